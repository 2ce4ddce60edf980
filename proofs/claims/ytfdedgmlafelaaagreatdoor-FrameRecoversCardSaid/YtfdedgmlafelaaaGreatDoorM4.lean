/-
  What an accepted graph is: its blocks, statements, expressions.
-/
import Derived.Test.YtfdedgmlafelaaaGreatDoorM3
import Derived.Test.YtfdedgmlafelaaaGreatDoorM2
import Derived.Test.YtfdedgmlafelaaaGreatDoorRows
import Derived.Test.YtfdedgmlafelaaaGreatDoorC1
import Derived.Deep.DeepHandedRow
import Derived.Lib.LaidTab
import Derived.MakeChecks
import Derived.LaidSub
import Derived.FnData
set_option linter.unusedVariables false
set_option linter.unusedSimpArgs false
namespace Go.Proofs.YtfdedgmlafelaaaGreatDoor
set_option linter.unusedSimpArgs false
open Go Go.AM
theorem firstErr_zero {e:D→Int}:∀{xs:List D},firstErr e xs=0→∀x∈xs,e x=0
 | [],_,x,h=>by cases h
 |y::ys,h,x,hx=>by
  unfold firstErr at h
  by_cases hy:e y=0
  ·rw[if_pos hy]at h
   rcases List.mem_cons.1 hx with rfl|hx
   ·exact hy
   ·exact firstErr_zero h x hx
  ·rw[if_neg hy]at h;exact absurd h hy
theorem fErr_zero {e:Nat→Int}:∀{k i:Nat},fErr e i k=0→∀j,i≤j→j<i+k→e j=0
 |0,i,_,j,h1,h2=>by omega
 |k+1,i,h,j,h1,h2=>by
  unfold fErr at h
  by_cases hy:e i=0
  ·rw[if_pos hy]at h
   by_cases hj:j=i
   ·subst hj;exact hy
   ·exact fErr_zero h j (by omega) (by omega)
  ·rw[if_neg hy]at h;exact absurd h hy
theorem expr_ok {d:D} (hd:d.size≤lim) (h:eExpr d=0) (h3:3≤qint (qfld d 0)) (h15:qint (qfld d 0)≤15):(qfld d 4).toList.length=2:=by
 obtain⟨h1,h2⟩:=fuel2 d 64
 obtain⟨a,b⟩:=deep_spec (fuelL [d, .int 64]) d 64 hd h1 (by omega) (by omega)
 obtain⟨c,f1,f2⟩:=formed_eq (fuelL [d]) d hd h2
 have e2:=(expr_eq hd).2
 rw[h,F111_eq,q144_eq,q145_eq]at e2
 simp only[a,b,f1,f2,qsome_s,qnth_s,List.getD_cons_zero,qbool_b,qnot_c,cond_true]at e2
 cases c with
 |false=>cases hh:deepS (fuelL [d, .int 64]) d 64<;>simp[hh]at e2
 |true=>
  obtain⟨N,hN⟩:∃N,fuelL [d]=N+1:=⟨fuelL [d]-1,by have:=fuel_two [d];omega⟩
  rw[hN,F145_s,Fb145_eq]at f2
  generalize l145_2 (F145 N) [d] [.int 0]=L at f2
  have hl:qlen (qfld d 4)=((qfld d 4).toList.length:Int):=qlen_c _
  generalize qint (qfld d 0)=o at *
  simp only[qcmp_eql,qcmp_geq,qcmp_leq,qiteB_c,hl,show¬o=1 by omega,show¬o=2 by omega,show¬o=16 by omega,show¬o=17 by omega,show¬o=18 by omega,show¬o=19 by omega,h3,h15,decide_true,decide_false,cond_true,cond_false]at f2
  cases hL:qsome L with
  |false=>simp[hL]at f2
  |true=>
   simp only[hL,cond_true]at f2
   cases hz:decide (qint (qnth L 0)=0)with
   |false=>simp[hz]at f2
   |true=>
    simp only[hz,cond_true,Option.some.injEq,List.cons.injEq,D.bool.injEq,and_true]at f2
    revert f2
    cases decide (qint (qfld d 1)=0)<;>cases decide (qint (qfld d 2)=0)<;>cases decide (qint (qfld d 3)=0)<;>simp
    intro f2;omega
theorem stmt_ok {s:D} (hs:s.size≤lim) (h:eStmt s=0) (h1:qint (qfld s 0)=1):(qfld s 6).toList.length=1∧∀x∈(qfld s 6).toList,eExpr x=0:=by
 obtain⟨hl,hx⟩:=exprsOf s hs
 have e2:=(stmt_eq hs).2
 have hh:=errLoop (st:=st72_4 [s]) (l:=s.fld 6) (c:=fun x=>q111 [x]) (e:=eExpr) (fun i=>by rw[st72_4_eq,qfld_eq]) hl (fun x hm=>by rw[q111_eq];exact(expr_eq (hx x hm)).2)
 rw[h,F72_eq,l72_4_eq,q110_eq,F110_eq]at e2
 simp only[h1,hh,qcmp_eql,qcmp_neq,qcmp_lss,qcmp_gtr,qiteB_c,show¬(1:Int)<1 by omega,show¬(10:Int)<1 by omega,show¬(1:Int)=2 by omega,decide_true,decide_false,cond_true,cond_false,qsome_s,qnth_s,List.getD_cons_zero,qint_i,errOut_2]at e2
 by_cases hn:(qfld s 6).toList.length=1
 ·refine⟨hn,?_⟩
  have hn':qlen (qfld s 6)=1:=by rw[qlen_c,hn];rfl
  simp only[hn',decide_true,Bool.not_true,cond_false]at e2
  by_cases hf:firstErr eExpr (s.fld 6).toList=0
  ·rw[qfld_eq];exact firstErr_zero hf
  ·have hz:decide (qint (qnth (some (errOut (firstErr eExpr (s.fld 6).toList))) 0)=0)=false:=by rw[← qcmp_eql,errOut_0];simp[hf]
   have e0:qint ((errOut (firstErr eExpr (s.fld 6).toList)).getD 0 .other)=qint (qnth (some (errOut (firstErr eExpr (s.fld 6).toList))) 0):=by rw[qnth_s]
   have e1:qint ((errOut (firstErr eExpr (s.fld 6).toList)).getD 1 .other)=firstErr eExpr (s.fld 6).toList:=by rw[← qnth_s];exact errOut_1 hf
   rw[e0]at e2
   simp only[hz,cond_false,e1,Option.some.injEq,List.cons.injEq,D.int.injEq,and_true]at e2
   exact absurd e2 hf
 ·have hn':¬qlen (qfld s 6)=1:=by rw[qlen_c];omega
  simp[hn']at e2
theorem graph_ok {g:D} (hg:g.size≤lim) (h:eGraph g=0):(qfld g 1).toList.length≠0∧(qfld g 1).toList.length≤256∧
 (∀i,i<(qfld g 1).toList.length→badB (qlen (qfld g 1)) (qget (qfld g 1) i)=false)∧∀i,i<(qfld g 1).toList.length→∀s∈(qfld (qget (qfld g 1) i) 1).toList,eStmt s=0:=by
 obtain⟨hl,hx⟩:=blocksOf hg
 have e2:=(graph_eq hg hg).2
 have s2:=sumLoop (st:=st35_5 [g]) (l:=qfld g 1) (fun s i=>by rw[st35_5_eq]) hl
 have hr:=anyFor (st:=st35_13 [g]) (n:=(qfld g 1).toList.length) (p:=fun i=>badB (qlen (qfld g 1)) (qget (qfld g 1) i)) (r1:=fun _=>[.int 1]) (r0:=[.int 0]) hl
  (fun i hi=>by
   rw[st35_13_eq,show qcmp .lss (i:Int) (qlen (qfld g 1))=true by rw[qcmp_lss,qlen_c];simp;omega,qinb_n hi,closed_r (hx _ (get_mem hi))]
   simp only[cond_true,qsome_s,qnth_s,List.getD_cons_zero,qbool_b,qnot_c,Bool.not_not])
  (by rw[st35_13_eq,show qcmp .lss ((qfld g 1).toList.length:Int) (qlen (qfld g 1))=false by rw[qcmp_lss,qlen_c];simp];rfl)
 have e1:=errFor (st:=st35_18 [g]) (n:=(qfld g 1).toList.length) (e:=fun i=>eBlock (qget (qfld g 1) i)) hl
  (fun i hi=>by
   rw[st35_18_eq,show qcmp .lss (i:Int) (qlen (qfld g 1))=true by rw[qcmp_lss,qlen_c];simp;omega,block_r hi (hx _ (get_mem hi)),errOut_0]
   simp only[cond_true,qsome_s]
   by_cases he:eBlock (qget (qfld g 1) i)=0
   ·simp[he]
   ·simp[he,errOut_1 he])
  (by rw[st35_18_eq,show qcmp .lss ((qfld g 1).toList.length:Int) (qlen (qfld g 1))=false by rw[qcmp_lss,qlen_c];simp];rfl)
 rw[h,q35_eq,F35_eq,l35_5_eq,l35_13_eq,l35_18_eq]at e2
 simp only[s2,e1]at e2
 generalize hsm:sumK (qfld g 1).toList 0=sm at e2
 generalize hfe:fErr (fun i=>eBlock (qget (qfld g 1) i)) 0 (qfld g 1).toList.length=fe at e2
 simp only[qsome_s,qnth_s,List.getD_cons_zero,List.getD_cons_succ,qint_i,qbool_b,qnot_c,qcmp_gtr,qcmp_eql,qiteB_c,cond_true,qlen_c]at e2
 have hz:decide (qint ((errOut fe).getD 0 .other)=0)=decide (fe=0):=by rw[← qnth_s, ← qcmp_eql];exact errOut_0
 by_cases hmx:256<((qfld g 1).toList.length:Int)
 ·simp[hmx]at e2
 by_cases hs1:1024<sm
 ·simp[hmx,hs1]at e2
 by_cases h0:(qfld g 1).toList.length=0
 ·simp[hmx,hs1,h0]at e2
 have h0':¬((qfld g 1).toList.length:Int)=0:=by omega
 simp only[hmx,hs1,h0',decide_false,cond_false]at e2
 rcases hr with⟨h1,h2⟩|⟨i,hi,hpi,_,h1⟩
 ·simp only[h1,qsome_s,qnth_s,List.getD_cons_zero,qint_i,decide_true,cond_true,hz]at e2
  by_cases hf:fe=0
  ·refine⟨h0,by omega,h2,fun i hi=>firstErr_zero ?_⟩
   exact fErr_zero (hfe.trans hf) i (Nat.zero_le _) (by omega)
  ·have e3:qint ((errOut fe).getD 1 .other)=fe:=by rw[← qnth_s];exact errOut_1 hf
   simp only[hf,decide_false,cond_false,e3,Option.some.injEq,List.cons.injEq,D.int.injEq,and_true]at e2
 ·simp[h1,qsome_s,qnth_s,qint_i]at e2
end Go.Proofs.YtfdedgmlafelaaaGreatDoor
namespace Go.Proofs.YtfdedgmlafelaaaGreatDoor
noncomputable section
set_option linter.unusedSimpArgs false
open Go Go.AM
theorem w32u (n:Int):qwrap .u32 n=n%4294967296:=by
 rw[qwrap_eq];show IntKind.wrap .u32 n=_
 unfold IntKind.wrap
 simp[IntKind.bits,IntKind.signed]
theorem w32 (n:Int):qwrap .i32 n=(n+2147483648)%4294967296-2147483648:=by
 rw[qwrap_eq];unfold IntKind.wrap
 simp[IntKind.bits,IntKind.signed]
 split<;>omega
theorem w64 (n:Int):qwrap .i64 n=(n+9223372036854775808)%18446744073709551616-9223372036854775808:=by
 rw[qwrap_eq];unfold IntKind.wrap
 simp[IntKind.bits,IntKind.signed]
 split<;>omega
theorem qiteI_c (c:Bool) (a b:Int):qiteI c a b=bif c then a else b:=by rw[qiteI_eq]
theorem add64' (a b:Int):qbin .add .i64 a b=(a+b+9223372036854775808)%18446744073709551616-9223372036854775808:=by
 rw[qbin_eq];show IntKind.wrap .i64 (a+b)=_
 rw[← w64,qwrap_eq]
theorem add32' (a b:Int):qbin .add .u32 a b=(a+b)%4294967296:=by
 rw[qbin_eq];show IntKind.wrap .u32 (a+b)=_
 rw[← w32u,qwrap_eq]
theorem sub32' (a b:Int):qbin .sub .u32 a b=(a-b)%4294967296:=by
 rw[qbin_eq];show IntKind.wrap .u32 (a-b)=_
 rw[← w32u,qwrap_eq]
theorem neg64' (a:Int):qun .neg .i64 a=(-a+9223372036854775808)%18446744073709551616-9223372036854775808:=by
 rw[qun_eq];show IntKind.wrap .i64 (0-a)=_
 rw[Int.zero_sub]
 rw[← w64,qwrap_eq]
def w (n:Int):Int:=(n+2147483648)%4294967296-2147483648
def spV (e:D):Bool:=decide (qint (qfld e 0)=2)&&decide (qint (qfld e 2)=7)
theorem sp_p (e:D):q105 [e]=some [.bool (spV e)]:=by
 rw[q105_eq,F105_eq];simp only[qcmp_eql,qiteB_c,spV];cases decide (qint (qfld e 0)=2)<;>rfl
theorem sp_r (e:D):q52 [e]=some [.bool (spV e)]:=by
 rw[q52_eq,F52_eq];simp only[qcmp_eql,qiteB_c,spV];cases decide (qint (qfld e 0)=2)<;>rfl
theorem wrap_p (n:Int):q64 [.int n]=some [.int (w n)]:=by
 rw[q64_eq,F64_eq,w64,w32,w32u]
 congr 3
 unfold w;omega
theorem sum_r (a b:Int):q75 [.int a, .int b]=some [.int (w (a+b))]:=by
 rw[q75_eq,F75_eq,add32',w64,w32,w32u,w32u]
 congr 3
 unfold w;omega
def isSt (e:D):Bool:=spV e||((decide (qint (qfld e 0)=3)||decide (qint (qfld e 0)=4))&&(spV (qget (qfld e 4) 0)&&decide (qint (qfld (qget (qfld e 4) 1) 0)=1)))
def stN (e:D):Int:=
 if spV e=true then 0 else if isSt e=true then(if qint (qfld e 0)=4 then w (- qint (qfld (qget (qfld e 4) 1) 1))else w (qint (qfld (qget (qfld e 4) 1) 1)))else 0
theorem st_p {e:D} (he:3≤qint (qfld e 0)→qint (qfld e 0)≤15→(qfld e 4).toList.length=2):q62 [e]=some [.int (stN e), .bool (isSt e)]:=by
 rw[q62_eq,F62_eq,sp_p]
 simp only[qsome_s,qnth_s,List.getD_cons_zero,qbool_b,cond_true,sp_p,wrap_p,qint_i,qcmp_eql,qcmp_neq,qiteB_c,qnot_c]
 have hw:w (qun .neg .i64 (qwrap .i64 (qint (qfld (qget (qfld e 4) 1) 1))))=w (- qint (qfld (qget (qfld e 4) 1) 1)):=by rw[neg64',w64];unfold w;omega
 have hw':w (qwrap .i64 (qint (qfld (qget (qfld e 4) 1) 1)))=w (qint (qfld (qget (qfld e 4) 1) 1)):=by rw[w64];unfold w;omega
 rw[hw,hw']
 unfold stN isSt
 cases h0:spV e with
 |true=>simp
 |false=>
  by_cases h34:qint (qfld e 0)=3∨qint (qfld e 0)=4
  ·have hl:=he (by omega) (by omega)
   have i0:qinb (qfld e 4) 0=true:=qinb_n (i:=0) (by omega)
   have i1:qinb (qfld e 4) 1=true:=qinb_n (i:=1) (by omega)
   rcases h34 with h|h<;>simp only[h,i0,i1,qand_c]<;>cases spV (qget (qfld e 4) 0)<;>cases h1:decide (qint (qfld (qget (qfld e 4) 1) 0)=1)<;>simp
  ·have h3:¬qint (qfld e 0)=3:=fun h=>h34 (.inl h)
   have h4:¬qint (qfld e 0)=4:=fun h=>h34 (.inr h)
   simp[h3,h4]
theorem st_r {e:D} (he:3≤qint (qfld e 0)→qint (qfld e 0)≤15→(qfld e 4).toList.length=2):q21 [e]=some [.int (stN e), .bool (isSt e)]:=by
 rw[q21_eq,F21_eq,sp_r]
 simp only[qsome_s,qnth_s,List.getD_cons_zero,qbool_b,cond_true,sp_r,qint_i,qcmp_eql,qcmp_neq,qiteB_c,qiteI_c,qnot_c]
 have hw:∀n,qwrap .i64 (qwrap .i32 n)=w n:=fun n=>by rw[w64,w32];unfold w;omega
 have hs:w (qbin .sub .u32 0 (qint (qfld (qget (qfld e 4) 1) 1)))=w (- qint (qfld (qget (qfld e 4) 1) 1)):=by rw[sub32'];unfold w;omega
 unfold stN isSt
 cases h0:spV e with
 |true=>simp
 |false=>
  by_cases h34:qint (qfld e 0)=3∨qint (qfld e 0)=4
  ·have hl:=he (by omega) (by omega)
   have i0:qinb (qfld e 4) 0=true:=qinb_n (i:=0) (by omega)
   have i1:qinb (qfld e 4) 1=true:=qinb_n (i:=1) (by omega)
   rcases h34 with h|h<;>simp only[h,i0,i1,qand_c]<;>cases spV (qget (qfld e 4) 0)<;>cases h1:decide (qint (qfld (qget (qfld e 4) 1) 0)=1)<;>simp[hw,hs,qiteI_c]
  ·have h3:¬qint (qfld e 0)=3:=fun h=>h34 (.inl h)
   have h4:¬qint (qfld e 0)=4:=fun h=>h34 (.inr h)
   simp[h3,h4]
def StOk (s:D):Prop:=qint (qfld s 0)=1→(qfld s 6).toList.length=1∧∀x∈(qfld s 6).toList,3≤qint (qfld x 0)→qint (qfld x 0)≤15→(qfld x 4).toList.length=2
theorem stok {s:D} (hs:s.size≤lim) (h:eStmt s=0):StOk s:=fun h1=>by
 obtain⟨l,e⟩:=stmt_ok hs h h1
 obtain⟨_,hx⟩:=exprsOf s hs
 exact⟨l,fun x hm=>expr_ok (hx x (by rw[qfld_eq]at hm;exact hm)) (e x hm)⟩
def aft (s:D) (d:Int):Option Int:=
 if qint (qfld s 0)=5 then some (w (d+4))else if qint (qfld s 0)=3∧qint (qfld s 1)=7 then none else
 if qint (qfld s 0)=1∧qint (qfld s 1)=7 then(if isSt (qget (qfld s 6) 0)=true then some (w (d+stN (qget (qfld s 6) 0)))else none)else some d
def Ans (r:Option (List D)) (a:Option Int):Prop:=∃x b,r=some [.int x, .bool b]∧a=if b=true then some x else none
theorem aft_p {s:D} (hs:StOk s) (d:Int):Ans (q30 [s, .int d]) (aft s d):=by
 rw[q30_eq,F30_eq]
 have hw:∀n,w (qbin .add .i64 d n)=w (d+n):=fun n=>by rw[add64'];unfold w;omega
 simp only[wrap_p,hw,qsome_s,qnth_s,List.getD_cons_zero,List.getD_cons_succ,qint_i,qbool_b,qcmp_eql,qiteB_c,cond_true]
 unfold aft
 by_cases h5:qint (qfld s 0)=5
 ·simp only[h5,decide_true,cond_true,if_true];exact⟨_,true,rfl,rfl⟩
 by_cases h3:qint (qfld s 0)=3∧qint (qfld s 1)=7
 ·simp only[h3.1,h3.2,decide_true,cond_true,and_self,if_true,show¬(3:Int)=5 by omega,decide_false,cond_false,if_false];exact⟨_,false,rfl,rfl⟩
 have h3':(bif decide (qint (qfld s 0)=3)then decide (qint (qfld s 1)=7)else false)=false:=by
  cases h:decide (qint (qfld s 0)=3)<;>simp_all
 simp only[h5,h3,h3',decide_false,cond_false,if_false]
 by_cases h1:qint (qfld s 0)=1∧qint (qfld s 1)=7
 ·obtain⟨hl,hx⟩:=hs h1.1
  have i0:qinb (qfld s 6) 0=true:=qinb_n (i:=0) (by omega)
  have hm:qget (qfld s 6) 0∈(qfld s 6).toList:=get_mem (i:=0) (by omega)
  simp only[h1.1,h1.2,decide_true,cond_true,and_self,if_true,i0,st_p (hx _ hm),qsome_s,qnth_s,List.getD_cons_zero,List.getD_cons_succ,qint_i,qbool_b]
  exact⟨_,_,rfl,rfl⟩
 have h1':(bif decide (qint (qfld s 0)=1)then decide (qint (qfld s 1)=7)else false)=false:=by
  cases h:decide (qint (qfld s 0)=1)<;>simp_all
 simp only[h1,h1',cond_false,if_false]
 exact⟨_,true,rfl,rfl⟩
theorem aft_r {s:D} (hs:StOk s) (d:Int):Ans (q38 [s, .int d]) (aft s d):=by
 rw[q38_eq,F38_eq]
 simp only[sum_r,qsome_s,qnth_s,List.getD_cons_zero,List.getD_cons_succ,qint_i,qbool_b,qcmp_eql,qiteB_c,cond_true]
 unfold aft
 by_cases h5:qint (qfld s 0)=5
 ·simp only[h5,decide_true,cond_true,if_true];exact⟨_,true,rfl,rfl⟩
 by_cases h3:qint (qfld s 0)=3∧qint (qfld s 1)=7
 ·simp only[h3.1,h3.2,decide_true,cond_true,and_self,if_true,show¬(3:Int)=5 by omega,decide_false,cond_false,if_false];exact⟨_,false,rfl,rfl⟩
 have h3':(bif decide (qint (qfld s 0)=3)then decide (qint (qfld s 1)=7)else false)=false:=by
  cases h:decide (qint (qfld s 0)=3)<;>simp_all
 simp only[h5,h3,h3',decide_false,cond_false,if_false]
 by_cases h1:qint (qfld s 0)=1∧qint (qfld s 1)=7
 ·obtain⟨hl,hx⟩:=hs h1.1
  have i0:qinb (qfld s 6) 0=true:=qinb_n (i:=0) (by omega)
  have hm:qget (qfld s 6) 0∈(qfld s 6).toList:=get_mem (i:=0) (by omega)
  simp only[h1.1,h1.2,decide_true,cond_true,and_self,if_true,i0,st_r (hx _ hm),qsome_s,qnth_s,List.getD_cons_zero,List.getD_cons_succ,qint_i,qbool_b]
  exact⟨_,_,rfl,rfl⟩
 have h1':(bif decide (qint (qfld s 0)=1)then decide (qint (qfld s 1)=7)else false)=false:=by
  cases h:decide (qint (qfld s 0)=1)<;>simp_all
 simp only[h1,h1',cond_false,if_false]
 exact⟨_,true,rfl,rfl⟩
def acr:List D→Int→Option Int
 | [],d=>some d
 |s::ss,d=>match aft s d with
  |some e=>acr ss e
  |none=>none
def acrOut:Option Int→List D
 |some e=>[.int 0, .int e]
 |none=>[.int 1]
theorem acrLoop {st:List D→Option (Sum (List D) (List D))} {l:D} {c:D→Int→Option (List D)} (hl:l.toList.length≤maxLen) (hc:∀x∈l.toList,∀d,Ans (c x d) (aft x d))
 (hst:∀(d:Int) (i:Nat),i<l.toList.length→st [.int d, .int i]=bif qsome (c (qget l i) d)then bif qnot (qbool (qnth (c (qget l i) d) 1))then some (.inr [.int 1])else some (.inl [.int (qint (qnth (c (qget l i) d) 0)), .int (qbin .add .i64 i 1)])else none)
 (h0:∀d:Int,st [.int d, .int l.toList.length]=some (.inr [.int 0, .int d])) (d:Int):loW st [.int d, .int 0]=some (acrOut (acr l.toList d)):=by
 unfold maxLen at hl
 have key:∀k i:Nat,∀d:Int,i+k=l.toList.length→loW st [.int d, .int i]=some (acrOut (acr (l.toList.drop i) d)):=by
  intro k
  induction k with
  |zero=>
   intro i d hi
   obtain rfl:i=l.toList.length:=by omega
   rw[loW_eq,h0,List.drop_of_length_le (Nat.le_refl _)];rfl
  |succ k ih=>
   intro i d hi
   have hlt:i<l.toList.length:=by omega
   have hg:qget l i=l.toList[i]:=by rw[qget_n,getD_lt hlt]
   obtain⟨x,b,h1,h2⟩:=hc (qget l i) (get_mem hlt) d
   rw[loW_eq,hst d i hlt,h1,List.drop_eq_getElem_cons hlt]
   simp only[acr]
   rw[← hg,h2]
   cases b with
   |false=>simp[qsome_s,qnth_s,qbool_b,qnot_c,acrOut]
   |true=>
    simp only[qsome_s,qnth_s,List.getD_cons_zero,List.getD_cons_succ,qbool_b,qnot_c,Bool.not_true,cond_true,cond_false,qint_i,if_true]
    rw[add_nat (by omega)]
    exact ih (i+1) x (by omega)
 exact key l.toList.length 0 d (by omega)
def BlOk (b:D):Prop:=(qfld b 1).toList.length≤maxLen∧∀s∈(qfld b 1).toList,StOk s
theorem acr_p {b:D} (hb:BlOk b) (d:Int):Ans (q61 [b, .int d]) (acr (qfld b 1).toList d):=by
 have h:=acrLoop (st:=st61_2 [qfld b 1, .int (qlen (qfld b 1))]) (l:=qfld b 1) (c:=fun x d=>q30 [x, .int d]) hb.1 (fun x hx d=>aft_p (hb.2 x hx) d)
  (fun d i hi=>by rw[st61_2_eq,show qcmp .lss (i:Int) (qlen (qfld b 1))=true by rw[qcmp_lss,qlen_c];simp;omega,qinb_n hi];rfl)
  (fun d=>by rw[st61_2_eq,show qcmp .lss ((qfld b 1).toList.length:Int) (qlen (qfld b 1))=false by rw[qcmp_lss,qlen_c];simp];rfl) d
 have h':l61_2 [qfld b 1, .int (qlen (qfld b 1))] [.int d, .int 0]=some (acrOut (acr (qfld b 1).toList d)):=by rw[l61_2_eq];exact h
 rw[q61_eq,F61_eq,h']
 cases acr (qfld b 1).toList d with
 |some e=>exact⟨e,true,by simp[acrOut,qsome_s,qnth_s,qint_i,qcmp_eql],rfl⟩
 |none=>exact⟨0,false,by simp[acrOut,qsome_s,qnth_s,qint_i,qcmp_eql],rfl⟩
theorem acr_r {g a2 a3 a4:D} {a0:Int} {i:Nat} (hi:i<(qfld g 1).toList.length) (hb:BlOk (qget (qfld g 1) i)) (d:Int):l18_13 [.int a0, .int i,a2,a3,a4,g] [.int d, .int 0]=some (acrOut (acr (qfld (qget (qfld g 1) i) 1).toList d)):=by
 rw[l18_13_eq]
 exact acrLoop (st:=st18_13 [.int a0, .int i,a2,a3,a4,g]) (l:=qfld (qget (qfld g 1) i) 1) (c:=fun x d=>q38 [x, .int d]) hb.1 (fun x hx d=>aft_r (hb.2 x hx) d)
  (fun d k hk=>by rw[st18_13_eq,qinb_n hi,show qcmp .lss (k:Int) (qlen (qfld (qget (qfld g 1) i) 1))=true by rw[qcmp_lss,qlen_c];simp;omega,qinb_n hk];rfl)
  (fun d=>by rw[st18_13_eq,qinb_n hi,show qcmp .lss ((qfld (qget (qfld g 1) i) 1).toList.length:Int) (qlen (qfld (qget (qfld g 1) i) 1))=false by rw[qcmp_lss,qlen_c];simp];rfl) d
end
end Go.Proofs.YtfdedgmlafelaaaGreatDoor
namespace Go.Proofs.YtfdedgmlafelaaaGreatDoor
set_option linter.unusedSimpArgs false
open Go Go.AM
def dI (l:List Int):D:= .list (l.map .int)
def dB (l:List Bool):D:= .list (l.map .bool)
def dN (l:List Nat):D:= .list (l.map fun n:Nat=> .int (n:Int))
theorem len_I (l:List Int):qlen (dI l)=(l.length:Int):=by rw[qlen_c];simp[dI,D.toList]
theorem len_B (l:List Bool):qlen (dB l)=(l.length:Int):=by rw[qlen_c];simp[dB,D.toList]
theorem len_N (l:List Nat):qlen (dN l)=(l.length:Int):=by rw[qlen_c];simp[dN,D.toList]
theorem inb_I {l:List Int} {i:Nat} (h:i<l.length):qinb (dI l) (i:Int)=true:=qinb_n (by simpa[dI,D.toList]using h)
theorem inb_B {l:List Bool} {i:Nat} (h:i<l.length):qinb (dB l) (i:Int)=true:=qinb_n (by simpa[dB,D.toList]using h)
theorem inb_N {l:List Nat} {i:Nat} (h:i<l.length):qinb (dN l) (i:Int)=true:=qinb_n (by simpa[dN,D.toList]using h)
theorem get_I (l:List Int) (i:Nat):qint (qget (dI l) (i:Int))=gI l i:=by
 rw[qget_n,qint_eq];unfold gI dI
 simp only[D.toList,List.getD,List.getElem?_map]
 cases l[i]? <;>rfl
theorem get_B (l:List Bool) (i:Nat):qbool (qget (dB l) (i:Int))=gB l i:=by
 rw[qget_n,qbool_eq];unfold gB dB
 simp only[D.toList,List.getD,List.getElem?_map]
 cases l[i]? <;>rfl
theorem get_N {l:List Nat} {i:Nat} (h:i<l.length):qint (qget (dN l) (i:Int))=(l[i]:Int):=by
 rw[qget_n,qint_eq];unfold dN
 simp only[D.toList,List.getD,List.getElem?_map,List.getElem?_eq_getElem h]
 rfl
theorem set_I (l:List Int) (t:Nat) (e:Int):qset (dI l) (t:Int) (.int e)=dI (l.set t e):=by
 rw[qset_eq];unfold dI;simp[D.upd,D.toList,List.map_set]
theorem set_B (l:List Bool) (t:Nat) (e:Bool):qset (dB l) (t:Int) (.bool e)=dB (l.set t e):=by
 rw[qset_eq];unfold dB;simp[D.upd,D.toList,List.map_set]
theorem app_N (l:List Nat) (t:Nat):qapp (dN l) (.list [.int (t:Int)])=dN (l ++ [t]):=by
 rw[qapp_eq];unfold dN;simp[D.app,D.toList]
theorem sub_l (xs:List D) (m:Nat) (h:xs.length≤m):qsub (.list xs) 0 (m:Int) = .list xs:=by
 rw[qsub_eq];simp[D.sub,D.toList,List.take_of_length_le h]
theorem sub_I {l:List Int} {m:Nat} (h:l.length≤m):qsub (dI l) 0 (m:Int)=dI l:=sub_l _ _ (by simpa using h)
theorem sub_B {l:List Bool} {m:Nat} (h:l.length≤m):qsub (dB l) 0 (m:Int)=dB l:=sub_l _ _ (by simpa using h)
theorem sub_N {l:List Nat} {m:Nat} (h:l.length≤m):qsub (dN l) 0 (m:Int)=dN l:=sub_l _ _ (by simpa using h)
theorem cut_N (l:List Nat) (m:Nat):qsub (dN l) 0 (m:Int)=dN (l.take m):=by
 rw[qsub_eq];unfold dN;simp[D.sub,D.toList,List.map_take]
def nat (x:D):Nat:=x.toInt.toNat
noncomputable def visOut:Option (List Nat×List Bool×List Int)→List D
 |some (w,s,o)=>[.int 0,dN w,dB s,dI o]
 |none=>[.int 1]
noncomputable def visOut':Option (List Nat×List Bool×List Int)→List D
 |some (w,s,o)=>[.int 0,dN w,dI o,dB s]
 |none=>[.int 1]
structure Tg (n:Nat) (X:D):Prop where
 len:X.toList.length≤maxLen
 rng:∀x∈X.toList,0≤qint x∧qint x<n
theorem Tg.get {n:Nat} {X:D} (h:Tg n X) {i:Nat} (hi:i<X.toList.length):qint (qget X (i:Int))=(nat X.toList[i]:Int)∧nat X.toList[i]<n:=by
 have hm:=h.rng _ (List.getElem_mem hi)
 rw[qint_eq]at hm
 have e:qget X (i:Int)=X.toList[i]:=by rw[qget_n,getD_lt hi]
 rw[e,qint_eq]
 unfold nat
 omega
theorem mem_ok {n:Nat} (h:n≤100000):qmem (n:Int) 8=true:=qmem_ok h (by omega)
theorem step_p {g X:D} {e:Int} {n:Nat} (hn:n≤256) (hX:Tg n X) {i:Nat} (hi:i<X.toList.length) {w:List Nat} {s:List Bool} {o:List Int} (hs:s.length=n) (ho:o.length=n) (hw:w.length≤256):
 st28_11 [.int e,X, .int (qlen X),g] [.int i,dN w,dB s,dI o]=if gB s (nat X.toList[i])=true then(if gI o (nat X.toList[i])=e then some (.inl [.int ((i+1:Nat):Int),dN w,dB s,dI o])else some (.inr [.int 1]))
 else some (.inl [.int ((i+1:Nat):Int),dN (w ++ [nat X.toList[i]]),dB (s.set (nat X.toList[i]) true),dI (o.set (nat X.toList[i]) e)]):=by
 obtain⟨ht,hr⟩:=hX.get hi
 have hlen:=hX.len
 unfold maxLen at hlen
 generalize nat X.toList[i]=t at *
 have c0:qcmp .lss (i:Int) (qlen X)=true:=by rw[qcmp_lss,qlen_c];simp;omega
 have c1:qcmp .leq 0 (t:Int)=true:=by rw[qcmp_leq];simp
 have c2:qcmp .lss (t:Int) (qlen (dB s))=true:=by rw[qcmp_lss,len_B];simp;omega
 have c3:qcmp .lss (t:Int) (qlen (dI o))=true:=by rw[qcmp_lss,len_I];simp;omega
 have c4:qsub (qset (dI o) (t:Int) (.int e)) 0 (qlen (dI o))=dI (o.set t e):=by rw[set_I,len_I];exact sub_I (by simp)
 have c5:qsub (qset (dB s) (t:Int) (.bool true)) 0 (qlen (dB s))=dB (s.set t true):=by rw[set_B,len_B];exact sub_B (by simp)
 have c6:qsub (dN (w ++ [t])) 0 (qlen (dN (w ++ [t])))=dN (w ++ [t]):=by rw[len_N];exact sub_N (Nat.le_refl _)
 have c7:qsub (dN w) 0 (qlen (dN w))=dN w:=by rw[len_N];exact sub_N (Nat.le_refl _)
 have c8:qsub (dI o) 0 (qlen (dI o))=dI o:=by rw[len_I];exact sub_I (Nat.le_refl _)
 have c9:qsub (dB s) 0 (qlen (dB s))=dB s:=by rw[len_B];exact sub_B (Nat.le_refl _)
 have d1:qcmp .eql (qlen (dI o)) (qlen (dI (o.set t e)))=true:=by rw[qcmp_eql,len_I,len_I];simp
 have d2:qcmp .eql (qlen (dB s)) (qlen (dB (s.set t true)))=true:=by rw[qcmp_eql,len_B,len_B];simp
 have d3:qmem (qlen (dN (w ++ [t]))) 8=true:=by rw[len_N];exact mem_ok (by simp;omega)
 have i1:qinb (dB s) (t:Int)=true:=inb_B (by omega)
 have i2:qinb (dI o) (t:Int)=true:=inb_I (by omega)
 have a1:qbin .add .i64 (i:Int) 1=((i+1:Nat):Int):=add_nat (by omega)
 rw[st28_11_eq]
 simp only[ht,c0,c1,c2,c3,qinb_n hi,i1,i2,get_B,get_I,app_N,c4,c5,c6,c7,c8,c9,d1,d2,d3,qeqI_self,qand_c,qiteB_c,qnot_c,qcmp_neq,a1,cond_true,Bool.and_true,Bool.cond_self]
 cases gB s t with
 |true=>
  simp only[cond_true,if_true,Bool.not_true,cond_false]
  by_cases he:gI o t=e
  ·simp[he]
  ·simp[he]
 |false=>simp
theorem visit_p {g X:D} {e:Int} {n:Nat} (hn:n≤256) (hX:Tg n X):∀(k i:Nat) (w:List Nat) (s:List Bool) (o:List Int),i+k=X.toList.length→s.length=n→o.length=n→w.length+s.count false≤256→
 loW (st28_11 [.int e,X, .int (qlen X),g]) [.int i,dN w,dB s,dI o]=some (visOut (visit e ((X.toList.drop i).map nat) w s o))
 |0,i,w,s,o,hi,_,_,_=>by
  have c0:qcmp .lss (i:Int) (qlen X)=false:=by rw[qcmp_lss,qlen_c];simp;omega
  rw[loW_eq,st28_11_eq,c0,List.drop_of_length_le (by omega)];rfl
 |k+1,i,w,s,o,hi,hs,ho,hw=>by
  have hlt:i<X.toList.length:=by omega
  rw[loW_eq,step_p hn hX hlt hs ho (by omega),List.drop_eq_getElem_cons hlt]
  obtain⟨_,hr⟩:=hX.get hlt
  simp only[List.map_cons]
  unfold visit
  generalize nat X.toList[i]=t at *
  by_cases hg:gB s t=true
  ·simp only[hg,if_true]
   by_cases he:gI o t=e
   ·simp only[he,if_true]
    exact visit_p hn hX k (i+1) w s o (by omega) hs ho hw
   ·simp only[he,if_false];rfl
  ·simp only[hg,if_false]
   have:=cnt_set s t (by simpa using hg) (by omega)
   exact visit_p hn hX k (i+1) _ _ _ (by omega) (by simpa using hs) (by simpa using ho) (by simp only[List.length_append,List.length_cons,List.length_nil];omega)
theorem step_r {g X:D} {a0 e:Int} {n:Nat} (hn:n≤256) (hX:Tg n X) {i:Nat} (hi:i<X.toList.length) {w:List Nat} {s:List Bool} {o:List Int} (hs:s.length=n) (ho:o.length=n) (hw:w.length≤256):
 st18_21 [.int a0, .int e,X,g] [.int i,dN w,dI o,dB s]=if gB s (nat X.toList[i])=true then(if gI o (nat X.toList[i])=e then some (.inl [.int ((i+1:Nat):Int),dN w,dI o,dB s])else some (.inr [.int 1]))
 else some (.inl [.int ((i+1:Nat):Int),dN (w ++ [nat X.toList[i]]),dI (o.set (nat X.toList[i]) e),dB (s.set (nat X.toList[i]) true)]):=by
 obtain⟨ht,hr⟩:=hX.get hi
 have hlen:=hX.len
 unfold maxLen at hlen
 generalize nat X.toList[i]=t at *
 have c0:qcmp .lss (i:Int) (qlen X)=true:=by rw[qcmp_lss,qlen_c];simp;omega
 have c1:qcmp .leq 0 (t:Int)=true:=by rw[qcmp_leq];simp
 have c2:qcmp .lss (t:Int) (qlen (dB s))=true:=by rw[qcmp_lss,len_B];simp;omega
 have c3:qcmp .lss (t:Int) (qlen (dI o))=true:=by rw[qcmp_lss,len_I];simp;omega
 have d1:qcmp .eql (qlen (dI o)) (qlen (dI (o.set t e)))=true:=by rw[qcmp_eql,len_I,len_I];simp
 have d2:qcmp .eql (qlen (dB s)) (qlen (dB (s.set t true)))=true:=by rw[qcmp_eql,len_B,len_B];simp
 have d3:qmem (qlen (dN (w ++ [t]))) 8=true:=by rw[len_N];exact mem_ok (by simp;omega)
 have i1:qinb (dB s) (t:Int)=true:=inb_B (by omega)
 have i2:qinb (dI o) (t:Int)=true:=inb_I (by omega)
 have a1:qbin .add .i64 (i:Int) 1=((i+1:Nat):Int):=add_nat (by omega)
 rw[st18_21_eq]
 simp only[ht,c0,c1,c2,c3,qinb_n hi,i1,i2,get_B,get_I,app_N,set_I,set_B,d1,d2,d3,qeqI_self,qand_c,qiteB_c,qnot_c,qcmp_neq,a1,cond_true,Bool.and_true,Bool.cond_self]
 cases gB s t with
 |true=>
  simp only[cond_true,if_true,Bool.not_true,cond_false]
  by_cases he:gI o t=e
  ·simp[he]
  ·simp[he]
 |false=>simp
theorem visit_r {g X:D} {a0 e:Int} {n:Nat} (hn:n≤256) (hX:Tg n X):∀(k i:Nat) (w:List Nat) (s:List Bool) (o:List Int),i+k=X.toList.length→s.length=n→o.length=n→w.length+s.count false≤256→
 loW (st18_21 [.int a0, .int e,X,g]) [.int i,dN w,dI o,dB s]=some (visOut' (visit e ((X.toList.drop i).map nat) w s o))
 |0,i,w,s,o,hi,_,_,_=>by
  have c0:qcmp .lss (i:Int) (qlen X)=false:=by rw[qcmp_lss,qlen_c];simp;omega
  rw[loW_eq,st18_21_eq,c0,List.drop_of_length_le (by omega)];rfl
 |k+1,i,w,s,o,hi,hs,ho,hw=>by
  have hlt:i<X.toList.length:=by omega
  rw[loW_eq,step_r hn hX hlt hs ho (by omega),List.drop_eq_getElem_cons hlt]
  obtain⟨_,hr⟩:=hX.get hlt
  simp only[List.map_cons]
  unfold visit
  generalize nat X.toList[i]=t at *
  by_cases hg:gB s t=true
  ·simp only[hg,if_true]
   by_cases he:gI o t=e
   ·simp only[he,if_true]
    exact visit_r hn hX k (i+1) w s o (by omega) hs ho hw
   ·simp only[he,if_false];rfl
  ·simp only[hg,if_false]
   have:=cnt_set s t (by simpa using hg) (by omega)
   exact visit_r hn hX k (i+1) _ _ _ (by omega) (by simpa using hs) (by simpa using ho) (by simp only[List.length_append,List.length_cons,List.length_nil];omega)
end Go.Proofs.YtfdedgmlafelaaaGreatDoor
namespace Go.Proofs.YtfdedgmlafelaaaGreatDoor
noncomputable section
set_option linter.unusedSimpArgs false
open Go Go.AM
def blk (g:D) (b:Nat):D:=qget (qfld g 1) (b:Int)
def finG (g:D) (b:Nat) (d:Int):Option Int:=acr (qfld (blk g b) 1).toList d
def sucG (g:D) (b:Nat):List Nat:=(tgts (lastS (blk g b))).map nat
structure Gok (g:D) (n:Nat):Prop where
 n0:0<n
 n256:n≤256
 len:(qfld g 1).toList.length=n
 bl:∀b,b<n→BlOk (blk g b)
 tp:∀b,b<n→∃X,q22 [blk g b]=some [X]∧Tg n X∧X.toList.map nat=sucG g b
 tr:∀b,b<n→∃X,q48 [blk g b]=some [X]∧Tg n X∧X.toList.map nat=sucG g b
theorem Gok.suc {g:D} {n b:Nat} (G:Gok g n) (hb:b<n):∀t∈sucG g b,t<n:=fun t ht=>by
 obtain⟨X,_,hX,e⟩:=G.tr b hb
 rw[← e]at ht
 obtain⟨x,hx,rfl⟩:=List.mem_map.1 ht
 have:=hX.rng x hx
 rw[qint_eq]at this
 unfold nat;omega
theorem dfs_step {g:D} {n:Nat} (G:Gok g n) {b:Nat} {w:List Nat} {s:List Bool} {o:List Int} (hb:b<n) (hs:s.length=n) (ho:o.length=n) (hw:w.length+1+s.count false≤256):
 st28_4 [g] [dN (w ++ [b]),dB s,dI o]=match finG g b (gI o b)with
  |none=>some (.inr [.int 1])
  |some e=>match visit e (sucG g b) w s o with
   |none=>some (.inr [.int 1])
   |some (w2,s2,o2)=>some (.inl [dN w2,dB s2,dI o2]):=by
 have hl:qlen (dN (w ++ [b]))=((w.length+1:Nat):Int):=by rw[len_N];simp
 have c0:qcmp .gtr ((w.length+1:Nat):Int) 0=true:=by rw[qcmp_gtr,decide_eq_true_eq];omega
 have m:qbin .sub .i64 ((w.length+1:Nat):Int) 1=(w.length:Int):=by rw[sub64 (by omega) (by omega)];omega
 have c1:qcmp .leq 0 (w.length:Int)=true:=by rw[qcmp_leq];simp
 have c2:qcmp .lss (w.length:Int) ((w.length+1:Nat):Int)=true:=by rw[qcmp_lss];simp;omega
 have c3:qcmp .leq (w.length:Int) ((w.length+1:Nat):Int)=true:=by rw[qcmp_leq];simp;omega
 have i0:qinb (dN (w ++ [b])) (w.length:Int)=true:=inb_N (by simp)
 have gb:qint (qget (dN (w ++ [b])) (w.length:Int))=(b:Int):=by rw[get_N (by simp)];simp
 have i1:qinb (qfld g 1) (b:Int)=true:=qinb_n (by rw[G.len];exact hb)
 have c4:qcmp .leq 0 (b:Int)=true:=by rw[qcmp_leq];simp
 have c5:qcmp .lss (b:Int) (qlen (dI o))=true:=by rw[qcmp_lss,len_I];simp;omega
 have i2:qinb (dI o) (b:Int)=true:=inb_I (by omega)
 obtain⟨x,bb,h1,h2⟩:=acr_p (G.bl b hb) (gI o b)
 obtain⟨X,hX1,hX2,hX3⟩:=G.tp b hb
 have c7:qsub (dN (w ++ [b])) 0 (w.length:Int)=dN w:=by rw[cut_N];simp
 have c8:∀o:List Int,qsub (dI o) 0 (qlen (dI o))=dI o:=fun o=>by rw[len_I];exact sub_I (Nat.le_refl _)
 have c9:∀s:List Bool,qsub (dB s) 0 (qlen (dB s))=dB s:=fun s=>by rw[len_B];exact sub_B (Nat.le_refl _)
 have c10:∀s:List Nat,qsub (dN s) 0 (qlen (dN s))=dN s:=fun s=>by rw[len_N];exact sub_N (Nat.le_refl _)
 have d1:qcmp .eql (w.length:Int) (qlen (dN w))=true:=by rw[qcmp_eql,len_N];simp
 have hv:l28_11 [.int x,X, .int (qlen X),g] [.int 0,dN w,dB s,dI o]=some (visOut (visit x (sucG g b) w s o)):=by
  have:=visit_p (g:=g) (e:=x) G.n256 hX2 X.toList.length 0 w s o (by omega) hs ho (by omega)
  rw[List.drop_zero,hX3]at this
  rw[l28_11_eq];exact this
 have hf:finG g b (gI o b)=if bb=true then some x else none:=h2
 rw[hf,st28_4_eq]
 change q61 [qget (qfld g 1) (b:Int),_]=_ at h1
 change q22 [qget (qfld g 1) (b:Int)]=_ at hX1
 simp only[hl,c0,m,c1,c2,c3,i0,gb,i1,c4,c5,i2,get_I,h1,hX1,qsome_s,qnth_s,List.getD_cons_zero,List.getD_cons_succ,qbool_b,qint_i,qnot_c,c7,c8,c9,qeqI_self,d1,hv,cond_true]
 cases bb with
 |false=>simp
 |true=>
  simp only[Bool.not_true,cond_false,if_true]
  cases visit x (sucG g b) w s o with
  |none=>simp[visOut,qcmp_eql,qint_i]
  |some r=>
   obtain⟨w2,s2,o2⟩:=r
   simp[visOut,qcmp_eql,qint_i,c8,c9,c10]
def dfsOut:Option (List Bool×List Int)→List D
 |some (_,o)=>[.int 0,dI o]
 |none=>[.int 1]
theorem dfs {g:D} {n:Nat} (G:Gok g n):∀(m:Nat) (w:List Nat) (s:List Bool) (o:List Int),2*s.count false+w.length≤m→SInv (finG g) (sucG g) n w s o→w.length+s.count false≤n→
 ∃r,Good (finG g) (sucG g) n r∧loW (st28_4 [g]) [dN w,dB s,dI o]=some (dfsOut r):=by
 intro m
 induction m with
 |zero=>
  intro w s o hm inv _
  obtain rfl:w = []:=List.length_eq_zero_iff.1 (by omega)
  refine⟨some (s,o),inv.done,?_⟩
  have c0:qcmp .gtr (qlen (dN [])) 0=false:=by rw[qcmp_gtr,len_N];rfl
  rw[loW_eq,st28_4_eq,c0];rfl
 |succ m ih=>
  intro w s o hm inv hc
  rcases List.eq_nil_or_concat w with rfl|⟨w',b,rfl⟩
  ·refine⟨some (s,o),inv.done,?_⟩
   have c0:qcmp .gtr (qlen (dN [])) 0=false:=by rw[qcmp_gtr,len_N];rfl
   rw[loW_eq,st28_4_eq,c0];rfl
  ·simp only[List.concat_eq_append]at *
   have hb:=inv.pen b (by simp)
   simp only[List.length_append,List.length_cons,List.length_nil]at hm hc
   have h256:=G.n256
   rw[loW_eq,dfs_step G hb.1 inv.ls inv.lo (by omega)]
   cases hf:finG g b (gI o b)with
   |none=>exact⟨none,inv.bad _ _ _ (by simp) hf,rfl⟩
   |some e=>
    simp only
    cases hv:visit e (sucG g b) w' s o with
    |none=>exact⟨none,inv.bad2 _ _ _ (by simp) hf (G.suc hb.1) hv,rfl⟩
    |some r=>
     obtain⟨w2,s2,o2⟩:=r
     obtain⟨ne,h1,h2,h3⟩:=inv.step (P':=w') _ _ _ (b:=b) (by simp) (fun x hx=>by simpa[or_comm]using hx) (fun x hx=>by simp[hx]) hf (G.suc hb.1) hv
     subst h1
     simp only
     exact ih _ _ _ (by simp only[List.length_append];omega) h3 (by simp only[List.length_append];omega)
theorem bfs_step {g:D} {n:Nat} (G:Gok g n) {i b:Nat} {w:List Nat} {s:List Bool} {o:List Int} (hi:i<w.length) (hb:b<n) (hwb:w[i]=b) (hs:s.length=n) (ho:o.length=n) (hw:w.length+s.count false≤256):
 st18_8 [g] [.int i,dN w,dI o,dB s]=match finG g b (gI o b)with
  |none=>some (.inr [.int 1])
  |some e=>match visit e (sucG g b) w s o with
   |none=>some (.inr [.int 1])
   |some (w2,s2,o2)=>some (.inl [.int ((i+1:Nat):Int),dN w2,dI o2,dB s2]):=by
 have c0:qcmp .lss (i:Int) (qlen (dN w))=true:=by rw[qcmp_lss,len_N];simp;omega
 have c1:qcmp .leq 0 (i:Int)=true:=by rw[qcmp_leq];simp
 have i0:qinb (dN w) (i:Int)=true:=inb_N hi
 have gb:qint (qget (dN w) (i:Int))=(b:Int):=by rw[get_N hi,hwb]
 have i1:qinb (qfld g 1) (b:Int)=true:=qinb_n (by rw[G.len];exact hb)
 have c4:qcmp .leq 0 (b:Int)=true:=by rw[qcmp_leq];simp
 have c5:qcmp .lss (b:Int) (qlen (dI o))=true:=by rw[qcmp_lss,len_I];simp;omega
 have i2:qinb (dI o) (b:Int)=true:=inb_I (by omega)
 have hbl:b<(qfld g 1).toList.length:=by rw[G.len];exact hb
 have h1:=acr_r (a0:=(i:Int)) (a2:=dN w) (a3:=dI o) (a4:=dB s) hbl (G.bl b hb) (gI o b)
 obtain⟨X,hX1,hX2,hX3⟩:=G.tr b hb
 have a1:qbin .add .i64 (i:Int) 1=((i+1:Nat):Int):=add_nat (by omega)
 have hv:∀x,l18_21 [.int i, .int x,X,g] [.int 0,dN w,dI o,dB s]=some (visOut' (visit x (sucG g b) w s o)):=fun x=>by
  have:=visit_r (g:=g) (a0:=(i:Int)) (e:=x) G.n256 hX2 X.toList.length 0 w s o (by omega) hs ho hw
  rw[List.drop_zero,hX3]at this
  rw[l18_21_eq];exact this
 rw[st18_8_eq]
 change q48 [qget (qfld g 1) (b:Int)]=_ at hX1
 change l18_13 _ _=some (acrOut (finG g b (gI o b)))at h1
 simp only[c0,c1,i0,gb,i1,c4,c5,i2,get_I,h1,hX1,qsome_s,qnth_s,List.getD_cons_zero,List.getD_cons_succ,qint_i,cond_true]
 cases finG g b (gI o b)with
 |none=>simp[acrOut,qint_i,qcmp_eql]
 |some x=>
  simp only[acrOut,List.getD_cons_zero,List.getD_cons_succ,qint_i,qcmp_eql,decide_true,cond_true,hv,qsome_s,qnth_s,a1]
  cases visit x (sucG g b) w s o with
  |none=>simp[visOut',qint_i]
  |some r=>
   obtain⟨w2,s2,o2⟩:=r
   simp[visOut',qint_i]
theorem bfs {g:D} {n:Nat} (G:Gok g n):∀(m i:Nat) (w:List Nat) (s:List Bool) (o:List Int),i≤w.length→2*s.count false+(w.length-i)≤m→SInv (finG g) (sucG g) n (w.drop i) s o→w.length+s.count false≤n→
 ∃r,Good (finG g) (sucG g) n r∧loW (st18_8 [g]) [.int i,dN w,dI o,dB s]=some (dfsOut r):=by
 have stop:∀(w:List Nat) (s:List Bool) (o:List Int),SInv (finG g) (sucG g) n (w.drop w.length) s o→∃r,Good (finG g) (sucG g) n r∧loW (st18_8 [g]) [.int w.length,dN w,dI o,dB s]=some (dfsOut r):=fun w s o inv=>by
  rw[List.drop_length]at inv
  refine⟨some (s,o),inv.done,?_⟩
  have c0:qcmp .lss (w.length:Int) (qlen (dN w))=false:=by rw[qcmp_lss,len_N];simp
  rw[loW_eq,st18_8_eq,c0];rfl
 intro m
 induction m with
 |zero=>
  intro i w s o hi hm inv _
  obtain rfl:i=w.length:=by omega
  exact stop w s o inv
 |succ m ih=>
  intro i w s o hi hm inv hc
  by_cases hlt:i<w.length
  ·rw[List.drop_eq_getElem_cons hlt]at inv
   have hb:=inv.pen w[i] List.mem_cons_self
   have h256:=G.n256
   rw[loW_eq,bfs_step G hlt hb.1 rfl inv.ls inv.lo (by omega)]
   generalize hbe:w[i]=b at *
   cases hf:finG g b (gI o b)with
   |none=>exact⟨none,inv.bad _ _ _ (b:=b) (by simp) hf,rfl⟩
   |some e=>
    simp only
    cases hv:visit e (sucG g b) w s o with
    |none=>exact⟨none,inv.bad2 _ _ _ (b:=b) (by simp) hf (G.suc hb.1) hv,rfl⟩
    |some r=>
     obtain⟨w2,s2,o2⟩:=r
     obtain⟨ne,h1,h2,h3⟩:=inv.step (P':=w.drop (i+1)) _ _ _ (b:=b) (by simp) (fun x hx=>by simpa using hx) (fun x hx=>by simp[hx]) hf (G.suc hb.1) hv
     subst h1
     simp only
     refine ih (i+1) _ _ _ (by simp only[List.length_append];omega) (by simp only[List.length_append];omega) ?_ (by simp only[List.length_append];omega)
     rw[List.drop_append_of_le_length (by omega)]
     exact h3
  ·obtain rfl:i=w.length:=by omega
   exact stop w s o inv
def dOut:Option (List Bool×List Int)→List D
 |some (_,o)=>[dI o, .bool true]
 |none=>[.list [], .bool false]
theorem start_cnt {n:Nat} (hn:0<n):((List.replicate n false).set 0 true).count false+1=n:=by
 have:=cnt_set (List.replicate n false) 0 (by unfold gB;simp only[List.getD,List.getElem?_replicate];split<;>rfl) (by simpa using hn)
 rw[this];simp
theorem rep_B (n:Nat):qrep (n:Int) (.bool false)=dB (List.replicate n false):=by rw[qrep_eq];unfold dB;simp
theorem rep_I (n:Nat):qrep (n:Int) (.int 0)=dI (List.replicate n 0):=by rw[qrep_eq];unfold dI;simp
theorem q28_good {g:D} {n:Nat} (G:Gok g n):∃r,Good (finG g) (sucG g) n r∧q28 [g]=some (dOut r):=by
 have hn:=G.n0
 have h256:=G.n256
 have hc:=start_cnt hn
 obtain⟨r,hr,h⟩:=dfs G (2*n) [0] _ _ (by simp only[List.length_cons,List.length_nil];omega) (SInv.start hn) (by simp only[List.length_cons,List.length_nil];omega)
 refine⟨r,hr,?_⟩
 have h':l28_4 [g] [dN [0],dB ((List.replicate n false).set 0 true),dI (List.replicate n 0)]=some (dfsOut r):=by rw[l28_4_eq];exact h
 have hl:qlen (qfld g 1)=(n:Int):=by rw[qlen_c,G.len]
 have c1:qcmp .leq 0 (n:Int)=true:=by rw[qcmp_leq];simp
 have c2:qcmp .leq (n:Int) (n:Int)=true:=by rw[qcmp_leq];simp
 have c3:qmem (n:Int) 8=true:=qmem_ok (by omega) (by omega)
 have c4:qmem (n:Int) 1=true:=qmem_ok (by omega) (by omega)
 have c5:qcmp .leq 0 (0:Int)=true:=by rw[qcmp_leq];rfl
 have c6:qcmp .lss 0 (n:Int)=true:=by rw[qcmp_lss];simp;omega
 have i1:qinb (dB (List.replicate n false)) 0=true:=inb_B (i:=0) (by simpa using hn)
 have s1:qset (dB (List.replicate n false)) 0 (.bool true)=dB ((List.replicate n false).set 0 true):=set_B _ 0 _
 have s2:qsub (dB ((List.replicate n false).set 0 true)) 0 (n:Int)=dB ((List.replicate n false).set 0 true):=sub_B (by simp)
 have s3:qsub (dI (List.replicate n 0)) 0 (n:Int)=dI (List.replicate n 0):=sub_I (by simp)
 have e1:qcmp .eql (n:Int) (qlen (dI (List.replicate n 0)))=true:=by rw[qcmp_eql,len_I];simp
 have e2:qcmp .eql (n:Int) (qlen (dB ((List.replicate n false).set 0 true)))=true:=by rw[qcmp_eql,len_B];simp
 have n0:D.list [.int 0]=dN [0]:=rfl
 rw[q28_eq,F28_eq]
 simp only[hl,c1,c2,c3,c4,c5,c6,rep_B,rep_I,i1,s1,s2,s3,e1,e2,n0,h',qsome_s,qnth_s,cond_true]
 cases r with
 |none=>simp[dfsOut,dOut,qint_i,qcmp_eql]
 |some p=>obtain⟨s,o⟩:=p;simp[dfsOut,dOut,qint_i,qcmp_eql]
theorem q18_good {g:D} {n:Nat} (G:Gok g n) (hg:q35 [g]=some [.int 0]):∃r,Good (finG g) (sucG g) n r∧q18 [g]=some (dOut r):=by
 have hn:=G.n0
 have h256:=G.n256
 have hc:=start_cnt hn
 obtain⟨r,hr,h⟩:=bfs G (2*n) 0 [0] ((List.replicate n false).set 0 true) (List.replicate n 0) (by simp) (by simp only[List.length_cons,List.length_nil];omega) (by simpa using SInv.start hn) (by simp only[List.length_cons,List.length_nil];omega)
 refine⟨r,hr,?_⟩
 have h':l18_8 [g] [.int 0,dN [0],dI (List.replicate n 0),dB ((List.replicate n false).set 0 true)]=some (dfsOut r):=by rw[l18_8_eq];exact h
 have hl:qlen (qfld g 1)=(n:Int):=by rw[qlen_c,G.len]
 have c1:qcmp .leq 0 (n:Int)=true:=by rw[qcmp_leq];simp
 have c2:qcmp .leq (n:Int) (n:Int)=true:=by rw[qcmp_leq];simp
 have c3:qmem (n:Int) 8=true:=qmem_ok (by omega) (by omega)
 have c4:qmem (n:Int) 1=true:=qmem_ok (by omega) (by omega)
 have c5:qcmp .leq 0 (0:Int)=true:=by rw[qcmp_leq];rfl
 have c6:qcmp .lss 0 (n:Int)=true:=by rw[qcmp_lss];simp;omega
 have i1:qinb (dB (List.replicate n false)) 0=true:=inb_B (i:=0) (by simpa using hn)
 have s1:qset (dB (List.replicate n false)) 0 (.bool true)=dB ((List.replicate n false).set 0 true):=set_B _ 0 _
 have e1:qcmp .eql (n:Int) (qlen (dI (List.replicate n 0)))=true:=by rw[qcmp_eql,len_I];simp
 have e2:qcmp .eql (n:Int) (qlen (dB ((List.replicate n false).set 0 true)))=true:=by rw[qcmp_eql,len_B];simp
 have n0:D.list [.int 0]=dN [0]:=rfl
 rw[q18_eq,F18_eq,hg]
 simp only[hl,c1,c2,c3,c4,c5,c6,rep_B,rep_I,i1,s1,e1,e2,n0,h',qsome_s,qnth_s,List.getD_cons_zero,qint_i,qcmp_neq,decide_true,Bool.not_true,cond_true,cond_false]
 cases r with
 |none=>simp[dfsOut,dOut,qint_i,qcmp_eql]
 |some p=>obtain⟨s,o⟩:=p;simp[dfsOut,dOut,qint_i,qcmp_eql]
theorem same_deltas {g:D} {n:Nat} (G:Gok g n) (hg:q35 [g]=some [.int 0]):∃r,q28 [g]=some (dOut r)∧q18 [g]=some (dOut r)∧∀s o,r=some (s,o)→o.length=n:=by
 obtain⟨r,h1,h2⟩:=q28_good G
 obtain⟨r',h3,h4⟩:=q18_good G hg
 have he:=good_eq _ _ _ h1 h3
 refine⟨r,h2,?_,fun s o e=>by subst e;exact h1.2.1⟩
 rw[h4]
 cases r<;>cases r'<;>simp_all[dOut]
end
end Go.Proofs.YtfdedgmlafelaaaGreatDoor
namespace Go.Proofs.YtfdedgmlafelaaaGreatDoor
set_option linter.unusedSimpArgs false
open Go Go.AM
theorem bad_no {n:Int} {b:D} (h:badB n b=false):(qfld b 1).toList.length≠0∧∀x∈tgts (lastS b),0≤qint x∧qint x<n:=by
 unfold badB at h
 simp only[Bool.or_eq_false_iff,decide_eq_false_iff_not]at h
 obtain⟨h1,⟨_,_⟩,h2⟩:=h
 refine⟨h1,fun x hx=> ?_⟩
 have:=List.any_eq_false.1 h2 x hx
 unfold outside at this
 simp only[Bool.or_eq_true,decide_eq_true_eq,not_or]at this
 omega
theorem gok {g:D} (hg:g.size≤lim) (h:eGraph g=0):Gok g (qfld g 1).toList.length:=by
 obtain⟨h0,h256,hbad,hst⟩:=graph_ok hg h
 obtain⟨hl,hx⟩:=blocksOf hg
 have hb:∀b,b<(qfld g 1).toList.length→(blk g b).size≤lim:=fun b hb=>hx _ (get_mem hb)
 have hT:∀b,b<(qfld g 1).toList.length→(qfld (blk g b) 1).toList.length≠0∧∀X:D,X.toList=tgts (lastS (blk g b))→Tg (qfld g 1).toList.length X∧X.toList.map nat=sucG g b:=fun b hb'=>by
  obtain⟨b1,b2⟩:=bad_no (hbad b hb')
  refine⟨b1,fun X hX=>⟨⟨?_,fun x hm=> ?_⟩,by rw[hX];rfl⟩⟩
  ·rw[hX]
   exact tgts_len ((sz_el (hb b hb')).2 _ (last_mem b1))
  ·rw[hX]at hm
   have:=b2 x hm
   rw[qlen_c]at this;exact this
 refine⟨by omega,h256,rfl,fun b hb'=>⟨(sz_el (hb b hb')).1,fun s hs=>stok ((sz_el (hb b hb')).2 s hs) (hst b hb' s hs)⟩,fun b hb'=> ?_,fun b hb'=> ?_⟩
 ·obtain⟨b1,b2⟩:=hT b hb'
  have hs:=(sz_el (hb b hb')).2 _ (last_mem b1)
  obtain⟨X,e1,e2⟩:=tgts_p b1 (sz_el (hb b hb')).1 (by have h1:=len_lt (qfld (lastS (blk g b)) 7);have h2:=fld_le (lastS (blk g b)) 7;omega)
  exact⟨X,e1,b2 X e2⟩
 ·obtain⟨b1,b2⟩:=hT b hb'
  obtain⟨X,e1,e2⟩:=tgts_r (lastS (blk g b))
  refine⟨X,?_,b2 X e2⟩
  have hlm:=(sz_el (j:=1) (hb b hb')).1
  rw[q48_eq,F48_eq,last_ixO b1 hlm,qinb_n (by omega),show qget (qfld (blk g b) 1) (((qfld (blk g b) 1).toList.length-1:Nat):Int)=lastS (blk g b)from rfl,e1]
  have hz:qcmp .eql (qlen (qfld (blk g b) 1)) 0=false:=by rw[qcmp_eql,qlen_c,decide_eq_false_iff_not];omega
  simp[hz,qsome_s,qnth_s]
end Go.Proofs.YtfdedgmlafelaaaGreatDoor
namespace Go.Proofs.YtfdedgmlafelaaaGreatDoor
set_option linter.unusedSimpArgs false
open Go Go.AM
noncomputable def isStr (T:TypeId) (m:Nat):Bool:=match PG.underlying T with|some (.struct fs)=>Nat.beq fs.size m|_=>false
theorem conf_str {T:TypeId} {m:Nat} {d:D} (hT:isStr T m=true) (h:Conf PG T d):∃ds,d = .agg ds∧ds.length=m:=by
 unfold isStr at hT
 cases hu:PG.underlying T with
 |none=>rw[hu]at hT;cases hT
 |some td=>
  rw[hu]at hT
  cases h with
  |struct h1 hl hd=>
   rw[h1]at hu;cases hu
   exact⟨_,rfl,hl.trans (Nat.eq_of_beq_eq_true hT)⟩
  |int h1=>rw[h1]at hu;cases hu;cases hT
  |bool h1=>rw[h1]at hu;cases hu;cases hT
  |str h1=>rw[h1]at hu;cases hu;cases hT
  |slice h1=>rw[h1]at hu;cases hu;cases hT
  |array h1=>rw[h1]at hu;cases hu;cases hT
  |other h1=>unfold isOther at h1;rw[hu]at h1;cases td<;>simp_all
theorem conf_one {T:TypeId} {k:IntKind} {d:D} (hT:isInt T k=true) (h:Conf PG T d):d.size=1:=by
 unfold isInt at hT
 cases hu:PG.underlying T with
 |none=>rw[hu]at hT;cases hT
 |some td=>
  rw[hu]at hT
  cases h with
  |int h1=>simp only[D.size]
  |struct h1=>rw[h1]at hu;cases hu;cases hT
  |bool h1=>rw[h1]at hu;cases hu;cases hT
  |str h1=>rw[h1]at hu;cases hu;cases hT
  |slice h1=>rw[h1]at hu;cases hu;cases hT
  |array h1=>rw[h1]at hu;cases hu;cases hT
  |other h1=>unfold isOther at h1;rw[hu]at h1;cases td<;>simp_all
theorem conf_lst {T e:TypeId} {d:D} (hT:isSl T e=true) (h:Conf PG T d):d.size=1+D.sizes d.toList∧d.toList.length≤maxLen∧∀x∈d.toList,Conf PG e x:=by
 obtain⟨h1,⟨xs,rfl⟩,h2⟩:=qconfL_iff.1 (conf_list hT (qconf_iff.2 h))
 exact⟨by simp only[D.size,D.toList],h1,h2⟩
theorem fldC {T F:TypeId} {j:Nat} {d:D} (hT:isFld T j F=true) (h:Conf PG T d):Conf PG F (qfld d j):=qconf_iff.1 (conf_fld hT (qconf_iff.2 h))
theorem fld_agg (ds:List D) (j:Nat):qfld (.agg ds) j=ds.getD j .other:=by rw[qfld_eq];rfl
theorem i3:isInt 3 .i64=true:=by kernel_rfl
theorem i22:isInt 22 .u32=true:=by kernel_rfl
theorem s55:isSl 55 61=true:=by kernel_rfl
theorem s46:isSl 46 3=true:=by kernel_rfl
theorem s52:isSl 52 57=true:=by kernel_rfl
theorem s23:isSl 23 54=true:=by kernel_rfl
theorem t61:isStr 61 5=true:=by kernel_rfl
theorem t57:isStr 57 8=true:=by kernel_rfl
theorem t54:isStr 54 2=true:=by kernel_rfl
theorem t25:isStr 25 2=true:=by kernel_rfl
theorem f61_0:isFld 61 0 3=true:=by kernel_rfl
theorem f61_1:isFld 61 1 22=true:=by kernel_rfl
theorem f61_2:isFld 61 2 3=true:=by kernel_rfl
theorem f61_3:isFld 61 3 3=true:=by kernel_rfl
theorem f61_4:isFld 61 4 55=true:=by kernel_rfl
theorem f57_0:isFld 57 0 3=true:=by kernel_rfl
theorem f57_1:isFld 57 1 3=true:=by kernel_rfl
theorem f57_2:isFld 57 2 3=true:=by kernel_rfl
theorem f57_3:isFld 57 3 3=true:=by kernel_rfl
theorem f57_4:isFld 57 4 3=true:=by kernel_rfl
theorem f57_5:isFld 57 5 22=true:=by kernel_rfl
theorem f57_6:isFld 57 6 55=true:=by kernel_rfl
theorem f57_7:isFld 57 7 46=true:=by kernel_rfl
theorem f54_0:isFld 54 0 22=true:=by kernel_rfl
theorem f54_1:isFld 54 1 52=true:=by kernel_rfl
theorem f25_0:isFld 25 0 22=true:=by kernel_rfl
theorem f25_1:isFld 25 1 23=true:=by kernel_rfl
theorem len2 {ds:List D} (h:ds.length=2):ds = [ds.getD 0 .other,ds.getD 1 .other]:=by
 match ds,h with
 | [a,b],_=>rfl
theorem len5 {ds:List D} (h:ds.length=5):ds = [ds.getD 0 .other,ds.getD 1 .other,ds.getD 2 .other,ds.getD 3 .other,ds.getD 4 .other]:=by
 match ds,h with
 | [a,b,c,d,e],_=>rfl
theorem len8 {ds:List D} (h:ds.length=8):ds = [ds.getD 0 .other,ds.getD 1 .other,ds.getD 2 .other,ds.getD 3 .other,ds.getD 4 .other,ds.getD 5 .other,ds.getD 6 .other,ds.getD 7 .other]:=by
 match ds,h with
 | [a,b,c,d,e,f,g,i],_=>rfl
theorem expr_size {d:D} (h:Conf PG 61 d):d.size=6+D.sizes (qfld d 4).toList:=by
 have a0:=conf_one i3 (fldC f61_0 h)
 have a1:=conf_one i22 (fldC f61_1 h)
 have a2:=conf_one i3 (fldC f61_2 h)
 have a3:=conf_one i3 (fldC f61_3 h)
 have a4:=(conf_lst s55 (fldC f61_4 h)).1
 obtain⟨ds,rfl,hl⟩:=conf_str t61 h
 simp only[fld_agg]at *
 have:D.size (.agg ds)=1+D.sizes ds:=by simp only[D.size]
 rw[this,len5 hl]
 simp only[D.sizes,List.getD_cons_zero,List.getD_cons_succ]
 omega
theorem stmt_size {d:D} (h:Conf PG 57 d):d.size=9+D.sizes (qfld d 6).toList+D.sizes (qfld d 7).toList:=by
 have a0:=conf_one i3 (fldC f57_0 h)
 have a1:=conf_one i3 (fldC f57_1 h)
 have a2:=conf_one i3 (fldC f57_2 h)
 have a3:=conf_one i3 (fldC f57_3 h)
 have a4:=conf_one i3 (fldC f57_4 h)
 have a5:=conf_one i22 (fldC f57_5 h)
 have a6:=(conf_lst s55 (fldC f57_6 h)).1
 have a7:=(conf_lst s46 (fldC f57_7 h)).1
 obtain⟨ds,rfl,hl⟩:=conf_str t57 h
 simp only[fld_agg]at *
 have:D.size (.agg ds)=1+D.sizes ds:=by simp only[D.size]
 rw[this,len8 hl]
 simp only[D.sizes,List.getD_cons_zero,List.getD_cons_succ]
 omega
theorem block_size {d:D} (h:Conf PG 54 d):d.size=3+D.sizes (qfld d 1).toList:=by
 have a0:=conf_one i22 (fldC f54_0 h)
 have a1:=(conf_lst s52 (fldC f54_1 h)).1
 obtain⟨ds,rfl,hl⟩:=conf_str t54 h
 simp only[fld_agg]at *
 have:D.size (.agg ds)=1+D.sizes ds:=by simp only[D.size]
 rw[this,len2 hl]
 simp only[D.sizes,List.getD_cons_zero,List.getD_cons_succ]
 omega
theorem graph_size {d:D} (h:Conf PG 25 d):d.size=3+D.sizes (qfld d 1).toList:=by
 have a0:=conf_one i22 (fldC f25_0 h)
 have a1:=(conf_lst s23 (fldC f25_1 h)).1
 obtain⟨ds,rfl,hl⟩:=conf_str t25 h
 simp only[fld_agg]at *
 have:D.size (.agg ds)=1+D.sizes ds:=by simp only[D.size]
 rw[this,len2 hl]
 simp only[D.sizes,List.getD_cons_zero,List.getD_cons_succ]
 omega
theorem sizes_ones:∀xs:List D,(∀x∈xs,x.size=1)→D.sizes xs=xs.length
 | [],_=>rfl
 |x::xs,h=>by
  have h1:=h x (by simp)
  have h2:=sizes_ones xs (fun y hy=>h y (by simp[hy]))
  simp only[D.sizes,List.length_cons,h1,h2];omega
theorem nodes:∀(N:Nat) (d:D) (most left:Int),Conf PG 61 d→d.size<N→(-1000000≤most∧most≤1000000)→left≤20000→
 ∃r,F54 N [d, .int most, .int left]=some [.int r]∧(r≤left∨r = -1)∧(0≤r→(d.size:Int)≤6*(left-r)):=by
 intro N
 induction N with
 |zero=>intro d _ _ _ h;omega
 |succ N ih=>
  intro d most left hd hs hm hl
  obtain⟨_,hlen,hx⟩:=conf_lst s55 (fldC f61_4 hd)
  have hsz:=expr_size hd
  rw[F54_s,Fb54_eq]
  simp only[qlen_c,qiteB_c,qcmp_lss,qcmp_gtr]
  by_cases hg:most<1∨left<1∨(4:Int)<((qfld d 4).toList.length:Int)
  ·refine⟨-1,?_, .inr rfl,by omega⟩
   have:(bif bif decide (most<1)then true else decide (left<1)then true else decide ((4:Int)<((qfld d 4).toList.length:Int)))=true:=by
    rcases hg with h|h|h<;>simp[h]
   rw[this];rfl
  ·have g1:¬most<1:=fun h=>hg (.inl h)
   have g2:¬left<1:=fun h=>hg (.inr (.inl h))
   have g3:¬(4:Int)<((qfld d 4).toList.length:Int):=fun h=>hg (.inr (.inr h))
   simp only[g1,g2,g3,decide_false,cond_false]
   have key:∀k i:Nat,i+k=(qfld d 4).toList.length→∀n:Int,n≤20000→∃r,loW (st54_5 (F54 N) [.int most,d]) [.int n, .int i]=some [.int 0, .int r]∧(r≤n∨r = -1)∧(0≤r→(D.sizes ((qfld d 4).toList.drop i):Int)≤6*(n-r)):=by
    intro k
    induction k with
    |zero=>
     intro i hi n hn
     rw[loW_eq,st54_5_eq,List.drop_of_length_le (by omega)]
     simp only[qlen_c,qiteB_c,qcmp_lss,show¬((i:Int)<((qfld d 4).toList.length:Int))by omega,decide_false,cond_false]
     exact⟨n,rfl, .inl (Int.le_refl _),fun _=>by simp only[D.sizes];omega⟩
    |succ k ihk=>
     intro i hi n hn
     rw[loW_eq,st54_5_eq]
     have hlt:i<(qfld d 4).toList.length:=by omega
     simp only[qlen_c,qiteB_c,qcmp_lss,qcmp_geq,show((i:Int)<((qfld d 4).toList.length:Int))by omega,decide_true,cond_true]
     by_cases h0:0≤n
     ·have hmem:=get_mem hlt
      have hge:qget (qfld d 4) (i:Int)=(qfld d 4).toList[i]:=by rw[qget_n,getD_lt hlt]
      obtain⟨r,hr,hr1,hr2⟩:=ih (qget (qfld d 4) (i:Int)) (most-1) n (hx _ hmem) (by have:=elem_le hmem;have:=fld_le d 4;have h9:D.size (qget (qfld d 4) (i:Int))≤D.sizes (qfld d 4).toList:=by{rw[hge];exact sizes_get (List.getElem?_eq_getElem hlt)};omega) (by omega) hn
      have hsub:qbin .sub .i64 most 1=most-1:=sub64 (by omega) (by omega)
      obtain⟨r',hr',hr1',hr2'⟩:=ihk (i+1) (by omega) r (by omega)
      refine⟨r',by simp only[h0,decide_true,cond_true,qinb_n hlt,hsub,hr,qsome_s,qnth_s,List.getD_cons_zero,qint_i,add_nat (show i<9223372036854775807 by omega),hr'],by omega,fun h=> ?_⟩
      rw[List.drop_eq_getElem_cons hlt, ← hge]
      simp only[D.sizes]
      have:=hr2' h
      have:=hr2 (by omega)
      omega
     ·exact⟨n,by simp only[h0,decide_false,cond_false], .inl (Int.le_refl _),fun h=>absurd h h0⟩
   obtain⟨r,h1,h2,h3⟩:=key (qfld d 4).toList.length 0 (by omega) (left-1) (by omega)
   have hsub:qbin .sub .i64 left 1=left-1:=sub64 (by omega) (by omega)
   refine⟨r,?_,by omega,fun h=> ?_⟩
   ·rw[l54_5_eq,hsub]
    have h1':loW (st54_5 (F54 N) [.int most,d]) [.int (left-1), .int 0]=some [.int 0, .int r]:=h1
    simp only[h1',qsome_s,qnth_s,List.getD_cons_zero,List.getD_cons_succ,qint_i,cond_true]
   ·have:=h3 h
    rw[List.drop_zero]at this
    omega
theorem nodes' {d:D} {left:Int} (hd:Conf PG 61 d) (hl:left≤20000):∃r,q54 [d, .int 70, .int left]=some [.int r]∧(r≤left∨r = -1)∧(0≤r→(d.size:Int)≤6*(left-r)):=by
 rw[q54_eq]
 exact nodes _ d 70 left hd (fuel_in (by simp)) (by omega) hl
theorem loopE {s g:D} {a b:Int} (hs:Conf PG 57 s) (hlen:(qfld s 6).toList.length≤4):∀(k i:Nat) (left:Int),i+k=(qfld s 6).toList.length→0≤left→left≤20000→
 loW (st25_16 [.int 70, .int a, .int b,s,g]) [.int left, .int i]=some [.int 1]∨∃r,loW (st25_16 [.int 70, .int a, .int b,s,g]) [.int left, .int i]=some [.int 0, .int r]∧0≤r∧r≤left∧(D.sizes ((qfld s 6).toList.drop i):Int)≤6*(left-r):=by
 intro k
 induction k with
 |zero=>
  intro i left hi h0 hl
  have c0:qcmp .lss (i:Int) (qlen (qfld s 6))=false:=by rw[qcmp_lss,qlen_c,decide_eq_false_iff_not];omega
  rw[loW_eq,st25_16_eq,c0,List.drop_of_length_le (by omega)]
  exact .inr ⟨left,rfl,h0,Int.le_refl _,by simp only[D.sizes];omega⟩
 |succ k ih=>
  intro i left hi h0 hl
  have hlt:i<(qfld s 6).toList.length:=by omega
  have c0:qcmp .lss (i:Int) (qlen (qfld s 6))=true:=by rw[qcmp_lss,qlen_c,decide_eq_true_eq];omega
  obtain⟨_,_,hx⟩:=conf_lst s55 (fldC f57_6 hs)
  have hge:qget (qfld s 6) (i:Int)=(qfld s 6).toList[i]:=by rw[qget_n,getD_lt hlt]
  obtain⟨r,h1,h2,h3⟩:=nodes' (hx _ (get_mem hlt)) hl
  rw[loW_eq,st25_16_eq,c0,qinb_n hlt,h1]
  simp only[qsome_s,qnth_s,List.getD_cons_zero,qint_i,qcmp_lss,cond_true]
  by_cases hr:r<0
  ·exact .inl (by simp[hr])
  ·simp only[hr,decide_false,cond_false,add_nat (show i<9223372036854775807 by omega)]
   rcases ih (i+1) r (by omega) (by omega) (by omega)with h|⟨r',h,e1,e2,e3⟩
   ·exact .inl h
   ·refine .inr ⟨r',h,e1,by omega,?_⟩
    rw[List.drop_eq_getElem_cons hlt, ← hge]
    simp only[D.sizes]
    have:=h3 (by omega)
    omega
theorem loopS {g:D} {b:Nat} (hb:b<(qfld g 1).toList.length) (hc:Conf PG 54 (blk g b)) (hlen:(qfld (blk g b) 1).toList.length≤1100):∀(k i:Nat) (left:Int),i+k=(qfld (blk g b) 1).toList.length→0≤left→left≤20000→
 loW (st25_10 [.int 70, .int b,g]) [.int left, .int i]=some [.int 1]∨∃r,loW (st25_10 [.int 70, .int b,g]) [.int left, .int i]=some [.int 0, .int r]∧0≤r∧r≤left∧(D.sizes ((qfld (blk g b) 1).toList.drop i):Int)≤109*(k:Int)+6*(left-r):=by
 intro k
 have hq:qget (qfld g 1) (b:Int)=blk g b:=rfl
 induction k with
 |zero=>
  intro i left hi h0 hl
  have c0:qcmp .lss (i:Int) (qlen (qfld (blk g b) 1))=false:=by rw[qcmp_lss,qlen_c,decide_eq_false_iff_not];omega
  rw[loW_eq,st25_10_eq,qinb_n hb,hq,c0,List.drop_of_length_le (by omega)]
  exact .inr ⟨left,rfl,h0,Int.le_refl _,by simp only[D.sizes];omega⟩
 |succ k ih=>
  intro i left hi h0 hl
  have hlt:i<(qfld (blk g b) 1).toList.length:=by omega
  have c0:qcmp .lss (i:Int) (qlen (qfld (blk g b) 1))=true:=by rw[qcmp_lss,qlen_c,decide_eq_true_eq];omega
  obtain⟨_,_,hx⟩:=conf_lst s52 (fldC f54_1 hc)
  have hge:qget (qfld (blk g b) 1) (i:Int)=(qfld (blk g b) 1).toList[i]:=by rw[qget_n,getD_lt hlt]
  have hs:=hx _ (get_mem hlt)
  have hsz:=stmt_size hs
  obtain⟨_,_,hcs⟩:=conf_lst s46 (fldC f57_7 hs)
  have hone:=sizes_ones _ (fun x hm=>conf_one i3 (hcs x hm))
  rw[loW_eq,st25_10_eq,qinb_n hb,hq,c0,qinb_n hlt]
  generalize qget (qfld (blk g b) 1) (i:Int)=s at *
  simp only[qlen_c,qcmp_gtr,qiteB_c,cond_true]
  by_cases h4:(4:Int)<((qfld s 6).toList.length:Int)
  ·exact .inl (by simp[h4])
  by_cases h100:(100:Int)<((qfld s 7).toList.length:Int)
  ·exact .inl (by simp[h4,h100])
  simp only[h4,h100,decide_false,cond_false]
  have hE:=loopE (g:=g) (a:=(b:Int)) (b:=(i:Int)) hs (by omega) (qfld s 6).toList.length 0 left (by omega) h0 hl
  have e0:∀ds,l25_16 [.int 70, .int b, .int i,s,g] ds=loW (st25_16 [.int 70, .int b, .int i,s,g]) ds:=fun ds=>by rw[l25_16_eq]
  rw[e0]
  rcases hE with h|⟨r,h,e1,e2,e3⟩
  ·have h':loW (st25_16 [.int 70, .int b, .int i,s,g]) [.int left, .int 0]=some [.int 1]:=h
   rw[h']
   exact .inl (by simp[qsome_s,qnth_s,qint_i,qcmp_eql])
  ·have h':loW (st25_16 [.int 70, .int b, .int i,s,g]) [.int left, .int 0]=some [.int 0, .int r]:=h
   rw[h']
   simp only[qsome_s,qnth_s,List.getD_cons_zero,List.getD_cons_succ,qint_i,qcmp_eql,decide_true,cond_true,add_nat (show i<9223372036854775807 by omega)]
   rcases ih (i+1) r (by omega) e1 (by omega)with h|⟨r',h,f1,f2,f3⟩
   ·exact .inl h
   ·refine .inr ⟨r',h,f1,by omega,?_⟩
    rw[List.drop_eq_getElem_cons hlt, ← hge]
    rw[List.drop_zero]at e3
    simp only[D.sizes]
    omega
theorem loopB {g:D} (hc:Conf PG 25 g) (hlen:(qfld g 1).toList.length≤300):∀(k i:Nat) (left:Int),i+k=(qfld g 1).toList.length→0≤left→left≤20000→
 loW (st25_5 [.int 70,g]) [.int left, .int i]=some [.int 1]∨(loW (st25_5 [.int 70,g]) [.int left, .int i]=some [.int 0]∧(D.sizes ((qfld g 1).toList.drop i):Int)≤119903*(k:Int)+6*left):=by
 intro k
 induction k with
 |zero=>
  intro i left hi h0 hl
  have c0:qcmp .lss (i:Int) (qlen (qfld g 1))=false:=by rw[qcmp_lss,qlen_c,decide_eq_false_iff_not];omega
  rw[loW_eq,st25_5_eq,c0,List.drop_of_length_le (by omega)]
  exact .inr ⟨rfl,by simp only[D.sizes];omega⟩
 |succ k ih=>
  intro i left hi h0 hl
  have hlt:i<(qfld g 1).toList.length:=by omega
  have c0:qcmp .lss (i:Int) (qlen (qfld g 1))=true:=by rw[qcmp_lss,qlen_c,decide_eq_true_eq];omega
  obtain⟨_,_,hx⟩:=conf_lst s23 (fldC f25_1 hc)
  have hq:qget (qfld g 1) (i:Int)=blk g i:=rfl
  have hge:qget (qfld g 1) (i:Int)=(qfld g 1).toList[i]:=by rw[qget_n,getD_lt hlt]
  have hs:Conf PG 54 (blk g i):=hx _ (get_mem hlt)
  have hsz:=block_size hs
  rw[loW_eq,st25_5_eq,c0,qinb_n hlt,hq]
  simp only[qlen_c,qcmp_gtr,cond_true]
  by_cases h4:(1100:Int)<((qfld (blk g i) 1).toList.length:Int)
  ·exact .inl (by simp[h4])
  simp only[h4,decide_false,cond_false]
  have hS:=loopS hlt hs (by omega) (qfld (blk g i) 1).toList.length 0 left (by omega) h0 hl
  have e0:∀ds,l25_10 [.int 70, .int i,g] ds=loW (st25_10 [.int 70, .int i,g]) ds:=fun ds=>by rw[l25_10_eq]
  rw[e0]
  rcases hS with h|⟨r,h,e1,e2,e3⟩
  ·have h':loW (st25_10 [.int 70, .int i,g]) [.int left, .int 0]=some [.int 1]:=h
   rw[h']
   exact .inl (by simp[qsome_s,qnth_s,qint_i,qcmp_eql])
  ·have h':loW (st25_10 [.int 70, .int i,g]) [.int left, .int 0]=some [.int 0, .int r]:=h
   rw[h']
   simp only[qsome_s,qnth_s,List.getD_cons_zero,List.getD_cons_succ,qint_i,qcmp_eql,decide_true,cond_true,add_nat (show i<9223372036854775807 by omega)]
   rcases ih (i+1) r (by omega) e1 (by omega)with h|⟨h,f3⟩
   ·exact .inl h
   ·refine .inr ⟨h,?_⟩
    rw[List.drop_eq_getElem_cons hlt, ← hge,hq]
    rw[List.drop_zero]at e3
    simp only[D.sizes]
    omega
theorem small {g:D} (hc:Conf PG 25 g):∃b,q25 [g, .int 70]=some [.bool b]∧(b=true→g.size≤lim):=by
 rw[q25_eq,F25_eq]
 simp only[qlen_c,qcmp_gtr]
 by_cases h3:(300:Int)<((qfld g 1).toList.length:Int)
 ·exact⟨false,by simp[h3],fun h=>by cases h⟩
 have hB:=loopB hc (by omega) (qfld g 1).toList.length 0 20000 (by omega) (by omega) (by omega)
 have e0:∀ds,l25_5 [.int 70,g] ds=loW (st25_5 [.int 70,g]) ds:=fun ds=>by rw[l25_5_eq]
 simp only[h3,decide_false,cond_false,e0]
 rcases hB with h|⟨h,e⟩
 ·have h':loW (st25_5 [.int 70,g]) [.int 20000, .int 0]=some [.int 1]:=h
  rw[h']
  exact⟨false,by simp[qsome_s,qnth_s,qint_i,qcmp_eql],fun h=>by cases h⟩
 ·have h':loW (st25_5 [.int 70,g]) [.int 20000, .int 0]=some [.int 0]:=h
  rw[h']
  refine⟨true,by simp[qsome_s,qnth_s,qint_i,qcmp_eql],fun _=> ?_⟩
  rw[List.drop_zero]at e
  rw[graph_size hc]
  unfold lim
  omega
theorem large {g:D} (hc:Conf PG 25 g):q8 [g]=some [.bool true]∨(q8 [g]=some [.bool false]∧g.size≤lim):=by
 obtain⟨b,h1,h2⟩:=small hc
 obtain⟨_,hlen,_⟩:=conf_lst s23 (fldC f25_1 hc)
 have key:∀(k i:Nat) (s:Int),i+k=(qfld g 1).toList.length→loW (st8_5 [g]) [.int s, .int i]=some [.int 0]∨loW (st8_5 [g]) [.int s, .int i]=some [.int 1]:=by
  unfold maxLen at hlen
  intro k
  induction k with
  |zero=>
   intro i s hi
   have c0:qcmp .lss (i:Int) (qlen (qfld g 1))=false:=by rw[qcmp_lss,qlen_c,decide_eq_false_iff_not];omega
   rw[loW_eq,st8_5_eq,c0]
   exact .inl rfl
  |succ k ih=>
   intro i s hi
   have hlt:i<(qfld g 1).toList.length:=by omega
   have c0:qcmp .lss (i:Int) (qlen (qfld g 1))=true:=by rw[qcmp_lss,qlen_c,decide_eq_true_eq];omega
   rw[loW_eq,st8_5_eq,c0,qinb_n hlt]
   simp only[cond_true]
   cases qcmp .gtr (qbin .add .i64 s (qlen (qfld (qget (qfld g 1) (i:Int)) 1))) 400 with
   |true=>exact .inr rfl
   |false=>
    simp only[cond_false,add_nat (show i<9223372036854775807 by omega)]
    exact ih (i+1) _ (by omega)
 have hk:=key (qfld g 1).toList.length 0 0 (by omega)
 rw[q8_eq,F8_eq,h1]
 have e0:∀ds,l8_5 [g] ds=loW (st8_5 [g]) ds:=fun ds=>by rw[l8_5_eq]
 simp only[e0,qsome_s,qnth_s,List.getD_cons_zero,qbool_b,qiteB_c,qnot_c,Bool.cond_self,cond_true]
 cases qcmp .gtr (qlen (qfld g 1)) 40 with
 |true=>exact .inl rfl
 |false=>
  cases b with
  |false=>exact .inl rfl
  |true=>
   have hk':loW (st8_5 [g]) [.int 0, .int 0]=some [.int 0]∨loW (st8_5 [g]) [.int 0, .int 0]=some [.int 1]:=hk
   rcases hk' with h|h<;>rw[h]
   ·exact .inr ⟨by simp[qsome_s,qnth_s,qint_i,qcmp_eql],h2 rfl⟩
   ·exact .inl (by simp[qsome_s,qnth_s,qint_i,qcmp_eql])
end Go.Proofs.YtfdedgmlafelaaaGreatDoor
namespace Go.Proofs.YtfdedgmlafelaaaGreatDoor
open Go Go.AM
theorem okT:okTypes PG=true:=by kernel_rfl
theorem pg:PG=Tryz.prog:=by unfold PG;rfl
theorem tabs {W:World} {E:Nat→Prop} {S:FunS} {p s:List D} (g:Nat) (cs:List AV) (hgl:(heapF S p s).glob g=some cs):g<W.heap.size∧GlRep E W g cs:=by
 have hp:(heapF S p s).glob g=none:=rfl
 rw[hp]at hgl;cases hgl
end Go.Proofs.YtfdedgmlafelaaaGreatDoor
namespace Go.Proofs.YtfdedgmlafelaaaGreatDoor
set_option linter.unusedSimpArgs false
open Go Go.AM
theorem out_p (x g:D):q148_148 [.int (qint x),g]=some [.bool (outside (qlen (qfld g 1)) x)]:=by
 rw[q148_148_eq,F148_148_eq];simp only[qiteB_c,qcmp_lss,qcmp_geq,outside];cases decide (qint x<0)<;>simp
theorem del_p {X g:D} (hl:X.toList.length≤maxLen) (h:∀x∈X.toList,0≤qint x∧qint x<qlen (qfld g 1)):q147_148 [X,g]=some [X]:=by
 have hn:X.toList.any (outside (qlen (qfld g 1)))=false:=by
  rw[List.any_eq_false]
  intro x hx
  have:=h x hx
  unfold outside
  simp only[Bool.or_eq_true,decide_eq_true_eq]
  omega
 have h1:l122_148_2 [X,g, .int (qlen X)] [.int 0]=some [.int 0]:=by
  rw[l122_148_2_eq]
  rcases idxLoop (st:=st122_148_2 [X,g, .int (qlen X)]) (l:=X) (c:=fun x=>q148_148 [.int (qint x),g]) (p:=outside (qlen (qfld g 1))) (r1:=fun i=>[.int 1, .int i]) (r0:=[.int 0]) (fun i=>by rw[st122_148_2_eq]) hl (fun x _=>out_p x g)with⟨h1,_⟩|⟨_,_,h2⟩
  ·exact h1
  ·rw[hn]at h2;cases h2
 rw[q147_148_eq,F147_148_eq,q122_148_eq,F122_148_eq,h1]
 simp only[qsome_s,qnth_s,List.getD_cons_zero,qint_i,qcmp_eql,decide_true,cond_true]
noncomputable def edg (g:D) (b:Nat):D:=qnth (q127 [g, .int b]) 0
theorem edg_p {g:D} (hg:g.size≤lim) (h:eGraph g=0) {b:Nat} (hb:b<(qfld g 1).toList.length):
 q127 [g, .int b]=some [edg g b]∧Tg (qfld g 1).toList.length (edg g b)∧(edg g b).toList.map nat=sucG g b:=by
 obtain⟨h0,h256,hbad,_⟩:=graph_ok hg h
 obtain⟨hl,hx⟩:=blocksOf hg
 have hsz:(blk g b).size≤lim:=hx _ (get_mem hb)
 have b1:(qfld (blk g b) 1).toList.length≠0:=(bad_no (hbad b hb)).1
 have b2:∀x∈tgts (lastS (blk g b)),0≤qint x∧qint x<qlen (qfld g 1):=(bad_no (hbad b hb)).2
 have hT:∀X:D,X.toList=tgts (lastS (blk g b))→Tg (qfld g 1).toList.length X∧X.toList.map nat=sucG g b:=fun X hX=>by
  refine⟨⟨?_,fun x hm=> ?_⟩,by rw[hX];rfl⟩
  ·rw[hX];exact tgts_len ((sz_el hsz).2 _ (last_mem b1))
  ·rw[hX]at hm
   have:=b2 x hm
   rw[qlen_c]at this;exact this
 suffices hs:∃X,q127 [g, .int b]=some [X]∧X.toList=tgts (lastS (blk g b))by
  obtain⟨X,e1,e2⟩:=hs
  have:edg g b=X:=by unfold edg;rw[e1,qnth_s];rfl
  rw[this]
  exact⟨e1,hT X e2⟩
 have hlm:=(sz_el (j:=1) hsz).1
 have hd:∀X:D,X.toList=tgts (lastS (blk g b))→q147_148 [X,g]=some [X]:=fun X hX=>by
  obtain⟨⟨t1,t2⟩,_⟩:=hT X hX
  exact del_p t1 (fun x hx=>by rw[qlen_c];exact t2 x hx)
 have hz:qcmp .eql (qlen (qfld (blk g b) 1)) 0=false:=by rw[qcmp_eql,qlen_c,decide_eq_false_iff_not];omega
 have hls:qget (qfld (blk g b) 1) (((qfld (blk g b) 1).toList.length-1:Nat):Int)=lastS (blk g b):=rfl
 have hss:=(sz_el hsz).2 _ (last_mem b1)
 have h7l:(qfld (lastS (blk g b)) 7).toList.length≤lim:=by have h1:=len_lt (qfld (lastS (blk g b)) 7);have h2:=fld_le (lastS (blk g b)) 7;omega
 rw[q127_eq,F127_eq,qinb_n hb,show qget (qfld g 1) (b:Int)=blk g b from rfl,hz,last_ixO b1 hlm,qinb_n (by omega),hls]
 simp only[cond_true,cond_false,qcmp_eql]
 unfold tgts at hd ⊢
 by_cases h6:qint (qfld (lastS (blk g b)) 0)=6
 ·have:=hd (.list [.int (qint (qfld (lastS (blk g b)) 3))]) (by simp[h6,tl_list])
  simp[h6,this,qsome_s,qnth_s,tl_list]
 by_cases h7:qint (qfld (lastS (blk g b)) 0)=7
 ·have:=hd (.list [.int (qint (qfld (lastS (blk g b)) 3)), .int (qint (qfld (lastS (blk g b)) 4))]) (by simp[h7,tl_list])
  simp[h7,this,qsome_s,qnth_s,tl_list]
 by_cases h8:qint (qfld (lastS (blk g b)) 0)=8
 ·have hq:q53 [qfld (lastS (blk g b)) 7]=some [qapp (.list []) (qfld (lastS (blk g b)) 7)]:=by
   rw[q53_eq]
   unfold F53
   have:qapp (.list []) (qfld (lastS (blk g b)) 7) = .list (qfld (lastS (blk g b)) 7).toList:=by rw[qapp_eq];simp[D.app,tl_list]
   simp only[List.headD_cons,this,qlen_c,tl_list]
   rw[qmem_eq]
   have hr:rmem ((qfld (lastS (blk g b)) 7).toList.length:Int) 8=true:=by
    simp[rmem];have hlim:lim=100000000:=rfl;omega
   rw[hr];rfl
  have ha:(qapp (.list []) (qfld (lastS (blk g b)) 7)).toList=(qfld (lastS (blk g b)) 7).toList:=by rw[qapp_eq];simp[D.app,tl_list]
  have:=hd (qapp (.list []) (qfld (lastS (blk g b)) 7)) (by rw[ha];simp[h8])
  simp[h8,hq,this,qsome_s,qnth_s,ha]
 have:=hd (.list []) (by simp[h6,h7,h8,tl_list])
 simp[h6,h7,h8,this,qsome_s,qnth_s,tl_list]
theorem all_p {g:D} (hg:g.size≤lim) (h:eGraph g=0):∃L:D,q96 [g]=some [L]∧L.toList.length=(qfld g 1).toList.length∧∀b,b<(qfld g 1).toList.length→qget L (b:Int)=edg g b:=by
 obtain⟨h0,h256,_,_⟩:=graph_ok hg h
 have key:∀(k i:Nat) (xs:List D),i+k=(qfld g 1).toList.length→xs.length=(qfld g 1).toList.length→(∀b,b<i→xs[b]? = some (edg g b))→
  ∃ys:List D,loW (st96_3 [.int (qlen (qfld g 1)),g]) [.int i, .list xs]=some [.int 0, .list ys]∧ys.length=(qfld g 1).toList.length∧∀b,b<(qfld g 1).toList.length→ys[b]? = some (edg g b):=by
  intro k
  induction k with
  |zero=>
   intro i xs hi hxl hx
   have c0:qcmp .lss (i:Int) (qlen (qfld g 1))=false:=by rw[qcmp_lss,qlen_c,decide_eq_false_iff_not];omega
   exact⟨xs,by rw[loW_eq,st96_3_eq,c0];rfl,hxl,fun b hb=>hx b (by omega)⟩
  |succ k ih=>
   intro i xs hi hxl hx
   have hlt:i<(qfld g 1).toList.length:=by omega
   have c0:qcmp .lss (i:Int) (qlen (qfld g 1))=true:=by rw[qcmp_lss,qlen_c,decide_eq_true_eq];omega
   have c1:qcmp .leq 0 (i:Int)=true:=by rw[qcmp_leq];simp
   have c2:qcmp .lss (i:Int) (qlen (.list xs))=true:=by rw[qcmp_lss,qlen_l,decide_eq_true_eq];omega
   have i0:qinb (.list xs) (i:Int)=true:=qinb_n (by simpa[tl_list]using by omega)
   have hs:qset (.list xs) (i:Int) (edg g i) = .list (xs.set i (edg g i)):=by rw[qset_eq];simp[D.upd,tl_list]
   have c3:qcmp .eql (qlen (.list xs)) (qlen (.list (xs.set i (edg g i))))=true:=by rw[qcmp_eql,qlen_l,qlen_l];simp
   obtain⟨ys,e1,e2,e3⟩:=ih (i+1) (xs.set i (edg g i)) (by omega) (by simpa using hxl) (fun b hb=>by
    rw[List.getElem?_set]
    by_cases hbi:i=b
    ·subst hbi;simp[show i<xs.length by omega]
    ·rw[if_neg hbi];exact hx b (by omega))
   refine⟨ys,?_,e2,e3⟩
   rw[loW_eq,st96_3_eq,c0,(edg_p hg h hlt).1]
   simp only[qsome_s,qnth_s,List.getD_cons_zero,c1,c2,i0,hs,c3,cond_true,add_nat (show i<9223372036854775807 by omega)]
   exact e1
 have hl:qlen (qfld g 1)=((qfld g 1).toList.length:Int):=qlen_c _
 have hr:qrep ((qfld g 1).toList.length:Int) (D.list []) = .list (List.replicate (qfld g 1).toList.length (D.list [])):=by rw[qrep_eq];simp
 obtain⟨ys,e1,e2,e3⟩:=key (qfld g 1).toList.length 0 (List.replicate (qfld g 1).toList.length (D.list [])) (by omega) (by simp) (fun b hb=>by omega)
 have e1':l96_3 [.int ((qfld g 1).toList.length:Int),g] [.int 0, .list (List.replicate (qfld g 1).toList.length (D.list []))]=some [.int 0, .list ys]:=by rw[l96_3_eq, ← hl];exact e1
 have c1:qcmp .leq 0 ((qfld g 1).toList.length:Int)=true:=by rw[qcmp_leq];simp
 have c2:qcmp .leq ((qfld g 1).toList.length:Int) ((qfld g 1).toList.length:Int)=true:=by rw[qcmp_leq];simp
 have c3:qmem ((qfld g 1).toList.length:Int) 24=true:=qmem_ok (by omega) (by omega)
 have c4:qcmp .eql ((qfld g 1).toList.length:Int) (qlen (.list (List.replicate (qfld g 1).toList.length (D.list []))))=true:=by rw[qcmp_eql,qlen_l];simp
 refine⟨.list ys,?_,e2,fun b hb=> ?_⟩
 ·rw[q96_eq,F96_eq]
  simp only[hl,hr,c1,c2,c3,c4,e1',qsome_s,qnth_s,List.getD_cons_zero,List.getD_cons_succ,cond_true]
 ·rw[qget_n,tl_list,List.getD,e3 b hb];rfl
structure DV (n:Nat) (suc:Nat→List Nat) (ts:List Nat) (s s':List Bool) (ne:List Nat):Prop where
 ls:s'.length=n
 old:∀b,gB s b=true→gB s' b=true
 at':∀t∈ts,gB s' t=true
 mem:∀b,gB s' b=true→gB s b=true∨b∈ne
 nb:∀b∈ne,b<n∧gB s' b=true
 cnt:ne.length+s'.count false=s.count false
 clo:∀b∈ne,∀t∈suc b,gB s' t=true
 sub:∀A:Nat→Prop,(∀b,A b→∀t∈suc b,A t)→(∀t∈ts,A t)→∀b∈ne,A b
section
variable {g L:D} {n:Nat} {suc:Nat→List Nat}
structure Edges (L:D) (n:Nat) (suc:Nat→List Nat):Prop where
 n256:n≤256
 len:L.toList.length=n
 tg:∀b,b<n→Tg n (qget L (b:Int))∧(qget L (b:Int)).toList.map nat=suc b
def VisOk (L:D) (n:Nat) (suc:Nat→List Nat) (Q:List D→Option (List D)) (N:Nat):Prop:=
 ∀(k:Nat) (post:List Nat) (s:List Bool),k<n→gB s k=false→s.length=n→s.count false≤N→post.length+s.count false≤256→
  ∃ne s',Q [L, .int k,dN post,dB s]=some [dN (post++ne),dB s']∧DV n suc [k] s s' ne
theorem vis_loop (hE:Edges L n suc) {Q:List D→Option (List D)} {N:Nat} (hQ:VisOk L n suc Q N) {X:D} (hX:Tg n X) {a:Int}:∀(m i:Nat) (post:List Nat) (s:List Bool),i+m=X.toList.length→s.length=n→s.count false≤N→post.length+s.count false≤256→
 ∃ne s',loW (st125_2 Q [.int a,X, .int (qlen X),L]) [.int i,dN post,dB s]=some [.int 0,dN (post++ne),dB s']∧DV n suc ((X.toList.drop i).map nat) s s' ne
 |0,i,post,s,hi,hs,_,_=>by
  have c0:qcmp .lss (i:Int) (qlen X)=false:=by rw[qcmp_lss,qlen_c];simp;omega
  refine⟨[],s,by rw[loW_eq,st125_2_eq,c0];simp,?_⟩
  rw[List.drop_of_length_le (by omega)]
  exact⟨hs,fun b h=>h,by simp,fun b h=> .inl h,by simp,by simp,by simp,fun _ _ _ b h=>by cases h⟩
 |m+1,i,post,s,hi,hs,hN,hp=>by
  have hlt:i<X.toList.length:=by omega
  obtain⟨ht,hr⟩:=hX.get hlt
  have hlen:=hX.len
  unfold maxLen at hlen
  have hd:(X.toList.drop i).map nat=nat X.toList[i]::(X.toList.drop (i+1)).map nat:=by rw[List.drop_eq_getElem_cons hlt];rfl
  generalize nat X.toList[i]=t at *
  have c0:qcmp .lss (i:Int) (qlen X)=true:=by rw[qcmp_lss,qlen_c];simp;omega
  have c1:qcmp .leq 0 (t:Int)=true:=by rw[qcmp_leq];simp
  have c2:qcmp .lss (t:Int) (qlen (dB s))=true:=by rw[qcmp_lss,len_B];simp;omega
  have i1:qinb (dB s) (t:Int)=true:=inb_B (by omega)
  have a1:qbin .add .i64 (i:Int) 1=((i+1:Nat):Int):=add_nat (by omega)
  rw[loW_eq,st125_2_eq,c0,qinb_n hlt,ht,c1,c2,i1,get_B,a1,hd]
  cases hg:gB s t with
  |true=>
   obtain⟨ne,s',e,v⟩:=vis_loop hE hQ hX m (i+1) post s (by omega) hs hN hp
   refine⟨ne,s',by simpa[qnot_c]using e,⟨v.ls,v.old,fun x hx=> ?_,v.mem,v.nb,v.cnt,v.clo,fun A h1 h2=>v.sub A h1 fun x hx=>h2 x (List.mem_cons_of_mem _ hx)⟩⟩
   rcases List.mem_cons.1 hx with rfl|hx
   ·exact v.old _ hg
   ·exact v.at' x hx
  |false=>
   obtain⟨ne1,s1,e1,v1⟩:=hQ t post s hr hg hs hN hp
   have hc1:=v1.cnt
   obtain⟨ne2,s2,e2,v2⟩:=vis_loop hE hQ hX m (i+1) (post++ne1) s1 (by omega) v1.ls (by omega) (by simp only[List.length_append];omega)
   have hc2:=v2.cnt
   refine⟨ne1++ne2,s2,?_,⟨v2.ls,fun b h=>v2.old b (v1.old b h),fun x hx=> ?_,fun b hb=> ?_,fun b hb=> ?_,by simp only[List.length_append];omega,fun b hb=> ?_,fun A h1 h2 b hb=> ?_⟩⟩
   ·simp only[qnot_c,Bool.not_false,cond_true,e1,qsome_s,qnth_s,List.getD_cons_zero,List.getD_cons_succ]
    rw[e2,List.append_assoc]
   ·rcases List.mem_cons.1 hx with rfl|hx
    ·exact v2.old _ (v1.at' _ (by simp))
    ·exact v2.at' x hx
   ·rcases v2.mem b hb with h|h
    ·rcases v1.mem b h with h|h
     ·exact .inl h
     ·exact .inr (by simp[h])
    ·exact .inr (by simp[h])
   ·rcases List.mem_append.1 hb with h|h
    ·exact⟨(v1.nb b h).1,v2.old b (v1.nb b h).2⟩
    ·exact v2.nb b h
   ·rcases List.mem_append.1 hb with h|h
    ·intro t' ht';exact v2.old _ (v1.clo b h t' ht')
    ·exact v2.clo b h
   ·rcases List.mem_append.1 hb with h|h
    ·exact v1.sub A h1 (fun x hx=>by simp only[List.mem_singleton]at hx;subst hx;exact h2 _ (by simp)) b h
    ·exact v2.sub A h1 (fun x hx=>h2 x (List.mem_cons_of_mem _ hx)) b h
theorem vis_body (hE:Edges L n suc) {Q:List D→Option (List D)} {N:Nat} (hQ:VisOk L n suc Q N):VisOk L n suc (Fb125 Q) (N+1):=by
 intro k post s hk hg hs hN hp
 have h256:=hE.n256
 obtain⟨hT,hS⟩:=hE.tg k hk
 have hcnt:=cnt_set s k hg (by omega)
 have c1:qcmp .leq 0 (k:Int)=true:=by rw[qcmp_leq];simp
 have c2:qcmp .lss (k:Int) (qlen (dB s))=true:=by rw[qcmp_lss,len_B];simp;omega
 have i1:qinb (dB s) (k:Int)=true:=inb_B (by omega)
 have i2:qinb L (k:Int)=true:=qinb_n (by rw[hE.len];exact hk)
 have s1:qset (dB s) (k:Int) (.bool true)=dB (s.set k true):=set_B _ _ _
 have d1:qcmp .eql (qlen (dB s)) (qlen (dB (s.set k true)))=true:=by rw[qcmp_eql,len_B,len_B];simp
 obtain⟨ne,s',e,v⟩:=vis_loop hE hQ hT (a:=(k:Int)) (qget L (k:Int)).toList.length 0 post (s.set k true) (by omega) (by simpa using hs) (by omega) (by omega)
 have hc:=v.cnt
 rw[List.drop_zero,hS]at v
 have e':l125_2 Q [.int (k:Int),qget L (k:Int), .int (qlen (qget L (k:Int))),L] [.int 0,dN post,dB (s.set k true)]=some [.int 0,dN (post++ne),dB s']:=by rw[l125_2_eq];exact e
 have d3:qmem (qlen (dN (post++ne ++ [k]))) 8=true:=by rw[len_N];exact mem_ok (by simp only[List.length_append,List.length_cons,List.length_nil];omega)
 have k1:∀b,gB (s.set k true) b=(decide (b=k)||gB s b):=fun b=>gB_set (by omega)
 have hks:gB s' k=true:=v.old k (by rw[k1];simp)
 refine⟨ne ++ [k],s',?_,⟨v.ls,fun b h=>v.old b (by rw[k1,h];simp),fun x hx=>by simp only[List.mem_singleton]at hx;subst hx;exact hks,fun b hb=> ?_,fun b hb=> ?_,by simp only[List.length_append,List.length_cons,List.length_nil];omega,fun b hb=> ?_,fun A h1 h2 b hb=> ?_⟩⟩
 ·rw[Fb125_eq]
  simp only[c1,c2,i1,i2,s1,d1,e',qsome_s,qnth_s,List.getD_cons_zero,List.getD_cons_succ,app_N,d3,cond_true]
  rw[List.append_assoc]
 ·rcases v.mem b hb with h|h
  ·rw[k1,Bool.or_eq_true,decide_eq_true_eq]at h
   rcases h with rfl|h
   ·exact .inr (by simp)
   ·exact .inl h
  ·exact .inr (by simp[h])
 ·rcases List.mem_append.1 hb with h|h
  ·exact v.nb b h
  ·simp only[List.mem_singleton]at h;subst h;exact⟨hk,hks⟩
 ·rcases List.mem_append.1 hb with h|h
  ·exact v.clo b h
  ·simp only[List.mem_singleton]at h;subst h;exact v.at'
 ·have hAk:A k:=h2 k (by simp)
  rcases List.mem_append.1 hb with h|h
  ·exact v.sub A h1 (h1 k hAk) b h
  ·simp only[List.mem_singleton]at h;subst h;exact hAk
theorem vis_all (hE:Edges L n suc):∀N,VisOk L n suc (F125 N) N
 |0=>fun k post s hk hg hs hN _=>by
  have hcnt:=cnt_set s k hg (by omega)
  omega
 |N+1=>by
  have:=vis_body hE (vis_all hE N)
  intro k post s hk hg hs hN hp
  rw[F125_s]
  exact this k post s hk hg hs hN hp
theorem vis_q (hE:Edges L n suc) {k:Nat} {post:List Nat} {s:List Bool} (hk:k<n) (hg:gB s k=false) (hs:s.length=n) (hp:post.length+s.count false≤256):
 ∃ne s',q125 [L, .int k,dN post,dB s]=some [dN (post++ne),dB s']∧DV n suc [k] s s' ne:=by
 have hf:s.count false≤fuelL [L, .int k,dN post,dB s]:=by
  have h1:=fuel_in (l:=[L, .int k,dN post,dB s]) (d:=dB s) (by simp)
  have h2:=cnt_le s
  have h3:=len_size (dB s)
  have h4:(dB s).toList.length=s.length:=by simp[dB,D.toList]
  omega
 rw[q125_eq]
 exact vis_all hE _ k post s hk hg hs hf hp
end
theorem rev_loop:∀(m:Nat) (i j:Nat) (l:List Nat),i+j+1=l.length∨(l = []∧i=0∧j=0)→j≤m+i→l.length≤100000→
 ∃l',loW (st126_1 []) [.int i, .int (if l = []then -1 else(j:Int)),dN l]=some [.int 0,dN l']∧l'.length=l.length∧∀x,x∈l'↔x∈l:=by
 intro m
 induction m with
 |zero=>
  intro i j l h hm _
  refine⟨l,?_,rfl,fun x=>Iff.rfl⟩
  have c0:qcmp .lss (i:Int) (if l = []then -1 else(j:Int))=false:=by rw[qcmp_lss,decide_eq_false_iff_not];split<;>omega
  rw[loW_eq,st126_1_eq,c0];rfl
 |succ m ih=>
  intro i j l h hm hb
  by_cases hij:i<j∧l≠[]
  ·obtain⟨hij,hne⟩:=hij
   have hl:i+j+1=l.length:=by
    rcases h with h|h
    ·exact h
    ·exact absurd h.1 hne
   have hil:i<l.length:=by omega
   have hjl:j<l.length:=by omega
   rw[if_neg hne]
   have c0:qcmp .lss (i:Int) (j:Int)=true:=by rw[qcmp_lss,decide_eq_true_eq];omega
   have c1:qcmp .leq 0 (j:Int)=true:=by rw[qcmp_leq];simp
   have c2:qcmp .lss (j:Int) (qlen (dN l))=true:=by rw[qcmp_lss,len_N,decide_eq_true_eq];omega
   have c3:qcmp .leq 0 (i:Int)=true:=by rw[qcmp_leq];simp
   have c4:qcmp .lss (i:Int) (qlen (dN l))=true:=by rw[qcmp_lss,len_N,decide_eq_true_eq];omega
   have s1:∀(l:List Nat) (t v:Nat),qset (dN l) (t:Int) (.int (v:Int))=dN (l.set t v):=fun l t v=>by rw[qset_eq];unfold dN;simp[D.upd,D.toList,List.map_set]
   have i3:qinb (dN (l.set i l[j])) (j:Int)=true:=inb_N (by simpa using hjl)
   have d1:qcmp .eql (qlen (dN l)) (qlen (dN ((l.set i l[j]).set j l[i])))=true:=by rw[qcmp_eql,len_N,len_N];simp
   have a1:qbin .add .i64 (i:Int) 1=((i+1:Nat):Int):=add_nat (by omega)
   have a2:qbin .sub .i64 (j:Int) 1=((j-1:Nat):Int):=by rw[sub64 (by omega) (by omega)];omega
   have hnl:((l.set i l[j]).set j l[i]).length=l.length:=by simp
   have hne':(l.set i l[j]).set j l[i]≠[]:=fun h=>by rw[h]at hnl;simp at hnl;omega
   obtain⟨l',e1,e2,e3⟩:=ih (i+1) (j-1) ((l.set i l[j]).set j l[i]) (.inl (by rw[hnl];omega)) (by omega) (by rw[hnl];exact hb)
   rw[if_neg hne']at e1
   refine⟨l',?_,by rw[e2,hnl],fun x=> ?_⟩
   ·rw[loW_eq,st126_1_eq,c0,c1,c2,inb_N hjl,c3,c4,inb_N hil,get_N hil,get_N hjl,s1,s1,i3,d1,a1,a2]
    exact e1
   ·rw[e3]
    constructor
    ·intro hx
     rcases List.mem_or_eq_of_mem_set hx with hx|rfl
     ·rcases List.mem_or_eq_of_mem_set hx with hx|rfl
      ·exact hx
      ·exact List.getElem_mem _
     ·exact List.getElem_mem _
    ·intro hx
     obtain⟨p,hp,rfl⟩:=List.getElem_of_mem hx
     by_cases h1:p=i
     ·subst h1;exact List.mem_iff_getElem.2 ⟨j,by simpa using hjl,by simp⟩
     ·by_cases h2:p=j
      ·subst h2;exact List.mem_iff_getElem.2 ⟨i,by simpa using hil,by rw[List.getElem_set_ne (by omega)];simp⟩
      ·exact List.mem_iff_getElem.2 ⟨p,by simpa using hp,by rw[List.getElem_set_ne (by omega),List.getElem_set_ne (by omega)]⟩
  ·refine⟨l,?_,rfl,fun x=>Iff.rfl⟩
   have c0:qcmp .lss (i:Int) (if l = []then -1 else(j:Int))=false:=by
    rw[qcmp_lss,decide_eq_false_iff_not]
    split
    ·omega
    ·rename_i hne;have:¬i<j:=fun h=>hij ⟨h,hne⟩;omega
   rw[loW_eq,st126_1_eq,c0];rfl
theorem rev_p {l:List Nat} (hb:l.length≤100000):∃l',q126 [dN l]=some [dN l']∧l'.length=l.length∧∀x,x∈l'↔x∈l:=by
 obtain⟨l',e1,e2,e3⟩:=rev_loop l.length 0 (l.length-1) l (by
  cases l with
  |nil=>right;simp
  |cons x l=>left;simp) (by omega) hb
 refine⟨l',?_,e2,e3⟩
 have a:qbin .sub .i64 (qlen (dN l)) 1=(if l = []then -1 else((l.length-1:Nat):Int)):=by
  rw[len_N,sub64 (by omega) (by omega)]
  split
  ·rename_i h;subst h;rfl
  ·rename_i h
   have:0<l.length:=List.length_pos_iff.2 h
   omega
 have e1':l126_1 [] [.int 0, .int (qbin .sub .i64 (qlen (dN l)) 1),dN l]=some [.int 0,dN l']:=by rw[l126_1_eq,a];exact e1
 rw[q126_eq,F126_eq,e1']
 simp[qsome_s,qnth_s]
theorem reach_p {g:D} (hg:g.size≤lim) (h:eGraph g=0):∃R:List Bool,q20 [g]=some [dB R]∧R.length=(qfld g 1).toList.length∧gB R 0=true∧(∀b,gB R b=true→b<(qfld g 1).toList.length∧∀t∈sucG g b,gB R t=true)∧
 ∀A:Nat→Prop,(∀b,A b→∀t∈sucG g b,A t)→A 0→∀b,gB R b=true→A b:=by
 obtain⟨h0,h256,_,_⟩:=graph_ok hg h
 obtain⟨L,l1,l2,l3⟩:=all_p hg h
 generalize hn:(qfld g 1).toList.length=n at *
 have hE:Edges L n (sucG g):=⟨h256,l2,fun b hb=>by
  have:=edg_p hg h (b:=b) (by rw[hn];exact hb)
  rw[hn]at this
  rw[l3 b hb]
  exact this.2⟩
 have hf:∀b,gB (List.replicate n false) b=false:=fun b=>by
  unfold gB
  simp only[List.getD,List.getElem?_replicate]
  split<;>rfl
 obtain⟨ne,s',e1,v⟩:=vis_q hE (k:=0) (post:=[]) (s:=List.replicate n false) (by omega) (hf 0) (by simp) (by simp;omega)
 have hcnt:=v.cnt
 rw[List.count_replicate_self]at hcnt
 obtain⟨l',r1,r2,r3⟩:=rev_p (l:=ne) (by omega)
 have mark:∀(k i:Nat) (s:List Bool),i+k=l'.length→s.length=n→∃s'',loW (st20_3 [dN l', .int (qlen (dN l'))]) [.int i,dB s]=some [.int 0,dB s'']∧s''.length=n∧∀b,gB s'' b=true↔(gB s b=true∨b∈l'.drop i):=by
  intro k
  induction k with
  |zero=>
   intro i s hi hs
   have c0:qcmp .lss (i:Int) (qlen (dN l'))=false:=by rw[qcmp_lss,len_N,decide_eq_false_iff_not];omega
   refine⟨s,by rw[loW_eq,st20_3_eq,c0];rfl,hs,fun b=>by rw[List.drop_of_length_le (by omega)];simp⟩
  |succ k ih=>
   intro i s hi hs
   have hlt:i<l'.length:=by omega
   have ht:=(v.nb l'[i] ((r3 _).1 (List.getElem_mem hlt))).1
   have hg2:=get_N hlt
   have hdr:=List.drop_eq_getElem_cons hlt
   generalize l'[i]=t at *
   have c0:qcmp .lss (i:Int) (qlen (dN l'))=true:=by rw[qcmp_lss,len_N,decide_eq_true_eq];omega
   have c1:qcmp .leq 0 (t:Int)=true:=by rw[qcmp_leq];simp
   have c2:qcmp .lss (t:Int) (qlen (dB s))=true:=by rw[qcmp_lss,len_B];simp;omega
   have i1:qinb (dB s) (t:Int)=true:=inb_B (by omega)
   have d1:qcmp .eql (qlen (dB s)) (qlen (dB (s.set t true)))=true:=by rw[qcmp_eql,len_B,len_B];simp
   have a1:qbin .add .i64 (i:Int) 1=((i+1:Nat):Int):=add_nat (by omega)
   obtain⟨s'',e1,e2,e3⟩:=ih (i+1) (s.set t true) (by omega) (by simpa using hs)
   refine⟨s'',?_,e2,fun b=> ?_⟩
   ·rw[loW_eq,st20_3_eq,c0,inb_N hlt,hg2,c1,c2,i1,set_B,d1,a1]
    exact e1
   ·rw[e3,gB_set (by omega),hdr,Bool.or_eq_true,decide_eq_true_eq,List.mem_cons]
    constructor
    ·rintro((h|h)|h)
     ·exact .inr (.inl h)
     ·exact .inl h
     ·exact .inr (.inr h)
    ·rintro(h|h|h)
     ·exact .inl (.inr h)
     ·exact .inl (.inl h)
     ·exact .inr h
 obtain⟨R,m1,m2,m3⟩:=mark l'.length 0 (List.replicate n false) (by omega) (by simp)
 have hR:∀b,gB R b=true↔b∈ne:=fun b=>by rw[m3,hf,List.drop_zero,r3];simp
 have hRs:∀b,gB R b=true↔gB s' b=true:=fun b=>by
  rw[hR]
  constructor
  ·exact fun hb=>(v.nb b hb).2
  ·intro hb
   rcases v.mem b hb with h|h
   ·rw[hf]at h;cases h
   ·exact h
 have c1:qcmp .leq 0 (n:Int)=true:=by rw[qcmp_leq];simp
 have c2:qcmp .leq (n:Int) (n:Int)=true:=by rw[qcmp_leq];simp
 have c4:qmem (n:Int) 1=true:=qmem_ok (by omega) (by omega)
 have c5:qcmp .eql (n:Int) (qlen (dB (List.replicate n false)))=true:=by rw[qcmp_eql,len_B];simp
 have hLn:qlen L=(n:Int):=by rw[qlen_c,l2]
 have h95:q95 [L, .int 0]=some [dN l']:=by
  have c3:qcmp .geq 0 (n:Int)=false:=by rw[qcmp_geq,decide_eq_false_iff_not];omega
  have e1':q125 [L, .int 0, .list [],dB (List.replicate n false)]=some [dN ne,dB s']:=e1
  have c6:qcmp .eql (qlen (dN ne)) (qlen (dN l'))=true:=by rw[qcmp_eql,len_N,len_N,r2];simp
  rw[q95_eq,F95_eq]
  simp only[hLn,c1,c2,c3,c4,rep_B,c5,e1',r1,c6,qsome_s,qnth_s,List.getD_cons_zero,List.getD_cons_succ,cond_true,cond_false]
 have h51:q51 [g]=some [dN l']:=by
  rw[q51_eq,F51_eq,l1]
  simp only[qsome_s,qnth_s,List.getD_cons_zero,h95,cond_true]
 refine⟨R,?_,m2,(hRs 0).2 (v.at' 0 (by simp)),fun b hb=> ?_,fun A a1 a2 b hb=> ?_⟩
 ·have hl:qlen (qfld g 1)=(n:Int):=by rw[qlen_c,hn]
  have m1':l20_3 [dN l', .int (qlen (dN l'))] [.int 0,dB (List.replicate n false)]=some [.int 0,dB R]:=by rw[l20_3_eq];exact m1
  rw[q20_eq,F20_eq]
  simp only[hl,c1,c2,c4,h51,rep_B,c5,m1',qsome_s,qnth_s,List.getD_cons_zero,List.getD_cons_succ,cond_true]
 ·have hm:=(hR b).1 hb
  exact⟨(v.nb b hm).1,fun t ht=>(hRs t).2 (v.clo b hm t ht)⟩
 ·exact v.sub A a1 (fun t ht=>by simp only[List.mem_singleton]at ht;subst ht;exact a2) b ((hR b).1 hb)
end Go.Proofs.YtfdedgmlafelaaaGreatDoor
namespace Go.Proofs.YtfdedgmlafelaaaGreatDoor
set_option linter.unusedSimpArgs false
open Go Go.AM
theorem reach_seen {fin:Nat→Int→Option Int} {suc:Nat→List Nat} {s:List Bool} {o:List Int} {R:List Bool} (hc:Cons fin suc (asg s o)) (hm:∀A,Cons fin suc A→Sub s o A)
 (r0:gB R 0=true) (rc:∀b,gB R b=true→∀t∈suc b,gB R t=true) (rm:∀A:Nat→Prop,(∀b,A b→∀t∈suc b,A t)→A 0→∀b,gB R b=true→A b):∀b,gB R b=gB s b:=by
 have h1:∀b,gB R b=true→gB s b=true:=by
  refine rm (fun b=>gB s b=true) (fun b hb t ht=> ?_) ?_
  ·obtain⟨e,_,h2⟩:=hc.2 b (gI o b) (by unfold asg;rw[if_pos hb])
   have:=h2 t ht
   unfold asg at this
   split at this
   ·assumption
   ·cases this
  ·have:=hc.1
   unfold asg at this
   split at this
   ·assumption
   ·cases this
 have h2:∀b,gB s b=true→gB R b=true:=by
  have hA:Cons fin suc (fun b=>if gB R b=true then asg s o b else none):=by
   refine⟨by simp only[r0,if_true];exact hc.1,fun b d hb=> ?_⟩
   by_cases hr:gB R b=true
   ·simp only[hr,if_true]at hb
    obtain⟨e,e1,e2⟩:=hc.2 b d hb
    exact⟨e,e1,fun t ht=>by simp only[rc b hr t ht,if_true];exact e2 t ht⟩
   ·simp only[hr]at hb;cases hb
  intro b hb
  have:=hm _ hA b hb
  by_cases hr:gB R b=true
  ·exact hr
  ·simp only[hr]at this;cases this
 intro b
 cases hr:gB R b with
 |true=>exact(h1 b hr).symm
 |false=>
  cases hs:gB s b with
  |false=>rfl
  |true=>rw[h2 b hs]at hr;cases hr
end Go.Proofs.YtfdedgmlafelaaaGreatDoor
namespace Go.Proofs.YtfdedgmlafelaaaGreatDoor
noncomputable section
set_option linter.unusedSimpArgs false
open Go Go.AM
inductive Fm:D→Prop
 |mk (d:D) (h2:3≤qint (qfld d 0)→qint (qfld d 0)≤15→(qfld d 4).toList.length=2) (h1:qint (qfld d 0)=18→(qfld d 4).toList.length=1) (hx:∀x∈(qfld d 4).toList,Fm x):Fm d
theorem Fm.two {d:D} (h:Fm d):3≤qint (qfld d 0)→qint (qfld d 0)≤15→(qfld d 4).toList.length=2:=by cases h;assumption
theorem Fm.one {d:D} (h:Fm d):qint (qfld d 0)=18→(qfld d 4).toList.length=1:=by cases h;assumption
theorem Fm.el {d:D} (h:Fm d):∀x∈(qfld d 4).toList,Fm x:=by cases h;assumption
theorem fm_of:∀(N:Nat) (d:D),d.size≤lim→d.size<N→F145 N [d]=some [.bool true]→Fm d:=by
 intro N
 induction N with
 |zero=>intro d _ h;omega
 |succ N ih=>
  intro d hd hs hf
  obtain⟨hl,hx⟩:=sz_elems (j:=4) hd
  have hel:∀x∈(d.fld 4).toList,∃b,F145 N [x]=some [.bool b]:=fun x hm=>by
   obtain⟨b,_,h⟩:=formed_eq N x (hx x hm) (by have:=size_elem hm;omega)
   exact⟨b,h⟩
  let p:D→Bool:=fun x=>match F145 N [x]with|some [.bool b]=> !b|_=>false
  have hloop:=idxLoop (st:=st145_2 (F145 N) [d]) (l:=d.fld 4) (c:=fun x=>(F145 N [x]).map fun r=>[.bool (qnot (qbool (r.getD 0 .other)))]) (p:=p) (r1:=fun _=>[.int 1]) (r0:=[.int 0])
   (fun i=>by
    rw[st145_2_eq,qfld_eq]
    cases hq:F145 N [qget (d.fld 4) i]with
    |none=>simp[qsome_n]
    |some r=>simp[qsome_s,qnth_s,qbool_b]) hl (fun x hm=>by
    obtain⟨b,h2⟩:=hel x hm
    simp[h2,p,qbool_b,qnot_c])
  rw[F145_s,Fb145_eq,l145_2_eq]at hf
  have hlen:qlen (qfld d 4)=((qfld d 4).toList.length:Int):=qlen_c _
  rcases hloop with⟨h3,h4⟩|⟨i,h3,h4⟩
  ·simp only[h3,qsome_s,qnth_s,List.getD_cons_zero,qint_i,hlen,qcmp_eql,qcmp_geq,qcmp_leq,qiteB_c,decide_true,cond_true]at hf
   refine .mk d (fun a b=> ?_) (fun a=> ?_) fun x hm=> ?_
   ·generalize qint (qfld d 0)=o at *
    simp only[show¬o=1 by omega,show¬o=2 by omega,show¬o=16 by omega,show¬o=17 by omega,show¬o=18 by omega,show¬o=19 by omega,a,b,decide_true,decide_false,cond_true,cond_false]at hf
    revert hf
    cases decide (qint (qfld d 1)=0)<;>cases decide (qint (qfld d 2)=0)<;>cases decide (qint (qfld d 3)=0)<;>simp
    intro h;omega
   ·rw[a]at hf
    simp only[show¬(18:Int)=1 by omega,show¬(18:Int)=2 by omega,show¬(18:Int)=16 by omega,show¬(18:Int)=17 by omega,decide_true,decide_false,cond_true,cond_false,Option.some.injEq,List.cons.injEq,D.bool.injEq,and_true]at hf
    by_cases hz:((qfld d 4).toList.length:Int)=1
    ·omega
    ·rw[decide_eq_false hz]at hf
     simp at hf
   ·rw[qfld_eq]at hm
    obtain⟨b,hb⟩:=hel x hm
    have:=List.any_eq_false.1 h4 x hm
    simp only[p,hb]at this
    cases b with
    |false=>simp at this
    |true=>exact ih x (hx x hm) (by have:=size_elem hm;omega) hb
  ·simp[h3,qsome_s,qnth_s,qint_i,qcmp_eql]at hf
theorem fm_expr {d:D} (hd:d.size≤lim) (h:eExpr d=0):Fm d:=by
 obtain⟨h1,h2⟩:=fuel2 d 64
 obtain⟨a,b⟩:=deep_spec (fuelL [d, .int 64]) d 64 hd h1 (by omega) (by omega)
 obtain⟨c,f1,f2⟩:=formed_eq (fuelL [d]) d hd h2
 have e2:=(expr_eq hd).2
 rw[h,F111_eq,q144_eq,q145_eq]at e2
 simp only[a,b,f1,f2,qsome_s,qnth_s,List.getD_cons_zero,qbool_b,qnot_c,cond_true]at e2
 cases c with
 |false=>cases hh:deepS (fuelL [d, .int 64]) d 64<;>simp[hh]at e2
 |true=>exact fm_of _ d hd h2 f2
structure Sok (s:D):Prop where
 st:StOk s
 two:qint (qfld s 0)=2→(qfld s 6).toList.length=2
 len:(qfld s 6).toList.length≤maxLen
 el:∀x∈(qfld s 6).toList,x.size≤lim∧Fm x
theorem sok {s:D} (hs:s.size≤lim) (h:eStmt s=0):Sok s:=by
 obtain⟨hl,hx⟩:=exprsOf s hs
 have e2:=(stmt_eq hs).2
 have hh:=errLoop (st:=st72_4 [s]) (l:=s.fld 6) (c:=fun x=>q111 [x]) (e:=eExpr) (fun i=>by rw[st72_4_eq,qfld_eq]) hl (fun x hm=>by rw[q111_eq];exact(expr_eq (hx x hm)).2)
 have hq:∃k,q110 [.int (qint (qfld s 0))]=some [.int k]∧(qint (qfld s 0)=2→k=2):=by
  rw[q110_eq,F110_eq]
  simp only[qcmp_eql,qiteB_c]
  by_cases h2:qint (qfld s 0)=2
  ·exact⟨2,by simp[h2],fun _=>rfl⟩
  ·rw[decide_eq_false h2,cond_false]
   cases (bif decide (qint (qfld s 0)=1)then decide (qint (qfld s 0)=1)else bif decide (qint (qfld s 0)=4)then decide (qint (qfld s 0)=4)else bif decide (qint (qfld s 0)=7)then decide (qint (qfld s 0)=7)else decide (qint (qfld s 0)=8))with
   |true=>exact⟨1,rfl,fun h=>absurd h h2⟩
   |false=>exact⟨0,rfl,fun h=>absurd h h2⟩
 obtain⟨k,hk,hk2⟩:=hq
 rw[h,F72_eq,l72_4_eq]at e2
 simp only[hh,hk,qcmp_eql,qcmp_neq,qcmp_lss,qcmp_gtr,qsome_s,qnth_s,List.getD_cons_zero,qint_i,cond_true]at e2
 by_cases c1:qint (qfld s 0)<1
 ·simp[c1]at e2
 by_cases c2:10<qint (qfld s 0)
 ·simp[c1,c2]at e2
 by_cases c3:qlen (qfld s 6)=k
 ·simp only[c1,c2,c3,decide_true,decide_false,Bool.not_true,cond_false]at e2
  have hz:decide (qint ((errOut (firstErr eExpr (s.fld 6).toList)).getD 0 .other)=0)=decide (firstErr eExpr (s.fld 6).toList=0):=by rw[← qnth_s, ← qcmp_eql];exact errOut_0
  by_cases hf:firstErr eExpr (s.fld 6).toList=0
  ·have he:=firstErr_zero hf
   refine⟨stok hs h,fun h2=> ?_,by rw[qfld_eq];exact hl,fun x hm=> ?_⟩
   ·have:=hk2 h2
    rw[qlen_c]at c3;omega
   ·rw[qfld_eq]at hm
    exact⟨hx x hm,fm_expr (hx x hm) (he x hm)⟩
  ·have e1:qint ((errOut (firstErr eExpr (s.fld 6).toList)).getD 1 .other)=firstErr eExpr (s.fld 6).toList:=by rw[← qnth_s];exact errOut_1 hf
   rw[hz,decide_eq_false hf,cond_false,e1]at e2
   simp only[Option.some.injEq,List.cons.injEq,D.int.injEq,and_true]at e2
   exact absurd e2 hf
 ·simp[c1,c2,c3]at e2
structure Ac where
 ao:Int
 aw:Int
 ab:Bool
def ldSt (e:D):Bool:=decide (qint (qfld e 0)=18)&&isSt (qget (qfld e 4) 0)
def accN:Nat→D→Int→List Ac
 |0,_,_=>[]
 |N+1,e,d=>if ldSt e=true then[⟨w (d+stN (qget (qfld e 4) 0)),qint (qfld e 3),false⟩]else(qfld e 4).toList.flatMap fun x=>accN N x d
def lkN:Nat→D→Bool
 |0,_=>false
 |N+1,e=>spV e||(!ldSt e&&(qfld e 4).toList.any (lkN N))
theorem flat_congr {α β:Type} {f g:α→List β}:∀{l:List α},(∀x∈l,f x=g x)→l.flatMap f=l.flatMap g
 | [],_=>rfl
 |x::l,h=>by simp only[List.flatMap_cons];rw[h x (by simp),flat_congr (fun y hy=>h y (by simp[hy]))]
theorem any_congr {α:Type} {f g:α→Bool}:∀{l:List α},(∀x∈l,f x=g x)→l.any f=l.any g
 | [],_=>rfl
 |x::l,h=>by simp only[List.any_cons];rw[h x (by simp),any_congr (fun y hy=>h y (by simp[hy]))]
theorem size_el {e x:D} (h:x∈(qfld e 4).toList):x.size<e.size:=by rw[qfld_eq]at h;exact size_elem h
theorem acc_fuel:∀(N M:Nat) (e:D) (d:Int),e.size<N→e.size<M→accN N e d=accN M e d
 |0,_,_,_,h,_=>by omega
 |_+1,0,_,_,_,h=>by omega
 |N+1,M+1,e,d,h1,h2=>by
  simp only[accN]
  rw[flat_congr fun x hx=>acc_fuel N M x d (by have:=size_el hx;omega) (by have:=size_el hx;omega)]
theorem lk_fuel:∀(N M:Nat) (e:D),e.size<N→e.size<M→lkN N e=lkN M e
 |0,_,_,h,_=>by omega
 |_+1,0,_,_,h=>by omega
 |N+1,M+1,e,h1,h2=>by
  simp only[lkN]
  rw[any_congr fun x hx=>lk_fuel N M x (by have:=size_el hx;omega) (by have:=size_el hx;omega)]
def acc (e:D) (d:Int):List Ac:=accN (e.size+1) e d
def lkk (e:D):Bool:=lkN (e.size+1) e
theorem acc_eq (e:D) (d:Int):acc e d=if ldSt e=true then[⟨w (d+stN (qget (qfld e 4) 0)),qint (qfld e 3),false⟩]else(qfld e 4).toList.flatMap fun x=>acc x d:=by
 rw[acc,accN]
 rw[flat_congr fun x hx=>acc_fuel e.size (x.size+1) x d (size_el hx) (by omega)]
 rfl
theorem lkk_eq (e:D):lkk e=(spV e||(!ldSt e&&(qfld e 4).toList.any lkk)):=by
 rw[lkk,lkN]
 rw[any_congr fun x hx=>lk_fuel e.size (x.size+1) x (size_el hx) (by omega)]
 rfl
def accS (s:D) (d:Int):List Ac:=
 if qint (qfld s 0)=1∧qint (qfld s 1)=7 then[]else
 if qint (qfld s 0)=2∧isSt (qget (qfld s 6) 0)=true then⟨w (d+stN (qget (qfld s 6) 0)),qint (qfld s 2),true⟩::((qfld s 6).toList.drop 1).flatMap fun x=>acc x d else(qfld s 6).toList.flatMap fun x=>acc x d
def lkS (s:D):Bool:=
 if qint (qfld s 0)=1∧qint (qfld s 1)=7 then false else
 if qint (qfld s 0)=2∧isSt (qget (qfld s 6) 0)=true then((qfld s 6).toList.drop 1).any lkk else(qfld s 6).toList.any lkk
theorem w_rng (n:Int): -2147483648≤w n∧w n<2147483648:=by unfold w;omega
end
end Go.Proofs.YtfdedgmlafelaaaGreatDoor
namespace Go.Proofs.YtfdedgmlafelaaaGreatDoor
set_option linter.unusedSimpArgs false
open Go Go.AM Go.Proofs.YtfdedgmlafelaaaGreatDoor.Sr
noncomputable section
theorem kv115 (a b:Int):kvD 115 (.agg [.int a, .int b]) = .agg #[.int .i64 a, .int .i64 b]:=by kernel_rfl
theorem keyEq2 (a b c d:Int):keyEq (.agg #[.int .i64 a, .int .i64 b]) (.agg #[.int .i64 c, .int .i64 d])=(decide (a=c)&&decide (b=d)):=by
 simp only[keyEq,eqInts]
 rw[Bool.eq_iff_iff]
 simp
def mE (s:Sl):D:= .agg [.agg [.int s.a, .int s.b],sDl s]
def mW (L:List Sl):D:= .list (L.map mE)
theorem slD_sDl (s:Sl):slD (sDl s)=s:=by
 unfold slD sDl
 simp only[qfld_eq,D.fld,List.getD_cons_zero,List.getD_cons_succ,qint_i,qbool_b]
theorem slots_mW (L:List Sl):slots (mW L)=L:=by
 unfold slots mW
 simp only[D.toList,List.map_map]
 have:((fun x=>slD (x.fld 1))∘mE)=fun s=>s:=by funext s;exact slD_sDl s
 rw[this,List.map_id']
def addc (n:Int):Int:=qbin .add .i64 n 1
def bump (s:Sl) (wr:Bool):Sl:=if wr=true then⟨s.a,s.b,s.c,addc s.d,s.e⟩else⟨s.a,s.b,addc s.c,s.d,s.e⟩
def isA (s:Sl) (a:Ac):Bool:=decide (a.ao=s.a)&&decide (a.aw=s.b)
def putS:List Sl→Ac→List Sl
 | [],a=>[bump ⟨a.ao,a.aw,0,0,false⟩ a.ab]
 |s::L,a=>if isA s a=true then bump s a.ab::L else s::putS L a
def z69:D:= .agg [.int 0, .int 0, .int 0, .int 0, .bool false]
def getS:List Sl→Ac→Sl
 | [],_=>⟨0,0,0,0,false⟩
 |s::L,a=>if isA s a=true then s else getS L a
theorem find_S (a:Ac):∀L:List Sl,((L.map mE).find? fun x=>keyEq (kvD 115 (.agg [.int a.ao, .int a.aw])) (kvD 115 (x.fld 0)))=(L.find? fun s=>isA s a).map mE
 | []=>rfl
 |s::L=>by
  have h:keyEq (kvD 115 (.agg [.int a.ao, .int a.aw])) (kvD 115 ((mE s).fld 0))=isA s a:=by
   show keyEq (kvD 115 (.agg [.int a.ao, .int a.aw])) (kvD 115 (.agg [.int s.a, .int s.b]))=_
   rw[kv115,kv115,keyEq2];rfl
  rw[List.map_cons,List.find?_cons,List.find?_cons,h,find_S a L]
  cases isA s a<;>rfl
theorem get_find (a:Ac):∀L:List Sl,getS L a=((L.find? fun s=>isA s a).getD ⟨0,0,0,0,false⟩)
 | []=>rfl
 |s::L=>by
  rw[List.find?_cons]
  unfold getS
  cases h:isA s a with
  |true=>simp
  |false=>simpa using get_find a L
theorem get115 (a:Ac) (L:List Sl):qmget 115 z69 (mW L) (.agg [.int a.ao, .int a.aw])=sDl (getS L a):=by
 have:qmget=rmget:=veil_eq _
 rw[this,get_find]
 unfold rmget findD mW
 simp only[D.toList]
 rw[find_S]
 cases L.find? fun s=>isA s a<;>rfl
theorem put115 (a:Ac) (v:D):∀L:List Sl,putD 115 (.agg [.int a.ao, .int a.aw]) (sDl (bump ⟨a.ao,a.aw,(getS L a).c,(getS L a).d,(getS L a).e⟩ a.ab)) (L.map mE)=(putS L a).map mE
 | []=>by cases a with|mk o wd b=>cases b<;>rfl
 |s::L=>by
  have h:keyEq (kvD 115 (.agg [.int a.ao, .int a.aw])) (kvD 115 ((mE s).fld 0))=isA s a:=by
   show keyEq (kvD 115 (.agg [.int a.ao, .int a.aw])) (kvD 115 (.agg [.int s.a, .int s.b]))=_
   rw[kv115,kv115,keyEq2];rfl
  rw[List.map_cons,putD,h]
  unfold getS putS
  cases hA:isA s a with
  |true=>
   have:=hA
   simp only[isA,Bool.and_eq_true,decide_eq_true_eq]at this
   simp only[if_true,cond_true,List.map_cons,this.1,this.2]
   cases a.ab<;>rfl
  |false=>
   have ih:=put115 a v L
   simp only[Bool.false_eq_true,if_false,cond_false,List.map_cons]
   rw[ih]
def neg (a:Ac):Bool:=decide (a.ao<0)
def mapOf (A:List Ac):List Sl:=(A.filter neg).foldl putS []
def mx (l:List Int):Int:=l.foldl max 0
def offs (A:List Ac):List Int:=(A.filter neg).map fun a=> -a.ao
def lowOf (Ds:List Int) (A:List Ac):Int:=max (mx Ds) (mx (offs A))
theorem mx_snoc (l:List Int) (x:Int):mx (l ++ [x])=max (mx l) x:=by unfold mx;rw[List.foldl_append];rfl
theorem mapOf_snoc (A:List Ac) (a:Ac):mapOf (A ++ [a])=if a.ao<0 then putS (mapOf A) a else mapOf A:=by
 unfold mapOf
 rw[List.filter_append,List.foldl_append]
 by_cases h:a.ao<0<;>simp[neg,h]
theorem lowOf_snoc (Ds:List Int) (A:List Ac) (a:Ac):lowOf Ds (A ++ [a])=if a.ao<0 then max (lowOf Ds A) (-a.ao)else lowOf Ds A:=by
 unfold lowOf offs
 rw[List.filter_append,List.map_append]
 by_cases h:a.ao<0
 ·simp only[neg,h,decide_true,List.filter_cons_of_pos,List.filter_nil,List.map_cons,List.map_nil,if_true]
  rw[mx_snoc];omega
 ·simp[neg,h]
theorem lowOf_d (Ds:List Int) (A:List Ac) (d:Int):lowOf (Ds ++ [d]) A=max (lowOf Ds A) d:=by
 unfold lowOf;rw[mx_snoc];omega
theorem qmm_max (a b:Int):qmm .gtr a b=max a b:=by
 rw[qmm_eq]
 show(if a<b then b else a)=max a b
 split<;>omega
theorem neg_w {n:Int} (h1: -2147483648≤n) (h2:n<2147483648):qun .neg .i64 n = -n:=by rw[neg64'];omega
def pSt (A:List Ac) (Ds:List Int) (lk:Bool):List D:=[mW (mapOf A), .bool lk, .int (lowOf Ds A)]
theorem acc_p (A:List Ac) (Ds:List Int) (lk:Bool) (a:Ac) (h1: -2147483648≤a.ao) (h2:a.ao<2147483648):
 q63 [.bool lk, .int a.ao, .int a.aw, .bool a.ab,mW (mapOf A), .int (lowOf Ds A)]=some [mW (mapOf (A ++ [a])), .int (lowOf Ds (A ++ [a]))]:=by
 have hp:∀v,qmput 115 (mW (mapOf A)) (.agg [.int a.ao, .int a.aw]) v = .list (putD 115 (.agg [.int a.ao, .int a.aw]) v ((mapOf A).map mE)):=fun v=>by
  have:qmput=fun kT m k v=> .list (putD kT k v m.toList):=veil_eq _
  rw[this];rfl
 have hg:=get115 a (mapOf A)
 unfold z69 at hg
 rw[q63_eq,F63_eq,hg,mapOf_snoc,lowOf_snoc,qcmp_geq,neg_w h1 h2,qmm_max]
 simp only[hp]
 have f2:qint (qfld (sDl (getS (mapOf A) a)) 2)=(getS (mapOf A) a).c:=by rw[qfld_eq];exact qint_i _
 have f3:qint (qfld (sDl (getS (mapOf A) a)) 3)=(getS (mapOf A) a).d:=by rw[qfld_eq];exact qint_i _
 have f4:qbool (qfld (sDl (getS (mapOf A) a)) 4)=(getS (mapOf A) a).e:=by rw[qfld_eq];exact qbool_b _
 simp only[f2,f3,f4]
 have h:=put115 a .other (mapOf A)
 by_cases h0:a.ao<0
 ·rw[decide_eq_false (by omega),if_pos h0,if_pos h0]
  unfold mW
  rw[← h]
  unfold bump sDl addc
  cases a.ab<;>rfl
 ·rw[decide_eq_true (by omega),if_neg h0,if_neg h0];rfl
end
end Go.Proofs.YtfdedgmlafelaaaGreatDoor
namespace Go.Proofs.YtfdedgmlafelaaaGreatDoor
set_option linter.unusedSimpArgs false
open Go Go.AM Go.Proofs.YtfdedgmlafelaaaGreatDoor.Sr
noncomputable section
theorem exLoop {st:List D→Option (Sum (List D) (List D))} {X:D} {d:Int} {Q:List D→Option (List D)} (hl:X.toList.length≤maxLen)
 (hQ:∀x∈X.toList,∀A Ds lk,Q [x, .int d,mW (mapOf A), .bool lk, .int (lowOf Ds A)]=some (pSt (A++acc x d) Ds (lk||lkk x)))
 (hst:∀(i:Int) m lk low,st [.int i,m, .bool lk, .int low]=bif qcmp .lss i (qlen X)then bif qinb X i then bif qsome (Q [qget X i, .int d,m, .bool lk, .int low])then
 some (.inl [.int (qbin .add .i64 i 1),qnth (Q [qget X i, .int d,m, .bool lk, .int low]) 0, .bool (qbool (qnth (Q [qget X i, .int d,m, .bool lk, .int low]) 1)), .int (qint (qnth (Q [qget X i, .int d,m, .bool lk, .int low]) 2))])else none else none else some (.inr [.int 0,m, .bool lk, .int low])):
 ∀(k i:Nat) A Ds lk,i+k=X.toList.length→loW st [.int i,mW (mapOf A), .bool lk, .int (lowOf Ds A)]=some (.int 0::pSt (A++(X.toList.drop i).flatMap fun x=>acc x d) Ds (lk||(X.toList.drop i).any lkk))
 |0,i,A,Ds,lk,hi=>by
  rw[loW_eq,hst,qcmp_lss,qlen_c,decide_eq_false (by omega),List.drop_of_length_le (by omega)]
  simp[pSt]
 |k+1,i,A,Ds,lk,hi=>by
  unfold maxLen at hl
  have hlt:i<X.toList.length:=by omega
  have hg:qget X (i:Int)=X.toList[i]:=by rw[qget_n,getD_lt hlt]
  have ih:=exLoop (by unfold maxLen;omega) hQ hst k (i+1) (A++acc X.toList[i] d) Ds (lk||lkk X.toList[i]) (by omega)
  rw[loW_eq,hst,qcmp_lss,qlen_c,decide_eq_true (by omega),qinb_n hlt,hg,hQ _ (List.getElem_mem hlt),List.drop_eq_getElem_cons hlt]
  simp only[pSt,qsome_s,qnth_s,List.getD_cons_zero,List.getD_cons_succ,qbool_b,qint_i,cond_true,add_nat (show i<9223372036854775807 by omega),List.flatMap_cons,List.any_cons]
  rw[ih]
  simp[pSt,List.append_assoc,Bool.or_assoc]
theorem add_w (d n:Int):w (qbin .add .i64 d n)=w (d+n):=by rw[add64'];unfold w;omega
theorem ex_p:∀(N:Nat) (e:D) (d:Int),Fm e→e.size≤lim→e.size<N→∀A Ds lk,F65 N [e, .int d,mW (mapOf A), .bool lk, .int (lowOf Ds A)]=some (pSt (A++acc e d) Ds (lk||lkk e))
 |0,_,_,_,_,h=>by omega
 |N+1,e,d,hf,hs,hN=>fun A Ds lk=>by
  obtain⟨hl,hx⟩:=sz_el (j:=4) hs
  have hQ:∀x∈(qfld e 4).toList,∀A Ds lk,F65 N [x, .int d,mW (mapOf A), .bool lk, .int (lowOf Ds A)]=some (pSt (A++acc x d) Ds (lk||lkk x)):=
   fun x hm=>ex_p N x d (hf.el x hm) (hx x hm) (by have:=size_el hm;omega)
  have hL:∀lk,l65_8 (F65 N) [.int d,qfld e 4, .int (qlen (qfld e 4))] [.int 0,mW (mapOf A), .bool lk, .int (lowOf Ds A)]=some (.int 0::pSt (A++(qfld e 4).toList.flatMap fun x=>acc x d) Ds (lk||(qfld e 4).toList.any lkk)):=fun lk=>by
   rw[l65_8_eq]
   exact exLoop (st:=st65_8 (F65 N) [.int d,qfld e 4, .int (qlen (qfld e 4))]) hl hQ (fun i m lk low=>by rw[st65_8_eq]) (qfld e 4).toList.length 0 A Ds lk (by omega)
  rw[F65_s,Fb65_eq,sp_p,acc_eq,lkk_eq]
  simp only[hL,qsome_s,qnth_s,List.getD_cons_zero,List.getD_cons_succ,qbool_b,qint_i,cond_true,qcmp_eql,pSt]
  by_cases h18:qint (qfld e 0)=18
  ·have hsp:spV e=false:=by unfold spV;rw[h18];rfl
   have h1:=hf.one h18
   have hm:qget (qfld e 4) 0∈(qfld e 4).toList:=get_mem (i:=0) (by omega)
   have i0:qinb (qfld e 4) 0=true:=qinb_n (i:=0) (by omega)
   have hst:=st_p (hf.el _ hm).two
   rw[hsp,decide_eq_true h18,i0,hst]
   simp only[qsome_s,qnth_s,List.getD_cons_zero,List.getD_cons_succ,qbool_b,qint_i,cond_true,cond_false,Bool.false_or,wrap_p,add_w]
   have hld:ldSt e=isSt (qget (qfld e 4) 0):=by unfold ldSt;rw[h18];rfl
   rw[hld]
   cases hS:isSt (qget (qfld e 4) 0)with
   |true=>
    have hr:=w_rng (d+stN (qget (qfld e 4) 0))
    have hp:=acc_p A Ds lk ⟨w (d+stN (qget (qfld e 4) 0)),qint (qfld e 3),false⟩ hr.1 hr.2
    simp only at hp
    simp only[hp,qsome_s,qnth_s,List.getD_cons_zero,List.getD_cons_succ,qint_i,cond_true,if_true,Bool.not_true,Bool.false_and,Bool.or_false]
   |false=>simp
  ·have hld:ldSt e=false:=by unfold ldSt;rw[decide_eq_false h18];rfl
   rw[decide_eq_false h18,hld]
   cases spV e<;>simp
theorem ex_q {e:D} (d:Int) (hf:Fm e) (hs:e.size≤lim) (A:List Ac) (Ds:List Int) (lk:Bool):q65 [e, .int d,mW (mapOf A), .bool lk, .int (lowOf Ds A)]=some (pSt (A++acc e d) Ds (lk||lkk e)):=by
 rw[q65_eq]
 exact ex_p _ e d hf hs (fuel_in (by simp)) A Ds lk
theorem sub_one {X:D} {n:Nat} (h:X.toList.length=n):qsub X 1 (n:Int) = .list (X.toList.drop 1):=by
 rw[qsub_eq]
 simp only[D.sub,Int.toNat_natCast,Int.toNat_one]
 rw[List.take_of_length_le (by rw[List.length_drop];omega)]
theorem stm_p {s:D} (hs:Sok s) {d:Int} (hd: -2147483648≤d∧d<2147483648) (A:List Ac) (Ds:List Int) (lk:Bool):
 q29 [s, .int d,mW (mapOf A), .bool lk, .int (lowOf Ds A)]=some (pSt (A++accS s d) (Ds ++ [-d]) (lk||lkS s)):=by
 have hL:∀X:D,X.toList.length≤maxLen→(∀x∈X.toList,x.size≤lim∧Fm x)→∀A Ds lk,l29_10 [.int d,X, .int (qlen X)] [.int 0,mW (mapOf A), .bool lk, .int (lowOf Ds A)]=some (.int 0::pSt (A++X.toList.flatMap fun x=>acc x d) Ds (lk||X.toList.any lkk)):=fun X hl hx A Ds lk=>by
  rw[l29_10_eq]
  exact exLoop (st:=st29_10 [.int d,X, .int (qlen X)]) hl (fun x hm A Ds lk=>ex_q d (hx x hm).2 (hx x hm).1 A Ds lk) (fun i m lk low=>by rw[st29_10_eq]) X.toList.length 0 A Ds lk (by omega)
 rw[q29_eq,F29_eq,neg_w hd.1 hd.2,qmm_max, ← lowOf_d]
 have hLE:=hL (qfld s 6) hs.len hs.el A (Ds ++ [-d]) lk
 simp only[hLE,qiteB_c,qcmp_eql,qsome_s,qnth_s,List.getD_cons_zero,List.getD_cons_succ,qbool_b,qint_i,cond_true,pSt]
 unfold accS lkS
 by_cases h1:qint (qfld s 0)=1∧qint (qfld s 1)=7
 ·simp[h1.1,h1.2]
 have h1':(bif decide (qint (qfld s 0)=1)then decide (qint (qfld s 1)=7)else false)=false:=by
  cases h:decide (qint (qfld s 0)=1)<;>simp_all
 rw[h1',if_neg h1,if_neg h1]
 simp only[cond_false]
 by_cases h2:qint (qfld s 0)=2
 ·have hn:=hs.two h2
  have hm:qget (qfld s 6) 0∈(qfld s 6).toList:=get_mem (i:=0) (by omega)
  have i0:qinb (qfld s 6) 0=true:=qinb_n (i:=0) (by omega)
  have hst:=st_p (hs.el _ hm).2.two
  have hq2:qlen (qfld s 6)=((2:Nat):Int):=by rw[qlen_c,hn]
  rw[decide_eq_true h2,i0,hst]
  simp only[qsome_s,qnth_s,List.getD_cons_zero,List.getD_cons_succ,qbool_b,qint_i,cond_true,wrap_p,add_w,h2,true_and]
  cases hS:isSt (qget (qfld s 6) 0)with
  |false=>simp
  |true=>
   have hr:=w_rng (d+stN (qget (qfld s 6) 0))
   have hp:=acc_p A (Ds ++ [-d]) lk ⟨w (d+stN (qget (qfld s 6) 0)),qint (qfld s 2),true⟩ hr.1 hr.2
   simp only at hp
   have hsub:qsub (qfld s 6) 1 (qlen (qfld s 6)) = .list ((qfld s 6).toList.drop 1):=by rw[hq2];exact sub_one hn
   have hL1:=hL (.list ((qfld s 6).toList.drop 1)) (by show((qfld s 6).toList.drop 1).length≤maxLen;rw[List.length_drop];have:=hs.len;omega) (fun x hx=>hs.el x (List.mem_of_mem_drop hx)) (A ++ [⟨w (d+stN (qget (qfld s 6) 0)),qint (qfld s 2),true⟩]) (Ds ++ [-d]) lk
   have c1:qcmp .leq 0 1=true:=by rw[qcmp_leq];rfl
   have c2:qcmp .leq 1 (qlen (qfld s 6))=true:=by rw[qcmp_leq,hq2];rfl
   have c3:qcmp .leq (qlen (qfld s 6)) (qlen (qfld s 6))=true:=by rw[qcmp_leq];simp
   simp only[hp,hsub,c1,c2,c3,qsome_s,qnth_s,List.getD_cons_zero,List.getD_cons_succ,qbool_b,qint_i,cond_true,if_true,hL1,pSt]
   simp[D.toList,List.append_assoc]
 ·simp[h2]
def acD (a:Ac):D:= .agg [.int a.ao, .int a.aw, .bool a.ab]
def aL (A:List Ac):D:= .list (A.map acD)
theorem len_A (A:List Ac):qlen (aL A)=(A.length:Int):=by rw[qlen_c];simp[aL,D.toList]
theorem app_A (A:List Ac) (a:Ac):qapp (aL A) (.list [acD a])=aL (A ++ [a]):=by rw[qapp_eq];unfold aL;simp[D.app,D.toList]
theorem memM {n z:Nat} (hn:n≤1000000) (hz:z≤1000):qmem (n:Int) z=true:=by
 rw[qmem_eq];unfold rmem
 have:n*z≤1000000*1000:=Nat.mul_le_mul hn hz
 simp only[Bool.and_eq_true,decide_eq_true_eq,Int.toNat_natCast]
 omega
theorem exLoopR {st:List D→Option (Sum (List D) (List D))} {X:D} {d:Int} {Q:List D→Option (List D)} (hl:X.toList.length≤maxLen)
 (hQ:∀x∈X.toList,∀A lk,A.length+(acc x d).length≤1000000→Q [x, .int d,aL A, .bool lk]=some [aL (A++acc x d), .bool (lk||lkk x)])
 (i0:Nat) (hst:∀(i:Nat) A lk,i0≤i→st [.int i,aL A, .bool lk]=bif qcmp .lss i (qlen X)then bif qinb X i then bif qsome (Q [qget X i, .int d,aL A, .bool lk])then
 some (.inl [.int (qbin .add .i64 i 1),qnth (Q [qget X i, .int d,aL A, .bool lk]) 0, .bool (qbool (qnth (Q [qget X i, .int d,aL A, .bool lk]) 1))])else none else none else some (.inr [.int 0,aL A, .bool lk])):
 ∀(k i:Nat) A lk,i0≤i→i+k=X.toList.length→A.length+((X.toList.drop i).flatMap fun x=>acc x d).length≤1000000→loW st [.int i,aL A, .bool lk]=some [.int 0,aL (A++(X.toList.drop i).flatMap fun x=>acc x d), .bool (lk||(X.toList.drop i).any lkk)]
 |0,i,A,lk,h0,hi,_=>by
  rw[loW_eq,hst i A lk h0,qcmp_lss,qlen_c,decide_eq_false (by omega),List.drop_of_length_le (by omega)]
  simp
 |k+1,i,A,lk,h0,hi,hb=>by
  unfold maxLen at hl
  have hlt:i<X.toList.length:=by omega
  have hg:qget X (i:Int)=X.toList[i]:=by rw[qget_n,getD_lt hlt]
  rw[List.drop_eq_getElem_cons hlt,List.flatMap_cons,List.length_append]at hb
  have ih:=exLoopR (by unfold maxLen;omega) hQ i0 hst k (i+1) (A++acc X.toList[i] d) (lk||lkk X.toList[i]) (by omega) (by omega) (by rw[List.length_append];omega)
  rw[loW_eq,hst i A lk h0,qcmp_lss,qlen_c,decide_eq_true (by omega),qinb_n hlt,hg,hQ _ (List.getElem_mem hlt) A lk (by omega),List.drop_eq_getElem_cons hlt]
  simp only[qsome_s,qnth_s,List.getD_cons_zero,List.getD_cons_succ,qbool_b,qint_i,cond_true,add_nat (show i<9223372036854775807 by omega),List.flatMap_cons,List.any_cons]
  rw[ih]
  simp[List.append_assoc,Bool.or_assoc]
theorem ex_r:∀(N:Nat) (e:D) (d:Int),Fm e→e.size≤lim→e.size<N→∀A lk,A.length+(acc e d).length≤1000000→F76 N [e, .int d,aL A, .bool lk]=some [aL (A++acc e d), .bool (lk||lkk e)]
 |0,_,_,_,_,h=>by omega
 |N+1,e,d,hf,hs,hN=>fun A lk hb=>by
  obtain⟨hl,hx⟩:=sz_el (j:=4) hs
  have hQ:∀x∈(qfld e 4).toList,∀A lk,A.length+(acc x d).length≤1000000→F76 N [x, .int d,aL A, .bool lk]=some [aL (A++acc x d), .bool (lk||lkk x)]:=
   fun x hm=>ex_r N x d (hf.el x hm) (hx x hm) (by have:=size_el hm;omega)
  have hL:ldSt e=false→∀lk,l76_8 (F76 N) [.int d,e] [.int 0,aL A, .bool lk]=some [.int 0,aL (A++(qfld e 4).toList.flatMap fun x=>acc x d), .bool (lk||(qfld e 4).toList.any lkk)]:=fun hld lk=>by
   rw[l76_8_eq]
   refine exLoopR (st:=st76_8 (F76 N) [.int d,e]) hl hQ 0 (fun i A lk _=>by rw[st76_8_eq]) (qfld e 4).toList.length 0 A lk (by omega) (by omega) ?_
   rw[acc_eq,hld]at hb
   simpa using hb
  rw[F76_s,Fb76_eq,sp_r,acc_eq,lkk_eq]
  simp only[qsome_s,qnth_s,List.getD_cons_zero,List.getD_cons_succ,qbool_b,qint_i,cond_true,qcmp_eql,decide_true]
  by_cases h18:qint (qfld e 0)=18
  ·have hsp:spV e=false:=by unfold spV;rw[h18];rfl
   have h1:=hf.one h18
   have hm:qget (qfld e 4) 0∈(qfld e 4).toList:=get_mem (i:=0) (by omega)
   have i0:qinb (qfld e 4) 0=true:=qinb_n (i:=0) (by omega)
   have hst:=st_r (hf.el _ hm).two
   rw[hsp,decide_eq_true h18,i0,hst]
   simp only[qsome_s,qnth_s,List.getD_cons_zero,List.getD_cons_succ,qbool_b,qint_i,cond_true,cond_false,Bool.false_or,sum_r]
   have hld:ldSt e=isSt (qget (qfld e 4) 0):=by unfold ldSt;rw[h18];rfl
   cases hS:isSt (qget (qfld e 4) 0)with
   |true=>
    rw[acc_eq,hld,hS]at hb
    have hp:=app_A A ⟨w (d+stN (qget (qfld e 4) 0)),qint (qfld e 3),false⟩
    unfold acD at hp
    simp only at hp
    have hmem:qmem (qlen (aL (A ++ [⟨w (d+stN (qget (qfld e 4) 0)),qint (qfld e 3),false⟩]))) 24=true:=by rw[len_A];exact memM (by simpa using hb) (by omega)
    rw[hld,hS]
    simp only[hp,hmem,cond_true,if_true,Bool.not_true,Bool.false_and,Bool.or_false]
   |false=>
    rw[hS]at hld
    simp[hL hld,hld,qsome_s,qnth_s,qbool_b]
  ·have hld:ldSt e=false:=by unfold ldSt;rw[decide_eq_false h18];rfl
   rw[decide_eq_false h18,hld]
   cases spV e<;>simp[hL hld,qsome_s,qnth_s,qbool_b]
theorem ex_rq {e:D} (d:Int) (hf:Fm e) (hs:e.size≤lim) (A:List Ac) (lk:Bool) (hb:A.length+(acc e d).length≤1000000):q76 [e, .int d,aL A, .bool lk]=some [aL (A++acc e d), .bool (lk||lkk e)]:=by
 rw[q76_eq]
 exact ex_r _ e d hf hs (fuel_in (by simp)) A lk hb
theorem stm_r {s:D} (hs:Sok s) (d:Int) (A:List Ac) (lk:Bool) (hb:A.length+(accS s d).length≤1000000):
 q37 [s, .int d,aL A, .bool lk]=some [aL (A++accS s d), .bool (lk||lkS s)]:=by
 rw[q37_eq,F37_eq]
 simp only[qiteB_c,qcmp_eql,decide_true,cond_true]
 have hE:=hs.el
 have hle:=hs.len
 unfold accS lkS
 unfold accS at hb
 by_cases h1:qint (qfld s 0)=1∧qint (qfld s 1)=7
 ·simp[h1.1,h1.2]
 have h1':(bif decide (qint (qfld s 0)=1)then decide (qint (qfld s 1)=7)else false)=false:=by
  cases h:decide (qint (qfld s 0)=1)<;>simp_all
 rw[if_neg h1]at hb
 rw[h1',if_neg h1,if_neg h1]
 simp only[cond_false]
 have step:∀(i:Nat) A lk,(qint (qfld s 0)=2→isSt (qget (qfld s 6) 0)=true→1≤i)→st37_3 [.int d,s] [.int i,aL A, .bool lk]=bif qcmp .lss i (qlen (qfld s 6))then bif qinb (qfld s 6) i then bif qsome (q76 [qget (qfld s 6) i, .int d,aL A, .bool lk])then
  some (.inl [.int (qbin .add .i64 i 1),qnth (q76 [qget (qfld s 6) i, .int d,aL A, .bool lk]) 0, .bool (qbool (qnth (q76 [qget (qfld s 6) i, .int d,aL A, .bool lk]) 1))])else none else none else some (.inr [.int 0,aL A, .bool lk]):=fun i A lk hi=>by
  rw[st37_3_eq]
  simp only[qiteB_c,qcmp_eql,decide_true,cond_true]
  cases hlt:qcmp .lss (i:Int) (qlen (qfld s 6))with
  |false=>rfl
  |true=>
   simp only[cond_true]
   by_cases h2:qint (qfld s 0)=2∧(i:Int)=0
   ·have hi0:i=0:=by omega
    subst hi0
    have hn:=hs.two h2.1
    have hm:qget (qfld s 6) 0∈(qfld s 6).toList:=get_mem (i:=0) (by omega)
    have i0:qinb (qfld s 6) 0=true:=qinb_n (i:=0) (by omega)
    have hS:isSt (qget (qfld s 6) 0)=false:=by
     cases h:isSt (qget (qfld s 6) 0)with
     |false=>rfl
     |true=>have:=hi h2.1 h;omega
    have hst:=st_r (hE _ hm).2.two
    rw[hS]at hst
    simp[h2.1,i0,hst,qsome_s,qnth_s,qbool_b]
   ·have:(bif decide (qint (qfld s 0)=2)then decide ((i:Int)=0)else false)=false:=by
     cases h:decide (qint (qfld s 0)=2)<;>simp_all
    rw[this,cond_false]
 have hQ:∀x∈(qfld s 6).toList,∀A lk,A.length+(acc x d).length≤1000000→q76 [x, .int d,aL A, .bool lk]=some [aL (A++acc x d), .bool (lk||lkk x)]:=fun x hm A lk h=>ex_rq d (hE x hm).2 (hE x hm).1 A lk h
 have hl3:∀p s,l37_3 p s=loW (st37_3 p) s:=fun p s=>by rw[l37_3_eq]
 simp only[hl3]
 by_cases h2:qint (qfld s 0)=2∧isSt (qget (qfld s 6) 0)=true
 ·have hn:=hs.two h2.1
  have hm:qget (qfld s 6) 0∈(qfld s 6).toList:=get_mem (i:=0) (by omega)
  have i0:qinb (qfld s 6) 0=true:=qinb_n (i:=0) (by omega)
  have hst:=st_r (hE _ hm).2.two
  rw[if_pos h2,List.length_cons]at hb
  rw[if_pos h2,if_pos h2]
  have c0:qcmp .lss 0 (qlen (qfld s 6))=true:=by rw[qcmp_lss,qlen_c,hn];rfl
  have hp:=app_A A ⟨w (d+stN (qget (qfld s 6) 0)),qint (qfld s 2),true⟩
  unfold acD at hp
  simp only at hp
  have hmem:qmem (qlen (aL (A ++ [⟨w (d+stN (qget (qfld s 6) 0)),qint (qfld s 2),true⟩]))) 24=true:=by rw[len_A];exact memM (by simp only[List.length_append,List.length_cons,List.length_nil];omega) (by omega)
  have hfirst:st37_3 [.int d,s] [.int 0,aL A, .bool lk]=some (.inl [.int ((1:Nat):Int),aL (A ++ [⟨w (d+stN (qget (qfld s 6) 0)),qint (qfld s 2),true⟩]), .bool lk]):=by
   rw[st37_3_eq,c0,i0,hst]
   simp only[qiteB_c,qcmp_eql,h2.1,h2.2,qsome_s,qnth_s,List.getD_cons_zero,List.getD_cons_succ,qbool_b,qint_i,sum_r,hp,hmem,decide_true,cond_true,show qbin .add .i64 0 1=((1:Nat):Int)from add_nat (i:=0) (by omega)]
  have hr:=exLoopR (st:=st37_3 [.int d,s]) hle hQ 1 (fun i A lk hi=>step i A lk (fun _ _=>hi)) 1 1 (A ++ [⟨w (d+stN (qget (qfld s 6) 0)),qint (qfld s 2),true⟩]) lk (by omega) (by omega) (by simp only[List.length_append,List.length_cons,List.length_nil];omega)
  rw[loW_eq,hfirst]
  simp only
  rw[hr]
  simp[qsome_s,qnth_s,qbool_b,List.append_assoc]
 ·rw[if_neg h2]at hb
  rw[if_neg h2,if_neg h2]
  have hr:=exLoopR (st:=st37_3 [.int d,s]) hle hQ 0 (fun i A lk _=>step i A lk (fun a b=>absurd ⟨a,b⟩ h2)) (qfld s 6).toList.length 0 A lk (by omega) (by omega) (by simpa using hb)
  rw[List.drop_zero]at hr
  have hr':loW (st37_3 [.int d,s]) [.int 0,aL A, .bool lk]=_:=hr
  rw[hr']
  simp[qsome_s,qnth_s,qbool_b]
end
end Go.Proofs.YtfdedgmlafelaaaGreatDoor
namespace Go.Proofs.YtfdedgmlafelaaaGreatDoor
set_option linter.unusedSimpArgs false
open Go Go.AM Go.Proofs.YtfdedgmlafelaaaGreatDoor.Sr
noncomputable section
def dS (Q:List Sl):D:= .list (Q.map sDl)
theorem len_S (Q:List Sl):qlen (dS Q)=(Q.length:Int):=by rw[qlen_c];simp[dS,D.toList]
theorem inb_S {Q:List Sl} {i:Nat} (h:i<Q.length):qinb (dS Q) (i:Int)=true:=qinb_n (by simpa[dS,D.toList]using h)
theorem get_S {Q:List Sl} {i:Nat} (h:i<Q.length):qget (dS Q) (i:Int)=sDl Q[i]:=by
 rw[qget_n];unfold dS
 simp only[D.toList,List.getD,List.getElem?_map,List.getElem?_eq_getElem h];rfl
theorem set_S (Q:List Sl) (i:Nat) (s:Sl):qset (dS Q) (i:Int) (sDl s)=dS (Q.set i s):=by
 rw[qset_eq];unfold dS;simp[D.upd,D.toList,List.map_set]
theorem app_S (Q R:List Sl):qapp (dS Q) (dS R)=dS (Q++R):=by rw[qapp_eq];unfold dS;simp[D.app,D.toList]
theorem sub_S (Q:List Sl) (i j:Nat):qsub (dS Q) (i:Int) (j:Int)=dS ((Q.drop i).take (j-i)):=by
 rw[qsub_eq];unfold dS;simp only[D.sub,D.toList,Int.toNat_natCast]
 rw[show((j:Int)-(i:Int)).toNat=j-i by omega,List.map_take,List.map_drop]
theorem f0 (s:Sl):qint (qfld (sDl s) 0)=s.a:=by rw[qfld_eq];exact qint_i _
theorem f1 (s:Sl):qint (qfld (sDl s) 1)=s.b:=by rw[qfld_eq];exact qint_i _
theorem f2 (s:Sl):qint (qfld (sDl s) 2)=s.c:=by rw[qfld_eq];exact qint_i _
theorem f3 (s:Sl):qint (qfld (sDl s) 3)=s.d:=by rw[qfld_eq];exact qint_i _
theorem f4 (s:Sl):qbool (qfld (sDl s) 4)=s.e:=by rw[qfld_eq];exact qbool_b _
theorem a0 (a:Ac):qint (qfld (acD a) 0)=a.ao:=by rw[qfld_eq];exact qint_i _
theorem a1 (a:Ac):qint (qfld (acD a) 1)=a.aw:=by rw[qfld_eq];exact qint_i _
theorem a2 (a:Ac):qbool (qfld (acD a) 2)=a.ab:=by rw[qfld_eq];exact qbool_b _
def ltA (s:Sl) (a:Ac):Bool:=decide (s.a<a.ao)||(decide (s.a=a.ao)&&decide (s.b<a.aw))
def idxS:List Sl→Ac→Nat
 | [],_=>0
 |s::L,a=>if ltA s a=true then idxS L a+1 else 0
def fr (a:Ac):Sl:=⟨a.ao,a.aw,0,0,false⟩
def insS:List Sl→Ac→List Sl
 | [],a=>[bump (fr a) a.ab]
 |s::L,a=>if ltA s a=true then s::insS L a else if isA s a=true then bump s a.ab::L else bump (fr a) a.ab::s::L
theorem idx_le:∀(Q:List Sl) (a:Ac),idxS Q a≤Q.length
 | [],_=>Nat.le_refl _
 |s::L,a=>by
  unfold idxS
  split
  ·have:=idx_le L a;simp only[List.length_cons];omega
  ·omega
theorem ins_hit:∀(Q:List Sl) (a:Ac) (h:idxS Q a<Q.length),isA Q[idxS Q a] a=true→insS Q a=Q.set (idxS Q a) (bump Q[idxS Q a] a.ab)
 | [],_,h,_=>by simp at h
 |s::L,a,h,hA=>by
  unfold insS
  by_cases hl:ltA s a=true
  ·have e:idxS (s::L) a=idxS L a+1:=by rw[idxS,if_pos hl]
   simp only[e,List.getElem_cons_succ,List.length_cons]at h hA ⊢
   rw[if_pos hl,ins_hit L a (by omega) hA];rfl
  ·have e:idxS (s::L) a=0:=by rw[idxS,if_neg hl]
   simp only[e,List.getElem_cons_zero]at hA ⊢
   rw[if_neg hl,if_pos hA];rfl
theorem ins_miss:∀(Q:List Sl) (a:Ac),(∀h:idxS Q a<Q.length,isA Q[idxS Q a] a=false)→insS Q a=Q.take (idxS Q a)++bump (fr a) a.ab::Q.drop (idxS Q a)
 | [],_,_=>rfl
 |s::L,a,hA=>by
  unfold insS
  by_cases hl:ltA s a=true
  ·have e:idxS (s::L) a=idxS L a+1:=by rw[idxS,if_pos hl]
   simp only[e,List.getElem_cons_succ,List.length_cons]at hA ⊢
   rw[if_pos hl,ins_miss L a (fun h=>hA (by omega))];rfl
  ·have e:idxS (s::L) a=0:=by rw[idxS,if_neg hl]
   simp only[e,List.getElem_cons_zero]at hA ⊢
   have:=hA (by simp)
   rw[if_neg hl,this];rfl
theorem idx_loop {st:List D→Option (Sum (List D) (List D))} {Q:List Sl} {a:Ac} (hl:Q.length≤1000000)
 (hst:∀i:Nat,st [.int i]=if h:i<Q.length then(if ltA Q[i] a=true then some (.inl [.int ((i+1:Nat):Int)])else some (.inr [.int 0, .int i]))else some (.inr [.int 0, .int i])):
 loW st [.int 0]=some [.int 0, .int (idxS Q a:Int)]:=by
 have key:∀(k i:Nat),i+k=Q.length→loW st [.int i]=some [.int 0, .int ((i+idxS (Q.drop i) a:Nat):Int)]:=by
  intro k
  induction k with
  |zero=>
   intro i hi
   rw[loW_eq,hst,dif_neg (by omega),List.drop_of_length_le (by omega)];rfl
  |succ k ih=>
   intro i hi
   have hlt:i<Q.length:=by omega
   rw[loW_eq,hst,dif_pos hlt,List.drop_eq_getElem_cons hlt]
   unfold idxS
   by_cases h:ltA Q[i] a=true
   ·rw[if_pos h,if_pos h]
    simp only
    rw[ih (i+1) (by omega)]
    congr 4;omega
   ·rw[if_neg h,if_neg h];rfl
 have:=key Q.length 0 (by omega)
 simpa using this
theorem cnt_o {Q:List Sl} {a:Ac} (hl:Q.length≤1000000):l39_o_2 [acD a,dS Q] [.int 0]=some [.int 0, .int (idxS Q a:Int)]:=by
 rw[l39_o_2_eq]
 refine idx_loop (st:=st39_o_2 [acD a,dS Q]) hl fun i=> ?_
 rw[st39_o_2_eq,len_S,qcmp_lss]
 by_cases h:i<Q.length
 ·rw[dif_pos h,decide_eq_true (by omega),inb_S h,get_S h,f0,f1,a0,a1,show qcmp .leq 0 (i:Int)=true by rw[qcmp_leq];simp]
  simp only[qcmp_lss,qcmp_eql,cond_true,add_nat (show i<9223372036854775807 by omega),ltA]
  by_cases h1:Q[i].a<a.ao
  ·simp[h1]
  ·by_cases h2:Q[i].a=a.ao
   ·by_cases h3:Q[i].b<a.aw<;>simp[h2,h3]
   ·simp[h1,h2]
 ·rw[dif_neg h,decide_eq_false (by omega)]
  simp[qeqI_self]
theorem cnt_r {Q:List Sl} {a:Ac} (hl:Q.length≤1000000):l39_r_2 [dS Q,acD a] [.int 0]=some [.int 0, .int (idxS Q a:Int)]:=by
 rw[l39_r_2_eq]
 refine idx_loop (st:=st39_r_2 [dS Q,acD a]) hl fun i=> ?_
 rw[st39_r_2_eq,len_S,qcmp_lss]
 by_cases h:i<Q.length
 ·rw[dif_pos h,decide_eq_true (by omega),inb_S h,get_S h,f0,f1,a0,a1]
  simp only[qcmp_lss,qcmp_eql,cond_true,add_nat (show i<9223372036854775807 by omega),ltA]
  by_cases h1:Q[i].a<a.ao
  ·simp[h1]
  ·by_cases h2:Q[i].a=a.ao
   ·by_cases h3:Q[i].b<a.aw<;>simp[h2,h3]
   ·simp[h1,h2]
 ·rw[dif_neg h,decide_eq_false (by omega)]
  simp
theorem count_r {Q:List Sl} {a:Ac} (hl:Q.length<1000000):q39 [acD a,dS Q]=some [dS (insS Q a)]:=by
 rw[q39_eq]
 unfold F39
 have hk:=idx_le Q a
 have ho:=cnt_o (a:=a) (Nat.le_of_lt hl)
 have hr:=cnt_r (a:=a) (Nat.le_of_lt hl)
 have k0:qcmp .leq 0 (idxS Q a:Int)=true:=by rw[qcmp_leq];simp
 by_cases hhit:∃h:idxS Q a<Q.length,isA Q[idxS Q a] a=true
 ·obtain⟨h,hA⟩:=hhit
  have hA':=hA
  simp only[isA,Bool.and_eq_true,decide_eq_true_eq]at hA'
  have e1:qcmp .eql (idxS Q a:Int) (qlen (dS Q))=false:=by rw[qcmp_eql,len_S,decide_eq_false_iff_not];omega
  have e2:qcmp .lss (idxS Q a:Int) (qlen (dS Q))=true:=by rw[qcmp_lss,len_S,decide_eq_true_eq];omega
  have:F39_o [acD a,dS Q]=some [dS (insS Q a)]:=by
   rw[F39_o_eq,ho]
   simp only[qsome_s,qnth_s,List.getD_cons_zero,List.getD_cons_succ,qint_i,qeqI_self,e1,e2,k0,inb_S h,get_S h,f0,f1,f2,f3,f4,a0,a1,a2,qcmp_neq,hA'.1,hA'.2,decide_true,Bool.not_true,cond_true,cond_false]
   have s1:=set_S Q (idxS Q a) ⟨Q[idxS Q a].a,Q[idxS Q a].b,Q[idxS Q a].c,addc Q[idxS Q a].d,Q[idxS Q a].e⟩
   have s2:=set_S Q (idxS Q a) ⟨Q[idxS Q a].a,Q[idxS Q a].b,addc Q[idxS Q a].c,Q[idxS Q a].d,Q[idxS Q a].e⟩
   unfold sDl addc at s1 s2
   simp only at s1 s2
   rw[s1,s2,ins_hit Q a h hA]
   have l1:∀s,qcmp .eql (qlen (dS Q)) (qlen (dS (Q.set (idxS Q a) s)))=true:=fun s=>by rw[len_S,len_S,List.length_set];exact qeqI_self _
   simp only[l1,cond_true]
   unfold bump addc
   cases a.ab<;>rfl
  rw[this]
 ·have hmiss:∀h:idxS Q a<Q.length,isA Q[idxS Q a] a=false:=fun h=>by
   cases hA:isA Q[idxS Q a] a with
   |false=>rfl
   |true=>exact absurd ⟨h,hA⟩ hhit
  have e2:qcmp .leq (idxS Q a:Int) (qlen (dS Q))=true:=by rw[qcmp_leq,len_S,decide_eq_true_eq];omega
  have hno:F39_o [acD a,dS Q]=none:=by
   rw[F39_o_eq,ho]
   simp only[qsome_s,qnth_s,List.getD_cons_zero,List.getD_cons_succ,qint_i,qeqI_self,k0,cond_true]
   by_cases h:idxS Q a<Q.length
   ·have e1:qcmp .eql (idxS Q a:Int) (qlen (dS Q))=false:=by rw[qcmp_eql,len_S,decide_eq_false_iff_not];omega
    have e3:qcmp .lss (idxS Q a:Int) (qlen (dS Q))=true:=by rw[qcmp_lss,len_S,decide_eq_true_eq];omega
    have hA:=hmiss h
    simp only[e1,e2,e3,inb_S h,get_S h,f0,f1,a0,a1,qcmp_neq,cond_true,cond_false]
    by_cases h1:Q[idxS Q a].a=a.ao
    ·by_cases h2:Q[idxS Q a].b=a.aw
     ·simp[isA,h1,h2]at hA
     ·simp[h1,h2]
    ·simp[h1]
   ·have e1:qcmp .eql (idxS Q a:Int) (qlen (dS Q))=true:=by rw[qcmp_eql,len_S,decide_eq_true_eq];omega
    simp[e1,e2]
  rw[hno]
  show F39_r [dS Q,acD a]=_
  have sa:qsub (dS Q) 0 (idxS Q a:Int)=dS (Q.take (idxS Q a)):=by have:=sub_S Q 0 (idxS Q a);simpa using this
  have sb:qsub (dS Q) (idxS Q a:Int) (qlen (dS Q))=dS (Q.drop (idxS Q a)):=by
   rw[len_S,sub_S,List.take_of_length_le (by rw[List.length_drop];omega)]
  have ap1:=app_S (Q.take (idxS Q a)) [fr a]
  have hfr:dS [fr a] = .list [.agg [.int a.ao, .int a.aw, .int 0, .int 0, .bool false]]:=rfl
  rw[hfr]at ap1
  have lt:(Q.take (idxS Q a)).length=idxS Q a:=by rw[List.length_take];omega
  have ld:(Q.drop (idxS Q a)).length=Q.length-idxS Q a:=List.length_drop
  have m1:qmem (qlen (dS (Q.take (idxS Q a)))) 40=true:=by rw[len_S];exact memM (by omega) (by omega)
  have m2:qmem (qlen (dS (Q.take (idxS Q a) ++ [fr a]))) 40=true:=by rw[len_S];exact memM (by simp only[List.length_append,List.length_cons,List.length_nil];omega) (by omega)
  have m3:qmem (qlen (dS (Q.take (idxS Q a) ++ [fr a]++Q.drop (idxS Q a)))) 40=true:=by rw[len_S];exact memM (by simp only[List.length_append,List.length_cons,List.length_nil];omega) (by omega)
  have lk:idxS Q a<(Q.take (idxS Q a) ++ [fr a]++Q.drop (idxS Q a)).length:=by simp only[List.length_append,List.length_cons,List.length_nil];omega
  have c1:qcmp .lss (idxS Q a:Int) (qlen (dS (Q.take (idxS Q a) ++ [fr a]++Q.drop (idxS Q a))))=true:=by rw[qcmp_lss,len_S,decide_eq_true_eq];omega
  have gk:qget (dS (Q.take (idxS Q a) ++ [fr a]++Q.drop (idxS Q a))) (idxS Q a:Int)=sDl (fr a):=by
   have ge:(Q.take (idxS Q a) ++ [fr a]++Q.drop (idxS Q a))[idxS Q a]'lk=fr a:=by
    rw[List.getElem_append_left (by simp only[List.length_append,List.length_cons,List.length_nil];omega),List.getElem_append_right (by omega)]
    simp[lt]
   rw[get_S lk,ge]
  have key:∀s,(Q.take (idxS Q a) ++ [fr a]++Q.drop (idxS Q a)).set (idxS Q a) s=Q.take (idxS Q a)++s::Q.drop (idxS Q a):=fun s=>by
   rw[List.append_assoc,List.set_append_right _ _ (by omega)]
   simp[lt]
  have s1:=set_S (Q.take (idxS Q a) ++ [fr a]++Q.drop (idxS Q a)) (idxS Q a) ⟨(fr a).a,(fr a).b,(fr a).c,addc (fr a).d,(fr a).e⟩
  have s2:=set_S (Q.take (idxS Q a) ++ [fr a]++Q.drop (idxS Q a)) (idxS Q a) ⟨(fr a).a,(fr a).b,addc (fr a).c,(fr a).d,(fr a).e⟩
  have l1:∀s,qcmp .eql (qlen (dS (Q.take (idxS Q a) ++ [fr a]++Q.drop (idxS Q a)))) (qlen (dS ((Q.take (idxS Q a) ++ [fr a]++Q.drop (idxS Q a)).set (idxS Q a) s)))=true:=fun s=>by rw[len_S,len_S,List.length_set];exact qeqI_self _
  have l1':∀s,qcmp .eql (qlen (dS (Q.take (idxS Q a) ++ [fr a]++Q.drop (idxS Q a)))) (qlen (dS (Q.take (idxS Q a)++s::Q.drop (idxS Q a))))=true:=fun s=>by rw[← key];exact l1 s
  rw[key]at s1 s2
  unfold sDl addc at s1 s2
  simp only at s1 s2
  have k1:qcmp .leq 0 0=true:=by rw[qcmp_leq];rfl
  have k2:qcmp .leq (qlen (dS Q)) (qlen (dS Q))=true:=by rw[qcmp_leq];simp
  rw[F39_r_eq,hr,ins_miss Q a hmiss]
  simp only[qsome_s,qnth_s,List.getD_cons_zero,List.getD_cons_succ,qint_i,qeqI_self,a0,a1,a2,sa,sb,ap1,app_S,m1,m2,m3,e2,c1,k0,k1,k2,inb_S lk,gk,f0,f1,f2,f3,f4,s1,s2,l1',cond_true]
  have hfin:(bif a.ab then some [dS (Q.take (idxS Q a)++⟨(fr a).a,(fr a).b,(fr a).c,qbin .add .i64 (fr a).d 1,(fr a).e⟩::Q.drop (idxS Q a))]else some [dS (Q.take (idxS Q a)++⟨(fr a).a,(fr a).b,qbin .add .i64 (fr a).c 1,(fr a).d,(fr a).e⟩::Q.drop (idxS Q a))])=some [dS (Q.take (idxS Q a)++bump (fr a) a.ab::Q.drop (idxS Q a))]:=by
   unfold bump addc
   cases a.ab<;>rfl
  rw[← hfin]
  by_cases h:idxS Q a<Q.length
  ·have e1:qcmp .eql (idxS Q a:Int) (qlen (dS Q))=false:=by rw[qcmp_eql,len_S,decide_eq_false_iff_not];omega
   have hA:=hmiss h
   simp only[e1,inb_S h,get_S h,f0,f1,qcmp_neq,cond_true,cond_false]
   by_cases h1:Q[idxS Q a].a=a.ao
   ·by_cases h2:Q[idxS Q a].b=a.aw
    ·simp[isA,h1,h2]at hA
    ·simp[h1,h2]
   ·simp[h1]
  ·have e1:qcmp .eql (idxS Q a:Int) (qlen (dS Q))=true:=by rw[qcmp_eql,len_S,decide_eq_true_eq];omega
   simp only[e1,cond_true]
end
end Go.Proofs.YtfdedgmlafelaaaGreatDoor
namespace Go.Proofs.YtfdedgmlafelaaaGreatDoor
set_option linter.unusedSimpArgs false
open Go Go.AM Go.Proofs.YtfdedgmlafelaaaGreatDoor.Sr
noncomputable section
def lt2 (s t:Sl):Prop:=s.a<t.a∨(s.a=t.a∧s.b<t.b)
def upA (a:Ac) (s:Sl):Sl:=if isA s a=true then bump s a.ab else s
theorem bump_k (s:Sl) (b:Bool):(bump s b).a=s.a∧(bump s b).b=s.b:=by unfold bump;cases b<;>exact⟨rfl,rfl⟩
theorem up_k (a:Ac) (s:Sl):(upA a s).a=s.a∧(upA a s).b=s.b:=by
 unfold upA;split
 ·exact bump_k s a.ab
 ·exact⟨rfl,rfl⟩
theorem isA_k {s t:Sl} {a:Ac} (h1:isA s a=true) (h2:isA t a=true):s.a=t.a∧s.b=t.b:=by
 simp only[isA,Bool.and_eq_true,decide_eq_true_eq]at h1 h2;omega
theorem put_hit (a:Ac):∀{P:List Sl},P.Pairwise (fun s t=>¬(s.a=t.a∧s.b=t.b))→P.any (fun s=>isA s a)=true→putS P a=P.map (upA a)
 | [],_,h=>by simp at h
 |s::P,hd,h=>by
  obtain⟨h1,h2⟩:=List.pairwise_cons.1 hd
  unfold putS
  by_cases hA:isA s a=true
  ·rw[if_pos hA,List.map_cons]
   have:P.map (upA a)=P:=by
    refine(List.map_congr_left fun t ht=> ?_).trans (List.map_id' P)
    unfold upA
    rw[if_neg fun hB=>h1 t ht (isA_k hA hB)]
   rw[this];unfold upA;rw[if_pos hA]
  ·have hA':isA s a=false:=by simpa using hA
   rw[List.any_cons,hA',Bool.false_or]at h
   rw[if_neg hA,List.map_cons,put_hit a h2 h]
   unfold upA;rw[if_neg hA]
theorem put_miss (a:Ac):∀{P:List Sl},P.any (fun s=>isA s a)=false→putS P a=P ++ [bump (fr a) a.ab]
 | [],_=>rfl
 |s::P,h=>by
  rw[List.any_cons,Bool.or_eq_false_iff]at h
  unfold putS
  rw[h.1,put_miss a h.2];rfl
theorem lt2_isA {s t:Sl} {a:Ac} (h1:lt2 s t) (h2:isA t a=true):ltA s a=true:=by
 simp only[isA,Bool.and_eq_true,decide_eq_true_eq]at h2
 unfold lt2 at h1
 simp only[ltA,Bool.or_eq_true,Bool.and_eq_true,decide_eq_true_eq]
 omega
theorem inst_hit (a:Ac):∀{Q:List Sl},Q.Pairwise lt2→Q.any (fun s=>isA s a)=true→insS Q a=Q.map (upA a)
 | [],_,h=>by simp at h
 |s::Q,hd,h=>by
  obtain⟨h1,h2⟩:=List.pairwise_cons.1 hd
  unfold insS
  by_cases hA:isA s a=true
  ·have hl:ltA s a=false:=by
    simp only[isA,Bool.and_eq_true,decide_eq_true_eq]at hA
    simp only[ltA,Bool.or_eq_false_iff,Bool.and_eq_false_iff,decide_eq_false_iff_not]
    omega
   rw[hl,if_neg (by simp),if_pos hA,List.map_cons]
   have:Q.map (upA a)=Q:=by
    refine(List.map_congr_left fun t ht=> ?_).trans (List.map_id' Q)
    unfold upA
    rw[if_neg fun hB=>by
     have:=isA_k hA hB
     have:=h1 t ht
     unfold lt2 at this;omega]
   rw[this];unfold upA;rw[if_pos hA]
  ·have hA':isA s a=false:=by simpa using hA
   rw[List.any_cons,hA',Bool.false_or]at h
   obtain⟨t,ht,hB⟩:=List.any_eq_true.1 h
   rw[if_pos (lt2_isA (h1 t ht) hB),List.map_cons,inst_hit a h2 h]
   unfold upA;rw[if_neg hA]
theorem inst_miss (a:Ac):∀{Q:List Sl},Q.Pairwise lt2→Q.any (fun s=>isA s a)=false→(insS Q a).Perm (bump (fr a) a.ab::Q)∧(insS Q a).Pairwise lt2
 | [],_,_=>⟨.refl _,by simp[insS]⟩
 |s::Q,hd,h=>by
  obtain⟨h1,h2⟩:=List.pairwise_cons.1 hd
  rw[List.any_cons,Bool.or_eq_false_iff]at h
  obtain⟨i1,i2⟩:=inst_miss a h2 h.2
  have hk:=bump_k (fr a) a.ab
  unfold insS
  by_cases hl:ltA s a=true
  ·rw[if_pos hl]
   refine⟨(List.Perm.cons s i1).trans (.swap _ _ _),List.pairwise_cons.2 ⟨fun t ht=> ?_,i2⟩⟩
   rcases List.mem_cons.1 (i1.mem_iff.1 ht)with rfl|ht
   ·unfold lt2;rw[hk.1,hk.2]
    simp only[ltA,Bool.or_eq_true,Bool.and_eq_true,decide_eq_true_eq]at hl
    exact hl
   ·exact h1 t ht
  ·rw[if_neg hl,h.1,if_neg (by simp)]
   have hs:lt2 (bump (fr a) a.ab) s:=by
    unfold lt2;rw[hk.1,hk.2]
    have h9:=h.1
    simp only[isA,Bool.and_eq_false_iff,decide_eq_false_iff_not]at h9
    have h8:ltA s a=false:=by simpa using hl
    simp only[ltA,Bool.or_eq_false_iff,Bool.and_eq_false_iff,decide_eq_false_iff_not]at h8
    show a.ao<s.a∨a.ao=s.a∧a.aw<s.b
    omega
   refine⟨.refl _,List.pairwise_cons.2 ⟨fun t ht=> ?_,hd⟩⟩
   rcases List.mem_cons.1 ht with rfl|ht
   ·exact hs
   ·have:=h1 t ht
    unfold lt2 at *;omega
theorem pair_of {P Q:List Sl} (hp:Q.Perm P) (hs:Q.Pairwise lt2):P.Pairwise (fun s t=>¬(s.a=t.a∧s.b=t.b)):=by
 refine(hp.pairwise_iff (fun{x y} h e=>h ⟨e.1.symm,e.2.symm⟩)).1 (hs.imp fun h e=> ?_)
 unfold lt2 at h;omega
theorem both (B:List Ac):(B.foldl insS []).Perm (B.foldl putS [])∧(B.foldl insS []).Pairwise lt2:=by
 have key:∀(B:List Ac) (P Q:List Sl),Q.Perm P→Q.Pairwise lt2→(B.foldl insS Q).Perm (B.foldl putS P)∧(B.foldl insS Q).Pairwise lt2:=by
  intro B
  induction B with
  |nil=>intro P Q h1 h2;exact⟨h1,h2⟩
  |cons a B ih=>
   intro P Q hp hs
   rw[List.foldl_cons,List.foldl_cons]
   have hany:Q.any (fun s=>isA s a)=P.any (fun s=>isA s a):=by
    rw[Bool.eq_iff_iff]
    simp only[List.any_eq_true]
    exact⟨fun⟨x,hx,h⟩=>⟨x,hp.mem_iff.1 hx,h⟩,fun⟨x,hx,h⟩=>⟨x,hp.mem_iff.2 hx,h⟩⟩
   cases hA:Q.any (fun s=>isA s a)with
   |true=>
    refine ih _ _ ?_ ?_
    ·rw[inst_hit a hs hA,put_hit a (pair_of hp hs) (by rw[← hany,hA])]
     exact hp.map _
    ·rw[inst_hit a hs hA,List.pairwise_map]
     refine hs.imp fun{x y} h=> ?_
     unfold lt2 at *
     rw[(up_k a x).1,(up_k a x).2,(up_k a y).1,(up_k a y).2];exact h
   |false=>
    obtain⟨i1,i2⟩:=inst_miss a hs hA
    refine ih _ _ ?_ i2
    rw[put_miss a (by rw[← hany,hA])]
    exact i1.trans ((List.Perm.cons _ hp).trans (List.perm_append_singleton _ _).symm)
 exact key B [] [] (.refl _) .nil
def insOf (A:List Ac):List Sl:=(A.filter neg).foldl insS []
theorem ins_sort (A:List Ac):insOf A=sortS (mapOf A):=by
 obtain⟨h1,h2⟩:=both (A.filter neg)
 refine sortS_eq h1 (h2.imp fun{x y} h=> ?_) (pair_of h1 h2)
 unfold lt2 at h
 simp only[ltS,Bool.or_eq_false_iff,Bool.and_eq_false_iff,decide_eq_false_iff_not]
 omega
theorem map_pair (A:List Ac):(mapOf A).Pairwise (fun s t=>¬(s.a=t.a∧s.b=t.b)):=pair_of (both (A.filter neg)).1 (both (A.filter neg)).2
theorem ins_lt (A:List Ac):(insOf A).Pairwise lt2:=(both (A.filter neg)).2
theorem put_len (a:Ac):∀P:List Sl,(putS P a).length≤P.length+1
 | []=>by simp[putS]
 |s::P=>by
  have:=put_len a P
  unfold putS
  split<;>simp only[List.length_cons]<;>omega
theorem map_len (A:List Ac):(mapOf A).length≤A.length:=by
 have key:∀(B:List Ac) (P:List Sl),(B.foldl putS P).length≤P.length+B.length:=by
  intro B
  induction B with
  |nil=>intro P;simp
  |cons a B ih=>
   intro P
   have h1:=ih (putS P a)
   have h2:=put_len a P
   rw[List.foldl_cons,List.length_cons];omega
 have h1:=key (A.filter neg) []
 have h2:(A.filter neg).length≤A.length:=List.length_filter_le _ _
 unfold mapOf
 simp only[List.length_nil]at h1;omega
theorem ins_len (A:List Ac):(insOf A).length≤A.length:=by
 have:=(both (A.filter neg)).1.length_eq
 have h:=map_len A
 unfold insOf;unfold mapOf at h;omega
theorem put_mem (a:Ac):∀(P:List Sl) (o:Int),(∃s∈putS P a,s.a=o)↔(a.ao=o∨∃s∈P,s.a=o)
 | [],o=>by
   have:=(bump_k ⟨a.ao,a.aw,0,0,false⟩ a.ab).1
   simp only[putS,List.mem_singleton,exists_eq_left,List.not_mem_nil,false_and,exists_false,or_false]
   rw[this]
 |s::P,o=>by
  have ih:=put_mem a P o
  unfold putS
  by_cases hA:isA s a=true
  ·rw[if_pos hA]
   have hb:=(bump_k s a.ab).1
   simp only[isA,Bool.and_eq_true,decide_eq_true_eq]at hA
   simp only[List.mem_cons,exists_eq_or_imp,hb]
   rw[hA.1];constructor
   ·rintro(h|h)
    ·exact .inl h
    ·exact .inr (.inr h)
   ·rintro(h|h|h)
    ·exact .inl h
    ·exact .inl h
    ·exact .inr h
  ·rw[if_neg hA]
   simp only[List.mem_cons,exists_eq_or_imp]
   rw[ih];constructor
   ·rintro(h|h|h)
    ·exact .inr (.inl h)
    ·exact .inl h
    ·exact .inr (.inr h)
   ·rintro(h|h|h)
    ·exact .inr (.inl h)
    ·exact .inl h
    ·exact .inr (.inr h)
theorem map_mem (A:List Ac) (o:Int):(∃s∈mapOf A,s.a=o)↔∃a∈A.filter neg,a.ao=o:=by
 have key:∀(B:List Ac) (P:List Sl),(∃s∈B.foldl putS P,s.a=o)↔((∃a∈B,a.ao=o)∨∃s∈P,s.a=o):=by
  intro B
  induction B with
  |nil=>intro P;simp
  |cons a B ih=>
   intro P
   rw[List.foldl_cons,ih,put_mem]
   simp only[List.mem_cons,exists_eq_or_imp]
   constructor
   ·rintro(h|h|h)
    ·exact .inl (.inr h)
    ·exact .inl (.inl h)
    ·exact .inr h
   ·rintro((h|h)|h)
    ·exact .inr (.inl h)
    ·exact .inl h
    ·exact .inr (.inr h)
 have:=key (A.filter neg) []
 simpa[mapOf]using this
theorem ins_mem (A:List Ac) (o:Int):(∃s∈insOf A,s.a=o)↔∃a∈A.filter neg,a.ao=o:=by
 rw[← map_mem]
 have hp:=(both (A.filter neg)).1
 exact⟨fun⟨s,hs,h⟩=>⟨s,hp.mem_iff.1 hs,h⟩,fun⟨s,hs,h⟩=>⟨s,hp.mem_iff.2 hs,h⟩⟩
theorem fold_max:∀(l:List Int) (x y:Int),l.foldl max x≤y↔x≤y∧∀z∈l,z≤y
 | [],x,y=>by simp
 |z::l,x,y=>by
  rw[List.foldl_cons,fold_max l]
  simp only[List.mem_cons,forall_eq_or_imp]
  exact⟨fun⟨h1,h2⟩=>⟨by omega,by omega,h2⟩,fun⟨h1,h2,h3⟩=>⟨by omega,h3⟩⟩
theorem fold_low (A:List Ac) (Ds:List Int):((insOf A).map fun s=> -s.a).foldl max (mx Ds)=lowOf Ds A:=by
 have h0:0≤mx Ds:=((fold_max Ds 0 (mx Ds)).1 (Int.le_refl _)).1
 have h:∀y,((insOf A).map fun s=> -s.a).foldl max (mx Ds)≤y↔lowOf Ds A≤y:=fun y=>by
  rw[fold_max]
  unfold lowOf
  have h1:mx (offs A)≤y↔0≤y∧∀z∈offs A,z≤y:=fold_max _ _ _
  have h2:(∀z∈(insOf A).map (fun s=> -s.a),z≤y)↔∀z∈offs A,z≤y:=by
   unfold offs
   simp only[List.mem_map,forall_exists_index,and_imp,forall_apply_eq_imp_iff₂]
   constructor
   ·intro h a ha
    obtain⟨s,hs,e⟩:=(ins_mem A a.ao).2 ⟨a,ha,rfl⟩
    have:=h s hs;omega
   ·intro h s hs
    obtain⟨a,ha,e⟩:=(ins_mem A s.a).1 ⟨s,hs,rfl⟩
    have:=h a ha;omega
  rw[h2]
  constructor
  ·rintro⟨a1,a2⟩
   have:=h1.2 ⟨by omega,a2⟩
   omega
  ·intro h3
   have h4:mx Ds≤y∧mx (offs A)≤y:=by omega
   exact⟨h4.1,(h1.1 h4.2).2⟩
 have a1:=(h (lowOf Ds A)).2 (Int.le_refl _)
 have a2:=(h _).1 (Int.le_refl (((insOf A).map fun s=> -s.a).foldl max (mx Ds)))
 omega
end
end Go.Proofs.YtfdedgmlafelaaaGreatDoor
namespace Go.Proofs.YtfdedgmlafelaaaGreatDoor
set_option linter.unusedSimpArgs false
open Go Go.AM Go.Proofs.YtfdedgmlafelaaaGreatDoor.Sr
noncomputable section
def addi (a b:Int):Int:=qbin .add .i64 a b
def ov (s o:Sl):Bool:=decide (s.a<addi o.a o.b)&&decide (o.a<addi s.a s.b)
def ne2 (s o:Sl):Bool:= !decide (o.a=s.a) || !decide (o.b=s.b)
def shar (Q:List Sl) (s:Sl):Bool:=Q.any fun o=>ne2 s o&&ov s o
def esc (Q:List Sl) (lk:Bool) (s:Sl):Sl:=⟨s.a,s.b,s.c,s.d,lk||decide (0<addi s.a s.b)||decide (s.a < -4092)||shar Q s⟩
def half (Q:List Sl) (lk:Bool) (i:Nat):List Sl:=(Q.take i).map (esc Q lk)++Q.drop i
theorem half_len (Q:List Sl) (lk:Bool) (i:Nat):(half Q lk i).length=Q.length:=by
 unfold half;simp only[List.length_append,List.length_map,List.length_take,List.length_drop];omega
theorem half_get {Q:List Sl} {lk:Bool} {i:Nat} (h:i<Q.length):(half Q lk i)[i]'(by rw[half_len];exact h)=Q[i]:=by
 unfold half
 rw[List.getElem_append_right (by simp only[List.length_map,List.length_take];omega)]
 simp[List.length_take,Nat.min_eq_left (Nat.le_of_lt h)]
theorem half_set {Q:List Sl} {lk:Bool} {i:Nat} (h:i<Q.length):(half Q lk i).set i (esc Q lk Q[i])=half Q lk (i+1):=by
 unfold half
 have h1:((Q.take i).map (esc Q lk)).length=i:=by rw[List.length_map,List.length_take];omega
 rw[List.set_append_right _ _ (by omega),h1,Nat.sub_self,List.drop_eq_getElem_cons h,List.set_cons_zero,List.take_add_one,List.getElem?_eq_getElem h,List.map_append]
 simp only[Option.toList,List.map_cons,List.map_nil,List.append_assoc,List.cons_append,List.nil_append]
theorem half_keys (Q:List Sl) (lk:Bool) (i:Nat):(half Q lk i).map (fun s=>(s.a,s.b))=Q.map fun s=>(s.a,s.b):=by
 unfold half
 rw[List.map_append,List.map_map]
 have:((fun s:Sl=>(s.a,s.b))∘esc Q lk)=fun s=>(s.a,s.b):=by funext s;rfl
 rw[this, ← List.map_append,List.take_append_drop]
theorem shar_keys {Q R:List Sl} (h:Q.map (fun s=>(s.a,s.b))=R.map fun s=>(s.a,s.b)) (s:Sl):shar Q s=shar R s:=by
 have key:∀Q:List Sl,shar Q s=(Q.map fun s=>(s.a,s.b)).any fun p=>(!decide (p.1=s.a) || !decide (p.2=s.b))&&(decide (s.a<addi p.1 p.2)&&decide (p.1<addi s.a s.b)):=fun Q=>by
  rw[List.any_map];rfl
 rw[key,key,h]
theorem half_full (Q:List Sl) (lk:Bool):half Q lk Q.length=Q.map (esc Q lk):=by
 unfold half;rw[List.take_length,List.drop_length,List.append_nil]
theorem half_zero (Q:List Sl) (lk:Bool):half Q lk 0=Q:=by unfold half;simp
theorem cl33 (o s:Sl):q33 [sDl o,sDl s]=some [.bool (ne2 s o&&ov s o)]:=by
 have h34:q34 [sDl s,sDl o]=some [.bool (ov s o)]:=by
  rw[q34_eq,F34_eq]
  simp only[f0,f1,qcmp_lss,qiteB_c]
  unfold ov addi
  cases decide (s.a<qbin .add .i64 o.a o.b)<;>rfl
 rw[q33_eq,F33_eq,h34]
 simp only[f0,f1,qcmp_neq,qiteB_c,qsome_s,qnth_s,List.getD_cons_zero,qbool_b,Bool.cond_self,cond_true]
 unfold ne2
 cases decide (o.a=s.a)<;>cases decide (o.b=s.b)<;>simp
theorem shared_p {Q:List Sl} (hl:Q.length≤1000000) (s:Sl):q32_33 [dS Q,sDl s]=some [.bool (shar Q s)]:=by
 have hd:∀x∈(dS Q).toList,∃o,x=sDl o:=fun x hx=>by
  unfold dS at hx
  simp only[D.toList,List.mem_map]at hx
  obtain⟨o,_,rfl⟩:=hx
  exact⟨o,rfl⟩
 have h1:=idxLoop (st:=st70_33_2 [dS Q,sDl s, .int (qlen (dS Q))]) (l:=dS Q) (c:=fun x=>q33 [x,sDl s]) (p:=fun x=>ne2 s (slD x)&&ov s (slD x)) (r1:=fun i=>[.int 1, .int i]) (r0:=[.int 0])
  (fun i=>by rw[st70_33_2_eq]) (by unfold maxLen;simp only[dS,D.toList,List.length_map];omega) (fun x hx=>by
   obtain⟨o,rfl⟩:=hd x hx
   rw[cl33,slD_sDl])
 have hany:(dS Q).toList.any (fun x=>ne2 s (slD x)&&ov s (slD x))=shar Q s:=by
  unfold dS shar
  simp only[D.toList,List.any_map]
  congr 1
  funext o
  simp only[Function.comp,slD_sDl]
 rw[hany]at h1
 rw[q32_33_eq,F32_33_eq,q70_33_eq,F70_33_eq,l70_33_2_eq]
 rcases h1 with⟨h1,h2⟩|⟨i,h1,h2⟩
 ·simp[h1,h2,qsome_s,qnth_s,qint_i,qcmp_eql,qcmp_geq]
 ·simp[h1,h2,qsome_s,qnth_s,qint_i,qcmp_eql,qcmp_geq]
theorem esc_p {Q:List Sl} (hl:Q.length≤1000000) {low:Int} {bal lk:Bool} {m:D} {low2:Int}:∀(k i:Nat),i+k=Q.length→
 loW (st10_24 [.int (Q.length:Int), .int low, .bool bal,m, .bool lk, .int low2]) [.int i,dS (half Q lk i)]=some [.int 0,dS (Q.map (esc Q lk))]
 |0,i,hi=>by
  obtain rfl:i=Q.length:=by omega
  rw[loW_eq,st10_24_eq,qcmp_lss,decide_eq_false (by omega),half_full]
  simp[qeqI_self]
 |k+1,i,hi=>by
  have hlt:i<Q.length:=by omega
  have hlh:i<(half Q lk i).length:=by rw[half_len];exact hlt
  have ih:=esc_p hl (low:=low) (bal:=bal) (lk:=lk) (m:=m) (low2:=low2) k (i+1) (by omega)
  have c0:qcmp .leq 0 (i:Int)=true:=by rw[qcmp_leq];simp
  have c1:qcmp .lss (i:Int) (qlen (dS (half Q lk i)))=true:=by rw[qcmp_lss,len_S,half_len,decide_eq_true_eq];omega
  have hsh:q32_33 [dS (half Q lk i),sDl Q[i]]=some [.bool (shar Q Q[i])]:=by
   rw[shared_p (by rw[half_len];exact hl),shar_keys (half_keys Q lk i)]
  have hl1:∀s,qcmp .eql (qlen (dS (half Q lk i))) (qlen (dS ((half Q lk i).set i s)))=true:=fun s=>by rw[len_S,len_S,List.length_set];exact qeqI_self _
  have s0:∀b,qset (dS (half Q lk i)) (i:Int) (.agg [.int Q[i].a, .int Q[i].b, .int Q[i].c, .int Q[i].d, .bool b])=dS ((half Q lk i).set i ⟨Q[i].a,Q[i].b,Q[i].c,Q[i].d,b⟩):=fun b=>set_S (half Q lk i) i ⟨Q[i].a,Q[i].b,Q[i].c,Q[i].d,b⟩
  rw[loW_eq,st10_24_eq,qcmp_lss,decide_eq_true (by omega)]
  simp only[c0,c1,inb_S hlh,get_S hlh,half_get hlt,hsh,f0,f1,f2,f3,s0,hl1,qsome_s,qnth_s,List.getD_cons_zero,qbool_b,qeqI_self,qcmp_gtr,qcmp_lss,cond_true,add_nat (show i<9223372036854775807 by omega)]
  have hset:=half_set (lk:=lk) hlt
  unfold esc at hset
  rw[← hset]at ih
  unfold addi at ih
  cases hlk:lk with
  |true=>simp only[hlk,Bool.true_or,cond_true]at ih ⊢;exact ih
  |false=>
   simp only[hlk,Bool.false_or,cond_false]at ih ⊢
   cases h2:decide (0<qbin .add .i64 Q[i].a Q[i].b)with
   |true=>simp only[h2,Bool.true_or,cond_true]at ih ⊢;exact ih
   |false=>
    simp only[h2,Bool.false_or,cond_false]at ih ⊢
    cases h3:decide (Q[i].a < -4092)with
    |true=>simp only[h3,Bool.true_or,cond_true]at ih ⊢;exact ih
    |false=>simp only[h3,Bool.false_or,cond_false]at ih ⊢;exact ih
theorem in_r {Q:List Sl} (hl:Q.length≤1000000) {s:Sl} {i:Nat} {a3:Int} {bal lk:Bool} {A:D}:∀(k j:Nat) (b:Bool),j+k=Q.length→
 loW (st11_39 [.int i,sDl s,dS Q, .int a3, .bool bal,A, .bool lk]) [.bool b, .int j]=some [.int 0, .bool (b||(List.range' j k).any fun m=>(!decide (m=i))&&ov s (Q.getD m s))]
 |0,j,b,hj=>by
  rw[loW_eq,st11_39_eq,qcmp_lss,len_S,decide_eq_false (by omega)]
  simp[qeqI_self]
 |k+1,j,b,hj=>by
  have hlt:j<Q.length:=by omega
  have hg:Q.getD j s=Q[j]:=by simp[List.getD,hlt]
  have c0:qcmp .leq 0 (j:Int)=true:=by rw[qcmp_leq];simp
  rw[loW_eq,st11_39_eq,qcmp_lss,len_S,decide_eq_true (by omega)]
  simp only[c0,inb_S hlt,get_S hlt,f0,f1,qeqI_self,cond_true,qcmp_lss,qcmp_neq,add_nat (show j<9223372036854775807 by omega)]
  rw[List.range'_succ,List.any_cons,hg]
  cases b with
  |true=>
   simp only[cond_true]
   rw[in_r hl k (j+1) true (by omega)];simp
  |false=>
   simp only[cond_false]
   unfold ov addi
   by_cases h1:j=i
   ·subst h1
    simp only[decide_true,Bool.not_true,cond_false,Bool.false_and,Bool.false_or]
    rw[in_r hl k (j+1) false (by omega)];simp[ov,addi]
   ·have h1':decide ((j:Int)=(i:Int))=false:=by rw[decide_eq_false_iff_not];omega
    rw[h1']
    simp only[Bool.not_false,cond_true,decide_eq_false h1,Bool.true_and]
    by_cases h2:Q[j].a<qbin .add .i64 s.a s.b
    ·rw[decide_eq_true h2]
     simp only[cond_true,Bool.and_true]
     rw[in_r hl k (j+1) _ (by omega)];simp[ov,addi]
    ·rw[decide_eq_false h2]
     simp only[cond_false,Bool.and_false]
     rw[in_r hl k (j+1) _ (by omega)];simp[ov,addi]
theorem shar_idx {Q:List Sl} (hd:Q.Pairwise lt2) {i:Nat} (hi:i<Q.length):((List.range' 0 Q.length).any fun m=>(!decide (m=i))&&ov Q[i] (Q.getD m Q[i]))=shar Q Q[i]:=by
 rw[Bool.eq_iff_iff]
 unfold shar
 simp only[List.any_eq_true,Bool.and_eq_true]
 constructor
 ·rintro⟨m,hm,h1,h2⟩
  have hm':m<Q.length:=by simpa using hm
  have hg:Q.getD m Q[i]=Q[m]:=by simp[List.getD,hm']
  rw[hg]at h2
  refine⟨Q[m],List.getElem_mem _,?_,h2⟩
  have hne:m≠i:=by simpa using h1
  unfold ne2
  have:¬(Q[m].a=Q[i].a∧Q[m].b=Q[i].b):=by
   rw[List.pairwise_iff_getElem]at hd
   rcases Nat.lt_or_gt_of_ne hne with h|h
   ·have:=hd m i hm' hi h;unfold lt2 at this;omega
   ·have:=hd i m hi hm' h;unfold lt2 at this;omega
  simp only[Bool.or_eq_true,Bool.not_eq_true',decide_eq_false_iff_not]
  omega
 ·rintro⟨o,ho,h1,h2⟩
  obtain⟨m,hm,rfl⟩:=List.getElem_of_mem ho
  refine⟨m,by simpa using hm,?_,?_⟩
  ·simp only[Bool.not_eq_true',decide_eq_false_iff_not]
   rintro rfl
   unfold ne2 at h1
   simp at h1
  ·have hg:Q.getD m Q[i]=Q[m]:=by simp[List.getD,hm]
   rw[hg];exact h2
theorem half_pair {Q:List Sl} (hd:Q.Pairwise lt2) (lk:Bool) (i:Nat):(half Q lk i).Pairwise lt2:=by
 have h1:(Q.map fun s=>(s.a,s.b)).Pairwise (fun p q=>p.1<q.1∨(p.1=q.1∧p.2<q.2)):=by rw[List.pairwise_map];exact hd
 rw[← half_keys Q lk i,List.pairwise_map]at h1
 exact h1
theorem esc_r {Q:List Sl} (hl:Q.length≤1000000) (hd:Q.Pairwise lt2) (hr:∀s∈Q, -2147483648≤s.a∧s.a<2147483648) {bal lk:Bool} {A:D}:∀(k i:Nat) (z:Int),i+k=Q.length→
 loW (st11_32 [.bool bal,A, .bool lk]) [.int i,dS (half Q lk i), .int z]=some [.int 0,dS (Q.map (esc Q lk)), .int (((Q.drop i).map fun s=> -s.a).foldl max z)]
 |0,i,z,hi=>by
  obtain rfl:i=Q.length:=by omega
  rw[loW_eq,st11_32_eq,qcmp_lss,len_S,half_len,decide_eq_false (by omega),half_full,List.drop_length]
  simp[qeqI_self]
 |k+1,i,z,hi=>by
  have hlt:i<Q.length:=by omega
  have hlh:i<(half Q lk i).length:=by rw[half_len];exact hlt
  have ih:=fun z=>esc_r hl hd hr (bal:=bal) (lk:=lk) (A:=A) k (i+1) z (by omega)
  have c0:qcmp .leq 0 (i:Int)=true:=by rw[qcmp_leq];simp
  have c1:qcmp .lss (i:Int) (qlen (dS (half Q lk i)))=true:=by rw[qcmp_lss,len_S,half_len,decide_eq_true_eq];omega
  have hin:∀a3 b,l11_39 [.int i,sDl Q[i],dS (half Q lk i), .int a3, .bool bal,A, .bool lk] [.bool b, .int 0]=some [.int 0, .bool (b||shar Q Q[i])]:=fun a3 b=>by
   have h1:=in_r (Q:=half Q lk i) (by rw[half_len];exact hl) (s:=Q[i]) (i:=i) (a3:=a3) (bal:=bal) (lk:=lk) (A:=A) (half Q lk i).length 0 b (by omega)
   have h2:=shar_idx (half_pair hd lk i) hlh
   rw[half_get hlt,shar_keys (half_keys Q lk i)]at h2
   rw[h2]at h1
   rw[l11_39_eq];exact h1
  have hl1:∀s,qcmp .eql (qlen (dS (half Q lk i))) (qlen (dS ((half Q lk i).set i s)))=true:=fun s=>by rw[len_S,len_S,List.length_set];exact qeqI_self _
  have s0:∀b,qset (dS (half Q lk i)) (i:Int) (.agg [.int Q[i].a, .int Q[i].b, .int Q[i].c, .int Q[i].d, .bool b])=dS ((half Q lk i).set i ⟨Q[i].a,Q[i].b,Q[i].c,Q[i].d,b⟩):=fun b=>set_S (half Q lk i) i ⟨Q[i].a,Q[i].b,Q[i].c,Q[i].d,b⟩
  have hneg:qun .neg .i64 Q[i].a = -Q[i].a:=neg_w (hr _ (List.getElem_mem hlt)).1 (hr _ (List.getElem_mem hlt)).2
  have hset:=half_set (lk:=lk) hlt
  unfold esc at hset
  have he:(bif bif lk then true else decide (0<addi Q[i].a Q[i].b)then true else decide (Q[i].a < -4092))=(lk||decide (0<addi Q[i].a Q[i].b)||decide (Q[i].a < -4092)):=by
   cases lk<;>cases decide (0<addi Q[i].a Q[i].b)<;>rfl
  unfold addi at he hset
  have hl2:qcmp .eql (qlen (dS (half Q lk i))) (qlen (dS (half Q lk (i+1))))=true:=by rw[len_S,len_S,half_len,half_len];exact qeqI_self _
  rw[loW_eq,st11_32_eq,c1,List.drop_eq_getElem_cons hlt,List.map_cons,List.foldl_cons]
  simp only[c0,c1,inb_S hlh,get_S hlh,half_get hlt,f0,f1,f2,f3,hneg,qiteB_c,qcmp_gtr,qcmp_lss,he,hin,s0,hl1,qsome_s,qnth_s,List.getD_cons_zero,List.getD_cons_succ,qbool_b,qeqI_self,cond_true,add_nat (show i<9223372036854775807 by omega),hset,hl2]
  by_cases hz:z < -Q[i].a
  ·rw[decide_eq_true hz]
   simp only[cond_true]
   rw[ih,Int.max_eq_right (by omega)]
  ·rw[decide_eq_false hz]
   simp only[cond_false]
   rw[ih,Int.max_eq_left (by omega)]
end
end Go.Proofs.YtfdedgmlafelaaaGreatDoor
namespace Go.Proofs.YtfdedgmlafelaaaGreatDoor
set_option linter.unusedSimpArgs false
open Go Go.AM Go.Proofs.YtfdedgmlafelaaaGreatDoor.Sr
noncomputable section
def accB:List D→Int→List Ac
 | [],_=>[]
 |s::ss,d=>accS s d++(match aft s d with|some e=>accB ss e|none=>[])
def dsB:List D→Int→List Int
 | [],_=>[]
 |s::ss,d=> -d::(match aft s d with|some e=>dsB ss e|none=>[])
def balB:List D→Int→Bool
 | [],_=>true
 |s::ss,d=>(!decide (qint (qfld s 0)=9)||decide (d=4))&&(match aft s d with|some e=>balB ss e|none=>true)
def rng (d:Int):Prop:= -2147483648≤d∧d<2147483648
theorem aft_rng {s:D} {d e:Int} (h:aft s d=some e) (hd:rng d):rng e:=by
 unfold aft at h
 split at h
 ·cases h;exact w_rng _
 ·split at h
  ·cases h
  ·split at h
   ·split at h
    ·cases h;exact w_rng _
    ·cases h
   ·cases h;exact hd
theorem acr_rng:∀{ss:List D} {d e:Int},acr ss d=some e→rng d→rng e
 | [],d,e,h,hd=>by simp only[acr,Option.some.injEq]at h;subst h;exact hd
 |s::ss,d,e,h,hd=>by
  simp only[acr]at h
  cases ha:aft s d with
  |none=>rw[ha]at h;cases h
  |some x=>rw[ha]at h;exact acr_rng h (aft_rng ha hd)
theorem ans_some {r:Option (List D)} {a:Option Int} {x:Int} (h:Ans r a) (ha:a=some x):r=some [.int x, .bool true]:=by
 obtain⟨y,b,h1,h2⟩:=h
 rw[ha]at h2
 cases b with
 |false=>simp at h2
 |true=>simp only[if_true,Option.some.injEq]at h2;rw[h1,h2]
theorem blk_p {X pd0 pd2 pd7:D} {pn3 pn4:Int} (hl:X.toList.length≤maxLen) (hs:∀s∈X.toList,Sok s):∀(k i:Nat) (d e:Int) (bal:Bool) A Ds lk,i+k=X.toList.length→rng d→acr (X.toList.drop i) d=some e→
 loW (st10_14 [pd0, .bool true,pd2, .int pn3, .int pn4,X, .int (qlen X),pd7]) [.int d, .int i, .bool bal,mW (mapOf A), .bool lk, .int (lowOf Ds A)] =
 some (.int 0 :: .bool (bal&&balB (X.toList.drop i) d)::pSt (A++accB (X.toList.drop i) d) (Ds++dsB (X.toList.drop i) d) (lk||(X.toList.drop i).any lkS))
 |0,i,d,e,bal,A,Ds,lk,hi,_,_=>by
  rw[loW_eq,st10_14_eq,qcmp_lss,qlen_c,decide_eq_false (by omega),List.drop_of_length_le (by omega)]
  simp[pSt,accB,dsB,balB]
 |k+1,i,d,e,bal,A,Ds,lk,hi,hd,ha=>by
  have hl':=hl
  unfold maxLen at hl'
  have hlt:i<X.toList.length:=by omega
  have hg:qget X (i:Int)=X.toList[i]:=by rw[qget_n,getD_lt hlt]
  have hsk:=hs _ (List.getElem_mem hlt)
  rw[List.drop_eq_getElem_cons hlt]at ha ⊢
  generalize X.toList[i]=s at *
  simp only[acr]at ha
  cases hd':aft s d with
  |none=>rw[hd']at ha;cases ha
  |some d'=>
   rw[hd']at ha
   have ih:=fun bal=>blk_p (pd0:=pd0) (pd2:=pd2) (pd7:=pd7) (pn3:=pn3) (pn4:=pn4) hl hs k (i+1) d' e bal (A++accS s d) (Ds ++ [-d]) (lk||lkS s) (by omega) (aft_rng hd' hd) ha
   have hq:=ans_some (aft_p hsk.st d) hd'
   have hm:=stm_p hsk hd A Ds lk
   have c0:qcmp .lss (i:Int) (qlen X)=true:=by rw[qcmp_lss,qlen_c,decide_eq_true_eq];omega
   rw[loW_eq,st10_14_eq,c0,qinb_n hlt,hg,hm,hq]
   simp only[accB,dsB,balB,hd',pSt,qsome_s,qnth_s,List.getD_cons_zero,List.getD_cons_succ,qbool_b,qint_i,qnot_c,Bool.not_true,cond_true,cond_false,qcmp_neq,qcmp_eql,add_nat (show i<9223372036854775807 by omega),List.any_cons]
   simp only[pSt]at ih
   cases bal with
   |false=>
    simp only[cond_false]
    rw[ih]
    simp[List.append_assoc,Bool.or_assoc]
   |true=>
    simp only[cond_true]
    by_cases h9:qint (qfld s 0)=9
    ·rw[decide_eq_true h9]
     simp only[Bool.not_true,cond_false]
     rw[ih]
     simp[List.append_assoc,Bool.or_assoc]
    ·rw[decide_eq_false h9]
     simp only[Bool.not_false,cond_true]
     rw[ih]
     simp[List.append_assoc,Bool.or_assoc]
theorem blk_no {X pd0 pd2 pd7:D} {pn3 pn4:Int} {d:Int} {bal lk:Bool} {m:D} {low:Int}:
 loW (st10_14 [pd0, .bool false,pd2, .int pn3, .int pn4,X, .int (qlen X),pd7]) [.int d, .int 0, .bool bal,m, .bool lk, .int low]=some [.int 0, .bool bal,m, .bool lk, .int low]:=by
 rw[loW_eq,st10_14_eq,qcmp_lss]
 cases h:decide (0<qlen X)with
 |false=>rfl
 |true=>
  have:qinb X 0=true:=qinb_n (i:=0) (by have:=of_decide_eq_true h;rw[qlen_c]at this;omega)
  rw[this]
  simp[qnot_c]
theorem blk_r {g pd0 pd1:D} {b:Nat} (hb:b<(qfld g 1).toList.length) (hl:(qfld (blk g b) 1).toList.length≤maxLen) (hs:∀s∈(qfld (blk g b) 1).toList,Sok s):∀(k i:Nat) (d e:Int) (bal:Bool) A Ds lk,i+k=(qfld (blk g b) 1).toList.length→rng d→acr ((qfld (blk g b) 1).toList.drop i) d=some e→
 A.length+(accB ((qfld (blk g b) 1).toList.drop i) d).length≤1000000→
 loW (st11_16 [pd0,pd1, .int b,g]) [.int d, .int i, .int (mx Ds), .bool bal,aL A, .bool lk] =
 some [.int 0, .int (mx (Ds++dsB ((qfld (blk g b) 1).toList.drop i) d)), .bool (bal&&balB ((qfld (blk g b) 1).toList.drop i) d),aL (A++accB ((qfld (blk g b) 1).toList.drop i) d), .bool (lk||((qfld (blk g b) 1).toList.drop i).any lkS)]
 |0,i,d,e,bal,A,Ds,lk,hi,_,_,_=>by
  rw[loW_eq,st11_16_eq,qinb_n hb,show qget (qfld g 1) (b:Int)=blk g b from rfl,qcmp_lss,qlen_c,decide_eq_false (by omega),List.drop_of_length_le (by omega)]
  simp[accB,dsB,balB]
 |k+1,i,d,e,bal,A,Ds,lk,hi,hd,ha,hbd=>by
  have hl':=hl
  unfold maxLen at hl'
  have hlt:i<(qfld (blk g b) 1).toList.length:=by omega
  have hg:qget (qfld (blk g b) 1) (i:Int)=(qfld (blk g b) 1).toList[i]:=by rw[qget_n,getD_lt hlt]
  have hsk:=hs _ (List.getElem_mem hlt)
  rw[List.drop_eq_getElem_cons hlt]at ha hbd ⊢
  generalize (qfld (blk g b) 1).toList[i]=s at *
  simp only[acr]at ha
  cases hd':aft s d with
  |none=>rw[hd']at ha;cases ha
  |some d'=>
   rw[hd']at ha
   simp only[accB,hd',List.length_append]at hbd
   have ih:=fun bal=>blk_r (pd0:=pd0) (pd1:=pd1) hb hl hs k (i+1) d' e bal (A++accS s d) (Ds ++ [-d]) (lk||lkS s) (by omega) (aft_rng hd' hd) ha (by rw[List.length_append];omega)
   have hq:=ans_some (aft_r hsk.st d) hd'
   have hm:=stm_r hsk d A lk (by omega)
   rw[mx_snoc]at ih
   rw[loW_eq,st11_16_eq,qinb_n hb,show qget (qfld g 1) (b:Int)=blk g b from rfl,qcmp_lss,qlen_c,decide_eq_true (by omega),qinb_n hlt,hg,hm,hq,neg_w hd.1 hd.2]
   simp only[accB,dsB,balB,hd',qsome_s,qnth_s,List.getD_cons_zero,List.getD_cons_succ,qbool_b,qint_i,qiteB_c,cond_true,qcmp_neq,qcmp_eql,qcmp_gtr,add_nat (show i<9223372036854775807 by omega),List.any_cons]
   have hbal:(bif (bif decide (qint (qfld s 0)=9)then !decide (d=4)else false)then false else bal)=(bal&&(!decide (qint (qfld s 0)=9)||decide (d=4))):=by
    cases decide (qint (qfld s 0)=9)<;>cases decide (d=4)<;>cases bal<;>rfl
   have hfin:=ih (bif (bif decide (qint (qfld s 0)=9)then !decide (d=4)else false)then false else bal)
   rw[hbal]at hfin
   have hz:max (mx Ds) (-d)=if mx Ds < -d then -d else mx Ds:=by split<;>omega
   rw[hz]at hfin
   have e1:Ds ++ [-d]++dsB (List.drop (i+1) (qfld (blk g b) 1).toList) d'=Ds ++ -d::dsB (List.drop (i+1) (qfld (blk g b) 1).toList) d':=by simp
   have e2:A++accS s d++accB (List.drop (i+1) (qfld (blk g b) 1).toList) d'=A++(accS s d++accB (List.drop (i+1) (qfld (blk g b) 1).toList) d'):=by simp
   rw[e1,e2,Bool.or_assoc,Bool.and_assoc]at hfin
   rw[← hfin, ← hbal]
   by_cases hc:mx Ds < -d
   ·rw[decide_eq_true hc,if_pos hc]
    cases decide (qint (qfld s 0)=9)<;>cases decide (d=4)<;>rfl
   ·rw[decide_eq_false hc,if_neg hc]
    cases decide (qint (qfld s 0)=9)<;>cases decide (d=4)<;>rfl
def blkA (g:D) (R:List Bool) (o:List Int) (b:Nat):List Ac:=if gB R b=true then accB (qfld (blk g b) 1).toList (gI o b)else[]
def blkD (g:D) (R:List Bool) (o:List Int) (b:Nat):List Int:=if gB R b=true then dsB (qfld (blk g b) 1).toList (gI o b)else[]
def blkB (g:D) (R:List Bool) (o:List Int) (b:Nat):Bool:=if gB R b=true then balB (qfld (blk g b) 1).toList (gI o b)else true
def blkL (g:D) (R:List Bool) (b:Nat):Bool:=if gB R b=true then(qfld (blk g b) 1).toList.any lkS else false
structure Rec (g:D) (R:List Bool) (o:List Int) (n:Nat):Prop where
 len:(qfld g 1).toList.length=n
 n256:n≤256
 lr:R.length=n
 lo:o.length=n
 bl:∀b,b<n→(qfld (blk g b) 1).toList.length≤maxLen∧∀s∈(qfld (blk g b) 1).toList,Sok s
 ac:∀b,gB R b=true→rng (gI o b)∧∃e,acr (qfld (blk g b) 1).toList (gI o b)=some e
theorem all_bp {g:D} {R:List Bool} {o:List Int} {n:Nat} (G:Rec g R o n):∀(k i:Nat) (bal:Bool) A Ds lk,i+k=n→
 loW (st10_10 [dI o,dB R, .int (qlen (dB R)),g]) [.int i, .bool bal,mW (mapOf A), .bool lk, .int (lowOf Ds A)] =
 some (.int 0 :: .bool (bal&&(List.range' i k).all (blkB g R o))::pSt (A++(List.range' i k).flatMap (blkA g R o)) (Ds++(List.range' i k).flatMap (blkD g R o)) (lk||(List.range' i k).any (blkL g R)))
 |0,i,bal,A,Ds,lk,hi=>by
  rw[loW_eq,st10_10_eq,qcmp_lss,len_B,G.lr,decide_eq_false (by omega)]
  simp[pSt]
 |k+1,i,bal,A,Ds,lk,hi=>by
  have hlt:i<n:=by omega
  have h256:=G.n256
  have hbi:i<(qfld g 1).toList.length:=by rw[G.len];exact hlt
  have i1:qinb (dB R) (i:Int)=true:=inb_B (by rw[G.lr];exact hlt)
  have i2:qinb (dI o) (i:Int)=true:=inb_I (by rw[G.lo];exact hlt)
  rw[loW_eq,st10_10_eq,qcmp_lss,len_B,G.lr,decide_eq_true (by omega),i1,i2,qinb_n hbi,get_B,get_I,show qget (qfld g 1) (i:Int)=blk g i from rfl,List.range'_succ]
  have hl14:∀p s,l10_14 p s=loW (st10_14 p) s:=fun p s=>by rw[l10_14_eq]
  simp only[hl14,List.all_cons,List.flatMap_cons,List.any_cons,cond_true]
  have ln:(n:Int)=qlen (dB R):=by rw[len_B,G.lr]
  cases hr:gB R i with
  |false=>
   have ih:=all_bp G k (i+1) bal A Ds lk (by omega)
   rw[blk_no]
   simp only[qsome_s,qnth_s,List.getD_cons_zero,List.getD_cons_succ,qbool_b,qint_i,cond_true,add_nat (show i<9223372036854775807 by omega)]
   rw[ln,ih]
   simp[blkA,blkD,blkB,blkL,hr]
  |true=>
   obtain⟨h1,e,h2⟩:=G.ac i hr
   obtain⟨hl,hs⟩:=G.bl i hlt
   have hb:=blk_p (pd0:=dI o) (pd2:=dB R) (pd7:=g) (pn3:=(n:Int)) (pn4:=(i:Int)) hl hs (qfld (blk g i) 1).toList.length 0 (gI o i) e bal A Ds lk (by omega) h1 h2
   rw[List.drop_zero]at hb
   have hb':loW (st10_14 [dI o, .bool true,dB R, .int (n:Int), .int (i:Int),qfld (blk g i) 1, .int (qlen (qfld (blk g i) 1)),g]) [.int (gI o i), .int 0, .bool bal,mW (mapOf A), .bool lk, .int (lowOf Ds A)]=_:=hb
   have ih:=all_bp G k (i+1) (bal&&balB (qfld (blk g i) 1).toList (gI o i)) (A++accB (qfld (blk g i) 1).toList (gI o i)) (Ds++dsB (qfld (blk g i) 1).toList (gI o i)) (lk||(qfld (blk g i) 1).toList.any lkS) (by omega)
   rw[hb']
   simp only[pSt,qsome_s,qnth_s,List.getD_cons_zero,List.getD_cons_succ,qbool_b,qint_i,cond_true,add_nat (show i<9223372036854775807 by omega)]
   rw[ln,ih]
   simp[pSt,blkA,blkD,blkB,blkL,hr,List.append_assoc,Bool.or_assoc,Bool.and_assoc]
theorem all_br {g:D} {R:List Bool} {o:List Int} {n:Nat} (G:Rec g R o n):∀(k i:Nat) (bal:Bool) A Ds lk,i+k=n→A.length+((List.range' i k).flatMap (blkA g R o)).length≤1000000→
 loW (st11_11 [dI o,dB R,g]) [.int i, .int (mx Ds), .bool bal,aL A, .bool lk] =
 some [.int 0, .int (mx (Ds++(List.range' i k).flatMap (blkD g R o))), .bool (bal&&(List.range' i k).all (blkB g R o)),aL (A++(List.range' i k).flatMap (blkA g R o)), .bool (lk||(List.range' i k).any (blkL g R))]
 |0,i,bal,A,Ds,lk,hi,_=>by
  rw[loW_eq,st11_11_eq,qcmp_lss,qlen_c,G.len,decide_eq_false (by omega)]
  simp
 |k+1,i,bal,A,Ds,lk,hi,hbd=>by
  have hlt:i<n:=by omega
  have h256:=G.n256
  have hbi:i<(qfld g 1).toList.length:=by rw[G.len];exact hlt
  have i1:qinb (dB R) (i:Int)=true:=inb_B (by rw[G.lr];exact hlt)
  have i2:qinb (dI o) (i:Int)=true:=inb_I (by rw[G.lo];exact hlt)
  rw[List.range'_succ,List.flatMap_cons,List.length_append]at hbd
  rw[loW_eq,st11_11_eq,qcmp_lss,qlen_c,G.len,decide_eq_true (by omega),i1,i2,get_B,get_I,List.range'_succ]
  have hl16:∀p s,l11_16 p s=loW (st11_16 p) s:=fun p s=>by rw[l11_16_eq]
  simp only[hl16,List.all_cons,List.flatMap_cons,List.any_cons,cond_true,qnot_c]
  cases hr:gB R i with
  |false=>
   have hA:blkA g R o i = []:=by unfold blkA;rw[hr];rfl
   have ih:=all_br G k (i+1) bal A Ds lk (by omega) (by rw[hA]at hbd;simpa using hbd)
   simp only[Bool.not_false,cond_true,add_nat (show i<9223372036854775807 by omega)]
   rw[ih]
   simp[blkA,blkD,blkB,blkL,hr]
  |true=>
   obtain⟨h1,e,h2⟩:=G.ac i hr
   obtain⟨hl,hs⟩:=G.bl i hlt
   have hA:blkA g R o i=accB (qfld (blk g i) 1).toList (gI o i):=by unfold blkA;rw[hr];rfl
   rw[hA]at hbd
   have hb:=blk_r (pd0:=dI o) (pd1:=dB R) hbi hl hs (qfld (blk g i) 1).toList.length 0 (gI o i) e bal A Ds lk (by omega) h1 h2 (by rw[List.drop_zero];omega)
   rw[List.drop_zero]at hb
   have hb':loW (st11_16 [dI o,dB R, .int (i:Int),g]) [.int (gI o i), .int 0, .int (mx Ds), .bool bal,aL A, .bool lk]=_:=hb
   have ih:=all_br G k (i+1) (bal&&balB (qfld (blk g i) 1).toList (gI o i)) (A++accB (qfld (blk g i) 1).toList (gI o i)) (Ds++dsB (qfld (blk g i) 1).toList (gI o i)) (lk||(qfld (blk g i) 1).toList.any lkS) (by omega) (by rw[List.length_append];omega)
   simp only[Bool.not_true,cond_false]
   rw[hb']
   simp only[qsome_s,qnth_s,List.getD_cons_zero,List.getD_cons_succ,qbool_b,qint_i,cond_true,add_nat (show i<9223372036854775807 by omega)]
   rw[ih]
   simp[blkA,blkD,blkB,blkL,hr,List.append_assoc,Bool.or_assoc,Bool.and_assoc]
theorem cnt_all {A:List Ac} {pn0:Int} {pb1 pb3:Bool} (hl:A.length<1000000):∀(k i:Nat),i+k=A.length→
 loW (st11_27 [.int pn0, .bool pb1,aL A, .bool pb3]) [.int i,dS (insOf (A.take i))]=some [.int 0,dS (insOf A)]
 |0,i,hi=>by
  obtain rfl:i=A.length:=by omega
  rw[loW_eq,st11_27_eq,qcmp_lss,len_A,decide_eq_false (by omega),List.take_length]
  simp[qeqI_self]
 |k+1,i,hi=>by
  have hlt:i<A.length:=by omega
  have ih:=cnt_all hl (pn0:=pn0) (pb1:=pb1) (pb3:=pb3) k (i+1) (by omega)
  have c0:qcmp .leq 0 (i:Int)=true:=by rw[qcmp_leq];simp
  have i1:qinb (aL A) (i:Int)=true:=qinb_n (by simpa[aL,D.toList]using hlt)
  have hg:qget (aL A) (i:Int)=acD A[i]:=by
   rw[qget_n];unfold aL
   simp only[D.toList,List.getD,List.getElem?_map,List.getElem?_eq_getElem hlt];rfl
  have htk:A.take (i+1)=A.take i ++ [A[i]]:=by rw[List.take_add_one,List.getElem?_eq_getElem hlt];rfl
  have hins:insOf (A.take (i+1))=if A[i].ao<0 then insS (insOf (A.take i)) A[i]else insOf (A.take i):=by
   unfold insOf
   rw[htk,List.filter_append,List.foldl_append]
   by_cases h:A[i].ao<0<;>simp[neg,h]
  have hlen:(insOf (A.take i)).length<1000000:=by
   have:=ins_len (A.take i)
   rw[List.length_take]at this;omega
  rw[loW_eq,st11_27_eq,qcmp_lss,len_A,decide_eq_true (by omega)]
  simp only[c0,i1,hg,a0,count_r hlen,qcmp_lss,qsome_s,qnth_s,List.getD_cons_zero,qeqI_self,cond_true,add_nat (show i<9223372036854775807 by omega)]
  rw[hins]at ih
  by_cases h:A[i].ao<0
  ·rw[if_pos h]at ih
   rw[decide_eq_true h]
   simp only[cond_true]
   exact ih
  ·rw[if_neg h]at ih
   rw[decide_eq_false h]
   simp only[cond_false]
   exact ih
end
end Go.Proofs.YtfdedgmlafelaaaGreatDoor
namespace Go.Proofs.YtfdedgmlafelaaaGreatDoor
set_option linter.unusedSimpArgs false
open Go Go.AM Go.Proofs.YtfdedgmlafelaaaGreatDoor.Sr
noncomputable section
def addN:List Nat→List Nat→List Nat
 |l,[]=>l
 |l,t::ts=>if t∈l then addN l ts else addN (l ++ [t]) ts
structure Add (n:Nat) (l ts l':List Nat):Prop where
 pre:∃ne,l'=l++ne
 all:∀t∈ts,t∈l'
 mem:∀x∈l',x∈l∨x∈ts
 nod:l.Nodup→l'.Nodup
theorem addN_ok (n:Nat):∀(ts l:List Nat),Add n l ts (addN l ts)
 | [],l=>⟨⟨[],by simp[addN]⟩,by simp,fun x hx=> .inl hx,fun h=>h⟩
 |t::ts,l=>by
  unfold addN
  split
  ·rename_i h
   have a:=addN_ok n ts l
   obtain⟨ne,e⟩:=a.pre
   refine⟨⟨ne,e⟩,fun x hx=> ?_,fun x hx=>(a.mem x hx).imp id (List.mem_cons_of_mem _),a.nod⟩
   rcases List.mem_cons.1 hx with rfl|hx
   ·rw[e];exact List.mem_append_left _ h
   ·exact a.all x hx
  ·rename_i h
   have a:=addN_ok n ts (l ++ [t])
   obtain⟨ne,e⟩:=a.pre
   refine⟨⟨t::ne,by rw[e];simp⟩,fun x hx=> ?_,fun x hx=> ?_,fun hn=>a.nod ?_⟩
   ·rcases List.mem_cons.1 hx with rfl|hx
    ·rw[e];simp
    ·exact a.all x hx
   ·rcases a.mem x hx with h'|h'
    ·rcases List.mem_append.1 h' with h'|h'
     ·exact .inl h'
     ·exact .inr (by simp only[List.mem_singleton]at h';simp[h'])
    ·exact .inr (List.mem_cons_of_mem _ h')
   ·rw[List.nodup_append]
    exact⟨hn,by simp,fun x hx y hy e=>by simp only[List.mem_singleton]at hy;rw[e,hy]at hx;exact h hx⟩
theorem nod_len {l:List Nat} {n:Nat} (h:l.Nodup) (hn:∀x∈l,x<n):l.length≤n:=by
 have:=h.length_le_of_subset (l₂:=List.range n) (fun x hx=>List.mem_range.2 (hn x hx))
 simpa using this
theorem has_r {l:List Nat} (hl:l.length≤1000000) (t:Nat):q74 [dN l, .int (t:Int)]=some [.bool (decide (t∈l))]:=by
 have key:∀(k i:Nat),i+k=l.length→loW (st74_2 [dN l, .int (t:Int)]) [.int i]=some [.int (if t∈l.drop i then 1 else 0)]:=by
  intro k
  induction k with
  |zero=>
   intro i hi
   rw[loW_eq,st74_2_eq,qcmp_lss,len_N,decide_eq_false (by omega),List.drop_of_length_le (by omega)];rfl
  |succ k ih=>
   intro i hi
   have hlt:i<l.length:=by omega
   rw[loW_eq,st74_2_eq,qcmp_lss,len_N,decide_eq_true (by omega),inb_N hlt,get_N hlt,qcmp_eql,List.drop_eq_getElem_cons hlt]
   simp only[cond_true,List.mem_cons,add_nat (show i<9223372036854775807 by omega)]
   by_cases h:l[i]=t
   ·rw[decide_eq_true (by omega),if_pos (.inl h.symm)];rfl
   ·rw[decide_eq_false (by omega)]
    simp only[cond_false]
    rw[ih (i+1) (by omega)]
    have:(t=l[i]∨t∈l.drop (i+1))↔t∈l.drop (i+1):=⟨fun h'=>h'.resolve_left fun e=>h e.symm, .inr⟩
    simp only[this]
 have h:=key l.length 0 (by omega)
 rw[List.drop_zero]at h
 have h':l74_2 [dN l, .int (t:Int)] [.int 0]=some [.int (if t∈l then 1 else 0)]:=by rw[l74_2_eq];exact h
 rw[q74_eq,F74_eq,h']
 by_cases hm:t∈l<;>simp[hm,qsome_s,qnth_s,qint_i,qcmp_eql]
theorem edge_r {g:D} (hg:g.size≤lim) (h:eGraph g=0) {b:Nat} (hb:b<(qfld g 1).toList.length):q114 [g, .int (b:Int)]=some [dN (sucG g b)]:=by
 obtain⟨h0,h256,hbad,_⟩:=graph_ok hg h
 obtain⟨_,hx⟩:=blocksOf hg
 have hsz:(blk g b).size≤lim:=hx _ (get_mem hb)
 have b1:(qfld (blk g b) 1).toList.length≠0:=(bad_no (hbad b hb)).1
 have b2:∀x∈tgts (lastS (blk g b)),0≤qint x∧qint x<qlen (qfld g 1):=(bad_no (hbad b hb)).2
 have hlm:=(sz_el (j:=1) hsz).1
 have hy:∃Y,q146 [blk g b]=some [Y]∧Y.toList=tgts (lastS (blk g b)):=by
  have hz:qcmp .eql (qlen (qfld (blk g b) 1)) 0=false:=by rw[qcmp_eql,qlen_c,decide_eq_false_iff_not];omega
  rw[q146_eq,F146_eq,hz,last_ixO b1 hlm,qinb_n (by omega),show qget (qfld (blk g b) 1) (((qfld (blk g b) 1).toList.length-1:Nat):Int)=lastS (blk g b)from rfl]
  simp only[qcmp_eql,tgts,cond_true,cond_false]
  by_cases h6:qint (qfld (lastS (blk g b)) 0)=6
  ·simp[h6,tl_list]
  by_cases h7:qint (qfld (lastS (blk g b)) 0)=7
  ·simp[h7,tl_list]
  by_cases h8:qint (qfld (lastS (blk g b)) 0)=8
  ·simp[h8]
  simp[h6,h7,h8,tl_list]
 obtain⟨Y,y1,y2⟩:=hy
 have hT:Tg (qfld g 1).toList.length Y:=⟨by rw[y2];exact tgts_len ((sz_el hsz).2 _ (last_mem b1)),fun x hm=>by
  rw[y2]at hm
  have:=b2 x hm
  rw[qlen_c]at this;exact this⟩
 have hlen:=hT.len
 have hle:Y.toList.length≤100000000:=by
  have h1:=y2
  have hss:=(sz_el hsz).2 _ (last_mem b1)
  have h2:=len_lt (qfld (lastS (blk g b)) 7)
  have h3:=fld_le (lastS (blk g b)) 7
  unfold lim at hss
  rw[h1];unfold tgts
  split
  ·simp
  ·split
   ·simp
   ·split
    ·omega
    ·simp
 have key:∀(k i:Nat) (l:List Nat),i+k=Y.toList.length→l.length≤i→loW (st114_4 [Y,g]) [.int i,dN l]=some [.int 0,dN (l++(Y.toList.drop i).map nat)]:=by
  unfold maxLen at hlen
  intro k
  induction k with
  |zero=>
   intro i l hi _
   rw[loW_eq,st114_4_eq,qcmp_lss,qlen_c,decide_eq_false (by omega),List.drop_of_length_le (by omega)]
   simp[qeqI_self]
  |succ k ih=>
   intro i l hi hli
   have hlt:i<Y.toList.length:=by omega
   obtain⟨ht,hr⟩:=hT.get hlt
   have ih:=ih (i+1) (l ++ [nat Y.toList[i]]) (by omega) (by simp only[List.length_append,List.length_cons,List.length_nil];omega)
   have c0:qcmp .lss (i:Int) (qlen Y)=true:=by rw[qcmp_lss,qlen_c,decide_eq_true_eq];omega
   have c1:qcmp .geq (nat Y.toList[i]:Int) 0=true:=by rw[qcmp_geq];simp
   have c2:qcmp .lss (nat Y.toList[i]:Int) (qlen (qfld g 1))=true:=by rw[qcmp_lss,qlen_c,decide_eq_true_eq];omega
   have m:qmem (qlen (dN (l ++ [nat Y.toList[i]]))) 8=true:=by
    rw[len_N,qmem_eq];unfold rmem
    simp only[List.length_append,List.length_cons,List.length_nil,Bool.and_eq_true,decide_eq_true_eq]
    omega
   rw[loW_eq,st114_4_eq,c0,qinb_n hlt,ht]
   simp only[c1,c2,app_N,m,qeqI_self,cond_true,add_nat (show i<9223372036854775807 by omega)]
   rw[ih,List.drop_eq_getElem_cons hlt,List.map_cons,List.append_assoc]
   rfl
 have hk:=key Y.toList.length 0 [] (by omega) (by simp)
 have hk':l114_4 [Y,g] [.int 0, .list []]=some [.int 0,dN ([]++Y.toList.map nat)]:=by
  rw[l114_4_eq]
  rw[List.drop_zero]at hk;exact hk
 have hsuc:Y.toList.map nat=sucG g b:=by rw[y2];rfl
 rw[List.nil_append,hsuc]at hk'
 rw[q114_eq,F114_eq,qinb_n hb,show qget (qfld g 1) (b:Int)=blk g b from rfl,y1]
 simp only[qsome_s,qnth_s,List.getD_cons_zero,cond_true]
 rw[hk']
 simp[qsome_s,qnth_s,qeqI_self,qcmp_eql,qlen_l]
theorem in73 {g:D} {n:Nat} {a:Int} (h256:n≤256) {S:List Nat}:∀(k i:Nat) (l:List Nat),i+k=S.length→S.length≤100000000→(∀x∈S,x<n)→l.Nodup→(∀x∈l,x<n)→
 loW (st73_10 [.int (-1), .int a,dN S,g]) [.int i,dN l]=some [.int 0,dN (addN l (S.drop i))]
 |0,i,l,hi,_,_,_,_=>by
  rw[loW_eq,st73_10_eq,qcmp_lss,len_N,decide_eq_false (by omega),List.drop_of_length_le (by omega)]
  simp[qeqI_self,addN]
 |k+1,i,l,hi,hS,hr,hn,hl=>by
  have hlt:i<S.length:=by omega
  have hll:=nod_len hn hl
  have c0:qcmp .lss (i:Int) (qlen (dN S))=true:=by rw[qcmp_lss,len_N,decide_eq_true_eq];omega
  have c1:(!decide ((S[i]:Int) = -1))=true:=by simp
  rw[loW_eq,st73_10_eq,c0,inb_N hlt,get_N hlt,has_r (by omega) S[i],List.drop_eq_getElem_cons hlt]
  simp only[qcmp_neq,c1,qiteB_c,qsome_s,qnth_s,List.getD_cons_zero,qbool_b,qnot_c,qeqI_self,qand_c,Bool.and_self,cond_true,app_N,add_nat (show i<9223372036854775807 by omega)]
  unfold addN
  by_cases h:S[i]∈l
  ·rw[decide_eq_true h,if_pos h]
   simp only[Bool.not_true,cond_false]
   exact in73 h256 k (i+1) l (by omega) hS hr hn hl
  ·rw[decide_eq_false h,if_neg h]
   have m:qmem (qlen (dN (l ++ [S[i]]))) 8=true:=by rw[len_N];exact memM (by simp only[List.length_append,List.length_cons,List.length_nil];omega) (by omega)
   simp only[Bool.not_false,cond_true,m]
   refine in73 h256 k (i+1) (l ++ [S[i]]) (by omega) hS hr ?_ ?_
   ·rw[List.nodup_append]
    exact⟨hn,by simp,fun x hx y hy e=>by simp only[List.mem_singleton]at hy;rw[e,hy]at hx;exact h hx⟩
   ·intro x hx
    rcases List.mem_append.1 hx with hx|hx
    ·exact hl x hx
    ·simp only[List.mem_singleton]at hx;subst hx;exact hr _ (List.getElem_mem hlt)
structure Fnd (suc:Nat→List Nat) (n i:Nat) (l:List Nat):Prop where
 nod:l.Nodup
 lt:∀x∈l,x<n
 z:0∈l
 clo:∀j (h:j<l.length),j<i→∀t∈suc l[j],t∈l
 min:∀A:Nat→Prop,(∀b,A b→∀t∈suc b,A t)→A 0→∀x∈l,A x
theorem out73 {g:D} (hg:g.size≤lim) (h:eGraph g=0) {n:Nat} (hn:(qfld g 1).toList.length=n) (hs:∀b,b<n→(sucG g b).length≤100000000∧∀t∈sucG g b,t<n) (h256:n≤256):∀(m i:Nat) (l:List Nat),n≤m+i→i≤l.length→Fnd (sucG g) n i l→
 ∃l',loW (st73_6 [.int (-1),g]) [.int i,dN l]=some [.int 0,dN l']∧Fnd (sucG g) n l'.length l':=by
 have stop:∀l:List Nat,Fnd (sucG g) n l.length l→∃l',loW (st73_6 [.int (-1),g]) [.int l.length,dN l]=some [.int 0,dN l']∧Fnd (sucG g) n l'.length l':=fun l hF=>by
  refine⟨l,?_,hF⟩
  have c0:qcmp .lss (l.length:Int) (qlen (dN l))=false:=by rw[qcmp_lss,len_N,decide_eq_false_iff_not];omega
  rw[loW_eq,st73_6_eq,c0]
  simp[qeqI_self]
 intro m
 induction m with
 |zero=>
  intro i l hm hi hF
  have:=nod_len hF.nod hF.lt
  obtain rfl:i=l.length:=by omega
  exact stop l hF
 |succ m ih=>
  intro i l hm hi hF
  by_cases hlt:i<l.length
  ·have hb:=hF.lt _ (List.getElem_mem hlt)
   have hbg:l[i]<(qfld g 1).toList.length:=by rw[hn];exact hb
   obtain⟨s1,s2⟩:=hs _ hb
   have hll:=nod_len hF.nod hF.lt
   have c0:qcmp .lss (i:Int) (qlen (dN l))=true:=by rw[qcmp_lss,len_N,decide_eq_true_eq];omega
   have c1:qcmp .leq 0 (i:Int)=true:=by rw[qcmp_leq];simp
   have hin:=in73 (g:=g) (a:=(i:Int)) h256 (S:=sucG g l[i]) (sucG g l[i]).length 0 l (by omega) s1 s2 hF.nod hF.lt
   rw[List.drop_zero]at hin
   have hin':l73_10 [.int (-1), .int (i:Int),dN (sucG g l[i]),g] [.int 0,dN l]=some [.int 0,dN (addN l (sucG g l[i]))]:=by rw[l73_10_eq];exact hin
   have a:=addN_ok n (sucG g l[i]) l
   obtain⟨ne,e⟩:=a.pre
   obtain⟨l',r1,r2⟩:=ih (i+1) (addN l (sucG g l[i])) (by omega) (by rw[e,List.length_append];omega) ⟨a.nod hF.nod,fun x hx=>(a.mem x hx).elim (hF.lt x) (s2 x),by rw[e];exact List.mem_append_left _ hF.z,fun j hj hji t ht=>by
    by_cases hjl:j<l.length
    ·have hg2:(addN l (sucG g l[i]))[j]=l[j]:=by simp only[e];rw[List.getElem_append_left hjl]
     rw[hg2]at ht
     by_cases hj2:j=i
     ·subst hj2;exact a.all t ht
     ·have:=hF.clo j hjl (by omega) t ht
      rw[e];exact List.mem_append_left _ this
    ·omega,fun A a1 a2 x hx=>(a.mem x hx).elim (hF.min A a1 a2 x) (a1 _ (hF.min A a1 a2 _ (List.getElem_mem hlt)) x)⟩
   refine⟨l',?_,r2⟩
   rw[loW_eq,st73_6_eq,c0,c1,inb_N hlt,get_N hlt,edge_r hg h hbg]
   simp only[qsome_s,qnth_s,List.getD_cons_zero,List.getD_cons_succ,qeqI_self,hin',cond_true,add_nat (show i<9223372036854775807 by omega)]
   exact r1
  ·obtain rfl:i=l.length:=by omega
   exact stop l hF
theorem reach_r {g:D} (hg:g.size≤lim) (h:eGraph g=0) {R:List Bool} (hl:R.length=(qfld g 1).toList.length) (r0:gB R 0=true) (rc:∀b,gB R b=true→b<(qfld g 1).toList.length∧∀t∈sucG g b,gB R t=true)
 (rm:∀A:Nat→Prop,(∀b,A b→∀t∈sucG g b,A t)→A 0→∀b,gB R b=true→A b):q36 [g]=some [dB R]:=by
 obtain⟨h0,h256,hbad,_⟩:=graph_ok hg h
 obtain⟨_,hx⟩:=blocksOf hg
 generalize hn:(qfld g 1).toList.length=n at *
 have G:=gok hg h
 rw[hn]at G
 have hs:∀b,b<n→(sucG g b).length≤100000000∧∀t∈sucG g b,t<n:=fun b hb=>by
  refine⟨?_,G.suc hb⟩
  have hsz:(blk g b).size≤lim:=hx _ (get_mem (by rw[hn];exact hb))
  have b1:(qfld (blk g b) 1).toList.length≠0:=(bad_no (hbad b hb)).1
  have hss:=(sz_el hsz).2 _ (last_mem b1)
  have h2:=len_lt (qfld (lastS (blk g b)) 7)
  have h3:=fld_le (lastS (blk g b)) 7
  unfold lim at hss
  unfold sucG tgts
  rw[List.length_map]
  split
  ·simp
  ·split
   ·simp
   ·split
    ·omega
    ·simp
 obtain⟨l,r1,hF⟩:=out73 hg h hn hs h256 n 0 [0] (by omega) (by simp) ⟨by simp,fun x hx=>by simp only[List.mem_singleton]at hx;omega,by simp,fun j _ hj=>by omega,fun A _ a2 x hx=>by simp only[List.mem_singleton]at hx;subst hx;exact a2⟩
 have hll:=nod_len hF.nod hF.lt
 have clo:∀b,b∈l→∀t∈sucG g b,t∈l:=fun b hb t ht=>by
  obtain⟨j,hj,rfl⟩:=List.getElem_of_mem hb
  exact hF.clo j hj hj t ht
 have hR:∀b,gB R b=decide (b∈l):=fun b=>by
  rw[Bool.eq_iff_iff,decide_eq_true_eq]
  exact⟨fun hb=>rm (fun b=>b∈l) clo hF.z b hb,fun hb=>hF.min (fun b=>gB R b=true) (fun b hb=>(rc b hb).2) r0 b hb⟩
 have h73:q73 [g, .int 0, .int (-1)]=some [dN l]:=by
  have r1':l73_6 [.int (-1),g] [.int 0, .list [.int 0]]=some [.int 0,dN l]:=by rw[l73_6_eq];exact r1
  have c1:decide ((n:Int)≤0)=false:=by rw[decide_eq_false_iff_not];omega
  rw[q73_eq,F73_eq]
  simp only[qlen_c (qfld g 1),hn,qcmp_eql,qcmp_lss,qcmp_geq,qiteB_c,c1,r1',qsome_s,qnth_s,List.getD_cons_zero,List.getD_cons_succ,qlen_l]
  simp
 have hk:∀(k i:Nat) (S:List Bool),i+k=n→S.length=i→(∀b,b<i→gB S b=gB R b)→∃S',loW (st36_4 [dN l,g]) [.int i,dB S]=some [.int 0,dB S']∧S'.length=n∧∀b,b<n→gB S' b=gB R b:=by
  intro k
  induction k with
  |zero=>
   intro i S hi hSl hS
   have c0:qcmp .lss (i:Int) (qlen (qfld g 1))=false:=by rw[qcmp_lss,qlen_c,hn,decide_eq_false_iff_not];omega
   refine⟨S,?_,by omega,fun b hb=>hS b (by omega)⟩
   rw[loW_eq,st36_4_eq,c0]
   simp[qeqI_self]
  |succ k ih=>
   intro i S hi hSl hS
   have c0:qcmp .lss (i:Int) (qlen (qfld g 1))=true:=by rw[qcmp_lss,qlen_c,hn,decide_eq_true_eq];omega
   have ap:qapp (dB S) (.list [.bool (decide (i∈l))])=dB (S ++ [decide (i∈l)]):=by rw[qapp_eq];unfold dB;simp[D.app,D.toList]
   have m:qmem (qlen (dB (S ++ [decide (i∈l)]))) 1=true:=by rw[len_B];exact memM (by simp only[List.length_append,List.length_cons,List.length_nil];omega) (by omega)
   obtain⟨S',e1,e2,e3⟩:=ih (i+1) (S ++ [decide (i∈l)]) (by omega) (by simp[hSl]) (fun b hb=>by
    by_cases hbi:b<i
    ·rw[← hS b hbi];unfold gB
     rw[List.getD_eq_getElem?_getD,List.getD_eq_getElem?_getD,List.getElem?_append_left (by omega)]
    ·obtain rfl:b=i:=by omega
     rw[hR];unfold gB
     rw[List.getD_eq_getElem?_getD,List.getElem?_append_right (by omega),hSl];simp)
   refine⟨S',?_,e2,e3⟩
   rw[loW_eq,st36_4_eq,c0,has_r (by omega) i]
   simp only[qsome_s,qnth_s,List.getD_cons_zero,qbool_b,ap,m,qeqI_self,cond_true,add_nat (show i<9223372036854775807 by omega)]
   exact e1
 obtain⟨S',e1,e2,e3⟩:=hk n 0 [] (by omega) rfl (fun b hb=>by omega)
 have hSR:S'=R:=by
  refine List.ext_getElem? fun b=> ?_
  by_cases hb:b<n
  ·have:=e3 b hb
   unfold gB at this
   rw[List.getD_eq_getElem?_getD,List.getD_eq_getElem?_getD,List.getElem?_eq_getElem (by omega:b<S'.length),List.getElem?_eq_getElem (by omega:b<R.length)]at this
   rw[List.getElem?_eq_getElem (by omega:b<S'.length),List.getElem?_eq_getElem (by omega:b<R.length)]
   simpa using this
  ·rw[List.getElem?_eq_none (by omega),List.getElem?_eq_none (by omega)]
 subst hSR
 have e1':l36_4 [dN l,g] [.int 0, .list []]=some [.int 0,dB S']:=by rw[l36_4_eq];exact e1
 rw[q36_eq,F36_eq,h73]
 simp only[qsome_s,qnth_s,List.getD_cons_zero,List.getD_cons_succ,e1',qeqI_self,cond_true]
end
end Go.Proofs.YtfdedgmlafelaaaGreatDoor
namespace Go.Proofs.YtfdedgmlafelaaaGreatDoor
set_option linter.unusedSimpArgs false
open Go Go.AM Go.Proofs.YtfdedgmlafelaaaGreatDoor.Sr
noncomputable section
def sE (s:D):Nat:=1+D.sizes (qfld s 6).toList
def sEs:List D→Nat
 | []=>0
 |s::l=>sE s+sEs l
def sBs:List D→Nat
 | []=>0
 |b::l=>sEs (qfld b 1).toList+sBs l
theorem flat_len2 {f:D→List Ac}:∀{l:List D},(∀x∈l,(f x).length≤x.size)→(l.flatMap f).length≤D.sizes l
 | [],_=>by simp
 |x::l,h=>by
  have h1:=h x (by simp)
  have h2:=flat_len2 (l:=l) (fun y hy=>h y (by simp[hy]))
  rw[List.flatMap_cons,List.length_append]
  simp only[D.sizes];omega
theorem size_pos (d:D):1≤d.size:=by cases d<;>simp only[D.size]<;>omega
theorem list_sz (X:D):D.sizes X.toList+1≤X.size:=by
 cases X<;>simp only[D.toList,D.sizes,D.size]<;>omega
theorem acc_len:∀(N:Nat) (e:D) (d:Int),(accN N e d).length≤e.size
 |0,e,d=>by simp[accN]
 |N+1,e,d=>by
  unfold accN
  split
  ·have:=size_pos e;simpa using this
  ·have h1:=flat_len2 (f:=fun x=>accN N x d) (l:=(qfld e 4).toList) (fun x _=>acc_len N x d)
   have h2:=list_sz (qfld e 4)
   have h3:=fld_le e 4
   omega
theorem accS_len (s:D) (d:Int):(accS s d).length≤sE s:=by
 unfold accS sE
 split
 ·simp
 ·split
  ·have h1:=flat_len2 (f:=fun x=>acc x d) (l:=(qfld s 6).toList.drop 1) (fun x _=>acc_len _ x d)
   have h2:D.sizes ((qfld s 6).toList.drop 1)≤D.sizes (qfld s 6).toList:=by
    cases (qfld s 6).toList with
    |nil=>simp
    |cons x l=>simp only[List.drop_one,List.tail_cons,D.sizes];omega
   rw[List.length_cons];omega
  ·have h1:=flat_len2 (f:=fun x=>acc x d) (l:=(qfld s 6).toList) (fun x _=>acc_len _ x d)
   omega
theorem accB_len:∀(l:List D) (d:Int),(accB l d).length≤sEs l
 | [],d=>by simp[accB,sEs]
 |s::l,d=>by
  have h1:=accS_len s d
  unfold accB sEs
  rw[List.length_append]
  cases aft s d with
  |none=>simp only[List.length_nil];omega
  |some e=>have:=accB_len l e;simp only;omega
theorem accG_len {g:D} {R:List Bool} {o:List Int} {n:Nat} (hn:(qfld g 1).toList.length=n):∀(k i:Nat),i+k=n→((List.range' i k).flatMap (blkA g R o)).length≤sBs ((qfld g 1).toList.drop i)
 |0,i,hi=>by simp
 |k+1,i,hi=>by
  have hlt:i<(qfld g 1).toList.length:=by omega
  have ih:=accG_len (R:=R) (o:=o) hn k (i+1) (by omega)
  have hg:blk g i=(qfld g 1).toList[i]:=by unfold blk;rw[qget_n,getD_lt hlt]
  rw[List.range'_succ,List.flatMap_cons,List.length_append,List.drop_eq_getElem_cons hlt, ← hg]
  unfold sBs
  have:(blkA g R o i).length≤sEs (qfld (blk g i) 1).toList:=by
   unfold blkA
   split
   ·exact accB_len _ _
   ·simp
  omega
theorem loopS2 {g:D} {b:Nat} (hb:b<(qfld g 1).toList.length) (hc:Conf PG 54 (blk g b)) (hlen:(qfld (blk g b) 1).toList.length≤1100):∀(k i:Nat) (left:Int),i+k=(qfld (blk g b) 1).toList.length→0≤left→left≤20000→
 loW (st25_10 [.int 70, .int b,g]) [.int left, .int i]=some [.int 1]∨∃r,loW (st25_10 [.int 70, .int b,g]) [.int left, .int i]=some [.int 0, .int r]∧0≤r∧r≤left∧(sEs ((qfld (blk g b) 1).toList.drop i):Int)≤(k:Int)+6*(left-r):=by
 intro k
 have hq:qget (qfld g 1) (b:Int)=blk g b:=rfl
 induction k with
 |zero=>
  intro i left hi h0 hl
  have c0:qcmp .lss (i:Int) (qlen (qfld (blk g b) 1))=false:=by rw[qcmp_lss,qlen_c,decide_eq_false_iff_not];omega
  rw[loW_eq,st25_10_eq,qinb_n hb,hq,c0,List.drop_of_length_le (by omega)]
  exact .inr ⟨left,rfl,h0,Int.le_refl _,by simp only[sEs];omega⟩
 |succ k ih=>
  intro i left hi h0 hl
  have hlt:i<(qfld (blk g b) 1).toList.length:=by omega
  have c0:qcmp .lss (i:Int) (qlen (qfld (blk g b) 1))=true:=by rw[qcmp_lss,qlen_c,decide_eq_true_eq];omega
  obtain⟨_,_,hx⟩:=conf_lst s52 (fldC f54_1 hc)
  have hge:qget (qfld (blk g b) 1) (i:Int)=(qfld (blk g b) 1).toList[i]:=by rw[qget_n,getD_lt hlt]
  have hs:=hx _ (get_mem hlt)
  rw[loW_eq,st25_10_eq,qinb_n hb,hq,c0,qinb_n hlt]
  generalize qget (qfld (blk g b) 1) (i:Int)=s at *
  simp only[qlen_c,qcmp_gtr,qiteB_c,cond_true]
  by_cases h4:(4:Int)<((qfld s 6).toList.length:Int)
  ·exact .inl (by simp[h4])
  by_cases h100:(100:Int)<((qfld s 7).toList.length:Int)
  ·exact .inl (by simp[h4,h100])
  simp only[h4,h100,decide_false,cond_false]
  have hE:=loopE (g:=g) (a:=(b:Int)) (b:=(i:Int)) hs (by omega) (qfld s 6).toList.length 0 left (by omega) h0 hl
  have e0:∀ds,l25_16 [.int 70, .int b, .int i,s,g] ds=loW (st25_16 [.int 70, .int b, .int i,s,g]) ds:=fun ds=>by rw[l25_16_eq]
  rw[e0]
  rcases hE with h|⟨r,h,e1,e2,e3⟩
  ·have h':loW (st25_16 [.int 70, .int b, .int i,s,g]) [.int left, .int 0]=some [.int 1]:=h
   rw[h']
   exact .inl (by simp[qsome_s,qnth_s,qint_i,qcmp_eql])
  ·have h':loW (st25_16 [.int 70, .int b, .int i,s,g]) [.int left, .int 0]=some [.int 0, .int r]:=h
   rw[h']
   simp only[qsome_s,qnth_s,List.getD_cons_zero,List.getD_cons_succ,qint_i,qcmp_eql,decide_true,cond_true,add_nat (show i<9223372036854775807 by omega)]
   rcases ih (i+1) r (by omega) e1 (by omega)with h|⟨r',h,f1,f2,f3⟩
   ·exact .inl h
   ·refine .inr ⟨r',h,f1,by omega,?_⟩
    rw[List.drop_eq_getElem_cons hlt, ← hge]
    rw[List.drop_zero]at e3
    simp only[sEs,sE]
    omega
theorem loopB2 {g:D} (hc:Conf PG 25 g) (hlen:(qfld g 1).toList.length≤300):∀(k i:Nat) (left:Int),i+k=(qfld g 1).toList.length→0≤left→left≤20000→
 loW (st25_5 [.int 70,g]) [.int left, .int i]=some [.int 1]∨(loW (st25_5 [.int 70,g]) [.int left, .int i]=some [.int 0]∧(sBs ((qfld g 1).toList.drop i):Int)≤1100*(k:Int)+6*left):=by
 intro k
 induction k with
 |zero=>
  intro i left hi h0 hl
  have c0:qcmp .lss (i:Int) (qlen (qfld g 1))=false:=by rw[qcmp_lss,qlen_c,decide_eq_false_iff_not];omega
  rw[loW_eq,st25_5_eq,c0,List.drop_of_length_le (by omega)]
  exact .inr ⟨rfl,by simp only[sBs];omega⟩
 |succ k ih=>
  intro i left hi h0 hl
  have hlt:i<(qfld g 1).toList.length:=by omega
  have c0:qcmp .lss (i:Int) (qlen (qfld g 1))=true:=by rw[qcmp_lss,qlen_c,decide_eq_true_eq];omega
  obtain⟨_,_,hx⟩:=conf_lst s23 (fldC f25_1 hc)
  have hq:qget (qfld g 1) (i:Int)=blk g i:=rfl
  have hge:qget (qfld g 1) (i:Int)=(qfld g 1).toList[i]:=by rw[qget_n,getD_lt hlt]
  have hs:Conf PG 54 (blk g i):=hx _ (get_mem hlt)
  rw[loW_eq,st25_5_eq,c0,qinb_n hlt,hq]
  simp only[qlen_c,qcmp_gtr,cond_true]
  by_cases h4:(1100:Int)<((qfld (blk g i) 1).toList.length:Int)
  ·exact .inl (by simp[h4])
  simp only[h4,decide_false,cond_false]
  have hS:=loopS2 hlt hs (by omega) (qfld (blk g i) 1).toList.length 0 left (by omega) h0 hl
  have e0:∀ds,l25_10 [.int 70, .int i,g] ds=loW (st25_10 [.int 70, .int i,g]) ds:=fun ds=>by rw[l25_10_eq]
  rw[e0]
  rcases hS with h|⟨r,h,e1,e2,e3⟩
  ·have h':loW (st25_10 [.int 70, .int i,g]) [.int left, .int 0]=some [.int 1]:=h
   rw[h']
   exact .inl (by simp[qsome_s,qnth_s,qint_i,qcmp_eql])
  ·have h':loW (st25_10 [.int 70, .int i,g]) [.int left, .int 0]=some [.int 0, .int r]:=h
   rw[h']
   simp only[qsome_s,qnth_s,List.getD_cons_zero,List.getD_cons_succ,qint_i,qcmp_eql,decide_true,cond_true,add_nat (show i<9223372036854775807 by omega)]
   rcases ih (i+1) r (by omega) e1 (by omega)with h|⟨h,f3⟩
   ·exact .inl h
   ·refine .inr ⟨h,?_⟩
    rw[List.drop_eq_getElem_cons hlt, ← hge,hq]
    rw[List.drop_zero]at e3
    simp only[sBs]
    omega
theorem few {g:D} (hc:Conf PG 25 g) (h:q8 [g]=some [.bool false]):sBs (qfld g 1).toList≤450000:=by
 obtain⟨b,h1,_⟩:=small hc
 have hb:b=true:=by
  cases b with
  |true=>rfl
  |false=>
   rw[q8_eq,F8_eq,h1]at h
   simp only[qsome_s,qnth_s,List.getD_cons_zero,qbool_b,qiteB_c,qnot_c,Bool.cond_self,cond_true]at h
   cases hg:qcmp .gtr (qlen (qfld g 1)) 40<;>simp[hg]at h
 subst hb
 rw[q25_eq,F25_eq]at h1
 simp only[qlen_c,qcmp_gtr]at h1
 by_cases h3:(300:Int)<((qfld g 1).toList.length:Int)
 ·simp[h3]at h1
 have hB:=loopB2 hc (by omega) (qfld g 1).toList.length 0 20000 (by omega) (by omega) (by omega)
 have e0:∀ds,l25_5 [.int 70,g] ds=loW (st25_5 [.int 70,g]) ds:=fun ds=>by rw[l25_5_eq]
 simp only[h3,decide_false,cond_false,e0]at h1
 rcases hB with h|⟨h,e⟩
 ·have h':loW (st25_5 [.int 70,g]) [.int 20000, .int 0]=some [.int 1]:=h
  rw[h']at h1
  simp[qsome_s,qnth_s,qint_i,qcmp_eql]at h1
 ·rw[List.drop_zero]at e
  omega
end
end Go.Proofs.YtfdedgmlafelaaaGreatDoor
namespace Go.Proofs.YtfdedgmlafelaaaGreatDoor
set_option linter.unusedSimpArgs false
open Go Go.AM Go.Proofs.YtfdedgmlafelaaaGreatDoor.Sr
noncomputable section
theorem acc_rg:∀(N:Nat) (e:D) (d:Int),∀a∈accN N e d,rng a.ao
 |0,e,d,a,h=>by simp[accN]at h
 |N+1,e,d,a,h=>by
  unfold accN at h
  split at h
  ·simp only[List.mem_singleton]at h;subst h;exact w_rng _
  ·obtain⟨x,_,hx⟩:=List.mem_flatMap.1 h
   exact acc_rg N x d a hx
theorem accS_rg (s:D) (d:Int):∀a∈accS s d,rng a.ao:=fun a h=>by
 unfold accS at h
 split at h
 ·cases h
 ·split at h
  ·rcases List.mem_cons.1 h with rfl|h
   ·exact w_rng _
   ·obtain⟨x,_,hx⟩:=List.mem_flatMap.1 h;exact acc_rg _ x d a hx
  ·obtain⟨x,_,hx⟩:=List.mem_flatMap.1 h;exact acc_rg _ x d a hx
theorem accB_rg:∀(l:List D) (d:Int),∀a∈accB l d,rng a.ao
 | [],d,a,h=>by cases h
 |s::l,d,a,h=>by
  unfold accB at h
  rcases List.mem_append.1 h with h|h
  ·exact accS_rg s d a h
  ·cases ha:aft s d with
   |none=>rw[ha]at h;cases h
   |some e=>rw[ha]at h;exact accB_rg l e a h
theorem blkA_rg {g:D} {R:List Bool} {o:List Int} {l:List Nat}:∀a∈l.flatMap (blkA g R o),rng a.ao:=fun a h=>by
 obtain⟨b,_,hb⟩:=List.mem_flatMap.1 h
 unfold blkA at hb
 split at hb
 ·exact accB_rg _ _ a hb
 ·cases hb
open Classical in
theorem delta_rg {g:D} {s:List Bool} {o:List Int} (hc:Cons (finG g) (sucG g) (asg s o)) (hm:∀A,Cons (finG g) (sucG g) A→Sub s o A):∀b,gB s b=true→rng (gI o b):=by
 have asg_some:∀b d,asg s o b=some d→gB s b=true∧gI o b=d:=fun b d h=>by
  unfold asg at h
  split at h
  ·rename_i hs;exact⟨hs,Option.some.inj h⟩
  ·cases h
 have h0:=asg_some 0 0 hc.1
 have hA:Cons (finG g) (sucG g) (fun b=>if gB s b=true∧rng (gI o b)then some (gI o b)else none):=by
  refine⟨?_,fun b d h=> ?_⟩
  ·simp only[h0.1,h0.2,true_and]
   rw[if_pos (by unfold rng;omega)]
  ·simp only at h
   split at h
   ·rename_i hs
    cases h
    obtain⟨e,e1,e2⟩:=hc.2 b (gI o b) (by unfold asg;rw[if_pos hs.1])
    refine⟨e,e1,fun t ht=> ?_⟩
    obtain⟨t1,t2⟩:=asg_some t e (e2 t ht)
    simp only[t1,t2,true_and]
    rw[if_pos (acr_rng e1 hs.2)]
   ·cases h
 intro b hb
 have:=hm _ hA b hb
 split at this
 ·rename_i h;exact h.2
 ·cases this
theorem q31_v (A:List Ac) (hA:A.length≤1000000) (b:Bool) (n:Int):q31 [mW (mapOf A), .bool b, .int n]=some [dS (insOf A)]:=by
 have h1:(mW (mapOf A)).toList.length≤1000000:=by
  have:=map_len A
  simp only[mW,D.toList,List.length_map];omega
 rw[q31_eq]
 unfold F31
 rw[List.headD_cons,slots_mW,if_pos ⟨h1,map_pair A⟩,ins_sort]
 rfl
def fD (z:Int) (Q:List Sl) (b:Bool):D:= .agg [.int z,dS Q, .bool b]
theorem recov {g:D} (hg:g.size≤lim) (hfew:sBs (qfld g 1).toList≤450000):∃z Q b e,Q.length≤1000000∧q10 [g]=some [fD z Q b, .int e]∧q11 [g]=some [fD z Q b, .int e]:=by
 obtain⟨e1,e2⟩:=graph_eq hg hg
 by_cases h0:eGraph g=0
 ·have G:=gok hg h0
  obtain⟨_,h256,_,hst⟩:=graph_ok hg h0
  obtain⟨_,hx⟩:=blocksOf hg
  rw[h0]at e1 e2
  obtain⟨r,r1,r2⟩:=q28_good G
  obtain⟨r',r3,r4,_⟩:=same_deltas G e2
  rw[← Option.some.inj (r2.symm.trans r3)]at r4
  obtain⟨R,p1,p2,p3,p4,p5⟩:=reach_p hg h0
  have p6:=reach_r hg h0 p2 p3 p4 p5
  cases r with
  |none=>
   refine⟨0,[],false,19,by simp,?_,?_⟩
   ·rw[q10_eq,F10_eq,e1,r2]
    simp[dOut,qsome_s,qnth_s,qint_i,qbool_b,qcmp_neq,qnot_c,fD,dS]
   ·rw[q11_eq,F11_eq,e2,r4]
    simp[dOut,qsome_s,qnth_s,qint_i,qbool_b,qcmp_neq,qnot_c,fD,dS]
  |some p=>
   obtain⟨s,o⟩:=p
   obtain⟨_,ho,hc,hm,_⟩:=r1
   have hs:=reach_seen hc hm p3 (fun b hb=>(p4 b hb).2) p5
   have hrg:=delta_rg hc hm
   generalize hn:(qfld g 1).toList.length=n at *
   have GR:Rec g R o n:=⟨hn,h256,p2,ho,fun b hb=>by
    have hsz:(blk g b).size≤lim:=hx _ (get_mem (by rw[hn];exact hb))
    exact⟨(sz_el hsz).1,fun s hs=>sok ((sz_el hsz).2 s hs) (hst b hb s hs)⟩,fun b hb=>by
    rw[hs]at hb
    obtain⟨e,e1,_⟩:=hc.2 b (gI o b) (by unfold asg;rw[if_pos hb])
    exact⟨hrg b hb,e,e1⟩⟩
   have hlen:=accG_len (R:=R) (o:=o) hn n 0 (by omega)
   rw[List.drop_zero]at hlen
   have hA:((List.range' 0 n).flatMap (blkA g R o)).length≤450000:=by omega
   have hp:=all_bp GR n 0 true [] [] false (by omega)
   have hr:=all_br GR n 0 true [] [] false (by omega) (by simp only[List.length_nil];omega)
   simp only[List.nil_append,Bool.true_and,Bool.false_or]at hp hr
   have hrga:=blkA_rg (g:=g) (R:=R) (o:=o) (l:=List.range' 0 n)
   generalize (List.range' 0 n).flatMap (blkA g R o)=A at *
   generalize (List.range' 0 n).flatMap (blkD g R o)=Ds at *
   generalize (List.range' 0 n).all (blkB g R o)=bal at *
   generalize (List.range' 0 n).any (blkL g R)=lk at *
   have hil:=ins_len A
   have hpe:=esc_p (Q:=insOf A) (by omega) (low:=lowOf Ds A) (bal:=bal) (lk:=lk) (m:=mW (mapOf A)) (low2:=lowOf Ds A) (insOf A).length 0 (by omega)
   have hre:=esc_r (Q:=insOf A) (by omega) (ins_lt A) (fun s hs=>by
    obtain⟨a,ha,e⟩:=(ins_mem A s.a).1 ⟨s,hs,rfl⟩
    rw[← e];exact hrga a (List.mem_filter.1 ha).1) (bal:=bal) (lk:=lk) (A:=aL A) (insOf A).length 0 (mx Ds) (by omega)
   rw[half_zero]at hpe hre
   rw[List.drop_zero,fold_low]at hre
   have hcn:=cnt_all (A:=A) (pn0:=mx Ds) (pb1:=bal) (pb3:=lk) (by omega) A.length 0 (by omega)
   rw[List.take_zero]at hcn
   have z1:dS (insOf []) = .list []:=rfl
   rw[z1]at hcn
   refine⟨lowOf Ds A,(insOf A).map (esc (insOf A) lk),bal,0,by rw[List.length_map];omega,?_,?_⟩
   ·have hp':l10_10 [dI o,dB R, .int (qlen (dB R)),g] [.int 0, .bool true, .list [], .bool false, .int 0]=some (.int 0 :: .bool bal::pSt A Ds lk):=by
     rw[l10_10_eq];exact hp
    have hpe':l10_24 [.int (qlen (dS (insOf A))), .int (lowOf Ds A), .bool bal,mW (mapOf A), .bool lk, .int (lowOf Ds A)] [.int 0,dS (insOf A)]=some [.int 0,dS ((insOf A).map (esc (insOf A) lk))]:=by
     rw[l10_24_eq,len_S];exact hpe
    rw[q10_eq,F10_eq,e1,r2,p1]
    simp only[dOut,pSt,qsome_s,qnth_s,List.getD_cons_zero,List.getD_cons_succ,qint_i,qbool_b,qcmp_neq,decide_true,Bool.not_true,qnot_c,cond_true,cond_false,hp',q31_v A (by omega),hpe',qeqI_self,qeqB_self,qand_tt]
    rfl
   ·have hr':l11_11 [dI o,dB R,g] [.int 0, .int 0, .bool true, .list [], .bool false]=some [.int 0, .int (mx Ds), .bool bal,aL A, .bool lk]:=by
     rw[l11_11_eq];exact hr
    have hcn':l11_27 [.int (mx Ds), .bool bal,aL A, .bool lk] [.int 0, .list []]=some [.int 0,dS (insOf A)]:=by
     rw[l11_27_eq];exact hcn
    have hre':l11_32 [.bool bal,aL A, .bool lk] [.int 0,dS (insOf A), .int (mx Ds)]=some [.int 0,dS ((insOf A).map (esc (insOf A) lk)), .int (lowOf Ds A)]:=by
     rw[l11_32_eq];exact hre
    rw[q11_eq,F11_eq,e2,r4,p6]
    have z0:qcmp .eql 0 (qlen (D.list []))=true:=by rw[qcmp_eql,qlen_l];rfl
    simp only[dOut,qsome_s,qnth_s,List.getD_cons_zero,List.getD_cons_succ,qint_i,qbool_b,qcmp_neq,decide_true,Bool.not_true,qnot_c,cond_true,cond_false,hr',hcn',hre',qeqI_self,z0]
    rfl
 ·refine⟨0,[],false,eGraph g,by simp,?_,?_⟩
  ·rw[q10_eq,F10_eq,e1]
   simp[qsome_s,qnth_s,qint_i,qcmp_neq,h0,fD,dS]
  ·rw[q11_eq,F11_eq,e2]
   simp[qsome_s,qnth_s,qint_i,qcmp_neq,h0,fD,dS]
theorem fz (z:Int) (Q:List Sl) (b:Bool):qint (qfld (fD z Q b) 0)=z:=by rw[qfld_eq];exact qint_i _
theorem fq (z:Int) (Q:List Sl) (b:Bool):qfld (fD z Q b) 1=dS Q:=by rw[qfld_eq];rfl
theorem fb (z:Int) (Q:List Sl) (b:Bool):qbool (qfld (fD z Q b) 2)=b:=by rw[qfld_eq];exact qbool_b _
theorem frame_of {z:Int} {Q:List Sl} {b:Bool} (hl:Q.length≤1000000):q13 [fD z Q b]=some [fD z Q b]:=by
 have key:∀(k i:Nat),i+k=Q.length→loW (st13_3 [.int z, .bool b,fD z Q b]) [.int i,dS (Q.take i)]=some [.int 0,dS Q]:=by
  intro k
  induction k with
  |zero=>
   intro i hi
   obtain rfl:i=Q.length:=by omega
   rw[loW_eq,st13_3_eq,fq,qcmp_lss,len_S,decide_eq_false (by omega),List.take_length]
   simp[qeqI_self]
  |succ k ih=>
   intro i hi
   have hlt:i<Q.length:=by omega
   have ih:=ih (i+1) (by omega)
   have ap:=app_S (Q.take i) [Q[i]]
   have hd:dS [Q[i]] = .list [.agg [.int Q[i].a, .int Q[i].b, .int Q[i].c, .int Q[i].d, .bool Q[i].e]]:=rfl
   rw[hd]at ap
   have m:qmem (qlen (dS (Q.take i ++ [Q[i]]))) 40=true:=by rw[len_S];exact memM (by simp only[List.length_append,List.length_take,List.length_cons,List.length_nil];omega) (by omega)
   have htk:Q.take (i+1)=Q.take i ++ [Q[i]]:=by rw[List.take_add_one,List.getElem?_eq_getElem hlt];rfl
   rw[htk]at ih
   rw[loW_eq,st13_3_eq,fq,qcmp_lss,len_S,decide_eq_true (by omega)]
   simp only[inb_S hlt,get_S hlt,f0,f1,f2,f3,f4,ap,m,qeqI_self,cond_true,add_nat (show i<9223372036854775807 by omega)]
   exact ih
 have h:=key Q.length 0 (by omega)
 have h':l13_3 [.int z, .bool b,fD z Q b] [.int 0, .list []]=some [.int 0,dS Q]:=by rw[l13_3_eq];exact h
 have z0:qcmp .eql 0 (qlen (D.list []))=true:=by rw[qcmp_eql,qlen_l];rfl
 rw[q13_eq,F13_eq,fz,fb,h']
 simp only[qsome_s,qnth_s,List.getD_cons_zero,List.getD_cons_succ,qeqI_self,z0,cond_true]
 rfl
theorem same_self {z:Int} {Q:List Sl} {b:Bool} (hl:Q.length≤1000000):q12 [fD z Q b,fD z Q b]=some [.bool true]:=by
 have key:∀(k i:Nat),i+k=Q.length→loW (st12_4 [fD z Q b,fD z Q b]) [.int i]=some [.int 0]:=by
  intro k
  induction k with
  |zero=>
   intro i hi
   rw[loW_eq,st12_4_eq,fq,qcmp_lss,len_S,decide_eq_false (by omega)];rfl
  |succ k ih=>
   intro i hi
   have hlt:i<Q.length:=by omega
   rw[loW_eq,st12_4_eq,fq,qcmp_lss,len_S,decide_eq_true (by omega)]
   simp only[inb_S hlt,get_S hlt,qeqI_self,qeqB_self,qand_tt,qnot_c,Bool.not_true,cond_true,cond_false,add_nat (show i<9223372036854775807 by omega)]
   exact ih (i+1) (by omega)
 have h:=key Q.length 0 (by omega)
 have h':l12_4 [fD z Q b,fD z Q b] [.int 0]=some [.int 0]:=by rw[l12_4_eq];exact h
 rw[q12_eq,F12_eq,fz,fq,fb,h']
 simp[qiteB_c,qcmp_neq,qcmp_eql,qnot_c,qeqB_self,qsome_s,qnth_s,qint_i]
theorem law3 {g:D} (h9:q9 []=some [.bool true]) (hc:Conf PG 25 g):q3 [g]=some [.bool true]:=by
 rw[q3_eq,F3_eq]
 rcases large hc with h|⟨h,hg⟩
 ·simp[h,h9,qsome_s,qnth_s,qbool_b]
 ·obtain⟨z,Q,b,e,hl,h1,h2⟩:=recov hg (few hc h)
  rw[h,h1,h2]
  simp only[qsome_s,qnth_s,List.getD_cons_zero,List.getD_cons_succ,qbool_b,qint_i,cond_true,cond_false,qeqI_self,frame_of hl,same_self hl,h9]
end
end Go.Proofs.YtfdedgmlafelaaaGreatDoor
namespace Go.Proofs.YtfdedgmlafelaaaGreatDoor
open Go Go.AM
theorem sound3:SoundF env.P 3 S3 q3:=by rw[q3_eq];exact liftX_sound envOk ok_tb9r 60 12
theorem top3 {d0:D} (c0:Conf PG 25 d0) (w:World) {v0:Value} (r0:Rep nowhere (fun b=>b<w.heap.size) w (.dat 25 d0) v0):
 Calls Tryz.prog 3 #[v0] w fun e w'=>e = .returned (.bool true)∧RowKit.Below w.heap.size w w':=by
 refine(sound3 [] [d0] [.bool true] rfl (law3 q9_eq c0) (fun b=>b<w.heap.size) w nowhere _ w #[v0] (Inv.empty w _ (fun _ h=>h) rfl rfl (fun g cs h=>tabs g cs h))
  (RepL.cons r0 RepL.nil)).mono ?_
 rintro e w' ⟨u,ρ',E',rfl,inv,reach,rep⟩
 have hr:resF S3 [] (bdL [.bool true]) = .ub true:=rfl
 rw[hr]at rep
 simp only[Rep]at rep
 subst rep
 exact⟨rfl,⟨inv.io.1,inv.io.2.1,inv.io.2.2,reach.size,inv.old⟩⟩
end Go.Proofs.YtfdedgmlafelaaaGreatDoor
