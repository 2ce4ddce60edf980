/-
  Plain laws: what the program's readers of operands answer.
-/
import Derived.Test.YtobhhfbdelnhfaaDoorM3
import Derived.Test.YtobhhfbdelnhfaaDoorM2
import Derived.Test.YtobhhfbdelnhfaaDoorRows
import Derived.Test.YtobhhfbdelnhfaaDoorC1
import Derived.Deep.DeepHandedRow
import Derived.Lib.LaidTab
import Derived.MakeChecks
import Derived.LaidSub
import Derived.FnData
import Derived.Shelf.Vars
import Derived.HandedShaped
namespace Go.Proofs.YtobhhfbdelnhfaaDoor
set_option linter.unusedSimpArgs false
set_option linter.unusedVariables false
open Go Go.AM
def insD (a i o f w c x y z:Int):D:= .agg [.int a, .int i, .int o, .int f, .int w, .int c, .int x, .int y, .int z]
theorem insF (a i o f w c x y z:Int):qint (qfld (insD a i o f w c x y z) 0)=a∧qint (qfld (insD a i o f w c x y z) 1)=i∧qint (qfld (insD a i o f w c x y z) 2)=o∧qint (qfld (insD a i o f w c x y z) 3)=f∧qint (qfld (insD a i o f w c x y z) 4)=w∧
 qint (qfld (insD a i o f w c x y z) 5)=c∧qint (qfld (insD a i o f w c x y z) 6)=x∧qint (qfld (insD a i o f w c x y z) 7)=y∧qint (qfld (insD a i o f w c x y z) 8)=z:=by
 unfold insD
 simp only[qfld_agg,List.getD_cons_zero,List.getD_cons_succ,qint_i,and_self]
theorem insD_eq (a i o f w c x y z:Int):D.agg [.int a, .int i, .int o, .int f, .int w, .int c, .int x, .int y, .int z]=insD a i o f w c x y z:=rfl
def op (ops:List (List UInt8)) (k:Nat):List UInt8:=ops.getD k []
theorem op_at {ops:List (List UInt8)} {k:Nat} (h:k<ops.length):ops[k]? = some (op ops k):=by
 unfold op;simp[List.getD,h]
def Short (ops:List (List UInt8)):Prop:=∀x∈ops,x.length≤1000
theorem op_short {ops:List (List UInt8)} (h:Short ops) {k:Nat} (hk:k<ops.length):(op ops k).length≤1000:=h _ (List.mem_of_getElem? (op_at hk))
noncomputable def nearI (n:Int):Bool:=qcmp .eql (qwrap .u32 (qwrap .i8 n)) n
noncomputable def fm (n:Int) (w:Bool):Int:=if nearI n=true∧w=false then 1 else 2
noncomputable def off (n a:Int):Int:=qbin .sub .u32 (qbin .sub .u32 n a) 2
theorem spec65 {ops:List (List UInt8)} (hs:Short ops) (w:Bool) (cc a:Int):
 ∃I b,q45 [opD ops, .bool false, .bool w, .int cc, .int a, .bool false, .bool false]=some [I, .bool b, .bool true]∧b = !(decide (ops.length=1)&&numB (op ops 0))∧
  (b=false→I=insD 0 (numV (op ops 0)) 20 (fm (off (numV (op ops 0)) a) w) 0 cc 0 0 0):=by
 have h105:=spec105 ops false w true false 1
 have e1:q60 [opD ops, .bool false, .bool w, .bool true, .int 1, .bool false]=some [.bool (decide (ops.length=1) && !false), .bool (false || !decide (ops.length=1))]:=h105
 rw[q45_eq,F45_eq,e1]
 by_cases h:ops.length=1
 ·obtain⟨n,h106,hn⟩:=spec106 (op_at (k:=0) (by omega)) (op_short hs (k:=0) (by omega)) false w true false
  have e2:q61 [opD ops, .bool false, .bool w, .bool true, .int 0, .bool false]=some [.int n, .bool false, .bool (false || !numB (op ops 0))]:=h106
  simp only[h,decide_true,Bool.not_false,Bool.not_true,Bool.and_self,Bool.or_false,Bool.false_or,qsome_s,qnth_s,List.getD_cons_zero,List.getD_cons_succ,qbool_b,qnot_c,cond_true,cond_false,e2,qint_i,Bool.true_and,qiteB_c]
  cases hb:numB (op ops 0)with
  |false=>
   generalize qcmp .eql _ _=g
   cases g<;>cases w<;>exact⟨_,true,rfl,rfl,fun e=>by cases e⟩
  |true=>
   have hn:=hn hb
   subst hn
   have ho:qbin .sub .u32 (qbin .sub .u32 (numV (op ops 0)) a) 2=off (numV (op ops 0)) a:=rfl
   rw[ho]
   have hni:qcmp .eql (qwrap .u32 (qwrap .i8 (off (numV (op ops 0)) a))) (off (numV (op ops 0)) a)=nearI (off (numV (op ops 0)) a):=rfl
   rw[hni]
   unfold fm
   cases hne:nearI (off (numV (op ops 0)) a)<;>cases w<;>simp[insD]
 ·simp only[h,decide_false,Bool.false_and,Bool.not_false,Bool.or_true,Bool.false_or,qsome_s,qnth_s,List.getD_cons_zero,List.getD_cons_succ,qbool_b,qnot_c,cond_true]
  exact⟨_,true,rfl,rfl,fun e=>by cases e⟩
theorem spec66 (ops:List (List UInt8)) (b1 w b3:Bool) (o wd cc:Int):
 ∃I b,q46 [opD ops, .bool b1, .bool w, .bool b3,insD 0 0 o 0 wd cc 0 0 0, .bool false]=some [I, .bool b]∧b = !(decide (ops.length=1)&&regB (op ops 0))∧
  (b=false→I=insD 0 0 o 0 wd cc (regV (op ops 0)) 0 0):=by
 have e1:q60 [opD ops, .bool b1, .bool w, .bool b3, .int 1, .bool false]=some [.bool (decide (ops.length=1) && !false), .bool (false || !decide (ops.length=1))]:=spec105 ops b1 w b3 false 1
 obtain⟨f0,f1,f2,f3,f4,f5,f6,f7,f8⟩:=insF 0 0 o 0 wd cc 0 0 0
 rw[q46_eq,F46_eq,e1]
 by_cases h:ops.length=1
 ·have e2:q62 [opD ops, .bool b1, .bool w, .bool b3, .int 0, .bool false]=some [.int (regV (op ops 0)), .bool (false || !regB (op ops 0))]:=spec107 (op_at (k:=0) (by omega)) b1 w b3 false
  simp only[h,decide_true,Bool.not_false,Bool.not_true,Bool.and_self,Bool.or_false,Bool.false_or,qsome_s,qnth_s,List.getD_cons_zero,List.getD_cons_succ,qbool_b,qnot_c,cond_true,cond_false,e2,qint_i,Bool.true_and,f0,f1,f2,f3,f4,f5,f6,f7,f8]
  exact⟨_,_,rfl,rfl,fun _=>rfl⟩
 ·simp only[h,decide_false,Bool.false_and,Bool.not_false,Bool.or_true,Bool.false_or,qsome_s,qnth_s,List.getD_cons_zero,List.getD_cons_succ,qbool_b,qnot_c,cond_false,cond_true]
  exact⟨_,true,rfl,rfl,fun e=>by cases e⟩
noncomputable def arOk (ops:List (List UInt8)) (w:Bool):Bool:=decide (ops.length=2)&&(regB (op ops 0)&&(bif regB (op ops 1)then !w else numB (op ops 1)))
noncomputable def arI (ops:List (List UInt8)) (w:Bool) (a o z:Int):D:=
 if regB (op ops 1)=true then insD a 0 o 0 0 0 (regV (op ops 0)) (regV (op ops 1)) z else insD a (numV (op ops 1)) o (fm (numV (op ops 1)) w) 0 0 (regV (op ops 0)) 0 z
theorem spec67 {ops:List (List UInt8)} (hs:Short ops) (w:Bool) (o:Int):
 ∃I b t,q47 [opD ops, .bool false, .bool w, .int o, .bool false, .bool false]=some [I, .bool b, .bool t]∧(bif b then true else(bif w then !t else false)) = !arOk ops w∧
  (arOk ops w=true→I=arI ops w 0 o 0):=by
 have e1:q60 [opD ops, .bool false, .bool w, .bool false, .int 2, .bool false]=some [.bool (decide (ops.length=2) && !false), .bool (false || !decide (ops.length=2))]:=spec105 ops false w false false 2
 rw[q47_eq,F47_eq,e1]
 unfold arOk arI
 by_cases h:ops.length=2
 ·have e2:q62 [opD ops, .bool false, .bool w, .bool false, .int 0, .bool false]=some [.int (regV (op ops 0)), .bool (false || !regB (op ops 0))]:=spec107 (op_at (k:=0) (by omega)) false w false false
  obtain⟨g1,g2⟩:=op_get (op_at (ops:=ops) (k:=1) (by omega))
  have g1':qinb (opD ops) 1=true:=g1
  have g2':qstr (qget (opD ops) 1)=bs (op ops 1):=g2
  obtain⟨n,h106,hn⟩:=spec106 (op_at (k:=1) (by omega)) (op_short hs (k:=1) (by omega)) false w true (!regB (op ops 0))
  have e3:q61 [opD ops, .bool false, .bool w, .bool true, .int 1, .bool (!regB (op ops 0))]=some [.int n, .bool false, .bool (!regB (op ops 0) || !numB (op ops 1))]:=h106
  simp only[h,decide_true,Bool.not_false,Bool.not_true,Bool.and_self,Bool.or_false,Bool.false_or,qsome_s,qnth_s,List.getD_cons_zero,List.getD_cons_succ,qbool_b,qnot_c,cond_true,cond_false,e2,qint_i,Bool.true_and,g1',g2',(reg_spec (op ops 1)).1,e3,qiteB_c]
  cases hr:regB (op ops 1)with
  |true=>
   simp only[cond_true,if_true]
   exact⟨_,_,_,rfl,by cases regB (op ops 0)<;>cases w<;>rfl,fun _=>rfl⟩
  |false=>
   simp only[cond_false,Bool.false_eq_true,if_false]
   have hni:qcmp .eql (qwrap .u32 (qwrap .i8 n)) n=nearI n:=rfl
   rw[hni]
   cases hb:numB (op ops 1)with
   |false=>
    cases nearI n<;>cases w<;>exact⟨_,_,_,rfl,by cases regB (op ops 0)<;>rfl,fun e=>by cases hh:regB (op ops 0)<;>rw[hh]at e<;>cases e⟩
   |true=>
    have hn:=hn hb
    subst hn
    unfold fm
    cases hne:nearI (numV (op ops 1))<;>cases w<;>refine⟨_,_,_,rfl,by cases regB (op ops 0)<;>rfl,fun _=>by simp[insD]⟩
 ·simp only[h,decide_false,Bool.false_and,Bool.not_false,Bool.or_true,Bool.false_or,qsome_s,qnth_s,List.getD_cons_zero,List.getD_cons_succ,qbool_b,qnot_c,cond_true]
  exact⟨_,true,_,rfl,rfl,fun e=>by cases e⟩
noncomputable def meR (ops:List (List UInt8)) (st:Bool):List UInt8:=bif st then op ops 1 else op ops 0
noncomputable def meP (ops:List (List UInt8)) (st:Bool):List UInt8:=bif st then op ops 0 else op ops 1
noncomputable def meOk (ops:List (List UInt8)) (st:Bool):Bool:=decide (ops.length=2)&&(regB (meR ops st) && !((plR (meP ops st)).2.2==3))
theorem spec110 {ops:List (List UInt8)} (hs:Short ops) (b1 w st:Bool) (o wd:Int):
 ∃I b f,q64 [opD ops, .bool b1, .bool w,insD 0 0 o 0 wd 0 0 0 0, .bool st, .bool false, .bool false]=some [I, .bool b, .bool f]∧b = !meOk ops st∧
  (meOk ops st=true→f=((plR (meP ops st)).2.2==7))∧(meOk ops st=true→(plR (meP ops st)).2.2=0→I=insD 0 (plR (meP ops st)).2.1 o 0 wd 0 (regV (meR ops st)) (plR (meP ops st)).1 0):=by
 have e1:∀b3,q60 [opD ops, .bool b3, .bool b1, .bool w, .int 2, .bool false]=some [.bool (decide (ops.length=2) && !false), .bool (false || !decide (ops.length=2))]:=fun b3=>spec105 ops b3 b1 w false 2
 obtain⟨f0,f1,f2,f3,f4,f5,f6,f7,f8⟩:=insF 0 0 o 0 wd 0 0 0 0
 rw[q64_eq,F64_eq,e1]
 unfold meOk meR meP
 by_cases h:ops.length=2
 ·cases st with
  |true=>
   obtain⟨x,n,h139,hx⟩:=spec139 (op_at (k:=0) (by omega)) (op_short hs (k:=0) (by omega)) b1 w false false
   have e2:q80 [opD ops, .bool b1, .bool w, .int 0, .bool false, .bool false]=some [.int x, .int n, .bool (false||((plR (op ops 0)).2.2==3)), .bool (false||((plR (op ops 0)).2.2==7))]:=h139
   have e3:∀b3 bad,q62 [opD ops, .bool b3, .bool b1, .bool w, .int 1, .bool bad]=some [.int (regV (op ops 1)), .bool (bad || !regB (op ops 1))]:=fun b3 bad=>spec107 (op_at (k:=1) (by omega)) b3 b1 w bad
   simp only[h,decide_true,Bool.not_false,Bool.not_true,Bool.and_self,Bool.or_false,Bool.false_or,qsome_s,qnth_s,List.getD_cons_zero,List.getD_cons_succ,qbool_b,qnot_c,cond_true,cond_false,e2,e3,qint_i,Bool.true_and,f0,f1,f2,f3,f4,f5,f6,f7,f8]
   refine⟨_,_,_,rfl,by cases regB (op ops 1)<;>cases ((plR (op ops 0)).2.2==3)<;>rfl,fun _=>rfl,fun _ e=> ?_⟩
   obtain⟨rfl,rfl⟩:=hx e
   rfl
  |false=>
   have e3:∀b3 bad,q62 [opD ops, .bool b3, .bool b1, .bool w, .int 0, .bool bad]=some [.int (regV (op ops 0)), .bool (bad || !regB (op ops 0))]:=fun b3 bad=>spec107 (op_at (k:=0) (by omega)) b3 b1 w bad
   obtain⟨x,n,h139,hx⟩:=spec139 (op_at (k:=1) (by omega)) (op_short hs (k:=1) (by omega)) b1 w (!regB (op ops 0)) false
   have e2:q80 [opD ops, .bool b1, .bool w, .int 1, .bool (!regB (op ops 0)), .bool false]=some [.int x, .int n, .bool (!regB (op ops 0)||((plR (op ops 1)).2.2==3)), .bool (false||((plR (op ops 1)).2.2==7))]:=h139
   simp only[h,decide_true,Bool.not_false,Bool.not_true,Bool.and_self,Bool.or_false,Bool.false_or,qsome_s,qnth_s,List.getD_cons_zero,List.getD_cons_succ,qbool_b,qnot_c,cond_true,cond_false,e2,e3,qint_i,Bool.true_and,f0,f1,f2,f3,f4,f5,f6,f7,f8]
   refine⟨_,_,_,rfl,by cases regB (op ops 0)<;>cases ((plR (op ops 1)).2.2==3)<;>rfl,fun _=>rfl,fun _ e=> ?_⟩
   obtain⟨rfl,rfl⟩:=hx e
   rfl
 ·simp only[h,decide_false,Bool.false_and,Bool.not_false,Bool.or_true,Bool.false_or,qsome_s,qnth_s,List.getD_cons_zero,List.getD_cons_succ,qbool_b,qnot_c,cond_true]
  exact⟨_,true,_,rfl,rfl,(fun e=>by cases e),(fun e=>by cases e)⟩
end Go.Proofs.YtobhhfbdelnhfaaDoor
namespace Go.Proofs.YtobhhfbdelnhfaaDoor
set_option linter.unusedSimpArgs false
set_option linter.unusedVariables false
open Go Go.AM
inductive Cls where
 |bare (k:Int)
 |one (o cc:Int)
 |mem (o w:Int) (st:Bool)
 |call
 |jumpt
 |ar (k:Int)
 |jmp (cc:Int)
 |unk
def erD (e:Int):List D:=[insD 0 0 0 0 0 0 0 0 0, .int e]
noncomputable def okD (a i o f w c x y:Int):List D:=[insD a i o f w c x y (lenI (insD a i o f w c x y 0)), .int 0]
noncomputable def OT (c:Cls) (w:Bool) (ops:List (List UInt8)) (a:Int):List D:=
 match c with
 | .bare k=>bif !w&&decide (ops.length=0)then okD a 0 k 0 0 0 0 0 else erD 3
 | .one o cc=>bif !w&&(decide (ops.length=1)&&regB (op ops 0))then okD a 0 o 0 0 cc (regV (op ops 0)) 0 else erD 3
 | .mem o wd st=>bif !w&&meOk ops st then(bif (plR (meP ops st)).2.2==7 then erD 7 else okD a (plR (meP ops st)).2.1 o 0 wd 0 (regV (meR ops st)) (plR (meP ops st)).1)else erD 3
 | .call=>bif !w&&(decide (ops.length=1)&&numB (op ops 0))then okD a (numV (op ops 0)) 23 0 0 0 0 0 else erD 3
 | .jumpt=>bif !w&&(decide (ops.length=2)&&(regB (op ops 0)&&numB (op ops 1)))then okD a (numV (op ops 1)) 22 0 0 0 (regV (op ops 0)) 0 else erD 3
 | .ar k=>bif arOk ops w then[arI ops w a (5+k) (lenI (arI ops w a (5+k) 0)), .int 0]else erD 3
 | .jmp cc=>bif decide (ops.length=1)&&numB (op ops 0)then okD a (numV (op ops 0)) 20 (fm (off (numV (op ops 0)) a) w) 0 cc 0 0 else erD 3
 | .unk=>erD 3
noncomputable def FIN (I:D) (b f w:Bool) (a:Int):List D:=
 bif b||w then erD 3 else bif f then erD 7 else
  [insD a (qint (qfld I 1)) (qint (qfld I 2)) (qint (qfld I 3)) (qint (qfld I 4)) (qint (qfld I 5)) (qint (qfld I 6)) (qint (qfld I 7)) (lenI (insD a (qint (qfld I 1)) (qint (qfld I 2)) (qint (qfld I 3)) (qint (qfld I 4)) (qint (qfld I 5)) (qint (qfld I 6)) (qint (qfld I 7)) (qint (qfld I 8)))), .int 0]
theorem FIN_ins (a i o f w c x y:Int):FIN (insD 0 i o f w c x y 0) false false false a=okD a i o f w c x y:=by
 obtain⟨f0,f1,f2,f3,f4,f5,f6,f7,f8⟩:=insF 0 i o f w c x y 0
 unfold FIN okD
 simp only[f1,f2,f3,f4,f5,f6,f7,f8,Bool.or_self,cond_false]
theorem FIN_bad (I:D) (f w:Bool) (a:Int):FIN I true f w a=erD 3:=by unfold FIN;simp
theorem FIN_wide (I:D) (b f:Bool) (a:Int):FIN I b f true a=erD 3:=by unfold FIN;simp
theorem plE (l:List UInt8):(plR l).2.2=0∨(plR l).2.2=3∨(plR l).2.2=7:=by
 unfold plR
 split
 ·exact .inr (.inl rfl)
 ·split
  ·exact .inr (.inl rfl)
  ·split
   ·exact .inl rfl
   ·unfold plT
    split
    ·exact .inr (.inl rfl)
    ·split
     ·exact .inr (.inr rfl)
     ·exact .inl rfl
def clsO (m:List UInt8):Cls:=
 if m = [110,111,112]then .bare 0
 else if m = [104,97,108,116]then .bare 1
 else if m = [114,101,116]then .bare 2
 else if m = [112,117,115,104]then .one 3 0
 else if m = [112,111,112]then .one 4 0
 else if m = [108,111,97,100,49]then .mem 16 1 false
 else if m = [108,111,97,100,50]then .mem 16 2 false
 else if m = [108,111,97,100,52]then .mem 16 4 false
 else if m = [108,111,97,100,49,115]then .mem 17 1 false
 else if m = [108,111,97,100,50,115]then .mem 17 2 false
 else if m = [115,116,111,114,101,49]then .mem 18 1 true
 else if m = [115,116,111,114,101,50]then .mem 18 2 true
 else if m = [115,116,111,114,101,52]then .mem 18 4 true
 else if m = [108,101,97]then .mem 19 0 false
 else if m = [106,117,109,112,114]then .one 21 0
 else if m = [99,97,108,108,114]then .one 24 0
 else if m = [105,110]then .one 26 0
 else if m = [111,117,116]then .one 27 0
 else if m = [99,97,108,108]then .call
 else if m = [106,117,109,112,116]then .jumpt
 else .unk
theorem fin66 (ops:List (List UInt8)) (b1 w b3:Bool) (o a:Int):
 ∃I b,q46 [opD ops, .bool b1, .bool w, .bool b3,insD 0 0 o 0 0 0 0 0 0, .bool false]=some [I, .bool b]∧FIN I b false w a=OT (.one o 0) w ops a:=by
 obtain⟨I,b,e,hb,hI⟩:=spec66 ops b1 w b3 o 0 0
 refine⟨I,b,e,?_⟩
 simp only[OT]
 cases w with
 |true=>rw[FIN_wide];rfl
 |false=>
  cases hc:(decide (ops.length=1)&&regB (op ops 0))with
  |false=>rw[hc]at hb;subst hb;exact FIN_bad _ _ _ _
  |true=>rw[hc]at hb;subst hb;rw[hI rfl];exact FIN_ins _ _ _ _ _ _ _ _
theorem fin110 {ops:List (List UInt8)} (hs:Short ops) (b1 w st:Bool) (o wd a:Int):
 ∃I b f,q64 [opD ops, .bool b1, .bool w,insD 0 0 o 0 wd 0 0 0 0, .bool st, .bool false, .bool false]=some [I, .bool b, .bool f]∧∀w',FIN I b f w' a=OT (.mem o wd st) w' ops a:=by
 obtain⟨I,b,f,e,hb,hf,hI⟩:=spec110 hs b1 w st o wd
 refine⟨I,b,f,e,fun w'=> ?_⟩
 simp only[OT]
 cases w' with
 |true=>rw[FIN_wide];rfl
 |false=>
  cases hc:meOk ops st with
  |false=>rw[hc]at hb;subst hb;exact FIN_bad _ _ _ _
  |true=>
   rw[hc]at hb
   subst hb
   rw[hf hc]
   rcases plE (meP ops st)with h|h|h
   ·rw[hI hc h,h];exact FIN_ins _ _ _ _ _ _ _ _
   ·exfalso
    unfold meOk at hc
    rw[h]at hc
    simp at hc
   ·rw[h];rfl
theorem fin111 {ops:List (List UInt8)} (hs:Short ops) (b1 w b3:Bool) (m:List UInt8) (a:Int):
 ∃I b,q65 [opD ops, .bool b1, .bool w, .bool b3, .str (bs m), .bool false]=some [I, .bool b]∧∀w',FIN I b false w' a=OT (if m = [99,97,108,108]then .call else if m = [106,117,109,112,116]then .jumpt else .unk) w' ops a:=by
 have e1:∀n:Nat,q60 [opD ops, .bool b1, .bool w, .bool b3, .int n, .bool false]=some [.bool (decide (ops.length=n) && !false), .bool (false || !decide (ops.length=n))]:=fun n=>spec105 ops b1 w b3 false n
 have e11:q60 [opD ops, .bool b1, .bool w, .bool b3, .int 1, .bool false]=some [.bool (decide (ops.length=1) && !false), .bool (false || !decide (ops.length=1))]:=e1 1
 have e12:q60 [opD ops, .bool b1, .bool w, .bool b3, .int 2, .bool false]=some [.bool (decide (ops.length=2) && !false), .bool (false || !decide (ops.length=2))]:=e1 2
 rw[q65_eq,F65_eq]
 simp only[mkB,eq_bs]
 by_cases hc:m = [99,97,108,108]
 ·rw[decide_eq_true hc,if_pos hc,e11]
  by_cases h:ops.length=1
  ·obtain⟨n,h106,hn⟩:=spec106 (op_at (k:=0) (by omega)) (op_short hs (k:=0) (by omega)) b1 w b3 false
   have e2:q61 [opD ops, .bool b1, .bool w, .bool b3, .int 0, .bool false]=some [.int n, .bool false, .bool (false || !numB (op ops 0))]:=h106
   simp only[h,decide_true,Bool.not_false,Bool.not_true,Bool.and_self,Bool.or_false,Bool.false_or,qsome_s,qnth_s,List.getD_cons_zero,List.getD_cons_succ,qbool_b,qnot_c,cond_true,cond_false,e2,qint_i,Bool.true_and,insD_eq]
   refine⟨_,_,rfl,fun w'=> ?_⟩
   simp only[OT]
   cases w' with
   |true=>rw[FIN_wide];rfl
   |false=>
    cases hb:numB (op ops 0)with
    |false=>rw[show(!false:Bool)=true from rfl,FIN_bad];simp[h]
    |true=>rw[hn hb,show(!true:Bool)=false from rfl,FIN_ins];simp[h]
  ·simp only[h,decide_false,Bool.false_and,Bool.not_false,Bool.or_true,Bool.false_or,qsome_s,qnth_s,List.getD_cons_zero,List.getD_cons_succ,qbool_b,qnot_c,cond_true,cond_false]
   refine⟨_,true,rfl,fun w'=> ?_⟩
   rw[FIN_bad];simp only[OT];cases w'<;>simp[h]
 ·rw[decide_eq_false hc,if_neg hc]
  by_cases hj:m = [106,117,109,112,116]
  ·rw[decide_eq_true hj,if_pos hj,e12]
   by_cases h:ops.length=2
   ·have e3:q62 [opD ops, .bool b1, .bool w, .bool b3, .int 0, .bool false]=some [.int (regV (op ops 0)), .bool (false || !regB (op ops 0))]:=spec107 (op_at (k:=0) (by omega)) b1 w b3 false
    obtain⟨n,h106,hn⟩:=spec106 (op_at (k:=1) (by omega)) (op_short hs (k:=1) (by omega)) b1 w b3 (!regB (op ops 0))
    have e2:q61 [opD ops, .bool b1, .bool w, .bool b3, .int 1, .bool (!regB (op ops 0))]=some [.int n, .bool false, .bool (!regB (op ops 0) || !numB (op ops 1))]:=h106
    simp only[h,decide_true,Bool.not_false,Bool.not_true,Bool.and_self,Bool.or_false,Bool.false_or,qsome_s,qnth_s,List.getD_cons_zero,List.getD_cons_succ,qbool_b,qnot_c,cond_true,cond_false,e2,e3,qint_i,Bool.true_and,insD_eq]
    refine⟨_,_,rfl,fun w'=> ?_⟩
    simp only[OT]
    cases w' with
    |true=>rw[FIN_wide];rfl
    |false=>
     cases hb:numB (op ops 1)with
     |false=>rw[show(!regB (op ops 0) || !false:Bool)=true by simp,FIN_bad];simp[h]
     |true=>
      cases hr:regB (op ops 0)with
      |false=>rw[show(!false || !true:Bool)=true from rfl,FIN_bad];simp[h]
      |true=>rw[hn hb,show(!true || !true:Bool)=false from rfl,FIN_ins];simp[h]
   ·simp only[h,decide_false,Bool.false_and,Bool.not_false,Bool.or_true,Bool.false_or,qsome_s,qnth_s,List.getD_cons_zero,List.getD_cons_succ,qbool_b,qnot_c,cond_true,cond_false]
    refine⟨_,true,rfl,fun w'=> ?_⟩
    rw[FIN_bad];simp only[OT];cases w'<;>simp[h]
  ·rw[decide_eq_false hj,if_neg hj]
   simp only[cond_false]
   exact⟨_,true,rfl,fun w'=>by rw[FIN_bad];rfl⟩
theorem fin68 {ops:List (List UInt8)} (hs:Short ops) (w:Bool) (m:List UInt8) (a:Int):
 ∃I b f,q48 [opD ops, .bool w, .bool false, .str (bs m), .bool false, .bool false]=some [I, .bool b, .bool f]∧FIN I b f w a=OT (clsO m) w ops a:=by
 have e0:q60 [opD ops, .bool false, .bool w, .bool false, .int 0, .bool false]=some [.bool (decide (ops.length=0) && !false), .bool (false || !decide (ops.length=0))]:=spec105 ops false w false false 0
 rw[q48_eq,F48_eq]
 simp only[F48_a0,F48_a1,F48_a2,F48_a3,F48_a4,F48_a5,F48_a6,F48_a7,F48_a8,F48_a9,F48_a10,mkB,eq_bs,qiteB_c,insD_eq]
 by_cases h0:m = [110,111,112]
 ·have hcls:clsO m = .bare 0:=by unfold clsO;rw[if_pos h0]
  rw[decide_eq_true h0]
  simp only[cond_true,cond_false]
  subst h0
  have hx:qidxT (bs [110,104,114]) (qsubS (bs [110,111,112]) 0 1)=0:=by
   rw[show qsubS (bs [110,111,112]) 0 1=bs (List.take 1 [110,111,112])from sub_to [110,111,112] 1]
   simp only[qidxT,veil_eq];rfl
  have hl:qcmp .leq 1 (qlenS (bs [110,111,112]))=true:=by rw[len_bs,qcmp_leq];rfl
  rw[e0,hx,hl,show qcmp .leq 0 0=true by rw[qcmp_leq];rfl,show qcmp .leq 0 1=true by rw[qcmp_leq];rfl]
  simp only[qsome_s,qnth_s,List.getD_cons_succ,List.getD_cons_zero,qbool_b,cond_true]
  refine⟨_,_,_,rfl,?_⟩
  rw[hcls];simp only[OT]
  cases w with
   |true=>rw[FIN_wide];rfl
   |false=>
    by_cases h:ops.length=0
    ·simp only[h,decide_true,Bool.not_true,Bool.or_false,Bool.not_false,Bool.and_self,cond_true];exact FIN_ins _ _ _ _ _ _ _ _
    ·simp only[h,decide_false,Bool.not_false,Bool.or_true,Bool.and_false,cond_false];exact FIN_bad _ _ _ _
 by_cases h1:m = [104,97,108,116]
 ·have hcls:clsO m = .bare 1:=by unfold clsO;rw[if_neg h0,if_pos h1]
  rw[decide_eq_false h0,decide_eq_true h1]
  simp only[cond_true,cond_false]
  subst h1
  have hx:qidxT (bs [110,104,114]) (qsubS (bs [104,97,108,116]) 0 1)=1:=by
   rw[show qsubS (bs [104,97,108,116]) 0 1=bs (List.take 1 [104,97,108,116])from sub_to [104,97,108,116] 1]
   simp only[qidxT,veil_eq];rfl
  have hl:qcmp .leq 1 (qlenS (bs [104,97,108,116]))=true:=by rw[len_bs,qcmp_leq];rfl
  rw[e0,hx,hl,show qcmp .leq 0 0=true by rw[qcmp_leq];rfl,show qcmp .leq 0 1=true by rw[qcmp_leq];rfl]
  simp only[qsome_s,qnth_s,List.getD_cons_succ,List.getD_cons_zero,qbool_b,cond_true]
  refine⟨_,_,_,rfl,?_⟩
  rw[hcls];simp only[OT]
  cases w with
   |true=>rw[FIN_wide];rfl
   |false=>
    by_cases h:ops.length=0
    ·simp only[h,decide_true,Bool.not_true,Bool.or_false,Bool.not_false,Bool.and_self,cond_true];exact FIN_ins _ _ _ _ _ _ _ _
    ·simp only[h,decide_false,Bool.not_false,Bool.or_true,Bool.and_false,cond_false];exact FIN_bad _ _ _ _
 by_cases h2:m = [114,101,116]
 ·have hcls:clsO m = .bare 2:=by unfold clsO;rw[if_neg h0,if_neg h1,if_pos h2]
  rw[decide_eq_false h0,decide_eq_false h1,decide_eq_true h2]
  simp only[cond_true,cond_false]
  subst h2
  have hx:qidxT (bs [110,104,114]) (qsubS (bs [114,101,116]) 0 1)=2:=by
   rw[show qsubS (bs [114,101,116]) 0 1=bs (List.take 1 [114,101,116])from sub_to [114,101,116] 1]
   simp only[qidxT,veil_eq];rfl
  have hl:qcmp .leq 1 (qlenS (bs [114,101,116]))=true:=by rw[len_bs,qcmp_leq];rfl
  rw[e0,hx,hl,show qcmp .leq 0 0=true by rw[qcmp_leq];rfl,show qcmp .leq 0 1=true by rw[qcmp_leq];rfl]
  simp only[qsome_s,qnth_s,List.getD_cons_succ,List.getD_cons_zero,qbool_b,cond_true]
  refine⟨_,_,_,rfl,?_⟩
  rw[hcls];simp only[OT]
  cases w with
   |true=>rw[FIN_wide];rfl
   |false=>
    by_cases h:ops.length=0
    ·simp only[h,decide_true,Bool.not_true,Bool.or_false,Bool.not_false,Bool.and_self,cond_true];exact FIN_ins _ _ _ _ _ _ _ _
    ·simp only[h,decide_false,Bool.not_false,Bool.or_true,Bool.and_false,cond_false];exact FIN_bad _ _ _ _
 by_cases h3:m = [112,117,115,104]
 ·have hcls:clsO m = .one 3 0:=by unfold clsO;rw[if_neg h0,if_neg h1,if_neg h2,if_pos h3]
  rw[decide_eq_false h0,decide_eq_false h1,decide_eq_false h2,decide_eq_true h3]
  simp only[cond_true,cond_false]
  obtain⟨I,b,e,hF⟩:=fin66 ops false w false 3 a
  rw[e,hcls]
  simp only[qsome_s,qnth_s,List.getD_cons_succ,List.getD_cons_zero,qbool_b,cond_true]
  exact⟨_,_,_,rfl,hF⟩
 by_cases h4:m = [112,111,112]
 ·have hcls:clsO m = .one 4 0:=by unfold clsO;rw[if_neg h0,if_neg h1,if_neg h2,if_neg h3,if_pos h4]
  rw[decide_eq_false h0,decide_eq_false h1,decide_eq_false h2,decide_eq_false h3,decide_eq_true h4]
  simp only[cond_true,cond_false]
  obtain⟨I,b,e,hF⟩:=fin66 ops false w false 4 a
  rw[e,hcls]
  simp only[qsome_s,qnth_s,List.getD_cons_succ,List.getD_cons_zero,qbool_b,cond_true]
  exact⟨_,_,_,rfl,hF⟩
 by_cases h5:m = [108,111,97,100,49]
 ·have hcls:clsO m = .mem 16 1 false:=by unfold clsO;rw[if_neg h0,if_neg h1,if_neg h2,if_neg h3,if_neg h4,if_pos h5]
  rw[decide_eq_false h0,decide_eq_false h1,decide_eq_false h2,decide_eq_false h3,decide_eq_false h4,decide_eq_true h5]
  simp only[cond_true,cond_false]
  subst h5
  have hw:qwrap .i64 (qbin .sub .u8 (qidxS (bs [108,111,97,100,49]) 4) 48)=1:=by
   rw[show qidxS (bs [108,111,97,100,49]) 4=49 from idx_bs [108,111,97,100,49] 4,qbin_eq,qwrap_eq];rfl
  have hi:qinbS (bs [108,111,97,100,49]) 4=true:=inb_bs (l:=[108,111,97,100,49]) (i:=4) (by decide)
  obtain⟨I,b,f,e,hF⟩:=fin110 hs w false false 16 1 a
  rw[hw,hi,e,hcls]
  simp only[qsome_s,qnth_s,List.getD_cons_succ,List.getD_cons_zero,qbool_b,cond_true]
  exact⟨_,_,_,rfl,hF w⟩
 by_cases h6:m = [108,111,97,100,50]
 ·have hcls:clsO m = .mem 16 2 false:=by unfold clsO;rw[if_neg h0,if_neg h1,if_neg h2,if_neg h3,if_neg h4,if_neg h5,if_pos h6]
  rw[decide_eq_false h0,decide_eq_false h1,decide_eq_false h2,decide_eq_false h3,decide_eq_false h4,decide_eq_false h5,decide_eq_true h6]
  simp only[cond_true,cond_false]
  subst h6
  have hw:qwrap .i64 (qbin .sub .u8 (qidxS (bs [108,111,97,100,50]) 4) 48)=2:=by
   rw[show qidxS (bs [108,111,97,100,50]) 4=50 from idx_bs [108,111,97,100,50] 4,qbin_eq,qwrap_eq];rfl
  have hi:qinbS (bs [108,111,97,100,50]) 4=true:=inb_bs (l:=[108,111,97,100,50]) (i:=4) (by decide)
  obtain⟨I,b,f,e,hF⟩:=fin110 hs w false false 16 2 a
  rw[hw,hi,e,hcls]
  simp only[qsome_s,qnth_s,List.getD_cons_succ,List.getD_cons_zero,qbool_b,cond_true]
  exact⟨_,_,_,rfl,hF w⟩
 by_cases h7:m = [108,111,97,100,52]
 ·have hcls:clsO m = .mem 16 4 false:=by unfold clsO;rw[if_neg h0,if_neg h1,if_neg h2,if_neg h3,if_neg h4,if_neg h5,if_neg h6,if_pos h7]
  rw[decide_eq_false h0,decide_eq_false h1,decide_eq_false h2,decide_eq_false h3,decide_eq_false h4,decide_eq_false h5,decide_eq_false h6,decide_eq_true h7]
  simp only[cond_true,cond_false]
  subst h7
  have hw:qwrap .i64 (qbin .sub .u8 (qidxS (bs [108,111,97,100,52]) 4) 48)=4:=by
   rw[show qidxS (bs [108,111,97,100,52]) 4=52 from idx_bs [108,111,97,100,52] 4,qbin_eq,qwrap_eq];rfl
  have hi:qinbS (bs [108,111,97,100,52]) 4=true:=inb_bs (l:=[108,111,97,100,52]) (i:=4) (by decide)
  obtain⟨I,b,f,e,hF⟩:=fin110 hs w false false 16 4 a
  rw[hw,hi,e,hcls]
  simp only[qsome_s,qnth_s,List.getD_cons_succ,List.getD_cons_zero,qbool_b,cond_true]
  exact⟨_,_,_,rfl,hF w⟩
 by_cases h8:m = [108,111,97,100,49,115]
 ·have hcls:clsO m = .mem 17 1 false:=by unfold clsO;rw[if_neg h0,if_neg h1,if_neg h2,if_neg h3,if_neg h4,if_neg h5,if_neg h6,if_neg h7,if_pos h8]
  rw[decide_eq_false h0,decide_eq_false h1,decide_eq_false h2,decide_eq_false h3,decide_eq_false h4,decide_eq_false h5,decide_eq_false h6,decide_eq_false h7,decide_eq_true h8]
  simp only[cond_true,cond_false]
  subst h8
  have hw:qwrap .i64 (qbin .sub .u8 (qidxS (bs [108,111,97,100,49,115]) 4) 48)=1:=by
   rw[show qidxS (bs [108,111,97,100,49,115]) 4=49 from idx_bs [108,111,97,100,49,115] 4,qbin_eq,qwrap_eq];rfl
  have hi:qinbS (bs [108,111,97,100,49,115]) 4=true:=inb_bs (l:=[108,111,97,100,49,115]) (i:=4) (by decide)
  obtain⟨I,b,f,e,hF⟩:=fin110 hs w false false 17 1 a
  rw[hw,hi,e,hcls]
  simp only[qsome_s,qnth_s,List.getD_cons_succ,List.getD_cons_zero,qbool_b,cond_true]
  exact⟨_,_,_,rfl,hF w⟩
 by_cases h9:m = [108,111,97,100,50,115]
 ·have hcls:clsO m = .mem 17 2 false:=by unfold clsO;rw[if_neg h0,if_neg h1,if_neg h2,if_neg h3,if_neg h4,if_neg h5,if_neg h6,if_neg h7,if_neg h8,if_pos h9]
  rw[decide_eq_false h0,decide_eq_false h1,decide_eq_false h2,decide_eq_false h3,decide_eq_false h4,decide_eq_false h5,decide_eq_false h6,decide_eq_false h7,decide_eq_false h8,decide_eq_true h9]
  simp only[cond_true,cond_false]
  subst h9
  have hw:qwrap .i64 (qbin .sub .u8 (qidxS (bs [108,111,97,100,50,115]) 4) 48)=2:=by
   rw[show qidxS (bs [108,111,97,100,50,115]) 4=50 from idx_bs [108,111,97,100,50,115] 4,qbin_eq,qwrap_eq];rfl
  have hi:qinbS (bs [108,111,97,100,50,115]) 4=true:=inb_bs (l:=[108,111,97,100,50,115]) (i:=4) (by decide)
  obtain⟨I,b,f,e,hF⟩:=fin110 hs w false false 17 2 a
  rw[hw,hi,e,hcls]
  simp only[qsome_s,qnth_s,List.getD_cons_succ,List.getD_cons_zero,qbool_b,cond_true]
  exact⟨_,_,_,rfl,hF w⟩
 by_cases h10:m = [115,116,111,114,101,49]
 ·have hcls:clsO m = .mem 18 1 true:=by unfold clsO;rw[if_neg h0,if_neg h1,if_neg h2,if_neg h3,if_neg h4,if_neg h5,if_neg h6,if_neg h7,if_neg h8,if_neg h9,if_pos h10]
  rw[decide_eq_false h0,decide_eq_false h1,decide_eq_false h2,decide_eq_false h3,decide_eq_false h4,decide_eq_false h5,decide_eq_false h6,decide_eq_false h7,decide_eq_false h8,decide_eq_false h9,decide_eq_true h10]
  simp only[cond_true,cond_false]
  subst h10
  have hw:qwrap .i64 (qbin .sub .u8 (qidxS (bs [115,116,111,114,101,49]) 5) 48)=1:=by
   rw[show qidxS (bs [115,116,111,114,101,49]) 5=49 from idx_bs [115,116,111,114,101,49] 5,qbin_eq,qwrap_eq];rfl
  have hi:qinbS (bs [115,116,111,114,101,49]) 5=true:=inb_bs (l:=[115,116,111,114,101,49]) (i:=5) (by decide)
  obtain⟨I,b,f,e,hF⟩:=fin110 hs w false true 18 1 a
  rw[hw,hi,e,hcls]
  simp only[qsome_s,qnth_s,List.getD_cons_succ,List.getD_cons_zero,qbool_b,cond_true]
  exact⟨_,_,_,rfl,hF w⟩
 by_cases h11:m = [115,116,111,114,101,50]
 ·have hcls:clsO m = .mem 18 2 true:=by unfold clsO;rw[if_neg h0,if_neg h1,if_neg h2,if_neg h3,if_neg h4,if_neg h5,if_neg h6,if_neg h7,if_neg h8,if_neg h9,if_neg h10,if_pos h11]
  rw[decide_eq_false h0,decide_eq_false h1,decide_eq_false h2,decide_eq_false h3,decide_eq_false h4,decide_eq_false h5,decide_eq_false h6,decide_eq_false h7,decide_eq_false h8,decide_eq_false h9,decide_eq_false h10,decide_eq_true h11]
  simp only[cond_true,cond_false]
  subst h11
  have hw:qwrap .i64 (qbin .sub .u8 (qidxS (bs [115,116,111,114,101,50]) 5) 48)=2:=by
   rw[show qidxS (bs [115,116,111,114,101,50]) 5=50 from idx_bs [115,116,111,114,101,50] 5,qbin_eq,qwrap_eq];rfl
  have hi:qinbS (bs [115,116,111,114,101,50]) 5=true:=inb_bs (l:=[115,116,111,114,101,50]) (i:=5) (by decide)
  obtain⟨I,b,f,e,hF⟩:=fin110 hs w false true 18 2 a
  rw[hw,hi,e,hcls]
  simp only[qsome_s,qnth_s,List.getD_cons_succ,List.getD_cons_zero,qbool_b,cond_true]
  exact⟨_,_,_,rfl,hF w⟩
 by_cases h12:m = [115,116,111,114,101,52]
 ·have hcls:clsO m = .mem 18 4 true:=by unfold clsO;rw[if_neg h0,if_neg h1,if_neg h2,if_neg h3,if_neg h4,if_neg h5,if_neg h6,if_neg h7,if_neg h8,if_neg h9,if_neg h10,if_neg h11,if_pos h12]
  rw[decide_eq_false h0,decide_eq_false h1,decide_eq_false h2,decide_eq_false h3,decide_eq_false h4,decide_eq_false h5,decide_eq_false h6,decide_eq_false h7,decide_eq_false h8,decide_eq_false h9,decide_eq_false h10,decide_eq_false h11,decide_eq_true h12]
  simp only[cond_true,cond_false]
  subst h12
  have hw:qwrap .i64 (qbin .sub .u8 (qidxS (bs [115,116,111,114,101,52]) 5) 48)=4:=by
   rw[show qidxS (bs [115,116,111,114,101,52]) 5=52 from idx_bs [115,116,111,114,101,52] 5,qbin_eq,qwrap_eq];rfl
  have hi:qinbS (bs [115,116,111,114,101,52]) 5=true:=inb_bs (l:=[115,116,111,114,101,52]) (i:=5) (by decide)
  obtain⟨I,b,f,e,hF⟩:=fin110 hs w false true 18 4 a
  rw[hw,hi,e,hcls]
  simp only[qsome_s,qnth_s,List.getD_cons_succ,List.getD_cons_zero,qbool_b,cond_true]
  exact⟨_,_,_,rfl,hF w⟩
 by_cases h13:m = [108,101,97]
 ·have hcls:clsO m = .mem 19 0 false:=by unfold clsO;rw[if_neg h0,if_neg h1,if_neg h2,if_neg h3,if_neg h4,if_neg h5,if_neg h6,if_neg h7,if_neg h8,if_neg h9,if_neg h10,if_neg h11,if_neg h12,if_pos h13]
  rw[decide_eq_false h0,decide_eq_false h1,decide_eq_false h2,decide_eq_false h3,decide_eq_false h4,decide_eq_false h5,decide_eq_false h6,decide_eq_false h7,decide_eq_false h8,decide_eq_false h9,decide_eq_false h10,decide_eq_false h11,decide_eq_false h12,decide_eq_true h13]
  simp only[cond_true,cond_false]
  subst h13
  obtain⟨I,b,f,e,hF⟩:=fin110 hs w false false 19 0 a
  rw[e,hcls]
  simp only[qsome_s,qnth_s,List.getD_cons_succ,List.getD_cons_zero,qbool_b,cond_true]
  exact⟨_,_,_,rfl,hF w⟩
 by_cases h14:m = [106,117,109,112,114]
 ·have hcls:clsO m = .one 21 0:=by unfold clsO;rw[if_neg h0,if_neg h1,if_neg h2,if_neg h3,if_neg h4,if_neg h5,if_neg h6,if_neg h7,if_neg h8,if_neg h9,if_neg h10,if_neg h11,if_neg h12,if_neg h13,if_pos h14]
  rw[decide_eq_false h0,decide_eq_false h1,decide_eq_false h2,decide_eq_false h3,decide_eq_false h4,decide_eq_false h5,decide_eq_false h6,decide_eq_false h7,decide_eq_false h8,decide_eq_false h9,decide_eq_false h10,decide_eq_false h11,decide_eq_false h12,decide_eq_false h13,decide_eq_true h14]
  simp only[cond_true,cond_false]
  obtain⟨I,b,e,hF⟩:=fin66 ops false w false 21 a
  rw[e,hcls]
  simp only[qsome_s,qnth_s,List.getD_cons_succ,List.getD_cons_zero,qbool_b,cond_true]
  exact⟨_,_,_,rfl,hF⟩
 by_cases h15:m = [99,97,108,108,114]
 ·have hcls:clsO m = .one 24 0:=by unfold clsO;rw[if_neg h0,if_neg h1,if_neg h2,if_neg h3,if_neg h4,if_neg h5,if_neg h6,if_neg h7,if_neg h8,if_neg h9,if_neg h10,if_neg h11,if_neg h12,if_neg h13,if_neg h14,if_pos h15]
  rw[decide_eq_false h0,decide_eq_false h1,decide_eq_false h2,decide_eq_false h3,decide_eq_false h4,decide_eq_false h5,decide_eq_false h6,decide_eq_false h7,decide_eq_false h8,decide_eq_false h9,decide_eq_false h10,decide_eq_false h11,decide_eq_false h12,decide_eq_false h13,decide_eq_false h14,decide_eq_true h15]
  simp only[cond_true,cond_false]
  obtain⟨I,b,e,hF⟩:=fin66 ops false w false 24 a
  rw[e,hcls]
  simp only[qsome_s,qnth_s,List.getD_cons_succ,List.getD_cons_zero,qbool_b,cond_true]
  exact⟨_,_,_,rfl,hF⟩
 by_cases h16:m = [105,110]
 ·have hcls:clsO m = .one 26 0:=by unfold clsO;rw[if_neg h0,if_neg h1,if_neg h2,if_neg h3,if_neg h4,if_neg h5,if_neg h6,if_neg h7,if_neg h8,if_neg h9,if_neg h10,if_neg h11,if_neg h12,if_neg h13,if_neg h14,if_neg h15,if_pos h16]
  rw[decide_eq_false h0,decide_eq_false h1,decide_eq_false h2,decide_eq_false h3,decide_eq_false h4,decide_eq_false h5,decide_eq_false h6,decide_eq_false h7,decide_eq_false h8,decide_eq_false h9,decide_eq_false h10,decide_eq_false h11,decide_eq_false h12,decide_eq_false h13,decide_eq_false h14,decide_eq_false h15,decide_eq_true h16]
  simp only[cond_true,cond_false]
  obtain⟨I,b,e,hF⟩:=fin66 ops false w false 26 a
  rw[e,hcls]
  simp only[qsome_s,qnth_s,List.getD_cons_succ,List.getD_cons_zero,qbool_b,cond_true]
  exact⟨_,_,_,rfl,hF⟩
 by_cases h17:m = [111,117,116]
 ·have hcls:clsO m = .one 27 0:=by unfold clsO;rw[if_neg h0,if_neg h1,if_neg h2,if_neg h3,if_neg h4,if_neg h5,if_neg h6,if_neg h7,if_neg h8,if_neg h9,if_neg h10,if_neg h11,if_neg h12,if_neg h13,if_neg h14,if_neg h15,if_neg h16,if_pos h17]
  rw[decide_eq_false h0,decide_eq_false h1,decide_eq_false h2,decide_eq_false h3,decide_eq_false h4,decide_eq_false h5,decide_eq_false h6,decide_eq_false h7,decide_eq_false h8,decide_eq_false h9,decide_eq_false h10,decide_eq_false h11,decide_eq_false h12,decide_eq_false h13,decide_eq_false h14,decide_eq_false h15,decide_eq_false h16,decide_eq_true h17]
  simp only[cond_true,cond_false]
  obtain⟨I,b,e,hF⟩:=fin66 ops false w false 27 a
  rw[e,hcls]
  simp only[qsome_s,qnth_s,List.getD_cons_succ,List.getD_cons_zero,qbool_b,cond_true]
  exact⟨_,_,_,rfl,hF⟩
 rw[decide_eq_false h0,decide_eq_false h1,decide_eq_false h2,decide_eq_false h3,decide_eq_false h4,decide_eq_false h5,decide_eq_false h6,decide_eq_false h7,decide_eq_false h8,decide_eq_false h9,decide_eq_false h10,decide_eq_false h11,decide_eq_false h12,decide_eq_false h13,decide_eq_false h14,decide_eq_false h15,decide_eq_false h16,decide_eq_false h17]
 simp only[cond_false]
 obtain⟨I,b,e,hF⟩:=fin111 hs false w false m a
 have hcls:clsO m=if m = [99,97,108,108]then .call else if m = [106,117,109,112,116]then .jumpt else .unk:=by
  unfold clsO;rw[if_neg h0,if_neg h1,if_neg h2,if_neg h3,if_neg h4,if_neg h5,if_neg h6,if_neg h7,if_neg h8,if_neg h9,if_neg h10,if_neg h11,if_neg h12,if_neg h13,if_neg h14,if_neg h15,if_neg h16,if_neg h17]
 rw[e,hcls]
 simp only[qsome_s,qnth_s,List.getD_cons_succ,List.getD_cons_zero,qbool_b,cond_true]
 exact⟨_,_,_,rfl,hF w⟩
end Go.Proofs.YtobhhfbdelnhfaaDoor
namespace Go.Proofs.YtobhhfbdelnhfaaDoor
set_option linter.unusedSimpArgs false
set_option linter.unusedVariables false
open Go Go.AM
theorem fin65 {ops:List (List UInt8)} (hs:Short ops) (w:Bool) (cc a:Int):
 ∃I b,q45 [opD ops, .bool false, .bool w, .int cc, .int a, .bool false, .bool false]=some [I, .bool b, .bool true]∧FIN I b false false a=OT (.jmp cc) w ops a:=by
 obtain⟨I,b,e,hb,hI⟩:=spec65 hs w cc a
 refine⟨I,b,e,?_⟩
 simp only[OT]
 cases hc:(decide (ops.length=1)&&numB (op ops 0))with
 |false=>rw[hc]at hb;subst hb;exact FIN_bad _ _ _ _
 |true=>rw[hc]at hb;subst hb;rw[hI rfl];exact FIN_ins _ _ _ _ _ _ _ _
theorem fin67 {ops:List (List UInt8)} (hs:Short ops) (w:Bool) (k a:Int):
 ∃I b t,q47 [opD ops, .bool false, .bool w, .int (5+k), .bool false, .bool false]=some [I, .bool b, .bool t]∧FIN I (bif b then true else(bif w then !t else false)) false false a=OT (.ar k) w ops a:=by
 obtain⟨I,b,t,e,hb,hI⟩:=spec67 hs w (5+k)
 refine⟨I,b,t,e,?_⟩
 rw[hb]
 simp only[OT]
 cases hc:arOk ops w with
 |false=>exact FIN_bad _ _ _ _
 |true=>
  rw[hI hc]
  unfold arI
  split
  ·exact FIN_ins _ _ _ _ _ _ _ _
  ·exact FIN_ins _ _ _ _ _ _ _ _
theorem fin66s (ops:List (List UInt8)) (b1 w b3:Bool) (cc a:Int):
 ∃I b,q46 [opD ops, .bool b1, .bool w, .bool b3,insD 0 0 25 0 0 cc 0 0 0, .bool false]=some [I, .bool b]∧FIN I b false w a=OT (.one 25 cc) w ops a:=by
 obtain⟨I,b,e,hb,hI⟩:=spec66 ops b1 w b3 25 0 cc
 refine⟨I,b,e,?_⟩
 simp only[OT]
 cases w with
 |true=>rw[FIN_wide];rfl
 |false=>
  cases hc:(decide (ops.length=1)&&regB (op ops 0))with
  |false=>rw[hc]at hb;subst hb;exact FIN_bad _ _ _ _
  |true=>rw[hc]at hb;subst hb;rw[hI rfl];exact FIN_ins _ _ _ _ _ _ _ _
def cls (m:List UInt8):Cls:=
 if m = [106,109,112]then .jmp 0
 else if List.isPrefixOf [106] m=true∧0<ix ccL (m.drop 1)then .jmp (ix ccL (m.drop 1))
 else if List.isPrefixOf [115,101,116] m=true then(if ix ccL (m.drop 3)<0 then .unk else .one 25 (ix ccL (m.drop 3)))
 else if 0≤ix opL m then .ar (ix opL m)
 else clsO m
theorem partsF_short:∀(n:Nat) (l:List UInt8),∀x∈partsF n l,x.length≤l.length
 |0,l,x,h=>by simp[partsF]at h;rw[h];exact Nat.le_refl _
 |n+1,l,x,h=>by
  unfold partsF at h
  cases hc:comma l with
  |none=>rw[hc]at h;simp at h;rw[h];exact Nat.le_refl _
  |some k=>
   rw[hc]at h
   simp only[List.mem_cons]at h
   rcases h with rfl|h
   ·simp;omega
   ·have:=partsF_short n _ x h
    simp at this;omega
theorem opsL_short {l:List UInt8} (hz:l.length≤1000):Short (opsL l):=by
 intro x hx
 unfold opsL at hx
 split at hx
 ·have:=partsF_short _ _ x hx
  simp at this;omega
 ·cases hx
def wide (l:List UInt8):Bool:=sfx [46,119] (headL l)
def word (l:List UInt8):List UInt8:=bif wide l then(headL l).take ((headL l).length-2)else headL l
theorem FIN_69 (I:D) (a:Int) (h69:∀d,q10 [d]=some [.int (lenI d)]):(bif qsome (q10 [insD a (qint (qfld I 1)) (qint (qfld I 2)) (qint (qfld I 3)) (qint (qfld I 4)) (qint (qfld I 5)) (qint (qfld I 6)) (qint (qfld I 7)) (qint (qfld I 8))])then some [insD a (qint (qfld I 1)) (qint (qfld I 2)) (qint (qfld I 3)) (qint (qfld I 4)) (qint (qfld I 5)) (qint (qfld I 6)) (qint (qfld I 7)) (qint (qnth (q10 [insD a (qint (qfld I 1)) (qint (qfld I 2)) (qint (qfld I 3)) (qint (qfld I 4)) (qint (qfld I 5)) (qint (qfld I 6)) (qint (qfld I 7)) (qint (qfld I 8))]) 0)), .int 0]else none)=some (FIN I false false false a):=by
 rw[h69]
 unfold FIN
 simp only[qsome_s,qnth_s,List.getD_cons_zero,qint_i,cond_true,cond_false,Bool.or_self]
theorem FIN_run0 (I:D) (b:Bool) (a:Int) (h69:∀d,q10 [d]=some [.int (lenI d)]):(bif b then some (erD 3)else(bif qsome (q10 [insD a (qint (qfld I 1)) (qint (qfld I 2)) (qint (qfld I 3)) (qint (qfld I 4)) (qint (qfld I 5)) (qint (qfld I 6)) (qint (qfld I 7)) (qint (qfld I 8))])then some [insD a (qint (qfld I 1)) (qint (qfld I 2)) (qint (qfld I 3)) (qint (qfld I 4)) (qint (qfld I 5)) (qint (qfld I 6)) (qint (qfld I 7)) (qint (qnth (q10 [insD a (qint (qfld I 1)) (qint (qfld I 2)) (qint (qfld I 3)) (qint (qfld I 4)) (qint (qfld I 5)) (qint (qfld I 6)) (qint (qfld I 7)) (qint (qfld I 8))]) 0)), .int 0]else none))=some (FIN I b false false a):=by
 cases b with
 |true=>rw[FIN_bad];rfl
 |false=>exact FIN_69 I a h69
theorem FIN_run1 (I:D) (b w:Bool) (a:Int) (h69:∀d,q10 [d]=some [.int (lenI d)]):(bif b then some (erD 3)else(bif w then some (erD 3)else(bif qsome (q10 [insD a (qint (qfld I 1)) (qint (qfld I 2)) (qint (qfld I 3)) (qint (qfld I 4)) (qint (qfld I 5)) (qint (qfld I 6)) (qint (qfld I 7)) (qint (qfld I 8))])then some [insD a (qint (qfld I 1)) (qint (qfld I 2)) (qint (qfld I 3)) (qint (qfld I 4)) (qint (qfld I 5)) (qint (qfld I 6)) (qint (qfld I 7)) (qint (qnth (q10 [insD a (qint (qfld I 1)) (qint (qfld I 2)) (qint (qfld I 3)) (qint (qfld I 4)) (qint (qfld I 5)) (qint (qfld I 6)) (qint (qfld I 7)) (qint (qfld I 8))]) 0)), .int 0]else none)))=some (FIN I b false w a):=by
 cases b with
 |true=>rw[FIN_bad];rfl
 |false=>
  cases w with
  |true=>rw[FIN_wide];rfl
  |false=>exact FIN_69 I a h69
theorem FIN_run2 (I:D) (b f w:Bool) (a:Int) (h69:∀d,q10 [d]=some [.int (lenI d)]):(bif (bif b then true else w)then some (erD 3)else(bif f then some (erD 7)else(bif qsome (q10 [insD a (qint (qfld I 1)) (qint (qfld I 2)) (qint (qfld I 3)) (qint (qfld I 4)) (qint (qfld I 5)) (qint (qfld I 6)) (qint (qfld I 7)) (qint (qfld I 8))])then some [insD a (qint (qfld I 1)) (qint (qfld I 2)) (qint (qfld I 3)) (qint (qfld I 4)) (qint (qfld I 5)) (qint (qfld I 6)) (qint (qfld I 7)) (qint (qnth (q10 [insD a (qint (qfld I 1)) (qint (qfld I 2)) (qint (qfld I 3)) (qint (qfld I 4)) (qint (qfld I 5)) (qint (qfld I 6)) (qint (qfld I 7)) (qint (qfld I 8))]) 0)), .int 0]else none)))=some (FIN I b f w a):=by
 cases b with
 |true=>rw[FIN_bad];rfl
 |false=>
  cases w with
  |true=>rw[FIN_wide];rfl
  |false=>
   cases f with
   |true=>rfl
   |false=>exact FIN_69 I a h69
theorem text37 (l:List UInt8) (hz:l.length≤1000) (a:Int):q24 [.str (bs l), .int a]=some (OT (cls (word l)) (wide l) (opsL l) a):=by
 have h69:∀d,q10 [d]=some [.int (lenI d)]:=fun d=>(valid_spec d).2
 have hs:=opsL_short hz
 have hhl:(headL l).length≤1000:=by unfold headL;simp;omega
 have e62:q42 [.str (bs (headL l)), .str (bs [46,119])]=some [.str (bs (word l)), .bool (wide l)]:=suf42 (headL l) [46,119] (by omega)
 rw[q24_eq,F24_eq]
 have hlt:qcmp .lss (qlenS (bs l)) 4294967281=true:=by rw[len_bs,qcmp_lss];exact decide_eq_true (by omega)
 have hbig:∀x:List UInt8,x.length≤1000→qcmp .lss (qlenS (bs x)) 4294967281=true:=fun x hx=>by rw[len_bs,qcmp_lss];exact decide_eq_true (by omega)
 have hA:qcutA (bs l) (bs [32])=bs (headL l):=cutA l
 have hzero:D.agg [.int 0, .int 0, .int 0, .int 0, .int 0, .int 0, .int 0, .int 0, .int 0]=insD 0 0 0 0 0 0 0 0 0:=rfl
 have w0:(bif wide l then(false:Bool)else false)=false:=by cases wide l<;>rfl
 have w1:(bif wide l then(true:Bool)else false)=wide l:=by cases wide l<;>rfl
 have hmm:∀k:Int,qmm .gtr k 0=if k<0 then 0 else k:=fun k=>by rw[qmm,veil_eq];rfl
 simp only[F24_a0,F24_a1,F24_a2,F24_a3,F24_a4,F24_a5,F24_a6,F24_a7,F24_a8,F24_a9,F24_a10,F24_a11,F24_a12,F24_a13,F24_a14,F24_a15,F24_a16,F24_a17,F24_a18,F24_a19,F24_a20,F24_a21,mkB]
 rw[hlt,cutOk]
 by_cases sp:blank l<l.length
 ·have ho:qsplit (qcutB (bs l) (bs [32])) (bs [44,32])=opD (opsL l):=by rw[cutB sp,splitQ];unfold opsL;rw[if_pos sp]
  have hb:qcmp .lss (qlenS (qcutB (bs l) (bs [32]))) 4294967281=true:=by rw[cutB sp];exact hbig _ (by simp;omega)
  rw[decide_eq_true sp,ho,hb]
  simp only[cond_true,cond_false,hA,e62,pre59,spec63c,spec63o,qsome_s,qnth_s,List.getD_cons_zero,List.getD_cons_succ,qbool_b,qstr_s,qint_i,eq_bs,insD_eq,qiteB_c,qiteI_eq,qnot_c,Bool.not_true,Bool.not_false,List.length_cons,List.length_nil,Nat.zero_add,Nat.reduceAdd]
  have p0:(bif List.isPrefixOf [106] (word l)then true else true)=true:=by cases List.isPrefixOf [106] (word l)<;>rfl
  rw[p0]
  simp only[cond_true]
  by_cases h1:word l = [106,109,112]
  ·obtain⟨I,b,e,hF⟩:=fin65 hs (wide l) 0 a
   have hc:cls (word l) = .jmp 0:=by unfold cls;rw[if_pos h1]
   rw[decide_eq_true h1,hc, ← hF]
   simp only[e,qsome_s,qnth_s,List.getD_cons_zero,List.getD_cons_succ,qbool_b,cond_true,Bool.not_true,w0]
   have hbb:(bif b then true else false)=b:=by cases b<;>rfl
   rw[hbb]
   exact FIN_run0 I b a h69
  ·rw[decide_eq_false h1]
   simp only[cond_false]
   by_cases h2:List.isPrefixOf [106] (word l)=true∧0<ix ccL ((word l).drop 1)
   ·obtain⟨I,b,e,hF⟩:=fin65 hs (wide l) (ix ccL ((word l).drop 1)) a
    have hc:cls (word l) = .jmp (ix ccL ((word l).drop 1)):=by unfold cls;rw[if_neg h1,if_pos h2]
    rw[h2.1,hc, ← hF]
    simp only[cond_true]
    rw[show qcmp .gtr (ix ccL ((word l).drop 1)) 0=true by rw[qcmp_gtr];exact decide_eq_true h2.2]
    simp only[e,qsome_s,qnth_s,List.getD_cons_zero,List.getD_cons_succ,qbool_b,cond_true,Bool.not_true,w0]
    have hbb:(bif b then true else false)=b:=by cases b<;>rfl
    rw[hbb]
    exact FIN_run0 I b a h69
   ·have hg:qcmp .gtr (bif List.isPrefixOf [106] (word l)then ix ccL (bif List.isPrefixOf [106] (word l)then(word l).drop 1 else word l)else -1) 0=false:=by
     rw[qcmp_gtr]
     cases hp:List.isPrefixOf [106] (word l)with
     |false=>rfl
     |true=>exact decide_eq_false fun hx=>h2 ⟨hp,hx⟩
    rw[hg]
    simp only[cond_false]
    cases hps:List.isPrefixOf [115,101,116] (word l)with
    |true=>
     simp only[cond_true]
     rw[hmm,qcmp_lss]
     by_cases hx:ix ccL ((word l).drop 3)<0
     ·have hc:cls (word l) = .unk:=by unfold cls;rw[if_neg h1,if_neg h2,if_pos hps,if_pos hx]
      obtain⟨I,b,e,hF⟩:=fin66s (opsL l) false (wide l) false 0 a
      rw[decide_eq_true hx,if_pos hx,hc]
      simp only[e,qsome_s,qnth_s,List.getD_cons_zero,List.getD_cons_succ,qbool_b,cond_true]
      cases b<;>rfl
     ·have hc:cls (word l) = .one 25 (ix ccL ((word l).drop 3)):=by unfold cls;rw[if_neg h1,if_neg h2,if_pos hps,if_neg hx]
      obtain⟨I,b,e,hF⟩:=fin66s (opsL l) false (wide l) false (ix ccL ((word l).drop 3)) a
      rw[decide_eq_false hx,if_neg hx,hc, ← hF]
      simp only[e,qsome_s,qnth_s,List.getD_cons_zero,List.getD_cons_succ,qbool_b,cond_true,cond_false,w1]
      exact FIN_run1 I b (wide l) a h69
    |false=>
     simp only[cond_false]
     by_cases hx:0≤ix opL (word l)
     ·have hc:cls (word l) = .ar (ix opL (word l)):=by unfold cls;rw[if_neg h1,if_neg h2,if_neg (by rw[hps];simp),if_pos hx]
      obtain⟨I,b,t,e,hF⟩:=fin67 hs (wide l) (ix opL (word l)) a
      have e5:qbin .add .i64 5 (ix opL (word l))=5+ix opL (word l):=by
       rw[qbin_eq];simp only[rbin]
       rcases ix_range opL (word l)with h|⟨k,hk,_,h⟩
       ·omega
       ·have:opL.length=11:=rfl
        exact wrap64' (by omega) (by omega)
      rw[show qcmp .geq (ix opL (word l)) 0=true by rw[qcmp_geq];exact decide_eq_true hx,e5,hc, ← hF]
      simp only[e,qsome_s,qnth_s,List.getD_cons_zero,List.getD_cons_succ,qbool_b,cond_true]
      exact FIN_run0 I _ a h69
     ·have hc:cls (word l)=clsO (word l):=by unfold cls;rw[if_neg h1,if_neg h2,if_neg (by rw[hps];simp),if_neg hx]
      obtain⟨I,b,f,e,hF⟩:=fin68 hs (wide l) (word l) a
      rw[show qcmp .geq (ix opL (word l)) 0=false by rw[qcmp_geq];exact decide_eq_false hx,hc, ← hF]
      simp only[e,qsome_s,qnth_s,List.getD_cons_zero,List.getD_cons_succ,qbool_b,cond_true,cond_false,w1]
      exact FIN_run2 I b f (wide l) a h69
 ·have ho:D.list []=opD (opsL l):=by unfold opsL;rw[if_neg sp];rfl
  rw[decide_eq_false sp,ho]
  simp only[cond_true,cond_false,hA,e62,pre59,spec63c,spec63o,qsome_s,qnth_s,List.getD_cons_zero,List.getD_cons_succ,qbool_b,qstr_s,qint_i,eq_bs,insD_eq,qiteB_c,qiteI_eq,qnot_c,Bool.not_true,Bool.not_false,List.length_cons,List.length_nil,Nat.zero_add,Nat.reduceAdd]
  have p0:(bif List.isPrefixOf [106] (word l)then true else true)=true:=by cases List.isPrefixOf [106] (word l)<;>rfl
  rw[p0]
  simp only[cond_true]
  by_cases h1:word l = [106,109,112]
  ·obtain⟨I,b,e,hF⟩:=fin65 hs (wide l) 0 a
   have hc:cls (word l) = .jmp 0:=by unfold cls;rw[if_pos h1]
   rw[decide_eq_true h1,hc, ← hF]
   simp only[e,qsome_s,qnth_s,List.getD_cons_zero,List.getD_cons_succ,qbool_b,cond_true,Bool.not_true,w0]
   have hbb:(bif b then true else false)=b:=by cases b<;>rfl
   rw[hbb]
   exact FIN_run0 I b a h69
  ·rw[decide_eq_false h1]
   simp only[cond_false]
   by_cases h2:List.isPrefixOf [106] (word l)=true∧0<ix ccL ((word l).drop 1)
   ·obtain⟨I,b,e,hF⟩:=fin65 hs (wide l) (ix ccL ((word l).drop 1)) a
    have hc:cls (word l) = .jmp (ix ccL ((word l).drop 1)):=by unfold cls;rw[if_neg h1,if_pos h2]
    rw[h2.1,hc, ← hF]
    simp only[cond_true]
    rw[show qcmp .gtr (ix ccL ((word l).drop 1)) 0=true by rw[qcmp_gtr];exact decide_eq_true h2.2]
    simp only[e,qsome_s,qnth_s,List.getD_cons_zero,List.getD_cons_succ,qbool_b,cond_true,Bool.not_true,w0]
    have hbb:(bif b then true else false)=b:=by cases b<;>rfl
    rw[hbb]
    exact FIN_run0 I b a h69
   ·have hg:qcmp .gtr (bif List.isPrefixOf [106] (word l)then ix ccL (bif List.isPrefixOf [106] (word l)then(word l).drop 1 else word l)else -1) 0=false:=by
     rw[qcmp_gtr]
     cases hp:List.isPrefixOf [106] (word l)with
     |false=>rfl
     |true=>exact decide_eq_false fun hx=>h2 ⟨hp,hx⟩
    rw[hg]
    simp only[cond_false]
    cases hps:List.isPrefixOf [115,101,116] (word l)with
    |true=>
     simp only[cond_true]
     rw[hmm,qcmp_lss]
     by_cases hx:ix ccL ((word l).drop 3)<0
     ·have hc:cls (word l) = .unk:=by unfold cls;rw[if_neg h1,if_neg h2,if_pos hps,if_pos hx]
      obtain⟨I,b,e,hF⟩:=fin66s (opsL l) false (wide l) false 0 a
      rw[decide_eq_true hx,if_pos hx,hc]
      simp only[e,qsome_s,qnth_s,List.getD_cons_zero,List.getD_cons_succ,qbool_b,cond_true]
      cases b<;>rfl
     ·have hc:cls (word l) = .one 25 (ix ccL ((word l).drop 3)):=by unfold cls;rw[if_neg h1,if_neg h2,if_pos hps,if_neg hx]
      obtain⟨I,b,e,hF⟩:=fin66s (opsL l) false (wide l) false (ix ccL ((word l).drop 3)) a
      rw[decide_eq_false hx,if_neg hx,hc, ← hF]
      simp only[e,qsome_s,qnth_s,List.getD_cons_zero,List.getD_cons_succ,qbool_b,cond_true,cond_false,w1]
      exact FIN_run1 I b (wide l) a h69
    |false=>
     simp only[cond_false]
     by_cases hx:0≤ix opL (word l)
     ·have hc:cls (word l) = .ar (ix opL (word l)):=by unfold cls;rw[if_neg h1,if_neg h2,if_neg (by rw[hps];simp),if_pos hx]
      obtain⟨I,b,t,e,hF⟩:=fin67 hs (wide l) (ix opL (word l)) a
      have e5:qbin .add .i64 5 (ix opL (word l))=5+ix opL (word l):=by
       rw[qbin_eq];simp only[rbin]
       rcases ix_range opL (word l)with h|⟨k,hk,_,h⟩
       ·omega
       ·have:opL.length=11:=rfl
        exact wrap64' (by omega) (by omega)
      rw[show qcmp .geq (ix opL (word l)) 0=true by rw[qcmp_geq];exact decide_eq_true hx,e5,hc, ← hF]
      simp only[e,qsome_s,qnth_s,List.getD_cons_zero,List.getD_cons_succ,qbool_b,cond_true]
      exact FIN_run0 I _ a h69
     ·have hc:cls (word l)=clsO (word l):=by unfold cls;rw[if_neg h1,if_neg h2,if_neg (by rw[hps];simp),if_neg hx]
      obtain⟨I,b,f,e,hF⟩:=fin68 hs (wide l) (word l) a
      rw[show qcmp .geq (ix opL (word l)) 0=false by rw[qcmp_geq];exact decide_eq_false hx,hc, ← hF]
      simp only[e,qsome_s,qnth_s,List.getD_cons_zero,List.getD_cons_succ,qbool_b,cond_true,cond_false,w1]
      exact FIN_run2 I b f (wide l) a h69
end Go.Proofs.YtobhhfbdelnhfaaDoor
namespace Go.Proofs.YtobhhfbdelnhfaaDoor
set_option linter.unusedSimpArgs false
set_option linter.unusedVariables false
open Go Go.AM
def no (c:UInt8) (l:List UInt8):Prop:=∀x∈l,x≠c
theorem no_app {c:UInt8} {a b:List UInt8} (h:no c a) (h':no c b):no c (a++b):=by
 intro x hx
 rcases List.mem_append.1 hx with h1|h1
 ·exact h x h1
 ·exact h' x h1
theorem no_cons {c a:UInt8} {b:List UInt8} (h:a≠c) (h':no c b):no c (a::b):=by
 intro x hx
 rcases List.mem_cons.1 hx with rfl|h1
 ·exact h
 ·exact h' x h1
theorem no_nil {c:UInt8}:no c []:=fun x hx=>by cases hx
theorem no_tail {c a:UInt8} {b:List UInt8} (h:no c (a::b)):no c b:=fun x hx=>h x (List.mem_cons_of_mem _ hx)
theorem no_head {c a:UInt8} {b:List UInt8} (h:no c (a::b)):a≠c:=h a (List.mem_cons_self ..)
theorem blank_app:∀{h r:List UInt8},no 32 h→blank (h++32::r)=h.length
 | [],r,_=>by simp[blank]
 |c::l,r,hb=>by
  have h2:=blank_app (r:=r) (no_tail hb)
  rw[List.cons_append];unfold blank;rw[if_neg (no_head hb),h2];rfl
theorem blank_no:∀{l:List UInt8},no 32 l→blank l=l.length
 | [],_=>rfl
 |c::l,hb=>by
  have h2:=blank_no (no_tail hb)
  unfold blank;rw[if_neg (no_head hb),h2];rfl
theorem head_app {h r:List UInt8} (hb:no 32 h):headL (h++32::r)=h∧opsL (h++32::r)=partsL r:=by
 unfold headL opsL
 rw[blank_app hb]
 refine⟨by simp,?_⟩
 rw[if_pos (by simp),show h++32::r=(h ++ [32])++r by simp,List.drop_left' (by simp)]
theorem head_no {l:List UInt8} (hb:no 32 l):headL l=l∧opsL l = []:=by
 unfold headL opsL
 rw[blank_no hb]
 exact⟨List.take_length,if_neg (by omega)⟩
theorem comma_no:∀{x:List UInt8},no 44 x→comma x=none
 | [],_=>rfl
 | [_],_=>rfl
 |a::b::l,h=>by
  rw[comma_cons (fun e=>no_head h e.1),comma_no (no_tail h)];rfl
theorem comma_app:∀{x y:List UInt8},no 44 x→comma (x++44::32::y)=some x.length
 | [],y,_=>by simp[comma]
 | [a],y,h=>by
   show comma (a::44::32::y)=_
   rw[comma_cons (fun e=>no_head h e.1)];simp[comma]
 |a::b::l,y,h=>by
  show comma (a::b::(l++44::32::y))=_
  rw[comma_cons (fun e=>no_head h e.1)]
  have:=comma_app (x:=b::l) (y:=y) (no_tail h)
  rw[List.cons_append]at this
  rw[this];rfl
theorem parts_one {x:List UInt8} (h:no 44 x):partsL x = [x]:=partsL_none (comma_no h)
theorem parts_two {x y:List UInt8} (h:no 44 x) (h':no 44 y):partsL (x++44::32::y) = [x,y]:=by
 rw[partsL_some (comma_app h),List.take_left,show x++44::32::y=(x ++ [44,32])++y by simp,List.drop_left' (by simp),parts_one h']
theorem hx_fin:∀k:Fin 16,hx k.val≠32∧hx k.val≠44∧hx k.val≠45∧hx k.val≠93∧hx k.val≠114∧hx k.val≠120∧hx k.val≠43∧(hx k.val=48→k.val=0):=by decide
theorem digs_mem {b:Nat} (hb:2≤b∧b≤16):∀(n:Nat) (c:UInt8),c∈digs b n→∃k,k<b∧c=hx k:=by
 intro n
 induction n using Nat.strongRecOn with
 |ind n ih=>
  intro c hc
  by_cases h:n<b
  ·rw[digs_lt h]at hc
   exact⟨n,h,by simpa using hc⟩
  ·rw[digs_ge (by omega) hb.1]at hc
   rcases List.mem_append.1 hc with h1|h1
   ·exact ih _ (Nat.div_lt_self (by omega) (by omega)) c h1
   ·exact⟨n%b,Nat.mod_lt _ (by omega),by simpa using h1⟩
theorem no_digs {b n:Nat} (hb:2≤b∧b≤16) {c:UInt8} (h:∀k:Fin 16,hx k.val≠c):no c (digs b n):=fun x hx'=>by
 obtain⟨k,hk,rfl⟩:=digs_mem hb n x hx'
 exact h ⟨k,by omega⟩
theorem digs_head {b:Nat} (hb:2≤b∧b≤16):∀n:Nat,1≤n→∃k l,digs b n=hx k::l∧1≤k∧k<b:=by
 intro n
 induction n using Nat.strongRecOn with
 |ind n ih=>
  intro h1
  by_cases h:n<b
  ·exact⟨n,[],digs_lt h,h1,h⟩
  ·obtain⟨k,l,e,hk⟩:=ih (n/b) (Nat.div_lt_self (by omega) (by omega)) (Nat.div_pos (by omega) (by omega))
   exact⟨k,l ++ [hx (n%b)],by rw[digs_ge (by omega) hb.1,e];rfl,hk⟩
theorem digs_pos {b:Nat} (hb:2≤b) (n:Nat):1≤(digs b n).length:=by
 by_cases h:n<b
 ·rw[digs_lt h];exact Nat.le_refl _
 ·rw[digs_ge (by omega) hb];simp
def dgL (base:Int):List UInt8→Int→Option Int
 | [],n=>some n
 |c::l,n=>if dv ((c.toNat:Nat):Int)<0∨base≤dv ((c.toNat:Nat):Int)then none else dgL base l (n*base+dv ((c.toNat:Nat):Int))
theorem dgN_L (base:Int) (l:List UInt8):∀(k i:Nat) (n:Int),i+k=l.length→dgN (bs l) base k i n=dgL base (l.drop i) n
 |0,i,n,h=>by rw[List.drop_of_length_le (by omega)];rfl
 |k+1,i,n,h=>by
  have hlt:i<l.length:=by omega
  have hd:l.drop i=l.getD i 0::l.drop (i+1):=by rw[List.drop_eq_getElem_cons hlt];simp[List.getD,hlt]
  have hb:byt (bs l) i=((l.getD i 0).toNat:Int):=rfl
  rw[hd]
  unfold dgN dgL
  rw[hb]
  split
  ·rfl
  ·exact dgN_L base l k (i+1) _ (by omega)
theorem dgL_app (base:Int) (r:List UInt8):∀(l:List UInt8) (n:Int),dgL base (l++r) n=(dgL base l n).bind (dgL base r)
 | [],n=>rfl
 |c::l,n=>by
  rw[List.cons_append]
  unfold dgL
  split
  ·rfl
  ·exact dgL_app base r l _
theorem dv_hx:∀k:Fin 16,dv (((hx k.val).toNat:Nat):Int)=((k.val:Nat):Int):=by decide
theorem dgL_digs {b:Nat} (hb:2≤b∧b≤16):∀n:Nat,dgL b (digs b n) 0=some (n:Int):=by
 intro n
 have one:∀(k:Nat) (m:Int),k<b→dgL b [hx k] m=some (m*b+k):=by
  intro k m hk
  have:=dv_hx ⟨k,by omega⟩
  simp only at this
  unfold dgL dgL
  rw[this,if_neg (by omega)]
 induction n using Nat.strongRecOn with
 |ind n ih=>
  by_cases h:n<b
  ·rw[digs_lt h,one n 0 h];simp
  ·rw[digs_ge (by omega) hb.1,dgL_app,ih _ (Nat.div_lt_self (by omega) (by omega))]
   show dgL b [hx (n%b)] ((n/b:Nat):Int)=_
   rw[one _ _ (Nat.mod_lt _ (by omega))]
   congr 1
   have:=Nat.div_add_mod n b
   rw[← Int.natCast_mul, ← Int.natCast_add,Nat.mul_comm,this]
theorem read_digs {b most n:Nat} (hb:10≤b∧b≤16) (hm:most≤10) (h:(digs b n).length≤most):q28 [.str (bs (digs b n)), .int b, .int most]=some [.int n, .bool true]:=by
 have hsz:(bs (digs b n)).size=(digs b n).length:=rfl
 have hp:=digs_pos (b:=b) (by omega) n
 obtain⟨m,g,e1,e2⟩:=spec60 (s:=bs (digs b n)) (base:=(b:Int)) (most:=(most:Int)) (by omega) (by omega) (by omega)
 rw[if_pos (by omega),hsz,dgN_L _ _ _ _ _ (by omega),List.drop_zero,dgL_digs (by omega)]at e2
 obtain⟨rfl,rfl⟩:=e2
 exact e1
theorem wr32 (n:Nat) (h:n<4294967296):qwrap .u32 (n:Int)=n:=by rw[qwrap_eq,mU32];omega
theorem num_hex {n:Nat} (h:n<4294967296):q11 [.str (bs (48::120::digs 16 n))]=some [.int n, .bool true]:=by
 have p:=pre59 (48::120::digs 16 n) [48,120]
 have hp:List.isPrefixOf [48,120] (48::120::digs 16 n)=true:=by simp[List.isPrefixOf]
 rw[hp]at p
 simp only[cond_true]at p
 have hd:(48::120::digs 16 n).drop ([48,120]:List UInt8).length=digs 16 n:=rfl
 rw[hd]at p
 have r:q28 [.str (bs (digs 16 n)), .int 16, .int 8]=some [.int n, .bool true]:=read_digs (b:=16) (most:=8) (by omega) (by omega) (hlen n h)
 rw[q11_eq,F11_eq]
 simp only[mkB,p,qsome_s,qnth_s,List.getD_cons_zero,List.getD_cons_succ,qbool_b,qstr_s,cond_true,r,qnot_c,Bool.not_true,cond_false,qint_i,wr32 n h]
theorem pre_no {c:UInt8} {p l:List UInt8} (h:l.getD 0 0≠c):List.isPrefixOf (c::p) l=false:=by
 cases l with
 |nil=>rfl
 |cons a l=>
  have:¬c=a:=fun e=>h (by rw[e];rfl)
  simp[List.isPrefixOf,this]
theorem num_dec {m:Nat} (neg:Bool) (h1:1≤m) (h:m<4294967296) (hn:neg=true→m≤2147483648):
 q11 [.str (bs (bif neg then 45::digs 10 m else digs 10 m))]=some [.int (bif neg then((4294967296-m:Nat):Int)else m), .bool true]:=by
 obtain⟨k,t,ed,hk1,hk⟩:=digs_head (b:=10) (by omega) m h1
 have f:=hx_fin ⟨k,by omega⟩
 simp only at f
 obtain⟨_,_,f45,_,_,_,_,f48⟩:=f
 have f48':hx k≠48:=fun e=>by have:=f48 e;omega
 have r:q28 [.str (bs (digs 10 m)), .int 10, .int 10]=some [.int m, .bool true]:=read_digs (b:=10) (most:=10) (by omega) (by omega) (dlen m h)
 have i0:qidxS (bs (digs 10 m)) 0=((hx k).toNat:Int):=by rw[ed];exact idx_bs (hx k::t) 0
 have b0:qinbS (bs (digs 10 m)) 0=true:=inb_bs (l:=digs 10 m) (i:=0) (by have:=digs_pos (b:=10) (by omega) m;omega)
 have ne:qcmp .eql ((hx k).toNat:Int) 48=false:=by
  rw[qcmp_eql];exact decide_eq_false (fun e=>f48' ((u8_eq (n:=48) (by omega)).1 e))
 have ge:qcmp .geq (m:Int) 4294967296=false:=by rw[qcmp_geq];exact decide_eq_false (by omega)
 have px:∀l:List UInt8,List.isPrefixOf [48,120] l=false→q27 [.str (bs l), .str (bs [48,120])]=some [.str (bs l), .bool false]:=fun l e=>by rw[pre59,e];rfl
 rw[q11_eq,F11_eq]
 cases neg with
 |true=>
  have g1:=px (45::digs 10 m) (pre_no (by simp))
  have g2:q27 [.str (bs (45::digs 10 m)), .str (bs [45])]=some [.str (bs (digs 10 m)), .bool true]:=by
   rw[pre59];simp[List.isPrefixOf]
  have z:qcmpS .eql (bs (45::digs 10 m)) (bs [48])=false:=by rw[eq_bs];simp
  have gt:qcmp .gtr (m:Int) 2147483648=false:=by rw[qcmp_gtr];exact decide_eq_false (by have:=hn rfl;omega)
  have ng:qun .neg .u32 (m:Int)=((4294967296-m:Nat):Int):=by rw[qun_eq];simp only[run1,mU32];omega
  simp only[cond_true,mkB,g1,g2,z,r,i0,b0,ne,ge,gt,qsome_s,qnth_s,List.getD_cons_zero,List.getD_cons_succ,qbool_b,qstr_s,qint_i,qnot_c,qiteB_c,Bool.not_true,Bool.not_false,cond_false,wr32 m h,ng]
 |false=>
  have g1:=px (digs 10 m) (pre_no (by rw[ed];exact f48'))
  have g2:q27 [.str (bs (digs 10 m)), .str (bs [45])]=some [.str (bs (digs 10 m)), .bool false]:=by
   rw[pre59,pre_no (by rw[ed];exact f45)];rfl
  have z:qcmpS .eql (bs (digs 10 m)) (bs [48])=false:=by rw[eq_bs,ed];exact decide_eq_false (fun e=>by injection e with e1 _;exact f48' e1)
  simp only[cond_true,mkB,g1,g2,z,r,i0,b0,ne,ge,qsome_s,qnth_s,List.getD_cons_zero,List.getD_cons_succ,qbool_b,qstr_s,qint_i,qnot_c,qiteB_c,Bool.not_true,Bool.not_false,cond_false,wr32 m h]
theorem num_zero:q11 [.str (bs [48])]=some [.int 0, .bool true]:=by
 have g1:q27 [.str (bs [48]), .str (bs [48,120])]=some [.str (bs [48]), .bool false]:=by rw[pre59];rfl
 have z:qcmpS .eql (bs [48]) (bs [48])=true:=by rw[eq_bs];rfl
 rw[q11_eq,F11_eq]
 simp only[mkB,g1,z,qsome_s,qnth_s,List.getD_cons_zero,List.getD_cons_succ,qbool_b,cond_true,cond_false]
theorem num_of {l:List UInt8} {n:Int} (h:q11 [.str (bs l)]=some [.int n, .bool true]):numB l=true∧numV l=n:=by
 unfold numB numV;rw[h];exact⟨rfl,rfl⟩
theorem numHex {n:Nat} (h:n<4294967296):numB (48::120::digs 16 n)=true∧numV (48::120::digs 16 n)=n:=num_of (num_hex h)
theorem numDec {n:Nat} (h:n<4294967296):numB (digs 10 n)=true∧numV (digs 10 n)=n:=by
 by_cases h0:n=0
 ·subst h0;rw[digs_lt (by omega)];exact num_of num_zero
 ·exact num_of (num_dec false (by omega) h (fun e=>by cases e))
theorem numSign {n:Nat} (h:n<4294967296):numB (signT n)=true∧numV (signT n)=n:=by
 unfold signT
 split
 ·have:=num_of (num_dec (m:=4294967296-n) true (by omega) (by omega) (fun _=>by omega))
  simp only[cond_true]at this
  rw[show 4294967296-(4294967296-n)=n by omega]at this
  exact this
 ·exact numDec h
theorem reg_fin:∀k:Fin 8,48≤(hx k.val).toNat∧(hx k.val).toNat≤55∧(hx k.val).toNat-48=k.val:=by decide
theorem regOf {k:Int} (h:0≤k∧k<8):regB [114,rg k]=true∧regV [114,rg k]=k:=by
 obtain⟨r1,r2,r3⟩:=reg_fin ⟨k.toNat,by omega⟩
 simp only at r1 r2 r3
 have e:q13 [.str (bs [114,rg k])]=some [.int k, .bool true]:=by
  have l2:qcmp .neq (qlenS (bs [114,rg k])) 2=false:=by rw[len_bs,qcmp_neq];rfl
  have i0:qidxS (bs [114,rg k]) 0=114:=idx_bs [114,rg k] 0
  have i1:qidxS (bs [114,rg k]) 1=((hx k.toNat).toNat:Int):=idx_bs [114,rg k] 1
  have b0:qinbS (bs [114,rg k]) 0=true:=inb_bs (l:=[114,rg k]) (i:=0) (by simp)
  have b1:qinbS (bs [114,rg k]) 1=true:=inb_bs (l:=[114,rg k]) (i:=1) (by simp)
  have c0:qcmp .neq 114 114=false:=by rw[qcmp_neq];rfl
  have c1:qcmp .lss ((hx k.toNat).toNat:Int) 48=false:=by rw[qcmp_lss];exact decide_eq_false (by omega)
  have c2:qcmp .gtr ((hx k.toNat).toNat:Int) 55=false:=by rw[qcmp_gtr];exact decide_eq_false (by omega)
  have v:qwrap .i64 (qbin .sub .u8 ((hx k.toNat).toNat:Int) 48)=k:=by
   rw[qbin_eq,qwrap_eq];simp only[rbin,IntKind.wrap,IntKind.bits,IntKind.signed];simp;omega
  rw[q13_eq,F13_eq]
  simp only[l2,i0,i1,b0,b1,c0,c1,c2,qiteB_c,cond_false,cond_true,v]
 unfold regB regV;rw[e];exact⟨rfl,rfl⟩
theorem regNo {l:List UInt8} (h:l.getD 0 0≠114):regB l=false:=by
 have h114:¬((l.getD 0 0).toNat:Int)=114:=fun e=>h ((u8_eq (n:=114) (by omega)).1 e)
 have hne:qcmp .neq (qidxS (bs l) 0) 114=true:=by
  rw[show(0:Int)=((0:Nat):Int)from rfl,idx_bs,qcmp_neq,decide_eq_false h114];rfl
 obtain⟨n,b,e1,_⟩:=reg_eq (bs l)
 have hb:regB l=b:=by unfold regB;rw[e1]
 rw[hb]
 rw[q13_eq,F13_eq,hne]at e1
 simp only[qiteB_c]at e1
 have t:(bif qcmp .neq (qlenS (bs l)) 2 then true else true)=true:=by cases qcmp .neq (qlenS (bs l)) 2<;>rfl
 rw[t]at e1
 simp only[cond_true]at e1
 revert e1
 cases (bif qcmp .neq (qlenS (bs l)) 2 then true else qinbS (bs l) 0)
 ·intro e1;cases e1
 ·intro e1;simp only[cond_true]at e1;injection e1 with e1;injection e1 with _ e1;injection e1 with e1 _;injection e1 with e1;exact e1.symm
end Go.Proofs.YtobhhfbdelnhfaaDoor
namespace Go.Proofs.YtobhhfbdelnhfaaDoor
set_option linter.unusedSimpArgs false
set_option linter.unusedVariables false
open Go Go.AM
theorem OT_of {h r:List UInt8} {c:Cls} (a:Int) (hb:no 32 h) (hc:cls h=c) (hw:sfx [46,119] h=false):
 OT (cls (word (h++32::r))) (wide (h++32::r)) (opsL (h++32::r)) a=OT c false (partsL r) a:=by
 have hw':wide (h++32::r)=false:=by unfold wide;rw[(head_app hb).1,hw]
 unfold word
 rw[hw',(head_app hb).1,(head_app hb).2,cond_false,hc]
theorem OT_bare {h:List UInt8} {c:Cls} (a:Int) (hb:no 32 h) (hc:cls h=c) (hw:sfx [46,119] h=false):
 OT (cls (word h)) (wide h) (opsL h) a=OT c false [] a:=by
 have hw':wide h=false:=by unfold wide;rw[(head_no hb).1,hw]
 unfold word
 rw[hw',(head_no hb).1,(head_no hb).2,cond_false,hc]
theorem OT_wide {m r:List UInt8} {c:Cls} (a:Int) (hb:no 32 m) (hc:cls m=c):
 OT (cls (word ((m ++ [46,119])++32::r))) (wide ((m ++ [46,119])++32::r)) (opsL ((m ++ [46,119])++32::r)) a=OT c true (partsL r) a:=by
 have hb':no 32 (m ++ [46,119]):=no_app hb (no_cons (by decide) (no_cons (by decide) no_nil))
 have hs:sfx [46,119] (m ++ [46,119])=true:=by unfold sfx;simp
 have hw':wide ((m ++ [46,119])++32::r)=true:=by unfold wide;rw[(head_app hb').1,hs]
 have hl:(m++([46,119]:List UInt8)).length-2=m.length:=by simp
 unfold word
 rw[hw',(head_app hb').1,(head_app hb').2,cond_true,hl,List.take_left,hc]
theorem no_all {c:UInt8} {l:List UInt8} (h:(l.all fun x=>x != c)=true):no c l:=by
 intro x hx e
 have:=List.all_eq_true.1 h x hx
 rw[e]at this
 simp at this
theorem no_rg {k:Int} (h:0≤k∧k<8):no 44 [114,rg k]:=by
 have:=hx_fin ⟨k.toNat,by omega⟩
 exact no_cons (by decide) (no_cons this.2.1 no_nil)
theorem rg_ne {k:Int} (h:0≤k∧k<8):rg k≠44∧rg k≠45:=by
 have:=hx_fin ⟨k.toNat,by omega⟩
 exact⟨this.2.1,this.2.2.1⟩
theorem no_hex (n:Nat):no 44 (48::120::digs 16 n):=no_cons (by decide) (no_cons (by decide) (no_digs (by omega) fun k=>(hx_fin k).2.1))
theorem no_sign (n:Nat):no 44 (signT n):=by
 unfold signT
 split
 ·exact no_cons (by decide) (no_digs (by omega) fun k=>(hx_fin k).2.1)
 ·exact no_digs (by omega) fun k=>(hx_fin k).2.1
theorem no_place {k:Int} (h:0≤k∧k<8) (n:Nat):no 44 (placeT (rg k) n):=by
 unfold placeT
 refine no_app (no_cons (by decide) (no_cons (by decide) (no_cons (rg_ne h).1 no_nil))) (no_app ?_ (no_cons (by decide) no_nil))
 split
 ·exact no_nil
 ·split
  ·exact no_cons (by decide) (no_digs (by omega) fun k=>(hx_fin k).2.1)
  ·exact no_cons (by decide) (no_digs (by omega) fun k=>(hx_fin k).2.1)
theorem place_read {k:Int} (h:0≤k∧k<8) {n:Nat} (hn:near n) (h2:n<4294967296):plR (placeT (rg k) n)=(k,(n:Int),0):=by
 have gen:∀x:List UInt8,∀l:List UInt8,l = [91,114,rg k]++(x ++ [93])→plR l=(match x with | []=>(k,0,0)|a::r=>plT k (numB r) (numV r) a (r.getD 0 0)):=by
  intro x l e
  have el:l.length=x.length+4:=by rw[e];simp
  have g0:l.getD 0 0=91:=by rw[e];rfl
  have g1:l.getD (l.length-1) 0=93:=by
   rw[el,e,show x.length+4-1=([91,114,rg k]++x).length by simp, ← List.append_assoc]
   simp[List.getD]
  have g2:(l.drop 1).take 2 = [114,rg k]:=by rw[e];rfl
  have g3:(l.take (l.length-1)).drop 3=x:=by
   rw[el,e,show x.length+4-1=([91,114,rg k]++x).length by simp, ← List.append_assoc,List.take_left];rfl
  unfold plR
  rw[if_neg (by rw[g0,g1,el];simp),g2,(regOf h).1,if_neg (by simp),g3,(regOf h).2]
  cases x<;>rfl
 unfold placeT
 rw[gen _ _ rfl]
 by_cases h0:n=0
 ·subst h0;rfl
 ·rw[if_neg h0]
  unfold near at hn
  by_cases h1:n≤127
  ·rw[if_pos h1]
   obtain⟨c,t,ed,hc⟩:=digs_head (b:=10) (by omega) n (by omega)
   have f:=hx_fin ⟨c,by omega⟩
   obtain⟨nb,nv⟩:=numDec (n:=n) (by omega)
   show plT k (numB (digs 10 n)) (numV (digs 10 n)) 43 ((digs 10 n).getD 0 0)=_
   rw[nb,nv]
   have f45:(digs 10 n).getD 0 0≠45:=by rw[ed];exact f.2.2.1
   unfold plT
   rw[if_neg (by simp only[f45];simp),if_neg (by simp;omega),if_neg (by decide)]
  ·rw[if_neg h1]
   obtain⟨c,t,ed,hc⟩:=digs_head (b:=10) (by omega) (4294967296-n) (by omega)
   have f:=hx_fin ⟨c,by omega⟩
   obtain⟨nb,nv⟩:=numDec (n:=4294967296-n) (by omega)
   show plT k (numB (digs 10 (4294967296-n))) (numV (digs 10 (4294967296-n))) 45 ((digs 10 (4294967296-n)).getD 0 0)=_
   rw[nb,nv]
   have f45:(digs 10 (4294967296-n)).getD 0 0≠45:=by rw[ed];exact f.2.2.1
   have sb:qbin .sub .u32 0 ((4294967296-n:Nat):Int)=(n:Int):=by rw[qbin_eq];simp only[rbin,mU32];omega
   unfold plT
   rw[if_neg (by simp only[f45];simp),if_neg (by simp;omega),if_pos rfl,sb]
theorem op_words:∀k:Fin 11,sfx [46,119] (opT k.val)=false∧((opT k.val).all fun x=>x != 32)=true:=by decide +kernel
theorem elev {k:Nat} (h:k<11):k=0∨k=1∨k=2∨k=3∨k=4∨k=5∨k=6∨k=7∨k=8∨k=9∨k=10:=by omega
theorem op_cls {k:Nat} (h:k<11):cls (opT k) = .ar k:=by
 rcases elev h with rfl|rfl|rfl|rfl|rfl|rfl|rfl|rfl|rfl|rfl|rfl<;>kernel_rfl
def jw (k:Nat):List UInt8:=if k=0 then[106,109,112]else 106::ccT k
theorem jw_words:∀k:Fin 15,sfx [46,119] (jw k.val)=false∧((jw k.val).all fun x=>x != 32)=true∧sfx [46,119] ([115,101,116]++ccT k.val)=false∧(([115,101,116]++ccT k.val).all fun x=>x != 32)=true:=by decide +kernel
theorem fif {k:Nat} (h:k<15):k=0∨k=1∨k=2∨k=3∨k=4∨k=5∨k=6∨k=7∨k=8∨k=9∨k=10∨k=11∨k=12∨k=13∨k=14:=by omega
theorem jw_cls {k:Nat} (h:k<15):cls (jw k) = .jmp k:=by
 rcases fif h with rfl|rfl|rfl|rfl|rfl|rfl|rfl|rfl|rfl|rfl|rfl|rfl|rfl|rfl|rfl<;>kernel_rfl
theorem set_cls {k:Nat} (h:k<15):cls ([115,101,116]++ccT k) = .one 25 k:=by
 rcases fif h with rfl|rfl|rfl|rfl|rfl|rfl|rfl|rfl|rfl|rfl|rfl|rfl|rfl|rfl|rfl<;>kernel_rfl
theorem OT_one {o cc a k:Int} (h:0≤k∧k<8):OT (.one o cc) false (partsL [114,rg k]) a=okD a 0 o 0 0 cc k 0:=by
 rw[parts_one (no_rg h)]
 have e:op [[114,rg k]] 0 = [114,rg k]:=rfl
 simp only[OT,e,(regOf h).1,(regOf h).2]
 simp
theorem OT_mem {o w a k b:Int} {n:Nat} (h:0≤k∧k<8) (hb:0≤b∧b<8) (hn:near n) (h2:n<4294967296):
 OT (.mem o w false) false (partsL ([114,rg k]++44::32::placeT (rg b) n)) a=okD a n o 0 w 0 k b:=by
 rw[parts_two (no_rg h) (no_place hb n)]
 have e0:op [[114,rg k],placeT (rg b) n] 0 = [114,rg k]:=rfl
 have e1:op [[114,rg k],placeT (rg b) n] 1=placeT (rg b) n:=rfl
 simp only[OT,meOk,meR,meP,cond_false,e0,e1,(regOf h).1,(regOf h).2,place_read hb hn h2]
 rfl
theorem OT_sto {o w a k b:Int} {n:Nat} (h:0≤k∧k<8) (hb:0≤b∧b<8) (hn:near n) (h2:n<4294967296):
 OT (.mem o w true) false (partsL (placeT (rg b) n++44::32 :: [114,rg k])) a=okD a n o 0 w 0 k b:=by
 rw[parts_two (no_place hb n) (no_rg h)]
 have e0:op [placeT (rg b) n,[114,rg k]] 0=placeT (rg b) n:=rfl
 have e1:op [placeT (rg b) n,[114,rg k]] 1 = [114,rg k]:=rfl
 simp only[OT,meOk,meR,meP,cond_true,e0,e1,(regOf h).1,(regOf h).2,place_read hb hn h2]
 rfl
theorem OT_call {a:Int} {n:Nat} (h2:n<4294967296):OT .call false (partsL (48::120::digs 16 n)) a=okD a n 23 0 0 0 0 0:=by
 rw[parts_one (no_hex n)]
 have e:op [48::120::digs 16 n] 0=48::120::digs 16 n:=rfl
 simp only[OT,e,(numHex h2).1,(numHex h2).2]
 rfl
theorem OT_jumpt {a k:Int} {n:Nat} (h:0≤k∧k<8) (h2:n<4294967296):OT .jumpt false (partsL ([114,rg k]++44::32::(48::120::digs 16 n))) a=okD a n 22 0 0 0 k 0:=by
 rw[parts_two (no_rg h) (no_hex n)]
 have e0:op [[114,rg k],48::120::digs 16 n] 0 = [114,rg k]:=rfl
 have e1:op [[114,rg k],48::120::digs 16 n] 1=48::120::digs 16 n:=rfl
 simp only[OT,e0,e1,(regOf h).1,(regOf h).2,(numHex h2).1,(numHex h2).2]
 rfl
theorem OT_jmp {a cc:Int} {n:Nat} (w:Bool) (h2:n<4294967296):OT (.jmp cc) w (partsL (48::120::digs 16 n)) a=okD a n 20 (fm (off n a) w) 0 cc 0 0:=by
 rw[parts_one (no_hex n)]
 have e:op [48::120::digs 16 n] 0=48::120::digs 16 n:=rfl
 simp only[OT,e,(numHex h2).1,(numHex h2).2]
 rfl
theorem OT_arr {a k b o:Int} (h:0≤k∧k<8) (hb:0≤b∧b<8):OT (.ar o) false (partsL ([114,rg k]++44::32 :: [114,rg b])) a=okD a 0 (5+o) 0 0 0 k b:=by
 rw[parts_two (no_rg h) (no_rg hb)]
 have e0:op [[114,rg k],[114,rg b]] 0 = [114,rg k]:=rfl
 have e1:op [[114,rg k],[114,rg b]] 1 = [114,rg b]:=rfl
 simp only[OT,arOk,arI,e0,e1,(regOf h).1,(regOf h).2,(regOf hb).1,(regOf hb).2]
 rfl
theorem OT_arn {a k o:Int} {n:Nat} {x:List UInt8} (w:Bool) (h:0≤k∧k<8) (hc:no 44 x) (hr:regB x=false) (hx:numB x=true∧numV x=n):OT (.ar o) w (partsL ([114,rg k]++44::32::x)) a=okD a n (5+o) (fm n w) 0 0 k 0:=by
 rw[parts_two (no_rg h) hc]
 have e0:op [[114,rg k],x] 0 = [114,rg k]:=rfl
 have e1:op [[114,rg k],x] 1=x:=rfl
 simp only[OT,arOk,arI,e0,e1,(regOf h).1,(regOf h).2,hr,hx.1,hx.2]
 rfl
theorem reg_sign {n:Nat}:regB (signT n)=false:=by
 refine regNo ?_
 unfold signT
 split
 ·simp
 ·intro e
  have hp:=digs_pos (b:=10) (by omega) n
  have hm:(digs 10 n).getD 0 0∈digs 10 n:=by
   cases hd:digs 10 n with
   |nil=>rw[hd]at hp;simp at hp
   |cons x l=>simp
  obtain⟨k,hk,ek⟩:=digs_mem (b:=10) (by omega) n _ hm
  have f:=hx_fin ⟨k,by omega⟩
  exact f.2.2.2.2.1 (ek.symm.trans e)
theorem reg_hex {n:Nat}:regB (48::120::digs 16 n)=false:=regNo (by simp)
theorem fm_n {n:Nat} (w:Bool) (h:n<4294967296):fm n w=if near n∧w=false then 1 else 2:=by
 unfold fm nearI
 rw[nearW n h]
 by_cases hn:near n<;>simp[hn]
theorem round {d:D} {n j:Nat} (hv:vld d=true) (hn:qint (qfld d 1)=n) (h2:n<4294967296) (hj:short d=j) (hj2:j<4294967296):
 OT (cls (word (PT d n j))) (wide (PT d n j)) (opsL (PT d n j)) (qint (qfld d 0)) =
  okD (qint (qfld d 0)) (qint (qfld d 1)) (qint (qfld d 2)) (qint (qfld d 3)) (qint (qfld d 4)) (qint (qfld d 5)) (qint (qfld d 6)) (qint (qfld d 7)):=by
 obtain⟨s,hs,hA,hB,hI,hF,hW,hC,hA0,hB0,hN,hJ⟩:=vld_iff.1 hv
 have hof:off (n:Int) (qint (qfld d 0))=(j:Int):=by rw[← hn];exact hj
 rw[hj]at hJ
 rw[hn]at hI hN ⊢
 generalize qint (qfld d 0)=a at *
 unfold PT
 generalize qint (qfld d 2)=o at *
 generalize qint (qfld d 3)=f at *
 generalize qint (qfld d 4)=w at *
 generalize qint (qfld d 5)=cc at *
 generalize qint (qfld d 6)=A at *
 generalize qint (qfld d 7)=B at *
 have near_of:s=4∨s=5→near n:=fun h=>by have:=hN h;unfold near;omega
 rcases ocases o with ho|ho|ho|ho|ho|ho|ho|ho|ho|ho|ho|ho|ho|ho|ho|ho|ho
 ·exfalso
  unfold shp at hs
  rw[if_neg (by omega),if_neg (by omega),if_neg (by omega),if_neg (by omega),if_neg (by omega),if_neg (by omega),if_neg (by omega),if_neg (by omega),if_neg (by omega),if_neg (by omega),if_neg (by omega)]at hs
  cases hs
 ·
  have h0:s=0:=by unfold shp at hs;rw[if_pos (by omega)]at hs;cases hs;rfl
  obtain rfl:f=0:=by omega
  obtain rfl:w=0:=by omega
  obtain rfl:cc=0:=by omega
  obtain rfl:A=0:=by omega
  obtain rfl:B=0:=by omega
  obtain rfl:n=0:=by omega
  rcases ho with rfl|rfl|rfl
  ·simp only[Int.reduceEq,if_true,if_false]
   rw[OT_bare a (no_all (by decide)) (c:= .bare 0) (by kernel_rfl) (by decide)];rfl
  ·simp only[Int.reduceEq,if_true,if_false]
   rw[OT_bare a (no_all (by decide)) (c:= .bare 1) (by kernel_rfl) (by decide)];rfl
  ·simp only[Int.reduceEq,if_true,if_false]
   rw[OT_bare a (no_all (by decide)) (c:= .bare 2) (by kernel_rfl) (by decide)];rfl
 ·
  subst ho
  have h0:s=1:=by unfold shp at hs;simp only[Int.reduceEq,Int.reduceLE,or_true,or_false,and_true,and_false,true_and,false_and,if_true,if_false,or_self]at hs;cases hs;rfl
  obtain rfl:f=0:=by omega
  obtain rfl:w=0:=by omega
  obtain rfl:cc=0:=by omega
  obtain rfl:B=0:=by omega
  obtain rfl:n=0:=by omega
  simp only[Int.reduceEq,Int.reduceLE,if_true,if_false]
  have e: [112,117,115,104,32,114] ++ [rg A] = [112,117,115,104]++32 :: [114,rg A]:=rfl
  rw[e,OT_of a (no_all (by decide)) (c:= .one 3 0) (by kernel_rfl) (by decide),OT_one hA];rfl
 ·
  subst ho
  have h0:s=1:=by unfold shp at hs;simp only[Int.reduceEq,Int.reduceLE,or_true,or_false,and_true,and_false,true_and,false_and,if_true,if_false,or_self]at hs;cases hs;rfl
  obtain rfl:f=0:=by omega
  obtain rfl:w=0:=by omega
  obtain rfl:cc=0:=by omega
  obtain rfl:B=0:=by omega
  obtain rfl:n=0:=by omega
  simp only[Int.reduceEq,Int.reduceLE,if_true,if_false]
  have e: [112,111,112,32,114] ++ [rg A] = [112,111,112]++32 :: [114,rg A]:=rfl
  rw[e,OT_of a (no_all (by decide)) (c:= .one 4 0) (by kernel_rfl) (by decide),OT_one hA];rfl
 ·
  obtain⟨k,hk⟩:=Int.eq_ofNat_of_zero_le (show 0≤o-5 by omega)
  obtain rfl:o=5+(k:Int):=by omega
  have hk11:k<11:=by omega
  obtain⟨w1,w2⟩:=op_words ⟨k,hk11⟩
  rw[if_neg (by omega),if_neg (by omega),if_neg (by omega),if_neg (by omega),if_neg (by omega),if_pos (by omega),show(5+(k:Int)-5).toNat=k by omega]
  unfold shp at hs
  rw[if_neg (by omega),if_neg (by omega),if_pos (by omega)]at hs
  by_cases f0:f=0
  ·subst f0
   rw[if_pos rfl]at hs
   have h0:s=3:=by cases hs;rfl
   obtain rfl:w=0:=by omega
   obtain rfl:cc=0:=by omega
   obtain rfl:n=0:=by omega
   have e:opT k++arT 0 (rg A) (rg B) 0=opT k++32::([114,rg A]++44::32 :: [114,rg B]):=rfl
   rw[e,OT_of a (no_all w2) (op_cls hk11) w1,OT_arr hA hB];rfl
  ·by_cases f1:f=1
   ·subst f1
    rw[if_neg (by omega),if_pos rfl]at hs
    have h0:s=4:=by cases hs;rfl
    have nn:=near_of (.inl h0)
    obtain rfl:w=0:=by omega
    obtain rfl:cc=0:=by omega
    obtain rfl:B=0:=by omega
    have e:opT k++arT 1 (rg A) (rg 0) n=opT k++32::([114,rg A]++44::32::signT n):=rfl
    rw[e,OT_of a (no_all w2) (op_cls hk11) w1,OT_arn false hA (no_sign n) reg_sign (numSign h2),fm_n false h2,if_pos ⟨nn,rfl⟩]
   ·rw[if_neg f0,if_neg f1]at hs
    have f2:f=2:=by
     apply Classical.byContradiction
     intro hf
     rw[if_neg hf]at hs
     cases hs
    subst f2
    rw[if_pos rfl]at hs
    have h0:s=6:=by cases hs;rfl
    obtain rfl:w=0:=by omega
    obtain rfl:cc=0:=by omega
    obtain rfl:B=0:=by omega
    by_cases nn:near n
    ·have e:opT k++arT 2 (rg A) (rg 0) n=(opT k ++ [46,119])++32::([114,rg A]++44::32::signT n):=by
      unfold arT
      rw[if_neg (by omega),if_neg (by omega),if_pos nn]
      simp
     rw[e,OT_wide a (no_all w2) (op_cls hk11),OT_arn true hA (no_sign n) reg_sign (numSign h2),fm_n true h2,if_neg (by simp)]
    ·have e:opT k++arT 2 (rg A) (rg 0) n=opT k++32::([114,rg A]++44::32::(48::120::digs 16 n)):=by
      unfold arT
      rw[if_neg (by omega),if_neg (by omega),if_neg nn]
      simp
     rw[e,OT_of a (no_all w2) (op_cls hk11) w1,OT_arn false hA (no_hex n) reg_hex (numHex h2),fm_n false h2,if_neg (fun h=>nn h.1)]
 ·
  subst ho
  have h0:s=5∧(w=1∨w=2∨w=4):=by
   unfold shp at hs;simp only[Int.reduceEq,Int.reduceLE,or_true,or_false,and_true,and_false,true_and,false_and,if_true,if_false,or_self]at hs
   split at hs
   ·rename_i hw;cases hs;exact⟨rfl,hw⟩
   ·cases hs
  have nn:=near_of (.inr h0.1)
  obtain rfl:f=0:=by omega
  obtain rfl:cc=0:=by omega
  simp only[Int.reduceEq,Int.reduceLE,if_true,if_false]
  rcases h0.2 with rfl|rfl|rfl
  ·have e: [108,111,97,100]++(digs 10 (1:Int).toNat++([32,114,rg A,44,32]++placeT (rg B) n)) = [108,111,97,100,49]++32::([114,rg A]++44::32::placeT (rg B) n):=by
    rw[show digs 10 (1:Int).toNat = [49]from digs_lt (by decide)];rfl
   rw[e,OT_of a (no_all (by decide)) (c:= .mem 16 1 false) (by kernel_rfl) (by decide),OT_mem hA hB nn h2]
  ·have e: [108,111,97,100]++(digs 10 (2:Int).toNat++([32,114,rg A,44,32]++placeT (rg B) n)) = [108,111,97,100,50]++32::([114,rg A]++44::32::placeT (rg B) n):=by
    rw[show digs 10 (2:Int).toNat = [50]from digs_lt (by decide)];rfl
   rw[e,OT_of a (no_all (by decide)) (c:= .mem 16 2 false) (by kernel_rfl) (by decide),OT_mem hA hB nn h2]
  ·have e: [108,111,97,100]++(digs 10 (4:Int).toNat++([32,114,rg A,44,32]++placeT (rg B) n)) = [108,111,97,100,52]++32::([114,rg A]++44::32::placeT (rg B) n):=by
    rw[show digs 10 (4:Int).toNat = [52]from digs_lt (by decide)];rfl
   rw[e,OT_of a (no_all (by decide)) (c:= .mem 16 4 false) (by kernel_rfl) (by decide),OT_mem hA hB nn h2]
 ·
  subst ho
  have h0:s=5∧(w=1∨w=2):=by
   unfold shp at hs;simp only[Int.reduceEq,Int.reduceLE,or_true,or_false,and_true,and_false,true_and,false_and,if_true,if_false,or_self]at hs
   split at hs
   ·rename_i hw;cases hs;exact⟨rfl,hw⟩
   ·cases hs
  have nn:=near_of (.inr h0.1)
  obtain rfl:f=0:=by omega
  obtain rfl:cc=0:=by omega
  simp only[Int.reduceEq,Int.reduceLE,if_true,if_false]
  rcases h0.2 with rfl|rfl
  ·have e: [108,111,97,100]++(digs 10 (1:Int).toNat++([115,32,114,rg A,44,32]++placeT (rg B) n)) = [108,111,97,100,49,115]++32::([114,rg A]++44::32::placeT (rg B) n):=by
    rw[show digs 10 (1:Int).toNat = [49]from digs_lt (by decide)];rfl
   rw[e,OT_of a (no_all (by decide)) (c:= .mem 17 1 false) (by kernel_rfl) (by decide),OT_mem hA hB nn h2]
  ·have e: [108,111,97,100]++(digs 10 (2:Int).toNat++([115,32,114,rg A,44,32]++placeT (rg B) n)) = [108,111,97,100,50,115]++32::([114,rg A]++44::32::placeT (rg B) n):=by
    rw[show digs 10 (2:Int).toNat = [50]from digs_lt (by decide)];rfl
   rw[e,OT_of a (no_all (by decide)) (c:= .mem 17 2 false) (by kernel_rfl) (by decide),OT_mem hA hB nn h2]
 ·
  subst ho
  have h0:s=5∧(w=1∨w=2∨w=4):=by
   unfold shp at hs;simp only[Int.reduceEq,Int.reduceLE,or_true,or_false,and_true,and_false,true_and,false_and,if_true,if_false,or_self]at hs
   split at hs
   ·rename_i hw;cases hs;exact⟨rfl,hw⟩
   ·cases hs
  have nn:=near_of (.inr h0.1)
  obtain rfl:f=0:=by omega
  obtain rfl:cc=0:=by omega
  simp only[Int.reduceEq,Int.reduceLE,if_true,if_false]
  rcases h0.2 with rfl|rfl|rfl
  ·have e: [115,116,111,114,101]++(digs 10 (1:Int).toNat++(32::(placeT (rg B) n ++ [44,32,114,rg A]))) = [115,116,111,114,101,49]++32::(placeT (rg B) n++44::32 :: [114,rg A]):=by
    rw[show digs 10 (1:Int).toNat = [49]from digs_lt (by decide)];rfl
   rw[e,OT_of a (no_all (by decide)) (c:= .mem 18 1 true) (by kernel_rfl) (by decide),OT_sto hA hB nn h2]
  ·have e: [115,116,111,114,101]++(digs 10 (2:Int).toNat++(32::(placeT (rg B) n ++ [44,32,114,rg A]))) = [115,116,111,114,101,50]++32::(placeT (rg B) n++44::32 :: [114,rg A]):=by
    rw[show digs 10 (2:Int).toNat = [50]from digs_lt (by decide)];rfl
   rw[e,OT_of a (no_all (by decide)) (c:= .mem 18 2 true) (by kernel_rfl) (by decide),OT_sto hA hB nn h2]
  ·have e: [115,116,111,114,101]++(digs 10 (4:Int).toNat++(32::(placeT (rg B) n ++ [44,32,114,rg A]))) = [115,116,111,114,101,52]++32::(placeT (rg B) n++44::32 :: [114,rg A]):=by
    rw[show digs 10 (4:Int).toNat = [52]from digs_lt (by decide)];rfl
   rw[e,OT_of a (no_all (by decide)) (c:= .mem 18 4 true) (by kernel_rfl) (by decide),OT_sto hA hB nn h2]
 ·
  subst ho
  have h0:s=5:=by unfold shp at hs;simp only[Int.reduceEq,Int.reduceLE,or_true,or_false,and_true,and_false,true_and,false_and,if_true,if_false,or_self]at hs;cases hs;rfl
  have nn:=near_of (.inr h0)
  obtain rfl:f=0:=by omega
  obtain rfl:w=0:=by omega
  obtain rfl:cc=0:=by omega
  simp only[Int.reduceEq,Int.reduceLE,if_true,if_false]
  have e: [108,101,97,32,114]++([rg A,44,32]++placeT (rg B) n) = [108,101,97]++32::([114,rg A]++44::32::placeT (rg B) n):=rfl
  rw[e,OT_of a (no_all (by decide)) (c:= .mem 19 0 false) (by kernel_rfl) (by decide),OT_mem hA hB nn h2]
 ·
  subst ho
  have hcc:0≤cc∧cc≤14∧(f=1∧s=7∨f=2∧s=8):=by
   unfold shp at hs;simp only[Int.reduceEq,Int.reduceLE,or_true,or_false,and_true,and_false,true_and,false_and,if_true,if_false,or_self]at hs
   split at hs
   ·rename_i hc
    split at hs
    ·cases hs;omega
    ·split at hs
     ·cases hs;omega
     ·cases hs
   ·cases hs
  obtain⟨k,rfl⟩:=Int.eq_ofNat_of_zero_le hcc.1
  have hk:k<15:=by omega
  obtain⟨w1,w2,_,_⟩:=jw_words ⟨k,hk⟩
  obtain rfl:w=0:=by omega
  obtain rfl:A=0:=by omega
  obtain rfl:B=0:=by omega
  simp only[Int.reduceEq,Int.reduceLE,if_true,if_false]
  have ej:(if((k:Nat):Int)=0 then([106,109,112]:List UInt8)else 106::ccT (((k:Nat):Int)).toNat)=jw k:=by
   unfold jw
   rw[Int.toNat_natCast]
   by_cases h:k=0
   ·rw[if_pos h,if_pos (by omega)]
   ·rw[if_neg h,if_neg (by omega)]
  unfold jmT
  rw[ej]
  by_cases hx:f=2∧near j
  ·rw[if_pos hx]
   have e:jw k++([46,119]++([32,48,120]++digs 16 n))=(jw k ++ [46,119])++32::(48::120::digs 16 n):=by simp
   rw[e,OT_wide a (no_all w2) (jw_cls hk),OT_jmp true h2,hof,fm_n true hj2,if_neg (by simp),hx.1]
  ·rw[if_neg hx]
   have e:jw k++(([]:List UInt8)++([32,48,120]++digs 16 n))=jw k++32::(48::120::digs 16 n):=by simp
   rw[e,OT_of a (no_all w2) (jw_cls hk) w1,OT_jmp false h2,hof,fm_n false hj2]
   rcases hcc.2.2 with⟨rfl,h7⟩|⟨rfl,h8⟩
   ·have nj:near j:=by have:=hJ h7;unfold near;omega
    rw[if_pos ⟨nj,rfl⟩]
   ·rw[if_neg (fun h=>hx ⟨rfl,h.1⟩)]
 ·
  subst ho
  have h0:s=2:=by unfold shp at hs;simp only[Int.reduceEq,Int.reduceLE,or_true,or_false,and_true,and_false,true_and,false_and,if_true,if_false,or_self]at hs;cases hs;rfl
  obtain rfl:f=0:=by omega
  obtain rfl:w=0:=by omega
  obtain rfl:cc=0:=by omega
  obtain rfl:B=0:=by omega
  obtain rfl:n=0:=by omega
  simp only[Int.reduceEq,Int.reduceLE,if_true,if_false]
  have e: [106,117,109,112,114,32,114] ++ [rg A] = [106,117,109,112,114]++32 :: [114,rg A]:=rfl
  rw[e,OT_of a (no_all (by decide)) (c:= .one 21 0) (by kernel_rfl) (by decide),OT_one hA];rfl
 ·
  subst ho
  have h0:s=6:=by unfold shp at hs;simp only[Int.reduceEq,Int.reduceLE,or_true,or_false,and_true,and_false,true_and,false_and,if_true,if_false,or_self]at hs;cases hs;rfl
  obtain rfl:f=0:=by omega
  obtain rfl:w=0:=by omega
  obtain rfl:cc=0:=by omega
  obtain rfl:B=0:=by omega
  simp only[Int.reduceEq,Int.reduceLE,if_true,if_false]
  have e: [106,117,109,112,116,32,114]++([rg A,44,32,48,120]++digs 16 n) = [106,117,109,112,116]++32::([114,rg A]++44::32::(48::120::digs 16 n)):=rfl
  rw[e,OT_of a (no_all (by decide)) (c:= .jumpt) (by kernel_rfl) (by decide),OT_jumpt hA h2]
 ·
  subst ho
  have h0:s=8:=by unfold shp at hs;simp only[Int.reduceEq,Int.reduceLE,or_true,or_false,and_true,and_false,true_and,false_and,if_true,if_false,or_self]at hs;cases hs;rfl
  obtain rfl:f=0:=by omega
  obtain rfl:w=0:=by omega
  obtain rfl:cc=0:=by omega
  obtain rfl:A=0:=by omega
  obtain rfl:B=0:=by omega
  simp only[Int.reduceEq,Int.reduceLE,if_true,if_false]
  have e: [99,97,108,108,32,48,120]++digs 16 n = [99,97,108,108]++32::(48::120::digs 16 n):=rfl
  rw[e,OT_of a (no_all (by decide)) (c:= .call) (by kernel_rfl) (by decide),OT_call h2]
 ·
  subst ho
  have h0:s=2:=by unfold shp at hs;simp only[Int.reduceEq,Int.reduceLE,or_true,or_false,and_true,and_false,true_and,false_and,if_true,if_false,or_self]at hs;cases hs;rfl
  obtain rfl:f=0:=by omega
  obtain rfl:w=0:=by omega
  obtain rfl:cc=0:=by omega
  obtain rfl:B=0:=by omega
  obtain rfl:n=0:=by omega
  simp only[Int.reduceEq,Int.reduceLE,if_true,if_false]
  have e: [99,97,108,108,114,32,114] ++ [rg A] = [99,97,108,108,114]++32 :: [114,rg A]:=rfl
  rw[e,OT_of a (no_all (by decide)) (c:= .one 24 0) (by kernel_rfl) (by decide),OT_one hA];rfl
 ·
  subst ho
  have hcc:0≤cc∧cc≤14∧s=2:=by
   unfold shp at hs;simp only[Int.reduceEq,Int.reduceLE,or_true,or_false,and_true,and_false,true_and,false_and,if_true,if_false,or_self]at hs
   split at hs
   ·rename_i hc;cases hs;exact⟨hc.1,hc.2,rfl⟩
   ·cases hs
  obtain⟨k,rfl⟩:=Int.eq_ofNat_of_zero_le hcc.1
  have hk:k<15:=by omega
  obtain⟨_,_,w1,w2⟩:=jw_words ⟨k,hk⟩
  obtain rfl:f=0:=by omega
  obtain rfl:w=0:=by omega
  obtain rfl:B=0:=by omega
  obtain rfl:n=0:=by omega
  simp only[Int.reduceEq,Int.reduceLE,if_true,if_false]
  have e: [115,101,116]++(ccT (((k:Nat):Int)).toNat ++ [32,114,rg A])=([115,101,116]++ccT k)++32 :: [114,rg A]:=by
   rw[Int.toNat_natCast];simp
  rw[e,OT_of a (no_all w2) (set_cls hk) w1,OT_one hA];rfl
 ·
  subst ho
  have h0:s=2:=by unfold shp at hs;simp only[Int.reduceEq,Int.reduceLE,or_true,or_false,and_true,and_false,true_and,false_and,if_true,if_false,or_self]at hs;cases hs;rfl
  obtain rfl:f=0:=by omega
  obtain rfl:w=0:=by omega
  obtain rfl:cc=0:=by omega
  obtain rfl:B=0:=by omega
  obtain rfl:n=0:=by omega
  simp only[Int.reduceEq,Int.reduceLE,if_true,if_false]
  have e: [105,110,32,114] ++ [rg A] = [105,110]++32 :: [114,rg A]:=rfl
  rw[e,OT_of a (no_all (by decide)) (c:= .one 26 0) (by kernel_rfl) (by decide),OT_one hA];rfl
 ·
  subst ho
  have h0:s=2:=by unfold shp at hs;simp only[Int.reduceEq,Int.reduceLE,or_true,or_false,and_true,and_false,true_and,false_and,if_true,if_false,or_self]at hs;cases hs;rfl
  obtain rfl:f=0:=by omega
  obtain rfl:w=0:=by omega
  obtain rfl:cc=0:=by omega
  obtain rfl:B=0:=by omega
  obtain rfl:n=0:=by omega
  simp only[Int.reduceEq,Int.reduceLE,if_true,if_false]
  have e: [111,117,116,32,114] ++ [rg A] = [111,117,116]++32 :: [114,rg A]:=rfl
  rw[e,OT_of a (no_all (by decide)) (c:= .one 27 0) (by kernel_rfl) (by decide),OT_one hA];rfl
end Go.Proofs.YtobhhfbdelnhfaaDoor
namespace Go.Proofs.YtobhhfbdelnhfaaDoor
set_option linter.unusedSimpArgs false
set_option linter.unusedVariables false
open Go Go.AM
def U32 (r:Option (List D)):Prop:=∀v b,r=some [.int v,b]→0≤v∧v<4294967296
theorem U32_none:U32 none:=fun v b h=>by cases h
theorem U32_bif {c:Bool} {x y:Option (List D)} (h:U32 x) (h':U32 y):U32 (bif c then x else y):=by cases c;exact h';exact h
theorem U32_0 {b:D}:U32 (some [.int 0,b]):=fun v b h=>by injection h with h;injection h with h _;injection h with h;omega
theorem U32_w {n:Int} {b:D}:U32 (some [.int (qwrap .u32 n),b]):=fun v b h=>by
 injection h with h;injection h with h _;injection h with h
 rw[← h,qwrap_eq,mU32];omega
theorem U32_n {n:Int} {b:D}:U32 (some [.int (qun .neg .u32 n),b]):=fun v b h=>by
 injection h with h;injection h with h _;injection h with h
 rw[← h,qun_eq];simp only[run1,mU32];omega
theorem num_rg {l:List UInt8} (hz:l.length≤1000):∃n:Nat,numV l=n∧n<4294967296:=by
 have e:=(num_spec hz).1
 have u:U32 (q11 [.str (bs l)]):=by
  rw[q11_eq,F11_eq]
  repeat' first|exact U32_none|exact U32_0|exact U32_w|exact U32_n|refine U32_bif ?_ ?_
 have:=u _ _ e
 obtain⟨n,hn⟩:=Int.eq_ofNat_of_zero_le this.1
 exact⟨n,hn,by omega⟩
theorem reg_rng {l:List UInt8} (h:regB l=true):0≤regV l∧regV l<8:=by
 have e:=(reg_spec l).1
 rw[q13_eq,F13_eq,h]at e
 simp only[qiteB_c,qcmp_neq,qcmp_lss,qcmp_gtr]at e
 generalize qidxS (bs l) 1=x at e
 generalize qidxS (bs l) 0=y at e
 generalize qlenS (bs l)=z at e
 generalize qinbS (bs l) 0=b0 at e
 generalize qinbS (bs l) 1=b1 at e
 by_cases a:z=2<;>by_cases b:y=114<;>by_cases c:x<48<;>by_cases d:55<x<;>cases b0<;>cases b1<;>simp[a,b,c,d]at e
 rw[← e,qbin_eq,qwrap_eq]
 simp only[rbin,IntKind.wrap,IntKind.bits,IntKind.signed]
 simp
 omega
theorem pl_rng {l:List UInt8} (hz:l.length≤1000) (h:(plR l).2.2=0):(0≤(plR l).1∧(plR l).1<8)∧∃n:Nat,(plR l).2.1=n∧n<4294967296∧near n:=by
 revert h
 unfold plR
 split
 ·intro h;cases h
 ·split
  ·intro h;cases h
  ·rename_i hr
   have hr':regB ((l.drop 1).take 2)=true:=by simpa using hr
   split
   ·intro _;exact⟨reg_rng hr',0,rfl,by omega, .inl (by omega)⟩
   ·rename_i a r hx
    have hl:r.length≤1000:=by
     have:=congrArg List.length hx
     simp at this;omega
    obtain⟨n,hn,h2⟩:=num_rg hl
    unfold plT
    rw[hn]
    split
    ·intro h;cases h
    ·split
     ·intro h;cases h
     ·rename_i g1 g2
      intro _
      refine⟨reg_rng hr',?_⟩
      have ha:a=43∨a=45:=by
       apply Classical.byContradiction
       intro hc
       exact g1 (.inr (.inr ⟨fun e=>hc (.inl e),fun e=>hc (.inr e)⟩))
      rcases ha with rfl|rfl
      ·have hn7:n≤127:=by
        apply Classical.byContradiction
        intro hc
        exact g2 (.inl ⟨rfl,by omega⟩)
       exact⟨n,by rw[if_neg (by decide)],h2, .inl hn7⟩
      ·have hn8:n≤128:=by
        apply Classical.byContradiction
        intro hc
        exact g2 (.inr (by omega))
       rw[if_pos rfl,qbin_eq]
       simp only[rbin,mU32]
       by_cases h0:n=0
       ·exact⟨0,by subst h0;rfl,by omega, .inl (by omega)⟩
       ·exact⟨4294967296-n,by omega,by omega, .inr (by omega)⟩
def good:Cls→Prop
 | .bare k=>0≤k∧k≤2
 | .one o cc=>(o=3∨o=4∨o=21∨o=24∨o=26∨o=27)∧cc=0∨o=25∧0≤cc∧cc≤14
 | .mem o w _=>o=16∧(w=1∨w=2∨w=4)∨o=17∧(w=1∨w=2)∨o=18∧(w=1∨w=2∨w=4)∨o=19∧w=0
 | .ar k=>0≤k∧k≤10
 | .jmp cc=>0≤cc∧cc≤14
 |_=>True
theorem good_ite {c:Prop} [Decidable c] {x y:Cls} (h:good x) (h':good y):good (if c then x else y):=by
 split
 ·exact h
 ·exact h'
theorem ix_rng {names:List (List UInt8)} (x:List UInt8):ix names x = -1∨0≤ix names x∧ix names x<names.length:=by
 rcases ixF_range x names 0 with h|⟨k,hk,_,e⟩
 ·exact .inl h
 ·right;unfold ix;rw[e];omega
theorem good_cls (m:List UInt8):good (cls m):=by
 have c15:ccL.length=15:=rfl
 have o11:opL.length=11:=rfl
 have r1:=ix_rng (names:=ccL) (m.drop 1)
 have r3:=ix_rng (names:=ccL) (m.drop 3)
 have ro:=ix_rng (names:=opL) m
 unfold cls
 split
 ·show(0:Int)≤0∧(0:Int)≤14;omega
 ·split
  ·rename_i h;show 0≤ix ccL (m.drop 1)∧ix ccL (m.drop 1)≤14;omega
  ·split
   ·split
    ·trivial
    ·show _∨_∧_;right;exact⟨rfl,by omega,by omega⟩
   ·split
    ·show 0≤ix opL m∧ix opL m≤10;omega
    ·unfold clsO
     repeat' apply good_ite
     all_goals simp[good]
theorem hasS_ins {a i o f w c x y z s:Int}:hasS (insD a i o f w c x y z) s↔shp o f w c=some s∧okA s o f w c x y i (off i a):=by
 obtain⟨f0,f1,f2,f3,f4,f5,f6,f7,f8⟩:=insF a i o f w c x y z
 unfold hasS short
 rw[f0,f1,f2,f3,f4,f5,f6,f7];exact Iff.rfl
theorem OT_ok {c:Cls} (hg:good c) {ops:List (List UInt8)} (hs:Short ops) (w:Bool) (a:Int):
 (OT c w ops a=erD 3∨OT c w ops a=erD 7)∨∃(n:Nat) (o f wd cc x y s:Int),OT c w ops a=okD a n o f wd cc x y∧n<4294967296∧hasS (insD a n o f wd cc x y 0) s:=by
 cases c with
 |bare k=>
  simp only[OT]
  cases hb:(!w&&decide (ops.length=0))with
  |false=>exact .inl (.inl rfl)
  |true=>
   have g:0≤k∧k≤2:=hg
   refine .inr ⟨0,k,0,0,0,0,0,0,rfl,by omega,hasS_ins.2 ⟨?_,?_⟩⟩
   ·unfold shp;rw[if_pos g]
   ·unfold okA;omega
 |one o cc=>
  simp only[OT]
  cases hb:(!w&&(decide (ops.length=1)&&regB (op ops 0)))with
  |false=>exact .inl (.inl rfl)
  |true=>
   simp only[Bool.and_eq_true]at hb
   have hr:=reg_rng hb.2.2
   rcases hg with⟨g,rfl⟩|⟨rfl,g⟩
   ·rcases g with rfl|rfl|rfl|rfl|rfl|rfl
    ·exact .inr ⟨0,3,0,0,0,_,0,1,rfl,by omega,hasS_ins.2 ⟨rfl,by unfold okA;omega⟩⟩
    ·exact .inr ⟨0,4,0,0,0,_,0,1,rfl,by omega,hasS_ins.2 ⟨rfl,by unfold okA;omega⟩⟩
    ·exact .inr ⟨0,21,0,0,0,_,0,2,rfl,by omega,hasS_ins.2 ⟨rfl,by unfold okA;omega⟩⟩
    ·exact .inr ⟨0,24,0,0,0,_,0,2,rfl,by omega,hasS_ins.2 ⟨rfl,by unfold okA;omega⟩⟩
    ·exact .inr ⟨0,26,0,0,0,_,0,2,rfl,by omega,hasS_ins.2 ⟨rfl,by unfold okA;omega⟩⟩
    ·exact .inr ⟨0,27,0,0,0,_,0,2,rfl,by omega,hasS_ins.2 ⟨rfl,by unfold okA;omega⟩⟩
   ·refine .inr ⟨0,25,0,0,cc,_,0,2,rfl,by omega,hasS_ins.2 ⟨?_,by unfold okA;omega⟩⟩
    unfold shp
    simp[g]
 |mem o wd st=>
  simp only[OT]
  cases hb:(!w&&meOk ops st)with
  |false=>exact .inl (.inl rfl)
  |true=>
   simp only[Bool.and_eq_true]at hb
   have hk:=hb.2
   unfold meOk at hk
   simp only[Bool.and_eq_true,decide_eq_true_eq]at hk
   have hr:=reg_rng hk.2.1
   have hlen:(meP ops st).length≤1000:=by unfold meP;cases st;exact op_short hs (by omega);exact op_short hs (by omega)
   rcases plE (meP ops st)with h|h|h
   ·obtain⟨hp,n,en,h2,nn⟩:=pl_rng hlen h
    rw[h,en]
    unfold near at nn
    refine .inr ⟨n,o,0,wd,0,_,_,5,rfl,h2,hasS_ins.2 ⟨?_,?_⟩⟩
    ·rcases hg with⟨rfl,g⟩|⟨rfl,g⟩|⟨rfl,g⟩|⟨rfl,g⟩<;>unfold shp<;>simp[g]
    ·have g':o=16∨o=17∨o=18∨o=19∧wd=0:=by rcases hg with⟨h,_⟩|⟨h,_⟩|⟨h,_⟩|⟨h,g⟩<;>omega
     unfold okA;omega
   ·rw[h]at hk;simp at hk
   ·rw[h];exact .inl (.inr rfl)
 |call=>
  simp only[OT]
  cases hb:(!w&&(decide (ops.length=1)&&numB (op ops 0)))with
  |false=>exact .inl (.inl rfl)
  |true=>
   simp only[Bool.and_eq_true,decide_eq_true_eq]at hb
   obtain⟨n,en,h2⟩:=num_rg (op_short hs (k:=0) (by omega))
   rw[en]
   exact .inr ⟨n,23,0,0,0,0,0,8,rfl,h2,hasS_ins.2 ⟨rfl,by unfold okA;omega⟩⟩
 |jumpt=>
  simp only[OT]
  cases hb:(!w&&(decide (ops.length=2)&&(regB (op ops 0)&&numB (op ops 1))))with
  |false=>exact .inl (.inl rfl)
  |true=>
   simp only[Bool.and_eq_true,decide_eq_true_eq]at hb
   have hr:=reg_rng hb.2.2.1
   obtain⟨n,en,h2⟩:=num_rg (op_short hs (k:=1) (by omega))
   rw[en]
   exact .inr ⟨n,22,0,0,0,_,0,6,rfl,h2,hasS_ins.2 ⟨rfl,by unfold okA;omega⟩⟩
 |ar k=>
  have g:0≤k∧k≤10:=hg
  simp only[OT]
  cases hb:arOk ops w with
  |false=>exact .inl (.inl rfl)
  |true=>
   unfold arOk at hb
   simp only[Bool.and_eq_true,decide_eq_true_eq]at hb
   have hr:=reg_rng hb.2.1
   obtain⟨n,en,h2⟩:=num_rg (op_short hs (k:=1) (by omega))
   unfold arI
   by_cases h1:regB (op ops 1)=true
   ·have hr1:=reg_rng h1
    rw[if_pos h1,if_pos h1]
    refine .inr ⟨0,5+k,0,0,0,_,_,3,rfl,by omega,hasS_ins.2 ⟨?_,by unfold okA;omega⟩⟩
    unfold shp
    rw[if_neg (by omega),if_neg (by omega),if_pos (by omega),if_pos rfl]
   ·rw[if_neg h1,if_neg h1,en,fm_n w h2]
    by_cases hn:near n∧w=false
    ·rw[if_pos hn]
     have hn1:=hn.1
     unfold near at hn1
     refine .inr ⟨n,5+k,1,0,0,_,0,4,rfl,h2,hasS_ins.2 ⟨?_,by unfold okA;omega⟩⟩
     unfold shp
     rw[if_neg (by omega),if_neg (by omega),if_pos (by omega),if_neg (by omega),if_pos rfl]
    ·rw[if_neg hn]
     refine .inr ⟨n,5+k,2,0,0,_,0,6,rfl,h2,hasS_ins.2 ⟨?_,by unfold okA;omega⟩⟩
     unfold shp
     rw[if_neg (by omega),if_neg (by omega),if_pos (by omega),if_neg (by omega),if_neg (by omega),if_pos rfl]
 |jmp cc=>
  have g:0≤cc∧cc≤14:=hg
  simp only[OT]
  cases hb:(decide (ops.length=1)&&numB (op ops 0))with
  |false=>exact .inl (.inl rfl)
  |true=>
   simp only[Bool.and_eq_true,decide_eq_true_eq]at hb
   obtain⟨n,en,h2⟩:=num_rg (op_short hs (k:=0) (by omega))
   rw[en]
   have ho:0≤off n a∧off n a<4294967296:=by unfold off;rw[qbin_eq];simp only[rbin,mU32];omega
   obtain⟨j,hj⟩:=Int.eq_ofNat_of_zero_le ho.1
   rw[hj,fm_n w (by omega)]
   by_cases hn:near j∧w=false
   ·rw[if_pos hn]
    have hn1:=hn.1
    unfold near at hn1
    refine .inr ⟨n,20,1,0,cc,0,0,7,rfl,h2,hasS_ins.2 ⟨?_,by rw[hj];unfold okA;omega⟩⟩
    unfold shp;simp[g]
   ·rw[if_neg hn]
    refine .inr ⟨n,20,2,0,cc,0,0,8,rfl,h2,hasS_ins.2 ⟨?_,by rw[hj];unfold okA;omega⟩⟩
    unfold shp;simp[g]
 |unk=>exact .inl (.inl rfl)
end Go.Proofs.YtobhhfbdelnhfaaDoor
namespace Go.Proofs.YtobhhfbdelnhfaaDoor
set_option linter.unusedSimpArgs false
set_option linter.unusedVariables false
open Go Go.AM
theorem w_le {d:D} (hv:vld d=true):0≤qint (qfld d 4)∧qint (qfld d 4)≤4:=by
 obtain⟨s,hs,hA,hB,hI,hF,hW,hC,hA0,hB0,hN,hJ⟩:=vld_iff.1 hv
 unfold shp at hs
 rcases hW with h|h
 ·have:qint (qfld d 2)=16∨qint (qfld d 2)=17∨qint (qfld d 2)=18:=by omega
  rcases this with h|h|h<;>rw[h]at hs<;>simp only[Int.reduceEq,Int.reduceLE,or_true,or_false,and_true,and_false,true_and,false_and,if_true,if_false,or_self]at hs<;>split at hs<;>first|omega|cases hs
 ·omega
theorem ite_len {c:Prop} [Decidable c] {a b:List UInt8} (h:a.length≤100) (h':b.length≤100):(if c then a else b).length≤100:=by
 split
 ·exact h
 ·exact h'
theorem PT_len {d:D} {n j:Nat} (hv:vld d=true) (h2:n<4294967296):(PT d n j).length≤100:=by
 have hw:=w_le hv
 have l1:=dlen (qint (qfld d 4)).toNat (by omega)
 have l2:=hlen n h2
 have l3:=placeT_len (rg (qint (qfld d 7))) n h2
 have l4:=opT_len (qint (qfld d 2)-5).toNat
 have l5:=ccT_len (qint (qfld d 5)).toNat
 have l6:=signT_len n h2
 have ar:(arT (qint (qfld d 3)) (rg (qint (qfld d 6))) (rg (qint (qfld d 7))) n).length≤30:=by
  unfold arT
  repeat' split
  all_goals (simp only[List.length_append,List.length_cons,List.length_nil];omega)
 have jm:(jmT (qint (qfld d 5)) (qint (qfld d 3)) n j).length≤30:=by
  unfold jmT
  repeat' split
  all_goals (simp only[List.length_append,List.length_cons,List.length_nil];omega)
 unfold PT
 repeat' apply ite_len
 all_goals first|(simp only[List.length_append,List.length_cons,List.length_nil];omega)|omega
theorem PT_ne {d:D} {n j:Nat} (hv:vld d=true) (hn:qint (qfld d 1)=n) (h2:n<4294967296) (hj:short d=j) (hj2:j<4294967296):PT d n j≠[]:=by
 intro e
 have h:=round hv hn h2 hj hj2
 rw[e]at h
 have hc:OT (cls (word [])) (wide []) (opsL []) (qint (qfld d 0))=erD 3:=by
  rw[show cls (word []) = .unk by kernel_rfl];rfl
 rw[hc]at h
 unfold erD okD at h
 injection h with _ h;injection h with h _;injection h with h
 omega
theorem lenI_ins {d:D} (z:Int):lenI (insD (qint (qfld d 0)) (qint (qfld d 1)) (qint (qfld d 2)) (qint (qfld d 3)) (qint (qfld d 4)) (qint (qfld d 5)) (qint (qfld d 6)) (qint (qfld d 7)) z)=lenI d:=by
 obtain⟨f0,f1,f2,f3,f4,f5,f6,f7,f8⟩:=insF (qint (qfld d 0)) (qint (qfld d 1)) (qint (qfld d 2)) (qint (qfld d 3)) (qint (qfld d 4)) (qint (qfld d 5)) (qint (qfld d 6)) (qint (qfld d 7)) z
 have hh:∀s,hasS (insD (qint (qfld d 0)) (qint (qfld d 1)) (qint (qfld d 2)) (qint (qfld d 3)) (qint (qfld d 4)) (qint (qfld d 5)) (qint (qfld d 6)) (qint (qfld d 7)) z) s↔hasS d s:=by
  intro s
  unfold hasS short
  rw[f0,f1,f2,f3,f4,f5,f6,f7]
 by_cases hx:∃s,hasS d s
 ·obtain⟨s,hs⟩:=hx
  rw[lenI_of hs,lenI_of ((hh s).2 hs)]
 ·rw[lenI_none hx,lenI_none (fun⟨s,hs⟩=>hx ⟨s,(hh s).1 hs⟩)]
theorem parse_of {l:List UInt8} (hz:l.length≤1000) {a:Int} {I:D} {e:Int} (h:OT (cls (word l)) (wide l) (opsL l) a = [I, .int e]):q9 [.str (bs l), .int a]=some [I, .int e]:=by
 rw[q9_eq,F9_eq,text37 l hz a,h]
 simp only[qsome_s,qnth_s,List.getD_cons_zero,List.getD_cons_succ,qbool_b,qstr_s,qint_i,qnot_c,cond_true,cond_false]
theorem neS (a b:ByteArray):qcmpS .neq a b = !qcmpS .eql a b:=by rw[qcmpS_eq];rfl
theorem eqSelf (x:Int):qcmp .eql x x=true:=by rw[qcmp_eql];simp
theorem print_no {d:D} (hv:vld d=false):q6 [d]=some [.str (bs [])]:=by
 rw[q6_eq,F6_eq,(valid_spec d).1,hv]
 simp only[qsome_s,qnth_s,List.getD_cons_zero,qbool_b,qnot_c,Bool.not_false,cond_true]
 rfl
theorem law3 {d:D} (h:∃n:Nat,qint (qfld d 1)=n∧n<4294967296):q3 [d]=some [.bool true]:=by
 obtain⟨n,hn,h2⟩:=h
 obtain⟨j,hj,hj2⟩:=short_nn d
 have q7e:q7 [d]=some [.bool (vld d)]:=(valid_spec d).1
 have q10e:q10 [d]=some [.int (lenI d)]:=(valid_spec d).2
 rw[q3_eq,F3_eq,q7e,q10e,q8_eq]
 cases hv:vld d with
 |false=>
  have z:qcmpS .eql (bs []) (bs [])=true:=by rw[eq_bs];rfl
  rw[print_no hv]
  simp only[qsome_s,qnth_s,List.getD_cons_zero,qbool_b,qstr_s,qnot_c,Bool.not_false,cond_true,qiteB_c,mkB,z]
 |true=>
  have e6:=print_spec hv hn h2 hj hj2
  have hr:=round hv hn h2 hj hj2
  unfold okD at hr
  rw[lenI_ins]at hr
  have e9:=parse_of (l:=PT d n j) (by have:=PT_len (j:=j) hv h2;omega) hr
  obtain⟨f0,f1,f2,f3,f4,f5,f6,f7,f8⟩:=insF (qint (qfld d 0)) (qint (qfld d 1)) (qint (qfld d 2)) (qint (qfld d 3)) (qint (qfld d 4)) (qint (qfld d 5)) (qint (qfld d 6)) (qint (qfld d 7)) (lenI d)
  have ne:qcmpS .neq (bs (PT d n j)) (bs [])=true:=by
   rw[neS,eq_bs,decide_eq_false (PT_ne hv hn h2 hj hj2)];rfl
  have hl:qcmp .geq (lenI d) 1=true:=by rw[qcmp_geq];exact decide_eq_true (lenI_pos hv).1
  rw[e6]
  simp only[qsome_s,qnth_s,List.getD_cons_zero,List.getD_cons_succ,qbool_b,qstr_s,qint_i,qnot_c,Bool.not_true,cond_false,cond_true,qiteB_c,mkB,ne,e9,f0,f1,f2,f3,f4,f5,f6,f7,f8,eqSelf,hl,qand_c,Bool.and_self]
end Go.Proofs.YtobhhfbdelnhfaaDoor
namespace Go.Proofs.YtobhhfbdelnhfaaDoor
set_option linter.unusedSimpArgs false
set_option linter.unusedVariables false
open Go Go.AM
theorem again {d:D} {n:Nat} (hv:vld d=true) (hn:qint (qfld d 1)=n) (h2:n<4294967296):
 ∃t,q6 [d]=some [.str t]∧q9 [.str t, .int (qint (qfld d 0))]=some [insD (qint (qfld d 0)) (qint (qfld d 1)) (qint (qfld d 2)) (qint (qfld d 3)) (qint (qfld d 4)) (qint (qfld d 5)) (qint (qfld d 6)) (qint (qfld d 7)) (lenI d), .int 0]:=by
 obtain⟨j,hj,hj2⟩:=short_nn d
 have hr:=round hv hn h2 hj hj2
 unfold okD at hr
 rw[lenI_ins]at hr
 exact⟨_,print_spec hv hn h2 hj hj2,parse_of (l:=PT d n j) (by have:=PT_len (j:=j) hv h2;omega) hr⟩
theorem law4 (s:ByteArray) (a:Int):q4 [.str s, .int a]=some [.bool true]:=by
 obtain⟨l,rfl⟩:=bs_of s
 rw[q4_eq,F4_eq,len_bs,show qcmp .gtr (l.length:Int) 200=decide (200<l.length)from gtI l.length 200,q8_eq]
 by_cases h:200<l.length
 ·rw[decide_eq_true h];simp only[qsome_s,qnth_s,List.getD_cons_zero,List.getD_cons_succ,qbool_b,qstr_s,qint_i,qnot_c,cond_true,cond_false]
 ·rw[decide_eq_false h]
  have hz:l.length≤1000:=by omega
  rcases OT_ok (good_cls (word l)) (opsL_short hz) (wide l) a with h3|⟨n,o,f,wd,cc,x,y,s,e,h2,hs⟩
  ·have he:∃er:Int,(er=3∨er=7)∧OT (cls (word l)) (wide l) (opsL l) a=erD er:=by
    rcases h3 with h3|h3
    ·exact⟨3, .inl rfl,h3⟩
    ·exact⟨7, .inr rfl,h3⟩
   obtain⟨er,h37,he⟩:=he
   unfold erD at he
   have e9:=parse_of hz he
   have nz:qcmp .neq er 0=true:=by rw[qcmp_neq,decide_eq_false (by omega)];rfl
   have g37:(bif qcmp .eql er 3 then true else qcmp .eql er 7)=true:=by
    rw[qcmp_eql,qcmp_eql]
    rcases h37 with rfl|rfl<;>rfl
   obtain⟨f0,f1,f2,f3,f4,f5,f6,f7,f8⟩:=insF 0 0 0 0 0 0 0 0 0
   rw[e9]
   simp only[qsome_s,qnth_s,List.getD_cons_zero,List.getD_cons_succ,qbool_b,qint_i,nz,f0,f1,f2,f3,f4,f5,f6,f7,f8,eqSelf,qand_c,Bool.and_self,qiteB_c,cond_true,cond_false,g37]
  ·unfold okD at e
   have e9:=parse_of hz e
   have hl:=lenI_of hs
   rw[hl]at e9
   have hd:hasS (insD a n o f wd cc x y (sLen s)) s:=hasS_ins.2 (hasS_ins.1 hs)
   have hv:vld (insD a n o f wd cc x y (sLen s))=true:=vld_iff.2 ⟨s,hd⟩
   obtain⟨f0,f1,f2,f3,f4,f5,f6,f7,f8⟩:=insF a n o f wd cc x y (sLen s)
   obtain⟨t,e6,e9'⟩:=again hv f1 h2
   rw[f0,f1,f2,f3,f4,f5,f6,f7,lenI_of hd]at e9'
   have e7:q7 [insD a n o f wd cc x y (sLen s)]=some [.bool true]:=by rw[(valid_spec _).1,hv]
   have e10:q10 [insD a n o f wd cc x y (sLen s)]=some [.int (sLen s)]:=by rw[(valid_spec _).2,lenI_of hd]
   have nz:qcmp .neq 0 0=false:=by rw[qcmp_neq];rfl
   rw[e9]
   simp only[qsome_s,qnth_s,List.getD_cons_zero,List.getD_cons_succ,qbool_b,qstr_s,qint_i,nz,e6,e7,e10,e9',f0,f1,f2,f3,f4,f5,f6,f7,f8,eqSelf,qand_c,Bool.and_self,qiteB_c,cond_true,cond_false]
end Go.Proofs.YtobhhfbdelnhfaaDoor
namespace Go.Proofs.YtobhhfbdelnhfaaDoor
open Go Go.AM
def isLitV:AV→Bool
 | .ui _ _=>true
 | .ub _=>true
 |_=>false
def litV:AV→Value
 | .ui k n=> .int k n
 | .ub b=> .bool b
 |_=> .bool false
theorem repL_lits {ρ:Nat→Option Nat} {E:Nat→Prop} {w:World}:∀(l:List AV) (cs:List Value),l.all isLitV=true→RepL ρ E w l cs→cs=l.map litV
 | [],cs,_,h=>by simpa[RepL]using h
 |c::l,cs,hl,h=>by
  simp only[List.all_cons,Bool.and_eq_true]at hl
  simp only[RepL]at h
  obtain⟨v,vs,rfl,h1,h2⟩:=h
  rw[repL_lits l vs hl.2 h2]
  cases c<;>simp only[isLitV]at hl<;>first|(cases hl.1;done)|skip
  all_goals (simp only[Rep]at h1;subst h1;rfl)
theorem okT:okTypes PG=true:=by kernel_rfl
theorem pg:PG=Tryd.prog:=by unfold PG;rfl
theorem arr_len {H:Type} {enc:TypeId×Value→H} {P:Program} {w:World} {base:Nat} {sp:Nat→Bool} {held:Bool} {fuel:Nat} {t e:TypeId} {n:Nat} {cs:List Value} {d:DataW H} {p:List MemPlace}
 (ht:P.underlying t=some (.array n e)) (h:DataW.trod enc P w base sp held fuel t cs=some (d,p)):cs.length=P.cellsOf t:=by
 cases fuel with
 |zero=>simp[DataW.trod]at h
 |succ fuel=>
  simp only[DataW.trod,ht]at h
  split at h
  ·rename_i hl
   exact hl
  ·cases h
theorem cs_of_laid {w:World} {fuel:Nat} {t e:TypeId} {n:Nat} {cs:List Value} {d:DataW Unit} {p:List MemPlace} {enc:TypeId×Value→Unit} {held:Bool}
 (ht:Tryd.prog.underlying t=some (.array n e)) (hs:t<Tryd.prog.types.size) (hl:layOk PG 8 t=true) (hlit:(cellsT 8 t (toD d)).all isLitV=true)
 (h:DataW.trod enc Tryd.prog w 0 (fun _=>true) held fuel t cs=some (d,p)):cs=(cellsT 8 t (toD d)).map litV:=by
 have hlen:=arr_len ht h
 have h':DataW.trod enc PG w 0 (fun _=>true) held fuel t cs=some (d,p):=by rw[pg];exact h
 obtain⟨hr,_⟩:=trod_rep (P:=PG) okT fuel t cs d p h' (by rw[pg];exact hlen) (by rw[pg];exact hs)
 exact repL_lits _ _ hlit (cellsT_rep (ρ:=nowhere) 8 t (toD d) cs hl hr)
theorem cells102 (d:D):cellsT 8 102 d=(List.range 20).map fun i=> .ui .u64 (qint (qfld d i)):=by kernel_rfl
theorem lit102 (d:D):(cellsT 8 102 d).all isLitV=true:=by rw[cells102];rfl
theorem cells115 (d:D):cellsT 8 115 d=(List.range 64).map fun i=> .ui .u8 (qint (qfld d i)):=by kernel_rfl
theorem lit115 (d:D):(cellsT 8 115 d).all isLitV=true:=by rw[cells115];rfl
theorem int_un (d:D):qint d=d.toInt:=by rw[qint_eq]
def tabCells (g:Nat):List Value:=((findG g GLT).getD []).map fun a=>match a with | .sc v=>v|_=> .bool false
theorem vals0:(cellsT 8 102 (toD (Rows.laid_internal_strconv_uint64pow10 (H:=Unit)))).map litV=tabCells 0:=by
 rw[cells102];simp only[int_un,qfld_eq];rfl
theorem vals3:(cellsT 8 115 (toD (Rows.laid_math_bits_deBruijn64tab (H:=Unit)))).map litV=tabCells 3:=by
 rw[cells115];simp only[int_un,qfld_eq];rfl
theorem glob3:Tryd.prog.globalNamed "math/bits.deBruijn64tab" = some 3:=by kernel_rfl
theorem gty3:(Tryd.prog.globals[3]?).map (·.type)=some 115:=by kernel_rfl
theorem glob0:Tryd.prog.globalNamed "internal/strconv.uint64pow10" = some 0:=by kernel_rfl
theorem gty0:(Tryd.prog.globals[0]?).map (·.type)=some 102:=by kernel_rfl
theorem var_of {W:World} {name:String} {d:DataW Unit} {g t e n:Nat} {rest:List (String×DataW Unit)} (hg:Tryd.prog.globalNamed name=some g) (hty:(Tryd.prog.globals[g]?).map (·.type)=some t) (ht:Tryd.prog.underlying t=some (.array n e)) (hs:t<Tryd.prog.types.size)
 (hl:layOk PG 8 t=true) (hlit:(cellsT 8 t (toD d)).all isLitV=true) (h:laidMet Tryd.prog ((name,d)::rest) W):∃cs:Array Value,W.var? Tryd.prog name=some cs∧cs.toList=(cellsT 8 t (toD d)).map litV:=by
 obtain⟨ps,⟨g',t',cs,fuel,p,q,hg',ht',hvar,hd,_,_⟩,_⟩:=h
 obtain rfl:=Option.some.inj (hg.symm.trans hg')
 obtain rfl:=Option.some.inj (hty.symm.trans ht')
 exact⟨cs,hvar,cs_of_laid ht hs hl hlit hd⟩
theorem var?_all {W:World} {g:Nat} {name:String} {cs:Array Value} {vs:List Value} (hg:Tryd.prog.globalNamed name=some g) (hvar:W.var? Tryd.prog name=some cs) (he:cs.toList=vs):∃c T f,W.heap[g]? = some (.cells c T f)∧c.size=(vs.map AV.sc).length:=by
 simp only[World.var?,hg,Option.bind_some]at hvar
 split at hvar
 ·rename_i c T f hh
  cases hvar
  exact⟨_,_,_,hh,by rw[List.length_map, ← he,Array.length_toList]⟩
 ·cases hvar
theorem repAt_of {W:World} {E:Nat→Prop} {g:Nat} {name:String} {cs:Array Value} {vs:List Value} (hg:Tryd.prog.globalNamed name=some g) (hvar:W.var? Tryd.prog name=some cs) (he:cs.toList=vs) (h0:0<vs.length):g<W.heap.size∧GlRep E W g (vs.map AV.sc):=by
 have hc:∀(i:Nat),W.cell? ⟨g,i,none⟩=vs[i]? :=fun i=>by rw[World.var?_cell hg hvar i, ← he,Array.getElem?_toList]
 refine⟨?_,RepAt.ofL (RepL.sc vs) fun j u hu=>by rw[Nat.zero_add,hc];exact hu,fun _=>var?_all hg hvar he⟩
 by_cases hlt:g<W.heap.size
 ·exact hlt
 ·exfalso
  have h1:W.heap[g]? = none:=Array.getElem?_eq_none (by omega)
  have h2:=hc 0
  rw[List.getElem?_eq_getElem h0]at h2
  simp[World.cell?,h1]at h2
theorem maxLen (W:World) (h:W.ShapedOpen Tryd.prog):∃m,W.cell? ⟨1,0,none⟩=some (.int .i64 m):=
 cell_of_shapedOpen_int (P:=Tryd.prog) (t:=3) (zero:= #[.int .i64 0]) h (of_decide_eq_true (by kernel_rfl)) (by kernel_rfl) (by kernel_rfl) (by kernel_rfl) (by kernel_rfl) Tryd.underlying3
theorem tabs {W:World} {E:Nat→Prop} {l:List (String×DataW Unit)} (hl:l=Rows.textRoundTripRow.laid) (h:laidMetH Tryd.prog l W) (hsh:W.ShapedOpen Tryd.prog) {S:FunS} {p s:List D} (g:Nat) (cs:List AV) (hgl:(heapF S p s).glob g=some cs):g<W.heap.size∧GlRep E W g cs:=by
 subst hl
 have hp:∀g,(heapF S p s).glob g=findG g GLT:=fun _=>rfl
 rw[hp]at hgl
 cases g with
 |zero=>
  have hf:=laidMetH.filter (fun x=>x.1 == "internal/strconv.uint64pow10") h
  have e:Rows.textRoundTripRow.laid.filter (fun x=>x.1 == "internal/strconv.uint64pow10") = [("internal/strconv.uint64pow10",Rows.laid_internal_strconv_uint64pow10)]:=by rfl
  rw[e,MakeChecks.laidMetH_plain _ _ _ (by kernel_rfl)]at hf
  obtain⟨a,h1,h2⟩:=var_of glob0 gty0 Tryd.underlying102 (of_decide_eq_true (by kernel_rfl)) (by kernel_rfl) (lit102 _) hf
  rw[vals0]at h2
  have:=repAt_of (E:=E) glob0 h1 h2 (of_decide_eq_true (by kernel_rfl))
  have e2:findG 0 GLT=some ((tabCells 0).map AV.sc):=by rfl
  rw[e2]at hgl
  cases hgl
  exact this
 |succ g=>
  cases g with
  |zero=>
   obtain⟨m,hm⟩:=maxLen W hsh
   have e2:findG (0+1) GLT=some [.anyI .i64]:=by rfl
   rw[e2]at hgl
   cases hgl
   refine⟨?_,?_⟩
   ·by_cases h0:1<W.heap.size
    ·exact h0
    ·exfalso
     have:W.heap[1]? = none:=Array.getElem?_eq_none (by omega)
     simp[World.cell?,this]at hm
   ·refine⟨?_,fun h=>by cases h⟩
    simp only[RepAt]
    exact⟨⟨_,hm,by simp only[Rep];exact⟨m,rfl⟩⟩,trivial⟩
  |succ g=>
   match g,hgl with
   |0,hgl=>have e2:findG (0+1+1) GLT=none:=rfl
           rw[e2]at hgl;cases hgl
   |1,hgl=>
    have hf:=laidMetH.filter (fun x=>x.1 == "math/bits.deBruijn64tab") h
    have e:Rows.textRoundTripRow.laid.filter (fun x=>x.1 == "math/bits.deBruijn64tab") = [("math/bits.deBruijn64tab",Rows.laid_math_bits_deBruijn64tab)]:=by rfl
    rw[e,MakeChecks.laidMetH_plain _ _ _ (by kernel_rfl)]at hf
    obtain⟨a,h1,h2⟩:=var_of glob3 gty3 Tryd.underlying115 (of_decide_eq_true (by kernel_rfl)) (by kernel_rfl) (lit115 _) hf
    rw[vals3]at h2
    have:=repAt_of (E:=E) glob3 h1 h2 (of_decide_eq_true (by kernel_rfl))
    have e2:findG 3 GLT=some ((tabCells 3).map AV.sc):=by rfl
    rw[e2]at hgl
    cases hgl
    exact this
   |g+2,hgl=>
    have e2:findG (g+2+1+1) GLT=none:=rfl
    rw[e2]at hgl;cases hgl
end Go.Proofs.YtobhhfbdelnhfaaDoor
namespace Go.Proofs.YtobhhfbdelnhfaaDoor
open Go Go.AM
theorem f24_1:isFld 24 1 22=true:=by kernel_rfl
theorem i22:isInt 22 .u32=true:=by kernel_rfl
theorem imm_conf {x:D} (h:Conf PG 24 x):∃n:Nat,qint (qfld x 1)=n∧n<4294967296:=by
 have h1:=conf_int i22 (conf_fld f24_1 (qconf_iff.2 h))
 rw[qrng_iff]at h1
 simp[IntKind.min,IntKind.max,IntKind.bits,IntKind.signed]at h1
 obtain⟨n,hn⟩:=Int.eq_ofNat_of_zero_le h1.1
 exact⟨n,hn,by omega⟩
theorem sound3:SoundF env.P 3 S3 q3:=by rw[q3_eq];exact liftX_sound envOk ok_tb8 60 12
theorem top3 {d0:D} (c0:Conf PG 24 d0) (w:World) (hL:laidMetH Tryd.prog Rows.textRoundTripRow.laid w) (hsh:w.ShapedOpen Tryd.prog) {v0:Value} (r0:Rep nowhere (fun b=>b<w.heap.size) w (.dat 24 d0) v0):
 Calls Tryd.prog 3 #[v0] w fun e w'=>e = .returned (.bool true)∧RowKit.Below w.heap.size w w':=by
 refine(sound3 [] [d0] [.bool true] rfl (law3 (imm_conf c0)) (fun b=>b<w.heap.size) w nowhere _ w #[v0] (Inv.empty w _ (fun _ h=>h) rfl rfl (fun g cs h=>tabs rfl hL hsh g cs h))
  (RepL.cons r0 RepL.nil)).mono ?_
 rintro e w' ⟨u,ρ',E',rfl,inv,reach,rep⟩
 have hr:resF S3 [] (bdL [.bool true]) = .ub true:=rfl
 rw[hr]at rep
 simp only[Rep]at rep
 subst rep
 exact⟨rfl,⟨inv.io.1,inv.io.2.1,inv.io.2.2,reach.size,inv.old⟩⟩
end Go.Proofs.YtobhhfbdelnhfaaDoor
namespace Go.Proofs.YtobhhfbdelnhfaaDoor
open Go Go.AM
theorem sound4:SoundF env.P 4 S4 q4:=by rw[q4_eq];exact liftX_sound envOk ok_tb3 60 12
theorem top4 {s:ByteArray} {n:Int} (w:World) (hL:laidMetH Tryd.prog Rows.textAcceptedRow.laid w) (hsh:w.ShapedOpen Tryd.prog):
 Calls Tryd.prog 4 #[.string s, .int .u32 n] w fun e w'=>e = .returned (.bool true)∧RowKit.Below w.heap.size w w':=by
 refine(sound4 [] [.str s, .int n] [.bool true] rfl (law4 s n) (fun b=>b<w.heap.size) w nowhere _ w #[.string s, .int .u32 n] (Inv.empty w _ (fun _ h=>h) rfl rfl (fun g cs h=>tabs rfl hL hsh g cs h))
  (RepL.cons (show Rep nowhere _ w (.us s) (.string s)by simp only[Rep]) (RepL.cons (show Rep nowhere _ w (.ui .u32 n) (.int .u32 n)by simp only[Rep]) RepL.nil))).mono ?_
 rintro e w' ⟨u,ρ',E',rfl,inv,reach,rep⟩
 have hr:resF S4 [] (bdL [.bool true]) = .ub true:=rfl
 rw[hr]at rep
 simp only[Rep]at rep
 subst rep
 exact⟨rfl,⟨inv.io.1,inv.io.2.1,inv.io.2.2,reach.size,inv.old⟩⟩
end Go.Proofs.YtobhhfbdelnhfaaDoor
