/-
  Plain laws: names of labels, lists of labels, and the values that operands have, as the program and as the reference read them.
-/
import Derived.Test.YtobhhfbdelnhfaaGreatDoorM2
import Derived.Test.YtobhhfbdelnhfaaGreatDoorM3
import Derived.Test.YtobhhfbdelnhfaaGreatDoorRows
import Derived.Test.YtobhhfbdelnhfaaGreatDoorC1
import Derived.Deep.DeepHandedRow
import Derived.Lib.LaidTab
import Derived.MakeChecks
import Derived.LaidSub
import Derived.FnData
import Derived.Shelf.Vars
import Derived.HandedShaped
set_option linter.unusedVariables false
set_option linter.unusedSimpArgs false
namespace Go.Proofs.YtobhhfbdelnhfaaGreatDoor
noncomputable section
set_option linter.unusedSimpArgs false
set_option linter.unusedVariables false
open Go Go.AM
def okN (i:Nat) (r:Int):Bool:=(decide (97≤r)&&decide (r≤122))||(decide (65≤r)&&decide (r≤90))||decide (r=95)||(!(decide ((i:Int)=0))&&(decide (r=46)||(!(decide (r<48)) && !(decide (57<r)))))
theorem okN_hi {i:Nat} {r:Int} (h:128≤r):okN i r=false:=by
 unfold okN
 simp only[show¬r≤122 by omega,show¬r≤90 by omega,show¬r=95 by omega,show¬r=46 by omega,show 57<r by omega,decide_false,decide_true,Bool.and_false,Bool.or_false,Bool.not_true]
theorem cndN (i:Nat) (r:Int):qiteB (qnot (qiteB (qiteB (qiteB (qcmp BinOp.geq r 97) (qcmp BinOp.leq r 122) Bool.false) Bool.true (qiteB (qcmp BinOp.geq r 65) (qcmp BinOp.leq r 90) Bool.false)) Bool.true (qcmp BinOp.eql r 95))) (qiteB (qcmp BinOp.eql (i:Int) 0) Bool.true (qiteB (qcmp BinOp.neq r 46) (qiteB (qcmp BinOp.lss r 48) Bool.true (qcmp BinOp.gtr r 57)) Bool.false)) Bool.false = !(okN i r):=by
 simp only[qiteB_c,qnot_c,qcmp_geq,qcmp_leq,qcmp_eql,qcmp_neq,qcmp_lss,qcmp_gtr,okN]
 generalize decide (97≤r)=a1
 generalize decide (r≤122)=a2
 generalize decide (65≤r)=a3
 generalize decide (r≤90)=a4
 generalize decide (r=95)=a5
 generalize decide (r=46)=a6
 generalize decide ((i:Int)=0)=a7
 generalize decide (r<48)=a8
 generalize decide (57<r)=a9
 revert a1 a2 a3 a4 a5 a6 a7 a8 a9
 decide
def okNT (s:ByteArray):Nat→Nat→Bool
 |_,0=>true
 |i,k+1=>okN i (byt s i)&&okNT s (i+1) k
theorem loop146 {s:ByteArray}:∀(k i:Nat),i+k=s.size→∃m,loW (st146_2 [.str s, .str s]) [.int i]=some [.int (bif okNT s i k then 0 else 1),m]:=by
 intro k
 induction k with
 |zero=>
  intro i hi
  rw[loW_eq,st146_2_eq,lenS,qcmp_lss]
  simp only[show¬((i:Int)<s.size)by omega,decide_false,cond_false,cond_true,okNT]
  exact⟨_,rfl⟩
 |succ k ih=>
  intro i hi
  have hlt:i<s.size:=by omega
  rw[loW_eq,st146_2_eq,lenS,qcmp_lss,cndN]
  simp only[show((i:Int)<s.size)by omega,decide_true,cond_true,okNT]
  have hr:okN i (qrune s i)=okN i (byt s i):=by
   rw[qrune,veil_eq]
   simp only[Int.toNat_natCast]
   by_cases h:(s.get! i).toNat<128
   ·rw[decode_lo h,byt_get hlt]
   ·rw[okN_hi (by have:=decode_hi h;omega),okN_hi (by rw[← byt_get hlt];omega)]
  rw[hr]
  cases ho:okN i (byt s i)with
  |false=>simp only[Bool.not_false,cond_true,Bool.false_and,cond_false];exact⟨_,rfl⟩
  |true=>
   have hb:(s.get! i).toNat<128:=by
    by_cases h:(s.get! i).toNat<128
    ·exact h
    ·rw[okN_hi (by rw[← byt_get hlt];omega)]at ho;cases ho
   have hw:qiteI true (qrw s i) i=((i+1:Nat):Int):=by
    rw[qiteI_eq,qrw,veil_eq]
    simp only[cond_true,Int.toNat_natCast,decode_lo hb];omega
   simp only[Bool.not_true,cond_false,Bool.true_and,hw]
   exact ih (i+1) (by omega)
def nmB (l:List UInt8):Bool:=(decide (1≤l.length)&&decide (l.length≤32))&&(okNT (bs l) 0 l.length && !regB l)
theorem spec146 (l:List UInt8):q146 [.str (bs l)]=some [.bool (nmB l)]:=by
 obtain⟨m,h1⟩:=loop146 (s:=bs l) l.length 0 (by rw[bs_size];omega)
 have e1:l146_2 [.str (bs l), .str (bs l)] [.int 0]=some [.int (bif okNT (bs l) 0 l.length then 0 else 1),m]:=by rw[l146_2_eq];exact h1
 rw[q146_eq,F146_eq,e1,(reg_spec l).1,len_bs,show qcmp .geq (l.length:Int) 1=decide (1≤l.length)from geI _ 1,show qcmp .leq (l.length:Int) 32=decide (l.length≤32)from leI' _ 32]
 simp only[qsome_s,qnth_s,List.getD_cons_zero,List.getD_cons_succ,qbool_b,qint_i,qnot_c,qiteB_c,cond_true,qcmp_eql]
 unfold nmB
 cases okNT (bs l) 0 l.length<;>cases regB l<;>cases decide (1≤l.length)<;>cases decide (l.length≤32)<;>rfl
abbrev Lab:=List (List UInt8×Int)
def mD (L:Lab):D:= .list (L.map fun p=> .agg [.str (bs p.1), .int p.2])
def lk (L:Lab) (s:List UInt8):Option Int:=match L with
 | []=>none
 |p::r=>if p.1=s then some p.2 else lk r s
def lv (L:Lab) (s:List UInt8):Int:=(lk L s).getD 0
theorem u9:PG.underlying 9=some .string:=by kernel_rfl
theorem kv9 (s:ByteArray):kvD 9 (.str s) = .string s:=by
 unfold kvD;rw[u9];rfl
theorem bs_beq (a b:List UInt8):(bs a==bs b)=decide (a=b):=by
 have h:(bs a==bs b)=((bs a).data==(bs b).data):=rfl
 rw[h,Bool.eq_iff_iff]
 simp only[beq_iff_eq,decide_eq_true_eq]
 constructor
 ·intro e;exact congrArg Array.toList e
 ·rintro rfl;rfl
theorem fld_agg (a b:D):(D.agg [a,b]).fld 0=a∧(D.agg [a,b]).fld 1=b:=⟨rfl,rfl⟩
theorem find_mD (s:List UInt8):∀L:Lab,findD 9 (.str (bs s)) (L.map fun p=>D.agg [.str (bs p.1), .int p.2])=(lk L s).map fun a=> .int a
 | []=>rfl
 |p::r=>by
  have ih:=find_mD s r
  unfold findD at ih ⊢
  rw[List.map_cons,List.find?_cons,(fld_agg _ _).1,kv9,kv9]
  have e:keyEq (Value.string (bs s)) (Value.string (bs p.1))=decide (s=p.1):=bs_beq s p.1
  rw[e]
  unfold lk
  by_cases h:p.1=s
  ·rw[if_pos h,decide_eq_true h.symm];rfl
  ·rw[if_neg h,decide_eq_false (fun e=>h e.symm)];rw[kv9]at ih;exact ih
theorem mhas_eq:qmhas=rmhas:=veil_eq _
theorem mget_eq:qmget=rmget:=veil_eq _
theorem mput_eq:qmput=fun kT m k v=> .list (putD kT k v m.toList):=veil_eq _
theorem mhas_lk (L:Lab) (s:List UInt8):qmhas 9 (mD L) (.str (bs s))=(lk L s).isSome:=by
 rw[mhas_eq];unfold rmhas mD
 simp only[D.toList]
 rw[find_mD];cases lk L s<;>rfl
theorem mget_lk (L:Lab) (s:List UInt8):qmget 9 (.int 0) (mD L) (.str (bs s)) = .int (lv L s):=by
 rw[mget_eq];unfold rmget mD lv
 simp only[D.toList]
 rw[find_mD];cases lk L s<;>rfl
theorem mput_new (s:List UInt8) (a:Int):∀L:Lab,lk L s=none→putD 9 (.str (bs s)) (.int a) (L.map fun p=>D.agg [.str (bs p.1), .int p.2])=(L ++ [(s,a)]).map fun p=>D.agg [.str (bs p.1), .int p.2]
 | [],_=>rfl
 |p::r,h=>by
  unfold lk at h
  by_cases e:p.1=s
  ·rw[if_pos e]at h;cases h
  ·rw[if_neg e]at h
   have ih:=mput_new s a r h
   rw[List.map_cons,putD,(fld_agg _ _).1,kv9,kv9]
   have e2:keyEq (Value.string (bs s)) (Value.string (bs p.1))=decide (s=p.1):=bs_beq s p.1
   rw[e2,decide_eq_false (fun x=>e x.symm),cond_false,ih];rfl
theorem mput_same (s:List UInt8) (a:Int):∀L:Lab,lk L s=some a→putD 9 (.str (bs s)) (.int a) (L.map fun p=>D.agg [.str (bs p.1), .int p.2])=L.map fun p=>D.agg [.str (bs p.1), .int p.2]
 | [],h=>by cases h
 |p::r,h=>by
  unfold lk at h
  rw[List.map_cons,putD,(fld_agg _ _).1,kv9,kv9]
  have e2:keyEq (Value.string (bs s)) (Value.string (bs p.1))=decide (s=p.1):=bs_beq s p.1
  rw[e2]
  by_cases e:p.1=s
  ·rw[if_pos e]at h
   rw[decide_eq_true e.symm,cond_true]
   simp only[Option.some.injEq]at h
   rw[← h, ← e]
  ·rw[if_neg e]at h
   rw[decide_eq_false (fun x=>e x.symm),cond_false,mput_same s a r h]
theorem put_new {L:Lab} {s:List UInt8} (a:Int) (h:lk L s=none):qmput 9 (mD L) (.str (bs s)) (.int a)=mD (L ++ [(s,a)]):=by
 rw[mput_eq];unfold mD
 simp only[D.toList]
 rw[mput_new s a L h]
theorem put_same {L:Lab} {s:List UInt8} {a:Int} (h:lk L s=some a):qmput 9 (mD L) (.str (bs s)) (.int a)=mD L:=by
 rw[mput_eq];unfold mD
 simp only[D.toList]
 rw[mput_same s a L h]
theorem memB {n z:Nat} (hn:n≤1000000) (hz:z≤1000):qmem (n:Int) z=true:=by
 rw[qmem_eq];unfold rmem
 have:n*z≤1000000*1000:=Nat.mul_le_mul hn hz
 simp only[Bool.and_eq_true,decide_eq_true_eq,Int.toNat_natCast]
 omega
theorem app_nm (us:List (List UInt8)) (s:List UInt8):qapp (nameL us) (.list [.str (bs s)])=nameL (us ++ [s]):=by
 unfold nameL;rw[app_list,List.map_append];rfl
theorem len_nm (us:List (List UInt8)):qlen (nameL us)=(us.length:Int):=by rw[qlen_c];simp[nameL,D.toList]
def nmd (s:List UInt8):Bool:= !numB s&&nmB s
def valB (s:List UInt8):Bool:=numB s||nmB s
def valV (L:Lab) (s:List UInt8):Int:=bif numB s then numV s else bif nmB s then lv L s else 0
def usU (us:List (List UInt8)) (s:List UInt8):List (List UInt8):=bif nmd s then us ++ [s]else us
theorem spec125 (L:Lab) (o:D) (a:Int) (kn:Bool) (s:List UInt8) {us:List (List UInt8)} (hu:us.length<1000000):
 q125 [mD L,o, .int a, .bool kn, .str (bs s),nameL us]=some [.int (bif nmB s then lv L s else 0), .bool (nmB s),nameL (bif nmB s then us ++ [s]else us)]:=by
 rw[q125_eq,F125_eq,spec146,app_nm,len_nm,mget_lk,memB (n:=(us ++ [s]).length) (by simp;omega) (by omega)]
 simp only[qsome_s,qnth_s,List.getD_cons_zero,qbool_b,qnot_c,qint_i,cond_true]
 cases nmB s<;>rfl
theorem spec106a (L:Lab) (o:D) (a:Int) (kn:Bool) {ops:List (List UInt8)} {k:Nat} {l:List UInt8} (h:ops[k]? = some l) (hz:l.length≤1000) (b1 b2 b3 bad:Bool) {us:List (List UInt8)} (hu:us.length<1000000):
 q106_a [mD L,o, .int a, .bool kn,opD ops, .bool b1, .bool b2, .bool b3, .int k,nameL us, .bool bad]=some [.int (valV L l), .bool (nmd l),nameL (usU us l), .bool (bad || !valB l)]:=by
 obtain⟨g1,g2⟩:=op_get h
 rw[q106_a_eq,F106_a_eq,g1,g2,(num_spec hz).1,spec125 L o a kn l hu]
 simp only[qsome_s,qnth_s,List.getD_cons_zero,List.getD_cons_succ,qbool_b,qnot_c,cond_true,qint_i]
 unfold valV nmd usU valB nmd
 cases numB l<;>cases nmB l<;>cases bad<;>rfl
theorem spec107a (us:D) (L:Lab) (o:D) (a:Int) (kn:Bool) {ops:List (List UInt8)} {k:Nat} {l:List UInt8} (h:ops[k]? = some l) (b1 b2 b3 bad:Bool):
 q107_a [us,mD L,o, .int a, .bool kn,opD ops, .bool b1, .bool b2, .bool b3, .int k, .bool bad]=some [.int (regV l), .bool (bad || !regB l)]:=by
 obtain⟨g1,g2⟩:=op_get h
 rw[q107_a_eq,F107_a_eq,g1,g2,(reg_spec l).1]
 simp only[qsome_s,qnth_s,List.getD_cons_zero,List.getD_cons_succ,qbool_b,qnot_c,cond_true,qint_i]
 cases regB l<;>simp
theorem spec105a (us:D) (L:Lab) (o:D) (a:Int) (kn:Bool) (ops:List (List UInt8)) (b1 b2 b3 bad:Bool) (n:Nat):
 q105_a [us,mD L,o, .int a, .bool kn,opD ops, .bool b1, .bool b2, .bool b3, .int n, .bool bad]=some [.bool (decide (ops.length=n) && !bad), .bool (bad || !decide (ops.length=n))]:=by
 have hl:qlen (opD ops)=(ops.length:Int):=by rw[qlen_c];simp[opD,nameL,D.toList]
 rw[q105_a_eq,F105_a_eq,hl,neI]
 by_cases h:ops.length=n<;>simp[h,qnot_c]
end
end Go.Proofs.YtobhhfbdelnhfaaGreatDoor
namespace Go.Proofs.YtobhhfbdelnhfaaGreatDoor
noncomputable section
set_option linter.unusedSimpArgs false
set_option linter.unusedVariables false
open Go Go.AM
def fmN (n:Int) (w nm:Bool):Int:=bif nm then 2 else fm n w
def arOkN (ops:List (List UInt8)) (w:Bool):Bool:=decide (ops.length=2)&&(regB (op ops 0)&&(bif regB (op ops 1)then !w else valB (op ops 1)))
def arIN (L:Lab) (ops:List (List UInt8)) (w:Bool) (a o z:Int):D:=
 if regB (op ops 1)=true then insD a 0 o 0 0 0 (regV (op ops 0)) (regV (op ops 1)) z else insD a (valV L (op ops 1)) o (fmN (valV L (op ops 1)) w (nmd (op ops 1))) 0 0 (regV (op ops 0)) 0 z
def OTn (L:Lab) (c:Cls) (w:Bool) (ops:List (List UInt8)) (a:Int):List D:=
 match c with
 | .bare k=>bif !w&&decide (ops.length=0)then okD a 0 k 0 0 0 0 0 else erD 3
 | .one o cc=>bif !w&&(decide (ops.length=1)&&regB (op ops 0))then okD a 0 o 0 0 cc (regV (op ops 0)) 0 else erD 3
 | .mem o wd st=>bif !w&&meOk ops st then(bif (plR (meP ops st)).2.2==7 then erD 7 else okD a (plR (meP ops st)).2.1 o 0 wd 0 (regV (meR ops st)) (plR (meP ops st)).1)else erD 3
 | .call=>bif !w&&(decide (ops.length=1)&&valB (op ops 0))then okD a (valV L (op ops 0)) 23 0 0 0 0 0 else erD 3
 | .jumpt=>bif !w&&(decide (ops.length=2)&&(regB (op ops 0)&&valB (op ops 1)))then okD a (valV L (op ops 1)) 22 0 0 0 (regV (op ops 0)) 0 else erD 3
 | .ar k=>bif arOkN ops w then[arIN L ops w a (5+k) (lenI (arIN L ops w a (5+k) 0)), .int 0]else erD 3
 | .jmp cc=>bif decide (ops.length=1)&&valB (op ops 0)then okD a (valV L (op ops 0)) 20 (fmN (off (valV L (op ops 0)) a) w (nmd (op ops 0))) 0 cc 0 0 else erD 3
 | .unk=>erD 3
def usN (us:List (List UInt8)) (c:Cls) (ops:List (List UInt8)):List (List UInt8):=
 match c with
 | .call=>usU us (op ops 0)
 | .jumpt=>usU us (op ops 1)
 | .ar _=>bif regB (op ops 1)then us else usU us (op ops 1)
 | .jmp _=>usU us (op ops 0)
 |_=>us
theorem er3:(erD 3).getD 1 .other = .int 0→False:=by intro e;simp[erD]at e
theorem spec139a (us:D) (L:Lab) (dd:D) (ad:Int) (kn:Bool) {ops:List (List UInt8)} {k:Nat} {l:List UInt8} (h:ops[k]? = some l) (hz:l.length≤1000) (b1 b2 bad far:Bool):
 ∃b n,q139_a [us,mD L,dd, .int ad, .bool kn,opD ops, .bool b1, .bool b2, .int k, .bool bad, .bool far]=some [.int b, .int n, .bool (bad||((plR l).2.2==3)), .bool (far||((plR l).2.2==7))]∧((plR l).2.2=0→b=(plR l).1∧n=(plR l).2.1):=by
 obtain⟨g1,g2⟩:=op_get h
 have c91:ByteArray.mk #[91]=bs [91]:=rfl
 have c93:ByteArray.mk #[93]=bs [93]:=rfl
 rw[q139_a_eq,F139_a_eq,g1,g2,c91,c93,pre59]
 simp only[cond_true,qsome_s,qnth_s,List.getD_cons_zero,List.getD_cons_succ,qbool_b,qstr_s,qnot_c]
 have no:∀(t:List UInt8),(plR l).2.2=3→∃b n,some [D.int 0, .int 0, .bool true, .bool far]=some [.int b, .int n, .bool (bad||((plR l).2.2==3)), .bool (far||((plR l).2.2==7))]∧((plR l).2.2=0→b=(plR l).1∧n=(plR l).2.1):=
  fun t e=>⟨0,0,by rw[e];simp,fun e'=>by omega⟩
 have hpre:List.isPrefixOf [91] l=decide (l.getD 0 0=91∧l≠[]):=by
  cases l with
  |nil=>simp[List.isPrefixOf]
  |cons a m=>
   rw[Bool.eq_iff_iff]
   simp only[List.isPrefixOf,Bool.and_true,beq_iff_eq,decide_eq_true_eq,List.getD_cons_zero,ne_eq,reduceCtorEq,not_false_eq_true,and_true]
   exact eq_comm
 by_cases ho:l.getD 0 0=91∧l≠[]
 case neg=>
  rw[hpre,decide_eq_false ho]
  simp only[cond_false]
  rw[suf62 l [93] (by omega)]
  simp only[cond_true,qsome_s,qnth_s,List.getD_cons_zero,List.getD_cons_succ,qbool_b,qstr_s,qnot_c,qiteB_c,Bool.not_false]
  refine no l ?_
  unfold plR
  rw[if_pos ?_]
  by_cases e:l = []
  ·subst e;left;decide
  ·right;left;exact fun e2=>ho ⟨e2,e⟩
 case pos=>
  rw[hpre,decide_eq_true ho]
  cases l with
  |nil=>exact absurd rfl ho.2
  |cons a m=>
   simp only[List.getD_cons_zero]at ho
   obtain⟨rfl,_⟩:=ho
   simp only[cond_true,Bool.not_true,List.length_cons,List.length_nil,Nat.zero_add,List.drop_succ_cons,List.drop_zero]
   have hmz:m.length≤999:=by simp at hz;omega
   rw[suf62 m [93] (by omega)]
   simp only[cond_true,qsome_s,qnth_s,List.getD_cons_zero,List.getD_cons_succ,qbool_b,qstr_s,qnot_c,qiteB_c,cond_false,Bool.not_false,List.length_cons,List.length_nil,Nat.zero_add]
   have hsf:sfx [93] m=decide (1≤m.length∧m.getD (m.length-1) 0=93):=by
    unfold sfx
    simp only[List.length_cons,List.length_nil,Nat.zero_add]
    by_cases h1:1≤m.length
    ·have hd:m.drop (m.length-1) = [m.getD (m.length-1) 0]:=by
      rw[List.drop_eq_getElem_cons (by omega),List.drop_of_length_le (by omega)]
      simp[List.getD,show m.length-1<m.length by omega]
     rw[hd];simp[h1]
    ·simp[h1]
   by_cases hs:1≤m.length∧m.getD (m.length-1) 0=93
   case neg=>
    rw[hsf,decide_eq_false hs]
    simp only[cond_false,Bool.not_false,cond_true]
    refine no m ?_
    unfold plR
    rw[if_pos ?_]
    by_cases e:m = []
    ·subst e;left;simp
    ·right;right
     have hm:0<m.length:=List.length_pos_iff.2 e
     rw[List.length_cons,show m.length+1-1=(m.length-1)+1 by omega,List.getD_cons_succ]
     exact fun e2=>hs ⟨hm,e2⟩
   case pos=>
    rw[hsf,decide_eq_true hs]
    simp only[cond_true,Bool.not_true,cond_false,len_bs]
    have hlt:(m.take (m.length-1)).length=m.length-1:=by simp
    rw[hlt,show qcmp .lss ((m.length-1:Nat):Int) 2=decide (m.length-1<2)from ltI _ 2]
    by_cases h3:m.length-1<2
    ·rw[decide_eq_true h3]
     simp only[cond_true]
     refine no m ?_
     unfold plR
     rw[if_pos ?_]
     left;simp;omega
    ·rw[decide_eq_false h3]
     simp only[cond_false]
     have e1:qsubS (bs (m.take (m.length-1))) 0 2=bs (m.take 2):=by
      have:=sub_to (m.take (m.length-1)) 2
      rw[List.take_take,Nat.min_eq_left (by omega)]at this
      exact this
     have e2:qsubS (bs (m.take (m.length-1))) 2 ((m.length-1:Nat):Int)=bs ((m.take (m.length-1)).drop 2):=by
      have:=sub_from (m.take (m.length-1)) 2
      rw[hlt]at this
      exact this
     rw[e1,e2,(reg_spec _).1]
     have c0:ByteArray.mk #[]=bs []:=rfl
     simp only[qsome_s,qnth_s,List.getD_cons_zero,List.getD_cons_succ,qbool_b,qint_i,qnot_c,cond_true]
     rw[show qcmp .leq 0 0=true by rw[qcmp_leq];rfl,show qcmp .leq 0 2=true by rw[qcmp_leq];rfl,show qcmp .leq 2 ((m.length-1:Nat):Int)=true by rw[qcmp_leq];exact decide_eq_true (by omega),leI',decide_eq_true (Nat.le_refl _),c0,eq_bs]
     simp only[cond_true]
     have hp:plR (91::m)=(if regB (m.take 2)=false then((0,0,3):Int×Int×Int)else match(m.take (m.length-1)).drop 2 with
      | []=>(regV (m.take 2),0,0)
      |a::r=>plT (regV (m.take 2)) (numB r) (numV r) a (r.getD 0 0)):=by
      conv=>lhs;unfold plR
      rw[if_neg]
      ·have:(List.take ((91::m).length-1) (91::m)).drop 3=(m.take (m.length-1)).drop 2:=by
        rw[List.length_cons,show m.length+1-1=(m.length-1)+1 by omega,List.take_succ_cons,List.drop_succ_cons]
       rw[this];rfl
      ·simp only[not_or,Decidable.not_not]
       refine⟨by simp;omega,rfl,?_⟩
       rw[List.length_cons,show m.length+1-1=(m.length-1)+1 by omega,List.getD_cons_succ]
       exact hs.2
     rw[hp]at no ⊢
     clear hp e1 e2 hsf hpre
     have hrl:((m.take (m.length-1)).drop 2).length≤999:=by simp;omega
     generalize (m.take (m.length-1)).drop 2=r at *
     cases hb:regB (m.take 2)with
     |false=>
      rw[hb]at no
      simp only[Bool.not_false,cond_true,cond_false,qiteB_c,if_true]at no ⊢
      cases decide (r = [])<;>exact no m (by trivial)
     |true=>
      rw[hb]at no
      simp only[Bool.not_true,cond_true,cond_false,qiteB_c,Bool.true_eq_false,if_false]at no ⊢
      cases r with
      |nil=>
       simp only[decide_true,cond_true]
       exact⟨_,_,by simp,fun _=>⟨rfl,rfl⟩⟩
      |cons a r=>
       rw[decide_eq_false (by simp)]
       simp only[cond_false]
       simp only at no ⊢
       have hrz:r.length≤1000:=by simp at hrl;omega
       rw[len_bs,show qcmp .lss (((a::r).length:Nat):Int) 2=decide ((a::r).length<2)from ltI _ 2]
       by_cases hr0:r = []
       ·subst hr0
        rw[decide_eq_true (by simp)]
        simp only[cond_true]
        refine no m ?_
        simp[plT,num_nil]
       ·have hrp:0<r.length:=List.length_pos_iff.2 hr0
        rw[decide_eq_false (by simp;omega)]
        have h1:qsubS (bs (a::r)) 1 (((a::r).length:Nat):Int)=bs r:=sub_from (a::r) 1
        have hx0:qidxS (bs (a::r)) 0=(a.toNat:Int):=idx_bs (a::r) 0
        have hi0:qinbS (bs (a::r)) 0=true:=inb_bs (i:=0) (by simp)
        have hx1:qidxS (bs (a::r)) 1=((r.getD 0 0).toNat:Int):=idx_bs (a::r) 1
        have hi1:qinbS (bs (a::r)) 1=true:=inb_bs (i:=1) (by simp;omega)
        rw[h1,(num_spec hrz).1,hx0,hx1,hi0,hi1,show qcmp .leq 0 1=true by rw[qcmp_leq];rfl,show qcmp .leq 1 (((a::r).length:Nat):Int)=true by rw[qcmp_leq];exact decide_eq_true (by simp;omega),leI',decide_eq_true (Nat.le_refl _),
         show qcmp .eql ((r.getD 0 0).toNat:Int) 45=decide (r.getD 0 0=45)from eq8 _ 45 (by omega),show qcmp .neq (a.toNat:Int) 43 = !decide (a=43)from neq8 _ 43 (by omega),show qcmp .neq (a.toNat:Int) 45 = !decide (a=45)from neq8 _ 45 (by omega),
         show qcmp .eql (a.toNat:Int) 43=decide (a=43)from eq8 _ 43 (by omega)]
        simp only[qsome_s,qnth_s,List.getD_cons_zero,List.getD_cons_succ,qbool_b,qint_i,qnot_c,qand_c,qiteI_eq,qcmp_gtr,neg0,cond_true,cond_false,Bool.and_self]
        clear hx0 hx1 hi0 hi1 h1 no
        generalize r.getD 0 0=c0
        generalize regV (m.take 2)=g
        generalize numV r=nv
        generalize numB r=nb
        by_cases hm:c0=45
        ·have hT:plT g nb nv a c0=(0,0,3):=by simp[plT,hm]
         rw[hT]
         by_cases ha:a=43<;>by_cases ha2:a=45<;>simp[ha,ha2,hm]
        ·cases nb with
         |false=>
          have hT:plT g false nv a c0=(0,0,3):=by simp[plT]
          rw[hT]
          by_cases ha:a=43<;>by_cases ha2:a=45<;>simp[ha,ha2,hm]
         |true=>
          by_cases ha:a=43
          ·subst ha
           by_cases hv:127<nv
           ·have hT:plT g true nv 43 c0=(0,0,7):=by simp[plT,hm,hv]
            rw[hT]
            cases far<;>simp[hv,hm]
           ·have hT:plT g true nv 43 c0=(g,nv,0):=by simp[plT,hm,hv];omega
            rw[hT]
            cases far<;>simp[hv,hm]
          ·by_cases ha2:a=45
           ·subst ha2
            by_cases hv:128<nv
            ·have hT:plT g true nv 45 c0=(0,0,7):=by simp[plT,hm,hv]
             rw[hT]
             cases far<;>simp[hv,hm]
            ·have hT:plT g true nv 45 c0=(g,qbin .sub .u32 0 nv,0):=by simp[plT,hm,hv]
             rw[hT]
             cases far<;>simp[hv,hm]
           ·have hT:plT g true nv a c0=(0,0,3):=by simp[plT,ha,ha2]
            rw[hT]
            simp[ha,ha2,hm]
theorem spec66a (us:D) (L:Lab) (dd:D) (ad:Int) (kn:Bool) (ops:List (List UInt8)) (b1 w b3:Bool) (o wd cc:Int):
 ∃I b,q66_a [us,mD L,dd, .int ad, .bool kn,opD ops, .bool b1, .bool w, .bool b3,insD 0 0 o 0 wd cc 0 0 0, .bool false]=some [I, .bool b]∧b = !(decide (ops.length=1)&&regB (op ops 0))∧
  (b=false→I=insD 0 0 o 0 wd cc (regV (op ops 0)) 0 0):=by
 have e1:q105_a [us,mD L,dd, .int ad, .bool kn,opD ops, .bool b1, .bool w, .bool b3, .int 1, .bool false]=some [.bool (decide (ops.length=1) && !false), .bool (false || !decide (ops.length=1))]:=spec105a us L dd ad kn ops b1 w b3 false 1
 obtain⟨f0,f1,f2,f3,f4,f5,f6,f7,f8⟩:=insF 0 0 o 0 wd cc 0 0 0
 rw[q66_a_eq,F66_a_eq,e1]
 by_cases h:ops.length=1
 ·have e2:q107_a [us,mD L,dd, .int ad, .bool kn,opD ops, .bool b1, .bool w, .bool b3, .int 0, .bool false]=some [.int (regV (op ops 0)), .bool (false || !regB (op ops 0))]:=spec107a us L dd ad kn (op_at (k:=0) (by omega)) b1 w b3 false
  simp only[h,decide_true,Bool.not_false,Bool.not_true,Bool.and_self,Bool.or_false,Bool.false_or,qsome_s,qnth_s,List.getD_cons_zero,List.getD_cons_succ,qbool_b,qnot_c,cond_true,cond_false,e2,qint_i,Bool.true_and,f0,f1,f2,f3,f4,f5,f6,f7,f8]
  exact⟨_,_,rfl,rfl,fun _=>rfl⟩
 ·simp only[h,decide_false,Bool.false_and,Bool.not_false,Bool.or_true,Bool.false_or,qsome_s,qnth_s,List.getD_cons_zero,List.getD_cons_succ,qbool_b,qnot_c,cond_false,cond_true]
  exact⟨_,true,rfl,rfl,fun e=>by cases e⟩
theorem spec110a (us:D) (L:Lab) (dd:D) (ad:Int) (kn:Bool) {ops:List (List UInt8)} (hs:Short ops) (b1 w st:Bool) (o wd:Int):
 ∃I b f,q110_a [us,mD L,dd, .int ad, .bool kn,opD ops, .bool b1, .bool w,insD 0 0 o 0 wd 0 0 0 0, .bool st, .bool false, .bool false]=some [I, .bool b, .bool f]∧b = !meOk ops st∧
  (meOk ops st=true→f=((plR (meP ops st)).2.2==7))∧(meOk ops st=true→(plR (meP ops st)).2.2=0→I=insD 0 (plR (meP ops st)).2.1 o 0 wd 0 (regV (meR ops st)) (plR (meP ops st)).1 0):=by
 have e1:∀b3,q105_a [us,mD L,dd, .int ad, .bool kn,opD ops, .bool b3, .bool b1, .bool w, .int 2, .bool false]=some [.bool (decide (ops.length=2) && !false), .bool (false || !decide (ops.length=2))]:=fun b3=>spec105a us L dd ad kn ops b3 b1 w false 2
 obtain⟨f0,f1,f2,f3,f4,f5,f6,f7,f8⟩:=insF 0 0 o 0 wd 0 0 0 0
 rw[q110_a_eq,F110_a_eq,e1]
 unfold meOk meR meP
 by_cases h:ops.length=2
 ·cases st with
  |true=>
   obtain⟨x,n,h139,hx⟩:=spec139a us L dd ad kn (op_at (k:=0) (by omega)) (op_short hs (k:=0) (by omega)) b1 w false false
   have e2:q139_a [us,mD L,dd, .int ad, .bool kn,opD ops, .bool b1, .bool w, .int 0, .bool false, .bool false]=some [.int x, .int n, .bool (false||((plR (op ops 0)).2.2==3)), .bool (false||((plR (op ops 0)).2.2==7))]:=h139
   have e3:∀b3 bad,q107_a [us,mD L,dd, .int ad, .bool kn,opD ops, .bool b3, .bool b1, .bool w, .int 1, .bool bad]=some [.int (regV (op ops 1)), .bool (bad || !regB (op ops 1))]:=fun b3 bad=>spec107a us L dd ad kn (op_at (k:=1) (by omega)) b3 b1 w bad
   simp only[h,decide_true,Bool.not_false,Bool.not_true,Bool.and_self,Bool.or_false,Bool.false_or,qsome_s,qnth_s,List.getD_cons_zero,List.getD_cons_succ,qbool_b,qnot_c,cond_true,cond_false,e2,e3,qint_i,Bool.true_and,f0,f1,f2,f3,f4,f5,f6,f7,f8]
   refine⟨_,_,_,rfl,by cases regB (op ops 1)<;>cases ((plR (op ops 0)).2.2==3)<;>rfl,fun _=>rfl,fun _ e=> ?_⟩
   obtain⟨rfl,rfl⟩:=hx e
   rfl
  |false=>
   have e3:∀b3 bad,q107_a [us,mD L,dd, .int ad, .bool kn,opD ops, .bool b3, .bool b1, .bool w, .int 0, .bool bad]=some [.int (regV (op ops 0)), .bool (bad || !regB (op ops 0))]:=fun b3 bad=>spec107a us L dd ad kn (op_at (k:=0) (by omega)) b3 b1 w bad
   obtain⟨x,n,h139,hx⟩:=spec139a us L dd ad kn (op_at (k:=1) (by omega)) (op_short hs (k:=1) (by omega)) b1 w (!regB (op ops 0)) false
   have e2:q139_a [us,mD L,dd, .int ad, .bool kn,opD ops, .bool b1, .bool w, .int 1, .bool (!regB (op ops 0)), .bool false]=some [.int x, .int n, .bool (!regB (op ops 0)||((plR (op ops 1)).2.2==3)), .bool (false||((plR (op ops 1)).2.2==7))]:=h139
   simp only[h,decide_true,Bool.not_false,Bool.not_true,Bool.and_self,Bool.or_false,Bool.false_or,qsome_s,qnth_s,List.getD_cons_zero,List.getD_cons_succ,qbool_b,qnot_c,cond_true,cond_false,e2,e3,qint_i,Bool.true_and,f0,f1,f2,f3,f4,f5,f6,f7,f8]
   refine⟨_,_,_,rfl,by cases regB (op ops 0)<;>cases ((plR (op ops 1)).2.2==3)<;>rfl,fun _=>rfl,fun _ e=> ?_⟩
   obtain⟨rfl,rfl⟩:=hx e
   rfl
 ·simp only[h,decide_false,Bool.false_and,Bool.not_false,Bool.or_true,Bool.false_or,qsome_s,qnth_s,List.getD_cons_zero,List.getD_cons_succ,qbool_b,qnot_c,cond_true]
  exact⟨_,true,_,rfl,rfl,(fun e=>by cases e),(fun e=>by cases e)⟩
theorem fin66a (us:D) (L:Lab) (dd:D) (ad:Int) (kn:Bool) (ops:List (List UInt8)) (b1 w b3:Bool) (o a:Int):
 ∃I b,q66_a [us,mD L,dd, .int ad, .bool kn,opD ops, .bool b1, .bool w, .bool b3,insD 0 0 o 0 0 0 0 0 0, .bool false]=some [I, .bool b]∧FIN I b false w a=OTn L (.one o 0) w ops a:=by
 obtain⟨I,b,e,hb,hI⟩:=spec66a us L dd ad kn ops b1 w b3 o 0 0
 refine⟨I,b,e,?_⟩
 simp only[OTn]
 cases w with
 |true=>rw[FIN_wide];rfl
 |false=>
  cases hc:(decide (ops.length=1)&&regB (op ops 0))with
  |false=>rw[hc]at hb;subst hb;exact FIN_bad _ _ _ _
  |true=>rw[hc]at hb;subst hb;rw[hI rfl];exact FIN_ins _ _ _ _ _ _ _ _
theorem fin110a (us:D) (L:Lab) (dd:D) (ad:Int) (kn:Bool) {ops:List (List UInt8)} (hs:Short ops) (b1 w st:Bool) (o wd a:Int):
 ∃I b f,q110_a [us,mD L,dd, .int ad, .bool kn,opD ops, .bool b1, .bool w,insD 0 0 o 0 wd 0 0 0 0, .bool st, .bool false, .bool false]=some [I, .bool b, .bool f]∧∀w',FIN I b f w' a=OTn L (.mem o wd st) w' ops a:=by
 obtain⟨I,b,f,e,hb,hf,hI⟩:=spec110a us L dd ad kn hs b1 w st o wd
 refine⟨I,b,f,e,fun w'=> ?_⟩
 simp only[OTn]
 cases w' with
 |true=>rw[FIN_wide];rfl
 |false=>
  cases hc:meOk ops st with
  |false=>rw[hc]at hb;subst hb;exact FIN_bad _ _ _ _
  |true=>
   rw[hc]at hb
   subst hb
   rw[hf hc]
   rcases plE (meP ops st)with h|h|h
   ·rw[hI hc h,h];exact FIN_ins _ _ _ _ _ _ _ _
   ·exfalso
    unfold meOk at hc
    rw[h]at hc
    simp at hc
   ·rw[h];rfl
theorem fin66sa (us:D) (L:Lab) (dd:D) (ad:Int) (kn:Bool) (ops:List (List UInt8)) (b1 w b3:Bool) (cc a:Int):
 ∃I b,q66_a [us,mD L,dd, .int ad, .bool kn,opD ops, .bool b1, .bool w, .bool b3,insD 0 0 25 0 0 cc 0 0 0, .bool false]=some [I, .bool b]∧FIN I b false w a=OTn L (.one 25 cc) w ops a:=by
 obtain⟨I,b,e,hb,hI⟩:=spec66a us L dd ad kn ops b1 w b3 25 0 cc
 refine⟨I,b,e,?_⟩
 simp only[OTn]
 cases w with
 |true=>rw[FIN_wide];rfl
 |false=>
  cases hc:(decide (ops.length=1)&&regB (op ops 0))with
  |false=>rw[hc]at hb;subst hb;exact FIN_bad _ _ _ _
  |true=>rw[hc]at hb;subst hb;rw[hI rfl];exact FIN_ins _ _ _ _ _ _ _ _
theorem spec65a (L:Lab) (o:D) (ad:Int) (kn:Bool) {us:List (List UInt8)} (hu:us.length<1000000) {ops:List (List UInt8)} (hs:Short ops) (w:Bool) (cc a:Int):
 ∃I b us',q65_a [mD L,o, .int ad, .bool kn,opD ops, .bool false, .bool w, .int cc, .int a,nameL us, .bool false, .bool false]=some [I,nameL us', .bool b, .bool true]∧FIN I b false false a=OTn L (.jmp cc) w ops a∧(ops.length=1→us'=usN us (.jmp cc) ops):=by
 have e1:q105_a [nameL us,mD L,o, .int ad, .bool kn,opD ops, .bool false, .bool w, .bool true, .int 1, .bool false]=some [.bool (decide (ops.length=1) && !false), .bool (false || !decide (ops.length=1))]:=spec105a (nameL us) L o ad kn ops false w true false 1
 rw[q65_a_eq,F65_a_eq]
 simp only[e1,OTn]
 by_cases h:ops.length=1
 ·have e2:q106_a [mD L,o, .int ad, .bool kn,opD ops, .bool false, .bool w, .bool true, .int 0,nameL us, .bool false]=some [.int (valV L (op ops 0)), .bool (nmd (op ops 0)),nameL (usU us (op ops 0)), .bool (false || !valB (op ops 0))]:=
   spec106a L o ad kn (op_at (k:=0) (by omega)) (op_short hs (k:=0) (by omega)) false w true false hu
  simp only[h,decide_true,Bool.not_false,Bool.not_true,Bool.and_self,Bool.or_false,Bool.false_or,qsome_s,qnth_s,List.getD_cons_zero,List.getD_cons_succ,qbool_b,qnot_c,cond_true,cond_false,e2,qint_i,Bool.true_and,qiteB_c]
  have ho:qbin .sub .u32 (qbin .sub .u32 (valV L (op ops 0)) a) 2=off (valV L (op ops 0)) a:=rfl
  rw[ho]
  have hni:qcmp .eql (qwrap .u32 (qwrap .i8 (off (valV L (op ops 0)) a))) (off (valV L (op ops 0)) a)=nearI (off (valV L (op ops 0)) a):=rfl
  rw[hni]
  unfold fmN fm
  cases hb:valB (op ops 0)with
  |false=>
   cases nmd (op ops 0)<;>cases nearI (off (valV L (op ops 0)) a)<;>cases w<;>exact⟨_,true,_,rfl,FIN_bad _ _ _ _,fun _=>rfl⟩
  |true=>
   cases nmd (op ops 0)<;>cases nearI (off (valV L (op ops 0)) a)<;>cases w<;>exact⟨_,false,_,rfl,FIN_ins _ _ _ _ _ _ _ _,fun _=>rfl⟩
 ·simp only[h,decide_false,Bool.false_and,Bool.not_false,Bool.or_true,Bool.false_or,qsome_s,qnth_s,List.getD_cons_zero,List.getD_cons_succ,qbool_b,qnot_c,cond_true,cond_false]
  exact⟨_,true,us,rfl,FIN_bad _ _ _ _,fun e=>e.elim⟩
theorem spec67a (L:Lab) (o:D) (ad:Int) (kn:Bool) {us:List (List UInt8)} (hu:us.length<1000000) {ops:List (List UInt8)} (hs:Short ops) (w:Bool) (k a:Int):
 ∃I b us' t,q67_a [mD L,o, .int ad, .bool kn,opD ops, .bool false, .bool w, .int (5+k),nameL us, .bool false, .bool false]=some [I,nameL us', .bool b, .bool t]∧FIN I (bif b then true else(bif w then !t else false)) false false a=OTn L (.ar k) w ops a∧(ops.length=2→us'=usN us (.ar k) ops):=by
 have e1:q105_a [nameL us,mD L,o, .int ad, .bool kn,opD ops, .bool false, .bool w, .bool false, .int 2, .bool false]=some [.bool (decide (ops.length=2) && !false), .bool (false || !decide (ops.length=2))]:=spec105a (nameL us) L o ad kn ops false w false false 2
 rw[q67_a_eq,F67_a_eq]
 simp only[e1,OTn,arOkN,arIN,usN]
 by_cases h:ops.length=2
 ·have e2:q107_a [nameL us,mD L,o, .int ad, .bool kn,opD ops, .bool false, .bool w, .bool false, .int 0, .bool false]=some [.int (regV (op ops 0)), .bool (false || !regB (op ops 0))]:=spec107a (nameL us) L o ad kn (op_at (k:=0) (by omega)) false w false false
  obtain⟨g1,g2⟩:=op_get (op_at (ops:=ops) (k:=1) (by omega))
  have g1':qinb (opD ops) 1=true:=g1
  have g2':qstr (qget (opD ops) 1)=bs (op ops 1):=g2
  have e3:∀bad,q106_a [mD L,o, .int ad, .bool kn,opD ops, .bool false, .bool w, .bool true, .int 1,nameL us, .bool bad]=some [.int (valV L (op ops 1)), .bool (nmd (op ops 1)),nameL (usU us (op ops 1)), .bool (bad || !valB (op ops 1))]:=fun bad=>
   spec106a L o ad kn (op_at (k:=1) (by omega)) (op_short hs (k:=1) (by omega)) false w true bad hu
  simp only[h,decide_true,Bool.not_false,Bool.not_true,Bool.and_self,Bool.or_false,Bool.false_or,qsome_s,qnth_s,List.getD_cons_zero,List.getD_cons_succ,qbool_b,qnot_c,cond_true,cond_false,e2,qint_i,Bool.true_and,g1',g2',(reg_spec (op ops 1)).1,e3,qiteB_c]
  cases hr:regB (op ops 1)with
  |true=>
   simp only[cond_true,if_true]
   cases hr0:regB (op ops 0)<;>cases w
   ·exact⟨_,_,us,_,rfl,FIN_bad _ _ _ _,fun _=>rfl⟩
   ·exact⟨_,_,us,_,rfl,FIN_bad _ _ _ _,fun _=>rfl⟩
   ·exact⟨_,_,us,_,rfl,FIN_ins _ _ _ _ _ _ _ _,fun _=>rfl⟩
   ·exact⟨_,_,us,_,rfl,FIN_bad _ _ _ _,fun _=>rfl⟩
  |false=>
   simp only[cond_false,Bool.false_eq_true,if_false]
   have hni:qcmp .eql (qwrap .u32 (qwrap .i8 (valV L (op ops 1)))) (valV L (op ops 1))=nearI (valV L (op ops 1)):=rfl
   rw[hni]
   unfold fmN fm
   cases hr0:regB (op ops 0)with
   |false=>
    cases valB (op ops 1)<;>cases nmd (op ops 1)<;>cases nearI (valV L (op ops 1))<;>cases w<;>exact⟨_,_,_,_,rfl,FIN_bad _ _ _ _,fun _=>rfl⟩
   |true=>
    cases hb:valB (op ops 1)with
    |false=>cases nmd (op ops 1)<;>cases nearI (valV L (op ops 1))<;>cases w<;>exact⟨_,_,_,_,rfl,FIN_bad _ _ _ _,fun _=>rfl⟩
    |true=>cases nmd (op ops 1)<;>cases nearI (valV L (op ops 1))<;>cases w<;>exact⟨_,_,_,_,rfl,FIN_ins _ _ _ _ _ _ _ _,fun _=>rfl⟩
 ·simp only[h,decide_false,Bool.false_and,Bool.not_false,Bool.or_true,Bool.false_or,qsome_s,qnth_s,List.getD_cons_zero,List.getD_cons_succ,qbool_b,qnot_c,cond_true,cond_false]
  exact⟨_,true,us,_,rfl,FIN_bad _ _ _ _,fun e=>e.elim⟩
theorem fin111a (L:Lab) (o:D) (ad:Int) (kn:Bool) {us:List (List UInt8)} (hu:us.length<1000000) {ops:List (List UInt8)} (hs:Short ops) (b1 w b3:Bool) (m:List UInt8) (a:Int):
 ∃I us' b,q111_a [mD L,o, .int ad, .bool kn,opD ops, .bool b1, .bool w, .bool b3, .str (bs m),nameL us, .bool false]=some [I,nameL us', .bool b]∧
  ∀w',FIN I b false w' a=OTn L (if m = [99,97,108,108]then .call else if m = [106,117,109,112,116]then .jumpt else .unk) w' ops a∧
  ((OTn L (if m = [99,97,108,108]then .call else if m = [106,117,109,112,116]then .jumpt else .unk) w' ops a).getD 1 .other = .int 0→us'=usN us (if m = [99,97,108,108]then .call else if m = [106,117,109,112,116]then .jumpt else .unk) ops):=by
 have e1:∀n:Nat,q105_a [nameL us,mD L,o, .int ad, .bool kn,opD ops, .bool b1, .bool w, .bool b3, .int n, .bool false]=some [.bool (decide (ops.length=n) && !false), .bool (false || !decide (ops.length=n))]:=fun n=>spec105a (nameL us) L o ad kn ops b1 w b3 false n
 have e11:q105_a [nameL us,mD L,o, .int ad, .bool kn,opD ops, .bool b1, .bool w, .bool b3, .int 1, .bool false]=some [.bool (decide (ops.length=1) && !false), .bool (false || !decide (ops.length=1))]:=e1 1
 have e12:q105_a [nameL us,mD L,o, .int ad, .bool kn,opD ops, .bool b1, .bool w, .bool b3, .int 2, .bool false]=some [.bool (decide (ops.length=2) && !false), .bool (false || !decide (ops.length=2))]:=e1 2
 rw[q111_a_eq,F111_a_eq]
 simp only[mkB,eq_bs]
 by_cases hc:m = [99,97,108,108]
 ·rw[decide_eq_true hc,if_pos hc,e11]
  by_cases h:ops.length=1
  ·have e2:q106_a [mD L,o, .int ad, .bool kn,opD ops, .bool b1, .bool w, .bool b3, .int 0,nameL us, .bool false]=some [.int (valV L (op ops 0)), .bool (nmd (op ops 0)),nameL (usU us (op ops 0)), .bool (false || !valB (op ops 0))]:=
    spec106a L o ad kn (op_at (k:=0) (by omega)) (op_short hs (k:=0) (by omega)) b1 w b3 false hu
   simp only[h,decide_true,Bool.not_false,Bool.not_true,Bool.and_self,Bool.or_false,Bool.false_or,qsome_s,qnth_s,List.getD_cons_zero,List.getD_cons_succ,qbool_b,qnot_c,cond_true,cond_false,e2,qint_i,Bool.true_and,insD_eq]
   refine⟨_,_,_,rfl,fun w'=>⟨?_,fun _=>rfl⟩⟩
   simp only[OTn]
   cases w' with
   |true=>rw[FIN_wide];rfl
   |false=>
    cases hb:valB (op ops 0)with
    |false=>rw[show(!false:Bool)=true from rfl,FIN_bad];simp[h]
    |true=>rw[show(!true:Bool)=false from rfl,FIN_ins];simp[h]
  ·simp only[h,decide_false,Bool.false_and,Bool.not_false,Bool.or_true,Bool.false_or,qsome_s,qnth_s,List.getD_cons_zero,List.getD_cons_succ,qbool_b,qnot_c,cond_true,cond_false]
   have hO:∀w',OTn L .call w' ops a=erD 3:=fun w'=>by simp only[OTn];cases w'<;>simp[h]
   refine⟨_,us,true,rfl,fun w'=>⟨?_,fun e=> ?_⟩⟩
   ·rw[FIN_bad,hO]
   ·rw[hO]at e;exact(er3 e).elim
 ·rw[decide_eq_false hc,if_neg hc]
  by_cases hj:m = [106,117,109,112,116]
  ·rw[decide_eq_true hj,if_pos hj,e12]
   by_cases h:ops.length=2
   ·have e3:q107_a [nameL us,mD L,o, .int ad, .bool kn,opD ops, .bool b1, .bool w, .bool b3, .int 0, .bool false]=some [.int (regV (op ops 0)), .bool (false || !regB (op ops 0))]:=spec107a (nameL us) L o ad kn (op_at (k:=0) (by omega)) b1 w b3 false
    have e2:∀bad,q106_a [mD L,o, .int ad, .bool kn,opD ops, .bool b1, .bool w, .bool b3, .int 1,nameL us, .bool bad]=some [.int (valV L (op ops 1)), .bool (nmd (op ops 1)),nameL (usU us (op ops 1)), .bool (bad || !valB (op ops 1))]:=fun bad=>
     spec106a L o ad kn (op_at (k:=1) (by omega)) (op_short hs (k:=1) (by omega)) b1 w b3 bad hu
    simp only[h,decide_true,Bool.not_false,Bool.not_true,Bool.and_self,Bool.or_false,Bool.false_or,qsome_s,qnth_s,List.getD_cons_zero,List.getD_cons_succ,qbool_b,qnot_c,cond_true,cond_false,e2,e3,qint_i,Bool.true_and,insD_eq]
    refine⟨_,_,_,rfl,fun w'=>⟨?_,fun _=>rfl⟩⟩
    simp only[OTn]
    cases w' with
    |true=>rw[FIN_wide];rfl
    |false=>
     cases hb:valB (op ops 1)with
     |false=>rw[show(!regB (op ops 0) || !false:Bool)=true by simp,FIN_bad];simp[h]
     |true=>
      cases hr:regB (op ops 0)with
      |false=>rw[show(!false || !true:Bool)=true from rfl,FIN_bad];simp[h]
      |true=>rw[show(!true || !true:Bool)=false from rfl,FIN_ins];simp[h]
   ·simp only[h,decide_false,Bool.false_and,Bool.not_false,Bool.or_true,Bool.false_or,qsome_s,qnth_s,List.getD_cons_zero,List.getD_cons_succ,qbool_b,qnot_c,cond_true,cond_false]
    have hO:∀w',OTn L .jumpt w' ops a=erD 3:=fun w'=>by simp only[OTn];cases w'<;>simp[h]
    refine⟨_,us,true,rfl,fun w'=>⟨?_,fun e=> ?_⟩⟩
    ·rw[FIN_bad,hO]
    ·rw[hO]at e;exact(er3 e).elim
  ·rw[decide_eq_false hj,if_neg hj]
   simp only[cond_false]
   exact⟨_,us,true,rfl,fun w'=>⟨by rw[FIN_bad];rfl,fun _=>rfl⟩⟩
end
end Go.Proofs.YtobhhfbdelnhfaaGreatDoor
namespace Go.Proofs.YtobhhfbdelnhfaaGreatDoor
set_option linter.unusedSimpArgs false
set_option linter.unusedVariables false
open Go Go.AM
theorem fin68a (L:Lab) (o:D) (ad:Int) (kn:Bool) {us:List (List UInt8)} (hu:us.length<1000000) {ops:List (List UInt8)} (hs:Short ops) (w:Bool) (m:List UInt8) (a:Int):
 ∃I us' b f,q68_a [mD L,o, .int ad, .bool kn,opD ops, .bool w, .bool false, .str (bs m),nameL us, .bool false, .bool false]=some [I,nameL us', .bool b, .bool f]∧FIN I b f w a=OTn L (clsO m) w ops a∧((OTn L (clsO m) w ops a).getD 1 .other = .int 0→us'=usN us (clsO m) ops):=by
 have e0:q105_a [nameL us,mD L,o, .int ad, .bool kn,opD ops, .bool false, .bool w, .bool false, .int 0, .bool false]=some [.bool (decide (ops.length=0) && !false), .bool (false || !decide (ops.length=0))]:=spec105a (nameL us) L o ad kn ops false w false false 0
 rw[q68_a_eq,F68_a_eq]
 simp only[mkB,eq_bs,qiteB_c,insD_eq]
 by_cases h0:m = [110,111,112]
 ·have hcls:clsO m = .bare 0:=by unfold clsO;rw[if_pos h0]
  rw[decide_eq_true h0]
  simp only[cond_true,cond_false]
  subst h0
  have hx:qidxT (bs [110,104,114]) (qsubS (bs [110,111,112]) 0 1)=0:=by
   rw[show qsubS (bs [110,111,112]) 0 1=bs (List.take 1 [110,111,112])from sub_to [110,111,112] 1]
   simp only[qidxT,veil_eq];rfl
  have hl:qcmp .leq 1 (qlenS (bs [110,111,112]))=true:=by rw[len_bs,qcmp_leq];rfl
  rw[e0,hx,hl,show qcmp .leq 0 0=true by rw[qcmp_leq];rfl,show qcmp .leq 0 1=true by rw[qcmp_leq];rfl]
  simp only[qsome_s,qnth_s,List.getD_cons_succ,List.getD_cons_zero,qbool_b,cond_true]
  rw[hcls]
  refine⟨_,_,_,_,rfl,?_,fun _=>rfl⟩
  simp only[OTn]
  cases w with
   |true=>rw[FIN_wide];rfl
   |false=>
    by_cases h:ops.length=0
    ·simp only[h,decide_true,Bool.not_true,Bool.or_false,Bool.not_false,Bool.and_self,cond_true];exact FIN_ins _ _ _ _ _ _ _ _
    ·simp only[h,decide_false,Bool.not_false,Bool.or_true,Bool.and_false,cond_false];exact FIN_bad _ _ _ _
 by_cases h1:m = [104,97,108,116]
 ·have hcls:clsO m = .bare 1:=by unfold clsO;rw[if_neg h0,if_pos h1]
  rw[decide_eq_false h0,decide_eq_true h1]
  simp only[cond_true,cond_false]
  subst h1
  have hx:qidxT (bs [110,104,114]) (qsubS (bs [104,97,108,116]) 0 1)=1:=by
   rw[show qsubS (bs [104,97,108,116]) 0 1=bs (List.take 1 [104,97,108,116])from sub_to [104,97,108,116] 1]
   simp only[qidxT,veil_eq];rfl
  have hl:qcmp .leq 1 (qlenS (bs [104,97,108,116]))=true:=by rw[len_bs,qcmp_leq];rfl
  rw[e0,hx,hl,show qcmp .leq 0 0=true by rw[qcmp_leq];rfl,show qcmp .leq 0 1=true by rw[qcmp_leq];rfl]
  simp only[qsome_s,qnth_s,List.getD_cons_succ,List.getD_cons_zero,qbool_b,cond_true]
  rw[hcls]
  refine⟨_,_,_,_,rfl,?_,fun _=>rfl⟩
  simp only[OTn]
  cases w with
   |true=>rw[FIN_wide];rfl
   |false=>
    by_cases h:ops.length=0
    ·simp only[h,decide_true,Bool.not_true,Bool.or_false,Bool.not_false,Bool.and_self,cond_true];exact FIN_ins _ _ _ _ _ _ _ _
    ·simp only[h,decide_false,Bool.not_false,Bool.or_true,Bool.and_false,cond_false];exact FIN_bad _ _ _ _
 by_cases h2:m = [114,101,116]
 ·have hcls:clsO m = .bare 2:=by unfold clsO;rw[if_neg h0,if_neg h1,if_pos h2]
  rw[decide_eq_false h0,decide_eq_false h1,decide_eq_true h2]
  simp only[cond_true,cond_false]
  subst h2
  have hx:qidxT (bs [110,104,114]) (qsubS (bs [114,101,116]) 0 1)=2:=by
   rw[show qsubS (bs [114,101,116]) 0 1=bs (List.take 1 [114,101,116])from sub_to [114,101,116] 1]
   simp only[qidxT,veil_eq];rfl
  have hl:qcmp .leq 1 (qlenS (bs [114,101,116]))=true:=by rw[len_bs,qcmp_leq];rfl
  rw[e0,hx,hl,show qcmp .leq 0 0=true by rw[qcmp_leq];rfl,show qcmp .leq 0 1=true by rw[qcmp_leq];rfl]
  simp only[qsome_s,qnth_s,List.getD_cons_succ,List.getD_cons_zero,qbool_b,cond_true]
  rw[hcls]
  refine⟨_,_,_,_,rfl,?_,fun _=>rfl⟩
  simp only[OTn]
  cases w with
   |true=>rw[FIN_wide];rfl
   |false=>
    by_cases h:ops.length=0
    ·simp only[h,decide_true,Bool.not_true,Bool.or_false,Bool.not_false,Bool.and_self,cond_true];exact FIN_ins _ _ _ _ _ _ _ _
    ·simp only[h,decide_false,Bool.not_false,Bool.or_true,Bool.and_false,cond_false];exact FIN_bad _ _ _ _
 by_cases h3:m = [112,117,115,104]
 ·have hcls:clsO m = .one 3 0:=by unfold clsO;rw[if_neg h0,if_neg h1,if_neg h2,if_pos h3]
  rw[decide_eq_false h0,decide_eq_false h1,decide_eq_false h2,decide_eq_true h3]
  simp only[cond_true,cond_false]
  obtain⟨I,b,e,hF⟩:=fin66a (nameL us) L o ad kn ops false w false 3 a
  rw[e,hcls]
  simp only[qsome_s,qnth_s,List.getD_cons_succ,List.getD_cons_zero,qbool_b,cond_true]
  exact⟨_,_,_,_,rfl,hF,fun _=>rfl⟩
 by_cases h4:m = [112,111,112]
 ·have hcls:clsO m = .one 4 0:=by unfold clsO;rw[if_neg h0,if_neg h1,if_neg h2,if_neg h3,if_pos h4]
  rw[decide_eq_false h0,decide_eq_false h1,decide_eq_false h2,decide_eq_false h3,decide_eq_true h4]
  simp only[cond_true,cond_false]
  obtain⟨I,b,e,hF⟩:=fin66a (nameL us) L o ad kn ops false w false 4 a
  rw[e,hcls]
  simp only[qsome_s,qnth_s,List.getD_cons_succ,List.getD_cons_zero,qbool_b,cond_true]
  exact⟨_,_,_,_,rfl,hF,fun _=>rfl⟩
 by_cases h5:m = [108,111,97,100,49]
 ·have hcls:clsO m = .mem 16 1 false:=by unfold clsO;rw[if_neg h0,if_neg h1,if_neg h2,if_neg h3,if_neg h4,if_pos h5]
  rw[decide_eq_false h0,decide_eq_false h1,decide_eq_false h2,decide_eq_false h3,decide_eq_false h4,decide_eq_true h5]
  simp only[cond_true,cond_false]
  subst h5
  have hw:qwrap .i64 (qbin .sub .u8 (qidxS (bs [108,111,97,100,49]) 4) 48)=1:=by
   rw[show qidxS (bs [108,111,97,100,49]) 4=49 from idx_bs [108,111,97,100,49] 4,qbin_eq,qwrap_eq];rfl
  have hi:qinbS (bs [108,111,97,100,49]) 4=true:=inb_bs (l:=[108,111,97,100,49]) (i:=4) (by decide)
  obtain⟨I,b,f,e,hF⟩:=fin110a (nameL us) L o ad kn hs w false false 16 1 a
  rw[hw,hi,e,hcls]
  simp only[qsome_s,qnth_s,List.getD_cons_succ,List.getD_cons_zero,qbool_b,cond_true]
  exact⟨_,_,_,_,rfl,hF w,fun _=>rfl⟩
 by_cases h6:m = [108,111,97,100,50]
 ·have hcls:clsO m = .mem 16 2 false:=by unfold clsO;rw[if_neg h0,if_neg h1,if_neg h2,if_neg h3,if_neg h4,if_neg h5,if_pos h6]
  rw[decide_eq_false h0,decide_eq_false h1,decide_eq_false h2,decide_eq_false h3,decide_eq_false h4,decide_eq_false h5,decide_eq_true h6]
  simp only[cond_true,cond_false]
  subst h6
  have hw:qwrap .i64 (qbin .sub .u8 (qidxS (bs [108,111,97,100,50]) 4) 48)=2:=by
   rw[show qidxS (bs [108,111,97,100,50]) 4=50 from idx_bs [108,111,97,100,50] 4,qbin_eq,qwrap_eq];rfl
  have hi:qinbS (bs [108,111,97,100,50]) 4=true:=inb_bs (l:=[108,111,97,100,50]) (i:=4) (by decide)
  obtain⟨I,b,f,e,hF⟩:=fin110a (nameL us) L o ad kn hs w false false 16 2 a
  rw[hw,hi,e,hcls]
  simp only[qsome_s,qnth_s,List.getD_cons_succ,List.getD_cons_zero,qbool_b,cond_true]
  exact⟨_,_,_,_,rfl,hF w,fun _=>rfl⟩
 by_cases h7:m = [108,111,97,100,52]
 ·have hcls:clsO m = .mem 16 4 false:=by unfold clsO;rw[if_neg h0,if_neg h1,if_neg h2,if_neg h3,if_neg h4,if_neg h5,if_neg h6,if_pos h7]
  rw[decide_eq_false h0,decide_eq_false h1,decide_eq_false h2,decide_eq_false h3,decide_eq_false h4,decide_eq_false h5,decide_eq_false h6,decide_eq_true h7]
  simp only[cond_true,cond_false]
  subst h7
  have hw:qwrap .i64 (qbin .sub .u8 (qidxS (bs [108,111,97,100,52]) 4) 48)=4:=by
   rw[show qidxS (bs [108,111,97,100,52]) 4=52 from idx_bs [108,111,97,100,52] 4,qbin_eq,qwrap_eq];rfl
  have hi:qinbS (bs [108,111,97,100,52]) 4=true:=inb_bs (l:=[108,111,97,100,52]) (i:=4) (by decide)
  obtain⟨I,b,f,e,hF⟩:=fin110a (nameL us) L o ad kn hs w false false 16 4 a
  rw[hw,hi,e,hcls]
  simp only[qsome_s,qnth_s,List.getD_cons_succ,List.getD_cons_zero,qbool_b,cond_true]
  exact⟨_,_,_,_,rfl,hF w,fun _=>rfl⟩
 by_cases h8:m = [108,111,97,100,49,115]
 ·have hcls:clsO m = .mem 17 1 false:=by unfold clsO;rw[if_neg h0,if_neg h1,if_neg h2,if_neg h3,if_neg h4,if_neg h5,if_neg h6,if_neg h7,if_pos h8]
  rw[decide_eq_false h0,decide_eq_false h1,decide_eq_false h2,decide_eq_false h3,decide_eq_false h4,decide_eq_false h5,decide_eq_false h6,decide_eq_false h7,decide_eq_true h8]
  simp only[cond_true,cond_false]
  subst h8
  have hw:qwrap .i64 (qbin .sub .u8 (qidxS (bs [108,111,97,100,49,115]) 4) 48)=1:=by
   rw[show qidxS (bs [108,111,97,100,49,115]) 4=49 from idx_bs [108,111,97,100,49,115] 4,qbin_eq,qwrap_eq];rfl
  have hi:qinbS (bs [108,111,97,100,49,115]) 4=true:=inb_bs (l:=[108,111,97,100,49,115]) (i:=4) (by decide)
  obtain⟨I,b,f,e,hF⟩:=fin110a (nameL us) L o ad kn hs w false false 17 1 a
  rw[hw,hi,e,hcls]
  simp only[qsome_s,qnth_s,List.getD_cons_succ,List.getD_cons_zero,qbool_b,cond_true]
  exact⟨_,_,_,_,rfl,hF w,fun _=>rfl⟩
 by_cases h9:m = [108,111,97,100,50,115]
 ·have hcls:clsO m = .mem 17 2 false:=by unfold clsO;rw[if_neg h0,if_neg h1,if_neg h2,if_neg h3,if_neg h4,if_neg h5,if_neg h6,if_neg h7,if_neg h8,if_pos h9]
  rw[decide_eq_false h0,decide_eq_false h1,decide_eq_false h2,decide_eq_false h3,decide_eq_false h4,decide_eq_false h5,decide_eq_false h6,decide_eq_false h7,decide_eq_false h8,decide_eq_true h9]
  simp only[cond_true,cond_false]
  subst h9
  have hw:qwrap .i64 (qbin .sub .u8 (qidxS (bs [108,111,97,100,50,115]) 4) 48)=2:=by
   rw[show qidxS (bs [108,111,97,100,50,115]) 4=50 from idx_bs [108,111,97,100,50,115] 4,qbin_eq,qwrap_eq];rfl
  have hi:qinbS (bs [108,111,97,100,50,115]) 4=true:=inb_bs (l:=[108,111,97,100,50,115]) (i:=4) (by decide)
  obtain⟨I,b,f,e,hF⟩:=fin110a (nameL us) L o ad kn hs w false false 17 2 a
  rw[hw,hi,e,hcls]
  simp only[qsome_s,qnth_s,List.getD_cons_succ,List.getD_cons_zero,qbool_b,cond_true]
  exact⟨_,_,_,_,rfl,hF w,fun _=>rfl⟩
 by_cases h10:m = [115,116,111,114,101,49]
 ·have hcls:clsO m = .mem 18 1 true:=by unfold clsO;rw[if_neg h0,if_neg h1,if_neg h2,if_neg h3,if_neg h4,if_neg h5,if_neg h6,if_neg h7,if_neg h8,if_neg h9,if_pos h10]
  rw[decide_eq_false h0,decide_eq_false h1,decide_eq_false h2,decide_eq_false h3,decide_eq_false h4,decide_eq_false h5,decide_eq_false h6,decide_eq_false h7,decide_eq_false h8,decide_eq_false h9,decide_eq_true h10]
  simp only[cond_true,cond_false]
  subst h10
  have hw:qwrap .i64 (qbin .sub .u8 (qidxS (bs [115,116,111,114,101,49]) 5) 48)=1:=by
   rw[show qidxS (bs [115,116,111,114,101,49]) 5=49 from idx_bs [115,116,111,114,101,49] 5,qbin_eq,qwrap_eq];rfl
  have hi:qinbS (bs [115,116,111,114,101,49]) 5=true:=inb_bs (l:=[115,116,111,114,101,49]) (i:=5) (by decide)
  obtain⟨I,b,f,e,hF⟩:=fin110a (nameL us) L o ad kn hs w false true 18 1 a
  rw[hw,hi,e,hcls]
  simp only[qsome_s,qnth_s,List.getD_cons_succ,List.getD_cons_zero,qbool_b,cond_true]
  exact⟨_,_,_,_,rfl,hF w,fun _=>rfl⟩
 by_cases h11:m = [115,116,111,114,101,50]
 ·have hcls:clsO m = .mem 18 2 true:=by unfold clsO;rw[if_neg h0,if_neg h1,if_neg h2,if_neg h3,if_neg h4,if_neg h5,if_neg h6,if_neg h7,if_neg h8,if_neg h9,if_neg h10,if_pos h11]
  rw[decide_eq_false h0,decide_eq_false h1,decide_eq_false h2,decide_eq_false h3,decide_eq_false h4,decide_eq_false h5,decide_eq_false h6,decide_eq_false h7,decide_eq_false h8,decide_eq_false h9,decide_eq_false h10,decide_eq_true h11]
  simp only[cond_true,cond_false]
  subst h11
  have hw:qwrap .i64 (qbin .sub .u8 (qidxS (bs [115,116,111,114,101,50]) 5) 48)=2:=by
   rw[show qidxS (bs [115,116,111,114,101,50]) 5=50 from idx_bs [115,116,111,114,101,50] 5,qbin_eq,qwrap_eq];rfl
  have hi:qinbS (bs [115,116,111,114,101,50]) 5=true:=inb_bs (l:=[115,116,111,114,101,50]) (i:=5) (by decide)
  obtain⟨I,b,f,e,hF⟩:=fin110a (nameL us) L o ad kn hs w false true 18 2 a
  rw[hw,hi,e,hcls]
  simp only[qsome_s,qnth_s,List.getD_cons_succ,List.getD_cons_zero,qbool_b,cond_true]
  exact⟨_,_,_,_,rfl,hF w,fun _=>rfl⟩
 by_cases h12:m = [115,116,111,114,101,52]
 ·have hcls:clsO m = .mem 18 4 true:=by unfold clsO;rw[if_neg h0,if_neg h1,if_neg h2,if_neg h3,if_neg h4,if_neg h5,if_neg h6,if_neg h7,if_neg h8,if_neg h9,if_neg h10,if_neg h11,if_pos h12]
  rw[decide_eq_false h0,decide_eq_false h1,decide_eq_false h2,decide_eq_false h3,decide_eq_false h4,decide_eq_false h5,decide_eq_false h6,decide_eq_false h7,decide_eq_false h8,decide_eq_false h9,decide_eq_false h10,decide_eq_false h11,decide_eq_true h12]
  simp only[cond_true,cond_false]
  subst h12
  have hw:qwrap .i64 (qbin .sub .u8 (qidxS (bs [115,116,111,114,101,52]) 5) 48)=4:=by
   rw[show qidxS (bs [115,116,111,114,101,52]) 5=52 from idx_bs [115,116,111,114,101,52] 5,qbin_eq,qwrap_eq];rfl
  have hi:qinbS (bs [115,116,111,114,101,52]) 5=true:=inb_bs (l:=[115,116,111,114,101,52]) (i:=5) (by decide)
  obtain⟨I,b,f,e,hF⟩:=fin110a (nameL us) L o ad kn hs w false true 18 4 a
  rw[hw,hi,e,hcls]
  simp only[qsome_s,qnth_s,List.getD_cons_succ,List.getD_cons_zero,qbool_b,cond_true]
  exact⟨_,_,_,_,rfl,hF w,fun _=>rfl⟩
 by_cases h13:m = [108,101,97]
 ·have hcls:clsO m = .mem 19 0 false:=by unfold clsO;rw[if_neg h0,if_neg h1,if_neg h2,if_neg h3,if_neg h4,if_neg h5,if_neg h6,if_neg h7,if_neg h8,if_neg h9,if_neg h10,if_neg h11,if_neg h12,if_pos h13]
  rw[decide_eq_false h0,decide_eq_false h1,decide_eq_false h2,decide_eq_false h3,decide_eq_false h4,decide_eq_false h5,decide_eq_false h6,decide_eq_false h7,decide_eq_false h8,decide_eq_false h9,decide_eq_false h10,decide_eq_false h11,decide_eq_false h12,decide_eq_true h13]
  simp only[cond_true,cond_false]
  subst h13
  obtain⟨I,b,f,e,hF⟩:=fin110a (nameL us) L o ad kn hs w false false 19 0 a
  rw[e,hcls]
  simp only[qsome_s,qnth_s,List.getD_cons_succ,List.getD_cons_zero,qbool_b,cond_true]
  exact⟨_,_,_,_,rfl,hF w,fun _=>rfl⟩
 by_cases h14:m = [106,117,109,112,114]
 ·have hcls:clsO m = .one 21 0:=by unfold clsO;rw[if_neg h0,if_neg h1,if_neg h2,if_neg h3,if_neg h4,if_neg h5,if_neg h6,if_neg h7,if_neg h8,if_neg h9,if_neg h10,if_neg h11,if_neg h12,if_neg h13,if_pos h14]
  rw[decide_eq_false h0,decide_eq_false h1,decide_eq_false h2,decide_eq_false h3,decide_eq_false h4,decide_eq_false h5,decide_eq_false h6,decide_eq_false h7,decide_eq_false h8,decide_eq_false h9,decide_eq_false h10,decide_eq_false h11,decide_eq_false h12,decide_eq_false h13,decide_eq_true h14]
  simp only[cond_true,cond_false]
  obtain⟨I,b,e,hF⟩:=fin66a (nameL us) L o ad kn ops false w false 21 a
  rw[e,hcls]
  simp only[qsome_s,qnth_s,List.getD_cons_succ,List.getD_cons_zero,qbool_b,cond_true]
  exact⟨_,_,_,_,rfl,hF,fun _=>rfl⟩
 by_cases h15:m = [99,97,108,108,114]
 ·have hcls:clsO m = .one 24 0:=by unfold clsO;rw[if_neg h0,if_neg h1,if_neg h2,if_neg h3,if_neg h4,if_neg h5,if_neg h6,if_neg h7,if_neg h8,if_neg h9,if_neg h10,if_neg h11,if_neg h12,if_neg h13,if_neg h14,if_pos h15]
  rw[decide_eq_false h0,decide_eq_false h1,decide_eq_false h2,decide_eq_false h3,decide_eq_false h4,decide_eq_false h5,decide_eq_false h6,decide_eq_false h7,decide_eq_false h8,decide_eq_false h9,decide_eq_false h10,decide_eq_false h11,decide_eq_false h12,decide_eq_false h13,decide_eq_false h14,decide_eq_true h15]
  simp only[cond_true,cond_false]
  obtain⟨I,b,e,hF⟩:=fin66a (nameL us) L o ad kn ops false w false 24 a
  rw[e,hcls]
  simp only[qsome_s,qnth_s,List.getD_cons_succ,List.getD_cons_zero,qbool_b,cond_true]
  exact⟨_,_,_,_,rfl,hF,fun _=>rfl⟩
 by_cases h16:m = [105,110]
 ·have hcls:clsO m = .one 26 0:=by unfold clsO;rw[if_neg h0,if_neg h1,if_neg h2,if_neg h3,if_neg h4,if_neg h5,if_neg h6,if_neg h7,if_neg h8,if_neg h9,if_neg h10,if_neg h11,if_neg h12,if_neg h13,if_neg h14,if_neg h15,if_pos h16]
  rw[decide_eq_false h0,decide_eq_false h1,decide_eq_false h2,decide_eq_false h3,decide_eq_false h4,decide_eq_false h5,decide_eq_false h6,decide_eq_false h7,decide_eq_false h8,decide_eq_false h9,decide_eq_false h10,decide_eq_false h11,decide_eq_false h12,decide_eq_false h13,decide_eq_false h14,decide_eq_false h15,decide_eq_true h16]
  simp only[cond_true,cond_false]
  obtain⟨I,b,e,hF⟩:=fin66a (nameL us) L o ad kn ops false w false 26 a
  rw[e,hcls]
  simp only[qsome_s,qnth_s,List.getD_cons_succ,List.getD_cons_zero,qbool_b,cond_true]
  exact⟨_,_,_,_,rfl,hF,fun _=>rfl⟩
 by_cases h17:m = [111,117,116]
 ·have hcls:clsO m = .one 27 0:=by unfold clsO;rw[if_neg h0,if_neg h1,if_neg h2,if_neg h3,if_neg h4,if_neg h5,if_neg h6,if_neg h7,if_neg h8,if_neg h9,if_neg h10,if_neg h11,if_neg h12,if_neg h13,if_neg h14,if_neg h15,if_neg h16,if_pos h17]
  rw[decide_eq_false h0,decide_eq_false h1,decide_eq_false h2,decide_eq_false h3,decide_eq_false h4,decide_eq_false h5,decide_eq_false h6,decide_eq_false h7,decide_eq_false h8,decide_eq_false h9,decide_eq_false h10,decide_eq_false h11,decide_eq_false h12,decide_eq_false h13,decide_eq_false h14,decide_eq_false h15,decide_eq_false h16,decide_eq_true h17]
  simp only[cond_true,cond_false]
  obtain⟨I,b,e,hF⟩:=fin66a (nameL us) L o ad kn ops false w false 27 a
  rw[e,hcls]
  simp only[qsome_s,qnth_s,List.getD_cons_succ,List.getD_cons_zero,qbool_b,cond_true]
  exact⟨_,_,_,_,rfl,hF,fun _=>rfl⟩
 rw[decide_eq_false h0,decide_eq_false h1,decide_eq_false h2,decide_eq_false h3,decide_eq_false h4,decide_eq_false h5,decide_eq_false h6,decide_eq_false h7,decide_eq_false h8,decide_eq_false h9,decide_eq_false h10,decide_eq_false h11,decide_eq_false h12,decide_eq_false h13,decide_eq_false h14,decide_eq_false h15,decide_eq_false h16,decide_eq_false h17]
 simp only[cond_false]
 obtain⟨I,us',b,e,hF⟩:=fin111a L o ad kn hu hs false w false m a
 have hcls:clsO m=if m = [99,97,108,108]then .call else if m = [106,117,109,112,116]then .jumpt else .unk:=by
  unfold clsO;rw[if_neg h0,if_neg h1,if_neg h2,if_neg h3,if_neg h4,if_neg h5,if_neg h6,if_neg h7,if_neg h8,if_neg h9,if_neg h10,if_neg h11,if_neg h12,if_neg h13,if_neg h14,if_neg h15,if_neg h16,if_neg h17]
 rw[e,hcls]
 simp only[qsome_s,qnth_s,List.getD_cons_succ,List.getD_cons_zero,qbool_b,cond_true]
 exact⟨_,_,_,_,rfl,(hF w).1,(hF w).2⟩
theorem FIN_69a (I:D) (a:Int) (us':List (List UInt8)) (h69:∀d,q69 [d]=some [.int (lenI d)]):(bif qsome (q69 [insD a (qint (qfld I 1)) (qint (qfld I 2)) (qint (qfld I 3)) (qint (qfld I 4)) (qint (qfld I 5)) (qint (qfld I 6)) (qint (qfld I 7)) (qint (qfld I 8))])then some [insD a (qint (qfld I 1)) (qint (qfld I 2)) (qint (qfld I 3)) (qint (qfld I 4)) (qint (qfld I 5)) (qint (qfld I 6)) (qint (qfld I 7)) (qint (qnth (q69 [insD a (qint (qfld I 1)) (qint (qfld I 2)) (qint (qfld I 3)) (qint (qfld I 4)) (qint (qfld I 5)) (qint (qfld I 6)) (qint (qfld I 7)) (qint (qfld I 8))]) 0)), .int 0,nameL us']else none)=some (FIN I false false false a ++ [nameL us']):=by
 rw[h69]
 unfold FIN
 simp only[qsome_s,qnth_s,List.getD_cons_zero,qint_i,cond_true,cond_false,Bool.or_self,List.cons_append,List.nil_append]
theorem FIN_run0a (I:D) (b:Bool) (a:Int) (h69:∀d,q69 [d]=some [.int (lenI d)]) (us':List (List UInt8)) {O:List D} (hF:FIN I b false false a=O) {P:List (List UInt8)→Prop} (hU:O.getD 1 .other = .int 0→P us'):∃us,(bif b then some [insD 0 0 0 0 0 0 0 0 0, .int 3,nameL us']else(bif qsome (q69 [insD a (qint (qfld I 1)) (qint (qfld I 2)) (qint (qfld I 3)) (qint (qfld I 4)) (qint (qfld I 5)) (qint (qfld I 6)) (qint (qfld I 7)) (qint (qfld I 8))])then some [insD a (qint (qfld I 1)) (qint (qfld I 2)) (qint (qfld I 3)) (qint (qfld I 4)) (qint (qfld I 5)) (qint (qfld I 6)) (qint (qfld I 7)) (qint (qnth (q69 [insD a (qint (qfld I 1)) (qint (qfld I 2)) (qint (qfld I 3)) (qint (qfld I 4)) (qint (qfld I 5)) (qint (qfld I 6)) (qint (qfld I 7)) (qint (qfld I 8))]) 0)), .int 0,nameL us']else none))=some (O ++ [nameL us])∧(O.getD 1 .other = .int 0→P us):=by
 refine⟨us',?_,hU⟩
 subst hF
 cases b with
 |true=>rw[FIN_bad];rfl
 |false=>exact FIN_69a I a us' h69
theorem FIN_run1a (I:D) (b w:Bool) (a:Int) (h69:∀d,q69 [d]=some [.int (lenI d)]) (us':List (List UInt8)) {O:List D} (hF:FIN I b false w a=O) {P:List (List UInt8)→Prop} (hU:O.getD 1 .other = .int 0→P us'):∃us,(bif b then some [insD 0 0 0 0 0 0 0 0 0, .int 3,nameL us']else(bif w then some [insD 0 0 0 0 0 0 0 0 0, .int 3,nameL us']else(bif qsome (q69 [insD a (qint (qfld I 1)) (qint (qfld I 2)) (qint (qfld I 3)) (qint (qfld I 4)) (qint (qfld I 5)) (qint (qfld I 6)) (qint (qfld I 7)) (qint (qfld I 8))])then some [insD a (qint (qfld I 1)) (qint (qfld I 2)) (qint (qfld I 3)) (qint (qfld I 4)) (qint (qfld I 5)) (qint (qfld I 6)) (qint (qfld I 7)) (qint (qnth (q69 [insD a (qint (qfld I 1)) (qint (qfld I 2)) (qint (qfld I 3)) (qint (qfld I 4)) (qint (qfld I 5)) (qint (qfld I 6)) (qint (qfld I 7)) (qint (qfld I 8))]) 0)), .int 0,nameL us']else none)))=some (O ++ [nameL us])∧(O.getD 1 .other = .int 0→P us):=by
 refine⟨us',?_,hU⟩
 subst hF
 cases b with
 |true=>rw[FIN_bad];rfl
 |false=>
  cases w with
  |true=>rw[FIN_wide];rfl
  |false=>exact FIN_69a I a us' h69
theorem FIN_run2a (I:D) (b f w:Bool) (a:Int) (h69:∀d,q69 [d]=some [.int (lenI d)]) (us':List (List UInt8)) {O:List D} (hF:FIN I b f w a=O) {P:List (List UInt8)→Prop} (hU:O.getD 1 .other = .int 0→P us'):∃us,(bif (bif b then true else w)then some [insD 0 0 0 0 0 0 0 0 0, .int 3,nameL us']else(bif f then some [insD 0 0 0 0 0 0 0 0 0, .int 7,nameL us']else(bif qsome (q69 [insD a (qint (qfld I 1)) (qint (qfld I 2)) (qint (qfld I 3)) (qint (qfld I 4)) (qint (qfld I 5)) (qint (qfld I 6)) (qint (qfld I 7)) (qint (qfld I 8))])then some [insD a (qint (qfld I 1)) (qint (qfld I 2)) (qint (qfld I 3)) (qint (qfld I 4)) (qint (qfld I 5)) (qint (qfld I 6)) (qint (qfld I 7)) (qint (qnth (q69 [insD a (qint (qfld I 1)) (qint (qfld I 2)) (qint (qfld I 3)) (qint (qfld I 4)) (qint (qfld I 5)) (qint (qfld I 6)) (qint (qfld I 7)) (qint (qfld I 8))]) 0)), .int 0,nameL us']else none)))=some (O ++ [nameL us])∧(O.getD 1 .other = .int 0→P us):=by
 refine⟨us',?_,hU⟩
 subst hF
 cases b with
 |true=>rw[FIN_bad];rfl
 |false=>
  cases w with
  |true=>rw[FIN_wide];rfl
  |false=>
   cases f with
   |true=>rfl
   |false=>exact FIN_69a I a us' h69
theorem jmp1 {L:Lab} {cc:Int} {w:Bool} {ops:List (List UInt8)} {a:Int} (e:(OTn L (.jmp cc) w ops a).getD 1 .other = .int 0):ops.length=1:=by
 by_cases h:ops.length=1
 ·exact h
 ·have hO:OTn L (.jmp cc) w ops a=erD 3:=by simp only[OTn];simp[h]
  rw[hO]at e;exact(er3 e).elim
theorem ar2 {L:Lab} {k:Int} {w:Bool} {ops:List (List UInt8)} {a:Int} (e:(OTn L (.ar k) w ops a).getD 1 .other = .int 0):ops.length=2:=by
 by_cases h:ops.length=2
 ·exact h
 ·have hO:OTn L (.ar k) w ops a=erD 3:=by simp only[OTn,arOkN];simp[h]
  rw[hO]at e;exact(er3 e).elim
theorem text37a (L:Lab) (o:D) (ad:Int) (kn:Bool) {us:List (List UInt8)} (hu:us.length<1000000) (l:List UInt8) (hz:l.length≤1000) (a:Int):
 ∃us',q37_a [mD L,o, .int ad, .bool kn, .str (bs l), .int a,nameL us]=some (OTn L (cls (word l)) (wide l) (opsL l) a ++ [nameL us'])∧((OTn L (cls (word l)) (wide l) (opsL l) a).getD 1 .other = .int 0→us'=usN us (cls (word l)) (opsL l)):=by
 have h69:∀d,q69 [d]=some [.int (lenI d)]:=fun d=>(valid_spec d).2.2.1
 have hs:=opsL_short hz
 have hhl:(headL l).length≤1000:=by unfold headL;simp;omega
 have e62:q62 [.str (bs (headL l)), .str (bs [46,119])]=some [.str (bs (word l)), .bool (wide l)]:=suf62 (headL l) [46,119] (by omega)
 rw[q37_a_eq,F37_a_eq]
 have hlt:qcmp .lss (qlenS (bs l)) 4294967281=true:=by rw[len_bs,qcmp_lss];exact decide_eq_true (by omega)
 have hbig:∀x:List UInt8,x.length≤1000→qcmp .lss (qlenS (bs x)) 4294967281=true:=fun x hx=>by rw[len_bs,qcmp_lss];exact decide_eq_true (by omega)
 have hA:qcutA (bs l) (bs [32])=bs (headL l):=cutA l
 have hzero:D.agg [.int 0, .int 0, .int 0, .int 0, .int 0, .int 0, .int 0, .int 0, .int 0]=insD 0 0 0 0 0 0 0 0 0:=rfl
 have w0:(bif wide l then(false:Bool)else false)=false:=by cases wide l<;>rfl
 have w1:(bif wide l then(true:Bool)else false)=wide l:=by cases wide l<;>rfl
 have hmm:∀k:Int,qmm .gtr k 0=if k<0 then 0 else k:=fun k=>by rw[qmm,veil_eq];rfl
 simp only[mkB]
 rw[hlt,cutOk]
 by_cases sp:blank l<l.length
 ·have ho:qsplit (qcutB (bs l) (bs [32])) (bs [44,32])=opD (opsL l):=by rw[cutB sp,splitQ];unfold opsL;rw[if_pos sp]
  have hb:qcmp .lss (qlenS (qcutB (bs l) (bs [32]))) 4294967281=true:=by rw[cutB sp];exact hbig _ (by simp;omega)
  rw[decide_eq_true sp,ho,hb]
  simp only[cond_true,cond_false,hA,e62,pre59,spec63c,spec63o,qsome_s,qnth_s,List.getD_cons_zero,List.getD_cons_succ,qbool_b,qstr_s,qint_i,eq_bs,insD_eq,qiteB_c,qiteI_eq,qnot_c,Bool.not_true,Bool.not_false,List.length_cons,List.length_nil,Nat.zero_add,Nat.reduceAdd]
  have p0:(bif List.isPrefixOf [106] (word l)then true else true)=true:=by cases List.isPrefixOf [106] (word l)<;>rfl
  rw[p0]
  simp only[cond_true]
  by_cases h1:word l = [106,109,112]
  ·obtain⟨I,b,us',e,hF,hU⟩:=spec65a L o ad kn hu hs (wide l) 0 a
   have hc:cls (word l) = .jmp 0:=by unfold cls;rw[if_pos h1]
   rw[decide_eq_true h1,hc]
   simp only[e,qsome_s,qnth_s,List.getD_cons_zero,List.getD_cons_succ,qbool_b,cond_true,Bool.not_true,w0]
   have hbb:(bif b then true else false)=b:=by cases b<;>rfl
   rw[hbb]
   exact FIN_run0a I b a h69 us' hF (fun e=>hU (jmp1 e))
  ·rw[decide_eq_false h1]
   simp only[cond_false]
   by_cases h2:List.isPrefixOf [106] (word l)=true∧0<ix ccL ((word l).drop 1)
   ·obtain⟨I,b,us',e,hF,hU⟩:=spec65a L o ad kn hu hs (wide l) (ix ccL ((word l).drop 1)) a
    have hc:cls (word l) = .jmp (ix ccL ((word l).drop 1)):=by unfold cls;rw[if_neg h1,if_pos h2]
    rw[h2.1,hc]
    simp only[cond_true]
    rw[show qcmp .gtr (ix ccL ((word l).drop 1)) 0=true by rw[qcmp_gtr];exact decide_eq_true h2.2]
    simp only[e,qsome_s,qnth_s,List.getD_cons_zero,List.getD_cons_succ,qbool_b,cond_true,Bool.not_true,w0]
    have hbb:(bif b then true else false)=b:=by cases b<;>rfl
    rw[hbb]
    exact FIN_run0a I b a h69 us' hF (fun e=>hU (jmp1 e))
   ·have hg:qcmp .gtr (bif List.isPrefixOf [106] (word l)then ix ccL (bif List.isPrefixOf [106] (word l)then(word l).drop 1 else word l)else -1) 0=false:=by
     rw[qcmp_gtr]
     cases hp:List.isPrefixOf [106] (word l)with
     |false=>rfl
     |true=>exact decide_eq_false fun hx=>h2 ⟨hp,hx⟩
    rw[hg]
    simp only[cond_false]
    cases hps:List.isPrefixOf [115,101,116] (word l)with
    |true=>
     simp only[cond_true]
     rw[hmm,qcmp_lss]
     by_cases hx:ix ccL ((word l).drop 3)<0
     ·have hc:cls (word l) = .unk:=by unfold cls;rw[if_neg h1,if_neg h2,if_pos hps,if_pos hx]
      obtain⟨I,b,e,hF⟩:=fin66sa (nameL us) L o ad kn (opsL l) false (wide l) false 0 a
      rw[decide_eq_true hx,if_pos hx,hc]
      simp only[e,qsome_s,qnth_s,List.getD_cons_zero,List.getD_cons_succ,qbool_b,cond_true]
      cases b<;>exact⟨us,rfl,fun _=>rfl⟩
     ·have hc:cls (word l) = .one 25 (ix ccL ((word l).drop 3)):=by unfold cls;rw[if_neg h1,if_neg h2,if_pos hps,if_neg hx]
      obtain⟨I,b,e,hF⟩:=fin66sa (nameL us) L o ad kn (opsL l) false (wide l) false (ix ccL ((word l).drop 3)) a
      rw[decide_eq_false hx,if_neg hx,hc]
      simp only[e,qsome_s,qnth_s,List.getD_cons_zero,List.getD_cons_succ,qbool_b,cond_true,cond_false,w1]
      exact FIN_run1a I b (wide l) a h69 us hF (fun _=>rfl)
    |false=>
     simp only[cond_false]
     by_cases hx:0≤ix opL (word l)
     ·have hc:cls (word l) = .ar (ix opL (word l)):=by unfold cls;rw[if_neg h1,if_neg h2,if_neg (by rw[hps];simp),if_pos hx]
      obtain⟨I,b,us',t,e,hF,hU⟩:=spec67a L o ad kn hu hs (wide l) (ix opL (word l)) a
      have e5:qbin .add .i64 5 (ix opL (word l))=5+ix opL (word l):=by
       rw[qbin_eq];simp only[rbin]
       rcases ix_range opL (word l)with h|⟨k,hk,_,h⟩
       ·omega
       ·have:opL.length=11:=rfl
        exact wrap64' (by omega) (by omega)
      rw[show qcmp .geq (ix opL (word l)) 0=true by rw[qcmp_geq];exact decide_eq_true hx,e5,hc]
      simp only[e,qsome_s,qnth_s,List.getD_cons_zero,List.getD_cons_succ,qbool_b,cond_true]
      exact FIN_run0a I _ a h69 us' hF (fun e=>hU (ar2 e))
     ·have hc:cls (word l)=clsO (word l):=by unfold cls;rw[if_neg h1,if_neg h2,if_neg (by rw[hps];simp),if_neg hx]
      obtain⟨I,us',b,f,e,hF,hU⟩:=fin68a L o ad kn hu hs (wide l) (word l) a
      rw[show qcmp .geq (ix opL (word l)) 0=false by rw[qcmp_geq];exact decide_eq_false hx,hc]
      simp only[e,qsome_s,qnth_s,List.getD_cons_zero,List.getD_cons_succ,qbool_b,cond_true,cond_false,w1]
      exact FIN_run2a I b f (wide l) a h69 us' hF hU
 ·have ho:D.list []=opD (opsL l):=by unfold opsL;rw[if_neg sp];rfl
  rw[decide_eq_false sp,ho]
  simp only[cond_true,cond_false,hA,e62,pre59,spec63c,spec63o,qsome_s,qnth_s,List.getD_cons_zero,List.getD_cons_succ,qbool_b,qstr_s,qint_i,eq_bs,insD_eq,qiteB_c,qiteI_eq,qnot_c,Bool.not_true,Bool.not_false,List.length_cons,List.length_nil,Nat.zero_add,Nat.reduceAdd]
  have p0:(bif List.isPrefixOf [106] (word l)then true else true)=true:=by cases List.isPrefixOf [106] (word l)<;>rfl
  rw[p0]
  simp only[cond_true]
  by_cases h1:word l = [106,109,112]
  ·obtain⟨I,b,us',e,hF,hU⟩:=spec65a L o ad kn hu hs (wide l) 0 a
   have hc:cls (word l) = .jmp 0:=by unfold cls;rw[if_pos h1]
   rw[decide_eq_true h1,hc]
   simp only[e,qsome_s,qnth_s,List.getD_cons_zero,List.getD_cons_succ,qbool_b,cond_true,Bool.not_true,w0]
   have hbb:(bif b then true else false)=b:=by cases b<;>rfl
   rw[hbb]
   exact FIN_run0a I b a h69 us' hF (fun e=>hU (jmp1 e))
  ·rw[decide_eq_false h1]
   simp only[cond_false]
   by_cases h2:List.isPrefixOf [106] (word l)=true∧0<ix ccL ((word l).drop 1)
   ·obtain⟨I,b,us',e,hF,hU⟩:=spec65a L o ad kn hu hs (wide l) (ix ccL ((word l).drop 1)) a
    have hc:cls (word l) = .jmp (ix ccL ((word l).drop 1)):=by unfold cls;rw[if_neg h1,if_pos h2]
    rw[h2.1,hc]
    simp only[cond_true]
    rw[show qcmp .gtr (ix ccL ((word l).drop 1)) 0=true by rw[qcmp_gtr];exact decide_eq_true h2.2]
    simp only[e,qsome_s,qnth_s,List.getD_cons_zero,List.getD_cons_succ,qbool_b,cond_true,Bool.not_true,w0]
    have hbb:(bif b then true else false)=b:=by cases b<;>rfl
    rw[hbb]
    exact FIN_run0a I b a h69 us' hF (fun e=>hU (jmp1 e))
   ·have hg:qcmp .gtr (bif List.isPrefixOf [106] (word l)then ix ccL (bif List.isPrefixOf [106] (word l)then(word l).drop 1 else word l)else -1) 0=false:=by
     rw[qcmp_gtr]
     cases hp:List.isPrefixOf [106] (word l)with
     |false=>rfl
     |true=>exact decide_eq_false fun hx=>h2 ⟨hp,hx⟩
    rw[hg]
    simp only[cond_false]
    cases hps:List.isPrefixOf [115,101,116] (word l)with
    |true=>
     simp only[cond_true]
     rw[hmm,qcmp_lss]
     by_cases hx:ix ccL ((word l).drop 3)<0
     ·have hc:cls (word l) = .unk:=by unfold cls;rw[if_neg h1,if_neg h2,if_pos hps,if_pos hx]
      obtain⟨I,b,e,hF⟩:=fin66sa (nameL us) L o ad kn (opsL l) false (wide l) false 0 a
      rw[decide_eq_true hx,if_pos hx,hc]
      simp only[e,qsome_s,qnth_s,List.getD_cons_zero,List.getD_cons_succ,qbool_b,cond_true]
      cases b<;>exact⟨us,rfl,fun _=>rfl⟩
     ·have hc:cls (word l) = .one 25 (ix ccL ((word l).drop 3)):=by unfold cls;rw[if_neg h1,if_neg h2,if_pos hps,if_neg hx]
      obtain⟨I,b,e,hF⟩:=fin66sa (nameL us) L o ad kn (opsL l) false (wide l) false (ix ccL ((word l).drop 3)) a
      rw[decide_eq_false hx,if_neg hx,hc]
      simp only[e,qsome_s,qnth_s,List.getD_cons_zero,List.getD_cons_succ,qbool_b,cond_true,cond_false,w1]
      exact FIN_run1a I b (wide l) a h69 us hF (fun _=>rfl)
    |false=>
     simp only[cond_false]
     by_cases hx:0≤ix opL (word l)
     ·have hc:cls (word l) = .ar (ix opL (word l)):=by unfold cls;rw[if_neg h1,if_neg h2,if_neg (by rw[hps];simp),if_pos hx]
      obtain⟨I,b,us',t,e,hF,hU⟩:=spec67a L o ad kn hu hs (wide l) (ix opL (word l)) a
      have e5:qbin .add .i64 5 (ix opL (word l))=5+ix opL (word l):=by
       rw[qbin_eq];simp only[rbin]
       rcases ix_range opL (word l)with h|⟨k,hk,_,h⟩
       ·omega
       ·have:opL.length=11:=rfl
        exact wrap64' (by omega) (by omega)
      rw[show qcmp .geq (ix opL (word l)) 0=true by rw[qcmp_geq];exact decide_eq_true hx,e5,hc]
      simp only[e,qsome_s,qnth_s,List.getD_cons_zero,List.getD_cons_succ,qbool_b,cond_true]
      exact FIN_run0a I _ a h69 us' hF (fun e=>hU (ar2 e))
     ·have hc:cls (word l)=clsO (word l):=by unfold cls;rw[if_neg h1,if_neg h2,if_neg (by rw[hps];simp),if_neg hx]
      obtain⟨I,us',b,f,e,hF,hU⟩:=fin68a L o ad kn hu hs (wide l) (word l) a
      rw[show qcmp .geq (ix opL (word l)) 0=false by rw[qcmp_geq];exact decide_eq_false hx,hc]
      simp only[e,qsome_s,qnth_s,List.getD_cons_zero,List.getD_cons_succ,qbool_b,cond_true,cond_false,w1]
      exact FIN_run2a I b f (wide l) a h69 us' hF hU
end Go.Proofs.YtobhhfbdelnhfaaGreatDoor
namespace Go.Proofs.YtobhhfbdelnhfaaGreatDoor
set_option linter.unusedSimpArgs false
set_option linter.unusedVariables false
open Go Go.AM
def LabOk (L:Lab):Prop:=L.length≤1000000∧∀p∈L,0≤p.2∧p.2<4294967296
theorem lk_rng {L:Lab} (h:∀p∈L,0≤p.2∧p.2<4294967296) (s:List UInt8):0≤lv L s∧lv L s<4294967296:=by
 unfold lv
 induction L with
 |nil=>simp[lk]
 |cons p r ih=>
  unfold lk
  by_cases e:p.1=s
  ·rw[if_pos e];exact h p (by simp)
  ·rw[if_neg e];exact ih fun q hq=>h q (by simp[hq])
theorem valV_rng {L:Lab} (h:∀p∈L,0≤p.2∧p.2<4294967296) {s:List UInt8} (hz:s.length≤1000):0≤valV L s∧valV L s<4294967296:=by
 unfold valV
 have h1:=num_rng hz
 have h2:=lk_rng h s
 cases numB s<;>cases nmB s<;>simp only[cond_true,cond_false]<;>omega
end Go.Proofs.YtobhhfbdelnhfaaGreatDoor
namespace Go.Proofs.YtobhhfbdelnhfaaGreatDoor
set_option linter.unusedSimpArgs false
set_option linter.unusedVariables false
open Go Go.AM
def byD (l:List Int):D:= .list (l.map D.int)
theorem byD_len (l:List Int):qlen (byD l)=(l.length:Int):=by unfold byD;rw[len_list];simp
theorem byD_app (a b:List Int):qapp (byD a) (byD b)=byD (a++b):=by unfold byD;rw[app_list,List.map_append]
theorem partsF_len:∀(n:Nat) (l:List UInt8),(partsF n l).length≤n+1
 |0,l=>by simp[partsF]
 |n+1,l=>by
  unfold partsF
  cases hc:comma l with
  |none=>simp
  |some k=>simp only[List.length_cons];have:=partsF_len n (l.drop (k+2));omega
theorem parts_len (l:List UInt8):(partsL l).length≤l.length+1:=partsF_len _ _
theorem parts_short {l:List UInt8} (hz:l.length≤1000):Short (partsL l):=by
 intro x hx
 have:=partsF_short _ _ x hx
 omega
theorem op_drop {ops:List (List UInt8)} {i:Nat} (h:i<ops.length):ops.drop i=op ops i::ops.drop (i+1):=by
 rw[List.drop_eq_getElem_cons h];simp[op,List.getD,h]
noncomputable def wdL (L:Lab) (xs:List (List UInt8)):List Int:=xs.flatMap fun x=>wordE (valV L x)
theorem wdL_len (L:Lab):∀xs:List (List UInt8),(wdL L xs).length=4*xs.length
 | []=>rfl
 |x::r=>by
  have ih:=wdL_len L r
  unfold wdL at ih ⊢
  rw[List.flatMap_cons,List.length_append,ih,word_len,List.length_cons];omega
theorem put1 {v:Int} (h:0≤v∧v<4294967296):q49 [.list [], .int v, .int 4]=some [byD (wordE v)]:=by
 rw[put_spec h (by simp)];rfl
theorem usU_len (us:List (List UInt8)) (s:List UInt8):(usU us s).length≤us.length+1:=by unfold usU;cases nmd s<;>simp
theorem loop123 {L:Lab} (hL:LabOk L) (o:D) (ad:Int) (kn:Bool) {ops:List (List UInt8)} (hs:Short ops) (hn:ops.length≤2000):∀(k i:Nat) (acc:List Int) (us:List (List UInt8)),i+k=ops.length→acc.length+4*k≤20000→us.length+k≤900000→
 ∃us',loW (st123_3 [opD ops, .int (ops.length:Int),o,mD L, .int ad, .bool kn]) [.int i,byD acc,nameL us]=some (bif (ops.drop i).all valB then[.int 0,byD (acc++wdL L (ops.drop i)),nameL ((ops.drop i).foldl usU us)]else[.int 1,nameL us', .list []]):=by
 intro k
 induction k with
 |zero=>
  intro i acc us hi ha hu
  refine⟨us,?_⟩
  rw[loW_nxt,st123_3_eq,ltI,decide_eq_false (by omega),List.drop_of_length_le (by omega)]
  simp only[cond_false,nxtT,List.all_nil,cond_true,List.foldl_nil,wdL,List.flatMap_nil,List.append_nil]
 |succ k ih=>
  intro i acc us hi ha hu
  have hlt:i<ops.length:=by omega
  have hx:=op_short hs hlt
  obtain⟨g1,g2⟩:=op_get (op_at hlt)
  have hv:=valV_rng hL.2 hx
  have hm:qmem (qlen (byD (acc++wordE (valV L (op ops i))))) 1=true:=by rw[byD_len];exact memB (by simp[word_len];omega) (by omega)
  have hadd:qbin .add .i64 (i:Int) 1=((i+1:Nat):Int):=add_nat (by omega)
  rw[loW_nxt,st123_3_eq,ltI,decide_eq_true hlt,g1,g2,(num_spec hx).1,op_drop hlt]
  simp only[cond_true,qsome_s,qnth_s,List.getD_cons_zero,List.getD_cons_succ,qbool_b,qint_i,qnot_c,List.all_cons,List.foldl_cons,spec125 L o ad kn (op ops i) (us:=us) (by omega)]
  have hstep:wdL L (op ops i::ops.drop (i+1))=wordE (valV L (op ops i))++wdL L (ops.drop (i+1)):=by unfold wdL;rw[List.flatMap_cons]
  rw[hstep]
  have hul:=usU_len us (op ops i)
  obtain⟨us',ih⟩:=ih (i+1) (acc++wordE (valV L (op ops i))) (usU us (op ops i)) (by omega) (by rw[List.length_append,word_len];omega) (by omega)
  rw[List.append_assoc]at ih
  unfold valB at ih ⊢
  cases hb:numB (op ops i)with
  |true=>
   have e1:valV L (op ops i)=numV (op ops i):=by unfold valV;rw[hb];rfl
   have e2:usU us (op ops i)=us:=by unfold usU nmd;rw[hb];rfl
   rw[e1]at hv hm ih ⊢
   rw[e2]at ih ⊢
   simp only[Bool.not_true,cond_false,put1 hv,qsome_s,qnth_s,List.getD_cons_zero,byD_app,hm,cond_true,hadd,nxtT,Bool.true_or,Bool.true_and]
   exact⟨us',ih⟩
  |false=>
   cases hc:nmB (op ops i)with
   |false=>
    simp only[Bool.not_false,cond_true,nxtT,Bool.false_or,Bool.false_and,cond_false,List.getD_cons_succ,List.getD_cons_zero]
    exact⟨_,rfl⟩
   |true=>
    have e1:valV L (op ops i)=lv L (op ops i):=by unfold valV;rw[hb,hc];rfl
    have e2:usU us (op ops i)=us ++ [op ops i]:=by unfold usU nmd;rw[hb,hc];rfl
    rw[e1]at hv hm ih ⊢
    rw[e2]at ih ⊢
    simp only[Bool.not_true,Bool.not_false,cond_false,cond_true,put1 hv,qsome_s,qnth_s,List.getD_cons_zero,List.getD_cons_succ,byD_app,hm,hadd,nxtT,Bool.false_or,Bool.true_and]
    exact⟨us',ih⟩
theorem spec123 {L:Lab} (hL:LabOk L) (out:List Int) (ho:out.length≤900000) (ad:Int) (kn:Bool) {l:List UInt8} (hz:l.length≤1000) {us:List (List UInt8)} (hu:us.length≤800000):
 ∃us',q123 [mD L, .int ad, .bool kn, .str (bs l),nameL us,byD out]=some (bif (partsL l).all valB then[.int 0,nameL ((partsL l).foldl usU us),byD (out++wdL L (partsL l))]else[.int 3,nameL us',byD out]):=by
 have hp:=parts_len l
 have hs:=parts_short hz
 have hb:qcmp .lss (qlenS (bs l)) 4294967281=true:=by rw[len_bs,qcmp_lss];exact decide_eq_true (by omega)
 obtain⟨us',hl⟩:=loop123 hL (byD out) ad kn hs (by omega) (partsL l).length 0 [] us (by omega) (by simp;omega) (by omega)
 have e:l123_3 [opD (partsL l), .int ((partsL l).length:Int),byD out,mD L, .int ad, .bool kn] [.int 0, .list [],nameL us]=some (bif (partsL l).all valB then[.int 0,byD (wdL L (partsL l)),nameL ((partsL l).foldl usU us)]else[.int 1,nameL us', .list []]):=by
  rw[l123_3_eq];rw[List.drop_zero,List.nil_append]at hl;exact hl
 have hm:qmem (qlen (byD (out++wdL L (partsL l)))) 1=true:=by rw[byD_len];exact memB (by rw[List.length_append,wdL_len];omega) (by omega)
 refine⟨us',?_⟩
 rw[q123_eq,F123_eq]
 simp only[mkB,splitQ,qlen_op,hb,e,cond_true]
 cases (partsL l).all valB with
 |true=>simp only[cond_true,qsome_s,qnth_s,List.getD_cons_zero,List.getD_cons_succ,qint_i,byD_app,hm,qcmp_eql,decide_true]
 |false=>simp only[cond_false,cond_true,qsome_s,qnth_s,List.getD_cons_zero,List.getD_cons_succ,qint_i,qcmp_eql];rfl
noncomputable def farB (x:List UInt8):Bool:=decide (255<numV x) && !nearI (numV x)
noncomputable def byL (xs:List (List UInt8)):List Int:=xs.map fun x=>numV x%256
theorem loop124 (u o L:D) (ad:Int) (kn:Bool) {ops:List (List UInt8)} (hs:Short ops) (hn:ops.length≤2000):∀(k i:Nat) (acc:List Int) (f:Bool),i+k=ops.length→acc.length+k≤20000→
 loW (st124_4 [opD ops, .int (ops.length:Int),u,o,L, .int ad, .bool kn]) [.bool f, .int i,byD acc]=some (bif (ops.drop i).all numB then[.int 0, .bool (f||(ops.drop i).any farB),byD (acc++byL (ops.drop i))]else[.int 1]):=by
 intro k
 induction k with
 |zero=>
  intro i acc f hi ha
  rw[loW_nxt,st124_4_eq,ltI,decide_eq_false (by omega),List.drop_of_length_le (by omega)]
  simp only[cond_false,nxtT,List.all_nil,cond_true,List.any_nil,byL,List.map_nil,List.append_nil,Bool.or_false]
 |succ k ih=>
  intro i acc f hi ha
  have hlt:i<ops.length:=by omega
  have hx:=op_short hs hlt
  obtain⟨g1,g2⟩:=op_get (op_at hlt)
  have hm:qmem (qlen (byD (acc ++ [numV (op ops i)%256]))) 1=true:=by rw[byD_len];exact memB (by simp;omega) (by omega)
  have hadd:qbin .add .i64 (i:Int) 1=((i+1:Nat):Int):=add_nat (by omega)
  have hni:qcmp .eql (qwrap .u32 (qwrap .i8 (numV (op ops i)))) (numV (op ops i))=nearI (numV (op ops i)):=rfl
  have h1:D.list [.int (numV (op ops i)%256)]=byD [numV (op ops i)%256]:=rfl
  rw[loW_nxt,st124_4_eq,ltI,decide_eq_true hlt,g1,g2,(num_spec hx).1,op_drop hlt]
  simp only[cond_true,qsome_s,qnth_s,List.getD_cons_zero,List.getD_cons_succ,qbool_b,qint_i,qnot_c,List.all_cons,List.any_cons,rd8,h1,byD_app,hm,hni,hadd,qiteB_c,qcmp_gtr]
  cases hb:numB (op ops i)with
  |false=>simp only[Bool.not_false,cond_true,nxtT,Bool.false_and,cond_false]
  |true=>
   simp only[Bool.not_true,cond_false,nxtT,Bool.true_and]
   rw[ih (i+1) _ _ (by omega) (by rw[List.length_append];simp;omega)]
   have hf:(bif f then true else bif decide (255<numV (op ops i))then !nearI (numV (op ops i))else false)=(f||farB (op ops i)):=by
    unfold farB;cases f<;>cases decide (255<numV (op ops i))<;>rfl
   rw[hf,Bool.or_assoc]
   unfold byL
   rw[List.append_assoc,List.map_cons];rfl
theorem spec124 (L:D) (out:List Int) (ho:out.length≤900000) (ad:Int) (kn:Bool) {l:List UInt8} (hz:l.length≤1000) (us:D):
 q124 [L, .int ad, .bool kn, .str (bs l),us,byD out]=some (bif (partsL l).all numB then(bif (partsL l).any farB then[.int 7,us,byD out]else[.int 0,us,byD (out++byL (partsL l))])else[.int 3,us,byD out]):=by
 have hp:=parts_len l
 have hs:=parts_short hz
 have hb:qcmp .lss (qlenS (bs l)) 4294967281=true:=by rw[len_bs,qcmp_lss];exact decide_eq_true (by omega)
 have hl:=loop124 us (byD out) L ad kn hs (by omega) (partsL l).length 0 [] false (by omega) (by simp;omega)
 have e:l124_4 [opD (partsL l), .int ((partsL l).length:Int),us,byD out,L, .int ad, .bool kn] [.bool false, .int 0, .list []]=some (bif (partsL l).all numB then[.int 0, .bool ((partsL l).any farB),byD (byL (partsL l))]else[.int 1]):=by
  rw[l124_4_eq];rw[List.drop_zero,List.nil_append,Bool.false_or]at hl;exact hl
 have hm:qmem (qlen (byD (out++byL (partsL l)))) 1=true:=by rw[byD_len];exact memB (by rw[List.length_append];simp[byL];omega) (by omega)
 rw[q124_eq,F124_eq]
 simp only[mkB,splitQ,qlen_op,hb,e,cond_true]
 cases (partsL l).all numB with
 |true=>
  simp only[cond_true,qsome_s,qnth_s,List.getD_cons_zero,List.getD_cons_succ,qint_i,qbool_b,byD_app,hm,qcmp_eql,decide_true]
  cases (partsL l).any farB<;>rfl
 |false=>simp only[cond_false,cond_true,qsome_s,qnth_s,List.getD_cons_zero,List.getD_cons_succ,qint_i,qcmp_eql];rfl
end Go.Proofs.YtobhhfbdelnhfaaGreatDoor
namespace Go.Proofs.YtobhhfbdelnhfaaGreatDoor
set_option linter.unusedSimpArgs false
set_option linter.unusedVariables false
open Go Go.AM
def U32 (r:Option (List D)):Prop:=∀v b,r=some [.int v,b]→0≤v∧v<4294967296
theorem U32_none:U32 none:=fun v b h=>by cases h
theorem U32_bif {c:Bool} {x y:Option (List D)} (h:U32 x) (h':U32 y):U32 (bif c then x else y):=by cases c;exact h';exact h
theorem U32_0 {b:D}:U32 (some [.int 0,b]):=fun v b h=>by injection h with h;injection h with h _;injection h with h;omega
theorem U32_w {n:Int} {b:D}:U32 (some [.int (qwrap .u32 n),b]):=fun v b h=>by
 injection h with h;injection h with h _;injection h with h
 rw[← h,qwrap_eq,mU32];omega
theorem U32_n {n:Int} {b:D}:U32 (some [.int (qun .neg .u32 n),b]):=fun v b h=>by
 injection h with h;injection h with h _;injection h with h
 rw[← h,qun_eq];simp only[run1,mU32];omega
theorem num_rg {l:List UInt8} (hz:l.length≤1000):∃n:Nat,numV l=n∧n<4294967296:=by
 have e:=(num_spec hz).1
 have u:U32 (q36 [.str (bs l)]):=by
  rw[q36_eq,F36_eq]
  repeat' first|exact U32_none|exact U32_0|exact U32_w|exact U32_n|refine U32_bif ?_ ?_
 have:=u _ _ e
 obtain⟨n,hn⟩:=Int.eq_ofNat_of_zero_le this.1
 exact⟨n,hn,by omega⟩
theorem reg_rng {l:List UInt8} (h:regB l=true):0≤regV l∧regV l<8:=by
 have e:=(reg_spec l).1
 rw[q108_eq,F108_eq,h]at e
 simp only[qiteB_c,qcmp_neq,qcmp_lss,qcmp_gtr]at e
 generalize qidxS (bs l) 1=x at e
 generalize qidxS (bs l) 0=y at e
 generalize qlenS (bs l)=z at e
 generalize qinbS (bs l) 0=b0 at e
 generalize qinbS (bs l) 1=b1 at e
 by_cases a:z=2<;>by_cases b:y=114<;>by_cases c:x<48<;>by_cases d:55<x<;>cases b0<;>cases b1<;>simp[a,b,c,d]at e
 rw[← e,qbin_eq,qwrap_eq]
 simp only[rbin,IntKind.wrap,IntKind.bits,IntKind.signed]
 simp
 omega
theorem pl_rng {l:List UInt8} (hz:l.length≤1000) (h:(plR l).2.2=0):(0≤(plR l).1∧(plR l).1<8)∧∃n:Nat,(plR l).2.1=n∧n<4294967296∧near n:=by
 revert h
 unfold plR
 split
 ·intro h;cases h
 ·split
  ·intro h;cases h
  ·rename_i hr
   have hr':regB ((l.drop 1).take 2)=true:=by simpa using hr
   split
   ·intro _;exact⟨reg_rng hr',0,rfl,by omega, .inl (by omega)⟩
   ·rename_i a r hx
    have hl:r.length≤1000:=by
     have:=congrArg List.length hx
     simp at this;omega
    obtain⟨n,hn,h2⟩:=num_rg hl
    unfold plT
    rw[hn]
    split
    ·intro h;cases h
    ·split
     ·intro h;cases h
     ·rename_i g1 g2
      intro _
      refine⟨reg_rng hr',?_⟩
      have ha:a=43∨a=45:=by
       apply Classical.byContradiction
       intro hc
       exact g1 (.inr (.inr ⟨fun e=>hc (.inl e),fun e=>hc (.inr e)⟩))
      rcases ha with rfl|rfl
      ·have hn7:n≤127:=by
        apply Classical.byContradiction
        intro hc
        exact g2 (.inl ⟨rfl,by omega⟩)
       exact⟨n,by rw[if_neg (by decide)],h2, .inl hn7⟩
      ·have hn8:n≤128:=by
        apply Classical.byContradiction
        intro hc
        exact g2 (.inr (by omega))
       rw[if_pos rfl,qbin_eq]
       simp only[rbin,mU32]
       by_cases h0:n=0
       ·exact⟨0,by subst h0;rfl,by omega, .inl (by omega)⟩
       ·exact⟨4294967296-n,by omega,by omega, .inr (by omega)⟩
def good:Cls→Prop
 | .bare k=>0≤k∧k≤2
 | .one o cc=>(o=3∨o=4∨o=21∨o=24∨o=26∨o=27)∧cc=0∨o=25∧0≤cc∧cc≤14
 | .mem o w _=>o=16∧(w=1∨w=2∨w=4)∨o=17∧(w=1∨w=2)∨o=18∧(w=1∨w=2∨w=4)∨o=19∧w=0
 | .ar k=>0≤k∧k≤10
 | .jmp cc=>0≤cc∧cc≤14
 |_=>True
theorem good_ite {c:Prop} [Decidable c] {x y:Cls} (h:good x) (h':good y):good (if c then x else y):=by
 split
 ·exact h
 ·exact h'
theorem ix_rng {names:List (List UInt8)} (x:List UInt8):ix names x = -1∨0≤ix names x∧ix names x<names.length:=by
 rcases ixF_range x names 0 with h|⟨k,hk,_,e⟩
 ·exact .inl h
 ·right;unfold ix;rw[e];omega
theorem good_cls (m:List UInt8):good (cls m):=by
 have c15:ccL.length=15:=rfl
 have o11:opL.length=11:=rfl
 have r1:=ix_rng (names:=ccL) (m.drop 1)
 have r3:=ix_rng (names:=ccL) (m.drop 3)
 have ro:=ix_rng (names:=opL) m
 unfold cls
 split
 ·show(0:Int)≤0∧(0:Int)≤14;omega
 ·split
  ·rename_i h;show 0≤ix ccL (m.drop 1)∧ix ccL (m.drop 1)≤14;omega
  ·split
   ·split
    ·trivial
    ·show _∨_∧_;right;exact⟨rfl,by omega,by omega⟩
   ·split
    ·show 0≤ix opL m∧ix opL m≤10;omega
    ·unfold clsO
     repeat' apply good_ite
     all_goals simp[good]
theorem hasS_ins {a i o f w c x y z s:Int}:hasS (insD a i o f w c x y z) s↔shp o f w c=some s∧okA s o f w c x y i (off i a):=by
 obtain⟨f0,f1,f2,f3,f4,f5,f6,f7,f8⟩:=insF a i o f w c x y z
 unfold hasS short
 rw[f0,f1,f2,f3,f4,f5,f6,f7];exact Iff.rfl
theorem fmN_n {n:Nat} (w nm:Bool) (h2:n<4294967296):fmN n w nm=if(near n∧w=false)∧nm=false then 1 else 2:=by
 unfold fmN
 cases nm with
 |true=>simp
 |false=>rw[cond_false,fm_n w h2];simp
theorem val_rg {L:Lab} (hL:∀p∈L,0≤p.2∧p.2<4294967296) {l:List UInt8} (hz:l.length≤1000):∃n:Nat,valV L l=n∧n<4294967296:=by
 have:=valV_rng hL hz
 obtain⟨n,hn⟩:=Int.eq_ofNat_of_zero_le this.1
 exact⟨n,hn,by omega⟩
theorem OTn_ok {L:Lab} (hL:∀p∈L,0≤p.2∧p.2<4294967296) {c:Cls} (hg:good c) {ops:List (List UInt8)} (hs:Short ops) (w:Bool) (a:Int):
 (OTn L c w ops a=erD 3∨OTn L c w ops a=erD 7)∨∃(n:Nat) (o f wd cc x y s:Int),OTn L c w ops a=okD a n o f wd cc x y∧n<4294967296∧hasS (insD a n o f wd cc x y 0) s:=by
 cases c with
 |bare k=>
  simp only[OTn]
  cases hb:(!w&&decide (ops.length=0))with
  |false=>exact .inl (.inl rfl)
  |true=>
   have g:0≤k∧k≤2:=hg
   refine .inr ⟨0,k,0,0,0,0,0,0,rfl,by omega,hasS_ins.2 ⟨?_,?_⟩⟩
   ·unfold shp;rw[if_pos g]
   ·unfold okA;omega
 |one o cc=>
  simp only[OTn]
  cases hb:(!w&&(decide (ops.length=1)&&regB (op ops 0)))with
  |false=>exact .inl (.inl rfl)
  |true=>
   simp only[Bool.and_eq_true]at hb
   have hr:=reg_rng hb.2.2
   rcases hg with⟨g,rfl⟩|⟨rfl,g⟩
   ·rcases g with rfl|rfl|rfl|rfl|rfl|rfl
    ·exact .inr ⟨0,3,0,0,0,_,0,1,rfl,by omega,hasS_ins.2 ⟨rfl,by unfold okA;omega⟩⟩
    ·exact .inr ⟨0,4,0,0,0,_,0,1,rfl,by omega,hasS_ins.2 ⟨rfl,by unfold okA;omega⟩⟩
    ·exact .inr ⟨0,21,0,0,0,_,0,2,rfl,by omega,hasS_ins.2 ⟨rfl,by unfold okA;omega⟩⟩
    ·exact .inr ⟨0,24,0,0,0,_,0,2,rfl,by omega,hasS_ins.2 ⟨rfl,by unfold okA;omega⟩⟩
    ·exact .inr ⟨0,26,0,0,0,_,0,2,rfl,by omega,hasS_ins.2 ⟨rfl,by unfold okA;omega⟩⟩
    ·exact .inr ⟨0,27,0,0,0,_,0,2,rfl,by omega,hasS_ins.2 ⟨rfl,by unfold okA;omega⟩⟩
   ·refine .inr ⟨0,25,0,0,cc,_,0,2,rfl,by omega,hasS_ins.2 ⟨?_,by unfold okA;omega⟩⟩
    unfold shp
    simp[g]
 |mem o wd st=>
  simp only[OTn]
  cases hb:(!w&&meOk ops st)with
  |false=>exact .inl (.inl rfl)
  |true=>
   simp only[Bool.and_eq_true]at hb
   have hk:=hb.2
   unfold meOk at hk
   simp only[Bool.and_eq_true,decide_eq_true_eq]at hk
   have hr:=reg_rng hk.2.1
   have hlen:(meP ops st).length≤1000:=by unfold meP;cases st;exact op_short hs (by omega);exact op_short hs (by omega)
   rcases plE (meP ops st)with h|h|h
   ·obtain⟨hp,n,en,h2,nn⟩:=pl_rng hlen h
    rw[h,en]
    unfold near at nn
    refine .inr ⟨n,o,0,wd,0,_,_,5,rfl,h2,hasS_ins.2 ⟨?_,?_⟩⟩
    ·rcases hg with⟨rfl,g⟩|⟨rfl,g⟩|⟨rfl,g⟩|⟨rfl,g⟩<;>unfold shp<;>simp[g]
    ·have g':o=16∨o=17∨o=18∨o=19∧wd=0:=by rcases hg with⟨h,_⟩|⟨h,_⟩|⟨h,_⟩|⟨h,g⟩<;>omega
     unfold okA;omega
   ·rw[h]at hk;simp at hk
   ·rw[h];exact .inl (.inr rfl)
 |call=>
  simp only[OTn]
  cases hb:(!w&&(decide (ops.length=1)&&valB (op ops 0)))with
  |false=>exact .inl (.inl rfl)
  |true=>
   simp only[Bool.and_eq_true,decide_eq_true_eq]at hb
   obtain⟨n,en,h2⟩:=val_rg hL (op_short hs (k:=0) (by omega))
   rw[en]
   exact .inr ⟨n,23,0,0,0,0,0,8,rfl,h2,hasS_ins.2 ⟨rfl,by unfold okA;omega⟩⟩
 |jumpt=>
  simp only[OTn]
  cases hb:(!w&&(decide (ops.length=2)&&(regB (op ops 0)&&valB (op ops 1))))with
  |false=>exact .inl (.inl rfl)
  |true=>
   simp only[Bool.and_eq_true,decide_eq_true_eq]at hb
   have hr:=reg_rng hb.2.2.1
   obtain⟨n,en,h2⟩:=val_rg hL (op_short hs (k:=1) (by omega))
   rw[en]
   exact .inr ⟨n,22,0,0,0,_,0,6,rfl,h2,hasS_ins.2 ⟨rfl,by unfold okA;omega⟩⟩
 |ar k=>
  have g:0≤k∧k≤10:=hg
  simp only[OTn]
  cases hb:arOkN ops w with
  |false=>exact .inl (.inl rfl)
  |true=>
   unfold arOkN at hb
   simp only[Bool.and_eq_true,decide_eq_true_eq]at hb
   have hr:=reg_rng hb.2.1
   obtain⟨n,en,h2⟩:=val_rg hL (op_short hs (k:=1) (by omega))
   unfold arIN
   by_cases h1:regB (op ops 1)=true
   ·have hr1:=reg_rng h1
    rw[if_pos h1,if_pos h1]
    refine .inr ⟨0,5+k,0,0,0,_,_,3,rfl,by omega,hasS_ins.2 ⟨?_,by unfold okA;omega⟩⟩
    unfold shp
    rw[if_neg (by omega),if_neg (by omega),if_pos (by omega),if_pos rfl]
   ·rw[if_neg h1,if_neg h1,en,fmN_n w _ h2]
    by_cases hn:(near n∧w=false)∧nmd (op ops 1)=false
    ·rw[if_pos hn]
     have hn1:=hn.1.1
     unfold near at hn1
     refine .inr ⟨n,5+k,1,0,0,_,0,4,rfl,h2,hasS_ins.2 ⟨?_,by unfold okA;omega⟩⟩
     unfold shp
     rw[if_neg (by omega),if_neg (by omega),if_pos (by omega),if_neg (by omega),if_pos rfl]
    ·rw[if_neg hn]
     refine .inr ⟨n,5+k,2,0,0,_,0,6,rfl,h2,hasS_ins.2 ⟨?_,by unfold okA;omega⟩⟩
     unfold shp
     rw[if_neg (by omega),if_neg (by omega),if_pos (by omega),if_neg (by omega),if_neg (by omega),if_pos rfl]
 |jmp cc=>
  have g:0≤cc∧cc≤14:=hg
  simp only[OTn]
  cases hb:(decide (ops.length=1)&&valB (op ops 0))with
  |false=>exact .inl (.inl rfl)
  |true=>
   simp only[Bool.and_eq_true,decide_eq_true_eq]at hb
   obtain⟨n,en,h2⟩:=val_rg hL (op_short hs (k:=0) (by omega))
   rw[en]
   have ho:0≤off n a∧off n a<4294967296:=by unfold off;rw[qbin_eq];simp only[rbin,mU32];omega
   obtain⟨j,hj⟩:=Int.eq_ofNat_of_zero_le ho.1
   rw[hj,fmN_n w _ (by omega)]
   by_cases hn:(near j∧w=false)∧nmd (op ops 0)=false
   ·rw[if_pos hn]
    have hn1:=hn.1.1
    unfold near at hn1
    refine .inr ⟨n,20,1,0,cc,0,0,7,rfl,h2,hasS_ins.2 ⟨?_,by rw[hj];unfold okA;omega⟩⟩
    unfold shp;simp[g]
   ·rw[if_neg hn]
    refine .inr ⟨n,20,2,0,cc,0,0,8,rfl,h2,hasS_ins.2 ⟨?_,by rw[hj];unfold okA;omega⟩⟩
    unfold shp;simp[g]
 |unk=>exact .inl (.inl rfl)
end Go.Proofs.YtobhhfbdelnhfaaGreatDoor
namespace Go.Proofs.YtobhhfbdelnhfaaGreatDoor
set_option linter.unusedSimpArgs false
set_option linter.unusedVariables false
open Go Go.AM
open Classical in
noncomputable def enL (O:List D):List Int:=if h:∃s,hasS (O.getD 0 .other) s then encB (O.getD 0 .other) h.choose else[]
theorem enL_of {O:List D} {s:Int} (h:hasS (O.getD 0 .other) s):enL O=encB (O.getD 0 .other) s:=by
 have h':∃s,hasS (O.getD 0 .other) s:=⟨s,h⟩
 unfold enL
 rw[dif_pos h',hasS_un h'.choose_spec h]
theorem encB_len {d:D} {s:Int} (h:hasS d s) (hi:0≤qint (qfld d 1)∧qint (qfld d 1)<4294967296):((encB d s).length:Int)=sLen s:=by
 obtain⟨bs,e1,e2⟩:=bytes_spec h
 rw[ref_bytes h hi]at e1
 simp only[Option.some.injEq,List.cons.injEq,and_true]at e1
 rw[← e1,len_list,List.length_map]at e2
 exact e2
theorem OTn_two (L L':Lab) (c:Cls) (w:Bool) (ops:List (List UInt8)) (a:Int):
 (∃e,e≠0∧OTn L c w ops a=erD e∧OTn L' c w ops a=erD e)∨∃n n' o f wd cc x y:Int,OTn L c w ops a=okD a n o f wd cc x y∧OTn L' c w ops a=okD a n' o f wd cc x y:=by
 have e3:(3:Int)≠0:=by omega
 have hv:∀x,nmd x=false→valB x=true→valV L x=valV L' x:=by
  intro x h1 h2
  unfold nmd at h1;unfold valB at h2;unfold valV
  cases hn:numB x<;>cases hb:nmB x<;>simp_all
 have hf:∀x w',valB x=true→fmN (valV L x) w' (nmd x)=fmN (valV L' x) w' (nmd x):=by
  intro x w' h2
  cases h:nmd x with
  |true=>rfl
  |false=>rw[hv x h h2]
 have hg:∀x w',valB x=true→fmN (off (valV L x) a) w' (nmd x)=fmN (off (valV L' x) a) w' (nmd x):=by
  intro x w' h2
  cases h:nmd x with
  |true=>rfl
  |false=>rw[hv x h h2]
 cases c with
 |bare k=>simp only[OTn];cases (!w&&decide (ops.length=0))with
  |false=>exact .inl ⟨3,e3,rfl,rfl⟩
  |true=>exact .inr ⟨_,_,_,_,_,_,_,_,rfl,rfl⟩
 |one o cc=>simp only[OTn];cases (!w&&(decide (ops.length=1)&&regB (op ops 0)))with
  |false=>exact .inl ⟨3,e3,rfl,rfl⟩
  |true=>exact .inr ⟨_,_,_,_,_,_,_,_,rfl,rfl⟩
 |mem o wd st=>simp only[OTn];cases (!w&&meOk ops st)with
  |false=>exact .inl ⟨3,e3,rfl,rfl⟩
  |true=>cases ((plR (meP ops st)).2.2==7)with
   |true=>exact .inl ⟨7,by omega,rfl,rfl⟩
   |false=>exact .inr ⟨_,_,_,_,_,_,_,_,rfl,rfl⟩
 |call=>simp only[OTn];cases (!w&&(decide (ops.length=1)&&valB (op ops 0)))with
  |false=>exact .inl ⟨3,e3,rfl,rfl⟩
  |true=>exact .inr ⟨_,_,_,_,_,_,_,_,rfl,rfl⟩
 |jumpt=>simp only[OTn];cases (!w&&(decide (ops.length=2)&&(regB (op ops 0)&&valB (op ops 1))))with
  |false=>exact .inl ⟨3,e3,rfl,rfl⟩
  |true=>exact .inr ⟨_,_,_,_,_,_,_,_,rfl,rfl⟩
 |ar k=>
  simp only[OTn]
  cases hb:arOkN ops w with
  |false=>exact .inl ⟨3,e3,rfl,rfl⟩
  |true=>
   unfold arIN
   by_cases h1:regB (op ops 1)=true
   ·rw[if_pos h1,if_pos h1,if_pos h1,if_pos h1]
    exact .inr ⟨_,_,_,_,_,_,_,_,rfl,rfl⟩
   ·unfold arOkN at hb
    simp only[Bool.and_eq_true,decide_eq_true_eq]at hb
    have hval:valB (op ops 1)=true:=by
     have:=hb.2.2
     cases hr:regB (op ops 1)with
     |true=>exact absurd hr h1
     |false=>rw[hr]at this;exact this
    rw[if_neg h1,if_neg h1,if_neg h1,if_neg h1,hf _ w hval]
    exact .inr ⟨_,_,_,_,_,_,_,_,rfl,rfl⟩
 |jmp cc=>
  simp only[OTn]
  cases hb:(decide (ops.length=1)&&valB (op ops 0))with
  |false=>exact .inl ⟨3,e3,rfl,rfl⟩
  |true=>
   simp only[Bool.and_eq_true]at hb
   rw[hg _ w hb.2]
   exact .inr ⟨_,_,_,_,_,_,_,_,rfl,rfl⟩
 |unk=>exact .inl ⟨3,e3,rfl,rfl⟩
theorem OTn_enc {L:Lab} (hL:∀p∈L,0≤p.2∧p.2<4294967296) {l:List UInt8} (hz:l.length≤1000) (a:Int):
 (∃e,e≠0∧OTn L (cls (word l)) (wide l) (opsL l) a=erD e)∨
 ∃I s,OTn L (cls (word l)) (wide l) (opsL l) a = [I, .int 0]∧hasS I s∧(0≤qint (qfld I 1)∧qint (qfld I 1)<4294967296)∧enL (OTn L (cls (word l)) (wide l) (opsL l) a)=encB I s∧
  q17 [I]=some [byD (enL (OTn L (cls (word l)) (wide l) (opsL l) a)), .int 0]∧q80 [I]=some [byD (enL (OTn L (cls (word l)) (wide l) (opsL l) a)), .int 0]∧((enL (OTn L (cls (word l)) (wide l) (opsL l) a)).length:Int)=sLen s:=by
 rcases OTn_ok hL (good_cls (word l)) (opsL_short hz) (wide l) a with(h|h)|⟨n,o,f,wd,cc,x,y,s,h,h2,hs⟩
 ·exact .inl ⟨3,by omega,h⟩
 ·exact .inl ⟨7,by omega,h⟩
 ·have hI:∀z,hasS (insD a n o f wd cc x y z) s:=fun z=>hasS_ins.2 (hasS_ins.1 hs)
  have hi:∀z,0≤qint (qfld (insD a n o f wd cc x y z) 1)∧qint (qfld (insD a n o f wd cc x y z) 1)<4294967296:=by
   intro z
   rw[(insF a n o f wd cc x y z).2.1];omega
  rw[h]
  have he:enL (okD a n o f wd cc x y)=encB ((okD a n o f wd cc x y).getD 0 .other) s:=enL_of (hI _)
  refine .inr ⟨_,s,rfl,hI _,hi _,he,?_,?_,?_⟩
  ·rw[he];exact enc_ok (hI _) (hi _)
  ·rw[he];exact enc_ref (hI _) (hi _)
  ·rw[he];exact encB_len (hI _) (hi _)
theorem enL_two {L L':Lab} (hL:∀p∈L,0≤p.2∧p.2<4294967296) (hL':∀p∈L',0≤p.2∧p.2<4294967296) {l:List UInt8} (hz:l.length≤1000) (a:Int):
 (enL (OTn L (cls (word l)) (wide l) (opsL l) a)).length=(enL (OTn L' (cls (word l)) (wide l) (opsL l) a)).length:=by
 have k1:=OTn_enc hL hz a
 have k2:=OTn_enc hL' hz a
 rcases OTn_two L L' (cls (word l)) (wide l) (opsL l) a with⟨e,_,h1,h2⟩|⟨n,n',o,f,wd,cc,x,y,h1,h2⟩
 ·rw[h1,h2]
 ·rcases k1 with⟨e,he,h⟩|⟨I,s,h,hs,_,_,_,_,hl⟩
  ·rw[h1]at h;unfold okD erD at h
   simp only[List.cons.injEq,D.int.injEq,and_true]at h
   exact absurd h.2.symm he
  ·rcases k2 with⟨e,he,h'⟩|⟨I',s',h',hs',_,_,_,_,hl'⟩
   ·rw[h2]at h';unfold okD erD at h'
    simp only[List.cons.injEq,D.int.injEq,and_true]at h'
    exact absurd h'.2.symm he
   ·rw[h1]at h;rw[h2]at h'
    unfold okD at h h'
    simp only[List.cons.injEq,and_true]at h h'
    rw[← h]at hs;rw[← h']at hs'
    have a1:=(hasS_ins.1 hs).1
    have a2:=(hasS_ins.1 hs').1
    rw[a1]at a2
    simp only[Option.some.injEq]at a2
    subst a2
    omega
end Go.Proofs.YtobhhfbdelnhfaaGreatDoor
namespace Go.Proofs.YtobhhfbdelnhfaaGreatDoor
set_option linter.unusedSimpArgs false
set_option linter.unusedVariables false
open Go Go.AM
def E58 (l:List UInt8):Prop:=0<l.length∧l.getD (l.length-1) 0=58
theorem e58_drop {l:List UInt8} (h:E58 l) {k:Nat} (hk:k<l.length):E58 (l.drop k):=by
 refine⟨by simp;omega,?_⟩
 have h2:=h.2
 rw[List.getD_eq_getElem?_getD]at h2 ⊢
 rw[List.getElem?_drop,List.length_drop,show k+(l.length-k-1)=l.length-1 by omega]
 exact h2
theorem dgN_bad (s:ByteArray) (base:Int):∀(k i:Nat) (n:Int) (j:Nat),i≤j→j<i+k→dv (byt s j)<0→dgN s base k i n=none
 |0,i,n,j,h1,h2,_=>by omega
 |k+1,i,n,j,h1,h2,hd=>by
  unfold dgN
  by_cases e:dv (byt s i)<0∨base≤dv (byt s i)
  ·rw[if_pos e]
  ·rw[if_neg e]
   have:j≠i:=fun x=>by subst x;exact e (.inl hd)
   exact dgN_bad s base k (i+1) _ j (by omega) (by omega) hd
theorem byt_bs (l:List UInt8) (i:Nat):byt (bs l) i=((l.getD i 0).toNat:Int):=rfl
theorem q147_58 {l:List UInt8} (h:l = []∨E58 l) {base:Int} (hb:10≤base∧base≤16):q147 [.str (bs l), .int base]=some [.int 0, .bool false]:=by
 rw[spec147 hb]
 rcases h with rfl|h
 ·rfl
 ·rw[dgN_bad (bs l) base (bs l).size 0 0 (l.length-1) (by omega) (by rw[bs_size];have:=h.1;omega) (by rw[byt_bs,h.2];decide)]
  simp
theorem e58_or {l:List UInt8} (h:E58 l) (k:Nat):l.drop k = []∨E58 (l.drop k):=by
 by_cases hk:k<l.length
 ·exact .inr (e58_drop h hk)
 ·exact .inl (List.drop_of_length_le (by omega))
theorem num58 {l:List UInt8} (hz:l.length≤1000) (h:E58 l):numB l=false:=by
 have e:=(num_spec hz).2
 rw[q126_eq,F126_eq]at e
 have s1:qsubS (bs l) 1 (l.length:Int)=bs (l.drop 1):=sub_from l 1
 have s2:qsubS (bs l) 2 (l.length:Int)=bs (l.drop 2):=sub_from l 2
 have a1:q147 [.str (bs (l.drop 2)), .int 16]=some [.int 0, .bool false]:=q147_58 (e58_or h 2) (by omega)
 have a2:∀c,q147 [.str (qiteS c (bs (l.drop 1)) (bs l)), .int 10]=some [.int 0, .bool false]:=by
  intro c
  rw[qiteS_eq]
  cases c
  ·exact q147_58 (.inr h) (by omega)
  ·exact q147_58 (e58_or h 1) (by omega)
 simp only[len_bs,s1,s2,a1,a2,qsome_s,qnth_s,List.getD_cons_zero,List.getD_cons_succ,qbool_b,qnot_c,Bool.not_false,qiteB_c,cond_true,Bool.cond_true_left,Bool.true_or]at e
 simp only[Bool.cond_eq_ite]at e
 repeat' (split at e)
 all_goals first
  | (cases e;done)
  | (simp only[Option.some.injEq,List.cons.injEq,D.bool.injEq,and_true]at e
     exact e.2.symm)
theorem reg58 {l:List UInt8} (h:E58 l):regB l=false:=by
 have e:=(reg_spec l).1
 rw[q108_eq,F108_eq,len_bs]at e
 cases hr:regB l with
 |false=>rfl
 |true=>
  rw[hr]at e
  simp only[qiteB_c,qcmp_neq,qcmp_lss,qcmp_gtr]at e
  by_cases h2:l.length=2
  ·have hx:qidxS (bs l) 1=58:=by
    have:=idx_bs l 1
    have h3:=h.2
    rw[h2]at h3
    rw[show((1:Nat):Int)=1 from rfl]at this
    rw[this,h3];rfl
   rw[hx,h2]at e
   generalize qidxS (bs l) 0=y at e
   generalize qinbS (bs l) 0=b0 at e
   generalize qinbS (bs l) 1=b1 at e
   by_cases b:y=114<;>cases b0<;>cases b1<;>simp[b]at e
  ·have hn:decide ((l.length:Int)=2)=false:=decide_eq_false (by omega)
   rw[hn]at e
   simp at e
theorem okNT_all {s:ByteArray}:∀(k i:Nat),okNT s i k=true→∀j,i≤j→j<i+k→okN j (byt s j)=true
 |0,i,_,j,h1,h2=>by omega
 |k+1,i,h,j,h1,h2=>by
  simp only[okNT,Bool.and_eq_true]at h
  by_cases e:j=i
  ·subst e;exact h.1
  ·exact okNT_all k (i+1) h.2 j (by omega) (by omega)
theorem okN58 (i:Nat):okN i 58=false:=by
 unfold okN
 simp only[show¬(97:Int)≤58 by omega,show¬(65:Int)≤58 by omega,show¬(58:Int)=95 by omega,show¬(58:Int)=46 by omega,show¬(58:Int)<48 by omega,show(57:Int)<58 by omega,decide_true,decide_false]
 simp
theorem nm58 {l:List UInt8} (h:E58 l):nmB l=false:=by
 unfold nmB
 cases ho:okNT (bs l) 0 l.length with
 |false=>simp
 |true=>
  have:=okNT_all l.length 0 ho (l.length-1) (by omega) (by have:=h.1;omega)
  rw[byt_bs,h.2]at this
  rw[show(((58:UInt8).toNat:Nat):Int)=58 from rfl,okN58]at this
  cases this
theorem val58 {l:List UInt8} (hz:l.length≤1000) (h:E58 l):valB l=false:=by unfold valB;rw[num58 hz h,nm58 h];rfl
theorem pl58 {l:List UInt8} (h:E58 l):(plR l).2.2=3:=by
 unfold plR
 rw[if_pos (.inr (.inr (by rw[h.2];decide)))]
theorem comma_at:∀(l:List UInt8) (k:Nat),comma l=some k→l.getD (k+1) 0=32
 | [],k,h=>by simp[comma]at h
 | [a],k,h=>by simp[comma]at h
 |a::b::l,k,h=>by
  unfold comma at h
  split at h
  ·rename_i e;cases h;simpa using e.2
  ·obtain⟨j,hj,rfl⟩:=Option.map_eq_some_iff.1 h
   have:=comma_at (b::l) j hj
   rw[List.getD_cons_succ];exact this
theorem parts58:∀(n:Nat) (l:List UInt8),E58 l→∃x,(partsF n l).getLast?=some x∧E58 x
 |0,l,h=>⟨l,rfl,h⟩
 |n+1,l,h=>by
  unfold partsF
  cases hc:comma l with
  |none=>exact⟨l,rfl,h⟩
  |some k=>
   have hl:=comma_lt l k hc
   have ha:=comma_at l k hc
   have hk:k+2<l.length:=by
    apply Classical.byContradiction
    intro hx
    have h2:=h.2
    rw[show l.length-1=k+1 by omega,ha]at h2
    revert h2;decide
   obtain⟨x,hx,hx2⟩:=parts58 n (l.drop (k+2)) (e58_drop h hk)
   refine⟨x,?_,hx2⟩
   rw[List.getLast?_cons,hx];rfl
theorem blank_at:∀(l:List UInt8),blank l<l.length→l.getD (blank l) 0=32
 | [],h=>by simp at h
 |c::l,h=>by
  unfold blank at h ⊢
  by_cases e:c=32
  ·rw[if_pos e];simpa using e
  ·rw[if_neg e]at h ⊢
   rw[List.getD_cons_succ]
   exact blank_at l (by simp at h;omega)
theorem items58 {l:List UInt8} (hz:l.length≤1000) (h:E58 l):(partsL l).all valB=false∧(partsL l).all numB=false:=by
 obtain⟨x,hx,hx2⟩:=parts58 l.length l h
 have hm:x∈partsL l:=List.mem_of_getLast? hx
 have hs:=parts_short hz x hm
 constructor
 ·rw[Bool.eq_false_iff];intro e
  have:=List.all_eq_true.1 e x hm
  rw[val58 hs hx2]at this;cases this
 ·rw[Bool.eq_false_iff];intro e
  have:=List.all_eq_true.1 e x hm
  rw[num58 hs hx2]at this;cases this
theorem op_last {ops:List (List UInt8)} {x:List UInt8} (h:ops.getLast?=some x) {k:Nat} (hk:ops.length=k+1):op ops k=x:=by
 rw[List.getLast?_eq_getElem?,hk]at h
 unfold op;rw[List.getD_eq_getElem?_getD]
 simp at h;rw[h];rfl
theorem OTn58 (L:Lab) {l:List UInt8} (hz:l.length≤1000) (h:E58 l) (a:Int):OTn L (cls (word l)) (wide l) (opsL l) a=erD 3:=by
 by_cases sp:blank l<l.length
 ·have hb:blank l+1<l.length:=by
   apply Classical.byContradiction
   intro hx
   have h2:=h.2
   rw[show l.length-1=blank l by omega,blank_at l sp]at h2
   revert h2;decide
  have ho:opsL l=partsL (l.drop (blank l+1)):=by unfold opsL;rw[if_pos sp]
  obtain⟨x,hx,hx2⟩:=parts58 (l.drop (blank l+1)).length _ (e58_drop h hb)
  have hx':(opsL l).getLast?=some x:=by rw[ho];exact hx
  have hm:x∈opsL l:=List.mem_of_getLast? hx'
  have hs:=opsL_short hz x hm
  have hv:=val58 hs hx2
  have hr:=reg58 hx2
  have hp:=pl58 hx2
  have h0:(opsL l).length≠0:=fun e=>by rw[List.length_eq_zero_iff.1 e]at hm;cases hm
  generalize opsL l=ops at *
  have l1:ops.length=1→op ops 0=x:=fun e=>op_last hx' e
  have l2:ops.length=2→op ops 1=x:=fun e=>op_last hx' e
  generalize wide l=w
  cases cls (word l)with
  |bare k=>simp only[OTn];rw[decide_eq_false h0];simp
  |one o cc=>
   simp only[OTn]
   by_cases e:ops.length=1
   ·rw[l1 e,hr];simp
   ·rw[decide_eq_false e];simp
  |mem o wd st=>
   have hk:meOk ops st=false:=by
    unfold meOk meR meP
    by_cases e:ops.length=2
    ·cases st with
     |true=>simp only[cond_true];rw[l2 e,hr];simp
     |false=>simp only[cond_false];rw[l2 e,hp];simp
    ·rw[decide_eq_false e];simp
   simp only[OTn,hk];simp
  |call=>
   simp only[OTn]
   by_cases e:ops.length=1
   ·rw[l1 e,hv];simp
   ·rw[decide_eq_false e];simp
  |jumpt=>
   simp only[OTn]
   by_cases e:ops.length=2
   ·rw[l2 e,hv];simp
   ·rw[decide_eq_false e];simp
  |ar k=>
   have hk:arOkN ops w=false:=by
    unfold arOkN
    by_cases e:ops.length=2
    ·rw[l2 e,hr,hv];simp
    ·rw[decide_eq_false e];simp
   simp only[OTn,hk];rfl
  |jmp cc=>
   simp only[OTn]
   by_cases e:ops.length=1
   ·rw[l1 e,hv];simp
   ·rw[decide_eq_false e];simp
  |unk=>rfl
 ·have ho:opsL l = []:=by unfold opsL;rw[if_neg sp]
  have hb:=blank_le l
  have hh:headL l=l:=by unfold headL;rw[show blank l=l.length by omega,List.take_length]
  have hw:wide l=false:=by
   unfold wide sfx
   rw[hh]
   cases hd:(decide ([46,119].length≤l.length)&&decide (l.drop (l.length - [46,119].length) = [46,119]))with
   |false=>rfl
   |true=>
    exfalso
    simp only[Bool.and_eq_true,decide_eq_true_eq,List.length_cons,List.length_nil,Nat.zero_add,Nat.reduceAdd]at hd
    have h3:=(e58_drop h (k:=l.length-2) (by have:=h.1;omega)).2
    rw[hd.2]at h3
    revert h3;decide
  have hword:word l=l:=by unfold word;rw[hw,hh];rfl
  rw[ho,hw,hword]
  cases hc:cls l with
  |bare k=>
   exfalso
   obtain⟨ht,hg, -⟩:=tst_cls l
   rw[hc]at ht hg
   simp only[tst,expd,Prod.mk.injEq,List.cons.injEq]at ht
   simp only[clsG,decide_eq_true_eq]at hg
   rcases ix_range s1L l with e|⟨j,hj,hx,e⟩
   ·rw[ht.1.1]at e;omega
   ·have h3:s1L.length=3:=rfl
    have h2:=h.2
    rcases(by omega:j=0∨j=1∨j=2)with rfl|rfl|rfl<;>simp[s1L]at hx<;>subst hx<;>revert h2<;>decide
  |one o cc=>simp[OTn]
  |mem o wd st=>simp[OTn,meOk]
  |call=>simp[OTn]
  |jumpt=>simp[OTn]
  |ar k=>simp[OTn,arOkN]
  |jmp cc=>simp[OTn]
  |unk=>rfl
end Go.Proofs.YtobhhfbdelnhfaaGreatDoor
namespace Go.Proofs.YtobhhfbdelnhfaaGreatDoor
noncomputable section
set_option linter.unusedSimpArgs false
set_option linter.unusedVariables false
open Go Go.AM
def pW (l:List UInt8):Bool:=List.isPrefixOf [46,119,111,114,100,32] l
def pB (l:List UInt8):Bool:=List.isPrefixOf [46,98,121,116,101,32] l
def insO (L:Lab) (l:List UInt8) (a:Int):List D:=OTn L (cls (word l)) (wide l) (opsL l) a
def lnE (l:List UInt8) (a:Int):Int:=
 if l = []then 0 else bif pW l then(bif (partsL (l.drop 6)).all valB then 0 else 3)else bif pB l then(bif (partsL (l.drop 6)).all numB then(bif (partsL (l.drop 6)).any farB then 7 else 0)else 3)
 else qint ((insO [] l a).getD 1 .other)
def lnB (L:Lab) (l:List UInt8) (a:Int):List Int:=
 if l = []then[]else bif pW l then wdL L (partsL (l.drop 6))else bif pB l then byL (partsL (l.drop 6))else enL (insO L l a)
def lnU (us:List (List UInt8)) (l:List UInt8):List (List UInt8):=
 if l = []then us else bif pW l then(partsL (l.drop 6)).foldl usU us else bif pB l then us else usN us (cls (word l)) (opsL l)
theorem usU_app (us:List (List UInt8)) (x:List UInt8):usU us x=us++usU [] x:=by unfold usU;cases nmd x<;>simp
theorem fold_app:∀(xs us:List (List UInt8)),xs.foldl usU us=us++xs.foldl usU []
 | [],us=>by simp
 |x::r,us=>by
  rw[List.foldl_cons,List.foldl_cons,fold_app r (usU us x),fold_app r (usU [] x),usU_app us x,List.append_assoc]
theorem lnU_app (us:List (List UInt8)) (l:List UInt8):lnU us l=us++lnU [] l:=by
 unfold lnU
 by_cases h:l = []
 ·rw[if_pos h,if_pos h];simp
 ·rw[if_neg h,if_neg h]
  cases pW l with
  |true=>exact fold_app _ _
  |false=>
   cases pB l with
   |true=>simp
   |false=>
    simp only[cond_false]
    cases cls (word l)<;>simp only[usN]
    case call=>exact usU_app _ _
    case jumpt=>exact usU_app _ _
    case jmp=>exact usU_app _ _
    case ar=>cases regB (op (opsL l) 1)<;>first|exact usU_app _ _|simp
    all_goals simp
theorem qint_er (e:Int):qint ((erD e).getD 1 .other)=e:=by unfold erD;simp only[List.getD_cons_zero,List.getD_cons_succ,qint_i]
theorem qint_ok (a i o f w c x y:Int):qint ((okD a i o f w c x y).getD 1 .other)=0:=by unfold okD;simp only[List.getD_cons_zero,List.getD_cons_succ,qint_i]
theorem insO_err (L:Lab) (l:List UInt8) (a:Int):qint ((insO L l a).getD 1 .other)=qint ((insO [] l a).getD 1 .other):=by
 unfold insO
 rcases OTn_two L [] (cls (word l)) (wide l) (opsL l) a with⟨e,_,h1,h2⟩|⟨n,n',o,f,wd,cc,x,y,h1,h2⟩
 ·rw[h1,h2]
 ·rw[h1,h2,qint_ok,qint_ok]
theorem lnE58 {l:List UInt8} (hz:l.length≤1000) (h:E58 l) (a:Int):lnE l a=3:=by
 have hl:=h.1
 unfold lnE
 rw[if_neg (fun e=>by rw[e]at hl;simp at hl)]
 have hp:∀p:List UInt8,p.length=6→p.getD 5 0=32→List.isPrefixOf p l=true→E58 (l.drop 6):=by
  intro p h6 hq hpre
  obtain⟨t,rfl⟩:=List.isPrefixOf_iff_prefix.1 hpre
  cases t with
  |nil=>
   exfalso
   have h2:=h.2
   simp only[List.append_nil,h6,Nat.reduceSub]at h2
   rw[hq]at h2;revert h2;decide
  |cons c t=>exact e58_drop h (by simp;omega)
 cases hW:pW l with
 |true=>
  have:=items58 (by simp;omega) (hp _ rfl rfl hW)
  rw[this.1];rfl
 |false=>
  cases hB:pB l with
  |true=>
   have:=items58 (by simp;omega) (hp _ rfl rfl hB)
   rw[this.2];rfl
  |false=>
   simp only[cond_false]
   unfold insO
   rw[OTn58 [] hz h,qint_er]
theorem lnB_len {L L':Lab} (hL:LabOk L) (hL':LabOk L') {l:List UInt8} (hz:l.length≤1000) (a:Int):(lnB L l a).length=(lnB L' l a).length:=by
 unfold lnB
 by_cases h:l = []
 ·rw[if_pos h,if_pos h]
 ·rw[if_neg h,if_neg h]
  cases pW l with
  |true=>simp only[cond_true,wdL_len]
  |false=>
   cases pB l with
   |true=>rfl
   |false=>exact enL_two hL.2 hL'.2 hz a
theorem mS (l:List UInt8):E58 l↔sfx [58] l=true:=by
 unfold sfx E58
 simp only[List.length_cons,List.length_nil,Nat.zero_add,Bool.and_eq_true,decide_eq_true_eq]
 constructor
 ·rintro⟨h1,h2⟩
  refine⟨h1,?_⟩
  rw[List.drop_eq_getElem_cons (by omega),List.drop_of_length_le (by omega)]
  rw[List.getD_eq_getElem?_getD]at h2
  simp[show l.length-1<l.length by omega]at h2
  rw[h2]
 ·rintro⟨h1,h2⟩
  refine⟨h1,?_⟩
  rw[List.drop_eq_getElem_cons (by omega)]at h2
  simp only[List.cons.injEq]at h2
  rw[List.getD_eq_getElem?_getD]
  simp[show l.length-1<l.length by omega,h2.1]
def nmOf (l:List UInt8):List UInt8:=l.take (l.length-1)
theorem line58 {L:Lab} (ad:Int) (kn:Bool) {l:List UInt8} (hz:l.length≤1000) (h:E58 l) (us:D) (out:D):
 q76 [.int ad, .bool kn, .str (bs l),us,mD L,out]=some (bif nmB (nmOf l)then(bif (lk L (nmOf l)).isSome && !kn then[.int 8,us,out,mD L]else[.int 0,us,out,qmput 9 (mD L) (.str (bs (nmOf l))) (.int (qbin .add .u32 ad (qwrap .u32 (qlen out))))])else[.int 3,us,out,mD L]):=by
 have hl:=h.1
 have h0:decide (l = [])=false:=decide_eq_false (fun e=>by rw[e]at hl;simp at hl)
 have e62:q62 [.str (bs l), .str (bs [58])]=some [.str (bs (bif sfx [58] l then l.take (l.length - [58].length)else l)), .bool (sfx [58] l)]:=suf62 l [58] (by omega)
 rw[(mS l).1 h]at e62
 rw[q76_eq,F76_eq]
 simp only[mkB,show ByteArray.mk #[]=bs []from rfl,eq_bs,h0,cond_false,e62,cond_true,qsome_s,qnth_s,List.getD_cons_zero,List.getD_cons_succ,qbool_b,qstr_s,List.length_cons,List.length_nil,Nat.zero_add]
 have hn:l.take (l.length-1)=nmOf l:=rfl
 rw[hn,q122_eq,F122_eq,spec146,mhas_lk]
 simp only[qsome_s,qnth_s,List.getD_cons_zero,List.getD_cons_succ,qbool_b,qnot_c,qiteB_c,cond_true]
 cases nmB (nmOf l)with
 |false=>simp only[Bool.not_false,cond_true,cond_false,qsome_s,qnth_s,List.getD_cons_zero,List.getD_cons_succ,qint_i]
 |true=>
  cases (lk L (nmOf l)).isSome<;>cases kn<;>simp[qsome_s,qnth_s,qint_i]
theorem lineP {L:Lab} (hL:LabOk L) (ad:Int) (kn:Bool) {l:List UInt8} (hz:l.length≤1000) (h:¬E58 l) {us:List (List UInt8)} (hu:us.length≤800000) {out:List Int} (ho:out.length≤800000) {a:Int} (ha:a=qbin .add .u32 ad (qwrap .u32 (out.length:Int))):
 ∃us',q76 [.int ad, .bool kn, .str (bs l),nameL us,mD L,byD out]=some (if lnE l a=0 then[.int 0,nameL (lnU us l),byD (out++lnB L l a),mD L]else[.int (lnE l a),nameL us',byD out,mD L]):=by
 have e62:q62 [.str (bs l), .str (bs [58])]=some [.str (bs (bif sfx [58] l then l.take (l.length - [58].length)else l)), .bool (sfx [58] l)]:=suf62 l [58] (by omega)
 rw[show sfx [58] l=false by rw[Bool.eq_false_iff];exact fun e=>h ((mS l).2 e)]at e62
 rw[q76_eq,F76_eq]
 simp only[mkB,show ByteArray.mk #[]=bs []from rfl,eq_bs,e62,cond_true,cond_false,qsome_s,qnth_s,List.getD_cons_zero,List.getD_cons_succ,qbool_b,qstr_s,pre59,byD_len,List.length_cons,List.length_nil,Nat.zero_add,Nat.reduceAdd]
 unfold lnE lnB lnU
 by_cases h0:l = []
 ·exact⟨us,by simp[h0]⟩
 ·rw[decide_eq_false h0,if_neg h0,if_neg h0,if_neg h0]
  have hW:List.isPrefixOf [46,119,111,114,100,32] l=pW l:=rfl
  have hB:List.isPrefixOf [46,98,121,116,101,32] l=pB l:=rfl
  rw[hW,hB]
  have hd:(l.drop 6).length≤1000:=by simp;omega
  cases pW l with
  |true=>
   obtain⟨us',e⟩:=spec123 hL out (by omega) ad kn hd hu
   simp only[cond_true,cond_false,e]
   cases (partsL (l.drop 6)).all valB with
   |true=>exact⟨us',by simp[qsome_s,qnth_s,qint_i]⟩
   |false=>exact⟨us',by simp[qsome_s,qnth_s,qint_i]⟩
  |false=>
   cases pB l with
   |true=>
    have e:=spec124 (mD L) out (by omega) ad kn hd (nameL us)
    simp only[cond_true,cond_false,e]
    refine⟨us,?_⟩
    cases (partsL (l.drop 6)).all numB with
    |true=>
     cases (partsL (l.drop 6)).any farB with
     |true=>simp[qsome_s,qnth_s,qint_i]
     |false=>simp[qsome_s,qnth_s,qint_i]
    |false=>simp[qsome_s,qnth_s,qint_i]
   |false=>
    simp only[cond_false]
    rw[← ha]
    obtain⟨us',e,hU⟩:=text37a L (byD out) ad kn (us:=us) (by omega) l hz a
    have hx:=insO_err L l a
    unfold insO at hx ⊢
    refine⟨us',?_⟩
    rcases OTn_enc hL.2 hz a with⟨er,he,hO⟩|⟨I,s,hO,hs,hi,_,h17,_,hl⟩
    ·rw[hO]at hx e
     rw[qint_er]at hx
     rw[← hx,if_neg he,e]
     unfold erD
     simp only[List.cons_append,List.nil_append,qsome_s,qnth_s,List.getD_cons_zero,List.getD_cons_succ,qint_i,qcmp_neq,decide_eq_false he,Bool.not_false,cond_true]
    ·have hlen:(enL (OTn L (cls (word l)) (wide l) (opsL l) a)).length≤6:=by have:=sLen_pos s;omega
     have hm:qmem ((out++enL (OTn L (cls (word l)) (wide l) (opsL l) a)).length:Int) 1=true:=memB (by rw[List.length_append];omega) (by omega)
     have hU':=hU (by rw[hO];rfl)
     subst hU'
     rw[hO]at hx
     rw[show qint ([I,D.int 0].getD 1 .other)=0 by simp only[List.getD_cons_zero,List.getD_cons_succ,qint_i]]at hx
     rw[← hx,if_pos rfl,e]
     generalize enL (OTn L (cls (word l)) (wide l) (opsL l) a)=B at *
     rw[hO]
     simp only[List.cons_append,List.nil_append,qsome_s,qnth_s,List.getD_cons_zero,List.getD_cons_succ,qint_i,qcmp_neq,decide_true,Bool.not_true,cond_true,cond_false,h17,byD_app,byD_len,hm]
end
end Go.Proofs.YtobhhfbdelnhfaaGreatDoor
namespace Go.Proofs.YtobhhfbdelnhfaaGreatDoor
set_option linter.unusedSimpArgs false
set_option linter.unusedVariables false
open Go Go.AM
noncomputable def labB (l:List UInt8):Bool:=sfx [58] l&&nmB (nmOf l)
def hasAll (L:Lab) (us:List (List UInt8)):Bool:=us.all fun s=>(lk L s).isSome
end Go.Proofs.YtobhhfbdelnhfaaGreatDoor
namespace Go.Proofs.YtobhhfbdelnhfaaGreatDoor
noncomputable section
set_option linter.unusedSimpArgs false
set_option linter.unusedVariables false
open Go Go.AM
theorem lab_e58 {l:List UInt8} (h:labB l=true):E58 l∧nmB (nmOf l)=true:=by
 unfold labB at h
 simp only[Bool.and_eq_true]at h
 exact⟨(mS l).2 h.1,h.2⟩
def adr (ad:Int) (n:Nat):Int:=qbin .add .u32 ad (qwrap .u32 (n:Int))
theorem adr_rng (ad:Int) (n:Nat):0≤adr ad n∧adr ad n<4294967296:=by unfold adr;rw[qbin_eq];simp only[rbin,mU32];omega
def p1 (ad:Int):Lab→Nat→List (List UInt8)→Except Int (Lab×Nat)
 |L,n,[]=> .ok (L,n)
 |L,n,l::r=>
  bif labB l then(bif (lk L (nmOf l)).isSome then .error 8 else p1 ad (L ++ [(nmOf l,adr ad n)]) n r)
  else if lnE l (adr ad n)=0 then p1 ad L (n+(lnB [] l (adr ad n)).length) r else .error (lnE l (adr ad n))
def p2 (ad:Int) (L:Lab):Nat→List (List UInt8)→List Int
 |_,[]=>[]
 |n,l::r=>bif labB l then p2 ad L n r else lnB L l (adr ad n)++p2 ad L (n+(lnB [] l (adr ad n)).length) r
def nms:List (List UInt8)→List (List UInt8)
 | []=>[]
 |l::r=>bif labB l then nms r else lnU [] l++nms r
def wgt:List (List UInt8)→Nat
 | []=>0
 |l::r=>10*(l.length+1)+wgt r
theorem lnB_le {L:Lab} (hL:LabOk L) {l:List UInt8} (hz:l.length≤1000) (a:Int) (h:lnE l a=0):(lnB L l a).length≤10*(l.length+1):=by
 have hp:=parts_len (l.drop 6)
 rw[List.length_drop]at hp
 unfold lnE at h
 unfold lnB
 by_cases h0:l = []
 ·simp[h0]
 ·rw[if_neg h0]at h ⊢
  cases hW:pW l with
  |true=>simp only[cond_true,wdL_len];omega
  |false=>
   rw[hW]at h
   cases hB:pB l with
   |true=>simp only[cond_true,cond_false,byL,List.length_map];omega
   |false=>
    rw[hB]at h
    simp only[cond_false]at h ⊢
    rw[← insO_err L]at h
    unfold insO at h ⊢
    rcases OTn_enc hL.2 hz a with⟨er,he,hO⟩|⟨I,s,hO,hs,hi,_,_,_,hl⟩
    ·rw[hO,qint_er]at h;exact absurd h he
    ·have:=sLen_pos s;omega
theorem fold_len:∀(xs us:List (List UInt8)),(xs.foldl usU us).length≤us.length+xs.length
 | [],us=>by simp
 |x::r,us=>by
  rw[List.foldl_cons]
  have:=fold_len r (usU us x)
  have:=usU_len us x
  simp;omega
theorem lnU_le (l:List UInt8):(lnU [] l).length≤10*(l.length+1):=by
 have hp:=parts_len (l.drop 6)
 rw[List.length_drop]at hp
 have hu:∀x,(usU [] x).length≤1:=fun x=>by have:=usU_len [] x;simpa using this
 unfold lnU
 by_cases h0:l = []
 ·simp[h0]
 ·rw[if_neg h0]
  cases pW l with
  |true=>simp only[cond_true];have:=fold_len (partsL (l.drop 6)) [];simp at this;omega
  |false=>
   cases pB l with
   |true=>simp
   |false=>
    simp only[cond_false]
    cases cls (word l)<;>simp only[usN]
    case call=>have:=hu (op (opsL l) 0);omega
    case jumpt=>have:=hu (op (opsL l) 1);omega
    case jmp=>have:=hu (op (opsL l) 0);omega
    case ar=>cases regB (op (opsL l) 1)<;>simp only[cond_true,cond_false]<;>first|(have:=hu (op (opsL l) 1);omega)|simp
    all_goals simp
theorem lab_snoc {L:Lab} (hL:LabOk L) (hl:L.length<1000000) (s:List UInt8) {a:Int} (ha:0≤a∧a<4294967296):LabOk (L ++ [(s,a)]):=by
 refine⟨by simp;omega,?_⟩
 intro p hp
 rcases List.mem_append.1 hp with h|h
 ·exact hL.2 p h
 ·simp at h;subst h;exact ha
theorem lk_snoc (L:Lab) (s:List UInt8) (a:Int) (h:lk L s=none):lk (L ++ [(s,a)]) s=some a:=by
 induction L with
 |nil=>simp[lk]
 |cons p r ih=>
  unfold lk at h
  rw[List.cons_append]
  unfold lk
  by_cases e:p.1=s
  ·rw[if_pos e]at h;cases h
  ·rw[if_neg e]at h ⊢;exact ih h
theorem lk_more (L:Lab) (s t:List UInt8) (a v:Int) (h:lk L t=some v):lk (L ++ [(s,a)]) t=some v:=by
 induction L with
 |nil=>cases h
 |cons p r ih=>
  unfold lk at h
  rw[List.cons_append]
  unfold lk
  by_cases e:p.1=t
  ·rw[if_pos e]at h ⊢;exact h
  ·rw[if_neg e]at h ⊢;exact ih h
theorem p1_keep (ad:Int):∀(ls:List (List UInt8)) (L:Lab) (n:Nat) (L':Lab) (n':Nat),p1 ad L n ls = .ok (L',n')→∀t v,lk L t=some v→lk L' t=some v
 | [],L,n,L',n',h,t,v,ht=>by simp only[p1,Except.ok.injEq,Prod.mk.injEq]at h;rw[← h.1];exact ht
 |l::r,L,n,L',n',h,t,v,ht=>by
  rw[p1]at h
  cases hl:labB l with
  |true=>
   rw[hl]at h
   cases hk:(lk L (nmOf l)).isSome with
   |true=>rw[hk]at h;simp at h
   |false=>
    rw[hk]at h
    simp only[cond_true,cond_false]at h
    exact p1_keep ad r _ _ _ _ h t v (lk_more L _ t _ v ht)
  |false=>
   rw[hl]at h
   simp only[cond_false]at h
   by_cases he:lnE l (adr ad n)=0
   ·rw[if_pos he]at h
    exact p1_keep ad r _ _ _ _ h t v ht
   ·rw[if_neg he]at h;cases h
theorem p1_ok (ad:Int):∀(ls:List (List UInt8)) (L:Lab) (n:Nat) (L':Lab) (n':Nat),LabOk L→L.length+ls.length≤900000→p1 ad L n ls = .ok (L',n')→LabOk L'
 | [],L,n,L',n',hL,_,h=>by simp only[p1,Except.ok.injEq,Prod.mk.injEq]at h;rw[← h.1];exact hL
 |l::r,L,n,L',n',hL,hb,h=>by
  rw[p1]at h
  simp only[List.length_cons]at hb
  cases hl:labB l with
  |true=>
   rw[hl]at h
   cases hk:(lk L (nmOf l)).isSome with
   |true=>rw[hk]at h;simp at h
   |false=>
    rw[hk]at h
    simp only[cond_true,cond_false]at h
    exact p1_ok ad r _ _ _ _ (lab_snoc hL (by omega) _ (adr_rng _ _)) (by simp;omega) h
  |false=>
   rw[hl]at h
   simp only[cond_false]at h
   by_cases he:lnE l (adr ad n)=0
   ·rw[if_pos he]at h
    exact p1_ok ad r _ _ _ _ hL (by omega) h
   ·rw[if_neg he]at h;cases h
theorem pass1P (u o:D) (ad:Int) {lines:List (List UInt8)} (hs:Short lines) (hn:lines.length≤2000):∀(k i:Nat) (L:Lab) (us:List (List UInt8)) (out:List Int),i+k=lines.length→LabOk L→L.length+k≤900000→us.length+wgt (lines.drop i)≤700000→out.length+wgt (lines.drop i)≤700000→
 match p1 ad L out.length (lines.drop i)with
 | .error e=>e≠0∧∃x y z,loW (st41_3 [nameL lines, .int (lines.length:Int),u,o, .int ad, .bool false]) [.int i,nameL us,byD out,mD L]=some [.int 1, .int e,x,y,z]
 | .ok (L',n')=>∃out',out'.length=n'∧loW (st41_3 [nameL lines, .int (lines.length:Int),u,o, .int ad, .bool false]) [.int i,nameL us,byD out,mD L]=some [.int 0,nameL (us++nms (lines.drop i)),byD out',mD L']:=by
 intro k
 induction k with
 |zero=>
  intro i L us out hi hL hl hu ho
  rw[List.drop_of_length_le (by omega)]
  simp only[p1,nms,List.append_nil]
  refine⟨out,rfl,?_⟩
  rw[loW_nxt,st41_3_eq,ltI,decide_eq_false (by omega)]
  simp only[cond_false,nxtT]
 |succ k ih=>
  intro i L us out hi hL hl hu ho
  have hlt:i<lines.length:=by omega
  have hx:=op_short hs hlt
  have g1:qinb (nameL lines) (i:Int)=true:=nameL_inb hlt
  have g2:qstr (qget (nameL lines) (i:Int))=bs (op lines i):=by rw[nameL_get hlt,qstr_s];rfl
  have hadd:qbin .add .i64 (i:Int) 1=((i+1:Nat):Int):=add_nat (by omega)
  rw[op_drop hlt]at hu ho ⊢
  simp only[wgt]at hu ho
  rw[loW_nxt,st41_3_eq,ltI,decide_eq_true hlt,g1,g2]
  simp only[cond_true,hadd]
  rw[p1,nms]
  by_cases h58:E58 (op lines i)
  ·have e:=line58 (L:=L) ad false hx h58 (nameL us) (byD out)
   have hlb:labB (op lines i)=nmB (nmOf (op lines i)):=by unfold labB;rw[(mS _).1 h58];rfl
   rw[hlb,e]
   cases hnm:nmB (nmOf (op lines i))with
   |false=>
    simp only[cond_false]
    rw[lnE58 hx h58,if_neg (by omega)]
    simp only[qsome_s,qnth_s,List.getD_cons_zero,List.getD_cons_succ,qint_i,qcmp_neq,cond_true,nxtT]
    exact⟨by omega,_,_,_,rfl⟩
   |true=>
    simp only[cond_true,Bool.not_false,Bool.and_true]
    cases hk:(lk L (nmOf (op lines i))).isSome with
    |true=>
     simp only[cond_true,qsome_s,qnth_s,List.getD_cons_zero,List.getD_cons_succ,qint_i,qcmp_neq,nxtT]
     exact⟨by omega,_,_,_,rfl⟩
    |false=>
     have hk':lk L (nmOf (op lines i))=none:=by cases hq:lk L (nmOf (op lines i))with|none=>rfl|some v=>rw[hq]at hk;cases hk
     have hput:=put_new (adr ad out.length) hk'
     simp only[cond_true,cond_false,qsome_s,qnth_s,List.getD_cons_zero,List.getD_cons_succ,qint_i,qcmp_neq,decide_true,Bool.not_true,byD_len,nxtT]
     rw[show qbin .add .u32 ad (qwrap .u32 (out.length:Int))=adr ad out.length from rfl,hput]
     exact ih (i+1) _ us out (by omega) (lab_snoc hL (by omega) _ (adr_rng _ _)) (by simp;omega) (by omega) (by omega)
  ·have hlb:labB (op lines i)=false:=by
    unfold labB;rw[show sfx [58] (op lines i)=false by rw[Bool.eq_false_iff];exact fun x=>h58 ((mS _).2 x)];rfl
   obtain⟨us',e⟩:=lineP hL ad false hx h58 (us:=us) (by omega) (out:=out) (by omega) (a:=adr ad out.length) rfl
   rw[hlb,e]
   simp only[cond_false]
   by_cases he:lnE (op lines i) (adr ad out.length)=0
   ·rw[if_pos he,if_pos he]
    have hle:=lnB_le hL hx _ he
    have hlu:=lnU_le (op lines i)
    have hll:=lnB_len (L:=[]) (L':=L) ⟨by simp,fun p hp=>by cases hp⟩ hL hx (adr ad out.length)
    simp only[cond_true,qsome_s,qnth_s,List.getD_cons_zero,List.getD_cons_succ,qint_i,qcmp_neq,decide_true,Bool.not_true,cond_false,nxtT]
    have:=ih (i+1) L (lnU us (op lines i)) (out++lnB L (op lines i) (adr ad out.length)) (by omega) hL (by omega) (by rw[lnU_app,List.length_append];omega) (by rw[List.length_append];omega)
    rw[List.length_append, ← hll,lnU_app us,List.append_assoc, ← lnU_app us]at this
    exact this
   ·rw[if_neg he,if_neg he]
    simp only[cond_true,qsome_s,qnth_s,List.getD_cons_zero,List.getD_cons_succ,qint_i,qcmp_neq,decide_eq_false he,Bool.not_false,nxtT]
    exact⟨he,_,_,_,rfl⟩
end
end Go.Proofs.YtobhhfbdelnhfaaGreatDoor
namespace Go.Proofs.YtobhhfbdelnhfaaGreatDoor
set_option linter.unusedSimpArgs false
set_option linter.unusedVariables false
open Go Go.AM
theorem lab0:LabOk []:=⟨by simp,fun p hp=>by cases hp⟩
theorem p1_lab {ad:Int} {L:Lab} {n:Nat} {l:List UInt8} {r:List (List UInt8)} {L':Lab} {n':Nat} (h:p1 ad L n (l::r) = .ok (L',n')) (hl:labB l=true):lk L (nmOf l)=none∧p1 ad (L ++ [(nmOf l,adr ad n)]) n r = .ok (L',n'):=by
 rw[p1,hl]at h
 cases hk:lk L (nmOf l)with
 |some v=>rw[hk]at h;simp at h
 |none=>rw[hk]at h;exact⟨rfl,h⟩
theorem p1_line {ad:Int} {L:Lab} {n:Nat} {l:List UInt8} {r:List (List UInt8)} {L':Lab} {n':Nat} (h:p1 ad L n (l::r) = .ok (L',n')) (hl:labB l=false):lnE l (adr ad n)=0∧p1 ad L (n+(lnB [] l (adr ad n)).length) r = .ok (L',n'):=by
 rw[p1,hl]at h
 simp only[cond_false]at h
 by_cases he:lnE l (adr ad n)=0
 ·rw[if_pos he]at h;exact⟨he,h⟩
 ·rw[if_neg he]at h;cases h
theorem pass2P (u o:D) (ad:Int) {lines:List (List UInt8)} (hs:Short lines) (hn:lines.length≤2000) {L':Lab} {n':Nat} (hL':LabOk L'):∀(k i:Nat) (L:Lab) (us:List (List UInt8)) (out:List Int),i+k=lines.length→us.length+wgt (lines.drop i)≤700000→out.length+wgt (lines.drop i)≤700000→
 p1 ad L out.length (lines.drop i) = .ok (L',n')→
 loW (st41_3 [nameL lines, .int (lines.length:Int),u,o, .int ad, .bool true]) [.int i,nameL us,byD out,mD L']=some [.int 0,nameL (us++nms (lines.drop i)),byD (out++p2 ad L' out.length (lines.drop i)),mD L']:=by
 intro k
 induction k with
 |zero=>
  intro i L us out hi hu ho hp
  rw[List.drop_of_length_le (by omega)]
  simp only[p2,nms,List.append_nil]
  rw[loW_nxt,st41_3_eq,ltI,decide_eq_false (by omega)]
  simp only[cond_false,nxtT]
 |succ k ih=>
  intro i L us out hi hu ho hp
  have hlt:i<lines.length:=by omega
  have hx:=op_short hs hlt
  have g1:qinb (nameL lines) (i:Int)=true:=nameL_inb hlt
  have g2:qstr (qget (nameL lines) (i:Int))=bs (op lines i):=by rw[nameL_get hlt,qstr_s];rfl
  have hadd:qbin .add .i64 (i:Int) 1=((i+1:Nat):Int):=add_nat (by omega)
  rw[op_drop hlt]at hu ho hp ⊢
  simp only[wgt]at hu ho
  rw[loW_nxt,st41_3_eq,ltI,decide_eq_true hlt,g1,g2]
  simp only[cond_true,hadd]
  rw[p2,nms]
  cases hl:labB (op lines i)with
  |true=>
   obtain⟨h58,hnm⟩:=lab_e58 hl
   obtain⟨hk,hp⟩:=p1_lab hp hl
   have hk':=p1_keep ad _ _ _ _ _ hp _ _ (lk_snoc L _ (adr ad out.length) hk)
   have e:=line58 (L:=L') ad true hx h58 (nameL us) (byD out)
   have hput:=put_same hk'
   rw[e,hnm]
   simp only[cond_true,cond_false,Bool.not_true,Bool.and_false,qsome_s,qnth_s,List.getD_cons_zero,List.getD_cons_succ,qint_i,qcmp_neq,decide_true,byD_len,nxtT]
   rw[show qbin .add .u32 ad (qwrap .u32 (out.length:Int))=adr ad out.length from rfl,hput]
   exact ih (i+1) _ us out (by omega) (by omega) (by omega) hp
  |false=>
   obtain⟨he,hp⟩:=p1_line hp hl
   by_cases h58:E58 (op lines i)
   ·rw[lnE58 hx h58]at he;omega
   ·obtain⟨us',e⟩:=lineP hL' ad true hx h58 (us:=us) (by omega) (out:=out) (by omega) (a:=adr ad out.length) rfl
    have hle:=lnB_le hL' hx _ he
    have hlu:=lnU_le (op lines i)
    have hll:=lnB_len (L:=[]) (L':=L') lab0 hL' hx (adr ad out.length)
    rw[e,if_pos he]
    simp only[cond_true,qsome_s,qnth_s,List.getD_cons_zero,List.getD_cons_succ,qint_i,qcmp_neq,decide_true,Bool.not_true,cond_false,nxtT]
    have:=ih (i+1) L (lnU us (op lines i)) (out++lnB L' (op lines i) (adr ad out.length)) (by omega) (by rw[lnU_app,List.length_append];omega) (by rw[List.length_append];omega) (by rw[List.length_append, ← hll];exact hp)
    rw[this,lnU_app us,List.length_append, ← hll,List.append_assoc,List.append_assoc]
end Go.Proofs.YtobhhfbdelnhfaaGreatDoor
namespace Go.Proofs.YtobhhfbdelnhfaaGreatDoor
set_option linter.unusedSimpArgs false
set_option linter.unusedVariables false
open Go Go.AM
def nl:List UInt8→Nat
 | []=>0
 |c::l=>if c=10 then 0 else nl l+1
theorem nl_cons (c:UInt8) (l:List UInt8):nl (c::l)=if c=10 then 0 else nl l+1:=rfl
theorem index_nl:∀l:List UInt8,Lib.index l [10]=if nl l<l.length then(nl l:Int)else -1
 | []=>by simp[Lib.index,nl]
 |c::l=>by
  have ih:=index_nl l
  unfold Lib.index nl
  rw[ih]
  by_cases h:c=10
  ·subst h;simp[List.isPrefixOf]
  ·have hp:List.isPrefixOf [10] (c::l)=false:=by
    rw[Bool.eq_false_iff];intro e
    simp only[List.isPrefixOf,Bool.and_true,beq_iff_eq]at e
    exact h e.symm
   rw[hp,if_neg h]
   simp only[Bool.false_eq_true,if_false,beq_iff_eq]
   by_cases h2:nl l<l.length
   ·rw[if_pos h2,if_neg (by omega),if_pos (by simp;omega)];rfl
   ·rw[if_neg h2,if_pos rfl,if_neg (by simp;omega)]
def linesF:Nat→List UInt8→List (List UInt8)
 |0,l=>[l]
 |n+1,l=>if nl l<l.length then l.take (nl l)::linesF n (l.drop (nl l+1))else[l]
def linesL (l:List UInt8):List (List UInt8):=linesF l.length l
theorem linesF_more:∀(n m:Nat) (l:List UInt8),l.length≤n→l.length≤m→linesF n l=linesF m l
 |0,0,_,_,_=>rfl
 |0,m+1,l,h,_=>by
  have:l = []:=List.length_eq_zero_iff.1 (by omega)
  subst this;rfl
 |n+1,0,l,_,h=>by
  have:l = []:=List.length_eq_zero_iff.1 (by omega)
  subst this;rfl
 |n+1,m+1,l,h1,h2=>by
  unfold linesF
  by_cases h:nl l<l.length
  ·rw[if_pos h,if_pos h,linesF_more n m _ (by simp;omega) (by simp;omega)]
  ·rw[if_neg h,if_neg h]
theorem linesL_some {l:List UInt8} (h:nl l<l.length):linesL l=l.take (nl l)::linesL (l.drop (nl l+1)):=by
 unfold linesL
 obtain⟨n,hn⟩:∃n,l.length=n+1:=⟨l.length-1,by omega⟩
 rw[hn]
 conv=>lhs;unfold linesF
 rw[if_pos h]
 rw[linesF_more n _ _ (by simp;omega) (Nat.le_refl _)]
theorem linesL_none {l:List UInt8} (h:¬nl l<l.length):linesL l = [l]:=by
 unfold linesL
 cases l.length with
 |zero=>rfl
 |succ n=>unfold linesF;rw[if_neg h]
theorem split_lines:∀(n:Nat) (l:List UInt8),l.length≤n→∀fuel,l.length<fuel→Lib.splitK [10] 0 (Lib.countFrom [10] fuel l) l=linesL l
 |n,l,hl,0,hf=>by omega
 |n,l,hl,fuel+1,hf=>by
  unfold Lib.countFrom
  rw[index_nl]
  by_cases h:nl l<l.length
  ·rw[if_pos h,if_neg (by rw[beq_iff_eq];omega),Nat.add_comm 1,linesL_some h]
   unfold Lib.splitK
   rw[index_nl,if_pos h]
   rw[if_neg (by rw[beq_iff_eq];omega),Int.toNat_natCast,Nat.add_zero]
   have hlen:([10]:List UInt8).length=1:=rfl
   rw[hlen]
   cases n with
   |zero=>omega
   |succ n=>rw[split_lines n (l.drop (nl l+1)) (by simp;omega) fuel (by simp;omega)]
  ·rw[if_neg h,if_pos (by decide),linesL_none h];rfl
theorem splitN (l:List UInt8):qsplit (bs l) (bs [10])=nameL (linesL l):=by
 simp only[qsplit,veil_eq]
 have h:=Lib.splitB_data (bs [10]) 0 (Lib.countB (bs l) (bs [10])) (bs l)
 have e:Lib.splitK [10] 0 (Lib.countB (bs l) (bs [10])) l=linesL l:=split_lines l.length l (Nat.le_refl _) (l.length+1) (by omega)
 have h2:(Lib.splitB (bs [10]) 0 (Lib.countB (bs l) (bs [10])) (bs l)).map (·.data.toList)=linesL l:=h.trans e
 unfold nameL
 rw[← h2,List.map_map]
 rfl
theorem linesF_facts:∀(n:Nat) (l:List UInt8),l.length≤n→wgt (linesF n l)=10*(l.length+1)∧(linesF n l).length≤l.length+1∧∀x∈linesF n l,x.length≤l.length
 |0,l,h=>by simp[linesF,wgt]
 |n+1,l,h=>by
  unfold linesF
  by_cases hn:nl l<l.length
  ·rw[if_pos hn]
   obtain⟨a,b,c⟩:=linesF_facts n (l.drop (nl l+1)) (by simp;omega)
   rw[List.length_drop]at a b c
   refine⟨?_,?_,?_⟩
   ·rw[wgt,a,List.length_take];omega
   ·rw[List.length_cons];omega
   ·intro x hx
    rcases List.mem_cons.1 hx with rfl|hx
    ·simp;omega
    ·have:=c x hx;omega
  ·rw[if_neg hn];simp[wgt]
noncomputable def asm (ad:Int) (ls:List (List UInt8)):D×Int:=
 match p1 ad [] 0 ls with
 | .error e=>(.list [],e)
 | .ok (L,n)=>if 65536<n then(.list [],6)else bif hasAll L (nms ls)then(byD (p2 ad L 0 ls),0)else(.list [],17)
theorem gt65 (n:Nat):qcmp .gtr (n:Int) 65536=decide (65536<n):=gtI n 65536
theorem loop13 (p0 o:D) (ad:Int) (kn:Bool) (L:Lab) {us:List (List UInt8)} (hu:us.length≤900000):∀(k i:Nat),i+k=us.length→loW (st13_11 [p0, .int (us.length:Int),nameL us,mD L,o, .int ad, .bool kn]) [.int i]=some (bif hasAll L (us.drop i)then[.int 0]else[.int 1]):=by
 intro k
 induction k with
 |zero=>
  intro i hi
  rw[List.drop_of_length_le (by omega),loW_nxt,st13_11_eq,ltI,decide_eq_false (by omega)]
  simp only[cond_false,nxtT];rfl
 |succ k ih=>
  intro i hi
  have hlt:i<us.length:=by omega
  have g1:qinb (nameL us) (i:Int)=true:=nameL_inb hlt
  have g2:qstr (qget (nameL us) (i:Int))=bs (op us i):=by rw[nameL_get hlt,qstr_s];rfl
  have hadd:qbin .add .i64 (i:Int) 1=((i+1:Nat):Int):=add_nat (by omega)
  rw[op_drop hlt,loW_nxt,st13_11_eq,len_nm,ltI,decide_eq_true hlt,g1,g2,mhas_lk,show qcmp .leq 0 (i:Int)=true by rw[qcmp_leq];exact decide_eq_true (by omega),hadd]
  have hc:hasAll L (op us i::us.drop (i+1))=((lk L (op us i)).isSome&&hasAll L (us.drop (i+1))):=by unfold hasAll;rw[List.all_cons]
  rw[hc]
  cases (lk L (op us i)).isSome with
  |true=>simp only[cond_true,cond_false,qnot_c,Bool.not_true,nxtT,Bool.true_and];exact ih (i+1) (by omega)
  |false=>simp only[cond_true,cond_false,qnot_c,Bool.not_false,nxtT,Bool.false_and]
theorem nms_le:∀ls:List (List UInt8),(nms ls).length≤wgt ls
 | []=>by simp[nms]
 |l::r=>by
  have ih:=nms_le r
  have:=lnU_le l
  rw[nms,wgt]
  cases labB l with
  |true=>simp only[cond_true];omega
  |false=>simp only[cond_false,List.length_append];omega
theorem spec13g (ad:Int) {l:List UInt8} (hz:l.length≤60000) (hs:Short (linesL l)) (hn:(linesL l).length≤2000):q13 [.str (bs l), .int ad]=some [(asm ad (linesL l)).1, .int (asm ad (linesL l)).2]:=by
 obtain⟨w1,w2,w3⟩:=linesF_facts l.length l (Nat.le_refl _)
 have hw:wgt (linesL l)=10*(l.length+1):=w1
 have hb:qcmp .lss (l.length:Int) 4294967281=true:=by rw[qcmp_lss];exact decide_eq_true (by omega)
 have h1:=pass1P (.list []) (.list []) ad hs hn (linesL l).length 0 [] [] [] (by omega) lab0 (by simp;omega) (by rw[List.drop_zero];simp;omega) (by rw[List.drop_zero];simp;omega)
 rw[List.drop_zero,List.length_nil]at h1
 rw[q13_eq,F13_eq,len_bs,gt65,decide_eq_false (by omega),hb]
 simp only[mkB,splitN,cond_false,cond_true]
 unfold asm
 cases hp:p1 ad [] 0 (linesL l)with
 |error e=>
  rw[hp]at h1
  obtain⟨hne,x,y,z,h1⟩:=h1
  have el:l41_3 [nameL (linesL l), .int ((linesL l).length:Int), .list [], .list [], .int ad, .bool false] [.int 0, .list [], .list [], .list []]=_:=(congrFun (congrFun l41_3_eq _) _).trans h1
  have e41:q41 [.list [], .list [], .int ad, .bool false,nameL (linesL l), .list []]=some [.int e,x,y,z]:=by
   rw[q41_eq,F41_eq,len_nm,el]
   simp[qsome_s,qnth_s,qint_i,qcmp_eql]
  rw[e41]
  simp only[qsome_s,qnth_s,List.getD_cons_zero,List.getD_cons_succ,qint_i,qcmp_neq,decide_eq_false hne,Bool.not_false,cond_true]
 |ok p=>
  obtain⟨L',n'⟩:=p
  rw[hp]at h1
  obtain⟨out',ho',h1⟩:=h1
  have el:l41_3 [nameL (linesL l), .int ((linesL l).length:Int), .list [], .list [], .int ad, .bool false] [.int 0, .list [], .list [], .list []]=_:=(congrFun (congrFun l41_3_eq _) _).trans h1
  have e41:q41 [.list [], .list [], .int ad, .bool false,nameL (linesL l), .list []]=some [.int 0,nameL (nms (linesL l)),byD out',mD L']:=by
   rw[q41_eq,F41_eq,len_nm,el]
   simp[qsome_s,qnth_s,qint_i,qcmp_eql]
  rw[e41]
  simp only[qsome_s,qnth_s,List.getD_cons_zero,List.getD_cons_succ,qint_i,qcmp_neq,decide_true,Bool.not_true,cond_false,cond_true,byD_len,ho',gt65]
  by_cases h6:65536<n'
  ·rw[decide_eq_true h6,if_pos h6];rfl
  ·rw[decide_eq_false h6,if_neg h6]
   have hL':=p1_ok ad _ _ _ _ _ lab0 (by simp;omega) hp
   have hnm:=nms_le (linesL l)
   have h13:=loop13 (nameL (linesL l)) (byD out') ad false L' (us:=nms (linesL l)) (by omega) (nms (linesL l)).length 0 (by omega)
   rw[List.drop_zero]at h13
   have el13:l13_11 [nameL (linesL l), .int ((nms (linesL l)).length:Int),nameL (nms (linesL l)),mD L',byD out', .int ad, .bool false] [.int 0]=_:=(congrFun (congrFun l13_11_eq _) _).trans h13
   have h2:=pass2P (nameL (nms (linesL l))) (byD out') ad hs hn (n':=n') hL' (linesL l).length 0 [] [] [] (by omega) (by rw[List.drop_zero];simp;omega) (by rw[List.drop_zero];simp;omega) (by rw[List.drop_zero,List.length_nil];exact hp)
   rw[List.drop_zero,List.length_nil,List.nil_append,List.nil_append]at h2
   have el2:l41_3 [nameL (linesL l), .int ((linesL l).length:Int),nameL (nms (linesL l)),byD out', .int ad, .bool true] [.int 0, .list [], .list [],mD L']=_:=(congrFun (congrFun l41_3_eq _) _).trans h2
   have e41b:q41 [nameL (nms (linesL l)),byD out', .int ad, .bool true,nameL (linesL l),mD L']=some [.int 0,nameL (nms (linesL l)),byD (p2 ad L' 0 (linesL l)),mD L']:=by
    rw[q41_eq,F41_eq,len_nm,el2]
    simp[qsome_s,qnth_s,qint_i,qcmp_eql]
   rw[len_nm,el13]
   cases hasAll L' (nms (linesL l))with
   |true=>
    simp only[cond_true,cond_false,qsome_s,qnth_s,List.getD_cons_zero,List.getD_cons_succ,qint_i,qcmp_eql,decide_true,e41b,qcmp_neq,Bool.not_true]
   |false=>simp[qsome_s,qnth_s,qint_i,qcmp_eql]
theorem cmpS_self (x:ByteArray):qcmpS .eql x x=true:=by rw[qcmpS_eq];simp[rcmpS]
end Go.Proofs.YtobhhfbdelnhfaaGreatDoor
namespace Go.Proofs.YtobhhfbdelnhfaaGreatDoor
set_option linter.unusedSimpArgs false
set_option linter.unusedVariables false
open Go Go.AM
theorem w_le {d:D} (hv:vld d=true):0≤qint (qfld d 4)∧qint (qfld d 4)≤4:=by
 obtain⟨s,hs,hA,hB,hI,hF,hW,hC,hA0,hB0,hN,hJ⟩:=vld_iff.1 hv
 unfold shp at hs
 rcases hW with h|h
 ·have:qint (qfld d 2)=16∨qint (qfld d 2)=17∨qint (qfld d 2)=18:=by omega
  rcases this with h|h|h<;>rw[h]at hs<;>simp only[Int.reduceEq,Int.reduceLE,or_true,or_false,and_true,and_false,true_and,false_and,if_true,if_false,or_self]at hs<;>split at hs<;>first|omega|cases hs
 ·omega
theorem ite_len {c:Prop} [Decidable c] {a b:List UInt8} (h:a.length≤100) (h':b.length≤100):(if c then a else b).length≤100:=by
 split
 ·exact h
 ·exact h'
theorem PT_len {d:D} {n j:Nat} (hv:vld d=true) (h2:n<4294967296):(PT d n j).length≤100:=by
 have hw:=w_le hv
 have l1:=dlen (qint (qfld d 4)).toNat (by omega)
 have l2:=hlen n h2
 have l3:=placeT_len (rg (qint (qfld d 7))) n h2
 have l4:=opT_len (qint (qfld d 2)-5).toNat
 have l5:=ccT_len (qint (qfld d 5)).toNat
 have l6:=signT_len n h2
 have ar:(arT (qint (qfld d 3)) (rg (qint (qfld d 6))) (rg (qint (qfld d 7))) n).length≤30:=by
  unfold arT
  repeat' split
  all_goals (simp only[List.length_append,List.length_cons,List.length_nil];omega)
 have jm:(jmT (qint (qfld d 5)) (qint (qfld d 3)) n j).length≤30:=by
  unfold jmT
  repeat' split
  all_goals (simp only[List.length_append,List.length_cons,List.length_nil];omega)
 unfold PT
 repeat' apply ite_len
 all_goals first|(simp only[List.length_append,List.length_cons,List.length_nil];omega)|omega
theorem er_ok {e a i o f w c x y:Int} (he:e≠0):erD e≠okD a i o f w c x y:=by
 intro h
 unfold erD okD at h
 simp only[List.cons.injEq,D.int.injEq,and_true]at h
 exact he h.2
theorem num_key (L:Lab) {x:List UInt8} (h:numB x=true):valB x=true∧valV L x=numV x∧nmd x=false∧usU [] x = []:=by
 have h3:nmd x=false:=by unfold nmd;rw[h];rfl
 refine⟨by unfold valB;rw[h];rfl,by unfold valV;rw[h];rfl,h3,by unfold usU;rw[h3];rfl⟩
theorem OTn_OT (L:Lab) {c:Cls} {w:Bool} {ops:List (List UInt8)} {a b i o f v d x y:Int} (h:OT c w ops a=okD b i o f v d x y):
 OTn L c w ops a=OT c w ops a∧usN [] c ops = []:=by
 cases c with
 |bare k=>exact⟨rfl,rfl⟩
 |one o cc=>exact⟨rfl,rfl⟩
 |mem o wd st=>exact⟨rfl,rfl⟩
 |unk=>exact⟨rfl,rfl⟩
 |call=>
  cases hn:numB (op ops 0)with
  |false=>simp only[OT,hn,Bool.and_false,cond_false]at h;exact absurd h (er_ok (by omega))
  |true=>
   obtain⟨k1,k2,k3,k4⟩:=num_key L hn
   simp only[OT,OTn,usN,k1,k2,hn,k4,and_self]
 |jumpt=>
  cases hn:numB (op ops 1)with
  |false=>simp only[OT,hn,Bool.and_false,cond_false]at h;exact absurd h (er_ok (by omega))
  |true=>
   obtain⟨k1,k2,k3,k4⟩:=num_key L hn
   simp only[OT,OTn,usN,k1,k2,hn,k4,and_self]
 |jmp cc=>
  cases hn:numB (op ops 0)with
  |false=>simp only[OT,hn,Bool.and_false,cond_false]at h;exact absurd h (er_ok (by omega))
  |true=>
   obtain⟨k1,k2,k3,k4⟩:=num_key L hn
   simp only[OT,OTn,usN,k1,k2,k3,hn,k4,fmN,cond_false,and_self]
 |ar k=>
  cases hr:regB (op ops 1)with
  |true=>simp only[OT,OTn,usN,arOk,arOkN,arI,arIN,hr,cond_true,if_true,and_self]
  |false=>
   cases hn:numB (op ops 1)with
   |false=>simp only[OT,arOk,hr,hn,cond_false,Bool.and_false]at h;exact absurd h (er_ok (by omega))
   |true=>
    obtain⟨k1,k2,k3,k4⟩:=num_key L hn
    simp only[OT,OTn,usN,arOk,arOkN,arI,arIN,hr,hn,k1,k2,k3,k4,cond_false,Bool.false_eq_true,if_false,fmN,and_self]
theorem no_ite {c:UInt8} {p:Prop} [Decidable p] {a b:List UInt8} (h:no c a) (h':no c b):no c (if p then a else b):=by
 split
 ·exact h
 ·exact h'
theorem no_getD {c:UInt8} {l:List (List UInt8)} (h:l.all (fun x=>x.all fun y=>y != c)=true) (k:Nat):no c (l.getD k []):=by
 rw[List.getD]
 cases hk:l[k]? with
 |none=>exact no_nil
 |some x=>exact no_all (List.all_eq_true.1 h x (List.mem_of_getElem? hk))
theorem hx10:∀k:Fin 16,hx k.val≠10:=by decide
theorem no10d {b:Nat} (hb:2≤b∧b≤16) (n:Nat):no 10 (digs b n):=no_digs hb hx10
theorem rg10 {k:Int} (h:0≤k∧k<8):rg k≠10:=hx10 ⟨k.toNat,by omega⟩
theorem no10s (n:Nat):no 10 (signT n):=by
 unfold signT
 exact no_ite (no_cons (by decide) (no10d (by omega) _)) (no10d (by omega) _)
theorem no10p {k:Int} (h:0≤k∧k<8) (n:Nat):no 10 (placeT (rg k) n):=by
 unfold placeT
 exact no_app (no_cons (by decide) (no_cons (by decide) (no_cons (rg10 h) no_nil))) (no_app (no_ite no_nil (no_ite (no_cons (by decide) (no10d (by omega) _)) (no_cons (by decide) (no10d (by omega) _)))) (no_cons (by decide) no_nil))
theorem no10r {k:Int} (h:0≤k∧k<8) (r:List UInt8) (hr:no 10 r):no 10 (rg k::r):=no_cons (rg10 h) hr
theorem no10op (k:Nat):no 10 (opT k):=no_getD (by decide +kernel) k
theorem no10cc (k:Nat):no 10 (ccT k):=no_getD (by decide +kernel) k
theorem no10a {a b:Int} (ha:0≤a∧a<8) (hb:0≤b∧b<8) (f:Int) (n:Nat):no 10 (arT f (rg a) (rg b) n):=by
 unfold arT
 refine no_ite ?_ (no_ite (no_app ?_ (no10s n)) (no_ite (no_app ?_ (no10s n)) (no_app ?_ (no10d (by omega) n))))
 ·exact no_cons (by decide) (no_cons (by decide) (no10r ha _ (no_cons (by decide) (no_cons (by decide) (no_cons (by decide) (no10r hb _ no_nil))))))
 ·exact no_cons (by decide) (no_cons (by decide) (no10r ha _ (no_all (by decide))))
 ·exact no_cons (by decide) (no_cons (by decide) (no_cons (by decide) (no_cons (by decide) (no10r ha _ (no_all (by decide))))))
 ·exact no_cons (by decide) (no_cons (by decide) (no10r ha _ (no_all (by decide))))
theorem no10j (cc f:Int) (n j:Nat):no 10 (jmT cc f n j):=by
 unfold jmT
 exact no_app (no_ite (no_all (by decide)) (no_cons (by decide) (no10cc _))) (no_app (no_ite (no_all (by decide)) no_nil) (no_app (no_all (by decide)) (no10d (by omega) n)))
theorem PT_no {d:D} {n j:Nat} (hv:vld d=true):no 10 (PT d n j):=by
 obtain⟨s,hs,hA,hB,_⟩:=vld_iff.1 hv
 unfold PT
 refine no_ite (no_all (by decide)) (no_ite (no_all (by decide)) (no_ite (no_all (by decide)) (no_ite ?_ (no_ite ?_ (no_ite ?_ (no_ite ?_ (no_ite ?_ (no_ite ?_ (no_ite ?_ (no_ite ?_ (no_ite ?_ (no_ite ?_ (no_ite ?_ (no_ite ?_ (no_ite ?_ (no_ite ?_ ?_))))))))))))))))
 ·exact no_app (no_all (by decide)) (no10r hA _ no_nil)
 ·exact no_app (no_all (by decide)) (no10r hA _ no_nil)
 ·exact no_app (no10op _) (no10a hA hB _ n)
 ·exact no_app (no_all (by decide)) (no_app (no10d (by omega) _) (no_app (no_cons (by decide) (no_cons (by decide) (no10r hA _ (no_all (by decide))))) (no10p hB n)))
 ·exact no_app (no_all (by decide)) (no_app (no10d (by omega) _) (no_app (no_cons (by decide) (no_cons (by decide) (no_cons (by decide) (no10r hA _ (no_all (by decide)))))) (no10p hB n)))
 ·exact no_app (no_all (by decide)) (no_app (no10d (by omega) _) (no_cons (by decide) (no_app (no10p hB n) (no_cons (by decide) (no_cons (by decide) (no_cons (by decide) (no10r hA _ no_nil)))))))
 ·exact no_app (no_all (by decide)) (no_app (no10r hA _ (no_all (by decide))) (no10p hB n))
 ·exact no10j _ _ n j
 ·exact no_app (no_all (by decide)) (no10r hA _ no_nil)
 ·exact no_app (no_all (by decide)) (no10r hA _ no_nil)
 ·exact no_app (no_all (by decide)) (no_app (no10r hA _ (no_all (by decide))) (no10d (by omega) n))
 ·exact no_app (no_all (by decide)) (no10d (by omega) n)
 ·exact no_app (no_all (by decide)) (no_app (no10cc _) (no_cons (by decide) (no_cons (by decide) (no10r hA _ no_nil))))
 ·exact no_app (no_all (by decide)) (no10r hA _ no_nil)
 ·exact no_app (no_all (by decide)) (no10r hA _ no_nil)
def hd (l:List UInt8):Prop:=∃c r,l=c::r∧c≠46
theorem hd_ite {p:Prop} [Decidable p] {a b:List UInt8} (h:p→hd a) (h':hd b):hd (if p then a else b):=by
 split
 ·rename_i hp;exact h hp
 ·exact h'
theorem hd_app {a:List UInt8} (b:List UInt8) (h:hd a):hd (a++b):=by
 obtain⟨c,r,rfl,hc⟩:=h
 exact⟨c,r++b,rfl,hc⟩
theorem op_hd:∀k:Fin 11,(opT k.val).getD 0 46≠46:=by decide +kernel
theorem PT_hd (d:D) (n j:Nat):hd (PT d n j):=by
 unfold PT
 repeat' refine hd_ite (fun _=> ?_) ?_
 all_goals first
  |exact⟨_,_,rfl,by decide⟩
  |skip
 ·rename_i h
  refine hd_app _ ?_
  have:=op_hd ⟨(qint (qfld d 2)-5).toNat,by omega⟩
  cases e:opT (qint (qfld d 2)-5).toNat with
  |nil=>simp only[e]at this;exact absurd rfl this
  |cons c r=>simp only[e]at this;exact⟨c,r,rfl,this⟩
 ·unfold jmT
  exact hd_app _ (hd_ite (fun _=>⟨_,_,rfl,by decide⟩) ⟨_,_,rfl,by decide⟩)
theorem enc_fld {d:D} {s:Int} (h:hasS d s):hasS (insD (qint (qfld d 0)) (qint (qfld d 1)) (qint (qfld d 2)) (qint (qfld d 3)) (qint (qfld d 4)) (qint (qfld d 5)) (qint (qfld d 6)) (qint (qfld d 7)) (lenI (insD (qint (qfld d 0)) (qint (qfld d 1)) (qint (qfld d 2)) (qint (qfld d 3)) (qint (qfld d 4)) (qint (qfld d 5)) (qint (qfld d 6)) (qint (qfld d 7)) 0))) s∧
 encB (insD (qint (qfld d 0)) (qint (qfld d 1)) (qint (qfld d 2)) (qint (qfld d 3)) (qint (qfld d 4)) (qint (qfld d 5)) (qint (qfld d 6)) (qint (qfld d 7)) (lenI (insD (qint (qfld d 0)) (qint (qfld d 1)) (qint (qfld d 2)) (qint (qfld d 3)) (qint (qfld d 4)) (qint (qfld d 5)) (qint (qfld d 6)) (qint (qfld d 7)) 0))) s=encB d s:=by
 refine⟨hasS_ins.2 h,?_⟩
 obtain⟨f0,f1,f2,f3,f4,f5,f6,f7,f8⟩:=insF (qint (qfld d 0)) (qint (qfld d 1)) (qint (qfld d 2)) (qint (qfld d 3)) (qint (qfld d 4)) (qint (qfld d 5)) (qint (qfld d 6)) (qint (qfld d 7)) (lenI (insD (qint (qfld d 0)) (qint (qfld d 1)) (qint (qfld d 2)) (qint (qfld d 3)) (qint (qfld d 4)) (qint (qfld d 5)) (qint (qfld d 6)) (qint (qfld d 7)) 0))
 unfold encB short nearE
 rw[f0,f1,f2,f3,f4,f5,f6,f7]
theorem ln_ins {d:D} {n j:Nat} (hv:vld d=true) (hn:qint (qfld d 1)=n) (h2:n<4294967296) (hj:short d=j) (hj2:j<4294967296):
 labB (PT d n j)=false∧lnE (PT d n j) (qint (qfld d 0))=0∧lnU [] (PT d n j) = []∧∀L,lnB L (PT d n j) (qint (qfld d 0))=enL [d, .int 0]:=by
 have hr:=round hv hn h2 hj hj2
 have hz:(PT d n j).length≤1000:=by have:=PT_len (j:=j) hv h2;omega
 obtain⟨c,r,hl,hc⟩:=PT_hd d n j
 obtain⟨s,hs⟩:=vld_iff.1 hv
 have hO:∀L,insO L (PT d n j) (qint (qfld d 0))=okD (qint (qfld d 0)) (qint (qfld d 1)) (qint (qfld d 2)) (qint (qfld d 3)) (qint (qfld d 4)) (qint (qfld d 5)) (qint (qfld d 6)) (qint (qfld d 7)):=fun L=>by
  unfold insO;rw[(OTn_OT L hr).1,hr]
 have hne:PT d n j≠[]:=by rw[hl];exact List.cons_ne_nil _ _
 have h0:(PT d n j).getD 0 0≠46:=by rw[hl];exact hc
 have hW:pW (PT d n j)=false:=pre_no h0
 have hB:pB (PT d n j)=false:=pre_no h0
 have h58:¬E58 (PT d n j):=fun h=>by
  have e:=OTn58 [] hz h (qint (qfld d 0))
  have e':=hO []
  unfold insO at e'
  rw[e]at e'
  exact er_ok (by omega) e'
 have hsf:sfx [58] (PT d n j)=false:=by
  cases e:sfx [58] (PT d n j)with
  |false=>rfl
  |true=>exact absurd ((mS _).2 e) h58
 refine⟨by unfold labB;rw[hsf];rfl,?_,?_,fun L=> ?_⟩
 ·unfold lnE
  rw[if_neg hne,hW,hB,hO []]
  exact qint_ok ..
 ·unfold lnU
  rw[if_neg hne,hW,hB]
  exact(OTn_OT [] hr).2
 ·unfold lnB
  rw[if_neg hne,hW,hB,hO L]
  have k:=enc_fld hs
  rw[cond_false,cond_false,enL_of (O:=okD _ _ _ _ _ _ _ _) k.1,enL_of (O:=[d, .int 0]) hs]
  exact k.2
end Go.Proofs.YtobhhfbdelnhfaaGreatDoor
namespace Go.Proofs.YtobhhfbdelnhfaaGreatDoor
set_option linter.unusedSimpArgs false
set_option linter.unusedVariables false
open Go Go.AM
def txtL:List (List UInt8)→List UInt8
 | []=>[]
 |l::r=>l++10::txtL r
theorem txtL_app:∀a b:List (List UInt8),txtL (a++b)=txtL a++txtL b
 | [],b=>rfl
 |l::r,b=>by rw[List.cons_append,txtL,txtL,txtL_app r b,List.append_assoc,List.cons_append]
theorem txtL_len:∀ls:List (List UInt8),(∀x∈ls,x.length≤100)→(txtL ls).length≤101*ls.length
 | [],_=>by simp[txtL]
 |l::r,h=>by
  have h1:=h l (List.mem_cons_self ..)
  have h2:=txtL_len r fun x hx=>h x (List.mem_cons_of_mem _ hx)
  simp only[txtL,List.length_append,List.length_cons]
  omega
theorem nl_app:∀{x:List UInt8} (r:List UInt8),no 10 x→nl (x++10::r)=x.length
 | [],r,_=>by rw[List.nil_append,nl_cons,if_pos rfl];rfl
 |c::x,r,h=>by
  have hc:c≠10:=no_head h
  rw[List.cons_append,nl_cons,if_neg hc,nl_app r (no_tail h)];rfl
theorem lines_txt:∀ls:List (List UInt8),(∀x∈ls,no 10 x)→linesL (txtL ls)=ls ++ [[]]
 | [],_=>linesL_none (by simp[txtL])
 |x::r,h=>by
  have hn:=nl_app (txtL r) (h x (List.mem_cons_self ..))
  have ih:=lines_txt r fun y hy=>h y (List.mem_cons_of_mem _ hy)
  have hd:(x++10::txtL r).drop (x.length+1)=txtL r:=by
   rw[← List.drop_drop,List.drop_left];rfl
  rw[txtL,linesL_some (by rw[hn];simp),hn,List.take_left,hd,ih];rfl
noncomputable def pt (x:D):List UInt8:=PT x (qint (qfld x 1)).toNat (short x).toNat
noncomputable def eb (x:D):List Int:=enL [x, .int 0]
structure ChOk (x:D) (a:Int):Prop where
 v:vld x=true
 at0:qint (qfld x 0)=a
 im:∃m:Nat,qint (qfld x 1)=m∧m<4294967296
def chain (ad:Int):Nat→List D→Prop
 |_,[]=>True
 |n,x::r=>ChOk x (adr ad n)∧chain ad (n+(eb x).length) r
noncomputable def bytesC (xs:List D):List Int:=xs.flatMap eb
theorem ch_pt {x:D} {a:Int} (h:ChOk x a):labB (pt x)=false∧lnE (pt x) a=0∧lnU [] (pt x) = []∧(∀L,lnB L (pt x) a=eb x)∧no 10 (pt x)∧(pt x).length≤100:=by
 obtain⟨m,hm,hm2⟩:=h.im
 obtain⟨j,hj,hj2⟩:=short_nn x
 have e:pt x=PT x m j:=by unfold pt;rw[hm,hj];rfl
 obtain⟨k1,k2,k3,k4⟩:=ln_ins h.v hm hm2 hj hj2
 rw[h.at0]at k2 k4
 rw[e]
 exact⟨k1,k2,k3,k4,PT_no h.v,PT_len h.v hm2⟩
theorem eb_le {x:D} {a:Int} (h:ChOk x a):(eb x).length≤1010:=by
 obtain⟨k1,k2,k3,k4,k5,k6⟩:=ch_pt h
 have:=lnB_le lab0 (l:=pt x) (by omega) a k2
 rw[k4]at this
 omega
theorem lab_nil:labB []=false:=by unfold labB;rfl
theorem p1_chain (ad:Int):∀(xs:List D) (n:Nat),chain ad n xs→p1 ad [] n (xs.map pt ++ [[]]) = .ok ([],n+(bytesC xs).length)
 | [],n,_=>by
   have e:lnE [] (adr ad n)=0:=by unfold lnE;rw[if_pos rfl]
   have e2:lnB [] [] (adr ad n) = []:=by unfold lnB;rw[if_pos rfl]
   rw[List.map_nil,List.nil_append,p1,lab_nil,cond_false,if_pos e,e2];rfl
 |x::r,n,h=>by
  obtain⟨hx,hr⟩:=h
  obtain⟨k1,k2,k3,k4,k5,k6⟩:=ch_pt hx
  rw[List.map_cons,List.cons_append,p1,k1,cond_false,if_pos k2,k4,p1_chain ad r _ hr]
  simp only[bytesC,List.flatMap_cons,List.length_append,Nat.add_assoc]
theorem p2_chain (ad:Int):∀(xs:List D) (n:Nat),chain ad n xs→p2 ad [] n (xs.map pt ++ [[]])=bytesC xs
 | [],n,_=>by
   have e2:lnB [] [] (adr ad n) = []:=by unfold lnB;rw[if_pos rfl]
   rw[List.map_nil,List.nil_append,p2,lab_nil,cond_false,e2];rfl
 |x::r,n,h=>by
  obtain⟨hx,hr⟩:=h
  obtain⟨k1,k2,k3,k4,k5,k6⟩:=ch_pt hx
  rw[List.map_cons,List.cons_append,p2,k1,cond_false,k4,p2_chain ad r _ hr];rfl
theorem nms_chain (ad:Int):∀(xs:List D) (n:Nat),chain ad n xs→nms (xs.map pt ++ [[]]) = []
 | [],n,_=>by
   have e2:lnU [] [] = []:=by unfold lnU;rw[if_pos rfl]
   rw[List.map_nil,List.nil_append,nms,lab_nil,cond_false,e2];rfl
 |x::r,n,h=>by
  obtain⟨hx,hr⟩:=h
  obtain⟨k1,k2,k3,k4,k5,k6⟩:=ch_pt hx
  rw[List.map_cons,List.cons_append,nms,k1,cond_false,k3,nms_chain ad r _ hr];rfl
theorem ch_all (ad:Int):∀(xs:List D) (n:Nat),chain ad n xs→(∀x∈xs,no 10 (pt x)∧(pt x).length≤100)∧(bytesC xs).length≤1010*xs.length
 | [],n,_=>⟨fun x hx=>(by cases hx),by simp[bytesC]⟩
 |x::r,n,h=>by
  obtain⟨hx,hr⟩:=h
  obtain⟨k1,k2,k3,k4,k5,k6⟩:=ch_pt hx
  obtain⟨i1,i2⟩:=ch_all ad r _ hr
  have:=eb_le hx
  refine⟨fun y hy=> ?_,?_⟩
  ·rcases List.mem_cons.1 hy with rfl|hy
   ·exact⟨k5,k6⟩
   ·exact i1 y hy
  ·simp only[bytesC,List.flatMap_cons,List.length_append,List.length_cons]at i2 ⊢
   omega
theorem ch_snoc (ad:Int) {x:D}:∀(xs:List D) (n:Nat),chain ad n xs→ChOk x (adr ad (n+(bytesC xs).length))→chain ad n (xs ++ [x])
 | [],n,_,h=>⟨by simpa[bytesC]using h,trivial⟩
 |y::r,n,h,hx=>by
  obtain⟨hy,hr⟩:=h
  refine⟨hy,ch_snoc ad r _ hr ?_⟩
  have e:n+(eb y).length+(bytesC r).length=n+(bytesC (y::r)).length:=by simp only[bytesC,List.flatMap_cons,List.length_append];omega
  rw[e];exact hx
theorem asm_chain (ad:Int) {xs:List D} (h:chain ad 0 xs) (hl:xs.length≤40):
 q13 [.str (bs (txtL (xs.map pt))), .int ad]=some [byD (bytesC xs), .int 0]:=by
 obtain⟨i1,i2⟩:=ch_all ad xs 0 h
 have hm:∀y∈xs.map pt,no 10 y∧y.length≤100:=fun y hy=>by
  obtain⟨x,hx,rfl⟩:=List.mem_map.1 hy
  exact i1 x hx
 have e:=lines_txt (xs.map pt) fun y hy=>(hm y hy).1
 have hz:=txtL_len (xs.map pt) fun y hy=>(hm y hy).2
 rw[List.length_map]at hz
 have hs:Short (linesL (txtL (xs.map pt))):=by
  rw[e]
  intro y hy
  rcases List.mem_append.1 hy with hy|hy
  ·have:=(hm y hy).2;omega
  ·rcases List.mem_singleton.1 hy with rfl
   simp
 have hn:(linesL (txtL (xs.map pt))).length≤2000:=by rw[e];simp only[List.length_append,List.length_map,List.length_cons,List.length_nil];omega
 rw[spec13g ad (by omega) hs hn,e]
 have ha:asm ad (xs.map pt ++ [[]])=(byD (bytesC xs),0):=by
  unfold asm
  rw[p1_chain ad xs 0 h,Nat.zero_add]
  simp only[]
  rw[if_neg (by omega),nms_chain ad xs 0 h,p2_chain ad xs 0 h]
  rfl
 rw[ha]
end Go.Proofs.YtobhhfbdelnhfaaGreatDoor
namespace Go.Proofs.YtobhhfbdelnhfaaGreatDoor
set_option linter.unusedSimpArgs false
set_option linter.unusedVariables false
open Go Go.AM
noncomputable def mvI (x:D) (a:Int):D:=
 insD a (bif qiteB (qcmp .eql (qint (qfld x 2)) 20) true (qcmp .eql (qint (qfld x 2)) 23)then qbin .add .u32 (qbin .sub .u32 (qint (qfld x 1)) (qint (qfld x 0))) a else qint (qfld x 1))
  (qint (qfld x 2)) (qint (qfld x 3)) (qint (qfld x 4)) (qint (qfld x 5)) (qint (qfld x 6)) (qint (qfld x 7)) (qint (qfld x 8))
theorem u32_nn (n:Int):∃m:Nat,IntKind.u32.wrap n=m∧m<4294967296:=⟨(IntKind.u32.wrap n).toNat,by rw[mU32];omega,by rw[mU32];omega⟩
theorem mvI_im {x:D} {a:Int} (h:∃m:Nat,qint (qfld x 1)=m∧m<4294967296):∃m:Nat,qint (qfld (mvI x a) 1)=m∧m<4294967296:=by
 unfold mvI
 rw[(insF _ _ _ _ _ _ _ _ _).2.1]
 cases qiteB (qcmp .eql (qint (qfld x 2)) 20) true (qcmp .eql (qint (qfld x 2)) 23)with
 |false=>exact h
 |true=>rw[cond_true,qbin_eq];exact u32_nn _
theorem mvI_ok {x:D} {a:Int} (h:∃m:Nat,qint (qfld x 1)=m∧m<4294967296) (hv:vld (mvI x a)=true):ChOk (mvI x a) a:=
 ⟨hv,(insF _ _ _ _ _ _ _ _ _).1,mvI_im h⟩
theorem prn {x:D} {a:Int} (h:ChOk x a):q8 [x]=some [.str (bs (pt x))]∧q17 [x]=some [byD (eb x), .int 0]:=by
 obtain⟨m,hm,hm2⟩:=h.im
 obtain⟨j,hj,hj2⟩:=short_nn x
 have e:pt x=PT x m j:=by unfold pt;rw[hm,hj];rfl
 obtain⟨s,hs⟩:=vld_iff.1 h.v
 rw[e]
 refine⟨(print_spec h.v hm hm2 hj hj2).1,?_⟩
 unfold eb
 rw[enL_of (O:=[x, .int 0]) hs]
 exact enc_ok hs (by rw[hm];omega)
theorem adr_add (ad:Int) (n m:Nat):qbin .add .u32 (adr ad n) (qwrap .u32 (m:Int))=adr ad (n+m):=by
 unfold adr
 simp only[qbin_eq,rbin,qwrap_eq,mU32]
 omega
theorem adr_0 {ad:Int} (h:0≤ad∧ad<4294967296):adr ad 0=ad:=by
 unfold adr
 simp only[qbin_eq,rbin,qwrap_eq,mU32]
 omega
theorem st6_spec {d:D} {i:Nat} (hi:i<d.toList.length) (h64:d.toList.length≤40) (hd:∀x∈d.toList,∃n:Nat,qint (qfld x 1)=n∧n<4294967296) (pn a:Int) {s:List UInt8} (hs:s.length≤100000) {b:List Int} (hb:b.length≤100000):
 st6_7 [d, .int pn] [.str (bs s), .int a, .int i,byD b] =
  if vld (mvI (qget d i) a)=true then some (.inl [.str (bs (s++(pt (mvI (qget d i) a) ++ [10]))), .int (qbin .add .u32 a (qwrap .u32 ((eb (mvI (qget d i) a)).length:Int))), .int ((i+1:Nat):Int),byD (b++eb (mvI (qget d i) a))])
 else some (.inl [.str (bs s), .int a, .int ((i+1:Nat):Int),byD b]):=by
 have hx:∃n:Nat,qint (qfld (qget d i) 1)=n∧n<4294967296:=by
  rw[qget_n,getD_lt hi];exact hd _ (List.getElem_mem hi)
 have hin:qinb d (i:Int)=true:=inb_of (by omega) (by rw[qlen_c];omega)
 have hadd:qbin .add .i64 (i:Int) 1=((i+1:Nat):Int):=add_nat (by omega)
 have c10:ByteArray.mk #[10]=bs [10]:=rfl
 rw[st6_7_eq,qlen_c,ltI,decide_eq_true hi,hin,hadd]
 simp only[cond_true]
 have key:∀X:D,(mvI (qget d i) a)=X→
  (bif qsome (q16 [X])then
  bif qnot (qbool (qnth (q16 [X]) 0))then some (Sum.inl [.str (bs s), .int a, .int ((i+1:Nat):Int),byD b])
  else bif qsome (q8 [X])then bif qcatOk (bs s) (qstr (qnth (q8 [X]) 0))then bif qcatOk (qcat (bs s) (qstr (qnth (q8 [X]) 0))) (bs [10])then
  bif qsome (q17 [X])then bif qmem (qlen (qapp (byD b) (qnth (q17 [X]) 0))) 1 then
  some (Sum.inl [.str (qcat (qcat (bs s) (qstr (qnth (q8 [X]) 0))) (bs [10])), .int (qbin .add .u32 a (qwrap .u32 (qlen (qnth (q17 [X]) 0)))), .int ((i+1:Nat):Int),qapp (byD b) (qnth (q17 [X]) 0)])
  else none else none else none else none else none
  else none:Option (List D ⊕ List D)) =
   if vld X=true then some (.inl [.str (bs (s++(pt X ++ [10]))), .int (qbin .add .u32 a (qwrap .u32 ((eb X).length:Int))), .int ((i+1:Nat):Int),byD (b++eb X)])
  else some (.inl [.str (bs s), .int a, .int ((i+1:Nat):Int),byD b]):=by
  intro X hX
  rw[(valid_spec X).2.1]
  simp only[qsome_s,qnth_s,List.getD_cons_zero,qbool_b,qnot_c,cond_true]
  cases hv:vld X with
  |false=>rw[if_neg (by simp)];rfl
  |true=>
   have ok:ChOk X a:=by rw[← hX]at hv ⊢;exact mvI_ok hx hv
   obtain⟨e1,e2⟩:=prn ok
   obtain⟨k1,k2,k3,k4,k5,k6⟩:=ch_pt ok
   have hb2:=eb_le ok
   rw[e1,e2,if_pos rfl]
   simp only[qsome_s,qnth_s,List.getD_cons_zero,qstr_s,Bool.not_true,cond_false,cond_true,catB,byD_app,byD_len]
   rw[catOkB (by omega),catOkB (by simp only[List.length_append,List.length_cons,List.length_nil];omega),memB (by simp only[List.length_append];omega) (by omega),List.append_assoc]
   rfl
 have k:=key _ rfl
 have hself:∀z:Int,qcmp BinOp.eql z z=true:=qeqI_self
 unfold mvI at k ⊢
 unfold insD at k ⊢
 rw[← k,c10]
 cases qiteB (qcmp .eql (qint (qfld (qget d i) 2)) 20) true (qcmp .eql (qint (qfld (qget d i) 2)) 23)<;>rfl
theorem loop6 {d:D} (h64:d.toList.length≤40) (hd:∀x∈d.toList,∃n:Nat,qint (qfld x 1)=n∧n<4294967296) (a:Int):∀(k i:Nat) (xs:List D),i+k=d.toList.length→chain a 0 xs→xs.length≤i→
 ∃ys,chain a 0 ys∧ys.length≤40∧loW (st6_7 [d, .int a]) [.str (bs (txtL (xs.map pt))), .int (adr a (bytesC xs).length), .int i,byD (bytesC xs)]=some [.int 0, .str (bs (txtL (ys.map pt))),byD (bytesC ys)]:=by
 intro k
 induction k with
 |zero=>
  intro i xs hi hc hl
  refine⟨xs,hc,by omega,?_⟩
  rw[loW_nxt,st6_7_eq,qlen_c,ltI,decide_eq_false (by omega)]
  simp only[cond_false,nxtT]
 |succ k ih=>
  intro i xs hi hc hl
  obtain⟨i1,i2⟩:=ch_all a xs 0 hc
  have hz:=txtL_len (xs.map pt) fun y hy=>by
   obtain⟨x,hx,rfl⟩:=List.mem_map.1 hy
   exact(i1 x hx).2
  rw[List.length_map]at hz
  have hx:∃n:Nat,qint (qfld (qget d i) 1)=n∧n<4294967296:=by
   rw[qget_n,getD_lt (by omega)];exact hd _ (List.getElem_mem (by omega))
  rw[loW_nxt,st6_spec (by omega) h64 hd a _ (by omega) (by omega)]
  by_cases hv:vld (mvI (qget d i) (adr a (bytesC xs).length))=true
  ·rw[if_pos hv,adr_add]
   have ok:=mvI_ok hx hv
   have hc':=ch_snoc a xs 0 hc (by rw[Nat.zero_add];exact ok)
   have et:txtL ((xs ++ [mvI (qget d i) (adr a (bytesC xs).length)]).map pt)=txtL (xs.map pt)++(pt (mvI (qget d i) (adr a (bytesC xs).length)) ++ [10]):=by
    rw[List.map_append,txtL_app];rfl
   have eb':bytesC (xs ++ [mvI (qget d i) (adr a (bytesC xs).length)])=bytesC xs++eb (mvI (qget d i) (adr a (bytesC xs).length)):=by
    simp[bytesC]
   have:=ih (i+1) (xs ++ [mvI (qget d i) (adr a (bytesC xs).length)]) (by omega) hc' (by simp only[List.length_append,List.length_cons,List.length_nil];omega)
   rw[et,eb',List.length_append]at this
   exact this
  ·rw[if_neg hv]
   exact ih (i+1) xs (by omega) hc (by omega)
theorem law6 {d:D} {a:Int} (ha:0≤a∧a<4294967296) (hd:∀x∈d.toList,∃n:Nat,qint (qfld x 1)=n∧n<4294967296):q6 [d, .int a]=some [.bool true]:=by
 rw[q6_eq,F6_eq,qlen_c,show qcmp .gtr (d.toList.length:Int) 40=decide (40<d.toList.length)from gtI d.toList.length 40,q10_eq]
 by_cases h:40<d.toList.length
 ·rw[decide_eq_true h];simp only[qsome_s,qnth_s,List.getD_cons_zero,List.getD_cons_succ,qbool_b,cond_true]
 ·obtain⟨ys,hc,hl,e⟩:=loop6 (d:=d) (by omega) hd a d.toList.length 0 [] (by omega) trivial (Nat.le_refl _)
  have el:l6_7 [d, .int a] [.str (ByteArray.mk #[]), .int a, .int 0, .list []]=some [D.int 0,D.str (bs (txtL (List.map pt ys))),byD (bytesC ys)]:=by
   rw[show(bytesC []).length=0 from rfl,adr_0 ha]at e
   exact(congrFun (congrFun l6_7_eq _) _).trans e
  rw[decide_eq_false h,el]
  simp only[qsome_s,qnth_s,List.getD_cons_zero,List.getD_cons_succ,qbool_b,qint_i,qstr_s,cond_true,cond_false,asm_chain a hc hl,cmpS_self,qcmp_eql,decide_true,qiteB_c,qeqI_self]
end Go.Proofs.YtobhhfbdelnhfaaGreatDoor
namespace Go.Proofs.YtobhhfbdelnhfaaGreatDoor
open Go Go.AM
def isLitV:AV→Bool
 | .ui _ _=>true
 | .ub _=>true
 |_=>false
def litV:AV→Value
 | .ui k n=> .int k n
 | .ub b=> .bool b
 |_=> .bool false
theorem repL_lits {ρ:Nat→Option Nat} {E:Nat→Prop} {w:World}:∀(l:List AV) (cs:List Value),l.all isLitV=true→RepL ρ E w l cs→cs=l.map litV
 | [],cs,_,h=>by simpa[RepL]using h
 |c::l,cs,hl,h=>by
  simp only[List.all_cons,Bool.and_eq_true]at hl
  simp only[RepL]at h
  obtain⟨v,vs,rfl,h1,h2⟩:=h
  rw[repL_lits l vs hl.2 h2]
  cases c<;>simp only[isLitV]at hl<;>first|(cases hl.1;done)|skip
  all_goals (simp only[Rep]at h1;subst h1;rfl)
theorem okT:okTypes PG=true:=by kernel_rfl
theorem pg:PG=Tryz.prog:=by unfold PG;rfl
theorem arr_len {H:Type} {enc:TypeId×Value→H} {P:Program} {w:World} {base:Nat} {sp:Nat→Bool} {held:Bool} {fuel:Nat} {t e:TypeId} {n:Nat} {cs:List Value} {d:DataW H} {p:List MemPlace}
 (ht:P.underlying t=some (.array n e)) (h:DataW.trod enc P w base sp held fuel t cs=some (d,p)):cs.length=P.cellsOf t:=by
 cases fuel with
 |zero=>simp[DataW.trod]at h
 |succ fuel=>
  simp only[DataW.trod,ht]at h
  split at h
  ·rename_i hl
   exact hl
  ·cases h
theorem cs_of_laid {w:World} {fuel:Nat} {t e:TypeId} {n:Nat} {cs:List Value} {d:DataW Unit} {p:List MemPlace} {enc:TypeId×Value→Unit} {held:Bool}
 (ht:Tryz.prog.underlying t=some (.array n e)) (hs:t<Tryz.prog.types.size) (hl:layOk PG 8 t=true) (hlit:(cellsT 8 t (toD d)).all isLitV=true)
 (h:DataW.trod enc Tryz.prog w 0 (fun _=>true) held fuel t cs=some (d,p)):cs=(cellsT 8 t (toD d)).map litV:=by
 have hlen:=arr_len ht h
 have h':DataW.trod enc PG w 0 (fun _=>true) held fuel t cs=some (d,p):=by rw[pg];exact h
 obtain⟨hr,_⟩:=trod_rep (P:=PG) okT fuel t cs d p h' (by rw[pg];exact hlen) (by rw[pg];exact hs)
 exact repL_lits _ _ hlit (cellsT_rep (ρ:=nowhere) 8 t (toD d) cs hl hr)
theorem cells151 (d:D):cellsT 8 151 d=(List.range 20).map fun i=> .ui .u64 (qint (qfld d i)):=by kernel_rfl
theorem lit151 (d:D):(cellsT 8 151 d).all isLitV=true:=by rw[cells151];rfl
theorem cells163 (d:D):cellsT 8 163 d=(List.range 64).map fun i=> .ui .u8 (qint (qfld d i)):=by kernel_rfl
theorem lit163 (d:D):(cellsT 8 163 d).all isLitV=true:=by rw[cells163];rfl
theorem int_un (d:D):qint d=d.toInt:=by rw[qint_eq]
def tabCells (g:Nat):List Value:=((findG g GLT).getD []).map fun a=>match a with | .sc v=>v|_=> .bool false
theorem vals0:(cellsT 8 151 (toD (Rows.laid_internal_strconv_uint64pow10 (H:=Unit)))).map litV=tabCells 0:=by
 rw[cells151];simp only[int_un,qfld_eq];rfl
theorem vals5:(cellsT 8 163 (toD (Rows.laid_math_bits_deBruijn64tab (H:=Unit)))).map litV=tabCells 5:=by
 rw[cells163];simp only[int_un,qfld_eq];rfl
theorem glob5:Tryz.prog.globalNamed "math/bits.deBruijn64tab" = some 5:=by kernel_rfl
theorem gty5:(Tryz.prog.globals[5]?).map (·.type)=some 163:=by kernel_rfl
theorem glob0:Tryz.prog.globalNamed "internal/strconv.uint64pow10" = some 0:=by kernel_rfl
theorem gty0:(Tryz.prog.globals[0]?).map (·.type)=some 151:=by kernel_rfl
theorem var_of {W:World} {name:String} {d:DataW Unit} {g t e n:Nat} {rest:List (String×DataW Unit)} (hg:Tryz.prog.globalNamed name=some g) (hty:(Tryz.prog.globals[g]?).map (·.type)=some t) (ht:Tryz.prog.underlying t=some (.array n e)) (hs:t<Tryz.prog.types.size)
 (hl:layOk PG 8 t=true) (hlit:(cellsT 8 t (toD d)).all isLitV=true) (h:laidMet Tryz.prog ((name,d)::rest) W):∃cs:Array Value,W.var? Tryz.prog name=some cs∧cs.toList=(cellsT 8 t (toD d)).map litV:=by
 obtain⟨ps,⟨g',t',cs,fuel,p,q,hg',ht',hvar,hd,_,_⟩,_⟩:=h
 obtain rfl:=Option.some.inj (hg.symm.trans hg')
 obtain rfl:=Option.some.inj (hty.symm.trans ht')
 exact⟨cs,hvar,cs_of_laid ht hs hl hlit hd⟩
theorem var?_all {W:World} {g:Nat} {name:String} {cs:Array Value} {vs:List Value} (hg:Tryz.prog.globalNamed name=some g) (hvar:W.var? Tryz.prog name=some cs) (he:cs.toList=vs):∃c T f,W.heap[g]? = some (.cells c T f)∧c.size=(vs.map AV.sc).length:=by
 simp only[World.var?,hg,Option.bind_some]at hvar
 split at hvar
 ·rename_i c T f hh
  cases hvar
  exact⟨_,_,_,hh,by rw[List.length_map, ← he,Array.length_toList]⟩
 ·cases hvar
theorem repAt_of {W:World} {E:Nat→Prop} {g:Nat} {name:String} {cs:Array Value} {vs:List Value} (hg:Tryz.prog.globalNamed name=some g) (hvar:W.var? Tryz.prog name=some cs) (he:cs.toList=vs) (h0:0<vs.length):g<W.heap.size∧GlRep E W g (vs.map AV.sc):=by
 have hc:∀(i:Nat),W.cell? ⟨g,i,none⟩=vs[i]? :=fun i=>by rw[World.var?_cell hg hvar i, ← he,Array.getElem?_toList]
 refine⟨?_,RepAt.ofL (RepL.sc vs) fun j u hu=>by rw[Nat.zero_add,hc];exact hu,fun _=>var?_all hg hvar he⟩
 by_cases hlt:g<W.heap.size
 ·exact hlt
 ·exfalso
  have h1:W.heap[g]? = none:=Array.getElem?_eq_none (by omega)
  have h2:=hc 0
  rw[List.getElem?_eq_getElem h0]at h2
  simp[World.cell?,h1]at h2
theorem maxLen (W:World) (h:W.ShapedOpen Tryz.prog):∃m,W.cell? ⟨1,0,none⟩=some (.int .i64 m):=
 cell_of_shapedOpen_int (P:=Tryz.prog) (t:=3) (zero:= #[.int .i64 0]) h (of_decide_eq_true (by kernel_rfl)) (by kernel_rfl) (by kernel_rfl) (by kernel_rfl) (by kernel_rfl) Tryz.underlying3
theorem tabs {W:World} {E:Nat→Prop} {l:List (String×DataW Unit)} (hl:l=Rows.textPrintRow.laid) (h:laidMetH Tryz.prog l W) (hsh:W.ShapedOpen Tryz.prog) {S:FunS} {p s:List D} (g:Nat) (cs:List AV) (hgl:(heapF S p s).glob g=some cs):g<W.heap.size∧GlRep E W g cs:=by
 subst hl
 have hp:∀g,(heapF S p s).glob g=findG g GLT:=fun _=>rfl
 rw[hp]at hgl
 cases g with
 |zero=>
  have hf:=laidMetH.filter (fun x=>x.1 == "internal/strconv.uint64pow10") h
  have e:Rows.textPrintRow.laid.filter (fun x=>x.1 == "internal/strconv.uint64pow10") = [("internal/strconv.uint64pow10",Rows.laid_internal_strconv_uint64pow10)]:=by rfl
  rw[e,MakeChecks.laidMetH_plain _ _ _ (by kernel_rfl)]at hf
  obtain⟨a,h1,h2⟩:=var_of glob0 gty0 Tryz.underlying151 (of_decide_eq_true (by kernel_rfl)) (by kernel_rfl) (lit151 _) hf
  rw[vals0]at h2
  have:=repAt_of (E:=E) glob0 h1 h2 (of_decide_eq_true (by kernel_rfl))
  have e2:findG 0 GLT=some ((tabCells 0).map AV.sc):=by rfl
  rw[e2]at hgl
  cases hgl
  exact this
 |succ g=>
  cases g with
  |zero=>
   obtain⟨m,hm⟩:=maxLen W hsh
   have e2:findG (0+1) GLT=some [.anyI .i64]:=by rfl
   rw[e2]at hgl
   cases hgl
   refine⟨?_,?_⟩
   ·by_cases h0:1<W.heap.size
    ·exact h0
    ·exfalso
     have:W.heap[1]? = none:=Array.getElem?_eq_none (by omega)
     simp[World.cell?,this]at hm
   ·refine⟨?_,fun h=>by cases h⟩
    simp only[RepAt]
    exact⟨⟨_,hm,by simp only[Rep];exact⟨m,rfl⟩⟩,trivial⟩
  |succ g=>
   match g,hgl with
   |0,hgl=>have e2:findG (0+1+1) GLT=none:=rfl
           rw[e2]at hgl;cases hgl
   |1,hgl=>have e2:findG (1+1+1) GLT=none:=rfl
           rw[e2]at hgl;cases hgl
   |2,hgl=>have e2:findG (2+1+1) GLT=none:=rfl
           rw[e2]at hgl;cases hgl
   |3,hgl=>
    have hf:=laidMetH.filter (fun x=>x.1 == "math/bits.deBruijn64tab") h
    have e:Rows.textPrintRow.laid.filter (fun x=>x.1 == "math/bits.deBruijn64tab") = [("math/bits.deBruijn64tab",Rows.laid_math_bits_deBruijn64tab)]:=by rfl
    rw[e,MakeChecks.laidMetH_plain _ _ _ (by kernel_rfl)]at hf
    obtain⟨a,h1,h2⟩:=var_of glob5 gty5 Tryz.underlying163 (of_decide_eq_true (by kernel_rfl)) (by kernel_rfl) (lit163 _) hf
    rw[vals5]at h2
    have:=repAt_of (E:=E) glob5 h1 h2 (of_decide_eq_true (by kernel_rfl))
    have e2:findG 5 GLT=some ((tabCells 5).map AV.sc):=by rfl
    rw[e2]at hgl
    cases hgl
    exact this
   |g+4,hgl=>
    have e2:findG (g+4+1+1) GLT=none:=rfl
    rw[e2]at hgl;cases hgl
end Go.Proofs.YtobhhfbdelnhfaaGreatDoor
namespace Go.Proofs.YtobhhfbdelnhfaaGreatDoor
open Go Go.AM
theorem f24_1:isFld 24 1 22=true:=by kernel_rfl
theorem i22:isInt 22 .u32=true:=by kernel_rfl
theorem imm_conf {x:D} (h:Conf PG 24 x):∃n:Nat,qint (qfld x 1)=n∧n<4294967296:=by
 have h1:=conf_int i22 (conf_fld f24_1 (qconf_iff.2 h))
 rw[qrng_iff]at h1
 simp[IntKind.min,IntKind.max,IntKind.bits,IntKind.signed]at h1
 obtain⟨n,hn⟩:=Int.eq_ofNat_of_zero_le h1.1
 exact⟨n,hn,by omega⟩
theorem sl36:isSl 36 24=true:=by kernel_rfl
theorem conf_ls {d:D} (h:Conf PG 36 d):∀x∈d.toList,∃n:Nat,qint (qfld x 1)=n∧n<4294967296:=by
 obtain⟨_,_,h2⟩:=qconfL_iff.1 (conf_list sl36 (qconf_iff.2 h))
 exact fun x hx=>imm_conf (h2 x hx)
theorem rep36 {w:World} {E:Nat→Prop} {d:D} {v:Value} (h:RepD PG E w 36 d [v]):Rep nowhere E w (.rows 24 d) v:=by
 have hc:cellsT 8 36 d = [.rows 24 d]:=by kernel_rfl
 have:=cellsT_rep (ρ:=nowhere) 8 36 d [v] (by kernel_rfl) h
 rw[hc]at this
 simpa[RepL]using this
theorem sound6:SoundF env.P 6 S6 q6:=by rw[q6_eq];exact liftX_sound envOk ok_tbl6_7 60 12
theorem top6 {d0:D} {n:Int} (c0:Conf PG 36 d0) (hn:0≤n∧n<4294967296) (w:World) (hL:laidMetH Tryz.prog Rows.textAssembleEncodesRow.laid w) (hsh:w.ShapedOpen Tryz.prog) {v0:Value} (r0:RepD PG (fun b=>b<w.heap.size) w 36 d0 [v0]):
 Calls Tryz.prog 6 #[v0, .int .u32 n] w fun e w'=>e = .returned (.bool true)∧RowKit.Below w.heap.size w w':=by
 refine(sound6 [] [d0, .int n] [.bool true] rfl (law6 hn (conf_ls c0)) (fun b=>b<w.heap.size) w nowhere _ w #[v0, .int .u32 n] (Inv.empty w _ (fun _ h=>h) rfl rfl (fun g cs h=>tabs rfl hL hsh g cs h))
  (RepL.cons (rep36 r0) (RepL.cons (show Rep nowhere _ w (.ui .u32 n) (.int .u32 n)by simp only[Rep]) RepL.nil))).mono ?_
 rintro e w' ⟨u,ρ',E',rfl,inv,reach,rep⟩
 have hr:resF S6 [] (bdL [.bool true]) = .ub true:=rfl
 rw[hr]at rep
 simp only[Rep]at rep
 subst rep
 exact⟨rfl,⟨inv.io.1,inv.io.2.1,inv.io.2.2,reach.size,inv.old⟩⟩
end Go.Proofs.YtobhhfbdelnhfaaGreatDoor
