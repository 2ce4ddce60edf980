/-
  Plain laws: names of labels, lists of labels, and the values that operands have, as the program and as the reference read them.
-/
import Derived.Test.YtobhhfbdelnhfaaGreatDoorM2
import Derived.Test.YtobhhfbdelnhfaaGreatDoorM3
import Derived.Test.YtobhhfbdelnhfaaGreatDoorRows
import Derived.Test.YtobhhfbdelnhfaaGreatDoorC1
import Derived.Deep.DeepHandedRow
import Derived.Lib.LaidTab
import Derived.MakeChecks
import Derived.LaidSub
import Derived.FnData
import Derived.Shelf.Vars
import Derived.HandedShaped
set_option linter.unusedVariables false
set_option linter.unusedSimpArgs false
namespace Go.Proofs.YtobhhfbdelnhfaaGreatDoor
noncomputable section
set_option linter.unusedSimpArgs false
set_option linter.unusedVariables false
open Go Go.AM
def okN (i:Nat) (r:Int):Bool:=(decide (97≤r)&&decide (r≤122))||(decide (65≤r)&&decide (r≤90))||decide (r=95)||(!(decide ((i:Int)=0))&&(decide (r=46)||(!(decide (r<48)) && !(decide (57<r)))))
theorem okN_hi {i:Nat} {r:Int} (h:128≤r):okN i r=false:=by
 unfold okN
 simp only[show¬r≤122 by omega,show¬r≤90 by omega,show¬r=95 by omega,show¬r=46 by omega,show 57<r by omega,decide_false,decide_true,Bool.and_false,Bool.or_false,Bool.not_true]
theorem cndN (i:Nat) (r:Int):qiteB (qnot (qiteB (qiteB (qiteB (qcmp BinOp.geq r 97) (qcmp BinOp.leq r 122) Bool.false) Bool.true (qiteB (qcmp BinOp.geq r 65) (qcmp BinOp.leq r 90) Bool.false)) Bool.true (qcmp BinOp.eql r 95))) (qiteB (qcmp BinOp.eql (i:Int) 0) Bool.true (qiteB (qcmp BinOp.neq r 46) (qiteB (qcmp BinOp.lss r 48) Bool.true (qcmp BinOp.gtr r 57)) Bool.false)) Bool.false = !(okN i r):=by
 simp only[qiteB_c,qnot_c,qcmp_geq,qcmp_leq,qcmp_eql,qcmp_neq,qcmp_lss,qcmp_gtr,okN]
 generalize decide (97≤r)=a1
 generalize decide (r≤122)=a2
 generalize decide (65≤r)=a3
 generalize decide (r≤90)=a4
 generalize decide (r=95)=a5
 generalize decide (r=46)=a6
 generalize decide ((i:Int)=0)=a7
 generalize decide (r<48)=a8
 generalize decide (57<r)=a9
 revert a1 a2 a3 a4 a5 a6 a7 a8 a9
 decide
def okNT (s:ByteArray):Nat→Nat→Bool
 |_,0=>true
 |i,k+1=>okN i (byt s i)&&okNT s (i+1) k
theorem loop146 {s:ByteArray}:∀(k i:Nat),i+k=s.size→∃m,loW (st146_2 [.str s, .str s]) [.int i]=some [.int (bif okNT s i k then 0 else 1),m]:=by
 intro k
 induction k with
 |zero=>
  intro i hi
  rw[loW_eq,st146_2_eq,lenS,qcmp_lss]
  simp only[show¬((i:Int)<s.size)by omega,decide_false,cond_false,cond_true,okNT]
  exact⟨_,rfl⟩
 |succ k ih=>
  intro i hi
  have hlt:i<s.size:=by omega
  rw[loW_eq,st146_2_eq,lenS,qcmp_lss,cndN]
  simp only[show((i:Int)<s.size)by omega,decide_true,cond_true,okNT]
  have hr:okN i (qrune s i)=okN i (byt s i):=by
   rw[qrune,veil_eq]
   simp only[Int.toNat_natCast]
   by_cases h:(s.get! i).toNat<128
   ·rw[decode_lo h,byt_get hlt]
   ·rw[okN_hi (by have:=decode_hi h;omega),okN_hi (by rw[← byt_get hlt];omega)]
  rw[hr]
  cases ho:okN i (byt s i)with
  |false=>simp only[Bool.not_false,cond_true,Bool.false_and,cond_false];exact⟨_,rfl⟩
  |true=>
   have hb:(s.get! i).toNat<128:=by
    by_cases h:(s.get! i).toNat<128
    ·exact h
    ·rw[okN_hi (by rw[← byt_get hlt];omega)]at ho;cases ho
   have hw:qiteI true (qrw s i) i=((i+1:Nat):Int):=by
    rw[qiteI_eq,qrw,veil_eq]
    simp only[cond_true,Int.toNat_natCast,decode_lo hb];omega
   simp only[Bool.not_true,cond_false,Bool.true_and,hw]
   exact ih (i+1) (by omega)
theorem loop78 {s:ByteArray} (hs:s.size≤1000):∀(k i:Nat),i+k=s.size→loW (st78_4 [.str s]) [.int i]=some [.int (bif okNT s i k then 0 else 1)]:=by
 intro k
 induction k with
 |zero=>
  intro i hi
  rw[loW_eq,st78_4_eq,lenS,qcmp_lss]
  simp only[show¬((i:Int)<s.size)by omega,decide_false,cond_false,cond_true,okNT]
 |succ k ih=>
  intro i hi
  have hlt:i<s.size:=by omega
  rw[loW_eq,st78_4_eq,lenS,qcmp_lss,cndN,idxS,inbS hlt]
  simp only[show((i:Int)<s.size)by omega,decide_true,cond_true,okNT]
  cases ho:okN i (byt s i)with
  |false=>simp only[Bool.not_false,cond_true,Bool.false_and,cond_false]
  |true=>
   simp only[Bool.not_true,cond_false,Bool.true_and]
   rw[add_nat (by omega)]
   exact ih (i+1) (by omega)
def nmB (l:List UInt8):Bool:=(decide (1≤l.length)&&decide (l.length≤32))&&(okNT (bs l) 0 l.length && !regB l)
theorem spec146 (l:List UInt8):q146 [.str (bs l)]=some [.bool (nmB l)]:=by
 obtain⟨m,h1⟩:=loop146 (s:=bs l) l.length 0 (by rw[bs_size];omega)
 have e1:l146_2 [.str (bs l), .str (bs l)] [.int 0]=some [.int (bif okNT (bs l) 0 l.length then 0 else 1),m]:=by rw[l146_2_eq];exact h1
 rw[q146_eq,F146_eq,e1,(reg_spec l).1,len_bs,show qcmp .geq (l.length:Int) 1=decide (1≤l.length)from geI _ 1,show qcmp .leq (l.length:Int) 32=decide (l.length≤32)from leI' _ 32]
 simp only[qsome_s,qnth_s,List.getD_cons_zero,List.getD_cons_succ,qbool_b,qint_i,qnot_c,qiteB_c,cond_true,qcmp_eql]
 unfold nmB
 cases okNT (bs l) 0 l.length<;>cases regB l<;>cases decide (1≤l.length)<;>cases decide (l.length≤32)<;>rfl
theorem spec78 {l:List UInt8} (hz:l.length≤1000):q78 [.str (bs l)]=some [.bool (nmB l)]:=by
 have h1:=loop78 (s:=bs l) (by rw[bs_size];omega) l.length 0 (by rw[bs_size];omega)
 have e1:l78_4 [.str (bs l)] [.int 0]=some [.int (bif okNT (bs l) 0 l.length then 0 else 1)]:=by rw[l78_4_eq];exact h1
 rw[q78_eq,F78_eq,e1,(reg_spec l).2,len_bs,show qcmp .lss (l.length:Int) 1=decide (l.length<1)from ltI _ 1,show qcmp .gtr (l.length:Int) 32=decide (32<l.length)from gtI _ 32]
 simp only[qsome_s,qnth_s,List.getD_cons_zero,List.getD_cons_succ,qbool_b,qint_i,qnot_c,qiteB_c,cond_true,qcmp_eql]
 unfold nmB
 by_cases a:1≤l.length
 ·by_cases b:l.length≤32
  ·simp only[a,b,show¬l.length<1 by omega,show¬32<l.length by omega,decide_true,decide_false,cond_false,Bool.true_and]
   cases okNT (bs l) 0 l.length<;>rfl
  ·simp only[a,b,show¬l.length<1 by omega,show 32<l.length by omega,decide_true,decide_false,cond_false,cond_true,Bool.and_false,Bool.false_and]
 ·simp only[a,show l.length<1 by omega,decide_true,decide_false,cond_true,Bool.false_and]
abbrev Lab:=List (List UInt8×Int)
def mD (L:Lab):D:= .list (L.map fun p=> .agg [.str (bs p.1), .int p.2])
def lk (L:Lab) (s:List UInt8):Option Int:=match L with
 | []=>none
 |p::r=>if p.1=s then some p.2 else lk r s
def lv (L:Lab) (s:List UInt8):Int:=(lk L s).getD 0
theorem u9:PG.underlying 9=some .string:=by kernel_rfl
theorem kv9 (s:ByteArray):kvD 9 (.str s) = .string s:=by
 unfold kvD;rw[u9];rfl
theorem bs_beq (a b:List UInt8):(bs a==bs b)=decide (a=b):=by
 have h:(bs a==bs b)=((bs a).data==(bs b).data):=rfl
 rw[h,Bool.eq_iff_iff]
 simp only[beq_iff_eq,decide_eq_true_eq]
 constructor
 ·intro e;exact congrArg Array.toList e
 ·rintro rfl;rfl
theorem fld_agg (a b:D):(D.agg [a,b]).fld 0=a∧(D.agg [a,b]).fld 1=b:=⟨rfl,rfl⟩
theorem find_mD (s:List UInt8):∀L:Lab,findD 9 (.str (bs s)) (L.map fun p=>D.agg [.str (bs p.1), .int p.2])=(lk L s).map fun a=> .int a
 | []=>rfl
 |p::r=>by
  have ih:=find_mD s r
  unfold findD at ih ⊢
  rw[List.map_cons,List.find?_cons,(fld_agg _ _).1,kv9,kv9]
  have e:keyEq (Value.string (bs s)) (Value.string (bs p.1))=decide (s=p.1):=bs_beq s p.1
  rw[e]
  unfold lk
  by_cases h:p.1=s
  ·rw[if_pos h,decide_eq_true h.symm];rfl
  ·rw[if_neg h,decide_eq_false (fun e=>h e.symm)];rw[kv9]at ih;exact ih
theorem mhas_eq:qmhas=rmhas:=veil_eq _
theorem mget_eq:qmget=rmget:=veil_eq _
theorem mput_eq:qmput=fun kT m k v=> .list (putD kT k v m.toList):=veil_eq _
theorem mhas_lk (L:Lab) (s:List UInt8):qmhas 9 (mD L) (.str (bs s))=(lk L s).isSome:=by
 rw[mhas_eq];unfold rmhas mD
 simp only[D.toList]
 rw[find_mD];cases lk L s<;>rfl
theorem mget_lk (L:Lab) (s:List UInt8):qmget 9 (.int 0) (mD L) (.str (bs s)) = .int (lv L s):=by
 rw[mget_eq];unfold rmget mD lv
 simp only[D.toList]
 rw[find_mD];cases lk L s<;>rfl
theorem mput_new (s:List UInt8) (a:Int):∀L:Lab,lk L s=none→putD 9 (.str (bs s)) (.int a) (L.map fun p=>D.agg [.str (bs p.1), .int p.2])=(L ++ [(s,a)]).map fun p=>D.agg [.str (bs p.1), .int p.2]
 | [],_=>rfl
 |p::r,h=>by
  unfold lk at h
  by_cases e:p.1=s
  ·rw[if_pos e]at h;cases h
  ·rw[if_neg e]at h
   have ih:=mput_new s a r h
   rw[List.map_cons,putD,(fld_agg _ _).1,kv9,kv9]
   have e2:keyEq (Value.string (bs s)) (Value.string (bs p.1))=decide (s=p.1):=bs_beq s p.1
   rw[e2,decide_eq_false (fun x=>e x.symm),cond_false,ih];rfl
theorem mput_same (s:List UInt8) (a:Int):∀L:Lab,lk L s=some a→putD 9 (.str (bs s)) (.int a) (L.map fun p=>D.agg [.str (bs p.1), .int p.2])=L.map fun p=>D.agg [.str (bs p.1), .int p.2]
 | [],h=>by cases h
 |p::r,h=>by
  unfold lk at h
  rw[List.map_cons,putD,(fld_agg _ _).1,kv9,kv9]
  have e2:keyEq (Value.string (bs s)) (Value.string (bs p.1))=decide (s=p.1):=bs_beq s p.1
  rw[e2]
  by_cases e:p.1=s
  ·rw[if_pos e]at h
   rw[decide_eq_true e.symm,cond_true]
   simp only[Option.some.injEq]at h
   rw[← h, ← e]
  ·rw[if_neg e]at h
   rw[decide_eq_false (fun x=>e x.symm),cond_false,mput_same s a r h]
theorem put_new {L:Lab} {s:List UInt8} (a:Int) (h:lk L s=none):qmput 9 (mD L) (.str (bs s)) (.int a)=mD (L ++ [(s,a)]):=by
 rw[mput_eq];unfold mD
 simp only[D.toList]
 rw[mput_new s a L h]
theorem put_same {L:Lab} {s:List UInt8} {a:Int} (h:lk L s=some a):qmput 9 (mD L) (.str (bs s)) (.int a)=mD L:=by
 rw[mput_eq];unfold mD
 simp only[D.toList]
 rw[mput_same s a L h]
theorem memB {n z:Nat} (hn:n≤1000000) (hz:z≤1000):qmem (n:Int) z=true:=by
 rw[qmem_eq];unfold rmem
 have:n*z≤1000000*1000:=Nat.mul_le_mul hn hz
 simp only[Bool.and_eq_true,decide_eq_true_eq,Int.toNat_natCast]
 omega
theorem app_nm (us:List (List UInt8)) (s:List UInt8):qapp (nameL us) (.list [.str (bs s)])=nameL (us ++ [s]):=by
 unfold nameL;rw[app_list,List.map_append];rfl
theorem len_nm (us:List (List UInt8)):qlen (nameL us)=(us.length:Int):=by rw[qlen_c];simp[nameL,D.toList]
def nmd (s:List UInt8):Bool:= !numB s&&nmB s
def valB (s:List UInt8):Bool:=numB s||nmB s
def valV (L:Lab) (s:List UInt8):Int:=bif numB s then numV s else bif nmB s then lv L s else 0
def usU (us:List (List UInt8)) (s:List UInt8):List (List UInt8):=bif nmd s then us ++ [s]else us
theorem spec125 (L:Lab) (o:D) (a:Int) (kn:Bool) (s:List UInt8) {us:List (List UInt8)} (hu:us.length<1000000):
 q125 [mD L,o, .int a, .bool kn, .str (bs s),nameL us]=some [.int (bif nmB s then lv L s else 0), .bool (nmB s),nameL (bif nmB s then us ++ [s]else us)]:=by
 rw[q125_eq,F125_eq,spec146,app_nm,len_nm,mget_lk,memB (n:=(us ++ [s]).length) (by simp;omega) (by omega)]
 simp only[qsome_s,qnth_s,List.getD_cons_zero,qbool_b,qnot_c,qint_i,cond_true]
 cases nmB s<;>rfl
theorem spec106a (L:Lab) (o:D) (a:Int) (kn:Bool) {ops:List (List UInt8)} {k:Nat} {l:List UInt8} (h:ops[k]? = some l) (hz:l.length≤1000) (b1 b2 b3 bad:Bool) {us:List (List UInt8)} (hu:us.length<1000000):
 q106_a [mD L,o, .int a, .bool kn,opD ops, .bool b1, .bool b2, .bool b3, .int k,nameL us, .bool bad]=some [.int (valV L l), .bool (nmd l),nameL (usU us l), .bool (bad || !valB l)]:=by
 obtain⟨g1,g2⟩:=op_get h
 rw[q106_a_eq,F106_a_eq,g1,g2,(num_spec hz).1,spec125 L o a kn l hu]
 simp only[qsome_s,qnth_s,List.getD_cons_zero,List.getD_cons_succ,qbool_b,qnot_c,cond_true,qint_i]
 unfold valV nmd usU valB nmd
 cases numB l<;>cases nmB l<;>cases bad<;>rfl
theorem spec107a (us:D) (L:Lab) (o:D) (a:Int) (kn:Bool) {ops:List (List UInt8)} {k:Nat} {l:List UInt8} (h:ops[k]? = some l) (b1 b2 b3 bad:Bool):
 q107_a [us,mD L,o, .int a, .bool kn,opD ops, .bool b1, .bool b2, .bool b3, .int k, .bool bad]=some [.int (regV l), .bool (bad || !regB l)]:=by
 obtain⟨g1,g2⟩:=op_get h
 rw[q107_a_eq,F107_a_eq,g1,g2,(reg_spec l).1]
 simp only[qsome_s,qnth_s,List.getD_cons_zero,List.getD_cons_succ,qbool_b,qnot_c,cond_true,qint_i]
 cases regB l<;>simp
theorem spec105a (us:D) (L:Lab) (o:D) (a:Int) (kn:Bool) (ops:List (List UInt8)) (b1 b2 b3 bad:Bool) (n:Nat):
 q105_a [us,mD L,o, .int a, .bool kn,opD ops, .bool b1, .bool b2, .bool b3, .int n, .bool bad]=some [.bool (decide (ops.length=n) && !bad), .bool (bad || !decide (ops.length=n))]:=by
 have hl:qlen (opD ops)=(ops.length:Int):=by rw[qlen_c];simp[opD,nameL,D.toList]
 rw[q105_a_eq,F105_a_eq,hl,neI]
 by_cases h:ops.length=n<;>simp[h,qnot_c]
theorem mD_get (L:Lab) {i:Nat} (h:i<L.length):qget (mD L) (i:Int) = .agg [.str (bs (L.getD i ([],0)).1), .int (L.getD i ([],0)).2]:=by
 rw[qget_n];simp[mD,D.toList,List.getD,h]
theorem mD_len (L:Lab):qlen (mD L)=(L.length:Int):=by rw[qlen_c];simp[mD,D.toList]
theorem loop77 (s:List UInt8) (L:Lab) (hL:L.length≤1000000):∀(k i:Nat),i+k=L.length→loW (st77_9 [.str (bs s),mD L]) [.int i]=some (match lk (L.drop i) s with|none=>[.int 0]|some a=>[.int 1, .int a]):=by
 intro k
 induction k with
 |zero=>
  intro i hi
  rw[loW_eq,st77_9_eq,mD_len,ltI,decide_eq_false (by omega),List.drop_of_length_le (by omega)]
  simp only[cond_false,lk]
 |succ k ih=>
  intro i hi
  have hlt:i<L.length:=by omega
  have hin:qinb (mD L) (i:Int)=true:=by rw[qinb_c];simp[mD,D.toList];omega
  rw[loW_eq,st77_9_eq,mD_len,ltI,decide_eq_true hlt,hin,mD_get L hlt]
  simp only[qfld_agg,List.getD_cons_zero,List.getD_cons_succ,qstr_s,qint_i,eq_bs,cond_true]
  have hd:L.drop i=L.getD i ([],0)::L.drop (i+1):=by rw[List.drop_eq_getElem_cons hlt];simp[List.getD,hlt]
  rw[hd]
  unfold lk
  by_cases h:(L.getD i ([],0)).1=s
  ·rw[decide_eq_true h,if_pos h];rfl
  ·rw[decide_eq_false h,if_neg h]
   simp only[cond_false]
   rw[add_nat (by omega)]
   exact ih (i+1) (by omega)
def valE (L:Lab) (m:Nat) (s:List UInt8):Int:=bif numB s then 0 else bif nmB s then(if m=1 then 0 else match lk L s with|none=>17|some _=>0)else 3
end
end Go.Proofs.YtobhhfbdelnhfaaGreatDoor
namespace Go.Proofs.YtobhhfbdelnhfaaGreatDoor
noncomputable section
set_option linter.unusedSimpArgs false
set_option linter.unusedVariables false
open Go Go.AM
def fmN (n:Int) (w nm:Bool):Int:=bif nm then 2 else fm n w
def arOkN (ops:List (List UInt8)) (w:Bool):Bool:=decide (ops.length=2)&&(regB (op ops 0)&&(bif regB (op ops 1)then !w else valB (op ops 1)))
def arIN (L:Lab) (ops:List (List UInt8)) (w:Bool) (a o z:Int):D:=
 if regB (op ops 1)=true then insD a 0 o 0 0 0 (regV (op ops 0)) (regV (op ops 1)) z else insD a (valV L (op ops 1)) o (fmN (valV L (op ops 1)) w (nmd (op ops 1))) 0 0 (regV (op ops 0)) 0 z
def OTn (L:Lab) (c:Cls) (w:Bool) (ops:List (List UInt8)) (a:Int):List D:=
 match c with
 | .bare k=>bif !w&&decide (ops.length=0)then okD a 0 k 0 0 0 0 0 else erD 3
 | .one o cc=>bif !w&&(decide (ops.length=1)&&regB (op ops 0))then okD a 0 o 0 0 cc (regV (op ops 0)) 0 else erD 3
 | .mem o wd st=>bif !w&&meOk ops st then(bif (plR (meP ops st)).2.2==7 then erD 7 else okD a (plR (meP ops st)).2.1 o 0 wd 0 (regV (meR ops st)) (plR (meP ops st)).1)else erD 3
 | .call=>bif !w&&(decide (ops.length=1)&&valB (op ops 0))then okD a (valV L (op ops 0)) 23 0 0 0 0 0 else erD 3
 | .jumpt=>bif !w&&(decide (ops.length=2)&&(regB (op ops 0)&&valB (op ops 1)))then okD a (valV L (op ops 1)) 22 0 0 0 (regV (op ops 0)) 0 else erD 3
 | .ar k=>bif arOkN ops w then[arIN L ops w a (5+k) (lenI (arIN L ops w a (5+k) 0)), .int 0]else erD 3
 | .jmp cc=>bif decide (ops.length=1)&&valB (op ops 0)then okD a (valV L (op ops 0)) 20 (fmN (off (valV L (op ops 0)) a) w (nmd (op ops 0))) 0 cc 0 0 else erD 3
 | .unk=>erD 3
def usN (us:List (List UInt8)) (c:Cls) (ops:List (List UInt8)):List (List UInt8):=
 match c with
 | .call=>usU us (op ops 0)
 | .jumpt=>usU us (op ops 1)
 | .ar _=>bif regB (op ops 1)then us else usU us (op ops 1)
 | .jmp _=>usU us (op ops 0)
 |_=>us
theorem er3:(erD 3).getD 1 .other = .int 0→False:=by intro e;simp[erD]at e
theorem spec139a (us:D) (L:Lab) (dd:D) (ad:Int) (kn:Bool) {ops:List (List UInt8)} {k:Nat} {l:List UInt8} (h:ops[k]? = some l) (hz:l.length≤1000) (b1 b2 bad far:Bool):
 ∃b n,q139_a [us,mD L,dd, .int ad, .bool kn,opD ops, .bool b1, .bool b2, .int k, .bool bad, .bool far]=some [.int b, .int n, .bool (bad||((plR l).2.2==3)), .bool (far||((plR l).2.2==7))]∧((plR l).2.2=0→b=(plR l).1∧n=(plR l).2.1):=by
 obtain⟨g1,g2⟩:=op_get h
 have c91:ByteArray.mk #[91]=bs [91]:=rfl
 have c93:ByteArray.mk #[93]=bs [93]:=rfl
 rw[q139_a_eq,F139_a_eq,g1,g2,c91,c93,pre59]
 simp only[cond_true,qsome_s,qnth_s,List.getD_cons_zero,List.getD_cons_succ,qbool_b,qstr_s,qnot_c]
 have no:∀(t:List UInt8),(plR l).2.2=3→∃b n,some [D.int 0, .int 0, .bool true, .bool far]=some [.int b, .int n, .bool (bad||((plR l).2.2==3)), .bool (far||((plR l).2.2==7))]∧((plR l).2.2=0→b=(plR l).1∧n=(plR l).2.1):=
  fun t e=>⟨0,0,by rw[e];simp,fun e'=>by omega⟩
 have hpre:List.isPrefixOf [91] l=decide (l.getD 0 0=91∧l≠[]):=by
  cases l with
  |nil=>simp[List.isPrefixOf]
  |cons a m=>
   rw[Bool.eq_iff_iff]
   simp only[List.isPrefixOf,Bool.and_true,beq_iff_eq,decide_eq_true_eq,List.getD_cons_zero,ne_eq,reduceCtorEq,not_false_eq_true,and_true]
   exact eq_comm
 by_cases ho:l.getD 0 0=91∧l≠[]
 case neg=>
  rw[hpre,decide_eq_false ho]
  simp only[cond_false]
  rw[suf62 l [93] (by omega)]
  simp only[cond_true,qsome_s,qnth_s,List.getD_cons_zero,List.getD_cons_succ,qbool_b,qstr_s,qnot_c,qiteB_c,Bool.not_false]
  refine no l ?_
  unfold plR
  rw[if_pos ?_]
  by_cases e:l = []
  ·subst e;left;decide
  ·right;left;exact fun e2=>ho ⟨e2,e⟩
 case pos=>
  rw[hpre,decide_eq_true ho]
  cases l with
  |nil=>exact absurd rfl ho.2
  |cons a m=>
   simp only[List.getD_cons_zero]at ho
   obtain⟨rfl,_⟩:=ho
   simp only[cond_true,Bool.not_true,List.length_cons,List.length_nil,Nat.zero_add,List.drop_succ_cons,List.drop_zero]
   have hmz:m.length≤999:=by simp at hz;omega
   rw[suf62 m [93] (by omega)]
   simp only[cond_true,qsome_s,qnth_s,List.getD_cons_zero,List.getD_cons_succ,qbool_b,qstr_s,qnot_c,qiteB_c,cond_false,Bool.not_false,List.length_cons,List.length_nil,Nat.zero_add]
   have hsf:sfx [93] m=decide (1≤m.length∧m.getD (m.length-1) 0=93):=by
    unfold sfx
    simp only[List.length_cons,List.length_nil,Nat.zero_add]
    by_cases h1:1≤m.length
    ·have hd:m.drop (m.length-1) = [m.getD (m.length-1) 0]:=by
      rw[List.drop_eq_getElem_cons (by omega),List.drop_of_length_le (by omega)]
      simp[List.getD,show m.length-1<m.length by omega]
     rw[hd];simp[h1]
    ·simp[h1]
   by_cases hs:1≤m.length∧m.getD (m.length-1) 0=93
   case neg=>
    rw[hsf,decide_eq_false hs]
    simp only[cond_false,Bool.not_false,cond_true]
    refine no m ?_
    unfold plR
    rw[if_pos ?_]
    by_cases e:m = []
    ·subst e;left;simp
    ·right;right
     have hm:0<m.length:=List.length_pos_iff.2 e
     rw[List.length_cons,show m.length+1-1=(m.length-1)+1 by omega,List.getD_cons_succ]
     exact fun e2=>hs ⟨hm,e2⟩
   case pos=>
    rw[hsf,decide_eq_true hs]
    simp only[cond_true,Bool.not_true,cond_false,len_bs]
    have hlt:(m.take (m.length-1)).length=m.length-1:=by simp
    rw[hlt,show qcmp .lss ((m.length-1:Nat):Int) 2=decide (m.length-1<2)from ltI _ 2]
    by_cases h3:m.length-1<2
    ·rw[decide_eq_true h3]
     simp only[cond_true]
     refine no m ?_
     unfold plR
     rw[if_pos ?_]
     left;simp;omega
    ·rw[decide_eq_false h3]
     simp only[cond_false]
     have e1:qsubS (bs (m.take (m.length-1))) 0 2=bs (m.take 2):=by
      have:=sub_to (m.take (m.length-1)) 2
      rw[List.take_take,Nat.min_eq_left (by omega)]at this
      exact this
     have e2:qsubS (bs (m.take (m.length-1))) 2 ((m.length-1:Nat):Int)=bs ((m.take (m.length-1)).drop 2):=by
      have:=sub_from (m.take (m.length-1)) 2
      rw[hlt]at this
      exact this
     rw[e1,e2,(reg_spec _).1]
     have c0:ByteArray.mk #[]=bs []:=rfl
     simp only[qsome_s,qnth_s,List.getD_cons_zero,List.getD_cons_succ,qbool_b,qint_i,qnot_c,cond_true]
     rw[show qcmp .leq 0 0=true by rw[qcmp_leq];rfl,show qcmp .leq 0 2=true by rw[qcmp_leq];rfl,show qcmp .leq 2 ((m.length-1:Nat):Int)=true by rw[qcmp_leq];exact decide_eq_true (by omega),leI',decide_eq_true (Nat.le_refl _),c0,eq_bs]
     simp only[cond_true]
     have hp:plR (91::m)=(if regB (m.take 2)=false then((0,0,3):Int×Int×Int)else match(m.take (m.length-1)).drop 2 with
      | []=>(regV (m.take 2),0,0)
      |a::r=>plT (regV (m.take 2)) (numB r) (numV r) a (r.getD 0 0)):=by
      conv=>lhs;unfold plR
      rw[if_neg]
      ·have:(List.take ((91::m).length-1) (91::m)).drop 3=(m.take (m.length-1)).drop 2:=by
        rw[List.length_cons,show m.length+1-1=(m.length-1)+1 by omega,List.take_succ_cons,List.drop_succ_cons]
       rw[this];rfl
      ·simp only[not_or,Decidable.not_not]
       refine⟨by simp;omega,rfl,?_⟩
       rw[List.length_cons,show m.length+1-1=(m.length-1)+1 by omega,List.getD_cons_succ]
       exact hs.2
     rw[hp]at no ⊢
     clear hp e1 e2 hsf hpre
     have hrl:((m.take (m.length-1)).drop 2).length≤999:=by simp;omega
     generalize (m.take (m.length-1)).drop 2=r at *
     cases hb:regB (m.take 2)with
     |false=>
      rw[hb]at no
      simp only[Bool.not_false,cond_true,cond_false,qiteB_c,if_true]at no ⊢
      cases decide (r = [])<;>exact no m (by trivial)
     |true=>
      rw[hb]at no
      simp only[Bool.not_true,cond_true,cond_false,qiteB_c,Bool.true_eq_false,if_false]at no ⊢
      cases r with
      |nil=>
       simp only[decide_true,cond_true]
       exact⟨_,_,by simp,fun _=>⟨rfl,rfl⟩⟩
      |cons a r=>
       rw[decide_eq_false (by simp)]
       simp only[cond_false]
       simp only at no ⊢
       have hrz:r.length≤1000:=by simp at hrl;omega
       rw[len_bs,show qcmp .lss (((a::r).length:Nat):Int) 2=decide ((a::r).length<2)from ltI _ 2]
       by_cases hr0:r = []
       ·subst hr0
        rw[decide_eq_true (by simp)]
        simp only[cond_true]
        refine no m ?_
        simp[plT,num_nil]
       ·have hrp:0<r.length:=List.length_pos_iff.2 hr0
        rw[decide_eq_false (by simp;omega)]
        have h1:qsubS (bs (a::r)) 1 (((a::r).length:Nat):Int)=bs r:=sub_from (a::r) 1
        have hx0:qidxS (bs (a::r)) 0=(a.toNat:Int):=idx_bs (a::r) 0
        have hi0:qinbS (bs (a::r)) 0=true:=inb_bs (i:=0) (by simp)
        have hx1:qidxS (bs (a::r)) 1=((r.getD 0 0).toNat:Int):=idx_bs (a::r) 1
        have hi1:qinbS (bs (a::r)) 1=true:=inb_bs (i:=1) (by simp;omega)
        rw[h1,(num_spec hrz).1,hx0,hx1,hi0,hi1,show qcmp .leq 0 1=true by rw[qcmp_leq];rfl,show qcmp .leq 1 (((a::r).length:Nat):Int)=true by rw[qcmp_leq];exact decide_eq_true (by simp;omega),leI',decide_eq_true (Nat.le_refl _),
         show qcmp .eql ((r.getD 0 0).toNat:Int) 45=decide (r.getD 0 0=45)from eq8 _ 45 (by omega),show qcmp .neq (a.toNat:Int) 43 = !decide (a=43)from neq8 _ 43 (by omega),show qcmp .neq (a.toNat:Int) 45 = !decide (a=45)from neq8 _ 45 (by omega),
         show qcmp .eql (a.toNat:Int) 43=decide (a=43)from eq8 _ 43 (by omega)]
        simp only[qsome_s,qnth_s,List.getD_cons_zero,List.getD_cons_succ,qbool_b,qint_i,qnot_c,qand_c,qiteI_eq,qcmp_gtr,neg0,cond_true,cond_false,Bool.and_self]
        clear hx0 hx1 hi0 hi1 h1 no
        generalize r.getD 0 0=c0
        generalize regV (m.take 2)=g
        generalize numV r=nv
        generalize numB r=nb
        by_cases hm:c0=45
        ·have hT:plT g nb nv a c0=(0,0,3):=by simp[plT,hm]
         rw[hT]
         by_cases ha:a=43<;>by_cases ha2:a=45<;>simp[ha,ha2,hm]
        ·cases nb with
         |false=>
          have hT:plT g false nv a c0=(0,0,3):=by simp[plT]
          rw[hT]
          by_cases ha:a=43<;>by_cases ha2:a=45<;>simp[ha,ha2,hm]
         |true=>
          by_cases ha:a=43
          ·subst ha
           by_cases hv:127<nv
           ·have hT:plT g true nv 43 c0=(0,0,7):=by simp[plT,hm,hv]
            rw[hT]
            cases far<;>simp[hv,hm]
           ·have hT:plT g true nv 43 c0=(g,nv,0):=by simp[plT,hm,hv];omega
            rw[hT]
            cases far<;>simp[hv,hm]
          ·by_cases ha2:a=45
           ·subst ha2
            by_cases hv:128<nv
            ·have hT:plT g true nv 45 c0=(0,0,7):=by simp[plT,hm,hv]
             rw[hT]
             cases far<;>simp[hv,hm]
            ·have hT:plT g true nv 45 c0=(g,qbin .sub .u32 0 nv,0):=by simp[plT,hm,hv]
             rw[hT]
             cases far<;>simp[hv,hm]
           ·have hT:plT g true nv a c0=(0,0,3):=by simp[plT,ha,ha2]
            rw[hT]
            simp[ha,ha2,hm]
theorem spec66a (us:D) (L:Lab) (dd:D) (ad:Int) (kn:Bool) (ops:List (List UInt8)) (b1 w b3:Bool) (o wd cc:Int):
 ∃I b,q66_a [us,mD L,dd, .int ad, .bool kn,opD ops, .bool b1, .bool w, .bool b3,insD 0 0 o 0 wd cc 0 0 0, .bool false]=some [I, .bool b]∧b = !(decide (ops.length=1)&&regB (op ops 0))∧
  (b=false→I=insD 0 0 o 0 wd cc (regV (op ops 0)) 0 0):=by
 have e1:q105_a [us,mD L,dd, .int ad, .bool kn,opD ops, .bool b1, .bool w, .bool b3, .int 1, .bool false]=some [.bool (decide (ops.length=1) && !false), .bool (false || !decide (ops.length=1))]:=spec105a us L dd ad kn ops b1 w b3 false 1
 obtain⟨f0,f1,f2,f3,f4,f5,f6,f7,f8⟩:=insF 0 0 o 0 wd cc 0 0 0
 rw[q66_a_eq,F66_a_eq,e1]
 by_cases h:ops.length=1
 ·have e2:q107_a [us,mD L,dd, .int ad, .bool kn,opD ops, .bool b1, .bool w, .bool b3, .int 0, .bool false]=some [.int (regV (op ops 0)), .bool (false || !regB (op ops 0))]:=spec107a us L dd ad kn (op_at (k:=0) (by omega)) b1 w b3 false
  simp only[h,decide_true,Bool.not_false,Bool.not_true,Bool.and_self,Bool.or_false,Bool.false_or,qsome_s,qnth_s,List.getD_cons_zero,List.getD_cons_succ,qbool_b,qnot_c,cond_true,cond_false,e2,qint_i,Bool.true_and,f0,f1,f2,f3,f4,f5,f6,f7,f8]
  exact⟨_,_,rfl,rfl,fun _=>rfl⟩
 ·simp only[h,decide_false,Bool.false_and,Bool.not_false,Bool.or_true,Bool.false_or,qsome_s,qnth_s,List.getD_cons_zero,List.getD_cons_succ,qbool_b,qnot_c,cond_false,cond_true]
  exact⟨_,true,rfl,rfl,fun e=>by cases e⟩
theorem spec110a (us:D) (L:Lab) (dd:D) (ad:Int) (kn:Bool) {ops:List (List UInt8)} (hs:Short ops) (b1 w st:Bool) (o wd:Int):
 ∃I b f,q110_a [us,mD L,dd, .int ad, .bool kn,opD ops, .bool b1, .bool w,insD 0 0 o 0 wd 0 0 0 0, .bool st, .bool false, .bool false]=some [I, .bool b, .bool f]∧b = !meOk ops st∧
  (meOk ops st=true→f=((plR (meP ops st)).2.2==7))∧(meOk ops st=true→(plR (meP ops st)).2.2=0→I=insD 0 (plR (meP ops st)).2.1 o 0 wd 0 (regV (meR ops st)) (plR (meP ops st)).1 0):=by
 have e1:∀b3,q105_a [us,mD L,dd, .int ad, .bool kn,opD ops, .bool b3, .bool b1, .bool w, .int 2, .bool false]=some [.bool (decide (ops.length=2) && !false), .bool (false || !decide (ops.length=2))]:=fun b3=>spec105a us L dd ad kn ops b3 b1 w false 2
 obtain⟨f0,f1,f2,f3,f4,f5,f6,f7,f8⟩:=insF 0 0 o 0 wd 0 0 0 0
 rw[q110_a_eq,F110_a_eq,e1]
 unfold meOk meR meP
 by_cases h:ops.length=2
 ·cases st with
  |true=>
   obtain⟨x,n,h139,hx⟩:=spec139a us L dd ad kn (op_at (k:=0) (by omega)) (op_short hs (k:=0) (by omega)) b1 w false false
   have e2:q139_a [us,mD L,dd, .int ad, .bool kn,opD ops, .bool b1, .bool w, .int 0, .bool false, .bool false]=some [.int x, .int n, .bool (false||((plR (op ops 0)).2.2==3)), .bool (false||((plR (op ops 0)).2.2==7))]:=h139
   have e3:∀b3 bad,q107_a [us,mD L,dd, .int ad, .bool kn,opD ops, .bool b3, .bool b1, .bool w, .int 1, .bool bad]=some [.int (regV (op ops 1)), .bool (bad || !regB (op ops 1))]:=fun b3 bad=>spec107a us L dd ad kn (op_at (k:=1) (by omega)) b3 b1 w bad
   simp only[h,decide_true,Bool.not_false,Bool.not_true,Bool.and_self,Bool.or_false,Bool.false_or,qsome_s,qnth_s,List.getD_cons_zero,List.getD_cons_succ,qbool_b,qnot_c,cond_true,cond_false,e2,e3,qint_i,Bool.true_and,f0,f1,f2,f3,f4,f5,f6,f7,f8]
   refine⟨_,_,_,rfl,by cases regB (op ops 1)<;>cases ((plR (op ops 0)).2.2==3)<;>rfl,fun _=>rfl,fun _ e=> ?_⟩
   obtain⟨rfl,rfl⟩:=hx e
   rfl
  |false=>
   have e3:∀b3 bad,q107_a [us,mD L,dd, .int ad, .bool kn,opD ops, .bool b3, .bool b1, .bool w, .int 0, .bool bad]=some [.int (regV (op ops 0)), .bool (bad || !regB (op ops 0))]:=fun b3 bad=>spec107a us L dd ad kn (op_at (k:=0) (by omega)) b3 b1 w bad
   obtain⟨x,n,h139,hx⟩:=spec139a us L dd ad kn (op_at (k:=1) (by omega)) (op_short hs (k:=1) (by omega)) b1 w (!regB (op ops 0)) false
   have e2:q139_a [us,mD L,dd, .int ad, .bool kn,opD ops, .bool b1, .bool w, .int 1, .bool (!regB (op ops 0)), .bool false]=some [.int x, .int n, .bool (!regB (op ops 0)||((plR (op ops 1)).2.2==3)), .bool (false||((plR (op ops 1)).2.2==7))]:=h139
   simp only[h,decide_true,Bool.not_false,Bool.not_true,Bool.and_self,Bool.or_false,Bool.false_or,qsome_s,qnth_s,List.getD_cons_zero,List.getD_cons_succ,qbool_b,qnot_c,cond_true,cond_false,e2,e3,qint_i,Bool.true_and,f0,f1,f2,f3,f4,f5,f6,f7,f8]
   refine⟨_,_,_,rfl,by cases regB (op ops 0)<;>cases ((plR (op ops 1)).2.2==3)<;>rfl,fun _=>rfl,fun _ e=> ?_⟩
   obtain⟨rfl,rfl⟩:=hx e
   rfl
 ·simp only[h,decide_false,Bool.false_and,Bool.not_false,Bool.or_true,Bool.false_or,qsome_s,qnth_s,List.getD_cons_zero,List.getD_cons_succ,qbool_b,qnot_c,cond_true]
  exact⟨_,true,_,rfl,rfl,(fun e=>by cases e),(fun e=>by cases e)⟩
theorem fin66a (us:D) (L:Lab) (dd:D) (ad:Int) (kn:Bool) (ops:List (List UInt8)) (b1 w b3:Bool) (o a:Int):
 ∃I b,q66_a [us,mD L,dd, .int ad, .bool kn,opD ops, .bool b1, .bool w, .bool b3,insD 0 0 o 0 0 0 0 0 0, .bool false]=some [I, .bool b]∧FIN I b false w a=OTn L (.one o 0) w ops a:=by
 obtain⟨I,b,e,hb,hI⟩:=spec66a us L dd ad kn ops b1 w b3 o 0 0
 refine⟨I,b,e,?_⟩
 simp only[OTn]
 cases w with
 |true=>rw[FIN_wide];rfl
 |false=>
  cases hc:(decide (ops.length=1)&&regB (op ops 0))with
  |false=>rw[hc]at hb;subst hb;exact FIN_bad _ _ _ _
  |true=>rw[hc]at hb;subst hb;rw[hI rfl];exact FIN_ins _ _ _ _ _ _ _ _
theorem fin110a (us:D) (L:Lab) (dd:D) (ad:Int) (kn:Bool) {ops:List (List UInt8)} (hs:Short ops) (b1 w st:Bool) (o wd a:Int):
 ∃I b f,q110_a [us,mD L,dd, .int ad, .bool kn,opD ops, .bool b1, .bool w,insD 0 0 o 0 wd 0 0 0 0, .bool st, .bool false, .bool false]=some [I, .bool b, .bool f]∧∀w',FIN I b f w' a=OTn L (.mem o wd st) w' ops a:=by
 obtain⟨I,b,f,e,hb,hf,hI⟩:=spec110a us L dd ad kn hs b1 w st o wd
 refine⟨I,b,f,e,fun w'=> ?_⟩
 simp only[OTn]
 cases w' with
 |true=>rw[FIN_wide];rfl
 |false=>
  cases hc:meOk ops st with
  |false=>rw[hc]at hb;subst hb;exact FIN_bad _ _ _ _
  |true=>
   rw[hc]at hb
   subst hb
   rw[hf hc]
   rcases plE (meP ops st)with h|h|h
   ·rw[hI hc h,h];exact FIN_ins _ _ _ _ _ _ _ _
   ·exfalso
    unfold meOk at hc
    rw[h]at hc
    simp at hc
   ·rw[h];rfl
theorem fin66sa (us:D) (L:Lab) (dd:D) (ad:Int) (kn:Bool) (ops:List (List UInt8)) (b1 w b3:Bool) (cc a:Int):
 ∃I b,q66_a [us,mD L,dd, .int ad, .bool kn,opD ops, .bool b1, .bool w, .bool b3,insD 0 0 25 0 0 cc 0 0 0, .bool false]=some [I, .bool b]∧FIN I b false w a=OTn L (.one 25 cc) w ops a:=by
 obtain⟨I,b,e,hb,hI⟩:=spec66a us L dd ad kn ops b1 w b3 25 0 cc
 refine⟨I,b,e,?_⟩
 simp only[OTn]
 cases w with
 |true=>rw[FIN_wide];rfl
 |false=>
  cases hc:(decide (ops.length=1)&&regB (op ops 0))with
  |false=>rw[hc]at hb;subst hb;exact FIN_bad _ _ _ _
  |true=>rw[hc]at hb;subst hb;rw[hI rfl];exact FIN_ins _ _ _ _ _ _ _ _
theorem spec65a (L:Lab) (o:D) (ad:Int) (kn:Bool) {us:List (List UInt8)} (hu:us.length<1000000) {ops:List (List UInt8)} (hs:Short ops) (w:Bool) (cc a:Int):
 ∃I b us',q65_a [mD L,o, .int ad, .bool kn,opD ops, .bool false, .bool w, .int cc, .int a,nameL us, .bool false, .bool false]=some [I,nameL us', .bool b, .bool true]∧FIN I b false false a=OTn L (.jmp cc) w ops a∧(ops.length=1→us'=usN us (.jmp cc) ops):=by
 have e1:q105_a [nameL us,mD L,o, .int ad, .bool kn,opD ops, .bool false, .bool w, .bool true, .int 1, .bool false]=some [.bool (decide (ops.length=1) && !false), .bool (false || !decide (ops.length=1))]:=spec105a (nameL us) L o ad kn ops false w true false 1
 rw[q65_a_eq,F65_a_eq]
 simp only[e1,OTn]
 by_cases h:ops.length=1
 ·have e2:q106_a [mD L,o, .int ad, .bool kn,opD ops, .bool false, .bool w, .bool true, .int 0,nameL us, .bool false]=some [.int (valV L (op ops 0)), .bool (nmd (op ops 0)),nameL (usU us (op ops 0)), .bool (false || !valB (op ops 0))]:=
   spec106a L o ad kn (op_at (k:=0) (by omega)) (op_short hs (k:=0) (by omega)) false w true false hu
  simp only[h,decide_true,Bool.not_false,Bool.not_true,Bool.and_self,Bool.or_false,Bool.false_or,qsome_s,qnth_s,List.getD_cons_zero,List.getD_cons_succ,qbool_b,qnot_c,cond_true,cond_false,e2,qint_i,Bool.true_and,qiteB_c]
  have ho:qbin .sub .u32 (qbin .sub .u32 (valV L (op ops 0)) a) 2=off (valV L (op ops 0)) a:=rfl
  rw[ho]
  have hni:qcmp .eql (qwrap .u32 (qwrap .i8 (off (valV L (op ops 0)) a))) (off (valV L (op ops 0)) a)=nearI (off (valV L (op ops 0)) a):=rfl
  rw[hni]
  unfold fmN fm
  cases hb:valB (op ops 0)with
  |false=>
   cases nmd (op ops 0)<;>cases nearI (off (valV L (op ops 0)) a)<;>cases w<;>exact⟨_,true,_,rfl,FIN_bad _ _ _ _,fun _=>rfl⟩
  |true=>
   cases nmd (op ops 0)<;>cases nearI (off (valV L (op ops 0)) a)<;>cases w<;>exact⟨_,false,_,rfl,FIN_ins _ _ _ _ _ _ _ _,fun _=>rfl⟩
 ·simp only[h,decide_false,Bool.false_and,Bool.not_false,Bool.or_true,Bool.false_or,qsome_s,qnth_s,List.getD_cons_zero,List.getD_cons_succ,qbool_b,qnot_c,cond_true,cond_false]
  exact⟨_,true,us,rfl,FIN_bad _ _ _ _,fun e=>e.elim⟩
theorem spec67a (L:Lab) (o:D) (ad:Int) (kn:Bool) {us:List (List UInt8)} (hu:us.length<1000000) {ops:List (List UInt8)} (hs:Short ops) (w:Bool) (k a:Int):
 ∃I b us' t,q67_a [mD L,o, .int ad, .bool kn,opD ops, .bool false, .bool w, .int (5+k),nameL us, .bool false, .bool false]=some [I,nameL us', .bool b, .bool t]∧FIN I (bif b then true else(bif w then !t else false)) false false a=OTn L (.ar k) w ops a∧(ops.length=2→us'=usN us (.ar k) ops):=by
 have e1:q105_a [nameL us,mD L,o, .int ad, .bool kn,opD ops, .bool false, .bool w, .bool false, .int 2, .bool false]=some [.bool (decide (ops.length=2) && !false), .bool (false || !decide (ops.length=2))]:=spec105a (nameL us) L o ad kn ops false w false false 2
 rw[q67_a_eq,F67_a_eq]
 simp only[e1,OTn,arOkN,arIN,usN]
 by_cases h:ops.length=2
 ·have e2:q107_a [nameL us,mD L,o, .int ad, .bool kn,opD ops, .bool false, .bool w, .bool false, .int 0, .bool false]=some [.int (regV (op ops 0)), .bool (false || !regB (op ops 0))]:=spec107a (nameL us) L o ad kn (op_at (k:=0) (by omega)) false w false false
  obtain⟨g1,g2⟩:=op_get (op_at (ops:=ops) (k:=1) (by omega))
  have g1':qinb (opD ops) 1=true:=g1
  have g2':qstr (qget (opD ops) 1)=bs (op ops 1):=g2
  have e3:∀bad,q106_a [mD L,o, .int ad, .bool kn,opD ops, .bool false, .bool w, .bool true, .int 1,nameL us, .bool bad]=some [.int (valV L (op ops 1)), .bool (nmd (op ops 1)),nameL (usU us (op ops 1)), .bool (bad || !valB (op ops 1))]:=fun bad=>
   spec106a L o ad kn (op_at (k:=1) (by omega)) (op_short hs (k:=1) (by omega)) false w true bad hu
  simp only[h,decide_true,Bool.not_false,Bool.not_true,Bool.and_self,Bool.or_false,Bool.false_or,qsome_s,qnth_s,List.getD_cons_zero,List.getD_cons_succ,qbool_b,qnot_c,cond_true,cond_false,e2,qint_i,Bool.true_and,g1',g2',(reg_spec (op ops 1)).1,e3,qiteB_c]
  cases hr:regB (op ops 1)with
  |true=>
   simp only[cond_true,if_true]
   cases hr0:regB (op ops 0)<;>cases w
   ·exact⟨_,_,us,_,rfl,FIN_bad _ _ _ _,fun _=>rfl⟩
   ·exact⟨_,_,us,_,rfl,FIN_bad _ _ _ _,fun _=>rfl⟩
   ·exact⟨_,_,us,_,rfl,FIN_ins _ _ _ _ _ _ _ _,fun _=>rfl⟩
   ·exact⟨_,_,us,_,rfl,FIN_bad _ _ _ _,fun _=>rfl⟩
  |false=>
   simp only[cond_false,Bool.false_eq_true,if_false]
   have hni:qcmp .eql (qwrap .u32 (qwrap .i8 (valV L (op ops 1)))) (valV L (op ops 1))=nearI (valV L (op ops 1)):=rfl
   rw[hni]
   unfold fmN fm
   cases hr0:regB (op ops 0)with
   |false=>
    cases valB (op ops 1)<;>cases nmd (op ops 1)<;>cases nearI (valV L (op ops 1))<;>cases w<;>exact⟨_,_,_,_,rfl,FIN_bad _ _ _ _,fun _=>rfl⟩
   |true=>
    cases hb:valB (op ops 1)with
    |false=>cases nmd (op ops 1)<;>cases nearI (valV L (op ops 1))<;>cases w<;>exact⟨_,_,_,_,rfl,FIN_bad _ _ _ _,fun _=>rfl⟩
    |true=>cases nmd (op ops 1)<;>cases nearI (valV L (op ops 1))<;>cases w<;>exact⟨_,_,_,_,rfl,FIN_ins _ _ _ _ _ _ _ _,fun _=>rfl⟩
 ·simp only[h,decide_false,Bool.false_and,Bool.not_false,Bool.or_true,Bool.false_or,qsome_s,qnth_s,List.getD_cons_zero,List.getD_cons_succ,qbool_b,qnot_c,cond_true,cond_false]
  exact⟨_,true,us,_,rfl,FIN_bad _ _ _ _,fun e=>e.elim⟩
theorem fin111a (L:Lab) (o:D) (ad:Int) (kn:Bool) {us:List (List UInt8)} (hu:us.length<1000000) {ops:List (List UInt8)} (hs:Short ops) (b1 w b3:Bool) (m:List UInt8) (a:Int):
 ∃I us' b,q111_a [mD L,o, .int ad, .bool kn,opD ops, .bool b1, .bool w, .bool b3, .str (bs m),nameL us, .bool false]=some [I,nameL us', .bool b]∧
  ∀w',FIN I b false w' a=OTn L (if m = [99,97,108,108]then .call else if m = [106,117,109,112,116]then .jumpt else .unk) w' ops a∧
  ((OTn L (if m = [99,97,108,108]then .call else if m = [106,117,109,112,116]then .jumpt else .unk) w' ops a).getD 1 .other = .int 0→us'=usN us (if m = [99,97,108,108]then .call else if m = [106,117,109,112,116]then .jumpt else .unk) ops):=by
 have e1:∀n:Nat,q105_a [nameL us,mD L,o, .int ad, .bool kn,opD ops, .bool b1, .bool w, .bool b3, .int n, .bool false]=some [.bool (decide (ops.length=n) && !false), .bool (false || !decide (ops.length=n))]:=fun n=>spec105a (nameL us) L o ad kn ops b1 w b3 false n
 have e11:q105_a [nameL us,mD L,o, .int ad, .bool kn,opD ops, .bool b1, .bool w, .bool b3, .int 1, .bool false]=some [.bool (decide (ops.length=1) && !false), .bool (false || !decide (ops.length=1))]:=e1 1
 have e12:q105_a [nameL us,mD L,o, .int ad, .bool kn,opD ops, .bool b1, .bool w, .bool b3, .int 2, .bool false]=some [.bool (decide (ops.length=2) && !false), .bool (false || !decide (ops.length=2))]:=e1 2
 rw[q111_a_eq,F111_a_eq]
 simp only[mkB,eq_bs]
 by_cases hc:m = [99,97,108,108]
 ·rw[decide_eq_true hc,if_pos hc,e11]
  by_cases h:ops.length=1
  ·have e2:q106_a [mD L,o, .int ad, .bool kn,opD ops, .bool b1, .bool w, .bool b3, .int 0,nameL us, .bool false]=some [.int (valV L (op ops 0)), .bool (nmd (op ops 0)),nameL (usU us (op ops 0)), .bool (false || !valB (op ops 0))]:=
    spec106a L o ad kn (op_at (k:=0) (by omega)) (op_short hs (k:=0) (by omega)) b1 w b3 false hu
   simp only[h,decide_true,Bool.not_false,Bool.not_true,Bool.and_self,Bool.or_false,Bool.false_or,qsome_s,qnth_s,List.getD_cons_zero,List.getD_cons_succ,qbool_b,qnot_c,cond_true,cond_false,e2,qint_i,Bool.true_and,insD_eq]
   refine⟨_,_,_,rfl,fun w'=>⟨?_,fun _=>rfl⟩⟩
   simp only[OTn]
   cases w' with
   |true=>rw[FIN_wide];rfl
   |false=>
    cases hb:valB (op ops 0)with
    |false=>rw[show(!false:Bool)=true from rfl,FIN_bad];simp[h]
    |true=>rw[show(!true:Bool)=false from rfl,FIN_ins];simp[h]
  ·simp only[h,decide_false,Bool.false_and,Bool.not_false,Bool.or_true,Bool.false_or,qsome_s,qnth_s,List.getD_cons_zero,List.getD_cons_succ,qbool_b,qnot_c,cond_true,cond_false]
   have hO:∀w',OTn L .call w' ops a=erD 3:=fun w'=>by simp only[OTn];cases w'<;>simp[h]
   refine⟨_,us,true,rfl,fun w'=>⟨?_,fun e=> ?_⟩⟩
   ·rw[FIN_bad,hO]
   ·rw[hO]at e;exact(er3 e).elim
 ·rw[decide_eq_false hc,if_neg hc]
  by_cases hj:m = [106,117,109,112,116]
  ·rw[decide_eq_true hj,if_pos hj,e12]
   by_cases h:ops.length=2
   ·have e3:q107_a [nameL us,mD L,o, .int ad, .bool kn,opD ops, .bool b1, .bool w, .bool b3, .int 0, .bool false]=some [.int (regV (op ops 0)), .bool (false || !regB (op ops 0))]:=spec107a (nameL us) L o ad kn (op_at (k:=0) (by omega)) b1 w b3 false
    have e2:∀bad,q106_a [mD L,o, .int ad, .bool kn,opD ops, .bool b1, .bool w, .bool b3, .int 1,nameL us, .bool bad]=some [.int (valV L (op ops 1)), .bool (nmd (op ops 1)),nameL (usU us (op ops 1)), .bool (bad || !valB (op ops 1))]:=fun bad=>
     spec106a L o ad kn (op_at (k:=1) (by omega)) (op_short hs (k:=1) (by omega)) b1 w b3 bad hu
    simp only[h,decide_true,Bool.not_false,Bool.not_true,Bool.and_self,Bool.or_false,Bool.false_or,qsome_s,qnth_s,List.getD_cons_zero,List.getD_cons_succ,qbool_b,qnot_c,cond_true,cond_false,e2,e3,qint_i,Bool.true_and,insD_eq]
    refine⟨_,_,_,rfl,fun w'=>⟨?_,fun _=>rfl⟩⟩
    simp only[OTn]
    cases w' with
    |true=>rw[FIN_wide];rfl
    |false=>
     cases hb:valB (op ops 1)with
     |false=>rw[show(!regB (op ops 0) || !false:Bool)=true by simp,FIN_bad];simp[h]
     |true=>
      cases hr:regB (op ops 0)with
      |false=>rw[show(!false || !true:Bool)=true from rfl,FIN_bad];simp[h]
      |true=>rw[show(!true || !true:Bool)=false from rfl,FIN_ins];simp[h]
   ·simp only[h,decide_false,Bool.false_and,Bool.not_false,Bool.or_true,Bool.false_or,qsome_s,qnth_s,List.getD_cons_zero,List.getD_cons_succ,qbool_b,qnot_c,cond_true,cond_false]
    have hO:∀w',OTn L .jumpt w' ops a=erD 3:=fun w'=>by simp only[OTn];cases w'<;>simp[h]
    refine⟨_,us,true,rfl,fun w'=>⟨?_,fun e=> ?_⟩⟩
    ·rw[FIN_bad,hO]
    ·rw[hO]at e;exact(er3 e).elim
  ·rw[decide_eq_false hj,if_neg hj]
   simp only[cond_false]
   exact⟨_,us,true,rfl,fun w'=>⟨by rw[FIN_bad];rfl,fun _=>rfl⟩⟩
end
end Go.Proofs.YtobhhfbdelnhfaaGreatDoor
namespace Go.Proofs.YtobhhfbdelnhfaaGreatDoor
set_option linter.unusedSimpArgs false
set_option linter.unusedVariables false
open Go Go.AM
theorem fin68a (L:Lab) (o:D) (ad:Int) (kn:Bool) {us:List (List UInt8)} (hu:us.length<1000000) {ops:List (List UInt8)} (hs:Short ops) (w:Bool) (m:List UInt8) (a:Int):
 ∃I us' b f,q68_a [mD L,o, .int ad, .bool kn,opD ops, .bool w, .bool false, .str (bs m),nameL us, .bool false, .bool false]=some [I,nameL us', .bool b, .bool f]∧FIN I b f w a=OTn L (clsO m) w ops a∧((OTn L (clsO m) w ops a).getD 1 .other = .int 0→us'=usN us (clsO m) ops):=by
 have e0:q105_a [nameL us,mD L,o, .int ad, .bool kn,opD ops, .bool false, .bool w, .bool false, .int 0, .bool false]=some [.bool (decide (ops.length=0) && !false), .bool (false || !decide (ops.length=0))]:=spec105a (nameL us) L o ad kn ops false w false false 0
 rw[q68_a_eq,F68_a_eq]
 simp only[mkB,eq_bs,qiteB_c,insD_eq]
 by_cases h0:m = [110,111,112]
 ·have hcls:clsO m = .bare 0:=by unfold clsO;rw[if_pos h0]
  rw[decide_eq_true h0]
  simp only[cond_true,cond_false]
  subst h0
  have hx:qidxT (bs [110,104,114]) (qsubS (bs [110,111,112]) 0 1)=0:=by
   rw[show qsubS (bs [110,111,112]) 0 1=bs (List.take 1 [110,111,112])from sub_to [110,111,112] 1]
   simp only[qidxT,veil_eq];rfl
  have hl:qcmp .leq 1 (qlenS (bs [110,111,112]))=true:=by rw[len_bs,qcmp_leq];rfl
  rw[e0,hx,hl,show qcmp .leq 0 0=true by rw[qcmp_leq];rfl,show qcmp .leq 0 1=true by rw[qcmp_leq];rfl]
  simp only[qsome_s,qnth_s,List.getD_cons_succ,List.getD_cons_zero,qbool_b,cond_true]
  rw[hcls]
  refine⟨_,_,_,_,rfl,?_,fun _=>rfl⟩
  simp only[OTn]
  cases w with
   |true=>rw[FIN_wide];rfl
   |false=>
    by_cases h:ops.length=0
    ·simp only[h,decide_true,Bool.not_true,Bool.or_false,Bool.not_false,Bool.and_self,cond_true];exact FIN_ins _ _ _ _ _ _ _ _
    ·simp only[h,decide_false,Bool.not_false,Bool.or_true,Bool.and_false,cond_false];exact FIN_bad _ _ _ _
 by_cases h1:m = [104,97,108,116]
 ·have hcls:clsO m = .bare 1:=by unfold clsO;rw[if_neg h0,if_pos h1]
  rw[decide_eq_false h0,decide_eq_true h1]
  simp only[cond_true,cond_false]
  subst h1
  have hx:qidxT (bs [110,104,114]) (qsubS (bs [104,97,108,116]) 0 1)=1:=by
   rw[show qsubS (bs [104,97,108,116]) 0 1=bs (List.take 1 [104,97,108,116])from sub_to [104,97,108,116] 1]
   simp only[qidxT,veil_eq];rfl
  have hl:qcmp .leq 1 (qlenS (bs [104,97,108,116]))=true:=by rw[len_bs,qcmp_leq];rfl
  rw[e0,hx,hl,show qcmp .leq 0 0=true by rw[qcmp_leq];rfl,show qcmp .leq 0 1=true by rw[qcmp_leq];rfl]
  simp only[qsome_s,qnth_s,List.getD_cons_succ,List.getD_cons_zero,qbool_b,cond_true]
  rw[hcls]
  refine⟨_,_,_,_,rfl,?_,fun _=>rfl⟩
  simp only[OTn]
  cases w with
   |true=>rw[FIN_wide];rfl
   |false=>
    by_cases h:ops.length=0
    ·simp only[h,decide_true,Bool.not_true,Bool.or_false,Bool.not_false,Bool.and_self,cond_true];exact FIN_ins _ _ _ _ _ _ _ _
    ·simp only[h,decide_false,Bool.not_false,Bool.or_true,Bool.and_false,cond_false];exact FIN_bad _ _ _ _
 by_cases h2:m = [114,101,116]
 ·have hcls:clsO m = .bare 2:=by unfold clsO;rw[if_neg h0,if_neg h1,if_pos h2]
  rw[decide_eq_false h0,decide_eq_false h1,decide_eq_true h2]
  simp only[cond_true,cond_false]
  subst h2
  have hx:qidxT (bs [110,104,114]) (qsubS (bs [114,101,116]) 0 1)=2:=by
   rw[show qsubS (bs [114,101,116]) 0 1=bs (List.take 1 [114,101,116])from sub_to [114,101,116] 1]
   simp only[qidxT,veil_eq];rfl
  have hl:qcmp .leq 1 (qlenS (bs [114,101,116]))=true:=by rw[len_bs,qcmp_leq];rfl
  rw[e0,hx,hl,show qcmp .leq 0 0=true by rw[qcmp_leq];rfl,show qcmp .leq 0 1=true by rw[qcmp_leq];rfl]
  simp only[qsome_s,qnth_s,List.getD_cons_succ,List.getD_cons_zero,qbool_b,cond_true]
  rw[hcls]
  refine⟨_,_,_,_,rfl,?_,fun _=>rfl⟩
  simp only[OTn]
  cases w with
   |true=>rw[FIN_wide];rfl
   |false=>
    by_cases h:ops.length=0
    ·simp only[h,decide_true,Bool.not_true,Bool.or_false,Bool.not_false,Bool.and_self,cond_true];exact FIN_ins _ _ _ _ _ _ _ _
    ·simp only[h,decide_false,Bool.not_false,Bool.or_true,Bool.and_false,cond_false];exact FIN_bad _ _ _ _
 by_cases h3:m = [112,117,115,104]
 ·have hcls:clsO m = .one 3 0:=by unfold clsO;rw[if_neg h0,if_neg h1,if_neg h2,if_pos h3]
  rw[decide_eq_false h0,decide_eq_false h1,decide_eq_false h2,decide_eq_true h3]
  simp only[cond_true,cond_false]
  obtain⟨I,b,e,hF⟩:=fin66a (nameL us) L o ad kn ops false w false 3 a
  rw[e,hcls]
  simp only[qsome_s,qnth_s,List.getD_cons_succ,List.getD_cons_zero,qbool_b,cond_true]
  exact⟨_,_,_,_,rfl,hF,fun _=>rfl⟩
 by_cases h4:m = [112,111,112]
 ·have hcls:clsO m = .one 4 0:=by unfold clsO;rw[if_neg h0,if_neg h1,if_neg h2,if_neg h3,if_pos h4]
  rw[decide_eq_false h0,decide_eq_false h1,decide_eq_false h2,decide_eq_false h3,decide_eq_true h4]
  simp only[cond_true,cond_false]
  obtain⟨I,b,e,hF⟩:=fin66a (nameL us) L o ad kn ops false w false 4 a
  rw[e,hcls]
  simp only[qsome_s,qnth_s,List.getD_cons_succ,List.getD_cons_zero,qbool_b,cond_true]
  exact⟨_,_,_,_,rfl,hF,fun _=>rfl⟩
 by_cases h5:m = [108,111,97,100,49]
 ·have hcls:clsO m = .mem 16 1 false:=by unfold clsO;rw[if_neg h0,if_neg h1,if_neg h2,if_neg h3,if_neg h4,if_pos h5]
  rw[decide_eq_false h0,decide_eq_false h1,decide_eq_false h2,decide_eq_false h3,decide_eq_false h4,decide_eq_true h5]
  simp only[cond_true,cond_false]
  subst h5
  have hw:qwrap .i64 (qbin .sub .u8 (qidxS (bs [108,111,97,100,49]) 4) 48)=1:=by
   rw[show qidxS (bs [108,111,97,100,49]) 4=49 from idx_bs [108,111,97,100,49] 4,qbin_eq,qwrap_eq];rfl
  have hi:qinbS (bs [108,111,97,100,49]) 4=true:=inb_bs (l:=[108,111,97,100,49]) (i:=4) (by decide)
  obtain⟨I,b,f,e,hF⟩:=fin110a (nameL us) L o ad kn hs w false false 16 1 a
  rw[hw,hi,e,hcls]
  simp only[qsome_s,qnth_s,List.getD_cons_succ,List.getD_cons_zero,qbool_b,cond_true]
  exact⟨_,_,_,_,rfl,hF w,fun _=>rfl⟩
 by_cases h6:m = [108,111,97,100,50]
 ·have hcls:clsO m = .mem 16 2 false:=by unfold clsO;rw[if_neg h0,if_neg h1,if_neg h2,if_neg h3,if_neg h4,if_neg h5,if_pos h6]
  rw[decide_eq_false h0,decide_eq_false h1,decide_eq_false h2,decide_eq_false h3,decide_eq_false h4,decide_eq_false h5,decide_eq_true h6]
  simp only[cond_true,cond_false]
  subst h6
  have hw:qwrap .i64 (qbin .sub .u8 (qidxS (bs [108,111,97,100,50]) 4) 48)=2:=by
   rw[show qidxS (bs [108,111,97,100,50]) 4=50 from idx_bs [108,111,97,100,50] 4,qbin_eq,qwrap_eq];rfl
  have hi:qinbS (bs [108,111,97,100,50]) 4=true:=inb_bs (l:=[108,111,97,100,50]) (i:=4) (by decide)
  obtain⟨I,b,f,e,hF⟩:=fin110a (nameL us) L o ad kn hs w false false 16 2 a
  rw[hw,hi,e,hcls]
  simp only[qsome_s,qnth_s,List.getD_cons_succ,List.getD_cons_zero,qbool_b,cond_true]
  exact⟨_,_,_,_,rfl,hF w,fun _=>rfl⟩
 by_cases h7:m = [108,111,97,100,52]
 ·have hcls:clsO m = .mem 16 4 false:=by unfold clsO;rw[if_neg h0,if_neg h1,if_neg h2,if_neg h3,if_neg h4,if_neg h5,if_neg h6,if_pos h7]
  rw[decide_eq_false h0,decide_eq_false h1,decide_eq_false h2,decide_eq_false h3,decide_eq_false h4,decide_eq_false h5,decide_eq_false h6,decide_eq_true h7]
  simp only[cond_true,cond_false]
  subst h7
  have hw:qwrap .i64 (qbin .sub .u8 (qidxS (bs [108,111,97,100,52]) 4) 48)=4:=by
   rw[show qidxS (bs [108,111,97,100,52]) 4=52 from idx_bs [108,111,97,100,52] 4,qbin_eq,qwrap_eq];rfl
  have hi:qinbS (bs [108,111,97,100,52]) 4=true:=inb_bs (l:=[108,111,97,100,52]) (i:=4) (by decide)
  obtain⟨I,b,f,e,hF⟩:=fin110a (nameL us) L o ad kn hs w false false 16 4 a
  rw[hw,hi,e,hcls]
  simp only[qsome_s,qnth_s,List.getD_cons_succ,List.getD_cons_zero,qbool_b,cond_true]
  exact⟨_,_,_,_,rfl,hF w,fun _=>rfl⟩
 by_cases h8:m = [108,111,97,100,49,115]
 ·have hcls:clsO m = .mem 17 1 false:=by unfold clsO;rw[if_neg h0,if_neg h1,if_neg h2,if_neg h3,if_neg h4,if_neg h5,if_neg h6,if_neg h7,if_pos h8]
  rw[decide_eq_false h0,decide_eq_false h1,decide_eq_false h2,decide_eq_false h3,decide_eq_false h4,decide_eq_false h5,decide_eq_false h6,decide_eq_false h7,decide_eq_true h8]
  simp only[cond_true,cond_false]
  subst h8
  have hw:qwrap .i64 (qbin .sub .u8 (qidxS (bs [108,111,97,100,49,115]) 4) 48)=1:=by
   rw[show qidxS (bs [108,111,97,100,49,115]) 4=49 from idx_bs [108,111,97,100,49,115] 4,qbin_eq,qwrap_eq];rfl
  have hi:qinbS (bs [108,111,97,100,49,115]) 4=true:=inb_bs (l:=[108,111,97,100,49,115]) (i:=4) (by decide)
  obtain⟨I,b,f,e,hF⟩:=fin110a (nameL us) L o ad kn hs w false false 17 1 a
  rw[hw,hi,e,hcls]
  simp only[qsome_s,qnth_s,List.getD_cons_succ,List.getD_cons_zero,qbool_b,cond_true]
  exact⟨_,_,_,_,rfl,hF w,fun _=>rfl⟩
 by_cases h9:m = [108,111,97,100,50,115]
 ·have hcls:clsO m = .mem 17 2 false:=by unfold clsO;rw[if_neg h0,if_neg h1,if_neg h2,if_neg h3,if_neg h4,if_neg h5,if_neg h6,if_neg h7,if_neg h8,if_pos h9]
  rw[decide_eq_false h0,decide_eq_false h1,decide_eq_false h2,decide_eq_false h3,decide_eq_false h4,decide_eq_false h5,decide_eq_false h6,decide_eq_false h7,decide_eq_false h8,decide_eq_true h9]
  simp only[cond_true,cond_false]
  subst h9
  have hw:qwrap .i64 (qbin .sub .u8 (qidxS (bs [108,111,97,100,50,115]) 4) 48)=2:=by
   rw[show qidxS (bs [108,111,97,100,50,115]) 4=50 from idx_bs [108,111,97,100,50,115] 4,qbin_eq,qwrap_eq];rfl
  have hi:qinbS (bs [108,111,97,100,50,115]) 4=true:=inb_bs (l:=[108,111,97,100,50,115]) (i:=4) (by decide)
  obtain⟨I,b,f,e,hF⟩:=fin110a (nameL us) L o ad kn hs w false false 17 2 a
  rw[hw,hi,e,hcls]
  simp only[qsome_s,qnth_s,List.getD_cons_succ,List.getD_cons_zero,qbool_b,cond_true]
  exact⟨_,_,_,_,rfl,hF w,fun _=>rfl⟩
 by_cases h10:m = [115,116,111,114,101,49]
 ·have hcls:clsO m = .mem 18 1 true:=by unfold clsO;rw[if_neg h0,if_neg h1,if_neg h2,if_neg h3,if_neg h4,if_neg h5,if_neg h6,if_neg h7,if_neg h8,if_neg h9,if_pos h10]
  rw[decide_eq_false h0,decide_eq_false h1,decide_eq_false h2,decide_eq_false h3,decide_eq_false h4,decide_eq_false h5,decide_eq_false h6,decide_eq_false h7,decide_eq_false h8,decide_eq_false h9,decide_eq_true h10]
  simp only[cond_true,cond_false]
  subst h10
  have hw:qwrap .i64 (qbin .sub .u8 (qidxS (bs [115,116,111,114,101,49]) 5) 48)=1:=by
   rw[show qidxS (bs [115,116,111,114,101,49]) 5=49 from idx_bs [115,116,111,114,101,49] 5,qbin_eq,qwrap_eq];rfl
  have hi:qinbS (bs [115,116,111,114,101,49]) 5=true:=inb_bs (l:=[115,116,111,114,101,49]) (i:=5) (by decide)
  obtain⟨I,b,f,e,hF⟩:=fin110a (nameL us) L o ad kn hs w false true 18 1 a
  rw[hw,hi,e,hcls]
  simp only[qsome_s,qnth_s,List.getD_cons_succ,List.getD_cons_zero,qbool_b,cond_true]
  exact⟨_,_,_,_,rfl,hF w,fun _=>rfl⟩
 by_cases h11:m = [115,116,111,114,101,50]
 ·have hcls:clsO m = .mem 18 2 true:=by unfold clsO;rw[if_neg h0,if_neg h1,if_neg h2,if_neg h3,if_neg h4,if_neg h5,if_neg h6,if_neg h7,if_neg h8,if_neg h9,if_neg h10,if_pos h11]
  rw[decide_eq_false h0,decide_eq_false h1,decide_eq_false h2,decide_eq_false h3,decide_eq_false h4,decide_eq_false h5,decide_eq_false h6,decide_eq_false h7,decide_eq_false h8,decide_eq_false h9,decide_eq_false h10,decide_eq_true h11]
  simp only[cond_true,cond_false]
  subst h11
  have hw:qwrap .i64 (qbin .sub .u8 (qidxS (bs [115,116,111,114,101,50]) 5) 48)=2:=by
   rw[show qidxS (bs [115,116,111,114,101,50]) 5=50 from idx_bs [115,116,111,114,101,50] 5,qbin_eq,qwrap_eq];rfl
  have hi:qinbS (bs [115,116,111,114,101,50]) 5=true:=inb_bs (l:=[115,116,111,114,101,50]) (i:=5) (by decide)
  obtain⟨I,b,f,e,hF⟩:=fin110a (nameL us) L o ad kn hs w false true 18 2 a
  rw[hw,hi,e,hcls]
  simp only[qsome_s,qnth_s,List.getD_cons_succ,List.getD_cons_zero,qbool_b,cond_true]
  exact⟨_,_,_,_,rfl,hF w,fun _=>rfl⟩
 by_cases h12:m = [115,116,111,114,101,52]
 ·have hcls:clsO m = .mem 18 4 true:=by unfold clsO;rw[if_neg h0,if_neg h1,if_neg h2,if_neg h3,if_neg h4,if_neg h5,if_neg h6,if_neg h7,if_neg h8,if_neg h9,if_neg h10,if_neg h11,if_pos h12]
  rw[decide_eq_false h0,decide_eq_false h1,decide_eq_false h2,decide_eq_false h3,decide_eq_false h4,decide_eq_false h5,decide_eq_false h6,decide_eq_false h7,decide_eq_false h8,decide_eq_false h9,decide_eq_false h10,decide_eq_false h11,decide_eq_true h12]
  simp only[cond_true,cond_false]
  subst h12
  have hw:qwrap .i64 (qbin .sub .u8 (qidxS (bs [115,116,111,114,101,52]) 5) 48)=4:=by
   rw[show qidxS (bs [115,116,111,114,101,52]) 5=52 from idx_bs [115,116,111,114,101,52] 5,qbin_eq,qwrap_eq];rfl
  have hi:qinbS (bs [115,116,111,114,101,52]) 5=true:=inb_bs (l:=[115,116,111,114,101,52]) (i:=5) (by decide)
  obtain⟨I,b,f,e,hF⟩:=fin110a (nameL us) L o ad kn hs w false true 18 4 a
  rw[hw,hi,e,hcls]
  simp only[qsome_s,qnth_s,List.getD_cons_succ,List.getD_cons_zero,qbool_b,cond_true]
  exact⟨_,_,_,_,rfl,hF w,fun _=>rfl⟩
 by_cases h13:m = [108,101,97]
 ·have hcls:clsO m = .mem 19 0 false:=by unfold clsO;rw[if_neg h0,if_neg h1,if_neg h2,if_neg h3,if_neg h4,if_neg h5,if_neg h6,if_neg h7,if_neg h8,if_neg h9,if_neg h10,if_neg h11,if_neg h12,if_pos h13]
  rw[decide_eq_false h0,decide_eq_false h1,decide_eq_false h2,decide_eq_false h3,decide_eq_false h4,decide_eq_false h5,decide_eq_false h6,decide_eq_false h7,decide_eq_false h8,decide_eq_false h9,decide_eq_false h10,decide_eq_false h11,decide_eq_false h12,decide_eq_true h13]
  simp only[cond_true,cond_false]
  subst h13
  obtain⟨I,b,f,e,hF⟩:=fin110a (nameL us) L o ad kn hs w false false 19 0 a
  rw[e,hcls]
  simp only[qsome_s,qnth_s,List.getD_cons_succ,List.getD_cons_zero,qbool_b,cond_true]
  exact⟨_,_,_,_,rfl,hF w,fun _=>rfl⟩
 by_cases h14:m = [106,117,109,112,114]
 ·have hcls:clsO m = .one 21 0:=by unfold clsO;rw[if_neg h0,if_neg h1,if_neg h2,if_neg h3,if_neg h4,if_neg h5,if_neg h6,if_neg h7,if_neg h8,if_neg h9,if_neg h10,if_neg h11,if_neg h12,if_neg h13,if_pos h14]
  rw[decide_eq_false h0,decide_eq_false h1,decide_eq_false h2,decide_eq_false h3,decide_eq_false h4,decide_eq_false h5,decide_eq_false h6,decide_eq_false h7,decide_eq_false h8,decide_eq_false h9,decide_eq_false h10,decide_eq_false h11,decide_eq_false h12,decide_eq_false h13,decide_eq_true h14]
  simp only[cond_true,cond_false]
  obtain⟨I,b,e,hF⟩:=fin66a (nameL us) L o ad kn ops false w false 21 a
  rw[e,hcls]
  simp only[qsome_s,qnth_s,List.getD_cons_succ,List.getD_cons_zero,qbool_b,cond_true]
  exact⟨_,_,_,_,rfl,hF,fun _=>rfl⟩
 by_cases h15:m = [99,97,108,108,114]
 ·have hcls:clsO m = .one 24 0:=by unfold clsO;rw[if_neg h0,if_neg h1,if_neg h2,if_neg h3,if_neg h4,if_neg h5,if_neg h6,if_neg h7,if_neg h8,if_neg h9,if_neg h10,if_neg h11,if_neg h12,if_neg h13,if_neg h14,if_pos h15]
  rw[decide_eq_false h0,decide_eq_false h1,decide_eq_false h2,decide_eq_false h3,decide_eq_false h4,decide_eq_false h5,decide_eq_false h6,decide_eq_false h7,decide_eq_false h8,decide_eq_false h9,decide_eq_false h10,decide_eq_false h11,decide_eq_false h12,decide_eq_false h13,decide_eq_false h14,decide_eq_true h15]
  simp only[cond_true,cond_false]
  obtain⟨I,b,e,hF⟩:=fin66a (nameL us) L o ad kn ops false w false 24 a
  rw[e,hcls]
  simp only[qsome_s,qnth_s,List.getD_cons_succ,List.getD_cons_zero,qbool_b,cond_true]
  exact⟨_,_,_,_,rfl,hF,fun _=>rfl⟩
 by_cases h16:m = [105,110]
 ·have hcls:clsO m = .one 26 0:=by unfold clsO;rw[if_neg h0,if_neg h1,if_neg h2,if_neg h3,if_neg h4,if_neg h5,if_neg h6,if_neg h7,if_neg h8,if_neg h9,if_neg h10,if_neg h11,if_neg h12,if_neg h13,if_neg h14,if_neg h15,if_pos h16]
  rw[decide_eq_false h0,decide_eq_false h1,decide_eq_false h2,decide_eq_false h3,decide_eq_false h4,decide_eq_false h5,decide_eq_false h6,decide_eq_false h7,decide_eq_false h8,decide_eq_false h9,decide_eq_false h10,decide_eq_false h11,decide_eq_false h12,decide_eq_false h13,decide_eq_false h14,decide_eq_false h15,decide_eq_true h16]
  simp only[cond_true,cond_false]
  obtain⟨I,b,e,hF⟩:=fin66a (nameL us) L o ad kn ops false w false 26 a
  rw[e,hcls]
  simp only[qsome_s,qnth_s,List.getD_cons_succ,List.getD_cons_zero,qbool_b,cond_true]
  exact⟨_,_,_,_,rfl,hF,fun _=>rfl⟩
 by_cases h17:m = [111,117,116]
 ·have hcls:clsO m = .one 27 0:=by unfold clsO;rw[if_neg h0,if_neg h1,if_neg h2,if_neg h3,if_neg h4,if_neg h5,if_neg h6,if_neg h7,if_neg h8,if_neg h9,if_neg h10,if_neg h11,if_neg h12,if_neg h13,if_neg h14,if_neg h15,if_neg h16,if_pos h17]
  rw[decide_eq_false h0,decide_eq_false h1,decide_eq_false h2,decide_eq_false h3,decide_eq_false h4,decide_eq_false h5,decide_eq_false h6,decide_eq_false h7,decide_eq_false h8,decide_eq_false h9,decide_eq_false h10,decide_eq_false h11,decide_eq_false h12,decide_eq_false h13,decide_eq_false h14,decide_eq_false h15,decide_eq_false h16,decide_eq_true h17]
  simp only[cond_true,cond_false]
  obtain⟨I,b,e,hF⟩:=fin66a (nameL us) L o ad kn ops false w false 27 a
  rw[e,hcls]
  simp only[qsome_s,qnth_s,List.getD_cons_succ,List.getD_cons_zero,qbool_b,cond_true]
  exact⟨_,_,_,_,rfl,hF,fun _=>rfl⟩
 rw[decide_eq_false h0,decide_eq_false h1,decide_eq_false h2,decide_eq_false h3,decide_eq_false h4,decide_eq_false h5,decide_eq_false h6,decide_eq_false h7,decide_eq_false h8,decide_eq_false h9,decide_eq_false h10,decide_eq_false h11,decide_eq_false h12,decide_eq_false h13,decide_eq_false h14,decide_eq_false h15,decide_eq_false h16,decide_eq_false h17]
 simp only[cond_false]
 obtain⟨I,us',b,e,hF⟩:=fin111a L o ad kn hu hs false w false m a
 have hcls:clsO m=if m = [99,97,108,108]then .call else if m = [106,117,109,112,116]then .jumpt else .unk:=by
  unfold clsO;rw[if_neg h0,if_neg h1,if_neg h2,if_neg h3,if_neg h4,if_neg h5,if_neg h6,if_neg h7,if_neg h8,if_neg h9,if_neg h10,if_neg h11,if_neg h12,if_neg h13,if_neg h14,if_neg h15,if_neg h16,if_neg h17]
 rw[e,hcls]
 simp only[qsome_s,qnth_s,List.getD_cons_succ,List.getD_cons_zero,qbool_b,cond_true]
 exact⟨_,_,_,_,rfl,(hF w).1,(hF w).2⟩
theorem FIN_69a (I:D) (a:Int) (us':List (List UInt8)) (h69:∀d,q69 [d]=some [.int (lenI d)]):(bif qsome (q69 [insD a (qint (qfld I 1)) (qint (qfld I 2)) (qint (qfld I 3)) (qint (qfld I 4)) (qint (qfld I 5)) (qint (qfld I 6)) (qint (qfld I 7)) (qint (qfld I 8))])then some [insD a (qint (qfld I 1)) (qint (qfld I 2)) (qint (qfld I 3)) (qint (qfld I 4)) (qint (qfld I 5)) (qint (qfld I 6)) (qint (qfld I 7)) (qint (qnth (q69 [insD a (qint (qfld I 1)) (qint (qfld I 2)) (qint (qfld I 3)) (qint (qfld I 4)) (qint (qfld I 5)) (qint (qfld I 6)) (qint (qfld I 7)) (qint (qfld I 8))]) 0)), .int 0,nameL us']else none)=some (FIN I false false false a ++ [nameL us']):=by
 rw[h69]
 unfold FIN
 simp only[qsome_s,qnth_s,List.getD_cons_zero,qint_i,cond_true,cond_false,Bool.or_self,List.cons_append,List.nil_append]
theorem FIN_run0a (I:D) (b:Bool) (a:Int) (h69:∀d,q69 [d]=some [.int (lenI d)]) (us':List (List UInt8)) {O:List D} (hF:FIN I b false false a=O) {P:List (List UInt8)→Prop} (hU:O.getD 1 .other = .int 0→P us'):∃us,(bif b then some [insD 0 0 0 0 0 0 0 0 0, .int 3,nameL us']else(bif qsome (q69 [insD a (qint (qfld I 1)) (qint (qfld I 2)) (qint (qfld I 3)) (qint (qfld I 4)) (qint (qfld I 5)) (qint (qfld I 6)) (qint (qfld I 7)) (qint (qfld I 8))])then some [insD a (qint (qfld I 1)) (qint (qfld I 2)) (qint (qfld I 3)) (qint (qfld I 4)) (qint (qfld I 5)) (qint (qfld I 6)) (qint (qfld I 7)) (qint (qnth (q69 [insD a (qint (qfld I 1)) (qint (qfld I 2)) (qint (qfld I 3)) (qint (qfld I 4)) (qint (qfld I 5)) (qint (qfld I 6)) (qint (qfld I 7)) (qint (qfld I 8))]) 0)), .int 0,nameL us']else none))=some (O ++ [nameL us])∧(O.getD 1 .other = .int 0→P us):=by
 refine⟨us',?_,hU⟩
 subst hF
 cases b with
 |true=>rw[FIN_bad];rfl
 |false=>exact FIN_69a I a us' h69
theorem FIN_run1a (I:D) (b w:Bool) (a:Int) (h69:∀d,q69 [d]=some [.int (lenI d)]) (us':List (List UInt8)) {O:List D} (hF:FIN I b false w a=O) {P:List (List UInt8)→Prop} (hU:O.getD 1 .other = .int 0→P us'):∃us,(bif b then some [insD 0 0 0 0 0 0 0 0 0, .int 3,nameL us']else(bif w then some [insD 0 0 0 0 0 0 0 0 0, .int 3,nameL us']else(bif qsome (q69 [insD a (qint (qfld I 1)) (qint (qfld I 2)) (qint (qfld I 3)) (qint (qfld I 4)) (qint (qfld I 5)) (qint (qfld I 6)) (qint (qfld I 7)) (qint (qfld I 8))])then some [insD a (qint (qfld I 1)) (qint (qfld I 2)) (qint (qfld I 3)) (qint (qfld I 4)) (qint (qfld I 5)) (qint (qfld I 6)) (qint (qfld I 7)) (qint (qnth (q69 [insD a (qint (qfld I 1)) (qint (qfld I 2)) (qint (qfld I 3)) (qint (qfld I 4)) (qint (qfld I 5)) (qint (qfld I 6)) (qint (qfld I 7)) (qint (qfld I 8))]) 0)), .int 0,nameL us']else none)))=some (O ++ [nameL us])∧(O.getD 1 .other = .int 0→P us):=by
 refine⟨us',?_,hU⟩
 subst hF
 cases b with
 |true=>rw[FIN_bad];rfl
 |false=>
  cases w with
  |true=>rw[FIN_wide];rfl
  |false=>exact FIN_69a I a us' h69
theorem FIN_run2a (I:D) (b f w:Bool) (a:Int) (h69:∀d,q69 [d]=some [.int (lenI d)]) (us':List (List UInt8)) {O:List D} (hF:FIN I b f w a=O) {P:List (List UInt8)→Prop} (hU:O.getD 1 .other = .int 0→P us'):∃us,(bif (bif b then true else w)then some [insD 0 0 0 0 0 0 0 0 0, .int 3,nameL us']else(bif f then some [insD 0 0 0 0 0 0 0 0 0, .int 7,nameL us']else(bif qsome (q69 [insD a (qint (qfld I 1)) (qint (qfld I 2)) (qint (qfld I 3)) (qint (qfld I 4)) (qint (qfld I 5)) (qint (qfld I 6)) (qint (qfld I 7)) (qint (qfld I 8))])then some [insD a (qint (qfld I 1)) (qint (qfld I 2)) (qint (qfld I 3)) (qint (qfld I 4)) (qint (qfld I 5)) (qint (qfld I 6)) (qint (qfld I 7)) (qint (qnth (q69 [insD a (qint (qfld I 1)) (qint (qfld I 2)) (qint (qfld I 3)) (qint (qfld I 4)) (qint (qfld I 5)) (qint (qfld I 6)) (qint (qfld I 7)) (qint (qfld I 8))]) 0)), .int 0,nameL us']else none)))=some (O ++ [nameL us])∧(O.getD 1 .other = .int 0→P us):=by
 refine⟨us',?_,hU⟩
 subst hF
 cases b with
 |true=>rw[FIN_bad];rfl
 |false=>
  cases w with
  |true=>rw[FIN_wide];rfl
  |false=>
   cases f with
   |true=>rfl
   |false=>exact FIN_69a I a us' h69
theorem jmp1 {L:Lab} {cc:Int} {w:Bool} {ops:List (List UInt8)} {a:Int} (e:(OTn L (.jmp cc) w ops a).getD 1 .other = .int 0):ops.length=1:=by
 by_cases h:ops.length=1
 ·exact h
 ·have hO:OTn L (.jmp cc) w ops a=erD 3:=by simp only[OTn];simp[h]
  rw[hO]at e;exact(er3 e).elim
theorem ar2 {L:Lab} {k:Int} {w:Bool} {ops:List (List UInt8)} {a:Int} (e:(OTn L (.ar k) w ops a).getD 1 .other = .int 0):ops.length=2:=by
 by_cases h:ops.length=2
 ·exact h
 ·have hO:OTn L (.ar k) w ops a=erD 3:=by simp only[OTn,arOkN];simp[h]
  rw[hO]at e;exact(er3 e).elim
theorem text37a (L:Lab) (o:D) (ad:Int) (kn:Bool) {us:List (List UInt8)} (hu:us.length<1000000) (l:List UInt8) (hz:l.length≤1000) (a:Int):
 ∃us',q37_a [mD L,o, .int ad, .bool kn, .str (bs l), .int a,nameL us]=some (OTn L (cls (word l)) (wide l) (opsL l) a ++ [nameL us'])∧((OTn L (cls (word l)) (wide l) (opsL l) a).getD 1 .other = .int 0→us'=usN us (cls (word l)) (opsL l)):=by
 have h69:∀d,q69 [d]=some [.int (lenI d)]:=fun d=>(valid_spec d).2.2.1
 have hs:=opsL_short hz
 have hhl:(headL l).length≤1000:=by unfold headL;simp;omega
 have e62:q62 [.str (bs (headL l)), .str (bs [46,119])]=some [.str (bs (word l)), .bool (wide l)]:=suf62 (headL l) [46,119] (by omega)
 rw[q37_a_eq,F37_a_eq]
 have hlt:qcmp .lss (qlenS (bs l)) 4294967281=true:=by rw[len_bs,qcmp_lss];exact decide_eq_true (by omega)
 have hbig:∀x:List UInt8,x.length≤1000→qcmp .lss (qlenS (bs x)) 4294967281=true:=fun x hx=>by rw[len_bs,qcmp_lss];exact decide_eq_true (by omega)
 have hA:qcutA (bs l) (bs [32])=bs (headL l):=cutA l
 have hzero:D.agg [.int 0, .int 0, .int 0, .int 0, .int 0, .int 0, .int 0, .int 0, .int 0]=insD 0 0 0 0 0 0 0 0 0:=rfl
 have w0:(bif wide l then(false:Bool)else false)=false:=by cases wide l<;>rfl
 have w1:(bif wide l then(true:Bool)else false)=wide l:=by cases wide l<;>rfl
 have hmm:∀k:Int,qmm .gtr k 0=if k<0 then 0 else k:=fun k=>by rw[qmm,veil_eq];rfl
 simp only[mkB]
 rw[hlt,cutOk]
 by_cases sp:blank l<l.length
 ·have ho:qsplit (qcutB (bs l) (bs [32])) (bs [44,32])=opD (opsL l):=by rw[cutB sp,splitQ];unfold opsL;rw[if_pos sp]
  have hb:qcmp .lss (qlenS (qcutB (bs l) (bs [32]))) 4294967281=true:=by rw[cutB sp];exact hbig _ (by simp;omega)
  rw[decide_eq_true sp,ho,hb]
  simp only[cond_true,cond_false,hA,e62,pre59,spec63c,spec63o,qsome_s,qnth_s,List.getD_cons_zero,List.getD_cons_succ,qbool_b,qstr_s,qint_i,eq_bs,insD_eq,qiteB_c,qiteI_eq,qnot_c,Bool.not_true,Bool.not_false,List.length_cons,List.length_nil,Nat.zero_add,Nat.reduceAdd]
  have p0:(bif List.isPrefixOf [106] (word l)then true else true)=true:=by cases List.isPrefixOf [106] (word l)<;>rfl
  rw[p0]
  simp only[cond_true]
  by_cases h1:word l = [106,109,112]
  ·obtain⟨I,b,us',e,hF,hU⟩:=spec65a L o ad kn hu hs (wide l) 0 a
   have hc:cls (word l) = .jmp 0:=by unfold cls;rw[if_pos h1]
   rw[decide_eq_true h1,hc]
   simp only[e,qsome_s,qnth_s,List.getD_cons_zero,List.getD_cons_succ,qbool_b,cond_true,Bool.not_true,w0]
   have hbb:(bif b then true else false)=b:=by cases b<;>rfl
   rw[hbb]
   exact FIN_run0a I b a h69 us' hF (fun e=>hU (jmp1 e))
  ·rw[decide_eq_false h1]
   simp only[cond_false]
   by_cases h2:List.isPrefixOf [106] (word l)=true∧0<ix ccL ((word l).drop 1)
   ·obtain⟨I,b,us',e,hF,hU⟩:=spec65a L o ad kn hu hs (wide l) (ix ccL ((word l).drop 1)) a
    have hc:cls (word l) = .jmp (ix ccL ((word l).drop 1)):=by unfold cls;rw[if_neg h1,if_pos h2]
    rw[h2.1,hc]
    simp only[cond_true]
    rw[show qcmp .gtr (ix ccL ((word l).drop 1)) 0=true by rw[qcmp_gtr];exact decide_eq_true h2.2]
    simp only[e,qsome_s,qnth_s,List.getD_cons_zero,List.getD_cons_succ,qbool_b,cond_true,Bool.not_true,w0]
    have hbb:(bif b then true else false)=b:=by cases b<;>rfl
    rw[hbb]
    exact FIN_run0a I b a h69 us' hF (fun e=>hU (jmp1 e))
   ·have hg:qcmp .gtr (bif List.isPrefixOf [106] (word l)then ix ccL (bif List.isPrefixOf [106] (word l)then(word l).drop 1 else word l)else -1) 0=false:=by
     rw[qcmp_gtr]
     cases hp:List.isPrefixOf [106] (word l)with
     |false=>rfl
     |true=>exact decide_eq_false fun hx=>h2 ⟨hp,hx⟩
    rw[hg]
    simp only[cond_false]
    cases hps:List.isPrefixOf [115,101,116] (word l)with
    |true=>
     simp only[cond_true]
     rw[hmm,qcmp_lss]
     by_cases hx:ix ccL ((word l).drop 3)<0
     ·have hc:cls (word l) = .unk:=by unfold cls;rw[if_neg h1,if_neg h2,if_pos hps,if_pos hx]
      obtain⟨I,b,e,hF⟩:=fin66sa (nameL us) L o ad kn (opsL l) false (wide l) false 0 a
      rw[decide_eq_true hx,if_pos hx,hc]
      simp only[e,qsome_s,qnth_s,List.getD_cons_zero,List.getD_cons_succ,qbool_b,cond_true]
      cases b<;>exact⟨us,rfl,fun _=>rfl⟩
     ·have hc:cls (word l) = .one 25 (ix ccL ((word l).drop 3)):=by unfold cls;rw[if_neg h1,if_neg h2,if_pos hps,if_neg hx]
      obtain⟨I,b,e,hF⟩:=fin66sa (nameL us) L o ad kn (opsL l) false (wide l) false (ix ccL ((word l).drop 3)) a
      rw[decide_eq_false hx,if_neg hx,hc]
      simp only[e,qsome_s,qnth_s,List.getD_cons_zero,List.getD_cons_succ,qbool_b,cond_true,cond_false,w1]
      exact FIN_run1a I b (wide l) a h69 us hF (fun _=>rfl)
    |false=>
     simp only[cond_false]
     by_cases hx:0≤ix opL (word l)
     ·have hc:cls (word l) = .ar (ix opL (word l)):=by unfold cls;rw[if_neg h1,if_neg h2,if_neg (by rw[hps];simp),if_pos hx]
      obtain⟨I,b,us',t,e,hF,hU⟩:=spec67a L o ad kn hu hs (wide l) (ix opL (word l)) a
      have e5:qbin .add .i64 5 (ix opL (word l))=5+ix opL (word l):=by
       rw[qbin_eq];simp only[rbin]
       rcases ix_range opL (word l)with h|⟨k,hk,_,h⟩
       ·omega
       ·have:opL.length=11:=rfl
        exact wrap64' (by omega) (by omega)
      rw[show qcmp .geq (ix opL (word l)) 0=true by rw[qcmp_geq];exact decide_eq_true hx,e5,hc]
      simp only[e,qsome_s,qnth_s,List.getD_cons_zero,List.getD_cons_succ,qbool_b,cond_true]
      exact FIN_run0a I _ a h69 us' hF (fun e=>hU (ar2 e))
     ·have hc:cls (word l)=clsO (word l):=by unfold cls;rw[if_neg h1,if_neg h2,if_neg (by rw[hps];simp),if_neg hx]
      obtain⟨I,us',b,f,e,hF,hU⟩:=fin68a L o ad kn hu hs (wide l) (word l) a
      rw[show qcmp .geq (ix opL (word l)) 0=false by rw[qcmp_geq];exact decide_eq_false hx,hc]
      simp only[e,qsome_s,qnth_s,List.getD_cons_zero,List.getD_cons_succ,qbool_b,cond_true,cond_false,w1]
      exact FIN_run2a I b f (wide l) a h69 us' hF hU
 ·have ho:D.list []=opD (opsL l):=by unfold opsL;rw[if_neg sp];rfl
  rw[decide_eq_false sp,ho]
  simp only[cond_true,cond_false,hA,e62,pre59,spec63c,spec63o,qsome_s,qnth_s,List.getD_cons_zero,List.getD_cons_succ,qbool_b,qstr_s,qint_i,eq_bs,insD_eq,qiteB_c,qiteI_eq,qnot_c,Bool.not_true,Bool.not_false,List.length_cons,List.length_nil,Nat.zero_add,Nat.reduceAdd]
  have p0:(bif List.isPrefixOf [106] (word l)then true else true)=true:=by cases List.isPrefixOf [106] (word l)<;>rfl
  rw[p0]
  simp only[cond_true]
  by_cases h1:word l = [106,109,112]
  ·obtain⟨I,b,us',e,hF,hU⟩:=spec65a L o ad kn hu hs (wide l) 0 a
   have hc:cls (word l) = .jmp 0:=by unfold cls;rw[if_pos h1]
   rw[decide_eq_true h1,hc]
   simp only[e,qsome_s,qnth_s,List.getD_cons_zero,List.getD_cons_succ,qbool_b,cond_true,Bool.not_true,w0]
   have hbb:(bif b then true else false)=b:=by cases b<;>rfl
   rw[hbb]
   exact FIN_run0a I b a h69 us' hF (fun e=>hU (jmp1 e))
  ·rw[decide_eq_false h1]
   simp only[cond_false]
   by_cases h2:List.isPrefixOf [106] (word l)=true∧0<ix ccL ((word l).drop 1)
   ·obtain⟨I,b,us',e,hF,hU⟩:=spec65a L o ad kn hu hs (wide l) (ix ccL ((word l).drop 1)) a
    have hc:cls (word l) = .jmp (ix ccL ((word l).drop 1)):=by unfold cls;rw[if_neg h1,if_pos h2]
    rw[h2.1,hc]
    simp only[cond_true]
    rw[show qcmp .gtr (ix ccL ((word l).drop 1)) 0=true by rw[qcmp_gtr];exact decide_eq_true h2.2]
    simp only[e,qsome_s,qnth_s,List.getD_cons_zero,List.getD_cons_succ,qbool_b,cond_true,Bool.not_true,w0]
    have hbb:(bif b then true else false)=b:=by cases b<;>rfl
    rw[hbb]
    exact FIN_run0a I b a h69 us' hF (fun e=>hU (jmp1 e))
   ·have hg:qcmp .gtr (bif List.isPrefixOf [106] (word l)then ix ccL (bif List.isPrefixOf [106] (word l)then(word l).drop 1 else word l)else -1) 0=false:=by
     rw[qcmp_gtr]
     cases hp:List.isPrefixOf [106] (word l)with
     |false=>rfl
     |true=>exact decide_eq_false fun hx=>h2 ⟨hp,hx⟩
    rw[hg]
    simp only[cond_false]
    cases hps:List.isPrefixOf [115,101,116] (word l)with
    |true=>
     simp only[cond_true]
     rw[hmm,qcmp_lss]
     by_cases hx:ix ccL ((word l).drop 3)<0
     ·have hc:cls (word l) = .unk:=by unfold cls;rw[if_neg h1,if_neg h2,if_pos hps,if_pos hx]
      obtain⟨I,b,e,hF⟩:=fin66sa (nameL us) L o ad kn (opsL l) false (wide l) false 0 a
      rw[decide_eq_true hx,if_pos hx,hc]
      simp only[e,qsome_s,qnth_s,List.getD_cons_zero,List.getD_cons_succ,qbool_b,cond_true]
      cases b<;>exact⟨us,rfl,fun _=>rfl⟩
     ·have hc:cls (word l) = .one 25 (ix ccL ((word l).drop 3)):=by unfold cls;rw[if_neg h1,if_neg h2,if_pos hps,if_neg hx]
      obtain⟨I,b,e,hF⟩:=fin66sa (nameL us) L o ad kn (opsL l) false (wide l) false (ix ccL ((word l).drop 3)) a
      rw[decide_eq_false hx,if_neg hx,hc]
      simp only[e,qsome_s,qnth_s,List.getD_cons_zero,List.getD_cons_succ,qbool_b,cond_true,cond_false,w1]
      exact FIN_run1a I b (wide l) a h69 us hF (fun _=>rfl)
    |false=>
     simp only[cond_false]
     by_cases hx:0≤ix opL (word l)
     ·have hc:cls (word l) = .ar (ix opL (word l)):=by unfold cls;rw[if_neg h1,if_neg h2,if_neg (by rw[hps];simp),if_pos hx]
      obtain⟨I,b,us',t,e,hF,hU⟩:=spec67a L o ad kn hu hs (wide l) (ix opL (word l)) a
      have e5:qbin .add .i64 5 (ix opL (word l))=5+ix opL (word l):=by
       rw[qbin_eq];simp only[rbin]
       rcases ix_range opL (word l)with h|⟨k,hk,_,h⟩
       ·omega
       ·have:opL.length=11:=rfl
        exact wrap64' (by omega) (by omega)
      rw[show qcmp .geq (ix opL (word l)) 0=true by rw[qcmp_geq];exact decide_eq_true hx,e5,hc]
      simp only[e,qsome_s,qnth_s,List.getD_cons_zero,List.getD_cons_succ,qbool_b,cond_true]
      exact FIN_run0a I _ a h69 us' hF (fun e=>hU (ar2 e))
     ·have hc:cls (word l)=clsO (word l):=by unfold cls;rw[if_neg h1,if_neg h2,if_neg (by rw[hps];simp),if_neg hx]
      obtain⟨I,us',b,f,e,hF,hU⟩:=fin68a L o ad kn hu hs (wide l) (word l) a
      rw[show qcmp .geq (ix opL (word l)) 0=false by rw[qcmp_geq];exact decide_eq_false hx,hc]
      simp only[e,qsome_s,qnth_s,List.getD_cons_zero,List.getD_cons_succ,qbool_b,cond_true,cond_false,w1]
      exact FIN_run2a I b f (wide l) a h69 us' hF hU
end Go.Proofs.YtobhhfbdelnhfaaGreatDoor
namespace Go.Proofs.YtobhhfbdelnhfaaGreatDoor
noncomputable section
set_option linter.unusedSimpArgs false
set_option linter.unusedVariables false
open Go Go.AM
def lm (L:Lab) (md:Nat):Lab:=if md=1 then[]else L
def msB (md:Nat) (L:Lab) (s:List UInt8):Bool:=decide (md=2)&&(nmd s&&(lk L s).isNone)
theorem valE_eq {md:Nat} (hm:md=1∨md=2) (L:Lab) (s:List UInt8):valE L md s=bif valB s then(bif msB md L s then 17 else 0)else 3:=by
 unfold valE valB msB nmd
 rcases hm with rfl|rfl<;>cases numB s<;>cases nmB s<;>first|rfl|(cases lk L s<;>rfl)
def LabOk (L:Lab):Prop:=L.length≤1000000∧∀p∈L,0≤p.2∧p.2<4294967296
theorem lk_rng {L:Lab} (h:∀p∈L,0≤p.2∧p.2<4294967296) (s:List UInt8):0≤lv L s∧lv L s<4294967296:=by
 unfold lv
 induction L with
 |nil=>simp[lk]
 |cons p r ih=>
  unfold lk
  by_cases e:p.1=s
  ·rw[if_pos e];exact h p (by simp)
  ·rw[if_neg e];exact ih fun q hq=>h q (by simp[hq])
theorem valV_rng {L:Lab} (h:∀p∈L,0≤p.2∧p.2<4294967296) {s:List UInt8} (hz:s.length≤1000):0≤valV L s∧valV L s<4294967296:=by
 unfold valV
 have h1:=num_rng hz
 have h2:=lk_rng h s
 cases numB s<;>cases nmB s<;>simp only[cond_true,cond_false]<;>omega
theorem lm_rng {L:Lab} (h:LabOk L) (md:Nat):∀p∈lm L md,0≤p.2∧p.2<4294967296:=by
 unfold lm
 split
 ·intro p hp;cases hp
 ·exact h.2
theorem spec77n {L:Lab} (hL:LabOk L) {md:Nat} (hm:md=1∨md=2) {s:List UInt8} (hz:s.length≤1000):
 q77 [.str (bs s),mD L, .int md]=some [.int (valV (lm L md) s), .bool (nmd s), .int (valE L md s)]:=by
 rw[q77_eq,F77_eq,(num_spec hz).2,spec78 hz]
 simp only[qsome_s,qnth_s,List.getD_cons_zero,List.getD_cons_succ,qbool_b,qnot_c,qint_i,cond_true,qiteB_c]
 have h0:qcmp .eql (md:Int) 0=false:=by rw[show qcmp .eql (md:Int) 0=decide (md=0)from eqI md 0,decide_eq_false (by omega)]
 have h1:qcmp .eql (md:Int) 1=decide (md=1):=eqI md 1
 have el:l77_9 [.str (bs s),mD L] [.int 0]=some (match lk L s with|none=>[.int 0]|some a=>[.int 1, .int a]):=by
  rw[l77_9_eq];have:=loop77 s L hL.1 L.length 0 (by omega);rw[List.drop_zero]at this;exact this
 rw[h0,h1,el]
 unfold valE nmd valV lv lm
 cases hn:numB s with
 |true=>rfl
 |false=>
  cases hb:nmB s with
  |false=>rfl
  |true=>
   rcases hm with rfl|rfl
   ·rfl
   ·cases hk:lk L s with
    |none=>simp[qcmp_eql,qsome_s,qnth_s,qint_i,hk]
    |some a=>simp[qcmp_eql,qsome_s,qnth_s,qint_i,hk]
theorem ne30:qcmp .neq 3 0=true:=by rw[qcmp_neq];rfl
theorem ne00:qcmp .neq 0 0=false:=by rw[qcmp_neq];rfl
theorem ne70:qcmp .neq 7 0=true:=by rw[qcmp_neq];rfl
theorem ne170:qcmp .neq 17 0=true:=by rw[qcmp_neq];rfl
theorem spec116n {L:Lab} (hL:LabOk L) {md:Nat} (hm:md=1∨md=2) {x:List UInt8} (hz:x.length≤1000) (w:Bool) (a o rv:Int):q116 [insD a 0 o 0 0 0 rv 0 0, .bool w, .str (bs x),mD L, .int md] =
 some (if regB x=true then(if w=true then erD 3 else[insD a 0 o 0 0 0 rv (regV x) 0, .int 0])else bif valB x then(bif msB md L x then erD 17 else[insD a (valV (lm L md) x) o (fmN (valV (lm L md) x) w (nmd x)) 0 0 rv 0 0, .int 0])else erD 3):=by
 obtain⟨f0,f1,f2,f3,f4,f5,f6,f7,f8⟩:=insF a 0 o 0 0 0 rv 0 0
 rw[q116_eq,F116_eq,(reg_spec x).2,spec77n hL hm hz,valE_eq hm]
 simp only[f0,f1,f2,f3,f4,f5,f6,f7,f8,insD_eq,qsome_s,qnth_s,List.getD_cons_zero,List.getD_cons_succ,qbool_b,qstr_s,qint_i,qnot_c,cond_true,cond_false,qiteB_c,Bool.not_false]
 cases hr:regB x with
 |true=>cases w<;>rfl
 |false=>
  cases hb:valB x with
  |false=>simp only[cond_false,Bool.false_eq_true,if_false];rw[ne30];rfl
  |true=>
   cases hs:msB md L x with
   |true=>simp only[cond_false,cond_true,Bool.false_eq_true,if_false];rw[ne170];rfl
   |false=>
    simp only[cond_false,cond_true,Bool.false_eq_true,if_false,if_true]
    rw[ne00,spec32I (valV_rng (lm_rng hL md) hz)]
    simp only[qsome_s,qnth_s,List.getD_cons_zero,List.getD_cons_succ,qbool_b,qstr_s,qint_i,qnot_c,cond_true,cond_false]
    unfold fmN fm
    cases nearI (valV (lm L md) x)<;>cases w<;>cases nmd x<;>rfl
theorem spec118n {L:Lab} (hL:LabOk L) {md:Nat} (hm:md=1∨md=2) {x:List UInt8} (hz:x.length≤1000) (w:Bool) (a cc:Int):q118 [insD a 0 0 0 0 cc 0 0 0, .bool w, .str (bs x),mD L, .int md] =
 some (bif valB x then(bif msB md L x then erD 17 else[insD a (valV (lm L md) x) 20 (fmN (off (valV (lm L md) x) a) w (nmd x)) 0 cc 0 0 0, .int 0])else erD 3):=by
 obtain⟨f0,f1,f2,f3,f4,f5,f6,f7,f8⟩:=insF a 0 0 0 0 cc 0 0 0
 rw[q118_eq,F118_eq,spec77n hL hm hz,valE_eq hm]
 simp only[f0,f1,f2,f3,f4,f5,f6,f7,f8,insD_eq,qsome_s,qnth_s,List.getD_cons_zero,List.getD_cons_succ,qbool_b,qstr_s,qint_i,qnot_c,cond_true,cond_false,qiteB_c,Bool.not_false]
 cases hb:valB x with
 |false=>simp only[cond_false,Bool.false_eq_true,if_false];rw[ne30];rfl
 |true=>
  cases hs:msB md L x with
  |true=>simp only[cond_false,cond_true];rw[ne170];rfl
  |false=>
   simp only[cond_true,cond_false]
   rw[ne00,show qbin .sub .u32 (qbin .sub .u32 (valV (lm L md) x) a) 2=off (valV (lm L md) x) a from rfl,spec32I (off_rng _ _)]
   simp only[qsome_s,qnth_s,List.getD_cons_zero,List.getD_cons_succ,qbool_b,qstr_s,qint_i,qnot_c,cond_true,cond_false]
   unfold fmN fm
   cases nearI (off (valV (lm L md) x) a)<;>cases w<;>cases nmd x<;>rfl
def R73n (md:Nat) (L:Lab) (m:List UInt8) (w:Bool) (ops:List (List UInt8)) (a:Int):List D:=
 if 0≤ix opL m∧ops.length=2 then(if regB (op ops 0)=true then
  (if regB (op ops 1)=true then(if w=true then erD 3 else[insD a 0 (5+ix opL m) 0 0 0 (regV (op ops 0)) (regV (op ops 1)) 0, .int 0])else bif valB (op ops 1)then(bif msB md L (op ops 1)then erD 17 else[insD a (valV (lm L md) (op ops 1)) (5+ix opL m) (fmN (valV (lm L md) (op ops 1)) w (nmd (op ops 1))) 0 0 (regV (op ops 0)) 0 0, .int 0])else erD 3)
  else erD 3)
 else if 0≤cndI m∧ops.length=1 then(bif valB (op ops 0)then(bif msB md L (op ops 0)then erD 17 else[insD a (valV (lm L md) (op ops 0)) 20 (fmN (off (valV (lm L md) (op ops 0)) a) w (nmd (op ops 0))) 0 (cndI m) 0 0 0, .int 0])else erD 3)
 else if decide (m = [99,97,108,108])=true∧w=false∧ops.length=1 then[insD a (valV (lm L md) (op ops 0)) 23 0 0 0 0 0 0, .int (valE L md (op ops 0))]
 else if decide (m = [106,117,109,112,116])=true∧w=false∧ops.length=2 then(if regB (op ops 0)=true then[insD a (valV (lm L md) (op ops 1)) 22 0 0 0 (regV (op ops 0)) 0 0, .int (valE L md (op ops 1))]else erD 3)
 else erD 3
theorem spec73n {L:Lab} (hL:LabOk L) {md:Nat} (hm:md=1∨md=2) {h:List UInt8} {ops:List (List UInt8)} (hz:h.length≤1000) (hs:Short ops) {a:Int}:q73 [insD a 0 0 0 0 0 0 0 0, .str (bs h),opD ops,mD L, .int md]=some (R73n md L (wrd2 h) (wid2 h) ops a):=by
 obtain⟨f0,f1,f2,f3,f4,f5,f6,f7,f8⟩:=insF a 0 0 0 0 0 0 0 0
 have hmz:(wrd2 h).length≤1000:=by unfold wrd2;cases wid2 h with|true=>simp;omega|false=>simpa using hz
 have hgt:qcmp .gtr (h.length:Int) 2=decide (2<h.length):=gtI h.length 2
 have hw:qiteB (qcmp .gtr (h.length:Int) 2) (qcmpS .eql (qsubS (bs h) (qbin .sub .i64 (h.length:Int) 2) (h.length:Int)) (bs [46,119])) Bool.false=wid2 h:=by
  rw[qiteB_c,hgt]
  unfold wid2 sfx
  by_cases h2:2<h.length
  ·rw[show qbin .sub .i64 (h.length:Int) 2=((h.length-2:Nat):Int)from subI (b:=2) (by omega) (by omega),sub_from,eq_bs]
   simp[h2];omega
  ·simp[h2]
 have hg1:qiteB (qcmp .gtr (h.length:Int) 2) (qand (qcmp .leq 0 (qbin .sub .i64 (h.length:Int) 2)) (qand (qcmp .leq (qbin .sub .i64 (h.length:Int) 2) (h.length:Int)) (qcmp .leq (h.length:Int) (h.length:Int)))) Bool.true=true:=by
  rw[qiteB_c,hgt,qand_c]
  by_cases h2:2<h.length
  ·rw[show qbin .sub .i64 (h.length:Int) 2=((h.length-2:Nat):Int)from subI (b:=2) (by omega) (by omega),le0,leI',leI',decide_eq_true (show h.length-2≤h.length by omega),decide_eq_true (Nat.le_refl _)]
   simp[h2]
  ·simp[h2]
 have hg2:qiteB (wid2 h) (qand (qcmp .leq 0 0) (qand (qcmp .leq 0 (qbin .sub .i64 (h.length:Int) 2)) (qcmp .leq (qbin .sub .i64 (h.length:Int) 2) (h.length:Int)))) Bool.true=true:=by
  rw[qiteB_c,qand_c]
  cases hw2:wid2 h with
  |false=>rfl
  |true=>
   have h2:2<h.length:=by unfold wid2 at hw2;simp only[Bool.and_eq_true,decide_eq_true_eq]at hw2;exact hw2.1
   rw[show qbin .sub .i64 (h.length:Int) 2=((h.length-2:Nat):Int)from subI (b:=2) (by omega) (by omega),le0,leI',decide_eq_true (show h.length-2≤h.length by omega),show qcmp .leq 0 0=true by rw[qcmp_leq];rfl];rfl
 have hmm:qiteS (wid2 h) (qsubS (bs h) 0 (qbin .sub .i64 (h.length:Int) 2)) (bs h)=bs (wrd2 h):=by
  rw[qiteS_eq]
  unfold wrd2
  cases hw2:wid2 h with
  |false=>rfl
  |true=>
   have h2:2<h.length:=by unfold wid2 at hw2;simp only[Bool.and_eq_true,decide_eq_true_eq]at hw2;exact hw2.1
   rw[show qbin .sub .i64 (h.length:Int) 2=((h.length-2:Nat):Int)from subI (b:=2) (by omega) (by omega),sub_to];rfl
 rw[q73_eq,F73_eq]
 simp only[mkB,len_bs,hw,hg1,hg2,hmm,spec57,qsome_s,qnth_s,List.getD_cons_zero,List.getD_cons_succ,qbool_b,qstr_s,qint_i,qnot_c,cond_true,cond_false,qlen_op,eq_bs,spec113 opL _ (by decide),spec117 hmz,f0,f1,f2,f3,f4,f5,f6,f7,f8,insD_eq]
 generalize wrd2 h=m at *
 generalize wid2 h=w at *
 have l2:qcmp .eql (ops.length:Int) 2=decide (ops.length=2):=eqI _ 2
 have l1:qcmp .eql (ops.length:Int) 1=decide (ops.length=1):=eqI _ 1
 rw[l2,l1]
 have hr0:∀h:0<ops.length,qinb (opD ops) 0=true∧qstr (qget (opD ops) 0)=bs (op ops 0):=fun h=>op_get (op_at (ops:=ops) (k:=0) h)
 have hr1:∀h:1<ops.length,qinb (opD ops) 1=true∧qstr (qget (opD ops) 1)=bs (op ops 1):=fun h=>op_get (op_at (ops:=ops) (k:=1) h)
 unfold R73n
 by_cases c1:0≤ix opL m∧ops.length=2
 ·obtain⟨g1,g2⟩:=hr0 (by omega)
  obtain⟨g3,g4⟩:=hr1 (by omega)
  have e5:qbin .add .i64 5 (ix opL m)=5+ix opL m:=by
   rw[qbin_eq];simp only[rbin]
   rcases ix_range opL m with h|⟨k,hk,_,h⟩
   ·omega
   ·have:opL.length=11:=rfl
    exact wrap64' (by omega) (by omega)
  rw[if_pos c1,qcmp_geq,decide_eq_true c1.1,decide_eq_true c1.2,g1,g2,g3,g4,(reg_spec _).2,e5,spec116n hL hm (op_short hs (k:=1) (by omega))]
  simp only[qiteB_c,qsome_s,qnth_s,List.getD_cons_zero,List.getD_cons_succ,qbool_b,qstr_s,qint_i,qnot_c,cond_true,cond_false]
  cases hr:regB (op ops 0)with
  |false=>rfl
  |true=>
   simp only[Bool.not_true,cond_false,if_true]
   congr 1
   cases regB (op ops 1)<;>cases w<;>cases valB (op ops 1)<;>cases msB md L (op ops 1)<;>exact pairD _ _
 ·have c1':qiteB (qcmp .geq (ix opL m) 0) (decide (ops.length=2)) Bool.false=false:=by
   rw[qiteB_c,qcmp_geq]
   by_cases x:0≤ix opL m
   ·rw[decide_eq_true x,decide_eq_false (fun y=>c1 ⟨x,y⟩)];rfl
   ·rw[decide_eq_false x];rfl
  rw[if_neg c1,c1']
  simp only[cond_false]
  by_cases c2:0≤cndI m∧ops.length=1
  ·obtain⟨g1,g2⟩:=hr0 (by omega)
   rw[if_pos c2,qcmp_geq,decide_eq_true c2.1,decide_eq_true c2.2,g1,g2,spec118n hL hm (op_short hs (k:=0) (by omega))]
   simp only[qiteB_c,qsome_s,qnth_s,List.getD_cons_zero,List.getD_cons_succ,qbool_b,qstr_s,qint_i,qnot_c,cond_true,cond_false]
   congr 1
   cases valB (op ops 0)<;>cases msB md L (op ops 0)<;>exact pairD _ _
  ·have c2':qiteB (qcmp .geq (cndI m) 0) (decide (ops.length=1)) Bool.false=false:=by
    rw[qiteB_c,qcmp_geq]
    by_cases x:0≤cndI m
    ·rw[decide_eq_true x,decide_eq_false (fun y=>c2 ⟨x,y⟩)];rfl
    ·rw[decide_eq_false x];rfl
   rw[if_neg c2,c2']
   simp only[cond_false]
   by_cases c3:decide (m = [99,97,108,108])=true∧w=false∧ops.length=1
   ·obtain⟨g1,g2⟩:=hr0 (by omega)
    rw[if_pos c3,c3.1,c3.2.1,decide_eq_true c3.2.2,g1,g2,spec77n hL hm (op_short hs (k:=0) (by omega))]
    simp only[qiteB_c,qsome_s,qnth_s,List.getD_cons_zero,List.getD_cons_succ,qbool_b,qstr_s,qint_i,qnot_c,cond_true,cond_false,Bool.not_false]
   ·have c3':qiteB (qiteB (decide (m = [99,97,108,108])) (!w) Bool.false) (decide (ops.length=1)) Bool.false=false:=by
     rw[qiteB_c,qiteB_c]
     cases hx:decide (m = [99,97,108,108])with
     |false=>rfl
     |true=>
      cases hw0:w with
      |true=>rfl
      |false=>rw[decide_eq_false (fun y=>c3 ⟨hx,hw0,y⟩)];rfl
    rw[if_neg c3,c3']
    simp only[cond_false]
    by_cases c4:decide (m = [106,117,109,112,116])=true∧w=false∧ops.length=2
    ·obtain⟨g1,g2⟩:=hr0 (by omega)
     obtain⟨g3,g4⟩:=hr1 (by omega)
     rw[if_pos c4,c4.1,c4.2.1,decide_eq_true c4.2.2,g1,g2,g3,g4,(reg_spec _).2,spec77n hL hm (op_short hs (k:=1) (by omega))]
     simp only[qiteB_c,qsome_s,qnth_s,List.getD_cons_zero,List.getD_cons_succ,qbool_b,qstr_s,qint_i,qnot_c,cond_true,cond_false,Bool.not_false]
     cases hr:regB (op ops 0)<;>rfl
    ·have c4':qiteB (qiteB (decide (m = [106,117,109,112,116])) (!w) Bool.false) (decide (ops.length=2)) Bool.false=false:=by
      rw[qiteB_c,qiteB_c]
      cases hx:decide (m = [106,117,109,112,116])with
      |false=>rfl
      |true=>
       cases hw0:w with
       |true=>rfl
       |false=>rw[decide_eq_false (fun y=>c4 ⟨hx,hw0,y⟩)];rfl
     rw[if_neg c4,c4']
     rfl
def szD (I:D):List D:=[insD (qint (qfld I 0)) (qint (qfld I 1)) (qint (qfld I 2)) (qint (qfld I 3)) (qint (qfld I 4)) (qint (qfld I 5)) (qint (qfld I 6)) (qint (qfld I 7)) (lenI I), .int 0]
theorem szD_ins (a i o f w c x y:Int):szD (insD a i o f w c x y 0)=okD a i o f w c x y:=by
 obtain⟨f0,f1,f2,f3,f4,f5,f6,f7,f8⟩:=insF a i o f w c x y 0
 unfold szD okD
 rw[f0,f1,f2,f3,f4,f5,f6,f7]
def RD (r1 r2 r3:List D):List D:=
 bif qbool (r1.getD 1 .other)then szD (r1.getD 0 .other)
 else bif qbool (r2.getD 2 .other)then(bif qcmp .neq (qint (r2.getD 1 .other)) 0 then erD (qint (r2.getD 1 .other))else szD (r2.getD 0 .other))
 else(bif qcmp .neq (qint (r3.getD 1 .other)) 0 then erD (qint (r3.getD 1 .other))else szD (r3.getD 0 .other))
theorem read39n {L:Lab} (hL:LabOk L) {md:Nat} (hm:md=1∨md=2) {l:List UInt8} (hz:l.length≤1000) (a:Int):q39 [.str (bs l), .int a,mD L, .int md]=some (RD (R71 (headL l) (opsL l) a) (R72 (headL l) (opsL l) a) (R73n md L (wrd2 (headL l)) (wid2 (headL l)) (opsL l) a)):=by
 have hs:=opsL_short hz
 have hhl:(headL l).length≤1000:=by unfold headL;simp;omega
 have h74:∀d,q74 [d]=some [.int (lenI d)]:=fun d=>(valid_spec d).2.2.2
 have e71:=spec71 (ops:=opsL l) (a:=a) hhl (tst_cls (headL l)).2.2
 have e72:=spec72 (m:=headL l) hs (a:=a)
 have e73:=spec73n hL hm (h:=headL l) hhl hs (a:=a)
 rw[q39_eq,F39_eq,spec70 l hz]
 simp only[qsome_s,qnth_s,List.getD_cons_zero,List.getD_cons_succ,qstr_s,cond_true,insD_eq,e71,e72,e73,h74,qint_i]
 unfold RD szD erD
 simp only[qnot_c]
 generalize R71 (headL l) (opsL l) a=r1
 generalize R72 (headL l) (opsL l) a=r2
 generalize R73n md L (wrd2 (headL l)) (wid2 (headL l)) (opsL l) a=r3
 cases qbool (r1.getD 1 .other)<;>cases qbool (r2.getD 2 .other)<;>cases qcmp .neq (qint (r2.getD 1 .other)) 0<;>cases qcmp .neq (qint (r3.getD 1 .other)) 0<;>rfl
theorem R71_no {m:List UInt8} {ops:List (List UInt8)} {a:Int} (h1:ix s1L m = -1) (h2:setI m = -1) (h3:ix s2L m = -1):R71 m ops a = [insD 0 0 0 0 0 0 0 0 0, .bool false]:=by
 unfold R71;rw[if_neg (by omega),if_neg (by omega),if_pos (.inl (by omega))]
theorem R72_no {m:List UInt8} {ops:List (List UInt8)} {a:Int} (h:ix meL m = -1):R72 m ops a = [insD a 0 0 0 0 0 0 0 0, .int 0, .bool false]:=by
 unfold R72;rw[if_pos (by omega)]
theorem RD_3 (z x:D) (r3:List D):RD [z, .bool false] [x, .int 0, .bool false] r3=(bif qcmp .neq (qint (r3.getD 1 .other)) 0 then erD (qint (r3.getD 1 .other))else szD (r3.getD 0 .other)):=by
 unfold RD;simp only[List.getD_cons_zero,List.getD_cons_succ,qbool_b,cond_false]
def missB (md:Nat) (L:Lab) (c:Cls) (ops:List (List UInt8)):Bool:=
 match c with
 | .call=>msB md L (op ops 0)
 | .jumpt=>msB md L (op ops 1)
 | .ar _=> !regB (op ops 1)&&msB md L (op ops 1)
 | .jmp _=>msB md L (op ops 0)
 |_=>false
def okO (O:List D):Bool:=decide (qint (O.getD 1 .other)=0)
def OTx (md:Nat) (L:Lab) (c:Cls) (w:Bool) (ops:List (List UInt8)) (a:Int):List D:=
 bif missB md L c ops&&okO (OTn (lm L md) c w ops a)then erD 17 else OTn (lm L md) c w ops a
theorem okO_er (e:Int):okO (erD e)=decide (e=0):=by unfold okO erD;simp only[List.getD_cons_zero,List.getD_cons_succ,qint_i]
theorem okO_ok (a i o f w c x y:Int):okO (okD a i o f w c x y)=true:=by unfold okO okD;simp only[List.getD_cons_zero,List.getD_cons_succ,qint_i];rfl
theorem OTx_er {md:Nat} {L:Lab} {c:Cls} {w:Bool} {ops:List (List UInt8)} {a:Int} (h:OTn (lm L md) c w ops a=erD 3):OTx md L c w ops a=erD 3:=by
 unfold OTx;rw[h,okO_er];simp
theorem OTx_no {md:Nat} {L:Lab} {c:Cls} {w:Bool} {ops:List (List UInt8)} {a:Int} (h:missB md L c ops=false):OTx md L c w ops a=OTn (lm L md) c w ops a:=by
 unfold OTx;rw[h];rfl
theorem OTx_ms {md:Nat} {L:Lab} {c:Cls} {w:Bool} {ops:List (List UInt8)} {a:Int} (h:missB md L c ops=true) {b i o f v d x y:Int} (hO:OTn (lm L md) c w ops a=okD b i o f v d x y):OTx md L c w ops a=erD 17:=by
 unfold OTx;rw[h,hO,okO_ok];rfl
def thd (r3:List D):List D:=bif qcmp .neq (qint (r3.getD 1 .other)) 0 then erD (qint (r3.getD 1 .other))else szD (r3.getD 0 .other)
theorem thd_er:thd (erD 3)=erD 3:=by unfold thd erD;simp only[List.getD_cons_zero,List.getD_cons_succ,qint_i,ne30,cond_true]
theorem thd_17:thd (erD 17)=erD 17:=by unfold thd erD;simp only[List.getD_cons_zero,List.getD_cons_succ,qint_i,ne170,cond_true]
theorem thd_3 (x:D):thd [x, .int 3]=erD 3:=by unfold thd;simp only[List.getD_cons_zero,List.getD_cons_succ,qint_i,ne30,cond_true]
theorem thd_m (x:D):thd [x, .int 17]=erD 17:=by unfold thd;simp only[List.getD_cons_zero,List.getD_cons_succ,qint_i,ne170,cond_true]
theorem thd_ok (a i o f v c x y:Int):thd [insD a i o f v c x y 0, .int 0]=okD a i o f v c x y:=by
 unfold thd;simp only[List.getD_cons_zero,List.getD_cons_succ,qint_i,ne00,cond_false];exact szD_ins _ _ _ _ _ _ _ _
theorem R73n_cls {md:Nat} (hmd:md=1∨md=2) (L:Lab) {m:List UInt8} {ops:List (List UInt8)} {a:Int} (w:Bool) (hb:(∀k,cls m≠ .bare k)∧(∀o c,cls m≠ .one o c)∧(∀o v s,cls m≠ .mem o v s)∨w=true):
 thd (R73n md L m w ops a)=OTx md L (cls m) w ops a:=by
 obtain⟨ht,hg, -⟩:=tst_cls m
 have no:ix opL m = -1→cndI m = -1→decide (m = [99,97,108,108])=false→decide (m = [106,117,109,112,116])=false→R73n md L m w ops a=erD 3:=by
  intro h1 h2 h3 h4
  unfold R73n
  rw[if_neg (by omega),if_neg (by omega),if_neg (by rw[h3];simp),if_neg (by rw[h4];simp)]
 cases hc:cls m with
 |bare k=>
  rcases hb with hb|rfl
  ·exact absurd hc (hb.1 k)
  ·rw[hc]at ht
   simp only[tst,expd,Prod.mk.injEq,List.cons.injEq]at ht
   rw[no ht.1.2.2.2.2.1 ht.1.2.2.2.2.2.1 ht.2.1 ht.2.2,thd_er,OTx_er rfl]
 |one o c=>
  rcases hb with hb|rfl
  ·exact absurd hc (hb.2.1 o c)
  ·rw[hc]at ht
   simp only[tst,expd]at ht
   split at ht<;>simp only[Prod.mk.injEq,List.cons.injEq]at ht<;>(rw[no ht.1.2.2.2.2.1 ht.1.2.2.2.2.2.1 ht.2.1 ht.2.2,thd_er,OTx_er rfl])
 |mem o v s=>
  rcases hb with hb|rfl
  ·exact absurd hc (hb.2.2 o v s)
  ·rw[hc]at ht
   simp only[tst,expd,Prod.mk.injEq,List.cons.injEq]at ht
   rw[no ht.1.2.2.2.2.1 ht.1.2.2.2.2.2.1 ht.2.1 ht.2.2,thd_er,OTx_er rfl]
 |unk=>
  rw[hc]at ht
  simp only[tst,expd,Prod.mk.injEq,List.cons.injEq]at ht
  rw[no ht.1.2.2.2.2.1 ht.1.2.2.2.2.2.1 ht.2.1 ht.2.2,thd_er,OTx_er rfl]
 |call=>
  rw[hc]at ht
  simp only[tst,expd,Prod.mk.injEq,List.cons.injEq]at ht
  obtain⟨⟨_,_,_,_,t5,t6,_⟩,t7,t8⟩:=ht
  unfold R73n
  rw[if_neg (by omega),if_neg (by omega),t7,t8]
  by_cases h:w=false∧ops.length=1
  ·obtain⟨rfl,h1⟩:=h
   rw[if_pos ⟨rfl,rfl,h1⟩,valE_eq hmd]
   cases hn:valB (op ops 0)with
   |false=>
    have hO:OTn (lm L md) .call false ops a=erD 3:=by simp only[OTn,hn];simp
    rw[OTx_er hO];exact thd_3 _
   |true=>
    have hO:OTn (lm L md) .call false ops a=okD a (valV (lm L md) (op ops 0)) 23 0 0 0 0 0:=by simp only[OTn,hn,h1];simp
    cases hs:msB md L (op ops 0)with
    |true=>rw[OTx_ms (by simp only[missB];exact hs) hO];exact thd_m _
    |false=>rw[OTx_no (by simp only[missB];exact hs),hO];exact thd_ok _ _ _ _ _ _ _ _
  ·rw[if_neg (fun x=>h ⟨x.2.1,x.2.2⟩),if_neg (by simp),thd_er,OTx_er]
   simp only[OTn]
   cases w with
   |true=>rfl
   |false=>rw[decide_eq_false (fun x=>h ⟨rfl,x⟩)];rfl
 |jumpt=>
  rw[hc]at ht
  simp only[tst,expd,Prod.mk.injEq,List.cons.injEq]at ht
  obtain⟨⟨_,_,_,_,t5,t6,_⟩,t7,t8⟩:=ht
  unfold R73n
  rw[if_neg (by omega),if_neg (by omega),t7,t8,if_neg (by simp)]
  by_cases h:w=false∧ops.length=2
  ·obtain⟨rfl,h1⟩:=h
   rw[if_pos ⟨rfl,rfl,h1⟩,valE_eq hmd]
   cases hr:regB (op ops 0)with
   |false=>
    have hO:OTn (lm L md) .jumpt false ops a=erD 3:=by simp only[OTn,hr];simp
    rw[OTx_er hO];exact thd_er
   |true=>
    cases hn:valB (op ops 1)with
    |false=>
     have hO:OTn (lm L md) .jumpt false ops a=erD 3:=by simp only[OTn,hn];simp
     rw[OTx_er hO];exact thd_3 _
    |true=>
     have hO:OTn (lm L md) .jumpt false ops a=okD a (valV (lm L md) (op ops 1)) 22 0 0 0 (regV (op ops 0)) 0:=by simp only[OTn,hn,h1,hr];simp
     cases hs:msB md L (op ops 1)with
     |true=>rw[OTx_ms (by simp only[missB];exact hs) hO];exact thd_m _
     |false=>rw[OTx_no (by simp only[missB];exact hs),hO];exact thd_ok _ _ _ _ _ _ _ _
  ·rw[if_neg (fun x=>h ⟨x.2.1,x.2.2⟩),thd_er,OTx_er]
   simp only[OTn]
   cases w with
   |true=>rfl
   |false=>rw[decide_eq_false (fun x=>h ⟨rfl,x⟩)];rfl
 |ar k=>
  rw[hc]at ht hg
  simp only[tst,expd,Prod.mk.injEq,List.cons.injEq]at ht
  obtain⟨⟨_,_,_,_,t5,t6,_⟩,t7,t8⟩:=ht
  simp only[clsG,decide_eq_true_eq]at hg
  unfold R73n
  rw[t5,t6,t7,t8]
  by_cases h:ops.length=2
  ·rw[if_pos ⟨hg.1,h⟩]
   cases hr:regB (op ops 0)with
   |false=>
    have hO:OTn (lm L md) (.ar k) w ops a=erD 3:=by simp only[OTn,arOkN,hr];simp
    rw[OTx_er hO];exact thd_er
   |true=>
    cases hr1:regB (op ops 1)with
    |true=>
     rw[OTx_no (by simp only[missB,hr1];rfl)]
     simp only[OTn,arOkN,arIN,hr,hr1,h]
     cases w with
     |true=>exact thd_er
     |false=>exact thd_ok _ _ _ _ _ _ _ _
    |false=>
     cases hn:valB (op ops 1)with
     |false=>
      have hO:OTn (lm L md) (.ar k) w ops a=erD 3:=by simp only[OTn,arOkN,hr1,hn];simp
      rw[OTx_er hO];exact thd_er
     |true=>
      have hO:OTn (lm L md) (.ar k) w ops a=okD a (valV (lm L md) (op ops 1)) (5+k) (fmN (valV (lm L md) (op ops 1)) w (nmd (op ops 1))) 0 0 (regV (op ops 0)) 0:=by simp only[OTn,arOkN,arIN,hr,hr1,hn,h];rfl
      cases hs:msB md L (op ops 1)with
      |true=>rw[OTx_ms (by simp only[missB,hr1,hs];rfl) hO];exact thd_17
      |false=>rw[OTx_no (by simp only[missB,hr1,hs];rfl),hO];exact thd_ok _ _ _ _ _ _ _ _
  ·rw[if_neg (fun x=>h x.2),if_neg (by omega),if_neg (by simp),if_neg (by simp),thd_er,OTx_er]
   simp only[OTn,arOkN];rw[decide_eq_false h];rfl
 |jmp cc=>
  rw[hc]at ht hg
  simp only[tst,expd,Prod.mk.injEq,List.cons.injEq]at ht
  obtain⟨⟨_,_,_,_,t5,t6,_⟩,t7,t8⟩:=ht
  simp only[clsG,decide_eq_true_eq]at hg
  unfold R73n
  rw[t5,t6,t7,t8,if_neg (by omega)]
  by_cases h:ops.length=1
  ·rw[if_pos ⟨hg.1,h⟩]
   cases hn:valB (op ops 0)with
   |false=>
    have hO:OTn (lm L md) (.jmp cc) w ops a=erD 3:=by simp only[OTn,hn];simp
    rw[OTx_er hO];exact thd_er
   |true=>
    have hO:OTn (lm L md) (.jmp cc) w ops a=okD a (valV (lm L md) (op ops 0)) 20 (fmN (off (valV (lm L md) (op ops 0)) a) w (nmd (op ops 0))) 0 cc 0 0:=by simp only[OTn,hn,h];simp
    cases hs:msB md L (op ops 0)with
    |true=>rw[OTx_ms (by simp only[missB];exact hs) hO];exact thd_17
    |false=>rw[OTx_no (by simp only[missB];exact hs),hO];exact thd_ok _ _ _ _ _ _ _ _
  ·rw[if_neg (fun x=>h x.2),if_neg (by simp),if_neg (by simp),thd_er,OTx_er]
   simp only[OTn];rw[decide_eq_false h];rfl
theorem ref39n {L:Lab} (hL:LabOk L) {md:Nat} (hmd:md=1∨md=2) {l:List UInt8} (hz:l.length≤1000) (a:Int):q39 [.str (bs l), .int a,mD L, .int md]=some (OTx md L (cls (word l)) (wide l) (opsL l) a):=by
 rw[read39n hL hmd hz a]
 congr 1
 cases hw:wide l with
 |true=>
  have hsf:sfx [46,119] (headL l)=true:=hw
  have ht:=tst_w hsf
  simp only[tst,expd,Prod.mk.injEq,List.cons.injEq]at ht
  obtain⟨⟨t1,t2,t3,t4,t5,t6,_⟩,t7,t8⟩:=ht
  rw[R71_no t1 t3 t2,R72_no t4,RD_3]
  have hword:word l=(headL l).take ((headL l).length-2):=by unfold word;rw[hw];rfl
  by_cases h2:2<(headL l).length
  ·have hw2:wid2 (headL l)=true:=by unfold wid2;rw[decide_eq_true h2,hsf];rfl
   have hm:wrd2 (headL l)=word l:=by unfold wrd2;rw[hw2,hword];rfl
   rw[hw2,hm]
   exact R73n_cls hmd L true (.inr rfl)
  ·have hw2:wid2 (headL l)=false:=by unfold wid2;rw[decide_eq_false h2];rfl
   have hm:wrd2 (headL l)=headL l:=by unfold wrd2;rw[hw2];rfl
   have hnil:word l = []:=by rw[hword,show(headL l).length-2=0 by omega];rfl
   rw[hw2,hm,hnil]
   have hr:R73n md L (headL l) false (opsL l) a=erD 3:=by
    unfold R73n
    rw[if_neg (by omega),if_neg (by omega),if_neg (by rw[t7];simp),if_neg (by rw[t8];simp)]
   rw[hr]
   have hcn:cls [] = .unk:=by rfl
   rw[hcn]
   rw[OTx_er rfl];unfold erD;simp only[List.getD_cons_zero,List.getD_cons_succ,qint_i,ne30,cond_true]
 |false=>
  have hsf:sfx [46,119] (headL l)=false:=hw
  have hw2:wid2 (headL l)=false:=by unfold wid2;rw[hsf];cases decide (2<(headL l).length)<;>rfl
  have hm:wrd2 (headL l)=headL l:=by unfold wrd2;rw[hw2];rfl
  have hword:word l=headL l:=by unfold word;rw[hw];rfl
  rw[hw2,hm,hword]
  generalize headL l=m
  generalize opsL l=ops
  obtain⟨ht,hg, -⟩:=tst_cls m
  have third:(∀k,cls m≠ .bare k)∧(∀o c,cls m≠ .one o c)∧(∀o v s,cls m≠ .mem o v s)→ix s1L m = -1→ix s2L m = -1→setI m = -1→ix meL m = -1→RD (R71 m ops a) (R72 m ops a) (R73n md L m false ops a)=OTx md L (cls m) false ops a:=by
   intro hb h1 h2 h3 h4
   rw[R71_no h1 h3 h2,R72_no h4,RD_3]
   exact R73n_cls hmd L false (.inl hb)
  have no:ix opL m = -1→cndI m = -1→decide (m = [99,97,108,108])=false→decide (m = [106,117,109,112,116])=false→R73n md L m false ops a=erD 3:=by
   intro h1 h2 h3 h4
   unfold R73n
   rw[if_neg (by omega),if_neg (by omega),if_neg (by rw[h3];simp),if_neg (by rw[h4];simp)]
  have er:∀z x:D,RD [z, .bool false] [x, .int 0, .bool false] (erD 3)=erD 3:=by
   intro z x
   rw[RD_3];unfold erD;simp only[List.getD_cons_zero,List.getD_cons_succ,qint_i,ne30,cond_true]
  have ok1:∀(i o f v c x y:Int) (r2 r3:List D),RD [insD a i o f v c x y 0, .bool true] r2 r3=okD a i o f v c x y:=by
   intro i o f v c x y r2 r3
   unfold RD;simp only[List.getD_cons_zero,List.getD_cons_succ,qbool_b,cond_true];exact szD_ins _ _ _ _ _ _ _ _
  cases hc:cls m with
  |unk=>
   rw[hc]at ht third
   simp only[tst,expd,Prod.mk.injEq,List.cons.injEq]at ht
   exact third ⟨fun _=>by simp,fun _ _=>by simp,fun _ _ _=>by simp⟩ ht.1.1 ht.1.2.1 ht.1.2.2.1 ht.1.2.2.2.1
  |call=>
   rw[hc]at ht third
   simp only[tst,expd,Prod.mk.injEq,List.cons.injEq]at ht
   exact third ⟨fun _=>by simp,fun _ _=>by simp,fun _ _ _=>by simp⟩ ht.1.1 ht.1.2.1 ht.1.2.2.1 ht.1.2.2.2.1
  |jumpt=>
   rw[hc]at ht third
   simp only[tst,expd,Prod.mk.injEq,List.cons.injEq]at ht
   exact third ⟨fun _=>by simp,fun _ _=>by simp,fun _ _ _=>by simp⟩ ht.1.1 ht.1.2.1 ht.1.2.2.1 ht.1.2.2.2.1
  |ar k=>
   rw[hc]at ht third
   simp only[tst,expd,Prod.mk.injEq,List.cons.injEq]at ht
   exact third ⟨fun _=>by simp,fun _ _=>by simp,fun _ _ _=>by simp⟩ ht.1.1 ht.1.2.1 ht.1.2.2.1 ht.1.2.2.2.1
  |jmp cc=>
   rw[hc]at ht third
   simp only[tst,expd,Prod.mk.injEq,List.cons.injEq]at ht
   exact third ⟨fun _=>by simp,fun _ _=>by simp,fun _ _ _=>by simp⟩ ht.1.1 ht.1.2.1 ht.1.2.2.1 ht.1.2.2.2.1
  |bare k=>
   rw[hc]at ht hg
   simp only[tst,expd,Prod.mk.injEq,List.cons.injEq]at ht
   obtain⟨⟨t1,t2,t3,t4,t5,t6,_⟩,t7,t8⟩:=ht
   simp only[clsG,decide_eq_true_eq]at hg
   rw[OTx_no rfl]
   simp only[OTn]
   rw[no t5 t6 t7 t8,R72_no t4]
   unfold R71
   rw[t1,t2,t3]
   by_cases h:ops.length=0
   ·rw[if_pos ⟨hg.1,h⟩,decide_eq_true h];exact ok1 _ _ _ _ _ _ _ _ _
   ·rw[if_neg (fun x=>h x.2),if_neg (by omega),if_pos (.inl (by omega)),decide_eq_false h];exact er _ _
  |one o c=>
   rw[hc]at ht hg
   simp only[clsG,decide_eq_true_eq]at hg
   rw[OTx_no rfl]
   simp only[OTn]
   simp only[tst,expd]at ht
   by_cases h25:o=25
   ·rw[if_pos h25]at ht
    simp only[Prod.mk.injEq,List.cons.injEq]at ht
    obtain⟨⟨t1,t2,t3,t4,t5,t6,_⟩,t7,t8⟩:=ht
    rw[no t5 t6 t7 t8,R72_no t4]
    unfold R71
    rw[t1,t2,t3,if_neg (by omega),if_pos (by omega)]
    subst h25
    by_cases h:ops.length=1
    ·rw[if_pos h,decide_eq_true h]
     cases hr:regB (op ops 0)with
     |true=>exact ok1 _ _ _ _ _ _ _ _ _
     |false=>exact er _ _
    ·rw[if_neg h,decide_eq_false h];exact er _ _
   ·rw[if_neg h25]at ht
    simp only[Prod.mk.injEq,List.cons.injEq]at ht
    obtain⟨⟨t1,t2,t3,t4,t5,t6,_⟩,t7,t8⟩:=ht
    rw[no t5 t6 t7 t8,R72_no t4]
    have hs2:s2op (ix s2L m)=o∧0≤ix s2L m∧c=0:=by
     rw[t2]
     rcases hg with hg|⟨h0,hg|hg|hg|hg|hg|hg⟩
     ·exact absurd hg.1 h25
     all_goals (subst hg;exact⟨by decide,by decide,h0⟩)
    unfold R71
    rw[t1,t3,if_neg (by omega),if_neg (by omega),hs2.1,hs2.2.2]
    by_cases h:ops.length=1
    ·rw[if_neg (by have:=hs2.2.1;omega),decide_eq_true h]
     cases hr:regB (op ops 0)with
     |true=>exact ok1 _ _ _ _ _ _ _ _ _
     |false=>exact er _ _
    ·rw[if_pos (.inr h),decide_eq_false h];exact er _ _
  |mem o v s=>
   rw[hc]at ht hg
   simp only[tst,expd,Prod.mk.injEq,List.cons.injEq]at ht
   obtain⟨⟨t1,t2,t3,t4,t5,t6,_⟩,t7,t8⟩:=ht
   simp only[clsG,decide_eq_true_eq]at hg
   have hme:0≤ix meL m∧meO (ix meL m)=o∧meW (ix meL m)=v∧decide (meO (ix meL m)=18)=s:=by
    rw[t4]
    rcases hg with⟨rfl,rfl|rfl|rfl,rfl⟩|⟨rfl,rfl|rfl,rfl⟩|⟨rfl,rfl|rfl|rfl,rfl⟩|⟨rfl,rfl,rfl⟩<;>decide
   rw[OTx_no rfl]
   simp only[OTn]
   rw[no t5 t6 t7 t8,R71_no t1 t3 t2]
   unfold R72
   rw[if_neg (by omega),hme.2.2.2,hme.2.1,hme.2.2.1]
   cases hok:meOk ops s with
   |false=>
    rw[if_pos rfl]
    unfold RD;simp only[List.getD_cons_zero,List.getD_cons_succ,qbool_b,cond_true,cond_false,qint_i,ne30];rfl
   |true=>
    rw[if_neg (by simp)]
    unfold RD;simp only[List.getD_cons_zero,List.getD_cons_succ,qbool_b,cond_true,cond_false,qint_i]
    rcases plE (meP ops s)with h|h|h
    ·rw[h,ne00];exact szD_ins _ _ _ _ _ _ _ _
    ·exfalso;unfold meOk at hok;rw[h]at hok;simp at hok
    ·rw[h,ne70];rfl
end
end Go.Proofs.YtobhhfbdelnhfaaGreatDoor
namespace Go.Proofs.YtobhhfbdelnhfaaGreatDoor
noncomputable section
set_option linter.unusedSimpArgs false
set_option linter.unusedVariables false
open Go Go.AM
def byD (l:List Int):D:= .list (l.map D.int)
theorem byD_len (l:List Int):qlen (byD l)=(l.length:Int):=by unfold byD;rw[len_list];simp
theorem byD_app (a b:List Int):qapp (byD a) (byD b)=byD (a++b):=by unfold byD;rw[app_list,List.map_append]
theorem partsF_len:∀(n:Nat) (l:List UInt8),(partsF n l).length≤n+1
 |0,l=>by simp[partsF]
 |n+1,l=>by
  unfold partsF
  cases hc:comma l with
  |none=>simp
  |some k=>simp only[List.length_cons];have:=partsF_len n (l.drop (k+2));omega
theorem parts_len (l:List UInt8):(partsL l).length≤l.length+1:=partsF_len _ _
theorem parts_short {l:List UInt8} (hz:l.length≤1000):Short (partsL l):=by
 intro x hx
 have:=partsF_short _ _ x hx
 omega
theorem op_drop {ops:List (List UInt8)} {i:Nat} (h:i<ops.length):ops.drop i=op ops i::ops.drop (i+1):=by
 rw[List.drop_eq_getElem_cons h];simp[op,List.getD,h]
def wdL (L:Lab) (xs:List (List UInt8)):List Int:=xs.flatMap fun x=>wordE (valV L x)
theorem wdL_len (L:Lab):∀xs:List (List UInt8),(wdL L xs).length=4*xs.length
 | []=>rfl
 |x::r=>by
  have ih:=wdL_len L r
  unfold wdL at ih ⊢
  rw[List.flatMap_cons,List.length_append,ih,word_len,List.length_cons];omega
theorem put1 {v:Int} (h:0≤v∧v<4294967296):q49 [.list [], .int v, .int 4]=some [byD (wordE v)]:=by
 rw[put_spec h (by simp)];rfl
theorem usU_len (us:List (List UInt8)) (s:List UInt8):(usU us s).length≤us.length+1:=by unfold usU;cases nmd s<;>simp
theorem loop123 {L:Lab} (hL:LabOk L) (o:D) (ad:Int) (kn:Bool) {ops:List (List UInt8)} (hs:Short ops) (hn:ops.length≤2000):∀(k i:Nat) (acc:List Int) (us:List (List UInt8)),i+k=ops.length→acc.length+4*k≤20000→us.length+k≤900000→
 ∃us',loW (st123_3 [opD ops, .int (ops.length:Int),o,mD L, .int ad, .bool kn]) [.int i,byD acc,nameL us]=some (bif (ops.drop i).all valB then[.int 0,byD (acc++wdL L (ops.drop i)),nameL ((ops.drop i).foldl usU us)]else[.int 1,nameL us', .list []]):=by
 intro k
 induction k with
 |zero=>
  intro i acc us hi ha hu
  refine⟨us,?_⟩
  rw[loW_nxt,st123_3_eq,ltI,decide_eq_false (by omega),List.drop_of_length_le (by omega)]
  simp only[cond_false,nxtT,List.all_nil,cond_true,List.foldl_nil,wdL,List.flatMap_nil,List.append_nil]
 |succ k ih=>
  intro i acc us hi ha hu
  have hlt:i<ops.length:=by omega
  have hx:=op_short hs hlt
  obtain⟨g1,g2⟩:=op_get (op_at hlt)
  have hv:=valV_rng hL.2 hx
  have hm:qmem (qlen (byD (acc++wordE (valV L (op ops i))))) 1=true:=by rw[byD_len];exact memB (by simp[word_len];omega) (by omega)
  have hadd:qbin .add .i64 (i:Int) 1=((i+1:Nat):Int):=add_nat (by omega)
  rw[loW_nxt,st123_3_eq,ltI,decide_eq_true hlt,g1,g2,(num_spec hx).1,op_drop hlt]
  simp only[cond_true,qsome_s,qnth_s,List.getD_cons_zero,List.getD_cons_succ,qbool_b,qint_i,qnot_c,List.all_cons,List.foldl_cons,spec125 L o ad kn (op ops i) (us:=us) (by omega)]
  have hstep:wdL L (op ops i::ops.drop (i+1))=wordE (valV L (op ops i))++wdL L (ops.drop (i+1)):=by unfold wdL;rw[List.flatMap_cons]
  rw[hstep]
  have hul:=usU_len us (op ops i)
  obtain⟨us',ih⟩:=ih (i+1) (acc++wordE (valV L (op ops i))) (usU us (op ops i)) (by omega) (by rw[List.length_append,word_len];omega) (by omega)
  rw[List.append_assoc]at ih
  unfold valB at ih ⊢
  cases hb:numB (op ops i)with
  |true=>
   have e1:valV L (op ops i)=numV (op ops i):=by unfold valV;rw[hb];rfl
   have e2:usU us (op ops i)=us:=by unfold usU nmd;rw[hb];rfl
   rw[e1]at hv hm ih ⊢
   rw[e2]at ih ⊢
   simp only[Bool.not_true,cond_false,put1 hv,qsome_s,qnth_s,List.getD_cons_zero,byD_app,hm,cond_true,hadd,nxtT,Bool.true_or,Bool.true_and]
   exact⟨us',ih⟩
  |false=>
   cases hc:nmB (op ops i)with
   |false=>
    simp only[Bool.not_false,cond_true,nxtT,Bool.false_or,Bool.false_and,cond_false,List.getD_cons_succ,List.getD_cons_zero]
    exact⟨_,rfl⟩
   |true=>
    have e1:valV L (op ops i)=lv L (op ops i):=by unfold valV;rw[hb,hc];rfl
    have e2:usU us (op ops i)=us ++ [op ops i]:=by unfold usU nmd;rw[hb,hc];rfl
    rw[e1]at hv hm ih ⊢
    rw[e2]at ih ⊢
    simp only[Bool.not_true,Bool.not_false,cond_false,cond_true,put1 hv,qsome_s,qnth_s,List.getD_cons_zero,List.getD_cons_succ,byD_app,hm,hadd,nxtT,Bool.false_or,Bool.true_and]
    exact⟨us',ih⟩
theorem spec123 {L:Lab} (hL:LabOk L) (out:List Int) (ho:out.length≤900000) (ad:Int) (kn:Bool) {l:List UInt8} (hz:l.length≤1000) {us:List (List UInt8)} (hu:us.length≤800000):
 ∃us',q123 [mD L, .int ad, .bool kn, .str (bs l),nameL us,byD out]=some (bif (partsL l).all valB then[.int 0,nameL ((partsL l).foldl usU us),byD (out++wdL L (partsL l))]else[.int 3,nameL us',byD out]):=by
 have hp:=parts_len l
 have hs:=parts_short hz
 have hb:qcmp .lss (qlenS (bs l)) 4294967281=true:=by rw[len_bs,qcmp_lss];exact decide_eq_true (by omega)
 obtain⟨us',hl⟩:=loop123 hL (byD out) ad kn hs (by omega) (partsL l).length 0 [] us (by omega) (by simp;omega) (by omega)
 have e:l123_3 [opD (partsL l), .int ((partsL l).length:Int),byD out,mD L, .int ad, .bool kn] [.int 0, .list [],nameL us]=some (bif (partsL l).all valB then[.int 0,byD (wdL L (partsL l)),nameL ((partsL l).foldl usU us)]else[.int 1,nameL us', .list []]):=by
  rw[l123_3_eq];rw[List.drop_zero,List.nil_append]at hl;exact hl
 have hm:qmem (qlen (byD (out++wdL L (partsL l)))) 1=true:=by rw[byD_len];exact memB (by rw[List.length_append,wdL_len];omega) (by omega)
 refine⟨us',?_⟩
 rw[q123_eq,F123_eq]
 simp only[mkB,splitQ,qlen_op,hb,e,cond_true]
 cases (partsL l).all valB with
 |true=>simp only[cond_true,qsome_s,qnth_s,List.getD_cons_zero,List.getD_cons_succ,qint_i,byD_app,hm,qcmp_eql,decide_true]
 |false=>simp only[cond_false,cond_true,qsome_s,qnth_s,List.getD_cons_zero,List.getD_cons_succ,qint_i,qcmp_eql];rfl
def farB (x:List UInt8):Bool:=decide (255<numV x) && !nearI (numV x)
def byL (xs:List (List UInt8)):List Int:=xs.map fun x=>numV x%256
theorem loop124 (u o L:D) (ad:Int) (kn:Bool) {ops:List (List UInt8)} (hs:Short ops) (hn:ops.length≤2000):∀(k i:Nat) (acc:List Int) (f:Bool),i+k=ops.length→acc.length+k≤20000→
 loW (st124_4 [opD ops, .int (ops.length:Int),u,o,L, .int ad, .bool kn]) [.bool f, .int i,byD acc]=some (bif (ops.drop i).all numB then[.int 0, .bool (f||(ops.drop i).any farB),byD (acc++byL (ops.drop i))]else[.int 1]):=by
 intro k
 induction k with
 |zero=>
  intro i acc f hi ha
  rw[loW_nxt,st124_4_eq,ltI,decide_eq_false (by omega),List.drop_of_length_le (by omega)]
  simp only[cond_false,nxtT,List.all_nil,cond_true,List.any_nil,byL,List.map_nil,List.append_nil,Bool.or_false]
 |succ k ih=>
  intro i acc f hi ha
  have hlt:i<ops.length:=by omega
  have hx:=op_short hs hlt
  obtain⟨g1,g2⟩:=op_get (op_at hlt)
  have hm:qmem (qlen (byD (acc ++ [numV (op ops i)%256]))) 1=true:=by rw[byD_len];exact memB (by simp;omega) (by omega)
  have hadd:qbin .add .i64 (i:Int) 1=((i+1:Nat):Int):=add_nat (by omega)
  have hni:qcmp .eql (qwrap .u32 (qwrap .i8 (numV (op ops i)))) (numV (op ops i))=nearI (numV (op ops i)):=rfl
  have h1:D.list [.int (numV (op ops i)%256)]=byD [numV (op ops i)%256]:=rfl
  rw[loW_nxt,st124_4_eq,ltI,decide_eq_true hlt,g1,g2,(num_spec hx).1,op_drop hlt]
  simp only[cond_true,qsome_s,qnth_s,List.getD_cons_zero,List.getD_cons_succ,qbool_b,qint_i,qnot_c,List.all_cons,List.any_cons,rd8,h1,byD_app,hm,hni,hadd,qiteB_c,qcmp_gtr]
  cases hb:numB (op ops i)with
  |false=>simp only[Bool.not_false,cond_true,nxtT,Bool.false_and,cond_false]
  |true=>
   simp only[Bool.not_true,cond_false,nxtT,Bool.true_and]
   rw[ih (i+1) _ _ (by omega) (by rw[List.length_append];simp;omega)]
   have hf:(bif f then true else bif decide (255<numV (op ops i))then !nearI (numV (op ops i))else false)=(f||farB (op ops i)):=by
    unfold farB;cases f<;>cases decide (255<numV (op ops i))<;>rfl
   rw[hf,Bool.or_assoc]
   unfold byL
   rw[List.append_assoc,List.map_cons];rfl
theorem spec124 (L:D) (out:List Int) (ho:out.length≤900000) (ad:Int) (kn:Bool) {l:List UInt8} (hz:l.length≤1000) (us:D):
 q124 [L, .int ad, .bool kn, .str (bs l),us,byD out]=some (bif (partsL l).all numB then(bif (partsL l).any farB then[.int 7,us,byD out]else[.int 0,us,byD (out++byL (partsL l))])else[.int 3,us,byD out]):=by
 have hp:=parts_len l
 have hs:=parts_short hz
 have hb:qcmp .lss (qlenS (bs l)) 4294967281=true:=by rw[len_bs,qcmp_lss];exact decide_eq_true (by omega)
 have hl:=loop124 us (byD out) L ad kn hs (by omega) (partsL l).length 0 [] false (by omega) (by simp;omega)
 have e:l124_4 [opD (partsL l), .int ((partsL l).length:Int),us,byD out,L, .int ad, .bool kn] [.bool false, .int 0, .list []]=some (bif (partsL l).all numB then[.int 0, .bool ((partsL l).any farB),byD (byL (partsL l))]else[.int 1]):=by
  rw[l124_4_eq];rw[List.drop_zero,List.nil_append,Bool.false_or]at hl;exact hl
 have hm:qmem (qlen (byD (out++byL (partsL l)))) 1=true:=by rw[byD_len];exact memB (by rw[List.length_append];simp[byL];omega) (by omega)
 rw[q124_eq,F124_eq]
 simp only[mkB,splitQ,qlen_op,hb,e,cond_true]
 cases (partsL l).all numB with
 |true=>
  simp only[cond_true,qsome_s,qnth_s,List.getD_cons_zero,List.getD_cons_succ,qint_i,qbool_b,byD_app,hm,qcmp_eql,decide_true]
  cases (partsL l).any farB<;>rfl
 |false=>simp only[cond_false,cond_true,qsome_s,qnth_s,List.getD_cons_zero,List.getD_cons_succ,qint_i,qcmp_eql];rfl
def datE (E:List UInt8→Int):List (List UInt8)→Int
 | []=>0
 |x::r=>if E x≠0 then E x else datE E r
theorem datE_0 {E:List UInt8→Int} {x:List UInt8} (r:List (List UInt8)) (h:E x=0):datE E (x::r)=datE E r:=by
 rw[datE,if_neg (by simp[h])]
theorem datE_1 {E:List UInt8→Int} {x:List UInt8} (r:List (List UInt8)) (h:E x≠0):datE E (x::r)=E x:=by
 rw[datE,if_pos h]
theorem spec127 {v:Int} (h:0≤v∧v<4294967296):q127 [.int v]=some [byD (wordE v)]:=by
 rw[q127_eq,F127_eq]
 simp only[shr8,shr16,shr24,rd8]
 unfold byD wordE
 have:v/16777216%256=v/16777216:=by omega
 rw[this];rfl
theorem loop79w {L:Lab} (hL:LabOk L) {md:Nat} (hmd:md=1∨md=2) {ops:List (List UInt8)} (hs:Short ops) (hn:ops.length≤2000):∀(k i:Nat) (acc:List Int),i+k=ops.length→acc.length+4*k≤20000→
 loW (st79_7 [.int 4,mD L, .int md,opD ops]) [.bool false, .int i,byD acc]=some (if datE (valE L md) (ops.drop i)=0 then[.int 0, .bool false,byD (acc++wdL (lm L md) (ops.drop i))]else[.int 1, .int (datE (valE L md) (ops.drop i))]):=by
 intro k
 induction k with
 |zero=>
  intro i acc hi ha
  rw[loW_nxt,st79_7_eq,qlen_op,ltI,decide_eq_false (by omega),List.drop_of_length_le (by omega)]
  simp only[cond_false,nxtT,datE,if_true,wdL,List.flatMap_nil,List.append_nil]
 |succ k ih=>
  intro i acc hi ha
  have hlt:i<ops.length:=by omega
  have hx:=op_short hs hlt
  obtain⟨g1,g2⟩:=op_get (op_at hlt)
  have hv:=valV_rng (lm_rng hL md) hx
  have hm:qmem (qlen (byD (acc++wordE (valV (lm L md) (op ops i))))) 1=true:=by rw[byD_len];exact memB (by simp[word_len];omega) (by omega)
  have hadd:qbin .add .i64 (i:Int) 1=((i+1:Nat):Int):=add_nat (by omega)
  have hl4:qlen (byD (wordE (valV (lm L md) (op ops i))))=((4:Nat):Int):=by rw[byD_len];rfl
  have hsub:qsub (byD (wordE (valV (lm L md) (op ops i)))) 0 4=byD (wordE (valV (lm L md) (op ops i))):=by
   rw[qsub_eq];rfl
  have hstep:wdL (lm L md) (op ops i::ops.drop (i+1))=wordE (valV (lm L md) (op ops i))++wdL (lm L md) (ops.drop (i+1)):=by unfold wdL;rw[List.flatMap_cons]
  rw[loW_nxt,st79_7_eq,qlen_op,ltI,decide_eq_true hlt,g1,g2,spec77n hL hmd hx,op_drop hlt,hstep]
  simp only[cond_true,qsome_s,qnth_s,List.getD_cons_zero,List.getD_cons_succ,qint_i,spec127 hv,hsub,byD_app,hm,hadd,hl4,qcmp_neq]
  by_cases he:valE L md (op ops i)=0
  ·rw[datE_0 _ he]
   have hq:qcmp .eql 4 1=false:=by rw[qcmp_eql];rfl
   have l0:qcmp .leq 0 0=true:=by rw[qcmp_leq];rfl
   have l4:qcmp .leq 0 4=true:=by rw[qcmp_leq];rfl
   have l44:qcmp .leq 4 ((4:Nat):Int)=true:=by rw[qcmp_leq];rfl
   simp only[he,decide_true,hq,l0,l4,l44,qiteB_c,cond_false,cond_true,Bool.not_true,nxtT]
   rw[ih (i+1) _ (by omega) (by rw[List.length_append,word_len];omega),List.append_assoc]
  ·rw[datE_1 _ he,if_neg he]
   simp only[he,decide_false,Bool.not_false,cond_true,nxtT]
theorem spec79w {L:Lab} (hL:LabOk L) {md:Nat} (hmd:md=1∨md=2) {l:List UInt8} (hz:l.length≤1000):
 q79 [.str (bs l), .int 4,mD L, .int md]=some (if datE (valE L md) (partsL l)=0 then[byD (wdL (lm L md) (partsL l)), .int 0]else[.list [], .int (datE (valE L md) (partsL l))]):=by
 have hp:=parts_len l
 have hs:=parts_short hz
 have hl:=loop79w hL hmd hs (by omega) (partsL l).length 0 [] (by omega) (by simp;omega)
 have e:l79_7 [.int 4,mD L, .int md,opD (partsL l)] [.bool false, .int 0, .list []]=some (if datE (valE L md) (partsL l)=0 then[.int 0, .bool false,byD (wdL (lm L md) (partsL l))]else[.int 1, .int (datE (valE L md) (partsL l))]):=by rw[l79_7_eq];rw[List.drop_zero,List.nil_append]at hl;exact hl
 have hq:qcmp .eql 4 1=false:=by rw[qcmp_eql];rfl
 rw[q79_eq,F79_eq,spec112 l hz]
 simp only[qsome_s,qnth_s,List.getD_cons_zero,hq,qiteI_eq,cond_false,cond_true,e]
 by_cases h:datE (valE L md) (partsL l)=0
 ·rw[if_pos h,if_pos h]
  simp only[qsome_s,qnth_s,List.getD_cons_zero,List.getD_cons_succ,qint_i,qbool_b,qcmp_eql,decide_true,cond_true,cond_false]
 ·rw[if_neg h,if_neg h]
  simp only[qsome_s,qnth_s,List.getD_cons_zero,List.getD_cons_succ,qint_i,qbool_b,qcmp_eql,cond_true]
  rfl
theorem spec77z (L:D) {s:List UInt8} (hz:s.length≤1000):q77 [.str (bs s),L, .int 0]=some [.int (bif numB s then numV s else 0), .bool false, .int (bif numB s then 0 else 3)]:=by
 have h0:qcmp .eql 0 0=true:=by rw[qcmp_eql];rfl
 rw[q77_eq,F77_eq,(num_spec hz).2,h0]
 simp only[qsome_s,qnth_s,List.getD_cons_zero,List.getD_cons_succ,qbool_b,qnot_c,qint_i,cond_true,qiteB_c]
 cases numB s<;>rfl
theorem loop79b (L:D) {ops:List (List UInt8)} (hs:Short ops) (hn:ops.length≤2000):∀(k i:Nat) (acc:List Int) (f:Bool),i+k=ops.length→acc.length+k≤20000→
 loW (st79_7 [.int 1,L, .int 0,opD ops]) [.bool f, .int i,byD acc]=some (bif (ops.drop i).all numB then[.int 0, .bool (f||(ops.drop i).any farB),byD (acc++byL (ops.drop i))]else[.int 1, .int 3]):=by
 intro k
 induction k with
 |zero=>
  intro i acc f hi ha
  rw[loW_nxt,st79_7_eq,qlen_op,ltI,decide_eq_false (by omega),List.drop_of_length_le (by omega)]
  simp only[cond_false,nxtT,List.all_nil,cond_true,List.any_nil,byL,List.map_nil,List.append_nil,Bool.or_false]
 |succ k ih=>
  intro i acc f hi ha
  have hlt:i<ops.length:=by omega
  have hx:=op_short hs hlt
  obtain⟨g1,g2⟩:=op_get (op_at hlt)
  have hv:=num_rng hx
  have hm:qmem (qlen (byD (acc ++ [numV (op ops i)%256]))) 1=true:=by rw[byD_len];exact memB (by simp;omega) (by omega)
  have hadd:qbin .add .i64 (i:Int) 1=((i+1:Nat):Int):=add_nat (by omega)
  have hl4:qlen (byD (wordE (numV (op ops i))))=((4:Nat):Int):=by rw[byD_len];rfl
  have hsub:qsub (byD (wordE (numV (op ops i)))) 0 1=byD [numV (op ops i)%256]:=by rw[qsub_eq];rfl
  rw[loW_nxt,st79_7_eq,qlen_op,ltI,decide_eq_true hlt,g1,g2,spec77z L hx,op_drop hlt]
  simp only[cond_true,qsome_s,qnth_s,List.getD_cons_zero,List.getD_cons_succ,qint_i,qcmp_neq,List.all_cons,List.any_cons]
  cases hb:numB (op ops i)with
  |false=>simp only[cond_false,cond_true,nxtT,Bool.false_and];rfl
  |true=>
   have h1:qcmp .eql 1 1=true:=by rw[qcmp_eql];rfl
   have l0:qcmp .leq 0 0=true:=by rw[qcmp_leq];rfl
   have l4:qcmp .leq 0 1=true:=by rw[qcmp_leq];rfl
   have l44:qcmp .leq 1 ((4:Nat):Int)=true:=by rw[qcmp_leq];rfl
   simp only[cond_true,cond_false,decide_true,Bool.not_true,spec127 hv,hsub,byD_app,hm,hadd,hl4,spec32I hv,h1,l0,l4,l44,qsome_s,qnth_s,List.getD_cons_zero,qbool_b,qnot_c,qiteB_c,qcmp_gtr,Bool.cond_self,nxtT,Bool.true_and]
   rw[ih (i+1) _ _ (by omega) (by rw[List.length_append];simp;omega)]
   have hf:(bif (bif decide (255<numV (op ops i))then !nearI (numV (op ops i))else false)then true else f)=(f||farB (op ops i)):=by
    unfold farB;cases f<;>cases decide (255<numV (op ops i))<;>cases nearI (numV (op ops i))<;>rfl
   rw[hf,Bool.or_assoc]
   unfold byL
   rw[List.append_assoc,List.map_cons];rfl
theorem spec79b (L:D) (md:Nat) {l:List UInt8} (hz:l.length≤1000):
 q79 [.str (bs l), .int 1,L, .int md]=some (bif (partsL l).all numB then(bif (partsL l).any farB then[.list [], .int 7]else[byD (byL (partsL l)), .int 0])else[.list [], .int 3]):=by
 have hp:=parts_len l
 have hs:=parts_short hz
 have hl:=loop79b L hs (by omega) (partsL l).length 0 [] false (by omega) (by simp;omega)
 have e:l79_7 [.int 1,L, .int 0,opD (partsL l)] [.bool false, .int 0, .list []]=some (bif (partsL l).all numB then[.int 0, .bool ((partsL l).any farB),byD (byL (partsL l))]else[.int 1, .int 3]):=by rw[l79_7_eq];rw[List.drop_zero,List.nil_append,Bool.false_or]at hl;exact hl
 have hq:qcmp .eql 1 1=true:=by rw[qcmp_eql];rfl
 rw[q79_eq,F79_eq,spec112 l hz]
 simp only[qsome_s,qnth_s,List.getD_cons_zero,hq,qiteI_eq,cond_true,e]
 cases (partsL l).all numB with
 |true=>
  simp only[cond_true,qsome_s,qnth_s,List.getD_cons_zero,List.getD_cons_succ,qint_i,qbool_b,qcmp_eql,decide_true]
  cases (partsL l).any farB<;>rfl
 |false=>
  simp only[cond_false,cond_true,qsome_s,qnth_s,List.getD_cons_zero,List.getD_cons_succ,qint_i,qbool_b,qcmp_eql]
  rfl
end
end Go.Proofs.YtobhhfbdelnhfaaGreatDoor
namespace Go.Proofs.YtobhhfbdelnhfaaGreatDoor
set_option linter.unusedSimpArgs false
set_option linter.unusedVariables false
open Go Go.AM
def U32 (r:Option (List D)):Prop:=∀v b,r=some [.int v,b]→0≤v∧v<4294967296
theorem U32_none:U32 none:=fun v b h=>by cases h
theorem U32_bif {c:Bool} {x y:Option (List D)} (h:U32 x) (h':U32 y):U32 (bif c then x else y):=by cases c;exact h';exact h
theorem U32_0 {b:D}:U32 (some [.int 0,b]):=fun v b h=>by injection h with h;injection h with h _;injection h with h;omega
theorem U32_w {n:Int} {b:D}:U32 (some [.int (qwrap .u32 n),b]):=fun v b h=>by
 injection h with h;injection h with h _;injection h with h
 rw[← h,qwrap_eq,mU32];omega
theorem U32_n {n:Int} {b:D}:U32 (some [.int (qun .neg .u32 n),b]):=fun v b h=>by
 injection h with h;injection h with h _;injection h with h
 rw[← h,qun_eq];simp only[run1,mU32];omega
theorem num_rg {l:List UInt8} (hz:l.length≤1000):∃n:Nat,numV l=n∧n<4294967296:=by
 have e:=(num_spec hz).1
 have u:U32 (q36 [.str (bs l)]):=by
  rw[q36_eq,F36_eq]
  repeat' first|exact U32_none|exact U32_0|exact U32_w|exact U32_n|refine U32_bif ?_ ?_
 have:=u _ _ e
 obtain⟨n,hn⟩:=Int.eq_ofNat_of_zero_le this.1
 exact⟨n,hn,by omega⟩
theorem reg_rng {l:List UInt8} (h:regB l=true):0≤regV l∧regV l<8:=by
 have e:=(reg_spec l).1
 rw[q108_eq,F108_eq,h]at e
 simp only[qiteB_c,qcmp_neq,qcmp_lss,qcmp_gtr]at e
 generalize qidxS (bs l) 1=x at e
 generalize qidxS (bs l) 0=y at e
 generalize qlenS (bs l)=z at e
 generalize qinbS (bs l) 0=b0 at e
 generalize qinbS (bs l) 1=b1 at e
 by_cases a:z=2<;>by_cases b:y=114<;>by_cases c:x<48<;>by_cases d:55<x<;>cases b0<;>cases b1<;>simp[a,b,c,d]at e
 rw[← e,qbin_eq,qwrap_eq]
 simp only[rbin,IntKind.wrap,IntKind.bits,IntKind.signed]
 simp
 omega
theorem pl_rng {l:List UInt8} (hz:l.length≤1000) (h:(plR l).2.2=0):(0≤(plR l).1∧(plR l).1<8)∧∃n:Nat,(plR l).2.1=n∧n<4294967296∧near n:=by
 revert h
 unfold plR
 split
 ·intro h;cases h
 ·split
  ·intro h;cases h
  ·rename_i hr
   have hr':regB ((l.drop 1).take 2)=true:=by simpa using hr
   split
   ·intro _;exact⟨reg_rng hr',0,rfl,by omega, .inl (by omega)⟩
   ·rename_i a r hx
    have hl:r.length≤1000:=by
     have:=congrArg List.length hx
     simp at this;omega
    obtain⟨n,hn,h2⟩:=num_rg hl
    unfold plT
    rw[hn]
    split
    ·intro h;cases h
    ·split
     ·intro h;cases h
     ·rename_i g1 g2
      intro _
      refine⟨reg_rng hr',?_⟩
      have ha:a=43∨a=45:=by
       apply Classical.byContradiction
       intro hc
       exact g1 (.inr (.inr ⟨fun e=>hc (.inl e),fun e=>hc (.inr e)⟩))
      rcases ha with rfl|rfl
      ·have hn7:n≤127:=by
        apply Classical.byContradiction
        intro hc
        exact g2 (.inl ⟨rfl,by omega⟩)
       exact⟨n,by rw[if_neg (by decide)],h2, .inl hn7⟩
      ·have hn8:n≤128:=by
        apply Classical.byContradiction
        intro hc
        exact g2 (.inr (by omega))
       rw[if_pos rfl,qbin_eq]
       simp only[rbin,mU32]
       by_cases h0:n=0
       ·exact⟨0,by subst h0;rfl,by omega, .inl (by omega)⟩
       ·exact⟨4294967296-n,by omega,by omega, .inr (by omega)⟩
def good:Cls→Prop
 | .bare k=>0≤k∧k≤2
 | .one o cc=>(o=3∨o=4∨o=21∨o=24∨o=26∨o=27)∧cc=0∨o=25∧0≤cc∧cc≤14
 | .mem o w _=>o=16∧(w=1∨w=2∨w=4)∨o=17∧(w=1∨w=2)∨o=18∧(w=1∨w=2∨w=4)∨o=19∧w=0
 | .ar k=>0≤k∧k≤10
 | .jmp cc=>0≤cc∧cc≤14
 |_=>True
theorem good_ite {c:Prop} [Decidable c] {x y:Cls} (h:good x) (h':good y):good (if c then x else y):=by
 split
 ·exact h
 ·exact h'
theorem ix_rng {names:List (List UInt8)} (x:List UInt8):ix names x = -1∨0≤ix names x∧ix names x<names.length:=by
 rcases ixF_range x names 0 with h|⟨k,hk,_,e⟩
 ·exact .inl h
 ·right;unfold ix;rw[e];omega
theorem good_cls (m:List UInt8):good (cls m):=by
 have c15:ccL.length=15:=rfl
 have o11:opL.length=11:=rfl
 have r1:=ix_rng (names:=ccL) (m.drop 1)
 have r3:=ix_rng (names:=ccL) (m.drop 3)
 have ro:=ix_rng (names:=opL) m
 unfold cls
 split
 ·show(0:Int)≤0∧(0:Int)≤14;omega
 ·split
  ·rename_i h;show 0≤ix ccL (m.drop 1)∧ix ccL (m.drop 1)≤14;omega
  ·split
   ·split
    ·trivial
    ·show _∨_∧_;right;exact⟨rfl,by omega,by omega⟩
   ·split
    ·show 0≤ix opL m∧ix opL m≤10;omega
    ·unfold clsO
     repeat' apply good_ite
     all_goals simp[good]
theorem hasS_ins {a i o f w c x y z s:Int}:hasS (insD a i o f w c x y z) s↔shp o f w c=some s∧okA s o f w c x y i (off i a):=by
 obtain⟨f0,f1,f2,f3,f4,f5,f6,f7,f8⟩:=insF a i o f w c x y z
 unfold hasS short
 rw[f0,f1,f2,f3,f4,f5,f6,f7];exact Iff.rfl
theorem fm_n {n:Nat} (w:Bool) (h:n<4294967296):fm n w=if near n∧w=false then 1 else 2:=by
 unfold fm nearI
 rw[nearW n h]
 by_cases hn:near n<;>simp[hn]
theorem fmN_n {n:Nat} (w nm:Bool) (h2:n<4294967296):fmN n w nm=if(near n∧w=false)∧nm=false then 1 else 2:=by
 unfold fmN
 cases nm with
 |true=>simp
 |false=>rw[cond_false,fm_n w h2];simp
theorem val_rg {L:Lab} (hL:∀p∈L,0≤p.2∧p.2<4294967296) {l:List UInt8} (hz:l.length≤1000):∃n:Nat,valV L l=n∧n<4294967296:=by
 have:=valV_rng hL hz
 obtain⟨n,hn⟩:=Int.eq_ofNat_of_zero_le this.1
 exact⟨n,hn,by omega⟩
theorem OTn_ok {L:Lab} (hL:∀p∈L,0≤p.2∧p.2<4294967296) {c:Cls} (hg:good c) {ops:List (List UInt8)} (hs:Short ops) (w:Bool) (a:Int):
 (OTn L c w ops a=erD 3∨OTn L c w ops a=erD 7)∨∃(n:Nat) (o f wd cc x y s:Int),OTn L c w ops a=okD a n o f wd cc x y∧n<4294967296∧hasS (insD a n o f wd cc x y 0) s:=by
 cases c with
 |bare k=>
  simp only[OTn]
  cases hb:(!w&&decide (ops.length=0))with
  |false=>exact .inl (.inl rfl)
  |true=>
   have g:0≤k∧k≤2:=hg
   refine .inr ⟨0,k,0,0,0,0,0,0,rfl,by omega,hasS_ins.2 ⟨?_,?_⟩⟩
   ·unfold shp;rw[if_pos g]
   ·unfold okA;omega
 |one o cc=>
  simp only[OTn]
  cases hb:(!w&&(decide (ops.length=1)&&regB (op ops 0)))with
  |false=>exact .inl (.inl rfl)
  |true=>
   simp only[Bool.and_eq_true]at hb
   have hr:=reg_rng hb.2.2
   rcases hg with⟨g,rfl⟩|⟨rfl,g⟩
   ·rcases g with rfl|rfl|rfl|rfl|rfl|rfl
    ·exact .inr ⟨0,3,0,0,0,_,0,1,rfl,by omega,hasS_ins.2 ⟨rfl,by unfold okA;omega⟩⟩
    ·exact .inr ⟨0,4,0,0,0,_,0,1,rfl,by omega,hasS_ins.2 ⟨rfl,by unfold okA;omega⟩⟩
    ·exact .inr ⟨0,21,0,0,0,_,0,2,rfl,by omega,hasS_ins.2 ⟨rfl,by unfold okA;omega⟩⟩
    ·exact .inr ⟨0,24,0,0,0,_,0,2,rfl,by omega,hasS_ins.2 ⟨rfl,by unfold okA;omega⟩⟩
    ·exact .inr ⟨0,26,0,0,0,_,0,2,rfl,by omega,hasS_ins.2 ⟨rfl,by unfold okA;omega⟩⟩
    ·exact .inr ⟨0,27,0,0,0,_,0,2,rfl,by omega,hasS_ins.2 ⟨rfl,by unfold okA;omega⟩⟩
   ·refine .inr ⟨0,25,0,0,cc,_,0,2,rfl,by omega,hasS_ins.2 ⟨?_,by unfold okA;omega⟩⟩
    unfold shp
    simp[g]
 |mem o wd st=>
  simp only[OTn]
  cases hb:(!w&&meOk ops st)with
  |false=>exact .inl (.inl rfl)
  |true=>
   simp only[Bool.and_eq_true]at hb
   have hk:=hb.2
   unfold meOk at hk
   simp only[Bool.and_eq_true,decide_eq_true_eq]at hk
   have hr:=reg_rng hk.2.1
   have hlen:(meP ops st).length≤1000:=by unfold meP;cases st;exact op_short hs (by omega);exact op_short hs (by omega)
   rcases plE (meP ops st)with h|h|h
   ·obtain⟨hp,n,en,h2,nn⟩:=pl_rng hlen h
    rw[h,en]
    unfold near at nn
    refine .inr ⟨n,o,0,wd,0,_,_,5,rfl,h2,hasS_ins.2 ⟨?_,?_⟩⟩
    ·rcases hg with⟨rfl,g⟩|⟨rfl,g⟩|⟨rfl,g⟩|⟨rfl,g⟩<;>unfold shp<;>simp[g]
    ·have g':o=16∨o=17∨o=18∨o=19∧wd=0:=by rcases hg with⟨h,_⟩|⟨h,_⟩|⟨h,_⟩|⟨h,g⟩<;>omega
     unfold okA;omega
   ·rw[h]at hk;simp at hk
   ·rw[h];exact .inl (.inr rfl)
 |call=>
  simp only[OTn]
  cases hb:(!w&&(decide (ops.length=1)&&valB (op ops 0)))with
  |false=>exact .inl (.inl rfl)
  |true=>
   simp only[Bool.and_eq_true,decide_eq_true_eq]at hb
   obtain⟨n,en,h2⟩:=val_rg hL (op_short hs (k:=0) (by omega))
   rw[en]
   exact .inr ⟨n,23,0,0,0,0,0,8,rfl,h2,hasS_ins.2 ⟨rfl,by unfold okA;omega⟩⟩
 |jumpt=>
  simp only[OTn]
  cases hb:(!w&&(decide (ops.length=2)&&(regB (op ops 0)&&valB (op ops 1))))with
  |false=>exact .inl (.inl rfl)
  |true=>
   simp only[Bool.and_eq_true,decide_eq_true_eq]at hb
   have hr:=reg_rng hb.2.2.1
   obtain⟨n,en,h2⟩:=val_rg hL (op_short hs (k:=1) (by omega))
   rw[en]
   exact .inr ⟨n,22,0,0,0,_,0,6,rfl,h2,hasS_ins.2 ⟨rfl,by unfold okA;omega⟩⟩
 |ar k=>
  have g:0≤k∧k≤10:=hg
  simp only[OTn]
  cases hb:arOkN ops w with
  |false=>exact .inl (.inl rfl)
  |true=>
   unfold arOkN at hb
   simp only[Bool.and_eq_true,decide_eq_true_eq]at hb
   have hr:=reg_rng hb.2.1
   obtain⟨n,en,h2⟩:=val_rg hL (op_short hs (k:=1) (by omega))
   unfold arIN
   by_cases h1:regB (op ops 1)=true
   ·have hr1:=reg_rng h1
    rw[if_pos h1,if_pos h1]
    refine .inr ⟨0,5+k,0,0,0,_,_,3,rfl,by omega,hasS_ins.2 ⟨?_,by unfold okA;omega⟩⟩
    unfold shp
    rw[if_neg (by omega),if_neg (by omega),if_pos (by omega),if_pos rfl]
   ·rw[if_neg h1,if_neg h1,en,fmN_n w _ h2]
    by_cases hn:(near n∧w=false)∧nmd (op ops 1)=false
    ·rw[if_pos hn]
     have hn1:=hn.1.1
     unfold near at hn1
     refine .inr ⟨n,5+k,1,0,0,_,0,4,rfl,h2,hasS_ins.2 ⟨?_,by unfold okA;omega⟩⟩
     unfold shp
     rw[if_neg (by omega),if_neg (by omega),if_pos (by omega),if_neg (by omega),if_pos rfl]
    ·rw[if_neg hn]
     refine .inr ⟨n,5+k,2,0,0,_,0,6,rfl,h2,hasS_ins.2 ⟨?_,by unfold okA;omega⟩⟩
     unfold shp
     rw[if_neg (by omega),if_neg (by omega),if_pos (by omega),if_neg (by omega),if_neg (by omega),if_pos rfl]
 |jmp cc=>
  have g:0≤cc∧cc≤14:=hg
  simp only[OTn]
  cases hb:(decide (ops.length=1)&&valB (op ops 0))with
  |false=>exact .inl (.inl rfl)
  |true=>
   simp only[Bool.and_eq_true,decide_eq_true_eq]at hb
   obtain⟨n,en,h2⟩:=val_rg hL (op_short hs (k:=0) (by omega))
   rw[en]
   have ho:0≤off n a∧off n a<4294967296:=by unfold off;rw[qbin_eq];simp only[rbin,mU32];omega
   obtain⟨j,hj⟩:=Int.eq_ofNat_of_zero_le ho.1
   rw[hj,fmN_n w _ (by omega)]
   by_cases hn:(near j∧w=false)∧nmd (op ops 0)=false
   ·rw[if_pos hn]
    have hn1:=hn.1.1
    unfold near at hn1
    refine .inr ⟨n,20,1,0,cc,0,0,7,rfl,h2,hasS_ins.2 ⟨?_,by rw[hj];unfold okA;omega⟩⟩
    unfold shp;simp[g]
   ·rw[if_neg hn]
    refine .inr ⟨n,20,2,0,cc,0,0,8,rfl,h2,hasS_ins.2 ⟨?_,by rw[hj];unfold okA;omega⟩⟩
    unfold shp;simp[g]
 |unk=>exact .inl (.inl rfl)
end Go.Proofs.YtobhhfbdelnhfaaGreatDoor
namespace Go.Proofs.YtobhhfbdelnhfaaGreatDoor
set_option linter.unusedSimpArgs false
set_option linter.unusedVariables false
open Go Go.AM
open Classical in
noncomputable def enL (O:List D):List Int:=if h:∃s,hasS (O.getD 0 .other) s then encB (O.getD 0 .other) h.choose else[]
theorem enL_of {O:List D} {s:Int} (h:hasS (O.getD 0 .other) s):enL O=encB (O.getD 0 .other) s:=by
 have h':∃s,hasS (O.getD 0 .other) s:=⟨s,h⟩
 unfold enL
 rw[dif_pos h',hasS_un h'.choose_spec h]
theorem encB_len {d:D} {s:Int} (h:hasS d s) (hi:0≤qint (qfld d 1)∧qint (qfld d 1)<4294967296):((encB d s).length:Int)=sLen s:=by
 obtain⟨bs,e1,e2⟩:=bytes_spec h
 rw[ref_bytes h hi]at e1
 simp only[Option.some.injEq,List.cons.injEq,and_true]at e1
 rw[← e1,len_list,List.length_map]at e2
 exact e2
theorem OTn_two (L L':Lab) (c:Cls) (w:Bool) (ops:List (List UInt8)) (a:Int):
 (∃e,e≠0∧OTn L c w ops a=erD e∧OTn L' c w ops a=erD e)∨∃n n' o f wd cc x y:Int,OTn L c w ops a=okD a n o f wd cc x y∧OTn L' c w ops a=okD a n' o f wd cc x y:=by
 have e3:(3:Int)≠0:=by omega
 have hv:∀x,nmd x=false→valB x=true→valV L x=valV L' x:=by
  intro x h1 h2
  unfold nmd at h1;unfold valB at h2;unfold valV
  cases hn:numB x<;>cases hb:nmB x<;>simp_all
 have hf:∀x w',valB x=true→fmN (valV L x) w' (nmd x)=fmN (valV L' x) w' (nmd x):=by
  intro x w' h2
  cases h:nmd x with
  |true=>rfl
  |false=>rw[hv x h h2]
 have hg:∀x w',valB x=true→fmN (off (valV L x) a) w' (nmd x)=fmN (off (valV L' x) a) w' (nmd x):=by
  intro x w' h2
  cases h:nmd x with
  |true=>rfl
  |false=>rw[hv x h h2]
 cases c with
 |bare k=>simp only[OTn];cases (!w&&decide (ops.length=0))with
  |false=>exact .inl ⟨3,e3,rfl,rfl⟩
  |true=>exact .inr ⟨_,_,_,_,_,_,_,_,rfl,rfl⟩
 |one o cc=>simp only[OTn];cases (!w&&(decide (ops.length=1)&&regB (op ops 0)))with
  |false=>exact .inl ⟨3,e3,rfl,rfl⟩
  |true=>exact .inr ⟨_,_,_,_,_,_,_,_,rfl,rfl⟩
 |mem o wd st=>simp only[OTn];cases (!w&&meOk ops st)with
  |false=>exact .inl ⟨3,e3,rfl,rfl⟩
  |true=>cases ((plR (meP ops st)).2.2==7)with
   |true=>exact .inl ⟨7,by omega,rfl,rfl⟩
   |false=>exact .inr ⟨_,_,_,_,_,_,_,_,rfl,rfl⟩
 |call=>simp only[OTn];cases (!w&&(decide (ops.length=1)&&valB (op ops 0)))with
  |false=>exact .inl ⟨3,e3,rfl,rfl⟩
  |true=>exact .inr ⟨_,_,_,_,_,_,_,_,rfl,rfl⟩
 |jumpt=>simp only[OTn];cases (!w&&(decide (ops.length=2)&&(regB (op ops 0)&&valB (op ops 1))))with
  |false=>exact .inl ⟨3,e3,rfl,rfl⟩
  |true=>exact .inr ⟨_,_,_,_,_,_,_,_,rfl,rfl⟩
 |ar k=>
  simp only[OTn]
  cases hb:arOkN ops w with
  |false=>exact .inl ⟨3,e3,rfl,rfl⟩
  |true=>
   unfold arIN
   by_cases h1:regB (op ops 1)=true
   ·rw[if_pos h1,if_pos h1,if_pos h1,if_pos h1]
    exact .inr ⟨_,_,_,_,_,_,_,_,rfl,rfl⟩
   ·unfold arOkN at hb
    simp only[Bool.and_eq_true,decide_eq_true_eq]at hb
    have hval:valB (op ops 1)=true:=by
     have:=hb.2.2
     cases hr:regB (op ops 1)with
     |true=>exact absurd hr h1
     |false=>rw[hr]at this;exact this
    rw[if_neg h1,if_neg h1,if_neg h1,if_neg h1,hf _ w hval]
    exact .inr ⟨_,_,_,_,_,_,_,_,rfl,rfl⟩
 |jmp cc=>
  simp only[OTn]
  cases hb:(decide (ops.length=1)&&valB (op ops 0))with
  |false=>exact .inl ⟨3,e3,rfl,rfl⟩
  |true=>
   simp only[Bool.and_eq_true]at hb
   rw[hg _ w hb.2]
   exact .inr ⟨_,_,_,_,_,_,_,_,rfl,rfl⟩
 |unk=>exact .inl ⟨3,e3,rfl,rfl⟩
theorem OTn_enc {L:Lab} (hL:∀p∈L,0≤p.2∧p.2<4294967296) {l:List UInt8} (hz:l.length≤1000) (a:Int):
 (∃e,e≠0∧OTn L (cls (word l)) (wide l) (opsL l) a=erD e)∨
 ∃I s,OTn L (cls (word l)) (wide l) (opsL l) a = [I, .int 0]∧hasS I s∧(0≤qint (qfld I 1)∧qint (qfld I 1)<4294967296)∧enL (OTn L (cls (word l)) (wide l) (opsL l) a)=encB I s∧
  q17 [I]=some [byD (enL (OTn L (cls (word l)) (wide l) (opsL l) a)), .int 0]∧q80 [I]=some [byD (enL (OTn L (cls (word l)) (wide l) (opsL l) a)), .int 0]∧((enL (OTn L (cls (word l)) (wide l) (opsL l) a)).length:Int)=sLen s:=by
 rcases OTn_ok hL (good_cls (word l)) (opsL_short hz) (wide l) a with(h|h)|⟨n,o,f,wd,cc,x,y,s,h,h2,hs⟩
 ·exact .inl ⟨3,by omega,h⟩
 ·exact .inl ⟨7,by omega,h⟩
 ·have hI:∀z,hasS (insD a n o f wd cc x y z) s:=fun z=>hasS_ins.2 (hasS_ins.1 hs)
  have hi:∀z,0≤qint (qfld (insD a n o f wd cc x y z) 1)∧qint (qfld (insD a n o f wd cc x y z) 1)<4294967296:=by
   intro z
   rw[(insF a n o f wd cc x y z).2.1];omega
  rw[h]
  have he:enL (okD a n o f wd cc x y)=encB ((okD a n o f wd cc x y).getD 0 .other) s:=enL_of (hI _)
  refine .inr ⟨_,s,rfl,hI _,hi _,he,?_,?_,?_⟩
  ·rw[he];exact enc_ok (hI _) (hi _)
  ·rw[he];exact enc_ref (hI _) (hi _)
  ·rw[he];exact encB_len (hI _) (hi _)
theorem enL_two {L L':Lab} (hL:∀p∈L,0≤p.2∧p.2<4294967296) (hL':∀p∈L',0≤p.2∧p.2<4294967296) {l:List UInt8} (hz:l.length≤1000) (a:Int):
 (enL (OTn L (cls (word l)) (wide l) (opsL l) a)).length=(enL (OTn L' (cls (word l)) (wide l) (opsL l) a)).length:=by
 have k1:=OTn_enc hL hz a
 have k2:=OTn_enc hL' hz a
 rcases OTn_two L L' (cls (word l)) (wide l) (opsL l) a with⟨e,_,h1,h2⟩|⟨n,n',o,f,wd,cc,x,y,h1,h2⟩
 ·rw[h1,h2]
 ·rcases k1 with⟨e,he,h⟩|⟨I,s,h,hs,_,_,_,_,hl⟩
  ·rw[h1]at h;unfold okD erD at h
   simp only[List.cons.injEq,D.int.injEq,and_true]at h
   exact absurd h.2.symm he
  ·rcases k2 with⟨e,he,h'⟩|⟨I',s',h',hs',_,_,_,_,hl'⟩
   ·rw[h2]at h';unfold okD erD at h'
    simp only[List.cons.injEq,D.int.injEq,and_true]at h'
    exact absurd h'.2.symm he
   ·rw[h1]at h;rw[h2]at h'
    unfold okD at h h'
    simp only[List.cons.injEq,and_true]at h h'
    rw[← h]at hs;rw[← h']at hs'
    have a1:=(hasS_ins.1 hs).1
    have a2:=(hasS_ins.1 hs').1
    rw[a1]at a2
    simp only[Option.some.injEq]at a2
    subst a2
    omega
end Go.Proofs.YtobhhfbdelnhfaaGreatDoor
namespace Go.Proofs.YtobhhfbdelnhfaaGreatDoor
set_option linter.unusedSimpArgs false
set_option linter.unusedVariables false
open Go Go.AM
def E58 (l:List UInt8):Prop:=0<l.length∧l.getD (l.length-1) 0=58
theorem e58_drop {l:List UInt8} (h:E58 l) {k:Nat} (hk:k<l.length):E58 (l.drop k):=by
 refine⟨by simp;omega,?_⟩
 have h2:=h.2
 rw[List.getD_eq_getElem?_getD]at h2 ⊢
 rw[List.getElem?_drop,List.length_drop,show k+(l.length-k-1)=l.length-1 by omega]
 exact h2
theorem dgN_bad (s:ByteArray) (base:Int):∀(k i:Nat) (n:Int) (j:Nat),i≤j→j<i+k→dv (byt s j)<0→dgN s base k i n=none
 |0,i,n,j,h1,h2,_=>by omega
 |k+1,i,n,j,h1,h2,hd=>by
  unfold dgN
  by_cases e:dv (byt s i)<0∨base≤dv (byt s i)
  ·rw[if_pos e]
  ·rw[if_neg e]
   have:j≠i:=fun x=>by subst x;exact e (.inl hd)
   exact dgN_bad s base k (i+1) _ j (by omega) (by omega) hd
theorem byt_bs (l:List UInt8) (i:Nat):byt (bs l) i=((l.getD i 0).toNat:Int):=rfl
theorem q147_58 {l:List UInt8} (h:l = []∨E58 l) {base:Int} (hb:10≤base∧base≤16):q147 [.str (bs l), .int base]=some [.int 0, .bool false]:=by
 rw[spec147 hb]
 rcases h with rfl|h
 ·rfl
 ·rw[dgN_bad (bs l) base (bs l).size 0 0 (l.length-1) (by omega) (by rw[bs_size];have:=h.1;omega) (by rw[byt_bs,h.2];decide)]
  simp
theorem e58_or {l:List UInt8} (h:E58 l) (k:Nat):l.drop k = []∨E58 (l.drop k):=by
 by_cases hk:k<l.length
 ·exact .inr (e58_drop h hk)
 ·exact .inl (List.drop_of_length_le (by omega))
theorem num58 {l:List UInt8} (hz:l.length≤1000) (h:E58 l):numB l=false:=by
 have e:=(num_spec hz).2
 rw[q126_eq,F126_eq]at e
 have s1:qsubS (bs l) 1 (l.length:Int)=bs (l.drop 1):=sub_from l 1
 have s2:qsubS (bs l) 2 (l.length:Int)=bs (l.drop 2):=sub_from l 2
 have a1:q147 [.str (bs (l.drop 2)), .int 16]=some [.int 0, .bool false]:=q147_58 (e58_or h 2) (by omega)
 have a2:∀c,q147 [.str (qiteS c (bs (l.drop 1)) (bs l)), .int 10]=some [.int 0, .bool false]:=by
  intro c
  rw[qiteS_eq]
  cases c
  ·exact q147_58 (.inr h) (by omega)
  ·exact q147_58 (e58_or h 1) (by omega)
 simp only[len_bs,s1,s2,a1,a2,qsome_s,qnth_s,List.getD_cons_zero,List.getD_cons_succ,qbool_b,qnot_c,Bool.not_false,qiteB_c,cond_true,Bool.cond_true_left,Bool.true_or]at e
 simp only[Bool.cond_eq_ite]at e
 repeat' (split at e)
 all_goals first
  | (cases e;done)
  | (simp only[Option.some.injEq,List.cons.injEq,D.bool.injEq,and_true]at e
     exact e.2.symm)
theorem reg58 {l:List UInt8} (h:E58 l):regB l=false:=by
 have e:=(reg_spec l).1
 rw[q108_eq,F108_eq,len_bs]at e
 cases hr:regB l with
 |false=>rfl
 |true=>
  rw[hr]at e
  simp only[qiteB_c,qcmp_neq,qcmp_lss,qcmp_gtr]at e
  by_cases h2:l.length=2
  ·have hx:qidxS (bs l) 1=58:=by
    have:=idx_bs l 1
    have h3:=h.2
    rw[h2]at h3
    rw[show((1:Nat):Int)=1 from rfl]at this
    rw[this,h3];rfl
   rw[hx,h2]at e
   generalize qidxS (bs l) 0=y at e
   generalize qinbS (bs l) 0=b0 at e
   generalize qinbS (bs l) 1=b1 at e
   by_cases b:y=114<;>cases b0<;>cases b1<;>simp[b]at e
  ·have hn:decide ((l.length:Int)=2)=false:=decide_eq_false (by omega)
   rw[hn]at e
   simp at e
theorem okNT_all {s:ByteArray}:∀(k i:Nat),okNT s i k=true→∀j,i≤j→j<i+k→okN j (byt s j)=true
 |0,i,_,j,h1,h2=>by omega
 |k+1,i,h,j,h1,h2=>by
  simp only[okNT,Bool.and_eq_true]at h
  by_cases e:j=i
  ·subst e;exact h.1
  ·exact okNT_all k (i+1) h.2 j (by omega) (by omega)
theorem okN58 (i:Nat):okN i 58=false:=by
 unfold okN
 simp only[show¬(97:Int)≤58 by omega,show¬(65:Int)≤58 by omega,show¬(58:Int)=95 by omega,show¬(58:Int)=46 by omega,show¬(58:Int)<48 by omega,show(57:Int)<58 by omega,decide_true,decide_false]
 simp
theorem nm58 {l:List UInt8} (h:E58 l):nmB l=false:=by
 unfold nmB
 cases ho:okNT (bs l) 0 l.length with
 |false=>simp
 |true=>
  have:=okNT_all l.length 0 ho (l.length-1) (by omega) (by have:=h.1;omega)
  rw[byt_bs,h.2]at this
  rw[show(((58:UInt8).toNat:Nat):Int)=58 from rfl,okN58]at this
  cases this
theorem val58 {l:List UInt8} (hz:l.length≤1000) (h:E58 l):valB l=false:=by unfold valB;rw[num58 hz h,nm58 h];rfl
theorem pl58 {l:List UInt8} (h:E58 l):(plR l).2.2=3:=by
 unfold plR
 rw[if_pos (.inr (.inr (by rw[h.2];decide)))]
theorem comma_at:∀(l:List UInt8) (k:Nat),comma l=some k→l.getD (k+1) 0=32
 | [],k,h=>by simp[comma]at h
 | [a],k,h=>by simp[comma]at h
 |a::b::l,k,h=>by
  unfold comma at h
  split at h
  ·rename_i e;cases h;simpa using e.2
  ·obtain⟨j,hj,rfl⟩:=Option.map_eq_some_iff.1 h
   have:=comma_at (b::l) j hj
   rw[List.getD_cons_succ];exact this
theorem parts58:∀(n:Nat) (l:List UInt8),E58 l→∃x,(partsF n l).getLast?=some x∧E58 x
 |0,l,h=>⟨l,rfl,h⟩
 |n+1,l,h=>by
  unfold partsF
  cases hc:comma l with
  |none=>exact⟨l,rfl,h⟩
  |some k=>
   have hl:=comma_lt l k hc
   have ha:=comma_at l k hc
   have hk:k+2<l.length:=by
    apply Classical.byContradiction
    intro hx
    have h2:=h.2
    rw[show l.length-1=k+1 by omega,ha]at h2
    revert h2;decide
   obtain⟨x,hx,hx2⟩:=parts58 n (l.drop (k+2)) (e58_drop h hk)
   refine⟨x,?_,hx2⟩
   rw[List.getLast?_cons,hx];rfl
theorem blank_at:∀(l:List UInt8),blank l<l.length→l.getD (blank l) 0=32
 | [],h=>by simp at h
 |c::l,h=>by
  unfold blank at h ⊢
  by_cases e:c=32
  ·rw[if_pos e];simpa using e
  ·rw[if_neg e]at h ⊢
   rw[List.getD_cons_succ]
   exact blank_at l (by simp at h;omega)
theorem items58 {l:List UInt8} (hz:l.length≤1000) (h:E58 l):(partsL l).all valB=false∧(partsL l).all numB=false:=by
 obtain⟨x,hx,hx2⟩:=parts58 l.length l h
 have hm:x∈partsL l:=List.mem_of_getLast? hx
 have hs:=parts_short hz x hm
 constructor
 ·rw[Bool.eq_false_iff];intro e
  have:=List.all_eq_true.1 e x hm
  rw[val58 hs hx2]at this;cases this
 ·rw[Bool.eq_false_iff];intro e
  have:=List.all_eq_true.1 e x hm
  rw[num58 hs hx2]at this;cases this
theorem op_last {ops:List (List UInt8)} {x:List UInt8} (h:ops.getLast?=some x) {k:Nat} (hk:ops.length=k+1):op ops k=x:=by
 rw[List.getLast?_eq_getElem?,hk]at h
 unfold op;rw[List.getD_eq_getElem?_getD]
 simp at h;rw[h];rfl
theorem OTn58 (L:Lab) {l:List UInt8} (hz:l.length≤1000) (h:E58 l) (a:Int):OTn L (cls (word l)) (wide l) (opsL l) a=erD 3:=by
 by_cases sp:blank l<l.length
 ·have hb:blank l+1<l.length:=by
   apply Classical.byContradiction
   intro hx
   have h2:=h.2
   rw[show l.length-1=blank l by omega,blank_at l sp]at h2
   revert h2;decide
  have ho:opsL l=partsL (l.drop (blank l+1)):=by unfold opsL;rw[if_pos sp]
  obtain⟨x,hx,hx2⟩:=parts58 (l.drop (blank l+1)).length _ (e58_drop h hb)
  have hx':(opsL l).getLast?=some x:=by rw[ho];exact hx
  have hm:x∈opsL l:=List.mem_of_getLast? hx'
  have hs:=opsL_short hz x hm
  have hv:=val58 hs hx2
  have hr:=reg58 hx2
  have hp:=pl58 hx2
  have h0:(opsL l).length≠0:=fun e=>by rw[List.length_eq_zero_iff.1 e]at hm;cases hm
  generalize opsL l=ops at *
  have l1:ops.length=1→op ops 0=x:=fun e=>op_last hx' e
  have l2:ops.length=2→op ops 1=x:=fun e=>op_last hx' e
  generalize wide l=w
  cases cls (word l)with
  |bare k=>simp only[OTn];rw[decide_eq_false h0];simp
  |one o cc=>
   simp only[OTn]
   by_cases e:ops.length=1
   ·rw[l1 e,hr];simp
   ·rw[decide_eq_false e];simp
  |mem o wd st=>
   have hk:meOk ops st=false:=by
    unfold meOk meR meP
    by_cases e:ops.length=2
    ·cases st with
     |true=>simp only[cond_true];rw[l2 e,hr];simp
     |false=>simp only[cond_false];rw[l2 e,hp];simp
    ·rw[decide_eq_false e];simp
   simp only[OTn,hk];simp
  |call=>
   simp only[OTn]
   by_cases e:ops.length=1
   ·rw[l1 e,hv];simp
   ·rw[decide_eq_false e];simp
  |jumpt=>
   simp only[OTn]
   by_cases e:ops.length=2
   ·rw[l2 e,hv];simp
   ·rw[decide_eq_false e];simp
  |ar k=>
   have hk:arOkN ops w=false:=by
    unfold arOkN
    by_cases e:ops.length=2
    ·rw[l2 e,hr,hv];simp
    ·rw[decide_eq_false e];simp
   simp only[OTn,hk];rfl
  |jmp cc=>
   simp only[OTn]
   by_cases e:ops.length=1
   ·rw[l1 e,hv];simp
   ·rw[decide_eq_false e];simp
  |unk=>rfl
 ·have ho:opsL l = []:=by unfold opsL;rw[if_neg sp]
  have hb:=blank_le l
  have hh:headL l=l:=by unfold headL;rw[show blank l=l.length by omega,List.take_length]
  have hw:wide l=false:=by
   unfold wide sfx
   rw[hh]
   cases hd:(decide ([46,119].length≤l.length)&&decide (l.drop (l.length - [46,119].length) = [46,119]))with
   |false=>rfl
   |true=>
    exfalso
    simp only[Bool.and_eq_true,decide_eq_true_eq,List.length_cons,List.length_nil,Nat.zero_add,Nat.reduceAdd]at hd
    have h3:=(e58_drop h (k:=l.length-2) (by have:=h.1;omega)).2
    rw[hd.2]at h3
    revert h3;decide
  have hword:word l=l:=by unfold word;rw[hw,hh];rfl
  rw[ho,hw,hword]
  cases hc:cls l with
  |bare k=>
   exfalso
   obtain⟨ht,hg, -⟩:=tst_cls l
   rw[hc]at ht hg
   simp only[tst,expd,Prod.mk.injEq,List.cons.injEq]at ht
   simp only[clsG,decide_eq_true_eq]at hg
   rcases ix_range s1L l with e|⟨j,hj,hx,e⟩
   ·rw[ht.1.1]at e;omega
   ·have h3:s1L.length=3:=rfl
    have h2:=h.2
    rcases(by omega:j=0∨j=1∨j=2)with rfl|rfl|rfl<;>simp[s1L]at hx<;>subst hx<;>revert h2<;>decide
  |one o cc=>simp[OTn]
  |mem o wd st=>simp[OTn,meOk]
  |call=>simp[OTn]
  |jumpt=>simp[OTn]
  |ar k=>simp[OTn,arOkN]
  |jmp cc=>simp[OTn]
  |unk=>rfl
end Go.Proofs.YtobhhfbdelnhfaaGreatDoor
namespace Go.Proofs.YtobhhfbdelnhfaaGreatDoor
noncomputable section
set_option linter.unusedSimpArgs false
set_option linter.unusedVariables false
open Go Go.AM
def pW (l:List UInt8):Bool:=List.isPrefixOf [46,119,111,114,100,32] l
def pB (l:List UInt8):Bool:=List.isPrefixOf [46,98,121,116,101,32] l
def insO (L:Lab) (l:List UInt8) (a:Int):List D:=OTn L (cls (word l)) (wide l) (opsL l) a
def lnE (l:List UInt8) (a:Int):Int:=
 if l = []then 0 else bif pW l then(bif (partsL (l.drop 6)).all valB then 0 else 3)else bif pB l then(bif (partsL (l.drop 6)).all numB then(bif (partsL (l.drop 6)).any farB then 7 else 0)else 3)
 else qint ((insO [] l a).getD 1 .other)
def lnB (L:Lab) (l:List UInt8) (a:Int):List Int:=
 if l = []then[]else bif pW l then wdL L (partsL (l.drop 6))else bif pB l then byL (partsL (l.drop 6))else enL (insO L l a)
def lnU (us:List (List UInt8)) (l:List UInt8):List (List UInt8):=
 if l = []then us else bif pW l then(partsL (l.drop 6)).foldl usU us else bif pB l then us else usN us (cls (word l)) (opsL l)
theorem usU_app (us:List (List UInt8)) (x:List UInt8):usU us x=us++usU [] x:=by unfold usU;cases nmd x<;>simp
theorem fold_app:∀(xs us:List (List UInt8)),xs.foldl usU us=us++xs.foldl usU []
 | [],us=>by simp
 |x::r,us=>by
  rw[List.foldl_cons,List.foldl_cons,fold_app r (usU us x),fold_app r (usU [] x),usU_app us x,List.append_assoc]
theorem lnU_app (us:List (List UInt8)) (l:List UInt8):lnU us l=us++lnU [] l:=by
 unfold lnU
 by_cases h:l = []
 ·rw[if_pos h,if_pos h];simp
 ·rw[if_neg h,if_neg h]
  cases pW l with
  |true=>exact fold_app _ _
  |false=>
   cases pB l with
   |true=>simp
   |false=>
    simp only[cond_false]
    cases cls (word l)<;>simp only[usN]
    case call=>exact usU_app _ _
    case jumpt=>exact usU_app _ _
    case jmp=>exact usU_app _ _
    case ar=>cases regB (op (opsL l) 1)<;>first|exact usU_app _ _|simp
    all_goals simp
theorem qint_er (e:Int):qint ((erD e).getD 1 .other)=e:=by unfold erD;simp only[List.getD_cons_zero,List.getD_cons_succ,qint_i]
theorem qint_ok (a i o f w c x y:Int):qint ((okD a i o f w c x y).getD 1 .other)=0:=by unfold okD;simp only[List.getD_cons_zero,List.getD_cons_succ,qint_i]
theorem insO_err (L:Lab) (l:List UInt8) (a:Int):qint ((insO L l a).getD 1 .other)=qint ((insO [] l a).getD 1 .other):=by
 unfold insO
 rcases OTn_two L [] (cls (word l)) (wide l) (opsL l) a with⟨e,_,h1,h2⟩|⟨n,n',o,f,wd,cc,x,y,h1,h2⟩
 ·rw[h1,h2]
 ·rw[h1,h2,qint_ok,qint_ok]
theorem lnE58 {l:List UInt8} (hz:l.length≤1000) (h:E58 l) (a:Int):lnE l a=3:=by
 have hl:=h.1
 unfold lnE
 rw[if_neg (fun e=>by rw[e]at hl;simp at hl)]
 have hp:∀p:List UInt8,p.length=6→p.getD 5 0=32→List.isPrefixOf p l=true→E58 (l.drop 6):=by
  intro p h6 hq hpre
  obtain⟨t,rfl⟩:=List.isPrefixOf_iff_prefix.1 hpre
  cases t with
  |nil=>
   exfalso
   have h2:=h.2
   simp only[List.append_nil,h6,Nat.reduceSub]at h2
   rw[hq]at h2;revert h2;decide
  |cons c t=>exact e58_drop h (by simp;omega)
 cases hW:pW l with
 |true=>
  have:=items58 (by simp;omega) (hp _ rfl rfl hW)
  rw[this.1];rfl
 |false=>
  cases hB:pB l with
  |true=>
   have:=items58 (by simp;omega) (hp _ rfl rfl hB)
   rw[this.2];rfl
  |false=>
   simp only[cond_false]
   unfold insO
   rw[OTn58 [] hz h,qint_er]
theorem lnB_len {L L':Lab} (hL:LabOk L) (hL':LabOk L') {l:List UInt8} (hz:l.length≤1000) (a:Int):(lnB L l a).length=(lnB L' l a).length:=by
 unfold lnB
 by_cases h:l = []
 ·rw[if_pos h,if_pos h]
 ·rw[if_neg h,if_neg h]
  cases pW l with
  |true=>simp only[cond_true,wdL_len]
  |false=>
   cases pB l with
   |true=>rfl
   |false=>exact enL_two hL.2 hL'.2 hz a
theorem mS (l:List UInt8):E58 l↔sfx [58] l=true:=by
 unfold sfx E58
 simp only[List.length_cons,List.length_nil,Nat.zero_add,Bool.and_eq_true,decide_eq_true_eq]
 constructor
 ·rintro⟨h1,h2⟩
  refine⟨h1,?_⟩
  rw[List.drop_eq_getElem_cons (by omega),List.drop_of_length_le (by omega)]
  rw[List.getD_eq_getElem?_getD]at h2
  simp[show l.length-1<l.length by omega]at h2
  rw[h2]
 ·rintro⟨h1,h2⟩
  refine⟨h1,?_⟩
  rw[List.drop_eq_getElem_cons (by omega)]at h2
  simp only[List.cons.injEq]at h2
  rw[List.getD_eq_getElem?_getD]
  simp[show l.length-1<l.length by omega,h2.1]
def nmOf (l:List UInt8):List UInt8:=l.take (l.length-1)
theorem line58 {L:Lab} (ad:Int) (kn:Bool) {l:List UInt8} (hz:l.length≤1000) (h:E58 l) (us:D) (out:D):
 q76 [.int ad, .bool kn, .str (bs l),us,mD L,out]=some (bif nmB (nmOf l)then(bif (lk L (nmOf l)).isSome && !kn then[.int 8,us,out,mD L]else[.int 0,us,out,qmput 9 (mD L) (.str (bs (nmOf l))) (.int (qbin .add .u32 ad (qwrap .u32 (qlen out))))])else[.int 3,us,out,mD L]):=by
 have hl:=h.1
 have h0:decide (l = [])=false:=decide_eq_false (fun e=>by rw[e]at hl;simp at hl)
 have e62:q62 [.str (bs l), .str (bs [58])]=some [.str (bs (bif sfx [58] l then l.take (l.length - [58].length)else l)), .bool (sfx [58] l)]:=suf62 l [58] (by omega)
 rw[(mS l).1 h]at e62
 rw[q76_eq,F76_eq]
 simp only[mkB,show ByteArray.mk #[]=bs []from rfl,eq_bs,h0,cond_false,e62,cond_true,qsome_s,qnth_s,List.getD_cons_zero,List.getD_cons_succ,qbool_b,qstr_s,List.length_cons,List.length_nil,Nat.zero_add]
 have hn:l.take (l.length-1)=nmOf l:=rfl
 rw[hn,q122_eq,F122_eq,spec146,mhas_lk]
 simp only[qsome_s,qnth_s,List.getD_cons_zero,List.getD_cons_succ,qbool_b,qnot_c,qiteB_c,cond_true]
 cases nmB (nmOf l)with
 |false=>simp only[Bool.not_false,cond_true,cond_false,qsome_s,qnth_s,List.getD_cons_zero,List.getD_cons_succ,qint_i]
 |true=>
  cases (lk L (nmOf l)).isSome<;>cases kn<;>simp[qsome_s,qnth_s,qint_i]
theorem lineP {L:Lab} (hL:LabOk L) (ad:Int) (kn:Bool) {l:List UInt8} (hz:l.length≤1000) (h:¬E58 l) {us:List (List UInt8)} (hu:us.length≤800000) {out:List Int} (ho:out.length≤800000) {a:Int} (ha:a=qbin .add .u32 ad (qwrap .u32 (out.length:Int))):
 ∃us',q76 [.int ad, .bool kn, .str (bs l),nameL us,mD L,byD out]=some (if lnE l a=0 then[.int 0,nameL (lnU us l),byD (out++lnB L l a),mD L]else[.int (lnE l a),nameL us',byD out,mD L]):=by
 have e62:q62 [.str (bs l), .str (bs [58])]=some [.str (bs (bif sfx [58] l then l.take (l.length - [58].length)else l)), .bool (sfx [58] l)]:=suf62 l [58] (by omega)
 rw[show sfx [58] l=false by rw[Bool.eq_false_iff];exact fun e=>h ((mS l).2 e)]at e62
 rw[q76_eq,F76_eq]
 simp only[mkB,show ByteArray.mk #[]=bs []from rfl,eq_bs,e62,cond_true,cond_false,qsome_s,qnth_s,List.getD_cons_zero,List.getD_cons_succ,qbool_b,qstr_s,pre59,byD_len,List.length_cons,List.length_nil,Nat.zero_add,Nat.reduceAdd]
 unfold lnE lnB lnU
 by_cases h0:l = []
 ·exact⟨us,by simp[h0]⟩
 ·rw[decide_eq_false h0,if_neg h0,if_neg h0,if_neg h0]
  have hW:List.isPrefixOf [46,119,111,114,100,32] l=pW l:=rfl
  have hB:List.isPrefixOf [46,98,121,116,101,32] l=pB l:=rfl
  rw[hW,hB]
  have hd:(l.drop 6).length≤1000:=by simp;omega
  cases pW l with
  |true=>
   obtain⟨us',e⟩:=spec123 hL out (by omega) ad kn hd hu
   simp only[cond_true,cond_false,e]
   cases (partsL (l.drop 6)).all valB with
   |true=>exact⟨us',by simp[qsome_s,qnth_s,qint_i]⟩
   |false=>exact⟨us',by simp[qsome_s,qnth_s,qint_i]⟩
  |false=>
   cases pB l with
   |true=>
    have e:=spec124 (mD L) out (by omega) ad kn hd (nameL us)
    simp only[cond_true,cond_false,e]
    refine⟨us,?_⟩
    cases (partsL (l.drop 6)).all numB with
    |true=>
     cases (partsL (l.drop 6)).any farB with
     |true=>simp[qsome_s,qnth_s,qint_i]
     |false=>simp[qsome_s,qnth_s,qint_i]
    |false=>simp[qsome_s,qnth_s,qint_i]
   |false=>
    simp only[cond_false]
    rw[← ha]
    obtain⟨us',e,hU⟩:=text37a L (byD out) ad kn (us:=us) (by omega) l hz a
    have hx:=insO_err L l a
    unfold insO at hx ⊢
    refine⟨us',?_⟩
    rcases OTn_enc hL.2 hz a with⟨er,he,hO⟩|⟨I,s,hO,hs,hi,_,h17,_,hl⟩
    ·rw[hO]at hx e
     rw[qint_er]at hx
     rw[← hx,if_neg he,e]
     unfold erD
     simp only[List.cons_append,List.nil_append,qsome_s,qnth_s,List.getD_cons_zero,List.getD_cons_succ,qint_i,qcmp_neq,decide_eq_false he,Bool.not_false,cond_true]
    ·have hlen:(enL (OTn L (cls (word l)) (wide l) (opsL l) a)).length≤6:=by have:=sLen_pos s;omega
     have hm:qmem ((out++enL (OTn L (cls (word l)) (wide l) (opsL l) a)).length:Int) 1=true:=memB (by rw[List.length_append];omega) (by omega)
     have hU':=hU (by rw[hO];rfl)
     subst hU'
     rw[hO]at hx
     rw[show qint ([I,D.int 0].getD 1 .other)=0 by simp only[List.getD_cons_zero,List.getD_cons_succ,qint_i]]at hx
     rw[← hx,if_pos rfl,e]
     generalize enL (OTn L (cls (word l)) (wide l) (opsL l) a)=B at *
     rw[hO]
     simp only[List.cons_append,List.nil_append,qsome_s,qnth_s,List.getD_cons_zero,List.getD_cons_succ,qint_i,qcmp_neq,decide_true,Bool.not_true,cond_true,cond_false,h17,byD_app,byD_len,hm]
end
end Go.Proofs.YtobhhfbdelnhfaaGreatDoor
namespace Go.Proofs.YtobhhfbdelnhfaaGreatDoor
set_option linter.unusedSimpArgs false
set_option linter.unusedVariables false
open Go Go.AM
noncomputable def labB (l:List UInt8):Bool:=sfx [58] l&&nmB (nmOf l)
theorem spec44 {l:List UInt8} (hz:l.length≤1000):q44 [.str (bs l)]=some (bif labB l then[.str (bs (nmOf l)), .bool true]else[.str (bs []), .bool false]):=by
 rw[q44_eq,F44_eq,len_bs,show qcmp .lss (l.length:Int) 2=decide (l.length<2)from ltI l.length 2]
 unfold labB
 by_cases h2:l.length<2
 ·have hl:(sfx [58] l&&nmB (nmOf l))=false:=by
   cases hn:nmB (nmOf l)with
   |false=>simp
   |true=>
    exfalso
    unfold nmB at hn
    simp only[Bool.and_eq_true,decide_eq_true_eq]at hn
    have:=hn.1.1
    unfold nmOf at this
    simp at this;omega
  rw[decide_eq_true h2,hl]
  simp only[qiteB_c,cond_true,cond_false];rfl
 ·have hsub:qbin .sub .i64 (l.length:Int) 1=((l.length-1:Nat):Int):=subI (b:=1) (by omega) (by omega)
  have hs:qsubS (bs l) 0 ((l.length-1:Nat):Int)=bs (nmOf l):=sub_to l _
  have hn:(nmOf l).length≤1000:=by unfold nmOf;simp;omega
  have hc:sfx [58] l=decide (l.getD (l.length-1) 0=58):=by
   rw[Bool.eq_iff_iff, ← mS,decide_eq_true_eq]
   exact⟨fun e=>e.2,fun e=>⟨by omega,e⟩⟩
  rw[decide_eq_false h2,hsub,idx_bs,inb_bs (by omega),hs,spec78 hn,show qcmp .neq ((l.getD (l.length-1) 0).toNat:Int) 58 = !decide (l.getD (l.length-1) 0=58)from neq8 _ 58 (by omega), ← hc,
   show qcmp .leq 0 0=true by rw[qcmp_leq];rfl,show qcmp .leq 0 ((l.length-1:Nat):Int)=true by rw[qcmp_leq];exact decide_eq_true (by omega),leI',decide_eq_true (show l.length-1≤l.length by omega)]
  simp only[qiteB_c,qand_c,qsome_s,qnth_s,List.getD_cons_zero,qbool_b,qnot_c,cond_true,cond_false,Bool.and_self]
  cases sfx [58] l<;>cases nmB (nmOf l)<;>rfl
noncomputable def rfE (md:Nat) (L:Lab) (l:List UInt8) (a:Int):Int:=
 if l = []then 0 else bif pW l then datE (valE L md) (partsL (l.drop 6))else bif pB l then(bif (partsL (l.drop 6)).all numB then(bif (partsL (l.drop 6)).any farB then 7 else 0)else 3)
 else qint ((OTx md L (cls (word l)) (wide l) (opsL l) a).getD 1 .other)
theorem pre6 {p:List UInt8} (h6:p.length=6) (l:List UInt8):(bif decide (6≤l.length)then decide (l.take 6=p)else false)=List.isPrefixOf p l:=by
 rw[Bool.eq_iff_iff,List.isPrefixOf_iff_prefix,List.prefix_iff_eq_take,h6]
 by_cases h:6≤l.length
 ·rw[decide_eq_true h];simp only[cond_true,decide_eq_true_eq];exact eq_comm
 ·rw[decide_eq_false h]
  simp only[cond_false,Bool.false_eq_true,false_iff]
  intro e
  have:=congrArg List.length e
  rw[h6,List.length_take]at this;omega
theorem spec45 {L:Lab} (hL:LabOk L) {md:Nat} (hmd:md=1∨md=2) {l:List UInt8} (hz:l.length≤1000) (a:Int):
 q45 [.str (bs l), .int a,mD L, .int md]=some (if rfE md L l a=0 then[byD (lnB (lm L md) l a), .int 0]else[.list [], .int (rfE md L l a)]):=by
 have hge:qcmp .geq (l.length:Int) 6=decide (6≤l.length):=geI l.length 6
 have hto:qsubS (bs l) 0 6=bs (l.take 6):=sub_to l 6
 have hfr:qsubS (bs l) 6 (l.length:Int)=bs (l.drop 6):=sub_from l 6
 have hg:qiteB (decide (6≤l.length)) (qand (qcmp .leq 0 0) (qand true (qcmp .leq 6 (l.length:Int)))) Bool.true=true:=by
  rw[qiteB_c,qand_c]
  by_cases h:6≤l.length
  ·rw[decide_eq_true h,show qcmp .leq 0 0=true by rw[qcmp_leq];rfl,show qcmp .leq 6 (l.length:Int)=true by rw[qcmp_leq];exact decide_eq_true (by omega)];rfl
  ·rw[decide_eq_false h];rfl
 have hWp:qiteB (decide (6≤l.length)) (decide (l.take 6 = [46,119,111,114,100,32])) Bool.false=pW l:=by rw[qiteB_c];exact pre6 rfl l
 have hBp:qiteB (decide (6≤l.length)) (decide (l.take 6 = [46,98,121,116,101,32])) Bool.false=pB l:=by rw[qiteB_c];exact pre6 rfl l
 have hlen:∀{p:List UInt8},p.length=6→List.isPrefixOf p l=true→6≤l.length:=by
  intro p h6 h
  have:=(List.isPrefixOf_iff_prefix.1 h).length_le
  omega
 have g1:qcmp .leq 0 6=true:=by rw[qcmp_leq];rfl
 have g3:qcmp .leq (l.length:Int) (l.length:Int)=true:=by rw[qcmp_leq];exact decide_eq_true (by omega)
 have hd:(l.drop 6).length≤1000:=by simp;omega
 rw[q45_eq,F45_eq]
 simp only[mkB,show ByteArray.mk #[]=bs []from rfl,len_bs,eq_bs,hge,hto,hfr,hg,hWp,hBp,g1,g3,cond_true]
 unfold rfE lnB
 by_cases h0:l = []
 ·simp[h0,byD]
 ·rw[decide_eq_false h0,if_neg h0,if_neg h0]
  simp only[cond_false]
  cases hW:pW l with
  |true=>
   have g2:qcmp .leq 6 (l.length:Int)=true:=by rw[qcmp_leq];exact decide_eq_true (by have:=hlen (p:=[46,119,111,114,100,32]) rfl hW;omega)
   rw[g2,spec79w hL hmd hd]
   simp only[cond_true,qsome_s]
   by_cases he:datE (valE L md) (partsL (l.drop 6))=0
   ·simp only[if_pos he,cond_true,qnth_s,List.getD_cons_zero,List.getD_cons_succ,qint_i]
   ·simp only[if_neg he,cond_true,qnth_s,List.getD_cons_zero,List.getD_cons_succ,qint_i]
  |false=>
   simp only[cond_false]
   cases hB:pB l with
   |true=>
    have g2:qcmp .leq 6 (l.length:Int)=true:=by rw[qcmp_leq];exact decide_eq_true (by have:=hlen (p:=[46,98,121,116,101,32]) rfl hB;omega)
    rw[g2,spec79b (mD L) md hd]
    simp only[cond_true,qsome_s]
    cases (partsL (l.drop 6)).all numB with
    |true=>
     cases (partsL (l.drop 6)).any farB with
     |true=>simp[qnth_s,qint_i]
     |false=>simp[qnth_s,qint_i]
    |false=>simp[qnth_s,qint_i]
   |false=>
    simp only[cond_false,ref39n hL hmd hz a,qsome_s,cond_true]
    unfold OTx insO
    rcases OTn_enc (lm_rng hL md) hz a with⟨er,he,hO⟩|⟨I,s,hO,hs,hi,_,_,h80,_⟩
    ·rw[hO,okO_er,decide_eq_false he,Bool.and_false]
     simp only[cond_false]
     rw[qint_er,if_neg he]
     unfold erD
     simp only[qnth_s,List.getD_cons_zero,List.getD_cons_succ,qint_i,qcmp_neq,decide_eq_false he,Bool.not_false,cond_true]
    ·have hk:okO [I,D.int 0]=true:=by unfold okO;simp only[List.getD_cons_zero,List.getD_cons_succ,qint_i];rfl
     generalize enL (OTn (lm L md) (cls (word l)) (wide l) (opsL l) a)=B at *
     rw[hO,hk,Bool.and_true]
     cases missB md L (cls (word l)) (opsL l)with
     |true=>
      simp only[cond_true]
      rw[qint_er,if_neg (by omega)]
      unfold erD
      simp[qnth_s,qint_i,qcmp_neq]
     |false=>
      simp only[cond_false]
      rw[show qint ([I,D.int 0].getD 1 .other)=0 by simp only[List.getD_cons_zero,List.getD_cons_succ,qint_i],if_pos rfl]
      simp only[qsome_s,qnth_s,List.getD_cons_zero,List.getD_cons_succ,qint_i,qcmp_neq,decide_true,Bool.not_true,cond_true,cond_false,h80]
theorem ms1 (L:Lab) (s:List UInt8):msB 1 L s=false:=by unfold msB;simp
theorem datE_val (L:Lab):∀xs:List (List UInt8),datE (valE L 1) xs=bif xs.all valB then 0 else 3
 | []=>rfl
 |x::r=>by
  have ih:=datE_val L r
  have hv:=valE_eq (.inl rfl:(1=1∨1=2)) L x
  rw[ms1]at hv
  rw[List.all_cons]
  cases hb:valB x with
  |true=>
   rw[hb]at hv
   rw[datE_0 _ hv,ih];rfl
  |false=>
   rw[hb]at hv
   rw[datE_1 _ (by rw[hv];simp),hv];rfl
theorem rfE_1 (L:Lab) (l:List UInt8) (a:Int):rfE 1 L l a=lnE l a:=by
 have hm:missB 1 L (cls (word l)) (opsL l)=false:=by
  cases cls (word l)<;>simp only[missB,ms1,Bool.and_false]
 unfold rfE lnE OTx insO
 rw[datE_val,hm];rfl
def hasAll (L:Lab) (us:List (List UInt8)):Bool:=us.all fun s=>(lk L s).isSome
theorem hasAll_app (L:Lab) (a b:List (List UInt8)):hasAll L (a++b)=(hasAll L a&&hasAll L b):=by unfold hasAll;rw[List.all_append]
theorem hasAll_us (L:Lab) (x:List UInt8):hasAll L (usU [] x) = !msB 2 L x:=by
 unfold usU msB hasAll
 cases nmd x with
 |false=>rfl
 |true=>cases hk:lk L x<;>simp[hk]
theorem datE_ms (L:Lab):∀xs:List (List UInt8),xs.all valB=true→datE (valE L 2) xs=bif hasAll L (xs.foldl usU [])then 0 else 17
 | [],_=>rfl
 |x::r,h=>by
  rw[List.all_cons,Bool.and_eq_true]at h
  have ih:=datE_ms L r h.2
  have hv:=valE_eq (.inr rfl:(2=1∨2=2)) L x
  rw[h.1]at hv
  rw[List.foldl_cons,fold_app,hasAll_app,hasAll_us]
  cases hm:msB 2 L x with
  |false=>
   rw[hm]at hv
   rw[datE_0 _ hv,ih];rfl
  |true=>
   rw[hm]at hv
   rw[datE_1 _ (by rw[hv];simp),hv];rfl
theorem miss_us (L:Lab) (c:Cls) (ops:List (List UInt8)):missB 2 L c ops = !hasAll L (usN [] c ops):=by
 cases c<;>simp only[missB,usN]
 case call=>rw[hasAll_us,Bool.not_not]
 case jumpt=>rw[hasAll_us,Bool.not_not]
 case jmp=>rw[hasAll_us,Bool.not_not]
 case ar=>
  cases regB (op ops 1)with
  |false=>simp only[cond_false,hasAll_us,Bool.not_not,Bool.not_false,Bool.true_and]
  |true=>rfl
 all_goals rfl
theorem rfE_2 (L:Lab) {l:List UInt8} {a:Int} (h:lnE l a=0):rfE 2 L l a=bif hasAll L (lnU [] l)then 0 else 17:=by
 unfold lnE at h
 unfold rfE lnU
 by_cases h0:l = []
 ·simp[h0,hasAll]
 ·rw[if_neg h0]at h ⊢
  rw[if_neg h0]
  cases hW:pW l with
  |true=>
   rw[hW]at h
   have hv:(partsL (l.drop 6)).all valB=true:=by
    cases hx:(partsL (l.drop 6)).all valB with
    |true=>rfl
    |false=>rw[hx]at h;simp at h
   exact datE_ms L _ hv
  |false=>
   rw[hW]at h
   cases hB:pB l with
   |true=>rw[hB]at h;simp only[cond_true,cond_false]at h ⊢;rw[h];rfl
   |false=>
    rw[hB]at h
    simp only[cond_false]at h ⊢
    have hx:=insO_err (lm L 2) l a
    rw[h]at hx
    unfold insO at hx
    unfold OTx
    rw[miss_us]
    have hk:okO (OTn (lm L 2) (cls (word l)) (wide l) (opsL l) a)=true:=by unfold okO;rw[hx];rfl
    rw[hk,Bool.and_true]
    cases hasAll L (usN [] (cls (word l)) (opsL l))with
    |true=>simp only[Bool.not_true,cond_false,cond_true];exact hx
    |false=>simp only[Bool.not_false,cond_false,cond_true];exact qint_er 17
end Go.Proofs.YtobhhfbdelnhfaaGreatDoor
namespace Go.Proofs.YtobhhfbdelnhfaaGreatDoor
noncomputable section
set_option linter.unusedSimpArgs false
set_option linter.unusedVariables false
open Go Go.AM
theorem nm_num {l:List UInt8} (hz:l.length≤1000) (h:nmB l=true):numB l=false:=by
 unfold nmB at h
 simp only[Bool.and_eq_true,decide_eq_true_eq]at h
 have h1:1≤l.length:=h.1.1
 have hk:=okNT_all l.length 0 h.2.1 0 (by omega) (by omega)
 rw[byt_bs]at hk
 have hc:¬(((l.getD 0 0).toNat:Int)=45)∧¬((48:Int)≤((l.getD 0 0).toNat:Int)∧((l.getD 0 0).toNat:Int)≤57):=by
  generalize ((l.getD 0 0).toNat:Int)=x at hk
  unfold okN at hk
  simp only[Int.natCast_zero,decide_true,Bool.not_true,Bool.false_and,Bool.or_false,Bool.or_eq_true,Bool.and_eq_true,decide_eq_true_eq]at hk
  omega
 have e:=(num_spec hz).2
 rw[q126_eq,F126_eq]at e
 have s2:qcmpS .eql (qsubS (bs l) 0 2) (bs [48,120])=false:=by
  rw[show qsubS (bs l) 0 2=bs (l.take 2)from sub_to l 2,eq_bs]
  apply decide_eq_false
  intro x
  have h0:l.getD 0 0=48:=by
   cases l with
   |nil=>simp at h1
   |cons c r=>simp at x;exact x.1
  exact hc.2 (by rw[h0];decide)
 have h45:qcmp .eql (qidxS (bs l) 0) 45=false:=by
  rw[show qidxS (bs l) 0=((l.getD 0 0).toNat:Int)from idx_bs l 0,qcmp_eql]
  exact decide_eq_false hc.1
 have a2:q147 [.str (bs l), .int 10]=some [.int 0, .bool false]:=by
  rw[spec147 (by omega)]
  split
  ·have hd:dgN (bs l) 10 (bs l).size 0 0=none:=by
    rw[show(bs l).size=(l.length-1)+1 by rw[bs_size];omega]
    unfold dgN
    rw[if_pos]
    rw[byt_bs]
    generalize ((l.getD 0 0).toNat:Int)=x at hc
    unfold dv
    rw[if_neg hc.2]
    split<;>omega
   rw[hd]
  ·rfl
 simp only[mkB,show ByteArray.mk #[48,120]=bs [48,120]from rfl,s2,h45,qiteS_eq,a2,qsome_s,qnth_s,List.getD_cons_zero,List.getD_cons_succ,qbool_b,qnot_c,Bool.not_false,qiteB_c,cond_true,cond_false,Bool.cond_self]at e
 simp only[Bool.cond_eq_ite]at e
 repeat' (split at e)
 all_goals first
  | (cases e;done)
  | (simp only[Option.some.injEq,List.cons.injEq,D.bool.injEq,and_true]at e
     exact e.2.symm)
theorem lab_e58 {l:List UInt8} (h:labB l=true):E58 l∧nmB (nmOf l)=true:=by
 unfold labB at h
 simp only[Bool.and_eq_true]at h
 exact⟨(mS l).2 h.1,h.2⟩
theorem nmOf_short {l:List UInt8} (hz:l.length≤1000):(nmOf l).length≤1000:=by unfold nmOf;simp;omega
def adr (ad:Int) (n:Nat):Int:=qbin .add .u32 ad (qwrap .u32 (n:Int))
theorem adr_rng (ad:Int) (n:Nat):0≤adr ad n∧adr ad n<4294967296:=by unfold adr;rw[qbin_eq];simp only[rbin,mU32];omega
def p1 (ad:Int):Lab→Nat→List (List UInt8)→Except Int (Lab×Nat)
 |L,n,[]=> .ok (L,n)
 |L,n,l::r=>
  bif labB l then(bif (lk L (nmOf l)).isSome then .error 8 else p1 ad (L ++ [(nmOf l,adr ad n)]) n r)
  else if lnE l (adr ad n)=0 then p1 ad L (n+(lnB [] l (adr ad n)).length) r else .error (lnE l (adr ad n))
def p2 (ad:Int) (L:Lab):Nat→List (List UInt8)→List Int
 |_,[]=>[]
 |n,l::r=>bif labB l then p2 ad L n r else lnB L l (adr ad n)++p2 ad L (n+(lnB [] l (adr ad n)).length) r
def nms:List (List UInt8)→List (List UInt8)
 | []=>[]
 |l::r=>bif labB l then nms r else lnU [] l++nms r
def wgt:List (List UInt8)→Nat
 | []=>0
 |l::r=>10*(l.length+1)+wgt r
theorem lnB_le {L:Lab} (hL:LabOk L) {l:List UInt8} (hz:l.length≤1000) (a:Int) (h:lnE l a=0):(lnB L l a).length≤10*(l.length+1):=by
 have hp:=parts_len (l.drop 6)
 rw[List.length_drop]at hp
 unfold lnE at h
 unfold lnB
 by_cases h0:l = []
 ·simp[h0]
 ·rw[if_neg h0]at h ⊢
  cases hW:pW l with
  |true=>simp only[cond_true,wdL_len];omega
  |false=>
   rw[hW]at h
   cases hB:pB l with
   |true=>simp only[cond_true,cond_false,byL,List.length_map];omega
   |false=>
    rw[hB]at h
    simp only[cond_false]at h ⊢
    rw[← insO_err L]at h
    unfold insO at h ⊢
    rcases OTn_enc hL.2 hz a with⟨er,he,hO⟩|⟨I,s,hO,hs,hi,_,_,_,hl⟩
    ·rw[hO,qint_er]at h;exact absurd h he
    ·have:=sLen_pos s;omega
theorem fold_len:∀(xs us:List (List UInt8)),(xs.foldl usU us).length≤us.length+xs.length
 | [],us=>by simp
 |x::r,us=>by
  rw[List.foldl_cons]
  have:=fold_len r (usU us x)
  have:=usU_len us x
  simp;omega
theorem lnU_le (l:List UInt8):(lnU [] l).length≤10*(l.length+1):=by
 have hp:=parts_len (l.drop 6)
 rw[List.length_drop]at hp
 have hu:∀x,(usU [] x).length≤1:=fun x=>by have:=usU_len [] x;simpa using this
 unfold lnU
 by_cases h0:l = []
 ·simp[h0]
 ·rw[if_neg h0]
  cases pW l with
  |true=>simp only[cond_true];have:=fold_len (partsL (l.drop 6)) [];simp at this;omega
  |false=>
   cases pB l with
   |true=>simp
   |false=>
    simp only[cond_false]
    cases cls (word l)<;>simp only[usN]
    case call=>have:=hu (op (opsL l) 0);omega
    case jumpt=>have:=hu (op (opsL l) 1);omega
    case jmp=>have:=hu (op (opsL l) 0);omega
    case ar=>cases regB (op (opsL l) 1)<;>simp only[cond_true,cond_false]<;>first|(have:=hu (op (opsL l) 1);omega)|simp
    all_goals simp
theorem lab_snoc {L:Lab} (hL:LabOk L) (hl:L.length<1000000) (s:List UInt8) {a:Int} (ha:0≤a∧a<4294967296):LabOk (L ++ [(s,a)]):=by
 refine⟨by simp;omega,?_⟩
 intro p hp
 rcases List.mem_append.1 hp with h|h
 ·exact hL.2 p h
 ·simp at h;subst h;exact ha
theorem lk_snoc (L:Lab) (s:List UInt8) (a:Int) (h:lk L s=none):lk (L ++ [(s,a)]) s=some a:=by
 induction L with
 |nil=>simp[lk]
 |cons p r ih=>
  unfold lk at h
  rw[List.cons_append]
  unfold lk
  by_cases e:p.1=s
  ·rw[if_pos e]at h;cases h
  ·rw[if_neg e]at h ⊢;exact ih h
theorem lk_more (L:Lab) (s t:List UInt8) (a v:Int) (h:lk L t=some v):lk (L ++ [(s,a)]) t=some v:=by
 induction L with
 |nil=>cases h
 |cons p r ih=>
  unfold lk at h
  rw[List.cons_append]
  unfold lk
  by_cases e:p.1=t
  ·rw[if_pos e]at h ⊢;exact h
  ·rw[if_neg e]at h ⊢;exact ih h
theorem p1_keep (ad:Int):∀(ls:List (List UInt8)) (L:Lab) (n:Nat) (L':Lab) (n':Nat),p1 ad L n ls = .ok (L',n')→∀t v,lk L t=some v→lk L' t=some v
 | [],L,n,L',n',h,t,v,ht=>by simp only[p1,Except.ok.injEq,Prod.mk.injEq]at h;rw[← h.1];exact ht
 |l::r,L,n,L',n',h,t,v,ht=>by
  rw[p1]at h
  cases hl:labB l with
  |true=>
   rw[hl]at h
   cases hk:(lk L (nmOf l)).isSome with
   |true=>rw[hk]at h;simp at h
   |false=>
    rw[hk]at h
    simp only[cond_true,cond_false]at h
    exact p1_keep ad r _ _ _ _ h t v (lk_more L _ t _ v ht)
  |false=>
   rw[hl]at h
   simp only[cond_false]at h
   by_cases he:lnE l (adr ad n)=0
   ·rw[if_pos he]at h
    exact p1_keep ad r _ _ _ _ h t v ht
   ·rw[if_neg he]at h;cases h
theorem p1_ok (ad:Int):∀(ls:List (List UInt8)) (L:Lab) (n:Nat) (L':Lab) (n':Nat),LabOk L→L.length+ls.length≤900000→p1 ad L n ls = .ok (L',n')→LabOk L'
 | [],L,n,L',n',hL,_,h=>by simp only[p1,Except.ok.injEq,Prod.mk.injEq]at h;rw[← h.1];exact hL
 |l::r,L,n,L',n',hL,hb,h=>by
  rw[p1]at h
  simp only[List.length_cons]at hb
  cases hl:labB l with
  |true=>
   rw[hl]at h
   cases hk:(lk L (nmOf l)).isSome with
   |true=>rw[hk]at h;simp at h
   |false=>
    rw[hk]at h
    simp only[cond_true,cond_false]at h
    exact p1_ok ad r _ _ _ _ (lab_snoc hL (by omega) _ (adr_rng _ _)) (by simp;omega) h
  |false=>
   rw[hl]at h
   simp only[cond_false]at h
   by_cases he:lnE l (adr ad n)=0
   ·rw[if_pos he]at h
    exact p1_ok ad r _ _ _ _ hL (by omega) h
   ·rw[if_neg he]at h;cases h
theorem pass1P (u o:D) (ad:Int) {lines:List (List UInt8)} (hs:Short lines) (hn:lines.length≤2000):∀(k i:Nat) (L:Lab) (us:List (List UInt8)) (out:List Int),i+k=lines.length→LabOk L→L.length+k≤900000→us.length+wgt (lines.drop i)≤700000→out.length+wgt (lines.drop i)≤700000→
 match p1 ad L out.length (lines.drop i)with
 | .error e=>e≠0∧∃x y z,loW (st41_3 [nameL lines, .int (lines.length:Int),u,o, .int ad, .bool false]) [.int i,nameL us,byD out,mD L]=some [.int 1, .int e,x,y,z]
 | .ok (L',n')=>∃out',out'.length=n'∧loW (st41_3 [nameL lines, .int (lines.length:Int),u,o, .int ad, .bool false]) [.int i,nameL us,byD out,mD L]=some [.int 0,nameL (us++nms (lines.drop i)),byD out',mD L']:=by
 intro k
 induction k with
 |zero=>
  intro i L us out hi hL hl hu ho
  rw[List.drop_of_length_le (by omega)]
  simp only[p1,nms,List.append_nil]
  refine⟨out,rfl,?_⟩
  rw[loW_nxt,st41_3_eq,ltI,decide_eq_false (by omega)]
  simp only[cond_false,nxtT]
 |succ k ih=>
  intro i L us out hi hL hl hu ho
  have hlt:i<lines.length:=by omega
  have hx:=op_short hs hlt
  have g1:qinb (nameL lines) (i:Int)=true:=nameL_inb hlt
  have g2:qstr (qget (nameL lines) (i:Int))=bs (op lines i):=by rw[nameL_get hlt,qstr_s];rfl
  have hadd:qbin .add .i64 (i:Int) 1=((i+1:Nat):Int):=add_nat (by omega)
  rw[op_drop hlt]at hu ho ⊢
  simp only[wgt]at hu ho
  rw[loW_nxt,st41_3_eq,ltI,decide_eq_true hlt,g1,g2]
  simp only[cond_true,hadd]
  rw[p1,nms]
  by_cases h58:E58 (op lines i)
  ·have e:=line58 (L:=L) ad false hx h58 (nameL us) (byD out)
   have hlb:labB (op lines i)=nmB (nmOf (op lines i)):=by unfold labB;rw[(mS _).1 h58];rfl
   rw[hlb,e]
   cases hnm:nmB (nmOf (op lines i))with
   |false=>
    simp only[cond_false]
    rw[lnE58 hx h58,if_neg (by omega)]
    simp only[qsome_s,qnth_s,List.getD_cons_zero,List.getD_cons_succ,qint_i,qcmp_neq,cond_true,nxtT]
    exact⟨by omega,_,_,_,rfl⟩
   |true=>
    simp only[cond_true,Bool.not_false,Bool.and_true]
    cases hk:(lk L (nmOf (op lines i))).isSome with
    |true=>
     simp only[cond_true,qsome_s,qnth_s,List.getD_cons_zero,List.getD_cons_succ,qint_i,qcmp_neq,nxtT]
     exact⟨by omega,_,_,_,rfl⟩
    |false=>
     have hk':lk L (nmOf (op lines i))=none:=by cases hq:lk L (nmOf (op lines i))with|none=>rfl|some v=>rw[hq]at hk;cases hk
     have hput:=put_new (adr ad out.length) hk'
     simp only[cond_true,cond_false,qsome_s,qnth_s,List.getD_cons_zero,List.getD_cons_succ,qint_i,qcmp_neq,decide_true,Bool.not_true,byD_len,nxtT]
     rw[show qbin .add .u32 ad (qwrap .u32 (out.length:Int))=adr ad out.length from rfl,hput]
     exact ih (i+1) _ us out (by omega) (lab_snoc hL (by omega) _ (adr_rng _ _)) (by simp;omega) (by omega) (by omega)
  ·have hlb:labB (op lines i)=false:=by
    unfold labB;rw[show sfx [58] (op lines i)=false by rw[Bool.eq_false_iff];exact fun x=>h58 ((mS _).2 x)];rfl
   obtain⟨us',e⟩:=lineP hL ad false hx h58 (us:=us) (by omega) (out:=out) (by omega) (a:=adr ad out.length) rfl
   rw[hlb,e]
   simp only[cond_false]
   by_cases he:lnE (op lines i) (adr ad out.length)=0
   ·rw[if_pos he,if_pos he]
    have hle:=lnB_le hL hx _ he
    have hlu:=lnU_le (op lines i)
    have hll:=lnB_len (L:=[]) (L':=L) ⟨by simp,fun p hp=>by cases hp⟩ hL hx (adr ad out.length)
    simp only[cond_true,qsome_s,qnth_s,List.getD_cons_zero,List.getD_cons_succ,qint_i,qcmp_neq,decide_true,Bool.not_true,cond_false,nxtT]
    have:=ih (i+1) L (lnU us (op lines i)) (out++lnB L (op lines i) (adr ad out.length)) (by omega) hL (by omega) (by rw[lnU_app,List.length_append];omega) (by rw[List.length_append];omega)
    rw[List.length_append, ← hll,lnU_app us,List.append_assoc, ← lnU_app us]at this
    exact this
   ·rw[if_neg he,if_neg he]
    simp only[cond_true,qsome_s,qnth_s,List.getD_cons_zero,List.getD_cons_succ,qint_i,qcmp_neq,decide_eq_false he,Bool.not_false,nxtT]
    exact⟨he,_,_,_,rfl⟩
end
end Go.Proofs.YtobhhfbdelnhfaaGreatDoor
namespace Go.Proofs.YtobhhfbdelnhfaaGreatDoor
set_option linter.unusedSimpArgs false
set_option linter.unusedVariables false
open Go Go.AM
theorem lab0:LabOk []:=⟨by simp,fun p hp=>by cases hp⟩
theorem p1_lab {ad:Int} {L:Lab} {n:Nat} {l:List UInt8} {r:List (List UInt8)} {L':Lab} {n':Nat} (h:p1 ad L n (l::r) = .ok (L',n')) (hl:labB l=true):lk L (nmOf l)=none∧p1 ad (L ++ [(nmOf l,adr ad n)]) n r = .ok (L',n'):=by
 rw[p1,hl]at h
 cases hk:lk L (nmOf l)with
 |some v=>rw[hk]at h;simp at h
 |none=>rw[hk]at h;exact⟨rfl,h⟩
theorem p1_line {ad:Int} {L:Lab} {n:Nat} {l:List UInt8} {r:List (List UInt8)} {L':Lab} {n':Nat} (h:p1 ad L n (l::r) = .ok (L',n')) (hl:labB l=false):lnE l (adr ad n)=0∧p1 ad L (n+(lnB [] l (adr ad n)).length) r = .ok (L',n'):=by
 rw[p1,hl]at h
 simp only[cond_false]at h
 by_cases he:lnE l (adr ad n)=0
 ·rw[if_pos he]at h;exact⟨he,h⟩
 ·rw[if_neg he]at h;cases h
theorem pass2P (u o:D) (ad:Int) {lines:List (List UInt8)} (hs:Short lines) (hn:lines.length≤2000) {L':Lab} {n':Nat} (hL':LabOk L'):∀(k i:Nat) (L:Lab) (us:List (List UInt8)) (out:List Int),i+k=lines.length→us.length+wgt (lines.drop i)≤700000→out.length+wgt (lines.drop i)≤700000→
 p1 ad L out.length (lines.drop i) = .ok (L',n')→
 loW (st41_3 [nameL lines, .int (lines.length:Int),u,o, .int ad, .bool true]) [.int i,nameL us,byD out,mD L']=some [.int 0,nameL (us++nms (lines.drop i)),byD (out++p2 ad L' out.length (lines.drop i)),mD L']:=by
 intro k
 induction k with
 |zero=>
  intro i L us out hi hu ho hp
  rw[List.drop_of_length_le (by omega)]
  simp only[p2,nms,List.append_nil]
  rw[loW_nxt,st41_3_eq,ltI,decide_eq_false (by omega)]
  simp only[cond_false,nxtT]
 |succ k ih=>
  intro i L us out hi hu ho hp
  have hlt:i<lines.length:=by omega
  have hx:=op_short hs hlt
  have g1:qinb (nameL lines) (i:Int)=true:=nameL_inb hlt
  have g2:qstr (qget (nameL lines) (i:Int))=bs (op lines i):=by rw[nameL_get hlt,qstr_s];rfl
  have hadd:qbin .add .i64 (i:Int) 1=((i+1:Nat):Int):=add_nat (by omega)
  rw[op_drop hlt]at hu ho hp ⊢
  simp only[wgt]at hu ho
  rw[loW_nxt,st41_3_eq,ltI,decide_eq_true hlt,g1,g2]
  simp only[cond_true,hadd]
  rw[p2,nms]
  cases hl:labB (op lines i)with
  |true=>
   obtain⟨h58,hnm⟩:=lab_e58 hl
   obtain⟨hk,hp⟩:=p1_lab hp hl
   have hk':=p1_keep ad _ _ _ _ _ hp _ _ (lk_snoc L _ (adr ad out.length) hk)
   have e:=line58 (L:=L') ad true hx h58 (nameL us) (byD out)
   have hput:=put_same hk'
   rw[e,hnm]
   simp only[cond_true,cond_false,Bool.not_true,Bool.and_false,qsome_s,qnth_s,List.getD_cons_zero,List.getD_cons_succ,qint_i,qcmp_neq,decide_true,byD_len,nxtT]
   rw[show qbin .add .u32 ad (qwrap .u32 (out.length:Int))=adr ad out.length from rfl,hput]
   exact ih (i+1) _ us out (by omega) (by omega) (by omega) hp
  |false=>
   obtain⟨he,hp⟩:=p1_line hp hl
   by_cases h58:E58 (op lines i)
   ·rw[lnE58 hx h58]at he;omega
   ·obtain⟨us',e⟩:=lineP hL' ad true hx h58 (us:=us) (by omega) (out:=out) (by omega) (a:=adr ad out.length) rfl
    have hle:=lnB_le hL' hx _ he
    have hlu:=lnU_le (op lines i)
    have hll:=lnB_len (L:=[]) (L':=L') lab0 hL' hx (adr ad out.length)
    rw[e,if_pos he]
    simp only[cond_true,qsome_s,qnth_s,List.getD_cons_zero,List.getD_cons_succ,qint_i,qcmp_neq,decide_true,Bool.not_true,cond_false,nxtT]
    have:=ih (i+1) L (lnU us (op lines i)) (out++lnB L' (op lines i) (adr ad out.length)) (by omega) (by rw[lnU_app,List.length_append];omega) (by rw[List.length_append];omega) (by rw[List.length_append, ← hll];exact hp)
    rw[this,lnU_app us,List.length_append, ← hll,List.append_assoc,List.append_assoc]
theorem pass1R (ad:Int) {lines:List (List UInt8)} (hs:Short lines) (hn:lines.length≤2000):∀(k i:Nat) (L:Lab) (n:Nat),i+k=lines.length→LabOk L→L.length+k≤900000→n+wgt (lines.drop i)≤700000→
 loW (st43_4 [nameL lines, .int ad]) [.int n, .int i,mD L]=some (match p1 ad L n (lines.drop i)with | .error e=>[.int 1, .int e] | .ok (L',n')=>[.int 0, .int n',mD L']):=by
 intro k
 induction k with
 |zero=>
  intro i L n hi hL hl ho
  rw[List.drop_of_length_le (by omega),loW_nxt,st43_4_eq,len_nm,ltI,decide_eq_false (by omega)]
  simp only[p1,cond_false,nxtT]
 |succ k ih=>
  intro i L n hi hL hl ho
  have hlt:i<lines.length:=by omega
  have hx:=op_short hs hlt
  have g1:qinb (nameL lines) (i:Int)=true:=nameL_inb hlt
  have g2:qstr (qget (nameL lines) (i:Int))=bs (op lines i):=by rw[nameL_get hlt,qstr_s];rfl
  have hadd:qbin .add .i64 (i:Int) 1=((i+1:Nat):Int):=add_nat (by omega)
  rw[op_drop hlt]at ho ⊢
  simp only[wgt]at ho
  rw[loW_nxt,st43_4_eq,len_nm,ltI,decide_eq_true hlt,g1,g2,spec44 hx]
  simp only[cond_true,hadd]
  rw[p1]
  have hA:qbin .add .u32 ad (qwrap .u32 (n:Int))=adr ad n:=rfl
  cases hlb:labB (op lines i)with
  |true=>
   obtain⟨h58,hnm⟩:=lab_e58 hlb
   have hns:=nmOf_short hx
   have e77:=spec77n hL (.inr rfl:(2=1∨2=2)) hns
   have hE:valE L 2 (nmOf (op lines i))=(bif (lk L (nmOf (op lines i))).isSome then 0 else 17):=by
    unfold valE
    rw[nm_num hns hnm,hnm]
    cases lk L (nmOf (op lines i))<;>rfl
   rw[hE]at e77
   have e77':q77 [.str (bs (nmOf (op lines i))),mD L, .int 2]=_:=e77
   simp only[cond_true,qsome_s,qnth_s,List.getD_cons_zero,List.getD_cons_succ,qbool_b,qstr_s,e77',qint_i]
   cases hk:(lk L (nmOf (op lines i))).isSome with
   |true=>simp only[cond_true,qcmp_eql,decide_true,nxtT]
   |false=>
    have h17:qcmp .eql 17 0=false:=by rw[qcmp_eql];rfl
    have happ:qapp (mD L) (.list [.agg [.str (bs (nmOf (op lines i))), .int (adr ad n)]])=mD (L ++ [(nmOf (op lines i),adr ad n)]):=by
     unfold mD;rw[app_list,List.map_append];rfl
    have hm:qmem (qlen (mD (L ++ [(nmOf (op lines i),adr ad n)]))) 24=true:=by rw[mD_len];exact memB (by simp;omega) (by omega)
    simp only[cond_false,h17,hA,happ,hm,cond_true,nxtT]
    exact ih (i+1) _ n (by omega) (lab_snoc hL (by omega) _ (adr_rng _ _)) (by simp;omega) (by omega)
  |false=>
   have e45:=spec45 (L:=[]) lab0 (.inl rfl:(1=1∨1=2)) hx (adr ad n)
   rw[rfE_1]at e45
   have e45':q45 [.str (bs (op lines i)), .int (adr ad n), .list [], .int 1]=some (if lnE (op lines i) (adr ad n)=0 then[byD (lnB [] (op lines i) (adr ad n)), .int 0]else[.list [], .int (lnE (op lines i) (adr ad n))]):=e45
   simp only[cond_false,cond_true,qsome_s,qnth_s,List.getD_cons_zero,List.getD_cons_succ,qbool_b,hA,e45']
   by_cases he:lnE (op lines i) (adr ad n)=0
   ·have hle:=lnB_le lab0 hx _ he
    simp only[if_pos he,qnth_s,List.getD_cons_zero,List.getD_cons_succ,qint_i,qcmp_neq,decide_true,Bool.not_true,cond_false,byD_len,nxtT]
    rw[addI (by omega)]
    exact ih (i+1) L _ (by omega) hL (by omega) (by omega)
   ·simp only[if_neg he,qnth_s,List.getD_cons_zero,List.getD_cons_succ,qint_i,qcmp_neq,decide_eq_false he,Bool.not_false,cond_true,nxtT]
theorem pass2R (ad:Int) {lines:List (List UInt8)} (hs:Short lines) (hn:lines.length≤2000) {L':Lab} {n':Nat} (hL':LabOk L'):∀(k i:Nat) (L:Lab) (out:List Int),i+k=lines.length→out.length+wgt (lines.drop i)≤700000→
 p1 ad L out.length (lines.drop i) = .ok (L',n')→
 loW (st14_11 [.int ad,nameL lines,mD L']) [.int i,byD out]=some (bif hasAll L' (nms (lines.drop i))then[.int 0,byD (out++p2 ad L' out.length (lines.drop i))]else[.int 1, .int 17]):=by
 intro k
 induction k with
 |zero=>
  intro i L out hi ho hp
  rw[List.drop_of_length_le (by omega),loW_nxt,st14_11_eq,len_nm,ltI,decide_eq_false (by omega)]
  simp only[p2,nms,List.append_nil,cond_false,nxtT];rfl
 |succ k ih=>
  intro i L out hi ho hp
  have hlt:i<lines.length:=by omega
  have hx:=op_short hs hlt
  have g1:qinb (nameL lines) (i:Int)=true:=nameL_inb hlt
  have g2:qstr (qget (nameL lines) (i:Int))=bs (op lines i):=by rw[nameL_get hlt,qstr_s];rfl
  have hadd:qbin .add .i64 (i:Int) 1=((i+1:Nat):Int):=add_nat (by omega)
  have hA:qbin .add .u32 ad (qwrap .u32 (out.length:Int))=adr ad out.length:=rfl
  rw[op_drop hlt]at ho hp ⊢
  simp only[wgt]at ho
  rw[loW_nxt,st14_11_eq,len_nm,ltI,decide_eq_true hlt,g1,g2,spec44 hx]
  simp only[cond_true,hadd]
  rw[p2,nms]
  cases hl:labB (op lines i)with
  |true=>
   obtain⟨hk,hp⟩:=p1_lab hp hl
   simp only[cond_true,qsome_s,qnth_s,List.getD_cons_zero,List.getD_cons_succ,qbool_b,nxtT]
   exact ih (i+1) _ out (by omega) (by omega) hp
  |false=>
   obtain⟨he,hp⟩:=p1_line hp hl
   have e45:=spec45 hL' (.inr rfl:(2=1∨2=2)) hx (adr ad out.length)
   rw[rfE_2 L' he]at e45
   have e45':q45 [.str (bs (op lines i)), .int (adr ad out.length),mD L', .int 2]=some (if(bif hasAll L' (lnU [] (op lines i))then(0:Int)else 17)=0 then[byD (lnB L' (op lines i) (adr ad out.length)), .int 0]else[.list [], .int (bif hasAll L' (lnU [] (op lines i))then 0 else 17)]):=e45
   simp only[cond_false,cond_true,qsome_s,qnth_s,List.getD_cons_zero,List.getD_cons_succ,qbool_b,byD_len,hA,e45',hasAll_app]
   cases hasAll L' (lnU [] (op lines i))with
   |true=>
    have hle:=lnB_le hL' hx _ he
    have hll:=lnB_len (L:=[]) (L':=L') lab0 hL' hx (adr ad out.length)
    have hm:qmem ((out++lnB L' (op lines i) (adr ad out.length)).length:Int) 1=true:=memB (by rw[List.length_append];omega) (by omega)
    simp only[cond_true,if_true,qnth_s,List.getD_cons_zero,List.getD_cons_succ,qint_i,qcmp_neq,decide_true,Bool.not_true,cond_false,byD_app,byD_len,hm,nxtT,Bool.true_and]
    have:=ih (i+1) L (out++lnB L' (op lines i) (adr ad out.length)) (by omega) (by rw[List.length_append];omega) (by rw[List.length_append, ← hll];exact hp)
    rw[this,List.length_append, ← hll,List.append_assoc]
   |false=>
    simp[qnth_s,qint_i,qcmp_neq,nxtT]
end Go.Proofs.YtobhhfbdelnhfaaGreatDoor
namespace Go.Proofs.YtobhhfbdelnhfaaGreatDoor
set_option linter.unusedSimpArgs false
set_option linter.unusedVariables false
open Go Go.AM
def nl:List UInt8→Nat
 | []=>0
 |c::l=>if c=10 then 0 else nl l+1
theorem nl_cons (c:UInt8) (l:List UInt8):nl (c::l)=if c=10 then 0 else nl l+1:=rfl
theorem index_nl:∀l:List UInt8,Lib.index l [10]=if nl l<l.length then(nl l:Int)else -1
 | []=>by simp[Lib.index,nl]
 |c::l=>by
  have ih:=index_nl l
  unfold Lib.index nl
  rw[ih]
  by_cases h:c=10
  ·subst h;simp[List.isPrefixOf]
  ·have hp:List.isPrefixOf [10] (c::l)=false:=by
    rw[Bool.eq_false_iff];intro e
    simp only[List.isPrefixOf,Bool.and_true,beq_iff_eq]at e
    exact h e.symm
   rw[hp,if_neg h]
   simp only[Bool.false_eq_true,if_false,beq_iff_eq]
   by_cases h2:nl l<l.length
   ·rw[if_pos h2,if_neg (by omega),if_pos (by simp;omega)];rfl
   ·rw[if_neg h2,if_pos rfl,if_neg (by simp;omega)]
def linesF:Nat→List UInt8→List (List UInt8)
 |0,l=>[l]
 |n+1,l=>if nl l<l.length then l.take (nl l)::linesF n (l.drop (nl l+1))else[l]
def linesL (l:List UInt8):List (List UInt8):=linesF l.length l
theorem linesF_more:∀(n m:Nat) (l:List UInt8),l.length≤n→l.length≤m→linesF n l=linesF m l
 |0,0,_,_,_=>rfl
 |0,m+1,l,h,_=>by
  have:l = []:=List.length_eq_zero_iff.1 (by omega)
  subst this;rfl
 |n+1,0,l,_,h=>by
  have:l = []:=List.length_eq_zero_iff.1 (by omega)
  subst this;rfl
 |n+1,m+1,l,h1,h2=>by
  unfold linesF
  by_cases h:nl l<l.length
  ·rw[if_pos h,if_pos h,linesF_more n m _ (by simp;omega) (by simp;omega)]
  ·rw[if_neg h,if_neg h]
theorem linesL_some {l:List UInt8} (h:nl l<l.length):linesL l=l.take (nl l)::linesL (l.drop (nl l+1)):=by
 unfold linesL
 obtain⟨n,hn⟩:∃n,l.length=n+1:=⟨l.length-1,by omega⟩
 rw[hn]
 conv=>lhs;unfold linesF
 rw[if_pos h]
 rw[linesF_more n _ _ (by simp;omega) (Nat.le_refl _)]
theorem linesL_none {l:List UInt8} (h:¬nl l<l.length):linesL l = [l]:=by
 unfold linesL
 cases l.length with
 |zero=>rfl
 |succ n=>unfold linesF;rw[if_neg h]
theorem split_lines:∀(n:Nat) (l:List UInt8),l.length≤n→∀fuel,l.length<fuel→Lib.splitK [10] 0 (Lib.countFrom [10] fuel l) l=linesL l
 |n,l,hl,0,hf=>by omega
 |n,l,hl,fuel+1,hf=>by
  unfold Lib.countFrom
  rw[index_nl]
  by_cases h:nl l<l.length
  ·rw[if_pos h,if_neg (by rw[beq_iff_eq];omega),Nat.add_comm 1,linesL_some h]
   unfold Lib.splitK
   rw[index_nl,if_pos h]
   rw[if_neg (by rw[beq_iff_eq];omega),Int.toNat_natCast,Nat.add_zero]
   have hlen:([10]:List UInt8).length=1:=rfl
   rw[hlen]
   cases n with
   |zero=>omega
   |succ n=>rw[split_lines n (l.drop (nl l+1)) (by simp;omega) fuel (by simp;omega)]
  ·rw[if_neg h,if_pos (by decide),linesL_none h];rfl
theorem splitN (l:List UInt8):qsplit (bs l) (bs [10])=nameL (linesL l):=by
 simp only[qsplit,veil_eq]
 have h:=Lib.splitB_data (bs [10]) 0 (Lib.countB (bs l) (bs [10])) (bs l)
 have e:Lib.splitK [10] 0 (Lib.countB (bs l) (bs [10])) l=linesL l:=split_lines l.length l (Nat.le_refl _) (l.length+1) (by omega)
 have h2:(Lib.splitB (bs [10]) 0 (Lib.countB (bs l) (bs [10])) (bs l)).map (·.data.toList)=linesL l:=h.trans e
 unfold nameL
 rw[← h2,List.map_map]
 rfl
theorem linesF_facts:∀(n:Nat) (l:List UInt8),l.length≤n→wgt (linesF n l)=10*(l.length+1)∧(linesF n l).length≤l.length+1∧∀x∈linesF n l,x.length≤l.length
 |0,l,h=>by simp[linesF,wgt]
 |n+1,l,h=>by
  unfold linesF
  by_cases hn:nl l<l.length
  ·rw[if_pos hn]
   obtain⟨a,b,c⟩:=linesF_facts n (l.drop (nl l+1)) (by simp;omega)
   rw[List.length_drop]at a b c
   refine⟨?_,?_,?_⟩
   ·rw[wgt,a,List.length_take];omega
   ·rw[List.length_cons];omega
   ·intro x hx
    rcases List.mem_cons.1 hx with rfl|hx
    ·simp;omega
    ·have:=c x hx;omega
  ·rw[if_neg hn];simp[wgt]
theorem loop42 {l:List UInt8} (hz:l.length≤1000):∀(k i f:Nat) (acc:List (List UInt8)),i+k=l.length→f≤i→acc.length≤i→nl (l.drop f)=(i-f)+nl (l.drop i)→
 ∃(f':Nat) (acc':List (List UInt8)),loW (st42_4 [.str (bs l)]) [.int f, .int i,nameL acc]=some [.int 0, .int f',nameL acc']∧(f':Nat)≤l.length∧acc'.length≤l.length∧acc' ++ [l.drop f']=acc++linesL (l.drop f):=by
 intro k
 induction k with
 |zero=>
  intro i f acc hi hf ha hn
  refine⟨f,acc,?_,by omega,by omega,?_⟩
  ·rw[loW_nxt,st42_4_eq,len_bs,ltI,decide_eq_false (by omega)]
   simp only[cond_false,nxtT]
  ·rw[linesL_none]
   rw[List.drop_of_length_le (show l.length≤i by omega)]at hn
   simp only[nl]at hn
   rw[hn,List.length_drop];omega
 |succ k ih=>
  intro i f acc hi hf ha hn
  have hlt:i<l.length:=by omega
  have hadd:qbin .add .i64 (i:Int) 1=((i+1:Nat):Int):=add_nat (by omega)
  have hdi:l.drop i=l.getD i 0::l.drop (i+1):=by rw[List.drop_eq_getElem_cons hlt];simp[List.getD,hlt]
  rw[loW_nxt,st42_4_eq,len_bs,ltI,decide_eq_true hlt,inb_bs hlt,idx_bs,show qcmp .eql ((l.getD i 0).toNat:Int) 10=decide (l.getD i 0=10)from eq8 _ 10 (by omega)]
  simp only[cond_true,hadd]
  rw[hdi,nl_cons]at hn
  by_cases hc:l.getD i 0=10
  ·rw[if_pos hc]at hn
   have hn':nl (l.drop f)=i-f:=by omega
   have hm:qmem (qlen (nameL (acc ++ [(l.take i).drop f]))) 16=true:=by rw[len_nm];exact memB (by simp;omega) (by omega)
   rw[decide_eq_true hc,show qcmp .leq 0 (f:Int)=true by rw[qcmp_leq];exact decide_eq_true (by omega),leI',decide_eq_true hf,leI',decide_eq_true (show i≤l.length by omega),sub_bs,app_nm,hm]
   simp only[cond_true,nxtT]
   obtain⟨f',acc',e1,e2,e3,e4⟩:=ih (i+1) (i+1) (acc ++ [(l.take i).drop f]) (by omega) (Nat.le_refl _) (by simp;omega) (by simp)
   refine⟨f',acc',e1,e2,e3,?_⟩
   rw[e4,linesL_some (l:=l.drop f) (by rw[hn',List.length_drop];omega),hn',List.drop_drop,List.append_assoc]
   rw[show f+(i-f+1)=i+1 by omega,List.drop_take]
   rfl
  ·rw[if_neg hc]at hn
   rw[decide_eq_false hc]
   simp only[cond_false,nxtT]
   refine ih (i+1) f acc (by omega) (by omega) (by omega) ?_
   omega
theorem spec42 {l:List UInt8} (hz:l.length≤1000):q42 [.str (bs l)]=some [nameL (linesL l)]:=by
 obtain⟨f',acc',e1,e2,e3,e4⟩:=loop42 hz l.length 0 0 [] (by omega) (Nat.le_refl _) (by simp) (by simp)
 have e:l42_4 [.str (bs l)] [.int 0, .int 0, .list []]=some [.int 0, .int f',nameL acc']:=by rw[l42_4_eq];exact e1
 rw[List.drop_zero,List.nil_append]at e4
 have hm:qmem (qlen (nameL (linesL l))) 16=true:=by rw[← e4,len_nm];exact memB (by simp;omega) (by omega)
 have hf:qsubS (bs l) (f':Int) (l.length:Int)=bs (l.drop f'):=sub_from l f'
 rw[q42_eq,F42_eq,e]
 simp only[qsome_s,qnth_s,List.getD_cons_zero,List.getD_cons_succ,qint_i,len_bs,cond_true]
 rw[show qcmp .leq 0 (f':Int)=true by rw[qcmp_leq];exact decide_eq_true (by omega),leI',decide_eq_true e2,leI',decide_eq_true (Nat.le_refl _),hf,app_nm,e4,hm]
 rfl
noncomputable def asm (ad:Int) (ls:List (List UInt8)):D×Int:=
 match p1 ad [] 0 ls with
 | .error e=>(.list [],e)
 | .ok (L,n)=>if 65536<n then(.list [],6)else bif hasAll L (nms ls)then(byD (p2 ad L 0 ls),0)else(.list [],17)
theorem gt65 (n:Nat):qcmp .gtr (n:Int) 65536=decide (65536<n):=gtI n 65536
theorem spec14 (ad:Int) {l:List UInt8} (hz:l.length≤600):q14 [.str (bs l), .int ad]=some [(asm ad (linesL l)).1, .int (asm ad (linesL l)).2]:=by
 obtain⟨w1,w2,w3⟩:=linesF_facts l.length l (Nat.le_refl _)
 have hs:Short (linesL l):=fun x hx=>by have:=w3 x hx;omega
 have hn:(linesL l).length≤2000:=by have:(linesL l).length≤l.length+1:=w2;omega
 have hw:wgt (linesL l)=10*(l.length+1):=w1
 have h1:=pass1R ad hs hn (linesL l).length 0 [] 0 (by omega) lab0 (by simp;omega) (by rw[List.drop_zero];omega)
 rw[List.drop_zero]at h1
 have e43:q43 [nameL (linesL l), .int ad]=some (match p1 ad [] 0 (linesL l)with | .error e=>[.list [], .int 0, .int e] | .ok (L',n')=>[mD L', .int n', .int 0]):=by
  have el:l43_4 [nameL (linesL l), .int ad] [.int 0, .int 0, .list []]=_:=(congrFun (congrFun l43_4_eq _) _).trans h1
  rw[q43_eq,F43_eq,el]
  cases p1 ad [] 0 (linesL l)with
  |error e=>simp[qsome_s,qnth_s,qint_i,qcmp_eql]
  |ok p=>simp[qsome_s,qnth_s,qint_i,qcmp_eql]
 rw[q14_eq,F14_eq,len_bs,gt65,decide_eq_false (by omega),spec42 (by omega)]
 simp only[cond_false,cond_true,qsome_s,qnth_s,List.getD_cons_zero,e43]
 unfold asm
 cases hp:p1 ad [] 0 (linesL l)with
 |error e=>
  have hne:e≠0:=by
   have h2:=pass1P (.list []) (.list []) ad hs hn (linesL l).length 0 [] [] [] (by omega) lab0 (by simp;omega) (by rw[List.drop_zero];simp;omega) (by rw[List.drop_zero];simp;omega)
   rw[List.drop_zero,List.length_nil,hp]at h2
   exact h2.1
  simp only[List.getD_cons_zero,List.getD_cons_succ,qint_i,qcmp_neq,decide_eq_false hne,Bool.not_false,cond_true]
 |ok p=>
  obtain⟨L',n'⟩:=p
  simp only[List.getD_cons_zero,List.getD_cons_succ,qint_i,qcmp_neq,decide_true,Bool.not_true,cond_false,gt65]
  by_cases h6:65536<n'
  ·rw[decide_eq_true h6,if_pos h6];rfl
  ·rw[decide_eq_false h6,if_neg h6]
   have hL':=p1_ok ad _ _ _ _ _ lab0 (by simp;omega) hp
   have h2:=pass2R ad hs hn (n':=n') hL' (linesL l).length 0 [] [] (by omega) (by rw[List.drop_zero];simp;omega) (by rw[List.drop_zero,List.length_nil];exact hp)
   rw[List.drop_zero,List.length_nil,List.nil_append]at h2
   have el:l14_11 [.int ad,nameL (linesL l),mD L'] [.int 0, .list []]=_:=(congrFun (congrFun l14_11_eq _) _).trans h2
   rw[el]
   cases hasAll L' (nms (linesL l))with
   |true=>simp[qsome_s,qnth_s,qint_i,qcmp_eql]
   |false=>simp[qsome_s,qnth_s,qint_i,qcmp_eql]
theorem loop13 (p0 o:D) (ad:Int) (kn:Bool) (L:Lab) {us:List (List UInt8)} (hu:us.length≤900000):∀(k i:Nat),i+k=us.length→loW (st13_11 [p0, .int (us.length:Int),nameL us,mD L,o, .int ad, .bool kn]) [.int i]=some (bif hasAll L (us.drop i)then[.int 0]else[.int 1]):=by
 intro k
 induction k with
 |zero=>
  intro i hi
  rw[List.drop_of_length_le (by omega),loW_nxt,st13_11_eq,ltI,decide_eq_false (by omega)]
  simp only[cond_false,nxtT];rfl
 |succ k ih=>
  intro i hi
  have hlt:i<us.length:=by omega
  have g1:qinb (nameL us) (i:Int)=true:=nameL_inb hlt
  have g2:qstr (qget (nameL us) (i:Int))=bs (op us i):=by rw[nameL_get hlt,qstr_s];rfl
  have hadd:qbin .add .i64 (i:Int) 1=((i+1:Nat):Int):=add_nat (by omega)
  rw[op_drop hlt,loW_nxt,st13_11_eq,len_nm,ltI,decide_eq_true hlt,g1,g2,mhas_lk,show qcmp .leq 0 (i:Int)=true by rw[qcmp_leq];exact decide_eq_true (by omega),hadd]
  have hc:hasAll L (op us i::us.drop (i+1))=((lk L (op us i)).isSome&&hasAll L (us.drop (i+1))):=by unfold hasAll;rw[List.all_cons]
  rw[hc]
  cases (lk L (op us i)).isSome with
  |true=>simp only[cond_true,cond_false,qnot_c,Bool.not_true,nxtT,Bool.true_and];exact ih (i+1) (by omega)
  |false=>simp only[cond_true,cond_false,qnot_c,Bool.not_false,nxtT,Bool.false_and]
theorem nms_le:∀ls:List (List UInt8),(nms ls).length≤wgt ls
 | []=>by simp[nms]
 |l::r=>by
  have ih:=nms_le r
  have:=lnU_le l
  rw[nms,wgt]
  cases labB l with
  |true=>simp only[cond_true];omega
  |false=>simp only[cond_false,List.length_append];omega
theorem spec13g (ad:Int) {l:List UInt8} (hz:l.length≤60000) (hs:Short (linesL l)) (hn:(linesL l).length≤2000):q13 [.str (bs l), .int ad]=some [(asm ad (linesL l)).1, .int (asm ad (linesL l)).2]:=by
 obtain⟨w1,w2,w3⟩:=linesF_facts l.length l (Nat.le_refl _)
 have hw:wgt (linesL l)=10*(l.length+1):=w1
 have hb:qcmp .lss (l.length:Int) 4294967281=true:=by rw[qcmp_lss];exact decide_eq_true (by omega)
 have h1:=pass1P (.list []) (.list []) ad hs hn (linesL l).length 0 [] [] [] (by omega) lab0 (by simp;omega) (by rw[List.drop_zero];simp;omega) (by rw[List.drop_zero];simp;omega)
 rw[List.drop_zero,List.length_nil]at h1
 rw[q13_eq,F13_eq,len_bs,gt65,decide_eq_false (by omega),hb]
 simp only[mkB,splitN,cond_false,cond_true]
 unfold asm
 cases hp:p1 ad [] 0 (linesL l)with
 |error e=>
  rw[hp]at h1
  obtain⟨hne,x,y,z,h1⟩:=h1
  have el:l41_3 [nameL (linesL l), .int ((linesL l).length:Int), .list [], .list [], .int ad, .bool false] [.int 0, .list [], .list [], .list []]=_:=(congrFun (congrFun l41_3_eq _) _).trans h1
  have e41:q41 [.list [], .list [], .int ad, .bool false,nameL (linesL l), .list []]=some [.int e,x,y,z]:=by
   rw[q41_eq,F41_eq,len_nm,el]
   simp[qsome_s,qnth_s,qint_i,qcmp_eql]
  rw[e41]
  simp only[qsome_s,qnth_s,List.getD_cons_zero,List.getD_cons_succ,qint_i,qcmp_neq,decide_eq_false hne,Bool.not_false,cond_true]
 |ok p=>
  obtain⟨L',n'⟩:=p
  rw[hp]at h1
  obtain⟨out',ho',h1⟩:=h1
  have el:l41_3 [nameL (linesL l), .int ((linesL l).length:Int), .list [], .list [], .int ad, .bool false] [.int 0, .list [], .list [], .list []]=_:=(congrFun (congrFun l41_3_eq _) _).trans h1
  have e41:q41 [.list [], .list [], .int ad, .bool false,nameL (linesL l), .list []]=some [.int 0,nameL (nms (linesL l)),byD out',mD L']:=by
   rw[q41_eq,F41_eq,len_nm,el]
   simp[qsome_s,qnth_s,qint_i,qcmp_eql]
  rw[e41]
  simp only[qsome_s,qnth_s,List.getD_cons_zero,List.getD_cons_succ,qint_i,qcmp_neq,decide_true,Bool.not_true,cond_false,cond_true,byD_len,ho',gt65]
  by_cases h6:65536<n'
  ·rw[decide_eq_true h6,if_pos h6];rfl
  ·rw[decide_eq_false h6,if_neg h6]
   have hL':=p1_ok ad _ _ _ _ _ lab0 (by simp;omega) hp
   have hnm:=nms_le (linesL l)
   have h13:=loop13 (nameL (linesL l)) (byD out') ad false L' (us:=nms (linesL l)) (by omega) (nms (linesL l)).length 0 (by omega)
   rw[List.drop_zero]at h13
   have el13:l13_11 [nameL (linesL l), .int ((nms (linesL l)).length:Int),nameL (nms (linesL l)),mD L',byD out', .int ad, .bool false] [.int 0]=_:=(congrFun (congrFun l13_11_eq _) _).trans h13
   have h2:=pass2P (nameL (nms (linesL l))) (byD out') ad hs hn (n':=n') hL' (linesL l).length 0 [] [] [] (by omega) (by rw[List.drop_zero];simp;omega) (by rw[List.drop_zero];simp;omega) (by rw[List.drop_zero,List.length_nil];exact hp)
   rw[List.drop_zero,List.length_nil,List.nil_append,List.nil_append]at h2
   have el2:l41_3 [nameL (linesL l), .int ((linesL l).length:Int),nameL (nms (linesL l)),byD out', .int ad, .bool true] [.int 0, .list [], .list [],mD L']=_:=(congrFun (congrFun l41_3_eq _) _).trans h2
   have e41b:q41 [nameL (nms (linesL l)),byD out', .int ad, .bool true,nameL (linesL l),mD L']=some [.int 0,nameL (nms (linesL l)),byD (p2 ad L' 0 (linesL l)),mD L']:=by
    rw[q41_eq,F41_eq,len_nm,el2]
    simp[qsome_s,qnth_s,qint_i,qcmp_eql]
   rw[len_nm,el13]
   cases hasAll L' (nms (linesL l))with
   |true=>
    simp only[cond_true,cond_false,qsome_s,qnth_s,List.getD_cons_zero,List.getD_cons_succ,qint_i,qcmp_eql,decide_true,e41b,qcmp_neq,Bool.not_true]
   |false=>simp[qsome_s,qnth_s,qint_i,qcmp_eql]
theorem spec13 (ad:Int) {l:List UInt8} (hz:l.length≤600):q13 [.str (bs l), .int ad]=some [(asm ad (linesL l)).1, .int (asm ad (linesL l)).2]:=by
 obtain⟨w1,w2,w3⟩:=linesF_facts l.length l (Nat.le_refl _)
 exact spec13g ad (by omega) (fun x hx=>by have:=w3 x hx;omega) (by have:(linesL l).length≤l.length+1:=w2;omega)
theorem cmpS_self (x:ByteArray):qcmpS .eql x x=true:=by rw[qcmpS_eq];simp[rcmpS]
theorem law5 (s:ByteArray) (a:Int):q5 [.str s, .int a]=some [.bool true]:=by
 obtain⟨l,rfl⟩:=bs_of s
 rw[q5_eq,F5_eq,len_bs,show qcmp .gtr (l.length:Int) 600=decide (600<l.length)from gtI l.length 600,q10_eq]
 by_cases h:600<l.length
 ·rw[decide_eq_true h];simp only[qsome_s,qnth_s,List.getD_cons_zero,List.getD_cons_succ,qbool_b,cond_true]
 ·rw[decide_eq_false h,spec13 a (by omega),spec14 a (by omega),q15_eq]
  simp only[qsome_s,qnth_s,List.getD_cons_zero,List.getD_cons_succ,qbool_b,qint_i,F15_eq,cmpS_self,qcmp_eql,decide_true,qiteB_c,cond_true,cond_false]
end Go.Proofs.YtobhhfbdelnhfaaGreatDoor
namespace Go.Proofs.YtobhhfbdelnhfaaGreatDoor
open Go Go.AM
def isLitV:AV→Bool
 | .ui _ _=>true
 | .ub _=>true
 |_=>false
def litV:AV→Value
 | .ui k n=> .int k n
 | .ub b=> .bool b
 |_=> .bool false
theorem repL_lits {ρ:Nat→Option Nat} {E:Nat→Prop} {w:World}:∀(l:List AV) (cs:List Value),l.all isLitV=true→RepL ρ E w l cs→cs=l.map litV
 | [],cs,_,h=>by simpa[RepL]using h
 |c::l,cs,hl,h=>by
  simp only[List.all_cons,Bool.and_eq_true]at hl
  simp only[RepL]at h
  obtain⟨v,vs,rfl,h1,h2⟩:=h
  rw[repL_lits l vs hl.2 h2]
  cases c<;>simp only[isLitV]at hl<;>first|(cases hl.1;done)|skip
  all_goals (simp only[Rep]at h1;subst h1;rfl)
theorem okT:okTypes PG=true:=by kernel_rfl
theorem pg:PG=Tryz.prog:=by unfold PG;rfl
theorem arr_len {H:Type} {enc:TypeId×Value→H} {P:Program} {w:World} {base:Nat} {sp:Nat→Bool} {held:Bool} {fuel:Nat} {t e:TypeId} {n:Nat} {cs:List Value} {d:DataW H} {p:List MemPlace}
 (ht:P.underlying t=some (.array n e)) (h:DataW.trod enc P w base sp held fuel t cs=some (d,p)):cs.length=P.cellsOf t:=by
 cases fuel with
 |zero=>simp[DataW.trod]at h
 |succ fuel=>
  simp only[DataW.trod,ht]at h
  split at h
  ·rename_i hl
   exact hl
  ·cases h
theorem cs_of_laid {w:World} {fuel:Nat} {t e:TypeId} {n:Nat} {cs:List Value} {d:DataW Unit} {p:List MemPlace} {enc:TypeId×Value→Unit} {held:Bool}
 (ht:Tryz.prog.underlying t=some (.array n e)) (hs:t<Tryz.prog.types.size) (hl:layOk PG 8 t=true) (hlit:(cellsT 8 t (toD d)).all isLitV=true)
 (h:DataW.trod enc Tryz.prog w 0 (fun _=>true) held fuel t cs=some (d,p)):cs=(cellsT 8 t (toD d)).map litV:=by
 have hlen:=arr_len ht h
 have h':DataW.trod enc PG w 0 (fun _=>true) held fuel t cs=some (d,p):=by rw[pg];exact h
 obtain⟨hr,_⟩:=trod_rep (P:=PG) okT fuel t cs d p h' (by rw[pg];exact hlen) (by rw[pg];exact hs)
 exact repL_lits _ _ hlit (cellsT_rep (ρ:=nowhere) 8 t (toD d) cs hl hr)
theorem cells151 (d:D):cellsT 8 151 d=(List.range 20).map fun i=> .ui .u64 (qint (qfld d i)):=by kernel_rfl
theorem lit151 (d:D):(cellsT 8 151 d).all isLitV=true:=by rw[cells151];rfl
theorem cells163 (d:D):cellsT 8 163 d=(List.range 64).map fun i=> .ui .u8 (qint (qfld d i)):=by kernel_rfl
theorem lit163 (d:D):(cellsT 8 163 d).all isLitV=true:=by rw[cells163];rfl
theorem int_un (d:D):qint d=d.toInt:=by rw[qint_eq]
def tabCells (g:Nat):List Value:=((findG g GLT).getD []).map fun a=>match a with | .sc v=>v|_=> .bool false
theorem vals0:(cellsT 8 151 (toD (Rows.laid_internal_strconv_uint64pow10 (H:=Unit)))).map litV=tabCells 0:=by
 rw[cells151];simp only[int_un,qfld_eq];rfl
theorem vals5:(cellsT 8 163 (toD (Rows.laid_math_bits_deBruijn64tab (H:=Unit)))).map litV=tabCells 5:=by
 rw[cells163];simp only[int_un,qfld_eq];rfl
theorem glob5:Tryz.prog.globalNamed "math/bits.deBruijn64tab" = some 5:=by kernel_rfl
theorem gty5:(Tryz.prog.globals[5]?).map (·.type)=some 163:=by kernel_rfl
theorem glob0:Tryz.prog.globalNamed "internal/strconv.uint64pow10" = some 0:=by kernel_rfl
theorem gty0:(Tryz.prog.globals[0]?).map (·.type)=some 151:=by kernel_rfl
theorem var_of {W:World} {name:String} {d:DataW Unit} {g t e n:Nat} {rest:List (String×DataW Unit)} (hg:Tryz.prog.globalNamed name=some g) (hty:(Tryz.prog.globals[g]?).map (·.type)=some t) (ht:Tryz.prog.underlying t=some (.array n e)) (hs:t<Tryz.prog.types.size)
 (hl:layOk PG 8 t=true) (hlit:(cellsT 8 t (toD d)).all isLitV=true) (h:laidMet Tryz.prog ((name,d)::rest) W):∃cs:Array Value,W.var? Tryz.prog name=some cs∧cs.toList=(cellsT 8 t (toD d)).map litV:=by
 obtain⟨ps,⟨g',t',cs,fuel,p,q,hg',ht',hvar,hd,_,_⟩,_⟩:=h
 obtain rfl:=Option.some.inj (hg.symm.trans hg')
 obtain rfl:=Option.some.inj (hty.symm.trans ht')
 exact⟨cs,hvar,cs_of_laid ht hs hl hlit hd⟩
theorem var?_all {W:World} {g:Nat} {name:String} {cs:Array Value} {vs:List Value} (hg:Tryz.prog.globalNamed name=some g) (hvar:W.var? Tryz.prog name=some cs) (he:cs.toList=vs):∃c T f,W.heap[g]? = some (.cells c T f)∧c.size=(vs.map AV.sc).length:=by
 simp only[World.var?,hg,Option.bind_some]at hvar
 split at hvar
 ·rename_i c T f hh
  cases hvar
  exact⟨_,_,_,hh,by rw[List.length_map, ← he,Array.length_toList]⟩
 ·cases hvar
theorem repAt_of {W:World} {E:Nat→Prop} {g:Nat} {name:String} {cs:Array Value} {vs:List Value} (hg:Tryz.prog.globalNamed name=some g) (hvar:W.var? Tryz.prog name=some cs) (he:cs.toList=vs) (h0:0<vs.length):g<W.heap.size∧GlRep E W g (vs.map AV.sc):=by
 have hc:∀(i:Nat),W.cell? ⟨g,i,none⟩=vs[i]? :=fun i=>by rw[World.var?_cell hg hvar i, ← he,Array.getElem?_toList]
 refine⟨?_,RepAt.ofL (RepL.sc vs) fun j u hu=>by rw[Nat.zero_add,hc];exact hu,fun _=>var?_all hg hvar he⟩
 by_cases hlt:g<W.heap.size
 ·exact hlt
 ·exfalso
  have h1:W.heap[g]? = none:=Array.getElem?_eq_none (by omega)
  have h2:=hc 0
  rw[List.getElem?_eq_getElem h0]at h2
  simp[World.cell?,h1]at h2
theorem maxLen (W:World) (h:W.ShapedOpen Tryz.prog):∃m,W.cell? ⟨1,0,none⟩=some (.int .i64 m):=
 cell_of_shapedOpen_int (P:=Tryz.prog) (t:=3) (zero:= #[.int .i64 0]) h (of_decide_eq_true (by kernel_rfl)) (by kernel_rfl) (by kernel_rfl) (by kernel_rfl) (by kernel_rfl) Tryz.underlying3
theorem tabs {W:World} {E:Nat→Prop} {l:List (String×DataW Unit)} (hl:l=Rows.textPrintRow.laid) (h:laidMetH Tryz.prog l W) (hsh:W.ShapedOpen Tryz.prog) {S:FunS} {p s:List D} (g:Nat) (cs:List AV) (hgl:(heapF S p s).glob g=some cs):g<W.heap.size∧GlRep E W g cs:=by
 subst hl
 have hp:∀g,(heapF S p s).glob g=findG g GLT:=fun _=>rfl
 rw[hp]at hgl
 cases g with
 |zero=>
  have hf:=laidMetH.filter (fun x=>x.1 == "internal/strconv.uint64pow10") h
  have e:Rows.textPrintRow.laid.filter (fun x=>x.1 == "internal/strconv.uint64pow10") = [("internal/strconv.uint64pow10",Rows.laid_internal_strconv_uint64pow10)]:=by rfl
  rw[e,MakeChecks.laidMetH_plain _ _ _ (by kernel_rfl)]at hf
  obtain⟨a,h1,h2⟩:=var_of glob0 gty0 Tryz.underlying151 (of_decide_eq_true (by kernel_rfl)) (by kernel_rfl) (lit151 _) hf
  rw[vals0]at h2
  have:=repAt_of (E:=E) glob0 h1 h2 (of_decide_eq_true (by kernel_rfl))
  have e2:findG 0 GLT=some ((tabCells 0).map AV.sc):=by rfl
  rw[e2]at hgl
  cases hgl
  exact this
 |succ g=>
  cases g with
  |zero=>
   obtain⟨m,hm⟩:=maxLen W hsh
   have e2:findG (0+1) GLT=some [.anyI .i64]:=by rfl
   rw[e2]at hgl
   cases hgl
   refine⟨?_,?_⟩
   ·by_cases h0:1<W.heap.size
    ·exact h0
    ·exfalso
     have:W.heap[1]? = none:=Array.getElem?_eq_none (by omega)
     simp[World.cell?,this]at hm
   ·refine⟨?_,fun h=>by cases h⟩
    simp only[RepAt]
    exact⟨⟨_,hm,by simp only[Rep];exact⟨m,rfl⟩⟩,trivial⟩
  |succ g=>
   match g,hgl with
   |0,hgl=>have e2:findG (0+1+1) GLT=none:=rfl
           rw[e2]at hgl;cases hgl
   |1,hgl=>have e2:findG (1+1+1) GLT=none:=rfl
           rw[e2]at hgl;cases hgl
   |2,hgl=>have e2:findG (2+1+1) GLT=none:=rfl
           rw[e2]at hgl;cases hgl
   |3,hgl=>
    have hf:=laidMetH.filter (fun x=>x.1 == "math/bits.deBruijn64tab") h
    have e:Rows.textPrintRow.laid.filter (fun x=>x.1 == "math/bits.deBruijn64tab") = [("math/bits.deBruijn64tab",Rows.laid_math_bits_deBruijn64tab)]:=by rfl
    rw[e,MakeChecks.laidMetH_plain _ _ _ (by kernel_rfl)]at hf
    obtain⟨a,h1,h2⟩:=var_of glob5 gty5 Tryz.underlying163 (of_decide_eq_true (by kernel_rfl)) (by kernel_rfl) (lit163 _) hf
    rw[vals5]at h2
    have:=repAt_of (E:=E) glob5 h1 h2 (of_decide_eq_true (by kernel_rfl))
    have e2:findG 5 GLT=some ((tabCells 5).map AV.sc):=by rfl
    rw[e2]at hgl
    cases hgl
    exact this
   |g+4,hgl=>
    have e2:findG (g+4+1+1) GLT=none:=rfl
    rw[e2]at hgl;cases hgl
end Go.Proofs.YtobhhfbdelnhfaaGreatDoor
namespace Go.Proofs.YtobhhfbdelnhfaaGreatDoor
open Go Go.AM
theorem sound5:SoundF env.P 5 S5 q5:=by rw[q5_eq];exact liftX_sound envOk ok_tb15 60 12
theorem top5 {s:ByteArray} {n:Int} (w:World) (hL:laidMetH Tryz.prog Rows.textAssembleRow.laid w) (hsh:w.ShapedOpen Tryz.prog):
 Calls Tryz.prog 5 #[.string s, .int .u32 n] w fun e w'=>e = .returned (.bool true)∧RowKit.Below w.heap.size w w':=by
 refine(sound5 [] [.str s, .int n] [.bool true] rfl (law5 s n) (fun b=>b<w.heap.size) w nowhere _ w #[.string s, .int .u32 n] (Inv.empty w _ (fun _ h=>h) rfl rfl (fun g cs h=>tabs rfl hL hsh g cs h))
  (RepL.cons (show Rep nowhere _ w (.us s) (.string s)by simp only[Rep]) (RepL.cons (show Rep nowhere _ w (.ui .u32 n) (.int .u32 n)by simp only[Rep]) RepL.nil))).mono ?_
 rintro e w' ⟨u,ρ',E',rfl,inv,reach,rep⟩
 have hr:resF S5 [] (bdL [.bool true]) = .ub true:=rfl
 rw[hr]at rep
 simp only[Rep]at rep
 subst rep
 exact⟨rfl,⟨inv.io.1,inv.io.2.1,inv.io.2.2,reach.size,inv.old⟩⟩
end Go.Proofs.YtobhhfbdelnhfaaGreatDoor
