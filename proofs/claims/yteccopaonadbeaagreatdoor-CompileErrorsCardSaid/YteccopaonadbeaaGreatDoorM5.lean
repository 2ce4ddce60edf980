/-
  Plain laws: section.Check and the reference's: the same (printed by mksec.py).
-/
import Derived.Test.YteccopaonadbeaaGreatDoorM3
import Derived.Test.YteccopaonadbeaaGreatDoorM4
import Derived.Test.YteccopaonadbeaaGreatDoorRows
import Derived.Test.YteccopaonadbeaaGreatDoorC1
import Derived.Deep.DeepHandedRow
import Derived.Lib.LaidTab
import Derived.MakeChecks
import Derived.LaidSub
import Derived.FnData
import Derived.Shelf.Vars
import Derived.HandedShaped
set_option linter.unusedVariables false
set_option linter.unusedSimpArgs false
namespace Go.Proofs.YteccopaonadbeaaGreatDoor.Sx
set_option linter.unusedSimpArgs false
set_option linter.unusedVariables false
open Go Go.AM
def errOut (n:Int):List D:=if n=0 then[.int 0]else[.int 1, .int n]
theorem errOut_0 {n:Int}:qcmp .eql (qint (qnth (some (errOut n)) 0)) 0=decide (n=0):=by
 unfold errOut
 split<;>simp[qnth_s,qint_i,qcmp_eql, *]
theorem errOut_1 {n:Int} (h:n≠0):qint (qnth (some (errOut n)) 1)=n:=by
 unfold errOut
 rw[if_neg h];simp[qnth_s,qint_i]
theorem qand_c (a b:Bool):qand a b=(a&&b):=by rw[qand_eq]
theorem anyFor {st:List D→Option (Sum (List D) (List D))} {n:Nat} {p:Nat→Bool} {r1:Nat→List D} {r0:List D} (hn:n≤maxLen)
 (h1:∀i:Nat,i<n→st [.int i]=bif p i then some (.inr (r1 i))else some (.inl [.int (qbin .add .i64 i 1)])) (h0:st [.int n]=some (.inr r0)):
 (loW st [.int 0]=some r0∧∀i,i<n→p i=false)∨∃i,i<n∧p i=true∧(∀j,j<i→p j=false)∧loW st [.int 0]=some (r1 i):=by
 unfold maxLen at hn
 have key:∀k i:Nat,i+k=n→(∀j,j<i→p j=false)→(loW st [.int i]=some r0∧∀i,i<n→p i=false)∨∃i',i'<n∧p i'=true∧(∀j,j<i'→p j=false)∧loW st [.int i]=some (r1 i'):=by
  intro k
  induction k with
  |zero=>
   intro i hi hp
   obtain rfl:i=n:=by omega
   exact .inl ⟨by rw[loW_eq,h0],hp⟩
  |succ k ih=>
   intro i hi hp
   have hlt:i<n:=by omega
   rw[loW_eq,h1 i hlt]
   cases hc:p i with
   |true=>exact .inr ⟨i,hlt,hc,hp,rfl⟩
   |false=>
    simp only[cond_false]
    rw[add_nat (by omega)]
    exact ih (i+1) (by omega) fun j hj=>by
     by_cases h:j=i
     ·subst h;exact hc
     ·exact hp j (by omega)
 exact key n 0 (by omega) (fun j hj=>absurd hj (Nat.not_lt_zero _))
def fErr (e:Nat→Int):Nat→Nat→Int
 |_,0=>0
 |i,k+1=>if e i=0 then fErr e (i+1) k else e i
theorem errFor {st:List D→Option (Sum (List D) (List D))} {n:Nat} {e:Nat→Int} (hn:n≤maxLen)
 (h1:∀i:Nat,i<n→st [.int i]=if e i=0 then some (.inl [.int (qbin .add .i64 i 1)])else some (.inr [.int 1, .int (e i)]))
 (h0:st [.int n]=some (.inr [.int 0])):loW st [.int 0]=some (errOut (fErr e 0 n)):=by
 unfold maxLen at hn
 have key:∀k i:Nat,i+k=n→loW st [.int i]=some (errOut (fErr e i k)):=by
  intro k
  induction k with
  |zero=>
   intro i hi
   obtain rfl:i=n:=by omega
   rw[loW_eq,h0];simp[fErr,errOut]
  |succ k ih=>
   intro i hi
   have hlt:i<n:=by omega
   rw[loW_eq,h1 i hlt]
   by_cases he:e i=0
   ·simp only[he,if_true,fErr]
    rw[add_nat (by omega)]
    exact ih (i+1) (by omega)
   ·simp only[he,if_false,fErr]
    rw[errOut,if_neg he]
 exact key n 0 (by omega)
theorem contG {st:List D→Option (Sum (List D) (List D))} {l:D} {c:D→Option (List D)} {p:D→Bool}
 (hst:∀i:Int,st [.int i]=bif qcmp .lss i (qlen l)then bif qinb l i then bif qsome (c (qget l i))then bif qbool (qnth (c (qget l i)) 0)then some (.inr [.int 1, .int i])else some (.inl [.int (qbin .add .i64 i 1)])else none else none else some (.inr [.int 0]))
 (hl:l.toList.length≤maxLen) (hc:∀x∈l.toList,c x=some [.bool (p x)]):
 ∃k:Int,(bif qsome (loW st [.int 0])then bif qcmp .eql (qint (qnth (loW st [.int 0]) 0)) 0 then some [D.int (-1)]else some [.int (qint (qnth (loW st [.int 0]) 1))]else none)=some [.int k]∧decide (0≤k)=l.toList.any p:=by
 rcases idxLoop (r1:=fun i=>[.int 1, .int i]) hst hl hc with⟨h1,h2⟩|⟨i,h1,h2⟩
 ·exact⟨-1,by simp[h1,qsome_s,qnth_s,qint_i,qcmp_eql],by rw[h2];rfl⟩
 ·exact⟨i,by simp[h1,qsome_s,qnth_s,qint_i,qcmp_eql],by rw[h2];simp⟩
theorem take_any {p:D→Bool} {xs:List D} {i:Nat} (hi:i≤xs.length):(xs.take i).any p=true↔∃k,k<i∧p (xs.getD k .other)=true:=by
 rw[List.any_eq_true]
 constructor
 ·rintro⟨x,hx,hp⟩
  obtain⟨k,hk,rfl⟩:=List.getElem_of_mem hx
  simp only[List.length_take]at hk
  refine⟨k,by omega,?_⟩
  rw[List.getElem_take]at hp
  rw[getD_lt (by omega)];exact hp
 ·rintro⟨k,hk,hp⟩
  rw[getD_lt (by omega)]at hp
  exact⟨_,List.mem_take_iff_getElem.2 ⟨k,by omega,rfl⟩,hp⟩
theorem qsub_l (d:D) (i:Nat):(qsub d 0 (i:Int)).toList=d.toList.take i:=by rw[qsub_eq];simp[D.sub,D.toList]
theorem lt_yes {i:Nat} {l:D} (h:i<l.toList.length):qcmp .lss (i:Int) (qlen l)=true:=by rw[qcmp_lss,qlen_c];simp;omega
theorem lt_no (l:D):qcmp .lss (l.toList.length:Int) (qlen l)=false:=by rw[qcmp_lss,qlen_c];simp
theorem wrapU64 {n:Int} (h0:0≤n) (h1:n≤18446744073709551615):IntKind.u64.wrap n=n:=by
 simp only[IntKind.wrap,IntKind.bits,IntKind.signed];simp;omega
theorem wrapU32 {n:Int} (h0:0≤n) (h1:n≤4294967295):IntKind.u32.wrap n=n:=by
 simp only[IntKind.wrap,IntKind.bits,IntKind.signed];simp;omega
theorem addU64 {a b:Int} (h0:0≤a+b) (h1:a+b≤18446744073709551615):qbin .add .u64 a b=a+b:=by rw[qbin_eq];exact wrapU64 h0 h1
theorem qmm_l (a b:Int):qmm .lss a b=if b<a then b else a:=by rw[qmm_eq];rfl
theorem qmm_g (a b:Int):qmm .gtr a b=if a<b then b else a:=by rw[qmm_eq];rfl
noncomputable def isStrT (T:TypeId):Bool:=match PG.underlying T with|some .string=>true|_=>false
theorem str9:isStrT 9=true:=by kernel_rfl
theorem conf_strlen {d:D} (h:Conf PG 9 d):(qstr d).size≤maxLen:=by
 have ht:=str9
 unfold isStrT at ht
 cases hu:PG.underlying 9 with
 |none=>rw[hu]at ht;cases ht
 |some td=>
  rw[hu]at ht
  cases h with
  |str h1 hl=>rw[qstr_s];exact hl
  |slice h1 hl hd=>rw[h1]at hu;cases hu;cases ht
  |struct h1=>rw[h1]at hu;cases hu;cases ht
  |bool h1=>rw[h1]at hu;cases hu;cases ht
  |int h1=>rw[h1]at hu;cases hu;cases ht
  |array h1=>rw[h1]at hu;cases hu;cases ht
  |other h1=>unfold isOther at h1;rw[hu]at h1;cases td<;>simp_all
theorem bytes_len (s:ByteArray):(qbytes s).toList.length=s.size:=by rw[qbytes_eq,bytes_list];simp
theorem bytes_at {s:ByteArray} {i:Nat} (h:i<s.size):qint (qget (qbytes s) i)=qidxS s i:=by
 rw[qget_n,qbytes_eq,bytes_list,qidxS_eq,getD_lt (by simpa using h)]
 simp only[List.getElem_map,qint_i,ridxS,ByteArray.toList_eq]
 have:i<s.data.toList.length:=by simpa using h
 simp[List.getD,List.getElem?_eq_getElem this]
noncomputable def badC (c:Int):Bool:=
 (decide (c<97)||decide (122<c))&&((decide (c<65)||decide (90<c))&&((decide (c<48)||decide (57<c))&&(!decide (c=95) && !decide (c=46))))
theorem name_eq {s:ByteArray} (hs:s.size≤maxLen):∃b:Bool,q46 [.str s]=some [.bool b]∧q152 [.str s]=some [.bool b]:=by
 rw[q46_eq,q152_eq,F46_eq,F152_eq,l46_2_eq,l152_2_eq]
 have h1:=anyFor (st:=st46_2 [.str s,qbytes s, .int (qlen (qbytes s))]) (n:=s.size) (p:=fun i=>badC (qidxS s i)) (r1:=fun _=>[.int 1]) (r0:=[.int 0]) hs
  (fun i hi=>by
   have hi':i<(qbytes s).toList.length:=by rw[bytes_len];exact hi
   rw[st46_2_eq,lt_yes hi',qinb_n hi',bytes_at hi]
   generalize qidxS s i=c
   simp only[cond_true,qiteB_c,qcmp_lss,qcmp_gtr,qcmp_neq]
   congr 1
   unfold badC
   rw[Bool.eq_iff_iff]
   simp
   omega)
  (by rw[st46_2_eq, ← bytes_len,lt_no];rfl)
 have h2:=anyFor (st:=st152_2 [.str s]) (n:=s.size) (p:=fun i=>badC (qidxS s i)) (r1:=fun _=>[.int 1]) (r0:=[.int 0]) hs
  (fun i hi=>by
   have e1:qcmp .lss (i:Int) (qlenS s)=true:=by rw[qcmp_lss,qlenS_eq];simp;omega
   have e2:qinbS s i=true:=by rw[qinbS_eq];simp[rinbS];omega
   rw[st152_2_eq,e1,e2]
   generalize qidxS s i=c
   simp only[cond_true,qiteB_c,qcmp_lss,qcmp_gtr,qcmp_geq,qcmp_leq,qcmp_neq,qnot_c]
   congr 1
   unfold badC
   rw[Bool.eq_iff_iff]
   simp
   omega)
  (by rw[st152_2_eq,show qcmp .lss (s.size:Int) (qlenS s)=false by rw[qcmp_lss,qlenS_eq];simp];rfl)
 have hn:decide (1≤qlenS s)=decide (0<qlenS s):=by rw[Bool.eq_iff_iff];simp;omega
 rcases h1 with⟨h1,h1'⟩|⟨i,hi,hpi,_,h1⟩
 ·rcases h2 with⟨h2,_⟩|⟨j,hj,hpj,_,_⟩
  ·refine⟨_,by simp only[h1,qsome_s,qnth_s,List.getD_cons_zero,qint_i,qcmp_eql,decide_true,cond_true];rfl,?_⟩
   simp only[h2,qsome_s,qnth_s,List.getD_cons_zero,qint_i,qcmp_eql,decide_true,cond_true,qcmp_geq,qcmp_gtr,hn]
  ·rw[h1' j hj]at hpj;cases hpj
 ·rcases h2 with⟨_,h2'⟩|⟨j,hj,hpj,_,h2⟩
  ·rw[h2' i hi]at hpi;cases hpi
  ·exact⟨false,by simp[h1,qsome_s,qnth_s,qint_i,qcmp_eql],by simp[h2,qsome_s,qnth_s,qint_i,qcmp_eql]⟩
noncomputable def adr (s:D):Int:=qint (qfld s 1)
noncomputable def lenD (s:D):Int:=((qfld s 2).toList.length:Int)
noncomputable def endS (s:D):Int:=if 4294967295<adr s+lenD s then 4294967295 else adr s+lenD s
theorem f57_0:isFld 48 0 9=true:=by kernel_rfl
theorem f57_1:isFld 48 1 24=true:=by kernel_rfl
theorem i24:isInt 24 .u32=true:=by kernel_rfl
structure Sec (s:D):Prop where
 a0:0≤adr s
 a1:adr s≤4294967295
 l0:0≤lenD s
 l1:lenD s≤1048576
 nm:(qstr (qfld s 0)).size≤maxLen
theorem end_r {s:D} (h:Sec s):q90 [s]=some [.int (endS s)]:=by
 obtain⟨a0,a1,l0,l1,_⟩:=h
 rw[q90_eq,F90_eq,qlen_c,qwrap_eq]
 change _=some [D.int (if 4294967295<adr s+lenD s then 4294967295 else adr s+lenD s)]
 rw[show qint (qfld s 1)=adr s from rfl,show(((qfld s 2).toList.length:Nat):Int)=lenD s from rfl,wrap64 (by omega) (by omega),add64 (by omega) (by omega),qcmp_gtr]
 by_cases h:4294967295<adr s+lenD s<;>simp[h]
theorem space_p {s:D} (h:Sec s):q48 [s]=some [.agg [.int (adr s), .int (endS s)]]:=by
 obtain⟨a0,a1,l0,l1,_⟩:=h
 rw[q48_eq,F48_eq,qlen_c,qwrap_eq]
 rw[show qint (qfld s 1)=adr s from rfl,show(((qfld s 2).toList.length:Nat):Int)=lenD s from rfl,wrapU64 a0 (by omega),wrapU64 l0 (by omega),addU64 (by omega) (by omega),qmm_l]
 have:(if(4294967295:Int)<adr s+lenD s then 4294967295 else adr s+lenD s)=endS s:=rfl
 rw[this,wrapU32]
 ·unfold endS;split<;>omega
 ·unfold endS;split<;>omega
theorem meet_p (a b c d:Int):q47 [.agg [.int a, .int b], .agg [.int c, .int d]]=some [.bool (decide ((if a<c then c else a)<(if d<b then d else b)))]:=by
 rw[q47_eq,F47_eq]
 simp only[qfld_eq,D.fld,List.getD_cons_zero,List.getD_cons_succ,qint_i,qmm_g,qmm_l,qcmp_lss]
noncomputable def meetS (x y:D):Bool:=decide ((if adr x<adr y then adr y else adr x)<(if endS y<endS x then endS y else endS x))
theorem closure39 {x y:D} (hx:Sec x) (hy:Sec y):q50 [x,y]=some [.bool (meetS x y)]:=by
 rw[q50_eq,F50_eq,space_p hx,space_p hy]
 simp only[qsome_s,qnth_s,List.getD_cons_zero,meet_p,qbool_b,cond_true,meetS]
noncomputable def sameN (y x:D):Bool:=qcmpS .eql (qstr (qfld x 0)) (qstr (qfld y 0))
theorem contains34 {l y:D} (hl:l.toList.length≤maxLen):q44_45 [l,y]=some [.bool (l.toList.any (sameN y))]:=by
 obtain⟨k,h1,h2⟩:=contG (st:=st51_45_2 [l,y, .int (qlen l)]) (c:=fun x=>q45 [x,y]) (p:=sameN y) (fun i=>by rw[st51_45_2_eq]) hl (fun x _=>by rw[q45_eq,F45_eq];rfl)
 rw[q44_45_eq,F44_45_eq,q51_45_eq,F51_45_eq,l51_45_2_eq,h1]
 simp only[qsome_s,cond_true,qnth_s,List.getD_cons_zero,qint_i,qcmp_geq,h2]
theorem contains39 {l y:D} (hl:l.toList.length≤maxLen) (hx:∀x∈l.toList,Sec x) (hy:Sec y):q44_50 [l,y]=some [.bool (l.toList.any fun x=>meetS x y)]:=by
 obtain⟨k,h1,h2⟩:=contG (st:=st51_50_2 [l,y, .int (qlen l)]) (c:=fun x=>q50 [x,y]) (p:=fun x=>meetS x y) (fun i=>by rw[st51_50_2_eq]) hl (fun x hm=>closure39 (hx x hm) hy)
 rw[q44_50_eq,F44_50_eq,q51_50_eq,F51_50_eq,l51_50_2_eq,h1]
 simp only[qsome_s,cond_true,qnth_s,List.getD_cons_zero,qint_i,qcmp_geq,h2]
noncomputable def nameOk (s:D):Bool:=qbool (qnth (q46 [.str (qstr (qfld s 0))]) 0)
theorem name_p {s:D} (h:Sec s):q46 [.str (qstr (qfld s 0))]=some [.bool (nameOk s)]:=by
 obtain⟨b,h1,_⟩:=name_eq h.nm
 unfold nameOk;rw[h1];simp[qnth_s,qbool_b]
theorem name_r {s:D} (h:Sec s):q152 [.str (qstr (qfld s 0))]=some [.bool (nameOk s)]:=by
 obtain⟨b,h1,h2⟩:=name_eq h.nm
 unfold nameOk;rw[h1,h2];simp[qnth_s,qbool_b]
noncomputable def rangeBad (s:D):Bool:=decide (4294967295<adr s+lenD s)||(decide (0<lenD s)&&(decide (adr s<983040)&&decide (978944<endS s)))
noncomputable def twice (l:D) (i:Nat):Bool:=(l.toList.take i).any (sameN (qget l i))
noncomputable def eSec (l:D) (i:Nat):Int:=
 bif decide (65536<lenD (qget l i))then 6 else bif !nameOk (qget l i)then 3 else bif twice l i then 8 else bif rangeBad (qget l i)then 7 else 0
theorem le_yes {i:Nat} {l:D} (h:i≤l.toList.length):qcmp .leq (i:Int) (qlen l)=true:=by rw[qcmp_leq,qlen_c];simp;omega
theorem leq_00:qcmp .leq 0 0=true:=by rw[qcmp_leq];rfl
theorem leq_0 (i:Nat):qcmp .leq 0 (i:Int)=true:=by rw[qcmp_leq];simp
theorem range_p {s:D} (h:Sec s):(decide (4294967295<adr s+lenD s)||decide ((if adr s<978944 then 978944 else adr s)<(if 983040<endS s then 983040 else endS s)))=rangeBad s:=by
 obtain⟨a0,a1,l0,l1,_⟩:=h
 unfold rangeBad
 rw[Bool.eq_iff_iff]
 by_cases hb:4294967295<adr s+lenD s
 ·simp[hb]
 ·have he:endS s=adr s+lenD s:=by unfold endS;rw[if_neg hb]
  rw[he]
  simp only[hb,decide_false,Bool.false_or,decide_eq_true_eq,Bool.and_eq_true]
  split<;>split<;>omega
theorem step19 {l:D} {i:Nat} (hi:i<l.toList.length) (hl:l.toList.length≤maxLen) (hs:Sec (qget l i)):
 st16_4 [l,l, .int (qlen l)] [.int i]=if eSec l i=0 then some (.inl [.int (qbin .add .i64 i 1)])else some (.inr [.int 1, .int (eSec l i)]):=by
 have ht:q44_45 [qsub l 0 i,qget l i]=some [.bool (twice l i)]:=by
  rw[contains34 (by rw[qsub_l];simp only[List.length_take];omega),qsub_l];rfl
 have hr:=range_p hs
 rw[st16_4_eq,lt_yes hi,qinb_n hi,leq_00,leq_0,le_yes (by omega),ht,name_p hs,space_p hs]
 simp only[qsome_s,qnth_s,List.getD_cons_zero,meet_p]
 obtain⟨a0,a1,l0,l1,_⟩:=hs
 unfold eSec
 rw[show qint (qfld (qget l i) 1)=adr (qget l i)from rfl,qlen_c,show(((qfld (qget l i) 2).toList.length:Nat):Int)=lenD (qget l i)from rfl,qwrap_eq,wrapU64 a0 (by omega),wrapU64 l0 (by omega),addU64 (by omega) (by omega)]
 simp only[cond_true,qsome_s,qnth_s,List.getD_cons_zero,qbool_b,qnot_c,qcmp_gtr,qiteB_c,qand_c,Bool.and_self,Bool.cond_self]
 rw[← hr]
 cases decide (65536<lenD (qget l i))<;>cases nameOk (qget l i)<;>cases twice l i<;>cases decide (4294967295<adr (qget l i)+lenD (qget l i))<;>
  cases decide ((if adr (qget l i)<978944 then 978944 else adr (qget l i))<(if 983040<endS (qget l i)then 983040 else endS (qget l i)))<;>rfl
theorem twice_r {l:D} {i:Nat} (hi:i<l.toList.length) (hl:l.toList.length≤maxLen):loW (st89_7 [l, .int i,qget l i]) [.int 0]=some (bif twice l i then[.int 1]else[.int 0]):=by
 have h:=anyFor (st:=st89_7 [l, .int i,qget l i]) (n:=i) (p:=fun k=>sameN (qget l i) (qget l k)) (r1:=fun _=>[.int 1]) (r0:=[.int 0]) (by omega)
  (fun k hk=>by
   rw[st89_7_eq,qinb_n (by omega),show qcmp .lss (k:Int) (i:Int)=true by rw[qcmp_lss];simp;omega]
   rfl)
  (by rw[st89_7_eq,show qcmp .lss (i:Int) (i:Int)=false by rw[qcmp_lss];simp];rfl)
 rcases h with⟨h1,h2⟩|⟨k,hk,hp,_,h1⟩
 ·have:twice l i=false:=by
   unfold twice
   rw[← Bool.not_eq_true,take_any (by omega)]
   rintro⟨k,hk,hp⟩
   rw[← qget_n,h2 k hk]at hp;cases hp
  rw[h1,this];rfl
 ·have:twice l i=true:=(take_any (by omega)).2 ⟨k,hk,by rw[← qget_n];exact hp⟩
  rw[h1,this];rfl
theorem one_r {l:D} {i:Nat} (hi:i<l.toList.length) (hl:l.toList.length≤maxLen) (hs:Sec (qget l i)):q89 [l, .int i]=some [.int (eSec l i)]:=by
 have he:endS (qget l i)=endS (qget l i):=rfl
 rw[q89_eq,F89_eq,l89_7_eq,qinb_n hi,name_r hs,end_r hs]
 simp only[twice_r hi hl]
 obtain⟨a0,a1,l0,l1,_⟩:=hs
 unfold eSec rangeBad
 rw[show qint (qfld (qget l i) 1)=adr (qget l i)from rfl,qlen_c,show(((qfld (qget l i) 2).toList.length:Nat):Int)=lenD (qget l i)from rfl,qwrap_eq,wrap64 (by omega) (by omega),add64 (by omega) (by omega)]
 simp only[cond_true,qsome_s,qnth_s,List.getD_cons_zero,qbool_b,qint_i,qnot_c,qcmp_gtr,qcmp_lss,qcmp_eql,qiteB_c]
 cases decide (65536<lenD (qget l i))<;>cases nameOk (qget l i)<;>cases twice l i<;>cases decide (4294967295<adr (qget l i)+lenD (qget l i))<;>
  cases decide (0<lenD (qget l i))<;>cases decide (adr (qget l i)<983040)<;>cases decide (978944<endS (qget l i))<;>simp[qint_i]
noncomputable def over (l:D) (i:Nat):Bool:=(l.toList.take i).any fun x=>meetS x (qget l i)
theorem meet_iff {x y:D} (hx:Sec x) (hy:Sec y):meetS x y=(decide (0<lenD y)&&(decide (0<lenD x)&&(decide (adr y<endS x)&&decide (adr x<endS y)))):=by
 obtain⟨a0,a1,l0,l1,_⟩:=hx
 obtain⟨b0,b1,m0,m1,_⟩:=hy
 unfold meetS endS
 rw[Bool.eq_iff_iff]
 simp only[decide_eq_true_eq,Bool.and_eq_true]
 repeat' split
 all_goals omega
theorem over_iff {l:D} {i:Nat} (hi:i<l.toList.length) (hs:∀k:Nat,k<l.toList.length→Sec (qget l k)):over l i=true↔∃k:Nat,k<i∧meetS (qget l k) (qget l i)=true:=by
 unfold over
 rw[take_any (by omega)]
 constructor
 ·rintro⟨k,hk,h⟩;exact⟨k,hk,by rw[qget_n l k];exact h⟩
 ·rintro⟨k,hk,h⟩;exact⟨k,hk,by rw[← qget_n];exact h⟩
theorem over_r {l:D} {i:Nat} (hi:i<l.toList.length) (hl:l.toList.length≤maxLen) (hs:∀k:Nat,k<l.toList.length→Sec (qget l k)):
 loW (st54_13 [l, .int i]) [.int 0]=some (bif over l i then[.int 1]else[.int 0]):=by
 have h:=anyFor (st:=st54_13 [l, .int i]) (n:=i) (p:=fun k=>meetS (qget l k) (qget l i)) (r1:=fun _=>[.int 1]) (r0:=[.int 0]) (by omega)
  (fun k hk=>by
   have sk:=hs k (by omega)
   have si:=hs i hi
   rw[st54_13_eq,qinb_n (d:=l) (i:=k) (by omega),qinb_n hi,show qcmp .lss (k:Int) (i:Int)=true by(rw[qcmp_lss];simp;omega),end_r sk,end_r si,meet_iff sk si]
   obtain⟨a0,a1,l0,l1,_⟩:=sk
   obtain⟨b0,b1,m0,m1,_⟩:=si
   rw[show qint (qfld (qget l k) 1)=adr (qget l k)from rfl,show qint (qfld (qget l i) 1)=adr (qget l i)from rfl,qlen_c,qlen_c,show(((qfld (qget l i) 2).toList.length:Nat):Int)=lenD (qget l i)from rfl,show(((qfld (qget l k) 2).toList.length:Nat):Int)=lenD (qget l k)from rfl,qwrap_eq,wrap64 (by omega) (by omega),wrap64 (by omega) (by omega)]
   simp only[cond_true,qsome_s,qnth_s,List.getD_cons_zero,qint_i,qcmp_gtr,qcmp_lss]
   cases decide (0<lenD (qget l i))<;>cases decide (0<lenD (qget l k))<;>cases decide (adr (qget l i)<endS (qget l k))<;>cases decide (adr (qget l k)<endS (qget l i))<;>rfl)
  (by rw[st54_13_eq,show qcmp .lss (i:Int) (i:Int)=false by rw[qcmp_lss];simp];rfl)
 rcases h with⟨h1,h2⟩|⟨k,hk,hp,_,h1⟩
 ·have:over l i=false:=by
   rw[← Bool.not_eq_true,over_iff hi hs]
   rintro⟨k,hk,hp⟩
   rw[h2 k hk]at hp;cases hp
  rw[h1,this];rfl
 ·rw[h1,(over_iff hi hs).2 ⟨k,hk,hp⟩];rfl
theorem sections_eq {l:D} (hl:l.toList.length≤maxLen) (hs:∀k:Nat,k<l.toList.length→Sec (qget l k)):∃e:Int,q16 [l]=some [.int e]∧q54 [l]=some [.int e]:=by
 have e1:=errFor (st:=st16_4 [l,l, .int (qlen l)]) (n:=l.toList.length) (e:=eSec l) hl (fun i hi=>step19 hi hl (hs i hi)) (by rw[st16_4_eq,lt_no];rfl)
 have e2:=errFor (st:=st54_4 [l]) (n:=l.toList.length) (e:=eSec l) hl
  (fun i hi=>by
   rw[st54_4_eq,lt_yes hi,one_r hi hl (hs i hi)]
   simp only[cond_true,qsome_s,qnth_s,List.getD_cons_zero,qint_i,qcmp_neq]
   by_cases h:eSec l i=0<;>simp[h])
  (by rw[st54_4_eq,lt_no];rfl)
 have o1:=anyFor (st:=st16_17 [l,l, .int (qlen l)]) (n:=l.toList.length) (p:=over l) (r1:=fun _=>[.int 1]) (r0:=[.int 0]) hl
  (fun i hi=>by
   have hc:q44_50 [qsub l 0 i,qget l i]=some [.bool (over l i)]:=by
    rw[contains39 (by rw[qsub_l];simp only[List.length_take];omega) (fun x hx=>by
     rw[qsub_l]at hx
     obtain⟨k,hk,rfl⟩:=List.getElem_of_mem hx
     simp only[List.length_take]at hk
     have:=hs k (by omega)
     rw[qget_n,getD_lt (by omega)]at this
     rw[List.getElem_take];exact this) (hs i hi),qsub_l];rfl
   rw[st16_17_eq,lt_yes hi,qinb_n hi,leq_00,leq_0,le_yes (by omega),hc]
   simp only[cond_true,qsome_s,qnth_s,List.getD_cons_zero,qbool_b])
  (by rw[st16_17_eq,lt_no];rfl)
 have o2:=anyFor (st:=st54_10 [l]) (n:=l.toList.length) (p:=over l) (r1:=fun _=>[.int 1]) (r0:=[.int 0]) hl
  (fun i hi=>by
   rw[st54_10_eq,lt_yes hi,l54_13_eq]
   simp only[over_r hi hl hs]
   cases over l i<;>simp[qsome_s,qnth_s,qint_i,qcmp_eql])
  (by rw[st54_10_eq,lt_no];rfl)
 rw[q16_eq,q54_eq,F16_eq,F54_eq,l16_4_eq,l54_4_eq,l16_17_eq,l54_10_eq]
 simp only[e1,e2]
 generalize fErr (eSec l) 0 l.toList.length=fe
 simp only[errOut_0,qsome_s,cond_true]
 cases qcmp .gtr (qlen l) 16 with
 |true=>exact⟨6,rfl,rfl⟩
 |false=>
  simp only[cond_false]
  by_cases hf:fe=0
  ·simp only[hf,decide_true,cond_true]
   rcases o1 with⟨h1,h1'⟩|⟨i,hi,hpi,_,h1⟩
   ·rcases o2 with⟨h2,_⟩|⟨j,hj,hpj,_,_⟩
    ·exact⟨0,by simp[h1,qsome_s,qnth_s,qint_i,qcmp_eql],by simp[h2,qsome_s,qnth_s,qint_i,qcmp_eql]⟩
    ·rw[h1' j hj]at hpj;cases hpj
   ·rcases o2 with⟨_,h2'⟩|⟨j,hj,hpj,_,h2⟩
    ·rw[h2' i hi]at hpi;cases hpi
    ·exact⟨10,by simp[h1,qsome_s,qnth_s,qint_i,qcmp_eql],by simp[h2,qsome_s,qnth_s,qint_i,qcmp_eql]⟩
  ·exact⟨fe,by simp[hf,errOut_1 hf],by simp[hf,errOut_1 hf]⟩
end Go.Proofs.YteccopaonadbeaaGreatDoor.Sx
namespace Go.Proofs.YteccopaonadbeaaGreatDoor
set_option linter.unusedSimpArgs false
set_option linter.unusedVariables false
open Go Go.AM
def smR (cs:Nat→Nat):Nat→Nat→Nat
 |_,0=>0
 |i,k+1=>cs i+smR cs (i+1) k
theorem smR_list (f:D→Nat) (l:List D):∀k i,i+k=l.length→smR (fun j=>f (l.getD j .other)) i k=((l.drop i).map f).sum
 |0,i,h=>by rw[List.drop_of_length_le (by omega)];rfl
 |k+1,i,h=>by
  have hlt:i<l.length:=by omega
  rw[List.drop_eq_getElem_cons hlt,List.map_cons,List.sum_cons,smR,smR_list f l k (i+1) (by omega),getD_lt hlt]
theorem posLoop {st:List D→Option (Sum (List D) (List D))} {n:Nat} {enc:Int→Nat→List D} {fin:Int→List D} {cs:Nat→Nat} {ok:Nat→Prop} {B L:Int}
 (hstep:∀(i:Nat) (left:Int),i<n→0<left→left≤B→∃r:Int,st (enc left i)=some (.inl (enc r (i+1)))∧L≤r∧r≤left∧(0<r→ok i∧(cs i:Int)+r≤left))
 (hend:∀(i:Nat) (left:Int),(n≤i∨left≤0)→st (enc left i)=some (.inr (fin left))):
 ∀(k i:Nat) (left:Int),i+k=n→L≤left→left≤B→∃r:Int,loW st (enc left i)=some (fin r)∧L≤r∧r≤left∧(0<r→(∀j,i≤j→j<n→ok j)∧(smR cs i k:Int)+r≤left):=by
 intro k
 induction k with
 |zero=>
  intro i left hi h0 h1
  exact⟨left,by rw[loW_eq,hend i left (.inl (by omega))],h0,by omega,fun h=>⟨fun j a b=>by omega,by simp[smR]⟩⟩
 |succ k ih=>
  intro i left hi h0 h1
  by_cases hp:0<left
  ·obtain⟨r,e,r0,r1,r2⟩:=hstep i left (by omega) hp h1
   obtain⟨r',e',s0,s1,s2⟩:=ih (i+1) r (by omega) r0 (by omega)
   refine⟨r',by rw[loW_eq,e];exact e',s0,by omega,fun h=> ?_⟩
   obtain⟨a1,a2⟩:=s2 h
   obtain⟨b1,b2⟩:=r2 (by omega)
   refine⟨fun j c d=> ?_,by simp only[smR];omega⟩
   by_cases hj:j=i
   ·subst hj;exact b1
   ·exact a1 j (by omega) d
  ·exact⟨left,by rw[loW_eq,hend i left (.inr (by omega))],h0,by omega,fun h=>by omega⟩
theorem gate0 {a b left:Int} (h:b≤a∨left≤0):qiteB (qcmp .lss a b) (qcmp .gtr left 0) false=false:=by
 rw[qiteB_c,qcmp_lss,qcmp_gtr]
 by_cases h1:a<b
 ·have:¬0<left:=by omega
  simp[h1,this]
 ·simp[h1]
theorem gate1 {a b left:Int} (h1:a<b) (h2:0<left):qiteB (qcmp .lss a b) (qcmp .gtr left 0) false=true:=by
 rw[qiteB_c,qcmp_lss,qcmp_gtr];simp[h1,h2]
theorem ex63:∀(N:Nat) (e:D) (n:Int),Conf PG 105 e→e.size<N→0<n→n≤9223372036854775807→∃r:Int,F63 N [e, .int n]=some [.int r]∧0≤r∧r≤n:=by
 intro N
 induction N with
 |zero=>intro e n _ h;omega
 |succ N ih=>
  intro e n hc h h0 h1
  obtain⟨m1,m2⟩:=conf_elems (j:=4) f25_4 s23 hc
  have ho:qfld e 4=e.fld 4:=by rw[qfld_eq]
  have hs:qbin .sub .i64 n 1=n-1:=sub64 (by omega) (by omega)
  obtain⟨r,q1,q2,q3,_⟩:=posLoop (B:=9223372036854775807) (L:=0) (st:=st63_3 (F63 N) [e]) (n:=(e.fld 4).toList.length) (enc:=fun left i=>[.int left, .int (i:Int)]) (fin:=fun r=>[.int 0, .int r]) (cs:=fun _=>0) (ok:=fun _=>True)
   (fun i left hi hl hm=>by
    have hx:=List.getElem_mem hi
    have hsz:=size_elem hx
    obtain⟨r,a,b,c⟩:=ih ((e.fld 4).toList[i]) left (m2 _ hx) (by omega) hl hm
    have hg:qget (e.fld 4) (i:Int)=(e.fld 4).toList[i]:=by rw[qget_n,getD_lt hi]
    refine⟨r,?_,b,c,fun _=>⟨trivial,by omega⟩⟩
    rw[st63_3_eq,ho,qlen_c,hg,a,gate1 (by omega) hl,qinb_n hi]
    simp only[cond_true,qsome_s,qnth_s,List.getD_cons_zero,qint_i]
    rw[add_nat (by unfold maxLen at m1;omega)])
   (fun i left hc'=>by
    rw[st63_3_eq,ho,qlen_c,gate0 (by omega)];rfl)
   (e.fld 4).toList.length 0 (n-1) (by omega) (by omega) (by omega)
  refine⟨r,?_,q2,by omega⟩
  simp only[Int.natCast_zero]at q1
  rw[F63_s,Fb63_eq,hs,l63_3_eq]
  simp only[q1,qsome_s,cond_true,qnth_s,List.getD_cons_succ,List.getD_cons_zero,qint_i]
theorem q63_ok {e:D} {n:Int} (hc:Conf PG 105 e) (h0:0<n) (h1:n≤9223372036854775807):∃r:Int,q63 [e, .int n]=some [.int r]∧0≤r∧r≤n:=by
 rw[q63_eq];exact ex63 _ e n hc (fuel_in (by simp)) h0 h1
theorem ls30_neg {N:Nat} {l:D} {n:Int} (h:n≤0):F30 (N+1) [l, .int n]=some [.int n]:=by
 have e:loW (st30_2 (F30 N) [l]) [.int n, .int 0]=some [.int 0, .int n]:=by
  rw[loW_eq,st30_2_eq,gate0 (.inr h)];rfl
 rw[F30_s,Fb30_eq,l30_2_eq]
 simp only[e,qsome_s,cond_true,qnth_s,List.getD_cons_succ,List.getD_cons_zero,qint_i]
set_option maxHeartbeats 1000000 in
theorem ls30 {B:Int} (hB:B≤9223372036854775807):∀(N M:Nat) (l:D) (n:Int),Conf PG 59 l→l.size<N→l.size<M→0≤n→n≤B→
 ∃r:Int,F30 N [l, .int n]=some [.int r]∧0≤r∧r≤n∧(0<r→(B≤100000→Sm M l)∧(cnt M l:Int)+r≤n):=by
 intro N
 induction N with
 |zero=>intro M l n _ h;omega
 |succ N ih=>
  intro M l n hc h hM h0 h1
  obtain⟨M,rfl⟩:∃m,M=m+1:=⟨M-1,by omega⟩
  have hlm:=(conf_el s36 hc).1
  obtain⟨r,q1,q2,q3,q4⟩:=posLoop (B:=B) (L:=0) (st:=st30_2 (F30 N) [l]) (n:=l.toList.length) (enc:=fun left i=>[.int left, .int (i:Int)]) (fin:=fun r=>[.int 0, .int r])
   (cs:=fun i=>1+((kids (l.toList.getD i .other)).map (cnt M)).sum) (ok:=fun i=>B≤100000→(qfld (l.toList.getD i .other) 6).toList.length≤100000∧∀x∈kids (l.toList.getD i .other),Sm M x)
   (fun i left hi hl hm=>by
    have hx:=List.getElem_mem hi
    obtain⟨c1,c2⟩:=node_conf hc hx
    have hg:qget l (i:Int)=l.toList[i]:=by rw[qget_n,getD_lt hi]
    rw[getD_lt hi]
    generalize hs:l.toList[i]=s at *
    have kc:∀x∈kids s,Conf PG 59 x∧x.size<N∧x.size<M:=fun x hx'=>by
     obtain⟨k1,k2⟩:=kids_conf c1 hx'
     exact⟨k1,by omega,by omega⟩
    have c3:Conf PG 99 (qfld s 3):=by rw[qfld_eq];exact conf_fldC f187_3 c1
    obtain⟨e1,_,e3⟩:=conf_el s23 c3
    have c6:Conf PG 100 (qfld s 6):=by rw[qfld_eq];exact conf_fldC f187_6 c1
    have hl6:=(conf_el s185 c6).1
    have hsub:qbin .sub .i64 left 1=left-1:=sub64 (by omega) (by omega)
    obtain⟨a,a1,a2,a3,_⟩:=posLoop (B:=B) (L:=0) (st:=st30_6 (F30 N) [l, .int (i:Int)]) (n:=(qfld s 3).toList.length) (enc:=fun left j=>[.int left, .int (j:Int)]) (fin:=fun r=>[.int 0, .int r]) (cs:=fun _=>0) (ok:=fun _=>True)
     (fun j left' hj hl' hm'=>by
      obtain⟨r,u1,u2,u3⟩:=q63_ok (e3 _ (List.getElem_mem hj)) hl' (show left'≤9223372036854775807 by omega)
      have hgj:qget (qfld s 3) (j:Int)=(qfld s 3).toList[j]:=by rw[qget_n,getD_lt hj]
      refine⟨r,?_,u2,u3,fun _=>⟨trivial,by omega⟩⟩
      rw[st30_6_eq,hg,qinb_n hi,qlen_c,hgj,u1,gate1 (by omega) hl',qinb_n hj]
      simp only[cond_true,qsome_s,qnth_s,List.getD_cons_zero,qint_i]
      rw[add_nat (by unfold maxLen at e1;omega)])
     (fun j left' hc'=>by rw[st30_6_eq,hg,qinb_n hi,qlen_c,gate0 (by omega)];rfl)
     (qfld s 3).toList.length 0 (left-1) (by omega) (by omega) (by omega)
    obtain⟨k1,k2,k3⟩:=kc (qfld s 4) (by simp[kids])
    obtain⟨b,b1,b2,b3,b4⟩:=ih M (qfld s 4) a k1 k2 k3 a2 (by omega)
    obtain⟨k1,k2,k3⟩:=kc (qfld s 5) (by simp[kids])
    obtain⟨d,d1,d2,d3,d4⟩:=ih M (qfld s 5) b k1 k2 k3 b2 (by omega)
    obtain⟨g,g1,g2,g3,g4⟩:=posLoop (B:=B) (L:=0) (st:=st30_12 (F30 N) [l, .int (i:Int)]) (n:=(qfld s 6).toList.length) (enc:=fun left j=>[.int left, .int (j:Int)]) (fin:=fun r=>[.int 0, .int r])
     (cs:=fun j=>1+cnt M ((qfld s 6).toList.getD j .other)) (ok:=fun j=>B≤100000→Sm M ((qfld s 6).toList.getD j .other))
     (fun j left' hj hl' hm'=>by
      have hxj:=List.getElem_mem hj
      obtain⟨k1,k2,k3⟩:=kc ((qfld s 6).toList[j]) (by simp[kids])
      obtain⟨r,u1,u2,u3,u4⟩:=ih M ((qfld s 6).toList[j]) (left'-1) k1 k2 k3 (by omega) (by omega)
      have hgj:qget (qfld s 6) (j:Int)=(qfld s 6).toList[j]:=by rw[qget_n,getD_lt hj]
      have hs1:qbin .sub .i64 left' 1=left'-1:=sub64 (by omega) (by omega)
      rw[getD_lt hj]
      refine⟨r,?_,u2,by omega,fun hr=> ?_⟩
      ·rw[st30_12_eq,hg,qinb_n hi,qlen_c,hgj,hs1,u1,gate1 (by omega) hl',qinb_n hj]
       simp only[cond_true,qsome_s,qnth_s,List.getD_cons_zero,qint_i]
       rw[add_nat (by unfold maxLen at hl6;omega)]
      ·obtain⟨v1,v2⟩:=u4 hr
       exact⟨v1,by omega⟩)
     (fun j left' hc'=>by rw[st30_12_eq,hg,qinb_n hi,qlen_c,gate0 (by omega)];rfl)
     (qfld s 6).toList.length 0 d (by omega) d2 (by omega)
    simp only[Int.natCast_zero]at a1 g1
    refine⟨g,?_,g2,by omega,fun hr=> ?_⟩
    ·rw[st30_2_eq,qlen_c,hg,hsub,gate1 (by omega) hl,qinb_n hi]
     simp only[l30_6_eq,l30_12_eq,a1,b1,d1,g1,cond_true,qsome_s,qnth_s,List.getD_cons_zero,List.getD_cons_succ,qint_i]
     rw[add_nat (by unfold maxLen at hlm;omega)]
    ·obtain⟨v1,v2⟩:=g4 hr
     have hs6:=smR_list (fun x=>1+cnt M x) (qfld s 6).toList (qfld s 6).toList.length 0 (by omega)
     rw[List.drop_zero]at hs6
     rw[hs6]at v2
     have hlen:((qfld s 6).toList.map fun x=>1+cnt M x).sum=(qfld s 6).toList.length+((qfld s 6).toList.map (cnt M)).sum:=by
      generalize (qfld s 6).toList=L
      induction L with
      |nil=>rfl
      |cons y L ihL=>simp only[List.map_cons,List.sum_cons,List.length_cons,ihL];omega
     rw[hlen]at v2
     obtain⟨w1,w2⟩:=d4 (by omega)
     obtain⟨z1,z2⟩:=b4 (by omega)
     refine⟨fun hb=>⟨by omega,fun x hx'=> ?_⟩,?_⟩
     ·simp only[kids,List.mem_cons]at hx'
      rcases hx' with rfl|rfl|hx'
      ·exact z1 hb
      ·exact w1 hb
      ·obtain⟨j,hj,rfl⟩:=List.getElem_of_mem hx'
       have:=v1 j (Nat.zero_le _) hj hb
       rw[getD_lt hj]at this
       exact this
     ·simp only[kids,List.map_cons,List.sum_cons]
      omega)
   (fun i left hc'=>by rw[st30_2_eq,qlen_c,gate0 (by omega)];rfl)
   l.toList.length 0 n (by omega) h0 h1
  simp only[Int.natCast_zero]at q1
  refine⟨r,?_,q2,q3,fun hr=> ?_⟩
  ·rw[F30_s,Fb30_eq,l30_2_eq]
   simp only[q1,qsome_s,cond_true,qnth_s,List.getD_cons_succ,List.getD_cons_zero,qint_i]
  ·obtain⟨v1,v2⟩:=q4 hr
   have hs:=smR_list (fun s=>1+((kids s).map (cnt M)).sum) l.toList l.toList.length 0 (by omega)
   rw[List.drop_zero]at hs
   rw[hs]at v2
   refine⟨fun hb s hs'=> ?_,by simpa only[cnt]using v2⟩
   obtain⟨j,hj,rfl⟩:=List.getElem_of_mem hs'
   have:=v1 j (Nat.zero_le _) hj hb
   rw[getD_lt hj]at this
   exact this
end Go.Proofs.YteccopaonadbeaaGreatDoor
namespace Go.Proofs.YteccopaonadbeaaGreatDoor
set_option linter.unusedSimpArgs false
set_option linter.unusedVariables false
open Go Go.AM
theorem fD2:isFld 48 2 46=true:=by kernel_rfl
theorem sD2:isSl 46 5=true:=by kernel_rfl
theorem wrapR (n:Int): -9223372036854775808≤IntKind.i64.wrap n∧IntKind.i64.wrap n≤9223372036854775807:=by
 simp only[IntKind.wrap,IntKind.bits,IntKind.signed];simp;omega
theorem subR (a b:Int): -9223372036854775808≤qbin .sub .i64 a b∧qbin .sub .i64 a b≤9223372036854775807:=by
 rw[qbin_eq];exact wrapR _
theorem quo64 {a:Int} (h0:0≤a) (h1:a≤9223372036854775807):qbin .quo .i64 a 64=a/64:=by
 rw[qbin_eq]
 have e:rbin .quo .i64 a 64=IntKind.i64.wrap (a.tdiv 64):=rfl
 rw[e,Int.tdiv_eq_ediv_of_nonneg h0]
 exact wrap64 (by omega) (by omega)
theorem q30_ok {B:Int} (hB:B≤9223372036854775807) {l:D} {n:Int} (hc:Conf PG 59 l) (h0:0≤n) (h1:n≤B):∃r:Int,q30 [l, .int n]=some [.int r]∧0≤r∧r≤n∧(0<r→B≤100000→∀M,l.size<M→Sm M l∧(cnt M l:Int)+r≤n):=by
 have hN:l.size<fuelL [l, .int n]:=fuel_in (by simp)
 obtain⟨r,a1,a2,a3,_⟩:=ls30 hB (fuelL [l, .int n]) (l.size+1) l n hc hN (by omega) h0 h1
 refine⟨r,by rw[q30_eq];exact a1,a2,a3,fun hr hb M hM=> ?_⟩
 obtain⟨r',b1,b2,b3,b4⟩:=ls30 hB (fuelL [l, .int n]) M l n hc hN hM h0 h1
 rw[a1]at b1
 simp only[Option.some.injEq,List.cons.injEq,D.int.injEq,and_true]at b1
 subst b1
 obtain⟨c1,c2⟩:=b4 hr
 exact⟨c1 hb,c2⟩
theorem q30_neg {l:D} {n:Int} (h:n≤0):q30 [l, .int n]=some [.int n]:=by
 have hN:l.size<fuelL [l, .int n]:=fuel_in (by simp)
 obtain⟨N,hN'⟩:∃N,fuelL [l, .int n]=N+1:=⟨fuelL [l, .int n]-1,by omega⟩
 rw[q30_eq]
 simp only[hN']
 exact ls30_neg h
def Few (u:D):Prop:=(∀x∈(qfld u 1).toList,(qfld x 2).toList.length≤1000000)∧∀f∈(qfld u 2).toList,Fit (qfld f 2)∧(qfld f 1).toList.length≤1000000
theorem large_ok {u:D} (hu:Conf PG 33 u):∃b,q11 [u]=some [.bool b]∧(b=false→(qfld u 0).toList.length≤256→(qfld u 1).toList.length≤16→(qfld u 2).toList.length≤64→Few u):=by
 have cd:Conf PG 30 (qfld u 1):=by rw[qfld_eq];exact conf_fldC f197_1 hu
 have cf:Conf PG 31 (qfld u 2):=by rw[qfld_eq];exact conf_fldC f197_2 hu
 obtain⟨ld,_,ed⟩:=conf_el s67 cd
 obtain⟨lf,_,ef⟩:=conf_el s195 cf
 have hx:=subR (qbin .sub .i64 (qbin .sub .i64 1500 (qlen (qfld u 0))) (qlen (qfld u 2))) (qlen (qfld u 1))
 have hsm:(qfld u 0).toList.length≤256→(qfld u 1).toList.length≤16→(qfld u 2).toList.length≤64→qbin .sub .i64 (qbin .sub .i64 (qbin .sub .i64 1500 (qlen (qfld u 0))) (qlen (qfld u 2))) (qlen (qfld u 1))≤1500:=fun h0 h1 h2=>by
  rw[qlen_c,qlen_c,qlen_c]
  have g1:qbin .sub .i64 1500 ((qfld u 0).toList.length:Int)=1500-((qfld u 0).toList.length:Int):=sub64 (by omega) (by omega)
  rw[g1]
  have g2:qbin .sub .i64 (1500-((qfld u 0).toList.length:Int)) ((qfld u 2).toList.length:Int)=1500-((qfld u 0).toList.length:Int)-((qfld u 2).toList.length:Int):=sub64 (by omega) (by omega)
  rw[g2,sub64 (by omega) (by omega)];omega
 rw[q11_eq,F11_eq,l11_3_eq,l11_7_eq]
 generalize qbin .sub .i64 (qbin .sub .i64 (qbin .sub .i64 1500 (qlen (qfld u 0))) (qlen (qfld u 2))) (qlen (qfld u 1))=x at hx hsm ⊢
 have e0:∀(i:Nat) (left:Int),((qfld u 1).toList.length≤i∨left≤0)→st11_3 [u] [.int left, .int (i:Int)]=some (.inr [.int 0, .int left]):=fun i left h=>by rw[st11_3_eq,qlen_c,gate0 (by omega)];rfl
 have e1:∀(i:Nat) (left:Int),((qfld u 2).toList.length≤i∨left≤0)→st11_7 [u] [.int left, .int (i:Int)]=some (.inr [.int 0, .int left]):=fun i left h=>by rw[st11_7_eq,qlen_c,gate0 (by omega)];rfl
 by_cases hp:0<x
 ·obtain⟨r,a1,a2,a3,a4⟩:=posLoop (B:=x) (L:= -9223372036854775808) (st:=st11_3 [u]) (n:=(qfld u 1).toList.length) (enc:=fun left i=>[.int left, .int (i:Int)]) (fin:=fun r=>[.int 0, .int r]) (cs:=fun _=>0)
   (ok:=fun i=>x≤1500→(qfld ((qfld u 1).toList.getD i .other) 2).toList.length≤1000000)
   (fun i left hi hl hm=>by
    have hg:qget (qfld u 1) (i:Int)=(qfld u 1).toList[i]:=by rw[qget_n,getD_lt hi]
    have c0:=ed _ (List.getElem_mem hi)
    rw[getD_lt hi]
    generalize (qfld u 1).toList[i]=s at *
    have c2:Conf PG 46 (qfld s 2):=by rw[qfld_eq];exact conf_fldC fD2 c0
    obtain⟨l2,_⟩:=conf_el sD2 c2
    have hq:qbin .quo .i64 (qlen (qfld s 2)) 64=((qfld s 2).toList.length:Int)/64:=by rw[qlen_c];exact quo64 (by omega) (by unfold maxLen at l2;omega)
    have hs:qbin .sub .i64 left (((qfld s 2).toList.length:Int)/64)=left-((qfld s 2).toList.length:Int)/64:=sub64 (by unfold maxLen at l2;omega) (by omega)
    refine⟨left-((qfld s 2).toList.length:Int)/64,?_,by unfold maxLen at l2;omega,by omega,fun hr=>⟨fun hb=>by omega,by omega⟩⟩
    rw[st11_3_eq,hg,hq,hs,qlen_c,gate1 (by omega) hl,qinb_n hi]
    simp only[cond_true]
    rw[add_nat (by unfold maxLen at ld;omega)])
   e0 (qfld u 1).toList.length 0 x (by omega) hx.1 (by omega)
  simp only[Int.natCast_zero]at a1
  have hr0: -9223372036854775808≤r:=a2
  obtain⟨g,b1,b2,b3,b4⟩:=posLoop (B:=x) (L:= -9223372036854775808) (st:=st11_7 [u]) (n:=(qfld u 2).toList.length) (enc:=fun left i=>[.int left, .int (i:Int)]) (fin:=fun r=>[.int 0, .int r]) (cs:=fun _=>0)
   (ok:=fun i=>x≤1500→Fit (qfld ((qfld u 2).toList.getD i .other) 2)∧(qfld ((qfld u 2).toList.getD i .other) 1).toList.length≤1000000)
   (fun i left hi hl hm=>by
    have hg:qget (qfld u 2) (i:Int)=(qfld u 2).toList[i]:=by rw[qget_n,getD_lt hi]
    have c0:=ef _ (List.getElem_mem hi)
    rw[getD_lt hi]
    generalize (qfld u 2).toList[i]=f at *
    have c1:Conf PG 29 (qfld f 1):=by rw[qfld_eq];exact conf_fldC f38_1 c0
    have c2:Conf PG 59 (qfld f 2):=by rw[qfld_eq];exact conf_fldC f38_2 c0
    obtain⟨l1,_⟩:=conf_el s35 c1
    have hs:qbin .sub .i64 left (qlen (qfld f 1))=left-((qfld f 1).toList.length:Int):=by rw[qlen_c];exact sub64 (by unfold maxLen at l1;omega) (by omega)
    have key:∀r:Int,q30 [qfld f 2, .int (left-((qfld f 1).toList.length:Int))]=some [.int r]→st11_7 [u] [.int left, .int (i:Int)]=some (.inl [.int r, .int ((i+1:Nat):Int)]):=fun r e=>by
     rw[st11_7_eq,hg,hs,e,qlen_c,gate1 (by omega) hl,qinb_n hi]
     simp only[cond_true,qsome_s,qnth_s,List.getD_cons_zero,qint_i]
     rw[add_nat (by unfold maxLen at lf;omega)]
    by_cases hy:0≤left-((qfld f 1).toList.length:Int)
    ·obtain⟨r,u1,u2,u3,u4⟩:=q30_ok (B:=x) hx.2 c2 hy (by omega)
     refine⟨r,key r u1,by omega,by omega,fun hr=>⟨fun hb=>⟨fun M hM=> ?_,by omega⟩,by omega⟩⟩
     obtain⟨v1,v2⟩:=u4 hr (by omega) M hM
     exact⟨v1,by omega⟩
    ·refine⟨_,key _ (q30_neg (by omega)),by unfold maxLen at l1;omega,by omega,fun hr=>by omega⟩)
   e1 (qfld u 2).toList.length 0 r (by omega) hr0 a3
  simp only[Int.natCast_zero]at b1
  refine⟨decide (g≤0),?_,fun hb h0 h1 h2=> ?_⟩
  ·simp only[a1,b1,qsome_s,qnth_s,List.getD_cons_zero,List.getD_cons_succ,qint_i,cond_true,qcmp_leq]
  ·have hg:0<g:=by simpa using hb
   have h15:=hsm h0 h1 h2
   refine⟨fun y hy=> ?_,fun f hf=> ?_⟩
   ·obtain⟨j,hj,rfl⟩:=List.getElem_of_mem hy
    have:=(a4 (by omega)).1 j (Nat.zero_le _) hj h15
    rw[getD_lt hj]at this;exact this
   ·obtain⟨j,hj,rfl⟩:=List.getElem_of_mem hf
    have:=(b4 hg).1 j (Nat.zero_le _) hj h15
    rw[getD_lt hj]at this;exact this
 ·have a1:loW (st11_3 [u]) [.int x, .int 0]=some [.int 0, .int x]:=by
   have:=e0 0 x (.inr (by omega));simp only[Int.natCast_zero]at this;rw[loW_eq,this]
  have b1:loW (st11_7 [u]) [.int x, .int 0]=some [.int 0, .int x]:=by
   have:=e1 0 x (.inr (by omega));simp only[Int.natCast_zero]at this;rw[loW_eq,this]
  refine⟨true,?_,fun h=>by cases h⟩
  simp only[a1,b1,qsome_s,qnth_s,List.getD_cons_zero,List.getD_cons_succ,qint_i,cond_true,qcmp_leq,show x≤0 by omega,decide_true]
end Go.Proofs.YteccopaonadbeaaGreatDoor
namespace Go.Proofs.YteccopaonadbeaaGreatDoor
set_option linter.unusedSimpArgs false
set_option linter.unusedVariables false
open Go Go.AM
theorem secOf' {s:D} (hs:Conf PG 48 s) (hz:(qfld s 2).toList.length≤1000000):Sx.Sec s:=by
 have h1:=qrng_iff.1 (Go.AM.conf_int Sx.i24 (conf_fld Sx.f57_1 (qconf_iff.2 hs)))
 have h2:=Sx.conf_strlen (qconf_iff.1 (conf_fld Sx.f57_0 (qconf_iff.2 hs)))
 exact⟨h1.1,h1.2,by unfold Sx.lenD;omega,by unfold Sx.lenD;omega,h2⟩
theorem check_ok {u:D} (hu:Conf PG 33 u) (hf:(qfld u 0).toList.length≤256→(qfld u 1).toList.length≤16→(qfld u 2).toList.length≤64→Few u):∃e:Int,q26 [u]=some [.int e]∧(e=0→(qfld u 1).toList.length≤16∧Few u):=by
 by_cases h:(qfld u 0).toList.length≤256∧(qfld u 1).toList.length≤16∧(qfld u 2).toList.length≤64
 ·obtain⟨h0,h1,h2⟩:=h
  have few:=hf h0 h1 h2
  obtain⟨e1,_⟩:=unit_eq hu few.2 (by omega) (by omega) (by omega)
  exact⟨_,e1,fun _=>⟨h1,few⟩⟩
 ·refine⟨6,?_,fun h=>by cases h⟩
  rw[q26_eq,F26_eq]
  simp only[qlen_c,qcmp_gtr,qiteB_c]
  have hc:(bif (bif decide (256<((qfld u 0).toList.length:Int))then true else decide (16<((qfld u 1).toList.length:Int)))then true else decide (64<((qfld u 2).toList.length:Int)))=true:=by
   by_cases h0:256<((qfld u 0).toList.length:Int)
   ·simp[h0]
   ·by_cases h1:16<((qfld u 1).toList.length:Int)
    ·simp[h1]
    ·have h2:64<((qfld u 2).toList.length:Int):=by omega
     simp[h2]
  rw[hc];rfl
theorem clone64 {d:D} (h:d.toList.length≤1000000):q64 [d]=some [.list d.toList]:=by
 have h1:qapp (.list []) d = .list d.toList:=by
  rw[qapp_eq]
  show D.list ([]++d.toList) = .list d.toList
  rw[List.nil_append]
 have h2:([d]:List D).headD .other=d:=rfl
 rw[q64_eq];unfold F64
 rw[h2,h1,qlen_l,qmem_big (by omega) (by omega),cond_true]
theorem copies {l:D} (hl:l.toList.length≤16) (hd:∀x∈l.toList,(qfld x 2).toList.length≤1000000) (a b c:D) (n:Int):
 ∀(k i:Nat) (acc:List D),i+k=l.toList.length→acc.length=i→∃xs,loW (st31_9 [l, .int (qlen l),a,b,c, .int n]) [.int (i:Int), .list acc]=some [.int 0, .list xs]:=by
 intro k
 induction k with
 |zero=>
  intro i acc hi ha
  refine⟨acc,?_⟩
  rw[loW_eq,st31_9_eq,qlen_c l]
  simp only[qcmp_lss,show¬((i:Int)<(l.toList.length:Int))by omega,decide_false,cond_false]
 |succ k ih=>
  intro i acc hi ha
  have hlt:i<l.toList.length:=by omega
  have hg:qget l (i:Int)=l.toList[i]:=by rw[qget_n,getD_lt hlt]
  have hb:=hd _ (List.getElem_mem hlt)
  rw[loW_eq,st31_9_eq,hg,clone64 hb]
  have ih':=fun x:D=>ih (i+1) (acc ++ [x]) (by omega) (by simp[ha])
  rw[qlen_c l]at ih' ⊢
  have hq:∀x:D,qmem ((acc ++ [x]).length:Int) 56=true:=fun x=>qmem_big (by simp;omega) (by omega)
  simp only[qcmp_lss,show((i:Int)<(l.toList.length:Int))by omega,decide_true,cond_true,qinb_n hlt,qsome_s,qnth_s,List.getD_cons_zero,qapp_l,qlen_l,hq]
  rw[add_nat (by omega)]
  exact ih' _
theorem build {u:D} (hu:Conf PG 33 u) (hf:(qfld u 0).toList.length≤256→(qfld u 1).toList.length≤16→(qfld u 2).toList.length≤64→Few u):
 ∃e w:Int,q26 [u]=some [.int e]∧(e≠0→w=e)∧(e=0→q16 [qfld u 1]=some [.int w])∧
  ∃xs a b c,q31 [u]=some [.list xs,a,b,c, .int w]:=by
 obtain⟨e,h26,he⟩:=check_ok hu hf
 by_cases h0:e=0
 ·obtain⟨hl,few⟩:=he h0
  have cd:Conf PG 30 (qfld u 1):=by rw[qfld_eq];exact conf_fldC f197_1 hu
  obtain⟨ld,_,ed⟩:=conf_el s67 cd
  obtain⟨w,h16,_⟩:=Sx.sections_eq (l:=qfld u 1) ld (fun k hk=>by
   have hm:=List.getElem_mem hk
   rw[qget_n,getD_lt hk]
   exact secOf' (ed _ hm) (few.1 _ hm))
  refine⟨e,w,h26,fun h=>absurd h0 h,fun _=>h16,?_⟩
  have hz:qlen (.list [])=0:=by rw[qlen_l];rfl
  rw[q31_eq,F31_eq,h26,h16,h0]
  by_cases hw:w=0
  ·obtain⟨xs,hxs⟩:=copies hl few.1 (qfld u 0) (qfld u 1) (qfld u 2) w (qfld u 1).toList.length 0 [] (by omega) rfl
   simp only[Int.natCast_zero]at hxs
   refine⟨xs,qfld u 0,qfld u 1,qfld u 2,?_⟩
   simp only[qsome_s,qnth_s,List.getD_cons_zero,List.getD_cons_succ,qint_i,qcmp_neq,qcmp_eql,hw,decide_true,Bool.not_true,cond_false,cond_true,hz,l31_9_eq]
   rw[hw]at hxs
   rw[hxs]
   simp only[qsome_s,qnth_s,List.getD_cons_zero,List.getD_cons_succ,cond_true]
  ·refine⟨[],qfld u 0,qfld u 1,qfld u 2,?_⟩
   simp only[qsome_s,qnth_s,List.getD_cons_zero,List.getD_cons_succ,qint_i,qcmp_neq,qcmp_eql,hw,decide_true,decide_false,Bool.not_true,Bool.not_false,cond_false,cond_true,hz]
 ·refine⟨e,e,h26,fun _=>rfl,fun h=>absurd h h0,[],qfld u 0,qfld u 1,qfld u 2,?_⟩
  have hz:qlen (.list [])=0:=by rw[qlen_l];rfl
  rw[q31_eq,F31_eq,h26]
  simp only[qsome_s,qnth_s,List.getD_cons_zero,List.getD_cons_succ,qint_i,qcmp_neq,qcmp_eql,h0,decide_true,decide_false,Bool.not_true,Bool.not_false,cond_false,cond_true,hz]
theorem law7 {u:D} (hu:Conf PG 33 u):q7 [u]=some [.bool true]:=by
 obtain⟨b,h11,hb⟩:=large_ok hu
 rw[q7_eq,F7_eq,h11,q10_eq]
 cases b with
 |true=>simp only[qsome_s,qnth_s,List.getD_cons_zero,qbool_b,cond_true]
 |false=>
  obtain⟨e,w,h26,h1,h2,xs,a,b',c,h31⟩:=build hu (hb rfl)
  have hz:qlen (.list [])=0:=by rw[qlen_l];rfl
  have h19:∃y,q19 [u]=some [.int w,y]:=by
   rw[q19_eq,F19_eq,h31]
   by_cases hw:w=0
   ·exact⟨.list xs,by simp[qsome_s,qnth_s,qint_i,qcmp_neq,qcmp_eql,hw]⟩
   ·exact⟨.list [],by simp[qsome_s,qnth_s,qint_i,qcmp_neq,qcmp_eql,hw,hz]⟩
  obtain⟨y,h19⟩:=h19
  rw[h26,h19]
  have hwant:(bif decide (e=0)then qint (qnth (q16 [qfld u 1]) 0)else e)=w:=by
   by_cases h0:e=0
   ·rw[h2 h0];simp[h0,qnth_s,qint_i]
   ·simp[h0,h1 h0]
  have h16s:qiteB (decide (e=0)) (qsome (q16 [qfld u 1])) true=true:=by
   rw[qiteB_c]
   by_cases h0:e=0
   ·rw[h2 h0];simp[h0,qsome_s]
   ·simp[h0]
  simp only[qsome_s,qnth_s,List.getD_cons_zero,List.getD_cons_succ,qbool_b,cond_true,cond_false,qint_i,qcmp_eql,qcmp_neq,h16s]
  have hqI:qiteI (decide (e=0)) (qint (qnth (q16 [qfld u 1]) 0)) e=w:=by rw[qiteI_eq];exact hwant
  rw[hqI]
  by_cases hw:w=0
  ·simp[hw]
  ·have h33:q33 [.list xs,a,b',c, .int 0, .int 0, .int w]=some []:=by rw[q33_eq,F33_eq];simp[qcmp_eql,hw]
   have h34:q34 [.list xs,a,b',c, .int 0, .int 0, .int w]=some []:=by rw[q34_eq,F34_eq];simp[qcmp_eql,hw]
   have h21:q21 [u]=some [.int 0, .int w]:=by
    rw[q21_eq,F21_eq,h31]
    simp only[qsome_s,qnth_s,List.getD_cons_zero,List.getD_cons_succ,qint_i,qcmp_neq,qcmp_eql,hw,decide_true,decide_false,Bool.not_false,cond_true,h33]
   have h23:q23 [u]=some [.int 0, .int w]:=by
    rw[q23_eq,F23_eq,h31]
    simp only[qsome_s,qnth_s,List.getD_cons_zero,List.getD_cons_succ,qint_i,qcmp_neq,qcmp_eql,hw,decide_true,decide_false,Bool.not_false,cond_true,h33,h34]
   have h12:∃o,q12 [u]=some [o, .int w]:=by
    refine⟨D.agg [.int 0, .list [], .list [], .list []],?_⟩
    rw[q12_eq,F12_eq,h31]
    simp only[qsome_s,qnth_s,List.getD_cons_zero,List.getD_cons_succ,qint_i,qcmp_neq,qcmp_eql,hw,decide_true,decide_false,Bool.not_false,cond_true,h33,h34]
   obtain⟨o,h12⟩:=h12
   rw[h21,h23,h12]
   simp[qsome_s,qnth_s,qint_i,qiteB_c,hw]
end Go.Proofs.YteccopaonadbeaaGreatDoor
namespace Go.Proofs.YteccopaonadbeaaGreatDoor
open Go Go.AM
set_option maxRecDepth 100000
def isLitV:AV→Bool
 | .ui _ _=>true
 | .ub _=>true
 |_=>false
def litV:AV→Value
 | .ui k n=> .int k n
 | .ub b=> .bool b
 |_=> .bool false
theorem repL_lits {ρ:Nat→Option Nat} {E:Nat→Prop} {w:World}:∀(l:List AV) (cs:List Value),l.all isLitV=true→RepL ρ E w l cs→cs=l.map litV
 | [],cs,_,h=>by simpa[RepL]using h
 |c::l,cs,hl,h=>by
  simp only[List.all_cons,Bool.and_eq_true]at hl
  simp only[RepL]at h
  obtain⟨v,vs,rfl,h1,h2⟩:=h
  rw[repL_lits l vs hl.2 h2]
  cases c<;>simp only[isLitV]at hl<;>first|(cases hl.1;done)|skip
  all_goals (simp only[Rep]at h1;subst h1;rfl)
theorem okT:okTypes PG=true:=by kernel_rfl
theorem pg:PG=Tryz.prog:=by unfold PG;rfl
theorem arr_len {H:Type} {enc:TypeId×Value→H} {P:Program} {w:World} {base:Nat} {sp:Nat→Bool} {held:Bool} {fuel:Nat} {t e:TypeId} {n:Nat} {cs:List Value} {d:DataW H} {p:List MemPlace}
 (ht:P.underlying t=some (.array n e)) (h:DataW.trod enc P w base sp held fuel t cs=some (d,p)):cs.length=P.cellsOf t:=by
 cases fuel with
 |zero=>simp[DataW.trod]at h
 |succ fuel=>
  simp only[DataW.trod,ht]at h
  split at h
  ·rename_i hl
   exact hl
  ·cases h
theorem cs_of_laid {w:World} {fuel:Nat} {t e:TypeId} {n:Nat} {cs:List Value} {d:DataW Unit} {p:List MemPlace} {enc:TypeId×Value→Unit} {held:Bool}
 (ht:Tryz.prog.underlying t=some (.array n e)) (hs:t<Tryz.prog.types.size) (hl:layOk PG 8 t=true) (hlit:(cellsT 8 t (toD d)).all isLitV=true)
 (h:DataW.trod enc Tryz.prog w 0 (fun _=>true) held fuel t cs=some (d,p)):cs=(cellsT 8 t (toD d)).map litV:=by
 have hlen:=arr_len ht h
 have h':DataW.trod enc PG w 0 (fun _=>true) held fuel t cs=some (d,p):=by rw[pg];exact h
 obtain⟨hr,_⟩:=trod_rep (P:=PG) okT fuel t cs d p h' (by rw[pg];exact hlen) (by rw[pg];exact hs)
 exact repL_lits _ _ hlit (cellsT_rep (ρ:=nowhere) 8 t (toD d) cs hl hr)
theorem cells217 (d:D):cellsT 8 217 d=(List.range 256).map fun i=> .ui .u8 (qint (qfld d i)):=by kernel_rfl
theorem lit217 (d:D):(cellsT 8 217 d).all isLitV=true:=by rw[cells217];kernel_rfl
theorem int_un (d:D):qint d=d.toInt:=by rw[qint_eq]
def tabCells (g:Nat):List Value:=((findG g GLT).getD []).map fun a=>match a with | .sc v=>v|_=> .bool false
theorem vals0:(cellsT 8 217 (toD (Rows.laid_strings_asciiSpace (H:=Unit)))).map litV=tabCells 0:=by
 rw[cells217];simp only[int_un,qfld_eq];kernel_rfl
theorem glob0:Tryz.prog.globalNamed "strings.asciiSpace" = some 0:=by kernel_rfl
theorem gty0:(Tryz.prog.globals[0]?).map (·.type)=some 217:=by kernel_rfl
theorem var_of {W:World} {name:String} {d:DataW Unit} {g t e n:Nat} {rest:List (String×DataW Unit)} (hg:Tryz.prog.globalNamed name=some g) (hty:(Tryz.prog.globals[g]?).map (·.type)=some t) (ht:Tryz.prog.underlying t=some (.array n e)) (hs:t<Tryz.prog.types.size)
 (hl:layOk PG 8 t=true) (hlit:(cellsT 8 t (toD d)).all isLitV=true) (h:laidMet Tryz.prog ((name,d)::rest) W):∃cs:Array Value,W.var? Tryz.prog name=some cs∧cs.toList=(cellsT 8 t (toD d)).map litV:=by
 obtain⟨ps,⟨g',t',cs,fuel,p,q,hg',ht',hvar,hd,_,_⟩,_⟩:=h
 obtain rfl:=Option.some.inj (hg.symm.trans hg')
 obtain rfl:=Option.some.inj (hty.symm.trans ht')
 exact⟨cs,hvar,cs_of_laid ht hs hl hlit hd⟩
theorem var?_all {W:World} {g:Nat} {name:String} {cs:Array Value} {vs:List Value} (hg:Tryz.prog.globalNamed name=some g) (hvar:W.var? Tryz.prog name=some cs) (he:cs.toList=vs):∃c T f,W.heap[g]? = some (.cells c T f)∧c.size=(vs.map AV.sc).length:=by
 simp only[World.var?,hg,Option.bind_some]at hvar
 split at hvar
 ·rename_i c T f hh
  cases hvar
  exact⟨_,_,_,hh,by rw[List.length_map, ← he,Array.length_toList]⟩
 ·cases hvar
theorem repAt_of {W:World} {E:Nat→Prop} {g:Nat} {name:String} {cs:Array Value} {vs:List Value} (hg:Tryz.prog.globalNamed name=some g) (hvar:W.var? Tryz.prog name=some cs) (he:cs.toList=vs) (h0:0<vs.length):g<W.heap.size∧GlRep E W g (vs.map AV.sc):=by
 have hc:∀(i:Nat),W.cell? ⟨g,i,none⟩=vs[i]? :=fun i=>by rw[World.var?_cell hg hvar i, ← he,Array.getElem?_toList]
 refine⟨?_,RepAt.ofL (RepL.sc vs) fun j u hu=>by rw[Nat.zero_add,hc];exact hu,fun _=>var?_all hg hvar he⟩
 by_cases hlt:g<W.heap.size
 ·exact hlt
 ·exfalso
  have h1:W.heap[g]? = none:=Array.getElem?_eq_none (by omega)
  have h2:=hc 0
  rw[List.getElem?_eq_getElem h0]at h2
  simp[World.cell?,h1]at h2
theorem maxLen (W:World) (h:W.ShapedOpen Tryz.prog):∃m,W.cell? ⟨2,0,none⟩=some (.int .i64 m):=
 cell_of_shapedOpen_int (P:=Tryz.prog) (t:=3) (zero:= #[.int .i64 0]) h (of_decide_eq_true (by kernel_rfl)) (by kernel_rfl) (by kernel_rfl) (by kernel_rfl) (by kernel_rfl) Tryz.underlying3
theorem tabs {W:World} {E:Nat→Prop} {l:List (String×DataW Unit)} (hl:l=Rows.compileStartsRow.laid) (h:laidMetH Tryz.prog l W) (hsh:W.ShapedOpen Tryz.prog) {S:FunS} {p s:List D} (g:Nat) (cs:List AV) (hgl:(heapF S p s).glob g=some cs):g<W.heap.size∧GlRep E W g cs:=by
 subst hl
 have hp:∀g,(heapF S p s).glob g=findG g GLT:=fun _=>rfl
 rw[hp]at hgl
 cases g with
 |zero=>
  have hf:=laidMetH.filter (fun x=>x.1 == "strings.asciiSpace") h
  have e:Rows.compileStartsRow.laid.filter (fun x=>x.1 == "strings.asciiSpace") = [("strings.asciiSpace",Rows.laid_strings_asciiSpace)]:=by rfl
  rw[e,MakeChecks.laidMetH_plain _ _ _ (by kernel_rfl)]at hf
  obtain⟨a,h1,h2⟩:=var_of glob0 gty0 Tryz.underlying217 (of_decide_eq_true (by kernel_rfl)) (by kernel_rfl) (lit217 _) hf
  rw[vals0]at h2
  have:=repAt_of (E:=E) glob0 h1 h2 (of_decide_eq_true (by kernel_rfl))
  have e2:findG 0 GLT=some ((tabCells 0).map AV.sc):=by kernel_rfl
  rw[e2]at hgl
  cases hgl
  exact this
 |succ g=>
  cases g with
  |zero=>
   have e2:findG (0+1) GLT=none:=rfl
   rw[e2]at hgl;cases hgl
  |succ g=>
   cases g with
   |zero=>
    obtain⟨m,hm⟩:=maxLen W hsh
    have e2:findG (0+1+1) GLT=some [.anyI .i64]:=by rfl
    rw[e2]at hgl
    cases hgl
    refine⟨?_,?_⟩
    ·by_cases h0:2<W.heap.size
     ·exact h0
     ·exfalso
      have:W.heap[2]? = none:=Array.getElem?_eq_none (by omega)
      simp[World.cell?,this]at hm
    ·refine⟨?_,fun h=>by cases h⟩
     simp only[RepAt]
     exact⟨⟨_,hm,by simp only[Rep];exact⟨m,rfl⟩⟩,trivial⟩
   |succ g=>
    have e2:findG (g+1+1+1) GLT=none:=rfl
    rw[e2]at hgl;cases hgl
end Go.Proofs.YteccopaonadbeaaGreatDoor
namespace Go.Proofs.YteccopaonadbeaaGreatDoor
open Go Go.AM
theorem sound7:SoundF env.P 7 S7 q7:=by rw[q7_eq];exact liftX_sound envOk2 ok_tb10 60 12
theorem top7 {d0:D} (c0:Conf PG 33 d0) (w:World) {v0:Value} (r0:Rep nowhere (fun b=>b<w.heap.size) w (.dat 33 d0) v0) (hL:laidMetH Tryz.prog Rows.compileErrorsRow.laid w) (hsh:w.ShapedOpen Tryz.prog):
 Calls Tryz.prog 7 #[v0] w fun e w'=>e = .returned (.bool true)∧RowKit.Below w.heap.size w w':=by
 refine(sound7 [] [d0] [.bool true] rfl (law7 c0) (fun b=>b<w.heap.size) w nowhere _ w #[v0] (Inv.empty w _ (fun _ h=>h) rfl rfl (fun g cs h=>tabs rfl hL hsh g cs h))
  (RepL.cons r0 RepL.nil)).mono ?_
 rintro e w' ⟨u,ρ',E',rfl,inv,reach,rep⟩
 have hr:resF S7 [] (bdL [.bool true]) = .ub true:=rfl
 rw[hr]at rep
 simp only[Rep]at rep
 subst rep
 exact⟨rfl,⟨inv.io.1,inv.io.2.1,inv.io.2.2,reach.size,inv.old⟩⟩
end Go.Proofs.YteccopaonadbeaaGreatDoor
