/-
  Plain laws: what is not known, unveiled; loops over numbers.
-/
import Derived.Test.YteccopaonadbeaaGreatDoorAmS
import Derived.Test.YteccopaonadbeaaGreatDoorM1
import Derived.Test.YteccopaonadbeaaGreatDoorM2
set_option linter.unusedVariables false
set_option linter.unusedSimpArgs false
namespace Go.AM
theorem qsome_s (r:List D):qsome (some r)=true:=by rw[qsome_eq];rfl
theorem qsome_n:qsome none=false:=by rw[qsome_eq];rfl
theorem qnth_s (r:List D) (j:Nat):qnth (some r) j=r.getD j .other:=by rw[qnth_eq];rfl
theorem qint_i (n:Int):qint (.int n)=n:=by rw[qint_eq];rfl
theorem qbool_b (b:Bool):qbool (.bool b)=b:=by rw[qbool_eq];rfl
theorem qstr_s (s:ByteArray):qstr (.str s)=s:=by rw[qstr_eq];rfl
theorem qcmp_lss (a b:Int):qcmp .lss a b=decide (a<b):=by rw[qcmp_eq];rfl
theorem qcmp_leq (a b:Int):qcmp .leq a b=decide (a≤b):=by rw[qcmp_eq];rfl
theorem qcmp_gtr (a b:Int):qcmp .gtr a b=decide (b<a):=by rw[qcmp_eq];rfl
theorem qcmp_geq (a b:Int):qcmp .geq a b=decide (b≤a):=by rw[qcmp_eq];rfl
theorem qcmp_eql (a b:Int):qcmp .eql a b=decide (a=b):=by rw[qcmp_eq];simp only[rcmp];cases h:decide (a=b)<;>simp_all
theorem qcmp_neq (a b:Int):qcmp .neq a b = !decide (a=b):=by rw[qcmp_eq];simp only[rcmp,bne];cases h:decide (a=b)<;>simp_all
theorem qiteB_c (c a b:Bool):qiteB c a b=bif c then a else b:=by rw[qiteB_eq]
theorem qnot_c (a:Bool):qnot a = !a:=by rw[qnot_eq]
theorem qlen_c (d:D):qlen d=(d.toList.length:Int):=by rw[qlen_eq];rfl
theorem qinb_c (d:D) (i:Int):qinb d i=(decide (0≤i)&&decide (i<d.toList.length)):=by rw[qinb_eq];rfl
theorem qget_n (d:D) (i:Nat):qget d (i:Int)=d.toList.getD i .other:=by rw[qget_eq];simp[D.get]
theorem qinb_n {d:D} {i:Nat} (h:i<d.toList.length):qinb d (i:Int)=true:=by rw[qinb_c];simp;omega
def srch {R:Type} (f:Nat→Option R) (r0:R):Nat→Nat→R
 |_,0=>r0
 |i,k+1=>match f i with
  |none=>srch f r0 (i+1) k
  |some r=>r
theorem getD_lt {xs:List D} {i:Nat} (h:i<xs.length):xs.getD i .other=xs[i]:=by simp[List.getD,h]
theorem add_nat {i:Nat} (h:i<9223372036854775807):qbin .add .i64 (i:Int) 1=((i+1:Nat):Int):=by
 rw[add64 (by omega) (by omega)];omega
theorem idxLoop {st:List D→Option (Sum (List D) (List D))} {l:D} {c:D→Option (List D)} {p:D→Bool} {r1:Int→List D} {r0:List D}
 (hst:∀i:Int,st [.int i]=bif qcmp .lss i (qlen l)then bif qinb l i then bif qsome (c (qget l i))then bif qbool (qnth (c (qget l i)) 0)then some (.inr (r1 i))else some (.inl [.int (qbin .add .i64 i 1)])else none else none else some (.inr r0))
 (hl:l.toList.length≤maxLen) (hc:∀x∈l.toList,c x=some [.bool (p x)]):
 (loW st [.int 0]=some r0∧l.toList.any p=false)∨∃i:Nat,loW st [.int 0]=some (r1 i)∧l.toList.any p=true:=by
 unfold maxLen at hl
 have key:∀k i:Nat,i+k=l.toList.length→(loW st [.int i]=some r0∧(l.toList.drop i).any p=false)∨∃j:Nat,loW st [.int i]=some (r1 j)∧(l.toList.drop i).any p=true:=by
  intro k
  induction k with
  |zero=>
   intro i hi
   left
   rw[loW_eq,hst,qcmp_lss,qlen_c,List.drop_of_length_le (by omega)]
   simp[show¬((i:Int)<l.toList.length)by omega]
  |succ k ih=>
   intro i hi
   have hlt:i<l.toList.length:=by omega
   rw[loW_eq,hst,qcmp_lss,qlen_c,qinb_n hlt,qget_n,getD_lt hlt,hc _ (List.getElem_mem hlt),List.drop_eq_getElem_cons hlt]
   simp only[show((i:Int)<l.toList.length)by omega,decide_true,cond_true,qsome_s,qnth_s,List.getD_cons_zero,qbool_b,List.any_cons]
   cases hp:p l.toList[i]with
   |true=>exact .inr ⟨i,rfl,by simp⟩
   |false=>
    simp only[cond_false,Bool.false_or]
    rw[add_nat (by omega)]
    exact ih (i+1) (by omega)
 have:=key l.toList.length 0 (by omega)
 simpa using this
theorem size_elem {d:D} {j:Nat} {x:D} (h:x∈(d.fld j).toList):x.size<d.size:=by
 cases d with
 |agg xs=>
  simp only[D.fld,List.getD]at h
  cases hx:xs[j]? with
  |none=>rw[hx]at h;simp[D.toList]at h
  |some y=>
   rw[hx]at h
   simp only[Option.getD_some]at h
   have h1:=sizes_get hx
   cases y with
   |list ys=>
    simp only[D.toList]at h
    obtain⟨i,hi⟩:=List.getElem?_of_mem h
    have h2:=sizes_get hi
    simp only[D.size]at h1 ⊢
    omega
   |_=>simp[D.toList]at h
 |_=>simp[D.fld,D.toList]at h
end Go.AM
namespace Go.Proofs.YteccopaonadbeaaGreatDoor
set_option linter.unusedSimpArgs false
open Go Go.AM
theorem decode_lo {s:ByteArray} {i:Nat} (h:(s.get! i).toNat<128):(Utf8.decode s i)=((s.get! i).toNat,1):=by
 unfold Utf8.decode;simp[h]
theorem decode_hi {s:ByteArray} {i:Nat} (h:¬(s.get! i).toNat<128):128≤(Utf8.decode s i).1:=by
 unfold Utf8.decode;simp only[Nat.add_zero,h,if_false,Utf8.runeError]
 repeat' split
 all_goals simp_all
 all_goals omega
def okI (i:Nat) (r:Int):Bool:=(decide (97≤r)&&decide (r≤122))||(decide (65≤r)&&decide (r≤90))||decide (r=95)||decide (r=46)||(!(decide ((i:Int)=0)) && !(decide (r<48)) && !(decide (57<r)))
theorem okI_hi {i:Nat} {r:Int} (h:128≤r):okI i r=false:=by
 unfold okI
 simp only[show¬r≤122 by omega,show¬r≤90 by omega,show¬r=95 by omega,show¬r=46 by omega,show 57<r by omega,decide_false,decide_true,Bool.and_false,Bool.or_false,Bool.not_true]
theorem cnd (i:Nat) (r:Int):qiteB (qnot (qiteB (qiteB (qiteB (qiteB (qcmp BinOp.geq r 97) (qcmp BinOp.leq r 122) Bool.false) Bool.true (qiteB (qcmp BinOp.geq r 65) (qcmp BinOp.leq r 90) Bool.false)) Bool.true (qcmp BinOp.eql r 95)) Bool.true (qcmp BinOp.eql r 46))) (qiteB (qiteB (qcmp BinOp.eql (i:Int) 0) Bool.true (qcmp BinOp.lss r 48)) Bool.true (qcmp BinOp.gtr r 57)) Bool.false = !(okI i r):=by
 simp only[qiteB_c,qnot_c,qcmp_geq,qcmp_leq,qcmp_eql,qcmp_lss,qcmp_gtr,okI]
 generalize decide (97≤r)=a1
 generalize decide (r≤122)=a2
 generalize decide (65≤r)=a3
 generalize decide (r≤90)=a4
 generalize decide (r=95)=a5
 generalize decide (r=46)=a6
 generalize decide ((i:Int)=0)=a7
 generalize decide (r<48)=a8
 generalize decide (57<r)=a9
 revert a1 a2 a3 a4 a5 a6 a7 a8 a9
 decide
def byt (s:ByteArray) (i:Nat):Int:=(s.data.toList.getD i 0).toNat
theorem byt_get {s:ByteArray} {i:Nat} (h:i<s.size):((s.get! i).toNat:Int)=byt s i:=by
 have h1:i<s.data.toList.length:=by simpa using h
 have h2:i<s.data.size:=h
 unfold byt
 cases s with|mk bs=>simp only[ByteArray.get!,List.getD,getElem!_pos,h2];simp[h2]
theorem idxS {s:ByteArray} {i:Nat}:qidxS s (i:Int)=byt s i:=by rw[qidxS_eq];simp[ridxS,byt,ByteArray.toList_eq]
theorem inbS {s:ByteArray} {i:Nat} (h:i<s.size):qinbS s (i:Int)=true:=by rw[qinbS_eq];simp only[rinbS];simp[h]
theorem lenS (s:ByteArray):qlenS s=(s.size:Int):=by rw[qlenS_eq]
def okF (s:ByteArray):Nat→Nat→Bool
 |_,0=>true
 |i,k+1=>okI i (byt s i)&&okF s (i+1) k
theorem loop139 {s:ByteArray}:∀(k i:Nat),i+k=s.size→∃m,loW (st59_2 [.str s, .str s]) [.int i]=some [.int (bif okF s i k then 0 else 1),m]:=by
 intro k
 induction k with
 |zero=>
  intro i hi
  rw[loW_eq,st59_2_eq,lenS,qcmp_lss]
  simp only[show¬((i:Int)<s.size)by omega,decide_false,cond_false,cond_true,okF]
  exact⟨_,rfl⟩
 |succ k ih=>
  intro i hi
  have hlt:i<s.size:=by omega
  rw[loW_eq,st59_2_eq,lenS,qcmp_lss,cnd]
  simp only[show((i:Int)<s.size)by omega,decide_true,cond_true,okF]
  have hr:okI i (qrune s i)=okI i (byt s i):=by
   rw[qrune,veil_eq]
   simp only[Int.toNat_natCast]
   by_cases h:(s.get! i).toNat<128
   ·rw[decode_lo h,byt_get hlt]
   ·rw[okI_hi (by have:=decode_hi h;omega),okI_hi (by rw[← byt_get hlt];omega)]
  rw[hr]
  cases ho:okI i (byt s i)with
  |false=>simp only[Bool.not_false,cond_true,Bool.false_and,cond_false];exact⟨_,rfl⟩
  |true=>
   have hb:(s.get! i).toNat<128:=by
    by_cases h:(s.get! i).toNat<128
    ·exact h
    ·rw[okI_hi (by rw[← byt_get hlt];omega)]at ho;cases ho
   have hw:qiteI true (qrw s i) i=((i+1:Nat):Int):=by
    rw[qiteI_eq,qrw,veil_eq]
    simp only[cond_true,Int.toNat_natCast,decode_lo hb];omega
   simp only[Bool.not_true,cond_false,Bool.true_and,hw]
   exact ih (i+1) (by omega)
theorem loop164 {s:ByteArray} (hs:s.size≤maxLen):∀(k i:Nat),i+k=s.size→loW (st86_2 [.str s]) [.int i]=some [.int (bif okF s i k then 0 else 1)]:=by
 unfold maxLen at hs
 intro k
 induction k with
 |zero=>
  intro i hi
  rw[loW_eq,st86_2_eq,lenS,qcmp_lss]
  simp only[show¬((i:Int)<s.size)by omega,decide_false,cond_false,cond_true,okF]
 |succ k ih=>
  intro i hi
  have hlt:i<s.size:=by omega
  rw[loW_eq,st86_2_eq,lenS,qcmp_lss,cnd,idxS,inbS hlt]
  simp only[show((i:Int)<s.size)by omega,decide_true,cond_true,okF]
  cases ho:okI i (byt s i)with
  |false=>simp only[Bool.not_false,cond_true,Bool.false_and,cond_false]
  |true=>
   simp only[Bool.not_true,cond_false,Bool.true_and]
   rw[add_nat (by omega)]
   exact ih (i+1) (by omega)
def joinW:List (List UInt8)→List UInt8
 | []=>[]
 |w::ws=>w++32::joinW ws
theorem pre_word:∀(s w r:List UInt8),32 ∉ s→32 ∉ w→(s ++ [32]).isPrefixOf (w++32::r)=(w==s)
 | [],[],r,_,_=>by simp[List.isPrefixOf]
 | [],x::w,r,_,hw=>by
   have:¬(32:UInt8)=x:=fun e=>hw (by simp[e])
   simp[List.isPrefixOf,this]
 |y::s,[],r,hs,_=>by
  have:¬y=(32:UInt8):=fun e=>hs (by simp[e])
  simp[List.isPrefixOf,this]
 |y::s,x::w,r,hs,hw=>by
  have ih:=pre_word s w r (fun h=>hs (by simp[h])) (fun h=>hw (by simp[h]))
  simp only[List.cons_append,List.isPrefixOf,ih]
  by_cases h:x=y
  ·subst h;simp
  ·rw[show(y==x)=false from beq_false_of_ne fun e=>h e.symm]
   symm
   simp[h]
theorem sub_skip:∀(w r t:List UInt8),32 ∉ w→subT (w++r) (32::t)=subT r (32::t)
 | [],r,t,_=>rfl
 |x::w,r,t,hw=>by
  have h:¬(32:UInt8)=x:=fun e=>hw (by simp[e])
  have ih:=sub_skip w r t (fun h=>hw (by simp[h]))
  rw[List.cons_append,subT,ih]
  simp[List.isPrefixOf,h]
theorem sub_words (s:List UInt8) (hs:32 ∉ s):∀ws:List (List UInt8),(∀w∈ws,32 ∉ w)→subT (32::joinW ws) (32::(s ++ [32]))=ws.any (· == s)
 | [],_=>by
   cases s with
   |nil=>rfl
   |cons y s=>simp[joinW,subT,List.isPrefixOf]
 |w::ws,h=>by
  have ih:=sub_words s hs ws fun x hx=>h x (by simp[hx])
  have hw:=h w (by simp)
  rw[subT,joinW,sub_skip w _ _ hw,ih]
  simp only[List.isPrefixOf,beq_self_eq_true,Bool.true_and,pre_word s w _ hs hw,List.any_cons]
theorem okF_all {s:ByteArray}:∀(k i:Nat),okF s i k=true→∀j,i≤j→j<i+k→okI j (byt s j)=true
 |0,i,_,j,h1,h2=>by omega
 |k+1,i,h,j,h1,h2=>by
  simp only[okF,Bool.and_eq_true]at h
  by_cases e:j=i
  ·subst e;exact h.1
  ·exact okF_all k (i+1) h.2 j (by omega) (by omega)
theorem okF_no32 {s:ByteArray} (h:okF s 0 s.size=true):32 ∉ s.data.toList:=by
 intro hm
 obtain⟨j,hj⟩:=List.getElem?_of_mem hm
 have hlt:j<s.data.toList.length:=(List.getElem?_eq_some_iff.1 hj).1
 have hb:byt s j=32:=by unfold byt;simp[List.getD,hj]
 have h1:=okF_all s.size 0 h j (by omega) (by simpa using hlt)
 rw[hb]at h1
 revert h1
 simp only[okI,decide_true,decide_false,show¬(97:Int)≤32 by omega,show¬(65:Int)≤32 by omega,show¬(32:Int)=95 by omega,show¬(32:Int)=46 by omega,show(32:Int)<48 by omega]
 simp
theorem wordsD:∃ws,q148 []=some [.list ws]∧ws.length≤100∧(∀w∈ws,32 ∉ (qstr w).data.toList)∧
 (ByteArray.mk #[32,98,114,101,97,107,32,99,97,108,108,32,99,97,115,101,32,99,111,110,116,105,110,117,101,32,100,97,116,97,32,101,108,115,101,32,101,120,101,99,32,102,117,110,99,32,103,111,116,111,32,104,97,108,116,32,105,102,32,105,110,32,108,111,111,112,32,111,117,116,32,114,101,116,117,114,110,32,115,119,105,116,99,104,32,118,97,114,32,119,104,105,108,101,32,119,114,105,116,101,32,108,111,97,100,49,32,108,111,97,100,50,32,108,111,97,100,52,32,115,101,120,116,49,32,115,101,120,116,50,32,115,116,111,114,101,49,32,115,116,111,114,101,50,32,115,116,111,114,101,52,32]).data.toList=32::joinW (ws.map fun d=>(qstr d).data.toList):=by
 refine⟨_,by rw[q148_eq,F148_eq],by decide,?_,?_⟩
 ·intro w hw
  simp only[List.mem_cons,List.not_mem_nil,or_false]at hw
  rcases hw with rfl|rfl|rfl|rfl|rfl|rfl|rfl|rfl|rfl|rfl|rfl|rfl|rfl|rfl|rfl|rfl|rfl|rfl|rfl|rfl|rfl|rfl|rfl|rfl|rfl|rfl|rfl<;>rw[qstr_s]<;>decide
 ·simp only[List.map_cons,List.map_nil,qstr_s];decide
theorem cmpS_eql (a b:ByteArray):qcmpS .eql a b=(a.data.toList==b.data.toList):=by rw[qcmpS_eq];simp only[rcmpS,ByteArray.toList_eq]
theorem cmpS_neq (a b:ByteArray):qcmpS .neq a b = !(a.data.toList==b.data.toList):=by rw[qcmpS_eq];simp only[rcmpS,ByteArray.toList_eq]
theorem any_words {s:ByteArray} {ws:List D} (hl:ws.length≤100):l86_10 [.str s, .list ws] [.int 0]=some [.int (if ws.any (fun d=>(qstr d).data.toList==s.data.toList)then 1 else 0)]:=by
 rw[l86_10_eq]
 have hloop:=idxLoop (st:=st86_10 [.str s, .list ws]) (l:= .list ws) (c:=fun x=>some [.bool (qcmpS .eql (qstr x) s)]) (p:=fun d=>(qstr d).data.toList==s.data.toList) (r1:=fun _=>[.int 1]) (r0:=[.int 0])
  (fun i=>by rw[st86_10_eq];simp only[qsome_s,qnth_s,List.getD_cons_zero,qbool_b,cond_true]) (by unfold maxLen;simp only[D.toList];omega) (fun x _=>by rw[cmpS_eql])
 simp only[D.toList]at hloop
 rcases hloop with⟨h1,h2⟩|⟨i,h1,h2⟩
 ·simp only[h1,h2];rfl
 ·simp only[h1,h2];rfl
theorem name_spec {s:ByteArray} (hs:s.size≤maxLen):∃b,q59 [.str s]=some [.bool b]∧q86 [.str s]=some [.bool b]:=by
 obtain⟨m,h1⟩:=loop139 (s:=s) s.size 0 (by omega)
 have h2:=loop164 hs s.size 0 (by omega)
 simp only[Int.natCast_zero]at h1 h2
 obtain⟨ws,w1,w2,w3,w4⟩:=wordsD
 have e1:l59_2 [.str s, .str s] [.int 0]=some [.int (bif okF s 0 s.size then 0 else 1),m]:=by rw[l59_2_eq];exact h1
 have e2:l86_2 [.str s] [.int 0]=some [.int (bif okF s 0 s.size then 0 else 1)]:=by rw[l86_2_eq];exact h2
 rw[q59_eq,F59_eq,q86_eq,F86_eq,e1,e2,w1]
 simp only[qsome_s,qnth_s,List.getD_cons_zero,qint_i,cond_true,any_words w2]
 cases ho:okF s 0 s.size with
 |false=>exact⟨false,by simp[qcmp_eql],by simp[qcmp_eql]⟩
 |true=>
  simp only[qcmp_eql,decide_true,cond_true,qiteB_c,qcmp_leq,qcmp_gtr,lenS,cmpS_neq]
  have hn:=okF_no32 ho
  have hh:qhas (ByteArray.mk #[32,98,114,101,97,107,32,99,97,108,108,32,99,97,115,101,32,99,111,110,116,105,110,117,101,32,100,97,116,97,32,101,108,115,101,32,101,120,101,99,32,102,117,110,99,32,103,111,116,111,32,104,97,108,116,32,105,102,32,105,110,32,108,111,111,112,32,111,117,116,32,114,101,116,117,114,110,32,115,119,105,116,99,104,32,118,97,114,32,119,104,105,108,101,32,119,114,105,116,101,32,108,111,97,100,49,32,108,111,97,100,50,32,108,111,97,100,52,32,115,101,120,116,49,32,115,101,120,116,50,32,115,116,111,114,101,49,32,115,116,111,114,101,50,32,115,116,111,114,101,52,32]) (qcat (qcat (ByteArray.mk #[32]) s) (ByteArray.mk #[32]))=ws.any (fun d=>(qstr d).data.toList==s.data.toList):=by
   rw[qhas_eq,qcat_eq]
   have ht:((ByteArray.mk #[32]++s)++ByteArray.mk #[32]).data.toList=32::(s.data.toList ++ [32]):=by simp
   show subT _ (((ByteArray.mk #[32]++s)++ByteArray.mk #[32]).data.toList)=_
   rw[w4,ht,sub_words _ hn _ (fun w hw=>by obtain⟨d,hd,rfl⟩:=List.mem_map.1 hw;exact w3 d hd),List.any_map]
   rfl
  simp only[hh]
  have hz:(s.data.toList==(ByteArray.mk #[]).data.toList)=decide (s.size=0):=by
   rw[Bool.eq_iff_iff]
   simp only[beq_iff_eq,decide_eq_true_eq]
   show s.data.toList = []↔s.data.size=0
   rw[← Array.length_toList,List.length_eq_zero_iff]
  rw[hz]
  have hcat:decide (s.size=0)=false→decide ((s.size:Int)≤32)=true→(qand (qcatOk (ByteArray.mk #[32]) s) (qcatOk (qcat (ByteArray.mk #[32]) s) (ByteArray.mk #[32])))=true:=by
   intro _ h
   have h:(s.size:Int)≤32:=by simpa using h
   rw[qand_eq,qcatOk_eq,qcat_eq]
   simp only[Bool.and_eq_true,decide_eq_true_eq]
   have:(ByteArray.mk #[32]++s).size=1+s.size:=by rw[ByteArray.size_append];rfl
   rw[this]
   have:(ByteArray.mk #[32]).size=1:=rfl
   omega
  refine⟨!(ws.any (fun d=>(qstr d).data.toList==s.data.toList))&&(!(decide (s.size=0))&&decide ((s.size:Int)≤32)),?_,?_⟩
  ·cases e1:decide (s.size=0)with
   |true=>simp
   |false=>
    cases e2:decide ((s.size:Int)≤32)with
    |false=>simp
    |true=>rw[hcat e1 e2];simp[qnot_c]
  ·have h0:∀n:Nat,decide (0<(n:Int)) = !(decide (n=0)):=fun n=>by
    rcases Nat.eq_zero_or_pos n with rfl|h
    ·rfl
    ·simp only[show 0<(n:Int)by omega,show¬n=0 by omega,decide_true,decide_false,Bool.not_false]
   rw[h0 s.size]
   cases ws.any (fun d=>(qstr d).data.toList==s.data.toList)with
   |true=>simp
   |false=>
    generalize decide (s.size=0)=z
    generalize decide ((s.size:Int)≤32)=y
    cases z<;>cases y<;>simp
end Go.Proofs.YteccopaonadbeaaGreatDoor
namespace Go.Proofs.YteccopaonadbeaaGreatDoor
noncomputable section
set_option linter.unusedSimpArgs false
open Go Go.AM
theorem conf_elems {T e:TypeId} {j F:Nat} {d:D} (hT:isFld T j F=true) (hF:isSl F e=true) (h:Conf PG T d):(d.fld j).toList.length≤maxLen∧∀x∈(d.fld j).toList,Conf PG e x:=by
 have h1:=conf_fld hT (qconf_iff.2 h)
 have h2:=qconfL_iff.1 (conf_list hF h1)
 rw[qfld_eq]at h2
 exact⟨h2.1,h2.2.2⟩
theorem f25_4:isFld 105 4 99=true:=by kernel_rfl
theorem s23:isSl 99 105=true:=by kernel_rfl
theorem f25_2:isFld 105 2 9=true:=by kernel_rfl
def isStrT (T:TypeId):Bool:=match PG.underlying T with|some .string=>true|_=>false
theorem str9:isStrT 9=true:=by kernel_rfl
theorem conf_strlen {d:D} (h:Conf PG 9 d):(qstr d).size≤maxLen:=by
 have ht:=str9
 unfold isStrT at ht
 cases hu:PG.underlying 9 with
 |none=>rw[hu]at ht;cases ht
 |some td=>
  rw[hu]at ht
  cases h with
  |str h1 hl=>rw[qstr_s];exact hl
  |slice h1 hl hd=>rw[h1]at hu;cases hu;cases ht
  |struct h1=>rw[h1]at hu;cases hu;cases ht
  |bool h1=>rw[h1]at hu;cases hu;cases ht
  |int h1=>rw[h1]at hu;cases hu;cases ht
  |array h1=>rw[h1]at hu;cases hu;cases ht
  |other h1=>unfold isOther at h1;rw[hu]at h1;cases td<;>simp_all
def opd (d:D):List D:=(d.fld 4).toList
theorem opd_size {d x:D} (h:x∈opd d):x.size<d.size:=size_elem h
theorem contains138 {Q:List D→Option (List D)} {l:D} {n:Int} {p:D→Bool} (hl:l.toList.length≤maxLen) (hc:∀x∈l.toList,q202 Q [x, .int n]=some [.bool (p x)]):q162_202 Q [l, .int n]=some [.bool (l.toList.any p)]:=by
 rw[q162_202_eq,F162_202_eq,q201_202_eq,F201_202_eq,l201_202_2_eq]
 rcases idxLoop (st:=st201_202_2 Q [l, .int n, .int (qlen l)]) (c:=fun x=>q202 Q [x, .int n]) (r1:=fun i=>[.int 1, .int i]) (r0:=[.int 0]) (fun i=>st201_202_2_eq Q l n (qlen l) i) hl hc with⟨h1,h2⟩|⟨i,h1,h2⟩
 ·simp[h1,h2,qsome_s,qnth_s,qint_i,qcmp_eql,qcmp_geq]
 ·simp[h1,h2,qsome_s,qnth_s,qint_i,qcmp_eql,qcmp_geq]
theorem contains140 {Q:List D→Option (List D)} {l:D} {p:D→Bool} (hl:l.toList.length≤maxLen) (hc:∀x∈l.toList,q251 Q [x]=some [.bool (p x)]):q162_251 Q [l]=some [.bool (l.toList.any p)]:=by
 rw[q162_251_eq,F162_251_eq,q201_251_eq,F201_251_eq,l201_251_2_eq]
 rcases idxLoop (st:=st201_251_2 Q [l, .int (qlen l)]) (c:=fun x=>q251 Q [x]) (r1:=fun i=>[.int 1, .int i]) (r0:=[.int 0]) (fun i=>st201_251_2_eq Q l (qlen l) i) hl hc with⟨h1,h2⟩|⟨i,h1,h2⟩
 ·simp[h1,h2,qsome_s,qnth_s,qint_i,qcmp_eql,qcmp_geq]
 ·simp[h1,h2,qsome_s,qnth_s,qint_i,qcmp_eql,qcmp_geq]
theorem contains141 {Q:List D→Option (List D)} {l v:D} {p:D→Bool} (hl:l.toList.length≤maxLen) (hc:∀x∈l.toList,q252_252 Q [x,v]=some [.bool (p x)]):q162_252 Q [l,v]=some [.bool (l.toList.any p)]:=by
 rw[q162_252_eq,F162_252_eq,q201_252_eq,F201_252_eq,l201_252_2_eq]
 rcases idxLoop (st:=st201_252_2 Q [l,v, .int (qlen l)]) (c:=fun x=>q252_252 Q [x,v]) (r1:=fun i=>[.int 1, .int i]) (r0:=[.int 0]) (fun i=>st201_252_2_eq Q l v (qlen l) i) hl hc with⟨h1,h2⟩|⟨i,h1,h2⟩
 ·simp[h1,h2,qsome_s,qnth_s,qint_i,qcmp_eql,qcmp_geq]
 ·simp[h1,h2,qsome_s,qnth_s,qint_i,qcmp_eql,qcmp_geq]
def deepS:Nat→D→Int→Bool
 |0,_,_=>false
 |N+1,d,n=>decide (n<1)||(d.fld 4).toList.any fun x=>deepS N x (n-1)
theorem deep_spec:∀(N:Nat) (d:D) (n:Int),Conf PG 105 d→d.size<N→ -9223372036854775808≤n→n≤9223372036854775807→F194 N [d, .int n]=some [.bool (deepS N d n)]∧F164 N [d, .int n]=some [.bool (!deepS N d n)]:=by
 intro N
 induction N with
 |zero=>intro d n _ h;omega
 |succ N ih=>
  intro d n hd hs h0 h1
  obtain⟨hl,hx⟩:=conf_elems f25_4 s23 hd
  rw[F194_s,F164_s,Fb194_eq,Fb164_eq]
  by_cases hn:n<1
  ·simp[qcmp_leq,qcmp_geq,hn,qiteB_c,deepS,show¬1≤n by omega,show n≤0 by omega]
  ·have hsub:qbin .sub .i64 n 1=n-1:=sub64 (by omega) (by omega)
   have hel:∀x∈(d.fld 4).toList,F194 N [x, .int (n-1)]=some [.bool (deepS N x (n-1))]∧F164 N [x, .int (n-1)]=some [.bool (!deepS N x (n-1))]:=
    fun x hm=>ih x (n-1) (hx x hm) (by have:=size_elem hm;omega) (by omega) (by omega)
   have h82:∀x∈(d.fld 4).toList,q202 (F164 N) [x, .int n]=some [.bool (deepS N x (n-1))]:=fun x hm=>by
    rw[q202_eq,F202_eq,hsub,(hel x hm).2]
    simp[qsome_s,qnth_s,qbool_b,qnot_c]
   have hcon:=contains138 (n:=n) hl h82
   rw[l194_4_eq,qfld_eq,hcon]
   have hloop:=idxLoop (st:=st194_4 (F194 N) [.int n,d]) (l:=d.fld 4) (c:=fun x=>F194 N [x, .int (n-1)]) (p:=fun x=>deepS N x (n-1)) (r1:=fun _=>[.int 1]) (r0:=[.int 0])
    (fun i=>by rw[st194_4_eq,hsub,qfld_eq]) hl (fun x hm=>(hel x hm).1)
   rcases hloop with⟨h3,h4⟩|⟨i,h3,h4⟩
   ·simp[h3,h4,qcmp_leq,qcmp_geq,hn,show 1≤n by omega,show¬n≤0 by omega,qsome_s,qnth_s,qint_i,qbool_b,qnot_c,qcmp_eql,qiteB_c,deepS]
   ·simp[h3,h4,qcmp_leq,qcmp_geq,hn,show 1≤n by omega,show¬n≤0 by omega,qsome_s,qnth_s,qint_i,qbool_b,qnot_c,qcmp_eql,qiteB_c,deepS]
def nameB (s:ByteArray):Bool:=match q59 [.str s]with|some [.bool b]=>b|_=>false
theorem nameB_spec {s:ByteArray} (hs:s.size≤maxLen):q59 [.str s]=some [.bool (nameB s)]∧q86 [.str s]=some [.bool (nameB s)]:=by
 obtain⟨b,h1,h2⟩:=name_spec hs
 unfold nameB
 rw[h1,h2];exact⟨rfl,rfl⟩
def headO (o n w z:Int) (e nm:Bool):Bool:=
 if o=1 then e&&(decide (w=0)&&decide (z=0))
 else if o=2 then nm&&(decide (n=0)&&(decide (w=0)&&decide (z=0)))
 else if 3≤o∧o≤15 then e&&(decide (n=0)&&(decide (w=0)&&decide (z=2)))
 else if o=16∨o=17 then e&&(decide (n=0)&&(decide (w=0)&&decide (z=1)))
 else if o=18 then e&&(decide (n=0)&&((decide (w=1)||decide (w=2)||decide (w=4))&&decide (z=1)))
 else if o=19 then e&&(decide (n=0)&&((decide (w=1)||decide (w=2))&&decide (z=1)))
 else false
def head (d:D):Bool:=headO (qint (d.fld 0)) (qint (d.fld 1)) (qint (d.fld 3)) (qlen (d.fld 4)) (qcmpS .eql (qstr (d.fld 2)) (ByteArray.mk #[])) (nameB (qstr (d.fld 2)))
def fmd:Nat→D→Bool
 |0,_=>false
 |N+1,d=>head d&&(opd d).all (fmd N)
theorem fmd_irr:∀(N M:Nat) (d:D),d.size<N→d.size<M→fmd N d=fmd M d:=by
 intro N
 induction N with
 |zero=>intro M d h;omega
 |succ N ih=>
  intro M d h1 h2
  cases M with
  |zero=>omega
  |succ M=>
   simp only[fmd]
   congr 1
   rw[Bool.eq_iff_iff]
   simp only[List.all_eq_true]
   constructor
   ·intro h x hx;have:=opd_size hx;rw[← ih M x (by omega) (by omega)];exact h x hx
   ·intro h x hx;have:=opd_size hx;rw[ih M x (by omega) (by omega)];exact h x hx
theorem cmpS_neq' (a b:ByteArray):qcmpS .neq a b = !(qcmpS .eql a b):=by rw[cmpS_neq,cmpS_eql]
theorem cmpS_self (a:ByteArray):qcmpS .eql a a=true:=by rw[cmpS_eql];simp
theorem fmd_spec:∀(N:Nat) (d:D),Conf PG 105 d→d.size<N→F204 N [d]=some [.bool (fmd N d)]∧F245 N [d]=some [.bool (fmd N d)]:=by
 intro N
 induction N with
 |zero=>intro d _ h;omega
 |succ N ih=>
  intro d hd hs
  obtain⟨hl,hx⟩:=conf_elems f25_4 s23 hd
  have hel:∀x∈(d.fld 4).toList,F204 N [x]=some [.bool (fmd N x)]∧F245 N [x]=some [.bool (fmd N x)]:=fun x hm=>ih x (hx x hm) (by have:=size_elem hm;omega)
  have h85:∀x∈(d.fld 4).toList,q251 (F204 N) [x]=some [.bool (!fmd N x)]:=fun x hm=>by
   rw[q251_eq,F251_eq,(hel x hm).1]
   simp[qsome_s,qnth_s,qbool_b,qnot_c]
  have hcon:=contains140 hl h85
  have hs2:(qstr (d.fld 2)).size≤maxLen:=by
   have:=conf_fld f25_2 (qconf_iff.2 hd)
   rw[qfld_eq]at this
   exact conf_strlen (qconf_iff.1 this)
  obtain⟨n1,n2⟩:=nameB_spec hs2
  rw[F204_s,F245_s,Fb204_eq,Fb245_eq]
  rw[l245_25_eq,qfld_eq,hcon,n1,n2]
  have hloop:=idxLoop (st:=st245_25 (F245 N) [d]) (l:=d.fld 4) (c:=fun x=>(F245 N [x]).map fun r=>[.bool (qnot (qbool (r.getD 0 .other)))]) (p:=fun x=> !fmd N x) (r1:=fun _=>[.int 1]) (r0:=[.int 0])
   (fun i=>by
    rw[st245_25_eq,qfld_eq]
    cases hq:F245 N [qget (d.fld 4) i]with
    |none=>simp[qsome_n]
    |some r=>simp[qsome_s,qnth_s,qbool_b]) hl (fun x hm=>by
    rw[(hel x hm).2]
    simp[qbool_b,qnot_c])
  have hall:(opd d).all (fmd N) = !((d.fld 4).toList.any fun x=> !fmd N x):=by
   unfold opd;rw[List.not_any_eq_all_not];simp
  simp only[fmd,hall,head]
  generalize ((d.fld 4).toList.any fun x=> !fmd N x)=an at *
  simp only[qsome_s,qnth_s,List.getD_cons_zero,qbool_b,qnot_c,qcmp_eql,qcmp_neq,qcmp_geq,qcmp_leq,qiteB_c,decide_true,cond_true,cmpS_neq',cmpS_self]
  generalize nameB (qstr (d.fld 2))=nm
  generalize qcmpS .eql (qstr (d.fld 2)) (ByteArray.mk #[])=e
  generalize qint (d.fld 0)=o
  generalize qint (d.fld 1)=n
  generalize qint (d.fld 3)=w
  generalize qlen (d.fld 4)=z
  unfold headO
  rcases hloop with⟨h3,rfl⟩|⟨i,h3,rfl⟩
  ·simp only[h3,qsome_s,qnth_s,List.getD_cons_zero,qint_i,decide_true,cond_true,Bool.cond_self]
   by_cases e1:o=1
   ·subst e1;cases e<;>cases nm<;>simp<;>grind
   by_cases e2:o=2
   ·subst e2;cases e<;>cases nm<;>simp<;>grind
   by_cases e16:o=16
   ·subst e16;cases e<;>cases nm<;>simp<;>grind
   by_cases e17:o=17
   ·subst e17;cases e<;>cases nm<;>simp<;>grind
   by_cases e18:o=18
   ·subst e18;cases e<;>cases nm<;>simp<;>grind
   by_cases e19:o=19
   ·subst e19;cases e<;>cases nm<;>simp<;>grind
   cases e<;>cases nm<;>simp[e1,e2,e16,e17,e18,e19]<;>grind
  ·simp only[h3,qsome_s,qnth_s,List.getD_cons_zero,qint_i,decide_true,cond_true,Bool.cond_self]
   by_cases e1:o=1
   ·subst e1;cases e<;>cases nm<;>simp<;>grind
   by_cases e2:o=2
   ·subst e2;cases e<;>cases nm<;>simp<;>grind
   by_cases e16:o=16
   ·subst e16;cases e<;>cases nm<;>simp<;>grind
   by_cases e17:o=17
   ·subst e17;cases e<;>cases nm<;>simp<;>grind
   by_cases e18:o=18
   ·subst e18;cases e<;>cases nm<;>simp<;>grind
   by_cases e19:o=19
   ·subst e19;cases e<;>cases nm<;>simp<;>grind
   cases e<;>cases nm<;>simp[e1,e2,e16,e17,e18,e19]<;>grind
def hasB (v:D) (s:ByteArray):Bool:=v.toList.any fun x=>(qstr (qfld x 0)).data.toList==s.data.toList
theorem has_spec {v:D} (hl:v.toList.length≤maxLen) (s:ByteArray):q153 [.str s,v]=some [.bool (hasB v s)]∧q146 [v, .str s]=some [.bool (hasB v s)]:=by
 refine⟨?_,?_⟩
 ·rw[q153_eq,F153_eq,q154_155_eq,F154_155_eq,q105_155_eq,F105_155_eq,l105_155_2_eq]
  unfold hasB
  rcases idxLoop (st:=st105_155_2 [v, .str s, .int (qlen v)]) (c:=fun x=>q155_155 [x, .str s]) (p:=fun x=>(qstr (qfld x 0)).data.toList==s.data.toList) (r1:=fun i=>[.int 1, .int i]) (r0:=[.int 0]) (fun i=>st105_155_2_eq v s (qlen v) i) hl
   (fun x _=>by rw[q155_155_eq,F155_155_eq,cmpS_eql])with⟨h1,h2⟩|⟨i,h1,h2⟩
  ·rw[h2];simp[h1,qsome_s,qnth_s,qint_i,qcmp_eql,qcmp_geq,qbool_b]
  ·rw[h2];simp[h1,qsome_s,qnth_s,qint_i,qcmp_eql,qcmp_geq,qbool_b]
 ·rw[q146_eq,F146_eq,l146_2_eq]
  unfold hasB
  have hloop:=idxLoop (st:=st146_2 [v, .str s]) (l:=v) (c:=fun x=>some [.bool (qcmpS .eql (qstr (qfld x 0)) s)]) (p:=fun x=>(qstr (qfld x 0)).data.toList==s.data.toList) (r1:=fun _=>[.int 1]) (r0:=[.int 0])
   (fun i=>by rw[st146_2_eq];simp only[qsome_s,qnth_s,List.getD_cons_zero,qbool_b,cond_true]) hl (fun x _=>by rw[cmpS_eql])
  rcases hloop with⟨h1,h2⟩|⟨i,h1,h2⟩
  ·rw[h2];simp[h1,qsome_s,qnth_s,qint_i,qcmp_eql,qcmp_geq,qbool_b]
  ·rw[h2];simp[h1,qsome_s,qnth_s,qint_i,qcmp_eql,qcmp_geq,qbool_b]
def kn:Nat→D→D→Bool
 |0,_,_=>false
 |N+1,d,v=>if qint (d.fld 0)=2 then hasB v (qstr (d.fld 2))else(opd d).all fun x=>kn N x v
theorem head_var {d:D} (h:head d=true) (ho:qint (d.fld 0)=2):opd d = []:=by
 unfold head headO at h
 rw[ho]at h
 simp only[show¬(2:Int)=1 by omega,if_false,if_true,Bool.and_eq_true,decide_eq_true_eq]at h
 have:=h.2.2.2
 rw[qlen_c]at this
 unfold opd
 exact List.length_eq_zero_iff.1 (by omega)
theorem known_spec {v:D} (hv:v.toList.length≤maxLen):∀(N:Nat) (d:D),Conf PG 105 d→d.size<N→fmd N d=true→F205 N [d,v]=some [.bool (kn N d v)]∧F196 N [d,v]=some [.bool (kn N d v)]:=by
 intro N
 induction N with
 |zero=>intro d _ h;omega
 |succ N ih=>
  intro d hd hs hf
  obtain⟨hl,hx⟩:=conf_elems f25_4 s23 hd
  simp only[fmd,Bool.and_eq_true,List.all_eq_true]at hf
  have hel:∀x∈(d.fld 4).toList,F205 N [x,v]=some [.bool (kn N x v)]∧F196 N [x,v]=some [.bool (kn N x v)]:=fun x hm=>ih x (hx x hm) (by have:=size_elem hm;omega) (hf.2 x hm)
  have h141:∀x∈(d.fld 4).toList,q252_252 (F205 N) [x,v]=some [.bool (!kn N x v)]:=fun x hm=>by
   rw[q252_252_eq,F252_252_eq,(hel x hm).1]
   simp[qsome_s,qnth_s,qbool_b,qnot_c]
  have hcon:=contains141 hl h141
  obtain⟨a1,a2⟩:=has_spec hv (qstr (d.fld 2))
  rw[F205_s,F196_s,Fb205_eq,Fb196_eq]
  rw[l196_4_eq,qfld_eq,hcon,a1,a2]
  simp only[kn]
  by_cases ho:qint (d.fld 0)=2
  ·have he:=head_var hf.1 ho
   unfold opd at he
   rw[he]
   cases hb:hasB v (qstr (d.fld 2))<;>simp[ho,hb,qcmp_eql,qsome_s,qnth_s,qbool_b,qnot_c]
  ·have hloop:=idxLoop (st:=st196_4 (F196 N) [v,d]) (l:=d.fld 4) (c:=fun x=>(F196 N [x,v]).map fun r=>[.bool (qnot (qbool (r.getD 0 .other)))]) (p:=fun x=> !kn N x v) (r1:=fun _=>[.int 1]) (r0:=[.int 0])
    (fun i=>by
     rw[st196_4_eq,qfld_eq]
     cases hq:F196 N [qget (d.fld 4) i,v]with
     |none=>simp[qsome_n]
     |some r=>simp[qsome_s,qnth_s,qbool_b]) hl (fun x hm=>by
     rw[(hel x hm).2]
     simp[qbool_b,qnot_c])
   have hall:((opd d).all fun x=>kn N x v) = !((d.fld 4).toList.any fun x=> !kn N x v):=by
    unfold opd;rw[List.not_any_eq_all_not];simp
   rw[hall]
   generalize ((d.fld 4).toList.any fun x=> !kn N x v)=an at *
   rcases hloop with⟨h3,rfl⟩|⟨i,h3,rfl⟩
   ·simp[h3,ho,qsome_s,qnth_s,qint_i,qcmp_eql,qbool_b,qnot_c]
   ·simp[h3,ho,qsome_s,qnth_s,qint_i,qcmp_eql,qbool_b,qnot_c]
end
end Go.Proofs.YteccopaonadbeaaGreatDoor
namespace Go.Proofs.YteccopaonadbeaaGreatDoor
noncomputable section
set_option linter.unusedSimpArgs false
open Go Go.AM
def isIntT (T:TypeId):Bool:=match PG.underlying T with|some (.int _)=>true|_=>false
def structLen (T:TypeId):Nat:=match PG.underlying T with|some (.struct fs)=>fs.size|_=>0
theorem conf_int {T:TypeId} {d:D} (hT:isIntT T=true) (h:Conf PG T d):∃n,d = .int n:=by
 unfold isIntT at hT
 cases hu:PG.underlying T with
 |none=>rw[hu]at hT;cases hT
 |some td=>
  rw[hu]at hT
  cases h with
  |int h1=>exact⟨_,rfl⟩
  |str h1 hl=>rw[h1]at hu;cases hu;cases hT
  |slice h1 hl hd=>rw[h1]at hu;cases hu;cases hT
  |struct h1=>rw[h1]at hu;cases hu;cases hT
  |bool h1=>rw[h1]at hu;cases hu;cases hT
  |array h1=>rw[h1]at hu;cases hu;cases hT
  |other h1=>unfold isOther at h1;rw[hu]at h1;cases td<;>simp_all
theorem conf_agg {T:TypeId} {n:Nat} {d:D} (hT:structLen T=n+1) (h:Conf PG T d):∃ds,d = .agg ds∧ds.length=n+1:=by
 unfold structLen at hT
 cases hu:PG.underlying T with
 |none=>rw[hu]at hT;cases hT
 |some td=>
  rw[hu]at hT
  cases h with
  |struct h1 hl=>
   rw[h1]at hu
   cases hu
   rename_i fs ds hd
   have ht':fs.size=n+1:=hT
   exact⟨_,rfl,by rw[← ht',hl]⟩
  |int h1=>rw[h1]at hu;cases hu;cases hT
  |str h1 hl=>rw[h1]at hu;cases hu;cases hT
  |slice h1 hl hd=>rw[h1]at hu;cases hu;cases hT
  |bool h1=>rw[h1]at hu;cases hu;cases hT
  |array h1=>rw[h1]at hu;cases hu;cases hT
  |other h1=>unfold isOther at h1;rw[hu]at h1;cases td<;>simp_all
theorem conf_fldC {T F:TypeId} {j:Nat} {d:D} (hT:isFld T j F=true) (h:Conf PG T d):Conf PG F (d.fld j):=by
 have:=conf_fld hT (qconf_iff.2 h)
 rw[qfld_eq]at this
 exact qconf_iff.1 this
theorem conf_el {T e:TypeId} {d:D} (hT:isSl T e=true) (h:Conf PG T d):d.toList.length≤maxLen∧(∃xs,d = .list xs)∧∀x∈d.toList,Conf PG e x:=qconfL_iff.1 (conf_list hT (qconf_iff.2 h))
theorem int3:isIntT 3=true:=by kernel_rfl
theorem len63:structLen 131=4+1:=by kernel_rfl
theorem len267:structLen 245=1+1:=by kernel_rfl
theorem f63_0:isFld 131 0 3=true:=by kernel_rfl
theorem f63_1:isFld 131 1 3=true:=by kernel_rfl
theorem f63_2:isFld 131 2 3=true:=by kernel_rfl
theorem f63_3:isFld 131 3 128=true:=by kernel_rfl
theorem f63_4:isFld 131 4 129=true:=by kernel_rfl
theorem f267_1:isFld 245 1 131=true:=by kernel_rfl
theorem s60:isSl 128 131=true:=by kernel_rfl
theorem s61:isSl 129 245=true:=by kernel_rfl
theorem qfld_a (xs:List D) (j:Nat):qfld (.agg xs) j=xs.getD j .other:=by rw[qfld_eq];rfl
def reT (d:D):D:= .agg [.int (qint (qfld d 0)), .int (qint (qfld d 1)), .int (qint (qfld d 2)),qfld d 3,qfld d 4]
theorem conf_reT {d:D} (h:Conf PG 131 d):reT d=d:=by
 obtain⟨ds,rfl,hl⟩:=conf_agg len63 h
 match ds,hl with
 | [a,b,c,e,l],_=>
   obtain⟨n0,h0⟩:=conf_int int3 (conf_fldC f63_0 h)
   obtain⟨n1,h1⟩:=conf_int int3 (conf_fldC f63_1 h)
   obtain⟨n2,h2⟩:=conf_int int3 (conf_fldC f63_2 h)
   obtain rfl:a = .int n0:=h0
   obtain rfl:b = .int n1:=h1
   obtain rfl:c = .int n2:=h2
   simp[reT,qfld_a,qint_i]
theorem size_fld {d:D} {j:Nat} (h:∃ds,d = .agg ds∧j<ds.length):(d.fld j).size<d.size:=by
 obtain⟨ds,rfl,hj⟩:=h
 have:=sizes_get (List.getElem?_eq_getElem hj)
 simp only[D.fld,List.getD,List.getElem?_eq_getElem hj,Option.getD_some,D.size]
 omega
theorem conf_types {d:D} (h:Conf PG 131 d):(qfld d 3).toList.length≤maxLen∧(qfld d 4).toList.length≤maxLen∧(∀x∈(qfld d 3).toList,Conf PG 131 x∧x.size<d.size)∧
 (∀x∈(qfld d 4).toList,Conf PG 131 (qfld x 1)∧(qfld x 1).size<d.size):=by
 simp only[qfld_eq]
 obtain⟨a1,_,a2⟩:=conf_el s60 (conf_fldC f63_3 h)
 obtain⟨b1,_,b2⟩:=conf_el s61 (conf_fldC f63_4 h)
 refine⟨a1,b1,fun x hx=>⟨a2 x hx,size_elem hx⟩,fun x hx=>⟨conf_fldC f267_1 (b2 x hx),?_⟩⟩
 obtain⟨ds,rfl,hl⟩:=conf_agg len267 (b2 x hx)
 have:=size_elem hx
 have:=size_fld (d:= .agg ds) (j:=1) ⟨ds,rfl,by omega⟩
 omega
theorem loopI {R:Type} {st:List D→Option (Sum (List D) R)} {n:Nat} {p:Nat→Bool} {r0 r1:R} (hn:n≤maxLen) (h0:st [.int n]=some (.inr r0))
 (h1:∀i,i<n→st [.int (i:Int)]=if p i then some (.inr r1)else some (.inl [.int (qbin .add .i64 (i:Int) 1)])):loW st [.int 0]=some (if(List.range n).any p then r1 else r0):=by
 unfold maxLen at hn
 have key:∀k i:Nat,i+k=n→loW st [.int (i:Int)]=some (if(List.range' i k).any p then r1 else r0):=by
  intro k
  induction k with
  |zero=>intro i hi;obtain rfl:i=n:=by omega
         rw[loW_eq,h0];rfl
  |succ k ih=>
   intro i hi
   rw[loW_eq,h1 i (by omega),List.range'_succ,List.any_cons]
   cases hp:p i with
   |true=>simp
   |false=>
    simp only[Bool.false_eq_true,if_false,Bool.false_or]
    rw[add_nat (by omega)]
    exact ih (i+1) (by omega)
 have:=key n 0 (by omega)
 rw[List.range_eq_range']
 exact this
theorem any_range {l:List D} {p:D→Bool}:(List.range l.length).any (fun i=>p (l.getD i .other))=l.any p:=by
 rw[Bool.eq_iff_iff]
 simp only[List.any_eq_true,List.mem_range]
 constructor
 ·rintro⟨i,hi,h⟩;exact⟨_,List.getElem_mem hi,by rwa [getD_lt hi]at h⟩
 ·rintro⟨x,hx,h⟩
  obtain⟨i,hi,rfl⟩:=List.getElem_of_mem hx
  exact⟨i,hi,by rwa [getD_lt hi]⟩
theorem loW_congr {S R:Type} {st st':S→Option (Sum S R)} {I:S→Prop} (h:∀s,I s→st s=st' s) (hI:∀s s',I s→st s=some (.inl s')→I s') {s:S} (hs:I s):loW st s=loW st' s:=by
 have key:∀n s,I s→loF st n s=loF st' n s:=by
  intro n
  induction n with
  |zero=>intro s _;rfl
  |succ n ih=>
   intro s hs
   simp only[loF]
   rw[← h s hs]
   cases hx:st s with
   |none=>rfl
   |some x=>
    cases x with
    |inl s'=>exact ih s' (hI s s' hs hx)
    |inr r=>rfl
 cases hx:loW st s with
 |some d=>
  obtain⟨n,hn⟩:=loW_iff.1 hx
  exact(loW_iff.2 ⟨n,by rw[← key n s hs];exact hn⟩).symm
 |none=>
  cases hy:loW st' s with
  |none=>rfl
  |some d=>
   obtain⟨n,hn⟩:=loW_iff.1 hy
   rw[← key n s hs]at hn
   rw[loW_iff.2 ⟨n,hn⟩]at hx;cases hx
def deepT:Nat→D→Int→Bool
 |0,_,_=>false
 |N+1,d,n=>decide (n<1)||((qfld d 3).toList.any fun x=>deepT N x (n-1))||((qfld d 4).toList.any fun x=>deepT N (qfld x 1) (n-1))
theorem deepT_spec:∀(N:Nat) (d:D) (n:Int),Conf PG 131 d→d.size<N→ -9223372036854775808≤n→n≤9223372036854775807→F191 N [d, .int n]=some [.bool (deepT N d n)]∧F156 N [d, .int n]=some [.bool (!deepT N d n)]:=by
 intro N
 induction N with
 |zero=>intro d n _ h;omega
 |succ N ih=>
  intro d n hd hs h0 h1
  obtain⟨l3,l4,e3,e4⟩:=conf_types hd
  rw[F191_s,F156_s,Fb191_eq,Fb156_eq]
  by_cases hn:n<1
  ·simp[qcmp_lss,hn,deepT]
  ·have hsub:qbin .sub .i64 n 1=n-1:=sub64 (by omega) (by omega)
   have r1:=idxLoop (st:=st191_4 (F191 N) [.int n,d]) (l:=qfld d 3) (c:=fun x=>F191 N [x, .int (n-1)]) (p:=fun x=>deepT N x (n-1)) (r1:=fun _=>[.int 1]) (r0:=[.int 0])
    (fun i=>by rw[st191_4_eq,hsub]) l3 (fun x hx=>(ih x (n-1) (e3 x hx).1 (by have:=(e3 x hx).2;omega) (by omega) (by omega)).1)
   have r2:=idxLoop (st:=st156_4 (F156 N) [.int n,qfld d 3, .int (qlen (qfld d 3)),d]) (l:=qfld d 3) (c:=fun x=>(F156 N [x, .int (n-1)]).map fun r=>[.bool (qnot (qbool (r.getD 0 .other)))]) (p:=fun x=>deepT N x (n-1)) (r1:=fun _=>[.int 1]) (r0:=[.int 0])
    (fun i=>by
     rw[st156_4_eq,hsub]
     cases hq:F156 N [qget (qfld d 3) i, .int (n-1)]with
     |none=>simp[qsome_n]
     |some r=>simp[qsome_s,qnth_s,qbool_b]) l3 (fun x hx=>by
      rw[(ih x (n-1) (e3 x hx).1 (by have:=(e3 x hx).2;omega) (by omega) (by omega)).2]
      simp[qbool_b,qnot_c])
   have r3:=idxLoop (st:=st191_9 (F191 N) [.int n,d]) (l:=qfld d 4) (c:=fun x=>F191 N [reT (qfld x 1), .int (n-1)]) (p:=fun x=>deepT N (qfld x 1) (n-1)) (r1:=fun _=>[.int 1]) (r0:=[.int 0])
    (fun i=>by rw[st191_9_eq,hsub];rfl) l4 (fun x hx=>by
     rw[conf_reT (e4 x hx).1];exact(ih _ (n-1) (e4 x hx).1 (by have:=(e4 x hx).2;omega) (by omega) (by omega)).1)
   have r4:=idxLoop (st:=st156_10 (F156 N) [.int n,qfld d 4, .int (qlen (qfld d 4))]) (l:=qfld d 4) (c:=fun x=>(F156 N [reT (qfld x 1), .int (n-1)]).map fun r=>[.bool (qnot (qbool (r.getD 0 .other)))]) (p:=fun x=>deepT N (qfld x 1) (n-1)) (r1:=fun _=>[.int 1]) (r0:=[.int 0])
    (fun i=>by
     rw[st156_10_eq,hsub]
     have hre:D.agg [D.int (qint (qfld (qfld (qget (qfld d 4) i) 1) 0)),D.int (qint (qfld (qfld (qget (qfld d 4) i) 1) 1)),D.int (qint (qfld (qfld (qget (qfld d 4) i) 1) 2)),qfld (qfld (qget (qfld d 4) i) 1) 3,qfld (qfld (qget (qfld d 4) i) 1) 4]=reT (qfld (qget (qfld d 4) i) 1):=rfl
     rw[hre]
     cases hq:F156 N [reT (qfld (qget (qfld d 4) i) 1), .int (n-1)]with
     |none=>simp[qsome_n]
     |some r=>simp[qsome_s,qnth_s,qbool_b]) l4 (fun x hx=>by
      rw[conf_reT (e4 x hx).1,(ih _ (n-1) (e4 x hx).1 (by have:=(e4 x hx).2;omega) (by omega) (by omega)).2]
      simp[qbool_b,qnot_c])
   rw[l191_4_eq,l191_9_eq,l156_4_eq,l156_10_eq]
   simp only[deepT,qcmp_lss,hn,decide_false,cond_false,Bool.false_or]
   generalize ((qfld d 3).toList.any fun x=>deepT N x (n-1))=a at *
   generalize ((qfld d 4).toList.any fun x=>deepT N (qfld x 1) (n-1))=b at *
   rcases r1 with⟨a1,rfl⟩|⟨_,a1,rfl⟩<;>rcases r2 with⟨a2,h2⟩|⟨_,a2,h2⟩<;>first|(cases h2;done)|skip
   ·rcases r3 with⟨a3,rfl⟩|⟨_,a3,rfl⟩<;>rcases r4 with⟨a4,h4⟩|⟨_,a4,h4⟩<;>first|(cases h4;done)|skip
    ·simp[a1,a2,a3,a4,qsome_s,qnth_s,qint_i,qcmp_eql]
    ·simp[a1,a2,a3,a4,qsome_s,qnth_s,qint_i,qcmp_eql]
   ·simp[a1,a2,qsome_s,qnth_s,qint_i,qcmp_eql]
end
end Go.Proofs.YteccopaonadbeaaGreatDoor
namespace Go.Proofs.YteccopaonadbeaaGreatDoor
set_option linter.unusedSimpArgs false
open Go Go.AM
theorem fuel_two (l:List D):2≤fuelL l:=by
 induction l with
 |nil=>simp[fuelL]
 |cons x l ih=>simp only[fuelL];omega
theorem wt_ge (d:D):d.size≤d.wt∨∃m,d = .int m:=by
 cases d<;>simp[D.wt]
theorem fuel_in {d:D} {l:List D} (h:d∈l):d.size<fuelL l:=by
 induction l with
 |nil=>cases h
 |cons x l ih=>
  simp only[fuelL]
  rcases List.mem_cons.1 h with rfl|h
  ·have:=fuel_two l
   rcases wt_ge d with h|⟨m,rfl⟩
   ·omega
   ·simp[D.size];omega
  ·have:=ih h;omega
noncomputable def offI (l:List D) (i:Nat):Bool:=
 decide (0≤qint (qfld (l.getD i .other) 0))&&decide (qint (qfld (l.getD i .other) 0)<65536)&&(decide (i=0)||decide (qint (qfld (l.getD (i-1) .other) 0)<qint (qfld (l.getD i .other) 0)))
noncomputable def headT (d:D):Bool:=
 if qint (qfld d 0)=0∨qint (qfld d 0)=6 then decide (qint (qfld d 1)=0)&&decide (qint (qfld d 2)=0)&&decide ((qfld d 3).toList.length=0)&&decide ((qfld d 4).toList.length=0)
 else if qint (qfld d 0)=1∨qint (qfld d 0)=2 then(decide (qint (qfld d 1)=1)||decide (qint (qfld d 1)=2)||decide (qint (qfld d 1)=4))&&decide (qint (qfld d 2)=0)&&decide ((qfld d 3).toList.length=0)&&decide ((qfld d 4).toList.length=0)
 else if qint (qfld d 0)=3 then decide (qint (qfld d 1)=0)&&decide (qint (qfld d 2)=0)&&decide ((qfld d 3).toList.length=1)&&decide ((qfld d 4).toList.length=0)
 else if qint (qfld d 0)=4 then decide (qint (qfld d 1)=0)&&(decide (1≤qint (qfld d 2))&&decide (qint (qfld d 2)≤65536))&&decide ((qfld d 3).toList.length=1)&&decide ((qfld d 4).toList.length=0)
 else if qint (qfld d 0)=5 then decide (qint (qfld d 1)=0)&&decide (qint (qfld d 2)=0)&&decide ((qfld d 3).toList.length=0)
 else false
noncomputable def fmdT:Nat→D→Bool
 |0,_=>false
 |N+1,d=>headT d&&(!(List.range (qfld d 4).toList.length).any fun i=> !(offI (qfld d 4).toList i&&fmdT N (qfld ((qfld d 4).toList.getD i .other) 1)))&&(qfld d 3).toList.all (fmdT N)
theorem fields_loop {Q:List D→Option (List D)} {l:D} {f:D→Bool} (hl:l.toList.length≤maxLen) (hq:∀x∈l.toList,Q [reT (qfld x 1)]=some [.bool (f (qfld x 1))]):
 loW (st242_2 Q [l]) [.int 0]=some (if(List.range l.toList.length).any (fun i=> !(offI l.toList i&&f (qfld (l.toList.getD i .other) 1)))then[.int 1]else[.int 0])∧
 ∀(e:Int) (d:D),qfld d 4=l→loW (st157_23 Q [.int e,l, .int (qlen l),d]) [.int 0]=some (if(List.range l.toList.length).any (fun i=> !(offI l.toList i&&f (qfld (l.toList.getD i .other) 1)))then[.int 1]else[.int 0]):=by
 have hre:∀i:Int,D.agg [D.int (qint (qfld (qfld (qget l i) 1) 0)),D.int (qint (qfld (qfld (qget l i) 1) 1)),D.int (qint (qfld (qfld (qget l i) 1) 2)),qfld (qfld (qget l i) 1) 3,qfld (qfld (qget l i) 1) 4]=reT (qfld (qget l i) 1):=fun i=>rfl
 have hpred:∀i:Nat,0<i→i<l.toList.length→qbin .sub .i64 (i:Int) 1=((i-1:Nat):Int):=fun i h h'=>by
  unfold maxLen at hl
  rw[sub64 (by omega) (by omega)];omega
 refine⟨loopI hl ?_ ?_,fun e d hd=>loopI hl ?_ ?_⟩
 ·rw[st242_2_eq];simp[qcmp_lss,qlen_c]
 ·intro i hi
  have hm:l.toList.getD i .other∈l.toList:=by rw[getD_lt hi];exact List.getElem_mem hi
  rw[st242_2_eq,hre,qget_n,hq _ hm,qlen_c,qinb_n hi]
  simp only[qcmp_lss,qcmp_geq,qcmp_gtr,qcmp_leq,show(i:Int)<(l.toList.length:Int)by omega,decide_true,cond_true,qsome_s,qnth_s,List.getD_cons_zero,qbool_b,qnot_c,offI]
  by_cases h0:i=0
  ·subst h0
   simp only[Int.natCast_zero,show¬(0:Int)<0 by omega,decide_false,cond_false,decide_true,Bool.true_or,Bool.and_true]
   generalize qint (qfld (l.toList.getD 0 D.other) 0)=a
   generalize f (qfld (l.toList.getD 0 D.other) 1)=b
   by_cases c1:a<0<;>by_cases c2:a<65536<;>cases b<;>simp[c1,c2,show(0≤a) = ¬(a<0)by simp,show(65536≤a) = ¬(a<65536)by simp]<;>omega
  ·have hm':(i-1)<l.toList.length:=by omega
   rw[hpred i (by omega) hi,qinb_n hm',qget_n]
   simp only[show(0:Int)<(i:Int)by omega,decide_true,cond_true,h0,decide_false,Bool.false_or]
   generalize qint (qfld (l.toList.getD i D.other) 0)=a
   generalize qint (qfld (l.toList.getD (i-1) D.other) 0)=a'
   generalize f (qfld (l.toList.getD i D.other) 1)=b
   by_cases c1:a<0<;>by_cases c2:a<65536<;>by_cases c3:a'<a<;>cases b<;>simp[c1,c2,c3,show(0≤a) = ¬(a<0)by simp,show(65536≤a) = ¬(a<65536)by simp,show(a≤a') = ¬(a'<a)by simp]<;>omega
 ·rw[st157_23_eq];simp[qcmp_lss,qlen_c]
 ·intro i hi
  have hm:l.toList.getD i .other∈l.toList:=by rw[getD_lt hi];exact List.getElem_mem hi
  rw[st157_23_eq,hre,hd,qget_n,hq _ hm,qlen_c,qinb_n hi]
  simp only[qcmp_lss,qcmp_geq,qcmp_gtr,qcmp_leq,show(i:Int)<(l.toList.length:Int)by omega,decide_true,cond_true,qsome_s,qnth_s,List.getD_cons_zero,qbool_b,qnot_c,offI]
  by_cases h0:i=0
  ·subst h0
   simp only[Int.natCast_zero,show¬(0:Int)<0 by omega,decide_false,cond_false,decide_true,Bool.true_or,Bool.and_true]
   generalize qint (qfld (l.toList.getD 0 D.other) 0)=a
   generalize f (qfld (l.toList.getD 0 D.other) 1)=b
   by_cases c1:a<0<;>by_cases c2:a<65536<;>cases b<;>simp[c1,c2,show(0≤a) = ¬(a<0)by simp,show(65536≤a) = ¬(a<65536)by simp]<;>omega
  ·have hm':(i-1)<l.toList.length:=by omega
   rw[hpred i (by omega) hi,qinb_n hm',qget_n]
   simp only[show(0:Int)<(i:Int)by omega,decide_true,cond_true,h0,decide_false,Bool.false_or]
   generalize qint (qfld (l.toList.getD i D.other) 0)=a
   generalize qint (qfld (l.toList.getD (i-1) D.other) 0)=a'
   generalize f (qfld (l.toList.getD i D.other) 1)=b
   by_cases c1:a<0<;>by_cases c2:a<65536<;>by_cases c3:a'<a<;>cases b<;>simp[c1,c2,c3,show(0≤a) = ¬(a<0)by simp,show(65536≤a) = ¬(a<65536)by simp,show(a≤a') = ¬(a'<a)by simp]<;>omega
theorem qget_0 (d:D):qget d 0=d.toList.getD 0 .other:=qget_n d 0
theorem all_one {l:List D} {p:D→Bool} (h:l.length=1):l.all p=p (l.getD 0 .other):=by
 match l,h with
 | [x],_=>simp
theorem fmdT_spec:∀(N:Nat) (d:D),Conf PG 131 d→d.size<N→F192 N [d]=some [.bool (fmdT N d)]∧F157 N [d]=some [.bool (fmdT N d)]:=by
 intro N
 induction N with
 |zero=>intro d _ h;omega
 |succ N ih=>
  intro d hd hs
  obtain⟨l3,l4,e3,e4⟩:=conf_types hd
  have hq:∀(F:Nat→List D→Option (List D)),(∀x,Conf PG 131 x→x.size<N→F N [x]=some [.bool (fmdT N x)])→∀x∈(qfld d 4).toList,F N [reT (qfld x 1)]=some [.bool (fmdT N (qfld x 1))]:=fun F hF x hx=>by
   rw[conf_reT (e4 x hx).1];exact hF _ (e4 x hx).1 (by have:=(e4 x hx).2;omega)
  have g1:=(fields_loop l4 (hq F192 fun x h1 h2=>(ih x h1 h2).1)).1
  have g2:=fun e=>(fields_loop l4 (hq F157 fun x h1 h2=>(ih x h1 h2).2)).2 e d rfl
  have h3:(qfld d 3).toList.length=1→qinb (qfld d 3) 0=true∧F192 N [qget (qfld d 3) 0]=some [.bool (fmdT N ((qfld d 3).toList.getD 0 .other))]∧F157 N [qget (qfld d 3) 0]=some [.bool (fmdT N ((qfld d 3).toList.getD 0 .other))]:=fun h=>by
   have hm:(qfld d 3).toList.getD 0 .other∈(qfld d 3).toList:=by rw[getD_lt (by omega)];exact List.getElem_mem _
   have:=ih _ (e3 _ hm).1 (by have:=(e3 _ hm).2;omega)
   exact⟨qinb_n (i:=0) (by omega),by rw[qget_0];exact this.1,by rw[qget_0];exact this.2⟩
  rw[F192_s,F157_s,Fb192_eq,Fb157_eq,l157_23_eq,q242_eq,F242_eq,l242_2_eq]
  simp only[g1,g2]
  simp only[qiteB_c,qcmp_eql,qcmp_neq,qcmp_lss,qcmp_leq,qcmp_geq,qcmp_gtr,qlen_c,qnot_c,qand_eq,decide_true,cond_true,Bool.true_and,Bool.cond_self]
  simp only[fmdT,headT]
  clear g1 g2 hq ih
  generalize hz:(List.range (qfld d 4).toList.length).any (fun i=> !(offI (qfld d 4).toList i&&fmdT N (qfld ((qfld d 4).toList.getD i D.other) 1)))=z
  have hz0:(qfld d 4).toList.length=0→z=false:=fun h=>by rw[← hz,h];rfl
  have hall0:(qfld d 3).toList.length=0→(qfld d 3).toList.all (fmdT N)=true:=fun h=>by rw[List.length_eq_zero_iff.1 h];rfl
  have hall1:(qfld d 3).toList.length=1→(qfld d 3).toList.all (fmdT N)=fmdT N ((qfld d 3).toList.getD 0 .other):=fun h=>all_one h
  clear hz e3 e4 l3 l4
  generalize (qfld d 3).toList.all (fmdT N)=al at *
  generalize fmdT N ((qfld d 3).toList.getD 0 .other)=el at *
  generalize qinb (qfld d 3) 0=iq at *
  generalize F192 N [qget (qfld d 3) 0]=r1 at *
  generalize F157 N [qget (qfld d 3) 0]=r2 at *
  generalize (qfld d 3).toList.length=n3 at *
  generalize (qfld d 4).toList.length=n4 at *
  generalize qint (qfld d 1)=sz at *
  generalize qint (qfld d 2)=ct at *
  generalize qint (qfld d 0)=k at *
  have e4:decide (0<(n4:Int)) = !decide (n4=0):=by by_cases h:n4=0<;>simp[h]<;>omega
  have e4':decide ((n4:Int)=0)=decide (n4=0):=by by_cases h:n4=0<;>simp[h]
  have e3:decide ((n3:Int)=0)=decide (n3=0):=by by_cases h:n3=0<;>simp[h]
  have e3':decide ((n3:Int)=1)=decide (n3=1):=by by_cases h:n3=1<;>simp[h]<;>omega
  simp only[e4,e4',e3,e3']
  clear e4 e4' e3 e3'
  by_cases k0:k=0∨k=6
  ·have hk:(k=0)∨(k=6):=k0
   by_cases a1:n3=0
   ·have:=hall0 a1
    by_cases a2:n4=0
    ·have:=hz0 a2
     rcases hk with rfl|rfl<;>by_cases a3:sz=0<;>by_cases a4:ct=0<;>simp[*,qsome_s,qnth_s,qint_i]
    ·rcases hk with rfl|rfl<;>by_cases a3:sz=0<;>by_cases a4:ct=0<;>simp[*]
   ·rcases hk with rfl|rfl<;>by_cases a2:n4=0<;>by_cases a3:sz=0<;>by_cases a4:ct=0<;>simp[*]
  have n0:¬k=0:=fun h=>k0 (.inl h)
  have n6:¬k=6:=fun h=>k0 (.inr h)
  by_cases k1:k=1∨k=2
  ·have hk:(k=1)∨(k=2):=k1
   have hs:sz=1∨sz=2∨sz=4∨(¬sz=1∧¬sz=2∧¬sz=4):=by omega
   by_cases a1:n3=0
   ·have:=hall0 a1
    by_cases a2:n4=0
    ·have:=hz0 a2
     rcases hk with rfl|rfl<;>rcases hs with rfl|rfl|rfl|⟨s1,s2,s4⟩<;>by_cases a4:ct=0<;>simp[*,qsome_s,qnth_s,qint_i]
    ·rcases hk with rfl|rfl<;>rcases hs with rfl|rfl|rfl|⟨s1,s2,s4⟩<;>by_cases a4:ct=0<;>simp[*]
   ·rcases hk with rfl|rfl<;>by_cases a2:n4=0<;>rcases hs with rfl|rfl|rfl|⟨s1,s2,s4⟩<;>by_cases a4:ct=0<;>simp[*]
  have n1:¬k=1:=fun h=>k1 (.inl h)
  have n2:¬k=2:=fun h=>k1 (.inr h)
  by_cases k3:k=3
  ·subst k3
   by_cases a1:n3=1
   ·obtain⟨b1,b2,b3⟩:=h3 a1
    have:=hall1 a1
    by_cases a2:n4=0
    ·have:=hz0 a2
     by_cases a3:sz=0<;>by_cases a4:ct=0<;>simp[*,qsome_s,qnth_s,qint_i,qbool_b]
    ·by_cases a3:sz=0<;>by_cases a4:ct=0<;>simp[*]
   ·by_cases a2:n4=0<;>by_cases a3:sz=0<;>by_cases a4:ct=0<;>simp[*]
  by_cases k4:k=4
  ·subst k4
   have hc:(ct<1∧¬1≤ct∧¬65536<ct∧ct≤65536)∨(¬ct<1∧1≤ct∧65536<ct∧¬ct≤65536)∨(¬ct<1∧1≤ct∧¬65536<ct∧ct≤65536):=by omega
   by_cases a1:n3=1
   ·obtain⟨b1,b2,b3⟩:=h3 a1
    have:=hall1 a1
    by_cases a2:n4=0
    ·have:=hz0 a2
     rcases hc with⟨c1,c2,c3,c4⟩|⟨c1,c2,c3,c4⟩|⟨c1,c2,c3,c4⟩<;>by_cases a3:sz=0<;>simp[*,qsome_s,qnth_s,qint_i,qbool_b]
    ·rcases hc with⟨c1,c2,c3,c4⟩|⟨c1,c2,c3,c4⟩|⟨c1,c2,c3,c4⟩<;>by_cases a3:sz=0<;>simp[*]
   ·rcases hc with⟨c1,c2,c3,c4⟩|⟨c1,c2,c3,c4⟩|⟨c1,c2,c3,c4⟩<;>by_cases a2:n4=0<;>by_cases a3:sz=0<;>simp[*]
  by_cases k5:k=5
  ·subst k5
   by_cases a1:n3=0
   ·have:=hall0 a1
    by_cases a3:sz=0<;>by_cases a4:ct=0<;>cases z<;>simp[*,qsome_s,qnth_s,qint_i,qbool_b]
   ·by_cases a3:sz=0<;>by_cases a4:ct=0<;>cases z<;>simp[*,qsome_s,qnth_s,qint_i,qbool_b]
  simp[*]
end Go.Proofs.YteccopaonadbeaaGreatDoor
namespace Go.Proofs.YteccopaonadbeaaGreatDoor
set_option linter.unusedSimpArgs false
open Go Go.AM
theorem headT_one {d:D} (h:headT d=true):(qfld d 3).toList.length≤1:=by
 unfold headT at h
 (repeat' split at h)<;>first|(cases h;done)|(simp only[Bool.and_eq_true,decide_eq_true_eq]at h;omega)
theorem headT_four {d:D} (h:headT d=true) (hk:qint (qfld d 0)=4):(qfld d 3).toList.length=1:=by
 unfold headT at h
 simp only[hk]at h
 simp at h
 omega
theorem fmdT_irr:∀(N M:Nat) (d:D),Conf PG 131 d→d.size<N→d.size<M→fmdT N d=fmdT M d:=by
 intro N
 induction N with
 |zero=>intro M d _ h;omega
 |succ N ih=>
  intro M d hd h1 h2
  cases M with
  |zero=>omega
  |succ M=>
   obtain⟨l3,l4,e3,e4⟩:=conf_types hd
   simp only[fmdT]
   have r1:(List.range (qfld d 4).toList.length).any (fun i=> !(offI (qfld d 4).toList i&&fmdT N (qfld ((qfld d 4).toList.getD i .other) 1)))=(List.range (qfld d 4).toList.length).any (fun i=> !(offI (qfld d 4).toList i&&fmdT M (qfld ((qfld d 4).toList.getD i .other) 1))):=by
    rw[Bool.eq_iff_iff];simp only[List.any_eq_true,List.mem_range]
    constructor
    ·rintro⟨i,hi,h⟩
     have hm:(qfld d 4).toList.getD i .other∈(qfld d 4).toList:=by rw[getD_lt hi];exact List.getElem_mem hi
     have:=e4 _ hm
     rw[ih M _ this.1 (by omega) (by omega)]at h;exact⟨i,hi,h⟩
    ·rintro⟨i,hi,h⟩
     have hm:(qfld d 4).toList.getD i .other∈(qfld d 4).toList:=by rw[getD_lt hi];exact List.getElem_mem hi
     have:=e4 _ hm
     rw[← ih M _ this.1 (by omega) (by omega)]at h;exact⟨i,hi,h⟩
   have r2:(qfld d 3).toList.all (fmdT N)=(qfld d 3).toList.all (fmdT M):=by
    rw[Bool.eq_iff_iff];simp only[List.all_eq_true]
    constructor
    ·intro h x hx;have:=e3 x hx;rw[← ih M x this.1 (by omega) (by omega)];exact h x hx
    ·intro h x hx;have:=e3 x hx;rw[ih M x this.1 (by omega) (by omega)];exact h x hx
   rw[r1,r2]
theorem fmdT_parts {N:Nat} {d:D} (h:fmdT (N+1) d=true):headT d=true∧(∀x∈(qfld d 3).toList,fmdT N x=true)∧(∀x∈(qfld d 4).toList,fmdT N (qfld x 1)=true):=by
 simp only[fmdT,Bool.and_eq_true,Bool.not_eq_true',List.all_eq_true]at h
 refine⟨h.1.1,h.2,fun x hx=> ?_⟩
 obtain⟨i,hi,rfl⟩:=List.getElem_of_mem hx
 have:=h.1.2
 rw[List.any_eq_false]at this
 have:=this i (List.mem_range.2 hi)
 rw[getD_lt hi]at this
 simp only[Bool.not_eq_true',Bool.not_eq_false,Bool.and_eq_true]at this
 exact this.2
theorem size_eq:∀(N:Nat) (d:D),Conf PG 131 d→d.size<N→F198 N [d]=F243 N [d]:=by
 intro N
 induction N with
 |zero=>intro d _ h;omega
 |succ N ih=>
  intro d hd hs
  obtain⟨l3,l4,e3,e4⟩:=conf_types hd
  rw[F198_s,F243_s,Fb198_eq,Fb243_eq,l198_12_eq,l243_12_eq]
  have h0:qinb (qfld d 3) 0=true→F198 N [qget (qfld d 3) 0]=F243 N [qget (qfld d 3) 0]:=fun h=>by
   rw[qinb_c]at h
   have hl:0<(qfld d 3).toList.length:=by simp at h;omega
   have hm:qget (qfld d 3) 0∈(qfld d 3).toList:=by rw[qget_0,getD_lt hl];exact List.getElem_mem _
   exact ih _ (e3 _ hm).1 (by have:=(e3 _ hm).2;omega)
  have hloop:loW (st198_12 (F198 N) [qfld d 4, .int (qlen (qfld d 4))]) [.int 0, .int 0]=loW (st243_12 (F243 N) [d]) [.int 0, .int 0]:=by
   refine loW_congr (I:=fun s=>∃a i,s = [.int a, .int i]) ?_ ?_ ⟨0,0,rfl⟩
   ·rintro _ ⟨a,i,rfl⟩
    rw[st198_12_eq,st243_12_eq]
    cases hi:qinb (qfld d 4) i with
    |false=>rfl
    |true=>
     have hre:D.agg [D.int (qint (qfld (qfld (qget (qfld d 4) i) 1) 0)),D.int (qint (qfld (qfld (qget (qfld d 4) i) 1) 1)),D.int (qint (qfld (qfld (qget (qfld d 4) i) 1) 2)),qfld (qfld (qget (qfld d 4) i) 1) 3,qfld (qfld (qget (qfld d 4) i) 1) 4]=reT (qfld (qget (qfld d 4) i) 1):=rfl
     rw[qinb_c]at hi
     simp only[Bool.and_eq_true,decide_eq_true_eq]at hi
     obtain⟨j,rfl⟩:∃j:Nat,i=(j:Int):=⟨i.toNat,by omega⟩
     have hl:j<(qfld d 4).toList.length:=by omega
     have hm:qget (qfld d 4) (j:Int)∈(qfld d 4).toList:=by rw[qget_n,getD_lt hl];exact List.getElem_mem _
     rw[hre,conf_reT (e4 _ hm).1,ih _ (e4 _ hm).1 (by have:=(e4 _ hm).2;omega)]
     simp only[cond_true]
   ·rintro _ s' ⟨a,i,rfl⟩ hx
    rw[st198_12_eq]at hx
    generalize F198 N _=r at hx
    cases h1:qcmp .lss i (qlen (qfld d 4))<;>rw[h1]at hx
    ·cases hx
    ·cases h2:qinb (qfld d 4) i<;>rw[h2]at hx
     ·cases hx
     ·cases h3:qsome r<;>rw[h3]at hx
      ·cases hx
      ·simp only[cond_true,Option.some.injEq,Sum.inl.injEq]at hx
       exact⟨_,_,hx.symm⟩
  simp only[hloop]
  cases hq:qinb (qfld d 3) 0 with
  |true=>rw[h0 hq]
  |false=>simp only[cond_false]
theorem size_some:∀(N:Nat) (d:D),Conf PG 131 d→d.size<N→fmdT N d=true→∃n,F243 N [d]=some [.int n]:=by
 intro N
 induction N with
 |zero=>intro d _ h;omega
 |succ N ih=>
  intro d hd hs hf
  obtain⟨l3,l4,e3,e4⟩:=conf_types hd
  obtain⟨p1,p2,p3⟩:=fmdT_parts hf
  rw[F243_s,Fb243_eq,l243_12_eq]
  have hloop:∃r,loW (st243_12 (F243 N) [d]) [.int 0, .int 0]=some [.int 0, .int r]:=by
   have key:∀k i:Nat,i+k=(qfld d 4).toList.length→∀a:Int,∃r,loW (st243_12 (F243 N) [d]) [.int a, .int (i:Int)]=some [.int 0, .int r]:=by
    unfold maxLen at l4
    intro k
    induction k with
    |zero=>
     intro i hi a
     rw[loW_eq,st243_12_eq,qcmp_lss,qlen_c]
     exact⟨a,by simp[show¬((i:Int)<(qfld d 4).toList.length)by omega]⟩
    |succ k ihk=>
     intro i hi a
     have hl:i<(qfld d 4).toList.length:=by omega
     have hm:(qfld d 4).toList.getD i .other∈(qfld d 4).toList:=by rw[getD_lt hl];exact List.getElem_mem _
     obtain⟨n,hn⟩:=ih _ (e4 _ hm).1 (by have:=(e4 _ hm).2;omega) (p3 _ hm)
     have hre:D.agg [D.int (qint (qfld (qfld ((qfld d 4).toList.getD i .other) 1) 0)),D.int (qint (qfld (qfld ((qfld d 4).toList.getD i .other) 1) 1)),D.int (qint (qfld (qfld ((qfld d 4).toList.getD i .other) 1) 2)),qfld (qfld ((qfld d 4).toList.getD i .other) 1) 3,qfld (qfld ((qfld d 4).toList.getD i .other) 1) 4]=reT (qfld ((qfld d 4).toList.getD i .other) 1):=rfl
     rw[loW_eq,st243_12_eq,qcmp_lss,qlen_c,qinb_n hl,qget_n,hre,conf_reT (e4 _ hm).1,hn]
     simp only[show((i:Int)<(qfld d 4).toList.length)by omega,decide_true,cond_true,qsome_s,add_nat (show i<9223372036854775807 by omega)]
     exact ihk (i+1) (by omega) _
   have h:=key (qfld d 4).toList.length 0 (by omega) 0
   simp only[Int.natCast_zero]at h
   exact h
  obtain⟨r,hr⟩:=hloop
  simp only[hr,qsome_s,qcmp_eql,cond_true,qnth_s,List.getD_cons_zero,List.getD_cons_succ,qint_i]
  by_cases k4:qint (qfld d 0)=4
  ·have h1:=headT_four p1 k4
   have hm:qget (qfld d 3) 0∈(qfld d 3).toList:=by rw[qget_0,getD_lt (by omega)];exact List.getElem_mem _
   obtain⟨n,hn⟩:=ih _ (e3 _ hm).1 (by have:=(e3 _ hm).2;omega) (p2 _ hm)
   have hq:qinb (qfld d 3) 0=true:=qinb_n (i:=0) (by omega)
   simp only[k4,hq,hn,qsome_s,decide_true,cond_true,qiteB_c,show¬(4:Int)=1 by omega,show¬(4:Int)=2 by omega,show¬(4:Int)=3 by omega,decide_false,cond_false]
   exact⟨_,rfl⟩
  ·simp only[k4,decide_false,cond_false]
   cases qiteB (decide (qint (qfld d 0)=1)) (decide (qint (qfld d 0)=1)) (decide (qint (qfld d 0)=2))with
   |true=>exact⟨_,rfl⟩
   |false=>
    simp only[cond_false]
    cases decide (qint (qfld d 0)=3)with
    |true=>exact⟨_,rfl⟩
    |false=>
     simp only[cond_false]
     cases decide (qint (qfld d 0)=5)with
     |true=>exact⟨_,rfl⟩
     |false=>exact⟨_,rfl⟩
noncomputable def largeT:Nat→D→Bool
 |0,_=>false
 |N+1,d=>decide (65536<qint (qnth (q243 [d]) 0))||decide (64<(qfld d 4).toList.length)||((qfld d 3).toList.any (largeT N))||((qfld d 4).toList.any fun x=>largeT N (qfld x 1))
theorem any_one {l:List D} {p:D→Bool} (h:l.length=1):l.any p=p (l.getD 0 .other):=by
 match l,h with
 | [x],_=>simp
theorem largeT_spec:∀(N:Nat) (d:D),Conf PG 131 d→d.size<N→fmdT N d=true→F193 N [d]=some [.bool (largeT N d)]∧F158 N [d]=some [.bool (!largeT N d)]:=by
 intro N
 induction N with
 |zero=>intro d _ h;omega
 |succ N ih=>
  intro d hd hs hf
  obtain⟨l3,l4,e3,e4⟩:=conf_types hd
  obtain⟨p1,p2,p3⟩:=fmdT_parts hf
  have hq:q198 [d]=q243 [d]:=by rw[q198_eq,q243_eq];exact size_eq _ d hd (fuel_in (by simp))
  obtain⟨n,hn⟩:∃n,q243 [d]=some [.int n]:=by
   rw[q243_eq];exact size_some _ d hd (fuel_in (by simp)) (by rw[← hf];exact fmdT_irr _ _ d hd (fuel_in (by simp)) hs)
  have i1:∀x∈(qfld d 3).toList,F193 N [x]=some [.bool (largeT N x)]∧F158 N [x]=some [.bool (!largeT N x)]:=fun x hx=>ih x (e3 x hx).1 (by have:=(e3 x hx).2;omega) (p2 x hx)
  have i2:∀x∈(qfld d 4).toList,F193 N [reT (qfld x 1)]=some [.bool (largeT N (qfld x 1))]∧F158 N [reT (qfld x 1)]=some [.bool (!largeT N (qfld x 1))]:=fun x hx=>by
   rw[conf_reT (e4 x hx).1];exact ih _ (e4 x hx).1 (by have:=(e4 x hx).2;omega) (p3 x hx)
  have r1:=idxLoop (st:=st193_4 (F193 N) [d]) (l:=qfld d 3) (c:=fun x=>F193 N [x]) (p:=largeT N) (r1:=fun _=>[.int 1]) (r0:=[.int 0]) (fun i=>by rw[st193_4_eq]) l3 (fun x hx=>(i1 x hx).1)
  have r2:=idxLoop (st:=st193_9 (F193 N) [d]) (l:=qfld d 4) (c:=fun x=>F193 N [reT (qfld x 1)]) (p:=fun x=>largeT N (qfld x 1)) (r1:=fun _=>[.int 1]) (r0:=[.int 0]) (fun i=>by rw[st193_9_eq];rfl) l4 (fun x hx=>(i2 x hx).1)
  have r3:=idxLoop (st:=st158_4 (F158 N) [qfld d 4, .int (qlen (qfld d 4)),d]) (l:=qfld d 4) (c:=fun x=>(F158 N [reT (qfld x 1)]).map fun r=>[.bool (qnot (qbool (r.getD 0 .other)))]) (p:=fun x=>largeT N (qfld x 1)) (r1:=fun _=>[.int 1]) (r0:=[.int 0])
   (fun i=>by
    rw[st158_4_eq]
    have hre:D.agg [D.int (qint (qfld (qfld (qget (qfld d 4) i) 1) 0)),D.int (qint (qfld (qfld (qget (qfld d 4) i) 1) 1)),D.int (qint (qfld (qfld (qget (qfld d 4) i) 1) 2)),qfld (qfld (qget (qfld d 4) i) 1) 3,qfld (qfld (qget (qfld d 4) i) 1) 4]=reT (qfld (qget (qfld d 4) i) 1):=rfl
    rw[hre]
    cases hq:F158 N [reT (qfld (qget (qfld d 4) i) 1)]with
    |none=>simp[qsome_n]
    |some r=>simp[qsome_s,qnth_s,qbool_b]) l4 (fun x hx=>by rw[(i2 x hx).2];simp[qbool_b,qnot_c])
  rw[F193_s,F158_s,Fb193_eq,Fb158_eq,l193_4_eq,l193_9_eq,l158_4_eq,hq,hn]
  simp only[largeT,hn,qsome_s,qnth_s,List.getD_cons_zero,qint_i,qcmp_gtr,qlen_c,qiteB_c,cond_true,qcmp_eql]
  have hlen:=headT_one p1
  have h3:(qfld d 3).toList.length=1→qinb (qfld d 3) 0=true∧F158 N [qget (qfld d 3) 0]=some [.bool (!(qfld d 3).toList.any (largeT N))]:=fun h=>by
   have hm:(qfld d 3).toList.getD 0 .other∈(qfld d 3).toList:=by rw[getD_lt (by omega)];exact List.getElem_mem _
   exact⟨qinb_n (i:=0) (by omega),by rw[qget_0,any_one h];exact(i1 _ hm).2⟩
  have h30:(qfld d 3).toList.length=0→(qfld d 3).toList.any (largeT N)=false:=fun h=>by rw[List.length_eq_zero_iff.1 h];rfl
  rw[qlen_c]at r3
  generalize ((qfld d 3).toList.any (largeT N))=a at *
  generalize ((qfld d 4).toList.any fun x=>largeT N (qfld x 1))=b at *
  generalize loW (st193_4 (F193 N) [d]) [.int 0]=x1 at *
  generalize loW (st193_9 (F193 N) [d]) [.int 0]=x2 at *
  generalize loW (st158_4 (F158 N) [qfld d 4, .int ((qfld d 4).toList.length:Int),d]) [.int 0]=x3 at *
  generalize F158 N [qget (qfld d 3) 0]=x4 at *
  generalize qinb (qfld d 3) 0=x5 at *
  clear i1 i2 e3 e4 p2 p3 ih hq
  have hn4:decide ((64:Int)<((qfld d 4).toList.length:Int))=decide (64<(qfld d 4).toList.length):=by by_cases h:64<(qfld d 4).toList.length<;>simp[h]<;>omega
  rw[hn4]
  generalize decide (64<(qfld d 4).toList.length)=c1
  generalize decide (65536<n)=c2
  generalize (qfld d 3).toList.length=n3 at *
  have h01:n3=0∨n3=1:=by omega
  rcases r1 with⟨rfl,rfl⟩|⟨_,rfl,rfl⟩<;>rcases r2 with⟨rfl,rfl⟩|⟨_,rfl,rfl⟩<;>rcases r3 with⟨rfl,h3'⟩|⟨_,rfl,h3'⟩<;>first|(cases h3';done)|skip
  all_goals
   rcases h01 with rfl|rfl
   ·first
    | (have:=h30 rfl;cases this;done)
    | (cases c1<;>cases c2<;>simp[qsome_s,qnth_s,qint_i])
   ·obtain⟨rfl,rfl⟩:=h3 rfl
    cases c1<;>cases c2<;>simp[qsome_s,qnth_s,qint_i,qbool_b,qand_eq]
theorem typeCheck {d:D} (hd:Conf PG 131 d):∃e:Int,q95 [d]=some [.int e]∧q147 [d]=some [.int e]:=by
 obtain⟨a1,a2⟩:=deepT_spec (fuelL [d, .int 64]) d 64 hd (fuel_in (by simp)) (by omega) (by omega)
 obtain⟨b1,b2⟩:=fmdT_spec (fuelL [d]) d hd (fuel_in (by simp))
 rw[q95_eq,F95_eq,q147_eq,F147_eq,q156_eq,q157_eq,q158_eq,q191_eq,q192_eq,q193_eq]
 simp only[a1,a2,b1,b2,qsome_s,qnth_s,List.getD_cons_zero,qbool_b,qnot_c,cond_true,Bool.not_not]
 cases deepT (fuelL [d, .int 64]) d 64 with
 |true=>exact⟨20,rfl,rfl⟩
 |false=>
  simp only[cond_false]
  cases hf:fmdT (fuelL [d]) d with
  |false=>exact⟨2,rfl,rfl⟩
  |true=>
   obtain⟨c1,c2⟩:=largeT_spec (fuelL [d]) d hd (fuel_in (by simp)) hf
   simp only[c1,c2,qsome_s,qnth_s,List.getD_cons_zero,qbool_b,Bool.not_not,Bool.not_true,cond_false,cond_true]
   cases largeT (fuelL [d]) d with
   |true=>exact⟨6,rfl,rfl⟩
   |false=>exact⟨0,rfl,rfl⟩
end Go.Proofs.YteccopaonadbeaaGreatDoor
namespace Go.Proofs.YteccopaonadbeaaGreatDoor
set_option linter.unusedSimpArgs false
open Go Go.AM
def firstE (p:Nat→Int):Nat→Nat→Int
 |_,0=>0
 |i,k+1=>if p i=0 then firstE p (i+1) k else p i
def errOut (e:Int):List D:=if e=0 then[.int 0]else[.int 1, .int e]
theorem firstE_congr {p p':Nat→Int}:∀(k i:Nat),(∀j,i≤j→j<i+k→(∀m,i≤m→m<j→p m=0)→p j=p' j)→firstE p i k=firstE p' i k
 |0,_,_=>rfl
 |k+1,i,h=>by
  have h0:=h i (Nat.le_refl _) (by omega) (fun m h1 h2=>by omega)
  simp only[firstE]
  rw[← h0]
  by_cases hz:p i=0
  ·rw[if_pos hz,if_pos hz]
   exact firstE_congr k (i+1) fun j h1 h2 h3=>h j (by omega) (by omega) fun m h4 h5=>by
    by_cases hm:m=i
    ·subst hm;exact hz
    ·exact h3 m (by omega) h5
  ·rw[if_neg hz,if_neg hz]
theorem errLoop {st:List D→Option (Sum (List D) (List D))} {n:Nat} {enc:Nat→List D} {p:Nat→Int} (h0:st (enc n)=some (.inr [.int 0]))
 (h1:∀i,i<n→(∀m,m<i→p m=0)→st (enc i)=if p i=0 then some (.inl (enc (i+1)))else some (.inr [.int 1, .int (p i)])):loW st (enc 0)=some (errOut (firstE p 0 n)):=by
 have key:∀k i:Nat,i+k=n→(∀m,m<i→p m=0)→loW st (enc i)=some (errOut (firstE p i k)):=by
  intro k
  induction k with
  |zero=>intro i hi _;obtain rfl:i=n:=by omega
         rw[loW_eq,h0];rfl
  |succ k ih=>
   intro i hi hp
   rw[loW_eq,h1 i (by omega) hp]
   simp only[firstE]
   by_cases hz:p i=0
   ·rw[if_pos hz,if_pos hz]
    exact ih (i+1) (by omega) fun m hm=>by
     by_cases h:m=i
     ·subst h;exact hz
     ·exact hp m (by omega)
   ·rw[if_neg hz,if_neg hz]
    simp[errOut,hz]
 exact key n 0 (by omega) (fun m h=>by omega)
theorem errRes (e:Int):(bif qsome (some (errOut e))then bif qcmp .eql (qint (qnth (some (errOut e)) 0)) 0 then some [D.int 0]else some [.int (qint (qnth (some (errOut e)) 1))]else none)=some [.int e]:=by
 by_cases h:e=0
 ·subst h;simp[errOut,qsome_s,qnth_s,qint_i,qcmp_eql]
 ·simp[errOut,h,qsome_s,qnth_s,qint_i,qcmp_eql]
theorem qsub_l (d:D) (i:Nat):(qsub d 0 (i:Int)).toList=d.toList.take i:=by rw[qsub_eq];simp[D.sub,D.toList]
theorem qlen_l (xs:List D):qlen (.list xs)=(xs.length:Int):=by rw[qlen_c];rfl
theorem qapp_l (xs ys:List D):qapp (.list xs) (.list ys) = .list (xs++ys):=by rw[qapp_eq];rfl
theorem qmem_big {n z:Nat} (hn:n≤1000000000) (hz:z≤1000):qmem (n:Int) z=true:=by
 rw[qmem_eq]
 unfold rmem
 have h1:n*z≤1000000000*1000:=Nat.mul_le_mul hn hz
 have h2:((n*z:Nat):Int)=(n:Int)*(z:Int):=by simp
 simp
 omega
theorem conf_str {d:D} (h:Conf PG 9 d):∃s,d = .str s:=by
 have ht:=str9
 unfold isStrT at ht
 cases hu:PG.underlying 9 with
 |none=>rw[hu]at ht;cases ht
 |some td=>
  rw[hu]at ht
  cases h with
  |str h1 hl=>exact⟨_,rfl⟩
  |slice h1 hl hd=>rw[h1]at hu;cases hu;cases ht
  |struct h1=>rw[h1]at hu;cases hu;cases ht
  |bool h1=>rw[h1]at hu;cases hu;cases ht
  |int h1=>rw[h1]at hu;cases hu;cases ht
  |array h1=>rw[h1]at hu;cases hu;cases ht
  |other h1=>unfold isOther at h1;rw[hu]at h1;cases td<;>simp_all
theorem len65:structLen 133=1+1:=by kernel_rfl
theorem f65_0:isFld 133 0 9=true:=by kernel_rfl
theorem f65_1:isFld 133 1 131=true:=by kernel_rfl
theorem s35:isSl 29 133=true:=by kernel_rfl
noncomputable def reV (d:D):D:= .agg [.str (qstr (qfld d 0)),reT (qfld d 1)]
theorem conf_reV {d:D} (h:Conf PG 133 d):reV d=d:=by
 obtain⟨ds,rfl,hl⟩:=conf_agg len65 h
 match ds,hl with
 | [a,b],_=>
   obtain⟨s,h0⟩:=conf_str (conf_fldC f65_0 h)
   have h1:Conf PG 131 b:=conf_fldC f65_1 h
   obtain rfl:a = .str s:=h0
   simp[reV,qfld_a,qstr_s,conf_reT h1]
theorem hasB_app (xs ys:List D) (s:ByteArray):hasB (.list (xs++ys)) s=(hasB (.list xs) s||hasB (.list ys) s):=by
 unfold hasB;simp[D.toList]
theorem hasB_list {v:D} {xs:List D} (h:v.toList=xs) (s:ByteArray):hasB v s=hasB (.list xs) s:=by
 unfold hasB;rw[h];rfl
noncomputable def varE (b l:List D) (i:Nat):Int:=
 if nameB (qstr (qfld (l.getD i .other) 0))=false then 3
 else if hasB (.list (b++l.take i)) (qstr (qfld (l.getD i .other) 0))then 8
 else qint (qnth (q147 [qfld (l.getD i .other) 1]) 0)
noncomputable def varsE (b l:List D):Int:=firstE (varE b l) 0 l.length
theorem strlen65 {x:D} (h:Conf PG 133 x):(qstr (qfld x 0)).size≤maxLen:=by rw[qfld_eq];exact conf_strlen (conf_fldC f65_0 h)
theorem vars_eq {b l:List D} (hb:b.length≤1000000) (hl:l.length≤1000000) (hc:∀x∈l,Conf PG 133 x):q57 [.list b, .list l]=some [.int (varsE b l)]∧q84 [.list b, .list l]=some [.int (varsE b l)]:=by
 have hmx:maxLen=9223372036854775807∨10000000<maxLen:=by unfold maxLen;omega
 have hml:∀n:Nat,n≤10000000→n≤maxLen:=fun n h=>by unfold maxLen;omega
 have facts:∀i,i<l.length→∃e:Int,Conf PG 133 (l.getD i .other)∧q95 [reT (qfld (l.getD i .other) 1)]=some [.int e]∧q147 [reT (qfld (l.getD i .other) 1)]=some [.int e]∧qint (qnth (q147 [qfld (l.getD i .other) 1]) 0)=e:=fun i hi=>by
  have hm:l.getD i .other∈l:=by rw[getD_lt hi];exact List.getElem_mem hi
  have h1:Conf PG 131 (qfld (l.getD i .other) 1):=by rw[qfld_eq];exact conf_fldC f65_1 (hc _ hm)
  obtain⟨e,e1,e2⟩:=typeCheck h1
  exact⟨e,hc _ hm,by rw[conf_reT h1];exact e1,by rw[conf_reT h1];exact e2,by rw[e2];simp[qnth_s,qint_i]⟩
 have hre:∀x:D,D.agg [D.int (qint (qfld (qfld x 1) 0)),D.int (qint (qfld (qfld x 1) 1)),D.int (qint (qfld (qfld x 1) 2)),qfld (qfld x 1) 3,qfld (qfld x 1) 4]=reT (qfld x 1):=fun x=>rfl
 constructor
 ·have hcl:q93 [.list b]=some [.list b]:=by
   rw[q93_eq];unfold F93
   have:qapp (D.list []) (List.headD [D.list b] .other) = .list b:=by show qapp (D.list []) (D.list b)=_;rw[qapp_l];rfl
   rw[this,qlen_l,qmem_big (by omega) (by omega)];rfl
  rw[q57_eq,F57_eq,hcl]
  simp only[qsome_s,qnth_s,List.getD_cons_zero,cond_true,l57_3_eq,qlen_l]
  have hloop:=errLoop (st:=st57_3 [.list l, .int (l.length:Int)]) (n:=l.length) (enc:=fun i=>[.int (i:Int), .list (b++l.take i)]) (p:=varE b l)
   (by rw[st57_3_eq];simp[qcmp_lss]) (fun i hi hp=>by
    obtain⟨e,f1,f2,f3,f4⟩:=facts i hi
    have hq:qget (.list l) (i:Int)=l.getD i .other:=by rw[qget_n];rfl
    have hin:qinb (.list l) (i:Int)=true:=qinb_n (d:= .list l) hi
    obtain⟨n1,_⟩:=nameB_spec (strlen65 f1)
    have hlen:(b++l.take i).length≤2000000:=by simp;omega
    obtain⟨k1,_⟩:=has_spec (v:= .list (b++l.take i)) (hml _ (by show(b++l.take i).length≤_;omega)) (qstr (qfld (l.getD i .other) 0))
    have hrv:D.agg [D.str (qstr (qfld (l.getD i .other) 0)),reT (qfld (l.getD i .other) 1)]=l.getD i .other:=conf_reV f1
    rw[st57_3_eq]
    simp only[qcmp_lss,qcmp_neq,show(i:Int)<(l.length:Int)by omega,decide_true,cond_true,hin,hq,hre,n1,k1,f2,qsome_s,qnth_s,List.getD_cons_zero,qbool_b,qnot_c,qint_i,hrv,qapp_l,qlen_l]
    rw[qmem_big (by simp;omega) (by omega)]
    unfold varE
    rw[f4]
    cases nameB (qstr (qfld (l.getD i .other) 0))with
    |false=>simp
    |true=>
     cases hasB (.list (b++l.take i)) (qstr (qfld (l.getD i .other) 0))with
     |true=>simp
     |false=>
      by_cases he:e=0
      ·simp only[he,Bool.not_true,cond_false,cond_true,decide_true,Bool.false_eq_true,if_false,if_true,reduceCtorEq]
       rw[add_nat (by omega),List.append_assoc,List.take_succ_eq_append_getElem hi,getD_lt hi]
      ·simp[he])
  simp only[Int.natCast_zero,List.take_zero,List.append_nil]at hloop
  simp only[hloop]
  exact errRes _
 ·rw[q84_eq,F84_eq,l84_2_eq]
  have hloop:=errLoop (st:=st84_2 [.list b, .list l]) (n:=l.length) (enc:=fun i=>[.int (i:Int)]) (p:=varE b l)
   (by rw[st84_2_eq,qlen_l];simp[qcmp_lss]) (fun i hi hp=>by
    obtain⟨e,f1,f2,f3,f4⟩:=facts i hi
    have hq:qget (.list l) (i:Int)=l.getD i .other:=by rw[qget_n];rfl
    have hin:qinb (.list l) (i:Int)=true:=qinb_n (d:= .list l) hi
    obtain⟨_,n1⟩:=nameB_spec (strlen65 f1)
    obtain⟨_,k1⟩:=has_spec (v:= .list b) (hml _ (by show b.length≤_;omega)) (qstr (qfld (l.getD i .other) 0))
    obtain⟨_,k2⟩:=has_spec (v:=qsub (.list l) 0 (i:Int)) (hml _ (by rw[qsub_l];show(l.take i).length≤_;simp;omega)) (qstr (qfld (l.getD i .other) 0))
    have hs:hasB (qsub (.list l) 0 (i:Int)) (qstr (qfld (l.getD i .other) 0))=hasB (.list (l.take i)) (qstr (qfld (l.getD i .other) 0)):=hasB_list (by rw[qsub_l];rfl) _
    rw[st84_2_eq]
    simp only[qcmp_lss,qcmp_leq,qcmp_neq,show(i:Int)<(l.length:Int)by omega,show(0:Int)≤(i:Int)by omega,show(i:Int)≤(l.length:Int)by omega,show(0:Int)≤0 by omega,decide_true,cond_true,hin,hq,hre,n1,k1,k2,hs,f3,qsome_s,qnth_s,List.getD_cons_zero,qbool_b,qnot_c,qint_i,qlen_l]
    unfold varE
    rw[f4,hasB_app]
    cases nameB (qstr (qfld (l.getD i .other) 0))with
    |false=>simp
    |true=>
     cases hasB (.list b) (qstr (qfld (l.getD i .other) 0))with
     |true=>simp
     |false=>
      cases hasB (.list (l.take i)) (qstr (qfld (l.getD i .other) 0))with
      |true=>simp
      |false=>
       by_cases he:e=0
       ·simp only[he,Bool.not_true,cond_false,cond_true,decide_true,Bool.false_eq_true,if_false,if_true,reduceCtorEq,Bool.or_false]
        rw[add_nat (by omega)]
       ·simp[he])
  simp only[Int.natCast_zero]at hloop
  simp only[hloop]
  exact errRes _
end Go.Proofs.YteccopaonadbeaaGreatDoor
namespace Go.Proofs.YteccopaonadbeaaGreatDoor
noncomputable section
set_option linter.unusedSimpArgs false
open Go Go.AM
def foldN {A:Type} (f:Nat→A→A):Nat→Nat→A→A
 |_,0,a=>a
 |i,k+1,a=>foldN f (i+1) k (f i a)
theorem foldLoop {A:Type} {st:List D→Option (Sum (List D) (List D))} {n:Nat} {enc:Nat→A→List D} {f:Nat→A→A} {fin:A→List D} {I:Nat→A→Prop} (h0:∀a,I n a→st (enc n a)=some (.inr (fin a)))
 (h1:∀i a,i<n→I i a→st (enc i a)=some (.inl (enc (i+1) (f i a)))∧I (i+1) (f i a)) {a:A} (ha:I 0 a):loW st (enc 0 a)=some (fin (foldN f 0 n a))∧I n (foldN f 0 n a):=by
 have key:∀k i a,i+k=n→I i a→loW st (enc i a)=some (fin (foldN f i k a))∧I n (foldN f i k a):=by
  intro k
  induction k with
  |zero=>intro i a hi ha;obtain rfl:i=n:=by omega
         exact⟨by rw[loW_eq,h0 a ha];rfl,ha⟩
  |succ k ih=>
   intro i a hi ha
   obtain⟨e,ha'⟩:=h1 i a (by omega) ha
   rw[loW_eq,e]
   exact ih (i+1) (f i a) (by omega) ha'
 exact key n 0 a (by omega) ha
theorem foldN_list {A:Type} (g:D→A→A):∀(l pre:List D) (a:A),foldN (fun i a=>g ((pre++l).getD i .other) a) pre.length l.length a=l.foldl (fun a x=>g x a) a
 | [],pre,a=>rfl
 |x::l,pre,a=>by
  simp only[List.length_cons,foldN,List.foldl_cons]
  have h:(pre++x::l).getD pre.length .other=x:=by simp[List.getD]
  rw[h]
  have ih:=foldN_list g l (pre ++ [x]) (g x a)
  simp only[List.append_assoc,List.cons_append,List.nil_append,List.length_append,List.length_cons,List.length_nil]at ih
  exact ih
theorem foldN_list0 {A:Type} (g:D→A→A) (l:List D) (a:A):foldN (fun i a=>g (l.getD i .other) a) 0 l.length a=l.foldl (fun a x=>g x a) a:=foldN_list g l [] a
theorem size_mem {l x:D} (h:x∈l.toList):x.size<l.size:=by
 cases l with
 |list xs=>
  obtain⟨i,hi⟩:=List.getElem?_of_mem h
  have hi:xs[i]? = some x:=hi
  have:=sizes_get hi
  simp only[D.size];omega
 |_=>simp[D.toList]at h
theorem tl (xs:List D):(D.list xs).toList=xs:=rfl
theorem len187:structLen 102=6+1:=by kernel_rfl
theorem f187_0:isFld 102 0 3=true:=by kernel_rfl
theorem f187_1:isFld 102 1 3=true:=by kernel_rfl
theorem f187_2:isFld 102 2 9=true:=by kernel_rfl
theorem f187_3:isFld 102 3 99=true:=by kernel_rfl
theorem f187_4:isFld 102 4 59=true:=by kernel_rfl
theorem f187_5:isFld 102 5 59=true:=by kernel_rfl
theorem f187_6:isFld 102 6 100=true:=by kernel_rfl
theorem s36:isSl 59 102=true:=by kernel_rfl
theorem s185:isSl 100 59=true:=by kernel_rfl
def reN (d:D):D:= .agg [.int (qint (qfld d 0)), .int (qint (qfld d 1)), .str (qstr (qfld d 2)),qfld d 3,qfld d 4,qfld d 5,qfld d 6]
theorem conf_reN {d:D} (h:Conf PG 102 d):reN d=d:=by
 obtain⟨ds,rfl,hl⟩:=conf_agg len187 h
 match ds,hl with
 | [a,b,c,x3,x4,x5,x6],_=>
   obtain⟨n0,h0⟩:=conf_int int3 (conf_fldC f187_0 h)
   obtain⟨n1,h1⟩:=conf_int int3 (conf_fldC f187_1 h)
   obtain⟨s,h2⟩:=conf_str (conf_fldC f187_2 h)
   obtain rfl:a = .int n0:=h0
   obtain rfl:b = .int n1:=h1
   obtain rfl:c = .str s:=h2
   simp[reN,qfld_a,qint_i,qstr_s]
def kids (s:D):List D:=qfld s 4::qfld s 5::(qfld s 6).toList
theorem kids_conf {s x:D} (h:Conf PG 102 s) (hx:x∈kids s):Conf PG 59 x∧x.size<s.size:=by
 have hf:∀j,j<7→(qfld s j).size<s.size:=fun j hj=>by
  obtain⟨ds,rfl,hl⟩:=conf_agg len187 h
  rw[qfld_eq];exact size_fld ⟨ds,rfl,by omega⟩
 unfold kids at hx
 simp only[List.mem_cons]at hx
 rcases hx with rfl|rfl|hx
 ·exact⟨by rw[qfld_eq];exact conf_fldC f187_4 h,hf 4 (by omega)⟩
 ·exact⟨by rw[qfld_eq];exact conf_fldC f187_5 h,hf 5 (by omega)⟩
 ·have h6:Conf PG 100 (qfld s 6):=by rw[qfld_eq];exact conf_fldC f187_6 h
  have:=size_mem hx
  exact⟨(conf_el s185 h6).2.2 x hx,by have:=hf 6 (by omega);omega⟩
theorem node_conf {l s:D} (h:Conf PG 59 l) (hs:s∈l.toList):Conf PG 102 s∧s.size<l.size:=⟨(conf_el s36 h).2.2 s hs,size_mem hs⟩
def Sm:Nat→D→Prop
 |0,_=>False
 |N+1,l=>∀s∈l.toList,(qfld s 6).toList.length≤100000∧∀x∈kids s,Sm N x
def cnt:Nat→D→Nat
 |0,_=>0
 |N+1,l=>(l.toList.map fun s=>1+((kids s).map (cnt N)).sum).sum
theorem sub_empty (d:D):qsub d 0 0 = .list []:=by rw[qsub_eq];simp[D.sub]
theorem grow_spec {n:Int} (h:0≤n∧n≤1000000):q250 [.int n]=some [.list []]:=by
 rw[q250_eq,F250_eq]
 obtain⟨m,rfl⟩:∃m:Nat,n=(m:Int):=⟨n.toNat,by omega⟩
 have e0:qbin .sub .i64 (m:Int) 0=m:=by rw[sub64 (by omega) (by omega)];omega
 simp only[e0,qcmp_lss,qcmp_gtr,qcmp_leq,qcmp_eql,sub_empty,qlen_l,qmem_big (show m≤1000000000 by omega) (show 24≤1000 by omega)]
 by_cases h0:m=0
 ·subst h0;simp
 ·simp[show¬((m:Int)<0)by omega,show 0<m by omega]
theorem qapp_lt (xs:List D) (d:D):qapp (.list xs) d = .list (xs++d.toList):=by rw[qapp_eq];rfl
theorem lists_spec {s:D} (h:(qfld s 6).toList.length≤100000):q160 [s]=some [.list (kids s)]:=by
 rw[q160_eq,F160_eq]
 have e:qbin .add .i64 2 (qlen (qfld s 6))=((2+(qfld s 6).toList.length:Nat):Int):=by
  rw[qlen_c,add64 (by omega) (by omega)];omega
 simp only[e,grow_spec (n:=((2+(qfld s 6).toList.length:Nat):Int)) (by omega),qsome_s,qnth_s,List.getD_cons_zero,qcmp_lss,qapp_l,qapp_lt,tl,qlen_l,cond_true]
 rw[qmem_big (by simp) (by omega),qmem_big (by simp;omega) (by omega)]
 simp[kids,show¬((2:Int)+((qfld s 6).toList.length:Int)<0)by omega]
def maxL (l:List Nat):Nat:=l.foldr max 0
def dep:Nat→D→Nat
 |0,_=>0
 |N+1,l=>maxL (l.toList.map fun s=>1+maxL ((kids s).map (dep N)))
theorem maxL_map_le {α:Type} {f g:α→Nat}:∀(l:List α),(∀x∈l,f x≤g x)→maxL (l.map f)≤(l.map g).sum
 | [],_=>Nat.le_refl _
 |x::l,h=>by
  have:=maxL_map_le l fun y hy=>h y (by simp[hy])
  have:=h x (by simp)
  simp only[maxL,List.map_cons,List.foldr_cons,List.sum_cons]at *;omega
theorem dep_le:∀(N:Nat) (l:D),dep N l≤cnt N l
 |0,_=>Nat.le_refl _
 |N+1,l=>by
  simp only[dep,cnt]
  refine maxL_map_le _ fun s _=> ?_
  have:=maxL_map_le (f:=dep N) (g:=cnt N) (kids s) fun x _=>dep_le N x
  omega
theorem sum_mem {l:List Nat} {x:Nat} (h:x∈l):x≤l.sum:=by
 induction l with
 |nil=>cases h
 |cons y l ih=>
  simp only[List.sum_cons]
  rcases List.mem_cons.1 h with rfl|h
  ·omega
  ·have:=ih h;omega
theorem cnt_mem {N:Nat} {l s:D} (h:s∈l.toList):1+((kids s).map (cnt N)).sum≤cnt (N+1) l:=sum_mem (List.mem_map.2 ⟨s,h,rfl⟩)
theorem cnt_kid {N:Nat} {s x:D} (h:x∈kids s):cnt N x≤((kids s).map (cnt N)).sum:=sum_mem (List.mem_map.2 ⟨x,h,rfl⟩)
theorem qmm_max (a b:Nat):qmm .gtr (a:Int) (b:Int)=((max a b:Nat):Int):=by
 rw[qmm_eq];simp only[rmm,rcmp]
 by_cases h:b<a<;>simp[h]<;>omega
theorem foldl_max {α:Type} (f:α→Nat):∀(l:List α) (a:Nat),l.foldl (fun a x=>max a (f x)) a=max a (maxL (l.map f))
 | [],a=>by simp[maxL]
 |x::l,a=>by
  rw[List.foldl_cons,foldl_max f l]
  simp only[maxL,List.map_cons,List.foldr_cons];omega
theorem maxL_one {α:Type} {f:α→Nat} (l:List α):max 1 (maxL (l.map fun x=>1+f x))=1+maxL (l.map f):=by
 induction l with
 |nil=>rfl
 |cons x l ih=>simp only[maxL,List.map_cons,List.foldr_cons]at *;omega
theorem depth_spec:∀(N:Nat) (l:D),Conf PG 59 l→l.size<N→Sm N l→cnt N l≤1000000→F99 N [l]=some [.int (dep N l)]:=by
 intro N
 induction N with
 |zero=>intro l _ h;omega
 |succ N ih=>
  intro l hc hs hm hn
  rw[F99_s,Fb99_eq,l99_3_eq]
  have hlen:=(conf_el s36 hc).1
  unfold maxLen at hlen
  have inner:∀s∈l.toList,∀(a:Int) (b:D) (c d:Int),l99_7 (F99 N) [.int a,b, .int c, .int d, .list (kids s), .int ((kids s).length:Int)] [.int 1, .int 0]=some [.int 0, .int ((1+maxL ((kids s).map (dep N)):Nat):Int)]:=by
   intro s hsm a b c d
   obtain⟨h1,h2⟩:=node_conf hc hsm
   have hk:=(hm s hsm).2
   have hcm:=cnt_mem (N:=N) hsm
   rw[l99_7_eq]
   have hkl:(kids s).length≤100002:=by have:=(hm s hsm).1;simp[kids];omega
   have hloop:=(foldLoop (A:=Nat) (st:=st99_7 (F99 N) [.int a,b, .int c, .int d, .list (kids s), .int ((kids s).length:Int)]) (n:=(kids s).length) (enc:=fun i m=>[.int (m:Int), .int (i:Int)])
    (f:=fun i m=>max m (1+dep N ((kids s).getD i .other))) (fin:=fun m=>[.int 0, .int (m:Int)]) (I:=fun _ _=>True)
    (fun m _=>by rw[st99_7_eq];simp[qcmp_lss]) (fun i m hi _=>by
     have hx:(kids s).getD i .other∈kids s:=by rw[getD_lt hi];exact List.getElem_mem hi
     obtain⟨k1,k2⟩:=kids_conf h1 hx
     have hc2:=cnt_kid (N:=N) hx
     have e:=ih _ k1 (by omega) (hk _ hx) (by omega)
     have hd:=dep_le N ((kids s).getD i .other)
     have hq:qget (.list (kids s)) (i:Int)=(kids s).getD i .other:=by rw[qget_n];rfl
     have hin:qinb (.list (kids s)) (i:Int)=true:=qinb_n (d:= .list (kids s)) hi
     refine⟨?_,trivial⟩
     rw[st99_7_eq]
     simp only[qcmp_lss,show(i:Int)<((kids s).length:Int)by omega,decide_true,cond_true,hin,hq,e,qsome_s,qnth_s,List.getD_cons_zero,qint_i]
     rw[add_nat (by omega),add64 (by omega) (by omega)]
     rw[show(1:Int)+((dep N ((kids s).getD i .other):Nat):Int)=((1+dep N ((kids s).getD i .other):Nat):Int)by omega,qmm_max]) (a:=1) trivial).1
   rw[foldN_list0 (g:=fun x m=>max m (1+dep N x))]at hloop
   rw[foldl_max (fun x=>1+dep N x),maxL_one]at hloop
   exact hloop
  have hloop:=(foldLoop (A:=Nat) (st:=st99_3 (F99 N) [l, .int (qlen l)]) (n:=l.toList.length) (enc:=fun i m=>[.int (m:Int), .int (i:Int)])
   (f:=fun i m=>max m (1+maxL ((kids (l.toList.getD i .other)).map (dep N)))) (fin:=fun m=>[.int 0, .int (m:Int)]) (I:=fun _ _=>True)
   (fun m _=>by rw[st99_3_eq,qlen_c];simp[qcmp_lss]) (fun i m hi _=>by
    have hx:l.toList.getD i .other∈l.toList:=by rw[getD_lt hi];exact List.getElem_mem hi
    refine⟨?_,trivial⟩
    rw[st99_3_eq,qlen_c,qinb_n hi,qget_n,lists_spec (hm _ hx).1]
    simp only[qcmp_lss,show(i:Int)<(l.toList.length:Int)by omega,decide_true,cond_true,qsome_s,qnth_s,List.getD_cons_zero,List.getD_cons_succ,qlen_l,inner _ hx,qint_i,qmm_max]
    rw[add_nat (by omega)]) (a:=0) trivial).1
  rw[foldN_list0 (g:=fun s m=>max m (1+maxL ((kids s).map (dep N)))),foldl_max (fun s=>1+maxL ((kids s).map (dep N)))]at hloop
  simp only[Int.natCast_zero,Nat.zero_max]at hloop
  simp only[hloop,qsome_s,qnth_s,List.getD_cons_zero,List.getD_cons_succ,qint_i,cond_true,dep]
end
end Go.Proofs.YteccopaonadbeaaGreatDoor
namespace Go.Proofs.YteccopaonadbeaaGreatDoor
set_option linter.unusedSimpArgs false
open Go Go.AM
noncomputable def loopS (s:D):Bool:=decide (qint (qfld s 0)=7)||decide (qint (qfld s 0)=8)
noncomputable def flP:Nat→D→Bool→List D
 |0,_,_=>[]
 |N+1,l,b=>l.toList.flatMap fun s=> .agg [s, .bool b]::(kids s).flatMap fun x=>flP N x (b||loopS s)
noncomputable def flR:Nat→D→Bool→List D
 |0,_,_=>[]
 |N+1,l,b=>l.toList.flatMap fun s=> .agg [s, .bool b]::(flR N (qfld s 4) (b||loopS s)++flR N (qfld s 5) b++(qfld s 6).toList.flatMap fun x=>flR N x b)
theorem flatMap_len {α:Type} {f:α→List D} {g:α→Nat}:∀(l:List α),(∀x∈l,(f x).length=g x)→(l.flatMap f).length=(l.map g).sum
 | [],_=>rfl
 |x::l,h=>by
  have:=flatMap_len l fun y hy=>h y (by simp[hy])
  simp only[List.flatMap_cons,List.length_append,List.map_cons,List.sum_cons,this,h x (by simp)]
theorem flP_len:∀(N:Nat) (l:D) (b:Bool),(flP N l b).length=cnt N l
 |0,_,_=>rfl
 |N+1,l,b=>by
  simp only[flP,cnt]
  refine flatMap_len _ fun s _=> ?_
  rw[List.length_cons,flatMap_len (g:=cnt N) _ fun x _=>flP_len N x _];omega
theorem flR_len:∀(N:Nat) (l:D) (b:Bool),(flR N l b).length=cnt N l
 |0,_,_=>rfl
 |N+1,l,b=>by
  simp only[flR,cnt]
  refine flatMap_len _ fun s _=> ?_
  rw[List.length_cons,List.length_append,List.length_append,flR_len,flR_len,flatMap_len (g:=cnt N) _ fun x _=>flR_len N x _]
  simp[kids];omega
theorem take_flat {f:D→List D} {l:List D} {i:Nat} (h:i<l.length):(l.take (i+1)).flatMap f=(l.take i).flatMap f++f (l.getD i .other):=by
 rw[List.take_succ_eq_append_getElem h,List.flatMap_append,getD_lt h];simp
theorem len_take_flat {f:D→List D} {l:List D} (i:Nat):((l.take i).flatMap f).length≤(l.flatMap f).length:=by
 have:l.flatMap f=(l.take i).flatMap f++(l.drop i).flatMap f:=by rw[← List.flatMap_append,List.take_append_drop]
 rw[this,List.length_append];omega
theorem all_spec:∀(N:Nat) (l:D) (b:Bool),Conf PG 59 l→l.size<N→Sm N l→cnt N l≤1000000→F100 N [l, .bool b]=some [.list (flP N l b)]:=by
 intro N
 induction N with
 |zero=>intro l _ _ h;omega
 |succ N ih=>
  intro l b hc hs hm hn
  rw[F100_s,Fb100_eq,l100_3_eq]
  have hlen:=(conf_el s36 hc).1
  unfold maxLen at hlen
  have inner:∀s∈l.toList,∀(a:D) (c d:Int) (acc:List D),acc.length+((kids s).map (cnt N)).sum≤1000000→l100_7 (F100 N) [.bool b,a, .int c, .int d, .list (kids s), .int ((kids s).length:Int),s] [.int 0, .list acc] =
   some [.int 0, .list (acc++(kids s).flatMap fun x=>flP N x (b||loopS s))]:=by
   intro s hsm a c d acc hacc
   obtain⟨h1,h2⟩:=node_conf hc hsm
   have hk:=(hm s hsm).2
   have hcm:=cnt_mem (N:=N) hsm
   have hfl:((kids s).flatMap fun x=>flP N x (b||loopS s)).length=((kids s).map (cnt N)).sum:=flatMap_len _ fun x _=>flP_len N x _
   rw[l100_7_eq]
   have hkl:(kids s).length≤100002:=by have:=(hm s hsm).1;simp[kids];omega
   have hloop:=(foldLoop (A:=List D) (st:=st100_7 (F100 N) [.bool b,a, .int c, .int d, .list (kids s), .int ((kids s).length:Int),s]) (n:=(kids s).length) (enc:=fun i m=>[.int (i:Int), .list m])
    (f:=fun i m=>m++flP N ((kids s).getD i .other) (b||loopS s)) (fin:=fun m=>[.int 0, .list m]) (I:=fun i m=>m=acc++((kids s).take i).flatMap fun x=>flP N x (b||loopS s))
    (fun m _=>by rw[st100_7_eq];simp[qcmp_lss]) (fun i m hi hI=>by
     have hx:(kids s).getD i .other∈kids s:=by rw[getD_lt hi];exact List.getElem_mem hi
     obtain⟨k1,k2⟩:=kids_conf h1 hx
     have hc2:=cnt_kid (N:=N) hx
     have e:=fun b'=>ih _ b' k1 (by omega) (hk _ hx) (by omega)
     have hq:qget (.list (kids s)) (i:Int)=(kids s).getD i .other:=by rw[qget_n];rfl
     have hin:qinb (.list (kids s)) (i:Int)=true:=qinb_n (d:= .list (kids s)) hi
     have hI':m++flP N ((kids s).getD i .other) (b||loopS s)=acc++((kids s).take (i+1)).flatMap fun x=>flP N x (b||loopS s):=by rw[take_flat hi,hI,List.append_assoc]
     refine⟨?_,hI'⟩
     have hml:(m++flP N ((kids s).getD i .other) (b||loopS s)).length≤1000000000:=by
      rw[hI',List.length_append]
      have:=len_take_flat (f:=fun x=>flP N x (b||loopS s)) (l:=kids s) (i+1)
      omega
     rw[st100_7_eq]
     simp only[qcmp_lss,show(i:Int)<((kids s).length:Int)by omega,decide_true,cond_true,hin,hq,e,qsome_s,qnth_s,List.getD_cons_zero,qapp_l,qlen_l,qcmp_eql]
     rw[add_nat (by omega)]
     cases b with
     |true=>simp only[Bool.true_or,cond_true]at hml ⊢;rw[qmem_big hml (by omega)];rfl
     |false=>
      simp only[Bool.false_or,cond_false]at hml ⊢
      by_cases h7:qint (qfld s 0)=7
      ·have hl:loopS s=true:=by simp[loopS,h7]
       rw[hl]at hml ⊢
       simp only[h7,decide_true,cond_true];rw[qmem_big hml (by omega)];rfl
      ·have hl:loopS s=decide (qint (qfld s 0)=8):=by simp[loopS,h7]
       rw[hl]at hml ⊢
       simp only[h7,decide_false,cond_false];rw[qmem_big hml (by omega)];rfl) (a:=acc) (by simp))
   obtain⟨g1,g2⟩:=hloop
   rw[List.take_of_length_le (Nat.le_refl _)]at g2
   rw[g2]at g1
   exact g1
  have hflen:=flP_len (N+1) l b
  have hloop:=(foldLoop (A:=List D) (st:=st100_3 (F100 N) [.bool b,l, .int (qlen l)]) (n:=l.toList.length) (enc:=fun i m=>[.int (i:Int), .list m])
   (f:=fun i m=>m++(.agg [l.toList.getD i .other, .bool b]::(kids (l.toList.getD i .other)).flatMap fun x=>flP N x (b||loopS (l.toList.getD i .other)))) (fin:=fun m=>[.int 0, .list m])
   (I:=fun i m=>m=(l.toList.take i).flatMap fun s=> .agg [s, .bool b]::(kids s).flatMap fun x=>flP N x (b||loopS s))
   (fun m _=>by rw[st100_3_eq,qlen_c];simp[qcmp_lss]) (fun i m hi hI=>by
    have hx:l.toList.getD i .other∈l.toList:=by rw[getD_lt hi];exact List.getElem_mem hi
    obtain⟨h1,h2⟩:=node_conf hc hx
    have hI':m++(.agg [l.toList.getD i .other, .bool b]::(kids (l.toList.getD i .other)).flatMap fun x=>flP N x (b||loopS (l.toList.getD i .other))) =
     (l.toList.take (i+1)).flatMap fun s=> .agg [s, .bool b]::(kids s).flatMap fun x=>flP N x (b||loopS s):=by
     rw[take_flat (f:=fun s=> .agg [s, .bool b]::(kids s).flatMap fun x=>flP N x (b||loopS s)) hi,hI]
    refine⟨?_,hI'⟩
    have hlt:=len_take_flat (f:=fun s=> .agg [s, .bool b]::(kids s).flatMap fun x=>flP N x (b||loopS s)) (l:=l.toList) (i+1)
    simp only[flP]at hflen
    have hfl:((kids (l.toList.getD i .other)).flatMap fun x=>flP N x (b||loopS (l.toList.getD i .other))).length=((kids (l.toList.getD i .other)).map (cnt N)).sum:=flatMap_len _ fun x _=>flP_len N x _
    rw[← hI',List.length_append,List.length_cons,hfl]at hlt
    have hre:D.agg [D.int (qint (qfld (l.toList.getD i .other) 0)),D.int (qint (qfld (l.toList.getD i .other) 1)),D.str (qstr (qfld (l.toList.getD i .other) 2)),qfld (l.toList.getD i .other) 3,qfld (l.toList.getD i .other) 4,qfld (l.toList.getD i .other) 5,qfld (l.toList.getD i .other) 6]=l.toList.getD i .other:=conf_reN h1
    rw[st100_3_eq,qlen_c,qinb_n hi,qget_n,lists_spec (hm _ hx).1,hre]
    simp only[qcmp_lss,show(i:Int)<(l.toList.length:Int)by omega,decide_true,cond_true,qsome_s,qnth_s,List.getD_cons_zero,List.getD_cons_succ,qlen_l,qapp_l]
    rw[qmem_big (by rw[List.length_append,List.length_cons,List.length_nil];omega) (by omega),inner _ hx _ _ _ _ (by rw[List.length_append,List.length_cons,List.length_nil];omega)]
    simp only[qsome_s,qnth_s,List.getD_cons_zero,List.getD_cons_succ,cond_true,List.append_assoc,List.cons_append,List.nil_append]
    rw[add_nat (by omega)]) (a:=[]) (by simp))
  obtain⟨g1,g2⟩:=hloop
  rw[List.take_of_length_le (Nat.le_refl _)]at g2
  rw[g2]at g1
  simp only[Int.natCast_zero]at g1
  simp only[g1,qsome_s,qnth_s,List.getD_cons_zero,List.getD_cons_succ,cond_true,flP]
end Go.Proofs.YteccopaonadbeaaGreatDoor
namespace Go.Proofs.YteccopaonadbeaaGreatDoor
set_option linter.unusedSimpArgs false
open Go Go.AM
set_option maxHeartbeats 1000000 in
theorem flat_spec:∀(N:Nat) (l:D) (b:Bool),Conf PG 59 l→l.size<N→Sm N l→cnt N l≤1000000→F150 N [l, .bool b]=some [.list (flR N l b)]:=by
 intro N
 induction N with
 |zero=>intro l _ _ h;omega
 |succ N ih=>
  intro l b hc hs hm hn
  rw[F150_s,Fb150_eq,l150_3_eq]
  have hlen:=(conf_el s36 hc).1
  unfold maxLen at hlen
  have inner:∀i,i<l.toList.length→∀(acc:List D),acc.length+((qfld (l.toList.getD i .other) 6).toList.map (cnt N)).sum≤1000000→l150_9 (F150 N) [l, .bool b, .int (i:Int)] [.int 0, .list acc] =
   some [.int 0, .list (acc++(qfld (l.toList.getD i .other) 6).toList.flatMap fun x=>flR N x b)]:=by
   intro j hj acc hacc
   have hsm:l.toList.getD j .other∈l.toList:=by rw[getD_lt hj];exact List.getElem_mem hj
   have hgj:qget l (j:Int)=l.toList.getD j .other:=qget_n _ _
   generalize l.toList.getD j .other=s at *
   obtain⟨h1,h2⟩:=node_conf hc hsm
   have hk:=(hm s hsm).2
   have hcm:=cnt_mem (N:=N) hsm
   have hfl:((qfld s 6).toList.flatMap fun x=>flR N x b).length=((qfld s 6).toList.map (cnt N)).sum:=flatMap_len _ fun x _=>flR_len N x _
   rw[l150_9_eq]
   have hkl:(qfld s 6).toList.length≤100000:=(hm s hsm).1
   have hloop:=(foldLoop (A:=List D) (st:=st150_9 (F150 N) [l, .bool b, .int (j:Int)]) (n:=(qfld s 6).toList.length) (enc:=fun i m=>[.int (i:Int), .list m])
    (f:=fun i m=>m++flR N ((qfld s 6).toList.getD i .other) b) (fin:=fun m=>[.int 0, .list m]) (I:=fun i m=>m=acc++((qfld s 6).toList.take i).flatMap fun x=>flR N x b)
    (fun m _=>by rw[st150_9_eq,qinb_n hj,hgj,qlen_c];simp[qcmp_lss]) (fun i m hi hI=>by
     have hx0:(qfld s 6).toList.getD i .other∈(qfld s 6).toList:=by rw[getD_lt hi];exact List.getElem_mem hi
     have hx:(qfld s 6).toList.getD i .other∈kids s:=by unfold kids;simp only[List.mem_cons];exact .inr (.inr hx0)
     obtain⟨k1,k2⟩:=kids_conf h1 hx
     have hc2:=cnt_kid (N:=N) hx
     have e:=ih _ b k1 (by omega) (hk _ hx) (by omega)
     have hI':m++flR N ((qfld s 6).toList.getD i .other) b=acc++((qfld s 6).toList.take (i+1)).flatMap fun x=>flR N x b:=by rw[take_flat hi,hI,List.append_assoc]
     refine⟨?_,hI'⟩
     have hml:(m++flR N ((qfld s 6).toList.getD i .other) b).length≤1000000000:=by
      rw[hI',List.length_append]
      have:=len_take_flat (f:=fun x=>flR N x b) (l:=(qfld s 6).toList) (i+1)
      omega
     rw[st150_9_eq,qinb_n hj,hgj,qlen_c,qinb_n hi,qget_n,e]
     simp only[qcmp_lss,show(i:Int)<((qfld s 6).toList.length:Int)by omega,decide_true,cond_true,qsome_s,qnth_s,List.getD_cons_zero,qapp_l,qlen_l]
     rw[add_nat (by omega),qmem_big hml (by omega)];rfl) (a:=acc) (by simp))
   obtain⟨g1,g2⟩:=hloop
   rw[List.take_of_length_le (Nat.le_refl _)]at g2
   rw[g2]at g1
   exact g1
  have hflen:=flR_len (N+1) l b
  have hloop:=(foldLoop (A:=List D) (st:=st150_3 (F150 N) [l, .bool b]) (n:=l.toList.length) (enc:=fun i m=>[.int (i:Int), .list m])
   (f:=fun i m=>m++(.agg [l.toList.getD i .other, .bool b]::(flR N (qfld (l.toList.getD i .other) 4) (b||loopS (l.toList.getD i .other))++flR N (qfld (l.toList.getD i .other) 5) b++(qfld (l.toList.getD i .other) 6).toList.flatMap fun x=>flR N x b))) (fin:=fun m=>[.int 0, .list m])
   (I:=fun i m=>m=(l.toList.take i).flatMap fun s=> .agg [s, .bool b]::(flR N (qfld s 4) (b||loopS s)++flR N (qfld s 5) b++(qfld s 6).toList.flatMap fun x=>flR N x b))
   (fun m _=>by rw[st150_3_eq,qlen_c];simp[qcmp_lss]) (fun i m hi hI=>by
    have hx:l.toList.getD i .other∈l.toList:=by rw[getD_lt hi];exact List.getElem_mem hi
    obtain⟨h1,h2⟩:=node_conf hc hx
    have hI':m++(.agg [l.toList.getD i .other, .bool b]::(flR N (qfld (l.toList.getD i .other) 4) (b||loopS (l.toList.getD i .other))++flR N (qfld (l.toList.getD i .other) 5) b++(qfld (l.toList.getD i .other) 6).toList.flatMap fun x=>flR N x b)) =
     (l.toList.take (i+1)).flatMap fun s=> .agg [s, .bool b]::(flR N (qfld s 4) (b||loopS s)++flR N (qfld s 5) b++(qfld s 6).toList.flatMap fun x=>flR N x b):=by
     rw[take_flat (f:=fun s=> .agg [s, .bool b]::(flR N (qfld s 4) (b||loopS s)++flR N (qfld s 5) b++(qfld s 6).toList.flatMap fun x=>flR N x b)) hi,hI]
    refine⟨?_,hI'⟩
    have hlt:=len_take_flat (f:=fun s=> .agg [s, .bool b]::(flR N (qfld s 4) (b||loopS s)++flR N (qfld s 5) b++(qfld s 6).toList.flatMap fun x=>flR N x b)) (l:=l.toList) (i+1)
    simp only[flR]at hflen
    have hinn:=inner i hi
    have hgi:qget l (i:Int)=l.toList.getD i .other:=qget_n _ _
    have hkk:=(hm _ hx).2
    have hcm:=cnt_mem (N:=N) hx
    generalize l.toList.getD i .other=s at *
    have k4:qfld s 4∈kids s:=by simp[kids]
    have k5:qfld s 5∈kids s:=by simp[kids]
    have hfl:((qfld s 6).toList.flatMap fun x=>flR N x b).length=((qfld s 6).toList.map (cnt N)).sum:=flatMap_len _ fun x _=>flR_len N x _
    have hl4:=flR_len N (qfld s 4) (b||loopS s)
    have hl5:=flR_len N (qfld s 5) b
    rw[← hI',List.length_append,List.length_cons,List.length_append,List.length_append,hfl,hl4,hl5]at hlt
    have e4:=fun b'=>ih _ b' (kids_conf h1 k4).1 (by have:=(kids_conf h1 k4).2;omega) (hkk _ k4) (by have:=cnt_kid (N:=N) k4;omega)
    have e5:=ih _ b (kids_conf h1 k5).1 (by have:=(kids_conf h1 k5).2;omega) (hkk _ k5) (by have:=cnt_kid (N:=N) k5;omega)
    have hre:D.agg [D.int (qint (qfld s 0)),D.int (qint (qfld s 1)),D.str (qstr (qfld s 2)),qfld s 3,qfld s 4,qfld s 5,qfld s 6]=s:=conf_reN h1
    have m1:qmem ((m ++ [D.agg [s, .bool b]]).length:Int) 136=true:=qmem_big (by rw[List.length_append,List.length_cons,List.length_nil];omega) (by omega)
    have m2:qmem ((m ++ [D.agg [s, .bool b]]++flR N (qfld s 4) (b||loopS s)).length:Int) 136=true:=qmem_big (by rw[List.length_append,List.length_append,List.length_cons,List.length_nil,hl4];omega) (by omega)
    have m3:qmem ((m ++ [D.agg [s, .bool b]]++flR N (qfld s 4) (b||loopS s)++flR N (qfld s 5) b).length:Int) 136=true:=qmem_big (by rw[List.length_append,List.length_append,List.length_append,List.length_cons,List.length_nil,hl4,hl5];omega) (by omega)
    have hin:=hinn (m ++ [D.agg [s, .bool b]]++flR N (qfld s 4) (b||loopS s)++flR N (qfld s 5) b) (by rw[List.length_append,List.length_append,List.length_append,List.length_cons,List.length_nil,hl4,hl5];omega)
    rw[st150_3_eq,qlen_c,qinb_n hi,hgi,hre]
    simp only[qcmp_lss,show(i:Int)<(l.toList.length:Int)by omega,decide_true,cond_true,qlen_l,qapp_l,m1,e4,e5,qsome_s,qnth_s,List.getD_cons_zero,qcmp_eql]
    have fin:D.list (m ++ [D.agg [s, .bool b]]++flR N (qfld s 4) (b||loopS s)++flR N (qfld s 5) b++(qfld s 6).toList.flatMap fun x=>flR N x b)=D.list (m++(.agg [s, .bool b]::(flR N (qfld s 4) (b||loopS s)++flR N (qfld s 5) b++(qfld s 6).toList.flatMap fun x=>flR N x b))):=by simp
    rw[← fin]
    cases b with
    |true=>
     simp only[Bool.true_or]at m2 m3 hin ⊢
     simp only[m2,m3,hin,qsome_s,qnth_s,List.getD_cons_zero,List.getD_cons_succ,cond_true,add_nat (show i<9223372036854775807 by omega)]
    |false=>
     simp only[Bool.false_or,cond_false]at m2 m3 hin ⊢
     by_cases h7:qint (qfld s 0)=7
     ·have hl:loopS s=true:=by simp[loopS,h7]
      rw[hl]at m2 m3 hin ⊢
      simp only[h7,decide_true,m2,m3,hin,qsome_s,qnth_s,List.getD_cons_zero,List.getD_cons_succ,cond_true,add_nat (show i<9223372036854775807 by omega)]
     ·have hl:loopS s=decide (qint (qfld s 0)=8):=by simp[loopS,h7]
      rw[hl]at m2 m3 hin ⊢
      simp only[h7,decide_false,cond_false,m2,m3,hin,qsome_s,qnth_s,List.getD_cons_zero,List.getD_cons_succ,cond_true,add_nat (show i<9223372036854775807 by omega)]) (a:=[]) (by simp))
  obtain⟨g1,g2⟩:=hloop
  rw[List.take_of_length_le (Nat.le_refl _)]at g2
  rw[g2]at g1
  simp only[Int.natCast_zero]at g1
  simp only[g1,qsome_s,qnth_s,List.getD_cons_zero,List.getD_cons_succ,cond_true,flR]
noncomputable def depC:Nat→D→Int→Nat
 |0,_,_=>0
 |N+1,l,m=>if l.toList.length=0∨m<0 then 0 else 1+maxL (l.toList.map fun s=>maxL ((kids s).map fun x=>depC N x (m-1)))
theorem maxL_min {α:Type} {f g:α→Nat} {k:Nat}:∀(l:List α),(∀x∈l,f x=min (g x) k)→maxL (l.map f)=min (maxL (l.map g)) k
 | [],_=>by simp[maxL]
 |x::l,h=>by
  have:=maxL_min l fun y hy=>h y (by simp[hy])
  have:=h x (by simp)
  simp only[maxL,List.map_cons,List.foldr_cons]at *;omega
theorem maxL_add1 {α:Type} {f:α→Nat}:∀(l:List α),l≠[]→maxL (l.map fun x=>1+f x)=1+maxL (l.map f)
 | [x],_=>by simp[maxL]
 |x::y::l,_=>by
  have:=maxL_add1 (f:=f) (y::l) (by simp)
  simp only[maxL,List.map_cons,List.foldr_cons]at *;omega
theorem depC_eq:∀(N:Nat) (l:D) (m:Nat),depC N l ((m:Int)-1)=min (dep N l) m
 |0,_,_=>by simp[depC,dep]
 |N+1,l,0=>by simp[depC]
 |N+1,l,m+1=>by
  simp only[depC,dep]
  by_cases h:l.toList.length=0
  ·have:l.toList = []:=List.length_eq_zero_iff.1 h
   simp[this,maxL]
  ·have hne:l.toList≠[]:=fun e=>h (by rw[e];rfl)
   rw[if_neg (by omega),maxL_add1 _ hne]
   have:maxL (l.toList.map fun s=>maxL ((kids s).map fun x=>depC N x (((m+1:Nat):Int)-1-1)))=min (maxL (l.toList.map fun s=>maxL ((kids s).map (dep N)))) m:=
    maxL_min _ fun s _=>maxL_min _ fun x _=>by
     rw[show((m+1:Nat):Int)-1-1=(m:Int)-1 by omega];exact depC_eq N x m
   rw[this];omega
end Go.Proofs.YteccopaonadbeaaGreatDoor
namespace Go.Proofs.YteccopaonadbeaaGreatDoor
set_option linter.unusedSimpArgs false
open Go Go.AM
theorem ite_max (a b:Nat):qiteI (decide ((b:Int)<(a:Int))) (a:Int) (b:Int)=((max b a:Nat):Int):=by
 rw[qiteI_eq];by_cases h:b<a<;>simp[h]<;>omega
theorem depC_le (N:Nat) (l:D) (m:Int) (h: -1≤m):depC N l m≤cnt N l:=by
 obtain⟨k,rfl⟩:∃k:Nat,m=(k:Int)-1:=⟨(m+1).toNat,by omega⟩
 rw[depC_eq];have:=dep_le N l;omega
theorem maxL_cases (f:D→Nat) (s:D) (b:Nat):max (max (max b (f (qfld s 4))) (f (qfld s 5))) (maxL ((qfld s 6).toList.map f))=max b (maxL ((kids s).map f)):=by
 simp only[kids,maxL,List.map_cons,List.foldr_cons];omega
theorem depthR_spec:∀(N:Nat) (l:D) (m:Int),Conf PG 59 l→l.size<N→Sm N l→cnt N l≤1000000→ -1≤m→m≤1000000→F149 N [l, .int m]=some [.int (depC N l m)]:=by
 intro N
 induction N with
 |zero=>intro l _ _ h;omega
 |succ N ih=>
  intro l m hc hs hm hn hm0 hm1
  rw[F149_s,Fb149_eq,l149_5_eq]
  have hlen:=(conf_el s36 hc).1
  unfold maxLen at hlen
  simp only[qlen_c,qiteB_c,qcmp_eql,qcmp_lss]
  by_cases hz:l.toList.length=0∨m<0
  ·have:(bif decide ((l.toList.length:Int)=0)then true else decide (m<0))=true:=by
    rcases hz with h|h
    ·simp[h]
    ·by_cases h':l.toList.length=0<;>simp[h,h']
   rw[this]
   simp only[cond_true,depC,if_pos hz];rfl
  ·have h1':¬((l.toList.length:Int)=0):=fun h=>hz (.inl (by omega))
   have h2':¬m<0:=fun h=>hz (.inr h)
   simp only[h1',h2',decide_false,cond_false]
   have hsub:qbin .sub .i64 m 1=m-1:=sub64 (by omega) (by omega)
   have inner:∀i,i<l.toList.length→∀(b:Nat),l149_14 (F149 N) [l, .int m, .int (i:Int)] [.int (b:Int), .int 0] =
    some [.int 0, .int ((max b (maxL ((qfld (l.toList.getD i .other) 6).toList.map fun x=>depC N x (m-1))):Nat):Int)]:=by
    intro j hj b
    have hsm:l.toList.getD j .other∈l.toList:=by rw[getD_lt hj];exact List.getElem_mem hj
    have hgj:qget l (j:Int)=l.toList.getD j .other:=qget_n _ _
    generalize l.toList.getD j .other=s at *
    obtain⟨h1,h2⟩:=node_conf hc hsm
    have hk:=(hm s hsm).2
    have hcm:=cnt_mem (N:=N) hsm
    rw[l149_14_eq]
    have hkl:(qfld s 6).toList.length≤100000:=(hm s hsm).1
    have hloop:=(foldLoop (A:=Nat) (st:=st149_14 (F149 N) [l, .int m, .int (j:Int)]) (n:=(qfld s 6).toList.length) (enc:=fun i b=>[.int (b:Int), .int (i:Int)])
     (f:=fun i b=>max b (depC N ((qfld s 6).toList.getD i .other) (m-1))) (fin:=fun b=>[.int 0, .int (b:Int)]) (I:=fun _ _=>True)
     (fun m _=>by rw[st149_14_eq,qinb_n hj,hgj,qlen_c];simp[qcmp_lss]) (fun i b hi _=>by
      have hx0:(qfld s 6).toList.getD i .other∈(qfld s 6).toList:=by rw[getD_lt hi];exact List.getElem_mem hi
      have hx:(qfld s 6).toList.getD i .other∈kids s:=by unfold kids;simp only[List.mem_cons];exact .inr (.inr hx0)
      obtain⟨k1,k2⟩:=kids_conf h1 hx
      have hc2:=cnt_kid (N:=N) hx
      have e:=ih _ (m-1) k1 (by omega) (hk _ hx) (by omega) (by omega) (by omega)
      refine⟨?_,trivial⟩
      rw[st149_14_eq,qinb_n hj,hgj,qlen_c,qinb_n hi,qget_n,hsub,e]
      generalize depC N ((qfld s 6).toList.getD i .other) (m-1)=d
      simp only[qcmp_lss,qcmp_gtr,show(i:Int)<((qfld s 6).toList.length:Int)by omega,decide_true,cond_true,qsome_s,qnth_s,List.getD_cons_zero,qint_i]
      rw[add_nat (by omega)]
      by_cases h:b<d
      ·simp[h,show max b d=d by omega]
      ·simp[h,show max b d=b by omega]) (a:=b) trivial).1
    rw[foldN_list0 (g:=fun x b=>max b (depC N x (m-1))),foldl_max (fun x=>depC N x (m-1))]at hloop
    exact hloop
   have hloop:=(foldLoop (A:=Nat) (st:=st149_5 (F149 N) [l, .int m]) (n:=l.toList.length) (enc:=fun i b=>[.int (b:Int), .int (i:Int)])
    (f:=fun i b=>max b (maxL ((kids (l.toList.getD i .other)).map fun x=>depC N x (m-1)))) (fin:=fun b=>[.int 0, .int (b:Int)]) (I:=fun _ _=>True)
    (fun m _=>by rw[st149_5_eq,qlen_c];simp[qcmp_lss]) (fun i b hi _=>by
     have hx:l.toList.getD i .other∈l.toList:=by rw[getD_lt hi];exact List.getElem_mem hi
     have hinn:=inner i hi
     have hgi:qget l (i:Int)=l.toList.getD i .other:=qget_n _ _
     have hkk:=(hm _ hx).2
     have hcm:=cnt_mem (N:=N) hx
     obtain⟨h1,h2⟩:=node_conf hc hx
     generalize l.toList.getD i .other=s at *
     have k4:qfld s 4∈kids s:=by simp[kids]
     have k5:qfld s 5∈kids s:=by simp[kids]
     have e4:=ih _ (m-1) (kids_conf h1 k4).1 (by have:=(kids_conf h1 k4).2;omega) (hkk _ k4) (by have:=cnt_kid (N:=N) k4;omega) (by omega) (by omega)
     have e5:=ih _ (m-1) (kids_conf h1 k5).1 (by have:=(kids_conf h1 k5).2;omega) (hkk _ k5) (by have:=cnt_kid (N:=N) k5;omega) (by omega) (by omega)
     have hmx:=maxL_cases (fun x=>depC N x (m-1)) s b
     refine⟨?_,trivial⟩
     rw[st149_5_eq,qlen_c,qinb_n hi,hgi,hsub,e4,e5]
     simp only[qcmp_lss,qcmp_gtr,show(i:Int)<(l.toList.length:Int)by omega,decide_true,cond_true,qsome_s,qnth_s,List.getD_cons_zero,List.getD_cons_succ,qint_i,ite_max,hinn,hmx]
     rw[add_nat (by omega)]) (a:=0) trivial).1
   rw[foldN_list0 (g:=fun s b=>max b (maxL ((kids s).map fun x=>depC N x (m-1)))),foldl_max (fun s=>maxL ((kids s).map fun x=>depC N x (m-1)))]at hloop
   simp only[Int.natCast_zero,Nat.zero_max]at hloop
   have hle:=depC_le (N+1) l m hm0
   simp only[depC,hz,if_false]at hle
   simp only[hloop,qsome_s,qnth_s,List.getD_cons_zero,List.getD_cons_succ,qint_i,cond_true,depC,hz,if_false]
   rw[add_nat (by omega),Nat.add_comm]
theorem deep_iff {N:Nat} {l:D}:(64<dep N l)↔(64<depC N l 65):=by
 have:=depC_eq N l 66
 rw[show((66:Nat):Int)-1=65 from rfl]at this
 rw[this];omega
end Go.Proofs.YteccopaonadbeaaGreatDoor
namespace Go.Proofs.YteccopaonadbeaaGreatDoor
set_option linter.unusedSimpArgs false
open Go Go.AM
noncomputable def fm (x:D):Bool:=fmd (x.size+1) x
theorem fm_spec {x:D} (h:Conf PG 105 x):q204 [x]=some [.bool (fm x)]∧q245 [x]=some [.bool (fm x)]:=by
 obtain⟨a,b⟩:=fmd_spec (fuelL [x]) x h (fuel_in (by simp))
 have:fmd (fuelL [x]) x=fm x:=fmd_irr _ _ x (fuel_in (by simp)) (by omega)
 rw[this]at a b
 exact⟨by rw[q204_eq];exact a,by rw[q245_eq];exact b⟩
theorem s23':isSl 99 105=true:=by kernel_rfl
theorem exprs_conf {s:D} (h:Conf PG 102 s):(qfld s 3).toList.length≤maxLen∧∀x∈(qfld s 3).toList,Conf PG 105 x:=by
 have h3:Conf PG 99 (qfld s 3):=by rw[qfld_eq];exact conf_fldC f187_3 h
 exact⟨(conf_el s23' h3).1,(conf_el s23' h3).2.2⟩
theorem name_conf {s:D} (h:Conf PG 102 s):(qstr (qfld s 2)).size≤maxLen:=by rw[qfld_eq];exact conf_strlen (conf_fldC f187_2 h)
theorem contains261 {l:D} {p:D→Bool} (hl:l.toList.length≤maxLen) (hc:∀x∈l.toList,q204 [x]=some [.bool (p x)]):q162_203 [l]=some [.bool (l.toList.any fun x=> !p x)]:=by
 rw[q162_203_eq,F162_203_eq,q201_203_eq,F201_203_eq,l201_203_2_eq]
 rcases idxLoop (st:=st201_203_2 [l, .int (qlen l)]) (c:=fun x=>q203_203 [x]) (p:=fun x=> !p x) (r1:=fun i=>[.int 1, .int i]) (r0:=[.int 0]) (fun i=>st201_203_2_eq l (qlen l) i) hl (fun x hx=>by rw[q203_203_eq,F203_203_eq,hc x hx];simp[qsome_s,qnth_s,qbool_b,qnot_c])with⟨h1,h2⟩|⟨i,h1,h2⟩
 ·simp[h1,h2,qsome_s,qnth_s,qint_i,qcmp_eql,qcmp_geq]
 ·simp[h1,h2,qsome_s,qnth_s,qint_i,qcmp_eql,qcmp_geq]
def stHead (k w:Int) (n3 n4 n5 n6:Nat) (nm e:Bool):Bool:=
 if k=1 then nm&&decide (w=0)&&decide (n3=1)&&decide (n4=0)&&decide (n5=0)&&decide (n6=0)
 else if k=2 then e&&(decide (w=1)||decide (w=2)||decide (w=4))&&decide (n3=2)&&decide (n4=0)&&decide (n5=0)&&decide (n6=0)
 else if k=3 then nm&&decide (w=0)&&decide (n3=0)&&decide (n4=0)&&decide (n5=0)&&decide (n6=0)
 else if k=4 then e&&decide (w=0)&&decide (n3=1)&&decide (n4=0)&&decide (n5=0)&&decide (n6=0)
 else if k=5 then nm&&decide (w=0)&&decide (n3=0)&&decide (n4=0)&&decide (n5=0)&&decide (n6=0)
 else if k=6 then e&&decide (w=0)&&decide (n3=1)&&decide (n6=0)
 else if k=7 then e&&decide (w=0)&&decide (n3=1)&&decide (n5=0)&&decide (n6=0)
 else if k=8 then e&&decide (w=0)&&decide (n3=0)&&decide (n5=0)&&decide (n6=0)
 else if k=9 then e&&decide (w=0)&&decide (n3=1)&&decide (n4=0)&&decide (n5=0)&&(!decide (n6<1) && !decide (64<n6))
 else if k=10 then e&&decide (w=0)&&decide (n3=0)&&decide (n4=0)&&decide (n5=0)&&decide (n6=0)
 else if k=11 then e&&decide (w=0)&&decide (n3=0)&&decide (n4=0)&&decide (n5=0)&&decide (n6=0)
 else if k=12 then nm&&decide (w=0)&&decide (n3=0)&&decide (n4=0)&&decide (n5=0)&&decide (n6=0)
 else if k=13 then nm&&decide (w=0)&&decide (n3=0)&&decide (n4=0)&&decide (n5=0)&&decide (n6=0)
 else if k=14 then e&&decide (w=0)&&decide (n3=0)&&decide (n4=0)&&decide (n5=0)&&decide (n6=0)
 else if k=15 then e&&decide (w=0)&&decide (n3=0)&&decide (n4=0)&&decide (n5=0)&&decide (n6=0)
 else false
noncomputable def stB (s:D):Bool:=stHead (qint (qfld s 0)) (qint (qfld s 1)) (qfld s 3).toList.length (qfld s 4).toList.length (qfld s 5).toList.length (qfld s 6).toList.length (nameB (qstr (qfld s 2))) (qcmpS .eql (qstr (qfld s 2)) (ByteArray.mk #[]))&&(qfld s 3).toList.all fm
set_option maxHeartbeats 2000000 in
theorem stmt_spec {s:D} (h:Conf PG 102 s):q165 [s]=some [.bool (stB s)]∧q195 [s]=some [.bool (stB s)]:=by
 obtain⟨l3,e3⟩:=exprs_conf h
 obtain⟨a1,a2⟩:=nameB_spec (name_conf h)
 have hcon:=contains261 (p:=fm) l3 (fun x hx=>(fm_spec (e3 x hx)).1)
 have hloop:=idxLoop (st:=st195_9 [s]) (l:=qfld s 3) (c:=fun x=>(q245 [x]).map fun r=>[.bool (qnot (qbool (r.getD 0 .other)))]) (p:=fun x=> !fm x) (r1:=fun _=>[.int 1]) (r0:=[.int 0])
  (fun i=>by
   rw[st195_9_eq]
   cases hq:q245 [qget (qfld s 3) i]with
   |none=>simp[qsome_n]
   |some r=>simp[qsome_s,qnth_s,qbool_b]) l3 (fun x hx=>by rw[(fm_spec (e3 x hx)).2];simp[qbool_b,qnot_c])
 have hall:(qfld s 3).toList.all fm = !((qfld s 3).toList.any fun x=> !fm x):=by rw[List.not_any_eq_all_not];simp
 rw[q165_eq,F165_eq,q195_eq,F195_eq,q244_eq,F244_eq,l195_9_eq,hcon,a1,a2]
 unfold stB
 rw[hall]
 have hr:∃r,loW (st195_9 [s]) [.int 0]=some [.int r]∧decide (r=0) = !((qfld s 3).toList.any fun x=> !fm x):=by
  rcases hloop with⟨b1,b2⟩|⟨_,b1,b2⟩
  ·exact⟨0,b1,by rw[b2];rfl⟩
  ·exact⟨1,b1,by rw[b2];rfl⟩
 obtain⟨r,hr1,hr2⟩:=hr
 simp only[hr1,qsome_s,qnth_s,List.getD_cons_zero,List.getD_cons_succ,qbool_b,qint_i,qnot_c,qcmp_eql,qcmp_neq,qcmp_lss,qcmp_gtr,qiteB_c,cmpS_neq',qlen_c,cond_true,hr2,decide_true,Bool.not_true]
 clear hr1 hr2 hloop hcon hall a1 a2 e3 l3
 have g:∀n:Nat,decide (0<(n:Int)) = !decide (n=0):=fun n=>by by_cases h:n=0<;>simp[h]<;>omega
 have g0:∀n:Nat,decide ((n:Int)=0)=decide (n=0):=fun n=>by by_cases h:n=0<;>simp[h]
 have g1:∀n:Nat,decide ((n:Int)=1)=decide (n=1):=fun n=>by by_cases h:n=1<;>simp[h]<;>omega
 have g2:∀n:Nat,decide ((n:Int)=2)=decide (n=2):=fun n=>by by_cases h:n=2<;>simp[h]<;>omega
 have g3:∀n:Nat,decide ((n:Int)<1)=decide (n<1):=fun n=>by by_cases h:n<1<;>simp[h]<;>omega
 have g4:∀n:Nat,decide ((64:Int)<(n:Int))=decide (64<n):=fun n=>by by_cases h:64<n<;>simp[h]<;>omega
 simp only[g,g0,g1,g2,g3,g4]
 generalize ((qfld s 3).toList.any fun x=> !fm x)=af
 generalize nameB (qstr (qfld s 2))=nm
 generalize qcmpS .eql (qstr (qfld s 2)) (ByteArray.mk #[])=e
 generalize (qfld s 3).toList.length=n3
 generalize (qfld s 4).toList.length=n4
 generalize (qfld s 5).toList.length=n5
 generalize (qfld s 6).toList.length=n6
 generalize qint (qfld s 1)=w
 generalize qint (qfld s 0)=k
 clear h
 unfold stHead
 have hk:k=1∨k=2∨k=3∨k=4∨k=5∨k=6∨k=7∨k=8∨k=9∨k=10∨k=11∨k=12∨k=13∨k=14∨k=15∨(¬k=1∧¬k=2∧¬k=3∧¬k=4∧¬k=5∧¬k=6∧¬k=7∧¬k=8∧¬k=9∧¬k=10∧¬k=11∧¬k=12∧¬k=13∧¬k=14∧¬k=15):=by omega
 rcases hk with rfl|rfl|rfl|rfl|rfl|rfl|rfl|rfl|rfl|rfl|rfl|rfl|rfl|rfl|rfl|⟨h1,h2,h3,h4,h5,h6,h7,h8,h9,h10,h11,h12,h13,h14,h15⟩
 ·simp only[show¬((1:Int)=2)by omega,show¬((1:Int)=3)by omega,show¬((1:Int)=4)by omega,show¬((1:Int)=5)by omega,show¬((1:Int)=6)by omega,show¬((1:Int)=7)by omega,show¬((1:Int)=8)by omega,show¬((1:Int)=9)by omega,show¬((1:Int)=10)by omega,show¬((1:Int)=11)by omega,show¬((1:Int)=12)by omega,show¬((1:Int)=13)by omega,show¬((1:Int)=14)by omega,show¬((1:Int)=15)by omega,decide_true,decide_false,cond_true,cond_false,if_true,if_false,Bool.not_true,Bool.not_false,qint_i,qbool_b,qnth_s,List.getD_cons_zero,List.getD_cons_succ,qsome_s,g,g0,g1,g2,g3,g4]
  generalize decide (n3=1)=b0
  generalize decide (n4=0)=b1
  generalize decide (n5=0)=b2
  generalize decide (n6=0)=b3
  generalize decide (w=0)=b4
  constructor<;>cases b0<;>cases b1<;>cases b2<;>cases b3<;>cases b4<;>cases nm<;>cases af<;>rfl
 ·simp only[show¬((2:Int)=1)by omega,show¬((2:Int)=3)by omega,show¬((2:Int)=4)by omega,show¬((2:Int)=5)by omega,show¬((2:Int)=6)by omega,show¬((2:Int)=7)by omega,show¬((2:Int)=8)by omega,show¬((2:Int)=9)by omega,show¬((2:Int)=10)by omega,show¬((2:Int)=11)by omega,show¬((2:Int)=12)by omega,show¬((2:Int)=13)by omega,show¬((2:Int)=14)by omega,show¬((2:Int)=15)by omega,decide_true,decide_false,cond_true,cond_false,if_true,if_false,Bool.not_true,Bool.not_false,qint_i,qbool_b,qnth_s,List.getD_cons_zero,List.getD_cons_succ,qsome_s,g,g0,g1,g2,g3,g4]
  generalize decide (n3=2)=b0
  generalize decide (n4=0)=b1
  generalize decide (n5=0)=b2
  generalize decide (n6=0)=b3
  generalize decide (w=1)=b4
  generalize decide (w=2)=b5
  generalize decide (w=4)=b6
  constructor<;>cases b0<;>cases b1<;>cases b2<;>cases b3<;>cases b4<;>cases b5<;>cases b6<;>cases e<;>cases af<;>rfl
 ·simp only[show¬((3:Int)=1)by omega,show¬((3:Int)=2)by omega,show¬((3:Int)=4)by omega,show¬((3:Int)=5)by omega,show¬((3:Int)=6)by omega,show¬((3:Int)=7)by omega,show¬((3:Int)=8)by omega,show¬((3:Int)=9)by omega,show¬((3:Int)=10)by omega,show¬((3:Int)=11)by omega,show¬((3:Int)=12)by omega,show¬((3:Int)=13)by omega,show¬((3:Int)=14)by omega,show¬((3:Int)=15)by omega,decide_true,decide_false,cond_true,cond_false,if_true,if_false,Bool.not_true,Bool.not_false,qint_i,qbool_b,qnth_s,List.getD_cons_zero,List.getD_cons_succ,qsome_s,g,g0,g1,g2,g3,g4]
  generalize decide (n3=0)=b0
  generalize decide (n4=0)=b1
  generalize decide (n5=0)=b2
  generalize decide (n6=0)=b3
  generalize decide (w=0)=b4
  constructor<;>cases b0<;>cases b1<;>cases b2<;>cases b3<;>cases b4<;>cases nm<;>cases af<;>rfl
 ·simp only[show¬((4:Int)=1)by omega,show¬((4:Int)=2)by omega,show¬((4:Int)=3)by omega,show¬((4:Int)=5)by omega,show¬((4:Int)=6)by omega,show¬((4:Int)=7)by omega,show¬((4:Int)=8)by omega,show¬((4:Int)=9)by omega,show¬((4:Int)=10)by omega,show¬((4:Int)=11)by omega,show¬((4:Int)=12)by omega,show¬((4:Int)=13)by omega,show¬((4:Int)=14)by omega,show¬((4:Int)=15)by omega,decide_true,decide_false,cond_true,cond_false,if_true,if_false,Bool.not_true,Bool.not_false,qint_i,qbool_b,qnth_s,List.getD_cons_zero,List.getD_cons_succ,qsome_s,g,g0,g1,g2,g3,g4]
  generalize decide (n3=1)=b0
  generalize decide (n4=0)=b1
  generalize decide (n5=0)=b2
  generalize decide (n6=0)=b3
  generalize decide (w=0)=b4
  constructor<;>cases b0<;>cases b1<;>cases b2<;>cases b3<;>cases b4<;>cases e<;>cases af<;>rfl
 ·simp only[show¬((5:Int)=1)by omega,show¬((5:Int)=2)by omega,show¬((5:Int)=3)by omega,show¬((5:Int)=4)by omega,show¬((5:Int)=6)by omega,show¬((5:Int)=7)by omega,show¬((5:Int)=8)by omega,show¬((5:Int)=9)by omega,show¬((5:Int)=10)by omega,show¬((5:Int)=11)by omega,show¬((5:Int)=12)by omega,show¬((5:Int)=13)by omega,show¬((5:Int)=14)by omega,show¬((5:Int)=15)by omega,decide_true,decide_false,cond_true,cond_false,if_true,if_false,Bool.not_true,Bool.not_false,qint_i,qbool_b,qnth_s,List.getD_cons_zero,List.getD_cons_succ,qsome_s,g,g0,g1,g2,g3,g4]
  generalize decide (n3=0)=b0
  generalize decide (n4=0)=b1
  generalize decide (n5=0)=b2
  generalize decide (n6=0)=b3
  generalize decide (w=0)=b4
  constructor<;>cases b0<;>cases b1<;>cases b2<;>cases b3<;>cases b4<;>cases nm<;>cases af<;>rfl
 ·simp only[show¬((6:Int)=1)by omega,show¬((6:Int)=2)by omega,show¬((6:Int)=3)by omega,show¬((6:Int)=4)by omega,show¬((6:Int)=5)by omega,show¬((6:Int)=7)by omega,show¬((6:Int)=8)by omega,show¬((6:Int)=9)by omega,show¬((6:Int)=10)by omega,show¬((6:Int)=11)by omega,show¬((6:Int)=12)by omega,show¬((6:Int)=13)by omega,show¬((6:Int)=14)by omega,show¬((6:Int)=15)by omega,decide_true,decide_false,cond_true,cond_false,if_true,if_false,Bool.not_true,Bool.not_false,qint_i,qbool_b,qnth_s,List.getD_cons_zero,List.getD_cons_succ,qsome_s,g,g0,g1,g2,g3,g4]
  generalize decide (n3=1)=b0
  generalize decide (n4=0)=b1
  generalize decide (n5=0)=b2
  generalize decide (n6=0)=b3
  generalize decide (w=0)=b4
  constructor<;>cases b0<;>cases b1<;>cases b2<;>cases b3<;>cases b4<;>cases e<;>cases af<;>rfl
 ·simp only[show¬((7:Int)=1)by omega,show¬((7:Int)=2)by omega,show¬((7:Int)=3)by omega,show¬((7:Int)=4)by omega,show¬((7:Int)=5)by omega,show¬((7:Int)=6)by omega,show¬((7:Int)=8)by omega,show¬((7:Int)=9)by omega,show¬((7:Int)=10)by omega,show¬((7:Int)=11)by omega,show¬((7:Int)=12)by omega,show¬((7:Int)=13)by omega,show¬((7:Int)=14)by omega,show¬((7:Int)=15)by omega,decide_true,decide_false,cond_true,cond_false,if_true,if_false,Bool.not_true,Bool.not_false,qint_i,qbool_b,qnth_s,List.getD_cons_zero,List.getD_cons_succ,qsome_s,g,g0,g1,g2,g3,g4]
  generalize decide (n3=1)=b0
  generalize decide (n4=0)=b1
  generalize decide (n5=0)=b2
  generalize decide (n6=0)=b3
  generalize decide (w=0)=b4
  constructor<;>cases b0<;>cases b1<;>cases b2<;>cases b3<;>cases b4<;>cases e<;>cases af<;>rfl
 ·simp only[show¬((8:Int)=1)by omega,show¬((8:Int)=2)by omega,show¬((8:Int)=3)by omega,show¬((8:Int)=4)by omega,show¬((8:Int)=5)by omega,show¬((8:Int)=6)by omega,show¬((8:Int)=7)by omega,show¬((8:Int)=9)by omega,show¬((8:Int)=10)by omega,show¬((8:Int)=11)by omega,show¬((8:Int)=12)by omega,show¬((8:Int)=13)by omega,show¬((8:Int)=14)by omega,show¬((8:Int)=15)by omega,decide_true,decide_false,cond_true,cond_false,if_true,if_false,Bool.not_true,Bool.not_false,qint_i,qbool_b,qnth_s,List.getD_cons_zero,List.getD_cons_succ,qsome_s,g,g0,g1,g2,g3,g4]
  generalize decide (n3=0)=b0
  generalize decide (n4=0)=b1
  generalize decide (n5=0)=b2
  generalize decide (n6=0)=b3
  generalize decide (w=0)=b4
  constructor<;>cases b0<;>cases b1<;>cases b2<;>cases b3<;>cases b4<;>cases e<;>cases af<;>rfl
 ·simp only[show¬((9:Int)=1)by omega,show¬((9:Int)=2)by omega,show¬((9:Int)=3)by omega,show¬((9:Int)=4)by omega,show¬((9:Int)=5)by omega,show¬((9:Int)=6)by omega,show¬((9:Int)=7)by omega,show¬((9:Int)=8)by omega,show¬((9:Int)=10)by omega,show¬((9:Int)=11)by omega,show¬((9:Int)=12)by omega,show¬((9:Int)=13)by omega,show¬((9:Int)=14)by omega,show¬((9:Int)=15)by omega,decide_true,decide_false,cond_true,cond_false,if_true,if_false,Bool.not_true,Bool.not_false,qint_i,qbool_b,qnth_s,List.getD_cons_zero,List.getD_cons_succ,qsome_s,g,g0,g1,g2,g3,g4]
  generalize decide (n3=1)=b0
  generalize decide (n4=0)=b1
  generalize decide (n5=0)=b2
  generalize decide (n6<1)=b3
  generalize decide (64<n6)=b4
  generalize decide (w=0)=b5
  constructor<;>cases b0<;>cases b1<;>cases b2<;>cases b3<;>cases b4<;>cases b5<;>cases e<;>cases af<;>rfl
 ·simp only[show¬((10:Int)=1)by omega,show¬((10:Int)=2)by omega,show¬((10:Int)=3)by omega,show¬((10:Int)=4)by omega,show¬((10:Int)=5)by omega,show¬((10:Int)=6)by omega,show¬((10:Int)=7)by omega,show¬((10:Int)=8)by omega,show¬((10:Int)=9)by omega,show¬((10:Int)=11)by omega,show¬((10:Int)=12)by omega,show¬((10:Int)=13)by omega,show¬((10:Int)=14)by omega,show¬((10:Int)=15)by omega,decide_true,decide_false,cond_true,cond_false,if_true,if_false,Bool.not_true,Bool.not_false,qint_i,qbool_b,qnth_s,List.getD_cons_zero,List.getD_cons_succ,qsome_s,g,g0,g1,g2,g3,g4]
  generalize decide (n3=0)=b0
  generalize decide (n4=0)=b1
  generalize decide (n5=0)=b2
  generalize decide (n6=0)=b3
  generalize decide (w=0)=b4
  constructor<;>cases b0<;>cases b1<;>cases b2<;>cases b3<;>cases b4<;>cases e<;>cases af<;>rfl
 ·simp only[show¬((11:Int)=1)by omega,show¬((11:Int)=2)by omega,show¬((11:Int)=3)by omega,show¬((11:Int)=4)by omega,show¬((11:Int)=5)by omega,show¬((11:Int)=6)by omega,show¬((11:Int)=7)by omega,show¬((11:Int)=8)by omega,show¬((11:Int)=9)by omega,show¬((11:Int)=10)by omega,show¬((11:Int)=12)by omega,show¬((11:Int)=13)by omega,show¬((11:Int)=14)by omega,show¬((11:Int)=15)by omega,decide_true,decide_false,cond_true,cond_false,if_true,if_false,Bool.not_true,Bool.not_false,qint_i,qbool_b,qnth_s,List.getD_cons_zero,List.getD_cons_succ,qsome_s,g,g0,g1,g2,g3,g4]
  generalize decide (n3=0)=b0
  generalize decide (n4=0)=b1
  generalize decide (n5=0)=b2
  generalize decide (n6=0)=b3
  generalize decide (w=0)=b4
  constructor<;>cases b0<;>cases b1<;>cases b2<;>cases b3<;>cases b4<;>cases e<;>cases af<;>rfl
 ·simp only[show¬((12:Int)=1)by omega,show¬((12:Int)=2)by omega,show¬((12:Int)=3)by omega,show¬((12:Int)=4)by omega,show¬((12:Int)=5)by omega,show¬((12:Int)=6)by omega,show¬((12:Int)=7)by omega,show¬((12:Int)=8)by omega,show¬((12:Int)=9)by omega,show¬((12:Int)=10)by omega,show¬((12:Int)=11)by omega,show¬((12:Int)=13)by omega,show¬((12:Int)=14)by omega,show¬((12:Int)=15)by omega,decide_true,decide_false,cond_true,cond_false,if_true,if_false,Bool.not_true,Bool.not_false,qint_i,qbool_b,qnth_s,List.getD_cons_zero,List.getD_cons_succ,qsome_s,g,g0,g1,g2,g3,g4]
  generalize decide (n3=0)=b0
  generalize decide (n4=0)=b1
  generalize decide (n5=0)=b2
  generalize decide (n6=0)=b3
  generalize decide (w=0)=b4
  constructor<;>cases b0<;>cases b1<;>cases b2<;>cases b3<;>cases b4<;>cases nm<;>cases af<;>rfl
 ·simp only[show¬((13:Int)=1)by omega,show¬((13:Int)=2)by omega,show¬((13:Int)=3)by omega,show¬((13:Int)=4)by omega,show¬((13:Int)=5)by omega,show¬((13:Int)=6)by omega,show¬((13:Int)=7)by omega,show¬((13:Int)=8)by omega,show¬((13:Int)=9)by omega,show¬((13:Int)=10)by omega,show¬((13:Int)=11)by omega,show¬((13:Int)=12)by omega,show¬((13:Int)=14)by omega,show¬((13:Int)=15)by omega,decide_true,decide_false,cond_true,cond_false,if_true,if_false,Bool.not_true,Bool.not_false,qint_i,qbool_b,qnth_s,List.getD_cons_zero,List.getD_cons_succ,qsome_s,g,g0,g1,g2,g3,g4]
  generalize decide (n3=0)=b0
  generalize decide (n4=0)=b1
  generalize decide (n5=0)=b2
  generalize decide (n6=0)=b3
  generalize decide (w=0)=b4
  constructor<;>cases b0<;>cases b1<;>cases b2<;>cases b3<;>cases b4<;>cases nm<;>cases af<;>rfl
 ·simp only[show¬((14:Int)=1)by omega,show¬((14:Int)=2)by omega,show¬((14:Int)=3)by omega,show¬((14:Int)=4)by omega,show¬((14:Int)=5)by omega,show¬((14:Int)=6)by omega,show¬((14:Int)=7)by omega,show¬((14:Int)=8)by omega,show¬((14:Int)=9)by omega,show¬((14:Int)=10)by omega,show¬((14:Int)=11)by omega,show¬((14:Int)=12)by omega,show¬((14:Int)=13)by omega,show¬((14:Int)=15)by omega,decide_true,decide_false,cond_true,cond_false,if_true,if_false,Bool.not_true,Bool.not_false,qint_i,qbool_b,qnth_s,List.getD_cons_zero,List.getD_cons_succ,qsome_s,g,g0,g1,g2,g3,g4]
  generalize decide (n3=0)=b0
  generalize decide (n4=0)=b1
  generalize decide (n5=0)=b2
  generalize decide (n6=0)=b3
  generalize decide (w=0)=b4
  constructor<;>cases b0<;>cases b1<;>cases b2<;>cases b3<;>cases b4<;>cases e<;>cases af<;>rfl
 ·simp only[show¬((15:Int)=1)by omega,show¬((15:Int)=2)by omega,show¬((15:Int)=3)by omega,show¬((15:Int)=4)by omega,show¬((15:Int)=5)by omega,show¬((15:Int)=6)by omega,show¬((15:Int)=7)by omega,show¬((15:Int)=8)by omega,show¬((15:Int)=9)by omega,show¬((15:Int)=10)by omega,show¬((15:Int)=11)by omega,show¬((15:Int)=12)by omega,show¬((15:Int)=13)by omega,show¬((15:Int)=14)by omega,decide_true,decide_false,cond_true,cond_false,if_true,if_false,Bool.not_true,Bool.not_false,qint_i,qbool_b,qnth_s,List.getD_cons_zero,List.getD_cons_succ,qsome_s,g,g0,g1,g2,g3,g4]
  generalize decide (n3=0)=b0
  generalize decide (n4=0)=b1
  generalize decide (n5=0)=b2
  generalize decide (n6=0)=b3
  generalize decide (w=0)=b4
  constructor<;>cases b0<;>cases b1<;>cases b2<;>cases b3<;>cases b4<;>cases e<;>cases af<;>rfl
 ·simp only[h1,h2,h3,h4,h5,h6,h7,h8,h9,h10,h11,h12,h13,h14,h15,decide_true,decide_false,cond_true,cond_false,if_true,if_false,Bool.not_true,Bool.not_false,qint_i,qbool_b,qnth_s,List.getD_cons_zero,List.getD_cons_succ,qsome_s,g,g0,g1,g2,g3,g4,Bool.false_and]
  constructor<;>first|rfl|(simp;done)
end Go.Proofs.YteccopaonadbeaaGreatDoor
namespace Go.Proofs.YteccopaonadbeaaGreatDoor
noncomputable section
set_option linter.unusedSimpArgs false
open Go Go.AM
theorem deepS_irr:∀(N M:Nat) (d:D) (n:Int),d.size<N→d.size<M→deepS N d n=deepS M d n:=by
 intro N
 induction N with
 |zero=>intro M d n h;omega
 |succ N ih=>
  intro M d n h1 h2
  cases M with
  |zero=>omega
  |succ M=>
   simp only[deepS]
   congr 1
   rw[Bool.eq_iff_iff]
   simp only[List.any_eq_true]
   constructor
   ·rintro⟨x,hx,h⟩;have:=size_elem hx;exact⟨x,hx,by rw[← ih M x _ (by omega) (by omega)];exact h⟩
   ·rintro⟨x,hx,h⟩;have:=size_elem hx;exact⟨x,hx,by rw[ih M x _ (by omega) (by omega)];exact h⟩
theorem kn_irr (v:D):∀(N M:Nat) (d:D),d.size<N→d.size<M→kn N d v=kn M d v:=by
 intro N
 induction N with
 |zero=>intro M d h;omega
 |succ N ih=>
  intro M d h1 h2
  cases M with
  |zero=>omega
  |succ M=>
   simp only[kn]
   congr 1
   rw[Bool.eq_iff_iff]
   simp only[List.all_eq_true]
   constructor
   ·intro h x hx;have:=opd_size hx;rw[← ih M x (by omega) (by omega)];exact h x hx
   ·intro h x hx;have:=opd_size hx;rw[ih M x (by omega) (by omega)];exact h x hx
def dx (x:D):Bool:=deepS (x.size+1) x 64
def kx (v x:D):Bool:=kn (x.size+1) x v
theorem dx_spec {x:D} (h:Conf PG 105 x):q194 [x, .int 64]=some [.bool (dx x)]∧q164 [x, .int 64]=some [.bool (!dx x)]:=by
 obtain⟨a,b⟩:=deep_spec (fuelL [x, .int 64]) x 64 h (fuel_in (by simp)) (by omega) (by omega)
 have:deepS (fuelL [x, .int 64]) x 64=dx x:=deepS_irr _ _ x 64 (fuel_in (by simp)) (by omega)
 rw[this]at a b
 exact⟨by rw[q194_eq];exact a,by rw[q164_eq];exact b⟩
theorem kx_spec {x v:D} (hv:v.toList.length≤maxLen) (h:Conf PG 105 x) (hf:fm x=true):q205 [x,v]=some [.bool (kx v x)]∧q196 [x,v]=some [.bool (kx v x)]:=by
 have hf':fmd (fuelL [x,v]) x=true:=by rw[← hf];exact fmd_irr _ _ x (fuel_in (by simp)) (by omega)
 obtain⟨a,b⟩:=known_spec hv (fuelL [x,v]) x h (fuel_in (by simp)) hf'
 have:kn (fuelL [x,v]) x v=kx v x:=kn_irr v _ _ x (fuel_in (by simp)) (by omega)
 rw[this]at a b
 exact⟨by rw[q205_eq];exact a,by rw[q196_eq];exact b⟩
def memB (v:D) (s:ByteArray):Bool:=v.toList.any fun x=>(qstr x).data.toList==s.data.toList
theorem idx_mem {v:D} (hv:v.toList.length≤maxLen) (s:ByteArray):∃j:Int,q98 [v, .str s]=some [.int j]∧q185 [v, .str s]=some [.int j]∧decide (0≤j)=memB v s∧j<v.toList.length∧ -1≤j:=by
 have key:∀k i:Nat,i+k=v.toList.length→(loW (st98_2 [v, .str s, .int (qlen v)]) [.int i]=some [.int 0]∧loW (st185_2 [v, .str s]) [.int i]=some [.int 0]∧(v.toList.drop i).any (fun x=>(qstr x).data.toList==s.data.toList)=false)∨
  ∃j:Nat,j<v.toList.length∧loW (st98_2 [v, .str s, .int (qlen v)]) [.int i]=some [.int 1, .int j]∧loW (st185_2 [v, .str s]) [.int i]=some [.int 1, .int j]∧(v.toList.drop i).any (fun x=>(qstr x).data.toList==s.data.toList)=true:=by
  unfold maxLen at hv
  intro k
  induction k with
  |zero=>
   intro i hi
   refine .inl ⟨?_,?_,?_⟩
   ·rw[loW_eq,st98_2_eq,qlen_c,qcmp_lss];simp only[show¬((i:Int)<v.toList.length)by omega,decide_false,cond_false]
   ·rw[loW_eq,st185_2_eq,qlen_c,qcmp_lss];simp only[show¬((i:Int)<v.toList.length)by omega,decide_false,cond_false]
   ·rw[List.drop_of_length_le (by omega)];rfl
  |succ k ih=>
   intro i hi
   have hlt:i<v.toList.length:=by omega
   rw[loW_eq,st98_2_eq,loW_eq,st185_2_eq,qlen_c,qcmp_lss,qinb_n hlt,qget_n,getD_lt hlt,List.drop_eq_getElem_cons hlt,List.any_cons,cmpS_eql,cmpS_eql]
   simp only[show((i:Int)<v.toList.length)by omega,decide_true,cond_true]
   have hc:(s.data.toList==(qstr v.toList[i]).data.toList)=((qstr v.toList[i]).data.toList==s.data.toList):=by
    rw[Bool.eq_iff_iff];simp only[beq_iff_eq];exact⟨Eq.symm,Eq.symm⟩
   rw[hc]
   cases ((qstr v.toList[i]).data.toList==s.data.toList)with
   |true=>exact .inr ⟨i,hlt,rfl,rfl,by simp⟩
   |false=>
    simp only[cond_false,Bool.false_or]
    rw[add_nat (by omega), ← qlen_c]
    exact ih (i+1) (by omega)
 have h:=key v.toList.length 0 (by omega)
 simp only[Int.natCast_zero,List.drop_zero]at h
 rw[q98_eq,F98_eq,q185_eq,F185_eq,l98_2_eq,l185_2_eq]
 unfold memB
 rcases h with⟨h1,h2,h3⟩|⟨j,hj,h1,h2,h3⟩
 ·refine⟨-1,?_,?_,by rw[h3];rfl,by omega,by omega⟩
  ·simp[h1,qsome_s,qnth_s,qint_i,qcmp_eql]
  ·simp[h2,qsome_s,qnth_s,qint_i,qcmp_eql]
 ·refine⟨j,?_,?_,by rw[h3];simp,by omega,by omega⟩
  ·simp[h1,qsome_s,qnth_s,qint_i,qcmp_eql]
  ·simp[h2,qsome_s,qnth_s,qint_i,qcmp_eql]
theorem contains_spec {v:D} (hv:v.toList.length≤maxLen) (s:ByteArray):q60 [v, .str s]=some [.bool (memB v s)]:=by
 obtain⟨j,h1,_,h3,_⟩:=idx_mem hv s
 rw[q60_eq,F60_eq,h1]
 simp only[qsome_s,qnth_s,List.getD_cons_zero,qint_i,cond_true,qcmp_geq,h3]
theorem any_take {l:D} {p:D→Bool} {n:Nat} (hn:n≤l.toList.length):(List.range n).any (fun i=>p (l.toList.getD i .other))=(l.toList.take n).any p:=by
 have h:=any_range (l:=l.toList.take n) (p:=p)
 rw[← h]
 rw[List.length_take,Nat.min_eq_left hn]
 rw[Bool.eq_iff_iff]
 simp only[List.any_eq_true,List.mem_range]
 constructor
 ·rintro⟨i,hi,h⟩;exact⟨i,hi,by rw[getD_lt (by simp;omega)];rw[getD_lt (by omega)]at h;simpa using h⟩
 ·rintro⟨i,hi,h⟩;exact⟨i,hi,by rw[getD_lt (by omega)];rw[getD_lt (by simp;omega)]at h;simpa using h⟩
theorem func_spec {l:D} {n:Nat} (hl:l.toList.length≤maxLen) (hn:n≤l.toList.length) (s:ByteArray):q87 [l, .int (n:Int), .str s]=some [.bool ((l.toList.take n).any fun x=>(qstr (qfld x 0)).data.toList==s.data.toList)]:=by
 rw[q87_eq,F87_eq,l87_2_eq]
 have hloop:=loopI (st:=st87_2 [l, .int (n:Int), .str s]) (n:=n) (p:=fun i=>(fun x=>(qstr (qfld x 0)).data.toList==s.data.toList) (l.toList.getD i .other)) (r0:=[D.int 0]) (r1:=[.int 1]) (by omega)
  (by rw[st87_2_eq];simp[qcmp_lss]) (fun i hi=>by
   rw[st87_2_eq,qinb_n (show i<l.toList.length by omega),qget_n,cmpS_eql,qcmp_lss]
   simp only[show((i:Int)<(n:Int))by omega,decide_true,cond_true]
   by_cases hc:((qstr (qfld (l.toList.getD i .other) 0)).data.toList==s.data.toList)=true
   ·simp only[hc,cond_true,if_true]
   ·rw[Bool.not_eq_true]at hc;simp only[hc,cond_false,Bool.false_eq_true,if_false])
 rw[any_take hn (p:=fun x=>(qstr (qfld x 0)).data.toList==s.data.toList)]at hloop
 simp only[hloop]
 cases (l.toList.take n).any fun x=>(qstr (qfld x 0)).data.toList==s.data.toList<;>simp[qsome_s,qnth_s,qint_i,qcmp_eql]
def isLab (s:ByteArray) (x:D):Bool:=decide (qint (qfld (qfld x 0) 0)=13)&&((qstr (qfld (qfld x 0) 2)).data.toList==s.data.toList)
theorem label_spec {l:D} {n:Nat} (hl:l.toList.length≤maxLen) (hn:n≤l.toList.length) (s:ByteArray):q197 [l, .int (n:Int), .str s]=some [.bool ((l.toList.take n).any (isLab s))]:=by
 rw[q197_eq,F197_eq,l197_2_eq]
 have hloop:=loopI (st:=st197_2 [l, .int (n:Int), .str s]) (n:=n) (p:=fun i=>isLab s (l.toList.getD i .other)) (r0:=[D.int 0]) (r1:=[.int 1]) (by omega)
  (by rw[st197_2_eq];simp[qcmp_lss]) (fun i hi=>by
   rw[st197_2_eq,qinb_n (show i<l.toList.length by omega),qget_n,cmpS_eql,qcmp_lss]
   unfold isLab
   simp only[show((i:Int)<(n:Int))by omega,decide_true,cond_true,qiteB_c,qcmp_eql,Bool.cond_self]
   cases ((qstr (qfld (qfld (l.toList.getD i .other) 0) 2)).data.toList==s.data.toList)<;>by_cases h:qint (qfld (qfld (l.toList.getD i .other) 0) 0)=13<;>simp[h])
 rw[any_take hn (p:=isLab s)]at hloop
 simp only[hloop]
 cases (l.toList.take n).any (isLab s)<;>simp[qsome_s,qnth_s,qint_i,qcmp_eql]
def symB (v:D) (fs ls:ByteArray→Bool) (s:D):Bool:=
 (qfld s 3).toList.all (kx v)&&(if qint (qfld s 0)=1∨qint (qfld s 0)=3 then hasB v (qstr (qfld s 2))else if qint (qfld s 0)=5 then fs (qstr (qfld s 2))else if qint (qfld s 0)=12 then ls (qstr (qfld s 2))else true)
def itemE (v:D) (fs ls seen:ByteArray→Bool) (s:D) (b:Bool):Int:=
 if(qfld s 3).toList.any dx then 20 else if stB s=false then 2 else if symB v fs ls s=false then 17
 else if(qint (qfld s 0)=10∨qint (qfld s 0)=11)∧b=false then 21 else if qint (qfld s 0)=13∧seen (qstr (qfld s 2))=true then 8 else 0
theorem contains242 {l:D} {p:D→Bool} (hl:l.toList.length≤maxLen) (hc:∀x∈l.toList,q164 [x, .int 64]=some [.bool (!p x)]):q162_163 [l]=some [.bool (l.toList.any p)]:=by
 rw[q162_163_eq,F162_163_eq,q201_163_eq,F201_163_eq,l201_163_2_eq]
 rcases idxLoop (st:=st201_163_2 [l, .int (qlen l)]) (c:=fun x=>q163_163 [x]) (p:=p) (r1:=fun i=>[.int 1, .int i]) (r0:=[.int 0]) (fun i=>st201_163_2_eq l (qlen l) i) hl (fun x hx=>by rw[q163_163_eq,F163_163_eq,hc x hx];simp[qsome_s,qnth_s,qbool_b,qnot_c])with⟨h1,h2⟩|⟨i,h1,h2⟩
 ·simp[h1,h2,qsome_s,qnth_s,qint_i,qcmp_eql,qcmp_geq]
 ·simp[h1,h2,qsome_s,qnth_s,qint_i,qcmp_eql,qcmp_geq]
theorem stB_fm {s:D} (h:stB s=true):∀x∈(qfld s 3).toList,fm x=true:=by
 unfold stB at h;simp only[Bool.and_eq_true,List.all_eq_true]at h;exact h.2
theorem sym_spec {s v fn lb sn:D} (h:Conf PG 102 s) (hv:v.toList.length≤maxLen) (hfn:fn.toList.length≤maxLen) (hlb:lb.toList.length≤maxLen) (hs:stB s=true):q166 [v,fn,lb,sn,s]=some [.bool (symB v (memB fn) (memB lb) s)]:=by
 obtain⟨l3,e3⟩:=exprs_conf h
 rw[q166_eq,F166_eq,l166_2_eq]
 have hloop:=idxLoop (st:=st166_2 [v,fn,lb,sn,qfld s 3, .int (qlen (qfld s 3)),s]) (l:=qfld s 3) (c:=fun x=>(q205 [x,v]).map fun r=>[.bool (qnot (qbool (r.getD 0 .other)))]) (p:=fun x=> !kx v x) (r1:=fun _=>[.int 1]) (r0:=[.int 0])
  (fun i=>by
   rw[st166_2_eq]
   cases hq:q205 [qget (qfld s 3) i,v]with
   |none=>simp[qsome_n]
   |some r=>simp[qsome_s,qnth_s,qbool_b]) l3 (fun x hx=>by rw[(kx_spec hv (e3 x hx) (stB_fm hs x hx)).1];simp[qbool_b,qnot_c])
 have hall:(qfld s 3).toList.all (kx v) = !((qfld s 3).toList.any fun x=> !kx v x):=by rw[List.not_any_eq_all_not];simp
 unfold symB
 rw[hall,(has_spec hv _).1,contains_spec hfn,contains_spec hlb]
 rcases hloop with⟨b1,b2⟩|⟨_,b1,b2⟩
 ·rw[b2]
  simp only[b1,qsome_s,qnth_s,List.getD_cons_zero,qint_i,qbool_b,cond_true,qcmp_eql,decide_true,Bool.not_false,Bool.true_and,qiteB_c]
  by_cases k1:qint (qfld s 0)=1
  ·simp[k1]
  by_cases k3:qint (qfld s 0)=3
  ·simp[k3]
  by_cases k5:qint (qfld s 0)=5
  ·simp[k5]
  by_cases k12:qint (qfld s 0)=12
  ·simp[k12]
  simp[k1,k3,k5,k12]
 ·rw[b2];simp[b1,qsome_s,qnth_s,qint_i,qcmp_eql]
theorem check224 {s v fn lb:D} {sn:List D} {b:Bool} (h:Conf PG 102 s) (hv:v.toList.length≤maxLen) (hfn:fn.toList.length≤maxLen) (hlb:lb.toList.length≤maxLen) (hsn:sn.length≤1000000):
 q102 [lb,v,fn, .agg [s, .bool b], .list sn]=some [.int (itemE v (memB fn) (memB lb) (memB (.list sn)) s b), .list (sn++if qint (qfld s 0)=13∧itemE v (memB fn) (memB lb) (memB (.list sn)) s b=0 then[.str (qstr (qfld s 2))]else[])]:=by
 obtain⟨l3,e3⟩:=exprs_conf h
 have hd:=contains242 (p:=dx) l3 (fun x hx=>(dx_spec (e3 x hx)).2)
 have hst:=(stmt_spec h).1
 have hre:D.agg [D.int (qint (qfld s 0)),D.int (qint (qfld s 1)),D.str (qstr (qfld s 2)),qfld s 3,qfld s 4,qfld s 5,qfld s 6]=s:=conf_reN h
 have q0:qfld (D.agg [s, .bool b]) 0=s:=by rw[qfld_a];rfl
 have q1:qfld (D.agg [s, .bool b]) 1 = .bool b:=by rw[qfld_a];rfl
 rw[q102_eq,F102_eq]
 simp only[q0,q1,hre,hd,hst,qsome_s,qnth_s,List.getD_cons_zero,qbool_b,qnot_c,cond_true,qiteB_c,qcmp_eql,decide_true]
 unfold itemE
 cases (qfld s 3).toList.any dx with
 |true=>simp
 |false=>
  simp only[cond_false,Bool.false_eq_true,if_false]
  cases hb:stB s with
  |false=>simp
  |true=>
   have hsy:=sym_spec (sn:= .list sn) h hv hfn hlb hb
   simp only[hsy,qsome_s,qnth_s,List.getD_cons_zero,qbool_b,Bool.not_true,cond_false,cond_true,reduceCtorEq,if_false]
   cases symB v (memB fn) (memB lb) s with
   |false=>simp
   |true=>
    simp only[Bool.not_true,cond_false,reduceCtorEq,if_false]
    by_cases k10:qint (qfld s 0)=10
    ·cases b<;>simp[k10]
    by_cases k11:qint (qfld s 0)=11
    ·cases b<;>simp[k11]
    simp only[k10,k11,decide_false,cond_false,or_self,false_and,if_false]
    by_cases k13:qint (qfld s 0)=13
    ·have hc:=contains_spec (v:= .list sn) (by show sn.length≤_;unfold maxLen;omega) (qstr (qfld s 2))
     simp only[k13,hc,qsome_s,qnth_s,List.getD_cons_zero,qbool_b,decide_true,cond_true,true_and,qapp_l,qlen_l]
     rw[qmem_big (by rw[List.length_append,List.length_cons,List.length_nil];omega) (by omega)]
     cases memB (.list sn) (qstr (qfld s 2))<;>simp
    ·simp[k13]
theorem stmt229 {u v l:D} {k:Nat} {s:D} {b:Bool} (hv:v.toList.length≤maxLen) (hl:l.toList.length≤maxLen) (hf:(qfld u 2).toList.length≤maxLen) (hk:k<l.toList.length) (hs:l.toList.getD k .other = .agg [s, .bool b]) (h:Conf PG 102 s):
 q151 [u,v,l, .int (k:Int)]=some [.int (itemE v (fun n=>(qfld u 2).toList.any fun x=>(qstr (qfld x 0)).data.toList==n.data.toList) (fun n=>l.toList.any (isLab n)) (fun n=>(l.toList.take k).any (isLab n)) s b)]:=by
 obtain⟨l3,e3⟩:=exprs_conf h
 have hst:=(stmt_spec h).2
 have hre:D.agg [D.int (qint (qfld s 0)),D.int (qint (qfld s 1)),D.str (qstr (qfld s 2)),qfld s 3,qfld s 4,qfld s 5,qfld s 6]=s:=conf_reN h
 have q0:qfld (D.agg [s, .bool b]) 0=s:=by rw[qfld_a];rfl
 have q1:qfld (D.agg [s, .bool b]) 1 = .bool b:=by rw[qfld_a];rfl
 have hg:qget l (k:Int) = .agg [s, .bool b]:=by rw[qget_n,hs]
 rw[q151_eq,F151_eq,qinb_n hk,hg,l151_3_eq,l151_10_eq]
 simp only[q0,q1,hre,hst]
 have hloop:=idxLoop (st:=st151_3 [v,l, .int (k:Int), .int (qint (qfld s 0)), .int (qint (qfld s 1)), .str (qstr (qfld s 2)),qfld s 3,qfld s 4,qfld s 5,qfld s 6,u]) (l:=qfld s 3) (c:=fun x=>q194 [x, .int 64]) (p:=dx) (r1:=fun _=>[.int 1]) (r0:=[.int 0])
  (fun i=>by rw[st151_3_eq]) l3 (fun x hx=>(dx_spec (e3 x hx)).1)
 have hloop2:=fun hs:stB s=true=>idxLoop (st:=st151_10 [v,l, .int (k:Int), .int (qint (qfld s 0)), .int (qint (qfld s 1)), .str (qstr (qfld s 2)),qfld s 3,qfld s 4,qfld s 5,qfld s 6,u]) (l:=qfld s 3) (c:=fun x=>(q196 [x,v]).map fun r=>[.bool (qnot (qbool (r.getD 0 .other)))]) (p:=fun x=> !kx v x) (r1:=fun _=>[.int 1]) (r0:=[.int 0])
  (fun i=>by
   rw[st151_10_eq]
   cases hq:q196 [qget (qfld s 3) i,v]with
   |none=>simp[qsome_n]
   |some r=>simp[qsome_s,qnth_s,qbool_b]) l3 (fun x hx=>by rw[(kx_spec hv (e3 x hx) (stB_fm hs x hx)).2];simp[qbool_b,qnot_c])
 have hall:(qfld s 3).toList.all (kx v) = !((qfld s 3).toList.any fun x=> !kx v x):=by rw[List.not_any_eq_all_not];simp
 have e1:=(has_spec hv (qstr (qfld s 2))).2
 have e2:=func_spec (n:=(qfld u 2).toList.length) hf (Nat.le_refl _) (qstr (qfld s 2))
 have e3':=label_spec (n:=l.toList.length) hl (Nat.le_refl _) (qstr (qfld s 2))
 have e4:=label_spec (n:=k) hl (by omega) (qstr (qfld s 2))
 rw[List.take_of_length_le (Nat.le_refl _)]at e2 e3'
 simp only[qlen_c,e1,e2,e3',e4]
 unfold itemE symB
 rw[hall]
 rcases hloop with⟨b1,b2⟩|⟨_,b1,b2⟩
 ·simp only[b1,b2,qsome_s,qnth_s,List.getD_cons_zero,qint_i,qbool_b,qnot_c,cond_true,qiteB_c,qcmp_eql,decide_true,Bool.false_eq_true,if_false,Bool.cond_self]
  cases hb:stB s with
  |false=>simp
  |true=>
   rcases hloop2 hb with⟨c1,c2⟩|⟨_,c1,c2⟩
   ·simp only[c1,c2,qsome_s,qnth_s,List.getD_cons_zero,qint_i,decide_true,Bool.not_false,Bool.not_true,Bool.true_and,cond_false,cond_true,reduceCtorEq,if_false]
    generalize hasB v (qstr (qfld s 2))=a1
    generalize ((qfld u 2).toList.any fun x=>(qstr (qfld x 0)).data.toList==(qstr (qfld s 2)).data.toList)=a2
    generalize (l.toList.any (isLab (qstr (qfld s 2))))=a3
    by_cases k1:qint (qfld s 0)=1
    ·cases a1<;>simp[k1]
    by_cases k3:qint (qfld s 0)=3
    ·cases a1<;>simp[k3]
    by_cases k5:qint (qfld s 0)=5
    ·cases a2<;>simp[k5]
    by_cases k12:qint (qfld s 0)=12
    ·cases a3<;>simp[k12]
    by_cases k10:qint (qfld s 0)=10
    ·cases b<;>simp[k10]
    by_cases k11:qint (qfld s 0)=11
    ·cases b<;>simp[k11]
    by_cases k13:qint (qfld s 0)=13
    ·by_cases h4:(l.toList.take k).any (isLab (qstr (qfld s 2)))=true
     ·simp only[k13,h4,decide_true,cond_true,and_self,if_true];simp
     ·rw[Bool.not_eq_true]at h4
      simp only[k13,h4,decide_true,cond_true,and_false,if_false,Bool.false_eq_true];simp
    simp[k1,k3,k5,k12,k10,k11,k13]
   ·simp[c1,c2,qsome_s,qnth_s,qint_i]
 ·simp[b1,b2,qsome_s,qnth_s,qint_i,qcmp_eql]
end
end Go.Proofs.YteccopaonadbeaaGreatDoor
namespace Go.Proofs.YteccopaonadbeaaGreatDoor
noncomputable section
set_option linter.unusedSimpArgs false
open Go Go.AM
def node (x:D):D:=qfld x 0
def flag (x:D):Bool:=qbool (qfld x 1)
theorem node_a (s:D) (b:Bool):node (.agg [s, .bool b])=s:=by unfold node;rw[qfld_a];rfl
theorem flag_a (s:D) (b:Bool):flag (.agg [s, .bool b])=b:=by unfold flag;rw[qfld_a];exact qbool_b b
inductive Ag:List D→List D→Prop
 |nil:Ag [] []
 |same (x:D) {xs ys:List D}:Ag xs ys→Ag (x::xs) (x::ys)
 |bad (x:D) {xs ys:List D}:stB (node x)=false→xs.map node=ys.map node→Ag (x::xs) (x::ys)
theorem Ag.nodes {xs ys:List D} (h:Ag xs ys):xs.map node=ys.map node:=by
 induction h with
 |nil=>rfl
 |same x _ ih=>simp[ih]
 |bad x _ h=>simp[h]
theorem Ag.app {xs ys xs' ys':List D} (h:Ag xs ys) (h':Ag xs' ys'):Ag (xs++xs') (ys++ys'):=by
 induction h with
 |nil=>exact h'
 |same x _ ih=>exact .same x ih
 | @bad x l1 l2 hb h=>exact .bad x hb (by show(l1++xs').map node=(l2++ys').map node;rw[List.map_append,List.map_append,h,h'.nodes])
theorem Ag.flat {f g:D→List D}:∀(l:List D),(∀x∈l,Ag (f x) (g x))→Ag (l.flatMap f) (l.flatMap g)
 | [],_=> .nil
 |x::l,h=>by
  simp only[List.flatMap_cons]
  exact(h x (by simp)).app (Ag.flat l fun y hy=>h y (by simp[hy]))
theorem Ag.get {xs ys:List D} (h:Ag xs ys):∀j,(∀m,m<j→stB (node (xs.getD m .other))=true)→xs.getD j .other=ys.getD j .other:=by
 induction h with
 |nil=>intro j _;rfl
 |same x _ ih=>
  intro j hj
  cases j with
  |zero=>rfl
  |succ j=>simpa using ih j fun m hm=>by simpa using hj (m+1) (by omega)
 |bad x hb _=>
  intro j hj
  cases j with
  |zero=>rfl
  |succ j=>have:=hj 0 (by omega);simp[hb]at this
theorem flat_nodes {f g:D→List D}:∀(l:List D),(∀x∈l,(f x).map node=(g x).map node)→(l.flatMap f).map node=(l.flatMap g).map node
 | [],_=>rfl
 |x::l,h=>by simp only[List.flatMap_cons,List.map_append,h x (by simp),flat_nodes l fun y hy=>h y (by simp[hy])]
theorem fl_nodes:∀(N:Nat) (l:D) (b b':Bool),(flP N l b).map node=(flR N l b').map node
 |0,_,_,_=>rfl
 |N+1,l,b,b'=>by
  simp only[flP,flR]
  refine flat_nodes _ fun s _=> ?_
  have h4:=fl_nodes N (qfld s 4) (b||loopS s) (b'||loopS s)
  have h5:=fl_nodes N (qfld s 5) (b||loopS s) b'
  have h6:((qfld s 6).toList.flatMap fun x=>flP N x (b||loopS s)).map node=((qfld s 6).toList.flatMap fun x=>flR N x b').map node:=flat_nodes _ fun x _=>fl_nodes N x _ _
  simp only[kids,List.flatMap_cons,List.map_cons,List.map_append,h4,h5,h6,node_a,List.append_assoc]
theorem stB_loop {s:D} (h:stB s=true) (hl:loopS s=true):(qfld s 5).toList = []∧(qfld s 6).toList = []:=by
 unfold stB stHead at h
 unfold loopS at hl
 simp only[Bool.or_eq_true,decide_eq_true_eq]at hl
 rcases hl with hl|hl
 ·rw[hl]at h;simp at h;exact⟨List.length_eq_zero_iff.1 (by simp[h]),List.length_eq_zero_iff.1 (by simp[h])⟩
 ·rw[hl]at h;simp at h;exact⟨List.length_eq_zero_iff.1 (by simp[h]),List.length_eq_zero_iff.1 (by simp[h])⟩
theorem flP_nil {N:Nat} {l:D} {b:Bool} (h:l.toList = []):flP N l b = []:=by cases N<;>simp[flP,h]
theorem flR_nil {N:Nat} {l:D} {b:Bool} (h:l.toList = []):flR N l b = []:=by cases N<;>simp[flR,h]
theorem fl_ag:∀(N:Nat) (l:D) (b:Bool),Ag (flP N l b) (flR N l b)
 |0,_,_=> .nil
 |N+1,l,b=>by
  simp only[flP,flR]
  refine Ag.flat _ fun s _=> ?_
  cases hb:stB s with
  |false=>
   refine .bad _ (by rw[node_a];exact hb) ?_
   have:=fl_nodes (N+1) (.list [s]) b b
   simp only[flP,flR,tl,List.flatMap_cons,List.flatMap_nil,List.append_nil,List.map_cons,List.cons.injEq]at this
   exact this.2
  |true=>
   refine .same _ ?_
   simp only[kids,List.flatMap_cons,List.append_assoc]
   cases hl:loopS s with
   |false=>
    simp only[Bool.or_false]
    exact(fl_ag N _ b).app ((fl_ag N _ b).app (Ag.flat _ fun x _=>fl_ag N x b))
   |true=>
    obtain⟨h5,h6⟩:=stB_loop hb hl
    rw[h6,flP_nil h5,flR_nil h5]
    simpa using fl_ag N (qfld s 4) (b||true)
def ItemOk (x:D):Prop:=∃s b,x = .agg [s, .bool b]∧Conf PG 102 s
theorem flP_ok:∀(N:Nat) (l:D) (b:Bool),Conf PG 59 l→∀x∈flP N l b,ItemOk x
 |0,_,_,_,x,hx=>by cases hx
 |N+1,l,b,hc,x,hx=>by
  simp only[flP,List.mem_flatMap,List.mem_cons]at hx
  obtain⟨s,hs,hx⟩:=hx
  obtain⟨h1,h2⟩:=node_conf hc hs
  rcases hx with rfl|⟨y,hy,hx⟩
  ·exact⟨s,b,rfl,h1⟩
  ·exact flP_ok N y _ (kids_conf h1 hy).1 x hx
theorem flR_ok:∀(N:Nat) (l:D) (b:Bool),Conf PG 59 l→∀x∈flR N l b,ItemOk x
 |0,_,_,_,x,hx=>by cases hx
 |N+1,l,b,hc,x,hx=>by
  simp only[flR,List.mem_flatMap,List.mem_cons,List.mem_append]at hx
  obtain⟨s,hs,hx⟩:=hx
  obtain⟨h1,h2⟩:=node_conf hc hs
  rcases hx with rfl|((hx|hx)|⟨y,hy,hx⟩)
  ·exact⟨s,b,rfl,h1⟩
  ·exact flR_ok N _ _ (kids_conf h1 (by simp[kids])).1 x hx
  ·exact flR_ok N _ _ (kids_conf h1 (by simp[kids])).1 x hx
  ·exact flR_ok N y _ (kids_conf h1 (by simp[kids,hy])).1 x hx
def labs (L:List D):List D:=L.flatMap fun x=>if qint (qfld (node x) 0)=13 then[.str (qstr (qfld (node x) 2))]else[]
theorem labs_mem (L:List D) (n:ByteArray):memB (.list (labs L)) n=L.any (isLab n):=by
 unfold memB labs isLab node
 rw[tl]
 induction L with
 |nil=>rfl
 |cons x L ih=>
  simp only[List.flatMap_cons,List.any_append,List.any_cons,ih]
  congr 1
  by_cases h:qint (qfld (qfld x 0) 0)=13<;>simp[h,qstr_s]
theorem lab_nodes {xs ys:List D} (h:xs.map node=ys.map node) (n:ByteArray):xs.any (isLab n)=ys.any (isLab n):=by
 have e:∀l:List D,l.any (isLab n)=(l.map node).any (fun s=>decide (qint (qfld s 0)=13)&&((qstr (qfld s 2)).data.toList==n.data.toList)):=fun l=>by rw[List.any_map];rfl
 rw[e,e,h]
theorem labs_len (L:List D):(labs L).length≤L.length:=by
 unfold labs
 induction L with
 |nil=>simp
 |cons x L ih=>
  simp only[List.flatMap_cons,List.length_append,List.length_cons]
  have:(if qint (qfld (node x) 0)=13 then[D.str (qstr (qfld (node x) 2))]else[]).length≤1:=by split<;>simp
  omega
def plE (v:D) (fs:ByteArray→Bool) (L:List D) (j:Nat):Int:=
 itemE v fs (fun n=>L.any (isLab n)) (fun n=>(L.take j).any (isLab n)) (node (L.getD j .other)) (flag (L.getD j .other))
theorem itemE_ok {v s:D} {fs ls sn:ByteArray→Bool} {b:Bool} (h:itemE v fs ls sn s b=0):stB s=true:=by
 unfold itemE at h
 split at h
 ·cases h
 ·split at h
  ·cases h
  ·rename_i _ h2;simpa using h2
theorem plE_eq {v:D} {fs:ByteArray→Bool} {xs ys:List D} (h:Ag xs ys):firstE (plE v fs xs) 0 xs.length=firstE (plE v fs ys) 0 ys.length:=by
 have hn:=h.nodes
 have hlen:xs.length=ys.length:=by have:=congrArg List.length hn;simpa using this
 rw[← hlen]
 refine firstE_congr _ _ fun j _ _ hp=> ?_
 have hg:=h.get j fun m hm=>itemE_ok (hp m (by omega) hm)
 unfold plE
 rw[hg]
 have e1:(fun n=>xs.any (isLab n))=fun n=>ys.any (isLab n):=funext fun n=>lab_nodes hn n
 have e2:(fun n=>(xs.take j).any (isLab n))=fun n=>(ys.take j).any (isLab n):=funext fun n=>lab_nodes (by rw[List.map_take,List.map_take,hn]) n
 rw[e1,e2]
end
end Go.Proofs.YteccopaonadbeaaGreatDoor
namespace Go.Proofs.YteccopaonadbeaaGreatDoor
noncomputable section
set_option linter.unusedSimpArgs false
open Go Go.AM
theorem flat_congr {f g:D→List D}:∀(l:List D),(∀x∈l,f x=g x)→l.flatMap f=l.flatMap g
 | [],_=>rfl
 |x::l,h=>by simp only[List.flatMap_cons,h x (by simp),flat_congr l fun y hy=>h y (by simp[hy])]
theorem flP_irr:∀(N M:Nat) (l:D) (b:Bool),Conf PG 59 l→l.size<N→l.size<M→flP N l b=flP M l b:=by
 intro N
 induction N with
 |zero=>intro M l b _ h;omega
 |succ N ih=>
  intro M l b hc h1 h2
  cases M with
  |zero=>omega
  |succ M=>
   simp only[flP]
   refine flat_congr _ fun s hs=> ?_
   obtain⟨c1,c2⟩:=node_conf hc hs
   congr 1
   refine flat_congr _ fun x hx=> ?_
   obtain⟨k1,k2⟩:=kids_conf c1 hx
   exact ih M x _ k1 (by omega) (by omega)
theorem dep_irr:∀(N M:Nat) (l:D),Conf PG 59 l→l.size<N→l.size<M→dep N l=dep M l:=by
 intro N
 induction N with
 |zero=>intro M l _ h;omega
 |succ N ih=>
  intro M l hc h1 h2
  cases M with
  |zero=>omega
  |succ M=>
   simp only[dep]
   congr 1
   refine List.map_congr_left fun s hs=> ?_
   obtain⟨c1,c2⟩:=node_conf hc hs
   congr 2
   refine List.map_congr_left fun x hx=> ?_
   obtain⟨k1,k2⟩:=kids_conf c1 hx
   exact ih M x k1 (by omega) (by omega)
theorem grow241 {n:Int} (h:0≤n∧n≤10000000):q161 [.int n]=some [.list []]:=by
 rw[q161_eq,F161_eq]
 obtain⟨m,rfl⟩:∃m:Nat,n=(m:Int):=⟨n.toNat,by omega⟩
 have e0:qbin .sub .i64 (m:Int) 0=m:=by rw[sub64 (by omega) (by omega)];omega
 simp only[e0,qcmp_lss,qcmp_gtr,qcmp_leq,qcmp_eql,sub_empty,qlen_l,qmem_big (show m≤1000000000 by omega) (show 88≤1000 by omega)]
 by_cases h0:m=0
 ·subst h0;simp
 ·simp[show¬((m:Int)<0)by omega,show 0<m by omega]
theorem concat_spec {a b:D} (ha:a.toList.length≤1000000) (hb:b.toList.length≤1000000):q101 [.list [a,b]]=some [.list (a.toList++b.toList)]:=by
 rw[q101_eq,F101_eq,l101_3_eq,l101_11_eq,qlen_l]
 have g0:qget (.list [a,b]) 0=a:=by rw[qget_0];rfl
 have g1:qget (.list [a,b]) 1=b:=qget_n (.list [a,b]) 1
 have i0:qinb (.list [a,b]) 0=true:=qinb_n (d:= .list [a,b]) (i:=0) (by simp[D.toList])
 have i1:qinb (.list [a,b]) 1=true:=qinb_n (d:= .list [a,b]) (i:=1) (by simp[D.toList])
 have s1:qbin .add .i64 0 (qlen a)=(a.toList.length:Int):=by rw[qlen_c,add64 (by omega) (by omega)];omega
 have s2:qbin .add .i64 (a.toList.length:Int) (qlen b)=((a.toList.length+b.toList.length:Nat):Int):=by rw[qlen_c,add64 (by omega) (by omega)];omega
 have t1:qbin .add .i64 0 1=1:=add_nat (i:=0) (by omega)
 have t2:qbin .add .i64 1 1=2:=add_nat (i:=1) (by omega)
 have hl:loW (st101_3 [.list [a,b], .list [a,b], .int (([a,b]:List D).length:Int)]) [.int 0, .int 0]=some [.int 0, .int ((a.toList.length+b.toList.length:Nat):Int)]:=by
  have f1:¬((a.toList.length:Int)<0):=by omega
  have f2:¬(((a.toList.length+b.toList.length:Nat):Int)<0):=by omega
  rw[loW_eq,st101_3_eq]
  simp only[qcmp_lss,List.length_cons,List.length_nil,show(0:Int)<((0+1+1:Nat):Int)by omega,decide_true,cond_true,i0,g0,s1,f1,decide_false,cond_false,t1]
  rw[loW_eq,st101_3_eq]
  simp only[qcmp_lss,show(1:Int)<((0+1+1:Nat):Int)by omega,decide_true,cond_true,i1,g1,s2,f2,decide_false,cond_false,t2]
  rw[loW_eq,st101_3_eq]
  simp only[qcmp_lss,show¬(2:Int)<((0+1+1:Nat):Int)by omega,decide_false,cond_false]
 have hm:loW (st101_11 [.list [a,b], .int (([a,b]:List D).length:Int)]) [.int 0, .list []]=some [.int 0, .list (a.toList++b.toList)]:=by
  rw[loW_eq,st101_11_eq]
  simp only[qcmp_lss,List.length_cons,List.length_nil,show(0:Int)<((0+1+1:Nat):Int)by omega,decide_true,cond_true,i0,g0,qapp_lt,qlen_l,List.nil_append,qmem_big (show a.toList.length≤1000000000 by omega) (show 88≤1000 by omega),t1]
  rw[loW_eq,st101_11_eq]
  simp only[qcmp_lss,show(1:Int)<((0+1+1:Nat):Int)by omega,decide_true,cond_true,i1,g1,qapp_lt,qlen_l,qmem_big (show(a.toList++b.toList).length≤1000000000 by rw[List.length_append];omega) (show 88≤1000 by omega),t2]
  rw[loW_eq,st101_11_eq]
  simp only[qcmp_lss,show¬(2:Int)<((0+1+1:Nat):Int)by omega,decide_false,cond_false]
 simp only[hl,hm,grow241 (n:=((a.toList.length+b.toList.length:Nat):Int)) (by omega),qsome_s,qnth_s,List.getD_cons_zero,List.getD_cons_succ,qint_i,cond_true]
theorem f38_0:isFld 61 0 9=true:=by kernel_rfl
theorem f38_1:isFld 61 1 29=true:=by kernel_rfl
theorem f38_2:isFld 61 2 59=true:=by kernel_rfl
theorem f197_0:isFld 33 0 29=true:=by kernel_rfl
theorem f197_1:isFld 33 1 30=true:=by kernel_rfl
theorem f197_2:isFld 33 2 31=true:=by kernel_rfl
theorem s195:isSl 31 61=true:=by kernel_rfl
theorem s67:isSl 30 48=true:=by kernel_rfl
theorem f162_0:isFld 48 0 9=true:=by kernel_rfl
def Fit (b:D):Prop:=∀N,b.size<N→Sm N b∧cnt N b≤1000000
def fnB (u:D) (n:ByteArray):Bool:=(qfld u 2).toList.any fun x=>(qstr (qfld x 0)).data.toList==n.data.toList
def flB (f:D):List D:=flP ((qfld f 2).size+1) (qfld f 2) false
def vsB (u f:D):D:= .list ((qfld u 0).toList++(qfld f 1).toList)
def bodyE (u f:D):Int:=
 if 256<(qfld u 0).toList.length+(qfld f 1).toList.length then 6
 else if varsE (qfld u 0).toList (qfld f 1).toList=0 then
  if 64<dep ((qfld f 2).size+1) (qfld f 2)then 20
  else if 1024<(flB f).length then 6
  else firstE (plE (vsB u f) (fnB u) (flB f)) 0 (flB f).length
 else varsE (qfld u 0).toList (qfld f 1).toList
theorem decN (a b:Nat):decide ((a:Int)<(b:Int))=decide (a<b):=by by_cases h:a<b<;>simp[h]<;>omega
theorem list_of {d:D} {T e:TypeId} (hT:isSl T e=true) (h:Conf PG T d):D.list d.toList=d:=by
 obtain⟨xs,rfl⟩:=(conf_el hT h).2.1;rfl
theorem body_eq {u f fn:D} (hu:Conf PG 33 u) (hf:Conf PG 61 f) (hfit:Fit (qfld f 2)) (hg:(qfld u 0).toList.length≤1000000) (hv:(qfld f 1).toList.length≤1000000) (hfs:(qfld u 2).toList.length≤maxLen) (hfn:fn.toList.length≤maxLen) (hfb:∀n,memB fn n=fnB u n):
 q61 [u,f,fn]=some [.int (bodyE u f)]∧q88 [u,f]=some [.int (bodyE u f)]:=by
 have cg:Conf PG 29 (qfld u 0):=by rw[qfld_eq];exact conf_fldC f197_0 hu
 have cv:Conf PG 29 (qfld f 1):=by rw[qfld_eq];exact conf_fldC f38_1 hf
 have cb:Conf PG 59 (qfld f 2):=by rw[qfld_eq];exact conf_fldC f38_2 hf
 have lg:=list_of s35 cg
 have lv:=list_of s35 cv
 obtain⟨v1,v2⟩:=vars_eq hg hv (conf_el s35 cv).2.2
 rw[lg,lv]at v1 v2
 have hN1:(qfld f 2).size<fuelL [qfld f 2]:=fuel_in (by simp)
 have hN2:(qfld f 2).size<fuelL [qfld f 2, .int 65]:=fuel_in (by simp)
 have hN3:(qfld f 2).size<fuelL [qfld f 2, .bool false]:=fuel_in (by simp)
 have d1:=depth_spec _ _ cb hN1 (hfit _ hN1).1 (hfit _ hN1).2
 have d2:=depthR_spec _ _ 65 cb hN2 (hfit _ hN2).1 (hfit _ hN2).2 (by omega) (by omega)
 have a1:=all_spec _ _ false cb hN3 (hfit _ hN3).1 (hfit _ hN3).2
 have a2:=flat_spec _ _ false cb hN3 (hfit _ hN3).1 (hfit _ hN3).2
 have e1:dep (fuelL [qfld f 2]) (qfld f 2)=dep ((qfld f 2).size+1) (qfld f 2):=dep_irr _ _ _ cb hN1 (by omega)
 have e2:(64<dep ((qfld f 2).size+1) (qfld f 2))↔64<depC (fuelL [qfld f 2, .int 65]) (qfld f 2) 65:=by
  rw[← deep_iff,dep_irr _ _ _ cb hN2 (show(qfld f 2).size<(qfld f 2).size+1 by omega)]
 have e3:flP (fuelL [qfld f 2, .bool false]) (qfld f 2) false=flB f:=flP_irr _ _ _ _ cb hN3 (by omega)
 rw[e3]at a1
 rw[e1]at d1
 have hag:Ag (flB f) (flR (fuelL [qfld f 2, .bool false]) (qfld f 2) false):=by rw[← e3];exact fl_ag _ _ _
 have hlen:(flB f).length=(flR (fuelL [qfld f 2, .bool false]) (qfld f 2) false).length:=by have:=congrArg List.length hag.nodes;simpa using this
 have okP:∀x∈flB f,ItemOk x:=flP_ok _ _ _ cb
 have okR:∀x∈flR (fuelL [qfld f 2, .bool false]) (qfld f 2) false,ItemOk x:=flR_ok _ _ _ cb
 have hple:=plE_eq (v:=vsB u f) (fs:=fnB u) hag
 have hcc:=concat_spec (a:=qfld u 0) (b:=qfld f 1) hg hv
 have hvm:(vsB u f).toList.length≤maxLen:=by unfold vsB;rw[tl,List.length_append];unfold maxLen;omega
 generalize flR (fuelL [qfld f 2, .bool false]) (qfld f 2) false=LR at *
 generalize hLP:flB f=LP at *
 have add:qbin .add .i64 (qlen (qfld u 0)) (qlen (qfld f 1))=(((qfld u 0).toList.length+(qfld f 1).toList.length:Nat):Int):=by rw[qlen_c,qlen_c,add64 (by omega) (by omega)];omega
 have add':qbin .add .i64 (qlen (qfld f 1)) (qlen (qfld u 0))=(((qfld u 0).toList.length+(qfld f 1).toList.length:Nat):Int):=by rw[qlen_c,qlen_c,add64 (by omega) (by omega)];omega
 constructor
 ·rw[q61_eq,F61_eq,add,v1,q99_eq,q100_eq]
  simp only[d1,a1,hcc,qsome_s,qnth_s,List.getD_cons_zero,qint_i,qlen_l,cond_true,qcmp_gtr,qcmp_neq,l61_13_eq,l61_19_eq]
  unfold bodyE
  rw[hLP,show(256:Int)=((256:Nat):Int)from rfl,show(64:Int)=((64:Nat):Int)from rfl,show(1024:Int)=((1024:Nat):Int)from rfl,decN,decN,decN]
  by_cases c1:256<(qfld u 0).toList.length+(qfld f 1).toList.length
  ·simp[c1]
  ·simp only[c1,decide_false,cond_false,if_false]
   by_cases c2:varsE (qfld u 0).toList (qfld f 1).toList=0
   ·simp only[c2,decide_true,Bool.not_true,cond_false,if_true]
    by_cases c3:64<dep ((qfld f 2).size+1) (qfld f 2)
    ·simp[c3]
    ·simp only[c3,decide_false,cond_false,if_false]
     by_cases c4:1024<LP.length
     ·simp[c4]
     ·simp only[c4,decide_false,cond_false,if_false]
      have hl1:=(foldLoop (A:=List D) (st:=st61_13 [.list LP, .list LP, .int (LP.length:Int), .list ((qfld u 0).toList++(qfld f 1).toList),fn]) (n:=LP.length) (enc:=fun i m=>[.int (i:Int), .list m])
       (f:=fun i m=>m++(if qint (qfld (node (LP.getD i .other)) 0)=13 then[.str (qstr (qfld (node (LP.getD i .other)) 2))]else[])) (fin:=fun m=>[.int 0, .list m]) (I:=fun i m=>m=labs (LP.take i))
       (fun m _=>by rw[st61_13_eq];simp[qcmp_lss]) (fun i m hi hI=>by
        have hq:qget (.list LP) (i:Int)=LP.getD i .other:=by rw[qget_n];rfl
        have hin:qinb (.list LP) (i:Int)=true:=qinb_n (d:= .list LP) hi
        have hI':m++(if qint (qfld (node (LP.getD i .other)) 0)=13 then[D.str (qstr (qfld (node (LP.getD i .other)) 2))]else[])=labs (LP.take (i+1)):=by
         unfold labs;rw[take_flat hi,hI];rfl
        refine⟨?_,hI'⟩
        have hml:m.length≤2000:=by rw[hI];have:=labs_len (LP.take i);simp at this;omega
        rw[st61_13_eq,hq,hin]
        simp only[qcmp_lss,show(i:Int)<(LP.length:Int)by omega,decide_true,cond_true,qcmp_eql,qapp_l,qlen_l]
        rw[add_nat (by omega),qmem_big (by rw[List.length_append,List.length_cons,List.length_nil];omega) (by omega)]
        unfold node
        by_cases h13:qint (qfld (qfld (LP.getD i .other) 0) 0)=13
        ·simp only[h13,decide_true,cond_true,if_true]
        ·simp only[h13,decide_false,cond_false,if_false,List.append_nil]) (a:=[]) (by simp[labs]))
      obtain⟨g1,g2⟩:=hl1
      rw[List.take_of_length_le (Nat.le_refl _)]at g2
      rw[g2]at g1
      simp only[Int.natCast_zero]at g1
      have hlb:(D.list (labs LP)).toList.length≤maxLen:=by rw[tl];have:=labs_len LP;unfold maxLen;omega
      have hl2:=errLoop (st:=st61_19 [.list LP, .int (LP.length:Int), .list (labs LP), .list ((qfld u 0).toList++(qfld f 1).toList),fn]) (n:=LP.length) (enc:=fun i=>[.int (i:Int), .list (labs (LP.take i))]) (p:=plE (vsB u f) (fnB u) LP)
       (by rw[st61_19_eq];simp[qcmp_lss]) (fun i hi hp=>by
        have hx:LP.getD i .other∈LP:=by rw[getD_lt hi];exact List.getElem_mem hi
        obtain⟨s,b,hs,hcs⟩:=okP _ hx
        have hq:qget (.list LP) (i:Int) = .agg [s, .bool b]:=by rw[qget_n];exact hs
        have hin:qinb (.list LP) (i:Int)=true:=qinb_n (d:= .list LP) hi
        have hml:(labs (LP.take i)).length≤2000:=by have:=labs_len (LP.take i);simp at this;omega
        have hc:=check224 (v:=vsB u f) (fn:=fn) (lb:= .list (labs LP)) (sn:=labs (LP.take i)) (b:=b) hcs hvm hfn hlb (by omega)
        have hE:itemE (vsB u f) (memB fn) (memB (.list (labs LP))) (memB (.list (labs (LP.take i)))) s b=plE (vsB u f) (fnB u) LP i:=by
         unfold plE
         rw[hs,node_a,flag_a,show memB fn=fnB u from funext hfb,show memB (.list (labs LP))=fun n=>LP.any (isLab n)from funext fun n=>labs_mem LP n,show memB (.list (labs (LP.take i)))=fun n=>(LP.take i).any (isLab n)from funext fun n=>labs_mem _ n]
        rw[hE]at hc
        have hv':D.list ((qfld u 0).toList++(qfld f 1).toList)=vsB u f:=rfl
        rw[st61_19_eq,hq,hin,hv',hc]
        simp only[qcmp_lss,qcmp_neq,show(i:Int)<(LP.length:Int)by omega,decide_true,cond_true,qsome_s,qnth_s,List.getD_cons_zero,List.getD_cons_succ,qint_i]
        by_cases hz:plE (vsB u f) (fnB u) LP i=0
        ·have hn:labs (LP.take (i+1))=labs (LP.take i)++(if qint (qfld s 0)=13 then[D.str (qstr (qfld s 2))]else[]):=by
          unfold labs;rw[take_flat hi,hs,node_a]
         rw[hn]
         simp only[hz,and_true,decide_true,Bool.not_true,cond_false,if_true]
         rw[add_nat (by omega)]
        ·simp[hz])
      simp only[Int.natCast_zero,List.take_zero]at hl2
      rw[show labs ([]:List D) = []from rfl]at hl2
      simp only[g1,hl2,qsome_s,qnth_s,List.getD_cons_zero,List.getD_cons_succ,cond_true,qcmp_eql,Int.natCast_zero,List.length_nil,decide_true]
      have:=errRes (firstE (plE (vsB u f) (fnB u) LP) 0 LP.length)
      simpa only[qsome_s,qnth_s,cond_true,qcmp_eql]using this
   ·simp[c2]
 ·rw[q88_eq,F88_eq,add',v2,q149_eq,q150_eq]
  have hap:qapp (qfld u 0) (qfld f 1)=vsB u f:=by rw[← lg,qapp_lt];rfl
  simp only[d2,a2,hap,qsome_s,qnth_s,List.getD_cons_zero,qint_i,qlen_l,cond_true,qcmp_gtr,qcmp_neq,l88_15_eq]
  unfold bodyE
  rw[hLP,show(256:Int)=((256:Nat):Int)from rfl,show(64:Int)=((64:Nat):Int)from rfl,show(1024:Int)=((1024:Nat):Int)from rfl,decN,decN,decN, ← hlen]
  by_cases c1:256<(qfld u 0).toList.length+(qfld f 1).toList.length
  ·simp[c1]
  ·simp only[c1,decide_false,cond_false,if_false]
   by_cases c2:varsE (qfld u 0).toList (qfld f 1).toList=0
   ·simp only[c2,decide_true,Bool.not_true,cond_false,if_true]
    by_cases c3:64<dep ((qfld f 2).size+1) (qfld f 2)
    ·have:=e2.1 c3;simp[c3,this]
    ·have c3':¬64<depC (fuelL [qfld f 2, .int 65]) (qfld f 2) 65:=fun h=>c3 (e2.2 h)
     simp only[c3,c3',decide_false,cond_false,if_false]
     by_cases c4:1024<LP.length
     ·simp[c4]
     ·simp only[c4,decide_false,cond_false,if_false]
      have hlm:(D.list LR).toList.length≤maxLen:=by rw[tl];unfold maxLen;omega
      have hl2:=errLoop (st:=st88_15 [.list LR,vsB u f,u]) (n:=LR.length) (enc:=fun i=>[.int (i:Int)]) (p:=plE (vsB u f) (fnB u) LR)
       (by rw[st88_15_eq,qlen_l];simp[qcmp_lss]) (fun i hi hp=>by
        have hx:LR.getD i .other∈LR:=by rw[getD_lt hi];exact List.getElem_mem hi
        obtain⟨s,b,hs,hcs⟩:=okR _ hx
        have hc:=stmt229 (u:=u) (v:=vsB u f) (l:= .list LR) (k:=i) hvm hlm hfs hi hs hcs
        have hE:itemE (vsB u f) (fun n=>(qfld u 2).toList.any fun x=>(qstr (qfld x 0)).data.toList==n.data.toList) (fun n=>(D.list LR).toList.any (isLab n)) (fun n=>((D.list LR).toList.take i).any (isLab n)) s b=plE (vsB u f) (fnB u) LR i:=by
         unfold plE;rw[hs,node_a,flag_a];rfl
        rw[hE]at hc
        rw[st88_15_eq,qlen_l,hc]
        simp only[qcmp_lss,qcmp_neq,show(i:Int)<(LR.length:Int)by omega,decide_true,cond_true,qsome_s,qnth_s,List.getD_cons_zero,qint_i]
        by_cases hz:plE (vsB u f) (fnB u) LR i=0
        ·simp only[hz,decide_true,Bool.not_true,cond_false,if_true];rw[add_nat (by omega)]
        ·simp[hz])
      simp only[Int.natCast_zero]at hl2
      have m1:qmem (qlen (qfld u 0)) 88=true:=by rw[qlen_c];exact qmem_big (by omega) (by omega)
      have m2:qmem (qlen (vsB u f)) 88=true:=by unfold vsB;rw[qlen_l];exact qmem_big (by rw[List.length_append];omega) (by omega)
      rw[hple]
      simp only[hl2,m1,m2,qcmp_eql,decide_true,cond_true]
      have:=errRes (firstE (plE (vsB u f) (fnB u) LR) 0 LR.length)
      simpa only[qsome_s,qnth_s,cond_true,qcmp_eql]using this
   ·simp[c2]
end
end Go.Proofs.YteccopaonadbeaaGreatDoor
namespace Go.Proofs.YteccopaonadbeaaGreatDoor
noncomputable section
set_option linter.unusedSimpArgs false
open Go Go.AM
def dataP (l:List D) (i:Nat):Int:=
 if nameB (qstr (qfld (l.getD i .other) 0))=false then 3
 else if(l.take i).any (fun x=>(qstr (qfld x 0)).data.toList==(qstr (qfld (l.getD i .other) 0)).data.toList)then 8
 else if 65536<(qfld (l.getD i .other) 2).toList.length then 6 else 0
def dataE (l:List D):Int:=firstE (dataP l) 0 l.length
theorem names_any {l x:D} (hl:l.toList.length≤maxLen):q44_96 [l,x]=some [.bool (l.toList.any fun y=>(qstr (qfld y 0)).data.toList==(qstr (qfld x 0)).data.toList)]:=by
 rw[q44_96_eq,F44_96_eq,q51_96_eq,F51_96_eq,l51_96_2_eq]
 rcases idxLoop (st:=st51_96_2 [l,x, .int (qlen l)]) (c:=fun y=>q96_96 [y,x]) (p:=fun y=>(qstr (qfld y 0)).data.toList==(qstr (qfld x 0)).data.toList) (r1:=fun i=>[.int 1, .int i]) (r0:=[.int 0]) (fun i=>st51_96_2_eq l x (qlen l) i) hl (fun y _=>by rw[q96_96_eq,F96_96_eq,cmpS_eql])with⟨h1,h2⟩|⟨i,h1,h2⟩
 ·rw[h2];simp[h1,qsome_s,qnth_s,qint_i,qcmp_eql,qcmp_geq]
 ·rw[h2];simp[h1,qsome_s,qnth_s,qint_i,qcmp_eql,qcmp_geq]
theorem strlen162 {x:D} (h:Conf PG 48 x):(qstr (qfld x 0)).size≤maxLen:=by rw[qfld_eq];exact conf_strlen (conf_fldC f162_0 h)
theorem data_eq {l:D} (hl:l.toList.length≤1000000) (hc:∀x∈l.toList,Conf PG 48 x):q58 [l]=some [.int (dataE l.toList)]∧q85 [l]=some [.int (dataE l.toList)]:=by
 have hm:∀i,i<l.toList.length→l.toList.getD i .other∈l.toList:=fun i hi=>by rw[getD_lt hi];exact List.getElem_mem hi
 constructor
 ·rw[q58_eq,F58_eq,l58_2_eq]
  have hloop:=errLoop (st:=st58_2 [l,l, .int (qlen l)]) (n:=l.toList.length) (enc:=fun i=>[.int (i:Int)]) (p:=dataP l.toList)
   (by rw[st58_2_eq,qlen_c];simp[qcmp_lss]) (fun i hi hp=>by
    have hlm:(qsub l 0 (i:Int)).toList.length≤maxLen:=by rw[qsub_l];simp;unfold maxLen;omega
    have ha:=names_any (x:=l.toList.getD i .other) hlm
    rw[qsub_l]at ha
    rw[st58_2_eq,qlen_c,qinb_n hi,qget_n,(nameB_spec (strlen162 (hc _ (hm i hi)))).1,ha,qlen_c]
    unfold dataP
    simp only[qcmp_lss,qcmp_leq,qcmp_gtr,show(i:Int)<(l.toList.length:Int)by omega,show(0:Int)≤(i:Int)by omega,show(i:Int)≤(l.toList.length:Int)by omega,show(0:Int)≤0 by omega,decide_true,cond_true,qsome_s,qnth_s,List.getD_cons_zero,qbool_b,qnot_c]
    rw[show(65536:Int)=((65536:Nat):Int)from rfl,decN]
    cases nameB (qstr (qfld (l.toList.getD i .other) 0))with
    |false=>simp
    |true=>
     by_cases h1:((l.toList.take i).any fun y=>(qstr (qfld y 0)).data.toList==(qstr (qfld (l.toList.getD i .other) 0)).data.toList)=true
     ·simp only[h1,Bool.not_true,cond_false,cond_true,reduceCtorEq,if_false,if_true];simp
     ·rw[Bool.not_eq_true]at h1
      simp only[h1,Bool.not_true,cond_false,reduceCtorEq,if_false,Bool.false_eq_true]
      by_cases h2:65536<(qfld (l.toList.getD i .other) 2).toList.length
      ·simp only[h2,decide_true,cond_true,if_true,show¬(6:Int)=0 by omega,if_false]
      ·simp only[h2,decide_false,cond_false,if_false,if_true];rw[add_nat (by omega)])
  simp only[Int.natCast_zero]at hloop
  simp only[hloop]
  exact errRes _
 ·rw[q85_eq,F85_eq,l85_2_eq]
  have hloop:=errLoop (st:=st85_2 [l]) (n:=l.toList.length) (enc:=fun i=>[.int (i:Int)]) (p:=dataP l.toList)
   (by rw[st85_2_eq,qlen_c];simp[qcmp_lss]) (fun i hi hp=>by
    have hin:=loopI (st:=st85_7 [l, .int (i:Int)]) (n:=i) (p:=fun k=>(fun y=>(qstr (qfld y 0)).data.toList==(qstr (qfld (l.toList.getD i .other) 0)).data.toList) (l.toList.getD k .other)) (r0:=[D.int 0]) (r1:=[.int 1]) (by unfold maxLen;omega)
     (by rw[st85_7_eq];simp[qcmp_lss]) (fun k hk=>by
      rw[st85_7_eq,qinb_n (show k<l.toList.length by omega),qinb_n hi,qget_n,qget_n,cmpS_eql,qcmp_lss]
      simp only[show((k:Int)<(i:Int))by omega,decide_true,cond_true]
      by_cases hc:((qstr (qfld (l.toList.getD k .other) 0)).data.toList==(qstr (qfld (l.toList.getD i .other) 0)).data.toList)=true
      ·simp only[hc,cond_true,if_true]
      ·rw[Bool.not_eq_true]at hc;simp only[hc,cond_false,Bool.false_eq_true,if_false])
    rw[any_take (by omega) (p:=fun y=>(qstr (qfld y 0)).data.toList==(qstr (qfld (l.toList.getD i .other) 0)).data.toList)]at hin
    rw[st85_2_eq,qlen_c,qinb_n hi,qget_n,(nameB_spec (strlen162 (hc _ (hm i hi)))).2,l85_7_eq,qlen_c]
    unfold dataP
    simp only[hin,qcmp_lss,qcmp_gtr,show(i:Int)<(l.toList.length:Int)by omega,decide_true,cond_true,qsome_s,qnth_s,List.getD_cons_zero,qbool_b,qnot_c]
    rw[show(65536:Int)=((65536:Nat):Int)from rfl,decN]
    cases nameB (qstr (qfld (l.toList.getD i .other) 0))with
    |false=>simp
    |true=>
     by_cases h1:((l.toList.take i).any fun y=>(qstr (qfld y 0)).data.toList==(qstr (qfld (l.toList.getD i .other) 0)).data.toList)=true
     ·simp only[h1,Bool.not_true,cond_false,cond_true,reduceCtorEq,if_false,if_true];simp[qsome_s,qnth_s,qint_i,qcmp_eql]
     ·rw[Bool.not_eq_true]at h1
      simp only[h1,Bool.not_true,cond_false,reduceCtorEq,if_false,Bool.false_eq_true]
      by_cases h2:65536<(qfld (l.toList.getD i .other) 2).toList.length
      ·simp only[h2,decide_true,cond_true,if_true,show¬(6:Int)=0 by omega,if_false,qsome_s,qnth_s,List.getD_cons_zero,qint_i,qcmp_eql]
      ·simp only[h2,decide_false,cond_false,if_false,if_true,qsome_s,qnth_s,List.getD_cons_zero,qint_i,qcmp_eql,decide_true,cond_true];rw[add_nat (by omega)])
  simp only[Int.natCast_zero]at hloop
  simp only[hloop]
  exact errRes _
theorem errLoopR {st:List D→Option (Sum (List D) (List D))} {n:Nat} {enc:Nat→List D} {p:Nat→Int} {r0:List D} (h0:st (enc n)=some (.inr r0))
 (h1:∀i,i<n→(∀m,m<i→p m=0)→st (enc i)=if p i=0 then some (.inl (enc (i+1)))else some (.inr [.int 1, .int (p i)])):loW st (enc 0)=some (if firstE p 0 n=0 then r0 else[.int 1, .int (firstE p 0 n)]):=by
 have key:∀k i:Nat,i+k=n→(∀m,m<i→p m=0)→loW st (enc i)=some (if firstE p i k=0 then r0 else[.int 1, .int (firstE p i k)]):=by
  intro k
  induction k with
  |zero=>intro i hi _;obtain rfl:i=n:=by omega
         rw[loW_eq,h0];rfl
  |succ k ih=>
   intro i hi hp
   rw[loW_eq,h1 i (by omega) hp]
   simp only[firstE]
   by_cases hz:p i=0
   ·simp only[hz,if_true]
    exact ih (i+1) (by omega) fun m hm=>by
     by_cases h:m=i
     ·subst h;exact hz
     ·exact hp m (by omega)
   ·simp only[hz,if_false]
 exact key n 0 (by omega) (fun m h=>by omega)
def fnP (l:List D) (i:Nat):Int:=
 if nameB (qstr (qfld (l.getD i .other) 0))=false then 3
 else if(l.take i).any (fun x=>(qstr (qfld x 0)).data.toList==(qstr (qfld (l.getD i .other) 0)).data.toList)then 8 else 0
def unitE (u:D):Int:=
 if 256<(qfld u 0).toList.length∨16<(qfld u 1).toList.length∨64<(qfld u 2).toList.length then 6
 else if(qfld u 2).toList.length=0 then 17
 else if varsE [] (qfld u 0).toList=0 then
  if dataE (qfld u 1).toList=0 then
   if firstE (fnP (qfld u 2).toList) 0 (qfld u 2).toList.length=0 then firstE (fun i=>bodyE u ((qfld u 2).toList.getD i .other)) 0 (qfld u 2).toList.length
   else firstE (fnP (qfld u 2).toList) 0 (qfld u 2).toList.length
  else dataE (qfld u 1).toList
 else varsE [] (qfld u 0).toList
def fnames (l:List D):List D:=l.map fun x=> .str (qstr (qfld x 0))
theorem fnames_mem (l:List D) (n:ByteArray):memB (.list (fnames l)) n=l.any fun x=>(qstr (qfld x 0)).data.toList==n.data.toList:=by
 unfold memB fnames;rw[tl,List.any_map];congr 1;funext x;simp[qstr_s]
theorem strlen38 {x:D} (h:Conf PG 61 x):(qstr (qfld x 0)).size≤maxLen:=by rw[qfld_eq];exact conf_strlen (conf_fldC f38_0 h)
theorem unit_eq {u:D} (hu:Conf PG 33 u) (hfit:∀f∈(qfld u 2).toList,Fit (qfld f 2)∧(qfld f 1).toList.length≤1000000) (hg:(qfld u 0).toList.length≤1000000) (hd:(qfld u 1).toList.length≤1000000) (hf:(qfld u 2).toList.length≤1000000):
 q26 [u]=some [.int (unitE u)]∧q53 [u]=some [.int (unitE u)]:=by
 have cg:Conf PG 29 (qfld u 0):=by rw[qfld_eq];exact conf_fldC f197_0 hu
 have cd:Conf PG 30 (qfld u 1):=by rw[qfld_eq];exact conf_fldC f197_1 hu
 have cf:Conf PG 31 (qfld u 2):=by rw[qfld_eq];exact conf_fldC f197_2 hu
 have hcf:=(conf_el s195 cf).2.2
 have hfm:(qfld u 2).toList.length≤maxLen:=by unfold maxLen;omega
 obtain⟨v1,v2⟩:=vars_eq (b:=[]) (by simp) hg (conf_el s35 cg).2.2
 rw[list_of s35 cg]at v1 v2
 obtain⟨d1,d2⟩:=data_eq hd (conf_el s67 cd).2.2
 have hm:∀i,i<(qfld u 2).toList.length→(qfld u 2).toList.getD i .other∈(qfld u 2).toList:=fun i hi=>by rw[getD_lt hi];exact List.getElem_mem hi
 have hbody:∀i,i<(qfld u 2).toList.length→q61 [u,(qfld u 2).toList.getD i .other, .list (fnames (qfld u 2).toList)]=some [.int (bodyE u ((qfld u 2).toList.getD i .other))]∧q88 [u,(qfld u 2).toList.getD i .other]=some [.int (bodyE u ((qfld u 2).toList.getD i .other))]:=fun i hi=>
  body_eq hu (hcf _ (hm i hi)) (hfit _ (hm i hi)).1 hg (hfit _ (hm i hi)).2 hfm (by rw[tl,fnames,List.length_map];exact hfm) (fun n=>fnames_mem _ n)
 have guardB:∀a b c:Nat,(bif (bif decide (256<(a:Int))then true else decide (16<(b:Int)))then true else decide (64<(c:Int)))=decide (256<a∨16<b∨64<c):=fun a b c=>by
  rw[show(256:Int)=((256:Nat):Int)from rfl,show(16:Int)=((16:Nat):Int)from rfl,show(64:Int)=((64:Nat):Int)from rfl,decN,decN,decN]
  by_cases h1:256<a<;>by_cases h2:16<b<;>by_cases h3:64<c<;>simp[h1,h2,h3]
 have eq0:∀n:Nat,decide ((n:Int)=0)=decide (n=0):=fun n=>by by_cases h:n=0<;>simp[h]
 constructor
 ·rw[q26_eq,F26_eq,v1,d1]
  simp only[qsome_s,qnth_s,List.getD_cons_zero,qint_i,qlen_c,cond_true,qcmp_gtr,qcmp_neq,qiteB_c,guardB,qcmp_eql,eq0,l26_13_eq,l26_22_eq]
  unfold unitE
  by_cases c1:256<(qfld u 0).toList.length∨16<(qfld u 1).toList.length∨64<(qfld u 2).toList.length
  ·simp[c1]
  ·simp only[c1,decide_false,cond_false,if_false]
   by_cases c2:(qfld u 2).toList.length=0
   ·simp[c2]
   ·simp only[c2,decide_false,cond_false,if_false]
    by_cases c3:varsE [] (qfld u 0).toList=0
    ·simp only[c3,decide_true,Bool.not_true,cond_false,if_true]
     by_cases c4:dataE (qfld u 1).toList=0
     ·simp only[c4,decide_true,Bool.not_true,cond_false,if_true]
      have hl1:=errLoopR (st:=st26_13 [qfld u 2, .int ((qfld u 2).toList.length:Int),u]) (n:=(qfld u 2).toList.length) (enc:=fun i=>[.int (i:Int), .list (fnames ((qfld u 2).toList.take i))]) (p:=fnP (qfld u 2).toList) (r0:=[.int 0, .list (fnames (qfld u 2).toList)])
       (by rw[st26_13_eq,List.take_of_length_le (Nat.le_refl _)];simp[qcmp_lss]) (fun i hi hp=>by
        have hml:(fnames ((qfld u 2).toList.take i)).length≤1000000:=by rw[fnames,List.length_map];simp;omega
        have hc:=contains_spec (v:= .list (fnames ((qfld u 2).toList.take i))) (by rw[tl];unfold maxLen;omega) (qstr (qfld ((qfld u 2).toList.getD i .other) 0))
        rw[fnames_mem]at hc
        rw[st26_13_eq,qinb_n hi,qget_n,(nameB_spec (strlen38 (hcf _ (hm i hi)))).1,hc]
        unfold fnP
        simp only[qcmp_lss,show(i:Int)<((qfld u 2).toList.length:Int)by omega,decide_true,cond_true,qsome_s,qnth_s,List.getD_cons_zero,qbool_b,qnot_c,qapp_l,qlen_l]
        rw[qmem_big (by rw[List.length_append,List.length_cons,List.length_nil];omega) (by omega)]
        cases nameB (qstr (qfld ((qfld u 2).toList.getD i .other) 0))with
        |false=>simp
        |true=>
         by_cases h1:(((qfld u 2).toList.take i).any fun y=>(qstr (qfld y 0)).data.toList==(qstr (qfld ((qfld u 2).toList.getD i .other) 0)).data.toList)=true
         ·simp only[h1,Bool.not_true,cond_false,cond_true,reduceCtorEq,if_false,if_true];simp
         ·rw[Bool.not_eq_true]at h1
          have hn:fnames ((qfld u 2).toList.take (i+1))=fnames ((qfld u 2).toList.take i) ++ [.str (qstr (qfld ((qfld u 2).toList.getD i .other) 0))]:=by
           unfold fnames;rw[List.take_succ_eq_append_getElem hi,List.map_append,getD_lt hi];rfl
          rw[hn]
          simp only[h1,Bool.not_true,cond_false,cond_true,reduceCtorEq,if_false,if_true,Bool.false_eq_true];rw[add_nat (by omega)])
      simp only[Int.natCast_zero,List.take_zero]at hl1
      rw[show fnames ([]:List D) = []from rfl]at hl1
      have hl2:=errLoop (st:=st26_22 [qfld u 2, .int ((qfld u 2).toList.length:Int), .list (fnames (qfld u 2).toList),u]) (n:=(qfld u 2).toList.length) (enc:=fun i=>[.int (i:Int)]) (p:=fun i=>bodyE u ((qfld u 2).toList.getD i .other))
       (by rw[st26_22_eq];simp[qcmp_lss]) (fun i hi hp=>by
        rw[st26_22_eq,qinb_n hi,qget_n,(hbody i hi).1]
        simp only[qcmp_lss,qcmp_neq,show(i:Int)<((qfld u 2).toList.length:Int)by omega,decide_true,cond_true,qsome_s,qnth_s,List.getD_cons_zero,qint_i]
        by_cases hz:bodyE u ((qfld u 2).toList.getD i .other)=0
        ·simp only[hz,decide_true,Bool.not_true,cond_false,if_true];rw[add_nat (by omega)]
        ·simp only[hz,decide_false,Bool.not_false,cond_true,if_false])
      simp only[Int.natCast_zero]at hl2
      by_cases c5:firstE (fnP (qfld u 2).toList) 0 (qfld u 2).toList.length=0
      ·rw[if_pos c5]at hl1
       have:=errRes (firstE (fun i=>bodyE u ((qfld u 2).toList.getD i .other)) 0 (qfld u 2).toList.length)
       simp only[qsome_s,qnth_s,cond_true,qcmp_eql]at this
       simp only[hl1,hl2,c5,qsome_s,qnth_s,List.getD_cons_zero,List.getD_cons_succ,qint_i,decide_true,cond_true,if_true,List.toList_toArray,tl,List.length_nil,Int.natCast_zero,this]
      ·rw[if_neg c5]at hl1
       simp[hl1,c5,qsome_s,qnth_s,qint_i,tl]
     ·simp[c4]
    ·simp[c3]
 ·rw[q53_eq,F53_eq,v2,d2]
  simp only[qsome_s,qnth_s,List.getD_cons_zero,qint_i,qlen_c,cond_true,qcmp_gtr,qcmp_neq,qiteB_c,guardB,qcmp_eql,eq0,l53_12_eq,l53_19_eq]
  unfold unitE
  by_cases c1:256<(qfld u 0).toList.length∨16<(qfld u 1).toList.length∨64<(qfld u 2).toList.length
  ·simp[c1]
  ·simp only[c1,decide_false,cond_false,if_false]
   by_cases c2:(qfld u 2).toList.length=0
   ·simp[c2]
   ·simp only[c2,decide_false,cond_false,if_false]
    by_cases c3:varsE [] (qfld u 0).toList=0
    ·simp only[c3,decide_true,Bool.not_true,cond_false,if_true]
     by_cases c4:dataE (qfld u 1).toList=0
     ·simp only[c4,decide_true,Bool.not_true,cond_false,if_true]
      have hl1:=errLoopR (st:=st53_12 [u]) (n:=(qfld u 2).toList.length) (enc:=fun i=>[.int (i:Int)]) (p:=fnP (qfld u 2).toList) (r0:=[.int 0])
       (by rw[st53_12_eq,qlen_c];simp[qcmp_lss]) (fun i hi hp=>by
        have hc:=func_spec (l:=qfld u 2) (n:=i) hfm (by omega) (qstr (qfld ((qfld u 2).toList.getD i .other) 0))
        rw[st53_12_eq,qlen_c,qinb_n hi,qget_n,(nameB_spec (strlen38 (hcf _ (hm i hi)))).2,hc]
        unfold fnP
        simp only[qcmp_lss,show(i:Int)<((qfld u 2).toList.length:Int)by omega,decide_true,cond_true,qsome_s,qnth_s,List.getD_cons_zero,qbool_b,qnot_c]
        cases nameB (qstr (qfld ((qfld u 2).toList.getD i .other) 0))with
        |false=>simp
        |true=>
         by_cases h1:(((qfld u 2).toList.take i).any fun y=>(qstr (qfld y 0)).data.toList==(qstr (qfld ((qfld u 2).toList.getD i .other) 0)).data.toList)=true
         ·simp only[h1,Bool.not_true,cond_false,cond_true,reduceCtorEq,if_false,if_true];simp
         ·rw[Bool.not_eq_true]at h1
          simp only[h1,Bool.not_true,cond_false,cond_true,reduceCtorEq,if_false,if_true,Bool.false_eq_true];rw[add_nat (by omega)])
      simp only[Int.natCast_zero]at hl1
      have hl2:=errLoop (st:=st53_19 [u]) (n:=(qfld u 2).toList.length) (enc:=fun i=>[.int (i:Int)]) (p:=fun i=>bodyE u ((qfld u 2).toList.getD i .other))
       (by rw[st53_19_eq,qlen_c];simp[qcmp_lss]) (fun i hi hp=>by
        rw[st53_19_eq,qlen_c,qinb_n hi,qget_n,(hbody i hi).2]
        simp only[qcmp_lss,qcmp_neq,show(i:Int)<((qfld u 2).toList.length:Int)by omega,decide_true,cond_true,qsome_s,qnth_s,List.getD_cons_zero,qint_i]
        by_cases hz:bodyE u ((qfld u 2).toList.getD i .other)=0
        ·simp only[hz,decide_true,Bool.not_true,cond_false,if_true];rw[add_nat (by omega)]
        ·simp only[hz,decide_false,Bool.not_false,cond_true,if_false])
      simp only[Int.natCast_zero]at hl2
      by_cases c5:firstE (fnP (qfld u 2).toList) 0 (qfld u 2).toList.length=0
      ·rw[if_pos c5]at hl1
       have:=errRes (firstE (fun i=>bodyE u ((qfld u 2).toList.getD i .other)) 0 (qfld u 2).toList.length)
       simp only[qsome_s,qnth_s,cond_true,qcmp_eql]at this
       simp only[hl1,hl2,c5,qsome_s,qnth_s,List.getD_cons_zero,qint_i,decide_true,cond_true,if_true,this]
      ·rw[if_neg c5]at hl1
       simp[hl1,c5,qsome_s,qnth_s,qint_i]
     ·simp[c4]
    ·simp[c3]
end
end Go.Proofs.YteccopaonadbeaaGreatDoor
