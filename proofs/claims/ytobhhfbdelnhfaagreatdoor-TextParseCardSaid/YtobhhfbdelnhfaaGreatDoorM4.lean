/-
  Plain laws: parts of texts, ends cut off, places in lists of names.
-/
import Derived.Test.YtobhhfbdelnhfaaGreatDoorM3
import Derived.Lib.SplitLaws
import Derived.Test.YtobhhfbdelnhfaaGreatDoorRows
import Derived.Test.YtobhhfbdelnhfaaGreatDoorC1
import Derived.Deep.DeepHandedRow
import Derived.Lib.LaidTab
import Derived.MakeChecks
import Derived.LaidSub
import Derived.FnData
import Derived.Shelf.Vars
import Derived.HandedShaped
namespace Go.Proofs.YtobhhfbdelnhfaaGreatDoor
set_option linter.unusedSimpArgs false
set_option linter.unusedVariables false
open Go Go.AM
theorem bs_of (s:ByteArray):∃l,s=bs l:=⟨s.data.toList,rfl⟩
theorem len_bs (l:List UInt8):qlenS (bs l)=(l.length:Int):=by rw[lenS];rfl
theorem sub_bs (l:List UInt8) (a b:Nat):qsubS (bs l) (a:Int) (b:Int)=bs ((l.take b).drop a):=by
 rw[qsubS_eq]
 apply ByteArray.ext
 rw[← Array.toList_inj]
 simp only[Int.toNat_natCast,ByteArray.data_extract,Array.toList_extract,List.extract_eq_take_drop]
 show List.take (b-a) (l.drop a)=_
 rw[List.drop_take];rfl
theorem sub_to (l:List UInt8) (b:Nat):qsubS (bs l) 0 (b:Int)=bs (l.take b):=sub_bs l 0 b
theorem sub_from (l:List UInt8) (a:Nat):qsubS (bs l) (a:Int) (l.length:Int)=bs (l.drop a):=by
 rw[sub_bs,List.take_length]
theorem eq_bs (a b:List UInt8):qcmpS .eql (bs a) (bs b)=decide (a=b):=by
 rw[eqS]
 show(a==b)=_
 by_cases h:a=b<;>simp[h]
theorem idx_bs (l:List UInt8) (i:Nat):qidxS (bs l) (i:Int)=((l.getD i 0).toNat:Int):=idxS
theorem inb_bs {l:List UInt8} {i:Nat} (h:i<l.length):qinbS (bs l) (i:Int)=true:=inbS (s:=bs l) h
theorem qand_c:qand=fun a b=>a&&b:=veil_eq _
theorem has_bs (l p:List UInt8):has (bs l) (bs p)=p.isPrefixOf l:=by
 unfold has
 rw[len_bs,sub_to,eq_bs,bs_size,bs_size]
 rw[Bool.eq_iff_iff,List.isPrefixOf_iff_prefix]
 by_cases h:p.length≤l.length
 ·simp only[h,decide_true,cond_true,decide_eq_true_eq]
  rw[List.prefix_iff_eq_take]
  exact eq_comm
 ·simp only[h,decide_false,cond_false,Bool.false_eq_true,false_iff]
  intro hp
  exact h hp.length_le
theorem pre59 (l p:List UInt8):q59 [.str (bs l), .str (bs p)]=some [.str (bs (bif p.isPrefixOf l then l.drop p.length else l)), .bool (p.isPrefixOf l)]:=by
 have h:=spec59 (bs l) (bs p)
 rw[h,has_bs,len_bs,len_bs,sub_from]
 cases p.isPrefixOf l<;>rfl
def sfx (p l:List UInt8):Bool:=decide (p.length≤l.length)&&decide (l.drop (l.length-p.length)=p)
theorem subI {a b:Nat} (h:b≤a) (h2:a≤1000000):qbin .sub .i64 (a:Int) (b:Int)=((a-b:Nat):Int):=by
 rw[qbin_eq];simp only[rbin];rw[wrap64' (by omega) (by omega)];omega
theorem addI {a b:Nat} (h2:a+b≤1000000):qbin .add .i64 (a:Int) (b:Int)=((a+b:Nat):Int):=by
 rw[qbin_eq];simp only[rbin];rw[wrap64' (by omega) (by omega)];omega
theorem geI (a b:Nat):qcmp .geq (a:Int) (b:Int)=decide (b≤a):=geN a b
theorem leI' (a b:Nat):qcmp .leq (a:Int) (b:Int)=decide (a≤b):=leN a b
theorem ltI (a b:Nat):qcmp .lss (a:Int) (b:Int)=decide (a<b):=by rw[qcmp_lss];exact decide_eq_decide.2 (by omega)
theorem gtI (a b:Nat):qcmp .gtr (a:Int) (b:Int)=decide (b<a):=by rw[qcmp_gtr];exact decide_eq_decide.2 (by omega)
theorem eqI (a b:Nat):qcmp .eql (a:Int) (b:Int)=decide (a=b):=by rw[qcmp_eql];exact decide_eq_decide.2 (by omega)
theorem neI (a b:Nat):qcmp .neq (a:Int) (b:Int) = !decide (a=b):=by rw[qcmp_neq];congr 1;exact decide_eq_decide.2 (by omega)
theorem le0 (a:Nat):qcmp .leq 0 (a:Int)=true:=by rw[qcmp_leq];exact decide_eq_true (by omega)
theorem suf138 (l p:List UInt8) (hl:l.length≤1000000):q138 [.str (bs l), .str (bs p)]=some [.bool (sfx p l)]:=by
 rw[q138_eq,F138_eq]
 simp only[len_bs,qiteB_c,qand_c,geI,leI']
 unfold sfx
 by_cases h:p.length≤l.length
 ·rw[subI h hl,sub_from,eq_bs,le0]
  simp[h,leI',show l.length-p.length≤l.length by omega]
 ·simp[h]
theorem suf62 (l p:List UInt8) (hl:l.length≤1000000):q62 [.str (bs l), .str (bs p)]=some [.str (bs (bif sfx p l then l.take (l.length-p.length)else l)), .bool (sfx p l)]:=by
 rw[q62_eq,F62_eq,q104_eq,F104_eq,suf138 l p hl]
 simp only[qsome_s,qnth_s,List.getD_cons_zero,List.getD_cons_succ,qbool_b,qstr_s,qnot_c,cond_true,len_bs]
 cases h:sfx p l with
 |false=>simp[qsome_s,qnth_s,qstr_s,qbool_b]
 |true=>
  have hp:p.length≤l.length:=by
   unfold sfx at h
   simp only[Bool.and_eq_true,decide_eq_true_eq]at h
   exact h.1
  rw[subI hp hl,sub_to,le0,leI',decide_eq_true (show l.length-p.length≤l.length by omega),show qcmp .leq 0 0=true by rw[qcmp_leq];rfl]
  simp[qsome_s,qnth_s,qstr_s,qbool_b]
def ixF (x:List UInt8):List (List UInt8)→Nat→Int
 | [],_=> -1
 |y::r,i=>if y=x then(i:Int)else ixF x r (i+1)
def ix (names:List (List UInt8)) (x:List UInt8):Int:=ixF x names 0
theorem ixF_range (x:List UInt8):∀(l:List (List UInt8)) (i:Nat),ixF x l i = -1∨∃k,k<l.length∧l[k]? = some x∧ixF x l i=((i+k:Nat):Int)
 | [],i=> .inl rfl
 |y::r,i=>by
  unfold ixF
  by_cases h:y=x
  ·rw[if_pos h];exact .inr ⟨0,by simp,by simp[h],by simp⟩
  ·rw[if_neg h]
   rcases ixF_range x r (i+1)with e|⟨k,hk,hx,e⟩
   ·exact .inl e
   ·exact .inr ⟨k+1,by simp;omega,by simpa using hx,by rw[e];omega⟩
theorem ix_range (l:List (List UInt8)) (x:List UInt8):ix l x = -1∨∃k,k<l.length∧l[k]? = some x∧ix l x=(k:Int):=by
 rcases ixF_range x l 0 with e|⟨k,hk,hx,e⟩
 ·exact .inl e
 ·exact .inr ⟨k,hk,hx,by unfold ix;rw[e];simp⟩
theorem ixLoop (names:List (List UInt8)) (x:List UInt8) (st:List D→Option (Sum (List D) (List D))) (hn:names.length≤1000)
 (hs:∀i:Nat,i<names.length→st [.int i]=if names.getD i []=x then some (.inr [.int 1, .int i])else some (.inl [.int ((i+1:Nat):Int)]))
 (he:st [.int names.length]=some (.inr [.int 0])):
 ∀(k i:Nat),i+k=names.length→loW st [.int i]=(if ixF x (names.drop i) i = -1 then some [.int 0]else some [.int 1, .int (ixF x (names.drop i) i)]):=by
 intro k
 induction k with
 |zero=>
  intro i h
  obtain rfl:i=names.length:=by omega
  rw[nxtW,he,nxt_r,List.drop_length];rfl
 |succ k ih=>
  intro i h
  have hlt:i<names.length:=by omega
  rw[nxtW,hs i hlt]
  have hd:names.drop i=names.getD i []::names.drop (i+1):=by
   rw[List.drop_eq_getElem_cons hlt];simp[List.getD,hlt]
  rw[hd]
  unfold ixF
  by_cases hx:names.getD i []=x
  ·rw[if_pos hx,if_pos hx,nxt_r,if_neg (by omega)]
  ·rw[if_neg hx,if_neg hx,nxt_l,ih (i+1) (by omega)]
theorem spec113 (names:List (List UInt8)) (x:List UInt8) (hn:names.length≤1000):q113 [nameL names, .str (bs x)]=some [.int (ix names x)]:=by
 have hl:qlen (nameL names)=(names.length:Int):=by rw[qlen_c];simp[nameL,D.toList]
 have key:l113_2 [nameL names, .str (bs x)] [.int 0]=(if ix names x = -1 then some [.int 0]else some [.int 1, .int (ix names x)]):=by
  rw[l113_2_eq]
  have:=ixLoop names x (st113_2 [nameL names, .str (bs x)]) hn (fun i hi=>by
   rw[st113_2_eq,hl,ltI,decide_eq_true hi,nameL_inb hi,nameL_get hi,qstr_s,eq_bs]
   simp only[cond_true]
   by_cases h:names.getD i []=x
   ·rw[decide_eq_true h,if_pos h];rfl
   ·rw[decide_eq_false h,if_neg h,show qbin .add .i64 (i:Int) 1=((i+1:Nat):Int)from addI (b:=1) (by omega)];rfl)
   (by rw[st113_2_eq,hl,ltI,decide_eq_false (by omega)];rfl) names.length 0 (by omega)
  rw[List.drop_zero]at this
  exact this
 rw[q113_eq,F113_eq,key]
 rcases ix_range names x with e|⟨k,hk,_,e⟩
 ·rw[e];simp[qsome_s,qnth_s,qint_i,qcmp_eql]
 ·rw[e,if_neg (by omega)];simp[qsome_s,qnth_s,qint_i,qcmp_eql]
theorem spec63c (x:List UInt8):q63_26 [.str (bs x), .int 15]=some [.int (ix ccL x)]:=by
 have key:l63_26_2 [.str (bs x), .int 15] [.int 0]=(if ix ccL x = -1 then some [.int 0]else some [.int 1, .int (ix ccL x)]):=by
  rw[l63_26_2_eq]
  have:=ixLoop ccL x (st63_26_2 [.str (bs x), .int 15]) (by decide) (fun i hi=>by
   have h15:i<15:=hi
   rw[st63_26_2_eq,show qcmp .lss (i:Int) 15=decide (i<15)from ltI i 15,decide_eq_true h15,spec26 h15]
   simp only[cond_true,qsome_s,qnth_s,List.getD_cons_zero,qstr_s,eq_bs]
   by_cases h:ccL.getD i []=x
   ·rw[decide_eq_true (show ccT i=x from h),if_pos h];rfl
   ·rw[decide_eq_false (show¬ccT i=x from h),if_neg h,show qbin .add .i64 (i:Int) 1=((i+1:Nat):Int)from addI (b:=1) (by omega)];rfl)
   (by rw[st63_26_2_eq,show qcmp .lss (ccL.length:Int) 15=decide (15<15)from ltI 15 15];rfl) 15 0 (by decide)
  rw[List.drop_zero]at this
  exact this
 rw[q63_26_eq,F63_26_eq,key]
 rcases ix_range ccL x with e|⟨k,hk,_,e⟩
 ·rw[e];simp[qsome_s,qnth_s,qint_i,qcmp_eql]
 ·rw[e,if_neg (by omega)];simp[qsome_s,qnth_s,qint_i,qcmp_eql]
theorem spec63o (x:List UInt8):q63_64 [.str (bs x), .int 11]=some [.int (ix opL x)]:=by
 have key:l63_64_2 [.str (bs x), .int 11] [.int 0]=(if ix opL x = -1 then some [.int 0]else some [.int 1, .int (ix opL x)]):=by
  rw[l63_64_2_eq]
  have:=ixLoop opL x (st63_64_2 [.str (bs x), .int 11]) (by decide) (fun i hi=>by
   have h11:i<11:=hi
   have e64:q64_26 [.int i]=some [.str (bs (opT i))]:=by
    rw[q64_26_eq,F64_26_eq,show qbin .add .i64 5 (i:Int)=((5+i:Nat):Int)from addI (a:=5) (by omega),spec56 (by omega)]
    have:(((5+i:Nat):Int)-5).toNat=i:=by omega
    rw[this]
    simp[qsome_s,qnth_s,qstr_s]
   rw[st63_64_2_eq,show qcmp .lss (i:Int) 11=decide (i<11)from ltI i 11,decide_eq_true h11,e64]
   simp only[cond_true,qsome_s,qnth_s,List.getD_cons_zero,qstr_s,eq_bs]
   by_cases h:opL.getD i []=x
   ·rw[decide_eq_true (show opT i=x from h),if_pos h];rfl
   ·rw[decide_eq_false (show¬opT i=x from h),if_neg h,show qbin .add .i64 (i:Int) 1=((i+1:Nat):Int)from addI (b:=1) (by omega)];rfl)
   (by rw[st63_64_2_eq,show qcmp .lss (opL.length:Int) 11=decide (11<11)from ltI 11 11];rfl) 11 0 (by decide)
  rw[List.drop_zero]at this
  exact this
 rw[q63_64_eq,F63_64_eq,key]
 rcases ix_range opL x with e|⟨k,hk,_,e⟩
 ·rw[e];simp[qsome_s,qnth_s,qint_i,qcmp_eql]
 ·rw[e,if_neg (by omega)];simp[qsome_s,qnth_s,qint_i,qcmp_eql]
end Go.Proofs.YtobhhfbdelnhfaaGreatDoor
namespace Go.Proofs.YtobhhfbdelnhfaaGreatDoor
set_option linter.unusedSimpArgs false
set_option linter.unusedVariables false
open Go Go.AM
def blank:List UInt8→Nat
 | []=>0
 |c::l=>if c=32 then 0 else blank l+1
theorem blank_le:∀l,blank l≤l.length
 | []=>Nat.le_refl _
 |c::l=>by unfold blank;split;exact Nat.zero_le _;have:=blank_le l;simp;omega
theorem index_one:∀l:List UInt8,Lib.index l [32]=if blank l<l.length then(blank l:Int)else -1
 | []=>by simp[Lib.index,blank]
 |c::l=>by
  unfold Lib.index blank
  by_cases h:c=32
  ·subst h;simp[List.isPrefixOf]
  ·have hb:((32:UInt8)==c)=false:=by rw[beq_eq_false_iff_ne];exact fun e=>h e.symm
   simp only[List.isPrefixOf,hb,Bool.false_and,Bool.false_eq_true,if_false,if_neg h,index_one l,List.length_cons,beq_iff_eq]
   by_cases h2:blank l<l.length
   ·rw[if_pos h2,if_neg (by omega),if_pos (by omega)];omega
   ·rw[if_neg h2,if_pos rfl,if_neg (by omega)]
theorem cutOk (l:List UInt8):qcutOk (bs l) (bs [32])=decide (blank l<l.length):=by
 simp only[qcutOk,veil_eq]
 show(Lib.cut l [32]).2.2=_
 unfold Lib.cut
 rw[index_one]
 by_cases h:blank l<l.length
 ·rw[if_pos h,if_pos (by omega),decide_eq_true h]
 ·rw[if_neg h,if_neg (by omega),decide_eq_false h]
theorem cutA (l:List UInt8):qcutA (bs l) (bs [32])=bs (l.take (blank l)):=by
 simp only[qcutA,veil_eq]
 show bs (Lib.cut l [32]).1=_
 unfold Lib.cut
 rw[index_one]
 by_cases h:blank l<l.length
 ·rw[if_pos h,if_pos (by omega),Int.toNat_natCast]
 ·rw[if_neg h,if_neg (by omega),List.take_of_length_le (by omega)]
theorem cutB {l:List UInt8} (h:blank l<l.length):qcutB (bs l) (bs [32])=bs (l.drop (blank l+1)):=by
 simp only[qcutB,veil_eq]
 show bs (Lib.cut l [32]).2.1=_
 unfold Lib.cut
 rw[index_one,if_pos h,if_pos (by omega),Int.toNat_natCast];rfl
def comma:List UInt8→Option Nat
 | []=>none
 | [_]=>none
 |a::b::l=>if a=44∧b=32 then some 0 else(comma (b::l)).map (· + 1)
theorem comma_lt:∀(l:List UInt8) (k:Nat),comma l=some k→k+2≤l.length
 | [],k,h=>by cases h
 | [_],k,h=>by cases h
 |a::b::l,k,h=>by
  unfold comma at h
  split at h
  ·cases h;simp
  ·obtain⟨j,hj,rfl⟩:=Option.map_eq_some_iff.1 h
   have:=comma_lt (b::l) j hj
   simp at this ⊢;omega
theorem index_two:∀l:List UInt8,Lib.index l [44,32]=match comma l with|some k=>(k:Int)|none=> -1
 | []=>by simp[Lib.index,comma]
 | [a]=>by simp[Lib.index,comma,List.isPrefixOf]
 |a::b::l=>by
  have ih:=index_two (b::l)
  unfold Lib.index comma
  rw[ih]
  by_cases h:a=44∧b=32
  ·obtain⟨rfl,rfl⟩:=h;simp[List.isPrefixOf]
  ·have hp:List.isPrefixOf [44,32] (a::b::l)=false:=by
    rw[Bool.eq_false_iff]
    intro e
    simp only[List.isPrefixOf,Bool.and_true,Bool.and_eq_true,beq_iff_eq]at e
    exact h ⟨e.1.symm,e.2.symm⟩
   rw[if_neg h,hp]
   simp only[Bool.false_eq_true,if_false,beq_iff_eq]
   cases comma (b::l)with
   |none=>simp
   |some k=>simp only[Option.map_some];rw[if_neg (by omega)];rfl
def partsF:Nat→List UInt8→List (List UInt8)
 |0,l=>[l]
 |n+1,l=>match comma l with|some k=>l.take k::partsF n (l.drop (k+2))|none=>[l]
def partsL (l:List UInt8):List (List UInt8):=partsF l.length l
theorem partsF_more:∀(n m:Nat) (l:List UInt8),l.length≤n→l.length≤m→partsF n l=partsF m l
 |0,0,_,_,_=>rfl
 |0,m+1,l,h,_=>by
  have:l = []:=List.length_eq_zero_iff.1 (by omega)
  subst this;rfl
 |n+1,0,l,_,h=>by
  have:l = []:=List.length_eq_zero_iff.1 (by omega)
  subst this;rfl
 |n+1,m+1,l,h1,h2=>by
  unfold partsF
  cases hc:comma l with
  |none=>rfl
  |some k=>
   have:=comma_lt l k hc
   simp only
   rw[partsF_more n m (l.drop (k+2)) (by rw[List.length_drop];omega) (by rw[List.length_drop];omega)]
theorem partsL_some {l:List UInt8} {k:Nat} (h:comma l=some k):partsL l=l.take k::partsL (l.drop (k+2)):=by
 have hl:=comma_lt l k h
 unfold partsL
 obtain⟨n,hn⟩:∃n,l.length=n+1:=⟨l.length-1,by omega⟩
 rw[hn]
 conv=>lhs;unfold partsF
 rw[h]
 simp only
 rw[partsF_more n _ _ (by simp;omega) (Nat.le_refl _)]
theorem partsL_none {l:List UInt8} (h:comma l=none):partsL l = [l]:=by
 unfold partsL
 cases l.length with
 |zero=>rfl
 |succ n=>unfold partsF;rw[h]
theorem split_parts:∀(n:Nat) (l:List UInt8),l.length≤n→∀fuel,l.length<fuel→Lib.splitK [44,32] 0 (Lib.countFrom [44,32] fuel l) l=partsL l
 |n,l,hl,0,hf=>by omega
 |n,l,hl,fuel+1,hf=>by
  unfold Lib.countFrom
  rw[index_two]
  cases hc:comma l with
  |none=>simp only;rw[if_pos (by decide),partsL_none hc];rfl
  |some k=>
   have hk:=comma_lt l k hc
   simp only
   rw[if_neg (by rw[beq_iff_eq];omega),Nat.add_comm 1,partsL_some hc]
   unfold Lib.splitK
   rw[index_two,hc]
   simp only
   rw[if_neg (by rw[beq_iff_eq];omega),Int.toNat_natCast,Nat.add_zero]
   have hlen:([44,32]:List UInt8).length=2:=rfl
   rw[hlen]
   cases n with
   |zero=>omega
   |succ n=>rw[split_parts n (l.drop (k+2)) (by simp;omega) fuel (by simp;omega)]
def opD (l:List (List UInt8)):D:=nameL l
theorem splitQ (l:List UInt8):qsplit (bs l) (bs [44,32])=opD (partsL l):=by
 simp only[qsplit,veil_eq]
 have h:=Lib.splitB_data (bs [44,32]) 0 (Lib.countB (bs l) (bs [44,32])) (bs l)
 have e:Lib.splitK [44,32] 0 (Lib.countB (bs l) (bs [44,32])) l=partsL l:=split_parts l.length l (Nat.le_refl _) (l.length+1) (by omega)
 have h2:(Lib.splitB (bs [44,32]) 0 (Lib.countB (bs l) (bs [44,32])) (bs l)).map (·.data.toList)=partsL l:=h.trans e
 unfold opD nameL
 rw[← h2,List.map_map]
 rfl
theorem loop70 (ps:ByteArray) (l:List UInt8) (hz:l.length≤1000):∀(k i:Nat),i+k=l.length→loW (st70_2 [.str (bs l), .str ps]) [.int i]=some [.int 0, .int ((i+blank (l.drop i):Nat):Int)]:=by
 intro k
 induction k with
 |zero=>
  intro i h
  rw[nxtW,st70_2_eq,len_bs,ltI,decide_eq_false (by omega),List.drop_of_length_le (by omega)]
  simp only[qiteB_c,cond_false,cond_true,nxt_r,blank,Nat.add_zero]
 |succ k ih=>
  intro i h
  have hlt:i<l.length:=by omega
  rw[nxtW,st70_2_eq,len_bs,ltI,decide_eq_true hlt,inb_bs hlt,idx_bs]
  simp only[qiteB_c,cond_true]
  have hd:l.drop i=l.getD i 0::l.drop (i+1):=by rw[List.drop_eq_getElem_cons hlt];simp[List.getD,hlt]
  rw[hd]
  unfold blank
  by_cases hc:l.getD i 0=32
  ·rw[if_pos hc,hc]
   rw[show qcmp .neq (((32:UInt8).toNat:Nat):Int) 32=false by rw[qcmp_neq];rfl]
   simp only[cond_false,nxt_r,Nat.add_zero]
  ·have hne:¬((l.getD i 0).toNat:Int)=32:=fun e=>hc ((u8_eq (x:=l.getD i 0) (n:=32) (by omega)).1 e)
   rw[if_neg hc,qcmp_neq,decide_eq_false hne,show qbin .add .i64 (i:Int) 1=((i+1:Nat):Int)from addI (b:=1) (by omega)]
   simp only[Bool.not_false,cond_true,nxt_l]
   rw[ih (i+1) (by omega),show i+1+blank (l.drop (i+1))=i+(blank (l.drop (i+1))+1)by omega]
theorem comma_cons {a b:UInt8} {l:List UInt8} (h:¬(a=44∧b=32)):comma (a::b::l)=(comma (b::l)).map (· + 1):=by
 conv=>lhs;unfold comma
 rw[if_neg h]
theorem loop112 (l:List UInt8) (hz:l.length≤1000):∀(k f i:Nat) (out:List (List UInt8)),i+k=l.length→f≤i+1→f≤l.length→out.length≤i+1→
 (f≤i→comma (l.drop f)=(comma (l.drop i)).map (· + (i-f)))→
 ∃(out':List (List UInt8)) (f':Nat),loW (st112_4 [.str (bs l)]) [.int f, .int i,opD out]=some [.int 0, .int f',opD out']∧f'≤l.length∧out'.length≤l.length+2∧out' ++ [l.drop f']=out++partsL (l.drop f):=by
 intro k
 induction k with
 |zero=>
  intro f i out h hf hfl ho hc
  rw[nxtW,st112_4_eq,len_bs,show qbin .add .i64 (i:Int) 1=((i+1:Nat):Int)from addI (b:=1) (by omega),ltI,decide_eq_false (by omega)]
  simp only[cond_false,nxt_r]
  refine⟨out,f,rfl,hfl,by omega,?_⟩
  have hn:comma (l.drop f)=none:=by
   by_cases hfi:f≤i
   ·rw[hc hfi,List.drop_of_length_le (by omega)];rfl
   ·rw[List.drop_of_length_le (by omega)];rfl
  rw[partsL_none hn]
 |succ k ih=>
  intro f i out h hf hfl ho hc
  have hlt:i<l.length:=by omega
  have hd:l.drop i=l.getD i 0::l.drop (i+1):=by rw[List.drop_eq_getElem_cons hlt];simp[List.getD,hlt]
  rw[nxtW,st112_4_eq,len_bs,show qbin .add .i64 (i:Int) 1=((i+1:Nat):Int)from addI (b:=1) (by omega),ltI]
  by_cases h1:i+1<l.length
  ·have hd1:l.drop (i+1)=l.getD (i+1) 0::l.drop (i+2):=by rw[List.drop_eq_getElem_cons h1];simp[List.getD,h1]
   rw[decide_eq_true h1,inb_bs hlt,inb_bs h1,idx_bs,idx_bs]
   have e44:qcmp .eql ((l.getD i 0).toNat:Int) 44=decide (l.getD i 0=44):=by
    rw[qcmp_eql];exact decide_eq_decide.2 (u8_eq (n:=44) (by omega))
   have e32:qcmp .eql ((l.getD (i+1) 0).toNat:Int) 32=decide (l.getD (i+1) 0=32):=by
    rw[qcmp_eql];exact decide_eq_decide.2 (u8_eq (n:=32) (by omega))
   rw[e44,e32,geI]
   simp only[qiteB_c,cond_true]
   have g1:(bif decide (l.getD i 0=44)then true else true)=true:=by cases decide (l.getD i 0=44)<;>rfl
   rw[g1]
   simp only[cond_true]
   by_cases hm:l.getD i 0=44∧l.getD (i+1) 0=32
   ·rw[decide_eq_true hm.1,decide_eq_true hm.2]
    simp only[cond_true]
    by_cases hfi:f≤i
    ·have hci:comma (l.drop i)=some 0:=by
      rw[hd,hd1];unfold comma;rw[if_pos hm]
     have hcf:comma (l.drop f)=some (i-f):=by rw[hc hfi,hci];simp
     have happ:qapp (opD out) (.list [.str (bs ((l.take i).drop f))])=opD (out ++ [(l.take i).drop f]):=by
      rw[qapp_eq];simp[D.app,opD,nameL,D.toList]
     have hlen:qlen (opD (out ++ [(l.take i).drop f]))=((out.length+1:Nat):Int):=by rw[qlen_c];simp[opD,nameL,D.toList]
     have hmem:qmem ((out.length+1:Nat):Int) 16=true:=by
      rw[qmem,veil_eq];simp only[rmem,Bool.and_eq_true,decide_eq_true_eq];omega
     rw[decide_eq_true hfi,sub_bs,le0,leI',decide_eq_true hfi,leI',decide_eq_true (show i≤l.length by omega),happ,hlen,hmem]
     simp only[cond_true,nxt_l]
     rw[show qbin .add .i64 (i:Int) 2=((i+2:Nat):Int)from addI (b:=2) (by omega)]
     obtain⟨o',f',e1,e2,e3,e4⟩:=ih (i+2) (i+1) (out ++ [(l.take i).drop f]) (by omega) (by omega) (by omega) (by simp;omega) (fun hx=>by omega)
     refine⟨o',f',e1,e2,e3,?_⟩
     rw[e4,partsL_some hcf,List.append_assoc,List.drop_drop,show f+(i-f+2)=i+2 by omega]
     congr 1
     simp only[List.cons_append,List.nil_append]
     congr 1
     rw[List.drop_take]
    ·rw[decide_eq_false hfi]
     simp only[cond_false,nxt_l]
     obtain⟨o',f',e1,e2,e3,e4⟩:=ih f (i+1) out (by omega) (by omega) hfl (by omega) (fun hx=>by
      have:f=i+1:=by omega
      subst this;simp)
     exact⟨o',f',e1,e2,e3,e4⟩
   ·have g2:(bif (bif decide (l.getD i 0=44)then decide (l.getD (i+1) 0=32)else false)then decide (f≤i)else false)=false:=by
     by_cases a:l.getD i 0=44
     ·have b:¬l.getD (i+1) 0=32:=fun b=>hm ⟨a,b⟩
      rw[decide_eq_true a,decide_eq_false b];rfl
     ·rw[decide_eq_false a];rfl
    rw[g2]
    simp only[cond_false,nxt_l]
    obtain⟨o',f',e1,e2,e3,e4⟩:=ih f (i+1) out (by omega) (by omega) hfl (by omega) (fun hx=>by
     by_cases hfi:f≤i
     ·rw[hc hfi,hd,hd1,comma_cons hm, ← hd1,Option.map_map]
      congr 1
      funext x
      simp only[Function.comp];omega
     ·have:f=i+1:=by omega
      subst this;simp)
    exact⟨o',f',e1,e2,e3,e4⟩
  ·rw[decide_eq_false h1]
   simp only[cond_false,nxt_r]
   refine⟨out,f,rfl,hfl,by omega,?_⟩
   have hn:comma (l.drop f)=none:=by
    by_cases hfi:f≤i
    ·rw[hc hfi,hd,show l.drop (i+1) = []from List.drop_of_length_le (by omega)];rfl
    ·rw[List.drop_of_length_le (by omega)];rfl
   rw[partsL_none hn]
theorem spec112 (l:List UInt8) (hz:l.length≤1000):q112 [.str (bs l)]=some [opD (partsL l)]:=by
 obtain⟨o,f,e1,e2,e3,e4⟩:=loop112 l hz l.length 0 0 [] (by omega) (by omega) (by omega) (by simp) (fun _=>by simp)
 have key:l112_4 [.str (bs l)] [.int 0, .int 0, .list []]=some [.int 0, .int f,opD o]:=by rw[l112_4_eq];exact e1
 have happ:qapp (opD o) (.list [.str (bs (l.drop f))])=opD (partsL l):=by
  have e4':o ++ [l.drop f]=partsL l:=by simpa using e4
  rw[← e4',qapp_eq];simp[D.app,opD,nameL,D.toList]
 have hlen:qlen (opD (partsL l))=((o.length+1:Nat):Int):=by
  have e4':o ++ [l.drop f]=partsL l:=by simpa using e4
  rw[← e4',qlen_c];simp[opD,nameL,D.toList]
 have hmem:qmem ((o.length+1:Nat):Int) 16=true:=by
  rw[qmem,veil_eq];simp only[rmem,Bool.and_eq_true,decide_eq_true_eq];omega
 rw[q112_eq,F112_eq,key]
 simp only[qsome_s,qnth_s,List.getD_cons_zero,List.getD_cons_succ,qint_i,cond_true]
 rw[len_bs,sub_from,happ,hlen,hmem,le0,leI',decide_eq_true e2,leI',decide_eq_true (Nat.le_refl _)]
 rfl
def headL (l:List UInt8):List UInt8:=l.take (blank l)
def opsL (l:List UInt8):List (List UInt8):=if blank l<l.length then partsL (l.drop (blank l+1))else[]
theorem spec70 (l:List UInt8) (hz:l.length≤1000):q70 [.str (bs l)]=some [.str (bs (headL l)),opD (opsL l)]:=by
 have hb:=blank_le l
 have key:l70_2 [.str (bs l), .str (ByteArray.mk #[])] [.int 0]=some [.int 0, .int (blank l:Nat)]:=by
  rw[l70_2_eq]
  have:=loop70 (ByteArray.mk #[]) l hz l.length 0 (by omega)
  rw[List.drop_zero,Nat.zero_add]at this
  exact this
 rw[q70_eq,F70_eq,key]
 simp only[qsome_s,qnth_s,List.getD_cons_zero,List.getD_cons_succ,qint_i,cond_true]
 rw[len_bs,eqI]
 unfold headL opsL
 by_cases h:blank l<l.length
 ·rw[decide_eq_false (by omega),if_pos h,show qbin .add .i64 (blank l:Int) 1=((blank l+1:Nat):Int)from addI (b:=1) (by omega),sub_to,sub_from,spec112 _ (by simp;omega),
   le0,le0,leI',decide_eq_true (show blank l≤l.length by omega),leI',decide_eq_true (show blank l+1≤l.length by omega),leI',decide_eq_true (Nat.le_refl _),show qcmp .leq 0 0=true by rw[qcmp_leq];rfl]
  simp[qsome_s,qnth_s]
 ·have e:blank l=l.length:=by omega
  rw[decide_eq_true e,if_neg h,e,List.take_length]
  rfl
end Go.Proofs.YtobhhfbdelnhfaaGreatDoor
namespace Go.Proofs.YtobhhfbdelnhfaaGreatDoor
set_option linter.unusedSimpArgs false
set_option linter.unusedVariables false
open Go Go.AM
noncomputable def numB (l:List UInt8):Bool:=match q36 [.str (bs l)]with|some [_, .bool b]=>b|_=>false
noncomputable def numV (l:List UInt8):Int:=match q36 [.str (bs l)]with|some [.int n,_]=>n|_=>0
noncomputable def regB (l:List UInt8):Bool:=match q108 [.str (bs l)]with|some [_, .bool b]=>b|_=>false
noncomputable def regV (l:List UInt8):Int:=match q108 [.str (bs l)]with|some [.int n,_]=>n|_=>0
theorem num_spec {l:List UInt8} (hz:l.length≤1000):q36 [.str (bs l)]=some [.int (numV l), .bool (numB l)]∧q126 [.str (bs l)]=some [.int (numV l), .bool (numB l)]:=by
 obtain⟨n,b,e1,e2⟩:=num_eq (s:=bs l) hz
 have hB:numB l=b:=by unfold numB;rw[e1]
 have hV:numV l=n:=by unfold numV;rw[e1]
 rw[hB,hV];exact⟨e1,e2⟩
theorem reg_spec (l:List UInt8):q108 [.str (bs l)]=some [.int (regV l), .bool (regB l)]∧q114 [.str (bs l)]=some [.int (regV l), .bool (regB l)]:=by
 obtain⟨n,b,e1,e2⟩:=reg_eq (bs l)
 have hB:regB l=b:=by unfold regB;rw[e1]
 have hV:regV l=n:=by unfold regV;rw[e1]
 rw[hB,hV];exact⟨e1,e2⟩
theorem rng_u32 (n:Int):0≤qwrap .u32 n∧qwrap .u32 n<4294967296:=by rw[qwrap_eq,mU32];omega
theorem rng_neg (n:Int):0≤qun .neg .u32 n∧qun .neg .u32 n<4294967296:=by rw[qun_eq];simp only[run1,mU32];omega
theorem num_rng {l:List UInt8} (hz:l.length≤1000):0≤numV l∧numV l<4294967296:=by
 have h:=(num_spec hz).1
 rw[q36_eq,F36_eq]at h
 simp only[Bool.cond_eq_ite]at h
 have a1:=rng_u32
 have a2:=rng_neg
 repeat' (split at h)
 all_goals first
  | (cases h;done)
  | (simp only[Option.some.injEq,List.cons.injEq,D.int.injEq]at h
     have h1:=h.1
     rw[← h1]
     first|exact a1 _|exact a2 _|omega)
theorem num_nil:numB []=false:=by
 have h:=(num_spec (l:=[]) (by simp)).2
 have e147:q147 [.str (bs []), .int 10]=some [.int 0, .bool false]:=by
  rw[spec147 (by omega)];rfl
 have l0:qlenS (bs [])=0:=len_bs []
 rw[q126_eq,F126_eq,l0,show qcmp .gtr (0:Int) 2=false by rw[qcmp_gtr];rfl,show qcmp .gtr (0:Int) 0=false by rw[qcmp_gtr];rfl]at h
 simp only[qiteB_c,qiteS_eq,cond_false,cond_true,e147,qsome_s,qnth_s,List.getD_cons_zero,List.getD_cons_succ,qbool_b,qnot_c,Bool.not_false]at h
 simp only[Option.some.injEq,List.cons.injEq,D.bool.injEq,and_true]at h
 exact h.2.symm
theorem op_get {ops:List (List UInt8)} {k:Nat} {l:List UInt8} (h:ops[k]? = some l):qinb (opD ops) (k:Int)=true∧qstr (qget (opD ops) (k:Int))=bs l:=by
 have hk:k<ops.length:=(List.getElem?_eq_some_iff.1 h).1
 refine⟨nameL_inb hk,?_⟩
 unfold opD
 rw[nameL_get hk,qstr_s,List.getD,h];rfl
theorem spec107 {ops:List (List UInt8)} {k:Nat} {l:List UInt8} (h:ops[k]? = some l) (b1 b2 b3 bad:Bool):
 q107 [opD ops, .bool b1, .bool b2, .bool b3, .int k, .bool bad]=some [.int (regV l), .bool (bad || !regB l)]:=by
 obtain⟨g1,g2⟩:=op_get h
 rw[q107_eq,F107_eq,g1,g2,(reg_spec l).1]
 simp only[qsome_s,qnth_s,List.getD_cons_zero,List.getD_cons_succ,qbool_b,qnot_c,cond_true,qint_i]
 cases regB l<;>simp
theorem spec106 {ops:List (List UInt8)} {k:Nat} {l:List UInt8} (h:ops[k]? = some l) (hz:l.length≤1000) (b1 b2 b3 bad:Bool):
 ∃n,q106 [opD ops, .bool b1, .bool b2, .bool b3, .int k, .bool bad]=some [.int n, .bool false, .bool (bad || !numB l)]∧(numB l=true→n=numV l):=by
 obtain⟨g1,g2⟩:=op_get h
 rw[q106_eq,F106_eq,g1,g2,(num_spec hz).1]
 simp only[qsome_s,qnth_s,List.getD_cons_zero,List.getD_cons_succ,qbool_b,qnot_c,cond_true,qint_i]
 cases hb:numB l with
 |true=>exact⟨numV l,by simp,fun _=>rfl⟩
 |false=>exact⟨0,by simp,fun e=>by cases e⟩
theorem spec105 (ops:List (List UInt8)) (b1 b2 b3 bad:Bool) (n:Nat):
 q105 [opD ops, .bool b1, .bool b2, .bool b3, .int n, .bool bad]=some [.bool (decide (ops.length=n) && !bad), .bool (bad || !decide (ops.length=n))]:=by
 have hl:qlen (opD ops)=(ops.length:Int):=by rw[qlen_c];simp[opD,nameL,D.toList]
 rw[q105_eq,F105_eq,hl,neI]
 by_cases h:ops.length=n<;>simp[h,qnot_c]
noncomputable def plT (g:Int) (nb:Bool) (nv:Int) (a c:UInt8):Int×Int×Int:=
 if nb=false∨c=45∨(a≠43∧a≠45)then(0,0,3)
 else if(a=43∧127<nv)∨128<nv then(0,0,7)
 else(g,if a=45 then qbin .sub .u32 0 nv else nv,0)
noncomputable def plR (l:List UInt8):Int×Int×Int:=
 if l.length<4∨l.getD 0 0≠91∨l.getD (l.length-1) 0≠93 then(0,0,3)
 else if regB ((l.drop 1).take 2)=false then(0,0,3)
 else match(l.take (l.length-1)).drop 3 with
  | []=>(regV ((l.drop 1).take 2),0,0)
  |a::r=>plT (regV ((l.drop 1).take 2)) (numB r) (numV r) a (r.getD 0 0)
theorem neq8 (c:UInt8) (n:Nat) (h:n<256):qcmp .neq (c.toNat:Int) (n:Int) = !decide (c=UInt8.ofNat n):=by
 rw[qcmp_neq];congr 1;exact decide_eq_decide.2 (u8_eq h)
theorem eq8 (c:UInt8) (n:Nat) (h:n<256):qcmp .eql (c.toNat:Int) (n:Int)=decide (c=UInt8.ofNat n):=by
 rw[qcmp_eql];exact decide_eq_decide.2 (u8_eq h)
theorem num_head {r:List UInt8} (hz:r.length≤1000) (h:numB r=true):0<r.length:=by
 cases r with
 |nil=>rw[num_nil]at h;cases h
 |cons a r=>simp
theorem spec115 (l:List UInt8) (hz:l.length≤1000):q115 [.str (bs l)]=some [.int (plR l).1, .int (plR l).2.1, .int (plR l).2.2]:=by
 rw[q115_eq,F115_eq,len_bs]
 unfold plR
 by_cases h4:l.length<4
 ·rw[show qcmp .lss (l.length:Int) 4=decide (l.length<4)from ltI l.length 4,decide_eq_true h4,if_pos (.inl h4)]
  simp only[qiteB_c,cond_true]
 ·rw[show qcmp .lss (l.length:Int) 4=decide (l.length<4)from ltI l.length 4,decide_eq_false h4,show qidxS (bs l) 0=((l.getD 0 0).toNat:Int)from idx_bs l 0,show qinbS (bs l) 0=true from inb_bs (i:=0) (by omega),
   show qbin .sub .i64 (l.length:Int) 1=((l.length-1:Nat):Int)from subI (b:=1) (by omega) (by omega),idx_bs,inb_bs (by omega),
   show qcmp .neq ((l.getD 0 0).toNat:Int) 91 = !decide (l.getD 0 0=91)from neq8 _ 91 (by omega),show qcmp .neq ((l.getD (l.length-1) 0).toNat:Int) 93 = !decide (l.getD (l.length-1) 0=93)from neq8 _ 93 (by omega)]
  by_cases h0:l.getD 0 0=91
  ·by_cases h9:l.getD (l.length-1) 0=93
   ·rw[decide_eq_true h0,decide_eq_true h9,if_neg (by simp only[not_or,Decidable.not_not];exact⟨by omega,h0,h9⟩)]
    have hs:qsubS (bs l) 1 3=bs ((l.drop 1).take 2):=by
     have:=sub_bs l 1 3
     rw[List.drop_take]at this
     exact this
    have hr:qsubS (bs l) 3 ((l.length-1:Nat):Int)=bs ((l.take (l.length-1)).drop 3):=sub_bs l 3 _
    rw[hs,(reg_spec _).2,hr]
    simp only[qiteB_c,cond_true,cond_false,Bool.not_true,qsome_s,qnth_s,List.getD_cons_zero,List.getD_cons_succ,qbool_b,qnot_c,qint_i]
    rw[show qcmp .leq 0 1=true by rw[qcmp_leq];rfl,show qcmp .leq 1 3=true by rw[qcmp_leq];rfl,show qcmp .leq 3 (l.length:Int)=true by rw[qcmp_leq];exact decide_eq_true (by omega),
     show qcmp .leq 0 3=true by rw[qcmp_leq];rfl,show qcmp .leq 3 ((l.length-1:Nat):Int)=true by rw[qcmp_leq];exact decide_eq_true (by omega),leI',decide_eq_true (show l.length-1≤l.length by omega)]
    simp only[cond_true]
    cases hb:regB ((l.drop 1).take 2)with
    |false=>rw[if_pos rfl];rfl
    |true=>
     rw[if_neg (by simp)]
     simp only[Bool.not_true,cond_false]
     have hlr:((l.take (l.length-1)).drop 3).length≤1000:=by simp;omega
     rw[show ByteArray.mk #[]=bs []from rfl,eq_bs]
     generalize hg:(l.take (l.length-1)).drop 3=r at *
     cases r with
     |nil=>rfl
     |cons a r=>
      rw[decide_eq_false (by simp)]
      have hrz:r.length≤1000:=by simp at hlr;omega
      have h1:qsubS (bs (a::r)) 1 (qlenS (bs (a::r)))=bs r:=by rw[len_bs];exact sub_from (a::r) 1
      have hx0:qidxS (bs (a::r)) 0=(a.toNat:Int):=idx_bs (a::r) 0
      have hi0:qinbS (bs (a::r)) 0=true:=inb_bs (i:=0) (by simp)
      have hx1:qidxS (bs (a::r)) 1=((r.getD 0 0).toNat:Int):=idx_bs (a::r) 1
      rw[h1,(num_spec hrz).2,hx0,hx1,hi0,len_bs,show qcmp .leq 1 (((a::r).length:Nat):Int)=true by rw[qcmp_leq];exact decide_eq_true (by simp;omega),leI',decide_eq_true (Nat.le_refl _),
       show qcmp .eql ((r.getD 0 0).toNat:Int) 45=decide (r.getD 0 0=45)from eq8 _ 45 (by omega),show qcmp .neq (a.toNat:Int) 43 = !decide (a=43)from neq8 _ 43 (by omega),show qcmp .neq (a.toNat:Int) 45 = !decide (a=45)from neq8 _ 45 (by omega),
       show qcmp .eql (a.toNat:Int) 43=decide (a=43)from eq8 _ 43 (by omega),show qcmp .eql (a.toNat:Int) 45=decide (a=45)from eq8 _ 45 (by omega)]
      simp only[cond_true,cond_false,qsome_s,qnth_s,List.getD_cons_zero,List.getD_cons_succ,qbool_b,qint_i,qnot_c,qand_c,qiteI_eq,qcmp_gtr]
      cases hn:numB r with
      |false=>simp[plT]
      |true=>
       have hpos:=num_head hrz hn
       have hi1:qinbS (bs (a::r)) 1=true:=inb_bs (i:=1) (by simp;omega)
       rw[hi1]
       clear hx1 hi1 h1
       generalize r.getD 0 0=c0
       by_cases hm:c0=45
       ·simp[plT,hm]
       ·by_cases ha:a=43
        ·subst ha
         by_cases hv:127<numV r<;>by_cases hv2:128<numV r<;>simp[plT,hm,hv,hv2]
        ·by_cases ha2:a=45
         ·subst ha2
          by_cases hv2:128<numV r<;>simp[plT,hm,hv2]
         ·simp[plT,hm,ha,ha2]
   ·rw[decide_eq_true h0,decide_eq_false h9,if_pos (.inr (.inr h9))]
    simp only[qiteB_c,cond_true,cond_false,Bool.not_true,Bool.not_false]
  ·rw[decide_eq_false h0,if_pos (.inr (.inl h0))]
   simp only[qiteB_c,cond_true,cond_false,Bool.not_false]
theorem neg0 (n:Int):qun .neg .u32 n=qbin .sub .u32 0 n:=by rw[qun_eq,qbin_eq];rfl
theorem spec139 {ops:List (List UInt8)} {k:Nat} {l:List UInt8} (h:ops[k]? = some l) (hz:l.length≤1000) (b1 b2 bad far:Bool):
 ∃b n,q139 [opD ops, .bool b1, .bool b2, .int k, .bool bad, .bool far]=some [.int b, .int n, .bool (bad||((plR l).2.2==3)), .bool (far||((plR l).2.2==7))]∧((plR l).2.2=0→b=(plR l).1∧n=(plR l).2.1):=by
 obtain⟨g1,g2⟩:=op_get h
 have c91:ByteArray.mk #[91]=bs [91]:=rfl
 have c93:ByteArray.mk #[93]=bs [93]:=rfl
 rw[q139_eq,F139_eq,g1,g2,c91,c93,pre59]
 simp only[cond_true,qsome_s,qnth_s,List.getD_cons_zero,List.getD_cons_succ,qbool_b,qstr_s,qnot_c]
 have no:∀(t:List UInt8),(plR l).2.2=3→∃b n,some [D.int 0, .int 0, .bool true, .bool far]=some [.int b, .int n, .bool (bad||((plR l).2.2==3)), .bool (far||((plR l).2.2==7))]∧((plR l).2.2=0→b=(plR l).1∧n=(plR l).2.1):=
  fun t e=>⟨0,0,by rw[e];simp,fun e'=>by omega⟩
 have hpre:List.isPrefixOf [91] l=decide (l.getD 0 0=91∧l≠[]):=by
  cases l with
  |nil=>simp[List.isPrefixOf]
  |cons a m=>
   rw[Bool.eq_iff_iff]
   simp only[List.isPrefixOf,Bool.and_true,beq_iff_eq,decide_eq_true_eq,List.getD_cons_zero,ne_eq,reduceCtorEq,not_false_eq_true,and_true]
   exact eq_comm
 by_cases ho:l.getD 0 0=91∧l≠[]
 case neg=>
  rw[hpre,decide_eq_false ho]
  simp only[cond_false]
  rw[suf62 l [93] (by omega)]
  simp only[cond_true,qsome_s,qnth_s,List.getD_cons_zero,List.getD_cons_succ,qbool_b,qstr_s,qnot_c,qiteB_c,Bool.not_false]
  refine no l ?_
  unfold plR
  rw[if_pos ?_]
  by_cases e:l = []
  ·subst e;left;decide
  ·right;left;exact fun e2=>ho ⟨e2,e⟩
 case pos=>
  rw[hpre,decide_eq_true ho]
  cases l with
  |nil=>exact absurd rfl ho.2
  |cons a m=>
   simp only[List.getD_cons_zero]at ho
   obtain⟨rfl,_⟩:=ho
   simp only[cond_true,Bool.not_true,List.length_cons,List.length_nil,Nat.zero_add,List.drop_succ_cons,List.drop_zero]
   have hmz:m.length≤999:=by simp at hz;omega
   rw[suf62 m [93] (by omega)]
   simp only[cond_true,qsome_s,qnth_s,List.getD_cons_zero,List.getD_cons_succ,qbool_b,qstr_s,qnot_c,qiteB_c,cond_false,Bool.not_false,List.length_cons,List.length_nil,Nat.zero_add]
   have hsf:sfx [93] m=decide (1≤m.length∧m.getD (m.length-1) 0=93):=by
    unfold sfx
    simp only[List.length_cons,List.length_nil,Nat.zero_add]
    by_cases h1:1≤m.length
    ·have hd:m.drop (m.length-1) = [m.getD (m.length-1) 0]:=by
      rw[List.drop_eq_getElem_cons (by omega),List.drop_of_length_le (by omega)]
      simp[List.getD,show m.length-1<m.length by omega]
     rw[hd];simp[h1]
    ·simp[h1]
   by_cases hs:1≤m.length∧m.getD (m.length-1) 0=93
   case neg=>
    rw[hsf,decide_eq_false hs]
    simp only[cond_false,Bool.not_false,cond_true]
    refine no m ?_
    unfold plR
    rw[if_pos ?_]
    by_cases e:m = []
    ·subst e;left;simp
    ·right;right
     have hm:0<m.length:=List.length_pos_iff.2 e
     rw[List.length_cons,show m.length+1-1=(m.length-1)+1 by omega,List.getD_cons_succ]
     exact fun e2=>hs ⟨hm,e2⟩
   case pos=>
    rw[hsf,decide_eq_true hs]
    simp only[cond_true,Bool.not_true,cond_false,len_bs]
    have hlt:(m.take (m.length-1)).length=m.length-1:=by simp
    rw[hlt,show qcmp .lss ((m.length-1:Nat):Int) 2=decide (m.length-1<2)from ltI _ 2]
    by_cases h3:m.length-1<2
    ·rw[decide_eq_true h3]
     simp only[cond_true]
     refine no m ?_
     unfold plR
     rw[if_pos ?_]
     left;simp;omega
    ·rw[decide_eq_false h3]
     simp only[cond_false]
     have e1:qsubS (bs (m.take (m.length-1))) 0 2=bs (m.take 2):=by
      have:=sub_to (m.take (m.length-1)) 2
      rw[List.take_take,Nat.min_eq_left (by omega)]at this
      exact this
     have e2:qsubS (bs (m.take (m.length-1))) 2 ((m.length-1:Nat):Int)=bs ((m.take (m.length-1)).drop 2):=by
      have:=sub_from (m.take (m.length-1)) 2
      rw[hlt]at this
      exact this
     rw[e1,e2,(reg_spec _).1]
     have c0:ByteArray.mk #[]=bs []:=rfl
     simp only[qsome_s,qnth_s,List.getD_cons_zero,List.getD_cons_succ,qbool_b,qint_i,qnot_c,cond_true]
     rw[show qcmp .leq 0 0=true by rw[qcmp_leq];rfl,show qcmp .leq 0 2=true by rw[qcmp_leq];rfl,show qcmp .leq 2 ((m.length-1:Nat):Int)=true by rw[qcmp_leq];exact decide_eq_true (by omega),leI',decide_eq_true (Nat.le_refl _),c0,eq_bs]
     simp only[cond_true]
     have hp:plR (91::m)=(if regB (m.take 2)=false then((0,0,3):Int×Int×Int)else match(m.take (m.length-1)).drop 2 with
      | []=>(regV (m.take 2),0,0)
      |a::r=>plT (regV (m.take 2)) (numB r) (numV r) a (r.getD 0 0)):=by
      conv=>lhs;unfold plR
      rw[if_neg]
      ·have:(List.take ((91::m).length-1) (91::m)).drop 3=(m.take (m.length-1)).drop 2:=by
        rw[List.length_cons,show m.length+1-1=(m.length-1)+1 by omega,List.take_succ_cons,List.drop_succ_cons]
       rw[this];rfl
      ·simp only[not_or,Decidable.not_not]
       refine⟨by simp;omega,rfl,?_⟩
       rw[List.length_cons,show m.length+1-1=(m.length-1)+1 by omega,List.getD_cons_succ]
       exact hs.2
     rw[hp]at no ⊢
     clear hp e1 e2 hsf hpre
     have hrl:((m.take (m.length-1)).drop 2).length≤999:=by simp;omega
     generalize (m.take (m.length-1)).drop 2=r at *
     cases hb:regB (m.take 2)with
     |false=>
      rw[hb]at no
      simp only[Bool.not_false,cond_true,cond_false,qiteB_c,if_true]at no ⊢
      cases decide (r = [])<;>exact no m (by trivial)
     |true=>
      rw[hb]at no
      simp only[Bool.not_true,cond_true,cond_false,qiteB_c,Bool.true_eq_false,if_false]at no ⊢
      cases r with
      |nil=>
       simp only[decide_true,cond_true]
       exact⟨_,_,by simp,fun _=>⟨rfl,rfl⟩⟩
      |cons a r=>
       rw[decide_eq_false (by simp)]
       simp only[cond_false]
       simp only at no ⊢
       have hrz:r.length≤1000:=by simp at hrl;omega
       rw[len_bs,show qcmp .lss (((a::r).length:Nat):Int) 2=decide ((a::r).length<2)from ltI _ 2]
       by_cases hr0:r = []
       ·subst hr0
        rw[decide_eq_true (by simp)]
        simp only[cond_true]
        refine no m ?_
        simp[plT,num_nil]
       ·have hrp:0<r.length:=List.length_pos_iff.2 hr0
        rw[decide_eq_false (by simp;omega)]
        have h1:qsubS (bs (a::r)) 1 (((a::r).length:Nat):Int)=bs r:=sub_from (a::r) 1
        have hx0:qidxS (bs (a::r)) 0=(a.toNat:Int):=idx_bs (a::r) 0
        have hi0:qinbS (bs (a::r)) 0=true:=inb_bs (i:=0) (by simp)
        have hx1:qidxS (bs (a::r)) 1=((r.getD 0 0).toNat:Int):=idx_bs (a::r) 1
        have hi1:qinbS (bs (a::r)) 1=true:=inb_bs (i:=1) (by simp;omega)
        rw[h1,(num_spec hrz).1,hx0,hx1,hi0,hi1,show qcmp .leq 0 1=true by rw[qcmp_leq];rfl,show qcmp .leq 1 (((a::r).length:Nat):Int)=true by rw[qcmp_leq];exact decide_eq_true (by simp;omega),leI',decide_eq_true (Nat.le_refl _),
         show qcmp .eql ((r.getD 0 0).toNat:Int) 45=decide (r.getD 0 0=45)from eq8 _ 45 (by omega),show qcmp .neq (a.toNat:Int) 43 = !decide (a=43)from neq8 _ 43 (by omega),show qcmp .neq (a.toNat:Int) 45 = !decide (a=45)from neq8 _ 45 (by omega),
         show qcmp .eql (a.toNat:Int) 43=decide (a=43)from eq8 _ 43 (by omega)]
        simp only[qsome_s,qnth_s,List.getD_cons_zero,List.getD_cons_succ,qbool_b,qint_i,qnot_c,qand_c,qiteI_eq,qcmp_gtr,neg0,cond_true,cond_false,Bool.and_self]
        clear hx0 hx1 hi0 hi1 h1 no
        generalize r.getD 0 0=c0
        generalize regV (m.take 2)=g
        generalize numV r=nv
        generalize numB r=nb
        by_cases hm:c0=45
        ·have hT:plT g nb nv a c0=(0,0,3):=by simp[plT,hm]
         rw[hT]
         by_cases ha:a=43<;>by_cases ha2:a=45<;>simp[ha,ha2,hm]
        ·cases nb with
         |false=>
          have hT:plT g false nv a c0=(0,0,3):=by simp[plT]
          rw[hT]
          by_cases ha:a=43<;>by_cases ha2:a=45<;>simp[ha,ha2,hm]
         |true=>
          by_cases ha:a=43
          ·subst ha
           by_cases hv:127<nv
           ·have hT:plT g true nv 43 c0=(0,0,7):=by simp[plT,hm,hv]
            rw[hT]
            cases far<;>simp[hv,hm]
           ·have hT:plT g true nv 43 c0=(g,nv,0):=by simp[plT,hm,hv];omega
            rw[hT]
            cases far<;>simp[hv,hm]
          ·by_cases ha2:a=45
           ·subst ha2
            by_cases hv:128<nv
            ·have hT:plT g true nv 45 c0=(0,0,7):=by simp[plT,hm,hv]
             rw[hT]
             cases far<;>simp[hv,hm]
            ·have hT:plT g true nv 45 c0=(g,qbin .sub .u32 0 nv,0):=by simp[plT,hm,hv]
             rw[hT]
             cases far<;>simp[hv,hm]
           ·have hT:plT g true nv a c0=(0,0,3):=by simp[plT,ha,ha2]
            rw[hT]
            simp[ha,ha2,hm]
end Go.Proofs.YtobhhfbdelnhfaaGreatDoor
namespace Go.Proofs.YtobhhfbdelnhfaaGreatDoor
set_option linter.unusedSimpArgs false
set_option linter.unusedVariables false
open Go Go.AM
def insD (a i o f w c x y z:Int):D:= .agg [.int a, .int i, .int o, .int f, .int w, .int c, .int x, .int y, .int z]
theorem insF (a i o f w c x y z:Int):qint (qfld (insD a i o f w c x y z) 0)=a∧qint (qfld (insD a i o f w c x y z) 1)=i∧qint (qfld (insD a i o f w c x y z) 2)=o∧qint (qfld (insD a i o f w c x y z) 3)=f∧qint (qfld (insD a i o f w c x y z) 4)=w∧
 qint (qfld (insD a i o f w c x y z) 5)=c∧qint (qfld (insD a i o f w c x y z) 6)=x∧qint (qfld (insD a i o f w c x y z) 7)=y∧qint (qfld (insD a i o f w c x y z) 8)=z:=by
 unfold insD
 simp only[qfld_agg,List.getD_cons_zero,List.getD_cons_succ,qint_i,and_self]
theorem insD_eq (a i o f w c x y z:Int):D.agg [.int a, .int i, .int o, .int f, .int w, .int c, .int x, .int y, .int z]=insD a i o f w c x y z:=rfl
def op (ops:List (List UInt8)) (k:Nat):List UInt8:=ops.getD k []
theorem op_at {ops:List (List UInt8)} {k:Nat} (h:k<ops.length):ops[k]? = some (op ops k):=by
 unfold op;simp[List.getD,h]
def Short (ops:List (List UInt8)):Prop:=∀x∈ops,x.length≤1000
theorem op_short {ops:List (List UInt8)} (h:Short ops) {k:Nat} (hk:k<ops.length):(op ops k).length≤1000:=h _ (List.mem_of_getElem? (op_at hk))
noncomputable def nearI (n:Int):Bool:=qcmp .eql (qwrap .u32 (qwrap .i8 n)) n
noncomputable def fm (n:Int) (w:Bool):Int:=if nearI n=true∧w=false then 1 else 2
noncomputable def off (n a:Int):Int:=qbin .sub .u32 (qbin .sub .u32 n a) 2
theorem spec65 {ops:List (List UInt8)} (hs:Short ops) (w:Bool) (cc a:Int):
 ∃I b,q65 [opD ops, .bool false, .bool w, .int cc, .int a, .bool false, .bool false]=some [I, .bool b, .bool true]∧b = !(decide (ops.length=1)&&numB (op ops 0))∧
  (b=false→I=insD 0 (numV (op ops 0)) 20 (fm (off (numV (op ops 0)) a) w) 0 cc 0 0 0):=by
 have h105:=spec105 ops false w true false 1
 have e1:q105 [opD ops, .bool false, .bool w, .bool true, .int 1, .bool false]=some [.bool (decide (ops.length=1) && !false), .bool (false || !decide (ops.length=1))]:=h105
 rw[q65_eq,F65_eq,e1]
 by_cases h:ops.length=1
 ·obtain⟨n,h106,hn⟩:=spec106 (op_at (k:=0) (by omega)) (op_short hs (k:=0) (by omega)) false w true false
  have e2:q106 [opD ops, .bool false, .bool w, .bool true, .int 0, .bool false]=some [.int n, .bool false, .bool (false || !numB (op ops 0))]:=h106
  simp only[h,decide_true,Bool.not_false,Bool.not_true,Bool.and_self,Bool.or_false,Bool.false_or,qsome_s,qnth_s,List.getD_cons_zero,List.getD_cons_succ,qbool_b,qnot_c,cond_true,cond_false,e2,qint_i,Bool.true_and,qiteB_c]
  cases hb:numB (op ops 0)with
  |false=>
   generalize qcmp .eql _ _=g
   cases g<;>cases w<;>exact⟨_,true,rfl,rfl,fun e=>by cases e⟩
  |true=>
   have hn:=hn hb
   subst hn
   have ho:qbin .sub .u32 (qbin .sub .u32 (numV (op ops 0)) a) 2=off (numV (op ops 0)) a:=rfl
   rw[ho]
   have hni:qcmp .eql (qwrap .u32 (qwrap .i8 (off (numV (op ops 0)) a))) (off (numV (op ops 0)) a)=nearI (off (numV (op ops 0)) a):=rfl
   rw[hni]
   unfold fm
   cases hne:nearI (off (numV (op ops 0)) a)<;>cases w<;>simp[insD]
 ·simp only[h,decide_false,Bool.false_and,Bool.not_false,Bool.or_true,Bool.false_or,qsome_s,qnth_s,List.getD_cons_zero,List.getD_cons_succ,qbool_b,qnot_c,cond_true]
  exact⟨_,true,rfl,rfl,fun e=>by cases e⟩
theorem spec66 (ops:List (List UInt8)) (b1 w b3:Bool) (o wd cc:Int):
 ∃I b,q66 [opD ops, .bool b1, .bool w, .bool b3,insD 0 0 o 0 wd cc 0 0 0, .bool false]=some [I, .bool b]∧b = !(decide (ops.length=1)&&regB (op ops 0))∧
  (b=false→I=insD 0 0 o 0 wd cc (regV (op ops 0)) 0 0):=by
 have e1:q105 [opD ops, .bool b1, .bool w, .bool b3, .int 1, .bool false]=some [.bool (decide (ops.length=1) && !false), .bool (false || !decide (ops.length=1))]:=spec105 ops b1 w b3 false 1
 obtain⟨f0,f1,f2,f3,f4,f5,f6,f7,f8⟩:=insF 0 0 o 0 wd cc 0 0 0
 rw[q66_eq,F66_eq,e1]
 by_cases h:ops.length=1
 ·have e2:q107 [opD ops, .bool b1, .bool w, .bool b3, .int 0, .bool false]=some [.int (regV (op ops 0)), .bool (false || !regB (op ops 0))]:=spec107 (op_at (k:=0) (by omega)) b1 w b3 false
  simp only[h,decide_true,Bool.not_false,Bool.not_true,Bool.and_self,Bool.or_false,Bool.false_or,qsome_s,qnth_s,List.getD_cons_zero,List.getD_cons_succ,qbool_b,qnot_c,cond_true,cond_false,e2,qint_i,Bool.true_and,f0,f1,f2,f3,f4,f5,f6,f7,f8]
  exact⟨_,_,rfl,rfl,fun _=>rfl⟩
 ·simp only[h,decide_false,Bool.false_and,Bool.not_false,Bool.or_true,Bool.false_or,qsome_s,qnth_s,List.getD_cons_zero,List.getD_cons_succ,qbool_b,qnot_c,cond_false,cond_true]
  exact⟨_,true,rfl,rfl,fun e=>by cases e⟩
noncomputable def arOk (ops:List (List UInt8)) (w:Bool):Bool:=decide (ops.length=2)&&(regB (op ops 0)&&(bif regB (op ops 1)then !w else numB (op ops 1)))
noncomputable def arI (ops:List (List UInt8)) (w:Bool) (a o z:Int):D:=
 if regB (op ops 1)=true then insD a 0 o 0 0 0 (regV (op ops 0)) (regV (op ops 1)) z else insD a (numV (op ops 1)) o (fm (numV (op ops 1)) w) 0 0 (regV (op ops 0)) 0 z
theorem spec67 {ops:List (List UInt8)} (hs:Short ops) (w:Bool) (o:Int):
 ∃I b t,q67 [opD ops, .bool false, .bool w, .int o, .bool false, .bool false]=some [I, .bool b, .bool t]∧(bif b then true else(bif w then !t else false)) = !arOk ops w∧
  (arOk ops w=true→I=arI ops w 0 o 0):=by
 have e1:q105 [opD ops, .bool false, .bool w, .bool false, .int 2, .bool false]=some [.bool (decide (ops.length=2) && !false), .bool (false || !decide (ops.length=2))]:=spec105 ops false w false false 2
 rw[q67_eq,F67_eq,e1]
 unfold arOk arI
 by_cases h:ops.length=2
 ·have e2:q107 [opD ops, .bool false, .bool w, .bool false, .int 0, .bool false]=some [.int (regV (op ops 0)), .bool (false || !regB (op ops 0))]:=spec107 (op_at (k:=0) (by omega)) false w false false
  obtain⟨g1,g2⟩:=op_get (op_at (ops:=ops) (k:=1) (by omega))
  have g1':qinb (opD ops) 1=true:=g1
  have g2':qstr (qget (opD ops) 1)=bs (op ops 1):=g2
  obtain⟨n,h106,hn⟩:=spec106 (op_at (k:=1) (by omega)) (op_short hs (k:=1) (by omega)) false w true (!regB (op ops 0))
  have e3:q106 [opD ops, .bool false, .bool w, .bool true, .int 1, .bool (!regB (op ops 0))]=some [.int n, .bool false, .bool (!regB (op ops 0) || !numB (op ops 1))]:=h106
  simp only[h,decide_true,Bool.not_false,Bool.not_true,Bool.and_self,Bool.or_false,Bool.false_or,qsome_s,qnth_s,List.getD_cons_zero,List.getD_cons_succ,qbool_b,qnot_c,cond_true,cond_false,e2,qint_i,Bool.true_and,g1',g2',(reg_spec (op ops 1)).1,e3,qiteB_c]
  cases hr:regB (op ops 1)with
  |true=>
   simp only[cond_true,if_true]
   exact⟨_,_,_,rfl,by cases regB (op ops 0)<;>cases w<;>rfl,fun _=>rfl⟩
  |false=>
   simp only[cond_false,Bool.false_eq_true,if_false]
   have hni:qcmp .eql (qwrap .u32 (qwrap .i8 n)) n=nearI n:=rfl
   rw[hni]
   cases hb:numB (op ops 1)with
   |false=>
    cases nearI n<;>cases w<;>exact⟨_,_,_,rfl,by cases regB (op ops 0)<;>rfl,fun e=>by cases hh:regB (op ops 0)<;>rw[hh]at e<;>cases e⟩
   |true=>
    have hn:=hn hb
    subst hn
    unfold fm
    cases hne:nearI (numV (op ops 1))<;>cases w<;>refine⟨_,_,_,rfl,by cases regB (op ops 0)<;>rfl,fun _=>by simp[insD]⟩
 ·simp only[h,decide_false,Bool.false_and,Bool.not_false,Bool.or_true,Bool.false_or,qsome_s,qnth_s,List.getD_cons_zero,List.getD_cons_succ,qbool_b,qnot_c,cond_true]
  exact⟨_,true,_,rfl,rfl,fun e=>by cases e⟩
noncomputable def meR (ops:List (List UInt8)) (st:Bool):List UInt8:=bif st then op ops 1 else op ops 0
noncomputable def meP (ops:List (List UInt8)) (st:Bool):List UInt8:=bif st then op ops 0 else op ops 1
noncomputable def meOk (ops:List (List UInt8)) (st:Bool):Bool:=decide (ops.length=2)&&(regB (meR ops st) && !((plR (meP ops st)).2.2==3))
theorem spec110 {ops:List (List UInt8)} (hs:Short ops) (b1 w st:Bool) (o wd:Int):
 ∃I b f,q110 [opD ops, .bool b1, .bool w,insD 0 0 o 0 wd 0 0 0 0, .bool st, .bool false, .bool false]=some [I, .bool b, .bool f]∧b = !meOk ops st∧
  (meOk ops st=true→f=((plR (meP ops st)).2.2==7))∧(meOk ops st=true→(plR (meP ops st)).2.2=0→I=insD 0 (plR (meP ops st)).2.1 o 0 wd 0 (regV (meR ops st)) (plR (meP ops st)).1 0):=by
 have e1:∀b3,q105 [opD ops, .bool b3, .bool b1, .bool w, .int 2, .bool false]=some [.bool (decide (ops.length=2) && !false), .bool (false || !decide (ops.length=2))]:=fun b3=>spec105 ops b3 b1 w false 2
 obtain⟨f0,f1,f2,f3,f4,f5,f6,f7,f8⟩:=insF 0 0 o 0 wd 0 0 0 0
 rw[q110_eq,F110_eq,e1]
 unfold meOk meR meP
 by_cases h:ops.length=2
 ·cases st with
  |true=>
   obtain⟨x,n,h139,hx⟩:=spec139 (op_at (k:=0) (by omega)) (op_short hs (k:=0) (by omega)) b1 w false false
   have e2:q139 [opD ops, .bool b1, .bool w, .int 0, .bool false, .bool false]=some [.int x, .int n, .bool (false||((plR (op ops 0)).2.2==3)), .bool (false||((plR (op ops 0)).2.2==7))]:=h139
   have e3:∀b3 bad,q107 [opD ops, .bool b3, .bool b1, .bool w, .int 1, .bool bad]=some [.int (regV (op ops 1)), .bool (bad || !regB (op ops 1))]:=fun b3 bad=>spec107 (op_at (k:=1) (by omega)) b3 b1 w bad
   simp only[h,decide_true,Bool.not_false,Bool.not_true,Bool.and_self,Bool.or_false,Bool.false_or,qsome_s,qnth_s,List.getD_cons_zero,List.getD_cons_succ,qbool_b,qnot_c,cond_true,cond_false,e2,e3,qint_i,Bool.true_and,f0,f1,f2,f3,f4,f5,f6,f7,f8]
   refine⟨_,_,_,rfl,by cases regB (op ops 1)<;>cases ((plR (op ops 0)).2.2==3)<;>rfl,fun _=>rfl,fun _ e=> ?_⟩
   obtain⟨rfl,rfl⟩:=hx e
   rfl
  |false=>
   have e3:∀b3 bad,q107 [opD ops, .bool b3, .bool b1, .bool w, .int 0, .bool bad]=some [.int (regV (op ops 0)), .bool (bad || !regB (op ops 0))]:=fun b3 bad=>spec107 (op_at (k:=0) (by omega)) b3 b1 w bad
   obtain⟨x,n,h139,hx⟩:=spec139 (op_at (k:=1) (by omega)) (op_short hs (k:=1) (by omega)) b1 w (!regB (op ops 0)) false
   have e2:q139 [opD ops, .bool b1, .bool w, .int 1, .bool (!regB (op ops 0)), .bool false]=some [.int x, .int n, .bool (!regB (op ops 0)||((plR (op ops 1)).2.2==3)), .bool (false||((plR (op ops 1)).2.2==7))]:=h139
   simp only[h,decide_true,Bool.not_false,Bool.not_true,Bool.and_self,Bool.or_false,Bool.false_or,qsome_s,qnth_s,List.getD_cons_zero,List.getD_cons_succ,qbool_b,qnot_c,cond_true,cond_false,e2,e3,qint_i,Bool.true_and,f0,f1,f2,f3,f4,f5,f6,f7,f8]
   refine⟨_,_,_,rfl,by cases regB (op ops 0)<;>cases ((plR (op ops 1)).2.2==3)<;>rfl,fun _=>rfl,fun _ e=> ?_⟩
   obtain⟨rfl,rfl⟩:=hx e
   rfl
 ·simp only[h,decide_false,Bool.false_and,Bool.not_false,Bool.or_true,Bool.false_or,qsome_s,qnth_s,List.getD_cons_zero,List.getD_cons_succ,qbool_b,qnot_c,cond_true]
  exact⟨_,true,_,rfl,rfl,(fun e=>by cases e),(fun e=>by cases e)⟩
end Go.Proofs.YtobhhfbdelnhfaaGreatDoor
namespace Go.Proofs.YtobhhfbdelnhfaaGreatDoor
set_option linter.unusedSimpArgs false
set_option linter.unusedVariables false
open Go Go.AM
inductive Cls where
 |bare (k:Int)
 |one (o cc:Int)
 |mem (o w:Int) (st:Bool)
 |call
 |jumpt
 |ar (k:Int)
 |jmp (cc:Int)
 |unk
def erD (e:Int):List D:=[insD 0 0 0 0 0 0 0 0 0, .int e]
noncomputable def okD (a i o f w c x y:Int):List D:=[insD a i o f w c x y (lenI (insD a i o f w c x y 0)), .int 0]
noncomputable def OT (c:Cls) (w:Bool) (ops:List (List UInt8)) (a:Int):List D:=
 match c with
 | .bare k=>bif !w&&decide (ops.length=0)then okD a 0 k 0 0 0 0 0 else erD 3
 | .one o cc=>bif !w&&(decide (ops.length=1)&&regB (op ops 0))then okD a 0 o 0 0 cc (regV (op ops 0)) 0 else erD 3
 | .mem o wd st=>bif !w&&meOk ops st then(bif (plR (meP ops st)).2.2==7 then erD 7 else okD a (plR (meP ops st)).2.1 o 0 wd 0 (regV (meR ops st)) (plR (meP ops st)).1)else erD 3
 | .call=>bif !w&&(decide (ops.length=1)&&numB (op ops 0))then okD a (numV (op ops 0)) 23 0 0 0 0 0 else erD 3
 | .jumpt=>bif !w&&(decide (ops.length=2)&&(regB (op ops 0)&&numB (op ops 1)))then okD a (numV (op ops 1)) 22 0 0 0 (regV (op ops 0)) 0 else erD 3
 | .ar k=>bif arOk ops w then[arI ops w a (5+k) (lenI (arI ops w a (5+k) 0)), .int 0]else erD 3
 | .jmp cc=>bif decide (ops.length=1)&&numB (op ops 0)then okD a (numV (op ops 0)) 20 (fm (off (numV (op ops 0)) a) w) 0 cc 0 0 else erD 3
 | .unk=>erD 3
noncomputable def FIN (I:D) (b f w:Bool) (a:Int):List D:=
 bif b||w then erD 3 else bif f then erD 7 else
  [insD a (qint (qfld I 1)) (qint (qfld I 2)) (qint (qfld I 3)) (qint (qfld I 4)) (qint (qfld I 5)) (qint (qfld I 6)) (qint (qfld I 7)) (lenI (insD a (qint (qfld I 1)) (qint (qfld I 2)) (qint (qfld I 3)) (qint (qfld I 4)) (qint (qfld I 5)) (qint (qfld I 6)) (qint (qfld I 7)) (qint (qfld I 8)))), .int 0]
theorem FIN_ins (a i o f w c x y:Int):FIN (insD 0 i o f w c x y 0) false false false a=okD a i o f w c x y:=by
 obtain⟨f0,f1,f2,f3,f4,f5,f6,f7,f8⟩:=insF 0 i o f w c x y 0
 unfold FIN okD
 simp only[f1,f2,f3,f4,f5,f6,f7,f8,Bool.or_self,cond_false]
theorem FIN_bad (I:D) (f w:Bool) (a:Int):FIN I true f w a=erD 3:=by unfold FIN;simp
theorem FIN_wide (I:D) (b f:Bool) (a:Int):FIN I b f true a=erD 3:=by unfold FIN;simp
theorem plE (l:List UInt8):(plR l).2.2=0∨(plR l).2.2=3∨(plR l).2.2=7:=by
 unfold plR
 split
 ·exact .inr (.inl rfl)
 ·split
  ·exact .inr (.inl rfl)
  ·split
   ·exact .inl rfl
   ·unfold plT
    split
    ·exact .inr (.inl rfl)
    ·split
     ·exact .inr (.inr rfl)
     ·exact .inl rfl
def clsO (m:List UInt8):Cls:=
 if m = [110,111,112]then .bare 0
 else if m = [104,97,108,116]then .bare 1
 else if m = [114,101,116]then .bare 2
 else if m = [112,117,115,104]then .one 3 0
 else if m = [112,111,112]then .one 4 0
 else if m = [108,111,97,100,49]then .mem 16 1 false
 else if m = [108,111,97,100,50]then .mem 16 2 false
 else if m = [108,111,97,100,52]then .mem 16 4 false
 else if m = [108,111,97,100,49,115]then .mem 17 1 false
 else if m = [108,111,97,100,50,115]then .mem 17 2 false
 else if m = [115,116,111,114,101,49]then .mem 18 1 true
 else if m = [115,116,111,114,101,50]then .mem 18 2 true
 else if m = [115,116,111,114,101,52]then .mem 18 4 true
 else if m = [108,101,97]then .mem 19 0 false
 else if m = [106,117,109,112,114]then .one 21 0
 else if m = [99,97,108,108,114]then .one 24 0
 else if m = [105,110]then .one 26 0
 else if m = [111,117,116]then .one 27 0
 else if m = [99,97,108,108]then .call
 else if m = [106,117,109,112,116]then .jumpt
 else .unk
theorem fin66 (ops:List (List UInt8)) (b1 w b3:Bool) (o a:Int):
 ∃I b,q66 [opD ops, .bool b1, .bool w, .bool b3,insD 0 0 o 0 0 0 0 0 0, .bool false]=some [I, .bool b]∧FIN I b false w a=OT (.one o 0) w ops a:=by
 obtain⟨I,b,e,hb,hI⟩:=spec66 ops b1 w b3 o 0 0
 refine⟨I,b,e,?_⟩
 simp only[OT]
 cases w with
 |true=>rw[FIN_wide];rfl
 |false=>
  cases hc:(decide (ops.length=1)&&regB (op ops 0))with
  |false=>rw[hc]at hb;subst hb;exact FIN_bad _ _ _ _
  |true=>rw[hc]at hb;subst hb;rw[hI rfl];exact FIN_ins _ _ _ _ _ _ _ _
theorem fin110 {ops:List (List UInt8)} (hs:Short ops) (b1 w st:Bool) (o wd a:Int):
 ∃I b f,q110 [opD ops, .bool b1, .bool w,insD 0 0 o 0 wd 0 0 0 0, .bool st, .bool false, .bool false]=some [I, .bool b, .bool f]∧∀w',FIN I b f w' a=OT (.mem o wd st) w' ops a:=by
 obtain⟨I,b,f,e,hb,hf,hI⟩:=spec110 hs b1 w st o wd
 refine⟨I,b,f,e,fun w'=> ?_⟩
 simp only[OT]
 cases w' with
 |true=>rw[FIN_wide];rfl
 |false=>
  cases hc:meOk ops st with
  |false=>rw[hc]at hb;subst hb;exact FIN_bad _ _ _ _
  |true=>
   rw[hc]at hb
   subst hb
   rw[hf hc]
   rcases plE (meP ops st)with h|h|h
   ·rw[hI hc h,h];exact FIN_ins _ _ _ _ _ _ _ _
   ·exfalso
    unfold meOk at hc
    rw[h]at hc
    simp at hc
   ·rw[h];rfl
theorem fin111 {ops:List (List UInt8)} (hs:Short ops) (b1 w b3:Bool) (m:List UInt8) (a:Int):
 ∃I b,q111 [opD ops, .bool b1, .bool w, .bool b3, .str (bs m), .bool false]=some [I, .bool b]∧∀w',FIN I b false w' a=OT (if m = [99,97,108,108]then .call else if m = [106,117,109,112,116]then .jumpt else .unk) w' ops a:=by
 have e1:∀n:Nat,q105 [opD ops, .bool b1, .bool w, .bool b3, .int n, .bool false]=some [.bool (decide (ops.length=n) && !false), .bool (false || !decide (ops.length=n))]:=fun n=>spec105 ops b1 w b3 false n
 have e11:q105 [opD ops, .bool b1, .bool w, .bool b3, .int 1, .bool false]=some [.bool (decide (ops.length=1) && !false), .bool (false || !decide (ops.length=1))]:=e1 1
 have e12:q105 [opD ops, .bool b1, .bool w, .bool b3, .int 2, .bool false]=some [.bool (decide (ops.length=2) && !false), .bool (false || !decide (ops.length=2))]:=e1 2
 rw[q111_eq,F111_eq]
 simp only[mkB,eq_bs]
 by_cases hc:m = [99,97,108,108]
 ·rw[decide_eq_true hc,if_pos hc,e11]
  by_cases h:ops.length=1
  ·obtain⟨n,h106,hn⟩:=spec106 (op_at (k:=0) (by omega)) (op_short hs (k:=0) (by omega)) b1 w b3 false
   have e2:q106 [opD ops, .bool b1, .bool w, .bool b3, .int 0, .bool false]=some [.int n, .bool false, .bool (false || !numB (op ops 0))]:=h106
   simp only[h,decide_true,Bool.not_false,Bool.not_true,Bool.and_self,Bool.or_false,Bool.false_or,qsome_s,qnth_s,List.getD_cons_zero,List.getD_cons_succ,qbool_b,qnot_c,cond_true,cond_false,e2,qint_i,Bool.true_and,insD_eq]
   refine⟨_,_,rfl,fun w'=> ?_⟩
   simp only[OT]
   cases w' with
   |true=>rw[FIN_wide];rfl
   |false=>
    cases hb:numB (op ops 0)with
    |false=>rw[show(!false:Bool)=true from rfl,FIN_bad];simp[h]
    |true=>rw[hn hb,show(!true:Bool)=false from rfl,FIN_ins];simp[h]
  ·simp only[h,decide_false,Bool.false_and,Bool.not_false,Bool.or_true,Bool.false_or,qsome_s,qnth_s,List.getD_cons_zero,List.getD_cons_succ,qbool_b,qnot_c,cond_true,cond_false]
   refine⟨_,true,rfl,fun w'=> ?_⟩
   rw[FIN_bad];simp only[OT];cases w'<;>simp[h]
 ·rw[decide_eq_false hc,if_neg hc]
  by_cases hj:m = [106,117,109,112,116]
  ·rw[decide_eq_true hj,if_pos hj,e12]
   by_cases h:ops.length=2
   ·have e3:q107 [opD ops, .bool b1, .bool w, .bool b3, .int 0, .bool false]=some [.int (regV (op ops 0)), .bool (false || !regB (op ops 0))]:=spec107 (op_at (k:=0) (by omega)) b1 w b3 false
    obtain⟨n,h106,hn⟩:=spec106 (op_at (k:=1) (by omega)) (op_short hs (k:=1) (by omega)) b1 w b3 (!regB (op ops 0))
    have e2:q106 [opD ops, .bool b1, .bool w, .bool b3, .int 1, .bool (!regB (op ops 0))]=some [.int n, .bool false, .bool (!regB (op ops 0) || !numB (op ops 1))]:=h106
    simp only[h,decide_true,Bool.not_false,Bool.not_true,Bool.and_self,Bool.or_false,Bool.false_or,qsome_s,qnth_s,List.getD_cons_zero,List.getD_cons_succ,qbool_b,qnot_c,cond_true,cond_false,e2,e3,qint_i,Bool.true_and,insD_eq]
    refine⟨_,_,rfl,fun w'=> ?_⟩
    simp only[OT]
    cases w' with
    |true=>rw[FIN_wide];rfl
    |false=>
     cases hb:numB (op ops 1)with
     |false=>rw[show(!regB (op ops 0) || !false:Bool)=true by simp,FIN_bad];simp[h]
     |true=>
      cases hr:regB (op ops 0)with
      |false=>rw[show(!false || !true:Bool)=true from rfl,FIN_bad];simp[h]
      |true=>rw[hn hb,show(!true || !true:Bool)=false from rfl,FIN_ins];simp[h]
   ·simp only[h,decide_false,Bool.false_and,Bool.not_false,Bool.or_true,Bool.false_or,qsome_s,qnth_s,List.getD_cons_zero,List.getD_cons_succ,qbool_b,qnot_c,cond_true,cond_false]
    refine⟨_,true,rfl,fun w'=> ?_⟩
    rw[FIN_bad];simp only[OT];cases w'<;>simp[h]
  ·rw[decide_eq_false hj,if_neg hj]
   simp only[cond_false]
   exact⟨_,true,rfl,fun w'=>by rw[FIN_bad];rfl⟩
theorem fin68 {ops:List (List UInt8)} (hs:Short ops) (w:Bool) (m:List UInt8) (a:Int):
 ∃I b f,q68 [opD ops, .bool w, .bool false, .str (bs m), .bool false, .bool false]=some [I, .bool b, .bool f]∧FIN I b f w a=OT (clsO m) w ops a:=by
 have e0:q105 [opD ops, .bool false, .bool w, .bool false, .int 0, .bool false]=some [.bool (decide (ops.length=0) && !false), .bool (false || !decide (ops.length=0))]:=spec105 ops false w false false 0
 rw[q68_eq,F68_eq]
 simp only[F68_a0,F68_a1,F68_a2,F68_a3,F68_a4,F68_a5,F68_a6,F68_a7,F68_a8,F68_a9,F68_a10,mkB,eq_bs,qiteB_c,insD_eq]
 by_cases h0:m = [110,111,112]
 ·have hcls:clsO m = .bare 0:=by unfold clsO;rw[if_pos h0]
  rw[decide_eq_true h0]
  simp only[cond_true,cond_false]
  subst h0
  have hx:qidxT (bs [110,104,114]) (qsubS (bs [110,111,112]) 0 1)=0:=by
   rw[show qsubS (bs [110,111,112]) 0 1=bs (List.take 1 [110,111,112])from sub_to [110,111,112] 1]
   simp only[qidxT,veil_eq];rfl
  have hl:qcmp .leq 1 (qlenS (bs [110,111,112]))=true:=by rw[len_bs,qcmp_leq];rfl
  rw[e0,hx,hl,show qcmp .leq 0 0=true by rw[qcmp_leq];rfl,show qcmp .leq 0 1=true by rw[qcmp_leq];rfl]
  simp only[qsome_s,qnth_s,List.getD_cons_succ,List.getD_cons_zero,qbool_b,cond_true]
  refine⟨_,_,_,rfl,?_⟩
  rw[hcls];simp only[OT]
  cases w with
   |true=>rw[FIN_wide];rfl
   |false=>
    by_cases h:ops.length=0
    ·simp only[h,decide_true,Bool.not_true,Bool.or_false,Bool.not_false,Bool.and_self,cond_true];exact FIN_ins _ _ _ _ _ _ _ _
    ·simp only[h,decide_false,Bool.not_false,Bool.or_true,Bool.and_false,cond_false];exact FIN_bad _ _ _ _
 by_cases h1:m = [104,97,108,116]
 ·have hcls:clsO m = .bare 1:=by unfold clsO;rw[if_neg h0,if_pos h1]
  rw[decide_eq_false h0,decide_eq_true h1]
  simp only[cond_true,cond_false]
  subst h1
  have hx:qidxT (bs [110,104,114]) (qsubS (bs [104,97,108,116]) 0 1)=1:=by
   rw[show qsubS (bs [104,97,108,116]) 0 1=bs (List.take 1 [104,97,108,116])from sub_to [104,97,108,116] 1]
   simp only[qidxT,veil_eq];rfl
  have hl:qcmp .leq 1 (qlenS (bs [104,97,108,116]))=true:=by rw[len_bs,qcmp_leq];rfl
  rw[e0,hx,hl,show qcmp .leq 0 0=true by rw[qcmp_leq];rfl,show qcmp .leq 0 1=true by rw[qcmp_leq];rfl]
  simp only[qsome_s,qnth_s,List.getD_cons_succ,List.getD_cons_zero,qbool_b,cond_true]
  refine⟨_,_,_,rfl,?_⟩
  rw[hcls];simp only[OT]
  cases w with
   |true=>rw[FIN_wide];rfl
   |false=>
    by_cases h:ops.length=0
    ·simp only[h,decide_true,Bool.not_true,Bool.or_false,Bool.not_false,Bool.and_self,cond_true];exact FIN_ins _ _ _ _ _ _ _ _
    ·simp only[h,decide_false,Bool.not_false,Bool.or_true,Bool.and_false,cond_false];exact FIN_bad _ _ _ _
 by_cases h2:m = [114,101,116]
 ·have hcls:clsO m = .bare 2:=by unfold clsO;rw[if_neg h0,if_neg h1,if_pos h2]
  rw[decide_eq_false h0,decide_eq_false h1,decide_eq_true h2]
  simp only[cond_true,cond_false]
  subst h2
  have hx:qidxT (bs [110,104,114]) (qsubS (bs [114,101,116]) 0 1)=2:=by
   rw[show qsubS (bs [114,101,116]) 0 1=bs (List.take 1 [114,101,116])from sub_to [114,101,116] 1]
   simp only[qidxT,veil_eq];rfl
  have hl:qcmp .leq 1 (qlenS (bs [114,101,116]))=true:=by rw[len_bs,qcmp_leq];rfl
  rw[e0,hx,hl,show qcmp .leq 0 0=true by rw[qcmp_leq];rfl,show qcmp .leq 0 1=true by rw[qcmp_leq];rfl]
  simp only[qsome_s,qnth_s,List.getD_cons_succ,List.getD_cons_zero,qbool_b,cond_true]
  refine⟨_,_,_,rfl,?_⟩
  rw[hcls];simp only[OT]
  cases w with
   |true=>rw[FIN_wide];rfl
   |false=>
    by_cases h:ops.length=0
    ·simp only[h,decide_true,Bool.not_true,Bool.or_false,Bool.not_false,Bool.and_self,cond_true];exact FIN_ins _ _ _ _ _ _ _ _
    ·simp only[h,decide_false,Bool.not_false,Bool.or_true,Bool.and_false,cond_false];exact FIN_bad _ _ _ _
 by_cases h3:m = [112,117,115,104]
 ·have hcls:clsO m = .one 3 0:=by unfold clsO;rw[if_neg h0,if_neg h1,if_neg h2,if_pos h3]
  rw[decide_eq_false h0,decide_eq_false h1,decide_eq_false h2,decide_eq_true h3]
  simp only[cond_true,cond_false]
  obtain⟨I,b,e,hF⟩:=fin66 ops false w false 3 a
  rw[e,hcls]
  simp only[qsome_s,qnth_s,List.getD_cons_succ,List.getD_cons_zero,qbool_b,cond_true]
  exact⟨_,_,_,rfl,hF⟩
 by_cases h4:m = [112,111,112]
 ·have hcls:clsO m = .one 4 0:=by unfold clsO;rw[if_neg h0,if_neg h1,if_neg h2,if_neg h3,if_pos h4]
  rw[decide_eq_false h0,decide_eq_false h1,decide_eq_false h2,decide_eq_false h3,decide_eq_true h4]
  simp only[cond_true,cond_false]
  obtain⟨I,b,e,hF⟩:=fin66 ops false w false 4 a
  rw[e,hcls]
  simp only[qsome_s,qnth_s,List.getD_cons_succ,List.getD_cons_zero,qbool_b,cond_true]
  exact⟨_,_,_,rfl,hF⟩
 by_cases h5:m = [108,111,97,100,49]
 ·have hcls:clsO m = .mem 16 1 false:=by unfold clsO;rw[if_neg h0,if_neg h1,if_neg h2,if_neg h3,if_neg h4,if_pos h5]
  rw[decide_eq_false h0,decide_eq_false h1,decide_eq_false h2,decide_eq_false h3,decide_eq_false h4,decide_eq_true h5]
  simp only[cond_true,cond_false]
  subst h5
  have hw:qwrap .i64 (qbin .sub .u8 (qidxS (bs [108,111,97,100,49]) 4) 48)=1:=by
   rw[show qidxS (bs [108,111,97,100,49]) 4=49 from idx_bs [108,111,97,100,49] 4,qbin_eq,qwrap_eq];rfl
  have hi:qinbS (bs [108,111,97,100,49]) 4=true:=inb_bs (l:=[108,111,97,100,49]) (i:=4) (by decide)
  obtain⟨I,b,f,e,hF⟩:=fin110 hs w false false 16 1 a
  rw[hw,hi,e,hcls]
  simp only[qsome_s,qnth_s,List.getD_cons_succ,List.getD_cons_zero,qbool_b,cond_true]
  exact⟨_,_,_,rfl,hF w⟩
 by_cases h6:m = [108,111,97,100,50]
 ·have hcls:clsO m = .mem 16 2 false:=by unfold clsO;rw[if_neg h0,if_neg h1,if_neg h2,if_neg h3,if_neg h4,if_neg h5,if_pos h6]
  rw[decide_eq_false h0,decide_eq_false h1,decide_eq_false h2,decide_eq_false h3,decide_eq_false h4,decide_eq_false h5,decide_eq_true h6]
  simp only[cond_true,cond_false]
  subst h6
  have hw:qwrap .i64 (qbin .sub .u8 (qidxS (bs [108,111,97,100,50]) 4) 48)=2:=by
   rw[show qidxS (bs [108,111,97,100,50]) 4=50 from idx_bs [108,111,97,100,50] 4,qbin_eq,qwrap_eq];rfl
  have hi:qinbS (bs [108,111,97,100,50]) 4=true:=inb_bs (l:=[108,111,97,100,50]) (i:=4) (by decide)
  obtain⟨I,b,f,e,hF⟩:=fin110 hs w false false 16 2 a
  rw[hw,hi,e,hcls]
  simp only[qsome_s,qnth_s,List.getD_cons_succ,List.getD_cons_zero,qbool_b,cond_true]
  exact⟨_,_,_,rfl,hF w⟩
 by_cases h7:m = [108,111,97,100,52]
 ·have hcls:clsO m = .mem 16 4 false:=by unfold clsO;rw[if_neg h0,if_neg h1,if_neg h2,if_neg h3,if_neg h4,if_neg h5,if_neg h6,if_pos h7]
  rw[decide_eq_false h0,decide_eq_false h1,decide_eq_false h2,decide_eq_false h3,decide_eq_false h4,decide_eq_false h5,decide_eq_false h6,decide_eq_true h7]
  simp only[cond_true,cond_false]
  subst h7
  have hw:qwrap .i64 (qbin .sub .u8 (qidxS (bs [108,111,97,100,52]) 4) 48)=4:=by
   rw[show qidxS (bs [108,111,97,100,52]) 4=52 from idx_bs [108,111,97,100,52] 4,qbin_eq,qwrap_eq];rfl
  have hi:qinbS (bs [108,111,97,100,52]) 4=true:=inb_bs (l:=[108,111,97,100,52]) (i:=4) (by decide)
  obtain⟨I,b,f,e,hF⟩:=fin110 hs w false false 16 4 a
  rw[hw,hi,e,hcls]
  simp only[qsome_s,qnth_s,List.getD_cons_succ,List.getD_cons_zero,qbool_b,cond_true]
  exact⟨_,_,_,rfl,hF w⟩
 by_cases h8:m = [108,111,97,100,49,115]
 ·have hcls:clsO m = .mem 17 1 false:=by unfold clsO;rw[if_neg h0,if_neg h1,if_neg h2,if_neg h3,if_neg h4,if_neg h5,if_neg h6,if_neg h7,if_pos h8]
  rw[decide_eq_false h0,decide_eq_false h1,decide_eq_false h2,decide_eq_false h3,decide_eq_false h4,decide_eq_false h5,decide_eq_false h6,decide_eq_false h7,decide_eq_true h8]
  simp only[cond_true,cond_false]
  subst h8
  have hw:qwrap .i64 (qbin .sub .u8 (qidxS (bs [108,111,97,100,49,115]) 4) 48)=1:=by
   rw[show qidxS (bs [108,111,97,100,49,115]) 4=49 from idx_bs [108,111,97,100,49,115] 4,qbin_eq,qwrap_eq];rfl
  have hi:qinbS (bs [108,111,97,100,49,115]) 4=true:=inb_bs (l:=[108,111,97,100,49,115]) (i:=4) (by decide)
  obtain⟨I,b,f,e,hF⟩:=fin110 hs w false false 17 1 a
  rw[hw,hi,e,hcls]
  simp only[qsome_s,qnth_s,List.getD_cons_succ,List.getD_cons_zero,qbool_b,cond_true]
  exact⟨_,_,_,rfl,hF w⟩
 by_cases h9:m = [108,111,97,100,50,115]
 ·have hcls:clsO m = .mem 17 2 false:=by unfold clsO;rw[if_neg h0,if_neg h1,if_neg h2,if_neg h3,if_neg h4,if_neg h5,if_neg h6,if_neg h7,if_neg h8,if_pos h9]
  rw[decide_eq_false h0,decide_eq_false h1,decide_eq_false h2,decide_eq_false h3,decide_eq_false h4,decide_eq_false h5,decide_eq_false h6,decide_eq_false h7,decide_eq_false h8,decide_eq_true h9]
  simp only[cond_true,cond_false]
  subst h9
  have hw:qwrap .i64 (qbin .sub .u8 (qidxS (bs [108,111,97,100,50,115]) 4) 48)=2:=by
   rw[show qidxS (bs [108,111,97,100,50,115]) 4=50 from idx_bs [108,111,97,100,50,115] 4,qbin_eq,qwrap_eq];rfl
  have hi:qinbS (bs [108,111,97,100,50,115]) 4=true:=inb_bs (l:=[108,111,97,100,50,115]) (i:=4) (by decide)
  obtain⟨I,b,f,e,hF⟩:=fin110 hs w false false 17 2 a
  rw[hw,hi,e,hcls]
  simp only[qsome_s,qnth_s,List.getD_cons_succ,List.getD_cons_zero,qbool_b,cond_true]
  exact⟨_,_,_,rfl,hF w⟩
 by_cases h10:m = [115,116,111,114,101,49]
 ·have hcls:clsO m = .mem 18 1 true:=by unfold clsO;rw[if_neg h0,if_neg h1,if_neg h2,if_neg h3,if_neg h4,if_neg h5,if_neg h6,if_neg h7,if_neg h8,if_neg h9,if_pos h10]
  rw[decide_eq_false h0,decide_eq_false h1,decide_eq_false h2,decide_eq_false h3,decide_eq_false h4,decide_eq_false h5,decide_eq_false h6,decide_eq_false h7,decide_eq_false h8,decide_eq_false h9,decide_eq_true h10]
  simp only[cond_true,cond_false]
  subst h10
  have hw:qwrap .i64 (qbin .sub .u8 (qidxS (bs [115,116,111,114,101,49]) 5) 48)=1:=by
   rw[show qidxS (bs [115,116,111,114,101,49]) 5=49 from idx_bs [115,116,111,114,101,49] 5,qbin_eq,qwrap_eq];rfl
  have hi:qinbS (bs [115,116,111,114,101,49]) 5=true:=inb_bs (l:=[115,116,111,114,101,49]) (i:=5) (by decide)
  obtain⟨I,b,f,e,hF⟩:=fin110 hs w false true 18 1 a
  rw[hw,hi,e,hcls]
  simp only[qsome_s,qnth_s,List.getD_cons_succ,List.getD_cons_zero,qbool_b,cond_true]
  exact⟨_,_,_,rfl,hF w⟩
 by_cases h11:m = [115,116,111,114,101,50]
 ·have hcls:clsO m = .mem 18 2 true:=by unfold clsO;rw[if_neg h0,if_neg h1,if_neg h2,if_neg h3,if_neg h4,if_neg h5,if_neg h6,if_neg h7,if_neg h8,if_neg h9,if_neg h10,if_pos h11]
  rw[decide_eq_false h0,decide_eq_false h1,decide_eq_false h2,decide_eq_false h3,decide_eq_false h4,decide_eq_false h5,decide_eq_false h6,decide_eq_false h7,decide_eq_false h8,decide_eq_false h9,decide_eq_false h10,decide_eq_true h11]
  simp only[cond_true,cond_false]
  subst h11
  have hw:qwrap .i64 (qbin .sub .u8 (qidxS (bs [115,116,111,114,101,50]) 5) 48)=2:=by
   rw[show qidxS (bs [115,116,111,114,101,50]) 5=50 from idx_bs [115,116,111,114,101,50] 5,qbin_eq,qwrap_eq];rfl
  have hi:qinbS (bs [115,116,111,114,101,50]) 5=true:=inb_bs (l:=[115,116,111,114,101,50]) (i:=5) (by decide)
  obtain⟨I,b,f,e,hF⟩:=fin110 hs w false true 18 2 a
  rw[hw,hi,e,hcls]
  simp only[qsome_s,qnth_s,List.getD_cons_succ,List.getD_cons_zero,qbool_b,cond_true]
  exact⟨_,_,_,rfl,hF w⟩
 by_cases h12:m = [115,116,111,114,101,52]
 ·have hcls:clsO m = .mem 18 4 true:=by unfold clsO;rw[if_neg h0,if_neg h1,if_neg h2,if_neg h3,if_neg h4,if_neg h5,if_neg h6,if_neg h7,if_neg h8,if_neg h9,if_neg h10,if_neg h11,if_pos h12]
  rw[decide_eq_false h0,decide_eq_false h1,decide_eq_false h2,decide_eq_false h3,decide_eq_false h4,decide_eq_false h5,decide_eq_false h6,decide_eq_false h7,decide_eq_false h8,decide_eq_false h9,decide_eq_false h10,decide_eq_false h11,decide_eq_true h12]
  simp only[cond_true,cond_false]
  subst h12
  have hw:qwrap .i64 (qbin .sub .u8 (qidxS (bs [115,116,111,114,101,52]) 5) 48)=4:=by
   rw[show qidxS (bs [115,116,111,114,101,52]) 5=52 from idx_bs [115,116,111,114,101,52] 5,qbin_eq,qwrap_eq];rfl
  have hi:qinbS (bs [115,116,111,114,101,52]) 5=true:=inb_bs (l:=[115,116,111,114,101,52]) (i:=5) (by decide)
  obtain⟨I,b,f,e,hF⟩:=fin110 hs w false true 18 4 a
  rw[hw,hi,e,hcls]
  simp only[qsome_s,qnth_s,List.getD_cons_succ,List.getD_cons_zero,qbool_b,cond_true]
  exact⟨_,_,_,rfl,hF w⟩
 by_cases h13:m = [108,101,97]
 ·have hcls:clsO m = .mem 19 0 false:=by unfold clsO;rw[if_neg h0,if_neg h1,if_neg h2,if_neg h3,if_neg h4,if_neg h5,if_neg h6,if_neg h7,if_neg h8,if_neg h9,if_neg h10,if_neg h11,if_neg h12,if_pos h13]
  rw[decide_eq_false h0,decide_eq_false h1,decide_eq_false h2,decide_eq_false h3,decide_eq_false h4,decide_eq_false h5,decide_eq_false h6,decide_eq_false h7,decide_eq_false h8,decide_eq_false h9,decide_eq_false h10,decide_eq_false h11,decide_eq_false h12,decide_eq_true h13]
  simp only[cond_true,cond_false]
  subst h13
  obtain⟨I,b,f,e,hF⟩:=fin110 hs w false false 19 0 a
  rw[e,hcls]
  simp only[qsome_s,qnth_s,List.getD_cons_succ,List.getD_cons_zero,qbool_b,cond_true]
  exact⟨_,_,_,rfl,hF w⟩
 by_cases h14:m = [106,117,109,112,114]
 ·have hcls:clsO m = .one 21 0:=by unfold clsO;rw[if_neg h0,if_neg h1,if_neg h2,if_neg h3,if_neg h4,if_neg h5,if_neg h6,if_neg h7,if_neg h8,if_neg h9,if_neg h10,if_neg h11,if_neg h12,if_neg h13,if_pos h14]
  rw[decide_eq_false h0,decide_eq_false h1,decide_eq_false h2,decide_eq_false h3,decide_eq_false h4,decide_eq_false h5,decide_eq_false h6,decide_eq_false h7,decide_eq_false h8,decide_eq_false h9,decide_eq_false h10,decide_eq_false h11,decide_eq_false h12,decide_eq_false h13,decide_eq_true h14]
  simp only[cond_true,cond_false]
  obtain⟨I,b,e,hF⟩:=fin66 ops false w false 21 a
  rw[e,hcls]
  simp only[qsome_s,qnth_s,List.getD_cons_succ,List.getD_cons_zero,qbool_b,cond_true]
  exact⟨_,_,_,rfl,hF⟩
 by_cases h15:m = [99,97,108,108,114]
 ·have hcls:clsO m = .one 24 0:=by unfold clsO;rw[if_neg h0,if_neg h1,if_neg h2,if_neg h3,if_neg h4,if_neg h5,if_neg h6,if_neg h7,if_neg h8,if_neg h9,if_neg h10,if_neg h11,if_neg h12,if_neg h13,if_neg h14,if_pos h15]
  rw[decide_eq_false h0,decide_eq_false h1,decide_eq_false h2,decide_eq_false h3,decide_eq_false h4,decide_eq_false h5,decide_eq_false h6,decide_eq_false h7,decide_eq_false h8,decide_eq_false h9,decide_eq_false h10,decide_eq_false h11,decide_eq_false h12,decide_eq_false h13,decide_eq_false h14,decide_eq_true h15]
  simp only[cond_true,cond_false]
  obtain⟨I,b,e,hF⟩:=fin66 ops false w false 24 a
  rw[e,hcls]
  simp only[qsome_s,qnth_s,List.getD_cons_succ,List.getD_cons_zero,qbool_b,cond_true]
  exact⟨_,_,_,rfl,hF⟩
 by_cases h16:m = [105,110]
 ·have hcls:clsO m = .one 26 0:=by unfold clsO;rw[if_neg h0,if_neg h1,if_neg h2,if_neg h3,if_neg h4,if_neg h5,if_neg h6,if_neg h7,if_neg h8,if_neg h9,if_neg h10,if_neg h11,if_neg h12,if_neg h13,if_neg h14,if_neg h15,if_pos h16]
  rw[decide_eq_false h0,decide_eq_false h1,decide_eq_false h2,decide_eq_false h3,decide_eq_false h4,decide_eq_false h5,decide_eq_false h6,decide_eq_false h7,decide_eq_false h8,decide_eq_false h9,decide_eq_false h10,decide_eq_false h11,decide_eq_false h12,decide_eq_false h13,decide_eq_false h14,decide_eq_false h15,decide_eq_true h16]
  simp only[cond_true,cond_false]
  obtain⟨I,b,e,hF⟩:=fin66 ops false w false 26 a
  rw[e,hcls]
  simp only[qsome_s,qnth_s,List.getD_cons_succ,List.getD_cons_zero,qbool_b,cond_true]
  exact⟨_,_,_,rfl,hF⟩
 by_cases h17:m = [111,117,116]
 ·have hcls:clsO m = .one 27 0:=by unfold clsO;rw[if_neg h0,if_neg h1,if_neg h2,if_neg h3,if_neg h4,if_neg h5,if_neg h6,if_neg h7,if_neg h8,if_neg h9,if_neg h10,if_neg h11,if_neg h12,if_neg h13,if_neg h14,if_neg h15,if_neg h16,if_pos h17]
  rw[decide_eq_false h0,decide_eq_false h1,decide_eq_false h2,decide_eq_false h3,decide_eq_false h4,decide_eq_false h5,decide_eq_false h6,decide_eq_false h7,decide_eq_false h8,decide_eq_false h9,decide_eq_false h10,decide_eq_false h11,decide_eq_false h12,decide_eq_false h13,decide_eq_false h14,decide_eq_false h15,decide_eq_false h16,decide_eq_true h17]
  simp only[cond_true,cond_false]
  obtain⟨I,b,e,hF⟩:=fin66 ops false w false 27 a
  rw[e,hcls]
  simp only[qsome_s,qnth_s,List.getD_cons_succ,List.getD_cons_zero,qbool_b,cond_true]
  exact⟨_,_,_,rfl,hF⟩
 rw[decide_eq_false h0,decide_eq_false h1,decide_eq_false h2,decide_eq_false h3,decide_eq_false h4,decide_eq_false h5,decide_eq_false h6,decide_eq_false h7,decide_eq_false h8,decide_eq_false h9,decide_eq_false h10,decide_eq_false h11,decide_eq_false h12,decide_eq_false h13,decide_eq_false h14,decide_eq_false h15,decide_eq_false h16,decide_eq_false h17]
 simp only[cond_false]
 obtain⟨I,b,e,hF⟩:=fin111 hs false w false m a
 have hcls:clsO m=if m = [99,97,108,108]then .call else if m = [106,117,109,112,116]then .jumpt else .unk:=by
  unfold clsO;rw[if_neg h0,if_neg h1,if_neg h2,if_neg h3,if_neg h4,if_neg h5,if_neg h6,if_neg h7,if_neg h8,if_neg h9,if_neg h10,if_neg h11,if_neg h12,if_neg h13,if_neg h14,if_neg h15,if_neg h16,if_neg h17]
 rw[e,hcls]
 simp only[qsome_s,qnth_s,List.getD_cons_succ,List.getD_cons_zero,qbool_b,cond_true]
 exact⟨_,_,_,rfl,hF w⟩
end Go.Proofs.YtobhhfbdelnhfaaGreatDoor
namespace Go.Proofs.YtobhhfbdelnhfaaGreatDoor
set_option linter.unusedSimpArgs false
set_option linter.unusedVariables false
open Go Go.AM
theorem fin65 {ops:List (List UInt8)} (hs:Short ops) (w:Bool) (cc a:Int):
 ∃I b,q65 [opD ops, .bool false, .bool w, .int cc, .int a, .bool false, .bool false]=some [I, .bool b, .bool true]∧FIN I b false false a=OT (.jmp cc) w ops a:=by
 obtain⟨I,b,e,hb,hI⟩:=spec65 hs w cc a
 refine⟨I,b,e,?_⟩
 simp only[OT]
 cases hc:(decide (ops.length=1)&&numB (op ops 0))with
 |false=>rw[hc]at hb;subst hb;exact FIN_bad _ _ _ _
 |true=>rw[hc]at hb;subst hb;rw[hI rfl];exact FIN_ins _ _ _ _ _ _ _ _
theorem fin67 {ops:List (List UInt8)} (hs:Short ops) (w:Bool) (k a:Int):
 ∃I b t,q67 [opD ops, .bool false, .bool w, .int (5+k), .bool false, .bool false]=some [I, .bool b, .bool t]∧FIN I (bif b then true else(bif w then !t else false)) false false a=OT (.ar k) w ops a:=by
 obtain⟨I,b,t,e,hb,hI⟩:=spec67 hs w (5+k)
 refine⟨I,b,t,e,?_⟩
 rw[hb]
 simp only[OT]
 cases hc:arOk ops w with
 |false=>exact FIN_bad _ _ _ _
 |true=>
  rw[hI hc]
  unfold arI
  split
  ·exact FIN_ins _ _ _ _ _ _ _ _
  ·exact FIN_ins _ _ _ _ _ _ _ _
theorem fin66s (ops:List (List UInt8)) (b1 w b3:Bool) (cc a:Int):
 ∃I b,q66 [opD ops, .bool b1, .bool w, .bool b3,insD 0 0 25 0 0 cc 0 0 0, .bool false]=some [I, .bool b]∧FIN I b false w a=OT (.one 25 cc) w ops a:=by
 obtain⟨I,b,e,hb,hI⟩:=spec66 ops b1 w b3 25 0 cc
 refine⟨I,b,e,?_⟩
 simp only[OT]
 cases w with
 |true=>rw[FIN_wide];rfl
 |false=>
  cases hc:(decide (ops.length=1)&&regB (op ops 0))with
  |false=>rw[hc]at hb;subst hb;exact FIN_bad _ _ _ _
  |true=>rw[hc]at hb;subst hb;rw[hI rfl];exact FIN_ins _ _ _ _ _ _ _ _
def cls (m:List UInt8):Cls:=
 if m = [106,109,112]then .jmp 0
 else if List.isPrefixOf [106] m=true∧0<ix ccL (m.drop 1)then .jmp (ix ccL (m.drop 1))
 else if List.isPrefixOf [115,101,116] m=true then(if ix ccL (m.drop 3)<0 then .unk else .one 25 (ix ccL (m.drop 3)))
 else if 0≤ix opL m then .ar (ix opL m)
 else clsO m
theorem partsF_short:∀(n:Nat) (l:List UInt8),∀x∈partsF n l,x.length≤l.length
 |0,l,x,h=>by simp[partsF]at h;rw[h];exact Nat.le_refl _
 |n+1,l,x,h=>by
  unfold partsF at h
  cases hc:comma l with
  |none=>rw[hc]at h;simp at h;rw[h];exact Nat.le_refl _
  |some k=>
   rw[hc]at h
   simp only[List.mem_cons]at h
   rcases h with rfl|h
   ·simp;omega
   ·have:=partsF_short n _ x h
    simp at this;omega
theorem opsL_short {l:List UInt8} (hz:l.length≤1000):Short (opsL l):=by
 intro x hx
 unfold opsL at hx
 split at hx
 ·have:=partsF_short _ _ x hx
  simp at this;omega
 ·cases hx
def wide (l:List UInt8):Bool:=sfx [46,119] (headL l)
def word (l:List UInt8):List UInt8:=bif wide l then(headL l).take ((headL l).length-2)else headL l
theorem FIN_69 (I:D) (a:Int) (h69:∀d,q69 [d]=some [.int (lenI d)]):(bif qsome (q69 [insD a (qint (qfld I 1)) (qint (qfld I 2)) (qint (qfld I 3)) (qint (qfld I 4)) (qint (qfld I 5)) (qint (qfld I 6)) (qint (qfld I 7)) (qint (qfld I 8))])then some [insD a (qint (qfld I 1)) (qint (qfld I 2)) (qint (qfld I 3)) (qint (qfld I 4)) (qint (qfld I 5)) (qint (qfld I 6)) (qint (qfld I 7)) (qint (qnth (q69 [insD a (qint (qfld I 1)) (qint (qfld I 2)) (qint (qfld I 3)) (qint (qfld I 4)) (qint (qfld I 5)) (qint (qfld I 6)) (qint (qfld I 7)) (qint (qfld I 8))]) 0)), .int 0]else none)=some (FIN I false false false a):=by
 rw[h69]
 unfold FIN
 simp only[qsome_s,qnth_s,List.getD_cons_zero,qint_i,cond_true,cond_false,Bool.or_self]
theorem FIN_run0 (I:D) (b:Bool) (a:Int) (h69:∀d,q69 [d]=some [.int (lenI d)]):(bif b then some (erD 3)else(bif qsome (q69 [insD a (qint (qfld I 1)) (qint (qfld I 2)) (qint (qfld I 3)) (qint (qfld I 4)) (qint (qfld I 5)) (qint (qfld I 6)) (qint (qfld I 7)) (qint (qfld I 8))])then some [insD a (qint (qfld I 1)) (qint (qfld I 2)) (qint (qfld I 3)) (qint (qfld I 4)) (qint (qfld I 5)) (qint (qfld I 6)) (qint (qfld I 7)) (qint (qnth (q69 [insD a (qint (qfld I 1)) (qint (qfld I 2)) (qint (qfld I 3)) (qint (qfld I 4)) (qint (qfld I 5)) (qint (qfld I 6)) (qint (qfld I 7)) (qint (qfld I 8))]) 0)), .int 0]else none))=some (FIN I b false false a):=by
 cases b with
 |true=>rw[FIN_bad];rfl
 |false=>exact FIN_69 I a h69
theorem FIN_run1 (I:D) (b w:Bool) (a:Int) (h69:∀d,q69 [d]=some [.int (lenI d)]):(bif b then some (erD 3)else(bif w then some (erD 3)else(bif qsome (q69 [insD a (qint (qfld I 1)) (qint (qfld I 2)) (qint (qfld I 3)) (qint (qfld I 4)) (qint (qfld I 5)) (qint (qfld I 6)) (qint (qfld I 7)) (qint (qfld I 8))])then some [insD a (qint (qfld I 1)) (qint (qfld I 2)) (qint (qfld I 3)) (qint (qfld I 4)) (qint (qfld I 5)) (qint (qfld I 6)) (qint (qfld I 7)) (qint (qnth (q69 [insD a (qint (qfld I 1)) (qint (qfld I 2)) (qint (qfld I 3)) (qint (qfld I 4)) (qint (qfld I 5)) (qint (qfld I 6)) (qint (qfld I 7)) (qint (qfld I 8))]) 0)), .int 0]else none)))=some (FIN I b false w a):=by
 cases b with
 |true=>rw[FIN_bad];rfl
 |false=>
  cases w with
  |true=>rw[FIN_wide];rfl
  |false=>exact FIN_69 I a h69
theorem FIN_run2 (I:D) (b f w:Bool) (a:Int) (h69:∀d,q69 [d]=some [.int (lenI d)]):(bif (bif b then true else w)then some (erD 3)else(bif f then some (erD 7)else(bif qsome (q69 [insD a (qint (qfld I 1)) (qint (qfld I 2)) (qint (qfld I 3)) (qint (qfld I 4)) (qint (qfld I 5)) (qint (qfld I 6)) (qint (qfld I 7)) (qint (qfld I 8))])then some [insD a (qint (qfld I 1)) (qint (qfld I 2)) (qint (qfld I 3)) (qint (qfld I 4)) (qint (qfld I 5)) (qint (qfld I 6)) (qint (qfld I 7)) (qint (qnth (q69 [insD a (qint (qfld I 1)) (qint (qfld I 2)) (qint (qfld I 3)) (qint (qfld I 4)) (qint (qfld I 5)) (qint (qfld I 6)) (qint (qfld I 7)) (qint (qfld I 8))]) 0)), .int 0]else none)))=some (FIN I b f w a):=by
 cases b with
 |true=>rw[FIN_bad];rfl
 |false=>
  cases w with
  |true=>rw[FIN_wide];rfl
  |false=>
   cases f with
   |true=>rfl
   |false=>exact FIN_69 I a h69
theorem text37 (l:List UInt8) (hz:l.length≤1000) (a:Int):q37 [.str (bs l), .int a]=some (OT (cls (word l)) (wide l) (opsL l) a):=by
 have h69:∀d,q69 [d]=some [.int (lenI d)]:=fun d=>(valid_spec d).2.2.1
 have hs:=opsL_short hz
 have hhl:(headL l).length≤1000:=by unfold headL;simp;omega
 have e62:q62 [.str (bs (headL l)), .str (bs [46,119])]=some [.str (bs (word l)), .bool (wide l)]:=suf62 (headL l) [46,119] (by omega)
 rw[q37_eq,F37_eq]
 have hlt:qcmp .lss (qlenS (bs l)) 4294967281=true:=by rw[len_bs,qcmp_lss];exact decide_eq_true (by omega)
 have hbig:∀x:List UInt8,x.length≤1000→qcmp .lss (qlenS (bs x)) 4294967281=true:=fun x hx=>by rw[len_bs,qcmp_lss];exact decide_eq_true (by omega)
 have hA:qcutA (bs l) (bs [32])=bs (headL l):=cutA l
 have hzero:D.agg [.int 0, .int 0, .int 0, .int 0, .int 0, .int 0, .int 0, .int 0, .int 0]=insD 0 0 0 0 0 0 0 0 0:=rfl
 have w0:(bif wide l then(false:Bool)else false)=false:=by cases wide l<;>rfl
 have w1:(bif wide l then(true:Bool)else false)=wide l:=by cases wide l<;>rfl
 have hmm:∀k:Int,qmm .gtr k 0=if k<0 then 0 else k:=fun k=>by rw[qmm,veil_eq];rfl
 simp only[F37_a0,F37_a1,F37_a2,F37_a3,F37_a4,F37_a5,F37_a6,F37_a7,F37_a8,F37_a9,F37_a10,F37_a11,F37_a12,F37_a13,F37_a14,F37_a15,F37_a16,F37_a17,F37_a18,F37_a19,F37_a20,F37_a21,mkB]
 rw[hlt,cutOk]
 by_cases sp:blank l<l.length
 ·have ho:qsplit (qcutB (bs l) (bs [32])) (bs [44,32])=opD (opsL l):=by rw[cutB sp,splitQ];unfold opsL;rw[if_pos sp]
  have hb:qcmp .lss (qlenS (qcutB (bs l) (bs [32]))) 4294967281=true:=by rw[cutB sp];exact hbig _ (by simp;omega)
  rw[decide_eq_true sp,ho,hb]
  simp only[cond_true,cond_false,hA,e62,pre59,spec63c,spec63o,qsome_s,qnth_s,List.getD_cons_zero,List.getD_cons_succ,qbool_b,qstr_s,qint_i,eq_bs,insD_eq,qiteB_c,qiteI_eq,qnot_c,Bool.not_true,Bool.not_false,List.length_cons,List.length_nil,Nat.zero_add,Nat.reduceAdd]
  have p0:(bif List.isPrefixOf [106] (word l)then true else true)=true:=by cases List.isPrefixOf [106] (word l)<;>rfl
  rw[p0]
  simp only[cond_true]
  by_cases h1:word l = [106,109,112]
  ·obtain⟨I,b,e,hF⟩:=fin65 hs (wide l) 0 a
   have hc:cls (word l) = .jmp 0:=by unfold cls;rw[if_pos h1]
   rw[decide_eq_true h1,hc, ← hF]
   simp only[e,qsome_s,qnth_s,List.getD_cons_zero,List.getD_cons_succ,qbool_b,cond_true,Bool.not_true,w0]
   have hbb:(bif b then true else false)=b:=by cases b<;>rfl
   rw[hbb]
   exact FIN_run0 I b a h69
  ·rw[decide_eq_false h1]
   simp only[cond_false]
   by_cases h2:List.isPrefixOf [106] (word l)=true∧0<ix ccL ((word l).drop 1)
   ·obtain⟨I,b,e,hF⟩:=fin65 hs (wide l) (ix ccL ((word l).drop 1)) a
    have hc:cls (word l) = .jmp (ix ccL ((word l).drop 1)):=by unfold cls;rw[if_neg h1,if_pos h2]
    rw[h2.1,hc, ← hF]
    simp only[cond_true]
    rw[show qcmp .gtr (ix ccL ((word l).drop 1)) 0=true by rw[qcmp_gtr];exact decide_eq_true h2.2]
    simp only[e,qsome_s,qnth_s,List.getD_cons_zero,List.getD_cons_succ,qbool_b,cond_true,Bool.not_true,w0]
    have hbb:(bif b then true else false)=b:=by cases b<;>rfl
    rw[hbb]
    exact FIN_run0 I b a h69
   ·have hg:qcmp .gtr (bif List.isPrefixOf [106] (word l)then ix ccL (bif List.isPrefixOf [106] (word l)then(word l).drop 1 else word l)else -1) 0=false:=by
     rw[qcmp_gtr]
     cases hp:List.isPrefixOf [106] (word l)with
     |false=>rfl
     |true=>exact decide_eq_false fun hx=>h2 ⟨hp,hx⟩
    rw[hg]
    simp only[cond_false]
    cases hps:List.isPrefixOf [115,101,116] (word l)with
    |true=>
     simp only[cond_true]
     rw[hmm,qcmp_lss]
     by_cases hx:ix ccL ((word l).drop 3)<0
     ·have hc:cls (word l) = .unk:=by unfold cls;rw[if_neg h1,if_neg h2,if_pos hps,if_pos hx]
      obtain⟨I,b,e,hF⟩:=fin66s (opsL l) false (wide l) false 0 a
      rw[decide_eq_true hx,if_pos hx,hc]
      simp only[e,qsome_s,qnth_s,List.getD_cons_zero,List.getD_cons_succ,qbool_b,cond_true]
      cases b<;>rfl
     ·have hc:cls (word l) = .one 25 (ix ccL ((word l).drop 3)):=by unfold cls;rw[if_neg h1,if_neg h2,if_pos hps,if_neg hx]
      obtain⟨I,b,e,hF⟩:=fin66s (opsL l) false (wide l) false (ix ccL ((word l).drop 3)) a
      rw[decide_eq_false hx,if_neg hx,hc, ← hF]
      simp only[e,qsome_s,qnth_s,List.getD_cons_zero,List.getD_cons_succ,qbool_b,cond_true,cond_false,w1]
      exact FIN_run1 I b (wide l) a h69
    |false=>
     simp only[cond_false]
     by_cases hx:0≤ix opL (word l)
     ·have hc:cls (word l) = .ar (ix opL (word l)):=by unfold cls;rw[if_neg h1,if_neg h2,if_neg (by rw[hps];simp),if_pos hx]
      obtain⟨I,b,t,e,hF⟩:=fin67 hs (wide l) (ix opL (word l)) a
      have e5:qbin .add .i64 5 (ix opL (word l))=5+ix opL (word l):=by
       rw[qbin_eq];simp only[rbin]
       rcases ix_range opL (word l)with h|⟨k,hk,_,h⟩
       ·omega
       ·have:opL.length=11:=rfl
        exact wrap64' (by omega) (by omega)
      rw[show qcmp .geq (ix opL (word l)) 0=true by rw[qcmp_geq];exact decide_eq_true hx,e5,hc, ← hF]
      simp only[e,qsome_s,qnth_s,List.getD_cons_zero,List.getD_cons_succ,qbool_b,cond_true]
      exact FIN_run0 I _ a h69
     ·have hc:cls (word l)=clsO (word l):=by unfold cls;rw[if_neg h1,if_neg h2,if_neg (by rw[hps];simp),if_neg hx]
      obtain⟨I,b,f,e,hF⟩:=fin68 hs (wide l) (word l) a
      rw[show qcmp .geq (ix opL (word l)) 0=false by rw[qcmp_geq];exact decide_eq_false hx,hc, ← hF]
      simp only[e,qsome_s,qnth_s,List.getD_cons_zero,List.getD_cons_succ,qbool_b,cond_true,cond_false,w1]
      exact FIN_run2 I b f (wide l) a h69
 ·have ho:D.list []=opD (opsL l):=by unfold opsL;rw[if_neg sp];rfl
  rw[decide_eq_false sp,ho]
  simp only[cond_true,cond_false,hA,e62,pre59,spec63c,spec63o,qsome_s,qnth_s,List.getD_cons_zero,List.getD_cons_succ,qbool_b,qstr_s,qint_i,eq_bs,insD_eq,qiteB_c,qiteI_eq,qnot_c,Bool.not_true,Bool.not_false,List.length_cons,List.length_nil,Nat.zero_add,Nat.reduceAdd]
  have p0:(bif List.isPrefixOf [106] (word l)then true else true)=true:=by cases List.isPrefixOf [106] (word l)<;>rfl
  rw[p0]
  simp only[cond_true]
  by_cases h1:word l = [106,109,112]
  ·obtain⟨I,b,e,hF⟩:=fin65 hs (wide l) 0 a
   have hc:cls (word l) = .jmp 0:=by unfold cls;rw[if_pos h1]
   rw[decide_eq_true h1,hc, ← hF]
   simp only[e,qsome_s,qnth_s,List.getD_cons_zero,List.getD_cons_succ,qbool_b,cond_true,Bool.not_true,w0]
   have hbb:(bif b then true else false)=b:=by cases b<;>rfl
   rw[hbb]
   exact FIN_run0 I b a h69
  ·rw[decide_eq_false h1]
   simp only[cond_false]
   by_cases h2:List.isPrefixOf [106] (word l)=true∧0<ix ccL ((word l).drop 1)
   ·obtain⟨I,b,e,hF⟩:=fin65 hs (wide l) (ix ccL ((word l).drop 1)) a
    have hc:cls (word l) = .jmp (ix ccL ((word l).drop 1)):=by unfold cls;rw[if_neg h1,if_pos h2]
    rw[h2.1,hc, ← hF]
    simp only[cond_true]
    rw[show qcmp .gtr (ix ccL ((word l).drop 1)) 0=true by rw[qcmp_gtr];exact decide_eq_true h2.2]
    simp only[e,qsome_s,qnth_s,List.getD_cons_zero,List.getD_cons_succ,qbool_b,cond_true,Bool.not_true,w0]
    have hbb:(bif b then true else false)=b:=by cases b<;>rfl
    rw[hbb]
    exact FIN_run0 I b a h69
   ·have hg:qcmp .gtr (bif List.isPrefixOf [106] (word l)then ix ccL (bif List.isPrefixOf [106] (word l)then(word l).drop 1 else word l)else -1) 0=false:=by
     rw[qcmp_gtr]
     cases hp:List.isPrefixOf [106] (word l)with
     |false=>rfl
     |true=>exact decide_eq_false fun hx=>h2 ⟨hp,hx⟩
    rw[hg]
    simp only[cond_false]
    cases hps:List.isPrefixOf [115,101,116] (word l)with
    |true=>
     simp only[cond_true]
     rw[hmm,qcmp_lss]
     by_cases hx:ix ccL ((word l).drop 3)<0
     ·have hc:cls (word l) = .unk:=by unfold cls;rw[if_neg h1,if_neg h2,if_pos hps,if_pos hx]
      obtain⟨I,b,e,hF⟩:=fin66s (opsL l) false (wide l) false 0 a
      rw[decide_eq_true hx,if_pos hx,hc]
      simp only[e,qsome_s,qnth_s,List.getD_cons_zero,List.getD_cons_succ,qbool_b,cond_true]
      cases b<;>rfl
     ·have hc:cls (word l) = .one 25 (ix ccL ((word l).drop 3)):=by unfold cls;rw[if_neg h1,if_neg h2,if_pos hps,if_neg hx]
      obtain⟨I,b,e,hF⟩:=fin66s (opsL l) false (wide l) false (ix ccL ((word l).drop 3)) a
      rw[decide_eq_false hx,if_neg hx,hc, ← hF]
      simp only[e,qsome_s,qnth_s,List.getD_cons_zero,List.getD_cons_succ,qbool_b,cond_true,cond_false,w1]
      exact FIN_run1 I b (wide l) a h69
    |false=>
     simp only[cond_false]
     by_cases hx:0≤ix opL (word l)
     ·have hc:cls (word l) = .ar (ix opL (word l)):=by unfold cls;rw[if_neg h1,if_neg h2,if_neg (by rw[hps];simp),if_pos hx]
      obtain⟨I,b,t,e,hF⟩:=fin67 hs (wide l) (ix opL (word l)) a
      have e5:qbin .add .i64 5 (ix opL (word l))=5+ix opL (word l):=by
       rw[qbin_eq];simp only[rbin]
       rcases ix_range opL (word l)with h|⟨k,hk,_,h⟩
       ·omega
       ·have:opL.length=11:=rfl
        exact wrap64' (by omega) (by omega)
      rw[show qcmp .geq (ix opL (word l)) 0=true by rw[qcmp_geq];exact decide_eq_true hx,e5,hc, ← hF]
      simp only[e,qsome_s,qnth_s,List.getD_cons_zero,List.getD_cons_succ,qbool_b,cond_true]
      exact FIN_run0 I _ a h69
     ·have hc:cls (word l)=clsO (word l):=by unfold cls;rw[if_neg h1,if_neg h2,if_neg (by rw[hps];simp),if_neg hx]
      obtain⟨I,b,f,e,hF⟩:=fin68 hs (wide l) (word l) a
      rw[show qcmp .geq (ix opL (word l)) 0=false by rw[qcmp_geq];exact decide_eq_false hx,hc, ← hF]
      simp only[e,qsome_s,qnth_s,List.getD_cons_zero,List.getD_cons_succ,qbool_b,cond_true,cond_false,w1]
      exact FIN_run2 I b f (wide l) a h69
end Go.Proofs.YtobhhfbdelnhfaaGreatDoor
namespace Go.Proofs.YtobhhfbdelnhfaaGreatDoor
set_option linter.unusedSimpArgs false
set_option linter.unusedVariables false
open Go Go.AM
def s1L:List (List UInt8):=[[110,111,112],[104,97,108,116],[114,101,116]]
def s2L:List (List UInt8):=[[112,117,115,104],[112,111,112],[106,117,109,112,114],[99,97,108,108,114],[105,110],[111,117,116]]
def meL:List (List UInt8):=[[108,111,97,100,49],[108,111,97,100,50],[108,111,97,100,52],[108,111,97,100,49,115],[108,111,97,100,50,115],[115,116,111,114,101,49],[115,116,111,114,101,50],[115,116,111,114,101,52],[108,101,97]]
def setP (m:List UInt8):Bool:=decide (3<m.length)&&decide (m.take 3 = [115,101,116])
def setI (m:List UInt8):Int:=if setP m=true then ix ccL (m.drop 3)else -1
def cndI (m:List UInt8):Int:=if m = [106,109,112]then 0 else if m.length<2∨m.getD 0 0≠106 then -1 else if ix ccL (m.drop 1)=0 then -1 else ix ccL (m.drop 1)
def tst (m:List UInt8):List Int×Bool×Bool:=([ix s1L m,ix s2L m,setI m,ix meL m,ix opL m,cndI m],decide (m = [99,97,108,108]),decide (m = [106,117,109,112,116]))
def expd:Cls→List Int×Bool×Bool
 | .bare k=>([k, -1, -1, -1, -1, -1],false,false)
 | .one o cc=>if o=25 then([-1, -1,cc, -1, -1, -1],false,false)else([-1,if o=3 then 0 else if o=4 then 1 else if o=21 then 2 else if o=24 then 3 else if o=26 then 4 else 5, -1, -1, -1, -1],false,false)
 | .mem o w st=>([-1, -1, -1,if o=16 then(if w=1 then 0 else if w=2 then 1 else 2)else if o=17 then(if w=1 then 3 else 4)else if o=18 then(if w=1 then 5 else if w=2 then 6 else 7)else 8, -1, -1],false,false)
 | .call=>([-1, -1, -1, -1, -1, -1],true,false)
 | .jumpt=>([-1, -1, -1, -1, -1, -1],false,true)
 | .ar k=>([-1, -1, -1, -1,k, -1],false,false)
 | .jmp cc=>([-1, -1, -1, -1, -1,cc],false,false)
 | .unk=>([-1, -1, -1, -1, -1, -1],false,false)
def clsG:Cls→Bool
 | .bare k=>decide (0≤k∧k≤2)
 | .one o cc=>decide ((o=25∧0≤cc∧cc≤14)∨(cc=0∧(o=3∨o=4∨o=21∨o=24∨o=26∨o=27)))
 | .mem o w st=>decide ((o=16∧(w=1∨w=2∨w=4)∧st=false)∨(o=17∧(w=1∨w=2)∧st=false)∨(o=18∧(w=1∨w=2∨w=4)∧st=true)∨(o=19∧w=0∧st=false))
 | .call=>true
 | .jumpt=>true
 | .ar k=>decide (0≤k∧k≤10)
 | .jmp cc=>decide (0≤cc∧cc≤14)
 | .unk=>true
def wordsK:List (List UInt8):=s1L++s2L++meL++opL++ccL.map ([115,101,116] ++ ·) ++ [106,109,112]::(ccL.drop 1).map (106 :: ·) ++ [[99,97,108,108],[106,117,109,112,116]]
def okK (y:List UInt8):Bool:=decide (tst y=expd (cls y))&&(clsG (cls y)&&(!sfx [46,119] y&&(decide (ix s2L y = -1) || !setP y)))
theorem allK:wordsK.all okK=true:=by decide +kernel
theorem ix_not {names:List (List UInt8)} {m:List UInt8} (h:m ∉ names):ix names m = -1:=by
 rcases ix_range names m with e|⟨k,_,hx,_⟩
 ·exact e
 ·exact absurd (List.mem_of_getElem? hx) h
theorem mK1 {m:List UInt8} (h:m∈s1L):m∈wordsK:=by unfold wordsK;simp only[List.mem_append];exact .inl (.inl (.inl (.inl (.inl (.inl h)))))
theorem mK2 {m:List UInt8} (h:m∈s2L):m∈wordsK:=by unfold wordsK;simp only[List.mem_append];exact .inl (.inl (.inl (.inl (.inl (.inr h)))))
theorem mK3 {m:List UInt8} (h:m∈meL):m∈wordsK:=by unfold wordsK;simp only[List.mem_append];exact .inl (.inl (.inl (.inl (.inr h))))
theorem mK4 {m:List UInt8} (h:m∈opL):m∈wordsK:=by unfold wordsK;simp only[List.mem_append];exact .inl (.inl (.inl (.inr h)))
theorem mK5 {c:List UInt8} (h:c∈ccL): [115,101,116]++c∈wordsK:=by unfold wordsK;simp only[List.mem_append];exact .inl (.inl (.inr (List.mem_map.2 ⟨c,h,rfl⟩)))
theorem mK6: [106,109,112]∈wordsK:=by unfold wordsK;simp only[List.mem_append];exact .inl (.inr (List.mem_cons_self ..))
theorem mK7 {m:List UInt8} (h:List.isPrefixOf [106] m=true∧0<ix ccL (m.drop 1)):m∈wordsK:=by
 obtain⟨hp,hx⟩:=h
 rw[List.isPrefixOf_iff_prefix]at hp
 obtain⟨t,rfl⟩:=hp
 simp only[List.cons_append,List.nil_append,List.drop_succ_cons,List.drop_zero]at hx ⊢
 rcases ix_range ccL t with e|⟨k,hk,hg,e⟩
 ·omega
 ·have hk0:0<k:=by omega
  have:t∈ccL.drop 1:=List.mem_of_getElem? (i:=k-1) (by rw[List.getElem?_drop,show 1+(k-1)=k by omega];exact hg)
  unfold wordsK;simp only[List.mem_append]
  exact .inl (.inr (List.mem_cons_of_mem _ (List.mem_map.2 ⟨t,this,rfl⟩)))
theorem neK {m y:List UInt8} (hK:m ∉ wordsK) (hy:y∈wordsK):¬m=y:=fun e=>hK (e▸hy)
theorem tst_cls (m:List UInt8):tst m=expd (cls m)∧clsG (cls m)=true∧(ix s2L m = -1∨setP m=false):=by
 by_cases hK:m∈wordsK
 ·have:=List.all_eq_true.1 allK m hK
  unfold okK at this
  simp only[Bool.and_eq_true,decide_eq_true_eq,Bool.or_eq_true,Bool.not_eq_true']at this
  exact⟨this.1,this.2.1,this.2.2.2⟩
 ·have n1:=ix_not (fun h=>hK (mK1 h))
  have n2:=ix_not (fun h=>hK (mK2 h))
  have n3:=ix_not (fun h=>hK (mK3 h))
  have n4:=ix_not (fun h=>hK (mK4 h))
  have n6:¬m = [106,109,112]:=fun e=>hK (e▸mK6)
  have n7:¬(List.isPrefixOf [106] m=true∧0<ix ccL (m.drop 1)):=fun h=>hK (mK7 h)
  have n8:¬m = [99,97,108,108]:=neK hK (by decide)
  have n9:¬m = [106,117,109,112,116]:=neK hK (by decide)
  have n5:∀c∈ccL,m≠[115,101,116]++c:=fun c hc e=>hK (e▸mK5 hc)
  have hset:setI m = -1:=by
   unfold setI
   by_cases hp:setP m=true
   ·rw[if_pos hp]
    rcases ix_range ccL (m.drop 3)with e|⟨k,hk,hg,e⟩
    ·exact e
    ·unfold setP at hp
     simp only[Bool.and_eq_true,decide_eq_true_eq]at hp
     exfalso
     refine n5 _ (List.mem_of_getElem? hg) ?_
     rw[← hp.2];exact(List.take_append_drop 3 m).symm
   ·rw[if_neg hp]
  have hcnd:cndI m = -1:=by
   unfold cndI
   rw[if_neg n6]
   by_cases hs:m.length<2∨m.getD 0 0≠106
   ·rw[if_pos hs]
   ·rw[if_neg hs]
    simp only[not_or,Decidable.not_not]at hs
    by_cases hz:ix ccL (m.drop 1)=0
    ·rw[if_pos hz]
    ·rw[if_neg hz]
     rcases ix_range ccL (m.drop 1)with e|⟨k,hk,hg,e⟩
     ·exact e
     ·exfalso
      refine n7 ⟨?_,by omega⟩
      cases m with
      |nil=>simp at hs
      |cons x t=>simp only[List.getD_cons_zero]at hs;rw[hs.2];simp[List.isPrefixOf]
  have hunk:cls m = .unk:=by
   unfold cls
   rw[if_neg n6,if_neg n7]
   by_cases hp:List.isPrefixOf [115,101,116] m=true
   ·rw[if_pos hp,if_pos]
    rcases ix_range ccL (m.drop 3)with e|⟨k,hk,hg,e⟩
    ·omega
    ·exfalso
     rw[List.isPrefixOf_iff_prefix]at hp
     obtain⟨t,rfl⟩:=hp
     exact n5 t (List.mem_of_getElem? hg) rfl
   ·rw[if_neg hp,if_neg (by omega)]
    unfold clsO
    rw[if_neg (neK hK (by decide)),if_neg (neK hK (by decide)),if_neg (neK hK (by decide)),if_neg (neK hK (by decide)),if_neg (neK hK (by decide)),if_neg (neK hK (by decide)),if_neg (neK hK (by decide)),if_neg (neK hK (by decide)),if_neg (neK hK (by decide)),if_neg (neK hK (by decide)),if_neg (neK hK (by decide)),if_neg (neK hK (by decide)),if_neg (neK hK (by decide)),if_neg (neK hK (by decide)),if_neg (neK hK (by decide)),if_neg (neK hK (by decide)),if_neg (neK hK (by decide)),if_neg (neK hK (by decide)),if_neg (neK hK (by decide)),if_neg (neK hK (by decide))]
  rw[hunk]
  refine⟨?_,rfl, .inl n2⟩
  unfold tst expd
  rw[n1,n2,hset,n3,n4,hcnd,decide_eq_false n8,decide_eq_false n9]
theorem tst_w {m:List UInt8} (h:sfx [46,119] m=true):tst m=expd .unk:=by
 have hK:m ∉ wordsK:=by
  intro hm
  have:=List.all_eq_true.1 allK m hm
  unfold okK at this
  rw[h]at this
  simp at this
 have hc:=(tst_cls m).1
 have hunk:cls m = .unk:=by
  have n6:¬m = [106,109,112]:=fun e=>hK (e▸mK6)
  have n7:¬(List.isPrefixOf [106] m=true∧0<ix ccL (m.drop 1)):=fun h=>hK (mK7 h)
  unfold cls
  rw[if_neg n6,if_neg n7]
  by_cases hp:List.isPrefixOf [115,101,116] m=true
  ·rw[if_pos hp,if_pos]
   rcases ix_range ccL (m.drop 3)with e|⟨k,hk,hg,e⟩
   ·omega
   ·exfalso
    rw[List.isPrefixOf_iff_prefix]at hp
    obtain⟨t,rfl⟩:=hp
    exact hK (mK5 (List.mem_of_getElem? hg))
  ·have n4:=ix_not (fun h=>hK (mK4 h))
   rw[if_neg hp,if_neg (by omega)]
   unfold clsO
   rw[if_neg (neK hK (by decide)),if_neg (neK hK (by decide)),if_neg (neK hK (by decide)),if_neg (neK hK (by decide)),if_neg (neK hK (by decide)),if_neg (neK hK (by decide)),if_neg (neK hK (by decide)),if_neg (neK hK (by decide)),if_neg (neK hK (by decide)),if_neg (neK hK (by decide)),if_neg (neK hK (by decide)),if_neg (neK hK (by decide)),if_neg (neK hK (by decide)),if_neg (neK hK (by decide)),if_neg (neK hK (by decide)),if_neg (neK hK (by decide)),if_neg (neK hK (by decide)),if_neg (neK hK (by decide)),if_neg (neK hK (by decide)),if_neg (neK hK (by decide))]
 rw[hc,hunk]
end Go.Proofs.YtobhhfbdelnhfaaGreatDoor
namespace Go.Proofs.YtobhhfbdelnhfaaGreatDoor
set_option linter.unusedSimpArgs false
set_option linter.unusedVariables false
open Go Go.AM
theorem s1_def:D.list [(D.str (ByteArray.mk #[110,111,112])),(D.str (ByteArray.mk #[104,97,108,116])),(D.str (ByteArray.mk #[114,101,116]))]=nameL s1L:=rfl
theorem s2_def:D.list [(D.str (ByteArray.mk #[112,117,115,104])),(D.str (ByteArray.mk #[112,111,112])),(D.str (ByteArray.mk #[106,117,109,112,114])),(D.str (ByteArray.mk #[99,97,108,108,114])),(D.str (ByteArray.mk #[105,110])),(D.str (ByteArray.mk #[111,117,116]))]=nameL s2L:=rfl
theorem me_def:D.list [(D.str (ByteArray.mk #[108,111,97,100,49])),(D.str (ByteArray.mk #[108,111,97,100,50])),(D.str (ByteArray.mk #[108,111,97,100,52])),(D.str (ByteArray.mk #[108,111,97,100,49,115])),(D.str (ByteArray.mk #[108,111,97,100,50,115])),(D.str (ByteArray.mk #[115,116,111,114,101,49])),(D.str (ByteArray.mk #[115,116,111,114,101,50])),(D.str (ByteArray.mk #[115,116,111,114,101,52])),(D.str (ByteArray.mk #[108,101,97]))]=nameL meL:=rfl
theorem qlen_op (ops:List (List UInt8)):qlen (opD ops)=(ops.length:Int):=by rw[qlen_c];simp[opD,nameL,D.toList]
def s2op (j:Int):Int:=if j=0 then 3 else if j=1 then 4 else if j=2 then 21 else if j=3 then 24 else if j=4 then 26 else 27
noncomputable def R71 (m:List UInt8) (ops:List (List UInt8)) (a:Int):List D:=
 if 0≤ix s1L m∧ops.length=0 then[insD a 0 (ix s1L m) 0 0 0 0 0 0, .bool true]
 else if 0≤setI m then(if ops.length=1 then[insD a 0 25 0 0 (setI m) (regV (op ops 0)) 0 0, .bool (regB (op ops 0))]else[insD 0 0 0 0 0 0 0 0 0, .bool false])
 else if ix s2L m<0∨ops.length≠1 then[insD 0 0 0 0 0 0 0 0 0, .bool false]
 else[insD a 0 (s2op (ix s2L m)) 0 0 0 (regV (op ops 0)) 0 0, .bool (regB (op ops 0))]
theorem sixes (k:Nat) (hk:k<6):qinb (D.list [(D.int 3),(D.int 4),(D.int 21),(D.int 24),(D.int 26),(D.int 27),(D.int 25)]) (k:Int)=true∧qint (qget (D.list [(D.int 3),(D.int 4),(D.int 21),(D.int 24),(D.int 26),(D.int 27),(D.int 25)]) (k:Int))=s2op k:=by
 refine⟨qinb_n (by show k<7;omega),?_⟩
 rw[qget_n]
 match k,hk with
 |0,_=>exact qint_i _
 |1,_=>exact qint_i _
 |2,_=>exact qint_i _
 |3,_=>exact qint_i _
 |4,_=>exact qint_i _
 |5,_=>exact qint_i _
theorem spec71 {m:List UInt8} {ops:List (List UInt8)} {a:Int} (hm:m.length≤1000) (hx:ix s2L m = -1∨setP m=false):q71 [insD a 0 0 0 0 0 0 0 0, .str (bs m),opD ops]=some (R71 m ops a):=by
 obtain⟨f0,f1,f2,f3,f4,f5,f6,f7,f8⟩:=insF a 0 0 0 0 0 0 0 0
 rw[q71_eq,F71_eq,s1_def,s2_def]
 simp only[mkB,spec113 s1L m (by decide),spec113 s2L m (by decide),spec35,qlen_op,len_bs,f0,f1,f2,f3,f4,f5,f6,f7,f8,insD_eq,qsome_s,qnth_s,List.getD_cons_zero,List.getD_cons_succ,qbool_b,qstr_s,qint_i,qnot_c,cond_true,cond_false]
 have hsP:qiteB (qcmp .gtr (m.length:Int) 3) (qcmpS .eql (qsubS (bs m) 0 3) (bs [115,101,116])) Bool.false=setP m:=by
  rw[qiteB_c,show qcmp .gtr (m.length:Int) 3=decide (3<m.length)from gtI m.length 3,show qsubS (bs m) 0 3=bs (m.take 3)from sub_to m 3,eq_bs]
  unfold setP;cases decide (3<m.length)<;>rfl
 have hg:qiteB (qcmp .gtr (m.length:Int) 3) (qand (qcmp .leq 0 0) (qand (qcmp .leq 0 3) (qcmp .leq 3 (m.length:Int)))) Bool.true=true:=by
  rw[qiteB_c,show qcmp .gtr (m.length:Int) 3=decide (3<m.length)from gtI m.length 3,qand_c,qcmp_leq,qcmp_leq,qcmp_leq]
  by_cases h:3<m.length
  ·simp[h];omega
  ·simp[h]
 rw[hsP,hg]
 have hreg:∀h:ops.length=1,qinb (opD ops) 0=true∧q114 [.str (qstr (qget (opD ops) 0))]=some [.int (regV (op ops 0)), .bool (regB (op ops 0))]:=by
  intro h
  obtain⟨g1,g2⟩:=op_get (op_at (ops:=ops) (k:=0) (by omega))
  exact⟨g1,by rw[show qstr (qget (opD ops) 0)=bs (op ops 0)from g2];exact(reg_spec _).2⟩
 unfold R71
 by_cases c1:0≤ix s1L m∧ops.length=0
 ·rw[if_pos c1,qiteB_c,qcmp_geq,decide_eq_true c1.1,show qcmp .eql (ops.length:Int) 0=decide (ops.length=0)from eqI _ 0,decide_eq_true c1.2]
  have e:qbin .add .i64 0 (ix s1L m)=ix s1L m:=by
   rw[qbin_eq];simp only[rbin]
   rcases ix_range s1L m with h|⟨k,hk,_,h⟩
   ·omega
   ·have:s1L.length=3:=rfl
    rw[wrap64' (by omega) (by omega)];omega
  rw[e];rfl
 ·have c1':qiteB (qcmp .geq (ix s1L m) 0) (qcmp .eql (ops.length:Int) 0) Bool.false=false:=by
   rw[qiteB_c,qcmp_geq,show qcmp .eql (ops.length:Int) 0=decide (ops.length=0)from eqI _ 0]
   by_cases x:0≤ix s1L m
   ·rw[decide_eq_true x,decide_eq_false (fun y=>c1 ⟨x,y⟩)];rfl
   ·rw[decide_eq_false x];rfl
  rw[if_neg c1,c1']
  simp only[cond_false,cond_true]
  have hlen:qcmp .neq (ops.length:Int) 1 = !decide (ops.length=1):=neI _ 1
  have tail:ix s2L m = -1∨¬ops.length=1→qiteB (qcmp .lss (ix s2L m) 0) Bool.true (qcmp .neq (ops.length:Int) 1)=true:=by
   intro h
   rw[qiteB_c,qcmp_lss,hlen]
   rcases h with h|h
   ·rw[h];rfl
   ·rw[decide_eq_false h];cases decide (ix s2L m<0)<;>rfl
  cases hp:setP m with
  |true=>
   have hI:setI m=ix ccL (m.drop 3):=by unfold setI;rw[if_pos hp]
   have hm3:3<m.length:=by unfold setP at hp;simp only[Bool.and_eq_true,decide_eq_true_eq]at hp;exact hp.1
   have h2:ix s2L m = -1:=by rcases hx with h|h;exact h;rw[hp]at h;cases h
   rw[show qsubS (bs m) 3 (m.length:Int)=bs (m.drop 3)from sub_from m 3,show(nameL ccL:D)=nameL ccL from rfl,spec113 ccL _ (by decide),hI,tail (.inl h2),h2]
   rw[show qcmp .leq 0 3=true by rw[qcmp_leq];rfl,show qcmp .leq 3 (m.length:Int)=true by rw[qcmp_leq];exact decide_eq_true (by omega),leI',decide_eq_true (Nat.le_refl _),hlen]
   simp only[qsome_s,qnth_s,List.getD_cons_zero,List.getD_cons_succ,qbool_b,qstr_s,qint_i,qnot_c,cond_true,cond_false]
   by_cases c2:0≤ix ccL (m.drop 3)
   ·rw[if_pos c2,qcmp_geq,decide_eq_true c2]
    by_cases c3:ops.length=1
    ·obtain⟨g1,g2⟩:=hreg c3
     rw[if_pos c3,decide_eq_true c3,g1,g2]
     simp only[qsome_s,qnth_s,List.getD_cons_zero,List.getD_cons_succ,qbool_b,qstr_s,qint_i,qnot_c,cond_true,cond_false,Bool.not_true]
    ·rw[if_neg c3,decide_eq_false c3];rfl
   ·rw[if_neg c2,qcmp_geq,decide_eq_false c2,if_pos (.inl (by omega))];rfl
  |false=>
   have hI:setI m = -1:=by unfold setI;rw[hp];rfl
   rw[hI,if_neg (by omega)]
   simp only[cond_false]
   by_cases c2:ix s2L m<0∨ops.length≠1
   ·rw[if_pos c2,tail (by
     rcases c2 with h|h
     ·rcases ix_range s2L m with e|⟨k,_,_,e⟩
      ·exact .inl e
      ·omega
     ·exact .inr h)]
    rfl
   ·rw[if_neg c2]
    simp only[not_or,Decidable.not_not,ne_eq]at c2
    obtain⟨g1,g2⟩:=hreg c2.2
    rcases ix_range s2L m with e|⟨k,hk,_,e⟩
    ·omega
    ·have hk6:k<6:=hk
     obtain⟨s1,s2⟩:=sixes k hk6
     rw[e,qiteB_c,qcmp_lss,decide_eq_false (show¬(k:Int)<0 by omega),hlen,decide_eq_true c2.2,g1,g2,s1,s2,qcmp_leq,qcmp_lss,decide_eq_true (show(0:Int)≤k by omega),decide_eq_true (show(k:Int)<7 by omega)]
     simp only[qsome_s,qnth_s,List.getD_cons_zero,List.getD_cons_succ,qbool_b,qstr_s,qint_i,qnot_c,cond_true,cond_false,Bool.not_true]
end Go.Proofs.YtobhhfbdelnhfaaGreatDoor
namespace Go.Proofs.YtobhhfbdelnhfaaGreatDoor
set_option linter.unusedSimpArgs false
set_option linter.unusedVariables false
open Go Go.AM
def meO (j:Int):Int:=if j≤2 then 16 else if j≤4 then 17 else if j≤7 then 18 else 19
def meW (j:Int):Int:=if j=0∨j=3∨j=5 then 1 else if j=1∨j=4∨j=6 then 2 else if j=2∨j=7 then 4 else 0
theorem nines (k:Nat) (hk:k<9):qinb (D.list [(D.int 16),(D.int 16),(D.int 16),(D.int 17),(D.int 17),(D.int 18),(D.int 18),(D.int 18),(D.int 19)]) (k:Int)=true∧qint (qget (D.list [(D.int 16),(D.int 16),(D.int 16),(D.int 17),(D.int 17),(D.int 18),(D.int 18),(D.int 18),(D.int 19)]) (k:Int))=meO k∧
 qinb (D.list [(D.int 1),(D.int 2),(D.int 4),(D.int 1),(D.int 2),(D.int 1),(D.int 2),(D.int 4),(D.int 0)]) (k:Int)=true∧qint (qget (D.list [(D.int 1),(D.int 2),(D.int 4),(D.int 1),(D.int 2),(D.int 1),(D.int 2),(D.int 4),(D.int 0)]) (k:Int))=meW k:=by
 refine⟨qinb_n (by show k<9;omega),?_,qinb_n (by show k<9;omega),?_⟩
 ·rw[qget_n]
  match k,hk with
  |0,_=>exact qint_i _
  |1,_=>exact qint_i _
  |2,_=>exact qint_i _
  |3,_=>exact qint_i _
  |4,_=>exact qint_i _
  |5,_=>exact qint_i _
  |6,_=>exact qint_i _
  |7,_=>exact qint_i _
  |8,_=>exact qint_i _
 ·rw[qget_n]
  match k,hk with
  |0,_=>exact qint_i _
  |1,_=>exact qint_i _
  |2,_=>exact qint_i _
  |3,_=>exact qint_i _
  |4,_=>exact qint_i _
  |5,_=>exact qint_i _
  |6,_=>exact qint_i _
  |7,_=>exact qint_i _
  |8,_=>exact qint_i _
noncomputable def R72 (m:List UInt8) (ops:List (List UInt8)) (a:Int):List D:=
 if ix meL m<0 then[insD a 0 0 0 0 0 0 0 0, .int 0, .bool false]
 else if meOk ops (decide (meO (ix meL m)=18))=false then[insD a 0 0 0 0 0 0 0 0, .int 3, .bool true]
 else[insD a (plR (meP ops (decide (meO (ix meL m)=18)))).2.1 (meO (ix meL m)) 0 (meW (ix meL m)) 0 (regV (meR ops (decide (meO (ix meL m)=18)))) (plR (meP ops (decide (meO (ix meL m)=18)))).1 0, .int (plR (meP ops (decide (meO (ix meL m)=18)))).2.2, .bool true]
theorem spec72 {m:List UInt8} {ops:List (List UInt8)} (hs:Short ops) {a:Int}:q72 [insD a 0 0 0 0 0 0 0 0, .str (bs m),opD ops]=some (R72 m ops a):=by
 obtain⟨f0,f1,f2,f3,f4,f5,f6,f7,f8⟩:=insF a 0 0 0 0 0 0 0 0
 rw[q72_eq,F72_eq,me_def]
 simp only[spec113 meL m (by decide),qlen_op,f0,f1,f2,f3,f4,f5,f6,f7,f8,insD_eq,qsome_s,qnth_s,List.getD_cons_zero,List.getD_cons_succ,qbool_b,qstr_s,qint_i,qnot_c,cond_true,cond_false]
 unfold R72
 rcases ix_range meL m with e|⟨k,hk,_,e⟩
 ·rw[e,if_pos (by omega),show qcmp .lss (-1) 0=true by rw[qcmp_lss];rfl];rfl
 ·have hk9:k<9:=hk
  obtain⟨n1,n2,n3,n4⟩:=nines k hk9
  rw[e,if_neg (by omega),n1,n2,n3,n4,qcmp_lss,decide_eq_false (show¬(k:Int)<0 by omega),show qcmp .neq (ops.length:Int) 2 = !decide (ops.length=2)from neI _ 2,qcmp_leq,qcmp_lss,decide_eq_true (show(0:Int)≤k by omega),decide_eq_true (show(k:Int)<9 by omega),qcmp_eql]
  simp only[cond_false,cond_true]
  by_cases h2:ops.length=2
  case neg=>
   rw[decide_eq_false h2,if_pos (by unfold meOk;rw[decide_eq_false h2];rfl)];rfl
  case pos=>
   obtain⟨g1,g2⟩:=op_get (op_at (ops:=ops) (k:=0) (by omega))
   obtain⟨g3,g4⟩:=op_get (op_at (ops:=ops) (k:=1) (by omega))
   rw[show qinb (opD ops) 0=true from g1,show qinb (opD ops) 1=true from g3,show qstr (qget (opD ops) 0)=bs (op ops 0)from g2,show qstr (qget (opD ops) 1)=bs (op ops 1)from g4,(reg_spec (op ops 0)).2,(reg_spec (op ops 1)).2,
    spec115 _ (op_short hs (k:=0) (by omega)),spec115 _ (op_short hs (k:=1) (by omega)),decide_eq_true h2]
   simp only[qsome_s,qnth_s,List.getD_cons_zero,List.getD_cons_succ,qbool_b,qstr_s,qint_i,qnot_c,cond_true,cond_false,Bool.not_true]
   unfold meOk meR meP
   rw[decide_eq_true h2]
   have hne:∀x:Int,qcmp .eql x 3=(x==3):=fun x=>by rw[qcmp_eql];by_cases h:x=3<;>simp[h]
   by_cases h18:meO k=18
   ·rw[decide_eq_true h18]
    simp only[cond_true,qiteB_c,hne]
    cases hr:regB (op ops 1)<;>cases hp:((plR (op ops 0)).2.2==3)<;>rfl
   ·rw[decide_eq_false h18]
    simp only[cond_false,qiteB_c,hne]
    cases hr:regB (op ops 0)<;>cases hp:((plR (op ops 1)).2.2==3)<;>rfl
theorem spec77 {x:List UInt8} (hz:x.length≤1000):q77_n [.str (bs x)]=some [.int (bif numB x then numV x else 0), .bool false, .int (bif numB x then 0 else 3)]:=by
 rw[q77_n_eq,F77_n_eq,(num_spec hz).2]
 simp only[qsome_s,qnth_s,List.getD_cons_zero,List.getD_cons_succ,qbool_b,qstr_s,qint_i,qnot_c,cond_true,cond_false]
 cases numB x<;>rfl
theorem spec32I {n:Int} (h:0≤n∧n<4294967296):q32 [.int n]=some [.bool (nearI n)]:=by
 obtain⟨k,rfl⟩:=Int.eq_ofNat_of_zero_le h.1
 unfold nearI
 rw[spec32,nearW k (by omega)]
theorem off_rng (n a:Int):0≤off n a∧off n a<4294967296:=by unfold off;rw[qbin_eq];simp only[rbin,mU32];omega
theorem pairD (x:D) (e:Int): [[x, .int e].getD 0 .other,D.int (qint ([x, .int e].getD 1 .other))] = [x, .int e]:=by simp only[List.getD_cons_zero,List.getD_cons_succ,qint_i]
theorem spec116 {x:List UInt8} (hz:x.length≤1000) (w:Bool) (a o rv:Int):q116_n [insD a 0 o 0 0 0 rv 0 0, .bool w, .str (bs x)] =
 some (if regB x=true then(if w=true then erD 3 else[insD a 0 o 0 0 0 rv (regV x) 0, .int 0])else if numB x=true then[insD a (numV x) o (fm (numV x) w) 0 0 rv 0 0, .int 0]else erD 3):=by
 obtain⟨f0,f1,f2,f3,f4,f5,f6,f7,f8⟩:=insF a 0 o 0 0 0 rv 0 0
 rw[q116_n_eq,F116_n_eq,(reg_spec x).2,spec77 hz]
 simp only[f0,f1,f2,f3,f4,f5,f6,f7,f8,insD_eq,qsome_s,qnth_s,List.getD_cons_zero,List.getD_cons_succ,qbool_b,qstr_s,qint_i,qnot_c,cond_true,cond_false,qiteB_c,Bool.not_false]
 cases hr:regB x with
 |true=>cases w<;>rfl
 |false=>
  cases hb:numB x with
  |false=>simp only[cond_false,Bool.false_eq_true,if_false];rw[show qcmp .neq 3 0=true by rw[qcmp_neq];rfl];rfl
  |true=>
   simp only[cond_false,cond_true,Bool.false_eq_true,if_false,if_true]
   rw[show qcmp .neq 0 0=false by rw[qcmp_neq];rfl,spec32I (num_rng hz)]
   simp only[qsome_s,qnth_s,List.getD_cons_zero,List.getD_cons_succ,qbool_b,qstr_s,qint_i,qnot_c,cond_true,cond_false]
   unfold fm
   cases nearI (numV x)<;>cases w<;>rfl
theorem spec118 {x:List UInt8} (hz:x.length≤1000) (w:Bool) (a cc:Int):q118_n [insD a 0 0 0 0 cc 0 0 0, .bool w, .str (bs x)] =
 some (if numB x=true then[insD a (numV x) 20 (fm (off (numV x) a) w) 0 cc 0 0 0, .int 0]else erD 3):=by
 obtain⟨f0,f1,f2,f3,f4,f5,f6,f7,f8⟩:=insF a 0 0 0 0 cc 0 0 0
 rw[q118_n_eq,F118_n_eq,spec77 hz]
 simp only[f0,f1,f2,f3,f4,f5,f6,f7,f8,insD_eq,qsome_s,qnth_s,List.getD_cons_zero,List.getD_cons_succ,qbool_b,qstr_s,qint_i,qnot_c,cond_true,cond_false,qiteB_c,Bool.not_false]
 cases hb:numB x with
 |false=>simp only[cond_false,Bool.false_eq_true,if_false];rw[show qcmp .neq 3 0=true by rw[qcmp_neq];rfl];rfl
 |true=>
  simp only[cond_true,if_true]
  rw[show qcmp .neq 0 0=false by rw[qcmp_neq];rfl,show qbin .sub .u32 (qbin .sub .u32 (numV x) a) 2=off (numV x) a from rfl,spec32I (off_rng _ _)]
  simp only[qsome_s,qnth_s,List.getD_cons_zero,List.getD_cons_succ,qbool_b,qstr_s,qint_i,qnot_c,cond_true,cond_false]
  unfold fm
  cases nearI (off (numV x) a)<;>cases w<;>rfl
theorem spec117 {m:List UInt8} (hm:m.length≤1000):q117 [.str (bs m)]=some [.int (cndI m)]:=by
 rw[q117_eq,F117_eq]
 simp only[mkB,eq_bs,len_bs,spec35,qsome_s,qnth_s,List.getD_cons_zero,List.getD_cons_succ,qbool_b,qstr_s,qint_i,qnot_c,cond_true,cond_false]
 unfold cndI
 by_cases h1:m = [106,109,112]
 ·rw[decide_eq_true h1,if_pos h1];rfl
 ·rw[decide_eq_false h1,if_neg h1,show qcmp .lss (m.length:Int) 2=decide (m.length<2)from ltI m.length 2]
  simp only[cond_false]
  by_cases h2:m.length<2
  ·rw[decide_eq_true h2,if_pos (.inl h2),qiteB_c,qiteB_c];rfl
  ·rw[decide_eq_false h2,show qidxS (bs m) 0=((m.getD 0 0).toNat:Int)from idx_bs m 0,show qinbS (bs m) 0=true from inb_bs (i:=0) (by omega),show qcmp .neq ((m.getD 0 0).toNat:Int) 106 = !decide (m.getD 0 0=106)from neq8 _ 106 (by omega)]
   simp only[qiteB_c,cond_true,cond_false]
   by_cases h3:m.getD 0 0=106
   ·rw[decide_eq_true h3,if_neg (by simp only[not_or,Decidable.not_not,ne_eq];exact⟨h2,h3⟩),show qsubS (bs m) 1 (m.length:Int)=bs (m.drop 1)from sub_from m 1,spec113 ccL _ (by decide)]
    rw[show qcmp .leq 0 1=true by rw[qcmp_leq];rfl,show qcmp .leq 1 (m.length:Int)=true by rw[qcmp_leq];exact decide_eq_true (by omega),leI',decide_eq_true (Nat.le_refl _)]
    simp only[qsome_s,qnth_s,List.getD_cons_zero,List.getD_cons_succ,qbool_b,qstr_s,qint_i,qnot_c,cond_true,cond_false,Bool.not_true,qcmp_eql]
    by_cases h4:ix ccL (m.drop 1)=0
    ·rw[if_pos h4,decide_eq_true h4];rfl
    ·rw[if_neg h4,decide_eq_false h4];rfl
   ·rw[decide_eq_false h3,if_pos (.inr h3)];rfl
noncomputable def R73 (m:List UInt8) (w:Bool) (ops:List (List UInt8)) (a:Int):List D:=
 if 0≤ix opL m∧ops.length=2 then(if regB (op ops 0)=true then
  (if regB (op ops 1)=true then(if w=true then erD 3 else[insD a 0 (5+ix opL m) 0 0 0 (regV (op ops 0)) (regV (op ops 1)) 0, .int 0])else if numB (op ops 1)=true then[insD a (numV (op ops 1)) (5+ix opL m) (fm (numV (op ops 1)) w) 0 0 (regV (op ops 0)) 0 0, .int 0]else erD 3)
  else erD 3)
 else if 0≤cndI m∧ops.length=1 then(if numB (op ops 0)=true then[insD a (numV (op ops 0)) 20 (fm (off (numV (op ops 0)) a) w) 0 (cndI m) 0 0 0, .int 0]else erD 3)
 else if decide (m = [99,97,108,108])=true∧w=false∧ops.length=1 then[insD a (bif numB (op ops 0)then numV (op ops 0)else 0) 23 0 0 0 0 0 0, .int (bif numB (op ops 0)then 0 else 3)]
 else if decide (m = [106,117,109,112,116])=true∧w=false∧ops.length=2 then(if regB (op ops 0)=true then[insD a (bif numB (op ops 1)then numV (op ops 1)else 0) 22 0 0 0 (regV (op ops 0)) 0 0, .int (bif numB (op ops 1)then 0 else 3)]else erD 3)
 else erD 3
def wid2 (h:List UInt8):Bool:=decide (2<h.length)&&sfx [46,119] h
def wrd2 (h:List UInt8):List UInt8:=bif wid2 h then h.take (h.length-2)else h
theorem spec73 {h:List UInt8} {ops:List (List UInt8)} (hz:h.length≤1000) (hs:Short ops) {a:Int}:q73_n [insD a 0 0 0 0 0 0 0 0, .str (bs h),opD ops]=some (R73 (wrd2 h) (wid2 h) ops a):=by
 obtain⟨f0,f1,f2,f3,f4,f5,f6,f7,f8⟩:=insF a 0 0 0 0 0 0 0 0
 have hmz:(wrd2 h).length≤1000:=by unfold wrd2;cases wid2 h with|true=>simp;omega|false=>simpa using hz
 have hgt:qcmp .gtr (h.length:Int) 2=decide (2<h.length):=gtI h.length 2
 have hw:qiteB (qcmp .gtr (h.length:Int) 2) (qcmpS .eql (qsubS (bs h) (qbin .sub .i64 (h.length:Int) 2) (h.length:Int)) (bs [46,119])) Bool.false=wid2 h:=by
  rw[qiteB_c,hgt]
  unfold wid2 sfx
  by_cases h2:2<h.length
  ·rw[show qbin .sub .i64 (h.length:Int) 2=((h.length-2:Nat):Int)from subI (b:=2) (by omega) (by omega),sub_from,eq_bs]
   simp[h2];omega
  ·simp[h2]
 have hg1:qiteB (qcmp .gtr (h.length:Int) 2) (qand (qcmp .leq 0 (qbin .sub .i64 (h.length:Int) 2)) (qand (qcmp .leq (qbin .sub .i64 (h.length:Int) 2) (h.length:Int)) (qcmp .leq (h.length:Int) (h.length:Int)))) Bool.true=true:=by
  rw[qiteB_c,hgt,qand_c]
  by_cases h2:2<h.length
  ·rw[show qbin .sub .i64 (h.length:Int) 2=((h.length-2:Nat):Int)from subI (b:=2) (by omega) (by omega),le0,leI',leI',decide_eq_true (show h.length-2≤h.length by omega),decide_eq_true (Nat.le_refl _)]
   simp[h2]
  ·simp[h2]
 have hg2:qiteB (wid2 h) (qand (qcmp .leq 0 0) (qand (qcmp .leq 0 (qbin .sub .i64 (h.length:Int) 2)) (qcmp .leq (qbin .sub .i64 (h.length:Int) 2) (h.length:Int)))) Bool.true=true:=by
  rw[qiteB_c,qand_c]
  cases hw2:wid2 h with
  |false=>rfl
  |true=>
   have h2:2<h.length:=by unfold wid2 at hw2;simp only[Bool.and_eq_true,decide_eq_true_eq]at hw2;exact hw2.1
   rw[show qbin .sub .i64 (h.length:Int) 2=((h.length-2:Nat):Int)from subI (b:=2) (by omega) (by omega),le0,leI',decide_eq_true (show h.length-2≤h.length by omega),show qcmp .leq 0 0=true by rw[qcmp_leq];rfl];rfl
 have hm:qiteS (wid2 h) (qsubS (bs h) 0 (qbin .sub .i64 (h.length:Int) 2)) (bs h)=bs (wrd2 h):=by
  rw[qiteS_eq]
  unfold wrd2
  cases hw2:wid2 h with
  |false=>rfl
  |true=>
   have h2:2<h.length:=by unfold wid2 at hw2;simp only[Bool.and_eq_true,decide_eq_true_eq]at hw2;exact hw2.1
   rw[show qbin .sub .i64 (h.length:Int) 2=((h.length-2:Nat):Int)from subI (b:=2) (by omega) (by omega),sub_to];rfl
 rw[q73_n_eq,F73_n_eq]
 simp only[mkB,len_bs,hw,hg1,hg2,hm,spec57,qsome_s,qnth_s,List.getD_cons_zero,List.getD_cons_succ,qbool_b,qstr_s,qint_i,qnot_c,cond_true,cond_false,qlen_op,eq_bs,spec113 opL _ (by decide),spec117 hmz,f0,f1,f2,f3,f4,f5,f6,f7,f8,insD_eq]
 generalize wrd2 h=m at *
 generalize wid2 h=w at *
 have l2:qcmp .eql (ops.length:Int) 2=decide (ops.length=2):=eqI _ 2
 have l1:qcmp .eql (ops.length:Int) 1=decide (ops.length=1):=eqI _ 1
 rw[l2,l1]
 have hr0:∀h:0<ops.length,qinb (opD ops) 0=true∧qstr (qget (opD ops) 0)=bs (op ops 0):=fun h=>op_get (op_at (ops:=ops) (k:=0) h)
 have hr1:∀h:1<ops.length,qinb (opD ops) 1=true∧qstr (qget (opD ops) 1)=bs (op ops 1):=fun h=>op_get (op_at (ops:=ops) (k:=1) h)
 unfold R73
 by_cases c1:0≤ix opL m∧ops.length=2
 ·obtain⟨g1,g2⟩:=hr0 (by omega)
  obtain⟨g3,g4⟩:=hr1 (by omega)
  have e5:qbin .add .i64 5 (ix opL m)=5+ix opL m:=by
   rw[qbin_eq];simp only[rbin]
   rcases ix_range opL m with h|⟨k,hk,_,h⟩
   ·omega
   ·have:opL.length=11:=rfl
    exact wrap64' (by omega) (by omega)
  rw[if_pos c1,qcmp_geq,decide_eq_true c1.1,decide_eq_true c1.2,g1,g2,g3,g4,(reg_spec _).2,e5,spec116 (op_short hs (k:=1) (by omega))]
  simp only[qiteB_c,qsome_s,qnth_s,List.getD_cons_zero,List.getD_cons_succ,qbool_b,qstr_s,qint_i,qnot_c,cond_true,cond_false]
  cases hr:regB (op ops 0)with
  |false=>rfl
  |true=>
   simp only[Bool.not_true,cond_false,if_true]
   congr 1
   cases regB (op ops 1)<;>cases w<;>cases numB (op ops 1)<;>exact pairD _ _
 ·have c1':qiteB (qcmp .geq (ix opL m) 0) (decide (ops.length=2)) Bool.false=false:=by
   rw[qiteB_c,qcmp_geq]
   by_cases x:0≤ix opL m
   ·rw[decide_eq_true x,decide_eq_false (fun y=>c1 ⟨x,y⟩)];rfl
   ·rw[decide_eq_false x];rfl
  rw[if_neg c1,c1']
  simp only[cond_false]
  by_cases c2:0≤cndI m∧ops.length=1
  ·obtain⟨g1,g2⟩:=hr0 (by omega)
   rw[if_pos c2,qcmp_geq,decide_eq_true c2.1,decide_eq_true c2.2,g1,g2,spec118 (op_short hs (k:=0) (by omega))]
   simp only[qiteB_c,qsome_s,qnth_s,List.getD_cons_zero,List.getD_cons_succ,qbool_b,qstr_s,qint_i,qnot_c,cond_true,cond_false]
   congr 1
   cases numB (op ops 0)<;>exact pairD _ _
  ·have c2':qiteB (qcmp .geq (cndI m) 0) (decide (ops.length=1)) Bool.false=false:=by
    rw[qiteB_c,qcmp_geq]
    by_cases x:0≤cndI m
    ·rw[decide_eq_true x,decide_eq_false (fun y=>c2 ⟨x,y⟩)];rfl
    ·rw[decide_eq_false x];rfl
   rw[if_neg c2,c2']
   simp only[cond_false]
   by_cases c3:decide (m = [99,97,108,108])=true∧w=false∧ops.length=1
   ·obtain⟨g1,g2⟩:=hr0 (by omega)
    rw[if_pos c3,c3.1,c3.2.1,decide_eq_true c3.2.2,g1,g2,spec77 (op_short hs (k:=0) (by omega))]
    simp only[qiteB_c,qsome_s,qnth_s,List.getD_cons_zero,List.getD_cons_succ,qbool_b,qstr_s,qint_i,qnot_c,cond_true,cond_false,Bool.not_false]
   ·have c3':qiteB (qiteB (decide (m = [99,97,108,108])) (!w) Bool.false) (decide (ops.length=1)) Bool.false=false:=by
     rw[qiteB_c,qiteB_c]
     cases hx:decide (m = [99,97,108,108])with
     |false=>rfl
     |true=>
      cases hw0:w with
      |true=>rfl
      |false=>rw[decide_eq_false (fun y=>c3 ⟨hx,hw0,y⟩)];rfl
    rw[if_neg c3,c3']
    simp only[cond_false]
    by_cases c4:decide (m = [106,117,109,112,116])=true∧w=false∧ops.length=2
    ·obtain⟨g1,g2⟩:=hr0 (by omega)
     obtain⟨g3,g4⟩:=hr1 (by omega)
     rw[if_pos c4,c4.1,c4.2.1,decide_eq_true c4.2.2,g1,g2,g3,g4,(reg_spec _).2,spec77 (op_short hs (k:=1) (by omega))]
     simp only[qiteB_c,qsome_s,qnth_s,List.getD_cons_zero,List.getD_cons_succ,qbool_b,qstr_s,qint_i,qnot_c,cond_true,cond_false,Bool.not_false]
     cases hr:regB (op ops 0)<;>rfl
    ·have c4':qiteB (qiteB (decide (m = [106,117,109,112,116])) (!w) Bool.false) (decide (ops.length=2)) Bool.false=false:=by
      rw[qiteB_c,qiteB_c]
      cases hx:decide (m = [106,117,109,112,116])with
      |false=>rfl
      |true=>
       cases hw0:w with
       |true=>rfl
       |false=>rw[decide_eq_false (fun y=>c4 ⟨hx,hw0,y⟩)];rfl
     rw[if_neg c4,c4']
     rfl
end Go.Proofs.YtobhhfbdelnhfaaGreatDoor
namespace Go.Proofs.YtobhhfbdelnhfaaGreatDoor
set_option linter.unusedSimpArgs false
set_option linter.unusedVariables false
open Go Go.AM
noncomputable def szD (I:D):List D:=[insD (qint (qfld I 0)) (qint (qfld I 1)) (qint (qfld I 2)) (qint (qfld I 3)) (qint (qfld I 4)) (qint (qfld I 5)) (qint (qfld I 6)) (qint (qfld I 7)) (lenI I), .int 0]
theorem szD_ins (a i o f w c x y:Int):szD (insD a i o f w c x y 0)=okD a i o f w c x y:=by
 obtain⟨f0,f1,f2,f3,f4,f5,f6,f7,f8⟩:=insF a i o f w c x y 0
 unfold szD okD
 rw[f0,f1,f2,f3,f4,f5,f6,f7]
noncomputable def RD (r1 r2 r3:List D):List D:=
 bif qbool (r1.getD 1 .other)then szD (r1.getD 0 .other)
 else bif qbool (r2.getD 2 .other)then(bif qcmp .neq (qint (r2.getD 1 .other)) 0 then erD (qint (r2.getD 1 .other))else szD (r2.getD 0 .other))
 else(bif qcmp .neq (qint (r3.getD 1 .other)) 0 then erD (qint (r3.getD 1 .other))else szD (r3.getD 0 .other))
theorem read39 {l:List UInt8} (hz:l.length≤1000) (a:Int):q39_n [.str (bs l), .int a]=some (RD (R71 (headL l) (opsL l) a) (R72 (headL l) (opsL l) a) (R73 (wrd2 (headL l)) (wid2 (headL l)) (opsL l) a)):=by
 have hs:=opsL_short hz
 have hhl:(headL l).length≤1000:=by unfold headL;simp;omega
 have h74:∀d,q74 [d]=some [.int (lenI d)]:=fun d=>(valid_spec d).2.2.2
 have e71:=spec71 (ops:=opsL l) (a:=a) hhl (tst_cls (headL l)).2.2
 have e72:=spec72 (m:=headL l) hs (a:=a)
 have e73:=spec73 (h:=headL l) hhl hs (a:=a)
 rw[q39_n_eq,F39_n_eq,spec70 l hz]
 simp only[qsome_s,qnth_s,List.getD_cons_zero,List.getD_cons_succ,qstr_s,cond_true,insD_eq,e71,e72,e73,h74,qint_i]
 unfold RD szD erD
 simp only[qnot_c]
 generalize R71 (headL l) (opsL l) a=r1
 generalize R72 (headL l) (opsL l) a=r2
 generalize R73 (wrd2 (headL l)) (wid2 (headL l)) (opsL l) a=r3
 cases qbool (r1.getD 1 .other)<;>cases qbool (r2.getD 2 .other)<;>cases qcmp .neq (qint (r2.getD 1 .other)) 0<;>cases qcmp .neq (qint (r3.getD 1 .other)) 0<;>rfl
theorem ne30:qcmp .neq 3 0=true:=by rw[qcmp_neq];rfl
theorem ne00:qcmp .neq 0 0=false:=by rw[qcmp_neq];rfl
theorem ne70:qcmp .neq 7 0=true:=by rw[qcmp_neq];rfl
theorem R71_no {m:List UInt8} {ops:List (List UInt8)} {a:Int} (h1:ix s1L m = -1) (h2:setI m = -1) (h3:ix s2L m = -1):R71 m ops a = [insD 0 0 0 0 0 0 0 0 0, .bool false]:=by
 unfold R71;rw[if_neg (by omega),if_neg (by omega),if_pos (.inl (by omega))]
theorem R72_no {m:List UInt8} {ops:List (List UInt8)} {a:Int} (h:ix meL m = -1):R72 m ops a = [insD a 0 0 0 0 0 0 0 0, .int 0, .bool false]:=by
 unfold R72;rw[if_pos (by omega)]
theorem RD_3 (z x:D) (r3:List D):RD [z, .bool false] [x, .int 0, .bool false] r3=(bif qcmp .neq (qint (r3.getD 1 .other)) 0 then erD (qint (r3.getD 1 .other))else szD (r3.getD 0 .other)):=by
 unfold RD;simp only[List.getD_cons_zero,List.getD_cons_succ,qbool_b,cond_false]
theorem R73_cls {m:List UInt8} {ops:List (List UInt8)} {a:Int} (w:Bool) (hb:(∀k,cls m≠ .bare k)∧(∀o c,cls m≠ .one o c)∧(∀o v s,cls m≠ .mem o v s)∨w=true):
 (bif qcmp .neq (qint ((R73 m w ops a).getD 1 .other)) 0 then erD (qint ((R73 m w ops a).getD 1 .other))else szD ((R73 m w ops a).getD 0 .other))=OT (cls m) w ops a:=by
 obtain⟨ht,hg, -⟩:=tst_cls m
 have er:(bif qcmp .neq (qint ((erD 3).getD 1 .other)) 0 then erD (qint ((erD 3).getD 1 .other))else szD ((erD 3).getD 0 .other))=erD 3:=by
  unfold erD;simp only[List.getD_cons_zero,List.getD_cons_succ,qint_i,ne30,cond_true]
 have er3:∀x:D,(bif qcmp .neq (qint ([x,D.int 3].getD 1 .other)) 0 then erD (qint ([x,D.int 3].getD 1 .other))else szD ([x,D.int 3].getD 0 .other))=erD 3:=by
  intro x
  simp only[List.getD_cons_zero,List.getD_cons_succ,qint_i,ne30,cond_true]
 have okk:∀(i o f v c x y:Int),(bif qcmp .neq (qint ([insD a i o f v c x y 0,D.int 0].getD 1 .other)) 0 then erD (qint ([insD a i o f v c x y 0,D.int 0].getD 1 .other))else szD ([insD a i o f v c x y 0,D.int 0].getD 0 .other))=okD a i o f v c x y:=by
  intro i o f v c x y
  simp only[List.getD_cons_zero,List.getD_cons_succ,qint_i,ne00,cond_false];exact szD_ins _ _ _ _ _ _ _ _
 have no:ix opL m = -1→cndI m = -1→decide (m = [99,97,108,108])=false→decide (m = [106,117,109,112,116])=false→R73 m w ops a=erD 3:=by
  intro h1 h2 h3 h4
  unfold R73
  rw[if_neg (by omega),if_neg (by omega),if_neg (by rw[h3];simp),if_neg (by rw[h4];simp)]
 cases hc:cls m with
 |bare k=>
  rcases hb with hb|rfl
  ·exact absurd hc (hb.1 k)
  ·rw[hc]at ht
   simp only[tst,expd,Prod.mk.injEq,List.cons.injEq]at ht
   rw[no ht.1.2.2.2.2.1 ht.1.2.2.2.2.2.1 ht.2.1 ht.2.2,er];rfl
 |one o c=>
  rcases hb with hb|rfl
  ·exact absurd hc (hb.2.1 o c)
  ·rw[hc]at ht
   simp only[tst,expd]at ht
   split at ht<;>simp only[Prod.mk.injEq,List.cons.injEq]at ht<;>(rw[no ht.1.2.2.2.2.1 ht.1.2.2.2.2.2.1 ht.2.1 ht.2.2,er];rfl)
 |mem o v s=>
  rcases hb with hb|rfl
  ·exact absurd hc (hb.2.2 o v s)
  ·rw[hc]at ht
   simp only[tst,expd,Prod.mk.injEq,List.cons.injEq]at ht
   rw[no ht.1.2.2.2.2.1 ht.1.2.2.2.2.2.1 ht.2.1 ht.2.2,er];rfl
 |unk=>
  rw[hc]at ht
  simp only[tst,expd,Prod.mk.injEq,List.cons.injEq]at ht
  rw[no ht.1.2.2.2.2.1 ht.1.2.2.2.2.2.1 ht.2.1 ht.2.2,er];rfl
 |call=>
  rw[hc]at ht
  simp only[tst,expd,Prod.mk.injEq,List.cons.injEq]at ht
  obtain⟨⟨_,_,_,_,t5,t6,_⟩,t7,t8⟩:=ht
  simp only[OT]
  unfold R73
  rw[if_neg (by omega),if_neg (by omega),t7,t8]
  by_cases h:w=false∧ops.length=1
  ·obtain⟨rfl,h1⟩:=h
   rw[if_pos ⟨rfl,rfl,h1⟩,h1]
   cases hn:numB (op ops 0)with
   |true=>exact okk _ _ _ _ _ _ _
   |false=>exact er3 _
  ·rw[if_neg (fun x=>h ⟨x.2.1,x.2.2⟩),if_neg (by simp),er]
   cases w with
   |true=>rfl
   |false=>rw[decide_eq_false (fun x=>h ⟨rfl,x⟩)];rfl
 |jumpt=>
  rw[hc]at ht
  simp only[tst,expd,Prod.mk.injEq,List.cons.injEq]at ht
  obtain⟨⟨_,_,_,_,t5,t6,_⟩,t7,t8⟩:=ht
  simp only[OT]
  unfold R73
  rw[if_neg (by omega),if_neg (by omega),t7,t8,if_neg (by simp)]
  by_cases h:w=false∧ops.length=2
  ·obtain⟨rfl,h1⟩:=h
   rw[if_pos ⟨rfl,rfl,h1⟩,h1]
   cases hr:regB (op ops 0)with
   |false=>exact er
   |true=>
    cases hn:numB (op ops 1)with
    |true=>exact okk _ _ _ _ _ _ _
    |false=>exact er3 _
  ·rw[if_neg (fun x=>h ⟨x.2.1,x.2.2⟩),er]
   cases w with
   |true=>rfl
   |false=>rw[decide_eq_false (fun x=>h ⟨rfl,x⟩)];rfl
 |ar k=>
  rw[hc]at ht hg
  simp only[tst,expd,Prod.mk.injEq,List.cons.injEq]at ht
  obtain⟨⟨_,_,_,_,t5,t6,_⟩,t7,t8⟩:=ht
  simp only[clsG,decide_eq_true_eq]at hg
  simp only[OT]
  unfold R73 arOk arI
  rw[t5,t6,t7,t8]
  by_cases h:ops.length=2
  ·rw[if_pos ⟨hg.1,h⟩,h]
   cases hr:regB (op ops 0)with
   |false=>exact er
   |true=>
    cases hr1:regB (op ops 1)with
    |true=>
     cases w with
     |true=>exact er
     |false=>exact okk _ _ _ _ _ _ _
    |false=>
     cases hn:numB (op ops 1)with
     |true=>exact okk _ _ _ _ _ _ _
     |false=>exact er
  ·rw[if_neg (fun x=>h x.2),if_neg (by omega),if_neg (by simp),if_neg (by simp),er,decide_eq_false h];rfl
 |jmp cc=>
  rw[hc]at ht hg
  simp only[tst,expd,Prod.mk.injEq,List.cons.injEq]at ht
  obtain⟨⟨_,_,_,_,t5,t6,_⟩,t7,t8⟩:=ht
  simp only[clsG,decide_eq_true_eq]at hg
  simp only[OT]
  unfold R73
  rw[t5,t6,t7,t8,if_neg (by omega)]
  by_cases h:ops.length=1
  ·rw[if_pos ⟨hg.1,h⟩,h]
   cases hn:numB (op ops 0)with
   |true=>exact okk _ _ _ _ _ _ _
   |false=>exact er
  ·rw[if_neg (fun x=>h x.2),if_neg (by simp),if_neg (by simp),er,decide_eq_false h];rfl
theorem ref39 {l:List UInt8} (hz:l.length≤1000) (a:Int):q39_n [.str (bs l), .int a]=some (OT (cls (word l)) (wide l) (opsL l) a):=by
 rw[read39 hz a]
 congr 1
 cases hw:wide l with
 |true=>
  have hsf:sfx [46,119] (headL l)=true:=hw
  have ht:=tst_w hsf
  simp only[tst,expd,Prod.mk.injEq,List.cons.injEq]at ht
  obtain⟨⟨t1,t2,t3,t4,t5,t6,_⟩,t7,t8⟩:=ht
  rw[R71_no t1 t3 t2,R72_no t4,RD_3]
  have hword:word l=(headL l).take ((headL l).length-2):=by unfold word;rw[hw];rfl
  by_cases h2:2<(headL l).length
  ·have hw2:wid2 (headL l)=true:=by unfold wid2;rw[decide_eq_true h2,hsf];rfl
   have hm:wrd2 (headL l)=word l:=by unfold wrd2;rw[hw2,hword];rfl
   rw[hw2,hm]
   exact R73_cls true (.inr rfl)
  ·have hw2:wid2 (headL l)=false:=by unfold wid2;rw[decide_eq_false h2];rfl
   have hm:wrd2 (headL l)=headL l:=by unfold wrd2;rw[hw2];rfl
   have hnil:word l = []:=by rw[hword,show(headL l).length-2=0 by omega];rfl
   rw[hw2,hm,hnil]
   have hr:R73 (headL l) false (opsL l) a=erD 3:=by
    unfold R73
    rw[if_neg (by omega),if_neg (by omega),if_neg (by rw[t7];simp),if_neg (by rw[t8];simp)]
   rw[hr]
   have hcn:cls [] = .unk:=by rfl
   rw[hcn]
   unfold erD;simp only[List.getD_cons_zero,List.getD_cons_succ,qint_i,ne30,cond_true];rfl
 |false=>
  have hsf:sfx [46,119] (headL l)=false:=hw
  have hw2:wid2 (headL l)=false:=by unfold wid2;rw[hsf];cases decide (2<(headL l).length)<;>rfl
  have hm:wrd2 (headL l)=headL l:=by unfold wrd2;rw[hw2];rfl
  have hword:word l=headL l:=by unfold word;rw[hw];rfl
  rw[hw2,hm,hword]
  generalize headL l=m
  generalize opsL l=ops
  obtain⟨ht,hg, -⟩:=tst_cls m
  have third:(∀k,cls m≠ .bare k)∧(∀o c,cls m≠ .one o c)∧(∀o v s,cls m≠ .mem o v s)→ix s1L m = -1→ix s2L m = -1→setI m = -1→ix meL m = -1→RD (R71 m ops a) (R72 m ops a) (R73 m false ops a)=OT (cls m) false ops a:=by
   intro hb h1 h2 h3 h4
   rw[R71_no h1 h3 h2,R72_no h4,RD_3]
   exact R73_cls false (.inl hb)
  have no:ix opL m = -1→cndI m = -1→decide (m = [99,97,108,108])=false→decide (m = [106,117,109,112,116])=false→R73 m false ops a=erD 3:=by
   intro h1 h2 h3 h4
   unfold R73
   rw[if_neg (by omega),if_neg (by omega),if_neg (by rw[h3];simp),if_neg (by rw[h4];simp)]
  have er:∀z x:D,RD [z, .bool false] [x, .int 0, .bool false] (erD 3)=erD 3:=by
   intro z x
   rw[RD_3];unfold erD;simp only[List.getD_cons_zero,List.getD_cons_succ,qint_i,ne30,cond_true]
  have ok1:∀(i o f v c x y:Int) (r2 r3:List D),RD [insD a i o f v c x y 0, .bool true] r2 r3=okD a i o f v c x y:=by
   intro i o f v c x y r2 r3
   unfold RD;simp only[List.getD_cons_zero,List.getD_cons_succ,qbool_b,cond_true];exact szD_ins _ _ _ _ _ _ _ _
  cases hc:cls m with
  |unk=>
   rw[hc]at ht third
   simp only[tst,expd,Prod.mk.injEq,List.cons.injEq]at ht
   exact third ⟨fun _=>by simp,fun _ _=>by simp,fun _ _ _=>by simp⟩ ht.1.1 ht.1.2.1 ht.1.2.2.1 ht.1.2.2.2.1
  |call=>
   rw[hc]at ht third
   simp only[tst,expd,Prod.mk.injEq,List.cons.injEq]at ht
   exact third ⟨fun _=>by simp,fun _ _=>by simp,fun _ _ _=>by simp⟩ ht.1.1 ht.1.2.1 ht.1.2.2.1 ht.1.2.2.2.1
  |jumpt=>
   rw[hc]at ht third
   simp only[tst,expd,Prod.mk.injEq,List.cons.injEq]at ht
   exact third ⟨fun _=>by simp,fun _ _=>by simp,fun _ _ _=>by simp⟩ ht.1.1 ht.1.2.1 ht.1.2.2.1 ht.1.2.2.2.1
  |ar k=>
   rw[hc]at ht third
   simp only[tst,expd,Prod.mk.injEq,List.cons.injEq]at ht
   exact third ⟨fun _=>by simp,fun _ _=>by simp,fun _ _ _=>by simp⟩ ht.1.1 ht.1.2.1 ht.1.2.2.1 ht.1.2.2.2.1
  |jmp cc=>
   rw[hc]at ht third
   simp only[tst,expd,Prod.mk.injEq,List.cons.injEq]at ht
   exact third ⟨fun _=>by simp,fun _ _=>by simp,fun _ _ _=>by simp⟩ ht.1.1 ht.1.2.1 ht.1.2.2.1 ht.1.2.2.2.1
  |bare k=>
   rw[hc]at ht hg
   simp only[tst,expd,Prod.mk.injEq,List.cons.injEq]at ht
   obtain⟨⟨t1,t2,t3,t4,t5,t6,_⟩,t7,t8⟩:=ht
   simp only[clsG,decide_eq_true_eq]at hg
   simp only[OT]
   rw[no t5 t6 t7 t8,R72_no t4]
   unfold R71
   rw[t1,t2,t3]
   by_cases h:ops.length=0
   ·rw[if_pos ⟨hg.1,h⟩,decide_eq_true h];exact ok1 _ _ _ _ _ _ _ _ _
   ·rw[if_neg (fun x=>h x.2),if_neg (by omega),if_pos (.inl (by omega)),decide_eq_false h];exact er _ _
  |one o c=>
   rw[hc]at ht hg
   simp only[clsG,decide_eq_true_eq]at hg
   simp only[OT]
   simp only[tst,expd]at ht
   by_cases h25:o=25
   ·rw[if_pos h25]at ht
    simp only[Prod.mk.injEq,List.cons.injEq]at ht
    obtain⟨⟨t1,t2,t3,t4,t5,t6,_⟩,t7,t8⟩:=ht
    rw[no t5 t6 t7 t8,R72_no t4]
    unfold R71
    rw[t1,t2,t3,if_neg (by omega),if_pos (by omega)]
    subst h25
    by_cases h:ops.length=1
    ·rw[if_pos h,decide_eq_true h]
     cases hr:regB (op ops 0)with
     |true=>exact ok1 _ _ _ _ _ _ _ _ _
     |false=>exact er _ _
    ·rw[if_neg h,decide_eq_false h];exact er _ _
   ·rw[if_neg h25]at ht
    simp only[Prod.mk.injEq,List.cons.injEq]at ht
    obtain⟨⟨t1,t2,t3,t4,t5,t6,_⟩,t7,t8⟩:=ht
    rw[no t5 t6 t7 t8,R72_no t4]
    have hs2:s2op (ix s2L m)=o∧0≤ix s2L m∧c=0:=by
     rw[t2]
     rcases hg with hg|⟨h0,hg|hg|hg|hg|hg|hg⟩
     ·exact absurd hg.1 h25
     all_goals (subst hg;exact⟨by decide,by decide,h0⟩)
    unfold R71
    rw[t1,t3,if_neg (by omega),if_neg (by omega),hs2.1,hs2.2.2]
    by_cases h:ops.length=1
    ·rw[if_neg (by have:=hs2.2.1;omega),decide_eq_true h]
     cases hr:regB (op ops 0)with
     |true=>exact ok1 _ _ _ _ _ _ _ _ _
     |false=>exact er _ _
    ·rw[if_pos (.inr h),decide_eq_false h];exact er _ _
  |mem o v s=>
   rw[hc]at ht hg
   simp only[tst,expd,Prod.mk.injEq,List.cons.injEq]at ht
   obtain⟨⟨t1,t2,t3,t4,t5,t6,_⟩,t7,t8⟩:=ht
   simp only[clsG,decide_eq_true_eq]at hg
   have hme:0≤ix meL m∧meO (ix meL m)=o∧meW (ix meL m)=v∧decide (meO (ix meL m)=18)=s:=by
    rw[t4]
    rcases hg with⟨rfl,rfl|rfl|rfl,rfl⟩|⟨rfl,rfl|rfl,rfl⟩|⟨rfl,rfl|rfl|rfl,rfl⟩|⟨rfl,rfl,rfl⟩<;>decide
   simp only[OT]
   rw[no t5 t6 t7 t8,R71_no t1 t3 t2]
   unfold R72
   rw[if_neg (by omega),hme.2.2.2,hme.2.1,hme.2.2.1]
   cases hok:meOk ops s with
   |false=>
    rw[if_pos rfl]
    unfold RD;simp only[List.getD_cons_zero,List.getD_cons_succ,qbool_b,cond_true,cond_false,qint_i,ne30];rfl
   |true=>
    rw[if_neg (by simp)]
    unfold RD;simp only[List.getD_cons_zero,List.getD_cons_succ,qbool_b,cond_true,cond_false,qint_i]
    rcases plE (meP ops s)with h|h|h
    ·rw[h,ne00];exact szD_ins _ _ _ _ _ _ _ _
    ·exfalso;unfold meOk at hok;rw[h]at hok;simp at hok
    ·rw[h,ne70];rfl
def Pr2 (r:List D):Prop:=∃I e,r = [I, .int e]
theorem pr_cond {c:Bool} {x y:List D} (h:Pr2 x) (h':Pr2 y):Pr2 (bif c then x else y):=by cases c;exact h';exact h
theorem parse_eq {l:List UInt8} (hz:l.length≤1000) (a:Int):∃I e,q11 [.str (bs l), .int a]=some [I, .int e]∧q12 [.str (bs l), .int a]=some [I, .int e]:=by
 have hOT:∀c w ops,Pr2 (OT c w ops a):=by
  intro c w ops
  cases c<;>simp only[OT]
  case unk=>exact⟨_,_,rfl⟩
  case mem=>exact pr_cond (pr_cond ⟨_,_,rfl⟩ ⟨_,_,rfl⟩) ⟨_,_,rfl⟩
  all_goals exact pr_cond ⟨_,_,rfl⟩ ⟨_,_,rfl⟩
 obtain⟨I,e,h⟩:=hOT (cls (word l)) (wide l) (opsL l)
 refine⟨I,e,?_,?_⟩
 ·rw[q11_eq,F11_eq,text37 l hz a,h]
  simp only[qsome_s,qnth_s,List.getD_cons_zero,List.getD_cons_succ,qbool_b,qstr_s,qint_i,qnot_c,cond_true,cond_false]
 ·rw[q12_eq,F12_eq,ref39 hz a,h]
  simp only[qsome_s,qnth_s,List.getD_cons_zero,List.getD_cons_succ,qbool_b,qstr_s,qint_i,qnot_c,cond_true,cond_false]
theorem law4 (s:ByteArray) (a:Int):q4 [.str s, .int a]=some [.bool true]:=by
 obtain⟨l,rfl⟩:=bs_of s
 rw[q4_eq,F4_eq,len_bs,show qcmp .gtr (l.length:Int) 200=decide (200<l.length)from gtI l.length 200,q10_eq]
 by_cases h:200<l.length
 ·rw[decide_eq_true h];simp only[qsome_s,qnth_s,List.getD_cons_zero,List.getD_cons_succ,qbool_b,qstr_s,qint_i,qnot_c,cond_true,cond_false]
 ·obtain⟨I,e,h1,h2⟩:=parse_eq (l:=l) (by omega) a
  rw[decide_eq_false h,h1,h2]
  simp only[qsome_s,qnth_s,List.getD_cons_zero,List.getD_cons_succ,qbool_b,qstr_s,qint_i,qnot_c,cond_true,cond_false,qeqI_self,qand_c,Bool.and_self,qiteB_c]
end Go.Proofs.YtobhhfbdelnhfaaGreatDoor
namespace Go.Proofs.YtobhhfbdelnhfaaGreatDoor
open Go Go.AM
def isLitV:AV→Bool
 | .ui _ _=>true
 | .ub _=>true
 |_=>false
def litV:AV→Value
 | .ui k n=> .int k n
 | .ub b=> .bool b
 |_=> .bool false
theorem repL_lits {ρ:Nat→Option Nat} {E:Nat→Prop} {w:World}:∀(l:List AV) (cs:List Value),l.all isLitV=true→RepL ρ E w l cs→cs=l.map litV
 | [],cs,_,h=>by simpa[RepL]using h
 |c::l,cs,hl,h=>by
  simp only[List.all_cons,Bool.and_eq_true]at hl
  simp only[RepL]at h
  obtain⟨v,vs,rfl,h1,h2⟩:=h
  rw[repL_lits l vs hl.2 h2]
  cases c<;>simp only[isLitV]at hl<;>first|(cases hl.1;done)|skip
  all_goals (simp only[Rep]at h1;subst h1;rfl)
theorem okT:okTypes PG=true:=by kernel_rfl
theorem pg:PG=Tryz.prog:=by unfold PG;rfl
theorem arr_len {H:Type} {enc:TypeId×Value→H} {P:Program} {w:World} {base:Nat} {sp:Nat→Bool} {held:Bool} {fuel:Nat} {t e:TypeId} {n:Nat} {cs:List Value} {d:DataW H} {p:List MemPlace}
 (ht:P.underlying t=some (.array n e)) (h:DataW.trod enc P w base sp held fuel t cs=some (d,p)):cs.length=P.cellsOf t:=by
 cases fuel with
 |zero=>simp[DataW.trod]at h
 |succ fuel=>
  simp only[DataW.trod,ht]at h
  split at h
  ·rename_i hl
   exact hl
  ·cases h
theorem cs_of_laid {w:World} {fuel:Nat} {t e:TypeId} {n:Nat} {cs:List Value} {d:DataW Unit} {p:List MemPlace} {enc:TypeId×Value→Unit} {held:Bool}
 (ht:Tryz.prog.underlying t=some (.array n e)) (hs:t<Tryz.prog.types.size) (hl:layOk PG 8 t=true) (hlit:(cellsT 8 t (toD d)).all isLitV=true)
 (h:DataW.trod enc Tryz.prog w 0 (fun _=>true) held fuel t cs=some (d,p)):cs=(cellsT 8 t (toD d)).map litV:=by
 have hlen:=arr_len ht h
 have h':DataW.trod enc PG w 0 (fun _=>true) held fuel t cs=some (d,p):=by rw[pg];exact h
 obtain⟨hr,_⟩:=trod_rep (P:=PG) okT fuel t cs d p h' (by rw[pg];exact hlen) (by rw[pg];exact hs)
 exact repL_lits _ _ hlit (cellsT_rep (ρ:=nowhere) 8 t (toD d) cs hl hr)
theorem cells151 (d:D):cellsT 8 151 d=(List.range 20).map fun i=> .ui .u64 (qint (qfld d i)):=by kernel_rfl
theorem lit151 (d:D):(cellsT 8 151 d).all isLitV=true:=by rw[cells151];rfl
theorem cells163 (d:D):cellsT 8 163 d=(List.range 64).map fun i=> .ui .u8 (qint (qfld d i)):=by kernel_rfl
theorem lit163 (d:D):(cellsT 8 163 d).all isLitV=true:=by rw[cells163];rfl
theorem int_un (d:D):qint d=d.toInt:=by rw[qint_eq]
def tabCells (g:Nat):List Value:=((findG g GLT).getD []).map fun a=>match a with | .sc v=>v|_=> .bool false
theorem vals0:(cellsT 8 151 (toD (Rows.laid_internal_strconv_uint64pow10 (H:=Unit)))).map litV=tabCells 0:=by
 rw[cells151];simp only[int_un,qfld_eq];rfl
theorem vals5:(cellsT 8 163 (toD (Rows.laid_math_bits_deBruijn64tab (H:=Unit)))).map litV=tabCells 5:=by
 rw[cells163];simp only[int_un,qfld_eq];rfl
theorem glob5:Tryz.prog.globalNamed "math/bits.deBruijn64tab" = some 5:=by kernel_rfl
theorem gty5:(Tryz.prog.globals[5]?).map (·.type)=some 163:=by kernel_rfl
theorem glob0:Tryz.prog.globalNamed "internal/strconv.uint64pow10" = some 0:=by kernel_rfl
theorem gty0:(Tryz.prog.globals[0]?).map (·.type)=some 151:=by kernel_rfl
theorem var_of {W:World} {name:String} {d:DataW Unit} {g t e n:Nat} {rest:List (String×DataW Unit)} (hg:Tryz.prog.globalNamed name=some g) (hty:(Tryz.prog.globals[g]?).map (·.type)=some t) (ht:Tryz.prog.underlying t=some (.array n e)) (hs:t<Tryz.prog.types.size)
 (hl:layOk PG 8 t=true) (hlit:(cellsT 8 t (toD d)).all isLitV=true) (h:laidMet Tryz.prog ((name,d)::rest) W):∃cs:Array Value,W.var? Tryz.prog name=some cs∧cs.toList=(cellsT 8 t (toD d)).map litV:=by
 obtain⟨ps,⟨g',t',cs,fuel,p,q,hg',ht',hvar,hd,_,_⟩,_⟩:=h
 obtain rfl:=Option.some.inj (hg.symm.trans hg')
 obtain rfl:=Option.some.inj (hty.symm.trans ht')
 exact⟨cs,hvar,cs_of_laid ht hs hl hlit hd⟩
theorem var?_all {W:World} {g:Nat} {name:String} {cs:Array Value} {vs:List Value} (hg:Tryz.prog.globalNamed name=some g) (hvar:W.var? Tryz.prog name=some cs) (he:cs.toList=vs):∃c T f,W.heap[g]? = some (.cells c T f)∧c.size=(vs.map AV.sc).length:=by
 simp only[World.var?,hg,Option.bind_some]at hvar
 split at hvar
 ·rename_i c T f hh
  cases hvar
  exact⟨_,_,_,hh,by rw[List.length_map, ← he,Array.length_toList]⟩
 ·cases hvar
theorem repAt_of {W:World} {E:Nat→Prop} {g:Nat} {name:String} {cs:Array Value} {vs:List Value} (hg:Tryz.prog.globalNamed name=some g) (hvar:W.var? Tryz.prog name=some cs) (he:cs.toList=vs) (h0:0<vs.length):g<W.heap.size∧GlRep E W g (vs.map AV.sc):=by
 have hc:∀(i:Nat),W.cell? ⟨g,i,none⟩=vs[i]? :=fun i=>by rw[World.var?_cell hg hvar i, ← he,Array.getElem?_toList]
 refine⟨?_,RepAt.ofL (RepL.sc vs) fun j u hu=>by rw[Nat.zero_add,hc];exact hu,fun _=>var?_all hg hvar he⟩
 by_cases hlt:g<W.heap.size
 ·exact hlt
 ·exfalso
  have h1:W.heap[g]? = none:=Array.getElem?_eq_none (by omega)
  have h2:=hc 0
  rw[List.getElem?_eq_getElem h0]at h2
  simp[World.cell?,h1]at h2
theorem maxLen (W:World) (h:W.ShapedOpen Tryz.prog):∃m,W.cell? ⟨1,0,none⟩=some (.int .i64 m):=
 cell_of_shapedOpen_int (P:=Tryz.prog) (t:=3) (zero:= #[.int .i64 0]) h (of_decide_eq_true (by kernel_rfl)) (by kernel_rfl) (by kernel_rfl) (by kernel_rfl) (by kernel_rfl) Tryz.underlying3
theorem tabs {W:World} {E:Nat→Prop} {l:List (String×DataW Unit)} (hl:l=Rows.textPrintRow.laid) (h:laidMetH Tryz.prog l W) (hsh:W.ShapedOpen Tryz.prog) {S:FunS} {p s:List D} (g:Nat) (cs:List AV) (hgl:(heapF S p s).glob g=some cs):g<W.heap.size∧GlRep E W g cs:=by
 subst hl
 have hp:∀g,(heapF S p s).glob g=findG g GLT:=fun _=>rfl
 rw[hp]at hgl
 cases g with
 |zero=>
  have hf:=laidMetH.filter (fun x=>x.1 == "internal/strconv.uint64pow10") h
  have e:Rows.textPrintRow.laid.filter (fun x=>x.1 == "internal/strconv.uint64pow10") = [("internal/strconv.uint64pow10",Rows.laid_internal_strconv_uint64pow10)]:=by rfl
  rw[e,MakeChecks.laidMetH_plain _ _ _ (by kernel_rfl)]at hf
  obtain⟨a,h1,h2⟩:=var_of glob0 gty0 Tryz.underlying151 (of_decide_eq_true (by kernel_rfl)) (by kernel_rfl) (lit151 _) hf
  rw[vals0]at h2
  have:=repAt_of (E:=E) glob0 h1 h2 (of_decide_eq_true (by kernel_rfl))
  have e2:findG 0 GLT=some ((tabCells 0).map AV.sc):=by rfl
  rw[e2]at hgl
  cases hgl
  exact this
 |succ g=>
  cases g with
  |zero=>
   obtain⟨m,hm⟩:=maxLen W hsh
   have e2:findG (0+1) GLT=some [.anyI .i64]:=by rfl
   rw[e2]at hgl
   cases hgl
   refine⟨?_,?_⟩
   ·by_cases h0:1<W.heap.size
    ·exact h0
    ·exfalso
     have:W.heap[1]? = none:=Array.getElem?_eq_none (by omega)
     simp[World.cell?,this]at hm
   ·refine⟨?_,fun h=>by cases h⟩
    simp only[RepAt]
    exact⟨⟨_,hm,by simp only[Rep];exact⟨m,rfl⟩⟩,trivial⟩
  |succ g=>
   match g,hgl with
   |0,hgl=>have e2:findG (0+1+1) GLT=none:=rfl
           rw[e2]at hgl;cases hgl
   |1,hgl=>have e2:findG (1+1+1) GLT=none:=rfl
           rw[e2]at hgl;cases hgl
   |2,hgl=>have e2:findG (2+1+1) GLT=none:=rfl
           rw[e2]at hgl;cases hgl
   |3,hgl=>
    have hf:=laidMetH.filter (fun x=>x.1 == "math/bits.deBruijn64tab") h
    have e:Rows.textPrintRow.laid.filter (fun x=>x.1 == "math/bits.deBruijn64tab") = [("math/bits.deBruijn64tab",Rows.laid_math_bits_deBruijn64tab)]:=by rfl
    rw[e,MakeChecks.laidMetH_plain _ _ _ (by kernel_rfl)]at hf
    obtain⟨a,h1,h2⟩:=var_of glob5 gty5 Tryz.underlying163 (of_decide_eq_true (by kernel_rfl)) (by kernel_rfl) (lit163 _) hf
    rw[vals5]at h2
    have:=repAt_of (E:=E) glob5 h1 h2 (of_decide_eq_true (by kernel_rfl))
    have e2:findG 5 GLT=some ((tabCells 5).map AV.sc):=by rfl
    rw[e2]at hgl
    cases hgl
    exact this
   |g+4,hgl=>
    have e2:findG (g+4+1+1) GLT=none:=rfl
    rw[e2]at hgl;cases hgl
end Go.Proofs.YtobhhfbdelnhfaaGreatDoor
namespace Go.Proofs.YtobhhfbdelnhfaaGreatDoor
open Go Go.AM
theorem sound4:SoundF env.P 4 S4 q4:=by rw[q4_eq];exact liftX_sound envOk ok_tb10 60 12
theorem top4 {s:ByteArray} {n:Int} (w:World) (hL:laidMetH Tryz.prog Rows.textParseRow.laid w) (hsh:w.ShapedOpen Tryz.prog):
 Calls Tryz.prog 4 #[.string s, .int .u32 n] w fun e w'=>e = .returned (.bool true)∧RowKit.Below w.heap.size w w':=by
 refine(sound4 [] [.str s, .int n] [.bool true] rfl (law4 s n) (fun b=>b<w.heap.size) w nowhere _ w #[.string s, .int .u32 n] (Inv.empty w _ (fun _ h=>h) rfl rfl (fun g cs h=>tabs rfl hL hsh g cs h))
  (RepL.cons (show Rep nowhere _ w (.us s) (.string s)by simp only[Rep]) (RepL.cons (show Rep nowhere _ w (.ui .u32 n) (.int .u32 n)by simp only[Rep]) RepL.nil))).mono ?_
 rintro e w' ⟨u,ρ',E',rfl,inv,reach,rep⟩
 have hr:resF S4 [] (bdL [.bool true]) = .ub true:=rfl
 rw[hr]at rep
 simp only[Rep]at rep
 subst rep
 exact⟨rfl,⟨inv.io.1,inv.io.2.1,inv.io.2.2,reach.size,inv.old⟩⟩
end Go.Proofs.YtobhhfbdelnhfaaGreatDoor
