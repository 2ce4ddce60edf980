/-
  Plain laws: what is not known, unveiled; loops over numbers.
-/
import Derived.Test.YtiojjmlccehpoaaGreatAmS
import Derived.Test.YtiojjmlccehpoaaGreatM1
import Derived.Test.YtiojjmlccehpoaaGreatM2
set_option linter.unusedSimpArgs false
set_option linter.unusedVariables false
namespace Go.AM
theorem aq (r:List D):ap (some r)=true:=by rw[wN];rfl
theorem gZ:ap none=false:=by rw[wN];rfl
theorem ax (r:List D) (j:Nat):ac (some r) j=r.getD j .other:=by rw[DA];rfl
theorem aC (n:Int):ah (.int n)=n:=by rw[iU];rfl
theorem aK (b:Bool):aQ (.bool b)=b:=by rw[jP];rfl
theorem mC (s:ByteArray):aB (.str s)=s:=by rw[mP];rfl
theorem az (a b:Int):ab .lss a b=decide (a<b):=by rw[bY];rfl
theorem cJ (a b:Int):ab .leq a b=decide (a≤b):=by rw[bY];rfl
theorem b9 (a b:Int):ab .gtr a b=decide (b<a):=by rw[bY];rfl
theorem bB (a b:Int):ab .geq a b=decide (b≤a):=by rw[bY];rfl
theorem aD (a b:Int):ab .eql a b=decide (a=b):=by rw[bY];simp only[ef];cases h:decide (a=b)<;>simp_all
theorem cp (a b:Int):ab .neq a b = !decide (a=b):=by rw[bY];simp only[ef,bne];cases h:decide (a=b)<;>simp_all
theorem bN (c a b:Bool):aw c a b=bif c then a else b:=by rw[oZ]
theorem bI (a:Bool):bU a = !a:=by rw[uc]
theorem aL (d:D):ae d=(d.toList.length:Int):=by rw[eH];rfl
theorem MY (d:D) (i:Int):aS d i=(decide (0≤i)&&decide (i<d.toList.length)):=by rw[mS];rfl
theorem bg (d:D) (i:Nat):ay d (i:Int)=d.toList.getD i .other:=by rw[mR];simp[D.get]
theorem aZ {d:D} {i:Nat} (h:i<d.toList.length):aS d (i:Int)=true:=by rw[MY];simp;omega
theorem getD_lt {xs:List D} {i:Nat} (h:i<xs.length):xs.getD i .other=xs[i]:=by simp[List.getD,h]
theorem bk {i:Nat} (h:i<9223372036854775807):aM .add .i64 (i:Int) 1=((i+1:Nat):Int):=by
 rw[wM (by omega) (by omega)];omega
theorem cz {st:List D->Option (Sum (List D) (List D))} {l:D} {c:D->Option (List D)} {p:D->Bool} {r1:Int->List D} {r0:List D}
 (hst:∀i:Int,st [.int i]=bif ab .lss i (ae l)then bif aS l i then bif ap (c (ay l i))then bif aQ (ac (c (ay l i)) 0)then some (.inr (r1 i))else some (.inl [.int (aM .add .i64 i 1)])else none else none else some (.inr r0))
 (hl:l.toList.length≤maxLen) (hc:∀x∈l.toList,c x=some [.bool (p x)]):
 (loW st [.int 0]=some r0∧l.toList.any p=false)∨∃i:Nat,loW st [.int 0]=some (r1 i)∧l.toList.any p=true:=by
 unfold maxLen at hl;have key:∀k i:Nat,i+k=l.toList.length->(loW st [.int i]=some r0∧(l.toList.drop i).any p=false)∨∃j:Nat,loW st [.int i]=some (r1 j)∧(l.toList.drop i).any p=true:=by
  intro k
  induction k with
  |zero=>
   intro i hi
   left
   rw[bD,hst,az,aL,lE (by omega)]
   simp[show¬((i:Int)<l.toList.length)by omega]
  |succ k ih=>
   intro i hi;have hlt:i<l.toList.length:=by omega
   rw[bD,hst,az,aL,aZ hlt,bg,getD_lt hlt,hc _ (b7 hlt),lC hlt];simp only[show((i:Int)<l.toList.length)by omega,be,aj,aq,ax,bf,aK,List.any_cons]
   cases hp:p l.toList[i]with
   |true=>exact .inr ⟨i,rfl,by simp⟩
   |false=>
    simp only[aI,lm];rw[bk (by omega)]
    exact ih (i+1) (by omega)
 have:=key l.toList.length 0 (by omega)
 simpa using this
theorem eL {d:D} {j:Nat} {x:D} (h:x∈(d.fld j).toList):x.size<d.size:=by
 cases d with
 |agg xs=>
  simp only[D.fld,List.getD]at h;cases hx:xs[j]? with
  |none=>rw[hx]at h;simp[D.toList]at h
  |some y=>
   rw[hx]at h;simp only[jG]at h;have h1:=jX hx;cases y with
   |list ys=>
    simp only[D.toList]at h;obtain⟨i,hi⟩:=se h;have h2:=jX hi;simp only[D.size]at h1 ⊢;omega
   |_=>simp[D.toList]at h
 |_=>simp[D.fld,D.toList]at h
end Go.AM
namespace Go.Proofs.YtiojjmlccehpoaaGreat
open Go Go.AM
theorem Cz {s:ByteArray} {i:Nat} (h:(s.get! i).toNat<128):(Utf8.decode s i)=((s.get! i).toNat,1):=by
 unfold Utf8.decode;simp[h]
theorem Sa {s:ByteArray} {i:Nat} (h:¬(s.get! i).toNat<128):128≤(Utf8.decode s i).1:=by
 unfold Utf8.decode;simp only[lq,h,aV,Utf8.runeError]
 repeat' split
 all_goals simp_all
 all_goals omega
def okI (i:Nat) (r:Int):Bool:=(decide (97≤r)&&decide (r≤122))||(decide (65≤r)&&decide (r≤90))||decide (r=95)||decide (r=46)||(!(decide ((i:Int)=0)) && !(decide (r<48)) && !(decide (57<r)))
theorem MZ {i:Nat} {r:Int} (h:128≤r):okI i r=false:=by
 unfold okI;simp only[show¬r≤122 by omega,show¬r≤90 by omega,show¬r=95 by omega,show¬r=46 by omega,show 57<r by omega,bl,be,Bool.and_false,Bool.or_false,bX]
theorem cnd (i:Nat) (r:Int):aw (bU (aw (aw (aw (aw (ab BinOp.geq r 97) (ab BinOp.leq r 122) Bool.false) Bool.true (aw (ab BinOp.geq r 65) (ab BinOp.leq r 90) Bool.false)) Bool.true (ab BinOp.eql r 95)) Bool.true (ab BinOp.eql r 46))) (aw (aw (ab BinOp.eql (i:Int) 0) Bool.true (ab BinOp.lss r 48)) Bool.true (ab BinOp.gtr r 57)) Bool.false = !(okI i r):=by
 simp only[bN,bI,bB,cJ,aD,az,b9,okI];generalize decide (97≤r)=a1;generalize decide (r≤122)=a2;generalize decide (65≤r)=a3;generalize decide (r≤90)=a4;generalize decide (r=95)=a5;generalize decide (r=46)=a6;generalize decide ((i:Int)=0)=a7;generalize decide (r<48)=a8;generalize decide (57<r)=a9;revert a1 a2 a3 a4 a5 a6 a7 a8 a9
 decide
def byt (s:ByteArray) (i:Nat):Int:=(s.data.toList.getD i 0).toNat
theorem Fe {s:ByteArray} {i:Nat} (h:i<s.size):((s.get! i).toNat:Int)=byt s i:=by
 have h1:i<s.data.toList.length:=by simpa using h
 have h2:i<s.data.size:=h;unfold byt;cases s with|mk bs=>simp only[ByteArray.get!,List.getD,getElem!_pos,h2];simp[h2]
theorem idxS {s:ByteArray} {i:Nat}:vt s (i:Int)=byt s i:=by rw[F7];simp[Ba,byt,ByteArray.toList_eq]
theorem inbS {s:ByteArray} {i:Nat} (h:i<s.size):vv s (i:Int)=true:=by rw[F8];simp only[NH];simp[h]
theorem X0 (s:ByteArray):fB s=(s.size:Int):=by rw[oK]
def okF (s:ByteArray):Nat->Nat->Bool
 |_,0=>true
 |i,k+1=>okI i (byt s i)&&okF s (i+1) k
theorem loop139 {s:ByteArray}:∀(k i:Nat),i+k=s.size->∃m,loW (uq [.str s, .str s]) [.int i]=some [.int (bif okF s i k then 0 else 1),m]:=by
 intro k
 induction k with
 |zero=>
  intro i hi;rw[bD,xF,X0,az];simp only[show¬((i:Int)<s.size)by omega,bl,aI,aj,okF]
  exact⟨_,rfl⟩
 |succ k ih=>
  intro i hi;have hlt:i<s.size:=by omega
  rw[bD,xF,X0,az,cnd];simp only[show((i:Int)<s.size)by omega,be,aj,okF]
  have hr:okI i (FU s i)=okI i (byt s i):=by
   rw[FU,ai];simp only[fP];by_cases h:(s.get! i).toNat<128
   ·rw[Cz h,Fe hlt]
   ·rw[MZ (by have:=Sa h;omega),MZ (by rw[<- Fe hlt];omega)]
  rw[hr];cases ho:okI i (byt s i)with
  |false=>simp only[dk,aj,Bool.false_and,aI];exact⟨_,rfl⟩
  |true=>
   have hb:(s.get! i).toNat<128:=by
    by_cases h:(s.get! i).toNat<128
    ·exact h
    ·rw[MZ (by rw[<- Fe hlt];omega)]at ho;cases ho
   have hw:fC true (qrw s i) i=((i+1:Nat):Int):=by
    rw[ew,qrw,ai];simp only[aj,fP,Cz hb];omega
   simp only[bX,aI,lM,hw];exact ih (i+1) (by omega)
theorem loop164 {s:ByteArray} (hs:s.size≤maxLen):∀(k i:Nat),i+k=s.size->loW (ur [.str s]) [.int i]=some [.int (bif okF s i k then 0 else 1)]:=by
 unfold maxLen at hs;intro k
 induction k with
 |zero=>
  intro i hi;rw[bD,xH,X0,az];simp only[show¬((i:Int)<s.size)by omega,bl,aI,aj,okF]
 |succ k ih=>
  intro i hi;have hlt:i<s.size:=by omega
  rw[bD,xH,X0,az,cnd,idxS,inbS hlt];simp only[show((i:Int)<s.size)by omega,be,aj,okF]
  cases ho:okI i (byt s i)with
  |false=>simp only[dk,aj,Bool.false_and,aI]
  |true=>
   simp only[bX,aI,lM];rw[bk (by omega)]
   exact ih (i+1) (by omega)
def Jg:List (List UInt8)->List UInt8
 | []=>[]
 |w::ws=>w++32::Jg ws
theorem Jh:∀(s w r:List UInt8),32 ∉ s->32 ∉ w->(s ++ [32]).isPrefixOf (w++32::r)=(w==s)
 | [],[],r,_,_=>by simp[List.isPrefixOf]
 | [],x::w,r,_,hw=>by
   have:¬(32:UInt8)=x:=fun e=>hw (by simp[e])
   simp[List.isPrefixOf,this]
 |y::s,[],r,hs,_=>by
  have:¬y=(32:UInt8):=fun e=>hs (by simp[e])
  simp[List.isPrefixOf,this]
 |y::s,x::w,r,hs,hw=>by
  have ih:=Jh s w r (fun h=>hs (by simp[h])) (fun h=>hw (by simp[h]))
  simp only[lH,List.isPrefixOf,ih];by_cases h:x=y
  ·subst h;simp
  ·rw[show(y==x)=false from beq_false_of_ne fun e=>h e.symm]
   symm
   simp[h]
theorem Ji:∀(w r t:List UInt8),32 ∉ w->oj (w++r) (32::t)=oj r (32::t)
 | [],r,t,_=>rfl
 |x::w,r,t,hw=>by
  have h:¬(32:UInt8)=x:=fun e=>hw (by simp[e])
  have ih:=Ji w r t (fun h=>hw (by simp[h]))
  rw[lH,oj,ih];simp[List.isPrefixOf,h]
theorem CA (s:List UInt8) (hs:32 ∉ s):∀ws:List (List UInt8),(∀w∈ws,32 ∉ w)->oj (32::Jg ws) (32::(s ++ [32]))=ws.any (· == s)
 | [],_=>by
   cases s with
   |nil=>rfl
   |cons y s=>simp[Jg,oj,List.isPrefixOf]
 |w::ws,h=>by
  have ih:=CA s hs ws fun x hx=>h x (by simp[hx])
  have hw:=h w (by simp)
  rw[oj,Jg,Ji w _ _ hw,ih];simp only[List.isPrefixOf,beq_self_eq_true,lM,Jh s w _ hs hw,List.any_cons]
theorem Pw {s:ByteArray}:∀(k i:Nat),okF s i k=true->∀j,i≤j->j<i+k->okI j (byt s j)=true
 |0,i,_,j,h1,h2=>by omega
 |k+1,i,h,j,h1,h2=>by
  simp only[okF,bn]at h;by_cases e:j=i
  ·subst e;exact h.1
  ·exact Pw k (i+1) h.2 j (by omega) (by omega)
theorem X1 {s:ByteArray} (h:okF s 0 s.size=true):32 ∉ s.data.toList:=by
 intro hm;obtain⟨j,hj⟩:=se hm;have hlt:j<s.data.toList.length:=(cU.1 hj).1;have hb:byt s j=32:=by unfold byt;simp[List.getD,hj]
 have h1:=Pw s.size 0 h j (by omega) (by simpa using hlt)
 rw[hb]at h1;revert h1;simp only[okI,be,bl,show¬(97:Int)≤32 by omega,show¬(65:Int)≤32 by omega,show¬(32:Int)=95 by omega,show¬(32:Int)=46 by omega,show(32:Int)<48 by omega]
 simp
theorem wordsD:∃ws,q217 []=some [.list ws]∧ws.length≤100∧(∀w∈ws,32 ∉ (aB w).data.toList)∧
 (ByteArray.mk #[32,98,114,101,97,107,32,99,97,108,108,32,99,97,115,101,32,99,111,110,116,105,110,117,101,32,100,97,116,97,32,101,108,115,101,32,101,120,101,99,32,102,117,110,99,32,103,111,116,111,32,104,97,108,116,32,105,102,32,105,110,32,108,111,111,112,32,111,117,116,32,114,101,116,117,114,110,32,115,119,105,116,99,104,32,118,97,114,32,119,104,105,108,101,32,119,114,105,116,101,32,108,111,97,100,49,32,108,111,97,100,50,32,108,111,97,100,52,32,115,101,120,116,49,32,115,101,120,116,50,32,115,116,111,114,101,49,32,115,116,111,114,101,50,32,115,116,111,114,101,52,32]).data.toList=32::Jg (ws.map fun d=>(aB d).data.toList):=by
 refine⟨_,by rw[Or,F217_eq],by decide,?_,?_⟩
 ·intro w hw;simp only[cy,fx,fz]at hw;rcases hw with rfl|rfl|rfl|rfl|rfl|rfl|rfl|rfl|rfl|rfl|rfl|rfl|rfl|rfl|rfl|rfl|rfl|rfl|rfl|rfl|rfl|rfl|rfl|rfl|rfl|rfl|rfl<;>rw[mC]<;>decide
 ·simp only[bW,jH,mC];decide
theorem ez (a b:ByteArray):cI .eql a b=(a.data.toList==b.data.toList):=by rw[oJ];simp only[vq,ByteArray.toList_eq]
theorem zN (a b:ByteArray):cI .neq a b = !(a.data.toList==b.data.toList):=by rw[oJ];simp only[vq,ByteArray.toList_eq]
theorem Sb {s:ByteArray} {ws:List D} (hl:ws.length≤100):ut [.str s, .list ws] [.int 0]=some [.int (if ws.any (fun d=>(aB d).data.toList==s.data.toList)then 1 else 0)]:=by
 rw[xJ]
 have hloop:=cz (st:=pt [.str s, .list ws]) (l:= .list ws) (c:=fun x=>some [.bool (cI .eql (aB x) s)]) (p:=fun d=>(aB d).data.toList==s.data.toList) (r1:=fun _=>[.int 1]) (r0:=[.int 0])
  (fun i=>by rw[Hi];simp only[aq,ax,bf,aK,aj]) (by unfold maxLen;simp only[D.toList];omega) (fun x _=>by rw[ez])
 simp only[D.toList]at hloop;rcases hloop with⟨h1,h2⟩|⟨i,h1,h2⟩
 ·simp only[h1,h2];rfl
 ·simp only[h1,h2];rfl
theorem Sc {s:ByteArray} (hs:s.size≤maxLen):∃b,AX [.str s]=some [.bool b]∧DS [.str s]=some [.bool b]:=by
 obtain⟨m,h1⟩:=loop139 (s:=s) s.size 0 (by omega)
 have h2:=loop164 hs s.size 0 (by omega)
 simp only[b8]at h1 h2;obtain⟨ws,w1,w2,w3,w4⟩:=wordsD;have e1:DP [.str s, .str s] [.int 0]=some [.int (bif okF s 0 s.size then 0 else 1),m]:=by rw[BU];exact h1
 have e2:DQ [.str s] [.int 0]=some [.int (bif okF s 0 s.size then 0 else 1)]:=by rw[BV];exact h2
 rw[Oq,F139_eq,Ou,F164_eq,e1,e2,w1];simp only[aq,ax,bf,aC,aj,Sb w2];cases ho:okF s 0 s.size with
 |false=>exact⟨false,by simp[aD],by simp[aD]⟩
 |true=>
  simp only[aD,be,aj,bN,cJ,b9,X0,zN];have hn:=X1 ho;have hh:qhas (ByteArray.mk #[32,98,114,101,97,107,32,99,97,108,108,32,99,97,115,101,32,99,111,110,116,105,110,117,101,32,100,97,116,97,32,101,108,115,101,32,101,120,101,99,32,102,117,110,99,32,103,111,116,111,32,104,97,108,116,32,105,102,32,105,110,32,108,111,111,112,32,111,117,116,32,114,101,116,117,114,110,32,115,119,105,116,99,104,32,118,97,114,32,119,104,105,108,101,32,119,114,105,116,101,32,108,111,97,100,49,32,108,111,97,100,50,32,108,111,97,100,52,32,115,101,120,116,49,32,115,101,120,116,50,32,115,116,111,114,101,49,32,115,116,111,114,101,50,32,115,116,111,114,101,52,32]) (J8 (J8 (ByteArray.mk #[32]) s) (ByteArray.mk #[32]))=ws.any (fun d=>(aB d).data.toList==s.data.toList):=by
   rw[On,Di];have ht:((ByteArray.mk #[32]++s)++ByteArray.mk #[32]).data.toList=32::(s.data.toList ++ [32]):=by simp
   show oj _ (((ByteArray.mk #[32]++s)++ByteArray.mk #[32]).data.toList)=_
   rw[w4,ht,CA _ hn _ (fun w hw=>by obtain⟨d,hd,rfl⟩:=ic.1 hw;exact w3 d hd),List.any_map]
   rfl
  simp only[hh];have hz:(s.data.toList==(ByteArray.mk #[]).data.toList)=decide (s.size=0):=by
   rw[fy];simp only[gk,cl]
   show s.data.toList = []↔s.data.size=0
   rw[<- Array.length_toList,gh]
  rw[hz];have hcat:decide (s.size=0)=false->decide ((s.size:Int)≤32)=true->(ci (jm (ByteArray.mk #[32]) s) (jm (J8 (ByteArray.mk #[32]) s) (ByteArray.mk #[32])))=true:=by
   intro _ h;have h:(s.size:Int)≤32:=by simpa using h
   rw[iV,Bm,Di];simp only[bn,cl];have:(ByteArray.mk #[32]++s).size=1+s.size:=by rw[ByteArray.size_append];rfl
   rw[this];have:(ByteArray.mk #[32]).size=1:=rfl;omega
  refine⟨!(ws.any (fun d=>(aB d).data.toList==s.data.toList))&&(!(decide (s.size=0))&&decide ((s.size:Int)≤32)),?_,?_⟩
  ·cases e1:decide (s.size=0)with
   |true=>simp
   |false=>
    cases e2:decide ((s.size:Int)≤32)with
    |false=>simp
    |true=>rw[hcat e1 e2];simp[bI]
  ·have h0:∀n:Nat,decide (0<(n:Int)) = !(decide (n=0)):=fun n=>by
    rcases Nat.eq_zero_or_pos n with rfl|h
    ·rfl
    ·simp only[show 0<(n:Int)by omega,show¬n=0 by omega,be,bl,dk]
   rw[h0 s.size];cases ws.any (fun d=>(aB d).data.toList==s.data.toList)with
   |true=>simp
   |false=>
    generalize decide (s.size=0)=z;generalize decide ((s.size:Int)≤32)=y;cases z<;>cases y<;>simp
end Go.Proofs.YtiojjmlccehpoaaGreat
namespace Go.Proofs.YtiojjmlccehpoaaGreat
noncomputable section
open Go Go.AM
theorem kY {T e:TypeId} {j F:Nat} {d:D} (hT:dl T j F=true) (hF:ml F e=true) (h:Conf PG T d):(d.fld j).toList.length≤maxLen∧∀x∈(d.fld j).toList,Conf PG e x:=by
 have h1:=wL hT (qconf_iff.2 h);have h2:=qconfL_iff.1 (BF hF h1);rw[bx]at h2;exact⟨h2.1,h2.2.2⟩
theorem Px:dl 25 4 23=true:=by kernel_rfl
theorem s23:ml 23 25=true:=by kernel_rfl
theorem f25_2:dl 25 2 9=true:=by kernel_rfl
def Ff (T:TypeId):Bool:=match PG.underlying T with|some .string=>true|_=>false
theorem str9:Ff 9=true:=by kernel_rfl
theorem eA {d:D} (h:Conf PG 9 d):(aB d).size≤maxLen:=by
 have ht:=str9;unfold Ff at ht;cases hu:PG.underlying 9 with
 |none=>rw[hu]at ht;cases ht
 |some td=>
  rw[hu]at ht;cases h with
  |str h1 hl=>rw[mC];exact hl
  |slice h1 hl hd=>rw[h1]at hu;cases hu;cases ht
  |struct h1=>rw[h1]at hu;cases hu;cases ht
  |bool h1=>rw[h1]at hu;cases hu;cases ht
  |int h1=>rw[h1]at hu;cases hu;cases ht
  |array h1=>rw[h1]at hu;cases hu;cases ht
  |other h1=>unfold dg at h1;rw[hu]at h1;cases td<;>simp_all
def opd (d:D):List D:=(d.fld 4).toList
theorem mD {d x:D} (h:x∈opd d):x.size<d.size:=eL h
theorem Jj {Q:uAC} {l:D} {n:Int} {p:D->Bool} (hl:l.toList.length≤maxLen) (hc:∀x∈l.toList,Q8 Q [x, .int n]=some [.bool (p x)]):mt Q [l, .int n]=some [.bool (l.toList.any p)]:=by
 rw[s3,Ho,sZ,Hm,ny];rcases cz (st:=jc Q [l, .int n, .int (ae l)]) (c:=fun x=>Q8 Q [x, .int n]) (r1:=fun i=>[.int 1, .int i]) (r0:=[.int 0]) (fun i=>xL Q l n (ae l) i) hl hc with⟨h1,h2⟩|⟨i,h1,h2⟩
 ·simp[h1,h2,aq,ax,aC,aD,bB]
 ·simp[h1,h2,aq,ax,aC,aD,bB]
theorem Jk {Q:uAC} {l:D} {p:D->Bool} (hl:l.toList.length≤maxLen) (hc:∀x∈l.toList,Q9 Q [x]=some [.bool (p x)]):pw Q [l]=some [.bool (l.toList.any p)]:=by
 rw[s6,Ht,s5,Hr,nz];rcases cz (st:=jd Q [l, .int (ae l)]) (c:=fun x=>Q9 Q [x]) (r1:=fun i=>[.int 1, .int i]) (r0:=[.int 0]) (fun i=>xO Q l (ae l) i) hl hc with⟨h1,h2⟩|⟨i,h1,h2⟩
 ·simp[h1,h2,aq,ax,aC,aD,bB]
 ·simp[h1,h2,aq,ax,aC,aD,bB]
theorem Jl {Q:uAC} {l v:D} {p:D->Bool} (hl:l.toList.length≤maxLen) (hc:∀x∈l.toList,j9 Q [x,v]=some [.bool (p x)]):pD Q [l,v]=some [.bool (l.toList.any p)]:=by
 rw[te,HQ,tc,HO,nB];rcases cz (st:=jf Q [l,v, .int (ae l)]) (c:=fun x=>j9 Q [x,v]) (r1:=fun i=>[.int 1, .int i]) (r0:=[.int 0]) (fun i=>ya Q l v (ae l) i) hl hc with⟨h1,h2⟩|⟨i,h1,h2⟩
 ·simp[h1,h2,aq,ax,aC,aD,bB]
 ·simp[h1,h2,aq,ax,aC,aD,bB]
def iA:Nat->D->Int->Bool
 |0,_,_=>false
 |N+1,d,n=>decide (n<1)||(d.fld 4).toList.any fun x=>iA N x (n-1)
theorem Sd:∀(N:Nat) (d:D) (n:Int),Conf PG 25 d->d.size<N-> -9223372036854775808≤n->n≤9223372036854775807->Hv N [d, .int n]=some [.bool (iA N d n)]∧F85 N [d, .int n]=some [.bool (!iA N d n)]:=by
 intro N
 induction N with
 |zero=>intro d n _ h;omega
 |succ N ih=>
  intro d n hd hs h0 h1;obtain⟨hl,hx⟩:=kY Px s23 hd;rw[F105_s,F85_s,U5,Fb85_eq];by_cases hn:n<1
  ·simp[cJ,bB,hn,bN,iA,show¬1≤n by omega,show n≤0 by omega]
  ·have hsub:aM .sub .i64 n 1=n-1:=fp (by omega) (by omega)
   have hel:∀x∈(d.fld 4).toList,Hv N [x, .int (n-1)]=some [.bool (iA N x (n-1))]∧F85 N [x, .int (n-1)]=some [.bool (!iA N x (n-1))]:=
    fun x hm=>ih x (n-1) (hx x hm) (by have:=eL hm;omega) (by omega) (by omega)
   have h82:∀x∈(d.fld 4).toList,Q8 (F85 N) [x, .int n]=some [.bool (iA N x (n-1))]:=fun x hm=>by
    rw[Ow,F138_eq,hsub,(hel x hm).2];simp[aq,ax,aK,bI]
   have hcon:=Jj (n:=n) hl h82;rw[BX,bx,hcon]
   have hloop:=cz (st:=uw (Hv N) [.int n,d]) (l:=d.fld 4) (c:=fun x=>Hv N [x, .int (n-1)]) (p:=fun x=>iA N x (n-1)) (r1:=fun _=>[.int 1]) (r0:=[.int 0])
    (fun i=>by rw[Lo,hsub,bx]) hl (fun x hm=>(hel x hm).1)
   rcases hloop with⟨h3,h4⟩|⟨i,h3,h4⟩
   ·simp[h3,h4,cJ,bB,hn,show 1≤n by omega,show¬n≤0 by omega,aq,ax,aC,aK,bI,aD,bN,iA]
   ·simp[h3,h4,cJ,bB,hn,show 1≤n by omega,show¬n≤0 by omega,aq,ax,aC,aK,bI,aD,bN,iA]
def gB (s:ByteArray):Bool:=match AX [.str s]with|some [.bool b]=>b|_=>false
theorem eB {s:ByteArray} (hs:s.size≤maxLen):AX [.str s]=some [.bool (gB s)]∧DS [.str s]=some [.bool (gB s)]:=by
 obtain⟨b,h1,h2⟩:=Sc hs;unfold gB;rw[h1,h2];exact⟨rfl,rfl⟩
def Jm (o n w z:Int) (e nm:Bool):Bool:=
 if o=1 then e&&(decide (w=0)&&decide (z=0))
 else if o=2 then nm&&(decide (n=0)&&(decide (w=0)&&decide (z=0)))
 else if 3≤o∧o≤15 then e&&(decide (n=0)&&(decide (w=0)&&decide (z=2)))
 else if o=16∨o=17 then e&&(decide (n=0)&&(decide (w=0)&&decide (z=1)))
 else if o=18 then e&&(decide (n=0)&&((decide (w=1)||decide (w=2)||decide (w=4))&&decide (z=1)))
 else if o=19 then e&&(decide (n=0)&&((decide (w=1)||decide (w=2))&&decide (z=1)))
 else false
def head (d:D):Bool:=Jm (ah (d.fld 0)) (ah (d.fld 1)) (ah (d.fld 3)) (ae (d.fld 4)) (cI .eql (aB (d.fld 2)) (ByteArray.mk #[])) (gB (aB (d.fld 2)))
def fmd:Nat->D->Bool
 |0,_=>false
 |N+1,d=>head d&&(opd d).all (fmd N)
theorem Fg:∀(N M:Nat) (d:D),d.size<N->d.size<M->fmd N d=fmd M d:=by
 intro N
 induction N with
 |zero=>intro M d h;omega
 |succ N ih=>
  intro M d h1 h2;cases M with
  |zero=>omega
  |succ M=>
   simp only[fmd]
   congr 1
   rw[fy];simp only[bV];constructor
   ·intro h x hx;have:=mD hx;rw[<- ih M x (by omega) (by omega)];exact h x hx
   ·intro h x hx;have:=mD hx;rw[ih M x (by omega) (by omega)];exact h x hx
theorem CB (a b:ByteArray):cI .neq a b = !(cI .eql a b):=by rw[zN,ez]
theorem Se (a:ByteArray):cI .eql a a=true:=by rw[ez];simp
theorem X2:∀(N:Nat) (d:D),Conf PG 25 d->d.size<N->F86 N [d]=some [.bool (fmd N d)]∧D1 N [d]=some [.bool (fmd N d)]:=by
 intro N
 induction N with
 |zero=>intro d _ h;omega
 |succ N ih=>
  intro d hd hs;obtain⟨hl,hx⟩:=kY Px s23 hd;have hel:∀x∈(d.fld 4).toList,F86 N [x]=some [.bool (fmd N x)]∧D1 N [x]=some [.bool (fmd N x)]:=fun x hm=>ih x (hx x hm) (by have:=eL hm;omega)
  have h85:∀x∈(d.fld 4).toList,Q9 (F86 N) [x]=some [.bool (!fmd N x)]:=fun x hm=>by
   rw[Oy,F140_eq,(hel x hm).1];simp[aq,ax,aK,bI]
  have hcon:=Jk hl h85;have hs2:(aB (d.fld 2)).size≤maxLen:=by
   have:=wL f25_2 (qconf_iff.2 hd);rw[bx]at this;exact eA (qconf_iff.1 this)
  obtain⟨n1,n2⟩:=eB hs2;rw[F86_s,F106_s,Fb86_eq,U9];rw[xS,bx,hcon,n1,n2]
  have hloop:=cz (st:=py (D1 N) [d]) (l:=d.fld 4) (c:=fun x=>(D1 N [x]).map fun r=>[.bool (bU (aQ (r.getD 0 .other)))]) (p:=fun x=> !fmd N x) (r1:=fun _=>[.int 1]) (r0:=[.int 0])
   (fun i=>by
    rw[Hx,bx];cases hq:D1 N [ay (d.fld 4) i]with
    |none=>simp[gZ]
    |some r=>simp[aq,ax,aK]) hl (fun x hm=>by
    rw[(hel x hm).2]
    simp[aK,bI])
  have hall:(opd d).all (fmd N) = !((d.fld 4).toList.any fun x=> !fmd N x):=by
   unfold opd;rw[vm];simp
  simp only[fmd,hall,head];generalize ((d.fld 4).toList.any fun x=> !fmd N x)=an at *
  simp only[aq,ax,bf,aK,bI,aD,cp,bB,cJ,bN,be,aj,CB,Se];generalize gB (aB (d.fld 2))=nm;generalize cI .eql (aB (d.fld 2)) (ByteArray.mk #[])=e;generalize ah (d.fld 0)=o;generalize ah (d.fld 1)=n;generalize ah (d.fld 3)=w;generalize ae (d.fld 4)=z;unfold Jm;rcases hloop with⟨h3,rfl⟩|⟨i,h3,rfl⟩
  ·simp only[h3,aq,ax,bf,aC,be,aj,nK];by_cases e1:o=1
   ·subst e1;cases e<;>cases nm<;>simp<;>grind
   by_cases e2:o=2
   ·subst e2;cases e<;>cases nm<;>simp<;>grind
   by_cases e16:o=16
   ·subst e16;cases e<;>cases nm<;>simp<;>grind
   by_cases e17:o=17
   ·subst e17;cases e<;>cases nm<;>simp<;>grind
   by_cases e18:o=18
   ·subst e18;cases e<;>cases nm<;>simp<;>grind
   by_cases e19:o=19
   ·subst e19;cases e<;>cases nm<;>simp<;>grind
   cases e<;>cases nm<;>simp[e1,e2,e16,e17,e18,e19]<;>grind
  ·simp only[h3,aq,ax,bf,aC,be,aj,nK];by_cases e1:o=1
   ·subst e1;cases e<;>cases nm<;>simp<;>grind
   by_cases e2:o=2
   ·subst e2;cases e<;>cases nm<;>simp<;>grind
   by_cases e16:o=16
   ·subst e16;cases e<;>cases nm<;>simp<;>grind
   by_cases e17:o=17
   ·subst e17;cases e<;>cases nm<;>simp<;>grind
   by_cases e18:o=18
   ·subst e18;cases e<;>cases nm<;>simp<;>grind
   by_cases e19:o=19
   ·subst e19;cases e<;>cases nm<;>simp<;>grind
   cases e<;>cases nm<;>simp[e1,e2,e16,e17,e18,e19]<;>grind
def jE (v:D) (s:ByteArray):Bool:=v.toList.any fun x=>(aB (aa x 0)).data.toList==s.data.toList
theorem kf {v:D} (hl:v.toList.length≤maxLen) (s:ByteArray):Rk [.str s,v]=some [.bool (jE v s)]∧Lm [v, .str s]=some [.bool (jE v s)]:=by
 refine⟨?_,?_⟩
 ·rw[OF,F142_eq,s9,HJ,s8,HH,nA];unfold jE
  rcases cz (st:=je [v, .str s, .int (ae v)]) (c:=fun x=>pz [x, .str s]) (p:=fun x=>(aB (aa x 0)).data.toList==s.data.toList) (r1:=fun i=>[.int 1, .int i]) (r0:=[.int 0]) (fun i=>xW v s (ae v) i) hl
   (fun x _=>by rw[s7,HF,ez])with⟨h1,h2⟩|⟨i,h1,h2⟩
  ·rw[h2];simp[h1,aq,ax,aC,aD,bB,aK]
  ·rw[h2];simp[h1,aq,ax,aC,aD,bB,aK]
 ·rw[Ov,F165_eq,BW];unfold jE
  have hloop:=cz (st:=uu [v, .str s]) (l:=v) (c:=fun x=>some [.bool (cI .eql (aB (aa x 0)) s)]) (p:=fun x=>(aB (aa x 0)).data.toList==s.data.toList) (r1:=fun _=>[.int 1]) (r0:=[.int 0])
   (fun i=>by rw[Ll];simp only[aq,ax,bf,aK,aj]) hl (fun x _=>by rw[ez])
  rcases hloop with⟨h1,h2⟩|⟨i,h1,h2⟩
  ·rw[h2];simp[h1,aq,ax,aC,aD,bB,aK]
  ·rw[h2];simp[h1,aq,ax,aC,aD,bB,aK]
def kn:Nat->D->D->Bool
 |0,_,_=>false
 |N+1,d,v=>if ah (d.fld 0)=2 then jE v (aB (d.fld 2))else(opd d).all fun x=>kn N x v
theorem X3 {d:D} (h:head d=true) (ho:ah (d.fld 0)=2):opd d = []:=by
 unfold head Jm at h;rw[ho]at h;simp only[show¬(2:Int)=1 by omega,aV,aX,bn,cl]at h
 have:=h.2.2.2;rw[aL]at this;unfold opd;exact gh.1 (by omega)
theorem M0 {v:D} (hv:v.toList.length≤maxLen):∀(N:Nat) (d:D),Conf PG 25 d->d.size<N->fmd N d=true->F87 N [d,v]=some [.bool (kn N d v)]∧D2 N [d,v]=some [.bool (kn N d v)]:=by
 intro N
 induction N with
 |zero=>intro d _ h;omega
 |succ N ih=>
  intro d hd hs hf;obtain⟨hl,hx⟩:=kY Px s23 hd;simp only[fmd,bn,bV]at hf;have hel:∀x∈(d.fld 4).toList,F87 N [x,v]=some [.bool (kn N x v)]∧D2 N [x,v]=some [.bool (kn N x v)]:=fun x hm=>ih x (hx x hm) (by have:=eL hm;omega) (hf.2 x hm)
  have h141:∀x∈(d.fld 4).toList,j9 (F87 N) [x,v]=some [.bool (!kn N x v)]:=fun x hm=>by
   rw[ta,HM,(hel x hm).1];simp[aq,ax,aK,bI]
  have hcon:=Jl hl h141;obtain⟨a1,a2⟩:=kf hv (aB (d.fld 2));rw[F87_s,F107_s,Fb87_eq,Vd];rw[BY,bx,hcon,a1,a2];simp only[kn];by_cases ho:ah (d.fld 0)=2
  ·have he:=X3 hf.1 ho;unfold opd at he;rw[he];cases hb:jE v (aB (d.fld 2))<;>simp[ho,hb,aD,aq,ax,aK,bI]
  ·have hloop:=cz (st:=ux (D2 N) [v,d]) (l:=d.fld 4) (c:=fun x=>(D2 N [x,v]).map fun r=>[.bool (bU (aQ (r.getD 0 .other)))]) (p:=fun x=> !kn N x v) (r1:=fun _=>[.int 1]) (r0:=[.int 0])
    (fun i=>by
     rw[Lt,bx];cases hq:D2 N [ay (d.fld 4) i,v]with
     |none=>simp[gZ]
     |some r=>simp[aq,ax,aK]) hl (fun x hm=>by
     rw[(hel x hm).2]
     simp[aK,bI])
   have hall:((opd d).all fun x=>kn N x v) = !((d.fld 4).toList.any fun x=> !kn N x v):=by
    unfold opd;rw[vm];simp
   rw[hall];generalize ((d.fld 4).toList.any fun x=> !kn N x v)=an at *
   rcases hloop with⟨h3,rfl⟩|⟨i,h3,rfl⟩
   ·simp[h3,ho,aq,ax,aC,aD,aK,bI]
   ·simp[h3,ho,aq,ax,aC,aD,aK,bI]
def M1 (T:TypeId):Bool:=match PG.underlying T with|some (.int _)=>true|_=>false
def d8 (T:TypeId):Nat:=match PG.underlying T with|some (.struct fs)=>fs.size|_=>0
theorem conf_int {T:TypeId} {d:D} (hT:M1 T=true) (h:Conf PG T d):∃n,d = .int n:=by
 unfold M1 at hT;cases hu:PG.underlying T with
 |none=>rw[hu]at hT;cases hT
 |some td=>
  rw[hu]at hT;cases h with
  |int h1=>exact⟨_,rfl⟩
  |str h1 hl=>rw[h1]at hu;cases hu;cases hT
  |slice h1 hl hd=>rw[h1]at hu;cases hu;cases hT
  |struct h1=>rw[h1]at hu;cases hu;cases hT
  |bool h1=>rw[h1]at hu;cases hu;cases hT
  |array h1=>rw[h1]at hu;cases hu;cases hT
  |other h1=>unfold dg at h1;rw[hu]at h1;cases td<;>simp_all
theorem kj {T:TypeId} {n:Nat} {d:D} (hT:d8 T=n+1) (h:Conf PG T d):∃ds,d = .agg ds∧ds.length=n+1:=by
 unfold d8 at hT;cases hu:PG.underlying T with
 |none=>rw[hu]at hT;cases hT
 |some td=>
  rw[hu]at hT;cases h with
  |struct h1 hl=>
   rw[h1]at hu;cases hu;rename_i fs ds hd;have ht':fs.size=n+1:=hT;exact⟨_,rfl,by rw[<- ht',hl]⟩
  |int h1=>rw[h1]at hu;cases hu;cases hT
  |str h1 hl=>rw[h1]at hu;cases hu;cases hT
  |slice h1 hl hd=>rw[h1]at hu;cases hu;cases hT
  |bool h1=>rw[h1]at hu;cases hu;cases hT
  |array h1=>rw[h1]at hu;cases hu;cases hT
  |other h1=>unfold dg at h1;rw[hu]at h1;cases td<;>simp_all
theorem bi {T F:TypeId} {j:Nat} {d:D} (hT:dl T j F=true) (h:Conf PG T d):Conf PG F (d.fld j):=by
 have:=wL hT (qconf_iff.2 h);rw[bx]at this;exact qconf_iff.1 this
theorem ce {T e:TypeId} {d:D} (hT:ml T e=true) (h:Conf PG T d):d.toList.length≤maxLen∧(∃xs,d = .list xs)∧∀x∈d.toList,Conf PG e x:=qconfL_iff.1 (BF hT (qconf_iff.2 h))
theorem X4:M1 3=true:=by kernel_rfl
theorem len63:d8 63=4+1:=by kernel_rfl
theorem len267:d8 267=1+1:=by kernel_rfl
theorem f63_0:dl 63 0 3=true:=by kernel_rfl
theorem f63_1:dl 63 1 3=true:=by kernel_rfl
theorem f63_2:dl 63 2 3=true:=by kernel_rfl
theorem f63_3:dl 63 3 60=true:=by kernel_rfl
theorem f63_4:dl 63 4 61=true:=by kernel_rfl
theorem f267_1:dl 267 1 63=true:=by kernel_rfl
theorem s60:ml 60 63=true:=by kernel_rfl
theorem s61:ml 61 267=true:=by kernel_rfl
theorem dV (xs:List D) (j:Nat):aa (.agg xs) j=xs.getD j .other:=by rw[bx];rfl
def reT (d:D):D:= .agg [.int (ah (aa d 0)), .int (ah (aa d 1)), .int (ah (aa d 2)),aa d 3,aa d 4]
theorem eC {d:D} (h:Conf PG 63 d):reT d=d:=by
 obtain⟨ds,rfl,hl⟩:=kj len63 h
 match ds,hl with
 | [a,b,c,e,l],_=>
   obtain⟨n0,h0⟩:=conf_int X4 (bi f63_0 h);obtain⟨n1,h1⟩:=conf_int X4 (bi f63_1 h);obtain⟨n2,h2⟩:=conf_int X4 (bi f63_2 h);obtain rfl:a = .int n0:=h0;obtain rfl:b = .int n1:=h1;obtain rfl:c = .int n2:=h2;simp[reT,dV,aC]
theorem Jn {d:D} {j:Nat} (h:∃ds,d = .agg ds∧j<ds.length):(d.fld j).size<d.size:=by
 obtain⟨ds,rfl,hj⟩:=h;have:=jX (cq hj);simp only[D.fld,List.getD,cq hj,jG,D.size];omega
theorem fg {d:D} (h:Conf PG 63 d):(aa d 3).toList.length≤maxLen∧(aa d 4).toList.length≤maxLen∧(∀x∈(aa d 3).toList,Conf PG 63 x∧x.size<d.size)∧
 (∀x∈(aa d 4).toList,Conf PG 63 (aa x 1)∧(aa x 1).size<d.size):=by
 simp only[bx];obtain⟨a1,_,a2⟩:=ce s60 (bi f63_3 h);obtain⟨b1,_,b2⟩:=ce s61 (bi f63_4 h);refine⟨a1,b1,fun x hx=>⟨a2 x hx,eL hx⟩,fun x hx=>⟨bi f267_1 (b2 x hx),?_⟩⟩
 obtain⟨ds,rfl,hl⟩:=kj len267 (b2 x hx);have:=eL hx;have:=Jn (d:= .agg ds) (j:=1) ⟨ds,rfl,by omega⟩
 omega
theorem zO {R:Type} {st:List D->Option (Sum (List D) R)} {n:Nat} {p:Nat->Bool} {r0 r1:R} (hn:n≤maxLen) (h0:st [.int n]=some (.inr r0))
 (h1:∀i,i<n->st [.int (i:Int)]=if p i then some (.inr r1)else some (.inl [.int (aM .add .i64 (i:Int) 1)])):loW st [.int 0]=some (if(List.range n).any p then r1 else r0):=by
 unfold maxLen at hn;have key:∀k i:Nat,i+k=n->loW st [.int (i:Int)]=some (if(List.range' i k).any p then r1 else r0):=by
  intro k
  induction k with
  |zero=>intro i hi;obtain rfl:i=n:=by omega
         rw[bD,h0];rfl
  |succ k ih=>
   intro i hi;rw[bD,h1 i (by omega),List.range'_succ,List.any_cons]
   cases hp:p i with
   |true=>simp
   |false=>
    simp only[hR,aV,lm];rw[bk (by omega)]
    exact ih (i+1) (by omega)
 have:=key n 0 (by omega)
 rw[List.range_eq_range'];exact this
theorem CC {l:List D} {p:D->Bool}:(List.range l.length).any (fun i=>p (l.getD i .other))=l.any p:=by
 rw[fy];simp only[qn,iI];constructor
 ·rintro⟨i,hi,h⟩;exact⟨_,b7 hi,by rwa [getD_lt hi]at h⟩
 ·rintro⟨x,hx,h⟩;obtain⟨i,hi,rfl⟩:=List.getElem_of_mem hx;exact⟨i,hi,by rwa [getD_lt hi]⟩
theorem Sf {S R:Type} {st st':S->Option (Sum S R)} {I:S->Prop} (h:∀s,I s->st s=st' s) (hI:∀s s',I s->st s=some (.inl s')->I s') {s:S} (hs:I s):loW st s=loW st' s:=by
 have key:∀n s,I s->loF st n s=loF st' n s:=by
  intro n
  induction n with
  |zero=>intro s _;rfl
  |succ n ih=>
   intro s hs;simp only[loF];rw[<- h s hs];cases hx:st s with
   |none=>rfl
   |some x=>
    cases x with
    |inl s'=>exact ih s' (hI s s' hs hx)
    |inr r=>rfl
 cases hx:loW st s with
 |some d=>
  obtain⟨n,hn⟩:=loW_iff.1 hx;exact(loW_iff.2 ⟨n,by rw[<- key n s hs];exact hn⟩).symm
 |none=>
  cases hy:loW st' s with
  |none=>rfl
  |some d=>
   obtain⟨n,hn⟩:=loW_iff.1 hy;rw[<- key n s hs]at hn;rw[loW_iff.2 ⟨n,hn⟩]at hx;cases hx
def kk:Nat->D->Int->Bool
 |0,_,_=>false
 |N+1,d,n=>decide (n<1)||((aa d 3).toList.any fun x=>kk N x (n-1))||((aa d 4).toList.any fun x=>kk N (aa x 1) (n-1))
theorem M2:∀(N:Nat) (d:D) (n:Int),Conf PG 63 d->d.size<N-> -9223372036854775808≤n->n≤9223372036854775807->El N [d, .int n]=some [.bool (kk N d n)]∧yf N [d, .int n]=some [.bool (!kk N d n)]:=by
 intro N
 induction N with
 |zero=>intro d n _ h;omega
 |succ N ih=>
  intro d n hd hs h0 h1;obtain⟨l3,l4,e3,e4⟩:=fg hd;rw[F245_s,F237_s,VQ,Vw];by_cases hn:n<1
  ·simp[az,hn,kk]
  ·have hsub:aM .sub .i64 n 1=n-1:=fp (by omega) (by omega)
   have r1:=cz (st:=uB (El N) [.int n,d]) (l:=aa d 3) (c:=fun x=>El N [x, .int (n-1)]) (p:=fun x=>kk N x (n-1)) (r1:=fun _=>[.int 1]) (r0:=[.int 0])
    (fun i=>by rw[LO,hsub]) l3 (fun x hx=>(ih x (n-1) (e3 x hx).1 (by have:=(e3 x hx).2;omega) (by omega) (by omega)).1)
   have r2:=cz (st:=uy (yf N) [.int n,aa d 3, .int (ae (aa d 3)),d]) (l:=aa d 3) (c:=fun x=>(yf N [x, .int (n-1)]).map fun r=>[.bool (bU (aQ (r.getD 0 .other)))]) (p:=fun x=>kk N x (n-1)) (r1:=fun _=>[.int 1]) (r0:=[.int 0])
    (fun i=>by
     rw[LC,hsub];cases hq:yf N [ay (aa d 3) i, .int (n-1)]with
     |none=>simp[gZ]
     |some r=>simp[aq,ax,aK]) l3 (fun x hx=>by
      rw[(ih x (n-1) (e3 x hx).1 (by have:=(e3 x hx).2;omega) (by omega) (by omega)).2]
      simp[aK,bI])
   have r3:=cz (st:=uC (El N) [.int n,d]) (l:=aa d 4) (c:=fun x=>El N [reT (aa x 1), .int (n-1)]) (p:=fun x=>kk N (aa x 1) (n-1)) (r1:=fun _=>[.int 1]) (r0:=[.int 0])
    (fun i=>by rw[LS,hsub];rfl) l4 (fun x hx=>by
     rw[eC (e4 x hx).1];exact(ih _ (n-1) (e4 x hx).1 (by have:=(e4 x hx).2;omega) (by omega) (by omega)).1)
   have r4:=cz (st:=pE (yf N) [.int n,aa d 4, .int (ae (aa d 4))]) (l:=aa d 4) (c:=fun x=>(yf N [reT (aa x 1), .int (n-1)]).map fun r=>[.bool (bU (aQ (r.getD 0 .other)))]) (p:=fun x=>kk N (aa x 1) (n-1)) (r1:=fun _=>[.int 1]) (r0:=[.int 0])
    (fun i=>by
     rw[HS,hsub];have hre:D.agg [D.int (ah (aa (aa (ay (aa d 4) i) 1) 0)),D.int (ah (aa (aa (ay (aa d 4) i) 1) 1)),D.int (ah (aa (aa (ay (aa d 4) i) 1) 2)),aa (aa (ay (aa d 4) i) 1) 3,aa (aa (ay (aa d 4) i) 1) 4]=reT (aa (ay (aa d 4) i) 1):=rfl;rw[hre];cases hq:yf N [reT (aa (ay (aa d 4) i) 1), .int (n-1)]with
     |none=>simp[gZ]
     |some r=>simp[aq,ax,aK]) l4 (fun x hx=>by
      rw[eC (e4 x hx).1,(ih _ (n-1) (e4 x hx).1 (by have:=(e4 x hx).2;omega) (by omega) (by omega)).2]
      simp[aK,bI])
   rw[B3,B4,B1,ye];simp only[kk,az,hn,bl,aI,lm];generalize ((aa d 3).toList.any fun x=>kk N x (n-1))=a at *
   generalize ((aa d 4).toList.any fun x=>kk N (aa x 1) (n-1))=b at *
   rcases r1 with⟨a1,rfl⟩|⟨_,a1,rfl⟩<;>rcases r2 with⟨a2,h2⟩|⟨_,a2,h2⟩<;>first|(cases h2;done)|skip
   ·rcases r3 with⟨a3,rfl⟩|⟨_,a3,rfl⟩<;>rcases r4 with⟨a4,h4⟩|⟨_,a4,h4⟩<;>first|(cases h4;done)|skip
    ·simp[a1,a2,a3,a4,aq,ax,aC,aD]
    ·simp[a1,a2,a3,a4,aq,ax,aC,aD]
   ·simp[a1,a2,aq,ax,aC,aD]
end
end Go.Proofs.YtiojjmlccehpoaaGreat
namespace Go.Proofs.YtiojjmlccehpoaaGreat
open Go Go.AM
theorem X5 (l:List D):2≤aY l:=by
 induction l with
 |nil=>simp[aY]
 |cons x l ih=>simp only[aY];omega
theorem wt_ge (d:D):d.size≤d.wt∨∃m,d = .int m:=by
 cases d<;>simp[D.wt]
theorem cC {d:D} {l:List D} (h:d∈l):d.size<aY l:=by
 induction l with
 |nil=>cases h
 |cons x l ih=>
  simp only[aY];rcases cy.1 h with rfl|h
  ·have:=X5 l;rcases wt_ge d with h|⟨m,rfl⟩
   ·omega
   ·simp[D.size];omega
  ·have:=ih h;omega
noncomputable def Jo (l:List D) (i:Nat):Bool:=
 decide (0≤ah (aa (l.getD i .other) 0))&&decide (ah (aa (l.getD i .other) 0)<65536)&&(decide (i=0)||decide (ah (aa (l.getD (i-1) .other) 0)<ah (aa (l.getD i .other) 0)))
noncomputable def zP (d:D):Bool:=
 if ah (aa d 0)=0∨ah (aa d 0)=6 then decide (ah (aa d 1)=0)&&decide (ah (aa d 2)=0)&&decide ((aa d 3).toList.length=0)&&decide ((aa d 4).toList.length=0)
 else if ah (aa d 0)=1∨ah (aa d 0)=2 then(decide (ah (aa d 1)=1)||decide (ah (aa d 1)=2)||decide (ah (aa d 1)=4))&&decide (ah (aa d 2)=0)&&decide ((aa d 3).toList.length=0)&&decide ((aa d 4).toList.length=0)
 else if ah (aa d 0)=3 then decide (ah (aa d 1)=0)&&decide (ah (aa d 2)=0)&&decide ((aa d 3).toList.length=1)&&decide ((aa d 4).toList.length=0)
 else if ah (aa d 0)=4 then decide (ah (aa d 1)=0)&&(decide (1≤ah (aa d 2))&&decide (ah (aa d 2)≤65536))&&decide ((aa d 3).toList.length=1)&&decide ((aa d 4).toList.length=0)
 else if ah (aa d 0)=5 then decide (ah (aa d 1)=0)&&decide (ah (aa d 2)=0)&&decide ((aa d 3).toList.length=0)
 else false
noncomputable def fM:Nat->D->Bool
 |0,_=>false
 |N+1,d=>zP d&&(!(List.range (aa d 4).toList.length).any fun i=> !(Jo (aa d 4).toList i&&fM N (aa ((aa d 4).toList.getD i .other) 1)))&&(aa d 3).toList.all (fM N)
theorem tG {Q:uAC} {l:D} {f:D->Bool} (hl:l.toList.length≤maxLen) (hq:∀x∈l.toList,Q [reT (aa x 1)]=some [.bool (f (aa x 1))]):
 loW (uD Q [l]) [.int 0]=some (if(List.range l.toList.length).any (fun i=> !(Jo l.toList i&&f (aa (l.toList.getD i .other) 1)))then[.int 1]else[.int 0])∧
 ∀(e:Int) (d:D),aa d 4=l->loW (pF Q [.int e,l, .int (ae l),d]) [.int 0]=some (if(List.range l.toList.length).any (fun i=> !(Jo l.toList i&&f (aa (l.toList.getD i .other) 1)))then[.int 1]else[.int 0]):=by
 have hre:∀i:Int,D.agg [D.int (ah (aa (aa (ay l i) 1) 0)),D.int (ah (aa (aa (ay l i) 1) 1)),D.int (ah (aa (aa (ay l i) 1) 2)),aa (aa (ay l i) 1) 3,aa (aa (ay l i) 1) 4]=reT (aa (ay l i) 1):=fun i=>rfl
 have hpred:∀i:Nat,0<i->i<l.toList.length->aM .sub .i64 (i:Int) 1=((i-1:Nat):Int):=fun i h h'=>by
  unfold maxLen at hl;rw[fp (by omega) (by omega)];omega
 refine⟨zO hl ?_ ?_,fun e d hd=>zO hl ?_ ?_⟩
 ·rw[yl];simp[az,aL]
 ·intro i hi;have hm:l.toList.getD i .other∈l.toList:=by rw[getD_lt hi];exact b7 hi
  rw[yl,hre,bg,hq _ hm,aL,aZ hi];simp only[az,bB,b9,cJ,show(i:Int)<(l.toList.length:Int)by omega,be,aj,aq,ax,bf,aK,bI,Jo]
  by_cases h0:i=0
  ·subst h0;simp only[b8,show¬(0:Int)<0 by omega,bl,aI,be,lN,Bool.and_true]
   generalize ah (aa (l.toList.getD 0 D.other) 0)=a;generalize f (aa (l.toList.getD 0 D.other) 1)=b;by_cases c1:a<0<;>by_cases c2:a<65536<;>cases b<;>simp[c1,c2,show(0≤a) = ¬(a<0)by simp,show(65536≤a) = ¬(a<65536)by simp]<;>omega
  ·have hm':(i-1)<l.toList.length:=by omega
   rw[hpred i (by omega) hi,aZ hm',bg]
   simp only[show(0:Int)<(i:Int)by omega,be,aj,h0,bl,lm]
   generalize ah (aa (l.toList.getD i D.other) 0)=a;generalize ah (aa (l.toList.getD (i-1) D.other) 0)=a';generalize f (aa (l.toList.getD i D.other) 1)=b;by_cases c1:a<0<;>by_cases c2:a<65536<;>by_cases c3:a'<a<;>cases b<;>simp[c1,c2,c3,show(0≤a) = ¬(a<0)by simp,show(65536≤a) = ¬(a<65536)by simp,show(a≤a') = ¬(a'<a)by simp]<;>omega
 ·rw[tf];simp[az,aL]
 ·intro i hi;have hm:l.toList.getD i .other∈l.toList:=by rw[getD_lt hi];exact b7 hi
  rw[tf,hre,hd,bg,hq _ hm,aL,aZ hi];simp only[az,bB,b9,cJ,show(i:Int)<(l.toList.length:Int)by omega,be,aj,aq,ax,bf,aK,bI,Jo]
  by_cases h0:i=0
  ·subst h0;simp only[b8,show¬(0:Int)<0 by omega,bl,aI,be,lN,Bool.and_true]
   generalize ah (aa (l.toList.getD 0 D.other) 0)=a;generalize f (aa (l.toList.getD 0 D.other) 1)=b;by_cases c1:a<0<;>by_cases c2:a<65536<;>cases b<;>simp[c1,c2,show(0≤a) = ¬(a<0)by simp,show(65536≤a) = ¬(a<65536)by simp]<;>omega
  ·have hm':(i-1)<l.toList.length:=by omega
   rw[hpred i (by omega) hi,aZ hm',bg]
   simp only[show(0:Int)<(i:Int)by omega,be,aj,h0,bl,lm]
   generalize ah (aa (l.toList.getD i D.other) 0)=a;generalize ah (aa (l.toList.getD (i-1) D.other) 0)=a';generalize f (aa (l.toList.getD i D.other) 1)=b;by_cases c1:a<0<;>by_cases c2:a<65536<;>by_cases c3:a'<a<;>cases b<;>simp[c1,c2,c3,show(0≤a) = ¬(a<0)by simp,show(65536≤a) = ¬(a<65536)by simp,show(a≤a') = ¬(a'<a)by simp]<;>omega
theorem rW (d:D):ay d 0=d.toList.getD 0 .other:=bg d 0
theorem all_one {l:List D} {p:D->Bool} (h:l.length=1):l.all p=p (l.getD 0 .other):=by
 match l,h with
 | [x],_=>simp
theorem Sg:∀(N:Nat) (d:D),Conf PG 63 d->d.size<N->H9 N [d]=some [.bool (fM N d)]∧HV N [d]=some [.bool (fM N d)]:=by
 intro N
 induction N with
 |zero=>intro d _ h;omega
 |succ N ih=>
  intro d hd hs;obtain⟨l3,l4,e3,e4⟩:=fg hd
  have hq:∀(F:Nat->uAC),(∀x,Conf PG 63 x->x.size<N->F N [x]=some [.bool (fM N x)])->∀x∈(aa d 4).toList,F N [reT (aa x 1)]=some [.bool (fM N (aa x 1))]:=fun F hF x hx=>by
   rw[eC (e4 x hx).1];exact hF _ (e4 x hx).1 (by have:=(e4 x hx).2;omega)
  have g1:=(tG l4 (hq H9 fun x h1 h2=>(ih x h1 h2).1)).1
  have g2:=fun e=>(tG l4 (hq HV fun x h1 h2=>(ih x h1 h2).2)).2 e d rfl
  have h3:(aa d 3).toList.length=1->aS (aa d 3) 0=true∧H9 N [ay (aa d 3) 0]=some [.bool (fM N ((aa d 3).toList.getD 0 .other))]∧HV N [ay (aa d 3) 0]=some [.bool (fM N ((aa d 3).toList.getD 0 .other))]:=fun h=>by
   have hm:(aa d 3).toList.getD 0 .other∈(aa d 3).toList:=by rw[getD_lt (by omega)];exact b7 _
   have:=ih _ (e3 _ hm).1 (by have:=(e3 _ hm).2;omega)
   exact⟨aZ (i:=0) (by omega),by rw[rW];exact this.1,by rw[rW];exact this.2⟩
  rw[F246_s,F238_s,VW,VA,yg,ON,F262_eq,B5];simp only[g1,g2];simp only[bN,aD,cp,az,cJ,bB,b9,aL,bI,iV,be,aj,lM,nK];simp only[fM,zP];clear g1 g2 hq ih;generalize hz:(List.range (aa d 4).toList.length).any (fun i=> !(Jo (aa d 4).toList i&&fM N (aa ((aa d 4).toList.getD i D.other) 1)))=z
  have hz0:(aa d 4).toList.length=0->z=false:=fun h=>by rw[<- hz,h];rfl
  have hall0:(aa d 3).toList.length=0->(aa d 3).toList.all (fM N)=true:=fun h=>by rw[gh.1 h];rfl
  have hall1:(aa d 3).toList.length=1->(aa d 3).toList.all (fM N)=fM N ((aa d 3).toList.getD 0 .other):=fun h=>all_one h
  clear hz e3 e4 l3 l4;generalize (aa d 3).toList.all (fM N)=al at *;generalize fM N ((aa d 3).toList.getD 0 .other)=el at *;generalize aS (aa d 3) 0=iq at *;generalize H9 N [ay (aa d 3) 0]=r1 at *;generalize HV N [ay (aa d 3) 0]=r2 at *;generalize (aa d 3).toList.length=n3 at *;generalize (aa d 4).toList.length=n4 at *;generalize ah (aa d 1)=sz at *;generalize ah (aa d 2)=ct at *;generalize ah (aa d 0)=k at *;have e4:decide (0<(n4:Int)) = !decide (n4=0):=by by_cases h:n4=0<;>simp[h]<;>omega
  have e4':decide ((n4:Int)=0)=decide (n4=0):=by by_cases h:n4=0<;>simp[h]
  have e3:decide ((n3:Int)=0)=decide (n3=0):=by by_cases h:n3=0<;>simp[h]
  have e3':decide ((n3:Int)=1)=decide (n3=1):=by by_cases h:n3=1<;>simp[h]<;>omega
  simp only[e4,e4',e3,e3'];clear e4 e4' e3 e3';by_cases k0:k=0∨k=6
  ·have hk:(k=0)∨(k=6):=k0;by_cases a1:n3=0
   ·have:=hall0 a1;by_cases a2:n4=0
    ·have:=hz0 a2;rcases hk with rfl|rfl<;>by_cases a3:sz=0<;>by_cases a4:ct=0<;>simp[*,aq,ax,aC]
    ·rcases hk with rfl|rfl<;>by_cases a3:sz=0<;>by_cases a4:ct=0<;>simp[*]
   ·rcases hk with rfl|rfl<;>by_cases a2:n4=0<;>by_cases a3:sz=0<;>by_cases a4:ct=0<;>simp[*]
  have n0:¬k=0:=fun h=>k0 (.inl h)
  have n6:¬k=6:=fun h=>k0 (.inr h)
  by_cases k1:k=1∨k=2
  ·have hk:(k=1)∨(k=2):=k1;have hs:sz=1∨sz=2∨sz=4∨(¬sz=1∧¬sz=2∧¬sz=4):=by omega
   by_cases a1:n3=0
   ·have:=hall0 a1;by_cases a2:n4=0
    ·have:=hz0 a2;rcases hk with rfl|rfl<;>rcases hs with rfl|rfl|rfl|⟨s1,s2,s4⟩<;>by_cases a4:ct=0<;>simp[*,aq,ax,aC]
    ·rcases hk with rfl|rfl<;>rcases hs with rfl|rfl|rfl|⟨s1,s2,s4⟩<;>by_cases a4:ct=0<;>simp[*]
   ·rcases hk with rfl|rfl<;>by_cases a2:n4=0<;>rcases hs with rfl|rfl|rfl|⟨s1,s2,s4⟩<;>by_cases a4:ct=0<;>simp[*]
  have n1:¬k=1:=fun h=>k1 (.inl h)
  have n2:¬k=2:=fun h=>k1 (.inr h)
  by_cases k3:k=3
  ·subst k3;by_cases a1:n3=1
   ·obtain⟨b1,b2,b3⟩:=h3 a1;have:=hall1 a1;by_cases a2:n4=0
    ·have:=hz0 a2;by_cases a3:sz=0<;>by_cases a4:ct=0<;>simp[*,aq,ax,aC,aK]
    ·by_cases a3:sz=0<;>by_cases a4:ct=0<;>simp[*]
   ·by_cases a2:n4=0<;>by_cases a3:sz=0<;>by_cases a4:ct=0<;>simp[*]
  by_cases k4:k=4
  ·subst k4;have hc:(ct<1∧¬1≤ct∧¬65536<ct∧ct≤65536)∨(¬ct<1∧1≤ct∧65536<ct∧¬ct≤65536)∨(¬ct<1∧1≤ct∧¬65536<ct∧ct≤65536):=by omega
   by_cases a1:n3=1
   ·obtain⟨b1,b2,b3⟩:=h3 a1;have:=hall1 a1;by_cases a2:n4=0
    ·have:=hz0 a2;rcases hc with⟨c1,c2,c3,c4⟩|⟨c1,c2,c3,c4⟩|⟨c1,c2,c3,c4⟩<;>by_cases a3:sz=0<;>simp[*,aq,ax,aC,aK]
    ·rcases hc with⟨c1,c2,c3,c4⟩|⟨c1,c2,c3,c4⟩|⟨c1,c2,c3,c4⟩<;>by_cases a3:sz=0<;>simp[*]
   ·rcases hc with⟨c1,c2,c3,c4⟩|⟨c1,c2,c3,c4⟩|⟨c1,c2,c3,c4⟩<;>by_cases a2:n4=0<;>by_cases a3:sz=0<;>simp[*]
  by_cases k5:k=5
  ·subst k5;by_cases a1:n3=0
   ·have:=hall0 a1;by_cases a3:sz=0<;>by_cases a4:ct=0<;>cases z<;>simp[*,aq,ax,aC,aK]
   ·by_cases a3:sz=0<;>by_cases a4:ct=0<;>cases z<;>simp[*,aq,ax,aC,aK]
  simp[*]
theorem Sh {d:D} (h:zP d=true):(aa d 3).toList.length≤1:=by
 unfold zP at h
 (repeat' split at h)<;>first|(cases h;done)|(simp only[bn,cl]at h;omega)
theorem M3 {d:D} (h:zP d=true) (hk:ah (aa d 0)=4):(aa d 3).toList.length=1:=by
 unfold zP at h;simp only[hk]at h;simp at h;omega
theorem X6:∀(N M:Nat) (d:D),Conf PG 63 d->d.size<N->d.size<M->fM N d=fM M d:=by
 intro N
 induction N with
 |zero=>intro M d _ h;omega
 |succ N ih=>
  intro M d hd h1 h2;cases M with
  |zero=>omega
  |succ M=>
   obtain⟨l3,l4,e3,e4⟩:=fg hd;simp only[fM];have r1:(List.range (aa d 4).toList.length).any (fun i=> !(Jo (aa d 4).toList i&&fM N (aa ((aa d 4).toList.getD i .other) 1)))=(List.range (aa d 4).toList.length).any (fun i=> !(Jo (aa d 4).toList i&&fM M (aa ((aa d 4).toList.getD i .other) 1))):=by
    rw[fy];simp only[qn,iI];constructor
    ·rintro⟨i,hi,h⟩;have hm:(aa d 4).toList.getD i .other∈(aa d 4).toList:=by rw[getD_lt hi];exact b7 hi
     have:=e4 _ hm;rw[ih M _ this.1 (by omega) (by omega)]at h;exact⟨i,hi,h⟩
    ·rintro⟨i,hi,h⟩;have hm:(aa d 4).toList.getD i .other∈(aa d 4).toList:=by rw[getD_lt hi];exact b7 hi
     have:=e4 _ hm;rw[<- ih M _ this.1 (by omega) (by omega)]at h;exact⟨i,hi,h⟩
   have r2:(aa d 3).toList.all (fM N)=(aa d 3).toList.all (fM M):=by
    rw[fy];simp only[bV];constructor
    ·intro h x hx;have:=e3 x hx;rw[<- ih M x this.1 (by omega) (by omega)];exact h x hx
    ·intro h x hx;have:=e3 x hx;rw[ih M x this.1 (by omega) (by omega)];exact h x hx
   rw[r1,r2]
theorem zQ {N:Nat} {d:D} (h:fM (N+1) d=true):zP d=true∧(∀x∈(aa d 3).toList,fM N x=true)∧(∀x∈(aa d 4).toList,fM N (aa x 1)=true):=by
 simp only[fM,bn,lj,bV]at h;refine⟨h.1.1,h.2,fun x hx=> ?_⟩
 obtain⟨i,hi,rfl⟩:=List.getElem_of_mem hx;have:=h.1.2;rw[List.any_eq_false]at this;have:=this i (iI.2 hi);rw[getD_lt hi]at this;simp only[lj,Bool.not_eq_false,bn]at this;exact this.2
theorem size_eq:∀(N:Nat) (d:D),Conf PG 63 d->d.size<N->HX N [d]=A2 N [d]:=by
 intro N
 induction N with
 |zero=>intro d _ h;omega
 |succ N ih=>
  intro d hd hs;obtain⟨l3,l4,e3,e4⟩:=fg hd;rw[F259_s,V0,VE,Ib,yh,ol]
  have h0:aS (aa d 3) 0=true->HX N [ay (aa d 3) 0]=A2 N [ay (aa d 3) 0]:=fun h=>by
   rw[MY]at h;have hl:0<(aa d 3).toList.length:=by simp at h;omega
   have hm:ay (aa d 3) 0∈(aa d 3).toList:=by rw[rW,getD_lt hl];exact b7 _
   exact ih _ (e3 _ hm).1 (by have:=(e3 _ hm).2;omega)
  have hloop:loW (pG (HX N) [aa d 4, .int (ae (aa d 4))]) [.int 0, .int 0]=loW (ke (A2 N) [d]) [.int 0, .int 0]:=by
   refine Sf (I:=fun s=>∃a i,s = [.int a, .int i]) ?_ ?_ ⟨0,0,rfl⟩
   ·rintro _ ⟨a,i,rfl⟩;rw[tg,mw];cases hi:aS (aa d 4) i with
    |false=>rfl
    |true=>
     have hre:D.agg [D.int (ah (aa (aa (ay (aa d 4) i) 1) 0)),D.int (ah (aa (aa (ay (aa d 4) i) 1) 1)),D.int (ah (aa (aa (ay (aa d 4) i) 1) 2)),aa (aa (ay (aa d 4) i) 1) 3,aa (aa (ay (aa d 4) i) 1) 4]=reT (aa (ay (aa d 4) i) 1):=rfl;rw[MY]at hi;simp only[bn,cl]at hi;obtain⟨j,rfl⟩:∃j:Nat,i=(j:Int):=⟨i.toNat,by omega⟩
     have hl:j<(aa d 4).toList.length:=by omega
     have hm:ay (aa d 4) (j:Int)∈(aa d 4).toList:=by rw[bg,getD_lt hl];exact b7 _
     rw[hre,eC (e4 _ hm).1,ih _ (e4 _ hm).1 (by have:=(e4 _ hm).2;omega)]
     simp only[aj]
   ·rintro _ s' ⟨a,i,rfl⟩ hx;rw[tg]at hx;generalize HX N _=r at hx;cases h1:ab .lss i (ae (aa d 4))<;>rw[h1]at hx
    ·cases hx
    ·cases h2:aS (aa d 4) i<;>rw[h2]at hx
     ·cases hx
     ·cases h3:ap r<;>rw[h3]at hx
      ·cases hx
      ·simp only[aj,aN,Sum.inl.injEq]at hx;exact⟨_,_,hx.symm⟩
  simp only[hloop];cases hq:aS (aa d 3) 0 with
  |true=>rw[h0 hq]
  |false=>simp only[aI]
theorem Si:∀(N:Nat) (d:D),Conf PG 63 d->d.size<N->fM N d=true->∃n,A2 N [d]=some [.int n]:=by
 intro N
 induction N with
 |zero=>intro d _ h;omega
 |succ N ih=>
  intro d hd hs hf;obtain⟨l3,l4,e3,e4⟩:=fg hd;obtain⟨p1,p2,p3⟩:=zQ hf;rw[V0,Ib,ol];have hloop:∃r,loW (ke (A2 N) [d]) [.int 0, .int 0]=some [.int 0, .int r]:=by
   have key:∀k i:Nat,i+k=(aa d 4).toList.length->∀a:Int,∃r,loW (ke (A2 N) [d]) [.int a, .int (i:Int)]=some [.int 0, .int r]:=by
    unfold maxLen at l4;intro k
    induction k with
    |zero=>
     intro i hi a;rw[bD,mw,az,aL];exact⟨a,by simp[show¬((i:Int)<(aa d 4).toList.length)by omega]⟩
    |succ k ihk=>
     intro i hi a;have hl:i<(aa d 4).toList.length:=by omega
     have hm:(aa d 4).toList.getD i .other∈(aa d 4).toList:=by rw[getD_lt hl];exact b7 _
     obtain⟨n,hn⟩:=ih _ (e4 _ hm).1 (by have:=(e4 _ hm).2;omega) (p3 _ hm)
     have hre:D.agg [D.int (ah (aa (aa ((aa d 4).toList.getD i .other) 1) 0)),D.int (ah (aa (aa ((aa d 4).toList.getD i .other) 1) 1)),D.int (ah (aa (aa ((aa d 4).toList.getD i .other) 1) 2)),aa (aa ((aa d 4).toList.getD i .other) 1) 3,aa (aa ((aa d 4).toList.getD i .other) 1) 4]=reT (aa ((aa d 4).toList.getD i .other) 1):=rfl;rw[bD,mw,az,aL,aZ hl,bg,hre,eC (e4 _ hm).1,hn];simp only[show((i:Int)<(aa d 4).toList.length)by omega,be,aj,aq,bk (show i<9223372036854775807 by omega)]
     exact ihk (i+1) (by omega) _
   have h:=key (aa d 4).toList.length 0 (by omega) 0
   simp only[b8]at h;exact h
  obtain⟨r,hr⟩:=hloop;simp only[hr,aq,aD,aj,ax,bf,bt,aC];by_cases k4:ah (aa d 0)=4
  ·have h1:=M3 p1 k4;have hm:ay (aa d 3) 0∈(aa d 3).toList:=by rw[rW,getD_lt (by omega)];exact b7 _
   obtain⟨n,hn⟩:=ih _ (e3 _ hm).1 (by have:=(e3 _ hm).2;omega) (p2 _ hm)
   have hq:aS (aa d 3) 0=true:=aZ (i:=0) (by omega)
   simp only[k4,hq,hn,aq,be,aj,bN,show¬(4:Int)=1 by omega,show¬(4:Int)=2 by omega,show¬(4:Int)=3 by omega,bl,aI]
   exact⟨_,rfl⟩
  ·simp only[k4,bl,aI];cases aw (decide (ah (aa d 0)=1)) (decide (ah (aa d 0)=1)) (decide (ah (aa d 0)=2))with
   |true=>exact⟨_,rfl⟩
   |false=>
    simp only[aI];cases decide (ah (aa d 0)=3)with
    |true=>exact⟨_,rfl⟩
    |false=>
     simp only[aI];cases decide (ah (aa d 0)=5)with
     |true=>exact⟨_,rfl⟩
     |false=>exact⟨_,rfl⟩
noncomputable def eD:Nat->D->Bool
 |0,_=>false
 |N+1,d=>decide (65536<ah (ac (LY [d]) 0))||decide (64<(aa d 4).toList.length)||((aa d 3).toList.any (eD N))||((aa d 4).toList.any fun x=>eD N (aa x 1))
theorem any_one {l:List D} {p:D->Bool} (h:l.length=1):l.any p=p (l.getD 0 .other):=by
 match l,h with
 | [x],_=>simp
theorem Jp:∀(N:Nat) (d:D),Conf PG 63 d->d.size<N->fM N d=true->rC N [d]=some [.bool (eD N d)]∧rA N [d]=some [.bool (!eD N d)]:=by
 intro N
 induction N with
 |zero=>intro d _ h;omega
 |succ N ih=>
  intro d hd hs hf;obtain⟨l3,l4,e3,e4⟩:=fg hd;obtain⟨p1,p2,p3⟩:=zQ hf;have hq:VF [d]=LY [d]:=by rw[OJ,Ep];exact size_eq _ d hd (cC (by simp))
  obtain⟨n,hn⟩:∃n,LY [d]=some [.int n]:=by
   rw[Ep];exact Si _ d hd (cC (by simp)) (by rw[<- hf];exact X6 _ _ d hd (cC (by simp)) hs)
  have i1:∀x∈(aa d 3).toList,rC N [x]=some [.bool (eD N x)]∧rA N [x]=some [.bool (!eD N x)]:=fun x hx=>ih x (e3 x hx).1 (by have:=(e3 x hx).2;omega) (p2 x hx)
  have i2:∀x∈(aa d 4).toList,rC N [reT (aa x 1)]=some [.bool (eD N (aa x 1))]∧rA N [reT (aa x 1)]=some [.bool (!eD N (aa x 1))]:=fun x hx=>by
   rw[eC (e4 x hx).1];exact ih _ (e4 x hx).1 (by have:=(e4 x hx).2;omega) (p3 x hx)
  have r1:=cz (st:=pI (rC N) [d]) (l:=aa d 3) (c:=fun x=>rC N [x]) (p:=eD N) (r1:=fun _=>[.int 1]) (r0:=[.int 0]) (fun i=>by rw[L1]) l3 (fun x hx=>(i1 x hx).1)
  have r2:=cz (st:=pJ (rC N) [d]) (l:=aa d 4) (c:=fun x=>rC N [reT (aa x 1)]) (p:=fun x=>eD N (aa x 1)) (r1:=fun _=>[.int 1]) (r0:=[.int 0]) (fun i=>by rw[L3];rfl) l4 (fun x hx=>(i2 x hx).1)
  have r3:=cz (st:=pH (rA N) [aa d 4, .int (ae (aa d 4)),d]) (l:=aa d 4) (c:=fun x=>(rA N [reT (aa x 1)]).map fun r=>[.bool (bU (aQ (r.getD 0 .other)))]) (p:=fun x=>eD N (aa x 1)) (r1:=fun _=>[.int 1]) (r0:=[.int 0])
   (fun i=>by
    rw[LK];have hre:D.agg [D.int (ah (aa (aa (ay (aa d 4) i) 1) 0)),D.int (ah (aa (aa (ay (aa d 4) i) 1) 1)),D.int (ah (aa (aa (ay (aa d 4) i) 1) 2)),aa (aa (ay (aa d 4) i) 1) 3,aa (aa (ay (aa d 4) i) 1) 4]=reT (aa (ay (aa d 4) i) 1):=rfl;rw[hre];cases hq:rA N [reT (aa (ay (aa d 4) i) 1)]with
    |none=>simp[gZ]
    |some r=>simp[aq,ax,aK]) l4 (fun x hx=>by rw[(i2 x hx).2];simp[aK,bI])
  rw[F247_s,F239_s,V4,VJ,B6,B7,B2,hq,hn];simp only[eD,hn,aq,ax,bf,aC,b9,aL,bN,aj,aD];have hlen:=Sh p1
  have h3:(aa d 3).toList.length=1->aS (aa d 3) 0=true∧rA N [ay (aa d 3) 0]=some [.bool (!(aa d 3).toList.any (eD N))]:=fun h=>by
   have hm:(aa d 3).toList.getD 0 .other∈(aa d 3).toList:=by rw[getD_lt (by omega)];exact b7 _
   exact⟨aZ (i:=0) (by omega),by rw[rW,any_one h];exact(i1 _ hm).2⟩
  have h30:(aa d 3).toList.length=0->(aa d 3).toList.any (eD N)=false:=fun h=>by rw[gh.1 h];rfl
  rw[aL]at r3;generalize ((aa d 3).toList.any (eD N))=a at *;generalize ((aa d 4).toList.any fun x=>eD N (aa x 1))=b at *
  generalize loW (pI (rC N) [d]) [.int 0]=x1 at *;generalize loW (pJ (rC N) [d]) [.int 0]=x2 at *;generalize loW (pH (rA N) [aa d 4, .int ((aa d 4).toList.length:Int),d]) [.int 0]=x3 at *;generalize rA N [ay (aa d 3) 0]=x4 at *;generalize aS (aa d 3) 0=x5 at *;clear i1 i2 e3 e4 p2 p3 ih hq;have hn4:decide ((64:Int)<((aa d 4).toList.length:Int))=decide (64<(aa d 4).toList.length):=by by_cases h:64<(aa d 4).toList.length<;>simp[h]<;>omega
  rw[hn4];generalize decide (64<(aa d 4).toList.length)=c1;generalize decide (65536<n)=c2;generalize (aa d 3).toList.length=n3 at *;have h01:n3=0∨n3=1:=by omega
  rcases r1 with⟨rfl,rfl⟩|⟨_,rfl,rfl⟩<;>rcases r2 with⟨rfl,rfl⟩|⟨_,rfl,rfl⟩<;>rcases r3 with⟨rfl,h3'⟩|⟨_,rfl,h3'⟩<;>first|(cases h3';done)|skip
  all_goals
   rcases h01 with rfl|rfl
   ·first
    | (have:=h30 rfl;cases this;done)
    | (cases c1<;>cases c2<;>simp[aq,ax,aC])
   ·obtain⟨rfl,rfl⟩:=h3 rfl;cases c1<;>cases c2<;>simp[aq,ax,aC,aK,iV]
theorem Sj {d:D} (hd:Conf PG 63 d):∃e:Int,VN [d]=some [.int e]∧L5 [d]=some [.int e]:=by
 obtain⟨a1,a2⟩:=M2 (aY [d, .int 64]) d 64 hd (cC (by simp)) (by omega) (by omega)
 obtain⟨b1,b2⟩:=Sg (aY [d]) d hd (cC (by simp))
 rw[OL,F219_eq,OQ,F226_eq,OH,OI,OK,OM,OO,OP];simp only[a1,a2,b1,b2,aq,ax,bf,aK,bI,aj,Bool.not_not];cases kk (aY [d, .int 64]) d 64 with
 |true=>exact⟨20,rfl,rfl⟩
 |false=>
  simp only[aI];cases hf:fM (aY [d]) d with
  |false=>exact⟨2,rfl,rfl⟩
  |true=>
   obtain⟨c1,c2⟩:=Jp (aY [d]) d hd (cC (by simp)) hf
   simp only[c1,c2,aq,ax,bf,aK,Bool.not_not,bX,aI,aj];cases eD (aY [d]) d with
   |true=>exact⟨6,rfl,rfl⟩
   |false=>exact⟨0,rfl,rfl⟩
def cE (p:Nat->Int):Nat->Nat->Int
 |_,0=>0
 |i,k+1=>if p i=0 then cE p (i+1) k else p i
def mE (e:Int):List D:=if e=0 then[.int 0]else[.int 1, .int e]
theorem p8 {p p':Nat->Int}:∀(k i:Nat),(∀j,i≤j->j<i+k->(∀m,i≤m->m<j->p m=0)->p j=p' j)->cE p i k=cE p' i k
 |0,_,_=>rfl
 |k+1,i,h=>by
  have h0:=h i (bj _) (by omega) (fun m h1 h2=>by omega)
  simp only[cE];rw[<- h0];by_cases hz:p i=0
  ·rw[if_pos hz,if_pos hz]
   exact p8 k (i+1) fun j h1 h2 h3=>h j (by omega) (by omega) fun m h4 h5=>by
    by_cases hm:m=i
    ·subst hm;exact hz
    ·exact h3 m (by omega) h5
  ·rw[if_neg hz,if_neg hz]
theorem mF {p:Nat->Int}:∀(k i:Nat),cE p i k=0->∀j,i≤j->j<i+k->p j=0
 |0,i,_,j,h1,h2=>by omega
 |k+1,i,h,j,h1,h2=>by
  simp only[cE]at h;by_cases hz:p i=0
  ·rw[if_pos hz]at h;by_cases hj:j=i
   ·subst hj;exact hz
   ·exact mF k (i+1) h j (by omega) (by omega)
  ·rw[if_neg hz]at h;exact absurd h hz
theorem jj {st:List D->Option (Sum (List D) (List D))} {n:Nat} {enc:Nat->List D} {p:Nat->Int} (h0:st (enc n)=some (.inr [.int 0]))
 (h1:∀i,i<n->(∀m,m<i->p m=0)->st (enc i)=if p i=0 then some (.inl (enc (i+1)))else some (.inr [.int 1, .int (p i)])):loW st (enc 0)=some (mE (cE p 0 n)):=by
 have key:∀k i:Nat,i+k=n->(∀m,m<i->p m=0)->loW st (enc i)=some (mE (cE p i k)):=by
  intro k
  induction k with
  |zero=>intro i hi _;obtain rfl:i=n:=by omega
         rw[bD,h0];rfl
  |succ k ih=>
   intro i hi hp;rw[bD,h1 i (by omega) hp]
   simp only[cE];by_cases hz:p i=0
   ·rw[if_pos hz,if_pos hz]
    exact ih (i+1) (by omega) fun m hm=>by
     by_cases h:m=i
     ·subst h;exact hz
     ·exact hp m (by omega)
   ·rw[if_neg hz,if_neg hz];simp[mE,hz]
 exact key n 0 (by omega) (fun m h=>by omega)
theorem mG (e:Int):(bif ap (some (mE e))then bif ab .eql (ah (ac (some (mE e)) 0)) 0 then some [D.int 0]else some [.int (ah (ac (some (mE e)) 1))]else none)=some [.int e]:=by
 by_cases h:e=0
 ·subst h;simp[mE,aq,ax,aC,aD]
 ·simp[mE,h,aq,ax,aC,aD]
theorem Fh (d:D) (i:Nat):(dr d 0 (i:Int)).toList=d.toList.take i:=by rw[oI];simp[D.sub,D.toList]
theorem bL (xs:List D):ae (.list xs)=(xs.length:Int):=by rw[aL];rfl
theorem dA (xs ys:List D):bG (.list xs) (.list ys) = .list (xs++ys):=by rw[mT];rfl
theorem bq {n z:Nat} (hn:n≤1000000000) (hz:z≤1000):cA (n:Int) z=true:=by
 rw[ue];unfold Qg;have h1:n*z≤1000000000*1000:=Nat.mul_le_mul hn hz;have h2:((n*z:Nat):Int)=(n:Int)*(z:Int):=by simp
 simp;omega
theorem zR {d:D} (h:Conf PG 9 d):∃s,d = .str s:=by
 have ht:=str9;unfold Ff at ht;cases hu:PG.underlying 9 with
 |none=>rw[hu]at ht;cases ht
 |some td=>
  rw[hu]at ht;cases h with
  |str h1 hl=>exact⟨_,rfl⟩
  |slice h1 hl hd=>rw[h1]at hu;cases hu;cases ht
  |struct h1=>rw[h1]at hu;cases hu;cases ht
  |bool h1=>rw[h1]at hu;cases hu;cases ht
  |int h1=>rw[h1]at hu;cases hu;cases ht
  |array h1=>rw[h1]at hu;cases hu;cases ht
  |other h1=>unfold dg at h1;rw[hu]at h1;cases td<;>simp_all
theorem len65:d8 65=1+1:=by kernel_rfl
theorem X7:dl 65 0 9=true:=by kernel_rfl
theorem Py:dl 65 1 63=true:=by kernel_rfl
theorem s35:ml 35 65=true:=by kernel_rfl
noncomputable def reV (d:D):D:= .agg [.str (aB (aa d 0)),reT (aa d 1)]
theorem X8 {d:D} (h:Conf PG 65 d):reV d=d:=by
 obtain⟨ds,rfl,hl⟩:=kj len65 h
 match ds,hl with
 | [a,b],_=>
   obtain⟨s,h0⟩:=zR (bi X7 h);have h1:Conf PG 63 b:=bi Py h;obtain rfl:a = .str s:=h0;simp[reV,dV,mC,eC h1]
theorem X9 (xs ys:List D) (s:ByteArray):jE (.list (xs++ys)) s=(jE (.list xs) s||jE (.list ys) s):=by
 unfold jE;simp[D.toList]
theorem Sk {v:D} {xs:List D} (h:v.toList=xs) (s:ByteArray):jE v s=jE (.list xs) s:=by
 unfold jE;rw[h];rfl
noncomputable def Ya (b l:List D) (i:Nat):Int:=
 if gB (aB (aa (l.getD i .other) 0))=false then 3
 else if jE (.list (b++l.take i)) (aB (aa (l.getD i .other) 0))then 8
 else ah (ac (L5 [aa (l.getD i .other) 1]) 0)
noncomputable def nF (b l:List D):Int:=cE (Ya b l) 0 l.length
theorem Jq {x:D} (h:Conf PG 65 x):(aB (aa x 0)).size≤maxLen:=by rw[bx];exact eA (bi X7 h)
theorem Pz {b l:List D} (hb:b.length≤1000000) (hl:l.length≤1000000) (hc:∀x∈l,Conf PG 65 x):WM [.list b, .list l]=some [.int (nF b l)]∧Wa [.list b, .list l]=some [.int (nF b l)]:=by
 have hmx:maxLen=9223372036854775807∨10000000<maxLen:=by unfold maxLen;omega
 have hml:∀n:Nat,n≤10000000->n≤maxLen:=fun n h=>by unfold maxLen;omega
 have facts:∀i,i<l.length->∃e:Int,Conf PG 65 (l.getD i .other)∧VN [reT (aa (l.getD i .other) 1)]=some [.int e]∧L5 [reT (aa (l.getD i .other) 1)]=some [.int e]∧ah (ac (L5 [aa (l.getD i .other) 1]) 0)=e:=fun i hi=>by
  have hm:l.getD i .other∈l:=by rw[getD_lt hi];exact b7 hi
  have h1:Conf PG 63 (aa (l.getD i .other) 1):=by rw[bx];exact bi Py (hc _ hm)
  obtain⟨e,e1,e2⟩:=Sj h1;exact⟨e,hc _ hm,by rw[eC h1];exact e1,by rw[eC h1];exact e2,by rw[e2];simp[ax,aC]⟩
 have hre:∀x:D,D.agg [D.int (ah (aa (aa x 1) 0)),D.int (ah (aa (aa x 1) 1)),D.int (ah (aa (aa x 1) 2)),aa (aa x 1) 3,aa (aa x 1) 4]=reT (aa x 1):=fun x=>rfl
 constructor
 ·have hcl:Iv [.list b]=some [.list b]:=by
   rw[O2];unfold F218;have:bG (D.list []) (List.headD [D.list b] .other) = .list b:=by show bG (D.list []) (D.list b)=_;rw[dA];rfl
   rw[this,bL,bq (by omega) (by omega)];rfl
  rw[O5,F168_eq,hcl];simp only[aq,ax,bf,aj,Cj,bL]
  have hloop:=jj (st:=uP [.list l, .int (l.length:Int)]) (n:=l.length) (enc:=fun i=>[.int (i:Int), .list (b++l.take i)]) (p:=Ya b l)
   (by rw[yW];simp[az]) (fun i hi hp=>by
    obtain⟨e,f1,f2,f3,f4⟩:=facts i hi;have hq:ay (.list l) (i:Int)=l.getD i .other:=by rw[bg];rfl
    have hin:aS (.list l) (i:Int)=true:=aZ (d:= .list l) hi;obtain⟨n1,_⟩:=eB (Jq f1);have hlen:(b++l.take i).length≤2000000:=by simp;omega
    obtain⟨k1,_⟩:=kf (v:= .list (b++l.take i)) (hml _ (by show(b++l.take i).length≤_;omega)) (aB (aa (l.getD i .other) 0))
    have hrv:D.agg [D.str (aB (aa (l.getD i .other) 0)),reT (aa (l.getD i .other) 1)]=l.getD i .other:=X8 f1;rw[yW];simp only[az,cp,show(i:Int)<(l.length:Int)by omega,be,aj,hin,hq,hre,n1,k1,f2,aq,ax,bf,aK,bI,aC,hrv,dA,bL]
    rw[bq (by simp;omega) (by omega)]
    unfold Ya;rw[f4];cases gB (aB (aa (l.getD i .other) 0))with
    |false=>simp
    |true=>
     cases jE (.list (b++l.take i)) (aB (aa (l.getD i .other) 0))with
     |true=>simp
     |false=>
      by_cases he:e=0
      ·simp only[he,bX,aI,aj,be,hR,aV,aX,reduceCtorEq];rw[bk (by omega),dH,vj hi,getD_lt hi]
      ·simp[he])
  simp only[b8,nJ,fQ]at hloop;simp only[hloop];exact mG _
 ·rw[OR,F177_eq,B8]
  have hloop:=jj (st:=uE [.list b, .list l]) (n:=l.length) (enc:=fun i=>[.int (i:Int)]) (p:=Ya b l)
   (by rw[yq,bL];simp[az]) (fun i hi hp=>by
    obtain⟨e,f1,f2,f3,f4⟩:=facts i hi;have hq:ay (.list l) (i:Int)=l.getD i .other:=by rw[bg];rfl
    have hin:aS (.list l) (i:Int)=true:=aZ (d:= .list l) hi;obtain⟨_,n1⟩:=eB (Jq f1);obtain⟨_,k1⟩:=kf (v:= .list b) (hml _ (by show b.length≤_;omega)) (aB (aa (l.getD i .other) 0))
    obtain⟨_,k2⟩:=kf (v:=dr (.list l) 0 (i:Int)) (hml _ (by rw[Fh];show(l.take i).length≤_;simp;omega)) (aB (aa (l.getD i .other) 0))
    have hs:jE (dr (.list l) 0 (i:Int)) (aB (aa (l.getD i .other) 0))=jE (.list (l.take i)) (aB (aa (l.getD i .other) 0)):=Sk (by rw[Fh];rfl) _
    rw[yq];simp only[az,cJ,cp,show(i:Int)<(l.length:Int)by omega,show(0:Int)≤(i:Int)by omega,show(i:Int)≤(l.length:Int)by omega,show(0:Int)≤0 by omega,be,aj,hin,hq,hre,n1,k1,k2,hs,f3,aq,ax,bf,aK,bI,aC,bL]
    unfold Ya;rw[f4,X9];cases gB (aB (aa (l.getD i .other) 0))with
    |false=>simp
    |true=>
     cases jE (.list b) (aB (aa (l.getD i .other) 0))with
     |true=>simp
     |false=>
      cases jE (.list (l.take i)) (aB (aa (l.getD i .other) 0))with
      |true=>simp
      |false=>
       by_cases he:e=0
       ·simp only[he,bX,aI,aj,be,hR,aV,aX,reduceCtorEq,Bool.or_false];rw[bk (by omega)]
       ·simp[he])
  simp only[b8]at hloop;simp only[hloop];exact mG _
end Go.Proofs.YtiojjmlccehpoaaGreat
namespace Go.Proofs.YtiojjmlccehpoaaGreat
noncomputable section
open Go Go.AM
def tH {A:Type} (f:Nat->A->A):Nat->Nat->A->A
 |_,0,a=>a
 |i,k+1,a=>tH f (i+1) k (f i a)
theorem de {A:Type} {st:List D->Option (Sum (List D) (List D))} {n:Nat} {enc:Nat->A->List D} {f:Nat->A->A} {fin:A->List D} {I:Nat->A->Prop} (h0:∀a,I n a->st (enc n a)=some (.inr (fin a)))
 (h1:∀i a,i<n->I i a->st (enc i a)=some (.inl (enc (i+1) (f i a)))∧I (i+1) (f i a)) {a:A} (ha:I 0 a):loW st (enc 0 a)=some (fin (tH f 0 n a))∧I n (tH f 0 n a):=by
 have key:∀k i a,i+k=n->I i a->loW st (enc i a)=some (fin (tH f i k a))∧I n (tH f i k a):=by
  intro k
  induction k with
  |zero=>intro i a hi ha;obtain rfl:i=n:=by omega
         exact⟨by rw[bD,h0 a ha];rfl,ha⟩
  |succ k ih=>
   intro i a hi ha;obtain⟨e,ha'⟩:=h1 i a (by omega) ha
   rw[bD,e];exact ih (i+1) (f i a) (by omega) ha'
 exact key n 0 a (by omega) ha
theorem zS {A:Type} (g:D->A->A):∀(l pre:List D) (a:A),tH (fun i a=>g ((pre++l).getD i .other) a) pre.length l.length a=l.foldl (fun a x=>g x a) a
 | [],pre,a=>rfl
 |x::l,pre,a=>by
  simp only[cn,tH,List.foldl_cons];have h:(pre++x::l).getD pre.length .other=x:=by simp[List.getD]
  rw[h];have ih:=zS g l (pre ++ [x]) (g x a);simp only[dH,lH,gj,bM,cn,cZ]at ih;exact ih
theorem ft {A:Type} (g:D->A->A) (l:List D) (a:A):tH (fun i a=>g (l.getD i .other) a) 0 l.length a=l.foldl (fun a x=>g x a) a:=zS g l [] a
theorem Jr {l x:D} (h:x∈l.toList):x.size<l.size:=by
 cases l with
 |list xs=>
  obtain⟨i,hi⟩:=se h;have hi:xs[i]? = some x:=hi
  have:=jX hi;simp only[D.size];omega
 |_=>simp[D.toList]at h
theorem tl (xs:List D):(D.list xs).toList=xs:=rfl
theorem Yb:d8 187=6+1:=by kernel_rfl
theorem f187_0:dl 187 0 3=true:=by kernel_rfl
theorem f187_1:dl 187 1 3=true:=by kernel_rfl
theorem Yc:dl 187 2 9=true:=by kernel_rfl
theorem f187_3:dl 187 3 23=true:=by kernel_rfl
theorem f187_4:dl 187 4 36=true:=by kernel_rfl
theorem f187_5:dl 187 5 36=true:=by kernel_rfl
theorem Fi:dl 187 6 185=true:=by kernel_rfl
theorem s36:ml 36 187=true:=by kernel_rfl
theorem s185:ml 185 36=true:=by kernel_rfl
def reN (d:D):D:= .agg [.int (ah (aa d 0)), .int (ah (aa d 1)), .str (aB (aa d 2)),aa d 3,aa d 4,aa d 5,aa d 6]
theorem p9 {d:D} (h:Conf PG 187 d):reN d=d:=by
 obtain⟨ds,rfl,hl⟩:=kj Yb h
 match ds,hl with
 | [a,b,c,x3,x4,x5,x6],_=>
   obtain⟨n0,h0⟩:=conf_int X4 (bi f187_0 h);obtain⟨n1,h1⟩:=conf_int X4 (bi f187_1 h);obtain⟨s,h2⟩:=zR (bi Yc h);obtain rfl:a = .int n0:=h0;obtain rfl:b = .int n1:=h1;obtain rfl:c = .str s:=h2;simp[reN,dV,aC,mC]
def aW (s:D):List D:=aa s 4::aa s 5::(aa s 6).toList
theorem ba {s x:D} (h:Conf PG 187 s) (hx:x∈aW s):Conf PG 36 x∧x.size<s.size:=by
 have hf:∀j,j<7->(aa s j).size<s.size:=fun j hj=>by
  obtain⟨ds,rfl,hl⟩:=kj Yb h;rw[bx];exact Jn ⟨ds,rfl,by omega⟩
 unfold aW at hx;simp only[cy]at hx;rcases hx with rfl|rfl|hx
 ·exact⟨by rw[bx];exact bi f187_4 h,hf 4 (by omega)⟩
 ·exact⟨by rw[bx];exact bi f187_5 h,hf 5 (by omega)⟩
 ·have h6:Conf PG 185 (aa s 6):=by rw[bx];exact bi Fi h
  have:=Jr hx;exact⟨(ce s185 h6).2.2 x hx,by have:=hf 6 (by omega);omega⟩
theorem bZ {l s:D} (h:Conf PG 36 l) (hs:s∈l.toList):Conf PG 187 s∧s.size<l.size:=⟨(ce s36 h).2.2 s hs,Jr hs⟩
def Sm:Nat->D->Prop
 |0,_=>False
 |N+1,l=>∀s∈l.toList,(aa s 6).toList.length≤100000∧∀x∈aW s,Sm N x
def cnt:Nat->D->Nat
 |0,_=>0
 |N+1,l=>(l.toList.map fun s=>1+((aW s).map (cnt N)).sum).sum
theorem CD (d:D):dr d 0 0 = .list []:=by rw[oI];simp[D.sub]
theorem Sl {n:Int} (h:0≤n∧n≤1000000):q278 [.int n]=some [.list []]:=by
 rw[O6,F278_eq];obtain⟨m,rfl⟩:∃m:Nat,n=(m:Int):=⟨n.toNat,by omega⟩
 have e0:aM .sub .i64 (m:Int) 0=m:=by rw[fp (by omega) (by omega)];omega
 simp only[e0,az,b9,cJ,aD,CD,bL,bq (show m≤1000000000 by omega) (show 24≤1000 by omega)]
 by_cases h0:m=0
 ·subst h0;simp
 ·simp[show¬((m:Int)<0)by omega,show 0<m by omega]
theorem u5 (xs:List D) (d:D):bG (.list xs) d = .list (xs++d.toList):=by rw[mT];rfl
theorem zU {s:D} (h:(aa s 6).toList.length≤100000):Mn [s]=some [.list (aW s)]:=by
 rw[O7,F240_eq];have e:aM .add .i64 2 (ae (aa s 6))=((2+(aa s 6).toList.length:Nat):Int):=by
  rw[aL,wM (by omega) (by omega)];omega
 simp only[e,Sl (n:=((2+(aa s 6).toList.length:Nat):Int)) (by omega),aq,ax,bf,az,dA,u5,tl,bL,aj]
 rw[bq (by simp) (by omega),bq (by simp;omega) (by omega)]
 simp[aW,show¬((2:Int)+((aa s 6).toList.length:Int)<0)by omega]
def eg (l:List Nat):Nat:=l.foldr max 0
def dep:Nat->D->Nat
 |0,_=>0
 |N+1,l=>eg (l.toList.map fun s=>1+eg ((aW s).map (dep N)))
theorem mH {α:Type} {f g:α->Nat}:∀(l:List α),(∀x∈l,f x≤g x)->eg (l.map f)≤(l.map g).sum
 | [],_=>bj _
 |x::l,h=>by
  have:=mH l fun y hy=>h y (by simp[hy])
  have:=h x (by simp)
  simp only[eg,bW,qo,fR]at *;omega
theorem M4:∀(N:Nat) (l:D),dep N l≤cnt N l
 |0,_=>bj _
 |N+1,l=>by
  simp only[dep,cnt];refine mH _ fun s _=> ?_
  have:=mH (f:=dep N) (g:=cnt N) (aW s) fun x _=>M4 N x
  omega
theorem PA {l:List Nat} {x:Nat} (h:x∈l):x≤l.sum:=by
 induction l with
 |nil=>cases h
 |cons y l ih=>
  simp only[fR];rcases cy.1 h with rfl|h
  ·omega
  ·have:=ih h;omega
theorem m7 {N:Nat} {l s:D} (h:s∈l.toList):1+((aW s).map (cnt N)).sum≤cnt (N+1) l:=PA (ic.2 ⟨s,h,rfl⟩)
theorem jk {N:Nat} {s x:D} (h:x∈aW s):cnt N x≤((aW s).map (cnt N)).sum:=PA (ic.2 ⟨x,h,rfl⟩)
theorem PB (a b:Nat):qmm .gtr (a:Int) (b:Int)=((max a b:Nat):Int):=by
 rw[Kk];simp only[rmm,ef];by_cases h:b<a<;>simp[h]<;>omega
theorem ko {α:Type} (f:α->Nat):∀(l:List α) (a:Nat),l.foldl (fun a x=>max a (f x)) a=max a (eg (l.map f))
 | [],a=>by simp[eg]
 |x::l,a=>by
  rw[List.foldl_cons,ko f l];simp only[eg,bW,qo];omega
theorem Yd {α:Type} {f:α->Nat} (l:List α):max 1 (eg (l.map fun x=>1+f x))=1+eg (l.map f):=by
 induction l with
 |nil=>rfl
 |cons x l ih=>simp only[eg,bW,qo]at *;omega
theorem M5:∀(N:Nat) (l:D),Conf PG 36 l->l.size<N->Sm N l->cnt N l≤1000000->IC N [l]=some [.int (dep N l)]:=by
 intro N
 induction N with
 |zero=>intro l _ h;omega
 |succ N ih=>
  intro l hc hs hm hn;rw[F221_s,WT,Cl];have hlen:=(ce s36 hc).1;unfold maxLen at hlen;have inner:∀s∈l.toList,∀(a:Int) (b:D) (c d:Int),EE (IC N) [.int a,b, .int c, .int d, .list (aW s), .int ((aW s).length:Int)] [.int 1, .int 0]=some [.int 0, .int ((1+eg ((aW s).map (dep N)):Nat):Int)]:=by
   intro s hsm a b c d;obtain⟨h1,h2⟩:=bZ hc hsm;have hk:=(hm s hsm).2;have hcm:=m7 (N:=N) hsm;rw[Ck];have hkl:(aW s).length≤100002:=by have:=(hm s hsm).1;simp[aW];omega
   have hloop:=(de (A:=Nat) (st:=uQ (IC N) [.int a,b, .int c, .int d, .list (aW s), .int ((aW s).length:Int)]) (n:=(aW s).length) (enc:=fun i m=>[.int (m:Int), .int (i:Int)])
    (f:=fun i m=>max m (1+dep N ((aW s).getD i .other))) (fin:=fun m=>[.int 0, .int (m:Int)]) (I:=fun _ _=>True)
    (fun m _=>by rw[yY];simp[az]) (fun i m hi _=>by
     have hx:(aW s).getD i .other∈aW s:=by rw[getD_lt hi];exact b7 hi
     obtain⟨k1,k2⟩:=ba h1 hx;have hc2:=jk (N:=N) hx;have e:=ih _ k1 (by omega) (hk _ hx) (by omega)
     have hd:=M4 N ((aW s).getD i .other);have hq:ay (.list (aW s)) (i:Int)=(aW s).getD i .other:=by rw[bg];rfl
     have hin:aS (.list (aW s)) (i:Int)=true:=aZ (d:= .list (aW s)) hi;refine⟨?_,trivial⟩
     rw[yY];simp only[az,show(i:Int)<((aW s).length:Int)by omega,be,aj,hin,hq,e,aq,ax,bf,aC]
     rw[bk (by omega),wM (by omega) (by omega)]
     rw[show(1:Int)+((dep N ((aW s).getD i .other):Nat):Int)=((1+dep N ((aW s).getD i .other):Nat):Int)by omega,PB]) (a:=1) trivial).1
   rw[ft (g:=fun x m=>max m (1+dep N x))]at hloop
   rw[ko (fun x=>1+dep N x),Yd]at hloop
   exact hloop
  have hloop:=(de (A:=Nat) (st:=uR (IC N) [l, .int (ae l)]) (n:=l.toList.length) (enc:=fun i m=>[.int (m:Int), .int (i:Int)])
   (f:=fun i m=>max m (1+eg ((aW (l.toList.getD i .other)).map (dep N)))) (fin:=fun m=>[.int 0, .int (m:Int)]) (I:=fun _ _=>True)
   (fun m _=>by rw[za,aL];simp[az]) (fun i m hi _=>by
    have hx:l.toList.getD i .other∈l.toList:=by rw[getD_lt hi];exact b7 hi
    refine⟨?_,trivial⟩
    rw[za,aL,aZ hi,bg,zU (hm _ hx).1];simp only[az,show(i:Int)<(l.toList.length:Int)by omega,be,aj,aq,ax,bf,bt,bL,inner _ hx,aC,PB]
    rw[bk (by omega)]) (a:=0) trivial).1
  rw[ft (g:=fun s m=>max m (1+eg ((aW s).map (dep N)))),ko (fun s=>1+eg ((aW s).map (dep N)))]at hloop
  simp only[b8,Nat.zero_max]at hloop;simp only[hloop,aq,ax,bf,bt,aC,aj,dep]
end
end Go.Proofs.YtiojjmlccehpoaaGreat
namespace Go.Proofs.YtiojjmlccehpoaaGreat
open Go Go.AM
noncomputable def bT (s:D):Bool:=decide (ah (aa s 0)=7)||decide (ah (aa s 0)=8)
noncomputable def flP:Nat->D->Bool->List D
 |0,_,_=>[]
 |N+1,l,b=>l.toList.flatMap fun s=> .agg [s, .bool b]::(aW s).flatMap fun x=>flP N x (b||bT s)
noncomputable def flR:Nat->D->Bool->List D
 |0,_,_=>[]
 |N+1,l,b=>l.toList.flatMap fun s=> .agg [s, .bool b]::(flR N (aa s 4) (b||bT s)++flR N (aa s 5) b++(aa s 6).toList.flatMap fun x=>flR N x b)
theorem dz {α:Type} {f:α->List D} {g:α->Nat}:∀(l:List α),(∀x∈l,(f x).length=g x)->(l.flatMap f).length=(l.map g).sum
 | [],_=>rfl
 |x::l,h=>by
  have:=dz l fun y hy=>h y (by simp[hy])
  simp only[lk,bM,bW,fR,this,h x (by simp)]
theorem u6:∀(N:Nat) (l:D) (b:Bool),(flP N l b).length=cnt N l
 |0,_,_=>rfl
 |N+1,l,b=>by
  simp only[flP,cnt];refine dz _ fun s _=> ?_
  rw[cn,dz (g:=cnt N) _ fun x _=>u6 N x _];omega
theorem jl:∀(N:Nat) (l:D) (b:Bool),(flR N l b).length=cnt N l
 |0,_,_=>rfl
 |N+1,l,b=>by
  simp only[flR,cnt];refine dz _ fun s _=> ?_
  rw[cn,bM,bM,jl,jl,dz (g:=cnt N) _ fun x _=>jl N x _]
  simp[aW];omega
theorem f8 {f:D->List D} {l:List D} {i:Nat} (h:i<l.length):(l.take (i+1)).flatMap f=(l.take i).flatMap f++f (l.getD i .other):=by
 rw[vj h,List.flatMap_append,getD_lt h];simp
theorem gg {f:D->List D} {l:List D} (i:Nat):((l.take i).flatMap f).length≤(l.flatMap f).length:=by
 have:l.flatMap f=(l.take i).flatMap f++(l.drop i).flatMap f:=by rw[<- List.flatMap_append,List.take_append_drop]
 rw[this,bM];omega
theorem Ye:∀(N:Nat) (l:D) (b:Bool),Conf PG 36 l->l.size<N->Sm N l->cnt N l≤1000000->IG N [l, .bool b]=some [.list (flP N l b)]:=by
 intro N
 induction N with
 |zero=>intro l _ _ h;omega
 |succ N ih=>
  intro l b hc hs hm hn;rw[F222_s,WY,Cn];have hlen:=(ce s36 hc).1;unfold maxLen at hlen
  have inner:∀s∈l.toList,∀(a:D) (c d:Int) (acc:List D),acc.length+((aW s).map (cnt N)).sum≤1000000->EF (IG N) [.bool b,a, .int c, .int d, .list (aW s), .int ((aW s).length:Int),s] [.int 0, .list acc] =
   some [.int 0, .list (acc++(aW s).flatMap fun x=>flP N x (b||bT s))]:=by
   intro s hsm a c d acc hacc;obtain⟨h1,h2⟩:=bZ hc hsm;have hk:=(hm s hsm).2;have hcm:=m7 (N:=N) hsm;have hfl:((aW s).flatMap fun x=>flP N x (b||bT s)).length=((aW s).map (cnt N)).sum:=dz _ fun x _=>u6 N x _
   rw[Cm];have hkl:(aW s).length≤100002:=by have:=(hm s hsm).1;simp[aW];omega
   have hloop:=(de (A:=List D) (st:=uS (IG N) [.bool b,a, .int c, .int d, .list (aW s), .int ((aW s).length:Int),s]) (n:=(aW s).length) (enc:=fun i m=>[.int (i:Int), .list m])
    (f:=fun i m=>m++flP N ((aW s).getD i .other) (b||bT s)) (fin:=fun m=>[.int 0, .list m]) (I:=fun i m=>m=acc++((aW s).take i).flatMap fun x=>flP N x (b||bT s))
    (fun m _=>by rw[zc];simp[az]) (fun i m hi hI=>by
     have hx:(aW s).getD i .other∈aW s:=by rw[getD_lt hi];exact b7 hi
     obtain⟨k1,k2⟩:=ba h1 hx;have hc2:=jk (N:=N) hx;have e:=fun b'=>ih _ b' k1 (by omega) (hk _ hx) (by omega)
     have hq:ay (.list (aW s)) (i:Int)=(aW s).getD i .other:=by rw[bg];rfl
     have hin:aS (.list (aW s)) (i:Int)=true:=aZ (d:= .list (aW s)) hi;have hI':m++flP N ((aW s).getD i .other) (b||bT s)=acc++((aW s).take (i+1)).flatMap fun x=>flP N x (b||bT s):=by rw[f8 hi,hI,dH]
     refine⟨?_,hI'⟩
     have hml:(m++flP N ((aW s).getD i .other) (b||bT s)).length≤1000000000:=by
      rw[hI',bM];have:=gg (f:=fun x=>flP N x (b||bT s)) (l:=aW s) (i+1)
      omega
     rw[zc];simp only[az,show(i:Int)<((aW s).length:Int)by omega,be,aj,hin,hq,e,aq,ax,bf,dA,bL,aD]
     rw[bk (by omega)]
     cases b with
     |true=>simp only[lN,aj]at hml ⊢;rw[bq hml (by omega)];rfl
     |false=>
      simp only[lm,aI]at hml ⊢;by_cases h7:ah (aa s 0)=7
      ·have hl:bT s=true:=by simp[bT,h7]
       rw[hl]at hml ⊢;simp only[h7,be,aj];rw[bq hml (by omega)];rfl
      ·have hl:bT s=decide (ah (aa s 0)=8):=by simp[bT,h7]
       rw[hl]at hml ⊢
       simp only[h7,bl,aI];rw[bq hml (by omega)];rfl) (a:=acc) (by simp))
   obtain⟨g1,g2⟩:=hloop;rw[eP (bj _)]at g2;rw[g2]at g1;exact g1
  have hflen:=u6 (N+1) l b
  have hloop:=(de (A:=List D) (st:=uU (IG N) [.bool b,l, .int (ae l)]) (n:=l.toList.length) (enc:=fun i m=>[.int (i:Int), .list m])
   (f:=fun i m=>m++(.agg [l.toList.getD i .other, .bool b]::(aW (l.toList.getD i .other)).flatMap fun x=>flP N x (b||bT (l.toList.getD i .other)))) (fin:=fun m=>[.int 0, .list m])
   (I:=fun i m=>m=(l.toList.take i).flatMap fun s=> .agg [s, .bool b]::(aW s).flatMap fun x=>flP N x (b||bT s))
   (fun m _=>by rw[zf,aL];simp[az]) (fun i m hi hI=>by
    have hx:l.toList.getD i .other∈l.toList:=by rw[getD_lt hi];exact b7 hi
    obtain⟨h1,h2⟩:=bZ hc hx
    have hI':m++(.agg [l.toList.getD i .other, .bool b]::(aW (l.toList.getD i .other)).flatMap fun x=>flP N x (b||bT (l.toList.getD i .other))) =
     (l.toList.take (i+1)).flatMap fun s=> .agg [s, .bool b]::(aW s).flatMap fun x=>flP N x (b||bT s):=by
     rw[f8 (f:=fun s=> .agg [s, .bool b]::(aW s).flatMap fun x=>flP N x (b||bT s)) hi,hI]
    refine⟨?_,hI'⟩
    have hlt:=gg (f:=fun s=> .agg [s, .bool b]::(aW s).flatMap fun x=>flP N x (b||bT s)) (l:=l.toList) (i+1)
    simp only[flP]at hflen;have hfl:((aW (l.toList.getD i .other)).flatMap fun x=>flP N x (b||bT (l.toList.getD i .other))).length=((aW (l.toList.getD i .other)).map (cnt N)).sum:=dz _ fun x _=>u6 N x _
    rw[<- hI',bM,cn,hfl]at hlt;have hre:D.agg [D.int (ah (aa (l.toList.getD i .other) 0)),D.int (ah (aa (l.toList.getD i .other) 1)),D.str (aB (aa (l.toList.getD i .other) 2)),aa (l.toList.getD i .other) 3,aa (l.toList.getD i .other) 4,aa (l.toList.getD i .other) 5,aa (l.toList.getD i .other) 6]=l.toList.getD i .other:=p9 h1;rw[zf,aL,aZ hi,bg,zU (hm _ hx).1,hre];simp only[az,show(i:Int)<(l.toList.length:Int)by omega,be,aj,aq,ax,bf,bt,bL,dA]
    rw[bq (by rw[bM,cn,cZ];omega) (by omega),inner _ hx _ _ _ _ (by rw[bM,cn,cZ];omega)]
    simp only[aq,ax,bf,bt,aj,dH,lH,gj]
    rw[bk (by omega)]) (a:=[]) (by simp))
  obtain⟨g1,g2⟩:=hloop;rw[eP (bj _)]at g2;rw[g2]at g1;simp only[b8]at g1;simp only[g1,aq,ax,bf,bt,aj,flP]
set_option maxHeartbeats 1000000 in
theorem Sn:∀(N:Nat) (l:D) (b:Bool),Conf PG 36 l->l.size<N->Sm N l->cnt N l≤1000000->Ip N [l, .bool b]=some [.list (flR N l b)]:=by
 intro N
 induction N with
 |zero=>intro l _ _ h;omega
 |succ N ih=>
  intro l b hc hs hm hn;rw[F228_s,Wo,Ce];have hlen:=(ce s36 hc).1;unfold maxLen at hlen
  have inner:∀i,i<l.toList.length->∀(acc:List D),acc.length+((aa (l.toList.getD i .other) 6).toList.map (cnt N)).sum≤1000000->yG (Ip N) [l, .bool b, .int (i:Int)] [.int 0, .list acc] =
   some [.int 0, .list (acc++(aa (l.toList.getD i .other) 6).toList.flatMap fun x=>flR N x b)]:=by
   intro j hj acc hacc;have hsm:l.toList.getD j .other∈l.toList:=by rw[getD_lt hj];exact b7 hj
   have hgj:ay l (j:Int)=l.toList.getD j .other:=bg _ _;generalize l.toList.getD j .other=s at *;obtain⟨h1,h2⟩:=bZ hc hsm;have hk:=(hm s hsm).2;have hcm:=m7 (N:=N) hsm;have hfl:((aa s 6).toList.flatMap fun x=>flR N x b).length=((aa s 6).toList.map (cnt N)).sum:=dz _ fun x _=>jl N x _
   rw[Cd];have hkl:(aa s 6).toList.length≤100000:=(hm s hsm).1
   have hloop:=(de (A:=List D) (st:=uL (Ip N) [l, .bool b, .int (j:Int)]) (n:=(aa s 6).toList.length) (enc:=fun i m=>[.int (i:Int), .list m])
    (f:=fun i m=>m++flR N ((aa s 6).toList.getD i .other) b) (fin:=fun m=>[.int 0, .list m]) (I:=fun i m=>m=acc++((aa s 6).toList.take i).flatMap fun x=>flR N x b)
    (fun m _=>by rw[yF,aZ hj,hgj,aL];simp[az]) (fun i m hi hI=>by
     have hx0:(aa s 6).toList.getD i .other∈(aa s 6).toList:=by rw[getD_lt hi];exact b7 hi
     have hx:(aa s 6).toList.getD i .other∈aW s:=by unfold aW;simp only[cy];exact .inr (.inr hx0)
     obtain⟨k1,k2⟩:=ba h1 hx;have hc2:=jk (N:=N) hx;have e:=ih _ b k1 (by omega) (hk _ hx) (by omega)
     have hI':m++flR N ((aa s 6).toList.getD i .other) b=acc++((aa s 6).toList.take (i+1)).flatMap fun x=>flR N x b:=by rw[f8 hi,hI,dH]
     refine⟨?_,hI'⟩
     have hml:(m++flR N ((aa s 6).toList.getD i .other) b).length≤1000000000:=by
      rw[hI',bM];have:=gg (f:=fun x=>flR N x b) (l:=(aa s 6).toList) (i+1)
      omega
     rw[yF,aZ hj,hgj,aL,aZ hi,bg,e];simp only[az,show(i:Int)<((aa s 6).toList.length:Int)by omega,be,aj,aq,ax,bf,dA,bL]
     rw[bk (by omega),bq hml (by omega)];rfl) (a:=acc) (by simp))
   obtain⟨g1,g2⟩:=hloop;rw[eP (bj _)]at g2;rw[g2]at g1;exact g1
  have hflen:=jl (N+1) l b
  have hloop:=(de (A:=List D) (st:=uM (Ip N) [l, .bool b]) (n:=l.toList.length) (enc:=fun i m=>[.int (i:Int), .list m])
   (f:=fun i m=>m++(.agg [l.toList.getD i .other, .bool b]::(flR N (aa (l.toList.getD i .other) 4) (b||bT (l.toList.getD i .other))++flR N (aa (l.toList.getD i .other) 5) b++(aa (l.toList.getD i .other) 6).toList.flatMap fun x=>flR N x b))) (fin:=fun m=>[.int 0, .list m])
   (I:=fun i m=>m=(l.toList.take i).flatMap fun s=> .agg [s, .bool b]::(flR N (aa s 4) (b||bT s)++flR N (aa s 5) b++(aa s 6).toList.flatMap fun x=>flR N x b))
   (fun m _=>by rw[yI,aL];simp[az]) (fun i m hi hI=>by
    have hx:l.toList.getD i .other∈l.toList:=by rw[getD_lt hi];exact b7 hi
    obtain⟨h1,h2⟩:=bZ hc hx
    have hI':m++(.agg [l.toList.getD i .other, .bool b]::(flR N (aa (l.toList.getD i .other) 4) (b||bT (l.toList.getD i .other))++flR N (aa (l.toList.getD i .other) 5) b++(aa (l.toList.getD i .other) 6).toList.flatMap fun x=>flR N x b)) =
     (l.toList.take (i+1)).flatMap fun s=> .agg [s, .bool b]::(flR N (aa s 4) (b||bT s)++flR N (aa s 5) b++(aa s 6).toList.flatMap fun x=>flR N x b):=by
     rw[f8 (f:=fun s=> .agg [s, .bool b]::(flR N (aa s 4) (b||bT s)++flR N (aa s 5) b++(aa s 6).toList.flatMap fun x=>flR N x b)) hi,hI]
    refine⟨?_,hI'⟩
    have hlt:=gg (f:=fun s=> .agg [s, .bool b]::(flR N (aa s 4) (b||bT s)++flR N (aa s 5) b++(aa s 6).toList.flatMap fun x=>flR N x b)) (l:=l.toList) (i+1)
    simp only[flR]at hflen;have hinn:=inner i hi;have hgi:ay l (i:Int)=l.toList.getD i .other:=bg _ _;have hkk:=(hm _ hx).2;have hcm:=m7 (N:=N) hx;generalize l.toList.getD i .other=s at *;have k4:aa s 4∈aW s:=by simp[aW]
    have k5:aa s 5∈aW s:=by simp[aW]
    have hfl:((aa s 6).toList.flatMap fun x=>flR N x b).length=((aa s 6).toList.map (cnt N)).sum:=dz _ fun x _=>jl N x _
    have hl4:=jl N (aa s 4) (b||bT s)
    have hl5:=jl N (aa s 5) b;rw[<- hI',bM,cn,bM,bM,hfl,hl4,hl5]at hlt;have e4:=fun b'=>ih _ b' (ba h1 k4).1 (by have:=(ba h1 k4).2;omega) (hkk _ k4) (by have:=jk (N:=N) k4;omega)
    have e5:=ih _ b (ba h1 k5).1 (by have:=(ba h1 k5).2;omega) (hkk _ k5) (by have:=jk (N:=N) k5;omega)
    have hre:D.agg [D.int (ah (aa s 0)),D.int (ah (aa s 1)),D.str (aB (aa s 2)),aa s 3,aa s 4,aa s 5,aa s 6]=s:=p9 h1;have m1:cA ((m ++ [D.agg [s, .bool b]]).length:Int) 136=true:=bq (by rw[bM,cn,cZ];omega) (by omega)
    have m2:cA ((m ++ [D.agg [s, .bool b]]++flR N (aa s 4) (b||bT s)).length:Int) 136=true:=bq (by rw[bM,bM,cn,cZ,hl4];omega) (by omega)
    have m3:cA ((m ++ [D.agg [s, .bool b]]++flR N (aa s 4) (b||bT s)++flR N (aa s 5) b).length:Int) 136=true:=bq (by rw[bM,bM,bM,cn,cZ,hl4,hl5];omega) (by omega)
    have hin:=hinn (m ++ [D.agg [s, .bool b]]++flR N (aa s 4) (b||bT s)++flR N (aa s 5) b) (by rw[bM,bM,bM,cn,cZ,hl4,hl5];omega)
    rw[yI,aL,aZ hi,hgi,hre];simp only[az,show(i:Int)<(l.toList.length:Int)by omega,be,aj,bL,dA,m1,e4,e5,aq,ax,bf,aD]
    have fin:D.list (m ++ [D.agg [s, .bool b]]++flR N (aa s 4) (b||bT s)++flR N (aa s 5) b++(aa s 6).toList.flatMap fun x=>flR N x b)=D.list (m++(.agg [s, .bool b]::(flR N (aa s 4) (b||bT s)++flR N (aa s 5) b++(aa s 6).toList.flatMap fun x=>flR N x b))):=by simp
    rw[<- fin];cases b with
    |true=>
     simp only[lN]at m2 m3 hin ⊢;simp only[m2,m3,hin,aq,ax,bf,bt,aj,bk (show i<9223372036854775807 by omega)]
    |false=>
     simp only[lm,aI]at m2 m3 hin ⊢;by_cases h7:ah (aa s 0)=7
     ·have hl:bT s=true:=by simp[bT,h7]
      rw[hl]at m2 m3 hin ⊢;simp only[h7,be,m2,m3,hin,aq,ax,bf,bt,aj,bk (show i<9223372036854775807 by omega)]
     ·have hl:bT s=decide (ah (aa s 0)=8):=by simp[bT,h7]
      rw[hl]at m2 m3 hin ⊢
      simp only[h7,bl,aI,m2,m3,hin,aq,ax,bf,bt,aj,bk (show i<9223372036854775807 by omega)]) (a:=[]) (by simp))
  obtain⟨g1,g2⟩:=hloop;rw[eP (bj _)]at g2;rw[g2]at g1;simp only[b8]at g1;simp only[g1,aq,ax,bf,bt,aj,flR]
noncomputable def iB:Nat->D->Int->Nat
 |0,_,_=>0
 |N+1,l,m=>if l.toList.length=0∨m<0 then 0 else 1+eg (l.toList.map fun s=>eg ((aW s).map fun x=>iB N x (m-1)))
theorem zV {α:Type} {f g:α->Nat} {k:Nat}:∀(l:List α),(∀x∈l,f x=min (g x) k)->eg (l.map f)=min (eg (l.map g)) k
 | [],_=>by simp[eg]
 |x::l,h=>by
  have:=zV l fun y hy=>h y (by simp[hy])
  have:=h x (by simp)
  simp only[eg,bW,qo]at *;omega
theorem CE {α:Type} {f:α->Nat}:∀(l:List α),l≠[]->eg (l.map fun x=>1+f x)=1+eg (l.map f)
 | [x],_=>by simp[eg]
 |x::y::l,_=>by
  have:=CE (f:=f) (y::l) (by simp)
  simp only[eg,bW,qo]at *;omega
theorem Fj:∀(N:Nat) (l:D) (m:Nat),iB N l ((m:Int)-1)=min (dep N l) m
 |0,_,_=>by simp[iB,dep]
 |N+1,l,0=>by simp[iB]
 |N+1,l,m+1=>by
  simp only[iB,dep];by_cases h:l.toList.length=0
  ·have:l.toList = []:=gh.1 h;simp[this,eg]
  ·have hne:l.toList≠[]:=fun e=>h (by rw[e];rfl)
   rw[if_neg (by omega),CE _ hne]
   have:eg (l.toList.map fun s=>eg ((aW s).map fun x=>iB N x (((m+1:Nat):Int)-1-1)))=min (eg (l.toList.map fun s=>eg ((aW s).map (dep N)))) m:=
    zV _ fun s _=>zV _ fun x _=>by
     rw[show((m+1:Nat):Int)-1-1=(m:Int)-1 by omega];exact Fj N x m
   rw[this];omega
theorem ite_max (a b:Nat):fC (decide ((b:Int)<(a:Int))) (a:Int) (b:Int)=((max b a:Nat):Int):=by
 rw[ew];by_cases h:b<a<;>simp[h]<;>omega
theorem depC_le (N:Nat) (l:D) (m:Int) (h: -1≤m):iB N l m≤cnt N l:=by
 obtain⟨k,rfl⟩:∃k:Nat,m=(k:Int)-1:=⟨(m+1).toNat,by omega⟩
 rw[Fj];have:=M4 N l;omega
theorem M6 (f:D->Nat) (s:D) (b:Nat):max (max (max b (f (aa s 4))) (f (aa s 5))) (eg ((aa s 6).toList.map f))=max b (eg ((aW s).map f)):=by
 simp only[aW,eg,bW,qo];omega
theorem Js:∀(N:Nat) (l:D) (m:Int),Conf PG 36 l->l.size<N->Sm N l->cnt N l≤1000000-> -1≤m->m≤1000000->Il N [l, .int m]=some [.int (iB N l m)]:=by
 intro N
 induction N with
 |zero=>intro l _ _ h;omega
 |succ N ih=>
  intro l m hc hs hm hn hm0 hm1;rw[F227_s,Wj,Cc];have hlen:=(ce s36 hc).1;unfold maxLen at hlen;simp only[aL,bN,aD,az];by_cases hz:l.toList.length=0∨m<0
  ·have:(bif decide ((l.toList.length:Int)=0)then true else decide (m<0))=true:=by
    rcases hz with h|h
    ·simp[h]
    ·by_cases h':l.toList.length=0<;>simp[h,h']
   rw[this];simp only[aj,iB,if_pos hz];rfl
  ·have h1':¬((l.toList.length:Int)=0):=fun h=>hz (.inl (by omega))
   have h2':¬m<0:=fun h=>hz (.inr h)
   simp only[h1',h2',bl,aI];have hsub:aM .sub .i64 m 1=m-1:=fp (by omega) (by omega)
   have inner:∀i,i<l.toList.length->∀(b:Nat),uJ (Il N) [l, .int m, .int (i:Int)] [.int (b:Int), .int 0] =
    some [.int 0, .int ((max b (eg ((aa (l.toList.getD i .other) 6).toList.map fun x=>iB N x (m-1))):Nat):Int)]:=by
    intro j hj b;have hsm:l.toList.getD j .other∈l.toList:=by rw[getD_lt hj];exact b7 hj
    have hgj:ay l (j:Int)=l.toList.getD j .other:=bg _ _;generalize l.toList.getD j .other=s at *;obtain⟨h1,h2⟩:=bZ hc hsm;have hk:=(hm s hsm).2;have hcm:=m7 (N:=N) hsm;rw[yC];have hkl:(aa s 6).toList.length≤100000:=(hm s hsm).1
    have hloop:=(de (A:=Nat) (st:=pK (Il N) [l, .int m, .int (j:Int)]) (n:=(aa s 6).toList.length) (enc:=fun i b=>[.int (b:Int), .int (i:Int)])
     (f:=fun i b=>max b (iB N ((aa s 6).toList.getD i .other) (m-1))) (fin:=fun b=>[.int 0, .int (b:Int)]) (I:=fun _ _=>True)
     (fun m _=>by rw[th,aZ hj,hgj,aL];simp[az]) (fun i b hi _=>by
      have hx0:(aa s 6).toList.getD i .other∈(aa s 6).toList:=by rw[getD_lt hi];exact b7 hi
      have hx:(aa s 6).toList.getD i .other∈aW s:=by unfold aW;simp only[cy];exact .inr (.inr hx0)
      obtain⟨k1,k2⟩:=ba h1 hx;have hc2:=jk (N:=N) hx;have e:=ih _ (m-1) k1 (by omega) (hk _ hx) (by omega) (by omega) (by omega)
      refine⟨?_,trivial⟩
      rw[th,aZ hj,hgj,aL,aZ hi,bg,hsub,e];generalize iB N ((aa s 6).toList.getD i .other) (m-1)=d;simp only[az,b9,show(i:Int)<((aa s 6).toList.length:Int)by omega,be,aj,aq,ax,bf,aC]
      rw[bk (by omega)]
      by_cases h:b<d
      ·simp[h,show max b d=d by omega]
      ·simp[h,show max b d=b by omega]) (a:=b) trivial).1
    rw[ft (g:=fun x b=>max b (iB N x (m-1))),ko (fun x=>iB N x (m-1))]at hloop
    exact hloop
   have hloop:=(de (A:=Nat) (st:=uK (Il N) [l, .int m]) (n:=l.toList.length) (enc:=fun i b=>[.int (b:Int), .int (i:Int)])
    (f:=fun i b=>max b (eg ((aW (l.toList.getD i .other)).map fun x=>iB N x (m-1)))) (fin:=fun b=>[.int 0, .int (b:Int)]) (I:=fun _ _=>True)
    (fun m _=>by rw[yD,aL];simp[az]) (fun i b hi _=>by
     have hx:l.toList.getD i .other∈l.toList:=by rw[getD_lt hi];exact b7 hi
     have hinn:=inner i hi;have hgi:ay l (i:Int)=l.toList.getD i .other:=bg _ _;have hkk:=(hm _ hx).2;have hcm:=m7 (N:=N) hx;obtain⟨h1,h2⟩:=bZ hc hx;generalize l.toList.getD i .other=s at *;have k4:aa s 4∈aW s:=by simp[aW]
     have k5:aa s 5∈aW s:=by simp[aW]
     have e4:=ih _ (m-1) (ba h1 k4).1 (by have:=(ba h1 k4).2;omega) (hkk _ k4) (by have:=jk (N:=N) k4;omega) (by omega) (by omega)
     have e5:=ih _ (m-1) (ba h1 k5).1 (by have:=(ba h1 k5).2;omega) (hkk _ k5) (by have:=jk (N:=N) k5;omega) (by omega) (by omega)
     have hmx:=M6 (fun x=>iB N x (m-1)) s b
     refine⟨?_,trivial⟩
     rw[yD,aL,aZ hi,hgi,hsub,e4,e5];simp only[az,b9,show(i:Int)<(l.toList.length:Int)by omega,be,aj,aq,ax,bf,bt,aC,ite_max,hinn,hmx]
     rw[bk (by omega)]) (a:=0) trivial).1
   rw[ft (g:=fun s b=>max b (eg ((aW s).map fun x=>iB N x (m-1)))),ko (fun s=>eg ((aW s).map fun x=>iB N x (m-1)))]at hloop
   simp only[b8,Nat.zero_max]at hloop;have hle:=depC_le (N+1) l m hm0;simp only[iB,hz,aV]at hle;simp only[hloop,aq,ax,bf,bt,aC,aj,iB,hz,aV];rw[bk (by omega),Nat.add_comm]
theorem Yf {N:Nat} {l:D}:(64<dep N l)↔(64<iB N l 65):=by
 have:=Fj N l 66;rw[show((66:Nat):Int)-1=65 from rfl]at this
 rw[this];omega
noncomputable def fm (x:D):Bool:=fmd (x.size+1) x
theorem PC {x:D} (h:Conf PG 25 x):q86 [x]=some [.bool (fm x)]∧Lr [x]=some [.bool (fm x)]:=by
 obtain⟨a,b⟩:=X2 (aY [x]) x h (cC (by simp))
 have:fmd (aY [x]) x=fm x:=Fg _ _ x (cC (by simp)) (by omega)
 rw[this]at a b;exact⟨by rw[U3];exact a,by rw[OB];exact b⟩
theorem s23':ml 23 25=true:=by kernel_rfl
theorem iC {s:D} (h:Conf PG 187 s):(aa s 3).toList.length≤maxLen∧∀x∈(aa s 3).toList,Conf PG 25 x:=by
 have h3:Conf PG 23 (aa s 3):=by rw[bx];exact bi f187_3 h
 exact⟨(ce s23' h3).1,(ce s23' h3).2.2⟩
theorem So {s:D} (h:Conf PG 187 s):(aB (aa s 2)).size≤maxLen:=by rw[bx];exact eA (bi Yc h)
theorem Jt {l:D} {p:D->Bool} (hl:l.toList.length≤maxLen) (hc:∀x∈l.toList,q86 [x]=some [.bool (p x)]):mB [l]=some [.bool (l.toList.any fun x=> !p x)]:=by
 rw[tA,I1,tz,IZ,nE];rcases cz (st:=ji [l, .int (ae l)]) (c:=fun x=>mA [x]) (p:=fun x=> !p x) (r1:=fun i=>[.int 1, .int i]) (r0:=[.int 0]) (fun i=>zx l (ae l) i) hl (fun x hx=>by rw[tx,IX,hc x hx];simp[aq,ax,aK,bI])with⟨h1,h2⟩|⟨i,h1,h2⟩
 ·simp[h1,h2,aq,ax,aC,aD,bB]
 ·simp[h1,h2,aq,ax,aC,aD,bB]
def iD (k w:Int) (n3 n4 n5 n6:Nat) (nm e:Bool):Bool:=
 if k=1 then nm&&decide (w=0)&&decide (n3=1)&&decide (n4=0)&&decide (n5=0)&&decide (n6=0)
 else if k=2 then e&&(decide (w=1)||decide (w=2)||decide (w=4))&&decide (n3=2)&&decide (n4=0)&&decide (n5=0)&&decide (n6=0)
 else if k=3 then nm&&decide (w=0)&&decide (n3=0)&&decide (n4=0)&&decide (n5=0)&&decide (n6=0)
 else if k=4 then e&&decide (w=0)&&decide (n3=1)&&decide (n4=0)&&decide (n5=0)&&decide (n6=0)
 else if k=5 then nm&&decide (w=0)&&decide (n3=0)&&decide (n4=0)&&decide (n5=0)&&decide (n6=0)
 else if k=6 then e&&decide (w=0)&&decide (n3=1)&&decide (n6=0)
 else if k=7 then e&&decide (w=0)&&decide (n3=1)&&decide (n5=0)&&decide (n6=0)
 else if k=8 then e&&decide (w=0)&&decide (n3=0)&&decide (n5=0)&&decide (n6=0)
 else if k=9 then e&&decide (w=0)&&decide (n3=1)&&decide (n4=0)&&decide (n5=0)&&(!decide (n6<1) && !decide (64<n6))
 else if k=10 then e&&decide (w=0)&&decide (n3=0)&&decide (n4=0)&&decide (n5=0)&&decide (n6=0)
 else if k=11 then e&&decide (w=0)&&decide (n3=0)&&decide (n4=0)&&decide (n5=0)&&decide (n6=0)
 else if k=12 then nm&&decide (w=0)&&decide (n3=0)&&decide (n4=0)&&decide (n5=0)&&decide (n6=0)
 else if k=13 then nm&&decide (w=0)&&decide (n3=0)&&decide (n4=0)&&decide (n5=0)&&decide (n6=0)
 else if k=14 then e&&decide (w=0)&&decide (n3=0)&&decide (n4=0)&&decide (n5=0)&&decide (n6=0)
 else if k=15 then e&&decide (w=0)&&decide (n3=0)&&decide (n4=0)&&decide (n5=0)&&decide (n6=0)
 else false
noncomputable def stB (s:D):Bool:=iD (ah (aa s 0)) (ah (aa s 1)) (aa s 3).toList.length (aa s 4).toList.length (aa s 5).toList.length (aa s 6).toList.length (gB (aB (aa s 2))) (cI .eql (aB (aa s 2)) (ByteArray.mk #[]))&&(aa s 3).toList.all fm
set_option maxHeartbeats 2000000 in
theorem CF {s:D} (h:Conf PG 187 s):q243 [s]=some [.bool (stB s)]∧q248 [s]=some [.bool (stB s)]:=by
 obtain⟨l3,e3⟩:=iC h;obtain⟨a1,a2⟩:=eB (So h);have hcon:=Jt (p:=fm) l3 (fun x hx=>(PC (e3 x hx)).1)
 have hloop:=cz (st:=pL [s]) (l:=aa s 3) (c:=fun x=>(Lr [x]).map fun r=>[.bool (bU (aQ (r.getD 0 .other)))]) (p:=fun x=> !fm x) (r1:=fun _=>[.int 1]) (r0:=[.int 0])
  (fun i=>by
   rw[Md];cases hq:Lr [ay (aa s 3) i]with
   |none=>simp[gZ]
   |some r=>simp[aq,ax,aK]) l3 (fun x hx=>by rw[(PC (e3 x hx)).2];simp[aK,bI])
 have hall:(aa s 3).toList.all fm = !((aa s 3).toList.any fun x=> !fm x):=by rw[vm];simp
 rw[Pd,F243_eq,OX,F248_eq,OW,F264_eq,Cf,hcon,a1,a2];unfold stB;rw[hall];have hr:∃r,loW (pL [s]) [.int 0]=some [.int r]∧decide (r=0) = !((aa s 3).toList.any fun x=> !fm x):=by
  rcases hloop with⟨b1,b2⟩|⟨_,b1,b2⟩
  ·exact⟨0,b1,by rw[b2];rfl⟩
  ·exact⟨1,b1,by rw[b2];rfl⟩
 obtain⟨r,hr1,hr2⟩:=hr;simp only[hr1,aq,ax,bf,bt,aK,aC,bI,aD,cp,az,b9,bN,CB,aL,aj,hr2,be,bX];clear hr1 hr2 hloop hcon hall a1 a2 e3 l3;have g:∀n:Nat,decide (0<(n:Int)) = !decide (n=0):=fun n=>by by_cases h:n=0<;>simp[h]<;>omega
 have g0:∀n:Nat,decide ((n:Int)=0)=decide (n=0):=fun n=>by by_cases h:n=0<;>simp[h]
 have g1:∀n:Nat,decide ((n:Int)=1)=decide (n=1):=fun n=>by by_cases h:n=1<;>simp[h]<;>omega
 have g2:∀n:Nat,decide ((n:Int)=2)=decide (n=2):=fun n=>by by_cases h:n=2<;>simp[h]<;>omega
 have g3:∀n:Nat,decide ((n:Int)<1)=decide (n<1):=fun n=>by by_cases h:n<1<;>simp[h]<;>omega
 have g4:∀n:Nat,decide ((64:Int)<(n:Int))=decide (64<n):=fun n=>by by_cases h:64<n<;>simp[h]<;>omega
 simp only[g,g0,g1,g2,g3,g4];generalize ((aa s 3).toList.any fun x=> !fm x)=af
 generalize gB (aB (aa s 2))=nm;generalize cI .eql (aB (aa s 2)) (ByteArray.mk #[])=e;generalize (aa s 3).toList.length=n3;generalize (aa s 4).toList.length=n4;generalize (aa s 5).toList.length=n5;generalize (aa s 6).toList.length=n6;generalize ah (aa s 1)=w;generalize ah (aa s 0)=k;clear h;unfold iD;have hk:k=1∨k=2∨k=3∨k=4∨k=5∨k=6∨k=7∨k=8∨k=9∨k=10∨k=11∨k=12∨k=13∨k=14∨k=15∨(¬k=1∧¬k=2∧¬k=3∧¬k=4∧¬k=5∧¬k=6∧¬k=7∧¬k=8∧¬k=9∧¬k=10∧¬k=11∧¬k=12∧¬k=13∧¬k=14∧¬k=15):=by omega
 rcases hk with rfl|rfl|rfl|rfl|rfl|rfl|rfl|rfl|rfl|rfl|rfl|rfl|rfl|rfl|rfl|⟨h1,h2,h3,h4,h5,h6,h7,h8,h9,h10,h11,h12,h13,h14,h15⟩
 ·simp only[show¬((1:Int)=2)by omega,show¬((1:Int)=3)by omega,show¬((1:Int)=4)by omega,show¬((1:Int)=5)by omega,show¬((1:Int)=6)by omega,show¬((1:Int)=7)by omega,show¬((1:Int)=8)by omega,show¬((1:Int)=9)by omega,show¬((1:Int)=10)by omega,show¬((1:Int)=11)by omega,show¬((1:Int)=12)by omega,show¬((1:Int)=13)by omega,show¬((1:Int)=14)by omega,show¬((1:Int)=15)by omega,be,bl,aj,aI,aX,aV,bX,dk,aC,aK,ax,bf,bt,aq,g,g0,g1,g2,g3,g4]
  generalize decide (n3=1)=b0;generalize decide (n4=0)=b1;generalize decide (n5=0)=b2;generalize decide (n6=0)=b3;generalize decide (w=0)=b4;constructor<;>cases b0<;>cases b1<;>cases b2<;>cases b3<;>cases b4<;>cases nm<;>cases af<;>rfl
 ·simp only[show¬((2:Int)=1)by omega,show¬((2:Int)=3)by omega,show¬((2:Int)=4)by omega,show¬((2:Int)=5)by omega,show¬((2:Int)=6)by omega,show¬((2:Int)=7)by omega,show¬((2:Int)=8)by omega,show¬((2:Int)=9)by omega,show¬((2:Int)=10)by omega,show¬((2:Int)=11)by omega,show¬((2:Int)=12)by omega,show¬((2:Int)=13)by omega,show¬((2:Int)=14)by omega,show¬((2:Int)=15)by omega,be,bl,aj,aI,aX,aV,bX,dk,aC,aK,ax,bf,bt,aq,g,g0,g1,g2,g3,g4]
  generalize decide (n3=2)=b0;generalize decide (n4=0)=b1;generalize decide (n5=0)=b2;generalize decide (n6=0)=b3;generalize decide (w=1)=b4;generalize decide (w=2)=b5;generalize decide (w=4)=b6;constructor<;>cases b0<;>cases b1<;>cases b2<;>cases b3<;>cases b4<;>cases b5<;>cases b6<;>cases e<;>cases af<;>rfl
 ·simp only[show¬((3:Int)=1)by omega,show¬((3:Int)=2)by omega,show¬((3:Int)=4)by omega,show¬((3:Int)=5)by omega,show¬((3:Int)=6)by omega,show¬((3:Int)=7)by omega,show¬((3:Int)=8)by omega,show¬((3:Int)=9)by omega,show¬((3:Int)=10)by omega,show¬((3:Int)=11)by omega,show¬((3:Int)=12)by omega,show¬((3:Int)=13)by omega,show¬((3:Int)=14)by omega,show¬((3:Int)=15)by omega,be,bl,aj,aI,aX,aV,bX,dk,aC,aK,ax,bf,bt,aq,g,g0,g1,g2,g3,g4]
  generalize decide (n3=0)=b0;generalize decide (n4=0)=b1;generalize decide (n5=0)=b2;generalize decide (n6=0)=b3;generalize decide (w=0)=b4;constructor<;>cases b0<;>cases b1<;>cases b2<;>cases b3<;>cases b4<;>cases nm<;>cases af<;>rfl
 ·simp only[show¬((4:Int)=1)by omega,show¬((4:Int)=2)by omega,show¬((4:Int)=3)by omega,show¬((4:Int)=5)by omega,show¬((4:Int)=6)by omega,show¬((4:Int)=7)by omega,show¬((4:Int)=8)by omega,show¬((4:Int)=9)by omega,show¬((4:Int)=10)by omega,show¬((4:Int)=11)by omega,show¬((4:Int)=12)by omega,show¬((4:Int)=13)by omega,show¬((4:Int)=14)by omega,show¬((4:Int)=15)by omega,be,bl,aj,aI,aX,aV,bX,dk,aC,aK,ax,bf,bt,aq,g,g0,g1,g2,g3,g4]
  generalize decide (n3=1)=b0;generalize decide (n4=0)=b1;generalize decide (n5=0)=b2;generalize decide (n6=0)=b3;generalize decide (w=0)=b4;constructor<;>cases b0<;>cases b1<;>cases b2<;>cases b3<;>cases b4<;>cases e<;>cases af<;>rfl
 ·simp only[show¬((5:Int)=1)by omega,show¬((5:Int)=2)by omega,show¬((5:Int)=3)by omega,show¬((5:Int)=4)by omega,show¬((5:Int)=6)by omega,show¬((5:Int)=7)by omega,show¬((5:Int)=8)by omega,show¬((5:Int)=9)by omega,show¬((5:Int)=10)by omega,show¬((5:Int)=11)by omega,show¬((5:Int)=12)by omega,show¬((5:Int)=13)by omega,show¬((5:Int)=14)by omega,show¬((5:Int)=15)by omega,be,bl,aj,aI,aX,aV,bX,dk,aC,aK,ax,bf,bt,aq,g,g0,g1,g2,g3,g4]
  generalize decide (n3=0)=b0;generalize decide (n4=0)=b1;generalize decide (n5=0)=b2;generalize decide (n6=0)=b3;generalize decide (w=0)=b4;constructor<;>cases b0<;>cases b1<;>cases b2<;>cases b3<;>cases b4<;>cases nm<;>cases af<;>rfl
 ·simp only[show¬((6:Int)=1)by omega,show¬((6:Int)=2)by omega,show¬((6:Int)=3)by omega,show¬((6:Int)=4)by omega,show¬((6:Int)=5)by omega,show¬((6:Int)=7)by omega,show¬((6:Int)=8)by omega,show¬((6:Int)=9)by omega,show¬((6:Int)=10)by omega,show¬((6:Int)=11)by omega,show¬((6:Int)=12)by omega,show¬((6:Int)=13)by omega,show¬((6:Int)=14)by omega,show¬((6:Int)=15)by omega,be,bl,aj,aI,aX,aV,bX,dk,aC,aK,ax,bf,bt,aq,g,g0,g1,g2,g3,g4]
  generalize decide (n3=1)=b0;generalize decide (n4=0)=b1;generalize decide (n5=0)=b2;generalize decide (n6=0)=b3;generalize decide (w=0)=b4;constructor<;>cases b0<;>cases b1<;>cases b2<;>cases b3<;>cases b4<;>cases e<;>cases af<;>rfl
 ·simp only[show¬((7:Int)=1)by omega,show¬((7:Int)=2)by omega,show¬((7:Int)=3)by omega,show¬((7:Int)=4)by omega,show¬((7:Int)=5)by omega,show¬((7:Int)=6)by omega,show¬((7:Int)=8)by omega,show¬((7:Int)=9)by omega,show¬((7:Int)=10)by omega,show¬((7:Int)=11)by omega,show¬((7:Int)=12)by omega,show¬((7:Int)=13)by omega,show¬((7:Int)=14)by omega,show¬((7:Int)=15)by omega,be,bl,aj,aI,aX,aV,bX,dk,aC,aK,ax,bf,bt,aq,g,g0,g1,g2,g3,g4]
  generalize decide (n3=1)=b0;generalize decide (n4=0)=b1;generalize decide (n5=0)=b2;generalize decide (n6=0)=b3;generalize decide (w=0)=b4;constructor<;>cases b0<;>cases b1<;>cases b2<;>cases b3<;>cases b4<;>cases e<;>cases af<;>rfl
 ·simp only[show¬((8:Int)=1)by omega,show¬((8:Int)=2)by omega,show¬((8:Int)=3)by omega,show¬((8:Int)=4)by omega,show¬((8:Int)=5)by omega,show¬((8:Int)=6)by omega,show¬((8:Int)=7)by omega,show¬((8:Int)=9)by omega,show¬((8:Int)=10)by omega,show¬((8:Int)=11)by omega,show¬((8:Int)=12)by omega,show¬((8:Int)=13)by omega,show¬((8:Int)=14)by omega,show¬((8:Int)=15)by omega,be,bl,aj,aI,aX,aV,bX,dk,aC,aK,ax,bf,bt,aq,g,g0,g1,g2,g3,g4]
  generalize decide (n3=0)=b0;generalize decide (n4=0)=b1;generalize decide (n5=0)=b2;generalize decide (n6=0)=b3;generalize decide (w=0)=b4;constructor<;>cases b0<;>cases b1<;>cases b2<;>cases b3<;>cases b4<;>cases e<;>cases af<;>rfl
 ·simp only[show¬((9:Int)=1)by omega,show¬((9:Int)=2)by omega,show¬((9:Int)=3)by omega,show¬((9:Int)=4)by omega,show¬((9:Int)=5)by omega,show¬((9:Int)=6)by omega,show¬((9:Int)=7)by omega,show¬((9:Int)=8)by omega,show¬((9:Int)=10)by omega,show¬((9:Int)=11)by omega,show¬((9:Int)=12)by omega,show¬((9:Int)=13)by omega,show¬((9:Int)=14)by omega,show¬((9:Int)=15)by omega,be,bl,aj,aI,aX,aV,bX,dk,aC,aK,ax,bf,bt,aq,g,g0,g1,g2,g3,g4]
  generalize decide (n3=1)=b0;generalize decide (n4=0)=b1;generalize decide (n5=0)=b2;generalize decide (n6<1)=b3;generalize decide (64<n6)=b4;generalize decide (w=0)=b5;constructor<;>cases b0<;>cases b1<;>cases b2<;>cases b3<;>cases b4<;>cases b5<;>cases e<;>cases af<;>rfl
 ·simp only[show¬((10:Int)=1)by omega,show¬((10:Int)=2)by omega,show¬((10:Int)=3)by omega,show¬((10:Int)=4)by omega,show¬((10:Int)=5)by omega,show¬((10:Int)=6)by omega,show¬((10:Int)=7)by omega,show¬((10:Int)=8)by omega,show¬((10:Int)=9)by omega,show¬((10:Int)=11)by omega,show¬((10:Int)=12)by omega,show¬((10:Int)=13)by omega,show¬((10:Int)=14)by omega,show¬((10:Int)=15)by omega,be,bl,aj,aI,aX,aV,bX,dk,aC,aK,ax,bf,bt,aq,g,g0,g1,g2,g3,g4]
  generalize decide (n3=0)=b0;generalize decide (n4=0)=b1;generalize decide (n5=0)=b2;generalize decide (n6=0)=b3;generalize decide (w=0)=b4;constructor<;>cases b0<;>cases b1<;>cases b2<;>cases b3<;>cases b4<;>cases e<;>cases af<;>rfl
 ·simp only[show¬((11:Int)=1)by omega,show¬((11:Int)=2)by omega,show¬((11:Int)=3)by omega,show¬((11:Int)=4)by omega,show¬((11:Int)=5)by omega,show¬((11:Int)=6)by omega,show¬((11:Int)=7)by omega,show¬((11:Int)=8)by omega,show¬((11:Int)=9)by omega,show¬((11:Int)=10)by omega,show¬((11:Int)=12)by omega,show¬((11:Int)=13)by omega,show¬((11:Int)=14)by omega,show¬((11:Int)=15)by omega,be,bl,aj,aI,aX,aV,bX,dk,aC,aK,ax,bf,bt,aq,g,g0,g1,g2,g3,g4]
  generalize decide (n3=0)=b0;generalize decide (n4=0)=b1;generalize decide (n5=0)=b2;generalize decide (n6=0)=b3;generalize decide (w=0)=b4;constructor<;>cases b0<;>cases b1<;>cases b2<;>cases b3<;>cases b4<;>cases e<;>cases af<;>rfl
 ·simp only[show¬((12:Int)=1)by omega,show¬((12:Int)=2)by omega,show¬((12:Int)=3)by omega,show¬((12:Int)=4)by omega,show¬((12:Int)=5)by omega,show¬((12:Int)=6)by omega,show¬((12:Int)=7)by omega,show¬((12:Int)=8)by omega,show¬((12:Int)=9)by omega,show¬((12:Int)=10)by omega,show¬((12:Int)=11)by omega,show¬((12:Int)=13)by omega,show¬((12:Int)=14)by omega,show¬((12:Int)=15)by omega,be,bl,aj,aI,aX,aV,bX,dk,aC,aK,ax,bf,bt,aq,g,g0,g1,g2,g3,g4]
  generalize decide (n3=0)=b0;generalize decide (n4=0)=b1;generalize decide (n5=0)=b2;generalize decide (n6=0)=b3;generalize decide (w=0)=b4;constructor<;>cases b0<;>cases b1<;>cases b2<;>cases b3<;>cases b4<;>cases nm<;>cases af<;>rfl
 ·simp only[show¬((13:Int)=1)by omega,show¬((13:Int)=2)by omega,show¬((13:Int)=3)by omega,show¬((13:Int)=4)by omega,show¬((13:Int)=5)by omega,show¬((13:Int)=6)by omega,show¬((13:Int)=7)by omega,show¬((13:Int)=8)by omega,show¬((13:Int)=9)by omega,show¬((13:Int)=10)by omega,show¬((13:Int)=11)by omega,show¬((13:Int)=12)by omega,show¬((13:Int)=14)by omega,show¬((13:Int)=15)by omega,be,bl,aj,aI,aX,aV,bX,dk,aC,aK,ax,bf,bt,aq,g,g0,g1,g2,g3,g4]
  generalize decide (n3=0)=b0;generalize decide (n4=0)=b1;generalize decide (n5=0)=b2;generalize decide (n6=0)=b3;generalize decide (w=0)=b4;constructor<;>cases b0<;>cases b1<;>cases b2<;>cases b3<;>cases b4<;>cases nm<;>cases af<;>rfl
 ·simp only[show¬((14:Int)=1)by omega,show¬((14:Int)=2)by omega,show¬((14:Int)=3)by omega,show¬((14:Int)=4)by omega,show¬((14:Int)=5)by omega,show¬((14:Int)=6)by omega,show¬((14:Int)=7)by omega,show¬((14:Int)=8)by omega,show¬((14:Int)=9)by omega,show¬((14:Int)=10)by omega,show¬((14:Int)=11)by omega,show¬((14:Int)=12)by omega,show¬((14:Int)=13)by omega,show¬((14:Int)=15)by omega,be,bl,aj,aI,aX,aV,bX,dk,aC,aK,ax,bf,bt,aq,g,g0,g1,g2,g3,g4]
  generalize decide (n3=0)=b0;generalize decide (n4=0)=b1;generalize decide (n5=0)=b2;generalize decide (n6=0)=b3;generalize decide (w=0)=b4;constructor<;>cases b0<;>cases b1<;>cases b2<;>cases b3<;>cases b4<;>cases e<;>cases af<;>rfl
 ·simp only[show¬((15:Int)=1)by omega,show¬((15:Int)=2)by omega,show¬((15:Int)=3)by omega,show¬((15:Int)=4)by omega,show¬((15:Int)=5)by omega,show¬((15:Int)=6)by omega,show¬((15:Int)=7)by omega,show¬((15:Int)=8)by omega,show¬((15:Int)=9)by omega,show¬((15:Int)=10)by omega,show¬((15:Int)=11)by omega,show¬((15:Int)=12)by omega,show¬((15:Int)=13)by omega,show¬((15:Int)=14)by omega,be,bl,aj,aI,aX,aV,bX,dk,aC,aK,ax,bf,bt,aq,g,g0,g1,g2,g3,g4]
  generalize decide (n3=0)=b0;generalize decide (n4=0)=b1;generalize decide (n5=0)=b2;generalize decide (n6=0)=b3;generalize decide (w=0)=b4;constructor<;>cases b0<;>cases b1<;>cases b2<;>cases b3<;>cases b4<;>cases e<;>cases af<;>rfl
 ·simp only[h1,h2,h3,h4,h5,h6,h7,h8,h9,h10,h11,h12,h13,h14,h15,be,bl,aj,aI,aX,aV,bX,dk,aC,aK,ax,bf,bt,aq,g,g0,g1,g2,g3,g4,Bool.false_and];constructor<;>first|rfl|(simp;done)
end Go.Proofs.YtiojjmlccehpoaaGreat
namespace Go.Proofs.YtiojjmlccehpoaaGreat
noncomputable section
open Go Go.AM
theorem Sq:∀(N M:Nat) (d:D) (n:Int),d.size<N->d.size<M->iA N d n=iA M d n:=by
 intro N
 induction N with
 |zero=>intro M d n h;omega
 |succ N ih=>
  intro M d n h1 h2;cases M with
  |zero=>omega
  |succ M=>
   simp only[iA]
   congr 1
   rw[fy];simp only[qn];constructor
   ·rintro⟨x,hx,h⟩;have:=eL hx;exact⟨x,hx,by rw[<- ih M x _ (by omega) (by omega)];exact h⟩
   ·rintro⟨x,hx,h⟩;have:=eL hx;exact⟨x,hx,by rw[ih M x _ (by omega) (by omega)];exact h⟩
theorem kn_irr (v:D):∀(N M:Nat) (d:D),d.size<N->d.size<M->kn N d v=kn M d v:=by
 intro N
 induction N with
 |zero=>intro M d h;omega
 |succ N ih=>
  intro M d h1 h2;cases M with
  |zero=>omega
  |succ M=>
   simp only[kn]
   congr 1
   rw[fy];simp only[bV];constructor
   ·intro h x hx;have:=mD hx;rw[<- ih M x (by omega) (by omega)];exact h x hx
   ·intro h x hx;have:=mD hx;rw[ih M x (by omega) (by omega)];exact h x hx
def dx (x:D):Bool:=iA (x.size+1) x 64
def kx (v x:D):Bool:=kn (x.size+1) x v
theorem PD {x:D} (h:Conf PG 25 x):Rd [x, .int 64]=some [.bool (dx x)]∧q85 [x, .int 64]=some [.bool (!dx x)]:=by
 obtain⟨a,b⟩:=Sd (aY [x, .int 64]) x 64 h (cC (by simp)) (by omega) (by omega)
 have:iA (aY [x, .int 64]) x 64=dx x:=Sq _ _ x 64 (cC (by simp)) (by omega)
 rw[this]at a b;exact⟨by rw[OA];exact a,by rw[UY];exact b⟩
theorem PE {x v:D} (hv:v.toList.length≤maxLen) (h:Conf PG 25 x) (hf:fm x=true):q87 [x,v]=some [.bool (kx v x)]∧Lv [x,v]=some [.bool (kx v x)]:=by
 have hf':fmd (aY [x,v]) x=true:=by rw[<- hf];exact Fg _ _ x (cC (by simp)) (by omega)
 obtain⟨a,b⟩:=M0 hv (aY [x,v]) x h (cC (by simp)) hf'
 have:kn (aY [x,v]) x v=kx v x:=kn_irr v _ _ x (cC (by simp)) (by omega)
 rw[this]at a b;exact⟨by rw[Vu];exact a,by rw[OC];exact b⟩
def dW (v:D) (s:ByteArray):Bool:=v.toList.any fun x=>(aB x).data.toList==s.data.toList
theorem u7 {v:D} (hv:v.toList.length≤maxLen) (s:ByteArray):∃j:Int,A3 [v, .str s]=some [.int j]∧Xu [v, .str s]=some [.int j]∧decide (0≤j)=dW v s∧j<v.toList.length∧ -1≤j:=by
 have key:∀k i:Nat,i+k=v.toList.length->(loW (pQ [v, .str s, .int (ae v)]) [.int i]=some [.int 0]∧loW (p7 [v, .str s]) [.int i]=some [.int 0]∧(v.toList.drop i).any (fun x=>(aB x).data.toList==s.data.toList)=false)∨
  ∃j:Nat,j<v.toList.length∧loW (pQ [v, .str s, .int (ae v)]) [.int i]=some [.int 1, .int j]∧loW (p7 [v, .str s]) [.int i]=some [.int 1, .int j]∧(v.toList.drop i).any (fun x=>(aB x).data.toList==s.data.toList)=true:=by
  unfold maxLen at hv;intro k
  induction k with
  |zero=>
   intro i hi;refine .inl ⟨?_,?_,?_⟩
   ·rw[bD,yU,aL,az];simp only[show¬((i:Int)<v.toList.length)by omega,bl,aI]
   ·rw[bD,zG,aL,az];simp only[show¬((i:Int)<v.toList.length)by omega,bl,aI]
   ·rw[lE (by omega)];rfl
  |succ k ih=>
   intro i hi;have hlt:i<v.toList.length:=by omega
   rw[bD,yU,bD,zG,aL,az,aZ hlt,bg,getD_lt hlt,lC hlt,List.any_cons,ez,ez];simp only[show((i:Int)<v.toList.length)by omega,be,aj]
   have hc:(s.data.toList==(aB v.toList[i]).data.toList)=((aB v.toList[i]).data.toList==s.data.toList):=by
    rw[fy];simp only[gk];exact⟨Eq.symm,Eq.symm⟩
   rw[hc];cases ((aB v.toList[i]).data.toList==s.data.toList)with
   |true=>exact .inr ⟨i,hlt,rfl,rfl,by simp⟩
   |false=>
    simp only[aI,lm];rw[bk (by omega), <- aL]
    exact ih (i+1) (by omega)
 have h:=key v.toList.length 0 (by omega)
 simp only[b8,lL]at h;rw[O3,F116_eq,Pk,F122_eq,Ci,Cu];unfold dW;rcases h with⟨h1,h2,h3⟩|⟨j,hj,h1,h2,h3⟩
 ·refine⟨-1,?_,?_,by rw[h3];rfl,by omega,by omega⟩
  ·simp[h1,aq,ax,aC,aD]
  ·simp[h2,aq,ax,aC,aD]
 ·refine⟨j,?_,?_,by rw[h3];simp,by omega,by omega⟩
  ·simp[h1,aq,ax,aC,aD]
  ·simp[h2,aq,ax,aC,aD]
theorem eX {v:D} (hv:v.toList.length≤maxLen) (s:ByteArray):Ix [v, .str s]=some [.bool (dW v s)]:=by
 obtain⟨j,h1,_,h3,_⟩:=u7 hv s;rw[O4,F113_eq,h1];simp only[aq,ax,bf,aC,aj,bB,h3]
theorem zW {l:D} {p:D->Bool} {n:Nat} (hn:n≤l.toList.length):(List.range n).any (fun i=>p (l.toList.getD i .other))=(l.toList.take n).any p:=by
 have h:=CC (l:=l.toList.take n) (p:=p);rw[<- h];rw[fj,Nat.min_eq_left hn];rw[fy];simp only[qn,iI];constructor
 ·rintro⟨i,hi,h⟩;exact⟨i,hi,by rw[getD_lt (by simp;omega)];rw[getD_lt (by omega)]at h;simpa using h⟩
 ·rintro⟨i,hi,h⟩;exact⟨i,hi,by rw[getD_lt (by omega)];rw[getD_lt (by simp;omega)]at h;simpa using h⟩
theorem CG {l:D} {n:Nat} (hl:l.toList.length≤maxLen) (hn:n≤l.toList.length) (s:ByteArray):Wg [l, .int (n:Int), .str s]=some [.bool ((l.toList.take n).any fun x=>(aB (aa x 0)).data.toList==s.data.toList)]:=by
 rw[OT,F179_eq,Cb]
 have hloop:=zO (st:=uI [l, .int (n:Int), .str s]) (n:=n) (p:=fun i=>(fun x=>(aB (aa x 0)).data.toList==s.data.toList) (l.toList.getD i .other)) (r0:=[D.int 0]) (r1:=[.int 1]) (by omega)
  (by rw[yA];simp[az]) (fun i hi=>by
   rw[yA,aZ (show i<l.toList.length by omega),bg,ez,az]
   simp only[show((i:Int)<(n:Int))by omega,be,aj]
   by_cases hc:((aB (aa (l.toList.getD i .other) 0)).data.toList==s.data.toList)=true
   ·simp only[hc,aj,aX]
   ·rw[nH]at hc;simp only[hc,aI,hR,aV])
 rw[zW hn (p:=fun x=>(aB (aa x 0)).data.toList==s.data.toList)]at hloop
 simp only[hloop];cases (l.toList.take n).any fun x=>(aB (aa x 0)).data.toList==s.data.toList<;>simp[aq,ax,aC,aD]
def ee (s:ByteArray) (x:D):Bool:=decide (ah (aa (aa x 0) 0)=13)&&((aB (aa (aa x 0) 2)).data.toList==s.data.toList)
theorem zX {l:D} {n:Nat} (hl:l.toList.length≤maxLen) (hn:n≤l.toList.length) (s:ByteArray):Ww [l, .int (n:Int), .str s]=some [.bool ((l.toList.take n).any (ee s))]:=by
 rw[OY,F249_eq,Cg]
 have hloop:=zO (st:=uN [l, .int (n:Int), .str s]) (n:=n) (p:=fun i=>ee s (l.toList.getD i .other)) (r0:=[D.int 0]) (r1:=[.int 1]) (by omega)
  (by rw[yL];simp[az]) (fun i hi=>by
   rw[yL,aZ (show i<l.toList.length by omega),bg,ez,az]
   unfold ee;simp only[show((i:Int)<(n:Int))by omega,be,aj,bN,aD,nK]
   cases ((aB (aa (aa (l.toList.getD i .other) 0) 2)).data.toList==s.data.toList)<;>by_cases h:ah (aa (aa (l.toList.getD i .other) 0) 0)=13<;>simp[h])
 rw[zW hn (p:=ee s)]at hloop;simp only[hloop];cases (l.toList.take n).any (ee s)<;>simp[aq,ax,aC,aD]
def Yg (v:D) (fs ls:ByteArray->Bool) (s:D):Bool:=
 (aa s 3).toList.all (kx v)&&(if ah (aa s 0)=1∨ah (aa s 0)=3 then jE v (aB (aa s 2))else if ah (aa s 0)=5 then fs (aB (aa s 2))else if ah (aa s 0)=12 then ls (aB (aa s 2))else true)
def mJ (v:D) (fs ls seen:ByteArray->Bool) (s:D) (b:Bool):Int:=
 if(aa s 3).toList.any dx then 20 else if stB s=false then 2 else if Yg v fs ls s=false then 17
 else if(ah (aa s 0)=10∨ah (aa s 0)=11)∧b=false then 21 else if ah (aa s 0)=13∧seen (aB (aa s 2))=true then 8 else 0
theorem Ju {l:D} {p:D->Bool} (hl:l.toList.length≤maxLen) (hc:∀x∈l.toList,q85 [x, .int 64]=some [.bool (!p x)]):pW [l]=some [.bool (l.toList.any p)]:=by
 rw[tw,IV,tv,IT,nD];rcases cz (st:=jh [l, .int (ae l)]) (c:=fun x=>mz [x]) (p:=p) (r1:=fun i=>[.int 1, .int i]) (r0:=[.int 0]) (fun i=>zr l (ae l) i) hl (fun x hx=>by rw[tu,IR,hc x hx];simp[aq,ax,aK,bI])with⟨h1,h2⟩|⟨i,h1,h2⟩
 ·simp[h1,h2,aq,ax,aC,aD,bB]
 ·simp[h1,h2,aq,ax,aC,aD,bB]
theorem M7 {s:D} (h:stB s=true):∀x∈(aa s 3).toList,fm x=true:=by
 unfold stB at h;simp only[bn,bV]at h;exact h.2
theorem Yh {s v fn lb sn:D} (h:Conf PG 187 s) (hv:v.toList.length≤maxLen) (hfn:fn.toList.length≤maxLen) (hlb:lb.toList.length≤maxLen) (hs:stB s=true):q244 [v,fn,lb,sn,s]=some [.bool (Yg v (dW fn) (dW lb) s)]:=by
 obtain⟨l3,e3⟩:=iC h;rw[Pe,F244_eq,Cq]
 have hloop:=cz (st:=uX [v,fn,lb,sn,aa s 3, .int (ae (aa s 3)),s]) (l:=aa s 3) (c:=fun x=>(q87 [x,v]).map fun r=>[.bool (bU (aQ (r.getD 0 .other)))]) (p:=fun x=> !kx v x) (r1:=fun _=>[.int 1]) (r0:=[.int 0])
  (fun i=>by
   rw[MF];cases hq:q87 [ay (aa s 3) i,v]with
   |none=>simp[gZ]
   |some r=>simp[aq,ax,aK]) l3 (fun x hx=>by rw[(PE hv (e3 x hx) (M7 hs x hx)).1];simp[aK,bI])
 have hall:(aa s 3).toList.all (kx v) = !((aa s 3).toList.any fun x=> !kx v x):=by rw[vm];simp
 unfold Yg;rw[hall,(kf hv _).1,eX hfn,eX hlb];rcases hloop with⟨b1,b2⟩|⟨_,b1,b2⟩
 ·rw[b2];simp only[b1,aq,ax,bf,aC,aK,aj,aD,be,dk,lM,bN];by_cases k1:ah (aa s 0)=1
  ·simp[k1]
  by_cases k3:ah (aa s 0)=3
  ·simp[k3]
  by_cases k5:ah (aa s 0)=5
  ·simp[k5]
  by_cases k12:ah (aa s 0)=12
  ·simp[k12]
  simp[k1,k3,k5,k12]
 ·rw[b2];simp[b1,aq,ax,aC,aD]
theorem Yi {s v fn lb:D} {sn:List D} {b:Bool} (h:Conf PG 187 s) (hv:v.toList.length≤maxLen) (hfn:fn.toList.length≤maxLen) (hlb:lb.toList.length≤maxLen) (hsn:sn.length≤1000000):
 q224 [lb,v,fn, .agg [s, .bool b], .list sn]=some [.int (mJ v (dW fn) (dW lb) (dW (.list sn)) s b), .list (sn++if ah (aa s 0)=13∧mJ v (dW fn) (dW lb) (dW (.list sn)) s b=0 then[.str (aB (aa s 2))]else[])]:=by
 obtain⟨l3,e3⟩:=iC h;have hd:=Ju (p:=dx) l3 (fun x hx=>(PD (e3 x hx)).2)
 have hst:=(CF h).1;have hre:D.agg [D.int (ah (aa s 0)),D.int (ah (aa s 1)),D.str (aB (aa s 2)),aa s 3,aa s 4,aa s 5,aa s 6]=s:=p9 h;have q0:aa (D.agg [s, .bool b]) 0=s:=by rw[dV];rfl
 have q1:aa (D.agg [s, .bool b]) 1 = .bool b:=by rw[dV];rfl
 rw[Pf,F224_eq];simp only[q0,q1,hre,hd,hst,aq,ax,bf,aK,bI,aj,bN,aD,be];unfold mJ;cases (aa s 3).toList.any dx with
 |true=>simp
 |false=>
  simp only[aI,hR,aV];cases hb:stB s with
  |false=>simp
  |true=>
   have hsy:=Yh (sn:= .list sn) h hv hfn hlb hb;simp only[hsy,aq,ax,bf,aK,bX,aI,aj,reduceCtorEq,aV];cases Yg v (dW fn) (dW lb) s with
   |false=>simp
   |true=>
    simp only[bX,aI,reduceCtorEq,aV];by_cases k10:ah (aa s 0)=10
    ·cases b<;>simp[k10]
    by_cases k11:ah (aa s 0)=11
    ·cases b<;>simp[k11]
    simp only[k10,k11,bl,aI,or_self,false_and,aV];by_cases k13:ah (aa s 0)=13
    ·have hc:=eX (v:= .list sn) (by show sn.length≤_;unfold maxLen;omega) (aB (aa s 2))
     simp only[k13,hc,aq,ax,bf,aK,be,aj,true_and,dA,bL];rw[bq (by rw[bM,cn,cZ];omega) (by omega)]
     cases dW (.list sn) (aB (aa s 2))<;>simp
    ·simp[k13]
theorem stmt229 {u v l:D} {k:Nat} {s:D} {b:Bool} (hv:v.toList.length≤maxLen) (hl:l.toList.length≤maxLen) (hf:(aa u 2).toList.length≤maxLen) (hk:k<l.toList.length) (hs:l.toList.getD k .other = .agg [s, .bool b]) (h:Conf PG 187 s):
 q229 [u,v,l, .int (k:Int)]=some [.int (mJ v (fun n=>(aa u 2).toList.any fun x=>(aB (aa x 0)).data.toList==n.data.toList) (fun n=>l.toList.any (ee n)) (fun n=>(l.toList.take k).any (ee n)) s b)]:=by
 obtain⟨l3,e3⟩:=iC h;have hst:=(CF h).2;have hre:D.agg [D.int (ah (aa s 0)),D.int (ah (aa s 1)),D.str (aB (aa s 2)),aa s 3,aa s 4,aa s 5,aa s 6]=s:=p9 h;have q0:aa (D.agg [s, .bool b]) 0=s:=by rw[dV];rfl
 have q1:aa (D.agg [s, .bool b]) 1 = .bool b:=by rw[dV];rfl
 have hg:ay l (k:Int) = .agg [s, .bool b]:=by rw[bg,hs]
 rw[OZ,F229_eq,aZ hk,hg,Ch,yO];simp only[q0,q1,hre,hst]
 have hloop:=cz (st:=uO [v,l, .int (k:Int), .int (ah (aa s 0)), .int (ah (aa s 1)), .str (aB (aa s 2)),aa s 3,aa s 4,aa s 5,aa s 6,u]) (l:=aa s 3) (c:=fun x=>Rd [x, .int 64]) (p:=dx) (r1:=fun _=>[.int 1]) (r0:=[.int 0])
  (fun i=>by rw[Mf]) l3 (fun x hx=>(PD (e3 x hx)).1)
 have hloop2:=fun hs:stB s=true=>cz (st:=pM [v,l, .int (k:Int), .int (ah (aa s 0)), .int (ah (aa s 1)), .str (aB (aa s 2)),aa s 3,aa s 4,aa s 5,aa s 6,u]) (l:=aa s 3) (c:=fun x=>(Lv [x,v]).map fun r=>[.bool (bU (aQ (r.getD 0 .other)))]) (p:=fun x=> !kx v x) (r1:=fun _=>[.int 1]) (r0:=[.int 0])
  (fun i=>by
   rw[It];cases hq:Lv [ay (aa s 3) i,v]with
   |none=>simp[gZ]
   |some r=>simp[aq,ax,aK]) l3 (fun x hx=>by rw[(PE hv (e3 x hx) (M7 hs x hx)).2];simp[aK,bI])
 have hall:(aa s 3).toList.all (kx v) = !((aa s 3).toList.any fun x=> !kx v x):=by rw[vm];simp
 have e1:=(kf hv (aB (aa s 2))).2;have e2:=CG (n:=(aa u 2).toList.length) hf (bj _) (aB (aa s 2));have e3':=zX (n:=l.toList.length) hl (bj _) (aB (aa s 2));have e4:=zX (n:=k) hl (by omega) (aB (aa s 2))
 rw[eP (bj _)]at e2 e3';simp only[aL,e1,e2,e3',e4];unfold mJ Yg;rw[hall];rcases hloop with⟨b1,b2⟩|⟨_,b1,b2⟩
 ·simp only[b1,b2,aq,ax,bf,aC,aK,bI,aj,bN,aD,be,hR,aV,nK];cases hb:stB s with
  |false=>simp
  |true=>
   rcases hloop2 hb with⟨c1,c2⟩|⟨_,c1,c2⟩
   ·simp only[c1,c2,aq,ax,bf,aC,be,dk,bX,lM,aI,aj,reduceCtorEq,aV];generalize jE v (aB (aa s 2))=a1;generalize ((aa u 2).toList.any fun x=>(aB (aa x 0)).data.toList==(aB (aa s 2)).data.toList)=a2
    generalize (l.toList.any (ee (aB (aa s 2))))=a3;by_cases k1:ah (aa s 0)=1
    ·cases a1<;>simp[k1]
    by_cases k3:ah (aa s 0)=3
    ·cases a1<;>simp[k3]
    by_cases k5:ah (aa s 0)=5
    ·cases a2<;>simp[k5]
    by_cases k12:ah (aa s 0)=12
    ·cases a3<;>simp[k12]
    by_cases k10:ah (aa s 0)=10
    ·cases b<;>simp[k10]
    by_cases k11:ah (aa s 0)=11
    ·cases b<;>simp[k11]
    by_cases k13:ah (aa s 0)=13
    ·by_cases h4:(l.toList.take k).any (ee (aB (aa s 2)))=true
     ·simp only[k13,h4,be,aj,and_self,aX];simp
     ·rw[nH]at h4;simp only[k13,h4,be,aj,and_false,aV,hR];simp
    simp[k1,k3,k5,k12,k10,k11,k13]
   ·simp[c1,c2,aq,ax,aC]
 ·simp[b1,b2,aq,ax,aC,aD]
def d7 (x:D):D:=aa x 0
def Sr (x:D):Bool:=aQ (aa x 1)
theorem rX (s:D) (b:Bool):d7 (.agg [s, .bool b])=s:=by unfold d7;rw[dV];rfl
theorem M8 (s:D) (b:Bool):Sr (.agg [s, .bool b])=b:=by unfold Sr;rw[dV];exact aK b
inductive Ag:List D->List D->Prop
 |nil:Ag [] []
 |same (x:D) {xs ys:List D}:Ag xs ys->Ag (x::xs) (x::ys)
 |bad (x:D) {xs ys:List D}:stB (d7 x)=false->xs.map d7=ys.map d7->Ag (x::xs) (x::ys)
theorem Ag.nodes {xs ys:List D} (h:Ag xs ys):xs.map d7=ys.map d7:=by
 induction h with
 |nil=>rfl
 |same x _ ih=>simp[ih]
 |bad x _ h=>simp[h]
theorem Ag.app {xs ys xs' ys':List D} (h:Ag xs ys) (h':Ag xs' ys'):Ag (xs++xs') (ys++ys'):=by
 induction h with
 |nil=>exact h'
 |same x _ ih=>exact .same x ih
 | @bad x l1 l2 hb h=>exact .bad x hb (by show(l1++xs').map d7=(l2++ys').map d7;rw[ll,ll,h,h'.nodes])
theorem Ag.flat {f g:D->List D}:∀(l:List D),(∀x∈l,Ag (f x) (g x))->Ag (l.flatMap f) (l.flatMap g)
 | [],_=> .nil
 |x::l,h=>by
  simp only[lk];exact(h x (by simp)).app (Ag.flat l fun y hy=>h y (by simp[hy]))
theorem Ag.get {xs ys:List D} (h:Ag xs ys):∀j,(∀m,m<j->stB (d7 (xs.getD m .other))=true)->xs.getD j .other=ys.getD j .other:=by
 induction h with
 |nil=>intro j _;rfl
 |same x _ ih=>
  intro j hj;cases j with
  |zero=>rfl
  |succ j=>simpa using ih j fun m hm=>by simpa using hj (m+1) (by omega)
 |bad x hb _=>
  intro j hj;cases j with
  |zero=>rfl
  |succ j=>have:=hj 0 (by omega);simp[hb]at this
theorem ov {f g:D->List D}:∀(l:List D),(∀x∈l,(f x).map d7=(g x).map d7)->(l.flatMap f).map d7=(l.flatMap g).map d7
 | [],_=>rfl
 |x::l,h=>by simp only[lk,ll,h x (by simp),ov l fun y hy=>h y (by simp[hy])]
theorem qa:∀(N:Nat) (l:D) (b b':Bool),(flP N l b).map d7=(flR N l b').map d7
 |0,_,_,_=>rfl
 |N+1,l,b,b'=>by
  simp only[flP,flR];refine ov _ fun s _=> ?_
  have h4:=qa N (aa s 4) (b||bT s) (b'||bT s)
  have h5:=qa N (aa s 5) (b||bT s) b'
  have h6:((aa s 6).toList.flatMap fun x=>flP N x (b||bT s)).map d7=((aa s 6).toList.flatMap fun x=>flR N x b').map d7:=ov _ fun x _=>qa N x _ _
  simp only[aW,lk,bW,ll,h4,h5,h6,rX,dH]
theorem Yj {s:D} (h:stB s=true) (hl:bT s=true):(aa s 5).toList = []∧(aa s 6).toList = []:=by
 unfold stB iD at h;unfold bT at hl;simp only[lI,cl]at hl;rcases hl with hl|hl
 ·rw[hl]at h;simp at h;exact⟨gh.1 (by simp[h]),gh.1 (by simp[h])⟩
 ·rw[hl]at h;simp at h;exact⟨gh.1 (by simp[h]),gh.1 (by simp[h])⟩
theorem flP_nil {N:Nat} {l:D} {b:Bool} (h:l.toList = []):flP N l b = []:=by cases N<;>simp[flP,h]
theorem flR_nil {N:Nat} {l:D} {b:Bool} (h:l.toList = []):flR N l b = []:=by cases N<;>simp[flR,h]
theorem Jv:∀(N:Nat) (l:D) (b:Bool),Ag (flP N l b) (flR N l b)
 |0,_,_=> .nil
 |N+1,l,b=>by
  simp only[flP,flR];refine Ag.flat _ fun s _=> ?_
  cases hb:stB s with
  |false=>
   refine .bad _ (by rw[rX];exact hb) ?_
   have:=qa (N+1) (.list [s]) b b;simp only[flP,flR,tl,lk,List.flatMap_nil,fQ,bW,List.cons.injEq]at this;exact this.2
  |true=>
   refine .same _ ?_
   simp only[aW,lk,dH];cases hl:bT s with
   |false=>
    simp only[Bool.or_false];exact(Jv N _ b).app ((Jv N _ b).app (Ag.flat _ fun x _=>Jv N x b))
   |true=>
    obtain⟨h5,h6⟩:=Yj hb hl;rw[h6,flP_nil h5,flR_nil h5];simpa using Jv N (aa s 4) (b||true)
def Fk (x:D):Prop:=∃s b,x = .agg [s, .bool b]∧Conf PG 187 s
theorem Yk:∀(N:Nat) (l:D) (b:Bool),Conf PG 36 l->∀x∈flP N l b,Fk x
 |0,_,_,_,x,hx=>by cases hx
 |N+1,l,b,hc,x,hx=>by
  simp only[flP,lK,cy]at hx;obtain⟨s,hs,hx⟩:=hx;obtain⟨h1,h2⟩:=bZ hc hs;rcases hx with rfl|⟨y,hy,hx⟩
  ·exact⟨s,b,rfl,h1⟩
  ·exact Yk N y _ (ba h1 hy).1 x hx
theorem Fl:∀(N:Nat) (l:D) (b:Bool),Conf PG 36 l->∀x∈flR N l b,Fk x
 |0,_,_,_,x,hx=>by cases hx
 |N+1,l,b,hc,x,hx=>by
  simp only[flR,lK,cy,cV]at hx;obtain⟨s,hs,hx⟩:=hx;obtain⟨h1,h2⟩:=bZ hc hs;rcases hx with rfl|((hx|hx)|⟨y,hy,hx⟩)
  ·exact⟨s,b,rfl,h1⟩
  ·exact Fl N _ _ (ba h1 (by simp[aW])).1 x hx
  ·exact Fl N _ _ (ba h1 (by simp[aW])).1 x hx
  ·exact Fl N y _ (ba h1 (by simp[aW,hy])).1 x hx
def iF (L:List D):List D:=L.flatMap fun x=>if ah (aa (d7 x) 0)=13 then[.str (aB (aa (d7 x) 2))]else[]
theorem Jw (L:List D) (n:ByteArray):dW (.list (iF L)) n=L.any (ee n):=by
 unfold dW iF ee d7;rw[tl]
 induction L with
 |nil=>rfl
 |cons x L ih=>
  simp only[lk,List.any_append,List.any_cons,ih]
  congr 1
  by_cases h:ah (aa (aa x 0) 0)=13<;>simp[h,mC]
theorem CH {xs ys:List D} (h:xs.map d7=ys.map d7) (n:ByteArray):xs.any (ee n)=ys.any (ee n):=by
 have e:∀l:List D,l.any (ee n)=(l.map d7).any (fun s=>decide (ah (aa s 0)=13)&&((aB (aa s 2)).data.toList==n.data.toList)):=fun l=>by rw[List.any_map];rfl
 rw[e,e,h]
theorem zY (L:List D):(iF L).length≤L.length:=by
 unfold iF
 induction L with
 |nil=>simp
 |cons x L ih=>
  simp only[lk,bM,cn];have:(if ah (aa (d7 x) 0)=13 then[D.str (aB (aa (d7 x) 2))]else[]).length≤1:=by split<;>simp
  omega
def plE (v:D) (fs:ByteArray->Bool) (L:List D) (j:Nat):Int:=
 mJ v fs (fun n=>L.any (ee n)) (fun n=>(L.take j).any (ee n)) (d7 (L.getD j .other)) (Sr (L.getD j .other))
theorem Jx {v s:D} {fs ls sn:ByteArray->Bool} {b:Bool} (h:mJ v fs ls sn s b=0):stB s=true:=by
 unfold mJ at h;split at h
 ·cases h
 ·split at h
  ·cases h
  ·rename_i _ h2;simpa using h2
theorem plE_eq {v:D} {fs:ByteArray->Bool} {xs ys:List D} (h:Ag xs ys):cE (plE v fs xs) 0 xs.length=cE (plE v fs ys) 0 ys.length:=by
 have hn:=h.nodes;have hlen:xs.length=ys.length:=by have:=congrArg List.length hn;simpa using this
 rw[<- hlen];refine p8 _ _ fun j _ _ hp=> ?_
 have hg:=h.get j fun m hm=>Jx (hp m (by omega) hm)
 unfold plE;rw[hg];have e1:(fun n=>xs.any (ee n))=fun n=>ys.any (ee n):=funext fun n=>CH hn n
 have e2:(fun n=>(xs.take j).any (ee n))=fun n=>(ys.take j).any (ee n):=funext fun n=>CH (by rw[List.map_take,List.map_take,hn]) n
 rw[e1,e2]
theorem ow {f g:D->List D}:∀(l:List D),(∀x∈l,f x=g x)->l.flatMap f=l.flatMap g
 | [],_=>rfl
 |x::l,h=>by simp only[lk,h x (by simp),ow l fun y hy=>h y (by simp[hy])]
theorem flP_irr:∀(N M:Nat) (l:D) (b:Bool),Conf PG 36 l->l.size<N->l.size<M->flP N l b=flP M l b:=by
 intro N
 induction N with
 |zero=>intro M l b _ h;omega
 |succ N ih=>
  intro M l b hc h1 h2;cases M with
  |zero=>omega
  |succ M=>
   simp only[flP];refine ow _ fun s hs=> ?_
   obtain⟨c1,c2⟩:=bZ hc hs
   congr 1
   refine ow _ fun x hx=> ?_
   obtain⟨k1,k2⟩:=ba c1 hx;exact ih M x _ k1 (by omega) (by omega)
theorem PF:∀(N M:Nat) (l:D),Conf PG 36 l->l.size<N->l.size<M->dep N l=dep M l:=by
 intro N
 induction N with
 |zero=>intro M l _ h;omega
 |succ N ih=>
  intro M l hc h1 h2;cases M with
  |zero=>omega
  |succ M=>
   simp only[dep]
   congr 1
   refine lF fun s hs=> ?_
   obtain⟨c1,c2⟩:=bZ hc hs
   congr 2
   refine lF fun x hx=> ?_
   obtain⟨k1,k2⟩:=ba c1 hx;exact ih M x k1 (by omega) (by omega)
theorem grow241 {n:Int} (h:0≤n∧n≤10000000):q241 [.int n]=some [.list []]:=by
 rw[Pb,F241_eq];obtain⟨m,rfl⟩:∃m:Nat,n=(m:Int):=⟨n.toNat,by omega⟩
 have e0:aM .sub .i64 (m:Int) 0=m:=by rw[fp (by omega) (by omega)];omega
 simp only[e0,az,b9,cJ,aD,CD,bL,bq (show m≤1000000000 by omega) (show 88≤1000 by omega)]
 by_cases h0:m=0
 ·subst h0;simp
 ·simp[show¬((m:Int)<0)by omega,show 0<m by omega]
theorem Jy {a b:D} (ha:a.toList.length≤1000000) (hb:b.toList.length≤1000000):q223 [.list [a,b]]=some [.list (a.toList++b.toList)]:=by
 rw[Pc,F223_eq,Cp,zo,bL];have g0:ay (.list [a,b]) 0=a:=by rw[rW];rfl
 have g1:ay (.list [a,b]) 1=b:=bg (.list [a,b]) 1;have i0:aS (.list [a,b]) 0=true:=aZ (d:= .list [a,b]) (i:=0) (by simp[D.toList])
 have i1:aS (.list [a,b]) 1=true:=aZ (d:= .list [a,b]) (i:=1) (by simp[D.toList])
 have s1:aM .add .i64 0 (ae a)=(a.toList.length:Int):=by rw[aL,wM (by omega) (by omega)];omega
 have s2:aM .add .i64 (a.toList.length:Int) (ae b)=((a.toList.length+b.toList.length:Nat):Int):=by rw[aL,wM (by omega) (by omega)];omega
 have t1:aM .add .i64 0 1=1:=bk (i:=0) (by omega)
 have t2:aM .add .i64 1 1=2:=bk (i:=1) (by omega)
 have hl:loW (uW [.list [a,b], .list [a,b], .int (([a,b]:List D).length:Int)]) [.int 0, .int 0]=some [.int 0, .int ((a.toList.length+b.toList.length:Nat):Int)]:=by
  have f1:¬((a.toList.length:Int)<0):=by omega
  have f2:¬(((a.toList.length+b.toList.length:Nat):Int)<0):=by omega
  rw[bD,oq];simp only[az,cn,cZ,show(0:Int)<((0+1+1:Nat):Int)by omega,be,aj,i0,g0,s1,f1,bl,aI,t1]
  rw[bD,oq];simp only[az,show(1:Int)<((0+1+1:Nat):Int)by omega,be,aj,i1,g1,s2,f2,bl,aI,t2]
  rw[bD,oq];simp only[az,show¬(2:Int)<((0+1+1:Nat):Int)by omega,bl,aI]
 have hm:loW (pU [.list [a,b], .int (([a,b]:List D).length:Int)]) [.int 0, .list []]=some [.int 0, .list (a.toList++b.toList)]:=by
  rw[bD,my];simp only[az,cn,cZ,show(0:Int)<((0+1+1:Nat):Int)by omega,be,aj,i0,g0,u5,bL,gj,bq (show a.toList.length≤1000000000 by omega) (show 88≤1000 by omega),t1]
  rw[bD,my];simp only[az,show(1:Int)<((0+1+1:Nat):Int)by omega,be,aj,i1,g1,u5,bL,bq (show(a.toList++b.toList).length≤1000000000 by rw[bM];omega) (show 88≤1000 by omega),t2]
  rw[bD,my];simp only[az,show¬(2:Int)<((0+1+1:Nat):Int)by omega,bl,aI]
 simp only[hl,hm,grow241 (n:=((a.toList.length+b.toList.length:Nat):Int)) (by omega),aq,ax,bf,bt,aC,aj]
theorem Yl:dl 38 0 9=true:=by kernel_rfl
theorem Ym:dl 38 1 35=true:=by kernel_rfl
theorem Jz:dl 38 2 36=true:=by kernel_rfl
theorem M9:dl 197 0 35=true:=by kernel_rfl
theorem Yn:dl 197 1 67=true:=by kernel_rfl
theorem Yo:dl 197 2 195=true:=by kernel_rfl
theorem s195:ml 195 38=true:=by kernel_rfl
theorem s67:ml 67 162=true:=by kernel_rfl
theorem f162_0:dl 162 0 9=true:=by kernel_rfl
def Fit (b:D):Prop:=∀N,b.size<N->Sm N b∧cnt N b≤1000000
def fnB (u:D) (n:ByteArray):Bool:=(aa u 2).toList.any fun x=>(aB (aa x 0)).data.toList==n.data.toList
def flB (f:D):List D:=flP ((aa f 2).size+1) (aa f 2) false
def vsB (u f:D):D:= .list ((aa u 0).toList++(aa f 1).toList)
def gT (u f:D):Int:=
 if 256<(aa u 0).toList.length+(aa f 1).toList.length then 6
 else if nF (aa u 0).toList (aa f 1).toList=0 then
  if 64<dep ((aa f 2).size+1) (aa f 2)then 20
  else if 1024<(flB f).length then 6
  else cE (plE (vsB u f) (fnB u) (flB f)) 0 (flB f).length
 else nF (aa u 0).toList (aa f 1).toList
theorem zZ (a b:Nat):decide ((a:Int)<(b:Int))=decide (a<b):=by by_cases h:a<b<;>simp[h]<;>omega
theorem va {d:D} {T e:TypeId} (hT:ml T e=true) (h:Conf PG T d):D.list d.toList=d:=by
 obtain⟨xs,rfl⟩:=(ce hT h).2.1;rfl
theorem body_eq {u f fn:D} (hu:Conf PG 197 u) (hf:Conf PG 38 f) (hfit:Fit (aa f 2)) (hg:(aa u 0).toList.length≤1000000) (hv:(aa f 1).toList.length≤1000000) (hfs:(aa u 2).toList.length≤maxLen) (hfn:fn.toList.length≤maxLen) (hfb:∀n,dW fn n=fnB u n):
 Xf [u,f,fn]=some [.int (gT u f)]∧WB [u,f]=some [.int (gT u f)]:=by
 have cg:Conf PG 35 (aa u 0):=by rw[bx];exact bi M9 hu
 have cv:Conf PG 35 (aa f 1):=by rw[bx];exact bi Ym hf
 have cb:Conf PG 36 (aa f 2):=by rw[bx];exact bi Jz hf
 have lg:=va s35 cg;have lv:=va s35 cv;obtain⟨v1,v2⟩:=Pz hg hv (ce s35 cv).2.2;rw[lg,lv]at v1 v2;have hN1:(aa f 2).size<aY [aa f 2]:=cC (by simp)
 have hN2:(aa f 2).size<aY [aa f 2, .int 65]:=cC (by simp)
 have hN3:(aa f 2).size<aY [aa f 2, .bool false]:=cC (by simp)
 have d1:=M5 _ _ cb hN1 (hfit _ hN1).1 (hfit _ hN1).2;have d2:=Js _ _ 65 cb hN2 (hfit _ hN2).1 (hfit _ hN2).2 (by omega) (by omega)
 have a1:=Ye _ _ false cb hN3 (hfit _ hN3).1 (hfit _ hN3).2;have a2:=Sn _ _ false cb hN3 (hfit _ hN3).1 (hfit _ hN3).2;have e1:dep (aY [aa f 2]) (aa f 2)=dep ((aa f 2).size+1) (aa f 2):=PF _ _ _ cb hN1 (by omega)
 have e2:(64<dep ((aa f 2).size+1) (aa f 2))↔64<iB (aY [aa f 2, .int 65]) (aa f 2) 65:=by
  rw[<- Yf,PF _ _ _ cb hN2 (show(aa f 2).size<(aa f 2).size+1 by omega)]
 have e3:flP (aY [aa f 2, .bool false]) (aa f 2) false=flB f:=flP_irr _ _ _ _ cb hN3 (by omega)
 rw[e3]at a1;rw[e1]at d1;have hag:Ag (flB f) (flR (aY [aa f 2, .bool false]) (aa f 2) false):=by rw[<- e3];exact Jv _ _ _
 have hlen:(flB f).length=(flR (aY [aa f 2, .bool false]) (aa f 2) false).length:=by have:=congrArg List.length hag.nodes;simpa using this
 have okP:∀x∈flB f,Fk x:=Yk _ _ _ cb;have okR:∀x∈flR (aY [aa f 2, .bool false]) (aa f 2) false,Fk x:=Fl _ _ _ cb;have hple:=plE_eq (v:=vsB u f) (fs:=fnB u) hag;have hcc:=Jy (a:=aa u 0) (b:=aa f 1) hg hv;have hvm:(vsB u f).toList.length≤maxLen:=by unfold vsB;rw[tl,bM];unfold maxLen;omega
 generalize flR (aY [aa f 2, .bool false]) (aa f 2) false=LR at *;generalize hLP:flB f=LP at *;have add:aM .add .i64 (ae (aa u 0)) (ae (aa f 1))=(((aa u 0).toList.length+(aa f 1).toList.length:Nat):Int):=by rw[aL,aL,wM (by omega) (by omega)];omega
 have add':aM .add .i64 (ae (aa f 1)) (ae (aa u 0))=(((aa u 0).toList.length+(aa f 1).toList.length:Nat):Int):=by rw[aL,aL,wM (by omega) (by omega)];omega
 constructor
 ·rw[Pg,F170_eq,add,v1,O8,O9];simp only[d1,a1,hcc,aq,ax,bf,aC,bL,aj,b9,cp,zB,zC];unfold gT;rw[hLP,show(256:Int)=((256:Nat):Int)from rfl,show(64:Int)=((64:Nat):Int)from rfl,show(1024:Int)=((1024:Nat):Int)from rfl,zZ,zZ,zZ]
  by_cases c1:256<(aa u 0).toList.length+(aa f 1).toList.length
  ·simp[c1]
  ·simp only[c1,bl,aI,aV];by_cases c2:nF (aa u 0).toList (aa f 1).toList=0
   ·simp only[c2,be,bX,aI,aX];by_cases c3:64<dep ((aa f 2).size+1) (aa f 2)
    ·simp[c3]
    ·simp only[c3,bl,aI,aV];by_cases c4:1024<LP.length
     ·simp[c4]
     ·simp only[c4,bl,aI,aV]
      have hl1:=(de (A:=List D) (st:=pY [.list LP, .list LP, .int (LP.length:Int), .list ((aa u 0).toList++(aa f 1).toList),fn]) (n:=LP.length) (enc:=fun i m=>[.int (i:Int), .list m])
       (f:=fun i m=>m++(if ah (aa (d7 (LP.getD i .other)) 0)=13 then[.str (aB (aa (d7 (LP.getD i .other)) 2))]else[])) (fin:=fun m=>[.int 0, .list m]) (I:=fun i m=>m=iF (LP.take i))
       (fun m _=>by rw[tB];simp[az]) (fun i m hi hI=>by
        have hq:ay (.list LP) (i:Int)=LP.getD i .other:=by rw[bg];rfl
        have hin:aS (.list LP) (i:Int)=true:=aZ (d:= .list LP) hi;have hI':m++(if ah (aa (d7 (LP.getD i .other)) 0)=13 then[D.str (aB (aa (d7 (LP.getD i .other)) 2))]else[])=iF (LP.take (i+1)):=by
         unfold iF;rw[f8 hi,hI];rfl
        refine⟨?_,hI'⟩
        have hml:m.length≤2000:=by rw[hI];have:=zY (LP.take i);simp at this;omega
        rw[tB,hq,hin];simp only[az,show(i:Int)<(LP.length:Int)by omega,be,aj,aD,dA,bL]
        rw[bk (by omega),bq (by rw[bM,cn,cZ];omega) (by omega)]
        unfold d7;by_cases h13:ah (aa (aa (LP.getD i .other) 0) 0)=13
        ·simp only[h13,be,aj,aX]
        ·simp only[h13,bl,aI,aV,fQ]) (a:=[]) (by simp[iF]))
      obtain⟨g1,g2⟩:=hl1;rw[eP (bj _)]at g2;rw[g2]at g1;simp only[b8]at g1;have hlb:(D.list (iF LP)).toList.length≤maxLen:=by rw[tl];have:=zY LP;unfold maxLen;omega
      have hl2:=jj (st:=pZ [.list LP, .int (LP.length:Int), .list (iF LP), .list ((aa u 0).toList++(aa f 1).toList),fn]) (n:=LP.length) (enc:=fun i=>[.int (i:Int), .list (iF (LP.take i))]) (p:=plE (vsB u f) (fnB u) LP)
       (by rw[tC];simp[az]) (fun i hi hp=>by
        have hx:LP.getD i .other∈LP:=by rw[getD_lt hi];exact b7 hi
        obtain⟨s,b,hs,hcs⟩:=okP _ hx;have hq:ay (.list LP) (i:Int) = .agg [s, .bool b]:=by rw[bg];exact hs
        have hin:aS (.list LP) (i:Int)=true:=aZ (d:= .list LP) hi;have hml:(iF (LP.take i)).length≤2000:=by have:=zY (LP.take i);simp at this;omega
        have hc:=Yi (v:=vsB u f) (fn:=fn) (lb:= .list (iF LP)) (sn:=iF (LP.take i)) (b:=b) hcs hvm hfn hlb (by omega)
        have hE:mJ (vsB u f) (dW fn) (dW (.list (iF LP))) (dW (.list (iF (LP.take i)))) s b=plE (vsB u f) (fnB u) LP i:=by
         unfold plE;rw[hs,rX,M8,show dW fn=fnB u from funext hfb,show dW (.list (iF LP))=fun n=>LP.any (ee n)from funext fun n=>Jw LP n,show dW (.list (iF (LP.take i)))=fun n=>(LP.take i).any (ee n)from funext fun n=>Jw _ n]
        rw[hE]at hc;have hv':D.list ((aa u 0).toList++(aa f 1).toList)=vsB u f:=rfl;rw[tC,hq,hin,hv',hc];simp only[az,cp,show(i:Int)<(LP.length:Int)by omega,be,aj,aq,ax,bf,bt,aC]
        by_cases hz:plE (vsB u f) (fnB u) LP i=0
        ·have hn:iF (LP.take (i+1))=iF (LP.take i)++(if ah (aa s 0)=13 then[D.str (aB (aa s 2))]else[]):=by
          unfold iF;rw[f8 hi,hs,rX]
         rw[hn];simp only[hz,and_true,be,bX,aI,aX];rw[bk (by omega)]
        ·simp[hz])
      simp only[b8,nJ]at hl2;rw[show iF ([]:List D) = []from rfl]at hl2
      simp only[g1,hl2,aq,ax,bf,bt,aj,aD,b8,cZ,be];have:=mG (cE (plE (vsB u f) (fnB u) LP) 0 LP.length);simpa only[aq,ax,aj,aD]using this
   ·simp[c2]
 ·rw[O0,F180_eq,add',v2,OU,OV];have hap:bG (aa u 0) (aa f 1)=vsB u f:=by rw[<- lg,u5];rfl
  simp only[d2,a2,hap,aq,ax,bf,aC,bL,aj,b9,cp,yP];unfold gT;rw[hLP,show(256:Int)=((256:Nat):Int)from rfl,show(64:Int)=((64:Nat):Int)from rfl,show(1024:Int)=((1024:Nat):Int)from rfl,zZ,zZ,zZ, <- hlen]
  by_cases c1:256<(aa u 0).toList.length+(aa f 1).toList.length
  ·simp[c1]
  ·simp only[c1,bl,aI,aV];by_cases c2:nF (aa u 0).toList (aa f 1).toList=0
   ·simp only[c2,be,bX,aI,aX];by_cases c3:64<dep ((aa f 2).size+1) (aa f 2)
    ·have:=e2.1 c3;simp[c3,this]
    ·have c3':¬64<iB (aY [aa f 2, .int 65]) (aa f 2) 65:=fun h=>c3 (e2.2 h)
     simp only[c3,c3',bl,aI,aV];by_cases c4:1024<LP.length
     ·simp[c4]
     ·simp only[c4,bl,aI,aV];have hlm:(D.list LR).toList.length≤maxLen:=by rw[tl];unfold maxLen;omega
      have hl2:=jj (st:=pN [.list LR,vsB u f,u]) (n:=LR.length) (enc:=fun i=>[.int (i:Int)]) (p:=plE (vsB u f) (fnB u) LR)
       (by rw[ti,bL];simp[az]) (fun i hi hp=>by
        have hx:LR.getD i .other∈LR:=by rw[getD_lt hi];exact b7 hi
        obtain⟨s,b,hs,hcs⟩:=okR _ hx;have hc:=stmt229 (u:=u) (v:=vsB u f) (l:= .list LR) (k:=i) hvm hlm hfs hi hs hcs;have hE:mJ (vsB u f) (fun n=>(aa u 2).toList.any fun x=>(aB (aa x 0)).data.toList==n.data.toList) (fun n=>(D.list LR).toList.any (ee n)) (fun n=>((D.list LR).toList.take i).any (ee n)) s b=plE (vsB u f) (fnB u) LR i:=by
         unfold plE;rw[hs,rX,M8];rfl
        rw[hE]at hc;rw[ti,bL,hc];simp only[az,cp,show(i:Int)<(LR.length:Int)by omega,be,aj,aq,ax,bf,aC]
        by_cases hz:plE (vsB u f) (fnB u) LR i=0
        ·simp only[hz,be,bX,aI,aX];rw[bk (by omega)]
        ·simp[hz])
      simp only[b8]at hl2;have m1:cA (ae (aa u 0)) 88=true:=by rw[aL];exact bq (by omega) (by omega)
      have m2:cA (ae (vsB u f)) 88=true:=by unfold vsB;rw[bL];exact bq (by rw[bM];omega) (by omega)
      rw[hple];simp only[hl2,m1,m2,aD,be,aj];have:=mG (cE (plE (vsB u f) (fnB u) LR) 0 LR.length);simpa only[aq,ax,aj,aD]using this
   ·simp[c2]
def JA (l:List D) (i:Nat):Int:=
 if gB (aB (aa (l.getD i .other) 0))=false then 3
 else if(l.take i).any (fun x=>(aB (aa x 0)).data.toList==(aB (aa (l.getD i .other) 0)).data.toList)then 8
 else if 65536<(aa (l.getD i .other) 2).toList.length then 6 else 0
def CI (l:List D):Int:=cE (JA l) 0 l.length
theorem Ss {l x:D} (hl:l.toList.length≤maxLen):pT [l,x]=some [.bool (l.toList.any fun y=>(aB (aa y 0)).data.toList==(aB (aa x 0)).data.toList)]:=by
 rw[tt,IM,tq,IK,nC];rcases cz (st:=jg [l,x, .int (ae l)]) (c:=fun y=>pR [y,x]) (p:=fun y=>(aB (aa y 0)).data.toList==(aB (aa x 0)).data.toList) (r1:=fun i=>[.int 1, .int i]) (r0:=[.int 0]) (fun i=>zi l x (ae l) i) hl (fun y _=>by rw[tp,II,ez])with⟨h1,h2⟩|⟨i,h1,h2⟩
 ·rw[h2];simp[h1,aq,ax,aC,aD,bB]
 ·rw[h2];simp[h1,aq,ax,aC,aD,bB]
theorem CJ {x:D} (h:Conf PG 162 x):(aB (aa x 0)).size≤maxLen:=by rw[bx];exact eA (bi f162_0 h)
theorem data_eq {l:D} (hl:l.toList.length≤1000000) (hc:∀x∈l.toList,Conf PG 162 x):W2 [l]=some [.int (CI l.toList)]∧q178 [l]=some [.int (CI l.toList)]:=by
 have hm:∀i,i<l.toList.length->l.toList.getD i .other∈l.toList:=fun i hi=>by rw[getD_lt hi];exact b7 hi
 constructor
 ·rw[Pa,F169_eq,Co]
  have hloop:=jj (st:=uV [l,l, .int (ae l)]) (n:=l.toList.length) (enc:=fun i=>[.int (i:Int)]) (p:=JA l.toList)
   (by rw[zl,aL];simp[az]) (fun i hi hp=>by
    have hlm:(dr l 0 (i:Int)).toList.length≤maxLen:=by rw[Fh];simp;unfold maxLen;omega
    have ha:=Ss (x:=l.toList.getD i .other) hlm;rw[Fh]at ha;rw[zl,aL,aZ hi,bg,(eB (CJ (hc _ (hm i hi)))).1,ha,aL];unfold JA;simp only[az,cJ,b9,show(i:Int)<(l.toList.length:Int)by omega,show(0:Int)≤(i:Int)by omega,show(i:Int)≤(l.toList.length:Int)by omega,show(0:Int)≤0 by omega,be,aj,aq,ax,bf,aK,bI]
    rw[show(65536:Int)=((65536:Nat):Int)from rfl,zZ]
    cases gB (aB (aa (l.toList.getD i .other) 0))with
    |false=>simp
    |true=>
     by_cases h1:((l.toList.take i).any fun y=>(aB (aa y 0)).data.toList==(aB (aa (l.toList.getD i .other) 0)).data.toList)=true
     ·simp only[h1,bX,aI,aj,reduceCtorEq,aV,aX];simp
     ·rw[nH]at h1;simp only[h1,bX,aI,reduceCtorEq,aV,hR];by_cases h2:65536<(aa (l.toList.getD i .other) 2).toList.length
      ·simp only[h2,be,aj,aX,show¬(6:Int)=0 by omega,aV]
      ·simp only[h2,bl,aI,aV,aX];rw[bk (by omega)])
  simp only[b8]at hloop;simp only[hloop];exact mG _
 ·rw[OS,F178_eq,Ca]
  have hloop:=jj (st:=uH [l]) (n:=l.toList.length) (enc:=fun i=>[.int (i:Int)]) (p:=JA l.toList)
   (by rw[yx,aL];simp[az]) (fun i hi hp=>by
    have hin:=zO (st:=uG [l, .int (i:Int)]) (n:=i) (p:=fun k=>(fun y=>(aB (aa y 0)).data.toList==(aB (aa (l.toList.getD i .other) 0)).data.toList) (l.toList.getD k .other)) (r0:=[D.int 0]) (r1:=[.int 1]) (by unfold maxLen;omega)
     (by rw[yu];simp[az]) (fun k hk=>by
      rw[yu,aZ (show k<l.toList.length by omega),aZ hi,bg,bg,ez,az]
      simp only[show((k:Int)<(i:Int))by omega,be,aj]
      by_cases hc:((aB (aa (l.toList.getD k .other) 0)).data.toList==(aB (aa (l.toList.getD i .other) 0)).data.toList)=true
      ·simp only[hc,aj,aX]
      ·rw[nH]at hc;simp only[hc,aI,hR,aV])
    rw[zW (by omega) (p:=fun y=>(aB (aa y 0)).data.toList==(aB (aa (l.toList.getD i .other) 0)).data.toList)]at hin
    rw[yx,aL,aZ hi,bg,(eB (CJ (hc _ (hm i hi)))).2,B9,aL];unfold JA;simp only[hin,az,b9,show(i:Int)<(l.toList.length:Int)by omega,be,aj,aq,ax,bf,aK,bI]
    rw[show(65536:Int)=((65536:Nat):Int)from rfl,zZ]
    cases gB (aB (aa (l.toList.getD i .other) 0))with
    |false=>simp
    |true=>
     by_cases h1:((l.toList.take i).any fun y=>(aB (aa y 0)).data.toList==(aB (aa (l.toList.getD i .other) 0)).data.toList)=true
     ·simp only[h1,bX,aI,aj,reduceCtorEq,aV,aX];simp[aq,ax,aC,aD]
     ·rw[nH]at h1;simp only[h1,bX,aI,reduceCtorEq,aV,hR];by_cases h2:65536<(aa (l.toList.getD i .other) 2).toList.length
      ·simp only[h2,be,aj,aX,show¬(6:Int)=0 by omega,aV,aq,ax,bf,aC,aD]
      ·simp only[h2,bl,aI,aV,aX,aq,ax,bf,aC,aD,be,aj];rw[bk (by omega)])
  simp only[b8]at hloop;simp only[hloop];exact mG _
theorem JB {st:List D->Option (Sum (List D) (List D))} {n:Nat} {enc:Nat->List D} {p:Nat->Int} {r0:List D} (h0:st (enc n)=some (.inr r0))
 (h1:∀i,i<n->(∀m,m<i->p m=0)->st (enc i)=if p i=0 then some (.inl (enc (i+1)))else some (.inr [.int 1, .int (p i)])):loW st (enc 0)=some (if cE p 0 n=0 then r0 else[.int 1, .int (cE p 0 n)]):=by
 have key:∀k i:Nat,i+k=n->(∀m,m<i->p m=0)->loW st (enc i)=some (if cE p i k=0 then r0 else[.int 1, .int (cE p i k)]):=by
  intro k
  induction k with
  |zero=>intro i hi _;obtain rfl:i=n:=by omega
         rw[bD,h0];rfl
  |succ k ih=>
   intro i hi hp;rw[bD,h1 i (by omega) hp]
   simp only[cE];by_cases hz:p i=0
   ·simp only[hz,aX]
    exact ih (i+1) (by omega) fun m hm=>by
     by_cases h:m=i
     ·subst h;exact hz
     ·exact hp m (by omega)
   ·simp only[hz,aV]
 exact key n 0 (by omega) (fun m h=>by omega)
def fnP (l:List D) (i:Nat):Int:=
 if gB (aB (aa (l.getD i .other) 0))=false then 3
 else if(l.take i).any (fun x=>(aB (aa x 0)).data.toList==(aB (aa (l.getD i .other) 0)).data.toList)then 8 else 0
def nG (u:D):Int:=
 if 256<(aa u 0).toList.length∨16<(aa u 1).toList.length∨64<(aa u 2).toList.length then 6
 else if(aa u 2).toList.length=0 then 17
 else if nF [] (aa u 0).toList=0 then
  if CI (aa u 1).toList=0 then
   if cE (fnP (aa u 2).toList) 0 (aa u 2).toList.length=0 then cE (fun i=>gT u ((aa u 2).toList.getD i .other)) 0 (aa u 2).toList.length
   else cE (fnP (aa u 2).toList) 0 (aa u 2).toList.length
  else CI (aa u 1).toList
 else nF [] (aa u 0).toList
def fN (l:List D):List D:=l.map fun x=> .str (aB (aa x 0))
theorem z0 (l:List D) (n:ByteArray):dW (.list (fN l)) n=l.any fun x=>(aB (aa x 0)).data.toList==n.data.toList:=by
 unfold dW fN;rw[tl,List.any_map];congr 1;funext x;simp[mC]
theorem JC {x:D} (h:Conf PG 38 x):(aB (aa x 0)).size≤maxLen:=by rw[bx];exact eA (bi Yl h)
theorem unit_eq {u:D} (hu:Conf PG 197 u) (hfit:∀f∈(aa u 2).toList,Fit (aa f 2)∧(aa f 1).toList.length≤1000000) (hg:(aa u 0).toList.length≤1000000) (hd:(aa u 1).toList.length≤1000000) (hf:(aa u 2).toList.length≤1000000):
 q111 [u]=some [.int (nG u)]∧q120 [u]=some [.int (nG u)]:=by
 have cg:Conf PG 35 (aa u 0):=by rw[bx];exact bi M9 hu
 have cd:Conf PG 67 (aa u 1):=by rw[bx];exact bi Yn hu
 have cf:Conf PG 195 (aa u 2):=by rw[bx];exact bi Yo hu
 have hcf:=(ce s195 cf).2.2;have hfm:(aa u 2).toList.length≤maxLen:=by unfold maxLen;omega
 obtain⟨v1,v2⟩:=Pz (b:=[]) (by simp) hg (ce s35 cg).2.2
 rw[va s35 cg]at v1 v2;obtain⟨d1,d2⟩:=data_eq hd (ce s67 cd).2.2;have hm:∀i,i<(aa u 2).toList.length->(aa u 2).toList.getD i .other∈(aa u 2).toList:=fun i hi=>by rw[getD_lt hi];exact b7 hi
 have hbody:∀i,i<(aa u 2).toList.length->Xf [u,(aa u 2).toList.getD i .other, .list (fN (aa u 2).toList)]=some [.int (gT u ((aa u 2).toList.getD i .other))]∧WB [u,(aa u 2).toList.getD i .other]=some [.int (gT u ((aa u 2).toList.getD i .other))]:=fun i hi=>
  body_eq hu (hcf _ (hm i hi)) (hfit _ (hm i hi)).1 hg (hfit _ (hm i hi)).2 hfm (by rw[tl,fN,gP];exact hfm) (fun n=>z0 _ n)
 have guardB:∀a b c:Nat,(bif (bif decide (256<(a:Int))then true else decide (16<(b:Int)))then true else decide (64<(c:Int)))=decide (256<a∨16<b∨64<c):=fun a b c=>by
  rw[show(256:Int)=((256:Nat):Int)from rfl,show(16:Int)=((16:Nat):Int)from rfl,show(64:Int)=((64:Nat):Int)from rfl,zZ,zZ,zZ]
  by_cases h1:256<a<;>by_cases h2:16<b<;>by_cases h3:64<c<;>simp[h1,h2,h3]
 have eq0:∀n:Nat,decide ((n:Int)=0)=decide (n=0):=fun n=>by by_cases h:n=0<;>simp[h]
 constructor
 ·rw[Ph,F111_eq,v1,d1];simp only[aq,ax,bf,aC,aL,aj,b9,cp,bN,guardB,aD,eq0,zD,zE];unfold nG;by_cases c1:256<(aa u 0).toList.length∨16<(aa u 1).toList.length∨64<(aa u 2).toList.length
  ·simp[c1]
  ·simp only[c1,bl,aI,aV];by_cases c2:(aa u 2).toList.length=0
   ·simp[c2]
   ·simp only[c2,bl,aI,aV];by_cases c3:nF [] (aa u 0).toList=0
    ·simp only[c3,be,bX,aI,aX];by_cases c4:CI (aa u 1).toList=0
     ·simp only[c4,be,bX,aI,aX]
      have hl1:=JB (st:=p5 [aa u 2, .int ((aa u 2).toList.length:Int),u]) (n:=(aa u 2).toList.length) (enc:=fun i=>[.int (i:Int), .list (fN ((aa u 2).toList.take i))]) (p:=fnP (aa u 2).toList) (r0:=[.int 0, .list (fN (aa u 2).toList)])
       (by rw[tE,eP (bj _)];simp[az]) (fun i hi hp=>by
        have hml:(fN ((aa u 2).toList.take i)).length≤1000000:=by rw[fN,gP];simp;omega
        have hc:=eX (v:= .list (fN ((aa u 2).toList.take i))) (by rw[tl];unfold maxLen;omega) (aB (aa ((aa u 2).toList.getD i .other) 0))
        rw[z0]at hc;rw[tE,aZ hi,bg,(eB (JC (hcf _ (hm i hi)))).1,hc];unfold fnP;simp only[az,show(i:Int)<((aa u 2).toList.length:Int)by omega,be,aj,aq,ax,bf,aK,bI,dA,bL]
        rw[bq (by rw[bM,cn,cZ];omega) (by omega)]
        cases gB (aB (aa ((aa u 2).toList.getD i .other) 0))with
        |false=>simp
        |true=>
         by_cases h1:(((aa u 2).toList.take i).any fun y=>(aB (aa y 0)).data.toList==(aB (aa ((aa u 2).toList.getD i .other) 0)).data.toList)=true
         ·simp only[h1,bX,aI,aj,reduceCtorEq,aV,aX];simp
         ·rw[nH]at h1;have hn:fN ((aa u 2).toList.take (i+1))=fN ((aa u 2).toList.take i) ++ [.str (aB (aa ((aa u 2).toList.getD i .other) 0))]:=by
           unfold fN;rw[vj hi,ll,getD_lt hi];rfl
          rw[hn]
          simp only[h1,bX,aI,aj,reduceCtorEq,aV,aX,hR];rw[bk (by omega)])
      simp only[b8,nJ]at hl1;rw[show fN ([]:List D) = []from rfl]at hl1
      have hl2:=jj (st:=p6 [aa u 2, .int ((aa u 2).toList.length:Int), .list (fN (aa u 2).toList),u]) (n:=(aa u 2).toList.length) (enc:=fun i=>[.int (i:Int)]) (p:=fun i=>gT u ((aa u 2).toList.getD i .other))
       (by rw[tF];simp[az]) (fun i hi hp=>by
        rw[tF,aZ hi,bg,(hbody i hi).1];simp only[az,cp,show(i:Int)<((aa u 2).toList.length:Int)by omega,be,aj,aq,ax,bf,aC]
        by_cases hz:gT u ((aa u 2).toList.getD i .other)=0
        ·simp only[hz,be,bX,aI,aX];rw[bk (by omega)]
        ·simp only[hz,bl,dk,aj,aV])
      simp only[b8]at hl2;by_cases c5:cE (fnP (aa u 2).toList) 0 (aa u 2).toList.length=0
      ·rw[if_pos c5]at hl1;have:=mG (cE (fun i=>gT u ((aa u 2).toList.getD i .other)) 0 (aa u 2).toList.length)
       simp only[aq,ax,aj,aD]at this;simp only[hl1,hl2,c5,aq,ax,bf,bt,aC,be,aj,aX,List.toList_toArray,tl,cZ,b8,this]
      ·rw[if_neg c5]at hl1;simp[hl1,c5,aq,ax,aC,tl]
     ·simp[c4]
    ·simp[c3]
 ·rw[O1,F120_eq,v2,d2];simp only[aq,ax,bf,aC,aL,aj,b9,cp,bN,guardB,aD,eq0,yQ,yR];unfold nG;by_cases c1:256<(aa u 0).toList.length∨16<(aa u 1).toList.length∨64<(aa u 2).toList.length
  ·simp[c1]
  ·simp only[c1,bl,aI,aV];by_cases c2:(aa u 2).toList.length=0
   ·simp[c2]
   ·simp only[c2,bl,aI,aV];by_cases c3:nF [] (aa u 0).toList=0
    ·simp only[c3,be,bX,aI,aX];by_cases c4:CI (aa u 1).toList=0
     ·simp only[c4,be,bX,aI,aX]
      have hl1:=JB (st:=pO [u]) (n:=(aa u 2).toList.length) (enc:=fun i=>[.int (i:Int)]) (p:=fnP (aa u 2).toList) (r0:=[.int 0])
       (by rw[tj,aL];simp[az]) (fun i hi hp=>by
        have hc:=CG (l:=aa u 2) (n:=i) hfm (by omega) (aB (aa ((aa u 2).toList.getD i .other) 0))
        rw[tj,aL,aZ hi,bg,(eB (JC (hcf _ (hm i hi)))).2,hc];unfold fnP;simp only[az,show(i:Int)<((aa u 2).toList.length:Int)by omega,be,aj,aq,ax,bf,aK,bI]
        cases gB (aB (aa ((aa u 2).toList.getD i .other) 0))with
        |false=>simp
        |true=>
         by_cases h1:(((aa u 2).toList.take i).any fun y=>(aB (aa y 0)).data.toList==(aB (aa ((aa u 2).toList.getD i .other) 0)).data.toList)=true
         ·simp only[h1,bX,aI,aj,reduceCtorEq,aV,aX];simp
         ·rw[nH]at h1
          simp only[h1,bX,aI,aj,reduceCtorEq,aV,aX,hR];rw[bk (by omega)])
      simp only[b8]at hl1
      have hl2:=jj (st:=pP [u]) (n:=(aa u 2).toList.length) (enc:=fun i=>[.int (i:Int)]) (p:=fun i=>gT u ((aa u 2).toList.getD i .other))
       (by rw[tm,aL];simp[az]) (fun i hi hp=>by
        rw[tm,aL,aZ hi,bg,(hbody i hi).2];simp only[az,cp,show(i:Int)<((aa u 2).toList.length:Int)by omega,be,aj,aq,ax,bf,aC]
        by_cases hz:gT u ((aa u 2).toList.getD i .other)=0
        ·simp only[hz,be,bX,aI,aX];rw[bk (by omega)]
        ·simp only[hz,bl,dk,aj,aV])
      simp only[b8]at hl2;by_cases c5:cE (fnP (aa u 2).toList) 0 (aa u 2).toList.length=0
      ·rw[if_pos c5]at hl1;have:=mG (cE (fun i=>gT u ((aa u 2).toList.getD i .other)) 0 (aa u 2).toList.length)
       simp only[aq,ax,aj,aD]at this;simp only[hl1,hl2,c5,aq,ax,bf,aC,be,aj,aX,this]
      ·rw[if_neg c5]at hl1;simp[hl1,c5,aq,ax,aC]
     ·simp[c4]
    ·simp[c3]
theorem vb {T n:Nat} {ds:List D} (hT:d8 T=n+1) (hl:ds.length=n+1) (hf:∀j,j<n+1->∃F,dl T j F=true∧Conf PG F (ds.getD j .other)):Conf PG T (.agg ds):=by
 unfold d8 at hT;cases hu:PG.underlying T with
 |none=>rw[hu]at hT;cases hT
 |some td=>
  rw[hu]at hT;cases td with
  |struct fs=>
   have hT:fs.size=n+1:=hT;refine Conf.struct hu (by omega) fun j f hj=> ?_
   have hlt:j<fs.toList.length:=(cU.1 hj).1;obtain⟨F,h1,h2⟩:=hf j (by simp at hlt;omega)
   unfold dl at h1;rw[hu]at h1;simp only[hj]at h1;rw[aR h1];exact h2
  |_=>cases hT
theorem iE {T e:TypeId} {xs:List D} (hT:ml T e=true) (hl:xs.length≤maxLen) (hd:∀x∈xs,Conf PG e x):Conf PG T (.list xs):=by
 unfold ml at hT;cases hu:PG.underlying T with
 |none=>rw[hu]at hT;cases hT
 |some td=>
  rw[hu]at hT;cases td with
  |slice e'=>
   have:=aR hT;subst this;exact Conf.slice hu hl hd
  |_=>cases hT
theorem JD {s:ByteArray} (hs:s.size≤maxLen):Conf PG 9 (.str s):=by
 have ht:=str9;unfold Ff at ht;cases hu:PG.underlying 9 with
 |none=>rw[hu]at ht;cases ht
 |some td=>
  rw[hu]at ht;cases td with
  |string=>exact Conf.str hu hs
  |_=>cases ht
def isI64 (T:TypeId):Bool:=match PG.underlying T with|some (.int .i64)=>true|_=>false
theorem i64_3:isI64 3=true:=by kernel_rfl
theorem z7 {n:Int} (h0: -9223372036854775808≤n) (h1:n≤9223372036854775807):Conf PG 3 (.int n):=by
 have ht:=i64_3;unfold isI64 at ht;cases hu:PG.underlying 3 with
 |none=>rw[hu]at ht;cases ht
 |some td=>
  rw[hu]at ht;cases td with
  |int k=>
   cases k<;>first|(cases ht;done)|exact Conf.int hu h0 h1
  |_=>cases ht
theorem len38:d8 38=2+1:=by kernel_rfl
theorem len197:d8 197=2+1:=by kernel_rfl
theorem s26:ml 26 9=true:=by kernel_rfl
def zT:D:= .agg [.int 0, .int 0, .int 0, .list [], .list []]
theorem conf_zT:Conf PG 63 zT:=by
 refine vb len63 rfl fun j hj=> ?_
 have h:j=0∨j=1∨j=2∨j=3∨j=4:=by omega
 rcases h with rfl|rfl|rfl|rfl|rfl
 ·exact⟨3,f63_0,z7 (by omega) (by omega)⟩
 ·exact⟨3,f63_1,z7 (by omega) (by omega)⟩
 ·exact⟨3,f63_2,z7 (by omega) (by omega)⟩
 ·exact⟨60,f63_3,iE s60 (by simp) (by simp)⟩
 ·exact⟨61,f63_4,iE s61 (by simp) (by simp)⟩
def kZ (l:List D):List D:=l.map fun s=> .agg [.str (aB s),zT]
def la (f:D) (l:List D):List D:=f::l.flatMap fun s=>if(aB s).data.toList=(aB (aa f 0)).data.toList then[]else[.agg [.str (aB s), .list [], .list []]]
def eE (f:D) (v fn:List D):D:= .agg [.list (kZ v), .list [], .list (la f fn)]
theorem vars_of {v:D} (hv:v.toList.length≤1000000):q40 [v]=some [.list (kZ v.toList)]∧q44 [v]=some [.list (kZ v.toList)]:=by
 have hz:D.agg [.int 0, .int 0, .int 0, .list [], .list []]=zT:=rfl
 have tk:∀i,i<v.toList.length->kZ (v.toList.take (i+1))=kZ (v.toList.take i) ++ [.agg [.str (aB (v.toList.getD i .other)),zT]]:=fun i hi=>by
  unfold kZ;rw[vj hi,ll,getD_lt hi];rfl
 have ln:∀i,(kZ (v.toList.take i)).length≤1000000:=fun i=>by unfold kZ;simp;omega
 constructor
 ·rw[Vj,F40_eq,HA]
  obtain⟨g1,g2⟩:=(de (A:=List D) (st:=D3 [v, .int (ae v)]) (n:=v.toList.length) (enc:=fun i m=>[.int (i:Int), .list m]) (f:=fun i m=>m ++ [.agg [.str (aB (v.toList.getD i .other)),zT]]) (fin:=fun m=>[.int 0, .list m]) (I:=fun i m=>m=kZ (v.toList.take i))
   (fun m _=>by rw[BZ,aL];simp[az]) (fun i m hi hI=>by
    refine⟨?_,by rw[tk i hi,hI]⟩
    have:=ln i;rw[BZ,aL,aZ hi,bg,hz,dA,bL,bq (by rw[hI,bM,cn,cZ];omega) (by omega),bk (by omega)]
    simp only[az,show(i:Int)<(v.toList.length:Int)by omega,be,aj]) (a:=[]) (by simp[kZ]))
  rw[eP (bj _)]at g2;rw[g2]at g1;simp only[b8]at g1;simp only[g1,aq,ax,bf,bt,aj]
 ·rw[Vm,F44_eq,HC]
  obtain⟨g1,g2⟩:=(de (A:=List D) (st:=D5 [v]) (n:=v.toList.length) (enc:=fun i m=>[.int (i:Int), .list m]) (f:=fun i m=>m ++ [.agg [.str (aB (v.toList.getD i .other)),zT]]) (fin:=fun m=>[.int 0, .list m]) (I:=fun i m=>m=kZ (v.toList.take i))
   (fun m _=>by rw[B0,aL];simp[az]) (fun i m hi hI=>by
    refine⟨?_,by rw[tk i hi,hI]⟩
    have:=ln i;rw[B0,aL,aZ hi,bg,hz,dA,bL,bq (by rw[hI,bM,cn,cZ];omega) (by omega),bk (by omega)]
    simp only[az,show(i:Int)<(v.toList.length:Int)by omega,be,aj]) (a:=[]) (by simp[kZ]))
  rw[eP (bj _)]at g2;rw[g2]at g1;simp only[b8]at g1;simp only[g1,aq,ax,bf,bt,aj]
def caB (fn:D):Nat->D->Bool
 |0,_=>false
 |N+1,l=>l.toList.all fun s=>(!decide (ah (aa s 0)=5)||dW fn (aB (aa s 2)))&&(aW s).all (caB fn N)
theorem Fm (fn:D):∀(N M:Nat) (l:D),Conf PG 36 l->l.size<N->l.size<M->caB fn N l=caB fn M l:=by
 intro N
 induction N with
 |zero=>intro M l _ h;omega
 |succ N ih=>
  intro M l hc h1 h2;cases M with
  |zero=>omega
  |succ M=>
   simp only[caB];rw[fy];simp only[bV];constructor
   ·intro h s hs;obtain⟨c1,c2⟩:=bZ hc hs;have:=h s hs;simp only[bn,bV]at this ⊢;refine⟨this.1,fun x hx=> ?_⟩
    obtain⟨k1,k2⟩:=ba c1 hx;rw[<- ih M x k1 (by omega) (by omega)];exact this.2 x hx
   ·intro h s hs;obtain⟨c1,c2⟩:=bZ hc hs;have:=h s hs;simp only[bn,bV]at this ⊢;refine⟨this.1,fun x hx=> ?_⟩
    obtain⟨k1,k2⟩:=ba c1 hx;rw[ih M x k1 (by omega) (by omega)];exact this.2 x hx
def gE (b:Bool) (e:Int):Int:=if b then e else 17
theorem PH (a b:Bool) (e:Int):gE b (gE a e)=gE (a&&b) e:=by cases a<;>cases b<;>rfl
theorem Fo {f:D->Bool}:∀(l:List D) (e:Int),l.foldl (fun e x=>gE (f x) e) e=gE (l.all f) e
 | [],e=>rfl
 |x::l,e=>by rw[List.foldl_cons,Fo l,PH];rfl
theorem Na {fn:D} (hfn:fn.toList.length≤maxLen):∀(N:Nat) (l:D) (e:Int),Conf PG 36 l->l.size<N->F74 N [fn,l, .int e]=some [.int (gE (caB fn N l) e)]:=by
 intro N
 induction N with
 |zero=>intro l _ _ h;omega
 |succ N ih=>
  intro l e hc hs;rw[F74_s,Fb74_eq,I5];have hlen:=(ce s36 hc).1;unfold maxLen at hlen;have inner:∀s∈l.toList,∀(a:D) (b c:Int) (e:Int),Pj (F74 N) [a, .int b, .int c,aa s 6, .int (ae (aa s 6)),fn] [.int 0, .int e]=some [.int 0, .int (gE ((aa s 6).toList.all (caB fn N)) e)]:=by
   intro s hsm a b c e;obtain⟨h1,h2⟩:=bZ hc hsm;rw[I4];have h6:Conf PG 185 (aa s 6):=by rw[bx];exact bi Fi h1
   have h6l:=(ce s185 h6).1;unfold maxLen at h6l
   have hloop:=(de (A:=Int) (st:=EZ (F74 N) [a, .int b, .int c,aa s 6, .int (ae (aa s 6)),fn]) (n:=(aa s 6).toList.length) (enc:=fun i e=>[.int (i:Int), .int e])
    (f:=fun i e=>gE (caB fn N ((aa s 6).toList.getD i .other)) e) (fin:=fun e=>[.int 0, .int e]) (I:=fun _ _=>True)
    (fun m _=>by rw[Cr,aL];simp[az]) (fun i e hi _=>by
     have hx0:(aa s 6).toList.getD i .other∈(aa s 6).toList:=by rw[getD_lt hi];exact b7 hi
     have hx:(aa s 6).toList.getD i .other∈aW s:=by unfold aW;simp only[cy];exact .inr (.inr hx0)
     obtain⟨k1,k2⟩:=ba h1 hx;refine⟨?_,trivial⟩
     rw[Cr,aL,aZ hi,bg,ih _ e k1 (by omega)]
     simp only[az,show(i:Int)<((aa s 6).toList.length:Int)by omega,be,aj,aq,ax,bf,aC]
     rw[bk (by omega)]) (a:=e) trivial).1
   rw[ft (g:=fun x e=>gE (caB fn N x) e),Fo]at hloop
   exact hloop
  have hloop:=(de (A:=Int) (st:=E5 (F74 N) [l, .int (ae l),fn]) (n:=l.toList.length) (enc:=fun i e=>[.int (i:Int), .int e])
   (f:=fun i e=>gE ((!decide (ah (aa (l.toList.getD i .other) 0)=5)||dW fn (aB (aa (l.toList.getD i .other) 2)))&&(aW (l.toList.getD i .other)).all (caB fn N)) e) (fin:=fun e=>[.int 0, .int e]) (I:=fun _ _=>True)
   (fun m _=>by rw[Cs,aL];simp[az]) (fun i e hi _=>by
    have hx:l.toList.getD i .other∈l.toList:=by rw[getD_lt hi];exact b7 hi
    have hgi:ay l (i:Int)=l.toList.getD i .other:=bg _ _;obtain⟨h1,h2⟩:=bZ hc hx;have hinn:=inner _ hx;generalize l.toList.getD i .other=s at *;have k4:aa s 4∈aW s:=by simp[aW]
    have k5:aa s 5∈aW s:=by simp[aW]
    have e4:=fun e=>ih _ e (ba h1 k4).1 (by have:=(ba h1 k4).2;omega)
    have e5:=fun e=>ih _ e (ba h1 k5).1 (by have:=(ba h1 k5).2;omega)
    have e112:q112 [fn,s, .int e]=some [.int (gE (!decide (ah (aa s 0)=5)||dW fn (aB (aa s 2))) e)]:=by
     rw[Pi,F112_eq,eX hfn];simp only[aq,ax,bf,aK,bI,bN,aD,nK,aj];by_cases h5:ah (aa s 0)=5
     ·cases hm:dW fn (aB (aa s 2))<;>simp[h5,gE]
     ·simp[h5,gE]
    refine⟨?_,trivial⟩
    rw[Cs,aZ hi,hgi,e112,aL l];simp only[az,show(i:Int)<(l.toList.length:Int)by omega,be,aj,aq,ax,bf,bt,aC,e4,e5,hinn,PH]
    rw[bk (by omega)]
    simp only[aW,nk,Bool.and_assoc]) (a:=e) trivial).1
  rw[ft (g:=fun s e=>gE ((!decide (ah (aa s 0)=5)||dW fn (aB (aa s 2)))&&(aW s).all (caB fn N)) e),Fo]at hloop
  simp only[b8]at hloop;simp only[hloop,aq,ax,bf,bt,aC,aj,caB]
theorem Nb {fn:D} (hfn:fn.toList.length≤maxLen):∀(N:Nat) (l:D),Conf PG 36 l->l.size<N->E8 N [l,fn]=some [.bool (caB fn N l)]:=by
 intro N
 induction N with
 |zero=>intro l _ h;omega
 |succ N ih=>
  intro l hc hs;rw[F121_s,Xx,Cw];have hlen:=(ce s36 hc).1
  have hloop:=zO (st:=uZ (E8 N) [l,fn]) (n:=l.toList.length) (p:=fun i=> !((!decide (ah (aa (l.toList.getD i .other) 0)=5)||dW fn (aB (aa (l.toList.getD i .other) 2)))&&(aW (l.toList.getD i .other)).all (caB fn N))) (r0:=[D.int 0]) (r1:=[.int 1]) hlen
   (by rw[zJ,aL];simp[az]) (fun i hi=>by
    have hx:l.toList.getD i .other∈l.toList:=by rw[getD_lt hi];exact b7 hi
    have hgi:ay l (i:Int)=l.toList.getD i .other:=bg _ _;obtain⟨h1,h2⟩:=bZ hc hx;generalize l.toList.getD i .other=s at *;have k4:aa s 4∈aW s:=by simp[aW]
    have k5:aa s 5∈aW s:=by simp[aW]
    have e4:=ih _ (ba h1 k4).1 (by have:=(ba h1 k4).2;omega)
    have e5:=ih _ (ba h1 k5).1 (by have:=(ba h1 k5).2;omega)
    obtain⟨j,_,j2,j3,_⟩:=u7 hfn (aB (aa s 2));have h6:Conf PG 185 (aa s 6):=by rw[bx];exact bi Fi h1
    have hin:=cz (st:=uY (E8 N) [l,fn, .int (i:Int),s]) (l:=aa s 6) (c:=fun x=>(E8 N [x,fn]).map fun r=>[.bool (bU (aQ (r.getD 0 .other)))]) (p:=fun x=> !caB fn N x) (r1:=fun _=>[.int 1]) (r0:=[.int 0])
     (fun i=>by
      rw[MR];cases hq:E8 N [ay (aa s 6) i,fn]with
      |none=>simp[gZ]
      |some r=>simp[aq,ax,aK]) (ce s185 h6).1 (fun x hx=>by
      have hk:x∈aW s:=by simp[aW,hx]
      obtain⟨k1,k2⟩:=ba h1 hk
      rw[ih x k1 (by omega)];simp[aK,bI])
    have hall:(aa s 6).toList.all (caB fn N) = !((aa s 6).toList.any fun x=> !caB fn N x):=by rw[vm];simp
    have hj:decide (j<0) = !dW fn (aB (aa s 2)):=by rw[<- j3];by_cases h:0≤j<;>simp[h]<;>omega
    rw[zJ,aL,aZ hi,hgi,j2,e4,e5,Cv];simp only[az,show(i:Int)<(l.toList.length:Int)by omega,be,aj,aq,ax,bf,aC,aK,bI,bN,aD,nK,hj,aW,nk,hall]
    generalize caB fn N (aa s 4)=b4;generalize caB fn N (aa s 5)=b5;generalize dW fn (aB (aa s 2))=b2
    rcases hin with⟨c1,c2⟩|⟨_,c1,c2⟩<;>rw[c2]<;>by_cases h5:ah (aa s 0)=5<;>cases b4<;>cases b5<;>cases b2<;>simp[h5,c1,aq,ax,aC])
  rw[CC (p:=fun s=> !((!decide (ah (aa s 0)=5)||dW fn (aB (aa s 2)))&&(aW s).all (caB fn N)))]at hloop
  have hall:caB fn (N+1) l = !(l.toList.any fun s=> !((!decide (ah (aa s 0)=5)||dW fn (aB (aa s 2)))&&(aW s).all (caB fn N))):=by
   simp only[caB];rw[vm];simp
  rw[hall];simp only[hloop];cases (l.toList.any fun s=> !((!decide (ah (aa s 0)=5)||dW fn (aB (aa s 2)))&&(aW s).all (caB fn N)))<;>simp[aq,ax,aC,aD]
end
end Go.Proofs.YtiojjmlccehpoaaGreat
