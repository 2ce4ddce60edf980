/-
  Plain laws: what is not known, unveiled; loops over numbers.
-/
import Derived.Test.YtiojjmlccehpoaaGreatAmS
import Derived.Test.YtiojjmlccehpoaaGreatM1
import Derived.Test.YtiojjmlccehpoaaGreatM2
set_option linter.unusedSimpArgs false
set_option linter.unusedVariables false
namespace Go.AM
theorem aq (r:List D):ao (some r)=true:=by rw[xE];rfl
theorem ia:ao none=false:=by rw[xE];rfl
theorem aw (r:List D) (j:Nat):ab (some r) j=r.getD j .other:=by rw[Ew];rfl
theorem aF (n:Int):ah (.int n)=n:=by rw[jg];rfl
theorem aL (b:Bool):aT (.bool b)=b:=by rw[kp];rfl
theorem lE (s:ByteArray):aC (.str s)=s:=by rw[nh];rfl
theorem ay (a b:Int):ae .lss a b=decide (a<b):=by rw[bY];rfl
theorem cC (a b:Int):ae .leq a b=decide (a≤b):=by rw[bY];rfl
theorem ck (a b:Int):ae .gtr a b=decide (b<a):=by rw[bY];rfl
theorem bB (a b:Int):ae .geq a b=decide (b≤a):=by rw[bY];rfl
theorem aB (a b:Int):ae .eql a b=decide (a=b):=by rw[bY];simp only[eo];cases h:decide (a=b)<;>simp_all
theorem cp (a b:Int):ae .neq a b = !decide (a=b):=by rw[bY];simp only[eo,bne];cases h:decide (a=b)<;>simp_all
theorem bR (c a b:Bool):az c a b=bif c then a else b:=by rw[pu]
theorem bO (a:Bool):b8 a = !a:=by rw[uV]
theorem aK (d:D):ac d=(d.toList.length:Int):=by rw[eN];rfl
theorem Oj (d:D) (i:Int):aS d i=(decide (0≤i)&&decide (i<d.toList.length)):=by rw[nj];rfl
theorem bl (d:D) (i:Nat):ax d (i:Int)=d.toList.getD i .other:=by rw[ni];simp[D.get]
theorem aX {d:D} {i:Nat} (h:i<d.toList.length):aS d (i:Int)=true:=by rw[Oj];simp;omega
theorem getD_lt {xs:List D} {i:Nat} (h:i<xs.length):xs.getD i .other=xs[i]:=by simp[List.getD,h]
theorem bg {i:Nat} (h:i<9223372036854775807):aM .add .i64 (i:Int) 1=((i+1:Nat):Int):=by
 rw[xD (by omega) (by omega)];omega
theorem cA {st:List D->Option (Sum (List D) (List D))} {l:D} {c:D->Option (List D)} {p:D->Bool} {r1:Int->List D} {r0:List D}
 (hst:∀i:Int,st [.int i]=bif ae .lss i (ac l)then bif aS l i then bif ao (c (ax l i))then bif aT (ab (c (ax l i)) 0)then some (.inr (r1 i))else some (.inl [.int (aM .add .i64 i 1)])else none else none else some (.inr r0))
 (hl:l.toList.length≤maxLen) (hc:∀x∈l.toList,c x=some [.bool (p x)]):
 (loW st [.int 0]=some r0∧l.toList.any p=false)∨∃i:Nat,loW st [.int 0]=some (r1 i)∧l.toList.any p=true:=by
 unfold maxLen at hl;have key:∀k i:Nat,i+k=l.toList.length->(loW st [.int i]=some r0∧(l.toList.drop i).any p=false)∨∃j:Nat,loW st [.int i]=some (r1 j)∧(l.toList.drop i).any p=true:=by
  intro k
  induction k with
  |zero=>
   intro i hi
   left
   rw[bn,hst,ay,aK,iU (by omega)]
   simp[show¬((i:Int)<l.toList.length)by omega]
  |succ k ih=>
   intro i hi;have hlt:i<l.toList.length:=by omega
   rw[bn,hst,ay,aK,aX hlt,bl,getD_lt hlt,hc _ (b7 hlt),iT hlt];simp only[show((i:Int)<l.toList.length)by omega,ba,ap,aq,aw,aU,aL,List.any_cons]
   cases hp:p l.toList[i]with
   |true=>exact .inr ⟨i,rfl,by simp⟩
   |false=>
    simp only[aJ,lP];rw[bg (by omega)]
    exact ih (i+1) (by omega)
 have:=key l.toList.length 0 (by omega)
 simpa using this
theorem eQ {d:D} {j:Nat} {x:D} (h:x∈(d.fld j).toList):x.size<d.size:=by
 cases d with
 |agg xs=>
  simp only[D.fld,List.getD]at h;cases hx:xs[j]? with
  |none=>rw[hx]at h;simp[D.toList]at h
  |some y=>
   rw[hx]at h;simp only[j5]at h;have h1:=kE hx;cases y with
   |list ys=>
    simp only[D.toList]at h;obtain⟨i,hi⟩:=sW h;have h2:=kE hi;simp only[D.size]at h1 ⊢;omega
   |_=>simp[D.toList]at h
 |_=>simp[D.fld,D.toList]at h
end Go.AM
namespace Go.Proofs.YtiojjmlccehpoaaGreat
open Go Go.AM
theorem Do {s:ByteArray} {i:Nat} (h:(s.get! i).toNat<128):(Utf8.decode s i)=((s.get! i).toNat,1):=by
 unfold Utf8.decode;simp[h]
theorem Uq {s:ByteArray} {i:Nat} (h:¬(s.get! i).toNat<128):128≤(Utf8.decode s i).1:=by
 unfold Utf8.decode;simp only[lQ,h,bb,Utf8.runeError]
 repeat' split
 all_goals simp_all
 all_goals omega
def okI (i:Nat) (r:Int):Bool:=(decide (97≤r)&&decide (r≤122))||(decide (65≤r)&&decide (r≤90))||decide (r=95)||decide (r=46)||(!(decide ((i:Int)=0)) && !(decide (r<48)) && !(decide (57<r)))
theorem Ol {i:Nat} {r:Int} (h:128≤r):okI i r=false:=by
 unfold okI;simp only[show¬r≤122 by omega,show¬r≤90 by omega,show¬r=95 by omega,show¬r=46 by omega,show 57<r by omega,bi,ba,Bool.and_false,Bool.or_false,bS]
theorem cnd (i:Nat) (r:Int):az (b8 (az (az (az (az (ae BinOp.geq r 97) (ae BinOp.leq r 122) Bool.false) Bool.true (az (ae BinOp.geq r 65) (ae BinOp.leq r 90) Bool.false)) Bool.true (ae BinOp.eql r 95)) Bool.true (ae BinOp.eql r 46))) (az (az (ae BinOp.eql (i:Int) 0) Bool.true (ae BinOp.lss r 48)) Bool.true (ae BinOp.gtr r 57)) Bool.false = !(okI i r):=by
 simp only[bR,bO,bB,cC,aB,ay,ck,okI];generalize decide (97≤r)=a1;generalize decide (r≤122)=a2;generalize decide (65≤r)=a3;generalize decide (r≤90)=a4;generalize decide (r=95)=a5;generalize decide (r=46)=a6;generalize decide ((i:Int)=0)=a7;generalize decide (r<48)=a8;generalize decide (57<r)=a9;revert a1 a2 a3 a4 a5 a6 a7 a8 a9
 decide
def byt (s:ByteArray) (i:Nat):Int:=(s.data.toList.getD i 0).toNat
theorem F9 {s:ByteArray} {i:Nat} (h:i<s.size):((s.get! i).toNat:Int)=byt s i:=by
 have h1:i<s.data.toList.length:=by simpa using h
 have h2:i<s.data.size:=h;unfold byt;cases s with|mk bs=>simp only[ByteArray.get!,List.getD,getElem!_pos,h2];simp[h2]
theorem idxS {s:ByteArray} {i:Nat}:wm s (i:Int)=byt s i:=by rw[Hf];simp[B1,byt,ByteArray.toList_eq]
theorem inbS {s:ByteArray} {i:Nat} (h:i<s.size):wn s (i:Int)=true:=by rw[Hg];simp only[Pn];simp[h]
theorem Z9 (s:ByteArray):fF s=(s.size:Int):=by rw[o8]
def okF (s:ByteArray):Nat->Nat->Bool
 |_,0=>true
 |i,k+1=>okI i (byt s i)&&okF s (i+1) k
theorem loop139 {s:ByteArray}:∀(k i:Nat),i+k=s.size->∃m,loW (ve [.str s, .str s]) [.int i]=some [.int (bif okF s i k then 0 else 1),m]:=by
 intro k
 induction k with
 |zero=>
  intro i hi;rw[bn,yB,Z9,ay];simp only[show¬((i:Int)<s.size)by omega,bi,aJ,ap,okF]
  exact⟨_,rfl⟩
 |succ k ih=>
  intro i hi;have hlt:i<s.size:=by omega
  rw[bn,yB,Z9,ay,cnd];simp only[show((i:Int)<s.size)by omega,ba,ap,okF]
  have hr:okI i (G3 s i)=okI i (byt s i):=by
   rw[G3,am];simp only[eY];by_cases h:(s.get! i).toNat<128
   ·rw[Do h,F9 hlt]
   ·rw[Ol (by have:=Uq h;omega),Ol (by rw[<- F9 hlt];omega)]
  rw[hr];cases ho:okI i (byt s i)with
  |false=>simp only[df,ap,Bool.false_and,aJ];exact⟨_,rfl⟩
  |true=>
   have hb:(s.get! i).toNat<128:=by
    by_cases h:(s.get! i).toNat<128
    ·exact h
    ·rw[Ol (by rw[<- F9 hlt];omega)]at ho;cases ho
   have hw:fG true (qrw s i) i=((i+1:Nat):Int):=by
    rw[eC,qrw,am];simp only[ap,eY,Do hb];omega
   simp only[bS,aJ,l6,hw];exact ih (i+1) (by omega)
theorem loop164 {s:ByteArray} (hs:s.size≤maxLen):∀(k i:Nat),i+k=s.size->loW (vf [.str s]) [.int i]=some [.int (bif okF s i k then 0 else 1)]:=by
 unfold maxLen at hs;intro k
 induction k with
 |zero=>
  intro i hi;rw[bn,yD,Z9,ay];simp only[show¬((i:Int)<s.size)by omega,bi,aJ,ap,okF]
 |succ k ih=>
  intro i hi;have hlt:i<s.size:=by omega
  rw[bn,yD,Z9,ay,cnd,idxS,inbS hlt];simp only[show((i:Int)<s.size)by omega,ba,ap,okF]
  cases ho:okI i (byt s i)with
  |false=>simp only[df,ap,Bool.false_and,aJ]
  |true=>
   simp only[bS,aJ,l6];rw[bg (by omega)]
   exact ih (i+1) (by omega)
def Kn:List (List UInt8)->List UInt8
 | []=>[]
 |w::ws=>w++32::Kn ws
theorem Ko:∀(s w r:List UInt8),32 ∉ s->32 ∉ w->(s ++ [32]).isPrefixOf (w++32::r)=(w==s)
 | [],[],r,_,_=>by simp[List.isPrefixOf]
 | [],x::w,r,_,hw=>by
   have:¬(32:UInt8)=x:=fun e=>hw (by simp[e])
   simp[List.isPrefixOf,this]
 |y::s,[],r,hs,_=>by
  have:¬y=(32:UInt8):=fun e=>hs (by simp[e])
  simp[List.isPrefixOf,this]
 |y::s,x::w,r,hs,hw=>by
  have ih:=Ko s w r (fun h=>hs (by simp[h])) (fun h=>hw (by simp[h]))
  simp only[fV,List.isPrefixOf,ih];by_cases h:x=y
  ·subst h;simp
  ·rw[show(y==x)=false from beq_false_of_ne fun e=>h e.symm]
   symm
   simp[h]
theorem Kp:∀(w r t:List UInt8),32 ∉ w->oF (w++r) (32::t)=oF r (32::t)
 | [],r,t,_=>rfl
 |x::w,r,t,hw=>by
  have h:¬(32:UInt8)=x:=fun e=>hw (by simp[e])
  have ih:=Kp w r t (fun h=>hw (by simp[h]))
  rw[fV,oF,ih];simp[List.isPrefixOf,h]
theorem Dp (s:List UInt8) (hs:32 ∉ s):∀ws:List (List UInt8),(∀w∈ws,32 ∉ w)->oF (32::Kn ws) (32::(s ++ [32]))=ws.any (· == s)
 | [],_=>by
   cases s with
   |nil=>rfl
   |cons y s=>simp[Kn,oF,List.isPrefixOf]
 |w::ws,h=>by
  have ih:=Dp s hs ws fun x hx=>h x (by simp[hx])
  have hw:=h w (by simp)
  rw[oF,Kn,Kp w _ _ hw,ih];simp only[List.isPrefixOf,beq_self_eq_true,l6,Ko s w _ hs hw,List.any_cons]
theorem Rk {s:ByteArray}:∀(k i:Nat),okF s i k=true->∀j,i≤j->j<i+k->okI j (byt s j)=true
 |0,i,_,j,h1,h2=>by omega
 |k+1,i,h,j,h1,h2=>by
  simp only[okF,bu]at h;by_cases e:j=i
  ·subst e;exact h.1
  ·exact Rk k (i+1) h.2 j (by omega) (by omega)
theorem okF_no32 {s:ByteArray} (h:okF s 0 s.size=true):32 ∉ s.data.toList:=by
 intro hm;obtain⟨j,hj⟩:=sW hm;have hlt:j<s.data.toList.length:=(cY.1 hj).1;have hb:byt s j=32:=by unfold byt;simp[List.getD,hj]
 have h1:=Rk s.size 0 h j (by omega) (by simpa using hlt)
 rw[hb]at h1;revert h1;simp only[okI,ba,bi,show¬(97:Int)≤32 by omega,show¬(65:Int)≤32 by omega,show¬(32:Int)=95 by omega,show¬(32:Int)=46 by omega,show(32:Int)<48 by omega]
 simp
theorem wordsD:∃ws,q217 []=some [.list ws]∧ws.length≤100∧(∀w∈ws,32 ∉ (aC w).data.toList)∧
 (ByteArray.mk #[32,98,114,101,97,107,32,99,97,108,108,32,99,97,115,101,32,99,111,110,116,105,110,117,101,32,100,97,116,97,32,101,108,115,101,32,101,120,101,99,32,102,117,110,99,32,103,111,116,111,32,104,97,108,116,32,105,102,32,105,110,32,108,111,111,112,32,111,117,116,32,114,101,116,117,114,110,32,115,119,105,116,99,104,32,118,97,114,32,119,104,105,108,101,32,119,114,105,116,101,32,108,111,97,100,49,32,108,111,97,100,50,32,108,111,97,100,52,32,115,101,120,116,49,32,115,101,120,116,50,32,115,116,111,114,101,49,32,115,116,111,114,101,50,32,115,116,111,114,101,52,32]).data.toList=32::Kn (ws.map fun d=>(aC d).data.toList):=by
 refine⟨_,by rw[Qh,F217_eq],by decide,?_,?_⟩
 ·intro w hw;simp only[cU,j6,f7]at hw;rcases hw with rfl|rfl|rfl|rfl|rfl|rfl|rfl|rfl|rfl|rfl|rfl|rfl|rfl|rfl|rfl|rfl|rfl|rfl|rfl|rfl|rfl|rfl|rfl|rfl|rfl|rfl|rfl<;>rw[lE]<;>decide
 ·simp only[bW,gZ,lE];decide
theorem d9 (a b:ByteArray):cD .eql a b=(a.data.toList==b.data.toList):=by rw[o7];simp only[wl,ByteArray.toList_eq]
theorem AC (a b:ByteArray):cD .neq a b = !(a.data.toList==b.data.toList):=by rw[o7];simp only[wl,ByteArray.toList_eq]
theorem Ur {s:ByteArray} {ws:List D} (hl:ws.length≤100):vg [.str s, .list ws] [.int 0]=some [.int (if ws.any (fun d=>(aC d).data.toList==s.data.toList)then 1 else 0)]:=by
 rw[yF]
 have hloop:=cA (st:=pP [.str s, .list ws]) (l:= .list ws) (c:=fun x=>some [.bool (cD .eql (aC x) s)]) (p:=fun d=>(aC d).data.toList==s.data.toList) (r1:=fun _=>[.int 1]) (r0:=[.int 0])
  (fun i=>by rw[Iv];simp only[aq,aw,aU,aL,ap]) (by unfold maxLen;simp only[D.toList];omega) (fun x _=>by rw[d9])
 simp only[D.toList]at hloop;rcases hloop with⟨h1,h2⟩|⟨i,h1,h2⟩
 ·simp only[h1,h2];rfl
 ·simp only[h1,h2];rfl
theorem Us {s:ByteArray} (hs:s.size≤maxLen):∃b,BO [.str s]=some [.bool b]∧EM [.str s]=some [.bool b]:=by
 obtain⟨m,h1⟩:=loop139 (s:=s) s.size 0 (by omega)
 have h2:=loop164 hs s.size 0 (by omega)
 simp only[bV]at h1 h2;obtain⟨ws,w1,w2,w3,w4⟩:=wordsD;have e1:EJ [.str s, .str s] [.int 0]=some [.int (bif okF s 0 s.size then 0 else 1),m]:=by rw[CJ];exact h1
 have e2:EK [.str s] [.int 0]=some [.int (bif okF s 0 s.size then 0 else 1)]:=by rw[CK];exact h2
 rw[Qg,F139_eq,Qi,F164_eq,e1,e2,w1];simp only[aq,aw,aU,aF,ap,Ur w2];cases ho:okF s 0 s.size with
 |false=>exact⟨false,by simp[aB],by simp[aB]⟩
 |true=>
  simp only[aB,ba,ap,bR,cC,ck,Z9,AC];have hn:=okF_no32 ho;have hh:qhas (ByteArray.mk #[32,98,114,101,97,107,32,99,97,108,108,32,99,97,115,101,32,99,111,110,116,105,110,117,101,32,100,97,116,97,32,101,108,115,101,32,101,120,101,99,32,102,117,110,99,32,103,111,116,111,32,104,97,108,116,32,105,102,32,105,110,32,108,111,111,112,32,111,117,116,32,114,101,116,117,114,110,32,115,119,105,116,99,104,32,118,97,114,32,119,104,105,108,101,32,119,114,105,116,101,32,108,111,97,100,49,32,108,111,97,100,50,32,108,111,97,100,52,32,115,101,120,116,49,32,115,101,120,116,50,32,115,116,111,114,101,49,32,115,116,111,114,101,50,32,115,116,111,114,101,52,32]) (Lz (Lz (ByteArray.mk #[32]) s) (ByteArray.mk #[32]))=ws.any (fun d=>(aC d).data.toList==s.data.toList):=by
   rw[Qe,Ed];have ht:((ByteArray.mk #[32]++s)++ByteArray.mk #[32]).data.toList=32::(s.data.toList ++ [32]):=by simp
   show oF _ (((ByteArray.mk #[32]++s)++ByteArray.mk #[32]).data.toList)=_
   rw[w4,ht,Dp _ hn _ (fun w hw=>by obtain⟨d,hd,rfl⟩:=iv.1 hw;exact w3 d hd),List.any_map]
   rfl
  simp only[hh];have hz:(s.data.toList==(ByteArray.mk #[]).data.toList)=decide (s.size=0):=by
   rw[fx];simp only[fZ,cn]
   show s.data.toList = []↔s.data.size=0
   rw[<- Array.length_toList,gv]
  rw[hz];have hcat:decide (s.size=0)=false->decide ((s.size:Int)≤32)=true->(cz (jE (ByteArray.mk #[32]) s) (jE (Lz (ByteArray.mk #[32]) s) (ByteArray.mk #[32])))=true:=by
   intro _ h;have h:(s.size:Int)≤32:=by simpa using h
   rw[la,Cc,Ed];simp only[bu,cn];have:(ByteArray.mk #[32]++s).size=1+s.size:=by rw[ByteArray.size_append];rfl
   rw[this];have:(ByteArray.mk #[32]).size=1:=rfl;omega
  refine⟨!(ws.any (fun d=>(aC d).data.toList==s.data.toList))&&(!(decide (s.size=0))&&decide ((s.size:Int)≤32)),?_,?_⟩
  ·cases e1:decide (s.size=0)with
   |true=>simp
   |false=>
    cases e2:decide ((s.size:Int)≤32)with
    |false=>simp
    |true=>rw[hcat e1 e2];simp[bO]
  ·have h0:∀n:Nat,decide (0<(n:Int)) = !(decide (n=0)):=fun n=>by
    rcases Nat.eq_zero_or_pos n with rfl|h
    ·rfl
    ·simp only[show 0<(n:Int)by omega,show¬n=0 by omega,ba,bi,df]
   rw[h0 s.size];cases ws.any (fun d=>(aC d).data.toList==s.data.toList)with
   |true=>simp
   |false=>
    generalize decide (s.size=0)=z;generalize decide ((s.size:Int)≤32)=y;cases z<;>cases y<;>simp
end Go.Proofs.YtiojjmlccehpoaaGreat
namespace Go.Proofs.YtiojjmlccehpoaaGreat
noncomputable section
open Go Go.AM
theorem lF {T e:TypeId} {j F:Nat} {d:D} (hT:dr T j F=true) (hF:mJ F e=true) (h:Conf PG T d):(d.fld j).toList.length≤maxLen∧∀x∈(d.fld j).toList,Conf PG e x:=by
 have h1:=xC hT (qconf_iff.2 h);have h2:=qconfL_iff.1 (Cu hF h1);rw[bA]at h2;exact⟨h2.1,h2.2.2⟩
theorem Rl:dr 25 4 23=true:=by kernel_rfl
theorem s23:mJ 23 25=true:=by kernel_rfl
theorem f25_2:dr 25 2 9=true:=by kernel_rfl
def Ga (T:TypeId):Bool:=match PG.underlying T with|some .string=>true|_=>false
theorem str9:Ga 9=true:=by kernel_rfl
theorem eF {d:D} (h:Conf PG 9 d):(aC d).size≤maxLen:=by
 have ht:=str9;unfold Ga at ht;cases hu:PG.underlying 9 with
 |none=>rw[hu]at ht;cases ht
 |some td=>
  rw[hu]at ht;cases h with
  |str h1 hl=>rw[lE];exact hl
  |slice h1 hl hd=>rw[h1]at hu;cases hu;cases ht
  |struct h1=>rw[h1]at hu;cases hu;cases ht
  |bool h1=>rw[h1]at hu;cases hu;cases ht
  |int h1=>rw[h1]at hu;cases hu;cases ht
  |array h1=>rw[h1]at hu;cases hu;cases ht
  |other h1=>unfold dn at h1;rw[hu]at h1;cases td<;>simp_all
def opd (d:D):List D:=(d.fld 4).toList
theorem mU {d x:D} (h:x∈opd d):x.size<d.size:=eQ h
theorem Kq {Q:uAC} {l:D} {n:Int} {p:D->Bool} (hl:l.toList.length≤maxLen) (hc:∀x∈l.toList,Ti Q [x, .int n]=some [.bool (p x)]):mN Q [l, .int n]=some [.bool (l.toList.any p)]:=by
 rw[tO,IB,tM,Iz,nN];rcases cA (st:=ju Q [l, .int n, .int (ac l)]) (c:=fun x=>Ti Q [x, .int n]) (r1:=fun i=>[.int 1, .int i]) (r0:=[.int 0]) (fun i=>yH Q l n (ac l) i) hl hc with⟨h1,h2⟩|⟨i,h1,h2⟩
 ·simp[h1,h2,aq,aw,aF,aB,bB]
 ·simp[h1,h2,aq,aw,aF,aB,bB]
theorem Kr {Q:uAC} {l:D} {p:D->Bool} (hl:l.toList.length≤maxLen) (hc:∀x∈l.toList,Tj Q [x]=some [.bool (p x)]):pS Q [l]=some [.bool (l.toList.any p)]:=by
 rw[tQ,IF,tP,ID,nO];rcases cA (st:=jv Q [l, .int (ac l)]) (c:=fun x=>Tj Q [x]) (r1:=fun i=>[.int 1, .int i]) (r0:=[.int 0]) (fun i=>yK Q l (ac l) i) hl hc with⟨h1,h2⟩|⟨i,h1,h2⟩
 ·simp[h1,h2,aq,aw,aF,aB,bB]
 ·simp[h1,h2,aq,aw,aF,aB,bB]
theorem Ks {Q:uAC} {l v:D} {p:D->Bool} (hl:l.toList.length≤maxLen) (hc:∀x∈l.toList,kI Q [x,v]=some [.bool (p x)]):pY Q [l,v]=some [.bool (l.toList.any p)]:=by
 rw[tW,I2,tV,I0,nQ];rcases cA (st:=jx Q [l,v, .int (ac l)]) (c:=fun x=>kI Q [x,v]) (r1:=fun i=>[.int 1, .int i]) (r0:=[.int 0]) (fun i=>yW Q l v (ac l) i) hl hc with⟨h1,h2⟩|⟨i,h1,h2⟩
 ·simp[h1,h2,aq,aw,aF,aB,bB]
 ·simp[h1,h2,aq,aw,aF,aB,bB]
def iK:Nat->D->Int->Bool
 |0,_,_=>false
 |N+1,d,n=>decide (n<1)||(d.fld 4).toList.any fun x=>iK N x (n-1)
theorem Ut:∀(N:Nat) (d:D) (n:Int),Conf PG 25 d->d.size<N-> -9223372036854775808≤n->n≤9223372036854775807->IH N [d, .int n]=some [.bool (iK N d n)]∧F85 N [d, .int n]=some [.bool (!iK N d n)]:=by
 intro N
 induction N with
 |zero=>intro d n _ h;omega
 |succ N ih=>
  intro d n hd hs h0 h1;obtain⟨hl,hx⟩:=lF Rl s23 hd;rw[F105_s,F85_s,Xh,Fb85_eq];by_cases hn:n<1
  ·simp[cC,bB,hn,bR,iK,show¬1≤n by omega,show n≤0 by omega]
  ·have hsub:aM .sub .i64 n 1=n-1:=fQ (by omega) (by omega)
   have hel:∀x∈(d.fld 4).toList,IH N [x, .int (n-1)]=some [.bool (iK N x (n-1))]∧F85 N [x, .int (n-1)]=some [.bool (!iK N x (n-1))]:=
    fun x hm=>ih x (n-1) (hx x hm) (by have:=eQ hm;omega) (by omega) (by omega)
   have h82:∀x∈(d.fld 4).toList,Ti (F85 N) [x, .int n]=some [.bool (iK N x (n-1))]:=fun x hm=>by
    rw[Qk,F138_eq,hsub,(hel x hm).2];simp[aq,aw,aL,bO]
   have hcon:=Kq (n:=n) hl h82;rw[CM,bA,hcon]
   have hloop:=cA (st:=vi (IH N) [.int n,d]) (l:=d.fld 4) (c:=fun x=>IH N [x, .int (n-1)]) (p:=fun x=>iK N x (n-1)) (r1:=fun _=>[.int 1]) (r0:=[.int 0])
    (fun i=>by rw[ML,hsub,bA]) hl (fun x hm=>(hel x hm).1)
   rcases hloop with⟨h3,h4⟩|⟨i,h3,h4⟩
   ·simp[h3,h4,cC,bB,hn,show 1≤n by omega,show¬n≤0 by omega,aq,aw,aF,aL,bO,aB,bR,iK]
   ·simp[h3,h4,cC,bB,hn,show 1≤n by omega,show¬n≤0 by omega,aq,aw,aF,aL,bO,aB,bR,iK]
def gK (s:ByteArray):Bool:=match BO [.str s]with|some [.bool b]=>b|_=>false
theorem eG {s:ByteArray} (hs:s.size≤maxLen):BO [.str s]=some [.bool (gK s)]∧EM [.str s]=some [.bool (gK s)]:=by
 obtain⟨b,h1,h2⟩:=Us hs;unfold gK;rw[h1,h2];exact⟨rfl,rfl⟩
def Rm (o n w z:Int) (e nm:Bool):Bool:=
 if o=1 then e&&(decide (w=0)&&decide (z=0))
 else if o=2 then nm&&(decide (n=0)&&(decide (w=0)&&decide (z=0)))
 else if 3≤o∧o≤15 then e&&(decide (n=0)&&(decide (w=0)&&decide (z=2)))
 else if o=16∨o=17 then e&&(decide (n=0)&&(decide (w=0)&&decide (z=1)))
 else if o=18 then e&&(decide (n=0)&&((decide (w=1)||decide (w=2)||decide (w=4))&&decide (z=1)))
 else if o=19 then e&&(decide (n=0)&&((decide (w=1)||decide (w=2))&&decide (z=1)))
 else false
def head (d:D):Bool:=Rm (ah (d.fld 0)) (ah (d.fld 1)) (ah (d.fld 3)) (ac (d.fld 4)) (cD .eql (aC (d.fld 2)) (ByteArray.mk #[])) (gK (aC (d.fld 2)))
def fmd:Nat->D->Bool
 |0,_=>false
 |N+1,d=>head d&&(opd d).all (fmd N)
theorem Gb:∀(N M:Nat) (d:D),d.size<N->d.size<M->fmd N d=fmd M d:=by
 intro N
 induction N with
 |zero=>intro M d h;omega
 |succ N ih=>
  intro M d h1 h2;cases M with
  |zero=>omega
  |succ M=>
   simp only[fmd]
   congr 1
   rw[fx];simp only[bX];constructor
   ·intro h x hx;have:=mU hx;rw[<- ih M x (by omega) (by omega)];exact h x hx
   ·intro h x hx;have:=mU hx;rw[ih M x (by omega) (by omega)];exact h x hx
theorem Dq (a b:ByteArray):cD .neq a b = !(cD .eql a b):=by rw[AC,d9]
theorem Uu (a:ByteArray):cD .eql a a=true:=by rw[d9];simp
theorem fmd_spec:∀(N:Nat) (d:D),Conf PG 25 d->d.size<N->F86 N [d]=some [.bool (fmd N d)]∧EV N [d]=some [.bool (fmd N d)]:=by
 intro N
 induction N with
 |zero=>intro d _ h;omega
 |succ N ih=>
  intro d hd hs;obtain⟨hl,hx⟩:=lF Rl s23 hd;have hel:∀x∈(d.fld 4).toList,F86 N [x]=some [.bool (fmd N x)]∧EV N [x]=some [.bool (fmd N x)]:=fun x hm=>ih x (hx x hm) (by have:=eQ hm;omega)
  have h85:∀x∈(d.fld 4).toList,Tj (F86 N) [x]=some [.bool (!fmd N x)]:=fun x hm=>by
   rw[Qm,F140_eq,(hel x hm).1];simp[aq,aw,aL,bO]
  have hcon:=Kr hl h85;have hs2:(aC (d.fld 2)).size≤maxLen:=by
   have:=xC f25_2 (qconf_iff.2 hd);rw[bA]at this;exact eF (qconf_iff.1 this)
  obtain⟨n1,n2⟩:=eG hs2;rw[F86_s,F106_s,Fb86_eq,Xl];rw[yO,bA,hcon,n1,n2]
  have hloop:=cA (st:=pT (EV N) [d]) (l:=d.fld 4) (c:=fun x=>(EV N [x]).map fun r=>[.bool (b8 (aT (r.getD 0 .other)))]) (p:=fun x=> !fmd N x) (r1:=fun _=>[.int 1]) (r0:=[.int 0])
   (fun i=>by
    rw[IJ,bA];cases hq:EV N [ax (d.fld 4) i]with
    |none=>simp[ia]
    |some r=>simp[aq,aw,aL]) hl (fun x hm=>by
    rw[(hel x hm).2]
    simp[aL,bO])
  have hall:(opd d).all (fmd N) = !((d.fld 4).toList.any fun x=> !fmd N x):=by
   unfold opd;rw[wh];simp
  simp only[fmd,hall,head];generalize ((d.fld 4).toList.any fun x=> !fmd N x)=an at *
  simp only[aq,aw,aU,aL,bO,aB,cp,bB,cC,bR,ba,ap,Dq,Uu];generalize gK (aC (d.fld 2))=nm;generalize cD .eql (aC (d.fld 2)) (ByteArray.mk #[])=e;generalize ah (d.fld 0)=o;generalize ah (d.fld 1)=n;generalize ah (d.fld 3)=w;generalize ac (d.fld 4)=z;unfold Rm;rcases hloop with⟨h3,rfl⟩|⟨i,h3,rfl⟩
  ·simp only[h3,aq,aw,aU,aF,ba,ap,nZ];by_cases e1:o=1
   ·subst e1;cases e<;>cases nm<;>simp<;>grind
   by_cases e2:o=2
   ·subst e2;cases e<;>cases nm<;>simp<;>grind
   by_cases e16:o=16
   ·subst e16;cases e<;>cases nm<;>simp<;>grind
   by_cases e17:o=17
   ·subst e17;cases e<;>cases nm<;>simp<;>grind
   by_cases e18:o=18
   ·subst e18;cases e<;>cases nm<;>simp<;>grind
   by_cases e19:o=19
   ·subst e19;cases e<;>cases nm<;>simp<;>grind
   cases e<;>cases nm<;>simp[e1,e2,e16,e17,e18,e19]<;>grind
  ·simp only[h3,aq,aw,aU,aF,ba,ap,nZ];by_cases e1:o=1
   ·subst e1;cases e<;>cases nm<;>simp<;>grind
   by_cases e2:o=2
   ·subst e2;cases e<;>cases nm<;>simp<;>grind
   by_cases e16:o=16
   ·subst e16;cases e<;>cases nm<;>simp<;>grind
   by_cases e17:o=17
   ·subst e17;cases e<;>cases nm<;>simp<;>grind
   by_cases e18:o=18
   ·subst e18;cases e<;>cases nm<;>simp<;>grind
   by_cases e19:o=19
   ·subst e19;cases e<;>cases nm<;>simp<;>grind
   cases e<;>cases nm<;>simp[e1,e2,e16,e17,e18,e19]<;>grind
def jU (v:D) (s:ByteArray):Bool:=v.toList.any fun x=>(aC (aa x 0)).data.toList==s.data.toList
theorem kK {v:D} (hl:v.toList.length≤maxLen) (s:ByteArray):Tv [.str s,v]=some [.bool (jU v s)]∧MJ [v, .str s]=some [.bool (jU v s)]:=by
 refine⟨?_,?_⟩
 ·rw[Qt,F142_eq,tT,IV,tS,IT,nP];unfold jU
  rcases cA (st:=jw [v, .str s, .int (ac v)]) (c:=fun x=>pU [x, .str s]) (p:=fun x=>(aC (aa x 0)).data.toList==s.data.toList) (r1:=fun i=>[.int 1, .int i]) (r0:=[.int 0]) (fun i=>yR v s (ac v) i) hl
   (fun x _=>by rw[tR,IR,d9])with⟨h1,h2⟩|⟨i,h1,h2⟩
  ·rw[h2];simp[h1,aq,aw,aF,aB,bB,aL]
  ·rw[h2];simp[h1,aq,aw,aF,aB,bB,aL]
 ·rw[Qj,F165_eq,CL];unfold jU
  have hloop:=cA (st:=vh [v, .str s]) (l:=v) (c:=fun x=>some [.bool (cD .eql (aC (aa x 0)) s)]) (p:=fun x=>(aC (aa x 0)).data.toList==s.data.toList) (r1:=fun _=>[.int 1]) (r0:=[.int 0])
   (fun i=>by rw[MI];simp only[aq,aw,aU,aL,ap]) hl (fun x _=>by rw[d9])
  rcases hloop with⟨h1,h2⟩|⟨i,h1,h2⟩
  ·rw[h2];simp[h1,aq,aw,aF,aB,bB,aL]
  ·rw[h2];simp[h1,aq,aw,aF,aB,bB,aL]
def kn:Nat->D->D->Bool
 |0,_,_=>false
 |N+1,d,v=>if ah (d.fld 0)=2 then jU v (aC (d.fld 2))else(opd d).all fun x=>kn N x v
theorem head_var {d:D} (h:head d=true) (ho:ah (d.fld 0)=2):opd d = []:=by
 unfold head Rm at h;rw[ho]at h;simp only[show¬(2:Int)=1 by omega,bb,be,bu,cn]at h
 have:=h.2.2.2;rw[aK]at this;unfold opd;exact gv.1 (by omega)
theorem Om {v:D} (hv:v.toList.length≤maxLen):∀(N:Nat) (d:D),Conf PG 25 d->d.size<N->fmd N d=true->F87 N [d,v]=some [.bool (kn N d v)]∧EW N [d,v]=some [.bool (kn N d v)]:=by
 intro N
 induction N with
 |zero=>intro d _ h;omega
 |succ N ih=>
  intro d hd hs hf;obtain⟨hl,hx⟩:=lF Rl s23 hd;simp only[fmd,bu,bX]at hf;have hel:∀x∈(d.fld 4).toList,F87 N [x,v]=some [.bool (kn N x v)]∧EW N [x,v]=some [.bool (kn N x v)]:=fun x hm=>ih x (hx x hm) (by have:=eQ hm;omega) (hf.2 x hm)
  have h141:∀x∈(d.fld 4).toList,kI (F87 N) [x,v]=some [.bool (!kn N x v)]:=fun x hm=>by
   rw[tU,IY,(hel x hm).1];simp[aq,aw,aL,bO]
  have hcon:=Ks hl h141;obtain⟨a1,a2⟩:=kK hv (aC (d.fld 2));rw[F87_s,F107_s,Fb87_eq,Xp];rw[CN,bA,hcon,a1,a2];simp only[kn];by_cases ho:ah (d.fld 0)=2
  ·have he:=head_var hf.1 ho;unfold opd at he;rw[he];cases hb:jU v (aC (d.fld 2))<;>simp[ho,hb,aB,aq,aw,aL,bO]
  ·have hloop:=cA (st:=vj (EW N) [v,d]) (l:=d.fld 4) (c:=fun x=>(EW N [x,v]).map fun r=>[.bool (b8 (aT (r.getD 0 .other)))]) (p:=fun x=> !kn N x v) (r1:=fun _=>[.int 1]) (r0:=[.int 0])
    (fun i=>by
     rw[MQ,bA];cases hq:EW N [ax (d.fld 4) i,v]with
     |none=>simp[ia]
     |some r=>simp[aq,aw,aL]) hl (fun x hm=>by
     rw[(hel x hm).2]
     simp[aL,bO])
   have hall:((opd d).all fun x=>kn N x v) = !((d.fld 4).toList.any fun x=> !kn N x v):=by
    unfold opd;rw[wh];simp
   rw[hall];generalize ((d.fld 4).toList.any fun x=> !kn N x v)=an at *
   rcases hloop with⟨h3,rfl⟩|⟨i,h3,rfl⟩
   ·simp[h3,ho,aq,aw,aF,aB,aL,bO]
   ·simp[h3,ho,aq,aw,aF,aB,aL,bO]
def On (T:TypeId):Bool:=match PG.underlying T with|some (.int _)=>true|_=>false
def ed (T:TypeId):Nat:=match PG.underlying T with|some (.struct fs)=>fs.size|_=>0
theorem conf_int {T:TypeId} {d:D} (hT:On T=true) (h:Conf PG T d):∃n,d = .int n:=by
 unfold On at hT;cases hu:PG.underlying T with
 |none=>rw[hu]at hT;cases hT
 |some td=>
  rw[hu]at hT;cases h with
  |int h1=>exact⟨_,rfl⟩
  |str h1 hl=>rw[h1]at hu;cases hu;cases hT
  |slice h1 hl hd=>rw[h1]at hu;cases hu;cases hT
  |struct h1=>rw[h1]at hu;cases hu;cases hT
  |bool h1=>rw[h1]at hu;cases hu;cases hT
  |array h1=>rw[h1]at hu;cases hu;cases hT
  |other h1=>unfold dn at h1;rw[hu]at h1;cases td<;>simp_all
theorem kL {T:TypeId} {n:Nat} {d:D} (hT:ed T=n+1) (h:Conf PG T d):∃ds,d = .agg ds∧ds.length=n+1:=by
 unfold ed at hT;cases hu:PG.underlying T with
 |none=>rw[hu]at hT;cases hT
 |some td=>
  rw[hu]at hT;cases h with
  |struct h1 hl=>
   rw[h1]at hu;cases hu;rename_i fs ds hd;have ht':fs.size=n+1:=hT;exact⟨_,rfl,by rw[<- ht',hl]⟩
  |int h1=>rw[h1]at hu;cases hu;cases hT
  |str h1 hl=>rw[h1]at hu;cases hu;cases hT
  |slice h1 hl hd=>rw[h1]at hu;cases hu;cases hT
  |bool h1=>rw[h1]at hu;cases hu;cases hT
  |array h1=>rw[h1]at hu;cases hu;cases hT
  |other h1=>unfold dn at h1;rw[hu]at h1;cases td<;>simp_all
theorem bq {T F:TypeId} {j:Nat} {d:D} (hT:dr T j F=true) (h:Conf PG T d):Conf PG F (d.fld j):=by
 have:=xC hT (qconf_iff.2 h);rw[bA]at this;exact qconf_iff.1 this
theorem ca {T e:TypeId} {d:D} (hT:mJ T e=true) (h:Conf PG T d):d.toList.length≤maxLen∧(∃xs,d = .list xs)∧∀x∈d.toList,Conf PG e x:=qconfL_iff.1 (Cu hT (qconf_iff.2 h))
theorem int3:On 3=true:=by kernel_rfl
theorem len63:ed 63=4+1:=by kernel_rfl
theorem len267:ed 267=1+1:=by kernel_rfl
theorem f63_0:dr 63 0 3=true:=by kernel_rfl
theorem f63_1:dr 63 1 3=true:=by kernel_rfl
theorem f63_2:dr 63 2 3=true:=by kernel_rfl
theorem f63_3:dr 63 3 60=true:=by kernel_rfl
theorem f63_4:dr 63 4 61=true:=by kernel_rfl
theorem f267_1:dr 267 1 63=true:=by kernel_rfl
theorem s60:mJ 60 63=true:=by kernel_rfl
theorem s61:mJ 61 267=true:=by kernel_rfl
theorem ee (xs:List D) (j:Nat):aa (.agg xs) j=xs.getD j .other:=by rw[bA];rfl
def reT (d:D):D:= .agg [.int (ah (aa d 0)), .int (ah (aa d 1)), .int (ah (aa d 2)),aa d 3,aa d 4]
theorem eH {d:D} (h:Conf PG 63 d):reT d=d:=by
 obtain⟨ds,rfl,hl⟩:=kL len63 h
 match ds,hl with
 | [a,b,c,e,l],_=>
   obtain⟨n0,h0⟩:=conf_int int3 (bq f63_0 h);obtain⟨n1,h1⟩:=conf_int int3 (bq f63_1 h);obtain⟨n2,h2⟩:=conf_int int3 (bq f63_2 h);obtain rfl:a = .int n0:=h0;obtain rfl:b = .int n1:=h1;obtain rfl:c = .int n2:=h2;simp[reT,ee,aF]
theorem Kt {d:D} {j:Nat} (h:∃ds,d = .agg ds∧j<ds.length):(d.fld j).size<d.size:=by
 obtain⟨ds,rfl,hj⟩:=h;have:=kE (cq hj);simp only[D.fld,List.getD,cq hj,j5,D.size];omega
theorem fq {d:D} (h:Conf PG 63 d):(aa d 3).toList.length≤maxLen∧(aa d 4).toList.length≤maxLen∧(∀x∈(aa d 3).toList,Conf PG 63 x∧x.size<d.size)∧
 (∀x∈(aa d 4).toList,Conf PG 63 (aa x 1)∧(aa x 1).size<d.size):=by
 simp only[bA];obtain⟨a1,_,a2⟩:=ca s60 (bq f63_3 h);obtain⟨b1,_,b2⟩:=ca s61 (bq f63_4 h);refine⟨a1,b1,fun x hx=>⟨a2 x hx,eQ hx⟩,fun x hx=>⟨bq f267_1 (b2 x hx),?_⟩⟩
 obtain⟨ds,rfl,hl⟩:=kL len267 (b2 x hx);have:=eQ hx;have:=Kt (d:= .agg ds) (j:=1) ⟨ds,rfl,by omega⟩
 omega
theorem qt {R:Type} {st:List D->Option (Sum (List D) R)} {n:Nat} {p:Nat->Bool} {r0 r1:R} (hn:n≤maxLen) (h0:st [.int n]=some (.inr r0))
 (h1:∀i,i<n->st [.int (i:Int)]=if p i then some (.inr r1)else some (.inl [.int (aM .add .i64 (i:Int) 1)])):loW st [.int 0]=some (if(List.range n).any p then r1 else r0):=by
 unfold maxLen at hn;have key:∀k i:Nat,i+k=n->loW st [.int (i:Int)]=some (if(List.range' i k).any p then r1 else r0):=by
  intro k
  induction k with
  |zero=>intro i hi;obtain rfl:i=n:=by omega
         rw[bn,h0];rfl
  |succ k ih=>
   intro i hi;rw[bn,h1 i (by omega),List.range'_succ,List.any_cons]
   cases hp:p i with
   |true=>simp
   |false=>
    simp only[ip,bb,lP];rw[bg (by omega)]
    exact ih (i+1) (by omega)
 have:=key n 0 (by omega)
 rw[List.range_eq_range'];exact this
theorem Dr {l:List D} {p:D->Bool}:(List.range l.length).any (fun i=>p (l.getD i .other))=l.any p:=by
 rw[fx];simp only[qN,iX];constructor
 ·rintro⟨i,hi,h⟩;exact⟨_,b7 hi,by rwa [getD_lt hi]at h⟩
 ·rintro⟨x,hx,h⟩;obtain⟨i,hi,rfl⟩:=List.getElem_of_mem hx;exact⟨i,hi,by rwa [getD_lt hi]⟩
theorem Uv {S R:Type} {st st':S->Option (Sum S R)} {I:S->Prop} (h:∀s,I s->st s=st' s) (hI:∀s s',I s->st s=some (.inl s')->I s') {s:S} (hs:I s):loW st s=loW st' s:=by
 have key:∀n s,I s->loF st n s=loF st' n s:=by
  intro n
  induction n with
  |zero=>intro s _;rfl
  |succ n ih=>
   intro s hs;simp only[loF];rw[<- h s hs];cases hx:st s with
   |none=>rfl
   |some x=>
    cases x with
    |inl s'=>exact ih s' (hI s s' hs hx)
    |inr r=>rfl
 cases hx:loW st s with
 |some d=>
  obtain⟨n,hn⟩:=loW_iff.1 hx;exact(loW_iff.2 ⟨n,by rw[<- key n s hs];exact hn⟩).symm
 |none=>
  cases hy:loW st' s with
  |none=>rfl
  |some d=>
   obtain⟨n,hn⟩:=loW_iff.1 hy;rw[<- key n s hs]at hn;rw[loW_iff.2 ⟨n,hn⟩]at hx;cases hx
def kM:Nat->D->Int->Bool
 |0,_,_=>false
 |N+1,d,n=>decide (n<1)||((aa d 3).toList.any fun x=>kM N x (n-1))||((aa d 4).toList.any fun x=>kM N (aa x 1) (n-1))
theorem Oo:∀(N:Nat) (d:D) (n:Int),Conf PG 63 d->d.size<N-> -9223372036854775808≤n->n≤9223372036854775807->Fi N [d, .int n]=some [.bool (kM N d n)]∧zb N [d, .int n]=some [.bool (!kM N d n)]:=by
 intro N
 induction N with
 |zero=>intro d n _ h;omega
 |succ N ih=>
  intro d n hd hs h0 h1;obtain⟨l3,l4,e3,e4⟩:=fq hd;rw[F245_s,F237_s,X2,XI];by_cases hn:n<1
  ·simp[ay,hn,kM]
  ·have hsub:aM .sub .i64 n 1=n-1:=fQ (by omega) (by omega)
   have r1:=cA (st:=vn (Fi N) [.int n,d]) (l:=aa d 3) (c:=fun x=>Fi N [x, .int (n-1)]) (p:=fun x=>kM N x (n-1)) (r1:=fun _=>[.int 1]) (r0:=[.int 0])
    (fun i=>by rw[Na,hsub]) l3 (fun x hx=>(ih x (n-1) (e3 x hx).1 (by have:=(e3 x hx).2;omega) (by omega) (by omega)).1)
   have r2:=cA (st:=vk (zb N) [.int n,aa d 3, .int (ac (aa d 3)),d]) (l:=aa d 3) (c:=fun x=>(zb N [x, .int (n-1)]).map fun r=>[.bool (b8 (aT (r.getD 0 .other)))]) (p:=fun x=>kM N x (n-1)) (r1:=fun _=>[.int 1]) (r0:=[.int 0])
    (fun i=>by
     rw[MY,hsub];cases hq:zb N [ax (aa d 3) i, .int (n-1)]with
     |none=>simp[ia]
     |some r=>simp[aq,aw,aL]) l3 (fun x hx=>by
      rw[(ih x (n-1) (e3 x hx).1 (by have:=(e3 x hx).2;omega) (by omega) (by omega)).2]
      simp[aL,bO])
   have r3:=cA (st:=vo (Fi N) [.int n,d]) (l:=aa d 4) (c:=fun x=>Fi N [reT (aa x 1), .int (n-1)]) (p:=fun x=>kM N (aa x 1) (n-1)) (r1:=fun _=>[.int 1]) (r0:=[.int 0])
    (fun i=>by rw[Nc,hsub];rfl) l4 (fun x hx=>by
     rw[eH (e4 x hx).1];exact(ih _ (n-1) (e4 x hx).1 (by have:=(e4 x hx).2;omega) (by omega) (by omega)).1)
   have r4:=cA (st:=pZ (zb N) [.int n,aa d 4, .int (ac (aa d 4))]) (l:=aa d 4) (c:=fun x=>(zb N [reT (aa x 1), .int (n-1)]).map fun r=>[.bool (b8 (aT (r.getD 0 .other)))]) (p:=fun x=>kM N (aa x 1) (n-1)) (r1:=fun _=>[.int 1]) (r0:=[.int 0])
    (fun i=>by
     rw[I4,hsub];have hre:D.agg [D.int (ah (aa (aa (ax (aa d 4) i) 1) 0)),D.int (ah (aa (aa (ax (aa d 4) i) 1) 1)),D.int (ah (aa (aa (ax (aa d 4) i) 1) 2)),aa (aa (ax (aa d 4) i) 1) 3,aa (aa (ax (aa d 4) i) 1) 4]=reT (aa (ax (aa d 4) i) 1):=rfl;rw[hre];cases hq:zb N [reT (aa (ax (aa d 4) i) 1), .int (n-1)]with
     |none=>simp[ia]
     |some r=>simp[aq,aw,aL]) l4 (fun x hx=>by
      rw[eH (e4 x hx).1,(ih _ (n-1) (e4 x hx).1 (by have:=(e4 x hx).2;omega) (by omega) (by omega)).2]
      simp[aL,bO])
   rw[CS,CT,CQ,za];simp only[kM,ay,hn,bi,aJ,lP];generalize ((aa d 3).toList.any fun x=>kM N x (n-1))=a at *
   generalize ((aa d 4).toList.any fun x=>kM N (aa x 1) (n-1))=b at *
   rcases r1 with⟨a1,rfl⟩|⟨_,a1,rfl⟩<;>rcases r2 with⟨a2,h2⟩|⟨_,a2,h2⟩<;>first|(cases h2;done)|skip
   ·rcases r3 with⟨a3,rfl⟩|⟨_,a3,rfl⟩<;>rcases r4 with⟨a4,h4⟩|⟨_,a4,h4⟩<;>first|(cases h4;done)|skip
    ·simp[a1,a2,a3,a4,aq,aw,aF,aB]
    ·simp[a1,a2,a3,a4,aq,aw,aF,aB]
   ·simp[a1,a2,aq,aw,aF,aB]
end
end Go.Proofs.YtiojjmlccehpoaaGreat
namespace Go.Proofs.YtiojjmlccehpoaaGreat
open Go Go.AM
theorem fuel_two (l:List D):2≤aW l:=by
 induction l with
 |nil=>simp[aW]
 |cons x l ih=>simp only[aW];omega
theorem wt_ge (d:D):d.size≤d.wt∨∃m,d = .int m:=by
 cases d<;>simp[D.wt]
theorem cu {d:D} {l:List D} (h:d∈l):d.size<aW l:=by
 induction l with
 |nil=>cases h
 |cons x l ih=>
  simp only[aW];rcases cU.1 h with rfl|h
  ·have:=fuel_two l;rcases wt_ge d with h|⟨m,rfl⟩
   ·omega
   ·simp[D.size];omega
  ·have:=ih h;omega
noncomputable def Ku (l:List D) (i:Nat):Bool:=
 decide (0≤ah (aa (l.getD i .other) 0))&&decide (ah (aa (l.getD i .other) 0)<65536)&&(decide (i=0)||decide (ah (aa (l.getD (i-1) .other) 0)<ah (aa (l.getD i .other) 0)))
noncomputable def AD (d:D):Bool:=
 if ah (aa d 0)=0∨ah (aa d 0)=6 then decide (ah (aa d 1)=0)&&decide (ah (aa d 2)=0)&&decide ((aa d 3).toList.length=0)&&decide ((aa d 4).toList.length=0)
 else if ah (aa d 0)=1∨ah (aa d 0)=2 then(decide (ah (aa d 1)=1)||decide (ah (aa d 1)=2)||decide (ah (aa d 1)=4))&&decide (ah (aa d 2)=0)&&decide ((aa d 3).toList.length=0)&&decide ((aa d 4).toList.length=0)
 else if ah (aa d 0)=3 then decide (ah (aa d 1)=0)&&decide (ah (aa d 2)=0)&&decide ((aa d 3).toList.length=1)&&decide ((aa d 4).toList.length=0)
 else if ah (aa d 0)=4 then decide (ah (aa d 1)=0)&&(decide (1≤ah (aa d 2))&&decide (ah (aa d 2)≤65536))&&decide ((aa d 3).toList.length=1)&&decide ((aa d 4).toList.length=0)
 else if ah (aa d 0)=5 then decide (ah (aa d 1)=0)&&decide (ah (aa d 2)=0)&&decide ((aa d 3).toList.length=0)
 else false
noncomputable def fR:Nat->D->Bool
 |0,_=>false
 |N+1,d=>AD d&&(!(List.range (aa d 4).toList.length).any fun i=> !(Ku (aa d 4).toList i&&fR N (aa ((aa d 4).toList.getD i .other) 1)))&&(aa d 3).toList.all (fR N)
theorem ur {Q:uAC} {l:D} {f:D->Bool} (hl:l.toList.length≤maxLen) (hq:∀x∈l.toList,Q [reT (aa x 1)]=some [.bool (f (aa x 1))]):
 loW (vp Q [l]) [.int 0]=some (if(List.range l.toList.length).any (fun i=> !(Ku l.toList i&&f (aa (l.toList.getD i .other) 1)))then[.int 1]else[.int 0])∧
 ∀(e:Int) (d:D),aa d 4=l->loW (p5 Q [.int e,l, .int (ac l),d]) [.int 0]=some (if(List.range l.toList.length).any (fun i=> !(Ku l.toList i&&f (aa (l.toList.getD i .other) 1)))then[.int 1]else[.int 0]):=by
 have hre:∀i:Int,D.agg [D.int (ah (aa (aa (ax l i) 1) 0)),D.int (ah (aa (aa (ax l i) 1) 1)),D.int (ah (aa (aa (ax l i) 1) 2)),aa (aa (ax l i) 1) 3,aa (aa (ax l i) 1) 4]=reT (aa (ax l i) 1):=fun i=>rfl
 have hpred:∀i:Nat,0<i->i<l.toList.length->aM .sub .i64 (i:Int) 1=((i-1:Nat):Int):=fun i h h'=>by
  unfold maxLen at hl;rw[fQ (by omega) (by omega)];omega
 refine⟨qt hl ?_ ?_,fun e d hd=>qt hl ?_ ?_⟩
 ·rw[zi];simp[ay,aK]
 ·intro i hi;have hm:l.toList.getD i .other∈l.toList:=by rw[getD_lt hi];exact b7 hi
  rw[zi,hre,bl,hq _ hm,aK,aX hi];simp only[ay,bB,ck,cC,show(i:Int)<(l.toList.length:Int)by omega,ba,ap,aq,aw,aU,aL,bO,Ku]
  by_cases h0:i=0
  ·subst h0;simp only[bV,show¬(0:Int)<0 by omega,bi,aJ,ba,l7,Bool.and_true]
   generalize ah (aa (l.toList.getD 0 D.other) 0)=a;generalize f (aa (l.toList.getD 0 D.other) 1)=b;by_cases c1:a<0<;>by_cases c2:a<65536<;>cases b<;>simp[c1,c2,show(0≤a) = ¬(a<0)by simp,show(65536≤a) = ¬(a<65536)by simp]<;>omega
  ·have hm':(i-1)<l.toList.length:=by omega
   rw[hpred i (by omega) hi,aX hm',bl]
   simp only[show(0:Int)<(i:Int)by omega,ba,ap,h0,bi,lP]
   generalize ah (aa (l.toList.getD i D.other) 0)=a;generalize ah (aa (l.toList.getD (i-1) D.other) 0)=a';generalize f (aa (l.toList.getD i D.other) 1)=b;by_cases c1:a<0<;>by_cases c2:a<65536<;>by_cases c3:a'<a<;>cases b<;>simp[c1,c2,c3,show(0≤a) = ¬(a<0)by simp,show(65536≤a) = ¬(a<65536)by simp,show(a≤a') = ¬(a'<a)by simp]<;>omega
 ·rw[tX];simp[ay,aK]
 ·intro i hi;have hm:l.toList.getD i .other∈l.toList:=by rw[getD_lt hi];exact b7 hi
  rw[tX,hre,hd,bl,hq _ hm,aK,aX hi];simp only[ay,bB,ck,cC,show(i:Int)<(l.toList.length:Int)by omega,ba,ap,aq,aw,aU,aL,bO,Ku]
  by_cases h0:i=0
  ·subst h0;simp only[bV,show¬(0:Int)<0 by omega,bi,aJ,ba,l7,Bool.and_true]
   generalize ah (aa (l.toList.getD 0 D.other) 0)=a;generalize f (aa (l.toList.getD 0 D.other) 1)=b;by_cases c1:a<0<;>by_cases c2:a<65536<;>cases b<;>simp[c1,c2,show(0≤a) = ¬(a<0)by simp,show(65536≤a) = ¬(a<65536)by simp]<;>omega
  ·have hm':(i-1)<l.toList.length:=by omega
   rw[hpred i (by omega) hi,aX hm',bl]
   simp only[show(0:Int)<(i:Int)by omega,ba,ap,h0,bi,lP]
   generalize ah (aa (l.toList.getD i D.other) 0)=a;generalize ah (aa (l.toList.getD (i-1) D.other) 0)=a';generalize f (aa (l.toList.getD i D.other) 1)=b;by_cases c1:a<0<;>by_cases c2:a<65536<;>by_cases c3:a'<a<;>cases b<;>simp[c1,c2,c3,show(0≤a) = ¬(a<0)by simp,show(65536≤a) = ¬(a<65536)by simp,show(a≤a') = ¬(a'<a)by simp]<;>omega
theorem sF (d:D):ax d 0=d.toList.getD 0 .other:=bl d 0
theorem all_one {l:List D} {p:D->Bool} (h:l.length=1):l.all p=p (l.getD 0 .other):=by
 match l,h with
 | [x],_=>simp
theorem Uw:∀(N:Nat) (d:D),Conf PG 63 d->d.size<N->Jg N [d]=some [.bool (fR N d)]∧I6 N [d]=some [.bool (fR N d)]:=by
 intro N
 induction N with
 |zero=>intro d _ h;omega
 |succ N ih=>
  intro d hd hs;obtain⟨l3,l4,e3,e4⟩:=fq hd
  have hq:∀(F:Nat->uAC),(∀x,Conf PG 63 x->x.size<N->F N [x]=some [.bool (fR N x)])->∀x∈(aa d 4).toList,F N [reT (aa x 1)]=some [.bool (fR N (aa x 1))]:=fun F hF x hx=>by
   rw[eH (e4 x hx).1];exact hF _ (e4 x hx).1 (by have:=(e4 x hx).2;omega)
  have g1:=(ur l4 (hq Jg fun x h1 h2=>(ih x h1 h2).1)).1
  have g2:=fun e=>(ur l4 (hq I6 fun x h1 h2=>(ih x h1 h2).2)).2 e d rfl
  have h3:(aa d 3).toList.length=1->aS (aa d 3) 0=true∧Jg N [ax (aa d 3) 0]=some [.bool (fR N ((aa d 3).toList.getD 0 .other))]∧I6 N [ax (aa d 3) 0]=some [.bool (fR N ((aa d 3).toList.getD 0 .other))]:=fun h=>by
   have hm:(aa d 3).toList.getD 0 .other∈(aa d 3).toList:=by rw[getD_lt (by omega)];exact b7 _
   have:=ih _ (e3 _ hm).1 (by have:=(e3 _ hm).2;omega)
   exact⟨aX (i:=0) (by omega),by rw[sF];exact this.1,by rw[sF];exact this.2⟩
  rw[F246_s,F238_s,X8,XM,zc,QB,F262_eq,CU];simp only[g1,g2];simp only[bR,aB,cp,ay,cC,bB,ck,aK,bO,la,ba,ap,l6,nZ];simp only[fR,AD];clear g1 g2 hq ih;generalize hz:(List.range (aa d 4).toList.length).any (fun i=> !(Ku (aa d 4).toList i&&fR N (aa ((aa d 4).toList.getD i D.other) 1)))=z
  have hz0:(aa d 4).toList.length=0->z=false:=fun h=>by rw[<- hz,h];rfl
  have hall0:(aa d 3).toList.length=0->(aa d 3).toList.all (fR N)=true:=fun h=>by rw[gv.1 h];rfl
  have hall1:(aa d 3).toList.length=1->(aa d 3).toList.all (fR N)=fR N ((aa d 3).toList.getD 0 .other):=fun h=>all_one h
  clear hz e3 e4 l3 l4;generalize (aa d 3).toList.all (fR N)=al at *;generalize fR N ((aa d 3).toList.getD 0 .other)=el at *;generalize aS (aa d 3) 0=iq at *;generalize Jg N [ax (aa d 3) 0]=r1 at *;generalize I6 N [ax (aa d 3) 0]=r2 at *;generalize (aa d 3).toList.length=n3 at *;generalize (aa d 4).toList.length=n4 at *;generalize ah (aa d 1)=sz at *;generalize ah (aa d 2)=ct at *;generalize ah (aa d 0)=k at *;have e4:decide (0<(n4:Int)) = !decide (n4=0):=by by_cases h:n4=0<;>simp[h]<;>omega
  have e4':decide ((n4:Int)=0)=decide (n4=0):=by by_cases h:n4=0<;>simp[h]
  have e3:decide ((n3:Int)=0)=decide (n3=0):=by by_cases h:n3=0<;>simp[h]
  have e3':decide ((n3:Int)=1)=decide (n3=1):=by by_cases h:n3=1<;>simp[h]<;>omega
  simp only[e4,e4',e3,e3'];clear e4 e4' e3 e3';by_cases k0:k=0∨k=6
  ·have hk:(k=0)∨(k=6):=k0;by_cases a1:n3=0
   ·have:=hall0 a1;by_cases a2:n4=0
    ·have:=hz0 a2;rcases hk with rfl|rfl<;>by_cases a3:sz=0<;>by_cases a4:ct=0<;>simp[*,aq,aw,aF]
    ·rcases hk with rfl|rfl<;>by_cases a3:sz=0<;>by_cases a4:ct=0<;>simp[*]
   ·rcases hk with rfl|rfl<;>by_cases a2:n4=0<;>by_cases a3:sz=0<;>by_cases a4:ct=0<;>simp[*]
  have n0:¬k=0:=fun h=>k0 (.inl h)
  have n6:¬k=6:=fun h=>k0 (.inr h)
  by_cases k1:k=1∨k=2
  ·have hk:(k=1)∨(k=2):=k1;have hs:sz=1∨sz=2∨sz=4∨(¬sz=1∧¬sz=2∧¬sz=4):=by omega
   by_cases a1:n3=0
   ·have:=hall0 a1;by_cases a2:n4=0
    ·have:=hz0 a2;rcases hk with rfl|rfl<;>rcases hs with rfl|rfl|rfl|⟨s1,s2,s4⟩<;>by_cases a4:ct=0<;>simp[*,aq,aw,aF]
    ·rcases hk with rfl|rfl<;>rcases hs with rfl|rfl|rfl|⟨s1,s2,s4⟩<;>by_cases a4:ct=0<;>simp[*]
   ·rcases hk with rfl|rfl<;>by_cases a2:n4=0<;>rcases hs with rfl|rfl|rfl|⟨s1,s2,s4⟩<;>by_cases a4:ct=0<;>simp[*]
  have n1:¬k=1:=fun h=>k1 (.inl h)
  have n2:¬k=2:=fun h=>k1 (.inr h)
  by_cases k3:k=3
  ·subst k3;by_cases a1:n3=1
   ·obtain⟨b1,b2,b3⟩:=h3 a1;have:=hall1 a1;by_cases a2:n4=0
    ·have:=hz0 a2;by_cases a3:sz=0<;>by_cases a4:ct=0<;>simp[*,aq,aw,aF,aL]
    ·by_cases a3:sz=0<;>by_cases a4:ct=0<;>simp[*]
   ·by_cases a2:n4=0<;>by_cases a3:sz=0<;>by_cases a4:ct=0<;>simp[*]
  by_cases k4:k=4
  ·subst k4;have hc:(ct<1∧¬1≤ct∧¬65536<ct∧ct≤65536)∨(¬ct<1∧1≤ct∧65536<ct∧¬ct≤65536)∨(¬ct<1∧1≤ct∧¬65536<ct∧ct≤65536):=by omega
   by_cases a1:n3=1
   ·obtain⟨b1,b2,b3⟩:=h3 a1;have:=hall1 a1;by_cases a2:n4=0
    ·have:=hz0 a2;rcases hc with⟨c1,c2,c3,c4⟩|⟨c1,c2,c3,c4⟩|⟨c1,c2,c3,c4⟩<;>by_cases a3:sz=0<;>simp[*,aq,aw,aF,aL]
    ·rcases hc with⟨c1,c2,c3,c4⟩|⟨c1,c2,c3,c4⟩|⟨c1,c2,c3,c4⟩<;>by_cases a3:sz=0<;>simp[*]
   ·rcases hc with⟨c1,c2,c3,c4⟩|⟨c1,c2,c3,c4⟩|⟨c1,c2,c3,c4⟩<;>by_cases a2:n4=0<;>by_cases a3:sz=0<;>simp[*]
  by_cases k5:k=5
  ·subst k5;by_cases a1:n3=0
   ·have:=hall0 a1;by_cases a3:sz=0<;>by_cases a4:ct=0<;>cases z<;>simp[*,aq,aw,aF,aL]
   ·by_cases a3:sz=0<;>by_cases a4:ct=0<;>cases z<;>simp[*,aq,aw,aF,aL]
  simp[*]
theorem Ux {d:D} (h:AD d=true):(aa d 3).toList.length≤1:=by
 unfold AD at h
 (repeat' split at h)<;>first|(cases h;done)|(simp only[bu,cn]at h;omega)
theorem Oq {d:D} (h:AD d=true) (hk:ah (aa d 0)=4):(aa d 3).toList.length=1:=by
 unfold AD at h;simp only[hk]at h;simp at h;omega
theorem fmdT_irr:∀(N M:Nat) (d:D),Conf PG 63 d->d.size<N->d.size<M->fR N d=fR M d:=by
 intro N
 induction N with
 |zero=>intro M d _ h;omega
 |succ N ih=>
  intro M d hd h1 h2;cases M with
  |zero=>omega
  |succ M=>
   obtain⟨l3,l4,e3,e4⟩:=fq hd;simp only[fR];have r1:(List.range (aa d 4).toList.length).any (fun i=> !(Ku (aa d 4).toList i&&fR N (aa ((aa d 4).toList.getD i .other) 1)))=(List.range (aa d 4).toList.length).any (fun i=> !(Ku (aa d 4).toList i&&fR M (aa ((aa d 4).toList.getD i .other) 1))):=by
    rw[fx];simp only[qN,iX];constructor
    ·rintro⟨i,hi,h⟩;have hm:(aa d 4).toList.getD i .other∈(aa d 4).toList:=by rw[getD_lt hi];exact b7 hi
     have:=e4 _ hm;rw[ih M _ this.1 (by omega) (by omega)]at h;exact⟨i,hi,h⟩
    ·rintro⟨i,hi,h⟩;have hm:(aa d 4).toList.getD i .other∈(aa d 4).toList:=by rw[getD_lt hi];exact b7 hi
     have:=e4 _ hm;rw[<- ih M _ this.1 (by omega) (by omega)]at h;exact⟨i,hi,h⟩
   have r2:(aa d 3).toList.all (fR N)=(aa d 3).toList.all (fR M):=by
    rw[fx];simp only[bX];constructor
    ·intro h x hx;have:=e3 x hx;rw[<- ih M x this.1 (by omega) (by omega)];exact h x hx
    ·intro h x hx;have:=e3 x hx;rw[ih M x this.1 (by omega) (by omega)];exact h x hx
   rw[r1,r2]
theorem AE {N:Nat} {d:D} (h:fR (N+1) d=true):AD d=true∧(∀x∈(aa d 3).toList,fR N x=true)∧(∀x∈(aa d 4).toList,fR N (aa x 1)=true):=by
 simp only[fR,bu,lN,bX]at h;refine⟨h.1.1,h.2,fun x hx=> ?_⟩
 obtain⟨i,hi,rfl⟩:=List.getElem_of_mem hx;have:=h.1.2;rw[List.any_eq_false]at this;have:=this i (iX.2 hi);rw[getD_lt hi]at this;simp only[lN,Bool.not_eq_false,bu]at this;exact this.2
theorem size_eq:∀(N:Nat) (d:D),Conf PG 63 d->d.size<N->I8 N [d]=BT N [d]:=by
 intro N
 induction N with
 |zero=>intro d _ h;omega
 |succ N ih=>
  intro d hd hs;obtain⟨l3,l4,e3,e4⟩:=fq hd;rw[F259_s,Yc,XQ,Ji,ze,oG]
  have h0:aS (aa d 3) 0=true->I8 N [ax (aa d 3) 0]=BT N [ax (aa d 3) 0]:=fun h=>by
   rw[Oj]at h;have hl:0<(aa d 3).toList.length:=by simp at h;omega
   have hm:ax (aa d 3) 0∈(aa d 3).toList:=by rw[sF,getD_lt hl];exact b7 _
   exact ih _ (e3 _ hm).1 (by have:=(e3 _ hm).2;omega)
  have hloop:loW (p6 (I8 N) [aa d 4, .int (ac (aa d 4))]) [.int 0, .int 0]=loW (kJ (BT N) [d]) [.int 0, .int 0]:=by
   refine Uv (I:=fun s=>∃a i,s = [.int a, .int i]) ?_ ?_ ⟨0,0,rfl⟩
   ·rintro _ ⟨a,i,rfl⟩;rw[tY,mO];cases hi:aS (aa d 4) i with
    |false=>rfl
    |true=>
     have hre:D.agg [D.int (ah (aa (aa (ax (aa d 4) i) 1) 0)),D.int (ah (aa (aa (ax (aa d 4) i) 1) 1)),D.int (ah (aa (aa (ax (aa d 4) i) 1) 2)),aa (aa (ax (aa d 4) i) 1) 3,aa (aa (ax (aa d 4) i) 1) 4]=reT (aa (ax (aa d 4) i) 1):=rfl;rw[Oj]at hi;simp only[bu,cn]at hi;obtain⟨j,rfl⟩:∃j:Nat,i=(j:Int):=⟨i.toNat,by omega⟩
     have hl:j<(aa d 4).toList.length:=by omega
     have hm:ax (aa d 4) (j:Int)∈(aa d 4).toList:=by rw[bl,getD_lt hl];exact b7 _
     rw[hre,eH (e4 _ hm).1,ih _ (e4 _ hm).1 (by have:=(e4 _ hm).2;omega)]
     simp only[ap]
   ·rintro _ s' ⟨a,i,rfl⟩ hx;rw[tY]at hx;generalize I8 N _=r at hx;cases h1:ae .lss i (ac (aa d 4))<;>rw[h1]at hx
    ·cases hx
    ·cases h2:aS (aa d 4) i<;>rw[h2]at hx
     ·cases hx
     ·cases h3:ao r<;>rw[h3]at hx
      ·cases hx
      ·simp only[ap,aQ,Sum.inl.injEq]at hx;exact⟨_,_,hx.symm⟩
  simp only[hloop];cases hq:aS (aa d 3) 0 with
  |true=>rw[h0 hq]
  |false=>simp only[aJ]
theorem Uy:∀(N:Nat) (d:D),Conf PG 63 d->d.size<N->fR N d=true->∃n,BT N [d]=some [.int n]:=by
 intro N
 induction N with
 |zero=>intro d _ h;omega
 |succ N ih=>
  intro d hd hs hf;obtain⟨l3,l4,e3,e4⟩:=fq hd;obtain⟨p1,p2,p3⟩:=AE hf;rw[Yc,Ji,oG];have hloop:∃r,loW (kJ (BT N) [d]) [.int 0, .int 0]=some [.int 0, .int r]:=by
   have key:∀k i:Nat,i+k=(aa d 4).toList.length->∀a:Int,∃r,loW (kJ (BT N) [d]) [.int a, .int (i:Int)]=some [.int 0, .int r]:=by
    unfold maxLen at l4;intro k
    induction k with
    |zero=>
     intro i hi a;rw[bn,mO,ay,aK];exact⟨a,by simp[show¬((i:Int)<(aa d 4).toList.length)by omega]⟩
    |succ k ihk=>
     intro i hi a;have hl:i<(aa d 4).toList.length:=by omega
     have hm:(aa d 4).toList.getD i .other∈(aa d 4).toList:=by rw[getD_lt hl];exact b7 _
     obtain⟨n,hn⟩:=ih _ (e4 _ hm).1 (by have:=(e4 _ hm).2;omega) (p3 _ hm)
     have hre:D.agg [D.int (ah (aa (aa ((aa d 4).toList.getD i .other) 1) 0)),D.int (ah (aa (aa ((aa d 4).toList.getD i .other) 1) 1)),D.int (ah (aa (aa ((aa d 4).toList.getD i .other) 1) 2)),aa (aa ((aa d 4).toList.getD i .other) 1) 3,aa (aa ((aa d 4).toList.getD i .other) 1) 4]=reT (aa ((aa d 4).toList.getD i .other) 1):=rfl;rw[bn,mO,ay,aK,aX hl,bl,hre,eH (e4 _ hm).1,hn];simp only[show((i:Int)<(aa d 4).toList.length)by omega,ba,ap,aq,bg (show i<9223372036854775807 by omega)]
     exact ihk (i+1) (by omega) _
   have h:=key (aa d 4).toList.length 0 (by omega) 0
   simp only[bV]at h;exact h
  obtain⟨r,hr⟩:=hloop;simp only[hr,aq,aB,ap,aw,aU,bI,aF];by_cases k4:ah (aa d 0)=4
  ·have h1:=Oq p1 k4;have hm:ax (aa d 3) 0∈(aa d 3).toList:=by rw[sF,getD_lt (by omega)];exact b7 _
   obtain⟨n,hn⟩:=ih _ (e3 _ hm).1 (by have:=(e3 _ hm).2;omega) (p2 _ hm)
   have hq:aS (aa d 3) 0=true:=aX (i:=0) (by omega)
   simp only[k4,hq,hn,aq,ba,ap,bR,show¬(4:Int)=1 by omega,show¬(4:Int)=2 by omega,show¬(4:Int)=3 by omega,bi,aJ]
   exact⟨_,rfl⟩
  ·simp only[k4,bi,aJ];cases az (decide (ah (aa d 0)=1)) (decide (ah (aa d 0)=1)) (decide (ah (aa d 0)=2))with
   |true=>exact⟨_,rfl⟩
   |false=>
    simp only[aJ];cases decide (ah (aa d 0)=3)with
    |true=>exact⟨_,rfl⟩
    |false=>
     simp only[aJ];cases decide (ah (aa d 0)=5)with
     |true=>exact⟨_,rfl⟩
     |false=>exact⟨_,rfl⟩
noncomputable def eI:Nat->D->Bool
 |0,_=>false
 |N+1,d=>decide (65536<ah (ab (Nj [d]) 0))||decide (64<(aa d 4).toList.length)||((aa d 3).toList.any (eI N))||((aa d 4).toList.any fun x=>eI N (aa x 1))
theorem any_one {l:List D} {p:D->Bool} (h:l.length=1):l.any p=p (l.getD 0 .other):=by
 match l,h with
 | [x],_=>simp
theorem Kv:∀(N:Nat) (d:D),Conf PG 63 d->d.size<N->fR N d=true->r6 N [d]=some [.bool (eI N d)]∧rY N [d]=some [.bool (!eI N d)]:=by
 intro N
 induction N with
 |zero=>intro d _ h;omega
 |succ N ih=>
  intro d hd hs hf;obtain⟨l3,l4,e3,e4⟩:=fq hd;obtain⟨p1,p2,p3⟩:=AE hf;have hq:XR [d]=Nj [d]:=by rw[Qx,Fm];exact size_eq _ d hd (cu (by simp))
  obtain⟨n,hn⟩:∃n,Nj [d]=some [.int n]:=by
   rw[Fm];exact Uy _ d hd (cu (by simp)) (by rw[<- hf];exact fmdT_irr _ _ d hd (cu (by simp)) hs)
  have i1:∀x∈(aa d 3).toList,r6 N [x]=some [.bool (eI N x)]∧rY N [x]=some [.bool (!eI N x)]:=fun x hx=>ih x (e3 x hx).1 (by have:=(e3 x hx).2;omega) (p2 x hx)
  have i2:∀x∈(aa d 4).toList,r6 N [reT (aa x 1)]=some [.bool (eI N (aa x 1))]∧rY N [reT (aa x 1)]=some [.bool (!eI N (aa x 1))]:=fun x hx=>by
   rw[eH (e4 x hx).1];exact ih _ (e4 x hx).1 (by have:=(e4 x hx).2;omega) (p3 x hx)
  have r1:=cA (st:=p8 (r6 N) [d]) (l:=aa d 3) (c:=fun x=>r6 N [x]) (p:=eI N) (r1:=fun _=>[.int 1]) (r0:=[.int 0]) (fun i=>by rw[Nm]) l3 (fun x hx=>(i1 x hx).1)
  have r2:=cA (st:=p9 (r6 N) [d]) (l:=aa d 4) (c:=fun x=>r6 N [reT (aa x 1)]) (p:=fun x=>eI N (aa x 1)) (r1:=fun _=>[.int 1]) (r0:=[.int 0]) (fun i=>by rw[No];rfl) l4 (fun x hx=>(i2 x hx).1)
  have r3:=cA (st:=p7 (rY N) [aa d 4, .int (ac (aa d 4)),d]) (l:=aa d 4) (c:=fun x=>(rY N [reT (aa x 1)]).map fun r=>[.bool (b8 (aT (r.getD 0 .other)))]) (p:=fun x=>eI N (aa x 1)) (r1:=fun _=>[.int 1]) (r0:=[.int 0])
   (fun i=>by
    rw[M6];have hre:D.agg [D.int (ah (aa (aa (ax (aa d 4) i) 1) 0)),D.int (ah (aa (aa (ax (aa d 4) i) 1) 1)),D.int (ah (aa (aa (ax (aa d 4) i) 1) 2)),aa (aa (ax (aa d 4) i) 1) 3,aa (aa (ax (aa d 4) i) 1) 4]=reT (aa (ax (aa d 4) i) 1):=rfl;rw[hre];cases hq:rY N [reT (aa (ax (aa d 4) i) 1)]with
    |none=>simp[ia]
    |some r=>simp[aq,aw,aL]) l4 (fun x hx=>by rw[(i2 x hx).2];simp[aL,bO])
  rw[F247_s,F239_s,Yg,XV,CV,CW,CR,hq,hn];simp only[eI,hn,aq,aw,aU,aF,ck,aK,bR,ap,aB];have hlen:=Ux p1
  have h3:(aa d 3).toList.length=1->aS (aa d 3) 0=true∧rY N [ax (aa d 3) 0]=some [.bool (!(aa d 3).toList.any (eI N))]:=fun h=>by
   have hm:(aa d 3).toList.getD 0 .other∈(aa d 3).toList:=by rw[getD_lt (by omega)];exact b7 _
   exact⟨aX (i:=0) (by omega),by rw[sF,any_one h];exact(i1 _ hm).2⟩
  have h30:(aa d 3).toList.length=0->(aa d 3).toList.any (eI N)=false:=fun h=>by rw[gv.1 h];rfl
  rw[aK]at r3;generalize ((aa d 3).toList.any (eI N))=a at *;generalize ((aa d 4).toList.any fun x=>eI N (aa x 1))=b at *
  generalize loW (p8 (r6 N) [d]) [.int 0]=x1 at *;generalize loW (p9 (r6 N) [d]) [.int 0]=x2 at *;generalize loW (p7 (rY N) [aa d 4, .int ((aa d 4).toList.length:Int),d]) [.int 0]=x3 at *;generalize rY N [ax (aa d 3) 0]=x4 at *;generalize aS (aa d 3) 0=x5 at *;clear i1 i2 e3 e4 p2 p3 ih hq;have hn4:decide ((64:Int)<((aa d 4).toList.length:Int))=decide (64<(aa d 4).toList.length):=by by_cases h:64<(aa d 4).toList.length<;>simp[h]<;>omega
  rw[hn4];generalize decide (64<(aa d 4).toList.length)=c1;generalize decide (65536<n)=c2;generalize (aa d 3).toList.length=n3 at *;have h01:n3=0∨n3=1:=by omega
  rcases r1 with⟨rfl,rfl⟩|⟨_,rfl,rfl⟩<;>rcases r2 with⟨rfl,rfl⟩|⟨_,rfl,rfl⟩<;>rcases r3 with⟨rfl,h3'⟩|⟨_,rfl,h3'⟩<;>first|(cases h3';done)|skip
  all_goals
   rcases h01 with rfl|rfl
   ·first
    | (have:=h30 rfl;cases this;done)
    | (cases c1<;>cases c2<;>simp[aq,aw,aF])
   ·obtain⟨rfl,rfl⟩:=h3 rfl;cases c1<;>cases c2<;>simp[aq,aw,aF,aL,la]
theorem Uz {d:D} (hd:Conf PG 63 d):∃e:Int,XZ [d]=some [.int e]∧Nq [d]=some [.int e]:=by
 obtain⟨a1,a2⟩:=Oo (aW [d, .int 64]) d 64 hd (cu (by simp)) (by omega) (by omega)
 obtain⟨b1,b2⟩:=Uw (aW [d]) d hd (cu (by simp))
 rw[Qz,F219_eq,QE,F226_eq,Qv,Qw,Qy,QA,QC,QD];simp only[a1,a2,b1,b2,aq,aw,aU,aL,bO,ap,Bool.not_not];cases kM (aW [d, .int 64]) d 64 with
 |true=>exact⟨20,rfl,rfl⟩
 |false=>
  simp only[aJ];cases hf:fR (aW [d]) d with
  |false=>exact⟨2,rfl,rfl⟩
  |true=>
   obtain⟨c1,c2⟩:=Kv (aW [d]) d hd (cu (by simp)) hf
   simp only[c1,c2,aq,aw,aU,aL,Bool.not_not,bS,aJ,ap];cases eI (aW [d]) d with
   |true=>exact⟨6,rfl,rfl⟩
   |false=>exact⟨0,rfl,rfl⟩
def cF (p:Nat->Int):Nat->Nat->Int
 |_,0=>0
 |i,k+1=>if p i=0 then cF p (i+1) k else p i
def mV (e:Int):List D:=if e=0 then[.int 0]else[.int 1, .int e]
theorem qu {p p':Nat->Int}:∀(k i:Nat),(∀j,i≤j->j<i+k->(∀m,i≤m->m<j->p m=0)->p j=p' j)->cF p i k=cF p' i k
 |0,_,_=>rfl
 |k+1,i,h=>by
  have h0:=h i (aP _) (by omega) (fun m h1 h2=>by omega)
  simp only[cF];rw[<- h0];by_cases hz:p i=0
  ·rw[if_pos hz,if_pos hz]
   exact qu k (i+1) fun j h1 h2 h3=>h j (by omega) (by omega) fun m h4 h5=>by
    by_cases hm:m=i
    ·subst hm;exact hz
    ·exact h3 m (by omega) h5
  ·rw[if_neg hz,if_neg hz]
theorem mW {p:Nat->Int}:∀(k i:Nat),cF p i k=0->∀j,i≤j->j<i+k->p j=0
 |0,i,_,j,h1,h2=>by omega
 |k+1,i,h,j,h1,h2=>by
  simp only[cF]at h;by_cases hz:p i=0
  ·rw[if_pos hz]at h;by_cases hj:j=i
   ·subst hj;exact hz
   ·exact mW k (i+1) h j (by omega) (by omega)
  ·rw[if_neg hz]at h;exact absurd h hz
theorem jB {st:List D->Option (Sum (List D) (List D))} {n:Nat} {enc:Nat->List D} {p:Nat->Int} (h0:st (enc n)=some (.inr [.int 0]))
 (h1:∀i,i<n->(∀m,m<i->p m=0)->st (enc i)=if p i=0 then some (.inl (enc (i+1)))else some (.inr [.int 1, .int (p i)])):loW st (enc 0)=some (mV (cF p 0 n)):=by
 have key:∀k i:Nat,i+k=n->(∀m,m<i->p m=0)->loW st (enc i)=some (mV (cF p i k)):=by
  intro k
  induction k with
  |zero=>intro i hi _;obtain rfl:i=n:=by omega
         rw[bn,h0];rfl
  |succ k ih=>
   intro i hi hp;rw[bn,h1 i (by omega) hp]
   simp only[cF];by_cases hz:p i=0
   ·rw[if_pos hz,if_pos hz]
    exact ih (i+1) (by omega) fun m hm=>by
     by_cases h:m=i
     ·subst h;exact hz
     ·exact hp m (by omega)
   ·rw[if_neg hz,if_neg hz];simp[mV,hz]
 exact key n 0 (by omega) (fun m h=>by omega)
theorem mX (e:Int):(bif ao (some (mV e))then bif ae .eql (ah (ab (some (mV e)) 0)) 0 then some [D.int 0]else some [.int (ah (ab (some (mV e)) 1))]else none)=some [.int e]:=by
 by_cases h:e=0
 ·subst h;simp[mV,aq,aw,aF,aB]
 ·simp[mV,h,aq,aw,aF,aB]
theorem Gc (d:D) (i:Nat):(dA d 0 (i:Int)).toList=d.toList.take i:=by rw[o6];simp[D.sub,D.toList]
theorem bF (xs:List D):ac (.list xs)=(xs.length:Int):=by rw[aK];rfl
theorem cM (xs ys:List D):bt (.list xs) (.list ys) = .list (xs++ys):=by rw[nk];rfl
theorem aY {n z:Nat} (hn:n≤1000000000) (hz:z≤1000):ci (n:Int) z=true:=by
 rw[uX];unfold Sf;have h1:n*z≤1000000000*1000:=Nat.mul_le_mul hn hz;have h2:((n*z:Nat):Int)=(n:Int)*(z:Int):=by simp
 simp;omega
theorem AF {d:D} (h:Conf PG 9 d):∃s,d = .str s:=by
 have ht:=str9;unfold Ga at ht;cases hu:PG.underlying 9 with
 |none=>rw[hu]at ht;cases ht
 |some td=>
  rw[hu]at ht;cases h with
  |str h1 hl=>exact⟨_,rfl⟩
  |slice h1 hl hd=>rw[h1]at hu;cases hu;cases ht
  |struct h1=>rw[h1]at hu;cases hu;cases ht
  |bool h1=>rw[h1]at hu;cases hu;cases ht
  |int h1=>rw[h1]at hu;cases hu;cases ht
  |array h1=>rw[h1]at hu;cases hu;cases ht
  |other h1=>unfold dn at h1;rw[hu]at h1;cases td<;>simp_all
theorem len65:ed 65=1+1:=by kernel_rfl
theorem f65_0:dr 65 0 9=true:=by kernel_rfl
theorem Rn:dr 65 1 63=true:=by kernel_rfl
theorem s35:mJ 35 65=true:=by kernel_rfl
noncomputable def reV (d:D):D:= .agg [.str (aC (aa d 0)),reT (aa d 1)]
theorem conf_reV {d:D} (h:Conf PG 65 d):reV d=d:=by
 obtain⟨ds,rfl,hl⟩:=kL len65 h
 match ds,hl with
 | [a,b],_=>
   obtain⟨s,h0⟩:=AF (bq f65_0 h);have h1:Conf PG 63 b:=bq Rn h;obtain rfl:a = .str s:=h0;simp[reV,ee,lE,eH h1]
theorem hasB_app (xs ys:List D) (s:ByteArray):jU (.list (xs++ys)) s=(jU (.list xs) s||jU (.list ys) s):=by
 unfold jU;simp[D.toList]
theorem UA {v:D} {xs:List D} (h:v.toList=xs) (s:ByteArray):jU v s=jU (.list xs) s:=by
 unfold jU;rw[h];rfl
noncomputable def varE (b l:List D) (i:Nat):Int:=
 if gK (aC (aa (l.getD i .other) 0))=false then 3
 else if jU (.list (b++l.take i)) (aC (aa (l.getD i .other) 0))then 8
 else ah (ab (Nq [aa (l.getD i .other) 1]) 0)
noncomputable def nU (b l:List D):Int:=cF (varE b l) 0 l.length
theorem Kw {x:D} (h:Conf PG 65 x):(aC (aa x 0)).size≤maxLen:=by rw[bA];exact eF (bq f65_0 h)
theorem Ro {b l:List D} (hb:b.length≤1000000) (hl:l.length≤1000000) (hc:∀x∈l,Conf PG 65 x):YW [.list b, .list l]=some [.int (nU b l)]∧Ym [.list b, .list l]=some [.int (nU b l)]:=by
 have hmx:maxLen=9223372036854775807∨10000000<maxLen:=by unfold maxLen;omega
 have hml:∀n:Nat,n≤10000000->n≤maxLen:=fun n h=>by unfold maxLen;omega
 have facts:∀i,i<l.length->∃e:Int,Conf PG 65 (l.getD i .other)∧XZ [reT (aa (l.getD i .other) 1)]=some [.int e]∧Nq [reT (aa (l.getD i .other) 1)]=some [.int e]∧ah (ab (Nq [aa (l.getD i .other) 1]) 0)=e:=fun i hi=>by
  have hm:l.getD i .other∈l:=by rw[getD_lt hi];exact b7 hi
  have h1:Conf PG 63 (aa (l.getD i .other) 1):=by rw[bA];exact bq Rn (hc _ hm)
  obtain⟨e,e1,e2⟩:=Uz h1;exact⟨e,hc _ hm,by rw[eH h1];exact e1,by rw[eH h1];exact e2,by rw[e2];simp[aw,aF]⟩
 have hre:∀x:D,D.agg [D.int (ah (aa (aa x 1) 0)),D.int (ah (aa (aa x 1) 1)),D.int (ah (aa (aa x 1) 2)),aa (aa x 1) 3,aa (aa x 1) 4]=reT (aa x 1):=fun x=>rfl
 constructor
 ·have hcl:JC [.list b]=some [.list b]:=by
   rw[QQ];unfold F218;have:bt (D.list []) (List.headD [D.list b] .other) = .list b:=by show bt (D.list []) (D.list b)=_;rw[cM];rfl
   rw[this,bF,aY (by omega) (by omega)];rfl
  rw[QT,F168_eq,hcl];simp only[aq,aw,aU,ap,C8,bF]
  have hloop:=jB (st:=vE [.list l, .int (l.length:Int)]) (n:=l.length) (enc:=fun i=>[.int (i:Int), .list (b++l.take i)]) (p:=varE b l)
   (by rw[zR];simp[ay]) (fun i hi hp=>by
    obtain⟨e,f1,f2,f3,f4⟩:=facts i hi;have hq:ax (.list l) (i:Int)=l.getD i .other:=by rw[bl];rfl
    have hin:aS (.list l) (i:Int)=true:=aX (d:= .list l) hi;obtain⟨n1,_⟩:=eG (Kw f1);have hlen:(b++l.take i).length≤2000000:=by simp;omega
    obtain⟨k1,_⟩:=kK (v:= .list (b++l.take i)) (hml _ (by show(b++l.take i).length≤_;omega)) (aC (aa (l.getD i .other) 0))
    have hrv:D.agg [D.str (aC (aa (l.getD i .other) 0)),reT (aa (l.getD i .other) 1)]=l.getD i .other:=conf_reV f1;rw[zR];simp only[ay,cp,show(i:Int)<(l.length:Int)by omega,ba,ap,hin,hq,hre,n1,k1,f2,aq,aw,aU,aL,bO,aF,hrv,cM,bF]
    rw[aY (by simp;omega) (by omega)]
    unfold varE;rw[f4];cases gK (aC (aa (l.getD i .other) 0))with
    |false=>simp
    |true=>
     cases jU (.list (b++l.take i)) (aC (aa (l.getD i .other) 0))with
     |true=>simp
     |false=>
      by_cases he:e=0
      ·simp only[he,bS,aJ,ap,ba,ip,bb,be,reduceCtorEq];rw[bg (by omega),cy,we hi,getD_lt hi]
      ·simp[he])
  simp only[bV,nY,fy]at hloop;simp only[hloop];exact mX _
 ·rw[QF,F177_eq,CX]
  have hloop:=jB (st:=vq [.list b, .list l]) (n:=l.length) (enc:=fun i=>[.int (i:Int)]) (p:=varE b l)
   (by rw[zm,bF];simp[ay]) (fun i hi hp=>by
    obtain⟨e,f1,f2,f3,f4⟩:=facts i hi;have hq:ax (.list l) (i:Int)=l.getD i .other:=by rw[bl];rfl
    have hin:aS (.list l) (i:Int)=true:=aX (d:= .list l) hi;obtain⟨_,n1⟩:=eG (Kw f1);obtain⟨_,k1⟩:=kK (v:= .list b) (hml _ (by show b.length≤_;omega)) (aC (aa (l.getD i .other) 0))
    obtain⟨_,k2⟩:=kK (v:=dA (.list l) 0 (i:Int)) (hml _ (by rw[Gc];show(l.take i).length≤_;simp;omega)) (aC (aa (l.getD i .other) 0))
    have hs:jU (dA (.list l) 0 (i:Int)) (aC (aa (l.getD i .other) 0))=jU (.list (l.take i)) (aC (aa (l.getD i .other) 0)):=UA (by rw[Gc];rfl) _
    rw[zm];simp only[ay,cC,cp,show(i:Int)<(l.length:Int)by omega,show(0:Int)≤(i:Int)by omega,show(i:Int)≤(l.length:Int)by omega,show(0:Int)≤0 by omega,ba,ap,hin,hq,hre,n1,k1,k2,hs,f3,aq,aw,aU,aL,bO,aF,bF]
    unfold varE;rw[f4,hasB_app];cases gK (aC (aa (l.getD i .other) 0))with
    |false=>simp
    |true=>
     cases jU (.list b) (aC (aa (l.getD i .other) 0))with
     |true=>simp
     |false=>
      cases jU (.list (l.take i)) (aC (aa (l.getD i .other) 0))with
      |true=>simp
      |false=>
       by_cases he:e=0
       ·simp only[he,bS,aJ,ap,ba,ip,bb,be,reduceCtorEq,Bool.or_false];rw[bg (by omega)]
       ·simp[he])
  simp only[bV]at hloop;simp only[hloop];exact mX _
end Go.Proofs.YtiojjmlccehpoaaGreat
namespace Go.Proofs.YtiojjmlccehpoaaGreat
noncomputable section
open Go Go.AM
def ut {A:Type} (f:Nat->A->A):Nat->Nat->A->A
 |_,0,a=>a
 |i,k+1,a=>ut f (i+1) k (f i a)
theorem dj {A:Type} {st:List D->Option (Sum (List D) (List D))} {n:Nat} {enc:Nat->A->List D} {f:Nat->A->A} {fin:A->List D} {I:Nat->A->Prop} (h0:∀a,I n a->st (enc n a)=some (.inr (fin a)))
 (h1:∀i a,i<n->I i a->st (enc i a)=some (.inl (enc (i+1) (f i a)))∧I (i+1) (f i a)) {a:A} (ha:I 0 a):loW st (enc 0 a)=some (fin (ut f 0 n a))∧I n (ut f 0 n a):=by
 have key:∀k i a,i+k=n->I i a->loW st (enc i a)=some (fin (ut f i k a))∧I n (ut f i k a):=by
  intro k
  induction k with
  |zero=>intro i a hi ha;obtain rfl:i=n:=by omega
         exact⟨by rw[bn,h0 a ha];rfl,ha⟩
  |succ k ih=>
   intro i a hi ha;obtain⟨e,ha'⟩:=h1 i a (by omega) ha
   rw[bn,e];exact ih (i+1) (f i a) (by omega) ha'
 exact key n 0 a (by omega) ha
theorem AG {A:Type} (g:D->A->A):∀(l pre:List D) (a:A),ut (fun i a=>g ((pre++l).getD i .other) a) pre.length l.length a=l.foldl (fun a x=>g x a) a
 | [],pre,a=>rfl
 |x::l,pre,a=>by
  simp only[ce,ut,List.foldl_cons];have h:(pre++x::l).getD pre.length .other=x:=by simp[List.getD]
  rw[h];have ih:=AG g l (pre ++ [x]) (g x a);simp only[cy,fV,dY,bN,ce,cZ]at ih;exact ih
theorem fD {A:Type} (g:D->A->A) (l:List D) (a:A):ut (fun i a=>g (l.getD i .other) a) 0 l.length a=l.foldl (fun a x=>g x a) a:=AG g l [] a
theorem Kx {l x:D} (h:x∈l.toList):x.size<l.size:=by
 cases l with
 |list xs=>
  obtain⟨i,hi⟩:=sW h;have hi:xs[i]? = some x:=hi
  have:=kE hi;simp only[D.size];omega
 |_=>simp[D.toList]at h
theorem tl (xs:List D):(D.list xs).toList=xs:=rfl
theorem len187:ed 187=6+1:=by kernel_rfl
theorem f187_0:dr 187 0 3=true:=by kernel_rfl
theorem f187_1:dr 187 1 3=true:=by kernel_rfl
theorem f187_2:dr 187 2 9=true:=by kernel_rfl
theorem f187_3:dr 187 3 23=true:=by kernel_rfl
theorem f187_4:dr 187 4 36=true:=by kernel_rfl
theorem f187_5:dr 187 5 36=true:=by kernel_rfl
theorem Gd:dr 187 6 185=true:=by kernel_rfl
theorem s36:mJ 36 187=true:=by kernel_rfl
theorem s185:mJ 185 36=true:=by kernel_rfl
def reN (d:D):D:= .agg [.int (ah (aa d 0)), .int (ah (aa d 1)), .str (aC (aa d 2)),aa d 3,aa d 4,aa d 5,aa d 6]
theorem qv {d:D} (h:Conf PG 187 d):reN d=d:=by
 obtain⟨ds,rfl,hl⟩:=kL len187 h
 match ds,hl with
 | [a,b,c,x3,x4,x5,x6],_=>
   obtain⟨n0,h0⟩:=conf_int int3 (bq f187_0 h);obtain⟨n1,h1⟩:=conf_int int3 (bq f187_1 h);obtain⟨s,h2⟩:=AF (bq f187_2 h);obtain rfl:a = .int n0:=h0;obtain rfl:b = .int n1:=h1;obtain rfl:c = .str s:=h2;simp[reN,ee,aF,lE]
def bj (s:D):List D:=aa s 4::aa s 5::(aa s 6).toList
theorem bk {s x:D} (h:Conf PG 187 s) (hx:x∈bj s):Conf PG 36 x∧x.size<s.size:=by
 have hf:∀j,j<7->(aa s j).size<s.size:=fun j hj=>by
  obtain⟨ds,rfl,hl⟩:=kL len187 h;rw[bA];exact Kt ⟨ds,rfl,by omega⟩
 unfold bj at hx;simp only[cU]at hx;rcases hx with rfl|rfl|hx
 ·exact⟨by rw[bA];exact bq f187_4 h,hf 4 (by omega)⟩
 ·exact⟨by rw[bA];exact bq f187_5 h,hf 5 (by omega)⟩
 ·have h6:Conf PG 185 (aa s 6):=by rw[bA];exact bq Gd h
  have:=Kx hx;exact⟨(ca s185 h6).2.2 x hx,by have:=hf 6 (by omega);omega⟩
theorem bZ {l s:D} (h:Conf PG 36 l) (hs:s∈l.toList):Conf PG 187 s∧s.size<l.size:=⟨(ca s36 h).2.2 s hs,Kx hs⟩
def Sm:Nat->D->Prop
 |0,_=>False
 |N+1,l=>∀s∈l.toList,(aa s 6).toList.length≤100000∧∀x∈bj s,Sm N x
def cnt:Nat->D->Nat
 |0,_=>0
 |N+1,l=>(l.toList.map fun s=>1+((bj s).map (cnt N)).sum).sum
theorem Ds (d:D):dA d 0 0 = .list []:=by rw[o6];simp[D.sub]
theorem UB {n:Int} (h:0≤n∧n≤1000000):q278 [.int n]=some [.list []]:=by
 rw[QU,F278_eq];obtain⟨m,rfl⟩:∃m:Nat,n=(m:Int):=⟨n.toNat,by omega⟩
 have e0:aM .sub .i64 (m:Int) 0=m:=by rw[fQ (by omega) (by omega)];omega
 simp only[e0,ay,ck,cC,aB,Ds,bF,aY (show m≤1000000000 by omega) (show 24≤1000 by omega)]
 by_cases h0:m=0
 ·subst h0;simp
 ·simp[show¬((m:Int)<0)by omega,show 0<m by omega]
theorem vO (xs:List D) (d:D):bt (.list xs) d = .list (xs++d.toList):=by rw[nk];rfl
theorem AH {s:D} (h:(aa s 6).toList.length≤100000):NI [s]=some [.list (bj s)]:=by
 rw[QV,F240_eq];have e:aM .add .i64 2 (ac (aa s 6))=((2+(aa s 6).toList.length:Nat):Int):=by
  rw[aK,xD (by omega) (by omega)];omega
 simp only[e,UB (n:=((2+(aa s 6).toList.length:Nat):Int)) (by omega),aq,aw,aU,ay,cM,vO,tl,bF,ap]
 rw[aY (by simp) (by omega),aY (by simp;omega) (by omega)]
 simp[bj,show¬((2:Int)+((aa s 6).toList.length:Int)<0)by omega]
def eq (l:List Nat):Nat:=l.foldr max 0
def dep:Nat->D->Nat
 |0,_=>0
 |N+1,l=>eq (l.toList.map fun s=>1+eq ((bj s).map (dep N)))
theorem mY {α:Type} {f g:α->Nat}:∀(l:List α),(∀x∈l,f x≤g x)->eq (l.map f)≤(l.map g).sum
 | [],_=>aP _
 |x::l,h=>by
  have:=mY l fun y hy=>h y (by simp[hy])
  have:=h x (by simp)
  simp only[eq,bW,qO,fW]at *;omega
theorem Or:∀(N:Nat) (l:D),dep N l≤cnt N l
 |0,_=>aP _
 |N+1,l=>by
  simp only[dep,cnt];refine mY _ fun s _=> ?_
  have:=mY (f:=dep N) (g:=cnt N) (bj s) fun x _=>Or N x
  omega
theorem Rp {l:List Nat} {x:Nat} (h:x∈l):x≤l.sum:=by
 induction l with
 |nil=>cases h
 |cons y l ih=>
  simp only[fW];rcases cU.1 h with rfl|h
  ·omega
  ·have:=ih h;omega
theorem nw {N:Nat} {l s:D} (h:s∈l.toList):1+((bj s).map (cnt N)).sum≤cnt (N+1) l:=Rp (iv.2 ⟨s,h,rfl⟩)
theorem jC {N:Nat} {s x:D} (h:x∈bj s):cnt N x≤((bj s).map (cnt N)).sum:=Rp (iv.2 ⟨x,h,rfl⟩)
theorem Rq (a b:Nat):qmm .gtr (a:Int) (b:Int)=((max a b:Nat):Int):=by
 rw[LM];simp only[rmm,eo];by_cases h:b<a<;>simp[h]<;>omega
theorem kN {α:Type} (f:α->Nat):∀(l:List α) (a:Nat),l.foldl (fun a x=>max a (f x)) a=max a (eq (l.map f))
 | [],a=>by simp[eq]
 |x::l,a=>by
  rw[List.foldl_cons,kN f l];simp only[eq,bW,qO];omega
theorem maxL_one {α:Type} {f:α->Nat} (l:List α):max 1 (eq (l.map fun x=>1+f x))=1+eq (l.map f):=by
 induction l with
 |nil=>rfl
 |cons x l ih=>simp only[eq,bW,qO]at *;omega
theorem Ou:∀(N:Nat) (l:D),Conf PG 36 l->l.size<N->Sm N l->cnt N l≤1000000->JJ N [l]=some [.int (dep N l)]:=by
 intro N
 induction N with
 |zero=>intro l _ h;omega
 |succ N ih=>
  intro l hc hs hm hn;rw[F221_s,Y3,Da];have hlen:=(ca s36 hc).1;unfold maxLen at hlen;have inner:∀s∈l.toList,∀(a:Int) (b:D) (c d:Int),FC (JJ N) [.int a,b, .int c, .int d, .list (bj s), .int ((bj s).length:Int)] [.int 1, .int 0]=some [.int 0, .int ((1+eq ((bj s).map (dep N)):Nat):Int)]:=by
   intro s hsm a b c d;obtain⟨h1,h2⟩:=bZ hc hsm;have hk:=(hm s hsm).2;have hcm:=nw (N:=N) hsm;rw[C9];have hkl:(bj s).length≤100002:=by have:=(hm s hsm).1;simp[bj];omega
   have hloop:=(dj (A:=Nat) (st:=vF (JJ N) [.int a,b, .int c, .int d, .list (bj s), .int ((bj s).length:Int)]) (n:=(bj s).length) (enc:=fun i m=>[.int (m:Int), .int (i:Int)])
    (f:=fun i m=>max m (1+dep N ((bj s).getD i .other))) (fin:=fun m=>[.int 0, .int (m:Int)]) (I:=fun _ _=>True)
    (fun m _=>by rw[zU];simp[ay]) (fun i m hi _=>by
     have hx:(bj s).getD i .other∈bj s:=by rw[getD_lt hi];exact b7 hi
     obtain⟨k1,k2⟩:=bk h1 hx;have hc2:=jC (N:=N) hx;have e:=ih _ k1 (by omega) (hk _ hx) (by omega)
     have hd:=Or N ((bj s).getD i .other);have hq:ax (.list (bj s)) (i:Int)=(bj s).getD i .other:=by rw[bl];rfl
     have hin:aS (.list (bj s)) (i:Int)=true:=aX (d:= .list (bj s)) hi;refine⟨?_,trivial⟩
     rw[zU];simp only[ay,show(i:Int)<((bj s).length:Int)by omega,ba,ap,hin,hq,e,aq,aw,aU,aF]
     rw[bg (by omega),xD (by omega) (by omega)]
     rw[show(1:Int)+((dep N ((bj s).getD i .other):Nat):Int)=((1+dep N ((bj s).getD i .other):Nat):Int)by omega,Rq]) (a:=1) trivial).1
   rw[fD (g:=fun x m=>max m (1+dep N x))]at hloop
   rw[kN (fun x=>1+dep N x),maxL_one]at hloop
   exact hloop
  have hloop:=(dj (A:=Nat) (st:=vG (JJ N) [l, .int (ac l)]) (n:=l.toList.length) (enc:=fun i m=>[.int (m:Int), .int (i:Int)])
   (f:=fun i m=>max m (1+eq ((bj (l.toList.getD i .other)).map (dep N)))) (fin:=fun m=>[.int 0, .int (m:Int)]) (I:=fun _ _=>True)
   (fun m _=>by rw[zW,aK];simp[ay]) (fun i m hi _=>by
    have hx:l.toList.getD i .other∈l.toList:=by rw[getD_lt hi];exact b7 hi
    refine⟨?_,trivial⟩
    rw[zW,aK,aX hi,bl,AH (hm _ hx).1];simp only[ay,show(i:Int)<(l.toList.length:Int)by omega,ba,ap,aq,aw,aU,bI,bF,inner _ hx,aF,Rq]
    rw[bg (by omega)]) (a:=0) trivial).1
  rw[fD (g:=fun s m=>max m (1+eq ((bj s).map (dep N)))),kN (fun s=>1+eq ((bj s).map (dep N)))]at hloop
  simp only[bV,Nat.zero_max]at hloop;simp only[hloop,aq,aw,aU,bI,aF,ap,dep]
end
end Go.Proofs.YtiojjmlccehpoaaGreat
namespace Go.Proofs.YtiojjmlccehpoaaGreat
open Go Go.AM
noncomputable def bU (s:D):Bool:=decide (ah (aa s 0)=7)||decide (ah (aa s 0)=8)
noncomputable def flP:Nat->D->Bool->List D
 |0,_,_=>[]
 |N+1,l,b=>l.toList.flatMap fun s=> .agg [s, .bool b]::(bj s).flatMap fun x=>flP N x (b||bU s)
noncomputable def flR:Nat->D->Bool->List D
 |0,_,_=>[]
 |N+1,l,b=>l.toList.flatMap fun s=> .agg [s, .bool b]::(flR N (aa s 4) (b||bU s)++flR N (aa s 5) b++(aa s 6).toList.flatMap fun x=>flR N x b)
theorem dF {α:Type} {f:α->List D} {g:α->Nat}:∀(l:List α),(∀x∈l,(f x).length=g x)->(l.flatMap f).length=(l.map g).sum
 | [],_=>rfl
 |x::l,h=>by
  have:=dF l fun y hy=>h y (by simp[hy])
  simp only[jZ,bN,bW,fW,this,h x (by simp)]
theorem vP:∀(N:Nat) (l:D) (b:Bool),(flP N l b).length=cnt N l
 |0,_,_=>rfl
 |N+1,l,b=>by
  simp only[flP,cnt];refine dF _ fun s _=> ?_
  rw[ce,dF (g:=cnt N) _ fun x _=>vP N x _];omega
theorem jD:∀(N:Nat) (l:D) (b:Bool),(flR N l b).length=cnt N l
 |0,_,_=>rfl
 |N+1,l,b=>by
  simp only[flR,cnt];refine dF _ fun s _=> ?_
  rw[ce,bN,bN,jD,jD,dF (g:=cnt N) _ fun x _=>jD N x _]
  simp[bj];omega
theorem gk {f:D->List D} {l:List D} {i:Nat} (h:i<l.length):(l.take (i+1)).flatMap f=(l.take i).flatMap f++f (l.getD i .other):=by
 rw[we h,List.flatMap_append,getD_lt h];simp
theorem gu {f:D->List D} {l:List D} (i:Nat):((l.take i).flatMap f).length≤(l.flatMap f).length:=by
 have:l.flatMap f=(l.take i).flatMap f++(l.drop i).flatMap f:=by rw[<- List.flatMap_append,List.take_append_drop]
 rw[this,bN];omega
theorem all_spec:∀(N:Nat) (l:D) (b:Bool),Conf PG 36 l->l.size<N->Sm N l->cnt N l≤1000000->JN N [l, .bool b]=some [.list (flP N l b)]:=by
 intro N
 induction N with
 |zero=>intro l _ _ h;omega
 |succ N ih=>
  intro l b hc hs hm hn;rw[F222_s,Y8,Dc];have hlen:=(ca s36 hc).1;unfold maxLen at hlen
  have inner:∀s∈l.toList,∀(a:D) (c d:Int) (acc:List D),acc.length+((bj s).map (cnt N)).sum≤1000000->FD (JN N) [.bool b,a, .int c, .int d, .list (bj s), .int ((bj s).length:Int),s] [.int 0, .list acc] =
   some [.int 0, .list (acc++(bj s).flatMap fun x=>flP N x (b||bU s))]:=by
   intro s hsm a c d acc hacc;obtain⟨h1,h2⟩:=bZ hc hsm;have hk:=(hm s hsm).2;have hcm:=nw (N:=N) hsm;have hfl:((bj s).flatMap fun x=>flP N x (b||bU s)).length=((bj s).map (cnt N)).sum:=dF _ fun x _=>vP N x _
   rw[Db];have hkl:(bj s).length≤100002:=by have:=(hm s hsm).1;simp[bj];omega
   have hloop:=(dj (A:=List D) (st:=vH (JN N) [.bool b,a, .int c, .int d, .list (bj s), .int ((bj s).length:Int),s]) (n:=(bj s).length) (enc:=fun i m=>[.int (i:Int), .list m])
    (f:=fun i m=>m++flP N ((bj s).getD i .other) (b||bU s)) (fin:=fun m=>[.int 0, .list m]) (I:=fun i m=>m=acc++((bj s).take i).flatMap fun x=>flP N x (b||bU s))
    (fun m _=>by rw[zY];simp[ay]) (fun i m hi hI=>by
     have hx:(bj s).getD i .other∈bj s:=by rw[getD_lt hi];exact b7 hi
     obtain⟨k1,k2⟩:=bk h1 hx;have hc2:=jC (N:=N) hx;have e:=fun b'=>ih _ b' k1 (by omega) (hk _ hx) (by omega)
     have hq:ax (.list (bj s)) (i:Int)=(bj s).getD i .other:=by rw[bl];rfl
     have hin:aS (.list (bj s)) (i:Int)=true:=aX (d:= .list (bj s)) hi;have hI':m++flP N ((bj s).getD i .other) (b||bU s)=acc++((bj s).take (i+1)).flatMap fun x=>flP N x (b||bU s):=by rw[gk hi,hI,cy]
     refine⟨?_,hI'⟩
     have hml:(m++flP N ((bj s).getD i .other) (b||bU s)).length≤1000000000:=by
      rw[hI',bN];have:=gu (f:=fun x=>flP N x (b||bU s)) (l:=bj s) (i+1)
      omega
     rw[zY];simp only[ay,show(i:Int)<((bj s).length:Int)by omega,ba,ap,hin,hq,e,aq,aw,aU,cM,bF,aB]
     rw[bg (by omega)]
     cases b with
     |true=>simp only[l7,ap]at hml ⊢;rw[aY hml (by omega)];rfl
     |false=>
      simp only[lP,aJ]at hml ⊢;by_cases h7:ah (aa s 0)=7
      ·have hl:bU s=true:=by simp[bU,h7]
       rw[hl]at hml ⊢;simp only[h7,ba,ap];rw[aY hml (by omega)];rfl
      ·have hl:bU s=decide (ah (aa s 0)=8):=by simp[bU,h7]
       rw[hl]at hml ⊢
       simp only[h7,bi,aJ];rw[aY hml (by omega)];rfl) (a:=acc) (by simp))
   obtain⟨g1,g2⟩:=hloop;rw[eW (aP _)]at g2;rw[g2]at g1;exact g1
  have hflen:=vP (N+1) l b
  have hloop:=(dj (A:=List D) (st:=vI (JN N) [.bool b,l, .int (ac l)]) (n:=l.toList.length) (enc:=fun i m=>[.int (i:Int), .list m])
   (f:=fun i m=>m++(.agg [l.toList.getD i .other, .bool b]::(bj (l.toList.getD i .other)).flatMap fun x=>flP N x (b||bU (l.toList.getD i .other)))) (fin:=fun m=>[.int 0, .list m])
   (I:=fun i m=>m=(l.toList.take i).flatMap fun s=> .agg [s, .bool b]::(bj s).flatMap fun x=>flP N x (b||bU s))
   (fun m _=>by rw[z0,aK];simp[ay]) (fun i m hi hI=>by
    have hx:l.toList.getD i .other∈l.toList:=by rw[getD_lt hi];exact b7 hi
    obtain⟨h1,h2⟩:=bZ hc hx
    have hI':m++(.agg [l.toList.getD i .other, .bool b]::(bj (l.toList.getD i .other)).flatMap fun x=>flP N x (b||bU (l.toList.getD i .other))) =
     (l.toList.take (i+1)).flatMap fun s=> .agg [s, .bool b]::(bj s).flatMap fun x=>flP N x (b||bU s):=by
     rw[gk (f:=fun s=> .agg [s, .bool b]::(bj s).flatMap fun x=>flP N x (b||bU s)) hi,hI]
    refine⟨?_,hI'⟩
    have hlt:=gu (f:=fun s=> .agg [s, .bool b]::(bj s).flatMap fun x=>flP N x (b||bU s)) (l:=l.toList) (i+1)
    simp only[flP]at hflen;have hfl:((bj (l.toList.getD i .other)).flatMap fun x=>flP N x (b||bU (l.toList.getD i .other))).length=((bj (l.toList.getD i .other)).map (cnt N)).sum:=dF _ fun x _=>vP N x _
    rw[<- hI',bN,ce,hfl]at hlt;have hre:D.agg [D.int (ah (aa (l.toList.getD i .other) 0)),D.int (ah (aa (l.toList.getD i .other) 1)),D.str (aC (aa (l.toList.getD i .other) 2)),aa (l.toList.getD i .other) 3,aa (l.toList.getD i .other) 4,aa (l.toList.getD i .other) 5,aa (l.toList.getD i .other) 6]=l.toList.getD i .other:=qv h1;rw[z0,aK,aX hi,bl,AH (hm _ hx).1,hre];simp only[ay,show(i:Int)<(l.toList.length:Int)by omega,ba,ap,aq,aw,aU,bI,bF,cM]
    rw[aY (by rw[bN,ce,cZ];omega) (by omega),inner _ hx _ _ _ _ (by rw[bN,ce,cZ];omega)]
    simp only[aq,aw,aU,bI,ap,cy,fV,dY]
    rw[bg (by omega)]) (a:=[]) (by simp))
  obtain⟨g1,g2⟩:=hloop;rw[eW (aP _)]at g2;rw[g2]at g1;simp only[bV]at g1;simp only[g1,aq,aw,aU,bI,ap,flP]
set_option maxHeartbeats 1000000 in
theorem UC:∀(N:Nat) (l:D) (b:Bool),Conf PG 36 l->l.size<N->Sm N l->cnt N l≤1000000->Jw N [l, .bool b]=some [.list (flR N l b)]:=by
 intro N
 induction N with
 |zero=>intro l _ _ h;omega
 |succ N ih=>
  intro l b hc hs hm hn;rw[F228_s,Yy,C3];have hlen:=(ca s36 hc).1;unfold maxLen at hlen
  have inner:∀i,i<l.toList.length->∀(acc:List D),acc.length+((aa (l.toList.getD i .other) 6).toList.map (cnt N)).sum≤1000000->zC (Jw N) [l, .bool b, .int (i:Int)] [.int 0, .list acc] =
   some [.int 0, .list (acc++(aa (l.toList.getD i .other) 6).toList.flatMap fun x=>flR N x b)]:=by
   intro j hj acc hacc;have hsm:l.toList.getD j .other∈l.toList:=by rw[getD_lt hj];exact b7 hj
   have hgj:ax l (j:Int)=l.toList.getD j .other:=bl _ _;generalize l.toList.getD j .other=s at *;obtain⟨h1,h2⟩:=bZ hc hsm;have hk:=(hm s hsm).2;have hcm:=nw (N:=N) hsm;have hfl:((aa s 6).toList.flatMap fun x=>flR N x b).length=((aa s 6).toList.map (cnt N)).sum:=dF _ fun x _=>jD N x _
   rw[C2];have hkl:(aa s 6).toList.length≤100000:=(hm s hsm).1
   have hloop:=(dj (A:=List D) (st:=vz (Jw N) [l, .bool b, .int (j:Int)]) (n:=(aa s 6).toList.length) (enc:=fun i m=>[.int (i:Int), .list m])
    (f:=fun i m=>m++flR N ((aa s 6).toList.getD i .other) b) (fin:=fun m=>[.int 0, .list m]) (I:=fun i m=>m=acc++((aa s 6).toList.take i).flatMap fun x=>flR N x b)
    (fun m _=>by rw[zB,aX hj,hgj,aK];simp[ay]) (fun i m hi hI=>by
     have hx0:(aa s 6).toList.getD i .other∈(aa s 6).toList:=by rw[getD_lt hi];exact b7 hi
     have hx:(aa s 6).toList.getD i .other∈bj s:=by unfold bj;simp only[cU];exact .inr (.inr hx0)
     obtain⟨k1,k2⟩:=bk h1 hx;have hc2:=jC (N:=N) hx;have e:=ih _ b k1 (by omega) (hk _ hx) (by omega)
     have hI':m++flR N ((aa s 6).toList.getD i .other) b=acc++((aa s 6).toList.take (i+1)).flatMap fun x=>flR N x b:=by rw[gk hi,hI,cy]
     refine⟨?_,hI'⟩
     have hml:(m++flR N ((aa s 6).toList.getD i .other) b).length≤1000000000:=by
      rw[hI',bN];have:=gu (f:=fun x=>flR N x b) (l:=(aa s 6).toList) (i+1)
      omega
     rw[zB,aX hj,hgj,aK,aX hi,bl,e];simp only[ay,show(i:Int)<((aa s 6).toList.length:Int)by omega,ba,ap,aq,aw,aU,cM,bF]
     rw[bg (by omega),aY hml (by omega)];rfl) (a:=acc) (by simp))
   obtain⟨g1,g2⟩:=hloop;rw[eW (aP _)]at g2;rw[g2]at g1;exact g1
  have hflen:=jD (N+1) l b
  have hloop:=(dj (A:=List D) (st:=vB (Jw N) [l, .bool b]) (n:=l.toList.length) (enc:=fun i m=>[.int (i:Int), .list m])
   (f:=fun i m=>m++(.agg [l.toList.getD i .other, .bool b]::(flR N (aa (l.toList.getD i .other) 4) (b||bU (l.toList.getD i .other))++flR N (aa (l.toList.getD i .other) 5) b++(aa (l.toList.getD i .other) 6).toList.flatMap fun x=>flR N x b))) (fin:=fun m=>[.int 0, .list m])
   (I:=fun i m=>m=(l.toList.take i).flatMap fun s=> .agg [s, .bool b]::(flR N (aa s 4) (b||bU s)++flR N (aa s 5) b++(aa s 6).toList.flatMap fun x=>flR N x b))
   (fun m _=>by rw[zE,aK];simp[ay]) (fun i m hi hI=>by
    have hx:l.toList.getD i .other∈l.toList:=by rw[getD_lt hi];exact b7 hi
    obtain⟨h1,h2⟩:=bZ hc hx
    have hI':m++(.agg [l.toList.getD i .other, .bool b]::(flR N (aa (l.toList.getD i .other) 4) (b||bU (l.toList.getD i .other))++flR N (aa (l.toList.getD i .other) 5) b++(aa (l.toList.getD i .other) 6).toList.flatMap fun x=>flR N x b)) =
     (l.toList.take (i+1)).flatMap fun s=> .agg [s, .bool b]::(flR N (aa s 4) (b||bU s)++flR N (aa s 5) b++(aa s 6).toList.flatMap fun x=>flR N x b):=by
     rw[gk (f:=fun s=> .agg [s, .bool b]::(flR N (aa s 4) (b||bU s)++flR N (aa s 5) b++(aa s 6).toList.flatMap fun x=>flR N x b)) hi,hI]
    refine⟨?_,hI'⟩
    have hlt:=gu (f:=fun s=> .agg [s, .bool b]::(flR N (aa s 4) (b||bU s)++flR N (aa s 5) b++(aa s 6).toList.flatMap fun x=>flR N x b)) (l:=l.toList) (i+1)
    simp only[flR]at hflen;have hinn:=inner i hi;have hgi:ax l (i:Int)=l.toList.getD i .other:=bl _ _;have hkk:=(hm _ hx).2;have hcm:=nw (N:=N) hx;generalize l.toList.getD i .other=s at *;have k4:aa s 4∈bj s:=by simp[bj]
    have k5:aa s 5∈bj s:=by simp[bj]
    have hfl:((aa s 6).toList.flatMap fun x=>flR N x b).length=((aa s 6).toList.map (cnt N)).sum:=dF _ fun x _=>jD N x _
    have hl4:=jD N (aa s 4) (b||bU s)
    have hl5:=jD N (aa s 5) b;rw[<- hI',bN,ce,bN,bN,hfl,hl4,hl5]at hlt;have e4:=fun b'=>ih _ b' (bk h1 k4).1 (by have:=(bk h1 k4).2;omega) (hkk _ k4) (by have:=jC (N:=N) k4;omega)
    have e5:=ih _ b (bk h1 k5).1 (by have:=(bk h1 k5).2;omega) (hkk _ k5) (by have:=jC (N:=N) k5;omega)
    have hre:D.agg [D.int (ah (aa s 0)),D.int (ah (aa s 1)),D.str (aC (aa s 2)),aa s 3,aa s 4,aa s 5,aa s 6]=s:=qv h1;have m1:ci ((m ++ [D.agg [s, .bool b]]).length:Int) 136=true:=aY (by rw[bN,ce,cZ];omega) (by omega)
    have m2:ci ((m ++ [D.agg [s, .bool b]]++flR N (aa s 4) (b||bU s)).length:Int) 136=true:=aY (by rw[bN,bN,ce,cZ,hl4];omega) (by omega)
    have m3:ci ((m ++ [D.agg [s, .bool b]]++flR N (aa s 4) (b||bU s)++flR N (aa s 5) b).length:Int) 136=true:=aY (by rw[bN,bN,bN,ce,cZ,hl4,hl5];omega) (by omega)
    have hin:=hinn (m ++ [D.agg [s, .bool b]]++flR N (aa s 4) (b||bU s)++flR N (aa s 5) b) (by rw[bN,bN,bN,ce,cZ,hl4,hl5];omega)
    rw[zE,aK,aX hi,hgi,hre];simp only[ay,show(i:Int)<(l.toList.length:Int)by omega,ba,ap,bF,cM,m1,e4,e5,aq,aw,aU,aB]
    have fin:D.list (m ++ [D.agg [s, .bool b]]++flR N (aa s 4) (b||bU s)++flR N (aa s 5) b++(aa s 6).toList.flatMap fun x=>flR N x b)=D.list (m++(.agg [s, .bool b]::(flR N (aa s 4) (b||bU s)++flR N (aa s 5) b++(aa s 6).toList.flatMap fun x=>flR N x b))):=by simp
    rw[<- fin];cases b with
    |true=>
     simp only[l7]at m2 m3 hin ⊢;simp only[m2,m3,hin,aq,aw,aU,bI,ap,bg (show i<9223372036854775807 by omega)]
    |false=>
     simp only[lP,aJ]at m2 m3 hin ⊢;by_cases h7:ah (aa s 0)=7
     ·have hl:bU s=true:=by simp[bU,h7]
      rw[hl]at m2 m3 hin ⊢;simp only[h7,ba,m2,m3,hin,aq,aw,aU,bI,ap,bg (show i<9223372036854775807 by omega)]
     ·have hl:bU s=decide (ah (aa s 0)=8):=by simp[bU,h7]
      rw[hl]at m2 m3 hin ⊢
      simp only[h7,bi,aJ,m2,m3,hin,aq,aw,aU,bI,ap,bg (show i<9223372036854775807 by omega)]) (a:=[]) (by simp))
  obtain⟨g1,g2⟩:=hloop;rw[eW (aP _)]at g2;rw[g2]at g1;simp only[bV]at g1;simp only[g1,aq,aw,aU,bI,ap,flR]
noncomputable def iL:Nat->D->Int->Nat
 |0,_,_=>0
 |N+1,l,m=>if l.toList.length=0∨m<0 then 0 else 1+eq (l.toList.map fun s=>eq ((bj s).map fun x=>iL N x (m-1)))
theorem AI {α:Type} {f g:α->Nat} {k:Nat}:∀(l:List α),(∀x∈l,f x=min (g x) k)->eq (l.map f)=min (eq (l.map g)) k
 | [],_=>by simp[eq]
 |x::l,h=>by
  have:=AI l fun y hy=>h y (by simp[hy])
  have:=h x (by simp)
  simp only[eq,bW,qO]at *;omega
theorem Dt {α:Type} {f:α->Nat}:∀(l:List α),l≠[]->eq (l.map fun x=>1+f x)=1+eq (l.map f)
 | [x],_=>by simp[eq]
 |x::y::l,_=>by
  have:=Dt (f:=f) (y::l) (by simp)
  simp only[eq,bW,qO]at *;omega
theorem Ge:∀(N:Nat) (l:D) (m:Nat),iL N l ((m:Int)-1)=min (dep N l) m
 |0,_,_=>by simp[iL,dep]
 |N+1,l,0=>by simp[iL]
 |N+1,l,m+1=>by
  simp only[iL,dep];by_cases h:l.toList.length=0
  ·have:l.toList = []:=gv.1 h;simp[this,eq]
  ·have hne:l.toList≠[]:=fun e=>h (by rw[e];rfl)
   rw[if_neg (by omega),Dt _ hne]
   have:eq (l.toList.map fun s=>eq ((bj s).map fun x=>iL N x (((m+1:Nat):Int)-1-1)))=min (eq (l.toList.map fun s=>eq ((bj s).map (dep N)))) m:=
    AI _ fun s _=>AI _ fun x _=>by
     rw[show((m+1:Nat):Int)-1-1=(m:Int)-1 by omega];exact Ge N x m
   rw[this];omega
theorem ite_max (a b:Nat):fG (decide ((b:Int)<(a:Int))) (a:Int) (b:Int)=((max b a:Nat):Int):=by
 rw[eC];by_cases h:b<a<;>simp[h]<;>omega
theorem depC_le (N:Nat) (l:D) (m:Int) (h: -1≤m):iL N l m≤cnt N l:=by
 obtain⟨k,rfl⟩:∃k:Nat,m=(k:Int)-1:=⟨(m+1).toNat,by omega⟩
 rw[Ge];have:=Or N l;omega
theorem Ov (f:D->Nat) (s:D) (b:Nat):max (max (max b (f (aa s 4))) (f (aa s 5))) (eq ((aa s 6).toList.map f))=max b (eq ((bj s).map f)):=by
 simp only[bj,eq,bW,qO];omega
theorem Ky:∀(N:Nat) (l:D) (m:Int),Conf PG 36 l->l.size<N->Sm N l->cnt N l≤1000000-> -1≤m->m≤1000000->Js N [l, .int m]=some [.int (iL N l m)]:=by
 intro N
 induction N with
 |zero=>intro l _ _ h;omega
 |succ N ih=>
  intro l m hc hs hm hn hm0 hm1;rw[F227_s,Yu,C1];have hlen:=(ca s36 hc).1;unfold maxLen at hlen;simp only[aK,bR,aB,ay];by_cases hz:l.toList.length=0∨m<0
  ·have:(bif decide ((l.toList.length:Int)=0)then true else decide (m<0))=true:=by
    rcases hz with h|h
    ·simp[h]
    ·by_cases h':l.toList.length=0<;>simp[h,h']
   rw[this];simp only[ap,iL,if_pos hz];rfl
  ·have h1':¬((l.toList.length:Int)=0):=fun h=>hz (.inl (by omega))
   have h2':¬m<0:=fun h=>hz (.inr h)
   simp only[h1',h2',bi,aJ];have hsub:aM .sub .i64 m 1=m-1:=fQ (by omega) (by omega)
   have inner:∀i,i<l.toList.length->∀(b:Nat),vx (Js N) [l, .int m, .int (i:Int)] [.int (b:Int), .int 0] =
    some [.int 0, .int ((max b (eq ((aa (l.toList.getD i .other) 6).toList.map fun x=>iL N x (m-1))):Nat):Int)]:=by
    intro j hj b;have hsm:l.toList.getD j .other∈l.toList:=by rw[getD_lt hj];exact b7 hj
    have hgj:ax l (j:Int)=l.toList.getD j .other:=bl _ _;generalize l.toList.getD j .other=s at *;obtain⟨h1,h2⟩:=bZ hc hsm;have hk:=(hm s hsm).2;have hcm:=nw (N:=N) hsm;rw[zy];have hkl:(aa s 6).toList.length≤100000:=(hm s hsm).1
    have hloop:=(dj (A:=Nat) (st:=qa (Js N) [l, .int m, .int (j:Int)]) (n:=(aa s 6).toList.length) (enc:=fun i b=>[.int (b:Int), .int (i:Int)])
     (f:=fun i b=>max b (iL N ((aa s 6).toList.getD i .other) (m-1))) (fin:=fun b=>[.int 0, .int (b:Int)]) (I:=fun _ _=>True)
     (fun m _=>by rw[tZ,aX hj,hgj,aK];simp[ay]) (fun i b hi _=>by
      have hx0:(aa s 6).toList.getD i .other∈(aa s 6).toList:=by rw[getD_lt hi];exact b7 hi
      have hx:(aa s 6).toList.getD i .other∈bj s:=by unfold bj;simp only[cU];exact .inr (.inr hx0)
      obtain⟨k1,k2⟩:=bk h1 hx;have hc2:=jC (N:=N) hx;have e:=ih _ (m-1) k1 (by omega) (hk _ hx) (by omega) (by omega) (by omega)
      refine⟨?_,trivial⟩
      rw[tZ,aX hj,hgj,aK,aX hi,bl,hsub,e];generalize iL N ((aa s 6).toList.getD i .other) (m-1)=d;simp only[ay,ck,show(i:Int)<((aa s 6).toList.length:Int)by omega,ba,ap,aq,aw,aU,aF]
      rw[bg (by omega)]
      by_cases h:b<d
      ·simp[h,show max b d=d by omega]
      ·simp[h,show max b d=b by omega]) (a:=b) trivial).1
    rw[fD (g:=fun x b=>max b (iL N x (m-1))),kN (fun x=>iL N x (m-1))]at hloop
    exact hloop
   have hloop:=(dj (A:=Nat) (st:=vy (Js N) [l, .int m]) (n:=l.toList.length) (enc:=fun i b=>[.int (b:Int), .int (i:Int)])
    (f:=fun i b=>max b (eq ((bj (l.toList.getD i .other)).map fun x=>iL N x (m-1)))) (fin:=fun b=>[.int 0, .int (b:Int)]) (I:=fun _ _=>True)
    (fun m _=>by rw[zz,aK];simp[ay]) (fun i b hi _=>by
     have hx:l.toList.getD i .other∈l.toList:=by rw[getD_lt hi];exact b7 hi
     have hinn:=inner i hi;have hgi:ax l (i:Int)=l.toList.getD i .other:=bl _ _;have hkk:=(hm _ hx).2;have hcm:=nw (N:=N) hx;obtain⟨h1,h2⟩:=bZ hc hx;generalize l.toList.getD i .other=s at *;have k4:aa s 4∈bj s:=by simp[bj]
     have k5:aa s 5∈bj s:=by simp[bj]
     have e4:=ih _ (m-1) (bk h1 k4).1 (by have:=(bk h1 k4).2;omega) (hkk _ k4) (by have:=jC (N:=N) k4;omega) (by omega) (by omega)
     have e5:=ih _ (m-1) (bk h1 k5).1 (by have:=(bk h1 k5).2;omega) (hkk _ k5) (by have:=jC (N:=N) k5;omega) (by omega) (by omega)
     have hmx:=Ov (fun x=>iL N x (m-1)) s b
     refine⟨?_,trivial⟩
     rw[zz,aK,aX hi,hgi,hsub,e4,e5];simp only[ay,ck,show(i:Int)<(l.toList.length:Int)by omega,ba,ap,aq,aw,aU,bI,aF,ite_max,hinn,hmx]
     rw[bg (by omega)]) (a:=0) trivial).1
   rw[fD (g:=fun s b=>max b (eq ((bj s).map fun x=>iL N x (m-1)))),kN (fun s=>eq ((bj s).map fun x=>iL N x (m-1)))]at hloop
   simp only[bV,Nat.zero_max]at hloop;have hle:=depC_le (N+1) l m hm0;simp only[iL,hz,bb]at hle;simp only[hloop,aq,aw,aU,bI,aF,ap,iL,hz,bb];rw[bg (by omega),Nat.add_comm]
theorem deep_iff {N:Nat} {l:D}:(64<dep N l)↔(64<iL N l 65):=by
 have:=Ge N l 66;rw[show((66:Nat):Int)-1=65 from rfl]at this
 rw[this];omega
noncomputable def fm (x:D):Bool:=fmd (x.size+1) x
theorem Rr {x:D} (h:Conf PG 25 x):q86 [x]=some [.bool (fm x)]∧MO [x]=some [.bool (fm x)]:=by
 obtain⟨a,b⟩:=fmd_spec (aW [x]) x h (cu (by simp))
 have:fmd (aW [x]) x=fm x:=Gb _ _ x (cu (by simp)) (by omega)
 rw[this]at a b;exact⟨by rw[Xf];exact a,by rw[Qp];exact b⟩
theorem s23':mJ 23 25=true:=by kernel_rfl
theorem iM {s:D} (h:Conf PG 187 s):(aa s 3).toList.length≤maxLen∧∀x∈(aa s 3).toList,Conf PG 25 x:=by
 have h3:Conf PG 23 (aa s 3):=by rw[bA];exact bq f187_3 h
 exact⟨(ca s23' h3).1,(ca s23' h3).2.2⟩
theorem UD {s:D} (h:Conf PG 187 s):(aC (aa s 2)).size≤maxLen:=by rw[bA];exact eF (bq f187_2 h)
theorem Kz {l:D} {p:D->Bool} (hl:l.toList.length≤maxLen) (hc:∀x∈l.toList,q86 [x]=some [.bool (p x)]):mT [l]=some [.bool (l.toList.any fun x=> !p x)]:=by
 rw[uk,J7,uj,J5,nT];rcases cA (st:=jA [l, .int (ac l)]) (c:=fun x=>mS [x]) (p:=fun x=> !p x) (r1:=fun i=>[.int 1, .int i]) (r0:=[.int 0]) (fun i=>Am l (ac l) i) hl (fun x hx=>by rw[uh,J3,hc x hx];simp[aq,aw,aL,bO])with⟨h1,h2⟩|⟨i,h1,h2⟩
 ·simp[h1,h2,aq,aw,aF,aB,bB]
 ·simp[h1,h2,aq,aw,aF,aB,bB]
def iN (k w:Int) (n3 n4 n5 n6:Nat) (nm e:Bool):Bool:=
 if k=1 then nm&&decide (w=0)&&decide (n3=1)&&decide (n4=0)&&decide (n5=0)&&decide (n6=0)
 else if k=2 then e&&(decide (w=1)||decide (w=2)||decide (w=4))&&decide (n3=2)&&decide (n4=0)&&decide (n5=0)&&decide (n6=0)
 else if k=3 then nm&&decide (w=0)&&decide (n3=0)&&decide (n4=0)&&decide (n5=0)&&decide (n6=0)
 else if k=4 then e&&decide (w=0)&&decide (n3=1)&&decide (n4=0)&&decide (n5=0)&&decide (n6=0)
 else if k=5 then nm&&decide (w=0)&&decide (n3=0)&&decide (n4=0)&&decide (n5=0)&&decide (n6=0)
 else if k=6 then e&&decide (w=0)&&decide (n3=1)&&decide (n6=0)
 else if k=7 then e&&decide (w=0)&&decide (n3=1)&&decide (n5=0)&&decide (n6=0)
 else if k=8 then e&&decide (w=0)&&decide (n3=0)&&decide (n5=0)&&decide (n6=0)
 else if k=9 then e&&decide (w=0)&&decide (n3=1)&&decide (n4=0)&&decide (n5=0)&&(!decide (n6<1) && !decide (64<n6))
 else if k=10 then e&&decide (w=0)&&decide (n3=0)&&decide (n4=0)&&decide (n5=0)&&decide (n6=0)
 else if k=11 then e&&decide (w=0)&&decide (n3=0)&&decide (n4=0)&&decide (n5=0)&&decide (n6=0)
 else if k=12 then nm&&decide (w=0)&&decide (n3=0)&&decide (n4=0)&&decide (n5=0)&&decide (n6=0)
 else if k=13 then nm&&decide (w=0)&&decide (n3=0)&&decide (n4=0)&&decide (n5=0)&&decide (n6=0)
 else if k=14 then e&&decide (w=0)&&decide (n3=0)&&decide (n4=0)&&decide (n5=0)&&decide (n6=0)
 else if k=15 then e&&decide (w=0)&&decide (n3=0)&&decide (n4=0)&&decide (n5=0)&&decide (n6=0)
 else false
noncomputable def stB (s:D):Bool:=iN (ah (aa s 0)) (ah (aa s 1)) (aa s 3).toList.length (aa s 4).toList.length (aa s 5).toList.length (aa s 6).toList.length (gK (aC (aa s 2))) (cD .eql (aC (aa s 2)) (ByteArray.mk #[]))&&(aa s 3).toList.all fm
set_option maxHeartbeats 2000000 in
theorem Du {s:D} (h:Conf PG 187 s):q243 [s]=some [.bool (stB s)]∧q248 [s]=some [.bool (stB s)]:=by
 obtain⟨l3,e3⟩:=iM h;obtain⟨a1,a2⟩:=eG (UD h);have hcon:=Kz (p:=fm) l3 (fun x hx=>(Rr (e3 x hx)).1)
 have hloop:=cA (st:=qb [s]) (l:=aa s 3) (c:=fun x=>(MO [x]).map fun r=>[.bool (b8 (aT (r.getD 0 .other)))]) (p:=fun x=> !fm x) (r1:=fun _=>[.int 1]) (r0:=[.int 0])
  (fun i=>by
   rw[Ny];cases hq:MO [ax (aa s 3) i]with
   |none=>simp[ia]
   |some r=>simp[aq,aw,aL]) l3 (fun x hx=>by rw[(Rr (e3 x hx)).2];simp[aL,bO])
 have hall:(aa s 3).toList.all fm = !((aa s 3).toList.any fun x=> !fm x):=by rw[wh];simp
 rw[Q1,F243_eq,QL,F248_eq,QK,F264_eq,C4,hcon,a1,a2];unfold stB;rw[hall];have hr:∃r,loW (qb [s]) [.int 0]=some [.int r]∧decide (r=0) = !((aa s 3).toList.any fun x=> !fm x):=by
  rcases hloop with⟨b1,b2⟩|⟨_,b1,b2⟩
  ·exact⟨0,b1,by rw[b2];rfl⟩
  ·exact⟨1,b1,by rw[b2];rfl⟩
 obtain⟨r,hr1,hr2⟩:=hr;simp only[hr1,aq,aw,aU,bI,aL,aF,bO,aB,cp,ay,ck,bR,Dq,aK,ap,hr2,ba,bS];clear hr1 hr2 hloop hcon hall a1 a2 e3 l3;have g:∀n:Nat,decide (0<(n:Int)) = !decide (n=0):=fun n=>by by_cases h:n=0<;>simp[h]<;>omega
 have g0:∀n:Nat,decide ((n:Int)=0)=decide (n=0):=fun n=>by by_cases h:n=0<;>simp[h]
 have g1:∀n:Nat,decide ((n:Int)=1)=decide (n=1):=fun n=>by by_cases h:n=1<;>simp[h]<;>omega
 have g2:∀n:Nat,decide ((n:Int)=2)=decide (n=2):=fun n=>by by_cases h:n=2<;>simp[h]<;>omega
 have g3:∀n:Nat,decide ((n:Int)<1)=decide (n<1):=fun n=>by by_cases h:n<1<;>simp[h]<;>omega
 have g4:∀n:Nat,decide ((64:Int)<(n:Int))=decide (64<n):=fun n=>by by_cases h:64<n<;>simp[h]<;>omega
 simp only[g,g0,g1,g2,g3,g4];generalize ((aa s 3).toList.any fun x=> !fm x)=af
 generalize gK (aC (aa s 2))=nm;generalize cD .eql (aC (aa s 2)) (ByteArray.mk #[])=e;generalize (aa s 3).toList.length=n3;generalize (aa s 4).toList.length=n4;generalize (aa s 5).toList.length=n5;generalize (aa s 6).toList.length=n6;generalize ah (aa s 1)=w;generalize ah (aa s 0)=k;clear h;unfold iN;have hk:k=1∨k=2∨k=3∨k=4∨k=5∨k=6∨k=7∨k=8∨k=9∨k=10∨k=11∨k=12∨k=13∨k=14∨k=15∨(¬k=1∧¬k=2∧¬k=3∧¬k=4∧¬k=5∧¬k=6∧¬k=7∧¬k=8∧¬k=9∧¬k=10∧¬k=11∧¬k=12∧¬k=13∧¬k=14∧¬k=15):=by omega
 rcases hk with rfl|rfl|rfl|rfl|rfl|rfl|rfl|rfl|rfl|rfl|rfl|rfl|rfl|rfl|rfl|⟨h1,h2,h3,h4,h5,h6,h7,h8,h9,h10,h11,h12,h13,h14,h15⟩
 ·simp only[show¬((1:Int)=2)by omega,show¬((1:Int)=3)by omega,show¬((1:Int)=4)by omega,show¬((1:Int)=5)by omega,show¬((1:Int)=6)by omega,show¬((1:Int)=7)by omega,show¬((1:Int)=8)by omega,show¬((1:Int)=9)by omega,show¬((1:Int)=10)by omega,show¬((1:Int)=11)by omega,show¬((1:Int)=12)by omega,show¬((1:Int)=13)by omega,show¬((1:Int)=14)by omega,show¬((1:Int)=15)by omega,ba,bi,ap,aJ,be,bb,bS,df,aF,aL,aw,aU,bI,aq,g,g0,g1,g2,g3,g4]
  generalize decide (n3=1)=b0;generalize decide (n4=0)=b1;generalize decide (n5=0)=b2;generalize decide (n6=0)=b3;generalize decide (w=0)=b4;constructor<;>cases b0<;>cases b1<;>cases b2<;>cases b3<;>cases b4<;>cases nm<;>cases af<;>rfl
 ·simp only[show¬((2:Int)=1)by omega,show¬((2:Int)=3)by omega,show¬((2:Int)=4)by omega,show¬((2:Int)=5)by omega,show¬((2:Int)=6)by omega,show¬((2:Int)=7)by omega,show¬((2:Int)=8)by omega,show¬((2:Int)=9)by omega,show¬((2:Int)=10)by omega,show¬((2:Int)=11)by omega,show¬((2:Int)=12)by omega,show¬((2:Int)=13)by omega,show¬((2:Int)=14)by omega,show¬((2:Int)=15)by omega,ba,bi,ap,aJ,be,bb,bS,df,aF,aL,aw,aU,bI,aq,g,g0,g1,g2,g3,g4]
  generalize decide (n3=2)=b0;generalize decide (n4=0)=b1;generalize decide (n5=0)=b2;generalize decide (n6=0)=b3;generalize decide (w=1)=b4;generalize decide (w=2)=b5;generalize decide (w=4)=b6;constructor<;>cases b0<;>cases b1<;>cases b2<;>cases b3<;>cases b4<;>cases b5<;>cases b6<;>cases e<;>cases af<;>rfl
 ·simp only[show¬((3:Int)=1)by omega,show¬((3:Int)=2)by omega,show¬((3:Int)=4)by omega,show¬((3:Int)=5)by omega,show¬((3:Int)=6)by omega,show¬((3:Int)=7)by omega,show¬((3:Int)=8)by omega,show¬((3:Int)=9)by omega,show¬((3:Int)=10)by omega,show¬((3:Int)=11)by omega,show¬((3:Int)=12)by omega,show¬((3:Int)=13)by omega,show¬((3:Int)=14)by omega,show¬((3:Int)=15)by omega,ba,bi,ap,aJ,be,bb,bS,df,aF,aL,aw,aU,bI,aq,g,g0,g1,g2,g3,g4]
  generalize decide (n3=0)=b0;generalize decide (n4=0)=b1;generalize decide (n5=0)=b2;generalize decide (n6=0)=b3;generalize decide (w=0)=b4;constructor<;>cases b0<;>cases b1<;>cases b2<;>cases b3<;>cases b4<;>cases nm<;>cases af<;>rfl
 ·simp only[show¬((4:Int)=1)by omega,show¬((4:Int)=2)by omega,show¬((4:Int)=3)by omega,show¬((4:Int)=5)by omega,show¬((4:Int)=6)by omega,show¬((4:Int)=7)by omega,show¬((4:Int)=8)by omega,show¬((4:Int)=9)by omega,show¬((4:Int)=10)by omega,show¬((4:Int)=11)by omega,show¬((4:Int)=12)by omega,show¬((4:Int)=13)by omega,show¬((4:Int)=14)by omega,show¬((4:Int)=15)by omega,ba,bi,ap,aJ,be,bb,bS,df,aF,aL,aw,aU,bI,aq,g,g0,g1,g2,g3,g4]
  generalize decide (n3=1)=b0;generalize decide (n4=0)=b1;generalize decide (n5=0)=b2;generalize decide (n6=0)=b3;generalize decide (w=0)=b4;constructor<;>cases b0<;>cases b1<;>cases b2<;>cases b3<;>cases b4<;>cases e<;>cases af<;>rfl
 ·simp only[show¬((5:Int)=1)by omega,show¬((5:Int)=2)by omega,show¬((5:Int)=3)by omega,show¬((5:Int)=4)by omega,show¬((5:Int)=6)by omega,show¬((5:Int)=7)by omega,show¬((5:Int)=8)by omega,show¬((5:Int)=9)by omega,show¬((5:Int)=10)by omega,show¬((5:Int)=11)by omega,show¬((5:Int)=12)by omega,show¬((5:Int)=13)by omega,show¬((5:Int)=14)by omega,show¬((5:Int)=15)by omega,ba,bi,ap,aJ,be,bb,bS,df,aF,aL,aw,aU,bI,aq,g,g0,g1,g2,g3,g4]
  generalize decide (n3=0)=b0;generalize decide (n4=0)=b1;generalize decide (n5=0)=b2;generalize decide (n6=0)=b3;generalize decide (w=0)=b4;constructor<;>cases b0<;>cases b1<;>cases b2<;>cases b3<;>cases b4<;>cases nm<;>cases af<;>rfl
 ·simp only[show¬((6:Int)=1)by omega,show¬((6:Int)=2)by omega,show¬((6:Int)=3)by omega,show¬((6:Int)=4)by omega,show¬((6:Int)=5)by omega,show¬((6:Int)=7)by omega,show¬((6:Int)=8)by omega,show¬((6:Int)=9)by omega,show¬((6:Int)=10)by omega,show¬((6:Int)=11)by omega,show¬((6:Int)=12)by omega,show¬((6:Int)=13)by omega,show¬((6:Int)=14)by omega,show¬((6:Int)=15)by omega,ba,bi,ap,aJ,be,bb,bS,df,aF,aL,aw,aU,bI,aq,g,g0,g1,g2,g3,g4]
  generalize decide (n3=1)=b0;generalize decide (n4=0)=b1;generalize decide (n5=0)=b2;generalize decide (n6=0)=b3;generalize decide (w=0)=b4;constructor<;>cases b0<;>cases b1<;>cases b2<;>cases b3<;>cases b4<;>cases e<;>cases af<;>rfl
 ·simp only[show¬((7:Int)=1)by omega,show¬((7:Int)=2)by omega,show¬((7:Int)=3)by omega,show¬((7:Int)=4)by omega,show¬((7:Int)=5)by omega,show¬((7:Int)=6)by omega,show¬((7:Int)=8)by omega,show¬((7:Int)=9)by omega,show¬((7:Int)=10)by omega,show¬((7:Int)=11)by omega,show¬((7:Int)=12)by omega,show¬((7:Int)=13)by omega,show¬((7:Int)=14)by omega,show¬((7:Int)=15)by omega,ba,bi,ap,aJ,be,bb,bS,df,aF,aL,aw,aU,bI,aq,g,g0,g1,g2,g3,g4]
  generalize decide (n3=1)=b0;generalize decide (n4=0)=b1;generalize decide (n5=0)=b2;generalize decide (n6=0)=b3;generalize decide (w=0)=b4;constructor<;>cases b0<;>cases b1<;>cases b2<;>cases b3<;>cases b4<;>cases e<;>cases af<;>rfl
 ·simp only[show¬((8:Int)=1)by omega,show¬((8:Int)=2)by omega,show¬((8:Int)=3)by omega,show¬((8:Int)=4)by omega,show¬((8:Int)=5)by omega,show¬((8:Int)=6)by omega,show¬((8:Int)=7)by omega,show¬((8:Int)=9)by omega,show¬((8:Int)=10)by omega,show¬((8:Int)=11)by omega,show¬((8:Int)=12)by omega,show¬((8:Int)=13)by omega,show¬((8:Int)=14)by omega,show¬((8:Int)=15)by omega,ba,bi,ap,aJ,be,bb,bS,df,aF,aL,aw,aU,bI,aq,g,g0,g1,g2,g3,g4]
  generalize decide (n3=0)=b0;generalize decide (n4=0)=b1;generalize decide (n5=0)=b2;generalize decide (n6=0)=b3;generalize decide (w=0)=b4;constructor<;>cases b0<;>cases b1<;>cases b2<;>cases b3<;>cases b4<;>cases e<;>cases af<;>rfl
 ·simp only[show¬((9:Int)=1)by omega,show¬((9:Int)=2)by omega,show¬((9:Int)=3)by omega,show¬((9:Int)=4)by omega,show¬((9:Int)=5)by omega,show¬((9:Int)=6)by omega,show¬((9:Int)=7)by omega,show¬((9:Int)=8)by omega,show¬((9:Int)=10)by omega,show¬((9:Int)=11)by omega,show¬((9:Int)=12)by omega,show¬((9:Int)=13)by omega,show¬((9:Int)=14)by omega,show¬((9:Int)=15)by omega,ba,bi,ap,aJ,be,bb,bS,df,aF,aL,aw,aU,bI,aq,g,g0,g1,g2,g3,g4]
  generalize decide (n3=1)=b0;generalize decide (n4=0)=b1;generalize decide (n5=0)=b2;generalize decide (n6<1)=b3;generalize decide (64<n6)=b4;generalize decide (w=0)=b5;constructor<;>cases b0<;>cases b1<;>cases b2<;>cases b3<;>cases b4<;>cases b5<;>cases e<;>cases af<;>rfl
 ·simp only[show¬((10:Int)=1)by omega,show¬((10:Int)=2)by omega,show¬((10:Int)=3)by omega,show¬((10:Int)=4)by omega,show¬((10:Int)=5)by omega,show¬((10:Int)=6)by omega,show¬((10:Int)=7)by omega,show¬((10:Int)=8)by omega,show¬((10:Int)=9)by omega,show¬((10:Int)=11)by omega,show¬((10:Int)=12)by omega,show¬((10:Int)=13)by omega,show¬((10:Int)=14)by omega,show¬((10:Int)=15)by omega,ba,bi,ap,aJ,be,bb,bS,df,aF,aL,aw,aU,bI,aq,g,g0,g1,g2,g3,g4]
  generalize decide (n3=0)=b0;generalize decide (n4=0)=b1;generalize decide (n5=0)=b2;generalize decide (n6=0)=b3;generalize decide (w=0)=b4;constructor<;>cases b0<;>cases b1<;>cases b2<;>cases b3<;>cases b4<;>cases e<;>cases af<;>rfl
 ·simp only[show¬((11:Int)=1)by omega,show¬((11:Int)=2)by omega,show¬((11:Int)=3)by omega,show¬((11:Int)=4)by omega,show¬((11:Int)=5)by omega,show¬((11:Int)=6)by omega,show¬((11:Int)=7)by omega,show¬((11:Int)=8)by omega,show¬((11:Int)=9)by omega,show¬((11:Int)=10)by omega,show¬((11:Int)=12)by omega,show¬((11:Int)=13)by omega,show¬((11:Int)=14)by omega,show¬((11:Int)=15)by omega,ba,bi,ap,aJ,be,bb,bS,df,aF,aL,aw,aU,bI,aq,g,g0,g1,g2,g3,g4]
  generalize decide (n3=0)=b0;generalize decide (n4=0)=b1;generalize decide (n5=0)=b2;generalize decide (n6=0)=b3;generalize decide (w=0)=b4;constructor<;>cases b0<;>cases b1<;>cases b2<;>cases b3<;>cases b4<;>cases e<;>cases af<;>rfl
 ·simp only[show¬((12:Int)=1)by omega,show¬((12:Int)=2)by omega,show¬((12:Int)=3)by omega,show¬((12:Int)=4)by omega,show¬((12:Int)=5)by omega,show¬((12:Int)=6)by omega,show¬((12:Int)=7)by omega,show¬((12:Int)=8)by omega,show¬((12:Int)=9)by omega,show¬((12:Int)=10)by omega,show¬((12:Int)=11)by omega,show¬((12:Int)=13)by omega,show¬((12:Int)=14)by omega,show¬((12:Int)=15)by omega,ba,bi,ap,aJ,be,bb,bS,df,aF,aL,aw,aU,bI,aq,g,g0,g1,g2,g3,g4]
  generalize decide (n3=0)=b0;generalize decide (n4=0)=b1;generalize decide (n5=0)=b2;generalize decide (n6=0)=b3;generalize decide (w=0)=b4;constructor<;>cases b0<;>cases b1<;>cases b2<;>cases b3<;>cases b4<;>cases nm<;>cases af<;>rfl
 ·simp only[show¬((13:Int)=1)by omega,show¬((13:Int)=2)by omega,show¬((13:Int)=3)by omega,show¬((13:Int)=4)by omega,show¬((13:Int)=5)by omega,show¬((13:Int)=6)by omega,show¬((13:Int)=7)by omega,show¬((13:Int)=8)by omega,show¬((13:Int)=9)by omega,show¬((13:Int)=10)by omega,show¬((13:Int)=11)by omega,show¬((13:Int)=12)by omega,show¬((13:Int)=14)by omega,show¬((13:Int)=15)by omega,ba,bi,ap,aJ,be,bb,bS,df,aF,aL,aw,aU,bI,aq,g,g0,g1,g2,g3,g4]
  generalize decide (n3=0)=b0;generalize decide (n4=0)=b1;generalize decide (n5=0)=b2;generalize decide (n6=0)=b3;generalize decide (w=0)=b4;constructor<;>cases b0<;>cases b1<;>cases b2<;>cases b3<;>cases b4<;>cases nm<;>cases af<;>rfl
 ·simp only[show¬((14:Int)=1)by omega,show¬((14:Int)=2)by omega,show¬((14:Int)=3)by omega,show¬((14:Int)=4)by omega,show¬((14:Int)=5)by omega,show¬((14:Int)=6)by omega,show¬((14:Int)=7)by omega,show¬((14:Int)=8)by omega,show¬((14:Int)=9)by omega,show¬((14:Int)=10)by omega,show¬((14:Int)=11)by omega,show¬((14:Int)=12)by omega,show¬((14:Int)=13)by omega,show¬((14:Int)=15)by omega,ba,bi,ap,aJ,be,bb,bS,df,aF,aL,aw,aU,bI,aq,g,g0,g1,g2,g3,g4]
  generalize decide (n3=0)=b0;generalize decide (n4=0)=b1;generalize decide (n5=0)=b2;generalize decide (n6=0)=b3;generalize decide (w=0)=b4;constructor<;>cases b0<;>cases b1<;>cases b2<;>cases b3<;>cases b4<;>cases e<;>cases af<;>rfl
 ·simp only[show¬((15:Int)=1)by omega,show¬((15:Int)=2)by omega,show¬((15:Int)=3)by omega,show¬((15:Int)=4)by omega,show¬((15:Int)=5)by omega,show¬((15:Int)=6)by omega,show¬((15:Int)=7)by omega,show¬((15:Int)=8)by omega,show¬((15:Int)=9)by omega,show¬((15:Int)=10)by omega,show¬((15:Int)=11)by omega,show¬((15:Int)=12)by omega,show¬((15:Int)=13)by omega,show¬((15:Int)=14)by omega,ba,bi,ap,aJ,be,bb,bS,df,aF,aL,aw,aU,bI,aq,g,g0,g1,g2,g3,g4]
  generalize decide (n3=0)=b0;generalize decide (n4=0)=b1;generalize decide (n5=0)=b2;generalize decide (n6=0)=b3;generalize decide (w=0)=b4;constructor<;>cases b0<;>cases b1<;>cases b2<;>cases b3<;>cases b4<;>cases e<;>cases af<;>rfl
 ·simp only[h1,h2,h3,h4,h5,h6,h7,h8,h9,h10,h11,h12,h13,h14,h15,ba,bi,ap,aJ,be,bb,bS,df,aF,aL,aw,aU,bI,aq,g,g0,g1,g2,g3,g4,Bool.false_and];constructor<;>first|rfl|(simp;done)
end Go.Proofs.YtiojjmlccehpoaaGreat
namespace Go.Proofs.YtiojjmlccehpoaaGreat
noncomputable section
open Go Go.AM
theorem UE:∀(N M:Nat) (d:D) (n:Int),d.size<N->d.size<M->iK N d n=iK M d n:=by
 intro N
 induction N with
 |zero=>intro M d n h;omega
 |succ N ih=>
  intro M d n h1 h2;cases M with
  |zero=>omega
  |succ M=>
   simp only[iK]
   congr 1
   rw[fx];simp only[qN];constructor
   ·rintro⟨x,hx,h⟩;have:=eQ hx;exact⟨x,hx,by rw[<- ih M x _ (by omega) (by omega)];exact h⟩
   ·rintro⟨x,hx,h⟩;have:=eQ hx;exact⟨x,hx,by rw[ih M x _ (by omega) (by omega)];exact h⟩
theorem kn_irr (v:D):∀(N M:Nat) (d:D),d.size<N->d.size<M->kn N d v=kn M d v:=by
 intro N
 induction N with
 |zero=>intro M d h;omega
 |succ N ih=>
  intro M d h1 h2;cases M with
  |zero=>omega
  |succ M=>
   simp only[kn]
   congr 1
   rw[fx];simp only[bX];constructor
   ·intro h x hx;have:=mU hx;rw[<- ih M x (by omega) (by omega)];exact h x hx
   ·intro h x hx;have:=mU hx;rw[ih M x (by omega) (by omega)];exact h x hx
def dx (x:D):Bool:=iK (x.size+1) x 64
def kx (v x:D):Bool:=kn (x.size+1) x v
theorem Rs {x:D} (h:Conf PG 25 x):Tn [x, .int 64]=some [.bool (dx x)]∧q85 [x, .int 64]=some [.bool (!dx x)]:=by
 obtain⟨a,b⟩:=Ut (aW [x, .int 64]) x 64 h (cu (by simp)) (by omega) (by omega)
 have:iK (aW [x, .int 64]) x 64=dx x:=UE _ _ x 64 (cu (by simp)) (by omega)
 rw[this]at a b;exact⟨by rw[Qo];exact a,by rw[Xa];exact b⟩
theorem Rt {x v:D} (hv:v.toList.length≤maxLen) (h:Conf PG 25 x) (hf:fm x=true):q87 [x,v]=some [.bool (kx v x)]∧MS [x,v]=some [.bool (kx v x)]:=by
 have hf':fmd (aW [x,v]) x=true:=by rw[<- hf];exact Gb _ _ x (cu (by simp)) (by omega)
 obtain⟨a,b⟩:=Om hv (aW [x,v]) x h (cu (by simp)) hf'
 have:kn (aW [x,v]) x v=kx v x:=kn_irr v _ _ x (cu (by simp)) (by omega)
 rw[this]at a b;exact⟨by rw[XG];exact a,by rw[Qq];exact b⟩
def er (v:D) (s:ByteArray):Bool:=v.toList.any fun x=>(aC x).data.toList==s.data.toList
theorem vQ {v:D} (hv:v.toList.length≤maxLen) (s:ByteArray):∃j:Int,BU [v, .str s]=some [.int j]∧Ke [v, .str s]=some [.int j]∧decide (0≤j)=er v s∧j<v.toList.length∧ -1≤j:=by
 have key:∀k i:Nat,i+k=v.toList.length->(loW (qg [v, .str s, .int (ac v)]) [.int i]=some [.int 0]∧loW (qs [v, .str s]) [.int i]=some [.int 0]∧(v.toList.drop i).any (fun x=>(aC x).data.toList==s.data.toList)=false)∨
  ∃j:Nat,j<v.toList.length∧loW (qg [v, .str s, .int (ac v)]) [.int i]=some [.int 1, .int j]∧loW (qs [v, .str s]) [.int i]=some [.int 1, .int j]∧(v.toList.drop i).any (fun x=>(aC x).data.toList==s.data.toList)=true:=by
  unfold maxLen at hv;intro k
  induction k with
  |zero=>
   intro i hi;refine .inl ⟨?_,?_,?_⟩
   ·rw[bn,zP,aK,ay];simp only[show¬((i:Int)<v.toList.length)by omega,bi,aJ]
   ·rw[bn,Av,aK,ay];simp only[show¬((i:Int)<v.toList.length)by omega,bi,aJ]
   ·rw[iU (by omega)];rfl
  |succ k ih=>
   intro i hi;have hlt:i<v.toList.length:=by omega
   rw[bn,zP,bn,Av,aK,ay,aX hlt,bl,getD_lt hlt,iT hlt,List.any_cons,d9,d9];simp only[show((i:Int)<v.toList.length)by omega,ba,ap]
   have hc:(s.data.toList==(aC v.toList[i]).data.toList)=((aC v.toList[i]).data.toList==s.data.toList):=by
    rw[fx];simp only[fZ];exact⟨Eq.symm,Eq.symm⟩
   rw[hc];cases ((aC v.toList[i]).data.toList==s.data.toList)with
   |true=>exact .inr ⟨i,hlt,rfl,rfl,by simp⟩
   |false=>
    simp only[aJ,lP];rw[bg (by omega), <- aK]
    exact ih (i+1) (by omega)
 have h:=key v.toList.length 0 (by omega)
 simp only[bV,l5]at h;rw[QR,F116_eq,Q8,F122_eq,C7,Dj];unfold er;rcases h with⟨h1,h2,h3⟩|⟨j,hj,h1,h2,h3⟩
 ·refine⟨-1,?_,?_,by rw[h3];rfl,by omega,by omega⟩
  ·simp[h1,aq,aw,aF,aB]
  ·simp[h2,aq,aw,aF,aB]
 ·refine⟨j,?_,?_,by rw[h3];simp,by omega,by omega⟩
  ·simp[h1,aq,aw,aF,aB]
  ·simp[h2,aq,aw,aF,aB]
theorem ff {v:D} (hv:v.toList.length≤maxLen) (s:ByteArray):JE [v, .str s]=some [.bool (er v s)]:=by
 obtain⟨j,h1,_,h3,_⟩:=vQ hv s;rw[QS,F113_eq,h1];simp only[aq,aw,aU,aF,ap,bB,h3]
theorem AJ {l:D} {p:D->Bool} {n:Nat} (hn:n≤l.toList.length):(List.range n).any (fun i=>p (l.toList.getD i .other))=(l.toList.take n).any p:=by
 have h:=Dr (l:=l.toList.take n) (p:=p);rw[<- h];rw[fv,Nat.min_eq_left hn];rw[fx];simp only[qN,iX];constructor
 ·rintro⟨i,hi,h⟩;exact⟨i,hi,by rw[getD_lt (by simp;omega)];rw[getD_lt (by omega)]at h;simpa using h⟩
 ·rintro⟨i,hi,h⟩;exact⟨i,hi,by rw[getD_lt (by omega)];rw[getD_lt (by simp;omega)]at h;simpa using h⟩
theorem Dv {l:D} {n:Nat} (hl:l.toList.length≤maxLen) (hn:n≤l.toList.length) (s:ByteArray):Yr [l, .int (n:Int), .str s]=some [.bool ((l.toList.take n).any fun x=>(aC (aa x 0)).data.toList==s.data.toList)]:=by
 rw[QH,F179_eq,C0]
 have hloop:=qt (st:=vw [l, .int (n:Int), .str s]) (n:=n) (p:=fun i=>(fun x=>(aC (aa x 0)).data.toList==s.data.toList) (l.toList.getD i .other)) (r0:=[D.int 0]) (r1:=[.int 1]) (by omega)
  (by rw[zw];simp[ay]) (fun i hi=>by
   rw[zw,aX (show i<l.toList.length by omega),bl,d9,ay]
   simp only[show((i:Int)<(n:Int))by omega,ba,ap]
   by_cases hc:((aC (aa (l.toList.getD i .other) 0)).data.toList==s.data.toList)=true
   ·simp only[hc,ap,be]
   ·rw[nX]at hc;simp only[hc,aJ,ip,bb])
 rw[AJ hn (p:=fun x=>(aC (aa x 0)).data.toList==s.data.toList)]at hloop
 simp only[hloop];cases (l.toList.take n).any fun x=>(aC (aa x 0)).data.toList==s.data.toList<;>simp[aq,aw,aF,aB]
def ei (s:ByteArray) (x:D):Bool:=decide (ah (aa (aa x 0) 0)=13)&&((aC (aa (aa x 0) 2)).data.toList==s.data.toList)
theorem AK {l:D} {n:Nat} (hl:l.toList.length≤maxLen) (hn:n≤l.toList.length) (s:ByteArray):YG [l, .int (n:Int), .str s]=some [.bool ((l.toList.take n).any (ei s))]:=by
 rw[QM,F249_eq,C5]
 have hloop:=qt (st:=vC [l, .int (n:Int), .str s]) (n:=n) (p:=fun i=>ei s (l.toList.getD i .other)) (r0:=[D.int 0]) (r1:=[.int 1]) (by omega)
  (by rw[zH];simp[ay]) (fun i hi=>by
   rw[zH,aX (show i<l.toList.length by omega),bl,d9,ay]
   unfold ei;simp only[show((i:Int)<(n:Int))by omega,ba,ap,bR,aB,nZ]
   cases ((aC (aa (aa (l.toList.getD i .other) 0) 2)).data.toList==s.data.toList)<;>by_cases h:ah (aa (aa (l.toList.getD i .other) 0) 0)=13<;>simp[h])
 rw[AJ hn (p:=ei s)]at hloop;simp only[hloop];cases (l.toList.take n).any (ei s)<;>simp[aq,aw,aF,aB]
def symB (v:D) (fs ls:ByteArray->Bool) (s:D):Bool:=
 (aa s 3).toList.all (kx v)&&(if ah (aa s 0)=1∨ah (aa s 0)=3 then jU v (aC (aa s 2))else if ah (aa s 0)=5 then fs (aC (aa s 2))else if ah (aa s 0)=12 then ls (aC (aa s 2))else true)
def mZ (v:D) (fs ls seen:ByteArray->Bool) (s:D) (b:Bool):Int:=
 if(aa s 3).toList.any dx then 20 else if stB s=false then 2 else if symB v fs ls s=false then 17
 else if(ah (aa s 0)=10∨ah (aa s 0)=11)∧b=false then 21 else if ah (aa s 0)=13∧seen (aC (aa s 2))=true then 8 else 0
theorem KA {l:D} {p:D->Bool} (hl:l.toList.length≤maxLen) (hc:∀x∈l.toList,q85 [x, .int 64]=some [.bool (!p x)]):qm [l]=some [.bool (l.toList.any p)]:=by
 rw[ug,J1,uf,JZ,nS];rcases cA (st:=jz [l, .int (ac l)]) (c:=fun x=>mR [x]) (p:=p) (r1:=fun i=>[.int 1, .int i]) (r0:=[.int 0]) (fun i=>Ai l (ac l) i) hl (fun x hx=>by rw[ue,JX,hc x hx];simp[aq,aw,aL,bO])with⟨h1,h2⟩|⟨i,h1,h2⟩
 ·simp[h1,h2,aq,aw,aF,aB,bB]
 ·simp[h1,h2,aq,aw,aF,aB,bB]
theorem Ow {s:D} (h:stB s=true):∀x∈(aa s 3).toList,fm x=true:=by
 unfold stB at h;simp only[bu,bX]at h;exact h.2
theorem sym_spec {s v fn lb sn:D} (h:Conf PG 187 s) (hv:v.toList.length≤maxLen) (hfn:fn.toList.length≤maxLen) (hlb:lb.toList.length≤maxLen) (hs:stB s=true):q244 [v,fn,lb,sn,s]=some [.bool (symB v (er fn) (er lb) s)]:=by
 obtain⟨l3,e3⟩:=iM h;rw[Q2,F244_eq,Df]
 have hloop:=cA (st:=vL [v,fn,lb,sn,aa s 3, .int (ac (aa s 3)),s]) (l:=aa s 3) (c:=fun x=>(q87 [x,v]).map fun r=>[.bool (b8 (aT (r.getD 0 .other)))]) (p:=fun x=> !kx v x) (r1:=fun _=>[.int 1]) (r0:=[.int 0])
  (fun i=>by
   rw[N0];cases hq:q87 [ax (aa s 3) i,v]with
   |none=>simp[ia]
   |some r=>simp[aq,aw,aL]) l3 (fun x hx=>by rw[(Rt hv (e3 x hx) (Ow hs x hx)).1];simp[aL,bO])
 have hall:(aa s 3).toList.all (kx v) = !((aa s 3).toList.any fun x=> !kx v x):=by rw[wh];simp
 unfold symB;rw[hall,(kK hv _).1,ff hfn,ff hlb];rcases hloop with⟨b1,b2⟩|⟨_,b1,b2⟩
 ·rw[b2];simp only[b1,aq,aw,aU,aF,aL,ap,aB,ba,df,l6,bR];by_cases k1:ah (aa s 0)=1
  ·simp[k1]
  by_cases k3:ah (aa s 0)=3
  ·simp[k3]
  by_cases k5:ah (aa s 0)=5
  ·simp[k5]
  by_cases k12:ah (aa s 0)=12
  ·simp[k12]
  simp[k1,k3,k5,k12]
 ·rw[b2];simp[b1,aq,aw,aF,aB]
theorem check224 {s v fn lb:D} {sn:List D} {b:Bool} (h:Conf PG 187 s) (hv:v.toList.length≤maxLen) (hfn:fn.toList.length≤maxLen) (hlb:lb.toList.length≤maxLen) (hsn:sn.length≤1000000):
 q224 [lb,v,fn, .agg [s, .bool b], .list sn]=some [.int (mZ v (er fn) (er lb) (er (.list sn)) s b), .list (sn++if ah (aa s 0)=13∧mZ v (er fn) (er lb) (er (.list sn)) s b=0 then[.str (aC (aa s 2))]else[])]:=by
 obtain⟨l3,e3⟩:=iM h;have hd:=KA (p:=dx) l3 (fun x hx=>(Rs (e3 x hx)).2)
 have hst:=(Du h).1;have hre:D.agg [D.int (ah (aa s 0)),D.int (ah (aa s 1)),D.str (aC (aa s 2)),aa s 3,aa s 4,aa s 5,aa s 6]=s:=qv h;have q0:aa (D.agg [s, .bool b]) 0=s:=by rw[ee];rfl
 have q1:aa (D.agg [s, .bool b]) 1 = .bool b:=by rw[ee];rfl
 rw[Q3,F224_eq];simp only[q0,q1,hre,hd,hst,aq,aw,aU,aL,bO,ap,bR,aB,ba];unfold mZ;cases (aa s 3).toList.any dx with
 |true=>simp
 |false=>
  simp only[aJ,ip,bb];cases hb:stB s with
  |false=>simp
  |true=>
   have hsy:=sym_spec (sn:= .list sn) h hv hfn hlb hb;simp only[hsy,aq,aw,aU,aL,bS,aJ,ap,reduceCtorEq,bb];cases symB v (er fn) (er lb) s with
   |false=>simp
   |true=>
    simp only[bS,aJ,reduceCtorEq,bb];by_cases k10:ah (aa s 0)=10
    ·cases b<;>simp[k10]
    by_cases k11:ah (aa s 0)=11
    ·cases b<;>simp[k11]
    simp only[k10,k11,bi,aJ,or_self,false_and,bb];by_cases k13:ah (aa s 0)=13
    ·have hc:=ff (v:= .list sn) (by show sn.length≤_;unfold maxLen;omega) (aC (aa s 2))
     simp only[k13,hc,aq,aw,aU,aL,ba,ap,true_and,cM,bF];rw[aY (by rw[bN,ce,cZ];omega) (by omega)]
     cases er (.list sn) (aC (aa s 2))<;>simp
    ·simp[k13]
theorem stmt229 {u v l:D} {k:Nat} {s:D} {b:Bool} (hv:v.toList.length≤maxLen) (hl:l.toList.length≤maxLen) (hf:(aa u 2).toList.length≤maxLen) (hk:k<l.toList.length) (hs:l.toList.getD k .other = .agg [s, .bool b]) (h:Conf PG 187 s):
 q229 [u,v,l, .int (k:Int)]=some [.int (mZ v (fun n=>(aa u 2).toList.any fun x=>(aC (aa x 0)).data.toList==n.data.toList) (fun n=>l.toList.any (ei n)) (fun n=>(l.toList.take k).any (ei n)) s b)]:=by
 obtain⟨l3,e3⟩:=iM h;have hst:=(Du h).2;have hre:D.agg [D.int (ah (aa s 0)),D.int (ah (aa s 1)),D.str (aC (aa s 2)),aa s 3,aa s 4,aa s 5,aa s 6]=s:=qv h;have q0:aa (D.agg [s, .bool b]) 0=s:=by rw[ee];rfl
 have q1:aa (D.agg [s, .bool b]) 1 = .bool b:=by rw[ee];rfl
 have hg:ax l (k:Int) = .agg [s, .bool b]:=by rw[bl,hs]
 rw[QN,F229_eq,aX hk,hg,C6,zK];simp only[q0,q1,hre,hst]
 have hloop:=cA (st:=vD [v,l, .int (k:Int), .int (ah (aa s 0)), .int (ah (aa s 1)), .str (aC (aa s 2)),aa s 3,aa s 4,aa s 5,aa s 6,u]) (l:=aa s 3) (c:=fun x=>Tn [x, .int 64]) (p:=dx) (r1:=fun _=>[.int 1]) (r0:=[.int 0])
  (fun i=>by rw[NA]) l3 (fun x hx=>(Rs (e3 x hx)).1)
 have hloop2:=fun hs:stB s=true=>cA (st:=qc [v,l, .int (k:Int), .int (ah (aa s 0)), .int (ah (aa s 1)), .str (aC (aa s 2)),aa s 3,aa s 4,aa s 5,aa s 6,u]) (l:=aa s 3) (c:=fun x=>(MS [x,v]).map fun r=>[.bool (b8 (aT (r.getD 0 .other)))]) (p:=fun x=> !kx v x) (r1:=fun _=>[.int 1]) (r0:=[.int 0])
  (fun i=>by
   rw[JA];cases hq:MS [ax (aa s 3) i,v]with
   |none=>simp[ia]
   |some r=>simp[aq,aw,aL]) l3 (fun x hx=>by rw[(Rt hv (e3 x hx) (Ow hs x hx)).2];simp[aL,bO])
 have hall:(aa s 3).toList.all (kx v) = !((aa s 3).toList.any fun x=> !kx v x):=by rw[wh];simp
 have e1:=(kK hv (aC (aa s 2))).2;have e2:=Dv (n:=(aa u 2).toList.length) hf (aP _) (aC (aa s 2));have e3':=AK (n:=l.toList.length) hl (aP _) (aC (aa s 2));have e4:=AK (n:=k) hl (by omega) (aC (aa s 2))
 rw[eW (aP _)]at e2 e3';simp only[aK,e1,e2,e3',e4];unfold mZ symB;rw[hall];rcases hloop with⟨b1,b2⟩|⟨_,b1,b2⟩
 ·simp only[b1,b2,aq,aw,aU,aF,aL,bO,ap,bR,aB,ba,ip,bb,nZ];cases hb:stB s with
  |false=>simp
  |true=>
   rcases hloop2 hb with⟨c1,c2⟩|⟨_,c1,c2⟩
   ·simp only[c1,c2,aq,aw,aU,aF,ba,df,bS,l6,aJ,ap,reduceCtorEq,bb];generalize jU v (aC (aa s 2))=a1;generalize ((aa u 2).toList.any fun x=>(aC (aa x 0)).data.toList==(aC (aa s 2)).data.toList)=a2
    generalize (l.toList.any (ei (aC (aa s 2))))=a3;by_cases k1:ah (aa s 0)=1
    ·cases a1<;>simp[k1]
    by_cases k3:ah (aa s 0)=3
    ·cases a1<;>simp[k3]
    by_cases k5:ah (aa s 0)=5
    ·cases a2<;>simp[k5]
    by_cases k12:ah (aa s 0)=12
    ·cases a3<;>simp[k12]
    by_cases k10:ah (aa s 0)=10
    ·cases b<;>simp[k10]
    by_cases k11:ah (aa s 0)=11
    ·cases b<;>simp[k11]
    by_cases k13:ah (aa s 0)=13
    ·by_cases h4:(l.toList.take k).any (ei (aC (aa s 2)))=true
     ·simp only[k13,h4,ba,ap,and_self,be];simp
     ·rw[nX]at h4;simp only[k13,h4,ba,ap,and_false,bb,ip];simp
    simp[k1,k3,k5,k12,k10,k11,k13]
   ·simp[c1,c2,aq,aw,aF]
 ·simp[b1,b2,aq,aw,aF,aB]
def ec (x:D):D:=aa x 0
def UF (x:D):Bool:=aT (aa x 1)
theorem sG (s:D) (b:Bool):ec (.agg [s, .bool b])=s:=by unfold ec;rw[ee];rfl
theorem Ox (s:D) (b:Bool):UF (.agg [s, .bool b])=b:=by unfold UF;rw[ee];exact aL b
inductive Ag:List D->List D->Prop
 |nil:Ag [] []
 |same (x:D) {xs ys:List D}:Ag xs ys->Ag (x::xs) (x::ys)
 |bad (x:D) {xs ys:List D}:stB (ec x)=false->xs.map ec=ys.map ec->Ag (x::xs) (x::ys)
theorem Ag.nodes {xs ys:List D} (h:Ag xs ys):xs.map ec=ys.map ec:=by
 induction h with
 |nil=>rfl
 |same x _ ih=>simp[ih]
 |bad x _ h=>simp[h]
theorem Ag.app {xs ys xs' ys':List D} (h:Ag xs ys) (h':Ag xs' ys'):Ag (xs++xs') (ys++ys'):=by
 induction h with
 |nil=>exact h'
 |same x _ ih=>exact .same x ih
 | @bad x l1 l2 hb h=>exact .bad x hb (by show(l1++xs').map ec=(l2++ys').map ec;rw[lO,lO,h,h'.nodes])
theorem Ag.flat {f g:D->List D}:∀(l:List D),(∀x∈l,Ag (f x) (g x))->Ag (l.flatMap f) (l.flatMap g)
 | [],_=> .nil
 |x::l,h=>by
  simp only[jZ];exact(h x (by simp)).app (Ag.flat l fun y hy=>h y (by simp[hy]))
theorem Ag.get {xs ys:List D} (h:Ag xs ys):∀j,(∀m,m<j->stB (ec (xs.getD m .other))=true)->xs.getD j .other=ys.getD j .other:=by
 induction h with
 |nil=>intro j _;rfl
 |same x _ ih=>
  intro j hj;cases j with
  |zero=>rfl
  |succ j=>simpa using ih j fun m hm=>by simpa using hj (m+1) (by omega)
 |bad x hb _=>
  intro j hj;cases j with
  |zero=>rfl
  |succ j=>have:=hj 0 (by omega);simp[hb]at this
theorem oL {f g:D->List D}:∀(l:List D),(∀x∈l,(f x).map ec=(g x).map ec)->(l.flatMap f).map ec=(l.flatMap g).map ec
 | [],_=>rfl
 |x::l,h=>by simp only[jZ,lO,h x (by simp),oL l fun y hy=>h y (by simp[hy])]
theorem qw:∀(N:Nat) (l:D) (b b':Bool),(flP N l b).map ec=(flR N l b').map ec
 |0,_,_,_=>rfl
 |N+1,l,b,b'=>by
  simp only[flP,flR];refine oL _ fun s _=> ?_
  have h4:=qw N (aa s 4) (b||bU s) (b'||bU s)
  have h5:=qw N (aa s 5) (b||bU s) b'
  have h6:((aa s 6).toList.flatMap fun x=>flP N x (b||bU s)).map ec=((aa s 6).toList.flatMap fun x=>flR N x b').map ec:=oL _ fun x _=>qw N x _ _
  simp only[bj,jZ,bW,lO,h4,h5,h6,sG,cy]
theorem stB_loop {s:D} (h:stB s=true) (hl:bU s=true):(aa s 5).toList = []∧(aa s 6).toList = []:=by
 unfold stB iN at h;unfold bU at hl;simp only[oU,cn]at hl;rcases hl with hl|hl
 ·rw[hl]at h;simp at h;exact⟨gv.1 (by simp[h]),gv.1 (by simp[h])⟩
 ·rw[hl]at h;simp at h;exact⟨gv.1 (by simp[h]),gv.1 (by simp[h])⟩
theorem flP_nil {N:Nat} {l:D} {b:Bool} (h:l.toList = []):flP N l b = []:=by cases N<;>simp[flP,h]
theorem flR_nil {N:Nat} {l:D} {b:Bool} (h:l.toList = []):flR N l b = []:=by cases N<;>simp[flR,h]
theorem KB:∀(N:Nat) (l:D) (b:Bool),Ag (flP N l b) (flR N l b)
 |0,_,_=> .nil
 |N+1,l,b=>by
  simp only[flP,flR];refine Ag.flat _ fun s _=> ?_
  cases hb:stB s with
  |false=>
   refine .bad _ (by rw[sG];exact hb) ?_
   have:=qw (N+1) (.list [s]) b b;simp only[flP,flR,tl,jZ,List.flatMap_nil,fy,bW,List.cons.injEq]at this;exact this.2
  |true=>
   refine .same _ ?_
   simp only[bj,jZ,cy];cases hl:bU s with
   |false=>
    simp only[Bool.or_false];exact(KB N _ b).app ((KB N _ b).app (Ag.flat _ fun x _=>KB N x b))
   |true=>
    obtain⟨h5,h6⟩:=stB_loop hb hl;rw[h6,flP_nil h5,flR_nil h5];simpa using KB N (aa s 4) (b||true)
def Gf (x:D):Prop:=∃s b,x = .agg [s, .bool b]∧Conf PG 187 s
theorem flP_ok:∀(N:Nat) (l:D) (b:Bool),Conf PG 36 l->∀x∈flP N l b,Gf x
 |0,_,_,_,x,hx=>by cases hx
 |N+1,l,b,hc,x,hx=>by
  simp only[flP,nW,cU]at hx;obtain⟨s,hs,hx⟩:=hx;obtain⟨h1,h2⟩:=bZ hc hs;rcases hx with rfl|⟨y,hy,hx⟩
  ·exact⟨s,b,rfl,h1⟩
  ·exact flP_ok N y _ (bk h1 hy).1 x hx
theorem Gg:∀(N:Nat) (l:D) (b:Bool),Conf PG 36 l->∀x∈flR N l b,Gf x
 |0,_,_,_,x,hx=>by cases hx
 |N+1,l,b,hc,x,hx=>by
  simp only[flR,nW,cU,eS]at hx;obtain⟨s,hs,hx⟩:=hx;obtain⟨h1,h2⟩:=bZ hc hs;rcases hx with rfl|((hx|hx)|⟨y,hy,hx⟩)
  ·exact⟨s,b,rfl,h1⟩
  ·exact Gg N _ _ (bk h1 (by simp[bj])).1 x hx
  ·exact Gg N _ _ (bk h1 (by simp[bj])).1 x hx
  ·exact Gg N y _ (bk h1 (by simp[bj,hy])).1 x hx
def iS (L:List D):List D:=L.flatMap fun x=>if ah (aa (ec x) 0)=13 then[.str (aC (aa (ec x) 2))]else[]
theorem KD (L:List D) (n:ByteArray):er (.list (iS L)) n=L.any (ei n):=by
 unfold er iS ei ec;rw[tl]
 induction L with
 |nil=>rfl
 |cons x L ih=>
  simp only[jZ,List.any_append,List.any_cons,ih]
  congr 1
  by_cases h:ah (aa (aa x 0) 0)=13<;>simp[h,lE]
theorem Dw {xs ys:List D} (h:xs.map ec=ys.map ec) (n:ByteArray):xs.any (ei n)=ys.any (ei n):=by
 have e:∀l:List D,l.any (ei n)=(l.map ec).any (fun s=>decide (ah (aa s 0)=13)&&((aC (aa s 2)).data.toList==n.data.toList)):=fun l=>by rw[List.any_map];rfl
 rw[e,e,h]
theorem AL (L:List D):(iS L).length≤L.length:=by
 unfold iS
 induction L with
 |nil=>simp
 |cons x L ih=>
  simp only[jZ,bN,ce];have:(if ah (aa (ec x) 0)=13 then[D.str (aC (aa (ec x) 2))]else[]).length≤1:=by split<;>simp
  omega
def plE (v:D) (fs:ByteArray->Bool) (L:List D) (j:Nat):Int:=
 mZ v fs (fun n=>L.any (ei n)) (fun n=>(L.take j).any (ei n)) (ec (L.getD j .other)) (UF (L.getD j .other))
theorem KE {v s:D} {fs ls sn:ByteArray->Bool} {b:Bool} (h:mZ v fs ls sn s b=0):stB s=true:=by
 unfold mZ at h;split at h
 ·cases h
 ·split at h
  ·cases h
  ·rename_i _ h2;simpa using h2
theorem plE_eq {v:D} {fs:ByteArray->Bool} {xs ys:List D} (h:Ag xs ys):cF (plE v fs xs) 0 xs.length=cF (plE v fs ys) 0 ys.length:=by
 have hn:=h.nodes;have hlen:xs.length=ys.length:=by have:=congrArg List.length hn;simpa using this
 rw[<- hlen];refine qu _ _ fun j _ _ hp=> ?_
 have hg:=h.get j fun m hm=>KE (hp m (by omega) hm)
 unfold plE;rw[hg];have e1:(fun n=>xs.any (ei n))=fun n=>ys.any (ei n):=funext fun n=>Dw hn n
 have e2:(fun n=>(xs.take j).any (ei n))=fun n=>(ys.take j).any (ei n):=funext fun n=>Dw (by rw[List.map_take,List.map_take,hn]) n
 rw[e1,e2]
theorem oM {f g:D->List D}:∀(l:List D),(∀x∈l,f x=g x)->l.flatMap f=l.flatMap g
 | [],_=>rfl
 |x::l,h=>by simp only[jZ,h x (by simp),oM l fun y hy=>h y (by simp[hy])]
theorem flP_irr:∀(N M:Nat) (l:D) (b:Bool),Conf PG 36 l->l.size<N->l.size<M->flP N l b=flP M l b:=by
 intro N
 induction N with
 |zero=>intro M l b _ h;omega
 |succ N ih=>
  intro M l b hc h1 h2;cases M with
  |zero=>omega
  |succ M=>
   simp only[flP];refine oM _ fun s hs=> ?_
   obtain⟨c1,c2⟩:=bZ hc hs
   congr 1
   refine oM _ fun x hx=> ?_
   obtain⟨k1,k2⟩:=bk c1 hx;exact ih M x _ k1 (by omega) (by omega)
theorem Ru:∀(N M:Nat) (l:D),Conf PG 36 l->l.size<N->l.size<M->dep N l=dep M l:=by
 intro N
 induction N with
 |zero=>intro M l _ h;omega
 |succ N ih=>
  intro M l hc h1 h2;cases M with
  |zero=>omega
  |succ M=>
   simp only[dep]
   congr 1
   refine im fun s hs=> ?_
   obtain⟨c1,c2⟩:=bZ hc hs
   congr 2
   refine im fun x hx=> ?_
   obtain⟨k1,k2⟩:=bk c1 hx;exact ih M x k1 (by omega) (by omega)
theorem grow241 {n:Int} (h:0≤n∧n≤10000000):q241 [.int n]=some [.list []]:=by
 rw[QZ,F241_eq];obtain⟨m,rfl⟩:∃m:Nat,n=(m:Int):=⟨n.toNat,by omega⟩
 have e0:aM .sub .i64 (m:Int) 0=m:=by rw[fQ (by omega) (by omega)];omega
 simp only[e0,ay,ck,cC,aB,Ds,bF,aY (show m≤1000000000 by omega) (show 88≤1000 by omega)]
 by_cases h0:m=0
 ·subst h0;simp
 ·simp[show¬((m:Int)<0)by omega,show 0<m by omega]
theorem KF {a b:D} (ha:a.toList.length≤1000000) (hb:b.toList.length≤1000000):q223 [.list [a,b]]=some [.list (a.toList++b.toList)]:=by
 rw[Q0,F223_eq,De,Af,bF];have g0:ax (.list [a,b]) 0=a:=by rw[sF];rfl
 have g1:ax (.list [a,b]) 1=b:=bl (.list [a,b]) 1;have i0:aS (.list [a,b]) 0=true:=aX (d:= .list [a,b]) (i:=0) (by simp[D.toList])
 have i1:aS (.list [a,b]) 1=true:=aX (d:= .list [a,b]) (i:=1) (by simp[D.toList])
 have s1:aM .add .i64 0 (ac a)=(a.toList.length:Int):=by rw[aK,xD (by omega) (by omega)];omega
 have s2:aM .add .i64 (a.toList.length:Int) (ac b)=((a.toList.length+b.toList.length:Nat):Int):=by rw[aK,xD (by omega) (by omega)];omega
 have t1:aM .add .i64 0 1=1:=bg (i:=0) (by omega)
 have t2:aM .add .i64 1 1=2:=bg (i:=1) (by omega)
 have hl:loW (vK [.list [a,b], .list [a,b], .int (([a,b]:List D).length:Int)]) [.int 0, .int 0]=some [.int 0, .int ((a.toList.length+b.toList.length:Nat):Int)]:=by
  have f1:¬((a.toList.length:Int)<0):=by omega
  have f2:¬(((a.toList.length+b.toList.length:Nat):Int)<0):=by omega
  rw[bn,oI];simp only[ay,ce,cZ,show(0:Int)<((0+1+1:Nat):Int)by omega,ba,ap,i0,g0,s1,f1,bi,aJ,t1]
  rw[bn,oI];simp only[ay,show(1:Int)<((0+1+1:Nat):Int)by omega,ba,ap,i1,g1,s2,f2,bi,aJ,t2]
  rw[bn,oI];simp only[ay,show¬(2:Int)<((0+1+1:Nat):Int)by omega,bi,aJ]
 have hm:loW (qk [.list [a,b], .int (([a,b]:List D).length:Int)]) [.int 0, .list []]=some [.int 0, .list (a.toList++b.toList)]:=by
  rw[bn,mP];simp only[ay,ce,cZ,show(0:Int)<((0+1+1:Nat):Int)by omega,ba,ap,i0,g0,vO,bF,dY,aY (show a.toList.length≤1000000000 by omega) (show 88≤1000 by omega),t1]
  rw[bn,mP];simp only[ay,show(1:Int)<((0+1+1:Nat):Int)by omega,ba,ap,i1,g1,vO,bF,aY (show(a.toList++b.toList).length≤1000000000 by rw[bN];omega) (show 88≤1000 by omega),t2]
  rw[bn,mP];simp only[ay,show¬(2:Int)<((0+1+1:Nat):Int)by omega,bi,aJ]
 simp only[hl,hm,grow241 (n:=((a.toList.length+b.toList.length:Nat):Int)) (by omega),aq,aw,aU,bI,aF,ap]
theorem f38_0:dr 38 0 9=true:=by kernel_rfl
theorem f38_1:dr 38 1 35=true:=by kernel_rfl
theorem KG:dr 38 2 36=true:=by kernel_rfl
theorem Oy:dr 197 0 35=true:=by kernel_rfl
theorem f197_1:dr 197 1 67=true:=by kernel_rfl
theorem f197_2:dr 197 2 195=true:=by kernel_rfl
theorem s195:mJ 195 38=true:=by kernel_rfl
theorem s67:mJ 67 162=true:=by kernel_rfl
theorem f162_0:dr 162 0 9=true:=by kernel_rfl
def Fit (b:D):Prop:=∀N,b.size<N->Sm N b∧cnt N b≤1000000
def fnB (u:D) (n:ByteArray):Bool:=(aa u 2).toList.any fun x=>(aC (aa x 0)).data.toList==n.data.toList
def flB (f:D):List D:=flP ((aa f 2).size+1) (aa f 2) false
def vsB (u f:D):D:= .list ((aa u 0).toList++(aa f 1).toList)
def g9 (u f:D):Int:=
 if 256<(aa u 0).toList.length+(aa f 1).toList.length then 6
 else if nU (aa u 0).toList (aa f 1).toList=0 then
  if 64<dep ((aa f 2).size+1) (aa f 2)then 20
  else if 1024<(flB f).length then 6
  else cF (plE (vsB u f) (fnB u) (flB f)) 0 (flB f).length
 else nU (aa u 0).toList (aa f 1).toList
theorem AN (a b:Nat):decide ((a:Int)<(b:Int))=decide (a<b):=by by_cases h:a<b<;>simp[h]<;>omega
theorem vR {d:D} {T e:TypeId} (hT:mJ T e=true) (h:Conf PG T d):D.list d.toList=d:=by
 obtain⟨xs,rfl⟩:=(ca hT h).2.1;rfl
theorem body_eq {u f fn:D} (hu:Conf PG 197 u) (hf:Conf PG 38 f) (hfit:Fit (aa f 2)) (hg:(aa u 0).toList.length≤1000000) (hv:(aa f 1).toList.length≤1000000) (hfs:(aa u 2).toList.length≤maxLen) (hfn:fn.toList.length≤maxLen) (hfb:∀n,er fn n=fnB u n):
 Zp [u,f,fn]=some [.int (g9 u f)]∧YL [u,f]=some [.int (g9 u f)]:=by
 have cg:Conf PG 35 (aa u 0):=by rw[bA];exact bq Oy hu
 have cv:Conf PG 35 (aa f 1):=by rw[bA];exact bq f38_1 hf
 have cb:Conf PG 36 (aa f 2):=by rw[bA];exact bq KG hf
 have lg:=vR s35 cg;have lv:=vR s35 cv;obtain⟨v1,v2⟩:=Ro hg hv (ca s35 cv).2.2;rw[lg,lv]at v1 v2;have hN1:(aa f 2).size<aW [aa f 2]:=cu (by simp)
 have hN2:(aa f 2).size<aW [aa f 2, .int 65]:=cu (by simp)
 have hN3:(aa f 2).size<aW [aa f 2, .bool false]:=cu (by simp)
 have d1:=Ou _ _ cb hN1 (hfit _ hN1).1 (hfit _ hN1).2;have d2:=Ky _ _ 65 cb hN2 (hfit _ hN2).1 (hfit _ hN2).2 (by omega) (by omega)
 have a1:=all_spec _ _ false cb hN3 (hfit _ hN3).1 (hfit _ hN3).2;have a2:=UC _ _ false cb hN3 (hfit _ hN3).1 (hfit _ hN3).2;have e1:dep (aW [aa f 2]) (aa f 2)=dep ((aa f 2).size+1) (aa f 2):=Ru _ _ _ cb hN1 (by omega)
 have e2:(64<dep ((aa f 2).size+1) (aa f 2))↔64<iL (aW [aa f 2, .int 65]) (aa f 2) 65:=by
  rw[<- deep_iff,Ru _ _ _ cb hN2 (show(aa f 2).size<(aa f 2).size+1 by omega)]
 have e3:flP (aW [aa f 2, .bool false]) (aa f 2) false=flB f:=flP_irr _ _ _ _ cb hN3 (by omega)
 rw[e3]at a1;rw[e1]at d1;have hag:Ag (flB f) (flR (aW [aa f 2, .bool false]) (aa f 2) false):=by rw[<- e3];exact KB _ _ _
 have hlen:(flB f).length=(flR (aW [aa f 2, .bool false]) (aa f 2) false).length:=by have:=congrArg List.length hag.nodes;simpa using this
 have okP:∀x∈flB f,Gf x:=flP_ok _ _ _ cb;have okR:∀x∈flR (aW [aa f 2, .bool false]) (aa f 2) false,Gf x:=Gg _ _ _ cb;have hple:=plE_eq (v:=vsB u f) (fs:=fnB u) hag;have hcc:=KF (a:=aa u 0) (b:=aa f 1) hg hv;have hvm:(vsB u f).toList.length≤maxLen:=by unfold vsB;rw[tl,bN];unfold maxLen;omega
 generalize flR (aW [aa f 2, .bool false]) (aa f 2) false=LR at *;generalize hLP:flB f=LP at *;have add:aM .add .i64 (ac (aa u 0)) (ac (aa f 1))=(((aa u 0).toList.length+(aa f 1).toList.length:Nat):Int):=by rw[aK,aK,xD (by omega) (by omega)];omega
 have add':aM .add .i64 (ac (aa f 1)) (ac (aa u 0))=(((aa u 0).toList.length+(aa f 1).toList.length:Nat):Int):=by rw[aK,aK,xD (by omega) (by omega)];omega
 constructor
 ·rw[Q4,F170_eq,add,v1,QW,QX];simp only[d1,a1,hcc,aq,aw,aU,aF,bF,ap,ck,cp,Aq,Ar];unfold g9;rw[hLP,show(256:Int)=((256:Nat):Int)from rfl,show(64:Int)=((64:Nat):Int)from rfl,show(1024:Int)=((1024:Nat):Int)from rfl,AN,AN,AN]
  by_cases c1:256<(aa u 0).toList.length+(aa f 1).toList.length
  ·simp[c1]
  ·simp only[c1,bi,aJ,bb];by_cases c2:nU (aa u 0).toList (aa f 1).toList=0
   ·simp only[c2,ba,bS,aJ,be];by_cases c3:64<dep ((aa f 2).size+1) (aa f 2)
    ·simp[c3]
    ·simp only[c3,bi,aJ,bb];by_cases c4:1024<LP.length
     ·simp[c4]
     ·simp only[c4,bi,aJ,bb]
      have hl1:=(dj (A:=List D) (st:=qo [.list LP, .list LP, .int (LP.length:Int), .list ((aa u 0).toList++(aa f 1).toList),fn]) (n:=LP.length) (enc:=fun i m=>[.int (i:Int), .list m])
       (f:=fun i m=>m++(if ah (aa (ec (LP.getD i .other)) 0)=13 then[.str (aC (aa (ec (LP.getD i .other)) 2))]else[])) (fin:=fun m=>[.int 0, .list m]) (I:=fun i m=>m=iS (LP.take i))
       (fun m _=>by rw[um];simp[ay]) (fun i m hi hI=>by
        have hq:ax (.list LP) (i:Int)=LP.getD i .other:=by rw[bl];rfl
        have hin:aS (.list LP) (i:Int)=true:=aX (d:= .list LP) hi;have hI':m++(if ah (aa (ec (LP.getD i .other)) 0)=13 then[D.str (aC (aa (ec (LP.getD i .other)) 2))]else[])=iS (LP.take (i+1)):=by
         unfold iS;rw[gk hi,hI];rfl
        refine⟨?_,hI'⟩
        have hml:m.length≤2000:=by rw[hI];have:=AL (LP.take i);simp at this;omega
        rw[um,hq,hin];simp only[ay,show(i:Int)<(LP.length:Int)by omega,ba,ap,aB,cM,bF]
        rw[bg (by omega),aY (by rw[bN,ce,cZ];omega) (by omega)]
        unfold ec;by_cases h13:ah (aa (aa (LP.getD i .other) 0) 0)=13
        ·simp only[h13,ba,ap,be]
        ·simp only[h13,bi,aJ,bb,fy]) (a:=[]) (by simp[iS]))
      obtain⟨g1,g2⟩:=hl1;rw[eW (aP _)]at g2;rw[g2]at g1;simp only[bV]at g1;have hlb:(D.list (iS LP)).toList.length≤maxLen:=by rw[tl];have:=AL LP;unfold maxLen;omega
      have hl2:=jB (st:=qp [.list LP, .int (LP.length:Int), .list (iS LP), .list ((aa u 0).toList++(aa f 1).toList),fn]) (n:=LP.length) (enc:=fun i=>[.int (i:Int), .list (iS (LP.take i))]) (p:=plE (vsB u f) (fnB u) LP)
       (by rw[un];simp[ay]) (fun i hi hp=>by
        have hx:LP.getD i .other∈LP:=by rw[getD_lt hi];exact b7 hi
        obtain⟨s,b,hs,hcs⟩:=okP _ hx;have hq:ax (.list LP) (i:Int) = .agg [s, .bool b]:=by rw[bl];exact hs
        have hin:aS (.list LP) (i:Int)=true:=aX (d:= .list LP) hi;have hml:(iS (LP.take i)).length≤2000:=by have:=AL (LP.take i);simp at this;omega
        have hc:=check224 (v:=vsB u f) (fn:=fn) (lb:= .list (iS LP)) (sn:=iS (LP.take i)) (b:=b) hcs hvm hfn hlb (by omega)
        have hE:mZ (vsB u f) (er fn) (er (.list (iS LP))) (er (.list (iS (LP.take i)))) s b=plE (vsB u f) (fnB u) LP i:=by
         unfold plE;rw[hs,sG,Ox,show er fn=fnB u from funext hfb,show er (.list (iS LP))=fun n=>LP.any (ei n)from funext fun n=>KD LP n,show er (.list (iS (LP.take i)))=fun n=>(LP.take i).any (ei n)from funext fun n=>KD _ n]
        rw[hE]at hc;have hv':D.list ((aa u 0).toList++(aa f 1).toList)=vsB u f:=rfl;rw[un,hq,hin,hv',hc];simp only[ay,cp,show(i:Int)<(LP.length:Int)by omega,ba,ap,aq,aw,aU,bI,aF]
        by_cases hz:plE (vsB u f) (fnB u) LP i=0
        ·have hn:iS (LP.take (i+1))=iS (LP.take i)++(if ah (aa s 0)=13 then[D.str (aC (aa s 2))]else[]):=by
          unfold iS;rw[gk hi,hs,sG]
         rw[hn];simp only[hz,and_true,ba,bS,aJ,be];rw[bg (by omega)]
        ·simp[hz])
      simp only[bV,nY]at hl2;rw[show iS ([]:List D) = []from rfl]at hl2
      simp only[g1,hl2,aq,aw,aU,bI,ap,aB,bV,cZ,ba];have:=mX (cF (plE (vsB u f) (fnB u) LP) 0 LP.length);simpa only[aq,aw,ap,aB]using this
   ·simp[c2]
 ·rw[QO,F180_eq,add',v2,QI,QJ];have hap:bt (aa u 0) (aa f 1)=vsB u f:=by rw[<- lg,vO];rfl
  simp only[d2,a2,hap,aq,aw,aU,aF,bF,ap,ck,cp,zL];unfold g9;rw[hLP,show(256:Int)=((256:Nat):Int)from rfl,show(64:Int)=((64:Nat):Int)from rfl,show(1024:Int)=((1024:Nat):Int)from rfl,AN,AN,AN, <- hlen]
  by_cases c1:256<(aa u 0).toList.length+(aa f 1).toList.length
  ·simp[c1]
  ·simp only[c1,bi,aJ,bb];by_cases c2:nU (aa u 0).toList (aa f 1).toList=0
   ·simp only[c2,ba,bS,aJ,be];by_cases c3:64<dep ((aa f 2).size+1) (aa f 2)
    ·have:=e2.1 c3;simp[c3,this]
    ·have c3':¬64<iL (aW [aa f 2, .int 65]) (aa f 2) 65:=fun h=>c3 (e2.2 h)
     simp only[c3,c3',bi,aJ,bb];by_cases c4:1024<LP.length
     ·simp[c4]
     ·simp only[c4,bi,aJ,bb];have hlm:(D.list LR).toList.length≤maxLen:=by rw[tl];unfold maxLen;omega
      have hl2:=jB (st:=qd [.list LR,vsB u f,u]) (n:=LR.length) (enc:=fun i=>[.int (i:Int)]) (p:=plE (vsB u f) (fnB u) LR)
       (by rw[t0,bF];simp[ay]) (fun i hi hp=>by
        have hx:LR.getD i .other∈LR:=by rw[getD_lt hi];exact b7 hi
        obtain⟨s,b,hs,hcs⟩:=okR _ hx;have hc:=stmt229 (u:=u) (v:=vsB u f) (l:= .list LR) (k:=i) hvm hlm hfs hi hs hcs;have hE:mZ (vsB u f) (fun n=>(aa u 2).toList.any fun x=>(aC (aa x 0)).data.toList==n.data.toList) (fun n=>(D.list LR).toList.any (ei n)) (fun n=>((D.list LR).toList.take i).any (ei n)) s b=plE (vsB u f) (fnB u) LR i:=by
         unfold plE;rw[hs,sG,Ox];rfl
        rw[hE]at hc;rw[t0,bF,hc];simp only[ay,cp,show(i:Int)<(LR.length:Int)by omega,ba,ap,aq,aw,aU,aF]
        by_cases hz:plE (vsB u f) (fnB u) LR i=0
        ·simp only[hz,ba,bS,aJ,be];rw[bg (by omega)]
        ·simp[hz])
      simp only[bV]at hl2;have m1:ci (ac (aa u 0)) 88=true:=by rw[aK];exact aY (by omega) (by omega)
      have m2:ci (ac (vsB u f)) 88=true:=by unfold vsB;rw[bF];exact aY (by rw[bN];omega) (by omega)
      rw[hple];simp only[hl2,m1,m2,aB,ba,ap];have:=mX (cF (plE (vsB u f) (fnB u) LR) 0 LR.length);simpa only[aq,aw,ap,aB]using this
   ·simp[c2]
def KH (l:List D) (i:Nat):Int:=
 if gK (aC (aa (l.getD i .other) 0))=false then 3
 else if(l.take i).any (fun x=>(aC (aa x 0)).data.toList==(aC (aa (l.getD i .other) 0)).data.toList)then 8
 else if 65536<(aa (l.getD i .other) 2).toList.length then 6 else 0
def Dx (l:List D):Int:=cF (KH l) 0 l.length
theorem UG {l x:D} (hl:l.toList.length≤maxLen):qj [l,x]=some [.bool (l.toList.any fun y=>(aC (aa y 0)).data.toList==(aC (aa x 0)).data.toList)]:=by
 rw[ud,JT,uc,JR,nR];rcases cA (st:=jy [l,x, .int (ac l)]) (c:=fun y=>qh [y,x]) (p:=fun y=>(aC (aa y 0)).data.toList==(aC (aa x 0)).data.toList) (r1:=fun i=>[.int 1, .int i]) (r0:=[.int 0]) (fun i=>z8 l x (ac l) i) hl (fun y _=>by rw[ua,JP,d9])with⟨h1,h2⟩|⟨i,h1,h2⟩
 ·rw[h2];simp[h1,aq,aw,aF,aB,bB]
 ·rw[h2];simp[h1,aq,aw,aF,aB,bB]
theorem Dy {x:D} (h:Conf PG 162 x):(aC (aa x 0)).size≤maxLen:=by rw[bA];exact eF (bq f162_0 h)
theorem data_eq {l:D} (hl:l.toList.length≤1000000) (hc:∀x∈l.toList,Conf PG 162 x):Zc [l]=some [.int (Dx l.toList)]∧q178 [l]=some [.int (Dx l.toList)]:=by
 have hm:∀i,i<l.toList.length->l.toList.getD i .other∈l.toList:=fun i hi=>by rw[getD_lt hi];exact b7 hi
 constructor
 ·rw[QY,F169_eq,Dd]
  have hloop:=jB (st:=vJ [l,l, .int (ac l)]) (n:=l.toList.length) (enc:=fun i=>[.int (i:Int)]) (p:=KH l.toList)
   (by rw[Ac,aK];simp[ay]) (fun i hi hp=>by
    have hlm:(dA l 0 (i:Int)).toList.length≤maxLen:=by rw[Gc];simp;unfold maxLen;omega
    have ha:=UG (x:=l.toList.getD i .other) hlm;rw[Gc]at ha;rw[Ac,aK,aX hi,bl,(eG (Dy (hc _ (hm i hi)))).1,ha,aK];unfold KH;simp only[ay,cC,ck,show(i:Int)<(l.toList.length:Int)by omega,show(0:Int)≤(i:Int)by omega,show(i:Int)≤(l.toList.length:Int)by omega,show(0:Int)≤0 by omega,ba,ap,aq,aw,aU,aL,bO]
    rw[show(65536:Int)=((65536:Nat):Int)from rfl,AN]
    cases gK (aC (aa (l.toList.getD i .other) 0))with
    |false=>simp
    |true=>
     by_cases h1:((l.toList.take i).any fun y=>(aC (aa y 0)).data.toList==(aC (aa (l.toList.getD i .other) 0)).data.toList)=true
     ·simp only[h1,bS,aJ,ap,reduceCtorEq,bb,be];simp
     ·rw[nX]at h1;simp only[h1,bS,aJ,reduceCtorEq,bb,ip];by_cases h2:65536<(aa (l.toList.getD i .other) 2).toList.length
      ·simp only[h2,ba,ap,be,show¬(6:Int)=0 by omega,bb]
      ·simp only[h2,bi,aJ,bb,be];rw[bg (by omega)])
  simp only[bV]at hloop;simp only[hloop];exact mX _
 ·rw[QG,F178_eq,CZ]
  have hloop:=jB (st:=vv [l]) (n:=l.toList.length) (enc:=fun i=>[.int (i:Int)]) (p:=KH l.toList)
   (by rw[zr,aK];simp[ay]) (fun i hi hp=>by
    have hin:=qt (st:=vt [l, .int (i:Int)]) (n:=i) (p:=fun k=>(fun y=>(aC (aa y 0)).data.toList==(aC (aa (l.toList.getD i .other) 0)).data.toList) (l.toList.getD k .other)) (r0:=[D.int 0]) (r1:=[.int 1]) (by unfold maxLen;omega)
     (by rw[zp];simp[ay]) (fun k hk=>by
      rw[zp,aX (show k<l.toList.length by omega),aX hi,bl,bl,d9,ay]
      simp only[show((k:Int)<(i:Int))by omega,ba,ap]
      by_cases hc:((aC (aa (l.toList.getD k .other) 0)).data.toList==(aC (aa (l.toList.getD i .other) 0)).data.toList)=true
      ·simp only[hc,ap,be]
      ·rw[nX]at hc;simp only[hc,aJ,ip,bb])
    rw[AJ (by omega) (p:=fun y=>(aC (aa y 0)).data.toList==(aC (aa (l.toList.getD i .other) 0)).data.toList)]at hin
    rw[zr,aK,aX hi,bl,(eG (Dy (hc _ (hm i hi)))).2,CY,aK];unfold KH;simp only[hin,ay,ck,show(i:Int)<(l.toList.length:Int)by omega,ba,ap,aq,aw,aU,aL,bO]
    rw[show(65536:Int)=((65536:Nat):Int)from rfl,AN]
    cases gK (aC (aa (l.toList.getD i .other) 0))with
    |false=>simp
    |true=>
     by_cases h1:((l.toList.take i).any fun y=>(aC (aa y 0)).data.toList==(aC (aa (l.toList.getD i .other) 0)).data.toList)=true
     ·simp only[h1,bS,aJ,ap,reduceCtorEq,bb,be];simp[aq,aw,aF,aB]
     ·rw[nX]at h1;simp only[h1,bS,aJ,reduceCtorEq,bb,ip];by_cases h2:65536<(aa (l.toList.getD i .other) 2).toList.length
      ·simp only[h2,ba,ap,be,show¬(6:Int)=0 by omega,bb,aq,aw,aU,aF,aB]
      ·simp only[h2,bi,aJ,bb,be,aq,aw,aU,aF,aB,ba,ap];rw[bg (by omega)])
  simp only[bV]at hloop;simp only[hloop];exact mX _
theorem KJ {st:List D->Option (Sum (List D) (List D))} {n:Nat} {enc:Nat->List D} {p:Nat->Int} {r0:List D} (h0:st (enc n)=some (.inr r0))
 (h1:∀i,i<n->(∀m,m<i->p m=0)->st (enc i)=if p i=0 then some (.inl (enc (i+1)))else some (.inr [.int 1, .int (p i)])):loW st (enc 0)=some (if cF p 0 n=0 then r0 else[.int 1, .int (cF p 0 n)]):=by
 have key:∀k i:Nat,i+k=n->(∀m,m<i->p m=0)->loW st (enc i)=some (if cF p i k=0 then r0 else[.int 1, .int (cF p i k)]):=by
  intro k
  induction k with
  |zero=>intro i hi _;obtain rfl:i=n:=by omega
         rw[bn,h0];rfl
  |succ k ih=>
   intro i hi hp;rw[bn,h1 i (by omega) hp]
   simp only[cF];by_cases hz:p i=0
   ·simp only[hz,be]
    exact ih (i+1) (by omega) fun m hm=>by
     by_cases h:m=i
     ·subst h;exact hz
     ·exact hp m (by omega)
   ·simp only[hz,bb]
 exact key n 0 (by omega) (fun m h=>by omega)
def fnP (l:List D) (i:Nat):Int:=
 if gK (aC (aa (l.getD i .other) 0))=false then 3
 else if(l.take i).any (fun x=>(aC (aa x 0)).data.toList==(aC (aa (l.getD i .other) 0)).data.toList)then 8 else 0
def nV (u:D):Int:=
 if 256<(aa u 0).toList.length∨16<(aa u 1).toList.length∨64<(aa u 2).toList.length then 6
 else if(aa u 2).toList.length=0 then 17
 else if nU [] (aa u 0).toList=0 then
  if Dx (aa u 1).toList=0 then
   if cF (fnP (aa u 2).toList) 0 (aa u 2).toList.length=0 then cF (fun i=>g9 u ((aa u 2).toList.getD i .other)) 0 (aa u 2).toList.length
   else cF (fnP (aa u 2).toList) 0 (aa u 2).toList.length
  else Dx (aa u 1).toList
 else nU [] (aa u 0).toList
def fS (l:List D):List D:=l.map fun x=> .str (aC (aa x 0))
theorem AO (l:List D) (n:ByteArray):er (.list (fS l)) n=l.any fun x=>(aC (aa x 0)).data.toList==n.data.toList:=by
 unfold er fS;rw[tl,List.any_map];congr 1;funext x;simp[lE]
theorem KK {x:D} (h:Conf PG 38 x):(aC (aa x 0)).size≤maxLen:=by rw[bA];exact eF (bq f38_0 h)
theorem unit_eq {u:D} (hu:Conf PG 197 u) (hfit:∀f∈(aa u 2).toList,Fit (aa f 2)∧(aa f 1).toList.length≤1000000) (hg:(aa u 0).toList.length≤1000000) (hd:(aa u 1).toList.length≤1000000) (hf:(aa u 2).toList.length≤1000000):
 q111 [u]=some [.int (nV u)]∧q120 [u]=some [.int (nV u)]:=by
 have cg:Conf PG 35 (aa u 0):=by rw[bA];exact bq Oy hu
 have cd:Conf PG 67 (aa u 1):=by rw[bA];exact bq f197_1 hu
 have cf:Conf PG 195 (aa u 2):=by rw[bA];exact bq f197_2 hu
 have hcf:=(ca s195 cf).2.2;have hfm:(aa u 2).toList.length≤maxLen:=by unfold maxLen;omega
 obtain⟨v1,v2⟩:=Ro (b:=[]) (by simp) hg (ca s35 cg).2.2
 rw[vR s35 cg]at v1 v2;obtain⟨d1,d2⟩:=data_eq hd (ca s67 cd).2.2;have hm:∀i,i<(aa u 2).toList.length->(aa u 2).toList.getD i .other∈(aa u 2).toList:=fun i hi=>by rw[getD_lt hi];exact b7 hi
 have hbody:∀i,i<(aa u 2).toList.length->Zp [u,(aa u 2).toList.getD i .other, .list (fS (aa u 2).toList)]=some [.int (g9 u ((aa u 2).toList.getD i .other))]∧YL [u,(aa u 2).toList.getD i .other]=some [.int (g9 u ((aa u 2).toList.getD i .other))]:=fun i hi=>
  body_eq hu (hcf _ (hm i hi)) (hfit _ (hm i hi)).1 hg (hfit _ (hm i hi)).2 hfm (by rw[tl,fS,gY];exact hfm) (fun n=>AO _ n)
 have guardB:∀a b c:Nat,(bif (bif decide (256<(a:Int))then true else decide (16<(b:Int)))then true else decide (64<(c:Int)))=decide (256<a∨16<b∨64<c):=fun a b c=>by
  rw[show(256:Int)=((256:Nat):Int)from rfl,show(16:Int)=((16:Nat):Int)from rfl,show(64:Int)=((64:Nat):Int)from rfl,AN,AN,AN]
  by_cases h1:256<a<;>by_cases h2:16<b<;>by_cases h3:64<c<;>simp[h1,h2,h3]
 have eq0:∀n:Nat,decide ((n:Int)=0)=decide (n=0):=fun n=>by by_cases h:n=0<;>simp[h]
 constructor
 ·rw[Q5,F111_eq,v1,d1];simp only[aq,aw,aU,aF,aK,ap,ck,cp,bR,guardB,aB,eq0,As,At];unfold nV;by_cases c1:256<(aa u 0).toList.length∨16<(aa u 1).toList.length∨64<(aa u 2).toList.length
  ·simp[c1]
  ·simp only[c1,bi,aJ,bb];by_cases c2:(aa u 2).toList.length=0
   ·simp[c2]
   ·simp only[c2,bi,aJ,bb];by_cases c3:nU [] (aa u 0).toList=0
    ·simp only[c3,ba,bS,aJ,be];by_cases c4:Dx (aa u 1).toList=0
     ·simp only[c4,ba,bS,aJ,be]
      have hl1:=KJ (st:=qq [aa u 2, .int ((aa u 2).toList.length:Int),u]) (n:=(aa u 2).toList.length) (enc:=fun i=>[.int (i:Int), .list (fS ((aa u 2).toList.take i))]) (p:=fnP (aa u 2).toList) (r0:=[.int 0, .list (fS (aa u 2).toList)])
       (by rw[uo,eW (aP _)];simp[ay]) (fun i hi hp=>by
        have hml:(fS ((aa u 2).toList.take i)).length≤1000000:=by rw[fS,gY];simp;omega
        have hc:=ff (v:= .list (fS ((aa u 2).toList.take i))) (by rw[tl];unfold maxLen;omega) (aC (aa ((aa u 2).toList.getD i .other) 0))
        rw[AO]at hc;rw[uo,aX hi,bl,(eG (KK (hcf _ (hm i hi)))).1,hc];unfold fnP;simp only[ay,show(i:Int)<((aa u 2).toList.length:Int)by omega,ba,ap,aq,aw,aU,aL,bO,cM,bF]
        rw[aY (by rw[bN,ce,cZ];omega) (by omega)]
        cases gK (aC (aa ((aa u 2).toList.getD i .other) 0))with
        |false=>simp
        |true=>
         by_cases h1:(((aa u 2).toList.take i).any fun y=>(aC (aa y 0)).data.toList==(aC (aa ((aa u 2).toList.getD i .other) 0)).data.toList)=true
         ·simp only[h1,bS,aJ,ap,reduceCtorEq,bb,be];simp
         ·rw[nX]at h1;have hn:fS ((aa u 2).toList.take (i+1))=fS ((aa u 2).toList.take i) ++ [.str (aC (aa ((aa u 2).toList.getD i .other) 0))]:=by
           unfold fS;rw[we hi,lO,getD_lt hi];rfl
          rw[hn]
          simp only[h1,bS,aJ,ap,reduceCtorEq,bb,be,ip];rw[bg (by omega)])
      simp only[bV,nY]at hl1;rw[show fS ([]:List D) = []from rfl]at hl1
      have hl2:=jB (st:=qr [aa u 2, .int ((aa u 2).toList.length:Int), .list (fS (aa u 2).toList),u]) (n:=(aa u 2).toList.length) (enc:=fun i=>[.int (i:Int)]) (p:=fun i=>g9 u ((aa u 2).toList.getD i .other))
       (by rw[uq];simp[ay]) (fun i hi hp=>by
        rw[uq,aX hi,bl,(hbody i hi).1];simp only[ay,cp,show(i:Int)<((aa u 2).toList.length:Int)by omega,ba,ap,aq,aw,aU,aF]
        by_cases hz:g9 u ((aa u 2).toList.getD i .other)=0
        ·simp only[hz,ba,bS,aJ,be];rw[bg (by omega)]
        ·simp only[hz,bi,df,ap,bb])
      simp only[bV]at hl2;by_cases c5:cF (fnP (aa u 2).toList) 0 (aa u 2).toList.length=0
      ·rw[if_pos c5]at hl1;have:=mX (cF (fun i=>g9 u ((aa u 2).toList.getD i .other)) 0 (aa u 2).toList.length)
       simp only[aq,aw,ap,aB]at this;simp only[hl1,hl2,c5,aq,aw,aU,bI,aF,ba,ap,be,List.toList_toArray,tl,cZ,bV,this]
      ·rw[if_neg c5]at hl1;simp[hl1,c5,aq,aw,aF,tl]
     ·simp[c4]
    ·simp[c3]
 ·rw[QP,F120_eq,v2,d2];simp only[aq,aw,aU,aF,aK,ap,ck,cp,bR,guardB,aB,eq0,zM,zN];unfold nV;by_cases c1:256<(aa u 0).toList.length∨16<(aa u 1).toList.length∨64<(aa u 2).toList.length
  ·simp[c1]
  ·simp only[c1,bi,aJ,bb];by_cases c2:(aa u 2).toList.length=0
   ·simp[c2]
   ·simp only[c2,bi,aJ,bb];by_cases c3:nU [] (aa u 0).toList=0
    ·simp only[c3,ba,bS,aJ,be];by_cases c4:Dx (aa u 1).toList=0
     ·simp only[c4,ba,bS,aJ,be]
      have hl1:=KJ (st:=qe [u]) (n:=(aa u 2).toList.length) (enc:=fun i=>[.int (i:Int)]) (p:=fnP (aa u 2).toList) (r0:=[.int 0])
       (by rw[t6,aK];simp[ay]) (fun i hi hp=>by
        have hc:=Dv (l:=aa u 2) (n:=i) hfm (by omega) (aC (aa ((aa u 2).toList.getD i .other) 0))
        rw[t6,aK,aX hi,bl,(eG (KK (hcf _ (hm i hi)))).2,hc];unfold fnP;simp only[ay,show(i:Int)<((aa u 2).toList.length:Int)by omega,ba,ap,aq,aw,aU,aL,bO]
        cases gK (aC (aa ((aa u 2).toList.getD i .other) 0))with
        |false=>simp
        |true=>
         by_cases h1:(((aa u 2).toList.take i).any fun y=>(aC (aa y 0)).data.toList==(aC (aa ((aa u 2).toList.getD i .other) 0)).data.toList)=true
         ·simp only[h1,bS,aJ,ap,reduceCtorEq,bb,be];simp
         ·rw[nX]at h1
          simp only[h1,bS,aJ,ap,reduceCtorEq,bb,be,ip];rw[bg (by omega)])
      simp only[bV]at hl1
      have hl2:=jB (st:=qf [u]) (n:=(aa u 2).toList.length) (enc:=fun i=>[.int (i:Int)]) (p:=fun i=>g9 u ((aa u 2).toList.getD i .other))
       (by rw[t7,aK];simp[ay]) (fun i hi hp=>by
        rw[t7,aK,aX hi,bl,(hbody i hi).2];simp only[ay,cp,show(i:Int)<((aa u 2).toList.length:Int)by omega,ba,ap,aq,aw,aU,aF]
        by_cases hz:g9 u ((aa u 2).toList.getD i .other)=0
        ·simp only[hz,ba,bS,aJ,be];rw[bg (by omega)]
        ·simp only[hz,bi,df,ap,bb])
      simp only[bV]at hl2;by_cases c5:cF (fnP (aa u 2).toList) 0 (aa u 2).toList.length=0
      ·rw[if_pos c5]at hl1;have:=mX (cF (fun i=>g9 u ((aa u 2).toList.getD i .other)) 0 (aa u 2).toList.length)
       simp only[aq,aw,ap,aB]at this;simp only[hl1,hl2,c5,aq,aw,aU,aF,ba,ap,be,this]
      ·rw[if_neg c5]at hl1;simp[hl1,c5,aq,aw,aF]
     ·simp[c4]
    ·simp[c3]
theorem vS {T n:Nat} {ds:List D} (hT:ed T=n+1) (hl:ds.length=n+1) (hf:∀j,j<n+1->∃F,dr T j F=true∧Conf PG F (ds.getD j .other)):Conf PG T (.agg ds):=by
 unfold ed at hT;cases hu:PG.underlying T with
 |none=>rw[hu]at hT;cases hT
 |some td=>
  rw[hu]at hT;cases td with
  |struct fs=>
   have hT:fs.size=n+1:=hT;refine Conf.struct hu (by omega) fun j f hj=> ?_
   have hlt:j<fs.toList.length:=(cY.1 hj).1;obtain⟨F,h1,h2⟩:=hf j (by simp at hlt;omega)
   unfold dr at h1;rw[hu]at h1;simp only[hj]at h1;rw[aV h1];exact h2
  |_=>cases hT
theorem iO {T e:TypeId} {xs:List D} (hT:mJ T e=true) (hl:xs.length≤maxLen) (hd:∀x∈xs,Conf PG e x):Conf PG T (.list xs):=by
 unfold mJ at hT;cases hu:PG.underlying T with
 |none=>rw[hu]at hT;cases hT
 |some td=>
  rw[hu]at hT;cases td with
  |slice e'=>
   have:=aV hT;subst this;exact Conf.slice hu hl hd
  |_=>cases hT
theorem KL {s:ByteArray} (hs:s.size≤maxLen):Conf PG 9 (.str s):=by
 have ht:=str9;unfold Ga at ht;cases hu:PG.underlying 9 with
 |none=>rw[hu]at ht;cases ht
 |some td=>
  rw[hu]at ht;cases td with
  |string=>exact Conf.str hu hs
  |_=>cases ht
def isI64 (T:TypeId):Bool:=match PG.underlying T with|some (.int .i64)=>true|_=>false
theorem i64_3:isI64 3=true:=by kernel_rfl
theorem AP {n:Int} (h0: -9223372036854775808≤n) (h1:n≤9223372036854775807):Conf PG 3 (.int n):=by
 have ht:=i64_3;unfold isI64 at ht;cases hu:PG.underlying 3 with
 |none=>rw[hu]at ht;cases ht
 |some td=>
  rw[hu]at ht;cases td with
  |int k=>
   cases k<;>first|(cases ht;done)|exact Conf.int hu h0 h1
  |_=>cases ht
theorem len38:ed 38=2+1:=by kernel_rfl
theorem len197:ed 197=2+1:=by kernel_rfl
theorem s26:mJ 26 9=true:=by kernel_rfl
def zT:D:= .agg [.int 0, .int 0, .int 0, .list [], .list []]
theorem conf_zT:Conf PG 63 zT:=by
 refine vS len63 rfl fun j hj=> ?_
 have h:j=0∨j=1∨j=2∨j=3∨j=4:=by omega
 rcases h with rfl|rfl|rfl|rfl|rfl
 ·exact⟨3,f63_0,AP (by omega) (by omega)⟩
 ·exact⟨3,f63_1,AP (by omega) (by omega)⟩
 ·exact⟨3,f63_2,AP (by omega) (by omega)⟩
 ·exact⟨60,f63_3,iO s60 (by simp) (by simp)⟩
 ·exact⟨61,f63_4,iO s61 (by simp) (by simp)⟩
def lG (l:List D):List D:=l.map fun s=> .agg [.str (aC s),zT]
def lH (f:D) (l:List D):List D:=f::l.flatMap fun s=>if(aC s).data.toList=(aC (aa f 0)).data.toList then[]else[.agg [.str (aC s), .list [], .list []]]
def eJ (f:D) (v fn:List D):D:= .agg [.list (lG v), .list [], .list (lH f fn)]
theorem vars_of {v:D} (hv:v.toList.length≤1000000):q40 [v]=some [.list (lG v.toList)]∧q44 [v]=some [.list (lG v.toList)]:=by
 have hz:D.agg [.int 0, .int 0, .int 0, .list [], .list []]=zT:=rfl
 have tk:∀i,i<v.toList.length->lG (v.toList.take (i+1))=lG (v.toList.take i) ++ [.agg [.str (aC (v.toList.getD i .other)),zT]]:=fun i hi=>by
  unfold lG;rw[we hi,lO,getD_lt hi];rfl
 have ln:∀i,(lG (v.toList.take i)).length≤1000000:=fun i=>by unfold lG;simp;omega
 constructor
 ·rw[Xv,F40_eq,IM]
  obtain⟨g1,g2⟩:=(dj (A:=List D) (st:=EX [v, .int (ac v)]) (n:=v.toList.length) (enc:=fun i m=>[.int (i:Int), .list m]) (f:=fun i m=>m ++ [.agg [.str (aC (v.toList.getD i .other)),zT]]) (fin:=fun m=>[.int 0, .list m]) (I:=fun i m=>m=lG (v.toList.take i))
   (fun m _=>by rw[CO,aK];simp[ay]) (fun i m hi hI=>by
    refine⟨?_,by rw[tk i hi,hI]⟩
    have:=ln i;rw[CO,aK,aX hi,bl,hz,cM,bF,aY (by rw[hI,bN,ce,cZ];omega) (by omega),bg (by omega)]
    simp only[ay,show(i:Int)<(v.toList.length:Int)by omega,ba,ap]) (a:=[]) (by simp[lG]))
  rw[eW (aP _)]at g2;rw[g2]at g1;simp only[bV]at g1;simp only[g1,aq,aw,aU,bI,ap]
 ·rw[Xy,F44_eq,IN]
  obtain⟨g1,g2⟩:=(dj (A:=List D) (st:=EZ [v]) (n:=v.toList.length) (enc:=fun i m=>[.int (i:Int), .list m]) (f:=fun i m=>m ++ [.agg [.str (aC (v.toList.getD i .other)),zT]]) (fin:=fun m=>[.int 0, .list m]) (I:=fun i m=>m=lG (v.toList.take i))
   (fun m _=>by rw[CP,aK];simp[ay]) (fun i m hi hI=>by
    refine⟨?_,by rw[tk i hi,hI]⟩
    have:=ln i;rw[CP,aK,aX hi,bl,hz,cM,bF,aY (by rw[hI,bN,ce,cZ];omega) (by omega),bg (by omega)]
    simp only[ay,show(i:Int)<(v.toList.length:Int)by omega,ba,ap]) (a:=[]) (by simp[lG]))
  rw[eW (aP _)]at g2;rw[g2]at g1;simp only[bV]at g1;simp only[g1,aq,aw,aU,bI,ap]
def caB (fn:D):Nat->D->Bool
 |0,_=>false
 |N+1,l=>l.toList.all fun s=>(!decide (ah (aa s 0)=5)||er fn (aC (aa s 2)))&&(bj s).all (caB fn N)
theorem Rv (fn:D):∀(N M:Nat) (l:D),Conf PG 36 l->l.size<N->l.size<M->caB fn N l=caB fn M l:=by
 intro N
 induction N with
 |zero=>intro M l _ h;omega
 |succ N ih=>
  intro M l hc h1 h2;cases M with
  |zero=>omega
  |succ M=>
   simp only[caB];rw[fx];simp only[bX];constructor
   ·intro h s hs;obtain⟨c1,c2⟩:=bZ hc hs;have:=h s hs;simp only[bu,bX]at this ⊢;refine⟨this.1,fun x hx=> ?_⟩
    obtain⟨k1,k2⟩:=bk c1 hx;rw[<- ih M x k1 (by omega) (by omega)];exact this.2 x hx
   ·intro h s hs;obtain⟨c1,c2⟩:=bZ hc hs;have:=h s hs;simp only[bu,bX]at this ⊢;refine⟨this.1,fun x hx=> ?_⟩
    obtain⟨k1,k2⟩:=bk c1 hx;rw[ih M x k1 (by omega) (by omega)];exact this.2 x hx
def gE (b:Bool) (e:Int):Int:=if b then e else 17
theorem Rw (a b:Bool) (e:Int):gE b (gE a e)=gE (a&&b) e:=by cases a<;>cases b<;>rfl
theorem Gh {f:D->Bool}:∀(l:List D) (e:Int),l.foldl (fun e x=>gE (f x) e) e=gE (l.all f) e
 | [],e=>rfl
 |x::l,e=>by rw[List.foldl_cons,Gh l,Rw];rfl
theorem Oz {fn:D} (hfn:fn.toList.length≤maxLen):∀(N:Nat) (l:D) (e:Int),Conf PG 36 l->l.size<N->F74 N [fn,l, .int e]=some [.int (gE (caB fn N l) e)]:=by
 intro N
 induction N with
 |zero=>intro l _ _ h;omega
 |succ N ih=>
  intro l e hc hs;rw[F74_s,Fb74_eq,Kb];have hlen:=(ca s36 hc).1;unfold maxLen at hlen;have inner:∀s∈l.toList,∀(a:D) (b c:Int) (e:Int),Q7 (F74 N) [a, .int b, .int c,aa s 6, .int (ac (aa s 6)),fn] [.int 0, .int e]=some [.int 0, .int (gE ((aa s 6).toList.all (caB fn N)) e)]:=by
   intro s hsm a b c e;obtain⟨h1,h2⟩:=bZ hc hsm;rw[Ka];have h6:Conf PG 185 (aa s 6):=by rw[bA];exact bq Gd h1
   have h6l:=(ca s185 h6).1;unfold maxLen at h6l
   have hloop:=(dj (A:=Int) (st:=FX (F74 N) [a, .int b, .int c,aa s 6, .int (ac (aa s 6)),fn]) (n:=(aa s 6).toList.length) (enc:=fun i e=>[.int (i:Int), .int e])
    (f:=fun i e=>gE (caB fn N ((aa s 6).toList.getD i .other)) e) (fin:=fun e=>[.int 0, .int e]) (I:=fun _ _=>True)
    (fun m _=>by rw[Dg,aK];simp[ay]) (fun i e hi _=>by
     have hx0:(aa s 6).toList.getD i .other∈(aa s 6).toList:=by rw[getD_lt hi];exact b7 hi
     have hx:(aa s 6).toList.getD i .other∈bj s:=by unfold bj;simp only[cU];exact .inr (.inr hx0)
     obtain⟨k1,k2⟩:=bk h1 hx;refine⟨?_,trivial⟩
     rw[Dg,aK,aX hi,bl,ih _ e k1 (by omega)]
     simp only[ay,show(i:Int)<((aa s 6).toList.length:Int)by omega,ba,ap,aq,aw,aU,aF]
     rw[bg (by omega)]) (a:=e) trivial).1
   rw[fD (g:=fun x e=>gE (caB fn N x) e),Gh]at hloop
   exact hloop
  have hloop:=(dj (A:=Int) (st:=FZ (F74 N) [l, .int (ac l),fn]) (n:=l.toList.length) (enc:=fun i e=>[.int (i:Int), .int e])
   (f:=fun i e=>gE ((!decide (ah (aa (l.toList.getD i .other) 0)=5)||er fn (aC (aa (l.toList.getD i .other) 2)))&&(bj (l.toList.getD i .other)).all (caB fn N)) e) (fin:=fun e=>[.int 0, .int e]) (I:=fun _ _=>True)
   (fun m _=>by rw[Dh,aK];simp[ay]) (fun i e hi _=>by
    have hx:l.toList.getD i .other∈l.toList:=by rw[getD_lt hi];exact b7 hi
    have hgi:ax l (i:Int)=l.toList.getD i .other:=bl _ _;obtain⟨h1,h2⟩:=bZ hc hx;have hinn:=inner _ hx;generalize l.toList.getD i .other=s at *;have k4:aa s 4∈bj s:=by simp[bj]
    have k5:aa s 5∈bj s:=by simp[bj]
    have e4:=fun e=>ih _ e (bk h1 k4).1 (by have:=(bk h1 k4).2;omega)
    have e5:=fun e=>ih _ e (bk h1 k5).1 (by have:=(bk h1 k5).2;omega)
    have e112:q112 [fn,s, .int e]=some [.int (gE (!decide (ah (aa s 0)=5)||er fn (aC (aa s 2))) e)]:=by
     rw[Q6,F112_eq,ff hfn];simp only[aq,aw,aU,aL,bO,bR,aB,nZ,ap];by_cases h5:ah (aa s 0)=5
     ·cases hm:er fn (aC (aa s 2))<;>simp[h5,gE]
     ·simp[h5,gE]
    refine⟨?_,trivial⟩
    rw[Dh,aX hi,hgi,e112,aK l];simp only[ay,show(i:Int)<(l.toList.length:Int)by omega,ba,ap,aq,aw,aU,bI,aF,e4,e5,hinn,Rw]
    rw[bg (by omega)]
    simp only[bj,nE,Bool.and_assoc]) (a:=e) trivial).1
  rw[fD (g:=fun s e=>gE ((!decide (ah (aa s 0)=5)||er fn (aC (aa s 2)))&&(bj s).all (caB fn N)) e),Gh]at hloop
  simp only[bV]at hloop;simp only[hloop,aq,aw,aU,bI,aF,ap,caB]
theorem OA {fn:D} (hfn:fn.toList.length≤maxLen):∀(N:Nat) (l:D),Conf PG 36 l->l.size<N->F2 N [l,fn]=some [.bool (caB fn N l)]:=by
 intro N
 induction N with
 |zero=>intro l _ h;omega
 |succ N ih=>
  intro l hc hs;rw[F121_s,ZG,Dl];have hlen:=(ca s36 hc).1
  have hloop:=qt (st:=vN (F2 N) [l,fn]) (n:=l.toList.length) (p:=fun i=> !((!decide (ah (aa (l.toList.getD i .other) 0)=5)||er fn (aC (aa (l.toList.getD i .other) 2)))&&(bj (l.toList.getD i .other)).all (caB fn N))) (r0:=[D.int 0]) (r1:=[.int 1]) hlen
   (by rw[Ay,aK];simp[ay]) (fun i hi=>by
    have hx:l.toList.getD i .other∈l.toList:=by rw[getD_lt hi];exact b7 hi
    have hgi:ax l (i:Int)=l.toList.getD i .other:=bl _ _;obtain⟨h1,h2⟩:=bZ hc hx;generalize l.toList.getD i .other=s at *;have k4:aa s 4∈bj s:=by simp[bj]
    have k5:aa s 5∈bj s:=by simp[bj]
    have e4:=ih _ (bk h1 k4).1 (by have:=(bk h1 k4).2;omega)
    have e5:=ih _ (bk h1 k5).1 (by have:=(bk h1 k5).2;omega)
    obtain⟨j,_,j2,j3,_⟩:=vQ hfn (aC (aa s 2));have h6:Conf PG 185 (aa s 6):=by rw[bA];exact bq Gd h1
    have hin:=cA (st:=vM (F2 N) [l,fn, .int (i:Int),s]) (l:=aa s 6) (c:=fun x=>(F2 N [x,fn]).map fun r=>[.bool (b8 (aT (r.getD 0 .other)))]) (p:=fun x=> !caB fn N x) (r1:=fun _=>[.int 1]) (r0:=[.int 0])
     (fun i=>by
      rw[Oc];cases hq:F2 N [ax (aa s 6) i,fn]with
      |none=>simp[ia]
      |some r=>simp[aq,aw,aL]) (ca s185 h6).1 (fun x hx=>by
      have hk:x∈bj s:=by simp[bj,hx]
      obtain⟨k1,k2⟩:=bk h1 hk
      rw[ih x k1 (by omega)];simp[aL,bO])
    have hall:(aa s 6).toList.all (caB fn N) = !((aa s 6).toList.any fun x=> !caB fn N x):=by rw[wh];simp
    have hj:decide (j<0) = !er fn (aC (aa s 2)):=by rw[<- j3];by_cases h:0≤j<;>simp[h]<;>omega
    rw[Ay,aK,aX hi,hgi,j2,e4,e5,Dk];simp only[ay,show(i:Int)<(l.toList.length:Int)by omega,ba,ap,aq,aw,aU,aF,aL,bO,bR,aB,nZ,hj,bj,nE,hall]
    generalize caB fn N (aa s 4)=b4;generalize caB fn N (aa s 5)=b5;generalize er fn (aC (aa s 2))=b2
    rcases hin with⟨c1,c2⟩|⟨_,c1,c2⟩<;>rw[c2]<;>by_cases h5:ah (aa s 0)=5<;>cases b4<;>cases b5<;>cases b2<;>simp[h5,c1,aq,aw,aF])
  rw[Dr (p:=fun s=> !((!decide (ah (aa s 0)=5)||er fn (aC (aa s 2)))&&(bj s).all (caB fn N)))]at hloop
  have hall:caB fn (N+1) l = !(l.toList.any fun s=> !((!decide (ah (aa s 0)=5)||er fn (aC (aa s 2)))&&(bj s).all (caB fn N))):=by
   simp only[caB];rw[wh];simp
  rw[hall];simp only[hloop];cases (l.toList.any fun s=> !((!decide (ah (aa s 0)=5)||er fn (aC (aa s 2)))&&(bj s).all (caB fn N)))<;>simp[aq,aw,aF,aB]
end
end Go.Proofs.YtiojjmlccehpoaaGreat
