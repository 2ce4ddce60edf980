/-
  Closed runs, quickly: the evaluator once more, laid out so that the kernel reckons little at each operation. That it says the same as the evaluator is proved here.
-/
import Derived.Test.YtiojjmlccehpoaaGreatAmU
set_option linter.unusedSimpArgs false
set_option linter.unusedVariables false
namespace Go.AM
noncomputable section
def getF {R:Type} (fr:Fr) (n:Nat) (k:AV->R):R:=
 List.rec (motive:=fun _=>Nat->R) (fun _=>k .undef) (fun x _ ih n=>Nat.rec (motive:=fun _=>R) (k x) (fun m _=>ih m) n) fr n
theorem N9 {R:Type} (k:AV->R):∀(fr:Fr) (n:Nat),getF fr n k=k (fr.getD n .undef)
 | [],_=>rfl
 |_::_,0=>rfl
 |_::fr,n+1=>by
  have:=N9 k fr n;simpa[getF]using this
def QV {α R:Type} (l:List α) (n:Nat) (v:α) (k:List α->R):R:=
 List.rec (motive:=fun _=>Nat->(List α->R)->R) (fun _ k=>k []) (fun x xs ih n k=>Nat.rec (motive:=fun _=>R) (k (v::xs)) (fun m _=>ih m (fun ys=>k (x::ys))) n) l n k
theorem DE {α R:Type} (v:α):∀(l:List α) (n:Nat) (k:List α->R),QV l n v k=k (l.set n v)
 | [],_,_=>rfl
 |_::_,0,_=>rfl
 |x::l,n+1,k=>by
  have:=DE v l n (fun ys=>k (x::ys))
  simpa[QV]using this
def oc {α R:Type} (l:List α) (n:Nat) (k:α->R) (g:R):R:=
 List.rec (motive:=fun _=>Nat->R) (fun _=>g) (fun x _ ih n=>Nat.rec (motive:=fun _=>R) (k x) (fun m _=>ih m) n) l n
theorem i9 {α R:Type} (k:α->R) (g:R):∀(l:List α) (n:Nat),oc l n k g=(match l[n]? with|some x=>k x|none=>g)
 | [],_=>rfl
 |_::_,0=>rfl
 |_::l,n+1=>by
  have:=i9 k g l n;simpa[oc]using this
def w9 {α R:Type} (l:List α) (n:Nat) (k:List α->R):R:=
 Nat.rec (motive:=fun _=>List α->R) (fun l=>k l) (fun _ ih l=>List.rec (motive:=fun _=>R) (k []) (fun _ xs _=>ih xs) l) n l
theorem xc {α R:Type} (k:List α->R):∀(n:Nat) (l:List α),w9 l n k=k (l.drop n)
 |0,_=>rfl
 |n+1,[]=>rfl
 |n+1,_::l=>by
  have:=xc k n l;simpa[w9]using this
def sP {α R:Type} (n:Nat) (l:List α) (k:List α->R) (g:R):R:=
 Nat.rec (motive:=fun _=>List α->(List α->R)->R) (fun _ k=>k []) (fun _ ih l k=>List.rec (motive:=fun _=>R) g (fun x xs _=>ih xs (fun ys=>k (x::ys))) l) n l k
theorem xd {α R:Type} (g:R):∀(n:Nat) (l:List α) (k:List α->R),sP n l k g=if n≤l.length then k (l.take n)else g
 |0,_,_=>rfl
 |n+1,[],_=>by simp[sP]
 |n+1,x::l,k=>by
  have:=xd g n l (fun ys=>k (x::ys))
  simpa[sP]using this
def dfl {α R:Type}:α->R->R:=fun _ g=>g
def asIntV {R:Type} (v:Value):(IntKind->Int->R)->R->R:=
 match v with
 | .int k n=>fun f _=>f k n
 |_=>dfl
def asInt {R:Type} (x:AV):(IntKind->Int->R)->R->R:=
 match x with
 | .sc v=>asIntV v
 |_=>dfl
def asBoolV {R:Type} (v:Value):(Bool->R)->R->R:=
 match v with
 | .bool b=>fun f _=>f b
 |_=>dfl
def asBool {R:Type} (x:AV):(Bool->R)->R->R:=
 match x with
 | .sc v=>asBoolV v
 |_=>dfl
def sQ {R:Type} (x:AV):(Nat->Nat->R)->R->R:=
 match x with
 | .ptr i off=>fun f _=>f i off
 |_=>dfl
def asSl {R:Type} (x:AV):(Nat->Nat->Nat->Nat->R)->R->R:=
 match x with
 | .sl i z off len=>fun f _=>f i z off len
 |_=>dfl
def asAgg {R:Type} (x:AV):(List AV->R)->R->R:=
 match x with
 | .agg cs=>fun f _=>f cs
 |_=>dfl
def Uk {R:Type} (x:AV):(List AV->R)->R->R:=
 match x with
 | .tup cs=>fun f _=>f cs
 |_=>dfl
theorem gA {R:Type} (x:AV) (f:IntKind->Int->R) (g:R):(∃k n,x = .sc (.int k n)∧asInt x f g=f k n)∨asInt x f g=g:=by
 cases x<;>try exact .inr rfl
 rename_i v;cases v<;>first|exact .inr rfl|exact .inl ⟨_,_,rfl,rfl⟩
theorem kO {R:Type} (x:AV) (f:Bool->R) (g:R):(∃b,x = .sc (.bool b)∧asBool x f g=f b)∨asBool x f g=g:=by
 cases x<;>try exact .inr rfl
 rename_i v;cases v<;>first|exact .inr rfl|exact .inl ⟨_,rfl,rfl⟩
theorem fq {R:Type} (x:AV) (f:Nat->Nat->R) (g:R):(∃i o,x = .ptr i o∧sQ x f g=f i o)∨sQ x f g=g:=by
 cases x<;>first|exact .inl ⟨_,_,rfl,rfl⟩|exact .inr rfl
theorem K9 {R:Type} (x:AV) (f:Nat->Nat->Nat->Nat->R) (g:R):(∃i z o l,x = .sl i z o l∧asSl x f g=f i z o l)∨asSl x f g=g:=by
 cases x<;>first|exact .inl ⟨_,_,_,_,rfl,rfl⟩|exact .inr rfl
theorem sR {R:Type} (x:AV) (f:List AV->R) (g:R):(∃cs,x = .agg cs∧asAgg x f g=f cs)∨asAgg x f g=g:=by
 cases x<;>first|exact .inl ⟨_,rfl,rfl⟩|exact .inr rfl
theorem G2 {R:Type} (x:AV) (f:List AV->R) (g:R):(∃cs,x = .tup cs∧Uk x f g=f cs)∨Uk x f g=g:=by
 cases x<;>first|exact .inl ⟨_,rfl,rfl⟩|exact .inr rfl
def kNum (k:IntKind):Nat:=match k with | .i8=>0 | .i16=>1 | .i32=>2 | .i64=>3 | .u8=>4 | .u16=>5 | .u32=>6 | .u64=>7
def kMax (k:IntKind):Nat:=match k with | .i8=>127 | .i16=>32767 | .i32=>2147483647 | .i64=>9223372036854775807 | .u8=>255 | .u16=>65535 | .u32=>4294967295 | .u64=>18446744073709551615
def kEq (k k':IntKind):Bool:=Nat.beq (kNum k) (kNum k')
theorem kEq_iff {k k':IntKind}:kEq k k'=true↔k=k':=by cases k<;>cases k'<;>decide
def eqI (a b:Int):Bool:=
 match a with
 | .ofNat a=>(match b with | .ofNat b=>Nat.beq a b | .negSucc _=>false)
 | .negSucc a=>(match b with | .ofNat _=>false | .negSucc b=>Nat.beq a b)
theorem kP (a b:Int):eqI a b=(a==b):=by
 cases a with
 |ofNat a=>
  cases b with
  |ofNat b=>
   simp only[eqI];by_cases h:a=b
   ·subst h;simp
   ·have h1:Nat.beq a b=false:=by
     cases e:Nat.beq a b with
     |false=>rfl
     |true=>exact(h (aR e)).elim
    rw[h1]
    symm
    simp only[beq_eq_false_iff_ne,ne_eq,Int.ofNat.injEq];exact h
  |negSucc b=>simp only[eqI];symm;simp
 |negSucc a=>
  cases b with
  |ofNat b=>simp only[eqI];symm;simp
  |negSucc b=>
   simp only[eqI];by_cases h:a=b
   ·subst h;simp
   ·have h1:Nat.beq a b=false:=by
     cases e:Nat.beq a b with
     |false=>rfl
     |true=>exact(h (aR e)).elim
    rw[h1]
    symm
    simp only[beq_eq_false_iff_ne,ne_eq,Int.negSucc.injEq];exact h
def xe (k:IntKind) (z:Int):Int:=
 match z with
 | .ofNat u=>bif Nat.ble u (kMax k)then .ofNat u else k.wrap (.ofNat u)
 | .negSucc u=>k.wrap (.negSucc u)
theorem eW (k:IntKind) (z:Int):xe k z=k.wrap z:=by
 cases z with
 |negSucc u=>rfl
 |ofNat u=>
  simp only[xe];cases h:Nat.ble u (kMax k)with
  |false=>rfl
  |true=>
   simp only[aj];have hu:=vo h;simp only[IntKind.wrap];cases k<;>simp only[kMax]at hu<;>simp[IntKind.bits,IntKind.signed]<;>omega
structure TF where
 n:Nat
 rows:List (List AV)
def TF.get (x:TF) (i:Nat):AV:=(x.rows.getD (i/12) []).getD (i%12) .undef
def qW (x:TF) (m:Nat):Nat->Fr:=Nat.rec (motive:=fun _=>Nat->Fr) (fun _=>[]) (fun _ ih i=>x.get i::ih (i+1)) m
theorem ja (x:TF) (m i:Nat):qW x (m+1) i=x.get i::qW x m (i+1):=rfl
def TF.fr (x:TF):Fr:=qW x x.n 0
theorem xf (x:TF):∀(m i j:Nat),(qW x m i)[j]? = if j<m then some (x.get (i+j))else none
 |0,_,j=>by rw[if_neg (Nat.not_lt_zero j)];rfl
 |m+1,i,0=>by rw[ja,if_pos (Nat.succ_pos m)];rfl
 |m+1,i,j+1=>by
  simp only[ja,sd,xf x m (i+1) j,Nat.add_lt_add_iff_right];rw[show i+1+j=i+(j+1)by omega]
theorem qX (x:TF) (j:Nat):x.fr[j]? = if j<x.n then some (x.get j)else none:=by
 unfold TF.fr;rw[xf,d9]
def QW {R:Type} (x:TF) (i:Nat) (k:AV->R):R:=
 bif Nat.blt i x.n then oc x.rows (i/12) (fun row=>getF row (i%12) k) (k .undef)else k .undef
theorem DF {R:Type} (x:TF) (i:Nat) (k:AV->R):QW x i k=k (x.fr.getD i .undef):=by
 unfold QW;rw[ne,qX];cases h:Nat.blt i x.n with
 |false=>
  have:¬i<x.n:=by rw[<- Nat.blt_eq,h];simp
  simp only[aI,if_neg this,Option.getD_none]
 |true=>
  have hi:i<x.n:=by rw[<- Nat.blt_eq];exact h
  simp only[aj,if_pos hi,jG,i9,TF.get];cases hr:x.rows[i/12]? with
  |none=>simp only[ne,hr,Option.getD_none,List.getElem?_nil]
  |some row=>simp only[N9,ne,hr,jG]
def na {α:Type} (d:α):List α->Nat->α->List α
 | [],0,v=>[v]
 | [],n+1,v=>d::na d [] n v
 |_::xs,0,v=>v::xs
 |x::xs,n+1,v=>x::na d xs n v
theorem pk {α:Type} (d:α) (v:α):∀(l:List α) (n j:Nat),(na d l n v).getD j d=if j=n then v else l.getD j d
 | [],0,0=>by simp[na]
 | [],0,j+1=>by simp[na]
 | [],n+1,0=>by simp[na]
 | [],n+1,j+1=>by
   have:=pk d v [] n j;simp only[na,bt,this,List.getD_nil,Nat.add_right_cancel_iff]
 |_::xs,0,0=>by simp[na]
 |_::xs,0,j+1=>by simp[na]
 |x::xs,n+1,0=>by simp[na]
 |x::xs,n+1,j+1=>by
  have:=pk d v xs n j;simp only[na,bt,this,Nat.add_right_cancel_iff]
def BQ {α R:Type} (d:α) (l:List α) (n:Nat) (v:α) (k:List α->R):R:=
 List.rec (motive:=fun _=>Nat->(List α->R)->R) (fun n k=>k (na d [] n v)) (fun x xs ih n k=>Nat.rec (motive:=fun _=>R) (k (v::xs)) (fun m _=>ih m (fun ys=>k (x::ys))) n) l n k
theorem xg {α R:Type} (d v:α):∀(l:List α) (n:Nat) (k:List α->R),BQ d l n v k=k (na d l n v)
 | [],_,_=>rfl
 |_::_,0,_=>rfl
 |x::l,n+1,k=>by
  have:=xg d v l n (fun ys=>k (x::ys))
  simpa[BQ,na]using this
def TF.set (x:TF) (i:Nat) (v:AV):TF:=⟨x.n,na [] x.rows (i/12) (na .undef (x.rows.getD (i/12) []) (i%12) v)⟩
theorem TF.get_set (x:TF) (i j:Nat) (v:AV):(x.set i v).get j=if j=i then v else x.get j:=by
 simp only[TF.get,TF.set];rw[pk];by_cases h:j/12=i/12
 ·rw[if_pos h,pk];by_cases h2:j%12=i%12
  ·rw[if_pos h2,if_pos (by omega)]
  ·rw[if_neg h2,if_neg (fun e=>h2 (by rw[e])),h]
 ·rw[if_neg h,if_neg (fun e=>h (by rw[e]))]
theorem Lb (x:TF) (i:Nat) (v:AV):(x.set i v).fr=x.fr.set i v:=by
 apply gi;intro j;rw[hZ,qX,qX];have hl:x.fr.length=x.n:=by
  have:∀m i,(qW x m i).length=m:=by
   intro m
   induction m with
   |zero=>intro i;rfl
   |succ m ih=>intro i;simp only[ja,cn,ih]
  exact this _ _
 simp only[hl]
 show(if j<x.n then some ((x.set i v).get j)else none)=_
 rw[TF.get_set];by_cases h:i=j
 ·subst h;by_cases h2:i<x.n<;>simp[h2]
 ·simp only[if_neg h,if_neg (fun e:j=i=>h e.symm)]
def Lc {R:Type} (x:TF) (i:Nat) (v:AV) (k:TF->R):R:=
 oc x.rows (i/12) (fun row=>BQ .undef row (i%12) v fun row=>BQ [] x.rows (i/12) row fun rows=>k ⟨x.n,rows⟩) (BQ .undef [] (i%12) v fun row=>BQ [] x.rows (i/12) row fun rows=>k ⟨x.n,rows⟩)
theorem uk {R:Type} (x:TF) (i:Nat) (v:AV) (k:TF->R):Lc x i v k=k (x.set i v):=by
 unfold Lc TF.set;rw[i9];cases hr:x.rows[i/12]? with
 |none=>simp only[xg,ne,hr,Option.getD_none]
 |some row=>simp only[xg,ne,hr,jG]
def G3 (fr:Fr) (k:List (List AV)->List (List AV)):Nat->List (List AV)
 |0=>k []
 |m+1=>fr.take 12::G3 (fr.drop 12) k m
def TF.of (fr:Fr):TF:=⟨fr.length,G3 fr (fun l=>l) (fr.length/12+1)⟩
theorem BR:∀(m:Nat) (fr:Fr) (i:Nat),i<m->(G3 fr (fun l=>l) m).getD i []=(fr.drop (12*i)).take 12
 |0,_,_,h=>by omega
 |m+1,fr,0,_=>by simp[G3]
 |m+1,fr,i+1,h=>by
  have:=BR m (fr.drop 12) i (by omega)
  simp only[G3,bt,this,List.drop_drop];rw[show 12+12*i=12*(i+1)by omega]
theorem sS (fr:Fr):(TF.of fr).fr=fr:=by
 apply gi;intro j;rw[qX]
 show(if j<fr.length then some ((TF.of fr).get j)else none)=_
 by_cases h:j<fr.length
 ·rw[if_pos h];simp only[TF.get,TF.of];rw[BR _ _ _ (by omega),ne,gO,if_pos (Nat.mod_lt _ (by omega)),jF,Nat.div_add_mod]
  rw[cq h];rfl
 ·rw[if_neg h,iG (by omega)]
universe u
structure Bx (α:Type u) where
 a:α
structure RQ where
 d:Rec
 k:{R:Type}->FuncId->List AV->Hp->(AV->Hp->Option R)->Option R
 law:∀{R:Type} (f:FuncId) (args:List AV) (H:Hp) (h:AV->Hp->Option R),k f args H h=(d f args H).bind fun p=>h p.1 p.2
def RQ.of (d:Rec):RQ:=⟨d,fun f args H h=>(d f args H).bind fun p=>h p.1 p.2,fun _ _ _ _=>rfl⟩
abbrev KO (R:Type):=RQ->TF->Hp->(TF->Hp->Option R)->Option R
abbrev KS (R:Type):=Rec->Fr->Hp->(Fr->Hp->Option R)->Option R
def Sp {R:Type} (A:KO R) (S:KS R):Prop:=∀r (x:TF) H (k:TF->Hp->Option R) (kn:Fr->Hp->Option R),(∀y H',k y H'=kn y.fr H')->A r x H k=S r.d x.fr H kn
section
variable {R:Type}
def dd (d:Option Tmp):TF->AV->Hp->(TF->Hp->Option R)->Option R:=
 match d with
 |some t=>fun fr v H k=>Lc fr t v (fun fr=>k fr H)
 |none=>fun fr _ H k=>k fr H
theorem cY {k:TF->Hp->Option R} {kn:Fr->Hp->Option R} (hk:∀y H',k y H'=kn y.fr H') (d:Option Tmp) (fr:TF) (v:AV) (H:Hp):dd d fr v H k=kn (dB fr.fr d v) H:=by
 cases d with
 |none=>exact hk _ _
 |some t=>
  show Lc fr t v (fun fr=>k fr H)=kn (fr.fr.set t v) H
  rw[uk,hk,Lb]
def gL {S:Type} (x:Operand):TF->(AV->S)->S:=
 match x with
 | .tmp t=>fun fr k=>QW fr t k
 | .const v=>fun _ k=>k (ofV v)
 | .global g=>fun _ k=>k (.sc (.pointer (some ⟨g,0,none⟩)))
 | .func f=>fun _ k=>k (.func f [] [])
theorem dh {S:Type} (x:Operand) (fr:TF) (k:AV->S):gL x fr k=k (opd fr.fr x):=by
 cases x with
 |tmp t=>exact DF fr t k
 |_=>rfl
def cS (e:Env) (o:Oper):KS R:=fun r fr H k=>(eF e r fr H o.type o.op).bind fun p=>k (dB fr o.dst p.1) p.2
def od (e:Env) (o:Oper):KO R:=fun r fr H k=>opK e r.d fr.fr H o.type o.op fun p=>frA 3 p.1 fun v=>dd o.dst fr v p.2 k
theorem eK (e:Env) (o:Oper):Sp (od e o:KO R) (cS e o):=by
 intro r fr H k kn hk;simp only[od,cS,qC,qD,cY hk]
theorem dF {e:Env} {o:Oper} {r:Rec} {fr:Fr} {H:Hp} {k:Fr->Hp->Option R} {v:AV} {H':Hp} (h1:aU (obl e fr H o.op)=true) (h2:bS e r fr H o.type o.op=some (v,H')):cS e o r fr H k=k (dB fr o.dst v) H':=by
 simp only[cS,o7 h1 h2,bc]
def Oa (x:Operand) (d:Option Tmp):KO R:=fun _ fr H k=>gL x fr fun v=>dd d fr v H k
def bK (b:Bool) (k:AV->Option R):Option R:=Bool.rec (motive:=fun _=>Option R) (k (.sc (.bool false))) (k (.sc (.bool true))) b
theorem pn (b:Bool) (k:AV->Option R):bK b k=k (.sc (.bool b)):=by cases b<;>rfl
abbrev KI (R:Type):=IntKind->Int->IntKind->Int->(AV->Option R)->Option R->Option R
def xh:KI R:=fun k a k' b f g=>bif kEq k k' then frI (fun z=>f (.sc (.int k z))) (xe k (a+b))else g
def xi:KI R:=fun k a k' b f g=>bif kEq k k' then frI (fun z=>f (.sc (.int k z))) (xe k (a-b))else g
def xj:KI R:=fun k a k' b f g=>bif kEq k k' then frI (fun z=>f (.sc (.int k z))) (xe k (a*b))else g
def xk:KI R:=fun k a k' b f g=>bif kEq k k' then bK (eqI a b) f else g
def xl:KI R:=fun k a k' b f g=>bif kEq k k' then bK (!(eqI a b)) f else g
def xm:KI R:=fun k a k' b f g=>bif kEq k k' then bK (!(leI b a)) f else g
def xn:KI R:=fun k a k' b f g=>bif kEq k k' then bK (leI a b) f else g
def xp:KI R:=fun k a k' b f g=>bif kEq k k' then bK (!(leI a b)) f else g
def xq:KI R:=fun k a k' b f g=>bif kEq k k' then bK (leI b a) f else g
def iNone:KI R:=fun _ _ _ _ _ g=>g
def iOp (op:BinOp):KI R:=
 match op with
 | .add=>xh
 | .sub=>xi
 | .mul=>xj
 | .eql=>xk
 | .neq=>xl
 | .lss=>xm
 | .leq=>xn
 | .gtr=>xp
 | .geq=>xq
 |_=>iNone
theorem QX (op:BinOp) (k k':IntKind) (a b:Int) (f:AV->Option R) (g:Option R):(∃v,eY op k a k' b=some v∧iOp op k a k' b f g=f v∧jn op (.sc (.int k a)) (.sc (.int k' b)) = [])∨iOp op k a k' b f g=g:=by
 cases h:kEq k k' with
 |false=>right;cases op<;>simp[iOp,xh,xi,xj,xk,xl,xm,xn,xp,xq,iNone,h]
 |true=>
  have hk:=kEq_iff.1 h;subst hk;cases op
  case add=>exact .inl ⟨.sc (.int k (k.wrap (a+b))),by simp only[eY,cF,aI,aX,gF],by simp only[iOp,xh,xi,xj,xk,xl,xm,xn,xp,xq,h,aj,ir,eW,pn,kP,bne],rfl⟩
  case sub=>exact .inl ⟨.sc (.int k (k.wrap (a-b))),by simp only[eY,cF,aI,aX,gF],by simp only[iOp,xh,xi,xj,xk,xl,xm,xn,xp,xq,h,aj,ir,eW,pn,kP,bne],rfl⟩
  case mul=>exact .inl ⟨.sc (.int k (k.wrap (a*b))),by simp only[eY,cF,aI,aX,gF],by simp only[iOp,xh,xi,xj,xk,xl,xm,xn,xp,xq,h,aj,ir,eW,pn,kP,bne],rfl⟩
  case eql=>exact .inl ⟨.sc (.bool (a==b)),by simp only[eY,cF,aI,aX,gF],by simp only[iOp,xh,xi,xj,xk,xl,xm,xn,xp,xq,h,aj,ir,eW,pn,kP,bne],rfl⟩
  case neq=>exact .inl ⟨.sc (.bool (a != b)),by simp only[eY,cF,aI,aX,gF],by simp only[iOp,xh,xi,xj,xk,xl,xm,xn,xp,xq,h,aj,ir,eW,pn,kP,bne],rfl⟩
  case lss=>exact .inl ⟨.sc (.bool (!(leI b a))),by simp only[eY,cF,aI,aX,gF],by simp only[iOp,xh,xi,xj,xk,xl,xm,xn,xp,xq,h,aj,ir,eW,pn,kP,bne],rfl⟩
  case leq=>exact .inl ⟨.sc (.bool (leI a b)),by simp only[eY,cF,aI,aX,gF],by simp only[iOp,xh,xi,xj,xk,xl,xm,xn,xp,xq,h,aj,ir,eW,pn,kP,bne],rfl⟩
  case gtr=>exact .inl ⟨.sc (.bool (!(leI a b))),by simp only[eY,cF,aI,aX,gF],by simp only[iOp,xh,xi,xj,xk,xl,xm,xn,xp,xq,h,aj,ir,eW,pn,kP,bne],rfl⟩
  case geq=>exact .inl ⟨.sc (.bool (leI b a)),by simp only[eY,cF,aI,aX,gF],by simp only[iOp,xh,xi,xj,xk,xl,xm,xn,xp,xq,h,aj,ir,eW,pn,kP,bne],rfl⟩
  all_goals exact .inr rfl
def cBin (op:BinOp) (x y:Operand) (d:Option Tmp) (g:KO R):KO R:=fun r fr H k=>
 gL x fr fun a=>gL y fr fun b=>asInt a (fun ka n=>asInt b (fun kb m=>iOp op ka n kb m (fun v=>dd d fr v H k) (g r fr H k)) (g r fr H k)) (g r fr H k)
def cellsB (b:Option Blk) {S:Type}:(List AV->S)->S->S:=
 match b with
 |some (.cells cs)=>fun f _=>f cs
 |_=>dfl
def po {S:Type} (H:Hp) (i:Nat) (k:List AV->S) (g:S):S:=
 bif Nat.blt i H.n then oc H.bs (H.n-1-i) (fun b=>cellsB b k g) g else g
theorem mr {S:Type} (H:Hp) (i:Nat) (k:List AV->S) (g:S):(∃cs,H.get i=some (.cells cs)∧po H i k g=k cs)∨po H i k g=g:=by
 unfold po Hp.get;cases hb:Nat.blt i H.n with
 |false=>exact .inr rfl
 |true=>
  simp only[aj,i9];cases hn:H.bs[H.n-1-i]? with
  |none=>exact .inr rfl
  |some b=>
   cases b with
   |none=>exact .inr rfl
   |some b=>cases b<;>first|exact .inr rfl|exact .inl ⟨_,rfl,rfl⟩
def cLd1 (x:Operand) (d:Option Tmp) (g:KO R):KO R:=fun r fr H k=>
 gL x fr fun a=>sQ a (fun i off=>po H i (fun cs=>oc cs off (fun v=>dd d fr v H k) (g r fr H k)) (g r fr H k)) (g r fr H k)
def cLdN (n:Nat) (x:Operand) (d:Option Tmp) (g:KO R):KO R:=fun r fr H k=>
 gL x fr fun a=>sQ a (fun i off=>po H i (fun cs=>w9 cs off fun l=>sP n l (fun vs=>dd d fr (.agg vs) H k) (g r fr H k)) (g r fr H k)) (g r fr H k)
def Ul (P:Program) (T:TypeId) (x:Operand) (d:Option Tmp) (g:KO R):Bx (KO R):=
 match kt P T with
 |some false=>⟨cLd1 x d g⟩
 |some true=>(match sz P T with|some n=>bif Nat.beq n 0 then⟨g⟩else⟨cLdN n x d g⟩|none=>⟨g⟩)
 |none=>⟨g⟩
def oneV (v:Value):Bool:=match v with | .agg _=>false | .tuple _=>false|_=>true
def oneF (x:AV):Bool:=
 match x with
 | .sc v=>oneV v
 | .ptr _ _=>true
 | .sl _ _ _ _=>true
 | .map _=>true
 | .func _ _ _=>true
 |_=>false
theorem Um {x:AV} (h:oneF x=true):one x=true∧cellsOf x=some [x]∧(∀T d,x≠ .dat T d):=by
 cases x<;>simp only[oneF]at h
 case sc v=>
  have h1:one (.sc v)=true:=by cases v<;>simp only[oneV]at h<;>first|rfl|cases h
  exact⟨h1,by simp only[cellsOf,h1,aX],fun _ _ e=>by cases e⟩
 case ptr=>exact⟨rfl,rfl,by simp⟩
 case sl=>exact⟨rfl,rfl,by simp⟩
 case map=>exact⟨rfl,rfl,by simp⟩
 case func=>exact⟨rfl,rfl,by simp⟩
 all_goals cases h
def G4 {S:Type} (H:Hp) (i:Nat) (cs:List AV) (k:Hp->S):S:=QV H.bs (H.n-1-i) (some (.cells cs)) fun bs=>k ⟨H.n,bs,H.gl⟩
theorem Un {S:Type} (H:Hp) (i:Nat) (cs:List AV) (k:Hp->S):G4 H i cs k=k (H.put i (some (.cells cs))):=by unfold G4;rw[DE];rfl
def cSt1 (x y:Operand) (d:Option Tmp) (g:KO R):KO R:=fun r fr H k=>
 gL x fr fun a=>gL y fr fun v=>bif oneF v then sQ a (fun i off=>po H i (fun cs=>oc cs off (fun _=>QV cs off v fun cs'=>G4 H i cs' fun H'=>dd d fr uv H' k) (g r fr H k)) (g r fr H k)) (g r fr H k)else g r fr H k
def Ld (P:Program) (T:TypeId) (x y:Operand) (d:Option Tmp) (g:KO R):Bx (KO R):=
 match sz P T with
 |some n=>bif Nat.beq n 1 then⟨cSt1 x y d g⟩else⟨g⟩
 |none=>⟨g⟩
def cFA (o:Nat) (x:Operand) (d:Option Tmp) (g:KO R):KO R:=fun r fr H k=>gL x fr fun a=>sQ a (fun i off=>frN (fun off=>dd d fr (.ptr i off) H k) (off+o)) (g r fr H k)
def og (P:Program) (s:TypeId) (f:Nat) (x:Operand) (d:Option Tmp) (g:KO R):Bx (KO R):=
 match lP P s f with
 |some o=>⟨cFA o x d g⟩
 |none=>⟨g⟩
def sU {S:Type} (n:Int) (k:Nat->S) (g:S):S:=match n with | .ofNat m=>k m | .negSucc _=>g
def cIxSl (s:Nat) (x y:Operand) (d:Option Tmp) (g:KO R):KO R:=fun r fr H k=>
 gL x fr fun a=>gL y fr fun b=>asSl a (fun i z off len=>asInt b (fun _ n=>sU n (fun n=>bif Nat.beq z s&&Nat.blt n len then frN (fun o=>dd d fr (.ptr i o) H k) (off+n*s)else g r fr H k) (g r fr H k)) (g r fr H k)) (g r fr H k)
def Uo (s len:Nat) (x y:Operand) (d:Option Tmp) (g:KO R):KO R:=fun r fr H k=>
 gL x fr fun a=>gL y fr fun b=>sQ a (fun i off=>asInt b (fun _ n=>sU n (fun n=>bif Nat.blt n len then frN (fun o=>dd d fr (.ptr i o) H k) (off+n*s)else g r fr H k) (g r fr H k)) (g r fr H k)) (g r fr H k)
def oh (P:Program) (T:TypeId) (x y:Operand) (d:Option Tmp) (g:KO R):Bx (KO R):=
 match x with
 | .tmp _=>(match P.underlying T with
   |some (.slice e)=>(match sz P e with|some s=>⟨cIxSl s x y d g⟩|none=>⟨g⟩)
   |some (.array len e)=>(match sz P e with|some s=>⟨Uo s len x y d g⟩|none=>⟨g⟩)
   |_=>⟨g⟩)
 |_=>⟨g⟩
def cFl1 (off:Nat) (x:Operand) (d:Option Tmp) (g:KO R):KO R:=fun r fr H k=>gL x fr fun a=>asAgg a (fun cs=>oc cs off (fun v=>dd d fr v H k) (g r fr H k)) (g r fr H k)
def cFlN (off n:Nat) (x:Operand) (d:Option Tmp) (g:KO R):KO R:=fun r fr H k=>gL x fr fun a=>asAgg a (fun cs=>w9 cs off fun l=>sP n l (fun vs=>dd d fr (.agg vs) H k) (g r fr H k)) (g r fr H k)
def Ob (P:Program) (fd:Field) (x:Operand) (d:Option Tmp) (g:KO R):Bx (KO R):=
 match sz P fd.type with
 |some s=>(match kt P fd.type with
  |some true=>bif Nat.beq s 0 then⟨g⟩else⟨cFlN fd.offset s x d g⟩
  |some false=>⟨cFl1 fd.offset x d g⟩
  |none=>⟨g⟩)
 |none=>⟨g⟩
def Le (P:Program) (T:TypeId) (f:Nat) (x:Operand) (d:Option Tmp) (g:KO R):Bx (KO R):=
 match P.underlying T with
 |some (.struct fs)=>(match fs[f]? with|some fd=>Ob P fd x d g|none=>⟨g⟩)
 |_=>⟨g⟩
def cCv (k:IntKind) (x:Operand) (d:Option Tmp) (g:KO R):KO R:=fun r fr H c=>gL x fr fun a=>asInt a (fun _ n=>frI (fun z=>dd d fr (.sc (.int k z)) H c) (xe k n)) (g r fr H c)
def Up (P:Program) (S T:TypeId) (x:Operand) (d:Option Tmp) (g:KO R):Bx (KO R):=
 match P.underlying S,P.underlying T with
 |some (.int _),some (.int k)=>⟨cCv k x d g⟩
 |_,_=>⟨g⟩
def xr (x:Operand) (i:Nat) (d:Option Tmp) (g:KO R):KO R:=fun r fr H k=>gL x fr fun a=>Uk a (fun cs=>oc cs i (fun v=>dd d fr v H k) (g r fr H k)) (g r fr H k)
def Uq (c a b:Operand) (d:Option Tmp) (g:KO R):KO R:=fun r fr H k=>gL c fr fun t=>asBool t (fun t=>Bool.rec (motive:=fun _=>Option R) (gL b fr fun v=>dd d fr v H k) (gL a fr fun v=>dd d fr v H k) t) (g r fr H k)
def cNot (x:Operand) (d:Option Tmp) (g:KO R):KO R:=fun r fr H k=>gL x fr fun t=>asBool t (fun t=>Bool.rec (motive:=fun _=>Option R) (dd d fr (.sc (.bool true)) H k) (dd d fr (.sc (.bool false)) H k) t) (g r fr H k)
def cUn (op:UnOp) (x:Operand) (d:Option Tmp) (g:KO R):Bx (KO R):=match op with | .not=>⟨cNot x d g⟩|_=>⟨g⟩
def qY (x:Operand) (d:Option Tmp) (g:KO R):KO R:=fun r fr H k=>gL x fr fun a=>sQ a (fun _ _=>dd d fr a H k) (g r fr H k)
def Oc {S:Type}:List Operand->TF->(List AV->S)->S
 | [],_,k=>k []
 |x::xs,fr,k=>gL x fr fun v=>Oc xs fr fun vs=>k (v::vs)
theorem G5 {S:Type}:∀(xs:List Operand) (fr:TF) (k:List AV->S),Oc xs fr k=k (xs.map (opd fr.fr))
 | [],_,_=>rfl
 |x::xs,fr,k=>by simp only[Oc,dh,G5 xs,bW]
def Ur (e:Env) (f:FuncId) (args:List Operand) (d:Option Tmp):KO R:=fun r fr H k=>
 Oc args fr fun vs=>cQ (r.k f vs H fun v H'=>frA 3 v fun v=>dd d fr v H' k) (e.pre f vs H)
def Us (e:Env) (c:Call) (d:Option Tmp) (g:KO R):Bx (KO R):=
 match c.callee with
 | .value (.func f)=>bif e.isPure f||e.isFrz f then⟨g⟩else⟨Ur e f c.args.toList d⟩
 |_=>⟨g⟩
def cop (e:Env) (o:Oper):Bx (KO R):=
 match o.op with
 | .move x=>⟨Oa x o.dst⟩
 | .assign x=>⟨Oa x o.dst⟩
 | .binOp op _ x y _=>⟨cBin op x y o.dst (od e o)⟩
 | .load T x=>Ul e.P T x o.dst (od e o)
 | .store T x y=>Ld e.P T x y o.dst (od e o)
 | .fieldAddr s x f=>og e.P s f x o.dst (od e o)
 | .indexAddr T x y=>oh e.P T x y o.dst (od e o)
 | .field T x f=>Le e.P T f x o.dst (od e o)
 | .convert S T x=>Up e.P S T x o.dst (od e o)
 | .extract x i=>⟨xr x i o.dst (od e o)⟩
 | .pick c a b=>⟨Uq c a b o.dst (od e o)⟩
 | .unOp op _ x=>cUn op x o.dst (od e o)
 | .nilCheck x=>⟨qY x o.dst (od e o)⟩
 | .call c=>Us e c o.dst (od e o)
 |_=>⟨od e o⟩
section
variable {e:Env} {o:Oper} {g:KO R}
theorem DG {H:Hp} {i:Nat} {cs:List AV} (h:H.get i=some (.cells cs)):getB H i=some cs:=by simp only[getB,h]
theorem datB_of {H:Hp} {i:Nat} {cs:List AV} (h:H.get i=some (.cells cs)):datB H i=none:=by simp only[datB,h]
theorem G6 {x:Operand} (h:o.op = .move x∨o.op = .assign x):Sp (R:=R) (Oa x o.dst) (cS e o):=by
 intro r fr H k kn hk;simp only[Oa,dh,cY hk];rcases h with h|h<;>exact(dF (by rw[h];rfl) (by rw[h];rfl)).symm
theorem cBin_eq {op:BinOp} {T yT:TypeId} {x y:Operand} (h:o.op = .binOp op T x y yT) (hg:Sp g (cS e o)):Sp (cBin op x y o.dst g) (cS e o):=by
 intro r fr H k kn hk;simp only[cBin,dh];rcases gA (opd fr.fr x) (fun ka n=>asInt (opd fr.fr y) (fun kb m=>iOp op ka n kb m (fun v=>dd o.dst fr v H k) (g r fr H k)) (g r fr H k)) (g r fr H k)with⟨ka,n,hx,e1⟩|e1
 ·rw[e1];rcases gA (opd fr.fr y) (fun kb m=>iOp op ka n kb m (fun v=>dd o.dst fr v H k) (g r fr H k)) (g r fr H k)with⟨kb,m,hy,e2⟩|e2
  ·rw[e2];rcases QX op ka kb n m (fun v=>dd o.dst fr v H k) (g r fr H k)with⟨v,hv,e3,hb⟩|e3
   ·rw[e3,cY hk];refine(dF (v:=v) (H':=H) ?_ ?_).symm
    ·rw[h];simp only[obl,hx,hy,hb,aU]
    ·rw[h];simp only[bS,binA,hx,hy,hv,vA,bc]
   ·rw[e3];exact hg r fr H k kn hk
  ·rw[e2];exact hg r fr H k kn hk
 ·rw[e1];exact hg r fr H k kn hk
theorem Ut {T:TypeId} {x:Operand} (h:o.op = .load T x) (hg:Sp g (cS e o)):Sp ((Ul e.P T x o.dst g).a) (cS e o):=by
 unfold Ul;cases ha:kt e.P T with
 |none=>exact hg
 |some ag=>
  cases ag with
  |false=>
   intro r fr H k kn hk;simp only[cLd1,dh];rcases fq (opd fr.fr x) (fun i off=>po H i (fun cs=>oc cs off (fun v=>dd o.dst fr v H k) (g r fr H k)) (g r fr H k)) (g r fr H k)with⟨i,off,hx,e1⟩|e1
   ·rw[e1];rcases mr H i (fun cs=>oc cs off (fun v=>dd o.dst fr v H k) (g r fr H k)) (g r fr H k)with⟨cs,hcs,e2⟩|e2
    ·rw[e2,i9];cases hv:cs[off]? with
     |none=>exact hg r fr H k kn hk
     |some v=>
      simp only[cY hk];refine(dF (v:=v) (H':=H) ?_ ?_).symm
      ·rw[h];simp only[obl,hx,fF,aU]
      ·rw[h];simp only[bS,hx,eR,ha,ld1,DG hcs,bc,hv,vA]
    ·rw[e2];exact hg r fr H k kn hk
   ·rw[e1];exact hg r fr H k kn hk
  |true=>
   cases hz:sz e.P T with
   |none=>exact hg
   |some n=>
    simp only;cases hn0:Nat.beq n 0 with
    |true=>exact hg
    |false=>
    have hn1:n≠0:=fun e=>by subst e;cases hn0
    simp only[aI];intro r fr H k kn hk;simp only[cLdN,dh];rcases fq (opd fr.fr x) (fun i off=>po H i (fun cs=>w9 cs off fun l=>sP n l (fun vs=>dd o.dst fr (.agg vs) H k) (g r fr H k)) (g r fr H k)) (g r fr H k)with⟨i,off,hx,e1⟩|e1
    ·rw[e1];rcases mr H i (fun cs=>w9 cs off fun l=>sP n l (fun vs=>dd o.dst fr (.agg vs) H k) (g r fr H k)) (g r fr H k)with⟨cs,hcs,e2⟩|e2
     ·rw[e2,xc,xd];by_cases hn:n≤(cs.drop off).length
      ·rw[if_pos hn,cY hk];by_cases ho:off+n≤cs.length
       ·refine(dF (v:= .agg ((cs.drop off).take n)) (H':=H) ?_ ?_).symm
        ·rw[h];simp only[obl,hx,fF,aU]
        ·rw[h];simp only[bS,hx,eR,ha,hz,bc,ldN,sj,datB_of hcs,gm,DG hcs,if_pos ho,vA]
       ·rw[ib]at hn;omega
      ·rw[if_neg hn];exact hg r fr H k kn hk
     ·rw[e2];exact hg r fr H k kn hk
    ·rw[e1];exact hg r fr H k kn hk
theorem set_one {cs:List AV} {off:Nat} {v:AV} (h:off<cs.length):setCells cs off [v]=cs.set off v:=by
 simp only[setCells,cn,cZ];rw[List.set_eq_take_append_cons_drop,if_pos h];simp
theorem QY {T:TypeId} {x y:Operand} (h:o.op = .store T x y) (hg:Sp g (cS e o)):Sp ((Ld e.P T x y o.dst g).a) (cS e o):=by
 unfold Ld;cases hz:sz e.P T with
 |none=>exact hg
 |some n=>
  simp only;cases hn:Nat.beq n 1 with
  |false=>exact hg
  |true=>
   have hn1:=aR hn;subst hn1;simp only[aj];intro r fr H k kn hk;simp only[cSt1,dh];cases ho:oneF (opd fr.fr y)with
   |false=>exact hg r fr H k kn hk
   |true=>
    obtain⟨h1,hc,hnd⟩:=Um ho;simp only[aj];rcases fq (opd fr.fr x) (fun i off=>po H i (fun cs=>oc cs off (fun _=>QV cs off (opd fr.fr y) fun cs'=>G4 H i cs' fun H'=>dd o.dst fr uv H' k) (g r fr H k)) (g r fr H k)) (g r fr H k)with⟨i,off,hx,e1⟩|e1
    ·rw[e1];rcases mr H i (fun cs=>oc cs off (fun _=>QV cs off (opd fr.fr y) fun cs'=>G4 H i cs' fun H'=>dd o.dst fr uv H' k) (g r fr H k)) (g r fr H k)with⟨cs,hcs,e2⟩|e2
     ·rw[e2,i9];cases hv:cs[off]? with
      |none=>exact hg r fr H k kn hk
      |some v0=>
       simp only[DE,Un,cY hk];have hlt:off<cs.length:=(cU.1 hv).1;have hst:kw e.P H T (.ptr i off) (opd fr.fr y)=some (H.put i (some (.cells (cs.set off (opd fr.fr y))))):=by
        have hstN:stN H 1 (.ptr i off) [opd fr.fr y]=some (H.put i (some (.cells (cs.set off (opd fr.fr y))))):=by
         simp only[stN,DG hcs,bc];rw[if_pos ⟨rfl,by omega,by simp[h1]⟩,set_one hlt]
        simp only[kw,hz,hc,bc];exact hstN
       refine(dF (v:=uv) (H':=H.put i (some (.cells (cs.set off (opd fr.fr y))))) ?_ ?_).symm
       ·rw[h];simp only[obl,hx,fF,aU]
       ·rw[h];simp only[bS,hx,hst,uA,bc]
     ·rw[e2];exact hg r fr H k kn hk
    ·rw[e1];exact hg r fr H k kn hk
theorem AU {s:TypeId} {f:Nat} {x:Operand} (h:o.op = .fieldAddr s x f) (hg:Sp g (cS e o)):Sp ((og e.P s f x o.dst g).a) (cS e o):=by
 unfold og;cases hf:lP e.P s f with
 |none=>exact hg
 |some q=>
  intro r fr H k kn hk;simp only[cFA,dh];rcases fq (opd fr.fr x) (fun i off=>frN (fun off=>dd o.dst fr (.ptr i off) H k) (off+q)) (g r fr H k)with⟨i,off,hx,e1⟩|e1
  ·rw[e1,wu,cY hk];refine(dF (v:= .ptr i (off+q)) (H':=H) ?_ ?_).symm
   ·rw[h];rfl
   ·rw[h];simp only[bS,hx,kA,hf,bc,dP,vA]
  ·rw[e1];exact hg r fr H k kn hk
theorem sV {S:Type} (n:Int) (k:Nat->S) (g:S):(∃m:Nat,n=(m:Int)∧sU n k g=k m)∨sU n k g=g:=by
 cases n with
 |ofNat m=>exact .inl ⟨m,rfl,rfl⟩
 |negSucc m=>exact .inr rfl
theorem AW {T:TypeId} {x y:Operand} (h:o.op = .indexAddr T x y) (hg:Sp g (cS e o)):Sp ((oh e.P T x y o.dst g).a) (cS e o):=by
 unfold oh;split
 case h_2=>exact hg
 case h_1 t=>
 split
 case h_3=>exact hg
 case h_1 el hu=>
  cases hz:sz e.P el with
  |none=>exact hg
  |some s=>
   intro r fr H k kn hk;simp only[cIxSl,dh];rcases K9 (opd fr.fr (.tmp t)) (fun i z off len=>asInt (opd fr.fr y) (fun _ n=>sU n (fun n=>bif Nat.beq z s&&Nat.blt n len then frN (fun q=>dd o.dst fr (.ptr i q) H k) (off+n*s)else g r fr H k) (g r fr H k)) (g r fr H k)) (g r fr H k)with⟨i,z,off,len,hx,e1⟩|e1
   ·rw[e1];rcases gA (opd fr.fr y) (fun _ n=>sU n (fun n=>bif Nat.beq z s&&Nat.blt n len then frN (fun q=>dd o.dst fr (.ptr i q) H k) (off+n*s)else g r fr H k) (g r fr H k)) (g r fr H k)with⟨ki,n,hy,e2⟩|e2
    ·rw[e2];rcases sV n (fun n=>bif Nat.beq z s&&Nat.blt n len then frN (fun q=>dd o.dst fr (.ptr i q) H k) (off+n*s)else g r fr H k) (g r fr H k)with⟨m,rfl,e3⟩|e3
     ·rw[e3];cases hb:(Nat.beq z s&&Nat.blt m len)with
      |false=>exact hg r fr H k kn hk
      |true=>
       simp only[aj,wu,cY hk];simp only[bn,ei]at hb;have hzs:=aR hb.1;refine(dF (v:= .ptr i (off+m*s)) (H':=H) ?_ ?_).symm
       ·have hcnd:z=s∧(0:Int)≤(m:Int)∧(m:Int)<(len:Int):=⟨hzs,by omega,by omega⟩
        rw[h];simp only[obl,gn,hx,hy,tM,hu,hz,bc,FX,elemAt,if_pos hcnd,vw,C6,aU]
       ·have hcnd:z=s∧(0:Int)≤(m:Int)∧(m:Int)<(len:Int):=⟨hzs,by omega,by omega⟩
        rw[h];simp only[bS,oB,hx,hy,tM,hu,hz,bc,FX,elemAt,if_pos hcnd,fP,vA]
     ·rw[e3];exact hg r fr H k kn hk
    ·rw[e2];exact hg r fr H k kn hk
   ·rw[e1];exact hg r fr H k kn hk
 case h_2 alen el hu=>
  cases hz:sz e.P el with
  |none=>exact hg
  |some s=>
   intro r fr H k kn hk;simp only[Uo,dh];rcases fq (opd fr.fr (.tmp t)) (fun i off=>asInt (opd fr.fr y) (fun _ n=>sU n (fun n=>bif Nat.blt n alen then frN (fun q=>dd o.dst fr (.ptr i q) H k) (off+n*s)else g r fr H k) (g r fr H k)) (g r fr H k)) (g r fr H k)with⟨i,off,hx,e1⟩|e1
   ·rw[e1];rcases gA (opd fr.fr y) (fun _ n=>sU n (fun n=>bif Nat.blt n alen then frN (fun q=>dd o.dst fr (.ptr i q) H k) (off+n*s)else g r fr H k) (g r fr H k)) (g r fr H k)with⟨ki,n,hy,e2⟩|e2
    ·rw[e2];rcases sV n (fun n=>bif Nat.blt n alen then frN (fun q=>dd o.dst fr (.ptr i q) H k) (off+n*s)else g r fr H k) (g r fr H k)with⟨m,rfl,e3⟩|e3
     ·rw[e3];cases hb:Nat.blt m alen with
      |false=>exact hg r fr H k kn hk
      |true=>
       simp only[aj,wu,cY hk];simp only[ei]at hb;refine(dF (v:= .ptr i (off+m*s)) (H':=H) ?_ ?_).symm
       ·have hcnd:(0:Int)≤(m:Int)∧(m:Int)<(alen:Int):=⟨by omega,by omega⟩
        rw[h];simp only[obl,gn,hx,hy,tM,hu,hz,bc,NJ,if_pos hcnd,fP,dP,vw,C6,aU]
       ·have hcnd:(0:Int)≤(m:Int)∧(m:Int)<(alen:Int):=⟨by omega,by omega⟩
        rw[h];simp only[bS,oB,hx,hy,tM,hu,hz,bc,NJ,if_pos hcnd,fP,dP,vA]
     ·rw[e3];exact hg r fr H k kn hk
    ·rw[e2];exact hg r fr H k kn hk
   ·rw[e1];exact hg r fr H k kn hk
theorem QZ {T:TypeId} {f:Nat} {x:Operand} (h:o.op = .field T x f) (hg:Sp g (cS e o)):Sp ((Le e.P T f x o.dst g).a) (cS e o):=by
 unfold Le;split
 case h_2=>exact hg
 case h_1 fs hu=>
 cases hfd:fs[f]? with
 |none=>exact hg
 |some fd=>
 simp only[Ob];cases hz:sz e.P fd.type with
 |none=>exact hg
 |some s=>
  cases ha:kt e.P fd.type with
  |none=>exact hg
  |some ag=>
   cases ag with
   |false=>
    simp only;intro r fr H k kn hk;simp only[cFl1,dh];rcases sR (opd fr.fr x) (fun cs=>oc cs fd.offset (fun v=>dd o.dst fr v H k) (g r fr H k)) (g r fr H k)with⟨cs,hx,e1⟩|e1
    ·rw[e1,i9];cases hv:cs[fd.offset]? with
     |none=>exact hg r fr H k kn hk
     |some v=>
      simp only[cY hk];refine(dF (v:=v) (H':=H) ?_ ?_).symm
      ·rw[h];rfl
      ·rw[h];simp only[bS,hx,vx,qp,hu,hfd,hz,ha,bc,hv,vA]
    ·rw[e1];exact hg r fr H k kn hk
   |true=>
    simp only;cases hn0:Nat.beq s 0 with
    |true=>exact hg
    |false=>
    have hn1:s≠0:=fun e=>by subst e;cases hn0
    simp only[aI];intro r fr H k kn hk;simp only[cFlN,dh];rcases sR (opd fr.fr x) (fun cs=>w9 cs fd.offset fun l=>sP s l (fun vs=>dd o.dst fr (.agg vs) H k) (g r fr H k)) (g r fr H k)with⟨cs,hx,e1⟩|e1
    ·rw[e1,xc,xd];by_cases hn:s≤(cs.drop fd.offset).length
     ·rw[if_pos hn,cY hk];rw[ib]at hn;have hle:fd.offset+s≤cs.length:=by omega
      refine(dF (v:= .agg ((cs.drop fd.offset).take s)) (H':=H) ?_ ?_).symm
      ·rw[h];rfl
      ·rw[h];simp only[bS,hx,vx,qp,hu,hfd,hz,ha,bc,if_pos hle,vA]
     ·rw[if_neg hn];exact hg r fr H k kn hk
    ·rw[e1];exact hg r fr H k kn hk
theorem gY {α β:Type} {P:Program} (f:α->Sem β):∀s:Sem α,bR P (s.bind f)=(bR P s).bind fun a=>bR P (f a)
 | .pure a=>rfl
 | .program k=>gY f (k P)
 | .load .. =>rfl
 | .store .. =>rfl
 | .new .. =>rfl
 | .shape .. =>rfl
 | .freeze .. =>rfl
 | .frozen .. =>rfl
 | .getObj .. =>rfl
 | .setObj .. =>rfl
 | .choose .. =>rfl
 | .sys .. =>rfl
 | .mark .. =>rfl
 | .halt .. =>rfl
theorem nv {P:Program} {t:TypeId} {d:TypeDesc} (h:P.underlying t=some d):bR P (underlying t)=some d:=by
 unfold underlying;simp only[bind];rw[gY];have:bR P program=some P:=rfl;rw[this,bc,h]
 rfl
theorem Uu {S T:TypeId} {x:Operand} (h:o.op = .convert S T x) (hg:Sp g (cS e o)):Sp ((Up e.P S T x o.dst g).a) (cS e o):=by
 unfold Up;split
 case h_2=>exact hg
 case h_1 ks kd h1 h2=>
  intro r fr H k kn hk;simp only[cCv,dh];rcases gA (opd fr.fr x) (fun _ n=>frI (fun z=>dd o.dst fr (.sc (.int kd z)) H k) (xe kd n)) (g r fr H k)with⟨ki,n,hx,e1⟩|e1
  ·rw[e1,ir,cY hk,eW];have hp:bR e.P (Go.convert S T (.int ki n))=some (.int kd (kd.wrap n)):=by
    unfold Go.convert;simp only[bind];rw[gY,nv h1,bc,gY,nv h2,bc]
    rfl
   refine(dF (v:= .sc (.int kd (kd.wrap n))) (H':=H) ?_ ?_).symm
   ·rw[h];rfl
   ·rw[h];have hb:vE e.P S T (.sc (.int ki n))=none:=by simp only[vE,h1,h2]
    simp only[bS,hx,qu,hb,oE,Bk,gm,hp,cH,ofV,bc]
  ·rw[e1];exact hg r fr H k kn hk
theorem G7 {x:Operand} {i:Nat} (h:o.op = .extract x i) (hg:Sp g (cS e o)):Sp (xr x i o.dst g) (cS e o):=by
 intro r fr H k kn hk;simp only[xr,dh];rcases G2 (opd fr.fr x) (fun cs=>oc cs i (fun v=>dd o.dst fr v H k) (g r fr H k)) (g r fr H k)with⟨cs,hx,e1⟩|e1
 ·rw[e1,i9];cases hv:cs[i]? with
  |none=>exact hg r fr H k kn hk
  |some v=>
   simp only[cY hk];refine(dF (v:=v) (H':=H) ?_ ?_).symm
   ·rw[h];simp only[obl,hx,ie,aU]
   ·rw[h];simp only[bS,hx,oD,hv,vA,bc]
 ·rw[e1];exact hg r fr H k kn hk
theorem Uv {c a b:Operand} (h:o.op = .pick c a b) (hg:Sp g (cS e o)):Sp (Uq c a b o.dst g) (cS e o):=by
 intro r fr H k kn hk;simp only[Uq,dh];rcases kO (opd fr.fr c) (fun t=>Bool.rec (motive:=fun _=>Option R) (dd o.dst fr (opd fr.fr b) H k) (dd o.dst fr (opd fr.fr a) H k) t) (g r fr H k)with⟨t,hx,e1⟩|e1
 ·rw[e1];cases t with
  |true=>
   simp only[cY hk];refine(dF (v:=opd fr.fr a) (H':=H) ?_ ?_).symm
   ·rw[h];rfl
   ·rw[h];simp only[bS,hx,FY,vA,bc]
  |false=>
   simp only[cY hk];refine(dF (v:=opd fr.fr b) (H':=H) ?_ ?_).symm
   ·rw[h];rfl
   ·rw[h];simp only[bS,hx,FY,vA,bc]
 ·rw[e1];exact hg r fr H k kn hk
theorem cUn_eq {op:UnOp} {T:TypeId} {x:Operand} (h:o.op = .unOp op T x) (hg:Sp g (cS e o)):Sp ((cUn op x o.dst g).a) (cS e o):=by
 cases op
 case not=>
  intro r fr H k kn hk;simp only[cUn,cNot,dh];rcases kO (opd fr.fr x) (fun t=>Bool.rec (motive:=fun _=>Option R) (dd o.dst fr (.sc (.bool true)) H k) (dd o.dst fr (.sc (.bool false)) H k) t) (g r fr H k)with⟨t,hx,e1⟩|e1
  ·rw[e1];refine Eq.trans ?_ (dF (v:= .sc (.bool (!t))) (H':=H) (by rw[h];rfl) (by rw[h];simp only[bS,hx,unA,Op.unary,bR,cH,ofV,vA,bc];rfl)).symm
   cases t<;>simp only[cY hk]<;>rfl
  ·rw[e1];exact hg r fr H k kn hk
 all_goals exact hg
theorem DH {x:Operand} (h:o.op = .nilCheck x) (hg:Sp g (cS e o)):Sp (qY x o.dst g) (cS e o):=by
 intro r fr H k kn hk;simp only[qY,dh];rcases fq (opd fr.fr x) (fun _ _=>dd o.dst fr (opd fr.fr x) H k) (g r fr H k)with⟨i,off,hx,e1⟩|e1
 ·rw[e1,cY hk];refine(dF (v:=opd fr.fr x) (H':=H) ?_ ?_).symm
  ·rw[h];rfl
  ·rw[h];simp only[bS,hx,qr,vA,bc]
 ·rw[e1];exact hg r fr H k kn hk
theorem Uw {c:Call} (h:o.op = .call c) (hg:Sp g (cS e o)):Sp ((Us e c o.dst g).a) (cS e o):=by
 unfold Us;split
 case h_2=>exact hg
 case h_1 f hc=>
  cases hp:e.isPure f with
  |true=>exact hg
  |false=>
   cases hz:e.isFrz f with
   |true=>exact hg
   |false=>
    simp only[Bool.or_false,aI];intro r fr H k kn hk;simp only[Ur,G5,iX,cS,r.law];have h1:obl e fr.fr H o.op=e.pre f (c.args.toList.map (opd fr.fr)) H:=by
     rw[h];simp only[obl,hc,opd,oG,gj,fQ,gV,hp,hz,aI]
    have h2:bS e r.d fr.fr H o.type o.op=r.d f (c.args.toList.map (opd fr.fr)) H:=by
     rw[h];simp only[bS,ju,hc,opd,vL,gj,fQ,iM,hp,hz,aI]
    simp only[eF,h1,h2];cases aU (e.pre f (c.args.toList.map (opd fr.fr)) H)with
    |false=>rfl
    |true=>
     simp only[aj];cases r.d f (c.args.toList.map (opd fr.fr)) H with
     |none=>rfl
     |some p=>simp only[bc,qD,cY hk]
theorem Ux (e:Env) (o:Oper):Sp (cop e o:Bx (KO R)).a (cS e o):=by
 unfold cop;split
 ·rename_i x h;exact G6 (.inl h)
 ·rename_i x h;exact G6 (.inr h)
 ·rename_i h;exact cBin_eq h (eK e o)
 ·rename_i h;exact Ut h (eK e o)
 ·rename_i h;exact QY h (eK e o)
 ·rename_i h;exact AU h (eK e o)
 ·rename_i h;exact AW h (eK e o)
 ·rename_i h;exact QZ h (eK e o)
 ·rename_i h;exact Uu h (eK e o)
 ·rename_i h;exact G7 h (eK e o)
 ·rename_i h;exact Uv h (eK e o)
 ·rename_i h;exact cUn_eq h (eK e o)
 ·rename_i h;exact DH h (eK e o)
 ·rename_i h;exact Uw h (eK e o)
 ·exact eK e o
end
end
end
end Go.AM
