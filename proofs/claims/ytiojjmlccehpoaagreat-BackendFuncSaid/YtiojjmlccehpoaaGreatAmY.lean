/-
  Closed runs, quickly: the evaluator once more, laid out so that the kernel reckons little at each operation. That it says the same as the evaluator is proved here.
-/
import Derived.Test.YtiojjmlccehpoaaGreatAmU
set_option linter.unusedSimpArgs false
set_option linter.unusedVariables false
namespace Go.AM
noncomputable section
def getF {R:Type} (fr:Fr) (n:Nat) (k:AV->R):R:=
 List.rec (motive:=fun _=>Nat->R) (fun _=>k .undef) (fun x _ ih n=>Nat.rec (motive:=fun _=>R) (k x) (fun m _=>ih m) n) fr n
theorem PT {R:Type} (k:AV->R):∀(fr:Fr) (n:Nat),getF fr n k=k (fr.getD n .undef)
 | [],_=>rfl
 |_::_,0=>rfl
 |_::fr,n+1=>by
  have:=PT k fr n;simpa[getF]using this
def SX {α R:Type} (l:List α) (n:Nat) (v:α) (k:List α->R):R:=
 List.rec (motive:=fun _=>Nat->(List α->R)->R) (fun _ k=>k []) (fun x xs ih n k=>Nat.rec (motive:=fun _=>R) (k (v::xs)) (fun m _=>ih m (fun ys=>k (x::ys))) n) l n k
theorem Ez {α R:Type} (v:α):∀(l:List α) (n:Nat) (k:List α->R),SX l n v k=k (l.set n v)
 | [],_,_=>rfl
 |_::_,0,_=>rfl
 |x::l,n+1,k=>by
  have:=Ez v l n (fun ys=>k (x::ys))
  simpa[SX]using this
def oA {α R:Type} (l:List α) (n:Nat) (k:α->R) (g:R):R:=
 List.rec (motive:=fun _=>Nat->R) (fun _=>g) (fun x _ ih n=>Nat.rec (motive:=fun _=>R) (k x) (fun m _=>ih m) n) l n
theorem jo {α R:Type} (k:α->R) (g:R):∀(l:List α) (n:Nat),oA l n k g=(match l[n]? with|some x=>k x|none=>g)
 | [],_=>rfl
 |_::_,0=>rfl
 |_::l,n+1=>by
  have:=jo k g l n;simpa[oA]using this
def xW {α R:Type} (l:List α) (n:Nat) (k:List α->R):R:=
 Nat.rec (motive:=fun _=>List α->R) (fun l=>k l) (fun _ ih l=>List.rec (motive:=fun _=>R) (k []) (fun _ xs _=>ih xs) l) n l
theorem xX {α R:Type} (k:List α->R):∀(n:Nat) (l:List α),xW l n k=k (l.drop n)
 |0,_=>rfl
 |n+1,[]=>rfl
 |n+1,_::l=>by
  have:=xX k n l;simpa[xW]using this
def tC {α R:Type} (n:Nat) (l:List α) (k:List α->R) (g:R):R:=
 Nat.rec (motive:=fun _=>List α->(List α->R)->R) (fun _ k=>k []) (fun _ ih l k=>List.rec (motive:=fun _=>R) g (fun x xs _=>ih xs (fun ys=>k (x::ys))) l) n l k
theorem xY {α R:Type} (g:R):∀(n:Nat) (l:List α) (k:List α->R),tC n l k g=if n≤l.length then k (l.take n)else g
 |0,_,_=>rfl
 |n+1,[],_=>by simp[tC]
 |n+1,x::l,k=>by
  have:=xY g n l (fun ys=>k (x::ys))
  simpa[tC]using this
def dfl {α R:Type}:α->R->R:=fun _ g=>g
def asIntV {R:Type} (v:Value):(IntKind->Int->R)->R->R:=
 match v with
 | .int k n=>fun f _=>f k n
 |_=>dfl
def asInt {R:Type} (x:AV):(IntKind->Int->R)->R->R:=
 match x with
 | .sc v=>asIntV v
 |_=>dfl
def asBoolV {R:Type} (v:Value):(Bool->R)->R->R:=
 match v with
 | .bool b=>fun f _=>f b
 |_=>dfl
def asBool {R:Type} (x:AV):(Bool->R)->R->R:=
 match x with
 | .sc v=>asBoolV v
 |_=>dfl
def tE {R:Type} (x:AV):(Nat->Nat->R)->R->R:=
 match x with
 | .ptr i off=>fun f _=>f i off
 |_=>dfl
def asSl {R:Type} (x:AV):(Nat->Nat->Nat->Nat->R)->R->R:=
 match x with
 | .sl i z off len=>fun f _=>f i z off len
 |_=>dfl
def asAgg {R:Type} (x:AV):(List AV->R)->R->R:=
 match x with
 | .agg cs=>fun f _=>f cs
 |_=>dfl
def Wy {R:Type} (x:AV):(List AV->R)->R->R:=
 match x with
 | .tup cs=>fun f _=>f cs
 |_=>dfl
theorem gJ {R:Type} (x:AV) (f:IntKind->Int->R) (g:R):(∃k n,x = .sc (.int k n)∧asInt x f g=f k n)∨asInt x f g=g:=by
 cases x<;>try exact .inr rfl
 rename_i v;cases v<;>first|exact .inr rfl|exact .inl ⟨_,_,rfl,rfl⟩
theorem ll {R:Type} (x:AV) (f:Bool->R) (g:R):(∃b,x = .sc (.bool b)∧asBool x f g=f b)∨asBool x f g=g:=by
 cases x<;>try exact .inr rfl
 rename_i v;cases v<;>first|exact .inr rfl|exact .inl ⟨_,rfl,rfl⟩
theorem fC {R:Type} (x:AV) (f:Nat->Nat->R) (g:R):(∃i o,x = .ptr i o∧tE x f g=f i o)∨tE x f g=g:=by
 cases x<;>first|exact .inl ⟨_,_,rfl,rfl⟩|exact .inr rfl
theorem Mw {R:Type} (x:AV) (f:Nat->Nat->Nat->Nat->R) (g:R):(∃i z o l,x = .sl i z o l∧asSl x f g=f i z o l)∨asSl x f g=g:=by
 cases x<;>first|exact .inl ⟨_,_,_,_,rfl,rfl⟩|exact .inr rfl
theorem tF {R:Type} (x:AV) (f:List AV->R) (g:R):(∃cs,x = .agg cs∧asAgg x f g=f cs)∨asAgg x f g=g:=by
 cases x<;>first|exact .inl ⟨_,rfl,rfl⟩|exact .inr rfl
theorem If {R:Type} (x:AV) (f:List AV->R) (g:R):(∃cs,x = .tup cs∧Wy x f g=f cs)∨Wy x f g=g:=by
 cases x<;>first|exact .inl ⟨_,rfl,rfl⟩|exact .inr rfl
def kNum (k:IntKind):Nat:=match k with | .i8=>0 | .i16=>1 | .i32=>2 | .i64=>3 | .u8=>4 | .u16=>5 | .u32=>6 | .u64=>7
def kMax (k:IntKind):Nat:=match k with | .i8=>127 | .i16=>32767 | .i32=>2147483647 | .i64=>9223372036854775807 | .u8=>255 | .u16=>65535 | .u32=>4294967295 | .u64=>18446744073709551615
def kEq (k k':IntKind):Bool:=Nat.beq (kNum k) (kNum k')
theorem kEq_iff {k k':IntKind}:kEq k k'=true↔k=k':=by cases k<;>cases k'<;>decide
def eqI (a b:Int):Bool:=
 match a with
 | .ofNat a=>(match b with | .ofNat b=>Nat.beq a b | .negSucc _=>false)
 | .negSucc a=>(match b with | .ofNat _=>false | .negSucc b=>Nat.beq a b)
theorem lm (a b:Int):eqI a b=(a==b):=by
 cases a with
 |ofNat a=>
  cases b with
  |ofNat b=>
   simp only[eqI];by_cases h:a=b
   ·subst h;simp
   ·have h1:Nat.beq a b=false:=by
     cases e:Nat.beq a b with
     |false=>rfl
     |true=>exact(h (aV e)).elim
    rw[h1]
    symm
    simp only[beq_eq_false_iff_ne,ne_eq,Int.ofNat.injEq];exact h
  |negSucc b=>simp only[eqI];symm;simp
 |negSucc a=>
  cases b with
  |ofNat b=>simp only[eqI];symm;simp
  |negSucc b=>
   simp only[eqI];by_cases h:a=b
   ·subst h;simp
   ·have h1:Nat.beq a b=false:=by
     cases e:Nat.beq a b with
     |false=>rfl
     |true=>exact(h (aV e)).elim
    rw[h1]
    symm
    simp only[beq_eq_false_iff_ne,ne_eq,Int.negSucc.injEq];exact h
def xZ (k:IntKind) (z:Int):Int:=
 match z with
 | .ofNat u=>bif Nat.ble u (kMax k)then .ofNat u else k.wrap (.ofNat u)
 | .negSucc u=>k.wrap (.negSucc u)
theorem fe (k:IntKind) (z:Int):xZ k z=k.wrap z:=by
 cases z with
 |negSucc u=>rfl
 |ofNat u=>
  simp only[xZ];cases h:Nat.ble u (kMax k)with
  |false=>rfl
  |true=>
   simp only[ap];have hu:=wj h;simp only[IntKind.wrap];cases k<;>simp only[kMax]at hu<;>simp[IntKind.bits,IntKind.signed]<;>omega
structure TF where
 n:Nat
 rows:List (List AV)
def TF.get (x:TF) (i:Nat):AV:=(x.rows.getD (i/12) []).getD (i%12) .undef
def rG (x:TF) (m:Nat):Nat->Fr:=Nat.rec (motive:=fun _=>Nat->Fr) (fun _=>[]) (fun _ ih i=>x.get i::ih (i+1)) m
theorem jq (x:TF) (m i:Nat):rG x (m+1) i=x.get i::rG x m (i+1):=rfl
def TF.fr (x:TF):Fr:=rG x x.n 0
theorem ya (x:TF):∀(m i j:Nat),(rG x m i)[j]? = if j<m then some (x.get (i+j))else none
 |0,_,j=>by rw[if_neg (Nat.not_lt_zero j)];rfl
 |m+1,i,0=>by rw[jq,if_pos (Nat.succ_pos m)];rfl
 |m+1,i,j+1=>by
  simp only[jq,sV,ya x m (i+1) j,Nat.add_lt_add_iff_right];rw[show i+1+j=i+(j+1)by omega]
theorem rH (x:TF) (j:Nat):x.fr[j]? = if j<x.n then some (x.get j)else none:=by
 unfold TF.fr;rw[ya,dZ]
def SY {R:Type} (x:TF) (i:Nat) (k:AV->R):R:=
 bif Nat.blt i x.n then oA x.rows (i/12) (fun row=>getF row (i%12) k) (k .undef)else k .undef
theorem EA {R:Type} (x:TF) (i:Nat) (k:AV->R):SY x i k=k (x.fr.getD i .undef):=by
 unfold SY;rw[oS,rH];cases h:Nat.blt i x.n with
 |false=>
  have:¬i<x.n:=by rw[<- Nat.blt_eq,h];simp
  simp only[aJ,if_neg this,Option.getD_none]
 |true=>
  have hi:i<x.n:=by rw[<- Nat.blt_eq];exact h
  simp only[ap,if_pos hi,j5,jo,TF.get];cases hr:x.rows[i/12]? with
  |none=>simp only[oS,hr,Option.getD_none,List.getElem?_nil]
  |some row=>simp only[PT,oS,hr,j5]
def nz {α:Type} (d:α):List α->Nat->α->List α
 | [],0,v=>[v]
 | [],n+1,v=>d::nz d [] n v
 |_::xs,0,v=>v::xs
 |x::xs,n+1,v=>x::nz d xs n v
theorem pJ {α:Type} (d:α) (v:α):∀(l:List α) (n j:Nat),(nz d l n v).getD j d=if j=n then v else l.getD j d
 | [],0,0=>by simp[nz]
 | [],0,j+1=>by simp[nz]
 | [],n+1,0=>by simp[nz]
 | [],n+1,j+1=>by
   have:=pJ d v [] n j;simp only[nz,bI,this,List.getD_nil,Nat.add_right_cancel_iff]
 |_::xs,0,0=>by simp[nz]
 |_::xs,0,j+1=>by simp[nz]
 |x::xs,n+1,0=>by simp[nz]
 |x::xs,n+1,j+1=>by
  have:=pJ d v xs n j;simp only[nz,bI,this,Nat.add_right_cancel_iff]
def CF {α R:Type} (d:α) (l:List α) (n:Nat) (v:α) (k:List α->R):R:=
 List.rec (motive:=fun _=>Nat->(List α->R)->R) (fun n k=>k (nz d [] n v)) (fun x xs ih n k=>Nat.rec (motive:=fun _=>R) (k (v::xs)) (fun m _=>ih m (fun ys=>k (x::ys))) n) l n k
theorem yb {α R:Type} (d v:α):∀(l:List α) (n:Nat) (k:List α->R),CF d l n v k=k (nz d l n v)
 | [],_,_=>rfl
 |_::_,0,_=>rfl
 |x::l,n+1,k=>by
  have:=yb d v l n (fun ys=>k (x::ys))
  simpa[CF,nz]using this
def TF.set (x:TF) (i:Nat) (v:AV):TF:=⟨x.n,nz [] x.rows (i/12) (nz .undef (x.rows.getD (i/12) []) (i%12) v)⟩
theorem TF.get_set (x:TF) (i j:Nat) (v:AV):(x.set i v).get j=if j=i then v else x.get j:=by
 simp only[TF.get,TF.set];rw[pJ];by_cases h:j/12=i/12
 ·rw[if_pos h,pJ];by_cases h2:j%12=i%12
  ·rw[if_pos h2,if_pos (by omega)]
  ·rw[if_neg h2,if_neg (fun e=>h2 (by rw[e])),h]
 ·rw[if_neg h,if_neg (fun e=>h (by rw[e]))]
theorem Mx (x:TF) (i:Nat) (v:AV):(x.set i v).fr=x.fr.set i v:=by
 apply gw;intro j;rw[gX,rH,rH];have hl:x.fr.length=x.n:=by
  have:∀m i,(rG x m i).length=m:=by
   intro m
   induction m with
   |zero=>intro i;rfl
   |succ m ih=>intro i;simp only[jq,ce,ih]
  exact this _ _
 simp only[hl]
 show(if j<x.n then some ((x.set i v).get j)else none)=_
 rw[TF.get_set];by_cases h:i=j
 ·subst h;by_cases h2:i<x.n<;>simp[h2]
 ·simp only[if_neg h,if_neg (fun e:j=i=>h e.symm)]
def My {R:Type} (x:TF) (i:Nat) (v:AV) (k:TF->R):R:=
 oA x.rows (i/12) (fun row=>CF .undef row (i%12) v fun row=>CF [] x.rows (i/12) row fun rows=>k ⟨x.n,rows⟩) (CF .undef [] (i%12) v fun row=>CF [] x.rows (i/12) row fun rows=>k ⟨x.n,rows⟩)
theorem u7 {R:Type} (x:TF) (i:Nat) (v:AV) (k:TF->R):My x i v k=k (x.set i v):=by
 unfold My TF.set;rw[jo];cases hr:x.rows[i/12]? with
 |none=>simp only[yb,oS,hr,Option.getD_none]
 |some row=>simp only[yb,oS,hr,j5]
def Ig (fr:Fr) (k:List (List AV)->List (List AV)):Nat->List (List AV)
 |0=>k []
 |m+1=>fr.take 12::Ig (fr.drop 12) k m
def TF.of (fr:Fr):TF:=⟨fr.length,Ig fr (fun l=>l) (fr.length/12+1)⟩
theorem CG:∀(m:Nat) (fr:Fr) (i:Nat),i<m->(Ig fr (fun l=>l) m).getD i []=(fr.drop (12*i)).take 12
 |0,_,_,h=>by omega
 |m+1,fr,0,_=>by simp[Ig]
 |m+1,fr,i+1,h=>by
  have:=CG m (fr.drop 12) i (by omega)
  simp only[Ig,bI,this,List.drop_drop];rw[show 12+12*i=12*(i+1)by omega]
theorem tG (fr:Fr):(TF.of fr).fr=fr:=by
 apply gw;intro j;rw[rH]
 show(if j<fr.length then some ((TF.of fr).get j)else none)=_
 by_cases h:j<fr.length
 ·rw[if_pos h];simp only[TF.get,TF.of];rw[CG _ _ _ (by omega),oS,gW,if_pos (Nat.mod_lt _ (by omega)),jY,Nat.div_add_mod]
  rw[cq h];rfl
 ·rw[if_neg h,iV (by omega)]
universe u
structure Bx (α:Type u) where
 a:α
structure RQ where
 d:Rec
 k:{R:Type}->FuncId->List AV->Hp->(AV->Hp->Option R)->Option R
 law:∀{R:Type} (f:FuncId) (args:List AV) (H:Hp) (h:AV->Hp->Option R),k f args H h=(d f args H).bind fun p=>h p.1 p.2
def RQ.of (d:Rec):RQ:=⟨d,fun f args H h=>(d f args H).bind fun p=>h p.1 p.2,fun _ _ _ _=>rfl⟩
abbrev KO (R:Type):=RQ->TF->Hp->(TF->Hp->Option R)->Option R
abbrev KS (R:Type):=Rec->Fr->Hp->(Fr->Hp->Option R)->Option R
def Sp {R:Type} (A:KO R) (S:KS R):Prop:=∀r (x:TF) H (k:TF->Hp->Option R) (kn:Fr->Hp->Option R),(∀y H',k y H'=kn y.fr H')->A r x H k=S r.d x.fr H kn
section
variable {R:Type}
def dh (d:Option Tmp):TF->AV->Hp->(TF->Hp->Option R)->Option R:=
 match d with
 |some t=>fun fr v H k=>My fr t v (fun fr=>k fr H)
 |none=>fun fr _ H k=>k fr H
theorem c8 {k:TF->Hp->Option R} {kn:Fr->Hp->Option R} (hk:∀y H',k y H'=kn y.fr H') (d:Option Tmp) (fr:TF) (v:AV) (H:Hp):dh d fr v H k=kn (dH fr.fr d v) H:=by
 cases d with
 |none=>exact hk _ _
 |some t=>
  show My fr t v (fun fr=>k fr H)=kn (fr.fr.set t v) H
  rw[u7,hk,Mx]
def gU {S:Type} (x:Operand):TF->(AV->S)->S:=
 match x with
 | .tmp t=>fun fr k=>SY fr t k
 | .const v=>fun _ k=>k (ofV v)
 | .global g=>fun _ k=>k (.sc (.pointer (some ⟨g,0,none⟩)))
 | .func f=>fun _ k=>k (.func f [] [])
theorem dp {S:Type} (x:Operand) (fr:TF) (k:AV->S):gU x fr k=k (opd fr.fr x):=by
 cases x with
 |tmp t=>exact EA fr t k
 |_=>rfl
def cW (e:Env) (o:Oper):KS R:=fun r fr H k=>(eL e r fr H o.type o.op).bind fun p=>k (dH fr o.dst p.1) p.2
def oB (e:Env) (o:Oper):KO R:=fun r fr H k=>opK e r.d fr.fr H o.type o.op fun p=>frA 3 p.1 fun v=>dh o.dst fr v p.2 k
theorem eP (e:Env) (o:Oper):Sp (oB e o:KO R) (cW e o):=by
 intro r fr H k kn hk;simp only[oB,cW,q7,q8,c8 hk]
theorem dL {e:Env} {o:Oper} {r:Rec} {fr:Fr} {H:Hp} {k:Fr->Hp->Option R} {v:AV} {H':Hp} (h1:bf (obl e fr H o.op)=true) (h2:bT e r fr H o.type o.op=some (v,H')):cW e o r fr H k=k (dH fr o.dst v) H':=by
 simp only[cW,pz h1 h2,bo]
def PU (x:Operand) (d:Option Tmp):KO R:=fun _ fr H k=>gU x fr fun v=>dh d fr v H k
def bK (b:Bool) (k:AV->Option R):Option R:=Bool.rec (motive:=fun _=>Option R) (k (.sc (.bool false))) (k (.sc (.bool true))) b
theorem pK (b:Bool) (k:AV->Option R):bK b k=k (.sc (.bool b)):=by cases b<;>rfl
abbrev KI (R:Type):=IntKind->Int->IntKind->Int->(AV->Option R)->Option R->Option R
def yc:KI R:=fun k a k' b f g=>bif kEq k k' then frI (fun z=>f (.sc (.int k z))) (xZ k (a+b))else g
def yd:KI R:=fun k a k' b f g=>bif kEq k k' then frI (fun z=>f (.sc (.int k z))) (xZ k (a-b))else g
def ye:KI R:=fun k a k' b f g=>bif kEq k k' then frI (fun z=>f (.sc (.int k z))) (xZ k (a*b))else g
def yf:KI R:=fun k a k' b f g=>bif kEq k k' then bK (eqI a b) f else g
def yg:KI R:=fun k a k' b f g=>bif kEq k k' then bK (!(eqI a b)) f else g
def yh:KI R:=fun k a k' b f g=>bif kEq k k' then bK (!(leI b a)) f else g
def yi:KI R:=fun k a k' b f g=>bif kEq k k' then bK (leI a b) f else g
def yj:KI R:=fun k a k' b f g=>bif kEq k k' then bK (!(leI a b)) f else g
def yk:KI R:=fun k a k' b f g=>bif kEq k k' then bK (leI b a) f else g
def iNone:KI R:=fun _ _ _ _ _ g=>g
def iOp (op:BinOp):KI R:=
 match op with
 | .add=>yc
 | .sub=>yd
 | .mul=>ye
 | .eql=>yf
 | .neq=>yg
 | .lss=>yh
 | .leq=>yi
 | .gtr=>yj
 | .geq=>yk
 |_=>iNone
theorem SZ (op:BinOp) (k k':IntKind) (a b:Int) (f:AV->Option R) (g:Option R):(∃v,fg op k a k' b=some v∧iOp op k a k' b f g=f v∧jF op (.sc (.int k a)) (.sc (.int k' b)) = [])∨iOp op k a k' b f g=g:=by
 cases h:kEq k k' with
 |false=>right;cases op<;>simp[iOp,yc,yd,ye,yf,yg,yh,yi,yj,yk,iNone,h]
 |true=>
  have hk:=kEq_iff.1 h;subst hk;cases op
  case add=>exact .inl ⟨.sc (.int k (k.wrap (a+b))),by simp only[fg,cG,aJ,be,gN],by simp only[iOp,yc,yd,ye,yf,yg,yh,yi,yj,yk,h,ap,iE,fe,pK,lm,bne],rfl⟩
  case sub=>exact .inl ⟨.sc (.int k (k.wrap (a-b))),by simp only[fg,cG,aJ,be,gN],by simp only[iOp,yc,yd,ye,yf,yg,yh,yi,yj,yk,h,ap,iE,fe,pK,lm,bne],rfl⟩
  case mul=>exact .inl ⟨.sc (.int k (k.wrap (a*b))),by simp only[fg,cG,aJ,be,gN],by simp only[iOp,yc,yd,ye,yf,yg,yh,yi,yj,yk,h,ap,iE,fe,pK,lm,bne],rfl⟩
  case eql=>exact .inl ⟨.sc (.bool (a==b)),by simp only[fg,cG,aJ,be,gN],by simp only[iOp,yc,yd,ye,yf,yg,yh,yi,yj,yk,h,ap,iE,fe,pK,lm,bne],rfl⟩
  case neq=>exact .inl ⟨.sc (.bool (a != b)),by simp only[fg,cG,aJ,be,gN],by simp only[iOp,yc,yd,ye,yf,yg,yh,yi,yj,yk,h,ap,iE,fe,pK,lm,bne],rfl⟩
  case lss=>exact .inl ⟨.sc (.bool (!(leI b a))),by simp only[fg,cG,aJ,be,gN],by simp only[iOp,yc,yd,ye,yf,yg,yh,yi,yj,yk,h,ap,iE,fe,pK,lm,bne],rfl⟩
  case leq=>exact .inl ⟨.sc (.bool (leI a b)),by simp only[fg,cG,aJ,be,gN],by simp only[iOp,yc,yd,ye,yf,yg,yh,yi,yj,yk,h,ap,iE,fe,pK,lm,bne],rfl⟩
  case gtr=>exact .inl ⟨.sc (.bool (!(leI a b))),by simp only[fg,cG,aJ,be,gN],by simp only[iOp,yc,yd,ye,yf,yg,yh,yi,yj,yk,h,ap,iE,fe,pK,lm,bne],rfl⟩
  case geq=>exact .inl ⟨.sc (.bool (leI b a)),by simp only[fg,cG,aJ,be,gN],by simp only[iOp,yc,yd,ye,yf,yg,yh,yi,yj,yk,h,ap,iE,fe,pK,lm,bne],rfl⟩
  all_goals exact .inr rfl
def cBin (op:BinOp) (x y:Operand) (d:Option Tmp) (g:KO R):KO R:=fun r fr H k=>
 gU x fr fun a=>gU y fr fun b=>asInt a (fun ka n=>asInt b (fun kb m=>iOp op ka n kb m (fun v=>dh d fr v H k) (g r fr H k)) (g r fr H k)) (g r fr H k)
def cellsB (b:Option Blk) {S:Type}:(List AV->S)->S->S:=
 match b with
 |some (.cells cs)=>fun f _=>f cs
 |_=>dfl
def pL {S:Type} (H:Hp) (i:Nat) (k:List AV->S) (g:S):S:=
 bif Nat.blt i H.n then oA H.bs (H.n-1-i) (fun b=>cellsB b k g) g else g
theorem mL {S:Type} (H:Hp) (i:Nat) (k:List AV->S) (g:S):(∃cs,H.get i=some (.cells cs)∧pL H i k g=k cs)∨pL H i k g=g:=by
 unfold pL Hp.get;cases hb:Nat.blt i H.n with
 |false=>exact .inr rfl
 |true=>
  simp only[ap,jo];cases hn:H.bs[H.n-1-i]? with
  |none=>exact .inr rfl
  |some b=>
   cases b with
   |none=>exact .inr rfl
   |some b=>cases b<;>first|exact .inr rfl|exact .inl ⟨_,rfl,rfl⟩
def cLd1 (x:Operand) (d:Option Tmp) (g:KO R):KO R:=fun r fr H k=>
 gU x fr fun a=>tE a (fun i off=>pL H i (fun cs=>oA cs off (fun v=>dh d fr v H k) (g r fr H k)) (g r fr H k)) (g r fr H k)
def cLdN (n:Nat) (x:Operand) (d:Option Tmp) (g:KO R):KO R:=fun r fr H k=>
 gU x fr fun a=>tE a (fun i off=>pL H i (fun cs=>xW cs off fun l=>tC n l (fun vs=>dh d fr (.agg vs) H k) (g r fr H k)) (g r fr H k)) (g r fr H k)
def Wz (P:Program) (T:TypeId) (x:Operand) (d:Option Tmp) (g:KO R):Bx (KO R):=
 match kQ P T with
 |some false=>⟨cLd1 x d g⟩
 |some true=>(match sz P T with|some n=>bif Nat.beq n 0 then⟨g⟩else⟨cLdN n x d g⟩|none=>⟨g⟩)
 |none=>⟨g⟩
def oneV (v:Value):Bool:=match v with | .agg _=>false | .tuple _=>false|_=>true
def oneF (x:AV):Bool:=
 match x with
 | .sc v=>oneV v
 | .ptr _ _=>true
 | .sl _ _ _ _=>true
 | .map _=>true
 | .func _ _ _=>true
 |_=>false
theorem WA {x:AV} (h:oneF x=true):one x=true∧cellsOf x=some [x]∧(∀T d,x≠ .dat T d):=by
 cases x<;>simp only[oneF]at h
 case sc v=>
  have h1:one (.sc v)=true:=by cases v<;>simp only[oneV]at h<;>first|rfl|cases h
  exact⟨h1,by simp only[cellsOf,h1,be],fun _ _ e=>by cases e⟩
 case ptr=>exact⟨rfl,rfl,by simp⟩
 case sl=>exact⟨rfl,rfl,by simp⟩
 case map=>exact⟨rfl,rfl,by simp⟩
 case func=>exact⟨rfl,rfl,by simp⟩
 all_goals cases h
def Ih {S:Type} (H:Hp) (i:Nat) (cs:List AV) (k:Hp->S):S:=SX H.bs (H.n-1-i) (some (.cells cs)) fun bs=>k ⟨H.n,bs,H.gl⟩
theorem WB {S:Type} (H:Hp) (i:Nat) (cs:List AV) (k:Hp->S):Ih H i cs k=k (H.put i (some (.cells cs))):=by unfold Ih;rw[Ez];rfl
def cSt1 (x y:Operand) (d:Option Tmp) (g:KO R):KO R:=fun r fr H k=>
 gU x fr fun a=>gU y fr fun v=>bif oneF v then tE a (fun i off=>pL H i (fun cs=>oA cs off (fun _=>SX cs off v fun cs'=>Ih H i cs' fun H'=>dh d fr uv H' k) (g r fr H k)) (g r fr H k)) (g r fr H k)else g r fr H k
def Mz (P:Program) (T:TypeId) (x y:Operand) (d:Option Tmp) (g:KO R):Bx (KO R):=
 match sz P T with
 |some n=>bif Nat.beq n 1 then⟨cSt1 x y d g⟩else⟨g⟩
 |none=>⟨g⟩
def cFA (o:Nat) (x:Operand) (d:Option Tmp) (g:KO R):KO R:=fun r fr H k=>gU x fr fun a=>tE a (fun i off=>frN (fun off=>dh d fr (.ptr i off) H k) (off+o)) (g r fr H k)
def oC (P:Program) (s:TypeId) (f:Nat) (x:Operand) (d:Option Tmp) (g:KO R):Bx (KO R):=
 match l8 P s f with
 |some o=>⟨cFA o x d g⟩
 |none=>⟨g⟩
def tH {S:Type} (n:Int) (k:Nat->S) (g:S):S:=match n with | .ofNat m=>k m | .negSucc _=>g
def cIxSl (s:Nat) (x y:Operand) (d:Option Tmp) (g:KO R):KO R:=fun r fr H k=>
 gU x fr fun a=>gU y fr fun b=>asSl a (fun i z off len=>asInt b (fun _ n=>tH n (fun n=>bif Nat.beq z s&&Nat.blt n len then frN (fun o=>dh d fr (.ptr i o) H k) (off+n*s)else g r fr H k) (g r fr H k)) (g r fr H k)) (g r fr H k)
def WC (s len:Nat) (x y:Operand) (d:Option Tmp) (g:KO R):KO R:=fun r fr H k=>
 gU x fr fun a=>gU y fr fun b=>tE a (fun i off=>asInt b (fun _ n=>tH n (fun n=>bif Nat.blt n len then frN (fun o=>dh d fr (.ptr i o) H k) (off+n*s)else g r fr H k) (g r fr H k)) (g r fr H k)) (g r fr H k)
def oD (P:Program) (T:TypeId) (x y:Operand) (d:Option Tmp) (g:KO R):Bx (KO R):=
 match x with
 | .tmp _=>(match P.underlying T with
   |some (.slice e)=>(match sz P e with|some s=>⟨cIxSl s x y d g⟩|none=>⟨g⟩)
   |some (.array len e)=>(match sz P e with|some s=>⟨WC s len x y d g⟩|none=>⟨g⟩)
   |_=>⟨g⟩)
 |_=>⟨g⟩
def cFl1 (off:Nat) (x:Operand) (d:Option Tmp) (g:KO R):KO R:=fun r fr H k=>gU x fr fun a=>asAgg a (fun cs=>oA cs off (fun v=>dh d fr v H k) (g r fr H k)) (g r fr H k)
def cFlN (off n:Nat) (x:Operand) (d:Option Tmp) (g:KO R):KO R:=fun r fr H k=>gU x fr fun a=>asAgg a (fun cs=>xW cs off fun l=>tC n l (fun vs=>dh d fr (.agg vs) H k) (g r fr H k)) (g r fr H k)
def PV (P:Program) (fd:Field) (x:Operand) (d:Option Tmp) (g:KO R):Bx (KO R):=
 match sz P fd.type with
 |some s=>(match kQ P fd.type with
  |some true=>bif Nat.beq s 0 then⟨g⟩else⟨cFlN fd.offset s x d g⟩
  |some false=>⟨cFl1 fd.offset x d g⟩
  |none=>⟨g⟩)
 |none=>⟨g⟩
def MA (P:Program) (T:TypeId) (f:Nat) (x:Operand) (d:Option Tmp) (g:KO R):Bx (KO R):=
 match P.underlying T with
 |some (.struct fs)=>(match fs[f]? with|some fd=>PV P fd x d g|none=>⟨g⟩)
 |_=>⟨g⟩
def cCv (k:IntKind) (x:Operand) (d:Option Tmp) (g:KO R):KO R:=fun r fr H c=>gU x fr fun a=>asInt a (fun _ n=>frI (fun z=>dh d fr (.sc (.int k z)) H c) (xZ k n)) (g r fr H c)
def WD (P:Program) (S T:TypeId) (x:Operand) (d:Option Tmp) (g:KO R):Bx (KO R):=
 match P.underlying S,P.underlying T with
 |some (.int _),some (.int k)=>⟨cCv k x d g⟩
 |_,_=>⟨g⟩
def yl (x:Operand) (i:Nat) (d:Option Tmp) (g:KO R):KO R:=fun r fr H k=>gU x fr fun a=>Wy a (fun cs=>oA cs i (fun v=>dh d fr v H k) (g r fr H k)) (g r fr H k)
def WE (c a b:Operand) (d:Option Tmp) (g:KO R):KO R:=fun r fr H k=>gU c fr fun t=>asBool t (fun t=>Bool.rec (motive:=fun _=>Option R) (gU b fr fun v=>dh d fr v H k) (gU a fr fun v=>dh d fr v H k) t) (g r fr H k)
def cNot (x:Operand) (d:Option Tmp) (g:KO R):KO R:=fun r fr H k=>gU x fr fun t=>asBool t (fun t=>Bool.rec (motive:=fun _=>Option R) (dh d fr (.sc (.bool true)) H k) (dh d fr (.sc (.bool false)) H k) t) (g r fr H k)
def cUn (op:UnOp) (x:Operand) (d:Option Tmp) (g:KO R):Bx (KO R):=match op with | .not=>⟨cNot x d g⟩|_=>⟨g⟩
def rI (x:Operand) (d:Option Tmp) (g:KO R):KO R:=fun r fr H k=>gU x fr fun a=>tE a (fun _ _=>dh d fr a H k) (g r fr H k)
def PW {S:Type}:List Operand->TF->(List AV->S)->S
 | [],_,k=>k []
 |x::xs,fr,k=>gU x fr fun v=>PW xs fr fun vs=>k (v::vs)
theorem Ii {S:Type}:∀(xs:List Operand) (fr:TF) (k:List AV->S),PW xs fr k=k (xs.map (opd fr.fr))
 | [],_,_=>rfl
 |x::xs,fr,k=>by simp only[PW,dp,Ii xs,bW]
def WF (e:Env) (f:FuncId) (args:List Operand) (d:Option Tmp):KO R:=fun r fr H k=>
 PW args fr fun vs=>cT (r.k f vs H fun v H'=>frA 3 v fun v=>dh d fr v H' k) (e.pre f vs H)
def WG (e:Env) (c:Call) (d:Option Tmp) (g:KO R):Bx (KO R):=
 match c.callee with
 | .value (.func f)=>bif e.isPure f||e.isFrz f then⟨g⟩else⟨WF e f c.args.toList d⟩
 |_=>⟨g⟩
def cop (e:Env) (o:Oper):Bx (KO R):=
 match o.op with
 | .move x=>⟨PU x o.dst⟩
 | .assign x=>⟨PU x o.dst⟩
 | .binOp op _ x y _=>⟨cBin op x y o.dst (oB e o)⟩
 | .load T x=>Wz e.P T x o.dst (oB e o)
 | .store T x y=>Mz e.P T x y o.dst (oB e o)
 | .fieldAddr s x f=>oC e.P s f x o.dst (oB e o)
 | .indexAddr T x y=>oD e.P T x y o.dst (oB e o)
 | .field T x f=>MA e.P T f x o.dst (oB e o)
 | .convert S T x=>WD e.P S T x o.dst (oB e o)
 | .extract x i=>⟨yl x i o.dst (oB e o)⟩
 | .pick c a b=>⟨WE c a b o.dst (oB e o)⟩
 | .unOp op _ x=>cUn op x o.dst (oB e o)
 | .nilCheck x=>⟨rI x o.dst (oB e o)⟩
 | .call c=>WG e c o.dst (oB e o)
 |_=>⟨oB e o⟩
section
variable {e:Env} {o:Oper} {g:KO R}
theorem EB {H:Hp} {i:Nat} {cs:List AV} (h:H.get i=some (.cells cs)):getB H i=some cs:=by simp only[getB,h]
theorem datB_of {H:Hp} {i:Nat} {cs:List AV} (h:H.get i=some (.cells cs)):datB H i=none:=by simp only[datB,h]
theorem Ij {x:Operand} (h:o.op = .move x∨o.op = .assign x):Sp (R:=R) (PU x o.dst) (cW e o):=by
 intro r fr H k kn hk;simp only[PU,dp,c8 hk];rcases h with h|h<;>exact(dL (by rw[h];rfl) (by rw[h];rfl)).symm
theorem cBin_eq {op:BinOp} {T yT:TypeId} {x y:Operand} (h:o.op = .binOp op T x y yT) (hg:Sp g (cW e o)):Sp (cBin op x y o.dst g) (cW e o):=by
 intro r fr H k kn hk;simp only[cBin,dp];rcases gJ (opd fr.fr x) (fun ka n=>asInt (opd fr.fr y) (fun kb m=>iOp op ka n kb m (fun v=>dh o.dst fr v H k) (g r fr H k)) (g r fr H k)) (g r fr H k)with⟨ka,n,hx,e1⟩|e1
 ·rw[e1];rcases gJ (opd fr.fr y) (fun kb m=>iOp op ka n kb m (fun v=>dh o.dst fr v H k) (g r fr H k)) (g r fr H k)with⟨kb,m,hy,e2⟩|e2
  ·rw[e2];rcases SZ op ka kb n m (fun v=>dh o.dst fr v H k) (g r fr H k)with⟨v,hv,e3,hb⟩|e3
   ·rw[e3,c8 hk];refine(dL (v:=v) (H':=H) ?_ ?_).symm
    ·rw[h];simp only[obl,hx,hy,hb,bf]
    ·rw[h];simp only[bT,binA,hx,hy,hv,vA,bo]
   ·rw[e3];exact hg r fr H k kn hk
  ·rw[e2];exact hg r fr H k kn hk
 ·rw[e1];exact hg r fr H k kn hk
theorem WH {T:TypeId} {x:Operand} (h:o.op = .load T x) (hg:Sp g (cW e o)):Sp ((Wz e.P T x o.dst g).a) (cW e o):=by
 unfold Wz;cases ha:kQ e.P T with
 |none=>exact hg
 |some ag=>
  cases ag with
  |false=>
   intro r fr H k kn hk;simp only[cLd1,dp];rcases fC (opd fr.fr x) (fun i off=>pL H i (fun cs=>oA cs off (fun v=>dh o.dst fr v H k) (g r fr H k)) (g r fr H k)) (g r fr H k)with⟨i,off,hx,e1⟩|e1
   ·rw[e1];rcases mL H i (fun cs=>oA cs off (fun v=>dh o.dst fr v H k) (g r fr H k)) (g r fr H k)with⟨cs,hcs,e2⟩|e2
    ·rw[e2,jo];cases hv:cs[off]? with
     |none=>exact hg r fr H k kn hk
     |some v=>
      simp only[c8 hk];refine(dL (v:=v) (H':=H) ?_ ?_).symm
      ·rw[h];simp only[obl,hx,fJ,bf]
      ·rw[h];simp only[bT,hx,eZ,ha,ld1,EB hcs,bo,hv,vA]
    ·rw[e2];exact hg r fr H k kn hk
   ·rw[e1];exact hg r fr H k kn hk
  |true=>
   cases hz:sz e.P T with
   |none=>exact hg
   |some n=>
    simp only;cases hn0:Nat.beq n 0 with
    |true=>exact hg
    |false=>
    have hn1:n≠0:=fun e=>by subst e;cases hn0
    simp only[aJ];intro r fr H k kn hk;simp only[cLdN,dp];rcases fC (opd fr.fr x) (fun i off=>pL H i (fun cs=>xW cs off fun l=>tC n l (fun vs=>dh o.dst fr (.agg vs) H k) (g r fr H k)) (g r fr H k)) (g r fr H k)with⟨i,off,hx,e1⟩|e1
    ·rw[e1];rcases mL H i (fun cs=>xW cs off fun l=>tC n l (fun vs=>dh o.dst fr (.agg vs) H k) (g r fr H k)) (g r fr H k)with⟨cs,hcs,e2⟩|e2
     ·rw[e2,xX,xY];by_cases hn:n≤(cs.drop off).length
      ·rw[if_pos hn,c8 hk];by_cases ho:off+n≤cs.length
       ·refine(dL (v:= .agg ((cs.drop off).take n)) (H':=H) ?_ ?_).symm
        ·rw[h];simp only[obl,hx,fJ,bf]
        ·rw[h];simp only[bT,hx,eZ,ha,hz,bo,ldN,sZ,datB_of hcs,gx,EB hcs,if_pos ho,vA]
       ·rw[iu]at hn;omega
      ·rw[if_neg hn];exact hg r fr H k kn hk
     ·rw[e2];exact hg r fr H k kn hk
    ·rw[e1];exact hg r fr H k kn hk
theorem set_one {cs:List AV} {off:Nat} {v:AV} (h:off<cs.length):setCells cs off [v]=cs.set off v:=by
 simp only[setCells,ce,cZ];rw[List.set_eq_take_append_cons_drop,if_pos h];simp
theorem S0 {T:TypeId} {x y:Operand} (h:o.op = .store T x y) (hg:Sp g (cW e o)):Sp ((Mz e.P T x y o.dst g).a) (cW e o):=by
 unfold Mz;cases hz:sz e.P T with
 |none=>exact hg
 |some n=>
  simp only;cases hn:Nat.beq n 1 with
  |false=>exact hg
  |true=>
   have hn1:=aV hn;subst hn1;simp only[ap];intro r fr H k kn hk;simp only[cSt1,dp];cases ho:oneF (opd fr.fr y)with
   |false=>exact hg r fr H k kn hk
   |true=>
    obtain⟨h1,hc,hnd⟩:=WA ho;simp only[ap];rcases fC (opd fr.fr x) (fun i off=>pL H i (fun cs=>oA cs off (fun _=>SX cs off (opd fr.fr y) fun cs'=>Ih H i cs' fun H'=>dh o.dst fr uv H' k) (g r fr H k)) (g r fr H k)) (g r fr H k)with⟨i,off,hx,e1⟩|e1
    ·rw[e1];rcases mL H i (fun cs=>oA cs off (fun _=>SX cs off (opd fr.fr y) fun cs'=>Ih H i cs' fun H'=>dh o.dst fr uv H' k) (g r fr H k)) (g r fr H k)with⟨cs,hcs,e2⟩|e2
     ·rw[e2,jo];cases hv:cs[off]? with
      |none=>exact hg r fr H k kn hk
      |some v0=>
       simp only[Ez,WB,c8 hk];have hlt:off<cs.length:=(cY.1 hv).1;have hst:kR e.P H T (.ptr i off) (opd fr.fr y)=some (H.put i (some (.cells (cs.set off (opd fr.fr y))))):=by
        have hstN:stN H 1 (.ptr i off) [opd fr.fr y]=some (H.put i (some (.cells (cs.set off (opd fr.fr y))))):=by
         simp only[stN,EB hcs,bo];rw[if_pos ⟨rfl,by omega,by simp[h1]⟩,set_one hlt]
        simp only[kR,hz,hc,bo];exact hstN
       refine(dL (v:=uv) (H':=H.put i (some (.cells (cs.set off (opd fr.fr y))))) ?_ ?_).symm
       ·rw[h];simp only[obl,hx,fJ,bf]
       ·rw[h];simp only[bT,hx,hst,uA,bo]
     ·rw[e2];exact hg r fr H k kn hk
    ·rw[e1];exact hg r fr H k kn hk
theorem BM {s:TypeId} {f:Nat} {x:Operand} (h:o.op = .fieldAddr s x f) (hg:Sp g (cW e o)):Sp ((oC e.P s f x o.dst g).a) (cW e o):=by
 unfold oC;cases hf:l8 e.P s f with
 |none=>exact hg
 |some q=>
  intro r fr H k kn hk;simp only[cFA,dp];rcases fC (opd fr.fr x) (fun i off=>frN (fun off=>dh o.dst fr (.ptr i off) H k) (off+q)) (g r fr H k)with⟨i,off,hx,e1⟩|e1
  ·rw[e1,xj,c8 hk];refine(dL (v:= .ptr i (off+q)) (H':=H) ?_ ?_).symm
   ·rw[h];rfl
   ·rw[h];simp only[bT,hx,kS,hf,bo,dS,vA]
  ·rw[e1];exact hg r fr H k kn hk
theorem tI {S:Type} (n:Int) (k:Nat->S) (g:S):(∃m:Nat,n=(m:Int)∧tH n k g=k m)∨tH n k g=g:=by
 cases n with
 |ofNat m=>exact .inl ⟨m,rfl,rfl⟩
 |negSucc m=>exact .inr rfl
theorem BN {T:TypeId} {x y:Operand} (h:o.op = .indexAddr T x y) (hg:Sp g (cW e o)):Sp ((oD e.P T x y o.dst g).a) (cW e o):=by
 unfold oD;split
 case h_2=>exact hg
 case h_1 t=>
 split
 case h_3=>exact hg
 case h_1 el hu=>
  cases hz:sz e.P el with
  |none=>exact hg
  |some s=>
   intro r fr H k kn hk;simp only[cIxSl,dp];rcases Mw (opd fr.fr (.tmp t)) (fun i z off len=>asInt (opd fr.fr y) (fun _ n=>tH n (fun n=>bif Nat.beq z s&&Nat.blt n len then frN (fun q=>dh o.dst fr (.ptr i q) H k) (off+n*s)else g r fr H k) (g r fr H k)) (g r fr H k)) (g r fr H k)with⟨i,z,off,len,hx,e1⟩|e1
   ·rw[e1];rcases gJ (opd fr.fr y) (fun _ n=>tH n (fun n=>bif Nat.beq z s&&Nat.blt n len then frN (fun q=>dh o.dst fr (.ptr i q) H k) (off+n*s)else g r fr H k) (g r fr H k)) (g r fr H k)with⟨ki,n,hy,e2⟩|e2
    ·rw[e2];rcases tI n (fun n=>bif Nat.beq z s&&Nat.blt n len then frN (fun q=>dh o.dst fr (.ptr i q) H k) (off+n*s)else g r fr H k) (g r fr H k)with⟨m,rfl,e3⟩|e3
     ·rw[e3];cases hb:(Nat.beq z s&&Nat.blt m len)with
      |false=>exact hg r fr H k kn hk
      |true=>
       simp only[ap,xj,c8 hk];simp only[bu,eu]at hb;have hzs:=aV hb.1;refine(dL (v:= .ptr i (off+m*s)) (H':=H) ?_ ?_).symm
       ·have hcnd:z=s∧(0:Int)≤(m:Int)∧(m:Int)<(len:Int):=⟨hzs,by omega,by omega⟩
        rw[h];simp only[obl,gy,hx,hy,uz,hu,hz,bo,G6,elemAt,if_pos hcnd,wo,D0,bf]
       ·have hcnd:z=s∧(0:Int)≤(m:Int)∧(m:Int)<(len:Int):=⟨hzs,by omega,by omega⟩
        rw[h];simp only[bT,oV,hx,hy,uz,hu,hz,bo,G6,elemAt,if_pos hcnd,eY,vA]
     ·rw[e3];exact hg r fr H k kn hk
    ·rw[e2];exact hg r fr H k kn hk
   ·rw[e1];exact hg r fr H k kn hk
 case h_2 alen el hu=>
  cases hz:sz e.P el with
  |none=>exact hg
  |some s=>
   intro r fr H k kn hk;simp only[WC,dp];rcases fC (opd fr.fr (.tmp t)) (fun i off=>asInt (opd fr.fr y) (fun _ n=>tH n (fun n=>bif Nat.blt n alen then frN (fun q=>dh o.dst fr (.ptr i q) H k) (off+n*s)else g r fr H k) (g r fr H k)) (g r fr H k)) (g r fr H k)with⟨i,off,hx,e1⟩|e1
   ·rw[e1];rcases gJ (opd fr.fr y) (fun _ n=>tH n (fun n=>bif Nat.blt n alen then frN (fun q=>dh o.dst fr (.ptr i q) H k) (off+n*s)else g r fr H k) (g r fr H k)) (g r fr H k)with⟨ki,n,hy,e2⟩|e2
    ·rw[e2];rcases tI n (fun n=>bif Nat.blt n alen then frN (fun q=>dh o.dst fr (.ptr i q) H k) (off+n*s)else g r fr H k) (g r fr H k)with⟨m,rfl,e3⟩|e3
     ·rw[e3];cases hb:Nat.blt m alen with
      |false=>exact hg r fr H k kn hk
      |true=>
       simp only[ap,xj,c8 hk];simp only[eu]at hb;refine(dL (v:= .ptr i (off+m*s)) (H':=H) ?_ ?_).symm
       ·have hcnd:(0:Int)≤(m:Int)∧(m:Int)<(alen:Int):=⟨by omega,by omega⟩
        rw[h];simp only[obl,gy,hx,hy,uz,hu,hz,bo,Pp,if_pos hcnd,eY,dS,wo,D0,bf]
       ·have hcnd:(0:Int)≤(m:Int)∧(m:Int)<(alen:Int):=⟨by omega,by omega⟩
        rw[h];simp only[bT,oV,hx,hy,uz,hu,hz,bo,Pp,if_pos hcnd,eY,dS,vA]
     ·rw[e3];exact hg r fr H k kn hk
    ·rw[e2];exact hg r fr H k kn hk
   ·rw[e1];exact hg r fr H k kn hk
theorem S5 {T:TypeId} {f:Nat} {x:Operand} (h:o.op = .field T x f) (hg:Sp g (cW e o)):Sp ((MA e.P T f x o.dst g).a) (cW e o):=by
 unfold MA;split
 case h_2=>exact hg
 case h_1 fs hu=>
 cases hfd:fs[f]? with
 |none=>exact hg
 |some fd=>
 simp only[PV];cases hz:sz e.P fd.type with
 |none=>exact hg
 |some s=>
  cases ha:kQ e.P fd.type with
  |none=>exact hg
  |some ag=>
   cases ag with
   |false=>
    simp only;intro r fr H k kn hk;simp only[cFl1,dp];rcases tF (opd fr.fr x) (fun cs=>oA cs fd.offset (fun v=>dh o.dst fr v H k) (g r fr H k)) (g r fr H k)with⟨cs,hx,e1⟩|e1
    ·rw[e1,jo];cases hv:cs[fd.offset]? with
     |none=>exact hg r fr H k kn hk
     |some v=>
      simp only[c8 hk];refine(dL (v:=v) (H':=H) ?_ ?_).symm
      ·rw[h];rfl
      ·rw[h];simp only[bT,hx,wq,qP,hu,hfd,hz,ha,bo,hv,vA]
    ·rw[e1];exact hg r fr H k kn hk
   |true=>
    simp only;cases hn0:Nat.beq s 0 with
    |true=>exact hg
    |false=>
    have hn1:s≠0:=fun e=>by subst e;cases hn0
    simp only[aJ];intro r fr H k kn hk;simp only[cFlN,dp];rcases tF (opd fr.fr x) (fun cs=>xW cs fd.offset fun l=>tC s l (fun vs=>dh o.dst fr (.agg vs) H k) (g r fr H k)) (g r fr H k)with⟨cs,hx,e1⟩|e1
    ·rw[e1,xX,xY];by_cases hn:s≤(cs.drop fd.offset).length
     ·rw[if_pos hn,c8 hk];rw[iu]at hn;have hle:fd.offset+s≤cs.length:=by omega
      refine(dL (v:= .agg ((cs.drop fd.offset).take s)) (H':=H) ?_ ?_).symm
      ·rw[h];rfl
      ·rw[h];simp only[bT,hx,wq,qP,hu,hfd,hz,ha,bo,if_pos hle,vA]
     ·rw[if_neg hn];exact hg r fr H k kn hk
    ·rw[e1];exact hg r fr H k kn hk
theorem hZ {α β:Type} {P:Program} (f:α->Sem β):∀s:Sem α,bQ P (s.bind f)=(bQ P s).bind fun a=>bQ P (f a)
 | .pure a=>rfl
 | .program k=>hZ f (k P)
 | .load .. =>rfl
 | .store .. =>rfl
 | .new .. =>rfl
 | .shape .. =>rfl
 | .freeze .. =>rfl
 | .frozen .. =>rfl
 | .getObj .. =>rfl
 | .setObj .. =>rfl
 | .choose .. =>rfl
 | .sys .. =>rfl
 | .mark .. =>rfl
 | .halt .. =>rfl
theorem nL {P:Program} {t:TypeId} {d:TypeDesc} (h:P.underlying t=some d):bQ P (underlying t)=some d:=by
 unfold underlying;simp only[bind];rw[hZ];have:bQ P program=some P:=rfl;rw[this,bo,h]
 rfl
theorem WI {S T:TypeId} {x:Operand} (h:o.op = .convert S T x) (hg:Sp g (cW e o)):Sp ((WD e.P S T x o.dst g).a) (cW e o):=by
 unfold WD;split
 case h_2=>exact hg
 case h_1 ks kd h1 h2=>
  intro r fr H k kn hk;simp only[cCv,dp];rcases gJ (opd fr.fr x) (fun _ n=>frI (fun z=>dh o.dst fr (.sc (.int kd z)) H k) (xZ kd n)) (g r fr H k)with⟨ki,n,hx,e1⟩|e1
  ·rw[e1,iE,c8 hk,fe];have hp:bQ e.P (Go.convert S T (.int ki n))=some (.int kd (kd.wrap n)):=by
    unfold Go.convert;simp only[bind];rw[hZ,nL h1,bo,hZ,nL h2,bo]
    rfl
   refine(dL (v:= .sc (.int kd (kd.wrap n))) (H':=H) ?_ ?_).symm
   ·rw[h];rfl
   ·rw[h];have hb:wz e.P S T (.sc (.int ki n))=none:=by simp only[wz,h1,h2]
    simp only[bT,hx,qU,hb,oY,Ca,gx,hp,cI,ofV,bo]
  ·rw[e1];exact hg r fr H k kn hk
theorem Ik {x:Operand} {i:Nat} (h:o.op = .extract x i) (hg:Sp g (cW e o)):Sp (yl x i o.dst g) (cW e o):=by
 intro r fr H k kn hk;simp only[yl,dp];rcases If (opd fr.fr x) (fun cs=>oA cs i (fun v=>dh o.dst fr v H k) (g r fr H k)) (g r fr H k)with⟨cs,hx,e1⟩|e1
 ·rw[e1,jo];cases hv:cs[i]? with
  |none=>exact hg r fr H k kn hk
  |some v=>
   simp only[c8 hk];refine(dL (v:=v) (H':=H) ?_ ?_).symm
   ·rw[h];simp only[obl,hx,iw,bf]
   ·rw[h];simp only[bT,hx,oX,hv,vA,bo]
 ·rw[e1];exact hg r fr H k kn hk
theorem WJ {c a b:Operand} (h:o.op = .pick c a b) (hg:Sp g (cW e o)):Sp (WE c a b o.dst g) (cW e o):=by
 intro r fr H k kn hk;simp only[WE,dp];rcases ll (opd fr.fr c) (fun t=>Bool.rec (motive:=fun _=>Option R) (dh o.dst fr (opd fr.fr b) H k) (dh o.dst fr (opd fr.fr a) H k) t) (g r fr H k)with⟨t,hx,e1⟩|e1
 ·rw[e1];cases t with
  |true=>
   simp only[c8 hk];refine(dL (v:=opd fr.fr a) (H':=H) ?_ ?_).symm
   ·rw[h];rfl
   ·rw[h];simp only[bT,hx,G7,vA,bo]
  |false=>
   simp only[c8 hk];refine(dL (v:=opd fr.fr b) (H':=H) ?_ ?_).symm
   ·rw[h];rfl
   ·rw[h];simp only[bT,hx,G7,vA,bo]
 ·rw[e1];exact hg r fr H k kn hk
theorem cUn_eq {op:UnOp} {T:TypeId} {x:Operand} (h:o.op = .unOp op T x) (hg:Sp g (cW e o)):Sp ((cUn op x o.dst g).a) (cW e o):=by
 cases op
 case not=>
  intro r fr H k kn hk;simp only[cUn,cNot,dp];rcases ll (opd fr.fr x) (fun t=>Bool.rec (motive:=fun _=>Option R) (dh o.dst fr (.sc (.bool true)) H k) (dh o.dst fr (.sc (.bool false)) H k) t) (g r fr H k)with⟨t,hx,e1⟩|e1
  ·rw[e1];refine Eq.trans ?_ (dL (v:= .sc (.bool (!t))) (H':=H) (by rw[h];rfl) (by rw[h];simp only[bT,hx,unA,Op.unary,bQ,cI,ofV,vA,bo];rfl)).symm
   cases t<;>simp only[c8 hk]<;>rfl
  ·rw[e1];exact hg r fr H k kn hk
 all_goals exact hg
theorem EC {x:Operand} (h:o.op = .nilCheck x) (hg:Sp g (cW e o)):Sp (rI x o.dst g) (cW e o):=by
 intro r fr H k kn hk;simp only[rI,dp];rcases fC (opd fr.fr x) (fun _ _=>dh o.dst fr (opd fr.fr x) H k) (g r fr H k)with⟨i,off,hx,e1⟩|e1
 ·rw[e1,c8 hk];refine(dL (v:=opd fr.fr x) (H':=H) ?_ ?_).symm
  ·rw[h];rfl
  ·rw[h];simp only[bT,hx,qR,vA,bo]
 ·rw[e1];exact hg r fr H k kn hk
theorem WK {c:Call} (h:o.op = .call c) (hg:Sp g (cW e o)):Sp ((WG e c o.dst g).a) (cW e o):=by
 unfold WG;split
 case h_2=>exact hg
 case h_1 f hc=>
  cases hp:e.isPure f with
  |true=>exact hg
  |false=>
   cases hz:e.isFrz f with
   |true=>exact hg
   |false=>
    simp only[Bool.or_false,aJ];intro r fr H k kn hk;simp only[WF,Ii,ji,cW,r.law];have h1:obl e fr.fr H o.op=e.pre f (c.args.toList.map (opd fr.fr)) H:=by
     rw[h];simp only[obl,hc,opd,o4,dY,fy,hO,hp,hz,aJ]
    have h2:bT e r.d fr.fr H o.type o.op=r.d f (c.args.toList.map (opd fr.fr)) H:=by
     rw[h];simp only[bT,jK,hc,opd,wH,dY,fy,i7,hp,hz,aJ]
    simp only[eL,h1,h2];cases bf (e.pre f (c.args.toList.map (opd fr.fr)) H)with
    |false=>rfl
    |true=>
     simp only[ap];cases r.d f (c.args.toList.map (opd fr.fr)) H with
     |none=>rfl
     |some p=>simp only[bo,q8,c8 hk]
theorem WL (e:Env) (o:Oper):Sp (cop e o:Bx (KO R)).a (cW e o):=by
 unfold cop;split
 ·rename_i x h;exact Ij (.inl h)
 ·rename_i x h;exact Ij (.inr h)
 ·rename_i h;exact cBin_eq h (eP e o)
 ·rename_i h;exact WH h (eP e o)
 ·rename_i h;exact S0 h (eP e o)
 ·rename_i h;exact BM h (eP e o)
 ·rename_i h;exact BN h (eP e o)
 ·rename_i h;exact S5 h (eP e o)
 ·rename_i h;exact WI h (eP e o)
 ·rename_i h;exact Ik h (eP e o)
 ·rename_i h;exact WJ h (eP e o)
 ·rename_i h;exact cUn_eq h (eP e o)
 ·rename_i h;exact EC h (eP e o)
 ·rename_i h;exact WK h (eP e o)
 ·exact eP e o
end
end
end
end Go.AM
