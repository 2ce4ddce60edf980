/-
  Closed runs, quickly: the evaluator once more, laid out so that the kernel reckons little at each operation. That it says the same as the evaluator is proved here.
-/
import Derived.Test.YteccopaonadbeaaGreatDoorAmU
set_option linter.unusedVariables false
set_option linter.unusedSimpArgs false
namespace Go.AM
set_option linter.unusedSimpArgs false
noncomputable section
def getF {R:Type} (fr:Fr) (n:Nat) (k:AV→R):R:=
 List.rec (motive:=fun _=>Nat→R) (fun _=>k .undef) (fun x _ ih n=>Nat.rec (motive:=fun _=>R) (k x) (fun m _=>ih m) n) fr n
theorem getF_eq {R:Type} (k:AV→R):∀(fr:Fr) (n:Nat),getF fr n k=k (fr.getD n .undef)
 | [],_=>rfl
 |_::_,0=>rfl
 |_::fr,n+1=>by
  have:=getF_eq k fr n
  simpa[getF]using this
def setF {α R:Type} (l:List α) (n:Nat) (v:α) (k:List α→R):R:=
 List.rec (motive:=fun _=>Nat→(List α→R)→R) (fun _ k=>k []) (fun x xs ih n k=>Nat.rec (motive:=fun _=>R) (k (v::xs)) (fun m _=>ih m (fun ys=>k (x::ys))) n) l n k
theorem setF_eq {α R:Type} (v:α):∀(l:List α) (n:Nat) (k:List α→R),setF l n v k=k (l.set n v)
 | [],_,_=>rfl
 |_::_,0,_=>rfl
 |x::l,n+1,k=>by
  have:=setF_eq v l n (fun ys=>k (x::ys))
  simpa[setF]using this
def nthF {α R:Type} (l:List α) (n:Nat) (k:α→R) (g:R):R:=
 List.rec (motive:=fun _=>Nat→R) (fun _=>g) (fun x _ ih n=>Nat.rec (motive:=fun _=>R) (k x) (fun m _=>ih m) n) l n
theorem nthF_eq {α R:Type} (k:α→R) (g:R):∀(l:List α) (n:Nat),nthF l n k g=(match l[n]? with|some x=>k x|none=>g)
 | [],_=>rfl
 |_::_,0=>rfl
 |_::l,n+1=>by
  have:=nthF_eq k g l n
  simpa[nthF]using this
def dropF {α R:Type} (l:List α) (n:Nat) (k:List α→R):R:=
 Nat.rec (motive:=fun _=>List α→R) (fun l=>k l) (fun _ ih l=>List.rec (motive:=fun _=>R) (k []) (fun _ xs _=>ih xs) l) n l
theorem dropF_eq {α R:Type} (k:List α→R):∀(n:Nat) (l:List α),dropF l n k=k (l.drop n)
 |0,_=>rfl
 |n+1,[]=>rfl
 |n+1,_::l=>by
  have:=dropF_eq k n l
  simpa[dropF]using this
def takeF {α R:Type} (n:Nat) (l:List α) (k:List α→R) (g:R):R:=
 Nat.rec (motive:=fun _=>List α→(List α→R)→R) (fun _ k=>k []) (fun _ ih l k=>List.rec (motive:=fun _=>R) g (fun x xs _=>ih xs (fun ys=>k (x::ys))) l) n l k
theorem takeF_eq {α R:Type} (g:R):∀(n:Nat) (l:List α) (k:List α→R),takeF n l k g=if n≤l.length then k (l.take n)else g
 |0,_,_=>rfl
 |n+1,[],_=>by simp[takeF]
 |n+1,x::l,k=>by
  have:=takeF_eq g n l (fun ys=>k (x::ys))
  simpa[takeF]using this
def dfl {α R:Type}:α→R→R:=fun _ g=>g
def asIntV {R:Type} (v:Value):(IntKind→Int→R)→R→R:=
 match v with
 | .int k n=>fun f _=>f k n
 |_=>dfl
def asInt {R:Type} (x:AV):(IntKind→Int→R)→R→R:=
 match x with
 | .sc v=>asIntV v
 |_=>dfl
def asBoolV {R:Type} (v:Value):(Bool→R)→R→R:=
 match v with
 | .bool b=>fun f _=>f b
 |_=>dfl
def asBool {R:Type} (x:AV):(Bool→R)→R→R:=
 match x with
 | .sc v=>asBoolV v
 |_=>dfl
def asPtr {R:Type} (x:AV):(Nat→Nat→R)→R→R:=
 match x with
 | .ptr i off=>fun f _=>f i off
 |_=>dfl
def asSl {R:Type} (x:AV):(Nat→Nat→Nat→Nat→R)→R→R:=
 match x with
 | .sl i z off len=>fun f _=>f i z off len
 |_=>dfl
def asAgg {R:Type} (x:AV):(List AV→R)→R→R:=
 match x with
 | .agg cs=>fun f _=>f cs
 |_=>dfl
def asTup {R:Type} (x:AV):(List AV→R)→R→R:=
 match x with
 | .tup cs=>fun f _=>f cs
 |_=>dfl
theorem asInt_cases {R:Type} (x:AV) (f:IntKind→Int→R) (g:R):(∃k n,x = .sc (.int k n)∧asInt x f g=f k n)∨asInt x f g=g:=by
 cases x<;>try exact .inr rfl
 rename_i v
 cases v<;>first|exact .inr rfl|exact .inl ⟨_,_,rfl,rfl⟩
theorem asBool_cases {R:Type} (x:AV) (f:Bool→R) (g:R):(∃b,x = .sc (.bool b)∧asBool x f g=f b)∨asBool x f g=g:=by
 cases x<;>try exact .inr rfl
 rename_i v
 cases v<;>first|exact .inr rfl|exact .inl ⟨_,rfl,rfl⟩
theorem asPtr_cases {R:Type} (x:AV) (f:Nat→Nat→R) (g:R):(∃i o,x = .ptr i o∧asPtr x f g=f i o)∨asPtr x f g=g:=by
 cases x<;>first|exact .inl ⟨_,_,rfl,rfl⟩|exact .inr rfl
theorem asSl_cases {R:Type} (x:AV) (f:Nat→Nat→Nat→Nat→R) (g:R):(∃i z o l,x = .sl i z o l∧asSl x f g=f i z o l)∨asSl x f g=g:=by
 cases x<;>first|exact .inl ⟨_,_,_,_,rfl,rfl⟩|exact .inr rfl
theorem asAgg_cases {R:Type} (x:AV) (f:List AV→R) (g:R):(∃cs,x = .agg cs∧asAgg x f g=f cs)∨asAgg x f g=g:=by
 cases x<;>first|exact .inl ⟨_,rfl,rfl⟩|exact .inr rfl
theorem asTup_cases {R:Type} (x:AV) (f:List AV→R) (g:R):(∃cs,x = .tup cs∧asTup x f g=f cs)∨asTup x f g=g:=by
 cases x<;>first|exact .inl ⟨_,rfl,rfl⟩|exact .inr rfl
def kNum (k:IntKind):Nat:=match k with | .i8=>0 | .i16=>1 | .i32=>2 | .i64=>3 | .u8=>4 | .u16=>5 | .u32=>6 | .u64=>7
def kMax (k:IntKind):Nat:=match k with | .i8=>127 | .i16=>32767 | .i32=>2147483647 | .i64=>9223372036854775807 | .u8=>255 | .u16=>65535 | .u32=>4294967295 | .u64=>18446744073709551615
def kEq (k k':IntKind):Bool:=Nat.beq (kNum k) (kNum k')
theorem kEq_iff {k k':IntKind}:kEq k k'=true↔k=k':=by cases k<;>cases k'<;>decide
def eqI (a b:Int):Bool:=
 match a with
 | .ofNat a=>(match b with | .ofNat b=>Nat.beq a b | .negSucc _=>false)
 | .negSucc a=>(match b with | .ofNat _=>false | .negSucc b=>Nat.beq a b)
theorem eqI_eq (a b:Int):eqI a b=(a==b):=by
 cases a with
 |ofNat a=>
  cases b with
  |ofNat b=>
   simp only[eqI]
   by_cases h:a=b
   ·subst h;simp
   ·have h1:Nat.beq a b=false:=by
     cases e:Nat.beq a b with
     |false=>rfl
     |true=>exact(h (Nat.eq_of_beq_eq_true e)).elim
    rw[h1]
    symm
    simp only[beq_eq_false_iff_ne,ne_eq,Int.ofNat.injEq]
    exact h
  |negSucc b=>simp only[eqI];symm;simp
 |negSucc a=>
  cases b with
  |ofNat b=>simp only[eqI];symm;simp
  |negSucc b=>
   simp only[eqI]
   by_cases h:a=b
   ·subst h;simp
   ·have h1:Nat.beq a b=false:=by
     cases e:Nat.beq a b with
     |false=>rfl
     |true=>exact(h (Nat.eq_of_beq_eq_true e)).elim
    rw[h1]
    symm
    simp only[beq_eq_false_iff_ne,ne_eq,Int.negSucc.injEq]
    exact h
def wrapF (k:IntKind) (z:Int):Int:=
 match z with
 | .ofNat u=>bif Nat.ble u (kMax k)then .ofNat u else k.wrap (.ofNat u)
 | .negSucc u=>k.wrap (.negSucc u)
theorem wrapF_eq (k:IntKind) (z:Int):wrapF k z=k.wrap z:=by
 cases z with
 |negSucc u=>rfl
 |ofNat u=>
  simp only[wrapF]
  cases h:Nat.ble u (kMax k)with
  |false=>rfl
  |true=>
   simp only[cond_true]
   have hu:=Nat.le_of_ble_eq_true h
   simp only[IntKind.wrap]
   cases k<;>simp only[kMax]at hu<;>simp[IntKind.bits,IntKind.signed]<;>omega
structure TF where
 n:Nat
 rows:List (List AV)
def TF.get (x:TF) (i:Nat):AV:=(x.rows.getD (i/12) []).getD (i%12) .undef
def slotsL (x:TF) (m:Nat):Nat→Fr:=Nat.rec (motive:=fun _=>Nat→Fr) (fun _=>[]) (fun _ ih i=>x.get i::ih (i+1)) m
theorem slotsL_succ (x:TF) (m i:Nat):slotsL x (m+1) i=x.get i::slotsL x m (i+1):=rfl
def TF.fr (x:TF):Fr:=slotsL x x.n 0
theorem slotsL_get (x:TF):∀(m i j:Nat),(slotsL x m i)[j]? = if j<m then some (x.get (i+j))else none
 |0,_,j=>by rw[if_neg (Nat.not_lt_zero j)];rfl
 |m+1,i,0=>by rw[slotsL_succ,if_pos (Nat.succ_pos m)];rfl
 |m+1,i,j+1=>by
  simp only[slotsL_succ,List.getElem?_cons_succ,slotsL_get x m (i+1) j,Nat.add_lt_add_iff_right]
  rw[show i+1+j=i+(j+1)by omega]
theorem fr_get (x:TF) (j:Nat):x.fr[j]? = if j<x.n then some (x.get j)else none:=by
 unfold TF.fr
 rw[slotsL_get,Nat.zero_add]
def getX {R:Type} (x:TF) (i:Nat) (k:AV→R):R:=
 bif Nat.blt i x.n then nthF x.rows (i/12) (fun row=>getF row (i%12) k) (k .undef)else k .undef
theorem getX_eq {R:Type} (x:TF) (i:Nat) (k:AV→R):getX x i k=k (x.fr.getD i .undef):=by
 unfold getX
 rw[List.getD_eq_getElem?_getD,fr_get]
 cases h:Nat.blt i x.n with
 |false=>
  have:¬i<x.n:=by rw[← Nat.blt_eq,h];simp
  simp only[cond_false,if_neg this,Option.getD_none]
 |true=>
  have hi:i<x.n:=by rw[← Nat.blt_eq];exact h
  simp only[cond_true,if_pos hi,Option.getD_some,nthF_eq,TF.get]
  cases hr:x.rows[i/12]? with
  |none=>simp only[List.getD_eq_getElem?_getD,hr,Option.getD_none,List.getElem?_nil]
  |some row=>simp only[getF_eq,List.getD_eq_getElem?_getD,hr,Option.getD_some]
def putL {α:Type} (d:α):List α→Nat→α→List α
 | [],0,v=>[v]
 | [],n+1,v=>d::putL d [] n v
 |_::xs,0,v=>v::xs
 |x::xs,n+1,v=>x::putL d xs n v
theorem putL_get {α:Type} (d:α) (v:α):∀(l:List α) (n j:Nat),(putL d l n v).getD j d=if j=n then v else l.getD j d
 | [],0,0=>by simp[putL]
 | [],0,j+1=>by simp[putL]
 | [],n+1,0=>by simp[putL]
 | [],n+1,j+1=>by
   have:=putL_get d v [] n j
   simp only[putL,List.getD_cons_succ,this,List.getD_nil,Nat.add_right_cancel_iff]
 |_::xs,0,0=>by simp[putL]
 |_::xs,0,j+1=>by simp[putL]
 |x::xs,n+1,0=>by simp[putL]
 |x::xs,n+1,j+1=>by
  have:=putL_get d v xs n j
  simp only[putL,List.getD_cons_succ,this,Nat.add_right_cancel_iff]
def putLF {α R:Type} (d:α) (l:List α) (n:Nat) (v:α) (k:List α→R):R:=
 List.rec (motive:=fun _=>Nat→(List α→R)→R) (fun n k=>k (putL d [] n v)) (fun x xs ih n k=>Nat.rec (motive:=fun _=>R) (k (v::xs)) (fun m _=>ih m (fun ys=>k (x::ys))) n) l n k
theorem putLF_eq {α R:Type} (d v:α):∀(l:List α) (n:Nat) (k:List α→R),putLF d l n v k=k (putL d l n v)
 | [],_,_=>rfl
 |_::_,0,_=>rfl
 |x::l,n+1,k=>by
  have:=putLF_eq d v l n (fun ys=>k (x::ys))
  simpa[putLF,putL]using this
def TF.set (x:TF) (i:Nat) (v:AV):TF:=⟨x.n,putL [] x.rows (i/12) (putL .undef (x.rows.getD (i/12) []) (i%12) v)⟩
theorem TF.get_set (x:TF) (i j:Nat) (v:AV):(x.set i v).get j=if j=i then v else x.get j:=by
 simp only[TF.get,TF.set]
 rw[putL_get]
 by_cases h:j/12=i/12
 ·rw[if_pos h,putL_get]
  by_cases h2:j%12=i%12
  ·rw[if_pos h2,if_pos (by omega)]
  ·rw[if_neg h2,if_neg (fun e=>h2 (by rw[e])),h]
 ·rw[if_neg h,if_neg (fun e=>h (by rw[e]))]
theorem fr_set (x:TF) (i:Nat) (v:AV):(x.set i v).fr=x.fr.set i v:=by
 apply List.ext_getElem?
 intro j
 rw[List.getElem?_set,fr_get,fr_get]
 have hl:x.fr.length=x.n:=by
  have:∀m i,(slotsL x m i).length=m:=by
   intro m
   induction m with
   |zero=>intro i;rfl
   |succ m ih=>intro i;simp only[slotsL_succ,List.length_cons,ih]
  exact this _ _
 simp only[hl]
 show(if j<x.n then some ((x.set i v).get j)else none)=_
 rw[TF.get_set]
 by_cases h:i=j
 ·subst h;by_cases h2:i<x.n<;>simp[h2]
 ·simp only[if_neg h,if_neg (fun e:j=i=>h e.symm)]
def setX {R:Type} (x:TF) (i:Nat) (v:AV) (k:TF→R):R:=
 nthF x.rows (i/12) (fun row=>putLF .undef row (i%12) v fun row=>putLF [] x.rows (i/12) row fun rows=>k ⟨x.n,rows⟩) (putLF .undef [] (i%12) v fun row=>putLF [] x.rows (i/12) row fun rows=>k ⟨x.n,rows⟩)
theorem setX_eq {R:Type} (x:TF) (i:Nat) (v:AV) (k:TF→R):setX x i v k=k (x.set i v):=by
 unfold setX TF.set
 rw[nthF_eq]
 cases hr:x.rows[i/12]? with
 |none=>simp only[putLF_eq,List.getD_eq_getElem?_getD,hr,Option.getD_none]
 |some row=>simp only[putLF_eq,List.getD_eq_getElem?_getD,hr,Option.getD_some]
def cut12 (fr:Fr) (k:List (List AV)→List (List AV)):Nat→List (List AV)
 |0=>k []
 |m+1=>fr.take 12::cut12 (fr.drop 12) k m
def TF.of (fr:Fr):TF:=⟨fr.length,cut12 fr (fun l=>l) (fr.length/12+1)⟩
theorem cut12_get:∀(m:Nat) (fr:Fr) (i:Nat),i<m→(cut12 fr (fun l=>l) m).getD i []=(fr.drop (12*i)).take 12
 |0,_,_,h=>by omega
 |m+1,fr,0,_=>by simp[cut12]
 |m+1,fr,i+1,h=>by
  have:=cut12_get m (fr.drop 12) i (by omega)
  simp only[cut12,List.getD_cons_succ,this,List.drop_drop]
  rw[show 12+12*i=12*(i+1)by omega]
theorem fr_of (fr:Fr):(TF.of fr).fr=fr:=by
 apply List.ext_getElem?
 intro j
 rw[fr_get]
 show(if j<fr.length then some ((TF.of fr).get j)else none)=_
 by_cases h:j<fr.length
 ·rw[if_pos h]
  simp only[TF.get,TF.of]
  rw[cut12_get _ _ _ (by omega),List.getD_eq_getElem?_getD,List.getElem?_take,if_pos (Nat.mod_lt _ (by omega)),List.getElem?_drop,Nat.div_add_mod]
  rw[List.getElem?_eq_getElem h];rfl
 ·rw[if_neg h,List.getElem?_eq_none (by omega)]
universe u
structure Bx (α:Type u) where
 a:α
structure RQ where
 d:Rec
 k:{R:Type}→FuncId→List AV→Hp→(AV→Hp→Option R)→Option R
 law:∀{R:Type} (f:FuncId) (args:List AV) (H:Hp) (h:AV→Hp→Option R),k f args H h=(d f args H).bind fun p=>h p.1 p.2
def RQ.of (d:Rec):RQ:=⟨d,fun f args H h=>(d f args H).bind fun p=>h p.1 p.2,fun _ _ _ _=>rfl⟩
abbrev KO (R:Type):=RQ→TF→Hp→(TF→Hp→Option R)→Option R
abbrev KS (R:Type):=Rec→Fr→Hp→(Fr→Hp→Option R)→Option R
def Sp {R:Type} (A:KO R) (S:KS R):Prop:=∀r (x:TF) H (k:TF→Hp→Option R) (kn:Fr→Hp→Option R),(∀y H',k y H'=kn y.fr H')→A r x H k=S r.d x.fr H kn
section
variable {R:Type}
def putF (d:Option Tmp):TF→AV→Hp→(TF→Hp→Option R)→Option R:=
 match d with
 |some t=>fun fr v H k=>setX fr t v (fun fr=>k fr H)
 |none=>fun fr _ H k=>k fr H
theorem putF_eq {k:TF→Hp→Option R} {kn:Fr→Hp→Option R} (hk:∀y H',k y H'=kn y.fr H') (d:Option Tmp) (fr:TF) (v:AV) (H:Hp):putF d fr v H k=kn (putA fr.fr d v) H:=by
 cases d with
 |none=>exact hk _ _
 |some t=>
  show setX fr t v (fun fr=>k fr H)=kn (fr.fr.set t v) H
  rw[setX_eq,hk,fr_set]
def opdK {S:Type} (x:Operand):TF→(AV→S)→S:=
 match x with
 | .tmp t=>fun fr k=>getX fr t k
 | .const v=>fun _ k=>k (ofV v)
 | .global g=>fun _ k=>k (.sc (.pointer (some ⟨g,0,none⟩)))
 | .func f=>fun _ k=>k (.func f [] [])
theorem opdK_eq {S:Type} (x:Operand) (fr:TF) (k:AV→S):opdK x fr k=k (opd fr.fr x):=by
 cases x with
 |tmp t=>exact getX_eq fr t k
 |_=>rfl
def specO (e:Env) (o:Oper):KS R:=fun r fr H k=>(evOp e r fr H o.type o.op).bind fun p=>k (putA fr o.dst p.1) p.2
def genO (e:Env) (o:Oper):KO R:=fun r fr H k=>opK e r.d fr.fr H o.type o.op fun p=>frA 3 p.1 fun v=>putF o.dst fr v p.2 k
theorem genO_eq (e:Env) (o:Oper):Sp (genO e o:KO R) (specO e o):=by
 intro r fr H k kn hk
 simp only[genO,specO,opK_eq,frA_eq,putF_eq hk]
theorem spec_of {e:Env} {o:Oper} {r:Rec} {fr:Fr} {H:Hp} {k:Fr→Hp→Option R} {v:AV} {H':Hp} (h1:allB (obl e fr H o.op)=true) (h2:evOp0 e r fr H o.type o.op=some (v,H')):specO e o r fr H k=k (putA fr o.dst v) H':=by
 simp only[specO,evOp_mk h1 h2,Option.bind_some]
def cMove (x:Operand) (d:Option Tmp):KO R:=fun _ fr H k=>opdK x fr fun v=>putF d fr v H k
def bK (b:Bool) (k:AV→Option R):Option R:=Bool.rec (motive:=fun _=>Option R) (k (.sc (.bool false))) (k (.sc (.bool true))) b
theorem bK_eq (b:Bool) (k:AV→Option R):bK b k=k (.sc (.bool b)):=by cases b<;>rfl
abbrev KI (R:Type):=IntKind→Int→IntKind→Int→(AV→Option R)→Option R→Option R
def iAdd:KI R:=fun k a k' b f g=>bif kEq k k' then frI (fun z=>f (.sc (.int k z))) (wrapF k (a+b))else g
def iSub:KI R:=fun k a k' b f g=>bif kEq k k' then frI (fun z=>f (.sc (.int k z))) (wrapF k (a-b))else g
def iMul:KI R:=fun k a k' b f g=>bif kEq k k' then frI (fun z=>f (.sc (.int k z))) (wrapF k (a*b))else g
def iEql:KI R:=fun k a k' b f g=>bif kEq k k' then bK (eqI a b) f else g
def iNeq:KI R:=fun k a k' b f g=>bif kEq k k' then bK (!(eqI a b)) f else g
def iLss:KI R:=fun k a k' b f g=>bif kEq k k' then bK (!(leI b a)) f else g
def iLeq:KI R:=fun k a k' b f g=>bif kEq k k' then bK (leI a b) f else g
def iGtr:KI R:=fun k a k' b f g=>bif kEq k k' then bK (!(leI a b)) f else g
def iGeq:KI R:=fun k a k' b f g=>bif kEq k k' then bK (leI b a) f else g
def iNone:KI R:=fun _ _ _ _ _ g=>g
def iOp (op:BinOp):KI R:=
 match op with
 | .add=>iAdd
 | .sub=>iSub
 | .mul=>iMul
 | .eql=>iEql
 | .neq=>iNeq
 | .lss=>iLss
 | .leq=>iLeq
 | .gtr=>iGtr
 | .geq=>iGeq
 |_=>iNone
theorem iOp_cases (op:BinOp) (k k':IntKind) (a b:Int) (f:AV→Option R) (g:Option R):(∃v,intBin' op k a k' b=some v∧iOp op k a k' b f g=f v∧binObl op (.sc (.int k a)) (.sc (.int k' b)) = [])∨iOp op k a k' b f g=g:=by
 cases h:kEq k k' with
 |false=>right;cases op<;>simp[iOp,iAdd,iSub,iMul,iEql,iNeq,iLss,iLeq,iGtr,iGeq,iNone,h]
 |true=>
  have hk:=kEq_iff.1 h
  subst hk
  cases op
  case add=>exact .inl ⟨.sc (.int k (k.wrap (a+b))),by simp only[intBin',isShift,cond_false,if_true,intBin],by simp only[iOp,iAdd,iSub,iMul,iEql,iNeq,iLss,iLeq,iGtr,iGeq,h,cond_true,frI_eq,wrapF_eq,bK_eq,eqI_eq,bne],rfl⟩
  case sub=>exact .inl ⟨.sc (.int k (k.wrap (a-b))),by simp only[intBin',isShift,cond_false,if_true,intBin],by simp only[iOp,iAdd,iSub,iMul,iEql,iNeq,iLss,iLeq,iGtr,iGeq,h,cond_true,frI_eq,wrapF_eq,bK_eq,eqI_eq,bne],rfl⟩
  case mul=>exact .inl ⟨.sc (.int k (k.wrap (a*b))),by simp only[intBin',isShift,cond_false,if_true,intBin],by simp only[iOp,iAdd,iSub,iMul,iEql,iNeq,iLss,iLeq,iGtr,iGeq,h,cond_true,frI_eq,wrapF_eq,bK_eq,eqI_eq,bne],rfl⟩
  case eql=>exact .inl ⟨.sc (.bool (a==b)),by simp only[intBin',isShift,cond_false,if_true,intBin],by simp only[iOp,iAdd,iSub,iMul,iEql,iNeq,iLss,iLeq,iGtr,iGeq,h,cond_true,frI_eq,wrapF_eq,bK_eq,eqI_eq,bne],rfl⟩
  case neq=>exact .inl ⟨.sc (.bool (a != b)),by simp only[intBin',isShift,cond_false,if_true,intBin],by simp only[iOp,iAdd,iSub,iMul,iEql,iNeq,iLss,iLeq,iGtr,iGeq,h,cond_true,frI_eq,wrapF_eq,bK_eq,eqI_eq,bne],rfl⟩
  case lss=>exact .inl ⟨.sc (.bool (!(leI b a))),by simp only[intBin',isShift,cond_false,if_true,intBin],by simp only[iOp,iAdd,iSub,iMul,iEql,iNeq,iLss,iLeq,iGtr,iGeq,h,cond_true,frI_eq,wrapF_eq,bK_eq,eqI_eq,bne],rfl⟩
  case leq=>exact .inl ⟨.sc (.bool (leI a b)),by simp only[intBin',isShift,cond_false,if_true,intBin],by simp only[iOp,iAdd,iSub,iMul,iEql,iNeq,iLss,iLeq,iGtr,iGeq,h,cond_true,frI_eq,wrapF_eq,bK_eq,eqI_eq,bne],rfl⟩
  case gtr=>exact .inl ⟨.sc (.bool (!(leI a b))),by simp only[intBin',isShift,cond_false,if_true,intBin],by simp only[iOp,iAdd,iSub,iMul,iEql,iNeq,iLss,iLeq,iGtr,iGeq,h,cond_true,frI_eq,wrapF_eq,bK_eq,eqI_eq,bne],rfl⟩
  case geq=>exact .inl ⟨.sc (.bool (leI b a)),by simp only[intBin',isShift,cond_false,if_true,intBin],by simp only[iOp,iAdd,iSub,iMul,iEql,iNeq,iLss,iLeq,iGtr,iGeq,h,cond_true,frI_eq,wrapF_eq,bK_eq,eqI_eq,bne],rfl⟩
  all_goals exact .inr rfl
def cBin (op:BinOp) (x y:Operand) (d:Option Tmp) (g:KO R):KO R:=fun r fr H k=>
 opdK x fr fun a=>opdK y fr fun b=>asInt a (fun ka n=>asInt b (fun kb m=>iOp op ka n kb m (fun v=>putF d fr v H k) (g r fr H k)) (g r fr H k)) (g r fr H k)
def cellsB (b:Option Blk) {S:Type}:(List AV→S)→S→S:=
 match b with
 |some (.cells cs)=>fun f _=>f cs
 |_=>dfl
def getBF {S:Type} (H:Hp) (i:Nat) (k:List AV→S) (g:S):S:=
 bif Nat.blt i H.n then nthF H.bs (H.n-1-i) (fun b=>cellsB b k g) g else g
theorem getBF_cases {S:Type} (H:Hp) (i:Nat) (k:List AV→S) (g:S):(∃cs,H.get i=some (.cells cs)∧getBF H i k g=k cs)∨getBF H i k g=g:=by
 unfold getBF Hp.get
 cases hb:Nat.blt i H.n with
 |false=>exact .inr rfl
 |true=>
  simp only[cond_true,nthF_eq]
  cases hn:H.bs[H.n-1-i]? with
  |none=>exact .inr rfl
  |some b=>
   cases b with
   |none=>exact .inr rfl
   |some b=>cases b<;>first|exact .inr rfl|exact .inl ⟨_,rfl,rfl⟩
def cLd1 (x:Operand) (d:Option Tmp) (g:KO R):KO R:=fun r fr H k=>
 opdK x fr fun a=>asPtr a (fun i off=>getBF H i (fun cs=>nthF cs off (fun v=>putF d fr v H k) (g r fr H k)) (g r fr H k)) (g r fr H k)
def cLdN (n:Nat) (x:Operand) (d:Option Tmp) (g:KO R):KO R:=fun r fr H k=>
 opdK x fr fun a=>asPtr a (fun i off=>getBF H i (fun cs=>dropF cs off fun l=>takeF n l (fun vs=>putF d fr (.agg vs) H k) (g r fr H k)) (g r fr H k)) (g r fr H k)
def cLoad (P:Program) (T:TypeId) (x:Operand) (d:Option Tmp) (g:KO R):Bx (KO R):=
 match aggB P T with
 |some false=>⟨cLd1 x d g⟩
 |some true=>(match sz P T with|some n=>bif Nat.beq n 0 then⟨g⟩else⟨cLdN n x d g⟩|none=>⟨g⟩)
 |none=>⟨g⟩
def oneV (v:Value):Bool:=match v with | .agg _=>false | .tuple _=>false|_=>true
def oneF (x:AV):Bool:=
 match x with
 | .sc v=>oneV v
 | .ptr _ _=>true
 | .sl _ _ _ _=>true
 | .map _=>true
 | .func _ _ _=>true
 |_=>false
theorem oneF_one {x:AV} (h:oneF x=true):one x=true∧cellsOf x=some [x]∧(∀T d,x≠ .dat T d):=by
 cases x<;>simp only[oneF]at h
 case sc v=>
  have h1:one (.sc v)=true:=by cases v<;>simp only[oneV]at h<;>first|rfl|cases h
  exact⟨h1,by simp only[cellsOf,h1,if_true],fun _ _ e=>by cases e⟩
 case ptr=>exact⟨rfl,rfl,by simp⟩
 case sl=>exact⟨rfl,rfl,by simp⟩
 case map=>exact⟨rfl,rfl,by simp⟩
 case func=>exact⟨rfl,rfl,by simp⟩
 all_goals cases h
def hpSet {S:Type} (H:Hp) (i:Nat) (cs:List AV) (k:Hp→S):S:=setF H.bs (H.n-1-i) (some (.cells cs)) fun bs=>k ⟨H.n,bs,H.gl⟩
theorem hpSet_eq {S:Type} (H:Hp) (i:Nat) (cs:List AV) (k:Hp→S):hpSet H i cs k=k (H.put i (some (.cells cs))):=by unfold hpSet;rw[setF_eq];rfl
def cSt1 (x y:Operand) (d:Option Tmp) (g:KO R):KO R:=fun r fr H k=>
 opdK x fr fun a=>opdK y fr fun v=>bif oneF v then asPtr a (fun i off=>getBF H i (fun cs=>nthF cs off (fun _=>setF cs off v fun cs'=>hpSet H i cs' fun H'=>putF d fr uv H' k) (g r fr H k)) (g r fr H k)) (g r fr H k)else g r fr H k
def cStore (P:Program) (T:TypeId) (x y:Operand) (d:Option Tmp) (g:KO R):Bx (KO R):=
 match sz P T with
 |some n=>bif Nat.beq n 1 then⟨cSt1 x y d g⟩else⟨g⟩
 |none=>⟨g⟩
def cFA (o:Nat) (x:Operand) (d:Option Tmp) (g:KO R):KO R:=fun r fr H k=>opdK x fr fun a=>asPtr a (fun i off=>frN (fun off=>putF d fr (.ptr i off) H k) (off+o)) (g r fr H k)
def cFieldAddr (P:Program) (s:TypeId) (f:Nat) (x:Operand) (d:Option Tmp) (g:KO R):Bx (KO R):=
 match fieldOff P s f with
 |some o=>⟨cFA o x d g⟩
 |none=>⟨g⟩
def asNat {S:Type} (n:Int) (k:Nat→S) (g:S):S:=match n with | .ofNat m=>k m | .negSucc _=>g
def cIxSl (s:Nat) (x y:Operand) (d:Option Tmp) (g:KO R):KO R:=fun r fr H k=>
 opdK x fr fun a=>opdK y fr fun b=>asSl a (fun i z off len=>asInt b (fun _ n=>asNat n (fun n=>bif Nat.beq z s&&Nat.blt n len then frN (fun o=>putF d fr (.ptr i o) H k) (off+n*s)else g r fr H k) (g r fr H k)) (g r fr H k)) (g r fr H k)
def cIxArr (s len:Nat) (x y:Operand) (d:Option Tmp) (g:KO R):KO R:=fun r fr H k=>
 opdK x fr fun a=>opdK y fr fun b=>asPtr a (fun i off=>asInt b (fun _ n=>asNat n (fun n=>bif Nat.blt n len then frN (fun o=>putF d fr (.ptr i o) H k) (off+n*s)else g r fr H k) (g r fr H k)) (g r fr H k)) (g r fr H k)
def cIndexAddr (P:Program) (T:TypeId) (x y:Operand) (d:Option Tmp) (g:KO R):Bx (KO R):=
 match x with
 | .tmp _=>(match P.underlying T with
   |some (.slice e)=>(match sz P e with|some s=>⟨cIxSl s x y d g⟩|none=>⟨g⟩)
   |some (.array len e)=>(match sz P e with|some s=>⟨cIxArr s len x y d g⟩|none=>⟨g⟩)
   |_=>⟨g⟩)
 |_=>⟨g⟩
def cFl1 (off:Nat) (x:Operand) (d:Option Tmp) (g:KO R):KO R:=fun r fr H k=>opdK x fr fun a=>asAgg a (fun cs=>nthF cs off (fun v=>putF d fr v H k) (g r fr H k)) (g r fr H k)
def cFlN (off n:Nat) (x:Operand) (d:Option Tmp) (g:KO R):KO R:=fun r fr H k=>opdK x fr fun a=>asAgg a (fun cs=>dropF cs off fun l=>takeF n l (fun vs=>putF d fr (.agg vs) H k) (g r fr H k)) (g r fr H k)
def cFieldF (P:Program) (fd:Field) (x:Operand) (d:Option Tmp) (g:KO R):Bx (KO R):=
 match sz P fd.type with
 |some s=>(match aggB P fd.type with
  |some true=>bif Nat.beq s 0 then⟨g⟩else⟨cFlN fd.offset s x d g⟩
  |some false=>⟨cFl1 fd.offset x d g⟩
  |none=>⟨g⟩)
 |none=>⟨g⟩
def cField (P:Program) (T:TypeId) (f:Nat) (x:Operand) (d:Option Tmp) (g:KO R):Bx (KO R):=
 match P.underlying T with
 |some (.struct fs)=>(match fs[f]? with|some fd=>cFieldF P fd x d g|none=>⟨g⟩)
 |_=>⟨g⟩
def cCv (k:IntKind) (x:Operand) (d:Option Tmp) (g:KO R):KO R:=fun r fr H c=>opdK x fr fun a=>asInt a (fun _ n=>frI (fun z=>putF d fr (.sc (.int k z)) H c) (wrapF k n)) (g r fr H c)
def cConv (P:Program) (S T:TypeId) (x:Operand) (d:Option Tmp) (g:KO R):Bx (KO R):=
 match P.underlying S,P.underlying T with
 |some (.int _),some (.int k)=>⟨cCv k x d g⟩
 |_,_=>⟨g⟩
def cExtract (x:Operand) (i:Nat) (d:Option Tmp) (g:KO R):KO R:=fun r fr H k=>opdK x fr fun a=>asTup a (fun cs=>nthF cs i (fun v=>putF d fr v H k) (g r fr H k)) (g r fr H k)
def cPick (c a b:Operand) (d:Option Tmp) (g:KO R):KO R:=fun r fr H k=>opdK c fr fun t=>asBool t (fun t=>Bool.rec (motive:=fun _=>Option R) (opdK b fr fun v=>putF d fr v H k) (opdK a fr fun v=>putF d fr v H k) t) (g r fr H k)
def cNot (x:Operand) (d:Option Tmp) (g:KO R):KO R:=fun r fr H k=>opdK x fr fun t=>asBool t (fun t=>Bool.rec (motive:=fun _=>Option R) (putF d fr (.sc (.bool true)) H k) (putF d fr (.sc (.bool false)) H k) t) (g r fr H k)
def cUn (op:UnOp) (x:Operand) (d:Option Tmp) (g:KO R):Bx (KO R):=match op with | .not=>⟨cNot x d g⟩|_=>⟨g⟩
def cNilCheck (x:Operand) (d:Option Tmp) (g:KO R):KO R:=fun r fr H k=>opdK x fr fun a=>asPtr a (fun _ _=>putF d fr a H k) (g r fr H k)
def argsF {S:Type}:List Operand→TF→(List AV→S)→S
 | [],_,k=>k []
 |x::xs,fr,k=>opdK x fr fun v=>argsF xs fr fun vs=>k (v::vs)
theorem argsF_eq {S:Type}:∀(xs:List Operand) (fr:TF) (k:List AV→S),argsF xs fr k=k (xs.map (opd fr.fr))
 | [],_,_=>rfl
 |x::xs,fr,k=>by simp only[argsF,opdK_eq,argsF_eq xs,List.map_cons]
def cCallF (e:Env) (f:FuncId) (args:List Operand) (d:Option Tmp):KO R:=fun r fr H k=>
 argsF args fr fun vs=>guardAll (r.k f vs H fun v H'=>frA 3 v fun v=>putF d fr v H' k) (e.pre f vs H)
def cCall (e:Env) (c:Call) (d:Option Tmp) (g:KO R):Bx (KO R):=
 match c.callee with
 | .value (.func f)=>bif e.isPure f||e.isFrz f then⟨g⟩else⟨cCallF e f c.args.toList d⟩
 |_=>⟨g⟩
def cop (e:Env) (o:Oper):Bx (KO R):=
 match o.op with
 | .move x=>⟨cMove x o.dst⟩
 | .assign x=>⟨cMove x o.dst⟩
 | .binOp op _ x y _=>⟨cBin op x y o.dst (genO e o)⟩
 | .load T x=>cLoad e.P T x o.dst (genO e o)
 | .store T x y=>cStore e.P T x y o.dst (genO e o)
 | .fieldAddr s x f=>cFieldAddr e.P s f x o.dst (genO e o)
 | .indexAddr T x y=>cIndexAddr e.P T x y o.dst (genO e o)
 | .field T x f=>cField e.P T f x o.dst (genO e o)
 | .convert S T x=>cConv e.P S T x o.dst (genO e o)
 | .extract x i=>⟨cExtract x i o.dst (genO e o)⟩
 | .pick c a b=>⟨cPick c a b o.dst (genO e o)⟩
 | .unOp op _ x=>cUn op x o.dst (genO e o)
 | .nilCheck x=>⟨cNilCheck x o.dst (genO e o)⟩
 | .call c=>cCall e c o.dst (genO e o)
 |_=>⟨genO e o⟩
section
variable {e:Env} {o:Oper} {g:KO R}
theorem getB_of {H:Hp} {i:Nat} {cs:List AV} (h:H.get i=some (.cells cs)):getB H i=some cs:=by simp only[getB,h]
theorem datB_of {H:Hp} {i:Nat} {cs:List AV} (h:H.get i=some (.cells cs)):datB H i=none:=by simp only[datB,h]
theorem cMove_eq {x:Operand} (h:o.op = .move x∨o.op = .assign x):Sp (R:=R) (cMove x o.dst) (specO e o):=by
 intro r fr H k kn hk
 simp only[cMove,opdK_eq,putF_eq hk]
 rcases h with h|h<;>exact(spec_of (by rw[h];rfl) (by rw[h];rfl)).symm
theorem cBin_eq {op:BinOp} {T yT:TypeId} {x y:Operand} (h:o.op = .binOp op T x y yT) (hg:Sp g (specO e o)):Sp (cBin op x y o.dst g) (specO e o):=by
 intro r fr H k kn hk
 simp only[cBin,opdK_eq]
 rcases asInt_cases (opd fr.fr x) (fun ka n=>asInt (opd fr.fr y) (fun kb m=>iOp op ka n kb m (fun v=>putF o.dst fr v H k) (g r fr H k)) (g r fr H k)) (g r fr H k)with⟨ka,n,hx,e1⟩|e1
 ·rw[e1]
  rcases asInt_cases (opd fr.fr y) (fun kb m=>iOp op ka n kb m (fun v=>putF o.dst fr v H k) (g r fr H k)) (g r fr H k)with⟨kb,m,hy,e2⟩|e2
  ·rw[e2]
   rcases iOp_cases op ka kb n m (fun v=>putF o.dst fr v H k) (g r fr H k)with⟨v,hv,e3,hb⟩|e3
   ·rw[e3,putF_eq hk]
    refine(spec_of (v:=v) (H':=H) ?_ ?_).symm
    ·rw[h];simp only[obl,hx,hy,hb,allB]
    ·rw[h];simp only[evOp0,binA,hx,hy,hv,vA,Option.bind_some]
   ·rw[e3];exact hg r fr H k kn hk
  ·rw[e2];exact hg r fr H k kn hk
 ·rw[e1];exact hg r fr H k kn hk
theorem cLoad_eq {T:TypeId} {x:Operand} (h:o.op = .load T x) (hg:Sp g (specO e o)):Sp ((cLoad e.P T x o.dst g).a) (specO e o):=by
 unfold cLoad
 cases ha:aggB e.P T with
 |none=>exact hg
 |some ag=>
  cases ag with
  |false=>
   intro r fr H k kn hk
   simp only[cLd1,opdK_eq]
   rcases asPtr_cases (opd fr.fr x) (fun i off=>getBF H i (fun cs=>nthF cs off (fun v=>putF o.dst fr v H k) (g r fr H k)) (g r fr H k)) (g r fr H k)with⟨i,off,hx,e1⟩|e1
   ·rw[e1]
    rcases getBF_cases H i (fun cs=>nthF cs off (fun v=>putF o.dst fr v H k) (g r fr H k)) (g r fr H k)with⟨cs,hcs,e2⟩|e2
    ·rw[e2,nthF_eq]
     cases hv:cs[off]? with
     |none=>exact hg r fr H k kn hk
     |some v=>
      simp only[putF_eq hk]
      refine(spec_of (v:=v) (H':=H) ?_ ?_).symm
      ·rw[h];simp only[obl,hx,atObl,allB]
      ·rw[h];simp only[evOp0,hx,loadA,ha,ld1,getB_of hcs,Option.bind_some,hv,vA]
    ·rw[e2];exact hg r fr H k kn hk
   ·rw[e1];exact hg r fr H k kn hk
  |true=>
   cases hz:sz e.P T with
   |none=>exact hg
   |some n=>
    simp only
    cases hn0:Nat.beq n 0 with
    |true=>exact hg
    |false=>
    have hn1:n≠0:=fun e=>by subst e;cases hn0
    simp only[cond_false]
    intro r fr H k kn hk
    simp only[cLdN,opdK_eq]
    rcases asPtr_cases (opd fr.fr x) (fun i off=>getBF H i (fun cs=>dropF cs off fun l=>takeF n l (fun vs=>putF o.dst fr (.agg vs) H k) (g r fr H k)) (g r fr H k)) (g r fr H k)with⟨i,off,hx,e1⟩|e1
    ·rw[e1]
     rcases getBF_cases H i (fun cs=>dropF cs off fun l=>takeF n l (fun vs=>putF o.dst fr (.agg vs) H k) (g r fr H k)) (g r fr H k)with⟨cs,hcs,e2⟩|e2
     ·rw[e2,dropF_eq,takeF_eq]
      by_cases hn:n≤(cs.drop off).length
      ·rw[if_pos hn,putF_eq hk]
       by_cases ho:off+n≤cs.length
       ·refine(spec_of (v:= .agg ((cs.drop off).take n)) (H':=H) ?_ ?_).symm
        ·rw[h];simp only[obl,hx,atObl,allB]
        ·rw[h];simp only[evOp0,hx,loadA,ha,hz,Option.bind_some,ldN,datAt,datB_of hcs,orAV,getB_of hcs,if_pos ho,vA]
       ·rw[List.length_drop]at hn;omega
      ·rw[if_neg hn];exact hg r fr H k kn hk
     ·rw[e2];exact hg r fr H k kn hk
    ·rw[e1];exact hg r fr H k kn hk
theorem set_one {cs:List AV} {off:Nat} {v:AV} (h:off<cs.length):setCells cs off [v]=cs.set off v:=by
 simp only[setCells,List.length_cons,List.length_nil]
 rw[List.set_eq_take_append_cons_drop,if_pos h]
 simp
theorem cStore_eq {T:TypeId} {x y:Operand} (h:o.op = .store T x y) (hg:Sp g (specO e o)):Sp ((cStore e.P T x y o.dst g).a) (specO e o):=by
 unfold cStore
 cases hz:sz e.P T with
 |none=>exact hg
 |some n=>
  simp only
  cases hn:Nat.beq n 1 with
  |false=>exact hg
  |true=>
   have hn1:=Nat.eq_of_beq_eq_true hn
   subst hn1
   simp only[cond_true]
   intro r fr H k kn hk
   simp only[cSt1,opdK_eq]
   cases ho:oneF (opd fr.fr y)with
   |false=>exact hg r fr H k kn hk
   |true=>
    obtain⟨h1,hc,hnd⟩:=oneF_one ho
    simp only[cond_true]
    rcases asPtr_cases (opd fr.fr x) (fun i off=>getBF H i (fun cs=>nthF cs off (fun _=>setF cs off (opd fr.fr y) fun cs'=>hpSet H i cs' fun H'=>putF o.dst fr uv H' k) (g r fr H k)) (g r fr H k)) (g r fr H k)with⟨i,off,hx,e1⟩|e1
    ·rw[e1]
     rcases getBF_cases H i (fun cs=>nthF cs off (fun _=>setF cs off (opd fr.fr y) fun cs'=>hpSet H i cs' fun H'=>putF o.dst fr uv H' k) (g r fr H k)) (g r fr H k)with⟨cs,hcs,e2⟩|e2
     ·rw[e2,nthF_eq]
      cases hv:cs[off]? with
      |none=>exact hg r fr H k kn hk
      |some v0=>
       simp only[setF_eq,hpSet_eq,putF_eq hk]
       have hlt:off<cs.length:=(List.getElem?_eq_some_iff.1 hv).1
       have hst:storeA e.P H T (.ptr i off) (opd fr.fr y)=some (H.put i (some (.cells (cs.set off (opd fr.fr y))))):=by
        have hstN:stN H 1 (.ptr i off) [opd fr.fr y]=some (H.put i (some (.cells (cs.set off (opd fr.fr y))))):=by
         simp only[stN,getB_of hcs,Option.bind_some]
         rw[if_pos ⟨rfl,by omega,by simp[h1]⟩,set_one hlt]
        simp only[storeA,hz,hc,Option.bind_some]
        exact hstN
       refine(spec_of (v:=uv) (H':=H.put i (some (.cells (cs.set off (opd fr.fr y))))) ?_ ?_).symm
       ·rw[h];simp only[obl,hx,atObl,allB]
       ·rw[h];simp only[evOp0,hx,hst,uA,Option.bind_some]
     ·rw[e2];exact hg r fr H k kn hk
    ·rw[e1];exact hg r fr H k kn hk
theorem cFieldAddr_eq {s:TypeId} {f:Nat} {x:Operand} (h:o.op = .fieldAddr s x f) (hg:Sp g (specO e o)):Sp ((cFieldAddr e.P s f x o.dst g).a) (specO e o):=by
 unfold cFieldAddr
 cases hf:fieldOff e.P s f with
 |none=>exact hg
 |some q=>
  intro r fr H k kn hk
  simp only[cFA,opdK_eq]
  rcases asPtr_cases (opd fr.fr x) (fun i off=>frN (fun off=>putF o.dst fr (.ptr i off) H k) (off+q)) (g r fr H k)with⟨i,off,hx,e1⟩|e1
  ·rw[e1,frN_eq,putF_eq hk]
   refine(spec_of (v:= .ptr i (off+q)) (H':=H) ?_ ?_).symm
   ·rw[h];rfl
   ·rw[h];simp only[evOp0,hx,fieldAddrA,hf,Option.bind_some,addrAdd,vA]
  ·rw[e1];exact hg r fr H k kn hk
theorem asNat_cases {S:Type} (n:Int) (k:Nat→S) (g:S):(∃m:Nat,n=(m:Int)∧asNat n k g=k m)∨asNat n k g=g:=by
 cases n with
 |ofNat m=>exact .inl ⟨m,rfl,rfl⟩
 |negSucc m=>exact .inr rfl
theorem cIndexAddr_eq {T:TypeId} {x y:Operand} (h:o.op = .indexAddr T x y) (hg:Sp g (specO e o)):Sp ((cIndexAddr e.P T x y o.dst g).a) (specO e o):=by
 unfold cIndexAddr
 split
 case h_2=>exact hg
 case h_1 t=>
 split
 case h_3=>exact hg
 case h_1 el hu=>
  cases hz:sz e.P el with
  |none=>exact hg
  |some s=>
   intro r fr H k kn hk
   simp only[cIxSl,opdK_eq]
   rcases asSl_cases (opd fr.fr (.tmp t)) (fun i z off len=>asInt (opd fr.fr y) (fun _ n=>asNat n (fun n=>bif Nat.beq z s&&Nat.blt n len then frN (fun q=>putF o.dst fr (.ptr i q) H k) (off+n*s)else g r fr H k) (g r fr H k)) (g r fr H k)) (g r fr H k)with⟨i,z,off,len,hx,e1⟩|e1
   ·rw[e1]
    rcases asInt_cases (opd fr.fr y) (fun _ n=>asNat n (fun n=>bif Nat.beq z s&&Nat.blt n len then frN (fun q=>putF o.dst fr (.ptr i q) H k) (off+n*s)else g r fr H k) (g r fr H k)) (g r fr H k)with⟨ki,n,hy,e2⟩|e2
    ·rw[e2]
     rcases asNat_cases n (fun n=>bif Nat.beq z s&&Nat.blt n len then frN (fun q=>putF o.dst fr (.ptr i q) H k) (off+n*s)else g r fr H k) (g r fr H k)with⟨m,rfl,e3⟩|e3
     ·rw[e3]
      cases hb:(Nat.beq z s&&Nat.blt m len)with
      |false=>exact hg r fr H k kn hk
      |true=>
       simp only[cond_true,frN_eq,putF_eq hk]
       simp only[Bool.and_eq_true,Nat.blt_eq]at hb
       have hzs:=Nat.eq_of_beq_eq_true hb.1
       refine(spec_of (v:= .ptr i (off+m*s)) (H':=H) ?_ ?_).symm
       ·have hcnd:z=s∧(0:Int)≤(m:Int)∧(m:Int)<(len:Int):=⟨hzs,by omega,by omega⟩
        rw[h];simp only[obl,idxOpObl,hx,hy,idxA,hu,hz,Option.bind_some,elemK,elemAt,if_pos hcnd,idxObl,idxO,allB]
       ·have hcnd:z=s∧(0:Int)≤(m:Int)∧(m:Int)<(len:Int):=⟨hzs,by omega,by omega⟩
        rw[h];simp only[evOp0,idxOp,hx,hy,idxA,hu,hz,Option.bind_some,elemK,elemAt,if_pos hcnd,Int.toNat_natCast,vA]
     ·rw[e3];exact hg r fr H k kn hk
    ·rw[e2];exact hg r fr H k kn hk
   ·rw[e1];exact hg r fr H k kn hk
 case h_2 alen el hu=>
  cases hz:sz e.P el with
  |none=>exact hg
  |some s=>
   intro r fr H k kn hk
   simp only[cIxArr,opdK_eq]
   rcases asPtr_cases (opd fr.fr (.tmp t)) (fun i off=>asInt (opd fr.fr y) (fun _ n=>asNat n (fun n=>bif Nat.blt n alen then frN (fun q=>putF o.dst fr (.ptr i q) H k) (off+n*s)else g r fr H k) (g r fr H k)) (g r fr H k)) (g r fr H k)with⟨i,off,hx,e1⟩|e1
   ·rw[e1]
    rcases asInt_cases (opd fr.fr y) (fun _ n=>asNat n (fun n=>bif Nat.blt n alen then frN (fun q=>putF o.dst fr (.ptr i q) H k) (off+n*s)else g r fr H k) (g r fr H k)) (g r fr H k)with⟨ki,n,hy,e2⟩|e2
    ·rw[e2]
     rcases asNat_cases n (fun n=>bif Nat.blt n alen then frN (fun q=>putF o.dst fr (.ptr i q) H k) (off+n*s)else g r fr H k) (g r fr H k)with⟨m,rfl,e3⟩|e3
     ·rw[e3]
      cases hb:Nat.blt m alen with
      |false=>exact hg r fr H k kn hk
      |true=>
       simp only[cond_true,frN_eq,putF_eq hk]
       simp only[Nat.blt_eq]at hb
       refine(spec_of (v:= .ptr i (off+m*s)) (H':=H) ?_ ?_).symm
       ·have hcnd:(0:Int)≤(m:Int)∧(m:Int)<(alen:Int):=⟨by omega,by omega⟩
        rw[h];simp only[obl,idxOpObl,hx,hy,idxA,hu,hz,Option.bind_some,arrAt,if_pos hcnd,Int.toNat_natCast,addrAdd,idxObl,idxO,allB]
       ·have hcnd:(0:Int)≤(m:Int)∧(m:Int)<(alen:Int):=⟨by omega,by omega⟩
        rw[h];simp only[evOp0,idxOp,hx,hy,idxA,hu,hz,Option.bind_some,arrAt,if_pos hcnd,Int.toNat_natCast,addrAdd,vA]
     ·rw[e3];exact hg r fr H k kn hk
    ·rw[e2];exact hg r fr H k kn hk
   ·rw[e1];exact hg r fr H k kn hk
theorem cField_eq {T:TypeId} {f:Nat} {x:Operand} (h:o.op = .field T x f) (hg:Sp g (specO e o)):Sp ((cField e.P T f x o.dst g).a) (specO e o):=by
 unfold cField
 split
 case h_2=>exact hg
 case h_1 fs hu=>
 cases hfd:fs[f]? with
 |none=>exact hg
 |some fd=>
 simp only[cFieldF]
 cases hz:sz e.P fd.type with
 |none=>exact hg
 |some s=>
  cases ha:aggB e.P fd.type with
  |none=>exact hg
  |some ag=>
   cases ag with
   |false=>
    simp only
    intro r fr H k kn hk
    simp only[cFl1,opdK_eq]
    rcases asAgg_cases (opd fr.fr x) (fun cs=>nthF cs fd.offset (fun v=>putF o.dst fr v H k) (g r fr H k)) (g r fr H k)with⟨cs,hx,e1⟩|e1
    ·rw[e1,nthF_eq]
     cases hv:cs[fd.offset]? with
     |none=>exact hg r fr H k kn hk
     |some v=>
      simp only[putF_eq hk]
      refine(spec_of (v:=v) (H':=H) ?_ ?_).symm
      ·rw[h];rfl
      ·rw[h];simp only[evOp0,hx,fieldA,fieldC,hu,hfd,hz,ha,Option.bind_some,hv,vA]
    ·rw[e1];exact hg r fr H k kn hk
   |true=>
    simp only
    cases hn0:Nat.beq s 0 with
    |true=>exact hg
    |false=>
    have hn1:s≠0:=fun e=>by subst e;cases hn0
    simp only[cond_false]
    intro r fr H k kn hk
    simp only[cFlN,opdK_eq]
    rcases asAgg_cases (opd fr.fr x) (fun cs=>dropF cs fd.offset fun l=>takeF s l (fun vs=>putF o.dst fr (.agg vs) H k) (g r fr H k)) (g r fr H k)with⟨cs,hx,e1⟩|e1
    ·rw[e1,dropF_eq,takeF_eq]
     by_cases hn:s≤(cs.drop fd.offset).length
     ·rw[if_pos hn,putF_eq hk]
      rw[List.length_drop]at hn
      have hle:fd.offset+s≤cs.length:=by omega
      refine(spec_of (v:= .agg ((cs.drop fd.offset).take s)) (H':=H) ?_ ?_).symm
      ·rw[h];rfl
      ·rw[h];simp only[evOp0,hx,fieldA,fieldC,hu,hfd,hz,ha,Option.bind_some,if_pos hle,vA]
     ·rw[if_neg hn];exact hg r fr H k kn hk
    ·rw[e1];exact hg r fr H k kn hk
theorem pureRun_bind {α β:Type} {P:Program} (f:α→Sem β):∀s:Sem α,pureRun P (s.bind f)=(pureRun P s).bind fun a=>pureRun P (f a)
 | .pure a=>rfl
 | .program k=>pureRun_bind f (k P)
 | .load .. =>rfl
 | .store .. =>rfl
 | .new .. =>rfl
 | .shape .. =>rfl
 | .freeze .. =>rfl
 | .frozen .. =>rfl
 | .getObj .. =>rfl
 | .setObj .. =>rfl
 | .choose .. =>rfl
 | .sys .. =>rfl
 | .mark .. =>rfl
 | .halt .. =>rfl
theorem pureRun_under {P:Program} {t:TypeId} {d:TypeDesc} (h:P.underlying t=some d):pureRun P (underlying t)=some d:=by
 unfold underlying
 simp only[bind]
 rw[pureRun_bind]
 have:pureRun P program=some P:=rfl
 rw[this,Option.bind_some,h]
 rfl
theorem cConv_eq {S T:TypeId} {x:Operand} (h:o.op = .convert S T x) (hg:Sp g (specO e o)):Sp ((cConv e.P S T x o.dst g).a) (specO e o):=by
 unfold cConv
 split
 case h_2=>exact hg
 case h_1 ks kd h1 h2=>
  intro r fr H k kn hk
  simp only[cCv,opdK_eq]
  rcases asInt_cases (opd fr.fr x) (fun _ n=>frI (fun z=>putF o.dst fr (.sc (.int kd z)) H k) (wrapF kd n)) (g r fr H k)with⟨ki,n,hx,e1⟩|e1
  ·rw[e1,frI_eq,putF_eq hk,wrapF_eq]
   have hp:pureRun e.P (Go.convert S T (.int ki n))=some (.int kd (kd.wrap n)):=by
    unfold Go.convert
    simp only[bind]
    rw[pureRun_bind,pureRun_under h1,Option.bind_some,pureRun_bind,pureRun_under h2,Option.bind_some]
    rfl
   refine(spec_of (v:= .sc (.int kd (kd.wrap n))) (H':=H) ?_ ?_).symm
   ·rw[h];rfl
   ·rw[h]
    have hb:bytesA e.P S T (.sc (.int ki n))=none:=by simp only[bytesA,h1,h2]
    simp only[evOp0,hx,convOp,hb,convH,convA,orAV,hp,Option.map_some,ofV,Option.bind_some]
  ·rw[e1];exact hg r fr H k kn hk
theorem cExtract_eq {x:Operand} {i:Nat} (h:o.op = .extract x i) (hg:Sp g (specO e o)):Sp (cExtract x i o.dst g) (specO e o):=by
 intro r fr H k kn hk
 simp only[cExtract,opdK_eq]
 rcases asTup_cases (opd fr.fr x) (fun cs=>nthF cs i (fun v=>putF o.dst fr v H k) (g r fr H k)) (g r fr H k)with⟨cs,hx,e1⟩|e1
 ·rw[e1,nthF_eq]
  cases hv:cs[i]? with
  |none=>exact hg r fr H k kn hk
  |some v=>
   simp only[putF_eq hk]
   refine(spec_of (v:=v) (H':=H) ?_ ?_).symm
   ·rw[h];simp only[obl,hx,extractObl,allB]
   ·rw[h];simp only[evOp0,hx,extractA,hv,vA,Option.bind_some]
 ·rw[e1];exact hg r fr H k kn hk
theorem cPick_eq {c a b:Operand} (h:o.op = .pick c a b) (hg:Sp g (specO e o)):Sp (cPick c a b o.dst g) (specO e o):=by
 intro r fr H k kn hk
 simp only[cPick,opdK_eq]
 rcases asBool_cases (opd fr.fr c) (fun t=>Bool.rec (motive:=fun _=>Option R) (putF o.dst fr (opd fr.fr b) H k) (putF o.dst fr (opd fr.fr a) H k) t) (g r fr H k)with⟨t,hx,e1⟩|e1
 ·rw[e1]
  cases t with
  |true=>
   simp only[putF_eq hk]
   refine(spec_of (v:=opd fr.fr a) (H':=H) ?_ ?_).symm
   ·rw[h];rfl
   ·rw[h];simp only[evOp0,hx,pickA,vA,Option.bind_some]
  |false=>
   simp only[putF_eq hk]
   refine(spec_of (v:=opd fr.fr b) (H':=H) ?_ ?_).symm
   ·rw[h];rfl
   ·rw[h];simp only[evOp0,hx,pickA,vA,Option.bind_some]
 ·rw[e1];exact hg r fr H k kn hk
theorem cUn_eq {op:UnOp} {T:TypeId} {x:Operand} (h:o.op = .unOp op T x) (hg:Sp g (specO e o)):Sp ((cUn op x o.dst g).a) (specO e o):=by
 cases op
 case not=>
  intro r fr H k kn hk
  simp only[cUn,cNot,opdK_eq]
  rcases asBool_cases (opd fr.fr x) (fun t=>Bool.rec (motive:=fun _=>Option R) (putF o.dst fr (.sc (.bool true)) H k) (putF o.dst fr (.sc (.bool false)) H k) t) (g r fr H k)with⟨t,hx,e1⟩|e1
  ·rw[e1]
   refine Eq.trans ?_ (spec_of (v:= .sc (.bool (!t))) (H':=H) (by rw[h];rfl) (by rw[h];simp only[evOp0,hx,unA,Op.unary,pureRun,Option.map_some,ofV,vA,Option.bind_some];rfl)).symm
   cases t<;>simp only[putF_eq hk]<;>rfl
  ·rw[e1];exact hg r fr H k kn hk
 all_goals exact hg
theorem cNilCheck_eq {x:Operand} (h:o.op = .nilCheck x) (hg:Sp g (specO e o)):Sp (cNilCheck x o.dst g) (specO e o):=by
 intro r fr H k kn hk
 simp only[cNilCheck,opdK_eq]
 rcases asPtr_cases (opd fr.fr x) (fun _ _=>putF o.dst fr (opd fr.fr x) H k) (g r fr H k)with⟨i,off,hx,e1⟩|e1
 ·rw[e1,putF_eq hk]
  refine(spec_of (v:=opd fr.fr x) (H':=H) ?_ ?_).symm
  ·rw[h];rfl
  ·rw[h];simp only[evOp0,hx,nilCheckA,vA,Option.bind_some]
 ·rw[e1];exact hg r fr H k kn hk
theorem cCall_eq {c:Call} (h:o.op = .call c) (hg:Sp g (specO e o)):Sp ((cCall e c o.dst g).a) (specO e o):=by
 unfold cCall
 split
 case h_2=>exact hg
 case h_1 f hc=>
  cases hp:e.isPure f with
  |true=>exact hg
  |false=>
   cases hz:e.isFrz f with
   |true=>exact hg
   |false=>
    simp only[Bool.or_false,cond_false]
    intro r fr H k kn hk
    simp only[cCallF,argsF_eq,guardAll_eq,specO,r.law]
    have h1:obl e fr.fr H o.op=e.pre f (c.args.toList.map (opd fr.fr)) H:=by
     rw[h];simp only[obl,hc,opd,callVObl,List.nil_append,List.append_nil,callObl,hp,hz,cond_false]
    have h2:evOp0 e r.d fr.fr H o.type o.op=r.d f (c.args.toList.map (opd fr.fr)) H:=by
     rw[h];simp only[evOp0,callOp,hc,opd,callV,List.nil_append,List.append_nil,callA,hp,hz,cond_false]
    simp only[evOp,h1,h2]
    cases allB (e.pre f (c.args.toList.map (opd fr.fr)) H)with
    |false=>rfl
    |true=>
     simp only[cond_true]
     cases r.d f (c.args.toList.map (opd fr.fr)) H with
     |none=>rfl
     |some p=>simp only[Option.bind_some,frA_eq,putF_eq hk]
theorem cop_eq (e:Env) (o:Oper):Sp (cop e o:Bx (KO R)).a (specO e o):=by
 unfold cop
 split
 ·rename_i x h;exact cMove_eq (.inl h)
 ·rename_i x h;exact cMove_eq (.inr h)
 ·rename_i h;exact cBin_eq h (genO_eq e o)
 ·rename_i h;exact cLoad_eq h (genO_eq e o)
 ·rename_i h;exact cStore_eq h (genO_eq e o)
 ·rename_i h;exact cFieldAddr_eq h (genO_eq e o)
 ·rename_i h;exact cIndexAddr_eq h (genO_eq e o)
 ·rename_i h;exact cField_eq h (genO_eq e o)
 ·rename_i h;exact cConv_eq h (genO_eq e o)
 ·rename_i h;exact cExtract_eq h (genO_eq e o)
 ·rename_i h;exact cPick_eq h (genO_eq e o)
 ·rename_i h;exact cUn_eq h (genO_eq e o)
 ·rename_i h;exact cNilCheck_eq h (genO_eq e o)
 ·rename_i h;exact cCall_eq h (genO_eq e o)
 ·exact genO_eq e o
end
end
end
end Go.AM
