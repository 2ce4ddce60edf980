/-
  Quick runs: code made ready, and functions; that they say the same as the evaluator. Closed runs, and runs over data that is not known.
-/
import Derived.Test.YtiojjmlccehpoaaGreatAmY
set_option linter.unusedSimpArgs false
set_option linter.unusedVariables false
namespace Go.AM
noncomputable section
section
variable {R:Type}
theorem ym (u:Bool) (e:Env) (r:Rec) (ops:Array Oper) (k:Fr->Hp->Option R) (o:Oper) (os:List Oper) (fr:Fr) (H:Hp):
 dC u e r ops k (o::os) fr H=dC u e r ops (fun fr H=>dC u e r ops k os fr H) [o] fr H:=by
 simp only[dC]
def stepG (u:Bool) (e:Env) (ops:Array Oper) (o:Oper):KS R:=fun r fr H k=>dC u e r ops k [o] fr H
def CH (u:Bool) (e:Env) (ops:Array Oper) (o:Oper):KO R:=fun r x H k=>dC u e r.d ops (fun fr H=>k (TF.of fr) H) [o] x.fr H
theorem yn (u:Bool) (e:Env) (ops:Array Oper) (o:Oper):Sp (CH u e ops o:KO R) (stepG u e ops o):=by
 intro r x H k kn hk;unfold CH stepG;have:(fun fr H=>k (TF.of fr) H)=kn:=by funext fr H;rw[hk,tG]
 rw[this]
def gdC (u:Bool) (e:Env) (ops:Array Oper) (o:Oper) (s:Nat) (want:Bool):KO R:=fun r fr H k=>
 SY fr s fun x=>asBool x (fun b=>bif (b==want)then(cop e o).a r fr H k else dh o.dst fr uv H k) (CH u e ops o r fr H k)
def copG (u:Bool) (e:Env) (ops:Array Oper) (o:Oper):Bx (KO R):=
 bif !u&&hX ops o.dst then⟨CH u e ops o⟩else
 match o.guard with
 |none=>cop e o
 |some (j,want)=>(match(ops[j]?).bind (·.dst)with
  |none=>⟨CH u e ops o⟩
  |some s=>⟨gdC u e ops o s want⟩)
theorem yp (x:AV) (k:AV->Option R):uB false x k=k x:=rfl
theorem step_none {u:Bool} {e:Env} {ops:Array Oper} {o:Oper} (hg:o.guard=none) (hb:(!u&&hX ops o.dst)=false):(cW e o:KS R)=stepG u e ops o:=by
 funext r fr H k
 simp only[stepG,dC,hg,hb,yp,q7,fM,cW]
theorem PX (u:Bool) (e:Env) (ops:Array Oper) (o:Oper):Sp (copG u e ops o:Bx (KO R)).a (stepG u e ops o):=by
 unfold copG;cases hb:(!u&&hX ops o.dst)with
 |true=>exact yn u e ops o
 |false=>
  simp only[aJ];cases hg:o.guard with
  |none=>simp only;rw[<- step_none hg hb];exact WL e o
  |some p=>
   obtain⟨j,want⟩:=p;simp only;cases hs:(ops[j]?).bind (fun x:Oper=>x.dst)with
   |none=>exact yn u e ops o
   |some s=>
    intro r fr H k kn hk;simp only[gdC,EA];rcases ll (fr.fr.getD s .undef) (fun b=>bif (b==want)then(cop e o).a r fr H k else dh o.dst fr uv H k) (CH u e ops o r fr H k)with⟨b,hx,e1⟩|e1
    ·rw[e1,WL e o r fr H k kn hk,c8 hk];have hs':(ops[j]?).bind (fun x:Oper=>x.dst)=some s:=hs
     simp only[stepG,dC,hg,hs',hx,l9,hb,yp,q7,fM,cW];cases b with
     |true=>
      rw[pw hx];cases want<;>rfl
     |false=>
      rw[pw hx];cases want<;>rfl
    ·rw[e1];exact yn u e ops o r fr H k kn hk
def seqO (A B:Bx (KO R)):KO R:=fun r fr H k=>A.a r fr H fun fr H=>B.a r fr H k
def endO:KO R:=fun _ fr H k=>k fr H
def opsC (u:Bool) (e:Env) (ops:Array Oper):List Oper->Bx (KO R)
 | []=>⟨endO⟩
 |o::os=>⟨seqO (copG u e ops o) (opsC u e ops os)⟩
theorem ED (u:Bool) (e:Env) (ops:Array Oper):∀(os:List Oper),Sp (opsC u e ops os:Bx (KO R)).a (fun r fr H k=>dC u e r ops k os fr H)
 | []=>fun _ _ _ _ _ hk=>hk _ _
 |o::os=>by
  intro r fr H k kn hk
  show _=dC u e r.d ops kn (o::os) fr.fr H
  rw[ym];exact PX u e ops o r fr H _ (fun fr H=>dC u e r.d ops kn os fr H) fun y H'=>ED u e ops os r y H' k kn hk
def PY (e:Env) (pr:List (List Nat)) (ops:Array Oper) (i j:Nat):Bool:=
 !((pr.getD j []).elem i)&&(match ops[i]?,ops[j]? with
  |some x,some y=>(gQ x.op&&Nat.beq (cls e y.op) 3)||(Nat.beq (cls e x.op) 3&&gQ y.op)||(Nat.beq (cls e x.op) 2&&qV y.op)
  |_,_=>false)
def va (e:Env) (ops:Array Oper):List (Nat×Nat):=
 (List.range ops.size).flatMap fun j=>((List.range j).filter fun i=>PY e (i9 ops) ops i j).map fun i=>(i,j)
def kH (e:Env) (ops:Array Oper) (S:List (Fr×Hp)):Bool:=(va e ops).all fun p=>jc e (i9 ops) ops S p.1 p.2
theorem EE (e:Env) (pr:List (List Nat)) (ops:Array Oper) (S:List (Fr×Hp)) (i j:Nat) (h:PY e pr ops i j=false):jc e pr ops S i j=true:=by
 unfold PY at h;unfold jc;cases hp:(pr.getD j []).elem i with
 |true=>rfl
 |false=>
  simp only[hp,df,l6]at h;simp only[lP];split
  ·rename_i x y hx hy;rw[hx,hy]at h;simp only[Bool.or_eq_false_iff]at h;rw[h.1.1,h.1.2,h.2]
   rfl
  ·rfl
theorem Il (e:Env) (ops:Array Oper) (S:List (Fr×Hp)):jd e ops S=kH e ops S:=by
 rw[fx];simp only[jd,kH,va,bX,nW,iv,List.mem_filter,iX];constructor
 ·rintro h p ⟨j,hj,i,⟨hi,_⟩,rfl⟩;exact h j hj i hi
 ·intro h j hj i hi;cases hn:PY e (i9 ops) ops i j with
  |true=>exact h (i,j) ⟨j,hj,i,⟨hi,hn⟩,rfl⟩
  |false=>exact EE e _ ops S i j hn
def st2 (p:TF×Hp):Fr×Hp:=(p.1.fr,p.2)
abbrev KT (R:Type):=RQ->List (TF×Hp)->TF->Hp->(List (TF×Hp)->TF->Hp->Option R)->Option R
def seqT (A:Bx (KO R)) (B:Bx (KT R)):KT R:=fun r log fr H k=>A.a r fr H fun fr' H'=>B.a r ((fr,H)::log) fr' H' k
def endT:KT R:=fun _ log fr H k=>k log fr H
def opsT (e:Env) (ops:Array Oper):List Oper->Bx (KT R)
 | []=>⟨endT⟩
 |o::os=>⟨seqT (copG false e ops o) (opsT e ops os)⟩
theorem PZ (e:Env) (ops:Array Oper):∀(os:List Oper) (r:RQ) (log:List (TF×Hp)) (fr:TF) (H:Hp) (k:List (TF×Hp)->TF->Hp->Option R) (kn:List (Fr×Hp)->Fr->Hp->Option R),(∀l y H',k l y H'=kn (l.map st2) y.fr H')->
 (opsT e ops os).a r log fr H k=f9 e r.d ops kn os (log.map st2) fr.fr H
 | [],_,_,_,_,_,_,hk=>hk _ _ _
 |o::os,r,log,fr,H,k,kn,hk=>by
  simp only[opsT,seqT,f9];exact PX false e ops o r fr H _ _ fun y H'=>PZ e ops os r ((fr,H)::log) y H' k kn hk
theorem pM (e:Env) (r:Rec) (ops:Array Oper) (k:Fr->Hp->Option R):∀(os:List Oper) (log:List (Fr×Hp)) (fr:Fr) (H:Hp),f9 e r ops (fun _ fr H=>k fr H) os log fr H=dC false e r ops k os fr H
 | [],_,_,_=>rfl
 |o::os,log,fr,H=>by
  rw[ym];simp only[f9,pM e r ops k os]
def failO:KO R:=fun _ _ _ _=>none
def WM (env:Env) (x:Op) (fr:Fr) (H H':Hp) (i:Nat):Option (List Bool):=
 bif Nat.ble (cls env x) 1 then some []else bif Nat.blt i H.n then(bif (Nat.beq (cls env x) 2||(match chg env fr H x with|some ts=> !(ts.elem i)|none=>false))then some []else Ea (H.get i) (H'.get i))else none
theorem S7 (env:Env) (x:Op) (fr:Fr) (H H':Hp) (i:Nat):lV (WM env x fr H H' i)=Hb env x fr H H' i:=by
 unfold WM Hb;cases Nat.ble (cls env x) 1 with
 |true=>rfl
 |false=>
  cases Nat.blt i H.n with
  |false=>rfl
  |true=>
   cases (Nat.beq (cls env x) 2||(match chg env fr H x with|some ts=> !(ts.elem i)|none=>false))with
   |true=>rfl
   |false=>rfl
def MB (env:Env) (ops:Array Oper) (S:List (Fr×Hp)) (i a b:Nat):Option (List Bool):=
 Vp (fun d=>match ops[a+d]?,S[a+d]?,S[a+d+1]? with
  |some o,some p,some q=>WM env o.op p.1 p.2 q.2 i
  |_,_,_=>none) (List.range (b-a))
theorem MC (env:Env) (ops:Array Oper) (S:List (Fr×Hp)) (i a b:Nat):lV (MB env ops S i a b)=uU env ops S i a b:=by
 unfold MB uU;rw[xy]
 congr 1
 funext d
 cases ops[a+d]? with
 |none=>rfl
 |some o=>
  cases S[a+d]? with
  |none=>rfl
  |some p=>
   cases S[a+d+1]? with
   |none=>rfl
   |some q=>exact S7 ..
def vb (env:Env) (ops:Array Oper) (S:List (Fr×Hp)) (l a b:Nat):Op->Option (List Bool)
 | .load T (.tmp s)=>(match(S[l]?).map (fun(p:Fr×Hp)=>p.1.getD s .undef)with
   |some (.ptr i _)=>MB env ops S i a b
   |_=>ofB (jL env ops S l a b (.load T (.tmp s))))
 |o=>ofB (jL env ops S l a b o)
theorem tJ (env:Env) (ops:Array Oper) (S:List (Fr×Hp)) (l a b:Nat) (o:Op):lV (vb env ops S l a b o)=jL env ops S l a b o:=by
 unfold vb;split
 ·split
  ·rename_i h;rw[MC];simp only[jL,h]
  ·exact pA _
 ·exact pA _
def yq (env:Env) (pr:List (List Nat)) (ops:Array Oper) (S:List (Fr×Hp)) (i j:Nat):Option (List Bool):=
 bif (pr.getD j []).elem i then some []else(match ops[i]?,ops[j]? with
  |some x,some y=>
   bif gQ x.op&&Nat.beq (cls env y.op) 3 then vb env ops S i i (j+1) x.op
   else bif Nat.beq (cls env x.op) 3&&gQ y.op then vb env ops S j i j y.op
   else bif Nat.beq (cls env x.op) 2&&qV y.op then ofB (wP S i j y.op)else some []
  |_,_=>some [])
theorem EF (env:Env) (pr:List (List Nat)) (ops:Array Oper) (S:List (Fr×Hp)) (i j:Nat):lV (yq env pr ops S i j)=jc env pr ops S i j:=by
 unfold yq jc;cases (pr.getD j []).elem i with
 |true=>rfl
 |false=>
  simp only[aJ,lP];cases ops[i]? with
  |none=>rfl
  |some x=>
   cases ops[j]? with
   |none=>rfl
   |some y=>
    simp only;cases gQ x.op&&Nat.beq (cls env y.op) 3 with
    |true=>exact tJ ..
    |false=>
     cases Nat.beq (cls env x.op) 3&&gQ y.op with
     |true=>exact tJ ..
     |false=>
      cases Nat.beq (cls env x.op) 2&&qV y.op with
      |true=>exact pA _
      |false=>rfl
def yr (e:Env) (ops:Array Oper) (l:List (Nat×Nat)) (S:List (Fr×Hp)):Bool:=lV (Vp (fun p=>yq e (i9 ops) ops S p.1 p.2) l)
theorem Im (e:Env) (ops:Array Oper) (l:List (Nat×Nat)) (S:List (Fr×Hp)):yr e ops l S=l.all fun p=>jc e (i9 ops) ops S p.1 p.2:=by
 unfold yr;rw[xy]
 congr 1
 funext p
 exact EF ..
def dynC (e:Env) (ops:Array Oper) (l:List (Nat×Nat)) (A:Bx (KT R)):KO R:=fun r fr H k=>
 A.a r [] fr H fun log fr H=>bif yr e ops l ((log.map st2).reverse ++ [(fr.fr,H)])then k fr H else none
def P0 (e:Env) (ops:Array Oper):Bx (KO R):=
 match va e ops with
 | []=>opsC false e ops ops.toList
 |p::ps=>⟨dynC e ops (p::ps) (opsT e ops ops.toList)⟩
def clrO (s:Nat) (A:Bx (KO R)):KO R:=fun r fr H k=>My fr s .undef fun fr=>A.a r fr H k
def clrB (e:Env) (ops:Array Oper) (A:Bx (KO R)):Bx (KO R):=
 match nG e ops with
 |some s=>⟨clrO s A⟩
 |none=>A
theorem clrB_eq (e:Env) (ops:Array Oper) (A:Bx (KO R)) (r:RQ) (fr:TF) (H:Hp) (k:TF->Hp->Option R):∃y:TF,(clrB e ops A).a r fr H k=A.a r y H k∧y.fr=D9 e ops fr.fr:=by
 unfold clrB D9;cases nG e ops with
 |none=>exact⟨fr,rfl,rfl⟩
 |some s=>exact⟨fr.set s .undef,by show clrO s A r fr H k=A.a r (fr.set s .undef) H k;unfold clrO;exact u7 fr s .undef (fun fr=>A.a r fr H k),Mx _ _ _⟩
def regC (e:Env) (ops:Array Oper) (draw:Bool):Bx (KO R):=
 bif draw then(bif fo e (b9 e ops)&&tf e ops then clrB e ops (P0 e (b9 e ops))else⟨failO⟩)else opsC true e ops ops.toList
theorem regC_eq (e:Env) (ops:Array Oper) (draw:Bool) (id:Nat) (F:Nat) (r:RQ) (fr:TF) (H:Hp) (k:TF->Hp->Option R) (kn:Fr->Hp->Option R) (kx:Nat->Fr->Hp->Option R) (kr:Fr->Hp->Option R) (kg:Nat->Fr->Hp->Option R) (hk:∀y H',k y H'=kn y.fr H'):
 (regC e ops draw).a r fr H k=ev e r.d F none (.region id ops draw) fr.fr H kn kx kr kg:=by
 simp only[regC,ev];cases draw with
 |false=>exact ED true e ops _ r fr H k kn hk
 |true=>
  simp only[ap];cases fo e (b9 e ops)&&tf e ops with
  |false=>rfl
  |true=>
   simp only[ap,Il];obtain⟨y,hy,hyf⟩:=clrB_eq e ops (P0 e (b9 e ops)) r fr H k;rw[hy, <- hyf];generalize b9 e ops=ops;clear hy hyf;revert y;intro fr;cases hn:va e ops with
   |nil=>
    simp only[P0,hn];have:(fun(log:List (Fr×Hp)) (fr:Fr) (H:Hp)=>bif kH e ops (log.reverse ++ [(fr,H)])then kn fr H else none)=fun _ fr H=>kn fr H:=by
     funext log fr H
     simp only[kH,hn,List.all_nil,ap]
    rw[this,pM];exact ED false e ops _ r fr H k kn hk
   |cons p ps=>
    simp only[P0,hn,dynC];refine(PZ e ops _ r [] fr H _ (fun log fr H=>bif kH e ops (log.reverse ++ [(fr,H)])then kn fr H else none) ?_)
    intro l y H';simp only[Im,kH,hn,hk]
abbrev KQ (R:Type):=Rec->TF->Hp->(TF->List Bool->Option R)->Option R->Option R
def SpQ (A:KQ R) (E:Rec->Fr->Hp->Option (Fr×List Bool)):Prop:=
 ∀r (x:TF) H (k:TF->List Bool->Option R) (kn:Fr->List Bool->Option R) (g:Option R),(∀y l,k y l=kn y.fr l)->A r x H k g=(match E r x.fr H with|some q=>kn q.1 q.2|none=>g)
def S8 {S:Type} (x:AV):(Bool->S)->S->S:=
 match x with
 | .ub b=>fun f _=>f b
 |_=>dfl
theorem nM {S:Type} (x:AV) (f:Bool->S) (g:S):(∃b,x = .sc (.bool b)∧asBool x f g=f b)∨(asBool x f g=g∧∀b,x≠ .sc (.bool b)):=by
 cases x<;>try exact .inr ⟨rfl,fun _ h=>by cases h⟩
 rename_i v;cases v<;>first|exact .inr ⟨rfl,fun _ h=>by cases h⟩|exact .inl ⟨_,rfl,rfl⟩
theorem yt {S:Type} (x:AV) (f:Bool->S) (g:S):(∃b,x = .ub b∧S8 x f g=f b)∨(S8 x f g=g∧∀b,x≠ .ub b):=by
 cases x<;>first|exact .inl ⟨_,rfl,rfl⟩|exact .inr ⟨rfl,fun _ h=>by cases h⟩
def putQ {S:Type} (d:Option Tmp) (x:TF) (v:AV) (k:TF->S):S:=match d with|some t=>My x t v k|none=>k x
theorem putQ_eq {S:Type} (d:Option Tmp) (x:TF) (v:AV) (k:TF->S) (kn:Fr->S) (hk:∀y,k y=kn y.fr):putQ d x v k=kn (dH x.fr d v):=by
 cases d with
 |none=>exact hk _
 |some t=>simp only[putQ,u7,hk,Mx,dH]
def qOp (e:Env) (o:Oper) (K:KQ R):KQ R:=fun r x H k g=>
 optK (bT e r x.fr H o.type o.op) g fun p=>frA 3 p.1 fun v=>putQ o.dst x v fun y=>K r y H (fun z l=>k z (obl e x.fr H o.op++l)) g
where optK (p:Option (AV×Hp)) (g:Option R):(AV×Hp->Option R)->Option R:=match p with|some p=>fun f=>f p|none=>fun _=>g
def qFail:KQ R:=fun _ _ _ _ g=>g
def qEnd:KQ R:=fun _ x _ k _=>k x []
def qGen (E:Rec->Fr->Hp->Option (Fr×List Bool)):KQ R:=fun r x H k g=>match E r x.fr H with|some q=>k (TF.of q.1) q.2|none=>g
theorem qGen_eq (E:Rec->Fr->Hp->Option (Fr×List Bool)):SpQ (qGen E:KQ R) E:=by
 intro r x H k kn g hk;unfold qGen;cases E r x.fr H with
 |none=>rfl
 |some q=>simp only[hk,tG]
theorem qOp_eq {e:Env} {o:Oper} {K:KQ R} {E:Rec->Fr->Hp->Option (Fr×List Bool)} (hK:SpQ K E):
 SpQ (qOp e o K) (fun r fr H=>(bT e r fr H o.type o.op).bind fun p=>(E r (dH fr o.dst p.1) H).bind fun q=>some (q.1,obl e fr H o.op++q.2)):=by
 intro r x H k kn g hk;simp only[qOp];cases hp:bT e r x.fr H o.type o.op with
 |none=>rfl
 |some p=>
  simp only[qOp.optK,q8,bo];rw[putQ_eq o.dst x p.1 _ (fun fr=>match E r fr H with|some q=>kn q.1 (obl e x.fr H o.op++q.2)|none=>g) (fun y=>hK r y H _ (fun fr l=>kn fr (obl e x.fr H o.op++l)) g (fun z l=>hk z _))]
  cases E r (dH x.fr o.dst p.1) H<;>rfl
def mQ (e:Env) (ops:Array Oper):Nat->List Oper->Bx (KQ R)
 |0,_=>⟨qFail⟩
 |_+1,[]=>⟨qEnd⟩
 |n+1,o::os=>match o.guard with
  |none=>⟨qOp e o (mQ e ops n os).a⟩
  |some _=>⟨qGen fun r fr H=>gR e r ops H (n+1) (o::os) fr⟩
theorem mQ_eq (e:Env) (ops:Array Oper):∀(n:Nat) (os:List Oper),SpQ (mQ e ops n os:Bx (KQ R)).a (fun r fr H=>gR e r ops H n os fr)
 |0,_=>fun _ _ _ _ _ _ _=>rfl
 |_+1,[]=>fun _ _ _ _ _ _ hk=>hk _ _
 |n+1,o::os=>by
  unfold mQ;cases hg:o.guard with
  |none=>
   simp only;have hK:SpQ (mQ e ops n os:Bx (KQ R)).a (fun r fr H=>gR e r ops H n os fr):=mQ_eq e ops n os
   have:=qOp_eq (e:=e) (o:=o) hK;simp only[gR,hg];exact this
  |some p=>exact qGen_eq (fun r fr H=>gR e r ops H (n+1) (o::os) fr)
def yu (t:Bool) (y z:TF):List Nat->TF->TF
 | [],w=>w
 |d::ds,w=>yu t y z ds (w.set d (Eb t (y.fr.getD d .undef) (z.fr.getD d .undef)))
def mrgD {S:Type} (t:Bool) (y z:TF):List Nat->TF->(TF->S)->S
 | [],w,k=>k w
 |d::ds,w,k=>SY y d fun a=>SY z d fun b=>frA 3 (Eb t a b) fun v=>My w d v fun w=>mrgD t y z ds w k
theorem P9 {S:Type} (t:Bool) (y z:TF):∀(ds:List Nat) (w:TF) (k:TF->S),mrgD t y z ds w k=k (yu t y z ds w)
 | [],_,_=>rfl
 |d::ds,w,k=>by simp only[mrgD,EA,q8,u7,P9 t y z ds,yu]
theorem CI (t:Bool) (y z:TF):∀(ds:List Nat) (w:TF) (j:Nat),(yu t y z ds w).n=w.n∧(yu t y z ds w).get j=if j∈ds then Eb t (y.fr.getD j .undef) (z.fr.getD j .undef)else w.get j
 | [],w,j=>by simp[yu]
 |d::ds,w,j=>by
  obtain⟨h1,h2⟩:=CI t y z ds (w.set d (Eb t (y.fr.getD d .undef) (z.fr.getD d .undef))) j;refine⟨h1,?_⟩
  simp only[yu,h2,TF.get_set,cU];by_cases hj:j∈ds
  ·simp[hj]
  ·by_cases hd:j=d
   ·subst hd;simp
   ·simp[hj,hd]
theorem Qa (ds:List Nat) (b:Bool):∀(ps xs ys:List AV) (i j:Nat),xs.length=ps.length->ys.length=ps.length->
 (jM ds b i ps xs ys)[j]? = if j<ps.length then some (if i+j∈ds then Eb b (xs.getD j .undef) (ys.getD j .undef)else ps.getD j .undef)else none
 | [],xs,ys,i,j,_,_=>by simp[jM]
 |p::ps,[],ys,i,j,h,_=>by simp at h
 |p::ps,x::xs,[],i,j,_,h=>by simp at h
 |p::ps,x::xs,y::ys,i,0,_,_=>by
  simp only[jM,wi,ce,Nat.zero_lt_succ,be,lQ,aU];by_cases h:i∈ds
  ·simp[h]
  ·simp[h]
 |p::ps,x::xs,y::ys,i,j+1,h1,h2=>by
  simp only[ce,Nat.add_right_cancel_iff]at h1 h2;simp only[jM,sV,Qa ds b ps xs ys (i+1) j h1 h2,ce,Nat.add_lt_add_iff_right,bI];rw[show i+1+j=i+(j+1)by omega]
theorem yw (x:TF):x.fr.length=x.n:=by
 have:∀m i,(rG x m i).length=m:=by
  intro m
  induction m with
  |zero=>intro i;rfl
  |succ m ih=>intro i;simp only[jq,ce,ih]
 exact this _ _
def WN {S:Type} (ds:List Nat) (t:Bool) (p y z:TF) (k:TF->S):S:=
 bif Nat.beq y.n p.n&&Nat.beq z.n p.n then mrgD t y z ds p k else k (TF.of (jM ds t 0 p.fr y.fr z.fr))
theorem mrgF_eq {S:Type} (ds:List Nat) (t:Bool) (p y z:TF) (k:TF->S) (kn:Fr->S) (hk:∀w,k w=kn w.fr):WN ds t p y z k=kn (jM ds t 0 p.fr y.fr z.fr):=by
 unfold WN;cases hb:(Nat.beq y.n p.n&&Nat.beq z.n p.n)with
 |false=>simp only[aJ,hk,tG]
 |true=>
  simp only[bu]at hb;have h1:=aV hb.1;have h2:=aV hb.2;simp only[ap,P9,hk]
  congr 1
  apply gw;intro j;rw[rH,Qa _ _ _ _ _ _ _ (by rw[yw,yw,h1]) (by rw[yw,yw,h2]),yw,dZ]
  obtain⟨e1,e2⟩:=CI t y z ds p j;rw[e1,e2];by_cases hj:j<p.n
  ·rw[if_pos hj,if_pos hj]
   congr 2
   rw[oS,rH,if_pos hj];rfl
  ·rw[if_neg hj,if_neg hj]
def seqQ (A B:Bx (KQ R)):KQ R:=fun r x H k g=>A.a r x H (fun y l=>B.a r y H (fun z l'=>k z (l++l')) g) g
def condQ (c:Operand) (ds:List Nat) (A B:Bx (KQ R)):KQ R:=fun r x H k g=>
 gU c x fun v=>asBool v (fun t=>Bool.rec (motive:=fun _=>Option R) (B.a r x H k g) (A.a r x H k g) t)
  (S8 v (fun t=>A.a r x H (fun y l=>B.a r x H (fun z l'=>WN ds t x y z fun w=>k w (wQ t l l')) g) g) g)
def jr (e:Env):Code->Bx (KQ R)
 | .skip=>⟨qEnd⟩
 | .region _ ops _=>mQ e ops 400 ops.toList
 | .seq a b=>⟨seqQ (jr e a) (jr e b)⟩
 | .cond c a b=>⟨condQ c (eA a++eA b) (jr e a) (jr e b)⟩
 |_=>⟨qFail⟩
theorem WO (e:Env):∀c:Code,SpQ (jr e c:Bx (KQ R)).a (fun r fr H=>evQ e r 400 H c fr):=by
 intro c
 induction c with
 |skip=>intro r x H k kn g hk;exact hk _ _
 |region id ops draw=>exact mQ_eq e ops 400 ops.toList
 |seq a b iha ihb=>
  intro r x H k kn g hk;simp only[jr,seqQ,evQ];have h1:=iha r x H _ (fun fr l=>match evQ e r 400 H b fr with|some q=>kn q.1 (l++q.2)|none=>g) g (fun y l=>ihb r y H _ (fun fr l'=>kn fr (l++l')) g (fun z l'=>hk z _))
  simp only at h1;rw[h1];cases ha:evQ e r 400 H a x.fr with
  |none=>rfl
  |some q=>
   simp only[bo];cases hb:evQ e r 400 H b q.1<;>rfl
 |cond c a b iha ihb=>
  intro r x H k kn g hk;simp only[jr,condQ,dp,evQ];rcases nM (opd x.fr c) (fun t=>Bool.rec (motive:=fun _=>Option R) ((jr e b).a r x H k g) ((jr e a).a r x H k g) t) (S8 (opd x.fr c) (fun t=>(jr e a).a r x H (fun y l=>(jr e b).a r x H (fun z l'=>WN (eA a++eA b) t x y z fun w=>k w (wQ t l l')) g) g) g)with⟨t,hx,e1⟩|⟨e1,hnb⟩
  ·rw[e1,hx];cases t with
   |true=>exact iha r x H k kn g hk
   |false=>exact ihb r x H k kn g hk
  ·rw[e1];rcases yt (opd x.fr c) (fun t=>(jr e a).a r x H (fun y l=>(jr e b).a r x H (fun z l'=>WN (eA a++eA b) t x y z fun w=>k w (wQ t l l')) g) g) g with⟨t,hx,e2⟩|⟨e2,hne⟩
   ·rw[e2,hx]
    have h1:=iha r x H _ (fun fr l=>match evQ e r 400 H b x.fr with|some q=>kn (jM (eA a++eA b) t 0 x.fr fr q.1) (wQ t l q.2)|none=>g) g
     (fun y l=>ihb r x H _ (fun fr l'=>kn (jM (eA a++eA b) t 0 x.fr y.fr fr) (wQ t l l')) g (fun z l'=>mrgF_eq (eA a++eA b) t x y z (fun w=>k w (wQ t l l')) (fun fr=>kn fr (wQ t l l')) (fun w=>hk w _)))
    simp only at h1;rw[h1];simp only;cases ha:evQ e r 400 H a x.fr with
    |none=>rfl
    |some q=>
     simp only[bo];cases hb:evQ e r 400 H b x.fr<;>rfl
   ·rw[e2];split
    ·rename_i q hq;split at hq
     ·rename_i b hb;exact(hnb _ hb).elim
     ·rename_i b hb;exact(hne _ hb).elim
     ·cases hq
    ·rfl
 |_=>intros;intro r x H k kn g hk;rfl
end
end
end Go.AM
