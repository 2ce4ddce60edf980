/-
  Quick runs: code made ready, and functions; that they say the same as the evaluator. Closed runs, and runs over data that is not known.
-/
import Derived.Test.YtfdedgmlafelaaaGreatDoorAmY
set_option linter.unusedSimpArgs false
set_option linter.unusedVariables false
namespace Go.AM
noncomputable section
section
variable {R:Type}
theorem uB (u:Bool) (e:Env) (r:Rec) (ops:Array Oper) (k:Fr->Hp->Option R) (o:Oper) (os:List Oper) (fr:Fr) (H:Hp):
 cl u e r ops k (o::os) fr H=cl u e r ops (fun fr H=>cl u e r ops k os fr H) [o] fr H:=by
 simp only[cl]
def stepG (u:Bool) (e:Env) (ops:Array Oper) (o:Oper):KS R:=fun r fr H k=>cl u e r ops k [o] fr H
def yQ (u:Bool) (e:Env) (ops:Array Oper) (o:Oper):KO R:=fun r x H k=>cl u e r.d ops (fun fr H=>k (TF.of fr) H) [o] x.fr H
theorem uC (u:Bool) (e:Env) (ops:Array Oper) (o:Oper):Sp (yQ u e ops o:KO R) (stepG u e ops o):=by
 intro r x H k kn hk;unfold yQ stepG;have:(fun fr H=>k (TF.of fr) H)=kn:=by funext fr H;rw[hk,qm]
 rw[this]
def gdC (u:Bool) (e:Env) (ops:Array Oper) (o:Oper) (s:Nat) (want:Bool):KO R:=fun r fr H k=>
 NR fr s fun x=>asBool x (fun b=>bif (b==want)then(cop e o).a r fr H k else cD o.dst fr uv H k) (yQ u e ops o r fr H k)
def copG (u:Bool) (e:Env) (ops:Array Oper) (o:Oper):Bx (KO R):=
 bif !u&&eV ops o.dst then⟨yQ u e ops o⟩else
 match o.guard with
 |none=>cop e o
 |some (j,want)=>(match(ops[j]?).bind (·.dst)with
  |none=>⟨yQ u e ops o⟩
  |some s=>⟨gdC u e ops o s want⟩)
theorem uD (x:AV) (k:AV->Option R):oC false x k=k x:=rfl
theorem step_none {u:Bool} {e:Env} {ops:Array Oper} {o:Oper} (hg:o.guard=none) (hb:(!u&&eV ops o.dst)=false):(cq e o:KS R)=stepG u e ops o:=by
 funext r fr H k
 simp only[stepG,cl,hg,hb,uD,mf,dP,cq]
theorem Lr (u:Bool) (e:Env) (ops:Array Oper) (o:Oper):Sp (copG u e ops o:Bx (KO R)).a (stepG u e ops o):=by
 unfold copG;cases hb:(!u&&eV ops o.dst)with
 |true=>exact uC u e ops o
 |false=>
  simp only[cond_false];cases hg:o.guard with
  |none=>simp only;rw[<- step_none hg hb];exact Q8 e o
  |some p=>
   obtain⟨j,want⟩:=p;simp only;cases hs:(ops[j]?).bind (fun x:Oper=>x.dst)with
   |none=>exact uC u e ops o
   |some s=>
    intro r fr H k kn hk;simp only[gdC,A1];rcases jq (fr.fr.getD s .undef) (fun b=>bif (b==want)then(cop e o).a r fr H k else cD o.dst fr uv H k) (yQ u e ops o r fr H k)with⟨b,hx,e1⟩|e1
    ·rw[e1,Q8 e o r fr H k kn hk,cu hk];have hs':(ops[j]?).bind (fun x:Oper=>x.dst)=some s:=hs
     simp only[stepG,cl,hg,hs',hx,jg,hb,uD,mf,dP,cq];cases b with
     |true=>
      rw[no hx];cases want<;>rfl
     |false=>
      rw[no hx];cases want<;>rfl
    ·rw[e1];exact uC u e ops o r fr H k kn hk
def seqO (A B:Bx (KO R)):KO R:=fun r fr H k=>A.a r fr H fun fr H=>B.a r fr H k
def endO:KO R:=fun _ fr H k=>k fr H
def opsC (u:Bool) (e:Env) (ops:Array Oper):List Oper->Bx (KO R)
 | []=>⟨endO⟩
 |o::os=>⟨seqO (copG u e ops o) (opsC u e ops os)⟩
theorem A4 (u:Bool) (e:Env) (ops:Array Oper):∀(os:List Oper),Sp (opsC u e ops os:Bx (KO R)).a (fun r fr H k=>cl u e r ops k os fr H)
 | []=>fun _ _ _ _ _ hk=>hk _ _
 |o::os=>by
  intro r fr H k kn hk
  show _=cl u e r.d ops kn (o::os) fr.fr H
  rw[uB];exact Lr u e ops o r fr H _ (fun fr H=>cl u e r.d ops kn os fr H) fun y H'=>A4 u e ops os r y H' k kn hk
def Ls (e:Env) (pr:List (List Nat)) (ops:Array Oper) (i j:Nat):Bool:=
 !((pr.getD j []).elem i)&&(match ops[i]?,ops[j]? with
  |some x,some y=>(fG x.op&&Nat.beq (cls e y.op) 3)||(Nat.beq (cls e x.op) 3&&fG y.op)||(Nat.beq (cls e x.op) 2&&isSt y.op)
  |_,_=>false)
def rg (e:Env) (ops:Array Oper):List (Nat×Nat):=
 (List.range ops.size).flatMap fun j=>((List.range j).filter fun i=>Ls e (gC ops) ops i j).map fun i=>(i,j)
def iQ (e:Env) (ops:Array Oper) (S:List (Fr×Hp)):Bool:=(rg e ops).all fun p=>gF e (gC ops) ops S p.1 p.2
theorem A5 (e:Env) (pr:List (List Nat)) (ops:Array Oper) (S:List (Fr×Hp)) (i j:Nat) (h:Ls e pr ops i j=false):gF e pr ops S i j=true:=by
 unfold Ls at h;unfold gF;cases hp:(pr.getD j []).elem i with
 |true=>rfl
 |false=>
  simp only[hp,Bool.not_false,Bool.true_and]at h;simp only[Bool.false_or];split
  ·rename_i x y hx hy;rw[hx,hy]at h;simp only[Bool.or_eq_false_iff]at h;rw[h.1.1,h.1.2,h.2]
   rfl
  ·rfl
theorem EZ (e:Env) (ops:Array Oper) (S:List (Fr×Hp)):gG e ops S=iQ e ops S:=by
 rw[Bool.eq_iff_iff];simp only[gG,iQ,rg,List.all_eq_true,List.mem_flatMap,List.mem_map,List.mem_filter,List.mem_range];constructor
 ·rintro h p ⟨j,hj,i,⟨hi,_⟩,rfl⟩;exact h j hj i hi
 ·intro h j hj i hi;cases hn:Ls e (gC ops) ops i j with
  |true=>exact h (i,j) ⟨j,hj,i,⟨hi,hn⟩,rfl⟩
  |false=>exact A5 e _ ops S i j hn
def st2 (p:TF×Hp):Fr×Hp:=(p.1.fr,p.2)
abbrev KT (R:Type):=RQ->List (TF×Hp)->TF->Hp->(List (TF×Hp)->TF->Hp->Option R)->Option R
def seqT (A:Bx (KO R)) (B:Bx (KT R)):KT R:=fun r log fr H k=>A.a r fr H fun fr' H'=>B.a r ((fr,H)::log) fr' H' k
def endT:KT R:=fun _ log fr H k=>k log fr H
def opsT (e:Env) (ops:Array Oper):List Oper->Bx (KT R)
 | []=>⟨endT⟩
 |o::os=>⟨seqT (copG false e ops o) (opsT e ops os)⟩
theorem Lt (e:Env) (ops:Array Oper):∀(os:List Oper) (r:RQ) (log:List (TF×Hp)) (fr:TF) (H:Hp) (k:List (TF×Hp)->TF->Hp->Option R) (kn:List (Fr×Hp)->Fr->Hp->Option R),(∀l y H',k l y H'=kn (l.map st2) y.fr H')->
 (opsT e ops os).a r log fr H k=eK e r.d ops kn os (log.map st2) fr.fr H
 | [],_,_,_,_,_,_,hk=>hk _ _ _
 |o::os,r,log,fr,H,k,kn,hk=>by
  simp only[opsT,seqT,eK];exact Lr false e ops o r fr H _ _ fun y H'=>Lt e ops os r ((fr,H)::log) y H' k kn hk
theorem nI (e:Env) (r:Rec) (ops:Array Oper) (k:Fr->Hp->Option R):∀(os:List Oper) (log:List (Fr×Hp)) (fr:Fr) (H:Hp),eK e r ops (fun _ fr H=>k fr H) os log fr H=cl false e r ops k os fr H
 | [],_,_,_=>rfl
 |o::os,log,fr,H=>by
  rw[uB];simp only[eK,nI e r ops k os]
def failO:KO R:=fun _ _ _ _=>none
def Q9 (env:Env) (x:Op) (fr:Fr) (H H':Hp) (i:Nat):Option (List Bool):=
 bif Nat.ble (cls env x) 1 then some []else bif Nat.blt i H.n then(bif (Nat.beq (cls env x) 2||(match chg env fr H x with|some ts=> !(ts.elem i)|none=>false))then some []else AA (H.get i) (H'.get i))else none
theorem NV (env:Env) (x:Op) (fr:Fr) (H H':Hp) (i:Nat):jV (Q9 env x fr H H' i)=DX env x fr H H' i:=by
 unfold Q9 DX;cases Nat.ble (cls env x) 1 with
 |true=>rfl
 |false=>
  cases Nat.blt i H.n with
  |false=>rfl
  |true=>
   cases (Nat.beq (cls env x) 2||(match chg env fr H x with|some ts=> !(ts.elem i)|none=>false))with
   |true=>rfl
   |false=>rfl
def IZ (env:Env) (ops:Array Oper) (S:List (Fr×Hp)) (i a b:Nat):Option (List Bool):=
 PN (fun d=>match ops[a+d]?,S[a+d]?,S[a+d+1]? with
  |some o,some p,some q=>Q9 env o.op p.1 p.2 q.2 i
  |_,_,_=>none) (List.range (b-a))
theorem I0 (env:Env) (ops:Array Oper) (S:List (Fr×Hp)) (i a b:Nat):jV (IZ env ops S i a b)=q0 env ops S i a b:=by
 unfold IZ q0;rw[tN]
 congr 1
 funext d
 cases ops[a+d]? with
 |none=>rfl
 |some o=>
  cases S[a+d]? with
  |none=>rfl
  |some p=>
   cases S[a+d+1]? with
   |none=>rfl
   |some q=>exact NV ..
def rj (env:Env) (ops:Array Oper) (S:List (Fr×Hp)) (l a b:Nat):Op->Option (List Bool)
 | .load T (.tmp s)=>(match(S[l]?).map (fun(p:Fr×Hp)=>p.1.getD s .undef)with
   |some (.ptr i _)=>IZ env ops S i a b
   |_=>ofB (ic env ops S l a b (.load T (.tmp s))))
 |o=>ofB (ic env ops S l a b o)
theorem qp (env:Env) (ops:Array Oper) (S:List (Fr×Hp)) (l a b:Nat) (o:Op):jV (rj env ops S l a b o)=ic env ops S l a b o:=by
 unfold rj;split
 ·split
  ·rename_i h;rw[I0];simp only[ic,h]
  ·exact nu _
 ·exact nu _
def uE (env:Env) (pr:List (List Nat)) (ops:Array Oper) (S:List (Fr×Hp)) (i j:Nat):Option (List Bool):=
 bif (pr.getD j []).elem i then some []else(match ops[i]?,ops[j]? with
  |some x,some y=>
   bif fG x.op&&Nat.beq (cls env y.op) 3 then rj env ops S i i (j+1) x.op
   else bif Nat.beq (cls env x.op) 3&&fG y.op then rj env ops S j i j y.op
   else bif Nat.beq (cls env x.op) 2&&isSt y.op then ofB (sX S i j y.op)else some []
  |_,_=>some [])
theorem A6 (env:Env) (pr:List (List Nat)) (ops:Array Oper) (S:List (Fr×Hp)) (i j:Nat):jV (uE env pr ops S i j)=gF env pr ops S i j:=by
 unfold uE gF;cases (pr.getD j []).elem i with
 |true=>rfl
 |false=>
  simp only[cond_false,Bool.false_or];cases ops[i]? with
  |none=>rfl
  |some x=>
   cases ops[j]? with
   |none=>rfl
   |some y=>
    simp only;cases fG x.op&&Nat.beq (cls env y.op) 3 with
    |true=>exact qp ..
    |false=>
     cases Nat.beq (cls env x.op) 3&&fG y.op with
     |true=>exact qp ..
     |false=>
      cases Nat.beq (cls env x.op) 2&&isSt y.op with
      |true=>exact nu _
      |false=>rfl
def uG (e:Env) (ops:Array Oper) (l:List (Nat×Nat)) (S:List (Fr×Hp)):Bool:=jV (PN (fun p=>uE e (gC ops) ops S p.1 p.2) l)
theorem E4 (e:Env) (ops:Array Oper) (l:List (Nat×Nat)) (S:List (Fr×Hp)):uG e ops l S=l.all fun p=>gF e (gC ops) ops S p.1 p.2:=by
 unfold uG;rw[tN]
 congr 1
 funext p
 exact A6 ..
def dynC (e:Env) (ops:Array Oper) (l:List (Nat×Nat)) (A:Bx (KT R)):KO R:=fun r fr H k=>
 A.a r [] fr H fun log fr H=>bif uG e ops l ((log.map st2).reverse ++ [(fr.fr,H)])then k fr H else none
def Lu (e:Env) (ops:Array Oper):Bx (KO R):=
 match rg e ops with
 | []=>opsC false e ops ops.toList
 |p::ps=>⟨dynC e ops (p::ps) (opsT e ops ops.toList)⟩
def clrO (s:Nat) (A:Bx (KO R)):KO R:=fun r fr H k=>IW fr s .undef fun fr=>A.a r fr H k
def clrB (e:Env) (ops:Array Oper) (A:Bx (KO R)):Bx (KO R):=
 match lL e ops with
 |some s=>⟨clrO s A⟩
 |none=>A
theorem clrB_eq (e:Env) (ops:Array Oper) (A:Bx (KO R)) (r:RQ) (fr:TF) (H:Hp) (k:TF->Hp->Option R):∃y:TF,(clrB e ops A).a r fr H k=A.a r y H k∧y.fr=Az e ops fr.fr:=by
 unfold clrB Az;cases lL e ops with
 |none=>exact⟨fr,rfl,rfl⟩
 |some s=>exact⟨fr.set s .undef,by show clrO s A r fr H k=A.a r (fr.set s .undef) H k;unfold clrO;exact rf fr s .undef (fun fr=>A.a r fr H k),IV _ _ _⟩
def regC (e:Env) (ops:Array Oper) (draw:Bool):Bx (KO R):=
 bif draw then(bif ei e (bI e ops)&&pV e ops then clrB e ops (Lu e (bI e ops))else⟨failO⟩)else opsC true e ops ops.toList
theorem regC_eq (e:Env) (ops:Array Oper) (draw:Bool) (id:Nat) (F:Nat) (r:RQ) (fr:TF) (H:Hp) (k:TF->Hp->Option R) (kn:Fr->Hp->Option R) (kx:Nat->Fr->Hp->Option R) (kr:Fr->Hp->Option R) (kg:Nat->Fr->Hp->Option R) (hk:∀y H',k y H'=kn y.fr H'):
 (regC e ops draw).a r fr H k=ev e r.d F none (.region id ops draw) fr.fr H kn kx kr kg:=by
 simp only[regC,ev];cases draw with
 |false=>exact A4 true e ops _ r fr H k kn hk
 |true=>
  simp only[cond_true];cases ei e (bI e ops)&&pV e ops with
  |false=>rfl
  |true=>
   simp only[cond_true,EZ];obtain⟨y,hy,hyf⟩:=clrB_eq e ops (Lu e (bI e ops)) r fr H k;rw[hy, <- hyf];generalize bI e ops=ops;clear hy hyf;revert y;intro fr;cases hn:rg e ops with
   |nil=>
    simp only[Lu,hn];have:(fun(log:List (Fr×Hp)) (fr:Fr) (H:Hp)=>bif iQ e ops (log.reverse ++ [(fr,H)])then kn fr H else none)=fun _ fr H=>kn fr H:=by
     funext log fr H
     simp only[iQ,hn,List.all_nil,cond_true]
    rw[this,nI];exact A4 false e ops _ r fr H k kn hk
   |cons p ps=>
    simp only[Lu,hn,dynC];refine(Lt e ops _ r [] fr H _ (fun log fr H=>bif iQ e ops (log.reverse ++ [(fr,H)])then kn fr H else none) ?_)
    intro l y H';simp only[E4,iQ,hn,hk]
abbrev KQ (R:Type):=Rec->TF->Hp->(TF->List Bool->Option R)->Option R->Option R
def SpQ (A:KQ R) (E:Rec->Fr->Hp->Option (Fr×List Bool)):Prop:=
 ∀r (x:TF) H (k:TF->List Bool->Option R) (kn:Fr->List Bool->Option R) (g:Option R),(∀y l,k y l=kn y.fr l)->A r x H k g=(match E r x.fr H with|some q=>kn q.1 q.2|none=>g)
def NW {S:Type} (x:AV):(Bool->S)->S->S:=
 match x with
 | .ub b=>fun f _=>f b
 |_=>dfl
theorem lR {S:Type} (x:AV) (f:Bool->S) (g:S):(∃b,x = .sc (.bool b)∧asBool x f g=f b)∨(asBool x f g=g∧∀b,x≠ .sc (.bool b)):=by
 cases x<;>try exact .inr ⟨rfl,fun _ h=>by cases h⟩
 rename_i v;cases v<;>first|exact .inr ⟨rfl,fun _ h=>by cases h⟩|exact .inl ⟨_,rfl,rfl⟩
theorem uH {S:Type} (x:AV) (f:Bool->S) (g:S):(∃b,x = .ub b∧NW x f g=f b)∨(NW x f g=g∧∀b,x≠ .ub b):=by
 cases x<;>first|exact .inl ⟨_,rfl,rfl⟩|exact .inr ⟨rfl,fun _ h=>by cases h⟩
def putQ {S:Type} (d:Option Tmp) (x:TF) (v:AV) (k:TF->S):S:=match d with|some t=>IW x t v k|none=>k x
theorem putQ_eq {S:Type} (d:Option Tmp) (x:TF) (v:AV) (k:TF->S) (kn:Fr->S) (hk:∀y,k y=kn y.fr):putQ d x v k=kn (cH x.fr d v):=by
 cases d with
 |none=>exact hk _
 |some t=>simp only[putQ,rf,hk,IV,cH]
def qOp (e:Env) (o:Oper) (K:KQ R):KQ R:=fun r x H k g=>
 optK (bD e r x.fr H o.type o.op) g fun p=>frA 3 p.1 fun v=>putQ o.dst x v fun y=>K r y H (fun z l=>k z (obl e x.fr H o.op++l)) g
where optK (p:Option (AV×Hp)) (g:Option R):(AV×Hp->Option R)->Option R:=match p with|some p=>fun f=>f p|none=>fun _=>g
def qFail:KQ R:=fun _ _ _ _ g=>g
def qEnd:KQ R:=fun _ x _ k _=>k x []
def qGen (E:Rec->Fr->Hp->Option (Fr×List Bool)):KQ R:=fun r x H k g=>match E r x.fr H with|some q=>k (TF.of q.1) q.2|none=>g
theorem qGen_eq (E:Rec->Fr->Hp->Option (Fr×List Bool)):SpQ (qGen E:KQ R) E:=by
 intro r x H k kn g hk;unfold qGen;cases E r x.fr H with
 |none=>rfl
 |some q=>simp only[hk,qm]
theorem qOp_eq {e:Env} {o:Oper} {K:KQ R} {E:Rec->Fr->Hp->Option (Fr×List Bool)} (hK:SpQ K E):
 SpQ (qOp e o K) (fun r fr H=>(bD e r fr H o.type o.op).bind fun p=>(E r (cH fr o.dst p.1) H).bind fun q=>some (q.1,obl e fr H o.op++q.2)):=by
 intro r x H k kn g hk;simp only[qOp];cases hp:bD e r x.fr H o.type o.op with
 |none=>rfl
 |some p=>
  simp only[qOp.optK,oK,Option.bind_some];rw[putQ_eq o.dst x p.1 _ (fun fr=>match E r fr H with|some q=>kn q.1 (obl e x.fr H o.op++q.2)|none=>g) (fun y=>hK r y H _ (fun fr l=>kn fr (obl e x.fr H o.op++l)) g (fun z l=>hk z _))]
  cases E r (cH x.fr o.dst p.1) H<;>rfl
def mQ (e:Env) (ops:Array Oper):Nat->List Oper->Bx (KQ R)
 |0,_=>⟨qFail⟩
 |_+1,[]=>⟨qEnd⟩
 |n+1,o::os=>match o.guard with
  |none=>⟨qOp e o (mQ e ops n os).a⟩
  |some _=>⟨qGen fun r fr H=>fH e r ops H (n+1) (o::os) fr⟩
theorem mQ_eq (e:Env) (ops:Array Oper):∀(n:Nat) (os:List Oper),SpQ (mQ e ops n os:Bx (KQ R)).a (fun r fr H=>fH e r ops H n os fr)
 |0,_=>fun _ _ _ _ _ _ _=>rfl
 |_+1,[]=>fun _ _ _ _ _ _ hk=>hk _ _
 |n+1,o::os=>by
  unfold mQ;cases hg:o.guard with
  |none=>
   simp only;have hK:SpQ (mQ e ops n os:Bx (KQ R)).a (fun r fr H=>fH e r ops H n os fr):=mQ_eq e ops n os
   have:=qOp_eq (e:=e) (o:=o) hK;simp only[fH,hg];exact this
  |some p=>exact qGen_eq (fun r fr H=>fH e r ops H (n+1) (o::os) fr)
def uI (t:Bool) (y z:TF):List Nat->TF->TF
 | [],w=>w
 |d::ds,w=>uI t y z ds (w.set d (AB t (y.fr.getD d .undef) (z.fr.getD d .undef)))
def mrgD {S:Type} (t:Bool) (y z:TF):List Nat->TF->(TF->S)->S
 | [],w,k=>k w
 |d::ds,w,k=>NR y d fun a=>NR z d fun b=>frA 3 (AB t a b) fun v=>IW w d v fun w=>mrgD t y z ds w k
theorem Lv {S:Type} (t:Bool) (y z:TF):∀(ds:List Nat) (w:TF) (k:TF->S),mrgD t y z ds w k=k (uI t y z ds w)
 | [],_,_=>rfl
 |d::ds,w,k=>by simp only[mrgD,A1,oK,rf,Lv t y z ds,uI]
theorem yR (t:Bool) (y z:TF):∀(ds:List Nat) (w:TF) (j:Nat),(uI t y z ds w).n=w.n∧(uI t y z ds w).get j=if j∈ds then AB t (y.fr.getD j .undef) (z.fr.getD j .undef)else w.get j
 | [],w,j=>by simp[uI]
 |d::ds,w,j=>by
  obtain⟨h1,h2⟩:=yR t y z ds (w.set d (AB t (y.fr.getD d .undef) (z.fr.getD d .undef))) j;refine⟨h1,?_⟩
  simp only[uI,h2,TF.get_set,List.mem_cons];by_cases hj:j∈ds
  ·simp[hj]
  ·by_cases hd:j=d
   ·subst hd;simp
   ·simp[hj,hd]
theorem Lw (ds:List Nat) (b:Bool):∀(ps xs ys:List AV) (i j:Nat),xs.length=ps.length->ys.length=ps.length->
 (ie ds b i ps xs ys)[j]? = if j<ps.length then some (if i+j∈ds then AB b (xs.getD j .undef) (ys.getD j .undef)else ps.getD j .undef)else none
 | [],xs,ys,i,j,_,_=>by simp[ie]
 |p::ps,[],ys,i,j,h,_=>by simp at h
 |p::ps,x::xs,[],i,j,_,h=>by simp at h
 |p::ps,x::xs,y::ys,i,0,_,_=>by
  simp only[ie,List.getElem?_cons_zero,List.length_cons,Nat.zero_lt_succ,if_true,Nat.add_zero,List.getD_cons_zero]
  by_cases h:i∈ds
  ·simp[h]
  ·simp[h]
 |p::ps,x::xs,y::ys,i,j+1,h1,h2=>by
  simp only[List.length_cons,Nat.add_right_cancel_iff]at h1 h2;simp only[ie,List.getElem?_cons_succ,Lw ds b ps xs ys (i+1) j h1 h2,List.length_cons,Nat.add_lt_add_iff_right,List.getD_cons_succ]
  rw[show i+1+j=i+(j+1)by omega]
theorem uJ (x:TF):x.fr.length=x.n:=by
 have:∀m i,(oZ x m i).length=m:=by
  intro m
  induction m with
  |zero=>intro i;rfl
  |succ m ih=>intro i;simp only[gV,List.length_cons,ih]
 exact this _ _
def Ra {S:Type} (ds:List Nat) (t:Bool) (p y z:TF) (k:TF->S):S:=
 bif Nat.beq y.n p.n&&Nat.beq z.n p.n then mrgD t y z ds p k else k (TF.of (ie ds t 0 p.fr y.fr z.fr))
theorem mrgF_eq {S:Type} (ds:List Nat) (t:Bool) (p y z:TF) (k:TF->S) (kn:Fr->S) (hk:∀w,k w=kn w.fr):Ra ds t p y z k=kn (ie ds t 0 p.fr y.fr z.fr):=by
 unfold Ra;cases hb:(Nat.beq y.n p.n&&Nat.beq z.n p.n)with
 |false=>simp only[cond_false,hk,qm]
 |true=>
  simp only[Bool.and_eq_true]at hb;have h1:=Nat.eq_of_beq_eq_true hb.1;have h2:=Nat.eq_of_beq_eq_true hb.2;simp only[cond_true,Lv,hk]
  congr 1
  apply List.ext_getElem?
  intro j;rw[o5,Lw _ _ _ _ _ _ _ (by rw[uJ,uJ,h1]) (by rw[uJ,uJ,h2]),uJ,Nat.zero_add]
  obtain⟨e1,e2⟩:=yR t y z ds p j;rw[e1,e2];by_cases hj:j<p.n
  ·rw[if_pos hj,if_pos hj]
   congr 2
   rw[List.getD_eq_getElem?_getD,o5,if_pos hj];rfl
  ·rw[if_neg hj,if_neg hj]
def seqQ (A B:Bx (KQ R)):KQ R:=fun r x H k g=>A.a r x H (fun y l=>B.a r y H (fun z l'=>k z (l++l')) g) g
def condQ (c:Operand) (ds:List Nat) (A B:Bx (KQ R)):KQ R:=fun r x H k g=>
 fJ c x fun v=>asBool v (fun t=>Bool.rec (motive:=fun _=>Option R) (B.a r x H k g) (A.a r x H k g) t)
  (NW v (fun t=>A.a r x H (fun y l=>B.a r x H (fun z l'=>Ra ds t x y z fun w=>k w (sY t l l')) g) g) g)
def gW (e:Env):Code->Bx (KQ R)
 | .skip=>⟨qEnd⟩
 | .region _ ops _=>mQ e ops 400 ops.toList
 | .seq a b=>⟨seqQ (gW e a) (gW e b)⟩
 | .cond c a b=>⟨condQ c (dE a++dE b) (gW e a) (gW e b)⟩
 |_=>⟨qFail⟩
theorem Rb (e:Env):∀c:Code,SpQ (gW e c:Bx (KQ R)).a (fun r fr H=>evQ e r 400 H c fr):=by
 intro c
 induction c with
 |skip=>intro r x H k kn g hk;exact hk _ _
 |region id ops draw=>exact mQ_eq e ops 400 ops.toList
 |seq a b iha ihb=>
  intro r x H k kn g hk;simp only[gW,seqQ,evQ];have h1:=iha r x H _ (fun fr l=>match evQ e r 400 H b fr with|some q=>kn q.1 (l++q.2)|none=>g) g (fun y l=>ihb r y H _ (fun fr l'=>kn fr (l++l')) g (fun z l'=>hk z _))
  simp only at h1;rw[h1];cases ha:evQ e r 400 H a x.fr with
  |none=>rfl
  |some q=>
   simp only[Option.bind_some];cases hb:evQ e r 400 H b q.1<;>rfl
 |cond c a b iha ihb=>
  intro r x H k kn g hk;simp only[gW,condQ,cF,evQ];rcases lR (opd x.fr c) (fun t=>Bool.rec (motive:=fun _=>Option R) ((gW e b).a r x H k g) ((gW e a).a r x H k g) t) (NW (opd x.fr c) (fun t=>(gW e a).a r x H (fun y l=>(gW e b).a r x H (fun z l'=>Ra (dE a++dE b) t x y z fun w=>k w (sY t l l')) g) g) g)with⟨t,hx,e1⟩|⟨e1,hnb⟩
  ·rw[e1,hx];cases t with
   |true=>exact iha r x H k kn g hk
   |false=>exact ihb r x H k kn g hk
  ·rw[e1];rcases uH (opd x.fr c) (fun t=>(gW e a).a r x H (fun y l=>(gW e b).a r x H (fun z l'=>Ra (dE a++dE b) t x y z fun w=>k w (sY t l l')) g) g) g with⟨t,hx,e2⟩|⟨e2,hne⟩
   ·rw[e2,hx]
    have h1:=iha r x H _ (fun fr l=>match evQ e r 400 H b x.fr with|some q=>kn (ie (dE a++dE b) t 0 x.fr fr q.1) (sY t l q.2)|none=>g) g
     (fun y l=>ihb r x H _ (fun fr l'=>kn (ie (dE a++dE b) t 0 x.fr y.fr fr) (sY t l l')) g (fun z l'=>mrgF_eq (dE a++dE b) t x y z (fun w=>k w (sY t l l')) (fun fr=>kn fr (sY t l l')) (fun w=>hk w _)))
    simp only at h1;rw[h1];simp only;cases ha:evQ e r 400 H a x.fr with
    |none=>rfl
    |some q=>
     simp only[Option.bind_some];cases hb:evQ e r 400 H b x.fr<;>rfl
   ·rw[e2];split
    ·rename_i q hq;split at hq
     ·rename_i b hb;exact(hnb _ hb).elim
     ·rename_i b hb;exact(hne _ hb).elim
     ·cases hq
    ·rfl
 |_=>intros;intro r x H k kn g hk;rfl
end
end
end Go.AM
