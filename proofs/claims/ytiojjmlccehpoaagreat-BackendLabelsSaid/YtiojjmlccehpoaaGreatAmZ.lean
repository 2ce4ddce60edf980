/-
  Quick runs: code made ready, and functions; that they say the same as the evaluator. Closed runs, and runs over data that is not known.
-/
import Derived.Test.YtiojjmlccehpoaaGreatAmY
set_option linter.unusedSimpArgs false
set_option linter.unusedVariables false
namespace Go.AM
noncomputable section
section
variable {R:Type}
theorem xt (u:Bool) (e:Env) (r:Rec) (ops:Array Oper) (k:Fr->Hp->Option R) (o:Oper) (os:List Oper) (fr:Fr) (H:Hp):
 dt u e r ops k (o::os) fr H=dt u e r ops (fun fr H=>dt u e r ops k os fr H) [o] fr H:=by
 simp only[dt]
def stepG (u:Bool) (e:Env) (ops:Array Oper) (o:Oper):KS R:=fun r fr H k=>dt u e r ops k [o] fr H
def BS (u:Bool) (e:Env) (ops:Array Oper) (o:Oper):KO R:=fun r x H k=>dt u e r.d ops (fun fr H=>k (TF.of fr) H) [o] x.fr H
theorem xv (u:Bool) (e:Env) (ops:Array Oper) (o:Oper):Sp (BS u e ops o:KO R) (stepG u e ops o):=by
 intro r x H k kn hk;unfold BS stepG;have:(fun fr H=>k (TF.of fr) H)=kn:=by funext fr H;rw[hk,sS]
 rw[this]
def gdC (u:Bool) (e:Env) (ops:Array Oper) (o:Oper) (s:Nat) (want:Bool):KO R:=fun r fr H k=>
 QW fr s fun x=>asBool x (fun b=>bif (b==want)then(cop e o).a r fr H k else dd o.dst fr uv H k) (BS u e ops o r fr H k)
def copG (u:Bool) (e:Env) (ops:Array Oper) (o:Oper):Bx (KO R):=
 bif !u&&gW ops o.dst then⟨BS u e ops o⟩else
 match o.guard with
 |none=>cop e o
 |some (j,want)=>(match(ops[j]?).bind (·.dst)with
  |none=>⟨BS u e ops o⟩
  |some s=>⟨gdC u e ops o s want⟩)
theorem xw (x:AV) (k:AV->Option R):tO false x k=k x:=rfl
theorem step_none {u:Bool} {e:Env} {ops:Array Oper} {o:Oper} (hg:o.guard=none) (hb:(!u&&gW ops o.dst)=false):(cS e o:KS R)=stepG u e ops o:=by
 funext r fr H k
 simp only[stepG,dt,hg,hb,xw,qC,fI,cS]
theorem Od (u:Bool) (e:Env) (ops:Array Oper) (o:Oper):Sp (copG u e ops o:Bx (KO R)).a (stepG u e ops o):=by
 unfold copG;cases hb:(!u&&gW ops o.dst)with
 |true=>exact xv u e ops o
 |false=>
  simp only[aI];cases hg:o.guard with
  |none=>simp only;rw[<- step_none hg hb];exact Ux e o
  |some p=>
   obtain⟨j,want⟩:=p;simp only;cases hs:(ops[j]?).bind (fun x:Oper=>x.dst)with
   |none=>exact xv u e ops o
   |some s=>
    intro r fr H k kn hk;simp only[gdC,DF];rcases kO (fr.fr.getD s .undef) (fun b=>bif (b==want)then(cop e o).a r fr H k else dd o.dst fr uv H k) (BS u e ops o r fr H k)with⟨b,hx,e1⟩|e1
    ·rw[e1,Ux e o r fr H k kn hk,cY hk];have hs':(ops[j]?).bind (fun x:Oper=>x.dst)=some s:=hs
     simp only[stepG,dt,hg,hs',hx,lQ,hb,xw,qC,fI,cS];cases b with
     |true=>
      rw[o5 hx];cases want<;>rfl
     |false=>
      rw[o5 hx];cases want<;>rfl
    ·rw[e1];exact xv u e ops o r fr H k kn hk
def seqO (A B:Bx (KO R)):KO R:=fun r fr H k=>A.a r fr H fun fr H=>B.a r fr H k
def endO:KO R:=fun _ fr H k=>k fr H
def opsC (u:Bool) (e:Env) (ops:Array Oper):List Oper->Bx (KO R)
 | []=>⟨endO⟩
 |o::os=>⟨seqO (copG u e ops o) (opsC u e ops os)⟩
theorem DJ (u:Bool) (e:Env) (ops:Array Oper):∀(os:List Oper),Sp (opsC u e ops os:Bx (KO R)).a (fun r fr H k=>dt u e r ops k os fr H)
 | []=>fun _ _ _ _ _ hk=>hk _ _
 |o::os=>by
  intro r fr H k kn hk
  show _=dt u e r.d ops kn (o::os) fr.fr H
  rw[xt];exact Od u e ops o r fr H _ (fun fr H=>dt u e r.d ops kn os fr H) fun y H'=>DJ u e ops os r y H' k kn hk
def Oe (e:Env) (pr:List (List Nat)) (ops:Array Oper) (i j:Nat):Bool:=
 !((pr.getD j []).elem i)&&(match ops[i]?,ops[j]? with
  |some x,some y=>(gI x.op&&Nat.beq (cls e y.op) 3)||(Nat.beq (cls e x.op) 3&&gI y.op)||(Nat.beq (cls e x.op) 2&&qv y.op)
  |_,_=>false)
def um (e:Env) (ops:Array Oper):List (Nat×Nat):=
 (List.range ops.size).flatMap fun j=>((List.range j).filter fun i=>Oe e (iN ops) ops i j).map fun i=>(i,j)
def j7 (e:Env) (ops:Array Oper) (S:List (Fr×Hp)):Bool:=(um e ops).all fun p=>iQ e (iN ops) ops S p.1 p.2
theorem DK (e:Env) (pr:List (List Nat)) (ops:Array Oper) (S:List (Fr×Hp)) (i j:Nat) (h:Oe e pr ops i j=false):iQ e pr ops S i j=true:=by
 unfold Oe at h;unfold iQ;cases hp:(pr.getD j []).elem i with
 |true=>rfl
 |false=>
  simp only[hp,dk,lM]at h;simp only[lm];split
  ·rename_i x y hx hy;rw[hx,hy]at h;simp only[Bool.or_eq_false_iff]at h;rw[h.1.1,h.1.2,h.2]
   rfl
  ·rfl
theorem G8 (e:Env) (ops:Array Oper) (S:List (Fr×Hp)):iR e ops S=j7 e ops S:=by
 rw[fy];simp only[iR,j7,um,bV,lK,ic,List.mem_filter,iI];constructor
 ·rintro h p ⟨j,hj,i,⟨hi,_⟩,rfl⟩;exact h j hj i hi
 ·intro h j hj i hi;cases hn:Oe e (iN ops) ops i j with
  |true=>exact h (i,j) ⟨j,hj,i,⟨hi,hn⟩,rfl⟩
  |false=>exact DK e _ ops S i j hn
def st2 (p:TF×Hp):Fr×Hp:=(p.1.fr,p.2)
abbrev KT (R:Type):=RQ->List (TF×Hp)->TF->Hp->(List (TF×Hp)->TF->Hp->Option R)->Option R
def seqT (A:Bx (KO R)) (B:Bx (KT R)):KT R:=fun r log fr H k=>A.a r fr H fun fr' H'=>B.a r ((fr,H)::log) fr' H' k
def endT:KT R:=fun _ log fr H k=>k log fr H
def opsT (e:Env) (ops:Array Oper):List Oper->Bx (KT R)
 | []=>⟨endT⟩
 |o::os=>⟨seqT (copG false e ops o) (opsT e ops os)⟩
theorem Of (e:Env) (ops:Array Oper):∀(os:List Oper) (r:RQ) (log:List (TF×Hp)) (fr:TF) (H:Hp) (k:List (TF×Hp)->TF->Hp->Option R) (kn:List (Fr×Hp)->Fr->Hp->Option R),(∀l y H',k l y H'=kn (l.map st2) y.fr H')->
 (opsT e ops os).a r log fr H k=fW e r.d ops kn os (log.map st2) fr.fr H
 | [],_,_,_,_,_,_,hk=>hk _ _ _
 |o::os,r,log,fr,H,k,kn,hk=>by
  simp only[opsT,seqT,fW];exact Od false e ops o r fr H _ _ fun y H'=>Of e ops os r ((fr,H)::log) y H' k kn hk
theorem pp (e:Env) (r:Rec) (ops:Array Oper) (k:Fr->Hp->Option R):∀(os:List Oper) (log:List (Fr×Hp)) (fr:Fr) (H:Hp),fW e r ops (fun _ fr H=>k fr H) os log fr H=dt false e r ops k os fr H
 | [],_,_,_=>rfl
 |o::os,log,fr,H=>by
  rw[xt];simp only[fW,pp e r ops k os]
def failO:KO R:=fun _ _ _ _=>none
def Uy (env:Env) (x:Op) (fr:Fr) (H H':Hp) (i:Nat):Option (List Bool):=
 bif Nat.ble (cls env x) 1 then some []else bif Nat.blt i H.n then(bif (Nat.beq (cls env x) 2||(match chg env fr H x with|some ts=> !(ts.elem i)|none=>false))then some []else Dg (H.get i) (H'.get i))else none
theorem Q0 (env:Env) (x:Op) (fr:Fr) (H H':Hp) (i:Nat):lA (Uy env x fr H H' i)=F2 env x fr H H' i:=by
 unfold Uy F2;cases Nat.ble (cls env x) 1 with
 |true=>rfl
 |false=>
  cases Nat.blt i H.n with
  |false=>rfl
  |true=>
   cases (Nat.beq (cls env x) 2||(match chg env fr H x with|some ts=> !(ts.elem i)|none=>false))with
   |true=>rfl
   |false=>rfl
def Lf (env:Env) (ops:Array Oper) (S:List (Fr×Hp)) (i a b:Nat):Option (List Bool):=
 SY (fun d=>match ops[a+d]?,S[a+d]?,S[a+d+1]? with
  |some o,some p,some q=>Uy env o.op p.1 p.2 q.2 i
  |_,_,_=>none) (List.range (b-a))
theorem Lg (env:Env) (ops:Array Oper) (S:List (Fr×Hp)) (i a b:Nat):lA (Lf env ops S i a b)=ua env ops S i a b:=by
 unfold Lf ua;rw[wH]
 congr 1
 funext d
 cases ops[a+d]? with
 |none=>rfl
 |some o=>
  cases S[a+d]? with
  |none=>rfl
  |some p=>
   cases S[a+d+1]? with
   |none=>rfl
   |some q=>exact Q0 ..
def un (env:Env) (ops:Array Oper) (S:List (Fr×Hp)) (l a b:Nat):Op->Option (List Bool)
 | .load T (.tmp s)=>(match(S[l]?).map (fun(p:Fr×Hp)=>p.1.getD s .undef)with
   |some (.ptr i _)=>Lf env ops S i a b
   |_=>ofB (jv env ops S l a b (.load T (.tmp s))))
 |o=>ofB (jv env ops S l a b o)
theorem sW (env:Env) (ops:Array Oper) (S:List (Fr×Hp)) (l a b:Nat) (o:Op):lA (un env ops S l a b o)=jv env ops S l a b o:=by
 unfold un;split
 ·split
  ·rename_i h;rw[Lg];simp only[jv,h]
  ·exact o8 _
 ·exact o8 _
def xx (env:Env) (pr:List (List Nat)) (ops:Array Oper) (S:List (Fr×Hp)) (i j:Nat):Option (List Bool):=
 bif (pr.getD j []).elem i then some []else(match ops[i]?,ops[j]? with
  |some x,some y=>
   bif gI x.op&&Nat.beq (cls env y.op) 3 then un env ops S i i (j+1) x.op
   else bif Nat.beq (cls env x.op) 3&&gI y.op then un env ops S j i j y.op
   else bif Nat.beq (cls env x.op) 2&&qv y.op then ofB (vU S i j y.op)else some []
  |_,_=>some [])
theorem DL (env:Env) (pr:List (List Nat)) (ops:Array Oper) (S:List (Fr×Hp)) (i j:Nat):lA (xx env pr ops S i j)=iQ env pr ops S i j:=by
 unfold xx iQ;cases (pr.getD j []).elem i with
 |true=>rfl
 |false=>
  simp only[aI,lm];cases ops[i]? with
  |none=>rfl
  |some x=>
   cases ops[j]? with
   |none=>rfl
   |some y=>
    simp only;cases gI x.op&&Nat.beq (cls env y.op) 3 with
    |true=>exact sW ..
    |false=>
     cases Nat.beq (cls env x.op) 3&&gI y.op with
     |true=>exact sW ..
     |false=>
      cases Nat.beq (cls env x.op) 2&&qv y.op with
      |true=>exact o8 _
      |false=>rfl
def xy (e:Env) (ops:Array Oper) (l:List (Nat×Nat)) (S:List (Fr×Hp)):Bool:=lA (SY (fun p=>xx e (iN ops) ops S p.1 p.2) l)
theorem G9 (e:Env) (ops:Array Oper) (l:List (Nat×Nat)) (S:List (Fr×Hp)):xy e ops l S=l.all fun p=>iQ e (iN ops) ops S p.1 p.2:=by
 unfold xy;rw[wH]
 congr 1
 funext p
 exact DL ..
def dynC (e:Env) (ops:Array Oper) (l:List (Nat×Nat)) (A:Bx (KT R)):KO R:=fun r fr H k=>
 A.a r [] fr H fun log fr H=>bif xy e ops l ((log.map st2).reverse ++ [(fr.fr,H)])then k fr H else none
def Og (e:Env) (ops:Array Oper):Bx (KO R):=
 match um e ops with
 | []=>opsC false e ops ops.toList
 |p::ps=>⟨dynC e ops (p::ps) (opsT e ops ops.toList)⟩
def clrO (s:Nat) (A:Bx (KO R)):KO R:=fun r fr H k=>Lc fr s .undef fun fr=>A.a r fr H k
def clrB (e:Env) (ops:Array Oper) (A:Bx (KO R)):Bx (KO R):=
 match nn e ops with
 |some s=>⟨clrO s A⟩
 |none=>A
theorem clrB_eq (e:Env) (ops:Array Oper) (A:Bx (KO R)) (r:RQ) (fr:TF) (H:Hp) (k:TF->Hp->Option R):∃y:TF,(clrB e ops A).a r fr H k=A.a r y H k∧y.fr=Df e ops fr.fr:=by
 unfold clrB Df;cases nn e ops with
 |none=>exact⟨fr,rfl,rfl⟩
 |some s=>exact⟨fr.set s .undef,by show clrO s A r fr H k=A.a r (fr.set s .undef) H k;unfold clrO;exact uk fr s .undef (fun fr=>A.a r fr H k),Lb _ _ _⟩
def regC (e:Env) (ops:Array Oper) (draw:Bool):Bx (KO R):=
 bif draw then(bif fe e (ca e ops)&&sx e ops then clrB e ops (Og e (ca e ops))else⟨failO⟩)else opsC true e ops ops.toList
theorem regC_eq (e:Env) (ops:Array Oper) (draw:Bool) (id:Nat) (F:Nat) (r:RQ) (fr:TF) (H:Hp) (k:TF->Hp->Option R) (kn:Fr->Hp->Option R) (kx:Nat->Fr->Hp->Option R) (kr:Fr->Hp->Option R) (kg:Nat->Fr->Hp->Option R) (hk:∀y H',k y H'=kn y.fr H'):
 (regC e ops draw).a r fr H k=ev e r.d F none (.region id ops draw) fr.fr H kn kx kr kg:=by
 simp only[regC,ev];cases draw with
 |false=>exact DJ true e ops _ r fr H k kn hk
 |true=>
  simp only[aj];cases fe e (ca e ops)&&sx e ops with
  |false=>rfl
  |true=>
   simp only[aj,G8];obtain⟨y,hy,hyf⟩:=clrB_eq e ops (Og e (ca e ops)) r fr H k;rw[hy, <- hyf];generalize ca e ops=ops;clear hy hyf;revert y;intro fr;cases hn:um e ops with
   |nil=>
    simp only[Og,hn];have:(fun(log:List (Fr×Hp)) (fr:Fr) (H:Hp)=>bif j7 e ops (log.reverse ++ [(fr,H)])then kn fr H else none)=fun _ fr H=>kn fr H:=by
     funext log fr H
     simp only[j7,hn,List.all_nil,aj]
    rw[this,pp];exact DJ false e ops _ r fr H k kn hk
   |cons p ps=>
    simp only[Og,hn,dynC];refine(Of e ops _ r [] fr H _ (fun log fr H=>bif j7 e ops (log.reverse ++ [(fr,H)])then kn fr H else none) ?_)
    intro l y H';simp only[G9,j7,hn,hk]
abbrev KQ (R:Type):=Rec->TF->Hp->(TF->List Bool->Option R)->Option R->Option R
def SpQ (A:KQ R) (E:Rec->Fr->Hp->Option (Fr×List Bool)):Prop:=
 ∀r (x:TF) H (k:TF->List Bool->Option R) (kn:Fr->List Bool->Option R) (g:Option R),(∀y l,k y l=kn y.fr l)->A r x H k g=(match E r x.fr H with|some q=>kn q.1 q.2|none=>g)
def Q1 {S:Type} (x:AV):(Bool->S)->S->S:=
 match x with
 | .ub b=>fun f _=>f b
 |_=>dfl
theorem nw {S:Type} (x:AV) (f:Bool->S) (g:S):(∃b,x = .sc (.bool b)∧asBool x f g=f b)∨(asBool x f g=g∧∀b,x≠ .sc (.bool b)):=by
 cases x<;>try exact .inr ⟨rfl,fun _ h=>by cases h⟩
 rename_i v;cases v<;>first|exact .inr ⟨rfl,fun _ h=>by cases h⟩|exact .inl ⟨_,rfl,rfl⟩
theorem xz {S:Type} (x:AV) (f:Bool->S) (g:S):(∃b,x = .ub b∧Q1 x f g=f b)∨(Q1 x f g=g∧∀b,x≠ .ub b):=by
 cases x<;>first|exact .inl ⟨_,rfl,rfl⟩|exact .inr ⟨rfl,fun _ h=>by cases h⟩
def putQ {S:Type} (d:Option Tmp) (x:TF) (v:AV) (k:TF->S):S:=match d with|some t=>Lc x t v k|none=>k x
theorem putQ_eq {S:Type} (d:Option Tmp) (x:TF) (v:AV) (k:TF->S) (kn:Fr->S) (hk:∀y,k y=kn y.fr):putQ d x v k=kn (dB x.fr d v):=by
 cases d with
 |none=>exact hk _
 |some t=>simp only[putQ,uk,hk,Lb,dB]
def qOp (e:Env) (o:Oper) (K:KQ R):KQ R:=fun r x H k g=>
 optK (bS e r x.fr H o.type o.op) g fun p=>frA 3 p.1 fun v=>putQ o.dst x v fun y=>K r y H (fun z l=>k z (obl e x.fr H o.op++l)) g
where optK (p:Option (AV×Hp)) (g:Option R):(AV×Hp->Option R)->Option R:=match p with|some p=>fun f=>f p|none=>fun _=>g
def qFail:KQ R:=fun _ _ _ _ g=>g
def qEnd:KQ R:=fun _ x _ k _=>k x []
def qGen (E:Rec->Fr->Hp->Option (Fr×List Bool)):KQ R:=fun r x H k g=>match E r x.fr H with|some q=>k (TF.of q.1) q.2|none=>g
theorem qGen_eq (E:Rec->Fr->Hp->Option (Fr×List Bool)):SpQ (qGen E:KQ R) E:=by
 intro r x H k kn g hk;unfold qGen;cases E r x.fr H with
 |none=>rfl
 |some q=>simp only[hk,sS]
theorem qOp_eq {e:Env} {o:Oper} {K:KQ R} {E:Rec->Fr->Hp->Option (Fr×List Bool)} (hK:SpQ K E):
 SpQ (qOp e o K) (fun r fr H=>(bS e r fr H o.type o.op).bind fun p=>(E r (dB fr o.dst p.1) H).bind fun q=>some (q.1,obl e fr H o.op++q.2)):=by
 intro r x H k kn g hk;simp only[qOp];cases hp:bS e r x.fr H o.type o.op with
 |none=>rfl
 |some p=>
  simp only[qOp.optK,qD,bc];rw[putQ_eq o.dst x p.1 _ (fun fr=>match E r fr H with|some q=>kn q.1 (obl e x.fr H o.op++q.2)|none=>g) (fun y=>hK r y H _ (fun fr l=>kn fr (obl e x.fr H o.op++l)) g (fun z l=>hk z _))]
  cases E r (dB x.fr o.dst p.1) H<;>rfl
def mQ (e:Env) (ops:Array Oper):Nat->List Oper->Bx (KQ R)
 |0,_=>⟨qFail⟩
 |_+1,[]=>⟨qEnd⟩
 |n+1,o::os=>match o.guard with
  |none=>⟨qOp e o (mQ e ops n os).a⟩
  |some _=>⟨qGen fun r fr H=>gJ e r ops H (n+1) (o::os) fr⟩
theorem mQ_eq (e:Env) (ops:Array Oper):∀(n:Nat) (os:List Oper),SpQ (mQ e ops n os:Bx (KQ R)).a (fun r fr H=>gJ e r ops H n os fr)
 |0,_=>fun _ _ _ _ _ _ _=>rfl
 |_+1,[]=>fun _ _ _ _ _ _ hk=>hk _ _
 |n+1,o::os=>by
  unfold mQ;cases hg:o.guard with
  |none=>
   simp only;have hK:SpQ (mQ e ops n os:Bx (KQ R)).a (fun r fr H=>gJ e r ops H n os fr):=mQ_eq e ops n os
   have:=qOp_eq (e:=e) (o:=o) hK;simp only[gJ,hg];exact this
  |some p=>exact qGen_eq (fun r fr H=>gJ e r ops H (n+1) (o::os) fr)
def xA (t:Bool) (y z:TF):List Nat->TF->TF
 | [],w=>w
 |d::ds,w=>xA t y z ds (w.set d (Dh t (y.fr.getD d .undef) (z.fr.getD d .undef)))
def mrgD {S:Type} (t:Bool) (y z:TF):List Nat->TF->(TF->S)->S
 | [],w,k=>k w
 |d::ds,w,k=>QW y d fun a=>QW z d fun b=>frA 3 (Dh t a b) fun v=>Lc w d v fun w=>mrgD t y z ds w k
theorem Oh {S:Type} (t:Bool) (y z:TF):∀(ds:List Nat) (w:TF) (k:TF->S),mrgD t y z ds w k=k (xA t y z ds w)
 | [],_,_=>rfl
 |d::ds,w,k=>by simp only[mrgD,DF,qD,uk,Oh t y z ds,xA]
theorem BT (t:Bool) (y z:TF):∀(ds:List Nat) (w:TF) (j:Nat),(xA t y z ds w).n=w.n∧(xA t y z ds w).get j=if j∈ds then Dh t (y.fr.getD j .undef) (z.fr.getD j .undef)else w.get j
 | [],w,j=>by simp[xA]
 |d::ds,w,j=>by
  obtain⟨h1,h2⟩:=BT t y z ds (w.set d (Dh t (y.fr.getD d .undef) (z.fr.getD d .undef))) j;refine⟨h1,?_⟩
  simp only[xA,h2,TF.get_set,cy];by_cases hj:j∈ds
  ·simp[hj]
  ·by_cases hd:j=d
   ·subst hd;simp
   ·simp[hj,hd]
theorem Oi (ds:List Nat) (b:Bool):∀(ps xs ys:List AV) (i j:Nat),xs.length=ps.length->ys.length=ps.length->
 (jw ds b i ps xs ys)[j]? = if j<ps.length then some (if i+j∈ds then Dh b (xs.getD j .undef) (ys.getD j .undef)else ps.getD j .undef)else none
 | [],xs,ys,i,j,_,_=>by simp[jw]
 |p::ps,[],ys,i,j,h,_=>by simp at h
 |p::ps,x::xs,[],i,j,_,h=>by simp at h
 |p::ps,x::xs,y::ys,i,0,_,_=>by
  simp only[jw,vn,cn,Nat.zero_lt_succ,aX,lq,bf];by_cases h:i∈ds
  ·simp[h]
  ·simp[h]
 |p::ps,x::xs,y::ys,i,j+1,h1,h2=>by
  simp only[cn,Nat.add_right_cancel_iff]at h1 h2;simp only[jw,sd,Oi ds b ps xs ys (i+1) j h1 h2,cn,Nat.add_lt_add_iff_right,bt];rw[show i+1+j=i+(j+1)by omega]
theorem xB (x:TF):x.fr.length=x.n:=by
 have:∀m i,(qW x m i).length=m:=by
  intro m
  induction m with
  |zero=>intro i;rfl
  |succ m ih=>intro i;simp only[ja,cn,ih]
 exact this _ _
def Uz {S:Type} (ds:List Nat) (t:Bool) (p y z:TF) (k:TF->S):S:=
 bif Nat.beq y.n p.n&&Nat.beq z.n p.n then mrgD t y z ds p k else k (TF.of (jw ds t 0 p.fr y.fr z.fr))
theorem mrgF_eq {S:Type} (ds:List Nat) (t:Bool) (p y z:TF) (k:TF->S) (kn:Fr->S) (hk:∀w,k w=kn w.fr):Uz ds t p y z k=kn (jw ds t 0 p.fr y.fr z.fr):=by
 unfold Uz;cases hb:(Nat.beq y.n p.n&&Nat.beq z.n p.n)with
 |false=>simp only[aI,hk,sS]
 |true=>
  simp only[bn]at hb;have h1:=aR hb.1;have h2:=aR hb.2;simp only[aj,Oh,hk]
  congr 1
  apply gi;intro j;rw[qX,Oi _ _ _ _ _ _ _ (by rw[xB,xB,h1]) (by rw[xB,xB,h2]),xB,d9]
  obtain⟨e1,e2⟩:=BT t y z ds p j;rw[e1,e2];by_cases hj:j<p.n
  ·rw[if_pos hj,if_pos hj]
   congr 2
   rw[ne,qX,if_pos hj];rfl
  ·rw[if_neg hj,if_neg hj]
def seqQ (A B:Bx (KQ R)):KQ R:=fun r x H k g=>A.a r x H (fun y l=>B.a r y H (fun z l'=>k z (l++l')) g) g
def condQ (c:Operand) (ds:List Nat) (A B:Bx (KQ R)):KQ R:=fun r x H k g=>
 gL c x fun v=>asBool v (fun t=>Bool.rec (motive:=fun _=>Option R) (B.a r x H k g) (A.a r x H k g) t)
  (Q1 v (fun t=>A.a r x H (fun y l=>B.a r x H (fun z l'=>Uz ds t x y z fun w=>k w (vV t l l')) g) g) g)
def jb (e:Env):Code->Bx (KQ R)
 | .skip=>⟨qEnd⟩
 | .region _ ops _=>mQ e ops 400 ops.toList
 | .seq a b=>⟨seqQ (jb e a) (jb e b)⟩
 | .cond c a b=>⟨condQ c (er a++er b) (jb e a) (jb e b)⟩
 |_=>⟨qFail⟩
theorem UA (e:Env):∀c:Code,SpQ (jb e c:Bx (KQ R)).a (fun r fr H=>evQ e r 400 H c fr):=by
 intro c
 induction c with
 |skip=>intro r x H k kn g hk;exact hk _ _
 |region id ops draw=>exact mQ_eq e ops 400 ops.toList
 |seq a b iha ihb=>
  intro r x H k kn g hk;simp only[jb,seqQ,evQ];have h1:=iha r x H _ (fun fr l=>match evQ e r 400 H b fr with|some q=>kn q.1 (l++q.2)|none=>g) g (fun y l=>ihb r y H _ (fun fr l'=>kn fr (l++l')) g (fun z l'=>hk z _))
  simp only at h1;rw[h1];cases ha:evQ e r 400 H a x.fr with
  |none=>rfl
  |some q=>
   simp only[bc];cases hb:evQ e r 400 H b q.1<;>rfl
 |cond c a b iha ihb=>
  intro r x H k kn g hk;simp only[jb,condQ,dh,evQ];rcases nw (opd x.fr c) (fun t=>Bool.rec (motive:=fun _=>Option R) ((jb e b).a r x H k g) ((jb e a).a r x H k g) t) (Q1 (opd x.fr c) (fun t=>(jb e a).a r x H (fun y l=>(jb e b).a r x H (fun z l'=>Uz (er a++er b) t x y z fun w=>k w (vV t l l')) g) g) g)with⟨t,hx,e1⟩|⟨e1,hnb⟩
  ·rw[e1,hx];cases t with
   |true=>exact iha r x H k kn g hk
   |false=>exact ihb r x H k kn g hk
  ·rw[e1];rcases xz (opd x.fr c) (fun t=>(jb e a).a r x H (fun y l=>(jb e b).a r x H (fun z l'=>Uz (er a++er b) t x y z fun w=>k w (vV t l l')) g) g) g with⟨t,hx,e2⟩|⟨e2,hne⟩
   ·rw[e2,hx]
    have h1:=iha r x H _ (fun fr l=>match evQ e r 400 H b x.fr with|some q=>kn (jw (er a++er b) t 0 x.fr fr q.1) (vV t l q.2)|none=>g) g
     (fun y l=>ihb r x H _ (fun fr l'=>kn (jw (er a++er b) t 0 x.fr y.fr fr) (vV t l l')) g (fun z l'=>mrgF_eq (er a++er b) t x y z (fun w=>k w (vV t l l')) (fun fr=>kn fr (vV t l l')) (fun w=>hk w _)))
    simp only at h1;rw[h1];simp only;cases ha:evQ e r 400 H a x.fr with
    |none=>rfl
    |some q=>
     simp only[bc];cases hb:evQ e r 400 H b x.fr<;>rfl
   ·rw[e2];split
    ·rename_i q hq;split at hq
     ·rename_i b hb;exact(hnb _ hb).elim
     ·rename_i b hb;exact(hne _ hb).elim
     ·cases hq
    ·rfl
 |_=>intros;intro r x H k kn g hk;rfl
end
end
end Go.AM
