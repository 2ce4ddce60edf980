/-
  Quick runs: code made ready, and functions; that they say the same as the evaluator. Closed runs, and runs over data that is not known.
-/
import Derived.Test.YteccopaonadbeaaGreatDoorAmY
set_option linter.unusedVariables false
set_option linter.unusedSimpArgs false
namespace Go.AM
noncomputable section
section
variable {R:Type}
theorem evOps_cons (u:Bool) (e:Env) (r:Rec) (ops:Array Oper) (k:Fr→Hp→Option R) (o:Oper) (os:List Oper) (fr:Fr) (H:Hp):
 evOps u e r ops k (o::os) fr H=evOps u e r ops (fun fr H=>evOps u e r ops k os fr H) [o] fr H:=by
 simp only[evOps]
def stepG (u:Bool) (e:Env) (ops:Array Oper) (o:Oper):KS R:=fun r fr H k=>evOps u e r ops k [o] fr H
def stepX (u:Bool) (e:Env) (ops:Array Oper) (o:Oper):KO R:=fun r x H k=>evOps u e r.d ops (fun fr H=>k (TF.of fr) H) [o] x.fr H
theorem stepX_eq (u:Bool) (e:Env) (ops:Array Oper) (o:Oper):Sp (stepX u e ops o:KO R) (stepG u e ops o):=by
 intro r x H k kn hk
 unfold stepX stepG
 have:(fun fr H=>k (TF.of fr) H)=kn:=by funext fr H;rw[hk,fr_of]
 rw[this]
def gdC (u:Bool) (e:Env) (ops:Array Oper) (o:Oper) (s:Nat) (want:Bool):KO R:=fun r fr H k=>
 getX fr s fun x=>asBool x (fun b=>bif (b==want)then(cop e o).a r fr H k else putF o.dst fr uv H k) (stepX u e ops o r fr H k)
def copG (u:Bool) (e:Env) (ops:Array Oper) (o:Oper):Bx (KO R):=
 bif !u&&isGuard ops o.dst then⟨stepX u e ops o⟩else
 match o.guard with
 |none=>cop e o
 |some (j,want)=>(match(ops[j]?).bind (·.dst)with
  |none=>⟨stepX u e ops o⟩
  |some s=>⟨gdC u e ops o s want⟩)
theorem refA_false (x:AV) (k:AV→Option R):refA false x k=k x:=rfl
theorem step_none {u:Bool} {e:Env} {ops:Array Oper} {o:Oper} (hg:o.guard=none) (hb:(!u&&isGuard ops o.dst)=false):(specO e o:KS R)=stepG u e ops o:=by
 funext r fr H k
 simp only[stepG,evOps,hg,hb,refA_false,opK_eq,putK_eq,specO]
theorem copG_eq (u:Bool) (e:Env) (ops:Array Oper) (o:Oper):Sp (copG u e ops o:Bx (KO R)).a (stepG u e ops o):=by
 unfold copG
 cases hb:(!u&&isGuard ops o.dst)with
 |true=>exact stepX_eq u e ops o
 |false=>
  simp only[cond_false]
  cases hg:o.guard with
  |none=>simp only;rw[← step_none hg hb];exact cop_eq e o
  |some p=>
   obtain⟨j,want⟩:=p
   simp only
   cases hs:(ops[j]?).bind (fun x:Oper=>x.dst)with
   |none=>exact stepX_eq u e ops o
   |some s=>
    intro r fr H k kn hk
    simp only[gdC,getX_eq]
    rcases asBool_cases (fr.fr.getD s .undef) (fun b=>bif (b==want)then(cop e o).a r fr H k else putF o.dst fr uv H k) (stepX u e ops o r fr H k)with⟨b,hx,e1⟩|e1
    ·rw[e1,cop_eq e o r fr H k kn hk,putF_eq hk]
     have hs':(ops[j]?).bind (fun x:Oper=>x.dst)=some s:=hs
     simp only[stepG,evOps,hg,hs',hx,guardK,hb,refA_false,opK_eq,putK_eq,specO]
     cases b with
     |true=>
      rw[set_getD hx]
      cases want<;>rfl
     |false=>
      rw[set_getD hx]
      cases want<;>rfl
    ·rw[e1];exact stepX_eq u e ops o r fr H k kn hk
def seqO (A B:Bx (KO R)):KO R:=fun r fr H k=>A.a r fr H fun fr H=>B.a r fr H k
def endO:KO R:=fun _ fr H k=>k fr H
def opsC (u:Bool) (e:Env) (ops:Array Oper):List Oper→Bx (KO R)
 | []=>⟨endO⟩
 |o::os=>⟨seqO (copG u e ops o) (opsC u e ops os)⟩
theorem opsC_eq (u:Bool) (e:Env) (ops:Array Oper):∀(os:List Oper),Sp (opsC u e ops os:Bx (KO R)).a (fun r fr H k=>evOps u e r ops k os fr H)
 | []=>fun _ _ _ _ _ hk=>hk _ _
 |o::os=>by
  intro r fr H k kn hk
  show _=evOps u e r.d ops kn (o::os) fr.fr H
  rw[evOps_cons]
  exact copG_eq u e ops o r fr H _ (fun fr H=>evOps u e r.d ops kn os fr H) fun y H'=>opsC_eq u e ops os r y H' k kn hk
def needP (e:Env) (pr:List (List Nat)) (ops:Array Oper) (i j:Nat):Bool:=
 !((pr.getD j []).elem i)&&(match ops[i]?,ops[j]? with
  |some x,some y=>(isLd x.op&&Nat.beq (cls e y.op) 3)||(Nat.beq (cls e x.op) 3&&isLd y.op)||(Nat.beq (cls e x.op) 2&&isSt y.op)
  |_,_=>false)
def needDyn (e:Env) (ops:Array Oper):List (Nat×Nat):=
 (List.range ops.size).flatMap fun j=>((List.range j).filter fun i=>needP e (preds ops) ops i j).map fun i=>(i,j)
def drawDynF (e:Env) (ops:Array Oper) (S:List (Fr×Hp)):Bool:=(needDyn e ops).all fun p=>dynPair e (preds ops) ops S p.1 p.2
theorem dynPair_need (e:Env) (pr:List (List Nat)) (ops:Array Oper) (S:List (Fr×Hp)) (i j:Nat) (h:needP e pr ops i j=false):dynPair e pr ops S i j=true:=by
 unfold needP at h
 unfold dynPair
 cases hp:(pr.getD j []).elem i with
 |true=>rfl
 |false=>
  simp only[hp,Bool.not_false,Bool.true_and]at h
  simp only[Bool.false_or]
  split
  ·rename_i x y hx hy
   rw[hx,hy]at h
   simp only[Bool.or_eq_false_iff]at h
   rw[h.1.1,h.1.2,h.2]
   rfl
  ·rfl
theorem drawDynF_eq (e:Env) (ops:Array Oper) (S:List (Fr×Hp)):drawDyn e ops S=drawDynF e ops S:=by
 rw[Bool.eq_iff_iff]
 simp only[drawDyn,drawDynF,needDyn,List.all_eq_true,List.mem_flatMap,List.mem_map,List.mem_filter,List.mem_range]
 constructor
 ·rintro h p ⟨j,hj,i,⟨hi,_⟩,rfl⟩
  exact h j hj i hi
 ·intro h j hj i hi
  cases hn:needP e (preds ops) ops i j with
  |true=>exact h (i,j) ⟨j,hj,i,⟨hi,hn⟩,rfl⟩
  |false=>exact dynPair_need e _ ops S i j hn
def st2 (p:TF×Hp):Fr×Hp:=(p.1.fr,p.2)
abbrev KT (R:Type):=RQ→List (TF×Hp)→TF→Hp→(List (TF×Hp)→TF→Hp→Option R)→Option R
def seqT (A:Bx (KO R)) (B:Bx (KT R)):KT R:=fun r log fr H k=>A.a r fr H fun fr' H'=>B.a r ((fr,H)::log) fr' H' k
def endT:KT R:=fun _ log fr H k=>k log fr H
def opsT (e:Env) (ops:Array Oper):List Oper→Bx (KT R)
 | []=>⟨endT⟩
 |o::os=>⟨seqT (copG false e ops o) (opsT e ops os)⟩
theorem opsT_eq (e:Env) (ops:Array Oper):∀(os:List Oper) (r:RQ) (log:List (TF×Hp)) (fr:TF) (H:Hp) (k:List (TF×Hp)→TF→Hp→Option R) (kn:List (Fr×Hp)→Fr→Hp→Option R),(∀l y H',k l y H'=kn (l.map st2) y.fr H')→
 (opsT e ops os).a r log fr H k=evOpsT e r.d ops kn os (log.map st2) fr.fr H
 | [],_,_,_,_,_,_,hk=>hk _ _ _
 |o::os,r,log,fr,H,k,kn,hk=>by
  simp only[opsT,seqT,evOpsT]
  exact copG_eq false e ops o r fr H _ _ fun y H'=>opsT_eq e ops os r ((fr,H)::log) y H' k kn hk
theorem evOpsT_plain (e:Env) (r:Rec) (ops:Array Oper) (k:Fr→Hp→Option R):∀(os:List Oper) (log:List (Fr×Hp)) (fr:Fr) (H:Hp),evOpsT e r ops (fun _ fr H=>k fr H) os log fr H=evOps false e r ops k os fr H
 | [],_,_,_=>rfl
 |o::os,log,fr,H=>by
  rw[evOps_cons]
  simp only[evOpsT,evOpsT_plain e r ops k os]
def failO:KO R:=fun _ _ _ _=>none
def keepO (env:Env) (x:Op) (fr:Fr) (H H':Hp) (i:Nat):Option (List Bool):=
 bif Nat.ble (cls env x) 1 then some []else bif Nat.blt i H.n then(bif (Nat.beq (cls env x) 2||(match chg env fr H x with|some ts=> !(ts.elem i)|none=>false))then some []else blkEqO (H.get i) (H'.get i))else none
theorem keepO_val (env:Env) (x:Op) (fr:Fr) (H H':Hp) (i:Nat):valO (keepO env x fr H H' i)=keepK env x fr H H' i:=by
 unfold keepO keepK
 cases Nat.ble (cls env x) 1 with
 |true=>rfl
 |false=>
  cases Nat.blt i H.n with
  |false=>rfl
  |true=>
   cases (Nat.beq (cls env x) 2||(match chg env fr H x with|some ts=> !(ts.elem i)|none=>false))with
   |true=>rfl
   |false=>rfl
def rangeO (env:Env) (ops:Array Oper) (S:List (Fr×Hp)) (i a b:Nat):Option (List Bool):=
 allO (fun d=>match ops[a+d]?,S[a+d]?,S[a+d+1]? with
  |some o,some p,some q=>keepO env o.op p.1 p.2 q.2 i
  |_,_,_=>none) (List.range (b-a))
theorem rangeO_val (env:Env) (ops:Array Oper) (S:List (Fr×Hp)) (i a b:Nat):valO (rangeO env ops S i a b)=rangeOk env ops S i a b:=by
 unfold rangeO rangeOk
 rw[valO_all]
 congr 1
 funext d
 cases ops[a+d]? with
 |none=>rfl
 |some o=>
  cases S[a+d]? with
  |none=>rfl
  |some p=>
   cases S[a+d+1]? with
   |none=>rfl
   |some q=>exact keepO_val ..
def ldKeepO (env:Env) (ops:Array Oper) (S:List (Fr×Hp)) (l a b:Nat):Op→Option (List Bool)
 | .load T (.tmp s)=>(match(S[l]?).map (fun(p:Fr×Hp)=>p.1.getD s .undef)with
   |some (.ptr i _)=>rangeO env ops S i a b
   |_=>ofB (ldKeep env ops S l a b (.load T (.tmp s))))
 |o=>ofB (ldKeep env ops S l a b o)
theorem ldKeepO_val (env:Env) (ops:Array Oper) (S:List (Fr×Hp)) (l a b:Nat) (o:Op):valO (ldKeepO env ops S l a b o)=ldKeep env ops S l a b o:=by
 unfold ldKeepO
 split
 ·split
  ·rename_i h
   rw[rangeO_val]
   simp only[ldKeep,h]
  ·exact valO_of _
 ·exact valO_of _
def dynPairO (env:Env) (pr:List (List Nat)) (ops:Array Oper) (S:List (Fr×Hp)) (i j:Nat):Option (List Bool):=
 bif (pr.getD j []).elem i then some []else(match ops[i]?,ops[j]? with
  |some x,some y=>
   bif isLd x.op&&Nat.beq (cls env y.op) 3 then ldKeepO env ops S i i (j+1) x.op
   else bif Nat.beq (cls env x.op) 3&&isLd y.op then ldKeepO env ops S j i j y.op
   else bif Nat.beq (cls env x.op) 2&&isSt y.op then ofB (stKeep S i j y.op)else some []
  |_,_=>some [])
theorem dynPairO_val (env:Env) (pr:List (List Nat)) (ops:Array Oper) (S:List (Fr×Hp)) (i j:Nat):valO (dynPairO env pr ops S i j)=dynPair env pr ops S i j:=by
 unfold dynPairO dynPair
 cases (pr.getD j []).elem i with
 |true=>rfl
 |false=>
  simp only[cond_false,Bool.false_or]
  cases ops[i]? with
  |none=>rfl
  |some x=>
   cases ops[j]? with
   |none=>rfl
   |some y=>
    simp only
    cases isLd x.op&&Nat.beq (cls env y.op) 3 with
    |true=>exact ldKeepO_val ..
    |false=>
     cases Nat.beq (cls env x.op) 3&&isLd y.op with
     |true=>exact ldKeepO_val ..
     |false=>
      cases Nat.beq (cls env x.op) 2&&isSt y.op with
      |true=>exact valO_of _
      |false=>rfl
def drawDynL (e:Env) (ops:Array Oper) (l:List (Nat×Nat)) (S:List (Fr×Hp)):Bool:=valO (allO (fun p=>dynPairO e (preds ops) ops S p.1 p.2) l)
theorem drawDynL_eq (e:Env) (ops:Array Oper) (l:List (Nat×Nat)) (S:List (Fr×Hp)):drawDynL e ops l S=l.all fun p=>dynPair e (preds ops) ops S p.1 p.2:=by
 unfold drawDynL
 rw[valO_all]
 congr 1
 funext p
 exact dynPairO_val ..
def dynC (e:Env) (ops:Array Oper) (l:List (Nat×Nat)) (A:Bx (KT R)):KO R:=fun r fr H k=>
 A.a r [] fr H fun log fr H=>bif drawDynL e ops l ((log.map st2).reverse ++ [(fr.fr,H)])then k fr H else none
def drawC (e:Env) (ops:Array Oper):Bx (KO R):=
 match needDyn e ops with
 | []=>opsC false e ops ops.toList
 |p::ps=>⟨dynC e ops (p::ps) (opsT e ops ops.toList)⟩
def clrO (s:Nat) (A:Bx (KO R)):KO R:=fun r fr H k=>setX fr s .undef fun fr=>A.a r fr H k
def clrB (e:Env) (ops:Array Oper) (A:Bx (KO R)):Bx (KO R):=
 match lateS e ops with
 |some s=>⟨clrO s A⟩
 |none=>A
theorem clrB_eq (e:Env) (ops:Array Oper) (A:Bx (KO R)) (r:RQ) (fr:TF) (H:Hp) (k:TF→Hp→Option R):∃y:TF,(clrB e ops A).a r fr H k=A.a r y H k∧y.fr=clrE e ops fr.fr:=by
 unfold clrB clrE
 cases lateS e ops with
 |none=>exact⟨fr,rfl,rfl⟩
 |some s=>exact⟨fr.set s .undef,by show clrO s A r fr H k=A.a r (fr.set s .undef) H k;unfold clrO;exact setX_eq fr s .undef (fun fr=>A.a r fr H k),fr_set _ _ _⟩
def regC (e:Env) (ops:Array Oper) (draw:Bool):Bx (KO R):=
 bif draw then(bif drawOk e (fixO e ops)&&fixOk e ops then clrB e ops (drawC e (fixO e ops))else⟨failO⟩)else opsC true e ops ops.toList
theorem regC_eq (e:Env) (ops:Array Oper) (draw:Bool) (id:Nat) (F:Nat) (r:RQ) (fr:TF) (H:Hp) (k:TF→Hp→Option R) (kn:Fr→Hp→Option R) (kx:Nat→Fr→Hp→Option R) (kr:Fr→Hp→Option R) (kg:Nat→Fr→Hp→Option R) (hk:∀y H',k y H'=kn y.fr H'):
 (regC e ops draw).a r fr H k=ev e r.d F none (.region id ops draw) fr.fr H kn kx kr kg:=by
 simp only[regC,ev]
 cases draw with
 |false=>exact opsC_eq true e ops _ r fr H k kn hk
 |true=>
  simp only[cond_true]
  cases drawOk e (fixO e ops)&&fixOk e ops with
  |false=>rfl
  |true=>
   simp only[cond_true,drawDynF_eq]
   obtain⟨y,hy,hyf⟩:=clrB_eq e ops (drawC e (fixO e ops)) r fr H k
   rw[hy, ← hyf]
   generalize fixO e ops=ops
   clear hy hyf
   revert y
   intro fr
   cases hn:needDyn e ops with
   |nil=>
    simp only[drawC,hn]
    have:(fun(log:List (Fr×Hp)) (fr:Fr) (H:Hp)=>bif drawDynF e ops (log.reverse ++ [(fr,H)])then kn fr H else none)=fun _ fr H=>kn fr H:=by
     funext log fr H
     simp only[drawDynF,hn,List.all_nil,cond_true]
    rw[this,evOpsT_plain]
    exact opsC_eq false e ops _ r fr H k kn hk
   |cons p ps=>
    simp only[drawC,hn,dynC]
    refine(opsT_eq e ops _ r [] fr H _ (fun log fr H=>bif drawDynF e ops (log.reverse ++ [(fr,H)])then kn fr H else none) ?_)
    intro l y H'
    simp only[drawDynL_eq,drawDynF,hn,hk]
abbrev KQ (R:Type):=Rec→TF→Hp→(TF→List Bool→Option R)→Option R→Option R
def SpQ (A:KQ R) (E:Rec→Fr→Hp→Option (Fr×List Bool)):Prop:=
 ∀r (x:TF) H (k:TF→List Bool→Option R) (kn:Fr→List Bool→Option R) (g:Option R),(∀y l,k y l=kn y.fr l)→A r x H k g=(match E r x.fr H with|some q=>kn q.1 q.2|none=>g)
def asUb {S:Type} (x:AV):(Bool→S)→S→S:=
 match x with
 | .ub b=>fun f _=>f b
 |_=>dfl
theorem asBool_cases2 {S:Type} (x:AV) (f:Bool→S) (g:S):(∃b,x = .sc (.bool b)∧asBool x f g=f b)∨(asBool x f g=g∧∀b,x≠ .sc (.bool b)):=by
 cases x<;>try exact .inr ⟨rfl,fun _ h=>by cases h⟩
 rename_i v
 cases v<;>first|exact .inr ⟨rfl,fun _ h=>by cases h⟩|exact .inl ⟨_,rfl,rfl⟩
theorem asUb_cases {S:Type} (x:AV) (f:Bool→S) (g:S):(∃b,x = .ub b∧asUb x f g=f b)∨(asUb x f g=g∧∀b,x≠ .ub b):=by
 cases x<;>first|exact .inl ⟨_,rfl,rfl⟩|exact .inr ⟨rfl,fun _ h=>by cases h⟩
def putQ {S:Type} (d:Option Tmp) (x:TF) (v:AV) (k:TF→S):S:=match d with|some t=>setX x t v k|none=>k x
theorem putQ_eq {S:Type} (d:Option Tmp) (x:TF) (v:AV) (k:TF→S) (kn:Fr→S) (hk:∀y,k y=kn y.fr):putQ d x v k=kn (putA x.fr d v):=by
 cases d with
 |none=>exact hk _
 |some t=>simp only[putQ,setX_eq,hk,fr_set,putA]
def qOp (e:Env) (o:Oper) (K:KQ R):KQ R:=fun r x H k g=>
 optK (evOp0 e r x.fr H o.type o.op) g fun p=>frA 3 p.1 fun v=>putQ o.dst x v fun y=>K r y H (fun z l=>k z (obl e x.fr H o.op++l)) g
where optK (p:Option (AV×Hp)) (g:Option R):(AV×Hp→Option R)→Option R:=match p with|some p=>fun f=>f p|none=>fun _=>g
def qFail:KQ R:=fun _ _ _ _ g=>g
def qEnd:KQ R:=fun _ x _ k _=>k x []
def qGen (E:Rec→Fr→Hp→Option (Fr×List Bool)):KQ R:=fun r x H k g=>match E r x.fr H with|some q=>k (TF.of q.1) q.2|none=>g
theorem qGen_eq (E:Rec→Fr→Hp→Option (Fr×List Bool)):SpQ (qGen E:KQ R) E:=by
 intro r x H k kn g hk
 unfold qGen
 cases E r x.fr H with
 |none=>rfl
 |some q=>simp only[hk,fr_of]
theorem qOp_eq {e:Env} {o:Oper} {K:KQ R} {E:Rec→Fr→Hp→Option (Fr×List Bool)} (hK:SpQ K E):
 SpQ (qOp e o K) (fun r fr H=>(evOp0 e r fr H o.type o.op).bind fun p=>(E r (putA fr o.dst p.1) H).bind fun q=>some (q.1,obl e fr H o.op++q.2)):=by
 intro r x H k kn g hk
 simp only[qOp]
 cases hp:evOp0 e r x.fr H o.type o.op with
 |none=>rfl
 |some p=>
  simp only[qOp.optK,frA_eq,Option.bind_some]
  rw[putQ_eq o.dst x p.1 _ (fun fr=>match E r fr H with|some q=>kn q.1 (obl e x.fr H o.op++q.2)|none=>g) (fun y=>hK r y H _ (fun fr l=>kn fr (obl e x.fr H o.op++l)) g (fun z l=>hk z _))]
  cases E r (putA x.fr o.dst p.1) H<;>rfl
def mQ (e:Env) (ops:Array Oper):Nat→List Oper→Bx (KQ R)
 |0,_=>⟨qFail⟩
 |_+1,[]=>⟨qEnd⟩
 |n+1,o::os=>match o.guard with
  |none=>⟨qOp e o (mQ e ops n os).a⟩
  |some _=>⟨qGen fun r fr H=>mOps e r ops H (n+1) (o::os) fr⟩
theorem mQ_eq (e:Env) (ops:Array Oper):∀(n:Nat) (os:List Oper),SpQ (mQ e ops n os:Bx (KQ R)).a (fun r fr H=>mOps e r ops H n os fr)
 |0,_=>fun _ _ _ _ _ _ _=>rfl
 |_+1,[]=>fun _ _ _ _ _ _ hk=>hk _ _
 |n+1,o::os=>by
  unfold mQ
  cases hg:o.guard with
  |none=>
   simp only
   have hK:SpQ (mQ e ops n os:Bx (KQ R)).a (fun r fr H=>mOps e r ops H n os fr):=mQ_eq e ops n os
   have:=qOp_eq (e:=e) (o:=o) hK
   simp only[mOps,hg]
   exact this
  |some p=>exact qGen_eq (fun r fr H=>mOps e r ops H (n+1) (o::os) fr)
def foldD (t:Bool) (y z:TF):List Nat→TF→TF
 | [],w=>w
 |d::ds,w=>foldD t y z ds (w.set d (mrgA t (y.fr.getD d .undef) (z.fr.getD d .undef)))
def mrgD {S:Type} (t:Bool) (y z:TF):List Nat→TF→(TF→S)→S
 | [],w,k=>k w
 |d::ds,w,k=>getX y d fun a=>getX z d fun b=>frA 3 (mrgA t a b) fun v=>setX w d v fun w=>mrgD t y z ds w k
theorem mrgD_eq {S:Type} (t:Bool) (y z:TF):∀(ds:List Nat) (w:TF) (k:TF→S),mrgD t y z ds w k=k (foldD t y z ds w)
 | [],_,_=>rfl
 |d::ds,w,k=>by simp only[mrgD,getX_eq,frA_eq,setX_eq,mrgD_eq t y z ds,foldD]
theorem foldD_get (t:Bool) (y z:TF):∀(ds:List Nat) (w:TF) (j:Nat),(foldD t y z ds w).n=w.n∧(foldD t y z ds w).get j=if j∈ds then mrgA t (y.fr.getD j .undef) (z.fr.getD j .undef)else w.get j
 | [],w,j=>by simp[foldD]
 |d::ds,w,j=>by
  obtain⟨h1,h2⟩:=foldD_get t y z ds (w.set d (mrgA t (y.fr.getD d .undef) (z.fr.getD d .undef))) j
  refine⟨h1,?_⟩
  simp only[foldD,h2,TF.get_set,List.mem_cons]
  by_cases hj:j∈ds
  ·simp[hj]
  ·by_cases hd:j=d
   ·subst hd;simp
   ·simp[hj,hd]
theorem mrgL_at (ds:List Nat) (b:Bool):∀(ps xs ys:List AV) (i j:Nat),xs.length=ps.length→ys.length=ps.length→
 (mrgL ds b i ps xs ys)[j]? = if j<ps.length then some (if i+j∈ds then mrgA b (xs.getD j .undef) (ys.getD j .undef)else ps.getD j .undef)else none
 | [],xs,ys,i,j,_,_=>by simp[mrgL]
 |p::ps,[],ys,i,j,h,_=>by simp at h
 |p::ps,x::xs,[],i,j,_,h=>by simp at h
 |p::ps,x::xs,y::ys,i,0,_,_=>by
  simp only[mrgL,List.getElem?_cons_zero,List.length_cons,Nat.zero_lt_succ,if_true,Nat.add_zero,List.getD_cons_zero]
  by_cases h:i∈ds
  ·simp[h]
  ·simp[h]
 |p::ps,x::xs,y::ys,i,j+1,h1,h2=>by
  simp only[List.length_cons,Nat.add_right_cancel_iff]at h1 h2
  simp only[mrgL,List.getElem?_cons_succ,mrgL_at ds b ps xs ys (i+1) j h1 h2,List.length_cons,Nat.add_lt_add_iff_right,List.getD_cons_succ]
  rw[show i+1+j=i+(j+1)by omega]
theorem fr_len (x:TF):x.fr.length=x.n:=by
 have:∀m i,(slotsL x m i).length=m:=by
  intro m
  induction m with
  |zero=>intro i;rfl
  |succ m ih=>intro i;simp only[slotsL_succ,List.length_cons,ih]
 exact this _ _
def mrgF {S:Type} (ds:List Nat) (t:Bool) (p y z:TF) (k:TF→S):S:=
 bif Nat.beq y.n p.n&&Nat.beq z.n p.n then mrgD t y z ds p k else k (TF.of (mrgL ds t 0 p.fr y.fr z.fr))
theorem mrgF_eq {S:Type} (ds:List Nat) (t:Bool) (p y z:TF) (k:TF→S) (kn:Fr→S) (hk:∀w,k w=kn w.fr):mrgF ds t p y z k=kn (mrgL ds t 0 p.fr y.fr z.fr):=by
 unfold mrgF
 cases hb:(Nat.beq y.n p.n&&Nat.beq z.n p.n)with
 |false=>simp only[cond_false,hk,fr_of]
 |true=>
  simp only[Bool.and_eq_true]at hb
  have h1:=Nat.eq_of_beq_eq_true hb.1
  have h2:=Nat.eq_of_beq_eq_true hb.2
  simp only[cond_true,mrgD_eq,hk]
  congr 1
  apply List.ext_getElem?
  intro j
  rw[fr_get,mrgL_at _ _ _ _ _ _ _ (by rw[fr_len,fr_len,h1]) (by rw[fr_len,fr_len,h2]),fr_len,Nat.zero_add]
  obtain⟨e1,e2⟩:=foldD_get t y z ds p j
  rw[e1,e2]
  by_cases hj:j<p.n
  ·rw[if_pos hj,if_pos hj]
   congr 2
   rw[List.getD_eq_getElem?_getD,fr_get,if_pos hj];rfl
  ·rw[if_neg hj,if_neg hj]
def seqQ (A B:Bx (KQ R)):KQ R:=fun r x H k g=>A.a r x H (fun y l=>B.a r y H (fun z l'=>k z (l++l')) g) g
def condQ (c:Operand) (ds:List Nat) (A B:Bx (KQ R)):KQ R:=fun r x H k g=>
 opdK c x fun v=>asBool v (fun t=>Bool.rec (motive:=fun _=>Option R) (B.a r x H k g) (A.a r x H k g) t)
  (asUb v (fun t=>A.a r x H (fun y l=>B.a r x H (fun z l'=>mrgF ds t x y z fun w=>k w (mrgO t l l')) g) g) g)
def compQ (e:Env):Code→Bx (KQ R)
 | .skip=>⟨qEnd⟩
 | .region _ ops _=>mQ e ops 400 ops.toList
 | .seq a b=>⟨seqQ (compQ e a) (compQ e b)⟩
 | .cond c a b=>⟨condQ c (dstsC a++dstsC b) (compQ e a) (compQ e b)⟩
 |_=>⟨qFail⟩
theorem compQ_eq (e:Env):∀c:Code,SpQ (compQ e c:Bx (KQ R)).a (fun r fr H=>evQ e r 400 H c fr):=by
 intro c
 induction c with
 |skip=>intro r x H k kn g hk;exact hk _ _
 |region id ops draw=>exact mQ_eq e ops 400 ops.toList
 |seq a b iha ihb=>
  intro r x H k kn g hk
  simp only[compQ,seqQ,evQ]
  have h1:=iha r x H _ (fun fr l=>match evQ e r 400 H b fr with|some q=>kn q.1 (l++q.2)|none=>g) g (fun y l=>ihb r y H _ (fun fr l'=>kn fr (l++l')) g (fun z l'=>hk z _))
  simp only at h1
  rw[h1]
  cases ha:evQ e r 400 H a x.fr with
  |none=>rfl
  |some q=>
   simp only[Option.bind_some]
   cases hb:evQ e r 400 H b q.1<;>rfl
 |cond c a b iha ihb=>
  intro r x H k kn g hk
  simp only[compQ,condQ,opdK_eq,evQ]
  rcases asBool_cases2 (opd x.fr c) (fun t=>Bool.rec (motive:=fun _=>Option R) ((compQ e b).a r x H k g) ((compQ e a).a r x H k g) t) (asUb (opd x.fr c) (fun t=>(compQ e a).a r x H (fun y l=>(compQ e b).a r x H (fun z l'=>mrgF (dstsC a++dstsC b) t x y z fun w=>k w (mrgO t l l')) g) g) g)with⟨t,hx,e1⟩|⟨e1,hnb⟩
  ·rw[e1,hx]
   cases t with
   |true=>exact iha r x H k kn g hk
   |false=>exact ihb r x H k kn g hk
  ·rw[e1]
   rcases asUb_cases (opd x.fr c) (fun t=>(compQ e a).a r x H (fun y l=>(compQ e b).a r x H (fun z l'=>mrgF (dstsC a++dstsC b) t x y z fun w=>k w (mrgO t l l')) g) g) g with⟨t,hx,e2⟩|⟨e2,hne⟩
   ·rw[e2,hx]
    have h1:=iha r x H _ (fun fr l=>match evQ e r 400 H b x.fr with|some q=>kn (mrgL (dstsC a++dstsC b) t 0 x.fr fr q.1) (mrgO t l q.2)|none=>g) g
     (fun y l=>ihb r x H _ (fun fr l'=>kn (mrgL (dstsC a++dstsC b) t 0 x.fr y.fr fr) (mrgO t l l')) g (fun z l'=>mrgF_eq (dstsC a++dstsC b) t x y z (fun w=>k w (mrgO t l l')) (fun fr=>kn fr (mrgO t l l')) (fun w=>hk w _)))
    simp only at h1
    rw[h1]
    simp only
    cases ha:evQ e r 400 H a x.fr with
    |none=>rfl
    |some q=>
     simp only[Option.bind_some]
     cases hb:evQ e r 400 H b x.fr<;>rfl
   ·rw[e2]
    split
    ·rename_i q hq
     split at hq
     ·rename_i b hb;exact(hnb _ hb).elim
     ·rename_i b hb;exact(hne _ hb).elim
     ·cases hq
    ·rfl
 |_=>intros;intro r x H k kn g hk;rfl
end
end
end Go.AM
