/-
  Quick runs: whole functions; closed runs, and runs over data that is not known.
-/
import Derived.Test.YteccopaonadbeaaGreatDoorAmZ
import Derived.Test.YteccopaonadbeaaGreatDoorAmV
set_option linter.unusedVariables false
set_option linter.unusedSimpArgs false
namespace Go.AM
noncomputable section
section
variable {R:Type}
abbrev KC (R:Type):=RQ→TF→Hp→(TF→Hp→Option R)→(Nat→TF→Hp→Option R)→(TF→Hp→Option R)→(Nat→TF→Hp→Option R)→Option R
def SpC (e:Env) (F:Nat) (A:KC R) (c:Code):Prop:=
 ∀(r:RQ) (x:TF) (H:Hp) (kn:TF→Hp→Option R) (kx:Nat→TF→Hp→Option R) (kr:TF→Hp→Option R) (kg:Nat→TF→Hp→Option R) (kn':Fr→Hp→Option R) (kx':Nat→Fr→Hp→Option R) (kr':Fr→Hp→Option R) (kg':Nat→Fr→Hp→Option R),
  (∀y H',kn y H'=kn' y.fr H')→(∀i y H',kx i y H'=kx' i y.fr H')→(∀y H',kr y H'=kr' y.fr H')→(∀i y H',kg i y H'=kg' i y.fr H')→
  A r x H kn kx kr kg=ev e r.d F none c x.fr H kn' kx' kr' kg'
def toL (k:TF→Hp→Option R):Fr→Hp→Option R:=fun fr H=>k (TF.of fr) H
def toL2 (k:Nat→TF→Hp→Option R):Nat→Fr→Hp→Option R:=fun i fr H=>k i (TF.of fr) H
theorem toL_eq {k:TF→Hp→Option R} {k':Fr→Hp→Option R} (h:∀y H',k y H'=k' y.fr H'):toL k=k':=by
 funext fr H;simp only[toL,h,fr_of]
theorem toL2_eq {k:Nat→TF→Hp→Option R} {k':Nat→Fr→Hp→Option R} (h:∀i y H',k i y H'=k' i y.fr H'):toL2 k=k':=by
 funext i fr H;simp only[toL2,h,fr_of]
def skipC:KC R:=fun _ x H kn _ _ _=>kn x H
def retC:KC R:=fun _ x H _ _ kr _=>kr x H
def exitC (id:Nat):KC R:=fun _ x H _ kx _ _=>kx id x H
def gotoC (l:Nat):KC R:=fun _ x H _ _ _ kg=>kg l x H
def seqC (A B:Bx (KC R)):KC R:=fun r x H kn kx kr kg=>A.a r x H (fun x H=>B.a r x H kn kx kr kg) kx kr kg
def seqqC (Q:Bx (KQ R)) (A B:Bx (KC R)):KC R:=fun r x H kn kx kr kg=>Q.a r.d x H (fun y l=>guardAll (B.a r y H kn kx kr kg) l) (A.a r x H (fun x H=>B.a r x H kn kx kr kg) kx kr kg)
def condC (c:Operand) (A B:Bx (KC R)):KC R:=fun r x H kn kx kr kg=>
 opdK c x fun v=>asBool v (fun t=>Bool.rec (motive:=fun _=>Option R) (B.a r x H kn kx kr kg) (A.a r x H kn kx kr kg) t) (asUb v (fun t=>bif t then A.a r x H kn kx kr kg else B.a r x H kn kx kr kg) none)
def blockC (id:Nat) (A:Bx (KC R)):KC R:=fun r x H kn kx kr kg=>A.a r x H kn (fun i x H=>bif Nat.beq i id then kn x H else kx i x H) kr kg
def loopK (A:Bx (KC R)):Nat→KC R
 |0=>fun _ _ _ _ _ _ _=>none
 |n+1=>fun r x H kn kx kr kg=>A.a r x H (fun x H=>loopK A n r x H kn kx kr kg) kx kr kg
def lpC (g:Fr→Hp→Ot):KC R:=fun _ x H _ kx kr kg=>(g x.fr H).go (fun _ _=>none) (toL2 kx) (toL kr) (toL2 kg)
def plainC (A:Bx (KO R)):KC R:=fun r x H kn _ _ _=>A.a r x H kn
def scopeC (e:Env) (F:Nat) (c:Code) (A:Bx (KC R)):KC R:=fun r x H kn kx kr kg=>
 A.a r x H kn kx kr (fun l y H'=>jumpN e.clr (tmpsOf c) H.n c (toL2 kg) (fun l fr H kg=>ev e r.d F (some l) c fr H (toL kn) (toL2 kx) (toL kr) kg) F l y.fr H')
def genC (e:Env) (F:Nat) (c:Code):KC R:=fun r x H kn kx kr kg=>ev e r.d F none c x.fr H (toL kn) (toL2 kx) (toL kr) (toL2 kg)
theorem genC_eq (e:Env) (F:Nat) (c:Code):SpC e F (genC e F c:KC R) c:=by
 intro r x H kn kx kr kg kn' kx' kr' kg' h1 h2 h3 h4
 simp only[genC,toL_eq h1,toL2_eq h2,toL_eq h3,toL2_eq h4]
def loopC' (e:Env) (F:Nat) (c:Code) (A:Bx (KC R)):Bx (KC R):=
 match e.lp e.n0 c with
 |some g=>⟨lpC g⟩
 |none=>bif e.clr then⟨genC e F (.loop c)⟩else⟨loopK A F⟩
def comp (e:Env) (F:Nat):Code→Bx (KC R)
 | .skip=>⟨skipC⟩
 | .label _=>⟨skipC⟩
 | .ret=>⟨retC⟩
 | .exit id=>⟨exitC id⟩
 | .goto l=>⟨gotoC l⟩
 | .seq a b=>bif e.clr&&quiet e a then⟨seqqC (compQ e a) (comp e F a) (comp e F b)⟩else⟨seqC (comp e F a) (comp e F b)⟩
 | .cond c a b=>⟨condC c (comp e F a) (comp e F b)⟩
 | .block id c=>⟨blockC id (comp e F c)⟩
 | .loop c=>loopC' e F c (comp e F c)
 | .scope c=>⟨scopeC e F c (comp e F c)⟩
 | .region _ ops draw=>⟨plainC (regC e ops draw)⟩
 |c=>⟨genC e F c⟩
theorem comp_eq (e:Env) (F:Nat):∀c:Code,SpC e F (comp e F c:Bx (KC R)).a c:=by
 intro c
 induction c with
 |skip=>intro r x H kn kx kr kg kn' kx' kr' kg' h1 h2 h3 h4;exact h1 _ _
 |label l=>intro r x H kn kx kr kg kn' kx' kr' kg' h1 h2 h3 h4;exact h1 _ _
 |ret=>intro r x H kn kx kr kg kn' kx' kr' kg' h1 h2 h3 h4;exact h3 _ _
 |exit id=>intro r x H kn kx kr kg kn' kx' kr' kg' h1 h2 h3 h4;exact h2 _ _ _
 |goto l=>intro r x H kn kx kr kg kn' kx' kr' kg' h1 h2 h3 h4;exact h4 _ _ _
 |seq a b iha ihb=>
  intro r x H kn kx kr kg kn' kx' kr' kg' h1 h2 h3 h4
  have hs:∀x H,(comp e F a:Bx (KC R)).a r x H (fun x H=>(comp e F b).a r x H kn kx kr kg) kx kr kg=ev e r.d F none a x.fr H (fun fr H=>ev e r.d F none b fr H kn' kx' kr' kg') kx' kr' kg':=
   fun x H=>iha r x H _ _ _ _ _ _ _ _ (fun y H'=>ihb r y H' _ _ _ _ _ _ _ _ h1 h2 h3 h4) h2 h3 h4
  simp only[comp,ev]
  cases hq:(e.clr&&quiet e a)with
  |false=>exact hs x H
  |true=>
   simp only[cond_true,seqqC]
   rw[hs]
   have:=compQ_eq e a r.d x H (fun y l=>guardAll ((comp e F b:Bx (KC R)).a r y H kn kx kr kg) l) (fun fr l=>guardAll (ev e r.d F none b fr H kn' kx' kr' kg') l) (ev e r.d F none a x.fr H (fun fr H=>ev e r.d F none b fr H kn' kx' kr' kg') kx' kr' kg')
    (fun y l=>by rw[ihb r y H _ _ _ _ _ _ _ _ h1 h2 h3 h4])
   simp only at this
   exact this
 |cond c a b iha ihb=>
  intro r x H kn kx kr kg kn' kx' kr' kg' h1 h2 h3 h4
  simp only[comp,condC,opdK_eq,ev]
  have ha:=iha r x H _ _ _ _ _ _ _ _ h1 h2 h3 h4
  have hb:=ihb r x H _ _ _ _ _ _ _ _ h1 h2 h3 h4
  rw[ha,hb]
  rcases asBool_cases2 (opd x.fr c) (fun t=>Bool.rec (motive:=fun _=>Option R) (ev e r.d F none b x.fr H kn' kx' kr' kg') (ev e r.d F none a x.fr H kn' kx' kr' kg') t) (asUb (opd x.fr c) (fun t=>bif t then ev e r.d F none a x.fr H kn' kx' kr' kg' else ev e r.d F none b x.fr H kn' kx' kr' kg') none)with⟨t,hx,e1⟩|⟨e1,hnb⟩
  ·rw[e1,hx];cases t<;>rfl
  ·rw[e1]
   rcases asUb_cases (opd x.fr c) (fun t=>bif t then ev e r.d F none a x.fr H kn' kx' kr' kg' else ev e r.d F none b x.fr H kn' kx' kr' kg') none with⟨t,hx,e2⟩|⟨e2,hne⟩
   ·rw[e2,hx]
   ·rw[e2]
    split
    ·rename_i b hb;exact(hnb _ hb).elim
    ·rename_i b hb;exact(hne _ hb).elim
    ·rfl
 |block id c ih=>
  intro r x H kn kx kr kg kn' kx' kr' kg' h1 h2 h3 h4
  simp only[comp,blockC,ev]
  refine ih r x H _ _ _ _ _ _ _ _ h1 ?_ h3 h4
  intro i y H'
  rw[h1,h2]
 |loop c ih=>
  unfold comp loopC'
  cases hl:e.lp e.n0 c with
  |some g=>
   intro r x H kn kx kr kg kn' kx' kr' kg' h1 h2 h3 h4
   simp only[lpC,ev,hl,toL2_eq h2,toL_eq h3,toL2_eq h4]
  |none=>
   cases hc:e.clr with
   |true=>exact genC_eq e F (.loop c)
   |false=>
    intro r x H kn kx kr kg kn' kx' kr' kg' h1 h2 h3 h4
    simp only[ev,hl,hc,cond_false]
    have key:∀L n x H,loopK (comp e F c) n r x H kn kx kr kg=loopN false (tmpsOf c) L (fun fr H kn=>ev e r.d F none c fr H kn kx' kr' kg') n x.fr H:=by
     intro L n
     induction n with
     |zero=>intros;rfl
     |succ n ihn=>
      intro x H
      simp only[loopK,loopN,cond_false]
      exact ih r x H _ _ _ _ _ _ _ _ (fun y H'=>ihn y H') h2 h3 h4
    exact key H.n F x H
 |scope c ih=>
  intro r x H kn kx kr kg kn' kx' kr' kg' h1 h2 h3 h4
  simp only[comp,scopeC,ev]
  refine ih r x H _ _ _ _ _ _ _ _ h1 h2 h3 ?_
  intro i y H'
  rw[toL_eq h1,toL2_eq h2,toL_eq h3,toL2_eq h4]
 |region id ops draw=>
  intro r x H kn kx kr kg kn' kx' kr' kg' h1 h2 h3 h4
  exact regC_eq e ops draw id F r x H kn kn' kx' kr' kg' h1
 |rangeFunc f ps x y ihx ihy=>exact genC_eq e F _
 |refuse why=>exact genC_eq e F _
end
def bodyC {R:Type} (e:Env) (K:Bx (KC R)) (nt:Nat) (rs:List ResultVar):RQ→List AV→Hp→(AV→Hp→Option R)→Option R:=fun r args H k=>
 frS (frame0 args nt) fun fr=>K.a r (TF.of fr) H (fun x H=>(retA e.P rs x.fr H).bind fun p=>k p.1 p.2) (fun _ _ _=>none) (fun x H=>(retA e.P rs x.fr H).bind fun p=>k p.1 p.2) (fun _ _ _=>none)
def noneC {R:Type}:RQ→List AV→Hp→(AV→Hp→Option R)→Option R:=fun _ _ _ _=>none
def fnC {R:Type} (e:Env) (F:Nat) (f:FuncId):Bx (RQ→List AV→Hp→(AV→Hp→Option R)→Option R):=
 match e.fn f with
 |some fn=>⟨bodyC e (comp e F fn.code) fn.ntmps fn.results⟩
 |none=>⟨noneC⟩
theorem fnC_eq {R:Type} (e:Env) (F:Nat) (f:FuncId) (r:RQ) (args:List AV) (H:Hp) (k:AV→Hp→Option R) (hn:e.n0=H.n):(fnC e F f).a r args H k=bodyK e r.d F f args H k:=by
 have he:({e with n0:=H.n}:Env)=e:=by rw[← hn]
 unfold fnC bodyK
 rw[he]
 cases e.fn f with
 |none=>rfl
 |some fn=>
  simp only[bodyC,frS_eq,Option.bind_some]
  rw[comp_eq e F fn.code r (TF.of (frame0 args fn.ntmps)) H _ _ _ _ (fun fr H=>(retA e.P fn.results fr H).bind fun p=>k p.1 p.2) (fun _ _ _=>none) (fun fr H=>(retA e.P fn.results fr H).bind fun p=>k p.1 p.2) (fun _ _ _=>none) (fun _ _=>rfl) (fun _ _ _=>rfl) (fun _ _=>rfl) (fun _ _ _=>rfl),fr_of]
theorem fnC_bind {R:Type} (e:Env) (F:Nat) (f:FuncId) (r:RQ) (args:List AV) (H:Hp) (k:AV→Hp→Option R):(fnC e F f).a r args H k=((fnC e F f).a r args H fun v H=>some (v,H)).bind fun p=>k p.1 p.2:=by
 unfold fnC
 cases e.fn f with
 |none=>rfl
 |some fn=>
  simp only[bodyC,frS_eq]
  rw[comp_eq e F fn.code r (TF.of (frame0 args fn.ntmps)) H _ _ _ _ (fun fr H=>(retA e.P fn.results fr H).bind fun p=>k p.1 p.2) (fun _ _ _=>none) (fun fr H=>(retA e.P fn.results fr H).bind fun p=>k p.1 p.2) (fun _ _ _=>none) (fun _ _=>rfl) (fun _ _ _=>rfl) (fun _ _=>rfl) (fun _ _ _=>rfl),
   comp_eq e F fn.code r (TF.of (frame0 args fn.ntmps)) H _ _ _ _ (fun fr H=>(retA e.P fn.results fr H).bind fun p=>some (p.1,p.2)) (fun _ _ _=>none) (fun fr H=>(retA e.P fn.results fr H).bind fun p=>some (p.1,p.2)) (fun _ _ _=>none) (fun _ _=>rfl) (fun _ _ _=>rfl) (fun _ _=>rfl) (fun _ _ _=>rfl),ev_bind]
  congr 1
  ·funext fr H;cases retA e.P fn.results fr H<;>rfl
  ·funext fr H;cases retA e.P fn.results fr H<;>rfl
end
end Go.AM
