/-
  Tables of what is known of functions and of loops; how a table grows.
-/
import Derived.Test.YteccopaonadbeaaGreatDoorAmL
set_option linter.unusedVariables false
set_option linter.unusedSimpArgs false
namespace Go.AM
def Ok (P:Program) (f:FuncId) (args:List AV) (H:Hp) (v:AV) (H':Hp):Prop:=
 ∀lo w0 ρ E w (vs:Array Value),Inv lo w0 ρ E H w→RepL ρ E w args vs.toList→
  Calls P f vs w fun e w'=>∃u ρ' E',e = .returned u∧Inv lo w0 ρ' E' H' w'∧Reach lo ρ E w ρ' E' w'∧Rep ρ' E' w' v u
theorem Ok.le {P:Program} {f:FuncId} {args:List AV} {H H':Hp} {v v':AV} (h:Ok P f args H v H') (hle:AVle v v'):Ok P f args H v' H':=by
 intro lo w0 ρ E w vs inv ra
 refine(h lo w0 ρ E w vs inv ra).mono ?_
 rintro e w' ⟨u,ρ',E',he,h1,h2,h3⟩
 exact⟨u,ρ',E',he,h1,h2,hle _ _ _ _ h3⟩
def firstId:Code→Nat
 | .region i _ _=>i
 | .seq a b=>match firstId a with|0=>firstId b|i=>i
 | .block _ c=>firstId c
 | .loop c=>firstId c
 | .scope c=>firstId c
 |_=>0
structure Tb where
 T:FuncId→List AV→Hp→Option (AV×Hp)
 O:FuncId→List AV→Hp→List Bool
 L:FuncId→Nat→Nat→Option (Fr→Hp→Ot)
def Tb.nil:Tb:=⟨fun _ _ _=>none,fun _ _ _=>[],fun _ _ _=>none⟩
noncomputable def envF (e:Env) (tb:Tb) (f:FuncId):Env:={e with clr:=true,pre:=tb.O,lp:=fun n0 c=>tb.L f (firstId c) n0,isPure:=fun g=>e.isPure g && !(inP f g e.exc||inP f g e.exi),isFrz:=fun g=>(e.isFrz g && !(inP f g e.exi))||inP f g e.exc}
def orRun (x y:Option (AV×Hp)):Option (AV×Hp):=
 match x with
 |some p=>some p
 |none=>y
noncomputable def runTb (e:Env) (tb:Tb) (K:Nat):Nat→Rec
 |0=>tb.T
 |n+1=>fun f args H=>orRun (tb.T f args H) (bodyRun (envF e tb f) (runTb e tb K n) K f args H)
structure TbOk (e:Env) (tb:Tb):Prop where
 t:∀f args H v H',tb.T f args H=some (v,H')→allB (tb.O f args H)=true→Ok e.P f args H v H'
 l:∀f F x n0 g,e.fn f=some F→x∈loopsOf F.code→tb.L f (firstId x) n0=some g→SoundLp e.P n0 x g
 h:∀f args H p,tb.T f args H=some p→∃F,e.fn f=some F
section
variable {e:Env} {tb:Tb}
theorem TbOk.nil:TbOk e Tb.nil:=⟨fun _ _ _ _ _ h=>(by cases h),fun _ _ _ _ _ _ _ h=>(by cases h),fun _ _ _ _ h=>(by cases h)⟩
theorem runTb_fn (h:TbOk e tb) (K n:Nat):HasFn e (runTb e tb K n):=by
 induction n with
 |zero=>exact h.h
 |succ n ih=>
  intro f args H p hp
  simp only[runTb]at hp
  cases ht:tb.T f args H with
  |some q=>exact h.h f args H q ht
  |none=>
   rw[ht]at hp
   exact body_fn (envF e tb f) (runTb e tb K n) K f args H p hp
theorem envF_ok (hok:EnvOk e) (f:FuncId):EnvOk (envF e tb f):=hok
theorem runTb_sound (hok:EnvOk e) (h:TbOk e tb) (K:Nat):∀n,SoundRec e.P tb.O (runTb e tb K n):=by
 intro n
 induction n with
 |zero=>intro f args H v H' hv hp;exact h.t f args H v H' hv hp
 |succ n ih=>
  intro f args H v H' hv hp
  simp only[runTb]at hv
  cases ht:tb.T f args H with
  |some q=>rw[ht]at hv;exact h.t f args H v H' (by rw[ht];exact hv) hp
  |none=>
   rw[ht]at hv
   exact body_sound (env:=envF e tb f) (envF_ok hok f) K (runTb_fn h K n) ih f (fun F hF x hx n0 g hg=>h.l f F x n0 g hF hx hg) tb.O args H v H' hv hp
def orObl (x:Option (AV×Hp)) (a b:List Bool):List Bool:=
 match x with
 |some _=>a
 |none=>b
def orOt (x y:Ot):Ot:=
 match x with
 | .fail=>y
 | .leaf o=> .leaf o
 | .br b s t=> .br b s t
def orLp (g:Fr→Hp→Ot) (x:Option (Fr→Hp→Ot)):Fr→Hp→Ot:=
 match x with
 |none=>g
 |some g'=>fun fr H=>orOt (g fr H) (g' fr H)
def Tb.add (tb:Tb) (f:FuncId) (C:List AV→Hp→Option (AV×Hp)) (O:List AV→Hp→List Bool):Tb:=
 ⟨fun g args H=>bif Nat.beq g f then orRun (C args H) (tb.T g args H)else tb.T g args H,fun g args H=>bif Nat.beq g f then orObl (C args H) (O args H) (tb.O g args H)else tb.O g args H,tb.L⟩
def Tb.addL (tb:Tb) (f:FuncId) (id m:Nat) (g:Fr→Hp→Ot):Tb:=
 ⟨tb.T,tb.O,fun f' i n0=>bif Nat.beq f' f&&(Nat.beq i id&&Nat.beq n0 m)then some (orLp g (tb.L f' i n0))else tb.L f' i n0⟩
theorem TbOk.add (h:TbOk e tb) {f:FuncId} {C:List AV→Hp→Option (AV×Hp)} {O:List AV→Hp→List Bool} (hf:(e.fn f).isSome=true)
 (hC:∀args H v H',C args H=some (v,H')→allB (O args H)=true→Ok e.P f args H v H'):TbOk e (tb.add f C O):=by
 refine⟨?_,h.l,?_⟩
 ·intro g args H v H' hv ho
  simp only[Tb.add]at hv ho
  cases hb:Nat.beq g f with
  |true=>
   rw[hb,cond_true]at hv ho
   obtain rfl:g=f:=Nat.eq_of_beq_eq_true hb
   cases hc:C args H with
   |some p=>
    rw[hc]at hv ho
    simp only[orRun,Option.some.injEq]at hv
    subst hv
    exact hC args H v H' hc ho
   |none=>rw[hc]at hv ho;exact h.t g args H v H' hv ho
  |false=>
   rw[hb,cond_false]at hv ho
   exact h.t g args H v H' hv ho
 ·intro g args H p hp
  simp only[Tb.add]at hp
  cases hb:Nat.beq g f with
  |true=>
   obtain rfl:g=f:=Nat.eq_of_beq_eq_true hb
   exact Option.isSome_iff_exists.1 hf
  |false=>
   rw[hb,cond_false]at hp
   exact h.h g args H p hp
theorem orOt_go {R:Type} {kn:Fr→Hp→Option R} {kx:Nat→Fr→Hp→Option R} {kr:Fr→Hp→Option R} {kg:Nat→Fr→Hp→Option R} {x y:Ot} {r:R} (h:(orOt x y).go kn kx kr kg=some r):x.go kn kx kr kg=some r∨y.go kn kx kr kg=some r:=by
 cases x with
 |fail=>exact .inr h
 |leaf p=>exact .inl h
 |br b s t=>exact .inl h
theorem TbOk.addL (h:TbOk e tb) {f:FuncId} {id m:Nat} {g:Fr→Hp→Ot} (hL:∀F x,e.fn f=some F→x∈loopsOf F.code→firstId x=id→SoundLp e.P m x g):TbOk e (tb.addL f id m g):=by
 refine⟨h.t,?_,h.h⟩
 intro f' F x n0 g' hF hx hg
 simp only[Tb.addL]at hg
 cases hb:(Nat.beq f' f&&(Nat.beq (firstId x) id&&Nat.beq n0 m))with
 |true=>
  rw[hb,cond_true]at hg
  cases hg
  simp only[Bool.and_eq_true]at hb
  obtain rfl:f'=f:=Nat.eq_of_beq_eq_true hb.1
  obtain rfl:n0=m:=Nat.eq_of_beq_eq_true hb.2.2
  have h1:=hL F x hF hx (Nat.eq_of_beq_eq_true hb.2.1)
  cases ho:tb.L f' (firstId x) n0 with
  |none=>exact h1
  |some g2=>
   have h2:=h.l f' F x n0 g2 hF hx ho
   intro lo w0 ρ0 E0 wE R res fr H kx kr kg Q hn0 hgo
   rcases orOt_go hgo with hgo|hgo
   ·exact h1 lo w0 ρ0 E0 wE R res fr H kx kr kg Q hn0 hgo
   ·exact h2 lo w0 ρ0 E0 wE R res fr H kx kr kg Q hn0 hgo
 |false=>
  rw[hb,cond_false]at hg
  exact h.l f' F x n0 g' hF hx hg
theorem loopsOf_sub:∀{c:Code} {x y:Code},x∈loopsOf c→y∈loopsOf x→y∈loopsOf c:=by
 intro c
 induction c with
 |seq a b iha ihb=>
  intro x y hx hy
  simp only[loopsOf,List.mem_append]at hx ⊢
  exact hx.imp (fun h=>iha h hy) (fun h=>ihb h hy)
 |cond c a b iha ihb=>
  intro x y hx hy
  simp only[loopsOf,List.mem_append]at hx ⊢
  exact hx.imp (fun h=>iha h hy) (fun h=>ihb h hy)
 |block i c ih=>intro x y hx hy;simp only[loopsOf]at hx ⊢;exact ih hx hy
 |scope c ih=>intro x y hx hy;simp only[loopsOf]at hx ⊢;exact ih hx hy
 |loop c ih=>
  intro x y hx hy
  simp only[loopsOf,List.mem_cons]at hx ⊢
  rcases hx with rfl|hx
  ·exact .inr hy
  ·exact .inr (ih hx hy)
 |_=>intro x y hx hy;simp[loopsOf]at hx
end
end Go.AM
