/-
  Loops by what is known of their heads.
-/
import Derived.Test.YteccopaonadbeaaGreatDoorAmJ
set_option linter.unusedVariables false
set_option linter.unusedSimpArgs false
namespace Go.AM
def AVle (x y:AV):Prop:=∀ρ E w v,Rep ρ E w x v→Rep ρ E w y v
theorem AVle.refl (x:AV):AVle x x:=fun _ _ _ _ h=>h
theorem AVle.undef (x:AV):AVle x .undef:=fun _ _ _ _ _=>by simp only[Rep]
theorem AVle.int (k:IntKind) (n:Int):AVle (.sc (.int k n)) (.ui k n):=fun _ _ _ _ h=>by simp only[Rep]at h ⊢;exact h
theorem AVle.bool (b:Bool):AVle (.sc (.bool b)) (.ub b):=fun _ _ _ _ h=>by simp only[Rep]at h ⊢;exact h
theorem AVle.str (s:ByteArray):AVle (.sc (.string s)) (.us s):=fun _ _ _ _ h=>by simp only[Rep]at h ⊢;exact h
theorem AVle.trans {x y z:AV} (h:AVle x y) (h':AVle y z):AVle x z:=fun ρ E w v r=>h' ρ E w v (h ρ E w v r)
def FrLe:Fr→Fr→Prop
 | [],[]=>True
 |x::xs,y::ys=>AVle x y∧FrLe xs ys
 |_,_=>False
theorem FrLe.refl:∀fr:Fr,FrLe fr fr
 | []=>trivial
 |x::xs=>⟨AVle.refl x,FrLe.refl xs⟩
theorem FrLe.get:∀{a b:Fr},FrLe a b→a.length=b.length∧∀(t:Nat) y,b[t]? = some y→∃x,a[t]? = some x∧AVle x y
 | [],[],_=>⟨rfl,fun t y h=>by simp at h⟩
 |x::xs,y::ys,h=>by
  obtain⟨h1,h2⟩:=FrLe.get h.2
  refine⟨by simp[h1],fun t z hz=> ?_⟩
  cases t with
  |zero=>simp at hz;subst hz;exact⟨x,rfl,h.1⟩
  |succ t=>simp at hz;simpa using h2 t z hz
 | [],_::_,h=>h.elim
 |_::_,[],h=>h.elim
theorem FrRep.le {ρ:Nat→Option Nat} {E:Nat→Prop} {w:World} {fr fr':Fr} {a:Act} (h:FrRep ρ E w fr a) (l:FrLe fr fr'):FrRep ρ E w fr' a:=by
 obtain⟨h1,h2⟩:=l.get
 refine⟨h.size.trans h1,fun t y hy=> ?_,h.defers⟩
 obtain⟨x,hx,hle⟩:=h2 t y hy
 exact hle _ _ _ _ (h.rep t x hx)
def Wk (L:Nat) (fr:Fr) (H:Hp) (fr':Fr) (H':Hp):Prop:=
 ∀lo w0 ρ0 E0 wE ρ E a w,(∀i b,ρ0 i=some b→i<L)→St lo w0 ρ0 E0 wE ρ E H fr a w→∃ρ' E',St lo w0 ρ0 E0 wE ρ' E' H' fr' a w
theorem Wk.le {L:Nat} {fr fr':Fr} {H:Hp} (l:FrLe fr fr'):Wk L fr H fr' H:=fun _ _ _ _ _ ρ E _ _ _ st=>⟨ρ,E,st.inv,st.fr.le l,st.reach⟩
theorem Wk.refl {L:Nat} {fr:Fr} {H:Hp}:Wk L fr H fr H:=Wk.le (FrLe.refl fr)
theorem Wk.trans {L:Nat} {fr fr' fr'':Fr} {H H' H'':Hp} (h:Wk L fr H fr' H') (h':Wk L fr' H' fr'' H''):Wk L fr H fr'' H'':=fun lo w0 ρ0 E0 wE ρ E a w hL st=>
 let⟨_,_,st'⟩:=h lo w0 ρ0 E0 wE ρ E a w hL st
 h' lo w0 ρ0 E0 wE _ _ a w hL st'
theorem Wk.gc {L:Nat} {fr:Fr} {H:Hp}:Wk L fr H fr (gcA L fr H):=fun _ _ _ _ _ _ E _ _ hL st=>
 let⟨ρ',st'⟩:=st.gc hL
 ⟨ρ',E,st'⟩
def OutOk (lo:Nat→Prop) (w0:World) (ρ0:Nat→Option Nat) (E0:Nat→Prop) (wE:World) (Q:Exit→Act→World→Prop):Out→Prop
 | .norm _ _=>False
 | .exit i fr H=>∀ρ E a w,St lo w0 ρ0 E0 wE ρ E H fr a w→Q (.exit i) a w
 | .ret fr H=>∀ρ E a w,St lo w0 ρ0 E0 wE ρ E H fr a w→Q .ret a w
 | .goto l fr H=>∀ρ E a w,St lo w0 ρ0 E0 wE ρ E H fr a w→Q (.goto l) a w
def Leads (P:Program) (c:Code) (L:Nat) (fr:Fr) (H:Hp) (o:Out):Prop:=
 ∀lo w0 ρ0 E0 wE Q,(∀i b,ρ0 i=some b→i<L)→OutOk lo w0 ρ0 E0 wE Q o→∀ρ E a w,St lo w0 ρ0 E0 wE ρ E H fr a w→(Code.loop c).wp P Q a w
def Ot.res:Ot→Option Out
 | .fail=>none
 | .leaf o=>some o
 | .br b x y=>bif b then x.res else y.res
theorem Ot.go_res {R:Type} {kn:Fr→Hp→Option R} {kx:Nat→Fr→Hp→Option R} {kr:Fr→Hp→Option R} {kg:Nat→Fr→Hp→Option R} {x:R}:∀{t:Ot},t.go kn kx kr kg=some x→∃o,t.res=some o∧o.go kn kx kr kg=some x
 | .fail,h=>by simp[Ot.go]at h
 | .leaf o,h=>⟨o,rfl,h⟩
 | .br b s t,h=>by
   cases b with
   |true=>simp only[Ot.go,cond_true]at h;simpa only[Ot.res,cond_true]using Ot.go_res h
   |false=>simp only[Ot.go,cond_false]at h;simpa only[Ot.res,cond_false]using Ot.go_res h
theorem soundLp_of {P:Program} {n0:Nat} {c:Code} {g:Fr→Hp→Ot} (h:∀fr H o,(g fr H).res=some o→Leads P c n0 fr H o):SoundLp P n0 c g:=by
 intro lo w0 ρ0 E0 wE R res fr H kx kr kg Q hn0 hgo hx hret hg ρ E a w st
 obtain⟨o,ho,hk⟩:=Ot.go_res hgo
 refine h fr H o ho lo w0 ρ0 E0 wE Q hn0 ?_ ρ E a w st
 cases o with
 |norm fr' H'=>simp[Out.go]at hk
 |exit i fr' H'=>exact fun ρ E a w st'=>hx i ρ E fr' H' a w hk st'
 |ret fr' H'=>exact fun ρ E a w st'=>hret ρ E fr' H' a w hk st'
 |goto l fr' H'=>exact fun ρ E a w st'=>hg l ρ E fr' H' a w hk st'
section
variable {env:Env} {r:Rec}
theorem SoundAt.le {P:Program} {pre pre':FuncId→List AV→Hp→List Bool} {r r':Rec} {f:FuncId} (hs:SoundAt P pre r f)
 (h:∀args H v' H',r' f args H=some (v',H')→allB (pre' f args H)=true→∃v,r f args H=some (v,H')∧allB (pre f args H)=true∧AVle v v'):SoundAt P pre' r' f:=by
 intro args H v' H' hr' hpre lo w0 ρ E w vs inv ra
 obtain⟨v,hr,hp,hle⟩:=h args H v' H' hr' hpre
 refine(hs args H v H' hr hp lo w0 ρ E w vs inv ra).mono ?_
 rintro e w' ⟨u,ρ',E',he,h1,h2,h3⟩
 exact⟨u,ρ',E',he,h1,h2,hle _ _ _ _ h3⟩
end
end Go.AM
