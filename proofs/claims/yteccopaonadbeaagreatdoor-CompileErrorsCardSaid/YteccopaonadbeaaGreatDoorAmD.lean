/-
  Pieces of code.
-/
import Derived.Test.YteccopaonadbeaaGreatDoorAmC
import Derived.LoopN
import Derived.Scope
import Derived.Orders
set_option linter.unusedVariables false
set_option linter.unusedSimpArgs false
namespace Go.AM
set_option linter.unusedSectionVars false
section
variable [HasDef] {lo:Nat→Prop} {w0:World} {ρ0:Nat→Option Nat} {E0:Nat→Prop} {wE:World} {env:Env} {r:Rec}
structure St (lo:Nat→Prop) (w0:World) (ρ0:Nat→Option Nat) (E0:Nat→Prop) (wE:World) (ρ:Nat→Option Nat) (E:Nat→Prop) (H:Hp) (fr:Fr) (a:Act) (w:World):Prop where
 inv:Inv lo w0 ρ E H w
 fr:FrRep ρ E w fr a
 reach:Reach lo ρ0 E0 wE ρ E w
def After (lo:Nat→Prop) (w0:World) (ρ0:Nat→Option Nat) (E0:Nat→Prop) (wE:World) {R:Type} (res:R) (k:Fr→Hp→Option R) (Q:Act→World→Prop):Prop:=
 ∀ρ E fr H a w,k fr H=some res→St lo w0 ρ0 E0 wE ρ E H fr a w→Q a w
theorem frN_eq {R:Type} (k:Nat→R) (n:Nat):frN k n=k n:=by cases n<;>rfl
theorem frI_eq {R:Type} (k:Int→R) (n:Int):frI k n=k n:=by cases n<;>simp[frI,frN_eq]
theorem frV_eq {R:Type} (k:Value→R) (v:Value):frV k v=k v:=by
 unfold frV
 split<;>simp[frI_eq]
theorem frL_eq {α R:Type} {f:α→(α→R)→R} (hf:∀x k,f x k=k x):∀(xs:List α) (k:List α→R),frL f xs k=k xs
 | [],_=>rfl
 |x::xs,k=>by simp only[frL,hf,frL_eq hf xs]
theorem frA_eq {R:Type}:∀(n:Nat) (x:AV) (k:AV→R),frA n x k=k x
 |0,_,_=>rfl
 |n+1,x,k=>by
  have ih:=fun x k=>frA_eq (R:=R) n x k
  cases x<;>simp only[frA,frV_eq,frN_eq,frL_eq ih]
theorem frS_eq {α R:Type}:∀(xs:List α) (k:List α→R),frS xs k=k xs
 | [],_=>rfl
 |x::xs,k=>by simp only[frS,frS_eq xs]
theorem putK_eq {R:Type} (clr:Bool) (fr:Fr) (dst:Option Tmp) (v:AV) (H:Hp) (k:Fr→Hp→R):putK clr fr dst v H k=k (putA fr dst v) H:=by
 cases clr<;>simp[putK,frA_eq,frS_eq]
theorem wanted_guard {ops:Array Oper} {o:Oper} {tmps:Array Value} {j s:Nat} {want b:Bool} (hg:o.guard=some (j,want)) (hs:(ops[j]?).bind (·.dst)=some s) (ht:tmps[s]? = some (.bool b)):
 Region.wanted o (yielded ops tmps)=(b==want):=by
 simp only[Region.wanted,hg,yielded,hs,Option.bind_some,ht]
 cases b<;>cases want<;>rfl
theorem wanted_skip {ops:Array Oper} {o:Oper} {tmps:Array Value} {j s:Nat} {want:Bool} {vs:Array Value} (hg:o.guard=some (j,want)) (hs:(ops[j]?).bind (·.dst)=some s) (ht:tmps[s]? = some (.tuple vs)):
 Region.wanted o (yielded ops tmps)=false:=by
 simp only[Region.wanted,hg,yielded,hs,Option.bind_some,ht]
 cases want<;>rfl
theorem FrRep.at {ρ:Nat→Option Nat} {E:Nat→Prop} {w:World} {fr:Fr} {a:Act} (h:FrRep ρ E w fr a) {s:Nat} {x:Value} (hs:fr.getD s .undef = .sc x):a.tmps[s]? = some x:=by
 have hl:s<fr.length:=by
  by_cases hl:s<fr.length
  ·exact hl
  ·rw[List.getD,List.getElem?_eq_none (by omega)]at hs;simp at hs
 have:=h.getD s
 rw[hs]at this
 simp only[Rep]at this
 have hl':s<a.tmps.size:=by rw[h.size];exact hl
 simp[Array.getD,hl']at this
 simp[hl',this]
theorem FrRep.setRep {ρ:Nat→Option Nat} {E:Nat→Prop} {w:World} {fr:Fr} {a:Act} (h:FrRep ρ E w fr a) {s:Nat} {v:AV} (hs:Rep ρ E w v (a.tmps.getD s undef)):FrRep ρ E w (fr.set s v) a:=by
 refine⟨by simp[h.size],fun t x ht=> ?_,h.defers⟩
 rw[List.getElem?_set]at ht
 by_cases hd:s=t
 ·subst hd
  by_cases hl:s<fr.length
  ·simp[hl]at ht
   subst ht
   exact hs
  ·simp[hl]at ht
 ·simp[hd]at ht;exact h.rep t x ht
def REq (x y:AV):Prop:=x=y∨∃b,x = .ub b∧y = .sc (.bool b)
theorem REq.rep {x y:AV} (h:REq x y) {ρ:Nat→Option Nat} {E:Nat→Prop} {w:World} {v:Value} (r:Rep ρ E w x v):Rep ρ E w y v:=by
 rcases h with rfl|⟨b,rfl,rfl⟩
 ·exact r
 ·simpa only[Rep]using r
theorem refA_some {R:Type} {fl:Bool} {x:AV} {k:AV→Option R} {res:R} (h:refA fl x k=some res):∃y,REq x y∧k y=some res:=by
 unfold refA at h
 cases fl with
 |false=>exact⟨x, .inl rfl,h⟩
 |true=>
  simp only[cond_true]at h
  split at h
  ·rename_i b
   cases b with
   |true=>exact⟨_, .inr ⟨true,rfl,rfl⟩,h⟩
   |false=>exact⟨_, .inr ⟨false,rfl,rfl⟩,h⟩
  ·exact⟨_, .inl rfl,h⟩
theorem ops_sound (hok:EnvOk env) (hf:HasFn env r) (hr:SoundRec env.P env.pre r) {R:Type} {res:R} {ops:Array Oper} {k:Fr→Hp→Option R} {Q:Exit→Act→World→Prop} (hk:After lo w0 ρ0 E0 wE res k (Q .normal)):
 ∀(u:Bool) (os:List Oper) (fr:Fr) (H:Hp),evOps u env r ops k os fr H=some res→∀ρ E a w,St lo w0 ρ0 E0 wE ρ E H fr a w→wpList env.P ops Q os a w
 |_,[],fr,H,h,ρ,E,a,w,st=>by
  simp only[evOps]at h
  simp only[wpList]
  exact hk ρ E fr H a w h st
 |ub,o::os,fr,H,h,ρ,E,a,w,st=>by
  have run:∀fr',FrRep ρ E w fr' a→opK env r fr' H o.type o.op (fun p=>refA (!ub&&isGuard ops o.dst) p.1 fun v=>putK env.clr fr' o.dst v p.2 (evOps ub env r ops k os))=some res→o.wp env.P a w (wpList env.P ops Q os) Q:=by
   intro fr' hfr' h'
   rw[opK_eq]at h'
   cases he:evOp env r fr' H o.type o.op with
   |none=>simp[he]at h'
   |some p=>
    obtain⟨v0,H'⟩:=p
    simp only[he,Option.bind_some]at h'
    obtain⟨v,hre,h'⟩:=refA_some h'
    simp only[putK_eq]at h'
    refine op_sound hok hf hr he st.inv hfr' fun u ρ' E' w' inv' reach rv _=> ?_
    exact ops_sound hok hf hr hk ub os _ H' h' ρ' E' _ w' ⟨inv',(hfr'.mono reach.ext).put (hre.rep rv) o.dst,st.reach.trans reach⟩
  have skip:∀fr',FrRep ρ E w fr' a→putK env.clr fr' o.dst uv H (evOps ub env r ops k os)=some res→wpList env.P ops Q os (a.put o.dst undef) w:=by
   intro fr' hfr' h'
   rw[putK_eq]at h'
   exact ops_sound hok hf hr hk ub os _ H h' ρ E _ w ⟨st.inv,hfr'.put (by simp only[uv,Rep]) o.dst,st.reach⟩
  simp only[evOps]at h
  unfold wpList
  split at h
  ·rename_i hg
   rw[if_pos (by simp[Region.wanted,hg])]
   exact .inl (run fr st.fr h)
  ·rename_i j want hg
   split at h
   ·cases h
   ·rename_i s hs
    unfold guardK at h
    split at h
    ·rename_i b hb
     cases hu:ub with
     |false=>simp[hu]at h
     |true=>
      simp only[hu,cond_true]at h
      have hb':Rep ρ E w (.sc (.bool b)) (a.tmps.getD s undef):=by
       have:=st.fr.getD s
       rw[hb]at this
       simpa only[Rep]using this
      have hl:s<fr.length:=by
       by_cases hl:s<fr.length
       ·exact hl
       ·rw[List.getD,List.getElem?_eq_none (Nat.le_of_not_lt hl)]at hb;simp at hb
      have ht:a.tmps[s]? = some (.bool b):=by
       simp only[Rep]at hb'
       have hl':s<a.tmps.size:=by rw[st.fr.size];exact hl
       simp[Array.getD,hl']at hb'
       simp[hl',hb']
      have hw:=wanted_guard hg hs ht
      have hset:FrRep ρ E w (fr.set s (.sc (.bool b))) a:=st.fr.setRep hb'
      rw[hu]at run skip
      cases b with
      |true=>
       simp only[cond_true]at h
       cases want with
       |true=>rw[hw,if_pos (by rfl)];exact .inl (run _ hset h)
       |false=>rw[hw,if_neg (by simp)];exact skip _ hset h
      |false=>
       simp only[cond_false]at h
       cases want with
       |true=>rw[hw,if_neg (by simp)];exact skip _ hset h
       |false=>rw[hw,if_pos (by rfl)];exact .inl (run _ hset h)
    ·rename_i b hb
     have ht:=st.fr.at hb
     have hw:=wanted_guard hg hs ht
     have hset:FrRep ρ E w (fr.set s (.sc (.bool b))) a:=st.fr.set hb
     cases b with
     |true=>
      simp only[cond_true]at h
      cases want with
      |true=>rw[hw,if_pos (by rfl)];exact .inl (run _ hset h)
      |false=>rw[hw,if_neg (by simp)];exact skip _ hset h
     |false=>
      simp only[cond_false]at h
      cases want with
      |true=>rw[hw,if_neg (by simp)];exact skip _ hset h
      |false=>rw[hw,if_pos (by rfl)];exact .inl (run _ hset h)
    ·rename_i vs hb
     have ht:=st.fr.at hb
     rw[wanted_skip hg hs ht,if_neg (by simp)]
     exact skip fr st.fr h
    ·cases h
theorem FrRep.clear {ρ:Nat→Option Nat} {E:Nat→Prop} {w:World} {a:Act}:∀(ts:List Nat) {fr:Fr},FrRep ρ E w fr a→FrRep ρ E w (clearAll fr ts) a
 | [],_,h=>h
 |t::ts,fr,h=>by
  refine FrRep.clear ts ⟨by simp[h.size],fun s x hs=> ?_,h.defers⟩
  rw[List.getElem?_set]at hs
  by_cases ht:t=s
  ·subst ht
   by_cases hl:t<fr.length
   ·simp[hl]at hs;subst hs;simp only[Rep]
   ·simp[hl]at hs
  ·simp[ht]at hs;exact h.rep s x hs
def cutMap (ρ:Nat→Option Nat) (L:Nat):Nat→Option Nat:=fun i=>if i<L then ρ i else none
theorem below_rep {ρ:Nat→Option Nat} {E:Nat→Prop} {w:World} {L:Nat}:∀(n:Nat) (x:AV) (v:Value),below L n x=true→Rep ρ E w x v→Rep (cutMap ρ L) E w x v:=by
 intro n
 induction n with
 |zero=>intro x v h;simp[below]at h
 |succ n ih=>
  have ihL:∀(xs:List AV) (vs:List Value),xs.all (below L n)=true→RepL ρ E w xs vs→RepL (cutMap ρ L) E w xs vs:=by
   intro xs vs h hr
   refine RepL.of hr.length fun i x v hx hv=> ?_
   obtain⟨v',hv',hrv⟩:=hr.get hx
   rw[hv]at hv';cases hv'
   exact ih x v (List.all_eq_true.1 h x (List.mem_of_getElem? hx)) hrv
  intro x v h hr
  cases x<;>simp only[below]at h<;>simp only[Rep]at hr ⊢
  case sc=>exact hr
  case ptr i off=>
   obtain⟨b,hb,hv⟩:=hr
   have hi:i<L:=by simpa using h
   exact⟨b,by simp[cutMap,hi,hb],hv⟩
  case eptr=>exact hr
  case sl i z off len=>
   obtain⟨b,cap,hb,hv⟩:=hr
   have hi:i<L:=by simpa using h
   exact⟨b,cap,by simp[cutMap,hi,hb],hv⟩
  case esl=>exact hr
  case map i=>
   obtain⟨b,hb,hv⟩:=hr
   have hi:i<L:=by simpa using h
   exact⟨b,by simp[cutMap,hi,hb],hv⟩
  case emap=>exact hr
  case func f a b=>
   simp only[Bool.and_eq_true]at h
   obtain⟨xs,ys,hv,ha,hb⟩:=hr
   exact⟨xs,ys,hv,ihL _ _ h.1 ha,ihL _ _ h.2 hb⟩
  case agg cs=>obtain⟨xs,hv,ha⟩:=hr;exact⟨xs,hv,ihL _ _ h ha⟩
  case tup cs=>obtain⟨xs,hv,ha⟩:=hr;exact⟨xs,hv,ihL _ _ h ha⟩
  case ui=>exact hr
  case ub=>exact hr
  case us=>exact hr
  case rows=>exact hr
  case dat=>exact hr
  case edat=>exact hr
  case rowz=>exact hr
  case osl i T m=>
   have hi:i<L:=by simpa using h
   obtain⟨h0,a,cap,hv,hl,hr⟩:=hr
   refine⟨h0,a,cap,hv,hl,hr.imp id ?_⟩
   rintro⟨b,hb,hr⟩
   exact⟨b,by simp[cutMap,hi,hb],hr⟩
  case anyI=>exact hr
  case nx=>cases h
  case oel i T m off=>
   obtain⟨h0,b,hb,hv⟩:=hr
   have hi:i<L:=by simpa using h
   exact⟨h0,b,by simp[cutMap,hi,hb],hv⟩
  case e0=>exact hr
theorem Hp.get_trunc {H:Hp} {L i:Nat} (hL:L≤H.n) (hl:H.n=H.bs.length):(H.trunc L).get i=if i<L then H.get i else none:=by
 by_cases hi:i<L
 ·have h1:Nat.blt i L=true:=by rw[Nat.blt_eq];exact hi
  have h2:Nat.blt i H.n=true:=by rw[Nat.blt_eq];omega
  rw[if_pos hi]
  simp only[Hp.get,Hp.trunc,h1,h2,cond_true,List.getElem?_drop]
  congr 2
  omega
 ·rw[if_neg hi]
  exact Hp.get_ge (H:=H.trunc L) (by show L≤i;omega)
theorem St.gc {ρ:Nat→Option Nat} {E:Nat→Prop} {H:Hp} {fr:Fr} {a:Act} {w:World} (st:St lo w0 ρ0 E0 wE ρ E H fr a w) {L:Nat} (hL:∀i b,ρ0 i=some b→i<L):
 ∃ρ',St lo w0 ρ0 E0 wE ρ' E (gcA L fr H) fr a w:=by
 unfold gcA
 cases hn:Nat.ble H.n L with
 |true=>exact⟨ρ,st⟩
 |false=>
  cases hc:(fr.all (below L expoDepth)&&(H.trunc L).bs.all (blkBelow L))with
  |false=>exact⟨ρ,st⟩
  |true=>
   simp only[cond_false,cond_true]
   have hlt:L≤H.n:=by
    have:¬(H.n≤L):=by rw[← Nat.ble_eq,hn];simp
    omega
   simp only[Bool.and_eq_true]at hc
   obtain⟨hfr,hbs⟩:=hc
   have hget:=fun i=>Hp.get_trunc (i:=i) hlt st.inv.len
   have hcut:∀i b,cutMap ρ L i=some b→i<L∧ρ i=some b:=fun i b h=>by
    simp only[cutMap]at h
    split at h
    ·rename_i hi;exact⟨hi,h⟩
    ·cases h
   have hblk:∀i k,H.get i=some k→i<L→blkBelow L (some k)=true:=by
    intro i k hk hi
    have hg:=hget i
    rw[if_pos hi,hk]at hg
    have h1:Nat.blt i (H.trunc L).n=true:=by rw[Nat.blt_eq];exact hi
    simp only[Hp.get,h1,cond_true]at hg
    cases he:(H.trunc L).bs[(H.trunc L).n-1-i]? with
    |none=>rw[he]at hg;simp at hg
    |some x=>
     rw[he]at hg
     simp at hg
     subst hg
     exact List.all_eq_true.1 hbs _ (List.mem_of_getElem? he)
   have hrl:∀(cs:List AV) (vs:List Value),cs.all (below L expoDepth)=true→RepL ρ E w cs vs→RepL (cutMap ρ L) E w cs vs:=by
    intro cs vs h hr
    refine RepL.of hr.length fun i x v hx hv=> ?_
    obtain⟨v',hv',hrv⟩:=hr.get hx
    rw[hv]at hv';cases hv'
    exact below_rep _ x v (List.all_eq_true.1 h x (List.mem_of_getElem? hx)) hrv
   have hrm:∀(es:List (Value×AV)) (ms:List MapEntry),es.all (fun e=>below L expoDepth e.2)=true→RepM ρ E w es ms→RepM (cutMap ρ L) E w es ms:=by
    intro es
    induction es with
    |nil=>intro ms _ h;simpa only[RepM]using h
    |cons p es ih=>
     intro ms ha h
     obtain⟨k,v⟩:=p
     simp only[List.all_cons,Bool.and_eq_true]at ha
     simp only[RepM]at h ⊢
     obtain⟨e,es',he,hk,hv,hr⟩:=h
     exact⟨e,es',he,hk,below_rep _ v _ ha.1 hv,ih es' ha.2 hr⟩
   refine⟨cutMap ρ L,{inv:= ?_,fr:= ?_,reach:= ?_}⟩
   ·exact{len:=by show L=(H.bs.drop (H.n-L)).length;have:=st.inv.len;simp;omega
          dom:=fun i b h=>(hcut i b h).1
          blk:=fun i k b hk hb=>by
           obtain⟨hi,hb'⟩:=hcut i b hb
           rw[hget,if_pos hi]at hk
           have h1:=st.inv.blk i k b hk hb'
           have h2:=hblk i k hk hi
           cases k with
           |cells cs=>
            obtain⟨c,T,hc,hl,hr⟩:=h1
            exact⟨c,T,hc,hl,hrl _ _ h2 hr⟩
           |map es=>
            obtain⟨arr,clk,hc,hr⟩:=h1
            exact⟨arr,clk,hc,hrm _ _ h2 hr.1,hr.2⟩
           |dat T d=>exact h1
           |lst T d=>exact h1
           |siter s p kn=>exact h1
           |miter es n=>exact h1
           |mp kT vT d=>
            obtain⟨arr,clk,hc,hr⟩:=h1
            exact⟨arr,clk,hc,entsD_rho hr.1,hr.2⟩
          inj:=fun i j k k' b hk hk' hb hb'=>by
           obtain⟨hi,hb1⟩:=hcut i b hb
           obtain⟨hj,hb2⟩:=hcut j b hb'
           rw[hget,if_pos hi]at hk
           rw[hget,if_pos hj]at hk'
           exact st.inv.inj i j k k' b hk hk' hb1 hb2
          notE:=fun i k b hk hb=>by
           obtain⟨hi,hb1⟩:=hcut i b hb
           rw[hget,if_pos hi]at hk
           exact st.inv.notE i k b hk hb1
          bd:=fun i b hb=>st.inv.bd i b (hcut i b hb).2
          ebd:=st.inv.ebd,lole:=st.inv.lole,old:=st.inv.old,io:=st.inv.io,gl:=st.inv.gl}
   ·exact⟨st.fr.size,fun t x ht=>below_rep _ x _ (List.all_eq_true.1 hfr x (List.mem_of_getElem? ht)) (st.fr.rep t x ht),st.fr.defers⟩
   ·refine⟨⟨fun i b hb=> ?_,st.reach.ext.ext,st.reach.ext.same,st.reach.ext.size,st.reach.ext.bigger⟩,st.reach.new⟩
    have hi:=hL i b hb
    simp[cutMap,hi,st.reach.ext.map i b hb]
theorem St.clear {ρ:Nat→Option Nat} {E:Nat→Prop} {H:Hp} {fr:Fr} {a:Act} {w:World} (st:St lo w0 ρ0 E0 wE ρ E H fr a w) (ts:List Nat):St lo w0 ρ0 E0 wE ρ E H (clearAll fr ts) a w:=
 ⟨st.inv,st.fr.clear ts,st.reach⟩
theorem St.dom0 {ρ:Nat→Option Nat} {E:Nat→Prop} {H:Hp} {fr:Fr} {a:Act} {w:World} (st:St lo w0 ρ0 E0 wE ρ E H fr a w):∀i b,ρ0 i=some b→i<H.n:=
 fun i b h=>st.inv.dom i b (st.reach.ext.map i b h)
def jumps (P:Program) (c:Code) (Q:Exit→Act→World→Prop):Nat→Nat→Act→World→Prop
 |0,_,_,_=>False
 |n+1,l,a,w=>match findLabel c l with
  |some rest=>rest.wp P (fun e a w=>match e with | .goto l'=>jumps P c Q n l' a w|e=>Q e a w) a w
  |none=>Q (.goto l) a w
theorem wp_scope_fuel {P:Program} {c:Code} {Q:Exit→Act→World→Prop} {a:Act} {w:World} (n:Nat)
 (h:c.wp P (fun e a w=>match e with | .goto l=>jumps P c Q n l a w|e=>Q e a w) a w):(Code.scope c).wp P Q a w:=by
 intro b k cs
 have key:∀n l a w,jumps P c Q n l a w→∀m,(∀k',gotoIn l (.inScope c::k)=some k'→Steps P m (lone (b.at a k') cs w))→∃e a' w',Q e a' w'∧Arrives P m b k cs e a' w':=by
  intro n
  induction n with
  |zero=>intro l a w h;exact h.elim
  |succ n ih=>
   intro l a w h m hm
   simp only[jumps]at h
   cases hl:findLabel c l with
   |none=>
    simp only[hl]at h
    exact⟨.goto l,a,w,h,fun k' hk=>hm k' (by simp[gotoIn,hl,hk])⟩
   |some rest=>
    simp only[hl]at h
    have hm':=hm (.code rest :: .inScope c::k) (by simp[gotoIn,hl])
    obtain⟨e,a₁,w₁,hq,harr⟩:=h b (.inScope c::k) cs
    cases e with
    |normal=>exact⟨.normal,a₁,w₁,hq,Steps.trans hm' (Steps.trans harr (.one step_inScope))⟩
    |exit id=>exact⟨.exit id,a₁,w₁,hq,fun k' hk=>Steps.trans hm' (harr k' (by simp[exitTo,hk]))⟩
    |goto l'=>exact ih l' a₁ w₁ hq m fun k' hk=>Steps.trans hm' (harr k' hk)
    |ret=>exact⟨_,a₁,w₁,hq, .of_steps hm' harr⟩
    |panic ch=>exact⟨_,a₁,w₁,hq, .of_steps hm' harr⟩
    |outgrown=>exact⟨_,a₁,w₁,hq, .of_steps (e:= .outgrown) hm' harr⟩
 obtain⟨e,a₁,w₁,hq,harr⟩:=h b (.inScope c::k) cs
 cases e with
 |normal=>exact⟨.normal,a₁,w₁,hq, .head step_scope (Steps.trans harr (.one step_inScope))⟩
 |exit id=>exact⟨.exit id,a₁,w₁,hq,fun k' hk=> .head step_scope (harr k' (by simp[exitTo,hk]))⟩
 |goto l'=>exact key n l' a₁ w₁ hq _ fun k' hk=> .head step_scope (harr k' hk)
 |ret=>exact⟨_,a₁,w₁,hq, .of_steps (.one step_scope) harr⟩
 |panic ch=>exact⟨_,a₁,w₁,hq, .of_steps (.one step_scope) harr⟩
 |outgrown=>exact⟨_,a₁,w₁,hq, .of_steps (e:= .outgrown) (.one step_scope) harr⟩
end
end Go.AM
