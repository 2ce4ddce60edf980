/-
  Code that only looks at the heap, joined again behind its branches: that it goes so.
-/
import Derived.Test.YteccopaonadbeaaGreatDoorAmD
set_option linter.unusedVariables false
set_option linter.unusedSimpArgs false
namespace Go.AM
set_option linter.unusedSectionVars false
theorem qiteB_eq:qiteB=fun c a b:Bool=>bif c then a else b:=veil_eq _
theorem qiteI_eq:qiteI=fun(c:Bool) (a b:Int)=>bif c then a else b:=veil_eq _
theorem qiteS_eq:qiteS=fun(c:Bool) (a b:ByteArray)=>bif c then a else b:=veil_eq _
theorem qiteD_eq:qiteD=fun(c:Bool) (a b:D)=>bif c then a else b:=veil_eq _
section
variable {ρ:Nat→Option Nat} {E:Nat→Prop} {w:World}
theorem mrgA_rep {b:Bool} {x y:AV} {v:Value} (h:Rep ρ E w (bif b then x else y) v):Rep ρ E w (mrgA b x y) v:=by
 unfold mrgA
 split
 all_goals first
  | (simp only[Rep];done)
  | (cases b<;>simp_all only[Rep,qiteB_eq,qiteI_eq,qiteS_eq,cond_true,cond_false];done)
  |skip
 ·rename_i p q
  cases hpq:(p==q)with
  |true=>
   have:p=q:=by simpa using hpq
   subst this
   cases b<;>simpa using h
  |false=>cases b<;>simp_all only[Rep,qiteB_eq,cond_true,cond_false]
 ·split
  ·rename_i hk;subst hk;cases b<;>simp_all only[Rep,qiteI_eq,cond_true,cond_false]
  ·simp only[Rep]
 ·split
  ·rename_i hk;subst hk;cases b<;>simp_all only[Rep,qiteI_eq,cond_true,cond_false]
  ·simp only[Rep]
 ·split
  ·rename_i hk;subst hk;cases b<;>simp_all only[Rep,qiteI_eq,cond_true,cond_false]
  ·simp only[Rep]
 ·split
  ·rename_i hk
   subst hk
   split
   ·rename_i hn;subst hn;cases b<;>simpa using h
   ·cases b<;>simp_all only[Rep,qiteI_eq,cond_true,cond_false]
  ·simp only[Rep]
 ·rename_i T d T' d'
  cases hb:Nat.beq T T' with
  |false=>simp only[cond_false,Rep]
  |true=>obtain rfl:=Nat.eq_of_beq_eq_true hb;cases b<;>simp_all only[Rep,qiteD_eq,cond_true,cond_false]
 ·rename_i T d T' d'
  cases hb:Nat.beq T T' with
  |false=>simp only[cond_false,Rep]
  |true=>obtain rfl:=Nat.eq_of_beq_eq_true hb;cases b<;>simp_all only[Rep,qiteD_eq,cond_true,cond_false]
 ·rename_i T d T' d'
  cases hb:Nat.beq T T' with
  |false=>simp only[cond_false,Rep]
  |true=>obtain rfl:=Nat.eq_of_beq_eq_true hb;cases b<;>simp_all only[Rep,qiteD_eq,cond_true,cond_false]
 ·rename_i i o i' o'
  cases hb:(Nat.beq i i'&&Nat.beq o o')with
  |false=>simp only[cond_false,Rep]
  |true=>
   simp only[Bool.and_eq_true]at hb
   obtain rfl:=Nat.eq_of_beq_eq_true hb.1
   obtain rfl:=Nat.eq_of_beq_eq_true hb.2
   cases b<;>simpa using h
end
theorem mrgL_len {ds:List Nat} {b:Bool}:∀{i:Nat} {ps xs ys:List AV},xs.length=ps.length→ys.length=ps.length→(mrgL ds b i ps xs ys).length=ps.length
 |_,[],[],[],_,_=>rfl
 |i,p::ps,x::xs,y::ys,h1,h2=>by simp only[mrgL,List.length_cons];rw[mrgL_len (by simpa using h1) (by simpa using h2)]
 |_,[],_::_,_,h,_=>by simp at h
 |_,[],[],_::_,_,h=>by simp at h
 |_,_::_,[],_,h,_=>by simp at h
 |_,_::_,_::_,[],_,h=>by simp at h
theorem mrgL_get {ds:List Nat} {b:Bool}:∀{i:Nat} {ps xs ys:List AV} {t:Nat} {z:AV},(mrgL ds b i ps xs ys)[t]? = some z→
 ∃p x y,ps[t]? = some p∧xs[t]? = some x∧ys[t]? = some y∧z=(bif ds.elem (i+t)then mrgA b x y else p)
 |_,[],_,_,t,z,h=>by simp[mrgL]at h
 |_,_::_,[],_,t,z,h=>by simp[mrgL]at h
 |_,_::_,_::_,[],t,z,h=>by simp[mrgL]at h
 |i,p::ps,x::xs,y::ys,t,z,h=>by
  simp only[mrgL]at h
  cases t with
  |zero=>simp at h;exact⟨p,x,y,rfl,rfl,rfl,by simpa using h.symm⟩
  |succ t=>
   simp only[List.getElem?_cons_succ]at h ⊢
   obtain⟨p',x',y',h1,h2,h3,h4⟩:=mrgL_get h
   exact⟨p',x',y',h1,h2,h3,by rw[h4,show i+1+t=i+(t+1)from by omega]⟩
theorem mrgL_keep {ds:List Nat} {b:Bool} {ps xs ys:List AV} (h1:xs.length=ps.length) (h2:ys.length=ps.length) {t:Nat} (ht:ds.elem t=false):(mrgL ds b 0 ps xs ys)[t]? = ps[t]? :=by
 cases hz:(mrgL ds b 0 ps xs ys)[t]? with
 |none=>
  have:=List.getElem?_eq_none_iff.1 hz
  rw[mrgL_len h1 h2]at this
  exact(List.getElem?_eq_none_iff.2 this).symm
 |some z=>
  obtain⟨p,x,y,hp,_,_,e⟩:=mrgL_get hz
  rw[Nat.zero_add,ht,cond_false]at e
  rw[e,hp]
theorem andL_all:∀{bs:List Bool},andL bs=true→allB bs=true
 | [],_=>rfl
 | [b],h=>by simp only[andL]at h;simp[allB,h]
 |b::c::bs,h=>by
  simp only[andL,qand_eq,Bool.and_eq_true]at h
  simp only[allB,h.1,cond_true]
  have:=andL_all (bs:=c::bs) h.2
  simpa only[allB]using this
theorem mrgO_all {b:Bool} {x y:List Bool} (h:allB (mrgO b x y)=true):allB (bif b then x else y)=true:=by
 unfold mrgO at h
 split at h
 ·cases b<;>rfl
 ·have h':qiteB b (andL x) (andL y)=true:=allB_mem h _ (by simp)
  rw[qiteB_eq]at h'
  cases b
  ·exact andL_all h'
  ·exact andL_all h'
theorem allB_cat {xs ys:List Bool} (h:allB (xs++ys)=true):allB xs=true∧allB ys=true:=by
 induction xs with
 |nil=>exact⟨rfl,h⟩
 |cons b bs ih=>
  cases b with
  |true=>simpa only[List.cons_append,allB,cond_true]using ih (by simpa only[List.cons_append,allB,cond_true]using h)
  |false=>simp[allB]at h
theorem splitPick_app:∀{s:Nat} {os:List Oper} {c:List Oper×List Oper},splitPick s os=some c→os=c.1++c.2
 |s,[],c,h=>by simp[splitPick]at h
 |s,o::os,c,h=>by
  simp only[splitPick]at h
  cases hp:isPickOn s o.op with
  |true=>simp only[hp,cond_true,Option.some.injEq]at h;subst h;rfl
  |false=>
   simp only[hp,cond_false]at h
   cases hs:splitPick s os with
   |none=>simp[hs]at h
   |some q=>
    simp only[hs,Option.map_some,Option.some.injEq]at h
    subst h
    simp[splitPick_app hs]
theorem dstsL_app:∀(xs ys:List Oper),dstsL (xs++ys)=dstsL xs++dstsL ys
 | [],_=>rfl
 |o::os,ys=>by simp only[List.cons_append,dstsL,dstsL_app os ys,List.append_assoc]
theorem elem_app {xs ys:List Nat} {t:Nat} (h:(xs++ys).elem t=false):xs.elem t=false∧ys.elem t=false:=by
 simp only[List.elem_eq_contains,List.contains_eq_mem,List.mem_append,decide_eq_false_iff_not,not_or]at h ⊢
 exact h
section
variable {env:Env} {r:Rec} {H:Hp}
theorem putA_keep {fr:Fr} {o:Oper} {os:List Oper} {v:AV} {t:Nat} (h:(dstsL (o::os)).elem t=false):(putA fr o.dst v)[t]? = fr[t]? :=by
 unfold putA
 cases hd:o.dst with
 |none=>rfl
 |some d=>
  simp only[dstsL,hd]at h
  have:=(elem_app h).1
  have hne:d≠t:=by
   rintro rfl
   simp at this
  exact List.getElem?_set_ne hne
theorem putA_length (fr:Fr) (d:Option Tmp) (v:AV):(putA fr d v).length=fr.length:=by cases d<;>simp[putA]
theorem mOps_keep {ops:Array Oper}:∀(n:Nat) (os:List Oper) (fr:Fr) (q:Fr×List Bool),mOps env r ops H n os fr=some q→q.1.length=fr.length∧∀t,(dstsL os).elem t=false→q.1[t]? = fr[t]? :=by
 intro n
 induction n with
 |zero=>intro os fr q h;simp[mOps]at h
 |succ n ih=>
  intro os fr q h
  cases os with
  |nil=>simp only[mOps,Option.some.injEq]at h;subst h;exact⟨rfl,fun _ _=>rfl⟩
  |cons o os=>
   have hput:∀(v:AV) (q':Fr×List Bool),mOps env r ops H n os (putA fr o.dst v)=some q'→q'.1.length=fr.length∧∀t,(dstsL (o::os)).elem t=false→q'.1[t]? = fr[t]? :=by
    intro v q' h'
    obtain⟨h1,h2⟩:=ih _ _ _ h'
    refine⟨by rw[h1,putA_length],fun t ht=> ?_⟩
    have ht':(dstsL os).elem t=false:=by simp only[dstsL]at ht;exact(elem_app ht).2
    rw[h2 t ht',putA_keep ht]
   have hrun:((evOp0 env r fr H o.type o.op).bind fun p=>(mOps env r ops H n os (putA fr o.dst p.1)).bind fun q=>some (q.1,obl env fr H o.op++q.2))=some q→q.1.length=fr.length∧∀t,(dstsL (o::os)).elem t=false→q.1[t]? = fr[t]? :=by
    intro h'
    obtain⟨p,_,h2⟩:=Option.bind_eq_some_iff.1 h'
    obtain⟨q',h3,h4⟩:=Option.bind_eq_some_iff.1 h2
    cases h4
    exact hput p.1 q' h3
   simp only[mOps]at h
   split at h
   ·exact hrun h
   ·rename_i j want hg
    split at h
    ·cases h
    ·rename_i s hs
     split at h
     ·rename_i b hb
      cases hbw:(b==want)with
      |true=>rw[hbw,cond_true]at h;exact hrun h
      |false=>rw[hbw,cond_false]at h;exact hput _ _ h
     ·exact hput _ _ h
     ·rename_i b hb
      obtain⟨c,hc,h⟩:=Option.bind_eq_some_iff.1 h
      obtain⟨x,hx,h⟩:=Option.bind_eq_some_iff.1 h
      obtain⟨y,hy,h⟩:=Option.bind_eq_some_iff.1 h
      obtain⟨z,hz,h⟩:=Option.bind_eq_some_iff.1 h
      cases h
      obtain⟨lx,kx⟩:=ih _ _ _ hx
      obtain⟨ly,ky⟩:=ih _ _ _ hy
      obtain⟨lz,kz⟩:=ih _ _ _ hz
      rw[List.length_set]at lx ly
      have e:=splitPick_app hc
      refine⟨by rw[lz,mrgL_len lx ly],fun t ht=> ?_⟩
      rw[e,dstsL_app]at ht
      obtain⟨h1,h2⟩:=elem_app ht
      rw[kz t h2,mrgL_keep lx ly h1]
     ·cases h
theorem vA_heap {H H':Hp} {x:Option AV} {v:AV} (h:vA H x=some (v,H')):H'=H:=(vA_some h).2.symm▸rfl
theorem evOp0_heap {fr:Fr} {H H':Hp} {ty:TypeId} {op:Op} {v:AV} (hc:cls env op≤1) (h:evOp0 env r fr H ty op=some (v,H')):H'=H:=by
 cases op<;>simp only[cls]at hc<;>(try (exact absurd hc (by decide)))<;>simp only[evOp0]at h
 case move=>cases h;rfl
 case assign=>cases h;rfl
 case makeFunc f a b=>
  unfold makeFuncA at h
  cases f<;>simp only at h<;>first|cases h
  rfl
 case call c=>
  unfold callOp at h
  cases hcal:c.callee with
  |value g=>
   simp only[hcal]at hc h
   cases g<;>simp only at hc<;>first|(exact absurd hc (by decide))|skip
   rename_i f
   cases hp:env.isPure f with
   |false=>simp[hp]at hc
   |true=>
    simp only[opd,callV,callA,hp,cond_true,List.nil_append,List.append_nil]at h
    cases ha:mapO (expo H expoDepth) (c.args.toList.map (opd fr))with
    |none=>simp[ha]at h
    |some args'=>
     simp only[ha,Option.bind_some]at h
     cases hcp:callPure r H.fresh f args' with
     |none=>simp[hcp]at h
     |some p=>
      simp only[hcp,Option.bind_some]at h
      cases hfl:(List.all (c.args.toList.map (opd fr)) (ownFree expoDepth)||p.2)with
      |false=>simp only[hfl,cond_false]at h;cases h
      |true=>
       simp only[hfl,cond_true,Option.some.injEq,Prod.mk.injEq]at h
       exact h.2.symm
  |invoke x m=>simp only[hcal]at hc;exact absurd hc (by decide)
  |builtin b=>
   simp only[hcal]at hc h
   cases b<;>simp only at hc<;>first|(exact absurd hc (by decide))|skip
   ·simp only[builtinA,capOp]at h
    split at h
    ·exact vA_heap h
    ·cases h
   ·simp only[builtinA,lenOp]at h
    split at h
    ·exact vA_heap h
    ·cases h
   ·simp only[builtinA,maxOp]at h
    split at h
    ·exact vA_heap h
    ·exact vA_heap h
    ·cases h
   ·simp only[builtinA,minOp]at h
    split at h
    ·exact vA_heap h
    ·exact vA_heap h
    ·cases h
 case convert S T x=>
  unfold convOp at h
  split at h
  ·cases h;rfl
  ·exact vA_heap h
 case range T x=>cases hm:isMapT env.P T<;>rw[hm]at hc<;>exact absurd hc (by decide)
 all_goals exact vA_heap h
theorem evOp_of {fr:Fr} {H:Hp} {ty:TypeId} {op:Op} {p:AV×Hp} (h1:allB (obl env fr H op)=true) (h2:evOp0 env r fr H ty op=some p):evOp env r fr H ty op=some p:=by
 unfold evOp;rw[h1,cond_true];exact h2
variable [HasDef] {lo:Nat→Prop} {w0:World} {ρ0:Nat→Option Nat} {E0:Nat→Prop} {wE:World}
theorem mrg_frRep {ρ:Nat→Option Nat} {E:Nat→Prop} {w:World} {ds:List Nat} {b:Bool} {fr x y:Fr} {a:Act} (lx:x.length=fr.length) (ly:y.length=fr.length)
 (hk:∀t p q,ds.elem t=false→fr[t]? = some p→(bif b then x else y)[t]? = some q→∀v,Rep ρ E w q v→Rep ρ E w p v) (h:FrRep ρ E w (bif b then x else y) a):FrRep ρ E w (mrgL ds b 0 fr x y) a:=by
 refine⟨?_,fun t z hz=> ?_,h.defers⟩
 ·rw[h.size,mrgL_len lx ly];cases b
  ·exact ly
  ·exact lx
 ·obtain⟨p,x',y',hp,hx,hy,rfl⟩:=mrgL_get hz
  rw[Nat.zero_add]
  cases hd:ds.elem t with
  |true=>
   rw[cond_true]
   refine mrgA_rep ?_
   cases b
   ·exact h.rep t y' hy
   ·exact h.rep t x' hx
  |false=>
   rw[cond_false]
   cases b
   ·exact hk t p y' hd hp hy _ (h.rep t y' hy)
   ·exact hk t p x' hd hp hx _ (h.rep t x' hx)
theorem set_keep {fr:Fr} {s t:Nat} {b:Bool} (hb:fr.getD s .undef = .ub b) {x:Fr} (hx:x[t]? = (fr.set s (.sc (.bool b)))[t]?) {p q:AV} (hp:fr[t]? = some p) (hq:x[t]? = some q) {ρ:Nat→Option Nat} {E:Nat→Prop} {w:World} (v:Value) (h:Rep ρ E w q v):Rep ρ E w p v:=by
 rw[hx,List.getElem?_set]at hq
 by_cases hs:s=t
 ·subst hs
  have hl:s<fr.length:=(List.getElem?_eq_some_iff.1 hp).1
  simp only[hl,if_true,Option.some.injEq]at hq
  subst hq
  have:p = .ub b:=by rw[List.getD,hp]at hb;simpa using hb
  subst this
  simpa only[Rep]using h
 ·simp only[hs,if_false]at hq
  rw[hp]at hq;cases hq;exact h
theorem mOps_sound (hok:EnvOk env) (hf:HasFn env r) (hr:SoundRec env.P env.pre r) {ops:Array Oper} {Q:Exit→Act→World→Prop}:
 ∀(n:Nat) (os:List Oper) (fr:Fr) (q:Fr×List Bool),mOps env r ops H n os fr=some q→allB q.2=true→(∀o∈os,cls env o.op≤1)→∀ys:List Oper,
  (∀ρ E a w,St lo w0 ρ0 E0 wE ρ E H q.1 a w→wpList env.P ops Q ys a w)→∀ρ E a w,St lo w0 ρ0 E0 wE ρ E H fr a w→wpList env.P ops Q (os++ys) a w:=by
 intro n
 induction n with
 |zero=>intro os fr q h;simp[mOps]at h
 |succ n ih=>
  intro os fr q h hq hcl ys hys ρ E a w st
  cases os with
  |nil=>simp only[mOps,Option.some.injEq]at h;subst h;exact hys ρ E a w st
  |cons o os=>
   have hcl':∀o∈os,cls env o.op≤1:=fun x hx=>hcl x (List.mem_cons_of_mem _ hx)
   have run:∀fr',FrRep ρ E w fr' a→∀q',((evOp0 env r fr' H o.type o.op).bind fun p=>(mOps env r ops H n os (putA fr' o.dst p.1)).bind fun q=>some (q.1,obl env fr' H o.op++q.2))=some q'→allB q'.2=true→
    (∀ρ E a w,St lo w0 ρ0 E0 wE ρ E H q'.1 a w→wpList env.P ops Q ys a w)→o.wp env.P a w (wpList env.P ops Q (os++ys)) Q:=by
    intro fr' hfr' q' h' hq' hys'
    obtain⟨p,h1,h2⟩:=Option.bind_eq_some_iff.1 h'
    obtain⟨q2,h3,h4⟩:=Option.bind_eq_some_iff.1 h2
    cases h4
    obtain⟨o1,o2⟩:=allB_cat hq'
    obtain⟨v,H'⟩:=p
    have hH:=evOp0_heap (hcl o List.mem_cons_self) h1
    subst hH
    refine op_sound hok hf hr (evOp_of o1 h1) st.inv hfr' fun u ρ' E' w' inv' reach rv _=> ?_
    exact ih os _ q2 h3 o2 hcl' ys hys' ρ' E' _ w' ⟨inv',(hfr'.mono reach.ext).put rv o.dst,st.reach.trans reach⟩
   have skip:∀fr',FrRep ρ E w fr' a→∀q',mOps env r ops H n os (putA fr' o.dst uv)=some q'→allB q'.2=true→
    (∀ρ E a w,St lo w0 ρ0 E0 wE ρ E H q'.1 a w→wpList env.P ops Q ys a w)→wpList env.P ops Q (os++ys) (a.put o.dst undef) w:=by
    intro fr' hfr' q' h' hq' hys'
    exact ih os _ q' h' hq' hcl' ys hys' ρ E _ w ⟨st.inv,hfr'.put (by simp only[uv,Rep]) o.dst,st.reach⟩
   simp only[mOps]at h
   split at h
   ·rename_i hg
    show wpList env.P ops Q (o::(os++ys)) a w
    unfold wpList
    rw[if_pos (by simp[Region.wanted,hg])]
    exact .inl (run fr st.fr q h hq hys)
   ·rename_i j want hg
    split at h
    ·cases h
    ·rename_i s hs
     split at h
     ·rename_i b hb
      have ht:a.tmps[s]? = some (.bool b):=st.fr.at hb
      have hw:=wanted_guard hg hs ht
      show wpList env.P ops Q (o::(os++ys)) a w
      unfold wpList
      rw[hw]
      cases hbw:(b==want)with
      |true=>rw[hbw,cond_true]at h;rw[if_pos rfl];exact .inl (run fr st.fr q h hq hys)
      |false=>rw[hbw,cond_false]at h;rw[if_neg (by simp)];exact skip fr st.fr q h hq hys
     ·rename_i vs hb
      have ht:=st.fr.at hb
      have hw:=wanted_skip hg hs ht
      show wpList env.P ops Q (o::(os++ys)) a w
      unfold wpList
      rw[hw,if_neg (by simp)]
      exact skip fr st.fr q h hq hys
     ·rename_i b hb
      obtain⟨c,hc,h⟩:=Option.bind_eq_some_iff.1 h
      obtain⟨x,hx,h⟩:=Option.bind_eq_some_iff.1 h
      obtain⟨y,hy,h⟩:=Option.bind_eq_some_iff.1 h
      obtain⟨z,hz,h⟩:=Option.bind_eq_some_iff.1 h
      cases h
      obtain⟨o1,o2⟩:=allB_cat hq
      have o1':=mrgO_all o1
      obtain⟨lx,kx⟩:=mOps_keep _ _ _ _ hx
      obtain⟨ly,ky⟩:=mOps_keep _ _ _ _ hy
      rw[List.length_set]at lx ly
      have e:=splitPick_app hc
      have hb':Rep ρ E w (.sc (.bool b)) (a.tmps.getD s undef):=by
       have:=st.fr.getD s
       rw[hb]at this
       simpa only[Rep]using this
      have hset:FrRep ρ E w (fr.set s (.sc (.bool b))) a:=st.fr.setRep hb'
      have hc1:∀o∈c.1,cls env o.op≤1:=fun x hx=>hcl x (by rw[e];exact List.mem_append_left _ hx)
      have hc2:∀o∈c.2,cls env o.op≤1:=fun x hx=>hcl x (by rw[e];exact List.mem_append_right _ hx)
      rw[e,List.append_assoc]
      cases b with
      |true=>
       refine ih c.1 _ x hx o1' hc1 (c.2++ys) (fun ρ1 E1 a1 w1 st1=> ?_) ρ E a w ⟨st.inv,hset,st.reach⟩
       refine ih c.2 _ z hz o2 hc2 ys hys ρ1 E1 a1 w1 ⟨st1.inv,?_,st1.reach⟩
       exact mrg_frRep lx ly (fun t p q hd hp hq v hv=>set_keep hb (kx t hd) hp hq v hv) st1.fr
      |false=>
       refine ih c.1 _ y hy o1' hc1 (c.2++ys) (fun ρ1 E1 a1 w1 st1=> ?_) ρ E a w ⟨st.inv,hset,st.reach⟩
       refine ih c.2 _ z hz o2 hc2 ys hys ρ1 E1 a1 w1 ⟨st1.inv,?_,st1.reach⟩
       exact mrg_frRep lx ly (fun t p q hd hp hq v hv=>set_keep hb (ky t hd) hp hq v hv) st1.fr
     ·cases h
theorem evQ_keep {fuel:Nat}:∀(c:Code) (fr:Fr) (q:Fr×List Bool),evQ env r fuel H c fr=some q→q.1.length=fr.length∧∀t,(dstsC c).elem t=false→q.1[t]? = fr[t]? :=by
 intro c
 induction c with
 |skip=>intro fr q h;simp only[evQ,Option.some.injEq]at h;subst h;exact⟨rfl,fun _ _=>rfl⟩
 |region i ops d=>intro fr q h;simp only[evQ]at h;exact mOps_keep _ _ _ _ h
 |seq a b iha ihb=>
  intro fr q h
  simp only[evQ]at h
  obtain⟨x,hx,h⟩:=Option.bind_eq_some_iff.1 h
  obtain⟨y,hy,h⟩:=Option.bind_eq_some_iff.1 h
  cases h
  obtain⟨lx,kx⟩:=iha _ _ hx
  obtain⟨ly,ky⟩:=ihb _ _ hy
  refine⟨by rw[ly,lx],fun t ht=> ?_⟩
  simp only[dstsC]at ht
  obtain⟨h1,h2⟩:=elem_app ht
  rw[ky t h2,kx t h1]
 |cond c a b iha ihb=>
  intro fr q h
  simp only[evQ]at h
  split at h
  ·rename_i t ht
   cases t with
   |true=>
    rw[cond_true]at h
    obtain⟨l,k⟩:=iha _ _ h
    exact⟨l,fun u hu=>k u (elem_app (by simpa only[dstsC]using hu)).1⟩
   |false=>
    rw[cond_false]at h
    obtain⟨l,k⟩:=ihb _ _ h
    exact⟨l,fun u hu=>k u (elem_app (by simpa only[dstsC]using hu)).2⟩
  ·obtain⟨x,hx,h⟩:=Option.bind_eq_some_iff.1 h
   obtain⟨y,hy,h⟩:=Option.bind_eq_some_iff.1 h
   cases h
   obtain⟨lx,kx⟩:=iha _ _ hx
   obtain⟨ly,ky⟩:=ihb _ _ hy
   exact⟨mrgL_len lx ly,fun u hu=>mrgL_keep lx ly (by simpa only[dstsC]using hu)⟩
  ·cases h
 |_=>intro fr q h;simp[evQ]at h
theorem evQ_sound (hok:EnvOk env) (hf:HasFn env r) (hr:SoundRec env.P env.pre r) {fuel:Nat}:∀(c:Code) (Q:Exit→Act→World→Prop) (fr:Fr) (q:Fr×List Bool),quiet env c=true→evQ env r fuel H c fr=some q→allB q.2=true→
 (∀ρ E a w,St lo w0 ρ0 E0 wE ρ E H q.1 a w→Q .normal a w)→∀ρ E a w,St lo w0 ρ0 E0 wE ρ E H fr a w→c.wp env.P Q a w:=by
 intro c
 induction c with
 |skip=>intro Q fr q _ h _ hk ρ E a w st;simp only[evQ,Option.some.injEq]at h;subst h;exact wp_skip (hk ρ E a w st)
 |region i ops d=>
  intro Q fr q hq h ho hk ρ E a w st
  simp only[quiet,Bool.and_eq_true,Bool.not_eq_true']at hq
  obtain⟨rfl,hq⟩:=hq
  simp only[evQ]at h
  have hcl:∀o∈ops.toList,cls env o.op≤1:=fun o ho=>by
   have:=List.all_eq_true.1 hq o ho
   simpa using this
  have:=mOps_sound hok hf hr (Q:=Q) fuel ops.toList fr q h ho hcl [] (fun ρ E a w st=>by simp only[wpList];exact hk ρ E a w st) ρ E a w st
  rw[List.append_nil]at this
  exact wp_region_list this
 |seq x y ihx ihy=>
  intro Q fr q hq h ho hk ρ E a w st
  simp only[quiet,Bool.and_eq_true]at hq
  simp only[evQ]at h
  obtain⟨p,hp,h⟩:=Option.bind_eq_some_iff.1 h
  obtain⟨p',hp',h⟩:=Option.bind_eq_some_iff.1 h
  cases h
  obtain⟨o1,o2⟩:=allB_cat ho
  exact wp_seq (ihx (Exit.then (y.wp env.P Q) Q) fr p hq.1 hp o1 (fun ρ1 E1 a1 w1 st1=>ihy Q p.1 p' hq.2 hp' o2 hk ρ1 E1 a1 w1 st1) ρ E a w st)
 |cond c x y ihx ihy=>
  intro Q fr q hq h ho hk ρ E a w st
  simp only[quiet,Bool.and_eq_true]at hq
  simp only[evQ]at h
  split at h
  ·rename_i t ht
   have hc:a.eval c = .bool t:=by
    have:=st.fr.opd c
    rw[ht]at this
    simpa only[Rep]using this
   cases t with
   |true=>simp only[cond_true]at h;exact wp_cond_true hc (ihx Q fr q hq.1 h ho hk ρ E a w st)
   |false=>simp only[cond_false]at h;exact wp_cond_false hc (ihy Q fr q hq.2 h ho hk ρ E a w st)
  ·rename_i t ht
   have hc:a.eval c = .bool t:=by
    have:=st.fr.opd c
    rw[ht]at this
    simpa only[Rep]using this
   obtain⟨p,hp,h⟩:=Option.bind_eq_some_iff.1 h
   obtain⟨p',hp',h⟩:=Option.bind_eq_some_iff.1 h
   cases h
   have o1':=mrgO_all ho
   obtain⟨lx,kx⟩:=evQ_keep _ _ _ hp
   obtain⟨ly,ky⟩:=evQ_keep _ _ _ hp'
   cases t with
   |true=>
    refine wp_cond_true hc (ihx Q fr p hq.1 hp o1' (fun ρ1 E1 a1 w1 st1=>hk ρ1 E1 a1 w1 ⟨st1.inv,?_,st1.reach⟩) ρ E a w st)
    refine mrg_frRep lx ly (fun t u v hd hu hv z hz=> ?_) st1.fr
    rw[cond_true,kx t (elem_app hd).1,hu]at hv
    cases hv;exact hz
   |false=>
    refine wp_cond_false hc (ihy Q fr p' hq.2 hp' o1' (fun ρ1 E1 a1 w1 st1=>hk ρ1 E1 a1 w1 ⟨st1.inv,?_,st1.reach⟩) ρ E a w st)
    refine mrg_frRep lx ly (fun t u v hd hu hv z hz=> ?_) st1.fr
    rw[cond_false,ky t (elem_app hd).2,hu]at hv
    cases hv;exact hz
  ·cases h
 |_=>intro Q fr q hq;simp[quiet]at hq
end
end Go.AM
