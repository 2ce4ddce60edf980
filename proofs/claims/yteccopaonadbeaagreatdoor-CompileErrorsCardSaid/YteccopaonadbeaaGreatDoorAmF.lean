/-
  Regions that draw their order: what they do does not hang on the order.
-/
import Derived.Test.YteccopaonadbeaaGreatDoorAmE
set_option linter.unusedVariables false
set_option linter.unusedSimpArgs false
namespace Go.AM
theorem mem_addAll {x:Nat}:∀{xs s:List Nat},x∈addAll s xs→x∈s∨x∈xs
 | [],_,h=> .inl h
 |y::ys,s,h=>by
  simp only[addAll]at h
  rcases mem_addAll h with h|h
  ·cases he:s.elem y with
   |true=>simp only[he,cond_true]at h;exact .inl h
   |false=>
    simp only[he,cond_false,List.mem_cons]at h
    rcases h with rfl|h
    ·exact .inr (by simp)
    ·exact .inl h
  ·exact .inr (by simp[h])
theorem mem_predsOf {acc:List (List Nat)} {x:Nat}:∀{es:List Edge} {s:List Nat},x∈predsOf acc s es→x∈s∨∃e∈es,Region.binds .any e=true∧(x=e.on∨x∈acc.getD e.on [])
 | [],_,h=> .inl h
 |e::es,s,h=>by
  simp only[predsOf]at h
  rcases mem_predsOf h with h|⟨e',he',hb,hx⟩
  ·cases hb:Region.binds .any e with
   |true=>
    simp only[hb,cond_true]at h
    rcases mem_addAll h with h|h
    ·exact .inl h
    ·simp only[List.mem_cons]at h
     exact .inr ⟨e,by simp,hb,h⟩
   |false=>simp only[hb,cond_false]at h;exact .inl h
  ·exact .inr ⟨e',by simp[he'],hb,hx⟩
def Closed (ops:Array Oper) (L:Nat→Bool):Prop:=∀j o,ops[j]? = some o→L j=true→∀e∈o.after.toList,Region.binds .any e=true→L e.on=true
def Rdy (ops:Array Oper) (L:Nat→Bool) (j:Nat):Prop:=L j=false∧∀o,ops[j]? = some o→∀e∈o.after.toList,Region.binds .any e=true→L e.on=true
theorem predsL_spec {ops:Array Oper} {L:Nat→Bool} (hc:Closed ops L):∀(os:List Oper) (acc:List (List Nat)),(∀k,os[k]? = ops[acc.length+k]?)→
 (∀j i,i∈acc.getD j []→j<acc.length→(L j=true∨Rdy ops L j)→L i=true)→∀j i,i∈(predsL acc os).getD j []→(L j=true∨Rdy ops L j)→L i=true
 | [],acc,_,h,j,i,hi,hj=>by
   simp only[predsL]at hi
   by_cases hl:j<acc.length
   ·exact h j i hi hl hj
   ·rw[List.getD,List.getElem?_eq_none (by omega)]at hi;simp at hi
 |o::os,acc,hos,h,j,i,hi,hj=>by
  simp only[predsL]at hi
  refine predsL_spec hc os _ (fun k=> ?_) (fun j i hi hl hj=> ?_) j i hi hj
  ·have:=hos (k+1)
   simp only[List.getElem?_cons_succ,List.length_append,List.length_cons,List.length_nil]at this ⊢
   rw[this];congr 1;omega
  ·simp only[List.length_append,List.length_cons,List.length_nil]at hl
   by_cases hlt:j<acc.length
   ·rw[List.getD,List.getElem?_append_left hlt]at hi
    exact h j i hi hlt hj
   ·have hje:j=acc.length:=by omega
    subst hje
    rw[List.getD,List.getElem?_append_right (Nat.le_refl _)]at hi
    simp only[Nat.sub_self,List.getElem?_cons_zero,Option.getD_some]at hi
    have ho:ops[acc.length]? = some o:=by have:=hos 0;simpa using this.symm
    rcases mem_predsOf hi with hi|⟨e,he,hb,hx⟩
    ·cases hi
    ·have hl':L e.on=true:=by
      rcases hj with hj|hj
      ·exact hc _ o ho hj e he hb
      ·exact hj.2 o ho e he hb
     rcases hx with rfl|hx
     ·exact hl'
     ·by_cases hlt':e.on<acc.length
      ·exact h e.on i hx hlt' (.inl hl')
      ·rw[List.getD,List.getElem?_eq_none (by omega)]at hx;simp at hx
theorem preds_spec {ops:Array Oper} {L:Nat→Bool} (hc:Closed ops L) {j i:Nat} (hi:((preds ops).getD j []).elem i=true) (hj:L j=true∨Rdy ops L j):L i=true:=
 predsL_spec hc ops.toList [] (fun k=>by simp) (fun j i h=>by simp at h) j i (by have:=hi;simp only[preds]at this;simpa using this) hj
def GuardOk (ops:Array Oper) (fr:Fr) (o:Oper) (wd:Bool):Prop:=
 match o.guard with
 |none=>wd=true
 |some (j,want)=>∃s:Nat,(ops[j]?).bind (fun x:Oper=>x.dst)=some s∧
   ((∃b,fr.getD s AV.undef=AV.sc (.bool b)∧wd=(b==want))∨(∃vs,fr.getD s AV.undef=AV.sc (.tuple vs)∧wd=false))
def StepOk (env:Env) (r:Rec) (o:Oper) (fr fr':Fr) (H H':Hp) (v:AV) (wd:Bool):Prop:=
 fr'=putA fr o.dst v∧((wd=true∧∃v0,evOp env r fr H o.type o.op=some (v0,H')∧REq v0 v)∨(wd=false∧v=uv∧H'=H))
structure Run (env:Env) (r:Rec) (ops:Array Oper) (frT:Nat→Fr) (HT:Nat→Hp) (vT:Nat→AV) (Wd:Nat→Bool):Prop where
 step:∀i o,ops[i]? = some o→StepOk env r o (frT i) (frT (i+1)) (HT i) (HT (i+1)) (vT i) (Wd i)
 guard:∀i o,ops[i]? = some o→GuardOk ops (frT i) o (Wd i)
theorem set_getD {fr:Fr} {s:Nat} {x:AV} (h:fr.getD s .undef=x):fr.set s x=fr:=by
 apply List.ext_getElem?
 intro t
 rw[List.getElem?_set]
 by_cases e:s=t
 ·subst e
  by_cases hl:s<fr.length
  ·rw[if_pos rfl,if_pos hl,List.getElem?_eq_getElem hl]
   simp only[List.getD,List.getElem?_eq_getElem hl,Option.getD_some]at h
   rw[h]
  ·rw[if_pos rfl,if_neg hl,List.getElem?_eq_none (by omega)]
 ·rw[if_neg e]
theorem step1_of_evOps {env:Env} {r:Rec} {ops:Array Oper} {R:Type} {k:Fr→Hp→Option R} {res:R} {o:Oper} {fr:Fr} {H:Hp} (h:evOps false env r ops k [o] fr H=some res):
 ∃v H' wd,k (putA fr o.dst v) H'=some res∧((wd=true∧∃v0,evOp env r fr H o.type o.op=some (v0,H')∧REq v0 v)∨(wd=false∧v=uv∧H'=H))∧GuardOk ops fr o wd:=by
 simp only[evOps]at h
 split at h
 ·rename_i hg
  rw[opK_eq]at h
  cases he:evOp env r fr H o.type o.op with
  |none=>simp[he]at h
  |some p=>
   simp only[he,Option.bind_some]at h
   obtain⟨v,hre,h⟩:=refA_some h
   rw[putK_eq]at h
   exact⟨v,p.2,true,h, .inl ⟨rfl,p.1,rfl,hre⟩,by simp only[GuardOk,hg]⟩
 ·rename_i j want hg
  split at h
  ·cases h
  ·rename_i s hs
   unfold guardK at h
   have run:∀fr',fr'=fr→opK env r fr' H o.type o.op (fun p=>refA (!false&&isGuard ops o.dst) p.1 fun v=>putK env.clr fr' o.dst v p.2 k)=some res→GuardOk ops fr o true→
    ∃v H' wd,k (putA fr o.dst v) H'=some res∧((wd=true∧∃v0,evOp env r fr H o.type o.op=some (v0,H')∧REq v0 v)∨(wd=false∧v=uv∧H'=H))∧GuardOk ops fr o wd:=by
    intro fr' e h' hb
    subst e
    rw[opK_eq]at h'
    cases he:evOp env r fr' H o.type o.op with
    |none=>simp[he]at h'
    |some p=>
     simp only[he,Option.bind_some]at h'
     obtain⟨v,hre,h'⟩:=refA_some h'
     rw[putK_eq]at h'
     exact⟨v,p.2,true,h', .inl ⟨rfl,p.1,rfl,hre⟩,hb⟩
   have skip:∀fr',fr'=fr→putK env.clr fr' o.dst uv H k=some res→GuardOk ops fr o false→
    ∃v H' wd,k (putA fr o.dst v) H'=some res∧((wd=true∧∃v0,evOp env r fr H o.type o.op=some (v0,H')∧REq v0 v)∨(wd=false∧v=uv∧H'=H))∧GuardOk ops fr o wd:=by
    intro fr' e h' hb
    subst e
    rw[putK_eq]at h'
    exact⟨uv,H,false,h', .inr ⟨rfl,rfl,rfl⟩,hb⟩
   split at h
   ·cases h
   ·rename_i b hb
    have hset:=set_getD hb
    cases b with
    |true=>
     simp only[cond_true]at h
     cases want with
     |true=>exact run _ hset h (by simp only[GuardOk,hg];exact⟨s,hs, .inl ⟨true,hb,rfl⟩⟩)
     |false=>exact skip _ hset h (by simp only[GuardOk,hg];exact⟨s,hs, .inl ⟨true,hb,rfl⟩⟩)
    |false=>
     simp only[cond_false]at h
     cases want with
     |true=>exact skip _ hset h (by simp only[GuardOk,hg];exact⟨s,hs, .inl ⟨false,hb,rfl⟩⟩)
     |false=>exact run _ hset h (by simp only[GuardOk,hg];exact⟨s,hs, .inl ⟨false,hb,rfl⟩⟩)
   ·rename_i vs hb
    exact skip fr rfl h (by simp only[GuardOk,hg];exact⟨s,hs, .inr ⟨vs,hb,trivial⟩⟩)
   ·cases h
def stsFrom (frT:Nat→Fr) (HT:Nat→Hp):Nat→Nat→List (Fr×Hp)→List (Fr×Hp)
 |_,0,log=>log
 |m,n+1,log=>stsFrom frT HT (m+1) n ((frT m,HT m)::log)
theorem stsFrom_congr {frT frT':Nat→Fr} {HT HT':Nat→Hp}:∀(n m:Nat) (log:List (Fr×Hp)),(∀i,m≤i→frT i=frT' i∧HT i=HT' i)→stsFrom frT HT m n log=stsFrom frT' HT' m n log
 |0,_,_,_=>rfl
 |n+1,m,log,h=>by
  simp only[stsFrom,(h m (Nat.le_refl _)).1,(h m (Nat.le_refl _)).2]
  exact stsFrom_congr n (m+1) _ fun i hi=>h i (by omega)
theorem stsFrom_rev {frT:Nat→Fr} {HT:Nat→Hp}:∀(n m:Nat) (log:List (Fr×Hp)),(stsFrom frT HT m n log).reverse=log.reverse++(List.range n).map fun i=>(frT (m+i),HT (m+i))
 |0,_,_=>by simp[stsFrom]
 |n+1,m,log=>by
  simp only[stsFrom]
  rw[stsFrom_rev n (m+1),List.range_succ_eq_map]
  simp only[List.reverse_cons,List.append_assoc,List.map_cons,List.map_map,Nat.add_zero,List.singleton_append]
  congr 3
  funext i
  simp only[Function.comp,Nat.succ_eq_add_one]
  rw[show m+1+i=m+(i+1)from by omega]
theorem sts_get {frT:Nat→Fr} {HT:Nat→Hp} {n i:Nat} (hi:i≤n):((stsFrom frT HT 0 n []).reverse ++ [(frT n,HT n)])[i]? = some (frT i,HT i):=by
 rw[stsFrom_rev]
 have e:([]:List (Fr×Hp)).reverse++(List.range n).map (fun i=>(frT (0+i),HT (0+i))) ++ [(frT n,HT n)]=(List.range (n+1)).map fun i=>(frT i,HT i):=by
  rw[List.range_succ,List.map_append]
  simp
 rw[e,List.getElem?_map,List.getElem?_range (by omega)]
 rfl
def Laid (env:Env) (r:Rec) (ops:Array Oper) {R:Type} (k:List (Fr×Hp)→Fr→Hp→Option R) (res:R) (n m:Nat) (log:List (Fr×Hp)) (fr:Fr) (H:Hp):Prop:=
 ∃(frT:Nat→Fr) (HT:Nat→Hp) (vT:Nat→AV) (Wd:Nat→Bool),frT m=fr∧HT m=H∧k (stsFrom frT HT m n log) (frT (m+n)) (HT (m+n))=some res∧
  (∀i o,m≤i→ops[i]? = some o→StepOk env r o (frT i) (frT (i+1)) (HT i) (HT (i+1)) (vT i) (Wd i))∧
  (∀i o,m≤i→ops[i]? = some o→GuardOk ops (frT i) o (Wd i))
theorem run_of_evOps {env:Env} {r:Rec} {ops:Array Oper} {R:Type} {k:List (Fr×Hp)→Fr→Hp→Option R} {res:R}:∀(os:List Oper) (m:Nat) (log:List (Fr×Hp)) (fr:Fr) (H:Hp),(∀q,os[q]? = ops[m+q]?)→evOpsT env r ops k os log fr H=some res→
 Laid env r ops k res os.length m log fr H
 | [],m,log,fr,H,hos,h=>by
   simp only[evOpsT]at h
   have hnone:∀i,m≤i→ops[i]? = none:=fun i hi=>by
    have h0:=hos (i-m)
    rw[show m+(i-m)=i from by omega]at h0
    simpa using h0.symm
   refine⟨fun _=>fr,fun _=>H,fun _=>uv,fun _=>true,rfl,rfl,h,fun i o hi ho=> ?_,fun i o hi ho=> ?_⟩
   ·rw[hnone i hi]at ho;cases ho
   ·rw[hnone i hi]at ho;cases ho
 |o::os,m,log,fr,H,hos,h=>by
  have ho:ops[m]? = some o:=by have:=hos 0;simpa using this.symm
  have hos':∀q,os[q]? = ops[m+1+q]? :=fun q=>by
   have:=hos (q+1)
   rw[show m+1+q=m+(q+1)from by omega];simpa using this
  simp only[evOpsT]at h
  obtain⟨v,H',wd,h',hst,hgd⟩:=step1_of_evOps h
  obtain⟨frT,HT,vT,Wd,e1,e2,hk,hs,hg⟩:=run_of_evOps os (m+1) _ _ H' hos' h'
  refine⟨fun i=>if i≤m then fr else frT i,fun i=>if i≤m then H else HT i,fun i=>if i≤m then v else vT i,fun i=>if i≤m then wd else Wd i,by simp,by simp,?_,?_,?_⟩
  ·simp only[List.length_cons]
   rw[if_neg (by omega),if_neg (by omega),show m+(os.length+1)=m+1+os.length from by omega]
   simp only[stsFrom,Nat.le_refl,if_true]
   rw[stsFrom_congr (frT':=frT) (HT':=HT) os.length (m+1) _ fun i hi=>⟨if_neg (by omega),if_neg (by omega)⟩]
   exact hk
  ·intro i o' hi hoi
   by_cases e:i=m
   ·subst e
    rw[ho]at hoi
    cases hoi
    simp only[Nat.le_refl,if_true,show¬i+1≤i from by omega,if_false,e1,e2]
    exact⟨rfl,hst⟩
   ·have h1:¬i≤m:=by omega
    have h2:¬i+1≤m:=by omega
    simp only[h1,h2,if_false]
    exact hs i o' (by omega) hoi
  ·intro i o' hi hoi
   by_cases e:i=m
   ·subst e
    rw[ho]at hoi
    cases hoi
    simp only[Nat.le_refl,if_true]
    exact hgd
   ·have h1:¬i≤m:=by omega
    simp only[h1,if_false]
    exact hg i o' (by omega) hoi
end Go.AM
