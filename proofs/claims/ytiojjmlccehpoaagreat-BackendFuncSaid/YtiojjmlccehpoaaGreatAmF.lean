/-
  Regions that draw their order: what they do does not hang on the order.
-/
import Derived.Test.YtiojjmlccehpoaaGreatAmE
set_option linter.unusedSimpArgs false
set_option linter.unusedVariables false
namespace Go.AM
theorem xq {x:Nat}:∀{xs s:List Nat},x∈D8 s xs->x∈s∨x∈xs
 | [],_,h=> .inl h
 |y::ys,s,h=>by
  simp only[D8]at h;rcases xq h with h|h
  ·cases he:s.elem y with
   |true=>simp only[he,ap]at h;exact .inl h
   |false=>
    simp only[he,aJ,cU]at h;rcases h with rfl|h
    ·exact .inr (by simp)
    ·exact .inl h
  ·exact .inr (by simp[h])
theorem tq {acc:List (List Nat)} {x:Nat}:∀{es:List Edge} {s:List Nat},x∈uS acc s es->x∈s∨∃e∈es,Region.binds .any e=true∧(x=e.on∨x∈acc.getD e.on [])
 | [],_,h=> .inl h
 |e::es,s,h=>by
  simp only[uS]at h;rcases tq h with h|⟨e',he',hb,hx⟩
  ·cases hb:Region.binds .any e with
   |true=>
    simp only[hb,ap]at h;rcases xq h with h|h
    ·exact .inl h
    ·simp only[cU]at h;exact .inr ⟨e,by simp,hb,h⟩
   |false=>simp only[hb,aJ]at h;exact .inl h
  ·exact .inr ⟨e',by simp[he'],hb,hx⟩
def Closed (ops:Array Oper) (L:Nat->Bool):Prop:=∀j o,ops[j]? = some o->L j=true->∀e∈o.after.toList,Region.binds .any e=true->L e.on=true
def Rdy (ops:Array Oper) (L:Nat->Bool) (j:Nat):Prop:=L j=false∧∀o,ops[j]? = some o->∀e∈o.after.toList,Region.binds .any e=true->L e.on=true
theorem tt {ops:Array Oper} {L:Nat->Bool} (hc:Closed ops L):∀(os:List Oper) (acc:List (List Nat)),(∀k,os[k]? = ops[acc.length+k]?)->
 (∀j i,i∈acc.getD j []->j<acc.length->(L j=true∨Rdy ops L j)->L i=true)->∀j i,i∈(wM acc os).getD j []->(L j=true∨Rdy ops L j)->L i=true
 | [],acc,_,h,j,i,hi,hj=>by
   simp only[wM]at hi;by_cases hl:j<acc.length
   ·exact h j i hi hl hj
   ·rw[List.getD,iV (by omega)]at hi;simp at hi
 |o::os,acc,hos,h,j,i,hi,hj=>by
  simp only[wM]at hi;refine tt hc os _ (fun k=> ?_) (fun j i hi hl hj=> ?_) j i hi hj
  ·have:=hos (k+1);simp only[sV,bN,ce,cZ]at this ⊢;rw[this];congr 1;omega
  ·simp only[bN,ce,cZ]at hl;by_cases hlt:j<acc.length
   ·rw[List.getD,nB hlt]at hi;exact h j i hi hlt hj
   ·have hje:j=acc.length:=by omega
    subst hje;rw[List.getD,lJ (aP _)]at hi;simp only[Nat.sub_self,wi,j5]at hi;have ho:ops[acc.length]? = some o:=by have:=hos 0;simpa using this.symm
    rcases tq hi with hi|⟨e,he,hb,hx⟩
    ·cases hi
    ·have hl':L e.on=true:=by
      rcases hj with hj|hj
      ·exact hc _ o ho hj e he hb
      ·exact hj.2 o ho e he hb
     rcases hx with rfl|hx
     ·exact hl'
     ·by_cases hlt':e.on<acc.length
      ·exact h e.on i hx hlt' (.inl hl')
      ·rw[List.getD,iV (by omega)]at hx;simp at hx
theorem dW {ops:Array Oper} {L:Nat->Bool} (hc:Closed ops L) {j i:Nat} (hi:((i9 ops).getD j []).elem i=true) (hj:L j=true∨Rdy ops L j):L i=true:=
 tt hc ops.toList [] (fun k=>by simp) (fun j i h=>by simp at h) j i (by have:=hi;simp only[i9]at this;simpa using this) hj
def dJ (ops:Array Oper) (fr:Fr) (o:Oper) (wd:Bool):Prop:=
 match o.guard with
 |none=>wd=true
 |some (j,want)=>∃s:Nat,(ops[j]?).bind (fun x:Oper=>x.dst)=some s∧
   ((∃b,fr.getD s AV.undef=AV.sc (.bool b)∧wd=(b==want))∨(∃vs,fr.getD s AV.undef=AV.sc (.tuple vs)∧wd=false))
def V0 (env:Env) (r:Rec) (o:Oper) (fr fr':Fr) (H H':Hp) (v:AV) (wd:Bool):Prop:=
 fr'=dH fr o.dst v∧((wd=true∧∃v0,eL env r fr H o.type o.op=some (v0,H')∧REq v0 v)∨(wd=false∧v=uv∧H'=H))
structure Run (env:Env) (r:Rec) (ops:Array Oper) (frT:Nat->Fr) (HT:Nat->Hp) (vT:Nat->AV) (Wd:Nat->Bool):Prop where
 step:∀i o,ops[i]? = some o->V0 env r o (frT i) (frT (i+1)) (HT i) (HT (i+1)) (vT i) (Wd i)
 guard:∀i o,ops[i]? = some o->dJ ops (frT i) o (Wd i)
theorem pw {fr:Fr} {s:Nat} {x:AV} (h:fr.getD s .undef=x):fr.set s x=fr:=by
 apply gw;intro t;rw[gX];by_cases e:s=t
 ·subst e;by_cases hl:s<fr.length
  ·rw[if_pos rfl,if_pos hl,cq hl];simp only[List.getD,cq hl,j5]at h;rw[h]
  ·rw[if_pos rfl,if_neg hl,iV (by omega)]
 ·rw[if_neg e]
theorem xr {env:Env} {r:Rec} {ops:Array Oper} {R:Type} {k:Fr->Hp->Option R} {res:R} {o:Oper} {fr:Fr} {H:Hp} (h:dC false env r ops k [o] fr H=some res):
 ∃v H' wd,k (dH fr o.dst v) H'=some res∧((wd=true∧∃v0,eL env r fr H o.type o.op=some (v0,H')∧REq v0 v)∨(wd=false∧v=uv∧H'=H))∧dJ ops fr o wd:=by
 simp only[dC]at h;split at h
 ·rename_i hg;rw[q7]at h;cases he:eL env r fr H o.type o.op with
  |none=>simp[he]at h
  |some p=>
   simp only[he,bo]at h;obtain⟨v,hre,h⟩:=q9 h;rw[fM]at h;exact⟨v,p.2,true,h, .inl ⟨rfl,p.1,rfl,hre⟩,by simp only[dJ,hg]⟩
 ·rename_i j want hg;split at h
  ·cases h
  ·rename_i s hs;unfold l9 at h
   have run:∀fr',fr'=fr->opK env r fr' H o.type o.op (fun p=>uB (!false&&hX ops o.dst) p.1 fun v=>wK env.clr fr' o.dst v p.2 k)=some res->dJ ops fr o true->
    ∃v H' wd,k (dH fr o.dst v) H'=some res∧((wd=true∧∃v0,eL env r fr H o.type o.op=some (v0,H')∧REq v0 v)∨(wd=false∧v=uv∧H'=H))∧dJ ops fr o wd:=by
    intro fr' e h' hb;subst e;rw[q7]at h';cases he:eL env r fr' H o.type o.op with
    |none=>simp[he]at h'
    |some p=>
     simp only[he,bo]at h';obtain⟨v,hre,h'⟩:=q9 h';rw[fM]at h';exact⟨v,p.2,true,h', .inl ⟨rfl,p.1,rfl,hre⟩,hb⟩
   have skip:∀fr',fr'=fr->wK env.clr fr' o.dst uv H k=some res->dJ ops fr o false->
    ∃v H' wd,k (dH fr o.dst v) H'=some res∧((wd=true∧∃v0,eL env r fr H o.type o.op=some (v0,H')∧REq v0 v)∨(wd=false∧v=uv∧H'=H))∧dJ ops fr o wd:=by
    intro fr' e h' hb;subst e;rw[fM]at h';exact⟨uv,H,false,h', .inr ⟨rfl,rfl,rfl⟩,hb⟩
   split at h
   ·cases h
   ·rename_i b hb;have hset:=pw hb;cases b with
    |true=>
     simp only[ap]at h;cases want with
     |true=>exact run _ hset h (by simp only[dJ,hg];exact⟨s,hs, .inl ⟨true,hb,rfl⟩⟩)
     |false=>exact skip _ hset h (by simp only[dJ,hg];exact⟨s,hs, .inl ⟨true,hb,rfl⟩⟩)
    |false=>
     simp only[aJ]at h;cases want with
     |true=>exact skip _ hset h (by simp only[dJ,hg];exact⟨s,hs, .inl ⟨false,hb,rfl⟩⟩)
     |false=>exact run _ hset h (by simp only[dJ,hg];exact⟨s,hs, .inl ⟨false,hb,rfl⟩⟩)
   ·rename_i vs hb;exact skip fr rfl h (by simp only[dJ,hg];exact⟨s,hs, .inr ⟨vs,hb,trivial⟩⟩)
   ·cases h
def fk (frT:Nat->Fr) (HT:Nat->Hp):Nat->Nat->List (Fr×Hp)->List (Fr×Hp)
 |_,0,log=>log
 |m,n+1,log=>fk frT HT (m+1) n ((frT m,HT m)::log)
theorem nJ {frT frT':Nat->Fr} {HT HT':Nat->Hp}:∀(n m:Nat) (log:List (Fr×Hp)),(∀i,m≤i->frT i=frT' i∧HT i=HT' i)->fk frT HT m n log=fk frT' HT' m n log
 |0,_,_,_=>rfl
 |n+1,m,log,h=>by
  simp only[fk,(h m (aP _)).1,(h m (aP _)).2];exact nJ n (m+1) _ fun i hi=>h i (by omega)
theorem tu {frT:Nat->Fr} {HT:Nat->Hp}:∀(n m:Nat) (log:List (Fr×Hp)),(fk frT HT m n log).reverse=log.reverse++(List.range n).map fun i=>(frT (m+i),HT (m+i))
 |0,_,_=>by simp[fk]
 |n+1,m,log=>by
  simp only[fk];rw[tu n (m+1),List.range_succ_eq_map];simp only[List.reverse_cons,cy,bW,List.map_map,lQ,List.singleton_append]
  congr 3
  funext i
  simp only[Function.comp,Nat.succ_eq_add_one];rw[show m+1+i=m+(i+1)from by omega]
theorem sts_get {frT:Nat->Fr} {HT:Nat->Hp} {n i:Nat} (hi:i≤n):((fk frT HT 0 n []).reverse ++ [(frT n,HT n)])[i]? = some (frT i,HT i):=by
 rw[tu];have e:([]:List (Fr×Hp)).reverse++(List.range n).map (fun i=>(frT (0+i),HT (0+i))) ++ [(frT n,HT n)]=(List.range (n+1)).map fun i=>(frT i,HT i):=by
  rw[List.range_succ,lO];simp
 rw[e,it,List.getElem?_range (by omega)]
 rfl
def Laid (env:Env) (r:Rec) (ops:Array Oper) {R:Type} (k:List (Fr×Hp)->Fr->Hp->Option R) (res:R) (n m:Nat) (log:List (Fr×Hp)) (fr:Fr) (H:Hp):Prop:=
 ∃(frT:Nat->Fr) (HT:Nat->Hp) (vT:Nat->AV) (Wd:Nat->Bool),frT m=fr∧HT m=H∧k (fk frT HT m n log) (frT (m+n)) (HT (m+n))=some res∧
  (∀i o,m≤i->ops[i]? = some o->V0 env r o (frT i) (frT (i+1)) (HT i) (HT (i+1)) (vT i) (Wd i))∧
  (∀i o,m≤i->ops[i]? = some o->dJ ops (frT i) o (Wd i))
theorem py {env:Env} {r:Rec} {ops:Array Oper} {R:Type} {k:List (Fr×Hp)->Fr->Hp->Option R} {res:R}:∀(os:List Oper) (m:Nat) (log:List (Fr×Hp)) (fr:Fr) (H:Hp),(∀q,os[q]? = ops[m+q]?)->f9 env r ops k os log fr H=some res->
 Laid env r ops k res os.length m log fr H
 | [],m,log,fr,H,hos,h=>by
   simp only[f9]at h
   have hnone:∀i,m≤i->ops[i]? = none:=fun i hi=>by
    have h0:=hos (i-m);rw[show m+(i-m)=i from by omega]at h0
    simpa using h0.symm
   refine⟨fun _=>fr,fun _=>H,fun _=>uv,fun _=>true,rfl,rfl,h,fun i o hi ho=> ?_,fun i o hi ho=> ?_⟩
   ·rw[hnone i hi]at ho;cases ho
   ·rw[hnone i hi]at ho;cases ho
 |o::os,m,log,fr,H,hos,h=>by
  have ho:ops[m]? = some o:=by have:=hos 0;simpa using this.symm
  have hos':∀q,os[q]? = ops[m+1+q]? :=fun q=>by
   have:=hos (q+1);rw[show m+1+q=m+(q+1)from by omega];simpa using this
  simp only[f9]at h;obtain⟨v,H',wd,h',hst,hgd⟩:=xr h;obtain⟨frT,HT,vT,Wd,e1,e2,hk,hs,hg⟩:=py os (m+1) _ _ H' hos' h';refine⟨fun i=>if i≤m then fr else frT i,fun i=>if i≤m then H else HT i,fun i=>if i≤m then v else vT i,fun i=>if i≤m then wd else Wd i,by simp,by simp,?_,?_,?_⟩
  ·simp only[ce];rw[if_neg (by omega),if_neg (by omega),show m+(os.length+1)=m+1+os.length from by omega]
   simp only[fk,aP,be];rw[nJ (frT':=frT) (HT':=HT) os.length (m+1) _ fun i hi=>⟨if_neg (by omega),if_neg (by omega)⟩]
   exact hk
  ·intro i o' hi hoi;by_cases e:i=m
   ·subst e;rw[ho]at hoi;cases hoi;simp only[aP,be,show¬i+1≤i from by omega,bb,e1,e2]
    exact⟨rfl,hst⟩
   ·have h1:¬i≤m:=by omega
    have h2:¬i+1≤m:=by omega
    simp only[h1,h2,bb];exact hs i o' (by omega) hoi
  ·intro i o' hi hoi;by_cases e:i=m
   ·subst e;rw[ho]at hoi;cases hoi;simp only[aP,be];exact hgd
   ·have h1:¬i≤m:=by omega
    simp only[h1,bb];exact hg i o' (by omega) hoi
end Go.AM
