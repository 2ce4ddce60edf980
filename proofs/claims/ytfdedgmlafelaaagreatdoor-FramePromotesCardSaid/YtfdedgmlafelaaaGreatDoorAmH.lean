/-
  Regions that draw their order go as the order of the text does.
-/
import Derived.Test.YtfdedgmlafelaaaGreatDoorAmG
set_option linter.unusedSectionVars false
set_option linter.unusedSimpArgs false
set_option linter.unusedVariables false
namespace Go.AM
section
variable [HasDef] {env:Env} {r:Rec}
theorem iL {fr:Fr} {H H':Hp} {ty:TypeId} {op:Op} {v:AV} (hc:cls env op=2) (h:dD env r fr H ty op=some (v,H')):
 ∃(mk:Nat->AV) (k:Blk),v=mk H.n∧H'=H.push k∧∀(ρ:Nat->Option Nat) (E:Nat->Prop) (w:World) (a:Act) (o:Oper),o.op=op->FrRep ρ E w fr a->
  ∃s,execOp a.eval o=(do pure (.value (<- s)))∧OkA env.P ρ E w s mk k:=by
 have hob:=(dO h).1
 replace h:=(dO h).2
 cases op<;>simp only[cls]at hc<;>(try (exact absurd hc (by decide)))<;>simp only[bD]at h
 case convert S T x=>cases hs:sI env.P S<;>rw[hs]at hc<;>cases hc
 case alloc T=>
  obtain⟨z,cs,hz,hcs,rfl,rfl⟩:=pX h;exact⟨fun i=> .ptr i 0, .cells cs,rfl,rfl,fun ρ E w a o ho hfr=>⟨Instr.alloc T true (.tuple #[]),by simp[execOp,ho],yl hz hcs⟩⟩
 case box T x=>
  obtain⟨cs,hcs,rfl,rfl⟩:=yk h;exact⟨fun i=> .ptr i 0,_,rfl,rfl,fun ρ E w a o ho hfr=>⟨Instr.box T (a.eval x),by simp[execOp,ho],D4 hcs (hfr.opd x)⟩⟩
 case buildSlice T len parts=>
  obtain⟨s,cs,rfl,rfl,_,hok⟩:=j4 h;refine⟨fun i=> .sl i s 0 len, .cells cs,rfl,rfl,fun ρ E w a o ho hfr=> ?_⟩
  obtain⟨h1,h2⟩:=oJ hfr parts;exact⟨Instr.buildSlice T len (parts.map fun(i,x)=>(i,a.eval x)),by simp[execOp,ho],hok ρ E w _ h1 h2⟩
 case range T x=>
  have hm:fF env.P T=false:=by
   cases hm:fF env.P T with
   |false=>rfl
   |true=>rw[hm]at hc;cases hc
  obtain⟨k,rfl,rfl,hx⟩:=p9 hm h;exact⟨fun i=> .ptr i 0,k,rfl,rfl,fun ρ E w a o ho hfr=>⟨Instr.range T (a.eval x),by simp[execOp,ho],hx ρ E w _ (hfr.opd x)⟩⟩
 case makeMap T m=>
  unfold sQ at h;split at h
  ·cases h;exact⟨fun i=> .map i, .map [],rfl,rfl,fun ρ E w a o ho hfr=>⟨Instr.makeMap T none,by simp[execOp,ho],okA_makeMap⟩⟩
  ·cases h
 case makeSlice T l c=>
  obtain⟨mk,k,rfl,rfl,hok⟩:=tn h (by simpa only[obl]using hob)
  exact⟨mk,k,rfl,rfl,fun ρ E w a o ho hfr=>⟨Instr.makeSlice T (a.eval l) (a.eval c),by simp[execOp,ho],hok ρ E w _ _ (hfr.opd l) (hfr.opd c)⟩⟩
 case indexAddr T x i=>cases x<;>cases hc
 case call c=>
  cases hcal:c.callee with
  |value g=>
   simp only[hcal]at hc;cases g<;>simp only at hc<;>first|(exact absurd hc (by decide))|skip
   rename_i f;cases hp:env.isPure f<;>simp[hp]at hc
  |invoke x m=>simp only[hcal]at hc;exact absurd hc (by decide)
  |builtin b=>simp only[hcal]at hc;cases b<;>simp only at hc<;>first|exact absurd hc (by decide)|(exact absurd hc (by cases l6 env.P c.argTypes.toList<;>decide))
theorem AP (op:Op):cls env op=0∨cls env op=1∨cls env op=2∨cls env op=3:=by
 cases op<;>simp only[cls]<;>(try decide)
 case indexAddr T x i=>cases x<;>simp
 case convert S T x=>cases sI env.P S<;>decide
 case range T x=>cases fF env.P T<;>decide
 split<;>(try decide)
 ·rename_i f _;cases env.isPure f<;>decide
 ·rename_i c _ _;cases l6 env.P c.argTypes.toList<;>decide
theorem NE {fr fr':Fr} {x:Operand} (h:∀t,x = .tmp t->fr.getD t .undef=fr'.getD t .undef):opd fr x=opd fr' x:=by
 cases x with
 |tmp t=>exact h t rfl
 |_=>rfl
theorem eY {fr fr':Fr} {xs:List Operand} (h:∀x∈xs,opd fr x=opd fr' x):xs.map (opd fr)=xs.map (opd fr'):=List.map_congr_left h
theorem Ev {fr fr':Fr} {H:Hp} {ty:TypeId} {op:Op} (h:∀x∈op.operands.toList,opd fr x=opd fr' x):bD env r fr H ty op=bD env r fr' H ty op:=by
 cases op<;>simp only[Op.operands]at h<;>simp only[bD]
 case move x=>rw[h x (by simp)]
 case assign x=>rw[h x (by simp)]
 case pick c a b=>rw[h c (by simp),h a (by simp),h b (by simp)]
 case box T x=>rw[h x (by simp)]
 case build T ps=>
  have:ia fr ps=ia fr' ps:=List.map_congr_left fun p hp=>by rw[h p.2 (by simp only[List.mem_map];exact⟨p,hp,rfl⟩)]
  rw[this]
 case buildSlice T n ps=>
  have:ia fr ps=ia fr' ps:=List.map_congr_left fun p hp=>by rw[h p.2 (by simp only[List.mem_map];exact⟨p,hp,rfl⟩)]
  rw[this]
 case load T x=>rw[h x (by simp)]
 case store T x y=>rw[h x (by simp),h y (by simp)]
 case nilCheck x=>rw[h x (by simp)]
 case binOp op T x y yT=>rw[h x (by simp),h y (by simp)]
 case unOp op T x=>rw[h x (by simp)]
 case convert S T x=>rw[h x (by simp)]
 case makeFunc f a b=>
  rw[eY fun x hx=>h x (by simp only[Array.toList_append,List.mem_append];exact .inl hx),eY fun x hx=>h x (by simp only[Array.toList_append,List.mem_append];exact .inr hx)]
 case makeSlice T l c=>rw[h l (by simp),h c (by simp)]
 case slice T x l hi m=>
  have hx:=h x (by simp)
  have hl:l.map (opd fr)=l.map (opd fr'):=by cases l with|none=>rfl|some y=>simp only[Option.map_some];rw[h y (by simp)]
  have hh:hi.map (opd fr)=hi.map (opd fr'):=by cases hi with|none=>rfl|some y=>simp only[Option.map_some];rw[h y (by simp)]
  have hm:m.map (opd fr)=m.map (opd fr'):=by cases m with|none=>rfl|some y=>simp only[Option.map_some];rw[h y (by simp)]
  simp only[qY,hx,hl,hh,hm]
 case fieldAddr s x f=>rw[h x (by simp)]
 case field s x f=>rw[h x (by simp)]
 case indexAddr T x i=>rw[h x (by simp),h i (by simp)]
 case index T x i=>rw[h x (by simp),h i (by simp)]
 case lookup T x k ok=>rw[h x (by simp),h k (by simp)]
 case mapUpdate T m k x=>rw[h m (by simp),h k (by simp),h x (by simp)]
 case extract x i=>rw[h x (by simp)]
 case range T x=>rw[h x (by simp)]
 case next x b=>rw[h x (by simp)]
 case entry x=>rw[h x (by simp)]
 case call c=>
  have hargs:c.args.toList.map (opd fr)=c.args.toList.map (opd fr'):=eY fun x hx=>h x (by simp only[Call.operands,Array.toList_append,List.mem_append];exact .inr hx)
  unfold ib;cases hcal:c.callee with
  |value g=>
   have hg:opd fr g=opd fr' g:=h g (by simp[Call.operands,hcal])
   simp only[hg,hargs]
  |invoke x m=>rfl
  |builtin b=>simp only[hargs]
theorem NF {fr fr':Fr} {H:Hp} {op:Op} (h:∀x∈op.operands.toList,opd fr x=opd fr' x):obl env fr H op=obl env fr' H op:=by
 cases op<;>simp only[Op.operands]at h<;>simp only[obl]
 case binOp op T x y yT=>rw[h x (by simp),h y (by simp)]
 case slice T x l hi m=>
  have hx:=h x (by simp)
  have hl:l.map (opd fr)=l.map (opd fr'):=by cases l with|none=>rfl|some y=>simp only[Option.map_some];rw[h y (by simp)]
  have hh:hi.map (opd fr)=hi.map (opd fr'):=by cases hi with|none=>rfl|some y=>simp only[Option.map_some];rw[h y (by simp)]
  simp only[hx,hl,hh];cases m with
  |none=>rfl
  |some y=>simp only;rw[h y (by simp)]
 case indexAddr T x i=>rw[h x (by simp),h i (by simp)]
 case index T x i=>rw[h x (by simp),h i (by simp)]
 case load T x=>rw[h x (by simp)]
 case extract x i=>rw[h x (by simp)]
 case store T x y=>rw[h x (by simp)]
 case makeSlice T l c=>rw[h l (by simp),h c (by simp)]
 case call c=>
  have hargs:c.args.toList.map (opd fr)=c.args.toList.map (opd fr'):=eY fun x hx=>h x (by simp only[Call.operands,Array.toList_append,List.mem_append];exact .inr hx)
  cases hcal:c.callee with
  |value g=>
   have hg:opd fr g=opd fr' g:=h g (by simp[Call.operands,hcal])
   simp only[hg,hargs]
  |invoke x m=>rfl
  |builtin b=>cases b<;>first|rfl|simp only[hargs]
theorem mh {fr fr':Fr} {H:Hp} {ty:TypeId} {op:Op} (h:∀x∈op.operands.toList,opd fr x=opd fr' x):dD env r fr H ty op=dD env r fr' H ty op:=by
 simp only[dD,NF h,Ev h]
def dc (fr0:Fr) (ops:Array Oper) (vT:Nat->AV) (L:Nat->Bool):Nat->Fr
 |0=>fr0
 |i+1=>match ops[i]? with
  |some o=>bif L i then cH (dc fr0 ops vT L i) o.dst (vT i)else dc fr0 ops vT L i
  |none=>dc fr0 ops vT L i
theorem kk (fr:Fr) (d:Option Tmp) (v:AV):(cH fr d v).length=fr.length:=by cases d<;>simp[cH]
theorem dn {fr:Fr} {d:Option Tmp} {v:AV} {t:Nat} (h:d≠some t):(cH fr d v)[t]? = fr[t]? :=by
 cases d with
 |none=>rfl
 |some d=>simp only[cH];rw[List.getElem?_set_ne (fun e=>h (by rw[e]))]
theorem oP {fr:Fr} {v:AV} {t:Nat}:(cH fr (some t) v)[t]? = if t<fr.length then some v else none:=by
 simp only[cH,List.getElem?_set];simp
variable {ops:Array Oper} {vT:Nat->AV} {fr0:Fr}
theorem ko (L:Nat->Bool):∀i,(dc fr0 ops vT L i).length=fr0.length
 |0=>rfl
 |i+1=>by
  simp only[dc];split
  ·cases L i<;>simp[kk,ko L i]
  ·exact ko L i
theorem oQ {L:Nat->Bool} {t i:Nat} (h:∀j o,i≤j->ops[j]? = some o->o.dst=some t->L j=false):∀n,i≤n->(dc fr0 ops vT L n)[t]? = (dc fr0 ops vT L i)[t]?
 |0,hn=>by rw[show i=0 from by omega]
 |n+1,hn=>by
  by_cases e:i=n+1
  ·rw[e]
  ·have ih:=oQ h n (by omega)
   rw[<- ih];simp only[dc];cases ho:ops[n]? with
   |none=>rfl
   |some o=>
    cases hl:L n with
    |false=>rfl
    |true=>
     simp only[cond_true];refine dn fun e=> ?_
     rw[h n o (by omega) ho e]at hl;cases hl
theorem oR {frT:Nat->Fr} {L:Nat->Bool} {t:Nat} (h0:frT 0=fr0) (hst:∀i o,ops[i]? = some o->frT (i+1)=cH (frT i) o.dst (vT i)):∀i,i≤ops.size->(∀j o,j<i->ops[j]? = some o->o.dst=some t->L j=true)->(dc fr0 ops vT L i)[t]? = (frT i)[t]? ∧(frT i).length=fr0.length
 |0,_,_=>by rw[h0];exact⟨rfl,rfl⟩
 |i+1,hi,h=>by
  obtain⟨ih,hlen⟩:=oR h0 hst i (by omega) fun j o hj=>h j o (by omega)
  have ho:ops[i]? = some (ops[i]'(by omega)):=Array.getElem?_eq_getElem (by omega)
  rw[hst i _ ho];refine⟨?_,by rw[kk,hlen]⟩
  simp only[dc,ho];by_cases hd:(ops[i]'(by omega)).dst=some t
  ·rw[h i _ (by omega) ho hd]
   simp only[cond_true,hd,oP,hlen,ko]
  ·rw[dn hd];cases L i with
   |false=>exact ih
   |true=>simp only[cond_true];rw[dn hd];exact ih
end
end Go.AM
