/-
  Regions that draw their order go as the order of the text does.
-/
import Derived.Test.YtiojjmlccehpoaaGreatAmG
set_option linter.unusedSectionVars false
set_option linter.unusedSimpArgs false
set_option linter.unusedVariables false
namespace Go.AM
section
variable [HasDef] {env:Env} {r:Rec}
theorem jV {fr:Fr} {H H':Hp} {ty:TypeId} {op:Op} {v:AV} (hc:cls env op=2) (h:eF env r fr H ty op=some (v,H')):
 ∃(mk:Nat->AV) (k:Blk),v=mk H.n∧H'=H.push k∧∀(ρ:Nat->Option Nat) (E:Nat->Prop) (w:World) (a:Act) (o:Oper),o.op=op->FrRep ρ E w fr a->
  ∃s,execOp a.eval o=(do pure (.value (<- s)))∧OkA env.P ρ E w s mk k:=by
 have hob:=(eJ h).1
 replace h:=(eJ h).2
 cases op<;>simp only[cls]at hc<;>(try (exact absurd hc (by decide)))<;>simp only[bS]at h
 case convert S T x=>cases hs:vF env.P S<;>rw[hs]at hc<;>cases hc
 case alloc T=>
  obtain⟨z,cs,hz,hcs,rfl,rfl⟩:=sA h;exact⟨fun i=> .ptr i 0, .cells cs,rfl,rfl,fun ρ E w a o ho hfr=>⟨Instr.alloc T true (.tuple #[]),by simp[execOp,ho],Bo hz hcs⟩⟩
 case box T x=>
  obtain⟨cs,hcs,rfl,rfl⟩:=Bn h;exact⟨fun i=> .ptr i 0,_,rfl,rfl,fun ρ E w a o ho hfr=>⟨Instr.box T (a.eval x),by simp[execOp,ho],Gc hcs (hfr.opd x)⟩⟩
 case buildSlice T len parts=>
  obtain⟨s,cs,rfl,rfl,_,hok⟩:=lU h;refine⟨fun i=> .sl i s 0 len, .cells cs,rfl,rfl,fun ρ E w a o ho hfr=> ?_⟩
  obtain⟨h1,h2⟩:=qB hfr parts;exact⟨Instr.buildSlice T len (parts.map fun(i,x)=>(i,a.eval x)),by simp[execOp,ho],hok ρ E w _ h1 h2⟩
 case range T x=>
  have hm:gH env.P T=false:=by
   cases hm:gH env.P T with
   |false=>rfl
   |true=>rw[hm]at hc;cases hc
  obtain⟨k,rfl,rfl,hx⟩:=sF hm h;exact⟨fun i=> .ptr i 0,k,rfl,rfl,fun ρ E w a o ho hfr=>⟨Instr.range T (a.eval x),by simp[execOp,ho],hx ρ E w _ (hfr.opd x)⟩⟩
 case makeMap T m=>
  unfold vM at h;split at h
  ·cases h;exact⟨fun i=> .map i, .map [],rfl,rfl,fun ρ E w a o ho hfr=>⟨Instr.makeMap T none,by simp[execOp,ho],okA_makeMap⟩⟩
  ·cases h
 case makeSlice T l c=>
  obtain⟨mk,k,rfl,rfl,hok⟩:=wg h (by simpa only[obl]using hob)
  exact⟨mk,k,rfl,rfl,fun ρ E w a o ho hfr=>⟨Instr.makeSlice T (a.eval l) (a.eval c),by simp[execOp,ho],hok ρ E w _ _ (hfr.opd l) (hfr.opd c)⟩⟩
 case indexAddr T x i=>cases x<;>cases hc
 case call c=>
  cases hcal:c.callee with
  |value g=>
   simp only[hcal]at hc;cases g<;>simp only at hc<;>first|(exact absurd hc (by decide))|skip
   rename_i f;cases hp:env.isPure f<;>simp[hp]at hc
  |invoke x m=>simp only[hcal]at hc;exact absurd hc (by decide)
  |builtin b=>simp only[hcal]at hc;cases b<;>simp only at hc<;>first|exact absurd hc (by decide)|(exact absurd hc (by cases nS env.P c.argTypes.toList<;>decide))
theorem Dw (op:Op):cls env op=0∨cls env op=1∨cls env op=2∨cls env op=3:=by
 cases op<;>simp only[cls]<;>(try decide)
 case indexAddr T x i=>cases x<;>simp
 case convert S T x=>cases vF env.P S<;>decide
 case range T x=>cases gH env.P T<;>decide
 split<;>(try decide)
 ·rename_i f _;cases env.isPure f<;>decide
 ·rename_i c _ _;cases nS env.P c.argTypes.toList<;>decide
theorem QJ {fr fr':Fr} {x:Operand} (h:∀t,x = .tmp t->fr.getD t .undef=fr'.getD t .undef):opd fr x=opd fr' x:=by
 cases x with
 |tmp t=>exact h t rfl
 |_=>rfl
theorem gf {fr fr':Fr} {xs:List Operand} (h:∀x∈xs,opd fr x=opd fr' x):xs.map (opd fr)=xs.map (opd fr'):=lF h
theorem GC {fr fr':Fr} {H:Hp} {ty:TypeId} {op:Op} (h:∀x∈op.operands.toList,opd fr x=opd fr' x):bS env r fr H ty op=bS env r fr' H ty op:=by
 cases op<;>simp only[Op.operands]at h<;>simp only[bS]
 case move x=>rw[h x (by simp)]
 case assign x=>rw[h x (by simp)]
 case pick c a b=>rw[h c (by simp),h a (by simp),h b (by simp)]
 case box T x=>rw[h x (by simp)]
 case build T ps=>
  have:jt fr ps=jt fr' ps:=lF fun p hp=>by rw[h p.2 (by simp only[ic];exact⟨p,hp,rfl⟩)]
  rw[this]
 case buildSlice T n ps=>
  have:jt fr ps=jt fr' ps:=lF fun p hp=>by rw[h p.2 (by simp only[ic];exact⟨p,hp,rfl⟩)]
  rw[this]
 case load T x=>rw[h x (by simp)]
 case store T x y=>rw[h x (by simp),h y (by simp)]
 case nilCheck x=>rw[h x (by simp)]
 case binOp op T x y yT=>rw[h x (by simp),h y (by simp)]
 case unOp op T x=>rw[h x (by simp)]
 case convert S T x=>rw[h x (by simp)]
 case makeFunc f a b=>
  rw[gf fun x hx=>h x (by simp only[sf,cV];exact .inl hx),gf fun x hx=>h x (by simp only[sf,cV];exact .inr hx)]
 case makeSlice T l c=>rw[h l (by simp),h c (by simp)]
 case slice T x l hi m=>
  have hx:=h x (by simp)
  have hl:l.map (opd fr)=l.map (opd fr'):=by cases l with|none=>rfl|some y=>simp only[cH];rw[h y (by simp)]
  have hh:hi.map (opd fr)=hi.map (opd fr'):=by cases hi with|none=>rfl|some y=>simp only[cH];rw[h y (by simp)]
  have hm:m.map (opd fr)=m.map (opd fr'):=by cases m with|none=>rfl|some y=>simp only[cH];rw[h y (by simp)]
  simp only[t7,hx,hl,hh,hm]
 case fieldAddr s x f=>rw[h x (by simp)]
 case field s x f=>rw[h x (by simp)]
 case indexAddr T x i=>rw[h x (by simp),h i (by simp)]
 case index T x i=>rw[h x (by simp),h i (by simp)]
 case lookup T x k ok=>rw[h x (by simp),h k (by simp)]
 case mapUpdate T m k x=>rw[h m (by simp),h k (by simp),h x (by simp)]
 case extract x i=>rw[h x (by simp)]
 case range T x=>rw[h x (by simp)]
 case next x b=>rw[h x (by simp)]
 case entry x=>rw[h x (by simp)]
 case call c=>
  have hargs:c.args.toList.map (opd fr)=c.args.toList.map (opd fr'):=gf fun x hx=>h x (by simp only[Call.operands,sf,cV];exact .inr hx)
  unfold ju;cases hcal:c.callee with
  |value g=>
   have hg:opd fr g=opd fr' g:=h g (by simp[Call.operands,hcal])
   simp only[hg,hargs]
  |invoke x m=>rfl
  |builtin b=>simp only[hargs]
theorem QK {fr fr':Fr} {H:Hp} {op:Op} (h:∀x∈op.operands.toList,opd fr x=opd fr' x):obl env fr H op=obl env fr' H op:=by
 cases op<;>simp only[Op.operands]at h<;>simp only[obl]
 case binOp op T x y yT=>rw[h x (by simp),h y (by simp)]
 case slice T x l hi m=>
  have hx:=h x (by simp)
  have hl:l.map (opd fr)=l.map (opd fr'):=by cases l with|none=>rfl|some y=>simp only[cH];rw[h y (by simp)]
  have hh:hi.map (opd fr)=hi.map (opd fr'):=by cases hi with|none=>rfl|some y=>simp only[cH];rw[h y (by simp)]
  simp only[hx,hl,hh];cases m with
  |none=>rfl
  |some y=>simp only;rw[h y (by simp)]
 case indexAddr T x i=>rw[h x (by simp),h i (by simp)]
 case index T x i=>rw[h x (by simp),h i (by simp)]
 case load T x=>rw[h x (by simp)]
 case extract x i=>rw[h x (by simp)]
 case store T x y=>rw[h x (by simp)]
 case makeSlice T l c=>rw[h l (by simp),h c (by simp)]
 case call c=>
  have hargs:c.args.toList.map (opd fr)=c.args.toList.map (opd fr'):=gf fun x hx=>h x (by simp only[Call.operands,sf,cV];exact .inr hx)
  cases hcal:c.callee with
  |value g=>
   have hg:opd fr g=opd fr' g:=h g (by simp[Call.operands,hcal])
   simp only[hg,hargs]
  |invoke x m=>rfl
  |builtin b=>cases b<;>first|rfl|simp only[hargs]
theorem n9 {fr fr':Fr} {H:Hp} {ty:TypeId} {op:Op} (h:∀x∈op.operands.toList,opd fr x=opd fr' x):eF env r fr H ty op=eF env r fr' H ty op:=by
 simp only[eF,QK h,GC h]
def dK (fr0:Fr) (ops:Array Oper) (vT:Nat->AV) (L:Nat->Bool):Nat->Fr
 |0=>fr0
 |i+1=>match ops[i]? with
  |some o=>bif L i then dB (dK fr0 ops vT L i) o.dst (vT i)else dK fr0 ops vT L i
  |none=>dK fr0 ops vT L i
theorem mc (fr:Fr) (d:Option Tmp) (v:AV):(dB fr d v).length=fr.length:=by cases d<;>simp[dB]
theorem dU {fr:Fr} {d:Option Tmp} {v:AV} {t:Nat} (h:d≠some t):(dB fr d v)[t]? = fr[t]? :=by
 cases d with
 |none=>rfl
 |some d=>simp only[dB];rw[vp (fun e=>h (by rw[e]))]
theorem qK {fr:Fr} {v:AV} {t:Nat}:(dB fr (some t) v)[t]? = if t<fr.length then some v else none:=by
 simp only[dB,hZ];simp
variable {ops:Array Oper} {vT:Nat->AV} {fr0:Fr}
theorem md (L:Nat->Bool):∀i,(dK fr0 ops vT L i).length=fr0.length
 |0=>rfl
 |i+1=>by
  simp only[dK];split
  ·cases L i<;>simp[mc,md L i]
  ·exact md L i
theorem qL {L:Nat->Bool} {t i:Nat} (h:∀j o,i≤j->ops[j]? = some o->o.dst=some t->L j=false):∀n,i≤n->(dK fr0 ops vT L n)[t]? = (dK fr0 ops vT L i)[t]?
 |0,hn=>by rw[show i=0 from by omega]
 |n+1,hn=>by
  by_cases e:i=n+1
  ·rw[e]
  ·have ih:=qL h n (by omega)
   rw[<- ih];simp only[dK];cases ho:ops[n]? with
   |none=>rfl
   |some o=>
    cases hl:L n with
    |false=>rfl
    |true=>
     simp only[aj];refine dU fun e=> ?_
     rw[h n o (by omega) ho e]at hl;cases hl
theorem qM {frT:Nat->Fr} {L:Nat->Bool} {t:Nat} (h0:frT 0=fr0) (hst:∀i o,ops[i]? = some o->frT (i+1)=dB (frT i) o.dst (vT i)):∀i,i≤ops.size->(∀j o,j<i->ops[j]? = some o->o.dst=some t->L j=true)->(dK fr0 ops vT L i)[t]? = (frT i)[t]? ∧(frT i).length=fr0.length
 |0,_,_=>by rw[h0];exact⟨rfl,rfl⟩
 |i+1,hi,h=>by
  obtain⟨ih,hlen⟩:=qM h0 hst i (by omega) fun j o hj=>h j o (by omega)
  have ho:ops[i]? = some (ops[i]'(by omega)):=lh (by omega)
  rw[hst i _ ho];refine⟨?_,by rw[mc,hlen]⟩
  simp only[dK,ho];by_cases hd:(ops[i]'(by omega)).dst=some t
  ·rw[h i _ (by omega) ho hd]
   simp only[aj,hd,qK,hlen,md]
  ·rw[dU hd];cases L i with
   |false=>exact ih
   |true=>simp only[aj];rw[dU hd];exact ih
end
end Go.AM
