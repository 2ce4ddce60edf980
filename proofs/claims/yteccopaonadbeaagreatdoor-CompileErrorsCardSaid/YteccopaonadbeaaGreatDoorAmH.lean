/-
  Regions that draw their order go as the order of the text does.
-/
import Derived.Test.YteccopaonadbeaaGreatDoorAmG
set_option linter.unusedVariables false
set_option linter.unusedSimpArgs false
namespace Go.AM
set_option linter.unusedSectionVars false
section
variable [HasDef] {env:Env} {r:Rec}
theorem cls2_new {fr:Fr} {H H':Hp} {ty:TypeId} {op:Op} {v:AV} (hc:cls env op=2) (h:evOp env r fr H ty op=some (v,H')):
 ∃(mk:Nat→AV) (k:Blk),v=mk H.n∧H'=H.push k∧∀(ρ:Nat→Option Nat) (E:Nat→Prop) (w:World) (a:Act) (o:Oper),o.op=op→FrRep ρ E w fr a→
  ∃s,execOp a.eval o=(do pure (.value (← s)))∧OkA env.P ρ E w s mk k:=by
 have hob:=(evOp_some h).1
 replace h:=(evOp_some h).2
 cases op<;>simp only[cls]at hc<;>(try (exact absurd hc (by decide)))<;>simp only[evOp0]at h
 case convert S T x=>cases hs:isSlT env.P S<;>rw[hs]at hc<;>cases hc
 case alloc T=>
  obtain⟨z,cs,hz,hcs,rfl,rfl⟩:=allocA_some h
  exact⟨fun i=> .ptr i 0, .cells cs,rfl,rfl,fun ρ E w a o ho hfr=>⟨Instr.alloc T true (.tuple #[]),by simp[execOp,ho],okA_alloc hz hcs⟩⟩
 case box T x=>
  obtain⟨cs,hcs,rfl,rfl⟩:=boxA_some h
  exact⟨fun i=> .ptr i 0,_,rfl,rfl,fun ρ E w a o ho hfr=>⟨Instr.box T (a.eval x),by simp[execOp,ho],okA_boxB hcs (hfr.opd x)⟩⟩
 case buildSlice T len parts=>
  obtain⟨s,cs,rfl,rfl,_,hok⟩:=okA_buildSlice h
  refine⟨fun i=> .sl i s 0 len, .cells cs,rfl,rfl,fun ρ E w a o ho hfr=> ?_⟩
  obtain⟨h1,h2⟩:=parts_rep hfr parts
  exact⟨Instr.buildSlice T len (parts.map fun(i,x)=>(i,a.eval x)),by simp[execOp,ho],hok ρ E w _ h1 h2⟩
 case range T x=>
  have hm:isMapT env.P T=false:=by
   cases hm:isMapT env.P T with
   |false=>rfl
   |true=>rw[hm]at hc;cases hc
  obtain⟨k,rfl,rfl,hx⟩:=rangeA_some hm h
  exact⟨fun i=> .ptr i 0,k,rfl,rfl,fun ρ E w a o ho hfr=>⟨Instr.range T (a.eval x),by simp[execOp,ho],hx ρ E w _ (hfr.opd x)⟩⟩
 case makeMap T m=>
  unfold makeMapA at h
  split at h
  ·cases h
   exact⟨fun i=> .map i, .map [],rfl,rfl,fun ρ E w a o ho hfr=>⟨Instr.makeMap T none,by simp[execOp,ho],okA_makeMap⟩⟩
  ·cases h
 case makeSlice T l c=>
  obtain⟨mk,k,rfl,rfl,hok⟩:=okA_makeOp h (by simpa only[obl]using hob)
  exact⟨mk,k,rfl,rfl,fun ρ E w a o ho hfr=>⟨Instr.makeSlice T (a.eval l) (a.eval c),by simp[execOp,ho],hok ρ E w _ _ (hfr.opd l) (hfr.opd c)⟩⟩
 case indexAddr T x i=>cases x<;>cases hc
 case call c=>
  cases hcal:c.callee with
  |value g=>
   simp only[hcal]at hc
   cases g<;>simp only at hc<;>first|(exact absurd hc (by decide))|skip
   rename_i f
   cases hp:env.isPure f<;>simp[hp]at hc
  |invoke x m=>simp only[hcal]at hc;exact absurd hc (by decide)
  |builtin b=>simp only[hcal]at hc;cases b<;>simp only at hc<;>first|exact absurd hc (by decide)|(exact absurd hc (by cases noMapT env.P c.argTypes.toList<;>decide))
theorem cls_le3 (op:Op):cls env op=0∨cls env op=1∨cls env op=2∨cls env op=3:=by
 cases op<;>simp only[cls]<;>(try decide)
 case indexAddr T x i=>cases x<;>simp
 case convert S T x=>cases isSlT env.P S<;>decide
 case range T x=>cases isMapT env.P T<;>decide
 split<;>(try decide)
 ·rename_i f _
  cases env.isPure f<;>decide
 ·rename_i c _ _
  cases noMapT env.P c.argTypes.toList<;>decide
theorem opd_congr {fr fr':Fr} {x:Operand} (h:∀t,x = .tmp t→fr.getD t .undef=fr'.getD t .undef):opd fr x=opd fr' x:=by
 cases x with
 |tmp t=>exact h t rfl
 |_=>rfl
theorem map_opd_congr {fr fr':Fr} {xs:List Operand} (h:∀x∈xs,opd fr x=opd fr' x):xs.map (opd fr)=xs.map (opd fr'):=List.map_congr_left h
theorem evOp_congr0 {fr fr':Fr} {H:Hp} {ty:TypeId} {op:Op} (h:∀x∈op.operands.toList,opd fr x=opd fr' x):evOp0 env r fr H ty op=evOp0 env r fr' H ty op:=by
 cases op<;>simp only[Op.operands]at h<;>simp only[evOp0]
 case move x=>rw[h x (by simp)]
 case assign x=>rw[h x (by simp)]
 case pick c a b=>rw[h c (by simp),h a (by simp),h b (by simp)]
 case box T x=>rw[h x (by simp)]
 case build T ps=>
  have:partsA fr ps=partsA fr' ps:=List.map_congr_left fun p hp=>by rw[h p.2 (by simp only[List.mem_map];exact⟨p,hp,rfl⟩)]
  rw[this]
 case buildSlice T n ps=>
  have:partsA fr ps=partsA fr' ps:=List.map_congr_left fun p hp=>by rw[h p.2 (by simp only[List.mem_map];exact⟨p,hp,rfl⟩)]
  rw[this]
 case load T x=>rw[h x (by simp)]
 case store T x y=>rw[h x (by simp),h y (by simp)]
 case nilCheck x=>rw[h x (by simp)]
 case binOp op T x y yT=>rw[h x (by simp),h y (by simp)]
 case unOp op T x=>rw[h x (by simp)]
 case convert S T x=>rw[h x (by simp)]
 case makeFunc f a b=>
  rw[map_opd_congr fun x hx=>h x (by simp only[Array.toList_append,List.mem_append];exact .inl hx),map_opd_congr fun x hx=>h x (by simp only[Array.toList_append,List.mem_append];exact .inr hx)]
 case makeSlice T l c=>rw[h l (by simp),h c (by simp)]
 case slice T x l hi m=>
  have hx:=h x (by simp)
  have hl:l.map (opd fr)=l.map (opd fr'):=by cases l with|none=>rfl|some y=>simp only[Option.map_some];rw[h y (by simp)]
  have hh:hi.map (opd fr)=hi.map (opd fr'):=by cases hi with|none=>rfl|some y=>simp only[Option.map_some];rw[h y (by simp)]
  have hm:m.map (opd fr)=m.map (opd fr'):=by cases m with|none=>rfl|some y=>simp only[Option.map_some];rw[h y (by simp)]
  simp only[sliceOp,hx,hl,hh,hm]
 case fieldAddr s x f=>rw[h x (by simp)]
 case field s x f=>rw[h x (by simp)]
 case indexAddr T x i=>rw[h x (by simp),h i (by simp)]
 case index T x i=>rw[h x (by simp),h i (by simp)]
 case lookup T x k ok=>rw[h x (by simp),h k (by simp)]
 case mapUpdate T m k x=>rw[h m (by simp),h k (by simp),h x (by simp)]
 case extract x i=>rw[h x (by simp)]
 case range T x=>rw[h x (by simp)]
 case next x b=>rw[h x (by simp)]
 case entry x=>rw[h x (by simp)]
 case call c=>
  have hargs:c.args.toList.map (opd fr)=c.args.toList.map (opd fr'):=map_opd_congr fun x hx=>h x (by simp only[Call.operands,Array.toList_append,List.mem_append];exact .inr hx)
  unfold callOp
  cases hcal:c.callee with
  |value g=>
   have hg:opd fr g=opd fr' g:=h g (by simp[Call.operands,hcal])
   simp only[hg,hargs]
  |invoke x m=>rfl
  |builtin b=>simp only[hargs]
theorem obl_congr {fr fr':Fr} {H:Hp} {op:Op} (h:∀x∈op.operands.toList,opd fr x=opd fr' x):obl env fr H op=obl env fr' H op:=by
 cases op<;>simp only[Op.operands]at h<;>simp only[obl]
 case binOp op T x y yT=>rw[h x (by simp),h y (by simp)]
 case slice T x l hi m=>
  have hx:=h x (by simp)
  have hl:l.map (opd fr)=l.map (opd fr'):=by cases l with|none=>rfl|some y=>simp only[Option.map_some];rw[h y (by simp)]
  have hh:hi.map (opd fr)=hi.map (opd fr'):=by cases hi with|none=>rfl|some y=>simp only[Option.map_some];rw[h y (by simp)]
  simp only[hx,hl,hh]
  cases m with
  |none=>rfl
  |some y=>simp only;rw[h y (by simp)]
 case indexAddr T x i=>rw[h x (by simp),h i (by simp)]
 case index T x i=>rw[h x (by simp),h i (by simp)]
 case load T x=>rw[h x (by simp)]
 case extract x i=>rw[h x (by simp)]
 case store T x y=>rw[h x (by simp)]
 case makeSlice T l c=>rw[h l (by simp),h c (by simp)]
 case call c=>
  have hargs:c.args.toList.map (opd fr)=c.args.toList.map (opd fr'):=map_opd_congr fun x hx=>h x (by simp only[Call.operands,Array.toList_append,List.mem_append];exact .inr hx)
  cases hcal:c.callee with
  |value g=>
   have hg:opd fr g=opd fr' g:=h g (by simp[Call.operands,hcal])
   simp only[hg,hargs]
  |invoke x m=>rfl
  |builtin b=>cases b<;>first|rfl|simp only[hargs]
theorem evOp_congr {fr fr':Fr} {H:Hp} {ty:TypeId} {op:Op} (h:∀x∈op.operands.toList,opd fr x=opd fr' x):evOp env r fr H ty op=evOp env r fr' H ty op:=by
 simp only[evOp,obl_congr h,evOp_congr0 h]
def frUp (fr0:Fr) (ops:Array Oper) (vT:Nat→AV) (L:Nat→Bool):Nat→Fr
 |0=>fr0
 |i+1=>match ops[i]? with
  |some o=>bif L i then putA (frUp fr0 ops vT L i) o.dst (vT i)else frUp fr0 ops vT L i
  |none=>frUp fr0 ops vT L i
theorem putA_len (fr:Fr) (d:Option Tmp) (v:AV):(putA fr d v).length=fr.length:=by cases d<;>simp[putA]
theorem putA_other {fr:Fr} {d:Option Tmp} {v:AV} {t:Nat} (h:d≠some t):(putA fr d v)[t]? = fr[t]? :=by
 cases d with
 |none=>rfl
 |some d=>simp only[putA];rw[List.getElem?_set_ne (fun e=>h (by rw[e]))]
theorem putA_same {fr:Fr} {v:AV} {t:Nat}:(putA fr (some t) v)[t]? = if t<fr.length then some v else none:=by
 simp only[putA,List.getElem?_set];simp
variable {ops:Array Oper} {vT:Nat→AV} {fr0:Fr}
theorem frUp_len (L:Nat→Bool):∀i,(frUp fr0 ops vT L i).length=fr0.length
 |0=>rfl
 |i+1=>by
  simp only[frUp]
  split
  ·cases L i<;>simp[putA_len,frUp_len L i]
  ·exact frUp_len L i
theorem frUp_keep {L:Nat→Bool} {t i:Nat} (h:∀j o,i≤j→ops[j]? = some o→o.dst=some t→L j=false):∀n,i≤n→(frUp fr0 ops vT L n)[t]? = (frUp fr0 ops vT L i)[t]?
 |0,hn=>by rw[show i=0 from by omega]
 |n+1,hn=>by
  by_cases e:i=n+1
  ·rw[e]
  ·have ih:=frUp_keep h n (by omega)
   rw[← ih]
   simp only[frUp]
   cases ho:ops[n]? with
   |none=>rfl
   |some o=>
    cases hl:L n with
    |false=>rfl
    |true=>
     simp only[cond_true]
     refine putA_other fun e=> ?_
     rw[h n o (by omega) ho e]at hl;cases hl
theorem frUp_text {frT:Nat→Fr} {L:Nat→Bool} {t:Nat} (h0:frT 0=fr0) (hst:∀i o,ops[i]? = some o→frT (i+1)=putA (frT i) o.dst (vT i)):∀i,i≤ops.size→(∀j o,j<i→ops[j]? = some o→o.dst=some t→L j=true)→(frUp fr0 ops vT L i)[t]? = (frT i)[t]? ∧(frT i).length=fr0.length
 |0,_,_=>by rw[h0];exact⟨rfl,rfl⟩
 |i+1,hi,h=>by
  obtain⟨ih,hlen⟩:=frUp_text h0 hst i (by omega) fun j o hj=>h j o (by omega)
  have ho:ops[i]? = some (ops[i]'(by omega)):=Array.getElem?_eq_getElem (by omega)
  rw[hst i _ ho]
  refine⟨?_,by rw[putA_len,hlen]⟩
  simp only[frUp,ho]
  by_cases hd:(ops[i]'(by omega)).dst=some t
  ·rw[h i _ (by omega) ho hd]
   simp only[cond_true,hd,putA_same,hlen,frUp_len]
  ·rw[putA_other hd]
   cases L i with
   |false=>exact ih
   |true=>simp only[cond_true];rw[putA_other hd];exact ih
end
end Go.AM
