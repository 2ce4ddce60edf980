/-
  The seat's program as the evaluator has it; the fixed example, run in the kernel.
-/
import Derived.Test.YtfdedgmlafelaaaGreatDoorProg
import Derived.Test.YtfdedgmlafelaaaGreatDoorAmL
import Derived.KernelRfl
import Derived.Below
import Derived.RowKit3
set_option linter.unusedSimpArgs false
set_option linter.unusedVariables false
namespace Go.Proofs.YtfdedgmlafelaaaGreatDoor
open Go Go.AM
set_option maxRecDepth 100000 in
noncomputable def env:Env:={P:=Tryz.prog,fn:=fun f=>(Tryz.prog.funcs[f]?).bind fun fn=>fn.body.map fun c=>⟨c,fn.ntmps,fn.results.toList⟩,isPure:=fun f=> !([147,125,126,29,31,63,65,37,76,39,46,86,87,42,81,118,119,82,83,84,117].elem f),isFrz:=fun f=>[147].elem f,clr:=false,pre:=fun _ _ _=>[],lp:=fun _ _=>none,n0:=0}
theorem names:(Tryz.prog.funcs.toList.all fun fn=> !(fn.name == "runtime.NumGoroutine"))=true:=by kernel_rfl
set_option maxRecDepth 100000 in
theorem envFn:env.fn=fun f=>(Tryz.prog.funcs[f]?).bind fun fn=>fn.body.map fun c=>(⟨c,fn.ntmps,fn.results.toList⟩:FnA):=by kernel_rfl
theorem iP:cP env:=by
 intro f F h;rw[envFn]at h;have h':((Tryz.prog.funcs[f]?).bind fun fn=>fn.body.map fun c=>(⟨c,fn.ntmps,fn.results.toList⟩:FnA))=some F:=h
 cases hf:Tryz.prog.funcs[f]? with
 |none=>rw[hf]at h';cases h'
 |some fn=>
  rw[hf]at h';simp only[Option.bind_some,Option.map_eq_some_iff]at h';obtain⟨c,hc,rfl⟩:=h';refine⟨fn,hf,hc,rfl,rfl,?_⟩
  have hm:fn∈Tryz.prog.funcs.toList:=by
   rw[<- Array.getElem?_toList]at hf
   exact List.mem_of_getElem? hf
  have:=List.all_eq_true.1 names fn hm;simpa using this
end Go.Proofs.YtfdedgmlafelaaaGreatDoor
