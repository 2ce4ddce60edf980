/-
  The seat's program as the evaluator has it; the fixed example, run in the kernel.
-/
import Derived.Test.YtobhhfbdelnhfaaGreatDoorProg
import Derived.Test.YtobhhfbdelnhfaaGreatDoorAmL
import Derived.KernelRfl
import Derived.Below
import Derived.RowKit3
set_option linter.unusedVariables false
set_option linter.unusedSimpArgs false
namespace Go.Proofs.YtobhhfbdelnhfaaGreatDoor
open Go Go.AM
set_option maxRecDepth 100000 in
noncomputable def env:Env:={P:=Tryz.prog,fn:=fun f=>(Tryz.prog.funcs[f]?).bind fun fn=>fn.body.map fun c=>⟨c,fn.ntmps,fn.results.toList⟩,isPure:=fun f=> !([55,101,135,37,41,65,66,67,68,76,105,106,107,110,111,134,122,123,124,125,17,139,49,96,130].elem f),isFrz:=fun f=>[49].elem f,clr:=false,pre:=fun _ _ _=>[],lp:=fun _ _=>none,n0:=0}
theorem names:(Tryz.prog.funcs.toList.all fun fn=> !(fn.name == "runtime.NumGoroutine"))=true:=by kernel_rfl
set_option maxRecDepth 100000 in
theorem envFn:env.fn=fun f=>(Tryz.prog.funcs[f]?).bind fun fn=>fn.body.map fun c=>(⟨c,fn.ntmps,fn.results.toList⟩:FnA):=by kernel_rfl
theorem envOk:EnvOk env:=by
 intro f F h
 rw[envFn]at h
 have h':((Tryz.prog.funcs[f]?).bind fun fn=>fn.body.map fun c=>(⟨c,fn.ntmps,fn.results.toList⟩:FnA))=some F:=h
 cases hf:Tryz.prog.funcs[f]? with
 |none=>rw[hf]at h';cases h'
 |some fn=>
  rw[hf]at h'
  simp only[Option.bind_some,Option.map_eq_some_iff]at h'
  obtain⟨c,hc,rfl⟩:=h'
  refine⟨fn,hf,hc,rfl,rfl,?_⟩
  have hm:fn∈Tryz.prog.funcs.toList:=by
   rw[← Array.getElem?_toList]at hf
   exact List.mem_of_getElem? hf
  have:=List.all_eq_true.1 names fn hm
  simpa using this
end Go.Proofs.YtobhhfbdelnhfaaGreatDoor
