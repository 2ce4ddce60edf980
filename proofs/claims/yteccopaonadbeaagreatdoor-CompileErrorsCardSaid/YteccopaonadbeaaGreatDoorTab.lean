/-
  The seat's program as the evaluator has it; the fixed example, run in the kernel.
-/
import Derived.Test.YteccopaonadbeaaGreatDoorProg
import Derived.Test.YteccopaonadbeaaGreatDoorAmL
import Derived.KernelRfl
import Derived.Below
import Derived.RowKit3
set_option linter.unusedVariables false
set_option linter.unusedSimpArgs false
namespace Go.Proofs.YteccopaonadbeaaGreatDoor
open Go Go.AM
set_option maxRecDepth 100000 in
noncomputable def env:Env:={P:=Tryz.prog,fn:=fun f=>(Tryz.prog.funcs[f]?).bind fun fn=>fn.body.map fun c=>⟨c,fn.ntmps,fn.results.toList⟩,isPure:=fun f=> !([122,64,218,126,172,173,177,180,69,109,108,93,170,171,102,250,161,200,101,31,33,34,35,36,37,12,32,19].elem f),isFrz:=fun f=>[180,69,101].elem f,exi:=[(57,94)],clr:=false,pre:=fun _ _ _=>[],lp:=fun _ _=>none,n0:=0}
theorem names:(Tryz.prog.funcs.toList.all fun fn=> !(fn.name == "runtime.NumGoroutine"))=true:=by kernel_rfl
set_option maxRecDepth 100000 in
theorem envFn:env.fn=fun f=>(Tryz.prog.funcs[f]?).bind fun fn=>fn.body.map fun c=>(⟨c,fn.ntmps,fn.results.toList⟩:FnA):=by kernel_rfl
theorem envOk:EnvOk env:=by
 intro f F h
 rw[envFn]at h
 have h':((Tryz.prog.funcs[f]?).bind fun fn=>fn.body.map fun c=>(⟨c,fn.ntmps,fn.results.toList⟩:FnA))=some F:=h
 cases hf:Tryz.prog.funcs[f]? with
 |none=>rw[hf]at h';cases h'
 |some fn=>
  rw[hf]at h'
  simp only[Option.bind_some,Option.map_eq_some_iff]at h'
  obtain⟨c,hc,rfl⟩:=h'
  refine⟨fn,hf,hc,rfl,rfl,?_⟩
  have hm:fn∈Tryz.prog.funcs.toList:=by
   rw[← Array.getElem?_toList]at hf
   exact List.mem_of_getElem? hf
  have:=List.all_eq_true.1 names fn hm
  simpa using this
end Go.Proofs.YteccopaonadbeaaGreatDoor
