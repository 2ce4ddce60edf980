/-
  The seat's program as the evaluator has it; the fixed example, run in the kernel.
-/
import Derived.Test.YtiojjmlccehpoaaGreatProg
import Derived.Test.YtiojjmlccehpoaaGreatAmL
import Derived.KernelRfl
import Derived.Below
import Derived.RowKit3
set_option linter.unusedSimpArgs false
set_option linter.unusedVariables false
namespace Go.Proofs.YtiojjmlccehpoaaGreat
open Go Go.AM
set_option maxRecDepth 100000 in
noncomputable def env:Env:={P:=Tryz.prog,fn:=fun f=>(Tryz.prog.funcs[f]?).bind fun fn=>fn.body.map fun c=>⟨c,fn.ntmps,fn.results.toList⟩,isPure:=fun f=> !([70,90,200,78,114,115,119,129,133,21,41,42,45,49,50,51,56,57,59,60,62,63,64,65,66,67,68,108,117,118,123,171,172,173,174,175,176,181,182,183,184,185,225,230,302,303,304,48,218,74,112,224,75,128,130,278,241,260,223].elem f),isFrz:=fun f=>[133,21,223].elem f,exi:=[(168,88)],clr:=false,pre:=fun _ _ _=>[],lp:=fun _ _=>none,n0:=0}
theorem names:(Tryz.prog.funcs.toList.all fun fn=> !(fn.name == "runtime.NumGoroutine"))=true:=by kernel_rfl
set_option maxRecDepth 100000 in
theorem envFn:env.fn=fun f=>(Tryz.prog.funcs[f]?).bind fun fn=>fn.body.map fun c=>(⟨c,fn.ntmps,fn.results.toList⟩:FnA):=by kernel_rfl
theorem j8:ed env:=by
 intro f F h;rw[envFn]at h;have h':((Tryz.prog.funcs[f]?).bind fun fn=>fn.body.map fun c=>(⟨c,fn.ntmps,fn.results.toList⟩:FnA))=some F:=h
 cases hf:Tryz.prog.funcs[f]? with
 |none=>rw[hf]at h';cases h'
 |some fn=>
  rw[hf]at h';simp only[bc,dj]at h';obtain⟨c,hc,rfl⟩:=h';refine⟨fn,hf,hc,rfl,rfl,?_⟩
  have hm:fn∈Tryz.prog.funcs.toList:=by
   rw[<- Array.getElem?_toList]at hf
   exact iH hf
  have:=bV.1 names fn hm;simpa using this
end Go.Proofs.YtiojjmlccehpoaaGreat
