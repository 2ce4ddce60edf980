/-
  The seat's program as the evaluator has it; the fixed example, run in the kernel.
-/
import Derived.Test.YteccopaonadbeaaGreatDoorProg
import Derived.Test.YteccopaonadbeaaGreatDoorAmL
import Derived.KernelRfl
import Derived.Below
import Derived.RowKit3
set_option linter.unusedVariables false
set_option linter.unusedSimpArgs false
namespace Go.Proofs.YteccopaonadbeaaGreatDoor
open Go Go.AM

set_option maxRecDepth 100000 in
noncomputable def env : Env := { P := Tryz.prog, fn := fun f => (Tryz.prog.funcs[f]?).bind fun fn => fn.body.map fun c => ⟨c, fn.ntmps, fn.results.toList⟩, isPure := fun f => false, clr := false, pre := fun _ _ _ => [], lp := fun _ _ => none, n0 := 0 }

theorem names : (Tryz.prog.funcs.toList.all fun fn => !(fn.name == "runtime.NumGoroutine")) = true := by kernel_rfl

set_option maxRecDepth 100000 in
theorem envFn : env.fn = fun f => (Tryz.prog.funcs[f]?).bind fun fn => fn.body.map fun c => (⟨c, fn.ntmps, fn.results.toList⟩ : FnA) := by kernel_rfl

theorem envOk : EnvOk env := by
  intro f F h
  rw [envFn] at h
  have h' : ((Tryz.prog.funcs[f]?).bind fun fn => fn.body.map fun c => (⟨c, fn.ntmps, fn.results.toList⟩ : FnA)) = some F := h
  cases hf : Tryz.prog.funcs[f]? with
  | none => rw [hf] at h'; cases h'
  | some fn =>
    rw [hf] at h'
    simp only [Option.bind_some, Option.map_eq_some_iff] at h'
    obtain ⟨c, hc, rfl⟩ := h'
    refine ⟨fn, hf, hc, rfl, rfl, ?_⟩
    have hm : fn ∈ Tryz.prog.funcs.toList := by
      rw [← Array.getElem?_toList] at hf
      exact List.mem_of_getElem? hf
    have := List.all_eq_true.1 names fn hm
    simpa using this

theorem envLp (n0 : Nat) (x : Code) : env.lp n0 x = none := rfl

/-- A call from outside: what the evaluator hands back is handed back, and the world has at most new blocks. -/
theorem top_call {P : Program} {pre : FuncId → List AV → Hp → List Bool} {r : Rec} {f : FuncId} (hr : SoundAt P pre r f) {args : List AV} {v : AV} {u : Value} {H0 H' : Hp} (h : r f args H0 = some (v, H')) (hpre : allB (pre f args H0) = true) (hv : AVle v (.sc u)) (w : World) (hn : H0.n = 0) (hb : H0.bs = [])
    (hg : ∀ g cs, H0.glob g = some cs → g < w.heap.size ∧ GlRep (fun b => b < w.heap.size) w g cs) {vs : Array Value}
    (ra : RepL nowhere (fun b => b < w.heap.size) w args vs.toList) : Calls P f vs w fun e w' => e = .returned u ∧ RowKit.Below w.heap.size w w' := by
  refine (hr args H0 _ H' h hpre (fun b => b < w.heap.size) w nowhere _ w vs (Inv.empty w _ (fun _ h => h) hn hb hg) ra).mono ?_
  rintro e w' ⟨u', ρ', E', rfl, inv, reach, rep⟩
  have rep := hv _ _ _ _ rep
  simp only [Rep] at rep
  subst rep
  have hb : RowKit.Below w.heap.size w w' := ⟨inv.io.1, inv.io.2.1, inv.io.2.2, reach.size, inv.old⟩
  exact ⟨rfl, hb⟩

end Go.Proofs.YteccopaonadbeaaGreatDoor
