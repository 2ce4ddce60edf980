/-
  The seat's program as the evaluator has it; the fixed example, run in the kernel.
-/
import Derived.Test.YtcengfpfphdacaaProg
import Derived.Test.YtcengfpfphdacaaAmJ
import Derived.KernelRfl
import Derived.Below
import Derived.RowKit3
namespace Go.Proofs.Ytcengfpfphdacaa
open Go Go.AM

noncomputable def env : Env := { P := Try.prog, fn := fun f => (Try.prog.funcs[f]?).bind fun fn => fn.body.map fun c => ⟨c, fn.ntmps, fn.results.toList⟩, isPure := fun f => !([27,28,31,32,47,48,49,50,51,52,53,54,58,76,78,79,80,90,96,97].elem f), clr := false }

theorem names : (Try.prog.funcs.toList.all fun fn => !(fn.name == "runtime.NumGoroutine")) = true := by kernel_rfl

theorem envOk : EnvOk env := by
  intro f F h
  have h' : ((Try.prog.funcs[f]?).bind fun fn => fn.body.map fun c => (⟨c, fn.ntmps, fn.results.toList⟩ : FnA)) = some F := h
  cases hf : Try.prog.funcs[f]? with
  | none => rw [hf] at h'; cases h'
  | some fn =>
    rw [hf] at h'
    simp only [Option.bind_some, Option.map_eq_some_iff] at h'
    obtain ⟨c, hc, rfl⟩ := h'
    refine ⟨fn, hf, hc, rfl, rfl, ?_⟩
    have hm : fn ∈ Try.prog.funcs.toList := by
      rw [← Array.getElem?_toList] at hf
      exact List.mem_of_getElem? hf
    have := List.all_eq_true.1 names fn hm
    simpa using this

/-- A call from outside: what the evaluator hands back is handed back, and the world has at most new blocks. -/
theorem top_call {P : Program} {r : Rec} (hr : SoundRec P r) {f : FuncId} {args : List AV} {v : Value} {H' : Hp} (h : r f args .nil = some (.sc v, H')) (w : World) {vs : Array Value}
    (ra : RepL nowhere (fun b => b < w.heap.size) w args vs.toList) : Calls P f vs w fun e w' => e = .returned v ∧ RowKit.Grown w w' := by
  refine (hr f args .nil _ H' h w.heap.size w nowhere _ w vs (Inv.empty w _ fun _ h => h) ra).mono ?_
  rintro e w' ⟨u, ρ', E', rfl, inv, reach, rep⟩
  simp only [Rep] at rep
  subst rep
  have hb : RowKit.Below w.heap.size w w' := ⟨inv.io.1, inv.io.2.1, inv.io.2.2, reach.size, inv.old⟩
  exact ⟨rfl, hb.frame _, inv.fz, reach.size⟩

end Go.Proofs.Ytcengfpfphdacaa
