/-
  The fixed example 'exampleHolds', run in the kernel.
-/
import Derived.Test.YtcengfpfphdacaaTab
namespace Go.Proofs.Ytcengfpfphdacaa
open Go Go.AM

theorem ex8 : callPure (runFn env 60) 8 [] = some (.sc (.bool true), true) := by kernel_rfl

end Go.Proofs.Ytcengfpfphdacaa
