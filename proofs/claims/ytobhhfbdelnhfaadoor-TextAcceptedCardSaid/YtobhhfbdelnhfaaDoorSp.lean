/-
  A function of a struct, by cases on one of its fields: for each of its first values a run of its own.
-/
import Derived.Test.YtobhhfbdelnhfaaDoorC1
namespace Go.Proofs.YtobhhfbdelnhfaaDoor
open Go Go.AM
set_option maxRecDepth 100000
end Go.Proofs.YtobhhfbdelnhfaaDoor
