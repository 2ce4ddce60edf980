/-
  A function of a struct, by cases on one of its fields: for each of its first values a run of its own.
-/
import Derived.Test.YtobhhfbdelnhfaaGreatDoorC1
set_option linter.unusedVariables false
set_option linter.unusedSimpArgs false
namespace Go.Proofs.YtobhhfbdelnhfaaGreatDoor
open Go Go.AM
set_option maxRecDepth 100000
end Go.Proofs.YtobhhfbdelnhfaaGreatDoor
