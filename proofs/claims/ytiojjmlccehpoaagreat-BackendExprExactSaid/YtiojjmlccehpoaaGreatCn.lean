/-
  The table with strings.Contains (function 202).
-/
import Derived.Test.YtiojjmlccehpoaaGreatEx43
import Derived.Test.YtiojjmlccehpoaaGreatSi
namespace Go.Proofs.YtiojjmlccehpoaaGreat
open Go Go.AM

noncomputable def tb202 : Tb := Tb.nil.add 202 contC (fun _ _ => [])
theorem ok_tb202 : TbOk env tb202 := TbOk.nil.add (by kernel_rfl) fun args H v H' h _ => contC_ok contSaid202 args H v H' h

end Go.Proofs.YtiojjmlccehpoaaGreat
