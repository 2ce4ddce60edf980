/-
  Made by gen3.py: what functions of the seat compute, as partial functions on data, and that they do.
-/
import Derived.Test.YtfdedgmlafelaaaGreatDoorM2
import Derived.KernelRfl
import Derived.Test.YtfdedgmlafelaaaGreatDoorM1
open Go Go.AM
namespace Go.Proofs.YtfdedgmlafelaaaGreatDoor
set_option maxRecDepth 100000
set_option linter.unusedSimpArgs false
set_option linter.unusedVariables false
def S28_11 : LoopS := ⟨0, [⟨false, .any⟩, ⟨false, (.ptr 0 0)⟩, ⟨false, (.lit (.slice none 0 0))⟩, ⟨false, (.lit (.bool false))⟩, ⟨false, (.oslc 1 3)⟩, ⟨false, (.oslc 2 4)⟩, ⟨false, (.oslc 3 3)⟩, ⟨false, .any⟩, ⟨false, (.int .i64)⟩, ⟨false, .any⟩, ⟨false, .any⟩, ⟨false, .any⟩, ⟨false, .any⟩, ⟨false, .any⟩, ⟨false, .any⟩, ⟨false, .any⟩, ⟨false, .any⟩, ⟨false, .any⟩, ⟨false, .any⟩, ⟨false, .any⟩, ⟨false, .any⟩, ⟨false, .any⟩, ⟨false, .any⟩, ⟨false, .any⟩, ⟨false, .any⟩, ⟨false, .any⟩, ⟨false, .any⟩, ⟨false, .any⟩, ⟨false, .any⟩, ⟨false, .any⟩, ⟨false, .any⟩, ⟨false, .any⟩, ⟨false, .any⟩, ⟨false, .any⟩, ⟨false, .any⟩, ⟨false, .any⟩, ⟨false, .any⟩, ⟨false, .any⟩, ⟨false, .any⟩, ⟨false, .any⟩, ⟨false, .any⟩, ⟨false, .any⟩, ⟨false, .any⟩, ⟨false, .any⟩, ⟨false, .any⟩, ⟨false, .any⟩, ⟨false, .any⟩, ⟨false, .any⟩, ⟨false, .any⟩, ⟨false, .any⟩, ⟨false, .any⟩, ⟨false, .any⟩, ⟨false, .any⟩, ⟨false, .any⟩, ⟨false, .any⟩, ⟨false, .any⟩, ⟨false, .any⟩, ⟨false, (.rows 3)⟩, ⟨false, (.int .i64)⟩, ⟨true, (.int .i64)⟩, ⟨false, .any⟩, ⟨false, .any⟩, ⟨false, .any⟩, ⟨false, .any⟩, ⟨false, .any⟩, ⟨false, .any⟩, ⟨false, .any⟩, ⟨false, .any⟩, ⟨false, .any⟩, ⟨false, .any⟩, ⟨false, .any⟩, ⟨false, .any⟩, ⟨false, .any⟩, ⟨false, .any⟩, ⟨false, .any⟩, ⟨false, .any⟩, ⟨false, .any⟩, ⟨false, .any⟩, ⟨false, .any⟩, ⟨false, .any⟩, ⟨false, .any⟩, ⟨false, .any⟩, ⟨false, .any⟩, ⟨false, .any⟩, ⟨false, .any⟩, ⟨false, .any⟩, ⟨false, .any⟩, ⟨false, .any⟩, ⟨false, .any⟩, ⟨false, .any⟩, ⟨false, .any⟩, ⟨false, .any⟩, ⟨false, .any⟩], [(.lst true 3), (.lst true 4), (.lst true 3), (.dat false 25)], [⟨0, 2, [⟨true, .any⟩, ⟨true, (.ptr 0 0)⟩, ⟨true, (.lit (.slice none 0 0))⟩, ⟨true, (.lit (.bool false))⟩, ⟨true, (.osl 1 3)⟩, ⟨true, (.osl 2 4)⟩, ⟨true, (.osl 3 3)⟩, ⟨true, .any⟩, ⟨false, (.int .i64)⟩, ⟨true, .any⟩, ⟨true, .any⟩, ⟨true, .any⟩, ⟨true, .any⟩, ⟨true, .any⟩, ⟨true, .any⟩, ⟨true, .any⟩, ⟨true, .any⟩, ⟨true, .any⟩, ⟨true, .any⟩, ⟨true, .any⟩, ⟨true, .any⟩, ⟨true, .any⟩, ⟨true, .any⟩, ⟨true, .any⟩, ⟨true, .any⟩, ⟨true, .any⟩, ⟨true, .any⟩, ⟨true, .any⟩, ⟨true, .any⟩, ⟨true, .any⟩, ⟨true, .any⟩, ⟨true, .any⟩, ⟨true, .any⟩, ⟨true, .any⟩, ⟨true, .any⟩, ⟨true, .any⟩, ⟨true, .any⟩, ⟨true, .any⟩, ⟨true, .any⟩, ⟨true, .any⟩, ⟨true, .any⟩, ⟨true, .any⟩, ⟨true, .any⟩, ⟨true, .any⟩, ⟨true, .any⟩, ⟨true, .any⟩, ⟨true, .any⟩, ⟨true, .any⟩, ⟨true, .any⟩, ⟨true, .any⟩, ⟨true, .any⟩, ⟨true, .any⟩, ⟨true, .any⟩, ⟨true, .any⟩, ⟨true, .any⟩, ⟨true, .any⟩, ⟨true, .any⟩, ⟨false, (.rows 3)⟩, ⟨false, (.int .i64)⟩, ⟨true, .any⟩, ⟨true, .any⟩, ⟨true, .any⟩, ⟨true, .any⟩, ⟨true, .any⟩, ⟨true, .any⟩, ⟨true, .any⟩, ⟨true, .any⟩, ⟨true, .any⟩, ⟨true, .any⟩, ⟨true, .any⟩, ⟨true, .any⟩, ⟨true, .any⟩, ⟨true, .any⟩, ⟨true, .any⟩, ⟨true, .any⟩, ⟨true, .any⟩, ⟨true, .any⟩, ⟨true, .any⟩, ⟨true, .any⟩, ⟨true, .any⟩, ⟨true, .any⟩, ⟨true, .any⟩, ⟨true, .any⟩, ⟨true, .any⟩, ⟨true, .any⟩, ⟨true, .any⟩, ⟨true, .any⟩, ⟨true, .any⟩, ⟨true, .any⟩, ⟨true, .any⟩, ⟨true, .any⟩, ⟨true, .any⟩, ⟨true, .any⟩], [(.lst true 3), (.lst true 4), (.lst true 3), (.dat false 25)]⟩, ⟨1, 0, [⟨true, .any⟩, ⟨true, .any⟩, ⟨true, (.lit (.slice none 0 0))⟩, ⟨true, (.lit (.bool false))⟩, ⟨true, .any⟩, ⟨true, .any⟩, ⟨true, .any⟩, ⟨true, .any⟩, ⟨false, (.int .i64)⟩, ⟨true, .any⟩, ⟨true, .any⟩, ⟨true, .any⟩, ⟨true, .any⟩, ⟨true, .any⟩, ⟨true, .any⟩, ⟨true, .any⟩, ⟨true, .any⟩, ⟨true, .any⟩, ⟨true, .any⟩, ⟨true, .any⟩, ⟨true, .any⟩, ⟨true, .any⟩, ⟨true, .any⟩, ⟨true, .any⟩, ⟨true, .any⟩, ⟨true, .any⟩, ⟨true, .any⟩, ⟨true, .any⟩, ⟨true, .any⟩, ⟨true, .any⟩, ⟨true, .any⟩, ⟨true, .any⟩, ⟨true, .any⟩, ⟨true, .any⟩, ⟨true, .any⟩, ⟨true, .any⟩, ⟨true, .any⟩, ⟨true, .any⟩, ⟨true, .any⟩, ⟨true, .any⟩, ⟨true, .any⟩, ⟨true, .any⟩, ⟨true, .any⟩, ⟨true, .any⟩, ⟨true, .any⟩, ⟨true, .any⟩, ⟨true, .any⟩, ⟨true, .any⟩, ⟨true, .any⟩, ⟨true, .any⟩, ⟨true, .any⟩, ⟨true, .any⟩, ⟨true, .any⟩, ⟨true, .any⟩, ⟨true, .any⟩, ⟨true, .any⟩, ⟨true, .any⟩, ⟨false, (.rows 3)⟩, ⟨false, (.int .i64)⟩, ⟨true, .any⟩, ⟨true, .any⟩, ⟨true, .any⟩, ⟨true, .any⟩, ⟨true, .any⟩, ⟨true, .any⟩, ⟨true, .any⟩, ⟨true, .any⟩, ⟨true, .any⟩, ⟨true, .any⟩, ⟨true, .any⟩, ⟨true, .any⟩, ⟨true, .any⟩, ⟨true, .any⟩, ⟨true, .any⟩, ⟨true, .any⟩, ⟨true, .any⟩, ⟨true, .any⟩, ⟨true, .any⟩, ⟨true, .any⟩, ⟨true, .any⟩, ⟨true, .any⟩, ⟨true, .any⟩, ⟨true, .any⟩, ⟨true, .any⟩, ⟨true, .any⟩, ⟨true, .any⟩, ⟨true, .any⟩, ⟨true, .any⟩, ⟨true, .any⟩, ⟨true, .any⟩, ⟨true, .any⟩, ⟨true, .any⟩, ⟨true, .any⟩], [.skip, .skip, .skip, (.dat false 25)]⟩]⟩
noncomputable def st28_11 (p s : List D) : Option (Sum (List D) (List D)) := stepQX env tb48 60 12 28 (loopC 28 11) S28_11 p s
theorem st28_11_eq (pn0 : Int) (pd1 : D) (pn2 : Int) (pd3 : D) (sn0 : Int) (sd1 : D) (sd2 : D) (sd3 : D) : st28_11  [(D.int pn0), pd1, (D.int pn2), pd3] [(D.int sn0), sd1, sd2, sd3] =
    bif (qcmp BinOp.lss sn0 pn2) then
    bif (qinb pd1 sn0) then
    bif (qcmp BinOp.leq 0 (qint (qget pd1 sn0))) then
    bif (qcmp BinOp.lss (qint (qget pd1 sn0)) (qlen sd2)) then
    bif (qinb sd2 (qint (qget pd1 sn0))) then
    bif (qiteB (qbool (qget sd2 (qint (qget pd1 sn0)))) (qand (qcmp BinOp.leq 0 (qint (qget pd1 sn0))) (qand (qcmp BinOp.lss (qint (qget pd1 sn0)) (qlen sd3)) (qinb sd3 (qint (qget pd1 sn0))))) Bool.true) then
    bif (qiteB (qbool (qget sd2 (qint (qget pd1 sn0)))) (qcmp BinOp.neq (qint (qget sd3 (qint (qget pd1 sn0)))) pn0) Bool.false) then
    some (Sum.inr [(D.int 1)])
    else
    bif (qcmp BinOp.leq 0 (qint (qget pd1 sn0))) then
    bif (qcmp BinOp.lss (qint (qget pd1 sn0)) (qlen sd2)) then
    bif (qinb sd2 (qint (qget pd1 sn0))) then
    bif (qnot (qbool (qget sd2 (qint (qget pd1 sn0))))) then
    bif (qcmp BinOp.leq 0 (qint (qget pd1 sn0))) then
    bif (qcmp BinOp.lss (qint (qget pd1 sn0)) (qlen sd2)) then
    bif (qinb sd2 (qint (qget pd1 sn0))) then
    bif (qcmp BinOp.leq 0 (qint (qget pd1 sn0))) then
    bif (qcmp BinOp.lss (qint (qget pd1 sn0)) (qlen sd3)) then
    bif (qinb sd3 (qint (qget pd1 sn0))) then
    bif (qmem (qlen (qapp sd1 (D.list [(D.int (qint (qget pd1 sn0)))]))) 8) then
    bif (qcmp BinOp.eql (qlen sd3) (qlen (qsub (qset sd3 (qint (qget pd1 sn0)) (D.int pn0)) 0 (qlen sd3)))) then
    bif (qcmp BinOp.eql (qlen sd2) (qlen (qsub (qset sd2 (qint (qget pd1 sn0)) (D.bool Bool.true)) 0 (qlen sd2)))) then
    bif (qcmp BinOp.eql (qlen (qapp sd1 (D.list [(D.int (qint (qget pd1 sn0)))]))) (qlen (qsub (qapp sd1 (D.list [(D.int (qint (qget pd1 sn0)))])) 0 (qlen (qapp sd1 (D.list [(D.int (qint (qget pd1 sn0)))])))))) then
    some (Sum.inl [(D.int (qbin BinOp.add IntKind.i64 sn0 1)), (qsub (qapp sd1 (D.list [(D.int (qint (qget pd1 sn0)))])) 0 (qlen (qapp sd1 (D.list [(D.int (qint (qget pd1 sn0)))])))), (qsub (qset sd2 (qint (qget pd1 sn0)) (D.bool Bool.true)) 0 (qlen sd2)), (qsub (qset sd3 (qint (qget pd1 sn0)) (D.int pn0)) 0 (qlen sd3))])
    else
    none
    else
    none
    else
    none
    else
    none
    else
    none
    else
    none
    else
    none
    else
    none
    else
    none
    else
    none
    else
    bif (qcmp BinOp.eql (qlen sd3) (qlen (qsub sd3 0 (qlen sd3)))) then
    bif (qcmp BinOp.eql (qlen sd2) (qlen (qsub sd2 0 (qlen sd2)))) then
    bif (qcmp BinOp.eql (qlen sd1) (qlen (qsub sd1 0 (qlen sd1)))) then
    some (Sum.inl [(D.int (qbin BinOp.add IntKind.i64 sn0 1)), (qsub sd1 0 (qlen sd1)), (qsub sd2 0 (qlen sd2)), (qsub sd3 0 (qlen sd3))])
    else
    none
    else
    none
    else
    none
    else
    none
    else
    none
    else
    none
    else
    none
    else
    none
    else
    none
    else
    none
    else
    none
    else
    some (Sum.inr [(D.int 0), sd1, sd2, sd3]) := by
  have h : st28_11  [(D.int pn0), pd1, (D.int pn2), pd3] [(D.int sn0), sd1, sd2, sd3] =
    bif (qcmp BinOp.lss sn0 pn2) then
    bif (qinb pd1 sn0) then
    bif (qcmp BinOp.leq 0 (qint (qget pd1 sn0))) then
    bif (qcmp BinOp.lss (qint (qget pd1 sn0)) (qlen sd2)) then
    bif (qinb sd2 (qint (qget pd1 sn0))) then
    bif (qiteB (qbool (qget sd2 (qint (qget pd1 sn0)))) (qand (qcmp BinOp.leq 0 (qint (qget pd1 sn0))) (qand (qcmp BinOp.lss (qint (qget pd1 sn0)) (qlen sd3)) (qinb sd3 (qint (qget pd1 sn0))))) Bool.true) then
    bif (qiteB (qbool (qget sd2 (qint (qget pd1 sn0)))) (qcmp BinOp.neq (qint (qget sd3 (qint (qget pd1 sn0)))) pn0) Bool.false) then
    bif (qeqD (D.int pn0) (D.int pn0)) then
    bif (qeqD pd1 pd1) then
    bif (qeqD (D.int pn2) (D.int pn2)) then
    bif (qeqD pd3 pd3) then
    some (Sum.inr [(D.int 1)])
    else
    none
    else
    none
    else
    none
    else
    none
    else
    bif (qcmp BinOp.leq 0 (qint (qget pd1 sn0))) then
    bif (qcmp BinOp.lss (qint (qget pd1 sn0)) (qlen sd2)) then
    bif (qinb sd2 (qint (qget pd1 sn0))) then
    bif (qnot (qbool (qget sd2 (qint (qget pd1 sn0))))) then
    bif (qcmp BinOp.leq 0 (qint (qget pd1 sn0))) then
    bif (qcmp BinOp.lss (qint (qget pd1 sn0)) (qlen sd2)) then
    bif (qinb sd2 (qint (qget pd1 sn0))) then
    bif (qcmp BinOp.leq 0 (qint (qget pd1 sn0))) then
    bif (qcmp BinOp.lss (qint (qget pd1 sn0)) (qlen sd3)) then
    bif (qinb sd3 (qint (qget pd1 sn0))) then
    bif (qcmp BinOp.eql (qlen sd1) (qlen sd1)) then
    bif (qmem (qlen (qapp sd1 (D.list [(D.int (qint (qget pd1 sn0)))]))) 8) then
    bif (qcmp BinOp.eql (qlen sd3) (qlen (qsub (qset sd3 (qint (qget pd1 sn0)) (D.int pn0)) 0 (qlen sd3)))) then
    bif (qcmp BinOp.eql (qlen sd2) (qlen (qsub (qset sd2 (qint (qget pd1 sn0)) (D.bool Bool.true)) 0 (qlen sd2)))) then
    bif (qcmp BinOp.eql (qlen (qapp sd1 (D.list [(D.int (qint (qget pd1 sn0)))]))) (qlen (qsub (qapp sd1 (D.list [(D.int (qint (qget pd1 sn0)))])) 0 (qlen (qapp sd1 (D.list [(D.int (qint (qget pd1 sn0)))])))))) then
    bif (qeqD (D.int pn0) (D.int pn0)) then
    bif (qeqD pd1 pd1) then
    bif (qeqD (D.int pn2) (D.int pn2)) then
    bif (qeqD pd3 pd3) then
    some (Sum.inl [(D.int (qbin BinOp.add IntKind.i64 sn0 1)), (qsub (qapp sd1 (D.list [(D.int (qint (qget pd1 sn0)))])) 0 (qlen (qapp sd1 (D.list [(D.int (qint (qget pd1 sn0)))])))), (qsub (qset sd2 (qint (qget pd1 sn0)) (D.bool Bool.true)) 0 (qlen sd2)), (qsub (qset sd3 (qint (qget pd1 sn0)) (D.int pn0)) 0 (qlen sd3))])
    else
    none
    else
    none
    else
    none
    else
    none
    else
    none
    else
    none
    else
    none
    else
    none
    else
    none
    else
    none
    else
    none
    else
    none
    else
    none
    else
    none
    else
    none
    else
    bif (qcmp BinOp.eql (qlen sd3) (qlen (qsub sd3 0 (qlen sd3)))) then
    bif (qcmp BinOp.eql (qlen sd2) (qlen (qsub sd2 0 (qlen sd2)))) then
    bif (qcmp BinOp.eql (qlen sd1) (qlen (qsub sd1 0 (qlen sd1)))) then
    bif (qeqD (D.int pn0) (D.int pn0)) then
    bif (qeqD pd1 pd1) then
    bif (qeqD (D.int pn2) (D.int pn2)) then
    bif (qeqD pd3 pd3) then
    some (Sum.inl [(D.int (qbin BinOp.add IntKind.i64 sn0 1)), (qsub sd1 0 (qlen sd1)), (qsub sd2 0 (qlen sd2)), (qsub sd3 0 (qlen sd3))])
    else
    none
    else
    none
    else
    none
    else
    none
    else
    none
    else
    none
    else
    none
    else
    none
    else
    none
    else
    none
    else
    none
    else
    none
    else
    none
    else
    none
    else
    none
    else
    bif (qcmp BinOp.eql (qlen sd3) (qlen sd3)) then
    bif (qcmp BinOp.eql (qlen sd2) (qlen sd2)) then
    bif (qcmp BinOp.eql (qlen sd1) (qlen sd1)) then
    bif (qeqD (D.int pn0) (D.int pn0)) then
    bif (qeqD pd1 pd1) then
    bif (qeqD (D.int pn2) (D.int pn2)) then
    bif (qeqD pd3 pd3) then
    some (Sum.inr [(D.int 0), sd1, sd2, sd3])
    else
    none
    else
    none
    else
    none
    else
    none
    else
    none
    else
    none
    else
    none := by kernel_rfl
  rw [h]; simp only [qeqD_self, qeqI_self, qeq_len, show qcmp BinOp.eql 0 (qlen (D.list [])) = true from qeq_len [], show ∀ a, qcmp BinOp.eql 1 (qlen (D.list [a])) = true from fun a => qeq_len [a], show ∀ a b, qcmp BinOp.eql 2 (qlen (D.list [a, b])) = true from fun a b => qeq_len [a, b], show ∀ a b c, qcmp BinOp.eql 3 (qlen (D.list [a, b, c])) = true from fun a b c => qeq_len [a, b, c], show ∀ a b c d, qcmp BinOp.eql 4 (qlen (D.list [a, b, c, d])) = true from fun a b c d => qeq_len [a, b, c, d], cond_true]
noncomputable def l28_11 : List D → List D → Option (List D) := veil fun p s => loW (st28_11  p) s
theorem l28_11_eq : l28_11  = fun p s => loW (st28_11  p) s := veil_eq _
noncomputable def tbl28_11 : Tb := Tb.addL tb48 28 11 S28_11.n0 (mkLp S28_11 (l28_11 ))
theorem ok_tbl28_11 : TbOk env (tbl28_11 ) := addLoopQ ok_tb48 28 11 (by kernel_rfl) _ (l28_11_eq )
def S28_4 : LoopS := ⟨0, [⟨false, .any⟩, ⟨false, (.ptr 0 0)⟩, ⟨false, (.lit (.slice none 0 0))⟩, ⟨false, (.lit (.bool false))⟩, ⟨false, (.oslc 1 3)⟩, ⟨false, (.oslc 2 4)⟩, ⟨false, (.oslc 3 3)⟩, ⟨false, .any⟩, ⟨false, .any⟩, ⟨false, .any⟩, ⟨false, .any⟩, ⟨false, .any⟩, ⟨false, .any⟩, ⟨false, .any⟩, ⟨false, .any⟩, ⟨false, .any⟩, ⟨false, .any⟩, ⟨false, .any⟩, ⟨false, .any⟩, ⟨false, .any⟩, ⟨false, .any⟩, ⟨false, .any⟩, ⟨false, .any⟩, ⟨false, .any⟩, ⟨false, .any⟩, ⟨false, .any⟩, ⟨false, .any⟩, ⟨false, .any⟩, ⟨false, .any⟩, ⟨false, .any⟩, ⟨false, .any⟩, ⟨false, .any⟩, ⟨false, .any⟩, ⟨false, .any⟩, ⟨false, .any⟩, ⟨false, .any⟩, ⟨false, .any⟩, ⟨false, .any⟩, ⟨false, .any⟩, ⟨false, .any⟩, ⟨false, .any⟩, ⟨false, .any⟩, ⟨false, .any⟩, ⟨false, .any⟩, ⟨false, .any⟩, ⟨false, .any⟩, ⟨false, .any⟩, ⟨false, .any⟩, ⟨false, .any⟩, ⟨false, .any⟩, ⟨false, .any⟩, ⟨false, .any⟩, ⟨false, .any⟩, ⟨false, .any⟩, ⟨false, .any⟩, ⟨false, .any⟩, ⟨false, .any⟩, ⟨false, .any⟩, ⟨false, .any⟩, ⟨false, .any⟩, ⟨false, .any⟩, ⟨false, .any⟩, ⟨false, .any⟩, ⟨false, .any⟩, ⟨false, .any⟩, ⟨false, .any⟩, ⟨false, .any⟩, ⟨false, .any⟩, ⟨false, .any⟩, ⟨false, .any⟩, ⟨false, .any⟩, ⟨false, .any⟩, ⟨false, .any⟩, ⟨false, .any⟩, ⟨false, .any⟩, ⟨false, .any⟩, ⟨false, .any⟩, ⟨false, .any⟩, ⟨false, .any⟩, ⟨false, .any⟩, ⟨false, .any⟩, ⟨false, .any⟩, ⟨false, .any⟩, ⟨false, .any⟩, ⟨false, .any⟩, ⟨false, .any⟩, ⟨false, .any⟩, ⟨false, .any⟩, ⟨false, .any⟩, ⟨false, .any⟩, ⟨false, .any⟩, ⟨false, .any⟩, ⟨false, .any⟩], [(.lst true 3), (.lst true 4), (.lst true 3), (.dat false 25)], [⟨0, 0, [⟨true, .any⟩, ⟨true, .any⟩, ⟨true, (.lit (.slice none 0 0))⟩, ⟨true, (.lit (.bool false))⟩, ⟨true, (.osl 1 3)⟩, ⟨true, .any⟩, ⟨true, .any⟩, ⟨true, .any⟩, ⟨true, .any⟩, ⟨true, .any⟩, ⟨true, .any⟩, ⟨true, .any⟩, ⟨true, .any⟩, ⟨true, .any⟩, ⟨true, .any⟩, ⟨true, .any⟩, ⟨true, .any⟩, ⟨true, .any⟩, ⟨true, .any⟩, ⟨true, .any⟩, ⟨true, .any⟩, ⟨true, .any⟩, ⟨true, .any⟩, ⟨true, .any⟩, ⟨true, .any⟩, ⟨true, .any⟩, ⟨true, .any⟩, ⟨true, .any⟩, ⟨true, .any⟩, ⟨true, .any⟩, ⟨true, .any⟩, ⟨true, .any⟩, ⟨true, .any⟩, ⟨true, .any⟩, ⟨true, .any⟩, ⟨true, .any⟩, ⟨true, .any⟩, ⟨true, .any⟩, ⟨true, .any⟩, ⟨true, .any⟩, ⟨true, .any⟩, ⟨true, .any⟩, ⟨true, .any⟩, ⟨true, .any⟩, ⟨true, .any⟩, ⟨true, .any⟩, ⟨true, .any⟩, ⟨true, .any⟩, ⟨true, .any⟩, ⟨true, .any⟩, ⟨true, .any⟩, ⟨true, .any⟩, ⟨true, .any⟩, ⟨true, .any⟩, ⟨true, .any⟩, ⟨true, .any⟩, ⟨true, .any⟩, ⟨true, .any⟩, ⟨true, .any⟩, ⟨true, .any⟩, ⟨true, .any⟩, ⟨true, .any⟩, ⟨true, .any⟩, ⟨true, .any⟩, ⟨true, .any⟩, ⟨true, .any⟩, ⟨true, .any⟩, ⟨true, .any⟩, ⟨true, .any⟩, ⟨true, .any⟩, ⟨true, .any⟩, ⟨true, .any⟩, ⟨true, .any⟩, ⟨true, .any⟩, ⟨true, .any⟩, ⟨true, .any⟩, ⟨true, .any⟩, ⟨true, .any⟩, ⟨true, .any⟩, ⟨true, .any⟩, ⟨true, .any⟩, ⟨true, .any⟩, ⟨true, .any⟩, ⟨true, .any⟩, ⟨true, .any⟩, ⟨true, .any⟩, ⟨true, .any⟩, ⟨true, .any⟩, ⟨true, .any⟩, ⟨true, .any⟩, ⟨true, .any⟩, ⟨true, .any⟩, ⟨true, .any⟩], [.skip, .skip, (.lst true 3), (.dat false 25)]⟩, ⟨1, 0, [⟨true, .any⟩, ⟨true, .any⟩, ⟨true, (.lit (.slice none 0 0))⟩, ⟨true, (.lit (.bool false))⟩, ⟨true, .any⟩, ⟨true, .any⟩, ⟨true, .any⟩, ⟨true, .any⟩, ⟨true, .any⟩, ⟨true, .any⟩, ⟨true, .any⟩, ⟨true, .any⟩, ⟨true, .any⟩, ⟨true, .any⟩, ⟨true, .any⟩, ⟨true, .any⟩, ⟨true, .any⟩, ⟨true, .any⟩, ⟨true, .any⟩, ⟨true, .any⟩, ⟨true, .any⟩, ⟨true, .any⟩, ⟨true, .any⟩, ⟨true, .any⟩, ⟨true, .any⟩, ⟨true, .any⟩, ⟨true, .any⟩, ⟨true, .any⟩, ⟨true, .any⟩, ⟨true, .any⟩, ⟨true, .any⟩, ⟨true, .any⟩, ⟨true, .any⟩, ⟨true, .any⟩, ⟨true, .any⟩, ⟨true, .any⟩, ⟨true, .any⟩, ⟨true, .any⟩, ⟨true, .any⟩, ⟨true, .any⟩, ⟨true, .any⟩, ⟨true, .any⟩, ⟨true, .any⟩, ⟨true, .any⟩, ⟨true, .any⟩, ⟨true, .any⟩, ⟨true, .any⟩, ⟨true, .any⟩, ⟨true, .any⟩, ⟨true, .any⟩, ⟨true, .any⟩, ⟨true, .any⟩, ⟨true, .any⟩, ⟨true, .any⟩, ⟨true, .any⟩, ⟨true, .any⟩, ⟨true, .any⟩, ⟨true, .any⟩, ⟨true, .any⟩, ⟨true, .any⟩, ⟨true, .any⟩, ⟨true, .any⟩, ⟨true, .any⟩, ⟨true, .any⟩, ⟨true, .any⟩, ⟨true, .any⟩, ⟨true, .any⟩, ⟨true, .any⟩, ⟨true, .any⟩, ⟨true, .any⟩, ⟨true, .any⟩, ⟨true, .any⟩, ⟨true, .any⟩, ⟨true, .any⟩, ⟨true, .any⟩, ⟨true, .any⟩, ⟨true, .any⟩, ⟨true, .any⟩, ⟨true, .any⟩, ⟨true, .any⟩, ⟨true, .any⟩, ⟨true, .any⟩, ⟨true, .any⟩, ⟨true, .any⟩, ⟨true, .any⟩, ⟨true, .any⟩, ⟨true, .any⟩, ⟨true, .any⟩, ⟨true, .any⟩, ⟨true, .any⟩, ⟨true, .any⟩, ⟨true, .any⟩, ⟨true, .any⟩], [.skip, .skip, .skip, (.dat false 25)]⟩]⟩
noncomputable def st28_4 (p s : List D) : Option (Sum (List D) (List D)) := stepQX env tbl28_11 60 12 28 (loopC 28 4) S28_4 p s
theorem st28_4_eq (pd0 : D) (sd0 : D) (sd1 : D) (sd2 : D) : st28_4  [pd0] [sd0, sd1, sd2] =
    bif (qcmp BinOp.gtr (qlen sd0) 0) then
    bif (qcmp BinOp.leq 0 (qbin BinOp.sub IntKind.i64 (qlen sd0) 1)) then
    bif (qcmp BinOp.lss (qbin BinOp.sub IntKind.i64 (qlen sd0) 1) (qlen sd0)) then
    bif (qinb sd0 (qbin BinOp.sub IntKind.i64 (qlen sd0) 1)) then
    bif (qcmp BinOp.leq 0 (qbin BinOp.sub IntKind.i64 (qlen sd0) 1)) then
    bif (qcmp BinOp.leq (qbin BinOp.sub IntKind.i64 (qlen sd0) 1) (qlen sd0)) then
    bif (qinb (qfld pd0 1) (qint (qget sd0 (qbin BinOp.sub IntKind.i64 (qlen sd0) 1)))) then
    bif (qcmp BinOp.leq 0 (qint (qget sd0 (qbin BinOp.sub IntKind.i64 (qlen sd0) 1)))) then
    bif (qcmp BinOp.lss (qint (qget sd0 (qbin BinOp.sub IntKind.i64 (qlen sd0) 1))) (qlen sd2)) then
    bif (qinb sd2 (qint (qget sd0 (qbin BinOp.sub IntKind.i64 (qlen sd0) 1)))) then
    bif (qsome (q61 [(qget (qfld pd0 1) (qint (qget sd0 (qbin BinOp.sub IntKind.i64 (qlen sd0) 1)))), (D.int (qint (qget sd2 (qint (qget sd0 (qbin BinOp.sub IntKind.i64 (qlen sd0) 1))))))])) then
    bif (qnot (qbool (qnth (q61 [(qget (qfld pd0 1) (qint (qget sd0 (qbin BinOp.sub IntKind.i64 (qlen sd0) 1)))), (D.int (qint (qget sd2 (qint (qget sd0 (qbin BinOp.sub IntKind.i64 (qlen sd0) 1))))))]) 1))) then
    some (Sum.inr [(D.int 1)])
    else
    bif (qinb (qfld pd0 1) (qint (qget sd0 (qbin BinOp.sub IntKind.i64 (qlen sd0) 1)))) then
    bif (qsome (q22 [(qget (qfld pd0 1) (qint (qget sd0 (qbin BinOp.sub IntKind.i64 (qlen sd0) 1))))])) then
    bif (qcmp BinOp.eql (qlen sd2) (qlen (qsub sd2 0 (qlen sd2)))) then
    bif (qcmp BinOp.eql (qlen sd1) (qlen (qsub sd1 0 (qlen sd1)))) then
    bif (qcmp BinOp.eql (qbin BinOp.sub IntKind.i64 (qlen sd0) 1) (qlen (qsub sd0 0 (qbin BinOp.sub IntKind.i64 (qlen sd0) 1)))) then
    bif (qsome (l28_11 [(D.int (qint (qnth (q61 [(qget (qfld pd0 1) (qint (qget sd0 (qbin BinOp.sub IntKind.i64 (qlen sd0) 1)))), (D.int (qint (qget sd2 (qint (qget sd0 (qbin BinOp.sub IntKind.i64 (qlen sd0) 1))))))]) 0))), (qnth (q22 [(qget (qfld pd0 1) (qint (qget sd0 (qbin BinOp.sub IntKind.i64 (qlen sd0) 1))))]) 0), (D.int (qlen (qnth (q22 [(qget (qfld pd0 1) (qint (qget sd0 (qbin BinOp.sub IntKind.i64 (qlen sd0) 1))))]) 0))), pd0] [(D.int 0), (qsub sd0 0 (qbin BinOp.sub IntKind.i64 (qlen sd0) 1)), (qsub sd1 0 (qlen sd1)), (qsub sd2 0 (qlen sd2))])) then
    bif (qcmp BinOp.eql (qint (qnth (l28_11 [(D.int (qint (qnth (q61 [(qget (qfld pd0 1) (qint (qget sd0 (qbin BinOp.sub IntKind.i64 (qlen sd0) 1)))), (D.int (qint (qget sd2 (qint (qget sd0 (qbin BinOp.sub IntKind.i64 (qlen sd0) 1))))))]) 0))), (qnth (q22 [(qget (qfld pd0 1) (qint (qget sd0 (qbin BinOp.sub IntKind.i64 (qlen sd0) 1))))]) 0), (D.int (qlen (qnth (q22 [(qget (qfld pd0 1) (qint (qget sd0 (qbin BinOp.sub IntKind.i64 (qlen sd0) 1))))]) 0))), pd0] [(D.int 0), (qsub sd0 0 (qbin BinOp.sub IntKind.i64 (qlen sd0) 1)), (qsub sd1 0 (qlen sd1)), (qsub sd2 0 (qlen sd2))]) 0)) 0) then
    bif (qcmp BinOp.eql (qlen (qnth (l28_11 [(D.int (qint (qnth (q61 [(qget (qfld pd0 1) (qint (qget sd0 (qbin BinOp.sub IntKind.i64 (qlen sd0) 1)))), (D.int (qint (qget sd2 (qint (qget sd0 (qbin BinOp.sub IntKind.i64 (qlen sd0) 1))))))]) 0))), (qnth (q22 [(qget (qfld pd0 1) (qint (qget sd0 (qbin BinOp.sub IntKind.i64 (qlen sd0) 1))))]) 0), (D.int (qlen (qnth (q22 [(qget (qfld pd0 1) (qint (qget sd0 (qbin BinOp.sub IntKind.i64 (qlen sd0) 1))))]) 0))), pd0] [(D.int 0), (qsub sd0 0 (qbin BinOp.sub IntKind.i64 (qlen sd0) 1)), (qsub sd1 0 (qlen sd1)), (qsub sd2 0 (qlen sd2))]) 3)) (qlen (qsub (qnth (l28_11 [(D.int (qint (qnth (q61 [(qget (qfld pd0 1) (qint (qget sd0 (qbin BinOp.sub IntKind.i64 (qlen sd0) 1)))), (D.int (qint (qget sd2 (qint (qget sd0 (qbin BinOp.sub IntKind.i64 (qlen sd0) 1))))))]) 0))), (qnth (q22 [(qget (qfld pd0 1) (qint (qget sd0 (qbin BinOp.sub IntKind.i64 (qlen sd0) 1))))]) 0), (D.int (qlen (qnth (q22 [(qget (qfld pd0 1) (qint (qget sd0 (qbin BinOp.sub IntKind.i64 (qlen sd0) 1))))]) 0))), pd0] [(D.int 0), (qsub sd0 0 (qbin BinOp.sub IntKind.i64 (qlen sd0) 1)), (qsub sd1 0 (qlen sd1)), (qsub sd2 0 (qlen sd2))]) 3) 0 (qlen (qnth (l28_11 [(D.int (qint (qnth (q61 [(qget (qfld pd0 1) (qint (qget sd0 (qbin BinOp.sub IntKind.i64 (qlen sd0) 1)))), (D.int (qint (qget sd2 (qint (qget sd0 (qbin BinOp.sub IntKind.i64 (qlen sd0) 1))))))]) 0))), (qnth (q22 [(qget (qfld pd0 1) (qint (qget sd0 (qbin BinOp.sub IntKind.i64 (qlen sd0) 1))))]) 0), (D.int (qlen (qnth (q22 [(qget (qfld pd0 1) (qint (qget sd0 (qbin BinOp.sub IntKind.i64 (qlen sd0) 1))))]) 0))), pd0] [(D.int 0), (qsub sd0 0 (qbin BinOp.sub IntKind.i64 (qlen sd0) 1)), (qsub sd1 0 (qlen sd1)), (qsub sd2 0 (qlen sd2))]) 3))))) then
    bif (qcmp BinOp.eql (qlen (qnth (l28_11 [(D.int (qint (qnth (q61 [(qget (qfld pd0 1) (qint (qget sd0 (qbin BinOp.sub IntKind.i64 (qlen sd0) 1)))), (D.int (qint (qget sd2 (qint (qget sd0 (qbin BinOp.sub IntKind.i64 (qlen sd0) 1))))))]) 0))), (qnth (q22 [(qget (qfld pd0 1) (qint (qget sd0 (qbin BinOp.sub IntKind.i64 (qlen sd0) 1))))]) 0), (D.int (qlen (qnth (q22 [(qget (qfld pd0 1) (qint (qget sd0 (qbin BinOp.sub IntKind.i64 (qlen sd0) 1))))]) 0))), pd0] [(D.int 0), (qsub sd0 0 (qbin BinOp.sub IntKind.i64 (qlen sd0) 1)), (qsub sd1 0 (qlen sd1)), (qsub sd2 0 (qlen sd2))]) 2)) (qlen (qsub (qnth (l28_11 [(D.int (qint (qnth (q61 [(qget (qfld pd0 1) (qint (qget sd0 (qbin BinOp.sub IntKind.i64 (qlen sd0) 1)))), (D.int (qint (qget sd2 (qint (qget sd0 (qbin BinOp.sub IntKind.i64 (qlen sd0) 1))))))]) 0))), (qnth (q22 [(qget (qfld pd0 1) (qint (qget sd0 (qbin BinOp.sub IntKind.i64 (qlen sd0) 1))))]) 0), (D.int (qlen (qnth (q22 [(qget (qfld pd0 1) (qint (qget sd0 (qbin BinOp.sub IntKind.i64 (qlen sd0) 1))))]) 0))), pd0] [(D.int 0), (qsub sd0 0 (qbin BinOp.sub IntKind.i64 (qlen sd0) 1)), (qsub sd1 0 (qlen sd1)), (qsub sd2 0 (qlen sd2))]) 2) 0 (qlen (qnth (l28_11 [(D.int (qint (qnth (q61 [(qget (qfld pd0 1) (qint (qget sd0 (qbin BinOp.sub IntKind.i64 (qlen sd0) 1)))), (D.int (qint (qget sd2 (qint (qget sd0 (qbin BinOp.sub IntKind.i64 (qlen sd0) 1))))))]) 0))), (qnth (q22 [(qget (qfld pd0 1) (qint (qget sd0 (qbin BinOp.sub IntKind.i64 (qlen sd0) 1))))]) 0), (D.int (qlen (qnth (q22 [(qget (qfld pd0 1) (qint (qget sd0 (qbin BinOp.sub IntKind.i64 (qlen sd0) 1))))]) 0))), pd0] [(D.int 0), (qsub sd0 0 (qbin BinOp.sub IntKind.i64 (qlen sd0) 1)), (qsub sd1 0 (qlen sd1)), (qsub sd2 0 (qlen sd2))]) 2))))) then
    bif (qcmp BinOp.eql (qlen (qnth (l28_11 [(D.int (qint (qnth (q61 [(qget (qfld pd0 1) (qint (qget sd0 (qbin BinOp.sub IntKind.i64 (qlen sd0) 1)))), (D.int (qint (qget sd2 (qint (qget sd0 (qbin BinOp.sub IntKind.i64 (qlen sd0) 1))))))]) 0))), (qnth (q22 [(qget (qfld pd0 1) (qint (qget sd0 (qbin BinOp.sub IntKind.i64 (qlen sd0) 1))))]) 0), (D.int (qlen (qnth (q22 [(qget (qfld pd0 1) (qint (qget sd0 (qbin BinOp.sub IntKind.i64 (qlen sd0) 1))))]) 0))), pd0] [(D.int 0), (qsub sd0 0 (qbin BinOp.sub IntKind.i64 (qlen sd0) 1)), (qsub sd1 0 (qlen sd1)), (qsub sd2 0 (qlen sd2))]) 1)) (qlen (qsub (qnth (l28_11 [(D.int (qint (qnth (q61 [(qget (qfld pd0 1) (qint (qget sd0 (qbin BinOp.sub IntKind.i64 (qlen sd0) 1)))), (D.int (qint (qget sd2 (qint (qget sd0 (qbin BinOp.sub IntKind.i64 (qlen sd0) 1))))))]) 0))), (qnth (q22 [(qget (qfld pd0 1) (qint (qget sd0 (qbin BinOp.sub IntKind.i64 (qlen sd0) 1))))]) 0), (D.int (qlen (qnth (q22 [(qget (qfld pd0 1) (qint (qget sd0 (qbin BinOp.sub IntKind.i64 (qlen sd0) 1))))]) 0))), pd0] [(D.int 0), (qsub sd0 0 (qbin BinOp.sub IntKind.i64 (qlen sd0) 1)), (qsub sd1 0 (qlen sd1)), (qsub sd2 0 (qlen sd2))]) 1) 0 (qlen (qnth (l28_11 [(D.int (qint (qnth (q61 [(qget (qfld pd0 1) (qint (qget sd0 (qbin BinOp.sub IntKind.i64 (qlen sd0) 1)))), (D.int (qint (qget sd2 (qint (qget sd0 (qbin BinOp.sub IntKind.i64 (qlen sd0) 1))))))]) 0))), (qnth (q22 [(qget (qfld pd0 1) (qint (qget sd0 (qbin BinOp.sub IntKind.i64 (qlen sd0) 1))))]) 0), (D.int (qlen (qnth (q22 [(qget (qfld pd0 1) (qint (qget sd0 (qbin BinOp.sub IntKind.i64 (qlen sd0) 1))))]) 0))), pd0] [(D.int 0), (qsub sd0 0 (qbin BinOp.sub IntKind.i64 (qlen sd0) 1)), (qsub sd1 0 (qlen sd1)), (qsub sd2 0 (qlen sd2))]) 1))))) then
    some (Sum.inl [(qsub (qnth (l28_11 [(D.int (qint (qnth (q61 [(qget (qfld pd0 1) (qint (qget sd0 (qbin BinOp.sub IntKind.i64 (qlen sd0) 1)))), (D.int (qint (qget sd2 (qint (qget sd0 (qbin BinOp.sub IntKind.i64 (qlen sd0) 1))))))]) 0))), (qnth (q22 [(qget (qfld pd0 1) (qint (qget sd0 (qbin BinOp.sub IntKind.i64 (qlen sd0) 1))))]) 0), (D.int (qlen (qnth (q22 [(qget (qfld pd0 1) (qint (qget sd0 (qbin BinOp.sub IntKind.i64 (qlen sd0) 1))))]) 0))), pd0] [(D.int 0), (qsub sd0 0 (qbin BinOp.sub IntKind.i64 (qlen sd0) 1)), (qsub sd1 0 (qlen sd1)), (qsub sd2 0 (qlen sd2))]) 1) 0 (qlen (qnth (l28_11 [(D.int (qint (qnth (q61 [(qget (qfld pd0 1) (qint (qget sd0 (qbin BinOp.sub IntKind.i64 (qlen sd0) 1)))), (D.int (qint (qget sd2 (qint (qget sd0 (qbin BinOp.sub IntKind.i64 (qlen sd0) 1))))))]) 0))), (qnth (q22 [(qget (qfld pd0 1) (qint (qget sd0 (qbin BinOp.sub IntKind.i64 (qlen sd0) 1))))]) 0), (D.int (qlen (qnth (q22 [(qget (qfld pd0 1) (qint (qget sd0 (qbin BinOp.sub IntKind.i64 (qlen sd0) 1))))]) 0))), pd0] [(D.int 0), (qsub sd0 0 (qbin BinOp.sub IntKind.i64 (qlen sd0) 1)), (qsub sd1 0 (qlen sd1)), (qsub sd2 0 (qlen sd2))]) 1))), (qsub (qnth (l28_11 [(D.int (qint (qnth (q61 [(qget (qfld pd0 1) (qint (qget sd0 (qbin BinOp.sub IntKind.i64 (qlen sd0) 1)))), (D.int (qint (qget sd2 (qint (qget sd0 (qbin BinOp.sub IntKind.i64 (qlen sd0) 1))))))]) 0))), (qnth (q22 [(qget (qfld pd0 1) (qint (qget sd0 (qbin BinOp.sub IntKind.i64 (qlen sd0) 1))))]) 0), (D.int (qlen (qnth (q22 [(qget (qfld pd0 1) (qint (qget sd0 (qbin BinOp.sub IntKind.i64 (qlen sd0) 1))))]) 0))), pd0] [(D.int 0), (qsub sd0 0 (qbin BinOp.sub IntKind.i64 (qlen sd0) 1)), (qsub sd1 0 (qlen sd1)), (qsub sd2 0 (qlen sd2))]) 2) 0 (qlen (qnth (l28_11 [(D.int (qint (qnth (q61 [(qget (qfld pd0 1) (qint (qget sd0 (qbin BinOp.sub IntKind.i64 (qlen sd0) 1)))), (D.int (qint (qget sd2 (qint (qget sd0 (qbin BinOp.sub IntKind.i64 (qlen sd0) 1))))))]) 0))), (qnth (q22 [(qget (qfld pd0 1) (qint (qget sd0 (qbin BinOp.sub IntKind.i64 (qlen sd0) 1))))]) 0), (D.int (qlen (qnth (q22 [(qget (qfld pd0 1) (qint (qget sd0 (qbin BinOp.sub IntKind.i64 (qlen sd0) 1))))]) 0))), pd0] [(D.int 0), (qsub sd0 0 (qbin BinOp.sub IntKind.i64 (qlen sd0) 1)), (qsub sd1 0 (qlen sd1)), (qsub sd2 0 (qlen sd2))]) 2))), (qsub (qnth (l28_11 [(D.int (qint (qnth (q61 [(qget (qfld pd0 1) (qint (qget sd0 (qbin BinOp.sub IntKind.i64 (qlen sd0) 1)))), (D.int (qint (qget sd2 (qint (qget sd0 (qbin BinOp.sub IntKind.i64 (qlen sd0) 1))))))]) 0))), (qnth (q22 [(qget (qfld pd0 1) (qint (qget sd0 (qbin BinOp.sub IntKind.i64 (qlen sd0) 1))))]) 0), (D.int (qlen (qnth (q22 [(qget (qfld pd0 1) (qint (qget sd0 (qbin BinOp.sub IntKind.i64 (qlen sd0) 1))))]) 0))), pd0] [(D.int 0), (qsub sd0 0 (qbin BinOp.sub IntKind.i64 (qlen sd0) 1)), (qsub sd1 0 (qlen sd1)), (qsub sd2 0 (qlen sd2))]) 3) 0 (qlen (qnth (l28_11 [(D.int (qint (qnth (q61 [(qget (qfld pd0 1) (qint (qget sd0 (qbin BinOp.sub IntKind.i64 (qlen sd0) 1)))), (D.int (qint (qget sd2 (qint (qget sd0 (qbin BinOp.sub IntKind.i64 (qlen sd0) 1))))))]) 0))), (qnth (q22 [(qget (qfld pd0 1) (qint (qget sd0 (qbin BinOp.sub IntKind.i64 (qlen sd0) 1))))]) 0), (D.int (qlen (qnth (q22 [(qget (qfld pd0 1) (qint (qget sd0 (qbin BinOp.sub IntKind.i64 (qlen sd0) 1))))]) 0))), pd0] [(D.int 0), (qsub sd0 0 (qbin BinOp.sub IntKind.i64 (qlen sd0) 1)), (qsub sd1 0 (qlen sd1)), (qsub sd2 0 (qlen sd2))]) 3)))])
    else
    none
    else
    none
    else
    none
    else
    some (Sum.inr [(D.int 1)])
    else
    none
    else
    none
    else
    none
    else
    none
    else
    none
    else
    none
    else
    none
    else
    none
    else
    none
    else
    none
    else
    none
    else
    none
    else
    none
    else
    none
    else
    none
    else
    none
    else
    some (Sum.inr [(D.int 0), sd2]) := by
  have h : st28_4  [pd0] [sd0, sd1, sd2] =
    bif (qcmp BinOp.gtr (qlen sd0) 0) then
    bif (qcmp BinOp.leq 0 (qbin BinOp.sub IntKind.i64 (qlen sd0) 1)) then
    bif (qcmp BinOp.lss (qbin BinOp.sub IntKind.i64 (qlen sd0) 1) (qlen sd0)) then
    bif (qinb sd0 (qbin BinOp.sub IntKind.i64 (qlen sd0) 1)) then
    bif (qcmp BinOp.leq 0 (qbin BinOp.sub IntKind.i64 (qlen sd0) 1)) then
    bif (qcmp BinOp.leq (qbin BinOp.sub IntKind.i64 (qlen sd0) 1) (qlen sd0)) then
    bif (qinb (qfld pd0 1) (qint (qget sd0 (qbin BinOp.sub IntKind.i64 (qlen sd0) 1)))) then
    bif (qcmp BinOp.leq 0 (qint (qget sd0 (qbin BinOp.sub IntKind.i64 (qlen sd0) 1)))) then
    bif (qcmp BinOp.lss (qint (qget sd0 (qbin BinOp.sub IntKind.i64 (qlen sd0) 1))) (qlen sd2)) then
    bif (qinb sd2 (qint (qget sd0 (qbin BinOp.sub IntKind.i64 (qlen sd0) 1)))) then
    bif (qsome (q61 [(qget (qfld pd0 1) (qint (qget sd0 (qbin BinOp.sub IntKind.i64 (qlen sd0) 1)))), (D.int (qint (qget sd2 (qint (qget sd0 (qbin BinOp.sub IntKind.i64 (qlen sd0) 1))))))])) then
    bif (qnot (qbool (qnth (q61 [(qget (qfld pd0 1) (qint (qget sd0 (qbin BinOp.sub IntKind.i64 (qlen sd0) 1)))), (D.int (qint (qget sd2 (qint (qget sd0 (qbin BinOp.sub IntKind.i64 (qlen sd0) 1))))))]) 1))) then
    bif (qeqD pd0 pd0) then
    some (Sum.inr [(D.int 1)])
    else
    none
    else
    bif (qinb (qfld pd0 1) (qint (qget sd0 (qbin BinOp.sub IntKind.i64 (qlen sd0) 1)))) then
    bif (qsome (q22 [(qget (qfld pd0 1) (qint (qget sd0 (qbin BinOp.sub IntKind.i64 (qlen sd0) 1))))])) then
    bif (qcmp BinOp.eql (qlen sd2) (qlen (qsub sd2 0 (qlen sd2)))) then
    bif (qcmp BinOp.eql (qlen sd1) (qlen (qsub sd1 0 (qlen sd1)))) then
    bif (qcmp BinOp.eql (qbin BinOp.sub IntKind.i64 (qlen sd0) 1) (qlen (qsub sd0 0 (qbin BinOp.sub IntKind.i64 (qlen sd0) 1)))) then
    bif (qsome (l28_11 [(D.int (qint (qnth (q61 [(qget (qfld pd0 1) (qint (qget sd0 (qbin BinOp.sub IntKind.i64 (qlen sd0) 1)))), (D.int (qint (qget sd2 (qint (qget sd0 (qbin BinOp.sub IntKind.i64 (qlen sd0) 1))))))]) 0))), (qnth (q22 [(qget (qfld pd0 1) (qint (qget sd0 (qbin BinOp.sub IntKind.i64 (qlen sd0) 1))))]) 0), (D.int (qlen (qnth (q22 [(qget (qfld pd0 1) (qint (qget sd0 (qbin BinOp.sub IntKind.i64 (qlen sd0) 1))))]) 0))), pd0] [(D.int 0), (qsub sd0 0 (qbin BinOp.sub IntKind.i64 (qlen sd0) 1)), (qsub sd1 0 (qlen sd1)), (qsub sd2 0 (qlen sd2))])) then
    bif (qcmp BinOp.eql (qint (qnth (l28_11 [(D.int (qint (qnth (q61 [(qget (qfld pd0 1) (qint (qget sd0 (qbin BinOp.sub IntKind.i64 (qlen sd0) 1)))), (D.int (qint (qget sd2 (qint (qget sd0 (qbin BinOp.sub IntKind.i64 (qlen sd0) 1))))))]) 0))), (qnth (q22 [(qget (qfld pd0 1) (qint (qget sd0 (qbin BinOp.sub IntKind.i64 (qlen sd0) 1))))]) 0), (D.int (qlen (qnth (q22 [(qget (qfld pd0 1) (qint (qget sd0 (qbin BinOp.sub IntKind.i64 (qlen sd0) 1))))]) 0))), pd0] [(D.int 0), (qsub sd0 0 (qbin BinOp.sub IntKind.i64 (qlen sd0) 1)), (qsub sd1 0 (qlen sd1)), (qsub sd2 0 (qlen sd2))]) 0)) 0) then
    bif (qcmp BinOp.eql (qlen (qnth (l28_11 [(D.int (qint (qnth (q61 [(qget (qfld pd0 1) (qint (qget sd0 (qbin BinOp.sub IntKind.i64 (qlen sd0) 1)))), (D.int (qint (qget sd2 (qint (qget sd0 (qbin BinOp.sub IntKind.i64 (qlen sd0) 1))))))]) 0))), (qnth (q22 [(qget (qfld pd0 1) (qint (qget sd0 (qbin BinOp.sub IntKind.i64 (qlen sd0) 1))))]) 0), (D.int (qlen (qnth (q22 [(qget (qfld pd0 1) (qint (qget sd0 (qbin BinOp.sub IntKind.i64 (qlen sd0) 1))))]) 0))), pd0] [(D.int 0), (qsub sd0 0 (qbin BinOp.sub IntKind.i64 (qlen sd0) 1)), (qsub sd1 0 (qlen sd1)), (qsub sd2 0 (qlen sd2))]) 3)) (qlen (qsub (qnth (l28_11 [(D.int (qint (qnth (q61 [(qget (qfld pd0 1) (qint (qget sd0 (qbin BinOp.sub IntKind.i64 (qlen sd0) 1)))), (D.int (qint (qget sd2 (qint (qget sd0 (qbin BinOp.sub IntKind.i64 (qlen sd0) 1))))))]) 0))), (qnth (q22 [(qget (qfld pd0 1) (qint (qget sd0 (qbin BinOp.sub IntKind.i64 (qlen sd0) 1))))]) 0), (D.int (qlen (qnth (q22 [(qget (qfld pd0 1) (qint (qget sd0 (qbin BinOp.sub IntKind.i64 (qlen sd0) 1))))]) 0))), pd0] [(D.int 0), (qsub sd0 0 (qbin BinOp.sub IntKind.i64 (qlen sd0) 1)), (qsub sd1 0 (qlen sd1)), (qsub sd2 0 (qlen sd2))]) 3) 0 (qlen (qnth (l28_11 [(D.int (qint (qnth (q61 [(qget (qfld pd0 1) (qint (qget sd0 (qbin BinOp.sub IntKind.i64 (qlen sd0) 1)))), (D.int (qint (qget sd2 (qint (qget sd0 (qbin BinOp.sub IntKind.i64 (qlen sd0) 1))))))]) 0))), (qnth (q22 [(qget (qfld pd0 1) (qint (qget sd0 (qbin BinOp.sub IntKind.i64 (qlen sd0) 1))))]) 0), (D.int (qlen (qnth (q22 [(qget (qfld pd0 1) (qint (qget sd0 (qbin BinOp.sub IntKind.i64 (qlen sd0) 1))))]) 0))), pd0] [(D.int 0), (qsub sd0 0 (qbin BinOp.sub IntKind.i64 (qlen sd0) 1)), (qsub sd1 0 (qlen sd1)), (qsub sd2 0 (qlen sd2))]) 3))))) then
    bif (qcmp BinOp.eql (qlen (qnth (l28_11 [(D.int (qint (qnth (q61 [(qget (qfld pd0 1) (qint (qget sd0 (qbin BinOp.sub IntKind.i64 (qlen sd0) 1)))), (D.int (qint (qget sd2 (qint (qget sd0 (qbin BinOp.sub IntKind.i64 (qlen sd0) 1))))))]) 0))), (qnth (q22 [(qget (qfld pd0 1) (qint (qget sd0 (qbin BinOp.sub IntKind.i64 (qlen sd0) 1))))]) 0), (D.int (qlen (qnth (q22 [(qget (qfld pd0 1) (qint (qget sd0 (qbin BinOp.sub IntKind.i64 (qlen sd0) 1))))]) 0))), pd0] [(D.int 0), (qsub sd0 0 (qbin BinOp.sub IntKind.i64 (qlen sd0) 1)), (qsub sd1 0 (qlen sd1)), (qsub sd2 0 (qlen sd2))]) 2)) (qlen (qsub (qnth (l28_11 [(D.int (qint (qnth (q61 [(qget (qfld pd0 1) (qint (qget sd0 (qbin BinOp.sub IntKind.i64 (qlen sd0) 1)))), (D.int (qint (qget sd2 (qint (qget sd0 (qbin BinOp.sub IntKind.i64 (qlen sd0) 1))))))]) 0))), (qnth (q22 [(qget (qfld pd0 1) (qint (qget sd0 (qbin BinOp.sub IntKind.i64 (qlen sd0) 1))))]) 0), (D.int (qlen (qnth (q22 [(qget (qfld pd0 1) (qint (qget sd0 (qbin BinOp.sub IntKind.i64 (qlen sd0) 1))))]) 0))), pd0] [(D.int 0), (qsub sd0 0 (qbin BinOp.sub IntKind.i64 (qlen sd0) 1)), (qsub sd1 0 (qlen sd1)), (qsub sd2 0 (qlen sd2))]) 2) 0 (qlen (qnth (l28_11 [(D.int (qint (qnth (q61 [(qget (qfld pd0 1) (qint (qget sd0 (qbin BinOp.sub IntKind.i64 (qlen sd0) 1)))), (D.int (qint (qget sd2 (qint (qget sd0 (qbin BinOp.sub IntKind.i64 (qlen sd0) 1))))))]) 0))), (qnth (q22 [(qget (qfld pd0 1) (qint (qget sd0 (qbin BinOp.sub IntKind.i64 (qlen sd0) 1))))]) 0), (D.int (qlen (qnth (q22 [(qget (qfld pd0 1) (qint (qget sd0 (qbin BinOp.sub IntKind.i64 (qlen sd0) 1))))]) 0))), pd0] [(D.int 0), (qsub sd0 0 (qbin BinOp.sub IntKind.i64 (qlen sd0) 1)), (qsub sd1 0 (qlen sd1)), (qsub sd2 0 (qlen sd2))]) 2))))) then
    bif (qcmp BinOp.eql (qlen (qnth (l28_11 [(D.int (qint (qnth (q61 [(qget (qfld pd0 1) (qint (qget sd0 (qbin BinOp.sub IntKind.i64 (qlen sd0) 1)))), (D.int (qint (qget sd2 (qint (qget sd0 (qbin BinOp.sub IntKind.i64 (qlen sd0) 1))))))]) 0))), (qnth (q22 [(qget (qfld pd0 1) (qint (qget sd0 (qbin BinOp.sub IntKind.i64 (qlen sd0) 1))))]) 0), (D.int (qlen (qnth (q22 [(qget (qfld pd0 1) (qint (qget sd0 (qbin BinOp.sub IntKind.i64 (qlen sd0) 1))))]) 0))), pd0] [(D.int 0), (qsub sd0 0 (qbin BinOp.sub IntKind.i64 (qlen sd0) 1)), (qsub sd1 0 (qlen sd1)), (qsub sd2 0 (qlen sd2))]) 1)) (qlen (qsub (qnth (l28_11 [(D.int (qint (qnth (q61 [(qget (qfld pd0 1) (qint (qget sd0 (qbin BinOp.sub IntKind.i64 (qlen sd0) 1)))), (D.int (qint (qget sd2 (qint (qget sd0 (qbin BinOp.sub IntKind.i64 (qlen sd0) 1))))))]) 0))), (qnth (q22 [(qget (qfld pd0 1) (qint (qget sd0 (qbin BinOp.sub IntKind.i64 (qlen sd0) 1))))]) 0), (D.int (qlen (qnth (q22 [(qget (qfld pd0 1) (qint (qget sd0 (qbin BinOp.sub IntKind.i64 (qlen sd0) 1))))]) 0))), pd0] [(D.int 0), (qsub sd0 0 (qbin BinOp.sub IntKind.i64 (qlen sd0) 1)), (qsub sd1 0 (qlen sd1)), (qsub sd2 0 (qlen sd2))]) 1) 0 (qlen (qnth (l28_11 [(D.int (qint (qnth (q61 [(qget (qfld pd0 1) (qint (qget sd0 (qbin BinOp.sub IntKind.i64 (qlen sd0) 1)))), (D.int (qint (qget sd2 (qint (qget sd0 (qbin BinOp.sub IntKind.i64 (qlen sd0) 1))))))]) 0))), (qnth (q22 [(qget (qfld pd0 1) (qint (qget sd0 (qbin BinOp.sub IntKind.i64 (qlen sd0) 1))))]) 0), (D.int (qlen (qnth (q22 [(qget (qfld pd0 1) (qint (qget sd0 (qbin BinOp.sub IntKind.i64 (qlen sd0) 1))))]) 0))), pd0] [(D.int 0), (qsub sd0 0 (qbin BinOp.sub IntKind.i64 (qlen sd0) 1)), (qsub sd1 0 (qlen sd1)), (qsub sd2 0 (qlen sd2))]) 1))))) then
    bif (qeqD pd0 pd0) then
    some (Sum.inl [(qsub (qnth (l28_11 [(D.int (qint (qnth (q61 [(qget (qfld pd0 1) (qint (qget sd0 (qbin BinOp.sub IntKind.i64 (qlen sd0) 1)))), (D.int (qint (qget sd2 (qint (qget sd0 (qbin BinOp.sub IntKind.i64 (qlen sd0) 1))))))]) 0))), (qnth (q22 [(qget (qfld pd0 1) (qint (qget sd0 (qbin BinOp.sub IntKind.i64 (qlen sd0) 1))))]) 0), (D.int (qlen (qnth (q22 [(qget (qfld pd0 1) (qint (qget sd0 (qbin BinOp.sub IntKind.i64 (qlen sd0) 1))))]) 0))), pd0] [(D.int 0), (qsub sd0 0 (qbin BinOp.sub IntKind.i64 (qlen sd0) 1)), (qsub sd1 0 (qlen sd1)), (qsub sd2 0 (qlen sd2))]) 1) 0 (qlen (qnth (l28_11 [(D.int (qint (qnth (q61 [(qget (qfld pd0 1) (qint (qget sd0 (qbin BinOp.sub IntKind.i64 (qlen sd0) 1)))), (D.int (qint (qget sd2 (qint (qget sd0 (qbin BinOp.sub IntKind.i64 (qlen sd0) 1))))))]) 0))), (qnth (q22 [(qget (qfld pd0 1) (qint (qget sd0 (qbin BinOp.sub IntKind.i64 (qlen sd0) 1))))]) 0), (D.int (qlen (qnth (q22 [(qget (qfld pd0 1) (qint (qget sd0 (qbin BinOp.sub IntKind.i64 (qlen sd0) 1))))]) 0))), pd0] [(D.int 0), (qsub sd0 0 (qbin BinOp.sub IntKind.i64 (qlen sd0) 1)), (qsub sd1 0 (qlen sd1)), (qsub sd2 0 (qlen sd2))]) 1))), (qsub (qnth (l28_11 [(D.int (qint (qnth (q61 [(qget (qfld pd0 1) (qint (qget sd0 (qbin BinOp.sub IntKind.i64 (qlen sd0) 1)))), (D.int (qint (qget sd2 (qint (qget sd0 (qbin BinOp.sub IntKind.i64 (qlen sd0) 1))))))]) 0))), (qnth (q22 [(qget (qfld pd0 1) (qint (qget sd0 (qbin BinOp.sub IntKind.i64 (qlen sd0) 1))))]) 0), (D.int (qlen (qnth (q22 [(qget (qfld pd0 1) (qint (qget sd0 (qbin BinOp.sub IntKind.i64 (qlen sd0) 1))))]) 0))), pd0] [(D.int 0), (qsub sd0 0 (qbin BinOp.sub IntKind.i64 (qlen sd0) 1)), (qsub sd1 0 (qlen sd1)), (qsub sd2 0 (qlen sd2))]) 2) 0 (qlen (qnth (l28_11 [(D.int (qint (qnth (q61 [(qget (qfld pd0 1) (qint (qget sd0 (qbin BinOp.sub IntKind.i64 (qlen sd0) 1)))), (D.int (qint (qget sd2 (qint (qget sd0 (qbin BinOp.sub IntKind.i64 (qlen sd0) 1))))))]) 0))), (qnth (q22 [(qget (qfld pd0 1) (qint (qget sd0 (qbin BinOp.sub IntKind.i64 (qlen sd0) 1))))]) 0), (D.int (qlen (qnth (q22 [(qget (qfld pd0 1) (qint (qget sd0 (qbin BinOp.sub IntKind.i64 (qlen sd0) 1))))]) 0))), pd0] [(D.int 0), (qsub sd0 0 (qbin BinOp.sub IntKind.i64 (qlen sd0) 1)), (qsub sd1 0 (qlen sd1)), (qsub sd2 0 (qlen sd2))]) 2))), (qsub (qnth (l28_11 [(D.int (qint (qnth (q61 [(qget (qfld pd0 1) (qint (qget sd0 (qbin BinOp.sub IntKind.i64 (qlen sd0) 1)))), (D.int (qint (qget sd2 (qint (qget sd0 (qbin BinOp.sub IntKind.i64 (qlen sd0) 1))))))]) 0))), (qnth (q22 [(qget (qfld pd0 1) (qint (qget sd0 (qbin BinOp.sub IntKind.i64 (qlen sd0) 1))))]) 0), (D.int (qlen (qnth (q22 [(qget (qfld pd0 1) (qint (qget sd0 (qbin BinOp.sub IntKind.i64 (qlen sd0) 1))))]) 0))), pd0] [(D.int 0), (qsub sd0 0 (qbin BinOp.sub IntKind.i64 (qlen sd0) 1)), (qsub sd1 0 (qlen sd1)), (qsub sd2 0 (qlen sd2))]) 3) 0 (qlen (qnth (l28_11 [(D.int (qint (qnth (q61 [(qget (qfld pd0 1) (qint (qget sd0 (qbin BinOp.sub IntKind.i64 (qlen sd0) 1)))), (D.int (qint (qget sd2 (qint (qget sd0 (qbin BinOp.sub IntKind.i64 (qlen sd0) 1))))))]) 0))), (qnth (q22 [(qget (qfld pd0 1) (qint (qget sd0 (qbin BinOp.sub IntKind.i64 (qlen sd0) 1))))]) 0), (D.int (qlen (qnth (q22 [(qget (qfld pd0 1) (qint (qget sd0 (qbin BinOp.sub IntKind.i64 (qlen sd0) 1))))]) 0))), pd0] [(D.int 0), (qsub sd0 0 (qbin BinOp.sub IntKind.i64 (qlen sd0) 1)), (qsub sd1 0 (qlen sd1)), (qsub sd2 0 (qlen sd2))]) 3)))])
    else
    none
    else
    none
    else
    none
    else
    none
    else
    bif (qeqD pd0 pd0) then
    some (Sum.inr [(D.int 1)])
    else
    none
    else
    none
    else
    none
    else
    none
    else
    none
    else
    none
    else
    none
    else
    none
    else
    none
    else
    none
    else
    none
    else
    none
    else
    none
    else
    none
    else
    none
    else
    none
    else
    none
    else
    bif (qcmp BinOp.eql (qlen sd2) (qlen sd2)) then
    bif (qeqD pd0 pd0) then
    some (Sum.inr [(D.int 0), sd2])
    else
    none
    else
    none := by kernel_rfl
  rw [h]; simp only [qeqD_self, qeqI_self, qeq_len, show qcmp BinOp.eql 0 (qlen (D.list [])) = true from qeq_len [], show ∀ a, qcmp BinOp.eql 1 (qlen (D.list [a])) = true from fun a => qeq_len [a], show ∀ a b, qcmp BinOp.eql 2 (qlen (D.list [a, b])) = true from fun a b => qeq_len [a, b], show ∀ a b c, qcmp BinOp.eql 3 (qlen (D.list [a, b, c])) = true from fun a b c => qeq_len [a, b, c], show ∀ a b c d, qcmp BinOp.eql 4 (qlen (D.list [a, b, c, d])) = true from fun a b c d => qeq_len [a, b, c, d], cond_true]
noncomputable def l28_4 : List D → List D → Option (List D) := veil fun p s => loW (st28_4  p) s
theorem l28_4_eq : l28_4  = fun p s => loW (st28_4  p) s := veil_eq _
noncomputable def tbl28_4 : Tb := Tb.addL tbl28_11 28 4 S28_4.n0 (mkLp S28_4 (l28_4 ))
theorem ok_tbl28_4 : TbOk env (tbl28_4 ) := addLoopQ ok_tbl28_11 28 4 (by kernel_rfl) _ (l28_4_eq )
def S28 : FunS := ⟨[⟨true, (.dat 25)⟩], [], [⟨true, (.tup [(.rows 3), .bool])⟩], []⟩
noncomputable def F28 : List D → Option (List D) := liftX env tbl28_4 60 12 28 S28
theorem F28_eq  (sd0 : D) : F28  [sd0] =
    bif (qcmp BinOp.leq 0 (qlen (qfld sd0 1))) then
    bif (qcmp BinOp.leq (qlen (qfld sd0 1)) (qlen (qfld sd0 1))) then
    bif (qmem (qlen (qfld sd0 1)) 8) then
    bif (qcmp BinOp.leq 0 (qlen (qfld sd0 1))) then
    bif (qcmp BinOp.leq (qlen (qfld sd0 1)) (qlen (qfld sd0 1))) then
    bif (qmem (qlen (qfld sd0 1)) 1) then
    bif (qcmp BinOp.leq 0 0) then
    bif (qcmp BinOp.lss 0 (qlen (qfld sd0 1))) then
    bif (qinb (qrep (qlen (qfld sd0 1)) (D.bool Bool.false)) 0) then
    bif (qcmp BinOp.eql (qlen (qfld sd0 1)) (qlen (qsub (qrep (qlen (qfld sd0 1)) (D.int 0)) 0 (qlen (qfld sd0 1))))) then
    bif (qcmp BinOp.eql (qlen (qfld sd0 1)) (qlen (qsub (qset (qrep (qlen (qfld sd0 1)) (D.bool Bool.false)) 0 (D.bool Bool.true)) 0 (qlen (qfld sd0 1))))) then
    bif (qsome (l28_4 [sd0] [(D.list [(D.int 0)]), (qsub (qset (qrep (qlen (qfld sd0 1)) (D.bool Bool.false)) 0 (D.bool Bool.true)) 0 (qlen (qfld sd0 1))), (qsub (qrep (qlen (qfld sd0 1)) (D.int 0)) 0 (qlen (qfld sd0 1)))])) then
    bif (qcmp BinOp.eql (qint (qnth (l28_4 [sd0] [(D.list [(D.int 0)]), (qsub (qset (qrep (qlen (qfld sd0 1)) (D.bool Bool.false)) 0 (D.bool Bool.true)) 0 (qlen (qfld sd0 1))), (qsub (qrep (qlen (qfld sd0 1)) (D.int 0)) 0 (qlen (qfld sd0 1)))]) 0)) 0) then
    some [(qnth (l28_4 [sd0] [(D.list [(D.int 0)]), (qsub (qset (qrep (qlen (qfld sd0 1)) (D.bool Bool.false)) 0 (D.bool Bool.true)) 0 (qlen (qfld sd0 1))), (qsub (qrep (qlen (qfld sd0 1)) (D.int 0)) 0 (qlen (qfld sd0 1)))]) 1), (D.bool Bool.true)]
    else
    some [(D.list []), (D.bool Bool.false)]
    else
    none
    else
    none
    else
    none
    else
    none
    else
    none
    else
    none
    else
    none
    else
    none
    else
    none
    else
    none
    else
    none
    else
    none := by
  have h : F28  [sd0] =
    bif (qcmp BinOp.leq 0 (qlen (qfld sd0 1))) then
    bif (qcmp BinOp.leq (qlen (qfld sd0 1)) (qlen (qfld sd0 1))) then
    bif (qmem (qlen (qfld sd0 1)) 8) then
    bif (qcmp BinOp.leq 0 (qlen (qfld sd0 1))) then
    bif (qcmp BinOp.leq (qlen (qfld sd0 1)) (qlen (qfld sd0 1))) then
    bif (qmem (qlen (qfld sd0 1)) 1) then
    bif (qcmp BinOp.leq 0 0) then
    bif (qcmp BinOp.lss 0 (qlen (qfld sd0 1))) then
    bif (qinb (qrep (qlen (qfld sd0 1)) (D.bool Bool.false)) 0) then
    bif (qcmp BinOp.eql (qlen (qfld sd0 1)) (qlen (qsub (qrep (qlen (qfld sd0 1)) (D.int 0)) 0 (qlen (qfld sd0 1))))) then
    bif (qcmp BinOp.eql (qlen (qfld sd0 1)) (qlen (qsub (qset (qrep (qlen (qfld sd0 1)) (D.bool Bool.false)) 0 (D.bool Bool.true)) 0 (qlen (qfld sd0 1))))) then
    bif (qcmp BinOp.eql 1 (qlen (D.list [(D.int 0)]))) then
    bif (qsome (l28_4 [sd0] [(D.list [(D.int 0)]), (qsub (qset (qrep (qlen (qfld sd0 1)) (D.bool Bool.false)) 0 (D.bool Bool.true)) 0 (qlen (qfld sd0 1))), (qsub (qrep (qlen (qfld sd0 1)) (D.int 0)) 0 (qlen (qfld sd0 1)))])) then
    bif (qcmp BinOp.eql (qint (qnth (l28_4 [sd0] [(D.list [(D.int 0)]), (qsub (qset (qrep (qlen (qfld sd0 1)) (D.bool Bool.false)) 0 (D.bool Bool.true)) 0 (qlen (qfld sd0 1))), (qsub (qrep (qlen (qfld sd0 1)) (D.int 0)) 0 (qlen (qfld sd0 1)))]) 0)) 0) then
    bif (qcmp BinOp.eql (qlen (qnth (l28_4 [sd0] [(D.list [(D.int 0)]), (qsub (qset (qrep (qlen (qfld sd0 1)) (D.bool Bool.false)) 0 (D.bool Bool.true)) 0 (qlen (qfld sd0 1))), (qsub (qrep (qlen (qfld sd0 1)) (D.int 0)) 0 (qlen (qfld sd0 1)))]) 1)) (qlen (qnth (l28_4 [sd0] [(D.list [(D.int 0)]), (qsub (qset (qrep (qlen (qfld sd0 1)) (D.bool Bool.false)) 0 (D.bool Bool.true)) 0 (qlen (qfld sd0 1))), (qsub (qrep (qlen (qfld sd0 1)) (D.int 0)) 0 (qlen (qfld sd0 1)))]) 1))) then
    some [(qnth (l28_4 [sd0] [(D.list [(D.int 0)]), (qsub (qset (qrep (qlen (qfld sd0 1)) (D.bool Bool.false)) 0 (D.bool Bool.true)) 0 (qlen (qfld sd0 1))), (qsub (qrep (qlen (qfld sd0 1)) (D.int 0)) 0 (qlen (qfld sd0 1)))]) 1), (D.bool Bool.true)]
    else
    none
    else
    some [(D.list []), (D.bool Bool.false)]
    else
    none
    else
    none
    else
    none
    else
    none
    else
    none
    else
    none
    else
    none
    else
    none
    else
    none
    else
    none
    else
    none
    else
    none
    else
    none := by kernel_rfl
  rw [h]; simp only [qeqD_self, qeqI_self, qeq_len, show qcmp BinOp.eql 0 (qlen (D.list [])) = true from qeq_len [], show ∀ a, qcmp BinOp.eql 1 (qlen (D.list [a])) = true from fun a => qeq_len [a], show ∀ a b, qcmp BinOp.eql 2 (qlen (D.list [a, b])) = true from fun a b => qeq_len [a, b], show ∀ a b c, qcmp BinOp.eql 3 (qlen (D.list [a, b, c])) = true from fun a b c => qeq_len [a, b, c], show ∀ a b c d, qcmp BinOp.eql 4 (qlen (D.list [a, b, c, d])) = true from fun a b c d => qeq_len [a, b, c, d], cond_true]
noncomputable def q28 : List D → Option (List D) := veil (F28 )
theorem q28_eq : q28  = F28  := veil_eq _
noncomputable def tb28 : Tb := Tb.addF tbl28_4 28 S28 (q28 )
theorem ok_tb28 : TbOk env (tb28 ) := addFunF ok_tbl28_4 28 (by kernel_rfl) _ (q28_eq )
def S17 : FunS := ⟨[⟨true, (.dat 25)⟩], [], [⟨true, (.tup [(.rows 3), .bool])⟩], []⟩
noncomputable def F17 : List D → Option (List D) := liftX env tb28 60 12 17 S17
theorem F17_eq  (sd0 : D) : F17  [sd0] =
    bif (qsome (q19 [sd0])) then
    bif (qcmp BinOp.neq (qint (qnth (q19 [sd0]) 0)) 0) then
    some [(D.list []), (D.bool Bool.false)]
    else
    bif (qsome (q28 [sd0])) then
    some [(qnth (q28 [sd0]) 0), (D.bool (qbool (qnth (q28 [sd0]) 1)))]
    else
    none
    else
    none := by kernel_rfl
noncomputable def q17 : List D → Option (List D) := veil (F17 )
theorem q17_eq : q17  = F17  := veil_eq _
noncomputable def tb17 : Tb := Tb.addF tb28 17 S17 (q17 )
theorem ok_tb17 : TbOk env (tb17 ) := addFunF ok_tb28 17 (by kernel_rfl) _ (q17_eq )
end Go.Proofs.YtfdedgmlafelaaaGreatDoor
open Go Go.AM
namespace Go.Proofs.YtfdedgmlafelaaaGreatDoor
set_option maxRecDepth 100000
set_option linter.unusedSimpArgs false
set_option linter.unusedVariables false
def S18_13 : LoopS := ⟨0, [⟨false, .any⟩, ⟨false, (.ptr 0 0)⟩, ⟨false, (.lit (.slice none 0 0))⟩, ⟨false, (.lit (.bool false))⟩, ⟨false, (.osl 1 4)⟩, ⟨false, (.osl 2 3)⟩, ⟨false, (.osl 3 3)⟩, ⟨false, (.int .i64)⟩, ⟨false, (.int .i64)⟩, ⟨true, (.int .i64)⟩, ⟨true, (.int .i64)⟩, ⟨false, .any⟩, ⟨false, .any⟩, ⟨false, .any⟩, ⟨false, .any⟩, ⟨false, .any⟩, ⟨false, .any⟩, ⟨false, .any⟩, ⟨false, .any⟩, ⟨false, .any⟩, ⟨false, .any⟩, ⟨false, .any⟩, ⟨false, .any⟩, ⟨false, .any⟩, ⟨false, .any⟩, ⟨false, .any⟩, ⟨false, .any⟩, ⟨false, .any⟩, ⟨false, .any⟩, ⟨false, .any⟩, ⟨false, .any⟩, ⟨false, .any⟩, ⟨false, .any⟩, ⟨false, .any⟩, ⟨false, .any⟩, ⟨false, .any⟩, ⟨false, .any⟩, ⟨false, .any⟩, ⟨false, .any⟩, ⟨false, .any⟩, ⟨false, .any⟩, ⟨false, .any⟩, ⟨false, .any⟩, ⟨false, .any⟩, ⟨false, .any⟩, ⟨false, .any⟩, ⟨false, .any⟩, ⟨false, .any⟩, ⟨false, .any⟩, ⟨false, .any⟩, ⟨false, .any⟩, ⟨false, .any⟩, ⟨false, .any⟩, ⟨false, .any⟩, ⟨false, .any⟩, ⟨false, .any⟩, ⟨false, .any⟩, ⟨false, .any⟩, ⟨false, .any⟩, ⟨false, .any⟩, ⟨false, .any⟩, ⟨false, .any⟩, ⟨false, .any⟩, ⟨false, .any⟩, ⟨false, .any⟩, ⟨false, .any⟩, ⟨false, .any⟩, ⟨false, .any⟩, ⟨false, .any⟩, ⟨false, .any⟩, ⟨false, .any⟩, ⟨false, .any⟩, ⟨false, .any⟩, ⟨false, .any⟩, ⟨false, .any⟩, ⟨false, .any⟩, ⟨false, .any⟩, ⟨false, .any⟩, ⟨false, .any⟩, ⟨false, .any⟩, ⟨false, .any⟩, ⟨false, .any⟩, ⟨false, .any⟩, ⟨false, .any⟩, ⟨false, .any⟩, ⟨false, .any⟩, ⟨false, .any⟩, ⟨false, .any⟩, ⟨false, .any⟩, ⟨false, .any⟩, ⟨false, .any⟩, ⟨false, .any⟩, ⟨false, .any⟩, ⟨false, .any⟩, ⟨false, .any⟩, ⟨false, .any⟩, ⟨false, .any⟩, ⟨false, .any⟩, ⟨false, .any⟩, ⟨false, .any⟩, ⟨false, .any⟩, ⟨false, .any⟩, ⟨false, .any⟩, ⟨false, .any⟩, ⟨false, .any⟩, ⟨false, .any⟩, ⟨false, .any⟩, ⟨false, .any⟩, ⟨false, .any⟩, ⟨false, .any⟩, ⟨false, .any⟩, ⟨false, .any⟩, ⟨false, .any⟩, ⟨false, .any⟩, ⟨false, .any⟩, ⟨false, .any⟩, ⟨false, .any⟩, ⟨false, .any⟩, ⟨false, .any⟩, ⟨false, .any⟩, ⟨false, .any⟩, ⟨false, .any⟩, ⟨false, .any⟩, ⟨false, .any⟩, ⟨false, .any⟩, ⟨false, .any⟩, ⟨false, .any⟩, ⟨false, .any⟩, ⟨false, .any⟩, ⟨false, .any⟩], [(.lst false 3), (.lst false 3), (.lst false 4), (.dat false 25)], [⟨0, 2, [⟨true, .any⟩, ⟨true, (.ptr 0 0)⟩, ⟨true, (.lit (.slice none 0 0))⟩, ⟨true, (.lit (.bool false))⟩, ⟨true, (.osl 1 4)⟩, ⟨true, (.osl 2 3)⟩, ⟨true, (.osl 3 3)⟩, ⟨false, (.int .i64)⟩, ⟨false, (.int .i64)⟩, ⟨true, (.int .i64)⟩, ⟨true, .any⟩, ⟨true, .any⟩, ⟨true, .any⟩, ⟨true, .any⟩, ⟨true, .any⟩, ⟨true, .any⟩, ⟨true, .any⟩, ⟨true, .any⟩, ⟨true, .any⟩, ⟨true, .any⟩, ⟨true, .any⟩, ⟨true, .any⟩, ⟨true, .any⟩, ⟨true, .any⟩, ⟨true, .any⟩, ⟨true, .any⟩, ⟨true, .any⟩, ⟨true, .any⟩, ⟨true, .any⟩, ⟨true, .any⟩, ⟨true, .any⟩, ⟨true, .any⟩, ⟨true, .any⟩, ⟨true, .any⟩, ⟨true, .any⟩, ⟨true, .any⟩, ⟨true, .any⟩, ⟨true, .any⟩, ⟨true, .any⟩, ⟨true, .any⟩, ⟨true, .any⟩, ⟨true, .any⟩, ⟨true, .any⟩, ⟨true, .any⟩, ⟨true, .any⟩, ⟨true, .any⟩, ⟨true, .any⟩, ⟨true, .any⟩, ⟨true, .any⟩, ⟨true, .any⟩, ⟨true, .any⟩, ⟨true, .any⟩, ⟨true, .any⟩, ⟨true, .any⟩, ⟨true, .any⟩, ⟨true, .any⟩, ⟨true, .any⟩, ⟨true, .any⟩, ⟨true, .any⟩, ⟨true, .any⟩, ⟨true, .any⟩, ⟨true, .any⟩, ⟨true, .any⟩, ⟨true, .any⟩, ⟨true, .any⟩, ⟨true, .any⟩, ⟨true, .any⟩, ⟨true, .any⟩, ⟨true, .any⟩, ⟨true, .any⟩, ⟨true, .any⟩, ⟨true, .any⟩, ⟨true, .any⟩, ⟨true, .any⟩, ⟨true, .any⟩, ⟨true, .any⟩, ⟨true, .any⟩, ⟨true, .any⟩, ⟨true, .any⟩, ⟨true, .any⟩, ⟨true, .any⟩, ⟨true, .any⟩, ⟨true, .any⟩, ⟨true, .any⟩, ⟨true, .any⟩, ⟨true, .any⟩, ⟨true, .any⟩, ⟨true, .any⟩, ⟨true, .any⟩, ⟨true, .any⟩, ⟨true, .any⟩, ⟨true, .any⟩, ⟨true, .any⟩, ⟨true, .any⟩, ⟨true, .any⟩, ⟨true, .any⟩, ⟨true, .any⟩, ⟨true, .any⟩, ⟨true, .any⟩, ⟨true, .any⟩, ⟨true, .any⟩, ⟨true, .any⟩, ⟨true, .any⟩, ⟨true, .any⟩, ⟨true, .any⟩, ⟨true, .any⟩, ⟨true, .any⟩, ⟨true, .any⟩, ⟨true, .any⟩, ⟨true, .any⟩, ⟨true, .any⟩, ⟨true, .any⟩, ⟨true, .any⟩, ⟨true, .any⟩, ⟨true, .any⟩, ⟨true, .any⟩, ⟨true, .any⟩, ⟨true, .any⟩, ⟨true, .any⟩, ⟨true, .any⟩, ⟨true, .any⟩, ⟨true, .any⟩, ⟨true, .any⟩, ⟨true, .any⟩, ⟨true, .any⟩, ⟨true, .any⟩, ⟨true, .any⟩, ⟨true, .any⟩, ⟨true, .any⟩, ⟨true, .any⟩], [(.lst false 3), (.lst false 3), (.lst false 4), (.dat false 25)]⟩, ⟨1, 0, [⟨true, .any⟩, ⟨true, .any⟩, ⟨true, (.lit (.slice none 0 0))⟩, ⟨true, (.lit (.bool false))⟩, ⟨true, .any⟩, ⟨true, .any⟩, ⟨true, .any⟩, ⟨false, (.int .i64)⟩, ⟨false, (.int .i64)⟩, ⟨true, .any⟩, ⟨true, .any⟩, ⟨true, .any⟩, ⟨true, .any⟩, ⟨true, .any⟩, ⟨true, .any⟩, ⟨true, .any⟩, ⟨true, .any⟩, ⟨true, .any⟩, ⟨true, .any⟩, ⟨true, .any⟩, ⟨true, .any⟩, ⟨true, .any⟩, ⟨true, .any⟩, ⟨true, .any⟩, ⟨true, .any⟩, ⟨true, .any⟩, ⟨true, .any⟩, ⟨true, .any⟩, ⟨true, .any⟩, ⟨true, .any⟩, ⟨true, .any⟩, ⟨true, .any⟩, ⟨true, .any⟩, ⟨true, .any⟩, ⟨true, .any⟩, ⟨true, .any⟩, ⟨true, .any⟩, ⟨true, .any⟩, ⟨true, .any⟩, ⟨true, .any⟩, ⟨true, .any⟩, ⟨true, .any⟩, ⟨true, .any⟩, ⟨true, .any⟩, ⟨true, .any⟩, ⟨true, .any⟩, ⟨true, .any⟩, ⟨true, .any⟩, ⟨true, .any⟩, ⟨true, .any⟩, ⟨true, .any⟩, ⟨true, .any⟩, ⟨true, .any⟩, ⟨true, .any⟩, ⟨true, .any⟩, ⟨true, .any⟩, ⟨true, .any⟩, ⟨true, .any⟩, ⟨true, .any⟩, ⟨true, .any⟩, ⟨true, .any⟩, ⟨true, .any⟩, ⟨true, .any⟩, ⟨true, .any⟩, ⟨true, .any⟩, ⟨true, .any⟩, ⟨true, .any⟩, ⟨true, .any⟩, ⟨true, .any⟩, ⟨true, .any⟩, ⟨true, .any⟩, ⟨true, .any⟩, ⟨true, .any⟩, ⟨true, .any⟩, ⟨true, .any⟩, ⟨true, .any⟩, ⟨true, .any⟩, ⟨true, .any⟩, ⟨true, .any⟩, ⟨true, .any⟩, ⟨true, .any⟩, ⟨true, .any⟩, ⟨true, .any⟩, ⟨true, .any⟩, ⟨true, .any⟩, ⟨true, .any⟩, ⟨true, .any⟩, ⟨true, .any⟩, ⟨true, .any⟩, ⟨true, .any⟩, ⟨true, .any⟩, ⟨true, .any⟩, ⟨true, .any⟩, ⟨true, .any⟩, ⟨true, .any⟩, ⟨true, .any⟩, ⟨true, .any⟩, ⟨true, .any⟩, ⟨true, .any⟩, ⟨true, .any⟩, ⟨true, .any⟩, ⟨true, .any⟩, ⟨true, .any⟩, ⟨true, .any⟩, ⟨true, .any⟩, ⟨true, .any⟩, ⟨true, .any⟩, ⟨true, .any⟩, ⟨true, .any⟩, ⟨true, .any⟩, ⟨true, .any⟩, ⟨true, .any⟩, ⟨true, .any⟩, ⟨true, .any⟩, ⟨true, .any⟩, ⟨true, .any⟩, ⟨true, .any⟩, ⟨true, .any⟩, ⟨true, .any⟩, ⟨true, .any⟩, ⟨true, .any⟩, ⟨true, .any⟩, ⟨true, .any⟩, ⟨true, .any⟩, ⟨true, .any⟩, ⟨true, .any⟩, ⟨true, .any⟩, ⟨true, .any⟩, ⟨true, .any⟩, ⟨true, .any⟩], [(.lst false 3), (.lst false 3), (.lst false 4), (.dat false 25)]⟩]⟩
noncomputable def st18_13 (p s : List D) : Option (Sum (List D) (List D)) := stepQX env tb17 60 12 18 (loopC 18 13) S18_13 p s
theorem st18_13_eq (pn0 : Int) (pn1 : Int) (pd2 : D) (pd3 : D) (pd4 : D) (pd5 : D) (sn0 : Int) (sn1 : Int) : st18_13  [(D.int pn0), (D.int pn1), pd2, pd3, pd4, pd5] [(D.int sn0), (D.int sn1)] =
    bif (qinb (qfld pd5 1) pn1) then
    bif (qcmp BinOp.lss sn1 (qlen (qfld (qget (qfld pd5 1) pn1) 1))) then
    bif (qinb (qfld pd5 1) pn1) then
    bif (qinb (qfld (qget (qfld pd5 1) pn1) 1) sn1) then
    bif (qsome (q38 [(qget (qfld (qget (qfld pd5 1) pn1) 1) sn1), (D.int sn0)])) then
    bif (qnot (qbool (qnth (q38 [(qget (qfld (qget (qfld pd5 1) pn1) 1) sn1), (D.int sn0)]) 1))) then
    some (Sum.inr [(D.int 1)])
    else
    some (Sum.inl [(D.int (qint (qnth (q38 [(qget (qfld (qget (qfld pd5 1) pn1) 1) sn1), (D.int sn0)]) 0))), (D.int (qbin BinOp.add IntKind.i64 sn1 1))])
    else
    none
    else
    none
    else
    none
    else
    some (Sum.inr [(D.int 0), (D.int sn0)])
    else
    none := by
  have h : st18_13  [(D.int pn0), (D.int pn1), pd2, pd3, pd4, pd5] [(D.int sn0), (D.int sn1)] =
    bif (qinb (qfld pd5 1) pn1) then
    bif (qcmp BinOp.lss sn1 (qlen (qfld (qget (qfld pd5 1) pn1) 1))) then
    bif (qinb (qfld pd5 1) pn1) then
    bif (qinb (qfld (qget (qfld pd5 1) pn1) 1) sn1) then
    bif (qsome (q38 [(qget (qfld (qget (qfld pd5 1) pn1) 1) sn1), (D.int sn0)])) then
    bif (qnot (qbool (qnth (q38 [(qget (qfld (qget (qfld pd5 1) pn1) 1) sn1), (D.int sn0)]) 1))) then
    bif (qeqD (D.int pn0) (D.int pn0)) then
    bif (qeqD (D.int pn1) (D.int pn1)) then
    bif (qeqD pd2 pd2) then
    bif (qeqD pd3 pd3) then
    bif (qeqD pd4 pd4) then
    bif (qeqD pd5 pd5) then
    some (Sum.inr [(D.int 1)])
    else
    none
    else
    none
    else
    none
    else
    none
    else
    none
    else
    none
    else
    bif (qcmp BinOp.eql (qlen pd4) (qlen pd4)) then
    bif (qcmp BinOp.eql (qlen pd3) (qlen pd3)) then
    bif (qcmp BinOp.eql (qlen pd2) (qlen pd2)) then
    bif (qeqD (D.int pn0) (D.int pn0)) then
    bif (qeqD (D.int pn1) (D.int pn1)) then
    bif (qeqD pd2 pd2) then
    bif (qeqD pd3 pd3) then
    bif (qeqD pd4 pd4) then
    bif (qeqD pd5 pd5) then
    some (Sum.inl [(D.int (qint (qnth (q38 [(qget (qfld (qget (qfld pd5 1) pn1) 1) sn1), (D.int sn0)]) 0))), (D.int (qbin BinOp.add IntKind.i64 sn1 1))])
    else
    none
    else
    none
    else
    none
    else
    none
    else
    none
    else
    none
    else
    none
    else
    none
    else
    none
    else
    none
    else
    none
    else
    none
    else
    bif (qcmp BinOp.eql (qlen pd4) (qlen pd4)) then
    bif (qcmp BinOp.eql (qlen pd3) (qlen pd3)) then
    bif (qcmp BinOp.eql (qlen pd2) (qlen pd2)) then
    bif (qeqD (D.int pn0) (D.int pn0)) then
    bif (qeqD (D.int pn1) (D.int pn1)) then
    bif (qeqD pd2 pd2) then
    bif (qeqD pd3 pd3) then
    bif (qeqD pd4 pd4) then
    bif (qeqD pd5 pd5) then
    some (Sum.inr [(D.int 0), (D.int sn0)])
    else
    none
    else
    none
    else
    none
    else
    none
    else
    none
    else
    none
    else
    none
    else
    none
    else
    none
    else
    none := by kernel_rfl
  rw [h]; simp only [qeqD_self, qeqI_self, qeq_len, show qcmp BinOp.eql 0 (qlen (D.list [])) = true from qeq_len [], show ∀ a, qcmp BinOp.eql 1 (qlen (D.list [a])) = true from fun a => qeq_len [a], show ∀ a b, qcmp BinOp.eql 2 (qlen (D.list [a, b])) = true from fun a b => qeq_len [a, b], show ∀ a b c, qcmp BinOp.eql 3 (qlen (D.list [a, b, c])) = true from fun a b c => qeq_len [a, b, c], show ∀ a b c d, qcmp BinOp.eql 4 (qlen (D.list [a, b, c, d])) = true from fun a b c d => qeq_len [a, b, c, d], cond_true]
noncomputable def l18_13 : List D → List D → Option (List D) := veil fun p s => loW (st18_13  p) s
theorem l18_13_eq : l18_13  = fun p s => loW (st18_13  p) s := veil_eq _
noncomputable def tbl18_13 : Tb := Tb.addL tb17 18 13 S18_13.n0 (mkLp S18_13 (l18_13 ))
theorem ok_tbl18_13 : TbOk env (tbl18_13 ) := addLoopQ ok_tb17 18 13 (by kernel_rfl) _ (l18_13_eq )
def S18_21 : LoopS := ⟨0, [⟨false, .any⟩, ⟨false, (.ptr 0 0)⟩, ⟨false, (.lit (.slice none 0 0))⟩, ⟨false, (.lit (.bool false))⟩, ⟨false, (.osl 1 4)⟩, ⟨false, (.osl 2 3)⟩, ⟨false, (.osl 3 3)⟩, ⟨false, (.int .i64)⟩, ⟨false, .any⟩, ⟨false, (.int .i64)⟩, ⟨false, .any⟩, ⟨false, .any⟩, ⟨false, .any⟩, ⟨false, (.rows 3)⟩, ⟨true, (.int .i64)⟩, ⟨false, .any⟩, ⟨false, .any⟩, ⟨false, .any⟩, ⟨false, .any⟩, ⟨false, .any⟩, ⟨false, .any⟩, ⟨false, .any⟩, ⟨false, .any⟩, ⟨false, .any⟩, ⟨false, .any⟩, ⟨false, .any⟩, ⟨false, .any⟩, ⟨false, .any⟩, ⟨false, .any⟩, ⟨false, .any⟩, ⟨false, .any⟩, ⟨false, .any⟩, ⟨false, .any⟩, ⟨false, .any⟩, ⟨false, .any⟩, ⟨false, .any⟩, ⟨false, .any⟩, ⟨false, .any⟩, ⟨false, .any⟩, ⟨false, .any⟩, ⟨false, .any⟩, ⟨false, .any⟩, ⟨false, .any⟩, ⟨false, .any⟩, ⟨false, .any⟩, ⟨false, .any⟩, ⟨false, .any⟩, ⟨false, .any⟩, ⟨false, .any⟩, ⟨false, .any⟩, ⟨false, .any⟩, ⟨false, .any⟩, ⟨false, .any⟩, ⟨false, .any⟩, ⟨false, .any⟩, ⟨false, .any⟩, ⟨false, .any⟩, ⟨false, .any⟩, ⟨false, .any⟩, ⟨false, .any⟩, ⟨false, .any⟩, ⟨false, .any⟩, ⟨false, .any⟩, ⟨false, .any⟩, ⟨false, .any⟩, ⟨false, .any⟩, ⟨false, .any⟩, ⟨false, .any⟩, ⟨false, .any⟩, ⟨false, .any⟩, ⟨false, .any⟩, ⟨false, .any⟩, ⟨false, .any⟩, ⟨false, .any⟩, ⟨false, .any⟩, ⟨false, .any⟩, ⟨false, .any⟩, ⟨false, .any⟩, ⟨false, .any⟩, ⟨false, .any⟩, ⟨false, .any⟩, ⟨false, .any⟩, ⟨false, .any⟩, ⟨false, .any⟩, ⟨false, .any⟩, ⟨false, .any⟩, ⟨false, .any⟩, ⟨false, .any⟩, ⟨false, .any⟩, ⟨false, .any⟩, ⟨false, .any⟩, ⟨false, .any⟩, ⟨false, .any⟩, ⟨false, .any⟩, ⟨false, .any⟩, ⟨false, .any⟩, ⟨false, .any⟩, ⟨false, .any⟩, ⟨false, .any⟩, ⟨false, .any⟩, ⟨false, .any⟩, ⟨false, .any⟩, ⟨false, .any⟩, ⟨false, .any⟩, ⟨false, .any⟩, ⟨false, .any⟩, ⟨false, .any⟩, ⟨false, .any⟩, ⟨false, .any⟩, ⟨false, .any⟩, ⟨false, .any⟩, ⟨false, .any⟩, ⟨false, .any⟩, ⟨false, .any⟩, ⟨false, .any⟩, ⟨false, .any⟩, ⟨false, .any⟩, ⟨false, .any⟩, ⟨false, .any⟩, ⟨false, .any⟩, ⟨false, .any⟩, ⟨false, .any⟩, ⟨false, .any⟩, ⟨false, .any⟩, ⟨false, .any⟩, ⟨false, .any⟩, ⟨false, .any⟩, ⟨false, .any⟩, ⟨false, .any⟩, ⟨false, .any⟩], [(.lst true 3), (.lst true 3), (.lst true 4), (.dat false 25)], [⟨0, 4, [⟨true, .any⟩, ⟨true, (.ptr 0 0)⟩, ⟨true, (.lit (.slice none 0 0))⟩, ⟨true, (.lit (.bool false))⟩, ⟨true, (.osl 1 4)⟩, ⟨true, (.osl 2 3)⟩, ⟨true, (.osl 3 3)⟩, ⟨false, (.int .i64)⟩, ⟨true, .any⟩, ⟨false, (.int .i64)⟩, ⟨true, .any⟩, ⟨true, .any⟩, ⟨true, .any⟩, ⟨false, (.rows 3)⟩, ⟨true, .any⟩, ⟨true, .any⟩, ⟨true, .any⟩, ⟨true, .any⟩, ⟨true, .any⟩, ⟨true, .any⟩, ⟨true, .any⟩, ⟨true, .any⟩, ⟨true, .any⟩, ⟨true, .any⟩, ⟨true, .any⟩, ⟨true, .any⟩, ⟨true, .any⟩, ⟨true, .any⟩, ⟨true, .any⟩, ⟨true, .any⟩, ⟨true, .any⟩, ⟨true, .any⟩, ⟨true, .any⟩, ⟨true, .any⟩, ⟨true, .any⟩, ⟨true, .any⟩, ⟨true, .any⟩, ⟨true, .any⟩, ⟨true, .any⟩, ⟨true, .any⟩, ⟨true, .any⟩, ⟨true, .any⟩, ⟨true, .any⟩, ⟨true, .any⟩, ⟨true, .any⟩, ⟨true, .any⟩, ⟨true, .any⟩, ⟨true, .any⟩, ⟨true, .any⟩, ⟨true, .any⟩, ⟨true, .any⟩, ⟨true, .any⟩, ⟨true, .any⟩, ⟨true, .any⟩, ⟨true, .any⟩, ⟨true, .any⟩, ⟨true, .any⟩, ⟨true, .any⟩, ⟨true, .any⟩, ⟨true, .any⟩, ⟨true, .any⟩, ⟨true, .any⟩, ⟨true, .any⟩, ⟨true, .any⟩, ⟨true, .any⟩, ⟨true, .any⟩, ⟨true, .any⟩, ⟨true, .any⟩, ⟨true, .any⟩, ⟨true, .any⟩, ⟨true, .any⟩, ⟨true, .any⟩, ⟨true, .any⟩, ⟨true, .any⟩, ⟨true, .any⟩, ⟨true, .any⟩, ⟨true, .any⟩, ⟨true, .any⟩, ⟨true, .any⟩, ⟨true, .any⟩, ⟨true, .any⟩, ⟨true, .any⟩, ⟨true, .any⟩, ⟨true, .any⟩, ⟨true, .any⟩, ⟨true, .any⟩, ⟨true, .any⟩, ⟨true, .any⟩, ⟨true, .any⟩, ⟨true, .any⟩, ⟨true, .any⟩, ⟨true, .any⟩, ⟨true, .any⟩, ⟨true, .any⟩, ⟨true, .any⟩, ⟨true, .any⟩, ⟨true, .any⟩, ⟨true, .any⟩, ⟨true, .any⟩, ⟨true, .any⟩, ⟨true, .any⟩, ⟨true, .any⟩, ⟨true, .any⟩, ⟨true, .any⟩, ⟨true, .any⟩, ⟨true, .any⟩, ⟨true, .any⟩, ⟨true, .any⟩, ⟨true, .any⟩, ⟨true, .any⟩, ⟨true, .any⟩, ⟨true, .any⟩, ⟨true, .any⟩, ⟨true, .any⟩, ⟨true, .any⟩, ⟨true, .any⟩, ⟨true, .any⟩, ⟨true, .any⟩, ⟨true, .any⟩, ⟨true, .any⟩, ⟨true, .any⟩, ⟨true, .any⟩, ⟨true, .any⟩, ⟨true, .any⟩, ⟨true, .any⟩, ⟨true, .any⟩, ⟨true, .any⟩, ⟨true, .any⟩, ⟨true, .any⟩, ⟨true, .any⟩], [(.lst true 3), (.lst true 3), (.lst true 4), (.dat false 25)]⟩, ⟨1, 0, [⟨true, .any⟩, ⟨true, .any⟩, ⟨true, (.lit (.slice none 0 0))⟩, ⟨true, (.lit (.bool false))⟩, ⟨true, .any⟩, ⟨true, .any⟩, ⟨true, .any⟩, ⟨false, (.int .i64)⟩, ⟨true, .any⟩, ⟨false, (.int .i64)⟩, ⟨true, .any⟩, ⟨true, .any⟩, ⟨true, .any⟩, ⟨false, (.rows 3)⟩, ⟨true, .any⟩, ⟨true, .any⟩, ⟨true, .any⟩, ⟨true, .any⟩, ⟨true, .any⟩, ⟨true, .any⟩, ⟨true, .any⟩, ⟨true, .any⟩, ⟨true, .any⟩, ⟨true, .any⟩, ⟨true, .any⟩, ⟨true, .any⟩, ⟨true, .any⟩, ⟨true, .any⟩, ⟨true, .any⟩, ⟨true, .any⟩, ⟨true, .any⟩, ⟨true, .any⟩, ⟨true, .any⟩, ⟨true, .any⟩, ⟨true, .any⟩, ⟨true, .any⟩, ⟨true, .any⟩, ⟨true, .any⟩, ⟨true, .any⟩, ⟨true, .any⟩, ⟨true, .any⟩, ⟨true, .any⟩, ⟨true, .any⟩, ⟨true, .any⟩, ⟨true, .any⟩, ⟨true, .any⟩, ⟨true, .any⟩, ⟨true, .any⟩, ⟨true, .any⟩, ⟨true, .any⟩, ⟨true, .any⟩, ⟨true, .any⟩, ⟨true, .any⟩, ⟨true, .any⟩, ⟨true, .any⟩, ⟨true, .any⟩, ⟨true, .any⟩, ⟨true, .any⟩, ⟨true, .any⟩, ⟨true, .any⟩, ⟨true, .any⟩, ⟨true, .any⟩, ⟨true, .any⟩, ⟨true, .any⟩, ⟨true, .any⟩, ⟨true, .any⟩, ⟨true, .any⟩, ⟨true, .any⟩, ⟨true, .any⟩, ⟨true, .any⟩, ⟨true, .any⟩, ⟨true, .any⟩, ⟨true, .any⟩, ⟨true, .any⟩, ⟨true, .any⟩, ⟨true, .any⟩, ⟨true, .any⟩, ⟨true, .any⟩, ⟨true, .any⟩, ⟨true, .any⟩, ⟨true, .any⟩, ⟨true, .any⟩, ⟨true, .any⟩, ⟨true, .any⟩, ⟨true, .any⟩, ⟨true, .any⟩, ⟨true, .any⟩, ⟨true, .any⟩, ⟨true, .any⟩, ⟨true, .any⟩, ⟨true, .any⟩, ⟨true, .any⟩, ⟨true, .any⟩, ⟨true, .any⟩, ⟨true, .any⟩, ⟨true, .any⟩, ⟨true, .any⟩, ⟨true, .any⟩, ⟨true, .any⟩, ⟨true, .any⟩, ⟨true, .any⟩, ⟨true, .any⟩, ⟨true, .any⟩, ⟨true, .any⟩, ⟨true, .any⟩, ⟨true, .any⟩, ⟨true, .any⟩, ⟨true, .any⟩, ⟨true, .any⟩, ⟨true, .any⟩, ⟨true, .any⟩, ⟨true, .any⟩, ⟨true, .any⟩, ⟨true, .any⟩, ⟨true, .any⟩, ⟨true, .any⟩, ⟨true, .any⟩, ⟨true, .any⟩, ⟨true, .any⟩, ⟨true, .any⟩, ⟨true, .any⟩, ⟨true, .any⟩, ⟨true, .any⟩, ⟨true, .any⟩, ⟨true, .any⟩, ⟨true, .any⟩, ⟨true, .any⟩, ⟨true, .any⟩, ⟨true, .any⟩, ⟨true, .any⟩], [.skip, .skip, .skip, (.dat false 25)]⟩]⟩
noncomputable def st18_21 (p s : List D) : Option (Sum (List D) (List D)) := stepQX env tbl18_13 60 12 18 (loopC 18 21) S18_21 p s
theorem st18_21_eq (pn0 : Int) (pn1 : Int) (pd2 : D) (pd3 : D) (sn0 : Int) (sd1 : D) (sd2 : D) (sd3 : D) : st18_21  [(D.int pn0), (D.int pn1), pd2, pd3] [(D.int sn0), sd1, sd2, sd3] =
    bif (qcmp BinOp.lss sn0 (qlen pd2)) then
    bif (qinb pd2 sn0) then
    bif (qcmp BinOp.leq 0 (qint (qget pd2 sn0))) then
    bif (qcmp BinOp.lss (qint (qget pd2 sn0)) (qlen sd3)) then
    bif (qinb sd3 (qint (qget pd2 sn0))) then
    bif (qiteB (qbool (qget sd3 (qint (qget pd2 sn0)))) (qand (qinb pd2 sn0) (qand (qcmp BinOp.leq 0 (qint (qget pd2 sn0))) (qand (qcmp BinOp.lss (qint (qget pd2 sn0)) (qlen sd2)) (qinb sd2 (qint (qget pd2 sn0)))))) Bool.true) then
    bif (qiteB (qbool (qget sd3 (qint (qget pd2 sn0)))) (qcmp BinOp.neq (qint (qget sd2 (qint (qget pd2 sn0)))) pn1) Bool.false) then
    some (Sum.inr [(D.int 1)])
    else
    bif (qinb pd2 sn0) then
    bif (qcmp BinOp.leq 0 (qint (qget pd2 sn0))) then
    bif (qcmp BinOp.lss (qint (qget pd2 sn0)) (qlen sd3)) then
    bif (qinb sd3 (qint (qget pd2 sn0))) then
    bif (qnot (qbool (qget sd3 (qint (qget pd2 sn0))))) then
    bif (qinb pd2 sn0) then
    bif (qcmp BinOp.leq 0 (qint (qget pd2 sn0))) then
    bif (qcmp BinOp.lss (qint (qget pd2 sn0)) (qlen sd3)) then
    bif (qinb sd3 (qint (qget pd2 sn0))) then
    bif (qinb pd2 sn0) then
    bif (qcmp BinOp.leq 0 (qint (qget pd2 sn0))) then
    bif (qcmp BinOp.lss (qint (qget pd2 sn0)) (qlen sd2)) then
    bif (qinb sd2 (qint (qget pd2 sn0))) then
    bif (qinb pd2 sn0) then
    bif (qmem (qlen (qapp sd1 (D.list [(D.int (qint (qget pd2 sn0)))]))) 8) then
    bif (qcmp BinOp.eql (qlen sd3) (qlen (qset sd3 (qint (qget pd2 sn0)) (D.bool Bool.true)))) then
    bif (qcmp BinOp.eql (qlen sd2) (qlen (qset sd2 (qint (qget pd2 sn0)) (D.int pn1)))) then
    some (Sum.inl [(D.int (qbin BinOp.add IntKind.i64 sn0 1)), (qapp sd1 (D.list [(D.int (qint (qget pd2 sn0)))])), (qset sd2 (qint (qget pd2 sn0)) (D.int pn1)), (qset sd3 (qint (qget pd2 sn0)) (D.bool Bool.true))])
    else
    none
    else
    none
    else
    none
    else
    none
    else
    none
    else
    none
    else
    none
    else
    none
    else
    none
    else
    none
    else
    none
    else
    none
    else
    some (Sum.inl [(D.int (qbin BinOp.add IntKind.i64 sn0 1)), sd1, sd2, sd3])
    else
    none
    else
    none
    else
    none
    else
    none
    else
    none
    else
    none
    else
    none
    else
    none
    else
    none
    else
    some (Sum.inr [(D.int 0), sd1, sd2, sd3]) := by
  have h : st18_21  [(D.int pn0), (D.int pn1), pd2, pd3] [(D.int sn0), sd1, sd2, sd3] =
    bif (qcmp BinOp.lss sn0 (qlen pd2)) then
    bif (qinb pd2 sn0) then
    bif (qcmp BinOp.leq 0 (qint (qget pd2 sn0))) then
    bif (qcmp BinOp.lss (qint (qget pd2 sn0)) (qlen sd3)) then
    bif (qinb sd3 (qint (qget pd2 sn0))) then
    bif (qiteB (qbool (qget sd3 (qint (qget pd2 sn0)))) (qand (qinb pd2 sn0) (qand (qcmp BinOp.leq 0 (qint (qget pd2 sn0))) (qand (qcmp BinOp.lss (qint (qget pd2 sn0)) (qlen sd2)) (qinb sd2 (qint (qget pd2 sn0)))))) Bool.true) then
    bif (qiteB (qbool (qget sd3 (qint (qget pd2 sn0)))) (qcmp BinOp.neq (qint (qget sd2 (qint (qget pd2 sn0)))) pn1) Bool.false) then
    bif (qeqD (D.int pn0) (D.int pn0)) then
    bif (qeqD (D.int pn1) (D.int pn1)) then
    bif (qeqD pd2 pd2) then
    bif (qeqD pd3 pd3) then
    some (Sum.inr [(D.int 1)])
    else
    none
    else
    none
    else
    none
    else
    none
    else
    bif (qinb pd2 sn0) then
    bif (qcmp BinOp.leq 0 (qint (qget pd2 sn0))) then
    bif (qcmp BinOp.lss (qint (qget pd2 sn0)) (qlen sd3)) then
    bif (qinb sd3 (qint (qget pd2 sn0))) then
    bif (qnot (qbool (qget sd3 (qint (qget pd2 sn0))))) then
    bif (qinb pd2 sn0) then
    bif (qcmp BinOp.leq 0 (qint (qget pd2 sn0))) then
    bif (qcmp BinOp.lss (qint (qget pd2 sn0)) (qlen sd3)) then
    bif (qinb sd3 (qint (qget pd2 sn0))) then
    bif (qinb pd2 sn0) then
    bif (qcmp BinOp.leq 0 (qint (qget pd2 sn0))) then
    bif (qcmp BinOp.lss (qint (qget pd2 sn0)) (qlen sd2)) then
    bif (qinb sd2 (qint (qget pd2 sn0))) then
    bif (qinb pd2 sn0) then
    bif (qcmp BinOp.eql (qlen sd1) (qlen sd1)) then
    bif (qmem (qlen (qapp sd1 (D.list [(D.int (qint (qget pd2 sn0)))]))) 8) then
    bif (qcmp BinOp.eql (qlen sd3) (qlen (qset sd3 (qint (qget pd2 sn0)) (D.bool Bool.true)))) then
    bif (qcmp BinOp.eql (qlen sd2) (qlen (qset sd2 (qint (qget pd2 sn0)) (D.int pn1)))) then
    bif (qcmp BinOp.eql (qlen (qapp sd1 (D.list [(D.int (qint (qget pd2 sn0)))]))) (qlen (qapp sd1 (D.list [(D.int (qint (qget pd2 sn0)))])))) then
    bif (qeqD (D.int pn0) (D.int pn0)) then
    bif (qeqD (D.int pn1) (D.int pn1)) then
    bif (qeqD pd2 pd2) then
    bif (qeqD pd3 pd3) then
    some (Sum.inl [(D.int (qbin BinOp.add IntKind.i64 sn0 1)), (qapp sd1 (D.list [(D.int (qint (qget pd2 sn0)))])), (qset sd2 (qint (qget pd2 sn0)) (D.int pn1)), (qset sd3 (qint (qget pd2 sn0)) (D.bool Bool.true))])
    else
    none
    else
    none
    else
    none
    else
    none
    else
    none
    else
    none
    else
    none
    else
    none
    else
    none
    else
    none
    else
    none
    else
    none
    else
    none
    else
    none
    else
    none
    else
    none
    else
    none
    else
    none
    else
    bif (qcmp BinOp.eql (qlen sd3) (qlen sd3)) then
    bif (qcmp BinOp.eql (qlen sd2) (qlen sd2)) then
    bif (qcmp BinOp.eql (qlen sd1) (qlen sd1)) then
    bif (qeqD (D.int pn0) (D.int pn0)) then
    bif (qeqD (D.int pn1) (D.int pn1)) then
    bif (qeqD pd2 pd2) then
    bif (qeqD pd3 pd3) then
    some (Sum.inl [(D.int (qbin BinOp.add IntKind.i64 sn0 1)), sd1, sd2, sd3])
    else
    none
    else
    none
    else
    none
    else
    none
    else
    none
    else
    none
    else
    none
    else
    none
    else
    none
    else
    none
    else
    none
    else
    none
    else
    none
    else
    none
    else
    none
    else
    none
    else
    bif (qcmp BinOp.eql (qlen sd3) (qlen sd3)) then
    bif (qcmp BinOp.eql (qlen sd2) (qlen sd2)) then
    bif (qcmp BinOp.eql (qlen sd1) (qlen sd1)) then
    bif (qeqD (D.int pn0) (D.int pn0)) then
    bif (qeqD (D.int pn1) (D.int pn1)) then
    bif (qeqD pd2 pd2) then
    bif (qeqD pd3 pd3) then
    some (Sum.inr [(D.int 0), sd1, sd2, sd3])
    else
    none
    else
    none
    else
    none
    else
    none
    else
    none
    else
    none
    else
    none := by kernel_rfl
  rw [h]; simp only [qeqD_self, qeqI_self, qeq_len, show qcmp BinOp.eql 0 (qlen (D.list [])) = true from qeq_len [], show ∀ a, qcmp BinOp.eql 1 (qlen (D.list [a])) = true from fun a => qeq_len [a], show ∀ a b, qcmp BinOp.eql 2 (qlen (D.list [a, b])) = true from fun a b => qeq_len [a, b], show ∀ a b c, qcmp BinOp.eql 3 (qlen (D.list [a, b, c])) = true from fun a b c => qeq_len [a, b, c], show ∀ a b c d, qcmp BinOp.eql 4 (qlen (D.list [a, b, c, d])) = true from fun a b c d => qeq_len [a, b, c, d], cond_true]
noncomputable def l18_21 : List D → List D → Option (List D) := veil fun p s => loW (st18_21  p) s
theorem l18_21_eq : l18_21  = fun p s => loW (st18_21  p) s := veil_eq _
noncomputable def tbl18_21 : Tb := Tb.addL tbl18_13 18 21 S18_21.n0 (mkLp S18_21 (l18_21 ))
theorem ok_tbl18_21 : TbOk env (tbl18_21 ) := addLoopQ ok_tbl18_13 18 21 (by kernel_rfl) _ (l18_21_eq )
def S18_8 : LoopS := ⟨0, [⟨false, .any⟩, ⟨false, (.ptr 0 0)⟩, ⟨false, (.lit (.slice none 0 0))⟩, ⟨false, (.lit (.bool false))⟩, ⟨false, (.osl 1 4)⟩, ⟨false, (.osl 2 3)⟩, ⟨false, (.osl 3 3)⟩, ⟨true, (.int .i64)⟩, ⟨false, .any⟩, ⟨false, .any⟩, ⟨false, .any⟩, ⟨false, .any⟩, ⟨false, .any⟩, ⟨false, .any⟩, ⟨false, .any⟩, ⟨false, .any⟩, ⟨false, .any⟩, ⟨false, .any⟩, ⟨false, .any⟩, ⟨false, .any⟩, ⟨false, .any⟩, ⟨false, .any⟩, ⟨false, .any⟩, ⟨false, .any⟩, ⟨false, .any⟩, ⟨false, .any⟩, ⟨false, .any⟩, ⟨false, .any⟩, ⟨false, .any⟩, ⟨false, .any⟩, ⟨false, .any⟩, ⟨false, .any⟩, ⟨false, .any⟩, ⟨false, .any⟩, ⟨false, .any⟩, ⟨false, .any⟩, ⟨false, .any⟩, ⟨false, .any⟩, ⟨false, .any⟩, ⟨false, .any⟩, ⟨false, .any⟩, ⟨false, .any⟩, ⟨false, .any⟩, ⟨false, .any⟩, ⟨false, .any⟩, ⟨false, .any⟩, ⟨false, .any⟩, ⟨false, .any⟩, ⟨false, .any⟩, ⟨false, .any⟩, ⟨false, .any⟩, ⟨false, .any⟩, ⟨false, .any⟩, ⟨false, .any⟩, ⟨false, .any⟩, ⟨false, .any⟩, ⟨false, .any⟩, ⟨false, .any⟩, ⟨false, .any⟩, ⟨false, .any⟩, ⟨false, .any⟩, ⟨false, .any⟩, ⟨false, .any⟩, ⟨false, .any⟩, ⟨false, .any⟩, ⟨false, .any⟩, ⟨false, .any⟩, ⟨false, .any⟩, ⟨false, .any⟩, ⟨false, .any⟩, ⟨false, .any⟩, ⟨false, .any⟩, ⟨false, .any⟩, ⟨false, .any⟩, ⟨false, .any⟩, ⟨false, .any⟩, ⟨false, .any⟩, ⟨false, .any⟩, ⟨false, .any⟩, ⟨false, .any⟩, ⟨false, .any⟩, ⟨false, .any⟩, ⟨false, .any⟩, ⟨false, .any⟩, ⟨false, .any⟩, ⟨false, .any⟩, ⟨false, .any⟩, ⟨false, .any⟩, ⟨false, .any⟩, ⟨false, .any⟩, ⟨false, .any⟩, ⟨false, .any⟩, ⟨false, .any⟩, ⟨false, .any⟩, ⟨false, .any⟩, ⟨false, .any⟩, ⟨false, .any⟩, ⟨false, .any⟩, ⟨false, .any⟩, ⟨false, .any⟩, ⟨false, .any⟩, ⟨false, .any⟩, ⟨false, .any⟩, ⟨false, .any⟩, ⟨false, .any⟩, ⟨false, .any⟩, ⟨false, .any⟩, ⟨false, .any⟩, ⟨false, .any⟩, ⟨false, .any⟩, ⟨false, .any⟩, ⟨false, .any⟩, ⟨false, .any⟩, ⟨false, .any⟩, ⟨false, .any⟩, ⟨false, .any⟩, ⟨false, .any⟩, ⟨false, .any⟩, ⟨false, .any⟩, ⟨false, .any⟩, ⟨false, .any⟩, ⟨false, .any⟩, ⟨false, .any⟩, ⟨false, .any⟩, ⟨false, .any⟩, ⟨false, .any⟩, ⟨false, .any⟩, ⟨false, .any⟩, ⟨false, .any⟩, ⟨false, .any⟩], [(.lst true 3), (.lst true 3), (.lst true 4), (.dat false 25)], [⟨0, 0, [⟨true, .any⟩, ⟨true, .any⟩, ⟨true, (.lit (.slice none 0 0))⟩, ⟨true, (.lit (.bool false))⟩, ⟨true, .any⟩, ⟨true, (.osl 2 3)⟩, ⟨true, .any⟩, ⟨true, .any⟩, ⟨true, .any⟩, ⟨true, .any⟩, ⟨true, .any⟩, ⟨true, .any⟩, ⟨true, .any⟩, ⟨true, .any⟩, ⟨true, .any⟩, ⟨true, .any⟩, ⟨true, .any⟩, ⟨true, .any⟩, ⟨true, .any⟩, ⟨true, .any⟩, ⟨true, .any⟩, ⟨true, .any⟩, ⟨true, .any⟩, ⟨true, .any⟩, ⟨true, .any⟩, ⟨true, .any⟩, ⟨true, .any⟩, ⟨true, .any⟩, ⟨true, .any⟩, ⟨true, .any⟩, ⟨true, .any⟩, ⟨true, .any⟩, ⟨true, .any⟩, ⟨true, .any⟩, ⟨true, .any⟩, ⟨true, .any⟩, ⟨true, .any⟩, ⟨true, .any⟩, ⟨true, .any⟩, ⟨true, .any⟩, ⟨true, .any⟩, ⟨true, .any⟩, ⟨true, .any⟩, ⟨true, .any⟩, ⟨true, .any⟩, ⟨true, .any⟩, ⟨true, .any⟩, ⟨true, .any⟩, ⟨true, .any⟩, ⟨true, .any⟩, ⟨true, .any⟩, ⟨true, .any⟩, ⟨true, .any⟩, ⟨true, .any⟩, ⟨true, .any⟩, ⟨true, .any⟩, ⟨true, .any⟩, ⟨true, .any⟩, ⟨true, .any⟩, ⟨true, .any⟩, ⟨true, .any⟩, ⟨true, .any⟩, ⟨true, .any⟩, ⟨true, .any⟩, ⟨true, .any⟩, ⟨true, .any⟩, ⟨true, .any⟩, ⟨true, .any⟩, ⟨true, .any⟩, ⟨true, .any⟩, ⟨true, .any⟩, ⟨true, .any⟩, ⟨true, .any⟩, ⟨true, .any⟩, ⟨true, .any⟩, ⟨true, .any⟩, ⟨true, .any⟩, ⟨true, .any⟩, ⟨true, .any⟩, ⟨true, .any⟩, ⟨true, .any⟩, ⟨true, .any⟩, ⟨true, .any⟩, ⟨true, .any⟩, ⟨true, .any⟩, ⟨true, .any⟩, ⟨true, .any⟩, ⟨true, .any⟩, ⟨true, .any⟩, ⟨true, .any⟩, ⟨true, .any⟩, ⟨true, .any⟩, ⟨true, .any⟩, ⟨true, .any⟩, ⟨true, .any⟩, ⟨true, .any⟩, ⟨true, .any⟩, ⟨true, .any⟩, ⟨true, .any⟩, ⟨true, .any⟩, ⟨true, .any⟩, ⟨true, .any⟩, ⟨true, .any⟩, ⟨true, .any⟩, ⟨true, .any⟩, ⟨true, .any⟩, ⟨true, .any⟩, ⟨true, .any⟩, ⟨true, .any⟩, ⟨true, .any⟩, ⟨true, .any⟩, ⟨true, .any⟩, ⟨true, .any⟩, ⟨true, .any⟩, ⟨true, .any⟩, ⟨true, .any⟩, ⟨true, .any⟩, ⟨true, .any⟩, ⟨true, .any⟩, ⟨true, .any⟩, ⟨true, .any⟩, ⟨true, .any⟩, ⟨true, .any⟩, ⟨true, .any⟩, ⟨true, .any⟩, ⟨true, .any⟩, ⟨true, .any⟩, ⟨true, .any⟩, ⟨true, .any⟩, ⟨true, .any⟩], [.skip, (.lst true 3), .skip, (.dat false 25)]⟩, ⟨1, 0, [⟨true, .any⟩, ⟨true, .any⟩, ⟨true, (.lit (.slice none 0 0))⟩, ⟨true, (.lit (.bool false))⟩, ⟨true, .any⟩, ⟨true, .any⟩, ⟨true, .any⟩, ⟨true, .any⟩, ⟨true, .any⟩, ⟨true, .any⟩, ⟨true, .any⟩, ⟨true, .any⟩, ⟨true, .any⟩, ⟨true, .any⟩, ⟨true, .any⟩, ⟨true, .any⟩, ⟨true, .any⟩, ⟨true, .any⟩, ⟨true, .any⟩, ⟨true, .any⟩, ⟨true, .any⟩, ⟨true, .any⟩, ⟨true, .any⟩, ⟨true, .any⟩, ⟨true, .any⟩, ⟨true, .any⟩, ⟨true, .any⟩, ⟨true, .any⟩, ⟨true, .any⟩, ⟨true, .any⟩, ⟨true, .any⟩, ⟨true, .any⟩, ⟨true, .any⟩, ⟨true, .any⟩, ⟨true, .any⟩, ⟨true, .any⟩, ⟨true, .any⟩, ⟨true, .any⟩, ⟨true, .any⟩, ⟨true, .any⟩, ⟨true, .any⟩, ⟨true, .any⟩, ⟨true, .any⟩, ⟨true, .any⟩, ⟨true, .any⟩, ⟨true, .any⟩, ⟨true, .any⟩, ⟨true, .any⟩, ⟨true, .any⟩, ⟨true, .any⟩, ⟨true, .any⟩, ⟨true, .any⟩, ⟨true, .any⟩, ⟨true, .any⟩, ⟨true, .any⟩, ⟨true, .any⟩, ⟨true, .any⟩, ⟨true, .any⟩, ⟨true, .any⟩, ⟨true, .any⟩, ⟨true, .any⟩, ⟨true, .any⟩, ⟨true, .any⟩, ⟨true, .any⟩, ⟨true, .any⟩, ⟨true, .any⟩, ⟨true, .any⟩, ⟨true, .any⟩, ⟨true, .any⟩, ⟨true, .any⟩, ⟨true, .any⟩, ⟨true, .any⟩, ⟨true, .any⟩, ⟨true, .any⟩, ⟨true, .any⟩, ⟨true, .any⟩, ⟨true, .any⟩, ⟨true, .any⟩, ⟨true, .any⟩, ⟨true, .any⟩, ⟨true, .any⟩, ⟨true, .any⟩, ⟨true, .any⟩, ⟨true, .any⟩, ⟨true, .any⟩, ⟨true, .any⟩, ⟨true, .any⟩, ⟨true, .any⟩, ⟨true, .any⟩, ⟨true, .any⟩, ⟨true, .any⟩, ⟨true, .any⟩, ⟨true, .any⟩, ⟨true, .any⟩, ⟨true, .any⟩, ⟨true, .any⟩, ⟨true, .any⟩, ⟨true, .any⟩, ⟨true, .any⟩, ⟨true, .any⟩, ⟨true, .any⟩, ⟨true, .any⟩, ⟨true, .any⟩, ⟨true, .any⟩, ⟨true, .any⟩, ⟨true, .any⟩, ⟨true, .any⟩, ⟨true, .any⟩, ⟨true, .any⟩, ⟨true, .any⟩, ⟨true, .any⟩, ⟨true, .any⟩, ⟨true, .any⟩, ⟨true, .any⟩, ⟨true, .any⟩, ⟨true, .any⟩, ⟨true, .any⟩, ⟨true, .any⟩, ⟨true, .any⟩, ⟨true, .any⟩, ⟨true, .any⟩, ⟨true, .any⟩, ⟨true, .any⟩, ⟨true, .any⟩, ⟨true, .any⟩, ⟨true, .any⟩, ⟨true, .any⟩, ⟨true, .any⟩, ⟨true, .any⟩, ⟨true, .any⟩], [.skip, .skip, .skip, (.dat false 25)]⟩]⟩
noncomputable def st18_8 (p s : List D) : Option (Sum (List D) (List D)) := stepQX env tbl18_21 60 12 18 (loopC 18 8) S18_8 p s
theorem st18_8_eq (pd0 : D) (sn0 : Int) (sd1 : D) (sd2 : D) (sd3 : D) : st18_8  [pd0] [(D.int sn0), sd1, sd2, sd3] =
    bif (qcmp BinOp.lss sn0 (qlen sd1)) then
    bif (qcmp BinOp.leq 0 sn0) then
    bif (qcmp BinOp.lss sn0 (qlen sd1)) then
    bif (qinb sd1 sn0) then
    bif (qcmp BinOp.leq 0 (qint (qget sd1 sn0))) then
    bif (qcmp BinOp.lss (qint (qget sd1 sn0)) (qlen sd2)) then
    bif (qinb sd2 (qint (qget sd1 sn0))) then
    bif (qsome (l18_13 [(D.int sn0), (D.int (qint (qget sd1 sn0))), sd1, sd2, sd3, pd0] [(D.int (qint (qget sd2 (qint (qget sd1 sn0))))), (D.int 0)])) then
    bif (qcmp BinOp.eql (qint (qnth (l18_13 [(D.int sn0), (D.int (qint (qget sd1 sn0))), sd1, sd2, sd3, pd0] [(D.int (qint (qget sd2 (qint (qget sd1 sn0))))), (D.int 0)]) 0)) 0) then
    bif (qinb (qfld pd0 1) (qint (qget sd1 sn0))) then
    bif (qsome (q48 [(qget (qfld pd0 1) (qint (qget sd1 sn0)))])) then
    bif (qsome (l18_21 [(D.int sn0), (D.int (qint (qnth (l18_13 [(D.int sn0), (D.int (qint (qget sd1 sn0))), sd1, sd2, sd3, pd0] [(D.int (qint (qget sd2 (qint (qget sd1 sn0))))), (D.int 0)]) 1))), (qnth (q48 [(qget (qfld pd0 1) (qint (qget sd1 sn0)))]) 0), pd0] [(D.int 0), sd1, sd2, sd3])) then
    bif (qcmp BinOp.eql (qint (qnth (l18_21 [(D.int sn0), (D.int (qint (qnth (l18_13 [(D.int sn0), (D.int (qint (qget sd1 sn0))), sd1, sd2, sd3, pd0] [(D.int (qint (qget sd2 (qint (qget sd1 sn0))))), (D.int 0)]) 1))), (qnth (q48 [(qget (qfld pd0 1) (qint (qget sd1 sn0)))]) 0), pd0] [(D.int 0), sd1, sd2, sd3]) 0)) 0) then
    some (Sum.inl [(D.int (qbin BinOp.add IntKind.i64 sn0 1)), (qnth (l18_21 [(D.int sn0), (D.int (qint (qnth (l18_13 [(D.int sn0), (D.int (qint (qget sd1 sn0))), sd1, sd2, sd3, pd0] [(D.int (qint (qget sd2 (qint (qget sd1 sn0))))), (D.int 0)]) 1))), (qnth (q48 [(qget (qfld pd0 1) (qint (qget sd1 sn0)))]) 0), pd0] [(D.int 0), sd1, sd2, sd3]) 1), (qnth (l18_21 [(D.int sn0), (D.int (qint (qnth (l18_13 [(D.int sn0), (D.int (qint (qget sd1 sn0))), sd1, sd2, sd3, pd0] [(D.int (qint (qget sd2 (qint (qget sd1 sn0))))), (D.int 0)]) 1))), (qnth (q48 [(qget (qfld pd0 1) (qint (qget sd1 sn0)))]) 0), pd0] [(D.int 0), sd1, sd2, sd3]) 2), (qnth (l18_21 [(D.int sn0), (D.int (qint (qnth (l18_13 [(D.int sn0), (D.int (qint (qget sd1 sn0))), sd1, sd2, sd3, pd0] [(D.int (qint (qget sd2 (qint (qget sd1 sn0))))), (D.int 0)]) 1))), (qnth (q48 [(qget (qfld pd0 1) (qint (qget sd1 sn0)))]) 0), pd0] [(D.int 0), sd1, sd2, sd3]) 3)])
    else
    some (Sum.inr [(D.int 1)])
    else
    none
    else
    none
    else
    none
    else
    some (Sum.inr [(D.int 1)])
    else
    none
    else
    none
    else
    none
    else
    none
    else
    none
    else
    none
    else
    none
    else
    some (Sum.inr [(D.int 0), sd2]) := by
  have h : st18_8  [pd0] [(D.int sn0), sd1, sd2, sd3] =
    bif (qcmp BinOp.lss sn0 (qlen sd1)) then
    bif (qcmp BinOp.leq 0 sn0) then
    bif (qcmp BinOp.lss sn0 (qlen sd1)) then
    bif (qinb sd1 sn0) then
    bif (qcmp BinOp.leq 0 (qint (qget sd1 sn0))) then
    bif (qcmp BinOp.lss (qint (qget sd1 sn0)) (qlen sd2)) then
    bif (qinb sd2 (qint (qget sd1 sn0))) then
    bif (qcmp BinOp.eql (qlen sd3) (qlen sd3)) then
    bif (qcmp BinOp.eql (qlen sd2) (qlen sd2)) then
    bif (qcmp BinOp.eql (qlen sd1) (qlen sd1)) then
    bif (qsome (l18_13 [(D.int sn0), (D.int (qint (qget sd1 sn0))), sd1, sd2, sd3, pd0] [(D.int (qint (qget sd2 (qint (qget sd1 sn0))))), (D.int 0)])) then
    bif (qcmp BinOp.eql (qint (qnth (l18_13 [(D.int sn0), (D.int (qint (qget sd1 sn0))), sd1, sd2, sd3, pd0] [(D.int (qint (qget sd2 (qint (qget sd1 sn0))))), (D.int 0)]) 0)) 0) then
    bif (qinb (qfld pd0 1) (qint (qget sd1 sn0))) then
    bif (qsome (q48 [(qget (qfld pd0 1) (qint (qget sd1 sn0)))])) then
    bif (qcmp BinOp.eql (qlen sd3) (qlen sd3)) then
    bif (qcmp BinOp.eql (qlen sd2) (qlen sd2)) then
    bif (qcmp BinOp.eql (qlen sd1) (qlen sd1)) then
    bif (qsome (l18_21 [(D.int sn0), (D.int (qint (qnth (l18_13 [(D.int sn0), (D.int (qint (qget sd1 sn0))), sd1, sd2, sd3, pd0] [(D.int (qint (qget sd2 (qint (qget sd1 sn0))))), (D.int 0)]) 1))), (qnth (q48 [(qget (qfld pd0 1) (qint (qget sd1 sn0)))]) 0), pd0] [(D.int 0), sd1, sd2, sd3])) then
    bif (qcmp BinOp.eql (qint (qnth (l18_21 [(D.int sn0), (D.int (qint (qnth (l18_13 [(D.int sn0), (D.int (qint (qget sd1 sn0))), sd1, sd2, sd3, pd0] [(D.int (qint (qget sd2 (qint (qget sd1 sn0))))), (D.int 0)]) 1))), (qnth (q48 [(qget (qfld pd0 1) (qint (qget sd1 sn0)))]) 0), pd0] [(D.int 0), sd1, sd2, sd3]) 0)) 0) then
    bif (qcmp BinOp.eql (qlen (qnth (l18_21 [(D.int sn0), (D.int (qint (qnth (l18_13 [(D.int sn0), (D.int (qint (qget sd1 sn0))), sd1, sd2, sd3, pd0] [(D.int (qint (qget sd2 (qint (qget sd1 sn0))))), (D.int 0)]) 1))), (qnth (q48 [(qget (qfld pd0 1) (qint (qget sd1 sn0)))]) 0), pd0] [(D.int 0), sd1, sd2, sd3]) 3)) (qlen (qnth (l18_21 [(D.int sn0), (D.int (qint (qnth (l18_13 [(D.int sn0), (D.int (qint (qget sd1 sn0))), sd1, sd2, sd3, pd0] [(D.int (qint (qget sd2 (qint (qget sd1 sn0))))), (D.int 0)]) 1))), (qnth (q48 [(qget (qfld pd0 1) (qint (qget sd1 sn0)))]) 0), pd0] [(D.int 0), sd1, sd2, sd3]) 3))) then
    bif (qcmp BinOp.eql (qlen (qnth (l18_21 [(D.int sn0), (D.int (qint (qnth (l18_13 [(D.int sn0), (D.int (qint (qget sd1 sn0))), sd1, sd2, sd3, pd0] [(D.int (qint (qget sd2 (qint (qget sd1 sn0))))), (D.int 0)]) 1))), (qnth (q48 [(qget (qfld pd0 1) (qint (qget sd1 sn0)))]) 0), pd0] [(D.int 0), sd1, sd2, sd3]) 2)) (qlen (qnth (l18_21 [(D.int sn0), (D.int (qint (qnth (l18_13 [(D.int sn0), (D.int (qint (qget sd1 sn0))), sd1, sd2, sd3, pd0] [(D.int (qint (qget sd2 (qint (qget sd1 sn0))))), (D.int 0)]) 1))), (qnth (q48 [(qget (qfld pd0 1) (qint (qget sd1 sn0)))]) 0), pd0] [(D.int 0), sd1, sd2, sd3]) 2))) then
    bif (qcmp BinOp.eql (qlen (qnth (l18_21 [(D.int sn0), (D.int (qint (qnth (l18_13 [(D.int sn0), (D.int (qint (qget sd1 sn0))), sd1, sd2, sd3, pd0] [(D.int (qint (qget sd2 (qint (qget sd1 sn0))))), (D.int 0)]) 1))), (qnth (q48 [(qget (qfld pd0 1) (qint (qget sd1 sn0)))]) 0), pd0] [(D.int 0), sd1, sd2, sd3]) 1)) (qlen (qnth (l18_21 [(D.int sn0), (D.int (qint (qnth (l18_13 [(D.int sn0), (D.int (qint (qget sd1 sn0))), sd1, sd2, sd3, pd0] [(D.int (qint (qget sd2 (qint (qget sd1 sn0))))), (D.int 0)]) 1))), (qnth (q48 [(qget (qfld pd0 1) (qint (qget sd1 sn0)))]) 0), pd0] [(D.int 0), sd1, sd2, sd3]) 1))) then
    bif (qeqD pd0 pd0) then
    some (Sum.inl [(D.int (qbin BinOp.add IntKind.i64 sn0 1)), (qnth (l18_21 [(D.int sn0), (D.int (qint (qnth (l18_13 [(D.int sn0), (D.int (qint (qget sd1 sn0))), sd1, sd2, sd3, pd0] [(D.int (qint (qget sd2 (qint (qget sd1 sn0))))), (D.int 0)]) 1))), (qnth (q48 [(qget (qfld pd0 1) (qint (qget sd1 sn0)))]) 0), pd0] [(D.int 0), sd1, sd2, sd3]) 1), (qnth (l18_21 [(D.int sn0), (D.int (qint (qnth (l18_13 [(D.int sn0), (D.int (qint (qget sd1 sn0))), sd1, sd2, sd3, pd0] [(D.int (qint (qget sd2 (qint (qget sd1 sn0))))), (D.int 0)]) 1))), (qnth (q48 [(qget (qfld pd0 1) (qint (qget sd1 sn0)))]) 0), pd0] [(D.int 0), sd1, sd2, sd3]) 2), (qnth (l18_21 [(D.int sn0), (D.int (qint (qnth (l18_13 [(D.int sn0), (D.int (qint (qget sd1 sn0))), sd1, sd2, sd3, pd0] [(D.int (qint (qget sd2 (qint (qget sd1 sn0))))), (D.int 0)]) 1))), (qnth (q48 [(qget (qfld pd0 1) (qint (qget sd1 sn0)))]) 0), pd0] [(D.int 0), sd1, sd2, sd3]) 3)])
    else
    none
    else
    none
    else
    none
    else
    none
    else
    bif (qeqD pd0 pd0) then
    some (Sum.inr [(D.int 1)])
    else
    none
    else
    none
    else
    none
    else
    none
    else
    none
    else
    none
    else
    none
    else
    bif (qeqD pd0 pd0) then
    some (Sum.inr [(D.int 1)])
    else
    none
    else
    none
    else
    none
    else
    none
    else
    none
    else
    none
    else
    none
    else
    none
    else
    none
    else
    none
    else
    none
    else
    bif (qcmp BinOp.eql (qlen sd2) (qlen sd2)) then
    bif (qeqD pd0 pd0) then
    some (Sum.inr [(D.int 0), sd2])
    else
    none
    else
    none := by kernel_rfl
  rw [h]; simp only [qeqD_self, qeqI_self, qeq_len, show qcmp BinOp.eql 0 (qlen (D.list [])) = true from qeq_len [], show ∀ a, qcmp BinOp.eql 1 (qlen (D.list [a])) = true from fun a => qeq_len [a], show ∀ a b, qcmp BinOp.eql 2 (qlen (D.list [a, b])) = true from fun a b => qeq_len [a, b], show ∀ a b c, qcmp BinOp.eql 3 (qlen (D.list [a, b, c])) = true from fun a b c => qeq_len [a, b, c], show ∀ a b c d, qcmp BinOp.eql 4 (qlen (D.list [a, b, c, d])) = true from fun a b c d => qeq_len [a, b, c, d], cond_true]
noncomputable def l18_8 : List D → List D → Option (List D) := veil fun p s => loW (st18_8  p) s
theorem l18_8_eq : l18_8  = fun p s => loW (st18_8  p) s := veil_eq _
noncomputable def tbl18_8 : Tb := Tb.addL tbl18_21 18 8 S18_8.n0 (mkLp S18_8 (l18_8 ))
theorem ok_tbl18_8 : TbOk env (tbl18_8 ) := addLoopQ ok_tbl18_21 18 8 (by kernel_rfl) _ (l18_8_eq )
def S18 : FunS := ⟨[⟨true, (.dat 25)⟩], [], [⟨true, (.tup [(.rows 3), .bool])⟩], []⟩
noncomputable def F18 : List D → Option (List D) := liftX env tbl18_8 60 12 18 S18
theorem F18_eq  (sd0 : D) : F18  [sd0] =
    bif (qsome (q35 [sd0])) then
    bif (qcmp BinOp.neq (qint (qnth (q35 [sd0]) 0)) 0) then
    some [(D.list []), (D.bool Bool.false)]
    else
    bif (qcmp BinOp.leq 0 (qlen (qfld sd0 1))) then
    bif (qcmp BinOp.leq (qlen (qfld sd0 1)) (qlen (qfld sd0 1))) then
    bif (qmem (qlen (qfld sd0 1)) 1) then
    bif (qcmp BinOp.leq 0 (qlen (qfld sd0 1))) then
    bif (qcmp BinOp.leq (qlen (qfld sd0 1)) (qlen (qfld sd0 1))) then
    bif (qmem (qlen (qfld sd0 1)) 8) then
    bif (qcmp BinOp.leq 0 0) then
    bif (qcmp BinOp.lss 0 (qlen (qfld sd0 1))) then
    bif (qinb (qrep (qlen (qfld sd0 1)) (D.bool Bool.false)) 0) then
    bif (qcmp BinOp.eql (qlen (qfld sd0 1)) (qlen (qset (qrep (qlen (qfld sd0 1)) (D.bool Bool.false)) 0 (D.bool Bool.true)))) then
    bif (qcmp BinOp.eql (qlen (qfld sd0 1)) (qlen (qrep (qlen (qfld sd0 1)) (D.int 0)))) then
    bif (qsome (l18_8 [sd0] [(D.int 0), (D.list [(D.int 0)]), (qrep (qlen (qfld sd0 1)) (D.int 0)), (qset (qrep (qlen (qfld sd0 1)) (D.bool Bool.false)) 0 (D.bool Bool.true))])) then
    bif (qcmp BinOp.eql (qint (qnth (l18_8 [sd0] [(D.int 0), (D.list [(D.int 0)]), (qrep (qlen (qfld sd0 1)) (D.int 0)), (qset (qrep (qlen (qfld sd0 1)) (D.bool Bool.false)) 0 (D.bool Bool.true))]) 0)) 0) then
    some [(qnth (l18_8 [sd0] [(D.int 0), (D.list [(D.int 0)]), (qrep (qlen (qfld sd0 1)) (D.int 0)), (qset (qrep (qlen (qfld sd0 1)) (D.bool Bool.false)) 0 (D.bool Bool.true))]) 1), (D.bool Bool.true)]
    else
    some [(D.list []), (D.bool Bool.false)]
    else
    none
    else
    none
    else
    none
    else
    none
    else
    none
    else
    none
    else
    none
    else
    none
    else
    none
    else
    none
    else
    none
    else
    none
    else
    none := by
  have h : F18  [sd0] =
    bif (qsome (q35 [sd0])) then
    bif (qcmp BinOp.neq (qint (qnth (q35 [sd0]) 0)) 0) then
    some [(D.list []), (D.bool Bool.false)]
    else
    bif (qcmp BinOp.leq 0 (qlen (qfld sd0 1))) then
    bif (qcmp BinOp.leq (qlen (qfld sd0 1)) (qlen (qfld sd0 1))) then
    bif (qmem (qlen (qfld sd0 1)) 1) then
    bif (qcmp BinOp.leq 0 (qlen (qfld sd0 1))) then
    bif (qcmp BinOp.leq (qlen (qfld sd0 1)) (qlen (qfld sd0 1))) then
    bif (qmem (qlen (qfld sd0 1)) 8) then
    bif (qcmp BinOp.leq 0 0) then
    bif (qcmp BinOp.lss 0 (qlen (qfld sd0 1))) then
    bif (qinb (qrep (qlen (qfld sd0 1)) (D.bool Bool.false)) 0) then
    bif (qcmp BinOp.eql (qlen (qfld sd0 1)) (qlen (qset (qrep (qlen (qfld sd0 1)) (D.bool Bool.false)) 0 (D.bool Bool.true)))) then
    bif (qcmp BinOp.eql (qlen (qfld sd0 1)) (qlen (qrep (qlen (qfld sd0 1)) (D.int 0)))) then
    bif (qcmp BinOp.eql 1 (qlen (D.list [(D.int 0)]))) then
    bif (qsome (l18_8 [sd0] [(D.int 0), (D.list [(D.int 0)]), (qrep (qlen (qfld sd0 1)) (D.int 0)), (qset (qrep (qlen (qfld sd0 1)) (D.bool Bool.false)) 0 (D.bool Bool.true))])) then
    bif (qcmp BinOp.eql (qint (qnth (l18_8 [sd0] [(D.int 0), (D.list [(D.int 0)]), (qrep (qlen (qfld sd0 1)) (D.int 0)), (qset (qrep (qlen (qfld sd0 1)) (D.bool Bool.false)) 0 (D.bool Bool.true))]) 0)) 0) then
    bif (qcmp BinOp.eql (qlen (qnth (l18_8 [sd0] [(D.int 0), (D.list [(D.int 0)]), (qrep (qlen (qfld sd0 1)) (D.int 0)), (qset (qrep (qlen (qfld sd0 1)) (D.bool Bool.false)) 0 (D.bool Bool.true))]) 1)) (qlen (qnth (l18_8 [sd0] [(D.int 0), (D.list [(D.int 0)]), (qrep (qlen (qfld sd0 1)) (D.int 0)), (qset (qrep (qlen (qfld sd0 1)) (D.bool Bool.false)) 0 (D.bool Bool.true))]) 1))) then
    some [(qnth (l18_8 [sd0] [(D.int 0), (D.list [(D.int 0)]), (qrep (qlen (qfld sd0 1)) (D.int 0)), (qset (qrep (qlen (qfld sd0 1)) (D.bool Bool.false)) 0 (D.bool Bool.true))]) 1), (D.bool Bool.true)]
    else
    none
    else
    some [(D.list []), (D.bool Bool.false)]
    else
    none
    else
    none
    else
    none
    else
    none
    else
    none
    else
    none
    else
    none
    else
    none
    else
    none
    else
    none
    else
    none
    else
    none
    else
    none
    else
    none := by kernel_rfl
  rw [h]; simp only [qeqD_self, qeqI_self, qeq_len, show qcmp BinOp.eql 0 (qlen (D.list [])) = true from qeq_len [], show ∀ a, qcmp BinOp.eql 1 (qlen (D.list [a])) = true from fun a => qeq_len [a], show ∀ a b, qcmp BinOp.eql 2 (qlen (D.list [a, b])) = true from fun a b => qeq_len [a, b], show ∀ a b c, qcmp BinOp.eql 3 (qlen (D.list [a, b, c])) = true from fun a b c => qeq_len [a, b, c], show ∀ a b c d, qcmp BinOp.eql 4 (qlen (D.list [a, b, c, d])) = true from fun a b c d => qeq_len [a, b, c, d], cond_true]
noncomputable def q18 : List D → Option (List D) := veil (F18 )
theorem q18_eq : q18  = F18  := veil_eq _
noncomputable def tb18 : Tb := Tb.addF tbl18_8 18 S18 (q18 )
theorem ok_tb18 : TbOk env (tb18 ) := addFunF ok_tbl18_8 18 (by kernel_rfl) _ (q18_eq )
end Go.Proofs.YtfdedgmlafelaaaGreatDoor
open Go Go.AM
namespace Go.Proofs.YtfdedgmlafelaaaGreatDoor
set_option maxRecDepth 100000
set_option linter.unusedSimpArgs false
set_option linter.unusedVariables false
noncomputable def tb9x : Tb := Tb.addF tb18 9 S9 q9
theorem ok_tb9x : TbOk env tb9x := TbOk.addF ok_tb18 (by kernel_rfl) sound9
def S5_8 : LoopS := ⟨0, [⟨false, .any⟩, ⟨false, .any⟩, ⟨false, (.lit (.bool false))⟩, ⟨false, (.rows 3)⟩, ⟨false, .any⟩, ⟨false, (.rows 3)⟩, ⟨false, .any⟩, ⟨true, (.int .i64)⟩, ⟨false, .any⟩, ⟨false, .any⟩, ⟨false, .any⟩, ⟨false, .any⟩, ⟨false, .any⟩, ⟨false, .any⟩, ⟨false, .any⟩, ⟨false, .any⟩, ⟨false, .any⟩, ⟨false, .any⟩, ⟨false, .any⟩, ⟨false, .any⟩, ⟨false, .any⟩, ⟨false, .any⟩, ⟨false, .any⟩, ⟨false, .any⟩, ⟨false, .any⟩, ⟨false, .any⟩, ⟨false, .any⟩, ⟨false, .any⟩, ⟨false, .any⟩, ⟨false, .any⟩, ⟨false, .any⟩, ⟨false, .any⟩, ⟨false, .any⟩, ⟨false, .any⟩, ⟨false, .any⟩, ⟨false, .any⟩, ⟨false, .any⟩, ⟨false, .any⟩, ⟨false, .any⟩, ⟨false, .any⟩, ⟨false, .any⟩, ⟨false, .any⟩, ⟨false, .any⟩, ⟨false, .any⟩, ⟨false, .any⟩, ⟨false, .any⟩, ⟨false, .any⟩], [], [⟨0, 0, [⟨true, .any⟩, ⟨true, .any⟩, ⟨true, (.lit (.bool false))⟩, ⟨false, (.rows 3)⟩, ⟨true, .any⟩, ⟨false, (.rows 3)⟩, ⟨true, .any⟩, ⟨true, .any⟩, ⟨true, .any⟩, ⟨true, .any⟩, ⟨true, .any⟩, ⟨true, .any⟩, ⟨true, .any⟩, ⟨true, .any⟩, ⟨true, .any⟩, ⟨true, .any⟩, ⟨true, .any⟩, ⟨true, .any⟩, ⟨true, .any⟩, ⟨true, .any⟩, ⟨true, .any⟩, ⟨true, .any⟩, ⟨true, .any⟩, ⟨true, .any⟩, ⟨true, .any⟩, ⟨true, .any⟩, ⟨true, .any⟩, ⟨true, .any⟩, ⟨true, .any⟩, ⟨true, .any⟩, ⟨true, .any⟩, ⟨true, .any⟩, ⟨true, .any⟩, ⟨true, .any⟩, ⟨true, .any⟩, ⟨true, .any⟩, ⟨true, .any⟩, ⟨true, .any⟩, ⟨true, .any⟩, ⟨true, .any⟩, ⟨true, .any⟩, ⟨true, .any⟩, ⟨true, .any⟩, ⟨true, .any⟩, ⟨true, .any⟩, ⟨true, .any⟩, ⟨true, .any⟩], []⟩, ⟨1, 0, [⟨true, .any⟩, ⟨true, .any⟩, ⟨true, (.lit (.bool false))⟩, ⟨false, (.rows 3)⟩, ⟨true, .any⟩, ⟨false, (.rows 3)⟩, ⟨true, .any⟩, ⟨true, .any⟩, ⟨true, .any⟩, ⟨true, .any⟩, ⟨true, .any⟩, ⟨true, .any⟩, ⟨true, .any⟩, ⟨true, .any⟩, ⟨true, .any⟩, ⟨true, .any⟩, ⟨true, .any⟩, ⟨true, .any⟩, ⟨true, .any⟩, ⟨true, .any⟩, ⟨true, .any⟩, ⟨true, .any⟩, ⟨true, .any⟩, ⟨true, .any⟩, ⟨true, .any⟩, ⟨true, .any⟩, ⟨true, .any⟩, ⟨true, .any⟩, ⟨true, .any⟩, ⟨true, .any⟩, ⟨true, .any⟩, ⟨true, .any⟩, ⟨true, .any⟩, ⟨true, .any⟩, ⟨true, .any⟩, ⟨true, .any⟩, ⟨true, .any⟩, ⟨true, .any⟩, ⟨true, .any⟩, ⟨true, .any⟩, ⟨true, .any⟩, ⟨true, .any⟩, ⟨true, .any⟩, ⟨true, .any⟩, ⟨true, .any⟩, ⟨true, .any⟩, ⟨true, .any⟩], []⟩]⟩
noncomputable def st5_8 (p s : List D) : Option (Sum (List D) (List D)) := stepQX env tb9x 60 12 5 (loopC 5 8) S5_8 p s
theorem st5_8_eq (pd0 : D) (pd1 : D) (sn0 : Int) : st5_8  [pd0, pd1] [(D.int sn0)] =
    bif (qcmp BinOp.lss sn0 (qlen pd0)) then
    bif (qinb pd0 sn0) then
    bif (qinb pd1 sn0) then
    bif (qcmp BinOp.neq (qint (qget pd0 sn0)) (qint (qget pd1 sn0))) then
    some (Sum.inr [(D.int 1)])
    else
    some (Sum.inl [(D.int (qbin BinOp.add IntKind.i64 sn0 1))])
    else
    none
    else
    none
    else
    some (Sum.inr [(D.int 0)]) := by
  have h : st5_8  [pd0, pd1] [(D.int sn0)] =
    bif (qcmp BinOp.lss sn0 (qlen pd0)) then
    bif (qinb pd0 sn0) then
    bif (qinb pd1 sn0) then
    bif (qcmp BinOp.neq (qint (qget pd0 sn0)) (qint (qget pd1 sn0))) then
    bif (qeqD pd0 pd0) then
    bif (qeqD pd1 pd1) then
    some (Sum.inr [(D.int 1)])
    else
    none
    else
    none
    else
    bif (qeqD pd0 pd0) then
    bif (qeqD pd1 pd1) then
    some (Sum.inl [(D.int (qbin BinOp.add IntKind.i64 sn0 1))])
    else
    none
    else
    none
    else
    none
    else
    none
    else
    bif (qeqD pd0 pd0) then
    bif (qeqD pd1 pd1) then
    some (Sum.inr [(D.int 0)])
    else
    none
    else
    none := by kernel_rfl
  rw [h]; simp only [qeqD_self, qeqI_self, qeq_len, show qcmp BinOp.eql 0 (qlen (D.list [])) = true from qeq_len [], show ∀ a, qcmp BinOp.eql 1 (qlen (D.list [a])) = true from fun a => qeq_len [a], show ∀ a b, qcmp BinOp.eql 2 (qlen (D.list [a, b])) = true from fun a b => qeq_len [a, b], show ∀ a b c, qcmp BinOp.eql 3 (qlen (D.list [a, b, c])) = true from fun a b c => qeq_len [a, b, c], show ∀ a b c d, qcmp BinOp.eql 4 (qlen (D.list [a, b, c, d])) = true from fun a b c d => qeq_len [a, b, c, d], cond_true]
noncomputable def l5_8 : List D → List D → Option (List D) := veil fun p s => loW (st5_8  p) s
theorem l5_8_eq : l5_8  = fun p s => loW (st5_8  p) s := veil_eq _
noncomputable def tbl5_8 : Tb := Tb.addL tb9x 5 8 S5_8.n0 (mkLp S5_8 (l5_8 ))
theorem ok_tbl5_8 : TbOk env (tbl5_8 ) := addLoopQ ok_tb9x 5 8 (by kernel_rfl) _ (l5_8_eq )
def S5 : FunS := ⟨[⟨true, (.dat 25)⟩], [], [⟨true, .bool⟩], []⟩
noncomputable def F5 : List D → Option (List D) := liftX env tbl5_8 60 12 5 S5
theorem F5_eq  (sd0 : D) : F5  [sd0] =
    bif (qsome (q8 [sd0])) then
    bif (qbool (qnth (q8 [sd0]) 0)) then
    bif (qsome (q9 [])) then
    some [(D.bool (qbool (qnth (q9 []) 0)))]
    else
    none
    else
    bif (qsome (q17 [sd0])) then
    bif (qsome (q18 [sd0])) then
    bif (qiteB (qnot (qeqB (qbool (qnth (q17 [sd0]) 1)) (qbool (qnth (q18 [sd0]) 1)))) Bool.true (qcmp BinOp.neq (qlen (qnth (q17 [sd0]) 0)) (qlen (qnth (q18 [sd0]) 0)))) then
    some [(D.bool Bool.false)]
    else
    bif (qsome (l5_8 [(qnth (q17 [sd0]) 0), (qnth (q18 [sd0]) 0)] [(D.int 0)])) then
    bif (qcmp BinOp.eql (qint (qnth (l5_8 [(qnth (q17 [sd0]) 0), (qnth (q18 [sd0]) 0)] [(D.int 0)]) 0)) 0) then
    bif (qsome (q9 [])) then
    some [(D.bool (qbool (qnth (q9 []) 0)))]
    else
    none
    else
    some [(D.bool Bool.false)]
    else
    none
    else
    none
    else
    none
    else
    none := by kernel_rfl
noncomputable def q5 : List D → Option (List D) := veil (F5 )
theorem q5_eq : q5  = F5  := veil_eq _
end Go.Proofs.YtfdedgmlafelaaaGreatDoor
