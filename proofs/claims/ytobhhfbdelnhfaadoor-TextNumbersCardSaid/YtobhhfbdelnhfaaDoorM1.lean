/-
  Made by gen3.py: what functions of the seat compute, as partial functions on data, and that they do.
-/
import Derived.Test.YtobhhfbdelnhfaaDoorSp
import Derived.KernelRfl
import Derived.Test.YtobhhfbdelnhfaaDoorEx4D
set_option linter.unusedVariables false
set_option linter.unusedSimpArgs false
open Go Go.AM
namespace Go.Proofs.YtobhhfbdelnhfaaDoor
set_option maxRecDepth 100000
set_option linter.unusedSimpArgs false
set_option linter.unusedVariables false
/- function 13  -/

def S13 : FunS := ⟨[⟨true, .str⟩], [], [⟨true, (.tup [(.int .i64), .bool])⟩], []⟩

noncomputable def F13 : List D → Option (List D) := liftX env Tb.nil 60 12 13 S13

theorem F13_eq  (ss0 : ByteArray) : F13  [(D.str ss0)] =
    bif (qiteB (qcmp BinOp.neq (qlenS ss0) 2) Bool.true (qinbS ss0 0)) then
    bif (qiteB (qiteB (qcmp BinOp.neq (qlenS ss0) 2) Bool.true (qcmp BinOp.neq (qidxS ss0 0) 114)) Bool.true (qinbS ss0 1)) then
    bif (qiteB (qiteB (qiteB (qcmp BinOp.neq (qlenS ss0) 2) Bool.true (qcmp BinOp.neq (qidxS ss0 0) 114)) Bool.true (qcmp BinOp.lss (qidxS ss0 1) 48)) Bool.true (qinbS ss0 1)) then
    bif (qiteB (qiteB (qiteB (qcmp BinOp.neq (qlenS ss0) 2) Bool.true (qcmp BinOp.neq (qidxS ss0 0) 114)) Bool.true (qcmp BinOp.lss (qidxS ss0 1) 48)) Bool.true (qcmp BinOp.gtr (qidxS ss0 1) 55)) then
    some [(D.int 0), (D.bool Bool.false)]
    else
    bif (qinbS ss0 1) then
    some [(D.int (qwrap IntKind.i64 (qbin BinOp.sub IntKind.u8 (qidxS ss0 1) 48))), (D.bool Bool.true)]
    else
    none
    else
    none
    else
    none
    else
    none := by kernel_rfl

noncomputable def q13 : List D → Option (List D) := veil (F13 )

theorem q13_eq : q13  = F13  := veil_eq _

noncomputable def tb13 : Tb := Tb.addF Tb.nil 13 S13 (q13 )

theorem ok_tb13 : TbOk env (tb13 ) := addFunF ok_nil 13 (by kernel_rfl) _ (q13_eq )

/- function 14  -/

def S14 : FunS := ⟨[⟨true, .str⟩], [], [⟨true, (.tup [(.int .i64), .bool])⟩], []⟩

noncomputable def F14 : List D → Option (List D) := liftX env tb13 60 12 14 S14

theorem F14_eq  (ss0 : ByteArray) : F14  [(D.str ss0)] =
    bif (qiteB (qcmp BinOp.eql (qlenS ss0) 2) (qinbS ss0 0) Bool.true) then
    bif (qiteB (qiteB (qcmp BinOp.eql (qlenS ss0) 2) (qcmp BinOp.eql (qidxS ss0 0) 114) Bool.false) (qinbS ss0 1) Bool.true) then
    bif (qiteB (qiteB (qiteB (qcmp BinOp.eql (qlenS ss0) 2) (qcmp BinOp.eql (qidxS ss0 0) 114) Bool.false) (qcmp BinOp.geq (qidxS ss0 1) 48) Bool.false) (qinbS ss0 1) Bool.true) then
    bif (qiteB (qiteB (qiteB (qcmp BinOp.eql (qlenS ss0) 2) (qcmp BinOp.eql (qidxS ss0 0) 114) Bool.false) (qcmp BinOp.geq (qidxS ss0 1) 48) Bool.false) (qcmp BinOp.leq (qidxS ss0 1) 55) Bool.false) then
    bif (qinbS ss0 1) then
    some [(D.int (qwrap IntKind.i64 (qbin BinOp.sub IntKind.u8 (qidxS ss0 1) 48))), (D.bool Bool.true)]
    else
    none
    else
    some [(D.int 0), (D.bool Bool.false)]
    else
    none
    else
    none
    else
    none := by kernel_rfl

noncomputable def q14 : List D → Option (List D) := veil (F14 )

theorem q14_eq : q14  = F14  := veil_eq _

noncomputable def tb14 : Tb := Tb.addF tb13 14 S14 (q14 )

theorem ok_tb14 : TbOk env (tb14 ) := addFunF ok_tb13 14 (by kernel_rfl) _ (q14_eq )

/- function 28  -/

def S28_3 : LoopS := ⟨0, [⟨false, .str⟩, ⟨false, (.int .u64)⟩, ⟨false, (.int .i64)⟩, ⟨false, .any⟩, ⟨false, .any⟩, ⟨false, .any⟩, ⟨false, (.lit (.int .u64 0))⟩, ⟨false, (.lit (.bool false))⟩, ⟨true, (.int .u64)⟩, ⟨false, .any⟩, ⟨false, .any⟩, ⟨false, .any⟩, ⟨false, .any⟩, ⟨false, (.ptr 0 0)⟩, ⟨false, .any⟩, ⟨false, .any⟩, ⟨false, .any⟩, ⟨false, .any⟩, ⟨false, .any⟩, ⟨false, .any⟩, ⟨false, .any⟩, ⟨false, .any⟩, ⟨false, .any⟩, ⟨false, .any⟩, ⟨false, .any⟩, ⟨false, .any⟩, ⟨false, .any⟩, ⟨false, .any⟩, ⟨false, .any⟩, ⟨false, .any⟩, ⟨false, .any⟩, ⟨false, .any⟩, ⟨false, .any⟩, ⟨false, .any⟩, ⟨false, .any⟩, ⟨false, .any⟩, ⟨false, .any⟩, ⟨false, .any⟩, ⟨false, .any⟩, ⟨false, .any⟩, ⟨false, .any⟩, ⟨false, .any⟩, ⟨false, .any⟩, ⟨false, .any⟩, ⟨false, .any⟩, ⟨false, .any⟩, ⟨false, .any⟩, ⟨false, .any⟩, ⟨false, .any⟩, ⟨false, .any⟩, ⟨false, .any⟩, ⟨false, .any⟩, ⟨false, .any⟩, ⟨false, .any⟩, ⟨false, .any⟩, ⟨false, .any⟩, ⟨false, .any⟩, ⟨false, .any⟩, ⟨false, .any⟩], [.sit], [⟨0, 0, [⟨false, .str⟩, ⟨false, (.int .u64)⟩, ⟨false, (.int .i64)⟩, ⟨true, .any⟩, ⟨true, .any⟩, ⟨true, .any⟩, ⟨true, (.lit (.int .u64 0))⟩, ⟨true, (.lit (.bool false))⟩, ⟨true, (.int .u64)⟩, ⟨true, .any⟩, ⟨true, .any⟩, ⟨true, .any⟩, ⟨true, .any⟩, ⟨true, .any⟩, ⟨true, .any⟩, ⟨true, .any⟩, ⟨true, .any⟩, ⟨true, .any⟩, ⟨true, .any⟩, ⟨true, .any⟩, ⟨true, .any⟩, ⟨true, .any⟩, ⟨true, .any⟩, ⟨true, .any⟩, ⟨true, .any⟩, ⟨true, .any⟩, ⟨true, .any⟩, ⟨true, .any⟩, ⟨true, .any⟩, ⟨true, .any⟩, ⟨true, .any⟩, ⟨true, .any⟩, ⟨true, .any⟩, ⟨true, .any⟩, ⟨true, .any⟩, ⟨true, .any⟩, ⟨true, .any⟩, ⟨true, .any⟩, ⟨true, .any⟩, ⟨true, .any⟩, ⟨true, .any⟩, ⟨true, .any⟩, ⟨true, .any⟩, ⟨true, .any⟩, ⟨true, .any⟩, ⟨true, .any⟩, ⟨true, .any⟩, ⟨true, .any⟩, ⟨true, .any⟩, ⟨true, .any⟩, ⟨true, .any⟩, ⟨true, .any⟩, ⟨true, .any⟩, ⟨true, .any⟩, ⟨true, .any⟩, ⟨true, .any⟩, ⟨true, .any⟩, ⟨true, .any⟩, ⟨true, .any⟩], [.sit]⟩, ⟨1, 0, [⟨false, .str⟩, ⟨false, (.int .u64)⟩, ⟨false, (.int .i64)⟩, ⟨true, .any⟩, ⟨true, .any⟩, ⟨true, .any⟩, ⟨true, (.lit (.int .u64 0))⟩, ⟨true, (.lit (.bool false))⟩, ⟨true, .any⟩, ⟨true, .any⟩, ⟨true, .any⟩, ⟨true, .any⟩, ⟨true, .any⟩, ⟨true, .any⟩, ⟨true, .any⟩, ⟨true, .any⟩, ⟨true, .any⟩, ⟨true, .any⟩, ⟨true, .any⟩, ⟨true, .any⟩, ⟨true, .any⟩, ⟨true, .any⟩, ⟨true, .any⟩, ⟨true, .any⟩, ⟨true, .any⟩, ⟨true, .any⟩, ⟨true, .any⟩, ⟨true, .any⟩, ⟨true, .any⟩, ⟨true, .any⟩, ⟨true, .any⟩, ⟨true, .any⟩, ⟨true, .any⟩, ⟨true, .any⟩, ⟨true, .any⟩, ⟨true, .any⟩, ⟨true, .any⟩, ⟨true, .any⟩, ⟨true, .any⟩, ⟨true, .any⟩, ⟨true, .any⟩, ⟨true, .any⟩, ⟨true, .any⟩, ⟨true, .any⟩, ⟨true, .any⟩, ⟨true, .any⟩, ⟨true, .any⟩, ⟨true, .any⟩, ⟨true, .any⟩, ⟨true, .any⟩, ⟨true, .any⟩, ⟨true, .any⟩, ⟨true, .any⟩, ⟨true, .any⟩, ⟨true, .any⟩, ⟨true, .any⟩, ⟨true, .any⟩, ⟨true, .any⟩, ⟨true, .any⟩], [.sit]⟩]⟩

noncomputable def st28_3 (p s : List D) : Option (Sum (List D) (List D)) := stepQX env tb14 60 12 28 (loopC 28 3) S28_3 p s

theorem st28_3_eq (ps0 : ByteArray) (pn1 : Int) (pn2 : Int) (ps3 : ByteArray) (sn0 : Int) (sn1 : Int) : st28_3  [(D.str ps0), (D.int pn1), (D.int pn2), (D.str ps3)] [(D.int sn0), (D.int sn1)] =
    bif (qcmp BinOp.lss sn1 (qlenS ps3)) then
    bif (qcmp BinOp.lss sn1 (qlenS ps3)) then
    bif (qiteB (qcmp BinOp.geq (qrune ps3 sn1) 48) (qcmp BinOp.leq (qrune ps3 sn1) 57) Bool.false) then
    bif (qcmp BinOp.geq (qwrap IntKind.u64 (qbin BinOp.sub IntKind.i32 (qrune ps3 sn1) 48)) pn1) then
    some (Sum.inr [(D.int 1), (D.int (qiteI (qcmp BinOp.lss sn1 (qlenS ps3)) (qrw ps3 sn1) sn1))])
    else
    bif (qcmp BinOp.gtr (qbin BinOp.add IntKind.u64 (qbin BinOp.mul IntKind.u64 sn0 pn1) (qwrap IntKind.u64 (qbin BinOp.sub IntKind.i32 (qrune ps3 sn1) 48))) 1099511627776) then
    some (Sum.inr [(D.int 1), (D.int (qiteI (qcmp BinOp.lss sn1 (qlenS ps3)) (qrw ps3 sn1) sn1))])
    else
    some (Sum.inl [(D.int (qbin BinOp.add IntKind.u64 (qbin BinOp.mul IntKind.u64 sn0 pn1) (qwrap IntKind.u64 (qbin BinOp.sub IntKind.i32 (qrune ps3 sn1) 48)))), (D.int (qiteI (qcmp BinOp.lss sn1 (qlenS ps3)) (qrw ps3 sn1) sn1))])
    else
    bif (qiteB (qcmp BinOp.geq (qrune ps3 sn1) 97) (qcmp BinOp.leq (qrune ps3 sn1) 102) Bool.false) then
    bif (qcmp BinOp.geq (qbin BinOp.add IntKind.u64 (qwrap IntKind.u64 (qbin BinOp.sub IntKind.i32 (qrune ps3 sn1) 97)) 10) pn1) then
    some (Sum.inr [(D.int 1), (D.int (qiteI (qcmp BinOp.lss sn1 (qlenS ps3)) (qrw ps3 sn1) sn1))])
    else
    bif (qcmp BinOp.gtr (qbin BinOp.add IntKind.u64 (qbin BinOp.mul IntKind.u64 sn0 pn1) (qbin BinOp.add IntKind.u64 (qwrap IntKind.u64 (qbin BinOp.sub IntKind.i32 (qrune ps3 sn1) 97)) 10)) 1099511627776) then
    some (Sum.inr [(D.int 1), (D.int (qiteI (qcmp BinOp.lss sn1 (qlenS ps3)) (qrw ps3 sn1) sn1))])
    else
    some (Sum.inl [(D.int (qbin BinOp.add IntKind.u64 (qbin BinOp.mul IntKind.u64 sn0 pn1) (qbin BinOp.add IntKind.u64 (qwrap IntKind.u64 (qbin BinOp.sub IntKind.i32 (qrune ps3 sn1) 97)) 10))), (D.int (qiteI (qcmp BinOp.lss sn1 (qlenS ps3)) (qrw ps3 sn1) sn1))])
    else
    bif (qcmp BinOp.geq pn1 pn1) then
    some (Sum.inr [(D.int 1), (D.int (qiteI (qcmp BinOp.lss sn1 (qlenS ps3)) (qrw ps3 sn1) sn1))])
    else
    bif (qcmp BinOp.gtr (qbin BinOp.add IntKind.u64 (qbin BinOp.mul IntKind.u64 sn0 pn1) pn1) 1099511627776) then
    some (Sum.inr [(D.int 1), (D.int (qiteI (qcmp BinOp.lss sn1 (qlenS ps3)) (qrw ps3 sn1) sn1))])
    else
    some (Sum.inl [(D.int (qbin BinOp.add IntKind.u64 (qbin BinOp.mul IntKind.u64 sn0 pn1) pn1)), (D.int (qiteI (qcmp BinOp.lss sn1 (qlenS ps3)) (qrw ps3 sn1) sn1))])
    else
    none
    else
    some (Sum.inr [(D.int 0), (D.int sn0), (D.int (qiteI (qcmp BinOp.lss sn1 (qlenS ps3)) (qrw ps3 sn1) sn1))]) := by
  have h : st28_3  [(D.str ps0), (D.int pn1), (D.int pn2), (D.str ps3)] [(D.int sn0), (D.int sn1)] =
    bif (qcmp BinOp.lss sn1 (qlenS ps3)) then
    bif (qcmp BinOp.lss sn1 (qlenS ps3)) then
    bif (qiteB (qcmp BinOp.geq (qrune ps3 sn1) 48) (qcmp BinOp.leq (qrune ps3 sn1) 57) Bool.false) then
    bif (qcmp BinOp.geq (qwrap IntKind.u64 (qbin BinOp.sub IntKind.i32 (qrune ps3 sn1) 48)) pn1) then
    bif (qeqD (D.str ps0) (D.str ps0)) then
    bif (qeqD (D.int pn1) (D.int pn1)) then
    bif (qeqD (D.int pn2) (D.int pn2)) then
    bif (qeqD (D.str ps3) (D.str ps3)) then
    some (Sum.inr [(D.int 1), (D.int (qiteI (qcmp BinOp.lss sn1 (qlenS ps3)) (qrw ps3 sn1) sn1))])
    else
    none
    else
    none
    else
    none
    else
    none
    else
    bif (qcmp BinOp.gtr (qbin BinOp.add IntKind.u64 (qbin BinOp.mul IntKind.u64 sn0 pn1) (qwrap IntKind.u64 (qbin BinOp.sub IntKind.i32 (qrune ps3 sn1) 48))) 1099511627776) then
    bif (qeqD (D.str ps0) (D.str ps0)) then
    bif (qeqD (D.int pn1) (D.int pn1)) then
    bif (qeqD (D.int pn2) (D.int pn2)) then
    bif (qeqD (D.str ps3) (D.str ps3)) then
    some (Sum.inr [(D.int 1), (D.int (qiteI (qcmp BinOp.lss sn1 (qlenS ps3)) (qrw ps3 sn1) sn1))])
    else
    none
    else
    none
    else
    none
    else
    none
    else
    bif (qeqD (D.str ps0) (D.str ps0)) then
    bif (qeqD (D.int pn1) (D.int pn1)) then
    bif (qeqD (D.int pn2) (D.int pn2)) then
    bif (qeqD (D.str ps3) (D.str ps3)) then
    some (Sum.inl [(D.int (qbin BinOp.add IntKind.u64 (qbin BinOp.mul IntKind.u64 sn0 pn1) (qwrap IntKind.u64 (qbin BinOp.sub IntKind.i32 (qrune ps3 sn1) 48)))), (D.int (qiteI (qcmp BinOp.lss sn1 (qlenS ps3)) (qrw ps3 sn1) sn1))])
    else
    none
    else
    none
    else
    none
    else
    none
    else
    bif (qiteB (qcmp BinOp.geq (qrune ps3 sn1) 97) (qcmp BinOp.leq (qrune ps3 sn1) 102) Bool.false) then
    bif (qcmp BinOp.geq (qbin BinOp.add IntKind.u64 (qwrap IntKind.u64 (qbin BinOp.sub IntKind.i32 (qrune ps3 sn1) 97)) 10) pn1) then
    bif (qeqD (D.str ps0) (D.str ps0)) then
    bif (qeqD (D.int pn1) (D.int pn1)) then
    bif (qeqD (D.int pn2) (D.int pn2)) then
    bif (qeqD (D.str ps3) (D.str ps3)) then
    some (Sum.inr [(D.int 1), (D.int (qiteI (qcmp BinOp.lss sn1 (qlenS ps3)) (qrw ps3 sn1) sn1))])
    else
    none
    else
    none
    else
    none
    else
    none
    else
    bif (qcmp BinOp.gtr (qbin BinOp.add IntKind.u64 (qbin BinOp.mul IntKind.u64 sn0 pn1) (qbin BinOp.add IntKind.u64 (qwrap IntKind.u64 (qbin BinOp.sub IntKind.i32 (qrune ps3 sn1) 97)) 10)) 1099511627776) then
    bif (qeqD (D.str ps0) (D.str ps0)) then
    bif (qeqD (D.int pn1) (D.int pn1)) then
    bif (qeqD (D.int pn2) (D.int pn2)) then
    bif (qeqD (D.str ps3) (D.str ps3)) then
    some (Sum.inr [(D.int 1), (D.int (qiteI (qcmp BinOp.lss sn1 (qlenS ps3)) (qrw ps3 sn1) sn1))])
    else
    none
    else
    none
    else
    none
    else
    none
    else
    bif (qeqD (D.str ps0) (D.str ps0)) then
    bif (qeqD (D.int pn1) (D.int pn1)) then
    bif (qeqD (D.int pn2) (D.int pn2)) then
    bif (qeqD (D.str ps3) (D.str ps3)) then
    some (Sum.inl [(D.int (qbin BinOp.add IntKind.u64 (qbin BinOp.mul IntKind.u64 sn0 pn1) (qbin BinOp.add IntKind.u64 (qwrap IntKind.u64 (qbin BinOp.sub IntKind.i32 (qrune ps3 sn1) 97)) 10))), (D.int (qiteI (qcmp BinOp.lss sn1 (qlenS ps3)) (qrw ps3 sn1) sn1))])
    else
    none
    else
    none
    else
    none
    else
    none
    else
    bif (qcmp BinOp.geq pn1 pn1) then
    bif (qeqD (D.str ps0) (D.str ps0)) then
    bif (qeqD (D.int pn1) (D.int pn1)) then
    bif (qeqD (D.int pn2) (D.int pn2)) then
    bif (qeqD (D.str ps3) (D.str ps3)) then
    some (Sum.inr [(D.int 1), (D.int (qiteI (qcmp BinOp.lss sn1 (qlenS ps3)) (qrw ps3 sn1) sn1))])
    else
    none
    else
    none
    else
    none
    else
    none
    else
    bif (qcmp BinOp.gtr (qbin BinOp.add IntKind.u64 (qbin BinOp.mul IntKind.u64 sn0 pn1) pn1) 1099511627776) then
    bif (qeqD (D.str ps0) (D.str ps0)) then
    bif (qeqD (D.int pn1) (D.int pn1)) then
    bif (qeqD (D.int pn2) (D.int pn2)) then
    bif (qeqD (D.str ps3) (D.str ps3)) then
    some (Sum.inr [(D.int 1), (D.int (qiteI (qcmp BinOp.lss sn1 (qlenS ps3)) (qrw ps3 sn1) sn1))])
    else
    none
    else
    none
    else
    none
    else
    none
    else
    bif (qeqD (D.str ps0) (D.str ps0)) then
    bif (qeqD (D.int pn1) (D.int pn1)) then
    bif (qeqD (D.int pn2) (D.int pn2)) then
    bif (qeqD (D.str ps3) (D.str ps3)) then
    some (Sum.inl [(D.int (qbin BinOp.add IntKind.u64 (qbin BinOp.mul IntKind.u64 sn0 pn1) pn1)), (D.int (qiteI (qcmp BinOp.lss sn1 (qlenS ps3)) (qrw ps3 sn1) sn1))])
    else
    none
    else
    none
    else
    none
    else
    none
    else
    none
    else
    bif (qeqD (D.str ps0) (D.str ps0)) then
    bif (qeqD (D.int pn1) (D.int pn1)) then
    bif (qeqD (D.int pn2) (D.int pn2)) then
    bif (qeqD (D.str ps3) (D.str ps3)) then
    some (Sum.inr [(D.int 0), (D.int sn0), (D.int (qiteI (qcmp BinOp.lss sn1 (qlenS ps3)) (qrw ps3 sn1) sn1))])
    else
    none
    else
    none
    else
    none
    else
    none := by kernel_rfl
  rw [h]; simp only [qeqD_self, qeqI_self, qeq_len, show qcmp BinOp.eql 0 (qlen (D.list [])) = true from qeq_len [], show ∀ a, qcmp BinOp.eql 1 (qlen (D.list [a])) = true from fun a => qeq_len [a], show ∀ a b, qcmp BinOp.eql 2 (qlen (D.list [a, b])) = true from fun a b => qeq_len [a, b], show ∀ a b c, qcmp BinOp.eql 3 (qlen (D.list [a, b, c])) = true from fun a b c => qeq_len [a, b, c], show ∀ a b c d, qcmp BinOp.eql 4 (qlen (D.list [a, b, c, d])) = true from fun a b c d => qeq_len [a, b, c, d], cond_true]

noncomputable def l28_3 : List D → List D → Option (List D) := veil fun p s => loW (st28_3  p) s

theorem l28_3_eq : l28_3  = fun p s => loW (st28_3  p) s := veil_eq _

noncomputable def tbl28_3 : Tb := Tb.addL tb14 28 3 S28_3.n0 (mkLp S28_3 (l28_3 ))

theorem ok_tbl28_3 : TbOk env (tbl28_3 ) := addLoopQ ok_tb14 28 3 (by kernel_rfl) _ (l28_3_eq )

def S28 : FunS := ⟨[⟨true, .str⟩, ⟨true, (.int .u64)⟩, ⟨true, (.int .i64)⟩], [], [⟨true, (.tup [(.int .u64), .bool])⟩], []⟩

noncomputable def F28 : List D → Option (List D) := liftX env tbl28_3 60 12 28 S28

theorem F28_eq  (ss0 : ByteArray) (sn1 : Int) (sn2 : Int) : F28  [(D.str ss0), (D.int sn1), (D.int sn2)] =
    bif (qsome (l28_3 [(D.str ss0), (D.int sn1), (D.int sn2), (D.str ss0)] [(D.int 0), (D.int 0)])) then
    bif (qcmp BinOp.eql (qint (qnth (l28_3 [(D.str ss0), (D.int sn1), (D.int sn2), (D.str ss0)] [(D.int 0), (D.int 0)]) 0)) 0) then
    some [(D.int (qint (qnth (l28_3 [(D.str ss0), (D.int sn1), (D.int sn2), (D.str ss0)] [(D.int 0), (D.int 0)]) 1))), (D.bool (qiteB (qcmp BinOp.geq (qlenS ss0) 1) (qcmp BinOp.leq (qlenS ss0) sn2) Bool.false))]
    else
    some [(D.int 0), (D.bool Bool.false)]
    else
    none := by kernel_rfl

noncomputable def q28 : List D → Option (List D) := veil (F28 )

theorem q28_eq : q28  = F28  := veil_eq _

noncomputable def tb28 : Tb := Tb.addF tbl28_3 28 S28 (q28 )

theorem ok_tb28 : TbOk env (tb28 ) := addFunF ok_tbl28_3 28 (by kernel_rfl) _ (q28_eq )

/- function 66  -/

def S66 : FunS := ⟨[⟨true, .str⟩, ⟨true, .str⟩], [], [⟨true, .bool⟩], []⟩

noncomputable def F66 : List D → Option (List D) := liftX env tb28 60 12 66 S66

theorem F66_eq  (ss0 : ByteArray) (ss1 : ByteArray) : F66  [(D.str ss0), (D.str ss1)] =
    bif (qiteB (qcmp BinOp.geq (qlenS ss0) (qlenS ss1)) (qand (qcmp BinOp.leq 0 0) (qand (qcmp BinOp.leq 0 (qlenS ss1)) (qcmp BinOp.leq (qlenS ss1) (qlenS ss0)))) Bool.true) then
    some [(D.bool (qiteB (qcmp BinOp.geq (qlenS ss0) (qlenS ss1)) (qcmpS BinOp.eql (qsubS ss0 0 (qlenS ss1)) ss1) Bool.false))]
    else
    none := by kernel_rfl

noncomputable def q66 : List D → Option (List D) := veil (F66 )

theorem q66_eq : q66  = F66  := veil_eq _

noncomputable def tb66 : Tb := Tb.addF tb28 66 S66 (q66 )

theorem ok_tb66 : TbOk env (tb66 ) := addFunF ok_tb28 66 (by kernel_rfl) _ (q66_eq )

/- function 49  -/

def S49 : FunS := ⟨[⟨true, .str⟩, ⟨true, .str⟩], [], [⟨true, (.tup [.str, .bool])⟩], []⟩

noncomputable def F49 : List D → Option (List D) := liftX env tb66 60 12 49 S49

theorem F49_eq  (ss0 : ByteArray) (ss1 : ByteArray) : F49  [(D.str ss0), (D.str ss1)] =
    bif (qsome (q66 [(D.str ss0), (D.str ss1)])) then
    bif (qnot (qbool (qnth (q66 [(D.str ss0), (D.str ss1)]) 0))) then
    some [(D.str ss0), (D.bool Bool.false)]
    else
    bif (qcmp BinOp.leq 0 (qlenS ss1)) then
    bif (qcmp BinOp.leq (qlenS ss1) (qlenS ss0)) then
    bif (qcmp BinOp.leq (qlenS ss0) (qlenS ss0)) then
    some [(D.str (qsubS ss0 (qlenS ss1) (qlenS ss0))), (D.bool Bool.true)]
    else
    none
    else
    none
    else
    none
    else
    none := by kernel_rfl

noncomputable def q49 : List D → Option (List D) := veil (F49 )

theorem q49_eq : q49  = F49  := veil_eq _

noncomputable def tb49 : Tb := Tb.addF tb66 49 S49 (q49 )

theorem ok_tb49 : TbOk env (tb49 ) := addFunF ok_tb66 49 (by kernel_rfl) _ (q49_eq )

/- function 27  -/

def S27 : FunS := ⟨[⟨true, .str⟩, ⟨true, .str⟩], [], [⟨true, (.tup [.str, .bool])⟩], []⟩

noncomputable def F27 : List D → Option (List D) := liftX env tb49 60 12 27 S27

theorem F27_eq  (ss0 : ByteArray) (ss1 : ByteArray) : F27  [(D.str ss0), (D.str ss1)] =
    bif (qsome (q49 [(D.str ss0), (D.str ss1)])) then
    some [(D.str (qstr (qnth (q49 [(D.str ss0), (D.str ss1)]) 0))), (D.bool (qbool (qnth (q49 [(D.str ss0), (D.str ss1)]) 1)))]
    else
    none := by kernel_rfl

noncomputable def q27 : List D → Option (List D) := veil (F27 )

theorem q27_eq : q27  = F27  := veil_eq _

noncomputable def tb27 : Tb := Tb.addF tb49 27 S27 (q27 )

theorem ok_tb27 : TbOk env (tb27 ) := addFunF ok_tb49 27 (by kernel_rfl) _ (q27_eq )

/- function 11  -/

def S11 : FunS := ⟨[⟨true, .str⟩], [], [⟨true, (.tup [(.int .u32), .bool])⟩], []⟩

noncomputable def F11 : List D → Option (List D) := liftX env tb27 60 12 11 S11

theorem F11_eq  (ss0 : ByteArray) : F11  [(D.str ss0)] =
    bif (qsome (q27 [(D.str ss0), (D.str (ByteArray.mk #[48, 120]))])) then
    bif (qbool (qnth (q27 [(D.str ss0), (D.str (ByteArray.mk #[48, 120]))]) 1)) then
    bif (qsome (q28 [(D.str (qstr (qnth (q27 [(D.str ss0), (D.str (ByteArray.mk #[48, 120]))]) 0))), (D.int 16), (D.int 8)])) then
    bif (qnot (qbool (qnth (q28 [(D.str (qstr (qnth (q27 [(D.str ss0), (D.str (ByteArray.mk #[48, 120]))]) 0))), (D.int 16), (D.int 8)]) 1))) then
    some [(D.int 0), (D.bool Bool.false)]
    else
    some [(D.int (qwrap IntKind.u32 (qint (qnth (q28 [(D.str (qstr (qnth (q27 [(D.str ss0), (D.str (ByteArray.mk #[48, 120]))]) 0))), (D.int 16), (D.int 8)]) 0)))), (D.bool Bool.true)]
    else
    none
    else
    bif (qcmpS BinOp.eql ss0 (ByteArray.mk #[48])) then
    some [(D.int 0), (D.bool Bool.true)]
    else
    bif (qsome (q27 [(D.str ss0), (D.str (ByteArray.mk #[45]))])) then
    bif (qsome (q28 [(D.str (qstr (qnth (q27 [(D.str ss0), (D.str (ByteArray.mk #[45]))]) 0))), (D.int 10), (D.int 10)])) then
    bif (qiteB (qnot (qbool (qnth (q28 [(D.str (qstr (qnth (q27 [(D.str ss0), (D.str (ByteArray.mk #[45]))]) 0))), (D.int 10), (D.int 10)]) 1))) Bool.true (qinbS (qstr (qnth (q27 [(D.str ss0), (D.str (ByteArray.mk #[45]))]) 0)) 0)) then
    bif (qiteB (qiteB (qiteB (qnot (qbool (qnth (q28 [(D.str (qstr (qnth (q27 [(D.str ss0), (D.str (ByteArray.mk #[45]))]) 0))), (D.int 10), (D.int 10)]) 1))) Bool.true (qcmp BinOp.eql (qidxS (qstr (qnth (q27 [(D.str ss0), (D.str (ByteArray.mk #[45]))]) 0)) 0) 48)) Bool.true (qcmp BinOp.geq (qint (qnth (q28 [(D.str (qstr (qnth (q27 [(D.str ss0), (D.str (ByteArray.mk #[45]))]) 0))), (D.int 10), (D.int 10)]) 0)) 4294967296)) Bool.true (qiteB (qbool (qnth (q27 [(D.str ss0), (D.str (ByteArray.mk #[45]))]) 1)) (qcmp BinOp.gtr (qint (qnth (q28 [(D.str (qstr (qnth (q27 [(D.str ss0), (D.str (ByteArray.mk #[45]))]) 0))), (D.int 10), (D.int 10)]) 0)) 2147483648) Bool.false)) then
    some [(D.int 0), (D.bool Bool.false)]
    else
    bif (qbool (qnth (q27 [(D.str ss0), (D.str (ByteArray.mk #[45]))]) 1)) then
    some [(D.int (qun UnOp.neg IntKind.u32 (qwrap IntKind.u32 (qint (qnth (q28 [(D.str (qstr (qnth (q27 [(D.str ss0), (D.str (ByteArray.mk #[45]))]) 0))), (D.int 10), (D.int 10)]) 0))))), (D.bool Bool.true)]
    else
    some [(D.int (qwrap IntKind.u32 (qint (qnth (q28 [(D.str (qstr (qnth (q27 [(D.str ss0), (D.str (ByteArray.mk #[45]))]) 0))), (D.int 10), (D.int 10)]) 0)))), (D.bool Bool.true)]
    else
    none
    else
    none
    else
    none
    else
    none := by kernel_rfl

noncomputable def q11 : List D → Option (List D) := veil (F11 )

theorem q11_eq : q11  = F11  := veil_eq _

noncomputable def tb11 : Tb := Tb.addF tb27 11 S11 (q11 )

theorem ok_tb11 : TbOk env (tb11 ) := addFunF ok_tb27 11 (by kernel_rfl) _ (q11_eq )

end Go.Proofs.YtobhhfbdelnhfaaDoor

open Go Go.AM
namespace Go.Proofs.YtobhhfbdelnhfaaDoor
set_option maxRecDepth 100000
set_option linter.unusedSimpArgs false
set_option linter.unusedVariables false
/- function 50  -/

def S50 : FunS := ⟨[⟨true, (.int .u8)⟩], [], [⟨true, (.int .i64)⟩], []⟩

noncomputable def F50 : List D → Option (List D) := liftX env tb11 60 12 50 S50

theorem F50_eq  (sn0 : Int) : F50  [(D.int sn0)] =
    bif (qiteB (qcmp BinOp.geq sn0 48) (qcmp BinOp.leq sn0 57) Bool.false) then
    some [(D.int (qwrap IntKind.i64 (qbin BinOp.sub IntKind.u8 sn0 48)))]
    else
    bif (qiteB (qcmp BinOp.geq sn0 97) (qcmp BinOp.leq sn0 102) Bool.false) then
    some [(D.int (qbin BinOp.add IntKind.i64 (qwrap IntKind.i64 (qbin BinOp.sub IntKind.u8 sn0 97)) 10))]
    else
    some [(D.int (-1))] := by kernel_rfl

noncomputable def q50 : List D → Option (List D) := veil (F50 )

theorem q50_eq : q50  = F50  := veil_eq _

noncomputable def tb50 : Tb := Tb.addF tb11 50 S50 (q50 )

theorem ok_tb50 : TbOk env (tb50 ) := addFunF ok_tb11 50 (by kernel_rfl) _ (q50_eq )

/- function 29  -/

def S29_5 : LoopS := ⟨0, [⟨false, .str⟩, ⟨false, (.int .i64)⟩, ⟨false, .any⟩, ⟨false, .any⟩, ⟨false, (.lit (.int .u64 0))⟩, ⟨false, (.lit (.bool false))⟩, ⟨true, (.int .u64)⟩, ⟨true, (.int .i64)⟩, ⟨false, .any⟩, ⟨false, .any⟩, ⟨false, .any⟩, ⟨false, .any⟩, ⟨false, .any⟩, ⟨false, .any⟩, ⟨false, .any⟩, ⟨false, .any⟩, ⟨false, .any⟩, ⟨false, .any⟩, ⟨false, .any⟩, ⟨false, .any⟩, ⟨false, .any⟩, ⟨false, .any⟩, ⟨false, .any⟩, ⟨false, .any⟩, ⟨false, .any⟩, ⟨false, .any⟩, ⟨false, .any⟩, ⟨false, .any⟩, ⟨false, .any⟩, ⟨false, .any⟩, ⟨false, .any⟩, ⟨false, .any⟩, ⟨false, .any⟩, ⟨false, .any⟩, ⟨false, .any⟩, ⟨false, .any⟩, ⟨false, .any⟩, ⟨false, .any⟩, ⟨false, .any⟩, ⟨false, .any⟩, ⟨false, .any⟩, ⟨false, .any⟩], [], [⟨0, 0, [⟨false, .str⟩, ⟨false, (.int .i64)⟩, ⟨true, .any⟩, ⟨true, .any⟩, ⟨true, (.lit (.int .u64 0))⟩, ⟨true, (.lit (.bool false))⟩, ⟨true, (.int .u64)⟩, ⟨true, .any⟩, ⟨true, .any⟩, ⟨true, .any⟩, ⟨true, .any⟩, ⟨true, .any⟩, ⟨true, .any⟩, ⟨true, .any⟩, ⟨true, .any⟩, ⟨true, .any⟩, ⟨true, .any⟩, ⟨true, .any⟩, ⟨true, .any⟩, ⟨true, .any⟩, ⟨true, .any⟩, ⟨true, .any⟩, ⟨true, .any⟩, ⟨true, .any⟩, ⟨true, .any⟩, ⟨true, .any⟩, ⟨true, .any⟩, ⟨true, .any⟩, ⟨true, .any⟩, ⟨true, .any⟩, ⟨true, .any⟩, ⟨true, .any⟩, ⟨true, .any⟩, ⟨true, .any⟩, ⟨true, .any⟩, ⟨true, .any⟩, ⟨true, .any⟩, ⟨true, .any⟩, ⟨true, .any⟩, ⟨true, .any⟩, ⟨true, .any⟩, ⟨true, .any⟩], []⟩, ⟨1, 0, [⟨false, .str⟩, ⟨false, (.int .i64)⟩, ⟨true, .any⟩, ⟨true, .any⟩, ⟨true, (.lit (.int .u64 0))⟩, ⟨true, (.lit (.bool false))⟩, ⟨true, .any⟩, ⟨true, .any⟩, ⟨true, .any⟩, ⟨true, .any⟩, ⟨true, .any⟩, ⟨true, .any⟩, ⟨true, .any⟩, ⟨true, .any⟩, ⟨true, .any⟩, ⟨true, .any⟩, ⟨true, .any⟩, ⟨true, .any⟩, ⟨true, .any⟩, ⟨true, .any⟩, ⟨true, .any⟩, ⟨true, .any⟩, ⟨true, .any⟩, ⟨true, .any⟩, ⟨true, .any⟩, ⟨true, .any⟩, ⟨true, .any⟩, ⟨true, .any⟩, ⟨true, .any⟩, ⟨true, .any⟩, ⟨true, .any⟩, ⟨true, .any⟩, ⟨true, .any⟩, ⟨true, .any⟩, ⟨true, .any⟩, ⟨true, .any⟩, ⟨true, .any⟩, ⟨true, .any⟩, ⟨true, .any⟩, ⟨true, .any⟩, ⟨true, .any⟩, ⟨true, .any⟩], []⟩]⟩

noncomputable def st29_5 (p s : List D) : Option (Sum (List D) (List D)) := stepQX env tb50 60 12 29 (loopC 29 5) S29_5 p s

theorem st29_5_eq (ps0 : ByteArray) (pn1 : Int) (sn0 : Int) (sn1 : Int) : st29_5  [(D.str ps0), (D.int pn1)] [(D.int sn0), (D.int sn1)] =
    bif (qcmp BinOp.lss sn1 (qlenS ps0)) then
    bif (qinbS ps0 sn1) then
    bif (qsome (q50 [(D.int (qidxS ps0 sn1))])) then
    bif (qiteB (qcmp BinOp.lss (qint (qnth (q50 [(D.int (qidxS ps0 sn1))]) 0)) 0) Bool.true (qcmp BinOp.geq (qint (qnth (q50 [(D.int (qidxS ps0 sn1))]) 0)) pn1)) then
    some (Sum.inr [(D.int 1)])
    else
    some (Sum.inl [(D.int (qbin BinOp.add IntKind.u64 (qbin BinOp.mul IntKind.u64 sn0 (qwrap IntKind.u64 pn1)) (qwrap IntKind.u64 (qint (qnth (q50 [(D.int (qidxS ps0 sn1))]) 0))))), (D.int (qbin BinOp.add IntKind.i64 sn1 1))])
    else
    none
    else
    none
    else
    some (Sum.inr [(D.int 0), (D.int sn0)]) := by
  have h : st29_5  [(D.str ps0), (D.int pn1)] [(D.int sn0), (D.int sn1)] =
    bif (qcmp BinOp.lss sn1 (qlenS ps0)) then
    bif (qinbS ps0 sn1) then
    bif (qsome (q50 [(D.int (qidxS ps0 sn1))])) then
    bif (qiteB (qcmp BinOp.lss (qint (qnth (q50 [(D.int (qidxS ps0 sn1))]) 0)) 0) Bool.true (qcmp BinOp.geq (qint (qnth (q50 [(D.int (qidxS ps0 sn1))]) 0)) pn1)) then
    bif (qeqD (D.str ps0) (D.str ps0)) then
    bif (qeqD (D.int pn1) (D.int pn1)) then
    some (Sum.inr [(D.int 1)])
    else
    none
    else
    none
    else
    bif (qeqD (D.str ps0) (D.str ps0)) then
    bif (qeqD (D.int pn1) (D.int pn1)) then
    some (Sum.inl [(D.int (qbin BinOp.add IntKind.u64 (qbin BinOp.mul IntKind.u64 sn0 (qwrap IntKind.u64 pn1)) (qwrap IntKind.u64 (qint (qnth (q50 [(D.int (qidxS ps0 sn1))]) 0))))), (D.int (qbin BinOp.add IntKind.i64 sn1 1))])
    else
    none
    else
    none
    else
    none
    else
    none
    else
    bif (qeqD (D.str ps0) (D.str ps0)) then
    bif (qeqD (D.int pn1) (D.int pn1)) then
    some (Sum.inr [(D.int 0), (D.int sn0)])
    else
    none
    else
    none := by kernel_rfl
  rw [h]; simp only [qeqD_self, qeqI_self, qeq_len, show qcmp BinOp.eql 0 (qlen (D.list [])) = true from qeq_len [], show ∀ a, qcmp BinOp.eql 1 (qlen (D.list [a])) = true from fun a => qeq_len [a], show ∀ a b, qcmp BinOp.eql 2 (qlen (D.list [a, b])) = true from fun a b => qeq_len [a, b], show ∀ a b c, qcmp BinOp.eql 3 (qlen (D.list [a, b, c])) = true from fun a b c => qeq_len [a, b, c], show ∀ a b c d, qcmp BinOp.eql 4 (qlen (D.list [a, b, c, d])) = true from fun a b c d => qeq_len [a, b, c, d], cond_true]

noncomputable def l29_5 : List D → List D → Option (List D) := veil fun p s => loW (st29_5  p) s

theorem l29_5_eq : l29_5  = fun p s => loW (st29_5  p) s := veil_eq _

noncomputable def tbl29_5 : Tb := Tb.addL tb50 29 5 S29_5.n0 (mkLp S29_5 (l29_5 ))

theorem ok_tbl29_5 : TbOk env (tbl29_5 ) := addLoopQ ok_tb50 29 5 (by kernel_rfl) _ (l29_5_eq )

def S29 : FunS := ⟨[⟨true, .str⟩, ⟨true, (.int .i64)⟩], [], [⟨true, (.tup [(.int .u64), .bool])⟩], []⟩

noncomputable def F29 : List D → Option (List D) := liftX env tbl29_5 60 12 29 S29

theorem F29_eq  (ss0 : ByteArray) (sn1 : Int) : F29  [(D.str ss0), (D.int sn1)] =
    bif (qiteB (qcmp BinOp.lss (qlenS ss0) 1) Bool.true (qcmp BinOp.gtr (qlenS ss0) 10)) then
    some [(D.int 0), (D.bool Bool.false)]
    else
    bif (qsome (l29_5 [(D.str ss0), (D.int sn1)] [(D.int 0), (D.int 0)])) then
    bif (qcmp BinOp.eql (qint (qnth (l29_5 [(D.str ss0), (D.int sn1)] [(D.int 0), (D.int 0)]) 0)) 0) then
    some [(D.int (qint (qnth (l29_5 [(D.str ss0), (D.int sn1)] [(D.int 0), (D.int 0)]) 1))), (D.bool Bool.true)]
    else
    some [(D.int 0), (D.bool Bool.false)]
    else
    none := by kernel_rfl

noncomputable def q29 : List D → Option (List D) := veil (F29 )

theorem q29_eq : q29  = F29  := veil_eq _

noncomputable def tb29 : Tb := Tb.addF tbl29_5 29 S29 (q29 )

theorem ok_tb29 : TbOk env (tb29 ) := addFunF ok_tbl29_5 29 (by kernel_rfl) _ (q29_eq )

/- function 12  -/

def S12 : FunS := ⟨[⟨true, .str⟩], [], [⟨true, (.tup [(.int .u32), .bool])⟩], []⟩

noncomputable def F12 : List D → Option (List D) := liftX env tb29 60 12 12 S12

theorem F12_eq  (ss0 : ByteArray) : F12  [(D.str ss0)] =
    bif (qiteB (qcmp BinOp.gtr (qlenS ss0) 2) (qand (qcmp BinOp.leq 0 0) (qand (qcmp BinOp.leq 0 2) (qcmp BinOp.leq 2 (qlenS ss0)))) Bool.true) then
    bif (qiteB (qcmp BinOp.gtr (qlenS ss0) 2) (qcmpS BinOp.eql (qsubS ss0 0 2) (ByteArray.mk #[48, 120])) Bool.false) then
    bif (qcmp BinOp.leq 0 2) then
    bif (qcmp BinOp.leq 2 (qlenS ss0)) then
    bif (qcmp BinOp.leq (qlenS ss0) (qlenS ss0)) then
    bif (qsome (q29 [(D.str (qsubS ss0 2 (qlenS ss0))), (D.int 16)])) then
    bif (qiteB (qnot (qbool (qnth (q29 [(D.str (qsubS ss0 2 (qlenS ss0))), (D.int 16)]) 1))) Bool.true (qcmp BinOp.gtr (qlenS ss0) 10)) then
    some [(D.int 0), (D.bool Bool.false)]
    else
    some [(D.int (qwrap IntKind.u32 (qint (qnth (q29 [(D.str (qsubS ss0 2 (qlenS ss0))), (D.int 16)]) 0)))), (D.bool Bool.true)]
    else
    none
    else
    none
    else
    none
    else
    none
    else
    bif (qiteB (qcmp BinOp.gtr (qlenS ss0) 0) (qinbS ss0 0) Bool.true) then
    bif (qiteB (qiteB (qcmp BinOp.gtr (qlenS ss0) 0) (qcmp BinOp.eql (qidxS ss0 0) 45) Bool.false) (qand (qcmp BinOp.leq 0 1) (qand (qcmp BinOp.leq 1 (qlenS ss0)) (qcmp BinOp.leq (qlenS ss0) (qlenS ss0)))) Bool.true) then
    bif (qsome (q29 [(D.str (qiteS (qiteB (qcmp BinOp.gtr (qlenS ss0) 0) (qcmp BinOp.eql (qidxS ss0 0) 45) Bool.false) (qsubS ss0 1 (qlenS ss0)) ss0)), (D.int 10)])) then
    bif (qiteB (qnot (qbool (qnth (q29 [(D.str (qiteS (qiteB (qcmp BinOp.gtr (qlenS ss0) 0) (qcmp BinOp.eql (qidxS ss0 0) 45) Bool.false) (qsubS ss0 1 (qlenS ss0)) ss0)), (D.int 10)]) 1))) Bool.true (qinbS (qiteS (qiteB (qcmp BinOp.gtr (qlenS ss0) 0) (qcmp BinOp.eql (qidxS ss0 0) 45) Bool.false) (qsubS ss0 1 (qlenS ss0)) ss0) 0)) then
    bif (qiteB (qiteB (qiteB (qnot (qbool (qnth (q29 [(D.str (qiteS (qiteB (qcmp BinOp.gtr (qlenS ss0) 0) (qcmp BinOp.eql (qidxS ss0 0) 45) Bool.false) (qsubS ss0 1 (qlenS ss0)) ss0)), (D.int 10)]) 1))) Bool.true (qiteB (qcmp BinOp.eql (qidxS (qiteS (qiteB (qcmp BinOp.gtr (qlenS ss0) 0) (qcmp BinOp.eql (qidxS ss0 0) 45) Bool.false) (qsubS ss0 1 (qlenS ss0)) ss0) 0) 48) (qiteB (qcmp BinOp.gtr (qlenS (qiteS (qiteB (qcmp BinOp.gtr (qlenS ss0) 0) (qcmp BinOp.eql (qidxS ss0 0) 45) Bool.false) (qsubS ss0 1 (qlenS ss0)) ss0)) 1) Bool.true (qiteB (qcmp BinOp.gtr (qlenS ss0) 0) (qcmp BinOp.eql (qidxS ss0 0) 45) Bool.false)) Bool.false)) Bool.true (qiteB (qnot (qiteB (qcmp BinOp.gtr (qlenS ss0) 0) (qcmp BinOp.eql (qidxS ss0 0) 45) Bool.false)) (qcmp BinOp.gtr (qint (qnth (q29 [(D.str (qiteS (qiteB (qcmp BinOp.gtr (qlenS ss0) 0) (qcmp BinOp.eql (qidxS ss0 0) 45) Bool.false) (qsubS ss0 1 (qlenS ss0)) ss0)), (D.int 10)]) 0)) 4294967295) Bool.false)) Bool.true (qiteB (qiteB (qcmp BinOp.gtr (qlenS ss0) 0) (qcmp BinOp.eql (qidxS ss0 0) 45) Bool.false) (qcmp BinOp.gtr (qint (qnth (q29 [(D.str (qiteS (qiteB (qcmp BinOp.gtr (qlenS ss0) 0) (qcmp BinOp.eql (qidxS ss0 0) 45) Bool.false) (qsubS ss0 1 (qlenS ss0)) ss0)), (D.int 10)]) 0)) 2147483648) Bool.false)) then
    some [(D.int 0), (D.bool Bool.false)]
    else
    bif (qiteB (qcmp BinOp.gtr (qlenS ss0) 0) (qcmp BinOp.eql (qidxS ss0 0) 45) Bool.false) then
    some [(D.int (qwrap IntKind.u32 (qbin BinOp.sub IntKind.u64 4294967296 (qint (qnth (q29 [(D.str (qiteS (qiteB (qcmp BinOp.gtr (qlenS ss0) 0) (qcmp BinOp.eql (qidxS ss0 0) 45) Bool.false) (qsubS ss0 1 (qlenS ss0)) ss0)), (D.int 10)]) 0))))), (D.bool Bool.true)]
    else
    some [(D.int (qwrap IntKind.u32 (qint (qnth (q29 [(D.str (qiteS (qiteB (qcmp BinOp.gtr (qlenS ss0) 0) (qcmp BinOp.eql (qidxS ss0 0) 45) Bool.false) (qsubS ss0 1 (qlenS ss0)) ss0)), (D.int 10)]) 0)))), (D.bool Bool.true)]
    else
    none
    else
    none
    else
    none
    else
    none
    else
    none := by kernel_rfl

noncomputable def q12 : List D → Option (List D) := veil (F12 )

theorem q12_eq : q12  = F12  := veil_eq _

noncomputable def tb12 : Tb := Tb.addF tb29 12 S12 (q12 )

theorem ok_tb12 : TbOk env (tb12 ) := addFunF ok_tb29 12 (by kernel_rfl) _ (q12_eq )

end Go.Proofs.YtobhhfbdelnhfaaDoor

open Go Go.AM
namespace Go.Proofs.YtobhhfbdelnhfaaDoor
set_option maxRecDepth 100000
set_option linter.unusedSimpArgs false
set_option linter.unusedVariables false
noncomputable def tb8 : Tb := Tb.addF tb12 8 S8 q8

theorem ok_tb8 : TbOk env tb8 := TbOk.addF ok_tb12 (by kernel_rfl) sound8

/- function 5  -/

def S5 : FunS := ⟨[⟨true, .str⟩], [], [⟨true, .bool⟩], []⟩

noncomputable def F5 : List D → Option (List D) := liftX env tb8 60 12 5 S5

theorem F5_eq  (ss0 : ByteArray) : F5  [(D.str ss0)] =
    bif (qcmp BinOp.gtr (qlenS ss0) 100) then
    bif (qsome (q8 [])) then
    some [(D.bool (qbool (qnth (q8 []) 0)))]
    else
    none
    else
    bif (qsome (q11 [(D.str ss0)])) then
    bif (qsome (q12 [(D.str ss0)])) then
    bif (qsome (q13 [(D.str ss0)])) then
    bif (qsome (q14 [(D.str ss0)])) then
    bif (qiteB (qiteB (qiteB (qiteB (qcmp BinOp.eql (qint (qnth (q11 [(D.str ss0)]) 0)) (qint (qnth (q12 [(D.str ss0)]) 0))) (qeqB (qbool (qnth (q11 [(D.str ss0)]) 1)) (qbool (qnth (q12 [(D.str ss0)]) 1))) Bool.false) (qcmp BinOp.eql (qint (qnth (q13 [(D.str ss0)]) 0)) (qint (qnth (q14 [(D.str ss0)]) 0))) Bool.false) (qeqB (qbool (qnth (q13 [(D.str ss0)]) 1)) (qbool (qnth (q14 [(D.str ss0)]) 1))) Bool.false) (qsome (q8 [])) Bool.true) then
    some [(D.bool (qiteB (qiteB (qiteB (qiteB (qcmp BinOp.eql (qint (qnth (q11 [(D.str ss0)]) 0)) (qint (qnth (q12 [(D.str ss0)]) 0))) (qeqB (qbool (qnth (q11 [(D.str ss0)]) 1)) (qbool (qnth (q12 [(D.str ss0)]) 1))) Bool.false) (qcmp BinOp.eql (qint (qnth (q13 [(D.str ss0)]) 0)) (qint (qnth (q14 [(D.str ss0)]) 0))) Bool.false) (qeqB (qbool (qnth (q13 [(D.str ss0)]) 1)) (qbool (qnth (q14 [(D.str ss0)]) 1))) Bool.false) (qbool (qnth (q8 []) 0)) Bool.false))]
    else
    none
    else
    none
    else
    none
    else
    none
    else
    none := by kernel_rfl

noncomputable def q5 : List D → Option (List D) := veil (F5 )

theorem q5_eq : q5  = F5  := veil_eq _

noncomputable def tb5 : Tb := Tb.addF tb8 5 S5 (q5 )

theorem ok_tb5 : TbOk env (tb5 ) := addFunF ok_tb8 5 (by kernel_rfl) _ (q5_eq )

end Go.Proofs.YtobhhfbdelnhfaaDoor
