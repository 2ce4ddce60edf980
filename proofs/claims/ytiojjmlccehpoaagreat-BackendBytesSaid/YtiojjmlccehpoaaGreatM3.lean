/-
  Made by gen3.py: what functions of the seat compute, as partial functions on data, and that they do.
-/
import Derived.Test.YtiojjmlccehpoaaGreatM2
import Derived.KernelRfl
import Derived.Test.YtiojjmlccehpoaaGreatEx43
open Go Go.AM
namespace Go.Proofs.YtiojjmlccehpoaaGreat
set_option maxRecDepth 100000
set_option linter.unusedSimpArgs false
set_option linter.unusedVariables false
/- function 80  -/

def S80 : FunS := ⟨[⟨true, (.int .u8)⟩], [], [⟨true, (.tup [(.dat 46), .bool])⟩], []⟩

noncomputable def F80 : List D → Option (List D) := liftX env tb27 60 6 80 S80

theorem F80_eq  (sn0 : Int) : F80  [(D.int sn0)] =
    bif (qcmp BinOp.leq sn0 2) then
      some [(D.agg [(D.int 0), (D.int 0), (D.int (qwrap IntKind.i64 sn0)), (D.int 0), (D.int 0), (D.int 0), (D.int 0), (D.int 0), (D.int 0)]), (D.bool Bool.true)]
    else
      bif (qiteB (qcmp BinOp.geq sn0 8) (qcmp BinOp.lss sn0 16) Bool.false) then
        some [(D.agg [(D.int 0), (D.int 0), (D.int 3), (D.int 0), (D.int 0), (D.int 0), (D.int (qbin BinOp.sub IntKind.i64 (qwrap IntKind.i64 (qbin BinOp.and IntKind.u8 sn0 15)) 8)), (D.int 0), (D.int 0)]), (D.bool Bool.true)]
      else
        bif (qiteB (qcmp BinOp.geq sn0 16) (qcmp BinOp.lss sn0 24) Bool.false) then
          some [(D.agg [(D.int 0), (D.int 0), (D.int 4), (D.int 0), (D.int 0), (D.int 0), (D.int (qwrap IntKind.i64 (qbin BinOp.and IntKind.u8 sn0 15))), (D.int 0), (D.int 0)]), (D.bool Bool.true)]
        else
          bif (qiteB (qiteB (qcmp BinOp.geq (qwrap IntKind.i64 (qbin BinOp.shr IntKind.u8 sn0 4)) 2) (qcmp BinOp.leq (qwrap IntKind.i64 (qbin BinOp.shr IntKind.u8 sn0 4)) 4) Bool.false) (qcmp BinOp.leq (qwrap IntKind.i64 (qbin BinOp.and IntKind.u8 sn0 15)) 10) Bool.false) then
            some [(D.agg [(D.int 0), (D.int 0), (D.int (qbin BinOp.add IntKind.i64 5 (qwrap IntKind.i64 (qbin BinOp.and IntKind.u8 sn0 15)))), (D.int (qbin BinOp.sub IntKind.i64 (qwrap IntKind.i64 (qbin BinOp.shr IntKind.u8 sn0 4)) 2)), (D.int 0), (D.int 0), (D.int 0), (D.int 0), (D.int 0)]), (D.bool Bool.true)]
          else
            bif (qiteB (qcmp BinOp.eql (qwrap IntKind.i64 (qbin BinOp.shr IntKind.u8 sn0 4)) 6) (qcmp BinOp.leq (qwrap IntKind.i64 (qbin BinOp.and IntKind.u8 sn0 15)) 14) Bool.false) then
              some [(D.agg [(D.int 0), (D.int 0), (D.int 20), (D.int 1), (D.int 0), (D.int (qwrap IntKind.i64 (qbin BinOp.and IntKind.u8 sn0 15))), (D.int 0), (D.int 0), (D.int 0)]), (D.bool Bool.true)]
            else
              bif (qiteB (qcmp BinOp.eql (qwrap IntKind.i64 (qbin BinOp.shr IntKind.u8 sn0 4)) 7) (qcmp BinOp.leq (qwrap IntKind.i64 (qbin BinOp.and IntKind.u8 sn0 15)) 14) Bool.false) then
                some [(D.agg [(D.int 0), (D.int 0), (D.int 20), (D.int 2), (D.int 0), (D.int (qwrap IntKind.i64 (qbin BinOp.and IntKind.u8 sn0 15))), (D.int 0), (D.int 0), (D.int 0)]), (D.bool Bool.true)]
              else
                bif (qiteB (qcmp BinOp.eql (qwrap IntKind.i64 (qbin BinOp.shr IntKind.u8 sn0 4)) 9) (qcmp BinOp.leq (qwrap IntKind.i64 (qbin BinOp.and IntKind.u8 sn0 15)) 14) Bool.false) then
                  some [(D.agg [(D.int 0), (D.int 0), (D.int 25), (D.int 0), (D.int 0), (D.int (qwrap IntKind.i64 (qbin BinOp.and IntKind.u8 sn0 15))), (D.int 0), (D.int 0), (D.int 0)]), (D.bool Bool.true)]
                else
                  bif (qsome (Proofs.YtiojjmlccehpoaaGreat.q81 [(D.agg [(D.int 0), (D.int 0), (D.int 16), (D.int 0), (D.int 4), (D.int 0), (D.int 0), (D.int 0), (D.int 0)])])) then
                    bif (qiteB (qbool (qnth (Proofs.YtiojjmlccehpoaaGreat.q81 [(D.agg [(D.int 0), (D.int 0), (D.int 16), (D.int 0), (D.int 4), (D.int 0), (D.int 0), (D.int 0), (D.int 0)])]) 2)) (qcmp BinOp.eql (qint (qnth (Proofs.YtiojjmlccehpoaaGreat.q81 [(D.agg [(D.int 0), (D.int 0), (D.int 16), (D.int 0), (D.int 4), (D.int 0), (D.int 0), (D.int 0), (D.int 0)])]) 0)) sn0) Bool.false) then
                      some [(D.agg [(D.int 0), (D.int 0), (D.int 16), (D.int 0), (D.int 4), (D.int 0), (D.int 0), (D.int 0), (D.int 0)]), (D.bool Bool.true)]
                    else
                      bif (qsome (Proofs.YtiojjmlccehpoaaGreat.q81 [(D.agg [(D.int 0), (D.int 0), (D.int 16), (D.int 0), (D.int 1), (D.int 0), (D.int 0), (D.int 0), (D.int 0)])])) then
                        bif (qiteB (qbool (qnth (Proofs.YtiojjmlccehpoaaGreat.q81 [(D.agg [(D.int 0), (D.int 0), (D.int 16), (D.int 0), (D.int 1), (D.int 0), (D.int 0), (D.int 0), (D.int 0)])]) 2)) (qcmp BinOp.eql (qint (qnth (Proofs.YtiojjmlccehpoaaGreat.q81 [(D.agg [(D.int 0), (D.int 0), (D.int 16), (D.int 0), (D.int 1), (D.int 0), (D.int 0), (D.int 0), (D.int 0)])]) 0)) sn0) Bool.false) then
                          some [(D.agg [(D.int 0), (D.int 0), (D.int 16), (D.int 0), (D.int 1), (D.int 0), (D.int 0), (D.int 0), (D.int 0)]), (D.bool Bool.true)]
                        else
                          bif (qsome (Proofs.YtiojjmlccehpoaaGreat.q81 [(D.agg [(D.int 0), (D.int 0), (D.int 17), (D.int 0), (D.int 1), (D.int 0), (D.int 0), (D.int 0), (D.int 0)])])) then
                            bif (qiteB (qbool (qnth (Proofs.YtiojjmlccehpoaaGreat.q81 [(D.agg [(D.int 0), (D.int 0), (D.int 17), (D.int 0), (D.int 1), (D.int 0), (D.int 0), (D.int 0), (D.int 0)])]) 2)) (qcmp BinOp.eql (qint (qnth (Proofs.YtiojjmlccehpoaaGreat.q81 [(D.agg [(D.int 0), (D.int 0), (D.int 17), (D.int 0), (D.int 1), (D.int 0), (D.int 0), (D.int 0), (D.int 0)])]) 0)) sn0) Bool.false) then
                              some [(D.agg [(D.int 0), (D.int 0), (D.int 17), (D.int 0), (D.int 1), (D.int 0), (D.int 0), (D.int 0), (D.int 0)]), (D.bool Bool.true)]
                            else
                              bif (qsome (Proofs.YtiojjmlccehpoaaGreat.q81 [(D.agg [(D.int 0), (D.int 0), (D.int 16), (D.int 0), (D.int 2), (D.int 0), (D.int 0), (D.int 0), (D.int 0)])])) then
                                bif (qiteB (qbool (qnth (Proofs.YtiojjmlccehpoaaGreat.q81 [(D.agg [(D.int 0), (D.int 0), (D.int 16), (D.int 0), (D.int 2), (D.int 0), (D.int 0), (D.int 0), (D.int 0)])]) 2)) (qcmp BinOp.eql (qint (qnth (Proofs.YtiojjmlccehpoaaGreat.q81 [(D.agg [(D.int 0), (D.int 0), (D.int 16), (D.int 0), (D.int 2), (D.int 0), (D.int 0), (D.int 0), (D.int 0)])]) 0)) sn0) Bool.false) then
                                  some [(D.agg [(D.int 0), (D.int 0), (D.int 16), (D.int 0), (D.int 2), (D.int 0), (D.int 0), (D.int 0), (D.int 0)]), (D.bool Bool.true)]
                                else
                                  bif (qsome (Proofs.YtiojjmlccehpoaaGreat.q81 [(D.agg [(D.int 0), (D.int 0), (D.int 17), (D.int 0), (D.int 2), (D.int 0), (D.int 0), (D.int 0), (D.int 0)])])) then
                                    bif (qiteB (qbool (qnth (Proofs.YtiojjmlccehpoaaGreat.q81 [(D.agg [(D.int 0), (D.int 0), (D.int 17), (D.int 0), (D.int 2), (D.int 0), (D.int 0), (D.int 0), (D.int 0)])]) 2)) (qcmp BinOp.eql (qint (qnth (Proofs.YtiojjmlccehpoaaGreat.q81 [(D.agg [(D.int 0), (D.int 0), (D.int 17), (D.int 0), (D.int 2), (D.int 0), (D.int 0), (D.int 0), (D.int 0)])]) 0)) sn0) Bool.false) then
                                      some [(D.agg [(D.int 0), (D.int 0), (D.int 17), (D.int 0), (D.int 2), (D.int 0), (D.int 0), (D.int 0), (D.int 0)]), (D.bool Bool.true)]
                                    else
                                      bif (qsome (Proofs.YtiojjmlccehpoaaGreat.q81 [(D.agg [(D.int 0), (D.int 0), (D.int 18), (D.int 0), (D.int 4), (D.int 0), (D.int 0), (D.int 0), (D.int 0)])])) then
                                        bif (qiteB (qbool (qnth (Proofs.YtiojjmlccehpoaaGreat.q81 [(D.agg [(D.int 0), (D.int 0), (D.int 18), (D.int 0), (D.int 4), (D.int 0), (D.int 0), (D.int 0), (D.int 0)])]) 2)) (qcmp BinOp.eql (qint (qnth (Proofs.YtiojjmlccehpoaaGreat.q81 [(D.agg [(D.int 0), (D.int 0), (D.int 18), (D.int 0), (D.int 4), (D.int 0), (D.int 0), (D.int 0), (D.int 0)])]) 0)) sn0) Bool.false) then
                                          some [(D.agg [(D.int 0), (D.int 0), (D.int 18), (D.int 0), (D.int 4), (D.int 0), (D.int 0), (D.int 0), (D.int 0)]), (D.bool Bool.true)]
                                        else
                                          bif (qsome (Proofs.YtiojjmlccehpoaaGreat.q81 [(D.agg [(D.int 0), (D.int 0), (D.int 18), (D.int 0), (D.int 1), (D.int 0), (D.int 0), (D.int 0), (D.int 0)])])) then
                                            bif (qiteB (qbool (qnth (Proofs.YtiojjmlccehpoaaGreat.q81 [(D.agg [(D.int 0), (D.int 0), (D.int 18), (D.int 0), (D.int 1), (D.int 0), (D.int 0), (D.int 0), (D.int 0)])]) 2)) (qcmp BinOp.eql (qint (qnth (Proofs.YtiojjmlccehpoaaGreat.q81 [(D.agg [(D.int 0), (D.int 0), (D.int 18), (D.int 0), (D.int 1), (D.int 0), (D.int 0), (D.int 0), (D.int 0)])]) 0)) sn0) Bool.false) then
                                              some [(D.agg [(D.int 0), (D.int 0), (D.int 18), (D.int 0), (D.int 1), (D.int 0), (D.int 0), (D.int 0), (D.int 0)]), (D.bool Bool.true)]
                                            else
                                              bif (qsome (Proofs.YtiojjmlccehpoaaGreat.q81 [(D.agg [(D.int 0), (D.int 0), (D.int 18), (D.int 0), (D.int 2), (D.int 0), (D.int 0), (D.int 0), (D.int 0)])])) then
                                                bif (qiteB (qbool (qnth (Proofs.YtiojjmlccehpoaaGreat.q81 [(D.agg [(D.int 0), (D.int 0), (D.int 18), (D.int 0), (D.int 2), (D.int 0), (D.int 0), (D.int 0), (D.int 0)])]) 2)) (qcmp BinOp.eql (qint (qnth (Proofs.YtiojjmlccehpoaaGreat.q81 [(D.agg [(D.int 0), (D.int 0), (D.int 18), (D.int 0), (D.int 2), (D.int 0), (D.int 0), (D.int 0), (D.int 0)])]) 0)) sn0) Bool.false) then
                                                  some [(D.agg [(D.int 0), (D.int 0), (D.int 18), (D.int 0), (D.int 2), (D.int 0), (D.int 0), (D.int 0), (D.int 0)]), (D.bool Bool.true)]
                                                else
                                                  bif (qsome (Proofs.YtiojjmlccehpoaaGreat.q81 [(D.agg [(D.int 0), (D.int 0), (D.int 19), (D.int 0), (D.int 0), (D.int 0), (D.int 0), (D.int 0), (D.int 0)])])) then
                                                    bif (qiteB (qbool (qnth (Proofs.YtiojjmlccehpoaaGreat.q81 [(D.agg [(D.int 0), (D.int 0), (D.int 19), (D.int 0), (D.int 0), (D.int 0), (D.int 0), (D.int 0), (D.int 0)])]) 2)) (qcmp BinOp.eql (qint (qnth (Proofs.YtiojjmlccehpoaaGreat.q81 [(D.agg [(D.int 0), (D.int 0), (D.int 19), (D.int 0), (D.int 0), (D.int 0), (D.int 0), (D.int 0), (D.int 0)])]) 0)) sn0) Bool.false) then
                                                      some [(D.agg [(D.int 0), (D.int 0), (D.int 19), (D.int 0), (D.int 0), (D.int 0), (D.int 0), (D.int 0), (D.int 0)]), (D.bool Bool.true)]
                                                    else
                                                      bif (qsome (Proofs.YtiojjmlccehpoaaGreat.q81 [(D.agg [(D.int 0), (D.int 0), (D.int 23), (D.int 0), (D.int 0), (D.int 0), (D.int 0), (D.int 0), (D.int 0)])])) then
                                                        bif (qiteB (qbool (qnth (Proofs.YtiojjmlccehpoaaGreat.q81 [(D.agg [(D.int 0), (D.int 0), (D.int 23), (D.int 0), (D.int 0), (D.int 0), (D.int 0), (D.int 0), (D.int 0)])]) 2)) (qcmp BinOp.eql (qint (qnth (Proofs.YtiojjmlccehpoaaGreat.q81 [(D.agg [(D.int 0), (D.int 0), (D.int 23), (D.int 0), (D.int 0), (D.int 0), (D.int 0), (D.int 0), (D.int 0)])]) 0)) sn0) Bool.false) then
                                                          some [(D.agg [(D.int 0), (D.int 0), (D.int 23), (D.int 0), (D.int 0), (D.int 0), (D.int 0), (D.int 0), (D.int 0)]), (D.bool Bool.true)]
                                                        else
                                                          bif (qsome (Proofs.YtiojjmlccehpoaaGreat.q81 [(D.agg [(D.int 0), (D.int 0), (D.int 24), (D.int 0), (D.int 0), (D.int 0), (D.int 0), (D.int 0), (D.int 0)])])) then
                                                            bif (qiteB (qbool (qnth (Proofs.YtiojjmlccehpoaaGreat.q81 [(D.agg [(D.int 0), (D.int 0), (D.int 24), (D.int 0), (D.int 0), (D.int 0), (D.int 0), (D.int 0), (D.int 0)])]) 2)) (qcmp BinOp.eql (qint (qnth (Proofs.YtiojjmlccehpoaaGreat.q81 [(D.agg [(D.int 0), (D.int 0), (D.int 24), (D.int 0), (D.int 0), (D.int 0), (D.int 0), (D.int 0), (D.int 0)])]) 0)) sn0) Bool.false) then
                                                              some [(D.agg [(D.int 0), (D.int 0), (D.int 24), (D.int 0), (D.int 0), (D.int 0), (D.int 0), (D.int 0), (D.int 0)]), (D.bool Bool.true)]
                                                            else
                                                              bif (qsome (Proofs.YtiojjmlccehpoaaGreat.q81 [(D.agg [(D.int 0), (D.int 0), (D.int 21), (D.int 0), (D.int 0), (D.int 0), (D.int 0), (D.int 0), (D.int 0)])])) then
                                                                bif (qiteB (qbool (qnth (Proofs.YtiojjmlccehpoaaGreat.q81 [(D.agg [(D.int 0), (D.int 0), (D.int 21), (D.int 0), (D.int 0), (D.int 0), (D.int 0), (D.int 0), (D.int 0)])]) 2)) (qcmp BinOp.eql (qint (qnth (Proofs.YtiojjmlccehpoaaGreat.q81 [(D.agg [(D.int 0), (D.int 0), (D.int 21), (D.int 0), (D.int 0), (D.int 0), (D.int 0), (D.int 0), (D.int 0)])]) 0)) sn0) Bool.false) then
                                                                  some [(D.agg [(D.int 0), (D.int 0), (D.int 21), (D.int 0), (D.int 0), (D.int 0), (D.int 0), (D.int 0), (D.int 0)]), (D.bool Bool.true)]
                                                                else
                                                                  bif (qsome (Proofs.YtiojjmlccehpoaaGreat.q81 [(D.agg [(D.int 0), (D.int 0), (D.int 22), (D.int 0), (D.int 0), (D.int 0), (D.int 0), (D.int 0), (D.int 0)])])) then
                                                                    bif (qiteB (qbool (qnth (Proofs.YtiojjmlccehpoaaGreat.q81 [(D.agg [(D.int 0), (D.int 0), (D.int 22), (D.int 0), (D.int 0), (D.int 0), (D.int 0), (D.int 0), (D.int 0)])]) 2)) (qcmp BinOp.eql (qint (qnth (Proofs.YtiojjmlccehpoaaGreat.q81 [(D.agg [(D.int 0), (D.int 0), (D.int 22), (D.int 0), (D.int 0), (D.int 0), (D.int 0), (D.int 0), (D.int 0)])]) 0)) sn0) Bool.false) then
                                                                      some [(D.agg [(D.int 0), (D.int 0), (D.int 22), (D.int 0), (D.int 0), (D.int 0), (D.int 0), (D.int 0), (D.int 0)]), (D.bool Bool.true)]
                                                                    else
                                                                      bif (qsome (Proofs.YtiojjmlccehpoaaGreat.q81 [(D.agg [(D.int 0), (D.int 0), (D.int 26), (D.int 0), (D.int 0), (D.int 0), (D.int 0), (D.int 0), (D.int 0)])])) then
                                                                        bif (qiteB (qbool (qnth (Proofs.YtiojjmlccehpoaaGreat.q81 [(D.agg [(D.int 0), (D.int 0), (D.int 26), (D.int 0), (D.int 0), (D.int 0), (D.int 0), (D.int 0), (D.int 0)])]) 2)) (qcmp BinOp.eql (qint (qnth (Proofs.YtiojjmlccehpoaaGreat.q81 [(D.agg [(D.int 0), (D.int 0), (D.int 26), (D.int 0), (D.int 0), (D.int 0), (D.int 0), (D.int 0), (D.int 0)])]) 0)) sn0) Bool.false) then
                                                                          some [(D.agg [(D.int 0), (D.int 0), (D.int 26), (D.int 0), (D.int 0), (D.int 0), (D.int 0), (D.int 0), (D.int 0)]), (D.bool Bool.true)]
                                                                        else
                                                                          bif (qsome (Proofs.YtiojjmlccehpoaaGreat.q81 [(D.agg [(D.int 0), (D.int 0), (D.int 27), (D.int 0), (D.int 0), (D.int 0), (D.int 0), (D.int 0), (D.int 0)])])) then
                                                                            bif (qiteB (qbool (qnth (Proofs.YtiojjmlccehpoaaGreat.q81 [(D.agg [(D.int 0), (D.int 0), (D.int 27), (D.int 0), (D.int 0), (D.int 0), (D.int 0), (D.int 0), (D.int 0)])]) 2)) (qcmp BinOp.eql (qint (qnth (Proofs.YtiojjmlccehpoaaGreat.q81 [(D.agg [(D.int 0), (D.int 0), (D.int 27), (D.int 0), (D.int 0), (D.int 0), (D.int 0), (D.int 0), (D.int 0)])]) 0)) sn0) Bool.false) then
                                                                              some [(D.agg [(D.int 0), (D.int 0), (D.int 27), (D.int 0), (D.int 0), (D.int 0), (D.int 0), (D.int 0), (D.int 0)]), (D.bool Bool.true)]
                                                                            else
                                                                              none
                                                                          else
                                                                            none
                                                                      else
                                                                        none
                                                                  else
                                                                    none
                                                              else
                                                                none
                                                          else
                                                            none
                                                      else
                                                        none
                                                  else
                                                    none
                                              else
                                                none
                                          else
                                            none
                                      else
                                        none
                                  else
                                    none
                              else
                                none
                          else
                            none
                      else
                        none
                  else
                    none := by kernel_rfl

noncomputable def q80 : List D → Option (List D) := veil (F80 )

theorem q80_eq : q80  = F80  := veil_eq _

noncomputable def tb80 : Tb := Tb.addF tb27 80 S80 (q80 )

theorem ok_tb80 : TbOk env (tb80 ) := addFunF ok_tb27 80 (by kernel_rfl) _ (q80_eq )

/- function 28  -/

def S28 : FunS := ⟨[⟨true, (.rows 5)⟩, ⟨true, (.int .u32)⟩], [], [⟨true, (.tup [(.dat 46), (.int .i64)])⟩], []⟩

noncomputable def F28 : List D → Option (List D) := liftX env tb80 60 6 28 S28

noncomputable def F28_a0 (sd0 : D) (sn1 : Int) : D := (D.agg [(D.int sn1), (D.int (qint (qfld (qnth (Proofs.YtiojjmlccehpoaaGreat.q80 [(D.int (qint (qget sd0 0)))]) 0) 1))), (D.int (qint (qfld (qnth (Proofs.YtiojjmlccehpoaaGreat.q80 [(D.int (qint (qget sd0 0)))]) 0) 2))), (D.int (qint (qfld (qnth (Proofs.YtiojjmlccehpoaaGreat.q80 [(D.int (qint (qget sd0 0)))]) 0) 3))), (D.int (qint (qfld (qnth (Proofs.YtiojjmlccehpoaaGreat.q80 [(D.int (qint (qget sd0 0)))]) 0) 4))), (D.int (qint (qfld (qnth (Proofs.YtiojjmlccehpoaaGreat.q80 [(D.int (qint (qget sd0 0)))]) 0) 5))), (D.int (qint (qfld (qnth (Proofs.YtiojjmlccehpoaaGreat.q80 [(D.int (qint (qget sd0 0)))]) 0) 6))), (D.int (qint (qfld (qnth (Proofs.YtiojjmlccehpoaaGreat.q80 [(D.int (qint (qget sd0 0)))]) 0) 7))), (D.int (qint (qnth (Proofs.YtiojjmlccehpoaaGreat.q73 [(D.int (qint (qnth (Proofs.YtiojjmlccehpoaaGreat.q81 [(qnth (Proofs.YtiojjmlccehpoaaGreat.q80 [(D.int (qint (qget sd0 0)))]) 0)]) 1)))]) 0)))])

noncomputable def F28_a1 (sd0 : D) (sn1 : Int) : D := (D.agg [(D.int 0), (D.int 0), (D.int 0), (D.int 0), (D.int 0), (D.int 0), (D.int 0), (D.int 0), (D.int 0)])

noncomputable def F28_a2 (sd0 : D) (sn1 : Int) : D := (D.agg [(D.int sn1), (D.int (qbin BinOp.add IntKind.u32 (qbin BinOp.add IntKind.u32 sn1 (qwrap IntKind.u32 (qint (qnth (Proofs.YtiojjmlccehpoaaGreat.q73 [(D.int (qint (qnth (Proofs.YtiojjmlccehpoaaGreat.q81 [(qnth (Proofs.YtiojjmlccehpoaaGreat.q80 [(D.int (qint (qget sd0 0)))]) 0)]) 1)))]) 0)))) (qint (qnth (Proofs.YtiojjmlccehpoaaGreat.q83 [sd0, (D.int 1), (D.int 4)]) 0)))), (D.int (qint (qfld (qnth (Proofs.YtiojjmlccehpoaaGreat.q80 [(D.int (qint (qget sd0 0)))]) 0) 2))), (D.int (qint (qfld (qnth (Proofs.YtiojjmlccehpoaaGreat.q80 [(D.int (qint (qget sd0 0)))]) 0) 3))), (D.int (qint (qfld (qnth (Proofs.YtiojjmlccehpoaaGreat.q80 [(D.int (qint (qget sd0 0)))]) 0) 4))), (D.int (qint (qfld (qnth (Proofs.YtiojjmlccehpoaaGreat.q80 [(D.int (qint (qget sd0 0)))]) 0) 5))), (D.int (qint (qfld (qnth (Proofs.YtiojjmlccehpoaaGreat.q80 [(D.int (qint (qget sd0 0)))]) 0) 6))), (D.int (qint (qfld (qnth (Proofs.YtiojjmlccehpoaaGreat.q80 [(D.int (qint (qget sd0 0)))]) 0) 7))), (D.int (qint (qnth (Proofs.YtiojjmlccehpoaaGreat.q73 [(D.int (qint (qnth (Proofs.YtiojjmlccehpoaaGreat.q81 [(qnth (Proofs.YtiojjmlccehpoaaGreat.q80 [(D.int (qint (qget sd0 0)))]) 0)]) 1)))]) 0)))])

noncomputable def F28_a3 (sd0 : D) (sn1 : Int) : D := (D.agg [(D.int sn1), (D.int (qbin BinOp.add IntKind.u32 (qbin BinOp.add IntKind.u32 sn1 (qwrap IntKind.u32 (qint (qnth (Proofs.YtiojjmlccehpoaaGreat.q73 [(D.int (qint (qnth (Proofs.YtiojjmlccehpoaaGreat.q81 [(qnth (Proofs.YtiojjmlccehpoaaGreat.q80 [(D.int (qint (qget sd0 0)))]) 0)]) 1)))]) 0)))) (qint (qnth (Proofs.YtiojjmlccehpoaaGreat.q82 [(D.int (qwrap IntKind.u32 (qint (qget sd0 1)))), (D.int 1)]) 0)))), (D.int (qint (qfld (qnth (Proofs.YtiojjmlccehpoaaGreat.q80 [(D.int (qint (qget sd0 0)))]) 0) 2))), (D.int (qint (qfld (qnth (Proofs.YtiojjmlccehpoaaGreat.q80 [(D.int (qint (qget sd0 0)))]) 0) 3))), (D.int (qint (qfld (qnth (Proofs.YtiojjmlccehpoaaGreat.q80 [(D.int (qint (qget sd0 0)))]) 0) 4))), (D.int (qint (qfld (qnth (Proofs.YtiojjmlccehpoaaGreat.q80 [(D.int (qint (qget sd0 0)))]) 0) 5))), (D.int (qint (qfld (qnth (Proofs.YtiojjmlccehpoaaGreat.q80 [(D.int (qint (qget sd0 0)))]) 0) 6))), (D.int (qint (qfld (qnth (Proofs.YtiojjmlccehpoaaGreat.q80 [(D.int (qint (qget sd0 0)))]) 0) 7))), (D.int (qint (qnth (Proofs.YtiojjmlccehpoaaGreat.q73 [(D.int (qint (qnth (Proofs.YtiojjmlccehpoaaGreat.q81 [(qnth (Proofs.YtiojjmlccehpoaaGreat.q80 [(D.int (qint (qget sd0 0)))]) 0)]) 1)))]) 0)))])

noncomputable def F28_a4 (sd0 : D) (sn1 : Int) : D := (D.agg [(D.int sn1), (D.int (qint (qnth (Proofs.YtiojjmlccehpoaaGreat.q83 [sd0, (D.int 2), (D.int 4)]) 0))), (D.int (qint (qfld (qnth (Proofs.YtiojjmlccehpoaaGreat.q80 [(D.int (qint (qget sd0 0)))]) 0) 2))), (D.int (qint (qfld (qnth (Proofs.YtiojjmlccehpoaaGreat.q80 [(D.int (qint (qget sd0 0)))]) 0) 3))), (D.int (qint (qfld (qnth (Proofs.YtiojjmlccehpoaaGreat.q80 [(D.int (qint (qget sd0 0)))]) 0) 4))), (D.int (qint (qfld (qnth (Proofs.YtiojjmlccehpoaaGreat.q80 [(D.int (qint (qget sd0 0)))]) 0) 5))), (D.int (qint (qfld (qnth (Proofs.YtiojjmlccehpoaaGreat.q80 [(D.int (qint (qget sd0 0)))]) 0) 6))), (D.int (qint (qfld (qnth (Proofs.YtiojjmlccehpoaaGreat.q80 [(D.int (qint (qget sd0 0)))]) 0) 7))), (D.int (qint (qnth (Proofs.YtiojjmlccehpoaaGreat.q73 [(D.int (qint (qnth (Proofs.YtiojjmlccehpoaaGreat.q81 [(qnth (Proofs.YtiojjmlccehpoaaGreat.q80 [(D.int (qint (qget sd0 0)))]) 0)]) 1)))]) 0)))])

noncomputable def F28_a5 (sd0 : D) (sn1 : Int) : D := (D.agg [(D.int sn1), (D.int (qint (qnth (Proofs.YtiojjmlccehpoaaGreat.q82 [(D.int (qwrap IntKind.u32 (qint (qget sd0 2)))), (D.int 1)]) 0))), (D.int (qint (qfld (qnth (Proofs.YtiojjmlccehpoaaGreat.q80 [(D.int (qint (qget sd0 0)))]) 0) 2))), (D.int (qint (qfld (qnth (Proofs.YtiojjmlccehpoaaGreat.q80 [(D.int (qint (qget sd0 0)))]) 0) 3))), (D.int (qint (qfld (qnth (Proofs.YtiojjmlccehpoaaGreat.q80 [(D.int (qint (qget sd0 0)))]) 0) 4))), (D.int (qint (qfld (qnth (Proofs.YtiojjmlccehpoaaGreat.q80 [(D.int (qint (qget sd0 0)))]) 0) 5))), (D.int (qint (qfld (qnth (Proofs.YtiojjmlccehpoaaGreat.q80 [(D.int (qint (qget sd0 0)))]) 0) 6))), (D.int (qint (qfld (qnth (Proofs.YtiojjmlccehpoaaGreat.q80 [(D.int (qint (qget sd0 0)))]) 0) 7))), (D.int (qint (qnth (Proofs.YtiojjmlccehpoaaGreat.q73 [(D.int (qint (qnth (Proofs.YtiojjmlccehpoaaGreat.q81 [(qnth (Proofs.YtiojjmlccehpoaaGreat.q80 [(D.int (qint (qget sd0 0)))]) 0)]) 1)))]) 0)))])

noncomputable def F28_a6 (sd0 : D) (sn1 : Int) : D := (D.agg [(D.int sn1), (D.int (qint (qfld (qnth (Proofs.YtiojjmlccehpoaaGreat.q80 [(D.int (qint (qget sd0 0)))]) 0) 1))), (D.int (qint (qfld (qnth (Proofs.YtiojjmlccehpoaaGreat.q80 [(D.int (qint (qget sd0 0)))]) 0) 2))), (D.int (qint (qfld (qnth (Proofs.YtiojjmlccehpoaaGreat.q80 [(D.int (qint (qget sd0 0)))]) 0) 3))), (D.int (qint (qfld (qnth (Proofs.YtiojjmlccehpoaaGreat.q80 [(D.int (qint (qget sd0 0)))]) 0) 4))), (D.int (qint (qfld (qnth (Proofs.YtiojjmlccehpoaaGreat.q80 [(D.int (qint (qget sd0 0)))]) 0) 5))), (D.int (qwrap IntKind.i64 (qbin BinOp.shr IntKind.u8 (qint (qget sd0 1)) 4))), (D.int (qwrap IntKind.i64 (qbin BinOp.and IntKind.u8 (qint (qget sd0 1)) 15))), (D.int (qint (qnth (Proofs.YtiojjmlccehpoaaGreat.q73 [(D.int (qint (qnth (Proofs.YtiojjmlccehpoaaGreat.q81 [(qnth (Proofs.YtiojjmlccehpoaaGreat.q80 [(D.int (qint (qget sd0 0)))]) 0)]) 1)))]) 0)))])

noncomputable def F28_a7 (sd0 : D) (sn1 : Int) : D := (D.agg [(D.int sn1), (D.int (qbin BinOp.add IntKind.u32 (qbin BinOp.add IntKind.u32 sn1 (qwrap IntKind.u32 (qint (qnth (Proofs.YtiojjmlccehpoaaGreat.q73 [(D.int (qint (qnth (Proofs.YtiojjmlccehpoaaGreat.q81 [(qnth (Proofs.YtiojjmlccehpoaaGreat.q80 [(D.int (qint (qget sd0 0)))]) 0)]) 1)))]) 0)))) (qint (qnth (Proofs.YtiojjmlccehpoaaGreat.q83 [sd0, (D.int 1), (D.int 4)]) 0)))), (D.int (qint (qfld (qnth (Proofs.YtiojjmlccehpoaaGreat.q80 [(D.int (qint (qget sd0 0)))]) 0) 2))), (D.int (qint (qfld (qnth (Proofs.YtiojjmlccehpoaaGreat.q80 [(D.int (qint (qget sd0 0)))]) 0) 3))), (D.int (qint (qfld (qnth (Proofs.YtiojjmlccehpoaaGreat.q80 [(D.int (qint (qget sd0 0)))]) 0) 4))), (D.int (qint (qfld (qnth (Proofs.YtiojjmlccehpoaaGreat.q80 [(D.int (qint (qget sd0 0)))]) 0) 5))), (D.int (qwrap IntKind.i64 (qbin BinOp.shr IntKind.u8 (qint (qget sd0 1)) 4))), (D.int (qwrap IntKind.i64 (qbin BinOp.and IntKind.u8 (qint (qget sd0 1)) 15))), (D.int (qint (qnth (Proofs.YtiojjmlccehpoaaGreat.q73 [(D.int (qint (qnth (Proofs.YtiojjmlccehpoaaGreat.q81 [(qnth (Proofs.YtiojjmlccehpoaaGreat.q80 [(D.int (qint (qget sd0 0)))]) 0)]) 1)))]) 0)))])

noncomputable def F28_a8 (sd0 : D) (sn1 : Int) : D := (D.agg [(D.int sn1), (D.int (qbin BinOp.add IntKind.u32 (qbin BinOp.add IntKind.u32 sn1 (qwrap IntKind.u32 (qint (qnth (Proofs.YtiojjmlccehpoaaGreat.q73 [(D.int (qint (qnth (Proofs.YtiojjmlccehpoaaGreat.q81 [(qnth (Proofs.YtiojjmlccehpoaaGreat.q80 [(D.int (qint (qget sd0 0)))]) 0)]) 1)))]) 0)))) (qint (qnth (Proofs.YtiojjmlccehpoaaGreat.q82 [(D.int (qwrap IntKind.u32 (qint (qget sd0 1)))), (D.int 1)]) 0)))), (D.int (qint (qfld (qnth (Proofs.YtiojjmlccehpoaaGreat.q80 [(D.int (qint (qget sd0 0)))]) 0) 2))), (D.int (qint (qfld (qnth (Proofs.YtiojjmlccehpoaaGreat.q80 [(D.int (qint (qget sd0 0)))]) 0) 3))), (D.int (qint (qfld (qnth (Proofs.YtiojjmlccehpoaaGreat.q80 [(D.int (qint (qget sd0 0)))]) 0) 4))), (D.int (qint (qfld (qnth (Proofs.YtiojjmlccehpoaaGreat.q80 [(D.int (qint (qget sd0 0)))]) 0) 5))), (D.int (qwrap IntKind.i64 (qbin BinOp.shr IntKind.u8 (qint (qget sd0 1)) 4))), (D.int (qwrap IntKind.i64 (qbin BinOp.and IntKind.u8 (qint (qget sd0 1)) 15))), (D.int (qint (qnth (Proofs.YtiojjmlccehpoaaGreat.q73 [(D.int (qint (qnth (Proofs.YtiojjmlccehpoaaGreat.q81 [(qnth (Proofs.YtiojjmlccehpoaaGreat.q80 [(D.int (qint (qget sd0 0)))]) 0)]) 1)))]) 0)))])

noncomputable def F28_a9 (sd0 : D) (sn1 : Int) : D := (D.agg [(D.int sn1), (D.int (qint (qnth (Proofs.YtiojjmlccehpoaaGreat.q83 [sd0, (D.int 2), (D.int 4)]) 0))), (D.int (qint (qfld (qnth (Proofs.YtiojjmlccehpoaaGreat.q80 [(D.int (qint (qget sd0 0)))]) 0) 2))), (D.int (qint (qfld (qnth (Proofs.YtiojjmlccehpoaaGreat.q80 [(D.int (qint (qget sd0 0)))]) 0) 3))), (D.int (qint (qfld (qnth (Proofs.YtiojjmlccehpoaaGreat.q80 [(D.int (qint (qget sd0 0)))]) 0) 4))), (D.int (qint (qfld (qnth (Proofs.YtiojjmlccehpoaaGreat.q80 [(D.int (qint (qget sd0 0)))]) 0) 5))), (D.int (qwrap IntKind.i64 (qbin BinOp.shr IntKind.u8 (qint (qget sd0 1)) 4))), (D.int (qwrap IntKind.i64 (qbin BinOp.and IntKind.u8 (qint (qget sd0 1)) 15))), (D.int (qint (qnth (Proofs.YtiojjmlccehpoaaGreat.q73 [(D.int (qint (qnth (Proofs.YtiojjmlccehpoaaGreat.q81 [(qnth (Proofs.YtiojjmlccehpoaaGreat.q80 [(D.int (qint (qget sd0 0)))]) 0)]) 1)))]) 0)))])

noncomputable def F28_a10 (sd0 : D) (sn1 : Int) : D := (D.agg [(D.int sn1), (D.int (qint (qnth (Proofs.YtiojjmlccehpoaaGreat.q82 [(D.int (qwrap IntKind.u32 (qint (qget sd0 2)))), (D.int 1)]) 0))), (D.int (qint (qfld (qnth (Proofs.YtiojjmlccehpoaaGreat.q80 [(D.int (qint (qget sd0 0)))]) 0) 2))), (D.int (qint (qfld (qnth (Proofs.YtiojjmlccehpoaaGreat.q80 [(D.int (qint (qget sd0 0)))]) 0) 3))), (D.int (qint (qfld (qnth (Proofs.YtiojjmlccehpoaaGreat.q80 [(D.int (qint (qget sd0 0)))]) 0) 4))), (D.int (qint (qfld (qnth (Proofs.YtiojjmlccehpoaaGreat.q80 [(D.int (qint (qget sd0 0)))]) 0) 5))), (D.int (qwrap IntKind.i64 (qbin BinOp.shr IntKind.u8 (qint (qget sd0 1)) 4))), (D.int (qwrap IntKind.i64 (qbin BinOp.and IntKind.u8 (qint (qget sd0 1)) 15))), (D.int (qint (qnth (Proofs.YtiojjmlccehpoaaGreat.q73 [(D.int (qint (qnth (Proofs.YtiojjmlccehpoaaGreat.q81 [(qnth (Proofs.YtiojjmlccehpoaaGreat.q80 [(D.int (qint (qget sd0 0)))]) 0)]) 1)))]) 0)))])

noncomputable def F28_a11 (sd0 : D) (sn1 : Int) : D := (D.agg [(D.int sn1), (D.int (qint (qfld (qnth (Proofs.YtiojjmlccehpoaaGreat.q80 [(D.int (qint (qget sd0 0)))]) 0) 1))), (D.int (qint (qfld (qnth (Proofs.YtiojjmlccehpoaaGreat.q80 [(D.int (qint (qget sd0 0)))]) 0) 2))), (D.int (qint (qfld (qnth (Proofs.YtiojjmlccehpoaaGreat.q80 [(D.int (qint (qget sd0 0)))]) 0) 3))), (D.int (qint (qfld (qnth (Proofs.YtiojjmlccehpoaaGreat.q80 [(D.int (qint (qget sd0 0)))]) 0) 4))), (D.int (qint (qfld (qnth (Proofs.YtiojjmlccehpoaaGreat.q80 [(D.int (qint (qget sd0 0)))]) 0) 5))), (D.int (qwrap IntKind.i64 (qint (qget sd0 1)))), (D.int (qint (qfld (qnth (Proofs.YtiojjmlccehpoaaGreat.q80 [(D.int (qint (qget sd0 0)))]) 0) 7))), (D.int (qint (qnth (Proofs.YtiojjmlccehpoaaGreat.q73 [(D.int (qint (qnth (Proofs.YtiojjmlccehpoaaGreat.q81 [(qnth (Proofs.YtiojjmlccehpoaaGreat.q80 [(D.int (qint (qget sd0 0)))]) 0)]) 1)))]) 0)))])

noncomputable def F28_a12 (sd0 : D) (sn1 : Int) : D := (D.agg [(D.int sn1), (D.int (qbin BinOp.add IntKind.u32 (qbin BinOp.add IntKind.u32 sn1 (qwrap IntKind.u32 (qint (qnth (Proofs.YtiojjmlccehpoaaGreat.q73 [(D.int (qint (qnth (Proofs.YtiojjmlccehpoaaGreat.q81 [(qnth (Proofs.YtiojjmlccehpoaaGreat.q80 [(D.int (qint (qget sd0 0)))]) 0)]) 1)))]) 0)))) (qint (qnth (Proofs.YtiojjmlccehpoaaGreat.q83 [sd0, (D.int 1), (D.int 4)]) 0)))), (D.int (qint (qfld (qnth (Proofs.YtiojjmlccehpoaaGreat.q80 [(D.int (qint (qget sd0 0)))]) 0) 2))), (D.int (qint (qfld (qnth (Proofs.YtiojjmlccehpoaaGreat.q80 [(D.int (qint (qget sd0 0)))]) 0) 3))), (D.int (qint (qfld (qnth (Proofs.YtiojjmlccehpoaaGreat.q80 [(D.int (qint (qget sd0 0)))]) 0) 4))), (D.int (qint (qfld (qnth (Proofs.YtiojjmlccehpoaaGreat.q80 [(D.int (qint (qget sd0 0)))]) 0) 5))), (D.int (qwrap IntKind.i64 (qint (qget sd0 1)))), (D.int (qint (qfld (qnth (Proofs.YtiojjmlccehpoaaGreat.q80 [(D.int (qint (qget sd0 0)))]) 0) 7))), (D.int (qint (qnth (Proofs.YtiojjmlccehpoaaGreat.q73 [(D.int (qint (qnth (Proofs.YtiojjmlccehpoaaGreat.q81 [(qnth (Proofs.YtiojjmlccehpoaaGreat.q80 [(D.int (qint (qget sd0 0)))]) 0)]) 1)))]) 0)))])

noncomputable def F28_a13 (sd0 : D) (sn1 : Int) : D := (D.agg [(D.int sn1), (D.int (qbin BinOp.add IntKind.u32 (qbin BinOp.add IntKind.u32 sn1 (qwrap IntKind.u32 (qint (qnth (Proofs.YtiojjmlccehpoaaGreat.q73 [(D.int (qint (qnth (Proofs.YtiojjmlccehpoaaGreat.q81 [(qnth (Proofs.YtiojjmlccehpoaaGreat.q80 [(D.int (qint (qget sd0 0)))]) 0)]) 1)))]) 0)))) (qint (qnth (Proofs.YtiojjmlccehpoaaGreat.q82 [(D.int (qwrap IntKind.u32 (qint (qget sd0 1)))), (D.int 1)]) 0)))), (D.int (qint (qfld (qnth (Proofs.YtiojjmlccehpoaaGreat.q80 [(D.int (qint (qget sd0 0)))]) 0) 2))), (D.int (qint (qfld (qnth (Proofs.YtiojjmlccehpoaaGreat.q80 [(D.int (qint (qget sd0 0)))]) 0) 3))), (D.int (qint (qfld (qnth (Proofs.YtiojjmlccehpoaaGreat.q80 [(D.int (qint (qget sd0 0)))]) 0) 4))), (D.int (qint (qfld (qnth (Proofs.YtiojjmlccehpoaaGreat.q80 [(D.int (qint (qget sd0 0)))]) 0) 5))), (D.int (qwrap IntKind.i64 (qint (qget sd0 1)))), (D.int (qint (qfld (qnth (Proofs.YtiojjmlccehpoaaGreat.q80 [(D.int (qint (qget sd0 0)))]) 0) 7))), (D.int (qint (qnth (Proofs.YtiojjmlccehpoaaGreat.q73 [(D.int (qint (qnth (Proofs.YtiojjmlccehpoaaGreat.q81 [(qnth (Proofs.YtiojjmlccehpoaaGreat.q80 [(D.int (qint (qget sd0 0)))]) 0)]) 1)))]) 0)))])

noncomputable def F28_a14 (sd0 : D) (sn1 : Int) : D := (D.agg [(D.int sn1), (D.int (qint (qnth (Proofs.YtiojjmlccehpoaaGreat.q83 [sd0, (D.int 2), (D.int 4)]) 0))), (D.int (qint (qfld (qnth (Proofs.YtiojjmlccehpoaaGreat.q80 [(D.int (qint (qget sd0 0)))]) 0) 2))), (D.int (qint (qfld (qnth (Proofs.YtiojjmlccehpoaaGreat.q80 [(D.int (qint (qget sd0 0)))]) 0) 3))), (D.int (qint (qfld (qnth (Proofs.YtiojjmlccehpoaaGreat.q80 [(D.int (qint (qget sd0 0)))]) 0) 4))), (D.int (qint (qfld (qnth (Proofs.YtiojjmlccehpoaaGreat.q80 [(D.int (qint (qget sd0 0)))]) 0) 5))), (D.int (qwrap IntKind.i64 (qint (qget sd0 1)))), (D.int (qint (qfld (qnth (Proofs.YtiojjmlccehpoaaGreat.q80 [(D.int (qint (qget sd0 0)))]) 0) 7))), (D.int (qint (qnth (Proofs.YtiojjmlccehpoaaGreat.q73 [(D.int (qint (qnth (Proofs.YtiojjmlccehpoaaGreat.q81 [(qnth (Proofs.YtiojjmlccehpoaaGreat.q80 [(D.int (qint (qget sd0 0)))]) 0)]) 1)))]) 0)))])

noncomputable def F28_a15 (sd0 : D) (sn1 : Int) : D := (D.agg [(D.int sn1), (D.int (qint (qnth (Proofs.YtiojjmlccehpoaaGreat.q82 [(D.int (qwrap IntKind.u32 (qint (qget sd0 2)))), (D.int 1)]) 0))), (D.int (qint (qfld (qnth (Proofs.YtiojjmlccehpoaaGreat.q80 [(D.int (qint (qget sd0 0)))]) 0) 2))), (D.int (qint (qfld (qnth (Proofs.YtiojjmlccehpoaaGreat.q80 [(D.int (qint (qget sd0 0)))]) 0) 3))), (D.int (qint (qfld (qnth (Proofs.YtiojjmlccehpoaaGreat.q80 [(D.int (qint (qget sd0 0)))]) 0) 4))), (D.int (qint (qfld (qnth (Proofs.YtiojjmlccehpoaaGreat.q80 [(D.int (qint (qget sd0 0)))]) 0) 5))), (D.int (qwrap IntKind.i64 (qint (qget sd0 1)))), (D.int (qint (qfld (qnth (Proofs.YtiojjmlccehpoaaGreat.q80 [(D.int (qint (qget sd0 0)))]) 0) 7))), (D.int (qint (qnth (Proofs.YtiojjmlccehpoaaGreat.q73 [(D.int (qint (qnth (Proofs.YtiojjmlccehpoaaGreat.q81 [(qnth (Proofs.YtiojjmlccehpoaaGreat.q80 [(D.int (qint (qget sd0 0)))]) 0)]) 1)))]) 0)))])

theorem F28_eq  (sd0 : D) (sn1 : Int) : F28  [sd0, (D.int sn1)] =
    bif (qcmp BinOp.eql (qlen sd0) 0) then
      some [(F28_a1 sd0 sn1), (D.int 5)]
    else
      bif (qinb sd0 0) then
        bif (qsome (Proofs.YtiojjmlccehpoaaGreat.q80 [(D.int (qint (qget sd0 0)))])) then
          bif (qnot (qbool (qnth (Proofs.YtiojjmlccehpoaaGreat.q80 [(D.int (qint (qget sd0 0)))]) 1))) then
            some [(F28_a1 sd0 sn1), (D.int 13)]
          else
            bif (qsome (Proofs.YtiojjmlccehpoaaGreat.q81 [(qnth (Proofs.YtiojjmlccehpoaaGreat.q80 [(D.int (qint (qget sd0 0)))]) 0)])) then
              bif (qsome (Proofs.YtiojjmlccehpoaaGreat.q73 [(D.int (qint (qnth (Proofs.YtiojjmlccehpoaaGreat.q81 [(qnth (Proofs.YtiojjmlccehpoaaGreat.q80 [(D.int (qint (qget sd0 0)))]) 0)]) 1)))])) then
                bif (qcmp BinOp.lss (qlen sd0) (qint (qnth (Proofs.YtiojjmlccehpoaaGreat.q73 [(D.int (qint (qnth (Proofs.YtiojjmlccehpoaaGreat.q81 [(qnth (Proofs.YtiojjmlccehpoaaGreat.q80 [(D.int (qint (qget sd0 0)))]) 0)]) 1)))]) 0))) then
                  some [(F28_a1 sd0 sn1), (D.int 5)]
                else
                  bif (qiteB (qcmp BinOp.eql (qint (qnth (Proofs.YtiojjmlccehpoaaGreat.q81 [(qnth (Proofs.YtiojjmlccehpoaaGreat.q80 [(D.int (qint (qget sd0 0)))]) 0)]) 1)) 2) (qcmp BinOp.eql (qint (qnth (Proofs.YtiojjmlccehpoaaGreat.q81 [(qnth (Proofs.YtiojjmlccehpoaaGreat.q80 [(D.int (qint (qget sd0 0)))]) 0)]) 1)) 2) (qiteB (qcmp BinOp.eql (qint (qnth (Proofs.YtiojjmlccehpoaaGreat.q81 [(qnth (Proofs.YtiojjmlccehpoaaGreat.q80 [(D.int (qint (qget sd0 0)))]) 0)]) 1)) 4) (qcmp BinOp.eql (qint (qnth (Proofs.YtiojjmlccehpoaaGreat.q81 [(qnth (Proofs.YtiojjmlccehpoaaGreat.q80 [(D.int (qint (qget sd0 0)))]) 0)]) 1)) 4) (qcmp BinOp.eql (qint (qnth (Proofs.YtiojjmlccehpoaaGreat.q81 [(qnth (Proofs.YtiojjmlccehpoaaGreat.q80 [(D.int (qint (qget sd0 0)))]) 0)]) 1)) 6))) then
                    bif (qinb sd0 1) then
                      bif (qiteB (qcmp BinOp.eql (qint (qnth (Proofs.YtiojjmlccehpoaaGreat.q81 [(qnth (Proofs.YtiojjmlccehpoaaGreat.q80 [(D.int (qint (qget sd0 0)))]) 0)]) 1)) 4) (qcmp BinOp.eql (qint (qnth (Proofs.YtiojjmlccehpoaaGreat.q81 [(qnth (Proofs.YtiojjmlccehpoaaGreat.q80 [(D.int (qint (qget sd0 0)))]) 0)]) 1)) 4) (qcmp BinOp.eql (qint (qnth (Proofs.YtiojjmlccehpoaaGreat.q81 [(qnth (Proofs.YtiojjmlccehpoaaGreat.q80 [(D.int (qint (qget sd0 0)))]) 0)]) 1)) 5)) then
                        bif (qinb sd0 2) then
                          bif (qsome (Proofs.YtiojjmlccehpoaaGreat.q82 [(D.int (qwrap IntKind.u32 (qint (qget sd0 2)))), (D.int 1)])) then
                            bif (qiteB (qnot (qiteB (qcmp BinOp.geq (qwrap IntKind.i64 (qint (qget sd0 1))) 0) (qcmp BinOp.lss (qwrap IntKind.i64 (qint (qget sd0 1))) 8) Bool.false)) Bool.true (qnot (qiteB (qcmp BinOp.geq (qint (qfld (qnth (Proofs.YtiojjmlccehpoaaGreat.q80 [(D.int (qint (qget sd0 0)))]) 0) 7)) 0) (qcmp BinOp.lss (qint (qfld (qnth (Proofs.YtiojjmlccehpoaaGreat.q80 [(D.int (qint (qget sd0 0)))]) 0) 7)) 8) Bool.false))) then
                              some [(F28_a1 sd0 sn1), (D.int 13)]
                            else
                              some [(F28_a15 sd0 sn1), (D.int 0)]
                          else
                            none
                        else
                          none
                      else
                        bif (qcmp BinOp.eql (qint (qnth (Proofs.YtiojjmlccehpoaaGreat.q81 [(qnth (Proofs.YtiojjmlccehpoaaGreat.q80 [(D.int (qint (qget sd0 0)))]) 0)]) 1)) 6) then
                          bif (qsome (Proofs.YtiojjmlccehpoaaGreat.q83 [sd0, (D.int 2), (D.int 4)])) then
                            bif (qiteB (qnot (qiteB (qcmp BinOp.geq (qwrap IntKind.i64 (qint (qget sd0 1))) 0) (qcmp BinOp.lss (qwrap IntKind.i64 (qint (qget sd0 1))) 8) Bool.false)) Bool.true (qnot (qiteB (qcmp BinOp.geq (qint (qfld (qnth (Proofs.YtiojjmlccehpoaaGreat.q80 [(D.int (qint (qget sd0 0)))]) 0) 7)) 0) (qcmp BinOp.lss (qint (qfld (qnth (Proofs.YtiojjmlccehpoaaGreat.q80 [(D.int (qint (qget sd0 0)))]) 0) 7)) 8) Bool.false))) then
                              some [(F28_a1 sd0 sn1), (D.int 13)]
                            else
                              some [(F28_a14 sd0 sn1), (D.int 0)]
                          else
                            none
                        else
                          bif (qcmp BinOp.eql (qint (qnth (Proofs.YtiojjmlccehpoaaGreat.q81 [(qnth (Proofs.YtiojjmlccehpoaaGreat.q80 [(D.int (qint (qget sd0 0)))]) 0)]) 1)) 7) then
                            bif (qinb sd0 1) then
                              bif (qsome (Proofs.YtiojjmlccehpoaaGreat.q82 [(D.int (qwrap IntKind.u32 (qint (qget sd0 1)))), (D.int 1)])) then
                                bif (qiteB (qnot (qiteB (qcmp BinOp.geq (qwrap IntKind.i64 (qint (qget sd0 1))) 0) (qcmp BinOp.lss (qwrap IntKind.i64 (qint (qget sd0 1))) 8) Bool.false)) Bool.true (qnot (qiteB (qcmp BinOp.geq (qint (qfld (qnth (Proofs.YtiojjmlccehpoaaGreat.q80 [(D.int (qint (qget sd0 0)))]) 0) 7)) 0) (qcmp BinOp.lss (qint (qfld (qnth (Proofs.YtiojjmlccehpoaaGreat.q80 [(D.int (qint (qget sd0 0)))]) 0) 7)) 8) Bool.false))) then
                                  some [(F28_a1 sd0 sn1), (D.int 13)]
                                else
                                  some [(F28_a13 sd0 sn1), (D.int 0)]
                              else
                                none
                            else
                              none
                          else
                            bif (qcmp BinOp.eql (qint (qnth (Proofs.YtiojjmlccehpoaaGreat.q81 [(qnth (Proofs.YtiojjmlccehpoaaGreat.q80 [(D.int (qint (qget sd0 0)))]) 0)]) 1)) 8) then
                              bif (qsome (Proofs.YtiojjmlccehpoaaGreat.q83 [sd0, (D.int 1), (D.int 4)])) then
                                bif (qiteB (qnot (qiteB (qcmp BinOp.geq (qwrap IntKind.i64 (qint (qget sd0 1))) 0) (qcmp BinOp.lss (qwrap IntKind.i64 (qint (qget sd0 1))) 8) Bool.false)) Bool.true (qnot (qiteB (qcmp BinOp.geq (qint (qfld (qnth (Proofs.YtiojjmlccehpoaaGreat.q80 [(D.int (qint (qget sd0 0)))]) 0) 7)) 0) (qcmp BinOp.lss (qint (qfld (qnth (Proofs.YtiojjmlccehpoaaGreat.q80 [(D.int (qint (qget sd0 0)))]) 0) 7)) 8) Bool.false))) then
                                  some [(F28_a1 sd0 sn1), (D.int 13)]
                                else
                                  some [(F28_a12 sd0 sn1), (D.int 0)]
                              else
                                none
                            else
                              bif (qiteB (qnot (qiteB (qcmp BinOp.geq (qwrap IntKind.i64 (qint (qget sd0 1))) 0) (qcmp BinOp.lss (qwrap IntKind.i64 (qint (qget sd0 1))) 8) Bool.false)) Bool.true (qnot (qiteB (qcmp BinOp.geq (qint (qfld (qnth (Proofs.YtiojjmlccehpoaaGreat.q80 [(D.int (qint (qget sd0 0)))]) 0) 7)) 0) (qcmp BinOp.lss (qint (qfld (qnth (Proofs.YtiojjmlccehpoaaGreat.q80 [(D.int (qint (qget sd0 0)))]) 0) 7)) 8) Bool.false))) then
                                some [(F28_a1 sd0 sn1), (D.int 13)]
                              else
                                some [(F28_a11 sd0 sn1), (D.int 0)]
                    else
                      none
                  else
                    bif (qiteB (qcmp BinOp.eql (qint (qnth (Proofs.YtiojjmlccehpoaaGreat.q81 [(qnth (Proofs.YtiojjmlccehpoaaGreat.q80 [(D.int (qint (qget sd0 0)))]) 0)]) 1)) 3) (qcmp BinOp.eql (qint (qnth (Proofs.YtiojjmlccehpoaaGreat.q81 [(qnth (Proofs.YtiojjmlccehpoaaGreat.q80 [(D.int (qint (qget sd0 0)))]) 0)]) 1)) 3) (qcmp BinOp.eql (qint (qnth (Proofs.YtiojjmlccehpoaaGreat.q81 [(qnth (Proofs.YtiojjmlccehpoaaGreat.q80 [(D.int (qint (qget sd0 0)))]) 0)]) 1)) 5)) then
                      bif (qinb sd0 1) then
                        bif (qinb sd0 1) then
                          bif (qiteB (qcmp BinOp.eql (qint (qnth (Proofs.YtiojjmlccehpoaaGreat.q81 [(qnth (Proofs.YtiojjmlccehpoaaGreat.q80 [(D.int (qint (qget sd0 0)))]) 0)]) 1)) 4) (qcmp BinOp.eql (qint (qnth (Proofs.YtiojjmlccehpoaaGreat.q81 [(qnth (Proofs.YtiojjmlccehpoaaGreat.q80 [(D.int (qint (qget sd0 0)))]) 0)]) 1)) 4) (qcmp BinOp.eql (qint (qnth (Proofs.YtiojjmlccehpoaaGreat.q81 [(qnth (Proofs.YtiojjmlccehpoaaGreat.q80 [(D.int (qint (qget sd0 0)))]) 0)]) 1)) 5)) then
                            bif (qinb sd0 2) then
                              bif (qsome (Proofs.YtiojjmlccehpoaaGreat.q82 [(D.int (qwrap IntKind.u32 (qint (qget sd0 2)))), (D.int 1)])) then
                                bif (qiteB (qnot (qiteB (qcmp BinOp.geq (qwrap IntKind.i64 (qbin BinOp.shr IntKind.u8 (qint (qget sd0 1)) 4)) 0) (qcmp BinOp.lss (qwrap IntKind.i64 (qbin BinOp.shr IntKind.u8 (qint (qget sd0 1)) 4)) 8) Bool.false)) Bool.true (qnot (qiteB (qcmp BinOp.geq (qwrap IntKind.i64 (qbin BinOp.and IntKind.u8 (qint (qget sd0 1)) 15)) 0) (qcmp BinOp.lss (qwrap IntKind.i64 (qbin BinOp.and IntKind.u8 (qint (qget sd0 1)) 15)) 8) Bool.false))) then
                                  some [(F28_a1 sd0 sn1), (D.int 13)]
                                else
                                  some [(F28_a10 sd0 sn1), (D.int 0)]
                              else
                                none
                            else
                              none
                          else
                            bif (qcmp BinOp.eql (qint (qnth (Proofs.YtiojjmlccehpoaaGreat.q81 [(qnth (Proofs.YtiojjmlccehpoaaGreat.q80 [(D.int (qint (qget sd0 0)))]) 0)]) 1)) 6) then
                              bif (qsome (Proofs.YtiojjmlccehpoaaGreat.q83 [sd0, (D.int 2), (D.int 4)])) then
                                bif (qiteB (qnot (qiteB (qcmp BinOp.geq (qwrap IntKind.i64 (qbin BinOp.shr IntKind.u8 (qint (qget sd0 1)) 4)) 0) (qcmp BinOp.lss (qwrap IntKind.i64 (qbin BinOp.shr IntKind.u8 (qint (qget sd0 1)) 4)) 8) Bool.false)) Bool.true (qnot (qiteB (qcmp BinOp.geq (qwrap IntKind.i64 (qbin BinOp.and IntKind.u8 (qint (qget sd0 1)) 15)) 0) (qcmp BinOp.lss (qwrap IntKind.i64 (qbin BinOp.and IntKind.u8 (qint (qget sd0 1)) 15)) 8) Bool.false))) then
                                  some [(F28_a1 sd0 sn1), (D.int 13)]
                                else
                                  some [(F28_a9 sd0 sn1), (D.int 0)]
                              else
                                none
                            else
                              bif (qcmp BinOp.eql (qint (qnth (Proofs.YtiojjmlccehpoaaGreat.q81 [(qnth (Proofs.YtiojjmlccehpoaaGreat.q80 [(D.int (qint (qget sd0 0)))]) 0)]) 1)) 7) then
                                bif (qinb sd0 1) then
                                  bif (qsome (Proofs.YtiojjmlccehpoaaGreat.q82 [(D.int (qwrap IntKind.u32 (qint (qget sd0 1)))), (D.int 1)])) then
                                    bif (qiteB (qnot (qiteB (qcmp BinOp.geq (qwrap IntKind.i64 (qbin BinOp.shr IntKind.u8 (qint (qget sd0 1)) 4)) 0) (qcmp BinOp.lss (qwrap IntKind.i64 (qbin BinOp.shr IntKind.u8 (qint (qget sd0 1)) 4)) 8) Bool.false)) Bool.true (qnot (qiteB (qcmp BinOp.geq (qwrap IntKind.i64 (qbin BinOp.and IntKind.u8 (qint (qget sd0 1)) 15)) 0) (qcmp BinOp.lss (qwrap IntKind.i64 (qbin BinOp.and IntKind.u8 (qint (qget sd0 1)) 15)) 8) Bool.false))) then
                                      some [(F28_a1 sd0 sn1), (D.int 13)]
                                    else
                                      some [(F28_a8 sd0 sn1), (D.int 0)]
                                  else
                                    none
                                else
                                  none
                              else
                                bif (qcmp BinOp.eql (qint (qnth (Proofs.YtiojjmlccehpoaaGreat.q81 [(qnth (Proofs.YtiojjmlccehpoaaGreat.q80 [(D.int (qint (qget sd0 0)))]) 0)]) 1)) 8) then
                                  bif (qsome (Proofs.YtiojjmlccehpoaaGreat.q83 [sd0, (D.int 1), (D.int 4)])) then
                                    bif (qiteB (qnot (qiteB (qcmp BinOp.geq (qwrap IntKind.i64 (qbin BinOp.shr IntKind.u8 (qint (qget sd0 1)) 4)) 0) (qcmp BinOp.lss (qwrap IntKind.i64 (qbin BinOp.shr IntKind.u8 (qint (qget sd0 1)) 4)) 8) Bool.false)) Bool.true (qnot (qiteB (qcmp BinOp.geq (qwrap IntKind.i64 (qbin BinOp.and IntKind.u8 (qint (qget sd0 1)) 15)) 0) (qcmp BinOp.lss (qwrap IntKind.i64 (qbin BinOp.and IntKind.u8 (qint (qget sd0 1)) 15)) 8) Bool.false))) then
                                      some [(F28_a1 sd0 sn1), (D.int 13)]
                                    else
                                      some [(F28_a7 sd0 sn1), (D.int 0)]
                                  else
                                    none
                                else
                                  bif (qiteB (qnot (qiteB (qcmp BinOp.geq (qwrap IntKind.i64 (qbin BinOp.shr IntKind.u8 (qint (qget sd0 1)) 4)) 0) (qcmp BinOp.lss (qwrap IntKind.i64 (qbin BinOp.shr IntKind.u8 (qint (qget sd0 1)) 4)) 8) Bool.false)) Bool.true (qnot (qiteB (qcmp BinOp.geq (qwrap IntKind.i64 (qbin BinOp.and IntKind.u8 (qint (qget sd0 1)) 15)) 0) (qcmp BinOp.lss (qwrap IntKind.i64 (qbin BinOp.and IntKind.u8 (qint (qget sd0 1)) 15)) 8) Bool.false))) then
                                    some [(F28_a1 sd0 sn1), (D.int 13)]
                                  else
                                    some [(F28_a6 sd0 sn1), (D.int 0)]
                        else
                          none
                      else
                        none
                    else
                      bif (qiteB (qcmp BinOp.eql (qint (qnth (Proofs.YtiojjmlccehpoaaGreat.q81 [(qnth (Proofs.YtiojjmlccehpoaaGreat.q80 [(D.int (qint (qget sd0 0)))]) 0)]) 1)) 4) (qcmp BinOp.eql (qint (qnth (Proofs.YtiojjmlccehpoaaGreat.q81 [(qnth (Proofs.YtiojjmlccehpoaaGreat.q80 [(D.int (qint (qget sd0 0)))]) 0)]) 1)) 4) (qcmp BinOp.eql (qint (qnth (Proofs.YtiojjmlccehpoaaGreat.q81 [(qnth (Proofs.YtiojjmlccehpoaaGreat.q80 [(D.int (qint (qget sd0 0)))]) 0)]) 1)) 5)) then
                        bif (qinb sd0 2) then
                          bif (qsome (Proofs.YtiojjmlccehpoaaGreat.q82 [(D.int (qwrap IntKind.u32 (qint (qget sd0 2)))), (D.int 1)])) then
                            bif (qiteB (qnot (qiteB (qcmp BinOp.geq (qint (qfld (qnth (Proofs.YtiojjmlccehpoaaGreat.q80 [(D.int (qint (qget sd0 0)))]) 0) 6)) 0) (qcmp BinOp.lss (qint (qfld (qnth (Proofs.YtiojjmlccehpoaaGreat.q80 [(D.int (qint (qget sd0 0)))]) 0) 6)) 8) Bool.false)) Bool.true (qnot (qiteB (qcmp BinOp.geq (qint (qfld (qnth (Proofs.YtiojjmlccehpoaaGreat.q80 [(D.int (qint (qget sd0 0)))]) 0) 7)) 0) (qcmp BinOp.lss (qint (qfld (qnth (Proofs.YtiojjmlccehpoaaGreat.q80 [(D.int (qint (qget sd0 0)))]) 0) 7)) 8) Bool.false))) then
                              some [(F28_a1 sd0 sn1), (D.int 13)]
                            else
                              some [(F28_a5 sd0 sn1), (D.int 0)]
                          else
                            none
                        else
                          none
                      else
                        bif (qcmp BinOp.eql (qint (qnth (Proofs.YtiojjmlccehpoaaGreat.q81 [(qnth (Proofs.YtiojjmlccehpoaaGreat.q80 [(D.int (qint (qget sd0 0)))]) 0)]) 1)) 6) then
                          bif (qsome (Proofs.YtiojjmlccehpoaaGreat.q83 [sd0, (D.int 2), (D.int 4)])) then
                            bif (qiteB (qnot (qiteB (qcmp BinOp.geq (qint (qfld (qnth (Proofs.YtiojjmlccehpoaaGreat.q80 [(D.int (qint (qget sd0 0)))]) 0) 6)) 0) (qcmp BinOp.lss (qint (qfld (qnth (Proofs.YtiojjmlccehpoaaGreat.q80 [(D.int (qint (qget sd0 0)))]) 0) 6)) 8) Bool.false)) Bool.true (qnot (qiteB (qcmp BinOp.geq (qint (qfld (qnth (Proofs.YtiojjmlccehpoaaGreat.q80 [(D.int (qint (qget sd0 0)))]) 0) 7)) 0) (qcmp BinOp.lss (qint (qfld (qnth (Proofs.YtiojjmlccehpoaaGreat.q80 [(D.int (qint (qget sd0 0)))]) 0) 7)) 8) Bool.false))) then
                              some [(F28_a1 sd0 sn1), (D.int 13)]
                            else
                              some [(F28_a4 sd0 sn1), (D.int 0)]
                          else
                            none
                        else
                          bif (qcmp BinOp.eql (qint (qnth (Proofs.YtiojjmlccehpoaaGreat.q81 [(qnth (Proofs.YtiojjmlccehpoaaGreat.q80 [(D.int (qint (qget sd0 0)))]) 0)]) 1)) 7) then
                            bif (qinb sd0 1) then
                              bif (qsome (Proofs.YtiojjmlccehpoaaGreat.q82 [(D.int (qwrap IntKind.u32 (qint (qget sd0 1)))), (D.int 1)])) then
                                bif (qiteB (qnot (qiteB (qcmp BinOp.geq (qint (qfld (qnth (Proofs.YtiojjmlccehpoaaGreat.q80 [(D.int (qint (qget sd0 0)))]) 0) 6)) 0) (qcmp BinOp.lss (qint (qfld (qnth (Proofs.YtiojjmlccehpoaaGreat.q80 [(D.int (qint (qget sd0 0)))]) 0) 6)) 8) Bool.false)) Bool.true (qnot (qiteB (qcmp BinOp.geq (qint (qfld (qnth (Proofs.YtiojjmlccehpoaaGreat.q80 [(D.int (qint (qget sd0 0)))]) 0) 7)) 0) (qcmp BinOp.lss (qint (qfld (qnth (Proofs.YtiojjmlccehpoaaGreat.q80 [(D.int (qint (qget sd0 0)))]) 0) 7)) 8) Bool.false))) then
                                  some [(F28_a1 sd0 sn1), (D.int 13)]
                                else
                                  some [(F28_a3 sd0 sn1), (D.int 0)]
                              else
                                none
                            else
                              none
                          else
                            bif (qcmp BinOp.eql (qint (qnth (Proofs.YtiojjmlccehpoaaGreat.q81 [(qnth (Proofs.YtiojjmlccehpoaaGreat.q80 [(D.int (qint (qget sd0 0)))]) 0)]) 1)) 8) then
                              bif (qsome (Proofs.YtiojjmlccehpoaaGreat.q83 [sd0, (D.int 1), (D.int 4)])) then
                                bif (qiteB (qnot (qiteB (qcmp BinOp.geq (qint (qfld (qnth (Proofs.YtiojjmlccehpoaaGreat.q80 [(D.int (qint (qget sd0 0)))]) 0) 6)) 0) (qcmp BinOp.lss (qint (qfld (qnth (Proofs.YtiojjmlccehpoaaGreat.q80 [(D.int (qint (qget sd0 0)))]) 0) 6)) 8) Bool.false)) Bool.true (qnot (qiteB (qcmp BinOp.geq (qint (qfld (qnth (Proofs.YtiojjmlccehpoaaGreat.q80 [(D.int (qint (qget sd0 0)))]) 0) 7)) 0) (qcmp BinOp.lss (qint (qfld (qnth (Proofs.YtiojjmlccehpoaaGreat.q80 [(D.int (qint (qget sd0 0)))]) 0) 7)) 8) Bool.false))) then
                                  some [(F28_a1 sd0 sn1), (D.int 13)]
                                else
                                  some [(F28_a2 sd0 sn1), (D.int 0)]
                              else
                                none
                            else
                              bif (qiteB (qnot (qiteB (qcmp BinOp.geq (qint (qfld (qnth (Proofs.YtiojjmlccehpoaaGreat.q80 [(D.int (qint (qget sd0 0)))]) 0) 6)) 0) (qcmp BinOp.lss (qint (qfld (qnth (Proofs.YtiojjmlccehpoaaGreat.q80 [(D.int (qint (qget sd0 0)))]) 0) 6)) 8) Bool.false)) Bool.true (qnot (qiteB (qcmp BinOp.geq (qint (qfld (qnth (Proofs.YtiojjmlccehpoaaGreat.q80 [(D.int (qint (qget sd0 0)))]) 0) 7)) 0) (qcmp BinOp.lss (qint (qfld (qnth (Proofs.YtiojjmlccehpoaaGreat.q80 [(D.int (qint (qget sd0 0)))]) 0) 7)) 8) Bool.false))) then
                                some [(F28_a1 sd0 sn1), (D.int 13)]
                              else
                                some [(F28_a0 sd0 sn1), (D.int 0)]
              else
                none
            else
              none
        else
          none
      else
        none := by kernel_rfl

noncomputable def q28 : List D → Option (List D) := veil (F28 )

theorem q28_eq : q28  = F28  := veil_eq _

noncomputable def tb28 : Tb := Tb.addF tb80 28 S28 (q28 )

theorem ok_tb28 : TbOk env (tb28 ) := addFunF ok_tb80 28 (by kernel_rfl) _ (q28_eq )

end Go.Proofs.YtiojjmlccehpoaaGreat

open Go Go.AM
namespace Go.Proofs.YtiojjmlccehpoaaGreat
set_option maxRecDepth 100000
set_option linter.unusedSimpArgs false
set_option linter.unusedVariables false
noncomputable def tb12 : Tb := Tb.addF tb28 12 S12 q12

theorem ok_tb12 : TbOk env tb12 := TbOk.addF ok_tb28 (by kernel_rfl) sound12

/- function 9  -/

def S9_9 : LoopS := ⟨0, [⟨false, (.rows 46)⟩, ⟨false, (.int .u32)⟩, ⟨false, .any⟩, ⟨false, .any⟩, ⟨false, (.lit (.bool false))⟩, ⟨false, .any⟩, ⟨false, .any⟩, ⟨false, .any⟩, ⟨false, .any⟩, ⟨false, (.osl 0 3)⟩, ⟨true, (.int .i64)⟩, ⟨false, .any⟩, ⟨false, .any⟩, ⟨false, .any⟩, ⟨false, .any⟩, ⟨false, .any⟩, ⟨false, .any⟩, ⟨false, .any⟩, ⟨false, .any⟩, ⟨false, .any⟩, ⟨false, .any⟩, ⟨false, .any⟩, ⟨false, .any⟩, ⟨false, .any⟩, ⟨false, .any⟩, ⟨false, .any⟩, ⟨false, .any⟩, ⟨false, .any⟩, ⟨false, .any⟩, ⟨false, .any⟩, ⟨false, .any⟩, ⟨false, .any⟩, ⟨false, .any⟩, ⟨false, .any⟩, ⟨false, .any⟩, ⟨false, .any⟩, ⟨false, .any⟩, ⟨false, .any⟩, ⟨false, .any⟩, ⟨false, .any⟩, ⟨false, .any⟩, ⟨false, .any⟩, ⟨false, .any⟩, ⟨false, .any⟩, ⟨false, .any⟩, ⟨false, .any⟩, ⟨false, .any⟩, ⟨false, .any⟩, ⟨false, .any⟩, ⟨false, .any⟩, ⟨false, .any⟩, ⟨false, .any⟩, ⟨false, .any⟩, ⟨false, .any⟩, ⟨false, .any⟩, ⟨false, .any⟩, ⟨false, .any⟩, ⟨false, .any⟩, ⟨false, .any⟩, ⟨false, .any⟩, ⟨false, .any⟩, ⟨false, .any⟩, ⟨false, .any⟩, ⟨false, .any⟩, ⟨false, .any⟩, ⟨false, .any⟩, ⟨false, .any⟩, ⟨false, .any⟩, ⟨false, .any⟩, ⟨false, .any⟩, ⟨false, .any⟩, ⟨false, .any⟩, ⟨false, .any⟩, ⟨false, .any⟩, ⟨false, .any⟩, ⟨false, .any⟩, ⟨false, .any⟩, ⟨false, .any⟩, ⟨false, .any⟩, ⟨false, .any⟩, ⟨false, .any⟩, ⟨false, .any⟩, ⟨false, .any⟩, ⟨false, .any⟩, ⟨false, .any⟩, ⟨false, .any⟩, ⟨false, .any⟩, ⟨false, .any⟩, ⟨false, .any⟩, ⟨false, .any⟩, ⟨false, .any⟩, ⟨false, .any⟩, ⟨false, .any⟩, ⟨false, .any⟩, ⟨false, .any⟩, ⟨false, .any⟩, ⟨false, .any⟩, ⟨false, .any⟩, ⟨false, .any⟩, ⟨false, .any⟩, ⟨false, .any⟩, ⟨false, .any⟩, ⟨false, .any⟩, ⟨false, .any⟩, ⟨false, .any⟩, ⟨false, .any⟩, ⟨false, .any⟩, ⟨false, .any⟩, ⟨false, .any⟩, ⟨false, .any⟩, ⟨false, .any⟩, ⟨false, .any⟩, ⟨false, .any⟩, ⟨false, .any⟩, ⟨false, .any⟩, ⟨false, .any⟩], [(.lst true 3)], [⟨0, 0, [⟨false, (.rows 46)⟩, ⟨false, (.int .u32)⟩, ⟨true, .any⟩, ⟨true, .any⟩, ⟨true, (.lit (.bool false))⟩, ⟨true, .any⟩, ⟨true, .any⟩, ⟨true, .any⟩, ⟨true, .any⟩, ⟨true, (.osl 0 3)⟩, ⟨true, .any⟩, ⟨true, .any⟩, ⟨true, .any⟩, ⟨true, .any⟩, ⟨true, .any⟩, ⟨true, .any⟩, ⟨true, .any⟩, ⟨true, .any⟩, ⟨true, .any⟩, ⟨true, .any⟩, ⟨true, .any⟩, ⟨true, .any⟩, ⟨true, .any⟩, ⟨true, .any⟩, ⟨true, .any⟩, ⟨true, .any⟩, ⟨true, .any⟩, ⟨true, .any⟩, ⟨true, .any⟩, ⟨true, .any⟩, ⟨true, .any⟩, ⟨true, .any⟩, ⟨true, .any⟩, ⟨true, .any⟩, ⟨true, .any⟩, ⟨true, .any⟩, ⟨true, .any⟩, ⟨true, .any⟩, ⟨true, .any⟩, ⟨true, .any⟩, ⟨true, .any⟩, ⟨true, .any⟩, ⟨true, .any⟩, ⟨true, .any⟩, ⟨true, .any⟩, ⟨true, .any⟩, ⟨true, .any⟩, ⟨true, .any⟩, ⟨true, .any⟩, ⟨true, .any⟩, ⟨true, .any⟩, ⟨true, .any⟩, ⟨true, .any⟩, ⟨true, .any⟩, ⟨true, .any⟩, ⟨true, .any⟩, ⟨true, .any⟩, ⟨true, .any⟩, ⟨true, .any⟩, ⟨true, .any⟩, ⟨true, .any⟩, ⟨true, .any⟩, ⟨true, .any⟩, ⟨true, .any⟩, ⟨true, .any⟩, ⟨true, .any⟩, ⟨true, .any⟩, ⟨true, .any⟩, ⟨true, .any⟩, ⟨true, .any⟩, ⟨true, .any⟩, ⟨true, .any⟩, ⟨true, .any⟩, ⟨true, .any⟩, ⟨true, .any⟩, ⟨true, .any⟩, ⟨true, .any⟩, ⟨true, .any⟩, ⟨true, .any⟩, ⟨true, .any⟩, ⟨true, .any⟩, ⟨true, .any⟩, ⟨true, .any⟩, ⟨true, .any⟩, ⟨true, .any⟩, ⟨true, .any⟩, ⟨true, .any⟩, ⟨true, .any⟩, ⟨true, .any⟩, ⟨true, .any⟩, ⟨true, .any⟩, ⟨true, .any⟩, ⟨true, .any⟩, ⟨true, .any⟩, ⟨true, .any⟩, ⟨true, .any⟩, ⟨true, .any⟩, ⟨true, .any⟩, ⟨true, .any⟩, ⟨true, .any⟩, ⟨true, .any⟩, ⟨true, .any⟩, ⟨true, .any⟩, ⟨true, .any⟩, ⟨true, .any⟩, ⟨true, .any⟩, ⟨true, .any⟩, ⟨true, .any⟩, ⟨true, .any⟩, ⟨true, .any⟩, ⟨true, .any⟩, ⟨true, .any⟩, ⟨true, .any⟩, ⟨true, .any⟩, ⟨true, .any⟩, ⟨true, .any⟩], [(.lst true 3)]⟩]⟩

noncomputable def st9_9 (p s : List D) : Option (Sum (List D) (List D)) := stepQX env tb12 60 6 9 (loopC 9 9) S9_9 p s

theorem st9_9_eq (pd0 : D) (pn1 : Int) (sn0 : Int) (sd1 : D) : st9_9  [pd0, (D.int pn1)] [(D.int sn0), sd1] =
    bif (qcmp BinOp.lss sn0 (qlen pd0)) then
      bif (qcmp BinOp.leq 0 sn0) then
        bif (qcmp BinOp.lss sn0 (qlen sd1)) then
          bif (qinb sd1 sn0) then
            bif (qcmp BinOp.eql (qlen sd1) (qlen (qset sd1 sn0 (D.int (-1))))) then
              some (Sum.inl [(D.int (qbin BinOp.add IntKind.i64 sn0 1)), (qset sd1 sn0 (D.int (-1)))])
            else
              none
          else
            none
        else
          none
      else
        none
    else
      some (Sum.inr [(D.int 0), sd1]) := by
  have h : st9_9  [pd0, (D.int pn1)] [(D.int sn0), sd1] =
    bif (qcmp BinOp.lss sn0 (qlen pd0)) then
      bif (qcmp BinOp.leq 0 sn0) then
        bif (qcmp BinOp.lss sn0 (qlen sd1)) then
          bif (qinb sd1 sn0) then
            bif (qcmp BinOp.eql (qlen sd1) (qlen (qset sd1 sn0 (D.int (-1))))) then
              bif (qeqD pd0 pd0) then
                bif (qeqD (D.int pn1) (D.int pn1)) then
                  some (Sum.inl [(D.int (qbin BinOp.add IntKind.i64 sn0 1)), (qset sd1 sn0 (D.int (-1)))])
                else
                  none
              else
                none
            else
              none
          else
            none
        else
          none
      else
        none
    else
      bif (qcmp BinOp.eql (qlen sd1) (qlen sd1)) then
        bif (qeqD pd0 pd0) then
          bif (qeqD (D.int pn1) (D.int pn1)) then
            some (Sum.inr [(D.int 0), sd1])
          else
            none
        else
          none
      else
        none := by kernel_rfl
  rw [h]; simp only [qeqD_self, qeqI_self, qeq_len, show qcmp BinOp.eql 0 (qlen (D.list [])) = true from qeq_len [], show ∀ a, qcmp BinOp.eql 1 (qlen (D.list [a])) = true from fun a => qeq_len [a], show ∀ a b, qcmp BinOp.eql 2 (qlen (D.list [a, b])) = true from fun a b => qeq_len [a, b], cond_true]

noncomputable def l9_9 : List D → List D → Option (List D) := veil fun p s => loW (st9_9  p) s

theorem l9_9_eq : l9_9  = fun p s => loW (st9_9  p) s := veil_eq _

noncomputable def tbl9_9 : Tb := Tb.addL tb12 9 9 S9_9.n0 (mkLp S9_9 (l9_9 ))

theorem ok_tbl9_9 : TbOk env (tbl9_9 ) := addLoopQ ok_tb12 9 9 (by kernel_rfl) _ (l9_9_eq )

def S9_17 : LoopS := ⟨0, [⟨false, .any⟩, ⟨false, .any⟩, ⟨false, .any⟩, ⟨false, .any⟩, ⟨false, (.lit (.bool false))⟩, ⟨false, .any⟩, ⟨false, .any⟩, ⟨false, .any⟩, ⟨false, .any⟩, ⟨false, .any⟩, ⟨false, .any⟩, ⟨false, (.rows 46)⟩, ⟨false, .any⟩, ⟨true, (.rows 5)⟩, ⟨false, (.int .i64)⟩, ⟨true, (.int .i64)⟩, ⟨false, .any⟩, ⟨false, .any⟩, ⟨false, .any⟩, ⟨false, .any⟩, ⟨false, .any⟩, ⟨false, .any⟩, ⟨false, .any⟩, ⟨false, .any⟩, ⟨false, .any⟩, ⟨false, .any⟩, ⟨false, .any⟩, ⟨false, .any⟩, ⟨false, .any⟩, ⟨false, .any⟩, ⟨false, .any⟩, ⟨false, .any⟩, ⟨false, .any⟩, ⟨false, .any⟩, ⟨false, .any⟩, ⟨false, .any⟩, ⟨false, .any⟩, ⟨false, .any⟩, ⟨false, .any⟩, ⟨false, .any⟩, ⟨false, .any⟩, ⟨false, .any⟩, ⟨false, .any⟩, ⟨false, .any⟩, ⟨false, .any⟩, ⟨false, .any⟩, ⟨false, .any⟩, ⟨false, .any⟩, ⟨false, .any⟩, ⟨false, .any⟩, ⟨false, .any⟩, ⟨false, .any⟩, ⟨false, .any⟩, ⟨false, .any⟩, ⟨false, .any⟩, ⟨false, .any⟩, ⟨false, .any⟩, ⟨false, .any⟩, ⟨false, .any⟩, ⟨false, .any⟩, ⟨false, .any⟩, ⟨false, .any⟩, ⟨false, .any⟩, ⟨false, .any⟩, ⟨false, .any⟩, ⟨false, .any⟩, ⟨false, .any⟩, ⟨false, .any⟩, ⟨false, .any⟩, ⟨false, .any⟩, ⟨false, .any⟩, ⟨false, .any⟩, ⟨false, .any⟩, ⟨false, .any⟩, ⟨false, .any⟩, ⟨false, .any⟩, ⟨false, .any⟩, ⟨false, .any⟩, ⟨false, .any⟩, ⟨false, .any⟩, ⟨false, .any⟩, ⟨false, .any⟩, ⟨false, .any⟩, ⟨false, .any⟩, ⟨false, .any⟩, ⟨false, .any⟩, ⟨false, .any⟩, ⟨false, .any⟩, ⟨false, .any⟩, ⟨false, .any⟩, ⟨false, .any⟩, ⟨false, .any⟩, ⟨false, .any⟩, ⟨false, .any⟩, ⟨false, .any⟩, ⟨false, .any⟩, ⟨false, .any⟩, ⟨false, .any⟩, ⟨false, .any⟩, ⟨false, .any⟩, ⟨false, .any⟩, ⟨false, .any⟩, ⟨false, .any⟩, ⟨false, .any⟩, ⟨false, .any⟩, ⟨false, .any⟩, ⟨false, .any⟩, ⟨false, .any⟩, ⟨false, .any⟩, ⟨false, .any⟩, ⟨false, .any⟩, ⟨false, .any⟩, ⟨false, .any⟩, ⟨false, .any⟩, ⟨false, .any⟩, ⟨false, .any⟩], [], [⟨0, 2, [⟨true, .any⟩, ⟨true, .any⟩, ⟨true, .any⟩, ⟨true, .any⟩, ⟨true, (.lit (.bool false))⟩, ⟨true, .any⟩, ⟨true, .any⟩, ⟨true, .any⟩, ⟨true, .any⟩, ⟨true, .any⟩, ⟨true, .any⟩, ⟨false, (.rows 46)⟩, ⟨true, .any⟩, ⟨true, (.rows 5)⟩, ⟨false, (.int .i64)⟩, ⟨true, .any⟩, ⟨true, .any⟩, ⟨true, .any⟩, ⟨true, .any⟩, ⟨true, .any⟩, ⟨true, .any⟩, ⟨true, .any⟩, ⟨true, .any⟩, ⟨true, .any⟩, ⟨true, .any⟩, ⟨true, .any⟩, ⟨true, .any⟩, ⟨true, .any⟩, ⟨true, .any⟩, ⟨true, .any⟩, ⟨true, .any⟩, ⟨true, .any⟩, ⟨true, .any⟩, ⟨true, .any⟩, ⟨true, .any⟩, ⟨true, .any⟩, ⟨true, .any⟩, ⟨true, .any⟩, ⟨true, .any⟩, ⟨true, .any⟩, ⟨true, .any⟩, ⟨true, .any⟩, ⟨true, .any⟩, ⟨true, .any⟩, ⟨true, .any⟩, ⟨true, .any⟩, ⟨true, .any⟩, ⟨true, .any⟩, ⟨true, .any⟩, ⟨true, .any⟩, ⟨true, .any⟩, ⟨true, .any⟩, ⟨true, .any⟩, ⟨true, .any⟩, ⟨true, .any⟩, ⟨true, .any⟩, ⟨true, .any⟩, ⟨true, .any⟩, ⟨true, .any⟩, ⟨true, .any⟩, ⟨true, .any⟩, ⟨true, .any⟩, ⟨true, .any⟩, ⟨true, .any⟩, ⟨true, .any⟩, ⟨true, .any⟩, ⟨true, .any⟩, ⟨true, .any⟩, ⟨true, .any⟩, ⟨true, .any⟩, ⟨true, .any⟩, ⟨true, .any⟩, ⟨true, .any⟩, ⟨true, .any⟩, ⟨true, .any⟩, ⟨true, .any⟩, ⟨true, .any⟩, ⟨true, .any⟩, ⟨true, .any⟩, ⟨true, .any⟩, ⟨true, .any⟩, ⟨true, .any⟩, ⟨true, .any⟩, ⟨true, .any⟩, ⟨true, .any⟩, ⟨true, .any⟩, ⟨true, .any⟩, ⟨true, .any⟩, ⟨true, .any⟩, ⟨true, .any⟩, ⟨true, .any⟩, ⟨true, .any⟩, ⟨true, .any⟩, ⟨true, .any⟩, ⟨true, .any⟩, ⟨true, .any⟩, ⟨true, .any⟩, ⟨true, .any⟩, ⟨true, .any⟩, ⟨true, .any⟩, ⟨true, .any⟩, ⟨true, .any⟩, ⟨true, .any⟩, ⟨true, .any⟩, ⟨true, .any⟩, ⟨true, .any⟩, ⟨true, .any⟩, ⟨true, .any⟩, ⟨true, .any⟩, ⟨true, .any⟩, ⟨true, .any⟩, ⟨true, .any⟩, ⟨true, .any⟩, ⟨true, .any⟩, ⟨true, .any⟩, ⟨true, .any⟩], []⟩, ⟨1, 0, [⟨true, .any⟩, ⟨true, .any⟩, ⟨true, .any⟩, ⟨true, .any⟩, ⟨true, (.lit (.bool false))⟩, ⟨true, .any⟩, ⟨true, .any⟩, ⟨true, .any⟩, ⟨true, .any⟩, ⟨true, .any⟩, ⟨true, .any⟩, ⟨false, (.rows 46)⟩, ⟨true, .any⟩, ⟨true, .any⟩, ⟨false, (.int .i64)⟩, ⟨true, .any⟩, ⟨true, .any⟩, ⟨true, .any⟩, ⟨true, .any⟩, ⟨true, .any⟩, ⟨true, .any⟩, ⟨true, .any⟩, ⟨true, .any⟩, ⟨true, .any⟩, ⟨true, .any⟩, ⟨true, .any⟩, ⟨true, .any⟩, ⟨true, .any⟩, ⟨true, .any⟩, ⟨true, .any⟩, ⟨true, .any⟩, ⟨true, .any⟩, ⟨true, .any⟩, ⟨true, .any⟩, ⟨true, .any⟩, ⟨true, .any⟩, ⟨true, .any⟩, ⟨true, .any⟩, ⟨true, .any⟩, ⟨true, .any⟩, ⟨true, .any⟩, ⟨true, .any⟩, ⟨true, .any⟩, ⟨true, .any⟩, ⟨true, .any⟩, ⟨true, .any⟩, ⟨true, .any⟩, ⟨true, .any⟩, ⟨true, .any⟩, ⟨true, .any⟩, ⟨true, .any⟩, ⟨true, .any⟩, ⟨true, .any⟩, ⟨true, .any⟩, ⟨true, .any⟩, ⟨true, .any⟩, ⟨true, .any⟩, ⟨true, .any⟩, ⟨true, .any⟩, ⟨true, .any⟩, ⟨true, .any⟩, ⟨true, .any⟩, ⟨true, .any⟩, ⟨true, .any⟩, ⟨true, .any⟩, ⟨true, .any⟩, ⟨true, .any⟩, ⟨true, .any⟩, ⟨true, .any⟩, ⟨true, .any⟩, ⟨true, .any⟩, ⟨true, .any⟩, ⟨true, .any⟩, ⟨true, .any⟩, ⟨true, .any⟩, ⟨true, .any⟩, ⟨true, .any⟩, ⟨true, .any⟩, ⟨true, .any⟩, ⟨true, .any⟩, ⟨true, .any⟩, ⟨true, .any⟩, ⟨true, .any⟩, ⟨true, .any⟩, ⟨true, .any⟩, ⟨true, .any⟩, ⟨true, .any⟩, ⟨true, .any⟩, ⟨true, .any⟩, ⟨true, .any⟩, ⟨true, .any⟩, ⟨true, .any⟩, ⟨true, .any⟩, ⟨true, .any⟩, ⟨true, .any⟩, ⟨true, .any⟩, ⟨true, .any⟩, ⟨true, .any⟩, ⟨true, .any⟩, ⟨true, .any⟩, ⟨true, .any⟩, ⟨true, .any⟩, ⟨true, .any⟩, ⟨true, .any⟩, ⟨true, .any⟩, ⟨true, .any⟩, ⟨true, .any⟩, ⟨true, .any⟩, ⟨true, .any⟩, ⟨true, .any⟩, ⟨true, .any⟩, ⟨true, .any⟩, ⟨true, .any⟩, ⟨true, .any⟩, ⟨true, .any⟩, ⟨true, .any⟩], []⟩]⟩

noncomputable def st9_17 (p s : List D) : Option (Sum (List D) (List D)) := stepQX env tbl9_9 60 6 9 (loopC 9 17) S9_17 p s

theorem st9_17_eq (pd0 : D) (pn1 : Int) (sd0 : D) (sn1 : Int) : st9_17  [pd0, (D.int pn1)] [sd0, (D.int sn1)] =
    bif (qcmp BinOp.lss sn1 (qlen pd0)) then
      bif (qinb pd0 sn1) then
        bif (qsome (Proofs.YtiojjmlccehpoaaGreat.q28 [sd0, (D.int (qint (qfld (qget pd0 sn1) 0)))])) then
          bif (qcmp BinOp.neq (qint (qnth (Proofs.YtiojjmlccehpoaaGreat.q28 [sd0, (D.int (qint (qfld (qget pd0 sn1) 0)))]) 1)) 0) then
            some (Sum.inr [(D.int 1)])
          else
            bif (qinb pd0 sn1) then
              bif (qnot (qand (qcmp BinOp.eql (qint (qfld (qnth (Proofs.YtiojjmlccehpoaaGreat.q28 [sd0, (D.int (qint (qfld (qget pd0 sn1) 0)))]) 0) 0)) (qint (qfld (qget pd0 sn1) 0))) (qand (qcmp BinOp.eql (qint (qfld (qnth (Proofs.YtiojjmlccehpoaaGreat.q28 [sd0, (D.int (qint (qfld (qget pd0 sn1) 0)))]) 0) 1)) (qint (qfld (qget pd0 sn1) 1))) (qand (qcmp BinOp.eql (qint (qfld (qnth (Proofs.YtiojjmlccehpoaaGreat.q28 [sd0, (D.int (qint (qfld (qget pd0 sn1) 0)))]) 0) 2)) (qint (qfld (qget pd0 sn1) 2))) (qand (qcmp BinOp.eql (qint (qfld (qnth (Proofs.YtiojjmlccehpoaaGreat.q28 [sd0, (D.int (qint (qfld (qget pd0 sn1) 0)))]) 0) 3)) (qint (qfld (qget pd0 sn1) 3))) (qand (qcmp BinOp.eql (qint (qfld (qnth (Proofs.YtiojjmlccehpoaaGreat.q28 [sd0, (D.int (qint (qfld (qget pd0 sn1) 0)))]) 0) 4)) (qint (qfld (qget pd0 sn1) 4))) (qand (qcmp BinOp.eql (qint (qfld (qnth (Proofs.YtiojjmlccehpoaaGreat.q28 [sd0, (D.int (qint (qfld (qget pd0 sn1) 0)))]) 0) 5)) (qint (qfld (qget pd0 sn1) 5))) (qand (qcmp BinOp.eql (qint (qfld (qnth (Proofs.YtiojjmlccehpoaaGreat.q28 [sd0, (D.int (qint (qfld (qget pd0 sn1) 0)))]) 0) 6)) (qint (qfld (qget pd0 sn1) 6))) (qand (qcmp BinOp.eql (qint (qfld (qnth (Proofs.YtiojjmlccehpoaaGreat.q28 [sd0, (D.int (qint (qfld (qget pd0 sn1) 0)))]) 0) 7)) (qint (qfld (qget pd0 sn1) 7))) (qcmp BinOp.eql (qint (qfld (qnth (Proofs.YtiojjmlccehpoaaGreat.q28 [sd0, (D.int (qint (qfld (qget pd0 sn1) 0)))]) 0) 8)) (qint (qfld (qget pd0 sn1) 8)))))))))))) then
                some (Sum.inr [(D.int 1)])
              else
                bif (qcmp BinOp.gtr (qint (qfld (qnth (Proofs.YtiojjmlccehpoaaGreat.q28 [sd0, (D.int (qint (qfld (qget pd0 sn1) 0)))]) 0) 8)) (qlen sd0)) then
                  some (Sum.inr [(D.int 1)])
                else
                  bif (qcmp BinOp.leq 0 (qint (qfld (qnth (Proofs.YtiojjmlccehpoaaGreat.q28 [sd0, (D.int (qint (qfld (qget pd0 sn1) 0)))]) 0) 8))) then
                    bif (qcmp BinOp.leq (qint (qfld (qnth (Proofs.YtiojjmlccehpoaaGreat.q28 [sd0, (D.int (qint (qfld (qget pd0 sn1) 0)))]) 0) 8)) (qlen sd0)) then
                      bif (qcmp BinOp.leq (qlen sd0) (qlen sd0)) then
                        some (Sum.inl [(qsub sd0 (qint (qfld (qnth (Proofs.YtiojjmlccehpoaaGreat.q28 [sd0, (D.int (qint (qfld (qget pd0 sn1) 0)))]) 0) 8)) (qlen sd0)), (D.int (qbin BinOp.add IntKind.i64 sn1 1))])
                      else
                        none
                    else
                      none
                  else
                    none
            else
              none
        else
          none
      else
        none
    else
      some (Sum.inr [(D.int 0), sd0]) := by
  have h : st9_17  [pd0, (D.int pn1)] [sd0, (D.int sn1)] =
    bif (qcmp BinOp.lss sn1 (qlen pd0)) then
      bif (qinb pd0 sn1) then
        bif (qsome (Proofs.YtiojjmlccehpoaaGreat.q28 [sd0, (D.int (qint (qfld (qget pd0 sn1) 0)))])) then
          bif (qcmp BinOp.neq (qint (qnth (Proofs.YtiojjmlccehpoaaGreat.q28 [sd0, (D.int (qint (qfld (qget pd0 sn1) 0)))]) 1)) 0) then
            bif (qeqD pd0 pd0) then
              bif (qeqD (D.int pn1) (D.int pn1)) then
                some (Sum.inr [(D.int 1)])
              else
                none
            else
              none
          else
            bif (qinb pd0 sn1) then
              bif (qnot (qand (qcmp BinOp.eql (qint (qfld (qnth (Proofs.YtiojjmlccehpoaaGreat.q28 [sd0, (D.int (qint (qfld (qget pd0 sn1) 0)))]) 0) 0)) (qint (qfld (qget pd0 sn1) 0))) (qand (qcmp BinOp.eql (qint (qfld (qnth (Proofs.YtiojjmlccehpoaaGreat.q28 [sd0, (D.int (qint (qfld (qget pd0 sn1) 0)))]) 0) 1)) (qint (qfld (qget pd0 sn1) 1))) (qand (qcmp BinOp.eql (qint (qfld (qnth (Proofs.YtiojjmlccehpoaaGreat.q28 [sd0, (D.int (qint (qfld (qget pd0 sn1) 0)))]) 0) 2)) (qint (qfld (qget pd0 sn1) 2))) (qand (qcmp BinOp.eql (qint (qfld (qnth (Proofs.YtiojjmlccehpoaaGreat.q28 [sd0, (D.int (qint (qfld (qget pd0 sn1) 0)))]) 0) 3)) (qint (qfld (qget pd0 sn1) 3))) (qand (qcmp BinOp.eql (qint (qfld (qnth (Proofs.YtiojjmlccehpoaaGreat.q28 [sd0, (D.int (qint (qfld (qget pd0 sn1) 0)))]) 0) 4)) (qint (qfld (qget pd0 sn1) 4))) (qand (qcmp BinOp.eql (qint (qfld (qnth (Proofs.YtiojjmlccehpoaaGreat.q28 [sd0, (D.int (qint (qfld (qget pd0 sn1) 0)))]) 0) 5)) (qint (qfld (qget pd0 sn1) 5))) (qand (qcmp BinOp.eql (qint (qfld (qnth (Proofs.YtiojjmlccehpoaaGreat.q28 [sd0, (D.int (qint (qfld (qget pd0 sn1) 0)))]) 0) 6)) (qint (qfld (qget pd0 sn1) 6))) (qand (qcmp BinOp.eql (qint (qfld (qnth (Proofs.YtiojjmlccehpoaaGreat.q28 [sd0, (D.int (qint (qfld (qget pd0 sn1) 0)))]) 0) 7)) (qint (qfld (qget pd0 sn1) 7))) (qcmp BinOp.eql (qint (qfld (qnth (Proofs.YtiojjmlccehpoaaGreat.q28 [sd0, (D.int (qint (qfld (qget pd0 sn1) 0)))]) 0) 8)) (qint (qfld (qget pd0 sn1) 8)))))))))))) then
                bif (qeqD pd0 pd0) then
                  bif (qeqD (D.int pn1) (D.int pn1)) then
                    some (Sum.inr [(D.int 1)])
                  else
                    none
                else
                  none
              else
                bif (qcmp BinOp.gtr (qint (qfld (qnth (Proofs.YtiojjmlccehpoaaGreat.q28 [sd0, (D.int (qint (qfld (qget pd0 sn1) 0)))]) 0) 8)) (qlen sd0)) then
                  bif (qeqD pd0 pd0) then
                    bif (qeqD (D.int pn1) (D.int pn1)) then
                      some (Sum.inr [(D.int 1)])
                    else
                      none
                  else
                    none
                else
                  bif (qcmp BinOp.leq 0 (qint (qfld (qnth (Proofs.YtiojjmlccehpoaaGreat.q28 [sd0, (D.int (qint (qfld (qget pd0 sn1) 0)))]) 0) 8))) then
                    bif (qcmp BinOp.leq (qint (qfld (qnth (Proofs.YtiojjmlccehpoaaGreat.q28 [sd0, (D.int (qint (qfld (qget pd0 sn1) 0)))]) 0) 8)) (qlen sd0)) then
                      bif (qcmp BinOp.leq (qlen sd0) (qlen sd0)) then
                        bif (qeqD pd0 pd0) then
                          bif (qeqD (D.int pn1) (D.int pn1)) then
                            some (Sum.inl [(qsub sd0 (qint (qfld (qnth (Proofs.YtiojjmlccehpoaaGreat.q28 [sd0, (D.int (qint (qfld (qget pd0 sn1) 0)))]) 0) 8)) (qlen sd0)), (D.int (qbin BinOp.add IntKind.i64 sn1 1))])
                          else
                            none
                        else
                          none
                      else
                        none
                    else
                      none
                  else
                    none
            else
              none
        else
          none
      else
        none
    else
      bif (qeqD pd0 pd0) then
        bif (qeqD (D.int pn1) (D.int pn1)) then
          some (Sum.inr [(D.int 0), sd0])
        else
          none
      else
        none := by kernel_rfl
  rw [h]; simp only [qeqD_self, qeqI_self, qeq_len, show qcmp BinOp.eql 0 (qlen (D.list [])) = true from qeq_len [], show ∀ a, qcmp BinOp.eql 1 (qlen (D.list [a])) = true from fun a => qeq_len [a], show ∀ a b, qcmp BinOp.eql 2 (qlen (D.list [a, b])) = true from fun a b => qeq_len [a, b], cond_true]

noncomputable def l9_17 : List D → List D → Option (List D) := veil fun p s => loW (st9_17  p) s

theorem l9_17_eq : l9_17  = fun p s => loW (st9_17  p) s := veil_eq _

noncomputable def tbl9_17 : Tb := Tb.addL tbl9_9 9 17 S9_17.n0 (mkLp S9_17 (l9_17 ))

theorem ok_tbl9_17 : TbOk env (tbl9_17 ) := addLoopQ ok_tbl9_9 9 17 (by kernel_rfl) _ (l9_17_eq )

def S9 : FunS := ⟨[⟨true, (.rows 46)⟩, ⟨true, (.int .u32)⟩], [], [⟨true, .bool⟩], []⟩

noncomputable def F9 : List D → Option (List D) := liftX env tbl9_17 60 6 9 S9

theorem F9_eq  (sd0 : D) (sn1 : Int) : F9  [sd0, (D.int sn1)] =
    bif (qcmp BinOp.gtr (qlen sd0) 60) then
      bif (qsome (Proofs.YtiojjmlccehpoaaGreat.q12 [])) then
        some [(D.bool (qbool (qnth (Proofs.YtiojjmlccehpoaaGreat.q12 []) 0)))]
      else
        none
    else
      bif (qsome (Proofs.YtiojjmlccehpoaaGreat.q26 [sd0])) then
        bif (qsome (Proofs.YtiojjmlccehpoaaGreat.q27 [sd0])) then
          bif (qiteB (qcmp BinOp.neq (qint (qnth (Proofs.YtiojjmlccehpoaaGreat.q26 [sd0]) 1)) (qint (qnth (Proofs.YtiojjmlccehpoaaGreat.q27 [sd0]) 1))) Bool.true (qcmpS BinOp.neq (qtext (qnth (Proofs.YtiojjmlccehpoaaGreat.q26 [sd0]) 0)) (qtext (qnth (Proofs.YtiojjmlccehpoaaGreat.q27 [sd0]) 0)))) then
            some [(D.bool Bool.false)]
          else
            bif (qcmp BinOp.leq 0 (qlen sd0)) then
              bif (qcmp BinOp.leq (qlen sd0) (qlen sd0)) then
                bif (qmem (qlen sd0) 8) then
                  bif (qcmp BinOp.eql (qlen sd0) (qlen (qrep (qlen sd0) (D.int 0)))) then
                    bif (qsome (Proofs.YtiojjmlccehpoaaGreat.l9_9 [sd0, (D.int sn1)] [(D.int 0), (qrep (qlen sd0) (D.int 0))])) then
                      bif (qsome (Proofs.YtiojjmlccehpoaaGreat.q21 [sd0, (qnth (Proofs.YtiojjmlccehpoaaGreat.l9_9 [sd0, (D.int sn1)] [(D.int 0), (qrep (qlen sd0) (D.int 0))]) 1), (D.int sn1)])) then
                        bif (qcmp BinOp.neq (qint (qnth (Proofs.YtiojjmlccehpoaaGreat.q21 [sd0, (qnth (Proofs.YtiojjmlccehpoaaGreat.l9_9 [sd0, (D.int sn1)] [(D.int 0), (qrep (qlen sd0) (D.int 0))]) 1), (D.int sn1)]) 1)) 0) then
                          bif (qsome (Proofs.YtiojjmlccehpoaaGreat.q12 [])) then
                            some [(D.bool (qbool (qnth (Proofs.YtiojjmlccehpoaaGreat.q12 []) 0)))]
                          else
                            none
                        else
                          bif (qsome (Proofs.YtiojjmlccehpoaaGreat.q26 [(qnth (Proofs.YtiojjmlccehpoaaGreat.q21 [sd0, (qnth (Proofs.YtiojjmlccehpoaaGreat.l9_9 [sd0, (D.int sn1)] [(D.int 0), (qrep (qlen sd0) (D.int 0))]) 1), (D.int sn1)]) 0)])) then
                            bif (qsome (Proofs.YtiojjmlccehpoaaGreat.l9_17 [(qnth (Proofs.YtiojjmlccehpoaaGreat.q21 [sd0, (qnth (Proofs.YtiojjmlccehpoaaGreat.l9_9 [sd0, (D.int sn1)] [(D.int 0), (qrep (qlen sd0) (D.int 0))]) 1), (D.int sn1)]) 0), (D.int (qint (qnth (Proofs.YtiojjmlccehpoaaGreat.q26 [(qnth (Proofs.YtiojjmlccehpoaaGreat.q21 [sd0, (qnth (Proofs.YtiojjmlccehpoaaGreat.l9_9 [sd0, (D.int sn1)] [(D.int 0), (qrep (qlen sd0) (D.int 0))]) 1), (D.int sn1)]) 0)]) 1)))] [(qnth (Proofs.YtiojjmlccehpoaaGreat.q26 [(qnth (Proofs.YtiojjmlccehpoaaGreat.q21 [sd0, (qnth (Proofs.YtiojjmlccehpoaaGreat.l9_9 [sd0, (D.int sn1)] [(D.int 0), (qrep (qlen sd0) (D.int 0))]) 1), (D.int sn1)]) 0)]) 0), (D.int 0)])) then
                              bif (qcmp BinOp.eql (qint (qnth (Proofs.YtiojjmlccehpoaaGreat.l9_17 [(qnth (Proofs.YtiojjmlccehpoaaGreat.q21 [sd0, (qnth (Proofs.YtiojjmlccehpoaaGreat.l9_9 [sd0, (D.int sn1)] [(D.int 0), (qrep (qlen sd0) (D.int 0))]) 1), (D.int sn1)]) 0), (D.int (qint (qnth (Proofs.YtiojjmlccehpoaaGreat.q26 [(qnth (Proofs.YtiojjmlccehpoaaGreat.q21 [sd0, (qnth (Proofs.YtiojjmlccehpoaaGreat.l9_9 [sd0, (D.int sn1)] [(D.int 0), (qrep (qlen sd0) (D.int 0))]) 1), (D.int sn1)]) 0)]) 1)))] [(qnth (Proofs.YtiojjmlccehpoaaGreat.q26 [(qnth (Proofs.YtiojjmlccehpoaaGreat.q21 [sd0, (qnth (Proofs.YtiojjmlccehpoaaGreat.l9_9 [sd0, (D.int sn1)] [(D.int 0), (qrep (qlen sd0) (D.int 0))]) 1), (D.int sn1)]) 0)]) 0), (D.int 0)]) 0)) 0) then
                                bif (qiteB (qiteB (qcmp BinOp.eql (qint (qnth (Proofs.YtiojjmlccehpoaaGreat.q26 [(qnth (Proofs.YtiojjmlccehpoaaGreat.q21 [sd0, (qnth (Proofs.YtiojjmlccehpoaaGreat.l9_9 [sd0, (D.int sn1)] [(D.int 0), (qrep (qlen sd0) (D.int 0))]) 1), (D.int sn1)]) 0)]) 1)) 0) (qcmp BinOp.eql (qlen (qnth (Proofs.YtiojjmlccehpoaaGreat.l9_17 [(qnth (Proofs.YtiojjmlccehpoaaGreat.q21 [sd0, (qnth (Proofs.YtiojjmlccehpoaaGreat.l9_9 [sd0, (D.int sn1)] [(D.int 0), (qrep (qlen sd0) (D.int 0))]) 1), (D.int sn1)]) 0), (D.int (qint (qnth (Proofs.YtiojjmlccehpoaaGreat.q26 [(qnth (Proofs.YtiojjmlccehpoaaGreat.q21 [sd0, (qnth (Proofs.YtiojjmlccehpoaaGreat.l9_9 [sd0, (D.int sn1)] [(D.int 0), (qrep (qlen sd0) (D.int 0))]) 1), (D.int sn1)]) 0)]) 1)))] [(qnth (Proofs.YtiojjmlccehpoaaGreat.q26 [(qnth (Proofs.YtiojjmlccehpoaaGreat.q21 [sd0, (qnth (Proofs.YtiojjmlccehpoaaGreat.l9_9 [sd0, (D.int sn1)] [(D.int 0), (qrep (qlen sd0) (D.int 0))]) 1), (D.int sn1)]) 0)]) 0), (D.int 0)]) 1)) 0) Bool.false) (qsome (Proofs.YtiojjmlccehpoaaGreat.q12 [])) Bool.true) then
                                  some [(D.bool (qiteB (qiteB (qcmp BinOp.eql (qint (qnth (Proofs.YtiojjmlccehpoaaGreat.q26 [(qnth (Proofs.YtiojjmlccehpoaaGreat.q21 [sd0, (qnth (Proofs.YtiojjmlccehpoaaGreat.l9_9 [sd0, (D.int sn1)] [(D.int 0), (qrep (qlen sd0) (D.int 0))]) 1), (D.int sn1)]) 0)]) 1)) 0) (qcmp BinOp.eql (qlen (qnth (Proofs.YtiojjmlccehpoaaGreat.l9_17 [(qnth (Proofs.YtiojjmlccehpoaaGreat.q21 [sd0, (qnth (Proofs.YtiojjmlccehpoaaGreat.l9_9 [sd0, (D.int sn1)] [(D.int 0), (qrep (qlen sd0) (D.int 0))]) 1), (D.int sn1)]) 0), (D.int (qint (qnth (Proofs.YtiojjmlccehpoaaGreat.q26 [(qnth (Proofs.YtiojjmlccehpoaaGreat.q21 [sd0, (qnth (Proofs.YtiojjmlccehpoaaGreat.l9_9 [sd0, (D.int sn1)] [(D.int 0), (qrep (qlen sd0) (D.int 0))]) 1), (D.int sn1)]) 0)]) 1)))] [(qnth (Proofs.YtiojjmlccehpoaaGreat.q26 [(qnth (Proofs.YtiojjmlccehpoaaGreat.q21 [sd0, (qnth (Proofs.YtiojjmlccehpoaaGreat.l9_9 [sd0, (D.int sn1)] [(D.int 0), (qrep (qlen sd0) (D.int 0))]) 1), (D.int sn1)]) 0)]) 0), (D.int 0)]) 1)) 0) Bool.false) (qbool (qnth (Proofs.YtiojjmlccehpoaaGreat.q12 []) 0)) Bool.false))]
                                else
                                  none
                              else
                                some [(D.bool Bool.false)]
                            else
                              none
                          else
                            none
                      else
                        none
                    else
                      none
                  else
                    none
                else
                  none
              else
                none
            else
              none
        else
          none
      else
        none := by
  have h : F9  [sd0, (D.int sn1)] =
    bif (qcmp BinOp.gtr (qlen sd0) 60) then
      bif (qsome (Proofs.YtiojjmlccehpoaaGreat.q12 [])) then
        some [(D.bool (qbool (qnth (Proofs.YtiojjmlccehpoaaGreat.q12 []) 0)))]
      else
        none
    else
      bif (qsome (Proofs.YtiojjmlccehpoaaGreat.q26 [sd0])) then
        bif (qsome (Proofs.YtiojjmlccehpoaaGreat.q27 [sd0])) then
          bif (qiteB (qcmp BinOp.neq (qint (qnth (Proofs.YtiojjmlccehpoaaGreat.q26 [sd0]) 1)) (qint (qnth (Proofs.YtiojjmlccehpoaaGreat.q27 [sd0]) 1))) Bool.true (qcmpS BinOp.neq (qtext (qnth (Proofs.YtiojjmlccehpoaaGreat.q26 [sd0]) 0)) (qtext (qnth (Proofs.YtiojjmlccehpoaaGreat.q27 [sd0]) 0)))) then
            some [(D.bool Bool.false)]
          else
            bif (qcmp BinOp.leq 0 (qlen sd0)) then
              bif (qcmp BinOp.leq (qlen sd0) (qlen sd0)) then
                bif (qmem (qlen sd0) 8) then
                  bif (qcmp BinOp.eql (qlen sd0) (qlen (qrep (qlen sd0) (D.int 0)))) then
                    bif (qsome (Proofs.YtiojjmlccehpoaaGreat.l9_9 [sd0, (D.int sn1)] [(D.int 0), (qrep (qlen sd0) (D.int 0))])) then
                      bif (qcmp BinOp.eql (qlen (qnth (Proofs.YtiojjmlccehpoaaGreat.l9_9 [sd0, (D.int sn1)] [(D.int 0), (qrep (qlen sd0) (D.int 0))]) 1)) (qlen (qnth (Proofs.YtiojjmlccehpoaaGreat.l9_9 [sd0, (D.int sn1)] [(D.int 0), (qrep (qlen sd0) (D.int 0))]) 1))) then
                        bif (qsome (Proofs.YtiojjmlccehpoaaGreat.q21 [sd0, (qnth (Proofs.YtiojjmlccehpoaaGreat.l9_9 [sd0, (D.int sn1)] [(D.int 0), (qrep (qlen sd0) (D.int 0))]) 1), (D.int sn1)])) then
                          bif (qcmp BinOp.neq (qint (qnth (Proofs.YtiojjmlccehpoaaGreat.q21 [sd0, (qnth (Proofs.YtiojjmlccehpoaaGreat.l9_9 [sd0, (D.int sn1)] [(D.int 0), (qrep (qlen sd0) (D.int 0))]) 1), (D.int sn1)]) 1)) 0) then
                            bif (qsome (Proofs.YtiojjmlccehpoaaGreat.q12 [])) then
                              some [(D.bool (qbool (qnth (Proofs.YtiojjmlccehpoaaGreat.q12 []) 0)))]
                            else
                              none
                          else
                            bif (qsome (Proofs.YtiojjmlccehpoaaGreat.q26 [(qnth (Proofs.YtiojjmlccehpoaaGreat.q21 [sd0, (qnth (Proofs.YtiojjmlccehpoaaGreat.l9_9 [sd0, (D.int sn1)] [(D.int 0), (qrep (qlen sd0) (D.int 0))]) 1), (D.int sn1)]) 0)])) then
                              bif (qsome (Proofs.YtiojjmlccehpoaaGreat.l9_17 [(qnth (Proofs.YtiojjmlccehpoaaGreat.q21 [sd0, (qnth (Proofs.YtiojjmlccehpoaaGreat.l9_9 [sd0, (D.int sn1)] [(D.int 0), (qrep (qlen sd0) (D.int 0))]) 1), (D.int sn1)]) 0), (D.int (qint (qnth (Proofs.YtiojjmlccehpoaaGreat.q26 [(qnth (Proofs.YtiojjmlccehpoaaGreat.q21 [sd0, (qnth (Proofs.YtiojjmlccehpoaaGreat.l9_9 [sd0, (D.int sn1)] [(D.int 0), (qrep (qlen sd0) (D.int 0))]) 1), (D.int sn1)]) 0)]) 1)))] [(qnth (Proofs.YtiojjmlccehpoaaGreat.q26 [(qnth (Proofs.YtiojjmlccehpoaaGreat.q21 [sd0, (qnth (Proofs.YtiojjmlccehpoaaGreat.l9_9 [sd0, (D.int sn1)] [(D.int 0), (qrep (qlen sd0) (D.int 0))]) 1), (D.int sn1)]) 0)]) 0), (D.int 0)])) then
                                bif (qcmp BinOp.eql (qint (qnth (Proofs.YtiojjmlccehpoaaGreat.l9_17 [(qnth (Proofs.YtiojjmlccehpoaaGreat.q21 [sd0, (qnth (Proofs.YtiojjmlccehpoaaGreat.l9_9 [sd0, (D.int sn1)] [(D.int 0), (qrep (qlen sd0) (D.int 0))]) 1), (D.int sn1)]) 0), (D.int (qint (qnth (Proofs.YtiojjmlccehpoaaGreat.q26 [(qnth (Proofs.YtiojjmlccehpoaaGreat.q21 [sd0, (qnth (Proofs.YtiojjmlccehpoaaGreat.l9_9 [sd0, (D.int sn1)] [(D.int 0), (qrep (qlen sd0) (D.int 0))]) 1), (D.int sn1)]) 0)]) 1)))] [(qnth (Proofs.YtiojjmlccehpoaaGreat.q26 [(qnth (Proofs.YtiojjmlccehpoaaGreat.q21 [sd0, (qnth (Proofs.YtiojjmlccehpoaaGreat.l9_9 [sd0, (D.int sn1)] [(D.int 0), (qrep (qlen sd0) (D.int 0))]) 1), (D.int sn1)]) 0)]) 0), (D.int 0)]) 0)) 0) then
                                  bif (qiteB (qiteB (qcmp BinOp.eql (qint (qnth (Proofs.YtiojjmlccehpoaaGreat.q26 [(qnth (Proofs.YtiojjmlccehpoaaGreat.q21 [sd0, (qnth (Proofs.YtiojjmlccehpoaaGreat.l9_9 [sd0, (D.int sn1)] [(D.int 0), (qrep (qlen sd0) (D.int 0))]) 1), (D.int sn1)]) 0)]) 1)) 0) (qcmp BinOp.eql (qlen (qnth (Proofs.YtiojjmlccehpoaaGreat.l9_17 [(qnth (Proofs.YtiojjmlccehpoaaGreat.q21 [sd0, (qnth (Proofs.YtiojjmlccehpoaaGreat.l9_9 [sd0, (D.int sn1)] [(D.int 0), (qrep (qlen sd0) (D.int 0))]) 1), (D.int sn1)]) 0), (D.int (qint (qnth (Proofs.YtiojjmlccehpoaaGreat.q26 [(qnth (Proofs.YtiojjmlccehpoaaGreat.q21 [sd0, (qnth (Proofs.YtiojjmlccehpoaaGreat.l9_9 [sd0, (D.int sn1)] [(D.int 0), (qrep (qlen sd0) (D.int 0))]) 1), (D.int sn1)]) 0)]) 1)))] [(qnth (Proofs.YtiojjmlccehpoaaGreat.q26 [(qnth (Proofs.YtiojjmlccehpoaaGreat.q21 [sd0, (qnth (Proofs.YtiojjmlccehpoaaGreat.l9_9 [sd0, (D.int sn1)] [(D.int 0), (qrep (qlen sd0) (D.int 0))]) 1), (D.int sn1)]) 0)]) 0), (D.int 0)]) 1)) 0) Bool.false) (qsome (Proofs.YtiojjmlccehpoaaGreat.q12 [])) Bool.true) then
                                    some [(D.bool (qiteB (qiteB (qcmp BinOp.eql (qint (qnth (Proofs.YtiojjmlccehpoaaGreat.q26 [(qnth (Proofs.YtiojjmlccehpoaaGreat.q21 [sd0, (qnth (Proofs.YtiojjmlccehpoaaGreat.l9_9 [sd0, (D.int sn1)] [(D.int 0), (qrep (qlen sd0) (D.int 0))]) 1), (D.int sn1)]) 0)]) 1)) 0) (qcmp BinOp.eql (qlen (qnth (Proofs.YtiojjmlccehpoaaGreat.l9_17 [(qnth (Proofs.YtiojjmlccehpoaaGreat.q21 [sd0, (qnth (Proofs.YtiojjmlccehpoaaGreat.l9_9 [sd0, (D.int sn1)] [(D.int 0), (qrep (qlen sd0) (D.int 0))]) 1), (D.int sn1)]) 0), (D.int (qint (qnth (Proofs.YtiojjmlccehpoaaGreat.q26 [(qnth (Proofs.YtiojjmlccehpoaaGreat.q21 [sd0, (qnth (Proofs.YtiojjmlccehpoaaGreat.l9_9 [sd0, (D.int sn1)] [(D.int 0), (qrep (qlen sd0) (D.int 0))]) 1), (D.int sn1)]) 0)]) 1)))] [(qnth (Proofs.YtiojjmlccehpoaaGreat.q26 [(qnth (Proofs.YtiojjmlccehpoaaGreat.q21 [sd0, (qnth (Proofs.YtiojjmlccehpoaaGreat.l9_9 [sd0, (D.int sn1)] [(D.int 0), (qrep (qlen sd0) (D.int 0))]) 1), (D.int sn1)]) 0)]) 0), (D.int 0)]) 1)) 0) Bool.false) (qbool (qnth (Proofs.YtiojjmlccehpoaaGreat.q12 []) 0)) Bool.false))]
                                  else
                                    none
                                else
                                  some [(D.bool Bool.false)]
                              else
                                none
                            else
                              none
                        else
                          none
                      else
                        none
                    else
                      none
                  else
                    none
                else
                  none
              else
                none
            else
              none
        else
          none
      else
        none := by kernel_rfl
  rw [h]; simp only [qeqD_self, qeqI_self, qeq_len, show qcmp BinOp.eql 0 (qlen (D.list [])) = true from qeq_len [], show ∀ a, qcmp BinOp.eql 1 (qlen (D.list [a])) = true from fun a => qeq_len [a], show ∀ a b, qcmp BinOp.eql 2 (qlen (D.list [a, b])) = true from fun a b => qeq_len [a, b], cond_true]

noncomputable def q9 : List D → Option (List D) := veil (F9 )

theorem q9_eq : q9  = F9  := veil_eq _

noncomputable def tb9 : Tb := Tb.addF tbl9_17 9 S9 (q9 )

theorem ok_tb9 : TbOk env (tb9 ) := addFunF ok_tbl9_17 9 (by kernel_rfl) _ (q9_eq )

end Go.Proofs.YtiojjmlccehpoaaGreat
