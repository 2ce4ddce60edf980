/-
  Made by gen3.py: what functions of the seat compute, as partial functions on data, and that they do.
-/
import Derived.Test.YtiojjmlccehpoaaGreatSp
import Derived.KernelRfl
open Go Go.AM
namespace Go.Proofs.YtiojjmlccehpoaaGreat
set_option maxRecDepth 100000
set_option linter.unusedSimpArgs false
set_option linter.unusedVariables false
/- function 134  -/

def S134 : FunS := ⟨[⟨true, (.dat 46)⟩], [], [⟨true, (.tup [(.int .u8), (.int .i64), .bool])⟩], []⟩

noncomputable def F134 : List D → Option (List D) := liftX env Tb.nil 60 6 134 S134

theorem F134_eq  (sd0 : D) : F134  [sd0] =
    bif (qand (qcmp BinOp.eql (qint (qfld sd0 2)) 16) (qcmp BinOp.eql (qint (qfld sd0 4)) 4)) then
      some [(D.int 80), (D.int 5), (D.bool Bool.true)]
    else
      bif (qand (qcmp BinOp.eql (qint (qfld sd0 2)) 16) (qcmp BinOp.eql (qint (qfld sd0 4)) 1)) then
        some [(D.int 81), (D.int 5), (D.bool Bool.true)]
      else
        bif (qand (qcmp BinOp.eql (qint (qfld sd0 2)) 17) (qcmp BinOp.eql (qint (qfld sd0 4)) 1)) then
          some [(D.int 82), (D.int 5), (D.bool Bool.true)]
        else
          bif (qand (qcmp BinOp.eql (qint (qfld sd0 2)) 16) (qcmp BinOp.eql (qint (qfld sd0 4)) 2)) then
            some [(D.int 83), (D.int 5), (D.bool Bool.true)]
          else
            bif (qand (qcmp BinOp.eql (qint (qfld sd0 2)) 17) (qcmp BinOp.eql (qint (qfld sd0 4)) 2)) then
              some [(D.int 84), (D.int 5), (D.bool Bool.true)]
            else
              bif (qand (qcmp BinOp.eql (qint (qfld sd0 2)) 18) (qcmp BinOp.eql (qint (qfld sd0 4)) 4)) then
                some [(D.int 85), (D.int 5), (D.bool Bool.true)]
              else
                bif (qand (qcmp BinOp.eql (qint (qfld sd0 2)) 18) (qcmp BinOp.eql (qint (qfld sd0 4)) 1)) then
                  some [(D.int 86), (D.int 5), (D.bool Bool.true)]
                else
                  bif (qand (qcmp BinOp.eql (qint (qfld sd0 2)) 18) (qcmp BinOp.eql (qint (qfld sd0 4)) 2)) then
                    some [(D.int 87), (D.int 5), (D.bool Bool.true)]
                  else
                    some [(D.int 0), (D.int 5), (D.bool Bool.false)] := by kernel_rfl

noncomputable def q134 : List D → Option (List D) := veil (F134 )

theorem q134_eq : q134  = F134  := veil_eq _

noncomputable def tb134 : Tb := Tb.addF Tb.nil 134 S134 (q134 )

theorem ok_tb134 : TbOk env (tb134 ) := addFunF ok_nil 134 (by kernel_rfl) _ (q134_eq )

/- function 135  -/

def S135 : FunS := ⟨[⟨true, (.dat 46)⟩], [], [⟨true, (.tup [(.int .u8), (.int .i64), .bool])⟩], []⟩

noncomputable def F135 : List D → Option (List D) := liftX env tb134 60 6 135 S135

theorem F135_eq  (sd0 : D) : F135  [sd0] =
    bif (qiteB (qcmp BinOp.lss (qint (qfld sd0 5)) 0) Bool.true (qcmp BinOp.gtr (qint (qfld sd0 5)) 14)) then
      some [(D.int 0), (D.int 0), (D.bool Bool.false)]
    else
      bif (qcmp BinOp.eql (qint (qfld sd0 2)) 25) then
        some [(D.int (qbin BinOp.add IntKind.u8 144 (qwrap IntKind.u8 (qint (qfld sd0 5))))), (D.int 2), (D.bool Bool.true)]
      else
        bif (qcmp BinOp.eql (qint (qfld sd0 3)) 1) then
          some [(D.int (qbin BinOp.add IntKind.u8 96 (qwrap IntKind.u8 (qint (qfld sd0 5))))), (D.int 7), (D.bool Bool.true)]
        else
          bif (qcmp BinOp.eql (qint (qfld sd0 3)) 2) then
            some [(D.int (qbin BinOp.add IntKind.u8 112 (qwrap IntKind.u8 (qint (qfld sd0 5))))), (D.int 8), (D.bool Bool.true)]
          else
            some [(D.int 0), (D.int 0), (D.bool Bool.false)] := by kernel_rfl

noncomputable def q135 : List D → Option (List D) := veil (F135 )

theorem q135_eq : q135  = F135  := veil_eq _

noncomputable def tb135 : Tb := Tb.addF tb134 135 S135 (q135 )

theorem ok_tb135 : TbOk env (tb135 ) := addFunF ok_tb134 135 (by kernel_rfl) _ (q135_eq )

/- function 81  -/

def S81 : FunS := ⟨[⟨true, (.dat 46)⟩], [], [⟨true, (.tup [(.int .u8), (.int .i64), .bool])⟩], []⟩

noncomputable def F81 : List D → Option (List D) := liftX env tb135 60 6 81 S81

theorem F81_eq  (sd0 : D) : F81  [sd0] =
    bif (qiteB (qcmp BinOp.eql (qint (qfld sd0 2)) 0) (qcmp BinOp.eql (qint (qfld sd0 2)) 0) (qiteB (qcmp BinOp.eql (qint (qfld sd0 2)) 1) (qcmp BinOp.eql (qint (qfld sd0 2)) 1) (qcmp BinOp.eql (qint (qfld sd0 2)) 2))) then
      some [(D.int (qwrap IntKind.u8 (qint (qfld sd0 2)))), (D.int 0), (D.bool Bool.true)]
    else
      bif (qcmp BinOp.eql (qint (qfld sd0 2)) 3) then
        some [(D.int (qbin BinOp.add IntKind.u8 8 (qwrap IntKind.u8 (qbin BinOp.and IntKind.i64 (qint (qfld sd0 6)) 7)))), (D.int 1), (D.bool Bool.true)]
      else
        bif (qcmp BinOp.eql (qint (qfld sd0 2)) 4) then
          some [(D.int (qbin BinOp.add IntKind.u8 16 (qwrap IntKind.u8 (qbin BinOp.and IntKind.i64 (qint (qfld sd0 6)) 7)))), (D.int 1), (D.bool Bool.true)]
        else
          bif (qiteB (qcmp BinOp.geq (qint (qfld sd0 2)) 5) (qcmp BinOp.leq (qint (qfld sd0 2)) 15) Bool.false) then
            bif (qcmp BinOp.eql (qint (qfld sd0 3)) 0) then
              some [(D.int (qbin BinOp.add IntKind.u8 32 (qwrap IntKind.u8 (qbin BinOp.sub IntKind.i64 (qint (qfld sd0 2)) 5)))), (D.int 3), (D.bool Bool.true)]
            else
              bif (qcmp BinOp.eql (qint (qfld sd0 3)) 1) then
                some [(D.int (qbin BinOp.add IntKind.u8 48 (qwrap IntKind.u8 (qbin BinOp.sub IntKind.i64 (qint (qfld sd0 2)) 5)))), (D.int 4), (D.bool Bool.true)]
              else
                bif (qcmp BinOp.eql (qint (qfld sd0 3)) 2) then
                  some [(D.int (qbin BinOp.add IntKind.u8 64 (qwrap IntKind.u8 (qbin BinOp.sub IntKind.i64 (qint (qfld sd0 2)) 5)))), (D.int 6), (D.bool Bool.true)]
                else
                  some [(D.int 0), (D.int 0), (D.bool Bool.false)]
          else
            bif (qiteB (qcmp BinOp.eql (qint (qfld sd0 2)) 16) (qcmp BinOp.eql (qint (qfld sd0 2)) 16) (qiteB (qcmp BinOp.eql (qint (qfld sd0 2)) 17) (qcmp BinOp.eql (qint (qfld sd0 2)) 17) (qcmp BinOp.eql (qint (qfld sd0 2)) 18))) then
              bif (qsome (Proofs.YtiojjmlccehpoaaGreat.q134 [sd0])) then
                some [(D.int (qint (qnth (Proofs.YtiojjmlccehpoaaGreat.q134 [sd0]) 0))), (D.int (qint (qnth (Proofs.YtiojjmlccehpoaaGreat.q134 [sd0]) 1))), (D.bool (qbool (qnth (Proofs.YtiojjmlccehpoaaGreat.q134 [sd0]) 2)))]
              else
                none
            else
              bif (qcmp BinOp.eql (qint (qfld sd0 2)) 19) then
                some [(D.int 90), (D.int 5), (D.bool Bool.true)]
              else
                bif (qiteB (qcmp BinOp.eql (qint (qfld sd0 2)) 20) Bool.true (qcmp BinOp.eql (qint (qfld sd0 2)) 25)) then
                  bif (qsome (Proofs.YtiojjmlccehpoaaGreat.q135 [sd0])) then
                    some [(D.int (qint (qnth (Proofs.YtiojjmlccehpoaaGreat.q135 [sd0]) 0))), (D.int (qint (qnth (Proofs.YtiojjmlccehpoaaGreat.q135 [sd0]) 1))), (D.bool (qbool (qnth (Proofs.YtiojjmlccehpoaaGreat.q135 [sd0]) 2)))]
                  else
                    none
                else
                  bif (qcmp BinOp.eql (qint (qfld sd0 2)) 23) then
                    some [(D.int 128), (D.int 8), (D.bool Bool.true)]
                  else
                    bif (qcmp BinOp.eql (qint (qfld sd0 2)) 24) then
                      some [(D.int 129), (D.int 2), (D.bool Bool.true)]
                    else
                      bif (qcmp BinOp.eql (qint (qfld sd0 2)) 21) then
                        some [(D.int 130), (D.int 2), (D.bool Bool.true)]
                      else
                        bif (qcmp BinOp.eql (qint (qfld sd0 2)) 22) then
                          some [(D.int 131), (D.int 6), (D.bool Bool.true)]
                        else
                          bif (qcmp BinOp.eql (qint (qfld sd0 2)) 26) then
                            some [(D.int 160), (D.int 2), (D.bool Bool.true)]
                          else
                            bif (qcmp BinOp.eql (qint (qfld sd0 2)) 27) then
                              some [(D.int 161), (D.int 2), (D.bool Bool.true)]
                            else
                              some [(D.int 0), (D.int 0), (D.bool Bool.false)] := by kernel_rfl

noncomputable def q81 : List D → Option (List D) := veil (F81 )

theorem q81_eq : q81  = F81  := veil_eq _

noncomputable def tb81 : Tb := Tb.addF tb135 81 S81 (q81 )

theorem ok_tb81 : TbOk env (tb81 ) := addFunF ok_tb135 81 (by kernel_rfl) _ (q81_eq )

/- function 124  -/

def S124 : FunS := ⟨[⟨true, (.dat 46)⟩, ⟨true, (.int .i64)⟩], [], [⟨true, (.dat 46)⟩], []⟩

noncomputable def F124 : List D → Option (List D) := liftX env tb81 60 6 124 S124

theorem F124_eq  (sd0 : D) (sn1 : Int) : F124  [sd0, (D.int sn1)] =
    bif (qiteB (qcmp BinOp.eql sn1 1) (qcmp BinOp.eql sn1 1) (qcmp BinOp.eql sn1 2)) then
      bif (qiteB (qcmp BinOp.geq (qint (qfld sd0 2)) 5) (qcmp BinOp.leq (qint (qfld sd0 2)) 15) Bool.false) then
        some [(D.agg [(D.int (qint (qfld sd0 0))), (D.int 0), (D.int (qint (qfld sd0 2))), (D.int (qint (qfld sd0 3))), (D.int 0), (D.int 0), (D.int (qint (qfld sd0 6))), (D.int 0), (D.int (qint (qfld sd0 8)))])]
      else
        bif (qiteB (qcmp BinOp.eql (qint (qfld sd0 2)) 16) (qcmp BinOp.eql (qint (qfld sd0 2)) 16) (qiteB (qcmp BinOp.eql (qint (qfld sd0 2)) 17) (qcmp BinOp.eql (qint (qfld sd0 2)) 17) (qcmp BinOp.eql (qint (qfld sd0 2)) 18))) then
          some [(D.agg [(D.int (qint (qfld sd0 0))), (D.int 0), (D.int (qint (qfld sd0 2))), (D.int 0), (D.int (qint (qfld sd0 4))), (D.int 0), (D.int (qint (qfld sd0 6))), (D.int 0), (D.int (qint (qfld sd0 8)))])]
        else
          bif (qcmp BinOp.eql (qint (qfld sd0 2)) 20) then
            some [(D.agg [(D.int (qint (qfld sd0 0))), (D.int 0), (D.int (qint (qfld sd0 2))), (D.int (qint (qfld sd0 3))), (D.int 0), (D.int (qint (qfld sd0 5))), (D.int (qint (qfld sd0 6))), (D.int 0), (D.int (qint (qfld sd0 8)))])]
          else
            bif (qcmp BinOp.eql (qint (qfld sd0 2)) 25) then
              some [(D.agg [(D.int (qint (qfld sd0 0))), (D.int 0), (D.int (qint (qfld sd0 2))), (D.int 0), (D.int 0), (D.int (qint (qfld sd0 5))), (D.int (qint (qfld sd0 6))), (D.int 0), (D.int (qint (qfld sd0 8)))])]
            else
              some [(D.agg [(D.int (qint (qfld sd0 0))), (D.int 0), (D.int (qint (qfld sd0 2))), (D.int 0), (D.int 0), (D.int 0), (D.int (qint (qfld sd0 6))), (D.int 0), (D.int (qint (qfld sd0 8)))])]
    else
      bif (qcmp BinOp.eql sn1 3) then
        bif (qiteB (qcmp BinOp.geq (qint (qfld sd0 2)) 5) (qcmp BinOp.leq (qint (qfld sd0 2)) 15) Bool.false) then
          some [(D.agg [(D.int (qint (qfld sd0 0))), (D.int 0), (D.int (qint (qfld sd0 2))), (D.int (qint (qfld sd0 3))), (D.int 0), (D.int 0), (D.int (qint (qfld sd0 6))), (D.int (qint (qfld sd0 7))), (D.int (qint (qfld sd0 8)))])]
        else
          bif (qiteB (qcmp BinOp.eql (qint (qfld sd0 2)) 16) (qcmp BinOp.eql (qint (qfld sd0 2)) 16) (qiteB (qcmp BinOp.eql (qint (qfld sd0 2)) 17) (qcmp BinOp.eql (qint (qfld sd0 2)) 17) (qcmp BinOp.eql (qint (qfld sd0 2)) 18))) then
            some [(D.agg [(D.int (qint (qfld sd0 0))), (D.int 0), (D.int (qint (qfld sd0 2))), (D.int 0), (D.int (qint (qfld sd0 4))), (D.int 0), (D.int (qint (qfld sd0 6))), (D.int (qint (qfld sd0 7))), (D.int (qint (qfld sd0 8)))])]
          else
            bif (qcmp BinOp.eql (qint (qfld sd0 2)) 20) then
              some [(D.agg [(D.int (qint (qfld sd0 0))), (D.int 0), (D.int (qint (qfld sd0 2))), (D.int (qint (qfld sd0 3))), (D.int 0), (D.int (qint (qfld sd0 5))), (D.int (qint (qfld sd0 6))), (D.int (qint (qfld sd0 7))), (D.int (qint (qfld sd0 8)))])]
            else
              bif (qcmp BinOp.eql (qint (qfld sd0 2)) 25) then
                some [(D.agg [(D.int (qint (qfld sd0 0))), (D.int 0), (D.int (qint (qfld sd0 2))), (D.int 0), (D.int 0), (D.int (qint (qfld sd0 5))), (D.int (qint (qfld sd0 6))), (D.int (qint (qfld sd0 7))), (D.int (qint (qfld sd0 8)))])]
              else
                some [(D.agg [(D.int (qint (qfld sd0 0))), (D.int 0), (D.int (qint (qfld sd0 2))), (D.int 0), (D.int 0), (D.int 0), (D.int (qint (qfld sd0 6))), (D.int (qint (qfld sd0 7))), (D.int (qint (qfld sd0 8)))])]
      else
        bif (qiteB (qcmp BinOp.eql sn1 4) (qcmp BinOp.eql sn1 4) (qcmp BinOp.eql sn1 6)) then
          bif (qiteB (qcmp BinOp.geq (qint (qfld sd0 2)) 5) (qcmp BinOp.leq (qint (qfld sd0 2)) 15) Bool.false) then
            some [(D.agg [(D.int (qint (qfld sd0 0))), (D.int (qint (qfld sd0 1))), (D.int (qint (qfld sd0 2))), (D.int (qint (qfld sd0 3))), (D.int 0), (D.int 0), (D.int (qint (qfld sd0 6))), (D.int 0), (D.int (qint (qfld sd0 8)))])]
          else
            bif (qiteB (qcmp BinOp.eql (qint (qfld sd0 2)) 16) (qcmp BinOp.eql (qint (qfld sd0 2)) 16) (qiteB (qcmp BinOp.eql (qint (qfld sd0 2)) 17) (qcmp BinOp.eql (qint (qfld sd0 2)) 17) (qcmp BinOp.eql (qint (qfld sd0 2)) 18))) then
              some [(D.agg [(D.int (qint (qfld sd0 0))), (D.int (qint (qfld sd0 1))), (D.int (qint (qfld sd0 2))), (D.int 0), (D.int (qint (qfld sd0 4))), (D.int 0), (D.int (qint (qfld sd0 6))), (D.int 0), (D.int (qint (qfld sd0 8)))])]
            else
              bif (qcmp BinOp.eql (qint (qfld sd0 2)) 20) then
                some [(D.agg [(D.int (qint (qfld sd0 0))), (D.int (qint (qfld sd0 1))), (D.int (qint (qfld sd0 2))), (D.int (qint (qfld sd0 3))), (D.int 0), (D.int (qint (qfld sd0 5))), (D.int (qint (qfld sd0 6))), (D.int 0), (D.int (qint (qfld sd0 8)))])]
              else
                bif (qcmp BinOp.eql (qint (qfld sd0 2)) 25) then
                  some [(D.agg [(D.int (qint (qfld sd0 0))), (D.int (qint (qfld sd0 1))), (D.int (qint (qfld sd0 2))), (D.int 0), (D.int 0), (D.int (qint (qfld sd0 5))), (D.int (qint (qfld sd0 6))), (D.int 0), (D.int (qint (qfld sd0 8)))])]
                else
                  some [(D.agg [(D.int (qint (qfld sd0 0))), (D.int (qint (qfld sd0 1))), (D.int (qint (qfld sd0 2))), (D.int 0), (D.int 0), (D.int 0), (D.int (qint (qfld sd0 6))), (D.int 0), (D.int (qint (qfld sd0 8)))])]
        else
          bif (qcmp BinOp.eql sn1 5) then
            bif (qiteB (qcmp BinOp.geq (qint (qfld sd0 2)) 5) (qcmp BinOp.leq (qint (qfld sd0 2)) 15) Bool.false) then
              some [(D.agg [(D.int (qint (qfld sd0 0))), (D.int (qint (qfld sd0 1))), (D.int (qint (qfld sd0 2))), (D.int (qint (qfld sd0 3))), (D.int 0), (D.int 0), (D.int (qint (qfld sd0 6))), (D.int (qint (qfld sd0 7))), (D.int (qint (qfld sd0 8)))])]
            else
              bif (qiteB (qcmp BinOp.eql (qint (qfld sd0 2)) 16) (qcmp BinOp.eql (qint (qfld sd0 2)) 16) (qiteB (qcmp BinOp.eql (qint (qfld sd0 2)) 17) (qcmp BinOp.eql (qint (qfld sd0 2)) 17) (qcmp BinOp.eql (qint (qfld sd0 2)) 18))) then
                some [(D.agg [(D.int (qint (qfld sd0 0))), (D.int (qint (qfld sd0 1))), (D.int (qint (qfld sd0 2))), (D.int 0), (D.int (qint (qfld sd0 4))), (D.int 0), (D.int (qint (qfld sd0 6))), (D.int (qint (qfld sd0 7))), (D.int (qint (qfld sd0 8)))])]
              else
                bif (qcmp BinOp.eql (qint (qfld sd0 2)) 20) then
                  some [(D.agg [(D.int (qint (qfld sd0 0))), (D.int (qint (qfld sd0 1))), (D.int (qint (qfld sd0 2))), (D.int (qint (qfld sd0 3))), (D.int 0), (D.int (qint (qfld sd0 5))), (D.int (qint (qfld sd0 6))), (D.int (qint (qfld sd0 7))), (D.int (qint (qfld sd0 8)))])]
                else
                  bif (qcmp BinOp.eql (qint (qfld sd0 2)) 25) then
                    some [(D.agg [(D.int (qint (qfld sd0 0))), (D.int (qint (qfld sd0 1))), (D.int (qint (qfld sd0 2))), (D.int 0), (D.int 0), (D.int (qint (qfld sd0 5))), (D.int (qint (qfld sd0 6))), (D.int (qint (qfld sd0 7))), (D.int (qint (qfld sd0 8)))])]
                  else
                    some [(D.agg [(D.int (qint (qfld sd0 0))), (D.int (qint (qfld sd0 1))), (D.int (qint (qfld sd0 2))), (D.int 0), (D.int 0), (D.int 0), (D.int (qint (qfld sd0 6))), (D.int (qint (qfld sd0 7))), (D.int (qint (qfld sd0 8)))])]
          else
            bif (qiteB (qcmp BinOp.eql sn1 7) (qcmp BinOp.eql sn1 7) (qcmp BinOp.eql sn1 8)) then
              bif (qiteB (qcmp BinOp.geq (qint (qfld sd0 2)) 5) (qcmp BinOp.leq (qint (qfld sd0 2)) 15) Bool.false) then
                some [(D.agg [(D.int (qint (qfld sd0 0))), (D.int (qint (qfld sd0 1))), (D.int (qint (qfld sd0 2))), (D.int (qint (qfld sd0 3))), (D.int 0), (D.int 0), (D.int 0), (D.int 0), (D.int (qint (qfld sd0 8)))])]
              else
                bif (qiteB (qcmp BinOp.eql (qint (qfld sd0 2)) 16) (qcmp BinOp.eql (qint (qfld sd0 2)) 16) (qiteB (qcmp BinOp.eql (qint (qfld sd0 2)) 17) (qcmp BinOp.eql (qint (qfld sd0 2)) 17) (qcmp BinOp.eql (qint (qfld sd0 2)) 18))) then
                  some [(D.agg [(D.int (qint (qfld sd0 0))), (D.int (qint (qfld sd0 1))), (D.int (qint (qfld sd0 2))), (D.int 0), (D.int (qint (qfld sd0 4))), (D.int 0), (D.int 0), (D.int 0), (D.int (qint (qfld sd0 8)))])]
                else
                  bif (qcmp BinOp.eql (qint (qfld sd0 2)) 20) then
                    some [(D.agg [(D.int (qint (qfld sd0 0))), (D.int (qint (qfld sd0 1))), (D.int (qint (qfld sd0 2))), (D.int (qint (qfld sd0 3))), (D.int 0), (D.int (qint (qfld sd0 5))), (D.int 0), (D.int 0), (D.int (qint (qfld sd0 8)))])]
                  else
                    bif (qcmp BinOp.eql (qint (qfld sd0 2)) 25) then
                      some [(D.agg [(D.int (qint (qfld sd0 0))), (D.int (qint (qfld sd0 1))), (D.int (qint (qfld sd0 2))), (D.int 0), (D.int 0), (D.int (qint (qfld sd0 5))), (D.int 0), (D.int 0), (D.int (qint (qfld sd0 8)))])]
                    else
                      some [(D.agg [(D.int (qint (qfld sd0 0))), (D.int (qint (qfld sd0 1))), (D.int (qint (qfld sd0 2))), (D.int 0), (D.int 0), (D.int 0), (D.int 0), (D.int 0), (D.int (qint (qfld sd0 8)))])]
            else
              bif (qiteB (qcmp BinOp.geq (qint (qfld sd0 2)) 5) (qcmp BinOp.leq (qint (qfld sd0 2)) 15) Bool.false) then
                some [(D.agg [(D.int (qint (qfld sd0 0))), (D.int 0), (D.int (qint (qfld sd0 2))), (D.int (qint (qfld sd0 3))), (D.int 0), (D.int 0), (D.int 0), (D.int 0), (D.int (qint (qfld sd0 8)))])]
              else
                bif (qiteB (qcmp BinOp.eql (qint (qfld sd0 2)) 16) (qcmp BinOp.eql (qint (qfld sd0 2)) 16) (qiteB (qcmp BinOp.eql (qint (qfld sd0 2)) 17) (qcmp BinOp.eql (qint (qfld sd0 2)) 17) (qcmp BinOp.eql (qint (qfld sd0 2)) 18))) then
                  some [(D.agg [(D.int (qint (qfld sd0 0))), (D.int 0), (D.int (qint (qfld sd0 2))), (D.int 0), (D.int (qint (qfld sd0 4))), (D.int 0), (D.int 0), (D.int 0), (D.int (qint (qfld sd0 8)))])]
                else
                  bif (qcmp BinOp.eql (qint (qfld sd0 2)) 20) then
                    some [(D.agg [(D.int (qint (qfld sd0 0))), (D.int 0), (D.int (qint (qfld sd0 2))), (D.int (qint (qfld sd0 3))), (D.int 0), (D.int (qint (qfld sd0 5))), (D.int 0), (D.int 0), (D.int (qint (qfld sd0 8)))])]
                  else
                    bif (qcmp BinOp.eql (qint (qfld sd0 2)) 25) then
                      some [(D.agg [(D.int (qint (qfld sd0 0))), (D.int 0), (D.int (qint (qfld sd0 2))), (D.int 0), (D.int 0), (D.int (qint (qfld sd0 5))), (D.int 0), (D.int 0), (D.int (qint (qfld sd0 8)))])]
                    else
                      some [(D.agg [(D.int (qint (qfld sd0 0))), (D.int 0), (D.int (qint (qfld sd0 2))), (D.int 0), (D.int 0), (D.int 0), (D.int 0), (D.int 0), (D.int (qint (qfld sd0 8)))])] := by kernel_rfl

noncomputable def q124 : List D → Option (List D) := veil (F124 )

theorem q124_eq : q124  = F124  := veil_eq _

noncomputable def tb124 : Tb := Tb.addF tb81 124 S124 (q124 )

theorem ok_tb124 : TbOk env (tb124 ) := addFunF ok_tb81 124 (by kernel_rfl) _ (q124_eq )

end Go.Proofs.YtiojjmlccehpoaaGreat

open Go Go.AM
namespace Go.Proofs.YtiojjmlccehpoaaGreat
set_option maxRecDepth 100000
set_option linter.unusedSimpArgs false
set_option linter.unusedVariables false
/- function 69  -/

def S69 : FunS := ⟨[⟨true, (.dat 46)⟩], [], [⟨true, (.tup [(.int .u8), (.int .i64), (.int .i64)])⟩], []⟩

noncomputable def F69 : List D → Option (List D) := liftX env tb124 60 6 69 S69

theorem F69_eq  (sd0 : D) : F69  [sd0] =
    bif (qsome (Proofs.YtiojjmlccehpoaaGreat.q81 [sd0])) then
      bif (qnot (qbool (qnth (Proofs.YtiojjmlccehpoaaGreat.q81 [sd0]) 2))) then
        some [(D.int 0), (D.int 0), (D.int 2)]
      else
        bif (qnot (qiteB (qcmp BinOp.geq (qint (qfld sd0 6)) 0) (qcmp BinOp.lss (qint (qfld sd0 6)) 8) Bool.false)) then
          some [(D.int 0), (D.int 0), (D.int 2)]
        else
          bif (qnot (qiteB (qcmp BinOp.geq (qint (qfld sd0 7)) 0) (qcmp BinOp.lss (qint (qfld sd0 7)) 8) Bool.false)) then
            some [(D.int 0), (D.int 0), (D.int 2)]
          else
            bif (qsome (Proofs.YtiojjmlccehpoaaGreat.q124 [sd0, (D.int (qint (qnth (Proofs.YtiojjmlccehpoaaGreat.q81 [sd0]) 1)))])) then
              bif (qnot (qand (qcmp BinOp.eql (qint (qfld (qnth (Proofs.YtiojjmlccehpoaaGreat.q124 [sd0, (D.int (qint (qnth (Proofs.YtiojjmlccehpoaaGreat.q81 [sd0]) 1)))]) 0) 0)) (qint (qfld sd0 0))) (qand (qcmp BinOp.eql (qint (qfld (qnth (Proofs.YtiojjmlccehpoaaGreat.q124 [sd0, (D.int (qint (qnth (Proofs.YtiojjmlccehpoaaGreat.q81 [sd0]) 1)))]) 0) 1)) (qint (qfld sd0 1))) (qand (qcmp BinOp.eql (qint (qfld (qnth (Proofs.YtiojjmlccehpoaaGreat.q124 [sd0, (D.int (qint (qnth (Proofs.YtiojjmlccehpoaaGreat.q81 [sd0]) 1)))]) 0) 2)) (qint (qfld sd0 2))) (qand (qcmp BinOp.eql (qint (qfld (qnth (Proofs.YtiojjmlccehpoaaGreat.q124 [sd0, (D.int (qint (qnth (Proofs.YtiojjmlccehpoaaGreat.q81 [sd0]) 1)))]) 0) 3)) (qint (qfld sd0 3))) (qand (qcmp BinOp.eql (qint (qfld (qnth (Proofs.YtiojjmlccehpoaaGreat.q124 [sd0, (D.int (qint (qnth (Proofs.YtiojjmlccehpoaaGreat.q81 [sd0]) 1)))]) 0) 4)) (qint (qfld sd0 4))) (qand (qcmp BinOp.eql (qint (qfld (qnth (Proofs.YtiojjmlccehpoaaGreat.q124 [sd0, (D.int (qint (qnth (Proofs.YtiojjmlccehpoaaGreat.q81 [sd0]) 1)))]) 0) 5)) (qint (qfld sd0 5))) (qand (qcmp BinOp.eql (qint (qfld (qnth (Proofs.YtiojjmlccehpoaaGreat.q124 [sd0, (D.int (qint (qnth (Proofs.YtiojjmlccehpoaaGreat.q81 [sd0]) 1)))]) 0) 6)) (qint (qfld sd0 6))) (qand (qcmp BinOp.eql (qint (qfld (qnth (Proofs.YtiojjmlccehpoaaGreat.q124 [sd0, (D.int (qint (qnth (Proofs.YtiojjmlccehpoaaGreat.q81 [sd0]) 1)))]) 0) 7)) (qint (qfld sd0 7))) (qcmp BinOp.eql (qint (qfld (qnth (Proofs.YtiojjmlccehpoaaGreat.q124 [sd0, (D.int (qint (qnth (Proofs.YtiojjmlccehpoaaGreat.q81 [sd0]) 1)))]) 0) 8)) (qint (qfld sd0 8)))))))))))) then
                some [(D.int 0), (D.int 0), (D.int 2)]
              else
                bif (qiteB (qiteB (qiteB (qcmp BinOp.eql (qint (qnth (Proofs.YtiojjmlccehpoaaGreat.q81 [sd0]) 1)) 4) Bool.true (qcmp BinOp.eql (qint (qnth (Proofs.YtiojjmlccehpoaaGreat.q81 [sd0]) 1)) 5)) (qnot (qiteB (qcmp BinOp.leq (qint (qfld sd0 1)) 127) Bool.true (qcmp BinOp.geq (qint (qfld sd0 1)) 4294967168))) Bool.false) Bool.true (qiteB (qcmp BinOp.eql (qint (qnth (Proofs.YtiojjmlccehpoaaGreat.q81 [sd0]) 1)) 7) (qnot (qiteB (qcmp BinOp.leq (qbin BinOp.sub IntKind.u32 (qbin BinOp.sub IntKind.u32 (qint (qfld sd0 1)) (qint (qfld sd0 0))) 2) 127) Bool.true (qcmp BinOp.geq (qbin BinOp.sub IntKind.u32 (qbin BinOp.sub IntKind.u32 (qint (qfld sd0 1)) (qint (qfld sd0 0))) 2) 4294967168))) Bool.false)) then
                  some [(D.int 0), (D.int 0), (D.int 7)]
                else
                  some [(D.int (qint (qnth (Proofs.YtiojjmlccehpoaaGreat.q81 [sd0]) 0))), (D.int (qint (qnth (Proofs.YtiojjmlccehpoaaGreat.q81 [sd0]) 1))), (D.int 0)]
            else
              none
    else
      none := by kernel_rfl

noncomputable def q69 : List D → Option (List D) := veil (F69 )

theorem q69_eq : q69  = F69  := veil_eq _

noncomputable def tb69 : Tb := Tb.addF tb124 69 S69 (q69 )

theorem ok_tb69 : TbOk env (tb69 ) := addFunF ok_tb124 69 (by kernel_rfl) _ (q69_eq )

/- function 73  -/

def S73 : FunS := ⟨[⟨true, (.int .i64)⟩], [], [⟨true, (.int .i64)⟩], []⟩

noncomputable def F73 : List D → Option (List D) := liftX env tb69 60 6 73 S73

theorem F73_eq  (sn0 : Int) : F73  [(D.int sn0)] =
    bif (qinbS (ByteArray.mk #[49, 49, 50, 50, 51, 51, 54, 50, 53]) sn0) then
      some [(D.int (qwrap IntKind.i64 (qbin BinOp.sub IntKind.u8 (qidxS (ByteArray.mk #[49, 49, 50, 50, 51, 51, 54, 50, 53]) sn0) 48)))]
    else
      none := by kernel_rfl

noncomputable def q73 : List D → Option (List D) := veil (F73 )

theorem q73_eq : q73  = F73  := veil_eq _

noncomputable def tb73 : Tb := Tb.addF tb69 73 S73 (q73 )

theorem ok_tb73 : TbOk env (tb73 ) := addFunF ok_tb69 73 (by kernel_rfl) _ (q73_eq )

/- function 20  -/

def S20 : FunS := ⟨[⟨true, (.dat 46)⟩], [], [⟨true, .bool⟩], []⟩

noncomputable def F20 : List D → Option (List D) := liftX env tb73 60 6 20 S20

theorem F20_eq  (sd0 : D) : F20  [sd0] =
    bif (qsome (Proofs.YtiojjmlccehpoaaGreat.q69 [sd0])) then
      some [(D.bool (qcmp BinOp.eql (qint (qnth (Proofs.YtiojjmlccehpoaaGreat.q69 [sd0]) 2)) 0))]
    else
      none := by kernel_rfl

noncomputable def q20 : List D → Option (List D) := veil (F20 )

theorem q20_eq : q20  = F20  := veil_eq _

noncomputable def tb20 : Tb := Tb.addF tb73 20 S20 (q20 )

theorem ok_tb20 : TbOk env (tb20 ) := addFunF ok_tb73 20 (by kernel_rfl) _ (q20_eq )

/- function 23  -/

def S23 : FunS := ⟨[⟨true, (.dat 46)⟩], [], [⟨true, (.int .i64)⟩], []⟩

noncomputable def F23 : List D → Option (List D) := liftX env tb20 60 6 23 S23

theorem F23_eq  (sd0 : D) : F23  [sd0] =
    bif (qsome (Proofs.YtiojjmlccehpoaaGreat.q69 [sd0])) then
      bif (qcmp BinOp.neq (qint (qnth (Proofs.YtiojjmlccehpoaaGreat.q69 [sd0]) 2)) 0) then
        some [(D.int 0)]
      else
        bif (qsome (Proofs.YtiojjmlccehpoaaGreat.q73 [(D.int (qint (qnth (Proofs.YtiojjmlccehpoaaGreat.q69 [sd0]) 1)))])) then
          some [(D.int (qint (qnth (Proofs.YtiojjmlccehpoaaGreat.q73 [(D.int (qint (qnth (Proofs.YtiojjmlccehpoaaGreat.q69 [sd0]) 1)))]) 0)))]
        else
          none
    else
      none := by kernel_rfl

noncomputable def q23 : List D → Option (List D) := veil (F23 )

theorem q23_eq : q23  = F23  := veil_eq _

noncomputable def tb23 : Tb := Tb.addF tb20 23 S23 (q23 )

theorem ok_tb23 : TbOk env (tb23 ) := addFunF ok_tb20 23 (by kernel_rfl) _ (q23_eq )

end Go.Proofs.YtiojjmlccehpoaaGreat

open Go Go.AM
namespace Go.Proofs.YtiojjmlccehpoaaGreat
set_option maxRecDepth 100000
set_option linter.unusedSimpArgs false
set_option linter.unusedVariables false
/- function 186  -/

def S186 : FunS := ⟨[⟨true, (.dat 46)⟩], [], [⟨true, .bool⟩], []⟩

noncomputable def F186 : List D → Option (List D) := liftX env tb23 60 6 186 S186

theorem F186_eq  (sd0 : D) : F186  [sd0] =
    bif (qiteB (qcmp BinOp.geq (qint (qfld sd0 2)) 5) (qcmp BinOp.leq (qint (qfld sd0 2)) 15) Bool.false) then
      some [(D.bool (qiteB (qcmp BinOp.geq (qint (qfld sd0 3)) 0) (qcmp BinOp.leq (qint (qfld sd0 3)) 2) Bool.false))]
    else
      bif (qcmp BinOp.eql (qint (qfld sd0 2)) 20) then
        some [(D.bool (qiteB (qcmp BinOp.eql (qint (qfld sd0 3)) 1) Bool.true (qcmp BinOp.eql (qint (qfld sd0 3)) 2)))]
      else
        some [(D.bool (qcmp BinOp.eql (qint (qfld sd0 3)) 0))] := by kernel_rfl

noncomputable def q186 : List D → Option (List D) := veil (F186 )

theorem q186_eq : q186  = F186  := veil_eq _

noncomputable def tb186 : Tb := Tb.addF tb23 186 S186 (q186 )

theorem ok_tb186 : TbOk env (tb186 ) := addFunF ok_tb23 186 (by kernel_rfl) _ (q186_eq )

/- function 187  -/

def S187 : FunS := ⟨[⟨true, (.dat 46)⟩], [], [⟨true, .bool⟩], []⟩

noncomputable def F187 : List D → Option (List D) := liftX env tb186 60 6 187 S187

theorem F187_eq  (sd0 : D) : F187  [sd0] =
    bif (qcmp BinOp.eql (qint (qfld sd0 2)) 17) then
      some [(D.bool (qiteB (qcmp BinOp.eql (qint (qfld sd0 4)) 1) Bool.true (qcmp BinOp.eql (qint (qfld sd0 4)) 2)))]
    else
      bif (qiteB (qiteB (qcmp BinOp.eql (qint (qfld sd0 2)) 16) Bool.true (qcmp BinOp.eql (qint (qfld sd0 2)) 17)) Bool.true (qcmp BinOp.eql (qint (qfld sd0 2)) 18)) then
        some [(D.bool (qiteB (qiteB (qcmp BinOp.eql (qint (qfld sd0 4)) 1) Bool.true (qcmp BinOp.eql (qint (qfld sd0 4)) 2)) Bool.true (qcmp BinOp.eql (qint (qfld sd0 4)) 4)))]
      else
        some [(D.bool (qcmp BinOp.eql (qint (qfld sd0 4)) 0))] := by kernel_rfl

noncomputable def q187 : List D → Option (List D) := veil (F187 )

theorem q187_eq : q187  = F187  := veil_eq _

noncomputable def tb187 : Tb := Tb.addF tb186 187 S187 (q187 )

theorem ok_tb187 : TbOk env (tb187 ) := addFunF ok_tb186 187 (by kernel_rfl) _ (q187_eq )

/- function 126  -/

def S126 : FunS := ⟨[⟨true, (.dat 46)⟩], [], [⟨true, (.int .i64)⟩], []⟩

noncomputable def F126 : List D → Option (List D) := liftX env tb187 60 6 126 S126

theorem F126_eq  (sd0 : D) : F126  [sd0] =
    bif (qiteB (qiteB (qcmp BinOp.lss (qint (qfld sd0 2)) 0) Bool.true (qcmp BinOp.gtr (qint (qfld sd0 2)) 27)) Bool.true (qsome (Proofs.YtiojjmlccehpoaaGreat.q186 [sd0]))) then
      bif (qiteB (qiteB (qiteB (qcmp BinOp.lss (qint (qfld sd0 2)) 0) Bool.true (qcmp BinOp.gtr (qint (qfld sd0 2)) 27)) Bool.true (qnot (qbool (qnth (Proofs.YtiojjmlccehpoaaGreat.q186 [sd0]) 0)))) Bool.true (qsome (Proofs.YtiojjmlccehpoaaGreat.q187 [sd0]))) then
        bif (qiteB (qiteB (qiteB (qcmp BinOp.lss (qint (qfld sd0 2)) 0) Bool.true (qcmp BinOp.gtr (qint (qfld sd0 2)) 27)) Bool.true (qnot (qbool (qnth (Proofs.YtiojjmlccehpoaaGreat.q186 [sd0]) 0)))) Bool.true (qnot (qbool (qnth (Proofs.YtiojjmlccehpoaaGreat.q187 [sd0]) 0)))) then
          some [(D.int 2)]
        else
          bif (qiteB (qiteB (qiteB (qiteB (qiteB (qiteB (qiteB (qcmp BinOp.geq (qint (qfld sd0 2)) 3) (qcmp BinOp.leq (qint (qfld sd0 2)) 27) Bool.false) (qcmp BinOp.neq (qint (qfld sd0 2)) 20) Bool.false) (qcmp BinOp.neq (qint (qfld sd0 2)) 23) Bool.false) (qnot (qiteB (qcmp BinOp.geq (qint (qfld sd0 6)) 0) (qcmp BinOp.lss (qint (qfld sd0 6)) 8) Bool.false)) Bool.false) Bool.true (qiteB (qnot (qiteB (qiteB (qiteB (qcmp BinOp.geq (qint (qfld sd0 2)) 3) (qcmp BinOp.leq (qint (qfld sd0 2)) 27) Bool.false) (qcmp BinOp.neq (qint (qfld sd0 2)) 20) Bool.false) (qcmp BinOp.neq (qint (qfld sd0 2)) 23) Bool.false)) (qcmp BinOp.neq (qint (qfld sd0 6)) 0) Bool.false)) Bool.true (qiteB (qiteB (qiteB (qiteB (qiteB (qcmp BinOp.geq (qint (qfld sd0 2)) 5) (qcmp BinOp.leq (qint (qfld sd0 2)) 15) Bool.false) (qcmp BinOp.eql (qint (qfld sd0 3)) 0) Bool.false) Bool.true (qiteB (qiteB (qcmp BinOp.eql (qint (qfld sd0 2)) 16) Bool.true (qcmp BinOp.eql (qint (qfld sd0 2)) 17)) Bool.true (qcmp BinOp.eql (qint (qfld sd0 2)) 18))) Bool.true (qcmp BinOp.eql (qint (qfld sd0 2)) 19)) (qnot (qiteB (qcmp BinOp.geq (qint (qfld sd0 7)) 0) (qcmp BinOp.lss (qint (qfld sd0 7)) 8) Bool.false)) Bool.false)) Bool.true (qiteB (qnot (qiteB (qiteB (qiteB (qiteB (qcmp BinOp.geq (qint (qfld sd0 2)) 5) (qcmp BinOp.leq (qint (qfld sd0 2)) 15) Bool.false) (qcmp BinOp.eql (qint (qfld sd0 3)) 0) Bool.false) Bool.true (qiteB (qiteB (qcmp BinOp.eql (qint (qfld sd0 2)) 16) Bool.true (qcmp BinOp.eql (qint (qfld sd0 2)) 17)) Bool.true (qcmp BinOp.eql (qint (qfld sd0 2)) 18))) Bool.true (qcmp BinOp.eql (qint (qfld sd0 2)) 19))) (qcmp BinOp.neq (qint (qfld sd0 7)) 0) Bool.false)) then
            some [(D.int 2)]
          else
            bif (qiteB (qiteB (qiteB (qiteB (qcmp BinOp.eql (qint (qfld sd0 2)) 20) Bool.true (qcmp BinOp.eql (qint (qfld sd0 2)) 25)) (qnot (qiteB (qcmp BinOp.geq (qint (qfld sd0 5)) 0) (qcmp BinOp.leq (qint (qfld sd0 5)) 14) Bool.false)) Bool.false) Bool.true (qiteB (qnot (qiteB (qcmp BinOp.eql (qint (qfld sd0 2)) 20) Bool.true (qcmp BinOp.eql (qint (qfld sd0 2)) 25))) (qcmp BinOp.neq (qint (qfld sd0 5)) 0) Bool.false)) Bool.true (qiteB (qnot (qiteB (qiteB (qiteB (qiteB (qiteB (qiteB (qiteB (qcmp BinOp.geq (qint (qfld sd0 2)) 5) (qcmp BinOp.leq (qint (qfld sd0 2)) 15) Bool.false) (qcmp BinOp.neq (qint (qfld sd0 3)) 0) Bool.false) Bool.true (qiteB (qiteB (qcmp BinOp.eql (qint (qfld sd0 2)) 16) Bool.true (qcmp BinOp.eql (qint (qfld sd0 2)) 17)) Bool.true (qcmp BinOp.eql (qint (qfld sd0 2)) 18))) Bool.true (qcmp BinOp.eql (qint (qfld sd0 2)) 19)) Bool.true (qcmp BinOp.eql (qint (qfld sd0 2)) 20)) Bool.true (qcmp BinOp.eql (qint (qfld sd0 2)) 22)) Bool.true (qcmp BinOp.eql (qint (qfld sd0 2)) 23))) (qcmp BinOp.neq (qint (qfld sd0 1)) 0) Bool.false)) then
              some [(D.int 2)]
            else
              bif (qiteB (qiteB (qiteB (qiteB (qcmp BinOp.geq (qint (qfld sd0 2)) 5) (qcmp BinOp.leq (qint (qfld sd0 2)) 15) Bool.false) (qcmp BinOp.eql (qint (qfld sd0 3)) 1) Bool.false) Bool.true (qiteB (qiteB (qcmp BinOp.eql (qint (qfld sd0 2)) 16) Bool.true (qcmp BinOp.eql (qint (qfld sd0 2)) 17)) Bool.true (qcmp BinOp.eql (qint (qfld sd0 2)) 18))) Bool.true (qcmp BinOp.eql (qint (qfld sd0 2)) 19)) then
                bif (qnot (qiteB (qcmp BinOp.leq (qint (qfld sd0 1)) 127) Bool.true (qcmp BinOp.geq (qint (qfld sd0 1)) 4294967168))) then
                  some [(D.int 7)]
                else
                  bif (qiteB (qiteB (qcmp BinOp.eql (qint (qfld sd0 2)) 20) (qcmp BinOp.eql (qint (qfld sd0 3)) 1) Bool.false) (qnot (qiteB (qcmp BinOp.leq (qbin BinOp.sub IntKind.u32 (qbin BinOp.sub IntKind.u32 (qint (qfld sd0 1)) (qint (qfld sd0 0))) 2) 127) Bool.true (qcmp BinOp.geq (qbin BinOp.sub IntKind.u32 (qbin BinOp.sub IntKind.u32 (qint (qfld sd0 1)) (qint (qfld sd0 0))) 2) 4294967168))) Bool.false) then
                    some [(D.int 7)]
                  else
                    some [(D.int 0)]
              else
                bif (qiteB (qiteB (qcmp BinOp.eql (qint (qfld sd0 2)) 20) (qcmp BinOp.eql (qint (qfld sd0 3)) 1) Bool.false) (qnot (qiteB (qcmp BinOp.leq (qbin BinOp.sub IntKind.u32 (qbin BinOp.sub IntKind.u32 (qint (qfld sd0 1)) (qint (qfld sd0 0))) 2) 127) Bool.true (qcmp BinOp.geq (qbin BinOp.sub IntKind.u32 (qbin BinOp.sub IntKind.u32 (qint (qfld sd0 1)) (qint (qfld sd0 0))) 2) 4294967168))) Bool.false) then
                  some [(D.int 7)]
                else
                  some [(D.int 0)]
      else
        none
    else
      none := by kernel_rfl

noncomputable def q126 : List D → Option (List D) := veil (F126 )

theorem q126_eq : q126  = F126  := veil_eq _

noncomputable def tb126 : Tb := Tb.addF tb187 126 S126 (q126 )

theorem ok_tb126 : TbOk env (tb126 ) := addFunF ok_tb187 126 (by kernel_rfl) _ (q126_eq )

/- function 71  -/

def S71 : FunS := ⟨[⟨true, (.dat 46)⟩], [], [⟨true, .bool⟩], []⟩

noncomputable def F71 : List D → Option (List D) := liftX env tb126 60 6 71 S71

theorem F71_eq  (sd0 : D) : F71  [sd0] =
    bif (qsome (Proofs.YtiojjmlccehpoaaGreat.q126 [sd0])) then
      some [(D.bool (qcmp BinOp.eql (qint (qnth (Proofs.YtiojjmlccehpoaaGreat.q126 [sd0]) 0)) 0))]
    else
      none := by kernel_rfl

noncomputable def q71 : List D → Option (List D) := veil (F71 )

theorem q71_eq : q71  = F71  := veil_eq _

noncomputable def tb71 : Tb := Tb.addF tb126 71 S71 (q71 )

theorem ok_tb71 : TbOk env (tb71 ) := addFunF ok_tb126 71 (by kernel_rfl) _ (q71_eq )

end Go.Proofs.YtiojjmlccehpoaaGreat

open Go Go.AM
namespace Go.Proofs.YtiojjmlccehpoaaGreat
set_option maxRecDepth 100000
set_option linter.unusedSimpArgs false
set_option linter.unusedVariables false
/- function 198  -/

def S198 : FunS := ⟨[⟨true, (.dat 46)⟩], [], [⟨true, (.int .i64)⟩], []⟩

noncomputable def F198 : List D → Option (List D) := liftX env tb71 60 6 198 S198

theorem F198_eq  (sd0 : D) : F198  [sd0] =
    bif (qcmp BinOp.eql (qint (qfld sd0 2)) 17) then
      some [(D.int (qbin BinOp.add IntKind.i64 80 (qbin BinOp.mul IntKind.i64 2 (qint (qfld sd0 4)))))]
    else
      bif (qcmp BinOp.eql (qint (qfld sd0 4)) 1) then
        some [(D.int (qbin BinOp.add IntKind.i64 (qiteI (qcmp BinOp.eql (qint (qfld sd0 2)) 18) 85 80) 1))]
      else
        bif (qiteB (qcmp BinOp.eql (qint (qfld sd0 4)) 2) (qcmp BinOp.eql (qint (qfld sd0 2)) 16) Bool.false) then
          some [(D.int (qbin BinOp.add IntKind.i64 (qiteI (qcmp BinOp.eql (qint (qfld sd0 2)) 18) 85 80) 3))]
        else
          bif (qcmp BinOp.eql (qint (qfld sd0 4)) 2) then
            some [(D.int (qbin BinOp.add IntKind.i64 (qiteI (qcmp BinOp.eql (qint (qfld sd0 2)) 18) 85 80) 2))]
          else
            some [(D.int (qiteI (qcmp BinOp.eql (qint (qfld sd0 2)) 18) 85 80))] := by kernel_rfl

noncomputable def q198 : List D → Option (List D) := veil (F198 )

theorem q198_eq : q198  = F198  := veil_eq _

noncomputable def tb198 : Tb := Tb.addF tb71 198 S198 (q198 )

theorem ok_tb198 : TbOk env (tb198 ) := addFunF ok_tb71 198 (by kernel_rfl) _ (q198_eq )

/- function 199  -/

def S199 : FunS := ⟨[⟨true, (.dat 46)⟩], [], [⟨true, (.rows 5)⟩], []⟩

noncomputable def F199 : List D → Option (List D) := liftX env tb198 60 6 199 S199

theorem F199_eq  (sd0 : D) : F199  [sd0] =
    bif (qcmp BinOp.eql (qint (qfld sd0 2)) 3) then
      some [(D.list [(D.int (qbin BinOp.add IntKind.u8 8 (qwrap IntKind.u8 (qint (qfld sd0 6)))))])]
    else
      bif (qcmp BinOp.eql (qint (qfld sd0 2)) 4) then
        some [(D.list [(D.int (qbin BinOp.add IntKind.u8 16 (qwrap IntKind.u8 (qint (qfld sd0 6)))))])]
      else
        bif (qcmp BinOp.eql (qint (qfld sd0 2)) 24) then
          some [(D.list [(D.int 129), (D.int (qwrap IntKind.u8 (qint (qfld sd0 6))))])]
        else
          bif (qcmp BinOp.eql (qint (qfld sd0 2)) 21) then
            some [(D.list [(D.int 130), (D.int (qwrap IntKind.u8 (qint (qfld sd0 6))))])]
          else
            bif (qcmp BinOp.eql (qint (qfld sd0 2)) 25) then
              some [(D.list [(D.int (qwrap IntKind.u8 (qbin BinOp.add IntKind.i64 144 (qint (qfld sd0 5))))), (D.int (qwrap IntKind.u8 (qint (qfld sd0 6))))])]
            else
              bif (qcmp BinOp.eql (qint (qfld sd0 2)) 26) then
                some [(D.list [(D.int 160), (D.int (qwrap IntKind.u8 (qint (qfld sd0 6))))])]
              else
                bif (qcmp BinOp.eql (qint (qfld sd0 2)) 27) then
                  some [(D.list [(D.int 161), (D.int (qwrap IntKind.u8 (qint (qfld sd0 6))))])]
                else
                  some [(D.list [(D.int (qwrap IntKind.u8 (qint (qfld sd0 2))))])] := by kernel_rfl

noncomputable def q199 : List D → Option (List D) := veil (F199 )

theorem q199_eq : q199  = F199  := veil_eq _

noncomputable def tb199 : Tb := Tb.addF tb198 199 S199 (q199 )

theorem ok_tb199 : TbOk env (tb199 ) := addFunF ok_tb198 199 (by kernel_rfl) _ (q199_eq )

/- function 127  -/

def S127 : FunS := ⟨[⟨true, (.dat 46)⟩], [], [⟨true, (.rows 5)⟩], []⟩

noncomputable def F127 : List D → Option (List D) := liftX env tb199 60 6 127 S127

theorem F127_eq  (sd0 : D) : F127  [sd0] =
    bif (qiteB (qcmp BinOp.geq (qint (qfld sd0 2)) 5) (qcmp BinOp.leq (qint (qfld sd0 2)) 15) Bool.false) then
      bif (qcmp BinOp.eql (qint (qfld sd0 3)) 0) then
        some [(D.list [(D.int (qwrap IntKind.u8 (qbin BinOp.add IntKind.i64 32 (qbin BinOp.sub IntKind.i64 (qint (qfld sd0 2)) 5)))), (D.int (qwrap IntKind.u8 (qbin BinOp.add IntKind.i64 (qbin BinOp.mul IntKind.i64 16 (qint (qfld sd0 6))) (qint (qfld sd0 7)))))])]
      else
        bif (qcmp BinOp.eql (qint (qfld sd0 3)) 1) then
          some [(D.list [(D.int (qwrap IntKind.u8 (qbin BinOp.add IntKind.i64 48 (qbin BinOp.sub IntKind.i64 (qint (qfld sd0 2)) 5)))), (D.int (qwrap IntKind.u8 (qint (qfld sd0 6)))), (D.int (qwrap IntKind.u8 (qbin BinOp.rem IntKind.u32 (qint (qfld sd0 1)) 256)))])]
        else
          some [(D.list [(D.int (qwrap IntKind.u8 (qbin BinOp.add IntKind.i64 64 (qbin BinOp.sub IntKind.i64 (qint (qfld sd0 2)) 5)))), (D.int (qwrap IntKind.u8 (qint (qfld sd0 6)))), (D.int (qwrap IntKind.u8 (qbin BinOp.rem IntKind.u32 (qint (qfld sd0 1)) 256))), (D.int (qwrap IntKind.u8 (qbin BinOp.rem IntKind.u32 (qbin BinOp.quo IntKind.u32 (qint (qfld sd0 1)) 256) 256))), (D.int (qwrap IntKind.u8 (qbin BinOp.rem IntKind.u32 (qbin BinOp.quo IntKind.u32 (qint (qfld sd0 1)) 65536) 256))), (D.int (qwrap IntKind.u8 (qbin BinOp.quo IntKind.u32 (qint (qfld sd0 1)) 16777216)))])]
    else
      bif (qiteB (qiteB (qcmp BinOp.eql (qint (qfld sd0 2)) 16) Bool.true (qcmp BinOp.eql (qint (qfld sd0 2)) 17)) Bool.true (qcmp BinOp.eql (qint (qfld sd0 2)) 18)) then
        bif (qsome (Proofs.YtiojjmlccehpoaaGreat.q198 [sd0])) then
          some [(D.list [(D.int (qwrap IntKind.u8 (qint (qnth (Proofs.YtiojjmlccehpoaaGreat.q198 [sd0]) 0)))), (D.int (qwrap IntKind.u8 (qbin BinOp.add IntKind.i64 (qbin BinOp.mul IntKind.i64 16 (qint (qfld sd0 6))) (qint (qfld sd0 7))))), (D.int (qwrap IntKind.u8 (qbin BinOp.rem IntKind.u32 (qint (qfld sd0 1)) 256)))])]
        else
          none
      else
        bif (qcmp BinOp.eql (qint (qfld sd0 2)) 19) then
          some [(D.list [(D.int 90), (D.int (qwrap IntKind.u8 (qbin BinOp.add IntKind.i64 (qbin BinOp.mul IntKind.i64 16 (qint (qfld sd0 6))) (qint (qfld sd0 7))))), (D.int (qwrap IntKind.u8 (qbin BinOp.rem IntKind.u32 (qint (qfld sd0 1)) 256)))])]
        else
          bif (qcmp BinOp.eql (qint (qfld sd0 2)) 20) then
            bif (qcmp BinOp.eql (qint (qfld sd0 3)) 1) then
              some [(D.list [(D.int (qwrap IntKind.u8 (qbin BinOp.add IntKind.i64 96 (qint (qfld sd0 5))))), (D.int (qwrap IntKind.u8 (qbin BinOp.rem IntKind.u32 (qbin BinOp.sub IntKind.u32 (qbin BinOp.sub IntKind.u32 (qint (qfld sd0 1)) (qint (qfld sd0 0))) 2) 256)))])]
            else
              some [(D.list [(D.int (qwrap IntKind.u8 (qbin BinOp.add IntKind.i64 112 (qint (qfld sd0 5))))), (D.int (qwrap IntKind.u8 (qbin BinOp.rem IntKind.u32 (qbin BinOp.sub IntKind.u32 (qbin BinOp.sub IntKind.u32 (qint (qfld sd0 1)) (qint (qfld sd0 0))) 5) 256))), (D.int (qwrap IntKind.u8 (qbin BinOp.rem IntKind.u32 (qbin BinOp.quo IntKind.u32 (qbin BinOp.sub IntKind.u32 (qbin BinOp.sub IntKind.u32 (qint (qfld sd0 1)) (qint (qfld sd0 0))) 5) 256) 256))), (D.int (qwrap IntKind.u8 (qbin BinOp.rem IntKind.u32 (qbin BinOp.quo IntKind.u32 (qbin BinOp.sub IntKind.u32 (qbin BinOp.sub IntKind.u32 (qint (qfld sd0 1)) (qint (qfld sd0 0))) 5) 65536) 256))), (D.int (qwrap IntKind.u8 (qbin BinOp.quo IntKind.u32 (qbin BinOp.sub IntKind.u32 (qbin BinOp.sub IntKind.u32 (qint (qfld sd0 1)) (qint (qfld sd0 0))) 5) 16777216)))])]
          else
            bif (qcmp BinOp.eql (qint (qfld sd0 2)) 23) then
              some [(D.list [(D.int 128), (D.int (qwrap IntKind.u8 (qbin BinOp.rem IntKind.u32 (qbin BinOp.sub IntKind.u32 (qbin BinOp.sub IntKind.u32 (qint (qfld sd0 1)) (qint (qfld sd0 0))) 5) 256))), (D.int (qwrap IntKind.u8 (qbin BinOp.rem IntKind.u32 (qbin BinOp.quo IntKind.u32 (qbin BinOp.sub IntKind.u32 (qbin BinOp.sub IntKind.u32 (qint (qfld sd0 1)) (qint (qfld sd0 0))) 5) 256) 256))), (D.int (qwrap IntKind.u8 (qbin BinOp.rem IntKind.u32 (qbin BinOp.quo IntKind.u32 (qbin BinOp.sub IntKind.u32 (qbin BinOp.sub IntKind.u32 (qint (qfld sd0 1)) (qint (qfld sd0 0))) 5) 65536) 256))), (D.int (qwrap IntKind.u8 (qbin BinOp.quo IntKind.u32 (qbin BinOp.sub IntKind.u32 (qbin BinOp.sub IntKind.u32 (qint (qfld sd0 1)) (qint (qfld sd0 0))) 5) 16777216)))])]
            else
              bif (qcmp BinOp.eql (qint (qfld sd0 2)) 22) then
                some [(D.list [(D.int 131), (D.int (qwrap IntKind.u8 (qint (qfld sd0 6)))), (D.int (qwrap IntKind.u8 (qbin BinOp.rem IntKind.u32 (qint (qfld sd0 1)) 256))), (D.int (qwrap IntKind.u8 (qbin BinOp.rem IntKind.u32 (qbin BinOp.quo IntKind.u32 (qint (qfld sd0 1)) 256) 256))), (D.int (qwrap IntKind.u8 (qbin BinOp.rem IntKind.u32 (qbin BinOp.quo IntKind.u32 (qint (qfld sd0 1)) 65536) 256))), (D.int (qwrap IntKind.u8 (qbin BinOp.quo IntKind.u32 (qint (qfld sd0 1)) 16777216)))])]
              else
                bif (qsome (Proofs.YtiojjmlccehpoaaGreat.q199 [sd0])) then
                  some [(qnth (Proofs.YtiojjmlccehpoaaGreat.q199 [sd0]) 0)]
                else
                  none := by kernel_rfl

noncomputable def q127 : List D → Option (List D) := veil (F127 )

theorem q127_eq : q127  = F127  := veil_eq _

noncomputable def tb127 : Tb := Tb.addF tb199 127 S127 (q127 )

theorem ok_tb127 : TbOk env (tb127 ) := addFunF ok_tb199 127 (by kernel_rfl) _ (q127_eq )

/- function 72  -/

def S72 : FunS := ⟨[⟨true, (.dat 46)⟩], [], [⟨true, (.int .i64)⟩], []⟩

noncomputable def F72 : List D → Option (List D) := liftX env tb127 60 6 72 S72

theorem F72_eq  (sd0 : D) : F72  [sd0] =
    bif (qsome (Proofs.YtiojjmlccehpoaaGreat.q71 [sd0])) then
      bif (qnot (qbool (qnth (Proofs.YtiojjmlccehpoaaGreat.q71 [sd0]) 0))) then
        some [(D.int 0)]
      else
        bif (qsome (Proofs.YtiojjmlccehpoaaGreat.q127 [sd0])) then
          some [(D.int (qlen (qnth (Proofs.YtiojjmlccehpoaaGreat.q127 [sd0]) 0)))]
        else
          none
    else
      none := by kernel_rfl

noncomputable def q72 : List D → Option (List D) := veil (F72 )

theorem q72_eq : q72  = F72  := veil_eq _

noncomputable def tb72 : Tb := Tb.addF tb127 72 S72 (q72 )

theorem ok_tb72 : TbOk env (tb72 ) := addFunF ok_tb127 72 (by kernel_rfl) _ (q72_eq )

/- function 15  -/

def S15_4 : LoopS := ⟨0, [⟨false, (.rows 46)⟩, ⟨false, (.rows 46)⟩, ⟨false, .any⟩, ⟨false, .any⟩, ⟨false, (.lit (.bool false))⟩, ⟨true, (.int .i64)⟩, ⟨false, .any⟩, ⟨false, .any⟩, ⟨false, .any⟩, ⟨false, .any⟩, ⟨false, .any⟩, ⟨false, .any⟩, ⟨false, .any⟩, ⟨false, .any⟩, ⟨false, .any⟩, ⟨false, .any⟩, ⟨false, .any⟩, ⟨false, .any⟩, ⟨false, .any⟩, ⟨false, .any⟩, ⟨false, .any⟩, ⟨false, .any⟩, ⟨false, .any⟩, ⟨false, .any⟩, ⟨false, .any⟩, ⟨false, .any⟩], [], [⟨0, 0, [⟨false, (.rows 46)⟩, ⟨false, (.rows 46)⟩, ⟨true, .any⟩, ⟨true, .any⟩, ⟨true, (.lit (.bool false))⟩, ⟨true, .any⟩, ⟨true, .any⟩, ⟨true, .any⟩, ⟨true, .any⟩, ⟨true, .any⟩, ⟨true, .any⟩, ⟨true, .any⟩, ⟨true, .any⟩, ⟨true, .any⟩, ⟨true, .any⟩, ⟨true, .any⟩, ⟨true, .any⟩, ⟨true, .any⟩, ⟨true, .any⟩, ⟨true, .any⟩, ⟨true, .any⟩, ⟨true, .any⟩, ⟨true, .any⟩, ⟨true, .any⟩, ⟨true, .any⟩, ⟨true, .any⟩], []⟩, ⟨1, 0, [⟨false, (.rows 46)⟩, ⟨false, (.rows 46)⟩, ⟨true, .any⟩, ⟨true, .any⟩, ⟨true, (.lit (.bool false))⟩, ⟨true, .any⟩, ⟨true, .any⟩, ⟨true, .any⟩, ⟨true, .any⟩, ⟨true, .any⟩, ⟨true, .any⟩, ⟨true, .any⟩, ⟨true, .any⟩, ⟨true, .any⟩, ⟨true, .any⟩, ⟨true, .any⟩, ⟨true, .any⟩, ⟨true, .any⟩, ⟨true, .any⟩, ⟨true, .any⟩, ⟨true, .any⟩, ⟨true, .any⟩, ⟨true, .any⟩, ⟨true, .any⟩, ⟨true, .any⟩, ⟨true, .any⟩], []⟩]⟩

noncomputable def st15_4 (p s : List D) : Option (Sum (List D) (List D)) := stepQX env tb72 60 6 15 (loopC 15 4) S15_4 p s

theorem st15_4_eq (pd0 : D) (pd1 : D) (sn0 : Int) : st15_4  [pd0, pd1] [(D.int sn0)] =
    bif (qcmp BinOp.lss sn0 (qlen pd0)) then
      bif (qinb pd0 sn0) then
        bif (qinb pd1 sn0) then
          bif (qnot (qand (qcmp BinOp.eql (qint (qfld (qget pd0 sn0) 0)) (qint (qfld (qget pd1 sn0) 0))) (qand (qcmp BinOp.eql (qint (qfld (qget pd0 sn0) 1)) (qint (qfld (qget pd1 sn0) 1))) (qand (qcmp BinOp.eql (qint (qfld (qget pd0 sn0) 2)) (qint (qfld (qget pd1 sn0) 2))) (qand (qcmp BinOp.eql (qint (qfld (qget pd0 sn0) 3)) (qint (qfld (qget pd1 sn0) 3))) (qand (qcmp BinOp.eql (qint (qfld (qget pd0 sn0) 4)) (qint (qfld (qget pd1 sn0) 4))) (qand (qcmp BinOp.eql (qint (qfld (qget pd0 sn0) 5)) (qint (qfld (qget pd1 sn0) 5))) (qand (qcmp BinOp.eql (qint (qfld (qget pd0 sn0) 6)) (qint (qfld (qget pd1 sn0) 6))) (qand (qcmp BinOp.eql (qint (qfld (qget pd0 sn0) 7)) (qint (qfld (qget pd1 sn0) 7))) (qcmp BinOp.eql (qint (qfld (qget pd0 sn0) 8)) (qint (qfld (qget pd1 sn0) 8)))))))))))) then
            some (Sum.inr [(D.int 1)])
          else
            some (Sum.inl [(D.int (qbin BinOp.add IntKind.i64 sn0 1))])
        else
          none
      else
        none
    else
      some (Sum.inr [(D.int 0)]) := by
  have h : st15_4  [pd0, pd1] [(D.int sn0)] =
    bif (qcmp BinOp.lss sn0 (qlen pd0)) then
      bif (qinb pd0 sn0) then
        bif (qinb pd1 sn0) then
          bif (qnot (qand (qcmp BinOp.eql (qint (qfld (qget pd0 sn0) 0)) (qint (qfld (qget pd1 sn0) 0))) (qand (qcmp BinOp.eql (qint (qfld (qget pd0 sn0) 1)) (qint (qfld (qget pd1 sn0) 1))) (qand (qcmp BinOp.eql (qint (qfld (qget pd0 sn0) 2)) (qint (qfld (qget pd1 sn0) 2))) (qand (qcmp BinOp.eql (qint (qfld (qget pd0 sn0) 3)) (qint (qfld (qget pd1 sn0) 3))) (qand (qcmp BinOp.eql (qint (qfld (qget pd0 sn0) 4)) (qint (qfld (qget pd1 sn0) 4))) (qand (qcmp BinOp.eql (qint (qfld (qget pd0 sn0) 5)) (qint (qfld (qget pd1 sn0) 5))) (qand (qcmp BinOp.eql (qint (qfld (qget pd0 sn0) 6)) (qint (qfld (qget pd1 sn0) 6))) (qand (qcmp BinOp.eql (qint (qfld (qget pd0 sn0) 7)) (qint (qfld (qget pd1 sn0) 7))) (qcmp BinOp.eql (qint (qfld (qget pd0 sn0) 8)) (qint (qfld (qget pd1 sn0) 8)))))))))))) then
            bif (qeqD pd0 pd0) then
              bif (qeqD pd1 pd1) then
                some (Sum.inr [(D.int 1)])
              else
                none
            else
              none
          else
            bif (qeqD pd0 pd0) then
              bif (qeqD pd1 pd1) then
                some (Sum.inl [(D.int (qbin BinOp.add IntKind.i64 sn0 1))])
              else
                none
            else
              none
        else
          none
      else
        none
    else
      bif (qeqD pd0 pd0) then
        bif (qeqD pd1 pd1) then
          some (Sum.inr [(D.int 0)])
        else
          none
      else
        none := by kernel_rfl
  rw [h]; simp only [qeqD_self, qeqI_self, qeq_len, show qcmp BinOp.eql 0 (qlen (D.list [])) = true from qeq_len [], show ∀ a, qcmp BinOp.eql 1 (qlen (D.list [a])) = true from fun a => qeq_len [a], show ∀ a b, qcmp BinOp.eql 2 (qlen (D.list [a, b])) = true from fun a b => qeq_len [a, b], cond_true]

noncomputable def l15_4 : List D → List D → Option (List D) := veil fun p s => loW (st15_4  p) s

theorem l15_4_eq : l15_4  = fun p s => loW (st15_4  p) s := veil_eq _

noncomputable def tbl15_4 : Tb := Tb.addL tb72 15 4 S15_4.n0 (mkLp S15_4 (l15_4 ))

theorem ok_tbl15_4 : TbOk env (tbl15_4 ) := addLoopQ ok_tb72 15 4 (by kernel_rfl) _ (l15_4_eq )

def S15 : FunS := ⟨[⟨true, (.rows 46)⟩, ⟨true, (.rows 46)⟩], [], [⟨true, .bool⟩], []⟩

noncomputable def F15 : List D → Option (List D) := liftX env tbl15_4 60 6 15 S15

theorem F15_eq  (sd0 : D) (sd1 : D) : F15  [sd0, sd1] =
    bif (qcmp BinOp.neq (qlen sd0) (qlen sd1)) then
      some [(D.bool Bool.false)]
    else
      bif (qsome (Proofs.YtiojjmlccehpoaaGreat.l15_4 [sd0, sd1] [(D.int 0)])) then
        bif (qcmp BinOp.eql (qint (qnth (Proofs.YtiojjmlccehpoaaGreat.l15_4 [sd0, sd1] [(D.int 0)]) 0)) 0) then
          some [(D.bool Bool.true)]
        else
          some [(D.bool Bool.false)]
      else
        none := by kernel_rfl

noncomputable def q15 : List D → Option (List D) := veil (F15 )

theorem q15_eq : q15  = F15  := veil_eq _

noncomputable def tb15 : Tb := Tb.addF tbl15_4 15 S15 (q15 )

theorem ok_tb15 : TbOk env (tb15 ) := addFunF ok_tbl15_4 15 (by kernel_rfl) _ (q15_eq )

end Go.Proofs.YtiojjmlccehpoaaGreat
