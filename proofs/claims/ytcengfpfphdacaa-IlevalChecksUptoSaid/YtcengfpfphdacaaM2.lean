/-
  Made by gen3.py: what functions of the seat compute, as partial functions on data, and that they do.
-/
import Derived.Test.YtcengfpfphdacaaM1
import Derived.KernelRfl
import Derived.Test.YtcengfpfphdacaaEx
open Go Go.AM
namespace Go.Proofs.Ytcengfpfphdacaa
set_option maxRecDepth 100000
/- function 64  -/

def S64 : FunS := ⟨[⟨true, (.dat 52)⟩], [], [⟨true, (.rows 3)⟩], []⟩

noncomputable def F64 : List D → Option (List D) := liftF env tb93 60 6 64 S64

theorem F64_eq  (sd0 : D) : F64  [sd0] =
    bif (qcmp BinOp.eql (qlen (qfld sd0 1)) 0) then
      some [(D.list [])]
    else
      bif (qinb (qfld sd0 1) (qbin BinOp.sub IntKind.i64 (qlen (qfld sd0 1)) 1)) then
        bif (qcmp BinOp.eql (qint (qfld (qget (qfld sd0 1) (qbin BinOp.sub IntKind.i64 (qlen (qfld sd0 1)) 1)) 0)) 6) then
          some [(D.list [(D.int (qint (qfld (qget (qfld sd0 1) (qbin BinOp.sub IntKind.i64 (qlen (qfld sd0 1)) 1)) 3)))])]
        else
          bif (qcmp BinOp.eql (qint (qfld (qget (qfld sd0 1) (qbin BinOp.sub IntKind.i64 (qlen (qfld sd0 1)) 1)) 0)) 7) then
            some [(D.list [(D.int (qint (qfld (qget (qfld sd0 1) (qbin BinOp.sub IntKind.i64 (qlen (qfld sd0 1)) 1)) 3))), (D.int (qint (qfld (qget (qfld sd0 1) (qbin BinOp.sub IntKind.i64 (qlen (qfld sd0 1)) 1)) 4)))])]
          else
            bif (qcmp BinOp.eql (qint (qfld (qget (qfld sd0 1) (qbin BinOp.sub IntKind.i64 (qlen (qfld sd0 1)) 1)) 0)) 8) then
              bif (qsome (Proofs.Ytcengfpfphdacaa.q93 [(qfld (qget (qfld sd0 1) (qbin BinOp.sub IntKind.i64 (qlen (qfld sd0 1)) 1)) 7)])) then
                some [(qnth (Proofs.Ytcengfpfphdacaa.q93 [(qfld (qget (qfld sd0 1) (qbin BinOp.sub IntKind.i64 (qlen (qfld sd0 1)) 1)) 7)]) 0)]
              else
                none
            else
              some [(D.list [])]
      else
        none := by kernel_rfl

noncomputable def q64 : List D → Option (List D) := veil (F64 )

theorem q64_eq : q64  = F64  := veil_eq _

noncomputable def tb64 : Tb := Tb.addF tb93 64 S64 (q64 )

theorem ok_tb64 : TbOk env (tb64 ) := addFunF ok_tb93 64 (by kernel_rfl) _ (q64_eq )

/- function 70  -/

def S70 : FunS := ⟨[⟨true, (.dat 81)⟩], [], [⟨true, (.rows 3)⟩], []⟩

noncomputable def F70 : List D → Option (List D) := liftF env tb64 60 6 70 S70

theorem F70_eq  (sd0 : D) : F70  [sd0] =
    bif (qcmp BinOp.eql (qint (qfld sd0 0)) 6) then
      some [(D.list [(D.int (qint (qfld sd0 3)))])]
    else
      bif (qcmp BinOp.eql (qint (qfld sd0 0)) 7) then
        some [(D.list [(D.int (qint (qfld sd0 3))), (D.int (qint (qfld sd0 4)))])]
      else
        bif (qcmp BinOp.eql (qint (qfld sd0 0)) 8) then
          some [(qfld sd0 7)]
        else
          some [(D.list [])] := by kernel_rfl

noncomputable def q70 : List D → Option (List D) := veil (F70 )

theorem q70_eq : q70  = F70  := veil_eq _

noncomputable def tb70 : Tb := Tb.addF tb64 70 S70 (q70 )

theorem ok_tb70 : TbOk env (tb70 ) := addFunF ok_tb64 70 (by kernel_rfl) _ (q70_eq )

end Go.Proofs.Ytcengfpfphdacaa

open Go Go.AM
namespace Go.Proofs.Ytcengfpfphdacaa
set_option maxRecDepth 100000
/- function 40  -/

def S40_4 : LoopS := ⟨0, [⟨false, .any⟩, ⟨false, (.ptr 0 0)⟩, ⟨false, (.lit (.bool false))⟩, ⟨false, .any⟩, ⟨false, .any⟩, ⟨false, .any⟩, ⟨false, .any⟩, ⟨false, .any⟩, ⟨false, .any⟩, ⟨false, .any⟩, ⟨false, .any⟩, ⟨false, (.rows 52)⟩, ⟨false, (.int .i64)⟩, ⟨true, (.int .i64)⟩, ⟨false, .any⟩, ⟨false, .any⟩, ⟨false, .any⟩, ⟨false, .any⟩, ⟨false, .any⟩, ⟨false, .any⟩, ⟨false, .any⟩, ⟨false, .any⟩, ⟨false, .any⟩, ⟨false, .any⟩, ⟨false, .any⟩, ⟨false, .any⟩, ⟨false, .any⟩, ⟨false, .any⟩, ⟨false, .any⟩, ⟨false, .any⟩, ⟨false, .any⟩, ⟨false, .any⟩, ⟨false, .any⟩, ⟨false, .any⟩, ⟨false, .any⟩, ⟨false, .any⟩, ⟨false, .any⟩, ⟨false, .any⟩, ⟨false, .any⟩, ⟨false, .any⟩, ⟨false, .any⟩, ⟨false, .any⟩, ⟨false, .any⟩, ⟨false, .any⟩, ⟨false, .any⟩], [(.dat false 49)], [⟨0, 0, [⟨true, .any⟩, ⟨true, .any⟩, ⟨true, (.lit (.bool false))⟩, ⟨true, .any⟩, ⟨true, .any⟩, ⟨true, .any⟩, ⟨true, .any⟩, ⟨true, .any⟩, ⟨true, .any⟩, ⟨true, .any⟩, ⟨true, .any⟩, ⟨false, (.rows 52)⟩, ⟨false, (.int .i64)⟩, ⟨true, .any⟩, ⟨true, .any⟩, ⟨true, .any⟩, ⟨true, .any⟩, ⟨true, .any⟩, ⟨true, .any⟩, ⟨true, .any⟩, ⟨true, .any⟩, ⟨true, .any⟩, ⟨true, .any⟩, ⟨true, .any⟩, ⟨true, .any⟩, ⟨true, .any⟩, ⟨true, .any⟩, ⟨true, .any⟩, ⟨true, .any⟩, ⟨true, .any⟩, ⟨true, .any⟩, ⟨true, .any⟩, ⟨true, .any⟩, ⟨true, .any⟩, ⟨true, .any⟩, ⟨true, .any⟩, ⟨true, .any⟩, ⟨true, .any⟩, ⟨true, .any⟩, ⟨true, .any⟩, ⟨true, .any⟩, ⟨true, .any⟩, ⟨true, .any⟩, ⟨true, .any⟩, ⟨true, .any⟩], [(.dat false 49)]⟩, ⟨1, 0, [⟨true, .any⟩, ⟨true, .any⟩, ⟨true, (.lit (.bool false))⟩, ⟨true, .any⟩, ⟨true, .any⟩, ⟨true, .any⟩, ⟨true, .any⟩, ⟨true, .any⟩, ⟨true, .any⟩, ⟨true, .any⟩, ⟨true, .any⟩, ⟨false, (.rows 52)⟩, ⟨false, (.int .i64)⟩, ⟨true, .any⟩, ⟨true, .any⟩, ⟨true, .any⟩, ⟨true, .any⟩, ⟨true, .any⟩, ⟨true, .any⟩, ⟨true, .any⟩, ⟨true, .any⟩, ⟨true, .any⟩, ⟨true, .any⟩, ⟨true, .any⟩, ⟨true, .any⟩, ⟨true, .any⟩, ⟨true, .any⟩, ⟨true, .any⟩, ⟨true, .any⟩, ⟨true, .any⟩, ⟨true, .any⟩, ⟨true, .any⟩, ⟨true, .any⟩, ⟨true, .any⟩, ⟨true, .any⟩, ⟨true, .any⟩, ⟨true, .any⟩, ⟨true, .any⟩, ⟨true, .any⟩, ⟨true, .any⟩, ⟨true, .any⟩, ⟨true, .any⟩, ⟨true, .any⟩, ⟨true, .any⟩, ⟨true, .any⟩], [(.dat false 49)]⟩]⟩

noncomputable def st40_4 (p s : List D) : Option (Sum (List D) (List D)) := stepQ env tb70 60 6 40 (loopC 40 4) S40_4 p s

theorem st40_4_eq (pd0 : D) (pn1 : Int) (pd2 : D) (sn0 : Int) : st40_4  [pd0, (D.int pn1), pd2] [(D.int sn0)] =
    bif (qcmp BinOp.lss sn0 pn1) then
      bif (qinb pd0 sn0) then
        bif (qiteB (qcmp BinOp.eql (qlen (qfld (qget pd0 sn0) 1)) 0) Bool.true (qand (qinb (qfld (qget pd0 sn0) 1) (qbin BinOp.sub IntKind.i64 (qlen (qfld (qget pd0 sn0) 1)) 1)) (qsome (Proofs.Ytcengfpfphdacaa.q61 [(qget (qfld (qget pd0 sn0) 1) (qbin BinOp.sub IntKind.i64 (qlen (qfld (qget pd0 sn0) 1)) 1))])))) then
          bif (qiteB (qiteB (qcmp BinOp.eql (qlen (qfld (qget pd0 sn0) 1)) 0) Bool.true (qnot (qbool (qnth (Proofs.Ytcengfpfphdacaa.q61 [(qget (qfld (qget pd0 sn0) 1) (qbin BinOp.sub IntKind.i64 (qlen (qfld (qget pd0 sn0) 1)) 1))]) 0)))) Bool.true (qand (qcmp BinOp.leq 0 0) (qand (qcmp BinOp.leq 0 (qbin BinOp.sub IntKind.i64 (qlen (qfld (qget pd0 sn0) 1)) 1)) (qand (qcmp BinOp.leq (qbin BinOp.sub IntKind.i64 (qlen (qfld (qget pd0 sn0) 1)) 1) (qlen (qfld (qget pd0 sn0) 1))) (qsome (Proofs.Ytcengfpfphdacaa.q62_61 [(qsub (qfld (qget pd0 sn0) 1) 0 (qbin BinOp.sub IntKind.i64 (qlen (qfld (qget pd0 sn0) 1)) 1))])))))) then
            bif (qiteB (qiteB (qcmp BinOp.eql (qlen (qfld (qget pd0 sn0) 1)) 0) Bool.true (qnot (qbool (qnth (Proofs.Ytcengfpfphdacaa.q61 [(qget (qfld (qget pd0 sn0) 1) (qbin BinOp.sub IntKind.i64 (qlen (qfld (qget pd0 sn0) 1)) 1))]) 0)))) Bool.true (qbool (qnth (Proofs.Ytcengfpfphdacaa.q62_61 [(qsub (qfld (qget pd0 sn0) 1) 0 (qbin BinOp.sub IntKind.i64 (qlen (qfld (qget pd0 sn0) 1)) 1))]) 0))) then
              some (Sum.inr [(D.int 1)])
            else
              bif (qsome (Proofs.Ytcengfpfphdacaa.q64 [(qget pd0 sn0)])) then
                bif (qsome (Proofs.Ytcengfpfphdacaa.q63_65 [(qnth (Proofs.Ytcengfpfphdacaa.q64 [(qget pd0 sn0)]) 0), pd2])) then
                  bif (qbool (qnth (Proofs.Ytcengfpfphdacaa.q63_65 [(qnth (Proofs.Ytcengfpfphdacaa.q64 [(qget pd0 sn0)]) 0), pd2]) 0)) then
                    some (Sum.inr [(D.int 1)])
                  else
                    some (Sum.inl [(D.int (qbin BinOp.add IntKind.i64 sn0 1))])
                else
                  none
              else
                none
          else
            none
        else
          none
      else
        none
    else
      some (Sum.inr [(D.int 0)]) := by
  have h : st40_4  [pd0, (D.int pn1), pd2] [(D.int sn0)] =
    bif (qcmp BinOp.lss sn0 pn1) then
      bif (qinb pd0 sn0) then
        bif (qiteB (qcmp BinOp.eql (qlen (qfld (qget pd0 sn0) 1)) 0) Bool.true (qand (qinb (qfld (qget pd0 sn0) 1) (qbin BinOp.sub IntKind.i64 (qlen (qfld (qget pd0 sn0) 1)) 1)) (qsome (Proofs.Ytcengfpfphdacaa.q61 [(qget (qfld (qget pd0 sn0) 1) (qbin BinOp.sub IntKind.i64 (qlen (qfld (qget pd0 sn0) 1)) 1))])))) then
          bif (qiteB (qiteB (qcmp BinOp.eql (qlen (qfld (qget pd0 sn0) 1)) 0) Bool.true (qnot (qbool (qnth (Proofs.Ytcengfpfphdacaa.q61 [(qget (qfld (qget pd0 sn0) 1) (qbin BinOp.sub IntKind.i64 (qlen (qfld (qget pd0 sn0) 1)) 1))]) 0)))) Bool.true (qand (qcmp BinOp.leq 0 0) (qand (qcmp BinOp.leq 0 (qbin BinOp.sub IntKind.i64 (qlen (qfld (qget pd0 sn0) 1)) 1)) (qand (qcmp BinOp.leq (qbin BinOp.sub IntKind.i64 (qlen (qfld (qget pd0 sn0) 1)) 1) (qlen (qfld (qget pd0 sn0) 1))) (qsome (Proofs.Ytcengfpfphdacaa.q62_61 [(qsub (qfld (qget pd0 sn0) 1) 0 (qbin BinOp.sub IntKind.i64 (qlen (qfld (qget pd0 sn0) 1)) 1))])))))) then
            bif (qiteB (qiteB (qcmp BinOp.eql (qlen (qfld (qget pd0 sn0) 1)) 0) Bool.true (qnot (qbool (qnth (Proofs.Ytcengfpfphdacaa.q61 [(qget (qfld (qget pd0 sn0) 1) (qbin BinOp.sub IntKind.i64 (qlen (qfld (qget pd0 sn0) 1)) 1))]) 0)))) Bool.true (qbool (qnth (Proofs.Ytcengfpfphdacaa.q62_61 [(qsub (qfld (qget pd0 sn0) 1) 0 (qbin BinOp.sub IntKind.i64 (qlen (qfld (qget pd0 sn0) 1)) 1))]) 0))) then
              bif (qeqD pd0 pd0) then
                bif (qeqD (D.int pn1) (D.int pn1)) then
                  bif (qeqD pd2 pd2) then
                    some (Sum.inr [(D.int 1)])
                  else
                    none
                else
                  none
              else
                none
            else
              bif (qsome (Proofs.Ytcengfpfphdacaa.q64 [(qget pd0 sn0)])) then
                bif (qsome (Proofs.Ytcengfpfphdacaa.q63_65 [(qnth (Proofs.Ytcengfpfphdacaa.q64 [(qget pd0 sn0)]) 0), pd2])) then
                  bif (qbool (qnth (Proofs.Ytcengfpfphdacaa.q63_65 [(qnth (Proofs.Ytcengfpfphdacaa.q64 [(qget pd0 sn0)]) 0), pd2]) 0)) then
                    bif (qeqD pd0 pd0) then
                      bif (qeqD (D.int pn1) (D.int pn1)) then
                        bif (qeqD pd2 pd2) then
                          some (Sum.inr [(D.int 1)])
                        else
                          none
                      else
                        none
                    else
                      none
                  else
                    bif (qeqD pd0 pd0) then
                      bif (qeqD (D.int pn1) (D.int pn1)) then
                        bif (qeqD pd2 pd2) then
                          some (Sum.inl [(D.int (qbin BinOp.add IntKind.i64 sn0 1))])
                        else
                          none
                      else
                        none
                    else
                      none
                else
                  none
              else
                none
          else
            none
        else
          none
      else
        none
    else
      bif (qeqD pd0 pd0) then
        bif (qeqD (D.int pn1) (D.int pn1)) then
          bif (qeqD pd2 pd2) then
            some (Sum.inr [(D.int 0)])
          else
            none
        else
          none
      else
        none := by kernel_rfl
  rw [h]; simp only [qeqD_self, qeqI_self, qeq_len, List.length_cons, List.length_nil, cond_true]

noncomputable def l40_4 : List D → List D → Option (List D) := veil fun p s => loW (st40_4  p) s

theorem l40_4_eq : l40_4  = fun p s => loW (st40_4  p) s := veil_eq _

noncomputable def tbl40_4 : Tb := Tb.addL tb70 40 4 S40_4.n0 (mkLp S40_4 (l40_4 ))

theorem ok_tbl40_4 : TbOk env (tbl40_4 ) := addLoopQ ok_tb70 40 4 (by kernel_rfl) _ (l40_4_eq )

def S40 : FunS := ⟨[⟨true, (.dat 49)⟩], [], [⟨true, .bool⟩], []⟩

noncomputable def F40 : List D → Option (List D) := liftF env tbl40_4 60 6 40 S40

theorem F40_eq  (sd0 : D) : F40  [sd0] =
    bif (qcmp BinOp.eql (qlen (qfld sd0 1)) 0) then
      some [(D.bool Bool.false)]
    else
      bif (qsome (Proofs.Ytcengfpfphdacaa.l40_4 [(qfld sd0 1), (D.int (qlen (qfld sd0 1))), sd0] [(D.int 0)])) then
        bif (qcmp BinOp.eql (qint (qnth (Proofs.Ytcengfpfphdacaa.l40_4 [(qfld sd0 1), (D.int (qlen (qfld sd0 1))), sd0] [(D.int 0)]) 0)) 0) then
          some [(D.bool Bool.true)]
        else
          some [(D.bool Bool.false)]
      else
        none := by kernel_rfl

noncomputable def q40 : List D → Option (List D) := veil (F40 )

theorem q40_eq : q40  = F40  := veil_eq _

noncomputable def tb40 : Tb := Tb.addF tbl40_4 40 S40 (q40 )

theorem ok_tb40 : TbOk env (tb40 ) := addFunF ok_tbl40_4 40 (by kernel_rfl) _ (q40_eq )

/- function 20  -/

def S20_3 : LoopS := ⟨0, [⟨false, .any⟩, ⟨false, (.ptr 0 0)⟩, ⟨false, (.lit (.int .i64 0))⟩, ⟨true, (.int .i64)⟩, ⟨false, .any⟩, ⟨false, .any⟩, ⟨false, .any⟩, ⟨false, .any⟩, ⟨false, .any⟩, ⟨false, .any⟩, ⟨false, .any⟩, ⟨false, .any⟩, ⟨false, (.rows 52)⟩, ⟨false, (.int .i64)⟩, ⟨true, (.int .i64)⟩, ⟨false, .any⟩, ⟨false, .any⟩, ⟨false, .any⟩, ⟨false, .any⟩, ⟨false, .any⟩, ⟨false, .any⟩, ⟨false, .any⟩, ⟨false, .any⟩, ⟨false, .any⟩, ⟨false, .any⟩, ⟨false, .any⟩, ⟨false, .any⟩, ⟨false, .any⟩, ⟨false, .any⟩, ⟨false, .any⟩, ⟨false, .any⟩, ⟨false, .any⟩, ⟨false, .any⟩, ⟨false, .any⟩, ⟨false, .any⟩, ⟨false, .any⟩, ⟨false, .any⟩, ⟨false, .any⟩, ⟨false, .any⟩, ⟨false, .any⟩, ⟨false, .any⟩, ⟨false, .any⟩, ⟨false, .any⟩, ⟨false, .any⟩, ⟨false, .any⟩, ⟨false, .any⟩, ⟨false, .any⟩, ⟨false, .any⟩, ⟨false, .any⟩, ⟨false, .any⟩, ⟨false, .any⟩, ⟨false, .any⟩, ⟨false, .any⟩, ⟨false, .any⟩, ⟨false, .any⟩, ⟨false, .any⟩], [(.dat false 49)], [⟨0, 0, [⟨true, .any⟩, ⟨true, (.ptr 0 0)⟩, ⟨true, (.lit (.int .i64 0))⟩, ⟨true, (.int .i64)⟩, ⟨true, .any⟩, ⟨true, .any⟩, ⟨true, .any⟩, ⟨true, .any⟩, ⟨true, .any⟩, ⟨true, .any⟩, ⟨true, .any⟩, ⟨true, .any⟩, ⟨false, (.rows 52)⟩, ⟨false, (.int .i64)⟩, ⟨true, .any⟩, ⟨true, .any⟩, ⟨true, .any⟩, ⟨true, .any⟩, ⟨true, .any⟩, ⟨true, .any⟩, ⟨true, .any⟩, ⟨true, .any⟩, ⟨true, .any⟩, ⟨true, .any⟩, ⟨true, .any⟩, ⟨true, .any⟩, ⟨true, .any⟩, ⟨true, .any⟩, ⟨true, .any⟩, ⟨true, .any⟩, ⟨true, .any⟩, ⟨true, .any⟩, ⟨true, .any⟩, ⟨true, .any⟩, ⟨true, .any⟩, ⟨true, .any⟩, ⟨true, .any⟩, ⟨true, .any⟩, ⟨true, .any⟩, ⟨true, .any⟩, ⟨true, .any⟩, ⟨true, .any⟩, ⟨true, .any⟩, ⟨true, .any⟩, ⟨true, .any⟩, ⟨true, .any⟩, ⟨true, .any⟩, ⟨true, .any⟩, ⟨true, .any⟩, ⟨true, .any⟩, ⟨true, .any⟩, ⟨true, .any⟩, ⟨true, .any⟩, ⟨true, .any⟩, ⟨true, .any⟩, ⟨true, .any⟩], [(.dat false 49)]⟩]⟩

noncomputable def st20_3 (p s : List D) : Option (Sum (List D) (List D)) := stepQ env tb40 60 6 20 (loopC 20 3) S20_3 p s

theorem st20_3_eq (pd0 : D) (pn1 : Int) (pd2 : D) (sn0 : Int) (sn1 : Int) : st20_3  [pd0, (D.int pn1), pd2] [(D.int sn0), (D.int sn1)] =
    bif (qcmp BinOp.lss sn1 pn1) then
      bif (qinb pd0 sn1) then
        some (Sum.inl [(D.int (qbin BinOp.add IntKind.i64 sn0 (qlen (qfld (qget pd0 sn1) 1)))), (D.int (qbin BinOp.add IntKind.i64 sn1 1))])
      else
        none
    else
      some (Sum.inr [(D.int 0), (D.int sn0)]) := by
  have h : st20_3  [pd0, (D.int pn1), pd2] [(D.int sn0), (D.int sn1)] =
    bif (qcmp BinOp.lss sn1 pn1) then
      bif (qinb pd0 sn1) then
        bif (qeqD pd0 pd0) then
          bif (qeqD (D.int pn1) (D.int pn1)) then
            bif (qeqD pd2 pd2) then
              some (Sum.inl [(D.int (qbin BinOp.add IntKind.i64 sn0 (qlen (qfld (qget pd0 sn1) 1)))), (D.int (qbin BinOp.add IntKind.i64 sn1 1))])
            else
              none
          else
            none
        else
          none
      else
        none
    else
      bif (qeqD pd0 pd0) then
        bif (qeqD (D.int pn1) (D.int pn1)) then
          bif (qeqD pd2 pd2) then
            some (Sum.inr [(D.int 0), (D.int sn0)])
          else
            none
        else
          none
      else
        none := by kernel_rfl
  rw [h]; simp only [qeqD_self, qeqI_self, qeq_len, List.length_cons, List.length_nil, cond_true]

noncomputable def l20_3 : List D → List D → Option (List D) := veil fun p s => loW (st20_3  p) s

theorem l20_3_eq : l20_3  = fun p s => loW (st20_3  p) s := veil_eq _

noncomputable def tbl20_3 : Tb := Tb.addL tb40 20 3 S20_3.n0 (mkLp S20_3 (l20_3 ))

theorem ok_tbl20_3 : TbOk env (tbl20_3 ) := addLoopQ ok_tb40 20 3 (by kernel_rfl) _ (l20_3_eq )

def S20_15 : LoopS := ⟨0, [⟨false, .any⟩, ⟨false, .any⟩, ⟨false, (.lit (.int .i64 0))⟩, ⟨false, .any⟩, ⟨false, .any⟩, ⟨false, .any⟩, ⟨false, .any⟩, ⟨false, .any⟩, ⟨false, .any⟩, ⟨false, .any⟩, ⟨false, .any⟩, ⟨false, .any⟩, ⟨false, .any⟩, ⟨false, .any⟩, ⟨false, .any⟩, ⟨false, .any⟩, ⟨false, .any⟩, ⟨false, .any⟩, ⟨false, .any⟩, ⟨false, .any⟩, ⟨false, .any⟩, ⟨false, .any⟩, ⟨false, .any⟩, ⟨false, .any⟩, ⟨false, .any⟩, ⟨false, .any⟩, ⟨false, .any⟩, ⟨false, .any⟩, ⟨false, .any⟩, ⟨false, .any⟩, ⟨false, .any⟩, ⟨false, .any⟩, ⟨false, .any⟩, ⟨false, .any⟩, ⟨false, .any⟩, ⟨false, .any⟩, ⟨false, (.rows 52)⟩, ⟨false, (.int .i64)⟩, ⟨false, (.int .i64)⟩, ⟨false, .any⟩, ⟨false, .any⟩, ⟨false, .any⟩, ⟨false, .any⟩, ⟨false, (.rows 81)⟩, ⟨false, (.int .i64)⟩, ⟨true, (.int .i64)⟩, ⟨false, .any⟩, ⟨false, .any⟩, ⟨false, .any⟩, ⟨false, .any⟩, ⟨false, .any⟩, ⟨false, .any⟩, ⟨false, .any⟩, ⟨false, .any⟩, ⟨false, .any⟩, ⟨false, .any⟩], [], [⟨0, 4, [⟨true, .any⟩, ⟨true, .any⟩, ⟨true, (.lit (.int .i64 0))⟩, ⟨true, .any⟩, ⟨true, .any⟩, ⟨true, .any⟩, ⟨true, .any⟩, ⟨true, .any⟩, ⟨true, .any⟩, ⟨true, .any⟩, ⟨true, .any⟩, ⟨true, .any⟩, ⟨true, .any⟩, ⟨true, .any⟩, ⟨true, .any⟩, ⟨true, .any⟩, ⟨true, .any⟩, ⟨true, .any⟩, ⟨true, .any⟩, ⟨true, .any⟩, ⟨true, .any⟩, ⟨true, .any⟩, ⟨true, .any⟩, ⟨true, .any⟩, ⟨true, .any⟩, ⟨true, .any⟩, ⟨true, .any⟩, ⟨true, .any⟩, ⟨true, .any⟩, ⟨true, .any⟩, ⟨true, .any⟩, ⟨true, .any⟩, ⟨true, .any⟩, ⟨true, .any⟩, ⟨true, .any⟩, ⟨true, .any⟩, ⟨false, (.rows 52)⟩, ⟨false, (.int .i64)⟩, ⟨false, (.int .i64)⟩, ⟨true, .any⟩, ⟨true, .any⟩, ⟨true, .any⟩, ⟨true, .any⟩, ⟨false, (.rows 81)⟩, ⟨false, (.int .i64)⟩, ⟨true, .any⟩, ⟨true, .any⟩, ⟨true, .any⟩, ⟨true, .any⟩, ⟨true, .any⟩, ⟨true, .any⟩, ⟨true, .any⟩, ⟨true, .any⟩, ⟨true, .any⟩, ⟨true, .any⟩, ⟨true, .any⟩], []⟩, ⟨1, 0, [⟨true, .any⟩, ⟨true, .any⟩, ⟨true, (.int .i64)⟩, ⟨true, .any⟩, ⟨true, .any⟩, ⟨true, .any⟩, ⟨true, .any⟩, ⟨true, .any⟩, ⟨true, .any⟩, ⟨true, .any⟩, ⟨true, .any⟩, ⟨true, .any⟩, ⟨true, .any⟩, ⟨true, .any⟩, ⟨true, .any⟩, ⟨true, .any⟩, ⟨true, .any⟩, ⟨true, .any⟩, ⟨true, .any⟩, ⟨true, .any⟩, ⟨true, .any⟩, ⟨true, .any⟩, ⟨true, .any⟩, ⟨true, .any⟩, ⟨true, .any⟩, ⟨true, .any⟩, ⟨true, .any⟩, ⟨true, .any⟩, ⟨true, .any⟩, ⟨true, .any⟩, ⟨true, .any⟩, ⟨true, .any⟩, ⟨true, .any⟩, ⟨true, .any⟩, ⟨true, .any⟩, ⟨true, .any⟩, ⟨false, (.rows 52)⟩, ⟨false, (.int .i64)⟩, ⟨false, (.int .i64)⟩, ⟨true, .any⟩, ⟨true, .any⟩, ⟨true, .any⟩, ⟨true, .any⟩, ⟨false, (.rows 81)⟩, ⟨false, (.int .i64)⟩, ⟨true, .any⟩, ⟨true, .any⟩, ⟨true, .any⟩, ⟨true, .any⟩, ⟨true, .any⟩, ⟨true, .any⟩, ⟨true, .any⟩, ⟨true, .any⟩, ⟨true, .any⟩, ⟨true, .any⟩, ⟨true, .any⟩], []⟩]⟩

noncomputable def st20_15 (p s : List D) : Option (Sum (List D) (List D)) := stepQ env tbl20_3 60 6 20 (loopC 20 15) S20_15 p s

theorem st20_15_eq (pd0 : D) (pn1 : Int) (pn2 : Int) (pd3 : D) (pn4 : Int) (sn0 : Int) : st20_15  [pd0, (D.int pn1), (D.int pn2), pd3, (D.int pn4)] [(D.int sn0)] =
    bif (qcmp BinOp.lss sn0 pn4) then
      bif (qinb pd3 sn0) then
        bif (qsome (Proofs.Ytcengfpfphdacaa.q41 [(qget pd3 sn0)])) then
          bif (qcmp BinOp.neq (qint (qnth (Proofs.Ytcengfpfphdacaa.q41 [(qget pd3 sn0)]) 0)) 0) then
            some (Sum.inr [(D.int 1), (D.int (qint (qnth (Proofs.Ytcengfpfphdacaa.q41 [(qget pd3 sn0)]) 0)))])
          else
            some (Sum.inl [(D.int (qbin BinOp.add IntKind.i64 sn0 1))])
        else
          none
      else
        none
    else
      some (Sum.inr [(D.int 0)]) := by
  have h : st20_15  [pd0, (D.int pn1), (D.int pn2), pd3, (D.int pn4)] [(D.int sn0)] =
    bif (qcmp BinOp.lss sn0 pn4) then
      bif (qinb pd3 sn0) then
        bif (qsome (Proofs.Ytcengfpfphdacaa.q41 [(qget pd3 sn0)])) then
          bif (qcmp BinOp.neq (qint (qnth (Proofs.Ytcengfpfphdacaa.q41 [(qget pd3 sn0)]) 0)) 0) then
            bif (qeqD pd0 pd0) then
              bif (qeqD (D.int pn1) (D.int pn1)) then
                bif (qeqD (D.int pn2) (D.int pn2)) then
                  bif (qeqD pd3 pd3) then
                    bif (qeqD (D.int pn4) (D.int pn4)) then
                      some (Sum.inr [(D.int 1), (D.int (qint (qnth (Proofs.Ytcengfpfphdacaa.q41 [(qget pd3 sn0)]) 0)))])
                    else
                      none
                  else
                    none
                else
                  none
              else
                none
            else
              none
          else
            bif (qeqD pd0 pd0) then
              bif (qeqD (D.int pn1) (D.int pn1)) then
                bif (qeqD (D.int pn2) (D.int pn2)) then
                  bif (qeqD pd3 pd3) then
                    bif (qeqD (D.int pn4) (D.int pn4)) then
                      some (Sum.inl [(D.int (qbin BinOp.add IntKind.i64 sn0 1))])
                    else
                      none
                  else
                    none
                else
                  none
              else
                none
            else
              none
        else
          none
      else
        none
    else
      bif (qeqD pd0 pd0) then
        bif (qeqD (D.int pn1) (D.int pn1)) then
          bif (qeqD (D.int pn2) (D.int pn2)) then
            bif (qeqD pd3 pd3) then
              bif (qeqD (D.int pn4) (D.int pn4)) then
                some (Sum.inr [(D.int 0)])
              else
                none
            else
              none
          else
            none
        else
          none
      else
        none := by kernel_rfl
  rw [h]; simp only [qeqD_self, qeqI_self, qeq_len, List.length_cons, List.length_nil, cond_true]

noncomputable def l20_15 : List D → List D → Option (List D) := veil fun p s => loW (st20_15  p) s

theorem l20_15_eq : l20_15  = fun p s => loW (st20_15  p) s := veil_eq _

noncomputable def tbl20_15 : Tb := Tb.addL tbl20_3 20 15 S20_15.n0 (mkLp S20_15 (l20_15 ))

theorem ok_tbl20_15 : TbOk env (tbl20_15 ) := addLoopQ ok_tbl20_3 20 15 (by kernel_rfl) _ (l20_15_eq )

def S20_12 : LoopS := ⟨0, [⟨false, .any⟩, ⟨false, .any⟩, ⟨false, (.lit (.int .i64 0))⟩, ⟨false, .any⟩, ⟨false, .any⟩, ⟨false, .any⟩, ⟨false, .any⟩, ⟨false, .any⟩, ⟨false, .any⟩, ⟨false, .any⟩, ⟨false, .any⟩, ⟨false, .any⟩, ⟨false, .any⟩, ⟨false, .any⟩, ⟨false, .any⟩, ⟨false, .any⟩, ⟨false, .any⟩, ⟨false, .any⟩, ⟨false, .any⟩, ⟨false, .any⟩, ⟨false, .any⟩, ⟨false, .any⟩, ⟨false, .any⟩, ⟨false, .any⟩, ⟨false, .any⟩, ⟨false, .any⟩, ⟨false, .any⟩, ⟨false, .any⟩, ⟨false, .any⟩, ⟨false, .any⟩, ⟨false, .any⟩, ⟨false, .any⟩, ⟨false, .any⟩, ⟨false, .any⟩, ⟨false, .any⟩, ⟨false, .any⟩, ⟨false, (.rows 52)⟩, ⟨false, (.int .i64)⟩, ⟨true, (.int .i64)⟩, ⟨false, .any⟩, ⟨false, .any⟩, ⟨false, .any⟩, ⟨false, .any⟩, ⟨false, .any⟩, ⟨false, .any⟩, ⟨false, .any⟩, ⟨false, .any⟩, ⟨false, .any⟩, ⟨false, .any⟩, ⟨false, .any⟩, ⟨false, .any⟩, ⟨false, .any⟩, ⟨false, .any⟩, ⟨false, .any⟩, ⟨false, .any⟩, ⟨false, .any⟩], [], [⟨0, 2, [⟨true, .any⟩, ⟨true, .any⟩, ⟨true, (.lit (.int .i64 0))⟩, ⟨true, .any⟩, ⟨true, .any⟩, ⟨true, .any⟩, ⟨true, .any⟩, ⟨true, .any⟩, ⟨true, .any⟩, ⟨true, .any⟩, ⟨true, .any⟩, ⟨true, .any⟩, ⟨true, .any⟩, ⟨true, .any⟩, ⟨true, .any⟩, ⟨true, .any⟩, ⟨true, .any⟩, ⟨true, .any⟩, ⟨true, .any⟩, ⟨true, .any⟩, ⟨true, .any⟩, ⟨true, .any⟩, ⟨true, .any⟩, ⟨true, .any⟩, ⟨true, .any⟩, ⟨true, .any⟩, ⟨true, .any⟩, ⟨true, .any⟩, ⟨true, .any⟩, ⟨true, .any⟩, ⟨true, .any⟩, ⟨true, .any⟩, ⟨true, .any⟩, ⟨true, .any⟩, ⟨true, .any⟩, ⟨true, .any⟩, ⟨false, (.rows 52)⟩, ⟨false, (.int .i64)⟩, ⟨true, .any⟩, ⟨true, .any⟩, ⟨true, .any⟩, ⟨true, .any⟩, ⟨true, .any⟩, ⟨true, .any⟩, ⟨true, .any⟩, ⟨true, .any⟩, ⟨true, .any⟩, ⟨true, .any⟩, ⟨true, .any⟩, ⟨true, .any⟩, ⟨true, .any⟩, ⟨true, .any⟩, ⟨true, .any⟩, ⟨true, .any⟩, ⟨true, .any⟩, ⟨true, .any⟩], []⟩, ⟨1, 0, [⟨true, .any⟩, ⟨true, .any⟩, ⟨true, (.int .i64)⟩, ⟨true, .any⟩, ⟨true, .any⟩, ⟨true, .any⟩, ⟨true, .any⟩, ⟨true, .any⟩, ⟨true, .any⟩, ⟨true, .any⟩, ⟨true, .any⟩, ⟨true, .any⟩, ⟨true, .any⟩, ⟨true, .any⟩, ⟨true, .any⟩, ⟨true, .any⟩, ⟨true, .any⟩, ⟨true, .any⟩, ⟨true, .any⟩, ⟨true, .any⟩, ⟨true, .any⟩, ⟨true, .any⟩, ⟨true, .any⟩, ⟨true, .any⟩, ⟨true, .any⟩, ⟨true, .any⟩, ⟨true, .any⟩, ⟨true, .any⟩, ⟨true, .any⟩, ⟨true, .any⟩, ⟨true, .any⟩, ⟨true, .any⟩, ⟨true, .any⟩, ⟨true, .any⟩, ⟨true, .any⟩, ⟨true, .any⟩, ⟨false, (.rows 52)⟩, ⟨false, (.int .i64)⟩, ⟨true, .any⟩, ⟨true, .any⟩, ⟨true, .any⟩, ⟨true, .any⟩, ⟨true, .any⟩, ⟨true, .any⟩, ⟨true, .any⟩, ⟨true, .any⟩, ⟨true, .any⟩, ⟨true, .any⟩, ⟨true, .any⟩, ⟨true, .any⟩, ⟨true, .any⟩, ⟨true, .any⟩, ⟨true, .any⟩, ⟨true, .any⟩, ⟨true, .any⟩, ⟨true, .any⟩], []⟩]⟩

noncomputable def st20_12 (p s : List D) : Option (Sum (List D) (List D)) := stepQ env tbl20_15 60 6 20 (loopC 20 12) S20_12 p s

theorem st20_12_eq (pd0 : D) (pn1 : Int) (sn0 : Int) : st20_12  [pd0, (D.int pn1)] [(D.int sn0)] =
    bif (qcmp BinOp.lss sn0 pn1) then
      bif (qinb pd0 sn0) then
        bif (qsome (Proofs.Ytcengfpfphdacaa.l20_15 [pd0, (D.int pn1), (D.int sn0), (qfld (qget pd0 sn0) 1), (D.int (qlen (qfld (qget pd0 sn0) 1)))] [(D.int 0)])) then
          bif (qcmp BinOp.eql (qint (qnth (Proofs.Ytcengfpfphdacaa.l20_15 [pd0, (D.int pn1), (D.int sn0), (qfld (qget pd0 sn0) 1), (D.int (qlen (qfld (qget pd0 sn0) 1)))] [(D.int 0)]) 0)) 0) then
            some (Sum.inl [(D.int (qbin BinOp.add IntKind.i64 sn0 1))])
          else
            some (Sum.inr [(D.int 1), (D.int (qint (qnth (Proofs.Ytcengfpfphdacaa.l20_15 [pd0, (D.int pn1), (D.int sn0), (qfld (qget pd0 sn0) 1), (D.int (qlen (qfld (qget pd0 sn0) 1)))] [(D.int 0)]) 1)))])
        else
          none
      else
        none
    else
      some (Sum.inr [(D.int 0)]) := by
  have h : st20_12  [pd0, (D.int pn1)] [(D.int sn0)] =
    bif (qcmp BinOp.lss sn0 pn1) then
      bif (qinb pd0 sn0) then
        bif (qsome (Proofs.Ytcengfpfphdacaa.l20_15 [pd0, (D.int pn1), (D.int sn0), (qfld (qget pd0 sn0) 1), (D.int (qlen (qfld (qget pd0 sn0) 1)))] [(D.int 0)])) then
          bif (qcmp BinOp.eql (qint (qnth (Proofs.Ytcengfpfphdacaa.l20_15 [pd0, (D.int pn1), (D.int sn0), (qfld (qget pd0 sn0) 1), (D.int (qlen (qfld (qget pd0 sn0) 1)))] [(D.int 0)]) 0)) 0) then
            bif (qeqD pd0 pd0) then
              bif (qeqD (D.int pn1) (D.int pn1)) then
                some (Sum.inl [(D.int (qbin BinOp.add IntKind.i64 sn0 1))])
              else
                none
            else
              none
          else
            bif (qeqD pd0 pd0) then
              bif (qeqD (D.int pn1) (D.int pn1)) then
                some (Sum.inr [(D.int 1), (D.int (qint (qnth (Proofs.Ytcengfpfphdacaa.l20_15 [pd0, (D.int pn1), (D.int sn0), (qfld (qget pd0 sn0) 1), (D.int (qlen (qfld (qget pd0 sn0) 1)))] [(D.int 0)]) 1)))])
              else
                none
            else
              none
        else
          none
      else
        none
    else
      bif (qeqD pd0 pd0) then
        bif (qeqD (D.int pn1) (D.int pn1)) then
          some (Sum.inr [(D.int 0)])
        else
          none
      else
        none := by kernel_rfl
  rw [h]; simp only [qeqD_self, qeqI_self, qeq_len, List.length_cons, List.length_nil, cond_true]

noncomputable def l20_12 : List D → List D → Option (List D) := veil fun p s => loW (st20_12  p) s

theorem l20_12_eq : l20_12  = fun p s => loW (st20_12  p) s := veil_eq _

noncomputable def tbl20_12 : Tb := Tb.addL tbl20_15 20 12 S20_12.n0 (mkLp S20_12 (l20_12 ))

theorem ok_tbl20_12 : TbOk env (tbl20_12 ) := addLoopQ ok_tbl20_15 20 12 (by kernel_rfl) _ (l20_12_eq )

def S20 : FunS := ⟨[⟨true, (.dat 49)⟩], [], [⟨true, (.int .i64)⟩], []⟩

noncomputable def F20 : List D → Option (List D) := liftF env tbl20_12 60 6 20 S20

theorem F20_eq  (sd0 : D) : F20  [sd0] =
    bif (qsome (Proofs.Ytcengfpfphdacaa.l20_3 [(qfld sd0 1), (D.int (qlen (qfld sd0 1))), sd0] [(D.int 0), (D.int 0)])) then
      bif (qiteB (qcmp BinOp.gtr (qlen (qfld sd0 1)) 256) Bool.true (qcmp BinOp.gtr (qint (qnth (Proofs.Ytcengfpfphdacaa.l20_3 [(qfld sd0 1), (D.int (qlen (qfld sd0 1))), sd0] [(D.int 0), (D.int 0)]) 1)) 1024)) then
        some [(D.int 6)]
      else
        bif (qsome (Proofs.Ytcengfpfphdacaa.q40 [sd0])) then
          bif (qnot (qbool (qnth (Proofs.Ytcengfpfphdacaa.q40 [sd0]) 0))) then
            some [(D.int 18)]
          else
            bif (qsome (Proofs.Ytcengfpfphdacaa.l20_12 [(qfld sd0 1), (D.int (qlen (qfld sd0 1)))] [(D.int 0)])) then
              bif (qcmp BinOp.eql (qint (qnth (Proofs.Ytcengfpfphdacaa.l20_12 [(qfld sd0 1), (D.int (qlen (qfld sd0 1)))] [(D.int 0)]) 0)) 0) then
                some [(D.int 0)]
              else
                some [(D.int (qint (qnth (Proofs.Ytcengfpfphdacaa.l20_12 [(qfld sd0 1), (D.int (qlen (qfld sd0 1)))] [(D.int 0)]) 1)))]
            else
              none
        else
          none
    else
      none := by kernel_rfl

noncomputable def q20 : List D → Option (List D) := veil (F20 )

theorem q20_eq : q20  = F20  := veil_eq _

noncomputable def tb20 : Tb := Tb.addF tbl20_12 20 S20 (q20 )

theorem ok_tb20 : TbOk env (tb20 ) := addFunF ok_tbl20_12 20 (by kernel_rfl) _ (q20_eq )

end Go.Proofs.Ytcengfpfphdacaa

open Go Go.AM
namespace Go.Proofs.Ytcengfpfphdacaa
set_option maxRecDepth 100000
/- function 45  -/

def S45_4 : LoopS := ⟨0, [⟨false, .any⟩, ⟨false, (.int .i64)⟩, ⟨false, (.ptr 0 0)⟩, ⟨false, .any⟩, ⟨false, (.lit (.bool false))⟩, ⟨true, (.int .i64)⟩, ⟨false, .any⟩, ⟨false, .any⟩, ⟨false, .any⟩, ⟨false, .any⟩, ⟨false, .any⟩, ⟨false, .any⟩, ⟨false, .any⟩, ⟨false, .any⟩, ⟨false, .any⟩, ⟨false, .any⟩, ⟨false, .any⟩, ⟨false, .any⟩, ⟨false, .any⟩, ⟨false, .any⟩, ⟨false, .any⟩, ⟨false, .any⟩, ⟨false, .any⟩, ⟨false, .any⟩, ⟨false, .any⟩, ⟨false, .any⟩, ⟨false, .any⟩, ⟨false, .any⟩, ⟨false, .any⟩, ⟨false, .any⟩, ⟨false, .any⟩, ⟨false, .any⟩, ⟨false, .any⟩, ⟨false, .any⟩, ⟨false, .any⟩, ⟨false, .any⟩, ⟨false, .any⟩, ⟨false, .any⟩, ⟨false, .any⟩, ⟨false, .any⟩, ⟨false, .any⟩, ⟨false, .any⟩, ⟨false, .any⟩, ⟨false, .any⟩, ⟨false, .any⟩, ⟨false, .any⟩, ⟨false, .any⟩, ⟨false, .any⟩, ⟨false, .any⟩, ⟨false, .any⟩, ⟨false, .any⟩, ⟨false, .any⟩, ⟨false, .any⟩, ⟨false, .any⟩, ⟨false, .any⟩, ⟨false, .any⟩, ⟨false, .any⟩, ⟨false, .any⟩, ⟨false, .any⟩, ⟨false, .any⟩], [(.dat false 52)], [⟨0, 0, [⟨true, .any⟩, ⟨false, (.int .i64)⟩, ⟨true, (.ptr 0 0)⟩, ⟨true, .any⟩, ⟨true, (.lit (.bool false))⟩, ⟨true, .any⟩, ⟨true, .any⟩, ⟨true, .any⟩, ⟨true, .any⟩, ⟨true, .any⟩, ⟨true, .any⟩, ⟨true, .any⟩, ⟨true, .any⟩, ⟨true, .any⟩, ⟨true, .any⟩, ⟨true, .any⟩, ⟨true, .any⟩, ⟨true, .any⟩, ⟨true, .any⟩, ⟨true, .any⟩, ⟨true, .any⟩, ⟨true, .any⟩, ⟨true, .any⟩, ⟨true, .any⟩, ⟨true, .any⟩, ⟨true, .any⟩, ⟨true, .any⟩, ⟨true, .any⟩, ⟨true, .any⟩, ⟨true, .any⟩, ⟨true, .any⟩, ⟨true, .any⟩, ⟨true, .any⟩, ⟨true, .any⟩, ⟨true, .any⟩, ⟨true, .any⟩, ⟨true, .any⟩, ⟨true, .any⟩, ⟨true, .any⟩, ⟨true, .any⟩, ⟨true, .any⟩, ⟨true, .any⟩, ⟨true, .any⟩, ⟨true, .any⟩, ⟨true, .any⟩, ⟨true, .any⟩, ⟨true, .any⟩, ⟨true, .any⟩, ⟨true, .any⟩, ⟨true, .any⟩, ⟨true, .any⟩, ⟨true, .any⟩, ⟨true, .any⟩, ⟨true, .any⟩, ⟨true, .any⟩, ⟨true, .any⟩, ⟨true, .any⟩, ⟨true, .any⟩, ⟨true, .any⟩, ⟨true, .any⟩], [(.dat false 52)]⟩, ⟨1, 0, [⟨true, .any⟩, ⟨false, (.int .i64)⟩, ⟨true, .any⟩, ⟨true, .any⟩, ⟨true, (.lit (.bool false))⟩, ⟨true, .any⟩, ⟨true, .any⟩, ⟨true, .any⟩, ⟨true, .any⟩, ⟨true, .any⟩, ⟨true, .any⟩, ⟨true, .any⟩, ⟨true, .any⟩, ⟨true, .any⟩, ⟨true, .any⟩, ⟨true, .any⟩, ⟨true, .any⟩, ⟨true, .any⟩, ⟨true, .any⟩, ⟨true, .any⟩, ⟨true, .any⟩, ⟨true, .any⟩, ⟨true, .any⟩, ⟨true, .any⟩, ⟨true, .any⟩, ⟨true, .any⟩, ⟨true, .any⟩, ⟨true, .any⟩, ⟨true, .any⟩, ⟨true, .any⟩, ⟨true, .any⟩, ⟨true, .any⟩, ⟨true, .any⟩, ⟨true, .any⟩, ⟨true, .any⟩, ⟨true, .any⟩, ⟨true, .any⟩, ⟨true, .any⟩, ⟨true, .any⟩, ⟨true, .any⟩, ⟨true, .any⟩, ⟨true, .any⟩, ⟨true, .any⟩, ⟨true, .any⟩, ⟨true, .any⟩, ⟨true, .any⟩, ⟨true, .any⟩, ⟨true, .any⟩, ⟨true, .any⟩, ⟨true, .any⟩, ⟨true, .any⟩, ⟨true, .any⟩, ⟨true, .any⟩, ⟨true, .any⟩, ⟨true, .any⟩, ⟨true, .any⟩, ⟨true, .any⟩, ⟨true, .any⟩, ⟨true, .any⟩, ⟨true, .any⟩], [(.dat false 52)]⟩]⟩

noncomputable def st45_4 (p s : List D) : Option (Sum (List D) (List D)) := stepQ env tb20 60 6 45 (loopC 45 4) S45_4 p s

theorem st45_4_eq (pn0 : Int) (pd1 : D) (sn0 : Int) : st45_4  [(D.int pn0), pd1] [(D.int sn0)] =
    bif (qcmp BinOp.lss sn0 (qlen (qfld pd1 1))) then
      bif (qinb (qfld pd1 1) sn0) then
        bif (qsome (Proofs.Ytcengfpfphdacaa.q69 [(qget (qfld pd1 1) sn0)])) then
          bif (qnot (qeqB (qbool (qnth (Proofs.Ytcengfpfphdacaa.q69 [(qget (qfld pd1 1) sn0)]) 0)) (qcmp BinOp.eql sn0 (qbin BinOp.sub IntKind.i64 (qlen (qfld pd1 1)) 1)))) then
            some (Sum.inr [(D.int 1)])
          else
            some (Sum.inl [(D.int (qbin BinOp.add IntKind.i64 sn0 1))])
        else
          none
      else
        none
    else
      some (Sum.inr [(D.int 0)]) := by
  have h : st45_4  [(D.int pn0), pd1] [(D.int sn0)] =
    bif (qcmp BinOp.lss sn0 (qlen (qfld pd1 1))) then
      bif (qinb (qfld pd1 1) sn0) then
        bif (qsome (Proofs.Ytcengfpfphdacaa.q69 [(qget (qfld pd1 1) sn0)])) then
          bif (qnot (qeqB (qbool (qnth (Proofs.Ytcengfpfphdacaa.q69 [(qget (qfld pd1 1) sn0)]) 0)) (qcmp BinOp.eql sn0 (qbin BinOp.sub IntKind.i64 (qlen (qfld pd1 1)) 1)))) then
            bif (qeqD (D.int pn0) (D.int pn0)) then
              bif (qeqD pd1 pd1) then
                some (Sum.inr [(D.int 1)])
              else
                none
            else
              none
          else
            bif (qeqD (D.int pn0) (D.int pn0)) then
              bif (qeqD pd1 pd1) then
                some (Sum.inl [(D.int (qbin BinOp.add IntKind.i64 sn0 1))])
              else
                none
            else
              none
        else
          none
      else
        none
    else
      bif (qeqD (D.int pn0) (D.int pn0)) then
        bif (qeqD pd1 pd1) then
          some (Sum.inr [(D.int 0)])
        else
          none
      else
        none := by kernel_rfl
  rw [h]; simp only [qeqD_self, qeqI_self, qeq_len, List.length_cons, List.length_nil, cond_true]

noncomputable def l45_4 : List D → List D → Option (List D) := veil fun p s => loW (st45_4  p) s

theorem l45_4_eq : l45_4  = fun p s => loW (st45_4  p) s := veil_eq _

noncomputable def tbl45_4 : Tb := Tb.addL tb20 45 4 S45_4.n0 (mkLp S45_4 (l45_4 ))

theorem ok_tbl45_4 : TbOk env (tbl45_4 ) := addLoopQ ok_tb20 45 4 (by kernel_rfl) _ (l45_4_eq )

def S45_10 : LoopS := ⟨0, [⟨false, .any⟩, ⟨false, (.int .i64)⟩, ⟨false, .any⟩, ⟨false, .any⟩, ⟨false, (.lit (.bool false))⟩, ⟨false, .any⟩, ⟨false, (.rows 3)⟩, ⟨true, (.int .i64)⟩, ⟨false, .any⟩, ⟨false, .any⟩, ⟨false, .any⟩, ⟨false, .any⟩, ⟨false, .any⟩, ⟨false, .any⟩, ⟨false, .any⟩, ⟨false, .any⟩, ⟨false, .any⟩, ⟨false, .any⟩, ⟨false, .any⟩, ⟨false, .any⟩, ⟨false, .any⟩, ⟨false, .any⟩, ⟨false, .any⟩, ⟨false, .any⟩, ⟨false, .any⟩, ⟨false, .any⟩, ⟨false, .any⟩, ⟨false, .any⟩, ⟨false, .any⟩, ⟨false, .any⟩, ⟨false, .any⟩, ⟨false, .any⟩, ⟨false, .any⟩, ⟨false, .any⟩, ⟨false, .any⟩, ⟨false, .any⟩, ⟨false, .any⟩, ⟨false, .any⟩, ⟨false, .any⟩, ⟨false, .any⟩, ⟨false, .any⟩, ⟨false, .any⟩, ⟨false, .any⟩, ⟨false, .any⟩, ⟨false, .any⟩, ⟨false, .any⟩, ⟨false, .any⟩, ⟨false, .any⟩, ⟨false, .any⟩, ⟨false, .any⟩, ⟨false, .any⟩, ⟨false, .any⟩, ⟨false, .any⟩, ⟨false, .any⟩, ⟨false, .any⟩, ⟨false, .any⟩, ⟨false, .any⟩, ⟨false, .any⟩, ⟨false, .any⟩, ⟨false, .any⟩], [], [⟨0, 2, [⟨true, .any⟩, ⟨false, (.int .i64)⟩, ⟨true, .any⟩, ⟨true, .any⟩, ⟨true, (.lit (.bool false))⟩, ⟨true, .any⟩, ⟨false, (.rows 3)⟩, ⟨true, .any⟩, ⟨true, .any⟩, ⟨true, .any⟩, ⟨true, .any⟩, ⟨true, .any⟩, ⟨true, .any⟩, ⟨true, .any⟩, ⟨true, .any⟩, ⟨true, .any⟩, ⟨true, .any⟩, ⟨true, .any⟩, ⟨true, .any⟩, ⟨true, .any⟩, ⟨true, .any⟩, ⟨true, .any⟩, ⟨true, .any⟩, ⟨true, .any⟩, ⟨true, .any⟩, ⟨true, .any⟩, ⟨true, .any⟩, ⟨true, .any⟩, ⟨true, .any⟩, ⟨true, .any⟩, ⟨true, .any⟩, ⟨true, .any⟩, ⟨true, .any⟩, ⟨true, .any⟩, ⟨true, .any⟩, ⟨true, .any⟩, ⟨true, .any⟩, ⟨true, .any⟩, ⟨true, .any⟩, ⟨true, .any⟩, ⟨true, .any⟩, ⟨true, .any⟩, ⟨true, .any⟩, ⟨true, .any⟩, ⟨true, .any⟩, ⟨true, .any⟩, ⟨true, .any⟩, ⟨true, .any⟩, ⟨true, .any⟩, ⟨true, .any⟩, ⟨true, .any⟩, ⟨true, .any⟩, ⟨true, .any⟩, ⟨true, .any⟩, ⟨true, .any⟩, ⟨true, .any⟩, ⟨true, .any⟩, ⟨true, .any⟩, ⟨true, .any⟩, ⟨true, .any⟩], []⟩, ⟨1, 0, [⟨true, .any⟩, ⟨false, (.int .i64)⟩, ⟨true, .any⟩, ⟨true, .any⟩, ⟨true, (.lit (.bool false))⟩, ⟨true, .any⟩, ⟨false, (.rows 3)⟩, ⟨true, .any⟩, ⟨true, .any⟩, ⟨true, .any⟩, ⟨true, .any⟩, ⟨true, .any⟩, ⟨true, .any⟩, ⟨true, .any⟩, ⟨true, .any⟩, ⟨true, .any⟩, ⟨true, .any⟩, ⟨true, .any⟩, ⟨true, .any⟩, ⟨true, .any⟩, ⟨true, .any⟩, ⟨true, .any⟩, ⟨true, .any⟩, ⟨true, .any⟩, ⟨true, .any⟩, ⟨true, .any⟩, ⟨true, .any⟩, ⟨true, .any⟩, ⟨true, .any⟩, ⟨true, .any⟩, ⟨true, .any⟩, ⟨true, .any⟩, ⟨true, .any⟩, ⟨true, .any⟩, ⟨true, .any⟩, ⟨true, .any⟩, ⟨true, .any⟩, ⟨true, .any⟩, ⟨true, .any⟩, ⟨true, .any⟩, ⟨true, .any⟩, ⟨true, .any⟩, ⟨true, .any⟩, ⟨true, .any⟩, ⟨true, .any⟩, ⟨true, .any⟩, ⟨true, .any⟩, ⟨true, .any⟩, ⟨true, .any⟩, ⟨true, .any⟩, ⟨true, .any⟩, ⟨true, .any⟩, ⟨true, .any⟩, ⟨true, .any⟩, ⟨true, .any⟩, ⟨true, .any⟩, ⟨true, .any⟩, ⟨true, .any⟩, ⟨true, .any⟩, ⟨true, .any⟩], []⟩]⟩

noncomputable def st45_10 (p s : List D) : Option (Sum (List D) (List D)) := stepQ env tbl45_4 60 6 45 (loopC 45 10) S45_10 p s

theorem st45_10_eq (pn0 : Int) (pd1 : D) (sn0 : Int) : st45_10  [(D.int pn0), pd1] [(D.int sn0)] =
    bif (qcmp BinOp.lss sn0 (qlen pd1)) then
      bif (qinb pd1 sn0) then
        bif (qiteB (qcmp BinOp.lss (qint (qget pd1 sn0)) 0) Bool.true (qinb pd1 sn0)) then
          bif (qiteB (qcmp BinOp.lss (qint (qget pd1 sn0)) 0) Bool.true (qcmp BinOp.geq (qint (qget pd1 sn0)) pn0)) then
            some (Sum.inr [(D.int 1)])
          else
            some (Sum.inl [(D.int (qbin BinOp.add IntKind.i64 sn0 1))])
        else
          none
      else
        none
    else
      some (Sum.inr [(D.int 0)]) := by
  have h : st45_10  [(D.int pn0), pd1] [(D.int sn0)] =
    bif (qcmp BinOp.lss sn0 (qlen pd1)) then
      bif (qinb pd1 sn0) then
        bif (qiteB (qcmp BinOp.lss (qint (qget pd1 sn0)) 0) Bool.true (qinb pd1 sn0)) then
          bif (qiteB (qcmp BinOp.lss (qint (qget pd1 sn0)) 0) Bool.true (qcmp BinOp.geq (qint (qget pd1 sn0)) pn0)) then
            bif (qeqD (D.int pn0) (D.int pn0)) then
              bif (qeqD pd1 pd1) then
                some (Sum.inr [(D.int 1)])
              else
                none
            else
              none
          else
            bif (qeqD (D.int pn0) (D.int pn0)) then
              bif (qeqD pd1 pd1) then
                some (Sum.inl [(D.int (qbin BinOp.add IntKind.i64 sn0 1))])
              else
                none
            else
              none
        else
          none
      else
        none
    else
      bif (qeqD (D.int pn0) (D.int pn0)) then
        bif (qeqD pd1 pd1) then
          some (Sum.inr [(D.int 0)])
        else
          none
      else
        none := by kernel_rfl
  rw [h]; simp only [qeqD_self, qeqI_self, qeq_len, List.length_cons, List.length_nil, cond_true]

noncomputable def l45_10 : List D → List D → Option (List D) := veil fun p s => loW (st45_10  p) s

theorem l45_10_eq : l45_10  = fun p s => loW (st45_10  p) s := veil_eq _

noncomputable def tbl45_10 : Tb := Tb.addL tbl45_4 45 10 S45_10.n0 (mkLp S45_10 (l45_10 ))

theorem ok_tbl45_10 : TbOk env (tbl45_10 ) := addLoopQ ok_tbl45_4 45 10 (by kernel_rfl) _ (l45_10_eq )

def S45 : FunS := ⟨[⟨true, (.dat 52)⟩, ⟨true, (.int .i64)⟩], [], [⟨true, .bool⟩], []⟩

noncomputable def F45 : List D → Option (List D) := liftF env tbl45_10 60 6 45 S45

theorem F45_eq  (sd0 : D) (sn1 : Int) : F45  [sd0, (D.int sn1)] =
    bif (qcmp BinOp.eql (qlen (qfld sd0 1)) 0) then
      some [(D.bool Bool.false)]
    else
      bif (qsome (Proofs.Ytcengfpfphdacaa.l45_4 [(D.int sn1), sd0] [(D.int 0)])) then
        bif (qcmp BinOp.eql (qint (qnth (Proofs.Ytcengfpfphdacaa.l45_4 [(D.int sn1), sd0] [(D.int 0)]) 0)) 0) then
          bif (qinb (qfld sd0 1) (qbin BinOp.sub IntKind.i64 (qlen (qfld sd0 1)) 1)) then
            bif (qsome (Proofs.Ytcengfpfphdacaa.q70 [(qget (qfld sd0 1) (qbin BinOp.sub IntKind.i64 (qlen (qfld sd0 1)) 1))])) then
              bif (qsome (Proofs.Ytcengfpfphdacaa.l45_10 [(D.int sn1), (qnth (Proofs.Ytcengfpfphdacaa.q70 [(qget (qfld sd0 1) (qbin BinOp.sub IntKind.i64 (qlen (qfld sd0 1)) 1))]) 0)] [(D.int 0)])) then
                bif (qcmp BinOp.eql (qint (qnth (Proofs.Ytcengfpfphdacaa.l45_10 [(D.int sn1), (qnth (Proofs.Ytcengfpfphdacaa.q70 [(qget (qfld sd0 1) (qbin BinOp.sub IntKind.i64 (qlen (qfld sd0 1)) 1))]) 0)] [(D.int 0)]) 0)) 0) then
                  some [(D.bool Bool.true)]
                else
                  some [(D.bool Bool.false)]
              else
                none
            else
              none
          else
            none
        else
          some [(D.bool Bool.false)]
      else
        none := by kernel_rfl

noncomputable def q45 : List D → Option (List D) := veil (F45 )

theorem q45_eq : q45  = F45  := veil_eq _

noncomputable def tb45 : Tb := Tb.addF tbl45_10 45 S45 (q45 )

theorem ok_tb45 : TbOk env (tb45 ) := addFunF ok_tbl45_10 45 (by kernel_rfl) _ (q45_eq )

/- function 25  -/

def S25_5 : LoopS := ⟨0, [⟨false, .any⟩, ⟨false, (.ptr 0 0)⟩, ⟨false, (.lit (.int .i64 0))⟩, ⟨true, (.int .i64)⟩, ⟨true, (.int .i64)⟩, ⟨false, .any⟩, ⟨false, .any⟩, ⟨false, .any⟩, ⟨false, .any⟩, ⟨false, .any⟩, ⟨false, .any⟩, ⟨false, .any⟩, ⟨false, .any⟩, ⟨false, .any⟩, ⟨false, .any⟩, ⟨false, .any⟩, ⟨false, .any⟩, ⟨false, .any⟩, ⟨false, .any⟩, ⟨false, .any⟩, ⟨false, .any⟩, ⟨false, .any⟩, ⟨false, .any⟩, ⟨false, .any⟩, ⟨false, .any⟩, ⟨false, .any⟩, ⟨false, .any⟩, ⟨false, .any⟩, ⟨false, .any⟩, ⟨false, .any⟩, ⟨false, .any⟩, ⟨false, .any⟩, ⟨false, .any⟩, ⟨false, .any⟩, ⟨false, .any⟩, ⟨false, .any⟩, ⟨false, .any⟩, ⟨false, .any⟩, ⟨false, .any⟩, ⟨false, .any⟩, ⟨false, .any⟩, ⟨false, .any⟩, ⟨false, .any⟩, ⟨false, .any⟩, ⟨false, .any⟩, ⟨false, .any⟩, ⟨false, .any⟩, ⟨false, .any⟩, ⟨false, .any⟩, ⟨false, .any⟩, ⟨false, .any⟩, ⟨false, .any⟩, ⟨false, .any⟩, ⟨false, .any⟩, ⟨false, .any⟩, ⟨false, .any⟩, ⟨false, .any⟩, ⟨false, .any⟩, ⟨false, .any⟩, ⟨false, .any⟩, ⟨false, .any⟩, ⟨false, .any⟩, ⟨false, .any⟩, ⟨false, .any⟩, ⟨false, .any⟩, ⟨false, .any⟩, ⟨false, .any⟩, ⟨false, .any⟩, ⟨false, .any⟩, ⟨false, .any⟩, ⟨false, .any⟩, ⟨false, .any⟩, ⟨false, .any⟩, ⟨false, .any⟩, ⟨false, .any⟩, ⟨false, .any⟩, ⟨false, .any⟩, ⟨false, .any⟩, ⟨false, .any⟩, ⟨false, .any⟩, ⟨false, .any⟩, ⟨false, .any⟩, ⟨false, .any⟩], [(.dat false 49)], [⟨0, 0, [⟨true, .any⟩, ⟨true, (.ptr 0 0)⟩, ⟨true, (.lit (.int .i64 0))⟩, ⟨true, (.int .i64)⟩, ⟨true, .any⟩, ⟨true, .any⟩, ⟨true, .any⟩, ⟨true, .any⟩, ⟨true, .any⟩, ⟨true, .any⟩, ⟨true, .any⟩, ⟨true, .any⟩, ⟨true, .any⟩, ⟨true, .any⟩, ⟨true, .any⟩, ⟨true, .any⟩, ⟨true, .any⟩, ⟨true, .any⟩, ⟨true, .any⟩, ⟨true, .any⟩, ⟨true, .any⟩, ⟨true, .any⟩, ⟨true, .any⟩, ⟨true, .any⟩, ⟨true, .any⟩, ⟨true, .any⟩, ⟨true, .any⟩, ⟨true, .any⟩, ⟨true, .any⟩, ⟨true, .any⟩, ⟨true, .any⟩, ⟨true, .any⟩, ⟨true, .any⟩, ⟨true, .any⟩, ⟨true, .any⟩, ⟨true, .any⟩, ⟨true, .any⟩, ⟨true, .any⟩, ⟨true, .any⟩, ⟨true, .any⟩, ⟨true, .any⟩, ⟨true, .any⟩, ⟨true, .any⟩, ⟨true, .any⟩, ⟨true, .any⟩, ⟨true, .any⟩, ⟨true, .any⟩, ⟨true, .any⟩, ⟨true, .any⟩, ⟨true, .any⟩, ⟨true, .any⟩, ⟨true, .any⟩, ⟨true, .any⟩, ⟨true, .any⟩, ⟨true, .any⟩, ⟨true, .any⟩, ⟨true, .any⟩, ⟨true, .any⟩, ⟨true, .any⟩, ⟨true, .any⟩, ⟨true, .any⟩, ⟨true, .any⟩, ⟨true, .any⟩, ⟨true, .any⟩, ⟨true, .any⟩, ⟨true, .any⟩, ⟨true, .any⟩, ⟨true, .any⟩, ⟨true, .any⟩, ⟨true, .any⟩, ⟨true, .any⟩, ⟨true, .any⟩, ⟨true, .any⟩, ⟨true, .any⟩, ⟨true, .any⟩, ⟨true, .any⟩, ⟨true, .any⟩, ⟨true, .any⟩, ⟨true, .any⟩, ⟨true, .any⟩, ⟨true, .any⟩, ⟨true, .any⟩, ⟨true, .any⟩], [(.dat false 49)]⟩]⟩

noncomputable def st25_5 (p s : List D) : Option (Sum (List D) (List D)) := stepQ env tb45 60 6 25 (loopC 25 5) S25_5 p s

theorem st25_5_eq (pd0 : D) (sn0 : Int) (sn1 : Int) : st25_5  [pd0] [(D.int sn0), (D.int sn1)] =
    bif (qcmp BinOp.lss sn1 (qlen (qfld pd0 1))) then
      bif (qinb (qfld pd0 1) sn1) then
        some (Sum.inl [(D.int (qbin BinOp.add IntKind.i64 sn0 (qlen (qfld (qget (qfld pd0 1) sn1) 1)))), (D.int (qbin BinOp.add IntKind.i64 sn1 1))])
      else
        none
    else
      some (Sum.inr [(D.int 0), (D.int sn0)]) := by
  have h : st25_5  [pd0] [(D.int sn0), (D.int sn1)] =
    bif (qcmp BinOp.lss sn1 (qlen (qfld pd0 1))) then
      bif (qinb (qfld pd0 1) sn1) then
        bif (qeqD pd0 pd0) then
          some (Sum.inl [(D.int (qbin BinOp.add IntKind.i64 sn0 (qlen (qfld (qget (qfld pd0 1) sn1) 1)))), (D.int (qbin BinOp.add IntKind.i64 sn1 1))])
        else
          none
      else
        none
    else
      bif (qeqD pd0 pd0) then
        some (Sum.inr [(D.int 0), (D.int sn0)])
      else
        none := by kernel_rfl
  rw [h]; simp only [qeqD_self, qeqI_self, qeq_len, List.length_cons, List.length_nil, cond_true]

noncomputable def l25_5 : List D → List D → Option (List D) := veil fun p s => loW (st25_5  p) s

theorem l25_5_eq : l25_5  = fun p s => loW (st25_5  p) s := veil_eq _

noncomputable def tbl25_5 : Tb := Tb.addL tb45 25 5 S25_5.n0 (mkLp S25_5 (l25_5 ))

theorem ok_tbl25_5 : TbOk env (tbl25_5 ) := addLoopQ ok_tb45 25 5 (by kernel_rfl) _ (l25_5_eq )

def S25_13 : LoopS := ⟨0, [⟨false, .any⟩, ⟨false, (.ptr 0 0)⟩, ⟨false, (.lit (.int .i64 0))⟩, ⟨false, .any⟩, ⟨false, .any⟩, ⟨true, (.int .i64)⟩, ⟨false, .any⟩, ⟨false, .any⟩, ⟨false, .any⟩, ⟨false, .any⟩, ⟨false, .any⟩, ⟨false, .any⟩, ⟨false, .any⟩, ⟨false, .any⟩, ⟨false, .any⟩, ⟨false, .any⟩, ⟨false, .any⟩, ⟨false, .any⟩, ⟨false, .any⟩, ⟨false, .any⟩, ⟨false, .any⟩, ⟨false, .any⟩, ⟨false, .any⟩, ⟨false, .any⟩, ⟨false, .any⟩, ⟨false, .any⟩, ⟨false, .any⟩, ⟨false, .any⟩, ⟨false, .any⟩, ⟨false, .any⟩, ⟨false, .any⟩, ⟨false, .any⟩, ⟨false, .any⟩, ⟨false, .any⟩, ⟨false, .any⟩, ⟨false, .any⟩, ⟨false, .any⟩, ⟨false, .any⟩, ⟨false, .any⟩, ⟨false, .any⟩, ⟨false, .any⟩, ⟨false, .any⟩, ⟨false, .any⟩, ⟨false, .any⟩, ⟨false, .any⟩, ⟨false, .any⟩, ⟨false, .any⟩, ⟨false, .any⟩, ⟨false, .any⟩, ⟨false, .any⟩, ⟨false, .any⟩, ⟨false, .any⟩, ⟨false, .any⟩, ⟨false, .any⟩, ⟨false, .any⟩, ⟨false, .any⟩, ⟨false, .any⟩, ⟨false, .any⟩, ⟨false, .any⟩, ⟨false, .any⟩, ⟨false, .any⟩, ⟨false, .any⟩, ⟨false, .any⟩, ⟨false, .any⟩, ⟨false, .any⟩, ⟨false, .any⟩, ⟨false, .any⟩, ⟨false, .any⟩, ⟨false, .any⟩, ⟨false, .any⟩, ⟨false, .any⟩, ⟨false, .any⟩, ⟨false, .any⟩, ⟨false, .any⟩, ⟨false, .any⟩, ⟨false, .any⟩, ⟨false, .any⟩, ⟨false, .any⟩, ⟨false, .any⟩, ⟨false, .any⟩, ⟨false, .any⟩, ⟨false, .any⟩, ⟨false, .any⟩], [(.dat false 49)], [⟨0, 2, [⟨true, .any⟩, ⟨true, (.ptr 0 0)⟩, ⟨true, (.lit (.int .i64 0))⟩, ⟨true, .any⟩, ⟨true, .any⟩, ⟨true, .any⟩, ⟨true, .any⟩, ⟨true, .any⟩, ⟨true, .any⟩, ⟨true, .any⟩, ⟨true, .any⟩, ⟨true, .any⟩, ⟨true, .any⟩, ⟨true, .any⟩, ⟨true, .any⟩, ⟨true, .any⟩, ⟨true, .any⟩, ⟨true, .any⟩, ⟨true, .any⟩, ⟨true, .any⟩, ⟨true, .any⟩, ⟨true, .any⟩, ⟨true, .any⟩, ⟨true, .any⟩, ⟨true, .any⟩, ⟨true, .any⟩, ⟨true, .any⟩, ⟨true, .any⟩, ⟨true, .any⟩, ⟨true, .any⟩, ⟨true, .any⟩, ⟨true, .any⟩, ⟨true, .any⟩, ⟨true, .any⟩, ⟨true, .any⟩, ⟨true, .any⟩, ⟨true, .any⟩, ⟨true, .any⟩, ⟨true, .any⟩, ⟨true, .any⟩, ⟨true, .any⟩, ⟨true, .any⟩, ⟨true, .any⟩, ⟨true, .any⟩, ⟨true, .any⟩, ⟨true, .any⟩, ⟨true, .any⟩, ⟨true, .any⟩, ⟨true, .any⟩, ⟨true, .any⟩, ⟨true, .any⟩, ⟨true, .any⟩, ⟨true, .any⟩, ⟨true, .any⟩, ⟨true, .any⟩, ⟨true, .any⟩, ⟨true, .any⟩, ⟨true, .any⟩, ⟨true, .any⟩, ⟨true, .any⟩, ⟨true, .any⟩, ⟨true, .any⟩, ⟨true, .any⟩, ⟨true, .any⟩, ⟨true, .any⟩, ⟨true, .any⟩, ⟨true, .any⟩, ⟨true, .any⟩, ⟨true, .any⟩, ⟨true, .any⟩, ⟨true, .any⟩, ⟨true, .any⟩, ⟨true, .any⟩, ⟨true, .any⟩, ⟨true, .any⟩, ⟨true, .any⟩, ⟨true, .any⟩, ⟨true, .any⟩, ⟨true, .any⟩, ⟨true, .any⟩, ⟨true, .any⟩, ⟨true, .any⟩, ⟨true, .any⟩], [(.dat false 49)]⟩, ⟨1, 0, [⟨true, .any⟩, ⟨true, .any⟩, ⟨true, (.lit (.int .i64 18))⟩, ⟨true, .any⟩, ⟨true, .any⟩, ⟨true, .any⟩, ⟨true, .any⟩, ⟨true, .any⟩, ⟨true, .any⟩, ⟨true, .any⟩, ⟨true, .any⟩, ⟨true, .any⟩, ⟨true, .any⟩, ⟨true, .any⟩, ⟨true, .any⟩, ⟨true, .any⟩, ⟨true, .any⟩, ⟨true, .any⟩, ⟨true, .any⟩, ⟨true, .any⟩, ⟨true, .any⟩, ⟨true, .any⟩, ⟨true, .any⟩, ⟨true, .any⟩, ⟨true, .any⟩, ⟨true, .any⟩, ⟨true, .any⟩, ⟨true, .any⟩, ⟨true, .any⟩, ⟨true, .any⟩, ⟨true, .any⟩, ⟨true, .any⟩, ⟨true, .any⟩, ⟨true, .any⟩, ⟨true, .any⟩, ⟨true, .any⟩, ⟨true, .any⟩, ⟨true, .any⟩, ⟨true, .any⟩, ⟨true, .any⟩, ⟨true, .any⟩, ⟨true, .any⟩, ⟨true, .any⟩, ⟨true, .any⟩, ⟨true, .any⟩, ⟨true, .any⟩, ⟨true, .any⟩, ⟨true, .any⟩, ⟨true, .any⟩, ⟨true, .any⟩, ⟨true, .any⟩, ⟨true, .any⟩, ⟨true, .any⟩, ⟨true, .any⟩, ⟨true, .any⟩, ⟨true, .any⟩, ⟨true, .any⟩, ⟨true, .any⟩, ⟨true, .any⟩, ⟨true, .any⟩, ⟨true, .any⟩, ⟨true, .any⟩, ⟨true, .any⟩, ⟨true, .any⟩, ⟨true, .any⟩, ⟨true, .any⟩, ⟨true, .any⟩, ⟨true, .any⟩, ⟨true, .any⟩, ⟨true, .any⟩, ⟨true, .any⟩, ⟨true, .any⟩, ⟨true, .any⟩, ⟨true, .any⟩, ⟨true, .any⟩, ⟨true, .any⟩, ⟨true, .any⟩, ⟨true, .any⟩, ⟨true, .any⟩, ⟨true, .any⟩, ⟨true, .any⟩, ⟨true, .any⟩, ⟨true, .any⟩], [(.dat false 49)]⟩]⟩

noncomputable def st25_13 (p s : List D) : Option (Sum (List D) (List D)) := stepQ env tbl25_5 60 6 25 (loopC 25 13) S25_13 p s

theorem st25_13_eq (pd0 : D) (sn0 : Int) : st25_13  [pd0] [(D.int sn0)] =
    bif (qcmp BinOp.lss sn0 (qlen (qfld pd0 1))) then
      bif (qinb (qfld pd0 1) sn0) then
        bif (qsome (Proofs.Ytcengfpfphdacaa.q45 [(qget (qfld pd0 1) sn0), (D.int (qlen (qfld pd0 1)))])) then
          bif (qnot (qbool (qnth (Proofs.Ytcengfpfphdacaa.q45 [(qget (qfld pd0 1) sn0), (D.int (qlen (qfld pd0 1)))]) 0))) then
            some (Sum.inr [(D.int 1)])
          else
            some (Sum.inl [(D.int (qbin BinOp.add IntKind.i64 sn0 1))])
        else
          none
      else
        none
    else
      some (Sum.inr [(D.int 0)]) := by
  have h : st25_13  [pd0] [(D.int sn0)] =
    bif (qcmp BinOp.lss sn0 (qlen (qfld pd0 1))) then
      bif (qinb (qfld pd0 1) sn0) then
        bif (qsome (Proofs.Ytcengfpfphdacaa.q45 [(qget (qfld pd0 1) sn0), (D.int (qlen (qfld pd0 1)))])) then
          bif (qnot (qbool (qnth (Proofs.Ytcengfpfphdacaa.q45 [(qget (qfld pd0 1) sn0), (D.int (qlen (qfld pd0 1)))]) 0))) then
            bif (qeqD pd0 pd0) then
              some (Sum.inr [(D.int 1)])
            else
              none
          else
            bif (qeqD pd0 pd0) then
              some (Sum.inl [(D.int (qbin BinOp.add IntKind.i64 sn0 1))])
            else
              none
        else
          none
      else
        none
    else
      bif (qeqD pd0 pd0) then
        some (Sum.inr [(D.int 0)])
      else
        none := by kernel_rfl
  rw [h]; simp only [qeqD_self, qeqI_self, qeq_len, List.length_cons, List.length_nil, cond_true]

noncomputable def l25_13 : List D → List D → Option (List D) := veil fun p s => loW (st25_13  p) s

theorem l25_13_eq : l25_13  = fun p s => loW (st25_13  p) s := veil_eq _

noncomputable def tbl25_13 : Tb := Tb.addL tbl25_5 25 13 S25_13.n0 (mkLp S25_13 (l25_13 ))

theorem ok_tbl25_13 : TbOk env (tbl25_13 ) := addLoopQ ok_tbl25_5 25 13 (by kernel_rfl) _ (l25_13_eq )

def S25_21 : LoopS := ⟨0, [⟨false, .any⟩, ⟨false, (.ptr 0 0)⟩, ⟨false, (.lit (.int .i64 0))⟩, ⟨false, .any⟩, ⟨false, .any⟩, ⟨false, .any⟩, ⟨false, (.int .i64)⟩, ⟨true, (.int .i64)⟩, ⟨false, .any⟩, ⟨false, .any⟩, ⟨false, .any⟩, ⟨false, .any⟩, ⟨false, .any⟩, ⟨false, .any⟩, ⟨false, .any⟩, ⟨false, .any⟩, ⟨false, .any⟩, ⟨false, .any⟩, ⟨false, .any⟩, ⟨false, .any⟩, ⟨false, .any⟩, ⟨false, .any⟩, ⟨false, .any⟩, ⟨false, .any⟩, ⟨false, .any⟩, ⟨false, .any⟩, ⟨false, .any⟩, ⟨false, .any⟩, ⟨false, .any⟩, ⟨false, .any⟩, ⟨false, .any⟩, ⟨false, .any⟩, ⟨false, .any⟩, ⟨false, .any⟩, ⟨false, .any⟩, ⟨false, .any⟩, ⟨false, .any⟩, ⟨false, .any⟩, ⟨false, .any⟩, ⟨false, .any⟩, ⟨false, .any⟩, ⟨false, .any⟩, ⟨false, .any⟩, ⟨false, .any⟩, ⟨false, .any⟩, ⟨false, .any⟩, ⟨false, .any⟩, ⟨false, .any⟩, ⟨false, .any⟩, ⟨false, .any⟩, ⟨false, .any⟩, ⟨false, .any⟩, ⟨false, .any⟩, ⟨false, .any⟩, ⟨false, .any⟩, ⟨false, .any⟩, ⟨false, .any⟩, ⟨false, .any⟩, ⟨false, .any⟩, ⟨false, .any⟩, ⟨false, .any⟩, ⟨false, .any⟩, ⟨false, .any⟩, ⟨false, .any⟩, ⟨false, .any⟩, ⟨false, .any⟩, ⟨false, .any⟩, ⟨false, .any⟩, ⟨false, .any⟩, ⟨false, .any⟩, ⟨false, .any⟩, ⟨false, .any⟩, ⟨false, .any⟩, ⟨false, .any⟩, ⟨false, .any⟩, ⟨false, .any⟩, ⟨false, .any⟩, ⟨false, .any⟩, ⟨false, .any⟩, ⟨false, .any⟩, ⟨false, .any⟩, ⟨false, .any⟩, ⟨false, .any⟩], [(.dat false 49)], [⟨0, 6, [⟨true, .any⟩, ⟨true, (.ptr 0 0)⟩, ⟨true, (.lit (.int .i64 0))⟩, ⟨true, .any⟩, ⟨true, .any⟩, ⟨true, .any⟩, ⟨false, (.int .i64)⟩, ⟨true, .any⟩, ⟨true, .any⟩, ⟨true, .any⟩, ⟨true, .any⟩, ⟨true, .any⟩, ⟨true, .any⟩, ⟨true, .any⟩, ⟨true, .any⟩, ⟨true, .any⟩, ⟨true, .any⟩, ⟨true, .any⟩, ⟨true, .any⟩, ⟨true, .any⟩, ⟨true, .any⟩, ⟨true, .any⟩, ⟨true, .any⟩, ⟨true, .any⟩, ⟨true, .any⟩, ⟨true, .any⟩, ⟨true, .any⟩, ⟨true, .any⟩, ⟨true, .any⟩, ⟨true, .any⟩, ⟨true, .any⟩, ⟨true, .any⟩, ⟨true, .any⟩, ⟨true, .any⟩, ⟨true, .any⟩, ⟨true, .any⟩, ⟨true, .any⟩, ⟨true, .any⟩, ⟨true, .any⟩, ⟨true, .any⟩, ⟨true, .any⟩, ⟨true, .any⟩, ⟨true, .any⟩, ⟨true, .any⟩, ⟨true, .any⟩, ⟨true, .any⟩, ⟨true, .any⟩, ⟨true, .any⟩, ⟨true, .any⟩, ⟨true, .any⟩, ⟨true, .any⟩, ⟨true, .any⟩, ⟨true, .any⟩, ⟨true, .any⟩, ⟨true, .any⟩, ⟨true, .any⟩, ⟨true, .any⟩, ⟨true, .any⟩, ⟨true, .any⟩, ⟨true, .any⟩, ⟨true, .any⟩, ⟨true, .any⟩, ⟨true, .any⟩, ⟨true, .any⟩, ⟨true, .any⟩, ⟨true, .any⟩, ⟨true, .any⟩, ⟨true, .any⟩, ⟨true, .any⟩, ⟨true, .any⟩, ⟨true, .any⟩, ⟨true, .any⟩, ⟨true, .any⟩, ⟨true, .any⟩, ⟨true, .any⟩, ⟨true, .any⟩, ⟨true, .any⟩, ⟨true, .any⟩, ⟨true, .any⟩, ⟨true, .any⟩, ⟨true, .any⟩, ⟨true, .any⟩, ⟨true, .any⟩], [(.dat false 49)]⟩, ⟨1, 0, [⟨true, .any⟩, ⟨true, .any⟩, ⟨true, (.int .i64)⟩, ⟨true, .any⟩, ⟨true, .any⟩, ⟨true, .any⟩, ⟨false, (.int .i64)⟩, ⟨true, .any⟩, ⟨true, .any⟩, ⟨true, .any⟩, ⟨true, .any⟩, ⟨true, .any⟩, ⟨true, .any⟩, ⟨true, .any⟩, ⟨true, .any⟩, ⟨true, .any⟩, ⟨true, .any⟩, ⟨true, .any⟩, ⟨true, .any⟩, ⟨true, .any⟩, ⟨true, .any⟩, ⟨true, .any⟩, ⟨true, .any⟩, ⟨true, .any⟩, ⟨true, .any⟩, ⟨true, .any⟩, ⟨true, .any⟩, ⟨true, .any⟩, ⟨true, .any⟩, ⟨true, .any⟩, ⟨true, .any⟩, ⟨true, .any⟩, ⟨true, .any⟩, ⟨true, .any⟩, ⟨true, .any⟩, ⟨true, .any⟩, ⟨true, .any⟩, ⟨true, .any⟩, ⟨true, .any⟩, ⟨true, .any⟩, ⟨true, .any⟩, ⟨true, .any⟩, ⟨true, .any⟩, ⟨true, .any⟩, ⟨true, .any⟩, ⟨true, .any⟩, ⟨true, .any⟩, ⟨true, .any⟩, ⟨true, .any⟩, ⟨true, .any⟩, ⟨true, .any⟩, ⟨true, .any⟩, ⟨true, .any⟩, ⟨true, .any⟩, ⟨true, .any⟩, ⟨true, .any⟩, ⟨true, .any⟩, ⟨true, .any⟩, ⟨true, .any⟩, ⟨true, .any⟩, ⟨true, .any⟩, ⟨true, .any⟩, ⟨true, .any⟩, ⟨true, .any⟩, ⟨true, .any⟩, ⟨true, .any⟩, ⟨true, .any⟩, ⟨true, .any⟩, ⟨true, .any⟩, ⟨true, .any⟩, ⟨true, .any⟩, ⟨true, .any⟩, ⟨true, .any⟩, ⟨true, .any⟩, ⟨true, .any⟩, ⟨true, .any⟩, ⟨true, .any⟩, ⟨true, .any⟩, ⟨true, .any⟩, ⟨true, .any⟩, ⟨true, .any⟩, ⟨true, .any⟩, ⟨true, .any⟩], [(.dat false 49)]⟩]⟩

noncomputable def st25_21 (p s : List D) : Option (Sum (List D) (List D)) := stepQ env tbl25_13 60 6 25 (loopC 25 21) S25_21 p s

theorem st25_21_eq (pn0 : Int) (pd1 : D) (sn0 : Int) : st25_21  [(D.int pn0), pd1] [(D.int sn0)] =
    bif (qinb (qfld pd1 1) pn0) then
      bif (qcmp BinOp.lss sn0 (qlen (qfld (qget (qfld pd1 1) pn0) 1))) then
        bif (qinb (qfld pd1 1) pn0) then
          bif (qinb (qfld (qget (qfld pd1 1) pn0) 1) sn0) then
            bif (qsome (Proofs.Ytcengfpfphdacaa.q46 [(qget (qfld (qget (qfld pd1 1) pn0) 1) sn0)])) then
              bif (qcmp BinOp.neq (qint (qnth (Proofs.Ytcengfpfphdacaa.q46 [(qget (qfld (qget (qfld pd1 1) pn0) 1) sn0)]) 0)) 0) then
                some (Sum.inr [(D.int 1), (D.int (qint (qnth (Proofs.Ytcengfpfphdacaa.q46 [(qget (qfld (qget (qfld pd1 1) pn0) 1) sn0)]) 0)))])
              else
                some (Sum.inl [(D.int (qbin BinOp.add IntKind.i64 sn0 1))])
            else
              none
          else
            none
        else
          none
      else
        some (Sum.inr [(D.int 0)])
    else
      none := by
  have h : st25_21  [(D.int pn0), pd1] [(D.int sn0)] =
    bif (qinb (qfld pd1 1) pn0) then
      bif (qcmp BinOp.lss sn0 (qlen (qfld (qget (qfld pd1 1) pn0) 1))) then
        bif (qinb (qfld pd1 1) pn0) then
          bif (qinb (qfld (qget (qfld pd1 1) pn0) 1) sn0) then
            bif (qsome (Proofs.Ytcengfpfphdacaa.q46 [(qget (qfld (qget (qfld pd1 1) pn0) 1) sn0)])) then
              bif (qcmp BinOp.neq (qint (qnth (Proofs.Ytcengfpfphdacaa.q46 [(qget (qfld (qget (qfld pd1 1) pn0) 1) sn0)]) 0)) 0) then
                bif (qeqD (D.int pn0) (D.int pn0)) then
                  bif (qeqD pd1 pd1) then
                    some (Sum.inr [(D.int 1), (D.int (qint (qnth (Proofs.Ytcengfpfphdacaa.q46 [(qget (qfld (qget (qfld pd1 1) pn0) 1) sn0)]) 0)))])
                  else
                    none
                else
                  none
              else
                bif (qeqD (D.int pn0) (D.int pn0)) then
                  bif (qeqD pd1 pd1) then
                    some (Sum.inl [(D.int (qbin BinOp.add IntKind.i64 sn0 1))])
                  else
                    none
                else
                  none
            else
              none
          else
            none
        else
          none
      else
        bif (qeqD (D.int pn0) (D.int pn0)) then
          bif (qeqD pd1 pd1) then
            some (Sum.inr [(D.int 0)])
          else
            none
        else
          none
    else
      none := by kernel_rfl
  rw [h]; simp only [qeqD_self, qeqI_self, qeq_len, List.length_cons, List.length_nil, cond_true]

noncomputable def l25_21 : List D → List D → Option (List D) := veil fun p s => loW (st25_21  p) s

theorem l25_21_eq : l25_21  = fun p s => loW (st25_21  p) s := veil_eq _

noncomputable def tbl25_21 : Tb := Tb.addL tbl25_13 25 21 S25_21.n0 (mkLp S25_21 (l25_21 ))

theorem ok_tbl25_21 : TbOk env (tbl25_21 ) := addLoopQ ok_tbl25_13 25 21 (by kernel_rfl) _ (l25_21_eq )

def S25_18 : LoopS := ⟨0, [⟨false, .any⟩, ⟨false, (.ptr 0 0)⟩, ⟨false, (.lit (.int .i64 0))⟩, ⟨false, .any⟩, ⟨false, .any⟩, ⟨false, .any⟩, ⟨true, (.int .i64)⟩, ⟨false, .any⟩, ⟨false, .any⟩, ⟨false, .any⟩, ⟨false, .any⟩, ⟨false, .any⟩, ⟨false, .any⟩, ⟨false, .any⟩, ⟨false, .any⟩, ⟨false, .any⟩, ⟨false, .any⟩, ⟨false, .any⟩, ⟨false, .any⟩, ⟨false, .any⟩, ⟨false, .any⟩, ⟨false, .any⟩, ⟨false, .any⟩, ⟨false, .any⟩, ⟨false, .any⟩, ⟨false, .any⟩, ⟨false, .any⟩, ⟨false, .any⟩, ⟨false, .any⟩, ⟨false, .any⟩, ⟨false, .any⟩, ⟨false, .any⟩, ⟨false, .any⟩, ⟨false, .any⟩, ⟨false, .any⟩, ⟨false, .any⟩, ⟨false, .any⟩, ⟨false, .any⟩, ⟨false, .any⟩, ⟨false, .any⟩, ⟨false, .any⟩, ⟨false, .any⟩, ⟨false, .any⟩, ⟨false, .any⟩, ⟨false, .any⟩, ⟨false, .any⟩, ⟨false, .any⟩, ⟨false, .any⟩, ⟨false, .any⟩, ⟨false, .any⟩, ⟨false, .any⟩, ⟨false, .any⟩, ⟨false, .any⟩, ⟨false, .any⟩, ⟨false, .any⟩, ⟨false, .any⟩, ⟨false, .any⟩, ⟨false, .any⟩, ⟨false, .any⟩, ⟨false, .any⟩, ⟨false, .any⟩, ⟨false, .any⟩, ⟨false, .any⟩, ⟨false, .any⟩, ⟨false, .any⟩, ⟨false, .any⟩, ⟨false, .any⟩, ⟨false, .any⟩, ⟨false, .any⟩, ⟨false, .any⟩, ⟨false, .any⟩, ⟨false, .any⟩, ⟨false, .any⟩, ⟨false, .any⟩, ⟨false, .any⟩, ⟨false, .any⟩, ⟨false, .any⟩, ⟨false, .any⟩, ⟨false, .any⟩, ⟨false, .any⟩, ⟨false, .any⟩, ⟨false, .any⟩, ⟨false, .any⟩], [(.dat false 49)], [⟨0, 4, [⟨true, .any⟩, ⟨true, .any⟩, ⟨true, (.lit (.int .i64 0))⟩, ⟨true, .any⟩, ⟨true, .any⟩, ⟨true, .any⟩, ⟨true, .any⟩, ⟨true, .any⟩, ⟨true, .any⟩, ⟨true, .any⟩, ⟨true, .any⟩, ⟨true, .any⟩, ⟨true, .any⟩, ⟨true, .any⟩, ⟨true, .any⟩, ⟨true, .any⟩, ⟨true, .any⟩, ⟨true, .any⟩, ⟨true, .any⟩, ⟨true, .any⟩, ⟨true, .any⟩, ⟨true, .any⟩, ⟨true, .any⟩, ⟨true, .any⟩, ⟨true, .any⟩, ⟨true, .any⟩, ⟨true, .any⟩, ⟨true, .any⟩, ⟨true, .any⟩, ⟨true, .any⟩, ⟨true, .any⟩, ⟨true, .any⟩, ⟨true, .any⟩, ⟨true, .any⟩, ⟨true, .any⟩, ⟨true, .any⟩, ⟨true, .any⟩, ⟨true, .any⟩, ⟨true, .any⟩, ⟨true, .any⟩, ⟨true, .any⟩, ⟨true, .any⟩, ⟨true, .any⟩, ⟨true, .any⟩, ⟨true, .any⟩, ⟨true, .any⟩, ⟨true, .any⟩, ⟨true, .any⟩, ⟨true, .any⟩, ⟨true, .any⟩, ⟨true, .any⟩, ⟨true, .any⟩, ⟨true, .any⟩, ⟨true, .any⟩, ⟨true, .any⟩, ⟨true, .any⟩, ⟨true, .any⟩, ⟨true, .any⟩, ⟨true, .any⟩, ⟨true, .any⟩, ⟨true, .any⟩, ⟨true, .any⟩, ⟨true, .any⟩, ⟨true, .any⟩, ⟨true, .any⟩, ⟨true, .any⟩, ⟨true, .any⟩, ⟨true, .any⟩, ⟨true, .any⟩, ⟨true, .any⟩, ⟨true, .any⟩, ⟨true, .any⟩, ⟨true, .any⟩, ⟨true, .any⟩, ⟨true, .any⟩, ⟨true, .any⟩, ⟨true, .any⟩, ⟨true, .any⟩, ⟨true, .any⟩, ⟨true, .any⟩, ⟨true, .any⟩, ⟨true, .any⟩, ⟨true, .any⟩], [(.dat false 49)]⟩, ⟨1, 0, [⟨true, .any⟩, ⟨true, .any⟩, ⟨true, (.int .i64)⟩, ⟨true, .any⟩, ⟨true, .any⟩, ⟨true, .any⟩, ⟨true, .any⟩, ⟨true, .any⟩, ⟨true, .any⟩, ⟨true, .any⟩, ⟨true, .any⟩, ⟨true, .any⟩, ⟨true, .any⟩, ⟨true, .any⟩, ⟨true, .any⟩, ⟨true, .any⟩, ⟨true, .any⟩, ⟨true, .any⟩, ⟨true, .any⟩, ⟨true, .any⟩, ⟨true, .any⟩, ⟨true, .any⟩, ⟨true, .any⟩, ⟨true, .any⟩, ⟨true, .any⟩, ⟨true, .any⟩, ⟨true, .any⟩, ⟨true, .any⟩, ⟨true, .any⟩, ⟨true, .any⟩, ⟨true, .any⟩, ⟨true, .any⟩, ⟨true, .any⟩, ⟨true, .any⟩, ⟨true, .any⟩, ⟨true, .any⟩, ⟨true, .any⟩, ⟨true, .any⟩, ⟨true, .any⟩, ⟨true, .any⟩, ⟨true, .any⟩, ⟨true, .any⟩, ⟨true, .any⟩, ⟨true, .any⟩, ⟨true, .any⟩, ⟨true, .any⟩, ⟨true, .any⟩, ⟨true, .any⟩, ⟨true, .any⟩, ⟨true, .any⟩, ⟨true, .any⟩, ⟨true, .any⟩, ⟨true, .any⟩, ⟨true, .any⟩, ⟨true, .any⟩, ⟨true, .any⟩, ⟨true, .any⟩, ⟨true, .any⟩, ⟨true, .any⟩, ⟨true, .any⟩, ⟨true, .any⟩, ⟨true, .any⟩, ⟨true, .any⟩, ⟨true, .any⟩, ⟨true, .any⟩, ⟨true, .any⟩, ⟨true, .any⟩, ⟨true, .any⟩, ⟨true, .any⟩, ⟨true, .any⟩, ⟨true, .any⟩, ⟨true, .any⟩, ⟨true, .any⟩, ⟨true, .any⟩, ⟨true, .any⟩, ⟨true, .any⟩, ⟨true, .any⟩, ⟨true, .any⟩, ⟨true, .any⟩, ⟨true, .any⟩, ⟨true, .any⟩, ⟨true, .any⟩, ⟨true, .any⟩], [(.dat false 49)]⟩]⟩

noncomputable def st25_18 (p s : List D) : Option (Sum (List D) (List D)) := stepQ env tbl25_21 60 6 25 (loopC 25 18) S25_18 p s

theorem st25_18_eq (pd0 : D) (sn0 : Int) : st25_18  [pd0] [(D.int sn0)] =
    bif (qcmp BinOp.lss sn0 (qlen (qfld pd0 1))) then
      bif (qsome (Proofs.Ytcengfpfphdacaa.l25_21 [(D.int sn0), pd0] [(D.int 0)])) then
        bif (qcmp BinOp.eql (qint (qnth (Proofs.Ytcengfpfphdacaa.l25_21 [(D.int sn0), pd0] [(D.int 0)]) 0)) 0) then
          some (Sum.inl [(D.int (qbin BinOp.add IntKind.i64 sn0 1))])
        else
          some (Sum.inr [(D.int 1), (D.int (qint (qnth (Proofs.Ytcengfpfphdacaa.l25_21 [(D.int sn0), pd0] [(D.int 0)]) 1)))])
      else
        none
    else
      some (Sum.inr [(D.int 0)]) := by
  have h : st25_18  [pd0] [(D.int sn0)] =
    bif (qcmp BinOp.lss sn0 (qlen (qfld pd0 1))) then
      bif (qsome (Proofs.Ytcengfpfphdacaa.l25_21 [(D.int sn0), pd0] [(D.int 0)])) then
        bif (qcmp BinOp.eql (qint (qnth (Proofs.Ytcengfpfphdacaa.l25_21 [(D.int sn0), pd0] [(D.int 0)]) 0)) 0) then
          bif (qeqD pd0 pd0) then
            some (Sum.inl [(D.int (qbin BinOp.add IntKind.i64 sn0 1))])
          else
            none
        else
          bif (qeqD pd0 pd0) then
            some (Sum.inr [(D.int 1), (D.int (qint (qnth (Proofs.Ytcengfpfphdacaa.l25_21 [(D.int sn0), pd0] [(D.int 0)]) 1)))])
          else
            none
      else
        none
    else
      bif (qeqD pd0 pd0) then
        some (Sum.inr [(D.int 0)])
      else
        none := by kernel_rfl
  rw [h]; simp only [qeqD_self, qeqI_self, qeq_len, List.length_cons, List.length_nil, cond_true]

noncomputable def l25_18 : List D → List D → Option (List D) := veil fun p s => loW (st25_18  p) s

theorem l25_18_eq : l25_18  = fun p s => loW (st25_18  p) s := veil_eq _

noncomputable def tbl25_18 : Tb := Tb.addL tbl25_21 25 18 S25_18.n0 (mkLp S25_18 (l25_18 ))

theorem ok_tbl25_18 : TbOk env (tbl25_18 ) := addLoopQ ok_tbl25_21 25 18 (by kernel_rfl) _ (l25_18_eq )

def S25 : FunS := ⟨[⟨true, (.dat 49)⟩], [], [⟨true, (.int .i64)⟩], []⟩

noncomputable def F25 : List D → Option (List D) := liftF env tbl25_18 60 6 25 S25

theorem F25_eq  (sd0 : D) : F25  [sd0] =
    bif (qcmp BinOp.gtr (qlen (qfld sd0 1)) 256) then
      some [(D.int 6)]
    else
      bif (qsome (Proofs.Ytcengfpfphdacaa.l25_5 [sd0] [(D.int 0), (D.int 0)])) then
        bif (qcmp BinOp.gtr (qint (qnth (Proofs.Ytcengfpfphdacaa.l25_5 [sd0] [(D.int 0), (D.int 0)]) 1)) 1024) then
          some [(D.int 6)]
        else
          bif (qcmp BinOp.eql (qlen (qfld sd0 1)) 0) then
            some [(D.int 18)]
          else
            bif (qsome (Proofs.Ytcengfpfphdacaa.l25_13 [sd0] [(D.int 0)])) then
              bif (qcmp BinOp.eql (qint (qnth (Proofs.Ytcengfpfphdacaa.l25_13 [sd0] [(D.int 0)]) 0)) 0) then
                bif (qsome (Proofs.Ytcengfpfphdacaa.l25_18 [sd0] [(D.int 0)])) then
                  bif (qcmp BinOp.eql (qint (qnth (Proofs.Ytcengfpfphdacaa.l25_18 [sd0] [(D.int 0)]) 0)) 0) then
                    some [(D.int 0)]
                  else
                    some [(D.int (qint (qnth (Proofs.Ytcengfpfphdacaa.l25_18 [sd0] [(D.int 0)]) 1)))]
                else
                  none
              else
                some [(D.int 18)]
            else
              none
      else
        none := by kernel_rfl

noncomputable def q25 : List D → Option (List D) := veil (F25 )

theorem q25_eq : q25  = F25  := veil_eq _

noncomputable def tb25 : Tb := Tb.addF tbl25_18 25 S25 (q25 )

theorem ok_tb25 : TbOk env (tb25 ) := addFunF ok_tbl25_18 25 (by kernel_rfl) _ (q25_eq )

end Go.Proofs.Ytcengfpfphdacaa

open Go Go.AM
namespace Go.Proofs.Ytcengfpfphdacaa
set_option maxRecDepth 100000
/- function 34  -/

def S34 : FunS := ⟨[⟨true, (.dat 57)⟩, ⟨true, (.edat 57)⟩], [], [⟨true, .bool⟩], []⟩

noncomputable def F34 : List D → Option (List D) := liftF env tb25 60 6 34 S34

theorem F34_eq  (sd0 : D) (sd1 : D) : F34  [sd0, sd1] =
    some [(D.bool (qcmpS BinOp.eql (qstr (qfld sd0 0)) (qstr (qfld sd1 0))))] := by kernel_rfl

noncomputable def q34 : List D → Option (List D) := veil (F34 )

theorem q34_eq : q34  = F34  := veil_eq _

noncomputable def tb34 : Tb := Tb.addF tb25 34 S34 (q34 )

theorem ok_tb34 : TbOk env (tb34 ) := addFunF ok_tb25 34 (by kernel_rfl) _ (q34_eq )

/- function 60  -/

def S60_34_2 : LoopS := ⟨0, [⟨false, (.rows 57)⟩, ⟨false, (.func 34 [] [(.edat 57)])⟩, ⟨false, .any⟩, ⟨false, .any⟩, ⟨false, (.lit (.int .i64 0))⟩, ⟨false, .any⟩, ⟨false, .any⟩, ⟨false, (.int .i64)⟩, ⟨true, (.int .i64)⟩, ⟨false, .any⟩, ⟨false, .any⟩, ⟨false, .any⟩, ⟨false, .any⟩, ⟨false, .any⟩, ⟨false, .any⟩, ⟨false, .any⟩, ⟨false, .any⟩, ⟨false, .any⟩, ⟨false, .any⟩], [], [⟨0, 0, [⟨false, (.rows 57)⟩, ⟨false, (.func 34 [] [(.edat 57)])⟩, ⟨true, .any⟩, ⟨true, .any⟩, ⟨true, (.lit (.int .i64 0))⟩, ⟨true, .any⟩, ⟨true, .any⟩, ⟨false, (.int .i64)⟩, ⟨true, .any⟩, ⟨true, .any⟩, ⟨true, .any⟩, ⟨true, .any⟩, ⟨true, .any⟩, ⟨true, .any⟩, ⟨true, .any⟩, ⟨true, .any⟩, ⟨true, .any⟩, ⟨true, .any⟩, ⟨true, .any⟩], []⟩, ⟨1, 0, [⟨false, (.rows 57)⟩, ⟨false, (.func 34 [] [(.edat 57)])⟩, ⟨true, .any⟩, ⟨true, .any⟩, ⟨true, (.int .i64)⟩, ⟨true, .any⟩, ⟨true, .any⟩, ⟨false, (.int .i64)⟩, ⟨true, .any⟩, ⟨true, .any⟩, ⟨true, .any⟩, ⟨true, .any⟩, ⟨true, .any⟩, ⟨true, .any⟩, ⟨true, .any⟩, ⟨true, .any⟩, ⟨true, .any⟩, ⟨true, .any⟩, ⟨true, .any⟩], []⟩]⟩

noncomputable def st60_34_2 (p s : List D) : Option (Sum (List D) (List D)) := stepQ env tb34 60 6 60 (loopC 60 2) S60_34_2 p s

theorem st60_34_2_eq (pd0 : D) (pd1 : D) (pn2 : Int) (sn0 : Int) : st60_34_2  [pd0, pd1, (D.int pn2)] [(D.int sn0)] =
    bif (qcmp BinOp.lss sn0 pn2) then
      bif (qinb pd0 sn0) then
        bif (qsome (Proofs.Ytcengfpfphdacaa.q34 [(qget pd0 sn0), pd1])) then
          bif (qbool (qnth (Proofs.Ytcengfpfphdacaa.q34 [(qget pd0 sn0), pd1]) 0)) then
            some (Sum.inr [(D.int 1), (D.int sn0)])
          else
            some (Sum.inl [(D.int (qbin BinOp.add IntKind.i64 sn0 1))])
        else
          none
      else
        none
    else
      some (Sum.inr [(D.int 0)]) := by
  have h : st60_34_2  [pd0, pd1, (D.int pn2)] [(D.int sn0)] =
    bif (qcmp BinOp.lss sn0 pn2) then
      bif (qinb pd0 sn0) then
        bif (qsome (Proofs.Ytcengfpfphdacaa.q34 [(qget pd0 sn0), pd1])) then
          bif (qbool (qnth (Proofs.Ytcengfpfphdacaa.q34 [(qget pd0 sn0), pd1]) 0)) then
            bif (qeqD pd0 pd0) then
              bif (qeqD pd1 pd1) then
                bif (qeqD (D.int pn2) (D.int pn2)) then
                  some (Sum.inr [(D.int 1), (D.int sn0)])
                else
                  none
              else
                none
            else
              none
          else
            bif (qeqD pd0 pd0) then
              bif (qeqD pd1 pd1) then
                bif (qeqD (D.int pn2) (D.int pn2)) then
                  some (Sum.inl [(D.int (qbin BinOp.add IntKind.i64 sn0 1))])
                else
                  none
              else
                none
            else
              none
        else
          none
      else
        none
    else
      bif (qeqD pd0 pd0) then
        bif (qeqD pd1 pd1) then
          bif (qeqD (D.int pn2) (D.int pn2)) then
            some (Sum.inr [(D.int 0)])
          else
            none
        else
          none
      else
        none := by kernel_rfl
  rw [h]; simp only [qeqD_self, qeqI_self, qeq_len, List.length_cons, List.length_nil, cond_true]

noncomputable def l60_34_2 : List D → List D → Option (List D) := veil fun p s => loW (st60_34_2  p) s

theorem l60_34_2_eq : l60_34_2  = fun p s => loW (st60_34_2  p) s := veil_eq _

noncomputable def tbl60_34_2 : Tb := Tb.addL tb34 60 2 S60_34_2.n0 (mkLp S60_34_2 (l60_34_2 ))

theorem ok_tbl60_34_2 : TbOk env (tbl60_34_2 ) := addLoopQ ok_tb34 60 2 (by kernel_rfl) _ (l60_34_2_eq )

def S60_34 : FunS := ⟨[⟨true, (.rows 57)⟩, ⟨true, (.func 34 [] [(.edat 57)])⟩], [], [⟨true, (.int .i64)⟩], []⟩

noncomputable def F60_34 : List D → Option (List D) := liftF env tbl60_34_2 60 6 60 S60_34

theorem F60_34_eq  (sd0 : D) (sd1 : D) : F60_34  [sd0, sd1] =
    bif (qsome (Proofs.Ytcengfpfphdacaa.l60_34_2 [sd0, sd1, (D.int (qlen sd0))] [(D.int 0)])) then
      bif (qcmp BinOp.eql (qint (qnth (Proofs.Ytcengfpfphdacaa.l60_34_2 [sd0, sd1, (D.int (qlen sd0))] [(D.int 0)]) 0)) 0) then
        some [(D.int (-1))]
      else
        some [(D.int (qint (qnth (Proofs.Ytcengfpfphdacaa.l60_34_2 [sd0, sd1, (D.int (qlen sd0))] [(D.int 0)]) 1)))]
    else
      none := by kernel_rfl

noncomputable def q60_34 : List D → Option (List D) := veil (F60_34 )

theorem q60_34_eq : q60_34  = F60_34  := veil_eq _

noncomputable def tb60_34 : Tb := Tb.addF tbl60_34_2 60 S60_34 (q60_34 )

theorem ok_tb60_34 : TbOk env (tb60_34 ) := addFunF ok_tbl60_34_2 60 (by kernel_rfl) _ (q60_34_eq )

/- function 33  -/

def S33_34 : FunS := ⟨[⟨true, (.rows 57)⟩, ⟨true, (.func 34 [] [(.edat 57)])⟩], [], [⟨true, .bool⟩], []⟩

noncomputable def F33_34 : List D → Option (List D) := liftF env tb60_34 60 6 33 S33_34

theorem F33_34_eq  (sd0 : D) (sd1 : D) : F33_34  [sd0, sd1] =
    bif (qsome (Proofs.Ytcengfpfphdacaa.q60_34 [sd0, sd1])) then
      some [(D.bool (qcmp BinOp.geq (qint (qnth (Proofs.Ytcengfpfphdacaa.q60_34 [sd0, sd1]) 0)) 0))]
    else
      none := by kernel_rfl

noncomputable def q33_34 : List D → Option (List D) := veil (F33_34 )

theorem q33_34_eq : q33_34  = F33_34  := veil_eq _

noncomputable def tb33_34 : Tb := Tb.addF tb60_34 33 S33_34 (q33_34 )

theorem ok_tb33_34 : TbOk env (tb33_34 ) := addFunF ok_tb60_34 33 (by kernel_rfl) _ (q33_34_eq )

/- function 39  -/

def S39 : FunS := ⟨[⟨true, (.dat 57)⟩, ⟨true, (.edat 57)⟩], [], [⟨true, .bool⟩], []⟩

noncomputable def F39 : List D → Option (List D) := liftF env tb33_34 60 6 39 S39

theorem F39_eq  (sd0 : D) (sd1 : D) : F39  [sd0, sd1] =
    bif (qsome (Proofs.Ytcengfpfphdacaa.q37 [sd0])) then
      bif (qsome (Proofs.Ytcengfpfphdacaa.q37 [sd1])) then
        bif (qsome (Proofs.Ytcengfpfphdacaa.q36 [(qnth (Proofs.Ytcengfpfphdacaa.q37 [sd0]) 0), (qnth (Proofs.Ytcengfpfphdacaa.q37 [sd1]) 0)])) then
          some [(D.bool (qbool (qnth (Proofs.Ytcengfpfphdacaa.q36 [(qnth (Proofs.Ytcengfpfphdacaa.q37 [sd0]) 0), (qnth (Proofs.Ytcengfpfphdacaa.q37 [sd1]) 0)]) 0)))]
        else
          none
      else
        none
    else
      none := by kernel_rfl

noncomputable def q39 : List D → Option (List D) := veil (F39 )

theorem q39_eq : q39  = F39  := veil_eq _

noncomputable def tb39 : Tb := Tb.addF tb33_34 39 S39 (q39 )

theorem ok_tb39 : TbOk env (tb39 ) := addFunF ok_tb33_34 39 (by kernel_rfl) _ (q39_eq )

/- function 60  -/

def S60_39_2 : LoopS := ⟨0, [⟨false, (.rows 57)⟩, ⟨false, (.func 39 [] [(.edat 57)])⟩, ⟨false, .any⟩, ⟨false, .any⟩, ⟨false, (.lit (.int .i64 0))⟩, ⟨false, .any⟩, ⟨false, .any⟩, ⟨false, (.int .i64)⟩, ⟨true, (.int .i64)⟩, ⟨false, .any⟩, ⟨false, .any⟩, ⟨false, .any⟩, ⟨false, .any⟩, ⟨false, .any⟩, ⟨false, .any⟩, ⟨false, .any⟩, ⟨false, .any⟩, ⟨false, .any⟩, ⟨false, .any⟩], [], [⟨0, 0, [⟨false, (.rows 57)⟩, ⟨false, (.func 39 [] [(.edat 57)])⟩, ⟨true, .any⟩, ⟨true, .any⟩, ⟨true, (.lit (.int .i64 0))⟩, ⟨true, .any⟩, ⟨true, .any⟩, ⟨false, (.int .i64)⟩, ⟨true, .any⟩, ⟨true, .any⟩, ⟨true, .any⟩, ⟨true, .any⟩, ⟨true, .any⟩, ⟨true, .any⟩, ⟨true, .any⟩, ⟨true, .any⟩, ⟨true, .any⟩, ⟨true, .any⟩, ⟨true, .any⟩], []⟩, ⟨1, 0, [⟨false, (.rows 57)⟩, ⟨false, (.func 39 [] [(.edat 57)])⟩, ⟨true, .any⟩, ⟨true, .any⟩, ⟨true, (.int .i64)⟩, ⟨true, .any⟩, ⟨true, .any⟩, ⟨false, (.int .i64)⟩, ⟨true, .any⟩, ⟨true, .any⟩, ⟨true, .any⟩, ⟨true, .any⟩, ⟨true, .any⟩, ⟨true, .any⟩, ⟨true, .any⟩, ⟨true, .any⟩, ⟨true, .any⟩, ⟨true, .any⟩, ⟨true, .any⟩], []⟩]⟩

noncomputable def st60_39_2 (p s : List D) : Option (Sum (List D) (List D)) := stepQ env tb39 60 6 60 (loopC 60 2) S60_39_2 p s

theorem st60_39_2_eq (pd0 : D) (pd1 : D) (pn2 : Int) (sn0 : Int) : st60_39_2  [pd0, pd1, (D.int pn2)] [(D.int sn0)] =
    bif (qcmp BinOp.lss sn0 pn2) then
      bif (qinb pd0 sn0) then
        bif (qsome (Proofs.Ytcengfpfphdacaa.q39 [(qget pd0 sn0), pd1])) then
          bif (qbool (qnth (Proofs.Ytcengfpfphdacaa.q39 [(qget pd0 sn0), pd1]) 0)) then
            some (Sum.inr [(D.int 1), (D.int sn0)])
          else
            some (Sum.inl [(D.int (qbin BinOp.add IntKind.i64 sn0 1))])
        else
          none
      else
        none
    else
      some (Sum.inr [(D.int 0)]) := by
  have h : st60_39_2  [pd0, pd1, (D.int pn2)] [(D.int sn0)] =
    bif (qcmp BinOp.lss sn0 pn2) then
      bif (qinb pd0 sn0) then
        bif (qsome (Proofs.Ytcengfpfphdacaa.q39 [(qget pd0 sn0), pd1])) then
          bif (qbool (qnth (Proofs.Ytcengfpfphdacaa.q39 [(qget pd0 sn0), pd1]) 0)) then
            bif (qeqD pd0 pd0) then
              bif (qeqD pd1 pd1) then
                bif (qeqD (D.int pn2) (D.int pn2)) then
                  some (Sum.inr [(D.int 1), (D.int sn0)])
                else
                  none
              else
                none
            else
              none
          else
            bif (qeqD pd0 pd0) then
              bif (qeqD pd1 pd1) then
                bif (qeqD (D.int pn2) (D.int pn2)) then
                  some (Sum.inl [(D.int (qbin BinOp.add IntKind.i64 sn0 1))])
                else
                  none
              else
                none
            else
              none
        else
          none
      else
        none
    else
      bif (qeqD pd0 pd0) then
        bif (qeqD pd1 pd1) then
          bif (qeqD (D.int pn2) (D.int pn2)) then
            some (Sum.inr [(D.int 0)])
          else
            none
        else
          none
      else
        none := by kernel_rfl
  rw [h]; simp only [qeqD_self, qeqI_self, qeq_len, List.length_cons, List.length_nil, cond_true]

noncomputable def l60_39_2 : List D → List D → Option (List D) := veil fun p s => loW (st60_39_2  p) s

theorem l60_39_2_eq : l60_39_2  = fun p s => loW (st60_39_2  p) s := veil_eq _

noncomputable def tbl60_39_2 : Tb := Tb.addL tb39 60 2 S60_39_2.n0 (mkLp S60_39_2 (l60_39_2 ))

theorem ok_tbl60_39_2 : TbOk env (tbl60_39_2 ) := addLoopQ ok_tb39 60 2 (by kernel_rfl) _ (l60_39_2_eq )

def S60_39 : FunS := ⟨[⟨true, (.rows 57)⟩, ⟨true, (.func 39 [] [(.edat 57)])⟩], [], [⟨true, (.int .i64)⟩], []⟩

noncomputable def F60_39 : List D → Option (List D) := liftF env tbl60_39_2 60 6 60 S60_39

theorem F60_39_eq  (sd0 : D) (sd1 : D) : F60_39  [sd0, sd1] =
    bif (qsome (Proofs.Ytcengfpfphdacaa.l60_39_2 [sd0, sd1, (D.int (qlen sd0))] [(D.int 0)])) then
      bif (qcmp BinOp.eql (qint (qnth (Proofs.Ytcengfpfphdacaa.l60_39_2 [sd0, sd1, (D.int (qlen sd0))] [(D.int 0)]) 0)) 0) then
        some [(D.int (-1))]
      else
        some [(D.int (qint (qnth (Proofs.Ytcengfpfphdacaa.l60_39_2 [sd0, sd1, (D.int (qlen sd0))] [(D.int 0)]) 1)))]
    else
      none := by kernel_rfl

noncomputable def q60_39 : List D → Option (List D) := veil (F60_39 )

theorem q60_39_eq : q60_39  = F60_39  := veil_eq _

noncomputable def tb60_39 : Tb := Tb.addF tbl60_39_2 60 S60_39 (q60_39 )

theorem ok_tb60_39 : TbOk env (tb60_39 ) := addFunF ok_tbl60_39_2 60 (by kernel_rfl) _ (q60_39_eq )

/- function 33  -/

def S33_39 : FunS := ⟨[⟨true, (.rows 57)⟩, ⟨true, (.func 39 [] [(.edat 57)])⟩], [], [⟨true, .bool⟩], []⟩

noncomputable def F33_39 : List D → Option (List D) := liftF env tb60_39 60 6 33 S33_39

theorem F33_39_eq  (sd0 : D) (sd1 : D) : F33_39  [sd0, sd1] =
    bif (qsome (Proofs.Ytcengfpfphdacaa.q60_39 [sd0, sd1])) then
      some [(D.bool (qcmp BinOp.geq (qint (qnth (Proofs.Ytcengfpfphdacaa.q60_39 [sd0, sd1]) 0)) 0))]
    else
      none := by kernel_rfl

noncomputable def q33_39 : List D → Option (List D) := veil (F33_39 )

theorem q33_39_eq : q33_39  = F33_39  := veil_eq _

noncomputable def tb33_39 : Tb := Tb.addF tb60_39 33 S33_39 (q33_39 )

theorem ok_tb33_39 : TbOk env (tb33_39 ) := addFunF ok_tb60_39 33 (by kernel_rfl) _ (q33_39_eq )

end Go.Proofs.Ytcengfpfphdacaa

open Go Go.AM
namespace Go.Proofs.Ytcengfpfphdacaa
set_option maxRecDepth 100000
/- function 35  -/

def S35_2 : LoopS := ⟨0, [⟨false, .str⟩, ⟨false, .any⟩, ⟨false, (.lit (.bool false))⟩, ⟨false, .any⟩, ⟨false, .any⟩, ⟨false, .any⟩, ⟨false, (.rows 5)⟩, ⟨false, (.int .i64)⟩, ⟨true, (.int .i64)⟩, ⟨false, .any⟩, ⟨false, .any⟩, ⟨false, .any⟩, ⟨false, .any⟩, ⟨false, .any⟩, ⟨false, .any⟩, ⟨false, .any⟩, ⟨false, .any⟩, ⟨false, .any⟩, ⟨false, .any⟩, ⟨false, .any⟩, ⟨false, .any⟩, ⟨false, .any⟩, ⟨false, .any⟩, ⟨false, .any⟩, ⟨false, .any⟩, ⟨false, .any⟩, ⟨false, .any⟩, ⟨false, .any⟩, ⟨false, .any⟩, ⟨false, .any⟩, ⟨false, .any⟩, ⟨false, .any⟩, ⟨false, .any⟩, ⟨false, .any⟩, ⟨false, .any⟩, ⟨false, .any⟩, ⟨false, .any⟩, ⟨false, .any⟩, ⟨false, .any⟩, ⟨false, .any⟩, ⟨false, .any⟩, ⟨false, .any⟩, ⟨false, .any⟩, ⟨false, .any⟩, ⟨false, .any⟩, ⟨false, .any⟩, ⟨false, .any⟩, ⟨false, .any⟩, ⟨false, .any⟩, ⟨false, .any⟩, ⟨false, .any⟩], [], [⟨0, 0, [⟨false, .str⟩, ⟨true, .any⟩, ⟨true, (.lit (.bool false))⟩, ⟨true, .any⟩, ⟨true, .any⟩, ⟨true, .any⟩, ⟨false, (.rows 5)⟩, ⟨false, (.int .i64)⟩, ⟨true, .any⟩, ⟨true, .any⟩, ⟨true, .any⟩, ⟨true, .any⟩, ⟨true, .any⟩, ⟨true, .any⟩, ⟨true, .any⟩, ⟨true, .any⟩, ⟨true, .any⟩, ⟨true, .any⟩, ⟨true, .any⟩, ⟨true, .any⟩, ⟨true, .any⟩, ⟨true, .any⟩, ⟨true, .any⟩, ⟨true, .any⟩, ⟨true, .any⟩, ⟨true, .any⟩, ⟨true, .any⟩, ⟨true, .any⟩, ⟨true, .any⟩, ⟨true, .any⟩, ⟨true, .any⟩, ⟨true, .any⟩, ⟨true, .any⟩, ⟨true, .any⟩, ⟨true, .any⟩, ⟨true, .any⟩, ⟨true, .any⟩, ⟨true, .any⟩, ⟨true, .any⟩, ⟨true, .any⟩, ⟨true, .any⟩, ⟨true, .any⟩, ⟨true, .any⟩, ⟨true, .any⟩, ⟨true, .any⟩, ⟨true, .any⟩, ⟨true, .any⟩, ⟨true, .any⟩, ⟨true, .any⟩, ⟨true, .any⟩, ⟨true, .any⟩], []⟩, ⟨1, 0, [⟨false, .str⟩, ⟨true, .any⟩, ⟨true, (.lit (.bool false))⟩, ⟨true, .any⟩, ⟨true, .any⟩, ⟨true, .any⟩, ⟨false, (.rows 5)⟩, ⟨false, (.int .i64)⟩, ⟨true, .any⟩, ⟨true, .any⟩, ⟨true, .any⟩, ⟨true, .any⟩, ⟨true, .any⟩, ⟨true, .any⟩, ⟨true, .any⟩, ⟨true, .any⟩, ⟨true, .any⟩, ⟨true, .any⟩, ⟨true, .any⟩, ⟨true, .any⟩, ⟨true, .any⟩, ⟨true, .any⟩, ⟨true, .any⟩, ⟨true, .any⟩, ⟨true, .any⟩, ⟨true, .any⟩, ⟨true, .any⟩, ⟨true, .any⟩, ⟨true, .any⟩, ⟨true, .any⟩, ⟨true, .any⟩, ⟨true, .any⟩, ⟨true, .any⟩, ⟨true, .any⟩, ⟨true, .any⟩, ⟨true, .any⟩, ⟨true, .any⟩, ⟨true, .any⟩, ⟨true, .any⟩, ⟨true, .any⟩, ⟨true, .any⟩, ⟨true, .any⟩, ⟨true, .any⟩, ⟨true, .any⟩, ⟨true, .any⟩, ⟨true, .any⟩, ⟨true, .any⟩, ⟨true, .any⟩, ⟨true, .any⟩, ⟨true, .any⟩, ⟨true, .any⟩], []⟩]⟩

noncomputable def st35_2 (p s : List D) : Option (Sum (List D) (List D)) := stepQ env tb33_39 60 6 35 (loopC 35 2) S35_2 p s

theorem st35_2_eq (ps0 : ByteArray) (pd1 : D) (pn2 : Int) (sn0 : Int) : st35_2  [(D.str ps0), pd1, (D.int pn2)] [(D.int sn0)] =
    bif (qcmp BinOp.lss sn0 pn2) then
      bif (qinb pd1 sn0) then
        bif (qiteB (qiteB (qiteB (qiteB (qiteB (qcmp BinOp.lss (qint (qget pd1 sn0)) 97) Bool.true (qcmp BinOp.gtr (qint (qget pd1 sn0)) 122)) (qiteB (qcmp BinOp.lss (qint (qget pd1 sn0)) 65) Bool.true (qcmp BinOp.gtr (qint (qget pd1 sn0)) 90)) Bool.false) (qiteB (qcmp BinOp.lss (qint (qget pd1 sn0)) 48) Bool.true (qcmp BinOp.gtr (qint (qget pd1 sn0)) 57)) Bool.false) (qcmp BinOp.neq (qint (qget pd1 sn0)) 95) Bool.false) (qcmp BinOp.neq (qint (qget pd1 sn0)) 46) Bool.false) then
          some (Sum.inr [(D.int 1)])
        else
          some (Sum.inl [(D.int (qbin BinOp.add IntKind.i64 sn0 1))])
      else
        none
    else
      some (Sum.inr [(D.int 0)]) := by
  have h : st35_2  [(D.str ps0), pd1, (D.int pn2)] [(D.int sn0)] =
    bif (qcmp BinOp.lss sn0 pn2) then
      bif (qinb pd1 sn0) then
        bif (qiteB (qiteB (qiteB (qiteB (qiteB (qcmp BinOp.lss (qint (qget pd1 sn0)) 97) Bool.true (qcmp BinOp.gtr (qint (qget pd1 sn0)) 122)) (qiteB (qcmp BinOp.lss (qint (qget pd1 sn0)) 65) Bool.true (qcmp BinOp.gtr (qint (qget pd1 sn0)) 90)) Bool.false) (qiteB (qcmp BinOp.lss (qint (qget pd1 sn0)) 48) Bool.true (qcmp BinOp.gtr (qint (qget pd1 sn0)) 57)) Bool.false) (qcmp BinOp.neq (qint (qget pd1 sn0)) 95) Bool.false) (qcmp BinOp.neq (qint (qget pd1 sn0)) 46) Bool.false) then
          bif (qeqD (D.str ps0) (D.str ps0)) then
            bif (qeqD pd1 pd1) then
              bif (qeqD (D.int pn2) (D.int pn2)) then
                some (Sum.inr [(D.int 1)])
              else
                none
            else
              none
          else
            none
        else
          bif (qeqD (D.str ps0) (D.str ps0)) then
            bif (qeqD pd1 pd1) then
              bif (qeqD (D.int pn2) (D.int pn2)) then
                some (Sum.inl [(D.int (qbin BinOp.add IntKind.i64 sn0 1))])
              else
                none
            else
              none
          else
            none
      else
        none
    else
      bif (qeqD (D.str ps0) (D.str ps0)) then
        bif (qeqD pd1 pd1) then
          bif (qeqD (D.int pn2) (D.int pn2)) then
            some (Sum.inr [(D.int 0)])
          else
            none
        else
          none
      else
        none := by kernel_rfl
  rw [h]; simp only [qeqD_self, qeqI_self, qeq_len, List.length_cons, List.length_nil, cond_true]

noncomputable def l35_2 : List D → List D → Option (List D) := veil fun p s => loW (st35_2  p) s

theorem l35_2_eq : l35_2  = fun p s => loW (st35_2  p) s := veil_eq _

noncomputable def tbl35_2 : Tb := Tb.addL tb33_39 35 2 S35_2.n0 (mkLp S35_2 (l35_2 ))

theorem ok_tbl35_2 : TbOk env (tbl35_2 ) := addLoopQ ok_tb33_39 35 2 (by kernel_rfl) _ (l35_2_eq )

def S35 : FunS := ⟨[⟨true, .str⟩], [], [⟨true, .bool⟩], []⟩

noncomputable def F35 : List D → Option (List D) := liftF env tbl35_2 60 6 35 S35

theorem F35_eq  (ss0 : ByteArray) : F35  [(D.str ss0)] =
    bif (qsome (Proofs.Ytcengfpfphdacaa.l35_2 [(D.str ss0), (qbytes ss0), (D.int (qlen (qbytes ss0)))] [(D.int 0)])) then
      bif (qcmp BinOp.eql (qint (qnth (Proofs.Ytcengfpfphdacaa.l35_2 [(D.str ss0), (qbytes ss0), (D.int (qlen (qbytes ss0)))] [(D.int 0)]) 0)) 0) then
        some [(D.bool (qiteB (qcmp BinOp.geq (qlenS ss0) 1) (qcmp BinOp.leq (qlenS ss0) 32) Bool.false))]
      else
        some [(D.bool Bool.false)]
    else
      none := by kernel_rfl

noncomputable def q35 : List D → Option (List D) := veil (F35 )

theorem q35_eq : q35  = F35  := veil_eq _

noncomputable def tb35 : Tb := Tb.addF tbl35_2 35 S35 (q35 )

theorem ok_tb35 : TbOk env (tb35 ) := addFunF ok_tbl35_2 35 (by kernel_rfl) _ (q35_eq )

/- function 19  -/

def S19_4 : LoopS := ⟨0, [⟨false, (.rows 57)⟩, ⟨false, .any⟩, ⟨false, (.lit (.int .i64 0))⟩, ⟨false, .any⟩, ⟨false, .any⟩, ⟨false, .any⟩, ⟨false, .any⟩, ⟨false, .any⟩, ⟨false, .any⟩, ⟨false, .any⟩, ⟨false, .any⟩, ⟨false, (.rows 57)⟩, ⟨false, (.int .i64)⟩, ⟨true, (.int .i64)⟩, ⟨false, .any⟩, ⟨false, .any⟩, ⟨false, .any⟩, ⟨false, .any⟩, ⟨false, .any⟩, ⟨false, .any⟩, ⟨false, .any⟩, ⟨false, .any⟩, ⟨false, .any⟩, ⟨false, .any⟩, ⟨false, .any⟩, ⟨false, .any⟩, ⟨false, .any⟩, ⟨false, .any⟩, ⟨false, .any⟩, ⟨false, .any⟩, ⟨false, .any⟩, ⟨false, .any⟩, ⟨false, .any⟩, ⟨false, .any⟩, ⟨false, .any⟩, ⟨false, .any⟩, ⟨false, .any⟩, ⟨false, .any⟩, ⟨false, .any⟩, ⟨false, .any⟩, ⟨false, .any⟩, ⟨false, .any⟩, ⟨false, .any⟩, ⟨false, .any⟩, ⟨false, .any⟩, ⟨false, .any⟩, ⟨false, .any⟩, ⟨false, .any⟩, ⟨false, .any⟩, ⟨false, .any⟩, ⟨false, .any⟩, ⟨false, .any⟩, ⟨false, .any⟩, ⟨false, .any⟩, ⟨false, .any⟩, ⟨false, .any⟩, ⟨false, .any⟩, ⟨false, .any⟩, ⟨false, .any⟩, ⟨false, .any⟩, ⟨false, .any⟩, ⟨false, .any⟩, ⟨false, .any⟩, ⟨false, .any⟩, ⟨false, .any⟩], [], [⟨0, 0, [⟨false, (.rows 57)⟩, ⟨true, .any⟩, ⟨true, (.lit (.int .i64 0))⟩, ⟨true, .any⟩, ⟨true, .any⟩, ⟨true, .any⟩, ⟨true, .any⟩, ⟨true, .any⟩, ⟨true, .any⟩, ⟨true, .any⟩, ⟨true, .any⟩, ⟨false, (.rows 57)⟩, ⟨false, (.int .i64)⟩, ⟨true, .any⟩, ⟨true, .any⟩, ⟨true, .any⟩, ⟨true, .any⟩, ⟨true, .any⟩, ⟨true, .any⟩, ⟨true, .any⟩, ⟨true, .any⟩, ⟨true, .any⟩, ⟨true, .any⟩, ⟨true, .any⟩, ⟨true, .any⟩, ⟨true, .any⟩, ⟨true, .any⟩, ⟨true, .any⟩, ⟨true, .any⟩, ⟨true, .any⟩, ⟨true, .any⟩, ⟨true, .any⟩, ⟨true, .any⟩, ⟨true, .any⟩, ⟨true, .any⟩, ⟨true, .any⟩, ⟨true, .any⟩, ⟨true, .any⟩, ⟨true, .any⟩, ⟨true, .any⟩, ⟨true, .any⟩, ⟨true, .any⟩, ⟨true, .any⟩, ⟨true, .any⟩, ⟨true, .any⟩, ⟨true, .any⟩, ⟨true, .any⟩, ⟨true, .any⟩, ⟨true, .any⟩, ⟨true, .any⟩, ⟨true, .any⟩, ⟨true, .any⟩, ⟨true, .any⟩, ⟨true, .any⟩, ⟨true, .any⟩, ⟨true, .any⟩, ⟨true, .any⟩, ⟨true, .any⟩, ⟨true, .any⟩, ⟨true, .any⟩, ⟨true, .any⟩, ⟨true, .any⟩, ⟨true, .any⟩, ⟨true, .any⟩, ⟨true, .any⟩], []⟩, ⟨1, 0, [⟨false, (.rows 57)⟩, ⟨true, .any⟩, ⟨true, (.int .i64)⟩, ⟨true, .any⟩, ⟨true, .any⟩, ⟨true, .any⟩, ⟨true, .any⟩, ⟨true, .any⟩, ⟨true, .any⟩, ⟨true, .any⟩, ⟨true, .any⟩, ⟨false, (.rows 57)⟩, ⟨false, (.int .i64)⟩, ⟨true, .any⟩, ⟨true, .any⟩, ⟨true, .any⟩, ⟨true, .any⟩, ⟨true, .any⟩, ⟨true, .any⟩, ⟨true, .any⟩, ⟨true, .any⟩, ⟨true, .any⟩, ⟨true, .any⟩, ⟨true, .any⟩, ⟨true, .any⟩, ⟨true, .any⟩, ⟨true, .any⟩, ⟨true, .any⟩, ⟨true, .any⟩, ⟨true, .any⟩, ⟨true, .any⟩, ⟨true, .any⟩, ⟨true, .any⟩, ⟨true, .any⟩, ⟨true, .any⟩, ⟨true, .any⟩, ⟨true, .any⟩, ⟨true, .any⟩, ⟨true, .any⟩, ⟨true, .any⟩, ⟨true, .any⟩, ⟨true, .any⟩, ⟨true, .any⟩, ⟨true, .any⟩, ⟨true, .any⟩, ⟨true, .any⟩, ⟨true, .any⟩, ⟨true, .any⟩, ⟨true, .any⟩, ⟨true, .any⟩, ⟨true, .any⟩, ⟨true, .any⟩, ⟨true, .any⟩, ⟨true, .any⟩, ⟨true, .any⟩, ⟨true, .any⟩, ⟨true, .any⟩, ⟨true, .any⟩, ⟨true, .any⟩, ⟨true, .any⟩, ⟨true, .any⟩, ⟨true, .any⟩, ⟨true, .any⟩, ⟨true, .any⟩, ⟨true, .any⟩], []⟩]⟩

noncomputable def st19_4 (p s : List D) : Option (Sum (List D) (List D)) := stepQ env tb35 60 6 19 (loopC 19 4) S19_4 p s

theorem st19_4_eq (pd0 : D) (pd1 : D) (pn2 : Int) (sn0 : Int) : st19_4  [pd0, pd1, (D.int pn2)] [(D.int sn0)] =
    bif (qcmp BinOp.lss sn0 pn2) then
      bif (qinb pd1 sn0) then
        bif (qcmp BinOp.leq 0 0) then
          bif (qcmp BinOp.leq 0 sn0) then
            bif (qcmp BinOp.leq sn0 (qlen pd0)) then
              bif (qsome (Proofs.Ytcengfpfphdacaa.q33_34 [(qsub pd0 0 sn0), (qget pd1 sn0)])) then
                bif (qcmp BinOp.gtr (qlen (qfld (qget pd1 sn0) 2)) 65536) then
                  some (Sum.inr [(D.int 1), (D.int 6)])
                else
                  bif (qsome (Proofs.Ytcengfpfphdacaa.q35 [(D.str (qstr (qfld (qget pd1 sn0) 0)))])) then
                    bif (qnot (qbool (qnth (Proofs.Ytcengfpfphdacaa.q35 [(D.str (qstr (qfld (qget pd1 sn0) 0)))]) 0))) then
                      some (Sum.inr [(D.int 1), (D.int 3)])
                    else
                      bif (qbool (qnth (Proofs.Ytcengfpfphdacaa.q33_34 [(qsub pd0 0 sn0), (qget pd1 sn0)]) 0)) then
                        some (Sum.inr [(D.int 1), (D.int 8)])
                      else
                        bif (qiteB (qcmp BinOp.gtr (qbin BinOp.add IntKind.u64 (qwrap IntKind.u64 (qint (qfld (qget pd1 sn0) 1))) (qwrap IntKind.u64 (qlen (qfld (qget pd1 sn0) 2)))) 4294967295) Bool.true (qand (qsome (Proofs.Ytcengfpfphdacaa.q37 [(qget pd1 sn0)])) (qsome (Proofs.Ytcengfpfphdacaa.q36 [(qnth (Proofs.Ytcengfpfphdacaa.q37 [(qget pd1 sn0)]) 0), (D.agg [(D.int 978944), (D.int 983040)])])))) then
                          bif (qiteB (qcmp BinOp.gtr (qbin BinOp.add IntKind.u64 (qwrap IntKind.u64 (qint (qfld (qget pd1 sn0) 1))) (qwrap IntKind.u64 (qlen (qfld (qget pd1 sn0) 2)))) 4294967295) Bool.true (qbool (qnth (Proofs.Ytcengfpfphdacaa.q36 [(qnth (Proofs.Ytcengfpfphdacaa.q37 [(qget pd1 sn0)]) 0), (D.agg [(D.int 978944), (D.int 983040)])]) 0))) then
                            some (Sum.inr [(D.int 1), (D.int 7)])
                          else
                            some (Sum.inl [(D.int (qbin BinOp.add IntKind.i64 sn0 1))])
                        else
                          none
                  else
                    none
              else
                none
            else
              none
          else
            none
        else
          none
      else
        none
    else
      some (Sum.inr [(D.int 0)]) := by
  have h : st19_4  [pd0, pd1, (D.int pn2)] [(D.int sn0)] =
    bif (qcmp BinOp.lss sn0 pn2) then
      bif (qinb pd1 sn0) then
        bif (qcmp BinOp.leq 0 0) then
          bif (qcmp BinOp.leq 0 sn0) then
            bif (qcmp BinOp.leq sn0 (qlen pd0)) then
              bif (qsome (Proofs.Ytcengfpfphdacaa.q33_34 [(qsub pd0 0 sn0), (qget pd1 sn0)])) then
                bif (qcmp BinOp.gtr (qlen (qfld (qget pd1 sn0) 2)) 65536) then
                  bif (qeqD pd0 pd0) then
                    bif (qeqD pd1 pd1) then
                      bif (qeqD (D.int pn2) (D.int pn2)) then
                        some (Sum.inr [(D.int 1), (D.int 6)])
                      else
                        none
                    else
                      none
                  else
                    none
                else
                  bif (qsome (Proofs.Ytcengfpfphdacaa.q35 [(D.str (qstr (qfld (qget pd1 sn0) 0)))])) then
                    bif (qnot (qbool (qnth (Proofs.Ytcengfpfphdacaa.q35 [(D.str (qstr (qfld (qget pd1 sn0) 0)))]) 0))) then
                      bif (qeqD pd0 pd0) then
                        bif (qeqD pd1 pd1) then
                          bif (qeqD (D.int pn2) (D.int pn2)) then
                            some (Sum.inr [(D.int 1), (D.int 3)])
                          else
                            none
                        else
                          none
                      else
                        none
                    else
                      bif (qbool (qnth (Proofs.Ytcengfpfphdacaa.q33_34 [(qsub pd0 0 sn0), (qget pd1 sn0)]) 0)) then
                        bif (qeqD pd0 pd0) then
                          bif (qeqD pd1 pd1) then
                            bif (qeqD (D.int pn2) (D.int pn2)) then
                              some (Sum.inr [(D.int 1), (D.int 8)])
                            else
                              none
                          else
                            none
                        else
                          none
                      else
                        bif (qiteB (qcmp BinOp.gtr (qbin BinOp.add IntKind.u64 (qwrap IntKind.u64 (qint (qfld (qget pd1 sn0) 1))) (qwrap IntKind.u64 (qlen (qfld (qget pd1 sn0) 2)))) 4294967295) Bool.true (qand (qsome (Proofs.Ytcengfpfphdacaa.q37 [(qget pd1 sn0)])) (qsome (Proofs.Ytcengfpfphdacaa.q36 [(qnth (Proofs.Ytcengfpfphdacaa.q37 [(qget pd1 sn0)]) 0), (D.agg [(D.int 978944), (D.int 983040)])])))) then
                          bif (qiteB (qcmp BinOp.gtr (qbin BinOp.add IntKind.u64 (qwrap IntKind.u64 (qint (qfld (qget pd1 sn0) 1))) (qwrap IntKind.u64 (qlen (qfld (qget pd1 sn0) 2)))) 4294967295) Bool.true (qbool (qnth (Proofs.Ytcengfpfphdacaa.q36 [(qnth (Proofs.Ytcengfpfphdacaa.q37 [(qget pd1 sn0)]) 0), (D.agg [(D.int 978944), (D.int 983040)])]) 0))) then
                            bif (qeqD pd0 pd0) then
                              bif (qeqD pd1 pd1) then
                                bif (qeqD (D.int pn2) (D.int pn2)) then
                                  some (Sum.inr [(D.int 1), (D.int 7)])
                                else
                                  none
                              else
                                none
                            else
                              none
                          else
                            bif (qeqD pd0 pd0) then
                              bif (qeqD pd1 pd1) then
                                bif (qeqD (D.int pn2) (D.int pn2)) then
                                  some (Sum.inl [(D.int (qbin BinOp.add IntKind.i64 sn0 1))])
                                else
                                  none
                              else
                                none
                            else
                              none
                        else
                          none
                  else
                    none
              else
                none
            else
              none
          else
            none
        else
          none
      else
        none
    else
      bif (qeqD pd0 pd0) then
        bif (qeqD pd1 pd1) then
          bif (qeqD (D.int pn2) (D.int pn2)) then
            some (Sum.inr [(D.int 0)])
          else
            none
        else
          none
      else
        none := by kernel_rfl
  rw [h]; simp only [qeqD_self, qeqI_self, qeq_len, List.length_cons, List.length_nil, cond_true]

noncomputable def l19_4 : List D → List D → Option (List D) := veil fun p s => loW (st19_4  p) s

theorem l19_4_eq : l19_4  = fun p s => loW (st19_4  p) s := veil_eq _

noncomputable def tbl19_4 : Tb := Tb.addL tb35 19 4 S19_4.n0 (mkLp S19_4 (l19_4 ))

theorem ok_tbl19_4 : TbOk env (tbl19_4 ) := addLoopQ ok_tb35 19 4 (by kernel_rfl) _ (l19_4_eq )

def S19_17 : LoopS := ⟨0, [⟨false, (.rows 57)⟩, ⟨false, .any⟩, ⟨false, (.lit (.int .i64 0))⟩, ⟨false, .any⟩, ⟨false, .any⟩, ⟨false, .any⟩, ⟨false, .any⟩, ⟨false, .any⟩, ⟨false, .any⟩, ⟨false, .any⟩, ⟨false, .any⟩, ⟨false, .any⟩, ⟨false, .any⟩, ⟨false, .any⟩, ⟨false, .any⟩, ⟨false, .any⟩, ⟨false, .any⟩, ⟨false, .any⟩, ⟨false, .any⟩, ⟨false, .any⟩, ⟨false, .any⟩, ⟨false, .any⟩, ⟨false, .any⟩, ⟨false, .any⟩, ⟨false, .any⟩, ⟨false, .any⟩, ⟨false, .any⟩, ⟨false, .any⟩, ⟨false, .any⟩, ⟨false, .any⟩, ⟨false, .any⟩, ⟨false, .any⟩, ⟨false, .any⟩, ⟨false, .any⟩, ⟨false, .any⟩, ⟨false, .any⟩, ⟨false, .any⟩, ⟨false, .any⟩, ⟨false, .any⟩, ⟨false, .any⟩, ⟨false, .any⟩, ⟨false, .any⟩, ⟨false, .any⟩, ⟨false, .any⟩, ⟨false, .any⟩, ⟨false, .any⟩, ⟨false, .any⟩, ⟨false, .any⟩, ⟨false, .any⟩, ⟨false, .any⟩, ⟨false, .any⟩, ⟨false, .any⟩, ⟨false, (.rows 57)⟩, ⟨false, (.int .i64)⟩, ⟨true, (.int .i64)⟩, ⟨false, .any⟩, ⟨false, .any⟩, ⟨false, .any⟩, ⟨false, .any⟩, ⟨false, .any⟩, ⟨false, .any⟩, ⟨false, .any⟩, ⟨false, .any⟩, ⟨false, .any⟩, ⟨false, .any⟩], [], [⟨0, 3, [⟨false, (.rows 57)⟩, ⟨true, .any⟩, ⟨true, (.lit (.int .i64 0))⟩, ⟨true, .any⟩, ⟨true, .any⟩, ⟨true, .any⟩, ⟨true, .any⟩, ⟨true, .any⟩, ⟨true, .any⟩, ⟨true, .any⟩, ⟨true, .any⟩, ⟨true, .any⟩, ⟨true, .any⟩, ⟨true, .any⟩, ⟨true, .any⟩, ⟨true, .any⟩, ⟨true, .any⟩, ⟨true, .any⟩, ⟨true, .any⟩, ⟨true, .any⟩, ⟨true, .any⟩, ⟨true, .any⟩, ⟨true, .any⟩, ⟨true, .any⟩, ⟨true, .any⟩, ⟨true, .any⟩, ⟨true, .any⟩, ⟨true, .any⟩, ⟨true, .any⟩, ⟨true, .any⟩, ⟨true, .any⟩, ⟨true, .any⟩, ⟨true, .any⟩, ⟨true, .any⟩, ⟨true, .any⟩, ⟨true, .any⟩, ⟨true, .any⟩, ⟨true, .any⟩, ⟨true, .any⟩, ⟨true, .any⟩, ⟨true, .any⟩, ⟨true, .any⟩, ⟨true, .any⟩, ⟨true, .any⟩, ⟨true, .any⟩, ⟨true, .any⟩, ⟨true, .any⟩, ⟨true, .any⟩, ⟨true, .any⟩, ⟨true, .any⟩, ⟨true, .any⟩, ⟨true, .any⟩, ⟨false, (.rows 57)⟩, ⟨false, (.int .i64)⟩, ⟨true, .any⟩, ⟨true, .any⟩, ⟨true, .any⟩, ⟨true, .any⟩, ⟨true, .any⟩, ⟨true, .any⟩, ⟨true, .any⟩, ⟨true, .any⟩, ⟨true, .any⟩, ⟨true, .any⟩, ⟨true, .any⟩], []⟩, ⟨1, 0, [⟨false, (.rows 57)⟩, ⟨true, .any⟩, ⟨true, (.lit (.int .i64 10))⟩, ⟨true, .any⟩, ⟨true, .any⟩, ⟨true, .any⟩, ⟨true, .any⟩, ⟨true, .any⟩, ⟨true, .any⟩, ⟨true, .any⟩, ⟨true, .any⟩, ⟨true, .any⟩, ⟨true, .any⟩, ⟨true, .any⟩, ⟨true, .any⟩, ⟨true, .any⟩, ⟨true, .any⟩, ⟨true, .any⟩, ⟨true, .any⟩, ⟨true, .any⟩, ⟨true, .any⟩, ⟨true, .any⟩, ⟨true, .any⟩, ⟨true, .any⟩, ⟨true, .any⟩, ⟨true, .any⟩, ⟨true, .any⟩, ⟨true, .any⟩, ⟨true, .any⟩, ⟨true, .any⟩, ⟨true, .any⟩, ⟨true, .any⟩, ⟨true, .any⟩, ⟨true, .any⟩, ⟨true, .any⟩, ⟨true, .any⟩, ⟨true, .any⟩, ⟨true, .any⟩, ⟨true, .any⟩, ⟨true, .any⟩, ⟨true, .any⟩, ⟨true, .any⟩, ⟨true, .any⟩, ⟨true, .any⟩, ⟨true, .any⟩, ⟨true, .any⟩, ⟨true, .any⟩, ⟨true, .any⟩, ⟨true, .any⟩, ⟨true, .any⟩, ⟨true, .any⟩, ⟨true, .any⟩, ⟨false, (.rows 57)⟩, ⟨false, (.int .i64)⟩, ⟨true, .any⟩, ⟨true, .any⟩, ⟨true, .any⟩, ⟨true, .any⟩, ⟨true, .any⟩, ⟨true, .any⟩, ⟨true, .any⟩, ⟨true, .any⟩, ⟨true, .any⟩, ⟨true, .any⟩, ⟨true, .any⟩], []⟩]⟩

noncomputable def st19_17 (p s : List D) : Option (Sum (List D) (List D)) := stepQ env tbl19_4 60 6 19 (loopC 19 17) S19_17 p s

theorem st19_17_eq (pd0 : D) (pd1 : D) (pn2 : Int) (sn0 : Int) : st19_17  [pd0, pd1, (D.int pn2)] [(D.int sn0)] =
    bif (qcmp BinOp.lss sn0 pn2) then
      bif (qinb pd1 sn0) then
        bif (qcmp BinOp.leq 0 0) then
          bif (qcmp BinOp.leq 0 sn0) then
            bif (qcmp BinOp.leq sn0 (qlen pd0)) then
              bif (qsome (Proofs.Ytcengfpfphdacaa.q33_39 [(qsub pd0 0 sn0), (qget pd1 sn0)])) then
                bif (qbool (qnth (Proofs.Ytcengfpfphdacaa.q33_39 [(qsub pd0 0 sn0), (qget pd1 sn0)]) 0)) then
                  some (Sum.inr [(D.int 1)])
                else
                  some (Sum.inl [(D.int (qbin BinOp.add IntKind.i64 sn0 1))])
              else
                none
            else
              none
          else
            none
        else
          none
      else
        none
    else
      some (Sum.inr [(D.int 0)]) := by
  have h : st19_17  [pd0, pd1, (D.int pn2)] [(D.int sn0)] =
    bif (qcmp BinOp.lss sn0 pn2) then
      bif (qinb pd1 sn0) then
        bif (qcmp BinOp.leq 0 0) then
          bif (qcmp BinOp.leq 0 sn0) then
            bif (qcmp BinOp.leq sn0 (qlen pd0)) then
              bif (qsome (Proofs.Ytcengfpfphdacaa.q33_39 [(qsub pd0 0 sn0), (qget pd1 sn0)])) then
                bif (qbool (qnth (Proofs.Ytcengfpfphdacaa.q33_39 [(qsub pd0 0 sn0), (qget pd1 sn0)]) 0)) then
                  bif (qeqD pd0 pd0) then
                    bif (qeqD pd1 pd1) then
                      bif (qeqD (D.int pn2) (D.int pn2)) then
                        some (Sum.inr [(D.int 1)])
                      else
                        none
                    else
                      none
                  else
                    none
                else
                  bif (qeqD pd0 pd0) then
                    bif (qeqD pd1 pd1) then
                      bif (qeqD (D.int pn2) (D.int pn2)) then
                        some (Sum.inl [(D.int (qbin BinOp.add IntKind.i64 sn0 1))])
                      else
                        none
                    else
                      none
                  else
                    none
              else
                none
            else
              none
          else
            none
        else
          none
      else
        none
    else
      bif (qeqD pd0 pd0) then
        bif (qeqD pd1 pd1) then
          bif (qeqD (D.int pn2) (D.int pn2)) then
            some (Sum.inr [(D.int 0)])
          else
            none
        else
          none
      else
        none := by kernel_rfl
  rw [h]; simp only [qeqD_self, qeqI_self, qeq_len, List.length_cons, List.length_nil, cond_true]

noncomputable def l19_17 : List D → List D → Option (List D) := veil fun p s => loW (st19_17  p) s

theorem l19_17_eq : l19_17  = fun p s => loW (st19_17  p) s := veil_eq _

noncomputable def tbl19_17 : Tb := Tb.addL tbl19_4 19 17 S19_17.n0 (mkLp S19_17 (l19_17 ))

theorem ok_tbl19_17 : TbOk env (tbl19_17 ) := addLoopQ ok_tbl19_4 19 17 (by kernel_rfl) _ (l19_17_eq )

def S19 : FunS := ⟨[⟨true, (.rows 57)⟩], [], [⟨true, (.int .i64)⟩], []⟩

noncomputable def F19 : List D → Option (List D) := liftF env tbl19_17 60 6 19 S19

theorem F19_eq  (sd0 : D) : F19  [sd0] =
    bif (qcmp BinOp.gtr (qlen sd0) 16) then
      some [(D.int 6)]
    else
      bif (qsome (Proofs.Ytcengfpfphdacaa.l19_4 [sd0, sd0, (D.int (qlen sd0))] [(D.int 0)])) then
        bif (qcmp BinOp.eql (qint (qnth (Proofs.Ytcengfpfphdacaa.l19_4 [sd0, sd0, (D.int (qlen sd0))] [(D.int 0)]) 0)) 0) then
          bif (qsome (Proofs.Ytcengfpfphdacaa.l19_17 [sd0, sd0, (D.int (qlen sd0))] [(D.int 0)])) then
            bif (qcmp BinOp.eql (qint (qnth (Proofs.Ytcengfpfphdacaa.l19_17 [sd0, sd0, (D.int (qlen sd0))] [(D.int 0)]) 0)) 0) then
              some [(D.int 0)]
            else
              some [(D.int 10)]
          else
            none
        else
          some [(D.int (qint (qnth (Proofs.Ytcengfpfphdacaa.l19_4 [sd0, sd0, (D.int (qlen sd0))] [(D.int 0)]) 1)))]
      else
        none := by kernel_rfl

noncomputable def q19 : List D → Option (List D) := veil (F19 )

theorem q19_eq : q19  = F19  := veil_eq _

noncomputable def tb19 : Tb := Tb.addF tbl19_17 19 S19 (q19 )

theorem ok_tb19 : TbOk env (tb19 ) := addFunF ok_tbl19_17 19 (by kernel_rfl) _ (q19_eq )

end Go.Proofs.Ytcengfpfphdacaa

open Go Go.AM
namespace Go.Proofs.Ytcengfpfphdacaa
set_option maxRecDepth 100000
/- function 43  -/

def S43_7 : LoopS := ⟨0, [⟨false, (.rows 57)⟩, ⟨false, (.int .i64)⟩, ⟨false, .any⟩, ⟨false, .any⟩, ⟨false, (.lit (.int .i64 0))⟩, ⟨false, (.ptr 0 0)⟩, ⟨true, (.int .i64)⟩, ⟨false, .any⟩, ⟨false, .any⟩, ⟨false, .any⟩, ⟨false, .any⟩, ⟨false, .any⟩, ⟨false, .any⟩, ⟨false, .any⟩, ⟨false, .any⟩, ⟨false, .any⟩, ⟨false, .any⟩, ⟨false, .any⟩, ⟨false, .any⟩, ⟨false, .any⟩, ⟨false, .any⟩, ⟨false, .any⟩, ⟨false, .any⟩, ⟨false, .any⟩, ⟨false, .any⟩, ⟨false, .any⟩, ⟨false, .any⟩, ⟨false, .any⟩, ⟨false, .any⟩, ⟨false, .any⟩, ⟨false, .any⟩, ⟨false, .any⟩, ⟨false, .any⟩, ⟨false, .any⟩, ⟨false, .any⟩, ⟨false, .any⟩, ⟨false, .any⟩, ⟨false, .any⟩, ⟨false, .any⟩, ⟨false, .any⟩, ⟨false, .any⟩, ⟨false, .any⟩, ⟨false, .any⟩, ⟨false, .any⟩, ⟨false, .any⟩, ⟨false, .any⟩, ⟨false, .any⟩, ⟨false, .any⟩, ⟨false, .any⟩, ⟨false, .any⟩, ⟨false, .any⟩, ⟨false, .any⟩, ⟨false, .any⟩, ⟨false, .any⟩, ⟨false, .any⟩], [(.dat false 57)], [⟨0, 0, [⟨false, (.rows 57)⟩, ⟨false, (.int .i64)⟩, ⟨true, .any⟩, ⟨true, .any⟩, ⟨true, (.lit (.int .i64 0))⟩, ⟨true, (.ptr 0 0)⟩, ⟨true, .any⟩, ⟨true, .any⟩, ⟨true, .any⟩, ⟨true, .any⟩, ⟨true, .any⟩, ⟨true, .any⟩, ⟨true, .any⟩, ⟨true, .any⟩, ⟨true, .any⟩, ⟨true, .any⟩, ⟨true, .any⟩, ⟨true, .any⟩, ⟨true, .any⟩, ⟨true, .any⟩, ⟨true, .any⟩, ⟨true, .any⟩, ⟨true, .any⟩, ⟨true, .any⟩, ⟨true, .any⟩, ⟨true, .any⟩, ⟨true, .any⟩, ⟨true, .any⟩, ⟨true, .any⟩, ⟨true, .any⟩, ⟨true, .any⟩, ⟨true, .any⟩, ⟨true, .any⟩, ⟨true, .any⟩, ⟨true, .any⟩, ⟨true, .any⟩, ⟨true, .any⟩, ⟨true, .any⟩, ⟨true, .any⟩, ⟨true, .any⟩, ⟨true, .any⟩, ⟨true, .any⟩, ⟨true, .any⟩, ⟨true, .any⟩, ⟨true, .any⟩, ⟨true, .any⟩, ⟨true, .any⟩, ⟨true, .any⟩, ⟨true, .any⟩, ⟨true, .any⟩, ⟨true, .any⟩, ⟨true, .any⟩, ⟨true, .any⟩, ⟨true, .any⟩, ⟨true, .any⟩], [(.dat false 57)]⟩, ⟨1, 0, [⟨false, (.rows 57)⟩, ⟨false, (.int .i64)⟩, ⟨true, .any⟩, ⟨true, .any⟩, ⟨true, (.lit (.int .i64 8))⟩, ⟨true, .any⟩, ⟨true, .any⟩, ⟨true, .any⟩, ⟨true, .any⟩, ⟨true, .any⟩, ⟨true, .any⟩, ⟨true, .any⟩, ⟨true, .any⟩, ⟨true, .any⟩, ⟨true, .any⟩, ⟨true, .any⟩, ⟨true, .any⟩, ⟨true, .any⟩, ⟨true, .any⟩, ⟨true, .any⟩, ⟨true, .any⟩, ⟨true, .any⟩, ⟨true, .any⟩, ⟨true, .any⟩, ⟨true, .any⟩, ⟨true, .any⟩, ⟨true, .any⟩, ⟨true, .any⟩, ⟨true, .any⟩, ⟨true, .any⟩, ⟨true, .any⟩, ⟨true, .any⟩, ⟨true, .any⟩, ⟨true, .any⟩, ⟨true, .any⟩, ⟨true, .any⟩, ⟨true, .any⟩, ⟨true, .any⟩, ⟨true, .any⟩, ⟨true, .any⟩, ⟨true, .any⟩, ⟨true, .any⟩, ⟨true, .any⟩, ⟨true, .any⟩, ⟨true, .any⟩, ⟨true, .any⟩, ⟨true, .any⟩, ⟨true, .any⟩, ⟨true, .any⟩, ⟨true, .any⟩, ⟨true, .any⟩, ⟨true, .any⟩, ⟨true, .any⟩, ⟨true, .any⟩, ⟨true, .any⟩], [(.dat false 57)]⟩]⟩

noncomputable def st43_7 (p s : List D) : Option (Sum (List D) (List D)) := stepQ env tb19 60 6 43 (loopC 43 7) S43_7 p s

theorem st43_7_eq (pd0 : D) (pn1 : Int) (pd2 : D) (sn0 : Int) : st43_7  [pd0, (D.int pn1), pd2] [(D.int sn0)] =
    bif (qcmp BinOp.lss sn0 pn1) then
      bif (qinb pd0 sn0) then
        bif (qcmpS BinOp.eql (qstr (qfld (qget pd0 sn0) 0)) (qstr (qfld pd2 0))) then
          some (Sum.inr [(D.int 1)])
        else
          some (Sum.inl [(D.int (qbin BinOp.add IntKind.i64 sn0 1))])
      else
        none
    else
      some (Sum.inr [(D.int 0)]) := by
  have h : st43_7  [pd0, (D.int pn1), pd2] [(D.int sn0)] =
    bif (qcmp BinOp.lss sn0 pn1) then
      bif (qinb pd0 sn0) then
        bif (qcmpS BinOp.eql (qstr (qfld (qget pd0 sn0) 0)) (qstr (qfld pd2 0))) then
          bif (qeqD pd0 pd0) then
            bif (qeqD (D.int pn1) (D.int pn1)) then
              bif (qeqD pd2 pd2) then
                some (Sum.inr [(D.int 1)])
              else
                none
            else
              none
          else
            none
        else
          bif (qeqD pd0 pd0) then
            bif (qeqD (D.int pn1) (D.int pn1)) then
              bif (qeqD pd2 pd2) then
                some (Sum.inl [(D.int (qbin BinOp.add IntKind.i64 sn0 1))])
              else
                none
            else
              none
          else
            none
      else
        none
    else
      bif (qeqD pd0 pd0) then
        bif (qeqD (D.int pn1) (D.int pn1)) then
          bif (qeqD pd2 pd2) then
            some (Sum.inr [(D.int 0)])
          else
            none
        else
          none
      else
        none := by kernel_rfl
  rw [h]; simp only [qeqD_self, qeqI_self, qeq_len, List.length_cons, List.length_nil, cond_true]

noncomputable def l43_7 : List D → List D → Option (List D) := veil fun p s => loW (st43_7  p) s

theorem l43_7_eq : l43_7  = fun p s => loW (st43_7  p) s := veil_eq _

noncomputable def tbl43_7 : Tb := Tb.addL tb19 43 7 S43_7.n0 (mkLp S43_7 (l43_7 ))

theorem ok_tbl43_7 : TbOk env (tbl43_7 ) := addLoopQ ok_tb19 43 7 (by kernel_rfl) _ (l43_7_eq )

def S43 : FunS := ⟨[⟨true, (.rows 57)⟩, ⟨true, (.int .i64)⟩], [], [⟨true, (.int .i64)⟩], []⟩

noncomputable def F43 : List D → Option (List D) := liftF env tbl43_7 60 6 43 S43

theorem F43_eq  (sd0 : D) (sn1 : Int) : F43  [sd0, (D.int sn1)] =
    bif (qinb sd0 sn1) then
      bif (qcmp BinOp.gtr (qlen (qfld (qget sd0 sn1) 2)) 65536) then
        some [(D.int 6)]
      else
        bif (qsome (Proofs.Ytcengfpfphdacaa.q68 [(D.str (qstr (qfld (qget sd0 sn1) 0)))])) then
          bif (qnot (qbool (qnth (Proofs.Ytcengfpfphdacaa.q68 [(D.str (qstr (qfld (qget sd0 sn1) 0)))]) 0))) then
            some [(D.int 3)]
          else
            bif (qsome (Proofs.Ytcengfpfphdacaa.l43_7 [sd0, (D.int sn1), (qget sd0 sn1)] [(D.int 0)])) then
              bif (qcmp BinOp.eql (qint (qnth (Proofs.Ytcengfpfphdacaa.l43_7 [sd0, (D.int sn1), (qget sd0 sn1)] [(D.int 0)]) 0)) 0) then
                bif (qcmp BinOp.gtr (qbin BinOp.add IntKind.i64 (qwrap IntKind.i64 (qint (qfld (qget sd0 sn1) 1))) (qlen (qfld (qget sd0 sn1) 2))) 4294967295) then
                  some [(D.int 7)]
                else
                  bif (qiteB (qiteB (qcmp BinOp.gtr (qlen (qfld (qget sd0 sn1) 2)) 0) (qcmp BinOp.lss (qwrap IntKind.i64 (qint (qfld (qget sd0 sn1) 1))) 983040) Bool.false) (qsome (Proofs.Ytcengfpfphdacaa.q44 [(qget sd0 sn1)])) Bool.true) then
                    bif (qiteB (qiteB (qcmp BinOp.gtr (qlen (qfld (qget sd0 sn1) 2)) 0) (qcmp BinOp.lss (qwrap IntKind.i64 (qint (qfld (qget sd0 sn1) 1))) 983040) Bool.false) (qcmp BinOp.gtr (qint (qnth (Proofs.Ytcengfpfphdacaa.q44 [(qget sd0 sn1)]) 0)) 978944) Bool.false) then
                      some [(D.int 7)]
                    else
                      some [(D.int 0)]
                  else
                    none
              else
                some [(D.int 8)]
            else
              none
        else
          none
    else
      none := by kernel_rfl

noncomputable def q43 : List D → Option (List D) := veil (F43 )

theorem q43_eq : q43  = F43  := veil_eq _

noncomputable def tb43 : Tb := Tb.addF tbl43_7 43 S43 (q43 )

theorem ok_tb43 : TbOk env (tb43 ) := addFunF ok_tbl43_7 43 (by kernel_rfl) _ (q43_eq )

/- function 24  -/

def S24_4 : LoopS := ⟨0, [⟨false, (.rows 57)⟩, ⟨false, .any⟩, ⟨false, (.lit (.int .i64 0))⟩, ⟨true, (.int .i64)⟩, ⟨false, .any⟩, ⟨false, .any⟩, ⟨false, .any⟩, ⟨false, .any⟩, ⟨false, .any⟩, ⟨false, .any⟩, ⟨false, .any⟩, ⟨false, .any⟩, ⟨false, .any⟩, ⟨false, .any⟩, ⟨false, .any⟩, ⟨false, .any⟩, ⟨false, .any⟩, ⟨false, .any⟩, ⟨false, .any⟩, ⟨false, .any⟩, ⟨false, .any⟩, ⟨false, .any⟩, ⟨false, .any⟩, ⟨false, .any⟩, ⟨false, .any⟩, ⟨false, .any⟩, ⟨false, .any⟩, ⟨false, .any⟩, ⟨false, .any⟩, ⟨false, .any⟩, ⟨false, .any⟩, ⟨false, .any⟩, ⟨false, .any⟩, ⟨false, .any⟩, ⟨false, .any⟩, ⟨false, .any⟩, ⟨false, .any⟩, ⟨false, .any⟩, ⟨false, .any⟩, ⟨false, .any⟩, ⟨false, .any⟩, ⟨false, .any⟩, ⟨false, .any⟩, ⟨false, .any⟩, ⟨false, .any⟩, ⟨false, .any⟩, ⟨false, .any⟩, ⟨false, .any⟩, ⟨false, .any⟩, ⟨false, .any⟩, ⟨false, .any⟩, ⟨false, .any⟩, ⟨false, .any⟩, ⟨false, .any⟩, ⟨false, .any⟩, ⟨false, .any⟩, ⟨false, .any⟩, ⟨false, .any⟩, ⟨false, .any⟩, ⟨false, .any⟩, ⟨false, .any⟩, ⟨false, .any⟩, ⟨false, .any⟩, ⟨false, .any⟩, ⟨false, .any⟩, ⟨false, .any⟩, ⟨false, .any⟩, ⟨false, .any⟩, ⟨false, .any⟩, ⟨false, .any⟩, ⟨false, .any⟩, ⟨false, .any⟩, ⟨false, .any⟩, ⟨false, .any⟩, ⟨false, .any⟩, ⟨false, .any⟩, ⟨false, .any⟩], [], [⟨0, 0, [⟨false, (.rows 57)⟩, ⟨true, .any⟩, ⟨true, (.lit (.int .i64 0))⟩, ⟨true, .any⟩, ⟨true, .any⟩, ⟨true, .any⟩, ⟨true, .any⟩, ⟨true, .any⟩, ⟨true, .any⟩, ⟨true, .any⟩, ⟨true, .any⟩, ⟨true, .any⟩, ⟨true, .any⟩, ⟨true, .any⟩, ⟨true, .any⟩, ⟨true, .any⟩, ⟨true, .any⟩, ⟨true, .any⟩, ⟨true, .any⟩, ⟨true, .any⟩, ⟨true, .any⟩, ⟨true, .any⟩, ⟨true, .any⟩, ⟨true, .any⟩, ⟨true, .any⟩, ⟨true, .any⟩, ⟨true, .any⟩, ⟨true, .any⟩, ⟨true, .any⟩, ⟨true, .any⟩, ⟨true, .any⟩, ⟨true, .any⟩, ⟨true, .any⟩, ⟨true, .any⟩, ⟨true, .any⟩, ⟨true, .any⟩, ⟨true, .any⟩, ⟨true, .any⟩, ⟨true, .any⟩, ⟨true, .any⟩, ⟨true, .any⟩, ⟨true, .any⟩, ⟨true, .any⟩, ⟨true, .any⟩, ⟨true, .any⟩, ⟨true, .any⟩, ⟨true, .any⟩, ⟨true, .any⟩, ⟨true, .any⟩, ⟨true, .any⟩, ⟨true, .any⟩, ⟨true, .any⟩, ⟨true, .any⟩, ⟨true, .any⟩, ⟨true, .any⟩, ⟨true, .any⟩, ⟨true, .any⟩, ⟨true, .any⟩, ⟨true, .any⟩, ⟨true, .any⟩, ⟨true, .any⟩, ⟨true, .any⟩, ⟨true, .any⟩, ⟨true, .any⟩, ⟨true, .any⟩, ⟨true, .any⟩, ⟨true, .any⟩, ⟨true, .any⟩, ⟨true, .any⟩, ⟨true, .any⟩, ⟨true, .any⟩, ⟨true, .any⟩, ⟨true, .any⟩, ⟨true, .any⟩, ⟨true, .any⟩, ⟨true, .any⟩, ⟨true, .any⟩], []⟩, ⟨1, 0, [⟨false, (.rows 57)⟩, ⟨true, .any⟩, ⟨true, (.int .i64)⟩, ⟨true, .any⟩, ⟨true, .any⟩, ⟨true, .any⟩, ⟨true, .any⟩, ⟨true, .any⟩, ⟨true, .any⟩, ⟨true, .any⟩, ⟨true, .any⟩, ⟨true, .any⟩, ⟨true, .any⟩, ⟨true, .any⟩, ⟨true, .any⟩, ⟨true, .any⟩, ⟨true, .any⟩, ⟨true, .any⟩, ⟨true, .any⟩, ⟨true, .any⟩, ⟨true, .any⟩, ⟨true, .any⟩, ⟨true, .any⟩, ⟨true, .any⟩, ⟨true, .any⟩, ⟨true, .any⟩, ⟨true, .any⟩, ⟨true, .any⟩, ⟨true, .any⟩, ⟨true, .any⟩, ⟨true, .any⟩, ⟨true, .any⟩, ⟨true, .any⟩, ⟨true, .any⟩, ⟨true, .any⟩, ⟨true, .any⟩, ⟨true, .any⟩, ⟨true, .any⟩, ⟨true, .any⟩, ⟨true, .any⟩, ⟨true, .any⟩, ⟨true, .any⟩, ⟨true, .any⟩, ⟨true, .any⟩, ⟨true, .any⟩, ⟨true, .any⟩, ⟨true, .any⟩, ⟨true, .any⟩, ⟨true, .any⟩, ⟨true, .any⟩, ⟨true, .any⟩, ⟨true, .any⟩, ⟨true, .any⟩, ⟨true, .any⟩, ⟨true, .any⟩, ⟨true, .any⟩, ⟨true, .any⟩, ⟨true, .any⟩, ⟨true, .any⟩, ⟨true, .any⟩, ⟨true, .any⟩, ⟨true, .any⟩, ⟨true, .any⟩, ⟨true, .any⟩, ⟨true, .any⟩, ⟨true, .any⟩, ⟨true, .any⟩, ⟨true, .any⟩, ⟨true, .any⟩, ⟨true, .any⟩, ⟨true, .any⟩, ⟨true, .any⟩, ⟨true, .any⟩, ⟨true, .any⟩, ⟨true, .any⟩, ⟨true, .any⟩, ⟨true, .any⟩], []⟩]⟩

noncomputable def st24_4 (p s : List D) : Option (Sum (List D) (List D)) := stepQ env tb43 60 6 24 (loopC 24 4) S24_4 p s

theorem st24_4_eq (pd0 : D) (sn0 : Int) : st24_4  [pd0] [(D.int sn0)] =
    bif (qcmp BinOp.lss sn0 (qlen pd0)) then
      bif (qsome (Proofs.Ytcengfpfphdacaa.q43 [pd0, (D.int sn0)])) then
        bif (qcmp BinOp.neq (qint (qnth (Proofs.Ytcengfpfphdacaa.q43 [pd0, (D.int sn0)]) 0)) 0) then
          some (Sum.inr [(D.int 1), (D.int (qint (qnth (Proofs.Ytcengfpfphdacaa.q43 [pd0, (D.int sn0)]) 0)))])
        else
          some (Sum.inl [(D.int (qbin BinOp.add IntKind.i64 sn0 1))])
      else
        none
    else
      some (Sum.inr [(D.int 0)]) := by
  have h : st24_4  [pd0] [(D.int sn0)] =
    bif (qcmp BinOp.lss sn0 (qlen pd0)) then
      bif (qsome (Proofs.Ytcengfpfphdacaa.q43 [pd0, (D.int sn0)])) then
        bif (qcmp BinOp.neq (qint (qnth (Proofs.Ytcengfpfphdacaa.q43 [pd0, (D.int sn0)]) 0)) 0) then
          bif (qeqD pd0 pd0) then
            some (Sum.inr [(D.int 1), (D.int (qint (qnth (Proofs.Ytcengfpfphdacaa.q43 [pd0, (D.int sn0)]) 0)))])
          else
            none
        else
          bif (qeqD pd0 pd0) then
            some (Sum.inl [(D.int (qbin BinOp.add IntKind.i64 sn0 1))])
          else
            none
      else
        none
    else
      bif (qeqD pd0 pd0) then
        some (Sum.inr [(D.int 0)])
      else
        none := by kernel_rfl
  rw [h]; simp only [qeqD_self, qeqI_self, qeq_len, List.length_cons, List.length_nil, cond_true]

noncomputable def l24_4 : List D → List D → Option (List D) := veil fun p s => loW (st24_4  p) s

theorem l24_4_eq : l24_4  = fun p s => loW (st24_4  p) s := veil_eq _

noncomputable def tbl24_4 : Tb := Tb.addL tb43 24 4 S24_4.n0 (mkLp S24_4 (l24_4 ))

theorem ok_tbl24_4 : TbOk env (tbl24_4 ) := addLoopQ ok_tb43 24 4 (by kernel_rfl) _ (l24_4_eq )

def S24_13 : LoopS := ⟨0, [⟨false, (.rows 57)⟩, ⟨false, .any⟩, ⟨false, (.lit (.int .i64 0))⟩, ⟨false, .any⟩, ⟨false, .any⟩, ⟨false, (.int .i64)⟩, ⟨true, (.int .i64)⟩, ⟨false, .any⟩, ⟨false, .any⟩, ⟨false, .any⟩, ⟨false, .any⟩, ⟨false, .any⟩, ⟨false, .any⟩, ⟨false, .any⟩, ⟨false, .any⟩, ⟨false, .any⟩, ⟨false, .any⟩, ⟨false, .any⟩, ⟨false, .any⟩, ⟨false, .any⟩, ⟨false, .any⟩, ⟨false, .any⟩, ⟨false, .any⟩, ⟨false, .any⟩, ⟨false, .any⟩, ⟨false, .any⟩, ⟨false, .any⟩, ⟨false, .any⟩, ⟨false, .any⟩, ⟨false, .any⟩, ⟨false, .any⟩, ⟨false, .any⟩, ⟨false, .any⟩, ⟨false, .any⟩, ⟨false, .any⟩, ⟨false, .any⟩, ⟨false, .any⟩, ⟨false, .any⟩, ⟨false, .any⟩, ⟨false, .any⟩, ⟨false, .any⟩, ⟨false, .any⟩, ⟨false, .any⟩, ⟨false, .any⟩, ⟨false, .any⟩, ⟨false, .any⟩, ⟨false, .any⟩, ⟨false, .any⟩, ⟨false, .any⟩, ⟨false, .any⟩, ⟨false, .any⟩, ⟨false, .any⟩, ⟨false, .any⟩, ⟨false, .any⟩, ⟨false, .any⟩, ⟨false, .any⟩, ⟨false, .any⟩, ⟨false, .any⟩, ⟨false, .any⟩, ⟨false, .any⟩, ⟨false, .any⟩, ⟨false, .any⟩, ⟨false, .any⟩, ⟨false, .any⟩, ⟨false, .any⟩, ⟨false, .any⟩, ⟨false, .any⟩, ⟨false, .any⟩, ⟨false, .any⟩, ⟨false, .any⟩, ⟨false, .any⟩, ⟨false, .any⟩, ⟨false, .any⟩, ⟨false, .any⟩, ⟨false, .any⟩, ⟨false, .any⟩, ⟨false, .any⟩], [], [⟨0, 4, [⟨false, (.rows 57)⟩, ⟨true, .any⟩, ⟨true, (.lit (.int .i64 0))⟩, ⟨true, .any⟩, ⟨true, .any⟩, ⟨false, (.int .i64)⟩, ⟨true, .any⟩, ⟨true, .any⟩, ⟨true, .any⟩, ⟨true, .any⟩, ⟨true, .any⟩, ⟨true, .any⟩, ⟨true, .any⟩, ⟨true, .any⟩, ⟨true, .any⟩, ⟨true, .any⟩, ⟨true, .any⟩, ⟨true, .any⟩, ⟨true, .any⟩, ⟨true, .any⟩, ⟨true, .any⟩, ⟨true, .any⟩, ⟨true, .any⟩, ⟨true, .any⟩, ⟨true, .any⟩, ⟨true, .any⟩, ⟨true, .any⟩, ⟨true, .any⟩, ⟨true, .any⟩, ⟨true, .any⟩, ⟨true, .any⟩, ⟨true, .any⟩, ⟨true, .any⟩, ⟨true, .any⟩, ⟨true, .any⟩, ⟨true, .any⟩, ⟨true, .any⟩, ⟨true, .any⟩, ⟨true, .any⟩, ⟨true, .any⟩, ⟨true, .any⟩, ⟨true, .any⟩, ⟨true, .any⟩, ⟨true, .any⟩, ⟨true, .any⟩, ⟨true, .any⟩, ⟨true, .any⟩, ⟨true, .any⟩, ⟨true, .any⟩, ⟨true, .any⟩, ⟨true, .any⟩, ⟨true, .any⟩, ⟨true, .any⟩, ⟨true, .any⟩, ⟨true, .any⟩, ⟨true, .any⟩, ⟨true, .any⟩, ⟨true, .any⟩, ⟨true, .any⟩, ⟨true, .any⟩, ⟨true, .any⟩, ⟨true, .any⟩, ⟨true, .any⟩, ⟨true, .any⟩, ⟨true, .any⟩, ⟨true, .any⟩, ⟨true, .any⟩, ⟨true, .any⟩, ⟨true, .any⟩, ⟨true, .any⟩, ⟨true, .any⟩, ⟨true, .any⟩, ⟨true, .any⟩, ⟨true, .any⟩, ⟨true, .any⟩, ⟨true, .any⟩, ⟨true, .any⟩], []⟩, ⟨1, 0, [⟨false, (.rows 57)⟩, ⟨true, .any⟩, ⟨true, (.lit (.int .i64 10))⟩, ⟨true, .any⟩, ⟨true, .any⟩, ⟨false, (.int .i64)⟩, ⟨true, .any⟩, ⟨true, .any⟩, ⟨true, .any⟩, ⟨true, .any⟩, ⟨true, .any⟩, ⟨true, .any⟩, ⟨true, .any⟩, ⟨true, .any⟩, ⟨true, .any⟩, ⟨true, .any⟩, ⟨true, .any⟩, ⟨true, .any⟩, ⟨true, .any⟩, ⟨true, .any⟩, ⟨true, .any⟩, ⟨true, .any⟩, ⟨true, .any⟩, ⟨true, .any⟩, ⟨true, .any⟩, ⟨true, .any⟩, ⟨true, .any⟩, ⟨true, .any⟩, ⟨true, .any⟩, ⟨true, .any⟩, ⟨true, .any⟩, ⟨true, .any⟩, ⟨true, .any⟩, ⟨true, .any⟩, ⟨true, .any⟩, ⟨true, .any⟩, ⟨true, .any⟩, ⟨true, .any⟩, ⟨true, .any⟩, ⟨true, .any⟩, ⟨true, .any⟩, ⟨true, .any⟩, ⟨true, .any⟩, ⟨true, .any⟩, ⟨true, .any⟩, ⟨true, .any⟩, ⟨true, .any⟩, ⟨true, .any⟩, ⟨true, .any⟩, ⟨true, .any⟩, ⟨true, .any⟩, ⟨true, .any⟩, ⟨true, .any⟩, ⟨true, .any⟩, ⟨true, .any⟩, ⟨true, .any⟩, ⟨true, .any⟩, ⟨true, .any⟩, ⟨true, .any⟩, ⟨true, .any⟩, ⟨true, .any⟩, ⟨true, .any⟩, ⟨true, .any⟩, ⟨true, .any⟩, ⟨true, .any⟩, ⟨true, .any⟩, ⟨true, .any⟩, ⟨true, .any⟩, ⟨true, .any⟩, ⟨true, .any⟩, ⟨true, .any⟩, ⟨true, .any⟩, ⟨true, .any⟩, ⟨true, .any⟩, ⟨true, .any⟩, ⟨true, .any⟩, ⟨true, .any⟩], []⟩]⟩

noncomputable def st24_13 (p s : List D) : Option (Sum (List D) (List D)) := stepQ env tbl24_4 60 6 24 (loopC 24 13) S24_13 p s

theorem st24_13_eq (pd0 : D) (pn1 : Int) (sn0 : Int) : st24_13  [pd0, (D.int pn1)] [(D.int sn0)] =
    bif (qcmp BinOp.lss sn0 pn1) then
      bif (qinb pd0 pn1) then
        bif (qcmp BinOp.gtr (qlen (qfld (qget pd0 pn1) 2)) 0) then
          bif (qinb pd0 sn0) then
            bif (qcmp BinOp.gtr (qlen (qfld (qget pd0 sn0) 2)) 0) then
              bif (qinb pd0 pn1) then
                bif (qinb pd0 sn0) then
                  bif (qsome (Proofs.Ytcengfpfphdacaa.q44 [(qget pd0 sn0)])) then
                    bif (qcmp BinOp.lss (qwrap IntKind.i64 (qint (qfld (qget pd0 pn1) 1))) (qint (qnth (Proofs.Ytcengfpfphdacaa.q44 [(qget pd0 sn0)]) 0))) then
                      bif (qinb pd0 sn0) then
                        bif (qinb pd0 pn1) then
                          bif (qsome (Proofs.Ytcengfpfphdacaa.q44 [(qget pd0 pn1)])) then
                            bif (qcmp BinOp.lss (qwrap IntKind.i64 (qint (qfld (qget pd0 sn0) 1))) (qint (qnth (Proofs.Ytcengfpfphdacaa.q44 [(qget pd0 pn1)]) 0))) then
                              some (Sum.inr [(D.int 1)])
                            else
                              some (Sum.inl [(D.int (qbin BinOp.add IntKind.i64 sn0 1))])
                          else
                            none
                        else
                          none
                      else
                        none
                    else
                      some (Sum.inl [(D.int (qbin BinOp.add IntKind.i64 sn0 1))])
                  else
                    none
                else
                  none
              else
                none
            else
              some (Sum.inl [(D.int (qbin BinOp.add IntKind.i64 sn0 1))])
          else
            none
        else
          some (Sum.inl [(D.int (qbin BinOp.add IntKind.i64 sn0 1))])
      else
        none
    else
      some (Sum.inr [(D.int 0)]) := by
  have h : st24_13  [pd0, (D.int pn1)] [(D.int sn0)] =
    bif (qcmp BinOp.lss sn0 pn1) then
      bif (qinb pd0 pn1) then
        bif (qcmp BinOp.gtr (qlen (qfld (qget pd0 pn1) 2)) 0) then
          bif (qinb pd0 sn0) then
            bif (qcmp BinOp.gtr (qlen (qfld (qget pd0 sn0) 2)) 0) then
              bif (qinb pd0 pn1) then
                bif (qinb pd0 sn0) then
                  bif (qsome (Proofs.Ytcengfpfphdacaa.q44 [(qget pd0 sn0)])) then
                    bif (qcmp BinOp.lss (qwrap IntKind.i64 (qint (qfld (qget pd0 pn1) 1))) (qint (qnth (Proofs.Ytcengfpfphdacaa.q44 [(qget pd0 sn0)]) 0))) then
                      bif (qinb pd0 sn0) then
                        bif (qinb pd0 pn1) then
                          bif (qsome (Proofs.Ytcengfpfphdacaa.q44 [(qget pd0 pn1)])) then
                            bif (qcmp BinOp.lss (qwrap IntKind.i64 (qint (qfld (qget pd0 sn0) 1))) (qint (qnth (Proofs.Ytcengfpfphdacaa.q44 [(qget pd0 pn1)]) 0))) then
                              bif (qeqD pd0 pd0) then
                                bif (qeqD (D.int pn1) (D.int pn1)) then
                                  some (Sum.inr [(D.int 1)])
                                else
                                  none
                              else
                                none
                            else
                              bif (qeqD pd0 pd0) then
                                bif (qeqD (D.int pn1) (D.int pn1)) then
                                  some (Sum.inl [(D.int (qbin BinOp.add IntKind.i64 sn0 1))])
                                else
                                  none
                              else
                                none
                          else
                            none
                        else
                          none
                      else
                        none
                    else
                      bif (qeqD pd0 pd0) then
                        bif (qeqD (D.int pn1) (D.int pn1)) then
                          some (Sum.inl [(D.int (qbin BinOp.add IntKind.i64 sn0 1))])
                        else
                          none
                      else
                        none
                  else
                    none
                else
                  none
              else
                none
            else
              bif (qeqD pd0 pd0) then
                bif (qeqD (D.int pn1) (D.int pn1)) then
                  some (Sum.inl [(D.int (qbin BinOp.add IntKind.i64 sn0 1))])
                else
                  none
              else
                none
          else
            none
        else
          bif (qeqD pd0 pd0) then
            bif (qeqD (D.int pn1) (D.int pn1)) then
              some (Sum.inl [(D.int (qbin BinOp.add IntKind.i64 sn0 1))])
            else
              none
          else
            none
      else
        none
    else
      bif (qeqD pd0 pd0) then
        bif (qeqD (D.int pn1) (D.int pn1)) then
          some (Sum.inr [(D.int 0)])
        else
          none
      else
        none := by kernel_rfl
  rw [h]; simp only [qeqD_self, qeqI_self, qeq_len, List.length_cons, List.length_nil, cond_true]

noncomputable def l24_13 : List D → List D → Option (List D) := veil fun p s => loW (st24_13  p) s

theorem l24_13_eq : l24_13  = fun p s => loW (st24_13  p) s := veil_eq _

noncomputable def tbl24_13 : Tb := Tb.addL tbl24_4 24 13 S24_13.n0 (mkLp S24_13 (l24_13 ))

theorem ok_tbl24_13 : TbOk env (tbl24_13 ) := addLoopQ ok_tbl24_4 24 13 (by kernel_rfl) _ (l24_13_eq )

def S24_10 : LoopS := ⟨0, [⟨false, (.rows 57)⟩, ⟨false, .any⟩, ⟨false, (.lit (.int .i64 0))⟩, ⟨false, .any⟩, ⟨false, .any⟩, ⟨true, (.int .i64)⟩, ⟨false, .any⟩, ⟨false, .any⟩, ⟨false, .any⟩, ⟨false, .any⟩, ⟨false, .any⟩, ⟨false, .any⟩, ⟨false, .any⟩, ⟨false, .any⟩, ⟨false, .any⟩, ⟨false, .any⟩, ⟨false, .any⟩, ⟨false, .any⟩, ⟨false, .any⟩, ⟨false, .any⟩, ⟨false, .any⟩, ⟨false, .any⟩, ⟨false, .any⟩, ⟨false, .any⟩, ⟨false, .any⟩, ⟨false, .any⟩, ⟨false, .any⟩, ⟨false, .any⟩, ⟨false, .any⟩, ⟨false, .any⟩, ⟨false, .any⟩, ⟨false, .any⟩, ⟨false, .any⟩, ⟨false, .any⟩, ⟨false, .any⟩, ⟨false, .any⟩, ⟨false, .any⟩, ⟨false, .any⟩, ⟨false, .any⟩, ⟨false, .any⟩, ⟨false, .any⟩, ⟨false, .any⟩, ⟨false, .any⟩, ⟨false, .any⟩, ⟨false, .any⟩, ⟨false, .any⟩, ⟨false, .any⟩, ⟨false, .any⟩, ⟨false, .any⟩, ⟨false, .any⟩, ⟨false, .any⟩, ⟨false, .any⟩, ⟨false, .any⟩, ⟨false, .any⟩, ⟨false, .any⟩, ⟨false, .any⟩, ⟨false, .any⟩, ⟨false, .any⟩, ⟨false, .any⟩, ⟨false, .any⟩, ⟨false, .any⟩, ⟨false, .any⟩, ⟨false, .any⟩, ⟨false, .any⟩, ⟨false, .any⟩, ⟨false, .any⟩, ⟨false, .any⟩, ⟨false, .any⟩, ⟨false, .any⟩, ⟨false, .any⟩, ⟨false, .any⟩, ⟨false, .any⟩, ⟨false, .any⟩, ⟨false, .any⟩, ⟨false, .any⟩, ⟨false, .any⟩, ⟨false, .any⟩], [], [⟨0, 2, [⟨false, (.rows 57)⟩, ⟨true, .any⟩, ⟨true, (.lit (.int .i64 0))⟩, ⟨true, .any⟩, ⟨true, .any⟩, ⟨true, .any⟩, ⟨true, .any⟩, ⟨true, .any⟩, ⟨true, .any⟩, ⟨true, .any⟩, ⟨true, .any⟩, ⟨true, .any⟩, ⟨true, .any⟩, ⟨true, .any⟩, ⟨true, .any⟩, ⟨true, .any⟩, ⟨true, .any⟩, ⟨true, .any⟩, ⟨true, .any⟩, ⟨true, .any⟩, ⟨true, .any⟩, ⟨true, .any⟩, ⟨true, .any⟩, ⟨true, .any⟩, ⟨true, .any⟩, ⟨true, .any⟩, ⟨true, .any⟩, ⟨true, .any⟩, ⟨true, .any⟩, ⟨true, .any⟩, ⟨true, .any⟩, ⟨true, .any⟩, ⟨true, .any⟩, ⟨true, .any⟩, ⟨true, .any⟩, ⟨true, .any⟩, ⟨true, .any⟩, ⟨true, .any⟩, ⟨true, .any⟩, ⟨true, .any⟩, ⟨true, .any⟩, ⟨true, .any⟩, ⟨true, .any⟩, ⟨true, .any⟩, ⟨true, .any⟩, ⟨true, .any⟩, ⟨true, .any⟩, ⟨true, .any⟩, ⟨true, .any⟩, ⟨true, .any⟩, ⟨true, .any⟩, ⟨true, .any⟩, ⟨true, .any⟩, ⟨true, .any⟩, ⟨true, .any⟩, ⟨true, .any⟩, ⟨true, .any⟩, ⟨true, .any⟩, ⟨true, .any⟩, ⟨true, .any⟩, ⟨true, .any⟩, ⟨true, .any⟩, ⟨true, .any⟩, ⟨true, .any⟩, ⟨true, .any⟩, ⟨true, .any⟩, ⟨true, .any⟩, ⟨true, .any⟩, ⟨true, .any⟩, ⟨true, .any⟩, ⟨true, .any⟩, ⟨true, .any⟩, ⟨true, .any⟩, ⟨true, .any⟩, ⟨true, .any⟩, ⟨true, .any⟩, ⟨true, .any⟩], []⟩, ⟨1, 0, [⟨false, (.rows 57)⟩, ⟨true, .any⟩, ⟨true, (.lit (.int .i64 10))⟩, ⟨true, .any⟩, ⟨true, .any⟩, ⟨true, .any⟩, ⟨true, .any⟩, ⟨true, .any⟩, ⟨true, .any⟩, ⟨true, .any⟩, ⟨true, .any⟩, ⟨true, .any⟩, ⟨true, .any⟩, ⟨true, .any⟩, ⟨true, .any⟩, ⟨true, .any⟩, ⟨true, .any⟩, ⟨true, .any⟩, ⟨true, .any⟩, ⟨true, .any⟩, ⟨true, .any⟩, ⟨true, .any⟩, ⟨true, .any⟩, ⟨true, .any⟩, ⟨true, .any⟩, ⟨true, .any⟩, ⟨true, .any⟩, ⟨true, .any⟩, ⟨true, .any⟩, ⟨true, .any⟩, ⟨true, .any⟩, ⟨true, .any⟩, ⟨true, .any⟩, ⟨true, .any⟩, ⟨true, .any⟩, ⟨true, .any⟩, ⟨true, .any⟩, ⟨true, .any⟩, ⟨true, .any⟩, ⟨true, .any⟩, ⟨true, .any⟩, ⟨true, .any⟩, ⟨true, .any⟩, ⟨true, .any⟩, ⟨true, .any⟩, ⟨true, .any⟩, ⟨true, .any⟩, ⟨true, .any⟩, ⟨true, .any⟩, ⟨true, .any⟩, ⟨true, .any⟩, ⟨true, .any⟩, ⟨true, .any⟩, ⟨true, .any⟩, ⟨true, .any⟩, ⟨true, .any⟩, ⟨true, .any⟩, ⟨true, .any⟩, ⟨true, .any⟩, ⟨true, .any⟩, ⟨true, .any⟩, ⟨true, .any⟩, ⟨true, .any⟩, ⟨true, .any⟩, ⟨true, .any⟩, ⟨true, .any⟩, ⟨true, .any⟩, ⟨true, .any⟩, ⟨true, .any⟩, ⟨true, .any⟩, ⟨true, .any⟩, ⟨true, .any⟩, ⟨true, .any⟩, ⟨true, .any⟩, ⟨true, .any⟩, ⟨true, .any⟩, ⟨true, .any⟩], []⟩]⟩

noncomputable def st24_10 (p s : List D) : Option (Sum (List D) (List D)) := stepQ env tbl24_13 60 6 24 (loopC 24 10) S24_10 p s

theorem st24_10_eq (pd0 : D) (sn0 : Int) : st24_10  [pd0] [(D.int sn0)] =
    bif (qcmp BinOp.lss sn0 (qlen pd0)) then
      bif (qsome (Proofs.Ytcengfpfphdacaa.l24_13 [pd0, (D.int sn0)] [(D.int 0)])) then
        bif (qcmp BinOp.eql (qint (qnth (Proofs.Ytcengfpfphdacaa.l24_13 [pd0, (D.int sn0)] [(D.int 0)]) 0)) 0) then
          some (Sum.inl [(D.int (qbin BinOp.add IntKind.i64 sn0 1))])
        else
          some (Sum.inr [(D.int 1)])
      else
        none
    else
      some (Sum.inr [(D.int 0)]) := by
  have h : st24_10  [pd0] [(D.int sn0)] =
    bif (qcmp BinOp.lss sn0 (qlen pd0)) then
      bif (qsome (Proofs.Ytcengfpfphdacaa.l24_13 [pd0, (D.int sn0)] [(D.int 0)])) then
        bif (qcmp BinOp.eql (qint (qnth (Proofs.Ytcengfpfphdacaa.l24_13 [pd0, (D.int sn0)] [(D.int 0)]) 0)) 0) then
          bif (qeqD pd0 pd0) then
            some (Sum.inl [(D.int (qbin BinOp.add IntKind.i64 sn0 1))])
          else
            none
        else
          bif (qeqD pd0 pd0) then
            some (Sum.inr [(D.int 1)])
          else
            none
      else
        none
    else
      bif (qeqD pd0 pd0) then
        some (Sum.inr [(D.int 0)])
      else
        none := by kernel_rfl
  rw [h]; simp only [qeqD_self, qeqI_self, qeq_len, List.length_cons, List.length_nil, cond_true]

noncomputable def l24_10 : List D → List D → Option (List D) := veil fun p s => loW (st24_10  p) s

theorem l24_10_eq : l24_10  = fun p s => loW (st24_10  p) s := veil_eq _

noncomputable def tbl24_10 : Tb := Tb.addL tbl24_13 24 10 S24_10.n0 (mkLp S24_10 (l24_10 ))

theorem ok_tbl24_10 : TbOk env (tbl24_10 ) := addLoopQ ok_tbl24_13 24 10 (by kernel_rfl) _ (l24_10_eq )

def S24 : FunS := ⟨[⟨true, (.rows 57)⟩], [], [⟨true, (.int .i64)⟩], []⟩

noncomputable def F24 : List D → Option (List D) := liftF env tbl24_10 60 6 24 S24

theorem F24_eq  (sd0 : D) : F24  [sd0] =
    bif (qcmp BinOp.gtr (qlen sd0) 16) then
      some [(D.int 6)]
    else
      bif (qsome (Proofs.Ytcengfpfphdacaa.l24_4 [sd0] [(D.int 0)])) then
        bif (qcmp BinOp.eql (qint (qnth (Proofs.Ytcengfpfphdacaa.l24_4 [sd0] [(D.int 0)]) 0)) 0) then
          bif (qsome (Proofs.Ytcengfpfphdacaa.l24_10 [sd0] [(D.int 0)])) then
            bif (qcmp BinOp.eql (qint (qnth (Proofs.Ytcengfpfphdacaa.l24_10 [sd0] [(D.int 0)]) 0)) 0) then
              some [(D.int 0)]
            else
              some [(D.int 10)]
          else
            none
        else
          some [(D.int (qint (qnth (Proofs.Ytcengfpfphdacaa.l24_4 [sd0] [(D.int 0)]) 1)))]
      else
        none := by kernel_rfl

noncomputable def q24 : List D → Option (List D) := veil (F24 )

theorem q24_eq : q24  = F24  := veil_eq _

noncomputable def tb24 : Tb := Tb.addF tbl24_10 24 S24 (q24 )

theorem ok_tb24 : TbOk env (tb24 ) := addFunF ok_tbl24_10 24 (by kernel_rfl) _ (q24_eq )

end Go.Proofs.Ytcengfpfphdacaa

open Go Go.AM
namespace Go.Proofs.Ytcengfpfphdacaa
set_option maxRecDepth 100000
/- function 22  -/

def S22 : FunS := ⟨[⟨true, (.dat 49)⟩, ⟨true, (.edat 49)⟩], [], [⟨true, .bool⟩], []⟩

noncomputable def F22 : List D → Option (List D) := liftF env tb24 60 6 22 S22

theorem F22_eq  (sd0 : D) (sd1 : D) : F22  [sd0, sd1] =
    some [(D.bool (qcmp BinOp.eql (qint (qfld sd0 0)) (qint (qfld sd1 0))))] := by kernel_rfl

noncomputable def q22 : List D → Option (List D) := veil (F22 )

theorem q22_eq : q22  = F22  := veil_eq _

noncomputable def tb22 : Tb := Tb.addF tb24 22 S22 (q22 )

theorem ok_tb22 : TbOk env (tb22 ) := addFunF ok_tb24 22 (by kernel_rfl) _ (q22_eq )

/- function 42  -/

def S42_22_2 : LoopS := ⟨0, [⟨false, (.rows 49)⟩, ⟨false, (.func 22 [] [(.edat 49)])⟩, ⟨false, .any⟩, ⟨false, .any⟩, ⟨false, (.lit (.int .i64 0))⟩, ⟨false, .any⟩, ⟨false, .any⟩, ⟨false, (.int .i64)⟩, ⟨true, (.int .i64)⟩, ⟨false, .any⟩, ⟨false, .any⟩, ⟨false, .any⟩, ⟨false, .any⟩, ⟨false, .any⟩, ⟨false, .any⟩, ⟨false, .any⟩, ⟨false, .any⟩, ⟨false, .any⟩, ⟨false, .any⟩], [], [⟨0, 0, [⟨false, (.rows 49)⟩, ⟨false, (.func 22 [] [(.edat 49)])⟩, ⟨true, .any⟩, ⟨true, .any⟩, ⟨true, (.lit (.int .i64 0))⟩, ⟨true, .any⟩, ⟨true, .any⟩, ⟨false, (.int .i64)⟩, ⟨true, .any⟩, ⟨true, .any⟩, ⟨true, .any⟩, ⟨true, .any⟩, ⟨true, .any⟩, ⟨true, .any⟩, ⟨true, .any⟩, ⟨true, .any⟩, ⟨true, .any⟩, ⟨true, .any⟩, ⟨true, .any⟩], []⟩, ⟨1, 0, [⟨false, (.rows 49)⟩, ⟨false, (.func 22 [] [(.edat 49)])⟩, ⟨true, .any⟩, ⟨true, .any⟩, ⟨true, (.int .i64)⟩, ⟨true, .any⟩, ⟨true, .any⟩, ⟨false, (.int .i64)⟩, ⟨true, .any⟩, ⟨true, .any⟩, ⟨true, .any⟩, ⟨true, .any⟩, ⟨true, .any⟩, ⟨true, .any⟩, ⟨true, .any⟩, ⟨true, .any⟩, ⟨true, .any⟩, ⟨true, .any⟩, ⟨true, .any⟩], []⟩]⟩

noncomputable def st42_22_2 (p s : List D) : Option (Sum (List D) (List D)) := stepQ env tb22 60 6 42 (loopC 42 2) S42_22_2 p s

theorem st42_22_2_eq (pd0 : D) (pd1 : D) (pn2 : Int) (sn0 : Int) : st42_22_2  [pd0, pd1, (D.int pn2)] [(D.int sn0)] =
    bif (qcmp BinOp.lss sn0 pn2) then
      bif (qinb pd0 sn0) then
        bif (qsome (Proofs.Ytcengfpfphdacaa.q22 [(qget pd0 sn0), pd1])) then
          bif (qbool (qnth (Proofs.Ytcengfpfphdacaa.q22 [(qget pd0 sn0), pd1]) 0)) then
            some (Sum.inr [(D.int 1), (D.int sn0)])
          else
            some (Sum.inl [(D.int (qbin BinOp.add IntKind.i64 sn0 1))])
        else
          none
      else
        none
    else
      some (Sum.inr [(D.int 0)]) := by
  have h : st42_22_2  [pd0, pd1, (D.int pn2)] [(D.int sn0)] =
    bif (qcmp BinOp.lss sn0 pn2) then
      bif (qinb pd0 sn0) then
        bif (qsome (Proofs.Ytcengfpfphdacaa.q22 [(qget pd0 sn0), pd1])) then
          bif (qbool (qnth (Proofs.Ytcengfpfphdacaa.q22 [(qget pd0 sn0), pd1]) 0)) then
            bif (qeqD pd0 pd0) then
              bif (qeqD pd1 pd1) then
                bif (qeqD (D.int pn2) (D.int pn2)) then
                  some (Sum.inr [(D.int 1), (D.int sn0)])
                else
                  none
              else
                none
            else
              none
          else
            bif (qeqD pd0 pd0) then
              bif (qeqD pd1 pd1) then
                bif (qeqD (D.int pn2) (D.int pn2)) then
                  some (Sum.inl [(D.int (qbin BinOp.add IntKind.i64 sn0 1))])
                else
                  none
              else
                none
            else
              none
        else
          none
      else
        none
    else
      bif (qeqD pd0 pd0) then
        bif (qeqD pd1 pd1) then
          bif (qeqD (D.int pn2) (D.int pn2)) then
            some (Sum.inr [(D.int 0)])
          else
            none
        else
          none
      else
        none := by kernel_rfl
  rw [h]; simp only [qeqD_self, qeqI_self, qeq_len, List.length_cons, List.length_nil, cond_true]

noncomputable def l42_22_2 : List D → List D → Option (List D) := veil fun p s => loW (st42_22_2  p) s

theorem l42_22_2_eq : l42_22_2  = fun p s => loW (st42_22_2  p) s := veil_eq _

noncomputable def tbl42_22_2 : Tb := Tb.addL tb22 42 2 S42_22_2.n0 (mkLp S42_22_2 (l42_22_2 ))

theorem ok_tbl42_22_2 : TbOk env (tbl42_22_2 ) := addLoopQ ok_tb22 42 2 (by kernel_rfl) _ (l42_22_2_eq )

def S42_22 : FunS := ⟨[⟨true, (.rows 49)⟩, ⟨true, (.func 22 [] [(.edat 49)])⟩], [], [⟨true, (.int .i64)⟩], []⟩

noncomputable def F42_22 : List D → Option (List D) := liftF env tbl42_22_2 60 6 42 S42_22

theorem F42_22_eq  (sd0 : D) (sd1 : D) : F42_22  [sd0, sd1] =
    bif (qsome (Proofs.Ytcengfpfphdacaa.l42_22_2 [sd0, sd1, (D.int (qlen sd0))] [(D.int 0)])) then
      bif (qcmp BinOp.eql (qint (qnth (Proofs.Ytcengfpfphdacaa.l42_22_2 [sd0, sd1, (D.int (qlen sd0))] [(D.int 0)]) 0)) 0) then
        some [(D.int (-1))]
      else
        some [(D.int (qint (qnth (Proofs.Ytcengfpfphdacaa.l42_22_2 [sd0, sd1, (D.int (qlen sd0))] [(D.int 0)]) 1)))]
    else
      none := by kernel_rfl

noncomputable def q42_22 : List D → Option (List D) := veil (F42_22 )

theorem q42_22_eq : q42_22  = F42_22  := veil_eq _

noncomputable def tb42_22 : Tb := Tb.addF tbl42_22_2 42 S42_22 (q42_22 )

theorem ok_tb42_22 : TbOk env (tb42_22 ) := addFunF ok_tbl42_22_2 42 (by kernel_rfl) _ (q42_22_eq )

/- function 21  -/

def S21_22 : FunS := ⟨[⟨true, (.rows 49)⟩, ⟨true, (.func 22 [] [(.edat 49)])⟩], [], [⟨true, .bool⟩], []⟩

noncomputable def F21_22 : List D → Option (List D) := liftF env tb42_22 60 6 21 S21_22

theorem F21_22_eq  (sd0 : D) (sd1 : D) : F21_22  [sd0, sd1] =
    bif (qsome (Proofs.Ytcengfpfphdacaa.q42_22 [sd0, sd1])) then
      some [(D.bool (qcmp BinOp.geq (qint (qnth (Proofs.Ytcengfpfphdacaa.q42_22 [sd0, sd1]) 0)) 0))]
    else
      none := by kernel_rfl

noncomputable def q21_22 : List D → Option (List D) := veil (F21_22 )

theorem q21_22_eq : q21_22  = F21_22  := veil_eq _

noncomputable def tb21_22 : Tb := Tb.addF tb42_22 21 S21_22 (q21_22 )

theorem ok_tb21_22 : TbOk env (tb21_22 ) := addFunF ok_tb42_22 21 (by kernel_rfl) _ (q21_22_eq )

/- function 23  -/

def S23 : FunS := ⟨[⟨true, (.dat 49)⟩, ⟨true, (.edat 26)⟩], [], [⟨true, .bool⟩], []⟩

noncomputable def F23 : List D → Option (List D) := liftF env tb21_22 60 6 23 S23

theorem F23_eq  (sd0 : D) (sd1 : D) : F23  [sd0, sd1] =
    some [(D.bool (qcmp BinOp.eql (qint (qfld sd0 0)) (qint (qfld sd1 2))))] := by kernel_rfl

noncomputable def q23 : List D → Option (List D) := veil (F23 )

theorem q23_eq : q23  = F23  := veil_eq _

noncomputable def tb23 : Tb := Tb.addF tb21_22 23 S23 (q23 )

theorem ok_tb23 : TbOk env (tb23 ) := addFunF ok_tb21_22 23 (by kernel_rfl) _ (q23_eq )

/- function 42  -/

def S42_23_2 : LoopS := ⟨0, [⟨false, (.rows 49)⟩, ⟨false, (.func 23 [] [(.edat 26)])⟩, ⟨false, .any⟩, ⟨false, .any⟩, ⟨false, (.lit (.int .i64 0))⟩, ⟨false, .any⟩, ⟨false, .any⟩, ⟨false, (.int .i64)⟩, ⟨true, (.int .i64)⟩, ⟨false, .any⟩, ⟨false, .any⟩, ⟨false, .any⟩, ⟨false, .any⟩, ⟨false, .any⟩, ⟨false, .any⟩, ⟨false, .any⟩, ⟨false, .any⟩, ⟨false, .any⟩, ⟨false, .any⟩], [], [⟨0, 0, [⟨false, (.rows 49)⟩, ⟨false, (.func 23 [] [(.edat 26)])⟩, ⟨true, .any⟩, ⟨true, .any⟩, ⟨true, (.lit (.int .i64 0))⟩, ⟨true, .any⟩, ⟨true, .any⟩, ⟨false, (.int .i64)⟩, ⟨true, .any⟩, ⟨true, .any⟩, ⟨true, .any⟩, ⟨true, .any⟩, ⟨true, .any⟩, ⟨true, .any⟩, ⟨true, .any⟩, ⟨true, .any⟩, ⟨true, .any⟩, ⟨true, .any⟩, ⟨true, .any⟩], []⟩, ⟨1, 0, [⟨false, (.rows 49)⟩, ⟨false, (.func 23 [] [(.edat 26)])⟩, ⟨true, .any⟩, ⟨true, .any⟩, ⟨true, (.int .i64)⟩, ⟨true, .any⟩, ⟨true, .any⟩, ⟨false, (.int .i64)⟩, ⟨true, .any⟩, ⟨true, .any⟩, ⟨true, .any⟩, ⟨true, .any⟩, ⟨true, .any⟩, ⟨true, .any⟩, ⟨true, .any⟩, ⟨true, .any⟩, ⟨true, .any⟩, ⟨true, .any⟩, ⟨true, .any⟩], []⟩]⟩

noncomputable def st42_23_2 (p s : List D) : Option (Sum (List D) (List D)) := stepQ env tb23 60 6 42 (loopC 42 2) S42_23_2 p s

theorem st42_23_2_eq (pd0 : D) (pd1 : D) (pn2 : Int) (sn0 : Int) : st42_23_2  [pd0, pd1, (D.int pn2)] [(D.int sn0)] =
    bif (qcmp BinOp.lss sn0 pn2) then
      bif (qinb pd0 sn0) then
        bif (qsome (Proofs.Ytcengfpfphdacaa.q23 [(qget pd0 sn0), pd1])) then
          bif (qbool (qnth (Proofs.Ytcengfpfphdacaa.q23 [(qget pd0 sn0), pd1]) 0)) then
            some (Sum.inr [(D.int 1), (D.int sn0)])
          else
            some (Sum.inl [(D.int (qbin BinOp.add IntKind.i64 sn0 1))])
        else
          none
      else
        none
    else
      some (Sum.inr [(D.int 0)]) := by
  have h : st42_23_2  [pd0, pd1, (D.int pn2)] [(D.int sn0)] =
    bif (qcmp BinOp.lss sn0 pn2) then
      bif (qinb pd0 sn0) then
        bif (qsome (Proofs.Ytcengfpfphdacaa.q23 [(qget pd0 sn0), pd1])) then
          bif (qbool (qnth (Proofs.Ytcengfpfphdacaa.q23 [(qget pd0 sn0), pd1]) 0)) then
            bif (qeqD pd0 pd0) then
              bif (qeqD pd1 pd1) then
                bif (qeqD (D.int pn2) (D.int pn2)) then
                  some (Sum.inr [(D.int 1), (D.int sn0)])
                else
                  none
              else
                none
            else
              none
          else
            bif (qeqD pd0 pd0) then
              bif (qeqD pd1 pd1) then
                bif (qeqD (D.int pn2) (D.int pn2)) then
                  some (Sum.inl [(D.int (qbin BinOp.add IntKind.i64 sn0 1))])
                else
                  none
              else
                none
            else
              none
        else
          none
      else
        none
    else
      bif (qeqD pd0 pd0) then
        bif (qeqD pd1 pd1) then
          bif (qeqD (D.int pn2) (D.int pn2)) then
            some (Sum.inr [(D.int 0)])
          else
            none
        else
          none
      else
        none := by kernel_rfl
  rw [h]; simp only [qeqD_self, qeqI_self, qeq_len, List.length_cons, List.length_nil, cond_true]

noncomputable def l42_23_2 : List D → List D → Option (List D) := veil fun p s => loW (st42_23_2  p) s

theorem l42_23_2_eq : l42_23_2  = fun p s => loW (st42_23_2  p) s := veil_eq _

noncomputable def tbl42_23_2 : Tb := Tb.addL tb23 42 2 S42_23_2.n0 (mkLp S42_23_2 (l42_23_2 ))

theorem ok_tbl42_23_2 : TbOk env (tbl42_23_2 ) := addLoopQ ok_tb23 42 2 (by kernel_rfl) _ (l42_23_2_eq )

def S42_23 : FunS := ⟨[⟨true, (.rows 49)⟩, ⟨true, (.func 23 [] [(.edat 26)])⟩], [], [⟨true, (.int .i64)⟩], []⟩

noncomputable def F42_23 : List D → Option (List D) := liftF env tbl42_23_2 60 6 42 S42_23

theorem F42_23_eq  (sd0 : D) (sd1 : D) : F42_23  [sd0, sd1] =
    bif (qsome (Proofs.Ytcengfpfphdacaa.l42_23_2 [sd0, sd1, (D.int (qlen sd0))] [(D.int 0)])) then
      bif (qcmp BinOp.eql (qint (qnth (Proofs.Ytcengfpfphdacaa.l42_23_2 [sd0, sd1, (D.int (qlen sd0))] [(D.int 0)]) 0)) 0) then
        some [(D.int (-1))]
      else
        some [(D.int (qint (qnth (Proofs.Ytcengfpfphdacaa.l42_23_2 [sd0, sd1, (D.int (qlen sd0))] [(D.int 0)]) 1)))]
    else
      none := by kernel_rfl

noncomputable def q42_23 : List D → Option (List D) := veil (F42_23 )

theorem q42_23_eq : q42_23  = F42_23  := veil_eq _

noncomputable def tb42_23 : Tb := Tb.addF tbl42_23_2 42 S42_23 (q42_23 )

theorem ok_tb42_23 : TbOk env (tb42_23 ) := addFunF ok_tbl42_23_2 42 (by kernel_rfl) _ (q42_23_eq )

/- function 21  -/

def S21_23 : FunS := ⟨[⟨true, (.rows 49)⟩, ⟨true, (.func 23 [] [(.edat 26)])⟩], [], [⟨true, .bool⟩], []⟩

noncomputable def F21_23 : List D → Option (List D) := liftF env tb42_23 60 6 21 S21_23

theorem F21_23_eq  (sd0 : D) (sd1 : D) : F21_23  [sd0, sd1] =
    bif (qsome (Proofs.Ytcengfpfphdacaa.q42_23 [sd0, sd1])) then
      some [(D.bool (qcmp BinOp.geq (qint (qnth (Proofs.Ytcengfpfphdacaa.q42_23 [sd0, sd1]) 0)) 0))]
    else
      none := by kernel_rfl

noncomputable def q21_23 : List D → Option (List D) := veil (F21_23 )

theorem q21_23_eq : q21_23  = F21_23  := veil_eq _

noncomputable def tb21_23 : Tb := Tb.addF tb42_23 21 S21_23 (q21_23 )

theorem ok_tb21_23 : TbOk env (tb21_23 ) := addFunF ok_tb42_23 21 (by kernel_rfl) _ (q21_23_eq )

end Go.Proofs.Ytcengfpfphdacaa

open Go Go.AM
namespace Go.Proofs.Ytcengfpfphdacaa
set_option maxRecDepth 100000
/- function 9  -/

def S9_7 : LoopS := ⟨0, [⟨false, .any⟩, ⟨false, (.ptr 0 0)⟩, ⟨false, (.lit (.int .i64 0))⟩, ⟨false, .any⟩, ⟨false, .any⟩, ⟨false, .any⟩, ⟨false, .any⟩, ⟨false, .any⟩, ⟨false, .any⟩, ⟨false, .any⟩, ⟨false, .any⟩, ⟨false, .any⟩, ⟨false, .any⟩, ⟨false, .any⟩, ⟨false, .any⟩, ⟨false, .any⟩, ⟨false, .any⟩, ⟨false, .any⟩, ⟨false, (.rows 49)⟩, ⟨false, (.int .i64)⟩, ⟨true, (.int .i64)⟩, ⟨false, .any⟩, ⟨false, .any⟩, ⟨false, .any⟩, ⟨false, .any⟩, ⟨false, .any⟩, ⟨false, .any⟩, ⟨false, .any⟩, ⟨false, .any⟩, ⟨false, .any⟩, ⟨false, .any⟩, ⟨false, .any⟩, ⟨false, .any⟩, ⟨false, .any⟩, ⟨false, .any⟩, ⟨false, .any⟩, ⟨false, .any⟩, ⟨false, .any⟩, ⟨false, .any⟩, ⟨false, .any⟩, ⟨false, .any⟩, ⟨false, .any⟩], [(.dat false 26)], [⟨0, 0, [⟨true, .any⟩, ⟨true, (.ptr 0 0)⟩, ⟨true, (.lit (.int .i64 0))⟩, ⟨true, .any⟩, ⟨true, .any⟩, ⟨true, .any⟩, ⟨true, .any⟩, ⟨true, .any⟩, ⟨true, .any⟩, ⟨true, .any⟩, ⟨true, .any⟩, ⟨true, .any⟩, ⟨true, .any⟩, ⟨true, .any⟩, ⟨true, .any⟩, ⟨true, .any⟩, ⟨true, .any⟩, ⟨true, .any⟩, ⟨false, (.rows 49)⟩, ⟨false, (.int .i64)⟩, ⟨true, .any⟩, ⟨true, .any⟩, ⟨true, .any⟩, ⟨true, .any⟩, ⟨true, .any⟩, ⟨true, .any⟩, ⟨true, .any⟩, ⟨true, .any⟩, ⟨true, .any⟩, ⟨true, .any⟩, ⟨true, .any⟩, ⟨true, .any⟩, ⟨true, .any⟩, ⟨true, .any⟩, ⟨true, .any⟩, ⟨true, .any⟩, ⟨true, .any⟩, ⟨true, .any⟩, ⟨true, .any⟩, ⟨true, .any⟩, ⟨true, .any⟩, ⟨true, .any⟩], [(.dat false 26)]⟩, ⟨1, 0, [⟨true, .any⟩, ⟨true, .any⟩, ⟨true, (.int .i64)⟩, ⟨true, .any⟩, ⟨true, .any⟩, ⟨true, .any⟩, ⟨true, .any⟩, ⟨true, .any⟩, ⟨true, .any⟩, ⟨true, .any⟩, ⟨true, .any⟩, ⟨true, .any⟩, ⟨true, .any⟩, ⟨true, .any⟩, ⟨true, .any⟩, ⟨true, .any⟩, ⟨true, .any⟩, ⟨true, .any⟩, ⟨false, (.rows 49)⟩, ⟨false, (.int .i64)⟩, ⟨true, .any⟩, ⟨true, .any⟩, ⟨true, .any⟩, ⟨true, .any⟩, ⟨true, .any⟩, ⟨true, .any⟩, ⟨true, .any⟩, ⟨true, .any⟩, ⟨true, .any⟩, ⟨true, .any⟩, ⟨true, .any⟩, ⟨true, .any⟩, ⟨true, .any⟩, ⟨true, .any⟩, ⟨true, .any⟩, ⟨true, .any⟩, ⟨true, .any⟩, ⟨true, .any⟩, ⟨true, .any⟩, ⟨true, .any⟩, ⟨true, .any⟩, ⟨true, .any⟩], [(.dat false 26)]⟩]⟩

noncomputable def st9_7 (p s : List D) : Option (Sum (List D) (List D)) := stepQ env tb21_23 60 6 9 (loopC 9 7) S9_7 p s

theorem st9_7_eq (pd0 : D) (pn1 : Int) (pd2 : D) (sn0 : Int) : st9_7  [pd0, (D.int pn1), pd2] [(D.int sn0)] =
    bif (qcmp BinOp.lss sn0 pn1) then
      bif (qinb pd0 sn0) then
        bif (qsome (Proofs.Ytcengfpfphdacaa.q20 [(qget pd0 sn0)])) then
          bif (qcmp BinOp.neq (qint (qnth (Proofs.Ytcengfpfphdacaa.q20 [(qget pd0 sn0)]) 0)) 0) then
            some (Sum.inr [(D.int 1), (D.int (qint (qnth (Proofs.Ytcengfpfphdacaa.q20 [(qget pd0 sn0)]) 0)))])
          else
            bif (qcmp BinOp.leq 0 0) then
              bif (qcmp BinOp.leq 0 sn0) then
                bif (qcmp BinOp.leq sn0 (qlen (qfld pd2 0))) then
                  bif (qsome (Proofs.Ytcengfpfphdacaa.q21_22 [(qsub (qfld pd2 0) 0 sn0), (qget pd0 sn0)])) then
                    bif (qbool (qnth (Proofs.Ytcengfpfphdacaa.q21_22 [(qsub (qfld pd2 0) 0 sn0), (qget pd0 sn0)]) 0)) then
                      some (Sum.inr [(D.int 1), (D.int 8)])
                    else
                      some (Sum.inl [(D.int (qbin BinOp.add IntKind.i64 sn0 1))])
                  else
                    none
                else
                  none
              else
                none
            else
              none
        else
          none
      else
        none
    else
      some (Sum.inr [(D.int 0)]) := by
  have h : st9_7  [pd0, (D.int pn1), pd2] [(D.int sn0)] =
    bif (qcmp BinOp.lss sn0 pn1) then
      bif (qinb pd0 sn0) then
        bif (qsome (Proofs.Ytcengfpfphdacaa.q20 [(qget pd0 sn0)])) then
          bif (qcmp BinOp.neq (qint (qnth (Proofs.Ytcengfpfphdacaa.q20 [(qget pd0 sn0)]) 0)) 0) then
            bif (qeqD pd0 pd0) then
              bif (qeqD (D.int pn1) (D.int pn1)) then
                bif (qeqD pd2 pd2) then
                  some (Sum.inr [(D.int 1), (D.int (qint (qnth (Proofs.Ytcengfpfphdacaa.q20 [(qget pd0 sn0)]) 0)))])
                else
                  none
              else
                none
            else
              none
          else
            bif (qcmp BinOp.leq 0 0) then
              bif (qcmp BinOp.leq 0 sn0) then
                bif (qcmp BinOp.leq sn0 (qlen (qfld pd2 0))) then
                  bif (qsome (Proofs.Ytcengfpfphdacaa.q21_22 [(qsub (qfld pd2 0) 0 sn0), (qget pd0 sn0)])) then
                    bif (qbool (qnth (Proofs.Ytcengfpfphdacaa.q21_22 [(qsub (qfld pd2 0) 0 sn0), (qget pd0 sn0)]) 0)) then
                      bif (qeqD pd0 pd0) then
                        bif (qeqD (D.int pn1) (D.int pn1)) then
                          bif (qeqD pd2 pd2) then
                            some (Sum.inr [(D.int 1), (D.int 8)])
                          else
                            none
                        else
                          none
                      else
                        none
                    else
                      bif (qeqD pd0 pd0) then
                        bif (qeqD (D.int pn1) (D.int pn1)) then
                          bif (qeqD pd2 pd2) then
                            some (Sum.inl [(D.int (qbin BinOp.add IntKind.i64 sn0 1))])
                          else
                            none
                        else
                          none
                      else
                        none
                  else
                    none
                else
                  none
              else
                none
            else
              none
        else
          none
      else
        none
    else
      bif (qeqD pd0 pd0) then
        bif (qeqD (D.int pn1) (D.int pn1)) then
          bif (qeqD pd2 pd2) then
            some (Sum.inr [(D.int 0)])
          else
            none
        else
          none
      else
        none := by kernel_rfl
  rw [h]; simp only [qeqD_self, qeqI_self, qeq_len, List.length_cons, List.length_nil, cond_true]

noncomputable def l9_7 : List D → List D → Option (List D) := veil fun p s => loW (st9_7  p) s

theorem l9_7_eq : l9_7  = fun p s => loW (st9_7  p) s := veil_eq _

noncomputable def tbl9_7 : Tb := Tb.addL tb21_23 9 7 S9_7.n0 (mkLp S9_7 (l9_7 ))

theorem ok_tbl9_7 : TbOk env (tbl9_7 ) := addLoopQ ok_tb21_23 9 7 (by kernel_rfl) _ (l9_7_eq )

def S9 : FunS := ⟨[⟨true, (.dat 26)⟩], [], [⟨true, (.int .i64)⟩], []⟩

noncomputable def F9 : List D → Option (List D) := liftF env tbl9_7 60 6 9 S9

theorem F9_eq  (sd0 : D) : F9  [sd0] =
    bif (qsome (Proofs.Ytcengfpfphdacaa.q19 [(qfld sd0 1)])) then
      bif (qcmp BinOp.neq (qint (qnth (Proofs.Ytcengfpfphdacaa.q19 [(qfld sd0 1)]) 0)) 0) then
        some [(D.int (qint (qnth (Proofs.Ytcengfpfphdacaa.q19 [(qfld sd0 1)]) 0)))]
      else
        bif (qcmp BinOp.gtr (qlen (qfld sd0 0)) 64) then
          some [(D.int 6)]
        else
          bif (qsome (Proofs.Ytcengfpfphdacaa.l9_7 [(qfld sd0 0), (D.int (qlen (qfld sd0 0))), sd0] [(D.int 0)])) then
            bif (qcmp BinOp.eql (qint (qnth (Proofs.Ytcengfpfphdacaa.l9_7 [(qfld sd0 0), (D.int (qlen (qfld sd0 0))), sd0] [(D.int 0)]) 0)) 0) then
              bif (qsome (Proofs.Ytcengfpfphdacaa.q21_23 [(qfld sd0 0), sd0])) then
                bif (qnot (qbool (qnth (Proofs.Ytcengfpfphdacaa.q21_23 [(qfld sd0 0), sd0]) 0))) then
                  some [(D.int 17)]
                else
                  some [(D.int 0)]
              else
                none
            else
              some [(D.int (qint (qnth (Proofs.Ytcengfpfphdacaa.l9_7 [(qfld sd0 0), (D.int (qlen (qfld sd0 0))), sd0] [(D.int 0)]) 1)))]
          else
            none
    else
      none := by kernel_rfl

noncomputable def q9 : List D → Option (List D) := veil (F9 )

theorem q9_eq : q9  = F9  := veil_eq _

noncomputable def tb9 : Tb := Tb.addF tbl9_7 9 S9 (q9 )

theorem ok_tb9 : TbOk env (tb9 ) := addFunF ok_tbl9_7 9 (by kernel_rfl) _ (q9_eq )

end Go.Proofs.Ytcengfpfphdacaa

open Go Go.AM
namespace Go.Proofs.Ytcengfpfphdacaa
set_option maxRecDepth 100000
/- function 10  -/

def S10_7 : LoopS := ⟨0, [⟨false, .any⟩, ⟨false, (.ptr 0 0)⟩, ⟨false, (.lit (.int .i64 0))⟩, ⟨false, .any⟩, ⟨true, (.int .i64)⟩, ⟨false, .any⟩, ⟨false, .any⟩, ⟨false, .any⟩, ⟨false, .any⟩, ⟨false, .any⟩, ⟨false, .any⟩, ⟨false, .any⟩, ⟨false, .any⟩, ⟨false, .any⟩, ⟨false, .any⟩, ⟨false, .any⟩, ⟨false, .any⟩, ⟨false, .any⟩, ⟨false, .any⟩, ⟨false, .any⟩, ⟨false, .any⟩, ⟨false, .any⟩, ⟨false, .any⟩, ⟨false, .any⟩, ⟨false, .any⟩, ⟨false, .any⟩, ⟨false, .any⟩, ⟨false, .any⟩, ⟨false, .any⟩, ⟨false, .any⟩, ⟨false, .any⟩, ⟨false, .any⟩, ⟨false, .any⟩, ⟨false, .any⟩, ⟨false, .any⟩, ⟨false, .any⟩, ⟨false, .any⟩, ⟨false, .any⟩, ⟨false, .any⟩, ⟨false, .any⟩, ⟨false, .any⟩, ⟨false, .any⟩, ⟨false, .any⟩, ⟨false, .any⟩, ⟨false, .any⟩, ⟨false, .any⟩, ⟨false, .any⟩], [(.dat false 32)], [⟨0, 0, [⟨true, .any⟩, ⟨true, (.ptr 0 0)⟩, ⟨true, (.lit (.int .i64 0))⟩, ⟨true, .any⟩, ⟨true, .any⟩, ⟨true, .any⟩, ⟨true, .any⟩, ⟨true, .any⟩, ⟨true, .any⟩, ⟨true, .any⟩, ⟨true, .any⟩, ⟨true, .any⟩, ⟨true, .any⟩, ⟨true, .any⟩, ⟨true, .any⟩, ⟨true, .any⟩, ⟨true, .any⟩, ⟨true, .any⟩, ⟨true, .any⟩, ⟨true, .any⟩, ⟨true, .any⟩, ⟨true, .any⟩, ⟨true, .any⟩, ⟨true, .any⟩, ⟨true, .any⟩, ⟨true, .any⟩, ⟨true, .any⟩, ⟨true, .any⟩, ⟨true, .any⟩, ⟨true, .any⟩, ⟨true, .any⟩, ⟨true, .any⟩, ⟨true, .any⟩, ⟨true, .any⟩, ⟨true, .any⟩, ⟨true, .any⟩, ⟨true, .any⟩, ⟨true, .any⟩, ⟨true, .any⟩, ⟨true, .any⟩, ⟨true, .any⟩, ⟨true, .any⟩, ⟨true, .any⟩, ⟨true, .any⟩, ⟨true, .any⟩, ⟨true, .any⟩, ⟨true, .any⟩], [(.dat false 32)]⟩, ⟨1, 0, [⟨true, .any⟩, ⟨true, .any⟩, ⟨true, (.int .i64)⟩, ⟨true, .any⟩, ⟨true, .any⟩, ⟨true, .any⟩, ⟨true, .any⟩, ⟨true, .any⟩, ⟨true, .any⟩, ⟨true, .any⟩, ⟨true, .any⟩, ⟨true, .any⟩, ⟨true, .any⟩, ⟨true, .any⟩, ⟨true, .any⟩, ⟨true, .any⟩, ⟨true, .any⟩, ⟨true, .any⟩, ⟨true, .any⟩, ⟨true, .any⟩, ⟨true, .any⟩, ⟨true, .any⟩, ⟨true, .any⟩, ⟨true, .any⟩, ⟨true, .any⟩, ⟨true, .any⟩, ⟨true, .any⟩, ⟨true, .any⟩, ⟨true, .any⟩, ⟨true, .any⟩, ⟨true, .any⟩, ⟨true, .any⟩, ⟨true, .any⟩, ⟨true, .any⟩, ⟨true, .any⟩, ⟨true, .any⟩, ⟨true, .any⟩, ⟨true, .any⟩, ⟨true, .any⟩, ⟨true, .any⟩, ⟨true, .any⟩, ⟨true, .any⟩, ⟨true, .any⟩, ⟨true, .any⟩, ⟨true, .any⟩, ⟨true, .any⟩, ⟨true, .any⟩], [(.dat false 32)]⟩]⟩

noncomputable def st10_7 (p s : List D) : Option (Sum (List D) (List D)) := stepQ env tb9 60 6 10 (loopC 10 7) S10_7 p s

theorem st10_7_eq (pd0 : D) (sn0 : Int) : st10_7  [pd0] [(D.int sn0)] =
    bif (qcmp BinOp.lss sn0 (qlen (qfld pd0 0))) then
      bif (qinb (qfld pd0 0) sn0) then
        bif (qsome (Proofs.Ytcengfpfphdacaa.q25 [(qget (qfld pd0 0) sn0)])) then
          bif (qcmp BinOp.neq (qint (qnth (Proofs.Ytcengfpfphdacaa.q25 [(qget (qfld pd0 0) sn0)]) 0)) 0) then
            some (Sum.inr [(D.int 1), (D.int (qint (qnth (Proofs.Ytcengfpfphdacaa.q25 [(qget (qfld pd0 0) sn0)]) 0)))])
          else
            bif (qinb (qfld pd0 0) sn0) then
              bif (qsome (Proofs.Ytcengfpfphdacaa.q26 [pd0, (D.int (qint (qfld (qget (qfld pd0 0) sn0) 0)))])) then
                bif (qcmp BinOp.neq (qint (qnth (Proofs.Ytcengfpfphdacaa.q26 [pd0, (D.int (qint (qfld (qget (qfld pd0 0) sn0) 0)))]) 0)) sn0) then
                  some (Sum.inr [(D.int 1), (D.int 8)])
                else
                  some (Sum.inl [(D.int (qbin BinOp.add IntKind.i64 sn0 1))])
              else
                none
            else
              none
        else
          none
      else
        none
    else
      some (Sum.inr [(D.int 0)]) := by
  have h : st10_7  [pd0] [(D.int sn0)] =
    bif (qcmp BinOp.lss sn0 (qlen (qfld pd0 0))) then
      bif (qinb (qfld pd0 0) sn0) then
        bif (qsome (Proofs.Ytcengfpfphdacaa.q25 [(qget (qfld pd0 0) sn0)])) then
          bif (qcmp BinOp.neq (qint (qnth (Proofs.Ytcengfpfphdacaa.q25 [(qget (qfld pd0 0) sn0)]) 0)) 0) then
            bif (qeqD pd0 pd0) then
              some (Sum.inr [(D.int 1), (D.int (qint (qnth (Proofs.Ytcengfpfphdacaa.q25 [(qget (qfld pd0 0) sn0)]) 0)))])
            else
              none
          else
            bif (qinb (qfld pd0 0) sn0) then
              bif (qsome (Proofs.Ytcengfpfphdacaa.q26 [pd0, (D.int (qint (qfld (qget (qfld pd0 0) sn0) 0)))])) then
                bif (qcmp BinOp.neq (qint (qnth (Proofs.Ytcengfpfphdacaa.q26 [pd0, (D.int (qint (qfld (qget (qfld pd0 0) sn0) 0)))]) 0)) sn0) then
                  bif (qeqD pd0 pd0) then
                    some (Sum.inr [(D.int 1), (D.int 8)])
                  else
                    none
                else
                  bif (qeqD pd0 pd0) then
                    some (Sum.inl [(D.int (qbin BinOp.add IntKind.i64 sn0 1))])
                  else
                    none
              else
                none
            else
              none
        else
          none
      else
        none
    else
      bif (qeqD pd0 pd0) then
        some (Sum.inr [(D.int 0)])
      else
        none := by kernel_rfl
  rw [h]; simp only [qeqD_self, qeqI_self, qeq_len, List.length_cons, List.length_nil, cond_true]

noncomputable def l10_7 : List D → List D → Option (List D) := veil fun p s => loW (st10_7  p) s

theorem l10_7_eq : l10_7  = fun p s => loW (st10_7  p) s := veil_eq _

noncomputable def tbl10_7 : Tb := Tb.addL tb9 10 7 S10_7.n0 (mkLp S10_7 (l10_7 ))

theorem ok_tbl10_7 : TbOk env (tbl10_7 ) := addLoopQ ok_tb9 10 7 (by kernel_rfl) _ (l10_7_eq )

def S10 : FunS := ⟨[⟨true, (.dat 32)⟩], [], [⟨true, (.int .i64)⟩], []⟩

noncomputable def F10 : List D → Option (List D) := liftF env tbl10_7 60 6 10 S10

theorem F10_eq  (sd0 : D) : F10  [sd0] =
    bif (qsome (Proofs.Ytcengfpfphdacaa.q24 [(qfld sd0 1)])) then
      bif (qcmp BinOp.neq (qint (qnth (Proofs.Ytcengfpfphdacaa.q24 [(qfld sd0 1)]) 0)) 0) then
        some [(D.int (qint (qnth (Proofs.Ytcengfpfphdacaa.q24 [(qfld sd0 1)]) 0)))]
      else
        bif (qcmp BinOp.gtr (qlen (qfld sd0 0)) 64) then
          some [(D.int 6)]
        else
          bif (qsome (Proofs.Ytcengfpfphdacaa.l10_7 [sd0] [(D.int 0)])) then
            bif (qcmp BinOp.eql (qint (qnth (Proofs.Ytcengfpfphdacaa.l10_7 [sd0] [(D.int 0)]) 0)) 0) then
              bif (qsome (Proofs.Ytcengfpfphdacaa.q26 [sd0, (D.int (qint (qfld sd0 2)))])) then
                bif (qcmp BinOp.lss (qint (qnth (Proofs.Ytcengfpfphdacaa.q26 [sd0, (D.int (qint (qfld sd0 2)))]) 0)) 0) then
                  some [(D.int 17)]
                else
                  some [(D.int 0)]
              else
                none
            else
              some [(D.int (qint (qnth (Proofs.Ytcengfpfphdacaa.l10_7 [sd0] [(D.int 0)]) 1)))]
          else
            none
    else
      none := by kernel_rfl

noncomputable def q10 : List D → Option (List D) := veil (F10 )

theorem q10_eq : q10  = F10  := veil_eq _

noncomputable def tb10 : Tb := Tb.addF tbl10_7 10 S10 (q10 )

theorem ok_tb10 : TbOk env (tb10 ) := addFunF ok_tbl10_7 10 (by kernel_rfl) _ (q10_eq )

end Go.Proofs.Ytcengfpfphdacaa

open Go Go.AM
namespace Go.Proofs.Ytcengfpfphdacaa
set_option maxRecDepth 100000
noncomputable def tb8 : Tb := Tb.addF tb10 8 S8 q8

theorem ok_tb8 : TbOk env tb8 := TbOk.addF ok_tb10 (by kernel_rfl) sound8

/- function 3  -/

def S3 : FunS := ⟨[⟨true, (.dat 26)⟩], [], [⟨true, .bool⟩], []⟩

noncomputable def F3 : List D → Option (List D) := liftF env tb8 60 6 3 S3

theorem F3_eq  (sd0 : D) : F3  [sd0] =
    bif (qsome (Proofs.Ytcengfpfphdacaa.q7 [sd0, (D.int 0)])) then
      bif (qbool (qnth (Proofs.Ytcengfpfphdacaa.q7 [sd0, (D.int 0)]) 0)) then
        bif (qsome (Proofs.Ytcengfpfphdacaa.q8 [])) then
          some [(D.bool (qbool (qnth (Proofs.Ytcengfpfphdacaa.q8 []) 0)))]
        else
          none
      else
        bif (qsome (Proofs.Ytcengfpfphdacaa.q9 [sd0])) then
          bif (qsome (Proofs.Ytcengfpfphdacaa.q11 [sd0])) then
            bif (qsome (Proofs.Ytcengfpfphdacaa.q10 [(qnth (Proofs.Ytcengfpfphdacaa.q11 [sd0]) 0)])) then
              bif (qcmp BinOp.eql (qint (qnth (Proofs.Ytcengfpfphdacaa.q9 [sd0]) 0)) (qint (qnth (Proofs.Ytcengfpfphdacaa.q10 [(qnth (Proofs.Ytcengfpfphdacaa.q11 [sd0]) 0)]) 0))) then
                bif (qsome (Proofs.Ytcengfpfphdacaa.q8 [])) then
                  some [(D.bool (qbool (qnth (Proofs.Ytcengfpfphdacaa.q8 []) 0)))]
                else
                  none
              else
                some [(D.bool Bool.false)]
            else
              none
          else
            none
        else
          none
    else
      none := by kernel_rfl

noncomputable def q3 : List D → Option (List D) := veil (F3 )

theorem q3_eq : q3  = F3  := veil_eq _

noncomputable def tb3 : Tb := Tb.addF tb8 3 S3 (q3 )

theorem ok_tb3 : TbOk env (tb3 ) := addFunF ok_tb8 3 (by kernel_rfl) _ (q3_eq )

end Go.Proofs.Ytcengfpfphdacaa
