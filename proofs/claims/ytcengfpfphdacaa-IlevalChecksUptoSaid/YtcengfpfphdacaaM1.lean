/-
  Made by gen3.py: what functions of the seat compute, as partial functions on data, and that they do.
-/
import Derived.Test.YtcengfpfphdacaaC1
import Derived.KernelRfl
open Go Go.AM
namespace Go.Proofs.Ytcengfpfphdacaa
set_option maxRecDepth 100000
/- function 26  -/

def S26_2 : LoopS := ⟨0, [⟨false, .any⟩, ⟨false, (.int .u32)⟩, ⟨false, (.ptr 0 0)⟩, ⟨false, .any⟩, ⟨false, (.lit (.int .i64 0))⟩, ⟨true, (.int .i64)⟩, ⟨false, .any⟩, ⟨false, .any⟩, ⟨false, .any⟩, ⟨false, .any⟩, ⟨false, .any⟩, ⟨false, .any⟩, ⟨false, .any⟩, ⟨false, .any⟩, ⟨false, .any⟩, ⟨false, .any⟩, ⟨false, .any⟩, ⟨false, .any⟩, ⟨false, .any⟩, ⟨false, .any⟩, ⟨false, .any⟩, ⟨false, .any⟩], [(.dat false 32)], [⟨0, 0, [⟨true, .any⟩, ⟨false, (.int .u32)⟩, ⟨true, .any⟩, ⟨true, .any⟩, ⟨true, (.lit (.int .i64 0))⟩, ⟨true, .any⟩, ⟨true, .any⟩, ⟨true, .any⟩, ⟨true, .any⟩, ⟨true, .any⟩, ⟨true, .any⟩, ⟨true, .any⟩, ⟨true, .any⟩, ⟨true, .any⟩, ⟨true, .any⟩, ⟨true, .any⟩, ⟨true, .any⟩, ⟨true, .any⟩, ⟨true, .any⟩, ⟨true, .any⟩, ⟨true, .any⟩, ⟨true, .any⟩], [(.dat false 32)]⟩, ⟨1, 0, [⟨true, .any⟩, ⟨false, (.int .u32)⟩, ⟨true, .any⟩, ⟨true, .any⟩, ⟨true, (.int .i64)⟩, ⟨true, .any⟩, ⟨true, .any⟩, ⟨true, .any⟩, ⟨true, .any⟩, ⟨true, .any⟩, ⟨true, .any⟩, ⟨true, .any⟩, ⟨true, .any⟩, ⟨true, .any⟩, ⟨true, .any⟩, ⟨true, .any⟩, ⟨true, .any⟩, ⟨true, .any⟩, ⟨true, .any⟩, ⟨true, .any⟩, ⟨true, .any⟩, ⟨true, .any⟩], [(.dat false 32)]⟩]⟩

noncomputable def st26_2 (p s : List D) : Option (Sum (List D) (List D)) := stepQ env Tb.nil 60 6 26 (loopC 26 2) S26_2 p s

theorem st26_2_eq (pn0 : Int) (pd1 : D) (sn0 : Int) : st26_2  [(D.int pn0), pd1] [(D.int sn0)] =
    bif (qcmp BinOp.lss sn0 (qlen (qfld pd1 0))) then
      bif (qinb (qfld pd1 0) sn0) then
        bif (qcmp BinOp.eql (qint (qfld (qget (qfld pd1 0) sn0) 0)) pn0) then
          some (Sum.inr [(D.int 1), (D.int sn0)])
        else
          some (Sum.inl [(D.int (qbin BinOp.add IntKind.i64 sn0 1))])
      else
        none
    else
      some (Sum.inr [(D.int 0)]) := by
  have h : st26_2  [(D.int pn0), pd1] [(D.int sn0)] =
    bif (qcmp BinOp.lss sn0 (qlen (qfld pd1 0))) then
      bif (qinb (qfld pd1 0) sn0) then
        bif (qcmp BinOp.eql (qint (qfld (qget (qfld pd1 0) sn0) 0)) pn0) then
          bif (qeqD (D.int pn0) (D.int pn0)) then
            bif (qeqD pd1 pd1) then
              some (Sum.inr [(D.int 1), (D.int sn0)])
            else
              none
          else
            none
        else
          bif (qeqD (D.int pn0) (D.int pn0)) then
            bif (qeqD pd1 pd1) then
              some (Sum.inl [(D.int (qbin BinOp.add IntKind.i64 sn0 1))])
            else
              none
          else
            none
      else
        none
    else
      bif (qeqD (D.int pn0) (D.int pn0)) then
        bif (qeqD pd1 pd1) then
          some (Sum.inr [(D.int 0)])
        else
          none
      else
        none := by kernel_rfl
  rw [h]; simp only [qeqD_self, qeqI_self, qeq_len, List.length_cons, List.length_nil, cond_true]

noncomputable def l26_2 : List D → List D → Option (List D) := veil fun p s => loW (st26_2  p) s

theorem l26_2_eq : l26_2  = fun p s => loW (st26_2  p) s := veil_eq _

noncomputable def tbl26_2 : Tb := Tb.addL Tb.nil 26 2 S26_2.n0 (mkLp S26_2 (l26_2 ))

theorem ok_tbl26_2 : TbOk env (tbl26_2 ) := addLoopQ ok_nil 26 2 (by kernel_rfl) _ (l26_2_eq )

def S26 : FunS := ⟨[⟨true, (.dat 32)⟩, ⟨true, (.int .u32)⟩], [], [⟨true, (.int .i64)⟩], []⟩

noncomputable def F26 : List D → Option (List D) := liftF env tbl26_2 60 6 26 S26

theorem F26_eq  (sd0 : D) (sn1 : Int) : F26  [sd0, (D.int sn1)] =
    bif (qsome (Proofs.Ytcengfpfphdacaa.l26_2 [(D.int sn1), sd0] [(D.int 0)])) then
      bif (qcmp BinOp.eql (qint (qnth (Proofs.Ytcengfpfphdacaa.l26_2 [(D.int sn1), sd0] [(D.int 0)]) 0)) 0) then
        some [(D.int (-1))]
      else
        some [(D.int (qint (qnth (Proofs.Ytcengfpfphdacaa.l26_2 [(D.int sn1), sd0] [(D.int 0)]) 1)))]
    else
      none := by kernel_rfl

noncomputable def q26 : List D → Option (List D) := veil (F26 )

theorem q26_eq : q26  = F26  := veil_eq _

noncomputable def tb26 : Tb := Tb.addF tbl26_2 26 S26 (q26 )

theorem ok_tb26 : TbOk env (tb26 ) := addFunF ok_tbl26_2 26 (by kernel_rfl) _ (q26_eq )

/- function 61  -/

def S61 : FunS := ⟨[⟨true, (.dat 81)⟩], [], [⟨true, .bool⟩], []⟩

noncomputable def F61 : List D → Option (List D) := liftF env tb26 60 6 61 S61

theorem F61_eq  (sd0 : D) : F61  [sd0] =
    some [(D.bool (qiteB (qcmp BinOp.geq (qint (qfld sd0 0)) 6) (qcmp BinOp.leq (qint (qfld sd0 0)) 10) Bool.false))] := by kernel_rfl

noncomputable def q61 : List D → Option (List D) := veil (F61 )

theorem q61_eq : q61  = F61  := veil_eq _

noncomputable def tb61 : Tb := Tb.addF tb26 61 S61 (q61 )

theorem ok_tb61 : TbOk env (tb61 ) := addFunF ok_tb26 61 (by kernel_rfl) _ (q61_eq )

/- function 69  -/

def S69 : FunS := ⟨[⟨true, (.dat 81)⟩], [], [⟨true, .bool⟩], []⟩

noncomputable def F69 : List D → Option (List D) := liftF env tb61 60 6 69 S69

theorem F69_eq  (sd0 : D) : F69  [sd0] =
    some [(D.bool (qiteB (qcmp BinOp.geq (qint (qfld sd0 0)) 6) (qcmp BinOp.leq (qint (qfld sd0 0)) 10) Bool.false))] := by kernel_rfl

noncomputable def q69 : List D → Option (List D) := veil (F69 )

theorem q69_eq : q69  = F69  := veil_eq _

noncomputable def tb69 : Tb := Tb.addF tb61 69 S69 (q69 )

theorem ok_tb69 : TbOk env (tb69 ) := addFunF ok_tb61 69 (by kernel_rfl) _ (q69_eq )

/- function 74  -/

def S74 : FunS := ⟨[⟨true, (.int .i64)⟩], [], [⟨true, .bool⟩], []⟩

noncomputable def F74 : List D → Option (List D) := liftF env tb69 60 6 74 S74

theorem F74_eq  (sn0 : Int) : F74  [(D.int sn0)] =
    some [(D.bool (qiteB (qcmp BinOp.geq sn0 0) (qcmp BinOp.lss sn0 65536) Bool.false))] := by kernel_rfl

noncomputable def q74 : List D → Option (List D) := veil (F74 )

theorem q74_eq : q74  = F74  := veil_eq _

noncomputable def tb74 : Tb := Tb.addF tb69 74 S74 (q74 )

theorem ok_tb74 : TbOk env (tb74 ) := addFunF ok_tb69 74 (by kernel_rfl) _ (q74_eq )

/- function 83  -/

def S83 : FunS := ⟨[⟨true, (.int .i64)⟩], [], [⟨true, .bool⟩], []⟩

noncomputable def F83 : List D → Option (List D) := liftF env tb74 60 6 83 S83

theorem F83_eq  (sn0 : Int) : F83  [(D.int sn0)] =
    some [(D.bool (qiteB (qcmp BinOp.geq sn0 0) (qcmp BinOp.lss sn0 65536) Bool.false))] := by kernel_rfl

noncomputable def q83 : List D → Option (List D) := veil (F83 )

theorem q83_eq : q83  = F83  := veil_eq _

noncomputable def tb83 : Tb := Tb.addF tb74 83 S83 (q83 )

theorem ok_tb83 : TbOk env (tb83 ) := addFunF ok_tb74 83 (by kernel_rfl) _ (q83_eq )

/- function 84  -/

def S84 : FunS := ⟨[⟨true, (.int .i64)⟩], [], [⟨true, .bool⟩], []⟩

noncomputable def F84 : List D → Option (List D) := liftF env tb83 60 6 84 S84

theorem F84_eq  (sn0 : Int) : F84  [(D.int sn0)] =
    some [(D.bool (qiteB (qiteB (qcmp BinOp.eql sn0 1) Bool.true (qcmp BinOp.eql sn0 2)) Bool.true (qcmp BinOp.eql sn0 4)))] := by kernel_rfl

noncomputable def q84 : List D → Option (List D) := veil (F84 )

theorem q84_eq : q84  = F84  := veil_eq _

noncomputable def tb84 : Tb := Tb.addF tb83 84 S84 (q84 )

theorem ok_tb84 : TbOk env (tb84 ) := addFunF ok_tb83 84 (by kernel_rfl) _ (q84_eq )

/- function 66  -/

def S66 : FunS := ⟨[⟨true, (.int .i64)⟩], [], [⟨true, (.int .i64)⟩], []⟩

noncomputable def F66 : List D → Option (List D) := liftF env tb84 60 6 66 S66

theorem F66_eq  (sn0 : Int) : F66  [(D.int sn0)] =
    bif (qiteB (qcmp BinOp.eql sn0 1) (qcmp BinOp.eql sn0 1) (qiteB (qcmp BinOp.eql sn0 4) (qcmp BinOp.eql sn0 4) (qiteB (qcmp BinOp.eql sn0 7) (qcmp BinOp.eql sn0 7) (qcmp BinOp.eql sn0 8)))) then
      some [(D.int 1)]
    else
      bif (qcmp BinOp.eql sn0 2) then
        some [(D.int 2)]
      else
        bif (qiteB (qcmp BinOp.eql sn0 3) (qcmp BinOp.eql sn0 3) (qiteB (qcmp BinOp.eql sn0 5) (qcmp BinOp.eql sn0 5) (qiteB (qcmp BinOp.eql sn0 6) (qcmp BinOp.eql sn0 6) (qiteB (qcmp BinOp.eql sn0 9) (qcmp BinOp.eql sn0 9) (qcmp BinOp.eql sn0 10))))) then
          some [(D.int 0)]
        else
          some [(D.int (-1))] := by kernel_rfl

noncomputable def q66 : List D → Option (List D) := veil (F66 )

theorem q66_eq : q66  = F66  := veil_eq _

noncomputable def tb66 : Tb := Tb.addF tb84 66 S66 (q66 )

theorem ok_tb66 : TbOk env (tb66 ) := addFunF ok_tb84 66 (by kernel_rfl) _ (q66_eq )

/- function 71  -/

def S71 : FunS := ⟨[⟨true, (.int .i64)⟩], [], [⟨true, (.int .i64)⟩], []⟩

noncomputable def F71 : List D → Option (List D) := liftF env tb66 60 6 71 S71

theorem F71_eq  (sn0 : Int) : F71  [(D.int sn0)] =
    bif (qcmp BinOp.eql sn0 2) then
      some [(D.int 2)]
    else
      bif (qiteB (qcmp BinOp.eql sn0 1) (qcmp BinOp.eql sn0 1) (qiteB (qcmp BinOp.eql sn0 4) (qcmp BinOp.eql sn0 4) (qiteB (qcmp BinOp.eql sn0 7) (qcmp BinOp.eql sn0 7) (qcmp BinOp.eql sn0 8)))) then
        some [(D.int 1)]
      else
        some [(D.int 0)] := by kernel_rfl

noncomputable def q71 : List D → Option (List D) := veil (F71 )

theorem q71_eq : q71  = F71  := veil_eq _

noncomputable def tb71 : Tb := Tb.addF tb66 71 S71 (q71 )

theorem ok_tb71 : TbOk env (tb71 ) := addFunF ok_tb66 71 (by kernel_rfl) _ (q71_eq )

end Go.Proofs.Ytcengfpfphdacaa

open Go Go.AM
namespace Go.Proofs.Ytcengfpfphdacaa
set_option maxRecDepth 100000
/- function 67  -/

def S67 : FunS := ⟨[⟨true, (.dat 81)⟩], [], [⟨true, .bool⟩], []⟩

noncomputable def F67 : List D → Option (List D) := liftF env tb71 60 6 67 S67

theorem F67_eq  (sd0 : D) : F67  [sd0] =
    bif (qiteB (qcmp BinOp.eql (qint (qfld sd0 0)) 1) (qcmp BinOp.eql (qint (qfld sd0 0)) 1) (qcmp BinOp.eql (qint (qfld sd0 0)) 3)) then
      bif (qsome (Proofs.Ytcengfpfphdacaa.q83 [(D.int (qint (qfld sd0 1)))])) then
        bif (qnot (qbool (qnth (Proofs.Ytcengfpfphdacaa.q83 [(D.int (qint (qfld sd0 1)))]) 0))) then
          some [(D.bool Bool.false)]
        else
          some [(D.bool (qiteB (qiteB (qiteB (qiteB (qiteB (qcmp BinOp.eql (qint (qfld sd0 1)) (qint (qfld sd0 1))) (qcmp BinOp.eql (qint (qfld sd0 2)) 0) Bool.false) (qcmp BinOp.eql (qint (qfld sd0 5)) 0) Bool.false) (qcmp BinOp.eql (qint (qfld sd0 3)) 0) Bool.false) (qcmp BinOp.eql (qint (qfld sd0 4)) 0) Bool.false) (qcmp BinOp.eql (qlen (qfld sd0 7)) 0) Bool.false))]
      else
        none
    else
      bif (qcmp BinOp.eql (qint (qfld sd0 0)) 2) then
        bif (qsome (Proofs.Ytcengfpfphdacaa.q84 [(D.int (qint (qfld sd0 2)))])) then
          bif (qnot (qbool (qnth (Proofs.Ytcengfpfphdacaa.q84 [(D.int (qint (qfld sd0 2)))]) 0))) then
            some [(D.bool Bool.false)]
          else
            some [(D.bool (qiteB (qiteB (qiteB (qiteB (qiteB (qcmp BinOp.eql (qint (qfld sd0 1)) 0) (qcmp BinOp.eql (qint (qfld sd0 2)) (qint (qfld sd0 2))) Bool.false) (qcmp BinOp.eql (qint (qfld sd0 5)) 0) Bool.false) (qcmp BinOp.eql (qint (qfld sd0 3)) 0) Bool.false) (qcmp BinOp.eql (qint (qfld sd0 4)) 0) Bool.false) (qcmp BinOp.eql (qlen (qfld sd0 7)) 0) Bool.false))]
        else
          none
      else
        bif (qcmp BinOp.eql (qint (qfld sd0 0)) 5) then
          some [(D.bool (qiteB (qiteB (qiteB (qiteB (qiteB (qcmp BinOp.eql (qint (qfld sd0 1)) 0) (qcmp BinOp.eql (qint (qfld sd0 2)) 0) Bool.false) (qcmp BinOp.eql (qint (qfld sd0 5)) (qint (qfld sd0 5))) Bool.false) (qcmp BinOp.eql (qint (qfld sd0 3)) 0) Bool.false) (qcmp BinOp.eql (qint (qfld sd0 4)) 0) Bool.false) (qcmp BinOp.eql (qlen (qfld sd0 7)) 0) Bool.false))]
        else
          bif (qcmp BinOp.eql (qint (qfld sd0 0)) 6) then
            some [(D.bool (qiteB (qiteB (qiteB (qiteB (qiteB (qcmp BinOp.eql (qint (qfld sd0 1)) 0) (qcmp BinOp.eql (qint (qfld sd0 2)) 0) Bool.false) (qcmp BinOp.eql (qint (qfld sd0 5)) 0) Bool.false) (qcmp BinOp.eql (qint (qfld sd0 3)) (qint (qfld sd0 3))) Bool.false) (qcmp BinOp.eql (qint (qfld sd0 4)) 0) Bool.false) (qcmp BinOp.eql (qlen (qfld sd0 7)) 0) Bool.false))]
          else
            bif (qcmp BinOp.eql (qint (qfld sd0 0)) 7) then
              some [(D.bool (qiteB (qiteB (qiteB (qiteB (qiteB (qcmp BinOp.eql (qint (qfld sd0 1)) 0) (qcmp BinOp.eql (qint (qfld sd0 2)) 0) Bool.false) (qcmp BinOp.eql (qint (qfld sd0 5)) 0) Bool.false) (qcmp BinOp.eql (qint (qfld sd0 3)) (qint (qfld sd0 3))) Bool.false) (qcmp BinOp.eql (qint (qfld sd0 4)) (qint (qfld sd0 4))) Bool.false) (qcmp BinOp.eql (qlen (qfld sd0 7)) 0) Bool.false))]
            else
              bif (qcmp BinOp.eql (qint (qfld sd0 0)) 8) then
                bif (qiteB (qcmp BinOp.lss (qlen (qfld sd0 7)) 1) Bool.true (qcmp BinOp.gtr (qlen (qfld sd0 7)) 64)) then
                  some [(D.bool Bool.false)]
                else
                  some [(D.bool (qiteB (qiteB (qiteB (qiteB (qiteB (qcmp BinOp.eql (qint (qfld sd0 1)) 0) (qcmp BinOp.eql (qint (qfld sd0 2)) 0) Bool.false) (qcmp BinOp.eql (qint (qfld sd0 5)) 0) Bool.false) (qcmp BinOp.eql (qint (qfld sd0 3)) 0) Bool.false) (qcmp BinOp.eql (qint (qfld sd0 4)) 0) Bool.false) (qcmp BinOp.eql (qlen (qfld sd0 7)) (qlen (qfld sd0 7))) Bool.false))]
              else
                some [(D.bool (qiteB (qiteB (qiteB (qiteB (qiteB (qcmp BinOp.eql (qint (qfld sd0 1)) 0) (qcmp BinOp.eql (qint (qfld sd0 2)) 0) Bool.false) (qcmp BinOp.eql (qint (qfld sd0 5)) 0) Bool.false) (qcmp BinOp.eql (qint (qfld sd0 3)) 0) Bool.false) (qcmp BinOp.eql (qint (qfld sd0 4)) 0) Bool.false) (qcmp BinOp.eql (qlen (qfld sd0 7)) 0) Bool.false))] := by kernel_rfl

noncomputable def q67 : List D → Option (List D) := veil (F67 )

theorem q67_eq : q67  = F67  := veil_eq _

noncomputable def tb67 : Tb := Tb.addF tb71 67 S67 (q67 )

theorem ok_tb67 : TbOk env (tb67 ) := addFunF ok_tb71 67 (by kernel_rfl) _ (q67_eq )

/- function 73  -/

def S73 : FunS := ⟨[⟨true, (.dat 81)⟩], [], [⟨true, .bool⟩], []⟩

noncomputable def F73 : List D → Option (List D) := liftF env tb67 60 6 73 S73

theorem F73_eq  (sd0 : D) : F73  [sd0] =
    some [(D.bool (qiteB (qiteB (qiteB (qiteB (qiteB (qiteB (qiteB (qcmp BinOp.eql (qint (qfld sd0 0)) 1) Bool.true (qcmp BinOp.eql (qint (qfld sd0 0)) 3)) Bool.true (qcmp BinOp.eql (qint (qfld sd0 1)) 0)) (qiteB (qcmp BinOp.eql (qint (qfld sd0 0)) 2) Bool.true (qcmp BinOp.eql (qint (qfld sd0 2)) 0)) Bool.false) (qiteB (qiteB (qcmp BinOp.eql (qint (qfld sd0 0)) 6) Bool.true (qcmp BinOp.eql (qint (qfld sd0 0)) 7)) Bool.true (qcmp BinOp.eql (qint (qfld sd0 3)) 0)) Bool.false) (qiteB (qcmp BinOp.eql (qint (qfld sd0 0)) 7) Bool.true (qcmp BinOp.eql (qint (qfld sd0 4)) 0)) Bool.false) (qiteB (qcmp BinOp.eql (qint (qfld sd0 0)) 5) Bool.true (qcmp BinOp.eql (qint (qfld sd0 5)) 0)) Bool.false) (qiteB (qcmp BinOp.eql (qint (qfld sd0 0)) 8) Bool.true (qcmp BinOp.eql (qlen (qfld sd0 7)) 0)) Bool.false))] := by kernel_rfl

noncomputable def q73 : List D → Option (List D) := veil (F73 )

theorem q73_eq : q73  = F73  := veil_eq _

noncomputable def tb73 : Tb := Tb.addF tb67 73 S73 (q73 )

theorem ok_tb73 : TbOk env (tb73 ) := addFunF ok_tb67 73 (by kernel_rfl) _ (q73_eq )

/- function 44  -/

def S44 : FunS := ⟨[⟨true, (.dat 57)⟩], [], [⟨true, (.int .i64)⟩], []⟩

noncomputable def F44 : List D → Option (List D) := liftF env tb73 60 6 44 S44

theorem F44_eq  (sd0 : D) : F44  [sd0] =
    bif (qcmp BinOp.gtr (qbin BinOp.add IntKind.i64 (qwrap IntKind.i64 (qint (qfld sd0 1))) (qlen (qfld sd0 2))) 4294967295) then
      some [(D.int 4294967295)]
    else
      some [(D.int (qbin BinOp.add IntKind.i64 (qwrap IntKind.i64 (qint (qfld sd0 1))) (qlen (qfld sd0 2))))] := by kernel_rfl

noncomputable def q44 : List D → Option (List D) := veil (F44 )

theorem q44_eq : q44  = F44  := veil_eq _

noncomputable def tb44 : Tb := Tb.addF tb73 44 S44 (q44 )

theorem ok_tb44 : TbOk env (tb44 ) := addFunF ok_tb73 44 (by kernel_rfl) _ (q44_eq )

end Go.Proofs.Ytcengfpfphdacaa

open Go Go.AM
namespace Go.Proofs.Ytcengfpfphdacaa
set_option maxRecDepth 100000
/- function 37  -/

def S37 : FunS := ⟨[⟨true, (.dat 57)⟩], [], [⟨true, (.dat 92)⟩], []⟩

noncomputable def F37 : List D → Option (List D) := liftF env tb44 60 6 37 S37

theorem F37_eq  (sd0 : D) : F37  [sd0] =
    some [(D.agg [(D.int (qint (qfld sd0 1))), (D.int (qwrap IntKind.u32 (qmm BinOp.lss (qbin BinOp.add IntKind.u64 (qwrap IntKind.u64 (qint (qfld sd0 1))) (qwrap IntKind.u64 (qlen (qfld sd0 2)))) 4294967295)))])] := by kernel_rfl

noncomputable def q37 : List D → Option (List D) := veil (F37 )

theorem q37_eq : q37  = F37  := veil_eq _

noncomputable def tb37 : Tb := Tb.addF tb44 37 S37 (q37 )

theorem ok_tb37 : TbOk env (tb37 ) := addFunF ok_tb44 37 (by kernel_rfl) _ (q37_eq )

/- function 36  -/

def S36 : FunS := ⟨[⟨true, (.dat 92)⟩, ⟨true, (.dat 92)⟩], [], [⟨true, .bool⟩], []⟩

noncomputable def F36 : List D → Option (List D) := liftF env tb37 60 6 36 S36

theorem F36_eq  (sd0 : D) (sd1 : D) : F36  [sd0, sd1] =
    some [(D.bool (qcmp BinOp.lss (qmm BinOp.gtr (qint (qfld sd0 0)) (qint (qfld sd1 0))) (qmm BinOp.lss (qint (qfld sd0 1)) (qint (qfld sd1 1)))))] := by kernel_rfl

noncomputable def q36 : List D → Option (List D) := veil (F36 )

theorem q36_eq : q36  = F36  := veil_eq _

noncomputable def tb36 : Tb := Tb.addF tb37 36 S36 (q36 )

theorem ok_tb36 : TbOk env (tb36 ) := addFunF ok_tb37 36 (by kernel_rfl) _ (q36_eq )

/- function 68  -/

def S68_2 : LoopS := ⟨0, [⟨false, .str⟩, ⟨false, .any⟩, ⟨false, (.lit (.bool false))⟩, ⟨true, (.int .i64)⟩, ⟨false, .any⟩, ⟨false, .any⟩, ⟨false, .any⟩, ⟨false, .any⟩, ⟨false, .any⟩, ⟨false, .any⟩, ⟨false, .any⟩, ⟨false, .any⟩, ⟨false, .any⟩, ⟨false, .any⟩, ⟨false, .any⟩, ⟨false, .any⟩, ⟨false, .any⟩, ⟨false, .any⟩, ⟨false, .any⟩, ⟨false, .any⟩, ⟨false, .any⟩, ⟨false, .any⟩, ⟨false, .any⟩, ⟨false, .any⟩, ⟨false, .any⟩, ⟨false, .any⟩, ⟨false, .any⟩, ⟨false, .any⟩, ⟨false, .any⟩, ⟨false, .any⟩, ⟨false, .any⟩, ⟨false, .any⟩, ⟨false, .any⟩, ⟨false, .any⟩, ⟨false, .any⟩, ⟨false, .any⟩, ⟨false, .any⟩, ⟨false, .any⟩, ⟨false, .any⟩, ⟨false, .any⟩, ⟨false, .any⟩, ⟨false, .any⟩, ⟨false, .any⟩, ⟨false, .any⟩, ⟨false, .any⟩, ⟨false, .any⟩, ⟨false, .any⟩, ⟨false, .any⟩, ⟨false, .any⟩, ⟨false, .any⟩, ⟨false, .any⟩, ⟨false, .any⟩, ⟨false, .any⟩, ⟨false, .any⟩, ⟨false, .any⟩], [], [⟨0, 0, [⟨false, .str⟩, ⟨true, .any⟩, ⟨true, (.lit (.bool false))⟩, ⟨true, .any⟩, ⟨true, .any⟩, ⟨true, .any⟩, ⟨true, .any⟩, ⟨true, .any⟩, ⟨true, .any⟩, ⟨true, .any⟩, ⟨true, .any⟩, ⟨true, .any⟩, ⟨true, .any⟩, ⟨true, .any⟩, ⟨true, .any⟩, ⟨true, .any⟩, ⟨true, .any⟩, ⟨true, .any⟩, ⟨true, .any⟩, ⟨true, .any⟩, ⟨true, .any⟩, ⟨true, .any⟩, ⟨true, .any⟩, ⟨true, .any⟩, ⟨true, .any⟩, ⟨true, .any⟩, ⟨true, .any⟩, ⟨true, .any⟩, ⟨true, .any⟩, ⟨true, .any⟩, ⟨true, .any⟩, ⟨true, .any⟩, ⟨true, .any⟩, ⟨true, .any⟩, ⟨true, .any⟩, ⟨true, .any⟩, ⟨true, .any⟩, ⟨true, .any⟩, ⟨true, .any⟩, ⟨true, .any⟩, ⟨true, .any⟩, ⟨true, .any⟩, ⟨true, .any⟩, ⟨true, .any⟩, ⟨true, .any⟩, ⟨true, .any⟩, ⟨true, .any⟩, ⟨true, .any⟩, ⟨true, .any⟩, ⟨true, .any⟩, ⟨true, .any⟩, ⟨true, .any⟩, ⟨true, .any⟩, ⟨true, .any⟩, ⟨true, .any⟩], []⟩, ⟨1, 0, [⟨false, .str⟩, ⟨true, .any⟩, ⟨true, (.lit (.bool false))⟩, ⟨true, .any⟩, ⟨true, .any⟩, ⟨true, .any⟩, ⟨true, .any⟩, ⟨true, .any⟩, ⟨true, .any⟩, ⟨true, .any⟩, ⟨true, .any⟩, ⟨true, .any⟩, ⟨true, .any⟩, ⟨true, .any⟩, ⟨true, .any⟩, ⟨true, .any⟩, ⟨true, .any⟩, ⟨true, .any⟩, ⟨true, .any⟩, ⟨true, .any⟩, ⟨true, .any⟩, ⟨true, .any⟩, ⟨true, .any⟩, ⟨true, .any⟩, ⟨true, .any⟩, ⟨true, .any⟩, ⟨true, .any⟩, ⟨true, .any⟩, ⟨true, .any⟩, ⟨true, .any⟩, ⟨true, .any⟩, ⟨true, .any⟩, ⟨true, .any⟩, ⟨true, .any⟩, ⟨true, .any⟩, ⟨true, .any⟩, ⟨true, .any⟩, ⟨true, .any⟩, ⟨true, .any⟩, ⟨true, .any⟩, ⟨true, .any⟩, ⟨true, .any⟩, ⟨true, .any⟩, ⟨true, .any⟩, ⟨true, .any⟩, ⟨true, .any⟩, ⟨true, .any⟩, ⟨true, .any⟩, ⟨true, .any⟩, ⟨true, .any⟩, ⟨true, .any⟩, ⟨true, .any⟩, ⟨true, .any⟩, ⟨true, .any⟩, ⟨true, .any⟩], []⟩]⟩

noncomputable def st68_2 (p s : List D) : Option (Sum (List D) (List D)) := stepQ env tb36 60 6 68 (loopC 68 2) S68_2 p s

theorem st68_2_eq (ps0 : ByteArray) (sn0 : Int) : st68_2  [(D.str ps0)] [(D.int sn0)] =
    bif (qcmp BinOp.lss sn0 (qlenS ps0)) then
      bif (qinbS ps0 sn0) then
        bif (qiteB (qiteB (qiteB (qnot (qiteB (qiteB (qcmp BinOp.geq (qidxS ps0 sn0) 97) (qcmp BinOp.leq (qidxS ps0 sn0) 122) Bool.false) Bool.true (qiteB (qcmp BinOp.geq (qidxS ps0 sn0) 65) (qcmp BinOp.leq (qidxS ps0 sn0) 90) Bool.false))) (qiteB (qcmp BinOp.lss (qidxS ps0 sn0) 48) Bool.true (qcmp BinOp.gtr (qidxS ps0 sn0) 57)) Bool.false) (qcmp BinOp.neq (qidxS ps0 sn0) 95) Bool.false) (qcmp BinOp.neq (qidxS ps0 sn0) 46) Bool.false) then
          some (Sum.inr [(D.int 1)])
        else
          some (Sum.inl [(D.int (qbin BinOp.add IntKind.i64 sn0 1))])
      else
        none
    else
      some (Sum.inr [(D.int 0)]) := by
  have h : st68_2  [(D.str ps0)] [(D.int sn0)] =
    bif (qcmp BinOp.lss sn0 (qlenS ps0)) then
      bif (qinbS ps0 sn0) then
        bif (qiteB (qiteB (qiteB (qnot (qiteB (qiteB (qcmp BinOp.geq (qidxS ps0 sn0) 97) (qcmp BinOp.leq (qidxS ps0 sn0) 122) Bool.false) Bool.true (qiteB (qcmp BinOp.geq (qidxS ps0 sn0) 65) (qcmp BinOp.leq (qidxS ps0 sn0) 90) Bool.false))) (qiteB (qcmp BinOp.lss (qidxS ps0 sn0) 48) Bool.true (qcmp BinOp.gtr (qidxS ps0 sn0) 57)) Bool.false) (qcmp BinOp.neq (qidxS ps0 sn0) 95) Bool.false) (qcmp BinOp.neq (qidxS ps0 sn0) 46) Bool.false) then
          bif (qeqD (D.str ps0) (D.str ps0)) then
            some (Sum.inr [(D.int 1)])
          else
            none
        else
          bif (qeqD (D.str ps0) (D.str ps0)) then
            some (Sum.inl [(D.int (qbin BinOp.add IntKind.i64 sn0 1))])
          else
            none
      else
        none
    else
      bif (qeqD (D.str ps0) (D.str ps0)) then
        some (Sum.inr [(D.int 0)])
      else
        none := by kernel_rfl
  rw [h]; simp only [qeqD_self, qeqI_self, qeq_len, List.length_cons, List.length_nil, cond_true]

noncomputable def l68_2 : List D → List D → Option (List D) := veil fun p s => loW (st68_2  p) s

theorem l68_2_eq : l68_2  = fun p s => loW (st68_2  p) s := veil_eq _

noncomputable def tbl68_2 : Tb := Tb.addL tb36 68 2 S68_2.n0 (mkLp S68_2 (l68_2 ))

theorem ok_tbl68_2 : TbOk env (tbl68_2 ) := addLoopQ ok_tb36 68 2 (by kernel_rfl) _ (l68_2_eq )

def S68 : FunS := ⟨[⟨true, .str⟩], [], [⟨true, .bool⟩], []⟩

noncomputable def F68 : List D → Option (List D) := liftF env tbl68_2 60 6 68 S68

theorem F68_eq  (ss0 : ByteArray) : F68  [(D.str ss0)] =
    bif (qsome (Proofs.Ytcengfpfphdacaa.l68_2 [(D.str ss0)] [(D.int 0)])) then
      bif (qcmp BinOp.eql (qint (qnth (Proofs.Ytcengfpfphdacaa.l68_2 [(D.str ss0)] [(D.int 0)]) 0)) 0) then
        some [(D.bool (qiteB (qcmp BinOp.gtr (qlenS ss0) 0) (qcmp BinOp.leq (qlenS ss0) 32) Bool.false))]
      else
        some [(D.bool Bool.false)]
    else
      none := by kernel_rfl

noncomputable def q68 : List D → Option (List D) := veil (F68 )

theorem q68_eq : q68  = F68  := veil_eq _

noncomputable def tb68 : Tb := Tb.addF tbl68_2 68 S68 (q68 )

theorem ok_tb68 : TbOk env (tb68 ) := addFunF ok_tbl68_2 68 (by kernel_rfl) _ (q68_eq )

end Go.Proofs.Ytcengfpfphdacaa

open Go Go.AM
namespace Go.Proofs.Ytcengfpfphdacaa
set_option maxRecDepth 100000
def S55 : FunS := ⟨[⟨true, (.dat 60)⟩, ⟨true, (.int .i64)⟩], [], [⟨true, .bool⟩], []⟩

noncomputable def tbR55 (Q : List D → Option (List D)) : Tb := Tb.addF tb68 55 S55 Q

theorem ok_tbR55 (Q : List D → Option (List D)) (hQ : SoundF env.P 55 S55 Q) : TbOk env (tbR55 Q) := TbOk.addF ok_tb68 (by kernel_rfl) hQ

/- function 82  -/

def S82 : FunS := ⟨[⟨true, (.dat 60)⟩, ⟨true, (.eptr [(.int .i64)])⟩], [], [⟨true, .bool⟩], []⟩

noncomputable def F82 (Q : List D → Option (List D)) : List D → Option (List D) := liftF env (tbR55 Q ) 60 6 82 S82

theorem F82_eq (Q : List D → Option (List D))  (sd0 : D) (sn1 : Int) : F82 Q  [sd0, (D.int sn1)] =
    bif (qsome (Q [sd0, (D.int (qbin BinOp.sub IntKind.i64 sn1 1))])) then
      some [(D.bool (qnot (qbool (qnth (Q [sd0, (D.int (qbin BinOp.sub IntKind.i64 sn1 1))]) 0))))]
    else
      none := by kernel_rfl

noncomputable def q82 (Q : List D → Option (List D)) : List D → Option (List D) := veil (F82 Q )

theorem q82_eq (Q : List D → Option (List D)) : q82 Q  = F82 Q  := veil_eq _

noncomputable def tb82 (Q : List D → Option (List D)) : Tb := Tb.addF (tbR55 Q ) 82 S82 (q82 Q )

theorem ok_tb82 (Q : List D → Option (List D)) (hQ : SoundF env.P 55 S55 Q) : TbOk env (tb82 Q ) := addFunF (ok_tbR55 Q hQ) 82 (by kernel_rfl) _ (q82_eq Q )

/- function 98  -/

def S98_82_2 : LoopS := ⟨0, [⟨false, (.rows 60)⟩, ⟨false, (.func 82 [] [(.eptr [(.int .i64)])])⟩, ⟨false, .any⟩, ⟨false, .any⟩, ⟨false, (.lit (.int .i64 0))⟩, ⟨false, .any⟩, ⟨false, .any⟩, ⟨false, (.int .i64)⟩, ⟨true, (.int .i64)⟩, ⟨false, .any⟩, ⟨false, .any⟩, ⟨false, .any⟩, ⟨false, .any⟩, ⟨false, .any⟩, ⟨false, .any⟩, ⟨false, .any⟩, ⟨false, .any⟩, ⟨false, .any⟩, ⟨false, .any⟩], [], [⟨0, 0, [⟨false, (.rows 60)⟩, ⟨false, (.func 82 [] [(.eptr [(.int .i64)])])⟩, ⟨true, .any⟩, ⟨true, .any⟩, ⟨true, (.lit (.int .i64 0))⟩, ⟨true, .any⟩, ⟨true, .any⟩, ⟨false, (.int .i64)⟩, ⟨true, .any⟩, ⟨true, .any⟩, ⟨true, .any⟩, ⟨true, .any⟩, ⟨true, .any⟩, ⟨true, .any⟩, ⟨true, .any⟩, ⟨true, .any⟩, ⟨true, .any⟩, ⟨true, .any⟩, ⟨true, .any⟩], []⟩, ⟨1, 0, [⟨false, (.rows 60)⟩, ⟨false, (.func 82 [] [(.eptr [(.int .i64)])])⟩, ⟨true, .any⟩, ⟨true, .any⟩, ⟨true, (.int .i64)⟩, ⟨true, .any⟩, ⟨true, .any⟩, ⟨false, (.int .i64)⟩, ⟨true, .any⟩, ⟨true, .any⟩, ⟨true, .any⟩, ⟨true, .any⟩, ⟨true, .any⟩, ⟨true, .any⟩, ⟨true, .any⟩, ⟨true, .any⟩, ⟨true, .any⟩, ⟨true, .any⟩, ⟨true, .any⟩], []⟩]⟩

noncomputable def st98_82_2 (Q : List D → Option (List D)) (p s : List D) : Option (Sum (List D) (List D)) := stepQ env (tb82 Q ) 60 6 98 (loopC 98 2) S98_82_2 p s

theorem st98_82_2_eq (Q : List D → Option (List D)) (pd0 : D) (pn1 : Int) (pn2 : Int) (sn0 : Int) : st98_82_2 Q  [pd0, (D.int pn1), (D.int pn2)] [(D.int sn0)] =
    bif (qcmp BinOp.lss sn0 pn2) then
      bif (qinb pd0 sn0) then
        bif (qsome (Proofs.Ytcengfpfphdacaa.q82 Q [(qget pd0 sn0), (D.int pn1)])) then
          bif (qbool (qnth (Proofs.Ytcengfpfphdacaa.q82 Q [(qget pd0 sn0), (D.int pn1)]) 0)) then
            some (Sum.inr [(D.int 1), (D.int sn0)])
          else
            some (Sum.inl [(D.int (qbin BinOp.add IntKind.i64 sn0 1))])
        else
          none
      else
        none
    else
      some (Sum.inr [(D.int 0)]) := by
  have h : st98_82_2 Q  [pd0, (D.int pn1), (D.int pn2)] [(D.int sn0)] =
    bif (qcmp BinOp.lss sn0 pn2) then
      bif (qinb pd0 sn0) then
        bif (qsome (Proofs.Ytcengfpfphdacaa.q82 Q [(qget pd0 sn0), (D.int pn1)])) then
          bif (qbool (qnth (Proofs.Ytcengfpfphdacaa.q82 Q [(qget pd0 sn0), (D.int pn1)]) 0)) then
            bif (qeqD pd0 pd0) then
              bif (qeqD (D.int pn1) (D.int pn1)) then
                bif (qeqD (D.int pn2) (D.int pn2)) then
                  some (Sum.inr [(D.int 1), (D.int sn0)])
                else
                  none
              else
                none
            else
              none
          else
            bif (qeqD pd0 pd0) then
              bif (qeqD (D.int pn1) (D.int pn1)) then
                bif (qeqD (D.int pn2) (D.int pn2)) then
                  some (Sum.inl [(D.int (qbin BinOp.add IntKind.i64 sn0 1))])
                else
                  none
              else
                none
            else
              none
        else
          none
      else
        none
    else
      bif (qeqD pd0 pd0) then
        bif (qeqD (D.int pn1) (D.int pn1)) then
          bif (qeqD (D.int pn2) (D.int pn2)) then
            some (Sum.inr [(D.int 0)])
          else
            none
        else
          none
      else
        none := by kernel_rfl
  rw [h]; simp only [qeqD_self, qeqI_self, qeq_len, List.length_cons, List.length_nil, cond_true]

noncomputable def l98_82_2 (Q : List D → Option (List D)) : List D → List D → Option (List D) := veil fun p s => loW (st98_82_2 Q  p) s

theorem l98_82_2_eq (Q : List D → Option (List D)) : l98_82_2 Q  = fun p s => loW (st98_82_2 Q  p) s := veil_eq _

noncomputable def tbl98_82_2 (Q : List D → Option (List D)) : Tb := Tb.addL (tb82 Q ) 98 2 S98_82_2.n0 (mkLp S98_82_2 (l98_82_2 Q ))

theorem ok_tbl98_82_2 (Q : List D → Option (List D)) (hQ : SoundF env.P 55 S55 Q) : TbOk env (tbl98_82_2 Q ) := addLoopQ (ok_tb82 Q hQ) 98 2 (by kernel_rfl) _ (l98_82_2_eq Q )

def S98_82 : FunS := ⟨[⟨true, (.rows 60)⟩, ⟨true, (.func 82 [] [(.eptr [(.int .i64)])])⟩], [], [⟨true, (.int .i64)⟩], []⟩

noncomputable def F98_82 (Q : List D → Option (List D)) : List D → Option (List D) := liftF env (tbl98_82_2 Q ) 60 6 98 S98_82

theorem F98_82_eq (Q : List D → Option (List D))  (sd0 : D) (sn1 : Int) : F98_82 Q  [sd0, (D.int sn1)] =
    bif (qsome (Proofs.Ytcengfpfphdacaa.l98_82_2 Q [sd0, (D.int sn1), (D.int (qlen sd0))] [(D.int 0)])) then
      bif (qcmp BinOp.eql (qint (qnth (Proofs.Ytcengfpfphdacaa.l98_82_2 Q [sd0, (D.int sn1), (D.int (qlen sd0))] [(D.int 0)]) 0)) 0) then
        some [(D.int (-1))]
      else
        some [(D.int (qint (qnth (Proofs.Ytcengfpfphdacaa.l98_82_2 Q [sd0, (D.int sn1), (D.int (qlen sd0))] [(D.int 0)]) 1)))]
    else
      none := by kernel_rfl

noncomputable def q98_82 (Q : List D → Option (List D)) : List D → Option (List D) := veil (F98_82 Q )

theorem q98_82_eq (Q : List D → Option (List D)) : q98_82 Q  = F98_82 Q  := veil_eq _

noncomputable def tb98_82 (Q : List D → Option (List D)) : Tb := Tb.addF (tbl98_82_2 Q ) 98 S98_82 (q98_82 Q )

theorem ok_tb98_82 (Q : List D → Option (List D)) (hQ : SoundF env.P 55 S55 Q) : TbOk env (tb98_82 Q ) := addFunF (ok_tbl98_82_2 Q hQ) 98 (by kernel_rfl) _ (q98_82_eq Q )

/- function 81  -/

def S81_82 : FunS := ⟨[⟨true, (.rows 60)⟩, ⟨true, (.func 82 [] [(.eptr [(.int .i64)])])⟩], [], [⟨true, .bool⟩], []⟩

noncomputable def F81_82 (Q : List D → Option (List D)) : List D → Option (List D) := liftF env (tb98_82 Q ) 60 6 81 S81_82

theorem F81_82_eq (Q : List D → Option (List D))  (sd0 : D) (sn1 : Int) : F81_82 Q  [sd0, (D.int sn1)] =
    bif (qsome (Proofs.Ytcengfpfphdacaa.q98_82 Q [sd0, (D.int sn1)])) then
      some [(D.bool (qcmp BinOp.geq (qint (qnth (Proofs.Ytcengfpfphdacaa.q98_82 Q [sd0, (D.int sn1)]) 0)) 0))]
    else
      none := by kernel_rfl

noncomputable def q81_82 (Q : List D → Option (List D)) : List D → Option (List D) := veil (F81_82 Q )

theorem q81_82_eq (Q : List D → Option (List D)) : q81_82 Q  = F81_82 Q  := veil_eq _

noncomputable def tb81_82 (Q : List D → Option (List D)) : Tb := Tb.addF (tb98_82 Q ) 81 S81_82 (q81_82 Q )

theorem ok_tb81_82 (Q : List D → Option (List D)) (hQ : SoundF env.P 55 S55 Q) : TbOk env (tb81_82 Q ) := addFunF (ok_tb98_82 Q hQ) 81 (by kernel_rfl) _ (q81_82_eq Q )

noncomputable def Fb55 (Q : List D → Option (List D)) : List D → Option (List D) := liftF env (tb81_82 Q ) 60 6 55 S55

theorem Fb55_eq (Q : List D → Option (List D))  (sd0 : D) (sn1 : Int) : Fb55 Q  [sd0, (D.int sn1)] =
    bif (qiteB (qcmp BinOp.geq sn1 1) (qsome (Proofs.Ytcengfpfphdacaa.q81_82 Q [(qfld sd0 4), (D.int sn1)])) Bool.true) then
      some [(D.bool (qiteB (qcmp BinOp.geq sn1 1) (qnot (qbool (qnth (Proofs.Ytcengfpfphdacaa.q81_82 Q [(qfld sd0 4), (D.int sn1)]) 0))) Bool.false))]
    else
      none := by kernel_rfl

noncomputable def F55 : Nat → List D → Option (List D) := levels Fb55

theorem F55_0 (ds : List D) : F55 0 ds = none := rfl

theorem F55_s (n : Nat) : F55 (n + 1) = Fb55 (F55 n) := rfl

noncomputable def q55 : List D → Option (List D) := veil fun ds => F55 (fuelL ds) ds

theorem q55_eq : q55 = fun ds => F55 (fuelL ds) ds := veil_eq _

theorem sound55 : SoundF env.P 55 S55 q55 := recF (fun q => tb81_82 q) (fun q hq => ok_tb81_82 q hq) q55_eq

noncomputable def tb55 : Tb := Tb.addF tb68 55 S55 q55

theorem ok_tb55 : TbOk env tb55 := TbOk.addF ok_tb68 (by kernel_rfl) sound55

end Go.Proofs.Ytcengfpfphdacaa

open Go Go.AM
namespace Go.Proofs.Ytcengfpfphdacaa
set_option maxRecDepth 100000
def S56 : FunS := ⟨[⟨true, (.dat 60)⟩], [], [⟨true, .bool⟩], []⟩

noncomputable def tbR56 (Q : List D → Option (List D)) : Tb := Tb.addF tb55 56 S56 Q

theorem ok_tbR56 (Q : List D → Option (List D)) (hQ : SoundF env.P 56 S56 Q) : TbOk env (tbR56 Q) := TbOk.addF ok_tb55 (by kernel_rfl) hQ

/- function 85  -/

def S85 : FunS := ⟨[⟨true, (.dat 60)⟩], [], [⟨true, .bool⟩], []⟩

noncomputable def F85 (Q : List D → Option (List D)) : List D → Option (List D) := liftF env (tbR56 Q ) 60 6 85 S85

theorem F85_eq (Q : List D → Option (List D))  (sd0 : D) : F85 Q  [sd0] =
    bif (qsome (Q [sd0])) then
      some [(D.bool (qnot (qbool (qnth (Q [sd0]) 0))))]
    else
      none := by kernel_rfl

noncomputable def q85 (Q : List D → Option (List D)) : List D → Option (List D) := veil (F85 Q )

theorem q85_eq (Q : List D → Option (List D)) : q85 Q  = F85 Q  := veil_eq _

noncomputable def tb85 (Q : List D → Option (List D)) : Tb := Tb.addF (tbR56 Q ) 85 S85 (q85 Q )

theorem ok_tb85 (Q : List D → Option (List D)) (hQ : SoundF env.P 56 S56 Q) : TbOk env (tb85 Q ) := addFunF (ok_tbR56 Q hQ) 85 (by kernel_rfl) _ (q85_eq Q )

/- function 98  -/

def S98_85_2 : LoopS := ⟨0, [⟨false, (.rows 60)⟩, ⟨false, (.func 85 [] [])⟩, ⟨false, .any⟩, ⟨false, .any⟩, ⟨false, (.lit (.int .i64 0))⟩, ⟨false, .any⟩, ⟨false, .any⟩, ⟨false, (.int .i64)⟩, ⟨true, (.int .i64)⟩, ⟨false, .any⟩, ⟨false, .any⟩, ⟨false, .any⟩, ⟨false, .any⟩, ⟨false, .any⟩, ⟨false, .any⟩, ⟨false, .any⟩, ⟨false, .any⟩, ⟨false, .any⟩, ⟨false, .any⟩], [], [⟨0, 0, [⟨false, (.rows 60)⟩, ⟨true, .any⟩, ⟨true, .any⟩, ⟨true, .any⟩, ⟨true, (.lit (.int .i64 0))⟩, ⟨true, .any⟩, ⟨true, .any⟩, ⟨false, (.int .i64)⟩, ⟨true, .any⟩, ⟨true, .any⟩, ⟨true, .any⟩, ⟨true, .any⟩, ⟨true, .any⟩, ⟨true, .any⟩, ⟨true, .any⟩, ⟨true, .any⟩, ⟨true, .any⟩, ⟨true, .any⟩, ⟨true, .any⟩], []⟩, ⟨1, 0, [⟨false, (.rows 60)⟩, ⟨true, .any⟩, ⟨true, .any⟩, ⟨true, .any⟩, ⟨true, (.int .i64)⟩, ⟨true, .any⟩, ⟨true, .any⟩, ⟨false, (.int .i64)⟩, ⟨true, .any⟩, ⟨true, .any⟩, ⟨true, .any⟩, ⟨true, .any⟩, ⟨true, .any⟩, ⟨true, .any⟩, ⟨true, .any⟩, ⟨true, .any⟩, ⟨true, .any⟩, ⟨true, .any⟩, ⟨true, .any⟩], []⟩]⟩

noncomputable def st98_85_2 (Q : List D → Option (List D)) (p s : List D) : Option (Sum (List D) (List D)) := stepQ env (tb85 Q ) 60 6 98 (loopC 98 2) S98_85_2 p s

theorem st98_85_2_eq (Q : List D → Option (List D)) (pd0 : D) (pn1 : Int) (sn0 : Int) : st98_85_2 Q  [pd0, (D.int pn1)] [(D.int sn0)] =
    bif (qcmp BinOp.lss sn0 pn1) then
      bif (qinb pd0 sn0) then
        bif (qsome (Proofs.Ytcengfpfphdacaa.q85 Q [(qget pd0 sn0)])) then
          bif (qbool (qnth (Proofs.Ytcengfpfphdacaa.q85 Q [(qget pd0 sn0)]) 0)) then
            some (Sum.inr [(D.int 1), (D.int sn0)])
          else
            some (Sum.inl [(D.int (qbin BinOp.add IntKind.i64 sn0 1))])
        else
          none
      else
        none
    else
      some (Sum.inr [(D.int 0)]) := by
  have h : st98_85_2 Q  [pd0, (D.int pn1)] [(D.int sn0)] =
    bif (qcmp BinOp.lss sn0 pn1) then
      bif (qinb pd0 sn0) then
        bif (qsome (Proofs.Ytcengfpfphdacaa.q85 Q [(qget pd0 sn0)])) then
          bif (qbool (qnth (Proofs.Ytcengfpfphdacaa.q85 Q [(qget pd0 sn0)]) 0)) then
            bif (qeqD pd0 pd0) then
              bif (qeqD (D.int pn1) (D.int pn1)) then
                some (Sum.inr [(D.int 1), (D.int sn0)])
              else
                none
            else
              none
          else
            bif (qeqD pd0 pd0) then
              bif (qeqD (D.int pn1) (D.int pn1)) then
                some (Sum.inl [(D.int (qbin BinOp.add IntKind.i64 sn0 1))])
              else
                none
            else
              none
        else
          none
      else
        none
    else
      bif (qeqD pd0 pd0) then
        bif (qeqD (D.int pn1) (D.int pn1)) then
          some (Sum.inr [(D.int 0)])
        else
          none
      else
        none := by kernel_rfl
  rw [h]; simp only [qeqD_self, qeqI_self, qeq_len, List.length_cons, List.length_nil, cond_true]

noncomputable def l98_85_2 (Q : List D → Option (List D)) : List D → List D → Option (List D) := veil fun p s => loW (st98_85_2 Q  p) s

theorem l98_85_2_eq (Q : List D → Option (List D)) : l98_85_2 Q  = fun p s => loW (st98_85_2 Q  p) s := veil_eq _

noncomputable def tbl98_85_2 (Q : List D → Option (List D)) : Tb := Tb.addL (tb85 Q ) 98 2 S98_85_2.n0 (mkLp S98_85_2 (l98_85_2 Q ))

theorem ok_tbl98_85_2 (Q : List D → Option (List D)) (hQ : SoundF env.P 56 S56 Q) : TbOk env (tbl98_85_2 Q ) := addLoopQ (ok_tb85 Q hQ) 98 2 (by kernel_rfl) _ (l98_85_2_eq Q )

def S98_85 : FunS := ⟨[⟨true, (.rows 60)⟩, ⟨true, (.func 85 [] [])⟩], [], [⟨true, (.int .i64)⟩], []⟩

noncomputable def F98_85 (Q : List D → Option (List D)) : List D → Option (List D) := liftF env (tbl98_85_2 Q ) 60 6 98 S98_85

theorem F98_85_eq (Q : List D → Option (List D))  (sd0 : D) : F98_85 Q  [sd0] =
    bif (qsome (Proofs.Ytcengfpfphdacaa.l98_85_2 Q [sd0, (D.int (qlen sd0))] [(D.int 0)])) then
      bif (qcmp BinOp.eql (qint (qnth (Proofs.Ytcengfpfphdacaa.l98_85_2 Q [sd0, (D.int (qlen sd0))] [(D.int 0)]) 0)) 0) then
        some [(D.int (-1))]
      else
        some [(D.int (qint (qnth (Proofs.Ytcengfpfphdacaa.l98_85_2 Q [sd0, (D.int (qlen sd0))] [(D.int 0)]) 1)))]
    else
      none := by kernel_rfl

noncomputable def q98_85 (Q : List D → Option (List D)) : List D → Option (List D) := veil (F98_85 Q )

theorem q98_85_eq (Q : List D → Option (List D)) : q98_85 Q  = F98_85 Q  := veil_eq _

noncomputable def tb98_85 (Q : List D → Option (List D)) : Tb := Tb.addF (tbl98_85_2 Q ) 98 S98_85 (q98_85 Q )

theorem ok_tb98_85 (Q : List D → Option (List D)) (hQ : SoundF env.P 56 S56 Q) : TbOk env (tb98_85 Q ) := addFunF (ok_tbl98_85_2 Q hQ) 98 (by kernel_rfl) _ (q98_85_eq Q )

/- function 81  -/

def S81_85 : FunS := ⟨[⟨true, (.rows 60)⟩, ⟨true, (.func 85 [] [])⟩], [], [⟨true, .bool⟩], []⟩

noncomputable def F81_85 (Q : List D → Option (List D)) : List D → Option (List D) := liftF env (tb98_85 Q ) 60 6 81 S81_85

theorem F81_85_eq (Q : List D → Option (List D))  (sd0 : D) : F81_85 Q  [sd0] =
    bif (qsome (Proofs.Ytcengfpfphdacaa.q98_85 Q [sd0])) then
      some [(D.bool (qcmp BinOp.geq (qint (qnth (Proofs.Ytcengfpfphdacaa.q98_85 Q [sd0]) 0)) 0))]
    else
      none := by kernel_rfl

noncomputable def q81_85 (Q : List D → Option (List D)) : List D → Option (List D) := veil (F81_85 Q )

theorem q81_85_eq (Q : List D → Option (List D)) : q81_85 Q  = F81_85 Q  := veil_eq _

noncomputable def tb81_85 (Q : List D → Option (List D)) : Tb := Tb.addF (tb98_85 Q ) 81 S81_85 (q81_85 Q )

theorem ok_tb81_85 (Q : List D → Option (List D)) (hQ : SoundF env.P 56 S56 Q) : TbOk env (tb81_85 Q ) := addFunF (ok_tb98_85 Q hQ) 81 (by kernel_rfl) _ (q81_85_eq Q )

noncomputable def Fb56 (Q : List D → Option (List D)) : List D → Option (List D) := liftF env (tb81_85 Q ) 60 6 56 S56

theorem Fb56_eq (Q : List D → Option (List D))  (sd0 : D) : Fb56 Q  [sd0] =
    bif (qcmp BinOp.eql (qint (qfld sd0 0)) 1) then
      bif (qiteB (qiteB (qiteB (qiteB (qcmp BinOp.eql (qint (qfld sd0 1)) (qint (qfld sd0 1))) (qcmp BinOp.eql (qint (qfld sd0 2)) 0) Bool.false) (qcmp BinOp.eql (qint (qfld sd0 3)) 0) Bool.false) (qcmp BinOp.eql (qlen (qfld sd0 4)) 0) Bool.false) (qsome (Proofs.Ytcengfpfphdacaa.q81_85 Q [(qfld sd0 4)])) Bool.true) then
        some [(D.bool (qiteB (qiteB (qiteB (qiteB (qcmp BinOp.eql (qint (qfld sd0 1)) (qint (qfld sd0 1))) (qcmp BinOp.eql (qint (qfld sd0 2)) 0) Bool.false) (qcmp BinOp.eql (qint (qfld sd0 3)) 0) Bool.false) (qcmp BinOp.eql (qlen (qfld sd0 4)) 0) Bool.false) (qnot (qbool (qnth (Proofs.Ytcengfpfphdacaa.q81_85 Q [(qfld sd0 4)]) 0))) Bool.false))]
      else
        none
    else
      bif (qiteB (qcmp BinOp.eql (qint (qfld sd0 0)) 2) (qsome (Proofs.Ytcengfpfphdacaa.q83 [(D.int (qint (qfld sd0 2)))])) Bool.true) then
        bif (qiteB (qcmp BinOp.eql (qint (qfld sd0 0)) 2) (qbool (qnth (Proofs.Ytcengfpfphdacaa.q83 [(D.int (qint (qfld sd0 2)))]) 0)) Bool.false) then
          bif (qiteB (qiteB (qiteB (qiteB (qcmp BinOp.eql (qint (qfld sd0 1)) 0) (qcmp BinOp.eql (qint (qfld sd0 2)) (qint (qfld sd0 2))) Bool.false) (qcmp BinOp.eql (qint (qfld sd0 3)) 0) Bool.false) (qcmp BinOp.eql (qlen (qfld sd0 4)) 0) Bool.false) (qsome (Proofs.Ytcengfpfphdacaa.q81_85 Q [(qfld sd0 4)])) Bool.true) then
            some [(D.bool (qiteB (qiteB (qiteB (qiteB (qcmp BinOp.eql (qint (qfld sd0 1)) 0) (qcmp BinOp.eql (qint (qfld sd0 2)) (qint (qfld sd0 2))) Bool.false) (qcmp BinOp.eql (qint (qfld sd0 3)) 0) Bool.false) (qcmp BinOp.eql (qlen (qfld sd0 4)) 0) Bool.false) (qnot (qbool (qnth (Proofs.Ytcengfpfphdacaa.q81_85 Q [(qfld sd0 4)]) 0))) Bool.false))]
          else
            none
        else
          bif (qiteB (qcmp BinOp.geq (qint (qfld sd0 0)) 3) (qcmp BinOp.leq (qint (qfld sd0 0)) 15) Bool.false) then
            bif (qiteB (qiteB (qiteB (qiteB (qcmp BinOp.eql (qint (qfld sd0 1)) 0) (qcmp BinOp.eql (qint (qfld sd0 2)) 0) Bool.false) (qcmp BinOp.eql (qint (qfld sd0 3)) 0) Bool.false) (qcmp BinOp.eql (qlen (qfld sd0 4)) 2) Bool.false) (qsome (Proofs.Ytcengfpfphdacaa.q81_85 Q [(qfld sd0 4)])) Bool.true) then
              some [(D.bool (qiteB (qiteB (qiteB (qiteB (qcmp BinOp.eql (qint (qfld sd0 1)) 0) (qcmp BinOp.eql (qint (qfld sd0 2)) 0) Bool.false) (qcmp BinOp.eql (qint (qfld sd0 3)) 0) Bool.false) (qcmp BinOp.eql (qlen (qfld sd0 4)) 2) Bool.false) (qnot (qbool (qnth (Proofs.Ytcengfpfphdacaa.q81_85 Q [(qfld sd0 4)]) 0))) Bool.false))]
            else
              none
          else
            bif (qiteB (qcmp BinOp.eql (qint (qfld sd0 0)) 16) (qcmp BinOp.eql (qint (qfld sd0 0)) 16) (qcmp BinOp.eql (qint (qfld sd0 0)) 17)) then
              bif (qiteB (qiteB (qiteB (qiteB (qcmp BinOp.eql (qint (qfld sd0 1)) 0) (qcmp BinOp.eql (qint (qfld sd0 2)) 0) Bool.false) (qcmp BinOp.eql (qint (qfld sd0 3)) 0) Bool.false) (qcmp BinOp.eql (qlen (qfld sd0 4)) 1) Bool.false) (qsome (Proofs.Ytcengfpfphdacaa.q81_85 Q [(qfld sd0 4)])) Bool.true) then
                some [(D.bool (qiteB (qiteB (qiteB (qiteB (qcmp BinOp.eql (qint (qfld sd0 1)) 0) (qcmp BinOp.eql (qint (qfld sd0 2)) 0) Bool.false) (qcmp BinOp.eql (qint (qfld sd0 3)) 0) Bool.false) (qcmp BinOp.eql (qlen (qfld sd0 4)) 1) Bool.false) (qnot (qbool (qnth (Proofs.Ytcengfpfphdacaa.q81_85 Q [(qfld sd0 4)]) 0))) Bool.false))]
              else
                none
            else
              bif (qiteB (qcmp BinOp.eql (qint (qfld sd0 0)) 18) (qsome (Proofs.Ytcengfpfphdacaa.q84 [(D.int (qint (qfld sd0 3)))])) Bool.true) then
                bif (qiteB (qiteB (qcmp BinOp.eql (qint (qfld sd0 0)) 18) (qbool (qnth (Proofs.Ytcengfpfphdacaa.q84 [(D.int (qint (qfld sd0 3)))]) 0)) Bool.false) (qiteB (qcmp BinOp.eql (qint (qfld sd0 0)) 18) (qbool (qnth (Proofs.Ytcengfpfphdacaa.q84 [(D.int (qint (qfld sd0 3)))]) 0)) Bool.false) (qiteB (qcmp BinOp.eql (qint (qfld sd0 0)) 19) (qiteB (qcmp BinOp.eql (qint (qfld sd0 3)) 1) Bool.true (qcmp BinOp.eql (qint (qfld sd0 3)) 2)) Bool.false)) then
                  bif (qiteB (qiteB (qiteB (qiteB (qcmp BinOp.eql (qint (qfld sd0 1)) 0) (qcmp BinOp.eql (qint (qfld sd0 2)) 0) Bool.false) (qcmp BinOp.eql (qint (qfld sd0 3)) (qint (qfld sd0 3))) Bool.false) (qcmp BinOp.eql (qlen (qfld sd0 4)) 1) Bool.false) (qsome (Proofs.Ytcengfpfphdacaa.q81_85 Q [(qfld sd0 4)])) Bool.true) then
                    some [(D.bool (qiteB (qiteB (qiteB (qiteB (qcmp BinOp.eql (qint (qfld sd0 1)) 0) (qcmp BinOp.eql (qint (qfld sd0 2)) 0) Bool.false) (qcmp BinOp.eql (qint (qfld sd0 3)) (qint (qfld sd0 3))) Bool.false) (qcmp BinOp.eql (qlen (qfld sd0 4)) 1) Bool.false) (qnot (qbool (qnth (Proofs.Ytcengfpfphdacaa.q81_85 Q [(qfld sd0 4)]) 0))) Bool.false))]
                  else
                    none
                else
                  some [(D.bool Bool.false)]
              else
                none
      else
        none := by kernel_rfl

noncomputable def F56 : Nat → List D → Option (List D) := levels Fb56

theorem F56_0 (ds : List D) : F56 0 ds = none := rfl

theorem F56_s (n : Nat) : F56 (n + 1) = Fb56 (F56 n) := rfl

noncomputable def q56 : List D → Option (List D) := veil fun ds => F56 (fuelL ds) ds

theorem q56_eq : q56 = fun ds => F56 (fuelL ds) ds := veil_eq _

theorem sound56 : SoundF env.P 56 S56 q56 := recF (fun q => tb81_85 q) (fun q hq => ok_tb81_85 q hq) q56_eq

noncomputable def tb56 : Tb := Tb.addF tb55 56 S56 q56

theorem ok_tb56 : TbOk env tb56 := TbOk.addF ok_tb55 (by kernel_rfl) sound56

end Go.Proofs.Ytcengfpfphdacaa

open Go Go.AM
namespace Go.Proofs.Ytcengfpfphdacaa
set_option maxRecDepth 100000
def S94 : FunS := ⟨[⟨true, (.dat 60)⟩, ⟨true, (.int .i64)⟩], [], [⟨true, .bool⟩], []⟩

noncomputable def tbR94 (Q : List D → Option (List D)) : Tb := Tb.addF tb56 94 S94 Q

theorem ok_tbR94 (Q : List D → Option (List D)) (hQ : SoundF env.P 94 S94 Q) : TbOk env (tbR94 Q) := TbOk.addF ok_tb56 (by kernel_rfl) hQ

def S94_4 : LoopS := ⟨0, [⟨false, .any⟩, ⟨false, (.int .i64)⟩, ⟨false, (.ptr 0 0)⟩, ⟨false, .any⟩, ⟨false, (.lit (.bool false))⟩, ⟨true, (.int .i64)⟩, ⟨false, .any⟩, ⟨false, .any⟩, ⟨false, .any⟩, ⟨false, .any⟩, ⟨false, .any⟩, ⟨false, .any⟩, ⟨false, .any⟩, ⟨false, .any⟩, ⟨false, .any⟩, ⟨false, .any⟩, ⟨false, .any⟩, ⟨false, .any⟩, ⟨false, .any⟩, ⟨false, .any⟩, ⟨false, .any⟩, ⟨false, .any⟩, ⟨false, .any⟩], [(.dat false 60)], [⟨0, 0, [⟨true, .any⟩, ⟨false, (.int .i64)⟩, ⟨true, .any⟩, ⟨true, .any⟩, ⟨true, (.lit (.bool false))⟩, ⟨true, .any⟩, ⟨true, .any⟩, ⟨true, .any⟩, ⟨true, .any⟩, ⟨true, .any⟩, ⟨true, .any⟩, ⟨true, .any⟩, ⟨true, .any⟩, ⟨true, .any⟩, ⟨true, .any⟩, ⟨true, .any⟩, ⟨true, .any⟩, ⟨true, .any⟩, ⟨true, .any⟩, ⟨true, .any⟩, ⟨true, .any⟩, ⟨true, .any⟩, ⟨true, .any⟩], [(.dat false 60)]⟩, ⟨1, 0, [⟨true, .any⟩, ⟨false, (.int .i64)⟩, ⟨true, .any⟩, ⟨true, .any⟩, ⟨true, (.lit (.bool true))⟩, ⟨true, .any⟩, ⟨true, .any⟩, ⟨true, .any⟩, ⟨true, .any⟩, ⟨true, .any⟩, ⟨true, .any⟩, ⟨true, .any⟩, ⟨true, .any⟩, ⟨true, .any⟩, ⟨true, .any⟩, ⟨true, .any⟩, ⟨true, .any⟩, ⟨true, .any⟩, ⟨true, .any⟩, ⟨true, .any⟩, ⟨true, .any⟩, ⟨true, .any⟩, ⟨true, .any⟩], [(.dat false 60)]⟩]⟩

noncomputable def st94_4 (Q : List D → Option (List D)) (p s : List D) : Option (Sum (List D) (List D)) := stepQ env (tbR94 Q ) 60 6 94 (loopC 94 4) S94_4 p s

theorem st94_4_eq (Q : List D → Option (List D)) (pn0 : Int) (pd1 : D) (sn0 : Int) : st94_4 Q  [(D.int pn0), pd1] [(D.int sn0)] =
    bif (qcmp BinOp.lss sn0 (qlen (qfld pd1 4))) then
      bif (qinb (qfld pd1 4) sn0) then
        bif (qsome (Q [(qget (qfld pd1 4) sn0), (D.int (qbin BinOp.sub IntKind.i64 pn0 1))])) then
          bif (qbool (qnth (Q [(qget (qfld pd1 4) sn0), (D.int (qbin BinOp.sub IntKind.i64 pn0 1))]) 0)) then
            some (Sum.inr [(D.int 1)])
          else
            some (Sum.inl [(D.int (qbin BinOp.add IntKind.i64 sn0 1))])
        else
          none
      else
        none
    else
      some (Sum.inr [(D.int 0)]) := by
  have h : st94_4 Q  [(D.int pn0), pd1] [(D.int sn0)] =
    bif (qcmp BinOp.lss sn0 (qlen (qfld pd1 4))) then
      bif (qinb (qfld pd1 4) sn0) then
        bif (qsome (Q [(qget (qfld pd1 4) sn0), (D.int (qbin BinOp.sub IntKind.i64 pn0 1))])) then
          bif (qbool (qnth (Q [(qget (qfld pd1 4) sn0), (D.int (qbin BinOp.sub IntKind.i64 pn0 1))]) 0)) then
            bif (qeqD (D.int pn0) (D.int pn0)) then
              bif (qeqD pd1 pd1) then
                some (Sum.inr [(D.int 1)])
              else
                none
            else
              none
          else
            bif (qeqD (D.int pn0) (D.int pn0)) then
              bif (qeqD pd1 pd1) then
                some (Sum.inl [(D.int (qbin BinOp.add IntKind.i64 sn0 1))])
              else
                none
            else
              none
        else
          none
      else
        none
    else
      bif (qeqD (D.int pn0) (D.int pn0)) then
        bif (qeqD pd1 pd1) then
          some (Sum.inr [(D.int 0)])
        else
          none
      else
        none := by kernel_rfl
  rw [h]; simp only [qeqD_self, qeqI_self, qeq_len, List.length_cons, List.length_nil, cond_true]

noncomputable def l94_4 (Q : List D → Option (List D)) : List D → List D → Option (List D) := veil fun p s => loW (st94_4 Q  p) s

theorem l94_4_eq (Q : List D → Option (List D)) : l94_4 Q  = fun p s => loW (st94_4 Q  p) s := veil_eq _

noncomputable def tbl94_4 (Q : List D → Option (List D)) : Tb := Tb.addL (tbR94 Q ) 94 4 S94_4.n0 (mkLp S94_4 (l94_4 Q ))

theorem ok_tbl94_4 (Q : List D → Option (List D)) (hQ : SoundF env.P 94 S94 Q) : TbOk env (tbl94_4 Q ) := addLoopQ (ok_tbR94 Q hQ) 94 4 (by kernel_rfl) _ (l94_4_eq Q )

noncomputable def Fb94 (Q : List D → Option (List D)) : List D → Option (List D) := liftF env (tbl94_4 Q ) 60 6 94 S94

theorem Fb94_eq (Q : List D → Option (List D))  (sd0 : D) (sn1 : Int) : Fb94 Q  [sd0, (D.int sn1)] =
    bif (qcmp BinOp.lss sn1 1) then
      some [(D.bool Bool.true)]
    else
      bif (qsome (Proofs.Ytcengfpfphdacaa.l94_4 Q [(D.int sn1), sd0] [(D.int 0)])) then
        bif (qcmp BinOp.eql (qint (qnth (Proofs.Ytcengfpfphdacaa.l94_4 Q [(D.int sn1), sd0] [(D.int 0)]) 0)) 0) then
          some [(D.bool Bool.false)]
        else
          some [(D.bool Bool.true)]
      else
        none := by kernel_rfl

noncomputable def F94 : Nat → List D → Option (List D) := levels Fb94

theorem F94_0 (ds : List D) : F94 0 ds = none := rfl

theorem F94_s (n : Nat) : F94 (n + 1) = Fb94 (F94 n) := rfl

noncomputable def q94 : List D → Option (List D) := veil fun ds => F94 (fuelL ds) ds

theorem q94_eq : q94 = fun ds => F94 (fuelL ds) ds := veil_eq _

theorem sound94 : SoundF env.P 94 S94 q94 := recF (fun q => tbl94_4 q) (fun q hq => ok_tbl94_4 q hq) q94_eq

noncomputable def tb94 : Tb := Tb.addF tb56 94 S94 q94

theorem ok_tb94 : TbOk env tb94 := TbOk.addF ok_tb56 (by kernel_rfl) sound94

def S95 : FunS := ⟨[⟨true, (.dat 60)⟩], [], [⟨true, .bool⟩], []⟩

noncomputable def tbR95 (Q : List D → Option (List D)) : Tb := Tb.addF tb94 95 S95 Q

theorem ok_tbR95 (Q : List D → Option (List D)) (hQ : SoundF env.P 95 S95 Q) : TbOk env (tbR95 Q) := TbOk.addF ok_tb94 (by kernel_rfl) hQ

def S95_2 : LoopS := ⟨0, [⟨false, .any⟩, ⟨false, (.ptr 0 0)⟩, ⟨false, (.lit (.bool false))⟩, ⟨true, (.int .i64)⟩, ⟨false, .any⟩, ⟨false, .any⟩, ⟨false, .any⟩, ⟨false, .any⟩, ⟨false, .any⟩, ⟨false, .any⟩, ⟨false, .any⟩, ⟨false, .any⟩, ⟨false, .any⟩, ⟨false, .any⟩, ⟨false, .any⟩, ⟨false, .any⟩, ⟨false, .any⟩, ⟨false, .any⟩, ⟨false, .any⟩, ⟨false, .any⟩, ⟨false, .any⟩, ⟨false, .any⟩, ⟨false, .any⟩, ⟨false, .any⟩, ⟨false, .any⟩, ⟨false, .any⟩, ⟨false, .any⟩, ⟨false, .any⟩, ⟨false, .any⟩, ⟨false, .any⟩, ⟨false, .any⟩, ⟨false, .any⟩, ⟨false, .any⟩, ⟨false, .any⟩, ⟨false, .any⟩, ⟨false, .any⟩, ⟨false, .any⟩, ⟨false, .any⟩, ⟨false, .any⟩, ⟨false, .any⟩, ⟨false, .any⟩, ⟨false, .any⟩, ⟨false, .any⟩, ⟨false, .any⟩, ⟨false, .any⟩, ⟨false, .any⟩, ⟨false, .any⟩, ⟨false, .any⟩, ⟨false, .any⟩, ⟨false, .any⟩, ⟨false, .any⟩, ⟨false, .any⟩, ⟨false, .any⟩, ⟨false, .any⟩, ⟨false, .any⟩, ⟨false, .any⟩, ⟨false, .any⟩, ⟨false, .any⟩, ⟨false, .any⟩, ⟨false, .any⟩, ⟨false, .any⟩, ⟨false, .any⟩, ⟨false, .any⟩, ⟨false, .any⟩, ⟨false, .any⟩, ⟨false, .any⟩, ⟨false, .any⟩, ⟨false, .any⟩, ⟨false, .any⟩, ⟨false, .any⟩, ⟨false, .any⟩, ⟨false, .any⟩, ⟨false, .any⟩, ⟨false, .any⟩, ⟨false, .any⟩, ⟨false, .any⟩, ⟨false, .any⟩, ⟨false, .any⟩, ⟨false, .any⟩, ⟨false, .any⟩, ⟨false, .any⟩, ⟨false, .any⟩, ⟨false, .any⟩, ⟨false, .any⟩, ⟨false, .any⟩, ⟨false, .any⟩, ⟨false, .any⟩, ⟨false, .any⟩, ⟨false, .any⟩, ⟨false, .any⟩, ⟨false, .any⟩, ⟨false, .any⟩, ⟨false, .any⟩, ⟨false, .any⟩, ⟨false, .any⟩, ⟨false, .any⟩, ⟨false, .any⟩, ⟨false, .any⟩, ⟨false, .any⟩, ⟨false, .any⟩, ⟨false, .any⟩, ⟨false, .any⟩, ⟨false, .any⟩, ⟨false, .any⟩, ⟨false, .any⟩, ⟨false, .any⟩, ⟨false, .any⟩, ⟨false, .any⟩, ⟨false, .any⟩, ⟨false, .any⟩, ⟨false, .any⟩, ⟨false, .any⟩, ⟨false, .any⟩, ⟨false, .any⟩, ⟨false, .any⟩, ⟨false, .any⟩, ⟨false, .any⟩, ⟨false, .any⟩, ⟨false, .any⟩, ⟨false, .any⟩, ⟨false, .any⟩, ⟨false, .any⟩, ⟨false, .any⟩, ⟨false, .any⟩, ⟨false, .any⟩, ⟨false, .any⟩, ⟨false, .any⟩, ⟨false, .any⟩, ⟨false, .any⟩, ⟨false, .any⟩, ⟨false, .any⟩, ⟨false, .any⟩, ⟨false, .any⟩, ⟨false, .any⟩, ⟨false, .any⟩, ⟨false, .any⟩, ⟨false, .any⟩, ⟨false, .any⟩, ⟨false, .any⟩, ⟨false, .any⟩, ⟨false, .any⟩, ⟨false, .any⟩, ⟨false, .any⟩, ⟨false, .any⟩, ⟨false, .any⟩, ⟨false, .any⟩, ⟨false, .any⟩, ⟨false, .any⟩, ⟨false, .any⟩, ⟨false, .any⟩, ⟨false, .any⟩, ⟨false, .any⟩, ⟨false, .any⟩, ⟨false, .any⟩, ⟨false, .any⟩, ⟨false, .any⟩, ⟨false, .any⟩, ⟨false, .any⟩, ⟨false, .any⟩, ⟨false, .any⟩, ⟨false, .any⟩, ⟨false, .any⟩, ⟨false, .any⟩, ⟨false, .any⟩, ⟨false, .any⟩], [(.dat false 60)], [⟨0, 0, [⟨true, .any⟩, ⟨true, (.ptr 0 0)⟩, ⟨true, (.lit (.bool false))⟩, ⟨true, .any⟩, ⟨true, .any⟩, ⟨true, .any⟩, ⟨true, .any⟩, ⟨true, .any⟩, ⟨true, .any⟩, ⟨true, .any⟩, ⟨true, .any⟩, ⟨true, .any⟩, ⟨true, .any⟩, ⟨true, .any⟩, ⟨true, .any⟩, ⟨true, .any⟩, ⟨true, .any⟩, ⟨true, .any⟩, ⟨true, .any⟩, ⟨true, .any⟩, ⟨true, .any⟩, ⟨true, .any⟩, ⟨true, .any⟩, ⟨true, .any⟩, ⟨true, .any⟩, ⟨true, .any⟩, ⟨true, .any⟩, ⟨true, .any⟩, ⟨true, .any⟩, ⟨true, .any⟩, ⟨true, .any⟩, ⟨true, .any⟩, ⟨true, .any⟩, ⟨true, .any⟩, ⟨true, .any⟩, ⟨true, .any⟩, ⟨true, .any⟩, ⟨true, .any⟩, ⟨true, .any⟩, ⟨true, .any⟩, ⟨true, .any⟩, ⟨true, .any⟩, ⟨true, .any⟩, ⟨true, .any⟩, ⟨true, .any⟩, ⟨true, .any⟩, ⟨true, .any⟩, ⟨true, .any⟩, ⟨true, .any⟩, ⟨true, .any⟩, ⟨true, .any⟩, ⟨true, .any⟩, ⟨true, .any⟩, ⟨true, .any⟩, ⟨true, .any⟩, ⟨true, .any⟩, ⟨true, .any⟩, ⟨true, .any⟩, ⟨true, .any⟩, ⟨true, .any⟩, ⟨true, .any⟩, ⟨true, .any⟩, ⟨true, .any⟩, ⟨true, .any⟩, ⟨true, .any⟩, ⟨true, .any⟩, ⟨true, .any⟩, ⟨true, .any⟩, ⟨true, .any⟩, ⟨true, .any⟩, ⟨true, .any⟩, ⟨true, .any⟩, ⟨true, .any⟩, ⟨true, .any⟩, ⟨true, .any⟩, ⟨true, .any⟩, ⟨true, .any⟩, ⟨true, .any⟩, ⟨true, .any⟩, ⟨true, .any⟩, ⟨true, .any⟩, ⟨true, .any⟩, ⟨true, .any⟩, ⟨true, .any⟩, ⟨true, .any⟩, ⟨true, .any⟩, ⟨true, .any⟩, ⟨true, .any⟩, ⟨true, .any⟩, ⟨true, .any⟩, ⟨true, .any⟩, ⟨true, .any⟩, ⟨true, .any⟩, ⟨true, .any⟩, ⟨true, .any⟩, ⟨true, .any⟩, ⟨true, .any⟩, ⟨true, .any⟩, ⟨true, .any⟩, ⟨true, .any⟩, ⟨true, .any⟩, ⟨true, .any⟩, ⟨true, .any⟩, ⟨true, .any⟩, ⟨true, .any⟩, ⟨true, .any⟩, ⟨true, .any⟩, ⟨true, .any⟩, ⟨true, .any⟩, ⟨true, .any⟩, ⟨true, .any⟩, ⟨true, .any⟩, ⟨true, .any⟩, ⟨true, .any⟩, ⟨true, .any⟩, ⟨true, .any⟩, ⟨true, .any⟩, ⟨true, .any⟩, ⟨true, .any⟩, ⟨true, .any⟩, ⟨true, .any⟩, ⟨true, .any⟩, ⟨true, .any⟩, ⟨true, .any⟩, ⟨true, .any⟩, ⟨true, .any⟩, ⟨true, .any⟩, ⟨true, .any⟩, ⟨true, .any⟩, ⟨true, .any⟩, ⟨true, .any⟩, ⟨true, .any⟩, ⟨true, .any⟩, ⟨true, .any⟩, ⟨true, .any⟩, ⟨true, .any⟩, ⟨true, .any⟩, ⟨true, .any⟩, ⟨true, .any⟩, ⟨true, .any⟩, ⟨true, .any⟩, ⟨true, .any⟩, ⟨true, .any⟩, ⟨true, .any⟩, ⟨true, .any⟩, ⟨true, .any⟩, ⟨true, .any⟩, ⟨true, .any⟩, ⟨true, .any⟩, ⟨true, .any⟩, ⟨true, .any⟩, ⟨true, .any⟩, ⟨true, .any⟩, ⟨true, .any⟩, ⟨true, .any⟩, ⟨true, .any⟩, ⟨true, .any⟩, ⟨true, .any⟩, ⟨true, .any⟩, ⟨true, .any⟩, ⟨true, .any⟩, ⟨true, .any⟩, ⟨true, .any⟩, ⟨true, .any⟩, ⟨true, .any⟩], [(.dat false 60)]⟩, ⟨1, 0, [⟨true, .any⟩, ⟨true, .any⟩, ⟨true, (.lit (.bool false))⟩, ⟨true, .any⟩, ⟨true, .any⟩, ⟨true, .any⟩, ⟨true, .any⟩, ⟨true, .any⟩, ⟨true, .any⟩, ⟨true, .any⟩, ⟨true, .any⟩, ⟨true, .any⟩, ⟨true, .any⟩, ⟨true, .any⟩, ⟨true, .any⟩, ⟨true, .any⟩, ⟨true, .any⟩, ⟨true, .any⟩, ⟨true, .any⟩, ⟨true, .any⟩, ⟨true, .any⟩, ⟨true, .any⟩, ⟨true, .any⟩, ⟨true, .any⟩, ⟨true, .any⟩, ⟨true, .any⟩, ⟨true, .any⟩, ⟨true, .any⟩, ⟨true, .any⟩, ⟨true, .any⟩, ⟨true, .any⟩, ⟨true, .any⟩, ⟨true, .any⟩, ⟨true, .any⟩, ⟨true, .any⟩, ⟨true, .any⟩, ⟨true, .any⟩, ⟨true, .any⟩, ⟨true, .any⟩, ⟨true, .any⟩, ⟨true, .any⟩, ⟨true, .any⟩, ⟨true, .any⟩, ⟨true, .any⟩, ⟨true, .any⟩, ⟨true, .any⟩, ⟨true, .any⟩, ⟨true, .any⟩, ⟨true, .any⟩, ⟨true, .any⟩, ⟨true, .any⟩, ⟨true, .any⟩, ⟨true, .any⟩, ⟨true, .any⟩, ⟨true, .any⟩, ⟨true, .any⟩, ⟨true, .any⟩, ⟨true, .any⟩, ⟨true, .any⟩, ⟨true, .any⟩, ⟨true, .any⟩, ⟨true, .any⟩, ⟨true, .any⟩, ⟨true, .any⟩, ⟨true, .any⟩, ⟨true, .any⟩, ⟨true, .any⟩, ⟨true, .any⟩, ⟨true, .any⟩, ⟨true, .any⟩, ⟨true, .any⟩, ⟨true, .any⟩, ⟨true, .any⟩, ⟨true, .any⟩, ⟨true, .any⟩, ⟨true, .any⟩, ⟨true, .any⟩, ⟨true, .any⟩, ⟨true, .any⟩, ⟨true, .any⟩, ⟨true, .any⟩, ⟨true, .any⟩, ⟨true, .any⟩, ⟨true, .any⟩, ⟨true, .any⟩, ⟨true, .any⟩, ⟨true, .any⟩, ⟨true, .any⟩, ⟨true, .any⟩, ⟨true, .any⟩, ⟨true, .any⟩, ⟨true, .any⟩, ⟨true, .any⟩, ⟨true, .any⟩, ⟨true, .any⟩, ⟨true, .any⟩, ⟨true, .any⟩, ⟨true, .any⟩, ⟨true, .any⟩, ⟨true, .any⟩, ⟨true, .any⟩, ⟨true, .any⟩, ⟨true, .any⟩, ⟨true, .any⟩, ⟨true, .any⟩, ⟨true, .any⟩, ⟨true, .any⟩, ⟨true, .any⟩, ⟨true, .any⟩, ⟨true, .any⟩, ⟨true, .any⟩, ⟨true, .any⟩, ⟨true, .any⟩, ⟨true, .any⟩, ⟨true, .any⟩, ⟨true, .any⟩, ⟨true, .any⟩, ⟨true, .any⟩, ⟨true, .any⟩, ⟨true, .any⟩, ⟨true, .any⟩, ⟨true, .any⟩, ⟨true, .any⟩, ⟨true, .any⟩, ⟨true, .any⟩, ⟨true, .any⟩, ⟨true, .any⟩, ⟨true, .any⟩, ⟨true, .any⟩, ⟨true, .any⟩, ⟨true, .any⟩, ⟨true, .any⟩, ⟨true, .any⟩, ⟨true, .any⟩, ⟨true, .any⟩, ⟨true, .any⟩, ⟨true, .any⟩, ⟨true, .any⟩, ⟨true, .any⟩, ⟨true, .any⟩, ⟨true, .any⟩, ⟨true, .any⟩, ⟨true, .any⟩, ⟨true, .any⟩, ⟨true, .any⟩, ⟨true, .any⟩, ⟨true, .any⟩, ⟨true, .any⟩, ⟨true, .any⟩, ⟨true, .any⟩, ⟨true, .any⟩, ⟨true, .any⟩, ⟨true, .any⟩, ⟨true, .any⟩, ⟨true, .any⟩, ⟨true, .any⟩, ⟨true, .any⟩, ⟨true, .any⟩, ⟨true, .any⟩, ⟨true, .any⟩, ⟨true, .any⟩, ⟨true, .any⟩, ⟨true, .any⟩, ⟨true, .any⟩, ⟨true, .any⟩], [(.dat false 60)]⟩]⟩

noncomputable def st95_2 (Q : List D → Option (List D)) (p s : List D) : Option (Sum (List D) (List D)) := stepQ env (tbR95 Q ) 60 6 95 (loopC 95 2) S95_2 p s

theorem st95_2_eq (Q : List D → Option (List D)) (pd0 : D) (sn0 : Int) : st95_2 Q  [pd0] [(D.int sn0)] =
    bif (qcmp BinOp.lss sn0 (qlen (qfld pd0 4))) then
      bif (qinb (qfld pd0 4) sn0) then
        bif (qsome (Q [(qget (qfld pd0 4) sn0)])) then
          bif (qnot (qbool (qnth (Q [(qget (qfld pd0 4) sn0)]) 0))) then
            some (Sum.inr [(D.int 1)])
          else
            some (Sum.inl [(D.int (qbin BinOp.add IntKind.i64 sn0 1))])
        else
          none
      else
        none
    else
      some (Sum.inr [(D.int 0)]) := by
  have h : st95_2 Q  [pd0] [(D.int sn0)] =
    bif (qcmp BinOp.lss sn0 (qlen (qfld pd0 4))) then
      bif (qinb (qfld pd0 4) sn0) then
        bif (qsome (Q [(qget (qfld pd0 4) sn0)])) then
          bif (qnot (qbool (qnth (Q [(qget (qfld pd0 4) sn0)]) 0))) then
            bif (qeqD pd0 pd0) then
              some (Sum.inr [(D.int 1)])
            else
              none
          else
            bif (qeqD pd0 pd0) then
              some (Sum.inl [(D.int (qbin BinOp.add IntKind.i64 sn0 1))])
            else
              none
        else
          none
      else
        none
    else
      bif (qeqD pd0 pd0) then
        some (Sum.inr [(D.int 0)])
      else
        none := by kernel_rfl
  rw [h]; simp only [qeqD_self, qeqI_self, qeq_len, List.length_cons, List.length_nil, cond_true]

noncomputable def l95_2 (Q : List D → Option (List D)) : List D → List D → Option (List D) := veil fun p s => loW (st95_2 Q  p) s

theorem l95_2_eq (Q : List D → Option (List D)) : l95_2 Q  = fun p s => loW (st95_2 Q  p) s := veil_eq _

noncomputable def tbl95_2 (Q : List D → Option (List D)) : Tb := Tb.addL (tbR95 Q ) 95 2 S95_2.n0 (mkLp S95_2 (l95_2 Q ))

theorem ok_tbl95_2 (Q : List D → Option (List D)) (hQ : SoundF env.P 95 S95 Q) : TbOk env (tbl95_2 Q ) := addLoopQ (ok_tbR95 Q hQ) 95 2 (by kernel_rfl) _ (l95_2_eq Q )

noncomputable def Fb95 (Q : List D → Option (List D)) : List D → Option (List D) := liftF env (tbl95_2 Q ) 60 6 95 S95

theorem Fb95_eq (Q : List D → Option (List D))  (sd0 : D) : Fb95 Q  [sd0] =
    bif (qsome (Proofs.Ytcengfpfphdacaa.l95_2 Q [sd0] [(D.int 0)])) then
      bif (qcmp BinOp.eql (qint (qnth (Proofs.Ytcengfpfphdacaa.l95_2 Q [sd0] [(D.int 0)]) 0)) 0) then
        bif (qcmp BinOp.eql (qint (qfld sd0 0)) 1) then
          some [(D.bool (qiteB (qiteB (qcmp BinOp.eql (qint (qfld sd0 2)) 0) (qcmp BinOp.eql (qint (qfld sd0 3)) 0) Bool.false) (qcmp BinOp.eql (qlen (qfld sd0 4)) 0) Bool.false))]
        else
          bif (qcmp BinOp.eql (qint (qfld sd0 0)) 2) then
            bif (qiteB (qiteB (qiteB (qcmp BinOp.eql (qint (qfld sd0 1)) 0) (qcmp BinOp.eql (qint (qfld sd0 3)) 0) Bool.false) (qcmp BinOp.eql (qlen (qfld sd0 4)) 0) Bool.false) (qsome (Proofs.Ytcengfpfphdacaa.q74 [(D.int (qint (qfld sd0 2)))])) Bool.true) then
              some [(D.bool (qiteB (qiteB (qiteB (qcmp BinOp.eql (qint (qfld sd0 1)) 0) (qcmp BinOp.eql (qint (qfld sd0 3)) 0) Bool.false) (qcmp BinOp.eql (qlen (qfld sd0 4)) 0) Bool.false) (qbool (qnth (Proofs.Ytcengfpfphdacaa.q74 [(D.int (qint (qfld sd0 2)))]) 0)) Bool.false))]
            else
              none
          else
            bif (qiteB (qcmp BinOp.eql (qint (qfld sd0 0)) 16) (qcmp BinOp.eql (qint (qfld sd0 0)) 16) (qcmp BinOp.eql (qint (qfld sd0 0)) 17)) then
              some [(D.bool (qiteB (qiteB (qiteB (qcmp BinOp.eql (qint (qfld sd0 1)) 0) (qcmp BinOp.eql (qint (qfld sd0 2)) 0) Bool.false) (qcmp BinOp.eql (qint (qfld sd0 3)) 0) Bool.false) (qcmp BinOp.eql (qlen (qfld sd0 4)) 1) Bool.false))]
            else
              bif (qcmp BinOp.eql (qint (qfld sd0 0)) 18) then
                some [(D.bool (qiteB (qiteB (qiteB (qcmp BinOp.eql (qint (qfld sd0 1)) 0) (qcmp BinOp.eql (qint (qfld sd0 2)) 0) Bool.false) (qiteB (qiteB (qcmp BinOp.eql (qint (qfld sd0 3)) 1) Bool.true (qcmp BinOp.eql (qint (qfld sd0 3)) 2)) Bool.true (qcmp BinOp.eql (qint (qfld sd0 3)) 4)) Bool.false) (qcmp BinOp.eql (qlen (qfld sd0 4)) 1) Bool.false))]
              else
                bif (qcmp BinOp.eql (qint (qfld sd0 0)) 19) then
                  some [(D.bool (qiteB (qiteB (qiteB (qcmp BinOp.eql (qint (qfld sd0 1)) 0) (qcmp BinOp.eql (qint (qfld sd0 2)) 0) Bool.false) (qiteB (qcmp BinOp.eql (qint (qfld sd0 3)) 1) Bool.true (qcmp BinOp.eql (qint (qfld sd0 3)) 2)) Bool.false) (qcmp BinOp.eql (qlen (qfld sd0 4)) 1) Bool.false))]
                else
                  some [(D.bool (qiteB (qiteB (qiteB (qiteB (qiteB (qcmp BinOp.geq (qint (qfld sd0 0)) 3) (qcmp BinOp.leq (qint (qfld sd0 0)) 15) Bool.false) (qcmp BinOp.eql (qint (qfld sd0 1)) 0) Bool.false) (qcmp BinOp.eql (qint (qfld sd0 2)) 0) Bool.false) (qcmp BinOp.eql (qint (qfld sd0 3)) 0) Bool.false) (qcmp BinOp.eql (qlen (qfld sd0 4)) 2) Bool.false))]
      else
        some [(D.bool Bool.false)]
    else
      none := by kernel_rfl

noncomputable def F95 : Nat → List D → Option (List D) := levels Fb95

theorem F95_0 (ds : List D) : F95 0 ds = none := rfl

theorem F95_s (n : Nat) : F95 (n + 1) = Fb95 (F95 n) := rfl

noncomputable def q95 : List D → Option (List D) := veil fun ds => F95 (fuelL ds) ds

theorem q95_eq : q95 = fun ds => F95 (fuelL ds) ds := veil_eq _

theorem sound95 : SoundF env.P 95 S95 q95 := recF (fun q => tbl95_2 q) (fun q hq => ok_tbl95_2 q hq) q95_eq

noncomputable def tb95 : Tb := Tb.addF tb94 95 S95 q95

theorem ok_tb95 : TbOk env tb95 := TbOk.addF ok_tb94 (by kernel_rfl) sound95

end Go.Proofs.Ytcengfpfphdacaa

open Go Go.AM
namespace Go.Proofs.Ytcengfpfphdacaa
set_option maxRecDepth 100000
/- function 30  -/

def S30 : FunS := ⟨[⟨true, (.dat 60)⟩], [], [⟨true, (.int .i64)⟩], []⟩

noncomputable def F30 : List D → Option (List D) := liftF env tb95 60 6 30 S30

theorem F30_eq  (sd0 : D) : F30  [sd0] =
    bif (qsome (Proofs.Ytcengfpfphdacaa.q55 [sd0, (D.int 64)])) then
      bif (qnot (qbool (qnth (Proofs.Ytcengfpfphdacaa.q55 [sd0, (D.int 64)]) 0))) then
        some [(D.int 20)]
      else
        bif (qsome (Proofs.Ytcengfpfphdacaa.q56 [sd0])) then
          bif (qnot (qbool (qnth (Proofs.Ytcengfpfphdacaa.q56 [sd0]) 0))) then
            some [(D.int 2)]
          else
            some [(D.int 0)]
        else
          none
    else
      none := by kernel_rfl

noncomputable def q30 : List D → Option (List D) := veil (F30 )

theorem q30_eq : q30  = F30  := veil_eq _

noncomputable def tb30 : Tb := Tb.addF tb95 30 S30 (q30 )

theorem ok_tb30 : TbOk env (tb30 ) := addFunF ok_tb95 30 (by kernel_rfl) _ (q30_eq )

/- function 72  -/

def S72 : FunS := ⟨[⟨true, (.dat 60)⟩], [], [⟨true, (.int .i64)⟩], []⟩

noncomputable def F72 : List D → Option (List D) := liftF env tb30 60 6 72 S72

theorem F72_eq  (sd0 : D) : F72  [sd0] =
    bif (qsome (Proofs.Ytcengfpfphdacaa.q94 [sd0, (D.int 64)])) then
      bif (qbool (qnth (Proofs.Ytcengfpfphdacaa.q94 [sd0, (D.int 64)]) 0)) then
        some [(D.int 20)]
      else
        bif (qsome (Proofs.Ytcengfpfphdacaa.q95 [sd0])) then
          bif (qnot (qbool (qnth (Proofs.Ytcengfpfphdacaa.q95 [sd0]) 0))) then
            some [(D.int 2)]
          else
            some [(D.int 0)]
        else
          none
    else
      none := by kernel_rfl

noncomputable def q72 : List D → Option (List D) := veil (F72 )

theorem q72_eq : q72  = F72  := veil_eq _

noncomputable def tb72 : Tb := Tb.addF tb30 72 S72 (q72 )

theorem ok_tb72 : TbOk env (tb72 ) := addFunF ok_tb30 72 (by kernel_rfl) _ (q72_eq )

/- function 41  -/

def S41_5 : LoopS := ⟨0, [⟨false, .any⟩, ⟨false, (.ptr 0 0)⟩, ⟨false, (.lit (.int .i64 0))⟩, ⟨false, .any⟩, ⟨false, .any⟩, ⟨false, .any⟩, ⟨false, .any⟩, ⟨false, .any⟩, ⟨false, .any⟩, ⟨false, .any⟩, ⟨false, .any⟩, ⟨false, .any⟩, ⟨false, .any⟩, ⟨false, .any⟩, ⟨false, .any⟩, ⟨false, .any⟩, ⟨false, .any⟩, ⟨false, .any⟩, ⟨false, .any⟩, ⟨false, .any⟩, ⟨false, (.rows 60)⟩, ⟨false, (.int .i64)⟩, ⟨true, (.int .i64)⟩, ⟨false, .any⟩, ⟨false, .any⟩, ⟨false, .any⟩, ⟨false, .any⟩, ⟨false, .any⟩, ⟨false, .any⟩, ⟨false, .any⟩, ⟨false, .any⟩, ⟨false, .any⟩, ⟨false, .any⟩, ⟨false, .any⟩, ⟨false, .any⟩], [(.dat false 81)], [⟨0, 0, [⟨true, .any⟩, ⟨true, (.ptr 0 0)⟩, ⟨true, (.lit (.int .i64 0))⟩, ⟨true, .any⟩, ⟨true, .any⟩, ⟨true, .any⟩, ⟨true, .any⟩, ⟨true, .any⟩, ⟨true, .any⟩, ⟨true, .any⟩, ⟨true, .any⟩, ⟨true, .any⟩, ⟨true, .any⟩, ⟨true, .any⟩, ⟨true, .any⟩, ⟨true, .any⟩, ⟨true, .any⟩, ⟨true, .any⟩, ⟨true, .any⟩, ⟨true, .any⟩, ⟨false, (.rows 60)⟩, ⟨false, (.int .i64)⟩, ⟨true, .any⟩, ⟨true, .any⟩, ⟨true, .any⟩, ⟨true, .any⟩, ⟨true, .any⟩, ⟨true, .any⟩, ⟨true, .any⟩, ⟨true, .any⟩, ⟨true, .any⟩, ⟨true, .any⟩, ⟨true, .any⟩, ⟨true, .any⟩, ⟨true, .any⟩], [(.dat false 81)]⟩, ⟨1, 0, [⟨true, .any⟩, ⟨true, .any⟩, ⟨true, (.int .i64)⟩, ⟨true, .any⟩, ⟨true, .any⟩, ⟨true, .any⟩, ⟨true, .any⟩, ⟨true, .any⟩, ⟨true, .any⟩, ⟨true, .any⟩, ⟨true, .any⟩, ⟨true, .any⟩, ⟨true, .any⟩, ⟨true, .any⟩, ⟨true, .any⟩, ⟨true, .any⟩, ⟨true, .any⟩, ⟨true, .any⟩, ⟨true, .any⟩, ⟨true, .any⟩, ⟨false, (.rows 60)⟩, ⟨false, (.int .i64)⟩, ⟨true, .any⟩, ⟨true, .any⟩, ⟨true, .any⟩, ⟨true, .any⟩, ⟨true, .any⟩, ⟨true, .any⟩, ⟨true, .any⟩, ⟨true, .any⟩, ⟨true, .any⟩, ⟨true, .any⟩, ⟨true, .any⟩, ⟨true, .any⟩, ⟨true, .any⟩], [(.dat false 81)]⟩]⟩

noncomputable def st41_5 (p s : List D) : Option (Sum (List D) (List D)) := stepQ env tb72 60 6 41 (loopC 41 5) S41_5 p s

theorem st41_5_eq (pd0 : D) (pn1 : Int) (pd2 : D) (sn0 : Int) : st41_5  [pd0, (D.int pn1), pd2] [(D.int sn0)] =
    bif (qcmp BinOp.lss sn0 pn1) then
      bif (qinb pd0 sn0) then
        bif (qsome (Proofs.Ytcengfpfphdacaa.q30 [(qget pd0 sn0)])) then
          bif (qcmp BinOp.neq (qint (qnth (Proofs.Ytcengfpfphdacaa.q30 [(qget pd0 sn0)]) 0)) 0) then
            some (Sum.inr [(D.int 1), (D.int (qint (qnth (Proofs.Ytcengfpfphdacaa.q30 [(qget pd0 sn0)]) 0)))])
          else
            some (Sum.inl [(D.int (qbin BinOp.add IntKind.i64 sn0 1))])
        else
          none
      else
        none
    else
      some (Sum.inr [(D.int 0)]) := by
  have h : st41_5  [pd0, (D.int pn1), pd2] [(D.int sn0)] =
    bif (qcmp BinOp.lss sn0 pn1) then
      bif (qinb pd0 sn0) then
        bif (qsome (Proofs.Ytcengfpfphdacaa.q30 [(qget pd0 sn0)])) then
          bif (qcmp BinOp.neq (qint (qnth (Proofs.Ytcengfpfphdacaa.q30 [(qget pd0 sn0)]) 0)) 0) then
            bif (qeqD pd0 pd0) then
              bif (qeqD (D.int pn1) (D.int pn1)) then
                bif (qeqD pd2 pd2) then
                  some (Sum.inr [(D.int 1), (D.int (qint (qnth (Proofs.Ytcengfpfphdacaa.q30 [(qget pd0 sn0)]) 0)))])
                else
                  none
              else
                none
            else
              none
          else
            bif (qeqD pd0 pd0) then
              bif (qeqD (D.int pn1) (D.int pn1)) then
                bif (qeqD pd2 pd2) then
                  some (Sum.inl [(D.int (qbin BinOp.add IntKind.i64 sn0 1))])
                else
                  none
              else
                none
            else
              none
        else
          none
      else
        none
    else
      bif (qeqD pd0 pd0) then
        bif (qeqD (D.int pn1) (D.int pn1)) then
          bif (qeqD pd2 pd2) then
            some (Sum.inr [(D.int 0)])
          else
            none
        else
          none
      else
        none := by kernel_rfl
  rw [h]; simp only [qeqD_self, qeqI_self, qeq_len, List.length_cons, List.length_nil, cond_true]

noncomputable def l41_5 : List D → List D → Option (List D) := veil fun p s => loW (st41_5  p) s

theorem l41_5_eq : l41_5  = fun p s => loW (st41_5  p) s := veil_eq _

noncomputable def tbl41_5 : Tb := Tb.addL tb72 41 5 S41_5.n0 (mkLp S41_5 (l41_5 ))

theorem ok_tbl41_5 : TbOk env (tbl41_5 ) := addLoopQ ok_tb72 41 5 (by kernel_rfl) _ (l41_5_eq )

def S41 : FunS := ⟨[⟨true, (.dat 81)⟩], [], [⟨true, (.int .i64)⟩], []⟩

noncomputable def F41 : List D → Option (List D) := liftF env tbl41_5 60 6 41 S41

theorem F41_eq  (sd0 : D) : F41  [sd0] =
    bif (qsome (Proofs.Ytcengfpfphdacaa.q66 [(D.int (qint (qfld sd0 0)))])) then
      bif (qiteB (qcmp BinOp.lss (qint (qnth (Proofs.Ytcengfpfphdacaa.q66 [(D.int (qint (qfld sd0 0)))]) 0)) 0) Bool.true (qcmp BinOp.neq (qint (qnth (Proofs.Ytcengfpfphdacaa.q66 [(D.int (qint (qfld sd0 0)))]) 0)) (qlen (qfld sd0 6)))) then
        some [(D.int 2)]
      else
        bif (qsome (Proofs.Ytcengfpfphdacaa.l41_5 [(qfld sd0 6), (D.int (qlen (qfld sd0 6))), sd0] [(D.int 0)])) then
          bif (qcmp BinOp.eql (qint (qnth (Proofs.Ytcengfpfphdacaa.l41_5 [(qfld sd0 6), (D.int (qlen (qfld sd0 6))), sd0] [(D.int 0)]) 0)) 0) then
            bif (qsome (Proofs.Ytcengfpfphdacaa.q67 [sd0])) then
              bif (qnot (qbool (qnth (Proofs.Ytcengfpfphdacaa.q67 [sd0]) 0))) then
                some [(D.int 2)]
              else
                some [(D.int 0)]
            else
              none
          else
            some [(D.int (qint (qnth (Proofs.Ytcengfpfphdacaa.l41_5 [(qfld sd0 6), (D.int (qlen (qfld sd0 6))), sd0] [(D.int 0)]) 1)))]
        else
          none
    else
      none := by kernel_rfl

noncomputable def q41 : List D → Option (List D) := veil (F41 )

theorem q41_eq : q41  = F41  := veil_eq _

noncomputable def tb41 : Tb := Tb.addF tbl41_5 41 S41 (q41 )

theorem ok_tb41 : TbOk env (tb41 ) := addFunF ok_tbl41_5 41 (by kernel_rfl) _ (q41_eq )

/- function 46  -/

def S46_4 : LoopS := ⟨0, [⟨false, .any⟩, ⟨false, (.ptr 0 0)⟩, ⟨false, (.lit (.int .i64 0))⟩, ⟨true, (.int .i64)⟩, ⟨false, .any⟩, ⟨false, .any⟩, ⟨false, .any⟩, ⟨false, .any⟩, ⟨false, .any⟩, ⟨false, .any⟩, ⟨false, .any⟩, ⟨false, .any⟩, ⟨false, .any⟩, ⟨false, .any⟩, ⟨false, .any⟩, ⟨false, .any⟩, ⟨false, .any⟩, ⟨false, .any⟩, ⟨false, .any⟩, ⟨false, .any⟩, ⟨false, .any⟩, ⟨false, .any⟩, ⟨false, .any⟩, ⟨false, .any⟩, ⟨false, .any⟩, ⟨false, .any⟩, ⟨false, .any⟩, ⟨false, .any⟩, ⟨false, .any⟩, ⟨false, .any⟩, ⟨false, .any⟩, ⟨false, .any⟩, ⟨false, .any⟩, ⟨false, .any⟩, ⟨false, .any⟩, ⟨false, .any⟩, ⟨false, .any⟩, ⟨false, .any⟩, ⟨false, .any⟩, ⟨false, .any⟩, ⟨false, .any⟩, ⟨false, .any⟩, ⟨false, .any⟩, ⟨false, .any⟩, ⟨false, .any⟩, ⟨false, .any⟩, ⟨false, .any⟩, ⟨false, .any⟩, ⟨false, .any⟩, ⟨false, .any⟩, ⟨false, .any⟩, ⟨false, .any⟩, ⟨false, .any⟩, ⟨false, .any⟩, ⟨false, .any⟩, ⟨false, .any⟩, ⟨false, .any⟩, ⟨false, .any⟩, ⟨false, .any⟩, ⟨false, .any⟩, ⟨false, .any⟩, ⟨false, .any⟩, ⟨false, .any⟩, ⟨false, .any⟩, ⟨false, .any⟩, ⟨false, .any⟩, ⟨false, .any⟩, ⟨false, .any⟩, ⟨false, .any⟩, ⟨false, .any⟩, ⟨false, .any⟩, ⟨false, .any⟩, ⟨false, .any⟩, ⟨false, .any⟩, ⟨false, .any⟩, ⟨false, .any⟩, ⟨false, .any⟩, ⟨false, .any⟩, ⟨false, .any⟩, ⟨false, .any⟩, ⟨false, .any⟩, ⟨false, .any⟩], [(.dat false 81)], [⟨0, 0, [⟨true, .any⟩, ⟨true, (.ptr 0 0)⟩, ⟨true, (.lit (.int .i64 0))⟩, ⟨true, .any⟩, ⟨true, .any⟩, ⟨true, .any⟩, ⟨true, .any⟩, ⟨true, .any⟩, ⟨true, .any⟩, ⟨true, .any⟩, ⟨true, .any⟩, ⟨true, .any⟩, ⟨true, .any⟩, ⟨true, .any⟩, ⟨true, .any⟩, ⟨true, .any⟩, ⟨true, .any⟩, ⟨true, .any⟩, ⟨true, .any⟩, ⟨true, .any⟩, ⟨true, .any⟩, ⟨true, .any⟩, ⟨true, .any⟩, ⟨true, .any⟩, ⟨true, .any⟩, ⟨true, .any⟩, ⟨true, .any⟩, ⟨true, .any⟩, ⟨true, .any⟩, ⟨true, .any⟩, ⟨true, .any⟩, ⟨true, .any⟩, ⟨true, .any⟩, ⟨true, .any⟩, ⟨true, .any⟩, ⟨true, .any⟩, ⟨true, .any⟩, ⟨true, .any⟩, ⟨true, .any⟩, ⟨true, .any⟩, ⟨true, .any⟩, ⟨true, .any⟩, ⟨true, .any⟩, ⟨true, .any⟩, ⟨true, .any⟩, ⟨true, .any⟩, ⟨true, .any⟩, ⟨true, .any⟩, ⟨true, .any⟩, ⟨true, .any⟩, ⟨true, .any⟩, ⟨true, .any⟩, ⟨true, .any⟩, ⟨true, .any⟩, ⟨true, .any⟩, ⟨true, .any⟩, ⟨true, .any⟩, ⟨true, .any⟩, ⟨true, .any⟩, ⟨true, .any⟩, ⟨true, .any⟩, ⟨true, .any⟩, ⟨true, .any⟩, ⟨true, .any⟩, ⟨true, .any⟩, ⟨true, .any⟩, ⟨true, .any⟩, ⟨true, .any⟩, ⟨true, .any⟩, ⟨true, .any⟩, ⟨true, .any⟩, ⟨true, .any⟩, ⟨true, .any⟩, ⟨true, .any⟩, ⟨true, .any⟩, ⟨true, .any⟩, ⟨true, .any⟩, ⟨true, .any⟩, ⟨true, .any⟩, ⟨true, .any⟩, ⟨true, .any⟩, ⟨true, .any⟩], [(.dat false 81)]⟩, ⟨1, 0, [⟨true, .any⟩, ⟨true, .any⟩, ⟨true, (.int .i64)⟩, ⟨true, .any⟩, ⟨true, .any⟩, ⟨true, .any⟩, ⟨true, .any⟩, ⟨true, .any⟩, ⟨true, .any⟩, ⟨true, .any⟩, ⟨true, .any⟩, ⟨true, .any⟩, ⟨true, .any⟩, ⟨true, .any⟩, ⟨true, .any⟩, ⟨true, .any⟩, ⟨true, .any⟩, ⟨true, .any⟩, ⟨true, .any⟩, ⟨true, .any⟩, ⟨true, .any⟩, ⟨true, .any⟩, ⟨true, .any⟩, ⟨true, .any⟩, ⟨true, .any⟩, ⟨true, .any⟩, ⟨true, .any⟩, ⟨true, .any⟩, ⟨true, .any⟩, ⟨true, .any⟩, ⟨true, .any⟩, ⟨true, .any⟩, ⟨true, .any⟩, ⟨true, .any⟩, ⟨true, .any⟩, ⟨true, .any⟩, ⟨true, .any⟩, ⟨true, .any⟩, ⟨true, .any⟩, ⟨true, .any⟩, ⟨true, .any⟩, ⟨true, .any⟩, ⟨true, .any⟩, ⟨true, .any⟩, ⟨true, .any⟩, ⟨true, .any⟩, ⟨true, .any⟩, ⟨true, .any⟩, ⟨true, .any⟩, ⟨true, .any⟩, ⟨true, .any⟩, ⟨true, .any⟩, ⟨true, .any⟩, ⟨true, .any⟩, ⟨true, .any⟩, ⟨true, .any⟩, ⟨true, .any⟩, ⟨true, .any⟩, ⟨true, .any⟩, ⟨true, .any⟩, ⟨true, .any⟩, ⟨true, .any⟩, ⟨true, .any⟩, ⟨true, .any⟩, ⟨true, .any⟩, ⟨true, .any⟩, ⟨true, .any⟩, ⟨true, .any⟩, ⟨true, .any⟩, ⟨true, .any⟩, ⟨true, .any⟩, ⟨true, .any⟩, ⟨true, .any⟩, ⟨true, .any⟩, ⟨true, .any⟩, ⟨true, .any⟩, ⟨true, .any⟩, ⟨true, .any⟩, ⟨true, .any⟩, ⟨true, .any⟩, ⟨true, .any⟩, ⟨true, .any⟩], [(.dat false 81)]⟩]⟩

noncomputable def st46_4 (p s : List D) : Option (Sum (List D) (List D)) := stepQ env tb41 60 6 46 (loopC 46 4) S46_4 p s

theorem st46_4_eq (pd0 : D) (sn0 : Int) : st46_4  [pd0] [(D.int sn0)] =
    bif (qcmp BinOp.lss sn0 (qlen (qfld pd0 6))) then
      bif (qinb (qfld pd0 6) sn0) then
        bif (qsome (Proofs.Ytcengfpfphdacaa.q72 [(qget (qfld pd0 6) sn0)])) then
          bif (qcmp BinOp.neq (qint (qnth (Proofs.Ytcengfpfphdacaa.q72 [(qget (qfld pd0 6) sn0)]) 0)) 0) then
            some (Sum.inr [(D.int 1), (D.int (qint (qnth (Proofs.Ytcengfpfphdacaa.q72 [(qget (qfld pd0 6) sn0)]) 0)))])
          else
            some (Sum.inl [(D.int (qbin BinOp.add IntKind.i64 sn0 1))])
        else
          none
      else
        none
    else
      some (Sum.inr [(D.int 0)]) := by
  have h : st46_4  [pd0] [(D.int sn0)] =
    bif (qcmp BinOp.lss sn0 (qlen (qfld pd0 6))) then
      bif (qinb (qfld pd0 6) sn0) then
        bif (qsome (Proofs.Ytcengfpfphdacaa.q72 [(qget (qfld pd0 6) sn0)])) then
          bif (qcmp BinOp.neq (qint (qnth (Proofs.Ytcengfpfphdacaa.q72 [(qget (qfld pd0 6) sn0)]) 0)) 0) then
            bif (qeqD pd0 pd0) then
              some (Sum.inr [(D.int 1), (D.int (qint (qnth (Proofs.Ytcengfpfphdacaa.q72 [(qget (qfld pd0 6) sn0)]) 0)))])
            else
              none
          else
            bif (qeqD pd0 pd0) then
              some (Sum.inl [(D.int (qbin BinOp.add IntKind.i64 sn0 1))])
            else
              none
        else
          none
      else
        none
    else
      bif (qeqD pd0 pd0) then
        some (Sum.inr [(D.int 0)])
      else
        none := by kernel_rfl
  rw [h]; simp only [qeqD_self, qeqI_self, qeq_len, List.length_cons, List.length_nil, cond_true]

noncomputable def l46_4 : List D → List D → Option (List D) := veil fun p s => loW (st46_4  p) s

theorem l46_4_eq : l46_4  = fun p s => loW (st46_4  p) s := veil_eq _

noncomputable def tbl46_4 : Tb := Tb.addL tb41 46 4 S46_4.n0 (mkLp S46_4 (l46_4 ))

theorem ok_tbl46_4 : TbOk env (tbl46_4 ) := addLoopQ ok_tb41 46 4 (by kernel_rfl) _ (l46_4_eq )

def S46 : FunS := ⟨[⟨true, (.dat 81)⟩], [], [⟨true, (.int .i64)⟩], []⟩

noncomputable def F46 : List D → Option (List D) := liftF env tbl46_4 60 6 46 S46

theorem F46_eq  (sd0 : D) : F46  [sd0] =
    bif (qcmp BinOp.lss (qint (qfld sd0 0)) 1) then
      some [(D.int 2)]
    else
      bif (qcmp BinOp.gtr (qint (qfld sd0 0)) 10) then
        some [(D.int 2)]
      else
        bif (qsome (Proofs.Ytcengfpfphdacaa.q71 [(D.int (qint (qfld sd0 0)))])) then
          bif (qcmp BinOp.neq (qlen (qfld sd0 6)) (qint (qnth (Proofs.Ytcengfpfphdacaa.q71 [(D.int (qint (qfld sd0 0)))]) 0))) then
            some [(D.int 2)]
          else
            bif (qsome (Proofs.Ytcengfpfphdacaa.l46_4 [sd0] [(D.int 0)])) then
              bif (qcmp BinOp.eql (qint (qnth (Proofs.Ytcengfpfphdacaa.l46_4 [sd0] [(D.int 0)]) 0)) 0) then
                bif (qsome (Proofs.Ytcengfpfphdacaa.q73 [sd0])) then
                  bif (qiteB (qnot (qbool (qnth (Proofs.Ytcengfpfphdacaa.q73 [sd0]) 0))) Bool.true (qsome (Proofs.Ytcengfpfphdacaa.q74 [(D.int (qint (qfld sd0 1)))]))) then
                    bif (qiteB (qiteB (qnot (qbool (qnth (Proofs.Ytcengfpfphdacaa.q73 [sd0]) 0))) Bool.true (qnot (qbool (qnth (Proofs.Ytcengfpfphdacaa.q74 [(D.int (qint (qfld sd0 1)))]) 0)))) Bool.true (qiteB (qiteB (qiteB (qcmp BinOp.eql (qint (qfld sd0 0)) 2) (qcmp BinOp.neq (qint (qfld sd0 2)) 1) Bool.false) (qcmp BinOp.neq (qint (qfld sd0 2)) 2) Bool.false) (qcmp BinOp.neq (qint (qfld sd0 2)) 4) Bool.false)) then
                      some [(D.int 2)]
                    else
                      bif (qiteB (qcmp BinOp.eql (qint (qfld sd0 0)) 8) (qiteB (qcmp BinOp.lss (qlen (qfld sd0 7)) 1) Bool.true (qcmp BinOp.gtr (qlen (qfld sd0 7)) 64)) Bool.false) then
                        some [(D.int 2)]
                      else
                        some [(D.int 0)]
                  else
                    none
                else
                  none
              else
                some [(D.int (qint (qnth (Proofs.Ytcengfpfphdacaa.l46_4 [sd0] [(D.int 0)]) 1)))]
            else
              none
        else
          none := by kernel_rfl

noncomputable def q46 : List D → Option (List D) := veil (F46 )

theorem q46_eq : q46  = F46  := veil_eq _

noncomputable def tb46 : Tb := Tb.addF tbl46_4 46 S46 (q46 )

theorem ok_tb46 : TbOk env (tb46 ) := addFunF ok_tbl46_4 46 (by kernel_rfl) _ (q46_eq )

end Go.Proofs.Ytcengfpfphdacaa

open Go Go.AM
namespace Go.Proofs.Ytcengfpfphdacaa
set_option maxRecDepth 100000
def S29 : FunS := ⟨[⟨true, (.dat 60)⟩, ⟨true, (.int .i64)⟩, ⟨true, (.int .i64)⟩], [], [⟨true, (.int .i64)⟩], []⟩

noncomputable def tbR29 (Q : List D → Option (List D)) : Tb := Tb.addF tb46 29 S29 Q

theorem ok_tbR29 (Q : List D → Option (List D)) (hQ : SoundF env.P 29 S29 Q) : TbOk env (tbR29 Q) := TbOk.addF ok_tb46 (by kernel_rfl) hQ

def S29_5 : LoopS := ⟨0, [⟨false, .any⟩, ⟨false, (.int .i64)⟩, ⟨false, .any⟩, ⟨false, (.ptr 0 0)⟩, ⟨false, .any⟩, ⟨false, .any⟩, ⟨false, (.lit (.int .i64 0))⟩, ⟨true, (.int .i64)⟩, ⟨true, (.int .i64)⟩, ⟨false, .any⟩, ⟨false, .any⟩, ⟨false, .any⟩, ⟨false, .any⟩, ⟨false, .any⟩, ⟨false, .any⟩, ⟨false, .any⟩, ⟨false, .any⟩, ⟨false, .any⟩, ⟨false, .any⟩, ⟨false, .any⟩, ⟨false, .any⟩, ⟨false, .any⟩, ⟨false, .any⟩, ⟨false, .any⟩, ⟨false, .any⟩, ⟨false, .any⟩, ⟨false, .any⟩, ⟨false, .any⟩, ⟨false, .any⟩, ⟨false, .any⟩, ⟨false, .any⟩, ⟨false, .any⟩, ⟨false, .any⟩, ⟨false, .any⟩, ⟨false, .any⟩, ⟨false, .any⟩, ⟨false, .any⟩, ⟨false, .any⟩, ⟨false, .any⟩, ⟨false, .any⟩, ⟨false, .any⟩, ⟨false, .any⟩, ⟨false, .any⟩, ⟨false, .any⟩], [(.dat false 60)], [⟨0, 0, [⟨true, .any⟩, ⟨false, (.int .i64)⟩, ⟨true, .any⟩, ⟨true, .any⟩, ⟨true, .any⟩, ⟨true, .any⟩, ⟨true, (.lit (.int .i64 0))⟩, ⟨true, (.int .i64)⟩, ⟨true, .any⟩, ⟨true, .any⟩, ⟨true, .any⟩, ⟨true, .any⟩, ⟨true, .any⟩, ⟨true, .any⟩, ⟨true, .any⟩, ⟨true, .any⟩, ⟨true, .any⟩, ⟨true, .any⟩, ⟨true, .any⟩, ⟨true, .any⟩, ⟨true, .any⟩, ⟨true, .any⟩, ⟨true, .any⟩, ⟨true, .any⟩, ⟨true, .any⟩, ⟨true, .any⟩, ⟨true, .any⟩, ⟨true, .any⟩, ⟨true, .any⟩, ⟨true, .any⟩, ⟨true, .any⟩, ⟨true, .any⟩, ⟨true, .any⟩, ⟨true, .any⟩, ⟨true, .any⟩, ⟨true, .any⟩, ⟨true, .any⟩, ⟨true, .any⟩, ⟨true, .any⟩, ⟨true, .any⟩, ⟨true, .any⟩, ⟨true, .any⟩, ⟨true, .any⟩, ⟨true, .any⟩], [(.dat false 60)]⟩]⟩

noncomputable def st29_5 (Q : List D → Option (List D)) (p s : List D) : Option (Sum (List D) (List D)) := stepQ env (tbR29 Q ) 60 6 29 (loopC 29 5) S29_5 p s

theorem st29_5_eq (Q : List D → Option (List D)) (pn0 : Int) (pd1 : D) (sn0 : Int) (sn1 : Int) : st29_5 Q  [(D.int pn0), pd1] [(D.int sn0), (D.int sn1)] =
    bif (qiteB (qcmp BinOp.lss sn1 (qlen (qfld pd1 4))) (qcmp BinOp.geq sn0 0) Bool.false) then
      bif (qinb (qfld pd1 4) sn1) then
        bif (qsome (Q [(qget (qfld pd1 4) sn1), (D.int (qbin BinOp.sub IntKind.i64 pn0 1)), (D.int sn0)])) then
          some (Sum.inl [(D.int (qint (qnth (Q [(qget (qfld pd1 4) sn1), (D.int (qbin BinOp.sub IntKind.i64 pn0 1)), (D.int sn0)]) 0))), (D.int (qbin BinOp.add IntKind.i64 sn1 1))])
        else
          none
      else
        none
    else
      some (Sum.inr [(D.int 0), (D.int sn0)]) := by
  have h : st29_5 Q  [(D.int pn0), pd1] [(D.int sn0), (D.int sn1)] =
    bif (qiteB (qcmp BinOp.lss sn1 (qlen (qfld pd1 4))) (qcmp BinOp.geq sn0 0) Bool.false) then
      bif (qinb (qfld pd1 4) sn1) then
        bif (qsome (Q [(qget (qfld pd1 4) sn1), (D.int (qbin BinOp.sub IntKind.i64 pn0 1)), (D.int sn0)])) then
          bif (qeqD (D.int pn0) (D.int pn0)) then
            bif (qeqD pd1 pd1) then
              some (Sum.inl [(D.int (qint (qnth (Q [(qget (qfld pd1 4) sn1), (D.int (qbin BinOp.sub IntKind.i64 pn0 1)), (D.int sn0)]) 0))), (D.int (qbin BinOp.add IntKind.i64 sn1 1))])
            else
              none
          else
            none
        else
          none
      else
        none
    else
      bif (qeqD (D.int pn0) (D.int pn0)) then
        bif (qeqD pd1 pd1) then
          some (Sum.inr [(D.int 0), (D.int sn0)])
        else
          none
      else
        none := by kernel_rfl
  rw [h]; simp only [qeqD_self, qeqI_self, qeq_len, List.length_cons, List.length_nil, cond_true]

noncomputable def l29_5 (Q : List D → Option (List D)) : List D → List D → Option (List D) := veil fun p s => loW (st29_5 Q  p) s

theorem l29_5_eq (Q : List D → Option (List D)) : l29_5 Q  = fun p s => loW (st29_5 Q  p) s := veil_eq _

noncomputable def tbl29_5 (Q : List D → Option (List D)) : Tb := Tb.addL (tbR29 Q ) 29 5 S29_5.n0 (mkLp S29_5 (l29_5 Q ))

theorem ok_tbl29_5 (Q : List D → Option (List D)) (hQ : SoundF env.P 29 S29 Q) : TbOk env (tbl29_5 Q ) := addLoopQ (ok_tbR29 Q hQ) 29 5 (by kernel_rfl) _ (l29_5_eq Q )

noncomputable def Fb29 (Q : List D → Option (List D)) : List D → Option (List D) := liftF env (tbl29_5 Q ) 60 6 29 S29

theorem Fb29_eq (Q : List D → Option (List D))  (sd0 : D) (sn1 : Int) (sn2 : Int) : Fb29 Q  [sd0, (D.int sn1), (D.int sn2)] =
    bif (qiteB (qiteB (qcmp BinOp.lss sn1 1) Bool.true (qcmp BinOp.lss sn2 1)) Bool.true (qcmp BinOp.gtr (qlen (qfld sd0 4)) 4)) then
      some [(D.int (-1))]
    else
      bif (qsome (Proofs.Ytcengfpfphdacaa.l29_5 Q [(D.int sn1), sd0] [(D.int (qbin BinOp.sub IntKind.i64 sn2 1)), (D.int 0)])) then
        some [(D.int (qint (qnth (Proofs.Ytcengfpfphdacaa.l29_5 Q [(D.int sn1), sd0] [(D.int (qbin BinOp.sub IntKind.i64 sn2 1)), (D.int 0)]) 1)))]
      else
        none := by kernel_rfl

noncomputable def F29 : Nat → List D → Option (List D) := levels Fb29

theorem F29_0 (ds : List D) : F29 0 ds = none := rfl

theorem F29_s (n : Nat) : F29 (n + 1) = Fb29 (F29 n) := rfl

noncomputable def q29 : List D → Option (List D) := veil fun ds => F29 (fuelL ds) ds

theorem q29_eq : q29 = fun ds => F29 (fuelL ds) ds := veil_eq _

theorem sound29 : SoundF env.P 29 S29 q29 := recF (fun q => tbl29_5 q) (fun q hq => ok_tbl29_5 q hq) q29_eq

noncomputable def tb29 : Tb := Tb.addF tb46 29 S29 q29

theorem ok_tb29 : TbOk env tb29 := TbOk.addF ok_tb46 (by kernel_rfl) sound29

/- function 16  -/

def S16_16 : LoopS := ⟨0, [⟨false, .any⟩, ⟨false, (.int .i64)⟩, ⟨false, (.ptr 0 0)⟩, ⟨false, .any⟩, ⟨false, (.lit (.bool false))⟩, ⟨true, (.int .i64)⟩, ⟨false, (.int .i64)⟩, ⟨false, (.int .i64)⟩, ⟨false, (.ptr 1 0)⟩, ⟨true, (.int .i64)⟩, ⟨false, .any⟩, ⟨false, .any⟩, ⟨false, .any⟩, ⟨false, .any⟩, ⟨false, .any⟩, ⟨false, .any⟩, ⟨false, .any⟩, ⟨false, .any⟩, ⟨false, .any⟩, ⟨false, .any⟩, ⟨false, .any⟩, ⟨false, .any⟩, ⟨false, .any⟩, ⟨false, .any⟩, ⟨false, .any⟩, ⟨false, .any⟩, ⟨false, .any⟩, ⟨false, .any⟩, ⟨false, .any⟩, ⟨false, .any⟩, ⟨false, .any⟩, ⟨false, .any⟩, ⟨false, .any⟩, ⟨false, .any⟩, ⟨false, .any⟩, ⟨false, .any⟩, ⟨false, .any⟩, ⟨false, .any⟩, ⟨false, .any⟩, ⟨false, .any⟩, ⟨false, .any⟩, ⟨false, .any⟩, ⟨false, .any⟩, ⟨false, .any⟩, ⟨false, .any⟩, ⟨false, .any⟩, ⟨false, .any⟩, ⟨false, .any⟩, ⟨false, .any⟩, ⟨false, .any⟩, ⟨false, .any⟩, ⟨false, .any⟩, ⟨false, .any⟩, ⟨false, .any⟩, ⟨false, .any⟩, ⟨false, .any⟩, ⟨false, .any⟩, ⟨false, .any⟩, ⟨false, .any⟩, ⟨false, .any⟩, ⟨false, .any⟩, ⟨false, .any⟩, ⟨false, .any⟩, ⟨false, .any⟩, ⟨false, .any⟩, ⟨false, .any⟩, ⟨false, .any⟩, ⟨false, .any⟩, ⟨false, .any⟩, ⟨false, .any⟩, ⟨false, .any⟩, ⟨false, .any⟩, ⟨false, .any⟩, ⟨false, .any⟩, ⟨false, .any⟩, ⟨false, .any⟩], [(.dat false 81), (.dat false 49)], [⟨0, 4, [⟨true, .any⟩, ⟨false, (.int .i64)⟩, ⟨true, (.ptr 0 0)⟩, ⟨true, .any⟩, ⟨true, (.lit (.bool false))⟩, ⟨true, (.int .i64)⟩, ⟨false, (.int .i64)⟩, ⟨false, (.int .i64)⟩, ⟨true, .any⟩, ⟨true, .any⟩, ⟨true, .any⟩, ⟨true, .any⟩, ⟨true, .any⟩, ⟨true, .any⟩, ⟨true, .any⟩, ⟨true, .any⟩, ⟨true, .any⟩, ⟨true, .any⟩, ⟨true, .any⟩, ⟨true, .any⟩, ⟨true, .any⟩, ⟨true, .any⟩, ⟨true, .any⟩, ⟨true, .any⟩, ⟨true, .any⟩, ⟨true, .any⟩, ⟨true, .any⟩, ⟨true, .any⟩, ⟨true, .any⟩, ⟨true, .any⟩, ⟨true, .any⟩, ⟨true, .any⟩, ⟨true, .any⟩, ⟨true, .any⟩, ⟨true, .any⟩, ⟨true, .any⟩, ⟨true, .any⟩, ⟨true, .any⟩, ⟨true, .any⟩, ⟨true, .any⟩, ⟨true, .any⟩, ⟨true, .any⟩, ⟨true, .any⟩, ⟨true, .any⟩, ⟨true, .any⟩, ⟨true, .any⟩, ⟨true, .any⟩, ⟨true, .any⟩, ⟨true, .any⟩, ⟨true, .any⟩, ⟨true, .any⟩, ⟨true, .any⟩, ⟨true, .any⟩, ⟨true, .any⟩, ⟨true, .any⟩, ⟨true, .any⟩, ⟨true, .any⟩, ⟨true, .any⟩, ⟨true, .any⟩, ⟨true, .any⟩, ⟨true, .any⟩, ⟨true, .any⟩, ⟨true, .any⟩, ⟨true, .any⟩, ⟨true, .any⟩, ⟨true, .any⟩, ⟨true, .any⟩, ⟨true, .any⟩, ⟨true, .any⟩, ⟨true, .any⟩, ⟨true, .any⟩, ⟨true, .any⟩, ⟨true, .any⟩, ⟨true, .any⟩, ⟨true, .any⟩, ⟨true, .any⟩], [(.dat false 81), (.dat false 49)]⟩, ⟨1, 0, [⟨true, .any⟩, ⟨false, (.int .i64)⟩, ⟨true, .any⟩, ⟨true, .any⟩, ⟨true, (.lit (.bool false))⟩, ⟨true, .any⟩, ⟨false, (.int .i64)⟩, ⟨false, (.int .i64)⟩, ⟨true, .any⟩, ⟨true, .any⟩, ⟨true, .any⟩, ⟨true, .any⟩, ⟨true, .any⟩, ⟨true, .any⟩, ⟨true, .any⟩, ⟨true, .any⟩, ⟨true, .any⟩, ⟨true, .any⟩, ⟨true, .any⟩, ⟨true, .any⟩, ⟨true, .any⟩, ⟨true, .any⟩, ⟨true, .any⟩, ⟨true, .any⟩, ⟨true, .any⟩, ⟨true, .any⟩, ⟨true, .any⟩, ⟨true, .any⟩, ⟨true, .any⟩, ⟨true, .any⟩, ⟨true, .any⟩, ⟨true, .any⟩, ⟨true, .any⟩, ⟨true, .any⟩, ⟨true, .any⟩, ⟨true, .any⟩, ⟨true, .any⟩, ⟨true, .any⟩, ⟨true, .any⟩, ⟨true, .any⟩, ⟨true, .any⟩, ⟨true, .any⟩, ⟨true, .any⟩, ⟨true, .any⟩, ⟨true, .any⟩, ⟨true, .any⟩, ⟨true, .any⟩, ⟨true, .any⟩, ⟨true, .any⟩, ⟨true, .any⟩, ⟨true, .any⟩, ⟨true, .any⟩, ⟨true, .any⟩, ⟨true, .any⟩, ⟨true, .any⟩, ⟨true, .any⟩, ⟨true, .any⟩, ⟨true, .any⟩, ⟨true, .any⟩, ⟨true, .any⟩, ⟨true, .any⟩, ⟨true, .any⟩, ⟨true, .any⟩, ⟨true, .any⟩, ⟨true, .any⟩, ⟨true, .any⟩, ⟨true, .any⟩, ⟨true, .any⟩, ⟨true, .any⟩, ⟨true, .any⟩, ⟨true, .any⟩, ⟨true, .any⟩, ⟨true, .any⟩, ⟨true, .any⟩, ⟨true, .any⟩, ⟨true, .any⟩], [(.dat false 81), (.dat false 49)]⟩]⟩

noncomputable def st16_16 (p s : List D) : Option (Sum (List D) (List D)) := stepQ env tb29 60 6 16 (loopC 16 16) S16_16 p s

theorem st16_16_eq (pn0 : Int) (pn1 : Int) (pn2 : Int) (pd3 : D) (pd4 : D) (sn0 : Int) (sn1 : Int) : st16_16  [(D.int pn0), (D.int pn1), (D.int pn2), pd3, pd4] [(D.int sn0), (D.int sn1)] =
    bif (qcmp BinOp.lss sn1 (qlen (qfld pd3 6))) then
      bif (qinb (qfld pd3 6) sn1) then
        bif (qsome (Proofs.Ytcengfpfphdacaa.q29 [(qget (qfld pd3 6) sn1), (D.int pn0), (D.int sn0)])) then
          bif (qcmp BinOp.lss (qint (qnth (Proofs.Ytcengfpfphdacaa.q29 [(qget (qfld pd3 6) sn1), (D.int pn0), (D.int sn0)]) 0)) 0) then
            some (Sum.inr [(D.int 1)])
          else
            some (Sum.inl [(D.int (qint (qnth (Proofs.Ytcengfpfphdacaa.q29 [(qget (qfld pd3 6) sn1), (D.int pn0), (D.int sn0)]) 0))), (D.int (qbin BinOp.add IntKind.i64 sn1 1))])
        else
          none
      else
        none
    else
      some (Sum.inr [(D.int 0), (D.int sn0)]) := by
  have h : st16_16  [(D.int pn0), (D.int pn1), (D.int pn2), pd3, pd4] [(D.int sn0), (D.int sn1)] =
    bif (qcmp BinOp.lss sn1 (qlen (qfld pd3 6))) then
      bif (qinb (qfld pd3 6) sn1) then
        bif (qsome (Proofs.Ytcengfpfphdacaa.q29 [(qget (qfld pd3 6) sn1), (D.int pn0), (D.int sn0)])) then
          bif (qcmp BinOp.lss (qint (qnth (Proofs.Ytcengfpfphdacaa.q29 [(qget (qfld pd3 6) sn1), (D.int pn0), (D.int sn0)]) 0)) 0) then
            bif (qeqD (D.int pn0) (D.int pn0)) then
              bif (qeqD (D.int pn1) (D.int pn1)) then
                bif (qeqD (D.int pn2) (D.int pn2)) then
                  bif (qeqD pd3 pd3) then
                    bif (qeqD pd4 pd4) then
                      some (Sum.inr [(D.int 1)])
                    else
                      none
                  else
                    none
                else
                  none
              else
                none
            else
              none
          else
            bif (qeqD (D.int pn0) (D.int pn0)) then
              bif (qeqD (D.int pn1) (D.int pn1)) then
                bif (qeqD (D.int pn2) (D.int pn2)) then
                  bif (qeqD pd3 pd3) then
                    bif (qeqD pd4 pd4) then
                      some (Sum.inl [(D.int (qint (qnth (Proofs.Ytcengfpfphdacaa.q29 [(qget (qfld pd3 6) sn1), (D.int pn0), (D.int sn0)]) 0))), (D.int (qbin BinOp.add IntKind.i64 sn1 1))])
                    else
                      none
                  else
                    none
                else
                  none
              else
                none
            else
              none
        else
          none
      else
        none
    else
      bif (qeqD (D.int pn0) (D.int pn0)) then
        bif (qeqD (D.int pn1) (D.int pn1)) then
          bif (qeqD (D.int pn2) (D.int pn2)) then
            bif (qeqD pd3 pd3) then
              bif (qeqD pd4 pd4) then
                some (Sum.inr [(D.int 0), (D.int sn0)])
              else
                none
            else
              none
          else
            none
        else
          none
      else
        none := by kernel_rfl
  rw [h]; simp only [qeqD_self, qeqI_self, qeq_len, List.length_cons, List.length_nil, cond_true]

noncomputable def l16_16 : List D → List D → Option (List D) := veil fun p s => loW (st16_16  p) s

theorem l16_16_eq : l16_16  = fun p s => loW (st16_16  p) s := veil_eq _

noncomputable def tbl16_16 : Tb := Tb.addL tb29 16 16 S16_16.n0 (mkLp S16_16 (l16_16 ))

theorem ok_tbl16_16 : TbOk env (tbl16_16 ) := addLoopQ ok_tb29 16 16 (by kernel_rfl) _ (l16_16_eq )

def S16_10 : LoopS := ⟨0, [⟨false, .any⟩, ⟨false, (.int .i64)⟩, ⟨false, (.ptr 0 0)⟩, ⟨false, .any⟩, ⟨false, (.lit (.bool false))⟩, ⟨true, (.int .i64)⟩, ⟨false, (.int .i64)⟩, ⟨true, (.int .i64)⟩, ⟨false, .any⟩, ⟨false, .any⟩, ⟨false, .any⟩, ⟨false, .any⟩, ⟨false, .any⟩, ⟨false, .any⟩, ⟨false, .any⟩, ⟨false, .any⟩, ⟨false, .any⟩, ⟨false, .any⟩, ⟨false, .any⟩, ⟨false, .any⟩, ⟨false, .any⟩, ⟨false, .any⟩, ⟨false, .any⟩, ⟨false, .any⟩, ⟨false, .any⟩, ⟨false, .any⟩, ⟨false, .any⟩, ⟨false, .any⟩, ⟨false, .any⟩, ⟨false, .any⟩, ⟨false, .any⟩, ⟨false, .any⟩, ⟨false, .any⟩, ⟨false, .any⟩, ⟨false, .any⟩, ⟨false, .any⟩, ⟨false, .any⟩, ⟨false, .any⟩, ⟨false, .any⟩, ⟨false, .any⟩, ⟨false, .any⟩, ⟨false, .any⟩, ⟨false, .any⟩, ⟨false, .any⟩, ⟨false, .any⟩, ⟨false, .any⟩, ⟨false, .any⟩, ⟨false, .any⟩, ⟨false, .any⟩, ⟨false, .any⟩, ⟨false, .any⟩, ⟨false, .any⟩, ⟨false, .any⟩, ⟨false, .any⟩, ⟨false, .any⟩, ⟨false, .any⟩, ⟨false, .any⟩, ⟨false, .any⟩, ⟨false, .any⟩, ⟨false, .any⟩, ⟨false, .any⟩, ⟨false, .any⟩, ⟨false, .any⟩, ⟨false, .any⟩, ⟨false, .any⟩, ⟨false, .any⟩, ⟨false, .any⟩, ⟨false, .any⟩, ⟨false, .any⟩, ⟨false, .any⟩, ⟨false, .any⟩, ⟨false, .any⟩, ⟨false, .any⟩, ⟨false, .any⟩, ⟨false, .any⟩, ⟨false, .any⟩], [(.dat false 49)], [⟨0, 2, [⟨true, .any⟩, ⟨false, (.int .i64)⟩, ⟨true, (.ptr 0 0)⟩, ⟨true, .any⟩, ⟨true, (.lit (.bool false))⟩, ⟨true, (.int .i64)⟩, ⟨false, (.int .i64)⟩, ⟨true, .any⟩, ⟨true, .any⟩, ⟨true, .any⟩, ⟨true, .any⟩, ⟨true, .any⟩, ⟨true, .any⟩, ⟨true, .any⟩, ⟨true, .any⟩, ⟨true, .any⟩, ⟨true, .any⟩, ⟨true, .any⟩, ⟨true, .any⟩, ⟨true, .any⟩, ⟨true, .any⟩, ⟨true, .any⟩, ⟨true, .any⟩, ⟨true, .any⟩, ⟨true, .any⟩, ⟨true, .any⟩, ⟨true, .any⟩, ⟨true, .any⟩, ⟨true, .any⟩, ⟨true, .any⟩, ⟨true, .any⟩, ⟨true, .any⟩, ⟨true, .any⟩, ⟨true, .any⟩, ⟨true, .any⟩, ⟨true, .any⟩, ⟨true, .any⟩, ⟨true, .any⟩, ⟨true, .any⟩, ⟨true, .any⟩, ⟨true, .any⟩, ⟨true, .any⟩, ⟨true, .any⟩, ⟨true, .any⟩, ⟨true, .any⟩, ⟨true, .any⟩, ⟨true, .any⟩, ⟨true, .any⟩, ⟨true, .any⟩, ⟨true, .any⟩, ⟨true, .any⟩, ⟨true, .any⟩, ⟨true, .any⟩, ⟨true, .any⟩, ⟨true, .any⟩, ⟨true, .any⟩, ⟨true, .any⟩, ⟨true, .any⟩, ⟨true, .any⟩, ⟨true, .any⟩, ⟨true, .any⟩, ⟨true, .any⟩, ⟨true, .any⟩, ⟨true, .any⟩, ⟨true, .any⟩, ⟨true, .any⟩, ⟨true, .any⟩, ⟨true, .any⟩, ⟨true, .any⟩, ⟨true, .any⟩, ⟨true, .any⟩, ⟨true, .any⟩, ⟨true, .any⟩, ⟨true, .any⟩, ⟨true, .any⟩, ⟨true, .any⟩], [(.dat false 49)]⟩, ⟨1, 0, [⟨true, .any⟩, ⟨false, (.int .i64)⟩, ⟨true, .any⟩, ⟨true, .any⟩, ⟨true, (.lit (.bool false))⟩, ⟨true, .any⟩, ⟨false, (.int .i64)⟩, ⟨true, .any⟩, ⟨true, .any⟩, ⟨true, .any⟩, ⟨true, .any⟩, ⟨true, .any⟩, ⟨true, .any⟩, ⟨true, .any⟩, ⟨true, .any⟩, ⟨true, .any⟩, ⟨true, .any⟩, ⟨true, .any⟩, ⟨true, .any⟩, ⟨true, .any⟩, ⟨true, .any⟩, ⟨true, .any⟩, ⟨true, .any⟩, ⟨true, .any⟩, ⟨true, .any⟩, ⟨true, .any⟩, ⟨true, .any⟩, ⟨true, .any⟩, ⟨true, .any⟩, ⟨true, .any⟩, ⟨true, .any⟩, ⟨true, .any⟩, ⟨true, .any⟩, ⟨true, .any⟩, ⟨true, .any⟩, ⟨true, .any⟩, ⟨true, .any⟩, ⟨true, .any⟩, ⟨true, .any⟩, ⟨true, .any⟩, ⟨true, .any⟩, ⟨true, .any⟩, ⟨true, .any⟩, ⟨true, .any⟩, ⟨true, .any⟩, ⟨true, .any⟩, ⟨true, .any⟩, ⟨true, .any⟩, ⟨true, .any⟩, ⟨true, .any⟩, ⟨true, .any⟩, ⟨true, .any⟩, ⟨true, .any⟩, ⟨true, .any⟩, ⟨true, .any⟩, ⟨true, .any⟩, ⟨true, .any⟩, ⟨true, .any⟩, ⟨true, .any⟩, ⟨true, .any⟩, ⟨true, .any⟩, ⟨true, .any⟩, ⟨true, .any⟩, ⟨true, .any⟩, ⟨true, .any⟩, ⟨true, .any⟩, ⟨true, .any⟩, ⟨true, .any⟩, ⟨true, .any⟩, ⟨true, .any⟩, ⟨true, .any⟩, ⟨true, .any⟩, ⟨true, .any⟩, ⟨true, .any⟩, ⟨true, .any⟩, ⟨true, .any⟩], [(.dat false 49)]⟩]⟩

noncomputable def st16_10 (p s : List D) : Option (Sum (List D) (List D)) := stepQ env tbl16_16 60 6 16 (loopC 16 10) S16_10 p s

theorem st16_10_eq (pn0 : Int) (pn1 : Int) (pd2 : D) (sn0 : Int) (sn1 : Int) : st16_10  [(D.int pn0), (D.int pn1), pd2] [(D.int sn0), (D.int sn1)] =
    bif (qinb (qfld pd2 1) pn1) then
      bif (qcmp BinOp.lss sn1 (qlen (qfld (qget (qfld pd2 1) pn1) 1))) then
        bif (qinb (qfld pd2 1) pn1) then
          bif (qinb (qfld (qget (qfld pd2 1) pn1) 1) sn1) then
            bif (qiteB (qcmp BinOp.gtr (qlen (qfld (qget (qfld (qget (qfld pd2 1) pn1) 1) sn1) 6)) 4) Bool.true (qcmp BinOp.gtr (qlen (qfld (qget (qfld (qget (qfld pd2 1) pn1) 1) sn1) 7)) 100)) then
              some (Sum.inr [(D.int 1)])
            else
              bif (qsome (Proofs.Ytcengfpfphdacaa.l16_16 [(D.int pn0), (D.int pn1), (D.int sn1), (qget (qfld (qget (qfld pd2 1) pn1) 1) sn1), pd2] [(D.int sn0), (D.int 0)])) then
                bif (qcmp BinOp.eql (qint (qnth (Proofs.Ytcengfpfphdacaa.l16_16 [(D.int pn0), (D.int pn1), (D.int sn1), (qget (qfld (qget (qfld pd2 1) pn1) 1) sn1), pd2] [(D.int sn0), (D.int 0)]) 0)) 0) then
                  some (Sum.inl [(D.int (qint (qnth (Proofs.Ytcengfpfphdacaa.l16_16 [(D.int pn0), (D.int pn1), (D.int sn1), (qget (qfld (qget (qfld pd2 1) pn1) 1) sn1), pd2] [(D.int sn0), (D.int 0)]) 1))), (D.int (qbin BinOp.add IntKind.i64 sn1 1))])
                else
                  some (Sum.inr [(D.int 1)])
              else
                none
          else
            none
        else
          none
      else
        some (Sum.inr [(D.int 0), (D.int sn0)])
    else
      none := by
  have h : st16_10  [(D.int pn0), (D.int pn1), pd2] [(D.int sn0), (D.int sn1)] =
    bif (qinb (qfld pd2 1) pn1) then
      bif (qcmp BinOp.lss sn1 (qlen (qfld (qget (qfld pd2 1) pn1) 1))) then
        bif (qinb (qfld pd2 1) pn1) then
          bif (qinb (qfld (qget (qfld pd2 1) pn1) 1) sn1) then
            bif (qiteB (qcmp BinOp.gtr (qlen (qfld (qget (qfld (qget (qfld pd2 1) pn1) 1) sn1) 6)) 4) Bool.true (qcmp BinOp.gtr (qlen (qfld (qget (qfld (qget (qfld pd2 1) pn1) 1) sn1) 7)) 100)) then
              bif (qeqD (D.int pn0) (D.int pn0)) then
                bif (qeqD (D.int pn1) (D.int pn1)) then
                  bif (qeqD pd2 pd2) then
                    some (Sum.inr [(D.int 1)])
                  else
                    none
                else
                  none
              else
                none
            else
              bif (qsome (Proofs.Ytcengfpfphdacaa.l16_16 [(D.int pn0), (D.int pn1), (D.int sn1), (qget (qfld (qget (qfld pd2 1) pn1) 1) sn1), pd2] [(D.int sn0), (D.int 0)])) then
                bif (qcmp BinOp.eql (qint (qnth (Proofs.Ytcengfpfphdacaa.l16_16 [(D.int pn0), (D.int pn1), (D.int sn1), (qget (qfld (qget (qfld pd2 1) pn1) 1) sn1), pd2] [(D.int sn0), (D.int 0)]) 0)) 0) then
                  bif (qeqD (D.int pn0) (D.int pn0)) then
                    bif (qeqD (D.int pn1) (D.int pn1)) then
                      bif (qeqD pd2 pd2) then
                        some (Sum.inl [(D.int (qint (qnth (Proofs.Ytcengfpfphdacaa.l16_16 [(D.int pn0), (D.int pn1), (D.int sn1), (qget (qfld (qget (qfld pd2 1) pn1) 1) sn1), pd2] [(D.int sn0), (D.int 0)]) 1))), (D.int (qbin BinOp.add IntKind.i64 sn1 1))])
                      else
                        none
                    else
                      none
                  else
                    none
                else
                  bif (qeqD (D.int pn0) (D.int pn0)) then
                    bif (qeqD (D.int pn1) (D.int pn1)) then
                      bif (qeqD pd2 pd2) then
                        some (Sum.inr [(D.int 1)])
                      else
                        none
                    else
                      none
                  else
                    none
              else
                none
          else
            none
        else
          none
      else
        bif (qeqD (D.int pn0) (D.int pn0)) then
          bif (qeqD (D.int pn1) (D.int pn1)) then
            bif (qeqD pd2 pd2) then
              some (Sum.inr [(D.int 0), (D.int sn0)])
            else
              none
          else
            none
        else
          none
    else
      none := by kernel_rfl
  rw [h]; simp only [qeqD_self, qeqI_self, qeq_len, List.length_cons, List.length_nil, cond_true]

noncomputable def l16_10 : List D → List D → Option (List D) := veil fun p s => loW (st16_10  p) s

theorem l16_10_eq : l16_10  = fun p s => loW (st16_10  p) s := veil_eq _

noncomputable def tbl16_10 : Tb := Tb.addL tbl16_16 16 10 S16_10.n0 (mkLp S16_10 (l16_10 ))

theorem ok_tbl16_10 : TbOk env (tbl16_10 ) := addLoopQ ok_tbl16_16 16 10 (by kernel_rfl) _ (l16_10_eq )

def S16_5 : LoopS := ⟨0, [⟨false, .any⟩, ⟨false, (.int .i64)⟩, ⟨false, (.ptr 0 0)⟩, ⟨false, .any⟩, ⟨false, (.lit (.bool false))⟩, ⟨true, (.int .i64)⟩, ⟨true, (.int .i64)⟩, ⟨false, .any⟩, ⟨false, .any⟩, ⟨false, .any⟩, ⟨false, .any⟩, ⟨false, .any⟩, ⟨false, .any⟩, ⟨false, .any⟩, ⟨false, .any⟩, ⟨false, .any⟩, ⟨false, .any⟩, ⟨false, .any⟩, ⟨false, .any⟩, ⟨false, .any⟩, ⟨false, .any⟩, ⟨false, .any⟩, ⟨false, .any⟩, ⟨false, .any⟩, ⟨false, .any⟩, ⟨false, .any⟩, ⟨false, .any⟩, ⟨false, .any⟩, ⟨false, .any⟩, ⟨false, .any⟩, ⟨false, .any⟩, ⟨false, .any⟩, ⟨false, .any⟩, ⟨false, .any⟩, ⟨false, .any⟩, ⟨false, .any⟩, ⟨false, .any⟩, ⟨false, .any⟩, ⟨false, .any⟩, ⟨false, .any⟩, ⟨false, .any⟩, ⟨false, .any⟩, ⟨false, .any⟩, ⟨false, .any⟩, ⟨false, .any⟩, ⟨false, .any⟩, ⟨false, .any⟩, ⟨false, .any⟩, ⟨false, .any⟩, ⟨false, .any⟩, ⟨false, .any⟩, ⟨false, .any⟩, ⟨false, .any⟩, ⟨false, .any⟩, ⟨false, .any⟩, ⟨false, .any⟩, ⟨false, .any⟩, ⟨false, .any⟩, ⟨false, .any⟩, ⟨false, .any⟩, ⟨false, .any⟩, ⟨false, .any⟩, ⟨false, .any⟩, ⟨false, .any⟩, ⟨false, .any⟩, ⟨false, .any⟩, ⟨false, .any⟩, ⟨false, .any⟩, ⟨false, .any⟩, ⟨false, .any⟩, ⟨false, .any⟩, ⟨false, .any⟩, ⟨false, .any⟩, ⟨false, .any⟩, ⟨false, .any⟩, ⟨false, .any⟩], [(.dat false 49)], [⟨0, 0, [⟨true, .any⟩, ⟨false, (.int .i64)⟩, ⟨true, .any⟩, ⟨true, .any⟩, ⟨true, (.lit (.bool false))⟩, ⟨true, .any⟩, ⟨true, .any⟩, ⟨true, .any⟩, ⟨true, .any⟩, ⟨true, .any⟩, ⟨true, .any⟩, ⟨true, .any⟩, ⟨true, .any⟩, ⟨true, .any⟩, ⟨true, .any⟩, ⟨true, .any⟩, ⟨true, .any⟩, ⟨true, .any⟩, ⟨true, .any⟩, ⟨true, .any⟩, ⟨true, .any⟩, ⟨true, .any⟩, ⟨true, .any⟩, ⟨true, .any⟩, ⟨true, .any⟩, ⟨true, .any⟩, ⟨true, .any⟩, ⟨true, .any⟩, ⟨true, .any⟩, ⟨true, .any⟩, ⟨true, .any⟩, ⟨true, .any⟩, ⟨true, .any⟩, ⟨true, .any⟩, ⟨true, .any⟩, ⟨true, .any⟩, ⟨true, .any⟩, ⟨true, .any⟩, ⟨true, .any⟩, ⟨true, .any⟩, ⟨true, .any⟩, ⟨true, .any⟩, ⟨true, .any⟩, ⟨true, .any⟩, ⟨true, .any⟩, ⟨true, .any⟩, ⟨true, .any⟩, ⟨true, .any⟩, ⟨true, .any⟩, ⟨true, .any⟩, ⟨true, .any⟩, ⟨true, .any⟩, ⟨true, .any⟩, ⟨true, .any⟩, ⟨true, .any⟩, ⟨true, .any⟩, ⟨true, .any⟩, ⟨true, .any⟩, ⟨true, .any⟩, ⟨true, .any⟩, ⟨true, .any⟩, ⟨true, .any⟩, ⟨true, .any⟩, ⟨true, .any⟩, ⟨true, .any⟩, ⟨true, .any⟩, ⟨true, .any⟩, ⟨true, .any⟩, ⟨true, .any⟩, ⟨true, .any⟩, ⟨true, .any⟩, ⟨true, .any⟩, ⟨true, .any⟩, ⟨true, .any⟩, ⟨true, .any⟩, ⟨true, .any⟩], [(.dat false 49)]⟩, ⟨1, 0, [⟨true, .any⟩, ⟨false, (.int .i64)⟩, ⟨true, .any⟩, ⟨true, .any⟩, ⟨true, (.lit (.bool false))⟩, ⟨true, .any⟩, ⟨true, .any⟩, ⟨true, .any⟩, ⟨true, .any⟩, ⟨true, .any⟩, ⟨true, .any⟩, ⟨true, .any⟩, ⟨true, .any⟩, ⟨true, .any⟩, ⟨true, .any⟩, ⟨true, .any⟩, ⟨true, .any⟩, ⟨true, .any⟩, ⟨true, .any⟩, ⟨true, .any⟩, ⟨true, .any⟩, ⟨true, .any⟩, ⟨true, .any⟩, ⟨true, .any⟩, ⟨true, .any⟩, ⟨true, .any⟩, ⟨true, .any⟩, ⟨true, .any⟩, ⟨true, .any⟩, ⟨true, .any⟩, ⟨true, .any⟩, ⟨true, .any⟩, ⟨true, .any⟩, ⟨true, .any⟩, ⟨true, .any⟩, ⟨true, .any⟩, ⟨true, .any⟩, ⟨true, .any⟩, ⟨true, .any⟩, ⟨true, .any⟩, ⟨true, .any⟩, ⟨true, .any⟩, ⟨true, .any⟩, ⟨true, .any⟩, ⟨true, .any⟩, ⟨true, .any⟩, ⟨true, .any⟩, ⟨true, .any⟩, ⟨true, .any⟩, ⟨true, .any⟩, ⟨true, .any⟩, ⟨true, .any⟩, ⟨true, .any⟩, ⟨true, .any⟩, ⟨true, .any⟩, ⟨true, .any⟩, ⟨true, .any⟩, ⟨true, .any⟩, ⟨true, .any⟩, ⟨true, .any⟩, ⟨true, .any⟩, ⟨true, .any⟩, ⟨true, .any⟩, ⟨true, .any⟩, ⟨true, .any⟩, ⟨true, .any⟩, ⟨true, .any⟩, ⟨true, .any⟩, ⟨true, .any⟩, ⟨true, .any⟩, ⟨true, .any⟩, ⟨true, .any⟩, ⟨true, .any⟩, ⟨true, .any⟩, ⟨true, .any⟩, ⟨true, .any⟩], [(.dat false 49)]⟩]⟩

noncomputable def st16_5 (p s : List D) : Option (Sum (List D) (List D)) := stepQ env tbl16_10 60 6 16 (loopC 16 5) S16_5 p s

theorem st16_5_eq (pn0 : Int) (pd1 : D) (sn0 : Int) (sn1 : Int) : st16_5  [(D.int pn0), pd1] [(D.int sn0), (D.int sn1)] =
    bif (qcmp BinOp.lss sn1 (qlen (qfld pd1 1))) then
      bif (qinb (qfld pd1 1) sn1) then
        bif (qcmp BinOp.gtr (qlen (qfld (qget (qfld pd1 1) sn1) 1)) 1100) then
          some (Sum.inr [(D.int 1)])
        else
          bif (qsome (Proofs.Ytcengfpfphdacaa.l16_10 [(D.int pn0), (D.int sn1), pd1] [(D.int sn0), (D.int 0)])) then
            bif (qcmp BinOp.eql (qint (qnth (Proofs.Ytcengfpfphdacaa.l16_10 [(D.int pn0), (D.int sn1), pd1] [(D.int sn0), (D.int 0)]) 0)) 0) then
              some (Sum.inl [(D.int (qint (qnth (Proofs.Ytcengfpfphdacaa.l16_10 [(D.int pn0), (D.int sn1), pd1] [(D.int sn0), (D.int 0)]) 1))), (D.int (qbin BinOp.add IntKind.i64 sn1 1))])
            else
              some (Sum.inr [(D.int 1)])
          else
            none
      else
        none
    else
      some (Sum.inr [(D.int 0)]) := by
  have h : st16_5  [(D.int pn0), pd1] [(D.int sn0), (D.int sn1)] =
    bif (qcmp BinOp.lss sn1 (qlen (qfld pd1 1))) then
      bif (qinb (qfld pd1 1) sn1) then
        bif (qcmp BinOp.gtr (qlen (qfld (qget (qfld pd1 1) sn1) 1)) 1100) then
          bif (qeqD (D.int pn0) (D.int pn0)) then
            bif (qeqD pd1 pd1) then
              some (Sum.inr [(D.int 1)])
            else
              none
          else
            none
        else
          bif (qsome (Proofs.Ytcengfpfphdacaa.l16_10 [(D.int pn0), (D.int sn1), pd1] [(D.int sn0), (D.int 0)])) then
            bif (qcmp BinOp.eql (qint (qnth (Proofs.Ytcengfpfphdacaa.l16_10 [(D.int pn0), (D.int sn1), pd1] [(D.int sn0), (D.int 0)]) 0)) 0) then
              bif (qeqD (D.int pn0) (D.int pn0)) then
                bif (qeqD pd1 pd1) then
                  some (Sum.inl [(D.int (qint (qnth (Proofs.Ytcengfpfphdacaa.l16_10 [(D.int pn0), (D.int sn1), pd1] [(D.int sn0), (D.int 0)]) 1))), (D.int (qbin BinOp.add IntKind.i64 sn1 1))])
                else
                  none
              else
                none
            else
              bif (qeqD (D.int pn0) (D.int pn0)) then
                bif (qeqD pd1 pd1) then
                  some (Sum.inr [(D.int 1)])
                else
                  none
              else
                none
          else
            none
      else
        none
    else
      bif (qeqD (D.int pn0) (D.int pn0)) then
        bif (qeqD pd1 pd1) then
          some (Sum.inr [(D.int 0)])
        else
          none
      else
        none := by kernel_rfl
  rw [h]; simp only [qeqD_self, qeqI_self, qeq_len, List.length_cons, List.length_nil, cond_true]

noncomputable def l16_5 : List D → List D → Option (List D) := veil fun p s => loW (st16_5  p) s

theorem l16_5_eq : l16_5  = fun p s => loW (st16_5  p) s := veil_eq _

noncomputable def tbl16_5 : Tb := Tb.addL tbl16_10 16 5 S16_5.n0 (mkLp S16_5 (l16_5 ))

theorem ok_tbl16_5 : TbOk env (tbl16_5 ) := addLoopQ ok_tbl16_10 16 5 (by kernel_rfl) _ (l16_5_eq )

def S16 : FunS := ⟨[⟨true, (.dat 49)⟩, ⟨true, (.int .i64)⟩], [], [⟨true, .bool⟩], []⟩

noncomputable def F16 : List D → Option (List D) := liftF env tbl16_5 60 6 16 S16

theorem F16_eq  (sd0 : D) (sn1 : Int) : F16  [sd0, (D.int sn1)] =
    bif (qcmp BinOp.gtr (qlen (qfld sd0 1)) 300) then
      some [(D.bool Bool.false)]
    else
      bif (qsome (Proofs.Ytcengfpfphdacaa.l16_5 [(D.int sn1), sd0] [(D.int 20000), (D.int 0)])) then
        bif (qcmp BinOp.eql (qint (qnth (Proofs.Ytcengfpfphdacaa.l16_5 [(D.int sn1), sd0] [(D.int 20000), (D.int 0)]) 0)) 0) then
          some [(D.bool Bool.true)]
        else
          some [(D.bool Bool.false)]
      else
        none := by kernel_rfl

noncomputable def q16 : List D → Option (List D) := veil (F16 )

theorem q16_eq : q16  = F16  := veil_eq _

noncomputable def tb16 : Tb := Tb.addF tbl16_5 16 S16 (q16 )

theorem ok_tb16 : TbOk env (tb16 ) := addFunF ok_tbl16_5 16 (by kernel_rfl) _ (q16_eq )

/- function 7  -/

def S7_10 : LoopS := ⟨0, [⟨false, .any⟩, ⟨false, .any⟩, ⟨false, (.ptr 0 0)⟩, ⟨false, .any⟩, ⟨false, (.lit (.bool false))⟩, ⟨true, (.int .i64)⟩, ⟨false, (.int .i64)⟩, ⟨true, (.int .i64)⟩, ⟨false, .any⟩, ⟨false, .any⟩, ⟨false, .any⟩, ⟨false, .any⟩, ⟨false, .any⟩, ⟨false, .any⟩, ⟨false, .any⟩, ⟨false, .any⟩, ⟨false, .any⟩, ⟨false, .any⟩, ⟨false, .any⟩, ⟨false, .any⟩, ⟨false, .any⟩, ⟨false, .any⟩, ⟨false, .any⟩, ⟨false, .any⟩, ⟨false, .any⟩, ⟨false, .any⟩, ⟨false, .any⟩, ⟨false, .any⟩, ⟨false, .any⟩, ⟨false, .any⟩, ⟨false, .any⟩, ⟨false, .any⟩, ⟨false, .any⟩, ⟨false, .any⟩, ⟨false, .any⟩, ⟨false, .any⟩, ⟨false, .any⟩, ⟨false, .any⟩, ⟨false, .any⟩, ⟨false, .any⟩, ⟨false, .any⟩, ⟨false, .any⟩, ⟨false, .any⟩, ⟨false, .any⟩, ⟨false, .any⟩, ⟨false, .any⟩, ⟨false, .any⟩, ⟨false, .any⟩, ⟨false, .any⟩, ⟨false, .any⟩, ⟨false, .any⟩, ⟨false, .any⟩, ⟨false, .any⟩, ⟨false, .any⟩, ⟨false, .any⟩, ⟨false, .any⟩, ⟨false, .any⟩, ⟨false, .any⟩, ⟨false, .any⟩, ⟨false, .any⟩, ⟨false, .any⟩, ⟨false, .any⟩, ⟨false, .any⟩, ⟨false, .any⟩, ⟨false, .any⟩, ⟨false, .any⟩, ⟨false, .any⟩, ⟨false, .any⟩, ⟨false, .any⟩, ⟨false, .any⟩, ⟨false, .any⟩, ⟨false, .any⟩, ⟨false, .any⟩, ⟨false, .any⟩, ⟨false, .any⟩, ⟨false, .any⟩, ⟨false, .any⟩, ⟨false, .any⟩, ⟨false, .any⟩, ⟨false, .any⟩, ⟨false, .any⟩, ⟨false, .any⟩, ⟨false, .any⟩, ⟨false, .any⟩, ⟨false, .any⟩, ⟨false, .any⟩, ⟨false, .any⟩, ⟨false, .any⟩, ⟨false, .any⟩, ⟨false, .any⟩, ⟨false, .any⟩, ⟨false, .any⟩, ⟨false, .any⟩], [(.dat false 26)], [⟨0, 2, [⟨true, .any⟩, ⟨true, .any⟩, ⟨true, (.ptr 0 0)⟩, ⟨true, .any⟩, ⟨true, (.lit (.bool false))⟩, ⟨true, (.int .i64)⟩, ⟨false, (.int .i64)⟩, ⟨true, .any⟩, ⟨true, .any⟩, ⟨true, .any⟩, ⟨true, .any⟩, ⟨true, .any⟩, ⟨true, .any⟩, ⟨true, .any⟩, ⟨true, .any⟩, ⟨true, .any⟩, ⟨true, .any⟩, ⟨true, .any⟩, ⟨true, .any⟩, ⟨true, .any⟩, ⟨true, .any⟩, ⟨true, .any⟩, ⟨true, .any⟩, ⟨true, .any⟩, ⟨true, .any⟩, ⟨true, .any⟩, ⟨true, .any⟩, ⟨true, .any⟩, ⟨true, .any⟩, ⟨true, .any⟩, ⟨true, .any⟩, ⟨true, .any⟩, ⟨true, .any⟩, ⟨true, .any⟩, ⟨true, .any⟩, ⟨true, .any⟩, ⟨true, .any⟩, ⟨true, .any⟩, ⟨true, .any⟩, ⟨true, .any⟩, ⟨true, .any⟩, ⟨true, .any⟩, ⟨true, .any⟩, ⟨true, .any⟩, ⟨true, .any⟩, ⟨true, .any⟩, ⟨true, .any⟩, ⟨true, .any⟩, ⟨true, .any⟩, ⟨true, .any⟩, ⟨true, .any⟩, ⟨true, .any⟩, ⟨true, .any⟩, ⟨true, .any⟩, ⟨true, .any⟩, ⟨true, .any⟩, ⟨true, .any⟩, ⟨true, .any⟩, ⟨true, .any⟩, ⟨true, .any⟩, ⟨true, .any⟩, ⟨true, .any⟩, ⟨true, .any⟩, ⟨true, .any⟩, ⟨true, .any⟩, ⟨true, .any⟩, ⟨true, .any⟩, ⟨true, .any⟩, ⟨true, .any⟩, ⟨true, .any⟩, ⟨true, .any⟩, ⟨true, .any⟩, ⟨true, .any⟩, ⟨true, .any⟩, ⟨true, .any⟩, ⟨true, .any⟩, ⟨true, .any⟩, ⟨true, .any⟩, ⟨true, .any⟩, ⟨true, .any⟩, ⟨true, .any⟩, ⟨true, .any⟩, ⟨true, .any⟩, ⟨true, .any⟩, ⟨true, .any⟩, ⟨true, .any⟩, ⟨true, .any⟩, ⟨true, .any⟩, ⟨true, .any⟩, ⟨true, .any⟩, ⟨true, .any⟩, ⟨true, .any⟩, ⟨true, .any⟩], [(.dat false 26)]⟩, ⟨1, 0, [⟨true, .any⟩, ⟨true, .any⟩, ⟨true, .any⟩, ⟨true, .any⟩, ⟨true, (.lit (.bool true))⟩, ⟨true, .any⟩, ⟨false, (.int .i64)⟩, ⟨true, .any⟩, ⟨true, .any⟩, ⟨true, .any⟩, ⟨true, .any⟩, ⟨true, .any⟩, ⟨true, .any⟩, ⟨true, .any⟩, ⟨true, .any⟩, ⟨true, .any⟩, ⟨true, .any⟩, ⟨true, .any⟩, ⟨true, .any⟩, ⟨true, .any⟩, ⟨true, .any⟩, ⟨true, .any⟩, ⟨true, .any⟩, ⟨true, .any⟩, ⟨true, .any⟩, ⟨true, .any⟩, ⟨true, .any⟩, ⟨true, .any⟩, ⟨true, .any⟩, ⟨true, .any⟩, ⟨true, .any⟩, ⟨true, .any⟩, ⟨true, .any⟩, ⟨true, .any⟩, ⟨true, .any⟩, ⟨true, .any⟩, ⟨true, .any⟩, ⟨true, .any⟩, ⟨true, .any⟩, ⟨true, .any⟩, ⟨true, .any⟩, ⟨true, .any⟩, ⟨true, .any⟩, ⟨true, .any⟩, ⟨true, .any⟩, ⟨true, .any⟩, ⟨true, .any⟩, ⟨true, .any⟩, ⟨true, .any⟩, ⟨true, .any⟩, ⟨true, .any⟩, ⟨true, .any⟩, ⟨true, .any⟩, ⟨true, .any⟩, ⟨true, .any⟩, ⟨true, .any⟩, ⟨true, .any⟩, ⟨true, .any⟩, ⟨true, .any⟩, ⟨true, .any⟩, ⟨true, .any⟩, ⟨true, .any⟩, ⟨true, .any⟩, ⟨true, .any⟩, ⟨true, .any⟩, ⟨true, .any⟩, ⟨true, .any⟩, ⟨true, .any⟩, ⟨true, .any⟩, ⟨true, .any⟩, ⟨true, .any⟩, ⟨true, .any⟩, ⟨true, .any⟩, ⟨true, .any⟩, ⟨true, .any⟩, ⟨true, .any⟩, ⟨true, .any⟩, ⟨true, .any⟩, ⟨true, .any⟩, ⟨true, .any⟩, ⟨true, .any⟩, ⟨true, .any⟩, ⟨true, .any⟩, ⟨true, .any⟩, ⟨true, .any⟩, ⟨true, .any⟩, ⟨true, .any⟩, ⟨true, .any⟩, ⟨true, .any⟩, ⟨true, .any⟩, ⟨true, .any⟩, ⟨true, .any⟩, ⟨true, .any⟩], [(.dat false 26)]⟩]⟩

noncomputable def st7_10 (p s : List D) : Option (Sum (List D) (List D)) := stepQ env tb16 60 6 7 (loopC 7 10) S7_10 p s

theorem st7_10_eq (pn0 : Int) (pd1 : D) (sn0 : Int) (sn1 : Int) : st7_10  [(D.int pn0), pd1] [(D.int sn0), (D.int sn1)] =
    bif (qinb (qfld pd1 0) pn0) then
      bif (qcmp BinOp.lss sn1 (qlen (qfld (qget (qfld pd1 0) pn0) 1))) then
        bif (qinb (qfld pd1 0) pn0) then
          bif (qinb (qfld (qget (qfld pd1 0) pn0) 1) sn1) then
            bif (qcmp BinOp.gtr (qbin BinOp.add IntKind.i64 (qbin BinOp.add IntKind.i64 sn0 1) (qlen (qfld (qget (qfld (qget (qfld pd1 0) pn0) 1) sn1) 1))) 3000) then
              some (Sum.inr [(D.int 1)])
            else
              some (Sum.inl [(D.int (qbin BinOp.add IntKind.i64 (qbin BinOp.add IntKind.i64 sn0 1) (qlen (qfld (qget (qfld (qget (qfld pd1 0) pn0) 1) sn1) 1)))), (D.int (qbin BinOp.add IntKind.i64 sn1 1))])
          else
            none
        else
          none
      else
        some (Sum.inr [(D.int 0), (D.int sn0)])
    else
      none := by
  have h : st7_10  [(D.int pn0), pd1] [(D.int sn0), (D.int sn1)] =
    bif (qinb (qfld pd1 0) pn0) then
      bif (qcmp BinOp.lss sn1 (qlen (qfld (qget (qfld pd1 0) pn0) 1))) then
        bif (qinb (qfld pd1 0) pn0) then
          bif (qinb (qfld (qget (qfld pd1 0) pn0) 1) sn1) then
            bif (qcmp BinOp.gtr (qbin BinOp.add IntKind.i64 (qbin BinOp.add IntKind.i64 sn0 1) (qlen (qfld (qget (qfld (qget (qfld pd1 0) pn0) 1) sn1) 1))) 3000) then
              bif (qeqD (D.int pn0) (D.int pn0)) then
                bif (qeqD pd1 pd1) then
                  some (Sum.inr [(D.int 1)])
                else
                  none
              else
                none
            else
              bif (qeqD (D.int pn0) (D.int pn0)) then
                bif (qeqD pd1 pd1) then
                  some (Sum.inl [(D.int (qbin BinOp.add IntKind.i64 (qbin BinOp.add IntKind.i64 sn0 1) (qlen (qfld (qget (qfld (qget (qfld pd1 0) pn0) 1) sn1) 1)))), (D.int (qbin BinOp.add IntKind.i64 sn1 1))])
                else
                  none
              else
                none
          else
            none
        else
          none
      else
        bif (qeqD (D.int pn0) (D.int pn0)) then
          bif (qeqD pd1 pd1) then
            some (Sum.inr [(D.int 0), (D.int sn0)])
          else
            none
        else
          none
    else
      none := by kernel_rfl
  rw [h]; simp only [qeqD_self, qeqI_self, qeq_len, List.length_cons, List.length_nil, cond_true]

noncomputable def l7_10 : List D → List D → Option (List D) := veil fun p s => loW (st7_10  p) s

theorem l7_10_eq : l7_10  = fun p s => loW (st7_10  p) s := veil_eq _

noncomputable def tbl7_10 : Tb := Tb.addL tb16 7 10 S7_10.n0 (mkLp S7_10 (l7_10 ))

theorem ok_tbl7_10 : TbOk env (tbl7_10 ) := addLoopQ ok_tb16 7 10 (by kernel_rfl) _ (l7_10_eq )

def S7_5 : LoopS := ⟨0, [⟨false, .any⟩, ⟨false, .any⟩, ⟨false, (.ptr 0 0)⟩, ⟨false, .any⟩, ⟨false, (.lit (.bool false))⟩, ⟨true, (.int .i64)⟩, ⟨true, (.int .i64)⟩, ⟨false, .any⟩, ⟨false, .any⟩, ⟨false, .any⟩, ⟨false, .any⟩, ⟨false, .any⟩, ⟨false, .any⟩, ⟨false, .any⟩, ⟨false, .any⟩, ⟨false, .any⟩, ⟨false, .any⟩, ⟨false, .any⟩, ⟨false, .any⟩, ⟨false, .any⟩, ⟨false, .any⟩, ⟨false, .any⟩, ⟨false, .any⟩, ⟨false, .any⟩, ⟨false, .any⟩, ⟨false, .any⟩, ⟨false, .any⟩, ⟨false, .any⟩, ⟨false, .any⟩, ⟨false, .any⟩, ⟨false, .any⟩, ⟨false, .any⟩, ⟨false, .any⟩, ⟨false, .any⟩, ⟨false, .any⟩, ⟨false, .any⟩, ⟨false, .any⟩, ⟨false, .any⟩, ⟨false, .any⟩, ⟨false, .any⟩, ⟨false, .any⟩, ⟨false, .any⟩, ⟨false, .any⟩, ⟨false, .any⟩, ⟨false, .any⟩, ⟨false, .any⟩, ⟨false, .any⟩, ⟨false, .any⟩, ⟨false, .any⟩, ⟨false, .any⟩, ⟨false, .any⟩, ⟨false, .any⟩, ⟨false, .any⟩, ⟨false, .any⟩, ⟨false, .any⟩, ⟨false, .any⟩, ⟨false, .any⟩, ⟨false, .any⟩, ⟨false, .any⟩, ⟨false, .any⟩, ⟨false, .any⟩, ⟨false, .any⟩, ⟨false, .any⟩, ⟨false, .any⟩, ⟨false, .any⟩, ⟨false, .any⟩, ⟨false, .any⟩, ⟨false, .any⟩, ⟨false, .any⟩, ⟨false, .any⟩, ⟨false, .any⟩, ⟨false, .any⟩, ⟨false, .any⟩, ⟨false, .any⟩, ⟨false, .any⟩, ⟨false, .any⟩, ⟨false, .any⟩, ⟨false, .any⟩, ⟨false, .any⟩, ⟨false, .any⟩, ⟨false, .any⟩, ⟨false, .any⟩, ⟨false, .any⟩, ⟨false, .any⟩, ⟨false, .any⟩, ⟨false, .any⟩, ⟨false, .any⟩, ⟨false, .any⟩, ⟨false, .any⟩, ⟨false, .any⟩, ⟨false, .any⟩, ⟨false, .any⟩, ⟨false, .any⟩], [(.dat false 26)], [⟨0, 0, [⟨true, .any⟩, ⟨true, .any⟩, ⟨true, (.ptr 0 0)⟩, ⟨true, .any⟩, ⟨true, (.lit (.bool false))⟩, ⟨true, (.int .i64)⟩, ⟨true, .any⟩, ⟨true, .any⟩, ⟨true, .any⟩, ⟨true, .any⟩, ⟨true, .any⟩, ⟨true, .any⟩, ⟨true, .any⟩, ⟨true, .any⟩, ⟨true, .any⟩, ⟨true, .any⟩, ⟨true, .any⟩, ⟨true, .any⟩, ⟨true, .any⟩, ⟨true, .any⟩, ⟨true, .any⟩, ⟨true, .any⟩, ⟨true, .any⟩, ⟨true, .any⟩, ⟨true, .any⟩, ⟨true, .any⟩, ⟨true, .any⟩, ⟨true, .any⟩, ⟨true, .any⟩, ⟨true, .any⟩, ⟨true, .any⟩, ⟨true, .any⟩, ⟨true, .any⟩, ⟨true, .any⟩, ⟨true, .any⟩, ⟨true, .any⟩, ⟨true, .any⟩, ⟨true, .any⟩, ⟨true, .any⟩, ⟨true, .any⟩, ⟨true, .any⟩, ⟨true, .any⟩, ⟨true, .any⟩, ⟨true, .any⟩, ⟨true, .any⟩, ⟨true, .any⟩, ⟨true, .any⟩, ⟨true, .any⟩, ⟨true, .any⟩, ⟨true, .any⟩, ⟨true, .any⟩, ⟨true, .any⟩, ⟨true, .any⟩, ⟨true, .any⟩, ⟨true, .any⟩, ⟨true, .any⟩, ⟨true, .any⟩, ⟨true, .any⟩, ⟨true, .any⟩, ⟨true, .any⟩, ⟨true, .any⟩, ⟨true, .any⟩, ⟨true, .any⟩, ⟨true, .any⟩, ⟨true, .any⟩, ⟨true, .any⟩, ⟨true, .any⟩, ⟨true, .any⟩, ⟨true, .any⟩, ⟨true, .any⟩, ⟨true, .any⟩, ⟨true, .any⟩, ⟨true, .any⟩, ⟨true, .any⟩, ⟨true, .any⟩, ⟨true, .any⟩, ⟨true, .any⟩, ⟨true, .any⟩, ⟨true, .any⟩, ⟨true, .any⟩, ⟨true, .any⟩, ⟨true, .any⟩, ⟨true, .any⟩, ⟨true, .any⟩, ⟨true, .any⟩, ⟨true, .any⟩, ⟨true, .any⟩, ⟨true, .any⟩, ⟨true, .any⟩, ⟨true, .any⟩, ⟨true, .any⟩, ⟨true, .any⟩, ⟨true, .any⟩], [(.dat false 26)]⟩, ⟨1, 0, [⟨true, .any⟩, ⟨true, .any⟩, ⟨true, .any⟩, ⟨true, .any⟩, ⟨true, (.lit (.bool true))⟩, ⟨true, .any⟩, ⟨true, .any⟩, ⟨true, .any⟩, ⟨true, .any⟩, ⟨true, .any⟩, ⟨true, .any⟩, ⟨true, .any⟩, ⟨true, .any⟩, ⟨true, .any⟩, ⟨true, .any⟩, ⟨true, .any⟩, ⟨true, .any⟩, ⟨true, .any⟩, ⟨true, .any⟩, ⟨true, .any⟩, ⟨true, .any⟩, ⟨true, .any⟩, ⟨true, .any⟩, ⟨true, .any⟩, ⟨true, .any⟩, ⟨true, .any⟩, ⟨true, .any⟩, ⟨true, .any⟩, ⟨true, .any⟩, ⟨true, .any⟩, ⟨true, .any⟩, ⟨true, .any⟩, ⟨true, .any⟩, ⟨true, .any⟩, ⟨true, .any⟩, ⟨true, .any⟩, ⟨true, .any⟩, ⟨true, .any⟩, ⟨true, .any⟩, ⟨true, .any⟩, ⟨true, .any⟩, ⟨true, .any⟩, ⟨true, .any⟩, ⟨true, .any⟩, ⟨true, .any⟩, ⟨true, .any⟩, ⟨true, .any⟩, ⟨true, .any⟩, ⟨true, .any⟩, ⟨true, .any⟩, ⟨true, .any⟩, ⟨true, .any⟩, ⟨true, .any⟩, ⟨true, .any⟩, ⟨true, .any⟩, ⟨true, .any⟩, ⟨true, .any⟩, ⟨true, .any⟩, ⟨true, .any⟩, ⟨true, .any⟩, ⟨true, .any⟩, ⟨true, .any⟩, ⟨true, .any⟩, ⟨true, .any⟩, ⟨true, .any⟩, ⟨true, .any⟩, ⟨true, .any⟩, ⟨true, .any⟩, ⟨true, .any⟩, ⟨true, .any⟩, ⟨true, .any⟩, ⟨true, .any⟩, ⟨true, .any⟩, ⟨true, .any⟩, ⟨true, .any⟩, ⟨true, .any⟩, ⟨true, .any⟩, ⟨true, .any⟩, ⟨true, .any⟩, ⟨true, .any⟩, ⟨true, .any⟩, ⟨true, .any⟩, ⟨true, .any⟩, ⟨true, .any⟩, ⟨true, .any⟩, ⟨true, .any⟩, ⟨true, .any⟩, ⟨true, .any⟩, ⟨true, .any⟩, ⟨true, .any⟩, ⟨true, .any⟩, ⟨true, .any⟩, ⟨true, .any⟩], [(.dat false 26)]⟩]⟩

noncomputable def st7_5 (p s : List D) : Option (Sum (List D) (List D)) := stepQ env tbl7_10 60 6 7 (loopC 7 5) S7_5 p s

theorem st7_5_eq (pd0 : D) (sn0 : Int) (sn1 : Int) : st7_5  [pd0] [(D.int sn0), (D.int sn1)] =
    bif (qcmp BinOp.lss sn1 (qlen (qfld pd0 0))) then
      bif (qinb (qfld pd0 0) sn1) then
        bif (qiteB (qcmp BinOp.gtr (qlen (qfld (qget (qfld pd0 0) sn1) 1)) 300) Bool.true (qand (qinb (qfld pd0 0) sn1) (qsome (Proofs.Ytcengfpfphdacaa.q16 [(qget (qfld pd0 0) sn1), (D.int 70)])))) then
          bif (qiteB (qcmp BinOp.gtr (qlen (qfld (qget (qfld pd0 0) sn1) 1)) 300) Bool.true (qnot (qbool (qnth (Proofs.Ytcengfpfphdacaa.q16 [(qget (qfld pd0 0) sn1), (D.int 70)]) 0)))) then
            some (Sum.inr [(D.int 1)])
          else
            bif (qsome (Proofs.Ytcengfpfphdacaa.l7_10 [(D.int sn1), pd0] [(D.int sn0), (D.int 0)])) then
              bif (qcmp BinOp.eql (qint (qnth (Proofs.Ytcengfpfphdacaa.l7_10 [(D.int sn1), pd0] [(D.int sn0), (D.int 0)]) 0)) 0) then
                some (Sum.inl [(D.int (qint (qnth (Proofs.Ytcengfpfphdacaa.l7_10 [(D.int sn1), pd0] [(D.int sn0), (D.int 0)]) 1))), (D.int (qbin BinOp.add IntKind.i64 sn1 1))])
              else
                some (Sum.inr [(D.int 1)])
            else
              none
        else
          none
      else
        none
    else
      some (Sum.inr [(D.int 0), (D.int sn0)]) := by
  have h : st7_5  [pd0] [(D.int sn0), (D.int sn1)] =
    bif (qcmp BinOp.lss sn1 (qlen (qfld pd0 0))) then
      bif (qinb (qfld pd0 0) sn1) then
        bif (qiteB (qcmp BinOp.gtr (qlen (qfld (qget (qfld pd0 0) sn1) 1)) 300) Bool.true (qand (qinb (qfld pd0 0) sn1) (qsome (Proofs.Ytcengfpfphdacaa.q16 [(qget (qfld pd0 0) sn1), (D.int 70)])))) then
          bif (qiteB (qcmp BinOp.gtr (qlen (qfld (qget (qfld pd0 0) sn1) 1)) 300) Bool.true (qnot (qbool (qnth (Proofs.Ytcengfpfphdacaa.q16 [(qget (qfld pd0 0) sn1), (D.int 70)]) 0)))) then
            bif (qeqD pd0 pd0) then
              some (Sum.inr [(D.int 1)])
            else
              none
          else
            bif (qsome (Proofs.Ytcengfpfphdacaa.l7_10 [(D.int sn1), pd0] [(D.int sn0), (D.int 0)])) then
              bif (qcmp BinOp.eql (qint (qnth (Proofs.Ytcengfpfphdacaa.l7_10 [(D.int sn1), pd0] [(D.int sn0), (D.int 0)]) 0)) 0) then
                bif (qeqD pd0 pd0) then
                  some (Sum.inl [(D.int (qint (qnth (Proofs.Ytcengfpfphdacaa.l7_10 [(D.int sn1), pd0] [(D.int sn0), (D.int 0)]) 1))), (D.int (qbin BinOp.add IntKind.i64 sn1 1))])
                else
                  none
              else
                bif (qeqD pd0 pd0) then
                  some (Sum.inr [(D.int 1)])
                else
                  none
            else
              none
        else
          none
      else
        none
    else
      bif (qeqD pd0 pd0) then
        some (Sum.inr [(D.int 0), (D.int sn0)])
      else
        none := by kernel_rfl
  rw [h]; simp only [qeqD_self, qeqI_self, qeq_len, List.length_cons, List.length_nil, cond_true]

noncomputable def l7_5 : List D → List D → Option (List D) := veil fun p s => loW (st7_5  p) s

theorem l7_5_eq : l7_5  = fun p s => loW (st7_5  p) s := veil_eq _

noncomputable def tbl7_5 : Tb := Tb.addL tbl7_10 7 5 S7_5.n0 (mkLp S7_5 (l7_5 ))

theorem ok_tbl7_5 : TbOk env (tbl7_5 ) := addLoopQ ok_tbl7_10 7 5 (by kernel_rfl) _ (l7_5_eq )

def S7_16 : LoopS := ⟨0, [⟨false, .any⟩, ⟨false, .any⟩, ⟨false, (.ptr 0 0)⟩, ⟨false, .any⟩, ⟨false, (.lit (.bool false))⟩, ⟨true, (.int .i64)⟩, ⟨false, .any⟩, ⟨false, .any⟩, ⟨true, (.int .i64)⟩, ⟨false, .any⟩, ⟨false, .any⟩, ⟨false, .any⟩, ⟨false, .any⟩, ⟨false, .any⟩, ⟨false, .any⟩, ⟨false, .any⟩, ⟨false, .any⟩, ⟨false, .any⟩, ⟨false, .any⟩, ⟨false, .any⟩, ⟨false, .any⟩, ⟨false, .any⟩, ⟨false, .any⟩, ⟨false, .any⟩, ⟨false, .any⟩, ⟨false, .any⟩, ⟨false, .any⟩, ⟨false, .any⟩, ⟨false, .any⟩, ⟨false, .any⟩, ⟨false, .any⟩, ⟨false, .any⟩, ⟨false, .any⟩, ⟨false, .any⟩, ⟨false, .any⟩, ⟨false, .any⟩, ⟨false, .any⟩, ⟨false, .any⟩, ⟨false, .any⟩, ⟨false, .any⟩, ⟨false, .any⟩, ⟨false, .any⟩, ⟨false, .any⟩, ⟨false, .any⟩, ⟨false, .any⟩, ⟨false, .any⟩, ⟨false, .any⟩, ⟨false, .any⟩, ⟨false, .any⟩, ⟨false, .any⟩, ⟨false, .any⟩, ⟨false, .any⟩, ⟨false, .any⟩, ⟨false, .any⟩, ⟨false, .any⟩, ⟨false, .any⟩, ⟨false, .any⟩, ⟨false, .any⟩, ⟨false, .any⟩, ⟨false, .any⟩, ⟨false, .any⟩, ⟨false, .any⟩, ⟨false, .any⟩, ⟨false, .any⟩, ⟨false, .any⟩, ⟨false, .any⟩, ⟨false, .any⟩, ⟨false, .any⟩, ⟨false, .any⟩, ⟨false, .any⟩, ⟨false, .any⟩, ⟨false, .any⟩, ⟨false, .any⟩, ⟨false, .any⟩, ⟨false, .any⟩, ⟨false, .any⟩, ⟨false, .any⟩, ⟨false, .any⟩, ⟨false, .any⟩, ⟨false, .any⟩, ⟨false, .any⟩, ⟨false, .any⟩, ⟨false, .any⟩, ⟨false, .any⟩, ⟨false, .any⟩, ⟨false, .any⟩, ⟨false, .any⟩, ⟨false, .any⟩, ⟨false, .any⟩, ⟨false, .any⟩, ⟨false, .any⟩, ⟨false, .any⟩, ⟨false, .any⟩], [(.dat false 26)], [⟨0, 4, [⟨true, .any⟩, ⟨true, .any⟩, ⟨true, .any⟩, ⟨true, .any⟩, ⟨true, (.lit (.bool false))⟩, ⟨true, .any⟩, ⟨true, .any⟩, ⟨true, .any⟩, ⟨true, .any⟩, ⟨true, .any⟩, ⟨true, .any⟩, ⟨true, .any⟩, ⟨true, .any⟩, ⟨true, .any⟩, ⟨true, .any⟩, ⟨true, .any⟩, ⟨true, .any⟩, ⟨true, .any⟩, ⟨true, .any⟩, ⟨true, .any⟩, ⟨true, .any⟩, ⟨true, .any⟩, ⟨true, .any⟩, ⟨true, .any⟩, ⟨true, .any⟩, ⟨true, .any⟩, ⟨true, .any⟩, ⟨true, .any⟩, ⟨true, .any⟩, ⟨true, .any⟩, ⟨true, .any⟩, ⟨true, .any⟩, ⟨true, .any⟩, ⟨true, .any⟩, ⟨true, .any⟩, ⟨true, .any⟩, ⟨true, .any⟩, ⟨true, .any⟩, ⟨true, .any⟩, ⟨true, .any⟩, ⟨true, .any⟩, ⟨true, .any⟩, ⟨true, .any⟩, ⟨true, .any⟩, ⟨true, .any⟩, ⟨true, .any⟩, ⟨true, .any⟩, ⟨true, .any⟩, ⟨true, .any⟩, ⟨true, .any⟩, ⟨true, .any⟩, ⟨true, .any⟩, ⟨true, .any⟩, ⟨true, .any⟩, ⟨true, .any⟩, ⟨true, .any⟩, ⟨true, .any⟩, ⟨true, .any⟩, ⟨true, .any⟩, ⟨true, .any⟩, ⟨true, .any⟩, ⟨true, .any⟩, ⟨true, .any⟩, ⟨true, .any⟩, ⟨true, .any⟩, ⟨true, .any⟩, ⟨true, .any⟩, ⟨true, .any⟩, ⟨true, .any⟩, ⟨true, .any⟩, ⟨true, .any⟩, ⟨true, .any⟩, ⟨true, .any⟩, ⟨true, .any⟩, ⟨true, .any⟩, ⟨true, .any⟩, ⟨true, .any⟩, ⟨true, .any⟩, ⟨true, .any⟩, ⟨true, .any⟩, ⟨true, .any⟩, ⟨true, .any⟩, ⟨true, .any⟩, ⟨true, .any⟩, ⟨true, .any⟩, ⟨true, .any⟩, ⟨true, .any⟩, ⟨true, .any⟩, ⟨true, .any⟩, ⟨true, .any⟩, ⟨true, .any⟩, ⟨true, .any⟩, ⟨true, .any⟩], [(.dat false 26)]⟩, ⟨1, 0, [⟨true, .any⟩, ⟨true, .any⟩, ⟨true, .any⟩, ⟨true, .any⟩, ⟨true, (.lit (.bool true))⟩, ⟨true, .any⟩, ⟨true, .any⟩, ⟨true, .any⟩, ⟨true, .any⟩, ⟨true, .any⟩, ⟨true, .any⟩, ⟨true, .any⟩, ⟨true, .any⟩, ⟨true, .any⟩, ⟨true, .any⟩, ⟨true, .any⟩, ⟨true, .any⟩, ⟨true, .any⟩, ⟨true, .any⟩, ⟨true, .any⟩, ⟨true, .any⟩, ⟨true, .any⟩, ⟨true, .any⟩, ⟨true, .any⟩, ⟨true, .any⟩, ⟨true, .any⟩, ⟨true, .any⟩, ⟨true, .any⟩, ⟨true, .any⟩, ⟨true, .any⟩, ⟨true, .any⟩, ⟨true, .any⟩, ⟨true, .any⟩, ⟨true, .any⟩, ⟨true, .any⟩, ⟨true, .any⟩, ⟨true, .any⟩, ⟨true, .any⟩, ⟨true, .any⟩, ⟨true, .any⟩, ⟨true, .any⟩, ⟨true, .any⟩, ⟨true, .any⟩, ⟨true, .any⟩, ⟨true, .any⟩, ⟨true, .any⟩, ⟨true, .any⟩, ⟨true, .any⟩, ⟨true, .any⟩, ⟨true, .any⟩, ⟨true, .any⟩, ⟨true, .any⟩, ⟨true, .any⟩, ⟨true, .any⟩, ⟨true, .any⟩, ⟨true, .any⟩, ⟨true, .any⟩, ⟨true, .any⟩, ⟨true, .any⟩, ⟨true, .any⟩, ⟨true, .any⟩, ⟨true, .any⟩, ⟨true, .any⟩, ⟨true, .any⟩, ⟨true, .any⟩, ⟨true, .any⟩, ⟨true, .any⟩, ⟨true, .any⟩, ⟨true, .any⟩, ⟨true, .any⟩, ⟨true, .any⟩, ⟨true, .any⟩, ⟨true, .any⟩, ⟨true, .any⟩, ⟨true, .any⟩, ⟨true, .any⟩, ⟨true, .any⟩, ⟨true, .any⟩, ⟨true, .any⟩, ⟨true, .any⟩, ⟨true, .any⟩, ⟨true, .any⟩, ⟨true, .any⟩, ⟨true, .any⟩, ⟨true, .any⟩, ⟨true, .any⟩, ⟨true, .any⟩, ⟨true, .any⟩, ⟨true, .any⟩, ⟨true, .any⟩, ⟨true, .any⟩, ⟨true, .any⟩, ⟨true, .any⟩], [(.dat false 26)]⟩]⟩

noncomputable def st7_16 (p s : List D) : Option (Sum (List D) (List D)) := stepQ env tbl7_5 60 6 7 (loopC 7 16) S7_16 p s

theorem st7_16_eq (pd0 : D) (sn0 : Int) (sn1 : Int) : st7_16  [pd0] [(D.int sn0), (D.int sn1)] =
    bif (qcmp BinOp.lss sn1 (qlen (qfld pd0 1))) then
      bif (qinb (qfld pd0 1) sn1) then
        bif (qcmp BinOp.gtr (qbin BinOp.add IntKind.i64 sn0 (qbin BinOp.quo IntKind.i64 (qlen (qfld (qget (qfld pd0 1) sn1) 2)) 10)) 3000) then
          some (Sum.inr [(D.int 1)])
        else
          some (Sum.inl [(D.int (qbin BinOp.add IntKind.i64 sn0 (qbin BinOp.quo IntKind.i64 (qlen (qfld (qget (qfld pd0 1) sn1) 2)) 10))), (D.int (qbin BinOp.add IntKind.i64 sn1 1))])
      else
        none
    else
      some (Sum.inr [(D.int 0)]) := by
  have h : st7_16  [pd0] [(D.int sn0), (D.int sn1)] =
    bif (qcmp BinOp.lss sn1 (qlen (qfld pd0 1))) then
      bif (qinb (qfld pd0 1) sn1) then
        bif (qcmp BinOp.gtr (qbin BinOp.add IntKind.i64 sn0 (qbin BinOp.quo IntKind.i64 (qlen (qfld (qget (qfld pd0 1) sn1) 2)) 10)) 3000) then
          bif (qeqD pd0 pd0) then
            some (Sum.inr [(D.int 1)])
          else
            none
        else
          bif (qeqD pd0 pd0) then
            some (Sum.inl [(D.int (qbin BinOp.add IntKind.i64 sn0 (qbin BinOp.quo IntKind.i64 (qlen (qfld (qget (qfld pd0 1) sn1) 2)) 10))), (D.int (qbin BinOp.add IntKind.i64 sn1 1))])
          else
            none
      else
        none
    else
      bif (qeqD pd0 pd0) then
        some (Sum.inr [(D.int 0)])
      else
        none := by kernel_rfl
  rw [h]; simp only [qeqD_self, qeqI_self, qeq_len, List.length_cons, List.length_nil, cond_true]

noncomputable def l7_16 : List D → List D → Option (List D) := veil fun p s => loW (st7_16  p) s

theorem l7_16_eq : l7_16  = fun p s => loW (st7_16  p) s := veil_eq _

noncomputable def tbl7_16 : Tb := Tb.addL tbl7_5 7 16 S7_16.n0 (mkLp S7_16 (l7_16 ))

theorem ok_tbl7_16 : TbOk env (tbl7_16 ) := addLoopQ ok_tbl7_5 7 16 (by kernel_rfl) _ (l7_16_eq )

def S7 : FunS := ⟨[⟨true, (.dat 26)⟩, ⟨true, (.int .i64)⟩], [], [⟨true, .bool⟩], []⟩

noncomputable def F7 : List D → Option (List D) := liftF env tbl7_16 60 6 7 S7

theorem F7_eq  (sd0 : D) (sn1 : Int) : F7  [sd0, (D.int sn1)] =
    bif (qiteB (qiteB (qcmp BinOp.gtr (qlen (qfld sd0 0)) 80) Bool.true (qcmp BinOp.gtr (qlen (qfld sd0 1)) 30)) Bool.true (qcmp BinOp.gtr sn1 600)) then
      some [(D.bool Bool.true)]
    else
      bif (qsome (Proofs.Ytcengfpfphdacaa.l7_5 [sd0] [(D.int 0), (D.int 0)])) then
        bif (qcmp BinOp.eql (qint (qnth (Proofs.Ytcengfpfphdacaa.l7_5 [sd0] [(D.int 0), (D.int 0)]) 0)) 0) then
          bif (qsome (Proofs.Ytcengfpfphdacaa.l7_16 [sd0] [(D.int (qint (qnth (Proofs.Ytcengfpfphdacaa.l7_5 [sd0] [(D.int 0), (D.int 0)]) 1))), (D.int 0)])) then
            bif (qcmp BinOp.eql (qint (qnth (Proofs.Ytcengfpfphdacaa.l7_16 [sd0] [(D.int (qint (qnth (Proofs.Ytcengfpfphdacaa.l7_5 [sd0] [(D.int 0), (D.int 0)]) 1))), (D.int 0)]) 0)) 0) then
              some [(D.bool Bool.false)]
            else
              some [(D.bool Bool.true)]
          else
            none
        else
          some [(D.bool Bool.true)]
      else
        none := by kernel_rfl

noncomputable def q7 : List D → Option (List D) := veil (F7 )

theorem q7_eq : q7  = F7  := veil_eq _

noncomputable def tb7 : Tb := Tb.addF tbl7_16 7 S7 (q7 )

theorem ok_tb7 : TbOk env (tb7 ) := addFunF ok_tbl7_16 7 (by kernel_rfl) _ (q7_eq )

/- function 11  -/

def S11 : FunS := ⟨[⟨true, (.dat 26)⟩], [], [⟨true, (.dat 32)⟩], []⟩

noncomputable def F11 : List D → Option (List D) := liftF env tb7 60 6 11 S11

theorem F11_eq  (sd0 : D) : F11  [sd0] =
    some [(D.agg [(qfld sd0 0), (qfld sd0 1), (D.int (qint (qfld sd0 2)))])] := by kernel_rfl

noncomputable def q11 : List D → Option (List D) := veil (F11 )

theorem q11_eq : q11  = F11  := veil_eq _

noncomputable def tb11 : Tb := Tb.addF tb7 11 S11 (q11 )

theorem ok_tb11 : TbOk env (tb11 ) := addFunF ok_tb7 11 (by kernel_rfl) _ (q11_eq )

end Go.Proofs.Ytcengfpfphdacaa

open Go Go.AM
namespace Go.Proofs.Ytcengfpfphdacaa
set_option maxRecDepth 100000
/- function 91  -/

def S91_61_2 : LoopS := ⟨0, [⟨false, (.rows 81)⟩, ⟨false, (.func 61 [] [])⟩, ⟨false, .any⟩, ⟨false, .any⟩, ⟨false, (.lit (.int .i64 0))⟩, ⟨false, .any⟩, ⟨false, .any⟩, ⟨false, (.int .i64)⟩, ⟨true, (.int .i64)⟩, ⟨false, .any⟩, ⟨false, .any⟩, ⟨false, .any⟩, ⟨false, .any⟩, ⟨false, .any⟩, ⟨false, .any⟩, ⟨false, .any⟩, ⟨false, .any⟩, ⟨false, .any⟩, ⟨false, .any⟩], [], [⟨0, 0, [⟨false, (.rows 81)⟩, ⟨true, .any⟩, ⟨true, .any⟩, ⟨true, .any⟩, ⟨true, (.lit (.int .i64 0))⟩, ⟨true, .any⟩, ⟨true, .any⟩, ⟨false, (.int .i64)⟩, ⟨true, .any⟩, ⟨true, .any⟩, ⟨true, .any⟩, ⟨true, .any⟩, ⟨true, .any⟩, ⟨true, .any⟩, ⟨true, .any⟩, ⟨true, .any⟩, ⟨true, .any⟩, ⟨true, .any⟩, ⟨true, .any⟩], []⟩, ⟨1, 0, [⟨false, (.rows 81)⟩, ⟨true, .any⟩, ⟨true, .any⟩, ⟨true, .any⟩, ⟨true, (.int .i64)⟩, ⟨true, .any⟩, ⟨true, .any⟩, ⟨false, (.int .i64)⟩, ⟨true, .any⟩, ⟨true, .any⟩, ⟨true, .any⟩, ⟨true, .any⟩, ⟨true, .any⟩, ⟨true, .any⟩, ⟨true, .any⟩, ⟨true, .any⟩, ⟨true, .any⟩, ⟨true, .any⟩, ⟨true, .any⟩], []⟩]⟩

noncomputable def st91_61_2 (p s : List D) : Option (Sum (List D) (List D)) := stepQ env tb11 60 6 91 (loopC 91 2) S91_61_2 p s

theorem st91_61_2_eq (pd0 : D) (pn1 : Int) (sn0 : Int) : st91_61_2  [pd0, (D.int pn1)] [(D.int sn0)] =
    bif (qcmp BinOp.lss sn0 pn1) then
      bif (qinb pd0 sn0) then
        bif (qsome (Proofs.Ytcengfpfphdacaa.q61 [(qget pd0 sn0)])) then
          bif (qbool (qnth (Proofs.Ytcengfpfphdacaa.q61 [(qget pd0 sn0)]) 0)) then
            some (Sum.inr [(D.int 1), (D.int sn0)])
          else
            some (Sum.inl [(D.int (qbin BinOp.add IntKind.i64 sn0 1))])
        else
          none
      else
        none
    else
      some (Sum.inr [(D.int 0)]) := by
  have h : st91_61_2  [pd0, (D.int pn1)] [(D.int sn0)] =
    bif (qcmp BinOp.lss sn0 pn1) then
      bif (qinb pd0 sn0) then
        bif (qsome (Proofs.Ytcengfpfphdacaa.q61 [(qget pd0 sn0)])) then
          bif (qbool (qnth (Proofs.Ytcengfpfphdacaa.q61 [(qget pd0 sn0)]) 0)) then
            bif (qeqD pd0 pd0) then
              bif (qeqD (D.int pn1) (D.int pn1)) then
                some (Sum.inr [(D.int 1), (D.int sn0)])
              else
                none
            else
              none
          else
            bif (qeqD pd0 pd0) then
              bif (qeqD (D.int pn1) (D.int pn1)) then
                some (Sum.inl [(D.int (qbin BinOp.add IntKind.i64 sn0 1))])
              else
                none
            else
              none
        else
          none
      else
        none
    else
      bif (qeqD pd0 pd0) then
        bif (qeqD (D.int pn1) (D.int pn1)) then
          some (Sum.inr [(D.int 0)])
        else
          none
      else
        none := by kernel_rfl
  rw [h]; simp only [qeqD_self, qeqI_self, qeq_len, List.length_cons, List.length_nil, cond_true]

noncomputable def l91_61_2 : List D → List D → Option (List D) := veil fun p s => loW (st91_61_2  p) s

theorem l91_61_2_eq : l91_61_2  = fun p s => loW (st91_61_2  p) s := veil_eq _

noncomputable def tbl91_61_2 : Tb := Tb.addL tb11 91 2 S91_61_2.n0 (mkLp S91_61_2 (l91_61_2 ))

theorem ok_tbl91_61_2 : TbOk env (tbl91_61_2 ) := addLoopQ ok_tb11 91 2 (by kernel_rfl) _ (l91_61_2_eq )

def S91_61 : FunS := ⟨[⟨true, (.rows 81)⟩, ⟨true, (.func 61 [] [])⟩], [], [⟨true, (.int .i64)⟩], []⟩

noncomputable def F91_61 : List D → Option (List D) := liftF env tbl91_61_2 60 6 91 S91_61

theorem F91_61_eq  (sd0 : D) : F91_61  [sd0] =
    bif (qsome (Proofs.Ytcengfpfphdacaa.l91_61_2 [sd0, (D.int (qlen sd0))] [(D.int 0)])) then
      bif (qcmp BinOp.eql (qint (qnth (Proofs.Ytcengfpfphdacaa.l91_61_2 [sd0, (D.int (qlen sd0))] [(D.int 0)]) 0)) 0) then
        some [(D.int (-1))]
      else
        some [(D.int (qint (qnth (Proofs.Ytcengfpfphdacaa.l91_61_2 [sd0, (D.int (qlen sd0))] [(D.int 0)]) 1)))]
    else
      none := by kernel_rfl

noncomputable def q91_61 : List D → Option (List D) := veil (F91_61 )

theorem q91_61_eq : q91_61  = F91_61  := veil_eq _

noncomputable def tb91_61 : Tb := Tb.addF tbl91_61_2 91 S91_61 (q91_61 )

theorem ok_tb91_61 : TbOk env (tb91_61 ) := addFunF ok_tbl91_61_2 91 (by kernel_rfl) _ (q91_61_eq )

/- function 62  -/

def S62_61 : FunS := ⟨[⟨true, (.rows 81)⟩, ⟨true, (.func 61 [] [])⟩], [], [⟨true, .bool⟩], []⟩

noncomputable def F62_61 : List D → Option (List D) := liftF env tb91_61 60 6 62 S62_61

theorem F62_61_eq  (sd0 : D) : F62_61  [sd0] =
    bif (qsome (Proofs.Ytcengfpfphdacaa.q91_61 [sd0])) then
      some [(D.bool (qcmp BinOp.geq (qint (qnth (Proofs.Ytcengfpfphdacaa.q91_61 [sd0]) 0)) 0))]
    else
      none := by kernel_rfl

noncomputable def q62_61 : List D → Option (List D) := veil (F62_61 )

theorem q62_61_eq : q62_61  = F62_61  := veil_eq _

noncomputable def tb62_61 : Tb := Tb.addF tb91_61 62 S62_61 (q62_61 )

theorem ok_tb62_61 : TbOk env (tb62_61 ) := addFunF ok_tb91_61 62 (by kernel_rfl) _ (q62_61_eq )

/- function 65  -/

def S65 : FunS := ⟨[⟨true, (.int .i64)⟩, ⟨true, (.edat 49)⟩], [], [⟨true, .bool⟩], []⟩

noncomputable def F65 : List D → Option (List D) := liftF env tb62_61 60 6 65 S65

theorem F65_eq  (sn0 : Int) (sd1 : D) : F65  [(D.int sn0), sd1] =
    some [(D.bool (qiteB (qcmp BinOp.lss sn0 0) Bool.true (qcmp BinOp.geq sn0 (qlen (qfld sd1 1)))))] := by kernel_rfl

noncomputable def q65 : List D → Option (List D) := veil (F65 )

theorem q65_eq : q65  = F65  := veil_eq _

noncomputable def tb65 : Tb := Tb.addF tb62_61 65 S65 (q65 )

theorem ok_tb65 : TbOk env (tb65 ) := addFunF ok_tb62_61 65 (by kernel_rfl) _ (q65_eq )

/- function 92  -/

def S92_65_2 : LoopS := ⟨0, [⟨false, (.rows 3)⟩, ⟨false, (.func 65 [] [(.edat 49)])⟩, ⟨false, .any⟩, ⟨false, .any⟩, ⟨false, (.lit (.int .i64 0))⟩, ⟨false, .any⟩, ⟨false, .any⟩, ⟨false, (.int .i64)⟩, ⟨true, (.int .i64)⟩, ⟨false, .any⟩, ⟨false, .any⟩, ⟨false, .any⟩, ⟨false, .any⟩, ⟨false, .any⟩, ⟨false, .any⟩, ⟨false, .any⟩, ⟨false, .any⟩, ⟨false, .any⟩, ⟨false, .any⟩], [], [⟨0, 0, [⟨false, (.rows 3)⟩, ⟨false, (.func 65 [] [(.edat 49)])⟩, ⟨true, .any⟩, ⟨true, .any⟩, ⟨true, (.lit (.int .i64 0))⟩, ⟨true, .any⟩, ⟨true, .any⟩, ⟨false, (.int .i64)⟩, ⟨true, .any⟩, ⟨true, .any⟩, ⟨true, .any⟩, ⟨true, .any⟩, ⟨true, .any⟩, ⟨true, .any⟩, ⟨true, .any⟩, ⟨true, .any⟩, ⟨true, .any⟩, ⟨true, .any⟩, ⟨true, .any⟩], []⟩, ⟨1, 0, [⟨false, (.rows 3)⟩, ⟨false, (.func 65 [] [(.edat 49)])⟩, ⟨true, .any⟩, ⟨true, .any⟩, ⟨true, (.int .i64)⟩, ⟨true, .any⟩, ⟨true, .any⟩, ⟨false, (.int .i64)⟩, ⟨true, .any⟩, ⟨true, .any⟩, ⟨true, .any⟩, ⟨true, .any⟩, ⟨true, .any⟩, ⟨true, .any⟩, ⟨true, .any⟩, ⟨true, .any⟩, ⟨true, .any⟩, ⟨true, .any⟩, ⟨true, .any⟩], []⟩]⟩

noncomputable def st92_65_2 (p s : List D) : Option (Sum (List D) (List D)) := stepQ env tb65 60 6 92 (loopC 92 2) S92_65_2 p s

theorem st92_65_2_eq (pd0 : D) (pd1 : D) (pn2 : Int) (sn0 : Int) : st92_65_2  [pd0, pd1, (D.int pn2)] [(D.int sn0)] =
    bif (qcmp BinOp.lss sn0 pn2) then
      bif (qinb pd0 sn0) then
        bif (qsome (Proofs.Ytcengfpfphdacaa.q65 [(D.int (qint (qget pd0 sn0))), pd1])) then
          bif (qbool (qnth (Proofs.Ytcengfpfphdacaa.q65 [(D.int (qint (qget pd0 sn0))), pd1]) 0)) then
            some (Sum.inr [(D.int 1), (D.int sn0)])
          else
            some (Sum.inl [(D.int (qbin BinOp.add IntKind.i64 sn0 1))])
        else
          none
      else
        none
    else
      some (Sum.inr [(D.int 0)]) := by
  have h : st92_65_2  [pd0, pd1, (D.int pn2)] [(D.int sn0)] =
    bif (qcmp BinOp.lss sn0 pn2) then
      bif (qinb pd0 sn0) then
        bif (qsome (Proofs.Ytcengfpfphdacaa.q65 [(D.int (qint (qget pd0 sn0))), pd1])) then
          bif (qbool (qnth (Proofs.Ytcengfpfphdacaa.q65 [(D.int (qint (qget pd0 sn0))), pd1]) 0)) then
            bif (qeqD pd0 pd0) then
              bif (qeqD pd1 pd1) then
                bif (qeqD (D.int pn2) (D.int pn2)) then
                  some (Sum.inr [(D.int 1), (D.int sn0)])
                else
                  none
              else
                none
            else
              none
          else
            bif (qeqD pd0 pd0) then
              bif (qeqD pd1 pd1) then
                bif (qeqD (D.int pn2) (D.int pn2)) then
                  some (Sum.inl [(D.int (qbin BinOp.add IntKind.i64 sn0 1))])
                else
                  none
              else
                none
            else
              none
        else
          none
      else
        none
    else
      bif (qeqD pd0 pd0) then
        bif (qeqD pd1 pd1) then
          bif (qeqD (D.int pn2) (D.int pn2)) then
            some (Sum.inr [(D.int 0)])
          else
            none
        else
          none
      else
        none := by kernel_rfl
  rw [h]; simp only [qeqD_self, qeqI_self, qeq_len, List.length_cons, List.length_nil, cond_true]

noncomputable def l92_65_2 : List D → List D → Option (List D) := veil fun p s => loW (st92_65_2  p) s

theorem l92_65_2_eq : l92_65_2  = fun p s => loW (st92_65_2  p) s := veil_eq _

noncomputable def tbl92_65_2 : Tb := Tb.addL tb65 92 2 S92_65_2.n0 (mkLp S92_65_2 (l92_65_2 ))

theorem ok_tbl92_65_2 : TbOk env (tbl92_65_2 ) := addLoopQ ok_tb65 92 2 (by kernel_rfl) _ (l92_65_2_eq )

def S92_65 : FunS := ⟨[⟨true, (.rows 3)⟩, ⟨true, (.func 65 [] [(.edat 49)])⟩], [], [⟨true, (.int .i64)⟩], []⟩

noncomputable def F92_65 : List D → Option (List D) := liftF env tbl92_65_2 60 6 92 S92_65

theorem F92_65_eq  (sd0 : D) (sd1 : D) : F92_65  [sd0, sd1] =
    bif (qsome (Proofs.Ytcengfpfphdacaa.l92_65_2 [sd0, sd1, (D.int (qlen sd0))] [(D.int 0)])) then
      bif (qcmp BinOp.eql (qint (qnth (Proofs.Ytcengfpfphdacaa.l92_65_2 [sd0, sd1, (D.int (qlen sd0))] [(D.int 0)]) 0)) 0) then
        some [(D.int (-1))]
      else
        some [(D.int (qint (qnth (Proofs.Ytcengfpfphdacaa.l92_65_2 [sd0, sd1, (D.int (qlen sd0))] [(D.int 0)]) 1)))]
    else
      none := by kernel_rfl

noncomputable def q92_65 : List D → Option (List D) := veil (F92_65 )

theorem q92_65_eq : q92_65  = F92_65  := veil_eq _

noncomputable def tb92_65 : Tb := Tb.addF tbl92_65_2 92 S92_65 (q92_65 )

theorem ok_tb92_65 : TbOk env (tb92_65 ) := addFunF ok_tbl92_65_2 92 (by kernel_rfl) _ (q92_65_eq )

/- function 63  -/

def S63_65 : FunS := ⟨[⟨true, (.rows 3)⟩, ⟨true, (.func 65 [] [(.edat 49)])⟩], [], [⟨true, .bool⟩], []⟩

noncomputable def F63_65 : List D → Option (List D) := liftF env tb92_65 60 6 63 S63_65

theorem F63_65_eq  (sd0 : D) (sd1 : D) : F63_65  [sd0, sd1] =
    bif (qsome (Proofs.Ytcengfpfphdacaa.q92_65 [sd0, sd1])) then
      some [(D.bool (qcmp BinOp.geq (qint (qnth (Proofs.Ytcengfpfphdacaa.q92_65 [sd0, sd1]) 0)) 0))]
    else
      none := by kernel_rfl

noncomputable def q63_65 : List D → Option (List D) := veil (F63_65 )

theorem q63_65_eq : q63_65  = F63_65  := veil_eq _

noncomputable def tb63_65 : Tb := Tb.addF tb92_65 63 S63_65 (q63_65 )

theorem ok_tb63_65 : TbOk env (tb63_65 ) := addFunF ok_tb92_65 63 (by kernel_rfl) _ (q63_65_eq )

end Go.Proofs.Ytcengfpfphdacaa

namespace Go.Proofs.Ytcengfpfphdacaa
open Go Go.AM

theorem lift_args {e : Env} {tb : Tb} (hok : EnvOk e) (h : TbOk e tb) (K n : Nat) {f : FuncId} {S : FunS} {av : List AV} {p r : List D} {H : Hp}
    (hr : bodyK (envF e tb f) (runTb e tb K n) K f av H (retF S p) = some r) (hH : H.n = S.hs.length) : ∀ lo w0 ρ E w (vs : Array Value), AM.Inv lo w0 ρ E H w → RepL ρ E w av vs.toList →
      Calls e.P f vs w fun e' w' => ∃ u ρ' E', e' = .returned u ∧ AM.Inv lo w0 ρ' E' (heapR S p (bdL r)) w' ∧ AM.Reach lo ρ E w ρ' E' w' ∧ Rep ρ' E' w' (resF S p (bdL r)) u := by
  intro lo w0 ρ E w vs inv ra
  refine (bodyK_sound (env := envF e tb f) (envF_ok hok f) K (runTb_fn h K n) (runTb_sound hok h K n) f (fun F hF x hx n0 g hg => h.l f F x n0 g hF hx hg) hr lo w0 ρ E w vs inv ra).mono ?_
  rintro e' w' ⟨u, ρ', E', v0, Hc, rfl, inv', reach, hrep, hk⟩
  unfold retF at hk
  split at hk
  · rename_i q hq
    obtain ⟨h1, h2⟩ := guardAll_some hk
    cases h2
    obtain ⟨o1, o2⟩ := allB_both h1
    have hp := eqD2_eq o2
    have st : St lo w0 ρ E w ρ' E' Hc [v0] { tmps := #[u], defers := [] } w' := ⟨inv', ⟨rfl, fun t x ht => by
      cases t with
      | zero => simp at ht; subst ht; simpa using hrep
      | succ t => simp at ht, rfl⟩, reach⟩
    obtain ⟨ρ2, E2, st2⟩ := nrm_wk hq o1 (σp := bdL p) (σs := bdL q.s) (js := 0) (by rw [hp]; exact bdL_ats p) (bdL_ats q.s) lo w0 ρ E w ρ' E' _ w' (by rw [← hH]; exact inv.dom) st
    refine ⟨u, ρ2, E2, rfl, st2.inv, st2.reach, ?_⟩
    unfold resF
    cases hm : mkFr (bdL p) (bdL q.s) S.rs S.rhs 0 with
    | nil => simp only [List.headD_nil, Rep]
    | cons x xs =>
      have := st2.fr.rep 0 x (by rw [hm]; rfl)
      simpa using this
  · cases hk

def S93 : FunS := ⟨[⟨true, (.rows 3)⟩], [], [⟨true, (.rows 3)⟩], []⟩

theorem run93n (c : Nat) : bodyK (envF env tb63_65 93) (runTb env tb63_65 60 6) 60 93 [.sc (.slice none 0 c)] (heapF S93 [] []) (retF S93 []) = some [.list []] := by kernel_rfl
theorem run93z (d : D) : bodyK (envF env tb63_65 93) (runTb env tb63_65 60 6) 60 93 [.rowz 3 d] (heapF S93 [] []) (retF S93 []) =
  bif qmem (qlen (qapp (D.list []) d)) 8 then (bif (qcmp BinOp.eql (qlen (qapp (D.list []) d)) (qlen (qapp (D.list []) d))) then some [qapp (D.list []) d] else none) else none := by kernel_rfl

noncomputable def F93 (ds : List D) : Option (List D) := bif qmem (qlen (qapp (D.list []) (ds.headD .other))) 8 then some [qapp (D.list []) (ds.headD .other)] else none

noncomputable def q93 : List D → Option (List D) := veil F93
theorem q93_eq : q93 = F93 := veil_eq _

theorem sound93 : SoundF env.P 93 S93 q93 := by
  intro p s r hp hq lo w0 ρ E w vs inv ra
  obtain rfl : p = [] := List.length_eq_zero_iff.1 hp
  have ha : argF S93 [] s = [.rows 3 (s.headD .other)] := by
    cases s <;> rfl
  have hh : heapF S93 [] s = heapF S93 [] [] := rfl
  rw [q93_eq] at hq
  unfold F93 at hq
  simp only [List.nil_append] at hq
  rw [ha] at ra
  generalize hd : s.headD .other = d at *
  cases hm : qmem (qlen (qapp (D.list []) d)) 8 with
  | false => rw [hm] at hq; cases hq
  | true =>
    rw [hm] at hq
    simp only [cond_true, Option.some.injEq] at hq
    subst hq
    rw [hh] at inv
    generalize hvs : vs.toList = vl at ra
    obtain ⟨v, vl', rfl, rv, hn⟩ : ∃ v vs', vl = v :: vs' ∧ Rep ρ E w (AV.rows 3 d) v ∧ vs' = [] := by simpa only [RepL] using ra
    · subst hn
      simp only [Rep] at rv
      obtain ⟨a, cap, rfl, hc, hx⟩ := id rv
      cases a with
      | none =>
        have he : d.toList = [] := by
          rcases hx with h | ⟨_, _, h, _⟩
          · exact h
          · cases h
        have he' : qapp (D.list []) d = .list [] := by rw [qapp_eq]; unfold D.app; rw [he]; rfl
        rw [he']
        refine lift_args (av := [.sc (.slice none 0 cap)]) envOk ok_tb63_65 60 6 (run93n cap) rfl lo w0 ρ E w vs inv ?_
        rw [hvs, he]
        simp [RepL, Rep]
      | some a =>
        refine lift_args (av := [.rowz 3 d]) envOk ok_tb63_65 60 6 (p := []) (r := [qapp (D.list []) d]) (S := S93) (by rw [run93z, hm, qeqI_self]; rfl) rfl lo w0 ρ E w vs inv ?_
        rw [hvs]
        simp only [RepL]
        exact ⟨_, _, rfl, by simp only [Rep]; exact ⟨rv, _, _, _, rfl⟩, rfl⟩

noncomputable def tb93 : Tb := Tb.addF tb63_65 93 S93 q93
theorem ok_tb93 : TbOk env tb93 := TbOk.addF ok_tb63_65 (by kernel_rfl) sound93

end Go.Proofs.Ytcengfpfphdacaa
