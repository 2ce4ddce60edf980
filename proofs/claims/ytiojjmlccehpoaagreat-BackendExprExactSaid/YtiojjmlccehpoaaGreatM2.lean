/-
  Made by gen3.py: what functions of the seat compute, as partial functions on data, and that they do.
-/
import Derived.Test.YtiojjmlccehpoaaGreatM1
import Derived.KernelRfl
open Go Go.AM
namespace Go.Proofs.YtiojjmlccehpoaaGreat
set_option maxRecDepth 100000
set_option linter.unusedSimpArgs false
set_option linter.unusedVariables false
def S42 : FunS := ⟨[⟨true, (.ptr 0 0)⟩, ⟨true, (.dat 25)⟩], [(.lst true 106), (.lst true 46), (.cells [⟨false, (.osl 1 46)⟩, ⟨false, (.osl 2 106)⟩, ⟨false, .any⟩, ⟨false, .any⟩, ⟨false, .any⟩, ⟨false, (.rows 9)⟩, ⟨false, .any⟩, ⟨false, (.int .u32)⟩, ⟨false, .any⟩, ⟨false, .any⟩, ⟨false, .any⟩])], [⟨true, (.tup [])⟩], [(.lst true 106), (.lst true 46), .skip, .skip, (.cells [⟨true, (.osl 3 46)⟩, ⟨true, (.osl 4 106)⟩, ⟨true, .any⟩, ⟨true, .any⟩, ⟨true, .any⟩, ⟨false, (.rows 9)⟩, ⟨true, .any⟩, ⟨false, (.int .u32)⟩, ⟨true, .any⟩, ⟨true, .any⟩, ⟨true, .any⟩])]⟩

noncomputable def tbR42 (Q : List D → Option (List D)) : Tb := Tb.addF tb104 42 S42 Q

theorem ok_tbR42 (Q : List D → Option (List D)) (hQ : SoundF env.P 42 S42 Q) : TbOk env (tbR42 Q) := TbOk.addF ok_tb104 (by kernel_rfl) hQ

noncomputable def Fb42 (Q : List D → Option (List D)) : List D → Option (List D) := liftX env (tbR42 Q ) 60 6 42 S42

noncomputable def Fb42_a0 (Q : List D → Option (List D)) (pd0 : D) (pn1 : Int) (sd0 : D) (sd1 : D) (sd2 : D) : D := (qnth (Q [pd0, (D.int pn1), (qget (qfld sd0 4) 0), sd1, sd2]) 1)

noncomputable def Fb42_a1 (Q : List D → Option (List D)) (pd0 : D) (pn1 : Int) (sd0 : D) (sd1 : D) (sd2 : D) : D := (qnth (Q [pd0, (D.int pn1), (qget (qfld sd0 4) 0), sd1, sd2]) 0)

noncomputable def Fb42_a2 (Q : List D → Option (List D)) (pd0 : D) (pn1 : Int) (sd0 : D) (sd1 : D) (sd2 : D) : D := (qnth (Proofs.YtiojjmlccehpoaaGreat.q50 [pd0, (D.int pn1), (D.list [(D.agg [(D.int 0), (D.int 0), (D.int 3), (D.int 0), (D.int 0), (D.int 0), (D.int 0), (D.int 0), (D.int 0)])]), (Fb42_a1 Q pd0 pn1 sd0 sd1 sd2), (Fb42_a0 Q pd0 pn1 sd0 sd1 sd2)]) 1)

noncomputable def Fb42_a3 (Q : List D → Option (List D)) (pd0 : D) (pn1 : Int) (sd0 : D) (sd1 : D) (sd2 : D) : D := (qnth (Proofs.YtiojjmlccehpoaaGreat.q50 [pd0, (D.int pn1), (D.list [(D.agg [(D.int 0), (D.int 0), (D.int 3), (D.int 0), (D.int 0), (D.int 0), (D.int 0), (D.int 0), (D.int 0)])]), (Fb42_a1 Q pd0 pn1 sd0 sd1 sd2), (Fb42_a0 Q pd0 pn1 sd0 sd1 sd2)]) 0)

noncomputable def Fb42_a4 (Q : List D → Option (List D)) (pd0 : D) (pn1 : Int) (sd0 : D) (sd1 : D) (sd2 : D) : D := (qnth (Q [pd0, (D.int pn1), (qget (qfld sd0 4) 1), (Fb42_a3 Q pd0 pn1 sd0 sd1 sd2), (Fb42_a2 Q pd0 pn1 sd0 sd1 sd2)]) 1)

noncomputable def Fb42_a5 (Q : List D → Option (List D)) (pd0 : D) (pn1 : Int) (sd0 : D) (sd1 : D) (sd2 : D) : D := (qnth (Q [pd0, (D.int pn1), (qget (qfld sd0 4) 1), (Fb42_a3 Q pd0 pn1 sd0 sd1 sd2), (Fb42_a2 Q pd0 pn1 sd0 sd1 sd2)]) 0)

noncomputable def Fb42_a6 (Q : List D → Option (List D)) (pd0 : D) (pn1 : Int) (sd0 : D) (sd1 : D) (sd2 : D) : D := (qnth (Proofs.YtiojjmlccehpoaaGreat.q50 [pd0, (D.int pn1), (D.list [(D.agg [(D.int 0), (D.int 0), (D.int 5), (D.int 0), (D.int 0), (D.int 0), (D.int 1), (D.int 0), (D.int 0)]), (D.agg [(D.int 0), (D.int 0), (D.int 4), (D.int 0), (D.int 0), (D.int 0), (D.int 0), (D.int 0), (D.int 0)])]), (Fb42_a5 Q pd0 pn1 sd0 sd1 sd2), (Fb42_a4 Q pd0 pn1 sd0 sd1 sd2)]) 1)

noncomputable def Fb42_a7 (Q : List D → Option (List D)) (pd0 : D) (pn1 : Int) (sd0 : D) (sd1 : D) (sd2 : D) : D := (qnth (Proofs.YtiojjmlccehpoaaGreat.q50 [pd0, (D.int pn1), (D.list [(D.agg [(D.int 0), (D.int 0), (D.int 5), (D.int 0), (D.int 0), (D.int 0), (D.int 1), (D.int 0), (D.int 0)]), (D.agg [(D.int 0), (D.int 0), (D.int 4), (D.int 0), (D.int 0), (D.int 0), (D.int 0), (D.int 0), (D.int 0)])]), (Fb42_a5 Q pd0 pn1 sd0 sd1 sd2), (Fb42_a4 Q pd0 pn1 sd0 sd1 sd2)]) 0)

noncomputable def Fb42_a8 (Q : List D → Option (List D)) (pd0 : D) (pn1 : Int) (sd0 : D) (sd1 : D) (sd2 : D) : D := (qnth (Proofs.YtiojjmlccehpoaaGreat.q104 [(D.int (qint (qfld sd0 0)))]) 0)

noncomputable def Fb42_a9 (Q : List D → Option (List D)) (pd0 : D) (pn1 : Int) (sd0 : D) (sd1 : D) (sd2 : D) : D := (qnth (Proofs.YtiojjmlccehpoaaGreat.q50 [pd0, (D.int pn1), (D.list [(D.agg [(D.int 0), (D.int 0), (D.int 15), (D.int 0), (D.int 0), (D.int 0), (D.int 0), (D.int 1), (D.int 0)]), (D.agg [(D.int 0), (D.int 0), (D.int 25), (D.int 0), (D.int 0), (D.int (qint (Fb42_a8 Q pd0 pn1 sd0 sd1 sd2))), (D.int 0), (D.int 0), (D.int 0)])]), (Fb42_a7 Q pd0 pn1 sd0 sd1 sd2), (Fb42_a6 Q pd0 pn1 sd0 sd1 sd2)]) 1)

noncomputable def Fb42_a10 (Q : List D → Option (List D)) (pd0 : D) (pn1 : Int) (sd0 : D) (sd1 : D) (sd2 : D) : D := (qnth (Proofs.YtiojjmlccehpoaaGreat.q50 [pd0, (D.int pn1), (D.list [(D.agg [(D.int 0), (D.int 0), (D.int 15), (D.int 0), (D.int 0), (D.int 0), (D.int 0), (D.int 1), (D.int 0)]), (D.agg [(D.int 0), (D.int 0), (D.int 25), (D.int 0), (D.int 0), (D.int (qint (Fb42_a8 Q pd0 pn1 sd0 sd1 sd2))), (D.int 0), (D.int 0), (D.int 0)])]), (Fb42_a7 Q pd0 pn1 sd0 sd1 sd2), (Fb42_a6 Q pd0 pn1 sd0 sd1 sd2)]) 0)

noncomputable def Fb42_a11 (Q : List D → Option (List D)) (pd0 : D) (pn1 : Int) (sd0 : D) (sd1 : D) (sd2 : D) : D := (qnth (Proofs.YtiojjmlccehpoaaGreat.q103 [(D.int (qint (qfld sd0 0)))]) 0)

noncomputable def Fb42_a12 (Q : List D → Option (List D)) (pd0 : D) (pn1 : Int) (sd0 : D) (sd1 : D) (sd2 : D) : D := (qnth (Proofs.YtiojjmlccehpoaaGreat.q50 [pd0, (D.int pn1), (D.list [(D.agg [(D.int 0), (D.int 0), (D.int (qint (Fb42_a11 Q pd0 pn1 sd0 sd1 sd2))), (D.int 0), (D.int 0), (D.int 0), (D.int 0), (D.int 1), (D.int 0)])]), (Fb42_a7 Q pd0 pn1 sd0 sd1 sd2), (Fb42_a6 Q pd0 pn1 sd0 sd1 sd2)]) 1)

noncomputable def Fb42_a13 (Q : List D → Option (List D)) (pd0 : D) (pn1 : Int) (sd0 : D) (sd1 : D) (sd2 : D) : D := (qnth (Proofs.YtiojjmlccehpoaaGreat.q50 [pd0, (D.int pn1), (D.list [(D.agg [(D.int 0), (D.int 0), (D.int (qint (Fb42_a11 Q pd0 pn1 sd0 sd1 sd2))), (D.int 0), (D.int 0), (D.int 0), (D.int 0), (D.int 1), (D.int 0)])]), (Fb42_a7 Q pd0 pn1 sd0 sd1 sd2), (Fb42_a6 Q pd0 pn1 sd0 sd1 sd2)]) 0)

noncomputable def Fb42_a14 (Q : List D → Option (List D)) (pd0 : D) (pn1 : Int) (sd0 : D) (sd1 : D) (sd2 : D) : D := (qnth (Proofs.YtiojjmlccehpoaaGreat.q103 [(D.int (qint (qfld sd0 0)))]) 1)

noncomputable def Fb42_a15 (Q : List D → Option (List D)) (pd0 : D) (pn1 : Int) (sd0 : D) (sd1 : D) (sd2 : D) : D := (qnth (Proofs.YtiojjmlccehpoaaGreat.q50 [pd0, (D.int pn1), (D.list [(D.agg [(D.int 0), (D.int (qwrap IntKind.u32 (qbin BinOp.sub IntKind.i64 32 (qbin BinOp.mul IntKind.i64 8 (qint (qfld sd0 3)))))), (D.int 12), (D.int 1), (D.int 0), (D.int 0), (D.int 0), (D.int 0), (D.int 0)]), (D.agg [(D.int 0), (D.int (qwrap IntKind.u32 (qbin BinOp.sub IntKind.i64 32 (qbin BinOp.mul IntKind.i64 8 (qint (qfld sd0 3)))))), (D.int 14), (D.int 1), (D.int 0), (D.int 0), (D.int 0), (D.int 0), (D.int 0)])]), (Fb42_a1 Q pd0 pn1 sd0 sd1 sd2), (Fb42_a0 Q pd0 pn1 sd0 sd1 sd2)]) 1)

noncomputable def Fb42_a16 (Q : List D → Option (List D)) (pd0 : D) (pn1 : Int) (sd0 : D) (sd1 : D) (sd2 : D) : D := (qnth (Proofs.YtiojjmlccehpoaaGreat.q50 [pd0, (D.int pn1), (D.list [(D.agg [(D.int 0), (D.int (qwrap IntKind.u32 (qbin BinOp.sub IntKind.i64 32 (qbin BinOp.mul IntKind.i64 8 (qint (qfld sd0 3)))))), (D.int 12), (D.int 1), (D.int 0), (D.int 0), (D.int 0), (D.int 0), (D.int 0)]), (D.agg [(D.int 0), (D.int (qwrap IntKind.u32 (qbin BinOp.sub IntKind.i64 32 (qbin BinOp.mul IntKind.i64 8 (qint (qfld sd0 3)))))), (D.int 14), (D.int 1), (D.int 0), (D.int 0), (D.int 0), (D.int 0), (D.int 0)])]), (Fb42_a1 Q pd0 pn1 sd0 sd1 sd2), (Fb42_a0 Q pd0 pn1 sd0 sd1 sd2)]) 0)

noncomputable def Fb42_a17 (Q : List D → Option (List D)) (pd0 : D) (pn1 : Int) (sd0 : D) (sd1 : D) (sd2 : D) : D := (qnth (Proofs.YtiojjmlccehpoaaGreat.q50 [pd0, (D.int pn1), (D.list [(D.agg [(D.int 0), (D.int 0), (D.int 16), (D.int 0), (D.int (qint (qfld sd0 3))), (D.int 0), (D.int 0), (D.int 0), (D.int 0)])]), (Fb42_a1 Q pd0 pn1 sd0 sd1 sd2), (Fb42_a0 Q pd0 pn1 sd0 sd1 sd2)]) 1)

noncomputable def Fb42_a18 (Q : List D → Option (List D)) (pd0 : D) (pn1 : Int) (sd0 : D) (sd1 : D) (sd2 : D) : D := (qnth (Proofs.YtiojjmlccehpoaaGreat.q50 [pd0, (D.int pn1), (D.list [(D.agg [(D.int 0), (D.int 0), (D.int 16), (D.int 0), (D.int (qint (qfld sd0 3))), (D.int 0), (D.int 0), (D.int 0), (D.int 0)])]), (Fb42_a1 Q pd0 pn1 sd0 sd1 sd2), (Fb42_a0 Q pd0 pn1 sd0 sd1 sd2)]) 0)

noncomputable def Fb42_a19 (Q : List D → Option (List D)) (pd0 : D) (pn1 : Int) (sd0 : D) (sd1 : D) (sd2 : D) : D := (qnth (Proofs.YtiojjmlccehpoaaGreat.q50 [pd0, (D.int pn1), (D.list [(D.agg [(D.int 0), (D.int 0), (D.int 5), (D.int 0), (D.int 0), (D.int 0), (D.int 1), (D.int 0), (D.int 0)]), (D.agg [(D.int 0), (D.int 0), (D.int 5), (D.int 1), (D.int 0), (D.int 0), (D.int 0), (D.int 0), (D.int 0)]), (D.agg [(D.int 0), (D.int 0), (D.int 7), (D.int 0), (D.int 0), (D.int 0), (D.int 0), (D.int 1), (D.int 0)])]), (Fb42_a1 Q pd0 pn1 sd0 sd1 sd2), (Fb42_a0 Q pd0 pn1 sd0 sd1 sd2)]) 1)

noncomputable def Fb42_a20 (Q : List D → Option (List D)) (pd0 : D) (pn1 : Int) (sd0 : D) (sd1 : D) (sd2 : D) : D := (qnth (Proofs.YtiojjmlccehpoaaGreat.q50 [pd0, (D.int pn1), (D.list [(D.agg [(D.int 0), (D.int 0), (D.int 5), (D.int 0), (D.int 0), (D.int 0), (D.int 1), (D.int 0), (D.int 0)]), (D.agg [(D.int 0), (D.int 0), (D.int 5), (D.int 1), (D.int 0), (D.int 0), (D.int 0), (D.int 0), (D.int 0)]), (D.agg [(D.int 0), (D.int 0), (D.int 7), (D.int 0), (D.int 0), (D.int 0), (D.int 0), (D.int 1), (D.int 0)])]), (Fb42_a1 Q pd0 pn1 sd0 sd1 sd2), (Fb42_a0 Q pd0 pn1 sd0 sd1 sd2)]) 0)

noncomputable def Fb42_a21 (Q : List D → Option (List D)) (pd0 : D) (pn1 : Int) (sd0 : D) (sd1 : D) (sd2 : D) : D := (qnth (Proofs.YtiojjmlccehpoaaGreat.q50 [pd0, (D.int pn1), (D.list [(D.agg [(D.int 0), (D.int 0), (D.int 15), (D.int 1), (D.int 0), (D.int 0), (D.int 0), (D.int 0), (D.int 0)]), (D.agg [(D.int 0), (D.int 0), (D.int 25), (D.int 0), (D.int 0), (D.int 1), (D.int 0), (D.int 0), (D.int 0)])]), (Fb42_a1 Q pd0 pn1 sd0 sd1 sd2), (Fb42_a0 Q pd0 pn1 sd0 sd1 sd2)]) 1)

noncomputable def Fb42_a22 (Q : List D → Option (List D)) (pd0 : D) (pn1 : Int) (sd0 : D) (sd1 : D) (sd2 : D) : D := (qnth (Proofs.YtiojjmlccehpoaaGreat.q50 [pd0, (D.int pn1), (D.list [(D.agg [(D.int 0), (D.int 0), (D.int 15), (D.int 1), (D.int 0), (D.int 0), (D.int 0), (D.int 0), (D.int 0)]), (D.agg [(D.int 0), (D.int 0), (D.int 25), (D.int 0), (D.int 0), (D.int 1), (D.int 0), (D.int 0), (D.int 0)])]), (Fb42_a1 Q pd0 pn1 sd0 sd1 sd2), (Fb42_a0 Q pd0 pn1 sd0 sd1 sd2)]) 0)

noncomputable def Fb42_a23 (Q : List D → Option (List D)) (pd0 : D) (pn1 : Int) (sd0 : D) (sd1 : D) (sd2 : D) : D := (qnth (Proofs.YtiojjmlccehpoaaGreat.q51 [sd1, sd2, pd0, (D.int pn1), (D.str (qstr (qfld sd0 2)))]) 0)

noncomputable def Fb42_a24 (Q : List D → Option (List D)) (pd0 : D) (pn1 : Int) (sd0 : D) (sd1 : D) (sd2 : D) : D := (qnth (Proofs.YtiojjmlccehpoaaGreat.q50 [pd0, (D.int pn1), (D.list [(D.agg [(D.int (qint (qfld (Fb42_a23 Q pd0 pn1 sd0 sd1 sd2) 0))), (D.int (qint (qfld (Fb42_a23 Q pd0 pn1 sd0 sd1 sd2) 1))), (D.int (qint (qfld (Fb42_a23 Q pd0 pn1 sd0 sd1 sd2) 2))), (D.int (qint (qfld (Fb42_a23 Q pd0 pn1 sd0 sd1 sd2) 3))), (D.int (qint (qfld (Fb42_a23 Q pd0 pn1 sd0 sd1 sd2) 4))), (D.int (qint (qfld (Fb42_a23 Q pd0 pn1 sd0 sd1 sd2) 5))), (D.int (qint (qfld (Fb42_a23 Q pd0 pn1 sd0 sd1 sd2) 6))), (D.int (qint (qfld (Fb42_a23 Q pd0 pn1 sd0 sd1 sd2) 7))), (D.int (qint (qfld (Fb42_a23 Q pd0 pn1 sd0 sd1 sd2) 8)))]), (D.agg [(D.int 0), (D.int 0), (D.int 16), (D.int 0), (D.int 4), (D.int 0), (D.int 0), (D.int 2), (D.int 0)])]), sd1, sd2]) 1)

noncomputable def Fb42_a25 (Q : List D → Option (List D)) (pd0 : D) (pn1 : Int) (sd0 : D) (sd1 : D) (sd2 : D) : D := (qnth (Proofs.YtiojjmlccehpoaaGreat.q50 [pd0, (D.int pn1), (D.list [(D.agg [(D.int (qint (qfld (Fb42_a23 Q pd0 pn1 sd0 sd1 sd2) 0))), (D.int (qint (qfld (Fb42_a23 Q pd0 pn1 sd0 sd1 sd2) 1))), (D.int (qint (qfld (Fb42_a23 Q pd0 pn1 sd0 sd1 sd2) 2))), (D.int (qint (qfld (Fb42_a23 Q pd0 pn1 sd0 sd1 sd2) 3))), (D.int (qint (qfld (Fb42_a23 Q pd0 pn1 sd0 sd1 sd2) 4))), (D.int (qint (qfld (Fb42_a23 Q pd0 pn1 sd0 sd1 sd2) 5))), (D.int (qint (qfld (Fb42_a23 Q pd0 pn1 sd0 sd1 sd2) 6))), (D.int (qint (qfld (Fb42_a23 Q pd0 pn1 sd0 sd1 sd2) 7))), (D.int (qint (qfld (Fb42_a23 Q pd0 pn1 sd0 sd1 sd2) 8)))]), (D.agg [(D.int 0), (D.int 0), (D.int 16), (D.int 0), (D.int 4), (D.int 0), (D.int 0), (D.int 2), (D.int 0)])]), sd1, sd2]) 0)

noncomputable def Fb42_a26 (Q : List D → Option (List D)) (pd0 : D) (pn1 : Int) (sd0 : D) (sd1 : D) (sd2 : D) : D := (qnth (Proofs.YtiojjmlccehpoaaGreat.q50 [pd0, (D.int pn1), (D.list [(D.agg [(D.int 0), (D.int (qint (qfld sd0 1))), (D.int 5), (D.int 2), (D.int 0), (D.int 0), (D.int 0), (D.int 0), (D.int 0)])]), sd1, sd2]) 1)

noncomputable def Fb42_a27 (Q : List D → Option (List D)) (pd0 : D) (pn1 : Int) (sd0 : D) (sd1 : D) (sd2 : D) : D := (qnth (Proofs.YtiojjmlccehpoaaGreat.q50 [pd0, (D.int pn1), (D.list [(D.agg [(D.int 0), (D.int (qint (qfld sd0 1))), (D.int 5), (D.int 2), (D.int 0), (D.int 0), (D.int 0), (D.int 0), (D.int 0)])]), sd1, sd2]) 0)

theorem Fb42_eq (Q : List D → Option (List D)) (pd0 : D) (pn1 : Int) (sd0 : D) (sd1 : D) (sd2 : D) : Fb42 Q  [pd0, (D.int pn1), sd0, sd1, sd2] =
    bif (qcmp BinOp.eql (qint (qfld sd0 0)) 1) then
      bif (qsome (Proofs.YtiojjmlccehpoaaGreat.q50 [pd0, (D.int pn1), (D.list [(D.agg [(D.int 0), (D.int (qint (qfld sd0 1))), (D.int 5), (D.int 2), (D.int 0), (D.int 0), (D.int 0), (D.int 0), (D.int 0)])]), sd1, sd2])) then
        some [(Fb42_a27 Q pd0 pn1 sd0 sd1 sd2), (Fb42_a26 Q pd0 pn1 sd0 sd1 sd2)]
      else
        none
    else
      bif (qcmp BinOp.eql (qint (qfld sd0 0)) 2) then
        bif (qsome (Proofs.YtiojjmlccehpoaaGreat.q51 [sd1, sd2, pd0, (D.int pn1), (D.str (qstr (qfld sd0 2)))])) then
          bif (qsome (Proofs.YtiojjmlccehpoaaGreat.q50 [pd0, (D.int pn1), (D.list [(D.agg [(D.int (qint (qfld (Fb42_a23 Q pd0 pn1 sd0 sd1 sd2) 0))), (D.int (qint (qfld (Fb42_a23 Q pd0 pn1 sd0 sd1 sd2) 1))), (D.int (qint (qfld (Fb42_a23 Q pd0 pn1 sd0 sd1 sd2) 2))), (D.int (qint (qfld (Fb42_a23 Q pd0 pn1 sd0 sd1 sd2) 3))), (D.int (qint (qfld (Fb42_a23 Q pd0 pn1 sd0 sd1 sd2) 4))), (D.int (qint (qfld (Fb42_a23 Q pd0 pn1 sd0 sd1 sd2) 5))), (D.int (qint (qfld (Fb42_a23 Q pd0 pn1 sd0 sd1 sd2) 6))), (D.int (qint (qfld (Fb42_a23 Q pd0 pn1 sd0 sd1 sd2) 7))), (D.int (qint (qfld (Fb42_a23 Q pd0 pn1 sd0 sd1 sd2) 8)))]), (D.agg [(D.int 0), (D.int 0), (D.int 16), (D.int 0), (D.int 4), (D.int 0), (D.int 0), (D.int 2), (D.int 0)])]), sd1, sd2])) then
            some [(Fb42_a25 Q pd0 pn1 sd0 sd1 sd2), (Fb42_a24 Q pd0 pn1 sd0 sd1 sd2)]
          else
            none
        else
          none
      else
        bif (qinb (qfld sd0 4) 0) then
          bif (qsome (Q [pd0, (D.int pn1), (qget (qfld sd0 4) 0), sd1, sd2])) then
            bif (qcmp BinOp.eql (qint (qfld sd0 0)) 16) then
              bif (qsome (Proofs.YtiojjmlccehpoaaGreat.q50 [pd0, (D.int pn1), (D.list [(D.agg [(D.int 0), (D.int 0), (D.int 15), (D.int 1), (D.int 0), (D.int 0), (D.int 0), (D.int 0), (D.int 0)]), (D.agg [(D.int 0), (D.int 0), (D.int 25), (D.int 0), (D.int 0), (D.int 1), (D.int 0), (D.int 0), (D.int 0)])]), (Fb42_a1 Q pd0 pn1 sd0 sd1 sd2), (Fb42_a0 Q pd0 pn1 sd0 sd1 sd2)])) then
                some [(Fb42_a22 Q pd0 pn1 sd0 sd1 sd2), (Fb42_a21 Q pd0 pn1 sd0 sd1 sd2)]
              else
                none
            else
              bif (qcmp BinOp.eql (qint (qfld sd0 0)) 17) then
                bif (qsome (Proofs.YtiojjmlccehpoaaGreat.q50 [pd0, (D.int pn1), (D.list [(D.agg [(D.int 0), (D.int 0), (D.int 5), (D.int 0), (D.int 0), (D.int 0), (D.int 1), (D.int 0), (D.int 0)]), (D.agg [(D.int 0), (D.int 0), (D.int 5), (D.int 1), (D.int 0), (D.int 0), (D.int 0), (D.int 0), (D.int 0)]), (D.agg [(D.int 0), (D.int 0), (D.int 7), (D.int 0), (D.int 0), (D.int 0), (D.int 0), (D.int 1), (D.int 0)])]), (Fb42_a1 Q pd0 pn1 sd0 sd1 sd2), (Fb42_a0 Q pd0 pn1 sd0 sd1 sd2)])) then
                  some [(Fb42_a20 Q pd0 pn1 sd0 sd1 sd2), (Fb42_a19 Q pd0 pn1 sd0 sd1 sd2)]
                else
                  none
              else
                bif (qcmp BinOp.eql (qint (qfld sd0 0)) 18) then
                  bif (qsome (Proofs.YtiojjmlccehpoaaGreat.q50 [pd0, (D.int pn1), (D.list [(D.agg [(D.int 0), (D.int 0), (D.int 16), (D.int 0), (D.int (qint (qfld sd0 3))), (D.int 0), (D.int 0), (D.int 0), (D.int 0)])]), (Fb42_a1 Q pd0 pn1 sd0 sd1 sd2), (Fb42_a0 Q pd0 pn1 sd0 sd1 sd2)])) then
                    some [(Fb42_a18 Q pd0 pn1 sd0 sd1 sd2), (Fb42_a17 Q pd0 pn1 sd0 sd1 sd2)]
                  else
                    none
                else
                  bif (qcmp BinOp.eql (qint (qfld sd0 0)) 19) then
                    bif (qsome (Proofs.YtiojjmlccehpoaaGreat.q50 [pd0, (D.int pn1), (D.list [(D.agg [(D.int 0), (D.int (qwrap IntKind.u32 (qbin BinOp.sub IntKind.i64 32 (qbin BinOp.mul IntKind.i64 8 (qint (qfld sd0 3)))))), (D.int 12), (D.int 1), (D.int 0), (D.int 0), (D.int 0), (D.int 0), (D.int 0)]), (D.agg [(D.int 0), (D.int (qwrap IntKind.u32 (qbin BinOp.sub IntKind.i64 32 (qbin BinOp.mul IntKind.i64 8 (qint (qfld sd0 3)))))), (D.int 14), (D.int 1), (D.int 0), (D.int 0), (D.int 0), (D.int 0), (D.int 0)])]), (Fb42_a1 Q pd0 pn1 sd0 sd1 sd2), (Fb42_a0 Q pd0 pn1 sd0 sd1 sd2)])) then
                      some [(Fb42_a16 Q pd0 pn1 sd0 sd1 sd2), (Fb42_a15 Q pd0 pn1 sd0 sd1 sd2)]
                    else
                      none
                  else
                    bif (qsome (Proofs.YtiojjmlccehpoaaGreat.q50 [pd0, (D.int pn1), (D.list [(D.agg [(D.int 0), (D.int 0), (D.int 3), (D.int 0), (D.int 0), (D.int 0), (D.int 0), (D.int 0), (D.int 0)])]), (Fb42_a1 Q pd0 pn1 sd0 sd1 sd2), (Fb42_a0 Q pd0 pn1 sd0 sd1 sd2)])) then
                      bif (qinb (qfld sd0 4) 1) then
                        bif (qsome (Q [pd0, (D.int pn1), (qget (qfld sd0 4) 1), (Fb42_a3 Q pd0 pn1 sd0 sd1 sd2), (Fb42_a2 Q pd0 pn1 sd0 sd1 sd2)])) then
                          bif (qsome (Proofs.YtiojjmlccehpoaaGreat.q50 [pd0, (D.int pn1), (D.list [(D.agg [(D.int 0), (D.int 0), (D.int 5), (D.int 0), (D.int 0), (D.int 0), (D.int 1), (D.int 0), (D.int 0)]), (D.agg [(D.int 0), (D.int 0), (D.int 4), (D.int 0), (D.int 0), (D.int 0), (D.int 0), (D.int 0), (D.int 0)])]), (Fb42_a5 Q pd0 pn1 sd0 sd1 sd2), (Fb42_a4 Q pd0 pn1 sd0 sd1 sd2)])) then
                            bif (qsome (Proofs.YtiojjmlccehpoaaGreat.q103 [(D.int (qint (qfld sd0 0)))])) then
                              bif (qbool (Fb42_a14 Q pd0 pn1 sd0 sd1 sd2)) then
                                bif (qsome (Proofs.YtiojjmlccehpoaaGreat.q50 [pd0, (D.int pn1), (D.list [(D.agg [(D.int 0), (D.int 0), (D.int (qint (Fb42_a11 Q pd0 pn1 sd0 sd1 sd2))), (D.int 0), (D.int 0), (D.int 0), (D.int 0), (D.int 1), (D.int 0)])]), (Fb42_a7 Q pd0 pn1 sd0 sd1 sd2), (Fb42_a6 Q pd0 pn1 sd0 sd1 sd2)])) then
                                  some [(Fb42_a13 Q pd0 pn1 sd0 sd1 sd2), (Fb42_a12 Q pd0 pn1 sd0 sd1 sd2)]
                                else
                                  none
                              else
                                bif (qsome (Proofs.YtiojjmlccehpoaaGreat.q104 [(D.int (qint (qfld sd0 0)))])) then
                                  bif (qsome (Proofs.YtiojjmlccehpoaaGreat.q50 [pd0, (D.int pn1), (D.list [(D.agg [(D.int 0), (D.int 0), (D.int 15), (D.int 0), (D.int 0), (D.int 0), (D.int 0), (D.int 1), (D.int 0)]), (D.agg [(D.int 0), (D.int 0), (D.int 25), (D.int 0), (D.int 0), (D.int (qint (Fb42_a8 Q pd0 pn1 sd0 sd1 sd2))), (D.int 0), (D.int 0), (D.int 0)])]), (Fb42_a7 Q pd0 pn1 sd0 sd1 sd2), (Fb42_a6 Q pd0 pn1 sd0 sd1 sd2)])) then
                                    some [(Fb42_a10 Q pd0 pn1 sd0 sd1 sd2), (Fb42_a9 Q pd0 pn1 sd0 sd1 sd2)]
                                  else
                                    none
                                else
                                  none
                            else
                              none
                          else
                            none
                        else
                          none
                      else
                        none
                    else
                      none
          else
            none
        else
          none := by
  have h : Fb42 Q  [pd0, (D.int pn1), sd0, sd1, sd2] =
    bif (qcmp BinOp.eql (qint (qfld sd0 0)) 1) then
      bif (qcmp BinOp.eql (qlen sd2) (qlen sd2)) then
        bif (qcmp BinOp.eql (qlen sd1) (qlen sd1)) then
          bif (qsome (Proofs.YtiojjmlccehpoaaGreat.q50 [pd0, (D.int pn1), (D.list [(D.agg [(D.int 0), (D.int (qint (qfld sd0 1))), (D.int 5), (D.int 2), (D.int 0), (D.int 0), (D.int 0), (D.int 0), (D.int 0)])]), sd1, sd2])) then
            bif (qcmp BinOp.eql (qlen (Fb42_a26 Q pd0 pn1 sd0 sd1 sd2)) (qlen (Fb42_a26 Q pd0 pn1 sd0 sd1 sd2))) then
              bif (qcmp BinOp.eql (qlen (Fb42_a27 Q pd0 pn1 sd0 sd1 sd2)) (qlen (Fb42_a27 Q pd0 pn1 sd0 sd1 sd2))) then
                bif (qeqD pd0 pd0) then
                  bif (qeqD (D.int pn1) (D.int pn1)) then
                    some [(Fb42_a27 Q pd0 pn1 sd0 sd1 sd2), (Fb42_a26 Q pd0 pn1 sd0 sd1 sd2)]
                  else
                    none
                else
                  none
              else
                none
            else
              none
          else
            none
        else
          none
      else
        none
    else
      bif (qcmp BinOp.eql (qint (qfld sd0 0)) 2) then
        bif (qcmp BinOp.eql (qlen sd2) (qlen sd2)) then
          bif (qcmp BinOp.eql (qlen sd1) (qlen sd1)) then
            bif (qsome (Proofs.YtiojjmlccehpoaaGreat.q51 [sd1, sd2, pd0, (D.int pn1), (D.str (qstr (qfld sd0 2)))])) then
              bif (qcmp BinOp.eql (qlen sd2) (qlen sd2)) then
                bif (qcmp BinOp.eql (qlen sd1) (qlen sd1)) then
                  bif (qsome (Proofs.YtiojjmlccehpoaaGreat.q50 [pd0, (D.int pn1), (D.list [(D.agg [(D.int (qint (qfld (Fb42_a23 Q pd0 pn1 sd0 sd1 sd2) 0))), (D.int (qint (qfld (Fb42_a23 Q pd0 pn1 sd0 sd1 sd2) 1))), (D.int (qint (qfld (Fb42_a23 Q pd0 pn1 sd0 sd1 sd2) 2))), (D.int (qint (qfld (Fb42_a23 Q pd0 pn1 sd0 sd1 sd2) 3))), (D.int (qint (qfld (Fb42_a23 Q pd0 pn1 sd0 sd1 sd2) 4))), (D.int (qint (qfld (Fb42_a23 Q pd0 pn1 sd0 sd1 sd2) 5))), (D.int (qint (qfld (Fb42_a23 Q pd0 pn1 sd0 sd1 sd2) 6))), (D.int (qint (qfld (Fb42_a23 Q pd0 pn1 sd0 sd1 sd2) 7))), (D.int (qint (qfld (Fb42_a23 Q pd0 pn1 sd0 sd1 sd2) 8)))]), (D.agg [(D.int 0), (D.int 0), (D.int 16), (D.int 0), (D.int 4), (D.int 0), (D.int 0), (D.int 2), (D.int 0)])]), sd1, sd2])) then
                    bif (qcmp BinOp.eql (qlen (Fb42_a24 Q pd0 pn1 sd0 sd1 sd2)) (qlen (Fb42_a24 Q pd0 pn1 sd0 sd1 sd2))) then
                      bif (qcmp BinOp.eql (qlen (Fb42_a25 Q pd0 pn1 sd0 sd1 sd2)) (qlen (Fb42_a25 Q pd0 pn1 sd0 sd1 sd2))) then
                        bif (qeqD pd0 pd0) then
                          bif (qeqD (D.int pn1) (D.int pn1)) then
                            some [(Fb42_a25 Q pd0 pn1 sd0 sd1 sd2), (Fb42_a24 Q pd0 pn1 sd0 sd1 sd2)]
                          else
                            none
                        else
                          none
                      else
                        none
                    else
                      none
                  else
                    none
                else
                  none
              else
                none
            else
              none
          else
            none
        else
          none
      else
        bif (qinb (qfld sd0 4) 0) then
          bif (qcmp BinOp.eql (qlen sd2) (qlen sd2)) then
            bif (qcmp BinOp.eql (qlen sd1) (qlen sd1)) then
              bif (qsome (Q [pd0, (D.int pn1), (qget (qfld sd0 4) 0), sd1, sd2])) then
                bif (qcmp BinOp.eql (qint (qfld sd0 0)) 16) then
                  bif (qcmp BinOp.eql (qlen (Fb42_a0 Q pd0 pn1 sd0 sd1 sd2)) (qlen (Fb42_a0 Q pd0 pn1 sd0 sd1 sd2))) then
                    bif (qcmp BinOp.eql (qlen (Fb42_a1 Q pd0 pn1 sd0 sd1 sd2)) (qlen (Fb42_a1 Q pd0 pn1 sd0 sd1 sd2))) then
                      bif (qsome (Proofs.YtiojjmlccehpoaaGreat.q50 [pd0, (D.int pn1), (D.list [(D.agg [(D.int 0), (D.int 0), (D.int 15), (D.int 1), (D.int 0), (D.int 0), (D.int 0), (D.int 0), (D.int 0)]), (D.agg [(D.int 0), (D.int 0), (D.int 25), (D.int 0), (D.int 0), (D.int 1), (D.int 0), (D.int 0), (D.int 0)])]), (Fb42_a1 Q pd0 pn1 sd0 sd1 sd2), (Fb42_a0 Q pd0 pn1 sd0 sd1 sd2)])) then
                        bif (qcmp BinOp.eql (qlen (Fb42_a21 Q pd0 pn1 sd0 sd1 sd2)) (qlen (Fb42_a21 Q pd0 pn1 sd0 sd1 sd2))) then
                          bif (qcmp BinOp.eql (qlen (Fb42_a22 Q pd0 pn1 sd0 sd1 sd2)) (qlen (Fb42_a22 Q pd0 pn1 sd0 sd1 sd2))) then
                            bif (qeqD pd0 pd0) then
                              bif (qeqD (D.int pn1) (D.int pn1)) then
                                some [(Fb42_a22 Q pd0 pn1 sd0 sd1 sd2), (Fb42_a21 Q pd0 pn1 sd0 sd1 sd2)]
                              else
                                none
                            else
                              none
                          else
                            none
                        else
                          none
                      else
                        none
                    else
                      none
                  else
                    none
                else
                  bif (qcmp BinOp.eql (qint (qfld sd0 0)) 17) then
                    bif (qcmp BinOp.eql (qlen (Fb42_a0 Q pd0 pn1 sd0 sd1 sd2)) (qlen (Fb42_a0 Q pd0 pn1 sd0 sd1 sd2))) then
                      bif (qcmp BinOp.eql (qlen (Fb42_a1 Q pd0 pn1 sd0 sd1 sd2)) (qlen (Fb42_a1 Q pd0 pn1 sd0 sd1 sd2))) then
                        bif (qsome (Proofs.YtiojjmlccehpoaaGreat.q50 [pd0, (D.int pn1), (D.list [(D.agg [(D.int 0), (D.int 0), (D.int 5), (D.int 0), (D.int 0), (D.int 0), (D.int 1), (D.int 0), (D.int 0)]), (D.agg [(D.int 0), (D.int 0), (D.int 5), (D.int 1), (D.int 0), (D.int 0), (D.int 0), (D.int 0), (D.int 0)]), (D.agg [(D.int 0), (D.int 0), (D.int 7), (D.int 0), (D.int 0), (D.int 0), (D.int 0), (D.int 1), (D.int 0)])]), (Fb42_a1 Q pd0 pn1 sd0 sd1 sd2), (Fb42_a0 Q pd0 pn1 sd0 sd1 sd2)])) then
                          bif (qcmp BinOp.eql (qlen (Fb42_a19 Q pd0 pn1 sd0 sd1 sd2)) (qlen (Fb42_a19 Q pd0 pn1 sd0 sd1 sd2))) then
                            bif (qcmp BinOp.eql (qlen (Fb42_a20 Q pd0 pn1 sd0 sd1 sd2)) (qlen (Fb42_a20 Q pd0 pn1 sd0 sd1 sd2))) then
                              bif (qeqD pd0 pd0) then
                                bif (qeqD (D.int pn1) (D.int pn1)) then
                                  some [(Fb42_a20 Q pd0 pn1 sd0 sd1 sd2), (Fb42_a19 Q pd0 pn1 sd0 sd1 sd2)]
                                else
                                  none
                              else
                                none
                            else
                              none
                          else
                            none
                        else
                          none
                      else
                        none
                    else
                      none
                  else
                    bif (qcmp BinOp.eql (qint (qfld sd0 0)) 18) then
                      bif (qcmp BinOp.eql (qlen (Fb42_a0 Q pd0 pn1 sd0 sd1 sd2)) (qlen (Fb42_a0 Q pd0 pn1 sd0 sd1 sd2))) then
                        bif (qcmp BinOp.eql (qlen (Fb42_a1 Q pd0 pn1 sd0 sd1 sd2)) (qlen (Fb42_a1 Q pd0 pn1 sd0 sd1 sd2))) then
                          bif (qsome (Proofs.YtiojjmlccehpoaaGreat.q50 [pd0, (D.int pn1), (D.list [(D.agg [(D.int 0), (D.int 0), (D.int 16), (D.int 0), (D.int (qint (qfld sd0 3))), (D.int 0), (D.int 0), (D.int 0), (D.int 0)])]), (Fb42_a1 Q pd0 pn1 sd0 sd1 sd2), (Fb42_a0 Q pd0 pn1 sd0 sd1 sd2)])) then
                            bif (qcmp BinOp.eql (qlen (Fb42_a17 Q pd0 pn1 sd0 sd1 sd2)) (qlen (Fb42_a17 Q pd0 pn1 sd0 sd1 sd2))) then
                              bif (qcmp BinOp.eql (qlen (Fb42_a18 Q pd0 pn1 sd0 sd1 sd2)) (qlen (Fb42_a18 Q pd0 pn1 sd0 sd1 sd2))) then
                                bif (qeqD pd0 pd0) then
                                  bif (qeqD (D.int pn1) (D.int pn1)) then
                                    some [(Fb42_a18 Q pd0 pn1 sd0 sd1 sd2), (Fb42_a17 Q pd0 pn1 sd0 sd1 sd2)]
                                  else
                                    none
                                else
                                  none
                              else
                                none
                            else
                              none
                          else
                            none
                        else
                          none
                      else
                        none
                    else
                      bif (qcmp BinOp.eql (qint (qfld sd0 0)) 19) then
                        bif (qcmp BinOp.eql (qlen (Fb42_a0 Q pd0 pn1 sd0 sd1 sd2)) (qlen (Fb42_a0 Q pd0 pn1 sd0 sd1 sd2))) then
                          bif (qcmp BinOp.eql (qlen (Fb42_a1 Q pd0 pn1 sd0 sd1 sd2)) (qlen (Fb42_a1 Q pd0 pn1 sd0 sd1 sd2))) then
                            bif (qsome (Proofs.YtiojjmlccehpoaaGreat.q50 [pd0, (D.int pn1), (D.list [(D.agg [(D.int 0), (D.int (qwrap IntKind.u32 (qbin BinOp.sub IntKind.i64 32 (qbin BinOp.mul IntKind.i64 8 (qint (qfld sd0 3)))))), (D.int 12), (D.int 1), (D.int 0), (D.int 0), (D.int 0), (D.int 0), (D.int 0)]), (D.agg [(D.int 0), (D.int (qwrap IntKind.u32 (qbin BinOp.sub IntKind.i64 32 (qbin BinOp.mul IntKind.i64 8 (qint (qfld sd0 3)))))), (D.int 14), (D.int 1), (D.int 0), (D.int 0), (D.int 0), (D.int 0), (D.int 0)])]), (Fb42_a1 Q pd0 pn1 sd0 sd1 sd2), (Fb42_a0 Q pd0 pn1 sd0 sd1 sd2)])) then
                              bif (qcmp BinOp.eql (qlen (Fb42_a15 Q pd0 pn1 sd0 sd1 sd2)) (qlen (Fb42_a15 Q pd0 pn1 sd0 sd1 sd2))) then
                                bif (qcmp BinOp.eql (qlen (Fb42_a16 Q pd0 pn1 sd0 sd1 sd2)) (qlen (Fb42_a16 Q pd0 pn1 sd0 sd1 sd2))) then
                                  bif (qeqD pd0 pd0) then
                                    bif (qeqD (D.int pn1) (D.int pn1)) then
                                      some [(Fb42_a16 Q pd0 pn1 sd0 sd1 sd2), (Fb42_a15 Q pd0 pn1 sd0 sd1 sd2)]
                                    else
                                      none
                                  else
                                    none
                                else
                                  none
                              else
                                none
                            else
                              none
                          else
                            none
                        else
                          none
                      else
                        bif (qcmp BinOp.eql (qlen (Fb42_a0 Q pd0 pn1 sd0 sd1 sd2)) (qlen (Fb42_a0 Q pd0 pn1 sd0 sd1 sd2))) then
                          bif (qcmp BinOp.eql (qlen (Fb42_a1 Q pd0 pn1 sd0 sd1 sd2)) (qlen (Fb42_a1 Q pd0 pn1 sd0 sd1 sd2))) then
                            bif (qsome (Proofs.YtiojjmlccehpoaaGreat.q50 [pd0, (D.int pn1), (D.list [(D.agg [(D.int 0), (D.int 0), (D.int 3), (D.int 0), (D.int 0), (D.int 0), (D.int 0), (D.int 0), (D.int 0)])]), (Fb42_a1 Q pd0 pn1 sd0 sd1 sd2), (Fb42_a0 Q pd0 pn1 sd0 sd1 sd2)])) then
                              bif (qinb (qfld sd0 4) 1) then
                                bif (qcmp BinOp.eql (qlen (Fb42_a2 Q pd0 pn1 sd0 sd1 sd2)) (qlen (Fb42_a2 Q pd0 pn1 sd0 sd1 sd2))) then
                                  bif (qcmp BinOp.eql (qlen (Fb42_a3 Q pd0 pn1 sd0 sd1 sd2)) (qlen (Fb42_a3 Q pd0 pn1 sd0 sd1 sd2))) then
                                    bif (qsome (Q [pd0, (D.int pn1), (qget (qfld sd0 4) 1), (Fb42_a3 Q pd0 pn1 sd0 sd1 sd2), (Fb42_a2 Q pd0 pn1 sd0 sd1 sd2)])) then
                                      bif (qcmp BinOp.eql (qlen (Fb42_a4 Q pd0 pn1 sd0 sd1 sd2)) (qlen (Fb42_a4 Q pd0 pn1 sd0 sd1 sd2))) then
                                        bif (qcmp BinOp.eql (qlen (Fb42_a5 Q pd0 pn1 sd0 sd1 sd2)) (qlen (Fb42_a5 Q pd0 pn1 sd0 sd1 sd2))) then
                                          bif (qsome (Proofs.YtiojjmlccehpoaaGreat.q50 [pd0, (D.int pn1), (D.list [(D.agg [(D.int 0), (D.int 0), (D.int 5), (D.int 0), (D.int 0), (D.int 0), (D.int 1), (D.int 0), (D.int 0)]), (D.agg [(D.int 0), (D.int 0), (D.int 4), (D.int 0), (D.int 0), (D.int 0), (D.int 0), (D.int 0), (D.int 0)])]), (Fb42_a5 Q pd0 pn1 sd0 sd1 sd2), (Fb42_a4 Q pd0 pn1 sd0 sd1 sd2)])) then
                                            bif (qsome (Proofs.YtiojjmlccehpoaaGreat.q103 [(D.int (qint (qfld sd0 0)))])) then
                                              bif (qbool (Fb42_a14 Q pd0 pn1 sd0 sd1 sd2)) then
                                                bif (qcmp BinOp.eql (qlen (Fb42_a6 Q pd0 pn1 sd0 sd1 sd2)) (qlen (Fb42_a6 Q pd0 pn1 sd0 sd1 sd2))) then
                                                  bif (qcmp BinOp.eql (qlen (Fb42_a7 Q pd0 pn1 sd0 sd1 sd2)) (qlen (Fb42_a7 Q pd0 pn1 sd0 sd1 sd2))) then
                                                    bif (qsome (Proofs.YtiojjmlccehpoaaGreat.q50 [pd0, (D.int pn1), (D.list [(D.agg [(D.int 0), (D.int 0), (D.int (qint (Fb42_a11 Q pd0 pn1 sd0 sd1 sd2))), (D.int 0), (D.int 0), (D.int 0), (D.int 0), (D.int 1), (D.int 0)])]), (Fb42_a7 Q pd0 pn1 sd0 sd1 sd2), (Fb42_a6 Q pd0 pn1 sd0 sd1 sd2)])) then
                                                      bif (qcmp BinOp.eql (qlen (Fb42_a12 Q pd0 pn1 sd0 sd1 sd2)) (qlen (Fb42_a12 Q pd0 pn1 sd0 sd1 sd2))) then
                                                        bif (qcmp BinOp.eql (qlen (Fb42_a13 Q pd0 pn1 sd0 sd1 sd2)) (qlen (Fb42_a13 Q pd0 pn1 sd0 sd1 sd2))) then
                                                          bif (qeqD pd0 pd0) then
                                                            bif (qeqD (D.int pn1) (D.int pn1)) then
                                                              some [(Fb42_a13 Q pd0 pn1 sd0 sd1 sd2), (Fb42_a12 Q pd0 pn1 sd0 sd1 sd2)]
                                                            else
                                                              none
                                                          else
                                                            none
                                                        else
                                                          none
                                                      else
                                                        none
                                                    else
                                                      none
                                                  else
                                                    none
                                                else
                                                  none
                                              else
                                                bif (qsome (Proofs.YtiojjmlccehpoaaGreat.q104 [(D.int (qint (qfld sd0 0)))])) then
                                                  bif (qcmp BinOp.eql (qlen (Fb42_a6 Q pd0 pn1 sd0 sd1 sd2)) (qlen (Fb42_a6 Q pd0 pn1 sd0 sd1 sd2))) then
                                                    bif (qcmp BinOp.eql (qlen (Fb42_a7 Q pd0 pn1 sd0 sd1 sd2)) (qlen (Fb42_a7 Q pd0 pn1 sd0 sd1 sd2))) then
                                                      bif (qsome (Proofs.YtiojjmlccehpoaaGreat.q50 [pd0, (D.int pn1), (D.list [(D.agg [(D.int 0), (D.int 0), (D.int 15), (D.int 0), (D.int 0), (D.int 0), (D.int 0), (D.int 1), (D.int 0)]), (D.agg [(D.int 0), (D.int 0), (D.int 25), (D.int 0), (D.int 0), (D.int (qint (Fb42_a8 Q pd0 pn1 sd0 sd1 sd2))), (D.int 0), (D.int 0), (D.int 0)])]), (Fb42_a7 Q pd0 pn1 sd0 sd1 sd2), (Fb42_a6 Q pd0 pn1 sd0 sd1 sd2)])) then
                                                        bif (qcmp BinOp.eql (qlen (Fb42_a9 Q pd0 pn1 sd0 sd1 sd2)) (qlen (Fb42_a9 Q pd0 pn1 sd0 sd1 sd2))) then
                                                          bif (qcmp BinOp.eql (qlen (Fb42_a10 Q pd0 pn1 sd0 sd1 sd2)) (qlen (Fb42_a10 Q pd0 pn1 sd0 sd1 sd2))) then
                                                            bif (qeqD pd0 pd0) then
                                                              bif (qeqD (D.int pn1) (D.int pn1)) then
                                                                some [(Fb42_a10 Q pd0 pn1 sd0 sd1 sd2), (Fb42_a9 Q pd0 pn1 sd0 sd1 sd2)]
                                                              else
                                                                none
                                                            else
                                                              none
                                                          else
                                                            none
                                                        else
                                                          none
                                                      else
                                                        none
                                                    else
                                                      none
                                                  else
                                                    none
                                                else
                                                  none
                                            else
                                              none
                                          else
                                            none
                                        else
                                          none
                                      else
                                        none
                                    else
                                      none
                                  else
                                    none
                                else
                                  none
                              else
                                none
                            else
                              none
                          else
                            none
                        else
                          none
              else
                none
            else
              none
          else
            none
        else
          none := by kernel_rfl
  rw [h]; simp only [qeqD_self, qeqI_self, qeq_len, show qcmp BinOp.eql 0 (qlen (D.list [])) = true from qeq_len [], show ∀ a, qcmp BinOp.eql 1 (qlen (D.list [a])) = true from fun a => qeq_len [a], show ∀ a b, qcmp BinOp.eql 2 (qlen (D.list [a, b])) = true from fun a b => qeq_len [a, b], cond_true]

noncomputable def F42 : Nat → List D → Option (List D) := levels Fb42

theorem F42_0 (ds : List D) : F42 0 ds = none := rfl

theorem F42_s (n : Nat) : F42 (n + 1) = Fb42 (F42 n) := rfl

noncomputable def q42 : List D → Option (List D) := veil fun ds => F42 (fuelL ds) ds

theorem q42_eq : q42 = fun ds => F42 (fuelL ds) ds := veil_eq _

theorem sound42 : SoundF env.P 42 S42 q42 := recF (fun q => tbR42 q) (fun q hq => ok_tbR42 q hq) q42_eq

noncomputable def tb42 : Tb := Tb.addF tb104 42 S42 q42

theorem ok_tb42 : TbOk env tb42 := TbOk.addF ok_tb104 (by kernel_rfl) sound42

end Go.Proofs.YtiojjmlccehpoaaGreat

open Go Go.AM
namespace Go.Proofs.YtiojjmlccehpoaaGreat
set_option maxRecDepth 100000
set_option linter.unusedSimpArgs false
set_option linter.unusedVariables false
/- function 64  -/

def S64 : FunS := ⟨[⟨true, (.ptr 0 0)⟩, ⟨true, (.dat 46)⟩], [(.lst true 3), (.lst true 46), (.cells [⟨false, (.osl 1 46)⟩, ⟨false, (.osl 2 3)⟩, ⟨false, .any⟩, ⟨false, .any⟩, ⟨false, (.rows 9)⟩, ⟨false, .any⟩, ⟨false, (.int .u32)⟩, ⟨false, .any⟩])], [⟨true, (.tup [])⟩], [(.lst true 3), (.lst true 46), .skip, .skip, (.cells [⟨true, (.osl 3 46)⟩, ⟨true, (.osl 4 3)⟩, ⟨true, .any⟩, ⟨true, .any⟩, ⟨false, (.rows 9)⟩, ⟨true, .any⟩, ⟨false, (.int .u32)⟩, ⟨true, .any⟩])]⟩

noncomputable def F64 : List D → Option (List D) := liftX env tb42 60 6 64 S64

theorem F64_eq (pd0 : D) (pn1 : Int) (sd0 : D) (sd1 : D) (sd2 : D) : F64  [pd0, (D.int pn1), sd0, sd1, sd2] =
    bif (qmem (qlen (qapp sd2 (D.list [(D.agg [(D.int (qint (qfld sd0 0))), (D.int (qint (qfld sd0 1))), (D.int (qint (qfld sd0 2))), (D.int (qint (qfld sd0 3))), (D.int (qint (qfld sd0 4))), (D.int (qint (qfld sd0 5))), (D.int (qint (qfld sd0 6))), (D.int (qint (qfld sd0 7))), (D.int (qint (qfld sd0 8)))])]))) 64) then
      bif (qmem (qlen (qapp sd1 (D.list [(D.int (-1))]))) 8) then
        some [(qapp sd1 (D.list [(D.int (-1))])), (qapp sd2 (D.list [(D.agg [(D.int (qint (qfld sd0 0))), (D.int (qint (qfld sd0 1))), (D.int (qint (qfld sd0 2))), (D.int (qint (qfld sd0 3))), (D.int (qint (qfld sd0 4))), (D.int (qint (qfld sd0 5))), (D.int (qint (qfld sd0 6))), (D.int (qint (qfld sd0 7))), (D.int (qint (qfld sd0 8)))])]))]
      else
        none
    else
      none := by
  have h : F64  [pd0, (D.int pn1), sd0, sd1, sd2] =
    bif (qcmp BinOp.eql (qlen sd2) (qlen sd2)) then
      bif (qmem (qlen (qapp sd2 (D.list [(D.agg [(D.int (qint (qfld sd0 0))), (D.int (qint (qfld sd0 1))), (D.int (qint (qfld sd0 2))), (D.int (qint (qfld sd0 3))), (D.int (qint (qfld sd0 4))), (D.int (qint (qfld sd0 5))), (D.int (qint (qfld sd0 6))), (D.int (qint (qfld sd0 7))), (D.int (qint (qfld sd0 8)))])]))) 64) then
        bif (qcmp BinOp.eql (qlen sd1) (qlen sd1)) then
          bif (qmem (qlen (qapp sd1 (D.list [(D.int (-1))]))) 8) then
            bif (qcmp BinOp.eql (qlen (qapp sd2 (D.list [(D.agg [(D.int (qint (qfld sd0 0))), (D.int (qint (qfld sd0 1))), (D.int (qint (qfld sd0 2))), (D.int (qint (qfld sd0 3))), (D.int (qint (qfld sd0 4))), (D.int (qint (qfld sd0 5))), (D.int (qint (qfld sd0 6))), (D.int (qint (qfld sd0 7))), (D.int (qint (qfld sd0 8)))])]))) (qlen (qapp sd2 (D.list [(D.agg [(D.int (qint (qfld sd0 0))), (D.int (qint (qfld sd0 1))), (D.int (qint (qfld sd0 2))), (D.int (qint (qfld sd0 3))), (D.int (qint (qfld sd0 4))), (D.int (qint (qfld sd0 5))), (D.int (qint (qfld sd0 6))), (D.int (qint (qfld sd0 7))), (D.int (qint (qfld sd0 8)))])])))) then
              bif (qcmp BinOp.eql (qlen (qapp sd1 (D.list [(D.int (-1))]))) (qlen (qapp sd1 (D.list [(D.int (-1))])))) then
                bif (qeqD pd0 pd0) then
                  bif (qeqD (D.int pn1) (D.int pn1)) then
                    some [(qapp sd1 (D.list [(D.int (-1))])), (qapp sd2 (D.list [(D.agg [(D.int (qint (qfld sd0 0))), (D.int (qint (qfld sd0 1))), (D.int (qint (qfld sd0 2))), (D.int (qint (qfld sd0 3))), (D.int (qint (qfld sd0 4))), (D.int (qint (qfld sd0 5))), (D.int (qint (qfld sd0 6))), (D.int (qint (qfld sd0 7))), (D.int (qint (qfld sd0 8)))])]))]
                  else
                    none
                else
                  none
              else
                none
            else
              none
          else
            none
        else
          none
      else
        none
    else
      none := by kernel_rfl
  rw [h]; simp only [qeqD_self, qeqI_self, qeq_len, show qcmp BinOp.eql 0 (qlen (D.list [])) = true from qeq_len [], show ∀ a, qcmp BinOp.eql 1 (qlen (D.list [a])) = true from fun a => qeq_len [a], show ∀ a b, qcmp BinOp.eql 2 (qlen (D.list [a, b])) = true from fun a b => qeq_len [a, b], cond_true]

noncomputable def q64 : List D → Option (List D) := veil (F64 )

theorem q64_eq : q64  = F64  := veil_eq _

noncomputable def tb64 : Tb := Tb.addF tb42 64 S64 (q64 )

theorem ok_tb64 : TbOk env (tb64 ) := addFunF ok_tb42 64 (by kernel_rfl) _ (q64_eq )

/- function 63  -/

def S63 : FunS := ⟨[⟨true, (.ptr 0 0)⟩, ⟨true, .str⟩], [(.lst true 3), (.lst true 46), (.cells [⟨false, (.osl 1 46)⟩, ⟨false, (.osl 2 3)⟩, ⟨false, .any⟩, ⟨false, .any⟩, ⟨false, (.rows 9)⟩, ⟨false, .any⟩, ⟨false, (.int .u32)⟩, ⟨false, .any⟩])], [⟨true, (.tup [])⟩], [(.lst true 3), (.lst true 46), .skip, .skip, (.cells [⟨true, (.osl 3 46)⟩, ⟨true, (.osl 4 3)⟩, ⟨true, .any⟩, ⟨true, .any⟩, ⟨false, (.rows 9)⟩, ⟨true, .any⟩, ⟨false, (.int .u32)⟩, ⟨true, .any⟩])]⟩

noncomputable def F63 : List D → Option (List D) := liftX env tb64 60 6 63 S63

theorem F63_eq (pd0 : D) (pn1 : Int) (ss0 : ByteArray) (sd1 : D) (sd2 : D) : F63  [pd0, (D.int pn1), (D.str ss0), sd1, sd2] =
    bif (qsome (Proofs.YtiojjmlccehpoaaGreat.q122 [pd0, (D.str ss0)])) then
      bif (qsome (Proofs.YtiojjmlccehpoaaGreat.q64 [pd0, (D.int pn1), (D.agg [(D.int 0), (D.int (qbin BinOp.add IntKind.u32 pn1 (qbin BinOp.mul IntKind.u32 4 (qwrap IntKind.u32 (qint (qnth (Proofs.YtiojjmlccehpoaaGreat.q122 [pd0, (D.str ss0)]) 0)))))), (D.int 5), (D.int 2), (D.int 0), (D.int 0), (D.int 2), (D.int 0), (D.int 0)]), sd1, sd2])) then
        some [(qnth (Proofs.YtiojjmlccehpoaaGreat.q64 [pd0, (D.int pn1), (D.agg [(D.int 0), (D.int (qbin BinOp.add IntKind.u32 pn1 (qbin BinOp.mul IntKind.u32 4 (qwrap IntKind.u32 (qint (qnth (Proofs.YtiojjmlccehpoaaGreat.q122 [pd0, (D.str ss0)]) 0)))))), (D.int 5), (D.int 2), (D.int 0), (D.int 0), (D.int 2), (D.int 0), (D.int 0)]), sd1, sd2]) 0), (qnth (Proofs.YtiojjmlccehpoaaGreat.q64 [pd0, (D.int pn1), (D.agg [(D.int 0), (D.int (qbin BinOp.add IntKind.u32 pn1 (qbin BinOp.mul IntKind.u32 4 (qwrap IntKind.u32 (qint (qnth (Proofs.YtiojjmlccehpoaaGreat.q122 [pd0, (D.str ss0)]) 0)))))), (D.int 5), (D.int 2), (D.int 0), (D.int 0), (D.int 2), (D.int 0), (D.int 0)]), sd1, sd2]) 1)]
      else
        none
    else
      none := by
  have h : F63  [pd0, (D.int pn1), (D.str ss0), sd1, sd2] =
    bif (qsome (Proofs.YtiojjmlccehpoaaGreat.q122 [pd0, (D.str ss0)])) then
      bif (qcmp BinOp.eql (qlen sd2) (qlen sd2)) then
        bif (qcmp BinOp.eql (qlen sd1) (qlen sd1)) then
          bif (qsome (Proofs.YtiojjmlccehpoaaGreat.q64 [pd0, (D.int pn1), (D.agg [(D.int 0), (D.int (qbin BinOp.add IntKind.u32 pn1 (qbin BinOp.mul IntKind.u32 4 (qwrap IntKind.u32 (qint (qnth (Proofs.YtiojjmlccehpoaaGreat.q122 [pd0, (D.str ss0)]) 0)))))), (D.int 5), (D.int 2), (D.int 0), (D.int 0), (D.int 2), (D.int 0), (D.int 0)]), sd1, sd2])) then
            bif (qcmp BinOp.eql (qlen (qnth (Proofs.YtiojjmlccehpoaaGreat.q64 [pd0, (D.int pn1), (D.agg [(D.int 0), (D.int (qbin BinOp.add IntKind.u32 pn1 (qbin BinOp.mul IntKind.u32 4 (qwrap IntKind.u32 (qint (qnth (Proofs.YtiojjmlccehpoaaGreat.q122 [pd0, (D.str ss0)]) 0)))))), (D.int 5), (D.int 2), (D.int 0), (D.int 0), (D.int 2), (D.int 0), (D.int 0)]), sd1, sd2]) 1)) (qlen (qnth (Proofs.YtiojjmlccehpoaaGreat.q64 [pd0, (D.int pn1), (D.agg [(D.int 0), (D.int (qbin BinOp.add IntKind.u32 pn1 (qbin BinOp.mul IntKind.u32 4 (qwrap IntKind.u32 (qint (qnth (Proofs.YtiojjmlccehpoaaGreat.q122 [pd0, (D.str ss0)]) 0)))))), (D.int 5), (D.int 2), (D.int 0), (D.int 0), (D.int 2), (D.int 0), (D.int 0)]), sd1, sd2]) 1))) then
              bif (qcmp BinOp.eql (qlen (qnth (Proofs.YtiojjmlccehpoaaGreat.q64 [pd0, (D.int pn1), (D.agg [(D.int 0), (D.int (qbin BinOp.add IntKind.u32 pn1 (qbin BinOp.mul IntKind.u32 4 (qwrap IntKind.u32 (qint (qnth (Proofs.YtiojjmlccehpoaaGreat.q122 [pd0, (D.str ss0)]) 0)))))), (D.int 5), (D.int 2), (D.int 0), (D.int 0), (D.int 2), (D.int 0), (D.int 0)]), sd1, sd2]) 0)) (qlen (qnth (Proofs.YtiojjmlccehpoaaGreat.q64 [pd0, (D.int pn1), (D.agg [(D.int 0), (D.int (qbin BinOp.add IntKind.u32 pn1 (qbin BinOp.mul IntKind.u32 4 (qwrap IntKind.u32 (qint (qnth (Proofs.YtiojjmlccehpoaaGreat.q122 [pd0, (D.str ss0)]) 0)))))), (D.int 5), (D.int 2), (D.int 0), (D.int 0), (D.int 2), (D.int 0), (D.int 0)]), sd1, sd2]) 0))) then
                bif (qeqD pd0 pd0) then
                  bif (qeqD (D.int pn1) (D.int pn1)) then
                    some [(qnth (Proofs.YtiojjmlccehpoaaGreat.q64 [pd0, (D.int pn1), (D.agg [(D.int 0), (D.int (qbin BinOp.add IntKind.u32 pn1 (qbin BinOp.mul IntKind.u32 4 (qwrap IntKind.u32 (qint (qnth (Proofs.YtiojjmlccehpoaaGreat.q122 [pd0, (D.str ss0)]) 0)))))), (D.int 5), (D.int 2), (D.int 0), (D.int 0), (D.int 2), (D.int 0), (D.int 0)]), sd1, sd2]) 0), (qnth (Proofs.YtiojjmlccehpoaaGreat.q64 [pd0, (D.int pn1), (D.agg [(D.int 0), (D.int (qbin BinOp.add IntKind.u32 pn1 (qbin BinOp.mul IntKind.u32 4 (qwrap IntKind.u32 (qint (qnth (Proofs.YtiojjmlccehpoaaGreat.q122 [pd0, (D.str ss0)]) 0)))))), (D.int 5), (D.int 2), (D.int 0), (D.int 0), (D.int 2), (D.int 0), (D.int 0)]), sd1, sd2]) 1)]
                  else
                    none
                else
                  none
              else
                none
            else
              none
          else
            none
        else
          none
      else
        none
    else
      none := by kernel_rfl
  rw [h]; simp only [qeqD_self, qeqI_self, qeq_len, show qcmp BinOp.eql 0 (qlen (D.list [])) = true from qeq_len [], show ∀ a, qcmp BinOp.eql 1 (qlen (D.list [a])) = true from fun a => qeq_len [a], show ∀ a b, qcmp BinOp.eql 2 (qlen (D.list [a, b])) = true from fun a b => qeq_len [a, b], cond_true]

noncomputable def q63 : List D → Option (List D) := veil (F63 )

theorem q63_eq : q63  = F63  := veil_eq _

noncomputable def tb63 : Tb := Tb.addF tb64 63 S63 (q63 )

theorem ok_tb63 : TbOk env (tb63 ) := addFunF ok_tb64 63 (by kernel_rfl) _ (q63_eq )

/- function 108 , by cases -/

def S108 : FunS := ⟨[⟨true, (.ptr 0 0)⟩, ⟨true, (.int .i64)⟩], [(.lst true 3), (.lst true 46), (.cells [⟨false, (.osl 1 46)⟩, ⟨false, (.osl 2 3)⟩, ⟨false, .any⟩, ⟨false, .any⟩, ⟨false, (.rows 9)⟩, ⟨false, .any⟩, ⟨false, (.int .u32)⟩, ⟨false, .any⟩])], [⟨true, (.tup [])⟩], [(.lst true 3), (.lst true 46), .skip, .skip, (.cells [⟨true, (.osl 3 46)⟩, ⟨true, (.osl 4 3)⟩, ⟨true, .any⟩, ⟨true, .any⟩, ⟨false, (.rows 9)⟩, ⟨true, .any⟩, ⟨false, (.int .u32)⟩, ⟨true, .any⟩])]⟩

theorem K108_0 (pd0 : D) (pn1 : Int) (sn0 : Int) (sd1 : D) (sd2 : D) : runI tb63 108 S108 1 0 [pd0, (D.int pn1)] [(D.int sn0), sd1, sd2] =
    none := by kernel_rfl

theorem K108_1 (pd0 : D) (pn1 : Int) (sn0 : Int) (sd1 : D) (sd2 : D) : runI tb63 108 S108 1 1 [pd0, (D.int pn1)] [(D.int sn0), sd1, sd2] =
    none := by kernel_rfl

theorem K108_2 (pd0 : D) (pn1 : Int) (sn0 : Int) (sd1 : D) (sd2 : D) : runI tb63 108 S108 1 2 [pd0, (D.int pn1)] [(D.int sn0), sd1, sd2] =
    none := by kernel_rfl

theorem K108_3 (pd0 : D) (pn1 : Int) (sn0 : Int) (sd1 : D) (sd2 : D) : runI tb63 108 S108 1 3 [pd0, (D.int pn1)] [(D.int sn0), sd1, sd2] =
    bif (qsome (Proofs.YtiojjmlccehpoaaGreat.q64 [pd0, (D.int pn1), (D.agg [(D.int 0), (D.int 0), (D.int 6), (D.int 0), (D.int 0), (D.int 0), (D.int 0), (D.int 1), (D.int 0)]), sd1, sd2])) then
      some [(qnth (Proofs.YtiojjmlccehpoaaGreat.q64 [pd0, (D.int pn1), (D.agg [(D.int 0), (D.int 0), (D.int 6), (D.int 0), (D.int 0), (D.int 0), (D.int 0), (D.int 1), (D.int 0)]), sd1, sd2]) 0), (qnth (Proofs.YtiojjmlccehpoaaGreat.q64 [pd0, (D.int pn1), (D.agg [(D.int 0), (D.int 0), (D.int 6), (D.int 0), (D.int 0), (D.int 0), (D.int 0), (D.int 1), (D.int 0)]), sd1, sd2]) 1)]
    else
      none := by
  have h : runI tb63 108 S108 1 3 [pd0, (D.int pn1)] [(D.int sn0), sd1, sd2] =
    bif (qcmp BinOp.eql (qlen sd2) (qlen sd2)) then
      bif (qcmp BinOp.eql (qlen sd1) (qlen sd1)) then
        bif (qsome (Proofs.YtiojjmlccehpoaaGreat.q64 [pd0, (D.int pn1), (D.agg [(D.int 0), (D.int 0), (D.int 6), (D.int 0), (D.int 0), (D.int 0), (D.int 0), (D.int 1), (D.int 0)]), sd1, sd2])) then
          bif (qcmp BinOp.eql (qlen (qnth (Proofs.YtiojjmlccehpoaaGreat.q64 [pd0, (D.int pn1), (D.agg [(D.int 0), (D.int 0), (D.int 6), (D.int 0), (D.int 0), (D.int 0), (D.int 0), (D.int 1), (D.int 0)]), sd1, sd2]) 1)) (qlen (qnth (Proofs.YtiojjmlccehpoaaGreat.q64 [pd0, (D.int pn1), (D.agg [(D.int 0), (D.int 0), (D.int 6), (D.int 0), (D.int 0), (D.int 0), (D.int 0), (D.int 1), (D.int 0)]), sd1, sd2]) 1))) then
            bif (qcmp BinOp.eql (qlen (qnth (Proofs.YtiojjmlccehpoaaGreat.q64 [pd0, (D.int pn1), (D.agg [(D.int 0), (D.int 0), (D.int 6), (D.int 0), (D.int 0), (D.int 0), (D.int 0), (D.int 1), (D.int 0)]), sd1, sd2]) 0)) (qlen (qnth (Proofs.YtiojjmlccehpoaaGreat.q64 [pd0, (D.int pn1), (D.agg [(D.int 0), (D.int 0), (D.int 6), (D.int 0), (D.int 0), (D.int 0), (D.int 0), (D.int 1), (D.int 0)]), sd1, sd2]) 0))) then
              bif (qeqD pd0 pd0) then
                bif (qeqD (D.int pn1) (D.int pn1)) then
                  some [(qnth (Proofs.YtiojjmlccehpoaaGreat.q64 [pd0, (D.int pn1), (D.agg [(D.int 0), (D.int 0), (D.int 6), (D.int 0), (D.int 0), (D.int 0), (D.int 0), (D.int 1), (D.int 0)]), sd1, sd2]) 0), (qnth (Proofs.YtiojjmlccehpoaaGreat.q64 [pd0, (D.int pn1), (D.agg [(D.int 0), (D.int 0), (D.int 6), (D.int 0), (D.int 0), (D.int 0), (D.int 0), (D.int 1), (D.int 0)]), sd1, sd2]) 1)]
                else
                  none
              else
                none
            else
              none
          else
            none
        else
          none
      else
        none
    else
      none := by kernel_rfl
  rw [h]; simp only [qeqD_self, qeqI_self, qeq_len, show qcmp BinOp.eql 0 (qlen (D.list [])) = true from qeq_len [], show ∀ a, qcmp BinOp.eql 1 (qlen (D.list [a])) = true from fun a => qeq_len [a], show ∀ a b, qcmp BinOp.eql 2 (qlen (D.list [a, b])) = true from fun a b => qeq_len [a, b], cond_true]

theorem K108_4 (pd0 : D) (pn1 : Int) (sn0 : Int) (sd1 : D) (sd2 : D) : runI tb63 108 S108 1 4 [pd0, (D.int pn1)] [(D.int sn0), sd1, sd2] =
    bif (qsome (Proofs.YtiojjmlccehpoaaGreat.q64 [pd0, (D.int pn1), (D.agg [(D.int 0), (D.int 0), (D.int 7), (D.int 0), (D.int 0), (D.int 0), (D.int 0), (D.int 1), (D.int 0)]), sd1, sd2])) then
      some [(qnth (Proofs.YtiojjmlccehpoaaGreat.q64 [pd0, (D.int pn1), (D.agg [(D.int 0), (D.int 0), (D.int 7), (D.int 0), (D.int 0), (D.int 0), (D.int 0), (D.int 1), (D.int 0)]), sd1, sd2]) 0), (qnth (Proofs.YtiojjmlccehpoaaGreat.q64 [pd0, (D.int pn1), (D.agg [(D.int 0), (D.int 0), (D.int 7), (D.int 0), (D.int 0), (D.int 0), (D.int 0), (D.int 1), (D.int 0)]), sd1, sd2]) 1)]
    else
      none := by
  have h : runI tb63 108 S108 1 4 [pd0, (D.int pn1)] [(D.int sn0), sd1, sd2] =
    bif (qcmp BinOp.eql (qlen sd2) (qlen sd2)) then
      bif (qcmp BinOp.eql (qlen sd1) (qlen sd1)) then
        bif (qsome (Proofs.YtiojjmlccehpoaaGreat.q64 [pd0, (D.int pn1), (D.agg [(D.int 0), (D.int 0), (D.int 7), (D.int 0), (D.int 0), (D.int 0), (D.int 0), (D.int 1), (D.int 0)]), sd1, sd2])) then
          bif (qcmp BinOp.eql (qlen (qnth (Proofs.YtiojjmlccehpoaaGreat.q64 [pd0, (D.int pn1), (D.agg [(D.int 0), (D.int 0), (D.int 7), (D.int 0), (D.int 0), (D.int 0), (D.int 0), (D.int 1), (D.int 0)]), sd1, sd2]) 1)) (qlen (qnth (Proofs.YtiojjmlccehpoaaGreat.q64 [pd0, (D.int pn1), (D.agg [(D.int 0), (D.int 0), (D.int 7), (D.int 0), (D.int 0), (D.int 0), (D.int 0), (D.int 1), (D.int 0)]), sd1, sd2]) 1))) then
            bif (qcmp BinOp.eql (qlen (qnth (Proofs.YtiojjmlccehpoaaGreat.q64 [pd0, (D.int pn1), (D.agg [(D.int 0), (D.int 0), (D.int 7), (D.int 0), (D.int 0), (D.int 0), (D.int 0), (D.int 1), (D.int 0)]), sd1, sd2]) 0)) (qlen (qnth (Proofs.YtiojjmlccehpoaaGreat.q64 [pd0, (D.int pn1), (D.agg [(D.int 0), (D.int 0), (D.int 7), (D.int 0), (D.int 0), (D.int 0), (D.int 0), (D.int 1), (D.int 0)]), sd1, sd2]) 0))) then
              bif (qeqD pd0 pd0) then
                bif (qeqD (D.int pn1) (D.int pn1)) then
                  some [(qnth (Proofs.YtiojjmlccehpoaaGreat.q64 [pd0, (D.int pn1), (D.agg [(D.int 0), (D.int 0), (D.int 7), (D.int 0), (D.int 0), (D.int 0), (D.int 0), (D.int 1), (D.int 0)]), sd1, sd2]) 0), (qnth (Proofs.YtiojjmlccehpoaaGreat.q64 [pd0, (D.int pn1), (D.agg [(D.int 0), (D.int 0), (D.int 7), (D.int 0), (D.int 0), (D.int 0), (D.int 0), (D.int 1), (D.int 0)]), sd1, sd2]) 1)]
                else
                  none
              else
                none
            else
              none
          else
            none
        else
          none
      else
        none
    else
      none := by kernel_rfl
  rw [h]; simp only [qeqD_self, qeqI_self, qeq_len, show qcmp BinOp.eql 0 (qlen (D.list [])) = true from qeq_len [], show ∀ a, qcmp BinOp.eql 1 (qlen (D.list [a])) = true from fun a => qeq_len [a], show ∀ a b, qcmp BinOp.eql 2 (qlen (D.list [a, b])) = true from fun a b => qeq_len [a, b], cond_true]

theorem K108_5 (pd0 : D) (pn1 : Int) (sn0 : Int) (sd1 : D) (sd2 : D) : runI tb63 108 S108 1 5 [pd0, (D.int pn1)] [(D.int sn0), sd1, sd2] =
    bif (qsome (Proofs.YtiojjmlccehpoaaGreat.q64 [pd0, (D.int pn1), (D.agg [(D.int 0), (D.int 0), (D.int 11), (D.int 0), (D.int 0), (D.int 0), (D.int 0), (D.int 1), (D.int 0)]), sd1, sd2])) then
      some [(qnth (Proofs.YtiojjmlccehpoaaGreat.q64 [pd0, (D.int pn1), (D.agg [(D.int 0), (D.int 0), (D.int 11), (D.int 0), (D.int 0), (D.int 0), (D.int 0), (D.int 1), (D.int 0)]), sd1, sd2]) 0), (qnth (Proofs.YtiojjmlccehpoaaGreat.q64 [pd0, (D.int pn1), (D.agg [(D.int 0), (D.int 0), (D.int 11), (D.int 0), (D.int 0), (D.int 0), (D.int 0), (D.int 1), (D.int 0)]), sd1, sd2]) 1)]
    else
      none := by
  have h : runI tb63 108 S108 1 5 [pd0, (D.int pn1)] [(D.int sn0), sd1, sd2] =
    bif (qcmp BinOp.eql (qlen sd2) (qlen sd2)) then
      bif (qcmp BinOp.eql (qlen sd1) (qlen sd1)) then
        bif (qsome (Proofs.YtiojjmlccehpoaaGreat.q64 [pd0, (D.int pn1), (D.agg [(D.int 0), (D.int 0), (D.int 11), (D.int 0), (D.int 0), (D.int 0), (D.int 0), (D.int 1), (D.int 0)]), sd1, sd2])) then
          bif (qcmp BinOp.eql (qlen (qnth (Proofs.YtiojjmlccehpoaaGreat.q64 [pd0, (D.int pn1), (D.agg [(D.int 0), (D.int 0), (D.int 11), (D.int 0), (D.int 0), (D.int 0), (D.int 0), (D.int 1), (D.int 0)]), sd1, sd2]) 1)) (qlen (qnth (Proofs.YtiojjmlccehpoaaGreat.q64 [pd0, (D.int pn1), (D.agg [(D.int 0), (D.int 0), (D.int 11), (D.int 0), (D.int 0), (D.int 0), (D.int 0), (D.int 1), (D.int 0)]), sd1, sd2]) 1))) then
            bif (qcmp BinOp.eql (qlen (qnth (Proofs.YtiojjmlccehpoaaGreat.q64 [pd0, (D.int pn1), (D.agg [(D.int 0), (D.int 0), (D.int 11), (D.int 0), (D.int 0), (D.int 0), (D.int 0), (D.int 1), (D.int 0)]), sd1, sd2]) 0)) (qlen (qnth (Proofs.YtiojjmlccehpoaaGreat.q64 [pd0, (D.int pn1), (D.agg [(D.int 0), (D.int 0), (D.int 11), (D.int 0), (D.int 0), (D.int 0), (D.int 0), (D.int 1), (D.int 0)]), sd1, sd2]) 0))) then
              bif (qeqD pd0 pd0) then
                bif (qeqD (D.int pn1) (D.int pn1)) then
                  some [(qnth (Proofs.YtiojjmlccehpoaaGreat.q64 [pd0, (D.int pn1), (D.agg [(D.int 0), (D.int 0), (D.int 11), (D.int 0), (D.int 0), (D.int 0), (D.int 0), (D.int 1), (D.int 0)]), sd1, sd2]) 0), (qnth (Proofs.YtiojjmlccehpoaaGreat.q64 [pd0, (D.int pn1), (D.agg [(D.int 0), (D.int 0), (D.int 11), (D.int 0), (D.int 0), (D.int 0), (D.int 0), (D.int 1), (D.int 0)]), sd1, sd2]) 1)]
                else
                  none
              else
                none
            else
              none
          else
            none
        else
          none
      else
        none
    else
      none := by kernel_rfl
  rw [h]; simp only [qeqD_self, qeqI_self, qeq_len, show qcmp BinOp.eql 0 (qlen (D.list [])) = true from qeq_len [], show ∀ a, qcmp BinOp.eql 1 (qlen (D.list [a])) = true from fun a => qeq_len [a], show ∀ a b, qcmp BinOp.eql 2 (qlen (D.list [a, b])) = true from fun a b => qeq_len [a, b], cond_true]

theorem K108_6 (pd0 : D) (pn1 : Int) (sn0 : Int) (sd1 : D) (sd2 : D) : runI tb63 108 S108 1 6 [pd0, (D.int pn1)] [(D.int sn0), sd1, sd2] =
    bif (qsome (Proofs.YtiojjmlccehpoaaGreat.q64 [pd0, (D.int pn1), (D.agg [(D.int 0), (D.int 0), (D.int 8), (D.int 0), (D.int 0), (D.int 0), (D.int 0), (D.int 1), (D.int 0)]), sd1, sd2])) then
      some [(qnth (Proofs.YtiojjmlccehpoaaGreat.q64 [pd0, (D.int pn1), (D.agg [(D.int 0), (D.int 0), (D.int 8), (D.int 0), (D.int 0), (D.int 0), (D.int 0), (D.int 1), (D.int 0)]), sd1, sd2]) 0), (qnth (Proofs.YtiojjmlccehpoaaGreat.q64 [pd0, (D.int pn1), (D.agg [(D.int 0), (D.int 0), (D.int 8), (D.int 0), (D.int 0), (D.int 0), (D.int 0), (D.int 1), (D.int 0)]), sd1, sd2]) 1)]
    else
      none := by
  have h : runI tb63 108 S108 1 6 [pd0, (D.int pn1)] [(D.int sn0), sd1, sd2] =
    bif (qcmp BinOp.eql (qlen sd2) (qlen sd2)) then
      bif (qcmp BinOp.eql (qlen sd1) (qlen sd1)) then
        bif (qsome (Proofs.YtiojjmlccehpoaaGreat.q64 [pd0, (D.int pn1), (D.agg [(D.int 0), (D.int 0), (D.int 8), (D.int 0), (D.int 0), (D.int 0), (D.int 0), (D.int 1), (D.int 0)]), sd1, sd2])) then
          bif (qcmp BinOp.eql (qlen (qnth (Proofs.YtiojjmlccehpoaaGreat.q64 [pd0, (D.int pn1), (D.agg [(D.int 0), (D.int 0), (D.int 8), (D.int 0), (D.int 0), (D.int 0), (D.int 0), (D.int 1), (D.int 0)]), sd1, sd2]) 1)) (qlen (qnth (Proofs.YtiojjmlccehpoaaGreat.q64 [pd0, (D.int pn1), (D.agg [(D.int 0), (D.int 0), (D.int 8), (D.int 0), (D.int 0), (D.int 0), (D.int 0), (D.int 1), (D.int 0)]), sd1, sd2]) 1))) then
            bif (qcmp BinOp.eql (qlen (qnth (Proofs.YtiojjmlccehpoaaGreat.q64 [pd0, (D.int pn1), (D.agg [(D.int 0), (D.int 0), (D.int 8), (D.int 0), (D.int 0), (D.int 0), (D.int 0), (D.int 1), (D.int 0)]), sd1, sd2]) 0)) (qlen (qnth (Proofs.YtiojjmlccehpoaaGreat.q64 [pd0, (D.int pn1), (D.agg [(D.int 0), (D.int 0), (D.int 8), (D.int 0), (D.int 0), (D.int 0), (D.int 0), (D.int 1), (D.int 0)]), sd1, sd2]) 0))) then
              bif (qeqD pd0 pd0) then
                bif (qeqD (D.int pn1) (D.int pn1)) then
                  some [(qnth (Proofs.YtiojjmlccehpoaaGreat.q64 [pd0, (D.int pn1), (D.agg [(D.int 0), (D.int 0), (D.int 8), (D.int 0), (D.int 0), (D.int 0), (D.int 0), (D.int 1), (D.int 0)]), sd1, sd2]) 0), (qnth (Proofs.YtiojjmlccehpoaaGreat.q64 [pd0, (D.int pn1), (D.agg [(D.int 0), (D.int 0), (D.int 8), (D.int 0), (D.int 0), (D.int 0), (D.int 0), (D.int 1), (D.int 0)]), sd1, sd2]) 1)]
                else
                  none
              else
                none
            else
              none
          else
            none
        else
          none
      else
        none
    else
      none := by kernel_rfl
  rw [h]; simp only [qeqD_self, qeqI_self, qeq_len, show qcmp BinOp.eql 0 (qlen (D.list [])) = true from qeq_len [], show ∀ a, qcmp BinOp.eql 1 (qlen (D.list [a])) = true from fun a => qeq_len [a], show ∀ a b, qcmp BinOp.eql 2 (qlen (D.list [a, b])) = true from fun a b => qeq_len [a, b], cond_true]

theorem K108_7 (pd0 : D) (pn1 : Int) (sn0 : Int) (sd1 : D) (sd2 : D) : runI tb63 108 S108 1 7 [pd0, (D.int pn1)] [(D.int sn0), sd1, sd2] =
    bif (qsome (Proofs.YtiojjmlccehpoaaGreat.q64 [pd0, (D.int pn1), (D.agg [(D.int 0), (D.int 0), (D.int 9), (D.int 0), (D.int 0), (D.int 0), (D.int 0), (D.int 1), (D.int 0)]), sd1, sd2])) then
      some [(qnth (Proofs.YtiojjmlccehpoaaGreat.q64 [pd0, (D.int pn1), (D.agg [(D.int 0), (D.int 0), (D.int 9), (D.int 0), (D.int 0), (D.int 0), (D.int 0), (D.int 1), (D.int 0)]), sd1, sd2]) 0), (qnth (Proofs.YtiojjmlccehpoaaGreat.q64 [pd0, (D.int pn1), (D.agg [(D.int 0), (D.int 0), (D.int 9), (D.int 0), (D.int 0), (D.int 0), (D.int 0), (D.int 1), (D.int 0)]), sd1, sd2]) 1)]
    else
      none := by
  have h : runI tb63 108 S108 1 7 [pd0, (D.int pn1)] [(D.int sn0), sd1, sd2] =
    bif (qcmp BinOp.eql (qlen sd2) (qlen sd2)) then
      bif (qcmp BinOp.eql (qlen sd1) (qlen sd1)) then
        bif (qsome (Proofs.YtiojjmlccehpoaaGreat.q64 [pd0, (D.int pn1), (D.agg [(D.int 0), (D.int 0), (D.int 9), (D.int 0), (D.int 0), (D.int 0), (D.int 0), (D.int 1), (D.int 0)]), sd1, sd2])) then
          bif (qcmp BinOp.eql (qlen (qnth (Proofs.YtiojjmlccehpoaaGreat.q64 [pd0, (D.int pn1), (D.agg [(D.int 0), (D.int 0), (D.int 9), (D.int 0), (D.int 0), (D.int 0), (D.int 0), (D.int 1), (D.int 0)]), sd1, sd2]) 1)) (qlen (qnth (Proofs.YtiojjmlccehpoaaGreat.q64 [pd0, (D.int pn1), (D.agg [(D.int 0), (D.int 0), (D.int 9), (D.int 0), (D.int 0), (D.int 0), (D.int 0), (D.int 1), (D.int 0)]), sd1, sd2]) 1))) then
            bif (qcmp BinOp.eql (qlen (qnth (Proofs.YtiojjmlccehpoaaGreat.q64 [pd0, (D.int pn1), (D.agg [(D.int 0), (D.int 0), (D.int 9), (D.int 0), (D.int 0), (D.int 0), (D.int 0), (D.int 1), (D.int 0)]), sd1, sd2]) 0)) (qlen (qnth (Proofs.YtiojjmlccehpoaaGreat.q64 [pd0, (D.int pn1), (D.agg [(D.int 0), (D.int 0), (D.int 9), (D.int 0), (D.int 0), (D.int 0), (D.int 0), (D.int 1), (D.int 0)]), sd1, sd2]) 0))) then
              bif (qeqD pd0 pd0) then
                bif (qeqD (D.int pn1) (D.int pn1)) then
                  some [(qnth (Proofs.YtiojjmlccehpoaaGreat.q64 [pd0, (D.int pn1), (D.agg [(D.int 0), (D.int 0), (D.int 9), (D.int 0), (D.int 0), (D.int 0), (D.int 0), (D.int 1), (D.int 0)]), sd1, sd2]) 0), (qnth (Proofs.YtiojjmlccehpoaaGreat.q64 [pd0, (D.int pn1), (D.agg [(D.int 0), (D.int 0), (D.int 9), (D.int 0), (D.int 0), (D.int 0), (D.int 0), (D.int 1), (D.int 0)]), sd1, sd2]) 1)]
                else
                  none
              else
                none
            else
              none
          else
            none
        else
          none
      else
        none
    else
      none := by kernel_rfl
  rw [h]; simp only [qeqD_self, qeqI_self, qeq_len, show qcmp BinOp.eql 0 (qlen (D.list [])) = true from qeq_len [], show ∀ a, qcmp BinOp.eql 1 (qlen (D.list [a])) = true from fun a => qeq_len [a], show ∀ a b, qcmp BinOp.eql 2 (qlen (D.list [a, b])) = true from fun a b => qeq_len [a, b], cond_true]

theorem K108_8 (pd0 : D) (pn1 : Int) (sn0 : Int) (sd1 : D) (sd2 : D) : runI tb63 108 S108 1 8 [pd0, (D.int pn1)] [(D.int sn0), sd1, sd2] =
    bif (qsome (Proofs.YtiojjmlccehpoaaGreat.q64 [pd0, (D.int pn1), (D.agg [(D.int 0), (D.int 0), (D.int 10), (D.int 0), (D.int 0), (D.int 0), (D.int 0), (D.int 1), (D.int 0)]), sd1, sd2])) then
      some [(qnth (Proofs.YtiojjmlccehpoaaGreat.q64 [pd0, (D.int pn1), (D.agg [(D.int 0), (D.int 0), (D.int 10), (D.int 0), (D.int 0), (D.int 0), (D.int 0), (D.int 1), (D.int 0)]), sd1, sd2]) 0), (qnth (Proofs.YtiojjmlccehpoaaGreat.q64 [pd0, (D.int pn1), (D.agg [(D.int 0), (D.int 0), (D.int 10), (D.int 0), (D.int 0), (D.int 0), (D.int 0), (D.int 1), (D.int 0)]), sd1, sd2]) 1)]
    else
      none := by
  have h : runI tb63 108 S108 1 8 [pd0, (D.int pn1)] [(D.int sn0), sd1, sd2] =
    bif (qcmp BinOp.eql (qlen sd2) (qlen sd2)) then
      bif (qcmp BinOp.eql (qlen sd1) (qlen sd1)) then
        bif (qsome (Proofs.YtiojjmlccehpoaaGreat.q64 [pd0, (D.int pn1), (D.agg [(D.int 0), (D.int 0), (D.int 10), (D.int 0), (D.int 0), (D.int 0), (D.int 0), (D.int 1), (D.int 0)]), sd1, sd2])) then
          bif (qcmp BinOp.eql (qlen (qnth (Proofs.YtiojjmlccehpoaaGreat.q64 [pd0, (D.int pn1), (D.agg [(D.int 0), (D.int 0), (D.int 10), (D.int 0), (D.int 0), (D.int 0), (D.int 0), (D.int 1), (D.int 0)]), sd1, sd2]) 1)) (qlen (qnth (Proofs.YtiojjmlccehpoaaGreat.q64 [pd0, (D.int pn1), (D.agg [(D.int 0), (D.int 0), (D.int 10), (D.int 0), (D.int 0), (D.int 0), (D.int 0), (D.int 1), (D.int 0)]), sd1, sd2]) 1))) then
            bif (qcmp BinOp.eql (qlen (qnth (Proofs.YtiojjmlccehpoaaGreat.q64 [pd0, (D.int pn1), (D.agg [(D.int 0), (D.int 0), (D.int 10), (D.int 0), (D.int 0), (D.int 0), (D.int 0), (D.int 1), (D.int 0)]), sd1, sd2]) 0)) (qlen (qnth (Proofs.YtiojjmlccehpoaaGreat.q64 [pd0, (D.int pn1), (D.agg [(D.int 0), (D.int 0), (D.int 10), (D.int 0), (D.int 0), (D.int 0), (D.int 0), (D.int 1), (D.int 0)]), sd1, sd2]) 0))) then
              bif (qeqD pd0 pd0) then
                bif (qeqD (D.int pn1) (D.int pn1)) then
                  some [(qnth (Proofs.YtiojjmlccehpoaaGreat.q64 [pd0, (D.int pn1), (D.agg [(D.int 0), (D.int 0), (D.int 10), (D.int 0), (D.int 0), (D.int 0), (D.int 0), (D.int 1), (D.int 0)]), sd1, sd2]) 0), (qnth (Proofs.YtiojjmlccehpoaaGreat.q64 [pd0, (D.int pn1), (D.agg [(D.int 0), (D.int 0), (D.int 10), (D.int 0), (D.int 0), (D.int 0), (D.int 0), (D.int 1), (D.int 0)]), sd1, sd2]) 1)]
                else
                  none
              else
                none
            else
              none
          else
            none
        else
          none
      else
        none
    else
      none := by kernel_rfl
  rw [h]; simp only [qeqD_self, qeqI_self, qeq_len, show qcmp BinOp.eql 0 (qlen (D.list [])) = true from qeq_len [], show ∀ a, qcmp BinOp.eql 1 (qlen (D.list [a])) = true from fun a => qeq_len [a], show ∀ a b, qcmp BinOp.eql 2 (qlen (D.list [a, b])) = true from fun a b => qeq_len [a, b], cond_true]

theorem K108_9 (pd0 : D) (pn1 : Int) (sn0 : Int) (sd1 : D) (sd2 : D) : runI tb63 108 S108 1 9 [pd0, (D.int pn1)] [(D.int sn0), sd1, sd2] =
    bif (qsome (Proofs.YtiojjmlccehpoaaGreat.q64 [pd0, (D.int pn1), (D.agg [(D.int 0), (D.int 0), (D.int 12), (D.int 0), (D.int 0), (D.int 0), (D.int 0), (D.int 1), (D.int 0)]), sd1, sd2])) then
      some [(qnth (Proofs.YtiojjmlccehpoaaGreat.q64 [pd0, (D.int pn1), (D.agg [(D.int 0), (D.int 0), (D.int 12), (D.int 0), (D.int 0), (D.int 0), (D.int 0), (D.int 1), (D.int 0)]), sd1, sd2]) 0), (qnth (Proofs.YtiojjmlccehpoaaGreat.q64 [pd0, (D.int pn1), (D.agg [(D.int 0), (D.int 0), (D.int 12), (D.int 0), (D.int 0), (D.int 0), (D.int 0), (D.int 1), (D.int 0)]), sd1, sd2]) 1)]
    else
      none := by
  have h : runI tb63 108 S108 1 9 [pd0, (D.int pn1)] [(D.int sn0), sd1, sd2] =
    bif (qcmp BinOp.eql (qlen sd2) (qlen sd2)) then
      bif (qcmp BinOp.eql (qlen sd1) (qlen sd1)) then
        bif (qsome (Proofs.YtiojjmlccehpoaaGreat.q64 [pd0, (D.int pn1), (D.agg [(D.int 0), (D.int 0), (D.int 12), (D.int 0), (D.int 0), (D.int 0), (D.int 0), (D.int 1), (D.int 0)]), sd1, sd2])) then
          bif (qcmp BinOp.eql (qlen (qnth (Proofs.YtiojjmlccehpoaaGreat.q64 [pd0, (D.int pn1), (D.agg [(D.int 0), (D.int 0), (D.int 12), (D.int 0), (D.int 0), (D.int 0), (D.int 0), (D.int 1), (D.int 0)]), sd1, sd2]) 1)) (qlen (qnth (Proofs.YtiojjmlccehpoaaGreat.q64 [pd0, (D.int pn1), (D.agg [(D.int 0), (D.int 0), (D.int 12), (D.int 0), (D.int 0), (D.int 0), (D.int 0), (D.int 1), (D.int 0)]), sd1, sd2]) 1))) then
            bif (qcmp BinOp.eql (qlen (qnth (Proofs.YtiojjmlccehpoaaGreat.q64 [pd0, (D.int pn1), (D.agg [(D.int 0), (D.int 0), (D.int 12), (D.int 0), (D.int 0), (D.int 0), (D.int 0), (D.int 1), (D.int 0)]), sd1, sd2]) 0)) (qlen (qnth (Proofs.YtiojjmlccehpoaaGreat.q64 [pd0, (D.int pn1), (D.agg [(D.int 0), (D.int 0), (D.int 12), (D.int 0), (D.int 0), (D.int 0), (D.int 0), (D.int 1), (D.int 0)]), sd1, sd2]) 0))) then
              bif (qeqD pd0 pd0) then
                bif (qeqD (D.int pn1) (D.int pn1)) then
                  some [(qnth (Proofs.YtiojjmlccehpoaaGreat.q64 [pd0, (D.int pn1), (D.agg [(D.int 0), (D.int 0), (D.int 12), (D.int 0), (D.int 0), (D.int 0), (D.int 0), (D.int 1), (D.int 0)]), sd1, sd2]) 0), (qnth (Proofs.YtiojjmlccehpoaaGreat.q64 [pd0, (D.int pn1), (D.agg [(D.int 0), (D.int 0), (D.int 12), (D.int 0), (D.int 0), (D.int 0), (D.int 0), (D.int 1), (D.int 0)]), sd1, sd2]) 1)]
                else
                  none
              else
                none
            else
              none
          else
            none
        else
          none
      else
        none
    else
      none := by kernel_rfl
  rw [h]; simp only [qeqD_self, qeqI_self, qeq_len, show qcmp BinOp.eql 0 (qlen (D.list [])) = true from qeq_len [], show ∀ a, qcmp BinOp.eql 1 (qlen (D.list [a])) = true from fun a => qeq_len [a], show ∀ a b, qcmp BinOp.eql 2 (qlen (D.list [a, b])) = true from fun a b => qeq_len [a, b], cond_true]

theorem K108_10 (pd0 : D) (pn1 : Int) (sn0 : Int) (sd1 : D) (sd2 : D) : runI tb63 108 S108 1 10 [pd0, (D.int pn1)] [(D.int sn0), sd1, sd2] =
    bif (qsome (Proofs.YtiojjmlccehpoaaGreat.q64 [pd0, (D.int pn1), (D.agg [(D.int 0), (D.int 0), (D.int 13), (D.int 0), (D.int 0), (D.int 0), (D.int 0), (D.int 1), (D.int 0)]), sd1, sd2])) then
      some [(qnth (Proofs.YtiojjmlccehpoaaGreat.q64 [pd0, (D.int pn1), (D.agg [(D.int 0), (D.int 0), (D.int 13), (D.int 0), (D.int 0), (D.int 0), (D.int 0), (D.int 1), (D.int 0)]), sd1, sd2]) 0), (qnth (Proofs.YtiojjmlccehpoaaGreat.q64 [pd0, (D.int pn1), (D.agg [(D.int 0), (D.int 0), (D.int 13), (D.int 0), (D.int 0), (D.int 0), (D.int 0), (D.int 1), (D.int 0)]), sd1, sd2]) 1)]
    else
      none := by
  have h : runI tb63 108 S108 1 10 [pd0, (D.int pn1)] [(D.int sn0), sd1, sd2] =
    bif (qcmp BinOp.eql (qlen sd2) (qlen sd2)) then
      bif (qcmp BinOp.eql (qlen sd1) (qlen sd1)) then
        bif (qsome (Proofs.YtiojjmlccehpoaaGreat.q64 [pd0, (D.int pn1), (D.agg [(D.int 0), (D.int 0), (D.int 13), (D.int 0), (D.int 0), (D.int 0), (D.int 0), (D.int 1), (D.int 0)]), sd1, sd2])) then
          bif (qcmp BinOp.eql (qlen (qnth (Proofs.YtiojjmlccehpoaaGreat.q64 [pd0, (D.int pn1), (D.agg [(D.int 0), (D.int 0), (D.int 13), (D.int 0), (D.int 0), (D.int 0), (D.int 0), (D.int 1), (D.int 0)]), sd1, sd2]) 1)) (qlen (qnth (Proofs.YtiojjmlccehpoaaGreat.q64 [pd0, (D.int pn1), (D.agg [(D.int 0), (D.int 0), (D.int 13), (D.int 0), (D.int 0), (D.int 0), (D.int 0), (D.int 1), (D.int 0)]), sd1, sd2]) 1))) then
            bif (qcmp BinOp.eql (qlen (qnth (Proofs.YtiojjmlccehpoaaGreat.q64 [pd0, (D.int pn1), (D.agg [(D.int 0), (D.int 0), (D.int 13), (D.int 0), (D.int 0), (D.int 0), (D.int 0), (D.int 1), (D.int 0)]), sd1, sd2]) 0)) (qlen (qnth (Proofs.YtiojjmlccehpoaaGreat.q64 [pd0, (D.int pn1), (D.agg [(D.int 0), (D.int 0), (D.int 13), (D.int 0), (D.int 0), (D.int 0), (D.int 0), (D.int 1), (D.int 0)]), sd1, sd2]) 0))) then
              bif (qeqD pd0 pd0) then
                bif (qeqD (D.int pn1) (D.int pn1)) then
                  some [(qnth (Proofs.YtiojjmlccehpoaaGreat.q64 [pd0, (D.int pn1), (D.agg [(D.int 0), (D.int 0), (D.int 13), (D.int 0), (D.int 0), (D.int 0), (D.int 0), (D.int 1), (D.int 0)]), sd1, sd2]) 0), (qnth (Proofs.YtiojjmlccehpoaaGreat.q64 [pd0, (D.int pn1), (D.agg [(D.int 0), (D.int 0), (D.int 13), (D.int 0), (D.int 0), (D.int 0), (D.int 0), (D.int 1), (D.int 0)]), sd1, sd2]) 1)]
                else
                  none
              else
                none
            else
              none
          else
            none
        else
          none
      else
        none
    else
      none := by kernel_rfl
  rw [h]; simp only [qeqD_self, qeqI_self, qeq_len, show qcmp BinOp.eql 0 (qlen (D.list [])) = true from qeq_len [], show ∀ a, qcmp BinOp.eql 1 (qlen (D.list [a])) = true from fun a => qeq_len [a], show ∀ a b, qcmp BinOp.eql 2 (qlen (D.list [a, b])) = true from fun a b => qeq_len [a, b], cond_true]

theorem K108_11 (pd0 : D) (pn1 : Int) (sn0 : Int) (sd1 : D) (sd2 : D) : runI tb63 108 S108 1 11 [pd0, (D.int pn1)] [(D.int sn0), sd1, sd2] =
    bif (qsome (Proofs.YtiojjmlccehpoaaGreat.q64 [pd0, (D.int pn1), (D.agg [(D.int 0), (D.int 0), (D.int 14), (D.int 0), (D.int 0), (D.int 0), (D.int 0), (D.int 1), (D.int 0)]), sd1, sd2])) then
      some [(qnth (Proofs.YtiojjmlccehpoaaGreat.q64 [pd0, (D.int pn1), (D.agg [(D.int 0), (D.int 0), (D.int 14), (D.int 0), (D.int 0), (D.int 0), (D.int 0), (D.int 1), (D.int 0)]), sd1, sd2]) 0), (qnth (Proofs.YtiojjmlccehpoaaGreat.q64 [pd0, (D.int pn1), (D.agg [(D.int 0), (D.int 0), (D.int 14), (D.int 0), (D.int 0), (D.int 0), (D.int 0), (D.int 1), (D.int 0)]), sd1, sd2]) 1)]
    else
      none := by
  have h : runI tb63 108 S108 1 11 [pd0, (D.int pn1)] [(D.int sn0), sd1, sd2] =
    bif (qcmp BinOp.eql (qlen sd2) (qlen sd2)) then
      bif (qcmp BinOp.eql (qlen sd1) (qlen sd1)) then
        bif (qsome (Proofs.YtiojjmlccehpoaaGreat.q64 [pd0, (D.int pn1), (D.agg [(D.int 0), (D.int 0), (D.int 14), (D.int 0), (D.int 0), (D.int 0), (D.int 0), (D.int 1), (D.int 0)]), sd1, sd2])) then
          bif (qcmp BinOp.eql (qlen (qnth (Proofs.YtiojjmlccehpoaaGreat.q64 [pd0, (D.int pn1), (D.agg [(D.int 0), (D.int 0), (D.int 14), (D.int 0), (D.int 0), (D.int 0), (D.int 0), (D.int 1), (D.int 0)]), sd1, sd2]) 1)) (qlen (qnth (Proofs.YtiojjmlccehpoaaGreat.q64 [pd0, (D.int pn1), (D.agg [(D.int 0), (D.int 0), (D.int 14), (D.int 0), (D.int 0), (D.int 0), (D.int 0), (D.int 1), (D.int 0)]), sd1, sd2]) 1))) then
            bif (qcmp BinOp.eql (qlen (qnth (Proofs.YtiojjmlccehpoaaGreat.q64 [pd0, (D.int pn1), (D.agg [(D.int 0), (D.int 0), (D.int 14), (D.int 0), (D.int 0), (D.int 0), (D.int 0), (D.int 1), (D.int 0)]), sd1, sd2]) 0)) (qlen (qnth (Proofs.YtiojjmlccehpoaaGreat.q64 [pd0, (D.int pn1), (D.agg [(D.int 0), (D.int 0), (D.int 14), (D.int 0), (D.int 0), (D.int 0), (D.int 0), (D.int 1), (D.int 0)]), sd1, sd2]) 0))) then
              bif (qeqD pd0 pd0) then
                bif (qeqD (D.int pn1) (D.int pn1)) then
                  some [(qnth (Proofs.YtiojjmlccehpoaaGreat.q64 [pd0, (D.int pn1), (D.agg [(D.int 0), (D.int 0), (D.int 14), (D.int 0), (D.int 0), (D.int 0), (D.int 0), (D.int 1), (D.int 0)]), sd1, sd2]) 0), (qnth (Proofs.YtiojjmlccehpoaaGreat.q64 [pd0, (D.int pn1), (D.agg [(D.int 0), (D.int 0), (D.int 14), (D.int 0), (D.int 0), (D.int 0), (D.int 0), (D.int 1), (D.int 0)]), sd1, sd2]) 1)]
                else
                  none
              else
                none
            else
              none
          else
            none
        else
          none
      else
        none
    else
      none := by kernel_rfl
  rw [h]; simp only [qeqD_self, qeqI_self, qeq_len, show qcmp BinOp.eql 0 (qlen (D.list [])) = true from qeq_len [], show ∀ a, qcmp BinOp.eql 1 (qlen (D.list [a])) = true from fun a => qeq_len [a], show ∀ a b, qcmp BinOp.eql 2 (qlen (D.list [a, b])) = true from fun a b => qeq_len [a, b], cond_true]

theorem K108_12 (pd0 : D) (pn1 : Int) (sn0 : Int) (sd1 : D) (sd2 : D) : runI tb63 108 S108 1 12 [pd0, (D.int pn1)] [(D.int sn0), sd1, sd2] =
    bif (qsome (Proofs.YtiojjmlccehpoaaGreat.q64 [pd0, (D.int pn1), (D.agg [(D.int 0), (D.int 0), (D.int 15), (D.int 0), (D.int 0), (D.int 0), (D.int 0), (D.int 1), (D.int 0)]), sd1, sd2])) then
      bif (qsome (Proofs.YtiojjmlccehpoaaGreat.q64 [pd0, (D.int pn1), (D.agg [(D.int 0), (D.int 0), (D.int 25), (D.int 0), (D.int 0), (D.int 1), (D.int 0), (D.int 0), (D.int 0)]), (qnth (Proofs.YtiojjmlccehpoaaGreat.q64 [pd0, (D.int pn1), (D.agg [(D.int 0), (D.int 0), (D.int 15), (D.int 0), (D.int 0), (D.int 0), (D.int 0), (D.int 1), (D.int 0)]), sd1, sd2]) 0), (qnth (Proofs.YtiojjmlccehpoaaGreat.q64 [pd0, (D.int pn1), (D.agg [(D.int 0), (D.int 0), (D.int 15), (D.int 0), (D.int 0), (D.int 0), (D.int 0), (D.int 1), (D.int 0)]), sd1, sd2]) 1)])) then
        some [(qnth (Proofs.YtiojjmlccehpoaaGreat.q64 [pd0, (D.int pn1), (D.agg [(D.int 0), (D.int 0), (D.int 25), (D.int 0), (D.int 0), (D.int 1), (D.int 0), (D.int 0), (D.int 0)]), (qnth (Proofs.YtiojjmlccehpoaaGreat.q64 [pd0, (D.int pn1), (D.agg [(D.int 0), (D.int 0), (D.int 15), (D.int 0), (D.int 0), (D.int 0), (D.int 0), (D.int 1), (D.int 0)]), sd1, sd2]) 0), (qnth (Proofs.YtiojjmlccehpoaaGreat.q64 [pd0, (D.int pn1), (D.agg [(D.int 0), (D.int 0), (D.int 15), (D.int 0), (D.int 0), (D.int 0), (D.int 0), (D.int 1), (D.int 0)]), sd1, sd2]) 1)]) 0), (qnth (Proofs.YtiojjmlccehpoaaGreat.q64 [pd0, (D.int pn1), (D.agg [(D.int 0), (D.int 0), (D.int 25), (D.int 0), (D.int 0), (D.int 1), (D.int 0), (D.int 0), (D.int 0)]), (qnth (Proofs.YtiojjmlccehpoaaGreat.q64 [pd0, (D.int pn1), (D.agg [(D.int 0), (D.int 0), (D.int 15), (D.int 0), (D.int 0), (D.int 0), (D.int 0), (D.int 1), (D.int 0)]), sd1, sd2]) 0), (qnth (Proofs.YtiojjmlccehpoaaGreat.q64 [pd0, (D.int pn1), (D.agg [(D.int 0), (D.int 0), (D.int 15), (D.int 0), (D.int 0), (D.int 0), (D.int 0), (D.int 1), (D.int 0)]), sd1, sd2]) 1)]) 1)]
      else
        none
    else
      none := by
  have h : runI tb63 108 S108 1 12 [pd0, (D.int pn1)] [(D.int sn0), sd1, sd2] =
    bif (qcmp BinOp.eql (qlen sd2) (qlen sd2)) then
      bif (qcmp BinOp.eql (qlen sd1) (qlen sd1)) then
        bif (qsome (Proofs.YtiojjmlccehpoaaGreat.q64 [pd0, (D.int pn1), (D.agg [(D.int 0), (D.int 0), (D.int 15), (D.int 0), (D.int 0), (D.int 0), (D.int 0), (D.int 1), (D.int 0)]), sd1, sd2])) then
          bif (qcmp BinOp.eql (qlen (qnth (Proofs.YtiojjmlccehpoaaGreat.q64 [pd0, (D.int pn1), (D.agg [(D.int 0), (D.int 0), (D.int 15), (D.int 0), (D.int 0), (D.int 0), (D.int 0), (D.int 1), (D.int 0)]), sd1, sd2]) 1)) (qlen (qnth (Proofs.YtiojjmlccehpoaaGreat.q64 [pd0, (D.int pn1), (D.agg [(D.int 0), (D.int 0), (D.int 15), (D.int 0), (D.int 0), (D.int 0), (D.int 0), (D.int 1), (D.int 0)]), sd1, sd2]) 1))) then
            bif (qcmp BinOp.eql (qlen (qnth (Proofs.YtiojjmlccehpoaaGreat.q64 [pd0, (D.int pn1), (D.agg [(D.int 0), (D.int 0), (D.int 15), (D.int 0), (D.int 0), (D.int 0), (D.int 0), (D.int 1), (D.int 0)]), sd1, sd2]) 0)) (qlen (qnth (Proofs.YtiojjmlccehpoaaGreat.q64 [pd0, (D.int pn1), (D.agg [(D.int 0), (D.int 0), (D.int 15), (D.int 0), (D.int 0), (D.int 0), (D.int 0), (D.int 1), (D.int 0)]), sd1, sd2]) 0))) then
              bif (qsome (Proofs.YtiojjmlccehpoaaGreat.q64 [pd0, (D.int pn1), (D.agg [(D.int 0), (D.int 0), (D.int 25), (D.int 0), (D.int 0), (D.int 1), (D.int 0), (D.int 0), (D.int 0)]), (qnth (Proofs.YtiojjmlccehpoaaGreat.q64 [pd0, (D.int pn1), (D.agg [(D.int 0), (D.int 0), (D.int 15), (D.int 0), (D.int 0), (D.int 0), (D.int 0), (D.int 1), (D.int 0)]), sd1, sd2]) 0), (qnth (Proofs.YtiojjmlccehpoaaGreat.q64 [pd0, (D.int pn1), (D.agg [(D.int 0), (D.int 0), (D.int 15), (D.int 0), (D.int 0), (D.int 0), (D.int 0), (D.int 1), (D.int 0)]), sd1, sd2]) 1)])) then
                bif (qcmp BinOp.eql (qlen (qnth (Proofs.YtiojjmlccehpoaaGreat.q64 [pd0, (D.int pn1), (D.agg [(D.int 0), (D.int 0), (D.int 25), (D.int 0), (D.int 0), (D.int 1), (D.int 0), (D.int 0), (D.int 0)]), (qnth (Proofs.YtiojjmlccehpoaaGreat.q64 [pd0, (D.int pn1), (D.agg [(D.int 0), (D.int 0), (D.int 15), (D.int 0), (D.int 0), (D.int 0), (D.int 0), (D.int 1), (D.int 0)]), sd1, sd2]) 0), (qnth (Proofs.YtiojjmlccehpoaaGreat.q64 [pd0, (D.int pn1), (D.agg [(D.int 0), (D.int 0), (D.int 15), (D.int 0), (D.int 0), (D.int 0), (D.int 0), (D.int 1), (D.int 0)]), sd1, sd2]) 1)]) 1)) (qlen (qnth (Proofs.YtiojjmlccehpoaaGreat.q64 [pd0, (D.int pn1), (D.agg [(D.int 0), (D.int 0), (D.int 25), (D.int 0), (D.int 0), (D.int 1), (D.int 0), (D.int 0), (D.int 0)]), (qnth (Proofs.YtiojjmlccehpoaaGreat.q64 [pd0, (D.int pn1), (D.agg [(D.int 0), (D.int 0), (D.int 15), (D.int 0), (D.int 0), (D.int 0), (D.int 0), (D.int 1), (D.int 0)]), sd1, sd2]) 0), (qnth (Proofs.YtiojjmlccehpoaaGreat.q64 [pd0, (D.int pn1), (D.agg [(D.int 0), (D.int 0), (D.int 15), (D.int 0), (D.int 0), (D.int 0), (D.int 0), (D.int 1), (D.int 0)]), sd1, sd2]) 1)]) 1))) then
                  bif (qcmp BinOp.eql (qlen (qnth (Proofs.YtiojjmlccehpoaaGreat.q64 [pd0, (D.int pn1), (D.agg [(D.int 0), (D.int 0), (D.int 25), (D.int 0), (D.int 0), (D.int 1), (D.int 0), (D.int 0), (D.int 0)]), (qnth (Proofs.YtiojjmlccehpoaaGreat.q64 [pd0, (D.int pn1), (D.agg [(D.int 0), (D.int 0), (D.int 15), (D.int 0), (D.int 0), (D.int 0), (D.int 0), (D.int 1), (D.int 0)]), sd1, sd2]) 0), (qnth (Proofs.YtiojjmlccehpoaaGreat.q64 [pd0, (D.int pn1), (D.agg [(D.int 0), (D.int 0), (D.int 15), (D.int 0), (D.int 0), (D.int 0), (D.int 0), (D.int 1), (D.int 0)]), sd1, sd2]) 1)]) 0)) (qlen (qnth (Proofs.YtiojjmlccehpoaaGreat.q64 [pd0, (D.int pn1), (D.agg [(D.int 0), (D.int 0), (D.int 25), (D.int 0), (D.int 0), (D.int 1), (D.int 0), (D.int 0), (D.int 0)]), (qnth (Proofs.YtiojjmlccehpoaaGreat.q64 [pd0, (D.int pn1), (D.agg [(D.int 0), (D.int 0), (D.int 15), (D.int 0), (D.int 0), (D.int 0), (D.int 0), (D.int 1), (D.int 0)]), sd1, sd2]) 0), (qnth (Proofs.YtiojjmlccehpoaaGreat.q64 [pd0, (D.int pn1), (D.agg [(D.int 0), (D.int 0), (D.int 15), (D.int 0), (D.int 0), (D.int 0), (D.int 0), (D.int 1), (D.int 0)]), sd1, sd2]) 1)]) 0))) then
                    bif (qeqD pd0 pd0) then
                      bif (qeqD (D.int pn1) (D.int pn1)) then
                        some [(qnth (Proofs.YtiojjmlccehpoaaGreat.q64 [pd0, (D.int pn1), (D.agg [(D.int 0), (D.int 0), (D.int 25), (D.int 0), (D.int 0), (D.int 1), (D.int 0), (D.int 0), (D.int 0)]), (qnth (Proofs.YtiojjmlccehpoaaGreat.q64 [pd0, (D.int pn1), (D.agg [(D.int 0), (D.int 0), (D.int 15), (D.int 0), (D.int 0), (D.int 0), (D.int 0), (D.int 1), (D.int 0)]), sd1, sd2]) 0), (qnth (Proofs.YtiojjmlccehpoaaGreat.q64 [pd0, (D.int pn1), (D.agg [(D.int 0), (D.int 0), (D.int 15), (D.int 0), (D.int 0), (D.int 0), (D.int 0), (D.int 1), (D.int 0)]), sd1, sd2]) 1)]) 0), (qnth (Proofs.YtiojjmlccehpoaaGreat.q64 [pd0, (D.int pn1), (D.agg [(D.int 0), (D.int 0), (D.int 25), (D.int 0), (D.int 0), (D.int 1), (D.int 0), (D.int 0), (D.int 0)]), (qnth (Proofs.YtiojjmlccehpoaaGreat.q64 [pd0, (D.int pn1), (D.agg [(D.int 0), (D.int 0), (D.int 15), (D.int 0), (D.int 0), (D.int 0), (D.int 0), (D.int 1), (D.int 0)]), sd1, sd2]) 0), (qnth (Proofs.YtiojjmlccehpoaaGreat.q64 [pd0, (D.int pn1), (D.agg [(D.int 0), (D.int 0), (D.int 15), (D.int 0), (D.int 0), (D.int 0), (D.int 0), (D.int 1), (D.int 0)]), sd1, sd2]) 1)]) 1)]
                      else
                        none
                    else
                      none
                  else
                    none
                else
                  none
              else
                none
            else
              none
          else
            none
        else
          none
      else
        none
    else
      none := by kernel_rfl
  rw [h]; simp only [qeqD_self, qeqI_self, qeq_len, show qcmp BinOp.eql 0 (qlen (D.list [])) = true from qeq_len [], show ∀ a, qcmp BinOp.eql 1 (qlen (D.list [a])) = true from fun a => qeq_len [a], show ∀ a b, qcmp BinOp.eql 2 (qlen (D.list [a, b])) = true from fun a b => qeq_len [a, b], cond_true]

theorem K108_13 (pd0 : D) (pn1 : Int) (sn0 : Int) (sd1 : D) (sd2 : D) : runI tb63 108 S108 1 13 [pd0, (D.int pn1)] [(D.int sn0), sd1, sd2] =
    bif (qsome (Proofs.YtiojjmlccehpoaaGreat.q64 [pd0, (D.int pn1), (D.agg [(D.int 0), (D.int 0), (D.int 15), (D.int 0), (D.int 0), (D.int 0), (D.int 0), (D.int 1), (D.int 0)]), sd1, sd2])) then
      bif (qsome (Proofs.YtiojjmlccehpoaaGreat.q64 [pd0, (D.int pn1), (D.agg [(D.int 0), (D.int 0), (D.int 25), (D.int 0), (D.int 0), (D.int 2), (D.int 0), (D.int 0), (D.int 0)]), (qnth (Proofs.YtiojjmlccehpoaaGreat.q64 [pd0, (D.int pn1), (D.agg [(D.int 0), (D.int 0), (D.int 15), (D.int 0), (D.int 0), (D.int 0), (D.int 0), (D.int 1), (D.int 0)]), sd1, sd2]) 0), (qnth (Proofs.YtiojjmlccehpoaaGreat.q64 [pd0, (D.int pn1), (D.agg [(D.int 0), (D.int 0), (D.int 15), (D.int 0), (D.int 0), (D.int 0), (D.int 0), (D.int 1), (D.int 0)]), sd1, sd2]) 1)])) then
        some [(qnth (Proofs.YtiojjmlccehpoaaGreat.q64 [pd0, (D.int pn1), (D.agg [(D.int 0), (D.int 0), (D.int 25), (D.int 0), (D.int 0), (D.int 2), (D.int 0), (D.int 0), (D.int 0)]), (qnth (Proofs.YtiojjmlccehpoaaGreat.q64 [pd0, (D.int pn1), (D.agg [(D.int 0), (D.int 0), (D.int 15), (D.int 0), (D.int 0), (D.int 0), (D.int 0), (D.int 1), (D.int 0)]), sd1, sd2]) 0), (qnth (Proofs.YtiojjmlccehpoaaGreat.q64 [pd0, (D.int pn1), (D.agg [(D.int 0), (D.int 0), (D.int 15), (D.int 0), (D.int 0), (D.int 0), (D.int 0), (D.int 1), (D.int 0)]), sd1, sd2]) 1)]) 0), (qnth (Proofs.YtiojjmlccehpoaaGreat.q64 [pd0, (D.int pn1), (D.agg [(D.int 0), (D.int 0), (D.int 25), (D.int 0), (D.int 0), (D.int 2), (D.int 0), (D.int 0), (D.int 0)]), (qnth (Proofs.YtiojjmlccehpoaaGreat.q64 [pd0, (D.int pn1), (D.agg [(D.int 0), (D.int 0), (D.int 15), (D.int 0), (D.int 0), (D.int 0), (D.int 0), (D.int 1), (D.int 0)]), sd1, sd2]) 0), (qnth (Proofs.YtiojjmlccehpoaaGreat.q64 [pd0, (D.int pn1), (D.agg [(D.int 0), (D.int 0), (D.int 15), (D.int 0), (D.int 0), (D.int 0), (D.int 0), (D.int 1), (D.int 0)]), sd1, sd2]) 1)]) 1)]
      else
        none
    else
      none := by
  have h : runI tb63 108 S108 1 13 [pd0, (D.int pn1)] [(D.int sn0), sd1, sd2] =
    bif (qcmp BinOp.eql (qlen sd2) (qlen sd2)) then
      bif (qcmp BinOp.eql (qlen sd1) (qlen sd1)) then
        bif (qsome (Proofs.YtiojjmlccehpoaaGreat.q64 [pd0, (D.int pn1), (D.agg [(D.int 0), (D.int 0), (D.int 15), (D.int 0), (D.int 0), (D.int 0), (D.int 0), (D.int 1), (D.int 0)]), sd1, sd2])) then
          bif (qcmp BinOp.eql (qlen (qnth (Proofs.YtiojjmlccehpoaaGreat.q64 [pd0, (D.int pn1), (D.agg [(D.int 0), (D.int 0), (D.int 15), (D.int 0), (D.int 0), (D.int 0), (D.int 0), (D.int 1), (D.int 0)]), sd1, sd2]) 1)) (qlen (qnth (Proofs.YtiojjmlccehpoaaGreat.q64 [pd0, (D.int pn1), (D.agg [(D.int 0), (D.int 0), (D.int 15), (D.int 0), (D.int 0), (D.int 0), (D.int 0), (D.int 1), (D.int 0)]), sd1, sd2]) 1))) then
            bif (qcmp BinOp.eql (qlen (qnth (Proofs.YtiojjmlccehpoaaGreat.q64 [pd0, (D.int pn1), (D.agg [(D.int 0), (D.int 0), (D.int 15), (D.int 0), (D.int 0), (D.int 0), (D.int 0), (D.int 1), (D.int 0)]), sd1, sd2]) 0)) (qlen (qnth (Proofs.YtiojjmlccehpoaaGreat.q64 [pd0, (D.int pn1), (D.agg [(D.int 0), (D.int 0), (D.int 15), (D.int 0), (D.int 0), (D.int 0), (D.int 0), (D.int 1), (D.int 0)]), sd1, sd2]) 0))) then
              bif (qsome (Proofs.YtiojjmlccehpoaaGreat.q64 [pd0, (D.int pn1), (D.agg [(D.int 0), (D.int 0), (D.int 25), (D.int 0), (D.int 0), (D.int 2), (D.int 0), (D.int 0), (D.int 0)]), (qnth (Proofs.YtiojjmlccehpoaaGreat.q64 [pd0, (D.int pn1), (D.agg [(D.int 0), (D.int 0), (D.int 15), (D.int 0), (D.int 0), (D.int 0), (D.int 0), (D.int 1), (D.int 0)]), sd1, sd2]) 0), (qnth (Proofs.YtiojjmlccehpoaaGreat.q64 [pd0, (D.int pn1), (D.agg [(D.int 0), (D.int 0), (D.int 15), (D.int 0), (D.int 0), (D.int 0), (D.int 0), (D.int 1), (D.int 0)]), sd1, sd2]) 1)])) then
                bif (qcmp BinOp.eql (qlen (qnth (Proofs.YtiojjmlccehpoaaGreat.q64 [pd0, (D.int pn1), (D.agg [(D.int 0), (D.int 0), (D.int 25), (D.int 0), (D.int 0), (D.int 2), (D.int 0), (D.int 0), (D.int 0)]), (qnth (Proofs.YtiojjmlccehpoaaGreat.q64 [pd0, (D.int pn1), (D.agg [(D.int 0), (D.int 0), (D.int 15), (D.int 0), (D.int 0), (D.int 0), (D.int 0), (D.int 1), (D.int 0)]), sd1, sd2]) 0), (qnth (Proofs.YtiojjmlccehpoaaGreat.q64 [pd0, (D.int pn1), (D.agg [(D.int 0), (D.int 0), (D.int 15), (D.int 0), (D.int 0), (D.int 0), (D.int 0), (D.int 1), (D.int 0)]), sd1, sd2]) 1)]) 1)) (qlen (qnth (Proofs.YtiojjmlccehpoaaGreat.q64 [pd0, (D.int pn1), (D.agg [(D.int 0), (D.int 0), (D.int 25), (D.int 0), (D.int 0), (D.int 2), (D.int 0), (D.int 0), (D.int 0)]), (qnth (Proofs.YtiojjmlccehpoaaGreat.q64 [pd0, (D.int pn1), (D.agg [(D.int 0), (D.int 0), (D.int 15), (D.int 0), (D.int 0), (D.int 0), (D.int 0), (D.int 1), (D.int 0)]), sd1, sd2]) 0), (qnth (Proofs.YtiojjmlccehpoaaGreat.q64 [pd0, (D.int pn1), (D.agg [(D.int 0), (D.int 0), (D.int 15), (D.int 0), (D.int 0), (D.int 0), (D.int 0), (D.int 1), (D.int 0)]), sd1, sd2]) 1)]) 1))) then
                  bif (qcmp BinOp.eql (qlen (qnth (Proofs.YtiojjmlccehpoaaGreat.q64 [pd0, (D.int pn1), (D.agg [(D.int 0), (D.int 0), (D.int 25), (D.int 0), (D.int 0), (D.int 2), (D.int 0), (D.int 0), (D.int 0)]), (qnth (Proofs.YtiojjmlccehpoaaGreat.q64 [pd0, (D.int pn1), (D.agg [(D.int 0), (D.int 0), (D.int 15), (D.int 0), (D.int 0), (D.int 0), (D.int 0), (D.int 1), (D.int 0)]), sd1, sd2]) 0), (qnth (Proofs.YtiojjmlccehpoaaGreat.q64 [pd0, (D.int pn1), (D.agg [(D.int 0), (D.int 0), (D.int 15), (D.int 0), (D.int 0), (D.int 0), (D.int 0), (D.int 1), (D.int 0)]), sd1, sd2]) 1)]) 0)) (qlen (qnth (Proofs.YtiojjmlccehpoaaGreat.q64 [pd0, (D.int pn1), (D.agg [(D.int 0), (D.int 0), (D.int 25), (D.int 0), (D.int 0), (D.int 2), (D.int 0), (D.int 0), (D.int 0)]), (qnth (Proofs.YtiojjmlccehpoaaGreat.q64 [pd0, (D.int pn1), (D.agg [(D.int 0), (D.int 0), (D.int 15), (D.int 0), (D.int 0), (D.int 0), (D.int 0), (D.int 1), (D.int 0)]), sd1, sd2]) 0), (qnth (Proofs.YtiojjmlccehpoaaGreat.q64 [pd0, (D.int pn1), (D.agg [(D.int 0), (D.int 0), (D.int 15), (D.int 0), (D.int 0), (D.int 0), (D.int 0), (D.int 1), (D.int 0)]), sd1, sd2]) 1)]) 0))) then
                    bif (qeqD pd0 pd0) then
                      bif (qeqD (D.int pn1) (D.int pn1)) then
                        some [(qnth (Proofs.YtiojjmlccehpoaaGreat.q64 [pd0, (D.int pn1), (D.agg [(D.int 0), (D.int 0), (D.int 25), (D.int 0), (D.int 0), (D.int 2), (D.int 0), (D.int 0), (D.int 0)]), (qnth (Proofs.YtiojjmlccehpoaaGreat.q64 [pd0, (D.int pn1), (D.agg [(D.int 0), (D.int 0), (D.int 15), (D.int 0), (D.int 0), (D.int 0), (D.int 0), (D.int 1), (D.int 0)]), sd1, sd2]) 0), (qnth (Proofs.YtiojjmlccehpoaaGreat.q64 [pd0, (D.int pn1), (D.agg [(D.int 0), (D.int 0), (D.int 15), (D.int 0), (D.int 0), (D.int 0), (D.int 0), (D.int 1), (D.int 0)]), sd1, sd2]) 1)]) 0), (qnth (Proofs.YtiojjmlccehpoaaGreat.q64 [pd0, (D.int pn1), (D.agg [(D.int 0), (D.int 0), (D.int 25), (D.int 0), (D.int 0), (D.int 2), (D.int 0), (D.int 0), (D.int 0)]), (qnth (Proofs.YtiojjmlccehpoaaGreat.q64 [pd0, (D.int pn1), (D.agg [(D.int 0), (D.int 0), (D.int 15), (D.int 0), (D.int 0), (D.int 0), (D.int 0), (D.int 1), (D.int 0)]), sd1, sd2]) 0), (qnth (Proofs.YtiojjmlccehpoaaGreat.q64 [pd0, (D.int pn1), (D.agg [(D.int 0), (D.int 0), (D.int 15), (D.int 0), (D.int 0), (D.int 0), (D.int 0), (D.int 1), (D.int 0)]), sd1, sd2]) 1)]) 1)]
                      else
                        none
                    else
                      none
                  else
                    none
                else
                  none
              else
                none
            else
              none
          else
            none
        else
          none
      else
        none
    else
      none := by kernel_rfl
  rw [h]; simp only [qeqD_self, qeqI_self, qeq_len, show qcmp BinOp.eql 0 (qlen (D.list [])) = true from qeq_len [], show ∀ a, qcmp BinOp.eql 1 (qlen (D.list [a])) = true from fun a => qeq_len [a], show ∀ a b, qcmp BinOp.eql 2 (qlen (D.list [a, b])) = true from fun a b => qeq_len [a, b], cond_true]

theorem K108_14 (pd0 : D) (pn1 : Int) (sn0 : Int) (sd1 : D) (sd2 : D) : runI tb63 108 S108 1 14 [pd0, (D.int pn1)] [(D.int sn0), sd1, sd2] =
    bif (qsome (Proofs.YtiojjmlccehpoaaGreat.q64 [pd0, (D.int pn1), (D.agg [(D.int 0), (D.int 0), (D.int 15), (D.int 0), (D.int 0), (D.int 0), (D.int 0), (D.int 1), (D.int 0)]), sd1, sd2])) then
      bif (qsome (Proofs.YtiojjmlccehpoaaGreat.q64 [pd0, (D.int pn1), (D.agg [(D.int 0), (D.int 0), (D.int 25), (D.int 0), (D.int 0), (D.int 3), (D.int 0), (D.int 0), (D.int 0)]), (qnth (Proofs.YtiojjmlccehpoaaGreat.q64 [pd0, (D.int pn1), (D.agg [(D.int 0), (D.int 0), (D.int 15), (D.int 0), (D.int 0), (D.int 0), (D.int 0), (D.int 1), (D.int 0)]), sd1, sd2]) 0), (qnth (Proofs.YtiojjmlccehpoaaGreat.q64 [pd0, (D.int pn1), (D.agg [(D.int 0), (D.int 0), (D.int 15), (D.int 0), (D.int 0), (D.int 0), (D.int 0), (D.int 1), (D.int 0)]), sd1, sd2]) 1)])) then
        some [(qnth (Proofs.YtiojjmlccehpoaaGreat.q64 [pd0, (D.int pn1), (D.agg [(D.int 0), (D.int 0), (D.int 25), (D.int 0), (D.int 0), (D.int 3), (D.int 0), (D.int 0), (D.int 0)]), (qnth (Proofs.YtiojjmlccehpoaaGreat.q64 [pd0, (D.int pn1), (D.agg [(D.int 0), (D.int 0), (D.int 15), (D.int 0), (D.int 0), (D.int 0), (D.int 0), (D.int 1), (D.int 0)]), sd1, sd2]) 0), (qnth (Proofs.YtiojjmlccehpoaaGreat.q64 [pd0, (D.int pn1), (D.agg [(D.int 0), (D.int 0), (D.int 15), (D.int 0), (D.int 0), (D.int 0), (D.int 0), (D.int 1), (D.int 0)]), sd1, sd2]) 1)]) 0), (qnth (Proofs.YtiojjmlccehpoaaGreat.q64 [pd0, (D.int pn1), (D.agg [(D.int 0), (D.int 0), (D.int 25), (D.int 0), (D.int 0), (D.int 3), (D.int 0), (D.int 0), (D.int 0)]), (qnth (Proofs.YtiojjmlccehpoaaGreat.q64 [pd0, (D.int pn1), (D.agg [(D.int 0), (D.int 0), (D.int 15), (D.int 0), (D.int 0), (D.int 0), (D.int 0), (D.int 1), (D.int 0)]), sd1, sd2]) 0), (qnth (Proofs.YtiojjmlccehpoaaGreat.q64 [pd0, (D.int pn1), (D.agg [(D.int 0), (D.int 0), (D.int 15), (D.int 0), (D.int 0), (D.int 0), (D.int 0), (D.int 1), (D.int 0)]), sd1, sd2]) 1)]) 1)]
      else
        none
    else
      none := by
  have h : runI tb63 108 S108 1 14 [pd0, (D.int pn1)] [(D.int sn0), sd1, sd2] =
    bif (qcmp BinOp.eql (qlen sd2) (qlen sd2)) then
      bif (qcmp BinOp.eql (qlen sd1) (qlen sd1)) then
        bif (qsome (Proofs.YtiojjmlccehpoaaGreat.q64 [pd0, (D.int pn1), (D.agg [(D.int 0), (D.int 0), (D.int 15), (D.int 0), (D.int 0), (D.int 0), (D.int 0), (D.int 1), (D.int 0)]), sd1, sd2])) then
          bif (qcmp BinOp.eql (qlen (qnth (Proofs.YtiojjmlccehpoaaGreat.q64 [pd0, (D.int pn1), (D.agg [(D.int 0), (D.int 0), (D.int 15), (D.int 0), (D.int 0), (D.int 0), (D.int 0), (D.int 1), (D.int 0)]), sd1, sd2]) 1)) (qlen (qnth (Proofs.YtiojjmlccehpoaaGreat.q64 [pd0, (D.int pn1), (D.agg [(D.int 0), (D.int 0), (D.int 15), (D.int 0), (D.int 0), (D.int 0), (D.int 0), (D.int 1), (D.int 0)]), sd1, sd2]) 1))) then
            bif (qcmp BinOp.eql (qlen (qnth (Proofs.YtiojjmlccehpoaaGreat.q64 [pd0, (D.int pn1), (D.agg [(D.int 0), (D.int 0), (D.int 15), (D.int 0), (D.int 0), (D.int 0), (D.int 0), (D.int 1), (D.int 0)]), sd1, sd2]) 0)) (qlen (qnth (Proofs.YtiojjmlccehpoaaGreat.q64 [pd0, (D.int pn1), (D.agg [(D.int 0), (D.int 0), (D.int 15), (D.int 0), (D.int 0), (D.int 0), (D.int 0), (D.int 1), (D.int 0)]), sd1, sd2]) 0))) then
              bif (qsome (Proofs.YtiojjmlccehpoaaGreat.q64 [pd0, (D.int pn1), (D.agg [(D.int 0), (D.int 0), (D.int 25), (D.int 0), (D.int 0), (D.int 3), (D.int 0), (D.int 0), (D.int 0)]), (qnth (Proofs.YtiojjmlccehpoaaGreat.q64 [pd0, (D.int pn1), (D.agg [(D.int 0), (D.int 0), (D.int 15), (D.int 0), (D.int 0), (D.int 0), (D.int 0), (D.int 1), (D.int 0)]), sd1, sd2]) 0), (qnth (Proofs.YtiojjmlccehpoaaGreat.q64 [pd0, (D.int pn1), (D.agg [(D.int 0), (D.int 0), (D.int 15), (D.int 0), (D.int 0), (D.int 0), (D.int 0), (D.int 1), (D.int 0)]), sd1, sd2]) 1)])) then
                bif (qcmp BinOp.eql (qlen (qnth (Proofs.YtiojjmlccehpoaaGreat.q64 [pd0, (D.int pn1), (D.agg [(D.int 0), (D.int 0), (D.int 25), (D.int 0), (D.int 0), (D.int 3), (D.int 0), (D.int 0), (D.int 0)]), (qnth (Proofs.YtiojjmlccehpoaaGreat.q64 [pd0, (D.int pn1), (D.agg [(D.int 0), (D.int 0), (D.int 15), (D.int 0), (D.int 0), (D.int 0), (D.int 0), (D.int 1), (D.int 0)]), sd1, sd2]) 0), (qnth (Proofs.YtiojjmlccehpoaaGreat.q64 [pd0, (D.int pn1), (D.agg [(D.int 0), (D.int 0), (D.int 15), (D.int 0), (D.int 0), (D.int 0), (D.int 0), (D.int 1), (D.int 0)]), sd1, sd2]) 1)]) 1)) (qlen (qnth (Proofs.YtiojjmlccehpoaaGreat.q64 [pd0, (D.int pn1), (D.agg [(D.int 0), (D.int 0), (D.int 25), (D.int 0), (D.int 0), (D.int 3), (D.int 0), (D.int 0), (D.int 0)]), (qnth (Proofs.YtiojjmlccehpoaaGreat.q64 [pd0, (D.int pn1), (D.agg [(D.int 0), (D.int 0), (D.int 15), (D.int 0), (D.int 0), (D.int 0), (D.int 0), (D.int 1), (D.int 0)]), sd1, sd2]) 0), (qnth (Proofs.YtiojjmlccehpoaaGreat.q64 [pd0, (D.int pn1), (D.agg [(D.int 0), (D.int 0), (D.int 15), (D.int 0), (D.int 0), (D.int 0), (D.int 0), (D.int 1), (D.int 0)]), sd1, sd2]) 1)]) 1))) then
                  bif (qcmp BinOp.eql (qlen (qnth (Proofs.YtiojjmlccehpoaaGreat.q64 [pd0, (D.int pn1), (D.agg [(D.int 0), (D.int 0), (D.int 25), (D.int 0), (D.int 0), (D.int 3), (D.int 0), (D.int 0), (D.int 0)]), (qnth (Proofs.YtiojjmlccehpoaaGreat.q64 [pd0, (D.int pn1), (D.agg [(D.int 0), (D.int 0), (D.int 15), (D.int 0), (D.int 0), (D.int 0), (D.int 0), (D.int 1), (D.int 0)]), sd1, sd2]) 0), (qnth (Proofs.YtiojjmlccehpoaaGreat.q64 [pd0, (D.int pn1), (D.agg [(D.int 0), (D.int 0), (D.int 15), (D.int 0), (D.int 0), (D.int 0), (D.int 0), (D.int 1), (D.int 0)]), sd1, sd2]) 1)]) 0)) (qlen (qnth (Proofs.YtiojjmlccehpoaaGreat.q64 [pd0, (D.int pn1), (D.agg [(D.int 0), (D.int 0), (D.int 25), (D.int 0), (D.int 0), (D.int 3), (D.int 0), (D.int 0), (D.int 0)]), (qnth (Proofs.YtiojjmlccehpoaaGreat.q64 [pd0, (D.int pn1), (D.agg [(D.int 0), (D.int 0), (D.int 15), (D.int 0), (D.int 0), (D.int 0), (D.int 0), (D.int 1), (D.int 0)]), sd1, sd2]) 0), (qnth (Proofs.YtiojjmlccehpoaaGreat.q64 [pd0, (D.int pn1), (D.agg [(D.int 0), (D.int 0), (D.int 15), (D.int 0), (D.int 0), (D.int 0), (D.int 0), (D.int 1), (D.int 0)]), sd1, sd2]) 1)]) 0))) then
                    bif (qeqD pd0 pd0) then
                      bif (qeqD (D.int pn1) (D.int pn1)) then
                        some [(qnth (Proofs.YtiojjmlccehpoaaGreat.q64 [pd0, (D.int pn1), (D.agg [(D.int 0), (D.int 0), (D.int 25), (D.int 0), (D.int 0), (D.int 3), (D.int 0), (D.int 0), (D.int 0)]), (qnth (Proofs.YtiojjmlccehpoaaGreat.q64 [pd0, (D.int pn1), (D.agg [(D.int 0), (D.int 0), (D.int 15), (D.int 0), (D.int 0), (D.int 0), (D.int 0), (D.int 1), (D.int 0)]), sd1, sd2]) 0), (qnth (Proofs.YtiojjmlccehpoaaGreat.q64 [pd0, (D.int pn1), (D.agg [(D.int 0), (D.int 0), (D.int 15), (D.int 0), (D.int 0), (D.int 0), (D.int 0), (D.int 1), (D.int 0)]), sd1, sd2]) 1)]) 0), (qnth (Proofs.YtiojjmlccehpoaaGreat.q64 [pd0, (D.int pn1), (D.agg [(D.int 0), (D.int 0), (D.int 25), (D.int 0), (D.int 0), (D.int 3), (D.int 0), (D.int 0), (D.int 0)]), (qnth (Proofs.YtiojjmlccehpoaaGreat.q64 [pd0, (D.int pn1), (D.agg [(D.int 0), (D.int 0), (D.int 15), (D.int 0), (D.int 0), (D.int 0), (D.int 0), (D.int 1), (D.int 0)]), sd1, sd2]) 0), (qnth (Proofs.YtiojjmlccehpoaaGreat.q64 [pd0, (D.int pn1), (D.agg [(D.int 0), (D.int 0), (D.int 15), (D.int 0), (D.int 0), (D.int 0), (D.int 0), (D.int 1), (D.int 0)]), sd1, sd2]) 1)]) 1)]
                      else
                        none
                    else
                      none
                  else
                    none
                else
                  none
              else
                none
            else
              none
          else
            none
        else
          none
      else
        none
    else
      none := by kernel_rfl
  rw [h]; simp only [qeqD_self, qeqI_self, qeq_len, show qcmp BinOp.eql 0 (qlen (D.list [])) = true from qeq_len [], show ∀ a, qcmp BinOp.eql 1 (qlen (D.list [a])) = true from fun a => qeq_len [a], show ∀ a b, qcmp BinOp.eql 2 (qlen (D.list [a, b])) = true from fun a b => qeq_len [a, b], cond_true]

theorem K108_15 (pd0 : D) (pn1 : Int) (sn0 : Int) (sd1 : D) (sd2 : D) : runI tb63 108 S108 1 15 [pd0, (D.int pn1)] [(D.int sn0), sd1, sd2] =
    bif (qsome (Proofs.YtiojjmlccehpoaaGreat.q64 [pd0, (D.int pn1), (D.agg [(D.int 0), (D.int 0), (D.int 15), (D.int 0), (D.int 0), (D.int 0), (D.int 0), (D.int 1), (D.int 0)]), sd1, sd2])) then
      bif (qsome (Proofs.YtiojjmlccehpoaaGreat.q64 [pd0, (D.int pn1), (D.agg [(D.int 0), (D.int 0), (D.int 25), (D.int 0), (D.int 0), (D.int 7), (D.int 0), (D.int 0), (D.int 0)]), (qnth (Proofs.YtiojjmlccehpoaaGreat.q64 [pd0, (D.int pn1), (D.agg [(D.int 0), (D.int 0), (D.int 15), (D.int 0), (D.int 0), (D.int 0), (D.int 0), (D.int 1), (D.int 0)]), sd1, sd2]) 0), (qnth (Proofs.YtiojjmlccehpoaaGreat.q64 [pd0, (D.int pn1), (D.agg [(D.int 0), (D.int 0), (D.int 15), (D.int 0), (D.int 0), (D.int 0), (D.int 0), (D.int 1), (D.int 0)]), sd1, sd2]) 1)])) then
        some [(qnth (Proofs.YtiojjmlccehpoaaGreat.q64 [pd0, (D.int pn1), (D.agg [(D.int 0), (D.int 0), (D.int 25), (D.int 0), (D.int 0), (D.int 7), (D.int 0), (D.int 0), (D.int 0)]), (qnth (Proofs.YtiojjmlccehpoaaGreat.q64 [pd0, (D.int pn1), (D.agg [(D.int 0), (D.int 0), (D.int 15), (D.int 0), (D.int 0), (D.int 0), (D.int 0), (D.int 1), (D.int 0)]), sd1, sd2]) 0), (qnth (Proofs.YtiojjmlccehpoaaGreat.q64 [pd0, (D.int pn1), (D.agg [(D.int 0), (D.int 0), (D.int 15), (D.int 0), (D.int 0), (D.int 0), (D.int 0), (D.int 1), (D.int 0)]), sd1, sd2]) 1)]) 0), (qnth (Proofs.YtiojjmlccehpoaaGreat.q64 [pd0, (D.int pn1), (D.agg [(D.int 0), (D.int 0), (D.int 25), (D.int 0), (D.int 0), (D.int 7), (D.int 0), (D.int 0), (D.int 0)]), (qnth (Proofs.YtiojjmlccehpoaaGreat.q64 [pd0, (D.int pn1), (D.agg [(D.int 0), (D.int 0), (D.int 15), (D.int 0), (D.int 0), (D.int 0), (D.int 0), (D.int 1), (D.int 0)]), sd1, sd2]) 0), (qnth (Proofs.YtiojjmlccehpoaaGreat.q64 [pd0, (D.int pn1), (D.agg [(D.int 0), (D.int 0), (D.int 15), (D.int 0), (D.int 0), (D.int 0), (D.int 0), (D.int 1), (D.int 0)]), sd1, sd2]) 1)]) 1)]
      else
        none
    else
      none := by
  have h : runI tb63 108 S108 1 15 [pd0, (D.int pn1)] [(D.int sn0), sd1, sd2] =
    bif (qcmp BinOp.eql (qlen sd2) (qlen sd2)) then
      bif (qcmp BinOp.eql (qlen sd1) (qlen sd1)) then
        bif (qsome (Proofs.YtiojjmlccehpoaaGreat.q64 [pd0, (D.int pn1), (D.agg [(D.int 0), (D.int 0), (D.int 15), (D.int 0), (D.int 0), (D.int 0), (D.int 0), (D.int 1), (D.int 0)]), sd1, sd2])) then
          bif (qcmp BinOp.eql (qlen (qnth (Proofs.YtiojjmlccehpoaaGreat.q64 [pd0, (D.int pn1), (D.agg [(D.int 0), (D.int 0), (D.int 15), (D.int 0), (D.int 0), (D.int 0), (D.int 0), (D.int 1), (D.int 0)]), sd1, sd2]) 1)) (qlen (qnth (Proofs.YtiojjmlccehpoaaGreat.q64 [pd0, (D.int pn1), (D.agg [(D.int 0), (D.int 0), (D.int 15), (D.int 0), (D.int 0), (D.int 0), (D.int 0), (D.int 1), (D.int 0)]), sd1, sd2]) 1))) then
            bif (qcmp BinOp.eql (qlen (qnth (Proofs.YtiojjmlccehpoaaGreat.q64 [pd0, (D.int pn1), (D.agg [(D.int 0), (D.int 0), (D.int 15), (D.int 0), (D.int 0), (D.int 0), (D.int 0), (D.int 1), (D.int 0)]), sd1, sd2]) 0)) (qlen (qnth (Proofs.YtiojjmlccehpoaaGreat.q64 [pd0, (D.int pn1), (D.agg [(D.int 0), (D.int 0), (D.int 15), (D.int 0), (D.int 0), (D.int 0), (D.int 0), (D.int 1), (D.int 0)]), sd1, sd2]) 0))) then
              bif (qsome (Proofs.YtiojjmlccehpoaaGreat.q64 [pd0, (D.int pn1), (D.agg [(D.int 0), (D.int 0), (D.int 25), (D.int 0), (D.int 0), (D.int 7), (D.int 0), (D.int 0), (D.int 0)]), (qnth (Proofs.YtiojjmlccehpoaaGreat.q64 [pd0, (D.int pn1), (D.agg [(D.int 0), (D.int 0), (D.int 15), (D.int 0), (D.int 0), (D.int 0), (D.int 0), (D.int 1), (D.int 0)]), sd1, sd2]) 0), (qnth (Proofs.YtiojjmlccehpoaaGreat.q64 [pd0, (D.int pn1), (D.agg [(D.int 0), (D.int 0), (D.int 15), (D.int 0), (D.int 0), (D.int 0), (D.int 0), (D.int 1), (D.int 0)]), sd1, sd2]) 1)])) then
                bif (qcmp BinOp.eql (qlen (qnth (Proofs.YtiojjmlccehpoaaGreat.q64 [pd0, (D.int pn1), (D.agg [(D.int 0), (D.int 0), (D.int 25), (D.int 0), (D.int 0), (D.int 7), (D.int 0), (D.int 0), (D.int 0)]), (qnth (Proofs.YtiojjmlccehpoaaGreat.q64 [pd0, (D.int pn1), (D.agg [(D.int 0), (D.int 0), (D.int 15), (D.int 0), (D.int 0), (D.int 0), (D.int 0), (D.int 1), (D.int 0)]), sd1, sd2]) 0), (qnth (Proofs.YtiojjmlccehpoaaGreat.q64 [pd0, (D.int pn1), (D.agg [(D.int 0), (D.int 0), (D.int 15), (D.int 0), (D.int 0), (D.int 0), (D.int 0), (D.int 1), (D.int 0)]), sd1, sd2]) 1)]) 1)) (qlen (qnth (Proofs.YtiojjmlccehpoaaGreat.q64 [pd0, (D.int pn1), (D.agg [(D.int 0), (D.int 0), (D.int 25), (D.int 0), (D.int 0), (D.int 7), (D.int 0), (D.int 0), (D.int 0)]), (qnth (Proofs.YtiojjmlccehpoaaGreat.q64 [pd0, (D.int pn1), (D.agg [(D.int 0), (D.int 0), (D.int 15), (D.int 0), (D.int 0), (D.int 0), (D.int 0), (D.int 1), (D.int 0)]), sd1, sd2]) 0), (qnth (Proofs.YtiojjmlccehpoaaGreat.q64 [pd0, (D.int pn1), (D.agg [(D.int 0), (D.int 0), (D.int 15), (D.int 0), (D.int 0), (D.int 0), (D.int 0), (D.int 1), (D.int 0)]), sd1, sd2]) 1)]) 1))) then
                  bif (qcmp BinOp.eql (qlen (qnth (Proofs.YtiojjmlccehpoaaGreat.q64 [pd0, (D.int pn1), (D.agg [(D.int 0), (D.int 0), (D.int 25), (D.int 0), (D.int 0), (D.int 7), (D.int 0), (D.int 0), (D.int 0)]), (qnth (Proofs.YtiojjmlccehpoaaGreat.q64 [pd0, (D.int pn1), (D.agg [(D.int 0), (D.int 0), (D.int 15), (D.int 0), (D.int 0), (D.int 0), (D.int 0), (D.int 1), (D.int 0)]), sd1, sd2]) 0), (qnth (Proofs.YtiojjmlccehpoaaGreat.q64 [pd0, (D.int pn1), (D.agg [(D.int 0), (D.int 0), (D.int 15), (D.int 0), (D.int 0), (D.int 0), (D.int 0), (D.int 1), (D.int 0)]), sd1, sd2]) 1)]) 0)) (qlen (qnth (Proofs.YtiojjmlccehpoaaGreat.q64 [pd0, (D.int pn1), (D.agg [(D.int 0), (D.int 0), (D.int 25), (D.int 0), (D.int 0), (D.int 7), (D.int 0), (D.int 0), (D.int 0)]), (qnth (Proofs.YtiojjmlccehpoaaGreat.q64 [pd0, (D.int pn1), (D.agg [(D.int 0), (D.int 0), (D.int 15), (D.int 0), (D.int 0), (D.int 0), (D.int 0), (D.int 1), (D.int 0)]), sd1, sd2]) 0), (qnth (Proofs.YtiojjmlccehpoaaGreat.q64 [pd0, (D.int pn1), (D.agg [(D.int 0), (D.int 0), (D.int 15), (D.int 0), (D.int 0), (D.int 0), (D.int 0), (D.int 1), (D.int 0)]), sd1, sd2]) 1)]) 0))) then
                    bif (qeqD pd0 pd0) then
                      bif (qeqD (D.int pn1) (D.int pn1)) then
                        some [(qnth (Proofs.YtiojjmlccehpoaaGreat.q64 [pd0, (D.int pn1), (D.agg [(D.int 0), (D.int 0), (D.int 25), (D.int 0), (D.int 0), (D.int 7), (D.int 0), (D.int 0), (D.int 0)]), (qnth (Proofs.YtiojjmlccehpoaaGreat.q64 [pd0, (D.int pn1), (D.agg [(D.int 0), (D.int 0), (D.int 15), (D.int 0), (D.int 0), (D.int 0), (D.int 0), (D.int 1), (D.int 0)]), sd1, sd2]) 0), (qnth (Proofs.YtiojjmlccehpoaaGreat.q64 [pd0, (D.int pn1), (D.agg [(D.int 0), (D.int 0), (D.int 15), (D.int 0), (D.int 0), (D.int 0), (D.int 0), (D.int 1), (D.int 0)]), sd1, sd2]) 1)]) 0), (qnth (Proofs.YtiojjmlccehpoaaGreat.q64 [pd0, (D.int pn1), (D.agg [(D.int 0), (D.int 0), (D.int 25), (D.int 0), (D.int 0), (D.int 7), (D.int 0), (D.int 0), (D.int 0)]), (qnth (Proofs.YtiojjmlccehpoaaGreat.q64 [pd0, (D.int pn1), (D.agg [(D.int 0), (D.int 0), (D.int 15), (D.int 0), (D.int 0), (D.int 0), (D.int 0), (D.int 1), (D.int 0)]), sd1, sd2]) 0), (qnth (Proofs.YtiojjmlccehpoaaGreat.q64 [pd0, (D.int pn1), (D.agg [(D.int 0), (D.int 0), (D.int 15), (D.int 0), (D.int 0), (D.int 0), (D.int 0), (D.int 1), (D.int 0)]), sd1, sd2]) 1)]) 1)]
                      else
                        none
                    else
                      none
                  else
                    none
                else
                  none
              else
                none
            else
              none
          else
            none
        else
          none
      else
        none
    else
      none := by kernel_rfl
  rw [h]; simp only [qeqD_self, qeqI_self, qeq_len, show qcmp BinOp.eql 0 (qlen (D.list [])) = true from qeq_len [], show ∀ a, qcmp BinOp.eql 1 (qlen (D.list [a])) = true from fun a => qeq_len [a], show ∀ a b, qcmp BinOp.eql 2 (qlen (D.list [a, b])) = true from fun a b => qeq_len [a, b], cond_true]

theorem K108_16 (pd0 : D) (pn1 : Int) (sn0 : Int) (sd1 : D) (sd2 : D) : runI tb63 108 S108 1 16 [pd0, (D.int pn1)] [(D.int sn0), sd1, sd2] =
    bif (qsome (Proofs.YtiojjmlccehpoaaGreat.q64 [pd0, (D.int pn1), (D.agg [(D.int 0), (D.int 0), (D.int 15), (D.int 0), (D.int 0), (D.int 0), (D.int 0), (D.int 1), (D.int 0)]), sd1, sd2])) then
      none
    else
      none := by
  have h : runI tb63 108 S108 1 16 [pd0, (D.int pn1)] [(D.int sn0), sd1, sd2] =
    bif (qcmp BinOp.eql (qlen sd2) (qlen sd2)) then
      bif (qcmp BinOp.eql (qlen sd1) (qlen sd1)) then
        bif (qsome (Proofs.YtiojjmlccehpoaaGreat.q64 [pd0, (D.int pn1), (D.agg [(D.int 0), (D.int 0), (D.int 15), (D.int 0), (D.int 0), (D.int 0), (D.int 0), (D.int 1), (D.int 0)]), sd1, sd2])) then
          none
        else
          none
      else
        none
    else
      none := by kernel_rfl
  rw [h]; simp only [qeqD_self, qeqI_self, qeq_len, show qcmp BinOp.eql 0 (qlen (D.list [])) = true from qeq_len [], show ∀ a, qcmp BinOp.eql 1 (qlen (D.list [a])) = true from fun a => qeq_len [a], show ∀ a b, qcmp BinOp.eql 2 (qlen (D.list [a, b])) = true from fun a b => qeq_len [a, b], cond_true]

theorem K108_17 (pd0 : D) (pn1 : Int) (sn0 : Int) (sd1 : D) (sd2 : D) : runI tb63 108 S108 1 17 [pd0, (D.int pn1)] [(D.int sn0), sd1, sd2] =
    bif (qsome (Proofs.YtiojjmlccehpoaaGreat.q64 [pd0, (D.int pn1), (D.agg [(D.int 0), (D.int 0), (D.int 15), (D.int 0), (D.int 0), (D.int 0), (D.int 0), (D.int 1), (D.int 0)]), sd1, sd2])) then
      none
    else
      none := by
  have h : runI tb63 108 S108 1 17 [pd0, (D.int pn1)] [(D.int sn0), sd1, sd2] =
    bif (qcmp BinOp.eql (qlen sd2) (qlen sd2)) then
      bif (qcmp BinOp.eql (qlen sd1) (qlen sd1)) then
        bif (qsome (Proofs.YtiojjmlccehpoaaGreat.q64 [pd0, (D.int pn1), (D.agg [(D.int 0), (D.int 0), (D.int 15), (D.int 0), (D.int 0), (D.int 0), (D.int 0), (D.int 1), (D.int 0)]), sd1, sd2])) then
          none
        else
          none
      else
        none
    else
      none := by kernel_rfl
  rw [h]; simp only [qeqD_self, qeqI_self, qeq_len, show qcmp BinOp.eql 0 (qlen (D.list [])) = true from qeq_len [], show ∀ a, qcmp BinOp.eql 1 (qlen (D.list [a])) = true from fun a => qeq_len [a], show ∀ a b, qcmp BinOp.eql 2 (qlen (D.list [a, b])) = true from fun a b => qeq_len [a, b], cond_true]

theorem K108_18 (pd0 : D) (pn1 : Int) (sn0 : Int) (sd1 : D) (sd2 : D) : runI tb63 108 S108 1 18 [pd0, (D.int pn1)] [(D.int sn0), sd1, sd2] =
    bif (qsome (Proofs.YtiojjmlccehpoaaGreat.q64 [pd0, (D.int pn1), (D.agg [(D.int 0), (D.int 0), (D.int 15), (D.int 0), (D.int 0), (D.int 0), (D.int 0), (D.int 1), (D.int 0)]), sd1, sd2])) then
      none
    else
      none := by
  have h : runI tb63 108 S108 1 18 [pd0, (D.int pn1)] [(D.int sn0), sd1, sd2] =
    bif (qcmp BinOp.eql (qlen sd2) (qlen sd2)) then
      bif (qcmp BinOp.eql (qlen sd1) (qlen sd1)) then
        bif (qsome (Proofs.YtiojjmlccehpoaaGreat.q64 [pd0, (D.int pn1), (D.agg [(D.int 0), (D.int 0), (D.int 15), (D.int 0), (D.int 0), (D.int 0), (D.int 0), (D.int 1), (D.int 0)]), sd1, sd2])) then
          none
        else
          none
      else
        none
    else
      none := by kernel_rfl
  rw [h]; simp only [qeqD_self, qeqI_self, qeq_len, show qcmp BinOp.eql 0 (qlen (D.list [])) = true from qeq_len [], show ∀ a, qcmp BinOp.eql 1 (qlen (D.list [a])) = true from fun a => qeq_len [a], show ∀ a b, qcmp BinOp.eql 2 (qlen (D.list [a, b])) = true from fun a b => qeq_len [a, b], cond_true]

theorem K108_19 (pd0 : D) (pn1 : Int) (sn0 : Int) (sd1 : D) (sd2 : D) : runI tb63 108 S108 1 19 [pd0, (D.int pn1)] [(D.int sn0), sd1, sd2] =
    bif (qsome (Proofs.YtiojjmlccehpoaaGreat.q64 [pd0, (D.int pn1), (D.agg [(D.int 0), (D.int 0), (D.int 15), (D.int 0), (D.int 0), (D.int 0), (D.int 0), (D.int 1), (D.int 0)]), sd1, sd2])) then
      none
    else
      none := by
  have h : runI tb63 108 S108 1 19 [pd0, (D.int pn1)] [(D.int sn0), sd1, sd2] =
    bif (qcmp BinOp.eql (qlen sd2) (qlen sd2)) then
      bif (qcmp BinOp.eql (qlen sd1) (qlen sd1)) then
        bif (qsome (Proofs.YtiojjmlccehpoaaGreat.q64 [pd0, (D.int pn1), (D.agg [(D.int 0), (D.int 0), (D.int 15), (D.int 0), (D.int 0), (D.int 0), (D.int 0), (D.int 1), (D.int 0)]), sd1, sd2])) then
          none
        else
          none
      else
        none
    else
      none := by kernel_rfl
  rw [h]; simp only [qeqD_self, qeqI_self, qeq_len, show qcmp BinOp.eql 0 (qlen (D.list [])) = true from qeq_len [], show ∀ a, qcmp BinOp.eql 1 (qlen (D.list [a])) = true from fun a => qeq_len [a], show ∀ a b, qcmp BinOp.eql 2 (qlen (D.list [a, b])) = true from fun a b => qeq_len [a, b], cond_true]

noncomputable def F108 : List D → Option (List D) := splitI tb63 108 S108 1 0 20

noncomputable def q108 : List D → Option (List D) := veil F108

theorem q108_eq : q108 = F108 := veil_eq _

theorem sound108 : SoundF env.P 108 S108 q108 := by rw [q108_eq]; exact splitI_sound ok_tb63 (fun p s => by kernel_rfl)

noncomputable def tb108 : Tb := Tb.addF tb63 108 S108 q108

theorem ok_tb108 : TbOk env tb108 := TbOk.addF ok_tb63 (by kernel_rfl) sound108

end Go.Proofs.YtiojjmlccehpoaaGreat

open Go Go.AM
namespace Go.Proofs.YtiojjmlccehpoaaGreat
set_option maxRecDepth 100000
set_option linter.unusedSimpArgs false
set_option linter.unusedVariables false
def S45 : FunS := ⟨[⟨true, (.ptr 0 0)⟩, ⟨true, (.dat 25)⟩], [(.lst true 3), (.lst true 46), (.cells [⟨false, (.osl 1 46)⟩, ⟨false, (.osl 2 3)⟩, ⟨false, .any⟩, ⟨false, .any⟩, ⟨false, (.rows 9)⟩, ⟨false, .any⟩, ⟨false, (.int .u32)⟩, ⟨false, .any⟩])], [⟨true, (.tup [])⟩], [(.lst true 3), (.lst true 46), .skip, .skip, (.cells [⟨true, (.osl 3 46)⟩, ⟨true, (.osl 4 3)⟩, ⟨true, .any⟩, ⟨true, .any⟩, ⟨false, (.rows 9)⟩, ⟨true, .any⟩, ⟨false, (.int .u32)⟩, ⟨true, .any⟩])]⟩

noncomputable def tbR45 (Q : List D → Option (List D)) : Tb := Tb.addF tb108 45 S45 Q

theorem ok_tbR45 (Q : List D → Option (List D)) (hQ : SoundF env.P 45 S45 Q) : TbOk env (tbR45 Q) := TbOk.addF ok_tb108 (by kernel_rfl) hQ

noncomputable def Fb45 (Q : List D → Option (List D)) : List D → Option (List D) := liftX env (tbR45 Q ) 60 6 45 S45

noncomputable def Fb45_a0 (Q : List D → Option (List D)) (pd0 : D) (pn1 : Int) (sd0 : D) (sd1 : D) (sd2 : D) : D := (qnth (Q [pd0, (D.int pn1), (qget (qfld sd0 4) 0), sd1, sd2]) 1)

noncomputable def Fb45_a1 (Q : List D → Option (List D)) (pd0 : D) (pn1 : Int) (sd0 : D) (sd1 : D) (sd2 : D) : D := (qnth (Q [pd0, (D.int pn1), (qget (qfld sd0 4) 0), sd1, sd2]) 0)

noncomputable def Fb45_a2 (Q : List D → Option (List D)) (pd0 : D) (pn1 : Int) (sd0 : D) (sd1 : D) (sd2 : D) : D := (qnth (Proofs.YtiojjmlccehpoaaGreat.q64 [pd0, (D.int pn1), (D.agg [(D.int 0), (D.int 0), (D.int 3), (D.int 0), (D.int 0), (D.int 0), (D.int 0), (D.int 0), (D.int 0)]), (Fb45_a1 Q pd0 pn1 sd0 sd1 sd2), (Fb45_a0 Q pd0 pn1 sd0 sd1 sd2)]) 1)

noncomputable def Fb45_a3 (Q : List D → Option (List D)) (pd0 : D) (pn1 : Int) (sd0 : D) (sd1 : D) (sd2 : D) : D := (qnth (Proofs.YtiojjmlccehpoaaGreat.q64 [pd0, (D.int pn1), (D.agg [(D.int 0), (D.int 0), (D.int 3), (D.int 0), (D.int 0), (D.int 0), (D.int 0), (D.int 0), (D.int 0)]), (Fb45_a1 Q pd0 pn1 sd0 sd1 sd2), (Fb45_a0 Q pd0 pn1 sd0 sd1 sd2)]) 0)

noncomputable def Fb45_a4 (Q : List D → Option (List D)) (pd0 : D) (pn1 : Int) (sd0 : D) (sd1 : D) (sd2 : D) : D := (qnth (Q [pd0, (D.int pn1), (qget (qfld sd0 4) 1), (Fb45_a3 Q pd0 pn1 sd0 sd1 sd2), (Fb45_a2 Q pd0 pn1 sd0 sd1 sd2)]) 1)

noncomputable def Fb45_a5 (Q : List D → Option (List D)) (pd0 : D) (pn1 : Int) (sd0 : D) (sd1 : D) (sd2 : D) : D := (qnth (Q [pd0, (D.int pn1), (qget (qfld sd0 4) 1), (Fb45_a3 Q pd0 pn1 sd0 sd1 sd2), (Fb45_a2 Q pd0 pn1 sd0 sd1 sd2)]) 0)

noncomputable def Fb45_a6 (Q : List D → Option (List D)) (pd0 : D) (pn1 : Int) (sd0 : D) (sd1 : D) (sd2 : D) : D := (qnth (Proofs.YtiojjmlccehpoaaGreat.q64 [pd0, (D.int pn1), (D.agg [(D.int 0), (D.int 0), (D.int 5), (D.int 0), (D.int 0), (D.int 0), (D.int 1), (D.int 0), (D.int 0)]), (Fb45_a5 Q pd0 pn1 sd0 sd1 sd2), (Fb45_a4 Q pd0 pn1 sd0 sd1 sd2)]) 1)

noncomputable def Fb45_a7 (Q : List D → Option (List D)) (pd0 : D) (pn1 : Int) (sd0 : D) (sd1 : D) (sd2 : D) : D := (qnth (Proofs.YtiojjmlccehpoaaGreat.q64 [pd0, (D.int pn1), (D.agg [(D.int 0), (D.int 0), (D.int 5), (D.int 0), (D.int 0), (D.int 0), (D.int 1), (D.int 0), (D.int 0)]), (Fb45_a5 Q pd0 pn1 sd0 sd1 sd2), (Fb45_a4 Q pd0 pn1 sd0 sd1 sd2)]) 0)

noncomputable def Fb45_a8 (Q : List D → Option (List D)) (pd0 : D) (pn1 : Int) (sd0 : D) (sd1 : D) (sd2 : D) : D := (qnth (Proofs.YtiojjmlccehpoaaGreat.q64 [pd0, (D.int pn1), (D.agg [(D.int 0), (D.int 0), (D.int 4), (D.int 0), (D.int 0), (D.int 0), (D.int 0), (D.int 0), (D.int 0)]), (Fb45_a7 Q pd0 pn1 sd0 sd1 sd2), (Fb45_a6 Q pd0 pn1 sd0 sd1 sd2)]) 1)

noncomputable def Fb45_a9 (Q : List D → Option (List D)) (pd0 : D) (pn1 : Int) (sd0 : D) (sd1 : D) (sd2 : D) : D := (qnth (Proofs.YtiojjmlccehpoaaGreat.q64 [pd0, (D.int pn1), (D.agg [(D.int 0), (D.int 0), (D.int 4), (D.int 0), (D.int 0), (D.int 0), (D.int 0), (D.int 0), (D.int 0)]), (Fb45_a7 Q pd0 pn1 sd0 sd1 sd2), (Fb45_a6 Q pd0 pn1 sd0 sd1 sd2)]) 0)

noncomputable def Fb45_a10 (Q : List D → Option (List D)) (pd0 : D) (pn1 : Int) (sd0 : D) (sd1 : D) (sd2 : D) : D := (qnth (Proofs.YtiojjmlccehpoaaGreat.q108 [pd0, (D.int pn1), (D.int (qint (qfld sd0 0))), (Fb45_a9 Q pd0 pn1 sd0 sd1 sd2), (Fb45_a8 Q pd0 pn1 sd0 sd1 sd2)]) 1)

noncomputable def Fb45_a11 (Q : List D → Option (List D)) (pd0 : D) (pn1 : Int) (sd0 : D) (sd1 : D) (sd2 : D) : D := (qnth (Proofs.YtiojjmlccehpoaaGreat.q108 [pd0, (D.int pn1), (D.int (qint (qfld sd0 0))), (Fb45_a9 Q pd0 pn1 sd0 sd1 sd2), (Fb45_a8 Q pd0 pn1 sd0 sd1 sd2)]) 0)

noncomputable def Fb45_a12 (Q : List D → Option (List D)) (pd0 : D) (pn1 : Int) (sd0 : D) (sd1 : D) (sd2 : D) : D := (qnth (Proofs.YtiojjmlccehpoaaGreat.q64 [pd0, (D.int pn1), (D.agg [(D.int 0), (D.int (qwrap IntKind.u32 (qbin BinOp.sub IntKind.i64 32 (qbin BinOp.mul IntKind.i64 8 (qint (qfld sd0 3)))))), (D.int 12), (D.int 1), (D.int 0), (D.int 0), (D.int 0), (D.int 0), (D.int 0)]), (Fb45_a1 Q pd0 pn1 sd0 sd1 sd2), (Fb45_a0 Q pd0 pn1 sd0 sd1 sd2)]) 1)

noncomputable def Fb45_a13 (Q : List D → Option (List D)) (pd0 : D) (pn1 : Int) (sd0 : D) (sd1 : D) (sd2 : D) : D := (qnth (Proofs.YtiojjmlccehpoaaGreat.q64 [pd0, (D.int pn1), (D.agg [(D.int 0), (D.int (qwrap IntKind.u32 (qbin BinOp.sub IntKind.i64 32 (qbin BinOp.mul IntKind.i64 8 (qint (qfld sd0 3)))))), (D.int 12), (D.int 1), (D.int 0), (D.int 0), (D.int 0), (D.int 0), (D.int 0)]), (Fb45_a1 Q pd0 pn1 sd0 sd1 sd2), (Fb45_a0 Q pd0 pn1 sd0 sd1 sd2)]) 0)

noncomputable def Fb45_a14 (Q : List D → Option (List D)) (pd0 : D) (pn1 : Int) (sd0 : D) (sd1 : D) (sd2 : D) : D := (qnth (Proofs.YtiojjmlccehpoaaGreat.q64 [pd0, (D.int pn1), (D.agg [(D.int 0), (D.int (qwrap IntKind.u32 (qbin BinOp.sub IntKind.i64 32 (qbin BinOp.mul IntKind.i64 8 (qint (qfld sd0 3)))))), (D.int 14), (D.int 1), (D.int 0), (D.int 0), (D.int 0), (D.int 0), (D.int 0)]), (Fb45_a13 Q pd0 pn1 sd0 sd1 sd2), (Fb45_a12 Q pd0 pn1 sd0 sd1 sd2)]) 1)

noncomputable def Fb45_a15 (Q : List D → Option (List D)) (pd0 : D) (pn1 : Int) (sd0 : D) (sd1 : D) (sd2 : D) : D := (qnth (Proofs.YtiojjmlccehpoaaGreat.q64 [pd0, (D.int pn1), (D.agg [(D.int 0), (D.int (qwrap IntKind.u32 (qbin BinOp.sub IntKind.i64 32 (qbin BinOp.mul IntKind.i64 8 (qint (qfld sd0 3)))))), (D.int 14), (D.int 1), (D.int 0), (D.int 0), (D.int 0), (D.int 0), (D.int 0)]), (Fb45_a13 Q pd0 pn1 sd0 sd1 sd2), (Fb45_a12 Q pd0 pn1 sd0 sd1 sd2)]) 0)

noncomputable def Fb45_a16 (Q : List D → Option (List D)) (pd0 : D) (pn1 : Int) (sd0 : D) (sd1 : D) (sd2 : D) : D := (qnth (Proofs.YtiojjmlccehpoaaGreat.q64 [pd0, (D.int pn1), (D.agg [(D.int 0), (D.int 0), (D.int 16), (D.int 0), (D.int (qint (qfld sd0 3))), (D.int 0), (D.int 0), (D.int 0), (D.int 0)]), (Fb45_a1 Q pd0 pn1 sd0 sd1 sd2), (Fb45_a0 Q pd0 pn1 sd0 sd1 sd2)]) 1)

noncomputable def Fb45_a17 (Q : List D → Option (List D)) (pd0 : D) (pn1 : Int) (sd0 : D) (sd1 : D) (sd2 : D) : D := (qnth (Proofs.YtiojjmlccehpoaaGreat.q64 [pd0, (D.int pn1), (D.agg [(D.int 0), (D.int 0), (D.int 16), (D.int 0), (D.int (qint (qfld sd0 3))), (D.int 0), (D.int 0), (D.int 0), (D.int 0)]), (Fb45_a1 Q pd0 pn1 sd0 sd1 sd2), (Fb45_a0 Q pd0 pn1 sd0 sd1 sd2)]) 0)

noncomputable def Fb45_a18 (Q : List D → Option (List D)) (pd0 : D) (pn1 : Int) (sd0 : D) (sd1 : D) (sd2 : D) : D := (qnth (Proofs.YtiojjmlccehpoaaGreat.q64 [pd0, (D.int pn1), (D.agg [(D.int 0), (D.int 0), (D.int 5), (D.int 0), (D.int 0), (D.int 0), (D.int 1), (D.int 0), (D.int 0)]), (Fb45_a1 Q pd0 pn1 sd0 sd1 sd2), (Fb45_a0 Q pd0 pn1 sd0 sd1 sd2)]) 1)

noncomputable def Fb45_a19 (Q : List D → Option (List D)) (pd0 : D) (pn1 : Int) (sd0 : D) (sd1 : D) (sd2 : D) : D := (qnth (Proofs.YtiojjmlccehpoaaGreat.q64 [pd0, (D.int pn1), (D.agg [(D.int 0), (D.int 0), (D.int 5), (D.int 0), (D.int 0), (D.int 0), (D.int 1), (D.int 0), (D.int 0)]), (Fb45_a1 Q pd0 pn1 sd0 sd1 sd2), (Fb45_a0 Q pd0 pn1 sd0 sd1 sd2)]) 0)

noncomputable def Fb45_a20 (Q : List D → Option (List D)) (pd0 : D) (pn1 : Int) (sd0 : D) (sd1 : D) (sd2 : D) : D := (qnth (Proofs.YtiojjmlccehpoaaGreat.q64 [pd0, (D.int pn1), (D.agg [(D.int 0), (D.int 0), (D.int 5), (D.int 1), (D.int 0), (D.int 0), (D.int 0), (D.int 0), (D.int 0)]), (Fb45_a19 Q pd0 pn1 sd0 sd1 sd2), (Fb45_a18 Q pd0 pn1 sd0 sd1 sd2)]) 1)

noncomputable def Fb45_a21 (Q : List D → Option (List D)) (pd0 : D) (pn1 : Int) (sd0 : D) (sd1 : D) (sd2 : D) : D := (qnth (Proofs.YtiojjmlccehpoaaGreat.q64 [pd0, (D.int pn1), (D.agg [(D.int 0), (D.int 0), (D.int 5), (D.int 1), (D.int 0), (D.int 0), (D.int 0), (D.int 0), (D.int 0)]), (Fb45_a19 Q pd0 pn1 sd0 sd1 sd2), (Fb45_a18 Q pd0 pn1 sd0 sd1 sd2)]) 0)

noncomputable def Fb45_a22 (Q : List D → Option (List D)) (pd0 : D) (pn1 : Int) (sd0 : D) (sd1 : D) (sd2 : D) : D := (qnth (Proofs.YtiojjmlccehpoaaGreat.q64 [pd0, (D.int pn1), (D.agg [(D.int 0), (D.int 0), (D.int 7), (D.int 0), (D.int 0), (D.int 0), (D.int 0), (D.int 1), (D.int 0)]), (Fb45_a21 Q pd0 pn1 sd0 sd1 sd2), (Fb45_a20 Q pd0 pn1 sd0 sd1 sd2)]) 1)

noncomputable def Fb45_a23 (Q : List D → Option (List D)) (pd0 : D) (pn1 : Int) (sd0 : D) (sd1 : D) (sd2 : D) : D := (qnth (Proofs.YtiojjmlccehpoaaGreat.q64 [pd0, (D.int pn1), (D.agg [(D.int 0), (D.int 0), (D.int 7), (D.int 0), (D.int 0), (D.int 0), (D.int 0), (D.int 1), (D.int 0)]), (Fb45_a21 Q pd0 pn1 sd0 sd1 sd2), (Fb45_a20 Q pd0 pn1 sd0 sd1 sd2)]) 0)

noncomputable def Fb45_a24 (Q : List D → Option (List D)) (pd0 : D) (pn1 : Int) (sd0 : D) (sd1 : D) (sd2 : D) : D := (qnth (Proofs.YtiojjmlccehpoaaGreat.q64 [pd0, (D.int pn1), (D.agg [(D.int 0), (D.int 0), (D.int 15), (D.int 1), (D.int 0), (D.int 0), (D.int 0), (D.int 0), (D.int 0)]), (Fb45_a1 Q pd0 pn1 sd0 sd1 sd2), (Fb45_a0 Q pd0 pn1 sd0 sd1 sd2)]) 1)

noncomputable def Fb45_a25 (Q : List D → Option (List D)) (pd0 : D) (pn1 : Int) (sd0 : D) (sd1 : D) (sd2 : D) : D := (qnth (Proofs.YtiojjmlccehpoaaGreat.q64 [pd0, (D.int pn1), (D.agg [(D.int 0), (D.int 0), (D.int 15), (D.int 1), (D.int 0), (D.int 0), (D.int 0), (D.int 0), (D.int 0)]), (Fb45_a1 Q pd0 pn1 sd0 sd1 sd2), (Fb45_a0 Q pd0 pn1 sd0 sd1 sd2)]) 0)

noncomputable def Fb45_a26 (Q : List D → Option (List D)) (pd0 : D) (pn1 : Int) (sd0 : D) (sd1 : D) (sd2 : D) : D := (qnth (Proofs.YtiojjmlccehpoaaGreat.q64 [pd0, (D.int pn1), (D.agg [(D.int 0), (D.int 0), (D.int 25), (D.int 0), (D.int 0), (D.int 1), (D.int 0), (D.int 0), (D.int 0)]), (Fb45_a25 Q pd0 pn1 sd0 sd1 sd2), (Fb45_a24 Q pd0 pn1 sd0 sd1 sd2)]) 1)

noncomputable def Fb45_a27 (Q : List D → Option (List D)) (pd0 : D) (pn1 : Int) (sd0 : D) (sd1 : D) (sd2 : D) : D := (qnth (Proofs.YtiojjmlccehpoaaGreat.q64 [pd0, (D.int pn1), (D.agg [(D.int 0), (D.int 0), (D.int 25), (D.int 0), (D.int 0), (D.int 1), (D.int 0), (D.int 0), (D.int 0)]), (Fb45_a25 Q pd0 pn1 sd0 sd1 sd2), (Fb45_a24 Q pd0 pn1 sd0 sd1 sd2)]) 0)

noncomputable def Fb45_a28 (Q : List D → Option (List D)) (pd0 : D) (pn1 : Int) (sd0 : D) (sd1 : D) (sd2 : D) : D := (qnth (Proofs.YtiojjmlccehpoaaGreat.q63 [pd0, (D.int pn1), (D.str (qstr (qfld sd0 2))), sd1, sd2]) 1)

noncomputable def Fb45_a29 (Q : List D → Option (List D)) (pd0 : D) (pn1 : Int) (sd0 : D) (sd1 : D) (sd2 : D) : D := (qnth (Proofs.YtiojjmlccehpoaaGreat.q63 [pd0, (D.int pn1), (D.str (qstr (qfld sd0 2))), sd1, sd2]) 0)

noncomputable def Fb45_a30 (Q : List D → Option (List D)) (pd0 : D) (pn1 : Int) (sd0 : D) (sd1 : D) (sd2 : D) : D := (qnth (Proofs.YtiojjmlccehpoaaGreat.q64 [pd0, (D.int pn1), (D.agg [(D.int 0), (D.int 0), (D.int 16), (D.int 0), (D.int 4), (D.int 0), (D.int 0), (D.int 2), (D.int 0)]), (Fb45_a29 Q pd0 pn1 sd0 sd1 sd2), (Fb45_a28 Q pd0 pn1 sd0 sd1 sd2)]) 1)

noncomputable def Fb45_a31 (Q : List D → Option (List D)) (pd0 : D) (pn1 : Int) (sd0 : D) (sd1 : D) (sd2 : D) : D := (qnth (Proofs.YtiojjmlccehpoaaGreat.q64 [pd0, (D.int pn1), (D.agg [(D.int 0), (D.int 0), (D.int 16), (D.int 0), (D.int 4), (D.int 0), (D.int 0), (D.int 2), (D.int 0)]), (Fb45_a29 Q pd0 pn1 sd0 sd1 sd2), (Fb45_a28 Q pd0 pn1 sd0 sd1 sd2)]) 0)

noncomputable def Fb45_a32 (Q : List D → Option (List D)) (pd0 : D) (pn1 : Int) (sd0 : D) (sd1 : D) (sd2 : D) : D := (qnth (Proofs.YtiojjmlccehpoaaGreat.q64 [pd0, (D.int pn1), (D.agg [(D.int 0), (D.int (qint (qfld sd0 1))), (D.int 5), (D.int 2), (D.int 0), (D.int 0), (D.int 0), (D.int 0), (D.int 0)]), sd1, sd2]) 1)

noncomputable def Fb45_a33 (Q : List D → Option (List D)) (pd0 : D) (pn1 : Int) (sd0 : D) (sd1 : D) (sd2 : D) : D := (qnth (Proofs.YtiojjmlccehpoaaGreat.q64 [pd0, (D.int pn1), (D.agg [(D.int 0), (D.int (qint (qfld sd0 1))), (D.int 5), (D.int 2), (D.int 0), (D.int 0), (D.int 0), (D.int 0), (D.int 0)]), sd1, sd2]) 0)

theorem Fb45_eq (Q : List D → Option (List D)) (pd0 : D) (pn1 : Int) (sd0 : D) (sd1 : D) (sd2 : D) : Fb45 Q  [pd0, (D.int pn1), sd0, sd1, sd2] =
    bif (qcmp BinOp.eql (qint (qfld sd0 0)) 1) then
      bif (qsome (Proofs.YtiojjmlccehpoaaGreat.q64 [pd0, (D.int pn1), (D.agg [(D.int 0), (D.int (qint (qfld sd0 1))), (D.int 5), (D.int 2), (D.int 0), (D.int 0), (D.int 0), (D.int 0), (D.int 0)]), sd1, sd2])) then
        some [(Fb45_a33 Q pd0 pn1 sd0 sd1 sd2), (Fb45_a32 Q pd0 pn1 sd0 sd1 sd2)]
      else
        none
    else
      bif (qcmp BinOp.eql (qint (qfld sd0 0)) 2) then
        bif (qsome (Proofs.YtiojjmlccehpoaaGreat.q63 [pd0, (D.int pn1), (D.str (qstr (qfld sd0 2))), sd1, sd2])) then
          bif (qsome (Proofs.YtiojjmlccehpoaaGreat.q64 [pd0, (D.int pn1), (D.agg [(D.int 0), (D.int 0), (D.int 16), (D.int 0), (D.int 4), (D.int 0), (D.int 0), (D.int 2), (D.int 0)]), (Fb45_a29 Q pd0 pn1 sd0 sd1 sd2), (Fb45_a28 Q pd0 pn1 sd0 sd1 sd2)])) then
            some [(Fb45_a31 Q pd0 pn1 sd0 sd1 sd2), (Fb45_a30 Q pd0 pn1 sd0 sd1 sd2)]
          else
            none
        else
          none
      else
        bif (qinb (qfld sd0 4) 0) then
          bif (qsome (Q [pd0, (D.int pn1), (qget (qfld sd0 4) 0), sd1, sd2])) then
            bif (qcmp BinOp.eql (qint (qfld sd0 0)) 16) then
              bif (qsome (Proofs.YtiojjmlccehpoaaGreat.q64 [pd0, (D.int pn1), (D.agg [(D.int 0), (D.int 0), (D.int 15), (D.int 1), (D.int 0), (D.int 0), (D.int 0), (D.int 0), (D.int 0)]), (Fb45_a1 Q pd0 pn1 sd0 sd1 sd2), (Fb45_a0 Q pd0 pn1 sd0 sd1 sd2)])) then
                bif (qsome (Proofs.YtiojjmlccehpoaaGreat.q64 [pd0, (D.int pn1), (D.agg [(D.int 0), (D.int 0), (D.int 25), (D.int 0), (D.int 0), (D.int 1), (D.int 0), (D.int 0), (D.int 0)]), (Fb45_a25 Q pd0 pn1 sd0 sd1 sd2), (Fb45_a24 Q pd0 pn1 sd0 sd1 sd2)])) then
                  some [(Fb45_a27 Q pd0 pn1 sd0 sd1 sd2), (Fb45_a26 Q pd0 pn1 sd0 sd1 sd2)]
                else
                  none
              else
                none
            else
              bif (qcmp BinOp.eql (qint (qfld sd0 0)) 17) then
                bif (qsome (Proofs.YtiojjmlccehpoaaGreat.q64 [pd0, (D.int pn1), (D.agg [(D.int 0), (D.int 0), (D.int 5), (D.int 0), (D.int 0), (D.int 0), (D.int 1), (D.int 0), (D.int 0)]), (Fb45_a1 Q pd0 pn1 sd0 sd1 sd2), (Fb45_a0 Q pd0 pn1 sd0 sd1 sd2)])) then
                  bif (qsome (Proofs.YtiojjmlccehpoaaGreat.q64 [pd0, (D.int pn1), (D.agg [(D.int 0), (D.int 0), (D.int 5), (D.int 1), (D.int 0), (D.int 0), (D.int 0), (D.int 0), (D.int 0)]), (Fb45_a19 Q pd0 pn1 sd0 sd1 sd2), (Fb45_a18 Q pd0 pn1 sd0 sd1 sd2)])) then
                    bif (qsome (Proofs.YtiojjmlccehpoaaGreat.q64 [pd0, (D.int pn1), (D.agg [(D.int 0), (D.int 0), (D.int 7), (D.int 0), (D.int 0), (D.int 0), (D.int 0), (D.int 1), (D.int 0)]), (Fb45_a21 Q pd0 pn1 sd0 sd1 sd2), (Fb45_a20 Q pd0 pn1 sd0 sd1 sd2)])) then
                      some [(Fb45_a23 Q pd0 pn1 sd0 sd1 sd2), (Fb45_a22 Q pd0 pn1 sd0 sd1 sd2)]
                    else
                      none
                  else
                    none
                else
                  none
              else
                bif (qcmp BinOp.eql (qint (qfld sd0 0)) 18) then
                  bif (qsome (Proofs.YtiojjmlccehpoaaGreat.q64 [pd0, (D.int pn1), (D.agg [(D.int 0), (D.int 0), (D.int 16), (D.int 0), (D.int (qint (qfld sd0 3))), (D.int 0), (D.int 0), (D.int 0), (D.int 0)]), (Fb45_a1 Q pd0 pn1 sd0 sd1 sd2), (Fb45_a0 Q pd0 pn1 sd0 sd1 sd2)])) then
                    some [(Fb45_a17 Q pd0 pn1 sd0 sd1 sd2), (Fb45_a16 Q pd0 pn1 sd0 sd1 sd2)]
                  else
                    none
                else
                  bif (qcmp BinOp.eql (qint (qfld sd0 0)) 19) then
                    bif (qsome (Proofs.YtiojjmlccehpoaaGreat.q64 [pd0, (D.int pn1), (D.agg [(D.int 0), (D.int (qwrap IntKind.u32 (qbin BinOp.sub IntKind.i64 32 (qbin BinOp.mul IntKind.i64 8 (qint (qfld sd0 3)))))), (D.int 12), (D.int 1), (D.int 0), (D.int 0), (D.int 0), (D.int 0), (D.int 0)]), (Fb45_a1 Q pd0 pn1 sd0 sd1 sd2), (Fb45_a0 Q pd0 pn1 sd0 sd1 sd2)])) then
                      bif (qsome (Proofs.YtiojjmlccehpoaaGreat.q64 [pd0, (D.int pn1), (D.agg [(D.int 0), (D.int (qwrap IntKind.u32 (qbin BinOp.sub IntKind.i64 32 (qbin BinOp.mul IntKind.i64 8 (qint (qfld sd0 3)))))), (D.int 14), (D.int 1), (D.int 0), (D.int 0), (D.int 0), (D.int 0), (D.int 0)]), (Fb45_a13 Q pd0 pn1 sd0 sd1 sd2), (Fb45_a12 Q pd0 pn1 sd0 sd1 sd2)])) then
                        some [(Fb45_a15 Q pd0 pn1 sd0 sd1 sd2), (Fb45_a14 Q pd0 pn1 sd0 sd1 sd2)]
                      else
                        none
                    else
                      none
                  else
                    bif (qsome (Proofs.YtiojjmlccehpoaaGreat.q64 [pd0, (D.int pn1), (D.agg [(D.int 0), (D.int 0), (D.int 3), (D.int 0), (D.int 0), (D.int 0), (D.int 0), (D.int 0), (D.int 0)]), (Fb45_a1 Q pd0 pn1 sd0 sd1 sd2), (Fb45_a0 Q pd0 pn1 sd0 sd1 sd2)])) then
                      bif (qinb (qfld sd0 4) 1) then
                        bif (qsome (Q [pd0, (D.int pn1), (qget (qfld sd0 4) 1), (Fb45_a3 Q pd0 pn1 sd0 sd1 sd2), (Fb45_a2 Q pd0 pn1 sd0 sd1 sd2)])) then
                          bif (qsome (Proofs.YtiojjmlccehpoaaGreat.q64 [pd0, (D.int pn1), (D.agg [(D.int 0), (D.int 0), (D.int 5), (D.int 0), (D.int 0), (D.int 0), (D.int 1), (D.int 0), (D.int 0)]), (Fb45_a5 Q pd0 pn1 sd0 sd1 sd2), (Fb45_a4 Q pd0 pn1 sd0 sd1 sd2)])) then
                            bif (qsome (Proofs.YtiojjmlccehpoaaGreat.q64 [pd0, (D.int pn1), (D.agg [(D.int 0), (D.int 0), (D.int 4), (D.int 0), (D.int 0), (D.int 0), (D.int 0), (D.int 0), (D.int 0)]), (Fb45_a7 Q pd0 pn1 sd0 sd1 sd2), (Fb45_a6 Q pd0 pn1 sd0 sd1 sd2)])) then
                              bif (qsome (Proofs.YtiojjmlccehpoaaGreat.q108 [pd0, (D.int pn1), (D.int (qint (qfld sd0 0))), (Fb45_a9 Q pd0 pn1 sd0 sd1 sd2), (Fb45_a8 Q pd0 pn1 sd0 sd1 sd2)])) then
                                some [(Fb45_a11 Q pd0 pn1 sd0 sd1 sd2), (Fb45_a10 Q pd0 pn1 sd0 sd1 sd2)]
                              else
                                none
                            else
                              none
                          else
                            none
                        else
                          none
                      else
                        none
                    else
                      none
          else
            none
        else
          none := by
  have h : Fb45 Q  [pd0, (D.int pn1), sd0, sd1, sd2] =
    bif (qcmp BinOp.eql (qint (qfld sd0 0)) 1) then
      bif (qcmp BinOp.eql (qlen sd2) (qlen sd2)) then
        bif (qcmp BinOp.eql (qlen sd1) (qlen sd1)) then
          bif (qsome (Proofs.YtiojjmlccehpoaaGreat.q64 [pd0, (D.int pn1), (D.agg [(D.int 0), (D.int (qint (qfld sd0 1))), (D.int 5), (D.int 2), (D.int 0), (D.int 0), (D.int 0), (D.int 0), (D.int 0)]), sd1, sd2])) then
            bif (qcmp BinOp.eql (qlen (Fb45_a32 Q pd0 pn1 sd0 sd1 sd2)) (qlen (Fb45_a32 Q pd0 pn1 sd0 sd1 sd2))) then
              bif (qcmp BinOp.eql (qlen (Fb45_a33 Q pd0 pn1 sd0 sd1 sd2)) (qlen (Fb45_a33 Q pd0 pn1 sd0 sd1 sd2))) then
                bif (qeqD pd0 pd0) then
                  bif (qeqD (D.int pn1) (D.int pn1)) then
                    some [(Fb45_a33 Q pd0 pn1 sd0 sd1 sd2), (Fb45_a32 Q pd0 pn1 sd0 sd1 sd2)]
                  else
                    none
                else
                  none
              else
                none
            else
              none
          else
            none
        else
          none
      else
        none
    else
      bif (qcmp BinOp.eql (qint (qfld sd0 0)) 2) then
        bif (qcmp BinOp.eql (qlen sd2) (qlen sd2)) then
          bif (qcmp BinOp.eql (qlen sd1) (qlen sd1)) then
            bif (qsome (Proofs.YtiojjmlccehpoaaGreat.q63 [pd0, (D.int pn1), (D.str (qstr (qfld sd0 2))), sd1, sd2])) then
              bif (qcmp BinOp.eql (qlen (Fb45_a28 Q pd0 pn1 sd0 sd1 sd2)) (qlen (Fb45_a28 Q pd0 pn1 sd0 sd1 sd2))) then
                bif (qcmp BinOp.eql (qlen (Fb45_a29 Q pd0 pn1 sd0 sd1 sd2)) (qlen (Fb45_a29 Q pd0 pn1 sd0 sd1 sd2))) then
                  bif (qsome (Proofs.YtiojjmlccehpoaaGreat.q64 [pd0, (D.int pn1), (D.agg [(D.int 0), (D.int 0), (D.int 16), (D.int 0), (D.int 4), (D.int 0), (D.int 0), (D.int 2), (D.int 0)]), (Fb45_a29 Q pd0 pn1 sd0 sd1 sd2), (Fb45_a28 Q pd0 pn1 sd0 sd1 sd2)])) then
                    bif (qcmp BinOp.eql (qlen (Fb45_a30 Q pd0 pn1 sd0 sd1 sd2)) (qlen (Fb45_a30 Q pd0 pn1 sd0 sd1 sd2))) then
                      bif (qcmp BinOp.eql (qlen (Fb45_a31 Q pd0 pn1 sd0 sd1 sd2)) (qlen (Fb45_a31 Q pd0 pn1 sd0 sd1 sd2))) then
                        bif (qeqD pd0 pd0) then
                          bif (qeqD (D.int pn1) (D.int pn1)) then
                            some [(Fb45_a31 Q pd0 pn1 sd0 sd1 sd2), (Fb45_a30 Q pd0 pn1 sd0 sd1 sd2)]
                          else
                            none
                        else
                          none
                      else
                        none
                    else
                      none
                  else
                    none
                else
                  none
              else
                none
            else
              none
          else
            none
        else
          none
      else
        bif (qinb (qfld sd0 4) 0) then
          bif (qcmp BinOp.eql (qlen sd2) (qlen sd2)) then
            bif (qcmp BinOp.eql (qlen sd1) (qlen sd1)) then
              bif (qsome (Q [pd0, (D.int pn1), (qget (qfld sd0 4) 0), sd1, sd2])) then
                bif (qcmp BinOp.eql (qint (qfld sd0 0)) 16) then
                  bif (qcmp BinOp.eql (qlen (Fb45_a0 Q pd0 pn1 sd0 sd1 sd2)) (qlen (Fb45_a0 Q pd0 pn1 sd0 sd1 sd2))) then
                    bif (qcmp BinOp.eql (qlen (Fb45_a1 Q pd0 pn1 sd0 sd1 sd2)) (qlen (Fb45_a1 Q pd0 pn1 sd0 sd1 sd2))) then
                      bif (qsome (Proofs.YtiojjmlccehpoaaGreat.q64 [pd0, (D.int pn1), (D.agg [(D.int 0), (D.int 0), (D.int 15), (D.int 1), (D.int 0), (D.int 0), (D.int 0), (D.int 0), (D.int 0)]), (Fb45_a1 Q pd0 pn1 sd0 sd1 sd2), (Fb45_a0 Q pd0 pn1 sd0 sd1 sd2)])) then
                        bif (qcmp BinOp.eql (qlen (Fb45_a24 Q pd0 pn1 sd0 sd1 sd2)) (qlen (Fb45_a24 Q pd0 pn1 sd0 sd1 sd2))) then
                          bif (qcmp BinOp.eql (qlen (Fb45_a25 Q pd0 pn1 sd0 sd1 sd2)) (qlen (Fb45_a25 Q pd0 pn1 sd0 sd1 sd2))) then
                            bif (qsome (Proofs.YtiojjmlccehpoaaGreat.q64 [pd0, (D.int pn1), (D.agg [(D.int 0), (D.int 0), (D.int 25), (D.int 0), (D.int 0), (D.int 1), (D.int 0), (D.int 0), (D.int 0)]), (Fb45_a25 Q pd0 pn1 sd0 sd1 sd2), (Fb45_a24 Q pd0 pn1 sd0 sd1 sd2)])) then
                              bif (qcmp BinOp.eql (qlen (Fb45_a26 Q pd0 pn1 sd0 sd1 sd2)) (qlen (Fb45_a26 Q pd0 pn1 sd0 sd1 sd2))) then
                                bif (qcmp BinOp.eql (qlen (Fb45_a27 Q pd0 pn1 sd0 sd1 sd2)) (qlen (Fb45_a27 Q pd0 pn1 sd0 sd1 sd2))) then
                                  bif (qeqD pd0 pd0) then
                                    bif (qeqD (D.int pn1) (D.int pn1)) then
                                      some [(Fb45_a27 Q pd0 pn1 sd0 sd1 sd2), (Fb45_a26 Q pd0 pn1 sd0 sd1 sd2)]
                                    else
                                      none
                                  else
                                    none
                                else
                                  none
                              else
                                none
                            else
                              none
                          else
                            none
                        else
                          none
                      else
                        none
                    else
                      none
                  else
                    none
                else
                  bif (qcmp BinOp.eql (qint (qfld sd0 0)) 17) then
                    bif (qcmp BinOp.eql (qlen (Fb45_a0 Q pd0 pn1 sd0 sd1 sd2)) (qlen (Fb45_a0 Q pd0 pn1 sd0 sd1 sd2))) then
                      bif (qcmp BinOp.eql (qlen (Fb45_a1 Q pd0 pn1 sd0 sd1 sd2)) (qlen (Fb45_a1 Q pd0 pn1 sd0 sd1 sd2))) then
                        bif (qsome (Proofs.YtiojjmlccehpoaaGreat.q64 [pd0, (D.int pn1), (D.agg [(D.int 0), (D.int 0), (D.int 5), (D.int 0), (D.int 0), (D.int 0), (D.int 1), (D.int 0), (D.int 0)]), (Fb45_a1 Q pd0 pn1 sd0 sd1 sd2), (Fb45_a0 Q pd0 pn1 sd0 sd1 sd2)])) then
                          bif (qcmp BinOp.eql (qlen (Fb45_a18 Q pd0 pn1 sd0 sd1 sd2)) (qlen (Fb45_a18 Q pd0 pn1 sd0 sd1 sd2))) then
                            bif (qcmp BinOp.eql (qlen (Fb45_a19 Q pd0 pn1 sd0 sd1 sd2)) (qlen (Fb45_a19 Q pd0 pn1 sd0 sd1 sd2))) then
                              bif (qsome (Proofs.YtiojjmlccehpoaaGreat.q64 [pd0, (D.int pn1), (D.agg [(D.int 0), (D.int 0), (D.int 5), (D.int 1), (D.int 0), (D.int 0), (D.int 0), (D.int 0), (D.int 0)]), (Fb45_a19 Q pd0 pn1 sd0 sd1 sd2), (Fb45_a18 Q pd0 pn1 sd0 sd1 sd2)])) then
                                bif (qcmp BinOp.eql (qlen (Fb45_a20 Q pd0 pn1 sd0 sd1 sd2)) (qlen (Fb45_a20 Q pd0 pn1 sd0 sd1 sd2))) then
                                  bif (qcmp BinOp.eql (qlen (Fb45_a21 Q pd0 pn1 sd0 sd1 sd2)) (qlen (Fb45_a21 Q pd0 pn1 sd0 sd1 sd2))) then
                                    bif (qsome (Proofs.YtiojjmlccehpoaaGreat.q64 [pd0, (D.int pn1), (D.agg [(D.int 0), (D.int 0), (D.int 7), (D.int 0), (D.int 0), (D.int 0), (D.int 0), (D.int 1), (D.int 0)]), (Fb45_a21 Q pd0 pn1 sd0 sd1 sd2), (Fb45_a20 Q pd0 pn1 sd0 sd1 sd2)])) then
                                      bif (qcmp BinOp.eql (qlen (Fb45_a22 Q pd0 pn1 sd0 sd1 sd2)) (qlen (Fb45_a22 Q pd0 pn1 sd0 sd1 sd2))) then
                                        bif (qcmp BinOp.eql (qlen (Fb45_a23 Q pd0 pn1 sd0 sd1 sd2)) (qlen (Fb45_a23 Q pd0 pn1 sd0 sd1 sd2))) then
                                          bif (qeqD pd0 pd0) then
                                            bif (qeqD (D.int pn1) (D.int pn1)) then
                                              some [(Fb45_a23 Q pd0 pn1 sd0 sd1 sd2), (Fb45_a22 Q pd0 pn1 sd0 sd1 sd2)]
                                            else
                                              none
                                          else
                                            none
                                        else
                                          none
                                      else
                                        none
                                    else
                                      none
                                  else
                                    none
                                else
                                  none
                              else
                                none
                            else
                              none
                          else
                            none
                        else
                          none
                      else
                        none
                    else
                      none
                  else
                    bif (qcmp BinOp.eql (qint (qfld sd0 0)) 18) then
                      bif (qcmp BinOp.eql (qlen (Fb45_a0 Q pd0 pn1 sd0 sd1 sd2)) (qlen (Fb45_a0 Q pd0 pn1 sd0 sd1 sd2))) then
                        bif (qcmp BinOp.eql (qlen (Fb45_a1 Q pd0 pn1 sd0 sd1 sd2)) (qlen (Fb45_a1 Q pd0 pn1 sd0 sd1 sd2))) then
                          bif (qsome (Proofs.YtiojjmlccehpoaaGreat.q64 [pd0, (D.int pn1), (D.agg [(D.int 0), (D.int 0), (D.int 16), (D.int 0), (D.int (qint (qfld sd0 3))), (D.int 0), (D.int 0), (D.int 0), (D.int 0)]), (Fb45_a1 Q pd0 pn1 sd0 sd1 sd2), (Fb45_a0 Q pd0 pn1 sd0 sd1 sd2)])) then
                            bif (qcmp BinOp.eql (qlen (Fb45_a16 Q pd0 pn1 sd0 sd1 sd2)) (qlen (Fb45_a16 Q pd0 pn1 sd0 sd1 sd2))) then
                              bif (qcmp BinOp.eql (qlen (Fb45_a17 Q pd0 pn1 sd0 sd1 sd2)) (qlen (Fb45_a17 Q pd0 pn1 sd0 sd1 sd2))) then
                                bif (qeqD pd0 pd0) then
                                  bif (qeqD (D.int pn1) (D.int pn1)) then
                                    some [(Fb45_a17 Q pd0 pn1 sd0 sd1 sd2), (Fb45_a16 Q pd0 pn1 sd0 sd1 sd2)]
                                  else
                                    none
                                else
                                  none
                              else
                                none
                            else
                              none
                          else
                            none
                        else
                          none
                      else
                        none
                    else
                      bif (qcmp BinOp.eql (qint (qfld sd0 0)) 19) then
                        bif (qcmp BinOp.eql (qlen (Fb45_a0 Q pd0 pn1 sd0 sd1 sd2)) (qlen (Fb45_a0 Q pd0 pn1 sd0 sd1 sd2))) then
                          bif (qcmp BinOp.eql (qlen (Fb45_a1 Q pd0 pn1 sd0 sd1 sd2)) (qlen (Fb45_a1 Q pd0 pn1 sd0 sd1 sd2))) then
                            bif (qsome (Proofs.YtiojjmlccehpoaaGreat.q64 [pd0, (D.int pn1), (D.agg [(D.int 0), (D.int (qwrap IntKind.u32 (qbin BinOp.sub IntKind.i64 32 (qbin BinOp.mul IntKind.i64 8 (qint (qfld sd0 3)))))), (D.int 12), (D.int 1), (D.int 0), (D.int 0), (D.int 0), (D.int 0), (D.int 0)]), (Fb45_a1 Q pd0 pn1 sd0 sd1 sd2), (Fb45_a0 Q pd0 pn1 sd0 sd1 sd2)])) then
                              bif (qcmp BinOp.eql (qlen (Fb45_a12 Q pd0 pn1 sd0 sd1 sd2)) (qlen (Fb45_a12 Q pd0 pn1 sd0 sd1 sd2))) then
                                bif (qcmp BinOp.eql (qlen (Fb45_a13 Q pd0 pn1 sd0 sd1 sd2)) (qlen (Fb45_a13 Q pd0 pn1 sd0 sd1 sd2))) then
                                  bif (qsome (Proofs.YtiojjmlccehpoaaGreat.q64 [pd0, (D.int pn1), (D.agg [(D.int 0), (D.int (qwrap IntKind.u32 (qbin BinOp.sub IntKind.i64 32 (qbin BinOp.mul IntKind.i64 8 (qint (qfld sd0 3)))))), (D.int 14), (D.int 1), (D.int 0), (D.int 0), (D.int 0), (D.int 0), (D.int 0)]), (Fb45_a13 Q pd0 pn1 sd0 sd1 sd2), (Fb45_a12 Q pd0 pn1 sd0 sd1 sd2)])) then
                                    bif (qcmp BinOp.eql (qlen (Fb45_a14 Q pd0 pn1 sd0 sd1 sd2)) (qlen (Fb45_a14 Q pd0 pn1 sd0 sd1 sd2))) then
                                      bif (qcmp BinOp.eql (qlen (Fb45_a15 Q pd0 pn1 sd0 sd1 sd2)) (qlen (Fb45_a15 Q pd0 pn1 sd0 sd1 sd2))) then
                                        bif (qeqD pd0 pd0) then
                                          bif (qeqD (D.int pn1) (D.int pn1)) then
                                            some [(Fb45_a15 Q pd0 pn1 sd0 sd1 sd2), (Fb45_a14 Q pd0 pn1 sd0 sd1 sd2)]
                                          else
                                            none
                                        else
                                          none
                                      else
                                        none
                                    else
                                      none
                                  else
                                    none
                                else
                                  none
                              else
                                none
                            else
                              none
                          else
                            none
                        else
                          none
                      else
                        bif (qcmp BinOp.eql (qlen (Fb45_a0 Q pd0 pn1 sd0 sd1 sd2)) (qlen (Fb45_a0 Q pd0 pn1 sd0 sd1 sd2))) then
                          bif (qcmp BinOp.eql (qlen (Fb45_a1 Q pd0 pn1 sd0 sd1 sd2)) (qlen (Fb45_a1 Q pd0 pn1 sd0 sd1 sd2))) then
                            bif (qsome (Proofs.YtiojjmlccehpoaaGreat.q64 [pd0, (D.int pn1), (D.agg [(D.int 0), (D.int 0), (D.int 3), (D.int 0), (D.int 0), (D.int 0), (D.int 0), (D.int 0), (D.int 0)]), (Fb45_a1 Q pd0 pn1 sd0 sd1 sd2), (Fb45_a0 Q pd0 pn1 sd0 sd1 sd2)])) then
                              bif (qinb (qfld sd0 4) 1) then
                                bif (qcmp BinOp.eql (qlen (Fb45_a2 Q pd0 pn1 sd0 sd1 sd2)) (qlen (Fb45_a2 Q pd0 pn1 sd0 sd1 sd2))) then
                                  bif (qcmp BinOp.eql (qlen (Fb45_a3 Q pd0 pn1 sd0 sd1 sd2)) (qlen (Fb45_a3 Q pd0 pn1 sd0 sd1 sd2))) then
                                    bif (qsome (Q [pd0, (D.int pn1), (qget (qfld sd0 4) 1), (Fb45_a3 Q pd0 pn1 sd0 sd1 sd2), (Fb45_a2 Q pd0 pn1 sd0 sd1 sd2)])) then
                                      bif (qcmp BinOp.eql (qlen (Fb45_a4 Q pd0 pn1 sd0 sd1 sd2)) (qlen (Fb45_a4 Q pd0 pn1 sd0 sd1 sd2))) then
                                        bif (qcmp BinOp.eql (qlen (Fb45_a5 Q pd0 pn1 sd0 sd1 sd2)) (qlen (Fb45_a5 Q pd0 pn1 sd0 sd1 sd2))) then
                                          bif (qsome (Proofs.YtiojjmlccehpoaaGreat.q64 [pd0, (D.int pn1), (D.agg [(D.int 0), (D.int 0), (D.int 5), (D.int 0), (D.int 0), (D.int 0), (D.int 1), (D.int 0), (D.int 0)]), (Fb45_a5 Q pd0 pn1 sd0 sd1 sd2), (Fb45_a4 Q pd0 pn1 sd0 sd1 sd2)])) then
                                            bif (qcmp BinOp.eql (qlen (Fb45_a6 Q pd0 pn1 sd0 sd1 sd2)) (qlen (Fb45_a6 Q pd0 pn1 sd0 sd1 sd2))) then
                                              bif (qcmp BinOp.eql (qlen (Fb45_a7 Q pd0 pn1 sd0 sd1 sd2)) (qlen (Fb45_a7 Q pd0 pn1 sd0 sd1 sd2))) then
                                                bif (qsome (Proofs.YtiojjmlccehpoaaGreat.q64 [pd0, (D.int pn1), (D.agg [(D.int 0), (D.int 0), (D.int 4), (D.int 0), (D.int 0), (D.int 0), (D.int 0), (D.int 0), (D.int 0)]), (Fb45_a7 Q pd0 pn1 sd0 sd1 sd2), (Fb45_a6 Q pd0 pn1 sd0 sd1 sd2)])) then
                                                  bif (qcmp BinOp.eql (qlen (Fb45_a8 Q pd0 pn1 sd0 sd1 sd2)) (qlen (Fb45_a8 Q pd0 pn1 sd0 sd1 sd2))) then
                                                    bif (qcmp BinOp.eql (qlen (Fb45_a9 Q pd0 pn1 sd0 sd1 sd2)) (qlen (Fb45_a9 Q pd0 pn1 sd0 sd1 sd2))) then
                                                      bif (qsome (Proofs.YtiojjmlccehpoaaGreat.q108 [pd0, (D.int pn1), (D.int (qint (qfld sd0 0))), (Fb45_a9 Q pd0 pn1 sd0 sd1 sd2), (Fb45_a8 Q pd0 pn1 sd0 sd1 sd2)])) then
                                                        bif (qcmp BinOp.eql (qlen (Fb45_a10 Q pd0 pn1 sd0 sd1 sd2)) (qlen (Fb45_a10 Q pd0 pn1 sd0 sd1 sd2))) then
                                                          bif (qcmp BinOp.eql (qlen (Fb45_a11 Q pd0 pn1 sd0 sd1 sd2)) (qlen (Fb45_a11 Q pd0 pn1 sd0 sd1 sd2))) then
                                                            bif (qeqD pd0 pd0) then
                                                              bif (qeqD (D.int pn1) (D.int pn1)) then
                                                                some [(Fb45_a11 Q pd0 pn1 sd0 sd1 sd2), (Fb45_a10 Q pd0 pn1 sd0 sd1 sd2)]
                                                              else
                                                                none
                                                            else
                                                              none
                                                          else
                                                            none
                                                        else
                                                          none
                                                      else
                                                        none
                                                    else
                                                      none
                                                  else
                                                    none
                                                else
                                                  none
                                              else
                                                none
                                            else
                                              none
                                          else
                                            none
                                        else
                                          none
                                      else
                                        none
                                    else
                                      none
                                  else
                                    none
                                else
                                  none
                              else
                                none
                            else
                              none
                          else
                            none
                        else
                          none
              else
                none
            else
              none
          else
            none
        else
          none := by kernel_rfl
  rw [h]; simp only [qeqD_self, qeqI_self, qeq_len, show qcmp BinOp.eql 0 (qlen (D.list [])) = true from qeq_len [], show ∀ a, qcmp BinOp.eql 1 (qlen (D.list [a])) = true from fun a => qeq_len [a], show ∀ a b, qcmp BinOp.eql 2 (qlen (D.list [a, b])) = true from fun a b => qeq_len [a, b], cond_true]

noncomputable def F45 : Nat → List D → Option (List D) := levels Fb45

theorem F45_0 (ds : List D) : F45 0 ds = none := rfl

theorem F45_s (n : Nat) : F45 (n + 1) = Fb45 (F45 n) := rfl

noncomputable def q45 : List D → Option (List D) := veil fun ds => F45 (fuelL ds) ds

theorem q45_eq : q45 = fun ds => F45 (fuelL ds) ds := veil_eq _

theorem sound45 : SoundF env.P 45 S45 q45 := recF (fun q => tbR45 q) (fun q hq => ok_tbR45 q hq) q45_eq

noncomputable def tb45 : Tb := Tb.addF tb108 45 S45 q45

theorem ok_tb45 : TbOk env tb45 := TbOk.addF ok_tb108 (by kernel_rfl) sound45

end Go.Proofs.YtiojjmlccehpoaaGreat

open Go Go.AM
namespace Go.Proofs.YtiojjmlccehpoaaGreat
set_option maxRecDepth 100000
set_option linter.unusedSimpArgs false
set_option linter.unusedVariables false
/- function 40  -/

def S40_3 : LoopS := ⟨0, [⟨false, .any⟩, ⟨false, .any⟩, ⟨false, (.lit (.slice none 0 0))⟩, ⟨false, (.osl 0 65)⟩, ⟨false, .any⟩, ⟨false, .any⟩, ⟨false, (.rows 9)⟩, ⟨false, (.int .i64)⟩, ⟨true, (.int .i64)⟩, ⟨false, .any⟩, ⟨false, .any⟩, ⟨false, .any⟩, ⟨false, .any⟩, ⟨false, .any⟩, ⟨false, .any⟩, ⟨false, .any⟩, ⟨false, .any⟩, ⟨false, .any⟩, ⟨false, .any⟩], [(.lst true 65)], [⟨0, 0, [⟨true, .any⟩, ⟨true, .any⟩, ⟨true, (.lit (.slice none 0 0))⟩, ⟨true, (.osl 0 65)⟩, ⟨true, .any⟩, ⟨true, .any⟩, ⟨false, (.rows 9)⟩, ⟨false, (.int .i64)⟩, ⟨true, .any⟩, ⟨true, .any⟩, ⟨true, .any⟩, ⟨true, .any⟩, ⟨true, .any⟩, ⟨true, .any⟩, ⟨true, .any⟩, ⟨true, .any⟩, ⟨true, .any⟩, ⟨true, .any⟩, ⟨true, .any⟩], [(.lst true 65)]⟩]⟩

noncomputable def st40_3 (p s : List D) : Option (Sum (List D) (List D)) := stepQX env tb45 60 6 40 (loopC 40 3) S40_3 p s

theorem st40_3_eq (pd0 : D) (pn1 : Int) (sn0 : Int) (sd1 : D) : st40_3  [pd0, (D.int pn1)] [(D.int sn0), sd1] =
    bif (qcmp BinOp.lss sn0 pn1) then
      bif (qinb pd0 sn0) then
        bif (qmem (qlen (qapp sd1 (D.list [(D.agg [(D.str (qstr (qget pd0 sn0))), (D.agg [(D.int 0), (D.int 0), (D.int 0), (D.list []), (D.list [])])])]))) 88) then
          some (Sum.inl [(D.int (qbin BinOp.add IntKind.i64 sn0 1)), (qapp sd1 (D.list [(D.agg [(D.str (qstr (qget pd0 sn0))), (D.agg [(D.int 0), (D.int 0), (D.int 0), (D.list []), (D.list [])])])]))])
        else
          none
      else
        none
    else
      some (Sum.inr [(D.int 0), sd1]) := by
  have h : st40_3  [pd0, (D.int pn1)] [(D.int sn0), sd1] =
    bif (qcmp BinOp.lss sn0 pn1) then
      bif (qinb pd0 sn0) then
        bif (qcmp BinOp.eql (qlen sd1) (qlen sd1)) then
          bif (qmem (qlen (qapp sd1 (D.list [(D.agg [(D.str (qstr (qget pd0 sn0))), (D.agg [(D.int 0), (D.int 0), (D.int 0), (D.list []), (D.list [])])])]))) 88) then
            bif (qcmp BinOp.eql (qlen (qapp sd1 (D.list [(D.agg [(D.str (qstr (qget pd0 sn0))), (D.agg [(D.int 0), (D.int 0), (D.int 0), (D.list []), (D.list [])])])]))) (qlen (qapp sd1 (D.list [(D.agg [(D.str (qstr (qget pd0 sn0))), (D.agg [(D.int 0), (D.int 0), (D.int 0), (D.list []), (D.list [])])])])))) then
              bif (qeqD pd0 pd0) then
                bif (qeqD (D.int pn1) (D.int pn1)) then
                  some (Sum.inl [(D.int (qbin BinOp.add IntKind.i64 sn0 1)), (qapp sd1 (D.list [(D.agg [(D.str (qstr (qget pd0 sn0))), (D.agg [(D.int 0), (D.int 0), (D.int 0), (D.list []), (D.list [])])])]))])
                else
                  none
              else
                none
            else
              none
          else
            none
        else
          none
      else
        none
    else
      bif (qcmp BinOp.eql (qlen sd1) (qlen sd1)) then
        bif (qeqD pd0 pd0) then
          bif (qeqD (D.int pn1) (D.int pn1)) then
            some (Sum.inr [(D.int 0), sd1])
          else
            none
        else
          none
      else
        none := by kernel_rfl
  rw [h]; simp only [qeqD_self, qeqI_self, qeq_len, show qcmp BinOp.eql 0 (qlen (D.list [])) = true from qeq_len [], show ∀ a, qcmp BinOp.eql 1 (qlen (D.list [a])) = true from fun a => qeq_len [a], show ∀ a b, qcmp BinOp.eql 2 (qlen (D.list [a, b])) = true from fun a b => qeq_len [a, b], cond_true]

noncomputable def l40_3 : List D → List D → Option (List D) := veil fun p s => loW (st40_3  p) s

theorem l40_3_eq : l40_3  = fun p s => loW (st40_3  p) s := veil_eq _

noncomputable def tbl40_3 : Tb := Tb.addL tb45 40 3 S40_3.n0 (mkLp S40_3 (l40_3 ))

theorem ok_tbl40_3 : TbOk env (tbl40_3 ) := addLoopQ ok_tb45 40 3 (by kernel_rfl) _ (l40_3_eq )

def S40 : FunS := ⟨[⟨true, (.rows 9)⟩], [], [⟨true, (.rows 65)⟩], []⟩

noncomputable def F40 : List D → Option (List D) := liftX env tbl40_3 60 6 40 S40

theorem F40_eq  (sd0 : D) : F40  [sd0] =
    bif (qsome (Proofs.YtiojjmlccehpoaaGreat.l40_3 [sd0, (D.int (qlen sd0))] [(D.int 0), (D.list [])])) then
      some [(qnth (Proofs.YtiojjmlccehpoaaGreat.l40_3 [sd0, (D.int (qlen sd0))] [(D.int 0), (D.list [])]) 1)]
    else
      none := by
  have h : F40  [sd0] =
    bif (qcmp BinOp.eql 0 (qlen (D.list []))) then
      bif (qsome (Proofs.YtiojjmlccehpoaaGreat.l40_3 [sd0, (D.int (qlen sd0))] [(D.int 0), (D.list [])])) then
        bif (qcmp BinOp.eql (qlen (qnth (Proofs.YtiojjmlccehpoaaGreat.l40_3 [sd0, (D.int (qlen sd0))] [(D.int 0), (D.list [])]) 1)) (qlen (qnth (Proofs.YtiojjmlccehpoaaGreat.l40_3 [sd0, (D.int (qlen sd0))] [(D.int 0), (D.list [])]) 1))) then
          some [(qnth (Proofs.YtiojjmlccehpoaaGreat.l40_3 [sd0, (D.int (qlen sd0))] [(D.int 0), (D.list [])]) 1)]
        else
          none
      else
        none
    else
      none := by kernel_rfl
  rw [h]; simp only [qeqD_self, qeqI_self, qeq_len, show qcmp BinOp.eql 0 (qlen (D.list [])) = true from qeq_len [], show ∀ a, qcmp BinOp.eql 1 (qlen (D.list [a])) = true from fun a => qeq_len [a], show ∀ a b, qcmp BinOp.eql 2 (qlen (D.list [a, b])) = true from fun a b => qeq_len [a, b], cond_true]

noncomputable def q40 : List D → Option (List D) := veil (F40 )

theorem q40_eq : q40  = F40  := veil_eq _

noncomputable def tb40 : Tb := Tb.addF tbl40_3 40 S40 (q40 )

theorem ok_tb40 : TbOk env (tb40 ) := addFunF ok_tbl40_3 40 (by kernel_rfl) _ (q40_eq )

/- function 44  -/

def S44_3 : LoopS := ⟨0, [⟨false, (.rows 9)⟩, ⟨false, .any⟩, ⟨false, (.lit (.slice none 0 0))⟩, ⟨false, (.osl 0 65)⟩, ⟨true, (.int .i64)⟩, ⟨false, .any⟩, ⟨false, .any⟩, ⟨false, .any⟩, ⟨false, .any⟩, ⟨false, .any⟩, ⟨false, .any⟩, ⟨false, .any⟩, ⟨false, .any⟩, ⟨false, .any⟩, ⟨false, .any⟩, ⟨false, .any⟩, ⟨false, .any⟩, ⟨false, .any⟩, ⟨false, .any⟩, ⟨false, .any⟩], [(.lst true 65)], [⟨0, 0, [⟨false, (.rows 9)⟩, ⟨true, .any⟩, ⟨true, (.lit (.slice none 0 0))⟩, ⟨true, (.osl 0 65)⟩, ⟨true, .any⟩, ⟨true, .any⟩, ⟨true, .any⟩, ⟨true, .any⟩, ⟨true, .any⟩, ⟨true, .any⟩, ⟨true, .any⟩, ⟨true, .any⟩, ⟨true, .any⟩, ⟨true, .any⟩, ⟨true, .any⟩, ⟨true, .any⟩, ⟨true, .any⟩, ⟨true, .any⟩, ⟨true, .any⟩, ⟨true, .any⟩], [(.lst true 65)]⟩]⟩

noncomputable def st44_3 (p s : List D) : Option (Sum (List D) (List D)) := stepQX env tb40 60 6 44 (loopC 44 3) S44_3 p s

theorem st44_3_eq (pd0 : D) (sn0 : Int) (sd1 : D) : st44_3  [pd0] [(D.int sn0), sd1] =
    bif (qcmp BinOp.lss sn0 (qlen pd0)) then
      bif (qinb pd0 sn0) then
        bif (qmem (qlen (qapp sd1 (D.list [(D.agg [(D.str (qstr (qget pd0 sn0))), (D.agg [(D.int 0), (D.int 0), (D.int 0), (D.list []), (D.list [])])])]))) 88) then
          some (Sum.inl [(D.int (qbin BinOp.add IntKind.i64 sn0 1)), (qapp sd1 (D.list [(D.agg [(D.str (qstr (qget pd0 sn0))), (D.agg [(D.int 0), (D.int 0), (D.int 0), (D.list []), (D.list [])])])]))])
        else
          none
      else
        none
    else
      some (Sum.inr [(D.int 0), sd1]) := by
  have h : st44_3  [pd0] [(D.int sn0), sd1] =
    bif (qcmp BinOp.lss sn0 (qlen pd0)) then
      bif (qinb pd0 sn0) then
        bif (qcmp BinOp.eql (qlen sd1) (qlen sd1)) then
          bif (qmem (qlen (qapp sd1 (D.list [(D.agg [(D.str (qstr (qget pd0 sn0))), (D.agg [(D.int 0), (D.int 0), (D.int 0), (D.list []), (D.list [])])])]))) 88) then
            bif (qcmp BinOp.eql (qlen (qapp sd1 (D.list [(D.agg [(D.str (qstr (qget pd0 sn0))), (D.agg [(D.int 0), (D.int 0), (D.int 0), (D.list []), (D.list [])])])]))) (qlen (qapp sd1 (D.list [(D.agg [(D.str (qstr (qget pd0 sn0))), (D.agg [(D.int 0), (D.int 0), (D.int 0), (D.list []), (D.list [])])])])))) then
              bif (qeqD pd0 pd0) then
                some (Sum.inl [(D.int (qbin BinOp.add IntKind.i64 sn0 1)), (qapp sd1 (D.list [(D.agg [(D.str (qstr (qget pd0 sn0))), (D.agg [(D.int 0), (D.int 0), (D.int 0), (D.list []), (D.list [])])])]))])
              else
                none
            else
              none
          else
            none
        else
          none
      else
        none
    else
      bif (qcmp BinOp.eql (qlen sd1) (qlen sd1)) then
        bif (qeqD pd0 pd0) then
          some (Sum.inr [(D.int 0), sd1])
        else
          none
      else
        none := by kernel_rfl
  rw [h]; simp only [qeqD_self, qeqI_self, qeq_len, show qcmp BinOp.eql 0 (qlen (D.list [])) = true from qeq_len [], show ∀ a, qcmp BinOp.eql 1 (qlen (D.list [a])) = true from fun a => qeq_len [a], show ∀ a b, qcmp BinOp.eql 2 (qlen (D.list [a, b])) = true from fun a b => qeq_len [a, b], cond_true]

noncomputable def l44_3 : List D → List D → Option (List D) := veil fun p s => loW (st44_3  p) s

theorem l44_3_eq : l44_3  = fun p s => loW (st44_3  p) s := veil_eq _

noncomputable def tbl44_3 : Tb := Tb.addL tb40 44 3 S44_3.n0 (mkLp S44_3 (l44_3 ))

theorem ok_tbl44_3 : TbOk env (tbl44_3 ) := addLoopQ ok_tb40 44 3 (by kernel_rfl) _ (l44_3_eq )

def S44 : FunS := ⟨[⟨true, (.rows 9)⟩], [], [⟨true, (.rows 65)⟩], []⟩

noncomputable def F44 : List D → Option (List D) := liftX env tbl44_3 60 6 44 S44

theorem F44_eq  (sd0 : D) : F44  [sd0] =
    bif (qsome (Proofs.YtiojjmlccehpoaaGreat.l44_3 [sd0] [(D.int 0), (D.list [])])) then
      some [(qnth (Proofs.YtiojjmlccehpoaaGreat.l44_3 [sd0] [(D.int 0), (D.list [])]) 1)]
    else
      none := by
  have h : F44  [sd0] =
    bif (qcmp BinOp.eql 0 (qlen (D.list []))) then
      bif (qsome (Proofs.YtiojjmlccehpoaaGreat.l44_3 [sd0] [(D.int 0), (D.list [])])) then
        bif (qcmp BinOp.eql (qlen (qnth (Proofs.YtiojjmlccehpoaaGreat.l44_3 [sd0] [(D.int 0), (D.list [])]) 1)) (qlen (qnth (Proofs.YtiojjmlccehpoaaGreat.l44_3 [sd0] [(D.int 0), (D.list [])]) 1))) then
          some [(qnth (Proofs.YtiojjmlccehpoaaGreat.l44_3 [sd0] [(D.int 0), (D.list [])]) 1)]
        else
          none
      else
        none
    else
      none := by kernel_rfl
  rw [h]; simp only [qeqD_self, qeqI_self, qeq_len, show qcmp BinOp.eql 0 (qlen (D.list [])) = true from qeq_len [], show ∀ a, qcmp BinOp.eql 1 (qlen (D.list [a])) = true from fun a => qeq_len [a], show ∀ a b, qcmp BinOp.eql 2 (qlen (D.list [a, b])) = true from fun a b => qeq_len [a, b], cond_true]

noncomputable def q44 : List D → Option (List D) := veil (F44 )

theorem q44_eq : q44  = F44  := veil_eq _

noncomputable def tb44 : Tb := Tb.addF tbl44_3 44 S44 (q44 )

theorem ok_tb44 : TbOk env (tb44 ) := addFunF ok_tbl44_3 44 (by kernel_rfl) _ (q44_eq )

def S38 : FunS := ⟨[⟨true, (.dat 25)⟩, ⟨true, (.int .i64)⟩, ⟨true, (.int .i64)⟩], [], [⟨true, (.int .i64)⟩], []⟩

noncomputable def tbR38 (Q : List D → Option (List D)) : Tb := Tb.addF tb44 38 S38 Q

theorem ok_tbR38 (Q : List D → Option (List D)) (hQ : SoundF env.P 38 S38 Q) : TbOk env (tbR38 Q) := TbOk.addF ok_tb44 (by kernel_rfl) hQ

def S38_5 : LoopS := ⟨0, [⟨false, .any⟩, ⟨false, (.int .i64)⟩, ⟨false, .any⟩, ⟨false, (.ptr 0 0)⟩, ⟨false, .any⟩, ⟨false, .any⟩, ⟨false, (.lit (.int .i64 0))⟩, ⟨true, (.int .i64)⟩, ⟨true, (.int .i64)⟩, ⟨false, .any⟩, ⟨false, .any⟩, ⟨false, .any⟩, ⟨false, .any⟩, ⟨false, .any⟩, ⟨false, .any⟩, ⟨false, .any⟩, ⟨false, .any⟩, ⟨false, .any⟩, ⟨false, .any⟩, ⟨false, .any⟩, ⟨false, .any⟩, ⟨false, .any⟩, ⟨false, .any⟩, ⟨false, .any⟩, ⟨false, .any⟩, ⟨false, .any⟩, ⟨false, .any⟩, ⟨false, .any⟩, ⟨false, .any⟩, ⟨false, .any⟩, ⟨false, .any⟩, ⟨false, .any⟩, ⟨false, .any⟩, ⟨false, .any⟩, ⟨false, .any⟩, ⟨false, .any⟩, ⟨false, .any⟩, ⟨false, .any⟩, ⟨false, .any⟩, ⟨false, .any⟩, ⟨false, .any⟩, ⟨false, .any⟩, ⟨false, .any⟩, ⟨false, .any⟩], [(.dat false 25)], [⟨0, 0, [⟨true, .any⟩, ⟨false, (.int .i64)⟩, ⟨true, .any⟩, ⟨true, .any⟩, ⟨true, .any⟩, ⟨true, .any⟩, ⟨true, (.lit (.int .i64 0))⟩, ⟨true, (.int .i64)⟩, ⟨true, .any⟩, ⟨true, .any⟩, ⟨true, .any⟩, ⟨true, .any⟩, ⟨true, .any⟩, ⟨true, .any⟩, ⟨true, .any⟩, ⟨true, .any⟩, ⟨true, .any⟩, ⟨true, .any⟩, ⟨true, .any⟩, ⟨true, .any⟩, ⟨true, .any⟩, ⟨true, .any⟩, ⟨true, .any⟩, ⟨true, .any⟩, ⟨true, .any⟩, ⟨true, .any⟩, ⟨true, .any⟩, ⟨true, .any⟩, ⟨true, .any⟩, ⟨true, .any⟩, ⟨true, .any⟩, ⟨true, .any⟩, ⟨true, .any⟩, ⟨true, .any⟩, ⟨true, .any⟩, ⟨true, .any⟩, ⟨true, .any⟩, ⟨true, .any⟩, ⟨true, .any⟩, ⟨true, .any⟩, ⟨true, .any⟩, ⟨true, .any⟩, ⟨true, .any⟩, ⟨true, .any⟩], [(.dat false 25)]⟩]⟩

noncomputable def st38_5 (Q : List D → Option (List D)) (p s : List D) : Option (Sum (List D) (List D)) := stepQX env (tbR38 Q ) 60 6 38 (loopC 38 5) S38_5 p s

theorem st38_5_eq (Q : List D → Option (List D)) (pn0 : Int) (pd1 : D) (sn0 : Int) (sn1 : Int) : st38_5 Q  [(D.int pn0), pd1] [(D.int sn0), (D.int sn1)] =
    bif (qiteB (qcmp BinOp.lss sn1 (qlen (qfld pd1 4))) (qcmp BinOp.geq sn0 0) Bool.false) then
      bif (qinb (qfld pd1 4) sn1) then
        bif (qsome (Q [(qget (qfld pd1 4) sn1), (D.int (qbin BinOp.sub IntKind.i64 pn0 1)), (D.int sn0)])) then
          some (Sum.inl [(D.int (qint (qnth (Q [(qget (qfld pd1 4) sn1), (D.int (qbin BinOp.sub IntKind.i64 pn0 1)), (D.int sn0)]) 0))), (D.int (qbin BinOp.add IntKind.i64 sn1 1))])
        else
          none
      else
        none
    else
      some (Sum.inr [(D.int 0), (D.int sn0)]) := by
  have h : st38_5 Q  [(D.int pn0), pd1] [(D.int sn0), (D.int sn1)] =
    bif (qiteB (qcmp BinOp.lss sn1 (qlen (qfld pd1 4))) (qcmp BinOp.geq sn0 0) Bool.false) then
      bif (qinb (qfld pd1 4) sn1) then
        bif (qsome (Q [(qget (qfld pd1 4) sn1), (D.int (qbin BinOp.sub IntKind.i64 pn0 1)), (D.int sn0)])) then
          bif (qeqD (D.int pn0) (D.int pn0)) then
            bif (qeqD pd1 pd1) then
              some (Sum.inl [(D.int (qint (qnth (Q [(qget (qfld pd1 4) sn1), (D.int (qbin BinOp.sub IntKind.i64 pn0 1)), (D.int sn0)]) 0))), (D.int (qbin BinOp.add IntKind.i64 sn1 1))])
            else
              none
          else
            none
        else
          none
      else
        none
    else
      bif (qeqD (D.int pn0) (D.int pn0)) then
        bif (qeqD pd1 pd1) then
          some (Sum.inr [(D.int 0), (D.int sn0)])
        else
          none
      else
        none := by kernel_rfl
  rw [h]; simp only [qeqD_self, qeqI_self, qeq_len, show qcmp BinOp.eql 0 (qlen (D.list [])) = true from qeq_len [], show ∀ a, qcmp BinOp.eql 1 (qlen (D.list [a])) = true from fun a => qeq_len [a], show ∀ a b, qcmp BinOp.eql 2 (qlen (D.list [a, b])) = true from fun a b => qeq_len [a, b], cond_true]

noncomputable def l38_5 (Q : List D → Option (List D)) : List D → List D → Option (List D) := veil fun p s => loW (st38_5 Q  p) s

theorem l38_5_eq (Q : List D → Option (List D)) : l38_5 Q  = fun p s => loW (st38_5 Q  p) s := veil_eq _

noncomputable def tbl38_5 (Q : List D → Option (List D)) : Tb := Tb.addL (tbR38 Q ) 38 5 S38_5.n0 (mkLp S38_5 (l38_5 Q ))

theorem ok_tbl38_5 (Q : List D → Option (List D)) (hQ : SoundF env.P 38 S38 Q) : TbOk env (tbl38_5 Q ) := addLoopQ (ok_tbR38 Q hQ) 38 5 (by kernel_rfl) _ (l38_5_eq Q )

noncomputable def Fb38 (Q : List D → Option (List D)) : List D → Option (List D) := liftX env (tbl38_5 Q ) 60 6 38 S38

theorem Fb38_eq (Q : List D → Option (List D))  (sd0 : D) (sn1 : Int) (sn2 : Int) : Fb38 Q  [sd0, (D.int sn1), (D.int sn2)] =
    bif (qiteB (qiteB (qcmp BinOp.lss sn1 1) Bool.true (qcmp BinOp.lss sn2 1)) Bool.true (qcmp BinOp.gtr (qlen (qfld sd0 4)) 4)) then
      some [(D.int (-1))]
    else
      bif (qsome (Proofs.YtiojjmlccehpoaaGreat.l38_5 Q [(D.int sn1), sd0] [(D.int (qbin BinOp.sub IntKind.i64 sn2 1)), (D.int 0)])) then
        some [(D.int (qint (qnth (Proofs.YtiojjmlccehpoaaGreat.l38_5 Q [(D.int sn1), sd0] [(D.int (qbin BinOp.sub IntKind.i64 sn2 1)), (D.int 0)]) 1)))]
      else
        none := by kernel_rfl

noncomputable def F38 : Nat → List D → Option (List D) := levels Fb38

theorem F38_0 (ds : List D) : F38 0 ds = none := rfl

theorem F38_s (n : Nat) : F38 (n + 1) = Fb38 (F38 n) := rfl

noncomputable def q38 : List D → Option (List D) := veil fun ds => F38 (fuelL ds) ds

theorem q38_eq : q38 = fun ds => F38 (fuelL ds) ds := veil_eq _

theorem sound38 : SoundF env.P 38 S38 q38 := recF (fun q => tbl38_5 q) (fun q hq => ok_tbl38_5 q hq) q38_eq

noncomputable def tb38 : Tb := Tb.addF tb44 38 S38 q38

theorem ok_tb38 : TbOk env tb38 := TbOk.addF ok_tb44 (by kernel_rfl) sound38

/- function 11  -/

def S11 : FunS := ⟨[⟨true, (.dat 25)⟩, ⟨true, (.int .i64)⟩], [], [⟨true, .bool⟩], []⟩

noncomputable def F11 : List D → Option (List D) := liftX env tb38 60 6 11 S11

theorem F11_eq  (sd0 : D) (sn1 : Int) : F11  [sd0, (D.int sn1)] =
    bif (qsome (Proofs.YtiojjmlccehpoaaGreat.q38 [sd0, (D.int sn1), (D.int 3000)])) then
      some [(D.bool (qcmp BinOp.geq (qint (qnth (Proofs.YtiojjmlccehpoaaGreat.q38 [sd0, (D.int sn1), (D.int 3000)]) 0)) 0))]
    else
      none := by kernel_rfl

noncomputable def q11 : List D → Option (List D) := veil (F11 )

theorem q11_eq : q11  = F11  := veil_eq _

noncomputable def tb11 : Tb := Tb.addF tb38 11 S11 (q11 )

theorem ok_tb11 : TbOk env (tb11 ) := addFunF ok_tb38 11 (by kernel_rfl) _ (q11_eq )

end Go.Proofs.YtiojjmlccehpoaaGreat

open Go Go.AM
namespace Go.Proofs.YtiojjmlccehpoaaGreat
set_option maxRecDepth 100000
set_option linter.unusedSimpArgs false
set_option linter.unusedVariables false
/- function 144  -/

def S144_144 : FunS := ⟨[⟨true, (.dat 65)⟩, ⟨true, (.eptr [.str])⟩], [], [⟨true, .bool⟩], []⟩

noncomputable def F144_144 : List D → Option (List D) := liftX env tb11 60 6 144 S144_144

theorem F144_144_eq  (sd0 : D) (ss1 : ByteArray) : F144_144  [sd0, (D.str ss1)] =
    some [(D.bool (qcmpS BinOp.eql (qstr (qfld sd0 0)) ss1))] := by kernel_rfl

noncomputable def q144_144 : List D → Option (List D) := veil (F144_144 )

theorem q144_144_eq : q144_144  = F144_144  := veil_eq _

noncomputable def tb144_144 : Tb := Tb.addF tb11 144 S144_144 (q144_144 )

theorem ok_tb144_144 : TbOk env (tb144_144 ) := addFunF ok_tb11 144 (by kernel_rfl) _ (q144_144_eq )

/- function 203  -/

def S203_144_2 : LoopS := ⟨0, [⟨false, (.rows 65)⟩, ⟨false, (.func 144 [] [(.eptr [.str])])⟩, ⟨false, .any⟩, ⟨false, .any⟩, ⟨false, (.lit (.int .i64 0))⟩, ⟨false, .any⟩, ⟨false, .any⟩, ⟨false, (.int .i64)⟩, ⟨true, (.int .i64)⟩, ⟨false, .any⟩, ⟨false, .any⟩, ⟨false, .any⟩, ⟨false, .any⟩, ⟨false, .any⟩, ⟨false, .any⟩, ⟨false, .any⟩, ⟨false, .any⟩, ⟨false, .any⟩, ⟨false, .any⟩], [], [⟨0, 0, [⟨false, (.rows 65)⟩, ⟨false, (.func 144 [] [(.eptr [.str])])⟩, ⟨true, .any⟩, ⟨true, .any⟩, ⟨true, (.lit (.int .i64 0))⟩, ⟨true, .any⟩, ⟨true, .any⟩, ⟨false, (.int .i64)⟩, ⟨true, .any⟩, ⟨true, .any⟩, ⟨true, .any⟩, ⟨true, .any⟩, ⟨true, .any⟩, ⟨true, .any⟩, ⟨true, .any⟩, ⟨true, .any⟩, ⟨true, .any⟩, ⟨true, .any⟩, ⟨true, .any⟩], []⟩, ⟨1, 0, [⟨false, (.rows 65)⟩, ⟨false, (.func 144 [] [(.eptr [.str])])⟩, ⟨true, .any⟩, ⟨true, .any⟩, ⟨true, (.int .i64)⟩, ⟨true, .any⟩, ⟨true, .any⟩, ⟨false, (.int .i64)⟩, ⟨true, .any⟩, ⟨true, .any⟩, ⟨true, .any⟩, ⟨true, .any⟩, ⟨true, .any⟩, ⟨true, .any⟩, ⟨true, .any⟩, ⟨true, .any⟩, ⟨true, .any⟩, ⟨true, .any⟩, ⟨true, .any⟩], []⟩]⟩

noncomputable def st203_144_2 (p s : List D) : Option (Sum (List D) (List D)) := stepQX env tb144_144 60 6 203 (loopC 203 2) S203_144_2 p s

theorem st203_144_2_eq (pd0 : D) (ps1 : ByteArray) (pn2 : Int) (sn0 : Int) : st203_144_2  [pd0, (D.str ps1), (D.int pn2)] [(D.int sn0)] =
    bif (qcmp BinOp.lss sn0 pn2) then
      bif (qinb pd0 sn0) then
        bif (qsome (Proofs.YtiojjmlccehpoaaGreat.q144_144 [(qget pd0 sn0), (D.str ps1)])) then
          bif (qbool (qnth (Proofs.YtiojjmlccehpoaaGreat.q144_144 [(qget pd0 sn0), (D.str ps1)]) 0)) then
            some (Sum.inr [(D.int 1), (D.int sn0)])
          else
            some (Sum.inl [(D.int (qbin BinOp.add IntKind.i64 sn0 1))])
        else
          none
      else
        none
    else
      some (Sum.inr [(D.int 0)]) := by
  have h : st203_144_2  [pd0, (D.str ps1), (D.int pn2)] [(D.int sn0)] =
    bif (qcmp BinOp.lss sn0 pn2) then
      bif (qinb pd0 sn0) then
        bif (qsome (Proofs.YtiojjmlccehpoaaGreat.q144_144 [(qget pd0 sn0), (D.str ps1)])) then
          bif (qbool (qnth (Proofs.YtiojjmlccehpoaaGreat.q144_144 [(qget pd0 sn0), (D.str ps1)]) 0)) then
            bif (qeqD pd0 pd0) then
              bif (qeqD (D.str ps1) (D.str ps1)) then
                bif (qeqD (D.int pn2) (D.int pn2)) then
                  some (Sum.inr [(D.int 1), (D.int sn0)])
                else
                  none
              else
                none
            else
              none
          else
            bif (qeqD pd0 pd0) then
              bif (qeqD (D.str ps1) (D.str ps1)) then
                bif (qeqD (D.int pn2) (D.int pn2)) then
                  some (Sum.inl [(D.int (qbin BinOp.add IntKind.i64 sn0 1))])
                else
                  none
              else
                none
            else
              none
        else
          none
      else
        none
    else
      bif (qeqD pd0 pd0) then
        bif (qeqD (D.str ps1) (D.str ps1)) then
          bif (qeqD (D.int pn2) (D.int pn2)) then
            some (Sum.inr [(D.int 0)])
          else
            none
        else
          none
      else
        none := by kernel_rfl
  rw [h]; simp only [qeqD_self, qeqI_self, qeq_len, show qcmp BinOp.eql 0 (qlen (D.list [])) = true from qeq_len [], show ∀ a, qcmp BinOp.eql 1 (qlen (D.list [a])) = true from fun a => qeq_len [a], show ∀ a b, qcmp BinOp.eql 2 (qlen (D.list [a, b])) = true from fun a b => qeq_len [a, b], cond_true]

noncomputable def l203_144_2 : List D → List D → Option (List D) := veil fun p s => loW (st203_144_2  p) s

theorem l203_144_2_eq : l203_144_2  = fun p s => loW (st203_144_2  p) s := veil_eq _

noncomputable def tbl203_144_2 : Tb := Tb.addL tb144_144 203 2 S203_144_2.n0 (mkLp S203_144_2 (l203_144_2 ))

theorem ok_tbl203_144_2 : TbOk env (tbl203_144_2 ) := addLoopQ ok_tb144_144 203 2 (by kernel_rfl) _ (l203_144_2_eq )

def S203_144 : FunS := ⟨[⟨true, (.rows 65)⟩, ⟨true, (.func 144 [] [(.eptr [.str])])⟩], [], [⟨true, (.int .i64)⟩], []⟩

noncomputable def F203_144 : List D → Option (List D) := liftX env tbl203_144_2 60 6 203 S203_144

theorem F203_144_eq  (sd0 : D) (ss1 : ByteArray) : F203_144  [sd0, (D.str ss1)] =
    bif (qsome (Proofs.YtiojjmlccehpoaaGreat.l203_144_2 [sd0, (D.str ss1), (D.int (qlen sd0))] [(D.int 0)])) then
      bif (qcmp BinOp.eql (qint (qnth (Proofs.YtiojjmlccehpoaaGreat.l203_144_2 [sd0, (D.str ss1), (D.int (qlen sd0))] [(D.int 0)]) 0)) 0) then
        some [(D.int (-1))]
      else
        some [(D.int (qint (qnth (Proofs.YtiojjmlccehpoaaGreat.l203_144_2 [sd0, (D.str ss1), (D.int (qlen sd0))] [(D.int 0)]) 1)))]
    else
      none := by kernel_rfl

noncomputable def q203_144 : List D → Option (List D) := veil (F203_144 )

theorem q203_144_eq : q203_144  = F203_144  := veil_eq _

noncomputable def tb203_144 : Tb := Tb.addF tbl203_144_2 203 S203_144 (q203_144 )

theorem ok_tb203_144 : TbOk env (tb203_144 ) := addFunF ok_tbl203_144_2 203 (by kernel_rfl) _ (q203_144_eq )

/- function 143  -/

def S143_144 : FunS := ⟨[⟨true, (.rows 65)⟩, ⟨true, (.func 144 [] [(.eptr [.str])])⟩], [], [⟨true, .bool⟩], []⟩

noncomputable def F143_144 : List D → Option (List D) := liftX env tb203_144 60 6 143 S143_144

theorem F143_144_eq  (sd0 : D) (ss1 : ByteArray) : F143_144  [sd0, (D.str ss1)] =
    bif (qsome (Proofs.YtiojjmlccehpoaaGreat.q203_144 [sd0, (D.str ss1)])) then
      some [(D.bool (qcmp BinOp.geq (qint (qnth (Proofs.YtiojjmlccehpoaaGreat.q203_144 [sd0, (D.str ss1)]) 0)) 0))]
    else
      none := by kernel_rfl

noncomputable def q143_144 : List D → Option (List D) := veil (F143_144 )

theorem q143_144_eq : q143_144  = F143_144  := veil_eq _

noncomputable def tb143_144 : Tb := Tb.addF tb203_144 143 S143_144 (q143_144 )

theorem ok_tb143_144 : TbOk env (tb143_144 ) := addFunF ok_tb203_144 143 (by kernel_rfl) _ (q143_144_eq )

/- function 142  -/

def S142 : FunS := ⟨[⟨true, .str⟩, ⟨true, (.eptr [(.rows 65)])⟩], [], [⟨true, .bool⟩], []⟩

noncomputable def F142 : List D → Option (List D) := liftX env tb143_144 60 6 142 S142

theorem F142_eq  (ss0 : ByteArray) (sd1 : D) : F142  [(D.str ss0), sd1] =
    bif (qsome (Proofs.YtiojjmlccehpoaaGreat.q143_144 [sd1, (D.str ss0)])) then
      some [(D.bool (qbool (qnth (Proofs.YtiojjmlccehpoaaGreat.q143_144 [sd1, (D.str ss0)]) 0)))]
    else
      none := by kernel_rfl

noncomputable def q142 : List D → Option (List D) := veil (F142 )

theorem q142_eq : q142  = F142  := veil_eq _

noncomputable def tb142 : Tb := Tb.addF tb143_144 142 S142 (q142 )

theorem ok_tb142 : TbOk env (tb142 ) := addFunF ok_tb143_144 142 (by kernel_rfl) _ (q142_eq )

def S87 : FunS := ⟨[⟨true, (.dat 25)⟩, ⟨true, (.func 142 [] [(.eptr [(.rows 65)])])⟩], [], [⟨true, .bool⟩], []⟩

noncomputable def tbR87 (Q : List D → Option (List D)) : Tb := Tb.addF tb142 87 S87 Q

theorem ok_tbR87 (Q : List D → Option (List D)) (hQ : SoundF env.P 87 S87 Q) : TbOk env (tbR87 Q) := TbOk.addF ok_tb142 (by kernel_rfl) hQ

/- function 141  -/

def S141_141 : FunS := ⟨[⟨true, (.dat 25)⟩, ⟨true, (.eptr [(.func 142 [] [(.eptr [(.rows 65)])])])⟩], [], [⟨true, .bool⟩], []⟩

noncomputable def F141_141 (Q : List D → Option (List D)) : List D → Option (List D) := liftX env (tbR87 Q ) 60 6 141 S141_141

theorem F141_141_eq (Q : List D → Option (List D))  (sd0 : D) (sd1 : D) : F141_141 Q  [sd0, sd1] =
    bif (qsome (Q [sd0, sd1])) then
      some [(D.bool (qnot (qbool (qnth (Q [sd0, sd1]) 0))))]
    else
      none := by kernel_rfl

noncomputable def q141_141 (Q : List D → Option (List D)) : List D → Option (List D) := veil (F141_141 Q )

theorem q141_141_eq (Q : List D → Option (List D)) : q141_141 Q  = F141_141 Q  := veil_eq _

noncomputable def tb141_141 (Q : List D → Option (List D)) : Tb := Tb.addF (tbR87 Q ) 141 S141_141 (q141_141 Q )

theorem ok_tb141_141 (Q : List D → Option (List D)) (hQ : SoundF env.P 87 S87 Q) : TbOk env (tb141_141 Q ) := addFunF (ok_tbR87 Q hQ) 141 (by kernel_rfl) _ (q141_141_eq Q )

/- function 201  -/

def S201_141_2 : LoopS := ⟨0, [⟨false, (.rows 25)⟩, ⟨false, (.func 141 [] [(.eptr [(.func 142 [] [(.eptr [(.rows 65)])])])])⟩, ⟨false, .any⟩, ⟨false, .any⟩, ⟨false, (.lit (.int .i64 0))⟩, ⟨false, .any⟩, ⟨false, .any⟩, ⟨false, (.int .i64)⟩, ⟨true, (.int .i64)⟩, ⟨false, .any⟩, ⟨false, .any⟩, ⟨false, .any⟩, ⟨false, .any⟩, ⟨false, .any⟩, ⟨false, .any⟩, ⟨false, .any⟩, ⟨false, .any⟩, ⟨false, .any⟩, ⟨false, .any⟩], [], [⟨0, 0, [⟨false, (.rows 25)⟩, ⟨false, (.func 141 [] [(.eptr [(.func 142 [] [(.eptr [(.rows 65)])])])])⟩, ⟨true, .any⟩, ⟨true, .any⟩, ⟨true, (.lit (.int .i64 0))⟩, ⟨true, .any⟩, ⟨true, .any⟩, ⟨false, (.int .i64)⟩, ⟨true, .any⟩, ⟨true, .any⟩, ⟨true, .any⟩, ⟨true, .any⟩, ⟨true, .any⟩, ⟨true, .any⟩, ⟨true, .any⟩, ⟨true, .any⟩, ⟨true, .any⟩, ⟨true, .any⟩, ⟨true, .any⟩], []⟩, ⟨1, 0, [⟨false, (.rows 25)⟩, ⟨false, (.func 141 [] [(.eptr [(.func 142 [] [(.eptr [(.rows 65)])])])])⟩, ⟨true, .any⟩, ⟨true, .any⟩, ⟨true, (.int .i64)⟩, ⟨true, .any⟩, ⟨true, .any⟩, ⟨false, (.int .i64)⟩, ⟨true, .any⟩, ⟨true, .any⟩, ⟨true, .any⟩, ⟨true, .any⟩, ⟨true, .any⟩, ⟨true, .any⟩, ⟨true, .any⟩, ⟨true, .any⟩, ⟨true, .any⟩, ⟨true, .any⟩, ⟨true, .any⟩], []⟩]⟩

noncomputable def st201_141_2 (Q : List D → Option (List D)) (p s : List D) : Option (Sum (List D) (List D)) := stepQX env (tb141_141 Q ) 60 6 201 (loopC 201 2) S201_141_2 p s

theorem st201_141_2_eq (Q : List D → Option (List D)) (pd0 : D) (pd1 : D) (pn2 : Int) (sn0 : Int) : st201_141_2 Q  [pd0, pd1, (D.int pn2)] [(D.int sn0)] =
    bif (qcmp BinOp.lss sn0 pn2) then
      bif (qinb pd0 sn0) then
        bif (qsome (Proofs.YtiojjmlccehpoaaGreat.q141_141 Q [(qget pd0 sn0), pd1])) then
          bif (qbool (qnth (Proofs.YtiojjmlccehpoaaGreat.q141_141 Q [(qget pd0 sn0), pd1]) 0)) then
            some (Sum.inr [(D.int 1), (D.int sn0)])
          else
            some (Sum.inl [(D.int (qbin BinOp.add IntKind.i64 sn0 1))])
        else
          none
      else
        none
    else
      some (Sum.inr [(D.int 0)]) := by
  have h : st201_141_2 Q  [pd0, pd1, (D.int pn2)] [(D.int sn0)] =
    bif (qcmp BinOp.lss sn0 pn2) then
      bif (qinb pd0 sn0) then
        bif (qsome (Proofs.YtiojjmlccehpoaaGreat.q141_141 Q [(qget pd0 sn0), pd1])) then
          bif (qbool (qnth (Proofs.YtiojjmlccehpoaaGreat.q141_141 Q [(qget pd0 sn0), pd1]) 0)) then
            bif (qeqD pd0 pd0) then
              bif (qeqD pd1 pd1) then
                bif (qeqD (D.int pn2) (D.int pn2)) then
                  some (Sum.inr [(D.int 1), (D.int sn0)])
                else
                  none
              else
                none
            else
              none
          else
            bif (qeqD pd0 pd0) then
              bif (qeqD pd1 pd1) then
                bif (qeqD (D.int pn2) (D.int pn2)) then
                  some (Sum.inl [(D.int (qbin BinOp.add IntKind.i64 sn0 1))])
                else
                  none
              else
                none
            else
              none
        else
          none
      else
        none
    else
      bif (qeqD pd0 pd0) then
        bif (qeqD pd1 pd1) then
          bif (qeqD (D.int pn2) (D.int pn2)) then
            some (Sum.inr [(D.int 0)])
          else
            none
        else
          none
      else
        none := by kernel_rfl
  rw [h]; simp only [qeqD_self, qeqI_self, qeq_len, show qcmp BinOp.eql 0 (qlen (D.list [])) = true from qeq_len [], show ∀ a, qcmp BinOp.eql 1 (qlen (D.list [a])) = true from fun a => qeq_len [a], show ∀ a b, qcmp BinOp.eql 2 (qlen (D.list [a, b])) = true from fun a b => qeq_len [a, b], cond_true]

noncomputable def l201_141_2 (Q : List D → Option (List D)) : List D → List D → Option (List D) := veil fun p s => loW (st201_141_2 Q  p) s

theorem l201_141_2_eq (Q : List D → Option (List D)) : l201_141_2 Q  = fun p s => loW (st201_141_2 Q  p) s := veil_eq _

noncomputable def tbl201_141_2 (Q : List D → Option (List D)) : Tb := Tb.addL (tb141_141 Q ) 201 2 S201_141_2.n0 (mkLp S201_141_2 (l201_141_2 Q ))

theorem ok_tbl201_141_2 (Q : List D → Option (List D)) (hQ : SoundF env.P 87 S87 Q) : TbOk env (tbl201_141_2 Q ) := addLoopQ (ok_tb141_141 Q hQ) 201 2 (by kernel_rfl) _ (l201_141_2_eq Q )

def S201_141 : FunS := ⟨[⟨true, (.rows 25)⟩, ⟨true, (.func 141 [] [(.eptr [(.func 142 [] [(.eptr [(.rows 65)])])])])⟩], [], [⟨true, (.int .i64)⟩], []⟩

noncomputable def F201_141 (Q : List D → Option (List D)) : List D → Option (List D) := liftX env (tbl201_141_2 Q ) 60 6 201 S201_141

theorem F201_141_eq (Q : List D → Option (List D))  (sd0 : D) (sd1 : D) : F201_141 Q  [sd0, sd1] =
    bif (qsome (Proofs.YtiojjmlccehpoaaGreat.l201_141_2 Q [sd0, sd1, (D.int (qlen sd0))] [(D.int 0)])) then
      bif (qcmp BinOp.eql (qint (qnth (Proofs.YtiojjmlccehpoaaGreat.l201_141_2 Q [sd0, sd1, (D.int (qlen sd0))] [(D.int 0)]) 0)) 0) then
        some [(D.int (-1))]
      else
        some [(D.int (qint (qnth (Proofs.YtiojjmlccehpoaaGreat.l201_141_2 Q [sd0, sd1, (D.int (qlen sd0))] [(D.int 0)]) 1)))]
    else
      none := by kernel_rfl

noncomputable def q201_141 (Q : List D → Option (List D)) : List D → Option (List D) := veil (F201_141 Q )

theorem q201_141_eq (Q : List D → Option (List D)) : q201_141 Q  = F201_141 Q  := veil_eq _

noncomputable def tb201_141 (Q : List D → Option (List D)) : Tb := Tb.addF (tbl201_141_2 Q ) 201 S201_141 (q201_141 Q )

theorem ok_tb201_141 (Q : List D → Option (List D)) (hQ : SoundF env.P 87 S87 Q) : TbOk env (tb201_141 Q ) := addFunF (ok_tbl201_141_2 Q hQ) 201 (by kernel_rfl) _ (q201_141_eq Q )

/- function 137  -/

def S137_141 : FunS := ⟨[⟨true, (.rows 25)⟩, ⟨true, (.func 141 [] [(.eptr [(.func 142 [] [(.eptr [(.rows 65)])])])])⟩], [], [⟨true, .bool⟩], []⟩

noncomputable def F137_141 (Q : List D → Option (List D)) : List D → Option (List D) := liftX env (tb201_141 Q ) 60 6 137 S137_141

theorem F137_141_eq (Q : List D → Option (List D))  (sd0 : D) (sd1 : D) : F137_141 Q  [sd0, sd1] =
    bif (qsome (Proofs.YtiojjmlccehpoaaGreat.q201_141 Q [sd0, sd1])) then
      some [(D.bool (qcmp BinOp.geq (qint (qnth (Proofs.YtiojjmlccehpoaaGreat.q201_141 Q [sd0, sd1]) 0)) 0))]
    else
      none := by kernel_rfl

noncomputable def q137_141 (Q : List D → Option (List D)) : List D → Option (List D) := veil (F137_141 Q )

theorem q137_141_eq (Q : List D → Option (List D)) : q137_141 Q  = F137_141 Q  := veil_eq _

noncomputable def tb137_141 (Q : List D → Option (List D)) : Tb := Tb.addF (tb201_141 Q ) 137 S137_141 (q137_141 Q )

theorem ok_tb137_141 (Q : List D → Option (List D)) (hQ : SoundF env.P 87 S87 Q) : TbOk env (tb137_141 Q ) := addFunF (ok_tb201_141 Q hQ) 137 (by kernel_rfl) _ (q137_141_eq Q )

noncomputable def Fb87 (Q : List D → Option (List D)) : List D → Option (List D) := liftX env (tb137_141 Q ) 60 6 87 S87

theorem Fb87_eq (Q : List D → Option (List D))  (sd0 : D) (sd1 : D) : Fb87 Q  [sd0, sd1] =
    bif (qcmp BinOp.eql (qint (qfld sd0 0)) 2) then
      bif (qsome (Proofs.YtiojjmlccehpoaaGreat.q142 [(D.str (qstr (qfld sd0 2))), sd1])) then
        bif (qnot (qbool (qnth (Proofs.YtiojjmlccehpoaaGreat.q142 [(D.str (qstr (qfld sd0 2))), sd1]) 0))) then
          some [(D.bool Bool.false)]
        else
          bif (qsome (Proofs.YtiojjmlccehpoaaGreat.q137_141 Q [(qfld sd0 4), sd1])) then
            some [(D.bool (qnot (qbool (qnth (Proofs.YtiojjmlccehpoaaGreat.q137_141 Q [(qfld sd0 4), sd1]) 0))))]
          else
            none
      else
        none
    else
      bif (qsome (Proofs.YtiojjmlccehpoaaGreat.q137_141 Q [(qfld sd0 4), sd1])) then
        some [(D.bool (qnot (qbool (qnth (Proofs.YtiojjmlccehpoaaGreat.q137_141 Q [(qfld sd0 4), sd1]) 0))))]
      else
        none := by kernel_rfl

noncomputable def F87 : Nat → List D → Option (List D) := levels Fb87

theorem F87_0 (ds : List D) : F87 0 ds = none := rfl

theorem F87_s (n : Nat) : F87 (n + 1) = Fb87 (F87 n) := rfl

noncomputable def q87 : List D → Option (List D) := veil fun ds => F87 (fuelL ds) ds

theorem q87_eq : q87 = fun ds => F87 (fuelL ds) ds := veil_eq _

theorem sound87 : SoundF env.P 87 S87 q87 := recF (fun q => tb137_141 q) (fun q hq => ok_tb137_141 q hq) q87_eq

noncomputable def tb87 : Tb := Tb.addF tb142 87 S87 q87

theorem ok_tb87 : TbOk env tb87 := TbOk.addF ok_tb142 (by kernel_rfl) sound87

end Go.Proofs.YtiojjmlccehpoaaGreat

open Go Go.AM
namespace Go.Proofs.YtiojjmlccehpoaaGreat
set_option maxRecDepth 100000
set_option linter.unusedSimpArgs false
set_option linter.unusedVariables false
/- function 30  -/

def S30 : FunS := ⟨[⟨true, (.dat 25)⟩, ⟨true, (.rows 65)⟩], [], [⟨true, (.int .i64)⟩], []⟩

noncomputable def F30 : List D → Option (List D) := liftX env tb87 60 6 30 S30

theorem F30_eq  (sd0 : D) (sd1 : D) : F30  [sd0, sd1] =
    bif (qsome (Proofs.YtiojjmlccehpoaaGreat.q85 [sd0, (D.int 64)])) then
      bif (qnot (qbool (qnth (Proofs.YtiojjmlccehpoaaGreat.q85 [sd0, (D.int 64)]) 0))) then
        some [(D.int 20)]
      else
        bif (qsome (Proofs.YtiojjmlccehpoaaGreat.q86 [sd0])) then
          bif (qnot (qbool (qnth (Proofs.YtiojjmlccehpoaaGreat.q86 [sd0]) 0))) then
            some [(D.int 2)]
          else
            bif (qsome (Proofs.YtiojjmlccehpoaaGreat.q87 [sd0, sd1])) then
              bif (qnot (qbool (qnth (Proofs.YtiojjmlccehpoaaGreat.q87 [sd0, sd1]) 0))) then
                some [(D.int 17)]
              else
                some [(D.int 0)]
            else
              none
        else
          none
    else
      none := by kernel_rfl

noncomputable def q30 : List D → Option (List D) := veil (F30 )

theorem q30_eq : q30  = F30  := veil_eq _

noncomputable def tb30 : Tb := Tb.addF tb87 30 S30 (q30 )

theorem ok_tb30 : TbOk env (tb30 ) := addFunF ok_tb87 30 (by kernel_rfl) _ (q30_eq )

/- function 43  -/

def S43 : FunS := ⟨[⟨true, (.dat 25)⟩, ⟨true, (.rows 65)⟩], [], [⟨true, (.int .i64)⟩], []⟩

noncomputable def F43 : List D → Option (List D) := liftX env tb30 60 6 43 S43

theorem F43_eq  (sd0 : D) (sd1 : D) : F43  [sd0, sd1] =
    bif (qsome (Proofs.YtiojjmlccehpoaaGreat.q105 [sd0, (D.int 64)])) then
      bif (qbool (qnth (Proofs.YtiojjmlccehpoaaGreat.q105 [sd0, (D.int 64)]) 0)) then
        some [(D.int 20)]
      else
        bif (qsome (Proofs.YtiojjmlccehpoaaGreat.q106 [sd0])) then
          bif (qnot (qbool (qnth (Proofs.YtiojjmlccehpoaaGreat.q106 [sd0]) 0))) then
            some [(D.int 2)]
          else
            bif (qsome (Proofs.YtiojjmlccehpoaaGreat.q107 [sd0, sd1])) then
              bif (qnot (qbool (qnth (Proofs.YtiojjmlccehpoaaGreat.q107 [sd0, sd1]) 0))) then
                some [(D.int 17)]
              else
                some [(D.int 0)]
            else
              none
        else
          none
    else
      none := by kernel_rfl

noncomputable def q43 : List D → Option (List D) := veil (F43 )

theorem q43_eq : q43  = F43  := veil_eq _

noncomputable def tb43 : Tb := Tb.addF tb30 43 S43 (q43 )

theorem ok_tb43 : TbOk env (tb43 ) := addFunF ok_tb30 43 (by kernel_rfl) _ (q43_eq )

end Go.Proofs.YtiojjmlccehpoaaGreat

open Go Go.AM
namespace Go.Proofs.YtiojjmlccehpoaaGreat
set_option maxRecDepth 100000
set_option linter.unusedSimpArgs false
set_option linter.unusedVariables false
/- function 15  -/

def S15_4 : LoopS := ⟨0, [⟨false, (.rows 46)⟩, ⟨false, (.rows 46)⟩, ⟨false, .any⟩, ⟨false, .any⟩, ⟨false, (.lit (.bool false))⟩, ⟨true, (.int .i64)⟩, ⟨false, .any⟩, ⟨false, .any⟩, ⟨false, .any⟩, ⟨false, .any⟩, ⟨false, .any⟩, ⟨false, .any⟩, ⟨false, .any⟩, ⟨false, .any⟩, ⟨false, .any⟩, ⟨false, .any⟩, ⟨false, .any⟩, ⟨false, .any⟩, ⟨false, .any⟩, ⟨false, .any⟩, ⟨false, .any⟩, ⟨false, .any⟩, ⟨false, .any⟩, ⟨false, .any⟩, ⟨false, .any⟩, ⟨false, .any⟩], [], [⟨0, 0, [⟨false, (.rows 46)⟩, ⟨false, (.rows 46)⟩, ⟨true, .any⟩, ⟨true, .any⟩, ⟨true, (.lit (.bool false))⟩, ⟨true, .any⟩, ⟨true, .any⟩, ⟨true, .any⟩, ⟨true, .any⟩, ⟨true, .any⟩, ⟨true, .any⟩, ⟨true, .any⟩, ⟨true, .any⟩, ⟨true, .any⟩, ⟨true, .any⟩, ⟨true, .any⟩, ⟨true, .any⟩, ⟨true, .any⟩, ⟨true, .any⟩, ⟨true, .any⟩, ⟨true, .any⟩, ⟨true, .any⟩, ⟨true, .any⟩, ⟨true, .any⟩, ⟨true, .any⟩, ⟨true, .any⟩], []⟩, ⟨1, 0, [⟨false, (.rows 46)⟩, ⟨false, (.rows 46)⟩, ⟨true, .any⟩, ⟨true, .any⟩, ⟨true, (.lit (.bool false))⟩, ⟨true, .any⟩, ⟨true, .any⟩, ⟨true, .any⟩, ⟨true, .any⟩, ⟨true, .any⟩, ⟨true, .any⟩, ⟨true, .any⟩, ⟨true, .any⟩, ⟨true, .any⟩, ⟨true, .any⟩, ⟨true, .any⟩, ⟨true, .any⟩, ⟨true, .any⟩, ⟨true, .any⟩, ⟨true, .any⟩, ⟨true, .any⟩, ⟨true, .any⟩, ⟨true, .any⟩, ⟨true, .any⟩, ⟨true, .any⟩, ⟨true, .any⟩], []⟩]⟩

noncomputable def st15_4 (p s : List D) : Option (Sum (List D) (List D)) := stepQX env tb43 60 6 15 (loopC 15 4) S15_4 p s

theorem st15_4_eq (pd0 : D) (pd1 : D) (sn0 : Int) : st15_4  [pd0, pd1] [(D.int sn0)] =
    bif (qcmp BinOp.lss sn0 (qlen pd0)) then
      bif (qinb pd0 sn0) then
        bif (qinb pd1 sn0) then
          bif (qnot (qand (qcmp BinOp.eql (qint (qfld (qget pd0 sn0) 0)) (qint (qfld (qget pd1 sn0) 0))) (qand (qcmp BinOp.eql (qint (qfld (qget pd0 sn0) 1)) (qint (qfld (qget pd1 sn0) 1))) (qand (qcmp BinOp.eql (qint (qfld (qget pd0 sn0) 2)) (qint (qfld (qget pd1 sn0) 2))) (qand (qcmp BinOp.eql (qint (qfld (qget pd0 sn0) 3)) (qint (qfld (qget pd1 sn0) 3))) (qand (qcmp BinOp.eql (qint (qfld (qget pd0 sn0) 4)) (qint (qfld (qget pd1 sn0) 4))) (qand (qcmp BinOp.eql (qint (qfld (qget pd0 sn0) 5)) (qint (qfld (qget pd1 sn0) 5))) (qand (qcmp BinOp.eql (qint (qfld (qget pd0 sn0) 6)) (qint (qfld (qget pd1 sn0) 6))) (qand (qcmp BinOp.eql (qint (qfld (qget pd0 sn0) 7)) (qint (qfld (qget pd1 sn0) 7))) (qcmp BinOp.eql (qint (qfld (qget pd0 sn0) 8)) (qint (qfld (qget pd1 sn0) 8)))))))))))) then
            some (Sum.inr [(D.int 1)])
          else
            some (Sum.inl [(D.int (qbin BinOp.add IntKind.i64 sn0 1))])
        else
          none
      else
        none
    else
      some (Sum.inr [(D.int 0)]) := by
  have h : st15_4  [pd0, pd1] [(D.int sn0)] =
    bif (qcmp BinOp.lss sn0 (qlen pd0)) then
      bif (qinb pd0 sn0) then
        bif (qinb pd1 sn0) then
          bif (qnot (qand (qcmp BinOp.eql (qint (qfld (qget pd0 sn0) 0)) (qint (qfld (qget pd1 sn0) 0))) (qand (qcmp BinOp.eql (qint (qfld (qget pd0 sn0) 1)) (qint (qfld (qget pd1 sn0) 1))) (qand (qcmp BinOp.eql (qint (qfld (qget pd0 sn0) 2)) (qint (qfld (qget pd1 sn0) 2))) (qand (qcmp BinOp.eql (qint (qfld (qget pd0 sn0) 3)) (qint (qfld (qget pd1 sn0) 3))) (qand (qcmp BinOp.eql (qint (qfld (qget pd0 sn0) 4)) (qint (qfld (qget pd1 sn0) 4))) (qand (qcmp BinOp.eql (qint (qfld (qget pd0 sn0) 5)) (qint (qfld (qget pd1 sn0) 5))) (qand (qcmp BinOp.eql (qint (qfld (qget pd0 sn0) 6)) (qint (qfld (qget pd1 sn0) 6))) (qand (qcmp BinOp.eql (qint (qfld (qget pd0 sn0) 7)) (qint (qfld (qget pd1 sn0) 7))) (qcmp BinOp.eql (qint (qfld (qget pd0 sn0) 8)) (qint (qfld (qget pd1 sn0) 8)))))))))))) then
            bif (qeqD pd0 pd0) then
              bif (qeqD pd1 pd1) then
                some (Sum.inr [(D.int 1)])
              else
                none
            else
              none
          else
            bif (qeqD pd0 pd0) then
              bif (qeqD pd1 pd1) then
                some (Sum.inl [(D.int (qbin BinOp.add IntKind.i64 sn0 1))])
              else
                none
            else
              none
        else
          none
      else
        none
    else
      bif (qeqD pd0 pd0) then
        bif (qeqD pd1 pd1) then
          some (Sum.inr [(D.int 0)])
        else
          none
      else
        none := by kernel_rfl
  rw [h]; simp only [qeqD_self, qeqI_self, qeq_len, show qcmp BinOp.eql 0 (qlen (D.list [])) = true from qeq_len [], show ∀ a, qcmp BinOp.eql 1 (qlen (D.list [a])) = true from fun a => qeq_len [a], show ∀ a b, qcmp BinOp.eql 2 (qlen (D.list [a, b])) = true from fun a b => qeq_len [a, b], cond_true]

noncomputable def l15_4 : List D → List D → Option (List D) := veil fun p s => loW (st15_4  p) s

theorem l15_4_eq : l15_4  = fun p s => loW (st15_4  p) s := veil_eq _

noncomputable def tbl15_4 : Tb := Tb.addL tb43 15 4 S15_4.n0 (mkLp S15_4 (l15_4 ))

theorem ok_tbl15_4 : TbOk env (tbl15_4 ) := addLoopQ ok_tb43 15 4 (by kernel_rfl) _ (l15_4_eq )

def S15 : FunS := ⟨[⟨true, (.rows 46)⟩, ⟨true, (.rows 46)⟩], [], [⟨true, .bool⟩], []⟩

noncomputable def F15 : List D → Option (List D) := liftX env tbl15_4 60 6 15 S15

theorem F15_eq  (sd0 : D) (sd1 : D) : F15  [sd0, sd1] =
    bif (qcmp BinOp.neq (qlen sd0) (qlen sd1)) then
      some [(D.bool Bool.false)]
    else
      bif (qsome (Proofs.YtiojjmlccehpoaaGreat.l15_4 [sd0, sd1] [(D.int 0)])) then
        bif (qcmp BinOp.eql (qint (qnth (Proofs.YtiojjmlccehpoaaGreat.l15_4 [sd0, sd1] [(D.int 0)]) 0)) 0) then
          some [(D.bool Bool.true)]
        else
          some [(D.bool Bool.false)]
      else
        none := by kernel_rfl

noncomputable def q15 : List D → Option (List D) := veil (F15 )

theorem q15_eq : q15  = F15  := veil_eq _

noncomputable def tb15 : Tb := Tb.addF tbl15_4 15 S15 (q15 )

theorem ok_tb15 : TbOk env (tb15 ) := addFunF ok_tbl15_4 15 (by kernel_rfl) _ (q15_eq )

/- function 13  -/

def S13 : FunS := ⟨[⟨true, (.dat 25)⟩, ⟨true, (.rows 9)⟩, ⟨true, (.int .u32)⟩], [], [⟨true, (.tup [(.rows 46), (.int .i64)])⟩], []⟩

noncomputable def F13 : List D → Option (List D) := liftX env tb15 60 6 13 S13

theorem F13_eq  (sd0 : D) (sd1 : D) (sn2 : Int) : F13  [sd0, sd1, (D.int sn2)] =
    bif (qsome (Proofs.YtiojjmlccehpoaaGreat.q40 [sd1])) then
      bif (qsome (Proofs.YtiojjmlccehpoaaGreat.q30 [sd0, (qnth (Proofs.YtiojjmlccehpoaaGreat.q40 [sd1]) 0)])) then
        bif (qcmp BinOp.neq (qint (qnth (Proofs.YtiojjmlccehpoaaGreat.q30 [sd0, (qnth (Proofs.YtiojjmlccehpoaaGreat.q40 [sd1]) 0)]) 0)) 0) then
          some [(D.list []), (D.int (qint (qnth (Proofs.YtiojjmlccehpoaaGreat.q30 [sd0, (qnth (Proofs.YtiojjmlccehpoaaGreat.q40 [sd1]) 0)]) 0)))]
        else
          bif (qsome (Proofs.YtiojjmlccehpoaaGreat.q42 [sd1, (D.int sn2), sd0, (D.list []), (D.list [])])) then
            some [(qnth (Proofs.YtiojjmlccehpoaaGreat.q42 [sd1, (D.int sn2), sd0, (D.list []), (D.list [])]) 1), (D.int 0)]
          else
            none
      else
        none
    else
      none := by
  have h : F13  [sd0, sd1, (D.int sn2)] =
    bif (qsome (Proofs.YtiojjmlccehpoaaGreat.q40 [sd1])) then
      bif (qsome (Proofs.YtiojjmlccehpoaaGreat.q30 [sd0, (qnth (Proofs.YtiojjmlccehpoaaGreat.q40 [sd1]) 0)])) then
        bif (qcmp BinOp.neq (qint (qnth (Proofs.YtiojjmlccehpoaaGreat.q30 [sd0, (qnth (Proofs.YtiojjmlccehpoaaGreat.q40 [sd1]) 0)]) 0)) 0) then
          some [(D.list []), (D.int (qint (qnth (Proofs.YtiojjmlccehpoaaGreat.q30 [sd0, (qnth (Proofs.YtiojjmlccehpoaaGreat.q40 [sd1]) 0)]) 0)))]
        else
          bif (qcmp BinOp.eql 0 (qlen (D.list []))) then
            bif (qcmp BinOp.eql 0 (qlen (D.list []))) then
              bif (qsome (Proofs.YtiojjmlccehpoaaGreat.q42 [sd1, (D.int sn2), sd0, (D.list []), (D.list [])])) then
                bif (qcmp BinOp.eql (qlen (qnth (Proofs.YtiojjmlccehpoaaGreat.q42 [sd1, (D.int sn2), sd0, (D.list []), (D.list [])]) 1)) (qlen (qnth (Proofs.YtiojjmlccehpoaaGreat.q42 [sd1, (D.int sn2), sd0, (D.list []), (D.list [])]) 1))) then
                  some [(qnth (Proofs.YtiojjmlccehpoaaGreat.q42 [sd1, (D.int sn2), sd0, (D.list []), (D.list [])]) 1), (D.int 0)]
                else
                  none
              else
                none
            else
              none
          else
            none
      else
        none
    else
      none := by kernel_rfl
  rw [h]; simp only [qeqD_self, qeqI_self, qeq_len, show qcmp BinOp.eql 0 (qlen (D.list [])) = true from qeq_len [], show ∀ a, qcmp BinOp.eql 1 (qlen (D.list [a])) = true from fun a => qeq_len [a], show ∀ a b, qcmp BinOp.eql 2 (qlen (D.list [a, b])) = true from fun a b => qeq_len [a, b], cond_true]

noncomputable def q13 : List D → Option (List D) := veil (F13 )

theorem q13_eq : q13  = F13  := veil_eq _

noncomputable def tb13 : Tb := Tb.addF tb15 13 S13 (q13 )

theorem ok_tb13 : TbOk env (tb13 ) := addFunF ok_tb15 13 (by kernel_rfl) _ (q13_eq )

/- function 14  -/

def S14 : FunS := ⟨[⟨true, (.dat 25)⟩, ⟨true, (.rows 9)⟩, ⟨true, (.int .u32)⟩], [], [⟨true, (.tup [(.rows 46), (.int .i64)])⟩], []⟩

noncomputable def F14 : List D → Option (List D) := liftX env tb13 60 6 14 S14

theorem F14_eq  (sd0 : D) (sd1 : D) (sn2 : Int) : F14  [sd0, sd1, (D.int sn2)] =
    bif (qsome (Proofs.YtiojjmlccehpoaaGreat.q44 [sd1])) then
      bif (qsome (Proofs.YtiojjmlccehpoaaGreat.q43 [sd0, (qnth (Proofs.YtiojjmlccehpoaaGreat.q44 [sd1]) 0)])) then
        bif (qcmp BinOp.neq (qint (qnth (Proofs.YtiojjmlccehpoaaGreat.q43 [sd0, (qnth (Proofs.YtiojjmlccehpoaaGreat.q44 [sd1]) 0)]) 0)) 0) then
          some [(D.list []), (D.int (qint (qnth (Proofs.YtiojjmlccehpoaaGreat.q43 [sd0, (qnth (Proofs.YtiojjmlccehpoaaGreat.q44 [sd1]) 0)]) 0)))]
        else
          bif (qsome (Proofs.YtiojjmlccehpoaaGreat.q45 [sd1, (D.int sn2), sd0, (D.list []), (D.list [])])) then
            some [(qnth (Proofs.YtiojjmlccehpoaaGreat.q45 [sd1, (D.int sn2), sd0, (D.list []), (D.list [])]) 1), (D.int 0)]
          else
            none
      else
        none
    else
      none := by
  have h : F14  [sd0, sd1, (D.int sn2)] =
    bif (qsome (Proofs.YtiojjmlccehpoaaGreat.q44 [sd1])) then
      bif (qsome (Proofs.YtiojjmlccehpoaaGreat.q43 [sd0, (qnth (Proofs.YtiojjmlccehpoaaGreat.q44 [sd1]) 0)])) then
        bif (qcmp BinOp.neq (qint (qnth (Proofs.YtiojjmlccehpoaaGreat.q43 [sd0, (qnth (Proofs.YtiojjmlccehpoaaGreat.q44 [sd1]) 0)]) 0)) 0) then
          some [(D.list []), (D.int (qint (qnth (Proofs.YtiojjmlccehpoaaGreat.q43 [sd0, (qnth (Proofs.YtiojjmlccehpoaaGreat.q44 [sd1]) 0)]) 0)))]
        else
          bif (qcmp BinOp.eql 0 (qlen (D.list []))) then
            bif (qcmp BinOp.eql 0 (qlen (D.list []))) then
              bif (qsome (Proofs.YtiojjmlccehpoaaGreat.q45 [sd1, (D.int sn2), sd0, (D.list []), (D.list [])])) then
                bif (qcmp BinOp.eql (qlen (qnth (Proofs.YtiojjmlccehpoaaGreat.q45 [sd1, (D.int sn2), sd0, (D.list []), (D.list [])]) 1)) (qlen (qnth (Proofs.YtiojjmlccehpoaaGreat.q45 [sd1, (D.int sn2), sd0, (D.list []), (D.list [])]) 1))) then
                  some [(qnth (Proofs.YtiojjmlccehpoaaGreat.q45 [sd1, (D.int sn2), sd0, (D.list []), (D.list [])]) 1), (D.int 0)]
                else
                  none
              else
                none
            else
              none
          else
            none
      else
        none
    else
      none := by kernel_rfl
  rw [h]; simp only [qeqD_self, qeqI_self, qeq_len, show qcmp BinOp.eql 0 (qlen (D.list [])) = true from qeq_len [], show ∀ a, qcmp BinOp.eql 1 (qlen (D.list [a])) = true from fun a => qeq_len [a], show ∀ a b, qcmp BinOp.eql 2 (qlen (D.list [a, b])) = true from fun a b => qeq_len [a, b], cond_true]

noncomputable def q14 : List D → Option (List D) := veil (F14 )

theorem q14_eq : q14  = F14  := veil_eq _

noncomputable def tb14 : Tb := Tb.addF tb13 14 S14 (q14 )

theorem ok_tb14 : TbOk env (tb14 ) := addFunF ok_tb13 14 (by kernel_rfl) _ (q14_eq )

end Go.Proofs.YtiojjmlccehpoaaGreat
