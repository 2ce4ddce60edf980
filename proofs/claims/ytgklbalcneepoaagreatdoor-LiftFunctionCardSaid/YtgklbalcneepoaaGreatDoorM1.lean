/-
  Made by gen3.py: what functions of the seat compute, as partial functions on data, and that they do.
-/
import Derived.Test.YtgklbalcneepoaaGreatDoorSp
import Derived.KernelRfl
import Derived.Test.YtgklbalcneepoaaGreatDoorSi
import Derived.Test.YtgklbalcneepoaaGreatDoorEx21
open Go Go.AM
namespace Go.Proofs.YtgklbalcneepoaaGreatDoor
set_option maxRecDepth 100000
set_option linter.unusedSimpArgs false
set_option linter.unusedVariables false
def S155:FunS:=⟨[⟨true,(.dat 24)⟩],[],[⟨true,(.tup [(.int .u8),(.int .i64), .bool])⟩],[]⟩
noncomputable def F155:List D→Option (List D):=liftX env Tb.nil 60 12 155 S155
theorem F155_eq (sd0:D):F155 [sd0] =
 bif (qand (qcmp BinOp.eql (qint (qfld sd0 2)) 16) (qcmp BinOp.eql (qint (qfld sd0 4)) 4))then
 some [(D.int 80),(D.int 5),(D.bool Bool.true)]
 else
 bif (qand (qcmp BinOp.eql (qint (qfld sd0 2)) 16) (qcmp BinOp.eql (qint (qfld sd0 4)) 1))then
 some [(D.int 81),(D.int 5),(D.bool Bool.true)]
 else
 bif (qand (qcmp BinOp.eql (qint (qfld sd0 2)) 17) (qcmp BinOp.eql (qint (qfld sd0 4)) 1))then
 some [(D.int 82),(D.int 5),(D.bool Bool.true)]
 else
 bif (qand (qcmp BinOp.eql (qint (qfld sd0 2)) 16) (qcmp BinOp.eql (qint (qfld sd0 4)) 2))then
 some [(D.int 83),(D.int 5),(D.bool Bool.true)]
 else
 bif (qand (qcmp BinOp.eql (qint (qfld sd0 2)) 17) (qcmp BinOp.eql (qint (qfld sd0 4)) 2))then
 some [(D.int 84),(D.int 5),(D.bool Bool.true)]
 else
 bif (qand (qcmp BinOp.eql (qint (qfld sd0 2)) 18) (qcmp BinOp.eql (qint (qfld sd0 4)) 4))then
 some [(D.int 85),(D.int 5),(D.bool Bool.true)]
 else
 bif (qand (qcmp BinOp.eql (qint (qfld sd0 2)) 18) (qcmp BinOp.eql (qint (qfld sd0 4)) 1))then
 some [(D.int 86),(D.int 5),(D.bool Bool.true)]
 else
 bif (qand (qcmp BinOp.eql (qint (qfld sd0 2)) 18) (qcmp BinOp.eql (qint (qfld sd0 4)) 2))then
 some [(D.int 87),(D.int 5),(D.bool Bool.true)]
 else
 some [(D.int 0),(D.int 5),(D.bool Bool.false)]:=by kernel_rfl
noncomputable def q155:List D→Option (List D):=veil (F155)
theorem q155_eq:q155=F155:=veil_eq _
noncomputable def tb155:Tb:=Tb.addF Tb.nil 155 S155 (q155)
theorem ok_tb155:TbOk env (tb155):=addFunF ok_nil 155 (by kernel_rfl) _ (q155_eq)
def S156:FunS:=⟨[⟨true,(.dat 24)⟩],[],[⟨true,(.tup [(.int .u8),(.int .i64), .bool])⟩],[]⟩
noncomputable def F156:List D→Option (List D):=liftX env tb155 60 12 156 S156
theorem F156_eq (sd0:D):F156 [sd0] =
 bif (qiteB (qcmp BinOp.lss (qint (qfld sd0 5)) 0) Bool.true (qcmp BinOp.gtr (qint (qfld sd0 5)) 14))then
 some [(D.int 0),(D.int 0),(D.bool Bool.false)]
 else
 bif (qcmp BinOp.eql (qint (qfld sd0 2)) 25)then
 some [(D.int (qbin BinOp.add IntKind.u8 144 (qwrap IntKind.u8 (qint (qfld sd0 5))))),(D.int 2),(D.bool Bool.true)]
 else
 bif (qcmp BinOp.eql (qint (qfld sd0 3)) 1)then
 some [(D.int (qbin BinOp.add IntKind.u8 96 (qwrap IntKind.u8 (qint (qfld sd0 5))))),(D.int 7),(D.bool Bool.true)]
 else
 bif (qcmp BinOp.eql (qint (qfld sd0 3)) 2)then
 some [(D.int (qbin BinOp.add IntKind.u8 112 (qwrap IntKind.u8 (qint (qfld sd0 5))))),(D.int 8),(D.bool Bool.true)]
 else
 some [(D.int 0),(D.int 0),(D.bool Bool.false)]:=by kernel_rfl
noncomputable def q156:List D→Option (List D):=veil (F156)
theorem q156_eq:q156=F156:=veil_eq _
noncomputable def tb156:Tb:=Tb.addF tb155 156 S156 (q156)
theorem ok_tb156:TbOk env (tb156):=addFunF ok_tb155 156 (by kernel_rfl) _ (q156_eq)
def S109:FunS:=⟨[⟨true,(.dat 24)⟩],[],[⟨true,(.tup [(.int .u8),(.int .i64), .bool])⟩],[]⟩
noncomputable def F109:List D→Option (List D):=liftX env tb156 60 12 109 S109
theorem F109_eq (sd0:D):F109 [sd0] =
 bif (qiteB (qcmp BinOp.eql (qint (qfld sd0 2)) 0) (qcmp BinOp.eql (qint (qfld sd0 2)) 0) (qiteB (qcmp BinOp.eql (qint (qfld sd0 2)) 1) (qcmp BinOp.eql (qint (qfld sd0 2)) 1) (qcmp BinOp.eql (qint (qfld sd0 2)) 2)))then
 some [(D.int (qwrap IntKind.u8 (qint (qfld sd0 2)))),(D.int 0),(D.bool Bool.true)]
 else
 bif (qcmp BinOp.eql (qint (qfld sd0 2)) 3)then
 some [(D.int (qbin BinOp.add IntKind.u8 8 (qwrap IntKind.u8 (qbin BinOp.and IntKind.i64 (qint (qfld sd0 6)) 7)))),(D.int 1),(D.bool Bool.true)]
 else
 bif (qcmp BinOp.eql (qint (qfld sd0 2)) 4)then
 some [(D.int (qbin BinOp.add IntKind.u8 16 (qwrap IntKind.u8 (qbin BinOp.and IntKind.i64 (qint (qfld sd0 6)) 7)))),(D.int 1),(D.bool Bool.true)]
 else
 bif (qiteB (qcmp BinOp.geq (qint (qfld sd0 2)) 5) (qcmp BinOp.leq (qint (qfld sd0 2)) 15) Bool.false)then
 bif (qcmp BinOp.eql (qint (qfld sd0 3)) 0)then
 some [(D.int (qbin BinOp.add IntKind.u8 32 (qwrap IntKind.u8 (qbin BinOp.sub IntKind.i64 (qint (qfld sd0 2)) 5)))),(D.int 3),(D.bool Bool.true)]
 else
 bif (qcmp BinOp.eql (qint (qfld sd0 3)) 1)then
 some [(D.int (qbin BinOp.add IntKind.u8 48 (qwrap IntKind.u8 (qbin BinOp.sub IntKind.i64 (qint (qfld sd0 2)) 5)))),(D.int 4),(D.bool Bool.true)]
 else
 bif (qcmp BinOp.eql (qint (qfld sd0 3)) 2)then
 some [(D.int (qbin BinOp.add IntKind.u8 64 (qwrap IntKind.u8 (qbin BinOp.sub IntKind.i64 (qint (qfld sd0 2)) 5)))),(D.int 6),(D.bool Bool.true)]
 else
 some [(D.int 0),(D.int 0),(D.bool Bool.false)]
 else
 bif (qiteB (qcmp BinOp.eql (qint (qfld sd0 2)) 16) (qcmp BinOp.eql (qint (qfld sd0 2)) 16) (qiteB (qcmp BinOp.eql (qint (qfld sd0 2)) 17) (qcmp BinOp.eql (qint (qfld sd0 2)) 17) (qcmp BinOp.eql (qint (qfld sd0 2)) 18)))then
 bif (qsome (q155 [sd0]))then
 some [(D.int (qint (qnth (q155 [sd0]) 0))),(D.int (qint (qnth (q155 [sd0]) 1))),(D.bool (qbool (qnth (q155 [sd0]) 2)))]
 else
 none
 else
 bif (qcmp BinOp.eql (qint (qfld sd0 2)) 19)then
 some [(D.int 90),(D.int 5),(D.bool Bool.true)]
 else
 bif (qiteB (qcmp BinOp.eql (qint (qfld sd0 2)) 20) Bool.true (qcmp BinOp.eql (qint (qfld sd0 2)) 25))then
 bif (qsome (q156 [sd0]))then
 some [(D.int (qint (qnth (q156 [sd0]) 0))),(D.int (qint (qnth (q156 [sd0]) 1))),(D.bool (qbool (qnth (q156 [sd0]) 2)))]
 else
 none
 else
 bif (qcmp BinOp.eql (qint (qfld sd0 2)) 23)then
 some [(D.int 128),(D.int 8),(D.bool Bool.true)]
 else
 bif (qcmp BinOp.eql (qint (qfld sd0 2)) 24)then
 some [(D.int 129),(D.int 2),(D.bool Bool.true)]
 else
 bif (qcmp BinOp.eql (qint (qfld sd0 2)) 21)then
 some [(D.int 130),(D.int 2),(D.bool Bool.true)]
 else
 bif (qcmp BinOp.eql (qint (qfld sd0 2)) 22)then
 some [(D.int 131),(D.int 6),(D.bool Bool.true)]
 else
 bif (qcmp BinOp.eql (qint (qfld sd0 2)) 26)then
 some [(D.int 160),(D.int 2),(D.bool Bool.true)]
 else
 bif (qcmp BinOp.eql (qint (qfld sd0 2)) 27)then
 some [(D.int 161),(D.int 2),(D.bool Bool.true)]
 else
 some [(D.int 0),(D.int 0),(D.bool Bool.false)]:=by kernel_rfl
noncomputable def q109:List D→Option (List D):=veil (F109)
theorem q109_eq:q109=F109:=veil_eq _
noncomputable def tb109:Tb:=Tb.addF tb156 109 S109 (q109)
theorem ok_tb109:TbOk env (tb109):=addFunF ok_tb156 109 (by kernel_rfl) _ (q109_eq)
def S111:FunS:=⟨[⟨true,(.dat 24)⟩,⟨true,(.int .i64)⟩],[],[⟨true,(.dat 24)⟩],[]⟩
noncomputable def F111:List D→Option (List D):=liftX env tb109 60 12 111 S111
theorem F111_eq (sd0:D) (sn1:Int):F111 [sd0,(D.int sn1)] =
 bif (qiteB (qcmp BinOp.eql sn1 1) (qcmp BinOp.eql sn1 1) (qcmp BinOp.eql sn1 2))then
 bif (qiteB (qcmp BinOp.geq (qint (qfld sd0 2)) 5) (qcmp BinOp.leq (qint (qfld sd0 2)) 15) Bool.false)then
 some [(D.agg [(D.int (qint (qfld sd0 0))),(D.int 0),(D.int (qint (qfld sd0 2))),(D.int (qint (qfld sd0 3))),(D.int 0),(D.int 0),(D.int (qint (qfld sd0 6))),(D.int 0),(D.int (qint (qfld sd0 8)))])]
 else
 bif (qiteB (qcmp BinOp.eql (qint (qfld sd0 2)) 16) (qcmp BinOp.eql (qint (qfld sd0 2)) 16) (qiteB (qcmp BinOp.eql (qint (qfld sd0 2)) 17) (qcmp BinOp.eql (qint (qfld sd0 2)) 17) (qcmp BinOp.eql (qint (qfld sd0 2)) 18)))then
 some [(D.agg [(D.int (qint (qfld sd0 0))),(D.int 0),(D.int (qint (qfld sd0 2))),(D.int 0),(D.int (qint (qfld sd0 4))),(D.int 0),(D.int (qint (qfld sd0 6))),(D.int 0),(D.int (qint (qfld sd0 8)))])]
 else
 bif (qcmp BinOp.eql (qint (qfld sd0 2)) 20)then
 some [(D.agg [(D.int (qint (qfld sd0 0))),(D.int 0),(D.int (qint (qfld sd0 2))),(D.int (qint (qfld sd0 3))),(D.int 0),(D.int (qint (qfld sd0 5))),(D.int (qint (qfld sd0 6))),(D.int 0),(D.int (qint (qfld sd0 8)))])]
 else
 bif (qcmp BinOp.eql (qint (qfld sd0 2)) 25)then
 some [(D.agg [(D.int (qint (qfld sd0 0))),(D.int 0),(D.int (qint (qfld sd0 2))),(D.int 0),(D.int 0),(D.int (qint (qfld sd0 5))),(D.int (qint (qfld sd0 6))),(D.int 0),(D.int (qint (qfld sd0 8)))])]
 else
 some [(D.agg [(D.int (qint (qfld sd0 0))),(D.int 0),(D.int (qint (qfld sd0 2))),(D.int 0),(D.int 0),(D.int 0),(D.int (qint (qfld sd0 6))),(D.int 0),(D.int (qint (qfld sd0 8)))])]
 else
 bif (qcmp BinOp.eql sn1 3)then
 bif (qiteB (qcmp BinOp.geq (qint (qfld sd0 2)) 5) (qcmp BinOp.leq (qint (qfld sd0 2)) 15) Bool.false)then
 some [(D.agg [(D.int (qint (qfld sd0 0))),(D.int 0),(D.int (qint (qfld sd0 2))),(D.int (qint (qfld sd0 3))),(D.int 0),(D.int 0),(D.int (qint (qfld sd0 6))),(D.int (qint (qfld sd0 7))),(D.int (qint (qfld sd0 8)))])]
 else
 bif (qiteB (qcmp BinOp.eql (qint (qfld sd0 2)) 16) (qcmp BinOp.eql (qint (qfld sd0 2)) 16) (qiteB (qcmp BinOp.eql (qint (qfld sd0 2)) 17) (qcmp BinOp.eql (qint (qfld sd0 2)) 17) (qcmp BinOp.eql (qint (qfld sd0 2)) 18)))then
 some [(D.agg [(D.int (qint (qfld sd0 0))),(D.int 0),(D.int (qint (qfld sd0 2))),(D.int 0),(D.int (qint (qfld sd0 4))),(D.int 0),(D.int (qint (qfld sd0 6))),(D.int (qint (qfld sd0 7))),(D.int (qint (qfld sd0 8)))])]
 else
 bif (qcmp BinOp.eql (qint (qfld sd0 2)) 20)then
 some [(D.agg [(D.int (qint (qfld sd0 0))),(D.int 0),(D.int (qint (qfld sd0 2))),(D.int (qint (qfld sd0 3))),(D.int 0),(D.int (qint (qfld sd0 5))),(D.int (qint (qfld sd0 6))),(D.int (qint (qfld sd0 7))),(D.int (qint (qfld sd0 8)))])]
 else
 bif (qcmp BinOp.eql (qint (qfld sd0 2)) 25)then
 some [(D.agg [(D.int (qint (qfld sd0 0))),(D.int 0),(D.int (qint (qfld sd0 2))),(D.int 0),(D.int 0),(D.int (qint (qfld sd0 5))),(D.int (qint (qfld sd0 6))),(D.int (qint (qfld sd0 7))),(D.int (qint (qfld sd0 8)))])]
 else
 some [(D.agg [(D.int (qint (qfld sd0 0))),(D.int 0),(D.int (qint (qfld sd0 2))),(D.int 0),(D.int 0),(D.int 0),(D.int (qint (qfld sd0 6))),(D.int (qint (qfld sd0 7))),(D.int (qint (qfld sd0 8)))])]
 else
 bif (qiteB (qcmp BinOp.eql sn1 4) (qcmp BinOp.eql sn1 4) (qcmp BinOp.eql sn1 6))then
 bif (qiteB (qcmp BinOp.geq (qint (qfld sd0 2)) 5) (qcmp BinOp.leq (qint (qfld sd0 2)) 15) Bool.false)then
 some [(D.agg [(D.int (qint (qfld sd0 0))),(D.int (qint (qfld sd0 1))),(D.int (qint (qfld sd0 2))),(D.int (qint (qfld sd0 3))),(D.int 0),(D.int 0),(D.int (qint (qfld sd0 6))),(D.int 0),(D.int (qint (qfld sd0 8)))])]
 else
 bif (qiteB (qcmp BinOp.eql (qint (qfld sd0 2)) 16) (qcmp BinOp.eql (qint (qfld sd0 2)) 16) (qiteB (qcmp BinOp.eql (qint (qfld sd0 2)) 17) (qcmp BinOp.eql (qint (qfld sd0 2)) 17) (qcmp BinOp.eql (qint (qfld sd0 2)) 18)))then
 some [(D.agg [(D.int (qint (qfld sd0 0))),(D.int (qint (qfld sd0 1))),(D.int (qint (qfld sd0 2))),(D.int 0),(D.int (qint (qfld sd0 4))),(D.int 0),(D.int (qint (qfld sd0 6))),(D.int 0),(D.int (qint (qfld sd0 8)))])]
 else
 bif (qcmp BinOp.eql (qint (qfld sd0 2)) 20)then
 some [(D.agg [(D.int (qint (qfld sd0 0))),(D.int (qint (qfld sd0 1))),(D.int (qint (qfld sd0 2))),(D.int (qint (qfld sd0 3))),(D.int 0),(D.int (qint (qfld sd0 5))),(D.int (qint (qfld sd0 6))),(D.int 0),(D.int (qint (qfld sd0 8)))])]
 else
 bif (qcmp BinOp.eql (qint (qfld sd0 2)) 25)then
 some [(D.agg [(D.int (qint (qfld sd0 0))),(D.int (qint (qfld sd0 1))),(D.int (qint (qfld sd0 2))),(D.int 0),(D.int 0),(D.int (qint (qfld sd0 5))),(D.int (qint (qfld sd0 6))),(D.int 0),(D.int (qint (qfld sd0 8)))])]
 else
 some [(D.agg [(D.int (qint (qfld sd0 0))),(D.int (qint (qfld sd0 1))),(D.int (qint (qfld sd0 2))),(D.int 0),(D.int 0),(D.int 0),(D.int (qint (qfld sd0 6))),(D.int 0),(D.int (qint (qfld sd0 8)))])]
 else
 bif (qcmp BinOp.eql sn1 5)then
 bif (qiteB (qcmp BinOp.geq (qint (qfld sd0 2)) 5) (qcmp BinOp.leq (qint (qfld sd0 2)) 15) Bool.false)then
 some [(D.agg [(D.int (qint (qfld sd0 0))),(D.int (qint (qfld sd0 1))),(D.int (qint (qfld sd0 2))),(D.int (qint (qfld sd0 3))),(D.int 0),(D.int 0),(D.int (qint (qfld sd0 6))),(D.int (qint (qfld sd0 7))),(D.int (qint (qfld sd0 8)))])]
 else
 bif (qiteB (qcmp BinOp.eql (qint (qfld sd0 2)) 16) (qcmp BinOp.eql (qint (qfld sd0 2)) 16) (qiteB (qcmp BinOp.eql (qint (qfld sd0 2)) 17) (qcmp BinOp.eql (qint (qfld sd0 2)) 17) (qcmp BinOp.eql (qint (qfld sd0 2)) 18)))then
 some [(D.agg [(D.int (qint (qfld sd0 0))),(D.int (qint (qfld sd0 1))),(D.int (qint (qfld sd0 2))),(D.int 0),(D.int (qint (qfld sd0 4))),(D.int 0),(D.int (qint (qfld sd0 6))),(D.int (qint (qfld sd0 7))),(D.int (qint (qfld sd0 8)))])]
 else
 bif (qcmp BinOp.eql (qint (qfld sd0 2)) 20)then
 some [(D.agg [(D.int (qint (qfld sd0 0))),(D.int (qint (qfld sd0 1))),(D.int (qint (qfld sd0 2))),(D.int (qint (qfld sd0 3))),(D.int 0),(D.int (qint (qfld sd0 5))),(D.int (qint (qfld sd0 6))),(D.int (qint (qfld sd0 7))),(D.int (qint (qfld sd0 8)))])]
 else
 bif (qcmp BinOp.eql (qint (qfld sd0 2)) 25)then
 some [(D.agg [(D.int (qint (qfld sd0 0))),(D.int (qint (qfld sd0 1))),(D.int (qint (qfld sd0 2))),(D.int 0),(D.int 0),(D.int (qint (qfld sd0 5))),(D.int (qint (qfld sd0 6))),(D.int (qint (qfld sd0 7))),(D.int (qint (qfld sd0 8)))])]
 else
 some [(D.agg [(D.int (qint (qfld sd0 0))),(D.int (qint (qfld sd0 1))),(D.int (qint (qfld sd0 2))),(D.int 0),(D.int 0),(D.int 0),(D.int (qint (qfld sd0 6))),(D.int (qint (qfld sd0 7))),(D.int (qint (qfld sd0 8)))])]
 else
 bif (qiteB (qcmp BinOp.eql sn1 7) (qcmp BinOp.eql sn1 7) (qcmp BinOp.eql sn1 8))then
 bif (qiteB (qcmp BinOp.geq (qint (qfld sd0 2)) 5) (qcmp BinOp.leq (qint (qfld sd0 2)) 15) Bool.false)then
 some [(D.agg [(D.int (qint (qfld sd0 0))),(D.int (qint (qfld sd0 1))),(D.int (qint (qfld sd0 2))),(D.int (qint (qfld sd0 3))),(D.int 0),(D.int 0),(D.int 0),(D.int 0),(D.int (qint (qfld sd0 8)))])]
 else
 bif (qiteB (qcmp BinOp.eql (qint (qfld sd0 2)) 16) (qcmp BinOp.eql (qint (qfld sd0 2)) 16) (qiteB (qcmp BinOp.eql (qint (qfld sd0 2)) 17) (qcmp BinOp.eql (qint (qfld sd0 2)) 17) (qcmp BinOp.eql (qint (qfld sd0 2)) 18)))then
 some [(D.agg [(D.int (qint (qfld sd0 0))),(D.int (qint (qfld sd0 1))),(D.int (qint (qfld sd0 2))),(D.int 0),(D.int (qint (qfld sd0 4))),(D.int 0),(D.int 0),(D.int 0),(D.int (qint (qfld sd0 8)))])]
 else
 bif (qcmp BinOp.eql (qint (qfld sd0 2)) 20)then
 some [(D.agg [(D.int (qint (qfld sd0 0))),(D.int (qint (qfld sd0 1))),(D.int (qint (qfld sd0 2))),(D.int (qint (qfld sd0 3))),(D.int 0),(D.int (qint (qfld sd0 5))),(D.int 0),(D.int 0),(D.int (qint (qfld sd0 8)))])]
 else
 bif (qcmp BinOp.eql (qint (qfld sd0 2)) 25)then
 some [(D.agg [(D.int (qint (qfld sd0 0))),(D.int (qint (qfld sd0 1))),(D.int (qint (qfld sd0 2))),(D.int 0),(D.int 0),(D.int (qint (qfld sd0 5))),(D.int 0),(D.int 0),(D.int (qint (qfld sd0 8)))])]
 else
 some [(D.agg [(D.int (qint (qfld sd0 0))),(D.int (qint (qfld sd0 1))),(D.int (qint (qfld sd0 2))),(D.int 0),(D.int 0),(D.int 0),(D.int 0),(D.int 0),(D.int (qint (qfld sd0 8)))])]
 else
 bif (qiteB (qcmp BinOp.geq (qint (qfld sd0 2)) 5) (qcmp BinOp.leq (qint (qfld sd0 2)) 15) Bool.false)then
 some [(D.agg [(D.int (qint (qfld sd0 0))),(D.int 0),(D.int (qint (qfld sd0 2))),(D.int (qint (qfld sd0 3))),(D.int 0),(D.int 0),(D.int 0),(D.int 0),(D.int (qint (qfld sd0 8)))])]
 else
 bif (qiteB (qcmp BinOp.eql (qint (qfld sd0 2)) 16) (qcmp BinOp.eql (qint (qfld sd0 2)) 16) (qiteB (qcmp BinOp.eql (qint (qfld sd0 2)) 17) (qcmp BinOp.eql (qint (qfld sd0 2)) 17) (qcmp BinOp.eql (qint (qfld sd0 2)) 18)))then
 some [(D.agg [(D.int (qint (qfld sd0 0))),(D.int 0),(D.int (qint (qfld sd0 2))),(D.int 0),(D.int (qint (qfld sd0 4))),(D.int 0),(D.int 0),(D.int 0),(D.int (qint (qfld sd0 8)))])]
 else
 bif (qcmp BinOp.eql (qint (qfld sd0 2)) 20)then
 some [(D.agg [(D.int (qint (qfld sd0 0))),(D.int 0),(D.int (qint (qfld sd0 2))),(D.int (qint (qfld sd0 3))),(D.int 0),(D.int (qint (qfld sd0 5))),(D.int 0),(D.int 0),(D.int (qint (qfld sd0 8)))])]
 else
 bif (qcmp BinOp.eql (qint (qfld sd0 2)) 25)then
 some [(D.agg [(D.int (qint (qfld sd0 0))),(D.int 0),(D.int (qint (qfld sd0 2))),(D.int 0),(D.int 0),(D.int (qint (qfld sd0 5))),(D.int 0),(D.int 0),(D.int (qint (qfld sd0 8)))])]
 else
 some [(D.agg [(D.int (qint (qfld sd0 0))),(D.int 0),(D.int (qint (qfld sd0 2))),(D.int 0),(D.int 0),(D.int 0),(D.int 0),(D.int 0),(D.int (qint (qfld sd0 8)))])]:=by kernel_rfl
noncomputable def q111:List D→Option (List D):=veil (F111)
theorem q111_eq:q111=F111:=veil_eq _
noncomputable def tb111:Tb:=Tb.addF tb109 111 S111 (q111)
theorem ok_tb111:TbOk env (tb111):=addFunF ok_tb109 111 (by kernel_rfl) _ (q111_eq)
def S66:FunS:=⟨[⟨true,(.dat 24)⟩],[],[⟨true,(.tup [(.int .u8),(.int .i64),(.int .i64)])⟩],[]⟩
noncomputable def F66:List D→Option (List D):=liftX env tb111 60 12 66 S66
theorem F66_eq (sd0:D):F66 [sd0] =
 bif (qsome (q109 [sd0]))then
 bif (qnot (qbool (qnth (q109 [sd0]) 2)))then
 some [(D.int 0),(D.int 0),(D.int 2)]
 else
 bif (qnot (qiteB (qcmp BinOp.geq (qint (qfld sd0 6)) 0) (qcmp BinOp.lss (qint (qfld sd0 6)) 8) Bool.false))then
 some [(D.int 0),(D.int 0),(D.int 2)]
 else
 bif (qnot (qiteB (qcmp BinOp.geq (qint (qfld sd0 7)) 0) (qcmp BinOp.lss (qint (qfld sd0 7)) 8) Bool.false))then
 some [(D.int 0),(D.int 0),(D.int 2)]
 else
 bif (qsome (q111 [sd0,(D.int (qint (qnth (q109 [sd0]) 1)))]))then
 bif (qnot (qand (qcmp BinOp.eql (qint (qfld (qnth (q111 [sd0,(D.int (qint (qnth (q109 [sd0]) 1)))]) 0) 0)) (qint (qfld sd0 0))) (qand (qcmp BinOp.eql (qint (qfld (qnth (q111 [sd0,(D.int (qint (qnth (q109 [sd0]) 1)))]) 0) 1)) (qint (qfld sd0 1))) (qand (qcmp BinOp.eql (qint (qfld (qnth (q111 [sd0,(D.int (qint (qnth (q109 [sd0]) 1)))]) 0) 2)) (qint (qfld sd0 2))) (qand (qcmp BinOp.eql (qint (qfld (qnth (q111 [sd0,(D.int (qint (qnth (q109 [sd0]) 1)))]) 0) 3)) (qint (qfld sd0 3))) (qand (qcmp BinOp.eql (qint (qfld (qnth (q111 [sd0,(D.int (qint (qnth (q109 [sd0]) 1)))]) 0) 4)) (qint (qfld sd0 4))) (qand (qcmp BinOp.eql (qint (qfld (qnth (q111 [sd0,(D.int (qint (qnth (q109 [sd0]) 1)))]) 0) 5)) (qint (qfld sd0 5))) (qand (qcmp BinOp.eql (qint (qfld (qnth (q111 [sd0,(D.int (qint (qnth (q109 [sd0]) 1)))]) 0) 6)) (qint (qfld sd0 6))) (qand (qcmp BinOp.eql (qint (qfld (qnth (q111 [sd0,(D.int (qint (qnth (q109 [sd0]) 1)))]) 0) 7)) (qint (qfld sd0 7))) (qcmp BinOp.eql (qint (qfld (qnth (q111 [sd0,(D.int (qint (qnth (q109 [sd0]) 1)))]) 0) 8)) (qint (qfld sd0 8))))))))))))then
 some [(D.int 0),(D.int 0),(D.int 2)]
 else
 bif (qiteB (qiteB (qiteB (qcmp BinOp.eql (qint (qnth (q109 [sd0]) 1)) 4) Bool.true (qcmp BinOp.eql (qint (qnth (q109 [sd0]) 1)) 5)) (qnot (qiteB (qcmp BinOp.leq (qint (qfld sd0 1)) 127) Bool.true (qcmp BinOp.geq (qint (qfld sd0 1)) 4294967168))) Bool.false) Bool.true (qiteB (qcmp BinOp.eql (qint (qnth (q109 [sd0]) 1)) 7) (qnot (qiteB (qcmp BinOp.leq (qbin BinOp.sub IntKind.u32 (qbin BinOp.sub IntKind.u32 (qint (qfld sd0 1)) (qint (qfld sd0 0))) 2) 127) Bool.true (qcmp BinOp.geq (qbin BinOp.sub IntKind.u32 (qbin BinOp.sub IntKind.u32 (qint (qfld sd0 1)) (qint (qfld sd0 0))) 2) 4294967168))) Bool.false))then
 some [(D.int 0),(D.int 0),(D.int 7)]
 else
 some [(D.int (qint (qnth (q109 [sd0]) 0))),(D.int (qint (qnth (q109 [sd0]) 1))),(D.int 0)]
 else
 none
 else
 none:=by kernel_rfl
noncomputable def q66:List D→Option (List D):=veil (F66)
theorem q66_eq:q66=F66:=veil_eq _
noncomputable def tb66:Tb:=Tb.addF tb111 66 S66 (q66)
theorem ok_tb66:TbOk env (tb66):=addFunF ok_tb111 66 (by kernel_rfl) _ (q66_eq)
def S157:FunS:=⟨[⟨true,(.int .i64)⟩],[],[⟨true,(.int .i64)⟩],[]⟩
noncomputable def F157:List D→Option (List D):=liftX env tb66 60 12 157 S157
theorem F157_eq (sn0:Int):F157 [(D.int sn0)] =
 bif (qinbS (ByteArray.mk #[49,49,50,50,51,51,54,50,53]) sn0)then
 some [(D.int (qwrap IntKind.i64 (qbin BinOp.sub IntKind.u8 (qidxS (ByteArray.mk #[49,49,50,50,51,51,54,50,53]) sn0) 48)))]
 else
 none:=by kernel_rfl
noncomputable def q157:List D→Option (List D):=veil (F157)
theorem q157_eq:q157=F157:=veil_eq _
noncomputable def tb157:Tb:=Tb.addF tb66 157 S157 (q157)
theorem ok_tb157:TbOk env (tb157):=addFunF ok_tb66 157 (by kernel_rfl) _ (q157_eq)
def S30:FunS:=⟨[⟨true,(.dat 24)⟩],[],[⟨true, .bool⟩],[]⟩
noncomputable def F30:List D→Option (List D):=liftX env tb157 60 12 30 S30
theorem F30_eq (sd0:D):F30 [sd0] =
 bif (qsome (q66 [sd0]))then
 some [(D.bool (qcmp BinOp.eql (qint (qnth (q66 [sd0]) 2)) 0))]
 else
 none:=by kernel_rfl
noncomputable def q30:List D→Option (List D):=veil (F30)
theorem q30_eq:q30=F30:=veil_eq _
noncomputable def tb30:Tb:=Tb.addF tb157 30 S30 (q30)
theorem ok_tb30:TbOk env (tb30):=addFunF ok_tb157 30 (by kernel_rfl) _ (q30_eq)
def S114:FunS:=⟨[⟨true,(.dat 24)⟩],[],[⟨true,(.int .i64)⟩],[]⟩
noncomputable def F114:List D→Option (List D):=liftX env tb30 60 12 114 S114
theorem F114_eq (sd0:D):F114 [sd0] =
 bif (qsome (q66 [sd0]))then
 bif (qcmp BinOp.neq (qint (qnth (q66 [sd0]) 2)) 0)then
 some [(D.int 0)]
 else
 bif (qsome (q157 [(D.int (qint (qnth (q66 [sd0]) 1)))]))then
 some [(D.int (qint (qnth (q157 [(D.int (qint (qnth (q66 [sd0]) 1)))]) 0)))]
 else
 none
 else
 none:=by kernel_rfl
noncomputable def q114:List D→Option (List D):=veil (F114)
theorem q114_eq:q114=F114:=veil_eq _
noncomputable def tb114:Tb:=Tb.addF tb30 114 S114 (q114)
theorem ok_tb114:TbOk env (tb114):=addFunF ok_tb30 114 (by kernel_rfl) _ (q114_eq)
end Go.Proofs.YtgklbalcneepoaaGreatDoor
open Go Go.AM
namespace Go.Proofs.YtgklbalcneepoaaGreatDoor
set_option maxRecDepth 100000
set_option linter.unusedSimpArgs false
set_option linter.unusedVariables false
def S116:FunS:=⟨[⟨true,(.dat 24)⟩],[],[⟨true, .bool⟩],[]⟩
noncomputable def F116:List D→Option (List D):=liftX env tb114 60 12 116 S116
theorem F116_eq (sd0:D):F116 [sd0] =
 bif (qiteB (qcmp BinOp.geq (qint (qfld sd0 2)) 5) (qcmp BinOp.leq (qint (qfld sd0 2)) 15) Bool.false)then
 some [(D.bool (qiteB (qcmp BinOp.geq (qint (qfld sd0 3)) 0) (qcmp BinOp.leq (qint (qfld sd0 3)) 2) Bool.false))]
 else
 bif (qcmp BinOp.eql (qint (qfld sd0 2)) 20)then
 some [(D.bool (qiteB (qcmp BinOp.eql (qint (qfld sd0 3)) 1) Bool.true (qcmp BinOp.eql (qint (qfld sd0 3)) 2)))]
 else
 some [(D.bool (qcmp BinOp.eql (qint (qfld sd0 3)) 0))]:=by kernel_rfl
noncomputable def q116:List D→Option (List D):=veil (F116)
theorem q116_eq:q116=F116:=veil_eq _
noncomputable def tb116:Tb:=Tb.addF tb114 116 S116 (q116)
theorem ok_tb116:TbOk env (tb116):=addFunF ok_tb114 116 (by kernel_rfl) _ (q116_eq)
def S117:FunS:=⟨[⟨true,(.dat 24)⟩],[],[⟨true, .bool⟩],[]⟩
noncomputable def F117:List D→Option (List D):=liftX env tb116 60 12 117 S117
theorem F117_eq (sd0:D):F117 [sd0] =
 bif (qcmp BinOp.eql (qint (qfld sd0 2)) 17)then
 some [(D.bool (qiteB (qcmp BinOp.eql (qint (qfld sd0 4)) 1) Bool.true (qcmp BinOp.eql (qint (qfld sd0 4)) 2)))]
 else
 bif (qiteB (qiteB (qcmp BinOp.eql (qint (qfld sd0 2)) 16) Bool.true (qcmp BinOp.eql (qint (qfld sd0 2)) 17)) Bool.true (qcmp BinOp.eql (qint (qfld sd0 2)) 18))then
 some [(D.bool (qiteB (qiteB (qcmp BinOp.eql (qint (qfld sd0 4)) 1) Bool.true (qcmp BinOp.eql (qint (qfld sd0 4)) 2)) Bool.true (qcmp BinOp.eql (qint (qfld sd0 4)) 4)))]
 else
 some [(D.bool (qcmp BinOp.eql (qint (qfld sd0 4)) 0))]:=by kernel_rfl
noncomputable def q117:List D→Option (List D):=veil (F117)
theorem q117_eq:q117=F117:=veil_eq _
noncomputable def tb117:Tb:=Tb.addF tb116 117 S117 (q117)
theorem ok_tb117:TbOk env (tb117):=addFunF ok_tb116 117 (by kernel_rfl) _ (q117_eq)
def S70:FunS:=⟨[⟨true,(.dat 24)⟩],[],[⟨true,(.int .i64)⟩],[]⟩
noncomputable def F70:List D→Option (List D):=liftX env tb117 60 12 70 S70
theorem F70_eq (sd0:D):F70 [sd0] =
 bif (qiteB (qiteB (qcmp BinOp.lss (qint (qfld sd0 2)) 0) Bool.true (qcmp BinOp.gtr (qint (qfld sd0 2)) 27)) Bool.true (qsome (q116 [sd0])))then
 bif (qiteB (qiteB (qiteB (qcmp BinOp.lss (qint (qfld sd0 2)) 0) Bool.true (qcmp BinOp.gtr (qint (qfld sd0 2)) 27)) Bool.true (qnot (qbool (qnth (q116 [sd0]) 0)))) Bool.true (qsome (q117 [sd0])))then
 bif (qiteB (qiteB (qiteB (qcmp BinOp.lss (qint (qfld sd0 2)) 0) Bool.true (qcmp BinOp.gtr (qint (qfld sd0 2)) 27)) Bool.true (qnot (qbool (qnth (q116 [sd0]) 0)))) Bool.true (qnot (qbool (qnth (q117 [sd0]) 0))))then
 some [(D.int 2)]
 else
 bif (qiteB (qiteB (qiteB (qiteB (qiteB (qiteB (qiteB (qcmp BinOp.geq (qint (qfld sd0 2)) 3) (qcmp BinOp.leq (qint (qfld sd0 2)) 27) Bool.false) (qcmp BinOp.neq (qint (qfld sd0 2)) 20) Bool.false) (qcmp BinOp.neq (qint (qfld sd0 2)) 23) Bool.false) (qnot (qiteB (qcmp BinOp.geq (qint (qfld sd0 6)) 0) (qcmp BinOp.lss (qint (qfld sd0 6)) 8) Bool.false)) Bool.false) Bool.true (qiteB (qnot (qiteB (qiteB (qiteB (qcmp BinOp.geq (qint (qfld sd0 2)) 3) (qcmp BinOp.leq (qint (qfld sd0 2)) 27) Bool.false) (qcmp BinOp.neq (qint (qfld sd0 2)) 20) Bool.false) (qcmp BinOp.neq (qint (qfld sd0 2)) 23) Bool.false)) (qcmp BinOp.neq (qint (qfld sd0 6)) 0) Bool.false)) Bool.true (qiteB (qiteB (qiteB (qiteB (qiteB (qcmp BinOp.geq (qint (qfld sd0 2)) 5) (qcmp BinOp.leq (qint (qfld sd0 2)) 15) Bool.false) (qcmp BinOp.eql (qint (qfld sd0 3)) 0) Bool.false) Bool.true (qiteB (qiteB (qcmp BinOp.eql (qint (qfld sd0 2)) 16) Bool.true (qcmp BinOp.eql (qint (qfld sd0 2)) 17)) Bool.true (qcmp BinOp.eql (qint (qfld sd0 2)) 18))) Bool.true (qcmp BinOp.eql (qint (qfld sd0 2)) 19)) (qnot (qiteB (qcmp BinOp.geq (qint (qfld sd0 7)) 0) (qcmp BinOp.lss (qint (qfld sd0 7)) 8) Bool.false)) Bool.false)) Bool.true (qiteB (qnot (qiteB (qiteB (qiteB (qiteB (qcmp BinOp.geq (qint (qfld sd0 2)) 5) (qcmp BinOp.leq (qint (qfld sd0 2)) 15) Bool.false) (qcmp BinOp.eql (qint (qfld sd0 3)) 0) Bool.false) Bool.true (qiteB (qiteB (qcmp BinOp.eql (qint (qfld sd0 2)) 16) Bool.true (qcmp BinOp.eql (qint (qfld sd0 2)) 17)) Bool.true (qcmp BinOp.eql (qint (qfld sd0 2)) 18))) Bool.true (qcmp BinOp.eql (qint (qfld sd0 2)) 19))) (qcmp BinOp.neq (qint (qfld sd0 7)) 0) Bool.false))then
 some [(D.int 2)]
 else
 bif (qiteB (qiteB (qiteB (qiteB (qcmp BinOp.eql (qint (qfld sd0 2)) 20) Bool.true (qcmp BinOp.eql (qint (qfld sd0 2)) 25)) (qnot (qiteB (qcmp BinOp.geq (qint (qfld sd0 5)) 0) (qcmp BinOp.leq (qint (qfld sd0 5)) 14) Bool.false)) Bool.false) Bool.true (qiteB (qnot (qiteB (qcmp BinOp.eql (qint (qfld sd0 2)) 20) Bool.true (qcmp BinOp.eql (qint (qfld sd0 2)) 25))) (qcmp BinOp.neq (qint (qfld sd0 5)) 0) Bool.false)) Bool.true (qiteB (qnot (qiteB (qiteB (qiteB (qiteB (qiteB (qiteB (qiteB (qcmp BinOp.geq (qint (qfld sd0 2)) 5) (qcmp BinOp.leq (qint (qfld sd0 2)) 15) Bool.false) (qcmp BinOp.neq (qint (qfld sd0 3)) 0) Bool.false) Bool.true (qiteB (qiteB (qcmp BinOp.eql (qint (qfld sd0 2)) 16) Bool.true (qcmp BinOp.eql (qint (qfld sd0 2)) 17)) Bool.true (qcmp BinOp.eql (qint (qfld sd0 2)) 18))) Bool.true (qcmp BinOp.eql (qint (qfld sd0 2)) 19)) Bool.true (qcmp BinOp.eql (qint (qfld sd0 2)) 20)) Bool.true (qcmp BinOp.eql (qint (qfld sd0 2)) 22)) Bool.true (qcmp BinOp.eql (qint (qfld sd0 2)) 23))) (qcmp BinOp.neq (qint (qfld sd0 1)) 0) Bool.false))then
 some [(D.int 2)]
 else
 bif (qiteB (qiteB (qiteB (qiteB (qcmp BinOp.geq (qint (qfld sd0 2)) 5) (qcmp BinOp.leq (qint (qfld sd0 2)) 15) Bool.false) (qcmp BinOp.eql (qint (qfld sd0 3)) 1) Bool.false) Bool.true (qiteB (qiteB (qcmp BinOp.eql (qint (qfld sd0 2)) 16) Bool.true (qcmp BinOp.eql (qint (qfld sd0 2)) 17)) Bool.true (qcmp BinOp.eql (qint (qfld sd0 2)) 18))) Bool.true (qcmp BinOp.eql (qint (qfld sd0 2)) 19))then
 bif (qnot (qiteB (qcmp BinOp.leq (qint (qfld sd0 1)) 127) Bool.true (qcmp BinOp.geq (qint (qfld sd0 1)) 4294967168)))then
 some [(D.int 7)]
 else
 bif (qiteB (qiteB (qcmp BinOp.eql (qint (qfld sd0 2)) 20) (qcmp BinOp.eql (qint (qfld sd0 3)) 1) Bool.false) (qnot (qiteB (qcmp BinOp.leq (qbin BinOp.sub IntKind.u32 (qbin BinOp.sub IntKind.u32 (qint (qfld sd0 1)) (qint (qfld sd0 0))) 2) 127) Bool.true (qcmp BinOp.geq (qbin BinOp.sub IntKind.u32 (qbin BinOp.sub IntKind.u32 (qint (qfld sd0 1)) (qint (qfld sd0 0))) 2) 4294967168))) Bool.false)then
 some [(D.int 7)]
 else
 some [(D.int 0)]
 else
 bif (qiteB (qiteB (qcmp BinOp.eql (qint (qfld sd0 2)) 20) (qcmp BinOp.eql (qint (qfld sd0 3)) 1) Bool.false) (qnot (qiteB (qcmp BinOp.leq (qbin BinOp.sub IntKind.u32 (qbin BinOp.sub IntKind.u32 (qint (qfld sd0 1)) (qint (qfld sd0 0))) 2) 127) Bool.true (qcmp BinOp.geq (qbin BinOp.sub IntKind.u32 (qbin BinOp.sub IntKind.u32 (qint (qfld sd0 1)) (qint (qfld sd0 0))) 2) 4294967168))) Bool.false)then
 some [(D.int 7)]
 else
 some [(D.int 0)]
 else
 none
 else
 none:=by kernel_rfl
noncomputable def q70:List D→Option (List D):=veil (F70)
theorem q70_eq:q70=F70:=veil_eq _
noncomputable def tb70:Tb:=Tb.addF tb117 70 S70 (q70)
theorem ok_tb70:TbOk env (tb70):=addFunF ok_tb117 70 (by kernel_rfl) _ (q70_eq)
def S40:FunS:=⟨[⟨true,(.dat 24)⟩],[],[⟨true, .bool⟩],[]⟩
noncomputable def F40:List D→Option (List D):=liftX env tb70 60 12 40 S40
theorem F40_eq (sd0:D):F40 [sd0] =
 bif (qsome (q70 [sd0]))then
 some [(D.bool (qcmp BinOp.eql (qint (qnth (q70 [sd0]) 0)) 0))]
 else
 none:=by kernel_rfl
noncomputable def q40:List D→Option (List D):=veil (F40)
theorem q40_eq:q40=F40:=veil_eq _
noncomputable def tb40:Tb:=Tb.addF tb70 40 S40 (q40)
theorem ok_tb40:TbOk env (tb40):=addFunF ok_tb70 40 (by kernel_rfl) _ (q40_eq)
def S177:FunS:=⟨[⟨true,(.dat 24)⟩],[],[⟨true,(.int .i64)⟩],[]⟩
noncomputable def F177:List D→Option (List D):=liftX env tb40 60 12 177 S177
theorem F177_eq (sd0:D):F177 [sd0] =
 bif (qcmp BinOp.eql (qint (qfld sd0 2)) 17)then
 some [(D.int (qbin BinOp.add IntKind.i64 80 (qbin BinOp.mul IntKind.i64 2 (qint (qfld sd0 4)))))]
 else
 bif (qcmp BinOp.eql (qint (qfld sd0 4)) 1)then
 some [(D.int (qbin BinOp.add IntKind.i64 (qiteI (qcmp BinOp.eql (qint (qfld sd0 2)) 18) 85 80) 1))]
 else
 bif (qiteB (qcmp BinOp.eql (qint (qfld sd0 4)) 2) (qcmp BinOp.eql (qint (qfld sd0 2)) 16) Bool.false)then
 some [(D.int (qbin BinOp.add IntKind.i64 (qiteI (qcmp BinOp.eql (qint (qfld sd0 2)) 18) 85 80) 3))]
 else
 bif (qcmp BinOp.eql (qint (qfld sd0 4)) 2)then
 some [(D.int (qbin BinOp.add IntKind.i64 (qiteI (qcmp BinOp.eql (qint (qfld sd0 2)) 18) 85 80) 2))]
 else
 some [(D.int (qiteI (qcmp BinOp.eql (qint (qfld sd0 2)) 18) 85 80))]:=by kernel_rfl
noncomputable def q177:List D→Option (List D):=veil (F177)
theorem q177_eq:q177=F177:=veil_eq _
noncomputable def tb177:Tb:=Tb.addF tb40 177 S177 (q177)
theorem ok_tb177:TbOk env (tb177):=addFunF ok_tb40 177 (by kernel_rfl) _ (q177_eq)
def S178:FunS:=⟨[⟨true,(.dat 24)⟩],[],[⟨true,(.rows 5)⟩],[]⟩
noncomputable def F178:List D→Option (List D):=liftX env tb177 60 12 178 S178
theorem F178_eq (sd0:D):F178 [sd0] =
 bif (qcmp BinOp.eql (qint (qfld sd0 2)) 3)then
 some [(D.list [(D.int (qbin BinOp.add IntKind.u8 8 (qwrap IntKind.u8 (qint (qfld sd0 6)))))])]
 else
 bif (qcmp BinOp.eql (qint (qfld sd0 2)) 4)then
 some [(D.list [(D.int (qbin BinOp.add IntKind.u8 16 (qwrap IntKind.u8 (qint (qfld sd0 6)))))])]
 else
 bif (qcmp BinOp.eql (qint (qfld sd0 2)) 24)then
 some [(D.list [(D.int 129),(D.int (qwrap IntKind.u8 (qint (qfld sd0 6))))])]
 else
 bif (qcmp BinOp.eql (qint (qfld sd0 2)) 21)then
 some [(D.list [(D.int 130),(D.int (qwrap IntKind.u8 (qint (qfld sd0 6))))])]
 else
 bif (qcmp BinOp.eql (qint (qfld sd0 2)) 25)then
 some [(D.list [(D.int (qwrap IntKind.u8 (qbin BinOp.add IntKind.i64 144 (qint (qfld sd0 5))))),(D.int (qwrap IntKind.u8 (qint (qfld sd0 6))))])]
 else
 bif (qcmp BinOp.eql (qint (qfld sd0 2)) 26)then
 some [(D.list [(D.int 160),(D.int (qwrap IntKind.u8 (qint (qfld sd0 6))))])]
 else
 bif (qcmp BinOp.eql (qint (qfld sd0 2)) 27)then
 some [(D.list [(D.int 161),(D.int (qwrap IntKind.u8 (qint (qfld sd0 6))))])]
 else
 some [(D.list [(D.int (qwrap IntKind.u8 (qint (qfld sd0 2))))])]:=by kernel_rfl
noncomputable def q178:List D→Option (List D):=veil (F178)
theorem q178_eq:q178=F178:=veil_eq _
noncomputable def tb178:Tb:=Tb.addF tb177 178 S178 (q178)
theorem ok_tb178:TbOk env (tb178):=addFunF ok_tb177 178 (by kernel_rfl) _ (q178_eq)
def S165:FunS:=⟨[⟨true,(.dat 24)⟩],[],[⟨true,(.rows 5)⟩],[]⟩
noncomputable def F165:List D→Option (List D):=liftX env tb178 60 12 165 S165
theorem F165_eq (sd0:D):F165 [sd0] =
 bif (qiteB (qcmp BinOp.geq (qint (qfld sd0 2)) 5) (qcmp BinOp.leq (qint (qfld sd0 2)) 15) Bool.false)then
 bif (qcmp BinOp.eql (qint (qfld sd0 3)) 0)then
 some [(D.list [(D.int (qwrap IntKind.u8 (qbin BinOp.add IntKind.i64 32 (qbin BinOp.sub IntKind.i64 (qint (qfld sd0 2)) 5)))),(D.int (qwrap IntKind.u8 (qbin BinOp.add IntKind.i64 (qbin BinOp.mul IntKind.i64 16 (qint (qfld sd0 6))) (qint (qfld sd0 7)))))])]
 else
 bif (qcmp BinOp.eql (qint (qfld sd0 3)) 1)then
 some [(D.list [(D.int (qwrap IntKind.u8 (qbin BinOp.add IntKind.i64 48 (qbin BinOp.sub IntKind.i64 (qint (qfld sd0 2)) 5)))),(D.int (qwrap IntKind.u8 (qint (qfld sd0 6)))),(D.int (qwrap IntKind.u8 (qbin BinOp.rem IntKind.u32 (qint (qfld sd0 1)) 256)))])]
 else
 some [(D.list [(D.int (qwrap IntKind.u8 (qbin BinOp.add IntKind.i64 64 (qbin BinOp.sub IntKind.i64 (qint (qfld sd0 2)) 5)))),(D.int (qwrap IntKind.u8 (qint (qfld sd0 6)))),(D.int (qwrap IntKind.u8 (qbin BinOp.rem IntKind.u32 (qint (qfld sd0 1)) 256))),(D.int (qwrap IntKind.u8 (qbin BinOp.rem IntKind.u32 (qbin BinOp.quo IntKind.u32 (qint (qfld sd0 1)) 256) 256))),(D.int (qwrap IntKind.u8 (qbin BinOp.rem IntKind.u32 (qbin BinOp.quo IntKind.u32 (qint (qfld sd0 1)) 65536) 256))),(D.int (qwrap IntKind.u8 (qbin BinOp.quo IntKind.u32 (qint (qfld sd0 1)) 16777216)))])]
 else
 bif (qiteB (qiteB (qcmp BinOp.eql (qint (qfld sd0 2)) 16) Bool.true (qcmp BinOp.eql (qint (qfld sd0 2)) 17)) Bool.true (qcmp BinOp.eql (qint (qfld sd0 2)) 18))then
 bif (qsome (q177 [sd0]))then
 some [(D.list [(D.int (qwrap IntKind.u8 (qint (qnth (q177 [sd0]) 0)))),(D.int (qwrap IntKind.u8 (qbin BinOp.add IntKind.i64 (qbin BinOp.mul IntKind.i64 16 (qint (qfld sd0 6))) (qint (qfld sd0 7))))),(D.int (qwrap IntKind.u8 (qbin BinOp.rem IntKind.u32 (qint (qfld sd0 1)) 256)))])]
 else
 none
 else
 bif (qcmp BinOp.eql (qint (qfld sd0 2)) 19)then
 some [(D.list [(D.int 90),(D.int (qwrap IntKind.u8 (qbin BinOp.add IntKind.i64 (qbin BinOp.mul IntKind.i64 16 (qint (qfld sd0 6))) (qint (qfld sd0 7))))),(D.int (qwrap IntKind.u8 (qbin BinOp.rem IntKind.u32 (qint (qfld sd0 1)) 256)))])]
 else
 bif (qcmp BinOp.eql (qint (qfld sd0 2)) 20)then
 bif (qcmp BinOp.eql (qint (qfld sd0 3)) 1)then
 some [(D.list [(D.int (qwrap IntKind.u8 (qbin BinOp.add IntKind.i64 96 (qint (qfld sd0 5))))),(D.int (qwrap IntKind.u8 (qbin BinOp.rem IntKind.u32 (qbin BinOp.sub IntKind.u32 (qbin BinOp.sub IntKind.u32 (qint (qfld sd0 1)) (qint (qfld sd0 0))) 2) 256)))])]
 else
 some [(D.list [(D.int (qwrap IntKind.u8 (qbin BinOp.add IntKind.i64 112 (qint (qfld sd0 5))))),(D.int (qwrap IntKind.u8 (qbin BinOp.rem IntKind.u32 (qbin BinOp.sub IntKind.u32 (qbin BinOp.sub IntKind.u32 (qint (qfld sd0 1)) (qint (qfld sd0 0))) 5) 256))),(D.int (qwrap IntKind.u8 (qbin BinOp.rem IntKind.u32 (qbin BinOp.quo IntKind.u32 (qbin BinOp.sub IntKind.u32 (qbin BinOp.sub IntKind.u32 (qint (qfld sd0 1)) (qint (qfld sd0 0))) 5) 256) 256))),(D.int (qwrap IntKind.u8 (qbin BinOp.rem IntKind.u32 (qbin BinOp.quo IntKind.u32 (qbin BinOp.sub IntKind.u32 (qbin BinOp.sub IntKind.u32 (qint (qfld sd0 1)) (qint (qfld sd0 0))) 5) 65536) 256))),(D.int (qwrap IntKind.u8 (qbin BinOp.quo IntKind.u32 (qbin BinOp.sub IntKind.u32 (qbin BinOp.sub IntKind.u32 (qint (qfld sd0 1)) (qint (qfld sd0 0))) 5) 16777216)))])]
 else
 bif (qcmp BinOp.eql (qint (qfld sd0 2)) 23)then
 some [(D.list [(D.int 128),(D.int (qwrap IntKind.u8 (qbin BinOp.rem IntKind.u32 (qbin BinOp.sub IntKind.u32 (qbin BinOp.sub IntKind.u32 (qint (qfld sd0 1)) (qint (qfld sd0 0))) 5) 256))),(D.int (qwrap IntKind.u8 (qbin BinOp.rem IntKind.u32 (qbin BinOp.quo IntKind.u32 (qbin BinOp.sub IntKind.u32 (qbin BinOp.sub IntKind.u32 (qint (qfld sd0 1)) (qint (qfld sd0 0))) 5) 256) 256))),(D.int (qwrap IntKind.u8 (qbin BinOp.rem IntKind.u32 (qbin BinOp.quo IntKind.u32 (qbin BinOp.sub IntKind.u32 (qbin BinOp.sub IntKind.u32 (qint (qfld sd0 1)) (qint (qfld sd0 0))) 5) 65536) 256))),(D.int (qwrap IntKind.u8 (qbin BinOp.quo IntKind.u32 (qbin BinOp.sub IntKind.u32 (qbin BinOp.sub IntKind.u32 (qint (qfld sd0 1)) (qint (qfld sd0 0))) 5) 16777216)))])]
 else
 bif (qcmp BinOp.eql (qint (qfld sd0 2)) 22)then
 some [(D.list [(D.int 131),(D.int (qwrap IntKind.u8 (qint (qfld sd0 6)))),(D.int (qwrap IntKind.u8 (qbin BinOp.rem IntKind.u32 (qint (qfld sd0 1)) 256))),(D.int (qwrap IntKind.u8 (qbin BinOp.rem IntKind.u32 (qbin BinOp.quo IntKind.u32 (qint (qfld sd0 1)) 256) 256))),(D.int (qwrap IntKind.u8 (qbin BinOp.rem IntKind.u32 (qbin BinOp.quo IntKind.u32 (qint (qfld sd0 1)) 65536) 256))),(D.int (qwrap IntKind.u8 (qbin BinOp.quo IntKind.u32 (qint (qfld sd0 1)) 16777216)))])]
 else
 bif (qsome (q178 [sd0]))then
 some [(qnth (q178 [sd0]) 0)]
 else
 none:=by kernel_rfl
noncomputable def q165:List D→Option (List D):=veil (F165)
theorem q165_eq:q165=F165:=veil_eq _
noncomputable def tb165:Tb:=Tb.addF tb178 165 S165 (q165)
theorem ok_tb165:TbOk env (tb165):=addFunF ok_tb178 165 (by kernel_rfl) _ (q165_eq)
def S143:FunS:=⟨[⟨true,(.dat 24)⟩],[],[⟨true,(.int .i64)⟩],[]⟩
noncomputable def F143:List D→Option (List D):=liftX env tb165 60 12 143 S143
theorem F143_eq (sd0:D):F143 [sd0] =
 bif (qsome (q40 [sd0]))then
 bif (qnot (qbool (qnth (q40 [sd0]) 0)))then
 some [(D.int 0)]
 else
 bif (qsome (q165 [sd0]))then
 some [(D.int (qlen (qnth (q165 [sd0]) 0)))]
 else
 none
 else
 none:=by kernel_rfl
noncomputable def q143:List D→Option (List D):=veil (F143)
theorem q143_eq:q143=F143:=veil_eq _
noncomputable def tb143:Tb:=Tb.addF tb165 143 S143 (q143)
theorem ok_tb143:TbOk env (tb143):=addFunF ok_tb165 143 (by kernel_rfl) _ (q143_eq)
end Go.Proofs.YtgklbalcneepoaaGreatDoor
open Go Go.AM
namespace Go.Proofs.YtgklbalcneepoaaGreatDoor
set_option maxRecDepth 100000
set_option linter.unusedSimpArgs false
set_option linter.unusedVariables false
def S68:FunS:=⟨[⟨true,(.dat 24)⟩],[],[⟨true,(.int .u32)⟩],[]⟩
noncomputable def F68:List D→Option (List D):=liftX env tb143 60 12 68 S68
theorem F68_eq (sd0:D):F68 [sd0] =
 bif (qsome (q114 [sd0]))then
 some [(D.int (qbin BinOp.add IntKind.u32 (qint (qfld sd0 0)) (qwrap IntKind.u32 (qint (qnth (q114 [sd0]) 0)))))]
 else
 none:=by kernel_rfl
noncomputable def q68:List D→Option (List D):=veil (F68)
theorem q68_eq:q68=F68:=veil_eq _
noncomputable def tb68:Tb:=Tb.addF tb143 68 S68 (q68)
theorem ok_tb68:TbOk env (tb68):=addFunF ok_tb143 68 (by kernel_rfl) _ (q68_eq)
def S34:FunS:=⟨[⟨true,(.dat 24)⟩],[],[⟨true,(.rows 91)⟩],[]⟩
noncomputable def F34:List D→Option (List D):=liftX env tb68 60 12 34 S34
theorem F34_eq (sd0:D):F34 [sd0] =
 bif (qcmp BinOp.eql (qint (qfld sd0 2)) 2)then
 some [(D.list [(D.agg [(D.int 1),(D.int 7),(D.int 0),(D.int 0),(D.int 0),(D.int 0),(D.list [(D.agg [(D.int 3),(D.int 0),(D.int 0),(D.int 0),(D.list [(D.agg [(D.int 2),(D.int 0),(D.int 7),(D.int 0),(D.list [])]),(D.agg [(D.int 1),(D.int 4),(D.int 0),(D.int 0),(D.list [])])])])]),(D.list [])])])]
 else
 bif (qiteB (qcmp BinOp.eql (qint (qfld sd0 2)) 4) (qcmp BinOp.eql (qint (qfld sd0 6)) 7) Bool.false)then
 some [(D.list [(D.agg [(D.int 1),(D.int 7),(D.int 0),(D.int 0),(D.int 0),(D.int 0),(D.list [(D.agg [(D.int 18),(D.int 0),(D.int 0),(D.int 4),(D.list [(D.agg [(D.int 2),(D.int 0),(D.int 7),(D.int 0),(D.list [])])])])]),(D.list [])])])]
 else
 bif (qcmp BinOp.eql (qint (qfld sd0 2)) 4)then
 some [(D.list [(D.agg [(D.int 1),(D.int (qint (qfld sd0 6))),(D.int 0),(D.int 0),(D.int 0),(D.int 0),(D.list [(D.agg [(D.int 18),(D.int 0),(D.int 0),(D.int 4),(D.list [(D.agg [(D.int 2),(D.int 0),(D.int 7),(D.int 0),(D.list [])])])])]),(D.list [])]),(D.agg [(D.int 1),(D.int 7),(D.int 0),(D.int 0),(D.int 0),(D.int 0),(D.list [(D.agg [(D.int 3),(D.int 0),(D.int 0),(D.int 0),(D.list [(D.agg [(D.int 2),(D.int 0),(D.int 7),(D.int 0),(D.list [])]),(D.agg [(D.int 1),(D.int 4),(D.int 0),(D.int 0),(D.list [])])])])]),(D.list [])])])]
 else
 bif (qiteB (qcmp BinOp.eql (qint (qfld sd0 2)) 3) (qcmp BinOp.eql (qint (qfld sd0 6)) 7) Bool.false)then
 some [(D.list [(D.agg [(D.int 2),(D.int 0),(D.int 4),(D.int 0),(D.int 0),(D.int 0),(D.list [(D.agg [(D.int 4),(D.int 0),(D.int 0),(D.int 0),(D.list [(D.agg [(D.int 2),(D.int 0),(D.int 7),(D.int 0),(D.list [])]),(D.agg [(D.int 1),(D.int 4),(D.int 0),(D.int 0),(D.list [])])])]),(D.agg [(D.int 2),(D.int 0),(D.int 7),(D.int 0),(D.list [])])]),(D.list [])]),(D.agg [(D.int 1),(D.int 7),(D.int 0),(D.int 0),(D.int 0),(D.int 0),(D.list [(D.agg [(D.int 4),(D.int 0),(D.int 0),(D.int 0),(D.list [(D.agg [(D.int 2),(D.int 0),(D.int 7),(D.int 0),(D.list [])]),(D.agg [(D.int 1),(D.int 4),(D.int 0),(D.int 0),(D.list [])])])])]),(D.list [])])])]
 else
 bif (qcmp BinOp.eql (qint (qfld sd0 2)) 3)then
 some [(D.list [(D.agg [(D.int 1),(D.int 7),(D.int 0),(D.int 0),(D.int 0),(D.int 0),(D.list [(D.agg [(D.int 4),(D.int 0),(D.int 0),(D.int 0),(D.list [(D.agg [(D.int 2),(D.int 0),(D.int 7),(D.int 0),(D.list [])]),(D.agg [(D.int 1),(D.int 4),(D.int 0),(D.int 0),(D.list [])])])])]),(D.list [])]),(D.agg [(D.int 2),(D.int 0),(D.int 4),(D.int 0),(D.int 0),(D.int 0),(D.list [(D.agg [(D.int 2),(D.int 0),(D.int 7),(D.int 0),(D.list [])]),(D.agg [(D.int 2),(D.int 0),(D.int (qint (qfld sd0 6))),(D.int 0),(D.list [])])]),(D.list [])])])]
 else
 bif (qsome (q68 [sd0]))then
 some [(D.list [(D.agg [(D.int 1),(D.int 7),(D.int 0),(D.int 0),(D.int 0),(D.int 0),(D.list [(D.agg [(D.int 4),(D.int 0),(D.int 0),(D.int 0),(D.list [(D.agg [(D.int 2),(D.int 0),(D.int 7),(D.int 0),(D.list [])]),(D.agg [(D.int 1),(D.int 4),(D.int 0),(D.int 0),(D.list [])])])])]),(D.list [])]),(D.agg [(D.int 2),(D.int 0),(D.int 4),(D.int 0),(D.int 0),(D.int 0),(D.list [(D.agg [(D.int 2),(D.int 0),(D.int 7),(D.int 0),(D.list [])]),(D.agg [(D.int 1),(D.int (qint (qnth (q68 [sd0]) 0))),(D.int 0),(D.int 0),(D.list [])])]),(D.list [])])])]
 else
 none:=by kernel_rfl
noncomputable def q34:List D→Option (List D):=veil (F34)
theorem q34_eq:q34=F34:=veil_eq _
noncomputable def tb34:Tb:=Tb.addF tb68 34 S34 (q34)
theorem ok_tb34:TbOk env (tb34):=addFunF ok_tb68 34 (by kernel_rfl) _ (q34_eq)
def S39:FunS:=⟨[⟨true,(.dat 24)⟩],[],[⟨true,(.rows 91)⟩],[]⟩
noncomputable def F39:List D→Option (List D):=liftX env tb34 60 12 39 S39
noncomputable def F39_a0 (sd0:D):D:=(D.agg [(D.int 1),(D.int (qint (qfld sd0 1))),(D.int 0),(D.int 0),(D.list [])])
noncomputable def F39_a1 (sd0:D):D:=(D.agg [(D.int 2),(D.int 0),(D.int (qint (qfld sd0 6))),(D.int 0),(D.list [])])
noncomputable def F39_a2 (sd0:D):D:=(D.agg [(D.int (qint (qget (D.list [(D.int 3),(D.int 4),(D.int 6),(D.int 7),(D.int 8),(D.int 5),(D.int 9),(D.int 10),(D.int 11)]) (qbin BinOp.sub IntKind.i64 (qint (qfld sd0 2)) 6)))),(D.int 0),(D.int 0),(D.int 0),(D.list [(F39_a1 sd0),(F39_a0 sd0)])])
noncomputable def F39_a3 (sd0:D):D:=(D.agg [(D.int 1),(D.int (qint (qfld sd0 6))),(D.int 0),(D.int 0),(D.int 0),(D.int 0),(D.list [(F39_a2 sd0)]),(D.list [])])
noncomputable def F39_a4 (sd0:D):D:=(D.agg [(D.int 1),(D.int 0),(D.int 0),(D.int 0),(D.list [])])
noncomputable def F39_a5 (sd0:D):D:=(D.agg [(D.int 1),(D.int 11),(D.int 0),(D.int 0),(D.int 0),(D.int 0),(D.list [(F39_a4 sd0)]),(D.list [])])
noncomputable def F39_a6 (sd0:D):D:=(D.agg [(D.int 1),(D.int 10),(D.int 0),(D.int 0),(D.int 0),(D.int 0),(D.list [(F39_a4 sd0)]),(D.list [])])
noncomputable def F39_a7 (sd0:D):D:=(D.agg [(D.int 14),(D.int 0),(D.int 0),(D.int 0),(D.list [(F39_a2 sd0),(F39_a4 sd0)])])
noncomputable def F39_a8 (sd0:D):D:=(D.agg [(D.int 1),(D.int 9),(D.int 0),(D.int 0),(D.int 0),(D.int 0),(D.list [(F39_a7 sd0)]),(D.list [])])
noncomputable def F39_a9 (sd0:D):D:=(D.agg [(D.int 12),(D.int 0),(D.int 0),(D.int 0),(D.list [(F39_a2 sd0),(F39_a4 sd0)])])
noncomputable def F39_a10 (sd0:D):D:=(D.agg [(D.int 1),(D.int 8),(D.int 0),(D.int 0),(D.int 0),(D.int 0),(D.list [(F39_a9 sd0)]),(D.list [])])
noncomputable def F39_a11 (sd0:D):D:=(D.agg [(D.int 4),(D.int 0),(D.int 0),(D.int 0),(D.list [(F39_a1 sd0),(F39_a0 sd0)])])
noncomputable def F39_a12 (sd0:D):D:=(D.agg [(D.int 14),(D.int 0),(D.int 0),(D.int 0),(D.list [(F39_a11 sd0),(F39_a4 sd0)])])
noncomputable def F39_a13 (sd0:D):D:=(D.agg [(D.int 14),(D.int 0),(D.int 0),(D.int 0),(D.list [(F39_a1 sd0),(F39_a0 sd0)])])
noncomputable def F39_a14 (sd0:D):D:=(D.agg [(D.int 8),(D.int 0),(D.int 0),(D.int 0),(D.list [(F39_a13 sd0),(F39_a12 sd0)])])
noncomputable def F39_a15 (sd0:D):D:=(D.agg [(D.int 1),(D.int 11),(D.int 0),(D.int 0),(D.int 0),(D.int 0),(D.list [(F39_a14 sd0)]),(D.list [])])
noncomputable def F39_a16 (sd0:D):D:=(D.agg [(D.int 15),(D.int 0),(D.int 0),(D.int 0),(D.list [(F39_a1 sd0),(F39_a0 sd0)])])
noncomputable def F39_a17 (sd0:D):D:=(D.agg [(D.int 1),(D.int 10),(D.int 0),(D.int 0),(D.int 0),(D.int 0),(D.list [(F39_a16 sd0)]),(D.list [])])
noncomputable def F39_a18 (sd0:D):D:=(D.agg [(D.int 1),(D.int 9),(D.int 0),(D.int 0),(D.int 0),(D.int 0),(D.list [(F39_a12 sd0)]),(D.list [])])
noncomputable def F39_a19 (sd0:D):D:=(D.agg [(D.int 12),(D.int 0),(D.int 0),(D.int 0),(D.list [(F39_a1 sd0),(F39_a0 sd0)])])
noncomputable def F39_a20 (sd0:D):D:=(D.agg [(D.int 1),(D.int 8),(D.int 0),(D.int 0),(D.int 0),(D.int 0),(D.list [(F39_a19 sd0)]),(D.list [])])
noncomputable def F39_a21 (sd0:D):D:=(D.agg [(D.int 3),(D.int 0),(D.int 0),(D.int 0),(D.list [(F39_a1 sd0),(F39_a0 sd0)])])
noncomputable def F39_a22 (sd0:D):D:=(D.agg [(D.int 8),(D.int 0),(D.int 0),(D.int 0),(D.list [(F39_a0 sd0),(F39_a21 sd0)])])
noncomputable def F39_a23 (sd0:D):D:=(D.agg [(D.int 8),(D.int 0),(D.int 0),(D.int 0),(D.list [(F39_a1 sd0),(F39_a21 sd0)])])
noncomputable def F39_a24 (sd0:D):D:=(D.agg [(D.int 6),(D.int 0),(D.int 0),(D.int 0),(D.list [(F39_a23 sd0),(F39_a22 sd0)])])
noncomputable def F39_a25 (sd0:D):D:=(D.agg [(D.int 14),(D.int 0),(D.int 0),(D.int 0),(D.list [(F39_a24 sd0),(F39_a4 sd0)])])
noncomputable def F39_a26 (sd0:D):D:=(D.agg [(D.int 1),(D.int 11),(D.int 0),(D.int 0),(D.int 0),(D.int 0),(D.list [(F39_a25 sd0)]),(D.list [])])
noncomputable def F39_a27 (sd0:D):D:=(D.agg [(D.int 15),(D.int 0),(D.int 0),(D.int 0),(D.list [(F39_a21 sd0),(F39_a1 sd0)])])
noncomputable def F39_a28 (sd0:D):D:=(D.agg [(D.int 1),(D.int 10),(D.int 0),(D.int 0),(D.int 0),(D.int 0),(D.list [(F39_a27 sd0)]),(D.list [])])
noncomputable def F39_a29 (sd0:D):D:=(D.agg [(D.int 14),(D.int 0),(D.int 0),(D.int 0),(D.list [(F39_a21 sd0),(F39_a4 sd0)])])
noncomputable def F39_a30 (sd0:D):D:=(D.agg [(D.int 1),(D.int 9),(D.int 0),(D.int 0),(D.int 0),(D.int 0),(D.list [(F39_a29 sd0)]),(D.list [])])
noncomputable def F39_a31 (sd0:D):D:=(D.agg [(D.int 12),(D.int 0),(D.int 0),(D.int 0),(D.list [(F39_a21 sd0),(F39_a4 sd0)])])
noncomputable def F39_a32 (sd0:D):D:=(D.agg [(D.int 1),(D.int 8),(D.int 0),(D.int 0),(D.int 0),(D.int 0),(D.list [(F39_a31 sd0)]),(D.list [])])
noncomputable def F39_a33 (sd0:D):D:=(D.agg [(D.int 1),(D.int (qint (qfld sd0 6))),(D.int 0),(D.int 0),(D.int 0),(D.int 0),(D.list [(F39_a0 sd0)]),(D.list [])])
noncomputable def F39_a34 (sd0:D):D:=(D.agg [(D.int 2),(D.int 0),(D.int (qint (qfld sd0 7))),(D.int 0),(D.list [])])
noncomputable def F39_a35 (sd0:D):D:=(D.agg [(D.int (qint (qget (D.list [(D.int 3),(D.int 4),(D.int 6),(D.int 7),(D.int 8),(D.int 5),(D.int 9),(D.int 10),(D.int 11)]) (qbin BinOp.sub IntKind.i64 (qint (qfld sd0 2)) 6)))),(D.int 0),(D.int 0),(D.int 0),(D.list [(F39_a1 sd0),(F39_a34 sd0)])])
noncomputable def F39_a36 (sd0:D):D:=(D.agg [(D.int 1),(D.int (qint (qfld sd0 6))),(D.int 0),(D.int 0),(D.int 0),(D.int 0),(D.list [(F39_a35 sd0)]),(D.list [])])
noncomputable def F39_a37 (sd0:D):D:=(D.agg [(D.int 14),(D.int 0),(D.int 0),(D.int 0),(D.list [(F39_a35 sd0),(F39_a4 sd0)])])
noncomputable def F39_a38 (sd0:D):D:=(D.agg [(D.int 1),(D.int 9),(D.int 0),(D.int 0),(D.int 0),(D.int 0),(D.list [(F39_a37 sd0)]),(D.list [])])
noncomputable def F39_a39 (sd0:D):D:=(D.agg [(D.int 12),(D.int 0),(D.int 0),(D.int 0),(D.list [(F39_a35 sd0),(F39_a4 sd0)])])
noncomputable def F39_a40 (sd0:D):D:=(D.agg [(D.int 1),(D.int 8),(D.int 0),(D.int 0),(D.int 0),(D.int 0),(D.list [(F39_a39 sd0)]),(D.list [])])
noncomputable def F39_a41 (sd0:D):D:=(D.agg [(D.int 4),(D.int 0),(D.int 0),(D.int 0),(D.list [(F39_a1 sd0),(F39_a34 sd0)])])
noncomputable def F39_a42 (sd0:D):D:=(D.agg [(D.int 14),(D.int 0),(D.int 0),(D.int 0),(D.list [(F39_a41 sd0),(F39_a4 sd0)])])
noncomputable def F39_a43 (sd0:D):D:=(D.agg [(D.int 14),(D.int 0),(D.int 0),(D.int 0),(D.list [(F39_a1 sd0),(F39_a34 sd0)])])
noncomputable def F39_a44 (sd0:D):D:=(D.agg [(D.int 8),(D.int 0),(D.int 0),(D.int 0),(D.list [(F39_a43 sd0),(F39_a42 sd0)])])
noncomputable def F39_a45 (sd0:D):D:=(D.agg [(D.int 1),(D.int 11),(D.int 0),(D.int 0),(D.int 0),(D.int 0),(D.list [(F39_a44 sd0)]),(D.list [])])
noncomputable def F39_a46 (sd0:D):D:=(D.agg [(D.int 15),(D.int 0),(D.int 0),(D.int 0),(D.list [(F39_a1 sd0),(F39_a34 sd0)])])
noncomputable def F39_a47 (sd0:D):D:=(D.agg [(D.int 1),(D.int 10),(D.int 0),(D.int 0),(D.int 0),(D.int 0),(D.list [(F39_a46 sd0)]),(D.list [])])
noncomputable def F39_a48 (sd0:D):D:=(D.agg [(D.int 1),(D.int 9),(D.int 0),(D.int 0),(D.int 0),(D.int 0),(D.list [(F39_a42 sd0)]),(D.list [])])
noncomputable def F39_a49 (sd0:D):D:=(D.agg [(D.int 12),(D.int 0),(D.int 0),(D.int 0),(D.list [(F39_a1 sd0),(F39_a34 sd0)])])
noncomputable def F39_a50 (sd0:D):D:=(D.agg [(D.int 1),(D.int 8),(D.int 0),(D.int 0),(D.int 0),(D.int 0),(D.list [(F39_a49 sd0)]),(D.list [])])
noncomputable def F39_a51 (sd0:D):D:=(D.agg [(D.int 3),(D.int 0),(D.int 0),(D.int 0),(D.list [(F39_a1 sd0),(F39_a34 sd0)])])
noncomputable def F39_a52 (sd0:D):D:=(D.agg [(D.int 8),(D.int 0),(D.int 0),(D.int 0),(D.list [(F39_a34 sd0),(F39_a51 sd0)])])
noncomputable def F39_a53 (sd0:D):D:=(D.agg [(D.int 8),(D.int 0),(D.int 0),(D.int 0),(D.list [(F39_a1 sd0),(F39_a51 sd0)])])
noncomputable def F39_a54 (sd0:D):D:=(D.agg [(D.int 6),(D.int 0),(D.int 0),(D.int 0),(D.list [(F39_a53 sd0),(F39_a52 sd0)])])
noncomputable def F39_a55 (sd0:D):D:=(D.agg [(D.int 14),(D.int 0),(D.int 0),(D.int 0),(D.list [(F39_a54 sd0),(F39_a4 sd0)])])
noncomputable def F39_a56 (sd0:D):D:=(D.agg [(D.int 1),(D.int 11),(D.int 0),(D.int 0),(D.int 0),(D.int 0),(D.list [(F39_a55 sd0)]),(D.list [])])
noncomputable def F39_a57 (sd0:D):D:=(D.agg [(D.int 15),(D.int 0),(D.int 0),(D.int 0),(D.list [(F39_a51 sd0),(F39_a1 sd0)])])
noncomputable def F39_a58 (sd0:D):D:=(D.agg [(D.int 1),(D.int 10),(D.int 0),(D.int 0),(D.int 0),(D.int 0),(D.list [(F39_a57 sd0)]),(D.list [])])
noncomputable def F39_a59 (sd0:D):D:=(D.agg [(D.int 14),(D.int 0),(D.int 0),(D.int 0),(D.list [(F39_a51 sd0),(F39_a4 sd0)])])
noncomputable def F39_a60 (sd0:D):D:=(D.agg [(D.int 1),(D.int 9),(D.int 0),(D.int 0),(D.int 0),(D.int 0),(D.list [(F39_a59 sd0)]),(D.list [])])
noncomputable def F39_a61 (sd0:D):D:=(D.agg [(D.int 12),(D.int 0),(D.int 0),(D.int 0),(D.list [(F39_a51 sd0),(F39_a4 sd0)])])
noncomputable def F39_a62 (sd0:D):D:=(D.agg [(D.int 1),(D.int 8),(D.int 0),(D.int 0),(D.int 0),(D.int 0),(D.list [(F39_a61 sd0)]),(D.list [])])
noncomputable def F39_a63 (sd0:D):D:=(D.agg [(D.int 1),(D.int (qint (qfld sd0 6))),(D.int 0),(D.int 0),(D.int 0),(D.int 0),(D.list [(F39_a34 sd0)]),(D.list [])])
theorem F39_eq (sd0:D):F39 [sd0] =
 bif (qcmp BinOp.eql (qint (qfld sd0 3)) 0)then
 bif (qcmp BinOp.eql (qint (qfld sd0 2)) 5)then
 some [(D.list [(F39_a63 sd0)])]
 else
 bif (qcmp BinOp.eql (qint (qfld sd0 2)) 6)then
 bif (qcmp BinOp.neq (qint (qfld sd0 2)) 15)then
 bif (qinb (D.list [(D.int 3),(D.int 4),(D.int 6),(D.int 7),(D.int 8),(D.int 5),(D.int 9),(D.int 10),(D.int 11)]) (qbin BinOp.sub IntKind.i64 (qint (qfld sd0 2)) 6))then
 some [(D.list [(F39_a62 sd0),(F39_a60 sd0),(F39_a58 sd0),(F39_a56 sd0),(F39_a36 sd0)])]
 else
 none
 else
 some [(D.list [(F39_a62 sd0),(F39_a60 sd0),(F39_a58 sd0),(F39_a56 sd0)])]
 else
 bif (qiteB (qcmp BinOp.eql (qint (qfld sd0 2)) 7) Bool.true (qcmp BinOp.eql (qint (qfld sd0 2)) 15))then
 bif (qcmp BinOp.neq (qint (qfld sd0 2)) 15)then
 bif (qinb (D.list [(D.int 3),(D.int 4),(D.int 6),(D.int 7),(D.int 8),(D.int 5),(D.int 9),(D.int 10),(D.int 11)]) (qbin BinOp.sub IntKind.i64 (qint (qfld sd0 2)) 6))then
 some [(D.list [(F39_a50 sd0),(F39_a48 sd0),(F39_a47 sd0),(F39_a45 sd0),(F39_a36 sd0)])]
 else
 none
 else
 some [(D.list [(F39_a50 sd0),(F39_a48 sd0),(F39_a47 sd0),(F39_a45 sd0)])]
 else
 bif (qiteB (qcmp BinOp.gtr (qint (qfld sd0 2)) 7) (qcmp BinOp.leq (qint (qfld sd0 2)) 14) Bool.false)then
 bif (qinb (D.list [(D.int 3),(D.int 4),(D.int 6),(D.int 7),(D.int 8),(D.int 5),(D.int 9),(D.int 10),(D.int 11)]) (qbin BinOp.sub IntKind.i64 (qint (qfld sd0 2)) 6))then
 bif (qcmp BinOp.neq (qint (qfld sd0 2)) 15)then
 bif (qinb (D.list [(D.int 3),(D.int 4),(D.int 6),(D.int 7),(D.int 8),(D.int 5),(D.int 9),(D.int 10),(D.int 11)]) (qbin BinOp.sub IntKind.i64 (qint (qfld sd0 2)) 6))then
 some [(D.list [(F39_a40 sd0),(F39_a38 sd0),(F39_a6 sd0),(F39_a5 sd0),(F39_a36 sd0)])]
 else
 none
 else
 some [(D.list [(F39_a40 sd0),(F39_a38 sd0),(F39_a6 sd0),(F39_a5 sd0)])]
 else
 none
 else
 bif (qcmp BinOp.neq (qint (qfld sd0 2)) 15)then
 bif (qinb (D.list [(D.int 3),(D.int 4),(D.int 6),(D.int 7),(D.int 8),(D.int 5),(D.int 9),(D.int 10),(D.int 11)]) (qbin BinOp.sub IntKind.i64 (qint (qfld sd0 2)) 6))then
 some [(D.list [(F39_a36 sd0)])]
 else
 none
 else
 some [(D.list [])]
 else
 bif (qcmp BinOp.eql (qint (qfld sd0 2)) 5)then
 some [(D.list [(F39_a33 sd0)])]
 else
 bif (qcmp BinOp.eql (qint (qfld sd0 2)) 6)then
 bif (qcmp BinOp.neq (qint (qfld sd0 2)) 15)then
 bif (qinb (D.list [(D.int 3),(D.int 4),(D.int 6),(D.int 7),(D.int 8),(D.int 5),(D.int 9),(D.int 10),(D.int 11)]) (qbin BinOp.sub IntKind.i64 (qint (qfld sd0 2)) 6))then
 some [(D.list [(F39_a32 sd0),(F39_a30 sd0),(F39_a28 sd0),(F39_a26 sd0),(F39_a3 sd0)])]
 else
 none
 else
 some [(D.list [(F39_a32 sd0),(F39_a30 sd0),(F39_a28 sd0),(F39_a26 sd0)])]
 else
 bif (qiteB (qcmp BinOp.eql (qint (qfld sd0 2)) 7) Bool.true (qcmp BinOp.eql (qint (qfld sd0 2)) 15))then
 bif (qcmp BinOp.neq (qint (qfld sd0 2)) 15)then
 bif (qinb (D.list [(D.int 3),(D.int 4),(D.int 6),(D.int 7),(D.int 8),(D.int 5),(D.int 9),(D.int 10),(D.int 11)]) (qbin BinOp.sub IntKind.i64 (qint (qfld sd0 2)) 6))then
 some [(D.list [(F39_a20 sd0),(F39_a18 sd0),(F39_a17 sd0),(F39_a15 sd0),(F39_a3 sd0)])]
 else
 none
 else
 some [(D.list [(F39_a20 sd0),(F39_a18 sd0),(F39_a17 sd0),(F39_a15 sd0)])]
 else
 bif (qiteB (qcmp BinOp.gtr (qint (qfld sd0 2)) 7) (qcmp BinOp.leq (qint (qfld sd0 2)) 14) Bool.false)then
 bif (qinb (D.list [(D.int 3),(D.int 4),(D.int 6),(D.int 7),(D.int 8),(D.int 5),(D.int 9),(D.int 10),(D.int 11)]) (qbin BinOp.sub IntKind.i64 (qint (qfld sd0 2)) 6))then
 bif (qcmp BinOp.neq (qint (qfld sd0 2)) 15)then
 bif (qinb (D.list [(D.int 3),(D.int 4),(D.int 6),(D.int 7),(D.int 8),(D.int 5),(D.int 9),(D.int 10),(D.int 11)]) (qbin BinOp.sub IntKind.i64 (qint (qfld sd0 2)) 6))then
 some [(D.list [(F39_a10 sd0),(F39_a8 sd0),(F39_a6 sd0),(F39_a5 sd0),(F39_a3 sd0)])]
 else
 none
 else
 some [(D.list [(F39_a10 sd0),(F39_a8 sd0),(F39_a6 sd0),(F39_a5 sd0)])]
 else
 none
 else
 bif (qcmp BinOp.neq (qint (qfld sd0 2)) 15)then
 bif (qinb (D.list [(D.int 3),(D.int 4),(D.int 6),(D.int 7),(D.int 8),(D.int 5),(D.int 9),(D.int 10),(D.int 11)]) (qbin BinOp.sub IntKind.i64 (qint (qfld sd0 2)) 6))then
 some [(D.list [(F39_a3 sd0)])]
 else
 none
 else
 some [(D.list [])]:=by kernel_rfl
noncomputable def q39:List D→Option (List D):=veil (F39)
theorem q39_eq:q39=F39:=veil_eq _
noncomputable def tb39:Tb:=Tb.addF tb34 39 S39 (q39)
theorem ok_tb39:TbOk env (tb39):=addFunF ok_tb34 39 (by kernel_rfl) _ (q39_eq)
end Go.Proofs.YtgklbalcneepoaaGreatDoor
open Go Go.AM
namespace Go.Proofs.YtgklbalcneepoaaGreatDoor
set_option maxRecDepth 100000
set_option linter.unusedSimpArgs false
set_option linter.unusedVariables false
def S38:FunS:=⟨[⟨true,(.int .i64)⟩],[],[⟨true,(.dat 33)⟩],[]⟩
theorem K38_0 (sn0:Int):runI tb39 38 S38 0 0 [] [(D.int sn0)] =
 some [(D.agg [(D.int 1),(D.int 1),(D.int 0),(D.int 0),(D.list [])])]:=by kernel_rfl
theorem K38_1 (sn0:Int):runI tb39 38 S38 0 1 [] [(D.int sn0)] =
 some [(D.agg [(D.int 2),(D.int 0),(D.int 8),(D.int 0),(D.list [])])]:=by kernel_rfl
theorem K38_2 (sn0:Int):runI tb39 38 S38 0 2 [] [(D.int sn0)] =
 some [(D.agg [(D.int 16),(D.int 0),(D.int 0),(D.int 0),(D.list [(D.agg [(D.int 2),(D.int 0),(D.int 8),(D.int 0),(D.list [])])])])]:=by kernel_rfl
theorem K38_3 (sn0:Int):runI tb39 38 S38 0 3 [] [(D.int sn0)] =
 some [(D.agg [(D.int 8),(D.int 0),(D.int 0),(D.int 0),(D.list [(D.agg [(D.int 2),(D.int 0),(D.int 9),(D.int 0),(D.list [])]),(D.agg [(D.int 2),(D.int 0),(D.int 11),(D.int 0),(D.list [])])])])]:=by kernel_rfl
theorem K38_4 (sn0:Int):runI tb39 38 S38 0 4 [] [(D.int sn0)] =
 some [(D.agg [(D.int 16),(D.int 0),(D.int 0),(D.int 0),(D.list [(D.agg [(D.int 8),(D.int 0),(D.int 0),(D.int 0),(D.list [(D.agg [(D.int 2),(D.int 0),(D.int 9),(D.int 0),(D.list [])]),(D.agg [(D.int 2),(D.int 0),(D.int 11),(D.int 0),(D.list [])])])])])])]:=by kernel_rfl
theorem K38_5 (sn0:Int):runI tb39 38 S38 0 5 [] [(D.int sn0)] =
 some [(D.agg [(D.int 7),(D.int 0),(D.int 0),(D.int 0),(D.list [(D.agg [(D.int 2),(D.int 0),(D.int 8),(D.int 0),(D.list [])]),(D.agg [(D.int 8),(D.int 0),(D.int 0),(D.int 0),(D.list [(D.agg [(D.int 2),(D.int 0),(D.int 9),(D.int 0),(D.list [])]),(D.agg [(D.int 2),(D.int 0),(D.int 11),(D.int 0),(D.list [])])])])])])]:=by kernel_rfl
theorem K38_6 (sn0:Int):runI tb39 38 S38 0 6 [] [(D.int sn0)] =
 some [(D.agg [(D.int 16),(D.int 0),(D.int 0),(D.int 0),(D.list [(D.agg [(D.int 7),(D.int 0),(D.int 0),(D.int 0),(D.list [(D.agg [(D.int 2),(D.int 0),(D.int 8),(D.int 0),(D.list [])]),(D.agg [(D.int 8),(D.int 0),(D.int 0),(D.int 0),(D.list [(D.agg [(D.int 2),(D.int 0),(D.int 9),(D.int 0),(D.list [])]),(D.agg [(D.int 2),(D.int 0),(D.int 11),(D.int 0),(D.list [])])])])])])])])]:=by kernel_rfl
theorem K38_7 (sn0:Int):runI tb39 38 S38 0 7 [] [(D.int sn0)] =
 some [(D.agg [(D.int 2),(D.int 0),(D.int 10),(D.int 0),(D.list [])])]:=by kernel_rfl
theorem K38_8 (sn0:Int):runI tb39 38 S38 0 8 [] [(D.int sn0)] =
 some [(D.agg [(D.int 16),(D.int 0),(D.int 0),(D.int 0),(D.list [(D.agg [(D.int 2),(D.int 0),(D.int 10),(D.int 0),(D.list [])])])])]:=by kernel_rfl
theorem K38_9 (sn0:Int):runI tb39 38 S38 0 9 [] [(D.int sn0)] =
 some [(D.agg [(D.int 7),(D.int 0),(D.int 0),(D.int 0),(D.list [(D.agg [(D.int 2),(D.int 0),(D.int 10),(D.int 0),(D.list [])]),(D.agg [(D.int 2),(D.int 0),(D.int 8),(D.int 0),(D.list [])])])])]:=by kernel_rfl
theorem K38_10 (sn0:Int):runI tb39 38 S38 0 10 [] [(D.int sn0)] =
 some [(D.agg [(D.int 16),(D.int 0),(D.int 0),(D.int 0),(D.list [(D.agg [(D.int 7),(D.int 0),(D.int 0),(D.int 0),(D.list [(D.agg [(D.int 2),(D.int 0),(D.int 10),(D.int 0),(D.list [])]),(D.agg [(D.int 2),(D.int 0),(D.int 8),(D.int 0),(D.list [])])])])])])]:=by kernel_rfl
theorem K38_11 (sn0:Int):runI tb39 38 S38 0 11 [] [(D.int sn0)] =
 some [(D.agg [(D.int 2),(D.int 0),(D.int 9),(D.int 0),(D.list [])])]:=by kernel_rfl
theorem K38_12 (sn0:Int):runI tb39 38 S38 0 12 [] [(D.int sn0)] =
 some [(D.agg [(D.int 16),(D.int 0),(D.int 0),(D.int 0),(D.list [(D.agg [(D.int 2),(D.int 0),(D.int 9),(D.int 0),(D.list [])])])])]:=by kernel_rfl
theorem K38_13 (sn0:Int):runI tb39 38 S38 0 13 [] [(D.int sn0)] =
 some [(D.agg [(D.int 2),(D.int 0),(D.int 11),(D.int 0),(D.list [])])]:=by kernel_rfl
theorem K38_14 (sn0:Int):runI tb39 38 S38 0 14 [] [(D.int sn0)] =
 some [(D.agg [(D.int 16),(D.int 0),(D.int 0),(D.int 0),(D.list [(D.agg [(D.int 2),(D.int 0),(D.int 11),(D.int 0),(D.list [])])])])]:=by kernel_rfl
noncomputable def F38:List D→Option (List D):=splitI tb39 38 S38 0 0 15
noncomputable def q38:List D→Option (List D):=veil F38
theorem q38_eq:q38=F38:=veil_eq _
theorem sound38:SoundF env.P 38 S38 q38:=by rw[q38_eq];exact splitI_sound ok_tb39 (fun p s=>by kernel_rfl)
noncomputable def tb38:Tb:=Tb.addF tb39 38 S38 q38
theorem ok_tb38:TbOk env tb38:=TbOk.addF ok_tb39 (by kernel_rfl) sound38
def S7:FunS:=⟨[⟨true,(.dat 24)⟩,⟨true,(.int .i64)⟩],[],[⟨true,(.tup [(.rows 91),(.int .i64)])⟩],[]⟩
noncomputable def F7:List D→Option (List D):=liftX env tb38 60 12 7 S7
theorem F7_eq (sd0:D) (sn1:Int):F7 [sd0,(D.int sn1)] =
 bif (qsome (q30 [sd0]))then
 bif (qnot (qbool (qnth (q30 [sd0]) 0)))then
 some [(D.list []),(D.int sn1)]
 else
 bif (qiteB (qcmp BinOp.eql (qint (qfld sd0 2)) 3) (qcmp BinOp.eql (qint (qfld sd0 2)) 3) (qiteB (qcmp BinOp.eql (qint (qfld sd0 2)) 4) (qcmp BinOp.eql (qint (qfld sd0 2)) 4) (qiteB (qcmp BinOp.eql (qint (qfld sd0 2)) 2) (qcmp BinOp.eql (qint (qfld sd0 2)) 2) (qiteB (qcmp BinOp.eql (qint (qfld sd0 2)) 23) (qcmp BinOp.eql (qint (qfld sd0 2)) 23) (qcmp BinOp.eql (qint (qfld sd0 2)) 24)))))then
 bif (qsome (q34 [sd0]))then
 some [(qnth (q34 [sd0]) 0),(D.int sn1)]
 else
 none
 else
 bif (qcmp BinOp.eql (qint (qfld sd0 2)) 16)then
 some [(D.list [(D.agg [(D.int 1),(D.int (qint (qfld sd0 6))),(D.int 0),(D.int 0),(D.int 0),(D.int 0),(D.list [(D.agg [(D.int 18),(D.int 0),(D.int 0),(D.int (qint (qfld sd0 4))),(D.list [(D.agg [(D.int 3),(D.int 0),(D.int 0),(D.int 0),(D.list [(D.agg [(D.int 2),(D.int 0),(D.int (qint (qfld sd0 7))),(D.int 0),(D.list [])]),(D.agg [(D.int 1),(D.int (qint (qfld sd0 1))),(D.int 0),(D.int 0),(D.list [])])])])])])]),(D.list [])])]),(D.int sn1)]
 else
 bif (qcmp BinOp.eql (qint (qfld sd0 2)) 17)then
 some [(D.list [(D.agg [(D.int 1),(D.int (qint (qfld sd0 6))),(D.int 0),(D.int 0),(D.int 0),(D.int 0),(D.list [(D.agg [(D.int 19),(D.int 0),(D.int 0),(D.int (qint (qfld sd0 4))),(D.list [(D.agg [(D.int 18),(D.int 0),(D.int 0),(D.int (qint (qfld sd0 4))),(D.list [(D.agg [(D.int 3),(D.int 0),(D.int 0),(D.int 0),(D.list [(D.agg [(D.int 2),(D.int 0),(D.int (qint (qfld sd0 7))),(D.int 0),(D.list [])]),(D.agg [(D.int 1),(D.int (qint (qfld sd0 1))),(D.int 0),(D.int 0),(D.list [])])])])])])])])]),(D.list [])])]),(D.int sn1)]
 else
 bif (qcmp BinOp.eql (qint (qfld sd0 2)) 18)then
 some [(D.list [(D.agg [(D.int 2),(D.int 0),(D.int (qint (qfld sd0 4))),(D.int 0),(D.int 0),(D.int 0),(D.list [(D.agg [(D.int 3),(D.int 0),(D.int 0),(D.int 0),(D.list [(D.agg [(D.int 2),(D.int 0),(D.int (qint (qfld sd0 7))),(D.int 0),(D.list [])]),(D.agg [(D.int 1),(D.int (qint (qfld sd0 1))),(D.int 0),(D.int 0),(D.list [])])])]),(D.agg [(D.int 2),(D.int 0),(D.int (qint (qfld sd0 6))),(D.int 0),(D.list [])])]),(D.list [])])]),(D.int sn1)]
 else
 bif (qcmp BinOp.eql (qint (qfld sd0 2)) 19)then
 some [(D.list [(D.agg [(D.int 1),(D.int (qint (qfld sd0 6))),(D.int 0),(D.int 0),(D.int 0),(D.int 0),(D.list [(D.agg [(D.int 3),(D.int 0),(D.int 0),(D.int 0),(D.list [(D.agg [(D.int 2),(D.int 0),(D.int (qint (qfld sd0 7))),(D.int 0),(D.list [])]),(D.agg [(D.int 1),(D.int (qint (qfld sd0 1))),(D.int 0),(D.int 0),(D.list [])])])])]),(D.list [])])]),(D.int sn1)]
 else
 bif (qcmp BinOp.eql (qint (qfld sd0 2)) 25)then
 bif (qsome (q38 [(D.int (qint (qfld sd0 5)))]))then
 some [(D.list [(D.agg [(D.int 1),(D.int (qint (qfld sd0 6))),(D.int 0),(D.int 0),(D.int 0),(D.int 0),(D.list [(D.agg [(D.int (qint (qfld (qnth (q38 [(D.int (qint (qfld sd0 5)))]) 0) 0))),(D.int (qint (qfld (qnth (q38 [(D.int (qint (qfld sd0 5)))]) 0) 1))),(D.int (qint (qfld (qnth (q38 [(D.int (qint (qfld sd0 5)))]) 0) 2))),(D.int (qint (qfld (qnth (q38 [(D.int (qint (qfld sd0 5)))]) 0) 3))),(qfld (qnth (q38 [(D.int (qint (qfld sd0 5)))]) 0) 4)])]),(D.list [])])]),(D.int sn1)]
 else
 none
 else
 bif (qcmp BinOp.eql (qint (qfld sd0 2)) 26)then
 some [(D.list [(D.agg [(D.int 3),(D.int (qint (qfld sd0 6))),(D.int 0),(D.int 0),(D.int 0),(D.int 0),(D.list []),(D.list [])])]),(D.int sn1)]
 else
 bif (qcmp BinOp.eql (qint (qfld sd0 2)) 27)then
 some [(D.list [(D.agg [(D.int 4),(D.int 0),(D.int 0),(D.int 0),(D.int 0),(D.int 0),(D.list [(D.agg [(D.int 2),(D.int 0),(D.int (qint (qfld sd0 6))),(D.int 0),(D.list [])])]),(D.list [])])]),(D.int sn1)]
 else
 bif (qiteB (qcmp BinOp.eql (qint (qfld sd0 2)) 0) (qcmp BinOp.eql (qint (qfld sd0 2)) 0) (qiteB (qcmp BinOp.eql (qint (qfld sd0 2)) 1) (qcmp BinOp.eql (qint (qfld sd0 2)) 1) (qiteB (qcmp BinOp.eql (qint (qfld sd0 2)) 20) (qcmp BinOp.eql (qint (qfld sd0 2)) 20) (qiteB (qcmp BinOp.eql (qint (qfld sd0 2)) 21) (qcmp BinOp.eql (qint (qfld sd0 2)) 21) (qcmp BinOp.eql (qint (qfld sd0 2)) 22)))))then
 some [(D.list []),(D.int sn1)]
 else
 bif (qsome (q39 [sd0]))then
 some [(qnth (q39 [sd0]) 0),(D.int sn1)]
 else
 none
 else
 none:=by kernel_rfl
noncomputable def q7:List D→Option (List D):=veil (F7)
theorem q7_eq:q7=F7:=veil_eq _
noncomputable def tb7:Tb:=Tb.addF tb38 7 S7 (q7)
theorem ok_tb7:TbOk env (tb7):=addFunF ok_tb38 7 (by kernel_rfl) _ (q7_eq)
end Go.Proofs.YtgklbalcneepoaaGreatDoor
open Go Go.AM
namespace Go.Proofs.YtgklbalcneepoaaGreatDoor
set_option maxRecDepth 100000
set_option linter.unusedSimpArgs false
set_option linter.unusedVariables false
def S97:FunS:=⟨[⟨true,(.dat 24)⟩],[],[⟨true,(.int .u32)⟩],[]⟩
noncomputable def F97:List D→Option (List D):=liftX env tb7 60 12 97 S97
theorem F97_eq (sd0:D):F97 [sd0] =
 bif (qsome (q143 [sd0]))then
 some [(D.int (qbin BinOp.add IntKind.u32 (qint (qfld sd0 0)) (qwrap IntKind.u32 (qint (qnth (q143 [sd0]) 0)))))]
 else
 none:=by kernel_rfl
noncomputable def q97:List D→Option (List D):=veil (F97)
theorem q97_eq:q97=F97:=veil_eq _
noncomputable def tb97:Tb:=Tb.addF tb7 97 S97 (q97)
theorem ok_tb97:TbOk env (tb97):=addFunF ok_tb7 97 (by kernel_rfl) _ (q97_eq)
def S76:FunS:=⟨[⟨true,(.int .i64)⟩],[],[⟨true,(.dat 33)⟩],[]⟩
noncomputable def F76:List D→Option (List D):=liftX env tb97 60 12 76 S76
theorem F76_eq (sn0:Int):F76 [(D.int sn0)] =
 bif (qcmp BinOp.eql sn0 1)then
 some [(D.agg [(D.int 2),(D.int 0),(D.int 8),(D.int 0),(D.list [])])]
 else
 bif (qcmp BinOp.eql sn0 2)then
 some [(D.agg [(D.int 16),(D.int 0),(D.int 0),(D.int 0),(D.list [(D.agg [(D.int 2),(D.int 0),(D.int 8),(D.int 0),(D.list [])])])])]
 else
 bif (qcmp BinOp.eql sn0 3)then
 some [(D.agg [(D.int 8),(D.int 0),(D.int 0),(D.int 0),(D.list [(D.agg [(D.int 2),(D.int 0),(D.int 9),(D.int 0),(D.list [])]),(D.agg [(D.int 2),(D.int 0),(D.int 11),(D.int 0),(D.list [])])])])]
 else
 bif (qcmp BinOp.eql sn0 4)then
 some [(D.agg [(D.int 16),(D.int 0),(D.int 0),(D.int 0),(D.list [(D.agg [(D.int 8),(D.int 0),(D.int 0),(D.int 0),(D.list [(D.agg [(D.int 2),(D.int 0),(D.int 9),(D.int 0),(D.list [])]),(D.agg [(D.int 2),(D.int 0),(D.int 11),(D.int 0),(D.list [])])])])])])]
 else
 bif (qcmp BinOp.eql sn0 5)then
 some [(D.agg [(D.int 7),(D.int 0),(D.int 0),(D.int 0),(D.list [(D.agg [(D.int 2),(D.int 0),(D.int 8),(D.int 0),(D.list [])]),(D.agg [(D.int 8),(D.int 0),(D.int 0),(D.int 0),(D.list [(D.agg [(D.int 2),(D.int 0),(D.int 9),(D.int 0),(D.list [])]),(D.agg [(D.int 2),(D.int 0),(D.int 11),(D.int 0),(D.list [])])])])])])]
 else
 bif (qcmp BinOp.eql sn0 6)then
 some [(D.agg [(D.int 16),(D.int 0),(D.int 0),(D.int 0),(D.list [(D.agg [(D.int 7),(D.int 0),(D.int 0),(D.int 0),(D.list [(D.agg [(D.int 2),(D.int 0),(D.int 8),(D.int 0),(D.list [])]),(D.agg [(D.int 8),(D.int 0),(D.int 0),(D.int 0),(D.list [(D.agg [(D.int 2),(D.int 0),(D.int 9),(D.int 0),(D.list [])]),(D.agg [(D.int 2),(D.int 0),(D.int 11),(D.int 0),(D.list [])])])])])])])])]
 else
 bif (qcmp BinOp.eql sn0 7)then
 some [(D.agg [(D.int 2),(D.int 0),(D.int 10),(D.int 0),(D.list [])])]
 else
 bif (qcmp BinOp.eql sn0 8)then
 some [(D.agg [(D.int 16),(D.int 0),(D.int 0),(D.int 0),(D.list [(D.agg [(D.int 2),(D.int 0),(D.int 10),(D.int 0),(D.list [])])])])]
 else
 bif (qcmp BinOp.eql sn0 9)then
 some [(D.agg [(D.int 7),(D.int 0),(D.int 0),(D.int 0),(D.list [(D.agg [(D.int 2),(D.int 0),(D.int 10),(D.int 0),(D.list [])]),(D.agg [(D.int 2),(D.int 0),(D.int 8),(D.int 0),(D.list [])])])])]
 else
 bif (qcmp BinOp.eql sn0 10)then
 some [(D.agg [(D.int 16),(D.int 0),(D.int 0),(D.int 0),(D.list [(D.agg [(D.int 7),(D.int 0),(D.int 0),(D.int 0),(D.list [(D.agg [(D.int 2),(D.int 0),(D.int 10),(D.int 0),(D.list [])]),(D.agg [(D.int 2),(D.int 0),(D.int 8),(D.int 0),(D.list [])])])])])])]
 else
 bif (qcmp BinOp.eql sn0 11)then
 some [(D.agg [(D.int 2),(D.int 0),(D.int 9),(D.int 0),(D.list [])])]
 else
 bif (qcmp BinOp.eql sn0 12)then
 some [(D.agg [(D.int 16),(D.int 0),(D.int 0),(D.int 0),(D.list [(D.agg [(D.int 2),(D.int 0),(D.int 9),(D.int 0),(D.list [])])])])]
 else
 bif (qcmp BinOp.eql sn0 13)then
 some [(D.agg [(D.int 2),(D.int 0),(D.int 11),(D.int 0),(D.list [])])]
 else
 bif (qcmp BinOp.eql sn0 14)then
 some [(D.agg [(D.int 16),(D.int 0),(D.int 0),(D.int 0),(D.list [(D.agg [(D.int 2),(D.int 0),(D.int 11),(D.int 0),(D.list [])])])])]
 else
 some [(D.agg [(D.int 1),(D.int 1),(D.int 0),(D.int 0),(D.list [])])]:=by kernel_rfl
noncomputable def q76:List D→Option (List D):=veil (F76)
theorem q76_eq:q76=F76:=veil_eq _
noncomputable def tb76:Tb:=Tb.addF tb97 76 S76 (q76)
theorem ok_tb76:TbOk env (tb76):=addFunF ok_tb97 76 (by kernel_rfl) _ (q76_eq)
def S77:FunS:=⟨[⟨true,(.dat 24)⟩],[],[⟨true,(.rows 91)⟩],[]⟩
noncomputable def F77:List D→Option (List D):=liftX env tb76 60 12 77 S77
theorem F77_eq (sd0:D):F77 [sd0] =
 bif (qcmp BinOp.eql (qint (qfld sd0 2)) 3)then
 bif (qcmp BinOp.eql (qint (qfld sd0 6)) 7)then
 some [(D.list [(D.agg [(D.int 2),(D.int 0),(D.int 4),(D.int 0),(D.int 0),(D.int 0),(D.list [(D.agg [(D.int 4),(D.int 0),(D.int 0),(D.int 0),(D.list [(D.agg [(D.int 2),(D.int 0),(D.int 7),(D.int 0),(D.list [])]),(D.agg [(D.int 1),(D.int 4),(D.int 0),(D.int 0),(D.list [])])])]),(D.agg [(D.int 2),(D.int 0),(D.int 7),(D.int 0),(D.list [])])]),(D.list [])]),(D.agg [(D.int 1),(D.int 7),(D.int 0),(D.int 0),(D.int 0),(D.int 0),(D.list [(D.agg [(D.int 4),(D.int 0),(D.int 0),(D.int 0),(D.list [(D.agg [(D.int 2),(D.int 0),(D.int 7),(D.int 0),(D.list [])]),(D.agg [(D.int 1),(D.int 4),(D.int 0),(D.int 0),(D.list [])])])])]),(D.list [])])])]
 else
 some [(D.list [(D.agg [(D.int 1),(D.int 7),(D.int 0),(D.int 0),(D.int 0),(D.int 0),(D.list [(D.agg [(D.int 4),(D.int 0),(D.int 0),(D.int 0),(D.list [(D.agg [(D.int 2),(D.int 0),(D.int 7),(D.int 0),(D.list [])]),(D.agg [(D.int 1),(D.int 4),(D.int 0),(D.int 0),(D.list [])])])])]),(D.list [])]),(D.agg [(D.int 2),(D.int 0),(D.int 4),(D.int 0),(D.int 0),(D.int 0),(D.list [(D.agg [(D.int 2),(D.int 0),(D.int 7),(D.int 0),(D.list [])]),(D.agg [(D.int 2),(D.int 0),(D.int (qint (qfld sd0 6))),(D.int 0),(D.list [])])]),(D.list [])])])]
 else
 bif (qcmp BinOp.eql (qint (qfld sd0 2)) 4)then
 bif (qcmp BinOp.eql (qint (qfld sd0 6)) 7)then
 some [(D.list [(D.agg [(D.int 1),(D.int 7),(D.int 0),(D.int 0),(D.int 0),(D.int 0),(D.list [(D.agg [(D.int 18),(D.int 0),(D.int 0),(D.int 4),(D.list [(D.agg [(D.int 2),(D.int 0),(D.int 7),(D.int 0),(D.list [])])])])]),(D.list [])])])]
 else
 some [(D.list [(D.agg [(D.int 1),(D.int (qint (qfld sd0 6))),(D.int 0),(D.int 0),(D.int 0),(D.int 0),(D.list [(D.agg [(D.int 18),(D.int 0),(D.int 0),(D.int 4),(D.list [(D.agg [(D.int 2),(D.int 0),(D.int 7),(D.int 0),(D.list [])])])])]),(D.list [])]),(D.agg [(D.int 1),(D.int 7),(D.int 0),(D.int 0),(D.int 0),(D.int 0),(D.list [(D.agg [(D.int 3),(D.int 0),(D.int 0),(D.int 0),(D.list [(D.agg [(D.int 2),(D.int 0),(D.int 7),(D.int 0),(D.list [])]),(D.agg [(D.int 1),(D.int 4),(D.int 0),(D.int 0),(D.list [])])])])]),(D.list [])])])]
 else
 bif (qcmp BinOp.eql (qint (qfld sd0 2)) 2)then
 some [(D.list [(D.agg [(D.int 1),(D.int 7),(D.int 0),(D.int 0),(D.int 0),(D.int 0),(D.list [(D.agg [(D.int 3),(D.int 0),(D.int 0),(D.int 0),(D.list [(D.agg [(D.int 2),(D.int 0),(D.int 7),(D.int 0),(D.list [])]),(D.agg [(D.int 1),(D.int 4),(D.int 0),(D.int 0),(D.list [])])])])]),(D.list [])])])]
 else
 bif (qsome (q97 [sd0]))then
 some [(D.list [(D.agg [(D.int 1),(D.int 7),(D.int 0),(D.int 0),(D.int 0),(D.int 0),(D.list [(D.agg [(D.int 4),(D.int 0),(D.int 0),(D.int 0),(D.list [(D.agg [(D.int 2),(D.int 0),(D.int 7),(D.int 0),(D.list [])]),(D.agg [(D.int 1),(D.int 4),(D.int 0),(D.int 0),(D.list [])])])])]),(D.list [])]),(D.agg [(D.int 2),(D.int 0),(D.int 4),(D.int 0),(D.int 0),(D.int 0),(D.list [(D.agg [(D.int 2),(D.int 0),(D.int 7),(D.int 0),(D.list [])]),(D.agg [(D.int 1),(D.int (qint (qnth (q97 [sd0]) 0))),(D.int 0),(D.int 0),(D.list [])])]),(D.list [])])])]
 else
 none:=by kernel_rfl
noncomputable def q77:List D→Option (List D):=veil (F77)
theorem q77_eq:q77=F77:=veil_eq _
noncomputable def tb77:Tb:=Tb.addF tb76 77 S77 (q77)
theorem ok_tb77:TbOk env (tb77):=addFunF ok_tb76 77 (by kernel_rfl) _ (q77_eq)
def S50:FunS:=⟨[⟨true,(.int .i64)⟩],[],[⟨true,(.int .i64)⟩],[]⟩
noncomputable def F50:List D→Option (List D):=liftX env tb77 60 12 50 S50
theorem F50_eq (sn0:Int):F50 [(D.int sn0)] =
 bif (qcmp BinOp.eql sn0 6)then
 some [(D.int 3)]
 else
 bif (qcmp BinOp.eql sn0 7)then
 some [(D.int 4)]
 else
 bif (qcmp BinOp.eql sn0 8)then
 some [(D.int 6)]
 else
 bif (qcmp BinOp.eql sn0 9)then
 some [(D.int 7)]
 else
 bif (qcmp BinOp.eql sn0 10)then
 some [(D.int 8)]
 else
 bif (qcmp BinOp.eql sn0 11)then
 some [(D.int 5)]
 else
 bif (qcmp BinOp.eql sn0 12)then
 some [(D.int 9)]
 else
 bif (qcmp BinOp.eql sn0 13)then
 some [(D.int 10)]
 else
 some [(D.int 11)]:=by kernel_rfl
noncomputable def q50:List D→Option (List D):=veil (F50)
theorem q50_eq:q50=F50:=veil_eq _
noncomputable def tb50:Tb:=Tb.addF tb77 50 S50 (q50)
theorem ok_tb50:TbOk env (tb50):=addFunF ok_tb77 50 (by kernel_rfl) _ (q50_eq)
def S73_5:LoopS:=⟨0,[uF,uF,⟨false,(.ptr 0 0)⟩,⟨false,(.ptr 1 0)⟩,⟨false,(.lit (.slice none 0 0))⟩,⟨false,(.osl 2 91)⟩,⟨false,(.ptr 3 0)⟩,⟨false,(.osl 4 33)⟩,⟨true,(.int .i64)⟩,uF,uF,uF,uF,uF,uF,uF,uF,uF,uF,uF,uF,uF,uF,uF,uF,uF,uF,uF,uF,uF,uF,uF,uF,uF,uF,uF,uF,uF,uF,uF,uF,uF,uF,uF,uF,uF,uF,uF,uF],[(.lst true 33),(.cells [⟨false,(.lit (.int .i64 2))⟩,⟨false,(.lit (.int .u32 0))⟩,⟨false,(.int .i64)⟩,⟨false,(.lit (.int .i64 0))⟩,⟨false,(.lit (.slice none 0 0))⟩]),(.lst true 91),(.dat false 33),(.dat false 24)],[⟨0,0,[uT,uT,⟨true,(.ptr 0 0)⟩,⟨true,(.ptr 1 0)⟩,⟨true,(.lit (.slice none 0 0))⟩,⟨true,(.osl 2 91)⟩,⟨true,(.ptr 3 0)⟩,uT,uT,uT,uT,uT,uT,uT,uT,uT,uT,uT,uT,uT,uT,uT,uT,uT,uT,uT,uT,uT,uT,uT,uT,uT,uT,uT,uT,uT,uT,uT,uT,uT,uT,uT,uT,uT,uT,uT,uT,uT,uT],[.skip,(.cells [⟨true,(.lit (.int .i64 2))⟩,⟨true,(.lit (.int .u32 0))⟩,⟨false,(.int .i64)⟩,⟨true,(.lit (.int .i64 0))⟩,⟨true,(.lit (.slice none 0 0))⟩]),(.lst true 91),(.dat false 33),(.dat false 24)]⟩]⟩
noncomputable def st73_5 (p s:List D):Option (Sum (List D) (List D)):=stepQX env tb50 60 12 73 (loopC 73 5) S73_5 p s
theorem st73_5_eq (pn0:Int) (pd1:D) (pd2:D) (sn0:Int) (sd1:D) (sd2:D):st73_5 [(D.int pn0),pd1,pd2] [(D.int sn0),sd1,sd2] =
 bif (qcmp BinOp.lss sn0 (qlen sd1))then
 bif (qcmp BinOp.leq 0 sn0)then
 bif (qcmp BinOp.lss sn0 (qlen sd1))then
 bif (qinb sd1 sn0)then
 bif (qmem (qlen (qapp sd2 (D.list [(D.agg [(D.int 1),(D.int (qbin BinOp.add IntKind.i64 8 sn0)),(D.int 0),(D.int 0),(D.int 0),(D.int 0),(D.list [(D.agg [(D.int (qint (qfld (qget sd1 sn0) 0))),(D.int (qint (qfld (qget sd1 sn0) 1))),(D.int (qint (qfld (qget sd1 sn0) 2))),(D.int (qint (qfld (qget sd1 sn0) 3))),(qfld (qget sd1 sn0) 4)])]),(D.list [])])]))) 96)then
 some (Sum.inl [(D.int (qbin BinOp.add IntKind.i64 sn0 1)),sd1,(qapp sd2 (D.list [(D.agg [(D.int 1),(D.int (qbin BinOp.add IntKind.i64 8 sn0)),(D.int 0),(D.int 0),(D.int 0),(D.int 0),(D.list [(D.agg [(D.int (qint (qfld (qget sd1 sn0) 0))),(D.int (qint (qfld (qget sd1 sn0) 1))),(D.int (qint (qfld (qget sd1 sn0) 2))),(D.int (qint (qfld (qget sd1 sn0) 3))),(qfld (qget sd1 sn0) 4)])]),(D.list [])])]))])
 else
 none
 else
 none
 else
 none
 else
 none
 else
 some (Sum.inr [(D.int 0),sd2]):=by
 have h:st73_5 [(D.int pn0),pd1,pd2] [(D.int sn0),sd1,sd2] =
  bif (qcmp BinOp.lss sn0 (qlen sd1))then
  bif (qcmp BinOp.leq 0 sn0)then
  bif (qcmp BinOp.lss sn0 (qlen sd1))then
  bif (qinb sd1 sn0)then
  bif (qcmp BinOp.eql (qlen sd2) (qlen sd2))then
  bif (qmem (qlen (qapp sd2 (D.list [(D.agg [(D.int 1),(D.int (qbin BinOp.add IntKind.i64 8 sn0)),(D.int 0),(D.int 0),(D.int 0),(D.int 0),(D.list [(D.agg [(D.int (qint (qfld (qget sd1 sn0) 0))),(D.int (qint (qfld (qget sd1 sn0) 1))),(D.int (qint (qfld (qget sd1 sn0) 2))),(D.int (qint (qfld (qget sd1 sn0) 3))),(qfld (qget sd1 sn0) 4)])]),(D.list [])])]))) 96)then
  bif (qcmp BinOp.eql (qlen (qapp sd2 (D.list [(D.agg [(D.int 1),(D.int (qbin BinOp.add IntKind.i64 8 sn0)),(D.int 0),(D.int 0),(D.int 0),(D.int 0),(D.list [(D.agg [(D.int (qint (qfld (qget sd1 sn0) 0))),(D.int (qint (qfld (qget sd1 sn0) 1))),(D.int (qint (qfld (qget sd1 sn0) 2))),(D.int (qint (qfld (qget sd1 sn0) 3))),(qfld (qget sd1 sn0) 4)])]),(D.list [])])]))) (qlen (qapp sd2 (D.list [(D.agg [(D.int 1),(D.int (qbin BinOp.add IntKind.i64 8 sn0)),(D.int 0),(D.int 0),(D.int 0),(D.int 0),(D.list [(D.agg [(D.int (qint (qfld (qget sd1 sn0) 0))),(D.int (qint (qfld (qget sd1 sn0) 1))),(D.int (qint (qfld (qget sd1 sn0) 2))),(D.int (qint (qfld (qget sd1 sn0) 3))),(qfld (qget sd1 sn0) 4)])]),(D.list [])])]))))then
  bif (qcmp BinOp.eql (qlen sd1) (qlen sd1))then
  bif (qeqD (D.int pn0) (D.int pn0))then
  bif (qeqD pd1 pd1)then
  bif (qeqD pd2 pd2)then
  some (Sum.inl [(D.int (qbin BinOp.add IntKind.i64 sn0 1)),sd1,(qapp sd2 (D.list [(D.agg [(D.int 1),(D.int (qbin BinOp.add IntKind.i64 8 sn0)),(D.int 0),(D.int 0),(D.int 0),(D.int 0),(D.list [(D.agg [(D.int (qint (qfld (qget sd1 sn0) 0))),(D.int (qint (qfld (qget sd1 sn0) 1))),(D.int (qint (qfld (qget sd1 sn0) 2))),(D.int (qint (qfld (qget sd1 sn0) 3))),(qfld (qget sd1 sn0) 4)])]),(D.list [])])]))])
  else
  none
  else
  none
  else
  none
  else
  none
  else
  none
  else
  none
  else
  none
  else
  none
  else
  none
  else
  none
  else
  bif (qcmp BinOp.eql (qlen sd2) (qlen sd2))then
  bif (qeqD (D.int pn0) (D.int pn0))then
  bif (qeqD pd1 pd1)then
  bif (qeqD pd2 pd2)then
  some (Sum.inr [(D.int 0),sd2])
  else
  none
  else
  none
  else
  none
  else
  none:=by kernel_rfl
 rw[h];simp only[qeqD_self,qeqI_self,qeq_len,show qcmp BinOp.eql 0 (qlen (D.list []))=true from qeq_len [],show∀a,qcmp BinOp.eql 1 (qlen (D.list [a]))=true from fun a=>qeq_len [a],show∀a b,qcmp BinOp.eql 2 (qlen (D.list [a,b]))=true from fun a b=>qeq_len [a,b],show∀a b c,qcmp BinOp.eql 3 (qlen (D.list [a,b,c]))=true from fun a b c=>qeq_len [a,b,c],show∀a b c d,qcmp BinOp.eql 4 (qlen (D.list [a,b,c,d]))=true from fun a b c d=>qeq_len [a,b,c,d],cond_true]
noncomputable def l73_5:List D→List D→Option (List D):=veil fun p s=>loW (st73_5 p) s
theorem l73_5_eq:l73_5=fun p s=>loW (st73_5 p) s:=veil_eq _
noncomputable def tbl73_5:Tb:=Tb.addL tb50 73 5 S73_5.n0 (mkLp S73_5 (l73_5))
theorem ok_tbl73_5:TbOk env (tbl73_5):=addLoopQ ok_tb50 73 5 (by kernel_rfl) _ (l73_5_eq)
def S73:FunS:=⟨[⟨true,(.dat 24)⟩,⟨true,(.dat 33)⟩],[],[⟨true,(.rows 91)⟩],[]⟩
noncomputable def F73:List D→Option (List D):=liftX env tbl73_5 60 12 73 S73
noncomputable def F73_a0 (sd0:D) (sd1:D):D:=(D.agg [(D.int 1),(D.int 0),(D.int 0),(D.int 0),(D.list [])])
noncomputable def F73_a1 (sd0:D) (sd1:D):D:=(D.agg [(D.int (qint (qfld sd1 0))),(D.int (qint (qfld sd1 1))),(D.int (qint (qfld sd1 2))),(D.int (qint (qfld sd1 3))),(qfld sd1 4)])
noncomputable def F73_a2 (sd0:D) (sd1:D):D:=(D.agg [(D.int 2),(D.int 0),(D.int (qint (qfld sd0 6))),(D.int 0),(D.list [])])
noncomputable def F73_a3 (sd0:D) (sd1:D):D:=(D.agg [(D.int (qint (qnth (q50 [(D.int (qint (qfld sd0 2)))]) 0))),(D.int 0),(D.int 0),(D.int 0),(D.list [(F73_a2 sd0 sd1),(F73_a1 sd0 sd1)])])
noncomputable def F73_a4 (sd0:D) (sd1:D):D:=(D.agg [(D.int 14),(D.int 0),(D.int 0),(D.int 0),(D.list [(F73_a3 sd0 sd1),(F73_a0 sd0 sd1)])])
noncomputable def F73_a5 (sd0:D) (sd1:D):D:=(D.agg [(D.int 12),(D.int 0),(D.int 0),(D.int 0),(D.list [(F73_a3 sd0 sd1),(F73_a0 sd0 sd1)])])
noncomputable def F73_a6 (sd0:D) (sd1:D):D:=(D.agg [(D.int 1),(D.int (qint (qfld sd0 6))),(D.int 0),(D.int 0),(D.int 0),(D.int 0),(D.list [(F73_a3 sd0 sd1)]),(D.list [])])
noncomputable def F73_a7 (sd0:D) (sd1:D):D:=(D.agg [(D.int 4),(D.int 0),(D.int 0),(D.int 0),(D.list [(F73_a2 sd0 sd1),(F73_a1 sd0 sd1)])])
noncomputable def F73_a8 (sd0:D) (sd1:D):D:=(D.agg [(D.int 14),(D.int 0),(D.int 0),(D.int 0),(D.list [(F73_a7 sd0 sd1),(F73_a0 sd0 sd1)])])
noncomputable def F73_a9 (sd0:D) (sd1:D):D:=(D.agg [(D.int 14),(D.int 0),(D.int 0),(D.int 0),(D.list [(F73_a2 sd0 sd1),(F73_a1 sd0 sd1)])])
noncomputable def F73_a10 (sd0:D) (sd1:D):D:=(D.agg [(D.int 8),(D.int 0),(D.int 0),(D.int 0),(D.list [(F73_a9 sd0 sd1),(F73_a8 sd0 sd1)])])
noncomputable def F73_a11 (sd0:D) (sd1:D):D:=(D.agg [(D.int 15),(D.int 0),(D.int 0),(D.int 0),(D.list [(F73_a2 sd0 sd1),(F73_a1 sd0 sd1)])])
noncomputable def F73_a12 (sd0:D) (sd1:D):D:=(D.agg [(D.int 12),(D.int 0),(D.int 0),(D.int 0),(D.list [(F73_a2 sd0 sd1),(F73_a1 sd0 sd1)])])
noncomputable def F73_a13 (sd0:D) (sd1:D):D:=(D.agg [(D.int 3),(D.int 0),(D.int 0),(D.int 0),(D.list [(F73_a2 sd0 sd1),(F73_a1 sd0 sd1)])])
noncomputable def F73_a14 (sd0:D) (sd1:D):D:=(D.agg [(D.int 8),(D.int 0),(D.int 0),(D.int 0),(D.list [(F73_a1 sd0 sd1),(F73_a13 sd0 sd1)])])
noncomputable def F73_a15 (sd0:D) (sd1:D):D:=(D.agg [(D.int 8),(D.int 0),(D.int 0),(D.int 0),(D.list [(F73_a2 sd0 sd1),(F73_a13 sd0 sd1)])])
noncomputable def F73_a16 (sd0:D) (sd1:D):D:=(D.agg [(D.int 6),(D.int 0),(D.int 0),(D.int 0),(D.list [(F73_a15 sd0 sd1),(F73_a14 sd0 sd1)])])
noncomputable def F73_a17 (sd0:D) (sd1:D):D:=(D.agg [(D.int 14),(D.int 0),(D.int 0),(D.int 0),(D.list [(F73_a16 sd0 sd1),(F73_a0 sd0 sd1)])])
noncomputable def F73_a18 (sd0:D) (sd1:D):D:=(D.agg [(D.int 15),(D.int 0),(D.int 0),(D.int 0),(D.list [(F73_a13 sd0 sd1),(F73_a2 sd0 sd1)])])
noncomputable def F73_a19 (sd0:D) (sd1:D):D:=(D.agg [(D.int 14),(D.int 0),(D.int 0),(D.int 0),(D.list [(F73_a13 sd0 sd1),(F73_a0 sd0 sd1)])])
noncomputable def F73_a20 (sd0:D) (sd1:D):D:=(D.agg [(D.int 12),(D.int 0),(D.int 0),(D.int 0),(D.list [(F73_a13 sd0 sd1),(F73_a0 sd0 sd1)])])
theorem F73_eq (sd0:D) (sd1:D):F73 [sd0,sd1] =
 bif (qiteB (qcmp BinOp.lss (qint (qfld sd0 2)) 6) Bool.true (qcmp BinOp.gtr (qint (qfld sd0 2)) 15))then
 bif (qsome (l73_5 [(D.int (qint (qfld sd0 6))),sd1,sd0] [(D.int 0),(D.list []),(D.list [])]))then
 bif (qcmp BinOp.neq (qint (qfld sd0 2)) 15)then
 bif (qsome (q50 [(D.int (qint (qfld sd0 2)))]))then
 bif (qmem (qlen (qapp (qnth (l73_5 [(D.int (qint (qfld sd0 6))),sd1,sd0] [(D.int 0),(D.list []),(D.list [])]) 1) (D.list [(F73_a6 sd0 sd1)]))) 96)then
 some [(qapp (qnth (l73_5 [(D.int (qint (qfld sd0 6))),sd1,sd0] [(D.int 0),(D.list []),(D.list [])]) 1) (D.list [(F73_a6 sd0 sd1)]))]
 else
 none
 else
 none
 else
 some [(qnth (l73_5 [(D.int (qint (qfld sd0 6))),sd1,sd0] [(D.int 0),(D.list []),(D.list [])]) 1)]
 else
 none
 else
 bif (qcmp BinOp.eql (qint (qfld sd0 2)) 6)then
 bif (qsome (l73_5 [(D.int (qint (qfld sd0 6))),sd1,sd0] [(D.int 0),(D.list [(F73_a20 sd0 sd1),(F73_a19 sd0 sd1),(F73_a18 sd0 sd1),(F73_a17 sd0 sd1)]),(D.list [])]))then
 bif (qcmp BinOp.neq (qint (qfld sd0 2)) 15)then
 bif (qsome (q50 [(D.int (qint (qfld sd0 2)))]))then
 bif (qmem (qlen (qapp (qnth (l73_5 [(D.int (qint (qfld sd0 6))),sd1,sd0] [(D.int 0),(D.list [(F73_a20 sd0 sd1),(F73_a19 sd0 sd1),(F73_a18 sd0 sd1),(F73_a17 sd0 sd1)]),(D.list [])]) 1) (D.list [(F73_a6 sd0 sd1)]))) 96)then
 some [(qapp (qnth (l73_5 [(D.int (qint (qfld sd0 6))),sd1,sd0] [(D.int 0),(D.list [(F73_a20 sd0 sd1),(F73_a19 sd0 sd1),(F73_a18 sd0 sd1),(F73_a17 sd0 sd1)]),(D.list [])]) 1) (D.list [(F73_a6 sd0 sd1)]))]
 else
 none
 else
 none
 else
 some [(qnth (l73_5 [(D.int (qint (qfld sd0 6))),sd1,sd0] [(D.int 0),(D.list [(F73_a20 sd0 sd1),(F73_a19 sd0 sd1),(F73_a18 sd0 sd1),(F73_a17 sd0 sd1)]),(D.list [])]) 1)]
 else
 none
 else
 bif (qiteB (qcmp BinOp.eql (qint (qfld sd0 2)) 7) Bool.true (qcmp BinOp.eql (qint (qfld sd0 2)) 15))then
 bif (qsome (l73_5 [(D.int (qint (qfld sd0 6))),sd1,sd0] [(D.int 0),(D.list [(F73_a12 sd0 sd1),(F73_a8 sd0 sd1),(F73_a11 sd0 sd1),(F73_a10 sd0 sd1)]),(D.list [])]))then
 bif (qcmp BinOp.neq (qint (qfld sd0 2)) 15)then
 bif (qsome (q50 [(D.int (qint (qfld sd0 2)))]))then
 bif (qmem (qlen (qapp (qnth (l73_5 [(D.int (qint (qfld sd0 6))),sd1,sd0] [(D.int 0),(D.list [(F73_a12 sd0 sd1),(F73_a8 sd0 sd1),(F73_a11 sd0 sd1),(F73_a10 sd0 sd1)]),(D.list [])]) 1) (D.list [(F73_a6 sd0 sd1)]))) 96)then
 some [(qapp (qnth (l73_5 [(D.int (qint (qfld sd0 6))),sd1,sd0] [(D.int 0),(D.list [(F73_a12 sd0 sd1),(F73_a8 sd0 sd1),(F73_a11 sd0 sd1),(F73_a10 sd0 sd1)]),(D.list [])]) 1) (D.list [(F73_a6 sd0 sd1)]))]
 else
 none
 else
 none
 else
 some [(qnth (l73_5 [(D.int (qint (qfld sd0 6))),sd1,sd0] [(D.int 0),(D.list [(F73_a12 sd0 sd1),(F73_a8 sd0 sd1),(F73_a11 sd0 sd1),(F73_a10 sd0 sd1)]),(D.list [])]) 1)]
 else
 none
 else
 bif (qsome (q50 [(D.int (qint (qfld sd0 2)))]))then
 bif (qsome (l73_5 [(D.int (qint (qfld sd0 6))),sd1,sd0] [(D.int 0),(D.list [(F73_a5 sd0 sd1),(F73_a4 sd0 sd1),(F73_a0 sd0 sd1),(F73_a0 sd0 sd1)]),(D.list [])]))then
 bif (qcmp BinOp.neq (qint (qfld sd0 2)) 15)then
 bif (qsome (q50 [(D.int (qint (qfld sd0 2)))]))then
 bif (qmem (qlen (qapp (qnth (l73_5 [(D.int (qint (qfld sd0 6))),sd1,sd0] [(D.int 0),(D.list [(F73_a5 sd0 sd1),(F73_a4 sd0 sd1),(F73_a0 sd0 sd1),(F73_a0 sd0 sd1)]),(D.list [])]) 1) (D.list [(F73_a6 sd0 sd1)]))) 96)then
 some [(qapp (qnth (l73_5 [(D.int (qint (qfld sd0 6))),sd1,sd0] [(D.int 0),(D.list [(F73_a5 sd0 sd1),(F73_a4 sd0 sd1),(F73_a0 sd0 sd1),(F73_a0 sd0 sd1)]),(D.list [])]) 1) (D.list [(F73_a6 sd0 sd1)]))]
 else
 none
 else
 none
 else
 some [(qnth (l73_5 [(D.int (qint (qfld sd0 6))),sd1,sd0] [(D.int 0),(D.list [(F73_a5 sd0 sd1),(F73_a4 sd0 sd1),(F73_a0 sd0 sd1),(F73_a0 sd0 sd1)]),(D.list [])]) 1)]
 else
 none
 else
 none:=by
 have h:F73 [sd0,sd1] =
  bif (qiteB (qcmp BinOp.lss (qint (qfld sd0 2)) 6) Bool.true (qcmp BinOp.gtr (qint (qfld sd0 2)) 15))then
  bif (qcmp BinOp.eql 0 (qlen (D.list [])))then
  bif (qcmp BinOp.eql 0 (qlen (D.list [])))then
  bif (qsome (l73_5 [(D.int (qint (qfld sd0 6))),sd1,sd0] [(D.int 0),(D.list []),(D.list [])]))then
  bif (qcmp BinOp.neq (qint (qfld sd0 2)) 15)then
  bif (qsome (q50 [(D.int (qint (qfld sd0 2)))]))then
  bif (qcmp BinOp.eql (qlen (qnth (l73_5 [(D.int (qint (qfld sd0 6))),sd1,sd0] [(D.int 0),(D.list []),(D.list [])]) 1)) (qlen (qnth (l73_5 [(D.int (qint (qfld sd0 6))),sd1,sd0] [(D.int 0),(D.list []),(D.list [])]) 1)))then
  bif (qmem (qlen (qapp (qnth (l73_5 [(D.int (qint (qfld sd0 6))),sd1,sd0] [(D.int 0),(D.list []),(D.list [])]) 1) (D.list [(F73_a6 sd0 sd1)]))) 96)then
  bif (qcmp BinOp.eql (qlen (qapp (qnth (l73_5 [(D.int (qint (qfld sd0 6))),sd1,sd0] [(D.int 0),(D.list []),(D.list [])]) 1) (D.list [(F73_a6 sd0 sd1)]))) (qlen (qapp (qnth (l73_5 [(D.int (qint (qfld sd0 6))),sd1,sd0] [(D.int 0),(D.list []),(D.list [])]) 1) (D.list [(F73_a6 sd0 sd1)]))))then
  some [(qapp (qnth (l73_5 [(D.int (qint (qfld sd0 6))),sd1,sd0] [(D.int 0),(D.list []),(D.list [])]) 1) (D.list [(F73_a6 sd0 sd1)]))]
  else
  none
  else
  none
  else
  none
  else
  none
  else
  bif (qcmp BinOp.eql (qlen (qnth (l73_5 [(D.int (qint (qfld sd0 6))),sd1,sd0] [(D.int 0),(D.list []),(D.list [])]) 1)) (qlen (qnth (l73_5 [(D.int (qint (qfld sd0 6))),sd1,sd0] [(D.int 0),(D.list []),(D.list [])]) 1)))then
  some [(qnth (l73_5 [(D.int (qint (qfld sd0 6))),sd1,sd0] [(D.int 0),(D.list []),(D.list [])]) 1)]
  else
  none
  else
  none
  else
  none
  else
  none
  else
  bif (qcmp BinOp.eql (qint (qfld sd0 2)) 6)then
  bif (qcmp BinOp.eql 0 (qlen (D.list [])))then
  bif (qcmp BinOp.eql 4 (qlen (D.list [(F73_a20 sd0 sd1),(F73_a19 sd0 sd1),(F73_a18 sd0 sd1),(F73_a17 sd0 sd1)])))then
  bif (qsome (l73_5 [(D.int (qint (qfld sd0 6))),sd1,sd0] [(D.int 0),(D.list [(F73_a20 sd0 sd1),(F73_a19 sd0 sd1),(F73_a18 sd0 sd1),(F73_a17 sd0 sd1)]),(D.list [])]))then
  bif (qcmp BinOp.neq (qint (qfld sd0 2)) 15)then
  bif (qsome (q50 [(D.int (qint (qfld sd0 2)))]))then
  bif (qcmp BinOp.eql (qlen (qnth (l73_5 [(D.int (qint (qfld sd0 6))),sd1,sd0] [(D.int 0),(D.list [(F73_a20 sd0 sd1),(F73_a19 sd0 sd1),(F73_a18 sd0 sd1),(F73_a17 sd0 sd1)]),(D.list [])]) 1)) (qlen (qnth (l73_5 [(D.int (qint (qfld sd0 6))),sd1,sd0] [(D.int 0),(D.list [(F73_a20 sd0 sd1),(F73_a19 sd0 sd1),(F73_a18 sd0 sd1),(F73_a17 sd0 sd1)]),(D.list [])]) 1)))then
  bif (qmem (qlen (qapp (qnth (l73_5 [(D.int (qint (qfld sd0 6))),sd1,sd0] [(D.int 0),(D.list [(F73_a20 sd0 sd1),(F73_a19 sd0 sd1),(F73_a18 sd0 sd1),(F73_a17 sd0 sd1)]),(D.list [])]) 1) (D.list [(F73_a6 sd0 sd1)]))) 96)then
  bif (qcmp BinOp.eql (qlen (qapp (qnth (l73_5 [(D.int (qint (qfld sd0 6))),sd1,sd0] [(D.int 0),(D.list [(F73_a20 sd0 sd1),(F73_a19 sd0 sd1),(F73_a18 sd0 sd1),(F73_a17 sd0 sd1)]),(D.list [])]) 1) (D.list [(F73_a6 sd0 sd1)]))) (qlen (qapp (qnth (l73_5 [(D.int (qint (qfld sd0 6))),sd1,sd0] [(D.int 0),(D.list [(F73_a20 sd0 sd1),(F73_a19 sd0 sd1),(F73_a18 sd0 sd1),(F73_a17 sd0 sd1)]),(D.list [])]) 1) (D.list [(F73_a6 sd0 sd1)]))))then
  some [(qapp (qnth (l73_5 [(D.int (qint (qfld sd0 6))),sd1,sd0] [(D.int 0),(D.list [(F73_a20 sd0 sd1),(F73_a19 sd0 sd1),(F73_a18 sd0 sd1),(F73_a17 sd0 sd1)]),(D.list [])]) 1) (D.list [(F73_a6 sd0 sd1)]))]
  else
  none
  else
  none
  else
  none
  else
  none
  else
  bif (qcmp BinOp.eql (qlen (qnth (l73_5 [(D.int (qint (qfld sd0 6))),sd1,sd0] [(D.int 0),(D.list [(F73_a20 sd0 sd1),(F73_a19 sd0 sd1),(F73_a18 sd0 sd1),(F73_a17 sd0 sd1)]),(D.list [])]) 1)) (qlen (qnth (l73_5 [(D.int (qint (qfld sd0 6))),sd1,sd0] [(D.int 0),(D.list [(F73_a20 sd0 sd1),(F73_a19 sd0 sd1),(F73_a18 sd0 sd1),(F73_a17 sd0 sd1)]),(D.list [])]) 1)))then
  some [(qnth (l73_5 [(D.int (qint (qfld sd0 6))),sd1,sd0] [(D.int 0),(D.list [(F73_a20 sd0 sd1),(F73_a19 sd0 sd1),(F73_a18 sd0 sd1),(F73_a17 sd0 sd1)]),(D.list [])]) 1)]
  else
  none
  else
  none
  else
  none
  else
  none
  else
  bif (qiteB (qcmp BinOp.eql (qint (qfld sd0 2)) 7) Bool.true (qcmp BinOp.eql (qint (qfld sd0 2)) 15))then
  bif (qcmp BinOp.eql 0 (qlen (D.list [])))then
  bif (qcmp BinOp.eql 4 (qlen (D.list [(F73_a12 sd0 sd1),(F73_a8 sd0 sd1),(F73_a11 sd0 sd1),(F73_a10 sd0 sd1)])))then
  bif (qsome (l73_5 [(D.int (qint (qfld sd0 6))),sd1,sd0] [(D.int 0),(D.list [(F73_a12 sd0 sd1),(F73_a8 sd0 sd1),(F73_a11 sd0 sd1),(F73_a10 sd0 sd1)]),(D.list [])]))then
  bif (qcmp BinOp.neq (qint (qfld sd0 2)) 15)then
  bif (qsome (q50 [(D.int (qint (qfld sd0 2)))]))then
  bif (qcmp BinOp.eql (qlen (qnth (l73_5 [(D.int (qint (qfld sd0 6))),sd1,sd0] [(D.int 0),(D.list [(F73_a12 sd0 sd1),(F73_a8 sd0 sd1),(F73_a11 sd0 sd1),(F73_a10 sd0 sd1)]),(D.list [])]) 1)) (qlen (qnth (l73_5 [(D.int (qint (qfld sd0 6))),sd1,sd0] [(D.int 0),(D.list [(F73_a12 sd0 sd1),(F73_a8 sd0 sd1),(F73_a11 sd0 sd1),(F73_a10 sd0 sd1)]),(D.list [])]) 1)))then
  bif (qmem (qlen (qapp (qnth (l73_5 [(D.int (qint (qfld sd0 6))),sd1,sd0] [(D.int 0),(D.list [(F73_a12 sd0 sd1),(F73_a8 sd0 sd1),(F73_a11 sd0 sd1),(F73_a10 sd0 sd1)]),(D.list [])]) 1) (D.list [(F73_a6 sd0 sd1)]))) 96)then
  bif (qcmp BinOp.eql (qlen (qapp (qnth (l73_5 [(D.int (qint (qfld sd0 6))),sd1,sd0] [(D.int 0),(D.list [(F73_a12 sd0 sd1),(F73_a8 sd0 sd1),(F73_a11 sd0 sd1),(F73_a10 sd0 sd1)]),(D.list [])]) 1) (D.list [(F73_a6 sd0 sd1)]))) (qlen (qapp (qnth (l73_5 [(D.int (qint (qfld sd0 6))),sd1,sd0] [(D.int 0),(D.list [(F73_a12 sd0 sd1),(F73_a8 sd0 sd1),(F73_a11 sd0 sd1),(F73_a10 sd0 sd1)]),(D.list [])]) 1) (D.list [(F73_a6 sd0 sd1)]))))then
  some [(qapp (qnth (l73_5 [(D.int (qint (qfld sd0 6))),sd1,sd0] [(D.int 0),(D.list [(F73_a12 sd0 sd1),(F73_a8 sd0 sd1),(F73_a11 sd0 sd1),(F73_a10 sd0 sd1)]),(D.list [])]) 1) (D.list [(F73_a6 sd0 sd1)]))]
  else
  none
  else
  none
  else
  none
  else
  none
  else
  bif (qcmp BinOp.eql (qlen (qnth (l73_5 [(D.int (qint (qfld sd0 6))),sd1,sd0] [(D.int 0),(D.list [(F73_a12 sd0 sd1),(F73_a8 sd0 sd1),(F73_a11 sd0 sd1),(F73_a10 sd0 sd1)]),(D.list [])]) 1)) (qlen (qnth (l73_5 [(D.int (qint (qfld sd0 6))),sd1,sd0] [(D.int 0),(D.list [(F73_a12 sd0 sd1),(F73_a8 sd0 sd1),(F73_a11 sd0 sd1),(F73_a10 sd0 sd1)]),(D.list [])]) 1)))then
  some [(qnth (l73_5 [(D.int (qint (qfld sd0 6))),sd1,sd0] [(D.int 0),(D.list [(F73_a12 sd0 sd1),(F73_a8 sd0 sd1),(F73_a11 sd0 sd1),(F73_a10 sd0 sd1)]),(D.list [])]) 1)]
  else
  none
  else
  none
  else
  none
  else
  none
  else
  bif (qsome (q50 [(D.int (qint (qfld sd0 2)))]))then
  bif (qcmp BinOp.eql 0 (qlen (D.list [])))then
  bif (qcmp BinOp.eql 4 (qlen (D.list [(F73_a5 sd0 sd1),(F73_a4 sd0 sd1),(F73_a0 sd0 sd1),(F73_a0 sd0 sd1)])))then
  bif (qsome (l73_5 [(D.int (qint (qfld sd0 6))),sd1,sd0] [(D.int 0),(D.list [(F73_a5 sd0 sd1),(F73_a4 sd0 sd1),(F73_a0 sd0 sd1),(F73_a0 sd0 sd1)]),(D.list [])]))then
  bif (qcmp BinOp.neq (qint (qfld sd0 2)) 15)then
  bif (qsome (q50 [(D.int (qint (qfld sd0 2)))]))then
  bif (qcmp BinOp.eql (qlen (qnth (l73_5 [(D.int (qint (qfld sd0 6))),sd1,sd0] [(D.int 0),(D.list [(F73_a5 sd0 sd1),(F73_a4 sd0 sd1),(F73_a0 sd0 sd1),(F73_a0 sd0 sd1)]),(D.list [])]) 1)) (qlen (qnth (l73_5 [(D.int (qint (qfld sd0 6))),sd1,sd0] [(D.int 0),(D.list [(F73_a5 sd0 sd1),(F73_a4 sd0 sd1),(F73_a0 sd0 sd1),(F73_a0 sd0 sd1)]),(D.list [])]) 1)))then
  bif (qmem (qlen (qapp (qnth (l73_5 [(D.int (qint (qfld sd0 6))),sd1,sd0] [(D.int 0),(D.list [(F73_a5 sd0 sd1),(F73_a4 sd0 sd1),(F73_a0 sd0 sd1),(F73_a0 sd0 sd1)]),(D.list [])]) 1) (D.list [(F73_a6 sd0 sd1)]))) 96)then
  bif (qcmp BinOp.eql (qlen (qapp (qnth (l73_5 [(D.int (qint (qfld sd0 6))),sd1,sd0] [(D.int 0),(D.list [(F73_a5 sd0 sd1),(F73_a4 sd0 sd1),(F73_a0 sd0 sd1),(F73_a0 sd0 sd1)]),(D.list [])]) 1) (D.list [(F73_a6 sd0 sd1)]))) (qlen (qapp (qnth (l73_5 [(D.int (qint (qfld sd0 6))),sd1,sd0] [(D.int 0),(D.list [(F73_a5 sd0 sd1),(F73_a4 sd0 sd1),(F73_a0 sd0 sd1),(F73_a0 sd0 sd1)]),(D.list [])]) 1) (D.list [(F73_a6 sd0 sd1)]))))then
  some [(qapp (qnth (l73_5 [(D.int (qint (qfld sd0 6))),sd1,sd0] [(D.int 0),(D.list [(F73_a5 sd0 sd1),(F73_a4 sd0 sd1),(F73_a0 sd0 sd1),(F73_a0 sd0 sd1)]),(D.list [])]) 1) (D.list [(F73_a6 sd0 sd1)]))]
  else
  none
  else
  none
  else
  none
  else
  none
  else
  bif (qcmp BinOp.eql (qlen (qnth (l73_5 [(D.int (qint (qfld sd0 6))),sd1,sd0] [(D.int 0),(D.list [(F73_a5 sd0 sd1),(F73_a4 sd0 sd1),(F73_a0 sd0 sd1),(F73_a0 sd0 sd1)]),(D.list [])]) 1)) (qlen (qnth (l73_5 [(D.int (qint (qfld sd0 6))),sd1,sd0] [(D.int 0),(D.list [(F73_a5 sd0 sd1),(F73_a4 sd0 sd1),(F73_a0 sd0 sd1),(F73_a0 sd0 sd1)]),(D.list [])]) 1)))then
  some [(qnth (l73_5 [(D.int (qint (qfld sd0 6))),sd1,sd0] [(D.int 0),(D.list [(F73_a5 sd0 sd1),(F73_a4 sd0 sd1),(F73_a0 sd0 sd1),(F73_a0 sd0 sd1)]),(D.list [])]) 1)]
  else
  none
  else
  none
  else
  none
  else
  none
  else
  none:=by kernel_rfl
 rw[h];simp only[qeqD_self,qeqI_self,qeq_len,show qcmp BinOp.eql 0 (qlen (D.list []))=true from qeq_len [],show∀a,qcmp BinOp.eql 1 (qlen (D.list [a]))=true from fun a=>qeq_len [a],show∀a b,qcmp BinOp.eql 2 (qlen (D.list [a,b]))=true from fun a b=>qeq_len [a,b],show∀a b c,qcmp BinOp.eql 3 (qlen (D.list [a,b,c]))=true from fun a b c=>qeq_len [a,b,c],show∀a b c d,qcmp BinOp.eql 4 (qlen (D.list [a,b,c,d]))=true from fun a b c d=>qeq_len [a,b,c,d],cond_true]
noncomputable def q73:List D→Option (List D):=veil (F73)
theorem q73_eq:q73=F73:=veil_eq _
noncomputable def tb73:Tb:=Tb.addF tbl73_5 73 S73 (q73)
theorem ok_tb73:TbOk env (tb73):=addFunF ok_tbl73_5 73 (by kernel_rfl) _ (q73_eq)
def S41:FunS:=⟨[⟨true,(.dat 24)⟩],[],[⟨true,(.rows 91)⟩],[]⟩
noncomputable def F41:List D→Option (List D):=liftX env tb73 60 12 41 S41
theorem F41_eq (sd0:D):F41 [sd0] =
 bif (qcmp BinOp.neq (qint (qfld sd0 3)) 0)then
 bif (qcmp BinOp.eql (qint (qfld sd0 2)) 5)then
 some [(D.list [(D.agg [(D.int 1),(D.int (qint (qfld sd0 6))),(D.int 0),(D.int 0),(D.int 0),(D.int 0),(D.list [(D.agg [(D.int 1),(D.int (qint (qfld sd0 1))),(D.int 0),(D.int 0),(D.list [])])]),(D.list [])])])]
 else
 bif (qiteB (qcmp BinOp.geq (qint (qfld sd0 2)) 6) (qcmp BinOp.leq (qint (qfld sd0 2)) 15) Bool.false)then
 bif (qsome (q73 [sd0,(D.agg [(D.int 1),(D.int (qint (qfld sd0 1))),(D.int 0),(D.int 0),(D.list [])])]))then
 some [(qnth (q73 [sd0,(D.agg [(D.int 1),(D.int (qint (qfld sd0 1))),(D.int 0),(D.int 0),(D.list [])])]) 0)]
 else
 none
 else
 bif (qcmp BinOp.eql (qint (qfld sd0 2)) 16)then
 some [(D.list [(D.agg [(D.int 1),(D.int (qint (qfld sd0 6))),(D.int 0),(D.int 0),(D.int 0),(D.int 0),(D.list [(D.agg [(D.int 18),(D.int 0),(D.int 0),(D.int (qint (qfld sd0 4))),(D.list [(D.agg [(D.int 3),(D.int 0),(D.int 0),(D.int 0),(D.list [(D.agg [(D.int 2),(D.int 0),(D.int (qint (qfld sd0 7))),(D.int 0),(D.list [])]),(D.agg [(D.int 1),(D.int (qint (qfld sd0 1))),(D.int 0),(D.int 0),(D.list [])])])])])])]),(D.list [])])])]
 else
 bif (qcmp BinOp.eql (qint (qfld sd0 2)) 17)then
 some [(D.list [(D.agg [(D.int 1),(D.int (qint (qfld sd0 6))),(D.int 0),(D.int 0),(D.int 0),(D.int 0),(D.list [(D.agg [(D.int 19),(D.int 0),(D.int 0),(D.int (qint (qfld sd0 4))),(D.list [(D.agg [(D.int 18),(D.int 0),(D.int 0),(D.int (qint (qfld sd0 4))),(D.list [(D.agg [(D.int 3),(D.int 0),(D.int 0),(D.int 0),(D.list [(D.agg [(D.int 2),(D.int 0),(D.int (qint (qfld sd0 7))),(D.int 0),(D.list [])]),(D.agg [(D.int 1),(D.int (qint (qfld sd0 1))),(D.int 0),(D.int 0),(D.list [])])])])])])])])]),(D.list [])])])]
 else
 bif (qcmp BinOp.eql (qint (qfld sd0 2)) 18)then
 some [(D.list [(D.agg [(D.int 2),(D.int 0),(D.int (qint (qfld sd0 4))),(D.int 0),(D.int 0),(D.int 0),(D.list [(D.agg [(D.int 3),(D.int 0),(D.int 0),(D.int 0),(D.list [(D.agg [(D.int 2),(D.int 0),(D.int (qint (qfld sd0 7))),(D.int 0),(D.list [])]),(D.agg [(D.int 1),(D.int (qint (qfld sd0 1))),(D.int 0),(D.int 0),(D.list [])])])]),(D.agg [(D.int 2),(D.int 0),(D.int (qint (qfld sd0 6))),(D.int 0),(D.list [])])]),(D.list [])])])]
 else
 bif (qcmp BinOp.eql (qint (qfld sd0 2)) 19)then
 some [(D.list [(D.agg [(D.int 1),(D.int (qint (qfld sd0 6))),(D.int 0),(D.int 0),(D.int 0),(D.int 0),(D.list [(D.agg [(D.int 3),(D.int 0),(D.int 0),(D.int 0),(D.list [(D.agg [(D.int 2),(D.int 0),(D.int (qint (qfld sd0 7))),(D.int 0),(D.list [])]),(D.agg [(D.int 1),(D.int (qint (qfld sd0 1))),(D.int 0),(D.int 0),(D.list [])])])])]),(D.list [])])])]
 else
 bif (qcmp BinOp.eql (qint (qfld sd0 2)) 25)then
 bif (qsome (q76 [(D.int (qint (qfld sd0 5)))]))then
 some [(D.list [(D.agg [(D.int 1),(D.int (qint (qfld sd0 6))),(D.int 0),(D.int 0),(D.int 0),(D.int 0),(D.list [(D.agg [(D.int (qint (qfld (qnth (q76 [(D.int (qint (qfld sd0 5)))]) 0) 0))),(D.int (qint (qfld (qnth (q76 [(D.int (qint (qfld sd0 5)))]) 0) 1))),(D.int (qint (qfld (qnth (q76 [(D.int (qint (qfld sd0 5)))]) 0) 2))),(D.int (qint (qfld (qnth (q76 [(D.int (qint (qfld sd0 5)))]) 0) 3))),(qfld (qnth (q76 [(D.int (qint (qfld sd0 5)))]) 0) 4)])]),(D.list [])])])]
 else
 none
 else
 bif (qcmp BinOp.eql (qint (qfld sd0 2)) 26)then
 some [(D.list [(D.agg [(D.int 3),(D.int (qint (qfld sd0 6))),(D.int 0),(D.int 0),(D.int 0),(D.int 0),(D.list []),(D.list [])])])]
 else
 bif (qcmp BinOp.eql (qint (qfld sd0 2)) 27)then
 some [(D.list [(D.agg [(D.int 4),(D.int 0),(D.int 0),(D.int 0),(D.int 0),(D.int 0),(D.list [(D.agg [(D.int 2),(D.int 0),(D.int (qint (qfld sd0 6))),(D.int 0),(D.list [])])]),(D.list [])])])]
 else
 bif (qiteB (qiteB (qiteB (qiteB (qcmp BinOp.eql (qint (qfld sd0 2)) 3) Bool.true (qcmp BinOp.eql (qint (qfld sd0 2)) 4)) Bool.true (qcmp BinOp.eql (qint (qfld sd0 2)) 2)) Bool.true (qcmp BinOp.eql (qint (qfld sd0 2)) 23)) Bool.true (qcmp BinOp.eql (qint (qfld sd0 2)) 24))then
 bif (qsome (q77 [sd0]))then
 some [(qnth (q77 [sd0]) 0)]
 else
 none
 else
 some [(D.list [])]
 else
 bif (qcmp BinOp.eql (qint (qfld sd0 2)) 5)then
 some [(D.list [(D.agg [(D.int 1),(D.int (qint (qfld sd0 6))),(D.int 0),(D.int 0),(D.int 0),(D.int 0),(D.list [(D.agg [(D.int 2),(D.int 0),(D.int (qint (qfld sd0 7))),(D.int 0),(D.list [])])]),(D.list [])])])]
 else
 bif (qiteB (qcmp BinOp.geq (qint (qfld sd0 2)) 6) (qcmp BinOp.leq (qint (qfld sd0 2)) 15) Bool.false)then
 bif (qsome (q73 [sd0,(D.agg [(D.int 2),(D.int 0),(D.int (qint (qfld sd0 7))),(D.int 0),(D.list [])])]))then
 some [(qnth (q73 [sd0,(D.agg [(D.int 2),(D.int 0),(D.int (qint (qfld sd0 7))),(D.int 0),(D.list [])])]) 0)]
 else
 none
 else
 bif (qcmp BinOp.eql (qint (qfld sd0 2)) 16)then
 some [(D.list [(D.agg [(D.int 1),(D.int (qint (qfld sd0 6))),(D.int 0),(D.int 0),(D.int 0),(D.int 0),(D.list [(D.agg [(D.int 18),(D.int 0),(D.int 0),(D.int (qint (qfld sd0 4))),(D.list [(D.agg [(D.int 3),(D.int 0),(D.int 0),(D.int 0),(D.list [(D.agg [(D.int 2),(D.int 0),(D.int (qint (qfld sd0 7))),(D.int 0),(D.list [])]),(D.agg [(D.int 1),(D.int (qint (qfld sd0 1))),(D.int 0),(D.int 0),(D.list [])])])])])])]),(D.list [])])])]
 else
 bif (qcmp BinOp.eql (qint (qfld sd0 2)) 17)then
 some [(D.list [(D.agg [(D.int 1),(D.int (qint (qfld sd0 6))),(D.int 0),(D.int 0),(D.int 0),(D.int 0),(D.list [(D.agg [(D.int 19),(D.int 0),(D.int 0),(D.int (qint (qfld sd0 4))),(D.list [(D.agg [(D.int 18),(D.int 0),(D.int 0),(D.int (qint (qfld sd0 4))),(D.list [(D.agg [(D.int 3),(D.int 0),(D.int 0),(D.int 0),(D.list [(D.agg [(D.int 2),(D.int 0),(D.int (qint (qfld sd0 7))),(D.int 0),(D.list [])]),(D.agg [(D.int 1),(D.int (qint (qfld sd0 1))),(D.int 0),(D.int 0),(D.list [])])])])])])])])]),(D.list [])])])]
 else
 bif (qcmp BinOp.eql (qint (qfld sd0 2)) 18)then
 some [(D.list [(D.agg [(D.int 2),(D.int 0),(D.int (qint (qfld sd0 4))),(D.int 0),(D.int 0),(D.int 0),(D.list [(D.agg [(D.int 3),(D.int 0),(D.int 0),(D.int 0),(D.list [(D.agg [(D.int 2),(D.int 0),(D.int (qint (qfld sd0 7))),(D.int 0),(D.list [])]),(D.agg [(D.int 1),(D.int (qint (qfld sd0 1))),(D.int 0),(D.int 0),(D.list [])])])]),(D.agg [(D.int 2),(D.int 0),(D.int (qint (qfld sd0 6))),(D.int 0),(D.list [])])]),(D.list [])])])]
 else
 bif (qcmp BinOp.eql (qint (qfld sd0 2)) 19)then
 some [(D.list [(D.agg [(D.int 1),(D.int (qint (qfld sd0 6))),(D.int 0),(D.int 0),(D.int 0),(D.int 0),(D.list [(D.agg [(D.int 3),(D.int 0),(D.int 0),(D.int 0),(D.list [(D.agg [(D.int 2),(D.int 0),(D.int (qint (qfld sd0 7))),(D.int 0),(D.list [])]),(D.agg [(D.int 1),(D.int (qint (qfld sd0 1))),(D.int 0),(D.int 0),(D.list [])])])])]),(D.list [])])])]
 else
 bif (qcmp BinOp.eql (qint (qfld sd0 2)) 25)then
 bif (qsome (q76 [(D.int (qint (qfld sd0 5)))]))then
 some [(D.list [(D.agg [(D.int 1),(D.int (qint (qfld sd0 6))),(D.int 0),(D.int 0),(D.int 0),(D.int 0),(D.list [(D.agg [(D.int (qint (qfld (qnth (q76 [(D.int (qint (qfld sd0 5)))]) 0) 0))),(D.int (qint (qfld (qnth (q76 [(D.int (qint (qfld sd0 5)))]) 0) 1))),(D.int (qint (qfld (qnth (q76 [(D.int (qint (qfld sd0 5)))]) 0) 2))),(D.int (qint (qfld (qnth (q76 [(D.int (qint (qfld sd0 5)))]) 0) 3))),(qfld (qnth (q76 [(D.int (qint (qfld sd0 5)))]) 0) 4)])]),(D.list [])])])]
 else
 none
 else
 bif (qcmp BinOp.eql (qint (qfld sd0 2)) 26)then
 some [(D.list [(D.agg [(D.int 3),(D.int (qint (qfld sd0 6))),(D.int 0),(D.int 0),(D.int 0),(D.int 0),(D.list []),(D.list [])])])]
 else
 bif (qcmp BinOp.eql (qint (qfld sd0 2)) 27)then
 some [(D.list [(D.agg [(D.int 4),(D.int 0),(D.int 0),(D.int 0),(D.int 0),(D.int 0),(D.list [(D.agg [(D.int 2),(D.int 0),(D.int (qint (qfld sd0 6))),(D.int 0),(D.list [])])]),(D.list [])])])]
 else
 bif (qiteB (qiteB (qiteB (qiteB (qcmp BinOp.eql (qint (qfld sd0 2)) 3) Bool.true (qcmp BinOp.eql (qint (qfld sd0 2)) 4)) Bool.true (qcmp BinOp.eql (qint (qfld sd0 2)) 2)) Bool.true (qcmp BinOp.eql (qint (qfld sd0 2)) 23)) Bool.true (qcmp BinOp.eql (qint (qfld sd0 2)) 24))then
 bif (qsome (q77 [sd0]))then
 some [(qnth (q77 [sd0]) 0)]
 else
 none
 else
 some [(D.list [])]:=by kernel_rfl
noncomputable def q41:List D→Option (List D):=veil (F41)
theorem q41_eq:q41=F41:=veil_eq _
noncomputable def tb41:Tb:=Tb.addF tb73 41 S41 (q41)
theorem ok_tb41:TbOk env (tb41):=addFunF ok_tb73 41 (by kernel_rfl) _ (q41_eq)
def S8:FunS:=⟨[⟨true,(.dat 24)⟩,⟨true,(.int .i64)⟩],[],[⟨true,(.tup [(.rows 91),(.int .i64)])⟩],[]⟩
noncomputable def F8:List D→Option (List D):=liftX env tb41 60 12 8 S8
noncomputable def q8:List D→Option (List D):=veil (F8)
theorem q8_eq:q8=F8:=veil_eq _
noncomputable def tb8:Tb:=Tb.addF tb41 8 S8 (q8)
theorem ok_tb8:TbOk env (tb8):=addFunF ok_tb41 8 (by kernel_rfl) _ (q8_eq)
end Go.Proofs.YtgklbalcneepoaaGreatDoor
open Go Go.AM
namespace Go.Proofs.YtgklbalcneepoaaGreatDoor
set_option maxRecDepth 100000
set_option linter.unusedSimpArgs false
set_option linter.unusedVariables false
def S78_4:LoopS:=⟨0,[⟨false,(.rows 3)⟩,⟨false,(.rows 3)⟩,uF,uF,⟨false,(.lit (.bool false))⟩,⟨true,(.int .i64)⟩,uF,uF,uF,uF,uF,uF,uF,uF,uF,uF,uF,uF,uF,uF,uF,uF,uF,uF,uF,uF],[],[⟨0,0,[⟨false,(.rows 3)⟩,⟨false,(.rows 3)⟩,uT,uT,⟨true,(.lit (.bool false))⟩,uT,uT,uT,uT,uT,uT,uT,uT,uT,uT,uT,uT,uT,uT,uT,uT,uT,uT,uT,uT,uT],[]⟩,⟨1,0,[⟨false,(.rows 3)⟩,⟨false,(.rows 3)⟩,uT,uT,⟨true,(.lit (.bool false))⟩,uT,uT,uT,uT,uT,uT,uT,uT,uT,uT,uT,uT,uT,uT,uT,uT,uT,uT,uT,uT,uT],[]⟩]⟩
noncomputable def st78_4 (p s:List D):Option (Sum (List D) (List D)):=stepQX env tb8 60 12 78 (loopC 78 4) S78_4 p s
theorem st78_4_eq (pd0:D) (pd1:D) (sn0:Int):st78_4 [pd0,pd1] [(D.int sn0)] =
 bif (qcmp BinOp.lss sn0 (qlen pd0))then
 bif (qinb pd0 sn0)then
 bif (qinb pd1 sn0)then
 bif (qcmp BinOp.neq (qint (qget pd0 sn0)) (qint (qget pd1 sn0)))then
 some (Sum.inr [(D.int 1)])
 else
 some (Sum.inl [(D.int (qbin BinOp.add IntKind.i64 sn0 1))])
 else
 none
 else
 none
 else
 some (Sum.inr [(D.int 0)]):=by
 have h:st78_4 [pd0,pd1] [(D.int sn0)] =
  bif (qcmp BinOp.lss sn0 (qlen pd0))then
  bif (qinb pd0 sn0)then
  bif (qinb pd1 sn0)then
  bif (qcmp BinOp.neq (qint (qget pd0 sn0)) (qint (qget pd1 sn0)))then
  bif (qeqD pd0 pd0)then
  bif (qeqD pd1 pd1)then
  some (Sum.inr [(D.int 1)])
  else
  none
  else
  none
  else
  bif (qeqD pd0 pd0)then
  bif (qeqD pd1 pd1)then
  some (Sum.inl [(D.int (qbin BinOp.add IntKind.i64 sn0 1))])
  else
  none
  else
  none
  else
  none
  else
  none
  else
  bif (qeqD pd0 pd0)then
  bif (qeqD pd1 pd1)then
  some (Sum.inr [(D.int 0)])
  else
  none
  else
  none:=by kernel_rfl
 rw[h];simp only[qeqD_self,qeqI_self,qeq_len,show qcmp BinOp.eql 0 (qlen (D.list []))=true from qeq_len [],show∀a,qcmp BinOp.eql 1 (qlen (D.list [a]))=true from fun a=>qeq_len [a],show∀a b,qcmp BinOp.eql 2 (qlen (D.list [a,b]))=true from fun a b=>qeq_len [a,b],show∀a b c,qcmp BinOp.eql 3 (qlen (D.list [a,b,c]))=true from fun a b c=>qeq_len [a,b,c],show∀a b c d,qcmp BinOp.eql 4 (qlen (D.list [a,b,c,d]))=true from fun a b c d=>qeq_len [a,b,c,d],cond_true]
noncomputable def l78_4:List D→List D→Option (List D):=veil fun p s=>loW (st78_4 p) s
theorem l78_4_eq:l78_4=fun p s=>loW (st78_4 p) s:=veil_eq _
noncomputable def tbl78_4:Tb:=Tb.addL tb8 78 4 S78_4.n0 (mkLp S78_4 (l78_4))
theorem ok_tbl78_4:TbOk env (tbl78_4):=addLoopQ ok_tb8 78 4 (by kernel_rfl) _ (l78_4_eq)
def S78:FunS:=⟨[⟨true,(.rows 3)⟩,⟨true,(.rows 3)⟩],[],[⟨true, .bool⟩],[]⟩
noncomputable def F78:List D→Option (List D):=liftX env tbl78_4 60 12 78 S78
theorem F78_eq (sd0:D) (sd1:D):F78 [sd0,sd1] =
 bif (qcmp BinOp.neq (qlen sd0) (qlen sd1))then
 some [(D.bool Bool.false)]
 else
 bif (qsome (l78_4 [sd0,sd1] [(D.int 0)]))then
 bif (qcmp BinOp.eql (qint (qnth (l78_4 [sd0,sd1] [(D.int 0)]) 0)) 0)then
 some [(D.bool Bool.true)]
 else
 some [(D.bool Bool.false)]
 else
 none:=by kernel_rfl
noncomputable def q78:List D→Option (List D):=veil (F78)
theorem q78_eq:q78=F78:=veil_eq _
noncomputable def tb78:Tb:=Tb.addF tbl78_4 78 S78 (q78)
theorem ok_tb78:TbOk env (tb78):=addFunF ok_tbl78_4 78 (by kernel_rfl) _ (q78_eq)
def S15:FunS:=⟨[⟨true,(.dat 33)⟩,⟨true,(.dat 33)⟩],[],[⟨true, .bool⟩],[]⟩
noncomputable def tbR15 (Q:List D→Option (List D)):Tb:=Tb.addF tb78 15 S15 Q
theorem ok_tbR15 (Q:List D→Option (List D)) (hQ:SoundF env.P 15 S15 Q):TbOk env (tbR15 Q):=TbOk.addF ok_tb78 (by kernel_rfl) hQ
def S15_4:LoopS:=⟨0,[uF,uF,⟨false,(.ptr 0 0)⟩,⟨false,(.ptr 1 0)⟩,⟨false,(.lit (.bool false))⟩,⟨true,(.int .i64)⟩,uF,uF,uF,uF,uF,uF,uF,uF,uF,uF,uF,uF,uF,uF,uF,uF,uF,uF,uF,uF,uF,uF,uF,uF,uF,uF,uF,uF,uF,uF,uF,uF,uF,uF,uF,uF,uF,uF,uF,uF,uF,uF,uF,uF,uF,uF,uF,uF,uF,uF,uF,uF,uF,uF],[(.dat false 33),(.dat false 33)],[⟨0,0,[uT,uT,uT,uT,⟨true,(.lit (.bool false))⟩,uT,uT,uT,uT,uT,uT,uT,uT,uT,uT,uT,uT,uT,uT,uT,uT,uT,uT,uT,uT,uT,uT,uT,uT,uT,uT,uT,uT,uT,uT,uT,uT,uT,uT,uT,uT,uT,uT,uT,uT,uT,uT,uT,uT,uT,uT,uT,uT,uT,uT,uT,uT,uT,uT,uT],[(.dat false 33),(.dat false 33)]⟩,⟨1,0,[uT,uT,uT,uT,⟨true,(.lit (.bool false))⟩,uT,uT,uT,uT,uT,uT,uT,uT,uT,uT,uT,uT,uT,uT,uT,uT,uT,uT,uT,uT,uT,uT,uT,uT,uT,uT,uT,uT,uT,uT,uT,uT,uT,uT,uT,uT,uT,uT,uT,uT,uT,uT,uT,uT,uT,uT,uT,uT,uT,uT,uT,uT,uT,uT,uT],[(.dat false 33),(.dat false 33)]⟩]⟩
noncomputable def st15_4 (Q:List D→Option (List D)) (p s:List D):Option (Sum (List D) (List D)):=stepQX env (tbR15 Q) 60 12 15 (loopC 15 4) S15_4 p s
theorem st15_4_eq (Q:List D→Option (List D)) (pd0:D) (pd1:D) (sn0:Int):st15_4 Q [pd0,pd1] [(D.int sn0)] =
 bif (qcmp BinOp.lss sn0 (qlen (qfld pd1 4)))then
 bif (qinb (qfld pd1 4) sn0)then
 bif (qinb (qfld pd0 4) sn0)then
 bif (qsome (Q [(qget (qfld pd1 4) sn0),(qget (qfld pd0 4) sn0)]))then
 bif (qnot (qbool (qnth (Q [(qget (qfld pd1 4) sn0),(qget (qfld pd0 4) sn0)]) 0)))then
 some (Sum.inr [(D.int 1)])
 else
 some (Sum.inl [(D.int (qbin BinOp.add IntKind.i64 sn0 1))])
 else
 none
 else
 none
 else
 none
 else
 some (Sum.inr [(D.int 0)]):=by
 have h:st15_4 Q [pd0,pd1] [(D.int sn0)] =
  bif (qcmp BinOp.lss sn0 (qlen (qfld pd1 4)))then
  bif (qinb (qfld pd1 4) sn0)then
  bif (qinb (qfld pd0 4) sn0)then
  bif (qsome (Q [(qget (qfld pd1 4) sn0),(qget (qfld pd0 4) sn0)]))then
  bif (qnot (qbool (qnth (Q [(qget (qfld pd1 4) sn0),(qget (qfld pd0 4) sn0)]) 0)))then
  bif (qeqD pd0 pd0)then
  bif (qeqD pd1 pd1)then
  some (Sum.inr [(D.int 1)])
  else
  none
  else
  none
  else
  bif (qeqD pd0 pd0)then
  bif (qeqD pd1 pd1)then
  some (Sum.inl [(D.int (qbin BinOp.add IntKind.i64 sn0 1))])
  else
  none
  else
  none
  else
  none
  else
  none
  else
  none
  else
  bif (qeqD pd0 pd0)then
  bif (qeqD pd1 pd1)then
  some (Sum.inr [(D.int 0)])
  else
  none
  else
  none:=by kernel_rfl
 rw[h];simp only[qeqD_self,qeqI_self,qeq_len,show qcmp BinOp.eql 0 (qlen (D.list []))=true from qeq_len [],show∀a,qcmp BinOp.eql 1 (qlen (D.list [a]))=true from fun a=>qeq_len [a],show∀a b,qcmp BinOp.eql 2 (qlen (D.list [a,b]))=true from fun a b=>qeq_len [a,b],show∀a b c,qcmp BinOp.eql 3 (qlen (D.list [a,b,c]))=true from fun a b c=>qeq_len [a,b,c],show∀a b c d,qcmp BinOp.eql 4 (qlen (D.list [a,b,c,d]))=true from fun a b c d=>qeq_len [a,b,c,d],cond_true]
noncomputable def l15_4 (Q:List D→Option (List D)):List D→List D→Option (List D):=veil fun p s=>loW (st15_4 Q p) s
theorem l15_4_eq (Q:List D→Option (List D)):l15_4 Q=fun p s=>loW (st15_4 Q p) s:=veil_eq _
noncomputable def tbl15_4 (Q:List D→Option (List D)):Tb:=Tb.addL (tbR15 Q) 15 4 S15_4.n0 (mkLp S15_4 (l15_4 Q))
theorem ok_tbl15_4 (Q:List D→Option (List D)) (hQ:SoundF env.P 15 S15 Q):TbOk env (tbl15_4 Q):=addLoopQ (ok_tbR15 Q hQ) 15 4 (by kernel_rfl) _ (l15_4_eq Q)
noncomputable def Fb15 (Q:List D→Option (List D)):List D→Option (List D):=liftX env (tbl15_4 Q) 60 12 15 S15
theorem Fb15_eq (Q:List D→Option (List D)) (sd0:D) (sd1:D):Fb15 Q [sd0,sd1] =
 bif (qiteB (qiteB (qiteB (qiteB (qcmp BinOp.neq (qint (qfld sd0 0)) (qint (qfld sd1 0))) Bool.true (qcmp BinOp.neq (qint (qfld sd0 1)) (qint (qfld sd1 1)))) Bool.true (qcmp BinOp.neq (qint (qfld sd0 2)) (qint (qfld sd1 2)))) Bool.true (qcmp BinOp.neq (qint (qfld sd0 3)) (qint (qfld sd1 3)))) Bool.true (qcmp BinOp.neq (qlen (qfld sd0 4)) (qlen (qfld sd1 4))))then
 some [(D.bool Bool.false)]
 else
 bif (qsome (l15_4 Q [sd1,sd0] [(D.int 0)]))then
 bif (qcmp BinOp.eql (qint (qnth (l15_4 Q [sd1,sd0] [(D.int 0)]) 0)) 0)then
 some [(D.bool Bool.true)]
 else
 some [(D.bool Bool.false)]
 else
 none:=by kernel_rfl
noncomputable def F15:Nat→List D→Option (List D):=levels Fb15
theorem F15_s (n:Nat):F15 (n+1)=Fb15 (F15 n):=rfl
noncomputable def q15:List D→Option (List D):=veil fun ds=>F15 (fuelL ds) ds
theorem q15_eq:q15=fun ds=>F15 (fuelL ds) ds:=veil_eq _
theorem sound15:SoundF env.P 15 S15 q15:=recF (fun q=>tbl15_4 q) (fun q hq=>ok_tbl15_4 q hq) q15_eq
noncomputable def tb15:Tb:=Tb.addF tb78 15 S15 q15
theorem ok_tb15:TbOk env tb15:=TbOk.addF ok_tb78 (by kernel_rfl) sound15
def S42_4:LoopS:=⟨0,[uF,uF,⟨false,(.ptr 0 0)⟩,⟨false,(.ptr 1 0)⟩,⟨false,(.lit (.bool false))⟩,⟨true,(.int .i64)⟩,uF,uF,uF,uF,uF,uF,uF,uF,uF,uF,uF,uF,uF,uF,uF,uF,uF,uF,uF,uF,uF,uF,uF,uF,uF,uF,uF,uF,uF,uF,uF,uF,uF,uF,uF,uF,uF,uF,uF,uF,uF,uF,uF,uF,uF,uF,uF,uF,uF,uF,uF,uF,uF,uF,uF,uF,uF,uF,uF,uF,uF,uF,uF,uF,uF,uF,uF,uF,uF,uF,uF,uF,uF,uF,uF,uF],[(.dat false 91),(.dat false 91)],[⟨0,0,[uT,uT,uT,uT,⟨true,(.lit (.bool false))⟩,uT,uT,uT,uT,uT,uT,uT,uT,uT,uT,uT,uT,uT,uT,uT,uT,uT,uT,uT,uT,uT,uT,uT,uT,uT,uT,uT,uT,uT,uT,uT,uT,uT,uT,uT,uT,uT,uT,uT,uT,uT,uT,uT,uT,uT,uT,uT,uT,uT,uT,uT,uT,uT,uT,uT,uT,uT,uT,uT,uT,uT,uT,uT,uT,uT,uT,uT,uT,uT,uT,uT,uT,uT,uT,uT,uT,uT],[(.dat false 91),(.dat false 91)]⟩,⟨1,0,[uT,uT,uT,uT,⟨true,(.lit (.bool false))⟩,uT,uT,uT,uT,uT,uT,uT,uT,uT,uT,uT,uT,uT,uT,uT,uT,uT,uT,uT,uT,uT,uT,uT,uT,uT,uT,uT,uT,uT,uT,uT,uT,uT,uT,uT,uT,uT,uT,uT,uT,uT,uT,uT,uT,uT,uT,uT,uT,uT,uT,uT,uT,uT,uT,uT,uT,uT,uT,uT,uT,uT,uT,uT,uT,uT,uT,uT,uT,uT,uT,uT,uT,uT,uT,uT,uT,uT],[(.dat false 91),(.dat false 91)]⟩]⟩
noncomputable def st42_4 (p s:List D):Option (Sum (List D) (List D)):=stepQX env tb15 60 12 42 (loopC 42 4) S42_4 p s
theorem st42_4_eq (pd0:D) (pd1:D) (sn0:Int):st42_4 [pd0,pd1] [(D.int sn0)] =
 bif (qcmp BinOp.lss sn0 (qlen (qfld pd1 6)))then
 bif (qinb (qfld pd1 6) sn0)then
 bif (qinb (qfld pd0 6) sn0)then
 bif (qsome (q15 [(qget (qfld pd1 6) sn0),(qget (qfld pd0 6) sn0)]))then
 bif (qnot (qbool (qnth (q15 [(qget (qfld pd1 6) sn0),(qget (qfld pd0 6) sn0)]) 0)))then
 some (Sum.inr [(D.int 1)])
 else
 some (Sum.inl [(D.int (qbin BinOp.add IntKind.i64 sn0 1))])
 else
 none
 else
 none
 else
 none
 else
 some (Sum.inr [(D.int 0)]):=by
 have h:st42_4 [pd0,pd1] [(D.int sn0)] =
  bif (qcmp BinOp.lss sn0 (qlen (qfld pd1 6)))then
  bif (qinb (qfld pd1 6) sn0)then
  bif (qinb (qfld pd0 6) sn0)then
  bif (qsome (q15 [(qget (qfld pd1 6) sn0),(qget (qfld pd0 6) sn0)]))then
  bif (qnot (qbool (qnth (q15 [(qget (qfld pd1 6) sn0),(qget (qfld pd0 6) sn0)]) 0)))then
  bif (qeqD pd0 pd0)then
  bif (qeqD pd1 pd1)then
  some (Sum.inr [(D.int 1)])
  else
  none
  else
  none
  else
  bif (qeqD pd0 pd0)then
  bif (qeqD pd1 pd1)then
  some (Sum.inl [(D.int (qbin BinOp.add IntKind.i64 sn0 1))])
  else
  none
  else
  none
  else
  none
  else
  none
  else
  none
  else
  bif (qeqD pd0 pd0)then
  bif (qeqD pd1 pd1)then
  some (Sum.inr [(D.int 0)])
  else
  none
  else
  none:=by kernel_rfl
 rw[h];simp only[qeqD_self,qeqI_self,qeq_len,show qcmp BinOp.eql 0 (qlen (D.list []))=true from qeq_len [],show∀a,qcmp BinOp.eql 1 (qlen (D.list [a]))=true from fun a=>qeq_len [a],show∀a b,qcmp BinOp.eql 2 (qlen (D.list [a,b]))=true from fun a b=>qeq_len [a,b],show∀a b c,qcmp BinOp.eql 3 (qlen (D.list [a,b,c]))=true from fun a b c=>qeq_len [a,b,c],show∀a b c d,qcmp BinOp.eql 4 (qlen (D.list [a,b,c,d]))=true from fun a b c d=>qeq_len [a,b,c,d],cond_true]
noncomputable def l42_4:List D→List D→Option (List D):=veil fun p s=>loW (st42_4 p) s
theorem l42_4_eq:l42_4=fun p s=>loW (st42_4 p) s:=veil_eq _
noncomputable def tbl42_4:Tb:=Tb.addL tb15 42 4 S42_4.n0 (mkLp S42_4 (l42_4))
theorem ok_tbl42_4:TbOk env (tbl42_4):=addLoopQ ok_tb15 42 4 (by kernel_rfl) _ (l42_4_eq)
def S42:FunS:=⟨[⟨true,(.dat 91)⟩,⟨true,(.dat 91)⟩],[],[⟨true, .bool⟩],[]⟩
noncomputable def F42:List D→Option (List D):=liftX env tbl42_4 60 12 42 S42
theorem F42_eq (sd0:D) (sd1:D):F42 [sd0,sd1] =
 bif (qiteB (qiteB (qiteB (qiteB (qiteB (qiteB (qiteB (qcmp BinOp.neq (qint (qfld sd0 0)) (qint (qfld sd1 0))) Bool.true (qcmp BinOp.neq (qint (qfld sd0 1)) (qint (qfld sd1 1)))) Bool.true (qcmp BinOp.neq (qint (qfld sd0 2)) (qint (qfld sd1 2)))) Bool.true (qcmp BinOp.neq (qint (qfld sd0 3)) (qint (qfld sd1 3)))) Bool.true (qcmp BinOp.neq (qint (qfld sd0 4)) (qint (qfld sd1 4)))) Bool.true (qcmp BinOp.neq (qint (qfld sd0 5)) (qint (qfld sd1 5)))) Bool.true (qcmp BinOp.neq (qlen (qfld sd0 6)) (qlen (qfld sd1 6)))) Bool.true (qsome (q78 [(qfld sd0 7),(qfld sd1 7)])))then
 bif (qiteB (qiteB (qiteB (qiteB (qiteB (qiteB (qiteB (qcmp BinOp.neq (qint (qfld sd0 0)) (qint (qfld sd1 0))) Bool.true (qcmp BinOp.neq (qint (qfld sd0 1)) (qint (qfld sd1 1)))) Bool.true (qcmp BinOp.neq (qint (qfld sd0 2)) (qint (qfld sd1 2)))) Bool.true (qcmp BinOp.neq (qint (qfld sd0 3)) (qint (qfld sd1 3)))) Bool.true (qcmp BinOp.neq (qint (qfld sd0 4)) (qint (qfld sd1 4)))) Bool.true (qcmp BinOp.neq (qint (qfld sd0 5)) (qint (qfld sd1 5)))) Bool.true (qcmp BinOp.neq (qlen (qfld sd0 6)) (qlen (qfld sd1 6)))) Bool.true (qnot (qbool (qnth (q78 [(qfld sd0 7),(qfld sd1 7)]) 0))))then
 some [(D.bool Bool.false)]
 else
 bif (qsome (l42_4 [sd1,sd0] [(D.int 0)]))then
 bif (qcmp BinOp.eql (qint (qnth (l42_4 [sd1,sd0] [(D.int 0)]) 0)) 0)then
 some [(D.bool Bool.true)]
 else
 some [(D.bool Bool.false)]
 else
 none
 else
 none:=by kernel_rfl
noncomputable def q42:List D→Option (List D):=veil (F42)
theorem q42_eq:q42=F42:=veil_eq _
noncomputable def tb42:Tb:=Tb.addF tbl42_4 42 S42 (q42)
theorem ok_tb42:TbOk env (tb42):=addFunF ok_tbl42_4 42 (by kernel_rfl) _ (q42_eq)
def S9_4:LoopS:=⟨0,[⟨false,(.rows 91)⟩,⟨false,(.rows 91)⟩,uF,uF,⟨false,(.lit (.bool false))⟩,⟨true,(.int .i64)⟩,uF,uF,uF,uF,uF,uF,uF,uF,uF,uF,uF,uF,uF,uF,uF,uF,uF,uF,uF,uF,uF],[],[⟨0,0,[⟨false,(.rows 91)⟩,⟨false,(.rows 91)⟩,uT,uT,⟨true,(.lit (.bool false))⟩,uT,uT,uT,uT,uT,uT,uT,uT,uT,uT,uT,uT,uT,uT,uT,uT,uT,uT,uT,uT,uT,uT],[]⟩,⟨1,0,[⟨false,(.rows 91)⟩,⟨false,(.rows 91)⟩,uT,uT,⟨true,(.lit (.bool false))⟩,uT,uT,uT,uT,uT,uT,uT,uT,uT,uT,uT,uT,uT,uT,uT,uT,uT,uT,uT,uT,uT,uT],[]⟩]⟩
noncomputable def st9_4 (p s:List D):Option (Sum (List D) (List D)):=stepQX env tb42 60 12 9 (loopC 9 4) S9_4 p s
noncomputable def l9_4:List D→List D→Option (List D):=veil fun p s=>loW (st9_4 p) s
theorem l9_4_eq:l9_4=fun p s=>loW (st9_4 p) s:=veil_eq _
noncomputable def tbl9_4:Tb:=Tb.addL tb42 9 4 S9_4.n0 (mkLp S9_4 (l9_4))
theorem ok_tbl9_4:TbOk env (tbl9_4):=addLoopQ ok_tb42 9 4 (by kernel_rfl) _ (l9_4_eq)
def S9:FunS:=⟨[⟨true,(.rows 91)⟩,⟨true,(.rows 91)⟩],[],[⟨true, .bool⟩],[]⟩
noncomputable def F9:List D→Option (List D):=liftX env tbl9_4 60 12 9 S9
noncomputable def q9:List D→Option (List D):=veil (F9)
theorem q9_eq:q9=F9:=veil_eq _
noncomputable def tb9:Tb:=Tb.addF tbl9_4 9 S9 (q9)
theorem ok_tb9:TbOk env (tb9):=addFunF ok_tbl9_4 9 (by kernel_rfl) _ (q9_eq)
end Go.Proofs.YtgklbalcneepoaaGreatDoor
open Go Go.AM
namespace Go.Proofs.YtgklbalcneepoaaGreatDoor
set_option maxRecDepth 100000
set_option linter.unusedSimpArgs false
set_option linter.unusedVariables false
noncomputable def tb10:Tb:=Tb.addF tb9 10 S10 q10
theorem ok_tb10:TbOk env tb10:=TbOk.addF ok_tb9 (by kernel_rfl) sound10
def S3:FunS:=⟨[⟨true,(.dat 24)⟩,⟨true,(.int .i64)⟩],[],[⟨true, .bool⟩],[]⟩
noncomputable def F3:List D→Option (List D):=liftX env tb10 60 12 3 S3
noncomputable def q3:List D→Option (List D):=veil (F3)
theorem q3_eq:q3=F3:=veil_eq _
noncomputable def tb3:Tb:=Tb.addF tb10 3 S3 (q3)
theorem ok_tb3:TbOk env (tb3):=addFunF ok_tb10 3 (by kernel_rfl) _ (q3_eq)
end Go.Proofs.YtgklbalcneepoaaGreatDoor
