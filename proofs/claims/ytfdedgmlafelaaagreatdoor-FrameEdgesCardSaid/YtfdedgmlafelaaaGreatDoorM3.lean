/-
  Made by gen3.py: what functions of the seat compute, as partial functions on data, and that they do.
-/
import Derived.Test.YtfdedgmlafelaaaGreatDoorM2
import Derived.KernelRfl
import Derived.Test.YtfdedgmlafelaaaGreatDoorM1
set_option linter.unusedVariables false
set_option linter.unusedSimpArgs false
open Go Go.AM
namespace Go.Proofs.YtfdedgmlafelaaaGreatDoor
set_option maxRecDepth 100000
set_option linter.unusedSimpArgs false
set_option linter.unusedVariables false
def S28_11:LoopS:=⟨0,[uF,⟨false,(.ptr 0 0)⟩,⟨false,(.lit (.slice none 0 0))⟩,⟨false,(.lit (.bool false))⟩,⟨false,(.oslc 1 3)⟩,⟨false,(.oslc 2 4)⟩,⟨false,(.oslc 3 3)⟩,uF,⟨false,(.int .i64)⟩,uF,uF,uF,uF,uF,uF,uF,uF,uF,uF,uF,uF,uF,uF,uF,uF,uF,uF,uF,uF,uF,uF,uF,uF,uF,uF,uF,uF,uF,uF,uF,uF,uF,uF,uF,uF,uF,uF,uF,uF,uF,uF,uF,uF,uF,uF,uF,uF,⟨false,(.rows 3)⟩,⟨false,(.int .i64)⟩,⟨true,(.int .i64)⟩,uF,uF,uF,uF,uF,uF,uF,uF,uF,uF,uF,uF,uF,uF,uF,uF,uF,uF,uF,uF,uF,uF,uF,uF,uF,uF,uF,uF,uF,uF,uF,uF,uF],[(.lst true 3),(.lst true 4),(.lst true 3),(.dat false 25)],[⟨0,2,[uT,⟨true,(.ptr 0 0)⟩,⟨true,(.lit (.slice none 0 0))⟩,⟨true,(.lit (.bool false))⟩,⟨true,(.osl 1 3)⟩,⟨true,(.osl 2 4)⟩,⟨true,(.osl 3 3)⟩,uT,⟨false,(.int .i64)⟩,uT,uT,uT,uT,uT,uT,uT,uT,uT,uT,uT,uT,uT,uT,uT,uT,uT,uT,uT,uT,uT,uT,uT,uT,uT,uT,uT,uT,uT,uT,uT,uT,uT,uT,uT,uT,uT,uT,uT,uT,uT,uT,uT,uT,uT,uT,uT,uT,⟨false,(.rows 3)⟩,⟨false,(.int .i64)⟩,uT,uT,uT,uT,uT,uT,uT,uT,uT,uT,uT,uT,uT,uT,uT,uT,uT,uT,uT,uT,uT,uT,uT,uT,uT,uT,uT,uT,uT,uT,uT,uT,uT,uT],[(.lst true 3),(.lst true 4),(.lst true 3),(.dat false 25)]⟩,⟨1,0,[uT,uT,⟨true,(.lit (.slice none 0 0))⟩,⟨true,(.lit (.bool false))⟩,uT,uT,uT,uT,⟨false,(.int .i64)⟩,uT,uT,uT,uT,uT,uT,uT,uT,uT,uT,uT,uT,uT,uT,uT,uT,uT,uT,uT,uT,uT,uT,uT,uT,uT,uT,uT,uT,uT,uT,uT,uT,uT,uT,uT,uT,uT,uT,uT,uT,uT,uT,uT,uT,uT,uT,uT,uT,⟨false,(.rows 3)⟩,⟨false,(.int .i64)⟩,uT,uT,uT,uT,uT,uT,uT,uT,uT,uT,uT,uT,uT,uT,uT,uT,uT,uT,uT,uT,uT,uT,uT,uT,uT,uT,uT,uT,uT,uT,uT,uT,uT,uT],[.skip, .skip, .skip,(.dat false 25)]⟩]⟩
noncomputable def st28_11 (p s:List D):Option (Sum (List D) (List D)):=stepQX env tb48 60 12 28 (loopC 28 11) S28_11 p s
theorem st28_11_eq (pn0:Int) (pd1:D) (pn2:Int) (pd3:D) (sn0:Int) (sd1:D) (sd2:D) (sd3:D):st28_11 [(D.int pn0),pd1,(D.int pn2),pd3] [(D.int sn0),sd1,sd2,sd3] =
 bif (qcmp BinOp.lss sn0 pn2)then
 bif (qinb pd1 sn0)then
 bif (qcmp BinOp.leq 0 (qint (qget pd1 sn0)))then
 bif (qcmp BinOp.lss (qint (qget pd1 sn0)) (qlen sd2))then
 bif (qinb sd2 (qint (qget pd1 sn0)))then
 bif (qiteB (qbool (qget sd2 (qint (qget pd1 sn0)))) (qand (qcmp BinOp.leq 0 (qint (qget pd1 sn0))) (qand (qcmp BinOp.lss (qint (qget pd1 sn0)) (qlen sd3)) (qinb sd3 (qint (qget pd1 sn0))))) Bool.true)then
 bif (qiteB (qbool (qget sd2 (qint (qget pd1 sn0)))) (qcmp BinOp.neq (qint (qget sd3 (qint (qget pd1 sn0)))) pn0) Bool.false)then
 some (Sum.inr [(D.int 1)])
 else
 bif (qcmp BinOp.leq 0 (qint (qget pd1 sn0)))then
 bif (qcmp BinOp.lss (qint (qget pd1 sn0)) (qlen sd2))then
 bif (qinb sd2 (qint (qget pd1 sn0)))then
 bif (qnot (qbool (qget sd2 (qint (qget pd1 sn0)))))then
 bif (qcmp BinOp.leq 0 (qint (qget pd1 sn0)))then
 bif (qcmp BinOp.lss (qint (qget pd1 sn0)) (qlen sd2))then
 bif (qinb sd2 (qint (qget pd1 sn0)))then
 bif (qcmp BinOp.leq 0 (qint (qget pd1 sn0)))then
 bif (qcmp BinOp.lss (qint (qget pd1 sn0)) (qlen sd3))then
 bif (qinb sd3 (qint (qget pd1 sn0)))then
 bif (qmem (qlen (qapp sd1 (D.list [(D.int (qint (qget pd1 sn0)))]))) 8)then
 bif (qcmp BinOp.eql (qlen sd3) (qlen (qsub (qset sd3 (qint (qget pd1 sn0)) (D.int pn0)) 0 (qlen sd3))))then
 bif (qcmp BinOp.eql (qlen sd2) (qlen (qsub (qset sd2 (qint (qget pd1 sn0)) (D.bool Bool.true)) 0 (qlen sd2))))then
 bif (qcmp BinOp.eql (qlen (qapp sd1 (D.list [(D.int (qint (qget pd1 sn0)))]))) (qlen (qsub (qapp sd1 (D.list [(D.int (qint (qget pd1 sn0)))])) 0 (qlen (qapp sd1 (D.list [(D.int (qint (qget pd1 sn0)))]))))))then
 some (Sum.inl [(D.int (qbin BinOp.add IntKind.i64 sn0 1)),(qsub (qapp sd1 (D.list [(D.int (qint (qget pd1 sn0)))])) 0 (qlen (qapp sd1 (D.list [(D.int (qint (qget pd1 sn0)))])))),(qsub (qset sd2 (qint (qget pd1 sn0)) (D.bool Bool.true)) 0 (qlen sd2)),(qsub (qset sd3 (qint (qget pd1 sn0)) (D.int pn0)) 0 (qlen sd3))])
 else
 none
 else
 none
 else
 none
 else
 none
 else
 none
 else
 none
 else
 none
 else
 none
 else
 none
 else
 none
 else
 bif (qcmp BinOp.eql (qlen sd3) (qlen (qsub sd3 0 (qlen sd3))))then
 bif (qcmp BinOp.eql (qlen sd2) (qlen (qsub sd2 0 (qlen sd2))))then
 bif (qcmp BinOp.eql (qlen sd1) (qlen (qsub sd1 0 (qlen sd1))))then
 some (Sum.inl [(D.int (qbin BinOp.add IntKind.i64 sn0 1)),(qsub sd1 0 (qlen sd1)),(qsub sd2 0 (qlen sd2)),(qsub sd3 0 (qlen sd3))])
 else
 none
 else
 none
 else
 none
 else
 none
 else
 none
 else
 none
 else
 none
 else
 none
 else
 none
 else
 none
 else
 none
 else
 some (Sum.inr [(D.int 0),sd1,sd2,sd3]):=by
 have h:st28_11 [(D.int pn0),pd1,(D.int pn2),pd3] [(D.int sn0),sd1,sd2,sd3] =
  bif (qcmp BinOp.lss sn0 pn2)then
  bif (qinb pd1 sn0)then
  bif (qcmp BinOp.leq 0 (qint (qget pd1 sn0)))then
  bif (qcmp BinOp.lss (qint (qget pd1 sn0)) (qlen sd2))then
  bif (qinb sd2 (qint (qget pd1 sn0)))then
  bif (qiteB (qbool (qget sd2 (qint (qget pd1 sn0)))) (qand (qcmp BinOp.leq 0 (qint (qget pd1 sn0))) (qand (qcmp BinOp.lss (qint (qget pd1 sn0)) (qlen sd3)) (qinb sd3 (qint (qget pd1 sn0))))) Bool.true)then
  bif (qiteB (qbool (qget sd2 (qint (qget pd1 sn0)))) (qcmp BinOp.neq (qint (qget sd3 (qint (qget pd1 sn0)))) pn0) Bool.false)then
  bif (qeqD (D.int pn0) (D.int pn0))then
  bif (qeqD pd1 pd1)then
  bif (qeqD (D.int pn2) (D.int pn2))then
  bif (qeqD pd3 pd3)then
  some (Sum.inr [(D.int 1)])
  else
  none
  else
  none
  else
  none
  else
  none
  else
  bif (qcmp BinOp.leq 0 (qint (qget pd1 sn0)))then
  bif (qcmp BinOp.lss (qint (qget pd1 sn0)) (qlen sd2))then
  bif (qinb sd2 (qint (qget pd1 sn0)))then
  bif (qnot (qbool (qget sd2 (qint (qget pd1 sn0)))))then
  bif (qcmp BinOp.leq 0 (qint (qget pd1 sn0)))then
  bif (qcmp BinOp.lss (qint (qget pd1 sn0)) (qlen sd2))then
  bif (qinb sd2 (qint (qget pd1 sn0)))then
  bif (qcmp BinOp.leq 0 (qint (qget pd1 sn0)))then
  bif (qcmp BinOp.lss (qint (qget pd1 sn0)) (qlen sd3))then
  bif (qinb sd3 (qint (qget pd1 sn0)))then
  bif (qcmp BinOp.eql (qlen sd1) (qlen sd1))then
  bif (qmem (qlen (qapp sd1 (D.list [(D.int (qint (qget pd1 sn0)))]))) 8)then
  bif (qcmp BinOp.eql (qlen sd3) (qlen (qsub (qset sd3 (qint (qget pd1 sn0)) (D.int pn0)) 0 (qlen sd3))))then
  bif (qcmp BinOp.eql (qlen sd2) (qlen (qsub (qset sd2 (qint (qget pd1 sn0)) (D.bool Bool.true)) 0 (qlen sd2))))then
  bif (qcmp BinOp.eql (qlen (qapp sd1 (D.list [(D.int (qint (qget pd1 sn0)))]))) (qlen (qsub (qapp sd1 (D.list [(D.int (qint (qget pd1 sn0)))])) 0 (qlen (qapp sd1 (D.list [(D.int (qint (qget pd1 sn0)))]))))))then
  bif (qeqD (D.int pn0) (D.int pn0))then
  bif (qeqD pd1 pd1)then
  bif (qeqD (D.int pn2) (D.int pn2))then
  bif (qeqD pd3 pd3)then
  some (Sum.inl [(D.int (qbin BinOp.add IntKind.i64 sn0 1)),(qsub (qapp sd1 (D.list [(D.int (qint (qget pd1 sn0)))])) 0 (qlen (qapp sd1 (D.list [(D.int (qint (qget pd1 sn0)))])))),(qsub (qset sd2 (qint (qget pd1 sn0)) (D.bool Bool.true)) 0 (qlen sd2)),(qsub (qset sd3 (qint (qget pd1 sn0)) (D.int pn0)) 0 (qlen sd3))])
  else
  none
  else
  none
  else
  none
  else
  none
  else
  none
  else
  none
  else
  none
  else
  none
  else
  none
  else
  none
  else
  none
  else
  none
  else
  none
  else
  none
  else
  none
  else
  bif (qcmp BinOp.eql (qlen sd3) (qlen (qsub sd3 0 (qlen sd3))))then
  bif (qcmp BinOp.eql (qlen sd2) (qlen (qsub sd2 0 (qlen sd2))))then
  bif (qcmp BinOp.eql (qlen sd1) (qlen (qsub sd1 0 (qlen sd1))))then
  bif (qeqD (D.int pn0) (D.int pn0))then
  bif (qeqD pd1 pd1)then
  bif (qeqD (D.int pn2) (D.int pn2))then
  bif (qeqD pd3 pd3)then
  some (Sum.inl [(D.int (qbin BinOp.add IntKind.i64 sn0 1)),(qsub sd1 0 (qlen sd1)),(qsub sd2 0 (qlen sd2)),(qsub sd3 0 (qlen sd3))])
  else
  none
  else
  none
  else
  none
  else
  none
  else
  none
  else
  none
  else
  none
  else
  none
  else
  none
  else
  none
  else
  none
  else
  none
  else
  none
  else
  none
  else
  none
  else
  bif (qcmp BinOp.eql (qlen sd3) (qlen sd3))then
  bif (qcmp BinOp.eql (qlen sd2) (qlen sd2))then
  bif (qcmp BinOp.eql (qlen sd1) (qlen sd1))then
  bif (qeqD (D.int pn0) (D.int pn0))then
  bif (qeqD pd1 pd1)then
  bif (qeqD (D.int pn2) (D.int pn2))then
  bif (qeqD pd3 pd3)then
  some (Sum.inr [(D.int 0),sd1,sd2,sd3])
  else
  none
  else
  none
  else
  none
  else
  none
  else
  none
  else
  none
  else
  none:=by kernel_rfl
 rw[h];simp only[qeqD_self,qeqI_self,qeq_len,show qcmp BinOp.eql 0 (qlen (D.list []))=true from qeq_len [],show∀a,qcmp BinOp.eql 1 (qlen (D.list [a]))=true from fun a=>qeq_len [a],show∀a b,qcmp BinOp.eql 2 (qlen (D.list [a,b]))=true from fun a b=>qeq_len [a,b],show∀a b c,qcmp BinOp.eql 3 (qlen (D.list [a,b,c]))=true from fun a b c=>qeq_len [a,b,c],show∀a b c d,qcmp BinOp.eql 4 (qlen (D.list [a,b,c,d]))=true from fun a b c d=>qeq_len [a,b,c,d],cond_true]
noncomputable def l28_11:List D→List D→Option (List D):=veil fun p s=>loW (st28_11 p) s
theorem l28_11_eq:l28_11=fun p s=>loW (st28_11 p) s:=veil_eq _
noncomputable def tbl28_11:Tb:=Tb.addL tb48 28 11 S28_11.n0 (mkLp S28_11 (l28_11))
theorem ok_tbl28_11:TbOk env (tbl28_11):=addLoopQ ok_tb48 28 11 (by kernel_rfl) _ (l28_11_eq)
def S28_4:LoopS:=⟨0,[uF,⟨false,(.ptr 0 0)⟩,⟨false,(.lit (.slice none 0 0))⟩,⟨false,(.lit (.bool false))⟩,⟨false,(.oslc 1 3)⟩,⟨false,(.oslc 2 4)⟩,⟨false,(.oslc 3 3)⟩,uF,uF,uF,uF,uF,uF,uF,uF,uF,uF,uF,uF,uF,uF,uF,uF,uF,uF,uF,uF,uF,uF,uF,uF,uF,uF,uF,uF,uF,uF,uF,uF,uF,uF,uF,uF,uF,uF,uF,uF,uF,uF,uF,uF,uF,uF,uF,uF,uF,uF,uF,uF,uF,uF,uF,uF,uF,uF,uF,uF,uF,uF,uF,uF,uF,uF,uF,uF,uF,uF,uF,uF,uF,uF,uF,uF,uF,uF,uF,uF,uF,uF,uF,uF,uF,uF],[(.lst true 3),(.lst true 4),(.lst true 3),(.dat false 25)],[⟨0,0,[uT,uT,⟨true,(.lit (.slice none 0 0))⟩,⟨true,(.lit (.bool false))⟩,⟨true,(.osl 1 3)⟩,uT,uT,uT,uT,uT,uT,uT,uT,uT,uT,uT,uT,uT,uT,uT,uT,uT,uT,uT,uT,uT,uT,uT,uT,uT,uT,uT,uT,uT,uT,uT,uT,uT,uT,uT,uT,uT,uT,uT,uT,uT,uT,uT,uT,uT,uT,uT,uT,uT,uT,uT,uT,uT,uT,uT,uT,uT,uT,uT,uT,uT,uT,uT,uT,uT,uT,uT,uT,uT,uT,uT,uT,uT,uT,uT,uT,uT,uT,uT,uT,uT,uT,uT,uT,uT,uT,uT,uT],[.skip, .skip,(.lst true 3),(.dat false 25)]⟩,⟨1,0,[uT,uT,⟨true,(.lit (.slice none 0 0))⟩,⟨true,(.lit (.bool false))⟩,uT,uT,uT,uT,uT,uT,uT,uT,uT,uT,uT,uT,uT,uT,uT,uT,uT,uT,uT,uT,uT,uT,uT,uT,uT,uT,uT,uT,uT,uT,uT,uT,uT,uT,uT,uT,uT,uT,uT,uT,uT,uT,uT,uT,uT,uT,uT,uT,uT,uT,uT,uT,uT,uT,uT,uT,uT,uT,uT,uT,uT,uT,uT,uT,uT,uT,uT,uT,uT,uT,uT,uT,uT,uT,uT,uT,uT,uT,uT,uT,uT,uT,uT,uT,uT,uT,uT,uT,uT],[.skip, .skip, .skip,(.dat false 25)]⟩]⟩
noncomputable def st28_4 (p s:List D):Option (Sum (List D) (List D)):=stepQX env tbl28_11 60 12 28 (loopC 28 4) S28_4 p s
theorem st28_4_eq (pd0:D) (sd0:D) (sd1:D) (sd2:D):st28_4 [pd0] [sd0,sd1,sd2] =
 bif (qcmp BinOp.gtr (qlen sd0) 0)then
 bif (qcmp BinOp.leq 0 (qbin BinOp.sub IntKind.i64 (qlen sd0) 1))then
 bif (qcmp BinOp.lss (qbin BinOp.sub IntKind.i64 (qlen sd0) 1) (qlen sd0))then
 bif (qinb sd0 (qbin BinOp.sub IntKind.i64 (qlen sd0) 1))then
 bif (qcmp BinOp.leq 0 (qbin BinOp.sub IntKind.i64 (qlen sd0) 1))then
 bif (qcmp BinOp.leq (qbin BinOp.sub IntKind.i64 (qlen sd0) 1) (qlen sd0))then
 bif (qinb (qfld pd0 1) (qint (qget sd0 (qbin BinOp.sub IntKind.i64 (qlen sd0) 1))))then
 bif (qcmp BinOp.leq 0 (qint (qget sd0 (qbin BinOp.sub IntKind.i64 (qlen sd0) 1))))then
 bif (qcmp BinOp.lss (qint (qget sd0 (qbin BinOp.sub IntKind.i64 (qlen sd0) 1))) (qlen sd2))then
 bif (qinb sd2 (qint (qget sd0 (qbin BinOp.sub IntKind.i64 (qlen sd0) 1))))then
 bif (qsome (q61 [(qget (qfld pd0 1) (qint (qget sd0 (qbin BinOp.sub IntKind.i64 (qlen sd0) 1)))),(D.int (qint (qget sd2 (qint (qget sd0 (qbin BinOp.sub IntKind.i64 (qlen sd0) 1))))))]))then
 bif (qnot (qbool (qnth (q61 [(qget (qfld pd0 1) (qint (qget sd0 (qbin BinOp.sub IntKind.i64 (qlen sd0) 1)))),(D.int (qint (qget sd2 (qint (qget sd0 (qbin BinOp.sub IntKind.i64 (qlen sd0) 1))))))]) 1)))then
 some (Sum.inr [(D.int 1)])
 else
 bif (qinb (qfld pd0 1) (qint (qget sd0 (qbin BinOp.sub IntKind.i64 (qlen sd0) 1))))then
 bif (qsome (q22 [(qget (qfld pd0 1) (qint (qget sd0 (qbin BinOp.sub IntKind.i64 (qlen sd0) 1))))]))then
 bif (qcmp BinOp.eql (qlen sd2) (qlen (qsub sd2 0 (qlen sd2))))then
 bif (qcmp BinOp.eql (qlen sd1) (qlen (qsub sd1 0 (qlen sd1))))then
 bif (qcmp BinOp.eql (qbin BinOp.sub IntKind.i64 (qlen sd0) 1) (qlen (qsub sd0 0 (qbin BinOp.sub IntKind.i64 (qlen sd0) 1))))then
 bif (qsome (l28_11 [(D.int (qint (qnth (q61 [(qget (qfld pd0 1) (qint (qget sd0 (qbin BinOp.sub IntKind.i64 (qlen sd0) 1)))),(D.int (qint (qget sd2 (qint (qget sd0 (qbin BinOp.sub IntKind.i64 (qlen sd0) 1))))))]) 0))),(qnth (q22 [(qget (qfld pd0 1) (qint (qget sd0 (qbin BinOp.sub IntKind.i64 (qlen sd0) 1))))]) 0),(D.int (qlen (qnth (q22 [(qget (qfld pd0 1) (qint (qget sd0 (qbin BinOp.sub IntKind.i64 (qlen sd0) 1))))]) 0))),pd0] [(D.int 0),(qsub sd0 0 (qbin BinOp.sub IntKind.i64 (qlen sd0) 1)),(qsub sd1 0 (qlen sd1)),(qsub sd2 0 (qlen sd2))]))then
 bif (qcmp BinOp.eql (qint (qnth (l28_11 [(D.int (qint (qnth (q61 [(qget (qfld pd0 1) (qint (qget sd0 (qbin BinOp.sub IntKind.i64 (qlen sd0) 1)))),(D.int (qint (qget sd2 (qint (qget sd0 (qbin BinOp.sub IntKind.i64 (qlen sd0) 1))))))]) 0))),(qnth (q22 [(qget (qfld pd0 1) (qint (qget sd0 (qbin BinOp.sub IntKind.i64 (qlen sd0) 1))))]) 0),(D.int (qlen (qnth (q22 [(qget (qfld pd0 1) (qint (qget sd0 (qbin BinOp.sub IntKind.i64 (qlen sd0) 1))))]) 0))),pd0] [(D.int 0),(qsub sd0 0 (qbin BinOp.sub IntKind.i64 (qlen sd0) 1)),(qsub sd1 0 (qlen sd1)),(qsub sd2 0 (qlen sd2))]) 0)) 0)then
 bif (qcmp BinOp.eql (qlen (qnth (l28_11 [(D.int (qint (qnth (q61 [(qget (qfld pd0 1) (qint (qget sd0 (qbin BinOp.sub IntKind.i64 (qlen sd0) 1)))),(D.int (qint (qget sd2 (qint (qget sd0 (qbin BinOp.sub IntKind.i64 (qlen sd0) 1))))))]) 0))),(qnth (q22 [(qget (qfld pd0 1) (qint (qget sd0 (qbin BinOp.sub IntKind.i64 (qlen sd0) 1))))]) 0),(D.int (qlen (qnth (q22 [(qget (qfld pd0 1) (qint (qget sd0 (qbin BinOp.sub IntKind.i64 (qlen sd0) 1))))]) 0))),pd0] [(D.int 0),(qsub sd0 0 (qbin BinOp.sub IntKind.i64 (qlen sd0) 1)),(qsub sd1 0 (qlen sd1)),(qsub sd2 0 (qlen sd2))]) 3)) (qlen (qsub (qnth (l28_11 [(D.int (qint (qnth (q61 [(qget (qfld pd0 1) (qint (qget sd0 (qbin BinOp.sub IntKind.i64 (qlen sd0) 1)))),(D.int (qint (qget sd2 (qint (qget sd0 (qbin BinOp.sub IntKind.i64 (qlen sd0) 1))))))]) 0))),(qnth (q22 [(qget (qfld pd0 1) (qint (qget sd0 (qbin BinOp.sub IntKind.i64 (qlen sd0) 1))))]) 0),(D.int (qlen (qnth (q22 [(qget (qfld pd0 1) (qint (qget sd0 (qbin BinOp.sub IntKind.i64 (qlen sd0) 1))))]) 0))),pd0] [(D.int 0),(qsub sd0 0 (qbin BinOp.sub IntKind.i64 (qlen sd0) 1)),(qsub sd1 0 (qlen sd1)),(qsub sd2 0 (qlen sd2))]) 3) 0 (qlen (qnth (l28_11 [(D.int (qint (qnth (q61 [(qget (qfld pd0 1) (qint (qget sd0 (qbin BinOp.sub IntKind.i64 (qlen sd0) 1)))),(D.int (qint (qget sd2 (qint (qget sd0 (qbin BinOp.sub IntKind.i64 (qlen sd0) 1))))))]) 0))),(qnth (q22 [(qget (qfld pd0 1) (qint (qget sd0 (qbin BinOp.sub IntKind.i64 (qlen sd0) 1))))]) 0),(D.int (qlen (qnth (q22 [(qget (qfld pd0 1) (qint (qget sd0 (qbin BinOp.sub IntKind.i64 (qlen sd0) 1))))]) 0))),pd0] [(D.int 0),(qsub sd0 0 (qbin BinOp.sub IntKind.i64 (qlen sd0) 1)),(qsub sd1 0 (qlen sd1)),(qsub sd2 0 (qlen sd2))]) 3)))))then
 bif (qcmp BinOp.eql (qlen (qnth (l28_11 [(D.int (qint (qnth (q61 [(qget (qfld pd0 1) (qint (qget sd0 (qbin BinOp.sub IntKind.i64 (qlen sd0) 1)))),(D.int (qint (qget sd2 (qint (qget sd0 (qbin BinOp.sub IntKind.i64 (qlen sd0) 1))))))]) 0))),(qnth (q22 [(qget (qfld pd0 1) (qint (qget sd0 (qbin BinOp.sub IntKind.i64 (qlen sd0) 1))))]) 0),(D.int (qlen (qnth (q22 [(qget (qfld pd0 1) (qint (qget sd0 (qbin BinOp.sub IntKind.i64 (qlen sd0) 1))))]) 0))),pd0] [(D.int 0),(qsub sd0 0 (qbin BinOp.sub IntKind.i64 (qlen sd0) 1)),(qsub sd1 0 (qlen sd1)),(qsub sd2 0 (qlen sd2))]) 2)) (qlen (qsub (qnth (l28_11 [(D.int (qint (qnth (q61 [(qget (qfld pd0 1) (qint (qget sd0 (qbin BinOp.sub IntKind.i64 (qlen sd0) 1)))),(D.int (qint (qget sd2 (qint (qget sd0 (qbin BinOp.sub IntKind.i64 (qlen sd0) 1))))))]) 0))),(qnth (q22 [(qget (qfld pd0 1) (qint (qget sd0 (qbin BinOp.sub IntKind.i64 (qlen sd0) 1))))]) 0),(D.int (qlen (qnth (q22 [(qget (qfld pd0 1) (qint (qget sd0 (qbin BinOp.sub IntKind.i64 (qlen sd0) 1))))]) 0))),pd0] [(D.int 0),(qsub sd0 0 (qbin BinOp.sub IntKind.i64 (qlen sd0) 1)),(qsub sd1 0 (qlen sd1)),(qsub sd2 0 (qlen sd2))]) 2) 0 (qlen (qnth (l28_11 [(D.int (qint (qnth (q61 [(qget (qfld pd0 1) (qint (qget sd0 (qbin BinOp.sub IntKind.i64 (qlen sd0) 1)))),(D.int (qint (qget sd2 (qint (qget sd0 (qbin BinOp.sub IntKind.i64 (qlen sd0) 1))))))]) 0))),(qnth (q22 [(qget (qfld pd0 1) (qint (qget sd0 (qbin BinOp.sub IntKind.i64 (qlen sd0) 1))))]) 0),(D.int (qlen (qnth (q22 [(qget (qfld pd0 1) (qint (qget sd0 (qbin BinOp.sub IntKind.i64 (qlen sd0) 1))))]) 0))),pd0] [(D.int 0),(qsub sd0 0 (qbin BinOp.sub IntKind.i64 (qlen sd0) 1)),(qsub sd1 0 (qlen sd1)),(qsub sd2 0 (qlen sd2))]) 2)))))then
 bif (qcmp BinOp.eql (qlen (qnth (l28_11 [(D.int (qint (qnth (q61 [(qget (qfld pd0 1) (qint (qget sd0 (qbin BinOp.sub IntKind.i64 (qlen sd0) 1)))),(D.int (qint (qget sd2 (qint (qget sd0 (qbin BinOp.sub IntKind.i64 (qlen sd0) 1))))))]) 0))),(qnth (q22 [(qget (qfld pd0 1) (qint (qget sd0 (qbin BinOp.sub IntKind.i64 (qlen sd0) 1))))]) 0),(D.int (qlen (qnth (q22 [(qget (qfld pd0 1) (qint (qget sd0 (qbin BinOp.sub IntKind.i64 (qlen sd0) 1))))]) 0))),pd0] [(D.int 0),(qsub sd0 0 (qbin BinOp.sub IntKind.i64 (qlen sd0) 1)),(qsub sd1 0 (qlen sd1)),(qsub sd2 0 (qlen sd2))]) 1)) (qlen (qsub (qnth (l28_11 [(D.int (qint (qnth (q61 [(qget (qfld pd0 1) (qint (qget sd0 (qbin BinOp.sub IntKind.i64 (qlen sd0) 1)))),(D.int (qint (qget sd2 (qint (qget sd0 (qbin BinOp.sub IntKind.i64 (qlen sd0) 1))))))]) 0))),(qnth (q22 [(qget (qfld pd0 1) (qint (qget sd0 (qbin BinOp.sub IntKind.i64 (qlen sd0) 1))))]) 0),(D.int (qlen (qnth (q22 [(qget (qfld pd0 1) (qint (qget sd0 (qbin BinOp.sub IntKind.i64 (qlen sd0) 1))))]) 0))),pd0] [(D.int 0),(qsub sd0 0 (qbin BinOp.sub IntKind.i64 (qlen sd0) 1)),(qsub sd1 0 (qlen sd1)),(qsub sd2 0 (qlen sd2))]) 1) 0 (qlen (qnth (l28_11 [(D.int (qint (qnth (q61 [(qget (qfld pd0 1) (qint (qget sd0 (qbin BinOp.sub IntKind.i64 (qlen sd0) 1)))),(D.int (qint (qget sd2 (qint (qget sd0 (qbin BinOp.sub IntKind.i64 (qlen sd0) 1))))))]) 0))),(qnth (q22 [(qget (qfld pd0 1) (qint (qget sd0 (qbin BinOp.sub IntKind.i64 (qlen sd0) 1))))]) 0),(D.int (qlen (qnth (q22 [(qget (qfld pd0 1) (qint (qget sd0 (qbin BinOp.sub IntKind.i64 (qlen sd0) 1))))]) 0))),pd0] [(D.int 0),(qsub sd0 0 (qbin BinOp.sub IntKind.i64 (qlen sd0) 1)),(qsub sd1 0 (qlen sd1)),(qsub sd2 0 (qlen sd2))]) 1)))))then
 some (Sum.inl [(qsub (qnth (l28_11 [(D.int (qint (qnth (q61 [(qget (qfld pd0 1) (qint (qget sd0 (qbin BinOp.sub IntKind.i64 (qlen sd0) 1)))),(D.int (qint (qget sd2 (qint (qget sd0 (qbin BinOp.sub IntKind.i64 (qlen sd0) 1))))))]) 0))),(qnth (q22 [(qget (qfld pd0 1) (qint (qget sd0 (qbin BinOp.sub IntKind.i64 (qlen sd0) 1))))]) 0),(D.int (qlen (qnth (q22 [(qget (qfld pd0 1) (qint (qget sd0 (qbin BinOp.sub IntKind.i64 (qlen sd0) 1))))]) 0))),pd0] [(D.int 0),(qsub sd0 0 (qbin BinOp.sub IntKind.i64 (qlen sd0) 1)),(qsub sd1 0 (qlen sd1)),(qsub sd2 0 (qlen sd2))]) 1) 0 (qlen (qnth (l28_11 [(D.int (qint (qnth (q61 [(qget (qfld pd0 1) (qint (qget sd0 (qbin BinOp.sub IntKind.i64 (qlen sd0) 1)))),(D.int (qint (qget sd2 (qint (qget sd0 (qbin BinOp.sub IntKind.i64 (qlen sd0) 1))))))]) 0))),(qnth (q22 [(qget (qfld pd0 1) (qint (qget sd0 (qbin BinOp.sub IntKind.i64 (qlen sd0) 1))))]) 0),(D.int (qlen (qnth (q22 [(qget (qfld pd0 1) (qint (qget sd0 (qbin BinOp.sub IntKind.i64 (qlen sd0) 1))))]) 0))),pd0] [(D.int 0),(qsub sd0 0 (qbin BinOp.sub IntKind.i64 (qlen sd0) 1)),(qsub sd1 0 (qlen sd1)),(qsub sd2 0 (qlen sd2))]) 1))),(qsub (qnth (l28_11 [(D.int (qint (qnth (q61 [(qget (qfld pd0 1) (qint (qget sd0 (qbin BinOp.sub IntKind.i64 (qlen sd0) 1)))),(D.int (qint (qget sd2 (qint (qget sd0 (qbin BinOp.sub IntKind.i64 (qlen sd0) 1))))))]) 0))),(qnth (q22 [(qget (qfld pd0 1) (qint (qget sd0 (qbin BinOp.sub IntKind.i64 (qlen sd0) 1))))]) 0),(D.int (qlen (qnth (q22 [(qget (qfld pd0 1) (qint (qget sd0 (qbin BinOp.sub IntKind.i64 (qlen sd0) 1))))]) 0))),pd0] [(D.int 0),(qsub sd0 0 (qbin BinOp.sub IntKind.i64 (qlen sd0) 1)),(qsub sd1 0 (qlen sd1)),(qsub sd2 0 (qlen sd2))]) 2) 0 (qlen (qnth (l28_11 [(D.int (qint (qnth (q61 [(qget (qfld pd0 1) (qint (qget sd0 (qbin BinOp.sub IntKind.i64 (qlen sd0) 1)))),(D.int (qint (qget sd2 (qint (qget sd0 (qbin BinOp.sub IntKind.i64 (qlen sd0) 1))))))]) 0))),(qnth (q22 [(qget (qfld pd0 1) (qint (qget sd0 (qbin BinOp.sub IntKind.i64 (qlen sd0) 1))))]) 0),(D.int (qlen (qnth (q22 [(qget (qfld pd0 1) (qint (qget sd0 (qbin BinOp.sub IntKind.i64 (qlen sd0) 1))))]) 0))),pd0] [(D.int 0),(qsub sd0 0 (qbin BinOp.sub IntKind.i64 (qlen sd0) 1)),(qsub sd1 0 (qlen sd1)),(qsub sd2 0 (qlen sd2))]) 2))),(qsub (qnth (l28_11 [(D.int (qint (qnth (q61 [(qget (qfld pd0 1) (qint (qget sd0 (qbin BinOp.sub IntKind.i64 (qlen sd0) 1)))),(D.int (qint (qget sd2 (qint (qget sd0 (qbin BinOp.sub IntKind.i64 (qlen sd0) 1))))))]) 0))),(qnth (q22 [(qget (qfld pd0 1) (qint (qget sd0 (qbin BinOp.sub IntKind.i64 (qlen sd0) 1))))]) 0),(D.int (qlen (qnth (q22 [(qget (qfld pd0 1) (qint (qget sd0 (qbin BinOp.sub IntKind.i64 (qlen sd0) 1))))]) 0))),pd0] [(D.int 0),(qsub sd0 0 (qbin BinOp.sub IntKind.i64 (qlen sd0) 1)),(qsub sd1 0 (qlen sd1)),(qsub sd2 0 (qlen sd2))]) 3) 0 (qlen (qnth (l28_11 [(D.int (qint (qnth (q61 [(qget (qfld pd0 1) (qint (qget sd0 (qbin BinOp.sub IntKind.i64 (qlen sd0) 1)))),(D.int (qint (qget sd2 (qint (qget sd0 (qbin BinOp.sub IntKind.i64 (qlen sd0) 1))))))]) 0))),(qnth (q22 [(qget (qfld pd0 1) (qint (qget sd0 (qbin BinOp.sub IntKind.i64 (qlen sd0) 1))))]) 0),(D.int (qlen (qnth (q22 [(qget (qfld pd0 1) (qint (qget sd0 (qbin BinOp.sub IntKind.i64 (qlen sd0) 1))))]) 0))),pd0] [(D.int 0),(qsub sd0 0 (qbin BinOp.sub IntKind.i64 (qlen sd0) 1)),(qsub sd1 0 (qlen sd1)),(qsub sd2 0 (qlen sd2))]) 3)))])
 else
 none
 else
 none
 else
 none
 else
 some (Sum.inr [(D.int 1)])
 else
 none
 else
 none
 else
 none
 else
 none
 else
 none
 else
 none
 else
 none
 else
 none
 else
 none
 else
 none
 else
 none
 else
 none
 else
 none
 else
 none
 else
 none
 else
 none
 else
 some (Sum.inr [(D.int 0),sd2]):=by
 have h:st28_4 [pd0] [sd0,sd1,sd2] =
  bif (qcmp BinOp.gtr (qlen sd0) 0)then
  bif (qcmp BinOp.leq 0 (qbin BinOp.sub IntKind.i64 (qlen sd0) 1))then
  bif (qcmp BinOp.lss (qbin BinOp.sub IntKind.i64 (qlen sd0) 1) (qlen sd0))then
  bif (qinb sd0 (qbin BinOp.sub IntKind.i64 (qlen sd0) 1))then
  bif (qcmp BinOp.leq 0 (qbin BinOp.sub IntKind.i64 (qlen sd0) 1))then
  bif (qcmp BinOp.leq (qbin BinOp.sub IntKind.i64 (qlen sd0) 1) (qlen sd0))then
  bif (qinb (qfld pd0 1) (qint (qget sd0 (qbin BinOp.sub IntKind.i64 (qlen sd0) 1))))then
  bif (qcmp BinOp.leq 0 (qint (qget sd0 (qbin BinOp.sub IntKind.i64 (qlen sd0) 1))))then
  bif (qcmp BinOp.lss (qint (qget sd0 (qbin BinOp.sub IntKind.i64 (qlen sd0) 1))) (qlen sd2))then
  bif (qinb sd2 (qint (qget sd0 (qbin BinOp.sub IntKind.i64 (qlen sd0) 1))))then
  bif (qsome (q61 [(qget (qfld pd0 1) (qint (qget sd0 (qbin BinOp.sub IntKind.i64 (qlen sd0) 1)))),(D.int (qint (qget sd2 (qint (qget sd0 (qbin BinOp.sub IntKind.i64 (qlen sd0) 1))))))]))then
  bif (qnot (qbool (qnth (q61 [(qget (qfld pd0 1) (qint (qget sd0 (qbin BinOp.sub IntKind.i64 (qlen sd0) 1)))),(D.int (qint (qget sd2 (qint (qget sd0 (qbin BinOp.sub IntKind.i64 (qlen sd0) 1))))))]) 1)))then
  bif (qeqD pd0 pd0)then
  some (Sum.inr [(D.int 1)])
  else
  none
  else
  bif (qinb (qfld pd0 1) (qint (qget sd0 (qbin BinOp.sub IntKind.i64 (qlen sd0) 1))))then
  bif (qsome (q22 [(qget (qfld pd0 1) (qint (qget sd0 (qbin BinOp.sub IntKind.i64 (qlen sd0) 1))))]))then
  bif (qcmp BinOp.eql (qlen sd2) (qlen (qsub sd2 0 (qlen sd2))))then
  bif (qcmp BinOp.eql (qlen sd1) (qlen (qsub sd1 0 (qlen sd1))))then
  bif (qcmp BinOp.eql (qbin BinOp.sub IntKind.i64 (qlen sd0) 1) (qlen (qsub sd0 0 (qbin BinOp.sub IntKind.i64 (qlen sd0) 1))))then
  bif (qsome (l28_11 [(D.int (qint (qnth (q61 [(qget (qfld pd0 1) (qint (qget sd0 (qbin BinOp.sub IntKind.i64 (qlen sd0) 1)))),(D.int (qint (qget sd2 (qint (qget sd0 (qbin BinOp.sub IntKind.i64 (qlen sd0) 1))))))]) 0))),(qnth (q22 [(qget (qfld pd0 1) (qint (qget sd0 (qbin BinOp.sub IntKind.i64 (qlen sd0) 1))))]) 0),(D.int (qlen (qnth (q22 [(qget (qfld pd0 1) (qint (qget sd0 (qbin BinOp.sub IntKind.i64 (qlen sd0) 1))))]) 0))),pd0] [(D.int 0),(qsub sd0 0 (qbin BinOp.sub IntKind.i64 (qlen sd0) 1)),(qsub sd1 0 (qlen sd1)),(qsub sd2 0 (qlen sd2))]))then
  bif (qcmp BinOp.eql (qint (qnth (l28_11 [(D.int (qint (qnth (q61 [(qget (qfld pd0 1) (qint (qget sd0 (qbin BinOp.sub IntKind.i64 (qlen sd0) 1)))),(D.int (qint (qget sd2 (qint (qget sd0 (qbin BinOp.sub IntKind.i64 (qlen sd0) 1))))))]) 0))),(qnth (q22 [(qget (qfld pd0 1) (qint (qget sd0 (qbin BinOp.sub IntKind.i64 (qlen sd0) 1))))]) 0),(D.int (qlen (qnth (q22 [(qget (qfld pd0 1) (qint (qget sd0 (qbin BinOp.sub IntKind.i64 (qlen sd0) 1))))]) 0))),pd0] [(D.int 0),(qsub sd0 0 (qbin BinOp.sub IntKind.i64 (qlen sd0) 1)),(qsub sd1 0 (qlen sd1)),(qsub sd2 0 (qlen sd2))]) 0)) 0)then
  bif (qcmp BinOp.eql (qlen (qnth (l28_11 [(D.int (qint (qnth (q61 [(qget (qfld pd0 1) (qint (qget sd0 (qbin BinOp.sub IntKind.i64 (qlen sd0) 1)))),(D.int (qint (qget sd2 (qint (qget sd0 (qbin BinOp.sub IntKind.i64 (qlen sd0) 1))))))]) 0))),(qnth (q22 [(qget (qfld pd0 1) (qint (qget sd0 (qbin BinOp.sub IntKind.i64 (qlen sd0) 1))))]) 0),(D.int (qlen (qnth (q22 [(qget (qfld pd0 1) (qint (qget sd0 (qbin BinOp.sub IntKind.i64 (qlen sd0) 1))))]) 0))),pd0] [(D.int 0),(qsub sd0 0 (qbin BinOp.sub IntKind.i64 (qlen sd0) 1)),(qsub sd1 0 (qlen sd1)),(qsub sd2 0 (qlen sd2))]) 3)) (qlen (qsub (qnth (l28_11 [(D.int (qint (qnth (q61 [(qget (qfld pd0 1) (qint (qget sd0 (qbin BinOp.sub IntKind.i64 (qlen sd0) 1)))),(D.int (qint (qget sd2 (qint (qget sd0 (qbin BinOp.sub IntKind.i64 (qlen sd0) 1))))))]) 0))),(qnth (q22 [(qget (qfld pd0 1) (qint (qget sd0 (qbin BinOp.sub IntKind.i64 (qlen sd0) 1))))]) 0),(D.int (qlen (qnth (q22 [(qget (qfld pd0 1) (qint (qget sd0 (qbin BinOp.sub IntKind.i64 (qlen sd0) 1))))]) 0))),pd0] [(D.int 0),(qsub sd0 0 (qbin BinOp.sub IntKind.i64 (qlen sd0) 1)),(qsub sd1 0 (qlen sd1)),(qsub sd2 0 (qlen sd2))]) 3) 0 (qlen (qnth (l28_11 [(D.int (qint (qnth (q61 [(qget (qfld pd0 1) (qint (qget sd0 (qbin BinOp.sub IntKind.i64 (qlen sd0) 1)))),(D.int (qint (qget sd2 (qint (qget sd0 (qbin BinOp.sub IntKind.i64 (qlen sd0) 1))))))]) 0))),(qnth (q22 [(qget (qfld pd0 1) (qint (qget sd0 (qbin BinOp.sub IntKind.i64 (qlen sd0) 1))))]) 0),(D.int (qlen (qnth (q22 [(qget (qfld pd0 1) (qint (qget sd0 (qbin BinOp.sub IntKind.i64 (qlen sd0) 1))))]) 0))),pd0] [(D.int 0),(qsub sd0 0 (qbin BinOp.sub IntKind.i64 (qlen sd0) 1)),(qsub sd1 0 (qlen sd1)),(qsub sd2 0 (qlen sd2))]) 3)))))then
  bif (qcmp BinOp.eql (qlen (qnth (l28_11 [(D.int (qint (qnth (q61 [(qget (qfld pd0 1) (qint (qget sd0 (qbin BinOp.sub IntKind.i64 (qlen sd0) 1)))),(D.int (qint (qget sd2 (qint (qget sd0 (qbin BinOp.sub IntKind.i64 (qlen sd0) 1))))))]) 0))),(qnth (q22 [(qget (qfld pd0 1) (qint (qget sd0 (qbin BinOp.sub IntKind.i64 (qlen sd0) 1))))]) 0),(D.int (qlen (qnth (q22 [(qget (qfld pd0 1) (qint (qget sd0 (qbin BinOp.sub IntKind.i64 (qlen sd0) 1))))]) 0))),pd0] [(D.int 0),(qsub sd0 0 (qbin BinOp.sub IntKind.i64 (qlen sd0) 1)),(qsub sd1 0 (qlen sd1)),(qsub sd2 0 (qlen sd2))]) 2)) (qlen (qsub (qnth (l28_11 [(D.int (qint (qnth (q61 [(qget (qfld pd0 1) (qint (qget sd0 (qbin BinOp.sub IntKind.i64 (qlen sd0) 1)))),(D.int (qint (qget sd2 (qint (qget sd0 (qbin BinOp.sub IntKind.i64 (qlen sd0) 1))))))]) 0))),(qnth (q22 [(qget (qfld pd0 1) (qint (qget sd0 (qbin BinOp.sub IntKind.i64 (qlen sd0) 1))))]) 0),(D.int (qlen (qnth (q22 [(qget (qfld pd0 1) (qint (qget sd0 (qbin BinOp.sub IntKind.i64 (qlen sd0) 1))))]) 0))),pd0] [(D.int 0),(qsub sd0 0 (qbin BinOp.sub IntKind.i64 (qlen sd0) 1)),(qsub sd1 0 (qlen sd1)),(qsub sd2 0 (qlen sd2))]) 2) 0 (qlen (qnth (l28_11 [(D.int (qint (qnth (q61 [(qget (qfld pd0 1) (qint (qget sd0 (qbin BinOp.sub IntKind.i64 (qlen sd0) 1)))),(D.int (qint (qget sd2 (qint (qget sd0 (qbin BinOp.sub IntKind.i64 (qlen sd0) 1))))))]) 0))),(qnth (q22 [(qget (qfld pd0 1) (qint (qget sd0 (qbin BinOp.sub IntKind.i64 (qlen sd0) 1))))]) 0),(D.int (qlen (qnth (q22 [(qget (qfld pd0 1) (qint (qget sd0 (qbin BinOp.sub IntKind.i64 (qlen sd0) 1))))]) 0))),pd0] [(D.int 0),(qsub sd0 0 (qbin BinOp.sub IntKind.i64 (qlen sd0) 1)),(qsub sd1 0 (qlen sd1)),(qsub sd2 0 (qlen sd2))]) 2)))))then
  bif (qcmp BinOp.eql (qlen (qnth (l28_11 [(D.int (qint (qnth (q61 [(qget (qfld pd0 1) (qint (qget sd0 (qbin BinOp.sub IntKind.i64 (qlen sd0) 1)))),(D.int (qint (qget sd2 (qint (qget sd0 (qbin BinOp.sub IntKind.i64 (qlen sd0) 1))))))]) 0))),(qnth (q22 [(qget (qfld pd0 1) (qint (qget sd0 (qbin BinOp.sub IntKind.i64 (qlen sd0) 1))))]) 0),(D.int (qlen (qnth (q22 [(qget (qfld pd0 1) (qint (qget sd0 (qbin BinOp.sub IntKind.i64 (qlen sd0) 1))))]) 0))),pd0] [(D.int 0),(qsub sd0 0 (qbin BinOp.sub IntKind.i64 (qlen sd0) 1)),(qsub sd1 0 (qlen sd1)),(qsub sd2 0 (qlen sd2))]) 1)) (qlen (qsub (qnth (l28_11 [(D.int (qint (qnth (q61 [(qget (qfld pd0 1) (qint (qget sd0 (qbin BinOp.sub IntKind.i64 (qlen sd0) 1)))),(D.int (qint (qget sd2 (qint (qget sd0 (qbin BinOp.sub IntKind.i64 (qlen sd0) 1))))))]) 0))),(qnth (q22 [(qget (qfld pd0 1) (qint (qget sd0 (qbin BinOp.sub IntKind.i64 (qlen sd0) 1))))]) 0),(D.int (qlen (qnth (q22 [(qget (qfld pd0 1) (qint (qget sd0 (qbin BinOp.sub IntKind.i64 (qlen sd0) 1))))]) 0))),pd0] [(D.int 0),(qsub sd0 0 (qbin BinOp.sub IntKind.i64 (qlen sd0) 1)),(qsub sd1 0 (qlen sd1)),(qsub sd2 0 (qlen sd2))]) 1) 0 (qlen (qnth (l28_11 [(D.int (qint (qnth (q61 [(qget (qfld pd0 1) (qint (qget sd0 (qbin BinOp.sub IntKind.i64 (qlen sd0) 1)))),(D.int (qint (qget sd2 (qint (qget sd0 (qbin BinOp.sub IntKind.i64 (qlen sd0) 1))))))]) 0))),(qnth (q22 [(qget (qfld pd0 1) (qint (qget sd0 (qbin BinOp.sub IntKind.i64 (qlen sd0) 1))))]) 0),(D.int (qlen (qnth (q22 [(qget (qfld pd0 1) (qint (qget sd0 (qbin BinOp.sub IntKind.i64 (qlen sd0) 1))))]) 0))),pd0] [(D.int 0),(qsub sd0 0 (qbin BinOp.sub IntKind.i64 (qlen sd0) 1)),(qsub sd1 0 (qlen sd1)),(qsub sd2 0 (qlen sd2))]) 1)))))then
  bif (qeqD pd0 pd0)then
  some (Sum.inl [(qsub (qnth (l28_11 [(D.int (qint (qnth (q61 [(qget (qfld pd0 1) (qint (qget sd0 (qbin BinOp.sub IntKind.i64 (qlen sd0) 1)))),(D.int (qint (qget sd2 (qint (qget sd0 (qbin BinOp.sub IntKind.i64 (qlen sd0) 1))))))]) 0))),(qnth (q22 [(qget (qfld pd0 1) (qint (qget sd0 (qbin BinOp.sub IntKind.i64 (qlen sd0) 1))))]) 0),(D.int (qlen (qnth (q22 [(qget (qfld pd0 1) (qint (qget sd0 (qbin BinOp.sub IntKind.i64 (qlen sd0) 1))))]) 0))),pd0] [(D.int 0),(qsub sd0 0 (qbin BinOp.sub IntKind.i64 (qlen sd0) 1)),(qsub sd1 0 (qlen sd1)),(qsub sd2 0 (qlen sd2))]) 1) 0 (qlen (qnth (l28_11 [(D.int (qint (qnth (q61 [(qget (qfld pd0 1) (qint (qget sd0 (qbin BinOp.sub IntKind.i64 (qlen sd0) 1)))),(D.int (qint (qget sd2 (qint (qget sd0 (qbin BinOp.sub IntKind.i64 (qlen sd0) 1))))))]) 0))),(qnth (q22 [(qget (qfld pd0 1) (qint (qget sd0 (qbin BinOp.sub IntKind.i64 (qlen sd0) 1))))]) 0),(D.int (qlen (qnth (q22 [(qget (qfld pd0 1) (qint (qget sd0 (qbin BinOp.sub IntKind.i64 (qlen sd0) 1))))]) 0))),pd0] [(D.int 0),(qsub sd0 0 (qbin BinOp.sub IntKind.i64 (qlen sd0) 1)),(qsub sd1 0 (qlen sd1)),(qsub sd2 0 (qlen sd2))]) 1))),(qsub (qnth (l28_11 [(D.int (qint (qnth (q61 [(qget (qfld pd0 1) (qint (qget sd0 (qbin BinOp.sub IntKind.i64 (qlen sd0) 1)))),(D.int (qint (qget sd2 (qint (qget sd0 (qbin BinOp.sub IntKind.i64 (qlen sd0) 1))))))]) 0))),(qnth (q22 [(qget (qfld pd0 1) (qint (qget sd0 (qbin BinOp.sub IntKind.i64 (qlen sd0) 1))))]) 0),(D.int (qlen (qnth (q22 [(qget (qfld pd0 1) (qint (qget sd0 (qbin BinOp.sub IntKind.i64 (qlen sd0) 1))))]) 0))),pd0] [(D.int 0),(qsub sd0 0 (qbin BinOp.sub IntKind.i64 (qlen sd0) 1)),(qsub sd1 0 (qlen sd1)),(qsub sd2 0 (qlen sd2))]) 2) 0 (qlen (qnth (l28_11 [(D.int (qint (qnth (q61 [(qget (qfld pd0 1) (qint (qget sd0 (qbin BinOp.sub IntKind.i64 (qlen sd0) 1)))),(D.int (qint (qget sd2 (qint (qget sd0 (qbin BinOp.sub IntKind.i64 (qlen sd0) 1))))))]) 0))),(qnth (q22 [(qget (qfld pd0 1) (qint (qget sd0 (qbin BinOp.sub IntKind.i64 (qlen sd0) 1))))]) 0),(D.int (qlen (qnth (q22 [(qget (qfld pd0 1) (qint (qget sd0 (qbin BinOp.sub IntKind.i64 (qlen sd0) 1))))]) 0))),pd0] [(D.int 0),(qsub sd0 0 (qbin BinOp.sub IntKind.i64 (qlen sd0) 1)),(qsub sd1 0 (qlen sd1)),(qsub sd2 0 (qlen sd2))]) 2))),(qsub (qnth (l28_11 [(D.int (qint (qnth (q61 [(qget (qfld pd0 1) (qint (qget sd0 (qbin BinOp.sub IntKind.i64 (qlen sd0) 1)))),(D.int (qint (qget sd2 (qint (qget sd0 (qbin BinOp.sub IntKind.i64 (qlen sd0) 1))))))]) 0))),(qnth (q22 [(qget (qfld pd0 1) (qint (qget sd0 (qbin BinOp.sub IntKind.i64 (qlen sd0) 1))))]) 0),(D.int (qlen (qnth (q22 [(qget (qfld pd0 1) (qint (qget sd0 (qbin BinOp.sub IntKind.i64 (qlen sd0) 1))))]) 0))),pd0] [(D.int 0),(qsub sd0 0 (qbin BinOp.sub IntKind.i64 (qlen sd0) 1)),(qsub sd1 0 (qlen sd1)),(qsub sd2 0 (qlen sd2))]) 3) 0 (qlen (qnth (l28_11 [(D.int (qint (qnth (q61 [(qget (qfld pd0 1) (qint (qget sd0 (qbin BinOp.sub IntKind.i64 (qlen sd0) 1)))),(D.int (qint (qget sd2 (qint (qget sd0 (qbin BinOp.sub IntKind.i64 (qlen sd0) 1))))))]) 0))),(qnth (q22 [(qget (qfld pd0 1) (qint (qget sd0 (qbin BinOp.sub IntKind.i64 (qlen sd0) 1))))]) 0),(D.int (qlen (qnth (q22 [(qget (qfld pd0 1) (qint (qget sd0 (qbin BinOp.sub IntKind.i64 (qlen sd0) 1))))]) 0))),pd0] [(D.int 0),(qsub sd0 0 (qbin BinOp.sub IntKind.i64 (qlen sd0) 1)),(qsub sd1 0 (qlen sd1)),(qsub sd2 0 (qlen sd2))]) 3)))])
  else
  none
  else
  none
  else
  none
  else
  none
  else
  bif (qeqD pd0 pd0)then
  some (Sum.inr [(D.int 1)])
  else
  none
  else
  none
  else
  none
  else
  none
  else
  none
  else
  none
  else
  none
  else
  none
  else
  none
  else
  none
  else
  none
  else
  none
  else
  none
  else
  none
  else
  none
  else
  none
  else
  none
  else
  bif (qcmp BinOp.eql (qlen sd2) (qlen sd2))then
  bif (qeqD pd0 pd0)then
  some (Sum.inr [(D.int 0),sd2])
  else
  none
  else
  none:=by kernel_rfl
 rw[h];simp only[qeqD_self,qeqI_self,qeq_len,show qcmp BinOp.eql 0 (qlen (D.list []))=true from qeq_len [],show∀a,qcmp BinOp.eql 1 (qlen (D.list [a]))=true from fun a=>qeq_len [a],show∀a b,qcmp BinOp.eql 2 (qlen (D.list [a,b]))=true from fun a b=>qeq_len [a,b],show∀a b c,qcmp BinOp.eql 3 (qlen (D.list [a,b,c]))=true from fun a b c=>qeq_len [a,b,c],show∀a b c d,qcmp BinOp.eql 4 (qlen (D.list [a,b,c,d]))=true from fun a b c d=>qeq_len [a,b,c,d],cond_true]
noncomputable def l28_4:List D→List D→Option (List D):=veil fun p s=>loW (st28_4 p) s
theorem l28_4_eq:l28_4=fun p s=>loW (st28_4 p) s:=veil_eq _
noncomputable def tbl28_4:Tb:=Tb.addL tbl28_11 28 4 S28_4.n0 (mkLp S28_4 (l28_4))
theorem ok_tbl28_4:TbOk env (tbl28_4):=addLoopQ ok_tbl28_11 28 4 (by kernel_rfl) _ (l28_4_eq)
def S28:FunS:=⟨[⟨true,(.dat 25)⟩],[],[⟨true,(.tup [(.rows 3), .bool])⟩],[]⟩
noncomputable def F28:List D→Option (List D):=liftX env tbl28_4 60 12 28 S28
theorem F28_eq (sd0:D):F28 [sd0] =
 bif (qcmp BinOp.leq 0 (qlen (qfld sd0 1)))then
 bif (qcmp BinOp.leq (qlen (qfld sd0 1)) (qlen (qfld sd0 1)))then
 bif (qmem (qlen (qfld sd0 1)) 8)then
 bif (qcmp BinOp.leq 0 (qlen (qfld sd0 1)))then
 bif (qcmp BinOp.leq (qlen (qfld sd0 1)) (qlen (qfld sd0 1)))then
 bif (qmem (qlen (qfld sd0 1)) 1)then
 bif (qcmp BinOp.leq 0 0)then
 bif (qcmp BinOp.lss 0 (qlen (qfld sd0 1)))then
 bif (qinb (qrep (qlen (qfld sd0 1)) (D.bool Bool.false)) 0)then
 bif (qcmp BinOp.eql (qlen (qfld sd0 1)) (qlen (qsub (qrep (qlen (qfld sd0 1)) (D.int 0)) 0 (qlen (qfld sd0 1)))))then
 bif (qcmp BinOp.eql (qlen (qfld sd0 1)) (qlen (qsub (qset (qrep (qlen (qfld sd0 1)) (D.bool Bool.false)) 0 (D.bool Bool.true)) 0 (qlen (qfld sd0 1)))))then
 bif (qsome (l28_4 [sd0] [(D.list [(D.int 0)]),(qsub (qset (qrep (qlen (qfld sd0 1)) (D.bool Bool.false)) 0 (D.bool Bool.true)) 0 (qlen (qfld sd0 1))),(qsub (qrep (qlen (qfld sd0 1)) (D.int 0)) 0 (qlen (qfld sd0 1)))]))then
 bif (qcmp BinOp.eql (qint (qnth (l28_4 [sd0] [(D.list [(D.int 0)]),(qsub (qset (qrep (qlen (qfld sd0 1)) (D.bool Bool.false)) 0 (D.bool Bool.true)) 0 (qlen (qfld sd0 1))),(qsub (qrep (qlen (qfld sd0 1)) (D.int 0)) 0 (qlen (qfld sd0 1)))]) 0)) 0)then
 some [(qnth (l28_4 [sd0] [(D.list [(D.int 0)]),(qsub (qset (qrep (qlen (qfld sd0 1)) (D.bool Bool.false)) 0 (D.bool Bool.true)) 0 (qlen (qfld sd0 1))),(qsub (qrep (qlen (qfld sd0 1)) (D.int 0)) 0 (qlen (qfld sd0 1)))]) 1),(D.bool Bool.true)]
 else
 some [(D.list []),(D.bool Bool.false)]
 else
 none
 else
 none
 else
 none
 else
 none
 else
 none
 else
 none
 else
 none
 else
 none
 else
 none
 else
 none
 else
 none
 else
 none:=by
 have h:F28 [sd0] =
  bif (qcmp BinOp.leq 0 (qlen (qfld sd0 1)))then
  bif (qcmp BinOp.leq (qlen (qfld sd0 1)) (qlen (qfld sd0 1)))then
  bif (qmem (qlen (qfld sd0 1)) 8)then
  bif (qcmp BinOp.leq 0 (qlen (qfld sd0 1)))then
  bif (qcmp BinOp.leq (qlen (qfld sd0 1)) (qlen (qfld sd0 1)))then
  bif (qmem (qlen (qfld sd0 1)) 1)then
  bif (qcmp BinOp.leq 0 0)then
  bif (qcmp BinOp.lss 0 (qlen (qfld sd0 1)))then
  bif (qinb (qrep (qlen (qfld sd0 1)) (D.bool Bool.false)) 0)then
  bif (qcmp BinOp.eql (qlen (qfld sd0 1)) (qlen (qsub (qrep (qlen (qfld sd0 1)) (D.int 0)) 0 (qlen (qfld sd0 1)))))then
  bif (qcmp BinOp.eql (qlen (qfld sd0 1)) (qlen (qsub (qset (qrep (qlen (qfld sd0 1)) (D.bool Bool.false)) 0 (D.bool Bool.true)) 0 (qlen (qfld sd0 1)))))then
  bif (qcmp BinOp.eql 1 (qlen (D.list [(D.int 0)])))then
  bif (qsome (l28_4 [sd0] [(D.list [(D.int 0)]),(qsub (qset (qrep (qlen (qfld sd0 1)) (D.bool Bool.false)) 0 (D.bool Bool.true)) 0 (qlen (qfld sd0 1))),(qsub (qrep (qlen (qfld sd0 1)) (D.int 0)) 0 (qlen (qfld sd0 1)))]))then
  bif (qcmp BinOp.eql (qint (qnth (l28_4 [sd0] [(D.list [(D.int 0)]),(qsub (qset (qrep (qlen (qfld sd0 1)) (D.bool Bool.false)) 0 (D.bool Bool.true)) 0 (qlen (qfld sd0 1))),(qsub (qrep (qlen (qfld sd0 1)) (D.int 0)) 0 (qlen (qfld sd0 1)))]) 0)) 0)then
  bif (qcmp BinOp.eql (qlen (qnth (l28_4 [sd0] [(D.list [(D.int 0)]),(qsub (qset (qrep (qlen (qfld sd0 1)) (D.bool Bool.false)) 0 (D.bool Bool.true)) 0 (qlen (qfld sd0 1))),(qsub (qrep (qlen (qfld sd0 1)) (D.int 0)) 0 (qlen (qfld sd0 1)))]) 1)) (qlen (qnth (l28_4 [sd0] [(D.list [(D.int 0)]),(qsub (qset (qrep (qlen (qfld sd0 1)) (D.bool Bool.false)) 0 (D.bool Bool.true)) 0 (qlen (qfld sd0 1))),(qsub (qrep (qlen (qfld sd0 1)) (D.int 0)) 0 (qlen (qfld sd0 1)))]) 1)))then
  some [(qnth (l28_4 [sd0] [(D.list [(D.int 0)]),(qsub (qset (qrep (qlen (qfld sd0 1)) (D.bool Bool.false)) 0 (D.bool Bool.true)) 0 (qlen (qfld sd0 1))),(qsub (qrep (qlen (qfld sd0 1)) (D.int 0)) 0 (qlen (qfld sd0 1)))]) 1),(D.bool Bool.true)]
  else
  none
  else
  some [(D.list []),(D.bool Bool.false)]
  else
  none
  else
  none
  else
  none
  else
  none
  else
  none
  else
  none
  else
  none
  else
  none
  else
  none
  else
  none
  else
  none
  else
  none
  else
  none:=by kernel_rfl
 rw[h];simp only[qeqD_self,qeqI_self,qeq_len,show qcmp BinOp.eql 0 (qlen (D.list []))=true from qeq_len [],show∀a,qcmp BinOp.eql 1 (qlen (D.list [a]))=true from fun a=>qeq_len [a],show∀a b,qcmp BinOp.eql 2 (qlen (D.list [a,b]))=true from fun a b=>qeq_len [a,b],show∀a b c,qcmp BinOp.eql 3 (qlen (D.list [a,b,c]))=true from fun a b c=>qeq_len [a,b,c],show∀a b c d,qcmp BinOp.eql 4 (qlen (D.list [a,b,c,d]))=true from fun a b c d=>qeq_len [a,b,c,d],cond_true]
noncomputable def q28:List D→Option (List D):=veil (F28)
theorem q28_eq:q28=F28:=veil_eq _
noncomputable def tb28:Tb:=Tb.addF tbl28_4 28 S28 (q28)
theorem ok_tb28:TbOk env (tb28):=addFunF ok_tbl28_4 28 (by kernel_rfl) _ (q28_eq)
def S17:FunS:=⟨[⟨true,(.dat 25)⟩],[],[⟨true,(.tup [(.rows 3), .bool])⟩],[]⟩
noncomputable def F17:List D→Option (List D):=liftX env tb28 60 12 17 S17
theorem F17_eq (sd0:D):F17 [sd0] =
 bif (qsome (q19 [sd0]))then
 bif (qcmp BinOp.neq (qint (qnth (q19 [sd0]) 0)) 0)then
 some [(D.list []),(D.bool Bool.false)]
 else
 bif (qsome (q28 [sd0]))then
 some [(qnth (q28 [sd0]) 0),(D.bool (qbool (qnth (q28 [sd0]) 1)))]
 else
 none
 else
 none:=by kernel_rfl
noncomputable def q17:List D→Option (List D):=veil (F17)
theorem q17_eq:q17=F17:=veil_eq _
noncomputable def tb17:Tb:=Tb.addF tb28 17 S17 (q17)
theorem ok_tb17:TbOk env (tb17):=addFunF ok_tb28 17 (by kernel_rfl) _ (q17_eq)
end Go.Proofs.YtfdedgmlafelaaaGreatDoor
open Go Go.AM
namespace Go.Proofs.YtfdedgmlafelaaaGreatDoor
set_option maxRecDepth 100000
set_option linter.unusedSimpArgs false
set_option linter.unusedVariables false
end Go.Proofs.YtfdedgmlafelaaaGreatDoor
open Go Go.AM
namespace Go.Proofs.YtfdedgmlafelaaaGreatDoor
set_option maxRecDepth 100000
set_option linter.unusedSimpArgs false
set_option linter.unusedVariables false
end Go.Proofs.YtfdedgmlafelaaaGreatDoor
