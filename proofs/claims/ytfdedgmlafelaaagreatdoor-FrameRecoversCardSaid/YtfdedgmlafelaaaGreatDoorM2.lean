/-
  Made by gen3.py: what functions of the seat compute, as partial functions on data, and that they do.
-/
import Derived.Test.YtfdedgmlafelaaaGreatDoorM1
import Derived.KernelRfl
set_option linter.unusedVariables false
set_option linter.unusedSimpArgs false
open Go Go.AM
namespace Go.Proofs.YtfdedgmlafelaaaGreatDoor
noncomputable section
set_option maxRecDepth 100000
set_option linter.unusedSimpArgs false
set_option linter.unusedVariables false
set_option linter.defProp false
def S28_11:LoopS:=⟨0,[uF,⟨false,(.ptr 0 0)⟩,⟨false,(.lit (.slice none 0 0))⟩,⟨false,(.lit (.bool false))⟩,⟨false,(.oslc 1 3)⟩,⟨false,(.oslc 2 4)⟩,⟨false,(.oslc 3 3)⟩,uF,⟨false,(.int .i64)⟩,uF,uF,uF,uF,uF,uF,uF,uF,uF,uF,uF,uF,uF,uF,uF,uF,uF,uF,uF,uF,uF,uF,uF,uF,uF,uF,uF,uF,uF,uF,uF,uF,uF,uF,uF,uF,uF,uF,uF,uF,uF,uF,uF,uF,uF,uF,uF,uF,⟨false,(.rows 3)⟩,⟨false,(.int .i64)⟩,⟨true,(.int .i64)⟩,uF,uF,uF,uF,uF,uF,uF,uF,uF,uF,uF,uF,uF,uF,uF,uF,uF,uF,uF,uF,uF,uF,uF,uF,uF,uF,uF,uF,uF,uF,uF,uF,uF],[(.lst true 3),(.lst true 4),(.lst true 3),(.dat false 25)],[⟨0,2,[uT,⟨true,(.ptr 0 0)⟩,⟨true,(.lit (.slice none 0 0))⟩,⟨true,(.lit (.bool false))⟩,⟨true,(.osl 1 3)⟩,⟨true,(.osl 2 4)⟩,⟨true,(.osl 3 3)⟩,uT,⟨false,(.int .i64)⟩,uT,uT,uT,uT,uT,uT,uT,uT,uT,uT,uT,uT,uT,uT,uT,uT,uT,uT,uT,uT,uT,uT,uT,uT,uT,uT,uT,uT,uT,uT,uT,uT,uT,uT,uT,uT,uT,uT,uT,uT,uT,uT,uT,uT,uT,uT,uT,uT,⟨false,(.rows 3)⟩,⟨false,(.int .i64)⟩,uT,uT,uT,uT,uT,uT,uT,uT,uT,uT,uT,uT,uT,uT,uT,uT,uT,uT,uT,uT,uT,uT,uT,uT,uT,uT,uT,uT,uT,uT,uT,uT,uT,uT],[(.lst true 3),(.lst true 4),(.lst true 3),(.dat false 25)]⟩,⟨1,0,[uT,uT,⟨true,(.lit (.slice none 0 0))⟩,⟨true,(.lit (.bool false))⟩,uT,uT,uT,uT,⟨false,(.int .i64)⟩,uT,uT,uT,uT,uT,uT,uT,uT,uT,uT,uT,uT,uT,uT,uT,uT,uT,uT,uT,uT,uT,uT,uT,uT,uT,uT,uT,uT,uT,uT,uT,uT,uT,uT,uT,uT,uT,uT,uT,uT,uT,uT,uT,uT,uT,uT,uT,uT,⟨false,(.rows 3)⟩,⟨false,(.int .i64)⟩,uT,uT,uT,uT,uT,uT,uT,uT,uT,uT,uT,uT,uT,uT,uT,uT,uT,uT,uT,uT,uT,uT,uT,uT,uT,uT,uT,uT,uT,uT,uT,uT,uT,uT],[.skip, .skip, .skip,(.dat false 25)]⟩]⟩
def st28_11 (p s:List D):Option (Sum (List D) (List D)):=stepQX env tb48 60 12 28 (loopC 28 11) S28_11 p s
theorem st28_11_e (pn0:Int) (pd1:D) (pn2:Int) (pd3:D) (sn0:Int) (sd1:D) (sd2:D) (sd3:D):st28_11 [(D.int pn0),pd1,(D.int pn2),pd3] [(D.int sn0),sd1,sd2,sd3] =
 let x0:=qint (qget pd1 sn0)
 let x1:=qcmp .leq 0 x0
 let x2:=qlen sd2
 let x3:=qcmp .lss x0 x2
 let x4:=qinb sd2 x0
 let x5:=qbool (qget sd2 x0)
 let x6:=qlen sd3
 let x7:=qcmp .lss x0 x6
 let x8:=qinb sd3 x0
 let x9:=D.int pn0
 let x10:=D.int pn2
 let x11:=qlen sd1
 let x12:=qcmp .eql x11 x11
 let x13:=qapp sd1 (.list [.int x0])
 let x14:=qlen x13
 let x15:=qsub (qset sd3 x0 x9) 0 x6
 let x16:=qsub (qset sd2 x0 (.bool true)) 0 x2
 let x17:=qsub x13 0 x14
 let x18:=D.int (qbin .add .i64 sn0 1)
 let x19:=qsub sd3 0 x6
 let x20:=qsub sd2 0 x2
 let x21:=qsub sd1 0 x11
 bif qcmp .lss sn0 pn2 then gd (qinb pd1 sn0)<|gd x1<|gd x3<|gd x4<|gd (qiteB x5 (qand x1 (qand x7 x8)) true)<|bif qiteB x5 (qcmp .neq (qint (qget sd3 x0)) pn0) false then ge x9<|ge pd1<|ge x10<|ge pd3<|some (Sum.inr [.int 1])else gd x1<|gd x3<|gd x4<|bif qnot x5 then gd x1<|gd x3<|gd x4<|gd x1<|gd x7<|gd x8<|gd x12<|gd (qmem x14 8)<|gd (qcmp .eql x6 (qlen x15))<|gd (qcmp .eql x2 (qlen x16))<|gd (qcmp .eql x14 (qlen x17))<|ge x9<|ge pd1<|ge x10<|ge pd3<|some (Sum.inl [x18,x17,x16,x15])else gd (qcmp .eql x6 (qlen x19))<|gd (qcmp .eql x2 (qlen x20))<|gd (qcmp .eql x11 (qlen x21))<|ge x9<|ge pd1<|ge x10<|ge pd3<|some (Sum.inl [x18,x21,x20,x19])else gd (qcmp .eql x6 x6)<|gd (qcmp .eql x2 x2)<|gd x12<|ge x9<|ge pd1<|ge x10<|ge pd3<|some (Sum.inr [.int 0,sd1,sd2,sd3]):=by kernel_rfl
def st28_11_eq:=by have h:= @st28_11_e;simp only[ge_id,gd,qeqD_self,qeqI_self,qeq_len,qeq_l,cond_true]at h;exact h
def l28_11:List D→List D→Option (List D):=veil fun p s=>loW (st28_11 p) s
theorem l28_11_eq:l28_11=fun p s=>loW (st28_11 p) s:=veil_eq _
def tbl28_11:Tb:=Tb.addL tb48 28 11 S28_11.n0 (mkLp S28_11 (l28_11))
theorem ok_tbl28_11:TbOk env (tbl28_11):=addLoopQ ok_tb48 28 11 (by kernel_rfl) _ (l28_11_eq)
def S28_4:LoopS:=⟨0,[uF,⟨false,(.ptr 0 0)⟩,⟨false,(.lit (.slice none 0 0))⟩,⟨false,(.lit (.bool false))⟩,⟨false,(.oslc 1 3)⟩,⟨false,(.oslc 2 4)⟩,⟨false,(.oslc 3 3)⟩,uF,uF,uF,uF,uF,uF,uF,uF,uF,uF,uF,uF,uF,uF,uF,uF,uF,uF,uF,uF,uF,uF,uF,uF,uF,uF,uF,uF,uF,uF,uF,uF,uF,uF,uF,uF,uF,uF,uF,uF,uF,uF,uF,uF,uF,uF,uF,uF,uF,uF,uF,uF,uF,uF,uF,uF,uF,uF,uF,uF,uF,uF,uF,uF,uF,uF,uF,uF,uF,uF,uF,uF,uF,uF,uF,uF,uF,uF,uF,uF,uF,uF,uF,uF,uF,uF],[(.lst true 3),(.lst true 4),(.lst true 3),(.dat false 25)],[⟨0,0,[uT,uT,⟨true,(.lit (.slice none 0 0))⟩,⟨true,(.lit (.bool false))⟩,⟨true,(.osl 1 3)⟩,uT,uT,uT,uT,uT,uT,uT,uT,uT,uT,uT,uT,uT,uT,uT,uT,uT,uT,uT,uT,uT,uT,uT,uT,uT,uT,uT,uT,uT,uT,uT,uT,uT,uT,uT,uT,uT,uT,uT,uT,uT,uT,uT,uT,uT,uT,uT,uT,uT,uT,uT,uT,uT,uT,uT,uT,uT,uT,uT,uT,uT,uT,uT,uT,uT,uT,uT,uT,uT,uT,uT,uT,uT,uT,uT,uT,uT,uT,uT,uT,uT,uT,uT,uT,uT,uT,uT,uT],[.skip, .skip,(.lst true 3),(.dat false 25)]⟩,⟨1,0,[uT,uT,⟨true,(.lit (.slice none 0 0))⟩,⟨true,(.lit (.bool false))⟩,uT,uT,uT,uT,uT,uT,uT,uT,uT,uT,uT,uT,uT,uT,uT,uT,uT,uT,uT,uT,uT,uT,uT,uT,uT,uT,uT,uT,uT,uT,uT,uT,uT,uT,uT,uT,uT,uT,uT,uT,uT,uT,uT,uT,uT,uT,uT,uT,uT,uT,uT,uT,uT,uT,uT,uT,uT,uT,uT,uT,uT,uT,uT,uT,uT,uT,uT,uT,uT,uT,uT,uT,uT,uT,uT,uT,uT,uT,uT,uT,uT,uT,uT,uT,uT,uT,uT,uT,uT],[.skip, .skip, .skip,(.dat false 25)]⟩]⟩
def st28_4 (p s:List D):Option (Sum (List D) (List D)):=stepQX env tbl28_11 60 12 28 (loopC 28 4) S28_4 p s
theorem st28_4_e (pd0:D) (sd0:D) (sd1:D) (sd2:D):st28_4 [pd0] [sd0,sd1,sd2] =
 let x0:=qlen sd0
 let x1:=qbin .sub .i64 x0 1
 let x2:=qcmp .leq 0 x1
 let x3:=qint (qget sd0 x1)
 let x4:=qinb (qfld pd0 1) x3
 let x5:=qlen sd2
 let x6:=qget (qfld pd0 1) x3
 let x7:=q61 [x6,.int (qint (qget sd2 x3))]
 let x8:Option (List D ⊕ List D):=ge pd0<|some (Sum.inr [.int 1])
 let x9:=q22 [x6]
 let x10:=qsub sd2 0 x5
 let x11:=qsub sd1 0 (qlen sd1)
 let x12:=qsub sd0 0 x1
 let x13:=l28_11 [.int (qint (qnth x7 0)),qnth x9 0,.int (qlen (qnth x9 0)),pd0] [.int 0,x12,x11,x10]
 let x14:=qsub (qnth x13 3) 0 (qlen (qnth x13 3))
 let x15:=qsub (qnth x13 2) 0 (qlen (qnth x13 2))
 let x16:=qsub (qnth x13 1) 0 (qlen (qnth x13 1))
 bif qcmp .gtr x0 0 then gd x2<|gd (qcmp .lss x1 x0)<|gd (qinb sd0 x1)<|gd x2<|gd (qcmp .leq x1 x0)<|gd x4<|gd (qcmp .leq 0 x3)<|gd (qcmp .lss x3 x5)<|gd (qinb sd2 x3)<|gd (qsome x7)<|bif qnot (qbool (qnth x7 1))then x8 else gd x4<|gd (qsome x9)<|gd (qcmp .eql x5 (qlen x10))<|gd (qcmp .eql (qlen sd1) (qlen x11))<|gd (qcmp .eql x1 (qlen x12))<|gd (qsome x13)<|bif qcmp .eql (qint (qnth x13 0)) 0 then gd (qcmp .eql (qlen (qnth x13 3)) (qlen x14))<|gd (qcmp .eql (qlen (qnth x13 2)) (qlen x15))<|gd (qcmp .eql (qlen (qnth x13 1)) (qlen x16))<|ge pd0<|some (Sum.inl [x16,x15,x14])else x8 else gd (qcmp .eql x5 x5)<|ge pd0<|some (Sum.inr [.int 0,sd2]):=by kernel_rfl
def st28_4_eq:=by have h:= @st28_4_e;simp only[ge_id,gd,qeqD_self,qeqI_self,qeq_len,qeq_l,cond_true]at h;exact h
def l28_4:List D→List D→Option (List D):=veil fun p s=>loW (st28_4 p) s
theorem l28_4_eq:l28_4=fun p s=>loW (st28_4 p) s:=veil_eq _
def tbl28_4:Tb:=Tb.addL tbl28_11 28 4 S28_4.n0 (mkLp S28_4 (l28_4))
theorem ok_tbl28_4:TbOk env (tbl28_4):=addLoopQ ok_tbl28_11 28 4 (by kernel_rfl) _ (l28_4_eq)
def S28:FunS:=⟨[⟨true,(.dat 25)⟩],[],[⟨true,(.tup [(.rows 3), .bool])⟩],[]⟩
def F28:List D→Option (List D):=liftX env tbl28_4 60 12 28 S28
theorem F28_e (sd0:D):F28 [sd0] =
 let x0:=qlen (qfld sd0 1)
 let x1:=qcmp .leq 0 x0
 let x2:=qcmp .leq x0 x0
 let x3:=D.bool false
 let x4:=qrep x0 x3
 let x5:=qsub (qrep x0 (.int 0)) 0 x0
 let x6:=D.bool true
 let x7:=qsub (qset x4 0 x6) 0 x0
 let x8:=D.list [.int 0]
 let x9:=l28_4 [sd0] [x8,x7,x5]
 gd x1<|gd x2<|gd (qmem x0 8)<|gd x1<|gd x2<|gd (qmem x0 1)<|gd (qcmp .leq 0 0)<|gd (qcmp .lss 0 x0)<|gd (qinb x4 0)<|gd (qcmp .eql x0 (qlen x5))<|gd (qcmp .eql x0 (qlen x7))<|gd (qcmp .eql 1 (qlen x8))<|gd (qsome x9)<|bif qcmp .eql (qint (qnth x9 0)) 0 then gd (qcmp .eql (qlen (qnth x9 1)) (qlen (qnth x9 1)))<|some [qnth x9 1,x6]else some [.list [],x3]:=by kernel_rfl
def F28_eq:=by have h:= @F28_e;simp only[ge_id,gd,qeqD_self,qeqI_self,qeq_len,qeq_l,cond_true]at h;exact h
def q28:List D→Option (List D):=veil (F28)
theorem q28_eq:q28=F28:=veil_eq _
def tb28:Tb:=Tb.addF tbl28_4 28 S28 (q28)
theorem ok_tb28:TbOk env (tb28):=addFunF ok_tbl28_4 28 (by kernel_rfl) _ (q28_eq)
def S17:FunS:=⟨[⟨true,(.dat 25)⟩],[],[⟨true,(.tup [(.rows 3), .bool])⟩],[]⟩
def F17:List D→Option (List D):=liftX env tb28 60 12 17 S17
def q17:List D→Option (List D):=veil (F17)
theorem q17_eq:q17=F17:=veil_eq _
def tb17:Tb:=Tb.addF tb28 17 S17 (q17)
theorem ok_tb17:TbOk env (tb17):=addFunF ok_tb28 17 (by kernel_rfl) _ (q17_eq)
end
end Go.Proofs.YtfdedgmlafelaaaGreatDoor
open Go Go.AM
namespace Go.Proofs.YtfdedgmlafelaaaGreatDoor
noncomputable section
set_option maxRecDepth 100000
set_option linter.unusedSimpArgs false
set_option linter.unusedVariables false
set_option linter.defProp false
def S18_13:LoopS:=⟨0,[uF,⟨false,(.ptr 0 0)⟩,⟨false,(.lit (.slice none 0 0))⟩,⟨false,(.lit (.bool false))⟩,⟨false,(.osl 1 4)⟩,⟨false,(.osl 2 3)⟩,⟨false,(.osl 3 3)⟩,⟨false,(.int .i64)⟩,⟨false,(.int .i64)⟩,⟨true,(.int .i64)⟩,⟨true,(.int .i64)⟩,uF,uF,uF,uF,uF,uF,uF,uF,uF,uF,uF,uF,uF,uF,uF,uF,uF,uF,uF,uF,uF,uF,uF,uF,uF,uF,uF,uF,uF,uF,uF,uF,uF,uF,uF,uF,uF,uF,uF,uF,uF,uF,uF,uF,uF,uF,uF,uF,uF,uF,uF,uF,uF,uF,uF,uF,uF,uF,uF,uF,uF,uF,uF,uF,uF,uF,uF,uF,uF,uF,uF,uF,uF,uF,uF,uF,uF,uF,uF,uF,uF,uF,uF,uF,uF,uF,uF,uF,uF,uF,uF,uF,uF,uF,uF,uF,uF,uF,uF,uF,uF,uF,uF,uF,uF,uF,uF,uF,uF,uF,uF,uF,uF,uF,uF,uF,uF,uF,uF],[(.lst false 3),(.lst false 3),(.lst false 4),(.dat false 25)],[⟨0,2,[uT,⟨true,(.ptr 0 0)⟩,⟨true,(.lit (.slice none 0 0))⟩,⟨true,(.lit (.bool false))⟩,⟨true,(.osl 1 4)⟩,⟨true,(.osl 2 3)⟩,⟨true,(.osl 3 3)⟩,⟨false,(.int .i64)⟩,⟨false,(.int .i64)⟩,⟨true,(.int .i64)⟩,uT,uT,uT,uT,uT,uT,uT,uT,uT,uT,uT,uT,uT,uT,uT,uT,uT,uT,uT,uT,uT,uT,uT,uT,uT,uT,uT,uT,uT,uT,uT,uT,uT,uT,uT,uT,uT,uT,uT,uT,uT,uT,uT,uT,uT,uT,uT,uT,uT,uT,uT,uT,uT,uT,uT,uT,uT,uT,uT,uT,uT,uT,uT,uT,uT,uT,uT,uT,uT,uT,uT,uT,uT,uT,uT,uT,uT,uT,uT,uT,uT,uT,uT,uT,uT,uT,uT,uT,uT,uT,uT,uT,uT,uT,uT,uT,uT,uT,uT,uT,uT,uT,uT,uT,uT,uT,uT,uT,uT,uT,uT,uT,uT,uT,uT,uT,uT,uT,uT,uT],[(.lst false 3),(.lst false 3),(.lst false 4),(.dat false 25)]⟩,⟨1,0,[uT,uT,⟨true,(.lit (.slice none 0 0))⟩,⟨true,(.lit (.bool false))⟩,uT,uT,uT,⟨false,(.int .i64)⟩,⟨false,(.int .i64)⟩,uT,uT,uT,uT,uT,uT,uT,uT,uT,uT,uT,uT,uT,uT,uT,uT,uT,uT,uT,uT,uT,uT,uT,uT,uT,uT,uT,uT,uT,uT,uT,uT,uT,uT,uT,uT,uT,uT,uT,uT,uT,uT,uT,uT,uT,uT,uT,uT,uT,uT,uT,uT,uT,uT,uT,uT,uT,uT,uT,uT,uT,uT,uT,uT,uT,uT,uT,uT,uT,uT,uT,uT,uT,uT,uT,uT,uT,uT,uT,uT,uT,uT,uT,uT,uT,uT,uT,uT,uT,uT,uT,uT,uT,uT,uT,uT,uT,uT,uT,uT,uT,uT,uT,uT,uT,uT,uT,uT,uT,uT,uT,uT,uT,uT,uT,uT,uT,uT,uT,uT,uT],[(.lst false 3),(.lst false 3),(.lst false 4),(.dat false 25)]⟩]⟩
def st18_13 (p s:List D):Option (Sum (List D) (List D)):=stepQX env tb17 60 12 18 (loopC 18 13) S18_13 p s
theorem st18_13_e (pn0:Int) (pn1:Int) (pd2:D) (pd3:D) (pd4:D) (pd5:D) (sn0:Int) (sn1:Int):st18_13 [(D.int pn0),(D.int pn1),pd2,pd3,pd4,pd5] [(D.int sn0),(D.int sn1)] =
 let x0:=qinb (qfld pd5 1) pn1
 let x1:=qfld (qget (qfld pd5 1) pn1) 1
 let x2:=q38 [qget x1 sn1,.int sn0]
 let x3:=D.int pn0
 let x4:=D.int pn1
 let x5:=qcmp .eql (qlen pd4) (qlen pd4)
 let x6:=qcmp .eql (qlen pd3) (qlen pd3)
 let x7:=qcmp .eql (qlen pd2) (qlen pd2)
 gd x0<|bif qcmp .lss sn1 (qlen x1)then gd x0<|gd (qinb x1 sn1)<|gd (qsome x2)<|bif qnot (qbool (qnth x2 1))then ge x3<|ge x4<|ge pd2<|ge pd3<|ge pd4<|ge pd5<|some (Sum.inr [.int 1])else gd x5<|gd x6<|gd x7<|ge x3<|ge x4<|ge pd2<|ge pd3<|ge pd4<|ge pd5<|some (Sum.inl [.int (qint (qnth x2 0)),.int (qbin .add .i64 sn1 1)])else gd x5<|gd x6<|gd x7<|ge x3<|ge x4<|ge pd2<|ge pd3<|ge pd4<|ge pd5<|some (Sum.inr [.int 0,.int sn0]):=by kernel_rfl
def st18_13_eq:=by have h:= @st18_13_e;simp only[ge_id,gd,qeqD_self,qeqI_self,qeq_len,qeq_l,cond_true]at h;exact h
def l18_13:List D→List D→Option (List D):=veil fun p s=>loW (st18_13 p) s
theorem l18_13_eq:l18_13=fun p s=>loW (st18_13 p) s:=veil_eq _
def tbl18_13:Tb:=Tb.addL tb17 18 13 S18_13.n0 (mkLp S18_13 (l18_13))
theorem ok_tbl18_13:TbOk env (tbl18_13):=addLoopQ ok_tb17 18 13 (by kernel_rfl) _ (l18_13_eq)
def S18_21:LoopS:=⟨0,[uF,⟨false,(.ptr 0 0)⟩,⟨false,(.lit (.slice none 0 0))⟩,⟨false,(.lit (.bool false))⟩,⟨false,(.osl 1 4)⟩,⟨false,(.osl 2 3)⟩,⟨false,(.osl 3 3)⟩,⟨false,(.int .i64)⟩,uF,⟨false,(.int .i64)⟩,uF,uF,uF,⟨false,(.rows 3)⟩,⟨true,(.int .i64)⟩,uF,uF,uF,uF,uF,uF,uF,uF,uF,uF,uF,uF,uF,uF,uF,uF,uF,uF,uF,uF,uF,uF,uF,uF,uF,uF,uF,uF,uF,uF,uF,uF,uF,uF,uF,uF,uF,uF,uF,uF,uF,uF,uF,uF,uF,uF,uF,uF,uF,uF,uF,uF,uF,uF,uF,uF,uF,uF,uF,uF,uF,uF,uF,uF,uF,uF,uF,uF,uF,uF,uF,uF,uF,uF,uF,uF,uF,uF,uF,uF,uF,uF,uF,uF,uF,uF,uF,uF,uF,uF,uF,uF,uF,uF,uF,uF,uF,uF,uF,uF,uF,uF,uF,uF,uF,uF,uF,uF,uF,uF,uF,uF,uF,uF,uF],[(.lst true 3),(.lst true 3),(.lst true 4),(.dat false 25)],[⟨0,4,[uT,⟨true,(.ptr 0 0)⟩,⟨true,(.lit (.slice none 0 0))⟩,⟨true,(.lit (.bool false))⟩,⟨true,(.osl 1 4)⟩,⟨true,(.osl 2 3)⟩,⟨true,(.osl 3 3)⟩,⟨false,(.int .i64)⟩,uT,⟨false,(.int .i64)⟩,uT,uT,uT,⟨false,(.rows 3)⟩,uT,uT,uT,uT,uT,uT,uT,uT,uT,uT,uT,uT,uT,uT,uT,uT,uT,uT,uT,uT,uT,uT,uT,uT,uT,uT,uT,uT,uT,uT,uT,uT,uT,uT,uT,uT,uT,uT,uT,uT,uT,uT,uT,uT,uT,uT,uT,uT,uT,uT,uT,uT,uT,uT,uT,uT,uT,uT,uT,uT,uT,uT,uT,uT,uT,uT,uT,uT,uT,uT,uT,uT,uT,uT,uT,uT,uT,uT,uT,uT,uT,uT,uT,uT,uT,uT,uT,uT,uT,uT,uT,uT,uT,uT,uT,uT,uT,uT,uT,uT,uT,uT,uT,uT,uT,uT,uT,uT,uT,uT,uT,uT,uT,uT,uT,uT],[(.lst true 3),(.lst true 3),(.lst true 4),(.dat false 25)]⟩,⟨1,0,[uT,uT,⟨true,(.lit (.slice none 0 0))⟩,⟨true,(.lit (.bool false))⟩,uT,uT,uT,⟨false,(.int .i64)⟩,uT,⟨false,(.int .i64)⟩,uT,uT,uT,⟨false,(.rows 3)⟩,uT,uT,uT,uT,uT,uT,uT,uT,uT,uT,uT,uT,uT,uT,uT,uT,uT,uT,uT,uT,uT,uT,uT,uT,uT,uT,uT,uT,uT,uT,uT,uT,uT,uT,uT,uT,uT,uT,uT,uT,uT,uT,uT,uT,uT,uT,uT,uT,uT,uT,uT,uT,uT,uT,uT,uT,uT,uT,uT,uT,uT,uT,uT,uT,uT,uT,uT,uT,uT,uT,uT,uT,uT,uT,uT,uT,uT,uT,uT,uT,uT,uT,uT,uT,uT,uT,uT,uT,uT,uT,uT,uT,uT,uT,uT,uT,uT,uT,uT,uT,uT,uT,uT,uT,uT,uT,uT,uT,uT,uT,uT,uT,uT,uT,uT,uT],[.skip, .skip, .skip,(.dat false 25)]⟩]⟩
def st18_21 (p s:List D):Option (Sum (List D) (List D)):=stepQX env tbl18_13 60 12 18 (loopC 18 21) S18_21 p s
theorem st18_21_e (pn0:Int) (pn1:Int) (pd2:D) (pd3:D) (sn0:Int) (sd1:D) (sd2:D) (sd3:D):st18_21 [(D.int pn0),(D.int pn1),pd2,pd3] [(D.int sn0),sd1,sd2,sd3] =
 let x0:=qinb pd2 sn0
 let x1:=qint (qget pd2 sn0)
 let x2:=qcmp .leq 0 x1
 let x3:=qlen sd3
 let x4:=qcmp .lss x1 x3
 let x5:=qinb sd3 x1
 let x6:=qbool (qget sd3 x1)
 let x7:=qlen sd2
 let x8:=qcmp .lss x1 x7
 let x9:=qinb sd2 x1
 let x10:=D.int pn0
 let x11:=D.int pn1
 let x12:=qcmp .eql (qlen sd1) (qlen sd1)
 let x13:=qapp sd1 (.list [.int x1])
 let x14:=qlen x13
 let x15:=qset sd3 x1 (.bool true)
 let x16:=qset sd2 x1 x11
 let x17:=D.int (qbin .add .i64 sn0 1)
 let x18:=qcmp .eql x3 x3
 let x19:=qcmp .eql x7 x7
 bif qcmp .lss sn0 (qlen pd2)then gd x0<|gd x2<|gd x4<|gd x5<|gd (qiteB x6 (qand x0 (qand x2 (qand x8 x9))) true)<|bif qiteB x6 (qcmp .neq (qint (qget sd2 x1)) pn1) false then ge x10<|ge x11<|ge pd2<|ge pd3<|some (Sum.inr [.int 1])else gd x0<|gd x2<|gd x4<|gd x5<|bif qnot x6 then gd x0<|gd x2<|gd x4<|gd x5<|gd x0<|gd x2<|gd x8<|gd x9<|gd x0<|gd x12<|gd (qmem x14 8)<|gd (qcmp .eql x3 (qlen x15))<|gd (qcmp .eql x7 (qlen x16))<|gd (qcmp .eql x14 x14)<|ge x10<|ge x11<|ge pd2<|ge pd3<|some (Sum.inl [x17,x13,x16,x15])else gd x18<|gd x19<|gd x12<|ge x10<|ge x11<|ge pd2<|ge pd3<|some (Sum.inl [x17,sd1,sd2,sd3])else gd x18<|gd x19<|gd x12<|ge x10<|ge x11<|ge pd2<|ge pd3<|some (Sum.inr [.int 0,sd1,sd2,sd3]):=by kernel_rfl
def st18_21_eq:=by have h:= @st18_21_e;simp only[ge_id,gd,qeqD_self,qeqI_self,qeq_len,qeq_l,cond_true]at h;exact h
def l18_21:List D→List D→Option (List D):=veil fun p s=>loW (st18_21 p) s
theorem l18_21_eq:l18_21=fun p s=>loW (st18_21 p) s:=veil_eq _
def tbl18_21:Tb:=Tb.addL tbl18_13 18 21 S18_21.n0 (mkLp S18_21 (l18_21))
theorem ok_tbl18_21:TbOk env (tbl18_21):=addLoopQ ok_tbl18_13 18 21 (by kernel_rfl) _ (l18_21_eq)
def S18_8:LoopS:=⟨0,[uF,⟨false,(.ptr 0 0)⟩,⟨false,(.lit (.slice none 0 0))⟩,⟨false,(.lit (.bool false))⟩,⟨false,(.osl 1 4)⟩,⟨false,(.osl 2 3)⟩,⟨false,(.osl 3 3)⟩,⟨true,(.int .i64)⟩,uF,uF,uF,uF,uF,uF,uF,uF,uF,uF,uF,uF,uF,uF,uF,uF,uF,uF,uF,uF,uF,uF,uF,uF,uF,uF,uF,uF,uF,uF,uF,uF,uF,uF,uF,uF,uF,uF,uF,uF,uF,uF,uF,uF,uF,uF,uF,uF,uF,uF,uF,uF,uF,uF,uF,uF,uF,uF,uF,uF,uF,uF,uF,uF,uF,uF,uF,uF,uF,uF,uF,uF,uF,uF,uF,uF,uF,uF,uF,uF,uF,uF,uF,uF,uF,uF,uF,uF,uF,uF,uF,uF,uF,uF,uF,uF,uF,uF,uF,uF,uF,uF,uF,uF,uF,uF,uF,uF,uF,uF,uF,uF,uF,uF,uF,uF,uF,uF,uF,uF,uF,uF],[(.lst true 3),(.lst true 3),(.lst true 4),(.dat false 25)],[⟨0,0,[uT,uT,⟨true,(.lit (.slice none 0 0))⟩,⟨true,(.lit (.bool false))⟩,uT,⟨true,(.osl 2 3)⟩,uT,uT,uT,uT,uT,uT,uT,uT,uT,uT,uT,uT,uT,uT,uT,uT,uT,uT,uT,uT,uT,uT,uT,uT,uT,uT,uT,uT,uT,uT,uT,uT,uT,uT,uT,uT,uT,uT,uT,uT,uT,uT,uT,uT,uT,uT,uT,uT,uT,uT,uT,uT,uT,uT,uT,uT,uT,uT,uT,uT,uT,uT,uT,uT,uT,uT,uT,uT,uT,uT,uT,uT,uT,uT,uT,uT,uT,uT,uT,uT,uT,uT,uT,uT,uT,uT,uT,uT,uT,uT,uT,uT,uT,uT,uT,uT,uT,uT,uT,uT,uT,uT,uT,uT,uT,uT,uT,uT,uT,uT,uT,uT,uT,uT,uT,uT,uT,uT,uT,uT,uT,uT,uT,uT],[.skip,(.lst true 3), .skip,(.dat false 25)]⟩,⟨1,0,[uT,uT,⟨true,(.lit (.slice none 0 0))⟩,⟨true,(.lit (.bool false))⟩,uT,uT,uT,uT,uT,uT,uT,uT,uT,uT,uT,uT,uT,uT,uT,uT,uT,uT,uT,uT,uT,uT,uT,uT,uT,uT,uT,uT,uT,uT,uT,uT,uT,uT,uT,uT,uT,uT,uT,uT,uT,uT,uT,uT,uT,uT,uT,uT,uT,uT,uT,uT,uT,uT,uT,uT,uT,uT,uT,uT,uT,uT,uT,uT,uT,uT,uT,uT,uT,uT,uT,uT,uT,uT,uT,uT,uT,uT,uT,uT,uT,uT,uT,uT,uT,uT,uT,uT,uT,uT,uT,uT,uT,uT,uT,uT,uT,uT,uT,uT,uT,uT,uT,uT,uT,uT,uT,uT,uT,uT,uT,uT,uT,uT,uT,uT,uT,uT,uT,uT,uT,uT,uT,uT,uT,uT],[.skip, .skip, .skip,(.dat false 25)]⟩]⟩
def st18_8 (p s:List D):Option (Sum (List D) (List D)):=stepQX env tbl18_21 60 12 18 (loopC 18 8) S18_8 p s
theorem st18_8_e (pd0:D) (sn0:Int) (sd1:D) (sd2:D) (sd3:D):st18_8 [pd0] [(D.int sn0),sd1,sd2,sd3] =
 let x0:=qlen sd1
 let x1:=qcmp .lss sn0 x0
 let x2:=qint (qget sd1 sn0)
 let x3:=qlen sd2
 let x4:=qcmp .eql (qlen sd3) (qlen sd3)
 let x5:=qcmp .eql x3 x3
 let x6:=qcmp .eql x0 x0
 let x7:=D.int 0
 let x8:=l18_13 [.int sn0,.int x2,sd1,sd2,sd3,pd0] [.int (qint (qget sd2 x2)),x7]
 let x9:=q48 [qget (qfld pd0 1) x2]
 let x10:=l18_21 [.int sn0,.int (qint (qnth x8 1)),qnth x9 0,pd0] [x7,sd1,sd2,sd3]
 let x11:Option (List D ⊕ List D):=ge pd0<|some (Sum.inr [.int 1])
 bif x1 then gd (qcmp .leq 0 sn0)<|gd x1<|gd (qinb sd1 sn0)<|gd (qcmp .leq 0 x2)<|gd (qcmp .lss x2 x3)<|gd (qinb sd2 x2)<|gd x4<|gd x5<|gd x6<|gd (qsome x8)<|bif qcmp .eql (qint (qnth x8 0)) 0 then gd (qinb (qfld pd0 1) x2)<|gd (qsome x9)<|gd x4<|gd x5<|gd x6<|gd (qsome x10)<|bif qcmp .eql (qint (qnth x10 0)) 0 then gd (qcmp .eql (qlen (qnth x10 3)) (qlen (qnth x10 3)))<|gd (qcmp .eql (qlen (qnth x10 2)) (qlen (qnth x10 2)))<|gd (qcmp .eql (qlen (qnth x10 1)) (qlen (qnth x10 1)))<|ge pd0<|some (Sum.inl [.int (qbin .add .i64 sn0 1),qnth x10 1,qnth x10 2,qnth x10 3])else x11 else x11 else gd x5<|ge pd0<|some (Sum.inr [x7,sd2]):=by kernel_rfl
def st18_8_eq:=by have h:= @st18_8_e;simp only[ge_id,gd,qeqD_self,qeqI_self,qeq_len,qeq_l,cond_true]at h;exact h
def l18_8:List D→List D→Option (List D):=veil fun p s=>loW (st18_8 p) s
theorem l18_8_eq:l18_8=fun p s=>loW (st18_8 p) s:=veil_eq _
def tbl18_8:Tb:=Tb.addL tbl18_21 18 8 S18_8.n0 (mkLp S18_8 (l18_8))
theorem ok_tbl18_8:TbOk env (tbl18_8):=addLoopQ ok_tbl18_21 18 8 (by kernel_rfl) _ (l18_8_eq)
def S18:FunS:=⟨[⟨true,(.dat 25)⟩],[],[⟨true,(.tup [(.rows 3), .bool])⟩],[]⟩
def F18:List D→Option (List D):=liftX env tbl18_8 60 12 18 S18
theorem F18_e (sd0:D):F18 [sd0] =
 let x0:=q35 [sd0]
 let x1:=D.bool false
 let x2:Option (List D):=some [.list [],x1]
 let x3:=qlen (qfld sd0 1)
 let x4:=qcmp .leq 0 x3
 let x5:=qcmp .leq x3 x3
 let x6:=qrep x3 x1
 let x7:=D.bool true
 let x8:=qset x6 0 x7
 let x9:=D.int 0
 let x10:=qrep x3 x9
 let x11:=D.list [x9]
 let x12:=l18_8 [sd0] [x9,x11,x10,x8]
 gd (qsome x0)<|bif qcmp .neq (qint (qnth x0 0)) 0 then x2 else gd x4<|gd x5<|gd (qmem x3 1)<|gd x4<|gd x5<|gd (qmem x3 8)<|gd (qcmp .leq 0 0)<|gd (qcmp .lss 0 x3)<|gd (qinb x6 0)<|gd (qcmp .eql x3 (qlen x8))<|gd (qcmp .eql x3 (qlen x10))<|gd (qcmp .eql 1 (qlen x11))<|gd (qsome x12)<|bif qcmp .eql (qint (qnth x12 0)) 0 then gd (qcmp .eql (qlen (qnth x12 1)) (qlen (qnth x12 1)))<|some [qnth x12 1,x7]else x2:=by kernel_rfl
def F18_eq:=by have h:= @F18_e;simp only[ge_id,gd,qeqD_self,qeqI_self,qeq_len,qeq_l,cond_true]at h;exact h
def q18:List D→Option (List D):=veil (F18)
theorem q18_eq:q18=F18:=veil_eq _
end
end Go.Proofs.YtfdedgmlafelaaaGreatDoor
open Go Go.AM
namespace Go.Proofs.YtfdedgmlafelaaaGreatDoor
set_option maxRecDepth 100000
set_option linter.unusedSimpArgs false
set_option linter.unusedVariables false
set_option linter.defProp false
end Go.Proofs.YtfdedgmlafelaaaGreatDoor
open Go Go.AM
namespace Go.Proofs.YtfdedgmlafelaaaGreatDoor
noncomputable section
set_option maxRecDepth 100000
set_option linter.unusedSimpArgs false
set_option linter.unusedVariables false
set_option linter.defProp false
def S148_148:FunS:=⟨[⟨true,(.int .i64)⟩,⟨true,(.edat 25)⟩],[],[⟨true, .bool⟩],[]⟩
def F148_148:List D→Option (List D):=liftX env tb17 60 12 148 S148_148
theorem F148_148_eq (sn0:Int) (sd1:D):F148_148 [(D.int sn0),sd1] =
 some [(D.bool (qiteB (qcmp BinOp.lss sn0 0) Bool.true (qcmp BinOp.geq sn0 (qlen (qfld sd1 1)))))]:=by kernel_rfl
def q148_148:List D→Option (List D):=veil (F148_148)
theorem q148_148_eq:q148_148=F148_148:=veil_eq _
def tb148_148:Tb:=Tb.addF tb17 148 S148_148 (q148_148)
theorem ok_tb148_148:TbOk env (tb148_148):=addFunF ok_tb17 148 (by kernel_rfl) _ (q148_148_eq)
def S122_148_2:LoopS:=⟨0,[⟨false,(.rows 3)⟩,⟨false,(.func 148 [] [(.edat 25)])⟩,uF,uF,⟨false,(.lit (.int .i64 0))⟩,uF,uF,⟨false,(.int .i64)⟩,⟨true,(.int .i64)⟩,uF,uF,uF,uF,uF,uF,uF,uF,uF,uF],[],[⟨0,0,[⟨false,(.rows 3)⟩,⟨false,(.func 148 [] [(.edat 25)])⟩,uT,uT,⟨true,(.lit (.int .i64 0))⟩,uT,uT,⟨false,(.int .i64)⟩,uT,uT,uT,uT,uT,uT,uT,uT,uT,uT,uT],[]⟩,⟨1,0,[⟨false,(.rows 3)⟩,⟨false,(.func 148 [] [(.edat 25)])⟩,uT,uT,⟨true,(.int .i64)⟩,uT,uT,⟨false,(.int .i64)⟩,uT,uT,uT,uT,uT,uT,uT,uT,uT,uT,uT],[]⟩]⟩
def st122_148_2 (p s:List D):Option (Sum (List D) (List D)):=stepQX env tb148_148 60 12 122 (loopC 122 2) S122_148_2 p s
theorem st122_148_2_e (pd0:D) (pd1:D) (pn2:Int) (sn0:Int):st122_148_2 [pd0,pd1,(D.int pn2)] [(D.int sn0)] =
 let x0:=q148_148 [.int (qint (qget pd0 sn0)),pd1]
 let x1:=D.int pn2
 bif qcmp .lss sn0 pn2 then gd (qinb pd0 sn0)<|gd (qsome x0)<|bif qbool (qnth x0 0)then ge pd0<|ge pd1<|ge x1<|some (Sum.inr [.int 1,.int sn0])else ge pd0<|ge pd1<|ge x1<|some (Sum.inl [.int (qbin .add .i64 sn0 1)])else ge pd0<|ge pd1<|ge x1<|some (Sum.inr [.int 0]):=by kernel_rfl
def st122_148_2_eq:=by have h:= @st122_148_2_e;simp only[ge_id,gd,qeqD_self,qeqI_self,qeq_len,qeq_l,cond_true]at h;exact h
def l122_148_2:List D→List D→Option (List D):=veil fun p s=>loW (st122_148_2 p) s
theorem l122_148_2_eq:l122_148_2=fun p s=>loW (st122_148_2 p) s:=veil_eq _
def tbl122_148_2:Tb:=Tb.addL tb148_148 122 2 S122_148_2.n0 (mkLp S122_148_2 (l122_148_2))
theorem ok_tbl122_148_2:TbOk env (tbl122_148_2):=addLoopQ ok_tb148_148 122 2 (by kernel_rfl) _ (l122_148_2_eq)
def S122_148:FunS:=⟨[⟨true,(.rows 3)⟩,⟨true,(.func 148 [] [(.edat 25)])⟩],[],[⟨true,(.int .i64)⟩],[]⟩
def F122_148:List D→Option (List D):=liftX env tbl122_148_2 60 12 122 S122_148
theorem F122_148_eq (sd0:D) (sd1:D):F122_148 [sd0,sd1] =
 bif (qsome (l122_148_2 [sd0,sd1,(D.int (qlen sd0))] [(D.int 0)]))then
 bif (qcmp BinOp.eql (qint (qnth (l122_148_2 [sd0,sd1,(D.int (qlen sd0))] [(D.int 0)]) 0)) 0)then
 some [(D.int (-1))]
 else
 some [(D.int (qint (qnth (l122_148_2 [sd0,sd1,(D.int (qlen sd0))] [(D.int 0)]) 1)))]
 else
 none:=by kernel_rfl
def q122_148:List D→Option (List D):=veil (F122_148)
theorem q122_148_eq:q122_148=F122_148:=veil_eq _
def tb122_148:Tb:=Tb.addF tbl122_148_2 122 S122_148 (q122_148)
theorem ok_tb122_148:TbOk env (tb122_148):=addFunF ok_tbl122_148_2 122 (by kernel_rfl) _ (q122_148_eq)
def S147_148_5:LoopS:=⟨0,[⟨false,(.rows 3)⟩,⟨false,(.func 148 [] [(.edat 25)])⟩,uF,uF,⟨false,(.lit (.slice none 0 0))⟩,⟨false,(.int .i64)⟩,⟨true,(.int .i64)⟩,uF,uF,uF,uF,uF,uF,uF,uF,uF,uF,uF,uF,uF,uF,uF,uF,uF,uF,uF,uF,uF,uF,uF,uF,uF,uF,uF,uF,uF,uF,uF,uF,uF,uF,uF],[],[⟨0,0,[⟨false,(.rows 3)⟩,⟨false,(.func 148 [] [(.edat 25)])⟩,uT,uT,⟨true,(.lit (.slice none 0 0))⟩,⟨false,(.int .i64)⟩,uT,uT,uT,uT,uT,uT,uT,uT,uT,uT,uT,uT,uT,uT,uT,uT,uT,uT,uT,uT,uT,uT,uT,uT,uT,uT,uT,uT,uT,uT,uT,uT,uT,uT,uT,uT],[]⟩]⟩
def st147_148_5 (p s:List D):Option (Sum (List D) (List D)):=stepQX env tb122_148 60 12 147 (loopC 147 5) S147_148_5 p s
def l147_148_5:List D→List D→Option (List D):=veil fun p s=>loW (st147_148_5 p) s
theorem l147_148_5_eq:l147_148_5=fun p s=>loW (st147_148_5 p) s:=veil_eq _
def tbl147_148_5:Tb:=Tb.addL tb122_148 147 5 S147_148_5.n0 (mkLp S147_148_5 (l147_148_5))
theorem ok_tbl147_148_5:TbOk env (tbl147_148_5):=addLoopQ ok_tb122_148 147 5 (by kernel_rfl) _ (l147_148_5_eq)
def S147_148:FunS:=⟨[⟨true,(.rows 3)⟩,⟨true,(.func 148 [] [(.edat 25)])⟩],[],[⟨true,(.rows 3)⟩],[]⟩
def F147_148:List D→Option (List D):=liftX env tbl147_148_5 1 12 147 S147_148
theorem F147_148_e (sd0:D) (sd1:D):F147_148 [sd0,sd1] =
 let x0:=q122_148 [sd0,sd1]
 let x1:=qint (qnth x0 0)
 let x2:=qlen sd0
 gd (qsome x0)<|bif qcmp .eql x1 (-1)then some [sd0]else gd (qsome (l147_148_5 [sd0,sd1,.int x1] [.int (qbin .add .i64 x1 1)]))<|gd (qcmp .leq 0 x1)<|gd (qcmp .leq x1 x2)<|gd (qcmp .leq x2 x2) none:=by kernel_rfl
def F147_148_eq:=by have h:= @F147_148_e;simp only[ge_id,gd,qeqD_self,qeqI_self,qeq_len,qeq_l,cond_true]at h;exact h
def q147_148:List D→Option (List D):=veil (F147_148)
theorem q147_148_eq:q147_148=F147_148:=veil_eq _
def tb147_148:Tb:=Tb.addF tbl147_148_5 147 S147_148 (q147_148)
theorem ok_tb147_148:TbOk env (tb147_148):=addFunK 1 ok_tbl147_148_5 147 (by kernel_rfl) _ (q147_148_eq)
end
end Go.Proofs.YtfdedgmlafelaaaGreatDoor
open Go Go.AM
namespace Go.Proofs.YtfdedgmlafelaaaGreatDoor
noncomputable section
set_option maxRecDepth 100000
set_option linter.unusedSimpArgs false
set_option linter.unusedVariables false
set_option linter.defProp false
def S127:FunS:=⟨[⟨true,(.dat 25)⟩,⟨true,(.int .i64)⟩],[],[⟨true,(.rows 3)⟩],[]⟩
def F127:List D→Option (List D):=liftX env tb147_148 60 12 127 S127
theorem F127_e (sd0:D) (sn1:Int):F127 [sd0,(D.int sn1)] =
 let x0:=qfld (qget (qfld sd0 1) sn1) 1
 let x1:=qbin .sub .i64 (qlen x0) 1
 let x2:=qget x0 x1
 let x3:=qint (qfld x2 0)
 let x4:=D.int (qint (qfld x2 3))
 let x5:=q147_148 [.list [x4],sd0]
 let x6:=q147_148 [.list [x4,.int (qint (qfld x2 4))],sd0]
 let x7:=q53 [qfld x2 7]
 let x8:=q147_148 [qnth x7 0,sd0]
 let x9:=q147_148 [.list [],sd0]
 gd (qinb (qfld sd0 1) sn1)<|bif qcmp .eql (qlen x0) 0 then some [.list []]else gd (qinb x0 x1)<|bif qcmp .eql x3 6 then gd (qsome x5)<|some [qnth x5 0]else bif qcmp .eql x3 7 then gd (qsome x6)<|some [qnth x6 0]else bif qcmp .eql x3 8 then gd (qsome x7)<|gd (qsome x8)<|some [qnth x8 0]else gd (qsome x9)<|some [qnth x9 0]:=by kernel_rfl
def F127_eq:=by have h:= @F127_e;simp only[ge_id,gd,qeqD_self,qeqI_self,qeq_len,qeq_l,cond_true]at h;exact h
def q127:List D→Option (List D):=veil (F127)
theorem q127_eq:q127=F127:=veil_eq _
def tb127:Tb:=Tb.addF tb147_148 127 S127 (q127)
theorem ok_tb127:TbOk env (tb127):=addFunF ok_tb147_148 127 (by kernel_rfl) _ (q127_eq)
def S96_3:LoopS:=⟨0,[uF,⟨false,(.ptr 0 0)⟩,⟨false,(.lit (.slice none 0 0))⟩,⟨false,(.osl 1 46)⟩,uF,uF,uF,uF,uF,uF,uF,⟨false,(.int .i64)⟩,⟨true,(.int .i64)⟩,uF,uF,uF,uF,uF,uF,uF,uF,uF,uF],[(.lst true 46),(.dat false 25)],[⟨0,0,[uT,uT,⟨true,(.lit (.slice none 0 0))⟩,⟨true,(.osl 1 46)⟩,uT,uT,uT,uT,uT,uT,uT,⟨false,(.int .i64)⟩,uT,uT,uT,uT,uT,uT,uT,uT,uT,uT,uT],[(.lst true 46),(.dat false 25)]⟩]⟩
def st96_3 (p s:List D):Option (Sum (List D) (List D)):=stepQX env tb127 60 12 96 (loopC 96 3) S96_3 p s
theorem st96_3_e (pn0:Int) (pd1:D) (sn0:Int) (sd1:D):st96_3 [(D.int pn0),pd1] [(D.int sn0),sd1] =
 let x0:=q127 [pd1,.int sn0]
 let x1:=qlen sd1
 let x2:=qset sd1 sn0 (qnth x0 0)
 bif qcmp .lss sn0 pn0 then gd (qsome x0)<|gd (qcmp .leq 0 sn0)<|gd (qcmp .lss sn0 x1)<|gd (qinb sd1 sn0)<|gd (qcmp .eql x1 (qlen x2))<|ge (.int pn0)<|ge pd1<|some (Sum.inl [.int (qbin .add .i64 sn0 1),x2])else gd (qcmp .eql x1 x1)<|ge (.int pn0)<|ge pd1<|some (Sum.inr [.int 0,sd1]):=by kernel_rfl
def st96_3_eq:=by have h:= @st96_3_e;simp only[ge_id,gd,qeqD_self,qeqI_self,qeq_len,qeq_l,cond_true]at h;exact h
def l96_3:List D→List D→Option (List D):=veil fun p s=>loW (st96_3 p) s
theorem l96_3_eq:l96_3=fun p s=>loW (st96_3 p) s:=veil_eq _
def tbl96_3:Tb:=Tb.addL tb127 96 3 S96_3.n0 (mkLp S96_3 (l96_3))
theorem ok_tbl96_3:TbOk env (tbl96_3):=addLoopQ ok_tb127 96 3 (by kernel_rfl) _ (l96_3_eq)
def S96:FunS:=⟨[⟨true,(.dat 25)⟩],[],[⟨true,(.rows 46)⟩],[]⟩
def F96:List D→Option (List D):=liftX env tbl96_3 60 12 96 S96
theorem F96_e (sd0:D):F96 [sd0] =
 let x0:=qlen (qfld sd0 1)
 let x1:=qrep x0 (.list [])
 let x2:=l96_3 [.int x0,sd0] [.int 0,x1]
 gd (qcmp .leq 0 x0)<|gd (qcmp .leq x0 x0)<|gd (qmem x0 24)<|gd (qcmp .eql x0 (qlen x1))<|gd (qsome x2)<|gd (qcmp .eql (qlen (qnth x2 1)) (qlen (qnth x2 1)))<|some [qnth x2 1]:=by kernel_rfl
def F96_eq:=by have h:= @F96_e;simp only[ge_id,gd,qeqD_self,qeqI_self,qeq_len,qeq_l,cond_true]at h;exact h
def q96:List D→Option (List D):=veil (F96)
theorem q96_eq:q96=F96:=veil_eq _
def tb96:Tb:=Tb.addF tbl96_3 96 S96 (q96)
theorem ok_tb96:TbOk env (tb96):=addFunF ok_tbl96_3 96 (by kernel_rfl) _ (q96_eq)
end
end Go.Proofs.YtfdedgmlafelaaaGreatDoor
open Go Go.AM
namespace Go.Proofs.YtfdedgmlafelaaaGreatDoor
noncomputable section
set_option maxRecDepth 100000
set_option linter.unusedSimpArgs false
set_option linter.unusedVariables false
set_option linter.defProp false
def S125:FunS:=⟨[⟨true,(.int .i64)⟩,⟨true,(.ptr 1 0)⟩,⟨true,(.ptr 0 0)⟩,⟨true,(.ptr 3 0)⟩,⟨true,(.ptr 2 0)⟩],[(.lst true 3),(.lst true 4),(.cells [⟨false,(.func 125 [] [(.ptr 1 0),(.ptr 0 0),(.ptr 3 0),(.ptr 2 0)])⟩]),(.cells [⟨false,(.osl 5 3)⟩]),(.cells [⟨false,(.osl 4 4)⟩]),(.cells [⟨false,(.rows 46)⟩])],[⟨true,(.tup [])⟩],[(.lst true 3),(.lst true 4), .skip, .skip,(.cells [⟨false,(.func 125 [] [(.ptr 1 0),(.ptr 0 0),(.ptr 3 0),(.ptr 2 0)])⟩]),(.cells [⟨true,(.osl 7 3)⟩]),(.cells [⟨true,(.osl 6 4)⟩]),(.cells [⟨false,(.rows 46)⟩])]⟩
def tbR125 (Q:List D→Option (List D)):Tb:=Tb.addF tb96 125 S125 Q
theorem ok_tbR125 (Q:List D→Option (List D)) (hQ:SoundF env.P 125 S125 Q):TbOk env (tbR125 Q):=TbOk.addF ok_tb96 (by kernel_rfl) hQ
def S125_2:LoopS:=⟨6,[⟨false,(.int .i64)⟩,⟨false,(.ptr 1 0)⟩,uF,⟨false,(.ptr 3 0)⟩,⟨false,(.ptr 2 0)⟩,uF,uF,uF,uF,uF,uF,uF,uF,uF,⟨false,(.rows 3)⟩,⟨false,(.int .i64)⟩,⟨true,(.int .i64)⟩,uF,uF,uF,uF,uF,uF,uF,uF,uF,uF,uF,uF,uF,uF,uF,uF],[(.lst true 3),(.lst true 4), .skip, .skip,(.cells [⟨false,(.func 125 [] [(.ptr 1 0),(.ptr 0 0),(.ptr 3 0),(.ptr 2 0)])⟩]),(.cells [⟨false,(.osl 7 3)⟩]),(.cells [⟨false,(.osl 6 4)⟩]),(.cells [⟨false,(.rows 46)⟩])],[⟨0,0,[⟨false,(.int .i64)⟩,uT,uT,uT,⟨true,(.ptr 2 0)⟩,uT,uT,uT,uT,uT,uT,uT,uT,uT,⟨false,(.rows 3)⟩,⟨false,(.int .i64)⟩,uT,uT,uT,uT,uT,uT,uT,uT,uT,uT,uT,uT,uT,uT,uT,uT,uT],[(.lst true 3),(.lst true 4), .skip, .skip,(.cells [⟨true,(.func 125 [] [(.ptr 1 0),(.ptr 0 0),(.ptr 3 0),(.ptr 2 0)])⟩]),(.cells [⟨true,(.osl 7 3)⟩]),(.cells [⟨true,(.osl 6 4)⟩]),(.cells [⟨false,(.rows 46)⟩])]⟩]⟩
def st125_2 (Q:List D→Option (List D)) (p s:List D):Option (Sum (List D) (List D)):=stepQX env (tbR125 Q) 60 12 125 (loopC 125 2) S125_2 p s
theorem st125_2_e (Q:List D→Option (List D)) (pn0:Int) (pd1:D) (pn2:Int) (pd3:D) (sn0:Int) (sd1:D) (sd2:D):st125_2 Q [(D.int pn0),pd1,(D.int pn2),pd3] [(D.int sn0),sd1,sd2] =
 let x0:=qint (qget pd1 sn0)
 let x1:=qlen sd2
 let x2:=qcmp .eql (qlen sd1) (qlen sd1)
 let x3:=qcmp .eql x1 x1
 let x4:=Q [pd3,.int x0,sd1,sd2]
 let x5:=D.int pn0
 let x6:=D.int pn2
 let x7:=D.int (qbin .add .i64 sn0 1)
 bif qcmp .lss sn0 pn2 then gd (qinb pd1 sn0)<|gd (qcmp .leq 0 x0)<|gd (qcmp .lss x0 x1)<|gd (qinb sd2 x0)<|bif qnot (qbool (qget sd2 x0))then gd x2<|gd x3<|gd (qsome x4)<|gd (qcmp .eql (qlen (qnth x4 0)) (qlen (qnth x4 0)))<|gd (qcmp .eql (qlen (qnth x4 1)) (qlen (qnth x4 1)))<|ge x5<|ge pd1<|ge x6<|ge pd3<|some (Sum.inl [x7,qnth x4 0,qnth x4 1])else gd x2<|gd x3<|ge x5<|ge pd1<|ge x6<|ge pd3<|some (Sum.inl [x7,sd1,sd2])else gd x2<|gd x3<|ge x5<|ge pd1<|ge x6<|ge pd3<|some (Sum.inr [.int 0,sd1,sd2]):=by kernel_rfl
def st125_2_eq:=by have h:= @st125_2_e;simp only[ge_id,gd,qeqD_self,qeqI_self,qeq_len,qeq_l,cond_true]at h;exact h
def l125_2 (Q:List D→Option (List D)):List D→List D→Option (List D):=veil fun p s=>loW (st125_2 Q p) s
theorem l125_2_eq (Q:List D→Option (List D)):l125_2 Q=fun p s=>loW (st125_2 Q p) s:=veil_eq _
def tbl125_2 (Q:List D→Option (List D)):Tb:=Tb.addL (tbR125 Q) 125 2 S125_2.n0 (mkLp S125_2 (l125_2 Q))
theorem ok_tbl125_2 (Q:List D→Option (List D)) (hQ:SoundF env.P 125 S125 Q):TbOk env (tbl125_2 Q):=addLoopQ (ok_tbR125 Q hQ) 125 2 (by kernel_rfl) _ (l125_2_eq Q)
def Fb125 (Q:List D→Option (List D)):List D→Option (List D):=liftX env (tbl125_2 Q) 60 12 125 S125
theorem Fb125_e (Q:List D→Option (List D)) (pd0:D) (sn0:Int) (sd1:D) (sd2:D):Fb125 Q [pd0,(D.int sn0),sd1,sd2] =
 let x0:=qset sd2 sn0 (.bool true)
 let x1:=qget pd0 sn0
 let x2:=l125_2 Q [.int sn0,x1,.int (qlen x1),pd0] [.int 0,sd1,x0]
 let x3:=qapp (qnth x2 1) (.list [.int sn0])
 let x4:=qlen x3
 gd (qcmp .leq 0 sn0)<|gd (qcmp .lss sn0 (qlen sd2))<|gd (qinb sd2 sn0)<|gd (qinb pd0 sn0)<|gd (qcmp .eql (qlen sd1) (qlen sd1))<|gd (qcmp .eql (qlen sd2) (qlen x0))<|gd (qsome x2)<|gd (qcmp .eql (qlen (qnth x2 1)) (qlen (qnth x2 1)))<|gd (qmem x4 8)<|gd (qcmp .eql x4 x4)<|gd (qcmp .eql (qlen (qnth x2 2)) (qlen (qnth x2 2)))<|ge pd0<|some [x3,qnth x2 2]:=by kernel_rfl
def Fb125_eq:=by have h:= @Fb125_e;simp only[ge_id,gd,qeqD_self,qeqI_self,qeq_len,qeq_l,cond_true]at h;exact h
def F125:Nat→List D→Option (List D):=levels Fb125
theorem F125_s (n:Nat):F125 (n+1)=Fb125 (F125 n):=rfl
def q125:List D→Option (List D):=veil fun ds=>F125 (fuelL ds) ds
theorem q125_eq:q125=fun ds=>F125 (fuelL ds) ds:=veil_eq _
theorem sound125:SoundF env.P 125 S125 q125:=recF (fun q=>tbl125_2 q) (fun q hq=>ok_tbl125_2 q hq) q125_eq
def tb125:Tb:=Tb.addF tb96 125 S125 q125
theorem ok_tb125:TbOk env tb125:=TbOk.addF ok_tb96 (by kernel_rfl) sound125
end
end Go.Proofs.YtfdedgmlafelaaaGreatDoor
open Go Go.AM
namespace Go.Proofs.YtfdedgmlafelaaaGreatDoor
noncomputable section
set_option maxRecDepth 100000
set_option linter.unusedSimpArgs false
set_option linter.unusedVariables false
set_option linter.defProp false
def S126_1:LoopS:=⟨1,[⟨false,(.osl 0 3)⟩,uF,⟨true,(.int .i64)⟩,⟨true,(.int .i64)⟩,uF,uF,uF,uF,uF,uF,uF,uF,uF,uF,uF,uF,uF,uF,uF,uF,uF,uF,uF,uF,uF,uF,uF,uF],[(.lst true 3)],[⟨0,0,[uT,uT,uT,uT,uT,uT,uT,uT,uT,uT,uT,uT,uT,uT,uT,uT,uT,uT,uT,uT,uT,uT,uT,uT,uT,uT,uT,uT],[(.lst true 3)]⟩]⟩
def st126_1 (p s:List D):Option (Sum (List D) (List D)):=stepQX env tb125 60 12 126 (loopC 126 1) S126_1 p s
theorem st126_1_e (sn0:Int) (sn1:Int) (sd2:D):st126_1 [] [(D.int sn0),(D.int sn1),sd2] =
 let x0:=qcmp .leq 0 sn1
 let x1:=qlen sd2
 let x2:=qcmp .lss sn1 x1
 let x3:=qcmp .leq 0 sn0
 let x4:=qcmp .lss sn0 x1
 let x5:=qinb sd2 sn0
 let x6:=qset sd2 sn0 (.int (qint (qget sd2 sn1)))
 let x7:=qset x6 sn1 (.int (qint (qget sd2 sn0)))
 bif qcmp .lss sn0 sn1 then gd x0<|gd x2<|gd (qinb sd2 sn1)<|gd x3<|gd x4<|gd x5<|gd x3<|gd x4<|gd x5<|gd x0<|gd x2<|gd (qinb x6 sn1)<|gd (qcmp .eql x1 (qlen x7))<|some (Sum.inl [.int (qbin .add .i64 sn0 1),.int (qbin .sub .i64 sn1 1),x7])else some (Sum.inr [.int 0,sd2]):=by kernel_rfl
def st126_1_eq:=by have h:= @st126_1_e;simp only[ge_id,gd,qeqD_self,qeqI_self,qeq_len,qeq_l,cond_true]at h;exact h
def l126_1:List D→List D→Option (List D):=veil fun p s=>loW (st126_1 p) s
theorem l126_1_eq:l126_1=fun p s=>loW (st126_1 p) s:=veil_eq _
def tbl126_1:Tb:=Tb.addL tb125 126 1 S126_1.n0 (mkLp S126_1 (l126_1))
theorem ok_tbl126_1:TbOk env (tbl126_1):=addLoopQ ok_tb125 126 1 (by kernel_rfl) _ (l126_1_eq)
def S126:FunS:=⟨[⟨true,(.osl 0 3)⟩],[(.lst true 3)],[⟨true,(.tup [])⟩],[(.lst true 3)]⟩
def F126:List D→Option (List D):=liftX env tbl126_1 60 12 126 S126
theorem F126_e (sd0:D):F126 [sd0] =
 let x0:=qlen sd0
 let x1:=l126_1 [] [.int 0,.int (qbin .sub .i64 x0 1),sd0]
 gd (qcmp .eql x0 x0)<|gd (qsome x1)<|some [qnth x1 1]:=by kernel_rfl
def F126_eq:=by have h:= @F126_e;simp only[ge_id,gd,qeqD_self,qeqI_self,qeq_len,qeq_l,cond_true]at h;exact h
def q126:List D→Option (List D):=veil (F126)
theorem q126_eq:q126=F126:=veil_eq _
def tb126:Tb:=Tb.addF tbl126_1 126 S126 (q126)
theorem ok_tb126:TbOk env (tb126):=addFunF ok_tbl126_1 126 (by kernel_rfl) _ (q126_eq)
end
end Go.Proofs.YtfdedgmlafelaaaGreatDoor
open Go Go.AM
namespace Go.Proofs.YtfdedgmlafelaaaGreatDoor
noncomputable section
set_option maxRecDepth 100000
set_option linter.unusedSimpArgs false
set_option linter.unusedVariables false
set_option linter.defProp false
def S95:FunS:=⟨[⟨true,(.rows 46)⟩,⟨true,(.int .i64)⟩],[],[⟨true,(.rows 3)⟩],[]⟩
def F95:List D→Option (List D):=liftX env tb126 60 12 95 S95
theorem F95_e (sd0:D) (sn1:Int):F95 [sd0,(D.int sn1)] =
 let x0:=qlen sd0
 let x1:=D.list []
 let x2:=qrep x0 (.bool false)
 let x3:=q125 [sd0,.int sn1,x1,x2]
 let x4:=qlen (qnth x3 0)
 let x5:=q126 [qnth x3 0]
 bif qcmp .geq sn1 x0 then some [x1]else gd (qcmp .leq 0 x0)<|gd (qcmp .leq x0 x0)<|gd (qmem x0 1)<|gd (qcmp .eql 0 (qlen x1))<|gd (qcmp .eql x0 (qlen x2))<|gd (qsome x3)<|gd (qcmp .eql x4 x4)<|gd (qsome x5)<|gd (qcmp .eql x4 (qlen (qnth x5 0)))<|some [qnth x5 0]:=by kernel_rfl
def F95_eq:=by have h:= @F95_e;simp only[ge_id,gd,qeqD_self,qeqI_self,qeq_len,qeq_l,cond_true]at h;exact h
def q95:List D→Option (List D):=veil (F95)
theorem q95_eq:q95=F95:=veil_eq _
def tb95:Tb:=Tb.addF tb126 95 S95 (q95)
theorem ok_tb95:TbOk env (tb95):=addFunF ok_tb126 95 (by kernel_rfl) _ (q95_eq)
def S51:FunS:=⟨[⟨true,(.dat 25)⟩],[],[⟨true,(.rows 3)⟩],[]⟩
def F51:List D→Option (List D):=liftX env tb95 60 12 51 S51
theorem F51_eq (sd0:D):F51 [sd0] =
 bif (qsome (q96 [sd0]))then
 bif (qsome (q95 [(qnth (q96 [sd0]) 0),(D.int 0)]))then
 some [(qnth (q95 [(qnth (q96 [sd0]) 0),(D.int 0)]) 0)]
 else
 none
 else
 none:=by kernel_rfl
def q51:List D→Option (List D):=veil (F51)
theorem q51_eq:q51=F51:=veil_eq _
def tb51:Tb:=Tb.addF tb95 51 S51 (q51)
theorem ok_tb51:TbOk env (tb51):=addFunF ok_tb95 51 (by kernel_rfl) _ (q51_eq)
def S20_3:LoopS:=⟨0,[uF,uF,⟨false,(.lit (.slice none 0 0))⟩,⟨false,(.osl 0 4)⟩,uF,uF,uF,uF,uF,uF,uF,⟨false,(.rows 3)⟩,⟨false,(.int .i64)⟩,⟨true,(.int .i64)⟩,uF,uF,uF,uF,uF,uF,uF,uF],[(.lst true 4)],[⟨0,0,[uT,uT,⟨true,(.lit (.slice none 0 0))⟩,⟨true,(.osl 0 4)⟩,uT,uT,uT,uT,uT,uT,uT,⟨false,(.rows 3)⟩,⟨false,(.int .i64)⟩,uT,uT,uT,uT,uT,uT,uT,uT,uT],[(.lst true 4)]⟩]⟩
def st20_3 (p s:List D):Option (Sum (List D) (List D)):=stepQX env tb51 60 12 20 (loopC 20 3) S20_3 p s
theorem st20_3_e (pd0:D) (pn1:Int) (sn0:Int) (sd1:D):st20_3 [pd0,(D.int pn1)] [(D.int sn0),sd1] =
 let x0:=qint (qget pd0 sn0)
 let x1:=qlen sd1
 let x2:=qset sd1 x0 (.bool true)
 bif qcmp .lss sn0 pn1 then gd (qinb pd0 sn0)<|gd (qcmp .leq 0 x0)<|gd (qcmp .lss x0 x1)<|gd (qinb sd1 x0)<|gd (qcmp .eql x1 (qlen x2))<|ge pd0<|ge (.int pn1)<|some (Sum.inl [.int (qbin .add .i64 sn0 1),x2])else gd (qcmp .eql x1 x1)<|ge pd0<|ge (.int pn1)<|some (Sum.inr [.int 0,sd1]):=by kernel_rfl
def st20_3_eq:=by have h:= @st20_3_e;simp only[ge_id,gd,qeqD_self,qeqI_self,qeq_len,qeq_l,cond_true]at h;exact h
def l20_3:List D→List D→Option (List D):=veil fun p s=>loW (st20_3 p) s
theorem l20_3_eq:l20_3=fun p s=>loW (st20_3 p) s:=veil_eq _
def tbl20_3:Tb:=Tb.addL tb51 20 3 S20_3.n0 (mkLp S20_3 (l20_3))
theorem ok_tbl20_3:TbOk env (tbl20_3):=addLoopQ ok_tb51 20 3 (by kernel_rfl) _ (l20_3_eq)
def S20:FunS:=⟨[⟨true,(.dat 25)⟩],[],[⟨true,(.rows 4)⟩],[]⟩
def F20:List D→Option (List D):=liftX env tbl20_3 60 12 20 S20
theorem F20_e (sd0:D):F20 [sd0] =
 let x0:=qlen (qfld sd0 1)
 let x1:=q51 [sd0]
 let x2:=qrep x0 (.bool false)
 let x3:=l20_3 [qnth x1 0,.int (qlen (qnth x1 0))] [.int 0,x2]
 gd (qcmp .leq 0 x0)<|gd (qcmp .leq x0 x0)<|gd (qmem x0 1)<|gd (qsome x1)<|gd (qcmp .eql x0 (qlen x2))<|gd (qsome x3)<|gd (qcmp .eql (qlen (qnth x3 1)) (qlen (qnth x3 1)))<|some [qnth x3 1]:=by kernel_rfl
def F20_eq:=by have h:= @F20_e;simp only[ge_id,gd,qeqD_self,qeqI_self,qeq_len,qeq_l,cond_true]at h;exact h
def q20:List D→Option (List D):=veil (F20)
theorem q20_eq:q20=F20:=veil_eq _
def tb20:Tb:=Tb.addF tbl20_3 20 S20 (q20)
theorem ok_tb20:TbOk env (tb20):=addFunF ok_tbl20_3 20 (by kernel_rfl) _ (q20_eq)
end
end Go.Proofs.YtfdedgmlafelaaaGreatDoor
open Go Go.AM
namespace Go.Proofs.YtfdedgmlafelaaaGreatDoor
set_option maxRecDepth 100000
set_option linter.unusedSimpArgs false
set_option linter.unusedVariables false
set_option linter.defProp false
end Go.Proofs.YtfdedgmlafelaaaGreatDoor
