/-
  Made by gen3.py: what functions of the seat compute, as partial functions on data, and that they do.
-/
import Derived.Test.YteccopaonadbeaaGreatDoorM1
import Derived.KernelRfl
set_option linter.unusedVariables false
set_option linter.unusedSimpArgs false
open Go Go.AM
namespace Go.Proofs.YteccopaonadbeaaGreatDoor
noncomputable section
set_option maxRecDepth 100000
set_option linter.unusedSimpArgs false
set_option linter.unusedVariables false
set_option linter.defProp false
def S84_2:LoopS:=⟨0,[⟨false,(.rows 133)⟩,⟨false,(.rows 133)⟩,uF,uF,⟨false,(.lit (.int .i64 0))⟩,⟨true,(.int .i64)⟩,uF,uF,uF,uF,uF,uF,uF,uF,uF,uF,uF,uF,uF,uF,uF,uF,uF,uF,uF,uF,uF,uF,uF,uF,uF,uF,uF,uF,uF,uF,uF,uF,uF,uF,uF,uF,uF,uF,uF,uF,uF],[],[⟨0,0,[⟨false,(.rows 133)⟩,⟨false,(.rows 133)⟩,uT,uT,⟨true,(.lit (.int .i64 0))⟩,uT,uT,uT,uT,uT,uT,uT,uT,uT,uT,uT,uT,uT,uT,uT,uT,uT,uT,uT,uT,uT,uT,uT,uT,uT,uT,uT,uT,uT,uT,uT,uT,uT,uT,uT,uT,uT,uT,uT,uT,uT,uT],[]⟩,⟨1,0,[⟨false,(.rows 133)⟩,⟨false,(.rows 133)⟩,uT,uT,⟨true,(.int .i64)⟩,uT,uT,uT,uT,uT,uT,uT,uT,uT,uT,uT,uT,uT,uT,uT,uT,uT,uT,uT,uT,uT,uT,uT,uT,uT,uT,uT,uT,uT,uT,uT,uT,uT,uT,uT,uT,uT,uT,uT,uT,uT,uT],[]⟩]⟩
def st84_2 (p s:List D):Option (Sum (List D) (List D)):=stepQX env tb147 60 12 84 (loopC 84 2) S84_2 p s
theorem st84_2_e (pd0:D) (pd1:D) (sn0:Int):st84_2 [pd0,pd1] [(D.int sn0)] =
 let y0:=q86 [(.str (qstr (qfld (qget pd1 sn0) 0)))]
 let y1:=q146 [pd0,(.str (qstr (qfld (qget pd1 sn0) 0)))]
 let y2:=q146 [(qsub pd1 0 sn0),(.str (qstr (qfld (qget pd1 sn0) 0)))]
 let y3:=q147 [(.agg [(.int (qint (qfld (qfld (qget pd1 sn0) 1) 0))),(.int (qint (qfld (qfld (qget pd1 sn0) 1) 1))),(.int (qint (qfld (qfld (qget pd1 sn0) 1) 2))),(qfld (qfld (qget pd1 sn0) 1) 3),(qfld (qfld (qget pd1 sn0) 1) 4)])]
 let x0:=qinb pd1 sn0
 let x1:=D.int 1
 let x2:Option (List D ⊕ List D):=ge pd0<|ge pd1<|some (Sum.inr [x1,.int 8])
 let x3:=qint (qnth y3 0)
 bif qcmp .lss sn0 (qlen pd1)then gd x0<|gd (qsome y0)<|bif qnot (qbool (qnth y0 0))then ge pd0<|ge pd1<|some (Sum.inr [x1,.int 3])else gd x0<|gd (qsome y1)<|bif qbool (qnth y1 0)then x2 else gd (qcmp .leq 0 0)<|gd (qcmp .leq 0 sn0)<|gd (qcmp .leq sn0 (qlen pd1))<|gd x0<|gd (qsome y2)<|bif qbool (qnth y2 0)then x2 else gd x0<|gd (qsome y3)<|bif qcmp .neq x3 0 then ge pd0<|ge pd1<|some (Sum.inr [x1,.int x3])else ge pd0<|ge pd1<|some (Sum.inl [.int (qbin .add .i64 sn0 1)])else ge pd0<|ge pd1<|some (Sum.inr [.int 0]):=by kernel_rfl
def st84_2_eq:=by have h:= @st84_2_e;simp only[ge_id,gd,qeqD_self,qeqI_self,qeqB_self,qand_tt,qeq_len,qeq_l,cond_true]at h;exact h
def l84_2:List D→List D→Option (List D):=veil fun p s=>loW (st84_2 p) s
theorem l84_2_eq:l84_2=fun p s=>loW (st84_2 p) s:=veil_eq _
def tbl84_2:Tb:=Tb.addL tb147 84 2 S84_2.n0 (mkLp S84_2 (l84_2))
theorem ok_tbl84_2:TbOk env (tbl84_2):=addLoopQ ok_tb147 84 2 (by kernel_rfl) _ (l84_2_eq)
def S84:FunS:=⟨[⟨true,(.rows 133)⟩,⟨true,(.rows 133)⟩],[],[⟨true,(.int .i64)⟩],[]⟩
def F84:List D→Option (List D):=liftX env tbl84_2 60 12 84 S84
theorem F84_e (sd0:D) (sd1:D):F84 [sd0,sd1] =
 let y0:=l84_2 [sd0,sd1] [(.int 0)]
 gd (qsome y0)<|bif qcmp .eql (qint (qnth y0 0)) 0 then some [.int 0]else some [.int (qint (qnth y0 1))]:=by kernel_rfl
def F84_eq:=by have h:= @F84_e;simp only[ge_id,gd,qeqD_self,qeqI_self,qeqB_self,qand_tt,qeq_len,qeq_l,cond_true]at h;exact h
def q84:List D→Option (List D):=veil (F84)
theorem q84_eq:q84=F84:=veil_eq _
def tb84:Tb:=Tb.addF tbl84_2 84 S84 (q84)
theorem ok_tb84:TbOk env (tb84):=addFunF ok_tbl84_2 84 (by kernel_rfl) _ (q84_eq)
def S85_7:LoopS:=⟨0,[⟨false,(.rows 48)⟩,uF,⟨false,(.lit (.int .i64 0))⟩,⟨false,(.int .i64)⟩,⟨true,(.int .i64)⟩,uF,uF,uF,uF,uF,uF,uF,uF,uF,uF,uF,uF,uF,uF,uF,uF,uF,uF,uF,uF,uF,uF,uF,uF,uF,uF,uF,uF,uF,uF,uF,uF,uF,uF,uF,uF],[],[⟨0,2,[⟨false,(.rows 48)⟩,uT,⟨true,(.lit (.int .i64 0))⟩,⟨false,(.int .i64)⟩,uT,uT,uT,uT,uT,uT,uT,uT,uT,uT,uT,uT,uT,uT,uT,uT,uT,uT,uT,uT,uT,uT,uT,uT,uT,uT,uT,uT,uT,uT,uT,uT,uT,uT,uT,uT,uT],[]⟩,⟨1,0,[⟨false,(.rows 48)⟩,uT,⟨true,(.lit (.int .i64 8))⟩,⟨false,(.int .i64)⟩,uT,uT,uT,uT,uT,uT,uT,uT,uT,uT,uT,uT,uT,uT,uT,uT,uT,uT,uT,uT,uT,uT,uT,uT,uT,uT,uT,uT,uT,uT,uT,uT,uT,uT,uT,uT,uT],[]⟩]⟩
def st85_7 (p s:List D):Option (Sum (List D) (List D)):=stepQX env tb84 60 12 85 (loopC 85 7) S85_7 p s
theorem st85_7_e (pd0:D) (pn1:Int) (sn0:Int):st85_7 [pd0,(D.int pn1)] [(D.int sn0)] =
 let y0:=qcmpS .eql (qstr (qfld (qget pd0 sn0) 0)) (qstr (qfld (qget pd0 pn1) 0))
 let x0:=D.int pn1
 bif qcmp .lss sn0 pn1 then gd (qinb pd0 sn0)<|gd (qinb pd0 pn1)<|bif y0 then ge pd0<|ge x0<|some (Sum.inr [.int 1])else ge pd0<|ge x0<|some (Sum.inl [.int (qbin .add .i64 sn0 1)])else ge pd0<|ge x0<|some (Sum.inr [.int 0]):=by kernel_rfl
def st85_7_eq:=by have h:= @st85_7_e;simp only[ge_id,gd,qeqD_self,qeqI_self,qeqB_self,qand_tt,qeq_len,qeq_l,cond_true]at h;exact h
def l85_7:List D→List D→Option (List D):=veil fun p s=>loW (st85_7 p) s
theorem l85_7_eq:l85_7=fun p s=>loW (st85_7 p) s:=veil_eq _
def tbl85_7:Tb:=Tb.addL tb84 85 7 S85_7.n0 (mkLp S85_7 (l85_7))
theorem ok_tbl85_7:TbOk env (tbl85_7):=addLoopQ ok_tb84 85 7 (by kernel_rfl) _ (l85_7_eq)
def S85_2:LoopS:=⟨0,[⟨false,(.rows 48)⟩,uF,⟨false,(.lit (.int .i64 0))⟩,⟨true,(.int .i64)⟩,uF,uF,uF,uF,uF,uF,uF,uF,uF,uF,uF,uF,uF,uF,uF,uF,uF,uF,uF,uF,uF,uF,uF,uF,uF,uF,uF,uF,uF,uF,uF,uF,uF,uF,uF,uF,uF],[],[⟨0,0,[⟨false,(.rows 48)⟩,uT,⟨true,(.lit (.int .i64 0))⟩,uT,uT,uT,uT,uT,uT,uT,uT,uT,uT,uT,uT,uT,uT,uT,uT,uT,uT,uT,uT,uT,uT,uT,uT,uT,uT,uT,uT,uT,uT,uT,uT,uT,uT,uT,uT,uT,uT],[]⟩,⟨1,0,[⟨false,(.rows 48)⟩,uT,⟨true,(.int .i64)⟩,uT,uT,uT,uT,uT,uT,uT,uT,uT,uT,uT,uT,uT,uT,uT,uT,uT,uT,uT,uT,uT,uT,uT,uT,uT,uT,uT,uT,uT,uT,uT,uT,uT,uT,uT,uT,uT,uT],[]⟩]⟩
def st85_2 (p s:List D):Option (Sum (List D) (List D)):=stepQX env tbl85_7 60 12 85 (loopC 85 2) S85_2 p s
theorem st85_2_e (pd0:D) (sn0:Int):st85_2 [pd0] [(D.int sn0)] =
 let y0:=q86 [(.str (qstr (qfld (qget pd0 sn0) 0)))]
 let y1:=l85_7 [pd0,(.int sn0)] [(.int 0)]
 let x0:=qinb pd0 sn0
 let x1:=D.int 1
 bif qcmp .lss sn0 (qlen pd0)then gd x0<|gd (qsome y0)<|bif qnot (qbool (qnth y0 0))then ge pd0<|some (Sum.inr [x1,.int 3])else gd (qsome y1)<|bif qcmp .eql (qint (qnth y1 0)) 0 then gd x0<|bif qcmp .gtr (qlen (qfld (qget pd0 sn0) 2)) 65536 then ge pd0<|some (Sum.inr [x1,.int 6])else ge pd0<|some (Sum.inl [.int (qbin .add .i64 sn0 1)])else ge pd0<|some (Sum.inr [x1,.int 8])else ge pd0<|some (Sum.inr [.int 0]):=by kernel_rfl
def st85_2_eq:=by have h:= @st85_2_e;simp only[ge_id,gd,qeqD_self,qeqI_self,qeqB_self,qand_tt,qeq_len,qeq_l,cond_true]at h;exact h
def l85_2:List D→List D→Option (List D):=veil fun p s=>loW (st85_2 p) s
theorem l85_2_eq:l85_2=fun p s=>loW (st85_2 p) s:=veil_eq _
def tbl85_2:Tb:=Tb.addL tbl85_7 85 2 S85_2.n0 (mkLp S85_2 (l85_2))
theorem ok_tbl85_2:TbOk env (tbl85_2):=addLoopQ ok_tbl85_7 85 2 (by kernel_rfl) _ (l85_2_eq)
def S85:FunS:=⟨[⟨true,(.rows 48)⟩],[],[⟨true,(.int .i64)⟩],[]⟩
def F85:List D→Option (List D):=liftX env tbl85_2 60 12 85 S85
theorem F85_e (sd0:D):F85 [sd0] =
 let y0:=qsome (l85_2 [sd0] [(.int 0)])
 let y1:=qnth (l85_2 [sd0] [(.int 0)]) 0
 let y2:=qnth (l85_2 [sd0] [(.int 0)]) 1
 gd y0<|bif qcmp .eql (qint y1) 0 then some [.int 0]else some [.int (qint y2)]:=by kernel_rfl
def F85_eq:=by have h:= @F85_e;simp only[ge_id,gd,qeqD_self,qeqI_self,qeqB_self,qand_tt,qeq_len,qeq_l,cond_true]at h;exact h
def q85:List D→Option (List D):=veil (F85)
theorem q85_eq:q85=F85:=veil_eq _
def tb85:Tb:=Tb.addF tbl85_2 85 S85 (q85)
theorem ok_tb85:TbOk env (tb85):=addFunF ok_tbl85_2 85 (by kernel_rfl) _ (q85_eq)
def S87_2:LoopS:=⟨0,[⟨false,(.rows 61)⟩,⟨false,(.int .i64)⟩,⟨false, .str⟩,uF,uF,uF,⟨false,(.lit (.bool false))⟩,⟨true,(.int .i64)⟩,uF,uF,uF,uF,uF,uF,uF,uF,uF,uF,uF,uF],[],[⟨0,0,[⟨false,(.rows 61)⟩,⟨false,(.int .i64)⟩,⟨false, .str⟩,uT,uT,uT,⟨true,(.lit (.bool false))⟩,uT,uT,uT,uT,uT,uT,uT,uT,uT,uT,uT,uT,uT],[]⟩,⟨1,0,[⟨false,(.rows 61)⟩,⟨false,(.int .i64)⟩,⟨false, .str⟩,uT,uT,uT,⟨true,(.lit (.bool true))⟩,uT,uT,uT,uT,uT,uT,uT,uT,uT,uT,uT,uT,uT],[]⟩]⟩
def st87_2 (p s:List D):Option (Sum (List D) (List D)):=stepQX env tb85 60 12 87 (loopC 87 2) S87_2 p s
theorem st87_2_e (pd0:D) (pn1:Int) (ps2:ByteArray) (sn0:Int):st87_2 [pd0,(D.int pn1),(D.str ps2)] [(D.int sn0)] =
 let x0:=D.int pn1
 let x1:=D.str ps2
 bif qcmp .lss sn0 pn1 then gd (qinb pd0 sn0)<|bif qcmpS .eql (qstr (qfld (qget pd0 sn0) 0)) ps2 then ge pd0<|ge x0<|ge x1<|some (Sum.inr [.int 1])else ge pd0<|ge x0<|ge x1<|some (Sum.inl [.int (qbin .add .i64 sn0 1)])else ge pd0<|ge x0<|ge x1<|some (Sum.inr [.int 0]):=by kernel_rfl
def st87_2_eq:=by have h:= @st87_2_e;simp only[ge_id,gd,qeqD_self,qeqI_self,qeqB_self,qand_tt,qeq_len,qeq_l,cond_true]at h;exact h
def l87_2:List D→List D→Option (List D):=veil fun p s=>loW (st87_2 p) s
theorem l87_2_eq:l87_2=fun p s=>loW (st87_2 p) s:=veil_eq _
def tbl87_2:Tb:=Tb.addL tb85 87 2 S87_2.n0 (mkLp S87_2 (l87_2))
theorem ok_tbl87_2:TbOk env (tbl87_2):=addLoopQ ok_tb85 87 2 (by kernel_rfl) _ (l87_2_eq)
def S87:FunS:=⟨[⟨true,(.rows 61)⟩,⟨true,(.int .i64)⟩,⟨true, .str⟩],[],[⟨true, .bool⟩],[]⟩
def F87:List D→Option (List D):=liftX env tbl87_2 60 12 87 S87
theorem F87_e (sd0:D) (sn1:Int) (ss2:ByteArray):F87 [sd0,(D.int sn1),(D.str ss2)] =
 let y0:=l87_2 [sd0,(.int sn1),(.str ss2)] [(.int 0)]
 gd (qsome y0)<|bif qcmp .eql (qint (qnth y0 0)) 0 then some [.bool false]else some [.bool true]:=by kernel_rfl
def F87_eq:=by have h:= @F87_e;simp only[ge_id,gd,qeqD_self,qeqI_self,qeqB_self,qand_tt,qeq_len,qeq_l,cond_true]at h;exact h
def q87:List D→Option (List D):=veil (F87)
theorem q87_eq:q87=F87:=veil_eq _
def tb87:Tb:=Tb.addF tbl87_2 87 S87 (q87)
theorem ok_tb87:TbOk env (tb87):=addFunF ok_tbl87_2 87 (by kernel_rfl) _ (q87_eq)
def S149:FunS:=⟨[⟨true,(.rows 102)⟩,⟨true,(.int .i64)⟩],[],[⟨true,(.int .i64)⟩],[]⟩
def tbR149 (Q:List D→Option (List D)):Tb:=Tb.addF tb87 149 S149 Q
theorem ok_tbR149 (Q:List D→Option (List D)) (hQ:SoundF env.P 149 S149 Q):TbOk env (tbR149 Q):=TbOk.addF ok_tb87 (by kernel_rfl) hQ
def S149_14:LoopS:=⟨0,[⟨false,(.rows 102)⟩,⟨false,(.int .i64)⟩,uF,uF,⟨false,(.lit (.int .i64 0))⟩,⟨true,(.int .i64)⟩,⟨false,(.int .i64)⟩,uF,⟨true,(.int .i64)⟩,uF,uF,uF,uF,uF,uF,uF,uF,uF,uF,uF,uF,uF,uF,uF,uF,uF,uF,uF,uF,uF,uF,uF,uF,uF,uF,uF,uF,uF,uF,uF,uF,uF,uF,uF,uF,uF,uF,uF,uF,uF,uF,uF,uF,uF,uF,uF,uF,uF,uF,uF,uF,uF,uF,uF,uF,uF,uF,uF,uF,uF,uF,uF,uF],[],[⟨0,2,[⟨false,(.rows 102)⟩,⟨false,(.int .i64)⟩,uT,uT,⟨true,(.lit (.int .i64 0))⟩,⟨true,(.int .i64)⟩,⟨false,(.int .i64)⟩,uT,uT,uT,uT,uT,uT,uT,uT,uT,uT,uT,uT,uT,uT,uT,uT,uT,uT,uT,uT,uT,uT,uT,uT,uT,uT,uT,uT,uT,uT,uT,uT,uT,uT,uT,uT,uT,uT,uT,uT,uT,uT,uT,uT,uT,uT,uT,uT,uT,uT,uT,uT,uT,uT,uT,uT,uT,uT,uT,uT,uT,uT,uT,uT,uT,uT],[]⟩]⟩
def st149_14 (Q:List D→Option (List D)) (p s:List D):Option (Sum (List D) (List D)):=stepQX env (tbR149 Q) 60 12 149 (loopC 149 14) S149_14 p s
theorem st149_14_e (Q:List D→Option (List D)) (pd0:D) (pn1:Int) (pn2:Int) (sn0:Int) (sn1:Int):st149_14 Q [pd0,(D.int pn1),(D.int pn2)] [(D.int sn0),(D.int sn1)] =
 let y0:=qsome (Q [(qget (qfld (qget pd0 pn2) 6) sn1),(.int (qbin .sub .i64 pn1 1))])
 let y1:=qnth (Q [(qget (qfld (qget pd0 pn2) 6) sn1),(.int (qbin .sub .i64 pn1 1))]) 0
 let x0:=qinb pd0 pn2
 let x1:=qfld (qget pd0 pn2) 6
 let x2:=D.int pn1
 let x3:=D.int pn2
 let x4:=D.int (qbin .add .i64 sn1 1)
 gd x0<|bif qcmp .lss sn1 (qlen x1)then gd x0<|gd (qinb x1 sn1)<|gd y0<|bif qcmp .gtr (qint y1) sn0 then ge pd0<|ge x2<|ge x3<|some (Sum.inl [.int (qint y1),x4])else ge pd0<|ge x2<|ge x3<|some (Sum.inl [.int sn0,x4])else ge pd0<|ge x2<|ge x3<|some (Sum.inr [.int 0,.int sn0]):=by kernel_rfl
def st149_14_eq:=by have h:= @st149_14_e;simp only[ge_id,gd,qeqD_self,qeqI_self,qeqB_self,qand_tt,qeq_len,qeq_l,cond_true]at h;exact h
def l149_14 (Q:List D→Option (List D)):List D→List D→Option (List D):=veil fun p s=>loW (st149_14 Q p) s
theorem l149_14_eq (Q:List D→Option (List D)):l149_14 Q=fun p s=>loW (st149_14 Q p) s:=veil_eq _
def tbl149_14 (Q:List D→Option (List D)):Tb:=Tb.addL (tbR149 Q) 149 14 S149_14.n0 (mkLp S149_14 (l149_14 Q))
theorem ok_tbl149_14 (Q:List D→Option (List D)) (hQ:SoundF env.P 149 S149 Q):TbOk env (tbl149_14 Q):=addLoopQ (ok_tbR149 Q hQ) 149 14 (by kernel_rfl) _ (l149_14_eq Q)
def S149_5:LoopS:=⟨0,[⟨false,(.rows 102)⟩,⟨false,(.int .i64)⟩,uF,uF,⟨false,(.lit (.int .i64 0))⟩,⟨true,(.int .i64)⟩,⟨true,(.int .i64)⟩,uF,uF,uF,uF,uF,uF,uF,uF,uF,uF,uF,uF,uF,uF,uF,uF,uF,uF,uF,uF,uF,uF,uF,uF,uF,uF,uF,uF,uF,uF,uF,uF,uF,uF,uF,uF,uF,uF,uF,uF,uF,uF,uF,uF,uF,uF,uF,uF,uF,uF,uF,uF,uF,uF,uF,uF,uF,uF,uF,uF,uF,uF,uF,uF,uF,uF],[],[⟨0,0,[⟨false,(.rows 102)⟩,⟨false,(.int .i64)⟩,uT,uT,⟨true,(.lit (.int .i64 0))⟩,⟨true,(.int .i64)⟩,uT,uT,uT,uT,uT,uT,uT,uT,uT,uT,uT,uT,uT,uT,uT,uT,uT,uT,uT,uT,uT,uT,uT,uT,uT,uT,uT,uT,uT,uT,uT,uT,uT,uT,uT,uT,uT,uT,uT,uT,uT,uT,uT,uT,uT,uT,uT,uT,uT,uT,uT,uT,uT,uT,uT,uT,uT,uT,uT,uT,uT,uT,uT,uT,uT,uT,uT],[]⟩]⟩
def st149_5 (Q:List D→Option (List D)) (p s:List D):Option (Sum (List D) (List D)):=stepQX env (tbl149_14 Q) 60 12 149 (loopC 149 5) S149_5 p s
theorem st149_5_e (Q:List D→Option (List D)) (pd0:D) (pn1:Int) (sn0:Int) (sn1:Int):st149_5 Q [pd0,(D.int pn1)] [(D.int sn0),(D.int sn1)] =
 let y0:=qsome (Q [(qfld (qget pd0 sn1) 4),(.int (qbin .sub .i64 pn1 1))])
 let y1:=qsome (Q [(qfld (qget pd0 sn1) 5),(.int (qbin .sub .i64 pn1 1))])
 let y2:=qnth (Q [(qfld (qget pd0 sn1) 5),(.int (qbin .sub .i64 pn1 1))]) 0
 let y3:=qnth (Q [(qfld (qget pd0 sn1) 4),(.int (qbin .sub .i64 pn1 1))]) 0
 let y4:=qcmp .gtr (qint y2) (qiteI (qcmp .gtr (qint y3) sn0) (qint y3) sn0)
 let y5:=qiteI y4 (qint y2) (qiteI (qcmp .gtr (qint y3) sn0) (qint y3) sn0)
 let y6:=l149_14 Q [pd0,(.int pn1),(.int sn1)] [(.int y5),(.int 0)]
 let x0:=qinb pd0 sn1
 bif qcmp .lss sn1 (qlen pd0)then gd x0<|gd y0<|gd x0<|gd y1<|gd (qsome y6)<|ge pd0<|ge (.int pn1)<|some (Sum.inl [.int (qint (qnth y6 1)),.int (qbin .add .i64 sn1 1)])else ge pd0<|ge (.int pn1)<|some (Sum.inr [.int 0,.int sn0]):=by kernel_rfl
def st149_5_eq:=by have h:= @st149_5_e;simp only[ge_id,gd,qeqD_self,qeqI_self,qeqB_self,qand_tt,qeq_len,qeq_l,cond_true]at h;exact h
def l149_5 (Q:List D→Option (List D)):List D→List D→Option (List D):=veil fun p s=>loW (st149_5 Q p) s
theorem l149_5_eq (Q:List D→Option (List D)):l149_5 Q=fun p s=>loW (st149_5 Q p) s:=veil_eq _
def tbl149_5 (Q:List D→Option (List D)):Tb:=Tb.addL (tbl149_14 Q) 149 5 S149_5.n0 (mkLp S149_5 (l149_5 Q))
theorem ok_tbl149_5 (Q:List D→Option (List D)) (hQ:SoundF env.P 149 S149 Q):TbOk env (tbl149_5 Q):=addLoopQ (ok_tbl149_14 Q hQ) 149 5 (by kernel_rfl) _ (l149_5_eq Q)
def Fb149 (Q:List D→Option (List D)):List D→Option (List D):=liftX env (tbl149_5 Q) 60 12 149 S149
theorem Fb149_e (Q:List D→Option (List D)) (sd0:D) (sn1:Int):Fb149 Q [sd0,(D.int sn1)] =
 let y0:=qiteB (qcmp .eql (qlen sd0) 0) true (qcmp .lss sn1 0)
 let y1:=l149_5 Q [sd0,(.int sn1)] [(.int 0),(.int 0)]
 bif y0 then some [.int 0]else gd (qsome y1)<|some [.int (qbin .add .i64 (qint (qnth y1 1)) 1)]:=by kernel_rfl
def Fb149_eq:=by have h:= @Fb149_e;simp only[ge_id,gd,qeqD_self,qeqI_self,qeqB_self,qand_tt,qeq_len,qeq_l,cond_true]at h;exact h
def F149:Nat→List D→Option (List D):=levels Fb149
theorem F149_s (n:Nat):F149 (n+1)=Fb149 (F149 n):=rfl
def q149:List D→Option (List D):=veil fun ds=>F149 (fuelL ds) ds
theorem q149_eq:q149=fun ds=>F149 (fuelL ds) ds:=veil_eq _
theorem sound149:SoundF env.P 149 S149 q149:=recF (fun q=>tbl149_5 q) (fun q hq=>ok_tbl149_5 q hq) q149_eq
def tb149:Tb:=Tb.addF tb87 149 S149 q149
theorem ok_tb149:TbOk env tb149:=TbOk.addF ok_tb87 (by kernel_rfl) sound149
def S150:FunS:=⟨[⟨true,(.rows 102)⟩,⟨true, .bool⟩],[],[⟨true,(.rows 241)⟩],[]⟩
def tbR150 (Q:List D→Option (List D)):Tb:=Tb.addF tb149 150 S150 Q
theorem ok_tbR150 (Q:List D→Option (List D)) (hQ:SoundF env.P 150 S150 Q):TbOk env (tbR150 Q):=TbOk.addF ok_tb149 (by kernel_rfl) hQ
def S150_9:LoopS:=⟨0,[⟨false,(.rows 102)⟩,⟨false, .bool⟩,uF,uF,⟨false,(.lit (.slice none 0 0))⟩,⟨false,(.osl 0 241)⟩,⟨false,(.int .i64)⟩,⟨true,(.int .i64)⟩,uF,uF,uF,uF,uF,uF,uF,uF,uF,uF,uF,uF,uF,uF,uF,uF,uF,uF,uF,uF,uF,uF,uF,uF,uF,uF,uF,uF,uF,uF,uF,uF,uF,uF,uF,uF,uF,uF,uF,uF,uF,uF,uF,uF,uF,uF,uF,uF,uF,uF,uF,uF,uF,uF,uF,uF,uF,uF,uF,uF,uF,uF,uF,uF,uF,uF,uF,uF,uF,uF,uF,uF],[(.lst true 241)],[⟨0,2,[⟨false,(.rows 102)⟩,⟨false, .bool⟩,uT,uT,⟨true,(.lit (.slice none 0 0))⟩,⟨true,(.osl 0 241)⟩,⟨false,(.int .i64)⟩,uT,uT,uT,uT,uT,uT,uT,uT,uT,uT,uT,uT,uT,uT,uT,uT,uT,uT,uT,uT,uT,uT,uT,uT,uT,uT,uT,uT,uT,uT,uT,uT,uT,uT,uT,uT,uT,uT,uT,uT,uT,uT,uT,uT,uT,uT,uT,uT,uT,uT,uT,uT,uT,uT,uT,uT,uT,uT,uT,uT,uT,uT,uT,uT,uT,uT,uT,uT,uT,uT,uT,uT,uT],[(.lst true 241)]⟩]⟩
def st150_9 (Q:List D→Option (List D)) (p s:List D):Option (Sum (List D) (List D)):=stepQX env (tbR150 Q) 60 12 150 (loopC 150 9) S150_9 p s
theorem st150_9_e (Q:List D→Option (List D)) (pd0:D) (pb1:Bool) (pn2:Int) (sn0:Int) (sd1:D):st150_9 Q [pd0,(D.bool pb1),(D.int pn2)] [(D.int sn0),sd1] =
 let y0:=qsome (Q [(qget (qfld (qget pd0 pn2) 6) sn0),(.bool pb1)])
 let y1:=qnth (Q [(qget (qfld (qget pd0 pn2) 6) sn0),(.bool pb1)]) 0
 let x0:=qinb pd0 pn2
 let x1:=qfld (qget pd0 pn2) 6
 let x2:=qcmp .eql (qlen sd1) (qlen sd1)
 let x3:=qlen (qapp sd1 y1)
 gd x0<|bif qcmp .lss sn0 (qlen x1)then gd x0<|gd (qinb x1 sn0)<|gd y0<|gd x2<|gd (qmem x3 136)<|gd (qcmp .eql x3 x3)<|ge pd0<|ge (.bool pb1)<|ge (.int pn2)<|some (Sum.inl [.int (qbin .add .i64 sn0 1),qapp sd1 y1])else gd x2<|ge pd0<|ge (.bool pb1)<|ge (.int pn2)<|some (Sum.inr [.int 0,sd1]):=by kernel_rfl
def st150_9_eq:=by have h:= @st150_9_e;simp only[ge_id,gd,qeqD_self,qeqI_self,qeqB_self,qand_tt,qeq_len,qeq_l,cond_true]at h;exact h
def l150_9 (Q:List D→Option (List D)):List D→List D→Option (List D):=veil fun p s=>loW (st150_9 Q p) s
theorem l150_9_eq (Q:List D→Option (List D)):l150_9 Q=fun p s=>loW (st150_9 Q p) s:=veil_eq _
def tbl150_9 (Q:List D→Option (List D)):Tb:=Tb.addL (tbR150 Q) 150 9 S150_9.n0 (mkLp S150_9 (l150_9 Q))
theorem ok_tbl150_9 (Q:List D→Option (List D)) (hQ:SoundF env.P 150 S150 Q):TbOk env (tbl150_9 Q):=addLoopQ (ok_tbR150 Q hQ) 150 9 (by kernel_rfl) _ (l150_9_eq Q)
def S150_3:LoopS:=⟨0,[⟨false,(.rows 102)⟩,⟨false, .bool⟩,uF,uF,⟨false,(.lit (.slice none 0 0))⟩,⟨false,(.osl 0 241)⟩,⟨true,(.int .i64)⟩,uF,uF,uF,uF,uF,uF,uF,uF,uF,uF,uF,uF,uF,uF,uF,uF,uF,uF,uF,uF,uF,uF,uF,uF,uF,uF,uF,uF,uF,uF,uF,uF,uF,uF,uF,uF,uF,uF,uF,uF,uF,uF,uF,uF,uF,uF,uF,uF,uF,uF,uF,uF,uF,uF,uF,uF,uF,uF,uF,uF,uF,uF,uF,uF,uF,uF,uF,uF,uF,uF,uF,uF,uF],[(.lst true 241)],[⟨0,0,[⟨false,(.rows 102)⟩,⟨false, .bool⟩,uT,uT,⟨true,(.lit (.slice none 0 0))⟩,⟨true,(.osl 0 241)⟩,uT,uT,uT,uT,uT,uT,uT,uT,uT,uT,uT,uT,uT,uT,uT,uT,uT,uT,uT,uT,uT,uT,uT,uT,uT,uT,uT,uT,uT,uT,uT,uT,uT,uT,uT,uT,uT,uT,uT,uT,uT,uT,uT,uT,uT,uT,uT,uT,uT,uT,uT,uT,uT,uT,uT,uT,uT,uT,uT,uT,uT,uT,uT,uT,uT,uT,uT,uT,uT,uT,uT,uT,uT,uT],[(.lst true 241)]⟩]⟩
def st150_3 (Q:List D→Option (List D)) (p s:List D):Option (Sum (List D) (List D)):=stepQX env (tbl150_9 Q) 60 12 150 (loopC 150 3) S150_3 p s
theorem st150_3_e (Q:List D→Option (List D)) (pd0:D) (pb1:Bool) (sn0:Int) (sd1:D):st150_3 Q [pd0,(D.bool pb1)] [(D.int sn0),sd1] =
 let y0:=qapp sd1 (.list [(.agg [(.agg [(.int (qint (qfld (qget pd0 sn0) 0))),(.int (qint (qfld (qget pd0 sn0) 1))),(.str (qstr (qfld (qget pd0 sn0) 2))),(qfld (qget pd0 sn0) 3),(qfld (qget pd0 sn0) 4),(qfld (qget pd0 sn0) 5),(qfld (qget pd0 sn0) 6)]),(.bool pb1)])])
 let y1:=qapp y0 (qnth (Q [(qfld (qget pd0 sn0) 4),(.bool true)]) 0)
 let y2:=qapp y1 (qnth (Q [(qfld (qget pd0 sn0) 5),(.bool pb1)]) 0)
 let y3:=l150_9 Q [pd0,(.bool pb1),(.int sn0)] [(.int 0),y2]
 let y4:=qsome (Q [(qfld (qget pd0 sn0) 4),(.bool (qcmp .eql (qint (qfld (qget pd0 sn0) 0)) 8))])
 let y5:=qnth (Q [(qfld (qget pd0 sn0) 4),(.bool (qcmp .eql (qint (qfld (qget pd0 sn0) 0)) 8))]) 0
 let y6:=qapp (qapp y0 y5) (qnth (Q [(qfld (qget pd0 sn0) 5),(.bool pb1)]) 0)
 let y7:=l150_9 Q [pd0,(.bool pb1),(.int sn0)] [(.int 0),y6]
 let x0:=qinb pd0 sn0
 let x1:=qcmp .eql (qlen sd1) (qlen sd1)
 let x2:=qlen y0
 let x3:=qget pd0 sn0
 let x4:=qcmp .eql x2 x2
 let x5:=qlen y1
 let x6:=D.bool pb1
 let x7:=qsome (Q [qfld x3 5,x6])
 let x8:=qlen y2
 let x9:=D.int (qbin .add .i64 sn0 1)
 let x10:Option (List D ⊕ List D):=gd (qsome (Q [qfld x3 4,.bool true]))<|gd x4<|gd (qmem x5 136)<|gd x0<|gd x7<|gd (qcmp .eql x5 x5)<|gd (qmem x8 136)<|gd (qcmp .eql x8 x8)<|gd (qsome y3)<|gd (qcmp .eql (qlen (qnth y3 1)) (qlen (qnth y3 1)))<|ge pd0<|ge x6<|some (Sum.inl [x9,qnth y3 1])
 let x11:=qlen (qapp y0 y5)
 let x12:=qlen y6
 bif qcmp .lss sn0 (qlen pd0)then gd x0<|gd x1<|gd (qmem x2 136)<|gd x0<|bif pb1 then x10 else gd x0<|bif qcmp .eql (qint (qfld x3 0)) 7 then x10 else gd x0<|gd y4<|gd x4<|gd (qmem x11 136)<|gd x0<|gd x7<|gd (qcmp .eql x11 x11)<|gd (qmem x12 136)<|gd (qcmp .eql x12 x12)<|gd (qsome y7)<|gd (qcmp .eql (qlen (qnth y7 1)) (qlen (qnth y7 1)))<|ge pd0<|ge x6<|some (Sum.inl [x9,qnth y7 1])else gd x1<|ge pd0<|ge x6<|some (Sum.inr [.int 0,sd1]):=by kernel_rfl
def st150_3_eq:=by have h:= @st150_3_e;simp only[ge_id,gd,qeqD_self,qeqI_self,qeqB_self,qand_tt,qeq_len,qeq_l,cond_true]at h;exact h
def l150_3 (Q:List D→Option (List D)):List D→List D→Option (List D):=veil fun p s=>loW (st150_3 Q p) s
theorem l150_3_eq (Q:List D→Option (List D)):l150_3 Q=fun p s=>loW (st150_3 Q p) s:=veil_eq _
def tbl150_3 (Q:List D→Option (List D)):Tb:=Tb.addL (tbl150_9 Q) 150 3 S150_3.n0 (mkLp S150_3 (l150_3 Q))
theorem ok_tbl150_3 (Q:List D→Option (List D)) (hQ:SoundF env.P 150 S150 Q):TbOk env (tbl150_3 Q):=addLoopQ (ok_tbl150_9 Q hQ) 150 3 (by kernel_rfl) _ (l150_3_eq Q)
def Fb150 (Q:List D→Option (List D)):List D→Option (List D):=liftX env (tbl150_3 Q) 60 12 150 S150
theorem Fb150_e (Q:List D→Option (List D)) (sd0:D) (sb1:Bool):Fb150 Q [sd0,(D.bool sb1)] =
 let y0:=l150_3 Q [sd0,(.bool sb1)] [(.int 0),(.list [])]
 gd (qcmp .eql 0 (qlen (.list [])))<|gd (qsome y0)<|gd (qcmp .eql (qlen (qnth y0 1)) (qlen (qnth y0 1)))<|some [qnth y0 1]:=by kernel_rfl
def Fb150_eq:=by have h:= @Fb150_e;simp only[ge_id,gd,qeqD_self,qeqI_self,qeqB_self,qand_tt,qeq_len,qeq_l,cond_true]at h;exact h
def F150:Nat→List D→Option (List D):=levels Fb150
theorem F150_s (n:Nat):F150 (n+1)=Fb150 (F150 n):=rfl
def q150:List D→Option (List D):=veil fun ds=>F150 (fuelL ds) ds
theorem q150_eq:q150=fun ds=>F150 (fuelL ds) ds:=veil_eq _
theorem sound150:SoundF env.P 150 S150 q150:=recF (fun q=>tbl150_3 q) (fun q hq=>ok_tbl150_3 q hq) q150_eq
def tb150:Tb:=Tb.addF tb149 150 S150 q150
theorem ok_tb150:TbOk env tb150:=TbOk.addF ok_tb149 (by kernel_rfl) sound150
def S244:FunS:=⟨[⟨true,(.int .i64)⟩],[],[⟨true,(.tup [(.int .i64), .bool, .bool, .bool])⟩],[]⟩
def F244:List D→Option (List D):=liftX env tb150 60 12 244 S244
theorem F244_e (sn0:Int):F244 [(D.int sn0)] =
 let y0:=qiteB (qcmp .eql sn0 12) (qcmp .eql sn0 12) (qcmp .eql sn0 13)
 let y1:=qiteB (qcmp .eql sn0 3) (qcmp .eql sn0 3) (qiteB (qcmp .eql sn0 5) (qcmp .eql sn0 5) y0)
 let y2:=qiteB (qcmp .eql sn0 4) (qcmp .eql sn0 4) (qcmp .eql sn0 9)
 let y3:=qiteB (qcmp .eql sn0 6) (qcmp .eql sn0 6) (qcmp .eql sn0 7)
 let y4:=qiteB (qcmp .eql sn0 14) (qcmp .eql sn0 14) (qcmp .eql sn0 15)
 let y5:=qiteB (qcmp .eql sn0 10) (qcmp .eql sn0 10) (qiteB (qcmp .eql sn0 11) (qcmp .eql sn0 11) y4)
 let x0:=D.int 1
 let x1:=D.bool true
 let x2:=D.bool false
 let x3:=D.int 0
 bif qcmp .eql sn0 1 then some [x0,x1,x2,x1]else bif qcmp .eql sn0 2 then some [.int 2,x2,x2,x1]else bif y1 then some [x3,x1,x2,x1]else bif y2 then some [x0,x2,x2,x1]else bif y3 then some [x0,x2,x1,x1]else bif qcmp .eql sn0 8 then some [x3,x2,x1,x1]else bif y5 then some [x3,x2,x2,x1]else some [x3,x2,x2,x2]:=by kernel_rfl
def F244_eq:=by have h:= @F244_e;simp only[ge_id,gd,qeqD_self,qeqI_self,qeqB_self,qand_tt,qeq_len,qeq_l,cond_true]at h;exact h
def q244:List D→Option (List D):=veil (F244)
theorem q244_eq:q244=F244:=veil_eq _
def tb244:Tb:=Tb.addF tb150 244 S244 (q244)
theorem ok_tb244:TbOk env (tb244):=addFunF ok_tb150 244 (by kernel_rfl) _ (q244_eq)
def S195_9:LoopS:=⟨0,[uF,⟨false,(.ptr 0 0)⟩,⟨false,(.lit (.bool false))⟩,uF,uF,uF,uF,⟨true,(.int .i64)⟩,uF,uF,uF,uF,uF,uF,uF,uF,uF,uF,uF,uF,uF,uF,uF,uF,uF,uF,uF,uF,uF,uF,uF,uF,uF,uF,uF,uF,uF,uF,uF,uF,uF,uF,uF,uF,uF,uF,uF,uF,uF,uF,uF,uF,uF,uF,uF,uF,uF,uF,uF,uF,uF,uF,uF,uF,uF,uF,uF,uF,uF,uF,uF,uF,uF,uF,uF,uF,uF,uF,uF,uF,uF,uF,uF,uF,uF,uF,uF,uF,uF,uF,uF,uF,uF,uF,uF,uF,uF,uF,uF,uF,uF,uF,uF,uF,uF,uF,uF,uF,uF,uF,uF,uF,uF,uF,uF,uF,uF,uF,uF,uF,uF,uF,uF,uF,uF,uF,uF,uF,uF,uF,uF,uF],[(.dat false 102)],[⟨0,0,[uT,uT,⟨true,(.lit (.bool false))⟩,uT,uT,uT,uT,uT,uT,uT,uT,uT,uT,uT,uT,uT,uT,uT,uT,uT,uT,uT,uT,uT,uT,uT,uT,uT,uT,uT,uT,uT,uT,uT,uT,uT,uT,uT,uT,uT,uT,uT,uT,uT,uT,uT,uT,uT,uT,uT,uT,uT,uT,uT,uT,uT,uT,uT,uT,uT,uT,uT,uT,uT,uT,uT,uT,uT,uT,uT,uT,uT,uT,uT,uT,uT,uT,uT,uT,uT,uT,uT,uT,uT,uT,uT,uT,uT,uT,uT,uT,uT,uT,uT,uT,uT,uT,uT,uT,uT,uT,uT,uT,uT,uT,uT,uT,uT,uT,uT,uT,uT,uT,uT,uT,uT,uT,uT,uT,uT,uT,uT,uT,uT,uT,uT,uT,uT,uT,uT,uT,uT],[(.dat false 102)]⟩,⟨1,0,[uT,uT,⟨true,(.lit (.bool false))⟩,uT,uT,uT,uT,uT,uT,uT,uT,uT,uT,uT,uT,uT,uT,uT,uT,uT,uT,uT,uT,uT,uT,uT,uT,uT,uT,uT,uT,uT,uT,uT,uT,uT,uT,uT,uT,uT,uT,uT,uT,uT,uT,uT,uT,uT,uT,uT,uT,uT,uT,uT,uT,uT,uT,uT,uT,uT,uT,uT,uT,uT,uT,uT,uT,uT,uT,uT,uT,uT,uT,uT,uT,uT,uT,uT,uT,uT,uT,uT,uT,uT,uT,uT,uT,uT,uT,uT,uT,uT,uT,uT,uT,uT,uT,uT,uT,uT,uT,uT,uT,uT,uT,uT,uT,uT,uT,uT,uT,uT,uT,uT,uT,uT,uT,uT,uT,uT,uT,uT,uT,uT,uT,uT,uT,uT,uT,uT,uT,uT],[(.dat false 102)]⟩]⟩
def st195_9 (p s:List D):Option (Sum (List D) (List D)):=stepQX env tb244 60 12 195 (loopC 195 9) S195_9 p s
theorem st195_9_e (pd0:D) (sn0:Int):st195_9 [pd0] [(D.int sn0)] =
 let y0:=q245 [(qget (qfld pd0 3) sn0)]
 bif qcmp .lss sn0 (qlen (qfld pd0 3))then gd (qinb (qfld pd0 3) sn0)<|gd (qsome y0)<|bif qnot (qbool (qnth y0 0))then ge pd0<|some (Sum.inr [.int 1])else ge pd0<|some (Sum.inl [.int (qbin .add .i64 sn0 1)])else ge pd0<|some (Sum.inr [.int 0]):=by kernel_rfl
def st195_9_eq:=by have h:= @st195_9_e;simp only[ge_id,gd,qeqD_self,qeqI_self,qeqB_self,qand_tt,qeq_len,qeq_l,cond_true]at h;exact h
def l195_9:List D→List D→Option (List D):=veil fun p s=>loW (st195_9 p) s
theorem l195_9_eq:l195_9=fun p s=>loW (st195_9 p) s:=veil_eq _
def tbl195_9:Tb:=Tb.addL tb244 195 9 S195_9.n0 (mkLp S195_9 (l195_9))
theorem ok_tbl195_9:TbOk env (tbl195_9):=addLoopQ ok_tb244 195 9 (by kernel_rfl) _ (l195_9_eq)
def S195:FunS:=⟨[⟨true,(.dat 102)⟩],[],[⟨true, .bool⟩],[]⟩
def F195:List D→Option (List D):=liftX env tbl195_9 60 12 195 S195
theorem F195_e (sd0:D):F195 [sd0] =
 let y0:=q244 [(.int (qint (qfld sd0 0)))]
 let y1:=qiteB (qnot (qbool (qnth y0 3))) true (qcmp .neq (qlen (qfld sd0 3)) (qint (qnth y0 0)))
 let y2:=q86 [(.str (qstr (qfld sd0 2)))]
 let y3:=qiteB y1 true (qiteB (qbool (qnth y0 1)) (qsome y2) true)
 let y4:=qiteB (qbool (qnth y0 1)) (qnot (qbool (qnth y2 0))) false
 let y5:=qiteB (qnot (qbool (qnth y0 1))) (qcmpS .neq (qstr (qfld sd0 2)) (ByteArray.mk #[])) false
 let y6:=qiteB (qnot (qbool (qnth y0 2))) (qcmp .gtr (qlen (qfld sd0 4)) 0) false
 let y7:=qiteB (qiteB (qiteB y1 true y4) true y5) true y6
 let y8:=qiteB (qcmp .neq (qint (qfld sd0 0)) 6) (qcmp .gtr (qlen (qfld sd0 5)) 0) false
 let y9:=qiteB (qcmp .eql (qint (qfld sd0 0)) 2) (qcmp .neq (qint (qfld sd0 1)) 1) false
 let y10:=qiteB (qiteB y9 (qcmp .neq (qint (qfld sd0 1)) 2) false) (qcmp .neq (qint (qfld sd0 1)) 4) false
 let y11:=qiteB (qcmp .neq (qint (qfld sd0 0)) 2) (qcmp .neq (qint (qfld sd0 1)) 0) false
 let y12:=qiteB (qcmp .lss (qlen (qfld sd0 6)) 1) true (qcmp .gtr (qlen (qfld sd0 6)) 64)
 let y13:=qiteB (qcmp .eql (qint (qfld sd0 0)) 9) y12 false
 let y14:=qiteB (qcmp .neq (qint (qfld sd0 0)) 9) (qcmp .gtr (qlen (qfld sd0 6)) 0) false
 let y15:=qsome (l195_9 [sd0] [(.int 0)])
 let y16:=qnth (l195_9 [sd0] [(.int 0)]) 0
 let x0:Option (List D):=some [.bool false]
 gd (qsome y0)<|gd y3<|bif qiteB y7 true y8 then x0 else bif qiteB y10 true y11 then x0 else bif qiteB y13 true y14 then x0 else gd y15<|bif qcmp .eql (qint y16) 0 then some [.bool true]else x0:=by kernel_rfl
def F195_eq:=by have h:= @F195_e;simp only[ge_id,gd,qeqD_self,qeqI_self,qeqB_self,qand_tt,qeq_len,qeq_l,cond_true]at h;exact h
def q195:List D→Option (List D):=veil (F195)
theorem q195_eq:q195=F195:=veil_eq _
def tb195:Tb:=Tb.addF tbl195_9 195 S195 (q195)
theorem ok_tb195:TbOk env (tb195):=addFunF ok_tbl195_9 195 (by kernel_rfl) _ (q195_eq)
def S197_2:LoopS:=⟨0,[⟨false,(.rows 241)⟩,⟨false,(.int .i64)⟩,⟨false, .str⟩,uF,uF,uF,⟨false,(.lit (.bool false))⟩,⟨true,(.int .i64)⟩,uF,uF,uF,uF,uF,uF,uF,uF,uF,uF,uF,uF,uF,uF,uF,uF,uF,uF,uF,uF,uF,uF],[],[⟨0,0,[⟨false,(.rows 241)⟩,⟨false,(.int .i64)⟩,⟨false, .str⟩,uT,uT,uT,⟨true,(.lit (.bool false))⟩,uT,uT,uT,uT,uT,uT,uT,uT,uT,uT,uT,uT,uT,uT,uT,uT,uT,uT,uT,uT,uT,uT,uT],[]⟩,⟨1,0,[⟨false,(.rows 241)⟩,⟨false,(.int .i64)⟩,⟨false, .str⟩,uT,uT,uT,⟨true,(.lit (.bool true))⟩,uT,uT,uT,uT,uT,uT,uT,uT,uT,uT,uT,uT,uT,uT,uT,uT,uT,uT,uT,uT,uT,uT,uT],[]⟩]⟩
def st197_2 (p s:List D):Option (Sum (List D) (List D)):=stepQX env tb195 60 12 197 (loopC 197 2) S197_2 p s
theorem st197_2_e (pd0:D) (pn1:Int) (ps2:ByteArray) (sn0:Int):st197_2 [pd0,(D.int pn1),(D.str ps2)] [(D.int sn0)] =
 let y0:=qiteB (qcmp .eql (qint (qfld (qfld (qget pd0 sn0) 0) 0)) 13) (qinb pd0 sn0) true
 let y1:=qcmpS .eql (qstr (qfld (qfld (qget pd0 sn0) 0) 2)) ps2
 let y2:=qiteB (qcmp .eql (qint (qfld (qfld (qget pd0 sn0) 0) 0)) 13) y1 false
 let x0:=D.int pn1
 let x1:=D.str ps2
 bif qcmp .lss sn0 pn1 then gd (qinb pd0 sn0)<|gd y0<|bif y2 then ge pd0<|ge x0<|ge x1<|some (Sum.inr [.int 1])else ge pd0<|ge x0<|ge x1<|some (Sum.inl [.int (qbin .add .i64 sn0 1)])else ge pd0<|ge x0<|ge x1<|some (Sum.inr [.int 0]):=by kernel_rfl
def st197_2_eq:=by have h:= @st197_2_e;simp only[ge_id,gd,qeqD_self,qeqI_self,qeqB_self,qand_tt,qeq_len,qeq_l,cond_true]at h;exact h
def l197_2:List D→List D→Option (List D):=veil fun p s=>loW (st197_2 p) s
theorem l197_2_eq:l197_2=fun p s=>loW (st197_2 p) s:=veil_eq _
def tbl197_2:Tb:=Tb.addL tb195 197 2 S197_2.n0 (mkLp S197_2 (l197_2))
theorem ok_tbl197_2:TbOk env (tbl197_2):=addLoopQ ok_tb195 197 2 (by kernel_rfl) _ (l197_2_eq)
def S197:FunS:=⟨[⟨true,(.rows 241)⟩,⟨true,(.int .i64)⟩,⟨true, .str⟩],[],[⟨true, .bool⟩],[]⟩
def F197:List D→Option (List D):=liftX env tbl197_2 60 12 197 S197
theorem F197_e (sd0:D) (sn1:Int) (ss2:ByteArray):F197 [sd0,(D.int sn1),(D.str ss2)] =
 let y0:=l197_2 [sd0,(.int sn1),(.str ss2)] [(.int 0)]
 gd (qsome y0)<|bif qcmp .eql (qint (qnth y0 0)) 0 then some [.bool false]else some [.bool true]:=by kernel_rfl
def F197_eq:=by have h:= @F197_e;simp only[ge_id,gd,qeqD_self,qeqI_self,qeqB_self,qand_tt,qeq_len,qeq_l,cond_true]at h;exact h
def q197:List D→Option (List D):=veil (F197)
theorem q197_eq:q197=F197:=veil_eq _
def tb197:Tb:=Tb.addF tbl197_2 197 S197 (q197)
theorem ok_tb197:TbOk env (tb197):=addFunF ok_tbl197_2 197 (by kernel_rfl) _ (q197_eq)
def S151_3:LoopS:=⟨0,[uF,⟨false,(.rows 133)⟩,⟨false,(.rows 241)⟩,⟨false,(.int .i64)⟩,⟨false,(.ptr 0 0)⟩,uF,uF,uF,⟨false,(.lit (.int .i64 0))⟩,⟨false,(.ptr 1 0)⟩,⟨true,(.int .i64)⟩,uF,uF,uF,uF,uF,uF,uF,uF,uF,uF,uF,uF,uF,uF,uF,uF,uF,uF,uF,uF,uF,uF,uF,uF,uF,uF,uF,uF,uF,uF,uF,uF,uF,uF,uF,uF,uF,uF,uF,uF,uF,uF,uF,uF,uF,uF,uF,uF,uF,uF,uF,uF,uF,uF,uF,uF,uF,uF,uF,uF,uF,uF,uF,uF,uF,uF,uF,uF,uF,uF,uF,uF,uF,uF,uF,uF,uF,uF,uF,uF,uF,uF,uF,uF,uF,uF,uF,uF,uF,uF,uF,uF,uF,uF,uF,uF,uF,uF,uF,uF,uF,uF,uF,uF],[(.cells [⟨false,(.int .i64)⟩,⟨false,(.int .i64)⟩,⟨false, .str⟩,⟨false,(.rows 105)⟩,⟨false,(.rows 102)⟩,⟨false,(.rows 102)⟩,⟨false,(.rows 59)⟩]),(.dat false 33)],[⟨0,0,[uT,⟨false,(.rows 133)⟩,⟨false,(.rows 241)⟩,⟨false,(.int .i64)⟩,⟨true,(.ptr 0 0)⟩,uT,uT,uT,⟨true,(.lit (.int .i64 0))⟩,⟨true,(.ptr 1 0)⟩,uT,uT,uT,uT,uT,uT,uT,uT,uT,uT,uT,uT,uT,uT,uT,uT,uT,uT,uT,uT,uT,uT,uT,uT,uT,uT,uT,uT,uT,uT,uT,uT,uT,uT,uT,uT,uT,uT,uT,uT,uT,uT,uT,uT,uT,uT,uT,uT,uT,uT,uT,uT,uT,uT,uT,uT,uT,uT,uT,uT,uT,uT,uT,uT,uT,uT,uT,uT,uT,uT,uT,uT,uT,uT,uT,uT,uT,uT,uT,uT,uT,uT,uT,uT,uT,uT,uT,uT,uT,uT,uT,uT,uT,uT,uT,uT,uT,uT,uT,uT,uT,uT,uT,uT,uT],[(.cells [⟨false,(.int .i64)⟩,⟨false,(.int .i64)⟩,⟨false, .str⟩,⟨false,(.rows 105)⟩,⟨false,(.rows 102)⟩,⟨false,(.rows 102)⟩,⟨false,(.rows 59)⟩]),(.dat false 33)]⟩,⟨1,0,[uT,⟨false,(.rows 133)⟩,⟨false,(.rows 241)⟩,⟨false,(.int .i64)⟩,uT,uT,uT,uT,⟨true,(.lit (.int .i64 20))⟩,uT,uT,uT,uT,uT,uT,uT,uT,uT,uT,uT,uT,uT,uT,uT,uT,uT,uT,uT,uT,uT,uT,uT,uT,uT,uT,uT,uT,uT,uT,uT,uT,uT,uT,uT,uT,uT,uT,uT,uT,uT,uT,uT,uT,uT,uT,uT,uT,uT,uT,uT,uT,uT,uT,uT,uT,uT,uT,uT,uT,uT,uT,uT,uT,uT,uT,uT,uT,uT,uT,uT,uT,uT,uT,uT,uT,uT,uT,uT,uT,uT,uT,uT,uT,uT,uT,uT,uT,uT,uT,uT,uT,uT,uT,uT,uT,uT,uT,uT,uT,uT,uT,uT,uT,uT,uT],[(.cells [⟨false,(.int .i64)⟩,⟨false,(.int .i64)⟩,⟨false, .str⟩,⟨false,(.rows 105)⟩,⟨false,(.rows 102)⟩,⟨false,(.rows 102)⟩,⟨false,(.rows 59)⟩]),(.dat false 33)]⟩]⟩
def st151_3 (p s:List D):Option (Sum (List D) (List D)):=stepQX env tb197 60 12 151 (loopC 151 3) S151_3 p s
theorem st151_3_e (pd0:D) (pd1:D) (pn2:Int) (pn3:Int) (pn4:Int) (ps5:ByteArray) (pd6:D) (pd7:D) (pd8:D) (pd9:D) (pd10:D) (sn0:Int):st151_3 [pd0,pd1,(D.int pn2),(D.int pn3),(D.int pn4),(D.str ps5),pd6,pd7,pd8,pd9,pd10] [(D.int sn0)] =
 let y0:=q194 [(qget pd6 sn0),(.int 64)]
 let x0:=D.int pn2
 let x1:=D.int pn3
 let x2:=D.int pn4
 let x3:=D.str ps5
 bif qcmp .lss sn0 (qlen pd6)then gd (qinb pd6 sn0)<|gd (qsome y0)<|bif qbool (qnth y0 0)then ge pd0<|ge pd1<|ge x0<|ge x1<|ge x2<|ge x3<|ge pd6<|ge pd7<|ge pd8<|ge pd9<|ge pd10<|some (Sum.inr [.int 1])else ge pd0<|ge pd1<|ge x0<|ge x1<|ge x2<|ge x3<|ge pd6<|ge pd7<|ge pd8<|ge pd9<|ge pd10<|some (Sum.inl [.int (qbin .add .i64 sn0 1)])else ge pd0<|ge pd1<|ge x0<|ge x1<|ge x2<|ge x3<|ge pd6<|ge pd7<|ge pd8<|ge pd9<|ge pd10<|some (Sum.inr [.int 0]):=by kernel_rfl
def st151_3_eq:=by have h:= @st151_3_e;simp only[ge_id,gd,qeqD_self,qeqI_self,qeqB_self,qand_tt,qeq_len,qeq_l,cond_true]at h;exact h
def l151_3:List D→List D→Option (List D):=veil fun p s=>loW (st151_3 p) s
theorem l151_3_eq:l151_3=fun p s=>loW (st151_3 p) s:=veil_eq _
def tbl151_3:Tb:=Tb.addL tb197 151 3 S151_3.n0 (mkLp S151_3 (l151_3))
theorem ok_tbl151_3:TbOk env (tbl151_3):=addLoopQ ok_tb197 151 3 (by kernel_rfl) _ (l151_3_eq)
def S151_10:LoopS:=⟨0,[uF,⟨false,(.rows 133)⟩,⟨false,(.rows 241)⟩,⟨false,(.int .i64)⟩,⟨false,(.ptr 0 0)⟩,uF,uF,uF,⟨false,(.lit (.int .i64 0))⟩,⟨false,(.ptr 1 0)⟩,uF,⟨true,(.int .i64)⟩,uF,uF,uF,uF,uF,uF,uF,uF,uF,uF,uF,uF,uF,uF,uF,uF,uF,uF,uF,uF,uF,uF,uF,uF,uF,uF,uF,uF,uF,uF,uF,uF,uF,uF,uF,uF,uF,uF,uF,uF,uF,uF,uF,uF,uF,uF,uF,uF,uF,uF,uF,uF,uF,uF,uF,uF,uF,uF,uF,uF,uF,uF,uF,uF,uF,uF,uF,uF,uF,uF,uF,uF,uF,uF,uF,uF,uF,uF,uF,uF,uF,uF,uF,uF,uF,uF,uF,uF,uF,uF,uF,uF,uF,uF,uF,uF,uF,uF,uF,uF,uF,uF,uF],[(.cells [⟨false,(.int .i64)⟩,⟨false,(.int .i64)⟩,⟨false, .str⟩,⟨false,(.rows 105)⟩,⟨false,(.rows 102)⟩,⟨false,(.rows 102)⟩,⟨false,(.rows 59)⟩]),(.dat false 33)],[⟨0,2,[uT,⟨false,(.rows 133)⟩,⟨false,(.rows 241)⟩,⟨false,(.int .i64)⟩,⟨true,(.ptr 0 0)⟩,uT,uT,uT,⟨true,(.lit (.int .i64 0))⟩,⟨true,(.ptr 1 0)⟩,uT,uT,uT,uT,uT,uT,uT,uT,uT,uT,uT,uT,uT,uT,uT,uT,uT,uT,uT,uT,uT,uT,uT,uT,uT,uT,uT,uT,uT,uT,uT,uT,uT,uT,uT,uT,uT,uT,uT,uT,uT,uT,uT,uT,uT,uT,uT,uT,uT,uT,uT,uT,uT,uT,uT,uT,uT,uT,uT,uT,uT,uT,uT,uT,uT,uT,uT,uT,uT,uT,uT,uT,uT,uT,uT,uT,uT,uT,uT,uT,uT,uT,uT,uT,uT,uT,uT,uT,uT,uT,uT,uT,uT,uT,uT,uT,uT,uT,uT,uT,uT,uT,uT,uT,uT],[(.cells [⟨false,(.int .i64)⟩,⟨false,(.int .i64)⟩,⟨false, .str⟩,⟨false,(.rows 105)⟩,⟨false,(.rows 102)⟩,⟨false,(.rows 102)⟩,⟨false,(.rows 59)⟩]),(.dat false 33)]⟩,⟨1,0,[uT,⟨false,(.rows 133)⟩,⟨false,(.rows 241)⟩,⟨false,(.int .i64)⟩,uT,uT,uT,uT,⟨true,(.lit (.int .i64 17))⟩,uT,uT,uT,uT,uT,uT,uT,uT,uT,uT,uT,uT,uT,uT,uT,uT,uT,uT,uT,uT,uT,uT,uT,uT,uT,uT,uT,uT,uT,uT,uT,uT,uT,uT,uT,uT,uT,uT,uT,uT,uT,uT,uT,uT,uT,uT,uT,uT,uT,uT,uT,uT,uT,uT,uT,uT,uT,uT,uT,uT,uT,uT,uT,uT,uT,uT,uT,uT,uT,uT,uT,uT,uT,uT,uT,uT,uT,uT,uT,uT,uT,uT,uT,uT,uT,uT,uT,uT,uT,uT,uT,uT,uT,uT,uT,uT,uT,uT,uT,uT,uT,uT,uT,uT,uT,uT],[(.cells [⟨false,(.int .i64)⟩,⟨false,(.int .i64)⟩,⟨false, .str⟩,⟨false,(.rows 105)⟩,⟨false,(.rows 102)⟩,⟨false,(.rows 102)⟩,⟨false,(.rows 59)⟩]),(.dat false 33)]⟩]⟩
def st151_10 (p s:List D):Option (Sum (List D) (List D)):=stepQX env tbl151_3 60 12 151 (loopC 151 10) S151_10 p s
theorem st151_10_e (pd0:D) (pd1:D) (pn2:Int) (pn3:Int) (pn4:Int) (ps5:ByteArray) (pd6:D) (pd7:D) (pd8:D) (pd9:D) (pd10:D) (sn0:Int):st151_10 [pd0,pd1,(D.int pn2),(D.int pn3),(D.int pn4),(D.str ps5),pd6,pd7,pd8,pd9,pd10] [(D.int sn0)] =
 let y0:=q196 [(qget pd6 sn0),pd0]
 let x0:=D.int pn2
 let x1:=D.int pn3
 let x2:=D.int pn4
 let x3:=D.str ps5
 bif qcmp .lss sn0 (qlen pd6)then gd (qinb pd6 sn0)<|gd (qsome y0)<|bif qnot (qbool (qnth y0 0))then ge pd0<|ge pd1<|ge x0<|ge x1<|ge x2<|ge x3<|ge pd6<|ge pd7<|ge pd8<|ge pd9<|ge pd10<|some (Sum.inr [.int 1])else ge pd0<|ge pd1<|ge x0<|ge x1<|ge x2<|ge x3<|ge pd6<|ge pd7<|ge pd8<|ge pd9<|ge pd10<|some (Sum.inl [.int (qbin .add .i64 sn0 1)])else ge pd0<|ge pd1<|ge x0<|ge x1<|ge x2<|ge x3<|ge pd6<|ge pd7<|ge pd8<|ge pd9<|ge pd10<|some (Sum.inr [.int 0]):=by kernel_rfl
def st151_10_eq:=by have h:= @st151_10_e;simp only[ge_id,gd,qeqD_self,qeqI_self,qeqB_self,qand_tt,qeq_len,qeq_l,cond_true]at h;exact h
def l151_10:List D→List D→Option (List D):=veil fun p s=>loW (st151_10 p) s
theorem l151_10_eq:l151_10=fun p s=>loW (st151_10 p) s:=veil_eq _
def tbl151_10:Tb:=Tb.addL tbl151_3 151 10 S151_10.n0 (mkLp S151_10 (l151_10))
theorem ok_tbl151_10:TbOk env (tbl151_10):=addLoopQ ok_tbl151_3 151 10 (by kernel_rfl) _ (l151_10_eq)
def S151:FunS:=⟨[⟨true,(.dat 33)⟩,⟨true,(.rows 133)⟩,⟨true,(.rows 241)⟩,⟨true,(.int .i64)⟩],[],[⟨true,(.int .i64)⟩],[]⟩
def F151:List D→Option (List D):=liftX env tbl151_10 60 12 151 S151
theorem F151_e (sd0:D) (sd1:D) (sd2:D) (sn3:Int):F151 [sd0,sd1,sd2,(D.int sn3)] =
 let y0:=l151_3 [sd1,sd2,(.int sn3),(.int (qint (qfld (qfld (qget sd2 sn3) 0) 0))),(.int (qint (qfld (qfld (qget sd2 sn3) 0) 1))),(.str (qstr (qfld (qfld (qget sd2 sn3) 0) 2))),(qfld (qfld (qget sd2 sn3) 0) 3),(qfld (qfld (qget sd2 sn3) 0) 4),(qfld (qfld (qget sd2 sn3) 0) 5),(qfld (qfld (qget sd2 sn3) 0) 6),sd0] [(.int 0)]
 let y1:=q195 [(.agg [(.int (qint (qfld (qfld (qget sd2 sn3) 0) 0))),(.int (qint (qfld (qfld (qget sd2 sn3) 0) 1))),(.str (qstr (qfld (qfld (qget sd2 sn3) 0) 2))),(qfld (qfld (qget sd2 sn3) 0) 3),(qfld (qfld (qget sd2 sn3) 0) 4),(qfld (qfld (qget sd2 sn3) 0) 5),(qfld (qfld (qget sd2 sn3) 0) 6)])]
 let y2:=l151_10 [sd1,sd2,(.int sn3),(.int (qint (qfld (qfld (qget sd2 sn3) 0) 0))),(.int (qint (qfld (qfld (qget sd2 sn3) 0) 1))),(.str (qstr (qfld (qfld (qget sd2 sn3) 0) 2))),(qfld (qfld (qget sd2 sn3) 0) 3),(qfld (qfld (qget sd2 sn3) 0) 4),(qfld (qfld (qget sd2 sn3) 0) 5),(qfld (qfld (qget sd2 sn3) 0) 6),sd0] [(.int 0)]
 let y3:=qiteB (qcmp .eql (qint (qfld (qfld (qget sd2 sn3) 0) 0)) 1) true (qcmp .eql (qint (qfld (qfld (qget sd2 sn3) 0) 0)) 3)
 let y4:=q146 [sd1,(.str (qstr (qfld (qfld (qget sd2 sn3) 0) 2)))]
 let y5:=q87 [(qfld sd0 2),(.int (qlen (qfld sd0 2))),(.str (qstr (qfld (qfld (qget sd2 sn3) 0) 2)))]
 let y6:=qiteB (qcmp .eql (qint (qfld (qfld (qget sd2 sn3) 0) 0)) 5) (qsome y5) true
 let y7:=qiteB (qcmp .eql (qint (qfld (qfld (qget sd2 sn3) 0) 0)) 5) (qnot (qbool (qnth y5 0))) false
 let y8:=q197 [sd2,(.int (qlen sd2)),(.str (qstr (qfld (qfld (qget sd2 sn3) 0) 2)))]
 let y9:=qiteB (qcmp .eql (qint (qfld (qfld (qget sd2 sn3) 0) 0)) 12) (qsome y8) true
 let y10:=qiteB (qcmp .eql (qint (qfld (qfld (qget sd2 sn3) 0) 0)) 12) (qnot (qbool (qnth y8 0))) false
 let y11:=qiteB (qcmp .eql (qint (qfld (qfld (qget sd2 sn3) 0) 0)) 10) true (qcmp .eql (qint (qfld (qfld (qget sd2 sn3) 0) 0)) 11)
 let y12:=qiteB y11 (qnot (qbool (qfld (qget sd2 sn3) 1))) false
 let y13:=q197 [sd2,(.int sn3),(.str (qstr (qfld (qfld (qget sd2 sn3) 0) 2)))]
 let y14:=qiteB (qcmp .eql (qint (qfld (qfld (qget sd2 sn3) 0) 0)) 13) (qsome y13) true
 let y15:=qiteB (qcmp .eql (qint (qfld (qfld (qget sd2 sn3) 0) 0)) 13) (qbool (qnth y13 0)) false
 let x0:=qinb sd2 sn3
 let x1:Option (List D):=some [.int 17]
 gd x0<|gd (qsome y0)<|bif qcmp .eql (qint (qnth y0 0)) 0 then gd (qsome y1)<|bif qnot (qbool (qnth y1 0))then some [.int 2]else gd (qsome y2)<|bif qcmp .eql (qint (qnth y2 0)) 0 then gd (qiteB y3 (qsome y4) true)<|bif qiteB y3 (qnot (qbool (qnth y4 0))) false then x1 else gd y6<|bif y7 then x1 else gd y9<|bif y10 then x1 else gd (qiteB y11 x0 true)<|bif y12 then some [.int 21]else gd y14<|bif y15 then some [.int 8]else some [.int 0]else x1 else some [.int 20]:=by kernel_rfl
def F151_eq:=by have h:= @F151_e;simp only[ge_id,gd,qeqD_self,qeqI_self,qeqB_self,qand_tt,qeq_len,qeq_l,cond_true]at h;exact h
def q151:List D→Option (List D):=veil (F151)
theorem q151_eq:q151=F151:=veil_eq _
def tb151:Tb:=Tb.addF tbl151_10 151 S151 (q151)
theorem ok_tb151:TbOk env (tb151):=addFunF ok_tbl151_10 151 (by kernel_rfl) _ (q151_eq)
def S88_15:LoopS:=⟨0,[uF,uF,⟨false,(.ptr 0 0)⟩,uF,⟨false,(.lit (.int .i64 0))⟩,uF,⟨false,(.rows 241)⟩,⟨false,(.osl 1 133)⟩,⟨true,(.int .i64)⟩,uF,uF,uF,uF,uF,uF,uF,uF,uF,uF,uF,uF,uF,uF,uF,uF,uF,uF,uF,uF,uF,uF,uF,uF,uF,uF,uF,uF,uF,uF,uF,uF,uF,uF,uF,uF,uF,uF,uF,uF,uF,uF,uF,uF,uF,uF,uF,uF],[(.lst false 133),(.dat false 33)],[⟨0,0,[uT,uT,uT,uT,⟨true,(.lit (.int .i64 0))⟩,uT,⟨false,(.rows 241)⟩,uT,uT,uT,uT,uT,uT,uT,uT,uT,uT,uT,uT,uT,uT,uT,uT,uT,uT,uT,uT,uT,uT,uT,uT,uT,uT,uT,uT,uT,uT,uT,uT,uT,uT,uT,uT,uT,uT,uT,uT,uT,uT,uT,uT,uT,uT,uT,uT,uT,uT],[(.lst false 133),(.dat false 33)]⟩,⟨1,0,[uT,uT,uT,uT,⟨true,(.int .i64)⟩,uT,⟨false,(.rows 241)⟩,uT,uT,uT,uT,uT,uT,uT,uT,uT,uT,uT,uT,uT,uT,uT,uT,uT,uT,uT,uT,uT,uT,uT,uT,uT,uT,uT,uT,uT,uT,uT,uT,uT,uT,uT,uT,uT,uT,uT,uT,uT,uT,uT,uT,uT,uT,uT,uT,uT,uT],[(.lst false 133),(.dat false 33)]⟩]⟩
def st88_15 (p s:List D):Option (Sum (List D) (List D)):=stepQX env tb151 60 12 88 (loopC 88 15) S88_15 p s
theorem st88_15_e (pd0:D) (pd1:D) (pd2:D) (sn0:Int):st88_15 [pd0,pd1,pd2] [(D.int sn0)] =
 let y0:=q151 [pd2,pd1,pd0,(.int sn0)]
 let x0:=qcmp .eql (qlen pd1) (qlen pd1)
 let x1:=qint (qnth y0 0)
 bif qcmp .lss sn0 (qlen pd0)then gd x0<|gd (qsome y0)<|bif qcmp .neq x1 0 then ge pd0<|ge pd1<|ge pd2<|some (Sum.inr [.int 1,.int x1])else gd x0<|ge pd0<|ge pd1<|ge pd2<|some (Sum.inl [.int (qbin .add .i64 sn0 1)])else ge pd0<|ge pd1<|ge pd2<|some (Sum.inr [.int 0]):=by kernel_rfl
def st88_15_eq:=by have h:= @st88_15_e;simp only[ge_id,gd,qeqD_self,qeqI_self,qeqB_self,qand_tt,qeq_len,qeq_l,cond_true]at h;exact h
def l88_15:List D→List D→Option (List D):=veil fun p s=>loW (st88_15 p) s
theorem l88_15_eq:l88_15=fun p s=>loW (st88_15 p) s:=veil_eq _
def tbl88_15:Tb:=Tb.addL tb151 88 15 S88_15.n0 (mkLp S88_15 (l88_15))
theorem ok_tbl88_15:TbOk env (tbl88_15):=addLoopQ ok_tb151 88 15 (by kernel_rfl) _ (l88_15_eq)
def S88:FunS:=⟨[⟨true,(.dat 33)⟩,⟨true,(.dat 61)⟩],[],[⟨true,(.int .i64)⟩],[]⟩
def F88:List D→Option (List D):=liftX env tbl88_15 60 12 88 S88
theorem F88_e (sd0:D) (sd1:D):F88 [sd0,sd1] =
 let y0:=qbin .add .i64 (qlen (qfld sd1 1)) (qlen (qfld sd0 0))
 let y1:=q84 [(qfld sd0 0),(qfld sd1 1)]
 let y2:=q149 [(qfld sd1 2),(.int 65)]
 let y3:=q150 [(qfld sd1 2),(.bool false)]
 let y4:=qcmp .eql (qlen (qapp (qfld sd0 0) (qfld sd1 1))) (qlen (qapp (qfld sd0 0) (qfld sd1 1)))
 let y5:=l88_15 [(qnth y3 0),(qapp (qfld sd0 0) (qfld sd1 1)),sd0] [(.int 0)]
 let x0:Option (List D):=some [.int 6]
 let x1:=qint (qnth y1 0)
 let x2:=qlen (qfld sd0 0)
 bif qcmp .gtr y0 256 then x0 else gd (qsome y1)<|bif qcmp .neq x1 0 then some [.int x1]else gd (qsome y2)<|bif qcmp .gtr (qint (qnth y2 0)) 64 then some [.int 20]else gd (qsome y3)<|bif qcmp .gtr (qlen (qnth y3 0)) 1024 then x0 else gd (qmem x2 88)<|gd (qcmp .eql x2 x2)<|gd (qmem (qlen (qapp (qfld sd0 0) (qfld sd1 1))) 88)<|gd y4<|gd (qsome y5)<|bif qcmp .eql (qint (qnth y5 0)) 0 then some [.int 0]else some [.int (qint (qnth y5 1))]:=by kernel_rfl
def F88_eq:=by have h:= @F88_e;simp only[ge_id,gd,qeqD_self,qeqI_self,qeqB_self,qand_tt,qeq_len,qeq_l,cond_true]at h;exact h
def q88:List D→Option (List D):=veil (F88)
theorem q88_eq:q88=F88:=veil_eq _
def tb88:Tb:=Tb.addF tbl88_15 88 S88 (q88)
theorem ok_tb88:TbOk env (tb88):=addFunF ok_tbl88_15 88 (by kernel_rfl) _ (q88_eq)
def S53_12:LoopS:=⟨0,[uF,⟨false,(.ptr 0 0)⟩,⟨false,(.lit (.int .i64 0))⟩,uF,⟨true,(.int .i64)⟩,uF,uF,uF,uF,uF,uF,uF,uF,uF,uF,uF,uF,uF,uF,uF,uF,uF,uF,uF,uF,uF,uF,uF,uF,uF,uF,uF,uF,uF,uF,uF,uF,uF,uF,uF,uF,uF,uF,uF,uF,uF,uF,uF,uF,uF,uF,uF,uF,uF,uF,uF,uF,uF,uF,uF,uF,uF,uF,uF,uF,uF,uF,uF,uF,uF,uF,uF,uF,uF,uF,uF,uF,uF,uF,uF],[(.dat false 33)],[⟨0,0,[uT,⟨true,(.ptr 0 0)⟩,⟨true,(.lit (.int .i64 0))⟩,uT,uT,uT,uT,uT,uT,uT,uT,uT,uT,uT,uT,uT,uT,uT,uT,uT,uT,uT,uT,uT,uT,uT,uT,uT,uT,uT,uT,uT,uT,uT,uT,uT,uT,uT,uT,uT,uT,uT,uT,uT,uT,uT,uT,uT,uT,uT,uT,uT,uT,uT,uT,uT,uT,uT,uT,uT,uT,uT,uT,uT,uT,uT,uT,uT,uT,uT,uT,uT,uT,uT,uT,uT,uT,uT,uT,uT],[(.dat false 33)]⟩,⟨1,0,[uT,uT,⟨true,(.int .i64)⟩,uT,uT,uT,uT,uT,uT,uT,uT,uT,uT,uT,uT,uT,uT,uT,uT,uT,uT,uT,uT,uT,uT,uT,uT,uT,uT,uT,uT,uT,uT,uT,uT,uT,uT,uT,uT,uT,uT,uT,uT,uT,uT,uT,uT,uT,uT,uT,uT,uT,uT,uT,uT,uT,uT,uT,uT,uT,uT,uT,uT,uT,uT,uT,uT,uT,uT,uT,uT,uT,uT,uT,uT,uT,uT,uT,uT,uT],[(.dat false 33)]⟩]⟩
def st53_12 (p s:List D):Option (Sum (List D) (List D)):=stepQX env tb88 60 12 53 (loopC 53 12) S53_12 p s
theorem st53_12_e (pd0:D) (sn0:Int):st53_12 [pd0] [(D.int sn0)] =
 let y0:=q86 [(.str (qstr (qfld (qget (qfld pd0 2) sn0) 0)))]
 let y1:=q87 [(qfld pd0 2),(.int sn0),(.str (qstr (qfld (qget (qfld pd0 2) sn0) 0)))]
 let x0:=qinb (qfld pd0 2) sn0
 bif qcmp .lss sn0 (qlen (qfld pd0 2))then gd x0<|gd (qsome y0)<|bif qnot (qbool (qnth y0 0))then ge pd0<|some (Sum.inr [.int 1,.int 3])else gd x0<|gd (qsome y1)<|bif qbool (qnth y1 0)then ge pd0<|some (Sum.inr [.int 1,.int 8])else ge pd0<|some (Sum.inl [.int (qbin .add .i64 sn0 1)])else ge pd0<|some (Sum.inr [.int 0]):=by kernel_rfl
def st53_12_eq:=by have h:= @st53_12_e;simp only[ge_id,gd,qeqD_self,qeqI_self,qeqB_self,qand_tt,qeq_len,qeq_l,cond_true]at h;exact h
def l53_12:List D→List D→Option (List D):=veil fun p s=>loW (st53_12 p) s
theorem l53_12_eq:l53_12=fun p s=>loW (st53_12 p) s:=veil_eq _
def tbl53_12:Tb:=Tb.addL tb88 53 12 S53_12.n0 (mkLp S53_12 (l53_12))
theorem ok_tbl53_12:TbOk env (tbl53_12):=addLoopQ ok_tb88 53 12 (by kernel_rfl) _ (l53_12_eq)
def S53_19:LoopS:=⟨0,[uF,⟨false,(.ptr 0 0)⟩,⟨false,(.lit (.int .i64 0))⟩,uF,uF,⟨true,(.int .i64)⟩,uF,uF,uF,uF,uF,uF,uF,uF,uF,uF,uF,uF,uF,uF,uF,uF,uF,uF,uF,uF,uF,uF,uF,uF,uF,uF,uF,uF,uF,uF,uF,uF,uF,uF,uF,uF,uF,uF,uF,uF,uF,uF,uF,uF,uF,uF,uF,uF,uF,uF,uF,uF,uF,uF,uF,uF,uF,uF,uF,uF,uF,uF,uF,uF,uF,uF,uF,uF,uF,uF,uF,uF,uF,uF],[(.dat false 33)],[⟨0,2,[uT,uT,⟨true,(.lit (.int .i64 0))⟩,uT,uT,uT,uT,uT,uT,uT,uT,uT,uT,uT,uT,uT,uT,uT,uT,uT,uT,uT,uT,uT,uT,uT,uT,uT,uT,uT,uT,uT,uT,uT,uT,uT,uT,uT,uT,uT,uT,uT,uT,uT,uT,uT,uT,uT,uT,uT,uT,uT,uT,uT,uT,uT,uT,uT,uT,uT,uT,uT,uT,uT,uT,uT,uT,uT,uT,uT,uT,uT,uT,uT,uT,uT,uT,uT,uT,uT],[(.dat false 33)]⟩,⟨1,0,[uT,uT,⟨true,(.int .i64)⟩,uT,uT,uT,uT,uT,uT,uT,uT,uT,uT,uT,uT,uT,uT,uT,uT,uT,uT,uT,uT,uT,uT,uT,uT,uT,uT,uT,uT,uT,uT,uT,uT,uT,uT,uT,uT,uT,uT,uT,uT,uT,uT,uT,uT,uT,uT,uT,uT,uT,uT,uT,uT,uT,uT,uT,uT,uT,uT,uT,uT,uT,uT,uT,uT,uT,uT,uT,uT,uT,uT,uT,uT,uT,uT,uT,uT,uT],[(.dat false 33)]⟩]⟩
def st53_19 (p s:List D):Option (Sum (List D) (List D)):=stepQX env tbl53_12 60 12 53 (loopC 53 19) S53_19 p s
theorem st53_19_e (pd0:D) (sn0:Int):st53_19 [pd0] [(D.int sn0)] =
 let y0:=q88 [pd0,(qget (qfld pd0 2) sn0)]
 let x0:=qint (qnth y0 0)
 bif qcmp .lss sn0 (qlen (qfld pd0 2))then gd (qinb (qfld pd0 2) sn0)<|gd (qsome y0)<|bif qcmp .neq x0 0 then ge pd0<|some (Sum.inr [.int 1,.int x0])else ge pd0<|some (Sum.inl [.int (qbin .add .i64 sn0 1)])else ge pd0<|some (Sum.inr [.int 0]):=by kernel_rfl
def st53_19_eq:=by have h:= @st53_19_e;simp only[ge_id,gd,qeqD_self,qeqI_self,qeqB_self,qand_tt,qeq_len,qeq_l,cond_true]at h;exact h
def l53_19:List D→List D→Option (List D):=veil fun p s=>loW (st53_19 p) s
theorem l53_19_eq:l53_19=fun p s=>loW (st53_19 p) s:=veil_eq _
def tbl53_19:Tb:=Tb.addL tbl53_12 53 19 S53_19.n0 (mkLp S53_19 (l53_19))
theorem ok_tbl53_19:TbOk env (tbl53_19):=addLoopQ ok_tbl53_12 53 19 (by kernel_rfl) _ (l53_19_eq)
def S53:FunS:=⟨[⟨true,(.dat 33)⟩],[],[⟨true,(.int .i64)⟩],[]⟩
def F53:List D→Option (List D):=liftX env tbl53_19 60 12 53 S53
theorem F53_e (sd0:D):F53 [sd0] =
 let y0:=qiteB (qcmp .gtr (qlen (qfld sd0 0)) 256) true (qcmp .gtr (qlen (qfld sd0 1)) 16)
 let y1:=q84 [(.list []),(qfld sd0 0)]
 let y2:=qsome (q85 [(qfld sd0 1)])
 let y3:=qnth (q85 [(qfld sd0 1)]) 0
 let y4:=qsome (l53_12 [sd0] [(.int 0)])
 let y5:=qnth (l53_12 [sd0] [(.int 0)]) 0
 let y6:=qsome (l53_19 [sd0] [(.int 0)])
 let y7:=qnth (l53_19 [sd0] [(.int 0)]) 0
 let y8:=qnth (l53_19 [sd0] [(.int 0)]) 1
 let y9:=qnth (l53_12 [sd0] [(.int 0)]) 1
 let x0:=qlen (qfld sd0 2)
 let x1:=qint (qnth y1 0)
 bif qiteB y0 true (qcmp .gtr x0 64)then some [.int 6]else bif qcmp .eql x0 0 then some [.int 17]else gd (qsome y1)<|bif qcmp .neq x1 0 then some [.int x1]else gd y2<|bif qcmp .neq (qint y3) 0 then some [.int (qint y3)]else gd y4<|bif qcmp .eql (qint y5) 0 then gd y6<|bif qcmp .eql (qint y7) 0 then some [.int 0]else some [.int (qint y8)]else some [.int (qint y9)]:=by kernel_rfl
def F53_eq:=by have h:= @F53_e;simp only[ge_id,gd,qeqD_self,qeqI_self,qeqB_self,qand_tt,qeq_len,qeq_l,cond_true]at h;exact h
def q53:List D→Option (List D):=veil (F53)
theorem q53_eq:q53=F53:=veil_eq _
def tb53:Tb:=Tb.addF tbl53_19 53 S53 (q53)
theorem ok_tb53:TbOk env (tb53):=addFunF ok_tbl53_19 53 (by kernel_rfl) _ (q53_eq)
end
end Go.Proofs.YteccopaonadbeaaGreatDoor
namespace Go.Proofs.YteccopaonadbeaaGreatDoor
noncomputable section
open Go Go.AM
def S108:FunS:=⟨[⟨true,(.rows 9)⟩],[],[⟨true,(.osl 0 9)⟩],[(.lst true 9)]⟩
theorem run108n (c:Nat):bodyK (envF env tb53 108) (runTb env tb53 60 12) 60 108 [.sc (.slice none 0 c)] (heapF S108 [] []) (retF S108 [])=some [.list []]:=by
 have h:bodyK (envF env tb53 108) (runTb env tb53 60 12) 60 108 [.sc (.slice none 0 c)] (heapF S108 [] []) (retF S108 [])=bif qcmp BinOp.eql 0 (qlen (D.list []))then some [.list []]else none:=by kernel_rfl
 rw[h,show qcmp BinOp.eql 0 (qlen (D.list []))=true from qeq_len []];rfl
theorem run108z (d:D):bodyK (envF env tb53 108) (runTb env tb53 60 12) 60 108 [.rowz 9 d] (heapF S108 [] []) (retF S108 []) =
 bif qmem (qlen (qapp (D.list []) d)) 16 then(bif (qcmp BinOp.eql (qlen (qapp (D.list []) d)) (qlen (qapp (D.list []) d)))then some [qapp (D.list []) d]else none)else none:=by kernel_rfl
def F108 (ds:List D):Option (List D):=bif qmem (qlen (qapp (D.list []) (ds.headD .other))) 16 then some [qapp (D.list []) (ds.headD .other)]else none
def q108:List D→Option (List D):=veil F108
theorem q108_eq:q108=F108:=veil_eq _
theorem sound108:SoundF env.P 108 S108 q108:=by
 intro p s r hp hq lo w0 ρ E w vs inv ra
 obtain rfl:p = []:=List.length_eq_zero_iff.1 hp
 have ha:argF S108 [] s = [.rows 9 (s.headD .other)]:=by
  cases s<;>rfl
 have hh:heapF S108 [] s=heapF S108 [] []:=rfl
 rw[q108_eq]at hq
 unfold F108 at hq
 simp only[List.nil_append]at hq
 rw[ha]at ra
 generalize hd:s.headD .other=d at *
 cases hm:qmem (qlen (qapp (D.list []) d)) 16 with
 |false=>rw[hm]at hq;cases hq
 |true=>
  rw[hm]at hq
  simp only[cond_true,Option.some.injEq]at hq
  subst hq
  rw[hh]at inv
  generalize hvs:vs.toList=vl at ra
  obtain⟨v,vl',rfl,rv,hn⟩:∃v vs',vl=v::vs'∧Rep ρ E w (AV.rows 9 d) v∧vs' = []:=by simpa only[RepL]using ra
  ·subst hn
   simp only[Rep]at rv
   obtain⟨a,cap,rfl,hc,hx⟩:=id rv
   cases a with
   |none=>
    have he:d.toList = []:=by
     rcases hx with h|⟨_,_,h,_⟩
     ·exact h
     ·cases h
    have he':qapp (D.list []) d = .list []:=by rw[qapp_eq];unfold D.app;rw[he];rfl
    rw[he']
    refine lift_ok (av:=[.sc (.slice none 0 cap)]) envOk ok_tb53 60 12 (run108n cap) rfl lo w0 ρ E w vs inv ?_
    rw[hvs,he]
    simp[RepL,Rep]
   |some a=>
    refine lift_ok (av:=[.rowz 9 d]) envOk ok_tb53 60 12 (p:=[]) (r:=[qapp (D.list []) d]) (S:=S108) (by rw[run108z,hm,qeqI_self];rfl) rfl lo w0 ρ E w vs inv ?_
    rw[hvs]
    simp only[RepL]
    exact⟨_,_,rfl,by simp only[Rep];exact⟨rv,_,_,_,rfl⟩,rfl⟩
def tb108:Tb:=Tb.addF tb53 108 S108 q108
theorem ok_tb108:TbOk env tb108:=TbOk.addF ok_tb53 (by kernel_rfl) sound108
def S93:FunS:=⟨[⟨true,(.rows 133)⟩],[],[⟨true,(.osl 0 133)⟩],[(.lst true 133)]⟩
theorem run93n (c:Nat):bodyK (envF env tb108 93) (runTb env tb108 60 12) 60 93 [.sc (.slice none 0 c)] (heapF S93 [] []) (retF S93 [])=some [.list []]:=by
 have h:bodyK (envF env tb108 93) (runTb env tb108 60 12) 60 93 [.sc (.slice none 0 c)] (heapF S93 [] []) (retF S93 [])=bif qcmp BinOp.eql 0 (qlen (D.list []))then some [.list []]else none:=by kernel_rfl
 rw[h,show qcmp BinOp.eql 0 (qlen (D.list []))=true from qeq_len []];rfl
theorem run93z (d:D):bodyK (envF env tb108 93) (runTb env tb108 60 12) 60 93 [.rowz 133 d] (heapF S93 [] []) (retF S93 []) =
 bif qmem (qlen (qapp (D.list []) d)) 88 then(bif (qcmp BinOp.eql (qlen (qapp (D.list []) d)) (qlen (qapp (D.list []) d)))then some [qapp (D.list []) d]else none)else none:=by kernel_rfl
def F93 (ds:List D):Option (List D):=bif qmem (qlen (qapp (D.list []) (ds.headD .other))) 88 then some [qapp (D.list []) (ds.headD .other)]else none
def q93:List D→Option (List D):=veil F93
theorem q93_eq:q93=F93:=veil_eq _
theorem sound93:SoundF env.P 93 S93 q93:=by
 intro p s r hp hq lo w0 ρ E w vs inv ra
 obtain rfl:p = []:=List.length_eq_zero_iff.1 hp
 have ha:argF S93 [] s = [.rows 133 (s.headD .other)]:=by
  cases s<;>rfl
 have hh:heapF S93 [] s=heapF S93 [] []:=rfl
 rw[q93_eq]at hq
 unfold F93 at hq
 simp only[List.nil_append]at hq
 rw[ha]at ra
 generalize hd:s.headD .other=d at *
 cases hm:qmem (qlen (qapp (D.list []) d)) 88 with
 |false=>rw[hm]at hq;cases hq
 |true=>
  rw[hm]at hq
  simp only[cond_true,Option.some.injEq]at hq
  subst hq
  rw[hh]at inv
  generalize hvs:vs.toList=vl at ra
  obtain⟨v,vl',rfl,rv,hn⟩:∃v vs',vl=v::vs'∧Rep ρ E w (AV.rows 133 d) v∧vs' = []:=by simpa only[RepL]using ra
  ·subst hn
   simp only[Rep]at rv
   obtain⟨a,cap,rfl,hc,hx⟩:=id rv
   cases a with
   |none=>
    have he:d.toList = []:=by
     rcases hx with h|⟨_,_,h,_⟩
     ·exact h
     ·cases h
    have he':qapp (D.list []) d = .list []:=by rw[qapp_eq];unfold D.app;rw[he];rfl
    rw[he']
    refine lift_ok (av:=[.sc (.slice none 0 cap)]) envOk ok_tb108 60 12 (run93n cap) rfl lo w0 ρ E w vs inv ?_
    rw[hvs,he]
    simp[RepL,Rep]
   |some a=>
    refine lift_ok (av:=[.rowz 133 d]) envOk ok_tb108 60 12 (p:=[]) (r:=[qapp (D.list []) d]) (S:=S93) (by rw[run93z,hm,qeqI_self];rfl) rfl lo w0 ρ E w vs inv ?_
    rw[hvs]
    simp only[RepL]
    exact⟨_,_,rfl,by simp only[Rep];exact⟨rv,_,_,_,rfl⟩,rfl⟩
def tb93:Tb:=Tb.addF tb108 93 S93 q93
theorem ok_tb93:TbOk env tb93:=TbOk.addF ok_tb108 (by kernel_rfl) sound93
end
end Go.Proofs.YteccopaonadbeaaGreatDoor
open Go Go.AM
namespace Go.Proofs.YteccopaonadbeaaGreatDoor
noncomputable section
set_option maxRecDepth 100000
set_option linter.unusedSimpArgs false
set_option linter.unusedVariables false
set_option linter.defProp false
def S98_2:LoopS:=⟨0,[⟨false,(.rows 9)⟩,⟨false, .str⟩,uF,uF,⟨false,(.lit (.int .i64 0))⟩,uF,uF,⟨false,(.int .i64)⟩,⟨true,(.int .i64)⟩,uF,uF,uF,uF,uF,uF,uF,uF,uF,uF],[],[⟨0,0,[⟨false,(.rows 9)⟩,⟨false, .str⟩,uT,uT,⟨true,(.lit (.int .i64 0))⟩,uT,uT,⟨false,(.int .i64)⟩,uT,uT,uT,uT,uT,uT,uT,uT,uT,uT,uT],[]⟩,⟨1,0,[⟨false,(.rows 9)⟩,⟨false, .str⟩,uT,uT,⟨true,(.int .i64)⟩,uT,uT,⟨false,(.int .i64)⟩,uT,uT,uT,uT,uT,uT,uT,uT,uT,uT,uT],[]⟩]⟩
def st98_2 (p s:List D):Option (Sum (List D) (List D)):=stepQX env tb93 60 12 98 (loopC 98 2) S98_2 p s
theorem st98_2_e (pd0:D) (ps1:ByteArray) (pn2:Int) (sn0:Int):st98_2 [pd0,(D.str ps1),(D.int pn2)] [(D.int sn0)] =
 let x0:=D.str ps1
 let x1:=D.int pn2
 bif qcmp .lss sn0 pn2 then gd (qinb pd0 sn0)<|bif qcmpS .eql ps1 (qstr (qget pd0 sn0))then ge pd0<|ge x0<|ge x1<|some (Sum.inr [.int 1,.int sn0])else ge pd0<|ge x0<|ge x1<|some (Sum.inl [.int (qbin .add .i64 sn0 1)])else ge pd0<|ge x0<|ge x1<|some (Sum.inr [.int 0]):=by kernel_rfl
def st98_2_eq:=by have h:= @st98_2_e;simp only[ge_id,gd,qeqD_self,qeqI_self,qeqB_self,qand_tt,qeq_len,qeq_l,cond_true]at h;exact h
def l98_2:List D→List D→Option (List D):=veil fun p s=>loW (st98_2 p) s
theorem l98_2_eq:l98_2=fun p s=>loW (st98_2 p) s:=veil_eq _
def tbl98_2:Tb:=Tb.addL tb93 98 2 S98_2.n0 (mkLp S98_2 (l98_2))
theorem ok_tbl98_2:TbOk env (tbl98_2):=addLoopQ ok_tb93 98 2 (by kernel_rfl) _ (l98_2_eq)
def S98:FunS:=⟨[⟨true,(.rows 9)⟩,⟨true, .str⟩],[],[⟨true,(.int .i64)⟩],[]⟩
def F98:List D→Option (List D):=liftX env tbl98_2 60 12 98 S98
theorem F98_e (sd0:D) (ss1:ByteArray):F98 [sd0,(D.str ss1)] =
 let y0:=l98_2 [sd0,(.str ss1),(.int (qlen sd0))] [(.int 0)]
 gd (qsome y0)<|bif qcmp .eql (qint (qnth y0 0)) 0 then some [.int (-1)]else some [.int (qint (qnth y0 1))]:=by kernel_rfl
def F98_eq:=by have h:= @F98_e;simp only[ge_id,gd,qeqD_self,qeqI_self,qeqB_self,qand_tt,qeq_len,qeq_l,cond_true]at h;exact h
def q98:List D→Option (List D):=veil (F98)
theorem q98_eq:q98=F98:=veil_eq _
def tb98:Tb:=Tb.addF tbl98_2 98 S98 (q98)
theorem ok_tb98:TbOk env (tb98):=addFunF ok_tbl98_2 98 (by kernel_rfl) _ (q98_eq)
def S60:FunS:=⟨[⟨true,(.rows 9)⟩,⟨true, .str⟩],[],[⟨true, .bool⟩],[]⟩
def F60:List D→Option (List D):=liftX env tb98 60 12 60 S60
theorem F60_e (sd0:D) (ss1:ByteArray):F60 [sd0,(D.str ss1)] =
 let y0:=qsome (q98 [sd0,(.str ss1)])
 let y1:=qnth (q98 [sd0,(.str ss1)]) 0
 gd y0<|some [.bool (qcmp .geq (qint y1) 0)]:=by kernel_rfl
def F60_eq:=by have h:= @F60_e;simp only[ge_id,gd,qeqD_self,qeqI_self,qeqB_self,qand_tt,qeq_len,qeq_l,cond_true]at h;exact h
def q60:List D→Option (List D):=veil (F60)
theorem q60_eq:q60=F60:=veil_eq _
def tb60:Tb:=Tb.addF tb98 60 S60 (q60)
theorem ok_tb60:TbOk env (tb60):=addFunF ok_tb98 60 (by kernel_rfl) _ (q60_eq)
def S57_3:LoopS:=⟨0,[uF,uF,uF,uF,⟨false,(.lit (.int .i64 0))⟩,⟨false,(.osl 0 133)⟩,uF,uF,uF,uF,uF,⟨false,(.rows 133)⟩,⟨false,(.int .i64)⟩,⟨true,(.int .i64)⟩,uF,uF,uF,uF,uF,uF,uF,uF,uF,uF,uF,uF,uF,uF,uF,uF,uF,uF,uF,uF,uF,uF,uF,uF,uF],[(.lst true 133)],[⟨0,0,[uT,uT,uT,uT,⟨true,(.lit (.int .i64 0))⟩,uT,uT,uT,uT,uT,uT,⟨false,(.rows 133)⟩,⟨false,(.int .i64)⟩,uT,uT,uT,uT,uT,uT,uT,uT,uT,uT,uT,uT,uT,uT,uT,uT,uT,uT,uT,uT,uT,uT,uT,uT,uT,uT],[.skip]⟩,⟨1,0,[uT,uT,uT,uT,⟨true,(.int .i64)⟩,uT,uT,uT,uT,uT,uT,⟨false,(.rows 133)⟩,⟨false,(.int .i64)⟩,uT,uT,uT,uT,uT,uT,uT,uT,uT,uT,uT,uT,uT,uT,uT,uT,uT,uT,uT,uT,uT,uT,uT,uT,uT,uT],[.skip]⟩]⟩
def st57_3 (p s:List D):Option (Sum (List D) (List D)):=stepQX env tb60 60 12 57 (loopC 57 3) S57_3 p s
theorem st57_3_e (pd0:D) (pn1:Int) (sn0:Int) (sd1:D):st57_3 [pd0,(D.int pn1)] [(D.int sn0),sd1] =
 let y0:=q59 [(.str (qstr (qfld (qget pd0 sn0) 0)))]
 let y1:=q153 [(.str (qstr (qfld (qget pd0 sn0) 0))),sd1]
 let y2:=q95 [(.agg [(.int (qint (qfld (qfld (qget pd0 sn0) 1) 0))),(.int (qint (qfld (qfld (qget pd0 sn0) 1) 1))),(.int (qint (qfld (qfld (qget pd0 sn0) 1) 2))),(qfld (qfld (qget pd0 sn0) 1) 3),(qfld (qfld (qget pd0 sn0) 1) 4)])]
 let y3:=qapp sd1 (.list [(.agg [(.str (qstr (qfld (qget pd0 sn0) 0))),(.agg [(.int (qint (qfld (qfld (qget pd0 sn0) 1) 0))),(.int (qint (qfld (qfld (qget pd0 sn0) 1) 1))),(.int (qint (qfld (qfld (qget pd0 sn0) 1) 2))),(qfld (qfld (qget pd0 sn0) 1) 3),(qfld (qfld (qget pd0 sn0) 1) 4)])])])
 let x0:=D.int pn1
 let x1:=D.int 1
 let x2:=qcmp .eql (qlen sd1) (qlen sd1)
 let x3:=qint (qnth y2 0)
 let x4:=qlen y3
 bif qcmp .lss sn0 pn1 then gd (qinb pd0 sn0)<|gd (qsome y0)<|bif qnot (qbool (qnth y0 0))then ge pd0<|ge x0<|some (Sum.inr [x1,.int 3])else gd x2<|gd (qsome y1)<|ge (qget pd0 sn0)<|bif qbool (qnth y1 0)then ge pd0<|ge x0<|some (Sum.inr [x1,.int 8])else gd (qsome y2)<|bif qcmp .neq x3 0 then ge pd0<|ge x0<|some (Sum.inr [x1,.int x3])else gd x2<|gd (qmem x4 88)<|gd (qcmp .eql x4 x4)<|ge pd0<|ge x0<|some (Sum.inl [.int (qbin .add .i64 sn0 1),y3])else ge pd0<|ge x0<|some (Sum.inr [.int 0]):=by kernel_rfl
def st57_3_eq:=by have h:= @st57_3_e;simp only[ge_id,gd,qeqD_self,qeqI_self,qeqB_self,qand_tt,qeq_len,qeq_l,cond_true]at h;exact h
def l57_3:List D→List D→Option (List D):=veil fun p s=>loW (st57_3 p) s
theorem l57_3_eq:l57_3=fun p s=>loW (st57_3 p) s:=veil_eq _
def tbl57_3:Tb:=Tb.addL tb60 57 3 S57_3.n0 (mkLp S57_3 (l57_3))
theorem ok_tbl57_3:TbOk env (tbl57_3):=addLoopQ ok_tb60 57 3 (by kernel_rfl) _ (l57_3_eq)
def S57:FunS:=⟨[⟨true,(.rows 133)⟩,⟨true,(.rows 133)⟩],[],[⟨true,(.int .i64)⟩],[]⟩
def F57:List D→Option (List D):=liftX env tbl57_3 60 12 57 S57
theorem F57_e (sd0:D) (sd1:D):F57 [sd0,sd1] =
 let y0:=qcmp .eql (qlen (qnth (q93 [sd0]) 0)) (qlen (qnth (q93 [sd0]) 0))
 let y1:=l57_3 [sd1,(.int (qlen sd1))] [(.int 0),(qnth (q93 [sd0]) 0)]
 gd (qsome (q93 [sd0]))<|gd y0<|gd (qsome y1)<|bif qcmp .eql (qint (qnth y1 0)) 0 then some [.int 0]else some [.int (qint (qnth y1 1))]:=by kernel_rfl
def F57_eq:=by have h:= @F57_e;simp only[ge_id,gd,qeqD_self,qeqI_self,qeqB_self,qand_tt,qeq_len,qeq_l,cond_true]at h;exact h
def q57:List D→Option (List D):=veil (F57)
theorem q57_eq:q57=F57:=veil_eq _
def tb57:Tb:=Tb.addF tbl57_3 57 S57 (q57)
theorem ok_tb57:TbOk env (tb57):=addFunF ok_tbl57_3 57 (by kernel_rfl) _ (q57_eq)
end
end Go.Proofs.YteccopaonadbeaaGreatDoor
open Go Go.AM
namespace Go.Proofs.YteccopaonadbeaaGreatDoor
noncomputable section
set_option maxRecDepth 100000
set_option linter.unusedSimpArgs false
set_option linter.unusedVariables false
set_option linter.defProp false
def S250:FunS:=⟨[⟨true,(.lit (.slice none 0 0))⟩,⟨true,(.int .i64)⟩],[],[⟨true,(.oslc 0 59)⟩],[(.lst true 59)]⟩
def F250:List D→Option (List D):=liftX env tb57 60 12 250 S250
theorem F250_e (sn0:Int):F250 [(D.int sn0)] =
 let y0:=qsub (qrep (qbin .sub .i64 sn0 0) (.list [])) 0 0
 let x0:=qbin .sub .i64 sn0 0
 bif qcmp .lss sn0 0 then none else bif qcmp .gtr x0 0 then gd (qcmp .lss 0 x0)<|gd (qmem x0 24)<|gd (qcmp .leq 0 0)<|gd (qcmp .leq 0 x0)<|gd (qcmp .eql 0 (qlen y0))<|some [y0]else gd (qcmp .eql 0 (qlen (.list [])))<|some [.list []]:=by kernel_rfl
def F250_eq:=by have h:= @F250_e;simp only[ge_id,gd,qeqD_self,qeqI_self,qeqB_self,qand_tt,qeq_len,qeq_l,cond_true]at h;exact h
def q250:List D→Option (List D):=veil (F250)
theorem q250_eq:q250=F250:=veil_eq _
def tb250:Tb:=Tb.addF tb57 250 S250 (q250)
theorem ok_tb250:TbOk env (tb250):=addFunF ok_tb57 250 (by kernel_rfl) _ (q250_eq)
def S160:FunS:=⟨[⟨true,(.dat 102)⟩],[],[⟨true,(.rows 59)⟩],[]⟩
def F160:List D→Option (List D):=liftX env tb250 60 12 160 S160
theorem F160_e (sd0:D):F160 [sd0] =
 let y0:=qcmp .lss (qbin .add .i64 2 (qlen (qfld sd0 6))) 0
 let y1:=q250 [(.int (qbin .add .i64 2 (qlen (qfld sd0 6))))]
 let y2:=qlen (qapp (qnth y1 0) (.list [(qfld sd0 4),(qfld sd0 5)]))
 let y3:=qapp (qapp (qnth y1 0) (.list [(qfld sd0 4),(qfld sd0 5)])) (qfld sd0 6)
 let x0:=qlen (qnth y1 0)
 let x1:=qlen y3
 bif y0 then none else gd (qsome y1)<|gd (qcmp .eql x0 x0)<|gd (qmem y2 24)<|gd (qcmp .eql y2 y2)<|gd (qmem x1 24)<|gd (qcmp .eql x1 x1)<|some [y3]:=by kernel_rfl
def F160_eq:=by have h:= @F160_e;simp only[ge_id,gd,qeqD_self,qeqI_self,qeqB_self,qand_tt,qeq_len,qeq_l,cond_true]at h;exact h
def q160:List D→Option (List D):=veil (F160)
theorem q160_eq:q160=F160:=veil_eq _
def tb160:Tb:=Tb.addF tb250 160 S160 (q160)
theorem ok_tb160:TbOk env (tb160):=addFunF ok_tb250 160 (by kernel_rfl) _ (q160_eq)
def S99:FunS:=⟨[⟨true,(.rows 102)⟩],[],[⟨true,(.int .i64)⟩],[]⟩
def tbR99 (Q:List D→Option (List D)):Tb:=Tb.addF tb160 99 S99 Q
theorem ok_tbR99 (Q:List D→Option (List D)) (hQ:SoundF env.P 99 S99 Q):TbOk env (tbR99 Q):=TbOk.addF ok_tb160 (by kernel_rfl) hQ
def S99_7:LoopS:=⟨0,[uF,uF,⟨false,(.lit (.int .i64 0))⟩,⟨false,(.int .i64)⟩,uF,uF,⟨true,(.int .i64)⟩,uF,uF,⟨false,(.rows 102)⟩,⟨false,(.int .i64)⟩,⟨false,(.int .i64)⟩,uF,uF,uF,uF,⟨false,(.rows 59)⟩,⟨false,(.int .i64)⟩,⟨true,(.int .i64)⟩,uF,uF,uF,uF,uF,uF,uF,uF,uF,uF,uF,uF,uF,uF],[],[⟨0,2,[uT,uT,⟨true,(.lit (.int .i64 0))⟩,⟨false,(.int .i64)⟩,uT,uT,⟨true,(.int .i64)⟩,uT,uT,⟨false,(.rows 102)⟩,⟨false,(.int .i64)⟩,⟨false,(.int .i64)⟩,uT,uT,uT,uT,⟨false,(.rows 59)⟩,⟨false,(.int .i64)⟩,uT,uT,uT,uT,uT,uT,uT,uT,uT,uT,uT,uT,uT,uT,uT],[]⟩]⟩
def st99_7 (Q:List D→Option (List D)) (p s:List D):Option (Sum (List D) (List D)):=stepQX env (tbR99 Q) 60 12 99 (loopC 99 7) S99_7 p s
theorem st99_7_e (Q:List D→Option (List D)) (pn0:Int) (pd1:D) (pn2:Int) (pn3:Int) (pd4:D) (pn5:Int) (sn0:Int) (sn1:Int):st99_7 Q [(D.int pn0),pd1,(D.int pn2),(D.int pn3),pd4,(D.int pn5)] [(D.int sn0),(D.int sn1)] =
 let y0:=qbin .add .i64 1 (qint (qnth (Q [(qget pd4 sn1)]) 0))
 bif qcmp .lss sn1 pn5 then gd (qinb pd4 sn1)<|gd (qsome (Q [qget pd4 sn1]))<|ge (.int pn0)<|ge pd1<|ge (.int pn2)<|ge (.int pn3)<|ge pd4<|ge (.int pn5)<|some (Sum.inl [.int (qmm .gtr sn0 y0),.int (qbin .add .i64 sn1 1)])else ge (.int pn0)<|ge pd1<|ge (.int pn2)<|ge (.int pn3)<|ge pd4<|ge (.int pn5)<|some (Sum.inr [.int 0,.int sn0]):=by kernel_rfl
def st99_7_eq:=by have h:= @st99_7_e;simp only[ge_id,gd,qeqD_self,qeqI_self,qeqB_self,qand_tt,qeq_len,qeq_l,cond_true]at h;exact h
def l99_7 (Q:List D→Option (List D)):List D→List D→Option (List D):=veil fun p s=>loW (st99_7 Q p) s
theorem l99_7_eq (Q:List D→Option (List D)):l99_7 Q=fun p s=>loW (st99_7 Q p) s:=veil_eq _
def tbl99_7 (Q:List D→Option (List D)):Tb:=Tb.addL (tbR99 Q) 99 7 S99_7.n0 (mkLp S99_7 (l99_7 Q))
theorem ok_tbl99_7 (Q:List D→Option (List D)) (hQ:SoundF env.P 99 S99 Q):TbOk env (tbl99_7 Q):=addLoopQ (ok_tbR99 Q hQ) 99 7 (by kernel_rfl) _ (l99_7_eq Q)
def S99_3:LoopS:=⟨0,[uF,uF,⟨false,(.lit (.int .i64 0))⟩,⟨true,(.int .i64)⟩,uF,uF,uF,uF,uF,⟨false,(.rows 102)⟩,⟨false,(.int .i64)⟩,⟨true,(.int .i64)⟩,uF,uF,uF,uF,uF,uF,uF,uF,uF,uF,uF,uF,uF,uF,uF,uF,uF,uF,uF,uF,uF],[],[⟨0,0,[uT,uT,⟨true,(.lit (.int .i64 0))⟩,⟨true,(.int .i64)⟩,uT,uT,uT,uT,uT,⟨false,(.rows 102)⟩,⟨false,(.int .i64)⟩,uT,uT,uT,uT,uT,uT,uT,uT,uT,uT,uT,uT,uT,uT,uT,uT,uT,uT,uT,uT,uT,uT],[]⟩]⟩
def st99_3 (Q:List D→Option (List D)) (p s:List D):Option (Sum (List D) (List D)):=stepQX env (tbl99_7 Q) 60 12 99 (loopC 99 3) S99_3 p s
theorem st99_3_e (Q:List D→Option (List D)) (pd0:D) (pn1:Int) (sn0:Int) (sn1:Int):st99_3 Q [pd0,(D.int pn1)] [(D.int sn0),(D.int sn1)] =
 let y0:=qsome (q160 [(qget pd0 sn1)])
 let y1:=qnth (q160 [(qget pd0 sn1)]) 0
 let y2:=l99_7 Q [(.int sn0),pd0,(.int pn1),(.int sn1),y1,(.int (qlen y1))] [(.int 1),(.int 0)]
 bif qcmp .lss sn1 pn1 then gd (qinb pd0 sn1)<|gd y0<|gd (qsome y2)<|ge pd0<|ge (.int pn1)<|some (Sum.inl [.int (qmm .gtr sn0 (qint (qnth y2 1))),.int (qbin .add .i64 sn1 1)])else ge pd0<|ge (.int pn1)<|some (Sum.inr [.int 0,.int sn0]):=by kernel_rfl
def st99_3_eq:=by have h:= @st99_3_e;simp only[ge_id,gd,qeqD_self,qeqI_self,qeqB_self,qand_tt,qeq_len,qeq_l,cond_true]at h;exact h
def l99_3 (Q:List D→Option (List D)):List D→List D→Option (List D):=veil fun p s=>loW (st99_3 Q p) s
theorem l99_3_eq (Q:List D→Option (List D)):l99_3 Q=fun p s=>loW (st99_3 Q p) s:=veil_eq _
def tbl99_3 (Q:List D→Option (List D)):Tb:=Tb.addL (tbl99_7 Q) 99 3 S99_3.n0 (mkLp S99_3 (l99_3 Q))
theorem ok_tbl99_3 (Q:List D→Option (List D)) (hQ:SoundF env.P 99 S99 Q):TbOk env (tbl99_3 Q):=addLoopQ (ok_tbl99_7 Q hQ) 99 3 (by kernel_rfl) _ (l99_3_eq Q)
def Fb99 (Q:List D→Option (List D)):List D→Option (List D):=liftX env (tbl99_3 Q) 60 12 99 S99
theorem Fb99_e (Q:List D→Option (List D)) (sd0:D):Fb99 Q [sd0] =
 let y0:=l99_3 Q [sd0,(.int (qlen sd0))] [(.int 0),(.int 0)]
 gd (qsome y0)<|some [.int (qint (qnth y0 1))]:=by kernel_rfl
def Fb99_eq:=by have h:= @Fb99_e;simp only[ge_id,gd,qeqD_self,qeqI_self,qeqB_self,qand_tt,qeq_len,qeq_l,cond_true]at h;exact h
def F99:Nat→List D→Option (List D):=levels Fb99
theorem F99_s (n:Nat):F99 (n+1)=Fb99 (F99 n):=rfl
def q99:List D→Option (List D):=veil fun ds=>F99 (fuelL ds) ds
theorem q99_eq:q99=fun ds=>F99 (fuelL ds) ds:=veil_eq _
theorem sound99:SoundF env.P 99 S99 q99:=recF (fun q=>tbl99_3 q) (fun q hq=>ok_tbl99_3 q hq) q99_eq
def tb99:Tb:=Tb.addF tb160 99 S99 q99
theorem ok_tb99:TbOk env tb99:=TbOk.addF ok_tb160 (by kernel_rfl) sound99
def S100:FunS:=⟨[⟨true,(.rows 102)⟩,⟨true, .bool⟩],[],[⟨true,(.rows 146)⟩],[]⟩
def tbR100 (Q:List D→Option (List D)):Tb:=Tb.addF tb99 100 S100 Q
theorem ok_tbR100 (Q:List D→Option (List D)) (hQ:SoundF env.P 100 S100 Q):TbOk env (tbR100 Q):=TbOk.addF ok_tb99 (by kernel_rfl) hQ
def S100_7:LoopS:=⟨0,[uF,⟨false, .bool⟩,uF,uF,⟨false,(.lit (.slice none 0 0))⟩,⟨false,(.osl 0 146)⟩,uF,⟨false,(.ptr 1 0)⟩,uF,uF,⟨false,(.rows 102)⟩,⟨false,(.int .i64)⟩,⟨false,(.int .i64)⟩,uF,uF,uF,uF,uF,uF,uF,uF,uF,uF,⟨false,(.rows 59)⟩,⟨false,(.int .i64)⟩,⟨true,(.int .i64)⟩,uF,uF,uF,uF,uF,uF,uF,uF,uF,uF,uF,uF,uF,uF,uF,uF,uF,uF,uF,uF,uF],[(.dat false 102),(.lst true 146)],[⟨0,2,[uT,⟨false, .bool⟩,uT,uT,⟨true,(.lit (.slice none 0 0))⟩,⟨true,(.osl 0 146)⟩,uT,uT,uT,uT,⟨false,(.rows 102)⟩,⟨false,(.int .i64)⟩,⟨false,(.int .i64)⟩,uT,uT,uT,uT,uT,uT,uT,uT,uT,uT,⟨false,(.rows 59)⟩,⟨false,(.int .i64)⟩,uT,uT,uT,uT,uT,uT,uT,uT,uT,uT,uT,uT,uT,uT,uT,uT,uT,uT,uT,uT,uT,uT],[(.dat false 102),(.lst true 146)]⟩]⟩
def st100_7 (Q:List D→Option (List D)) (p s:List D):Option (Sum (List D) (List D)):=stepQX env (tbR100 Q) 60 12 100 (loopC 100 7) S100_7 p s
theorem st100_7_e (Q:List D→Option (List D)) (pb0:Bool) (pd1:D) (pn2:Int) (pn3:Int) (pd4:D) (pn5:Int) (pd6:D) (sn0:Int) (sd1:D):st100_7 Q [(D.bool pb0),pd1,(D.int pn2),(D.int pn3),pd4,(D.int pn5),pd6] [(D.int sn0),sd1] =
 let y0:=qlen (qapp sd1 (qnth (Q [(qget pd4 sn0),(.bool true)]) 0))
 let y1:=qsome (Q [(qget pd4 sn0),(.bool (qcmp .eql (qint (qfld pd6 0)) 8))])
 let y2:=qnth (Q [(qget pd4 sn0),(.bool (qcmp .eql (qint (qfld pd6 0)) 8))]) 0
 let x0:=Q [qget pd4 sn0,.bool true]
 let x1:=qcmp .eql (qlen sd1) (qlen sd1)
 let x2:=D.bool pb0
 let x3:=D.int pn2
 let x4:=D.int pn3
 let x5:=D.int pn5
 let x6:=D.int (qbin .add .i64 sn0 1)
 let x7:Option (List D ⊕ List D):=gd (qsome x0)<|gd x1<|gd (qmem y0 136)<|gd (qcmp .eql y0 y0)<|ge x2<|ge pd1<|ge x3<|ge x4<|ge pd4<|ge x5<|ge pd6<|some (Sum.inl [x6,qapp sd1 (qnth x0 0)])
 let x8:=qlen (qapp sd1 y2)
 bif qcmp .lss sn0 pn5 then gd (qinb pd4 sn0)<|bif pb0 then x7 else bif qcmp .eql (qint (qfld pd6 0)) 7 then x7 else gd y1<|gd x1<|gd (qmem x8 136)<|gd (qcmp .eql x8 x8)<|ge x2<|ge pd1<|ge x3<|ge x4<|ge pd4<|ge x5<|ge pd6<|some (Sum.inl [x6,qapp sd1 y2])else gd x1<|ge x2<|ge pd1<|ge x3<|ge x4<|ge pd4<|ge x5<|ge pd6<|some (Sum.inr [.int 0,sd1]):=by kernel_rfl
def st100_7_eq:=by have h:= @st100_7_e;simp only[ge_id,gd,qeqD_self,qeqI_self,qeqB_self,qand_tt,qeq_len,qeq_l,cond_true]at h;exact h
def l100_7 (Q:List D→Option (List D)):List D→List D→Option (List D):=veil fun p s=>loW (st100_7 Q p) s
theorem l100_7_eq (Q:List D→Option (List D)):l100_7 Q=fun p s=>loW (st100_7 Q p) s:=veil_eq _
def tbl100_7 (Q:List D→Option (List D)):Tb:=Tb.addL (tbR100 Q) 100 7 S100_7.n0 (mkLp S100_7 (l100_7 Q))
theorem ok_tbl100_7 (Q:List D→Option (List D)) (hQ:SoundF env.P 100 S100 Q):TbOk env (tbl100_7 Q):=addLoopQ (ok_tbR100 Q hQ) 100 7 (by kernel_rfl) _ (l100_7_eq Q)
def S100_3:LoopS:=⟨0,[uF,⟨false, .bool⟩,uF,uF,⟨false,(.lit (.slice none 0 0))⟩,⟨false,(.osl 0 146)⟩,uF,uF,uF,uF,⟨false,(.rows 102)⟩,⟨false,(.int .i64)⟩,⟨true,(.int .i64)⟩,uF,uF,uF,uF,uF,uF,uF,uF,uF,uF,uF,uF,uF,uF,uF,uF,uF,uF,uF,uF,uF,uF,uF,uF,uF,uF,uF,uF,uF,uF,uF,uF,uF,uF],[(.lst true 146)],[⟨0,0,[uT,⟨false, .bool⟩,uT,uT,⟨true,(.lit (.slice none 0 0))⟩,⟨true,(.osl 0 146)⟩,uT,uT,uT,uT,⟨false,(.rows 102)⟩,⟨false,(.int .i64)⟩,uT,uT,uT,uT,uT,uT,uT,uT,uT,uT,uT,uT,uT,uT,uT,uT,uT,uT,uT,uT,uT,uT,uT,uT,uT,uT,uT,uT,uT,uT,uT,uT,uT,uT,uT],[(.lst true 146)]⟩]⟩
def st100_3 (Q:List D→Option (List D)) (p s:List D):Option (Sum (List D) (List D)):=stepQX env (tbl100_7 Q) 60 12 100 (loopC 100 3) S100_3 p s
theorem st100_3_e (Q:List D→Option (List D)) (pb0:Bool) (pd1:D) (pn2:Int) (sn0:Int) (sd1:D):st100_3 Q [(D.bool pb0),pd1,(D.int pn2)] [(D.int sn0),sd1] =
 let y0:=qapp sd1 (.list [(.agg [(.agg [(.int (qint (qfld (qget pd1 sn0) 0))),(.int (qint (qfld (qget pd1 sn0) 1))),(.str (qstr (qfld (qget pd1 sn0) 2))),(qfld (qget pd1 sn0) 3),(qfld (qget pd1 sn0) 4),(qfld (qget pd1 sn0) 5),(qfld (qget pd1 sn0) 6)]),(.bool pb0)])])
 let y1:=qsome (q160 [(qget pd1 sn0)])
 let y2:=qnth (q160 [(qget pd1 sn0)]) 0
 let y3:=l100_7 Q [(.bool pb0),pd1,(.int pn2),(.int sn0),y2,(.int (qlen y2)),(qget pd1 sn0)] [(.int 0),y0]
 let x0:=qcmp .eql (qlen sd1) (qlen sd1)
 let x1:=qlen y0
 bif qcmp .lss sn0 pn2 then gd (qinb pd1 sn0)<|gd x0<|gd (qmem x1 136)<|gd y1<|gd (qcmp .eql x1 x1)<|gd (qsome y3)<|gd (qcmp .eql (qlen (qnth y3 1)) (qlen (qnth y3 1)))<|ge (.bool pb0)<|ge pd1<|ge (.int pn2)<|some (Sum.inl [.int (qbin .add .i64 sn0 1),qnth y3 1])else gd x0<|ge (.bool pb0)<|ge pd1<|ge (.int pn2)<|some (Sum.inr [.int 0,sd1]):=by kernel_rfl
def st100_3_eq:=by have h:= @st100_3_e;simp only[ge_id,gd,qeqD_self,qeqI_self,qeqB_self,qand_tt,qeq_len,qeq_l,cond_true]at h;exact h
def l100_3 (Q:List D→Option (List D)):List D→List D→Option (List D):=veil fun p s=>loW (st100_3 Q p) s
theorem l100_3_eq (Q:List D→Option (List D)):l100_3 Q=fun p s=>loW (st100_3 Q p) s:=veil_eq _
def tbl100_3 (Q:List D→Option (List D)):Tb:=Tb.addL (tbl100_7 Q) 100 3 S100_3.n0 (mkLp S100_3 (l100_3 Q))
theorem ok_tbl100_3 (Q:List D→Option (List D)) (hQ:SoundF env.P 100 S100 Q):TbOk env (tbl100_3 Q):=addLoopQ (ok_tbl100_7 Q hQ) 100 3 (by kernel_rfl) _ (l100_3_eq Q)
def Fb100 (Q:List D→Option (List D)):List D→Option (List D):=liftX env (tbl100_3 Q) 60 12 100 S100
theorem Fb100_e (Q:List D→Option (List D)) (sd0:D) (sb1:Bool):Fb100 Q [sd0,(D.bool sb1)] =
 let y0:=l100_3 Q [(.bool sb1),sd0,(.int (qlen sd0))] [(.int 0),(.list [])]
 gd (qcmp .eql 0 (qlen (.list [])))<|gd (qsome y0)<|gd (qcmp .eql (qlen (qnth y0 1)) (qlen (qnth y0 1)))<|some [qnth y0 1]:=by kernel_rfl
def Fb100_eq:=by have h:= @Fb100_e;simp only[ge_id,gd,qeqD_self,qeqI_self,qeqB_self,qand_tt,qeq_len,qeq_l,cond_true]at h;exact h
def F100:Nat→List D→Option (List D):=levels Fb100
theorem F100_s (n:Nat):F100 (n+1)=Fb100 (F100 n):=rfl
def q100:List D→Option (List D):=veil fun ds=>F100 (fuelL ds) ds
theorem q100_eq:q100=fun ds=>F100 (fuelL ds) ds:=veil_eq _
theorem sound100:SoundF env.P 100 S100 q100:=recF (fun q=>tbl100_3 q) (fun q hq=>ok_tbl100_3 q hq) q100_eq
def tb100:Tb:=Tb.addF tb99 100 S100 q100
theorem ok_tb100:TbOk env tb100:=TbOk.addF ok_tb99 (by kernel_rfl) sound100
end
end Go.Proofs.YteccopaonadbeaaGreatDoor
open Go Go.AM
namespace Go.Proofs.YteccopaonadbeaaGreatDoor
noncomputable section
set_option maxRecDepth 100000
set_option linter.unusedSimpArgs false
set_option linter.unusedVariables false
set_option linter.defProp false
def S96_96:FunS:=⟨[⟨true,(.dat 48)⟩,⟨true,(.edat 48)⟩],[],[⟨true, .bool⟩],[]⟩
def F96_96:List D→Option (List D):=liftX env tb100 60 12 96 S96_96
theorem F96_96_eq (sd0:D) (sd1:D):F96_96 [sd0,sd1] =
 some [(D.bool (qcmpS BinOp.eql (qstr (qfld sd0 0)) (qstr (qfld sd1 0))))]:=by kernel_rfl
def q96_96:List D→Option (List D):=veil (F96_96)
theorem q96_96_eq:q96_96=F96_96:=veil_eq _
def tb96_96:Tb:=Tb.addF tb100 96 S96_96 (q96_96)
theorem ok_tb96_96:TbOk env (tb96_96):=addFunF ok_tb100 96 (by kernel_rfl) _ (q96_96_eq)
def S51_96_2:LoopS:=⟨0,[⟨false,(.rows 48)⟩,⟨false,(.func 96 [] [(.edat 48)])⟩,uF,uF,⟨false,(.lit (.int .i64 0))⟩,uF,uF,⟨false,(.int .i64)⟩,⟨true,(.int .i64)⟩,uF,uF,uF,uF,uF,uF,uF,uF,uF,uF],[],[⟨0,0,[⟨false,(.rows 48)⟩,⟨false,(.func 96 [] [(.edat 48)])⟩,uT,uT,⟨true,(.lit (.int .i64 0))⟩,uT,uT,⟨false,(.int .i64)⟩,uT,uT,uT,uT,uT,uT,uT,uT,uT,uT,uT],[]⟩,⟨1,0,[⟨false,(.rows 48)⟩,⟨false,(.func 96 [] [(.edat 48)])⟩,uT,uT,⟨true,(.int .i64)⟩,uT,uT,⟨false,(.int .i64)⟩,uT,uT,uT,uT,uT,uT,uT,uT,uT,uT,uT],[]⟩]⟩
def st51_96_2 (p s:List D):Option (Sum (List D) (List D)):=stepQX env tb96_96 60 12 51 (loopC 51 2) S51_96_2 p s
theorem st51_96_2_e (pd0:D) (pd1:D) (pn2:Int) (sn0:Int):st51_96_2 [pd0,pd1,(D.int pn2)] [(D.int sn0)] =
 let y0:=q96_96 [(qget pd0 sn0),pd1]
 let x0:=D.int pn2
 bif qcmp .lss sn0 pn2 then gd (qinb pd0 sn0)<|gd (qsome y0)<|bif qbool (qnth y0 0)then ge pd0<|ge pd1<|ge x0<|some (Sum.inr [.int 1,.int sn0])else ge pd0<|ge pd1<|ge x0<|some (Sum.inl [.int (qbin .add .i64 sn0 1)])else ge pd0<|ge pd1<|ge x0<|some (Sum.inr [.int 0]):=by kernel_rfl
def st51_96_2_eq:=by have h:= @st51_96_2_e;simp only[ge_id,gd,qeqD_self,qeqI_self,qeqB_self,qand_tt,qeq_len,qeq_l,cond_true]at h;exact h
def l51_96_2:List D→List D→Option (List D):=veil fun p s=>loW (st51_96_2 p) s
theorem l51_96_2_eq:l51_96_2=fun p s=>loW (st51_96_2 p) s:=veil_eq _
def tbl51_96_2:Tb:=Tb.addL tb96_96 51 2 S51_96_2.n0 (mkLp S51_96_2 (l51_96_2))
theorem ok_tbl51_96_2:TbOk env (tbl51_96_2):=addLoopQ ok_tb96_96 51 2 (by kernel_rfl) _ (l51_96_2_eq)
def S51_96:FunS:=⟨[⟨true,(.rows 48)⟩,⟨true,(.func 96 [] [(.edat 48)])⟩],[],[⟨true,(.int .i64)⟩],[]⟩
def F51_96:List D→Option (List D):=liftX env tbl51_96_2 60 12 51 S51_96
theorem F51_96_e (sd0:D) (sd1:D):F51_96 [sd0,sd1] =
 let y0:=l51_96_2 [sd0,sd1,(.int (qlen sd0))] [(.int 0)]
 gd (qsome y0)<|bif qcmp .eql (qint (qnth y0 0)) 0 then some [.int (-1)]else some [.int (qint (qnth y0 1))]:=by kernel_rfl
def F51_96_eq:=by have h:= @F51_96_e;simp only[ge_id,gd,qeqD_self,qeqI_self,qeqB_self,qand_tt,qeq_len,qeq_l,cond_true]at h;exact h
def q51_96:List D→Option (List D):=veil (F51_96)
theorem q51_96_eq:q51_96=F51_96:=veil_eq _
def tb51_96:Tb:=Tb.addF tbl51_96_2 51 S51_96 (q51_96)
theorem ok_tb51_96:TbOk env (tb51_96):=addFunF ok_tbl51_96_2 51 (by kernel_rfl) _ (q51_96_eq)
def S44_96:FunS:=⟨[⟨true,(.rows 48)⟩,⟨true,(.func 96 [] [(.edat 48)])⟩],[],[⟨true, .bool⟩],[]⟩
def F44_96:List D→Option (List D):=liftX env tb51_96 60 12 44 S44_96
theorem F44_96_e (sd0:D) (sd1:D):F44_96 [sd0,sd1] =
 let y0:=qnth (q51_96 [sd0,sd1]) 0
 gd (qsome (q51_96 [sd0,sd1]))<|some [.bool (qcmp .geq (qint y0) 0)]:=by kernel_rfl
def F44_96_eq:=by have h:= @F44_96_e;simp only[ge_id,gd,qeqD_self,qeqI_self,qeqB_self,qand_tt,qeq_len,qeq_l,cond_true]at h;exact h
def q44_96:List D→Option (List D):=veil (F44_96)
theorem q44_96_eq:q44_96=F44_96:=veil_eq _
def tb44_96:Tb:=Tb.addF tb51_96 44 S44_96 (q44_96)
theorem ok_tb44_96:TbOk env (tb44_96):=addFunF ok_tb51_96 44 (by kernel_rfl) _ (q44_96_eq)
def S58_2:LoopS:=⟨0,[⟨false,(.rows 48)⟩,uF,⟨false,(.lit (.int .i64 0))⟩,uF,uF,⟨false,(.rows 48)⟩,⟨false,(.int .i64)⟩,⟨true,(.int .i64)⟩,uF,uF,uF,uF,uF,uF,uF,uF,uF,uF,uF,uF,uF,uF,uF,uF,uF,uF,uF,uF,uF],[],[⟨0,0,[⟨false,(.rows 48)⟩,uT,⟨true,(.lit (.int .i64 0))⟩,uT,uT,⟨false,(.rows 48)⟩,⟨false,(.int .i64)⟩,uT,uT,uT,uT,uT,uT,uT,uT,uT,uT,uT,uT,uT,uT,uT,uT,uT,uT,uT,uT,uT,uT],[]⟩,⟨1,0,[⟨false,(.rows 48)⟩,uT,⟨true,(.int .i64)⟩,uT,uT,⟨false,(.rows 48)⟩,⟨false,(.int .i64)⟩,uT,uT,uT,uT,uT,uT,uT,uT,uT,uT,uT,uT,uT,uT,uT,uT,uT,uT,uT,uT,uT,uT],[]⟩]⟩
def st58_2 (p s:List D):Option (Sum (List D) (List D)):=stepQX env tb44_96 60 12 58 (loopC 58 2) S58_2 p s
theorem st58_2_e (pd0:D) (pd1:D) (pn2:Int) (sn0:Int):st58_2 [pd0,pd1,(D.int pn2)] [(D.int sn0)] =
 let y0:=q59 [(.str (qstr (qfld (qget pd1 sn0) 0)))]
 let y1:=q44_96 [(qsub pd0 0 sn0),(qget pd1 sn0)]
 let x0:=D.int pn2
 let x1:=D.int 1
 bif qcmp .lss sn0 pn2 then gd (qinb pd1 sn0)<|gd (qsome y0)<|bif qnot (qbool (qnth y0 0))then ge pd0<|ge pd1<|ge x0<|some (Sum.inr [x1,.int 3])else gd (qcmp .leq 0 0)<|gd (qcmp .leq 0 sn0)<|gd (qcmp .leq sn0 (qlen pd0))<|gd (qsome y1)<|bif qbool (qnth y1 0)then ge pd0<|ge pd1<|ge x0<|some (Sum.inr [x1,.int 8])else bif qcmp .gtr (qlen (qfld (qget pd1 sn0) 2)) 65536 then ge pd0<|ge pd1<|ge x0<|some (Sum.inr [x1,.int 6])else ge pd0<|ge pd1<|ge x0<|some (Sum.inl [.int (qbin .add .i64 sn0 1)])else ge pd0<|ge pd1<|ge x0<|some (Sum.inr [.int 0]):=by kernel_rfl
def st58_2_eq:=by have h:= @st58_2_e;simp only[ge_id,gd,qeqD_self,qeqI_self,qeqB_self,qand_tt,qeq_len,qeq_l,cond_true]at h;exact h
def l58_2:List D→List D→Option (List D):=veil fun p s=>loW (st58_2 p) s
theorem l58_2_eq:l58_2=fun p s=>loW (st58_2 p) s:=veil_eq _
def tbl58_2:Tb:=Tb.addL tb44_96 58 2 S58_2.n0 (mkLp S58_2 (l58_2))
theorem ok_tbl58_2:TbOk env (tbl58_2):=addLoopQ ok_tb44_96 58 2 (by kernel_rfl) _ (l58_2_eq)
def S58:FunS:=⟨[⟨true,(.rows 48)⟩],[],[⟨true,(.int .i64)⟩],[]⟩
def F58:List D→Option (List D):=liftX env tbl58_2 60 12 58 S58
theorem F58_e (sd0:D):F58 [sd0] =
 let y0:=l58_2 [sd0,sd0,(.int (qlen sd0))] [(.int 0)]
 gd (qsome y0)<|bif qcmp .eql (qint (qnth y0 0)) 0 then some [.int 0]else some [.int (qint (qnth y0 1))]:=by kernel_rfl
def F58_eq:=by have h:= @F58_e;simp only[ge_id,gd,qeqD_self,qeqI_self,qeqB_self,qand_tt,qeq_len,qeq_l,cond_true]at h;exact h
def q58:List D→Option (List D):=veil (F58)
theorem q58_eq:q58=F58:=veil_eq _
def tb58:Tb:=Tb.addF tbl58_2 58 S58 (q58)
theorem ok_tb58:TbOk env (tb58):=addFunF ok_tbl58_2 58 (by kernel_rfl) _ (q58_eq)
def S161:FunS:=⟨[⟨true,(.lit (.slice none 0 0))⟩,⟨true,(.int .i64)⟩],[],[⟨true,(.oslc 0 133)⟩],[(.lst true 133)]⟩
def F161:List D→Option (List D):=liftX env tb58 60 12 161 S161
theorem F161_e (sn0:Int):F161 [(D.int sn0)] =
 let y0:=qrep (qbin .sub .i64 sn0 0) (.agg [(.str (ByteArray.mk #[])),(.agg [(.int 0),(.int 0),(.int 0),(.list []),(.list [])])])
 let x0:=qbin .sub .i64 sn0 0
 bif qcmp .lss sn0 0 then none else bif qcmp .gtr x0 0 then gd (qcmp .lss 0 x0)<|gd (qmem x0 88)<|gd (qcmp .leq 0 0)<|gd (qcmp .leq 0 x0)<|gd (qcmp .eql 0 (qlen (qsub y0 0 0)))<|some [qsub y0 0 0]else gd (qcmp .eql 0 (qlen (.list [])))<|some [.list []]:=by kernel_rfl
def F161_eq:=by have h:= @F161_e;simp only[ge_id,gd,qeqD_self,qeqI_self,qeqB_self,qand_tt,qeq_len,qeq_l,cond_true]at h;exact h
def q161:List D→Option (List D):=veil (F161)
theorem q161_eq:q161=F161:=veil_eq _
def tb161:Tb:=Tb.addF tb58 161 S161 (q161)
theorem ok_tb161:TbOk env (tb161):=addFunF ok_tb58 161 (by kernel_rfl) _ (q161_eq)
def S101_3:LoopS:=⟨0,[⟨false,(.rows 29)⟩,uF,⟨false,(.lit (.slice none 0 0))⟩,⟨true,(.int .i64)⟩,uF,uF,uF,uF,uF,⟨false,(.rows 29)⟩,⟨false,(.int .i64)⟩,⟨true,(.int .i64)⟩,uF,uF,uF,uF,uF,uF,uF,uF,uF,uF,uF,uF,uF,uF,uF,uF,uF,uF,uF,uF,uF,uF,uF,uF],[],[⟨0,0,[⟨false,(.rows 29)⟩,uT,⟨true,(.lit (.slice none 0 0))⟩,⟨true,(.int .i64)⟩,uT,uT,uT,uT,uT,⟨false,(.rows 29)⟩,⟨false,(.int .i64)⟩,uT,uT,uT,uT,uT,uT,uT,uT,uT,uT,uT,uT,uT,uT,uT,uT,uT,uT,uT,uT,uT,uT,uT,uT,uT],[]⟩]⟩
def st101_3 (p s:List D):Option (Sum (List D) (List D)):=stepQX env tb161 60 12 101 (loopC 101 3) S101_3 p s
theorem st101_3_e (pd0:D) (pd1:D) (pn2:Int) (sn0:Int) (sn1:Int):st101_3 [pd0,pd1,(D.int pn2)] [(D.int sn0),(D.int sn1)] =
 let y0:=qcmp .lss (qbin .add .i64 sn0 (qlen (qget pd1 sn1))) 0
 bif qcmp .lss sn1 pn2 then gd (qinb pd1 sn1)<|bif y0 then none else ge pd0<|ge pd1<|ge (.int pn2)<|some (Sum.inl [.int (qbin .add .i64 sn0 (qlen (qget pd1 sn1))),.int (qbin .add .i64 sn1 1)])else ge pd0<|ge pd1<|ge (.int pn2)<|some (Sum.inr [.int 0,.int sn0]):=by kernel_rfl
def st101_3_eq:=by have h:= @st101_3_e;simp only[ge_id,gd,qeqD_self,qeqI_self,qeqB_self,qand_tt,qeq_len,qeq_l,cond_true]at h;exact h
def l101_3:List D→List D→Option (List D):=veil fun p s=>loW (st101_3 p) s
theorem l101_3_eq:l101_3=fun p s=>loW (st101_3 p) s:=veil_eq _
def tbl101_3:Tb:=Tb.addL tb161 101 3 S101_3.n0 (mkLp S101_3 (l101_3))
theorem ok_tbl101_3:TbOk env (tbl101_3):=addLoopQ ok_tb161 101 3 (by kernel_rfl) _ (l101_3_eq)
def S101_11:LoopS:=⟨0,[uF,uF,⟨false,(.lit (.slice none 0 0))⟩,uF,uF,uF,⟨false,(.osl 0 133)⟩,uF,uF,uF,uF,uF,uF,uF,uF,uF,uF,uF,uF,uF,uF,uF,uF,uF,uF,⟨false,(.rows 29)⟩,⟨false,(.int .i64)⟩,⟨true,(.int .i64)⟩,uF,uF,uF,uF,uF,uF,uF,uF],[(.lst true 133)],[⟨0,2,[uT,uT,⟨true,(.lit (.slice none 0 0))⟩,uT,uT,uT,⟨true,(.osl 0 133)⟩,uT,uT,uT,uT,uT,uT,uT,uT,uT,uT,uT,uT,uT,uT,uT,uT,uT,uT,⟨false,(.rows 29)⟩,⟨false,(.int .i64)⟩,uT,uT,uT,uT,uT,uT,uT,uT,uT],[(.lst true 133)]⟩]⟩
def st101_11 (p s:List D):Option (Sum (List D) (List D)):=stepQX env tbl101_3 60 12 101 (loopC 101 11) S101_11 p s
theorem st101_11_e (pd0:D) (pn1:Int) (sn0:Int) (sd1:D):st101_11 [pd0,(D.int pn1)] [(D.int sn0),sd1] =
 let y0:=qcmp .eql (qlen (qapp sd1 (qget pd0 sn0))) (qlen (qapp sd1 (qget pd0 sn0)))
 let x0:=qcmp .eql (qlen sd1) (qlen sd1)
 let x1:=qapp sd1 (qget pd0 sn0)
 bif qcmp .lss sn0 pn1 then gd (qinb pd0 sn0)<|gd x0<|gd (qmem (qlen x1) 88)<|gd y0<|ge pd0<|ge (.int pn1)<|some (Sum.inl [.int (qbin .add .i64 sn0 1),x1])else gd x0<|ge pd0<|ge (.int pn1)<|some (Sum.inr [.int 0,sd1]):=by kernel_rfl
def st101_11_eq:=by have h:= @st101_11_e;simp only[ge_id,gd,qeqD_self,qeqI_self,qeqB_self,qand_tt,qeq_len,qeq_l,cond_true]at h;exact h
def l101_11:List D→List D→Option (List D):=veil fun p s=>loW (st101_11 p) s
theorem l101_11_eq:l101_11=fun p s=>loW (st101_11 p) s:=veil_eq _
def tbl101_11:Tb:=Tb.addL tbl101_3 101 11 S101_11.n0 (mkLp S101_11 (l101_11))
theorem ok_tbl101_11:TbOk env (tbl101_11):=addLoopQ ok_tbl101_3 101 11 (by kernel_rfl) _ (l101_11_eq)
def S101:FunS:=⟨[⟨true,(.rows 29)⟩],[],[⟨true,(.rows 133)⟩],[]⟩
def F101:List D→Option (List D):=liftX env tbl101_11 60 12 101 S101
theorem F101_e (sd0:D):F101 [sd0] =
 let y0:=l101_3 [sd0,sd0,(.int (qlen sd0))] [(.int 0),(.int 0)]
 let y1:=q161 [(.int (qint (qnth y0 1)))]
 let y2:=l101_11 [sd0,(.int (qlen sd0))] [(.int 0),(qnth y1 0)]
 let x0:=qlen (qnth y1 0)
 gd (qsome y0)<|gd (qsome y1)<|gd (qcmp .eql x0 x0)<|gd (qsome y2)<|gd (qcmp .eql (qlen (qnth y2 1)) (qlen (qnth y2 1)))<|some [qnth y2 1]:=by kernel_rfl
def F101_eq:=by have h:= @F101_e;simp only[ge_id,gd,qeqD_self,qeqI_self,qeqB_self,qand_tt,qeq_len,qeq_l,cond_true]at h;exact h
def q101:List D→Option (List D):=veil (F101)
theorem q101_eq:q101=F101:=veil_eq _
def tb101:Tb:=Tb.addF tbl101_11 101 S101 (q101)
theorem ok_tb101:TbOk env (tb101):=addFunF ok_tbl101_11 101 (by kernel_rfl) _ (q101_eq)
def S163_163:FunS:=⟨[⟨true,(.dat 105)⟩],[],[⟨true, .bool⟩],[]⟩
def F163_163:List D→Option (List D):=liftX env tb101 60 12 163 S163_163
theorem F163_163_e (sd0:D):F163_163 [sd0] =
 let y0:=qsome (q164 [sd0,(.int 64)])
 let y1:=qnth (q164 [sd0,(.int 64)]) 0
 gd y0<|some [.bool (qnot (qbool y1))]:=by kernel_rfl
def F163_163_eq:=by have h:= @F163_163_e;simp only[ge_id,gd,qeqD_self,qeqI_self,qeqB_self,qand_tt,qeq_len,qeq_l,cond_true]at h;exact h
def q163_163:List D→Option (List D):=veil (F163_163)
theorem q163_163_eq:q163_163=F163_163:=veil_eq _
def tb163_163:Tb:=Tb.addF tb101 163 S163_163 (q163_163)
theorem ok_tb163_163:TbOk env (tb163_163):=addFunF ok_tb101 163 (by kernel_rfl) _ (q163_163_eq)
def S201_163_2:LoopS:=⟨0,[⟨false,(.rows 105)⟩,⟨false,(.func 163 [] [])⟩,uF,uF,⟨false,(.lit (.int .i64 0))⟩,uF,uF,⟨false,(.int .i64)⟩,⟨true,(.int .i64)⟩,uF,uF,uF,uF,uF,uF,uF,uF,uF,uF],[],[⟨0,0,[⟨false,(.rows 105)⟩,uT,uT,uT,⟨true,(.lit (.int .i64 0))⟩,uT,uT,⟨false,(.int .i64)⟩,uT,uT,uT,uT,uT,uT,uT,uT,uT,uT,uT],[]⟩,⟨1,0,[⟨false,(.rows 105)⟩,uT,uT,uT,⟨true,(.int .i64)⟩,uT,uT,⟨false,(.int .i64)⟩,uT,uT,uT,uT,uT,uT,uT,uT,uT,uT,uT],[]⟩]⟩
def st201_163_2 (p s:List D):Option (Sum (List D) (List D)):=stepQX env tb163_163 60 12 201 (loopC 201 2) S201_163_2 p s
theorem st201_163_2_e (pd0:D) (pn1:Int) (sn0:Int):st201_163_2 [pd0,(D.int pn1)] [(D.int sn0)] =
 let y0:=qsome (q163_163 [(qget pd0 sn0)])
 let y1:=qnth (q163_163 [(qget pd0 sn0)]) 0
 let x0:=D.int pn1
 bif qcmp .lss sn0 pn1 then gd (qinb pd0 sn0)<|gd y0<|bif qbool y1 then ge pd0<|ge x0<|some (Sum.inr [.int 1,.int sn0])else ge pd0<|ge x0<|some (Sum.inl [.int (qbin .add .i64 sn0 1)])else ge pd0<|ge x0<|some (Sum.inr [.int 0]):=by kernel_rfl
def st201_163_2_eq:=by have h:= @st201_163_2_e;simp only[ge_id,gd,qeqD_self,qeqI_self,qeqB_self,qand_tt,qeq_len,qeq_l,cond_true]at h;exact h
def l201_163_2:List D→List D→Option (List D):=veil fun p s=>loW (st201_163_2 p) s
theorem l201_163_2_eq:l201_163_2=fun p s=>loW (st201_163_2 p) s:=veil_eq _
def tbl201_163_2:Tb:=Tb.addL tb163_163 201 2 S201_163_2.n0 (mkLp S201_163_2 (l201_163_2))
theorem ok_tbl201_163_2:TbOk env (tbl201_163_2):=addLoopQ ok_tb163_163 201 2 (by kernel_rfl) _ (l201_163_2_eq)
def S201_163:FunS:=⟨[⟨true,(.rows 105)⟩,⟨true,(.func 163 [] [])⟩],[],[⟨true,(.int .i64)⟩],[]⟩
def F201_163:List D→Option (List D):=liftX env tbl201_163_2 60 12 201 S201_163
theorem F201_163_e (sd0:D):F201_163 [sd0] =
 let y0:=l201_163_2 [sd0,(.int (qlen sd0))] [(.int 0)]
 gd (qsome y0)<|bif qcmp .eql (qint (qnth y0 0)) 0 then some [.int (-1)]else some [.int (qint (qnth y0 1))]:=by kernel_rfl
def F201_163_eq:=by have h:= @F201_163_e;simp only[ge_id,gd,qeqD_self,qeqI_self,qeqB_self,qand_tt,qeq_len,qeq_l,cond_true]at h;exact h
def q201_163:List D→Option (List D):=veil (F201_163)
theorem q201_163_eq:q201_163=F201_163:=veil_eq _
def tb201_163:Tb:=Tb.addF tbl201_163_2 201 S201_163 (q201_163)
theorem ok_tb201_163:TbOk env (tb201_163):=addFunF ok_tbl201_163_2 201 (by kernel_rfl) _ (q201_163_eq)
def S162_163:FunS:=⟨[⟨true,(.rows 105)⟩,⟨true,(.func 163 [] [])⟩],[],[⟨true, .bool⟩],[]⟩
def F162_163:List D→Option (List D):=liftX env tb201_163 60 12 162 S162_163
theorem F162_163_e (sd0:D):F162_163 [sd0] =
 let y0:=qint (qnth (q201_163 [sd0]) 0)
 gd (qsome (q201_163 [sd0]))<|some [.bool (qcmp .geq y0 0)]:=by kernel_rfl
def F162_163_eq:=by have h:= @F162_163_e;simp only[ge_id,gd,qeqD_self,qeqI_self,qeqB_self,qand_tt,qeq_len,qeq_l,cond_true]at h;exact h
def q162_163:List D→Option (List D):=veil (F162_163)
theorem q162_163_eq:q162_163=F162_163:=veil_eq _
def tb162_163:Tb:=Tb.addF tb201_163 162 S162_163 (q162_163)
theorem ok_tb162_163:TbOk env (tb162_163):=addFunF ok_tb201_163 162 (by kernel_rfl) _ (q162_163_eq)
def S203_203:FunS:=⟨[⟨true,(.dat 105)⟩],[],[⟨true, .bool⟩],[]⟩
def F203_203:List D→Option (List D):=liftX env tb162_163 60 12 203 S203_203
theorem F203_203_e (sd0:D):F203_203 [sd0] =
 let y0:=qbool (qnth (q204 [sd0]) 0)
 gd (qsome (q204 [sd0]))<|some [.bool (qnot y0)]:=by kernel_rfl
def F203_203_eq:=by have h:= @F203_203_e;simp only[ge_id,gd,qeqD_self,qeqI_self,qeqB_self,qand_tt,qeq_len,qeq_l,cond_true]at h;exact h
def q203_203:List D→Option (List D):=veil (F203_203)
theorem q203_203_eq:q203_203=F203_203:=veil_eq _
def tb203_203:Tb:=Tb.addF tb162_163 203 S203_203 (q203_203)
theorem ok_tb203_203:TbOk env (tb203_203):=addFunF ok_tb162_163 203 (by kernel_rfl) _ (q203_203_eq)
def S201_203_2:LoopS:=⟨0,[⟨false,(.rows 105)⟩,⟨false,(.func 203 [] [])⟩,uF,uF,⟨false,(.lit (.int .i64 0))⟩,uF,uF,⟨false,(.int .i64)⟩,⟨true,(.int .i64)⟩,uF,uF,uF,uF,uF,uF,uF,uF,uF,uF],[],[⟨0,0,[⟨false,(.rows 105)⟩,uT,uT,uT,⟨true,(.lit (.int .i64 0))⟩,uT,uT,⟨false,(.int .i64)⟩,uT,uT,uT,uT,uT,uT,uT,uT,uT,uT,uT],[]⟩,⟨1,0,[⟨false,(.rows 105)⟩,uT,uT,uT,⟨true,(.int .i64)⟩,uT,uT,⟨false,(.int .i64)⟩,uT,uT,uT,uT,uT,uT,uT,uT,uT,uT,uT],[]⟩]⟩
def st201_203_2 (p s:List D):Option (Sum (List D) (List D)):=stepQX env tb203_203 60 12 201 (loopC 201 2) S201_203_2 p s
theorem st201_203_2_e (pd0:D) (pn1:Int) (sn0:Int):st201_203_2 [pd0,(D.int pn1)] [(D.int sn0)] =
 let y0:=qsome (q203_203 [(qget pd0 sn0)])
 let y1:=qnth (q203_203 [(qget pd0 sn0)]) 0
 let x0:=D.int pn1
 bif qcmp .lss sn0 pn1 then gd (qinb pd0 sn0)<|gd y0<|bif qbool y1 then ge pd0<|ge x0<|some (Sum.inr [.int 1,.int sn0])else ge pd0<|ge x0<|some (Sum.inl [.int (qbin .add .i64 sn0 1)])else ge pd0<|ge x0<|some (Sum.inr [.int 0]):=by kernel_rfl
def st201_203_2_eq:=by have h:= @st201_203_2_e;simp only[ge_id,gd,qeqD_self,qeqI_self,qeqB_self,qand_tt,qeq_len,qeq_l,cond_true]at h;exact h
def l201_203_2:List D→List D→Option (List D):=veil fun p s=>loW (st201_203_2 p) s
theorem l201_203_2_eq:l201_203_2=fun p s=>loW (st201_203_2 p) s:=veil_eq _
def tbl201_203_2:Tb:=Tb.addL tb203_203 201 2 S201_203_2.n0 (mkLp S201_203_2 (l201_203_2))
theorem ok_tbl201_203_2:TbOk env (tbl201_203_2):=addLoopQ ok_tb203_203 201 2 (by kernel_rfl) _ (l201_203_2_eq)
def S201_203:FunS:=⟨[⟨true,(.rows 105)⟩,⟨true,(.func 203 [] [])⟩],[],[⟨true,(.int .i64)⟩],[]⟩
def F201_203:List D→Option (List D):=liftX env tbl201_203_2 60 12 201 S201_203
theorem F201_203_e (sd0:D):F201_203 [sd0] =
 let y0:=l201_203_2 [sd0,(.int (qlen sd0))] [(.int 0)]
 gd (qsome y0)<|bif qcmp .eql (qint (qnth y0 0)) 0 then some [.int (-1)]else some [.int (qint (qnth y0 1))]:=by kernel_rfl
def F201_203_eq:=by have h:= @F201_203_e;simp only[ge_id,gd,qeqD_self,qeqI_self,qeqB_self,qand_tt,qeq_len,qeq_l,cond_true]at h;exact h
def q201_203:List D→Option (List D):=veil (F201_203)
theorem q201_203_eq:q201_203=F201_203:=veil_eq _
def tb201_203:Tb:=Tb.addF tbl201_203_2 201 S201_203 (q201_203)
theorem ok_tb201_203:TbOk env (tb201_203):=addFunF ok_tbl201_203_2 201 (by kernel_rfl) _ (q201_203_eq)
def S162_203:FunS:=⟨[⟨true,(.rows 105)⟩,⟨true,(.func 203 [] [])⟩],[],[⟨true, .bool⟩],[]⟩
def F162_203:List D→Option (List D):=liftX env tb201_203 60 12 162 S162_203
theorem F162_203_e (sd0:D):F162_203 [sd0] =
 let y0:=qint (qnth (q201_203 [sd0]) 0)
 gd (qsome (q201_203 [sd0]))<|some [.bool (qcmp .geq y0 0)]:=by kernel_rfl
def F162_203_eq:=by have h:= @F162_203_e;simp only[ge_id,gd,qeqD_self,qeqI_self,qeqB_self,qand_tt,qeq_len,qeq_l,cond_true]at h;exact h
def q162_203:List D→Option (List D):=veil (F162_203)
theorem q162_203_eq:q162_203=F162_203:=veil_eq _
def tb162_203:Tb:=Tb.addF tb201_203 162 S162_203 (q162_203)
theorem ok_tb162_203:TbOk env (tb162_203):=addFunF ok_tb201_203 162 (by kernel_rfl) _ (q162_203_eq)
def S165:FunS:=⟨[⟨true,(.dat 102)⟩],[],[⟨true, .bool⟩],[]⟩
def F165:List D→Option (List D):=liftX env tb162_203 60 12 165 S165
theorem F165_e (sd0:D):F165 [sd0] =
 let y0:=q59 [(.str (qstr (qfld sd0 2)))]
 let y1:=qiteB (qiteB (qnot (qbool (qnth y0 0))) true false) true (qcmp .neq (qint (qfld sd0 1)) 0)
 let y2:=qiteB (qcmp .gtr (qlen (qfld sd0 4)) 0) true (qcmp .gtr (qlen (qfld sd0 5)) 0)
 let y3:=qsome (q162_203 [(qfld sd0 3)])
 let y4:=qnth (q162_203 [(qfld sd0 3)]) 0
 let y5:=qiteB (qcmp .neq (qint (qfld sd0 1)) 1) (qcmp .neq (qint (qfld sd0 1)) 2) false
 let y6:=qiteB (qcmpS .neq (qstr (qfld sd0 2)) (ByteArray.mk #[])) true (qcmp .neq (qint (qfld sd0 1)) (qint (qfld sd0 1)))
 let y7:=qiteB (qcmp .eql (qint (qfld sd0 0)) 12) (qcmp .eql (qint (qfld sd0 0)) 12) (qcmp .eql (qint (qfld sd0 0)) 13)
 let y8:=qiteB (qcmp .eql (qint (qfld sd0 0)) 5) (qcmp .eql (qint (qfld sd0 0)) 5) y7
 let y9:=qiteB (qcmp .eql (qint (qfld sd0 0)) 3) (qcmp .eql (qint (qfld sd0 0)) 3) y8
 let y10:=qiteB (qcmpS .neq (qstr (qfld sd0 2)) (ByteArray.mk #[])) true (qcmp .neq (qint (qfld sd0 1)) 0)
 let y11:=qiteB (qcmp .gtr (qlen (qfld sd0 5)) 0) true (qcmp .gtr (qlen (qfld sd0 6)) 0)
 let y12:=qiteB (qcmp .lss (qlen (qfld sd0 6)) 1) true (qcmp .gtr (qlen (qfld sd0 6)) 64)
 let y13:=qiteB (qcmp .eql (qint (qfld sd0 0)) 14) (qcmp .eql (qint (qfld sd0 0)) 14) (qcmp .eql (qint (qfld sd0 0)) 15)
 let y14:=qiteB (qcmp .eql (qint (qfld sd0 0)) 11) (qcmp .eql (qint (qfld sd0 0)) 11) y13
 let y15:=qiteB (qcmp .eql (qint (qfld sd0 0)) 10) (qcmp .eql (qint (qfld sd0 0)) 10) y14
 let x0:=qint (qfld sd0 0)
 let x1:=qlen (qfld sd0 3)
 let x2:=qcmp .neq x1 1
 let x3:Option (List D):=some [.bool false]
 let x4:=qcmp .gtr (qlen (qfld sd0 6)) 0
 let x5:Option (List D):=gd y3<|some [.bool (qnot (qbool y4))]
 let x6:Option (List D):=bif qiteB y2 true x4 then x3 else x5
 let x7:=qcmp .neq x1 0
 let x8:=qiteB y10 true x2
 let x9:=qiteB y10 true x7
 bif qcmp .eql x0 1 then gd (qsome y0)<|bif qiteB y1 true x2 then x3 else x6 else bif qcmp .eql x0 2 then bif qiteB y5 (qcmp .neq (qint (qfld sd0 1)) 4) false then x3 else bif qiteB y6 true (qcmp .neq x1 2)then x3 else x6 else bif y9 then gd (qsome y0)<|bif qiteB y1 true x7 then x3 else x6 else bif qcmp .eql x0 4 then bif x8 then x3 else x6 else bif qcmp .eql x0 6 then bif x8 then x3 else bif x4 then x3 else x5 else bif qcmp .eql x0 7 then bif x8 then x3 else bif y11 then x3 else x5 else bif qcmp .eql x0 8 then bif x9 then x3 else bif y11 then x3 else x5 else bif qcmp .eql x0 9 then bif y12 then x3 else bif x8 then x3 else bif qiteB y2 true false then x3 else x5 else bif y15 then bif x9 then x3 else x6 else x3:=by kernel_rfl
def F165_eq:=by have h:= @F165_e;simp only[ge_id,gd,qeqD_self,qeqI_self,qeqB_self,qand_tt,qeq_len,qeq_l,cond_true]at h;exact h
def q165:List D→Option (List D):=veil (F165)
theorem q165_eq:q165=F165:=veil_eq _
def tb165:Tb:=Tb.addF tb162_203 165 S165 (q165)
theorem ok_tb165:TbOk env (tb165):=addFunF ok_tb162_203 165 (by kernel_rfl) _ (q165_eq)
def S166_2:LoopS:=⟨0,[⟨false,(.eptr [(.func 153 [] [(.eptr [(.rows 133)])]),(.rows 9),(.rows 9),(.rows 9)])⟩,uF,uF,⟨false,(.ptr 0 0)⟩,⟨false,(.lit (.bool false))⟩,uF,uF,uF,⟨false,(.rows 105)⟩,⟨false,(.int .i64)⟩,⟨true,(.int .i64)⟩,uF,uF,uF,uF,uF,uF,uF,uF,uF,uF,uF,uF,uF,uF,uF,uF,uF,uF,uF,uF,uF,uF,uF,uF,uF,uF,uF,uF,uF,uF,uF,uF,uF,uF,uF,uF,uF,uF,uF,uF,uF],[(.dat false 102)],[⟨0,0,[⟨false,(.eptr [(.func 153 [] [(.eptr [(.rows 133)])]),(.rows 9),(.rows 9),(.rows 9)])⟩,uT,uT,⟨true,(.ptr 0 0)⟩,⟨true,(.lit (.bool false))⟩,uT,uT,uT,⟨false,(.rows 105)⟩,⟨false,(.int .i64)⟩,uT,uT,uT,uT,uT,uT,uT,uT,uT,uT,uT,uT,uT,uT,uT,uT,uT,uT,uT,uT,uT,uT,uT,uT,uT,uT,uT,uT,uT,uT,uT,uT,uT,uT,uT,uT,uT,uT,uT,uT,uT,uT],[(.dat false 102)]⟩,⟨1,0,[⟨false,(.eptr [(.func 153 [] [(.eptr [(.rows 133)])]),(.rows 9),(.rows 9),(.rows 9)])⟩,uT,uT,uT,⟨true,(.lit (.bool false))⟩,uT,uT,uT,⟨false,(.rows 105)⟩,⟨false,(.int .i64)⟩,uT,uT,uT,uT,uT,uT,uT,uT,uT,uT,uT,uT,uT,uT,uT,uT,uT,uT,uT,uT,uT,uT,uT,uT,uT,uT,uT,uT,uT,uT,uT,uT,uT,uT,uT,uT,uT,uT,uT,uT,uT,uT],[(.dat false 102)]⟩]⟩
def st166_2 (p s:List D):Option (Sum (List D) (List D)):=stepQX env tb165 60 12 166 (loopC 166 2) S166_2 p s
theorem st166_2_e (pd0:D) (pd1:D) (pd2:D) (pd3:D) (pd4:D) (pn5:Int) (pd6:D) (sn0:Int):st166_2 [pd0,pd1,pd2,pd3,pd4,(D.int pn5),pd6] [(D.int sn0)] =
 let y0:=q205 [(qget pd4 sn0),pd0]
 let x0:=D.int pn5
 bif qcmp .lss sn0 pn5 then gd (qinb pd4 sn0)<|gd (qsome y0)<|bif qnot (qbool (qnth y0 0))then ge pd0<|ge pd1<|ge pd2<|ge pd3<|ge pd4<|ge x0<|ge pd6<|some (Sum.inr [.int 1])else ge pd0<|ge pd1<|ge pd2<|ge pd3<|ge pd4<|ge x0<|ge pd6<|some (Sum.inl [.int (qbin .add .i64 sn0 1)])else ge pd0<|ge pd1<|ge pd2<|ge pd3<|ge pd4<|ge x0<|ge pd6<|some (Sum.inr [.int 0]):=by kernel_rfl
def st166_2_eq:=by have h:= @st166_2_e;simp only[ge_id,gd,qeqD_self,qeqI_self,qeqB_self,qand_tt,qeq_len,qeq_l,cond_true]at h;exact h
def l166_2:List D→List D→Option (List D):=veil fun p s=>loW (st166_2 p) s
theorem l166_2_eq:l166_2=fun p s=>loW (st166_2 p) s:=veil_eq _
def tbl166_2:Tb:=Tb.addL tb165 166 2 S166_2.n0 (mkLp S166_2 (l166_2))
theorem ok_tbl166_2:TbOk env (tbl166_2):=addLoopQ ok_tb165 166 2 (by kernel_rfl) _ (l166_2_eq)
def S166:FunS:=⟨[⟨true,(.eptr [(.func 153 [] [(.eptr [(.rows 133)])]),(.rows 9),(.rows 9),(.rows 9)])⟩,⟨true,(.dat 102)⟩],[],[⟨true, .bool⟩],[]⟩
def F166:List D→Option (List D):=liftX env tbl166_2 60 12 166 S166
theorem F166_e (sd0:D) (sd1:D) (sd2:D) (sd3:D) (sd4:D):F166 [sd0,sd1,sd2,sd3,sd4] =
 let y0:=l166_2 [sd0,sd1,sd2,sd3,(qfld sd4 3),(.int (qlen (qfld sd4 3))),sd4] [(.int 0)]
 let y1:=qiteB (qcmp .eql (qint (qfld sd4 0)) 1) (qcmp .eql (qint (qfld sd4 0)) 1) (qcmp .eql (qint (qfld sd4 0)) 3)
 let y2:=q153 [(.str (qstr (qfld sd4 2))),sd0]
 let y3:=q60 [sd1,(.str (qstr (qfld sd4 2)))]
 let y4:=q60 [sd2,(.str (qstr (qfld sd4 2)))]
 let x0:=qint (qfld sd4 0)
 gd (qsome y0)<|bif qcmp .eql (qint (qnth y0 0)) 0 then bif y1 then gd (qsome y2)<|some [.bool (qbool (qnth y2 0))]else bif qcmp .eql x0 5 then gd (qsome y3)<|some [.bool (qbool (qnth y3 0))]else bif qcmp .eql x0 12 then gd (qsome y4)<|some [.bool (qbool (qnth y4 0))]else some [.bool true]else some [.bool false]:=by kernel_rfl
def F166_eq:=by have h:= @F166_e;simp only[ge_id,gd,qeqD_self,qeqI_self,qeqB_self,qand_tt,qeq_len,qeq_l,cond_true]at h;exact h
def q166:List D→Option (List D):=veil (F166)
theorem q166_eq:q166=F166:=veil_eq _
def tb166:Tb:=Tb.addF tbl166_2 166 S166 (q166)
theorem ok_tb166:TbOk env (tb166):=addFunF ok_tbl166_2 166 (by kernel_rfl) _ (q166_eq)
end
end Go.Proofs.YteccopaonadbeaaGreatDoor
open Go Go.AM
namespace Go.Proofs.YteccopaonadbeaaGreatDoor
noncomputable section
set_option maxRecDepth 100000
set_option linter.unusedSimpArgs false
set_option linter.unusedVariables false
set_option linter.defProp false
def S102:FunS:=⟨[⟨true,(.ptr 0 0)⟩,⟨true,(.dat 146)⟩],[(.lst true 9),(.lst false 9),(.cells [⟨false,(.func 153 [] [(.eptr [(.rows 133)])])⟩,⟨false,(.rows 9)⟩,⟨false,(.osl 1 9)⟩,⟨false,(.osl 2 9)⟩])],[⟨true,(.int .i64)⟩],[(.lst true 9), .skip,(.lst false 9),(.cells [⟨false,(.func 153 [] [(.eptr [(.rows 133)])])⟩,⟨false,(.rows 9)⟩,⟨true,(.osl 1 9)⟩,⟨true,(.osl 3 9)⟩])]⟩
def F102:List D→Option (List D):=liftX env tb166 60 12 102 S102
theorem F102_e (pd0:D) (pd1:D) (pd2:D) (sd0:D) (sd1:D):F102 [pd0,pd1,pd2,sd0,sd1] =
 let y0:=q162_163 [(qfld (qfld sd0 0) 3)]
 let y1:=q165 [(.agg [(.int (qint (qfld (qfld sd0 0) 0))),(.int (qint (qfld (qfld sd0 0) 1))),(.str (qstr (qfld (qfld sd0 0) 2))),(qfld (qfld sd0 0) 3),(qfld (qfld sd0 0) 4),(qfld (qfld sd0 0) 5),(qfld (qfld sd0 0) 6)])]
 let y2:=q166 [pd1,pd2,pd0,sd1,(.agg [(.int (qint (qfld (qfld sd0 0) 0))),(.int (qint (qfld (qfld sd0 0) 1))),(.str (qstr (qfld (qfld sd0 0) 2))),(qfld (qfld sd0 0) 3),(qfld (qfld sd0 0) 4),(qfld (qfld sd0 0) 5),(qfld (qfld sd0 0) 6)])]
 let y3:=qiteB (qcmp .eql (qint (qfld (qfld sd0 0) 0)) 10) true (qcmp .eql (qint (qfld (qfld sd0 0) 0)) 11)
 let y4:=q60 [sd1,(.str (qstr (qfld (qfld sd0 0) 2)))]
 let y5:=qlen (qapp sd1 (.list [(.str (qstr (qfld (qfld sd0 0) 2)))]))
 let x0:=qcmp .eql (qlen pd0) (qlen pd0)
 let x1:=qcmp .eql (qlen sd1) (qlen sd1)
 gd (qsome y0)<|bif qbool (qnth y0 0)then gd x0<|gd x1<|ge pd0<|ge pd1<|ge pd2<|some [.int 20,sd1]else gd (qsome y1)<|bif qnot (qbool (qnth y1 0))then gd x0<|gd x1<|ge pd0<|ge pd1<|ge pd2<|some [.int 2,sd1]else gd x0<|gd x1<|gd (qsome y2)<|bif qnot (qbool (qnth y2 0))then gd x0<|gd x1<|ge pd0<|ge pd1<|ge pd2<|some [.int 17,sd1]else bif qiteB y3 (qnot (qbool (qfld sd0 1))) false then gd x0<|gd x1<|ge pd0<|ge pd1<|ge pd2<|some [.int 21,sd1]else bif qcmp .eql (qint (qfld (qfld sd0 0) 0)) 13 then gd x1<|gd (qsome y4)<|bif qbool (qnth y4 0)then gd x0<|gd x1<|ge pd0<|ge pd1<|ge pd2<|some [.int 8,sd1]else gd x1<|gd (qmem y5 16)<|gd x0<|gd (qcmp .eql y5 y5)<|ge pd0<|ge pd1<|ge pd2<|some [.int 0,qapp sd1 (.list [.str (qstr (qfld (qfld sd0 0) 2))])]else gd x0<|gd x1<|ge pd0<|ge pd1<|ge pd2<|some [.int 0,sd1]:=by kernel_rfl
def F102_eq:=by have h:= @F102_e;simp only[ge_id,gd,qeqD_self,qeqI_self,qeqB_self,qand_tt,qeq_len,qeq_l,cond_true]at h;exact h
def q102:List D→Option (List D):=veil (F102)
theorem q102_eq:q102=F102:=veil_eq _
def tb102:Tb:=Tb.addF tb166 102 S102 (q102)
theorem ok_tb102:TbOk env (tb102):=addFunF ok_tb166 102 (by kernel_rfl) _ (q102_eq)
def S61_13:LoopS:=⟨0,[uF,uF,uF,uF,uF,uF,⟨false,(.lit (.int .i64 0))⟩,uF,⟨false,(.rows 146)⟩,⟨false,(.ptr 0 0)⟩,uF,uF,uF,uF,uF,uF,uF,uF,uF,uF,uF,uF,uF,uF,uF,uF,uF,uF,uF,uF,uF,uF,uF,uF,uF,uF,uF,uF,uF,uF,uF,uF,uF,uF,uF,uF,uF,uF,uF,uF,uF,⟨false,(.rows 146)⟩,⟨false,(.int .i64)⟩,⟨true,(.int .i64)⟩,uF,uF,uF,uF,uF,uF,uF,uF,uF,uF,uF,uF,uF,uF,uF,uF,uF,uF,uF,uF,uF,uF,uF,uF,uF,uF,uF,uF,uF,uF,uF,uF,uF],[(.lst true 9),(.cells [⟨false,(.func 153 [] [(.eptr [(.rows 133)])])⟩,⟨false,(.rows 9)⟩,⟨false,(.osl 1 9)⟩,⟨false,(.lit (.slice none 0 0))⟩])],[⟨0,0,[uT,uT,uT,uT,uT,uT,⟨true,(.lit (.int .i64 0))⟩,uT,⟨false,(.rows 146)⟩,⟨true,(.ptr 0 0)⟩,uT,uT,uT,uT,uT,uT,uT,uT,uT,uT,uT,uT,uT,uT,uT,uT,uT,uT,uT,uT,uT,uT,uT,uT,uT,uT,uT,uT,uT,uT,uT,uT,uT,uT,uT,uT,uT,uT,uT,uT,uT,⟨false,(.rows 146)⟩,⟨false,(.int .i64)⟩,uT,uT,uT,uT,uT,uT,uT,uT,uT,uT,uT,uT,uT,uT,uT,uT,uT,uT,uT,uT,uT,uT,uT,uT,uT,uT,uT,uT,uT,uT,uT,uT,uT,uT],[(.lst true 9),(.cells [⟨false,(.func 153 [] [(.eptr [(.rows 133)])])⟩,⟨false,(.rows 9)⟩,⟨true,(.osl 1 9)⟩,⟨true,(.lit (.slice none 0 0))⟩])]⟩]⟩
def st61_13 (p s:List D):Option (Sum (List D) (List D)):=stepQX env tb102 60 12 61 (loopC 61 13) S61_13 p s
theorem st61_13_e (pd0:D) (pd1:D) (pn2:Int) (pd3:D) (pd4:D) (sn0:Int) (sd1:D):st61_13 [pd0,pd1,(D.int pn2),pd3,pd4] [(D.int sn0),sd1] =
 let y0:=qapp sd1 (.list [(.str (qstr (qfld (qfld (qget pd1 sn0) 0) 2)))])
 let x0:=qcmp .eql (qlen sd1) (qlen sd1)
 let x1:=qlen y0
 let x2:=D.int pn2
 let x3:=D.int (qbin .add .i64 sn0 1)
 bif qcmp .lss sn0 pn2 then gd (qinb pd1 sn0)<|bif qcmp .eql (qint (qfld (qfld (qget pd1 sn0) 0) 0)) 13 then gd x0<|gd (qmem x1 16)<|gd (qcmp .eql x1 x1)<|ge pd0<|ge pd1<|ge x2<|ge pd3<|ge pd4<|some (Sum.inl [x3,y0])else gd x0<|ge pd0<|ge pd1<|ge x2<|ge pd3<|ge pd4<|some (Sum.inl [x3,sd1])else gd x0<|ge pd0<|ge pd1<|ge x2<|ge pd3<|ge pd4<|some (Sum.inr [.int 0,sd1]):=by kernel_rfl
def st61_13_eq:=by have h:= @st61_13_e;simp only[ge_id,gd,qeqD_self,qeqI_self,qeqB_self,qand_tt,qeq_len,qeq_l,cond_true]at h;exact h
def l61_13:List D→List D→Option (List D):=veil fun p s=>loW (st61_13 p) s
theorem l61_13_eq:l61_13=fun p s=>loW (st61_13 p) s:=veil_eq _
def tbl61_13:Tb:=Tb.addL tb102 61 13 S61_13.n0 (mkLp S61_13 (l61_13))
theorem ok_tbl61_13:TbOk env (tbl61_13):=addLoopQ ok_tb102 61 13 (by kernel_rfl) _ (l61_13_eq)
def S61_19:LoopS:=⟨0,[uF,uF,uF,uF,uF,uF,⟨false,(.lit (.int .i64 0))⟩,uF,uF,⟨false,(.ptr 0 0)⟩,uF,uF,uF,uF,uF,uF,uF,uF,uF,uF,uF,uF,uF,uF,uF,uF,uF,uF,uF,uF,uF,uF,uF,uF,uF,uF,uF,uF,uF,uF,uF,uF,uF,uF,uF,uF,uF,uF,uF,uF,uF,uF,uF,uF,uF,uF,uF,uF,uF,uF,uF,uF,uF,uF,uF,uF,uF,uF,uF,uF,uF,uF,uF,uF,⟨false,(.rows 146)⟩,⟨false,(.int .i64)⟩,⟨true,(.int .i64)⟩,uF,uF,uF,uF,uF,uF,uF,uF,uF,uF],[(.lst true 9),(.lst false 9),(.cells [⟨false,(.func 153 [] [(.eptr [(.rows 133)])])⟩,⟨false,(.rows 9)⟩,⟨false,(.osl 1 9)⟩,⟨false,(.osl 2 9)⟩])],[⟨0,2,[uT,uT,uT,uT,uT,uT,⟨true,(.lit (.int .i64 0))⟩,uT,uT,uT,uT,uT,uT,uT,uT,uT,uT,uT,uT,uT,uT,uT,uT,uT,uT,uT,uT,uT,uT,uT,uT,uT,uT,uT,uT,uT,uT,uT,uT,uT,uT,uT,uT,uT,uT,uT,uT,uT,uT,uT,uT,uT,uT,uT,uT,uT,uT,uT,uT,uT,uT,uT,uT,uT,uT,uT,uT,uT,uT,uT,uT,uT,uT,uT,⟨false,(.rows 146)⟩,⟨false,(.int .i64)⟩,uT,uT,uT,uT,uT,uT,uT,uT,uT,uT,uT],[.skip,(.lst false 9),(.cells [⟨false,(.func 153 [] [(.eptr [(.rows 133)])])⟩,⟨false,(.rows 9)⟩,uT,uT])]⟩,⟨1,0,[uT,uT,uT,uT,uT,uT,⟨true,(.int .i64)⟩,uT,uT,uT,uT,uT,uT,uT,uT,uT,uT,uT,uT,uT,uT,uT,uT,uT,uT,uT,uT,uT,uT,uT,uT,uT,uT,uT,uT,uT,uT,uT,uT,uT,uT,uT,uT,uT,uT,uT,uT,uT,uT,uT,uT,uT,uT,uT,uT,uT,uT,uT,uT,uT,uT,uT,uT,uT,uT,uT,uT,uT,uT,uT,uT,uT,uT,uT,⟨false,(.rows 146)⟩,⟨false,(.int .i64)⟩,uT,uT,uT,uT,uT,uT,uT,uT,uT,uT,uT],[.skip,(.lst false 9),(.cells [⟨false,(.func 153 [] [(.eptr [(.rows 133)])])⟩,⟨false,(.rows 9)⟩,uT,uT])]⟩]⟩
def st61_19 (p s:List D):Option (Sum (List D) (List D)):=stepQX env tbl61_13 60 12 61 (loopC 61 19) S61_19 p s
theorem st61_19_e (pd0:D) (pn1:Int) (pd2:D) (pd3:D) (pd4:D) (sn0:Int) (sd1:D):st61_19 [pd0,(D.int pn1),pd2,pd3,pd4] [(D.int sn0),sd1] =
 let y0:=q102 [pd2,pd3,pd4,(qget pd0 sn0),sd1]
 let x0:=qcmp .eql (qlen pd2) (qlen pd2)
 let x1:=qint (qnth y0 0)
 let x2:=D.int pn1
 bif qcmp .lss sn0 pn1 then gd (qinb pd0 sn0)<|gd x0<|gd (qcmp .eql (qlen sd1) (qlen sd1))<|gd (qsome y0)<|bif qcmp .neq x1 0 then ge pd0<|ge x2<|ge pd2<|ge pd3<|ge pd4<|some (Sum.inr [.int 1,.int x1])else gd x0<|gd (qcmp .eql (qlen (qnth y0 1)) (qlen (qnth y0 1)))<|ge pd0<|ge x2<|ge pd2<|ge pd3<|ge pd4<|some (Sum.inl [.int (qbin .add .i64 sn0 1),qnth y0 1])else ge pd0<|ge x2<|ge pd2<|ge pd3<|ge pd4<|some (Sum.inr [.int 0]):=by kernel_rfl
def st61_19_eq:=by have h:= @st61_19_e;simp only[ge_id,gd,qeqD_self,qeqI_self,qeqB_self,qand_tt,qeq_len,qeq_l,cond_true]at h;exact h
def l61_19:List D→List D→Option (List D):=veil fun p s=>loW (st61_19 p) s
theorem l61_19_eq:l61_19=fun p s=>loW (st61_19 p) s:=veil_eq _
def tbl61_19:Tb:=Tb.addL tbl61_13 61 19 S61_19.n0 (mkLp S61_19 (l61_19))
theorem ok_tbl61_19:TbOk env (tbl61_19):=addLoopQ ok_tbl61_13 61 19 (by kernel_rfl) _ (l61_19_eq)
def S61:FunS:=⟨[⟨true,(.dat 33)⟩,⟨true,(.dat 61)⟩,⟨true,(.rows 9)⟩],[],[⟨true,(.int .i64)⟩],[]⟩
def F61:List D→Option (List D):=liftX env tbl61_19 60 12 61 S61
theorem F61_e (sd0:D) (sd1:D) (sd2:D):F61 [sd0,sd1,sd2] =
 let y0:=qbin .add .i64 (qlen (qfld sd0 0)) (qlen (qfld sd1 1))
 let y1:=q57 [(qfld sd0 0),(qfld sd1 1)]
 let y2:=qsome (q99 [(qfld sd1 2)])
 let y3:=qnth (q99 [(qfld sd1 2)]) 0
 let y4:=q100 [(qfld sd1 2),(.bool false)]
 let y5:=q101 [(.list [(qfld sd0 0),(qfld sd1 1)])]
 let y6:=l61_13 [(qnth y4 0),(qnth y4 0),(.int (qlen (qnth y4 0))),(qnth y5 0),sd2] [(.int 0),(.list [])]
 let y7:=l61_19 [(qnth y4 0),(.int (qlen (qnth y4 0))),(qnth y6 1),(qnth y5 0),sd2] [(.int 0),(.list [])]
 let x0:Option (List D):=some [.int 6]
 let x1:=qint (qnth y1 0)
 let x2:=qcmp .eql 0 (qlen (.list []))
 let x3:=qlen (qnth y6 1)
 bif qcmp .gtr y0 256 then x0 else gd (qsome y1)<|bif qcmp .neq x1 0 then some [.int x1]else gd y2<|bif qcmp .gtr (qint y3) 64 then some [.int 20]else gd (qsome y4)<|bif qcmp .gtr (qlen (qnth y4 0)) 1024 then x0 else gd (qsome y5)<|gd x2<|gd (qsome y6)<|gd (qcmp .eql x3 x3)<|gd x2<|gd (qsome y7)<|bif qcmp .eql (qint (qnth y7 0)) 0 then some [.int 0]else some [.int (qint (qnth y7 1))]:=by kernel_rfl
def F61_eq:=by have h:= @F61_e;simp only[ge_id,gd,qeqD_self,qeqI_self,qeqB_self,qand_tt,qeq_len,qeq_l,cond_true]at h;exact h
def q61:List D→Option (List D):=veil (F61)
theorem q61_eq:q61=F61:=veil_eq _
def tb61:Tb:=Tb.addF tbl61_19 61 S61 (q61)
theorem ok_tb61:TbOk env (tb61):=addFunF ok_tbl61_19 61 (by kernel_rfl) _ (q61_eq)
def S26_13:LoopS:=⟨0,[uF,⟨false,(.ptr 0 0)⟩,⟨false,(.lit (.int .i64 0))⟩,uF,uF,⟨false,(.osl 1 9)⟩,uF,uF,uF,uF,uF,uF,uF,uF,uF,uF,uF,uF,uF,uF,uF,uF,uF,uF,uF,uF,uF,uF,uF,uF,uF,uF,uF,uF,uF,uF,uF,uF,uF,uF,uF,uF,uF,uF,⟨false,(.rows 61)⟩,⟨false,(.int .i64)⟩,⟨true,(.int .i64)⟩,uF,uF,uF,uF,uF,uF,uF,uF,uF,uF,uF,uF,uF,uF,uF,uF,uF,uF,uF,uF,uF,uF,uF,uF,uF,uF,uF,uF,uF,uF,uF,uF],[(.lst true 9),(.dat false 33)],[⟨0,0,[uT,⟨true,(.ptr 0 0)⟩,⟨true,(.lit (.int .i64 0))⟩,uT,uT,⟨true,(.osl 1 9)⟩,uT,uT,uT,uT,uT,uT,uT,uT,uT,uT,uT,uT,uT,uT,uT,uT,uT,uT,uT,uT,uT,uT,uT,uT,uT,uT,uT,uT,uT,uT,uT,uT,uT,uT,uT,uT,uT,uT,⟨false,(.rows 61)⟩,⟨false,(.int .i64)⟩,uT,uT,uT,uT,uT,uT,uT,uT,uT,uT,uT,uT,uT,uT,uT,uT,uT,uT,uT,uT,uT,uT,uT,uT,uT,uT,uT,uT,uT,uT,uT,uT,uT],[(.lst true 9),(.dat false 33)]⟩,⟨1,0,[uT,uT,⟨true,(.int .i64)⟩,uT,uT,uT,uT,uT,uT,uT,uT,uT,uT,uT,uT,uT,uT,uT,uT,uT,uT,uT,uT,uT,uT,uT,uT,uT,uT,uT,uT,uT,uT,uT,uT,uT,uT,uT,uT,uT,uT,uT,uT,uT,⟨false,(.rows 61)⟩,⟨false,(.int .i64)⟩,uT,uT,uT,uT,uT,uT,uT,uT,uT,uT,uT,uT,uT,uT,uT,uT,uT,uT,uT,uT,uT,uT,uT,uT,uT,uT,uT,uT,uT,uT,uT,uT,uT],[.skip,(.dat false 33)]⟩]⟩
def st26_13 (p s:List D):Option (Sum (List D) (List D)):=stepQX env tb61 60 12 26 (loopC 26 13) S26_13 p s
theorem st26_13_e (pd0:D) (pn1:Int) (pd2:D) (sn0:Int) (sd1:D):st26_13 [pd0,(D.int pn1),pd2] [(D.int sn0),sd1] =
 let y0:=q59 [(.str (qstr (qfld (qget pd0 sn0) 0)))]
 let y1:=q60 [sd1,(.str (qstr (qfld (qget pd0 sn0) 0)))]
 let y2:=qlen (qapp sd1 (.list [(.str (qstr (qfld (qget pd0 sn0) 0)))]))
 let x0:=D.int pn1
 let x1:=qcmp .eql (qlen sd1) (qlen sd1)
 bif qcmp .lss sn0 pn1 then gd (qinb pd0 sn0)<|gd (qsome y0)<|bif qnot (qbool (qnth y0 0))then ge pd0<|ge x0<|ge pd2<|some (Sum.inr [.int 1,.int 3])else gd x1<|gd (qsome y1)<|bif qbool (qnth y1 0)then ge pd0<|ge x0<|ge pd2<|some (Sum.inr [.int 1,.int 8])else gd x1<|gd (qmem y2 16)<|gd (qcmp .eql y2 y2)<|ge pd0<|ge x0<|ge pd2<|some (Sum.inl [.int (qbin .add .i64 sn0 1),qapp sd1 (.list [.str (qstr (qfld (qget pd0 sn0) 0))])])else gd x1<|ge pd0<|ge x0<|ge pd2<|some (Sum.inr [.int 0,sd1]):=by kernel_rfl
def st26_13_eq:=by have h:= @st26_13_e;simp only[ge_id,gd,qeqD_self,qeqI_self,qeqB_self,qand_tt,qeq_len,qeq_l,cond_true]at h;exact h
def l26_13:List D→List D→Option (List D):=veil fun p s=>loW (st26_13 p) s
theorem l26_13_eq:l26_13=fun p s=>loW (st26_13 p) s:=veil_eq _
def tbl26_13:Tb:=Tb.addL tb61 26 13 S26_13.n0 (mkLp S26_13 (l26_13))
theorem ok_tbl26_13:TbOk env (tbl26_13):=addLoopQ ok_tb61 26 13 (by kernel_rfl) _ (l26_13_eq)
def S26_22:LoopS:=⟨0,[uF,⟨false,(.ptr 0 0)⟩,⟨false,(.lit (.int .i64 0))⟩,uF,uF,⟨false,(.osl 1 9)⟩,uF,uF,uF,uF,uF,uF,uF,uF,uF,uF,uF,uF,uF,uF,uF,uF,uF,uF,uF,uF,uF,uF,uF,uF,uF,uF,uF,uF,uF,uF,uF,uF,uF,uF,uF,uF,uF,uF,uF,uF,uF,uF,uF,uF,uF,uF,uF,uF,uF,uF,uF,uF,uF,uF,uF,uF,uF,uF,uF,⟨false,(.rows 61)⟩,⟨false,(.int .i64)⟩,⟨true,(.int .i64)⟩,uF,uF,uF,uF,uF,uF,uF,uF,uF,uF,uF],[(.lst false 9),(.dat false 33)],[⟨0,2,[uT,uT,⟨true,(.lit (.int .i64 0))⟩,uT,uT,uT,uT,uT,uT,uT,uT,uT,uT,uT,uT,uT,uT,uT,uT,uT,uT,uT,uT,uT,uT,uT,uT,uT,uT,uT,uT,uT,uT,uT,uT,uT,uT,uT,uT,uT,uT,uT,uT,uT,uT,uT,uT,uT,uT,uT,uT,uT,uT,uT,uT,uT,uT,uT,uT,uT,uT,uT,uT,uT,uT,⟨false,(.rows 61)⟩,⟨false,(.int .i64)⟩,uT,uT,uT,uT,uT,uT,uT,uT,uT,uT,uT,uT],[(.lst false 9),(.dat false 33)]⟩,⟨1,0,[uT,uT,⟨true,(.int .i64)⟩,uT,uT,uT,uT,uT,uT,uT,uT,uT,uT,uT,uT,uT,uT,uT,uT,uT,uT,uT,uT,uT,uT,uT,uT,uT,uT,uT,uT,uT,uT,uT,uT,uT,uT,uT,uT,uT,uT,uT,uT,uT,uT,uT,uT,uT,uT,uT,uT,uT,uT,uT,uT,uT,uT,uT,uT,uT,uT,uT,uT,uT,uT,⟨false,(.rows 61)⟩,⟨false,(.int .i64)⟩,uT,uT,uT,uT,uT,uT,uT,uT,uT,uT,uT,uT],[(.lst false 9),(.dat false 33)]⟩]⟩
def st26_22 (p s:List D):Option (Sum (List D) (List D)):=stepQX env tbl26_13 60 12 26 (loopC 26 22) S26_22 p s
theorem st26_22_e (pd0:D) (pn1:Int) (pd2:D) (pd3:D) (sn0:Int):st26_22 [pd0,(D.int pn1),pd2,pd3] [(D.int sn0)] =
 let y0:=q61 [pd3,(qget pd0 sn0),pd2]
 let x0:=qcmp .eql (qlen pd2) (qlen pd2)
 let x1:=qint (qnth y0 0)
 let x2:=D.int pn1
 bif qcmp .lss sn0 pn1 then gd (qinb pd0 sn0)<|gd x0<|gd (qsome y0)<|bif qcmp .neq x1 0 then ge pd0<|ge x2<|ge pd2<|ge pd3<|some (Sum.inr [.int 1,.int x1])else gd x0<|ge pd0<|ge x2<|ge pd2<|ge pd3<|some (Sum.inl [.int (qbin .add .i64 sn0 1)])else ge pd0<|ge x2<|ge pd2<|ge pd3<|some (Sum.inr [.int 0]):=by kernel_rfl
def st26_22_eq:=by have h:= @st26_22_e;simp only[ge_id,gd,qeqD_self,qeqI_self,qeqB_self,qand_tt,qeq_len,qeq_l,cond_true]at h;exact h
def l26_22:List D→List D→Option (List D):=veil fun p s=>loW (st26_22 p) s
theorem l26_22_eq:l26_22=fun p s=>loW (st26_22 p) s:=veil_eq _
def tbl26_22:Tb:=Tb.addL tbl26_13 26 22 S26_22.n0 (mkLp S26_22 (l26_22))
theorem ok_tbl26_22:TbOk env (tbl26_22):=addLoopQ ok_tbl26_13 26 22 (by kernel_rfl) _ (l26_22_eq)
def S26:FunS:=⟨[⟨true,(.dat 33)⟩],[],[⟨true,(.int .i64)⟩],[]⟩
def F26:List D→Option (List D):=liftX env tbl26_22 60 12 26 S26
theorem F26_e (sd0:D):F26 [sd0] =
 let y0:=qiteB (qcmp .gtr (qlen (qfld sd0 0)) 256) true (qcmp .gtr (qlen (qfld sd0 1)) 16)
 let y1:=q57 [(.list []),(qfld sd0 0)]
 let y2:=qsome (q58 [(qfld sd0 1)])
 let y3:=qnth (q58 [(qfld sd0 1)]) 0
 let y4:=l26_13 [(qfld sd0 2),(.int (qlen (qfld sd0 2))),sd0] [(.int 0),(.list [])]
 let y5:=l26_22 [(qfld sd0 2),(.int (qlen (qfld sd0 2))),(qnth y4 1),sd0] [(.int 0)]
 let x0:=qlen (qfld sd0 2)
 let x1:=qint (qnth y1 0)
 bif qiteB y0 true (qcmp .gtr x0 64)then some [.int 6]else bif qcmp .eql x0 0 then some [.int 17]else gd (qsome y1)<|bif qcmp .neq x1 0 then some [.int x1]else gd y2<|bif qcmp .neq (qint y3) 0 then some [.int (qint y3)]else gd (qcmp .eql 0 (qlen (.list [])))<|gd (qsome y4)<|bif qcmp .eql (qint (qnth y4 0)) 0 then gd (qcmp .eql (qlen (qnth y4 1)) (qlen (qnth y4 1)))<|gd (qsome y5)<|bif qcmp .eql (qint (qnth y5 0)) 0 then some [.int 0]else some [.int (qint (qnth y5 1))]else some [.int (qint (qnth y4 1))]:=by kernel_rfl
def F26_eq:=by have h:= @F26_e;simp only[ge_id,gd,qeqD_self,qeqI_self,qeqB_self,qand_tt,qeq_len,qeq_l,cond_true]at h;exact h
def q26:List D→Option (List D):=veil (F26)
theorem q26_eq:q26=F26:=veil_eq _
def tb26:Tb:=Tb.addF tbl26_22 26 S26 (q26)
end
end Go.Proofs.YteccopaonadbeaaGreatDoor
open Go Go.AM
namespace Go.Proofs.YteccopaonadbeaaGreatDoor
noncomputable section
set_option maxRecDepth 100000
set_option linter.unusedSimpArgs false
set_option linter.unusedVariables false
set_option linter.defProp false
def S185_2:LoopS:=⟨0,[⟨false,(.rows 9)⟩,⟨false, .str⟩,uF,uF,⟨false,(.lit (.int .i64 0))⟩,⟨true,(.int .i64)⟩,uF,uF,uF,uF,uF,uF,uF,uF,uF,uF,uF,uF,uF],[],[⟨0,0,[⟨false,(.rows 9)⟩,⟨false, .str⟩,uT,uT,⟨true,(.lit (.int .i64 0))⟩,uT,uT,uT,uT,uT,uT,uT,uT,uT,uT,uT,uT,uT,uT],[]⟩,⟨1,0,[⟨false,(.rows 9)⟩,⟨false, .str⟩,uT,uT,⟨true,(.int .i64)⟩,uT,uT,uT,uT,uT,uT,uT,uT,uT,uT,uT,uT,uT,uT],[]⟩]⟩
def st185_2 (p s:List D):Option (Sum (List D) (List D)):=stepQX env tb26 60 12 185 (loopC 185 2) S185_2 p s
theorem st185_2_e (pd0:D) (ps1:ByteArray) (sn0:Int):st185_2 [pd0,(D.str ps1)] [(D.int sn0)] =
 let x0:=D.str ps1
 bif qcmp .lss sn0 (qlen pd0)then gd (qinb pd0 sn0)<|bif qcmpS .eql (qstr (qget pd0 sn0)) ps1 then ge pd0<|ge x0<|some (Sum.inr [.int 1,.int sn0])else ge pd0<|ge x0<|some (Sum.inl [.int (qbin .add .i64 sn0 1)])else ge pd0<|ge x0<|some (Sum.inr [.int 0]):=by kernel_rfl
def st185_2_eq:=by have h:= @st185_2_e;simp only[ge_id,gd,qeqD_self,qeqI_self,qeqB_self,qand_tt,qeq_len,qeq_l,cond_true]at h;exact h
def l185_2:List D→List D→Option (List D):=veil fun p s=>loW (st185_2 p) s
theorem l185_2_eq:l185_2=fun p s=>loW (st185_2 p) s:=veil_eq _
def tbl185_2:Tb:=Tb.addL tb26 185 2 S185_2.n0 (mkLp S185_2 (l185_2))
def S185:FunS:=⟨[⟨true,(.rows 9)⟩,⟨true, .str⟩],[],[⟨true,(.int .i64)⟩],[]⟩
def F185:List D→Option (List D):=liftX env tbl185_2 60 12 185 S185
theorem F185_e (sd0:D) (ss1:ByteArray):F185 [sd0,(D.str ss1)] =
 let y0:=l185_2 [sd0,(.str ss1)] [(.int 0)]
 gd (qsome y0)<|bif qcmp .eql (qint (qnth y0 0)) 0 then some [.int (-1)]else some [.int (qint (qnth y0 1))]:=by kernel_rfl
def F185_eq:=by have h:= @F185_e;simp only[ge_id,gd,qeqD_self,qeqI_self,qeqB_self,qand_tt,qeq_len,qeq_l,cond_true]at h;exact h
def q185:List D→Option (List D):=veil (F185)
theorem q185_eq:q185=F185:=veil_eq _
end
end Go.Proofs.YteccopaonadbeaaGreatDoor
