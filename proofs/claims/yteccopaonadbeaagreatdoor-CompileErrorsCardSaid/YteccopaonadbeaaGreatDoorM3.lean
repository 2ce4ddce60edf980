/-
  Made by gen3.py: what functions of the seat compute, as partial functions on data, and that they do.
-/
import Derived.Test.YteccopaonadbeaaGreatDoorM1
import Derived.KernelRfl
import Derived.Test.YteccopaonadbeaaGreatDoorM2
import Derived.Test.YteccopaonadbeaaGreatDoorAmWk
set_option linter.unusedVariables false
set_option linter.unusedSimpArgs false
open Go Go.AM
namespace Go.Proofs.YteccopaonadbeaaGreatDoor
noncomputable section
set_option maxRecDepth 100000
set_option linter.unusedSimpArgs false
set_option linter.unusedVariables false
set_option linter.defProp false
def S48:FunS:=⟨[⟨true,(.dat 48)⟩],[],[⟨true,(.dat 89)⟩],[]⟩
def F48:List D→Option (List D):=liftX env tb97 60 12 48 S48
theorem F48_e (sd0:D):F48 [sd0] =
 let y0:=qbin .add .u64 (qwrap .u64 (qint (qfld sd0 1))) (qwrap .u64 (qlen (qfld sd0 2)))
 some [.agg [.int (qint (qfld sd0 1)),.int (qwrap .u32 (qmm .lss y0 4294967295))]]:=by kernel_rfl
def F48_eq:=by have h:= @F48_e;simp only[ge_id,gd,qeqD_self,qeqI_self,qeqB_self,qand_tt,qeq_len,qeq_l,cond_true]at h;exact h
def q48:List D→Option (List D):=veil (F48)
theorem q48_eq:q48=F48:=veil_eq _
def tb48:Tb:=Tb.addF tb97 48 S48 (q48)
theorem ok_tb48:TbOk env (tb48):=addFunF ok_tb97 48 (by kernel_rfl) _ (q48_eq)
def S47:FunS:=⟨[⟨true,(.dat 89)⟩,⟨true,(.dat 89)⟩],[],[⟨true, .bool⟩],[]⟩
def F47:List D→Option (List D):=liftX env tb48 60 12 47 S47
theorem F47_e (sd0:D) (sd1:D):F47 [sd0,sd1] =
 let y0:=qcmp .lss (qmm .gtr (qint (qfld sd0 0)) (qint (qfld sd1 0))) (qmm .lss (qint (qfld sd0 1)) (qint (qfld sd1 1)))
 some [.bool y0]:=by kernel_rfl
def F47_eq:=by have h:= @F47_e;simp only[ge_id,gd,qeqD_self,qeqI_self,qeqB_self,qand_tt,qeq_len,qeq_l,cond_true]at h;exact h
def q47:List D→Option (List D):=veil (F47)
theorem q47_eq:q47=F47:=veil_eq _
def tb47:Tb:=Tb.addF tb48 47 S47 (q47)
theorem ok_tb47:TbOk env (tb47):=addFunF ok_tb48 47 (by kernel_rfl) _ (q47_eq)
def S152_2:LoopS:=⟨0,[⟨false, .str⟩,uF,⟨false,(.lit (.bool false))⟩,⟨true,(.int .i64)⟩,uF,uF,uF,uF,uF,uF,uF,uF,uF,uF,uF,uF,uF,uF,uF,uF,uF,uF,uF,uF,uF,uF,uF,uF,uF,uF,uF,uF,uF,uF,uF,uF,uF,uF,uF,uF,uF,uF,uF,uF,uF,uF,uF,uF,uF,uF,uF,uF,uF,uF,uF],[],[⟨0,0,[⟨false, .str⟩,uT,⟨true,(.lit (.bool false))⟩,uT,uT,uT,uT,uT,uT,uT,uT,uT,uT,uT,uT,uT,uT,uT,uT,uT,uT,uT,uT,uT,uT,uT,uT,uT,uT,uT,uT,uT,uT,uT,uT,uT,uT,uT,uT,uT,uT,uT,uT,uT,uT,uT,uT,uT,uT,uT,uT,uT,uT,uT,uT],[]⟩,⟨1,0,[⟨false, .str⟩,uT,⟨true,(.lit (.bool false))⟩,uT,uT,uT,uT,uT,uT,uT,uT,uT,uT,uT,uT,uT,uT,uT,uT,uT,uT,uT,uT,uT,uT,uT,uT,uT,uT,uT,uT,uT,uT,uT,uT,uT,uT,uT,uT,uT,uT,uT,uT,uT,uT,uT,uT,uT,uT,uT,uT,uT,uT,uT,uT],[]⟩]⟩
def st152_2 (p s:List D):Option (Sum (List D) (List D)):=stepQX env tb47 60 12 152 (loopC 152 2) S152_2 p s
theorem st152_2_e (ps0:ByteArray) (sn0:Int):st152_2 [(D.str ps0)] [(D.int sn0)] =
 let y0:=qiteB (qcmp .geq (qidxS ps0 sn0) 97) (qcmp .leq (qidxS ps0 sn0) 122) false
 let y1:=qiteB (qcmp .geq (qidxS ps0 sn0) 65) (qcmp .leq (qidxS ps0 sn0) 90) false
 let y2:=qiteB (qcmp .lss (qidxS ps0 sn0) 48) true (qcmp .gtr (qidxS ps0 sn0) 57)
 let y3:=qiteB (qiteB (qnot (qiteB y0 true y1)) y2 false) (qcmp .neq (qidxS ps0 sn0) 95) false
 let x0:=D.str ps0
 bif qcmp .lss sn0 (qlenS ps0)then gd (qinbS ps0 sn0)<|bif qiteB y3 (qcmp .neq (qidxS ps0 sn0) 46) false then ge x0<|some (Sum.inr [.int 1])else ge x0<|some (Sum.inl [.int (qbin .add .i64 sn0 1)])else ge x0<|some (Sum.inr [.int 0]):=by kernel_rfl
def st152_2_eq:=by have h:= @st152_2_e;simp only[ge_id,gd,qeqD_self,qeqI_self,qeqB_self,qand_tt,qeq_len,qeq_l,cond_true]at h;exact h
def l152_2:List D→List D→Option (List D):=veil fun p s=>loW (st152_2 p) s
theorem l152_2_eq:l152_2=fun p s=>loW (st152_2 p) s:=veil_eq _
def tbl152_2:Tb:=Tb.addL tb47 152 2 S152_2.n0 (mkLp S152_2 (l152_2))
theorem ok_tbl152_2:TbOk env (tbl152_2):=addLoopQ ok_tb47 152 2 (by kernel_rfl) _ (l152_2_eq)
def S152:FunS:=⟨[⟨true, .str⟩],[],[⟨true, .bool⟩],[]⟩
def F152:List D→Option (List D):=liftX env tbl152_2 60 12 152 S152
theorem F152_e (ss0:ByteArray):F152 [(D.str ss0)] =
 let y0:=l152_2 [(.str ss0)] [(.int 0)]
 let y1:=qiteB (qcmp .gtr (qlenS ss0) 0) (qcmp .leq (qlenS ss0) 32) false
 gd (qsome y0)<|bif qcmp .eql (qint (qnth y0 0)) 0 then some [.bool y1]else some [.bool false]:=by kernel_rfl
def F152_eq:=by have h:= @F152_e;simp only[ge_id,gd,qeqD_self,qeqI_self,qeqB_self,qand_tt,qeq_len,qeq_l,cond_true]at h;exact h
def q152:List D→Option (List D):=veil (F152)
theorem q152_eq:q152=F152:=veil_eq _
def tb152:Tb:=Tb.addF tbl152_2 152 S152 (q152)
theorem ok_tb152:TbOk env (tb152):=addFunF ok_tbl152_2 152 (by kernel_rfl) _ (q152_eq)
def S90:FunS:=⟨[⟨true,(.dat 48)⟩],[],[⟨true,(.int .i64)⟩],[]⟩
def F90:List D→Option (List D):=liftX env tb152 60 12 90 S90
theorem F90_e (sd0:D):F90 [sd0] =
 let y0:=qbin .add .i64 (qwrap .i64 (qint (qfld sd0 1))) (qlen (qfld sd0 2))
 bif qcmp .gtr y0 4294967295 then some [.int 4294967295]else some [.int y0]:=by kernel_rfl
def F90_eq:=by have h:= @F90_e;simp only[ge_id,gd,qeqD_self,qeqI_self,qeqB_self,qand_tt,qeq_len,qeq_l,cond_true]at h;exact h
def q90:List D→Option (List D):=veil (F90)
theorem q90_eq:q90=F90:=veil_eq _
def tb90:Tb:=Tb.addF tb152 90 S90 (q90)
theorem ok_tb90:TbOk env (tb90):=addFunF ok_tb152 90 (by kernel_rfl) _ (q90_eq)
def S45:FunS:=⟨[⟨true,(.dat 48)⟩,⟨true,(.edat 48)⟩],[],[⟨true, .bool⟩],[]⟩
def F45:List D→Option (List D):=liftX env tb90 60 12 45 S45
theorem F45_eq (sd0:D) (sd1:D):F45 [sd0,sd1] =
 some [(D.bool (qcmpS BinOp.eql (qstr (qfld sd0 0)) (qstr (qfld sd1 0))))]:=by kernel_rfl
def q45:List D→Option (List D):=veil (F45)
theorem q45_eq:q45=F45:=veil_eq _
def tb45:Tb:=Tb.addF tb90 45 S45 (q45)
theorem ok_tb45:TbOk env (tb45):=addFunF ok_tb90 45 (by kernel_rfl) _ (q45_eq)
def S51_45_2:LoopS:=⟨0,[⟨false,(.rows 48)⟩,⟨false,(.func 45 [] [(.edat 48)])⟩,uF,uF,⟨false,(.lit (.int .i64 0))⟩,uF,uF,⟨false,(.int .i64)⟩,⟨true,(.int .i64)⟩,uF,uF,uF,uF,uF,uF,uF,uF,uF,uF],[],[⟨0,0,[⟨false,(.rows 48)⟩,⟨false,(.func 45 [] [(.edat 48)])⟩,uT,uT,⟨true,(.lit (.int .i64 0))⟩,uT,uT,⟨false,(.int .i64)⟩,uT,uT,uT,uT,uT,uT,uT,uT,uT,uT,uT],[]⟩,⟨1,0,[⟨false,(.rows 48)⟩,⟨false,(.func 45 [] [(.edat 48)])⟩,uT,uT,⟨true,(.int .i64)⟩,uT,uT,⟨false,(.int .i64)⟩,uT,uT,uT,uT,uT,uT,uT,uT,uT,uT,uT],[]⟩]⟩
def st51_45_2 (p s:List D):Option (Sum (List D) (List D)):=stepQX env tb45 60 12 51 (loopC 51 2) S51_45_2 p s
theorem st51_45_2_e (pd0:D) (pd1:D) (pn2:Int) (sn0:Int):st51_45_2 [pd0,pd1,(D.int pn2)] [(D.int sn0)] =
 let y0:=qsome (q45 [(qget pd0 sn0),pd1])
 let y1:=qnth (q45 [(qget pd0 sn0),pd1]) 0
 let x0:=D.int pn2
 bif qcmp .lss sn0 pn2 then gd (qinb pd0 sn0)<|gd y0<|bif qbool y1 then ge pd0<|ge pd1<|ge x0<|some (Sum.inr [.int 1,.int sn0])else ge pd0<|ge pd1<|ge x0<|some (Sum.inl [.int (qbin .add .i64 sn0 1)])else ge pd0<|ge pd1<|ge x0<|some (Sum.inr [.int 0]):=by kernel_rfl
def st51_45_2_eq:=by have h:= @st51_45_2_e;simp only[ge_id,gd,qeqD_self,qeqI_self,qeqB_self,qand_tt,qeq_len,qeq_l,cond_true]at h;exact h
def l51_45_2:List D→List D→Option (List D):=veil fun p s=>loW (st51_45_2 p) s
theorem l51_45_2_eq:l51_45_2=fun p s=>loW (st51_45_2 p) s:=veil_eq _
def tbl51_45_2:Tb:=Tb.addL tb45 51 2 S51_45_2.n0 (mkLp S51_45_2 (l51_45_2))
theorem ok_tbl51_45_2:TbOk env (tbl51_45_2):=addLoopQ ok_tb45 51 2 (by kernel_rfl) _ (l51_45_2_eq)
def S51_45:FunS:=⟨[⟨true,(.rows 48)⟩,⟨true,(.func 45 [] [(.edat 48)])⟩],[],[⟨true,(.int .i64)⟩],[]⟩
def F51_45:List D→Option (List D):=liftX env tbl51_45_2 60 12 51 S51_45
theorem F51_45_e (sd0:D) (sd1:D):F51_45 [sd0,sd1] =
 let y0:=l51_45_2 [sd0,sd1,(.int (qlen sd0))] [(.int 0)]
 gd (qsome y0)<|bif qcmp .eql (qint (qnth y0 0)) 0 then some [.int (-1)]else some [.int (qint (qnth y0 1))]:=by kernel_rfl
def F51_45_eq:=by have h:= @F51_45_e;simp only[ge_id,gd,qeqD_self,qeqI_self,qeqB_self,qand_tt,qeq_len,qeq_l,cond_true]at h;exact h
def q51_45:List D→Option (List D):=veil (F51_45)
theorem q51_45_eq:q51_45=F51_45:=veil_eq _
def tb51_45:Tb:=Tb.addF tbl51_45_2 51 S51_45 (q51_45)
theorem ok_tb51_45:TbOk env (tb51_45):=addFunF ok_tbl51_45_2 51 (by kernel_rfl) _ (q51_45_eq)
def S44_45:FunS:=⟨[⟨true,(.rows 48)⟩,⟨true,(.func 45 [] [(.edat 48)])⟩],[],[⟨true, .bool⟩],[]⟩
def F44_45:List D→Option (List D):=liftX env tb51_45 60 12 44 S44_45
theorem F44_45_e (sd0:D) (sd1:D):F44_45 [sd0,sd1] =
 let y0:=qnth (q51_45 [sd0,sd1]) 0
 gd (qsome (q51_45 [sd0,sd1]))<|some [.bool (qcmp .geq (qint y0) 0)]:=by kernel_rfl
def F44_45_eq:=by have h:= @F44_45_e;simp only[ge_id,gd,qeqD_self,qeqI_self,qeqB_self,qand_tt,qeq_len,qeq_l,cond_true]at h;exact h
def q44_45:List D→Option (List D):=veil (F44_45)
theorem q44_45_eq:q44_45=F44_45:=veil_eq _
def tb44_45:Tb:=Tb.addF tb51_45 44 S44_45 (q44_45)
theorem ok_tb44_45:TbOk env (tb44_45):=addFunF ok_tb51_45 44 (by kernel_rfl) _ (q44_45_eq)
def S50:FunS:=⟨[⟨true,(.dat 48)⟩,⟨true,(.edat 48)⟩],[],[⟨true, .bool⟩],[]⟩
def F50:List D→Option (List D):=liftX env tb44_45 60 12 50 S50
theorem F50_e (sd0:D) (sd1:D):F50 [sd0,sd1] =
 let y0:=q47 [(qnth (q48 [sd0]) 0),(qnth (q48 [sd1]) 0)]
 gd (qsome (q48 [sd0]))<|gd (qsome (q48 [sd1]))<|gd (qsome y0)<|some [.bool (qbool (qnth y0 0))]:=by kernel_rfl
def F50_eq:=by have h:= @F50_e;simp only[ge_id,gd,qeqD_self,qeqI_self,qeqB_self,qand_tt,qeq_len,qeq_l,cond_true]at h;exact h
def q50:List D→Option (List D):=veil (F50)
theorem q50_eq:q50=F50:=veil_eq _
def tb50:Tb:=Tb.addF tb44_45 50 S50 (q50)
theorem ok_tb50:TbOk env (tb50):=addFunF ok_tb44_45 50 (by kernel_rfl) _ (q50_eq)
def S51_50_2:LoopS:=⟨0,[⟨false,(.rows 48)⟩,⟨false,(.func 50 [] [(.edat 48)])⟩,uF,uF,⟨false,(.lit (.int .i64 0))⟩,uF,uF,⟨false,(.int .i64)⟩,⟨true,(.int .i64)⟩,uF,uF,uF,uF,uF,uF,uF,uF,uF,uF],[],[⟨0,0,[⟨false,(.rows 48)⟩,⟨false,(.func 50 [] [(.edat 48)])⟩,uT,uT,⟨true,(.lit (.int .i64 0))⟩,uT,uT,⟨false,(.int .i64)⟩,uT,uT,uT,uT,uT,uT,uT,uT,uT,uT,uT],[]⟩,⟨1,0,[⟨false,(.rows 48)⟩,⟨false,(.func 50 [] [(.edat 48)])⟩,uT,uT,⟨true,(.int .i64)⟩,uT,uT,⟨false,(.int .i64)⟩,uT,uT,uT,uT,uT,uT,uT,uT,uT,uT,uT],[]⟩]⟩
def st51_50_2 (p s:List D):Option (Sum (List D) (List D)):=stepQX env tb50 60 12 51 (loopC 51 2) S51_50_2 p s
theorem st51_50_2_e (pd0:D) (pd1:D) (pn2:Int) (sn0:Int):st51_50_2 [pd0,pd1,(D.int pn2)] [(D.int sn0)] =
 let y0:=qsome (q50 [(qget pd0 sn0),pd1])
 let y1:=qnth (q50 [(qget pd0 sn0),pd1]) 0
 let x0:=D.int pn2
 bif qcmp .lss sn0 pn2 then gd (qinb pd0 sn0)<|gd y0<|bif qbool y1 then ge pd0<|ge pd1<|ge x0<|some (Sum.inr [.int 1,.int sn0])else ge pd0<|ge pd1<|ge x0<|some (Sum.inl [.int (qbin .add .i64 sn0 1)])else ge pd0<|ge pd1<|ge x0<|some (Sum.inr [.int 0]):=by kernel_rfl
def st51_50_2_eq:=by have h:= @st51_50_2_e;simp only[ge_id,gd,qeqD_self,qeqI_self,qeqB_self,qand_tt,qeq_len,qeq_l,cond_true]at h;exact h
def l51_50_2:List D→List D→Option (List D):=veil fun p s=>loW (st51_50_2 p) s
theorem l51_50_2_eq:l51_50_2=fun p s=>loW (st51_50_2 p) s:=veil_eq _
def tbl51_50_2:Tb:=Tb.addL tb50 51 2 S51_50_2.n0 (mkLp S51_50_2 (l51_50_2))
theorem ok_tbl51_50_2:TbOk env (tbl51_50_2):=addLoopQ ok_tb50 51 2 (by kernel_rfl) _ (l51_50_2_eq)
def S51_50:FunS:=⟨[⟨true,(.rows 48)⟩,⟨true,(.func 50 [] [(.edat 48)])⟩],[],[⟨true,(.int .i64)⟩],[]⟩
def F51_50:List D→Option (List D):=liftX env tbl51_50_2 60 12 51 S51_50
theorem F51_50_e (sd0:D) (sd1:D):F51_50 [sd0,sd1] =
 let y0:=l51_50_2 [sd0,sd1,(.int (qlen sd0))] [(.int 0)]
 gd (qsome y0)<|bif qcmp .eql (qint (qnth y0 0)) 0 then some [.int (-1)]else some [.int (qint (qnth y0 1))]:=by kernel_rfl
def F51_50_eq:=by have h:= @F51_50_e;simp only[ge_id,gd,qeqD_self,qeqI_self,qeqB_self,qand_tt,qeq_len,qeq_l,cond_true]at h;exact h
def q51_50:List D→Option (List D):=veil (F51_50)
theorem q51_50_eq:q51_50=F51_50:=veil_eq _
def tb51_50:Tb:=Tb.addF tbl51_50_2 51 S51_50 (q51_50)
theorem ok_tb51_50:TbOk env (tb51_50):=addFunF ok_tbl51_50_2 51 (by kernel_rfl) _ (q51_50_eq)
def S44_50:FunS:=⟨[⟨true,(.rows 48)⟩,⟨true,(.func 50 [] [(.edat 48)])⟩],[],[⟨true, .bool⟩],[]⟩
def F44_50:List D→Option (List D):=liftX env tb51_50 60 12 44 S44_50
theorem F44_50_e (sd0:D) (sd1:D):F44_50 [sd0,sd1] =
 let y0:=qnth (q51_50 [sd0,sd1]) 0
 gd (qsome (q51_50 [sd0,sd1]))<|some [.bool (qcmp .geq (qint y0) 0)]:=by kernel_rfl
def F44_50_eq:=by have h:= @F44_50_e;simp only[ge_id,gd,qeqD_self,qeqI_self,qeqB_self,qand_tt,qeq_len,qeq_l,cond_true]at h;exact h
def q44_50:List D→Option (List D):=veil (F44_50)
theorem q44_50_eq:q44_50=F44_50:=veil_eq _
def tb44_50:Tb:=Tb.addF tb51_50 44 S44_50 (q44_50)
theorem ok_tb44_50:TbOk env (tb44_50):=addFunF ok_tb51_50 44 (by kernel_rfl) _ (q44_50_eq)
def S46_2:LoopS:=⟨0,[⟨false, .str⟩,uF,⟨false,(.lit (.bool false))⟩,uF,uF,uF,⟨false,(.rows 5)⟩,⟨false,(.int .i64)⟩,⟨true,(.int .i64)⟩,uF,uF,uF,uF,uF,uF,uF,uF,uF,uF,uF,uF,uF,uF,uF,uF,uF,uF,uF,uF,uF,uF,uF,uF,uF,uF,uF,uF,uF,uF,uF,uF,uF,uF,uF,uF,uF,uF,uF,uF,uF,uF],[],[⟨0,0,[⟨false, .str⟩,uT,⟨true,(.lit (.bool false))⟩,uT,uT,uT,⟨false,(.rows 5)⟩,⟨false,(.int .i64)⟩,uT,uT,uT,uT,uT,uT,uT,uT,uT,uT,uT,uT,uT,uT,uT,uT,uT,uT,uT,uT,uT,uT,uT,uT,uT,uT,uT,uT,uT,uT,uT,uT,uT,uT,uT,uT,uT,uT,uT,uT,uT,uT,uT],[]⟩,⟨1,0,[⟨false, .str⟩,uT,⟨true,(.lit (.bool false))⟩,uT,uT,uT,⟨false,(.rows 5)⟩,⟨false,(.int .i64)⟩,uT,uT,uT,uT,uT,uT,uT,uT,uT,uT,uT,uT,uT,uT,uT,uT,uT,uT,uT,uT,uT,uT,uT,uT,uT,uT,uT,uT,uT,uT,uT,uT,uT,uT,uT,uT,uT,uT,uT,uT,uT,uT,uT],[]⟩]⟩
def st46_2 (p s:List D):Option (Sum (List D) (List D)):=stepQX env tb44_50 60 12 46 (loopC 46 2) S46_2 p s
theorem st46_2_e (ps0:ByteArray) (pd1:D) (pn2:Int) (sn0:Int):st46_2 [(D.str ps0),pd1,(D.int pn2)] [(D.int sn0)] =
 let y0:=qiteB (qcmp .lss (qint (qget pd1 sn0)) 97) true (qcmp .gtr (qint (qget pd1 sn0)) 122)
 let y1:=qiteB (qcmp .lss (qint (qget pd1 sn0)) 65) true (qcmp .gtr (qint (qget pd1 sn0)) 90)
 let y2:=qiteB (qcmp .lss (qint (qget pd1 sn0)) 48) true (qcmp .gtr (qint (qget pd1 sn0)) 57)
 let y3:=qiteB (qiteB (qiteB y0 y1 false) y2 false) (qcmp .neq (qint (qget pd1 sn0)) 95) false
 let y4:=qiteB y3 (qcmp .neq (qint (qget pd1 sn0)) 46) false
 let x0:=D.str ps0
 let x1:=D.int pn2
 bif qcmp .lss sn0 pn2 then gd (qinb pd1 sn0)<|bif y4 then ge x0<|ge pd1<|ge x1<|some (Sum.inr [.int 1])else ge x0<|ge pd1<|ge x1<|some (Sum.inl [.int (qbin .add .i64 sn0 1)])else ge x0<|ge pd1<|ge x1<|some (Sum.inr [.int 0]):=by kernel_rfl
def st46_2_eq:=by have h:= @st46_2_e;simp only[ge_id,gd,qeqD_self,qeqI_self,qeqB_self,qand_tt,qeq_len,qeq_l,cond_true]at h;exact h
def l46_2:List D→List D→Option (List D):=veil fun p s=>loW (st46_2 p) s
theorem l46_2_eq:l46_2=fun p s=>loW (st46_2 p) s:=veil_eq _
def tbl46_2:Tb:=Tb.addL tb44_50 46 2 S46_2.n0 (mkLp S46_2 (l46_2))
theorem ok_tbl46_2:TbOk env (tbl46_2):=addLoopQ ok_tb44_50 46 2 (by kernel_rfl) _ (l46_2_eq)
def S46:FunS:=⟨[⟨true, .str⟩],[],[⟨true, .bool⟩],[]⟩
def F46:List D→Option (List D):=liftX env tbl46_2 60 12 46 S46
theorem F46_e (ss0:ByteArray):F46 [(D.str ss0)] =
 let y0:=l46_2 [(.str ss0),(qbytes ss0),(.int (qlen (qbytes ss0)))] [(.int 0)]
 let y1:=qiteB (qcmp .geq (qlenS ss0) 1) (qcmp .leq (qlenS ss0) 32) false
 gd (qsome y0)<|bif qcmp .eql (qint (qnth y0 0)) 0 then some [.bool y1]else some [.bool false]:=by kernel_rfl
def F46_eq:=by have h:= @F46_e;simp only[ge_id,gd,qeqD_self,qeqI_self,qeqB_self,qand_tt,qeq_len,qeq_l,cond_true]at h;exact h
def q46:List D→Option (List D):=veil (F46)
theorem q46_eq:q46=F46:=veil_eq _
def tb46:Tb:=Tb.addF tbl46_2 46 S46 (q46)
theorem ok_tb46:TbOk env (tb46):=addFunF ok_tbl46_2 46 (by kernel_rfl) _ (q46_eq)
def S16_4:LoopS:=⟨0,[⟨false,(.rows 48)⟩,uF,⟨false,(.lit (.int .i64 0))⟩,uF,uF,uF,uF,uF,uF,uF,uF,⟨false,(.rows 48)⟩,⟨false,(.int .i64)⟩,⟨true,(.int .i64)⟩,uF,uF,uF,uF,uF,uF,uF,uF,uF,uF,uF,uF,uF,uF,uF,uF,uF,uF,uF,uF,uF,uF,uF,uF,uF,uF,uF,uF,uF,uF,uF,uF,uF,uF,uF,uF,uF,uF,uF,uF,uF,uF,uF,uF,uF,uF,uF,uF,uF,uF,uF],[],[⟨0,0,[⟨false,(.rows 48)⟩,uT,⟨true,(.lit (.int .i64 0))⟩,uT,uT,uT,uT,uT,uT,uT,uT,⟨false,(.rows 48)⟩,⟨false,(.int .i64)⟩,uT,uT,uT,uT,uT,uT,uT,uT,uT,uT,uT,uT,uT,uT,uT,uT,uT,uT,uT,uT,uT,uT,uT,uT,uT,uT,uT,uT,uT,uT,uT,uT,uT,uT,uT,uT,uT,uT,uT,uT,uT,uT,uT,uT,uT,uT,uT,uT,uT,uT,uT,uT],[]⟩,⟨1,0,[⟨false,(.rows 48)⟩,uT,⟨true,(.int .i64)⟩,uT,uT,uT,uT,uT,uT,uT,uT,⟨false,(.rows 48)⟩,⟨false,(.int .i64)⟩,uT,uT,uT,uT,uT,uT,uT,uT,uT,uT,uT,uT,uT,uT,uT,uT,uT,uT,uT,uT,uT,uT,uT,uT,uT,uT,uT,uT,uT,uT,uT,uT,uT,uT,uT,uT,uT,uT,uT,uT,uT,uT,uT,uT,uT,uT,uT,uT,uT,uT,uT,uT],[]⟩]⟩
def st16_4 (p s:List D):Option (Sum (List D) (List D)):=stepQX env tb46 60 12 16 (loopC 16 4) S16_4 p s
theorem st16_4_e (pd0:D) (pd1:D) (pn2:Int) (sn0:Int):st16_4 [pd0,pd1,(D.int pn2)] [(D.int sn0)] =
 let y0:=q44_45 [(qsub pd0 0 sn0),(qget pd1 sn0)]
 let y1:=q46 [(.str (qstr (qfld (qget pd1 sn0) 0)))]
 let y2:=qbin .add .u64 (qwrap .u64 (qint (qfld (qget pd1 sn0) 1))) (qwrap .u64 (qlen (qfld (qget pd1 sn0) 2)))
 let y3:=qsome (q48 [(qget pd1 sn0)])
 let y4:=qnth (q48 [(qget pd1 sn0)]) 0
 let y5:=q47 [y4,(.agg [(.int 978944),(.int 983040)])]
 let y6:=qiteB (qcmp .gtr y2 4294967295) true (qand y3 (qsome y5))
 let y7:=qiteB (qcmp .gtr y2 4294967295) true (qbool (qnth y5 0))
 let x0:=D.int pn2
 let x1:=D.int 1
 bif qcmp .lss sn0 pn2 then gd (qinb pd1 sn0)<|gd (qcmp .leq 0 0)<|gd (qcmp .leq 0 sn0)<|gd (qcmp .leq sn0 (qlen pd0))<|gd (qsome y0)<|bif qcmp .gtr (qlen (qfld (qget pd1 sn0) 2)) 65536 then ge pd0<|ge pd1<|ge x0<|some (Sum.inr [x1,.int 6])else gd (qsome y1)<|bif qnot (qbool (qnth y1 0))then ge pd0<|ge pd1<|ge x0<|some (Sum.inr [x1,.int 3])else bif qbool (qnth y0 0)then ge pd0<|ge pd1<|ge x0<|some (Sum.inr [x1,.int 8])else gd y6<|bif y7 then ge pd0<|ge pd1<|ge x0<|some (Sum.inr [x1,.int 7])else ge pd0<|ge pd1<|ge x0<|some (Sum.inl [.int (qbin .add .i64 sn0 1)])else ge pd0<|ge pd1<|ge x0<|some (Sum.inr [.int 0]):=by kernel_rfl
def st16_4_eq:=by have h:= @st16_4_e;simp only[ge_id,gd,qeqD_self,qeqI_self,qeqB_self,qand_tt,qeq_len,qeq_l,cond_true]at h;exact h
def l16_4:List D→List D→Option (List D):=veil fun p s=>loW (st16_4 p) s
theorem l16_4_eq:l16_4=fun p s=>loW (st16_4 p) s:=veil_eq _
def tbl16_4:Tb:=Tb.addL tb46 16 4 S16_4.n0 (mkLp S16_4 (l16_4))
theorem ok_tbl16_4:TbOk env (tbl16_4):=addLoopQ ok_tb46 16 4 (by kernel_rfl) _ (l16_4_eq)
def S16_17:LoopS:=⟨0,[⟨false,(.rows 48)⟩,uF,⟨false,(.lit (.int .i64 0))⟩,uF,uF,uF,uF,uF,uF,uF,uF,uF,uF,uF,uF,uF,uF,uF,uF,uF,uF,uF,uF,uF,uF,uF,uF,uF,uF,uF,uF,uF,uF,uF,uF,uF,uF,uF,uF,uF,uF,uF,uF,uF,uF,uF,uF,uF,uF,uF,uF,uF,⟨false,(.rows 48)⟩,⟨false,(.int .i64)⟩,⟨true,(.int .i64)⟩,uF,uF,uF,uF,uF,uF,uF,uF,uF,uF],[],[⟨0,3,[⟨false,(.rows 48)⟩,uT,⟨true,(.lit (.int .i64 0))⟩,uT,uT,uT,uT,uT,uT,uT,uT,uT,uT,uT,uT,uT,uT,uT,uT,uT,uT,uT,uT,uT,uT,uT,uT,uT,uT,uT,uT,uT,uT,uT,uT,uT,uT,uT,uT,uT,uT,uT,uT,uT,uT,uT,uT,uT,uT,uT,uT,uT,⟨false,(.rows 48)⟩,⟨false,(.int .i64)⟩,uT,uT,uT,uT,uT,uT,uT,uT,uT,uT,uT],[]⟩,⟨1,0,[⟨false,(.rows 48)⟩,uT,⟨true,(.lit (.int .i64 10))⟩,uT,uT,uT,uT,uT,uT,uT,uT,uT,uT,uT,uT,uT,uT,uT,uT,uT,uT,uT,uT,uT,uT,uT,uT,uT,uT,uT,uT,uT,uT,uT,uT,uT,uT,uT,uT,uT,uT,uT,uT,uT,uT,uT,uT,uT,uT,uT,uT,uT,⟨false,(.rows 48)⟩,⟨false,(.int .i64)⟩,uT,uT,uT,uT,uT,uT,uT,uT,uT,uT,uT],[]⟩]⟩
def st16_17 (p s:List D):Option (Sum (List D) (List D)):=stepQX env tbl16_4 60 12 16 (loopC 16 17) S16_17 p s
theorem st16_17_e (pd0:D) (pd1:D) (pn2:Int) (sn0:Int):st16_17 [pd0,pd1,(D.int pn2)] [(D.int sn0)] =
 let y0:=q44_50 [(qsub pd0 0 sn0),(qget pd1 sn0)]
 let x0:=D.int pn2
 bif qcmp .lss sn0 pn2 then gd (qinb pd1 sn0)<|gd (qcmp .leq 0 0)<|gd (qcmp .leq 0 sn0)<|gd (qcmp .leq sn0 (qlen pd0))<|gd (qsome y0)<|bif qbool (qnth y0 0)then ge pd0<|ge pd1<|ge x0<|some (Sum.inr [.int 1])else ge pd0<|ge pd1<|ge x0<|some (Sum.inl [.int (qbin .add .i64 sn0 1)])else ge pd0<|ge pd1<|ge x0<|some (Sum.inr [.int 0]):=by kernel_rfl
def st16_17_eq:=by have h:= @st16_17_e;simp only[ge_id,gd,qeqD_self,qeqI_self,qeqB_self,qand_tt,qeq_len,qeq_l,cond_true]at h;exact h
def l16_17:List D→List D→Option (List D):=veil fun p s=>loW (st16_17 p) s
theorem l16_17_eq:l16_17=fun p s=>loW (st16_17 p) s:=veil_eq _
def tbl16_17:Tb:=Tb.addL tbl16_4 16 17 S16_17.n0 (mkLp S16_17 (l16_17))
theorem ok_tbl16_17:TbOk env (tbl16_17):=addLoopQ ok_tbl16_4 16 17 (by kernel_rfl) _ (l16_17_eq)
def S16:FunS:=⟨[⟨true,(.rows 48)⟩],[],[⟨true,(.int .i64)⟩],[]⟩
def F16:List D→Option (List D):=liftX env tbl16_17 60 12 16 S16
theorem F16_e (sd0:D):F16 [sd0] =
 let y0:=l16_4 [sd0,sd0,(.int (qlen sd0))] [(.int 0)]
 let y1:=l16_17 [sd0,sd0,(.int (qlen sd0))] [(.int 0)]
 bif qcmp .gtr (qlen sd0) 16 then some [.int 6]else gd (qsome y0)<|bif qcmp .eql (qint (qnth y0 0)) 0 then gd (qsome y1)<|bif qcmp .eql (qint (qnth y1 0)) 0 then some [.int 0]else some [.int 10]else some [.int (qint (qnth y0 1))]:=by kernel_rfl
def F16_eq:=by have h:= @F16_e;simp only[ge_id,gd,qeqD_self,qeqI_self,qeqB_self,qand_tt,qeq_len,qeq_l,cond_true]at h;exact h
def q16:List D→Option (List D):=veil (F16)
theorem q16_eq:q16=F16:=veil_eq _
def tb16:Tb:=Tb.addF tbl16_17 16 S16 (q16)
theorem ok_tb16:TbOk env (tb16):=addFunF ok_tbl16_17 16 (by kernel_rfl) _ (q16_eq)
def S89_7:LoopS:=⟨0,[⟨false,(.rows 48)⟩,⟨false,(.int .i64)⟩,uF,uF,⟨false,(.lit (.int .i64 0))⟩,⟨false,(.ptr 0 0)⟩,⟨true,(.int .i64)⟩,uF,uF,uF,uF,uF,uF,uF,uF,uF,uF,uF,uF,uF,uF,uF,uF,uF,uF,uF,uF,uF,uF,uF,uF,uF,uF,uF,uF,uF,uF,uF,uF,uF,uF,uF,uF,uF,uF,uF,uF,uF,uF,uF,uF,uF,uF,uF,uF],[(.dat false 48)],[⟨0,0,[⟨false,(.rows 48)⟩,⟨false,(.int .i64)⟩,uT,uT,⟨true,(.lit (.int .i64 0))⟩,⟨true,(.ptr 0 0)⟩,uT,uT,uT,uT,uT,uT,uT,uT,uT,uT,uT,uT,uT,uT,uT,uT,uT,uT,uT,uT,uT,uT,uT,uT,uT,uT,uT,uT,uT,uT,uT,uT,uT,uT,uT,uT,uT,uT,uT,uT,uT,uT,uT,uT,uT,uT,uT,uT,uT],[(.dat false 48)]⟩,⟨1,0,[⟨false,(.rows 48)⟩,⟨false,(.int .i64)⟩,uT,uT,⟨true,(.lit (.int .i64 8))⟩,uT,uT,uT,uT,uT,uT,uT,uT,uT,uT,uT,uT,uT,uT,uT,uT,uT,uT,uT,uT,uT,uT,uT,uT,uT,uT,uT,uT,uT,uT,uT,uT,uT,uT,uT,uT,uT,uT,uT,uT,uT,uT,uT,uT,uT,uT,uT,uT,uT,uT],[(.dat false 48)]⟩]⟩
def st89_7 (p s:List D):Option (Sum (List D) (List D)):=stepQX env tb16 60 12 89 (loopC 89 7) S89_7 p s
theorem st89_7_e (pd0:D) (pn1:Int) (pd2:D) (sn0:Int):st89_7 [pd0,(D.int pn1),pd2] [(D.int sn0)] =
 let y0:=qcmpS .eql (qstr (qfld (qget pd0 sn0) 0)) (qstr (qfld pd2 0))
 let x0:=D.int pn1
 bif qcmp .lss sn0 pn1 then gd (qinb pd0 sn0)<|bif y0 then ge pd0<|ge x0<|ge pd2<|some (Sum.inr [.int 1])else ge pd0<|ge x0<|ge pd2<|some (Sum.inl [.int (qbin .add .i64 sn0 1)])else ge pd0<|ge x0<|ge pd2<|some (Sum.inr [.int 0]):=by kernel_rfl
def st89_7_eq:=by have h:= @st89_7_e;simp only[ge_id,gd,qeqD_self,qeqI_self,qeqB_self,qand_tt,qeq_len,qeq_l,cond_true]at h;exact h
def l89_7:List D→List D→Option (List D):=veil fun p s=>loW (st89_7 p) s
theorem l89_7_eq:l89_7=fun p s=>loW (st89_7 p) s:=veil_eq _
def tbl89_7:Tb:=Tb.addL tb16 89 7 S89_7.n0 (mkLp S89_7 (l89_7))
theorem ok_tbl89_7:TbOk env (tbl89_7):=addLoopQ ok_tb16 89 7 (by kernel_rfl) _ (l89_7_eq)
def S89:FunS:=⟨[⟨true,(.rows 48)⟩,⟨true,(.int .i64)⟩],[],[⟨true,(.int .i64)⟩],[]⟩
def F89:List D→Option (List D):=liftX env tbl89_7 60 12 89 S89
theorem F89_e (sd0:D) (sn1:Int):F89 [sd0,(D.int sn1)] =
 let y0:=q152 [(.str (qstr (qfld (qget sd0 sn1) 0)))]
 let y1:=l89_7 [sd0,(.int sn1),(qget sd0 sn1)] [(.int 0)]
 let y2:=qbin .add .i64 (qwrap .i64 (qint (qfld (qget sd0 sn1) 1))) (qlen (qfld (qget sd0 sn1) 2))
 let y3:=qcmp .lss (qwrap .i64 (qint (qfld (qget sd0 sn1) 1))) 983040
 let y4:=qiteB (qcmp .gtr (qlen (qfld (qget sd0 sn1) 2)) 0) y3 false
 let y5:=qsome (q90 [(qget sd0 sn1)])
 let y6:=qnth (q90 [(qget sd0 sn1)]) 0
 let x0:Option (List D):=some [.int 7]
 gd (qinb sd0 sn1)<|bif qcmp .gtr (qlen (qfld (qget sd0 sn1) 2)) 65536 then some [.int 6]else gd (qsome y0)<|bif qnot (qbool (qnth y0 0))then some [.int 3]else gd (qsome y1)<|bif qcmp .eql (qint (qnth y1 0)) 0 then bif qcmp .gtr y2 4294967295 then x0 else gd (qiteB y4 y5 true)<|bif qiteB y4 (qcmp .gtr (qint y6) 978944) false then x0 else some [.int 0]else some [.int 8]:=by kernel_rfl
def F89_eq:=by have h:= @F89_e;simp only[ge_id,gd,qeqD_self,qeqI_self,qeqB_self,qand_tt,qeq_len,qeq_l,cond_true]at h;exact h
def q89:List D→Option (List D):=veil (F89)
theorem q89_eq:q89=F89:=veil_eq _
def tb89:Tb:=Tb.addF tbl89_7 89 S89 (q89)
theorem ok_tb89:TbOk env (tb89):=addFunF ok_tbl89_7 89 (by kernel_rfl) _ (q89_eq)
def S54_4:LoopS:=⟨0,[⟨false,(.rows 48)⟩,uF,⟨false,(.lit (.int .i64 0))⟩,⟨true,(.int .i64)⟩,uF,uF,uF,uF,uF,uF,uF,uF,uF,uF,uF,uF,uF,uF,uF,uF,uF,uF,uF,uF,uF,uF,uF,uF,uF,uF,uF,uF,uF,uF,uF,uF,uF,uF,uF,uF,uF,uF,uF,uF,uF,uF,uF,uF,uF,uF,uF,uF,uF,uF,uF,uF,uF,uF,uF,uF,uF,uF,uF,uF,uF,uF,uF,uF,uF,uF,uF,uF,uF,uF,uF,uF,uF],[],[⟨0,0,[⟨false,(.rows 48)⟩,uT,⟨true,(.lit (.int .i64 0))⟩,uT,uT,uT,uT,uT,uT,uT,uT,uT,uT,uT,uT,uT,uT,uT,uT,uT,uT,uT,uT,uT,uT,uT,uT,uT,uT,uT,uT,uT,uT,uT,uT,uT,uT,uT,uT,uT,uT,uT,uT,uT,uT,uT,uT,uT,uT,uT,uT,uT,uT,uT,uT,uT,uT,uT,uT,uT,uT,uT,uT,uT,uT,uT,uT,uT,uT,uT,uT,uT,uT,uT,uT,uT,uT],[]⟩,⟨1,0,[⟨false,(.rows 48)⟩,uT,⟨true,(.int .i64)⟩,uT,uT,uT,uT,uT,uT,uT,uT,uT,uT,uT,uT,uT,uT,uT,uT,uT,uT,uT,uT,uT,uT,uT,uT,uT,uT,uT,uT,uT,uT,uT,uT,uT,uT,uT,uT,uT,uT,uT,uT,uT,uT,uT,uT,uT,uT,uT,uT,uT,uT,uT,uT,uT,uT,uT,uT,uT,uT,uT,uT,uT,uT,uT,uT,uT,uT,uT,uT,uT,uT,uT,uT,uT,uT],[]⟩]⟩
def st54_4 (p s:List D):Option (Sum (List D) (List D)):=stepQX env tb89 60 12 54 (loopC 54 4) S54_4 p s
theorem st54_4_e (pd0:D) (sn0:Int):st54_4 [pd0] [(D.int sn0)] =
 let y0:=qsome (q89 [pd0,(.int sn0)])
 let y1:=qnth (q89 [pd0,(.int sn0)]) 0
 bif qcmp .lss sn0 (qlen pd0)then gd y0<|bif qcmp .neq (qint y1) 0 then ge pd0<|some (Sum.inr [.int 1,.int (qint y1)])else ge pd0<|some (Sum.inl [.int (qbin .add .i64 sn0 1)])else ge pd0<|some (Sum.inr [.int 0]):=by kernel_rfl
def st54_4_eq:=by have h:= @st54_4_e;simp only[ge_id,gd,qeqD_self,qeqI_self,qeqB_self,qand_tt,qeq_len,qeq_l,cond_true]at h;exact h
def l54_4:List D→List D→Option (List D):=veil fun p s=>loW (st54_4 p) s
theorem l54_4_eq:l54_4=fun p s=>loW (st54_4 p) s:=veil_eq _
def tbl54_4:Tb:=Tb.addL tb89 54 4 S54_4.n0 (mkLp S54_4 (l54_4))
theorem ok_tbl54_4:TbOk env (tbl54_4):=addLoopQ ok_tb89 54 4 (by kernel_rfl) _ (l54_4_eq)
def S54_13:LoopS:=⟨0,[⟨false,(.rows 48)⟩,uF,⟨false,(.lit (.int .i64 0))⟩,uF,uF,⟨false,(.int .i64)⟩,⟨true,(.int .i64)⟩,uF,uF,uF,uF,uF,uF,uF,uF,uF,uF,uF,uF,uF,uF,uF,uF,uF,uF,uF,uF,uF,uF,uF,uF,uF,uF,uF,uF,uF,uF,uF,uF,uF,uF,uF,uF,uF,uF,uF,uF,uF,uF,uF,uF,uF,uF,uF,uF,uF,uF,uF,uF,uF,uF,uF,uF,uF,uF,uF,uF,uF,uF,uF,uF,uF,uF,uF,uF,uF,uF],[],[⟨0,4,[⟨false,(.rows 48)⟩,uT,⟨true,(.lit (.int .i64 0))⟩,uT,uT,⟨false,(.int .i64)⟩,uT,uT,uT,uT,uT,uT,uT,uT,uT,uT,uT,uT,uT,uT,uT,uT,uT,uT,uT,uT,uT,uT,uT,uT,uT,uT,uT,uT,uT,uT,uT,uT,uT,uT,uT,uT,uT,uT,uT,uT,uT,uT,uT,uT,uT,uT,uT,uT,uT,uT,uT,uT,uT,uT,uT,uT,uT,uT,uT,uT,uT,uT,uT,uT,uT,uT,uT,uT,uT,uT,uT],[]⟩,⟨1,0,[⟨false,(.rows 48)⟩,uT,⟨true,(.lit (.int .i64 10))⟩,uT,uT,⟨false,(.int .i64)⟩,uT,uT,uT,uT,uT,uT,uT,uT,uT,uT,uT,uT,uT,uT,uT,uT,uT,uT,uT,uT,uT,uT,uT,uT,uT,uT,uT,uT,uT,uT,uT,uT,uT,uT,uT,uT,uT,uT,uT,uT,uT,uT,uT,uT,uT,uT,uT,uT,uT,uT,uT,uT,uT,uT,uT,uT,uT,uT,uT,uT,uT,uT,uT,uT,uT,uT,uT,uT,uT,uT,uT],[]⟩]⟩
def st54_13 (p s:List D):Option (Sum (List D) (List D)):=stepQX env tbl54_4 60 12 54 (loopC 54 13) S54_13 p s
theorem st54_13_e (pd0:D) (pn1:Int) (sn0:Int):st54_13 [pd0,(D.int pn1)] [(D.int sn0)] =
 let y0:=qsome (q90 [(qget pd0 sn0)])
 let y1:=qnth (q90 [(qget pd0 sn0)]) 0
 let y2:=qcmp .lss (qwrap .i64 (qint (qfld (qget pd0 pn1) 1))) (qint y1)
 let y3:=qsome (q90 [(qget pd0 pn1)])
 let y4:=qnth (q90 [(qget pd0 pn1)]) 0
 let y5:=qcmp .lss (qwrap .i64 (qint (qfld (qget pd0 sn0) 1))) (qint y4)
 let x0:=qinb pd0 pn1
 let x1:=qinb pd0 sn0
 let x2:=D.int pn1
 let x3:Option (List D ⊕ List D):=ge pd0<|ge x2<|some (Sum.inl [.int (qbin .add .i64 sn0 1)])
 bif qcmp .lss sn0 pn1 then gd x0<|bif qcmp .gtr (qlen (qfld (qget pd0 pn1) 2)) 0 then gd x1<|bif qcmp .gtr (qlen (qfld (qget pd0 sn0) 2)) 0 then gd x0<|gd x1<|gd y0<|bif y2 then gd x1<|gd x0<|gd y3<|bif y5 then ge pd0<|ge x2<|some (Sum.inr [.int 1])else x3 else x3 else x3 else x3 else ge pd0<|ge x2<|some (Sum.inr [.int 0]):=by kernel_rfl
def st54_13_eq:=by have h:= @st54_13_e;simp only[ge_id,gd,qeqD_self,qeqI_self,qeqB_self,qand_tt,qeq_len,qeq_l,cond_true]at h;exact h
def l54_13:List D→List D→Option (List D):=veil fun p s=>loW (st54_13 p) s
theorem l54_13_eq:l54_13=fun p s=>loW (st54_13 p) s:=veil_eq _
def tbl54_13:Tb:=Tb.addL tbl54_4 54 13 S54_13.n0 (mkLp S54_13 (l54_13))
theorem ok_tbl54_13:TbOk env (tbl54_13):=addLoopQ ok_tbl54_4 54 13 (by kernel_rfl) _ (l54_13_eq)
def S54_10:LoopS:=⟨0,[⟨false,(.rows 48)⟩,uF,⟨false,(.lit (.int .i64 0))⟩,uF,uF,⟨true,(.int .i64)⟩,uF,uF,uF,uF,uF,uF,uF,uF,uF,uF,uF,uF,uF,uF,uF,uF,uF,uF,uF,uF,uF,uF,uF,uF,uF,uF,uF,uF,uF,uF,uF,uF,uF,uF,uF,uF,uF,uF,uF,uF,uF,uF,uF,uF,uF,uF,uF,uF,uF,uF,uF,uF,uF,uF,uF,uF,uF,uF,uF,uF,uF,uF,uF,uF,uF,uF,uF,uF,uF,uF,uF],[],[⟨0,2,[⟨false,(.rows 48)⟩,uT,⟨true,(.lit (.int .i64 0))⟩,uT,uT,uT,uT,uT,uT,uT,uT,uT,uT,uT,uT,uT,uT,uT,uT,uT,uT,uT,uT,uT,uT,uT,uT,uT,uT,uT,uT,uT,uT,uT,uT,uT,uT,uT,uT,uT,uT,uT,uT,uT,uT,uT,uT,uT,uT,uT,uT,uT,uT,uT,uT,uT,uT,uT,uT,uT,uT,uT,uT,uT,uT,uT,uT,uT,uT,uT,uT,uT,uT,uT,uT,uT,uT],[]⟩,⟨1,0,[⟨false,(.rows 48)⟩,uT,⟨true,(.lit (.int .i64 10))⟩,uT,uT,uT,uT,uT,uT,uT,uT,uT,uT,uT,uT,uT,uT,uT,uT,uT,uT,uT,uT,uT,uT,uT,uT,uT,uT,uT,uT,uT,uT,uT,uT,uT,uT,uT,uT,uT,uT,uT,uT,uT,uT,uT,uT,uT,uT,uT,uT,uT,uT,uT,uT,uT,uT,uT,uT,uT,uT,uT,uT,uT,uT,uT,uT,uT,uT,uT,uT,uT,uT,uT,uT,uT,uT],[]⟩]⟩
def st54_10 (p s:List D):Option (Sum (List D) (List D)):=stepQX env tbl54_13 60 12 54 (loopC 54 10) S54_10 p s
theorem st54_10_e (pd0:D) (sn0:Int):st54_10 [pd0] [(D.int sn0)] =
 let y0:=l54_13 [pd0,(.int sn0)] [(.int 0)]
 bif qcmp .lss sn0 (qlen pd0)then gd (qsome y0)<|bif qcmp .eql (qint (qnth y0 0)) 0 then ge pd0<|some (Sum.inl [.int (qbin .add .i64 sn0 1)])else ge pd0<|some (Sum.inr [.int 1])else ge pd0<|some (Sum.inr [.int 0]):=by kernel_rfl
def st54_10_eq:=by have h:= @st54_10_e;simp only[ge_id,gd,qeqD_self,qeqI_self,qeqB_self,qand_tt,qeq_len,qeq_l,cond_true]at h;exact h
def l54_10:List D→List D→Option (List D):=veil fun p s=>loW (st54_10 p) s
theorem l54_10_eq:l54_10=fun p s=>loW (st54_10 p) s:=veil_eq _
def tbl54_10:Tb:=Tb.addL tbl54_13 54 10 S54_10.n0 (mkLp S54_10 (l54_10))
theorem ok_tbl54_10:TbOk env (tbl54_10):=addLoopQ ok_tbl54_13 54 10 (by kernel_rfl) _ (l54_10_eq)
def S54:FunS:=⟨[⟨true,(.rows 48)⟩],[],[⟨true,(.int .i64)⟩],[]⟩
def F54:List D→Option (List D):=liftX env tbl54_10 60 12 54 S54
theorem F54_e (sd0:D):F54 [sd0] =
 let y0:=qsome (l54_4 [sd0] [(.int 0)])
 let y1:=qnth (l54_4 [sd0] [(.int 0)]) 0
 let y2:=qsome (l54_10 [sd0] [(.int 0)])
 let y3:=qnth (l54_10 [sd0] [(.int 0)]) 0
 let y4:=qnth (l54_4 [sd0] [(.int 0)]) 1
 bif qcmp .gtr (qlen sd0) 16 then some [.int 6]else gd y0<|bif qcmp .eql (qint y1) 0 then gd y2<|bif qcmp .eql (qint y3) 0 then some [.int 0]else some [.int 10]else some [.int (qint y4)]:=by kernel_rfl
def F54_eq:=by have h:= @F54_e;simp only[ge_id,gd,qeqD_self,qeqI_self,qeqB_self,qand_tt,qeq_len,qeq_l,cond_true]at h;exact h
def q54:List D→Option (List D):=veil (F54)
theorem q54_eq:q54=F54:=veil_eq _
def tb54:Tb:=Tb.addF tbl54_10 54 S54 (q54)
theorem ok_tb54:TbOk env (tb54):=addFunF ok_tbl54_10 54 (by kernel_rfl) _ (q54_eq)
end
end Go.Proofs.YteccopaonadbeaaGreatDoor
open Go Go.AM
namespace Go.Proofs.YteccopaonadbeaaGreatDoor
noncomputable section
set_option maxRecDepth 100000
set_option linter.unusedSimpArgs false
set_option linter.unusedVariables false
set_option linter.defProp false
def S63:FunS:=⟨[⟨true,(.dat 105)⟩,⟨true,(.int .i64)⟩],[],[⟨true,(.int .i64)⟩],[]⟩
def tbR63 (Q:List D→Option (List D)):Tb:=Tb.addF tb54 63 S63 Q
theorem ok_tbR63 (Q:List D→Option (List D)) (hQ:SoundF env.P 63 S63 Q):TbOk env (tbR63 Q):=TbOk.addF ok_tb54 (by kernel_rfl) hQ
def S63_3:LoopS:=⟨0,[uF,⟨true,(.int .i64)⟩,⟨false,(.ptr 0 0)⟩,uF,⟨false,(.lit (.int .i64 0))⟩,⟨true,(.int .i64)⟩,uF,uF,uF,uF,uF,uF,uF,uF,uF,uF,uF,uF,uF,uF,uF,uF,uF,uF,uF,uF,uF],[(.dat false 105)],[⟨0,0,[uT,⟨true,(.int .i64)⟩,uT,uT,⟨true,(.lit (.int .i64 0))⟩,uT,uT,uT,uT,uT,uT,uT,uT,uT,uT,uT,uT,uT,uT,uT,uT,uT,uT,uT,uT,uT,uT],[(.dat false 105)]⟩]⟩
def st63_3 (Q:List D→Option (List D)) (p s:List D):Option (Sum (List D) (List D)):=stepQX env (tbR63 Q) 60 12 63 (loopC 63 3) S63_3 p s
theorem st63_3_e (Q:List D→Option (List D)) (pd0:D) (sn0:Int) (sn1:Int):st63_3 Q [pd0] [(D.int sn0),(D.int sn1)] =
 let y0:=qiteB (qcmp .lss sn1 (qlen (qfld pd0 4))) (qcmp .gtr sn0 0) false
 let x0:=Q [qget (qfld pd0 4) sn1,.int sn0]
 bif y0 then gd (qinb (qfld pd0 4) sn1)<|gd (qsome x0)<|ge pd0<|some (Sum.inl [.int (qint (qnth x0 0)),.int (qbin .add .i64 sn1 1)])else ge pd0<|some (Sum.inr [.int 0,.int sn0]):=by kernel_rfl
def st63_3_eq:=by have h:= @st63_3_e;simp only[ge_id,gd,qeqD_self,qeqI_self,qeqB_self,qand_tt,qeq_len,qeq_l,cond_true]at h;exact h
def l63_3 (Q:List D→Option (List D)):List D→List D→Option (List D):=veil fun p s=>loW (st63_3 Q p) s
theorem l63_3_eq (Q:List D→Option (List D)):l63_3 Q=fun p s=>loW (st63_3 Q p) s:=veil_eq _
def tbl63_3 (Q:List D→Option (List D)):Tb:=Tb.addL (tbR63 Q) 63 3 S63_3.n0 (mkLp S63_3 (l63_3 Q))
theorem ok_tbl63_3 (Q:List D→Option (List D)) (hQ:SoundF env.P 63 S63 Q):TbOk env (tbl63_3 Q):=addLoopQ (ok_tbR63 Q hQ) 63 3 (by kernel_rfl) _ (l63_3_eq Q)
def Fb63 (Q:List D→Option (List D)):List D→Option (List D):=liftX env (tbl63_3 Q) 60 12 63 S63
theorem Fb63_e (Q:List D→Option (List D)) (sd0:D) (sn1:Int):Fb63 Q [sd0,(D.int sn1)] =
 let y0:=l63_3 Q [sd0] [(.int (qbin .sub .i64 sn1 1)),(.int 0)]
 gd (qsome y0)<|some [.int (qint (qnth y0 1))]:=by kernel_rfl
def Fb63_eq:=by have h:= @Fb63_e;simp only[ge_id,gd,qeqD_self,qeqI_self,qeqB_self,qand_tt,qeq_len,qeq_l,cond_true]at h;exact h
def F63:Nat→List D→Option (List D):=levels Fb63
theorem F63_s (n:Nat):F63 (n+1)=Fb63 (F63 n):=rfl
def q63:List D→Option (List D):=veil fun ds=>F63 (fuelL ds) ds
theorem q63_eq:q63=fun ds=>F63 (fuelL ds) ds:=veil_eq _
theorem sound63:SoundF env.P 63 S63 q63:=recF (fun q=>tbl63_3 q) (fun q hq=>ok_tbl63_3 q hq) q63_eq
def tb63:Tb:=Tb.addF tb54 63 S63 q63
theorem ok_tb63:TbOk env tb63:=TbOk.addF ok_tb54 (by kernel_rfl) sound63
def S30:FunS:=⟨[⟨true,(.rows 102)⟩,⟨true,(.int .i64)⟩],[],[⟨true,(.int .i64)⟩],[]⟩
def tbR30 (Q:List D→Option (List D)):Tb:=Tb.addF tb63 30 S30 Q
theorem ok_tbR30 (Q:List D→Option (List D)) (hQ:SoundF env.P 30 S30 Q):TbOk env (tbR30 Q):=TbOk.addF ok_tb63 (by kernel_rfl) hQ
def S30_6:LoopS:=⟨0,[⟨false,(.rows 102)⟩,⟨true,(.int .i64)⟩,uF,uF,⟨false,(.lit (.int .i64 0))⟩,⟨false,(.int .i64)⟩,⟨true,(.int .i64)⟩,uF,uF,uF,uF,uF,uF,uF,uF,uF,uF,uF,uF,uF,uF,uF,uF,uF,uF,uF,uF,uF,uF,uF,uF,uF,uF,uF,uF,uF,uF,uF,uF,uF,uF,uF,uF,uF,uF,uF,uF,uF,uF,uF,uF,uF,uF,uF,uF,uF,uF,uF,uF,uF,uF,uF,uF,uF,uF,uF,uF,uF,uF,uF,uF,uF,uF,uF,uF,uF,uF,uF,uF,uF,uF,uF,uF,uF],[],[⟨0,2,[⟨false,(.rows 102)⟩,⟨true,(.int .i64)⟩,uT,uT,⟨true,(.lit (.int .i64 0))⟩,⟨false,(.int .i64)⟩,uT,uT,uT,uT,uT,uT,uT,uT,uT,uT,uT,uT,uT,uT,uT,uT,uT,uT,uT,uT,uT,uT,uT,uT,uT,uT,uT,uT,uT,uT,uT,uT,uT,uT,uT,uT,uT,uT,uT,uT,uT,uT,uT,uT,uT,uT,uT,uT,uT,uT,uT,uT,uT,uT,uT,uT,uT,uT,uT,uT,uT,uT,uT,uT,uT,uT,uT,uT,uT,uT,uT,uT,uT,uT,uT,uT,uT,uT],[]⟩]⟩
def st30_6 (Q:List D→Option (List D)) (p s:List D):Option (Sum (List D) (List D)):=stepQX env (tbR30 Q) 60 12 30 (loopC 30 6) S30_6 p s
theorem st30_6_e (Q:List D→Option (List D)) (pd0:D) (pn1:Int) (sn0:Int) (sn1:Int):st30_6 Q [pd0,(D.int pn1)] [(D.int sn0),(D.int sn1)] =
 let y0:=qiteB (qcmp .lss sn1 (qlen (qfld (qget pd0 pn1) 3))) (qcmp .gtr sn0 0) false
 let y1:=q63 [(qget (qfld (qget pd0 pn1) 3) sn1),(.int sn0)]
 let x0:=qinb pd0 pn1
 gd x0<|bif y0 then gd x0<|gd (qinb (qfld (qget pd0 pn1) 3) sn1)<|gd (qsome y1)<|ge pd0<|ge (.int pn1)<|some (Sum.inl [.int (qint (qnth y1 0)),.int (qbin .add .i64 sn1 1)])else ge pd0<|ge (.int pn1)<|some (Sum.inr [.int 0,.int sn0]):=by kernel_rfl
def st30_6_eq:=by have h:= @st30_6_e;simp only[ge_id,gd,qeqD_self,qeqI_self,qeqB_self,qand_tt,qeq_len,qeq_l,cond_true]at h;exact h
def l30_6 (Q:List D→Option (List D)):List D→List D→Option (List D):=veil fun p s=>loW (st30_6 Q p) s
theorem l30_6_eq (Q:List D→Option (List D)):l30_6 Q=fun p s=>loW (st30_6 Q p) s:=veil_eq _
def tbl30_6 (Q:List D→Option (List D)):Tb:=Tb.addL (tbR30 Q) 30 6 S30_6.n0 (mkLp S30_6 (l30_6 Q))
theorem ok_tbl30_6 (Q:List D→Option (List D)) (hQ:SoundF env.P 30 S30 Q):TbOk env (tbl30_6 Q):=addLoopQ (ok_tbR30 Q hQ) 30 6 (by kernel_rfl) _ (l30_6_eq Q)
def S30_12:LoopS:=⟨0,[⟨false,(.rows 102)⟩,⟨true,(.int .i64)⟩,uF,uF,⟨false,(.lit (.int .i64 0))⟩,⟨false,(.int .i64)⟩,uF,⟨true,(.int .i64)⟩,uF,uF,uF,uF,uF,uF,uF,uF,uF,uF,uF,uF,uF,uF,uF,uF,uF,uF,uF,uF,uF,uF,uF,uF,uF,uF,uF,uF,uF,uF,uF,uF,uF,uF,uF,uF,uF,uF,uF,uF,uF,uF,uF,uF,uF,uF,uF,uF,uF,uF,uF,uF,uF,uF,uF,uF,uF,uF,uF,uF,uF,uF,uF,uF,uF,uF,uF,uF,uF,uF,uF,uF,uF,uF,uF,uF],[],[⟨0,4,[⟨false,(.rows 102)⟩,⟨true,(.int .i64)⟩,uT,uT,⟨true,(.lit (.int .i64 0))⟩,⟨false,(.int .i64)⟩,uT,uT,uT,uT,uT,uT,uT,uT,uT,uT,uT,uT,uT,uT,uT,uT,uT,uT,uT,uT,uT,uT,uT,uT,uT,uT,uT,uT,uT,uT,uT,uT,uT,uT,uT,uT,uT,uT,uT,uT,uT,uT,uT,uT,uT,uT,uT,uT,uT,uT,uT,uT,uT,uT,uT,uT,uT,uT,uT,uT,uT,uT,uT,uT,uT,uT,uT,uT,uT,uT,uT,uT,uT,uT,uT,uT,uT,uT],[]⟩]⟩
def st30_12 (Q:List D→Option (List D)) (p s:List D):Option (Sum (List D) (List D)):=stepQX env (tbl30_6 Q) 60 12 30 (loopC 30 12) S30_12 p s
theorem st30_12_e (Q:List D→Option (List D)) (pd0:D) (pn1:Int) (sn0:Int) (sn1:Int):st30_12 Q [pd0,(D.int pn1)] [(D.int sn0),(D.int sn1)] =
 let y0:=qiteB (qcmp .lss sn1 (qlen (qfld (qget pd0 pn1) 6))) (qcmp .gtr sn0 0) false
 let y1:=qsome (Q [(qget (qfld (qget pd0 pn1) 6) sn1),(.int (qbin .sub .i64 sn0 1))])
 let y2:=qnth (Q [(qget (qfld (qget pd0 pn1) 6) sn1),(.int (qbin .sub .i64 sn0 1))]) 0
 let x0:=qinb pd0 pn1
 gd x0<|bif y0 then gd x0<|gd (qinb (qfld (qget pd0 pn1) 6) sn1)<|gd y1<|ge pd0<|ge (.int pn1)<|some (Sum.inl [.int (qint y2),.int (qbin .add .i64 sn1 1)])else ge pd0<|ge (.int pn1)<|some (Sum.inr [.int 0,.int sn0]):=by kernel_rfl
def st30_12_eq:=by have h:= @st30_12_e;simp only[ge_id,gd,qeqD_self,qeqI_self,qeqB_self,qand_tt,qeq_len,qeq_l,cond_true]at h;exact h
def l30_12 (Q:List D→Option (List D)):List D→List D→Option (List D):=veil fun p s=>loW (st30_12 Q p) s
theorem l30_12_eq (Q:List D→Option (List D)):l30_12 Q=fun p s=>loW (st30_12 Q p) s:=veil_eq _
def tbl30_12 (Q:List D→Option (List D)):Tb:=Tb.addL (tbl30_6 Q) 30 12 S30_12.n0 (mkLp S30_12 (l30_12 Q))
theorem ok_tbl30_12 (Q:List D→Option (List D)) (hQ:SoundF env.P 30 S30 Q):TbOk env (tbl30_12 Q):=addLoopQ (ok_tbl30_6 Q hQ) 30 12 (by kernel_rfl) _ (l30_12_eq Q)
def S30_2:LoopS:=⟨0,[⟨false,(.rows 102)⟩,⟨true,(.int .i64)⟩,uF,uF,⟨false,(.lit (.int .i64 0))⟩,⟨true,(.int .i64)⟩,uF,uF,uF,uF,uF,uF,uF,uF,uF,uF,uF,uF,uF,uF,uF,uF,uF,uF,uF,uF,uF,uF,uF,uF,uF,uF,uF,uF,uF,uF,uF,uF,uF,uF,uF,uF,uF,uF,uF,uF,uF,uF,uF,uF,uF,uF,uF,uF,uF,uF,uF,uF,uF,uF,uF,uF,uF,uF,uF,uF,uF,uF,uF,uF,uF,uF,uF,uF,uF,uF,uF,uF,uF,uF,uF,uF,uF,uF],[],[⟨0,0,[⟨false,(.rows 102)⟩,⟨true,(.int .i64)⟩,uT,uT,⟨true,(.lit (.int .i64 0))⟩,uT,uT,uT,uT,uT,uT,uT,uT,uT,uT,uT,uT,uT,uT,uT,uT,uT,uT,uT,uT,uT,uT,uT,uT,uT,uT,uT,uT,uT,uT,uT,uT,uT,uT,uT,uT,uT,uT,uT,uT,uT,uT,uT,uT,uT,uT,uT,uT,uT,uT,uT,uT,uT,uT,uT,uT,uT,uT,uT,uT,uT,uT,uT,uT,uT,uT,uT,uT,uT,uT,uT,uT,uT,uT,uT,uT,uT,uT,uT],[]⟩]⟩
def st30_2 (Q:List D→Option (List D)) (p s:List D):Option (Sum (List D) (List D)):=stepQX env (tbl30_12 Q) 60 12 30 (loopC 30 2) S30_2 p s
theorem st30_2_e (Q:List D→Option (List D)) (pd0:D) (sn0:Int) (sn1:Int):st30_2 Q [pd0] [(D.int sn0),(D.int sn1)] =
 let y0:=qiteB (qcmp .lss sn1 (qlen pd0)) (qcmp .gtr sn0 0) false
 let y1:=l30_6 Q [pd0,(.int sn1)] [(.int (qbin .sub .i64 sn0 1)),(.int 0)]
 let y2:=qsome (Q [(qfld (qget pd0 sn1) 4),(.int (qint (qnth y1 1)))])
 let y3:=qnth (Q [(qfld (qget pd0 sn1) 4),(.int (qint (qnth y1 1)))]) 0
 let y4:=qint (qnth (Q [(qfld (qget pd0 sn1) 5),(.int (qint y3))]) 0)
 let y5:=l30_12 Q [pd0,(.int sn1)] [(.int y4),(.int 0)]
 let x0:=qinb pd0 sn1
 bif y0 then gd (qsome y1)<|gd x0<|gd y2<|gd x0<|gd (qsome (Q [qfld (qget pd0 sn1) 5,.int (qint y3)]))<|gd (qsome y5)<|ge pd0<|some (Sum.inl [.int (qint (qnth y5 1)),.int (qbin .add .i64 sn1 1)])else ge pd0<|some (Sum.inr [.int 0,.int sn0]):=by kernel_rfl
def st30_2_eq:=by have h:= @st30_2_e;simp only[ge_id,gd,qeqD_self,qeqI_self,qeqB_self,qand_tt,qeq_len,qeq_l,cond_true]at h;exact h
def l30_2 (Q:List D→Option (List D)):List D→List D→Option (List D):=veil fun p s=>loW (st30_2 Q p) s
theorem l30_2_eq (Q:List D→Option (List D)):l30_2 Q=fun p s=>loW (st30_2 Q p) s:=veil_eq _
def tbl30_2 (Q:List D→Option (List D)):Tb:=Tb.addL (tbl30_12 Q) 30 2 S30_2.n0 (mkLp S30_2 (l30_2 Q))
theorem ok_tbl30_2 (Q:List D→Option (List D)) (hQ:SoundF env.P 30 S30 Q):TbOk env (tbl30_2 Q):=addLoopQ (ok_tbl30_12 Q hQ) 30 2 (by kernel_rfl) _ (l30_2_eq Q)
def Fb30 (Q:List D→Option (List D)):List D→Option (List D):=liftX env (tbl30_2 Q) 60 12 30 S30
theorem Fb30_e (Q:List D→Option (List D)) (sd0:D) (sn1:Int):Fb30 Q [sd0,(D.int sn1)] =
 let y0:=l30_2 Q [sd0] [(.int sn1),(.int 0)]
 gd (qsome y0)<|some [.int (qint (qnth y0 1))]:=by kernel_rfl
def Fb30_eq:=by have h:= @Fb30_e;simp only[ge_id,gd,qeqD_self,qeqI_self,qeqB_self,qand_tt,qeq_len,qeq_l,cond_true]at h;exact h
def F30:Nat→List D→Option (List D):=levels Fb30
theorem F30_s (n:Nat):F30 (n+1)=Fb30 (F30 n):=rfl
def q30:List D→Option (List D):=veil fun ds=>F30 (fuelL ds) ds
theorem q30_eq:q30=fun ds=>F30 (fuelL ds) ds:=veil_eq _
theorem sound30:SoundF env.P 30 S30 q30:=recF (fun q=>tbl30_2 q) (fun q hq=>ok_tbl30_2 q hq) q30_eq
def tb30:Tb:=Tb.addF tb63 30 S30 q30
theorem ok_tb30:TbOk env tb30:=TbOk.addF ok_tb63 (by kernel_rfl) sound30
def S11_3:LoopS:=⟨0,[uF,⟨false,(.ptr 0 0)⟩,⟨false,(.lit (.bool false))⟩,⟨true,(.int .i64)⟩,⟨true,(.int .i64)⟩,uF,uF,uF,uF,uF,uF,uF,uF,uF,uF,uF,uF,uF,uF,uF,uF,uF,uF,uF,uF,uF,uF,uF,uF,uF,uF,uF,uF,uF,uF,uF,uF,uF,uF,uF,uF,uF,uF,uF,uF,uF,uF,uF,uF,uF,uF,uF,uF,uF,uF,uF,uF,uF,uF,uF,uF,uF,uF,uF,uF,uF,uF,uF],[(.dat false 33)],[⟨0,0,[uT,⟨true,(.ptr 0 0)⟩,⟨true,(.lit (.bool false))⟩,⟨true,(.int .i64)⟩,uT,uT,uT,uT,uT,uT,uT,uT,uT,uT,uT,uT,uT,uT,uT,uT,uT,uT,uT,uT,uT,uT,uT,uT,uT,uT,uT,uT,uT,uT,uT,uT,uT,uT,uT,uT,uT,uT,uT,uT,uT,uT,uT,uT,uT,uT,uT,uT,uT,uT,uT,uT,uT,uT,uT,uT,uT,uT,uT,uT,uT,uT,uT,uT],[(.dat false 33)]⟩]⟩
def st11_3 (p s:List D):Option (Sum (List D) (List D)):=stepQX env tb30 60 12 11 (loopC 11 3) S11_3 p s
theorem st11_3_e (pd0:D) (sn0:Int) (sn1:Int):st11_3 [pd0] [(D.int sn0),(D.int sn1)] =
 let y0:=qiteB (qcmp .lss sn1 (qlen (qfld pd0 1))) (qcmp .gtr sn0 0) false
 let y1:=qbin .quo .i64 (qlen (qfld (qget (qfld pd0 1) sn1) 2)) 64
 bif y0 then gd (qinb (qfld pd0 1) sn1)<|ge pd0<|some (Sum.inl [.int (qbin .sub .i64 sn0 y1),.int (qbin .add .i64 sn1 1)])else ge pd0<|some (Sum.inr [.int 0,.int sn0]):=by kernel_rfl
def st11_3_eq:=by have h:= @st11_3_e;simp only[ge_id,gd,qeqD_self,qeqI_self,qeqB_self,qand_tt,qeq_len,qeq_l,cond_true]at h;exact h
def l11_3:List D→List D→Option (List D):=veil fun p s=>loW (st11_3 p) s
theorem l11_3_eq:l11_3=fun p s=>loW (st11_3 p) s:=veil_eq _
def tbl11_3:Tb:=Tb.addL tb30 11 3 S11_3.n0 (mkLp S11_3 (l11_3))
theorem ok_tbl11_3:TbOk env (tbl11_3):=addLoopQ ok_tb30 11 3 (by kernel_rfl) _ (l11_3_eq)
def S11_7:LoopS:=⟨0,[uF,⟨false,(.ptr 0 0)⟩,⟨false,(.lit (.bool false))⟩,⟨true,(.int .i64)⟩,uF,⟨true,(.int .i64)⟩,uF,uF,uF,uF,uF,uF,uF,uF,uF,uF,uF,uF,uF,uF,uF,uF,uF,uF,uF,uF,uF,uF,uF,uF,uF,uF,uF,uF,uF,uF,uF,uF,uF,uF,uF,uF,uF,uF,uF,uF,uF,uF,uF,uF,uF,uF,uF,uF,uF,uF,uF,uF,uF,uF,uF,uF,uF,uF,uF,uF,uF,uF],[(.dat false 33)],[⟨0,2,[uT,uT,⟨true,(.lit (.bool false))⟩,⟨true,(.int .i64)⟩,uT,uT,uT,uT,uT,uT,uT,uT,uT,uT,uT,uT,uT,uT,uT,uT,uT,uT,uT,uT,uT,uT,uT,uT,uT,uT,uT,uT,uT,uT,uT,uT,uT,uT,uT,uT,uT,uT,uT,uT,uT,uT,uT,uT,uT,uT,uT,uT,uT,uT,uT,uT,uT,uT,uT,uT,uT,uT,uT,uT,uT,uT,uT,uT],[(.dat false 33)]⟩]⟩
def st11_7 (p s:List D):Option (Sum (List D) (List D)):=stepQX env tbl11_3 60 12 11 (loopC 11 7) S11_7 p s
theorem st11_7_e (pd0:D) (sn0:Int) (sn1:Int):st11_7 [pd0] [(D.int sn0),(D.int sn1)] =
 let y0:=qiteB (qcmp .lss sn1 (qlen (qfld pd0 2))) (qcmp .gtr sn0 0) false
 let y1:=qbin .sub .i64 sn0 (qlen (qfld (qget (qfld pd0 2) sn1) 1))
 let y2:=q30 [(qfld (qget (qfld pd0 2) sn1) 2),(.int y1)]
 let x0:=qinb (qfld pd0 2) sn1
 bif y0 then gd x0<|gd x0<|gd (qsome y2)<|ge pd0<|some (Sum.inl [.int (qint (qnth y2 0)),.int (qbin .add .i64 sn1 1)])else ge pd0<|some (Sum.inr [.int 0,.int sn0]):=by kernel_rfl
def st11_7_eq:=by have h:= @st11_7_e;simp only[ge_id,gd,qeqD_self,qeqI_self,qeqB_self,qand_tt,qeq_len,qeq_l,cond_true]at h;exact h
def l11_7:List D→List D→Option (List D):=veil fun p s=>loW (st11_7 p) s
theorem l11_7_eq:l11_7=fun p s=>loW (st11_7 p) s:=veil_eq _
def tbl11_7:Tb:=Tb.addL tbl11_3 11 7 S11_7.n0 (mkLp S11_7 (l11_7))
theorem ok_tbl11_7:TbOk env (tbl11_7):=addLoopQ ok_tbl11_3 11 7 (by kernel_rfl) _ (l11_7_eq)
def S11:FunS:=⟨[⟨true,(.dat 33)⟩],[],[⟨true, .bool⟩],[]⟩
def F11:List D→Option (List D):=liftX env tbl11_7 60 12 11 S11
theorem F11_e (sd0:D):F11 [sd0] =
 let y0:=qbin .sub .i64 (qbin .sub .i64 1500 (qlen (qfld sd0 0))) (qlen (qfld sd0 2))
 let y1:=l11_3 [sd0] [(.int (qbin .sub .i64 y0 (qlen (qfld sd0 1)))),(.int 0)]
 let y2:=l11_7 [sd0] [(.int (qint (qnth y1 1))),(.int 0)]
 gd (qsome y1)<|gd (qsome y2)<|some [.bool (qcmp .leq (qint (qnth y2 1)) 0)]:=by kernel_rfl
def F11_eq:=by have h:= @F11_e;simp only[ge_id,gd,qeqD_self,qeqI_self,qeqB_self,qand_tt,qeq_len,qeq_l,cond_true]at h;exact h
def q11:List D→Option (List D):=veil (F11)
theorem q11_eq:q11=F11:=veil_eq _
def tb11:Tb:=Tb.addF tbl11_7 11 S11 (q11)
theorem ok_tb11:TbOk env (tb11):=addFunF ok_tbl11_7 11 (by kernel_rfl) _ (q11_eq)
end
end Go.Proofs.YteccopaonadbeaaGreatDoor
namespace Go.Proofs.YteccopaonadbeaaGreatDoor
open Go Go.AM
def S64:FunS:=⟨[⟨true,(.rows 5)⟩],[],[⟨true,(.osl 0 5)⟩],[(.lst true 5)]⟩
theorem run64n (c:Nat):bodyK (envF env tb11 64) (runTb env tb11 60 12) 60 64 [.sc (.slice none 0 c)] (heapF S64 [] []) (retF S64 [])=some [.list []]:=by
 have h:bodyK (envF env tb11 64) (runTb env tb11 60 12) 60 64 [.sc (.slice none 0 c)] (heapF S64 [] []) (retF S64 [])=bif qcmp BinOp.eql 0 (qlen (D.list []))then some [.list []]else none:=by kernel_rfl
 rw[h,show qcmp BinOp.eql 0 (qlen (D.list []))=true from qeq_len []];rfl
theorem run64z (d:D):bodyK (envF env tb11 64) (runTb env tb11 60 12) 60 64 [.rowz 5 d] (heapF S64 [] []) (retF S64 []) =
 bif qmem (qlen (qapp (D.list []) d)) 1 then(bif (qcmp BinOp.eql (qlen (qapp (D.list []) d)) (qlen (qapp (D.list []) d)))then some [qapp (D.list []) d]else none)else none:=by kernel_rfl
noncomputable def F64 (ds:List D):Option (List D):=bif qmem (qlen (qapp (D.list []) (ds.headD .other))) 1 then some [qapp (D.list []) (ds.headD .other)]else none
noncomputable def q64:List D→Option (List D):=veil F64
theorem q64_eq:q64=F64:=veil_eq _
theorem sound64:SoundF env.P 64 S64 q64:=by
 intro p s r hp hq lo w0 ρ E w vs inv ra
 obtain rfl:p = []:=List.length_eq_zero_iff.1 hp
 have ha:argF S64 [] s = [.rows 5 (s.headD .other)]:=by
  cases s<;>rfl
 have hh:heapF S64 [] s=heapF S64 [] []:=rfl
 rw[q64_eq]at hq
 unfold F64 at hq
 simp only[List.nil_append]at hq
 rw[ha]at ra
 generalize hd:s.headD .other=d at *
 cases hm:qmem (qlen (qapp (D.list []) d)) 1 with
 |false=>rw[hm]at hq;cases hq
 |true=>
  rw[hm]at hq
  simp only[cond_true,Option.some.injEq]at hq
  subst hq
  rw[hh]at inv
  generalize hvs:vs.toList=vl at ra
  obtain⟨v,vl',rfl,rv,hn⟩:∃v vs',vl=v::vs'∧Rep ρ E w (AV.rows 5 d) v∧vs' = []:=by simpa only[RepL]using ra
  ·subst hn
   simp only[Rep]at rv
   obtain⟨a,cap,rfl,hc,hx⟩:=id rv
   cases a with
   |none=>
    have he:d.toList = []:=by
     rcases hx with h|⟨_,_,h,_⟩
     ·exact h
     ·cases h
    have he':qapp (D.list []) d = .list []:=by rw[qapp_eq];unfold D.app;rw[he];rfl
    rw[he']
    refine lift_ok (av:=[.sc (.slice none 0 cap)]) envOk ok_tb11 60 12 (run64n cap) rfl lo w0 ρ E w vs inv ?_
    rw[hvs,he]
    simp[RepL,Rep]
   |some a=>
    refine lift_ok (av:=[.rowz 5 d]) envOk ok_tb11 60 12 (p:=[]) (r:=[qapp (D.list []) d]) (S:=S64) (by rw[run64z,hm,qeqI_self];rfl) rfl lo w0 ρ E w vs inv ?_
    rw[hvs]
    simp only[RepL]
    exact⟨_,_,rfl,by simp only[Rep];exact⟨rv,_,_,_,rfl⟩,rfl⟩
noncomputable def tb64:Tb:=Tb.addF tb11 64 S64 q64
theorem ok_tb64:TbOk env tb64:=TbOk.addF ok_tb11 (by kernel_rfl) sound64
end Go.Proofs.YteccopaonadbeaaGreatDoor
open Go Go.AM
namespace Go.Proofs.YteccopaonadbeaaGreatDoor
noncomputable section
set_option maxRecDepth 100000
set_option linter.unusedSimpArgs false
set_option linter.unusedVariables false
set_option linter.defProp false
def tbz26:Tb:=Tb.addF tb64 26 S26 q26
theorem ok_tbz26:TbOk env tbz26:=TbOk.addF ok_tb64 (by kernel_rfl) (by rw[q26_eq];exact liftX_sound envOk ok_tbl26_22 60 12)
def S31_9:LoopS:=⟨0,[uF,uF,⟨false,(.lit (.pointer none))⟩,⟨false,(.ptr 0 0)⟩,uF,uF,uF,uF,uF,uF,uF,uF,uF,uF,uF,uF,uF,uF,uF,uF,uF,uF,uF,uF,uF,uF,uF,uF,uF,uF,uF,uF,uF,⟨false,(.rows 48)⟩,⟨false,(.int .i64)⟩,⟨true,(.int .i64)⟩,uF,uF,uF,uF,uF,uF,uF,uF,uF,uF,uF,uF,uF,uF,uF,uF,uF,uF,uF,uF,uF,uF],[(.lst true 48),(.cells [⟨false,(.osl 1 48)⟩,⟨false,(.rows 133)⟩,⟨false,(.rows 48)⟩,⟨false,(.rows 61)⟩,⟨false,(.lit (.int .u32 0))⟩,⟨false,(.lit (.int .u32 0))⟩,⟨false,(.int .i64)⟩])],[⟨0,0,[uT,uT,⟨true,(.lit (.pointer none))⟩,⟨true,(.ptr 0 0)⟩,uT,uT,uT,uT,uT,uT,uT,uT,uT,uT,uT,uT,uT,uT,uT,uT,uT,uT,uT,uT,uT,uT,uT,uT,uT,uT,uT,uT,uT,⟨false,(.rows 48)⟩,⟨false,(.int .i64)⟩,uT,uT,uT,uT,uT,uT,uT,uT,uT,uT,uT,uT,uT,uT,uT,uT,uT,uT,uT,uT,uT,uT,uT],[(.lst true 48),(.cells [⟨true,(.osl 1 48)⟩,⟨false,(.rows 133)⟩,⟨false,(.rows 48)⟩,⟨false,(.rows 61)⟩,⟨true,(.lit (.int .u32 0))⟩,⟨true,(.lit (.int .u32 0))⟩,⟨false,(.int .i64)⟩])]⟩]⟩
def st31_9 (p s:List D):Option (Sum (List D) (List D)):=stepQX env tbz26 60 12 31 (loopC 31 9) S31_9 p s
theorem st31_9_e (pd0:D) (pn1:Int) (pd2:D) (pd3:D) (pd4:D) (pn5:Int) (sn0:Int) (sd1:D):st31_9 [pd0,(D.int pn1),pd2,pd3,pd4,(D.int pn5)] [(D.int sn0),sd1] =
 let y0:=q64 [(qfld (qget pd0 sn0) 2)]
 let y1:=qapp sd1 (.list [(.agg [(.str (qstr (qfld (qget pd0 sn0) 0))),(.int (qint (qfld (qget pd0 sn0) 1))),(qnth y0 0),(.bool (qbool (qfld (qget pd0 sn0) 3))),(.bool false)])])
 let x0:=qcmp .eql (qlen sd1) (qlen sd1)
 let x1:=qlen (qnth y0 0)
 let x2:=qlen y1
 bif qcmp .lss sn0 pn1 then gd (qinb pd0 sn0)<|gd (qsome y0)<|gd x0<|gd (qcmp .eql x1 x1)<|gd (qmem x2 56)<|gd (qcmp .eql x2 x2)<|ge pd0<|ge (.int pn1)<|ge pd2<|ge pd3<|ge pd4<|ge (.int pn5)<|some (Sum.inl [.int (qbin .add .i64 sn0 1),y1])else gd x0<|ge pd0<|ge (.int pn1)<|ge pd2<|ge pd3<|ge pd4<|ge (.int pn5)<|some (Sum.inr [.int 0,sd1]):=by kernel_rfl
def st31_9_eq:=by have h:= @st31_9_e;simp only[ge_id,gd,qeqD_self,qeqI_self,qeqB_self,qand_tt,qeq_len,qeq_l,cond_true]at h;exact h
def l31_9:List D→List D→Option (List D):=veil fun p s=>loW (st31_9 p) s
theorem l31_9_eq:l31_9=fun p s=>loW (st31_9 p) s:=veil_eq _
def tbl31_9:Tb:=Tb.addL tbz26 31 9 S31_9.n0 (mkLp S31_9 (l31_9))
theorem ok_tbl31_9:TbOk env (tbl31_9):=addLoopQ ok_tbz26 31 9 (by kernel_rfl) _ (l31_9_eq)
def S31:FunS:=⟨[⟨true,(.dat 33)⟩],[],[⟨true,(.ptr 0 0)⟩],[(.lst true 48),(.cells [⟨true,(.osl 1 48)⟩,⟨true,(.rows 133)⟩,⟨true,(.rows 48)⟩,⟨true,(.rows 61)⟩,⟨true,(.lit (.int .u32 0))⟩,⟨true,(.lit (.int .u32 0))⟩,⟨true,(.int .i64)⟩])]⟩
def F31:List D→Option (List D):=liftX env tbl31_9 60 12 31 S31
theorem F31_e (sd0:D):F31 [sd0] =
 let y0:=qcmp .neq (qint (qnth (q26 [sd0]) 0)) 0
 let y1:=qsome (q16 [(qfld sd0 1)])
 let y2:=qnth (q16 [(qfld sd0 1)]) 0
 let y3:=l31_9 [(qfld sd0 1),(.int (qlen (qfld sd0 1))),(qfld sd0 0),(qfld sd0 1),(qfld sd0 2),(.int (qint y2))] [(.int 0),(.list [])]
 let x0:=q26 [sd0]
 let x1:=D.list []
 let x2:=qcmp .eql 0 (qlen x1)
 let x3:=qfld sd0 0
 let x4:=qfld sd0 1
 let x5:=qfld sd0 2
 gd (qsome x0)<|bif y0 then gd x2<|some [x1,x3,x4,x5,.int (qint (qnth x0 0))]else gd y1<|bif qcmp .neq (qint y2) 0 then gd x2<|some [x1,x3,x4,x5,.int (qint y2)]else gd x2<|gd (qsome y3)<|gd (qcmp .eql (qlen (qnth y3 1)) (qlen (qnth y3 1)))<|some [qnth y3 1,x3,x4,x5,.int (qint y2)]:=by kernel_rfl
def F31_eq:=by have h:= @F31_e;simp only[ge_id,gd,qeqD_self,qeqI_self,qeqB_self,qand_tt,qeq_len,qeq_l,cond_true]at h;exact h
def q31:List D→Option (List D):=veil (F31)
theorem q31_eq:q31=F31:=veil_eq _
def tb31:Tb:=Tb.addF tbl31_9 31 S31 (q31)
theorem ok_tb31:TbOk env (tb31):=addFunF ok_tbl31_9 31 (by kernel_rfl) _ (q31_eq)
end
end Go.Proofs.YteccopaonadbeaaGreatDoor
open Go Go.AM
namespace Go.Proofs.YteccopaonadbeaaGreatDoor
set_option maxRecDepth 100000
set_option linter.unusedSimpArgs false
set_option linter.unusedVariables false
set_option linter.defProp false
def S19:FunS:=⟨[⟨true,(.dat 33)⟩],[],[⟨true,(.tup [(.osl 0 48),(.int .i64)])⟩],[(.lst true 48)]⟩
noncomputable def F19:List D→Option (List D):=liftX env tb31 60 12 19 S19
theorem F19_e (sd0:D):F19 [sd0] =
 let y0:=qcmp .neq (qint (qnth (q31 [sd0]) 4)) 0
 let y1:=qcmp .eql (qlen (qnth (q31 [sd0]) 0)) (qlen (qnth (q31 [sd0]) 0))
 let x0:=q31 [sd0]
 gd (qsome x0)<|bif y0 then gd (qcmp .eql 0 (qlen (.list [])))<|some [.int (qint (qnth x0 4)),.list []]else gd y1<|some [.int 0,qnth x0 0]:=by kernel_rfl
def F19_eq:=by have h:= @F19_e;simp only[ge_id,gd,qeqD_self,qeqI_self,qeqB_self,qand_tt,qeq_len,qeq_l,cond_true]at h;exact h
noncomputable def q19:List D→Option (List D):=veil (F19)
theorem q19_eq:q19=F19:=veil_eq _
noncomputable def tb19:Tb:=Tb.addF tb31 19 S19 (q19)
theorem ok_tb19:TbOk env (tb19):=addFunF ok_tb31 19 (by kernel_rfl) _ (q19_eq)
end Go.Proofs.YteccopaonadbeaaGreatDoor
namespace Go.Proofs.YteccopaonadbeaaGreatDoor
open Go Go.AM
set_option maxRecDepth 100000
noncomputable def env2:Env:={env with fn:=fun f=>bif f==37||(f==65||f==35)then none else env.fn f}
theorem fn2 {f:FuncId} {F:FnA} (h:env2.fn f=some F):env.fn f=some F:=by
 have h':(bif f==37||(f==65||f==35)then none else env.fn f)=some F:=h
 cases hf:(f==37||(f==65||f==35))with
 |true=>rw[hf]at h';cases h'
 |false=>rw[hf]at h';exact h'
theorem fn2' {f:FuncId} {F:FnA} (hf:f≠37) (hf':f≠65) (hf2:f≠35) (h:env.fn f=some F):env2.fn f=some F:=by
 show(bif f==37||(f==65||f==35)then none else env.fn f)=some F
 have:(f==37||(f==65||f==35))=false:=by simp[hf,hf',hf2]
 rw[this];exact h
theorem envOk2:EnvOk env2:=fun f F h=>envOk f F (fn2 h)
theorem t37:∀args H,tb19.T 37 args H=none:=fun _ _=>by kernel_rfl
theorem t65:∀args H,tb19.T 65 args H=none:=fun _ _=>by kernel_rfl
theorem t35:∀args H,tb19.T 35 args H=none:=fun _ _=>by kernel_rfl
theorem ok2_tb19:TbOk env2 tb19:=⟨ok_tb19.t,fun f F x n0 g hF=>ok_tb19.l f F x n0 g (fn2 hF),fun f args H p h=>by
 obtain⟨F,hF⟩:=ok_tb19.h f args H p h
 refine⟨F,fn2' (fun e=> ?_) (fun e=> ?_) (fun e=> ?_) hF⟩
 ·subst e;rw[t37]at h;cases h
 ·subst e;rw[t65]at h;cases h
 ·subst e;rw[t35]at h;cases h⟩
theorem addFunF2 {tb:Tb} (h:TbOk env2 tb) (f:Nat) (hF:(env2.fn f).isSome=true) (S:FunS) {q:List D→Option (List D)} (hq:q=liftX env2 tb 60 12 f S):TbOk env2 (tb.addF f S q):=
 h.addF hF (by rw[hq];exact liftX_sound envOk2 h 60 12)
end Go.Proofs.YteccopaonadbeaaGreatDoor
open Go Go.AM
namespace Go.Proofs.YteccopaonadbeaaGreatDoor
noncomputable section
set_option maxRecDepth 100000
set_option linter.unusedSimpArgs false
set_option linter.unusedVariables false
set_option linter.defProp false
def tb19y:Tb:=tb19
theorem ok_tb19y:TbOk env2 tb19y:=ok2_tb19
def S33:FunS:=⟨[⟨true,(.ptr 0 0)⟩],[(.lst false 48),(.cells [⟨false,(.osl 1 48)⟩,⟨false,(.rows 133)⟩,⟨false,(.rows 48)⟩,⟨false,(.rows 61)⟩,⟨false,(.int .u32)⟩,⟨false,(.int .u32)⟩,⟨false,(.int .i64)⟩])],[⟨true,(.tup [])⟩],[(.lst false 48),(.cells [⟨true,(.osl 1 48)⟩,⟨false,(.rows 133)⟩,⟨false,(.rows 48)⟩,⟨false,(.rows 61)⟩,⟨false,(.int .u32)⟩,⟨false,(.int .u32)⟩,⟨false,(.int .i64)⟩])]⟩
def F33:List D→Option (List D):=liftX env2 tb19y 60 12 33 S33
theorem F33_e (pd0:D) (pd1:D) (pd2:D) (pd3:D) (pn4:Int) (pn5:Int) (pn6:Int):F33 [pd0,pd1,pd2,pd3,(D.int pn4),(D.int pn5),(D.int pn6)] =
 (bif qcmp .eql pn6 0 then none else gd (qcmp .eql (qlen pd0) (qlen pd0))<|ge pd0<|ge pd1<|ge pd2<|ge pd3<|ge (.int pn4)<|ge (.int pn5)<|ge (.int pn6)<|some []):=by kernel_rfl
def F33_eq:=by have h:= @F33_e;simp only[ge_id,gd,qeqD_self,qeqI_self,qeqB_self,qand_tt,qeq_len,qeq_l,cond_true]at h;exact h
def q33:List D→Option (List D):=veil (F33)
theorem q33_eq:q33=F33:=veil_eq _
def tb33:Tb:=Tb.addF tb19y 33 S33 (q33)
theorem ok_tb33:TbOk env2 (tb33):=addFunF2 ok_tb19y 33 (by kernel_rfl) _ (q33_eq)
def S34:FunS:=⟨[⟨true,(.ptr 0 0)⟩],[(.lst false 48),(.cells [⟨false,(.osl 1 48)⟩,⟨false,(.rows 133)⟩,⟨false,(.rows 48)⟩,⟨false,(.rows 61)⟩,⟨false,(.int .u32)⟩,⟨false,(.int .u32)⟩,⟨false,(.int .i64)⟩])],[⟨true,(.tup [])⟩],[(.lst false 48),(.cells [⟨true,(.osl 1 48)⟩,⟨false,(.rows 133)⟩,⟨false,(.rows 48)⟩,⟨false,(.rows 61)⟩,⟨false,(.int .u32)⟩,⟨false,(.int .u32)⟩,⟨false,(.int .i64)⟩])]⟩
def F34:List D→Option (List D):=liftX env2 tb33 60 12 34 S34
theorem F34_e (pd0:D) (pd1:D) (pd2:D) (pd3:D) (pn4:Int) (pn5:Int) (pn6:Int):F34 [pd0,pd1,pd2,pd3,(D.int pn4),(D.int pn5),(D.int pn6)] =
 (bif qcmp .eql pn6 0 then none else gd (qcmp .eql (qlen pd0) (qlen pd0))<|ge pd0<|ge pd1<|ge pd2<|ge pd3<|ge (.int pn4)<|ge (.int pn5)<|ge (.int pn6)<|some []):=by kernel_rfl
def F34_eq:=by have h:= @F34_e;simp only[ge_id,gd,qeqD_self,qeqI_self,qeqB_self,qand_tt,qeq_len,qeq_l,cond_true]at h;exact h
def q34:List D→Option (List D):=veil (F34)
theorem q34_eq:q34=F34:=veil_eq _
def tb34:Tb:=Tb.addF tb33 34 S34 (q34)
theorem ok_tb34:TbOk env2 (tb34):=addFunF2 ok_tb33 34 (by kernel_rfl) _ (q34_eq)
def S21:FunS:=⟨[⟨true,(.dat 33)⟩],[],[⟨true,(.tup [(.int .u32),(.int .i64)])⟩],[]⟩
def F21:List D→Option (List D):=liftX env2 tb34 60 12 21 S21
theorem F21_e (sd0:D):F21 [sd0] =
 let y0:=qcmp .eql (qlen (qnth (q31 [sd0]) 0)) (qlen (qnth (q31 [sd0]) 0))
 let y1:=q33 [(qnth (q31 [sd0]) 0),(qnth (q31 [sd0]) 1),(qnth (q31 [sd0]) 2),(qnth (q31 [sd0]) 3),(.int 0),(.int 0),(.int (qint (qnth (q31 [sd0]) 4)))]
 let y2:=qcmp .neq (qint (qnth (q31 [sd0]) 4)) 0
 let x0:=q31 [sd0]
 let x1:=D.int 0
 gd (qsome x0)<|gd y0<|gd (qsome y1)<|bif y2 then some [x1,.int (qint (qnth x0 4))]else some [x1,x1]:=by kernel_rfl
def F21_eq:=by have h:= @F21_e;simp only[ge_id,gd,qeqD_self,qeqI_self,qeqB_self,qand_tt,qeq_len,qeq_l,cond_true]at h;exact h
def q21:List D→Option (List D):=veil (F21)
theorem q21_eq:q21=F21:=veil_eq _
def tb21:Tb:=Tb.addF tb34 21 S21 (q21)
theorem ok_tb21:TbOk env2 (tb21):=addFunF2 ok_tb34 21 (by kernel_rfl) _ (q21_eq)
def S23:FunS:=⟨[⟨true,(.dat 33)⟩],[],[⟨true,(.tup [(.int .u32),(.int .i64)])⟩],[]⟩
def F23:List D→Option (List D):=liftX env2 tb21 60 12 23 S23
theorem F23_e (sd0:D):F23 [sd0] =
 let y0:=qcmp .eql (qlen (qnth (q31 [sd0]) 0)) (qlen (qnth (q31 [sd0]) 0))
 let y1:=q33 [(qnth (q31 [sd0]) 0),(qnth (q31 [sd0]) 1),(qnth (q31 [sd0]) 2),(qnth (q31 [sd0]) 3),(.int 0),(.int 0),(.int (qint (qnth (q31 [sd0]) 4)))]
 let y2:=q34 [(qnth (q31 [sd0]) 0),(qnth (q31 [sd0]) 1),(qnth (q31 [sd0]) 2),(qnth (q31 [sd0]) 3),(.int 0),(.int 0),(.int (qint (qnth (q31 [sd0]) 4)))]
 let y3:=qcmp .neq (qint (qnth (q31 [sd0]) 4)) 0
 let x0:=q31 [sd0]
 let x1:=D.int 0
 gd (qsome x0)<|gd y0<|gd (qsome y1)<|gd y0<|gd (qsome y2)<|bif y3 then some [x1,.int (qint (qnth x0 4))]else some [x1,x1]:=by kernel_rfl
def F23_eq:=by have h:= @F23_e;simp only[ge_id,gd,qeqD_self,qeqI_self,qeqB_self,qand_tt,qeq_len,qeq_l,cond_true]at h;exact h
def q23:List D→Option (List D):=veil (F23)
theorem q23_eq:q23=F23:=veil_eq _
def tb23:Tb:=Tb.addF tb21 23 S23 (q23)
theorem ok_tb23:TbOk env2 (tb23):=addFunF2 ok_tb21 23 (by kernel_rfl) _ (q23_eq)
end
end Go.Proofs.YteccopaonadbeaaGreatDoor
open Go Go.AM
namespace Go.Proofs.YteccopaonadbeaaGreatDoor
set_option maxRecDepth 100000
set_option linter.unusedSimpArgs false
set_option linter.unusedVariables false
set_option linter.defProp false
def S12:FunS:=⟨[⟨true,(.dat 33)⟩],[],[⟨true,(.tup [(.dat 38),(.int .i64)])⟩],[]⟩
noncomputable def F12:List D→Option (List D):=liftD env2 tb23 60 12 12 S12
theorem F12_e (sd0:D):F12 [sd0] =
 let y0:=qcmp .eql (qlen (qnth (q31 [sd0]) 0)) (qlen (qnth (q31 [sd0]) 0))
 let y1:=q33 [(qnth (q31 [sd0]) 0),(qnth (q31 [sd0]) 1),(qnth (q31 [sd0]) 2),(qnth (q31 [sd0]) 3),(.int 0),(.int 0),(.int (qint (qnth (q31 [sd0]) 4)))]
 let y2:=q34 [(qnth (q31 [sd0]) 0),(qnth (q31 [sd0]) 1),(qnth (q31 [sd0]) 2),(qnth (q31 [sd0]) 3),(.int 0),(.int 0),(.int (qint (qnth (q31 [sd0]) 4)))]
 let y3:=qcmp .neq (qint (qnth (q31 [sd0]) 4)) 0
 let x0:=q31 [sd0]
 let x1:=D.list []
 let x2:=D.agg [.int 0,x1,x1,x1]
 gd (qsome x0)<|gd y0<|gd (qsome y1)<|gd y0<|gd (qsome y2)<|gd y3<|bif y3 then some [x2,.int (qint (qnth x0 4))]else some [x2,.int 0]:=by kernel_rfl
def F12_eq:=by have h:= @F12_e;simp only[ge_id,gd,qeqD_self,qeqI_self,qeqB_self,qand_tt,qeq_len,qeq_l,cond_true]at h;exact h
noncomputable def q12:List D→Option (List D):=veil F12
theorem q12_eq:q12=F12:=veil_eq _
theorem sound12:SoundF env.P 12 S12 q12:=by rw[q12_eq];exact liftD_sound envOk2 ok_tb23 60 12
noncomputable def tb12:Tb:=Tb.addF tb23 12 S12 q12
theorem ok_tb12:TbOk env2 tb12:=TbOk.addF ok_tb23 (by kernel_rfl) sound12
end Go.Proofs.YteccopaonadbeaaGreatDoor
open Go Go.AM
namespace Go.Proofs.YteccopaonadbeaaGreatDoor
set_option maxRecDepth 100000
set_option linter.unusedSimpArgs false
set_option linter.unusedVariables false
set_option linter.defProp false
noncomputable def tb10:Tb:=Tb.addF tb12 10 S10 q10
theorem ok_tb10:TbOk env2 tb10:=TbOk.addF ok_tb12 (by kernel_rfl) sound10
def S7:FunS:=⟨[⟨true,(.dat 33)⟩],[],[⟨true, .bool⟩],[]⟩
noncomputable def F7:List D→Option (List D):=liftX env2 tb10 60 12 7 S7
theorem F7_e (sd0:D):F7 [sd0] =
 let y0:=qbool (qnth (q11 [sd0]) 0)
 let y1:=qcmp .eql (qint (qnth (q26 [sd0]) 0)) 0
 let y2:=qsome (q16 [(qfld sd0 1)])
 let y3:=qnth (q16 [(qfld sd0 1)]) 0
 let y4:=qiteI y1 (qint y3) (qint (qnth (q26 [sd0]) 0))
 let y5:=qcmp .neq (qint (qnth (q19 [sd0]) 0)) y4
 let y6:=qcmp .eql (qint (qnth (q19 [sd0]) 0)) 0
 let y7:=qcmp .eql (qint (qnth (q21 [sd0]) 1)) (qint (qnth (q19 [sd0]) 0))
 let y8:=qcmp .eql (qint (qnth (q23 [sd0]) 1)) (qint (qnth (q19 [sd0]) 0))
 let y9:=qcmp .eql (qint (qnth (q12 [sd0]) 1)) (qint (qnth (q19 [sd0]) 0))
 let y10:=qiteB (qiteB (qiteB y7 y8 false) y9 false) (qsome (q10 [])) true
 let y11:=qiteB (qiteB (qiteB y7 y8 false) y9 false) (qbool (qnth (q10 []) 0)) false
 let x0:=[sd0]
 let x1:=q10 []
 let x2:Option (List D):=gd (qsome x1)<|some [.bool (qbool (qnth x1 0))]
 gd (qsome (q11 x0))<|bif y0 then x2 else gd (qsome (q26 x0))<|gd (qiteB y1 y2 true)<|gd (qsome (q19 x0))<|bif y5 then some [.bool false]else bif y6 then x2 else gd (qsome (q21 x0))<|gd (qsome (q23 x0))<|gd (qsome (q12 x0))<|gd y10<|some [.bool y11]:=by kernel_rfl
def F7_eq:=by have h:= @F7_e;simp only[ge_id,gd,qeqD_self,qeqI_self,qeqB_self,qand_tt,qeq_len,qeq_l,cond_true]at h;exact h
noncomputable def q7:List D→Option (List D):=veil (F7)
theorem q7_eq:q7=F7:=veil_eq _
end Go.Proofs.YteccopaonadbeaaGreatDoor
