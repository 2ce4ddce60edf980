/-
  The fixed example 'exampleHolds' of law04, run in the kernel over the library's contracts of Index and Count.
-/
import Derived.Test.YtobhhfbdelnhfaaGreatDoorM1
import Derived.KernelRfl
set_option linter.unusedVariables false
set_option linter.unusedSimpArgs false
namespace Go.Proofs.YtobhhfbdelnhfaaGreatDoor
open Go Go.AM
set_option maxRecDepth 100000
theorem indexSaid137:IndexSaid Tryz.prog 137 1:=fun s sub m w hs hm=>Tryz.stringslite_Index s sub m w hs hm
theorem countSaid121:CountSaid Tryz.prog 121:=fun s c w=>Tryz.strings_Count_one s c w
noncomputable def tbX:Tb:=(Tb.nil.add 137 (idxC 1) (fun _ _=>[])).add 121 cntC (fun _ _=>[])
noncomputable def envX:Env:={P:=Tryz.prog,fn:=fun f=>(Tryz.prog.funcs[f]?).bind fun fn=>fn.body.map fun c=>⟨c,fn.ntmps,fn.results.toList⟩,isPure:=fun f=> !([37,41,65,66,67,68,76,105,106,107,110,111,134,122,123,124,125,17,139,49,96,130].elem f),isFrz:=fun _=>false,clr:=false,pre:=tbX.O,lp:=fun _ _=>none,n0:=0}
theorem envXOk:EnvOk envX:=by
 intro f F h
 refine envOk f F ?_
 rw[envFn]
 exact h
theorem tbXOk:TbOk envX tbX:=(TbOk.nil.add (by kernel_rfl) fun args H v H' h _=>idxC_ok indexSaid137 args H v H' h).add (by kernel_rfl) fun args H v H' h _=>cntC_ok countSaid121 args H v H' h
def S10:FunS:=⟨[],[],[⟨true, .bool⟩],[]⟩
theorem ex10:liftC envX tbX (runF envX tbX 5000 5000).d 10 S10 []=some [.bool true]:=by kernel_rfl
noncomputable def q10:List D→Option (List D):=veil fun ds=>liftC envX tbX (runF envX tbX 5000 5000).d 10 S10 ds
theorem q10_eq:q10 []=some [.bool true]:=by unfold q10;rw[veil_eq];exact ex10
theorem sound10:SoundF env.P 10 S10 q10:=by
 unfold q10;rw[veil_eq]
 exact liftC_sound envX tbX (runF_sound envXOk (fun _ _=>rfl) rfl tbXOk 5000 5000)
end Go.Proofs.YtobhhfbdelnhfaaGreatDoor
open Go Go.AM
namespace Go.Proofs.YtobhhfbdelnhfaaGreatDoor
set_option maxRecDepth 100000
set_option linter.unusedSimpArgs false
set_option linter.unusedVariables false
set_option linter.defProp false
end Go.Proofs.YtobhhfbdelnhfaaGreatDoor
open Go Go.AM
namespace Go.Proofs.YtobhhfbdelnhfaaGreatDoor
noncomputable section
set_option maxRecDepth 100000
set_option linter.unusedSimpArgs false
set_option linter.unusedVariables false
set_option linter.defProp false
def S49_5:LoopS:=⟨0,[uF,⟨false,(.int .u32)⟩,uF,uF,uF,uF,⟨false,(.lit (.slice none 0 0))⟩,⟨false,(.osl 0 5)⟩,uF,uF,uF,uF,uF,uF,uF,⟨false,(.int .i64)⟩,⟨true,(.int .i64)⟩,uF,uF,uF,uF,uF,uF,uF,uF,uF,uF,uF,uF],[(.lst true 5)],[⟨0,0,[uT,⟨false,(.int .u32)⟩,uT,uT,uT,uT,⟨true,(.lit (.slice none 0 0))⟩,⟨true,(.osl 0 5)⟩,uT,uT,uT,uT,uT,uT,uT,⟨false,(.int .i64)⟩,uT,uT,uT,uT,uT,uT,uT,uT,uT,uT,uT,uT,uT],[(.lst true 5)]⟩]⟩
def st49_5 (p s:List D):Option (Sum (List D) (List D)):=stepQX env tb130 60 12 49 (loopC 49 5) S49_5 p s
theorem st49_5_e (pn0:Int) (pn1:Int) (sn0:Int) (sd1:D):st49_5 [(D.int pn0),(D.int pn1)] [(D.int sn0),sd1] =
 let x0:=qbin .mul .i64 8 sn0
 let x1:=qcmp .eql (qlen sd1) (qlen sd1)
 let x2:=qapp sd1 (.list [.int (qwrap .u8 (qbin .shr .u32 pn0 x0))])
 let x3:=qlen x2
 bif qcmp .lss sn0 pn1 then gd (qcmp .geq x0 0)<|gd x1<|gd (qmem x3 1)<|gd (qcmp .eql x3 x3)<|ge (.int pn0)<|ge (.int pn1)<|some (Sum.inl [.int (qbin .add .i64 sn0 1),x2])else gd x1<|ge (.int pn0)<|ge (.int pn1)<|some (Sum.inr [.int 0,sd1]):=by kernel_rfl
def st49_5_eq:=by have h:= @st49_5_e;simp only[ge_id,gd,qeqD_self,qeqI_self,qeq_len,qeq_l,cond_true]at h;exact h
def l49_5:List D→List D→Option (List D):=veil fun p s=>loW (st49_5 p) s
theorem l49_5_eq:l49_5=fun p s=>loW (st49_5 p) s:=veil_eq _
def tbl49_5:Tb:=Tb.addL tb130 49 5 S49_5.n0 (mkLp S49_5 (l49_5))
theorem ok_tbl49_5:TbOk env (tbl49_5):=addLoopQ ok_tb130 49 5 (by kernel_rfl) _ (l49_5_eq)
def S49:FunS:=⟨[⟨true,(.rows 5)⟩,⟨true,(.int .u32)⟩,⟨true,(.int .i64)⟩],[],[⟨true,(.rows 5)⟩],[]⟩
def F49:List D→Option (List D):=liftX env tbl49_5 60 12 49 S49
theorem F49_e (sd0:D) (sn1:Int) (sn2:Int):F49 [sd0,(D.int sn1),(D.int sn2)] =
 let x0:=Proofs.YtobhhfbdelnhfaaGreatDoor.q130 [sd0]
 let x1:=qnth x0 0
 let x2:=qcmp .eql (qlen x1) (qlen x1)
 let x3:=Proofs.YtobhhfbdelnhfaaGreatDoor.l49_5 [.int sn1,.int sn2] [.int 0,x1]
 gd (qsome x0)<|gd x2<|gd x2<|bif qnot (qiteB (qiteB (qcmp .eql sn2 1) true (qcmp .eql sn2 2)) true (qcmp .eql sn2 4))then gd x2<|some [x1]else gd x2<|gd (qsome x3)<|gd (qcmp .eql (qlen (qnth x3 1)) (qlen (qnth x3 1)))<|some [qnth x3 1]:=by kernel_rfl
def F49_eq:=by have h:= @F49_e;simp only[ge_id,gd,qeqD_self,qeqI_self,qeq_len,qeq_l,cond_true]at h;exact h
def q49:List D→Option (List D):=veil (F49)
theorem q49_eq:q49=F49:=veil_eq _
def tb49:Tb:=Tb.addF tbl49_5 49 S49 (q49)
theorem ok_tb49:TbOk env (tb49):=addFunF ok_tbl49_5 49 (by kernel_rfl) _ (q49_eq)
def S17:FunS:=⟨[⟨true,(.dat 24)⟩],[],[⟨true,(.tup [(.rows 5),(.int .i64)])⟩],[]⟩
def F17:List D→Option (List D):=liftX env tb49 60 12 17 S17
theorem F17_e (sd0:D):F17 [sd0] =
 let x0:=Proofs.YtobhhfbdelnhfaaGreatDoor.q47 [sd0]
 let x1:=qint (qnth x0 2)
 let x2:=qint (qnth x0 1)
 let x3:=Proofs.YtobhhfbdelnhfaaGreatDoor.q48 [.int x2]
 let x4:=D.int (qint (qnth x0 0))
 let x5:=qint (qfld sd0 6)
 let x6:=D.int (qwrap .u8 x5)
 let x7:=D.list [x4,x6]
 let x8:=D.int 0
 let x9:=D.int (qwrap .u8 (qbin .or .i64 (qbin .shl .i64 x5 4) (qint (qfld sd0 7))))
 let x10:=qint (qfld sd0 1)
 let x11:=D.int (qwrap .u8 x10)
 let x12:=Proofs.YtobhhfbdelnhfaaGreatDoor.q49 [x7,.int x10,.int 4]
 let x13:=qbin .sub .u32 x10 (qbin .add .u32 (qint (qfld sd0 0)) (qwrap .u32 (qint (qnth x3 0))))
 let x14:=D.list [x4]
 let x15:=Proofs.YtobhhfbdelnhfaaGreatDoor.q49 [x14,.int x13,.int 4]
 gd (qsome x0)<|bif qcmp .neq x1 0 then some [.list [],.int x1]else gd (qsome x3)<|bif qcmp .eql x2 2 then some [x7,x8]else bif qcmp .eql x2 3 then some [.list [x4,x9],x8]else bif qcmp .eql x2 4 then some [.list [x4,x6,x11],x8]else bif qcmp .eql x2 5 then some [.list [x4,x9,x11],x8]else bif qcmp .eql x2 6 then gd (qsome x12)<|some [qnth x12 0,x8]else bif qcmp .eql x2 7 then some [.list [x4,.int (qwrap .u8 x13)],x8]else bif qcmp .eql x2 8 then gd (qsome x15)<|some [qnth x15 0,x8]else some [x14,x8]:=by kernel_rfl
def F17_eq:=by have h:= @F17_e;simp only[ge_id,gd,qeqD_self,qeqI_self,qeq_len,qeq_l,cond_true]at h;exact h
def q17:List D→Option (List D):=veil (F17)
theorem q17_eq:q17=F17:=veil_eq _
def tb17:Tb:=Tb.addF tb49 17 S17 (q17)
theorem ok_tb17:TbOk env (tb17):=addFunF ok_tb49 17 (by kernel_rfl) _ (q17_eq)
end
end Go.Proofs.YtobhhfbdelnhfaaGreatDoor
open Go Go.AM
namespace Go.Proofs.YtobhhfbdelnhfaaGreatDoor
noncomputable section
set_option maxRecDepth 100000
set_option linter.unusedSimpArgs false
set_option linter.unusedVariables false
set_option linter.defProp false
def S146_2:LoopS:=⟨0,[⟨false, .str⟩,uF,⟨false,(.lit (.bool false))⟩,uF,uF,uF,uF,uF,uF,⟨false,(.ptr 0 0)⟩,uF,uF,uF,uF,uF,uF,uF,uF,uF,uF,uF,uF,uF,uF,uF,uF,uF,uF,uF,uF,uF,uF,uF,uF,uF,uF,uF,uF,uF,uF,uF,uF,uF,uF,uF,uF,uF,uF,uF,uF,uF,uF,uF,uF,uF,uF,uF,uF,uF,uF,uF,uF,uF,uF,uF,uF,uF],[.sit],[⟨0,0,[⟨false, .str⟩,uT,⟨true,(.lit (.bool false))⟩,uT,uT,uT,uT,uT,uT,uT,uT,uT,uT,uT,uT,uT,uT,uT,uT,uT,uT,uT,uT,uT,uT,uT,uT,uT,uT,uT,uT,uT,uT,uT,uT,uT,uT,uT,uT,uT,uT,uT,uT,uT,uT,uT,uT,uT,uT,uT,uT,uT,uT,uT,uT,uT,uT,uT,uT,uT,uT,uT,uT,uT,uT,uT,uT],[.sit]⟩,⟨1,0,[⟨false, .str⟩,uT,⟨true,(.lit (.bool false))⟩,uT,uT,uT,uT,uT,uT,uT,uT,uT,uT,uT,uT,uT,uT,uT,uT,uT,uT,uT,uT,uT,uT,uT,uT,uT,uT,uT,uT,uT,uT,uT,uT,uT,uT,uT,uT,uT,uT,uT,uT,uT,uT,uT,uT,uT,uT,uT,uT,uT,uT,uT,uT,uT,uT,uT,uT,uT,uT,uT,uT,uT,uT,uT,uT],[.sit]⟩]⟩
def st146_2 (p s:List D):Option (Sum (List D) (List D)):=stepQX env tb17 60 12 146 (loopC 146 2) S146_2 p s
theorem st146_2_e (ps0:ByteArray) (ps1:ByteArray) (sn0:Int):st146_2 [(D.str ps0),(D.str ps1)] [(D.int sn0)] =
 let x0:=qcmp .lss sn0 (qlenS ps1)
 let x1:=qrune ps1 sn0
 let x2:=D.str ps0
 let x3:=D.str ps1
 let x4:=D.int (qiteI x0 (qrw ps1 sn0) sn0)
 bif x0 then gd x0<|gd x0<|bif qiteB (qnot (qiteB (qiteB (qiteB (qcmp .geq x1 97) (qcmp .leq x1 122) false) true (qiteB (qcmp .geq x1 65) (qcmp .leq x1 90) false)) true (qcmp .eql x1 95))) (qiteB (qcmp .eql sn0 0) true (qiteB (qcmp .neq x1 46) (qiteB (qcmp .lss x1 48) true (qcmp .gtr x1 57)) false)) false then ge x2<|ge x3<|some (Sum.inr [.int 1,x4])else ge x2<|ge x3<|some (Sum.inl [x4])else ge x2<|ge x3<|some (Sum.inr [.int 0,x4]):=by kernel_rfl
def st146_2_eq:=by have h:= @st146_2_e;simp only[ge_id,gd,qeqD_self,qeqI_self,qeq_len,qeq_l,cond_true]at h;exact h
def l146_2:List D→List D→Option (List D):=veil fun p s=>loW (st146_2 p) s
theorem l146_2_eq:l146_2=fun p s=>loW (st146_2 p) s:=veil_eq _
def tbl146_2:Tb:=Tb.addL tb17 146 2 S146_2.n0 (mkLp S146_2 (l146_2))
theorem ok_tbl146_2:TbOk env (tbl146_2):=addLoopQ ok_tb17 146 2 (by kernel_rfl) _ (l146_2_eq)
def S146:FunS:=⟨[⟨true, .str⟩],[],[⟨true, .bool⟩],[]⟩
def F146:List D→Option (List D):=liftX env tbl146_2 60 12 146 S146
theorem F146_eq (ss0:ByteArray):F146 [(D.str ss0)] =
 bif (qsome (l146_2 [(D.str ss0),(D.str ss0)] [(D.int 0)]))then
 bif (qcmp BinOp.eql (qint (qnth (l146_2 [(D.str ss0),(D.str ss0)] [(D.int 0)]) 0)) 0)then
 bif (qsome (q108 [(D.str ss0)]))then
 some [(D.bool (qiteB (qiteB (qcmp BinOp.geq (qlenS ss0) 1) (qcmp BinOp.leq (qlenS ss0) 32) Bool.false) (qnot (qbool (qnth (q108 [(D.str ss0)]) 1))) Bool.false))]
 else
 none
 else
 some [(D.bool Bool.false)]
 else
 none:=by kernel_rfl
def q146:List D→Option (List D):=veil (F146)
theorem q146_eq:q146=F146:=veil_eq _
def tb146:Tb:=Tb.addF tbl146_2 146 S146 (q146)
theorem ok_tb146:TbOk env (tb146):=addFunF ok_tbl146_2 146 (by kernel_rfl) _ (q146_eq)
def S125:FunS:=⟨[⟨true,(.ptr 0 0)⟩,⟨true, .str⟩],[(.lst true 9),(.mp false 9 22),(.lst false 5),(.cells [⟨false,(.int .u32)⟩,⟨false,(.osl 1 5)⟩,⟨false,(.map 2)⟩,⟨false,(.osl 3 9)⟩,⟨false, .bool⟩])],[⟨true,(.tup [(.int .u32), .bool])⟩],[(.lst true 9), .skip,(.mp false 9 22),(.lst false 5),(.cells [⟨false,(.int .u32)⟩,⟨true,(.osl 1 5)⟩,⟨true,(.map 2)⟩,⟨true,(.osl 4 9)⟩,⟨false, .bool⟩])]⟩
def F125:List D→Option (List D):=liftX env tb146 60 12 125 S125
theorem F125_e (pd0:D) (pd1:D) (pn2:Int) (pb3:Bool) (ss0:ByteArray) (sd1:D):F125 [pd0,pd1,(D.int pn2),(D.bool pb3),(D.str ss0),sd1] =
 let x0:=Proofs.YtobhhfbdelnhfaaGreatDoor.q146 [.str ss0]
 let x1:=qcmp .eql (qlen pd1) (qlen pd1)
 let x2:=qcmp .eql (qlen sd1) (qlen sd1)
 let x3:=qapp sd1 (.list [.str ss0])
 let x4:=qlen x3
 gd (qsome x0)<|bif qnot (qbool (qnth x0 0))then gd x1<|gd x2<|ge pd0<|ge pd1<|ge (.int pn2)<|ge (.bool pb3)<|some [.int 0,.bool false,sd1]else gd x2<|gd (qmem x4 16)<|gd x1<|gd (qcmp .eql x4 x4)<|ge pd0<|ge pd1<|ge (.int pn2)<|ge (.bool pb3)<|some [.int (qint (qmget 9 (.int 0) pd0 (.str ss0))),.bool true,x3]:=by kernel_rfl
def F125_eq:=by have h:= @F125_e;simp only[ge_id,gd,qeqD_self,qeqI_self,qeq_len,qeq_l,cond_true]at h;exact h
def q125:List D→Option (List D):=veil (F125)
theorem q125_eq:q125=F125:=veil_eq _
def tb125:Tb:=Tb.addF tb146 125 S125 (q125)
theorem ok_tb125:TbOk env (tb125):=addFunF ok_tb146 125 (by kernel_rfl) _ (q125_eq)
end
end Go.Proofs.YtobhhfbdelnhfaaGreatDoor
open Go Go.AM
namespace Go.Proofs.YtobhhfbdelnhfaaGreatDoor
noncomputable section
set_option maxRecDepth 100000
set_option linter.unusedSimpArgs false
set_option linter.unusedVariables false
set_option linter.defProp false
def S105_a:FunS:=⟨[⟨true,(.ptr 0 0)⟩,⟨true,(.int .i64)⟩],[(.lst false 9),(.mp false 9 22),(.lst false 5),(.cells [⟨false,(.int .u32)⟩,⟨false,(.osl 2 5)⟩,⟨false,(.map 3)⟩,⟨false,(.osl 4 9)⟩,⟨false, .bool⟩]),(.cells [⟨false,(.rows 9)⟩,⟨false,(.func 125 [(.ptr 1 0)] [])⟩,⟨true, .bool⟩,⟨false, .bool⟩,⟨false, .bool⟩,⟨false, .bool⟩])],[⟨true, .bool⟩],[(.lst false 9),(.mp false 9 22),(.lst false 5),(.cells [⟨false,(.int .u32)⟩,⟨true,(.osl 2 5)⟩,⟨true,(.map 3)⟩,⟨true,(.osl 4 9)⟩,⟨false, .bool⟩]),(.cells [⟨false,(.rows 9)⟩,⟨true,(.func 125 [(.ptr 1 0)] [])⟩,⟨true, .bool⟩,⟨false, .bool⟩,⟨false, .bool⟩,⟨false, .bool⟩])]⟩
def F105_a:List D→Option (List D):=liftX env tb125 60 12 105 S105_a
theorem F105_a_e (pd0:D) (pd1:D) (pd2:D) (pn3:Int) (pb4:Bool) (pd5:D) (pb6:Bool) (pb7:Bool) (pb8:Bool) (sn0:Int) (sb1:Bool):F105_a [pd0,pd1,pd2,(D.int pn3),(D.bool pb4),pd5,(D.bool pb6),(D.bool pb7),(D.bool pb8),(D.int sn0),(D.bool sb1)] =
 let x0:=qcmp .eql (qlen pd2) (qlen pd2)
 let x1:=qcmp .eql (qlen pd0) (qlen pd0)
 bif qcmp .neq (qlen pd5) sn0 then gd x0<|gd x1<|ge pd0<|ge pd1<|ge pd2<|ge (.int pn3)<|ge (.bool pb4)<|ge pd5<|ge (.bool pb6)<|ge (.bool pb7)<|ge (.bool pb8)<|some [.bool false,.bool true]else gd x0<|gd x1<|ge pd0<|ge pd1<|ge pd2<|ge (.int pn3)<|ge (.bool pb4)<|ge pd5<|ge (.bool pb6)<|ge (.bool pb7)<|ge (.bool pb8)<|some [.bool (qnot sb1),.bool sb1]:=by kernel_rfl
def F105_a_eq:=by have h:= @F105_a_e;simp only[ge_id,gd,qeqD_self,qeqI_self,qeq_len,qeq_l,cond_true]at h;exact h
def q105_a:List D→Option (List D):=veil (F105_a)
theorem q105_a_eq:q105_a=F105_a:=veil_eq _
def tb105_a:Tb:=Tb.addF tb125 105 S105_a (q105_a)
theorem ok_tb105_a:TbOk env (tb105_a):=addFunF ok_tb125 105 (by kernel_rfl) _ (q105_a_eq)
def S107_a:FunS:=⟨[⟨true,(.ptr 0 0)⟩,⟨true,(.int .i64)⟩],[(.lst false 9),(.mp false 9 22),(.lst false 5),(.cells [⟨false,(.int .u32)⟩,⟨false,(.osl 2 5)⟩,⟨false,(.map 3)⟩,⟨false,(.osl 4 9)⟩,⟨false, .bool⟩]),(.cells [⟨false,(.rows 9)⟩,⟨false,(.func 125 [(.ptr 1 0)] [])⟩,⟨true, .bool⟩,⟨false, .bool⟩,⟨false, .bool⟩,⟨false, .bool⟩])],[⟨true,(.int .i64)⟩],[(.lst false 9),(.mp false 9 22),(.lst false 5),(.cells [⟨false,(.int .u32)⟩,⟨true,(.osl 2 5)⟩,⟨true,(.map 3)⟩,⟨true,(.osl 4 9)⟩,⟨false, .bool⟩]),(.cells [⟨false,(.rows 9)⟩,⟨true,(.func 125 [(.ptr 1 0)] [])⟩,⟨true, .bool⟩,⟨false, .bool⟩,⟨false, .bool⟩,⟨false, .bool⟩])]⟩
def F107_a:List D→Option (List D):=liftX env tb105_a 60 12 107 S107_a
theorem F107_a_e (pd0:D) (pd1:D) (pd2:D) (pn3:Int) (pb4:Bool) (pd5:D) (pb6:Bool) (pb7:Bool) (pb8:Bool) (sn0:Int) (sb1:Bool):F107_a [pd0,pd1,pd2,(D.int pn3),(D.bool pb4),pd5,(D.bool pb6),(D.bool pb7),(D.bool pb8),(D.int sn0),(D.bool sb1)] =
 let x0:=Proofs.YtobhhfbdelnhfaaGreatDoor.q108 [.str (qstr (qget pd5 sn0))]
 let x1:=qcmp .eql (qlen pd2) (qlen pd2)
 let x2:=qcmp .eql (qlen pd0) (qlen pd0)
 let x3:=D.int (qint (qnth x0 0))
 gd (qinb pd5 sn0)<|gd (qsome x0)<|bif qnot (qbool (qnth x0 1))then gd x1<|gd x2<|ge pd0<|ge pd1<|ge pd2<|ge (.int pn3)<|ge (.bool pb4)<|ge pd5<|ge (.bool pb6)<|ge (.bool pb7)<|ge (.bool pb8)<|some [x3,.bool true]else gd x1<|gd x2<|ge pd0<|ge pd1<|ge pd2<|ge (.int pn3)<|ge (.bool pb4)<|ge pd5<|ge (.bool pb6)<|ge (.bool pb7)<|ge (.bool pb8)<|some [x3,.bool sb1]:=by kernel_rfl
def F107_a_eq:=by have h:= @F107_a_e;simp only[ge_id,gd,qeqD_self,qeqI_self,qeq_len,qeq_l,cond_true]at h;exact h
def q107_a:List D→Option (List D):=veil (F107_a)
theorem q107_a_eq:q107_a=F107_a:=veil_eq _
def tb107_a:Tb:=Tb.addF tb105_a 107 S107_a (q107_a)
theorem ok_tb107_a:TbOk env (tb107_a):=addFunF ok_tb105_a 107 (by kernel_rfl) _ (q107_a_eq)
def S106_a:FunS:=⟨[⟨true,(.ptr 0 0)⟩,⟨true,(.int .i64)⟩],[(.lst true 9),(.mp false 9 22),(.lst false 5),(.cells [⟨false,(.int .u32)⟩,⟨false,(.osl 2 5)⟩,⟨false,(.map 3)⟩,⟨false,(.osl 4 9)⟩,⟨false, .bool⟩]),(.cells [⟨false,(.rows 9)⟩,⟨false,(.func 125 [(.ptr 1 0)] [])⟩,⟨true, .bool⟩,⟨false, .bool⟩,⟨false, .bool⟩,⟨false, .bool⟩])],[⟨true,(.tup [(.int .u32), .bool])⟩],[(.lst true 9), .skip,(.mp false 9 22),(.lst false 5),(.cells [⟨false,(.int .u32)⟩,⟨true,(.osl 2 5)⟩,⟨true,(.map 3)⟩,⟨true,(.osl 5 9)⟩,⟨false, .bool⟩]),(.cells [⟨false,(.rows 9)⟩,⟨true,(.func 125 [(.ptr 1 0)] [])⟩,⟨true, .bool⟩,⟨false, .bool⟩,⟨false, .bool⟩,⟨false, .bool⟩])]⟩
def F106_a:List D→Option (List D):=liftX env tb107_a 60 12 106 S106_a
theorem F106_a_e (pd0:D) (pd1:D) (pn2:Int) (pb3:Bool) (pd4:D) (pb5:Bool) (pb6:Bool) (pb7:Bool) (sn0:Int) (sd1:D) (sb2:Bool):F106_a [pd0,pd1,(D.int pn2),(D.bool pb3),pd4,(D.bool pb5),(D.bool pb6),(D.bool pb7),(D.int sn0),sd1,(D.bool sb2)] =
 let x0:=D.str (qstr (qget pd4 sn0))
 let x1:=Proofs.YtobhhfbdelnhfaaGreatDoor.q36 [x0]
 let x2:=qcmp .eql (qlen pd1) (qlen pd1)
 let x3:=qcmp .eql (qlen sd1) (qlen sd1)
 let x4:=D.int pn2
 let x5:=D.bool pb3
 let x6:=D.bool pb5
 let x7:=D.bool pb6
 let x8:=D.bool pb7
 let x9:=Proofs.YtobhhfbdelnhfaaGreatDoor.q125 [pd0,pd1,x4,x5,x0,sd1]
 let x10:=qbool (qnth x9 1)
 let x11:=qnth x9 2
 let x12:=qcmp .eql (qlen x11) (qlen x11)
 let x13:=D.int (qint (qnth x9 0))
 gd (qinb pd4 sn0)<|gd (qsome x1)<|bif qbool (qnth x1 1)then gd x2<|gd x3<|ge pd0<|ge pd1<|ge x4<|ge x5<|ge pd4<|ge x6<|ge x7<|ge x8<|some [.int (qint (qnth x1 0)),.bool false,sd1,.bool sb2]else gd x2<|gd x3<|gd (qsome x9)<|bif qnot x10 then gd x2<|gd x12<|ge pd0<|ge pd1<|ge x4<|ge x5<|ge pd4<|ge x6<|ge x7<|ge x8<|some [x13,.bool x10,x11,.bool true]else gd x2<|gd x12<|ge pd0<|ge pd1<|ge x4<|ge x5<|ge pd4<|ge x6<|ge x7<|ge x8<|some [x13,.bool x10,x11,.bool sb2]:=by kernel_rfl
def F106_a_eq:=by have h:= @F106_a_e;simp only[ge_id,gd,qeqD_self,qeqI_self,qeq_len,qeq_l,cond_true]at h;exact h
def q106_a:List D→Option (List D):=veil (F106_a)
theorem q106_a_eq:q106_a=F106_a:=veil_eq _
def tb106_a:Tb:=Tb.addF tb107_a 106 S106_a (q106_a)
theorem ok_tb106_a:TbOk env (tb106_a):=addFunF ok_tb107_a 106 (by kernel_rfl) _ (q106_a_eq)
end
end Go.Proofs.YtobhhfbdelnhfaaGreatDoor
open Go Go.AM
namespace Go.Proofs.YtobhhfbdelnhfaaGreatDoor
noncomputable section
set_option maxRecDepth 100000
set_option linter.unusedSimpArgs false
set_option linter.unusedVariables false
set_option linter.defProp false
def S139_a:FunS:=⟨[⟨true,(.ptr 0 0)⟩,⟨true,(.int .i64)⟩],[(.lst false 9),(.mp false 9 22),(.lst false 5),(.cells [⟨false,(.int .u32)⟩,⟨false,(.osl 2 5)⟩,⟨false,(.map 3)⟩,⟨false,(.osl 4 9)⟩,⟨false, .bool⟩]),(.cells [⟨false,(.rows 9)⟩,⟨false,(.func 125 [(.ptr 1 0)] [])⟩,⟨true, .bool⟩,⟨true, .bool⟩,⟨false, .bool⟩,⟨false, .bool⟩])],[⟨true,(.tup [(.int .i64),(.int .u32)])⟩],[(.lst false 9),(.mp false 9 22),(.lst false 5),(.cells [⟨false,(.int .u32)⟩,⟨true,(.osl 2 5)⟩,⟨true,(.map 3)⟩,⟨true,(.osl 4 9)⟩,⟨false, .bool⟩]),(.cells [⟨false,(.rows 9)⟩,⟨true,(.func 125 [(.ptr 1 0)] [])⟩,⟨true, .bool⟩,⟨true, .bool⟩,⟨false, .bool⟩,⟨false, .bool⟩])]⟩
def F139_a:List D→Option (List D):=liftX env tb106_a 60 12 139 S139_a
theorem F139_a_e (pd0:D) (pd1:D) (pd2:D) (pn3:Int) (pb4:Bool) (pd5:D) (pb6:Bool) (pb7:Bool) (sn0:Int) (sb1:Bool) (sb2:Bool):F139_a [pd0,pd1,pd2,(D.int pn3),(D.bool pb4),pd5,(D.bool pb6),(D.bool pb7),(D.int sn0),(D.bool sb1),(D.bool sb2)] =
 let x0:=Proofs.YtobhhfbdelnhfaaGreatDoor.q59 [.str (qstr (qget pd5 sn0)),.str (ByteArray.mk #[91])]
 let x1:=Proofs.YtobhhfbdelnhfaaGreatDoor.q62 [.str (qstr (qnth x0 0)),.str (ByteArray.mk #[93])]
 let x2:=qstr (qnth x1 0)
 let x3:=qlenS x2
 let x4:=qcmp .eql (qlen pd2) (qlen pd2)
 let x5:=qcmp .eql (qlen pd0) (qlen pd0)
 let x6:=D.int pn3
 let x7:=D.bool pb4
 let x8:=D.bool pb6
 let x9:=D.bool pb7
 let x10:=D.int 0
 let x11:=D.bool true
 let x12:Option (List D):=gd x4<|gd x5<|ge pd0<|ge pd1<|ge pd2<|ge x6<|ge x7<|ge pd5<|ge x8<|ge x9<|some [x10,x10,x11,.bool sb2]
 let x13:=qcmp .leq 0 2
 let x14:=qcmp .leq 2 x3
 let x15:=Proofs.YtobhhfbdelnhfaaGreatDoor.q108 [.str (qsubS x2 0 2)]
 let x16:=qcmp .leq x3 x3
 let x17:=qsubS x2 2 x3
 let x18:=qbool (qnth x15 1)
 let x19:=D.int (qint (qnth x15 0))
 let x20:=D.bool sb1
 let x21:=qlenS x17
 let x22:=qiteB (qnot x18) true (qcmp .lss x21 2)
 let x23:=qinbS x17 0
 let x24:=qidxS x17 0
 let x25:=qcmp .neq x24 43
 let x26:=qiteB x22 true (qiteB x25 (qcmp .neq x24 45) false)
 let x27:=Proofs.YtobhhfbdelnhfaaGreatDoor.q36 [.str (qsubS x17 1 x21)]
 let x28:=qint (qnth x27 0)
 let x29:=D.int (qun .neg .u32 x28)
 gd (qinb pd5 sn0)<|gd (qsome x0)<|gd (qsome x1)<|bif qiteB (qiteB (qnot (qbool (qnth x0 1))) true (qnot (qbool (qnth x1 1)))) true (qcmp .lss x3 2)then x12 else gd (qcmp .leq 0 0)<|gd x13<|gd x14<|gd (qsome x15)<|gd x13<|gd x14<|gd x16<|bif qiteB (qcmpS .eql x17 (ByteArray.mk #[])) x18 false then gd x4<|gd x5<|ge pd0<|ge pd1<|ge pd2<|ge x6<|ge x7<|ge pd5<|ge x8<|ge x9<|some [x19,x10,x20,.bool sb2]else gd x13<|gd x14<|gd x16<|gd (qiteB x22 true (qand x23 (qiteB x25 x23 true)))<|gd (qiteB x26 true (qinbS x17 1))<|bif qiteB x26 true (qcmp .eql (qidxS x17 1) 45)then x12 else gd (qcmp .leq 0 1)<|gd (qcmp .leq 1 x21)<|gd (qcmp .leq x21 x21)<|gd (qsome x27)<|bif qnot (qbool (qnth x27 1))then x12 else gd x23<|bif qcmp .eql x24 43 then bif sb2 then gd x4<|gd x5<|ge pd0<|ge pd1<|ge pd2<|ge x6<|ge x7<|ge pd5<|ge x8<|ge x9<|some [x19,.int x28,x20,x11]else gd x4<|gd x5<|ge pd0<|ge pd1<|ge pd2<|ge x6<|ge x7<|ge pd5<|ge x8<|ge x9<|some [x19,.int x28,x20,.bool (qcmp .gtr x28 127)]else bif sb2 then gd x4<|gd x5<|ge pd0<|ge pd1<|ge pd2<|ge x6<|ge x7<|ge pd5<|ge x8<|ge x9<|some [x19,x29,x20,x11]else gd x4<|gd x5<|ge pd0<|ge pd1<|ge pd2<|ge x6<|ge x7<|ge pd5<|ge x8<|ge x9<|some [x19,x29,x20,.bool (qcmp .gtr x28 128)]:=by kernel_rfl
def F139_a_eq:=by have h:= @F139_a_e;simp only[ge_id,gd,qeqD_self,qeqI_self,qeq_len,qeq_l,cond_true]at h;exact h
def q139_a:List D→Option (List D):=veil (F139_a)
theorem q139_a_eq:q139_a=F139_a:=veil_eq _
def tb139_a:Tb:=Tb.addF tb106_a 139 S139_a (q139_a)
theorem ok_tb139_a:TbOk env (tb139_a):=addFunF ok_tb106_a 139 (by kernel_rfl) _ (q139_a_eq)
def S66_a:FunS:=⟨[⟨true,(.ptr 0 0)⟩,⟨true,(.dat 24)⟩],[(.lst false 9),(.mp false 9 22),(.lst false 5),(.cells [⟨false,(.int .u32)⟩,⟨false,(.osl 2 5)⟩,⟨false,(.map 3)⟩,⟨false,(.osl 4 9)⟩,⟨false, .bool⟩]),(.cells [⟨false,(.rows 9)⟩,⟨false,(.func 125 [(.ptr 1 0)] [])⟩,⟨true, .bool⟩,⟨false, .bool⟩,⟨false, .bool⟩,⟨false, .bool⟩])],[⟨true,(.dat 24)⟩],[(.lst false 9),(.mp false 9 22),(.lst false 5),(.cells [⟨false,(.int .u32)⟩,⟨true,(.osl 2 5)⟩,⟨true,(.map 3)⟩,⟨true,(.osl 4 9)⟩,⟨false, .bool⟩]),(.cells [⟨false,(.rows 9)⟩,⟨true,(.func 125 [(.ptr 1 0)] [])⟩,⟨true, .bool⟩,⟨false, .bool⟩,⟨false, .bool⟩,⟨false, .bool⟩])]⟩
def F66_a:List D→Option (List D):=liftX env tb139_a 60 12 66 S66_a
theorem F66_a_e (pd0:D) (pd1:D) (pd2:D) (pn3:Int) (pb4:Bool) (pd5:D) (pb6:Bool) (pb7:Bool) (pb8:Bool) (sd0:D) (sb1:Bool):F66_a [pd0,pd1,pd2,(D.int pn3),(D.bool pb4),pd5,(D.bool pb6),(D.bool pb7),(D.bool pb8),sd0,(D.bool sb1)] =
 let x0:=qcmp .eql (qlen pd2) (qlen pd2)
 let x1:=qcmp .eql (qlen pd0) (qlen pd0)
 let x2:=D.int pn3
 let x3:=D.bool pb4
 let x4:=D.bool pb6
 let x5:=D.bool pb7
 let x6:=D.bool pb8
 let x7:=Proofs.YtobhhfbdelnhfaaGreatDoor.q105_a [pd0,pd1,pd2,x2,x3,pd5,x4,x5,x6,.int 1,.bool sb1]
 let x8:=D.bool (qbool (qnth x7 1))
 let x9:=Proofs.YtobhhfbdelnhfaaGreatDoor.q107_a [pd0,pd1,pd2,x2,x3,pd5,x4,x5,x6,.int 0,x8]
 gd x0<|gd x1<|gd (qsome x7)<|bif qbool (qnth x7 0)then gd x0<|gd x1<|gd (qsome x9)<|gd x0<|gd x1<|ge pd0<|ge pd1<|ge pd2<|ge x2<|ge x3<|ge pd5<|ge x4<|ge x5<|ge x6<|some [.agg [.int (qint (qfld sd0 0)),.int (qint (qfld sd0 1)),.int (qint (qfld sd0 2)),.int (qint (qfld sd0 3)),.int (qint (qfld sd0 4)),.int (qint (qfld sd0 5)),.int (qint (qnth x9 0)),.int (qint (qfld sd0 7)),.int (qint (qfld sd0 8))],.bool (qbool (qnth x9 1))]else gd x0<|gd x1<|ge pd0<|ge pd1<|ge pd2<|ge x2<|ge x3<|ge pd5<|ge x4<|ge x5<|ge x6<|some [sd0,x8]:=by kernel_rfl
def F66_a_eq:=by have h:= @F66_a_e;simp only[ge_id,gd,qeqD_self,qeqI_self,qeq_len,qeq_l,cond_true]at h;exact h
def q66_a:List D→Option (List D):=veil (F66_a)
theorem q66_a_eq:q66_a=F66_a:=veil_eq _
def tb66_a:Tb:=Tb.addF tb139_a 66 S66_a (q66_a)
theorem ok_tb66_a:TbOk env (tb66_a):=addFunF ok_tb139_a 66 (by kernel_rfl) _ (q66_a_eq)
def S110_a:FunS:=⟨[⟨true,(.ptr 0 0)⟩,⟨true,(.dat 24)⟩,⟨true, .bool⟩],[(.lst false 9),(.mp false 9 22),(.lst false 5),(.cells [⟨false,(.int .u32)⟩,⟨false,(.osl 2 5)⟩,⟨false,(.map 3)⟩,⟨false,(.osl 4 9)⟩,⟨false, .bool⟩]),(.cells [⟨false,(.rows 9)⟩,⟨false,(.func 125 [(.ptr 1 0)] [])⟩,⟨true, .bool⟩,⟨true, .bool⟩,⟨false, .bool⟩,⟨false, .bool⟩])],[⟨true,(.dat 24)⟩],[(.lst false 9),(.mp false 9 22),(.lst false 5),(.cells [⟨false,(.int .u32)⟩,⟨true,(.osl 2 5)⟩,⟨true,(.map 3)⟩,⟨true,(.osl 4 9)⟩,⟨false, .bool⟩]),(.cells [⟨false,(.rows 9)⟩,⟨true,(.func 125 [(.ptr 1 0)] [])⟩,⟨true, .bool⟩,⟨true, .bool⟩,⟨false, .bool⟩,⟨false, .bool⟩])]⟩
def F110_a:List D→Option (List D):=liftX env tb66_a 60 12 110 S110_a
theorem F110_a_e (pd0:D) (pd1:D) (pd2:D) (pn3:Int) (pb4:Bool) (pd5:D) (pb6:Bool) (pb7:Bool) (sd0:D) (sb1:Bool) (sb2:Bool) (sb3:Bool):F110_a [pd0,pd1,pd2,(D.int pn3),(D.bool pb4),pd5,(D.bool pb6),(D.bool pb7),sd0,(D.bool sb1),(D.bool sb2),(D.bool sb3)] =
 let x0:=qcmp .eql (qlen pd2) (qlen pd2)
 let x1:=qcmp .eql (qlen pd0) (qlen pd0)
 let x2:=D.int pn3
 let x3:=D.bool pb4
 let x4:=D.bool sb3
 let x5:=D.bool pb6
 let x6:=D.bool pb7
 let x7:=Proofs.YtobhhfbdelnhfaaGreatDoor.q105_a [pd0,pd1,pd2,x2,x3,pd5,x4,x5,x6,.int 2,.bool sb2]
 let x8:=D.bool (qbool (qnth x7 1))
 let x9:=Proofs.YtobhhfbdelnhfaaGreatDoor.q139_a [pd0,pd1,pd2,x2,x3,pd5,x5,x6,.int 0,x8,x4]
 let x10:=D.bool (qbool (qnth x9 3))
 let x11:=Proofs.YtobhhfbdelnhfaaGreatDoor.q107_a [pd0,pd1,pd2,x2,x3,pd5,x10,x5,x6,.int 1,.bool (qbool (qnth x9 2))]
 let x12:=D.int (qint (qfld sd0 0))
 let x13:=D.int (qint (qfld sd0 2))
 let x14:=D.int (qint (qfld sd0 3))
 let x15:=D.int (qint (qfld sd0 4))
 let x16:=D.int (qint (qfld sd0 5))
 let x17:=D.int (qint (qfld sd0 8))
 let x18:=Proofs.YtobhhfbdelnhfaaGreatDoor.q107_a [pd0,pd1,pd2,x2,x3,pd5,x4,x5,x6,.int 0,x8]
 let x19:=Proofs.YtobhhfbdelnhfaaGreatDoor.q139_a [pd0,pd1,pd2,x2,x3,pd5,x5,x6,.int 1,.bool (qbool (qnth x18 1)),x4]
 gd x0<|gd x1<|gd (qsome x7)<|bif qnot (qbool (qnth x7 0))then gd x0<|gd x1<|ge pd0<|ge pd1<|ge pd2<|ge x2<|ge x3<|ge pd5<|ge x5<|ge x6<|some [sd0,x8,x4]else bif sb1 then gd x0<|gd x1<|gd (qsome x9)<|gd x0<|gd x1<|gd (qsome x11)<|gd x0<|gd x1<|ge pd0<|ge pd1<|ge pd2<|ge x2<|ge x3<|ge pd5<|ge x5<|ge x6<|some [.agg [x12,.int (qint (qnth x9 1)),x13,x14,x15,x16,.int (qint (qnth x11 0)),.int (qint (qnth x9 0)),x17],.bool (qbool (qnth x11 1)),x10]else gd x0<|gd x1<|gd (qsome x18)<|gd x0<|gd x1<|gd (qsome x19)<|gd x0<|gd x1<|ge pd0<|ge pd1<|ge pd2<|ge x2<|ge x3<|ge pd5<|ge x5<|ge x6<|some [.agg [x12,.int (qint (qnth x19 1)),x13,x14,x15,x16,.int (qint (qnth x18 0)),.int (qint (qnth x19 0)),x17],.bool (qbool (qnth x19 2)),.bool (qbool (qnth x19 3))]:=by kernel_rfl
def F110_a_eq:=by have h:= @F110_a_e;simp only[ge_id,gd,qeqD_self,qeqI_self,qeq_len,qeq_l,cond_true]at h;exact h
def q110_a:List D→Option (List D):=veil (F110_a)
theorem q110_a_eq:q110_a=F110_a:=veil_eq _
def tb110_a:Tb:=Tb.addF tb66_a 110 S110_a (q110_a)
theorem ok_tb110_a:TbOk env (tb110_a):=addFunF ok_tb66_a 110 (by kernel_rfl) _ (q110_a_eq)
def S111_a:FunS:=⟨[⟨true,(.ptr 0 0)⟩,⟨true, .str⟩],[(.lst true 9),(.mp false 9 22),(.lst false 5),(.cells [⟨false,(.int .u32)⟩,⟨false,(.osl 2 5)⟩,⟨false,(.map 3)⟩,⟨false,(.osl 4 9)⟩,⟨false, .bool⟩]),(.cells [⟨false,(.rows 9)⟩,⟨false,(.func 125 [(.ptr 1 0)] [])⟩,⟨true, .bool⟩,⟨false, .bool⟩,⟨false, .bool⟩,⟨false, .bool⟩])],[⟨true,(.dat 24)⟩],[(.lst true 9), .skip,(.mp false 9 22),(.lst false 5),(.cells [⟨false,(.int .u32)⟩,⟨true,(.osl 2 5)⟩,⟨true,(.map 3)⟩,⟨true,(.osl 5 9)⟩,⟨false, .bool⟩]),(.cells [⟨false,(.rows 9)⟩,⟨true,(.func 125 [(.ptr 1 0)] [])⟩,⟨true, .bool⟩,⟨false, .bool⟩,⟨false, .bool⟩,⟨false, .bool⟩])]⟩
def F111_a:List D→Option (List D):=liftX env tb110_a 60 12 111 S111_a
theorem F111_a_e (pd0:D) (pd1:D) (pn2:Int) (pb3:Bool) (pd4:D) (pb5:Bool) (pb6:Bool) (pb7:Bool) (ss0:ByteArray) (sd1:D) (sb2:Bool):F111_a [pd0,pd1,(D.int pn2),(D.bool pb3),pd4,(D.bool pb5),(D.bool pb6),(D.bool pb7),(D.str ss0),sd1,(D.bool sb2)] =
 let x0:=qcmp .eql (qlen pd1) (qlen pd1)
 let x1:=qcmp .eql (qlen sd1) (qlen sd1)
 let x2:=D.int pn2
 let x3:=D.bool pb3
 let x4:=D.bool pb5
 let x5:=D.bool pb6
 let x6:=D.bool pb7
 let x7:=Proofs.YtobhhfbdelnhfaaGreatDoor.q105_a [sd1,pd0,pd1,x2,x3,pd4,x4,x5,x6,.int 1,.bool sb2]
 let x8:=D.int 0
 let x9:=D.bool (qbool (qnth x7 1))
 let x10:=Proofs.YtobhhfbdelnhfaaGreatDoor.q106_a [pd0,pd1,x2,x3,pd4,x4,x5,x6,x8,sd1,x9]
 let x11:=Proofs.YtobhhfbdelnhfaaGreatDoor.q105_a [sd1,pd0,pd1,x2,x3,pd4,x4,x5,x6,.int 2,.bool sb2]
 let x12:=D.bool (qbool (qnth x11 1))
 let x13:=Proofs.YtobhhfbdelnhfaaGreatDoor.q107_a [sd1,pd0,pd1,x2,x3,pd4,x4,x5,x6,x8,x12]
 let x14:=Proofs.YtobhhfbdelnhfaaGreatDoor.q106_a [pd0,pd1,x2,x3,pd4,x4,x5,x6,.int 1,sd1,.bool (qbool (qnth x13 1))]
 bif qcmpS .eql ss0 (ByteArray.mk #[99,97,108,108])then gd x0<|gd x1<|gd (qsome x7)<|bif qbool (qnth x7 0)then gd x0<|gd x1<|gd (qsome x10)<|gd x0<|gd (qcmp .eql (qlen (qnth x10 2)) (qlen (qnth x10 2)))<|ge pd0<|ge pd1<|ge x2<|ge x3<|ge pd4<|ge x4<|ge x5<|ge x6<|some [.agg [x8,.int (qint (qnth x10 0)),.int 23,x8,x8,x8,x8,x8,x8],qnth x10 2,.bool (qbool (qnth x10 3))]else gd x0<|gd x1<|ge pd0<|ge pd1<|ge x2<|ge x3<|ge pd4<|ge x4<|ge x5<|ge x6<|some [.agg [x8,x8,.int 23,x8,x8,x8,x8,x8,x8],sd1,x9]else bif qcmpS .eql ss0 (ByteArray.mk #[106,117,109,112,116])then gd x0<|gd x1<|gd (qsome x11)<|bif qbool (qnth x11 0)then gd x0<|gd x1<|gd (qsome x13)<|gd x0<|gd x1<|gd (qsome x14)<|gd x0<|gd (qcmp .eql (qlen (qnth x14 2)) (qlen (qnth x14 2)))<|ge pd0<|ge pd1<|ge x2<|ge x3<|ge pd4<|ge x4<|ge x5<|ge x6<|some [.agg [x8,.int (qint (qnth x14 0)),.int 22,x8,x8,x8,.int (qint (qnth x13 0)),x8,x8],qnth x14 2,.bool (qbool (qnth x14 3))]else gd x0<|gd x1<|ge pd0<|ge pd1<|ge x2<|ge x3<|ge pd4<|ge x4<|ge x5<|ge x6<|some [.agg [x8,x8,.int 22,x8,x8,x8,x8,x8,x8],sd1,x12]else gd x0<|gd x1<|ge pd0<|ge pd1<|ge x2<|ge x3<|ge pd4<|ge x4<|ge x5<|ge x6<|some [.agg [x8,x8,x8,x8,x8,x8,x8,x8,x8],sd1,.bool true]:=by kernel_rfl
def F111_a_eq:=by have h:= @F111_a_e;simp only[ge_id,gd,qeqD_self,qeqI_self,qeq_len,qeq_l,cond_true]at h;exact h
def q111_a:List D→Option (List D):=veil (F111_a)
theorem q111_a_eq:q111_a=F111_a:=veil_eq _
def tb111_a:Tb:=Tb.addF tb110_a 111 S111_a (q111_a)
theorem ok_tb111_a:TbOk env (tb111_a):=addFunF ok_tb110_a 111 (by kernel_rfl) _ (q111_a_eq)
def S68_a:FunS:=⟨[⟨true,(.ptr 0 0)⟩,⟨true, .str⟩],[(.lst true 9),(.mp false 9 22),(.lst false 5),(.cells [⟨false,(.int .u32)⟩,⟨false,(.osl 2 5)⟩,⟨false,(.map 3)⟩,⟨false,(.osl 4 9)⟩,⟨false, .bool⟩]),(.cells [⟨false,(.rows 9)⟩,⟨false,(.func 125 [(.ptr 1 0)] [])⟩,⟨true, .bool⟩,⟨true, .bool⟩,⟨false, .bool⟩,⟨false, .bool⟩])],[⟨true,(.dat 24)⟩],[(.lst true 9), .skip,(.mp false 9 22),(.lst false 5),(.cells [⟨false,(.int .u32)⟩,⟨true,(.osl 2 5)⟩,⟨true,(.map 3)⟩,⟨true,(.osl 5 9)⟩,⟨false, .bool⟩]),(.cells [⟨false,(.rows 9)⟩,⟨true,(.func 125 [(.ptr 1 0)] [])⟩,⟨true, .bool⟩,⟨true, .bool⟩,⟨false, .bool⟩,⟨false, .bool⟩])]⟩
def F68_a:List D→Option (List D):=liftX env tb111_a 60 12 68 S68_a
theorem F68_a_e (pd0:D) (pd1:D) (pn2:Int) (pb3:Bool) (pd4:D) (pb5:Bool) (pb6:Bool) (ss0:ByteArray) (sd1:D) (sb2:Bool) (sb3:Bool):F68_a [pd0,pd1,(D.int pn2),(D.bool pb3),pd4,(D.bool pb5),(D.bool pb6),(D.str ss0),sd1,(D.bool sb2),(D.bool sb3)] =
 let x0:=qcmpS .eql ss0 (ByteArray.mk #[110,111,112])
 let x1:=qcmpS .eql ss0 (ByteArray.mk #[104,97,108,116])
 let x2:=qcmp .eql (qlen pd1) (qlen pd1)
 let x3:=qcmp .eql (qlen sd1) (qlen sd1)
 let x4:=D.int pn2
 let x5:=D.bool pb3
 let x6:=D.bool sb3
 let x7:=D.bool pb5
 let x8:=D.bool pb6
 let x9:=D.int 0
 let x10:=D.bool sb2
 let x11:=Proofs.YtobhhfbdelnhfaaGreatDoor.q105_a [sd1,pd0,pd1,x4,x5,pd4,x6,x7,x8,x9,x10]
 let x12:=Proofs.YtobhhfbdelnhfaaGreatDoor.q66_a [sd1,pd0,pd1,x4,x5,pd4,x6,x7,x8,.agg [x9,x9,.int 3,x9,x9,x9,x9,x9,x9],x10]
 let x13:=Proofs.YtobhhfbdelnhfaaGreatDoor.q66_a [sd1,pd0,pd1,x4,x5,pd4,x6,x7,x8,.agg [x9,x9,.int 4,x9,x9,x9,x9,x9,x9],x10]
 let x14:=qcmpS .eql ss0 (ByteArray.mk #[108,111,97,100,49])
 let x15:=qcmpS .eql ss0 (ByteArray.mk #[108,111,97,100,50])
 let x16:=D.int (qwrap .i64 (qbin .sub .u8 (qidxS ss0 4) 48))
 let x17:=D.bool false
 let x18:=Proofs.YtobhhfbdelnhfaaGreatDoor.q110_a [sd1,pd0,pd1,x4,x5,pd4,x7,x8,.agg [x9,x9,.int 16,x9,x16,x9,x9,x9,x9],x17,x10,x6]
 let x19:=qcmpS .eql ss0 (ByteArray.mk #[108,111,97,100,49,115])
 let x20:=Proofs.YtobhhfbdelnhfaaGreatDoor.q110_a [sd1,pd0,pd1,x4,x5,pd4,x7,x8,.agg [x9,x9,.int 17,x9,x16,x9,x9,x9,x9],x17,x10,x6]
 let x21:=qcmpS .eql ss0 (ByteArray.mk #[115,116,111,114,101,49])
 let x22:=qcmpS .eql ss0 (ByteArray.mk #[115,116,111,114,101,50])
 let x23:=Proofs.YtobhhfbdelnhfaaGreatDoor.q110_a [sd1,pd0,pd1,x4,x5,pd4,x7,x8,.agg [x9,x9,.int 18,x9,.int (qwrap .i64 (qbin .sub .u8 (qidxS ss0 5) 48)),x9,x9,x9,x9],.bool true,x10,x6]
 let x24:=Proofs.YtobhhfbdelnhfaaGreatDoor.q110_a [sd1,pd0,pd1,x4,x5,pd4,x7,x8,.agg [x9,x9,.int 19,x9,x9,x9,x9,x9,x9],x17,x10,x6]
 let x25:=Proofs.YtobhhfbdelnhfaaGreatDoor.q66_a [sd1,pd0,pd1,x4,x5,pd4,x6,x7,x8,.agg [x9,x9,.int 21,x9,x9,x9,x9,x9,x9],x10]
 let x26:=Proofs.YtobhhfbdelnhfaaGreatDoor.q66_a [sd1,pd0,pd1,x4,x5,pd4,x6,x7,x8,.agg [x9,x9,.int 24,x9,x9,x9,x9,x9,x9],x10]
 let x27:=Proofs.YtobhhfbdelnhfaaGreatDoor.q66_a [sd1,pd0,pd1,x4,x5,pd4,x6,x7,x8,.agg [x9,x9,.int 26,x9,x9,x9,x9,x9,x9],x10]
 let x28:=Proofs.YtobhhfbdelnhfaaGreatDoor.q66_a [sd1,pd0,pd1,x4,x5,pd4,x6,x7,x8,.agg [x9,x9,.int 27,x9,x9,x9,x9,x9,x9],x10]
 let x29:=Proofs.YtobhhfbdelnhfaaGreatDoor.q111_a [pd0,pd1,x4,x5,pd4,x6,x7,x8,.str ss0,sd1,x10]
 bif qiteB x0 x0 (qiteB x1 x1 (qcmpS .eql ss0 (ByteArray.mk #[114,101,116])))then gd x2<|gd x3<|gd (qsome x11)<|gd (qcmp .leq 0 0)<|gd (qcmp .leq 0 1)<|gd (qcmp .leq 1 (qlenS ss0))<|gd x2<|gd x3<|ge pd0<|ge pd1<|ge x4<|ge x5<|ge pd4<|ge x7<|ge x8<|some [.agg [x9,x9,.int (qidxT (ByteArray.mk #[110,104,114]) (qsubS ss0 0 1)),x9,x9,x9,x9,x9,x9],sd1,.bool (qbool (qnth x11 1)),x6]else bif qcmpS .eql ss0 (ByteArray.mk #[112,117,115,104])then gd x2<|gd x3<|gd (qsome x12)<|gd x2<|gd x3<|ge pd0<|ge pd1<|ge x4<|ge x5<|ge pd4<|ge x7<|ge x8<|some [qnth x12 0,sd1,.bool (qbool (qnth x12 1)),x6]else bif qcmpS .eql ss0 (ByteArray.mk #[112,111,112])then gd x2<|gd x3<|gd (qsome x13)<|gd x2<|gd x3<|ge pd0<|ge pd1<|ge x4<|ge x5<|ge pd4<|ge x7<|ge x8<|some [qnth x13 0,sd1,.bool (qbool (qnth x13 1)),x6]else bif qiteB x14 x14 (qiteB x15 x15 (qcmpS .eql ss0 (ByteArray.mk #[108,111,97,100,52])))then gd (qinbS ss0 4)<|gd x2<|gd x3<|gd (qsome x18)<|gd x2<|gd x3<|ge pd0<|ge pd1<|ge x4<|ge x5<|ge pd4<|ge x7<|ge x8<|some [qnth x18 0,sd1,.bool (qbool (qnth x18 1)),.bool (qbool (qnth x18 2))]else bif qiteB x19 x19 (qcmpS .eql ss0 (ByteArray.mk #[108,111,97,100,50,115]))then gd (qinbS ss0 4)<|gd x2<|gd x3<|gd (qsome x20)<|gd x2<|gd x3<|ge pd0<|ge pd1<|ge x4<|ge x5<|ge pd4<|ge x7<|ge x8<|some [qnth x20 0,sd1,.bool (qbool (qnth x20 1)),.bool (qbool (qnth x20 2))]else bif qiteB x21 x21 (qiteB x22 x22 (qcmpS .eql ss0 (ByteArray.mk #[115,116,111,114,101,52])))then gd (qinbS ss0 5)<|gd x2<|gd x3<|gd (qsome x23)<|gd x2<|gd x3<|ge pd0<|ge pd1<|ge x4<|ge x5<|ge pd4<|ge x7<|ge x8<|some [qnth x23 0,sd1,.bool (qbool (qnth x23 1)),.bool (qbool (qnth x23 2))]else bif qcmpS .eql ss0 (ByteArray.mk #[108,101,97])then gd x2<|gd x3<|gd (qsome x24)<|gd x2<|gd x3<|ge pd0<|ge pd1<|ge x4<|ge x5<|ge pd4<|ge x7<|ge x8<|some [qnth x24 0,sd1,.bool (qbool (qnth x24 1)),.bool (qbool (qnth x24 2))]else bif qcmpS .eql ss0 (ByteArray.mk #[106,117,109,112,114])then gd x2<|gd x3<|gd (qsome x25)<|gd x2<|gd x3<|ge pd0<|ge pd1<|ge x4<|ge x5<|ge pd4<|ge x7<|ge x8<|some [qnth x25 0,sd1,.bool (qbool (qnth x25 1)),x6]else bif qcmpS .eql ss0 (ByteArray.mk #[99,97,108,108,114])then gd x2<|gd x3<|gd (qsome x26)<|gd x2<|gd x3<|ge pd0<|ge pd1<|ge x4<|ge x5<|ge pd4<|ge x7<|ge x8<|some [qnth x26 0,sd1,.bool (qbool (qnth x26 1)),x6]else bif qcmpS .eql ss0 (ByteArray.mk #[105,110])then gd x2<|gd x3<|gd (qsome x27)<|gd x2<|gd x3<|ge pd0<|ge pd1<|ge x4<|ge x5<|ge pd4<|ge x7<|ge x8<|some [qnth x27 0,sd1,.bool (qbool (qnth x27 1)),x6]else bif qcmpS .eql ss0 (ByteArray.mk #[111,117,116])then gd x2<|gd x3<|gd (qsome x28)<|gd x2<|gd x3<|ge pd0<|ge pd1<|ge x4<|ge x5<|ge pd4<|ge x7<|ge x8<|some [qnth x28 0,sd1,.bool (qbool (qnth x28 1)),x6]else gd x2<|gd x3<|gd (qsome x29)<|gd x2<|gd (qcmp .eql (qlen (qnth x29 1)) (qlen (qnth x29 1)))<|ge pd0<|ge pd1<|ge x4<|ge x5<|ge pd4<|ge x7<|ge x8<|some [qnth x29 0,qnth x29 1,.bool (qbool (qnth x29 2)),x6]:=by kernel_rfl
def F68_a_eq:=by have h:= @F68_a_e;simp only[ge_id,gd,qeqD_self,qeqI_self,qeq_len,qeq_l,cond_true]at h;exact h
def q68_a:List D→Option (List D):=veil (F68_a)
theorem q68_a_eq:q68_a=F68_a:=veil_eq _
def tb68_a:Tb:=Tb.addF tb111_a 68 S68_a (q68_a)
theorem ok_tb68_a:TbOk env (tb68_a):=addFunF ok_tb111_a 68 (by kernel_rfl) _ (q68_a_eq)
end
end Go.Proofs.YtobhhfbdelnhfaaGreatDoor
open Go Go.AM
namespace Go.Proofs.YtobhhfbdelnhfaaGreatDoor
noncomputable section
set_option maxRecDepth 100000
set_option linter.unusedSimpArgs false
set_option linter.unusedVariables false
set_option linter.defProp false
def S65_a:FunS:=⟨[⟨true,(.ptr 0 0)⟩,⟨true,(.int .i64)⟩,⟨true,(.int .u32)⟩],[(.lst true 9),(.mp false 9 22),(.lst false 5),(.cells [⟨false,(.int .u32)⟩,⟨false,(.osl 2 5)⟩,⟨false,(.map 3)⟩,⟨false,(.osl 4 9)⟩,⟨false, .bool⟩]),(.cells [⟨false,(.rows 9)⟩,⟨false,(.func 125 [(.ptr 1 0)] [])⟩,⟨true, .bool⟩,⟨false, .bool⟩,⟨false, .bool⟩,⟨true, .bool⟩])],[⟨true,(.dat 24)⟩],[(.lst true 9), .skip,(.mp false 9 22),(.lst false 5),(.cells [⟨false,(.int .u32)⟩,⟨true,(.osl 2 5)⟩,⟨true,(.map 3)⟩,⟨true,(.osl 5 9)⟩,⟨false, .bool⟩]),(.cells [⟨false,(.rows 9)⟩,⟨true,(.func 125 [(.ptr 1 0)] [])⟩,⟨true, .bool⟩,⟨false, .bool⟩,⟨false, .bool⟩,⟨true, .bool⟩])]⟩
def F65_a:List D→Option (List D):=liftX env tb68_a 60 12 65 S65_a
theorem F65_a_e (pd0:D) (pd1:D) (pn2:Int) (pb3:Bool) (pd4:D) (pb5:Bool) (pb6:Bool) (sn0:Int) (sn1:Int) (sd2:D) (sb3:Bool) (sb4:Bool):F65_a [pd0,pd1,(D.int pn2),(D.bool pb3),pd4,(D.bool pb5),(D.bool pb6),(D.int sn0),(D.int sn1),sd2,(D.bool sb3),(D.bool sb4)] =
 let x0:=qcmp .eql (qlen pd1) (qlen pd1)
 let x1:=qcmp .eql (qlen sd2) (qlen sd2)
 let x2:=D.int pn2
 let x3:=D.bool pb3
 let x4:=D.bool pb5
 let x5:=D.bool pb6
 let x6:=D.bool true
 let x7:=Proofs.YtobhhfbdelnhfaaGreatDoor.q105_a [sd2,pd0,pd1,x2,x3,pd4,x4,x5,x6,.int 1,.bool sb3]
 let x8:=D.int 0
 let x9:=D.int 20
 let x10:=D.int sn0
 let x11:=D.bool (qbool (qnth x7 1))
 let x12:=Proofs.YtobhhfbdelnhfaaGreatDoor.q106_a [pd0,pd1,x2,x3,pd4,x4,x5,x6,x8,sd2,x11]
 let x13:=qint (qnth x12 0)
 let x14:=qbin .sub .u32 (qbin .sub .u32 x13 sn1) 2
 let x15:=qnth x12 2
 let x16:=qcmp .eql (qlen x15) (qlen x15)
 let x17:=D.bool (qbool (qnth x12 3))
 gd x0<|gd x1<|gd (qsome x7)<|bif qnot (qbool (qnth x7 0))then gd x0<|gd x1<|ge pd0<|ge pd1<|ge x2<|ge x3<|ge pd4<|ge x4<|ge x5<|some [.agg [x8,x8,x9,.int 2,x8,x10,x8,x8,x8],sd2,x11,x6]else gd x0<|gd x1<|gd (qsome x12)<|bif qiteB (qiteB (qnot (qbool (qnth x12 1))) (qcmp .eql (qwrap .u32 (qwrap .i8 x14)) x14) false) (qnot pb6) false then gd x0<|gd x16<|ge pd0<|ge pd1<|ge x2<|ge x3<|ge pd4<|ge x4<|ge x5<|some [.agg [x8,.int x13,x9,.int 1,x8,x10,x8,x8,x8],x15,x17,x6]else gd x0<|gd x16<|ge pd0<|ge pd1<|ge x2<|ge x3<|ge pd4<|ge x4<|ge x5<|some [.agg [x8,.int x13,x9,.int 2,x8,x10,x8,x8,x8],x15,x17,x6]:=by kernel_rfl
def F65_a_eq:=by have h:= @F65_a_e;simp only[ge_id,gd,qeqD_self,qeqI_self,qeq_len,qeq_l,cond_true]at h;exact h
def q65_a:List D→Option (List D):=veil (F65_a)
theorem q65_a_eq:q65_a=F65_a:=veil_eq _
def tb65_a:Tb:=Tb.addF tb68_a 65 S65_a (q65_a)
theorem ok_tb65_a:TbOk env (tb65_a):=addFunF ok_tb68_a 65 (by kernel_rfl) _ (q65_a_eq)
def S67_a:FunS:=⟨[⟨true,(.ptr 0 0)⟩,⟨true,(.int .i64)⟩],[(.lst true 9),(.mp false 9 22),(.lst false 5),(.cells [⟨false,(.int .u32)⟩,⟨false,(.osl 2 5)⟩,⟨false,(.map 3)⟩,⟨false,(.osl 4 9)⟩,⟨false, .bool⟩]),(.cells [⟨false,(.rows 9)⟩,⟨false,(.func 125 [(.ptr 1 0)] [])⟩,⟨true, .bool⟩,⟨false, .bool⟩,⟨false, .bool⟩,⟨true, .bool⟩])],[⟨true,(.dat 24)⟩],[(.lst true 9), .skip,(.mp false 9 22),(.lst false 5),(.cells [⟨false,(.int .u32)⟩,⟨true,(.osl 2 5)⟩,⟨true,(.map 3)⟩,⟨true,(.osl 5 9)⟩,⟨false, .bool⟩]),(.cells [⟨false,(.rows 9)⟩,⟨true,(.func 125 [(.ptr 1 0)] [])⟩,⟨true, .bool⟩,⟨false, .bool⟩,⟨false, .bool⟩,⟨true, .bool⟩])]⟩
def F67_a:List D→Option (List D):=liftX env tb65_a 60 12 67 S67_a
theorem F67_a_e (pd0:D) (pd1:D) (pn2:Int) (pb3:Bool) (pd4:D) (pb5:Bool) (pb6:Bool) (sn0:Int) (sd1:D) (sb2:Bool) (sb3:Bool):F67_a [pd0,pd1,(D.int pn2),(D.bool pb3),pd4,(D.bool pb5),(D.bool pb6),(D.int sn0),sd1,(D.bool sb2),(D.bool sb3)] =
 let x0:=qcmp .eql (qlen pd1) (qlen pd1)
 let x1:=qcmp .eql (qlen sd1) (qlen sd1)
 let x2:=D.int pn2
 let x3:=D.bool pb3
 let x4:=D.bool pb5
 let x5:=D.bool pb6
 let x6:=D.bool sb3
 let x7:=Proofs.YtobhhfbdelnhfaaGreatDoor.q105_a [sd1,pd0,pd1,x2,x3,pd4,x4,x5,x6,.int 2,.bool sb2]
 let x8:=D.int 0
 let x9:=D.int sn0
 let x10:=D.bool (qbool (qnth x7 1))
 let x11:=Proofs.YtobhhfbdelnhfaaGreatDoor.q107_a [sd1,pd0,pd1,x2,x3,pd4,x4,x5,x6,x8,x10]
 let x12:=Proofs.YtobhhfbdelnhfaaGreatDoor.q108 [.str (qstr (qget pd4 1))]
 let x13:=D.int (qint (qnth x11 0))
 let x14:=D.bool (qbool (qnth x11 1))
 let x15:=D.bool true
 let x16:=Proofs.YtobhhfbdelnhfaaGreatDoor.q106_a [pd0,pd1,x2,x3,pd4,x4,x5,x15,.int 1,sd1,x14]
 let x17:=qint (qnth x16 0)
 let x18:=qnth x16 2
 let x19:=qcmp .eql (qlen x18) (qlen x18)
 let x20:=D.bool (qbool (qnth x16 3))
 gd x0<|gd x1<|gd (qsome x7)<|bif qnot (qbool (qnth x7 0))then gd x0<|gd x1<|ge pd0<|ge pd1<|ge x2<|ge x3<|ge pd4<|ge x4<|ge x5<|some [.agg [x8,x8,x9,x8,x8,x8,x8,x8,x8],sd1,x10,x6]else gd x0<|gd x1<|gd (qsome x11)<|gd (qinb pd4 1)<|gd (qsome x12)<|bif qbool (qnth x12 1)then gd x0<|gd x1<|ge pd0<|ge pd1<|ge x2<|ge x3<|ge pd4<|ge x4<|ge x5<|some [.agg [x8,x8,x9,x8,x8,x8,x13,.int (qint (qnth x12 0)),x8],sd1,x14,x6]else gd x0<|gd x1<|gd (qsome x16)<|bif qiteB (qiteB (qnot (qbool (qnth x16 1))) (qcmp .eql (qwrap .u32 (qwrap .i8 x17)) x17) false) (qnot pb6) false then gd x0<|gd x19<|ge pd0<|ge pd1<|ge x2<|ge x3<|ge pd4<|ge x4<|ge x5<|some [.agg [x8,.int x17,x9,.int 1,x8,x8,x13,x8,x8],x18,x20,x15]else gd x0<|gd x19<|ge pd0<|ge pd1<|ge x2<|ge x3<|ge pd4<|ge x4<|ge x5<|some [.agg [x8,.int x17,x9,.int 2,x8,x8,x13,x8,x8],x18,x20,x15]:=by kernel_rfl
def F67_a_eq:=by have h:= @F67_a_e;simp only[ge_id,gd,qeqD_self,qeqI_self,qeq_len,qeq_l,cond_true]at h;exact h
def q67_a:List D→Option (List D):=veil (F67_a)
theorem q67_a_eq:q67_a=F67_a:=veil_eq _
def tb67_a:Tb:=Tb.addF tb65_a 67 S67_a (q67_a)
theorem ok_tb67_a:TbOk env (tb67_a):=addFunF ok_tb65_a 67 (by kernel_rfl) _ (q67_a_eq)
def S37_a:FunS:=⟨[⟨true, .str⟩,⟨true,(.int .u32)⟩,⟨true,(.func 125 [(.ptr 0 0)] [])⟩],[(.lst true 9),(.mp false 9 22),(.lst false 5),(.cells [⟨false,(.int .u32)⟩,⟨false,(.osl 1 5)⟩,⟨false,(.map 2)⟩,⟨false,(.osl 3 9)⟩,⟨false, .bool⟩])],[⟨true,(.tup [(.dat 24),(.int .i64)])⟩],[(.lst true 9), .skip,(.mp false 9 22),(.lst false 5),(.cells [⟨false,(.int .u32)⟩,⟨true,(.osl 1 5)⟩,⟨true,(.map 2)⟩,⟨true,(.osl 4 9)⟩,⟨false, .bool⟩])]⟩
def F37_a:List D→Option (List D):=liftX env tb67_a 60 12 37 S37_a
theorem F37_a_e (pd0:D) (pd1:D) (pn2:Int) (pb3:Bool) (ss0:ByteArray) (sn1:Int) (sd2:D):F37_a [pd0,pd1,(D.int pn2),(D.bool pb3),(D.str ss0),(D.int sn1),sd2] =
 let x0:=ByteArray.mk #[32]
 let x1:=qcutB ss0 x0
 let x2:=Proofs.YtobhhfbdelnhfaaGreatDoor.q62 [.str (qcutA ss0 x0),.str (ByteArray.mk #[46,119])]
 let x3:=qstr (qnth x2 0)
 let x4:=D.str x3
 let x5:=Proofs.YtobhhfbdelnhfaaGreatDoor.q59 [x4,.str (ByteArray.mk #[106])]
 let x6:=qbool (qnth x5 1)
 let x7:=Proofs.YtobhhfbdelnhfaaGreatDoor.q63_26 [.str (qstr (qnth x5 0)),.int 15]
 let x8:=qiteB x6 (qsome x7) true
 let x9:=Proofs.YtobhhfbdelnhfaaGreatDoor.q59 [x4,.str (ByteArray.mk #[115,101,116])]
 let x10:=Proofs.YtobhhfbdelnhfaaGreatDoor.q63_64 [x4,.int 11]
 let x11:=qcmpS .eql x3 (ByteArray.mk #[106,109,112])
 let x12:=qcmp .eql (qlen pd1) (qlen pd1)
 let x13:=qcmp .eql (qlen sd2) (qlen sd2)
 let x14:=D.int pn2
 let x15:=D.bool pb3
 let x16:=qsplit x1 (ByteArray.mk #[44,32])
 let x17:=D.bool false
 let x18:=qbool (qnth x2 1)
 let x19:=D.bool x18
 let x20:=D.int 0
 let x21:=D.int sn1
 let x22:=Proofs.YtobhhfbdelnhfaaGreatDoor.q65_a [pd0,pd1,x14,x15,x16,x17,x19,x20,x21,sd2,x17,x17]
 let x23:=qnth x22 1
 let x24:=qcmp .eql (qlen x23) (qlen x23)
 let x25:=D.agg [x20,x20,x20,x20,x20,x20,x20,x20,x20]
 let x26:=D.int 3
 let x27:=qnth x22 0
 let x28:=D.int (qint (qfld x27 1))
 let x29:=D.int (qint (qfld x27 2))
 let x30:=D.int (qint (qfld x27 3))
 let x31:=D.int (qint (qfld x27 4))
 let x32:=D.int (qint (qfld x27 5))
 let x33:=D.int (qint (qfld x27 6))
 let x34:=D.int (qint (qfld x27 7))
 let x35:=Proofs.YtobhhfbdelnhfaaGreatDoor.q69 [.agg [x21,x28,x29,x30,x31,x32,x33,x34,.int (qint (qfld x27 8))]]
 let x36:=qiteI x6 (qint (qnth x7 0)) (-1)
 let x37:=qcmp .gtr x36 0
 let x38:=Proofs.YtobhhfbdelnhfaaGreatDoor.q65_a [pd0,pd1,x14,x15,x16,x17,x19,.int x36,x21,sd2,x17,x17]
 let x39:=qnth x38 1
 let x40:=qcmp .eql (qlen x39) (qlen x39)
 let x41:=qnth x38 0
 let x42:=D.int (qint (qfld x41 1))
 let x43:=D.int (qint (qfld x41 2))
 let x44:=D.int (qint (qfld x41 3))
 let x45:=D.int (qint (qfld x41 4))
 let x46:=D.int (qint (qfld x41 5))
 let x47:=D.int (qint (qfld x41 6))
 let x48:=D.int (qint (qfld x41 7))
 let x49:=Proofs.YtobhhfbdelnhfaaGreatDoor.q69 [.agg [x21,x42,x43,x44,x45,x46,x47,x48,.int (qint (qfld x41 8))]]
 let x50:=qbool (qnth x9 1)
 let x51:=Proofs.YtobhhfbdelnhfaaGreatDoor.q63_26 [.str (qstr (qnth x9 0)),.int 15]
 let x52:=qsome x51
 let x53:=qint (qnth x51 0)
 let x54:=D.agg [x20,x20,.int 25,x20,x20,.int (qmm .gtr x53 0),x20,x20,x20]
 let x55:=Proofs.YtobhhfbdelnhfaaGreatDoor.q66_a [sd2,pd0,pd1,x14,x15,x16,x17,x19,x17,x54,x17]
 let x56:Option (List D):=gd x12<|gd x13<|ge pd0<|ge pd1<|ge x14<|ge x15<|some [x25,x26,sd2]
 let x57:=qiteB x18 (qnot false) false
 let x58:=qiteB (qcmp .lss x53 0) true x57
 let x59:=qnth x55 0
 let x60:=D.int (qint (qfld x59 1))
 let x61:=D.int (qint (qfld x59 2))
 let x62:=D.int (qint (qfld x59 3))
 let x63:=D.int (qint (qfld x59 4))
 let x64:=D.int (qint (qfld x59 5))
 let x65:=D.int (qint (qfld x59 6))
 let x66:=D.int (qint (qfld x59 7))
 let x67:=Proofs.YtobhhfbdelnhfaaGreatDoor.q69 [.agg [x21,x60,x61,x62,x63,x64,x65,x66,.int (qint (qfld x59 8))]]
 let x68:=qint (qnth x10 0)
 let x69:=qcmp .geq x68 0
 let x70:=D.int (qbin .add .i64 5 x68)
 let x71:=Proofs.YtobhhfbdelnhfaaGreatDoor.q67_a [pd0,pd1,x14,x15,x16,x17,x19,x70,sd2,x17,x17]
 let x72:=qnth x71 1
 let x73:=qcmp .eql (qlen x72) (qlen x72)
 let x74:=qnth x71 0
 let x75:=D.int (qint (qfld x74 1))
 let x76:=D.int (qint (qfld x74 2))
 let x77:=D.int (qint (qfld x74 3))
 let x78:=D.int (qint (qfld x74 4))
 let x79:=D.int (qint (qfld x74 5))
 let x80:=D.int (qint (qfld x74 6))
 let x81:=D.int (qint (qfld x74 7))
 let x82:=Proofs.YtobhhfbdelnhfaaGreatDoor.q69 [.agg [x21,x75,x76,x77,x78,x79,x80,x81,.int (qint (qfld x74 8))]]
 let x83:=Proofs.YtobhhfbdelnhfaaGreatDoor.q68_a [pd0,pd1,x14,x15,x16,x19,x17,x4,sd2,x17,x17]
 let x84:=qnth x83 1
 let x85:=qcmp .eql (qlen x84) (qlen x84)
 let x86:=qnth x83 0
 let x87:=D.int (qint (qfld x86 1))
 let x88:=D.int (qint (qfld x86 2))
 let x89:=D.int (qint (qfld x86 3))
 let x90:=D.int (qint (qfld x86 4))
 let x91:=D.int (qint (qfld x86 5))
 let x92:=D.int (qint (qfld x86 6))
 let x93:=D.int (qint (qfld x86 7))
 let x94:=Proofs.YtobhhfbdelnhfaaGreatDoor.q69 [.agg [x21,x87,x88,x89,x90,x91,x92,x93,.int (qint (qfld x86 8))]]
 let x95:=D.list []
 let x96:=Proofs.YtobhhfbdelnhfaaGreatDoor.q65_a [pd0,pd1,x14,x15,x95,x17,x19,x20,x21,sd2,x17,x17]
 let x97:=qnth x96 1
 let x98:=qcmp .eql (qlen x97) (qlen x97)
 let x99:=qnth x96 0
 let x100:=D.int (qint (qfld x99 1))
 let x101:=D.int (qint (qfld x99 2))
 let x102:=D.int (qint (qfld x99 3))
 let x103:=D.int (qint (qfld x99 4))
 let x104:=D.int (qint (qfld x99 5))
 let x105:=D.int (qint (qfld x99 6))
 let x106:=D.int (qint (qfld x99 7))
 let x107:=Proofs.YtobhhfbdelnhfaaGreatDoor.q69 [.agg [x21,x100,x101,x102,x103,x104,x105,x106,.int (qint (qfld x99 8))]]
 let x108:=Proofs.YtobhhfbdelnhfaaGreatDoor.q65_a [pd0,pd1,x14,x15,x95,x17,x19,.int x36,x21,sd2,x17,x17]
 let x109:=qnth x108 1
 let x110:=qcmp .eql (qlen x109) (qlen x109)
 let x111:=qnth x108 0
 let x112:=D.int (qint (qfld x111 1))
 let x113:=D.int (qint (qfld x111 2))
 let x114:=D.int (qint (qfld x111 3))
 let x115:=D.int (qint (qfld x111 4))
 let x116:=D.int (qint (qfld x111 5))
 let x117:=D.int (qint (qfld x111 6))
 let x118:=D.int (qint (qfld x111 7))
 let x119:=Proofs.YtobhhfbdelnhfaaGreatDoor.q69 [.agg [x21,x112,x113,x114,x115,x116,x117,x118,.int (qint (qfld x111 8))]]
 let x120:=Proofs.YtobhhfbdelnhfaaGreatDoor.q66_a [sd2,pd0,pd1,x14,x15,x95,x17,x19,x17,x54,x17]
 let x121:=qnth x120 0
 let x122:=D.int (qint (qfld x121 1))
 let x123:=D.int (qint (qfld x121 2))
 let x124:=D.int (qint (qfld x121 3))
 let x125:=D.int (qint (qfld x121 4))
 let x126:=D.int (qint (qfld x121 5))
 let x127:=D.int (qint (qfld x121 6))
 let x128:=D.int (qint (qfld x121 7))
 let x129:=Proofs.YtobhhfbdelnhfaaGreatDoor.q69 [.agg [x21,x122,x123,x124,x125,x126,x127,x128,.int (qint (qfld x121 8))]]
 let x130:=Proofs.YtobhhfbdelnhfaaGreatDoor.q67_a [pd0,pd1,x14,x15,x95,x17,x19,x70,sd2,x17,x17]
 let x131:=qnth x130 1
 let x132:=qcmp .eql (qlen x131) (qlen x131)
 let x133:=qnth x130 0
 let x134:=D.int (qint (qfld x133 1))
 let x135:=D.int (qint (qfld x133 2))
 let x136:=D.int (qint (qfld x133 3))
 let x137:=D.int (qint (qfld x133 4))
 let x138:=D.int (qint (qfld x133 5))
 let x139:=D.int (qint (qfld x133 6))
 let x140:=D.int (qint (qfld x133 7))
 let x141:=Proofs.YtobhhfbdelnhfaaGreatDoor.q69 [.agg [x21,x134,x135,x136,x137,x138,x139,x140,.int (qint (qfld x133 8))]]
 let x142:=Proofs.YtobhhfbdelnhfaaGreatDoor.q68_a [pd0,pd1,x14,x15,x95,x19,x17,x4,sd2,x17,x17]
 let x143:=qnth x142 1
 let x144:=qcmp .eql (qlen x143) (qlen x143)
 let x145:=qnth x142 0
 let x146:=D.int (qint (qfld x145 1))
 let x147:=D.int (qint (qfld x145 2))
 let x148:=D.int (qint (qfld x145 3))
 let x149:=D.int (qint (qfld x145 4))
 let x150:=D.int (qint (qfld x145 5))
 let x151:=D.int (qint (qfld x145 6))
 let x152:=D.int (qint (qfld x145 7))
 let x153:=Proofs.YtobhhfbdelnhfaaGreatDoor.q69 [.agg [x21,x146,x147,x148,x149,x150,x151,x152,.int (qint (qfld x145 8))]]
 gd (qcmp .lss (qlenS ss0) 4294967281)<|bif qcutOk ss0 x0 then gd (qcmp .lss (qlenS x1) 4294967281)<|gd (qsome x2)<|gd (qsome x5)<|gd x8<|gd (qsome x9)<|gd (qsome x10)<|bif x11 then gd x12<|gd x13<|gd (qsome x22)<|bif qiteB (qbool (qnth x22 2)) true (qiteB x18 (qnot (qbool (qnth x22 3))) false)then gd x12<|gd x24<|ge pd0<|ge pd1<|ge x14<|ge x15<|some [x25,x26,x23]else gd (qsome x35)<|gd x12<|gd x24<|ge pd0<|ge pd1<|ge x14<|ge x15<|some [.agg [x21,x28,x29,x30,x31,x32,x33,x34,.int (qint (qnth x35 0))],x20,x23]else bif x37 then gd x12<|gd x13<|gd (qsome x38)<|bif qiteB (qbool (qnth x38 2)) true (qiteB x18 (qnot (qbool (qnth x38 3))) false)then gd x12<|gd x40<|ge pd0<|ge pd1<|ge x14<|ge x15<|some [x25,x26,x39]else gd (qsome x49)<|gd x12<|gd x40<|ge pd0<|ge pd1<|ge x14<|ge x15<|some [.agg [x21,x42,x43,x44,x45,x46,x47,x48,.int (qint (qnth x49 0))],x20,x39]else bif x50 then gd x52<|gd x12<|gd x13<|gd (qsome x55)<|bif qbool (qnth x55 1)then x56 else gd x52<|bif x58 then x56 else gd (qsome x67)<|gd x12<|gd x13<|ge pd0<|ge pd1<|ge x14<|ge x15<|some [.agg [x21,x60,x61,x62,x63,x64,x65,x66,.int (qint (qnth x67 0))],x20,sd2]else bif x69 then gd x12<|gd x13<|gd (qsome x71)<|bif qiteB (qbool (qnth x71 2)) true (qiteB x18 (qnot (qbool (qnth x71 3))) false)then gd x12<|gd x73<|ge pd0<|ge pd1<|ge x14<|ge x15<|some [x25,x26,x72]else gd (qsome x82)<|gd x12<|gd x73<|ge pd0<|ge pd1<|ge x14<|ge x15<|some [.agg [x21,x75,x76,x77,x78,x79,x80,x81,.int (qint (qnth x82 0))],x20,x72]else gd x12<|gd x13<|gd (qsome x83)<|bif qiteB (qbool (qnth x83 2)) true x57 then gd x12<|gd x85<|ge pd0<|ge pd1<|ge x14<|ge x15<|some [x25,x26,x84]else bif qbool (qnth x83 3)then gd x12<|gd x85<|ge pd0<|ge pd1<|ge x14<|ge x15<|some [x25,.int 7,x84]else gd (qsome x94)<|gd x12<|gd x85<|ge pd0<|ge pd1<|ge x14<|ge x15<|some [.agg [x21,x87,x88,x89,x90,x91,x92,x93,.int (qint (qnth x94 0))],x20,x84]else gd (qsome x2)<|gd (qsome x5)<|gd x8<|gd (qsome x9)<|gd (qsome x10)<|bif x11 then gd x12<|gd x13<|gd (qsome x96)<|bif qiteB (qbool (qnth x96 2)) true (qiteB x18 (qnot (qbool (qnth x96 3))) false)then gd x12<|gd x98<|ge pd0<|ge pd1<|ge x14<|ge x15<|some [x25,x26,x97]else gd (qsome x107)<|gd x12<|gd x98<|ge pd0<|ge pd1<|ge x14<|ge x15<|some [.agg [x21,x100,x101,x102,x103,x104,x105,x106,.int (qint (qnth x107 0))],x20,x97]else bif x37 then gd x12<|gd x13<|gd (qsome x108)<|bif qiteB (qbool (qnth x108 2)) true (qiteB x18 (qnot (qbool (qnth x108 3))) false)then gd x12<|gd x110<|ge pd0<|ge pd1<|ge x14<|ge x15<|some [x25,x26,x109]else gd (qsome x119)<|gd x12<|gd x110<|ge pd0<|ge pd1<|ge x14<|ge x15<|some [.agg [x21,x112,x113,x114,x115,x116,x117,x118,.int (qint (qnth x119 0))],x20,x109]else bif x50 then gd x52<|gd x12<|gd x13<|gd (qsome x120)<|bif qbool (qnth x120 1)then x56 else gd x52<|bif x58 then x56 else gd (qsome x129)<|gd x12<|gd x13<|ge pd0<|ge pd1<|ge x14<|ge x15<|some [.agg [x21,x122,x123,x124,x125,x126,x127,x128,.int (qint (qnth x129 0))],x20,sd2]else bif x69 then gd x12<|gd x13<|gd (qsome x130)<|bif qiteB (qbool (qnth x130 2)) true (qiteB x18 (qnot (qbool (qnth x130 3))) false)then gd x12<|gd x132<|ge pd0<|ge pd1<|ge x14<|ge x15<|some [x25,x26,x131]else gd (qsome x141)<|gd x12<|gd x132<|ge pd0<|ge pd1<|ge x14<|ge x15<|some [.agg [x21,x134,x135,x136,x137,x138,x139,x140,.int (qint (qnth x141 0))],x20,x131]else gd x12<|gd x13<|gd (qsome x142)<|bif qiteB (qbool (qnth x142 2)) true x57 then gd x12<|gd x144<|ge pd0<|ge pd1<|ge x14<|ge x15<|some [x25,x26,x143]else bif qbool (qnth x142 3)then gd x12<|gd x144<|ge pd0<|ge pd1<|ge x14<|ge x15<|some [x25,.int 7,x143]else gd (qsome x153)<|gd x12<|gd x144<|ge pd0<|ge pd1<|ge x14<|ge x15<|some [.agg [x21,x146,x147,x148,x149,x150,x151,x152,.int (qint (qnth x153 0))],x20,x143]:=by kernel_rfl
def F37_a_eq:=by have h:= @F37_a_e;simp only[ge_id,gd,qeqD_self,qeqI_self,qeq_len,qeq_l,cond_true]at h;exact h
def q37_a:List D→Option (List D):=veil (F37_a)
theorem q37_a_eq:q37_a=F37_a:=veil_eq _
def tb37_a:Tb:=Tb.addF tb67_a 37 S37_a (q37_a)
theorem ok_tb37_a:TbOk env (tb37_a):=addFunF ok_tb67_a 37 (by kernel_rfl) _ (q37_a_eq)
end
end Go.Proofs.YtobhhfbdelnhfaaGreatDoor
open Go Go.AM
namespace Go.Proofs.YtobhhfbdelnhfaaGreatDoor
noncomputable section
set_option maxRecDepth 100000
set_option linter.unusedSimpArgs false
set_option linter.unusedVariables false
set_option linter.defProp false
def S122:FunS:=⟨[⟨true,(.ptr 0 0)⟩,⟨true, .str⟩],[(.lst false 9),(.mp true 9 22),(.lst false 5),(.cells [⟨false,(.int .u32)⟩,⟨false,(.osl 1 5)⟩,⟨false,(.map 2)⟩,⟨false,(.osl 3 9)⟩,⟨false, .bool⟩])],[⟨true,(.int .i64)⟩],[(.lst false 9),(.mp true 9 22),(.lst false 5),(.cells [⟨false,(.int .u32)⟩,⟨true,(.osl 1 5)⟩,⟨true,(.map 2)⟩,⟨true,(.osl 3 9)⟩,⟨false, .bool⟩])]⟩
def F122:List D→Option (List D):=liftX env tb37_a 60 12 122 S122
theorem F122_e (pd0:D) (pd1:D) (pn2:Int) (pb3:Bool) (ss0:ByteArray) (sd1:D):F122 [pd0,pd1,(D.int pn2),(D.bool pb3),(D.str ss0),sd1] =
 let x0:=D.str ss0
 let x1:=Proofs.YtobhhfbdelnhfaaGreatDoor.q146 [x0]
 let x2:=qlen pd1
 let x3:=qcmp .eql x2 x2
 let x4:=qcmp .eql (qlen pd0) (qlen pd0)
 let x5:=D.int pn2
 let x6:=D.bool pb3
 gd (qsome x1)<|bif qnot (qbool (qnth x1 0))then gd x3<|gd x4<|ge pd0<|ge pd1<|ge x5<|ge x6<|some [.int 3,sd1]else bif qiteB (qmhas 9 sd1 x0) (qnot pb3) false then gd x3<|gd x4<|ge pd0<|ge pd1<|ge x5<|ge x6<|some [.int 8,sd1]else gd x3<|gd x4<|ge pd0<|ge pd1<|ge x5<|ge x6<|some [.int 0,qmput 9 sd1 x0 (.int (qbin .add .u32 pn2 (qwrap .u32 x2)))]:=by kernel_rfl
def F122_eq:=by have h:= @F122_e;simp only[ge_id,gd,qeqD_self,qeqI_self,qeq_len,qeq_l,cond_true]at h;exact h
def q122:List D→Option (List D):=veil (F122)
theorem q122_eq:q122=F122:=veil_eq _
def tb122:Tb:=Tb.addF tb37_a 122 S122 (q122)
theorem ok_tb122:TbOk env (tb122):=addFunF ok_tb37_a 122 (by kernel_rfl) _ (q122_eq)
def S123_3:LoopS:=⟨4,[⟨false,(.ptr 0 0)⟩,uF,uF,uF,⟨false,(.lit (.int .i64 0))⟩,⟨false,(.osl 6 5)⟩,uF,uF,uF,uF,uF,⟨false,(.rows 9)⟩,⟨false,(.int .i64)⟩,⟨true,(.int .i64)⟩,uF,uF,uF,uF,uF,uF,uF,uF,uF,uF,uF,uF,uF,uF,uF,uF,uF,uF,uF,uF,uF,uF,uF,uF,uF,uF,uF,uF,uF,uF,uF,uF],[(.lst true 5),(.lst true 9),(.lst false 5), .skip,(.mp false 9 22), .skip,(.cells [⟨false,(.int .u32)⟩,⟨false,(.osl 4 5)⟩,⟨false,(.map 2)⟩,⟨false,(.osl 5 9)⟩,⟨false, .bool⟩])],[⟨0,0,[⟨true,(.ptr 0 0)⟩,uT,uT,uT,⟨true,(.lit (.int .i64 0))⟩,⟨true,(.osl 6 5)⟩,uT,uT,uT,uT,uT,⟨false,(.rows 9)⟩,⟨false,(.int .i64)⟩,uT,uT,uT,uT,uT,uT,uT,uT,uT,uT,uT,uT,uT,uT,uT,uT,uT,uT,uT,uT,uT,uT,uT,uT,uT,uT,uT,uT,uT,uT,uT,uT,uT],[(.lst true 5),(.lst true 9),(.lst false 5), .skip,(.mp false 9 22), .skip,(.cells [⟨false,(.int .u32)⟩,⟨true,(.osl 4 5)⟩,⟨true,(.map 2)⟩,⟨true,(.osl 5 9)⟩,⟨false, .bool⟩])]⟩,⟨1,0,[uT,uT,uT,uT,⟨true,(.lit (.int .i64 3))⟩,uT,uT,uT,uT,uT,uT,⟨false,(.rows 9)⟩,⟨false,(.int .i64)⟩,uT,uT,uT,uT,uT,uT,uT,uT,uT,uT,uT,uT,uT,uT,uT,uT,uT,uT,uT,uT,uT,uT,uT,uT,uT,uT,uT,uT,uT,uT,uT,uT,uT],[(.lst true 9), .skip,(.lst true 9),(.lst false 5), .skip,(.mp false 9 22), .skip,(.cells [⟨false,(.int .u32)⟩,⟨true,(.osl 4 5)⟩,⟨true,(.map 2)⟩,⟨true,(.osl 7 9)⟩,⟨false, .bool⟩])]⟩]⟩
def st123_3 (p s:List D):Option (Sum (List D) (List D)):=stepQX env tb122 60 12 123 (loopC 123 3) S123_3 p s
theorem st123_3_e (pd0:D) (pn1:Int) (pd2:D) (pd3:D) (pn4:Int) (pb5:Bool) (sn0:Int) (sd1:D) (sd2:D):st123_3 [pd0,(D.int pn1),pd2,pd3,(D.int pn4),(D.bool pb5)] [(D.int sn0),sd1,sd2] =
 let x0:=D.str (qstr (qget pd0 sn0))
 let x1:=Proofs.YtobhhfbdelnhfaaGreatDoor.q36 [x0]
 let x2:=qnot (qbool (qnth x1 1))
 let x3:=qcmp .eql (qlen pd2) (qlen pd2)
 let x4:=qcmp .eql (qlen sd2) (qlen sd2)
 let x5:=D.int pn4
 let x6:=D.bool pb5
 let x7:=Proofs.YtobhhfbdelnhfaaGreatDoor.q125 [pd3,pd2,x5,x6,x0,sd2]
 let x8:=qnth x7 2
 let x9:=qcmp .eql (qlen x8) (qlen x8)
 let x10:=D.int pn1
 let x11:=D.list []
 let x12:=Proofs.YtobhhfbdelnhfaaGreatDoor.q49 [x11,.int (qint (qnth x7 0)),.int 4]
 let x13:=qcmp .eql (qlen sd1) (qlen sd1)
 let x14:=qapp sd1 (qnth x12 0)
 let x15:=qlen x14
 let x16:=D.int (qbin .add .i64 sn0 1)
 let x17:=Proofs.YtobhhfbdelnhfaaGreatDoor.q49 [x11,.int (qint (qnth x1 0)),.int 4]
 let x18:=qapp sd1 (qnth x17 0)
 let x19:=qlen x18
 bif qcmp .lss sn0 pn1 then gd (qinb pd0 sn0)<|gd (qsome x1)<|bif x2 then gd x3<|gd x4<|gd (qsome x7)<|bif qnot (qbool (qnth x7 1))then gd x3<|gd x9<|ge pd0<|ge x10<|ge pd2<|ge pd3<|ge x5<|ge x6<|some (Sum.inr [.int 1,x8,x11])else gd (qsome x12)<|gd x13<|gd (qmem x15 1)<|gd (qcmp .eql x15 x15)<|gd x3<|gd x9<|ge pd0<|ge x10<|ge pd2<|ge pd3<|ge x5<|ge x6<|some (Sum.inl [x16,x14,x8])else bif x2 then none else gd (qsome x17)<|gd x13<|gd (qmem x19 1)<|gd (qcmp .eql x19 x19)<|gd x3<|gd x4<|ge pd0<|ge x10<|ge pd2<|ge pd3<|ge x5<|ge x6<|some (Sum.inl [x16,x18,sd2])else gd x13<|gd x3<|gd x4<|ge pd0<|ge x10<|ge pd2<|ge pd3<|ge x5<|ge x6<|some (Sum.inr [.int 0,sd1,sd2]):=by kernel_rfl
def st123_3_eq:=by have h:= @st123_3_e;simp only[ge_id,gd,qeqD_self,qeqI_self,qeq_len,qeq_l,cond_true]at h;exact h
def l123_3:List D→List D→Option (List D):=veil fun p s=>loW (st123_3 p) s
theorem l123_3_eq:l123_3=fun p s=>loW (st123_3 p) s:=veil_eq _
def tbl123_3:Tb:=Tb.addL tb122 123 3 S123_3.n0 (mkLp S123_3 (l123_3))
theorem ok_tbl123_3:TbOk env (tbl123_3):=addLoopQ ok_tb122 123 3 (by kernel_rfl) _ (l123_3_eq)
def S123:FunS:=⟨[⟨true,(.ptr 0 0)⟩,⟨true, .str⟩],[(.lst true 9),(.mp false 9 22),(.lst true 5),(.cells [⟨false,(.int .u32)⟩,⟨false,(.osl 1 5)⟩,⟨false,(.map 2)⟩,⟨false,(.osl 3 9)⟩,⟨false, .bool⟩])],[⟨true,(.int .i64)⟩],[(.lst true 9),(.lst true 5), .skip,(.mp false 9 22), .skip,(.cells [⟨false,(.int .u32)⟩,⟨true,(.osl 4 5)⟩,⟨true,(.map 2)⟩,⟨true,(.osl 5 9)⟩,⟨false, .bool⟩])]⟩
def F123:List D→Option (List D):=liftX env tbl123_3 60 12 123 S123
theorem F123_e (pd0:D) (pn1:Int) (pb2:Bool) (ss0:ByteArray) (sd1:D) (sd2:D):F123 [pd0,(D.int pn1),(D.bool pb2),(D.str ss0),sd1,sd2] =
 let x0:=qcmp .eql (qlen sd2) (qlen sd2)
 let x1:=qsplit ss0 (ByteArray.mk #[44,32])
 let x2:=D.int pn1
 let x3:=D.bool pb2
 let x4:=Proofs.YtobhhfbdelnhfaaGreatDoor.l123_3 [x1,.int (qlen x1),sd2,pd0,x2,x3] [.int 0,.list [],sd1]
 let x5:=qnth x4 1
 let x6:=qcmp .eql (qlen x5) (qlen x5)
 let x7:=qapp sd2 x5
 let x8:=qlen x7
 gd (qcmp .lss (qlenS ss0) 4294967281)<|gd (qcmp .eql 0 (qlen (.list [])))<|gd x0<|gd (qcmp .eql (qlen sd1) (qlen sd1))<|gd (qsome x4)<|bif qcmp .eql (qint (qnth x4 0)) 0 then gd x0<|gd x6<|gd (qmem x8 1)<|gd (qcmp .eql x8 x8)<|gd (qcmp .eql (qlen (qnth x4 2)) (qlen (qnth x4 2)))<|ge pd0<|ge x2<|ge x3<|some [.int 0,qnth x4 2,x7]else gd x0<|gd x6<|ge pd0<|ge x2<|ge x3<|some [.int 3,x5,sd2]:=by kernel_rfl
def F123_eq:=by have h:= @F123_e;simp only[ge_id,gd,qeqD_self,qeqI_self,qeq_len,qeq_l,cond_true]at h;exact h
def q123:List D→Option (List D):=veil (F123)
theorem q123_eq:q123=F123:=veil_eq _
def tb123:Tb:=Tb.addF tbl123_3 123 S123 (q123)
theorem ok_tb123:TbOk env (tb123):=addFunF ok_tbl123_3 123 (by kernel_rfl) _ (q123_eq)
def S124_4:LoopS:=⟨4,[⟨false,(.ptr 0 0)⟩,uF,uF,uF,⟨false,(.lit (.int .i64 0))⟩,⟨false,(.osl 6 5)⟩,⟨true, .bool⟩,uF,uF,uF,uF,uF,⟨false,(.rows 9)⟩,⟨false,(.int .i64)⟩,⟨true,(.int .i64)⟩,uF,uF,uF,uF,uF,uF,uF,uF,uF,uF,uF,uF,uF,uF,uF,uF,uF,uF,uF,uF,uF,uF,uF,uF,uF,uF,uF,uF,uF,uF,uF,uF,uF,uF,uF,uF],[(.lst true 5),(.lst false 9),(.lst false 5), .skip,(.mp false 9 22), .skip,(.cells [⟨false,(.int .u32)⟩,⟨false,(.osl 4 5)⟩,⟨false,(.map 2)⟩,⟨false,(.osl 5 9)⟩,⟨false, .bool⟩])],[⟨0,0,[⟨true,(.ptr 0 0)⟩,uT,uT,uT,⟨true,(.lit (.int .i64 0))⟩,⟨true,(.osl 6 5)⟩,⟨true, .bool⟩,uT,uT,uT,uT,uT,⟨false,(.rows 9)⟩,⟨false,(.int .i64)⟩,uT,uT,uT,uT,uT,uT,uT,uT,uT,uT,uT,uT,uT,uT,uT,uT,uT,uT,uT,uT,uT,uT,uT,uT,uT,uT,uT,uT,uT,uT,uT,uT,uT,uT,uT,uT,uT],[(.lst true 5),(.lst false 9),(.lst false 5), .skip,(.mp false 9 22), .skip,(.cells [⟨false,(.int .u32)⟩,⟨true,(.osl 4 5)⟩,⟨true,(.map 2)⟩,⟨true,(.osl 5 9)⟩,⟨false, .bool⟩])]⟩,⟨1,0,[uT,uT,uT,uT,⟨true,(.lit (.int .i64 3))⟩,uT,uT,uT,uT,uT,uT,uT,⟨false,(.rows 9)⟩,⟨false,(.int .i64)⟩,uT,uT,uT,uT,uT,uT,uT,uT,uT,uT,uT,uT,uT,uT,uT,uT,uT,uT,uT,uT,uT,uT,uT,uT,uT,uT,uT,uT,uT,uT,uT,uT,uT,uT,uT,uT,uT],[.skip,(.lst false 9),(.lst false 5), .skip,(.mp false 9 22), .skip,(.cells [⟨false,(.int .u32)⟩,⟨true,(.osl 4 5)⟩,⟨true,(.map 2)⟩,⟨true,(.osl 5 9)⟩,⟨false, .bool⟩])]⟩]⟩
def st124_4 (p s:List D):Option (Sum (List D) (List D)):=stepQX env tb123 60 12 124 (loopC 124 4) S124_4 p s
theorem st124_4_e (pd0:D) (pn1:Int) (pd2:D) (pd3:D) (pd4:D) (pn5:Int) (pb6:Bool) (sb0:Bool) (sn1:Int) (sd2:D):st124_4 [pd0,(D.int pn1),pd2,pd3,pd4,(D.int pn5),(D.bool pb6)] [(D.bool sb0),(D.int sn1),sd2] =
 let x0:=Proofs.YtobhhfbdelnhfaaGreatDoor.q36 [.str (qstr (qget pd0 sn1))]
 let x1:=qcmp .eql (qlen pd3) (qlen pd3)
 let x2:=qcmp .eql (qlen pd2) (qlen pd2)
 let x3:=D.int pn1
 let x4:=D.int pn5
 let x5:=D.bool pb6
 let x6:=qcmp .eql (qlen sd2) (qlen sd2)
 let x7:=qint (qnth x0 0)
 let x8:=qapp sd2 (.list [.int (qwrap .u8 x7)])
 let x9:=qlen x8
 bif qcmp .lss sn1 pn1 then gd (qinb pd0 sn1)<|gd (qsome x0)<|bif qnot (qbool (qnth x0 1))then gd x1<|gd x2<|ge pd0<|ge x3<|ge pd2<|ge pd3<|ge pd4<|ge x4<|ge x5<|some (Sum.inr [.int 1])else gd x6<|gd (qmem x9 1)<|gd (qcmp .eql x9 x9)<|gd x1<|gd x2<|ge pd0<|ge x3<|ge pd2<|ge pd3<|ge pd4<|ge x4<|ge x5<|some (Sum.inl [.bool (qiteB sb0 true (qiteB (qcmp .gtr x7 255) (qnot (qcmp .eql (qwrap .u32 (qwrap .i8 x7)) x7)) false)),.int (qbin .add .i64 sn1 1),x8])else gd x6<|gd x1<|gd x2<|ge pd0<|ge x3<|ge pd2<|ge pd3<|ge pd4<|ge x4<|ge x5<|some (Sum.inr [.int 0,.bool sb0,sd2]):=by kernel_rfl
def st124_4_eq:=by have h:= @st124_4_e;simp only[ge_id,gd,qeqD_self,qeqI_self,qeq_len,qeq_l,cond_true]at h;exact h
def l124_4:List D→List D→Option (List D):=veil fun p s=>loW (st124_4 p) s
theorem l124_4_eq:l124_4=fun p s=>loW (st124_4 p) s:=veil_eq _
def tbl124_4:Tb:=Tb.addL tb123 124 4 S124_4.n0 (mkLp S124_4 (l124_4))
theorem ok_tbl124_4:TbOk env (tbl124_4):=addLoopQ ok_tb123 124 4 (by kernel_rfl) _ (l124_4_eq)
def S124:FunS:=⟨[⟨true,(.ptr 0 0)⟩,⟨true, .str⟩],[(.lst true 9),(.mp false 9 22),(.lst true 5),(.cells [⟨false,(.int .u32)⟩,⟨false,(.osl 1 5)⟩,⟨false,(.map 2)⟩,⟨false,(.osl 3 9)⟩,⟨false, .bool⟩])],[⟨true,(.int .i64)⟩],[(.lst true 9),(.lst true 5), .skip,(.mp false 9 22), .skip,(.cells [⟨false,(.int .u32)⟩,⟨true,(.osl 4 5)⟩,⟨true,(.map 2)⟩,⟨true,(.osl 5 9)⟩,⟨false, .bool⟩])]⟩
def F124:List D→Option (List D):=liftX env tbl124_4 60 12 124 S124
theorem F124_e (pd0:D) (pn1:Int) (pb2:Bool) (ss0:ByteArray) (sd1:D) (sd2:D):F124 [pd0,(D.int pn1),(D.bool pb2),(D.str ss0),sd1,sd2] =
 let x0:=qcmp .eql (qlen sd2) (qlen sd2)
 let x1:=qcmp .eql (qlen sd1) (qlen sd1)
 let x2:=qsplit ss0 (ByteArray.mk #[44,32])
 let x3:=D.int pn1
 let x4:=D.bool pb2
 let x5:=Proofs.YtobhhfbdelnhfaaGreatDoor.l124_4 [x2,.int (qlen x2),sd1,sd2,pd0,x3,x4] [.bool false,.int 0,.list []]
 let x6:=qapp sd2 (qnth x5 2)
 let x7:=qlen x6
 gd (qcmp .lss (qlenS ss0) 4294967281)<|gd (qcmp .eql 0 (qlen (.list [])))<|gd x0<|gd x1<|gd (qsome x5)<|bif qcmp .eql (qint (qnth x5 0)) 0 then bif qbool (qnth x5 1)then gd x0<|gd x1<|ge pd0<|ge x3<|ge x4<|some [.int 7,sd1,sd2]else gd x0<|gd (qcmp .eql (qlen (qnth x5 2)) (qlen (qnth x5 2)))<|gd (qmem x7 1)<|gd (qcmp .eql x7 x7)<|gd x1<|ge pd0<|ge x3<|ge x4<|some [.int 0,sd1,x6]else gd x0<|gd x1<|ge pd0<|ge x3<|ge x4<|some [.int 3,sd1,sd2]:=by kernel_rfl
def F124_eq:=by have h:= @F124_e;simp only[ge_id,gd,qeqD_self,qeqI_self,qeq_len,qeq_l,cond_true]at h;exact h
def q124:List D→Option (List D):=veil (F124)
theorem q124_eq:q124=F124:=veil_eq _
def tb124:Tb:=Tb.addF tbl124_4 124 S124 (q124)
theorem ok_tb124:TbOk env (tb124):=addFunF ok_tbl124_4 124 (by kernel_rfl) _ (q124_eq)
def S76:FunS:=⟨[⟨true,(.ptr 0 0)⟩,⟨true, .str⟩],[(.lst true 9),(.mp true 9 22),(.lst true 5),(.cells [⟨false,(.int .u32)⟩,⟨false,(.osl 1 5)⟩,⟨false,(.map 2)⟩,⟨false,(.osl 3 9)⟩,⟨false, .bool⟩])],[⟨true,(.int .i64)⟩],[(.lst true 9),(.lst true 5), .skip,(.mp true 9 22), .skip,(.cells [⟨false,(.int .u32)⟩,⟨true,(.osl 4 5)⟩,⟨true,(.map 2)⟩,⟨true,(.osl 5 9)⟩,⟨false, .bool⟩])]⟩
def F76:List D→Option (List D):=liftX env tb124 60 12 76 S76
theorem F76_e (pn0:Int) (pb1:Bool) (ss0:ByteArray) (sd1:D) (sd2:D) (sd3:D):F76 [(D.int pn0),(D.bool pb1),(D.str ss0),sd1,sd2,sd3] =
 let x0:=qlen sd3
 let x1:=qcmp .eql x0 x0
 let x2:=qcmp .eql (qlen sd1) (qlen sd1)
 let x3:=D.int pn0
 let x4:=D.bool pb1
 let x5:=D.str ss0
 let x6:=Proofs.YtobhhfbdelnhfaaGreatDoor.q62 [x5,.str (ByteArray.mk #[58])]
 let x7:=Proofs.YtobhhfbdelnhfaaGreatDoor.q122 [sd1,sd3,x3,x4,.str (qstr (qnth x6 0)),sd2]
 let x8:=Proofs.YtobhhfbdelnhfaaGreatDoor.q59 [x5,.str (ByteArray.mk #[46,119,111,114,100,32])]
 let x9:=Proofs.YtobhhfbdelnhfaaGreatDoor.q123 [sd2,x3,x4,.str (qstr (qnth x8 0)),sd1,sd3]
 let x10:=Proofs.YtobhhfbdelnhfaaGreatDoor.q59 [x5,.str (ByteArray.mk #[46,98,121,116,101,32])]
 let x11:=Proofs.YtobhhfbdelnhfaaGreatDoor.q124 [sd2,x3,x4,.str (qstr (qnth x10 0)),sd1,sd3]
 let x12:=Proofs.YtobhhfbdelnhfaaGreatDoor.q37_a [sd2,sd3,x3,x4,x5,.int (qbin .add .u32 pn0 (qwrap .u32 x0)),sd1]
 let x13:=qint (qnth x12 1)
 let x14:=qnth x12 2
 let x15:=qcmp .eql (qlen x14) (qlen x14)
 let x16:=Proofs.YtobhhfbdelnhfaaGreatDoor.q17 [qnth x12 0]
 let x17:=qint (qnth x16 1)
 let x18:=qapp sd3 (qnth x16 0)
 let x19:=qlen x18
 bif qcmpS .eql ss0 (ByteArray.mk #[])then gd x1<|gd x2<|ge x3<|ge x4<|some [.int 0,sd1,sd3,sd2]else gd (qsome x6)<|bif qbool (qnth x6 1)then gd x1<|gd x2<|gd (qsome x7)<|gd x1<|gd x2<|ge x3<|ge x4<|some [.int (qint (qnth x7 0)),sd1,sd3,qnth x7 1]else gd (qsome x8)<|bif qbool (qnth x8 1)then gd x1<|gd x2<|gd (qsome x9)<|gd (qcmp .eql (qlen (qnth x9 2)) (qlen (qnth x9 2)))<|gd (qcmp .eql (qlen (qnth x9 1)) (qlen (qnth x9 1)))<|ge x3<|ge x4<|some [.int (qint (qnth x9 0)),qnth x9 1,qnth x9 2,sd2]else gd (qsome x10)<|bif qbool (qnth x10 1)then gd x1<|gd x2<|gd (qsome x11)<|gd (qcmp .eql (qlen (qnth x11 2)) (qlen (qnth x11 2)))<|gd (qcmp .eql (qlen (qnth x11 1)) (qlen (qnth x11 1)))<|ge x3<|ge x4<|some [.int (qint (qnth x11 0)),qnth x11 1,qnth x11 2,sd2]else gd x1<|gd x2<|gd (qsome x12)<|bif qcmp .neq x13 0 then gd x1<|gd x15<|ge x3<|ge x4<|some [.int x13,x14,sd3,sd2]else gd (qsome x16)<|bif qcmp .neq x17 0 then gd x1<|gd x15<|ge x3<|ge x4<|some [.int x17,x14,sd3,sd2]else gd x1<|gd (qmem x19 1)<|gd (qcmp .eql x19 x19)<|gd x15<|ge x3<|ge x4<|some [.int 0,x14,x18,sd2]:=by kernel_rfl
def F76_eq:=by have h:= @F76_e;simp only[ge_id,gd,qeqD_self,qeqI_self,qeq_len,qeq_l,cond_true]at h;exact h
def q76:List D→Option (List D):=veil (F76)
theorem q76_eq:q76=F76:=veil_eq _
def tb76:Tb:=Tb.addF tb124 76 S76 (q76)
theorem ok_tb76:TbOk env (tb76):=addFunF ok_tb124 76 (by kernel_rfl) _ (q76_eq)
end
end Go.Proofs.YtobhhfbdelnhfaaGreatDoor
open Go Go.AM
namespace Go.Proofs.YtobhhfbdelnhfaaGreatDoor
noncomputable section
set_option maxRecDepth 100000
set_option linter.unusedSimpArgs false
set_option linter.unusedVariables false
set_option linter.defProp false
def S41_3:LoopS:=⟨4,[⟨false,(.ptr 0 0)⟩,uF,uF,uF,⟨false,(.lit (.int .i64 0))⟩,uF,uF,uF,uF,uF,uF,uF,uF,uF,⟨false,(.rows 9)⟩,⟨false,(.int .i64)⟩,⟨true,(.int .i64)⟩,uF,uF,uF,uF,uF,uF,uF,uF,uF,uF],[(.lst true 9),(.lst true 5),(.lst false 9),(.mp true 9 22),(.lst false 5),(.cells [⟨false,(.int .u32)⟩,⟨false,(.osl 4 5)⟩,⟨false,(.map 2)⟩,⟨false,(.osl 5 9)⟩,⟨false, .bool⟩])],[⟨0,0,[uT,uT,uT,uT,⟨true,(.lit (.int .i64 0))⟩,uT,uT,uT,uT,uT,uT,uT,uT,uT,⟨false,(.rows 9)⟩,⟨false,(.int .i64)⟩,uT,uT,uT,uT,uT,uT,uT,uT,uT,uT,uT],[(.lst true 9),(.lst true 5),(.lst false 9),(.mp true 9 22),(.lst false 5),(.cells [⟨false,(.int .u32)⟩,⟨true,(.osl 4 5)⟩,⟨true,(.map 2)⟩,⟨true,(.osl 5 9)⟩,⟨false, .bool⟩])]⟩,⟨1,0,[uT,uT,uT,uT,⟨true,(.int .i64)⟩,uT,uT,uT,uT,uT,uT,uT,uT,uT,⟨false,(.rows 9)⟩,⟨false,(.int .i64)⟩,uT,uT,uT,uT,uT,uT,uT,uT,uT,uT,uT],[(.lst true 9),(.lst true 5), .skip, .skip,(.lst false 9),(.mp true 9 22),(.lst false 5),(.cells [⟨false,(.int .u32)⟩,⟨true,(.osl 6 5)⟩,⟨true,(.map 2)⟩,⟨true,(.osl 7 9)⟩,⟨false, .bool⟩])]⟩]⟩
def st41_3 (p s:List D):Option (Sum (List D) (List D)):=stepQX env tb76 60 12 41 (loopC 41 3) S41_3 p s
theorem st41_3_e (pd0:D) (pn1:Int) (pd2:D) (pd3:D) (pn4:Int) (pb5:Bool) (sn0:Int) (sd1:D) (sd2:D) (sd3:D):st41_3 [pd0,(D.int pn1),pd2,pd3,(D.int pn4),(D.bool pb5)] [(D.int sn0),sd1,sd2,sd3] =
 let x0:=qcmp .eql (qlen sd2) (qlen sd2)
 let x1:=qcmp .eql (qlen sd1) (qlen sd1)
 let x2:=D.int pn4
 let x3:=D.bool pb5
 let x4:=Proofs.YtobhhfbdelnhfaaGreatDoor.q76 [x2,x3,.str (qstr (qget pd0 sn0)),sd1,sd3,sd2]
 let x5:=qint (qnth x4 0)
 let x6:=qnth x4 2
 let x7:=qcmp .eql (qlen x6) (qlen x6)
 let x8:=qnth x4 1
 let x9:=qcmp .eql (qlen x8) (qlen x8)
 let x10:=D.int pn1
 bif qcmp .lss sn0 pn1 then gd (qinb pd0 sn0)<|gd x0<|gd x1<|gd (qsome x4)<|bif qcmp .neq x5 0 then gd x7<|gd x9<|ge pd0<|ge x10<|ge pd2<|ge pd3<|ge x2<|ge x3<|some (Sum.inr [.int 1,.int x5,x8,x6,qnth x4 3])else gd x7<|gd x9<|ge pd0<|ge x10<|ge pd2<|ge pd3<|ge x2<|ge x3<|some (Sum.inl [.int (qbin .add .i64 sn0 1),x8,x6,qnth x4 3])else gd x0<|gd x1<|ge pd0<|ge x10<|ge pd2<|ge pd3<|ge x2<|ge x3<|some (Sum.inr [.int 0,sd1,sd2,sd3]):=by kernel_rfl
def st41_3_eq:=by have h:= @st41_3_e;simp only[ge_id,gd,qeqD_self,qeqI_self,qeq_len,qeq_l,cond_true]at h;exact h
def l41_3:List D→List D→Option (List D):=veil fun p s=>loW (st41_3 p) s
theorem l41_3_eq:l41_3=fun p s=>loW (st41_3 p) s:=veil_eq _
def tbl41_3:Tb:=Tb.addL tb76 41 3 S41_3.n0 (mkLp S41_3 (l41_3))
theorem ok_tbl41_3:TbOk env (tbl41_3):=addLoopQ ok_tb76 41 3 (by kernel_rfl) _ (l41_3_eq)
def S41:FunS:=⟨[⟨true,(.ptr 0 0)⟩,⟨true,(.rows 9)⟩],[(.lst false 9),(.mp true 9 22),(.lst false 5),(.cells [⟨false,(.int .u32)⟩,⟨false,(.osl 1 5)⟩,⟨false,(.map 2)⟩,⟨false,(.osl 3 9)⟩,⟨false, .bool⟩])],[⟨true,(.int .i64)⟩],[(.lst true 9),(.lst true 5),(.lst false 9),(.mp true 9 22),(.lst false 5),(.cells [⟨false,(.int .u32)⟩,⟨true,(.osl 4 5)⟩,⟨true,(.map 2)⟩,⟨true,(.osl 5 9)⟩,⟨false, .bool⟩])]⟩
def F41:List D→Option (List D):=liftX env tbl41_3 60 12 41 S41
theorem F41_e (pd0:D) (pd1:D) (pn2:Int) (pb3:Bool) (sd0:D) (sd1:D):F41 [pd0,pd1,(D.int pn2),(D.bool pb3),sd0,sd1] =
 let x0:=D.list []
 let x1:=qcmp .eql 0 (qlen x0)
 let x2:=D.int pn2
 let x3:=D.bool pb3
 let x4:=Proofs.YtobhhfbdelnhfaaGreatDoor.l41_3 [sd0,.int (qlen sd0),pd0,pd1,x2,x3] [.int 0,x0,x0,sd1]
 let x5:=qnth x4 2
 let x6:=qcmp .eql (qlen x5) (qlen x5)
 let x7:=qnth x4 1
 let x8:=qnth x4 3
 gd x1<|gd x1<|gd (qsome x4)<|bif qcmp .eql (qint (qnth x4 0)) 0 then gd x6<|gd (qcmp .eql (qlen x7) (qlen x7))<|ge pd0<|ge pd1<|ge x2<|ge x3<|some [.int 0,x7,x5,x8]else gd (qcmp .eql (qlen x8) (qlen x8))<|gd x6<|ge pd0<|ge pd1<|ge x2<|ge x3<|some [.int (qint x7),x5,x8,qnth x4 4]:=by kernel_rfl
def F41_eq:=by have h:= @F41_e;simp only[ge_id,gd,qeqD_self,qeqI_self,qeq_len,qeq_l,cond_true]at h;exact h
def q41:List D→Option (List D):=veil (F41)
theorem q41_eq:q41=F41:=veil_eq _
def tb41:Tb:=Tb.addF tbl41_3 41 S41 (q41)
theorem ok_tb41:TbOk env (tb41):=addFunF ok_tbl41_3 41 (by kernel_rfl) _ (q41_eq)
def S13_11:LoopS:=⟨0,[uF,uF,uF,uF,⟨false,(.lit (.slice none 0 0))⟩,⟨false,(.lit (.int .i64 0))⟩,⟨false,(.ptr 0 0)⟩,⟨false,(.rows 9)⟩,uF,uF,uF,uF,uF,uF,uF,uF,uF,uF,uF,uF,uF,uF,uF,uF,uF,uF,uF,uF,uF,uF,uF,uF,uF,uF,uF,uF,uF,uF,⟨false,(.osl 3 9)⟩,⟨false,(.int .i64)⟩,⟨true,(.int .i64)⟩,uF,uF,uF,uF,uF,uF,uF,uF,uF,uF,uF,uF,uF,uF,uF,uF,uF,uF,uF,uF,uF,uF,uF,uF,uF,uF,uF,uF],[(.lst false 9),(.mp false 9 22),(.lst false 5),(.cells [⟨false,(.int .u32)⟩,⟨false,(.osl 1 5)⟩,⟨false,(.map 2)⟩,⟨false,(.osl 3 9)⟩,⟨false, .bool⟩])],[⟨0,0,[uT,uT,uT,uT,⟨true,(.lit (.slice none 0 0))⟩,⟨true,(.lit (.int .i64 0))⟩,⟨true,(.ptr 0 0)⟩,⟨false,(.rows 9)⟩,uT,uT,uT,uT,uT,uT,uT,uT,uT,uT,uT,uT,uT,uT,uT,uT,uT,uT,uT,uT,uT,uT,uT,uT,uT,uT,uT,uT,uT,uT,uT,⟨false,(.int .i64)⟩,uT,uT,uT,uT,uT,uT,uT,uT,uT,uT,uT,uT,uT,uT,uT,uT,uT,uT,uT,uT,uT,uT,uT,uT,uT,uT,uT,uT,uT],[(.lst false 9),(.mp false 9 22),(.lst false 5),(.cells [⟨false,(.int .u32)⟩,⟨true,(.osl 1 5)⟩,⟨true,(.map 2)⟩,⟨true,(.osl 3 9)⟩,⟨false, .bool⟩])]⟩,⟨1,0,[uT,uT,uT,uT,⟨true,(.lit (.slice none 0 0))⟩,⟨true,(.lit (.int .i64 17))⟩,uT,⟨false,(.rows 9)⟩,uT,uT,uT,uT,uT,uT,uT,uT,uT,uT,uT,uT,uT,uT,uT,uT,uT,uT,uT,uT,uT,uT,uT,uT,uT,uT,uT,uT,uT,uT,uT,⟨false,(.int .i64)⟩,uT,uT,uT,uT,uT,uT,uT,uT,uT,uT,uT,uT,uT,uT,uT,uT,uT,uT,uT,uT,uT,uT,uT,uT,uT,uT,uT,uT,uT],[(.lst false 9),(.mp false 9 22),(.lst false 5),(.cells [⟨false,(.int .u32)⟩,uT,uT,uT,⟨false, .bool⟩])]⟩]⟩
def st13_11 (p s:List D):Option (Sum (List D) (List D)):=stepQX env tb41 60 12 13 (loopC 13 11) S13_11 p s
theorem st13_11_e (pd0:D) (pn1:Int) (pd2:D) (pd3:D) (pd4:D) (pn5:Int) (pb6:Bool) (sn0:Int):st13_11 [pd0,(D.int pn1),pd2,pd3,pd4,(D.int pn5),(D.bool pb6)] [(D.int sn0)] =
 let x0:=qlen pd2
 let x1:=D.int pn1
 let x2:=D.int pn5
 let x3:=D.bool pb6
 let x4:=qcmp .eql x0 x0
 let x5:=qcmp .eql (qlen pd4) (qlen pd4)
 bif qcmp .lss sn0 pn1 then gd (qcmp .leq 0 sn0)<|gd (qcmp .lss sn0 x0)<|gd (qinb pd2 sn0)<|bif qnot (qmhas 9 pd3 (.str (qstr (qget pd2 sn0))))then ge pd0<|ge x1<|ge pd2<|ge pd3<|ge pd4<|ge x2<|ge x3<|some (Sum.inr [.int 1])else gd x4<|gd x5<|gd x4<|ge pd0<|ge x1<|ge pd2<|ge pd3<|ge pd4<|ge x2<|ge x3<|some (Sum.inl [.int (qbin .add .i64 sn0 1)])else gd x5<|gd x4<|ge pd0<|ge x1<|ge pd2<|ge pd3<|ge pd4<|ge x2<|ge x3<|some (Sum.inr [.int 0]):=by kernel_rfl
def st13_11_eq:=by have h:= @st13_11_e;simp only[ge_id,gd,qeqD_self,qeqI_self,qeq_len,qeq_l,cond_true]at h;exact h
def l13_11:List D→List D→Option (List D):=veil fun p s=>loW (st13_11 p) s
theorem l13_11_eq:l13_11=fun p s=>loW (st13_11 p) s:=veil_eq _
def tbl13_11:Tb:=Tb.addL tb41 13 11 S13_11.n0 (mkLp S13_11 (l13_11))
theorem ok_tbl13_11:TbOk env (tbl13_11):=addLoopQ ok_tb41 13 11 (by kernel_rfl) _ (l13_11_eq)
def S13:FunS:=⟨[⟨true, .str⟩,⟨true,(.int .u32)⟩],[],[⟨true,(.tup [(.rows 5),(.int .i64)])⟩],[]⟩
def F13:List D→Option (List D):=liftX env tbl13_11 60 12 13 S13
theorem F13_e (ss0:ByteArray) (sn1:Int):F13 [(D.str ss0),(D.int sn1)] =
 let x0:=D.list []
 let x1:Option (List D):=some [x0,.int 6]
 let x2:=qcmp .eql 0 (qlen x0)
 let x3:=D.int sn1
 let x4:=D.bool false
 let x5:=qsplit ss0 (ByteArray.mk #[10])
 let x6:=Proofs.YtobhhfbdelnhfaaGreatDoor.q41 [x0,x0,x3,x4,x5,x0]
 let x7:=qint (qnth x6 0)
 let x8:=qnth x6 2
 let x9:=qlen x8
 let x10:=qnth x6 1
 let x11:=qlen x10
 let x12:=qcmp .eql x11 x11
 let x13:=qcmp .eql x9 x9
 let x14:=Proofs.YtobhhfbdelnhfaaGreatDoor.l13_11 [x5,.int x11,x10,qnth x6 3,x8,x3,x4] [.int 0]
 let x15:=Proofs.YtobhhfbdelnhfaaGreatDoor.q41 [x10,x8,x3,.bool true,x5,qnth x6 3]
 let x16:=qint (qnth x15 0)
 bif qcmp .gtr (qlenS ss0) 65536 then x1 else gd (qcmp .lss (qlenS ss0) 4294967281)<|gd x2<|gd x2<|gd (qsome x6)<|bif qcmp .neq x7 0 then some [x0,.int x7]else bif qcmp .gtr x9 65536 then x1 else gd x12<|gd x13<|gd x12<|gd (qsome x14)<|bif qcmp .eql (qint (qnth x14 0)) 0 then gd x13<|gd x12<|gd (qsome x15)<|bif qcmp .neq x16 0 then some [x0,.int x16]else gd (qcmp .eql (qlen (qnth x15 2)) (qlen (qnth x15 2)))<|some [qnth x15 2,.int 0]else some [x0,.int 17]:=by kernel_rfl
def F13_eq:=by have h:= @F13_e;simp only[ge_id,gd,qeqD_self,qeqI_self,qeq_len,qeq_l,cond_true]at h;exact h
def q13:List D→Option (List D):=veil (F13)
theorem q13_eq:q13=F13:=veil_eq _
def tb13:Tb:=Tb.addF tbl13_11 13 S13 (q13)
theorem ok_tb13:TbOk env (tb13):=addFunF ok_tbl13_11 13 (by kernel_rfl) _ (q13_eq)
end
end Go.Proofs.YtobhhfbdelnhfaaGreatDoor
open Go Go.AM
namespace Go.Proofs.YtobhhfbdelnhfaaGreatDoor
noncomputable section
set_option maxRecDepth 100000
set_option linter.unusedSimpArgs false
set_option linter.unusedVariables false
set_option linter.defProp false
def tbz113:Tb:=Tb.addF tb13 113 S113 q113
def tbz112:Tb:=Tb.addF tbz113 112 S112 q112
def tbz70:Tb:=Tb.addF tbz112 70 S70 q70
def tbz115:Tb:=Tb.addF tbz70 115 S115 q115
def tbz72:Tb:=Tb.addF tbz115 72 S72 q72
def tbz71:Tb:=Tb.addF tbz72 71 S71 q71
def tbz117:Tb:=Tb.addF tbz71 117 S117 q117
def S78_4:LoopS:=⟨0,[⟨false, .str⟩,uF,⟨false,(.lit (.bool false))⟩,⟨true,(.int .i64)⟩,uF,uF,uF,uF,uF,uF,uF,uF,uF,uF,uF,uF,uF,uF,uF,uF,uF,uF,uF,uF,uF,uF,uF,uF,uF,uF,uF,uF,uF,uF,uF,uF,uF,uF,uF,uF,uF,uF,uF,uF,uF,uF,uF,uF,uF,uF,uF,uF,uF,uF,uF,uF,uF,uF,uF,uF,uF,uF,uF,uF,uF,uF,uF,uF],[],[⟨0,0,[⟨false, .str⟩,uT,⟨true,(.lit (.bool false))⟩,uT,uT,uT,uT,uT,uT,uT,uT,uT,uT,uT,uT,uT,uT,uT,uT,uT,uT,uT,uT,uT,uT,uT,uT,uT,uT,uT,uT,uT,uT,uT,uT,uT,uT,uT,uT,uT,uT,uT,uT,uT,uT,uT,uT,uT,uT,uT,uT,uT,uT,uT,uT,uT,uT,uT,uT,uT,uT,uT,uT,uT,uT,uT,uT,uT],[]⟩,⟨1,0,[⟨false, .str⟩,uT,⟨true,(.lit (.bool false))⟩,uT,uT,uT,uT,uT,uT,uT,uT,uT,uT,uT,uT,uT,uT,uT,uT,uT,uT,uT,uT,uT,uT,uT,uT,uT,uT,uT,uT,uT,uT,uT,uT,uT,uT,uT,uT,uT,uT,uT,uT,uT,uT,uT,uT,uT,uT,uT,uT,uT,uT,uT,uT,uT,uT,uT,uT,uT,uT,uT,uT,uT,uT,uT,uT,uT],[]⟩]⟩
def st78_4 (p s:List D):Option (Sum (List D) (List D)):=stepQX env tbz117 60 12 78 (loopC 78 4) S78_4 p s
def l78_4:List D→List D→Option (List D):=veil fun p s=>loW (st78_4 p) s
def tbl78_4:Tb:=Tb.addL tbz117 78 4 S78_4.n0 (mkLp S78_4 (l78_4))
def S78:FunS:=⟨[⟨true, .str⟩],[],[⟨true, .bool⟩],[]⟩
def F78:List D→Option (List D):=liftX env tbl78_4 60 12 78 S78
def q78:List D→Option (List D):=veil (F78)
def tb78:Tb:=Tb.addF tbl78_4 78 S78 (q78)
def S77_9:LoopS:=⟨0,[⟨false, .str⟩,⟨false,(.rows 107)⟩,uF,uF,uF,uF,⟨false,(.lit (.int .u32 0))⟩,⟨false,(.lit (.bool false))⟩,⟨false,(.lit (.int .i64 0))⟩,uF,uF,⟨true,(.int .i64)⟩,uF,uF,uF,uF,uF,uF,uF,uF,uF,uF,uF,uF,uF,uF,uF,uF,uF,uF,uF,uF,uF,uF,uF,uF,uF,uF,uF,uF,uF,uF,uF,uF,uF,uF],[],[⟨0,0,[⟨false, .str⟩,⟨false,(.rows 107)⟩,uT,uT,uT,uT,⟨true,(.lit (.int .u32 0))⟩,⟨true,(.lit (.bool false))⟩,⟨true,(.lit (.int .i64 0))⟩,uT,uT,uT,uT,uT,uT,uT,uT,uT,uT,uT,uT,uT,uT,uT,uT,uT,uT,uT,uT,uT,uT,uT,uT,uT,uT,uT,uT,uT,uT,uT,uT,uT,uT,uT,uT,uT],[]⟩,⟨1,0,[⟨false, .str⟩,⟨false,(.rows 107)⟩,uT,uT,uT,uT,⟨true,(.int .u32)⟩,⟨true,(.lit (.bool true))⟩,⟨true,(.lit (.int .i64 0))⟩,uT,uT,uT,uT,uT,uT,uT,uT,uT,uT,uT,uT,uT,uT,uT,uT,uT,uT,uT,uT,uT,uT,uT,uT,uT,uT,uT,uT,uT,uT,uT,uT,uT,uT,uT,uT,uT],[]⟩]⟩
def st77_9 (p s:List D):Option (Sum (List D) (List D)):=stepQX env tb78 60 12 77 (loopC 77 9) S77_9 p s
def l77_9:List D→List D→Option (List D):=veil fun p s=>loW (st77_9 p) s
def tbl77_9:Tb:=Tb.addL tb78 77 9 S77_9.n0 (mkLp S77_9 (l77_9))
def S77:FunS:=⟨[⟨true, .str⟩,⟨true,(.rows 107)⟩,⟨true,(.int .i64)⟩],[],[⟨true,(.tup [(.int .u32), .bool,(.int .i64)])⟩],[]⟩
def F77:List D→Option (List D):=liftX env tbl77_9 60 12 77 S77
def q77:List D→Option (List D):=veil (F77)
def tb77:Tb:=Tb.addF tbl77_9 77 S77 (q77)
def S116:FunS:=⟨[⟨true,(.dat 24)⟩,⟨true, .bool⟩,⟨true, .str⟩,⟨true,(.rows 107)⟩,⟨true,(.int .i64)⟩],[],[⟨true,(.tup [(.dat 24),(.int .i64)])⟩],[]⟩
def F116:List D→Option (List D):=liftX env tb77 60 12 116 S116
def q116:List D→Option (List D):=veil (F116)
def tb116:Tb:=Tb.addF tb77 116 S116 (q116)
def S118:FunS:=⟨[⟨true,(.dat 24)⟩,⟨true, .bool⟩,⟨true, .str⟩,⟨true,(.rows 107)⟩,⟨true,(.int .i64)⟩],[],[⟨true,(.tup [(.dat 24),(.int .i64)])⟩],[]⟩
def F118:List D→Option (List D):=liftX env tb116 60 12 118 S118
def q118:List D→Option (List D):=veil (F118)
def tb118:Tb:=Tb.addF tb116 118 S118 (q118)
def S73:FunS:=⟨[⟨true,(.dat 24)⟩,⟨true, .str⟩,⟨true,(.rows 9)⟩,⟨true,(.rows 107)⟩,⟨true,(.int .i64)⟩],[],[⟨true,(.tup [(.dat 24),(.int .i64)])⟩],[]⟩
def F73:List D→Option (List D):=liftX env tb118 60 12 73 S73
def q73:List D→Option (List D):=veil (F73)
def tb73:Tb:=Tb.addF tb118 73 S73 (q73)
def S39:FunS:=⟨[⟨true, .str⟩,⟨true,(.int .u32)⟩,⟨true,(.rows 107)⟩,⟨true,(.int .i64)⟩],[],[⟨true,(.tup [(.dat 24),(.int .i64)])⟩],[]⟩
def F39:List D→Option (List D):=liftX env tb73 60 12 39 S39
def q39:List D→Option (List D):=veil (F39)
def tb39:Tb:=Tb.addF tb73 39 S39 (q39)
end
end Go.Proofs.YtobhhfbdelnhfaaGreatDoor
open Go Go.AM
namespace Go.Proofs.YtobhhfbdelnhfaaGreatDoor
set_option maxRecDepth 100000
set_option linter.unusedSimpArgs false
set_option linter.unusedVariables false
set_option linter.defProp false
def S80:FunS:=⟨[⟨true,(.dat 24)⟩],[],[⟨true,(.tup [(.rows 5),(.int .i64)])⟩],[]⟩
noncomputable def F80:List D→Option (List D):=liftX env tb39 60 12 80 S80
theorem F80_eq (sd0:D):F80 [sd0] =
 bif (qsome (q46 [sd0]))then
 bif (qcmp BinOp.neq (qint (qnth (q46 [sd0]) 0)) 0)then
 some [(D.list []),(D.int (qint (qnth (q46 [sd0]) 0)))]
 else
 bif (qsome (q119 [sd0]))then
 some [(qnth (q119 [sd0]) 0),(D.int 0)]
 else
 none
 else
 none:=by kernel_rfl
noncomputable def q80:List D→Option (List D):=veil (F80)
theorem q80_eq:q80=F80:=veil_eq _
end Go.Proofs.YtobhhfbdelnhfaaGreatDoor
open Go Go.AM
namespace Go.Proofs.YtobhhfbdelnhfaaGreatDoor
set_option maxRecDepth 100000
set_option linter.unusedSimpArgs false
set_option linter.unusedVariables false
set_option linter.defProp false
end Go.Proofs.YtobhhfbdelnhfaaGreatDoor
open Go Go.AM
namespace Go.Proofs.YtobhhfbdelnhfaaGreatDoor
noncomputable section
set_option maxRecDepth 100000
set_option linter.unusedSimpArgs false
set_option linter.unusedVariables false
set_option linter.defProp false
def tb10e:Tb:=Tb.addF tb13 10 S10 q10
theorem ok_tb10e:TbOk env tb10e:=TbOk.addF ok_tb13 (by kernel_rfl) sound10
def S6_7:LoopS:=⟨0,[⟨false,(.rows 24)⟩,⟨false,(.int .u32)⟩,uF,uF,⟨false,(.lit (.bool false))⟩,⟨true, .str⟩,⟨false,(.osl 0 5)⟩,⟨true,(.int .u32)⟩,⟨true,(.int .i64)⟩,uF,uF,uF,uF,uF,uF,uF,uF,uF,uF,uF,uF,uF,uF,uF,uF,uF,uF,uF,uF,uF,uF,uF,uF,uF,uF,uF,uF,uF,uF,uF,uF,uF,uF,uF,uF,uF,uF,uF,uF,uF,uF,uF,uF,uF,uF,uF,uF,uF,uF,uF,uF,uF,uF,uF,uF,uF,uF,uF,uF,uF,uF,uF,uF,uF,uF,uF,uF,uF,uF,uF,uF,uF,uF,uF],[(.lst true 5)],[⟨0,0,[⟨false,(.rows 24)⟩,⟨false,(.int .u32)⟩,uT,uT,⟨true,(.lit (.bool false))⟩,⟨true, .str⟩,⟨true,(.osl 0 5)⟩,uT,uT,uT,uT,uT,uT,uT,uT,uT,uT,uT,uT,uT,uT,uT,uT,uT,uT,uT,uT,uT,uT,uT,uT,uT,uT,uT,uT,uT,uT,uT,uT,uT,uT,uT,uT,uT,uT,uT,uT,uT,uT,uT,uT,uT,uT,uT,uT,uT,uT,uT,uT,uT,uT,uT,uT,uT,uT,uT,uT,uT,uT,uT,uT,uT,uT,uT,uT,uT,uT,uT,uT,uT,uT,uT,uT,uT],[(.lst true 5)]⟩]⟩
def st6_7 (p s:List D):Option (Sum (List D) (List D)):=stepQX env tb10e 60 12 6 (loopC 6 7) S6_7 p s
theorem st6_7_e (pd0:D) (pn1:Int) (ss0:ByteArray) (sn1:Int) (sn2:Int) (sd3:D):st6_7 [pd0,(D.int pn1)] [(D.str ss0),(D.int sn1),(D.int sn2),sd3] =
 let x0:=qget pd0 sn2
 let x1:=qint (qfld x0 2)
 let x2:=D.int sn1
 let x3:=qint (qfld x0 1)
 let x4:=D.int (qint (qfld x0 3))
 let x5:=D.int (qint (qfld x0 4))
 let x6:=D.int (qint (qfld x0 5))
 let x7:=D.int (qint (qfld x0 6))
 let x8:=D.int (qint (qfld x0 7))
 let x9:=D.int (qint (qfld x0 8))
 let x10:List D:=[.agg [x2,.int (qbin .add .u32 (qbin .sub .u32 x3 (qint (qfld x0 0))) sn1),.int x1,x4,x5,x6,x7,x8,x9]]
 let x11:=Proofs.YtobhhfbdelnhfaaGreatDoor.q16 x10
 let x12:=qcmp .eql (qlen sd3) (qlen sd3)
 let x13:=D.int pn1
 let x14:=D.int (qbin .add .i64 sn2 1)
 let x15:Option (List D ⊕ List D):=gd x12<|ge pd0<|ge x13<|some (Sum.inl [.str ss0,x2,x14,sd3])
 let x16:=Proofs.YtobhhfbdelnhfaaGreatDoor.q8 x10
 let x17:=qstr (qnth x16 0)
 let x18:=qcat ss0 x17
 let x19:=ByteArray.mk #[10]
 let x20:=Proofs.YtobhhfbdelnhfaaGreatDoor.q17 x10
 let x21:=qapp sd3 (qnth x20 0)
 let x22:=qlen x21
 let x23:List D:=[.agg [x2,.int x3,.int x1,x4,x5,x6,x7,x8,x9]]
 let x24:=Proofs.YtobhhfbdelnhfaaGreatDoor.q16 x23
 let x25:=Proofs.YtobhhfbdelnhfaaGreatDoor.q8 x23
 let x26:=qstr (qnth x25 0)
 let x27:=qcat ss0 x26
 let x28:=Proofs.YtobhhfbdelnhfaaGreatDoor.q17 x23
 let x29:=qapp sd3 (qnth x28 0)
 let x30:=qlen x29
 bif qcmp .lss sn2 (qlen pd0)then gd (qinb pd0 sn2)<|bif qiteB (qcmp .eql x1 20) true (qcmp .eql x1 23)then gd (qsome x11)<|bif qnot (qbool (qnth x11 0))then x15 else gd (qsome x16)<|gd (qcatOk ss0 x17)<|gd (qcatOk x18 x19)<|gd (qsome x20)<|gd x12<|gd (qmem x22 1)<|gd (qcmp .eql x22 x22)<|ge pd0<|ge x13<|some (Sum.inl [.str (qcat x18 x19),.int (qbin .add .u32 sn1 (qwrap .u32 (qlen (qnth x20 0)))),x14,x21])else gd (qsome x24)<|bif qnot (qbool (qnth x24 0))then x15 else gd (qsome x25)<|gd (qcatOk ss0 x26)<|gd (qcatOk x27 x19)<|gd (qsome x28)<|gd x12<|gd (qmem x30 1)<|gd (qcmp .eql x30 x30)<|ge pd0<|ge x13<|some (Sum.inl [.str (qcat x27 x19),.int (qbin .add .u32 sn1 (qwrap .u32 (qlen (qnth x28 0)))),x14,x29])else gd x12<|ge pd0<|ge x13<|some (Sum.inr [.int 0,.str ss0,sd3]):=by kernel_rfl
def st6_7_eq:=by have h:= @st6_7_e;simp only[ge_id,gd,qeqD_self,qeqI_self,qeq_len,qeq_l,cond_true]at h;exact h
def l6_7:List D→List D→Option (List D):=veil fun p s=>loW (st6_7 p) s
theorem l6_7_eq:l6_7=fun p s=>loW (st6_7 p) s:=veil_eq _
def tbl6_7:Tb:=Tb.addL tb10e 6 7 S6_7.n0 (mkLp S6_7 (l6_7))
theorem ok_tbl6_7:TbOk env (tbl6_7):=addLoopQ ok_tb10e 6 7 (by kernel_rfl) _ (l6_7_eq)
def S6:FunS:=⟨[⟨true,(.rows 24)⟩,⟨true,(.int .u32)⟩],[],[⟨true, .bool⟩],[]⟩
def F6:List D→Option (List D):=liftX env tbl6_7 60 12 6 S6
theorem F6_e (sd0:D) (sn1:Int):F6 [sd0,(D.int sn1)] =
 let x0:=Proofs.YtobhhfbdelnhfaaGreatDoor.q10 []
 let x1:=qbool (qnth x0 0)
 let x2:=D.int sn1
 let x3:=Proofs.YtobhhfbdelnhfaaGreatDoor.l6_7 [sd0,x2] [.str (ByteArray.mk #[]),x2,.int 0,.list []]
 let x4:=Proofs.YtobhhfbdelnhfaaGreatDoor.q13 [.str (qstr (qnth x3 1)),x2]
 let x5:=qcmp .eql (qint (qnth x4 1)) 0
 let x6:=qiteB x5 (qcmpS .eql (qtext (qnth x4 0)) (qtext (qnth x3 2))) false
 bif qcmp .gtr (qlen sd0) 40 then gd (qsome x0)<|some [.bool x1]else gd (qcmp .eql 0 (qlen (.list [])))<|gd (qsome x3)<|gd (qsome x4)<|gd (qiteB x5 (qcmp .eql (qlen (qnth x3 2)) (qlen (qnth x3 2))) true)<|gd (qiteB x6 (qsome x0) true)<|some [.bool (qiteB x6 x1 false)]:=by kernel_rfl
def F6_eq:=by have h:= @F6_e;simp only[ge_id,gd,qeqD_self,qeqI_self,qeq_len,qeq_l,cond_true]at h;exact h
def q6:List D→Option (List D):=veil (F6)
theorem q6_eq:q6=F6:=veil_eq _
end
end Go.Proofs.YtobhhfbdelnhfaaGreatDoor
