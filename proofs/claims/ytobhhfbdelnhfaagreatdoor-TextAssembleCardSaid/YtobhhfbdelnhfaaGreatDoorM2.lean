/-
  The fixed example 'exampleHolds' of law04, run in the kernel over the library's contracts of Index and Count.
-/
import Derived.Test.YtobhhfbdelnhfaaGreatDoorM1
import Derived.KernelRfl
set_option linter.unusedVariables false
set_option linter.unusedSimpArgs false
namespace Go.Proofs.YtobhhfbdelnhfaaGreatDoor
open Go Go.AM
set_option maxRecDepth 100000
theorem indexSaid137:IndexSaid Tryz.prog 137 1:=fun s sub m w hs hm=>Tryz.stringslite_Index s sub m w hs hm
theorem countSaid121:CountSaid Tryz.prog 121:=fun s c w=>Tryz.strings_Count_one s c w
noncomputable def tbX:Tb:=(Tb.nil.add 137 (idxC 1) (fun _ _=>[])).add 121 cntC (fun _ _=>[])
noncomputable def envX:Env:={P:=Tryz.prog,fn:=fun f=>(Tryz.prog.funcs[f]?).bind fun fn=>fn.body.map fun c=>⟨c,fn.ntmps,fn.results.toList⟩,isPure:=fun f=> !([37,41,65,66,67,68,76,105,106,107,110,111,134,122,123,124,125,17,139,49,96,130].elem f),isFrz:=fun _=>false,clr:=false,pre:=tbX.O,lp:=fun _ _=>none,n0:=0}
theorem envXOk:EnvOk envX:=by
 intro f F h
 refine envOk f F ?_
 rw[envFn]
 exact h
theorem tbXOk:TbOk envX tbX:=(TbOk.nil.add (by kernel_rfl) fun args H v H' h _=>idxC_ok indexSaid137 args H v H' h).add (by kernel_rfl) fun args H v H' h _=>cntC_ok countSaid121 args H v H' h
def S10:FunS:=⟨[],[],[⟨true, .bool⟩],[]⟩
theorem ex10:liftC envX tbX (runF envX tbX 5000 5000).d 10 S10 []=some [.bool true]:=by kernel_rfl
noncomputable def q10:List D→Option (List D):=veil fun ds=>liftC envX tbX (runF envX tbX 5000 5000).d 10 S10 ds
theorem q10_eq:q10 []=some [.bool true]:=by unfold q10;rw[veil_eq];exact ex10
theorem sound10:SoundF env.P 10 S10 q10:=by
 unfold q10;rw[veil_eq]
 exact liftC_sound envX tbX (runF_sound envXOk (fun _ _=>rfl) rfl tbXOk 5000 5000)
end Go.Proofs.YtobhhfbdelnhfaaGreatDoor
open Go Go.AM
namespace Go.Proofs.YtobhhfbdelnhfaaGreatDoor
noncomputable section
set_option maxRecDepth 100000
set_option linter.unusedSimpArgs false
set_option linter.unusedVariables false
set_option linter.defProp false
def S49_5:LoopS:=⟨0,[uF,⟨false,(.int .u32)⟩,uF,uF,uF,uF,⟨false,(.lit (.slice none 0 0))⟩,⟨false,(.osl 0 5)⟩,uF,uF,uF,uF,uF,uF,uF,⟨false,(.int .i64)⟩,⟨true,(.int .i64)⟩,uF,uF,uF,uF,uF,uF,uF,uF,uF,uF,uF,uF],[(.lst true 5)],[⟨0,0,[uT,⟨false,(.int .u32)⟩,uT,uT,uT,uT,⟨true,(.lit (.slice none 0 0))⟩,⟨true,(.osl 0 5)⟩,uT,uT,uT,uT,uT,uT,uT,⟨false,(.int .i64)⟩,uT,uT,uT,uT,uT,uT,uT,uT,uT,uT,uT,uT,uT],[(.lst true 5)]⟩]⟩
def st49_5 (p s:List D):Option (Sum (List D) (List D)):=stepQX env tb130 60 12 49 (loopC 49 5) S49_5 p s
theorem st49_5_e (pn0:Int) (pn1:Int) (sn0:Int) (sd1:D):st49_5 [(D.int pn0),(D.int pn1)] [(D.int sn0),sd1] =
 let x0:=qbin .mul .i64 8 sn0
 let x1:=qcmp .eql (qlen sd1) (qlen sd1)
 let x2:=qapp sd1 (.list [.int (qwrap .u8 (qbin .shr .u32 pn0 x0))])
 let x3:=qlen x2
 bif qcmp .lss sn0 pn1 then gd (qcmp .geq x0 0)<|gd x1<|gd (qmem x3 1)<|gd (qcmp .eql x3 x3)<|ge (.int pn0)<|ge (.int pn1)<|some (Sum.inl [.int (qbin .add .i64 sn0 1),x2])else gd x1<|ge (.int pn0)<|ge (.int pn1)<|some (Sum.inr [.int 0,sd1]):=by kernel_rfl
def st49_5_eq:=by have h:= @st49_5_e;simp only[ge_id,gd,qeqD_self,qeqI_self,qeq_len,qeq_l,cond_true]at h;exact h
def l49_5:List D→List D→Option (List D):=veil fun p s=>loW (st49_5 p) s
theorem l49_5_eq:l49_5=fun p s=>loW (st49_5 p) s:=veil_eq _
def tbl49_5:Tb:=Tb.addL tb130 49 5 S49_5.n0 (mkLp S49_5 (l49_5))
theorem ok_tbl49_5:TbOk env (tbl49_5):=addLoopQ ok_tb130 49 5 (by kernel_rfl) _ (l49_5_eq)
def S49:FunS:=⟨[⟨true,(.rows 5)⟩,⟨true,(.int .u32)⟩,⟨true,(.int .i64)⟩],[],[⟨true,(.rows 5)⟩],[]⟩
def F49:List D→Option (List D):=liftX env tbl49_5 60 12 49 S49
theorem F49_e (sd0:D) (sn1:Int) (sn2:Int):F49 [sd0,(D.int sn1),(D.int sn2)] =
 let x0:=Proofs.YtobhhfbdelnhfaaGreatDoor.q130 [sd0]
 let x1:=qnth x0 0
 let x2:=qcmp .eql (qlen x1) (qlen x1)
 let x3:=Proofs.YtobhhfbdelnhfaaGreatDoor.l49_5 [.int sn1,.int sn2] [.int 0,x1]
 gd (qsome x0)<|gd x2<|gd x2<|bif qnot (qiteB (qiteB (qcmp .eql sn2 1) true (qcmp .eql sn2 2)) true (qcmp .eql sn2 4))then gd x2<|some [x1]else gd x2<|gd (qsome x3)<|gd (qcmp .eql (qlen (qnth x3 1)) (qlen (qnth x3 1)))<|some [qnth x3 1]:=by kernel_rfl
def F49_eq:=by have h:= @F49_e;simp only[ge_id,gd,qeqD_self,qeqI_self,qeq_len,qeq_l,cond_true]at h;exact h
def q49:List D→Option (List D):=veil (F49)
theorem q49_eq:q49=F49:=veil_eq _
def tb49:Tb:=Tb.addF tbl49_5 49 S49 (q49)
theorem ok_tb49:TbOk env (tb49):=addFunF ok_tbl49_5 49 (by kernel_rfl) _ (q49_eq)
def S17:FunS:=⟨[⟨true,(.dat 24)⟩],[],[⟨true,(.tup [(.rows 5),(.int .i64)])⟩],[]⟩
def F17:List D→Option (List D):=liftX env tb49 60 12 17 S17
theorem F17_e (sd0:D):F17 [sd0] =
 let x0:=Proofs.YtobhhfbdelnhfaaGreatDoor.q47 [sd0]
 let x1:=qint (qnth x0 2)
 let x2:=qint (qnth x0 1)
 let x3:=Proofs.YtobhhfbdelnhfaaGreatDoor.q48 [.int x2]
 let x4:=D.int (qint (qnth x0 0))
 let x5:=qint (qfld sd0 6)
 let x6:=D.int (qwrap .u8 x5)
 let x7:=D.list [x4,x6]
 let x8:=D.int 0
 let x9:=D.int (qwrap .u8 (qbin .or .i64 (qbin .shl .i64 x5 4) (qint (qfld sd0 7))))
 let x10:=qint (qfld sd0 1)
 let x11:=D.int (qwrap .u8 x10)
 let x12:=Proofs.YtobhhfbdelnhfaaGreatDoor.q49 [x7,.int x10,.int 4]
 let x13:=qbin .sub .u32 x10 (qbin .add .u32 (qint (qfld sd0 0)) (qwrap .u32 (qint (qnth x3 0))))
 let x14:=D.list [x4]
 let x15:=Proofs.YtobhhfbdelnhfaaGreatDoor.q49 [x14,.int x13,.int 4]
 gd (qsome x0)<|bif qcmp .neq x1 0 then some [.list [],.int x1]else gd (qsome x3)<|bif qcmp .eql x2 2 then some [x7,x8]else bif qcmp .eql x2 3 then some [.list [x4,x9],x8]else bif qcmp .eql x2 4 then some [.list [x4,x6,x11],x8]else bif qcmp .eql x2 5 then some [.list [x4,x9,x11],x8]else bif qcmp .eql x2 6 then gd (qsome x12)<|some [qnth x12 0,x8]else bif qcmp .eql x2 7 then some [.list [x4,.int (qwrap .u8 x13)],x8]else bif qcmp .eql x2 8 then gd (qsome x15)<|some [qnth x15 0,x8]else some [x14,x8]:=by kernel_rfl
def F17_eq:=by have h:= @F17_e;simp only[ge_id,gd,qeqD_self,qeqI_self,qeq_len,qeq_l,cond_true]at h;exact h
def q17:List D→Option (List D):=veil (F17)
theorem q17_eq:q17=F17:=veil_eq _
def tb17:Tb:=Tb.addF tb49 17 S17 (q17)
theorem ok_tb17:TbOk env (tb17):=addFunF ok_tb49 17 (by kernel_rfl) _ (q17_eq)
end
end Go.Proofs.YtobhhfbdelnhfaaGreatDoor
open Go Go.AM
namespace Go.Proofs.YtobhhfbdelnhfaaGreatDoor
noncomputable section
set_option maxRecDepth 100000
set_option linter.unusedSimpArgs false
set_option linter.unusedVariables false
set_option linter.defProp false
def S146_2:LoopS:=⟨0,[⟨false, .str⟩,uF,⟨false,(.lit (.bool false))⟩,uF,uF,uF,uF,uF,uF,⟨false,(.ptr 0 0)⟩,uF,uF,uF,uF,uF,uF,uF,uF,uF,uF,uF,uF,uF,uF,uF,uF,uF,uF,uF,uF,uF,uF,uF,uF,uF,uF,uF,uF,uF,uF,uF,uF,uF,uF,uF,uF,uF,uF,uF,uF,uF,uF,uF,uF,uF,uF,uF,uF,uF,uF,uF,uF,uF,uF,uF,uF,uF],[.sit],[⟨0,0,[⟨false, .str⟩,uT,⟨true,(.lit (.bool false))⟩,uT,uT,uT,uT,uT,uT,uT,uT,uT,uT,uT,uT,uT,uT,uT,uT,uT,uT,uT,uT,uT,uT,uT,uT,uT,uT,uT,uT,uT,uT,uT,uT,uT,uT,uT,uT,uT,uT,uT,uT,uT,uT,uT,uT,uT,uT,uT,uT,uT,uT,uT,uT,uT,uT,uT,uT,uT,uT,uT,uT,uT,uT,uT,uT],[.sit]⟩,⟨1,0,[⟨false, .str⟩,uT,⟨true,(.lit (.bool false))⟩,uT,uT,uT,uT,uT,uT,uT,uT,uT,uT,uT,uT,uT,uT,uT,uT,uT,uT,uT,uT,uT,uT,uT,uT,uT,uT,uT,uT,uT,uT,uT,uT,uT,uT,uT,uT,uT,uT,uT,uT,uT,uT,uT,uT,uT,uT,uT,uT,uT,uT,uT,uT,uT,uT,uT,uT,uT,uT,uT,uT,uT,uT,uT,uT],[.sit]⟩]⟩
def st146_2 (p s:List D):Option (Sum (List D) (List D)):=stepQX env tb17 60 12 146 (loopC 146 2) S146_2 p s
theorem st146_2_e (ps0:ByteArray) (ps1:ByteArray) (sn0:Int):st146_2 [(D.str ps0),(D.str ps1)] [(D.int sn0)] =
 let x0:=qcmp .lss sn0 (qlenS ps1)
 let x1:=qrune ps1 sn0
 let x2:=D.str ps0
 let x3:=D.str ps1
 let x4:=D.int (qiteI x0 (qrw ps1 sn0) sn0)
 bif x0 then gd x0<|gd x0<|bif qiteB (qnot (qiteB (qiteB (qiteB (qcmp .geq x1 97) (qcmp .leq x1 122) false) true (qiteB (qcmp .geq x1 65) (qcmp .leq x1 90) false)) true (qcmp .eql x1 95))) (qiteB (qcmp .eql sn0 0) true (qiteB (qcmp .neq x1 46) (qiteB (qcmp .lss x1 48) true (qcmp .gtr x1 57)) false)) false then ge x2<|ge x3<|some (Sum.inr [.int 1,x4])else ge x2<|ge x3<|some (Sum.inl [x4])else ge x2<|ge x3<|some (Sum.inr [.int 0,x4]):=by kernel_rfl
def st146_2_eq:=by have h:= @st146_2_e;simp only[ge_id,gd,qeqD_self,qeqI_self,qeq_len,qeq_l,cond_true]at h;exact h
def l146_2:List D→List D→Option (List D):=veil fun p s=>loW (st146_2 p) s
theorem l146_2_eq:l146_2=fun p s=>loW (st146_2 p) s:=veil_eq _
def tbl146_2:Tb:=Tb.addL tb17 146 2 S146_2.n0 (mkLp S146_2 (l146_2))
theorem ok_tbl146_2:TbOk env (tbl146_2):=addLoopQ ok_tb17 146 2 (by kernel_rfl) _ (l146_2_eq)
def S146:FunS:=⟨[⟨true, .str⟩],[],[⟨true, .bool⟩],[]⟩
def F146:List D→Option (List D):=liftX env tbl146_2 60 12 146 S146
theorem F146_eq (ss0:ByteArray):F146 [(D.str ss0)] =
 bif (qsome (l146_2 [(D.str ss0),(D.str ss0)] [(D.int 0)]))then
 bif (qcmp BinOp.eql (qint (qnth (l146_2 [(D.str ss0),(D.str ss0)] [(D.int 0)]) 0)) 0)then
 bif (qsome (q108 [(D.str ss0)]))then
 some [(D.bool (qiteB (qiteB (qcmp BinOp.geq (qlenS ss0) 1) (qcmp BinOp.leq (qlenS ss0) 32) Bool.false) (qnot (qbool (qnth (q108 [(D.str ss0)]) 1))) Bool.false))]
 else
 none
 else
 some [(D.bool Bool.false)]
 else
 none:=by kernel_rfl
def q146:List D→Option (List D):=veil (F146)
theorem q146_eq:q146=F146:=veil_eq _
def tb146:Tb:=Tb.addF tbl146_2 146 S146 (q146)
theorem ok_tb146:TbOk env (tb146):=addFunF ok_tbl146_2 146 (by kernel_rfl) _ (q146_eq)
def S125:FunS:=⟨[⟨true,(.ptr 0 0)⟩,⟨true, .str⟩],[(.lst true 9),(.mp false 9 22),(.lst false 5),(.cells [⟨false,(.int .u32)⟩,⟨false,(.osl 1 5)⟩,⟨false,(.map 2)⟩,⟨false,(.osl 3 9)⟩,⟨false, .bool⟩])],[⟨true,(.tup [(.int .u32), .bool])⟩],[(.lst true 9), .skip,(.mp false 9 22),(.lst false 5),(.cells [⟨false,(.int .u32)⟩,⟨true,(.osl 1 5)⟩,⟨true,(.map 2)⟩,⟨true,(.osl 4 9)⟩,⟨false, .bool⟩])]⟩
def F125:List D→Option (List D):=liftX env tb146 60 12 125 S125
theorem F125_e (pd0:D) (pd1:D) (pn2:Int) (pb3:Bool) (ss0:ByteArray) (sd1:D):F125 [pd0,pd1,(D.int pn2),(D.bool pb3),(D.str ss0),sd1] =
 let x0:=Proofs.YtobhhfbdelnhfaaGreatDoor.q146 [.str ss0]
 let x1:=qcmp .eql (qlen pd1) (qlen pd1)
 let x2:=qcmp .eql (qlen sd1) (qlen sd1)
 let x3:=qapp sd1 (.list [.str ss0])
 let x4:=qlen x3
 gd (qsome x0)<|bif qnot (qbool (qnth x0 0))then gd x1<|gd x2<|ge pd0<|ge pd1<|ge (.int pn2)<|ge (.bool pb3)<|some [.int 0,.bool false,sd1]else gd x2<|gd (qmem x4 16)<|gd x1<|gd (qcmp .eql x4 x4)<|ge pd0<|ge pd1<|ge (.int pn2)<|ge (.bool pb3)<|some [.int (qint (qmget 9 (.int 0) pd0 (.str ss0))),.bool true,x3]:=by kernel_rfl
def F125_eq:=by have h:= @F125_e;simp only[ge_id,gd,qeqD_self,qeqI_self,qeq_len,qeq_l,cond_true]at h;exact h
def q125:List D→Option (List D):=veil (F125)
theorem q125_eq:q125=F125:=veil_eq _
def tb125:Tb:=Tb.addF tb146 125 S125 (q125)
theorem ok_tb125:TbOk env (tb125):=addFunF ok_tb146 125 (by kernel_rfl) _ (q125_eq)
end
end Go.Proofs.YtobhhfbdelnhfaaGreatDoor
open Go Go.AM
namespace Go.Proofs.YtobhhfbdelnhfaaGreatDoor
noncomputable section
set_option maxRecDepth 100000
set_option linter.unusedSimpArgs false
set_option linter.unusedVariables false
set_option linter.defProp false
def S105_a:FunS:=⟨[⟨true,(.ptr 0 0)⟩,⟨true,(.int .i64)⟩],[(.lst false 9),(.mp false 9 22),(.lst false 5),(.cells [⟨false,(.int .u32)⟩,⟨false,(.osl 2 5)⟩,⟨false,(.map 3)⟩,⟨false,(.osl 4 9)⟩,⟨false, .bool⟩]),(.cells [⟨false,(.rows 9)⟩,⟨false,(.func 125 [(.ptr 1 0)] [])⟩,⟨true, .bool⟩,⟨false, .bool⟩,⟨false, .bool⟩,⟨false, .bool⟩])],[⟨true, .bool⟩],[(.lst false 9),(.mp false 9 22),(.lst false 5),(.cells [⟨false,(.int .u32)⟩,⟨true,(.osl 2 5)⟩,⟨true,(.map 3)⟩,⟨true,(.osl 4 9)⟩,⟨false, .bool⟩]),(.cells [⟨false,(.rows 9)⟩,⟨true,(.func 125 [(.ptr 1 0)] [])⟩,⟨true, .bool⟩,⟨false, .bool⟩,⟨false, .bool⟩,⟨false, .bool⟩])]⟩
def F105_a:List D→Option (List D):=liftX env tb125 60 12 105 S105_a
theorem F105_a_e (pd0:D) (pd1:D) (pd2:D) (pn3:Int) (pb4:Bool) (pd5:D) (pb6:Bool) (pb7:Bool) (pb8:Bool) (sn0:Int) (sb1:Bool):F105_a [pd0,pd1,pd2,(D.int pn3),(D.bool pb4),pd5,(D.bool pb6),(D.bool pb7),(D.bool pb8),(D.int sn0),(D.bool sb1)] =
 let x0:=qcmp .eql (qlen pd2) (qlen pd2)
 let x1:=qcmp .eql (qlen pd0) (qlen pd0)
 bif qcmp .neq (qlen pd5) sn0 then gd x0<|gd x1<|ge pd0<|ge pd1<|ge pd2<|ge (.int pn3)<|ge (.bool pb4)<|ge pd5<|ge (.bool pb6)<|ge (.bool pb7)<|ge (.bool pb8)<|some [.bool false,.bool true]else gd x0<|gd x1<|ge pd0<|ge pd1<|ge pd2<|ge (.int pn3)<|ge (.bool pb4)<|ge pd5<|ge (.bool pb6)<|ge (.bool pb7)<|ge (.bool pb8)<|some [.bool (qnot sb1),.bool sb1]:=by kernel_rfl
def F105_a_eq:=by have h:= @F105_a_e;simp only[ge_id,gd,qeqD_self,qeqI_self,qeq_len,qeq_l,cond_true]at h;exact h
def q105_a:List D→Option (List D):=veil (F105_a)
theorem q105_a_eq:q105_a=F105_a:=veil_eq _
def tb105_a:Tb:=Tb.addF tb125 105 S105_a (q105_a)
theorem ok_tb105_a:TbOk env (tb105_a):=addFunF ok_tb125 105 (by kernel_rfl) _ (q105_a_eq)
def S107_a:FunS:=⟨[⟨true,(.ptr 0 0)⟩,⟨true,(.int .i64)⟩],[(.lst false 9),(.mp false 9 22),(.lst false 5),(.cells [⟨false,(.int .u32)⟩,⟨false,(.osl 2 5)⟩,⟨false,(.map 3)⟩,⟨false,(.osl 4 9)⟩,⟨false, .bool⟩]),(.cells [⟨false,(.rows 9)⟩,⟨false,(.func 125 [(.ptr 1 0)] [])⟩,⟨true, .bool⟩,⟨false, .bool⟩,⟨false, .bool⟩,⟨false, .bool⟩])],[⟨true,(.int .i64)⟩],[(.lst false 9),(.mp false 9 22),(.lst false 5),(.cells [⟨false,(.int .u32)⟩,⟨true,(.osl 2 5)⟩,⟨true,(.map 3)⟩,⟨true,(.osl 4 9)⟩,⟨false, .bool⟩]),(.cells [⟨false,(.rows 9)⟩,⟨true,(.func 125 [(.ptr 1 0)] [])⟩,⟨true, .bool⟩,⟨false, .bool⟩,⟨false, .bool⟩,⟨false, .bool⟩])]⟩
def F107_a:List D→Option (List D):=liftX env tb105_a 60 12 107 S107_a
theorem F107_a_e (pd0:D) (pd1:D) (pd2:D) (pn3:Int) (pb4:Bool) (pd5:D) (pb6:Bool) (pb7:Bool) (pb8:Bool) (sn0:Int) (sb1:Bool):F107_a [pd0,pd1,pd2,(D.int pn3),(D.bool pb4),pd5,(D.bool pb6),(D.bool pb7),(D.bool pb8),(D.int sn0),(D.bool sb1)] =
 let x0:=Proofs.YtobhhfbdelnhfaaGreatDoor.q108 [.str (qstr (qget pd5 sn0))]
 let x1:=qcmp .eql (qlen pd2) (qlen pd2)
 let x2:=qcmp .eql (qlen pd0) (qlen pd0)
 let x3:=D.int (qint (qnth x0 0))
 gd (qinb pd5 sn0)<|gd (qsome x0)<|bif qnot (qbool (qnth x0 1))then gd x1<|gd x2<|ge pd0<|ge pd1<|ge pd2<|ge (.int pn3)<|ge (.bool pb4)<|ge pd5<|ge (.bool pb6)<|ge (.bool pb7)<|ge (.bool pb8)<|some [x3,.bool true]else gd x1<|gd x2<|ge pd0<|ge pd1<|ge pd2<|ge (.int pn3)<|ge (.bool pb4)<|ge pd5<|ge (.bool pb6)<|ge (.bool pb7)<|ge (.bool pb8)<|some [x3,.bool sb1]:=by kernel_rfl
def F107_a_eq:=by have h:= @F107_a_e;simp only[ge_id,gd,qeqD_self,qeqI_self,qeq_len,qeq_l,cond_true]at h;exact h
def q107_a:List D→Option (List D):=veil (F107_a)
theorem q107_a_eq:q107_a=F107_a:=veil_eq _
def tb107_a:Tb:=Tb.addF tb105_a 107 S107_a (q107_a)
theorem ok_tb107_a:TbOk env (tb107_a):=addFunF ok_tb105_a 107 (by kernel_rfl) _ (q107_a_eq)
def S106_a:FunS:=⟨[⟨true,(.ptr 0 0)⟩,⟨true,(.int .i64)⟩],[(.lst true 9),(.mp false 9 22),(.lst false 5),(.cells [⟨false,(.int .u32)⟩,⟨false,(.osl 2 5)⟩,⟨false,(.map 3)⟩,⟨false,(.osl 4 9)⟩,⟨false, .bool⟩]),(.cells [⟨false,(.rows 9)⟩,⟨false,(.func 125 [(.ptr 1 0)] [])⟩,⟨true, .bool⟩,⟨false, .bool⟩,⟨false, .bool⟩,⟨false, .bool⟩])],[⟨true,(.tup [(.int .u32), .bool])⟩],[(.lst true 9), .skip,(.mp false 9 22),(.lst false 5),(.cells [⟨false,(.int .u32)⟩,⟨true,(.osl 2 5)⟩,⟨true,(.map 3)⟩,⟨true,(.osl 5 9)⟩,⟨false, .bool⟩]),(.cells [⟨false,(.rows 9)⟩,⟨true,(.func 125 [(.ptr 1 0)] [])⟩,⟨true, .bool⟩,⟨false, .bool⟩,⟨false, .bool⟩,⟨false, .bool⟩])]⟩
def F106_a:List D→Option (List D):=liftX env tb107_a 60 12 106 S106_a
theorem F106_a_e (pd0:D) (pd1:D) (pn2:Int) (pb3:Bool) (pd4:D) (pb5:Bool) (pb6:Bool) (pb7:Bool) (sn0:Int) (sd1:D) (sb2:Bool):F106_a [pd0,pd1,(D.int pn2),(D.bool pb3),pd4,(D.bool pb5),(D.bool pb6),(D.bool pb7),(D.int sn0),sd1,(D.bool sb2)] =
 let x0:=D.str (qstr (qget pd4 sn0))
 let x1:=Proofs.YtobhhfbdelnhfaaGreatDoor.q36 [x0]
 let x2:=qcmp .eql (qlen pd1) (qlen pd1)
 let x3:=qcmp .eql (qlen sd1) (qlen sd1)
 let x4:=D.int pn2
 let x5:=D.bool pb3
 let x6:=D.bool pb5
 let x7:=D.bool pb6
 let x8:=D.bool pb7
 let x9:=Proofs.YtobhhfbdelnhfaaGreatDoor.q125 [pd0,pd1,x4,x5,x0,sd1]
 let x10:=qbool (qnth x9 1)
 let x11:=qnth x9 2
 let x12:=qcmp .eql (qlen x11) (qlen x11)
 let x13:=D.int (qint (qnth x9 0))
 gd (qinb pd4 sn0)<|gd (qsome x1)<|bif qbool (qnth x1 1)then gd x2<|gd x3<|ge pd0<|ge pd1<|ge x4<|ge x5<|ge pd4<|ge x6<|ge x7<|ge x8<|some [.int (qint (qnth x1 0)),.bool false,sd1,.bool sb2]else gd x2<|gd x3<|gd (qsome x9)<|bif qnot x10 then gd x2<|gd x12<|ge pd0<|ge pd1<|ge x4<|ge x5<|ge pd4<|ge x6<|ge x7<|ge x8<|some [x13,.bool x10,x11,.bool true]else gd x2<|gd x12<|ge pd0<|ge pd1<|ge x4<|ge x5<|ge pd4<|ge x6<|ge x7<|ge x8<|some [x13,.bool x10,x11,.bool sb2]:=by kernel_rfl
def F106_a_eq:=by have h:= @F106_a_e;simp only[ge_id,gd,qeqD_self,qeqI_self,qeq_len,qeq_l,cond_true]at h;exact h
def q106_a:List D→Option (List D):=veil (F106_a)
theorem q106_a_eq:q106_a=F106_a:=veil_eq _
def tb106_a:Tb:=Tb.addF tb107_a 106 S106_a (q106_a)
theorem ok_tb106_a:TbOk env (tb106_a):=addFunF ok_tb107_a 106 (by kernel_rfl) _ (q106_a_eq)
end
end Go.Proofs.YtobhhfbdelnhfaaGreatDoor
open Go Go.AM
namespace Go.Proofs.YtobhhfbdelnhfaaGreatDoor
noncomputable section
set_option maxRecDepth 100000
set_option linter.unusedSimpArgs false
set_option linter.unusedVariables false
set_option linter.defProp false
def S139_a:FunS:=⟨[⟨true,(.ptr 0 0)⟩,⟨true,(.int .i64)⟩],[(.lst false 9),(.mp false 9 22),(.lst false 5),(.cells [⟨false,(.int .u32)⟩,⟨false,(.osl 2 5)⟩,⟨false,(.map 3)⟩,⟨false,(.osl 4 9)⟩,⟨false, .bool⟩]),(.cells [⟨false,(.rows 9)⟩,⟨false,(.func 125 [(.ptr 1 0)] [])⟩,⟨true, .bool⟩,⟨true, .bool⟩,⟨false, .bool⟩,⟨false, .bool⟩])],[⟨true,(.tup [(.int .i64),(.int .u32)])⟩],[(.lst false 9),(.mp false 9 22),(.lst false 5),(.cells [⟨false,(.int .u32)⟩,⟨true,(.osl 2 5)⟩,⟨true,(.map 3)⟩,⟨true,(.osl 4 9)⟩,⟨false, .bool⟩]),(.cells [⟨false,(.rows 9)⟩,⟨true,(.func 125 [(.ptr 1 0)] [])⟩,⟨true, .bool⟩,⟨true, .bool⟩,⟨false, .bool⟩,⟨false, .bool⟩])]⟩
def F139_a:List D→Option (List D):=liftX env tb106_a 60 12 139 S139_a
theorem F139_a_e (pd0:D) (pd1:D) (pd2:D) (pn3:Int) (pb4:Bool) (pd5:D) (pb6:Bool) (pb7:Bool) (sn0:Int) (sb1:Bool) (sb2:Bool):F139_a [pd0,pd1,pd2,(D.int pn3),(D.bool pb4),pd5,(D.bool pb6),(D.bool pb7),(D.int sn0),(D.bool sb1),(D.bool sb2)] =
 let x0:=Proofs.YtobhhfbdelnhfaaGreatDoor.q59 [.str (qstr (qget pd5 sn0)),.str (ByteArray.mk #[91])]
 let x1:=Proofs.YtobhhfbdelnhfaaGreatDoor.q62 [.str (qstr (qnth x0 0)),.str (ByteArray.mk #[93])]
 let x2:=qstr (qnth x1 0)
 let x3:=qlenS x2
 let x4:=qcmp .eql (qlen pd2) (qlen pd2)
 let x5:=qcmp .eql (qlen pd0) (qlen pd0)
 let x6:=D.int pn3
 let x7:=D.bool pb4
 let x8:=D.bool pb6
 let x9:=D.bool pb7
 let x10:=D.int 0
 let x11:=D.bool true
 let x12:Option (List D):=gd x4<|gd x5<|ge pd0<|ge pd1<|ge pd2<|ge x6<|ge x7<|ge pd5<|ge x8<|ge x9<|some [x10,x10,x11,.bool sb2]
 let x13:=qcmp .leq 0 2
 let x14:=qcmp .leq 2 x3
 let x15:=Proofs.YtobhhfbdelnhfaaGreatDoor.q108 [.str (qsubS x2 0 2)]
 let x16:=qcmp .leq x3 x3
 let x17:=qsubS x2 2 x3
 let x18:=qbool (qnth x15 1)
 let x19:=D.int (qint (qnth x15 0))
 let x20:=D.bool sb1
 let x21:=qlenS x17
 let x22:=qiteB (qnot x18) true (qcmp .lss x21 2)
 let x23:=qinbS x17 0
 let x24:=qidxS x17 0
 let x25:=qcmp .neq x24 43
 let x26:=qiteB x22 true (qiteB x25 (qcmp .neq x24 45) false)
 let x27:=Proofs.YtobhhfbdelnhfaaGreatDoor.q36 [.str (qsubS x17 1 x21)]
 let x28:=qint (qnth x27 0)
 let x29:=D.int (qun .neg .u32 x28)
 gd (qinb pd5 sn0)<|gd (qsome x0)<|gd (qsome x1)<|bif qiteB (qiteB (qnot (qbool (qnth x0 1))) true (qnot (qbool (qnth x1 1)))) true (qcmp .lss x3 2)then x12 else gd (qcmp .leq 0 0)<|gd x13<|gd x14<|gd (qsome x15)<|gd x13<|gd x14<|gd x16<|bif qiteB (qcmpS .eql x17 (ByteArray.mk #[])) x18 false then gd x4<|gd x5<|ge pd0<|ge pd1<|ge pd2<|ge x6<|ge x7<|ge pd5<|ge x8<|ge x9<|some [x19,x10,x20,.bool sb2]else gd x13<|gd x14<|gd x16<|gd (qiteB x22 true (qand x23 (qiteB x25 x23 true)))<|gd (qiteB x26 true (qinbS x17 1))<|bif qiteB x26 true (qcmp .eql (qidxS x17 1) 45)then x12 else gd (qcmp .leq 0 1)<|gd (qcmp .leq 1 x21)<|gd (qcmp .leq x21 x21)<|gd (qsome x27)<|bif qnot (qbool (qnth x27 1))then x12 else gd x23<|bif qcmp .eql x24 43 then bif sb2 then gd x4<|gd x5<|ge pd0<|ge pd1<|ge pd2<|ge x6<|ge x7<|ge pd5<|ge x8<|ge x9<|some [x19,.int x28,x20,x11]else gd x4<|gd x5<|ge pd0<|ge pd1<|ge pd2<|ge x6<|ge x7<|ge pd5<|ge x8<|ge x9<|some [x19,.int x28,x20,.bool (qcmp .gtr x28 127)]else bif sb2 then gd x4<|gd x5<|ge pd0<|ge pd1<|ge pd2<|ge x6<|ge x7<|ge pd5<|ge x8<|ge x9<|some [x19,x29,x20,x11]else gd x4<|gd x5<|ge pd0<|ge pd1<|ge pd2<|ge x6<|ge x7<|ge pd5<|ge x8<|ge x9<|some [x19,x29,x20,.bool (qcmp .gtr x28 128)]:=by kernel_rfl
def F139_a_eq:=by have h:= @F139_a_e;simp only[ge_id,gd,qeqD_self,qeqI_self,qeq_len,qeq_l,cond_true]at h;exact h
def q139_a:List D→Option (List D):=veil (F139_a)
theorem q139_a_eq:q139_a=F139_a:=veil_eq _
def tb139_a:Tb:=Tb.addF tb106_a 139 S139_a (q139_a)
theorem ok_tb139_a:TbOk env (tb139_a):=addFunF ok_tb106_a 139 (by kernel_rfl) _ (q139_a_eq)
def S66_a:FunS:=⟨[⟨true,(.ptr 0 0)⟩,⟨true,(.dat 24)⟩],[(.lst false 9),(.mp false 9 22),(.lst false 5),(.cells [⟨false,(.int .u32)⟩,⟨false,(.osl 2 5)⟩,⟨false,(.map 3)⟩,⟨false,(.osl 4 9)⟩,⟨false, .bool⟩]),(.cells [⟨false,(.rows 9)⟩,⟨false,(.func 125 [(.ptr 1 0)] [])⟩,⟨true, .bool⟩,⟨false, .bool⟩,⟨false, .bool⟩,⟨false, .bool⟩])],[⟨true,(.dat 24)⟩],[(.lst false 9),(.mp false 9 22),(.lst false 5),(.cells [⟨false,(.int .u32)⟩,⟨true,(.osl 2 5)⟩,⟨true,(.map 3)⟩,⟨true,(.osl 4 9)⟩,⟨false, .bool⟩]),(.cells [⟨false,(.rows 9)⟩,⟨true,(.func 125 [(.ptr 1 0)] [])⟩,⟨true, .bool⟩,⟨false, .bool⟩,⟨false, .bool⟩,⟨false, .bool⟩])]⟩
def F66_a:List D→Option (List D):=liftX env tb139_a 60 12 66 S66_a
theorem F66_a_e (pd0:D) (pd1:D) (pd2:D) (pn3:Int) (pb4:Bool) (pd5:D) (pb6:Bool) (pb7:Bool) (pb8:Bool) (sd0:D) (sb1:Bool):F66_a [pd0,pd1,pd2,(D.int pn3),(D.bool pb4),pd5,(D.bool pb6),(D.bool pb7),(D.bool pb8),sd0,(D.bool sb1)] =
 let x0:=qcmp .eql (qlen pd2) (qlen pd2)
 let x1:=qcmp .eql (qlen pd0) (qlen pd0)
 let x2:=D.int pn3
 let x3:=D.bool pb4
 let x4:=D.bool pb6
 let x5:=D.bool pb7
 let x6:=D.bool pb8
 let x7:=Proofs.YtobhhfbdelnhfaaGreatDoor.q105_a [pd0,pd1,pd2,x2,x3,pd5,x4,x5,x6,.int 1,.bool sb1]
 let x8:=D.bool (qbool (qnth x7 1))
 let x9:=Proofs.YtobhhfbdelnhfaaGreatDoor.q107_a [pd0,pd1,pd2,x2,x3,pd5,x4,x5,x6,.int 0,x8]
 gd x0<|gd x1<|gd (qsome x7)<|bif qbool (qnth x7 0)then gd x0<|gd x1<|gd (qsome x9)<|gd x0<|gd x1<|ge pd0<|ge pd1<|ge pd2<|ge x2<|ge x3<|ge pd5<|ge x4<|ge x5<|ge x6<|some [.agg [.int (qint (qfld sd0 0)),.int (qint (qfld sd0 1)),.int (qint (qfld sd0 2)),.int (qint (qfld sd0 3)),.int (qint (qfld sd0 4)),.int (qint (qfld sd0 5)),.int (qint (qnth x9 0)),.int (qint (qfld sd0 7)),.int (qint (qfld sd0 8))],.bool (qbool (qnth x9 1))]else gd x0<|gd x1<|ge pd0<|ge pd1<|ge pd2<|ge x2<|ge x3<|ge pd5<|ge x4<|ge x5<|ge x6<|some [sd0,x8]:=by kernel_rfl
def F66_a_eq:=by have h:= @F66_a_e;simp only[ge_id,gd,qeqD_self,qeqI_self,qeq_len,qeq_l,cond_true]at h;exact h
def q66_a:List D→Option (List D):=veil (F66_a)
theorem q66_a_eq:q66_a=F66_a:=veil_eq _
def tb66_a:Tb:=Tb.addF tb139_a 66 S66_a (q66_a)
theorem ok_tb66_a:TbOk env (tb66_a):=addFunF ok_tb139_a 66 (by kernel_rfl) _ (q66_a_eq)
def S110_a:FunS:=⟨[⟨true,(.ptr 0 0)⟩,⟨true,(.dat 24)⟩,⟨true, .bool⟩],[(.lst false 9),(.mp false 9 22),(.lst false 5),(.cells [⟨false,(.int .u32)⟩,⟨false,(.osl 2 5)⟩,⟨false,(.map 3)⟩,⟨false,(.osl 4 9)⟩,⟨false, .bool⟩]),(.cells [⟨false,(.rows 9)⟩,⟨false,(.func 125 [(.ptr 1 0)] [])⟩,⟨true, .bool⟩,⟨true, .bool⟩,⟨false, .bool⟩,⟨false, .bool⟩])],[⟨true,(.dat 24)⟩],[(.lst false 9),(.mp false 9 22),(.lst false 5),(.cells [⟨false,(.int .u32)⟩,⟨true,(.osl 2 5)⟩,⟨true,(.map 3)⟩,⟨true,(.osl 4 9)⟩,⟨false, .bool⟩]),(.cells [⟨false,(.rows 9)⟩,⟨true,(.func 125 [(.ptr 1 0)] [])⟩,⟨true, .bool⟩,⟨true, .bool⟩,⟨false, .bool⟩,⟨false, .bool⟩])]⟩
def F110_a:List D→Option (List D):=liftX env tb66_a 60 12 110 S110_a
theorem F110_a_e (pd0:D) (pd1:D) (pd2:D) (pn3:Int) (pb4:Bool) (pd5:D) (pb6:Bool) (pb7:Bool) (sd0:D) (sb1:Bool) (sb2:Bool) (sb3:Bool):F110_a [pd0,pd1,pd2,(D.int pn3),(D.bool pb4),pd5,(D.bool pb6),(D.bool pb7),sd0,(D.bool sb1),(D.bool sb2),(D.bool sb3)] =
 let x0:=qcmp .eql (qlen pd2) (qlen pd2)
 let x1:=qcmp .eql (qlen pd0) (qlen pd0)
 let x2:=D.int pn3
 let x3:=D.bool pb4
 let x4:=D.bool sb3
 let x5:=D.bool pb6
 let x6:=D.bool pb7
 let x7:=Proofs.YtobhhfbdelnhfaaGreatDoor.q105_a [pd0,pd1,pd2,x2,x3,pd5,x4,x5,x6,.int 2,.bool sb2]
 let x8:=D.bool (qbool (qnth x7 1))
 let x9:=Proofs.YtobhhfbdelnhfaaGreatDoor.q139_a [pd0,pd1,pd2,x2,x3,pd5,x5,x6,.int 0,x8,x4]
 let x10:=D.bool (qbool (qnth x9 3))
 let x11:=Proofs.YtobhhfbdelnhfaaGreatDoor.q107_a [pd0,pd1,pd2,x2,x3,pd5,x10,x5,x6,.int 1,.bool (qbool (qnth x9 2))]
 let x12:=D.int (qint (qfld sd0 0))
 let x13:=D.int (qint (qfld sd0 2))
 let x14:=D.int (qint (qfld sd0 3))
 let x15:=D.int (qint (qfld sd0 4))
 let x16:=D.int (qint (qfld sd0 5))
 let x17:=D.int (qint (qfld sd0 8))
 let x18:=Proofs.YtobhhfbdelnhfaaGreatDoor.q107_a [pd0,pd1,pd2,x2,x3,pd5,x4,x5,x6,.int 0,x8]
 let x19:=Proofs.YtobhhfbdelnhfaaGreatDoor.q139_a [pd0,pd1,pd2,x2,x3,pd5,x5,x6,.int 1,.bool (qbool (qnth x18 1)),x4]
 gd x0<|gd x1<|gd (qsome x7)<|bif qnot (qbool (qnth x7 0))then gd x0<|gd x1<|ge pd0<|ge pd1<|ge pd2<|ge x2<|ge x3<|ge pd5<|ge x5<|ge x6<|some [sd0,x8,x4]else bif sb1 then gd x0<|gd x1<|gd (qsome x9)<|gd x0<|gd x1<|gd (qsome x11)<|gd x0<|gd x1<|ge pd0<|ge pd1<|ge pd2<|ge x2<|ge x3<|ge pd5<|ge x5<|ge x6<|some [.agg [x12,.int (qint (qnth x9 1)),x13,x14,x15,x16,.int (qint (qnth x11 0)),.int (qint (qnth x9 0)),x17],.bool (qbool (qnth x11 1)),x10]else gd x0<|gd x1<|gd (qsome x18)<|gd x0<|gd x1<|gd (qsome x19)<|gd x0<|gd x1<|ge pd0<|ge pd1<|ge pd2<|ge x2<|ge x3<|ge pd5<|ge x5<|ge x6<|some [.agg [x12,.int (qint (qnth x19 1)),x13,x14,x15,x16,.int (qint (qnth x18 0)),.int (qint (qnth x19 0)),x17],.bool (qbool (qnth x19 2)),.bool (qbool (qnth x19 3))]:=by kernel_rfl
def F110_a_eq:=by have h:= @F110_a_e;simp only[ge_id,gd,qeqD_self,qeqI_self,qeq_len,qeq_l,cond_true]at h;exact h
def q110_a:List D→Option (List D):=veil (F110_a)
theorem q110_a_eq:q110_a=F110_a:=veil_eq _
def tb110_a:Tb:=Tb.addF tb66_a 110 S110_a (q110_a)
theorem ok_tb110_a:TbOk env (tb110_a):=addFunF ok_tb66_a 110 (by kernel_rfl) _ (q110_a_eq)
def S111_a:FunS:=⟨[⟨true,(.ptr 0 0)⟩,⟨true, .str⟩],[(.lst true 9),(.mp false 9 22),(.lst false 5),(.cells [⟨false,(.int .u32)⟩,⟨false,(.osl 2 5)⟩,⟨false,(.map 3)⟩,⟨false,(.osl 4 9)⟩,⟨false, .bool⟩]),(.cells [⟨false,(.rows 9)⟩,⟨false,(.func 125 [(.ptr 1 0)] [])⟩,⟨true, .bool⟩,⟨false, .bool⟩,⟨false, .bool⟩,⟨false, .bool⟩])],[⟨true,(.dat 24)⟩],[(.lst true 9), .skip,(.mp false 9 22),(.lst false 5),(.cells [⟨false,(.int .u32)⟩,⟨true,(.osl 2 5)⟩,⟨true,(.map 3)⟩,⟨true,(.osl 5 9)⟩,⟨false, .bool⟩]),(.cells [⟨false,(.rows 9)⟩,⟨true,(.func 125 [(.ptr 1 0)] [])⟩,⟨true, .bool⟩,⟨false, .bool⟩,⟨false, .bool⟩,⟨false, .bool⟩])]⟩
def F111_a:List D→Option (List D):=liftX env tb110_a 60 12 111 S111_a
theorem F111_a_e (pd0:D) (pd1:D) (pn2:Int) (pb3:Bool) (pd4:D) (pb5:Bool) (pb6:Bool) (pb7:Bool) (ss0:ByteArray) (sd1:D) (sb2:Bool):F111_a [pd0,pd1,(D.int pn2),(D.bool pb3),pd4,(D.bool pb5),(D.bool pb6),(D.bool pb7),(D.str ss0),sd1,(D.bool sb2)] =
 let x0:=qcmp .eql (qlen pd1) (qlen pd1)
 let x1:=qcmp .eql (qlen sd1) (qlen sd1)
 let x2:=D.int pn2
 let x3:=D.bool pb3
 let x4:=D.bool pb5
 let x5:=D.bool pb6
 let x6:=D.bool pb7
 let x7:=Proofs.YtobhhfbdelnhfaaGreatDoor.q105_a [sd1,pd0,pd1,x2,x3,pd4,x4,x5,x6,.int 1,.bool sb2]
 let x8:=D.int 0
 let x9:=D.bool (qbool (qnth x7 1))
 let x10:=Proofs.YtobhhfbdelnhfaaGreatDoor.q106_a [pd0,pd1,x2,x3,pd4,x4,x5,x6,x8,sd1,x9]
 let x11:=Proofs.YtobhhfbdelnhfaaGreatDoor.q105_a [sd1,pd0,pd1,x2,x3,pd4,x4,x5,x6,.int 2,.bool sb2]
 let x12:=D.bool (qbool (qnth x11 1))
 let x13:=Proofs.YtobhhfbdelnhfaaGreatDoor.q107_a [sd1,pd0,pd1,x2,x3,pd4,x4,x5,x6,x8,x12]
 let x14:=Proofs.YtobhhfbdelnhfaaGreatDoor.q106_a [pd0,pd1,x2,x3,pd4,x4,x5,x6,.int 1,sd1,.bool (qbool (qnth x13 1))]
 bif qcmpS .eql ss0 (ByteArray.mk #[99,97,108,108])then gd x0<|gd x1<|gd (qsome x7)<|bif qbool (qnth x7 0)then gd x0<|gd x1<|gd (qsome x10)<|gd x0<|gd (qcmp .eql (qlen (qnth x10 2)) (qlen (qnth x10 2)))<|ge pd0<|ge pd1<|ge x2<|ge x3<|ge pd4<|ge x4<|ge x5<|ge x6<|some [.agg [x8,.int (qint (qnth x10 0)),.int 23,x8,x8,x8,x8,x8,x8],qnth x10 2,.bool (qbool (qnth x10 3))]else gd x0<|gd x1<|ge pd0<|ge pd1<|ge x2<|ge x3<|ge pd4<|ge x4<|ge x5<|ge x6<|some [.agg [x8,x8,.int 23,x8,x8,x8,x8,x8,x8],sd1,x9]else bif qcmpS .eql ss0 (ByteArray.mk #[106,117,109,112,116])then gd x0<|gd x1<|gd (qsome x11)<|bif qbool (qnth x11 0)then gd x0<|gd x1<|gd (qsome x13)<|gd x0<|gd x1<|gd (qsome x14)<|gd x0<|gd (qcmp .eql (qlen (qnth x14 2)) (qlen (qnth x14 2)))<|ge pd0<|ge pd1<|ge x2<|ge x3<|ge pd4<|ge x4<|ge x5<|ge x6<|some [.agg [x8,.int (qint (qnth x14 0)),.int 22,x8,x8,x8,.int (qint (qnth x13 0)),x8,x8],qnth x14 2,.bool (qbool (qnth x14 3))]else gd x0<|gd x1<|ge pd0<|ge pd1<|ge x2<|ge x3<|ge pd4<|ge x4<|ge x5<|ge x6<|some [.agg [x8,x8,.int 22,x8,x8,x8,x8,x8,x8],sd1,x12]else gd x0<|gd x1<|ge pd0<|ge pd1<|ge x2<|ge x3<|ge pd4<|ge x4<|ge x5<|ge x6<|some [.agg [x8,x8,x8,x8,x8,x8,x8,x8,x8],sd1,.bool true]:=by kernel_rfl
def F111_a_eq:=by have h:= @F111_a_e;simp only[ge_id,gd,qeqD_self,qeqI_self,qeq_len,qeq_l,cond_true]at h;exact h
def q111_a:List D→Option (List D):=veil (F111_a)
theorem q111_a_eq:q111_a=F111_a:=veil_eq _
def tb111_a:Tb:=Tb.addF tb110_a 111 S111_a (q111_a)
theorem ok_tb111_a:TbOk env (tb111_a):=addFunF ok_tb110_a 111 (by kernel_rfl) _ (q111_a_eq)
def S68_a:FunS:=⟨[⟨true,(.ptr 0 0)⟩,⟨true, .str⟩],[(.lst true 9),(.mp false 9 22),(.lst false 5),(.cells [⟨false,(.int .u32)⟩,⟨false,(.osl 2 5)⟩,⟨false,(.map 3)⟩,⟨false,(.osl 4 9)⟩,⟨false, .bool⟩]),(.cells [⟨false,(.rows 9)⟩,⟨false,(.func 125 [(.ptr 1 0)] [])⟩,⟨true, .bool⟩,⟨true, .bool⟩,⟨false, .bool⟩,⟨false, .bool⟩])],[⟨true,(.dat 24)⟩],[(.lst true 9), .skip,(.mp false 9 22),(.lst false 5),(.cells [⟨false,(.int .u32)⟩,⟨true,(.osl 2 5)⟩,⟨true,(.map 3)⟩,⟨true,(.osl 5 9)⟩,⟨false, .bool⟩]),(.cells [⟨false,(.rows 9)⟩,⟨true,(.func 125 [(.ptr 1 0)] [])⟩,⟨true, .bool⟩,⟨true, .bool⟩,⟨false, .bool⟩,⟨false, .bool⟩])]⟩
def F68_a:List D→Option (List D):=liftX env tb111_a 60 12 68 S68_a
theorem F68_a_e (pd0:D) (pd1:D) (pn2:Int) (pb3:Bool) (pd4:D) (pb5:Bool) (pb6:Bool) (ss0:ByteArray) (sd1:D) (sb2:Bool) (sb3:Bool):F68_a [pd0,pd1,(D.int pn2),(D.bool pb3),pd4,(D.bool pb5),(D.bool pb6),(D.str ss0),sd1,(D.bool sb2),(D.bool sb3)] =
 let x0:=qcmpS .eql ss0 (ByteArray.mk #[110,111,112])
 let x1:=qcmpS .eql ss0 (ByteArray.mk #[104,97,108,116])
 let x2:=qcmp .eql (qlen pd1) (qlen pd1)
 let x3:=qcmp .eql (qlen sd1) (qlen sd1)
 let x4:=D.int pn2
 let x5:=D.bool pb3
 let x6:=D.bool sb3
 let x7:=D.bool pb5
 let x8:=D.bool pb6
 let x9:=D.int 0
 let x10:=D.bool sb2
 let x11:=Proofs.YtobhhfbdelnhfaaGreatDoor.q105_a [sd1,pd0,pd1,x4,x5,pd4,x6,x7,x8,x9,x10]
 let x12:=Proofs.YtobhhfbdelnhfaaGreatDoor.q66_a [sd1,pd0,pd1,x4,x5,pd4,x6,x7,x8,.agg [x9,x9,.int 3,x9,x9,x9,x9,x9,x9],x10]
 let x13:=Proofs.YtobhhfbdelnhfaaGreatDoor.q66_a [sd1,pd0,pd1,x4,x5,pd4,x6,x7,x8,.agg [x9,x9,.int 4,x9,x9,x9,x9,x9,x9],x10]
 let x14:=qcmpS .eql ss0 (ByteArray.mk #[108,111,97,100,49])
 let x15:=qcmpS .eql ss0 (ByteArray.mk #[108,111,97,100,50])
 let x16:=D.int (qwrap .i64 (qbin .sub .u8 (qidxS ss0 4) 48))
 let x17:=D.bool false
 let x18:=Proofs.YtobhhfbdelnhfaaGreatDoor.q110_a [sd1,pd0,pd1,x4,x5,pd4,x7,x8,.agg [x9,x9,.int 16,x9,x16,x9,x9,x9,x9],x17,x10,x6]
 let x19:=qcmpS .eql ss0 (ByteArray.mk #[108,111,97,100,49,115])
 let x20:=Proofs.YtobhhfbdelnhfaaGreatDoor.q110_a [sd1,pd0,pd1,x4,x5,pd4,x7,x8,.agg [x9,x9,.int 17,x9,x16,x9,x9,x9,x9],x17,x10,x6]
 let x21:=qcmpS .eql ss0 (ByteArray.mk #[115,116,111,114,101,49])
 let x22:=qcmpS .eql ss0 (ByteArray.mk #[115,116,111,114,101,50])
 let x23:=Proofs.YtobhhfbdelnhfaaGreatDoor.q110_a [sd1,pd0,pd1,x4,x5,pd4,x7,x8,.agg [x9,x9,.int 18,x9,.int (qwrap .i64 (qbin .sub .u8 (qidxS ss0 5) 48)),x9,x9,x9,x9],.bool true,x10,x6]
 let x24:=Proofs.YtobhhfbdelnhfaaGreatDoor.q110_a [sd1,pd0,pd1,x4,x5,pd4,x7,x8,.agg [x9,x9,.int 19,x9,x9,x9,x9,x9,x9],x17,x10,x6]
 let x25:=Proofs.YtobhhfbdelnhfaaGreatDoor.q66_a [sd1,pd0,pd1,x4,x5,pd4,x6,x7,x8,.agg [x9,x9,.int 21,x9,x9,x9,x9,x9,x9],x10]
 let x26:=Proofs.YtobhhfbdelnhfaaGreatDoor.q66_a [sd1,pd0,pd1,x4,x5,pd4,x6,x7,x8,.agg [x9,x9,.int 24,x9,x9,x9,x9,x9,x9],x10]
 let x27:=Proofs.YtobhhfbdelnhfaaGreatDoor.q66_a [sd1,pd0,pd1,x4,x5,pd4,x6,x7,x8,.agg [x9,x9,.int 26,x9,x9,x9,x9,x9,x9],x10]
 let x28:=Proofs.YtobhhfbdelnhfaaGreatDoor.q66_a [sd1,pd0,pd1,x4,x5,pd4,x6,x7,x8,.agg [x9,x9,.int 27,x9,x9,x9,x9,x9,x9],x10]
 let x29:=Proofs.YtobhhfbdelnhfaaGreatDoor.q111_a [pd0,pd1,x4,x5,pd4,x6,x7,x8,.str ss0,sd1,x10]
 bif qiteB x0 x0 (qiteB x1 x1 (qcmpS .eql ss0 (ByteArray.mk #[114,101,116])))then gd x2<|gd x3<|gd (qsome x11)<|gd (qcmp .leq 0 0)<|gd (qcmp .leq 0 1)<|gd (qcmp .leq 1 (qlenS ss0))<|gd x2<|gd x3<|ge pd0<|ge pd1<|ge x4<|ge x5<|ge pd4<|ge x7<|ge x8<|some [.agg [x9,x9,.int (qidxT (ByteArray.mk #[110,104,114]) (qsubS ss0 0 1)),x9,x9,x9,x9,x9,x9],sd1,.bool (qbool (qnth x11 1)),x6]else bif qcmpS .eql ss0 (ByteArray.mk #[112,117,115,104])then gd x2<|gd x3<|gd (qsome x12)<|gd x2<|gd x3<|ge pd0<|ge pd1<|ge x4<|ge x5<|ge pd4<|ge x7<|ge x8<|some [qnth x12 0,sd1,.bool (qbool (qnth x12 1)),x6]else bif qcmpS .eql ss0 (ByteArray.mk #[112,111,112])then gd x2<|gd x3<|gd (qsome x13)<|gd x2<|gd x3<|ge pd0<|ge pd1<|ge x4<|ge x5<|ge pd4<|ge x7<|ge x8<|some [qnth x13 0,sd1,.bool (qbool (qnth x13 1)),x6]else bif qiteB x14 x14 (qiteB x15 x15 (qcmpS .eql ss0 (ByteArray.mk #[108,111,97,100,52])))then gd (qinbS ss0 4)<|gd x2<|gd x3<|gd (qsome x18)<|gd x2<|gd x3<|ge pd0<|ge pd1<|ge x4<|ge x5<|ge pd4<|ge x7<|ge x8<|some [qnth x18 0,sd1,.bool (qbool (qnth x18 1)),.bool (qbool (qnth x18 2))]else bif qiteB x19 x19 (qcmpS .eql ss0 (ByteArray.mk #[108,111,97,100,50,115]))then gd (qinbS ss0 4)<|gd x2<|gd x3<|gd (qsome x20)<|gd x2<|gd x3<|ge pd0<|ge pd1<|ge x4<|ge x5<|ge pd4<|ge x7<|ge x8<|some [qnth x20 0,sd1,.bool (qbool (qnth x20 1)),.bool (qbool (qnth x20 2))]else bif qiteB x21 x21 (qiteB x22 x22 (qcmpS .eql ss0 (ByteArray.mk #[115,116,111,114,101,52])))then gd (qinbS ss0 5)<|gd x2<|gd x3<|gd (qsome x23)<|gd x2<|gd x3<|ge pd0<|ge pd1<|ge x4<|ge x5<|ge pd4<|ge x7<|ge x8<|some [qnth x23 0,sd1,.bool (qbool (qnth x23 1)),.bool (qbool (qnth x23 2))]else bif qcmpS .eql ss0 (ByteArray.mk #[108,101,97])then gd x2<|gd x3<|gd (qsome x24)<|gd x2<|gd x3<|ge pd0<|ge pd1<|ge x4<|ge x5<|ge pd4<|ge x7<|ge x8<|some [qnth x24 0,sd1,.bool (qbool (qnth x24 1)),.bool (qbool (qnth x24 2))]else bif qcmpS .eql ss0 (ByteArray.mk #[106,117,109,112,114])then gd x2<|gd x3<|gd (qsome x25)<|gd x2<|gd x3<|ge pd0<|ge pd1<|ge x4<|ge x5<|ge pd4<|ge x7<|ge x8<|some [qnth x25 0,sd1,.bool (qbool (qnth x25 1)),x6]else bif qcmpS .eql ss0 (ByteArray.mk #[99,97,108,108,114])then gd x2<|gd x3<|gd (qsome x26)<|gd x2<|gd x3<|ge pd0<|ge pd1<|ge x4<|ge x5<|ge pd4<|ge x7<|ge x8<|some [qnth x26 0,sd1,.bool (qbool (qnth x26 1)),x6]else bif qcmpS .eql ss0 (ByteArray.mk #[105,110])then gd x2<|gd x3<|gd (qsome x27)<|gd x2<|gd x3<|ge pd0<|ge pd1<|ge x4<|ge x5<|ge pd4<|ge x7<|ge x8<|some [qnth x27 0,sd1,.bool (qbool (qnth x27 1)),x6]else bif qcmpS .eql ss0 (ByteArray.mk #[111,117,116])then gd x2<|gd x3<|gd (qsome x28)<|gd x2<|gd x3<|ge pd0<|ge pd1<|ge x4<|ge x5<|ge pd4<|ge x7<|ge x8<|some [qnth x28 0,sd1,.bool (qbool (qnth x28 1)),x6]else gd x2<|gd x3<|gd (qsome x29)<|gd x2<|gd (qcmp .eql (qlen (qnth x29 1)) (qlen (qnth x29 1)))<|ge pd0<|ge pd1<|ge x4<|ge x5<|ge pd4<|ge x7<|ge x8<|some [qnth x29 0,qnth x29 1,.bool (qbool (qnth x29 2)),x6]:=by kernel_rfl
def F68_a_eq:=by have h:= @F68_a_e;simp only[ge_id,gd,qeqD_self,qeqI_self,qeq_len,qeq_l,cond_true]at h;exact h
def q68_a:List D→Option (List D):=veil (F68_a)
theorem q68_a_eq:q68_a=F68_a:=veil_eq _
def tb68_a:Tb:=Tb.addF tb111_a 68 S68_a (q68_a)
theorem ok_tb68_a:TbOk env (tb68_a):=addFunF ok_tb111_a 68 (by kernel_rfl) _ (q68_a_eq)
end
end Go.Proofs.YtobhhfbdelnhfaaGreatDoor
open Go Go.AM
namespace Go.Proofs.YtobhhfbdelnhfaaGreatDoor
noncomputable section
set_option maxRecDepth 100000
set_option linter.unusedSimpArgs false
set_option linter.unusedVariables false
set_option linter.defProp false
def S65_a:FunS:=⟨[⟨true,(.ptr 0 0)⟩,⟨true,(.int .i64)⟩,⟨true,(.int .u32)⟩],[(.lst true 9),(.mp false 9 22),(.lst false 5),(.cells [⟨false,(.int .u32)⟩,⟨false,(.osl 2 5)⟩,⟨false,(.map 3)⟩,⟨false,(.osl 4 9)⟩,⟨false, .bool⟩]),(.cells [⟨false,(.rows 9)⟩,⟨false,(.func 125 [(.ptr 1 0)] [])⟩,⟨true, .bool⟩,⟨false, .bool⟩,⟨false, .bool⟩,⟨true, .bool⟩])],[⟨true,(.dat 24)⟩],[(.lst true 9), .skip,(.mp false 9 22),(.lst false 5),(.cells [⟨false,(.int .u32)⟩,⟨true,(.osl 2 5)⟩,⟨true,(.map 3)⟩,⟨true,(.osl 5 9)⟩,⟨false, .bool⟩]),(.cells [⟨false,(.rows 9)⟩,⟨true,(.func 125 [(.ptr 1 0)] [])⟩,⟨true, .bool⟩,⟨false, .bool⟩,⟨false, .bool⟩,⟨true, .bool⟩])]⟩
def F65_a:List D→Option (List D):=liftX env tb68_a 60 12 65 S65_a
theorem F65_a_e (pd0:D) (pd1:D) (pn2:Int) (pb3:Bool) (pd4:D) (pb5:Bool) (pb6:Bool) (sn0:Int) (sn1:Int) (sd2:D) (sb3:Bool) (sb4:Bool):F65_a [pd0,pd1,(D.int pn2),(D.bool pb3),pd4,(D.bool pb5),(D.bool pb6),(D.int sn0),(D.int sn1),sd2,(D.bool sb3),(D.bool sb4)] =
 let x0:=qcmp .eql (qlen pd1) (qlen pd1)
 let x1:=qcmp .eql (qlen sd2) (qlen sd2)
 let x2:=D.int pn2
 let x3:=D.bool pb3
 let x4:=D.bool pb5
 let x5:=D.bool pb6
 let x6:=D.bool true
 let x7:=Proofs.YtobhhfbdelnhfaaGreatDoor.q105_a [sd2,pd0,pd1,x2,x3,pd4,x4,x5,x6,.int 1,.bool sb3]
 let x8:=D.int 0
 let x9:=D.int 20
 let x10:=D.int sn0
 let x11:=D.bool (qbool (qnth x7 1))
 let x12:=Proofs.YtobhhfbdelnhfaaGreatDoor.q106_a [pd0,pd1,x2,x3,pd4,x4,x5,x6,x8,sd2,x11]
 let x13:=qint (qnth x12 0)
 let x14:=qbin .sub .u32 (qbin .sub .u32 x13 sn1) 2
 let x15:=qnth x12 2
 let x16:=qcmp .eql (qlen x15) (qlen x15)
 let x17:=D.bool (qbool (qnth x12 3))
 gd x0<|gd x1<|gd (qsome x7)<|bif qnot (qbool (qnth x7 0))then gd x0<|gd x1<|ge pd0<|ge pd1<|ge x2<|ge x3<|ge pd4<|ge x4<|ge x5<|some [.agg [x8,x8,x9,.int 2,x8,x10,x8,x8,x8],sd2,x11,x6]else gd x0<|gd x1<|gd (qsome x12)<|bif qiteB (qiteB (qnot (qbool (qnth x12 1))) (qcmp .eql (qwrap .u32 (qwrap .i8 x14)) x14) false) (qnot pb6) false then gd x0<|gd x16<|ge pd0<|ge pd1<|ge x2<|ge x3<|ge pd4<|ge x4<|ge x5<|some [.agg [x8,.int x13,x9,.int 1,x8,x10,x8,x8,x8],x15,x17,x6]else gd x0<|gd x16<|ge pd0<|ge pd1<|ge x2<|ge x3<|ge pd4<|ge x4<|ge x5<|some [.agg [x8,.int x13,x9,.int 2,x8,x10,x8,x8,x8],x15,x17,x6]:=by kernel_rfl
def F65_a_eq:=by have h:= @F65_a_e;simp only[ge_id,gd,qeqD_self,qeqI_self,qeq_len,qeq_l,cond_true]at h;exact h
def q65_a:List D→Option (List D):=veil (F65_a)
theorem q65_a_eq:q65_a=F65_a:=veil_eq _
def tb65_a:Tb:=Tb.addF tb68_a 65 S65_a (q65_a)
theorem ok_tb65_a:TbOk env (tb65_a):=addFunF ok_tb68_a 65 (by kernel_rfl) _ (q65_a_eq)
def S67_a:FunS:=⟨[⟨true,(.ptr 0 0)⟩,⟨true,(.int .i64)⟩],[(.lst true 9),(.mp false 9 22),(.lst false 5),(.cells [⟨false,(.int .u32)⟩,⟨false,(.osl 2 5)⟩,⟨false,(.map 3)⟩,⟨false,(.osl 4 9)⟩,⟨false, .bool⟩]),(.cells [⟨false,(.rows 9)⟩,⟨false,(.func 125 [(.ptr 1 0)] [])⟩,⟨true, .bool⟩,⟨false, .bool⟩,⟨false, .bool⟩,⟨true, .bool⟩])],[⟨true,(.dat 24)⟩],[(.lst true 9), .skip,(.mp false 9 22),(.lst false 5),(.cells [⟨false,(.int .u32)⟩,⟨true,(.osl 2 5)⟩,⟨true,(.map 3)⟩,⟨true,(.osl 5 9)⟩,⟨false, .bool⟩]),(.cells [⟨false,(.rows 9)⟩,⟨true,(.func 125 [(.ptr 1 0)] [])⟩,⟨true, .bool⟩,⟨false, .bool⟩,⟨false, .bool⟩,⟨true, .bool⟩])]⟩
def F67_a:List D→Option (List D):=liftX env tb65_a 60 12 67 S67_a
theorem F67_a_e (pd0:D) (pd1:D) (pn2:Int) (pb3:Bool) (pd4:D) (pb5:Bool) (pb6:Bool) (sn0:Int) (sd1:D) (sb2:Bool) (sb3:Bool):F67_a [pd0,pd1,(D.int pn2),(D.bool pb3),pd4,(D.bool pb5),(D.bool pb6),(D.int sn0),sd1,(D.bool sb2),(D.bool sb3)] =
 let x0:=qcmp .eql (qlen pd1) (qlen pd1)
 let x1:=qcmp .eql (qlen sd1) (qlen sd1)
 let x2:=D.int pn2
 let x3:=D.bool pb3
 let x4:=D.bool pb5
 let x5:=D.bool pb6
 let x6:=D.bool sb3
 let x7:=Proofs.YtobhhfbdelnhfaaGreatDoor.q105_a [sd1,pd0,pd1,x2,x3,pd4,x4,x5,x6,.int 2,.bool sb2]
 let x8:=D.int 0
 let x9:=D.int sn0
 let x10:=D.bool (qbool (qnth x7 1))
 let x11:=Proofs.YtobhhfbdelnhfaaGreatDoor.q107_a [sd1,pd0,pd1,x2,x3,pd4,x4,x5,x6,x8,x10]
 let x12:=Proofs.YtobhhfbdelnhfaaGreatDoor.q108 [.str (qstr (qget pd4 1))]
 let x13:=D.int (qint (qnth x11 0))
 let x14:=D.bool (qbool (qnth x11 1))
 let x15:=D.bool true
 let x16:=Proofs.YtobhhfbdelnhfaaGreatDoor.q106_a [pd0,pd1,x2,x3,pd4,x4,x5,x15,.int 1,sd1,x14]
 let x17:=qint (qnth x16 0)
 let x18:=qnth x16 2
 let x19:=qcmp .eql (qlen x18) (qlen x18)
 let x20:=D.bool (qbool (qnth x16 3))
 gd x0<|gd x1<|gd (qsome x7)<|bif qnot (qbool (qnth x7 0))then gd x0<|gd x1<|ge pd0<|ge pd1<|ge x2<|ge x3<|ge pd4<|ge x4<|ge x5<|some [.agg [x8,x8,x9,x8,x8,x8,x8,x8,x8],sd1,x10,x6]else gd x0<|gd x1<|gd (qsome x11)<|gd (qinb pd4 1)<|gd (qsome x12)<|bif qbool (qnth x12 1)then gd x0<|gd x1<|ge pd0<|ge pd1<|ge x2<|ge x3<|ge pd4<|ge x4<|ge x5<|some [.agg [x8,x8,x9,x8,x8,x8,x13,.int (qint (qnth x12 0)),x8],sd1,x14,x6]else gd x0<|gd x1<|gd (qsome x16)<|bif qiteB (qiteB (qnot (qbool (qnth x16 1))) (qcmp .eql (qwrap .u32 (qwrap .i8 x17)) x17) false) (qnot pb6) false then gd x0<|gd x19<|ge pd0<|ge pd1<|ge x2<|ge x3<|ge pd4<|ge x4<|ge x5<|some [.agg [x8,.int x17,x9,.int 1,x8,x8,x13,x8,x8],x18,x20,x15]else gd x0<|gd x19<|ge pd0<|ge pd1<|ge x2<|ge x3<|ge pd4<|ge x4<|ge x5<|some [.agg [x8,.int x17,x9,.int 2,x8,x8,x13,x8,x8],x18,x20,x15]:=by kernel_rfl
def F67_a_eq:=by have h:= @F67_a_e;simp only[ge_id,gd,qeqD_self,qeqI_self,qeq_len,qeq_l,cond_true]at h;exact h
def q67_a:List D→Option (List D):=veil (F67_a)
theorem q67_a_eq:q67_a=F67_a:=veil_eq _
def tb67_a:Tb:=Tb.addF tb65_a 67 S67_a (q67_a)
theorem ok_tb67_a:TbOk env (tb67_a):=addFunF ok_tb65_a 67 (by kernel_rfl) _ (q67_a_eq)
def S37_a:FunS:=⟨[⟨true, .str⟩,⟨true,(.int .u32)⟩,⟨true,(.func 125 [(.ptr 0 0)] [])⟩],[(.lst true 9),(.mp false 9 22),(.lst false 5),(.cells [⟨false,(.int .u32)⟩,⟨false,(.osl 1 5)⟩,⟨false,(.map 2)⟩,⟨false,(.osl 3 9)⟩,⟨false, .bool⟩])],[⟨true,(.tup [(.dat 24),(.int .i64)])⟩],[(.lst true 9), .skip,(.mp false 9 22),(.lst false 5),(.cells [⟨false,(.int .u32)⟩,⟨true,(.osl 1 5)⟩,⟨true,(.map 2)⟩,⟨true,(.osl 4 9)⟩,⟨false, .bool⟩])]⟩
def F37_a:List D→Option (List D):=liftX env tb67_a 60 12 37 S37_a
theorem F37_a_e (pd0:D) (pd1:D) (pn2:Int) (pb3:Bool) (ss0:ByteArray) (sn1:Int) (sd2:D):F37_a [pd0,pd1,(D.int pn2),(D.bool pb3),(D.str ss0),(D.int sn1),sd2] =
 let x0:=ByteArray.mk #[32]
 let x1:=qcutB ss0 x0
 let x2:=Proofs.YtobhhfbdelnhfaaGreatDoor.q62 [.str (qcutA ss0 x0),.str (ByteArray.mk #[46,119])]
 let x3:=qstr (qnth x2 0)
 let x4:=D.str x3
 let x5:=Proofs.YtobhhfbdelnhfaaGreatDoor.q59 [x4,.str (ByteArray.mk #[106])]
 let x6:=qbool (qnth x5 1)
 let x7:=Proofs.YtobhhfbdelnhfaaGreatDoor.q63_26 [.str (qstr (qnth x5 0)),.int 15]
 let x8:=qiteB x6 (qsome x7) true
 let x9:=Proofs.YtobhhfbdelnhfaaGreatDoor.q59 [x4,.str (ByteArray.mk #[115,101,116])]
 let x10:=Proofs.YtobhhfbdelnhfaaGreatDoor.q63_64 [x4,.int 11]
 let x11:=qcmpS .eql x3 (ByteArray.mk #[106,109,112])
 let x12:=qcmp .eql (qlen pd1) (qlen pd1)
 let x13:=qcmp .eql (qlen sd2) (qlen sd2)
 let x14:=D.int pn2
 let x15:=D.bool pb3
 let x16:=qsplit x1 (ByteArray.mk #[44,32])
 let x17:=D.bool false
 let x18:=qbool (qnth x2 1)
 let x19:=D.bool x18
 let x20:=D.int 0
 let x21:=D.int sn1
 let x22:=Proofs.YtobhhfbdelnhfaaGreatDoor.q65_a [pd0,pd1,x14,x15,x16,x17,x19,x20,x21,sd2,x17,x17]
 let x23:=qnth x22 1
 let x24:=qcmp .eql (qlen x23) (qlen x23)
 let x25:=D.agg [x20,x20,x20,x20,x20,x20,x20,x20,x20]
 let x26:=D.int 3
 let x27:=qnth x22 0
 let x28:=D.int (qint (qfld x27 1))
 let x29:=D.int (qint (qfld x27 2))
 let x30:=D.int (qint (qfld x27 3))
 let x31:=D.int (qint (qfld x27 4))
 let x32:=D.int (qint (qfld x27 5))
 let x33:=D.int (qint (qfld x27 6))
 let x34:=D.int (qint (qfld x27 7))
 let x35:=Proofs.YtobhhfbdelnhfaaGreatDoor.q69 [.agg [x21,x28,x29,x30,x31,x32,x33,x34,.int (qint (qfld x27 8))]]
 let x36:=qiteI x6 (qint (qnth x7 0)) (-1)
 let x37:=qcmp .gtr x36 0
 let x38:=Proofs.YtobhhfbdelnhfaaGreatDoor.q65_a [pd0,pd1,x14,x15,x16,x17,x19,.int x36,x21,sd2,x17,x17]
 let x39:=qnth x38 1
 let x40:=qcmp .eql (qlen x39) (qlen x39)
 let x41:=qnth x38 0
 let x42:=D.int (qint (qfld x41 1))
 let x43:=D.int (qint (qfld x41 2))
 let x44:=D.int (qint (qfld x41 3))
 let x45:=D.int (qint (qfld x41 4))
 let x46:=D.int (qint (qfld x41 5))
 let x47:=D.int (qint (qfld x41 6))
 let x48:=D.int (qint (qfld x41 7))
 let x49:=Proofs.YtobhhfbdelnhfaaGreatDoor.q69 [.agg [x21,x42,x43,x44,x45,x46,x47,x48,.int (qint (qfld x41 8))]]
 let x50:=qbool (qnth x9 1)
 let x51:=Proofs.YtobhhfbdelnhfaaGreatDoor.q63_26 [.str (qstr (qnth x9 0)),.int 15]
 let x52:=qsome x51
 let x53:=qint (qnth x51 0)
 let x54:=D.agg [x20,x20,.int 25,x20,x20,.int (qmm .gtr x53 0),x20,x20,x20]
 let x55:=Proofs.YtobhhfbdelnhfaaGreatDoor.q66_a [sd2,pd0,pd1,x14,x15,x16,x17,x19,x17,x54,x17]
 let x56:Option (List D):=gd x12<|gd x13<|ge pd0<|ge pd1<|ge x14<|ge x15<|some [x25,x26,sd2]
 let x57:=qiteB x18 (qnot false) false
 let x58:=qiteB (qcmp .lss x53 0) true x57
 let x59:=qnth x55 0
 let x60:=D.int (qint (qfld x59 1))
 let x61:=D.int (qint (qfld x59 2))
 let x62:=D.int (qint (qfld x59 3))
 let x63:=D.int (qint (qfld x59 4))
 let x64:=D.int (qint (qfld x59 5))
 let x65:=D.int (qint (qfld x59 6))
 let x66:=D.int (qint (qfld x59 7))
 let x67:=Proofs.YtobhhfbdelnhfaaGreatDoor.q69 [.agg [x21,x60,x61,x62,x63,x64,x65,x66,.int (qint (qfld x59 8))]]
 let x68:=qint (qnth x10 0)
 let x69:=qcmp .geq x68 0
 let x70:=D.int (qbin .add .i64 5 x68)
 let x71:=Proofs.YtobhhfbdelnhfaaGreatDoor.q67_a [pd0,pd1,x14,x15,x16,x17,x19,x70,sd2,x17,x17]
 let x72:=qnth x71 1
 let x73:=qcmp .eql (qlen x72) (qlen x72)
 let x74:=qnth x71 0
 let x75:=D.int (qint (qfld x74 1))
 let x76:=D.int (qint (qfld x74 2))
 let x77:=D.int (qint (qfld x74 3))
 let x78:=D.int (qint (qfld x74 4))
 let x79:=D.int (qint (qfld x74 5))
 let x80:=D.int (qint (qfld x74 6))
 let x81:=D.int (qint (qfld x74 7))
 let x82:=Proofs.YtobhhfbdelnhfaaGreatDoor.q69 [.agg [x21,x75,x76,x77,x78,x79,x80,x81,.int (qint (qfld x74 8))]]
 let x83:=Proofs.YtobhhfbdelnhfaaGreatDoor.q68_a [pd0,pd1,x14,x15,x16,x19,x17,x4,sd2,x17,x17]
 let x84:=qnth x83 1
 let x85:=qcmp .eql (qlen x84) (qlen x84)
 let x86:=qnth x83 0
 let x87:=D.int (qint (qfld x86 1))
 let x88:=D.int (qint (qfld x86 2))
 let x89:=D.int (qint (qfld x86 3))
 let x90:=D.int (qint (qfld x86 4))
 let x91:=D.int (qint (qfld x86 5))
 let x92:=D.int (qint (qfld x86 6))
 let x93:=D.int (qint (qfld x86 7))
 let x94:=Proofs.YtobhhfbdelnhfaaGreatDoor.q69 [.agg [x21,x87,x88,x89,x90,x91,x92,x93,.int (qint (qfld x86 8))]]
 let x95:=D.list []
 let x96:=Proofs.YtobhhfbdelnhfaaGreatDoor.q65_a [pd0,pd1,x14,x15,x95,x17,x19,x20,x21,sd2,x17,x17]
 let x97:=qnth x96 1
 let x98:=qcmp .eql (qlen x97) (qlen x97)
 let x99:=qnth x96 0
 let x100:=D.int (qint (qfld x99 1))
 let x101:=D.int (qint (qfld x99 2))
 let x102:=D.int (qint (qfld x99 3))
 let x103:=D.int (qint (qfld x99 4))
 let x104:=D.int (qint (qfld x99 5))
 let x105:=D.int (qint (qfld x99 6))
 let x106:=D.int (qint (qfld x99 7))
 let x107:=Proofs.YtobhhfbdelnhfaaGreatDoor.q69 [.agg [x21,x100,x101,x102,x103,x104,x105,x106,.int (qint (qfld x99 8))]]
 let x108:=Proofs.YtobhhfbdelnhfaaGreatDoor.q65_a [pd0,pd1,x14,x15,x95,x17,x19,.int x36,x21,sd2,x17,x17]
 let x109:=qnth x108 1
 let x110:=qcmp .eql (qlen x109) (qlen x109)
 let x111:=qnth x108 0
 let x112:=D.int (qint (qfld x111 1))
 let x113:=D.int (qint (qfld x111 2))
 let x114:=D.int (qint (qfld x111 3))
 let x115:=D.int (qint (qfld x111 4))
 let x116:=D.int (qint (qfld x111 5))
 let x117:=D.int (qint (qfld x111 6))
 let x118:=D.int (qint (qfld x111 7))
 let x119:=Proofs.YtobhhfbdelnhfaaGreatDoor.q69 [.agg [x21,x112,x113,x114,x115,x116,x117,x118,.int (qint (qfld x111 8))]]
 let x120:=Proofs.YtobhhfbdelnhfaaGreatDoor.q66_a [sd2,pd0,pd1,x14,x15,x95,x17,x19,x17,x54,x17]
 let x121:=qnth x120 0
 let x122:=D.int (qint (qfld x121 1))
 let x123:=D.int (qint (qfld x121 2))
 let x124:=D.int (qint (qfld x121 3))
 let x125:=D.int (qint (qfld x121 4))
 let x126:=D.int (qint (qfld x121 5))
 let x127:=D.int (qint (qfld x121 6))
 let x128:=D.int (qint (qfld x121 7))
 let x129:=Proofs.YtobhhfbdelnhfaaGreatDoor.q69 [.agg [x21,x122,x123,x124,x125,x126,x127,x128,.int (qint (qfld x121 8))]]
 let x130:=Proofs.YtobhhfbdelnhfaaGreatDoor.q67_a [pd0,pd1,x14,x15,x95,x17,x19,x70,sd2,x17,x17]
 let x131:=qnth x130 1
 let x132:=qcmp .eql (qlen x131) (qlen x131)
 let x133:=qnth x130 0
 let x134:=D.int (qint (qfld x133 1))
 let x135:=D.int (qint (qfld x133 2))
 let x136:=D.int (qint (qfld x133 3))
 let x137:=D.int (qint (qfld x133 4))
 let x138:=D.int (qint (qfld x133 5))
 let x139:=D.int (qint (qfld x133 6))
 let x140:=D.int (qint (qfld x133 7))
 let x141:=Proofs.YtobhhfbdelnhfaaGreatDoor.q69 [.agg [x21,x134,x135,x136,x137,x138,x139,x140,.int (qint (qfld x133 8))]]
 let x142:=Proofs.YtobhhfbdelnhfaaGreatDoor.q68_a [pd0,pd1,x14,x15,x95,x19,x17,x4,sd2,x17,x17]
 let x143:=qnth x142 1
 let x144:=qcmp .eql (qlen x143) (qlen x143)
 let x145:=qnth x142 0
 let x146:=D.int (qint (qfld x145 1))
 let x147:=D.int (qint (qfld x145 2))
 let x148:=D.int (qint (qfld x145 3))
 let x149:=D.int (qint (qfld x145 4))
 let x150:=D.int (qint (qfld x145 5))
 let x151:=D.int (qint (qfld x145 6))
 let x152:=D.int (qint (qfld x145 7))
 let x153:=Proofs.YtobhhfbdelnhfaaGreatDoor.q69 [.agg [x21,x146,x147,x148,x149,x150,x151,x152,.int (qint (qfld x145 8))]]
 gd (qcmp .lss (qlenS ss0) 4294967281)<|bif qcutOk ss0 x0 then gd (qcmp .lss (qlenS x1) 4294967281)<|gd (qsome x2)<|gd (qsome x5)<|gd x8<|gd (qsome x9)<|gd (qsome x10)<|bif x11 then gd x12<|gd x13<|gd (qsome x22)<|bif qiteB (qbool (qnth x22 2)) true (qiteB x18 (qnot (qbool (qnth x22 3))) false)then gd x12<|gd x24<|ge pd0<|ge pd1<|ge x14<|ge x15<|some [x25,x26,x23]else gd (qsome x35)<|gd x12<|gd x24<|ge pd0<|ge pd1<|ge x14<|ge x15<|some [.agg [x21,x28,x29,x30,x31,x32,x33,x34,.int (qint (qnth x35 0))],x20,x23]else bif x37 then gd x12<|gd x13<|gd (qsome x38)<|bif qiteB (qbool (qnth x38 2)) true (qiteB x18 (qnot (qbool (qnth x38 3))) false)then gd x12<|gd x40<|ge pd0<|ge pd1<|ge x14<|ge x15<|some [x25,x26,x39]else gd (qsome x49)<|gd x12<|gd x40<|ge pd0<|ge pd1<|ge x14<|ge x15<|some [.agg [x21,x42,x43,x44,x45,x46,x47,x48,.int (qint (qnth x49 0))],x20,x39]else bif x50 then gd x52<|gd x12<|gd x13<|gd (qsome x55)<|bif qbool (qnth x55 1)then x56 else gd x52<|bif x58 then x56 else gd (qsome x67)<|gd x12<|gd x13<|ge pd0<|ge pd1<|ge x14<|ge x15<|some [.agg [x21,x60,x61,x62,x63,x64,x65,x66,.int (qint (qnth x67 0))],x20,sd2]else bif x69 then gd x12<|gd x13<|gd (qsome x71)<|bif qiteB (qbool (qnth x71 2)) true (qiteB x18 (qnot (qbool (qnth x71 3))) false)then gd x12<|gd x73<|ge pd0<|ge pd1<|ge x14<|ge x15<|some [x25,x26,x72]else gd (qsome x82)<|gd x12<|gd x73<|ge pd0<|ge pd1<|ge x14<|ge x15<|some [.agg [x21,x75,x76,x77,x78,x79,x80,x81,.int (qint (qnth x82 0))],x20,x72]else gd x12<|gd x13<|gd (qsome x83)<|bif qiteB (qbool (qnth x83 2)) true x57 then gd x12<|gd x85<|ge pd0<|ge pd1<|ge x14<|ge x15<|some [x25,x26,x84]else bif qbool (qnth x83 3)then gd x12<|gd x85<|ge pd0<|ge pd1<|ge x14<|ge x15<|some [x25,.int 7,x84]else gd (qsome x94)<|gd x12<|gd x85<|ge pd0<|ge pd1<|ge x14<|ge x15<|some [.agg [x21,x87,x88,x89,x90,x91,x92,x93,.int (qint (qnth x94 0))],x20,x84]else gd (qsome x2)<|gd (qsome x5)<|gd x8<|gd (qsome x9)<|gd (qsome x10)<|bif x11 then gd x12<|gd x13<|gd (qsome x96)<|bif qiteB (qbool (qnth x96 2)) true (qiteB x18 (qnot (qbool (qnth x96 3))) false)then gd x12<|gd x98<|ge pd0<|ge pd1<|ge x14<|ge x15<|some [x25,x26,x97]else gd (qsome x107)<|gd x12<|gd x98<|ge pd0<|ge pd1<|ge x14<|ge x15<|some [.agg [x21,x100,x101,x102,x103,x104,x105,x106,.int (qint (qnth x107 0))],x20,x97]else bif x37 then gd x12<|gd x13<|gd (qsome x108)<|bif qiteB (qbool (qnth x108 2)) true (qiteB x18 (qnot (qbool (qnth x108 3))) false)then gd x12<|gd x110<|ge pd0<|ge pd1<|ge x14<|ge x15<|some [x25,x26,x109]else gd (qsome x119)<|gd x12<|gd x110<|ge pd0<|ge pd1<|ge x14<|ge x15<|some [.agg [x21,x112,x113,x114,x115,x116,x117,x118,.int (qint (qnth x119 0))],x20,x109]else bif x50 then gd x52<|gd x12<|gd x13<|gd (qsome x120)<|bif qbool (qnth x120 1)then x56 else gd x52<|bif x58 then x56 else gd (qsome x129)<|gd x12<|gd x13<|ge pd0<|ge pd1<|ge x14<|ge x15<|some [.agg [x21,x122,x123,x124,x125,x126,x127,x128,.int (qint (qnth x129 0))],x20,sd2]else bif x69 then gd x12<|gd x13<|gd (qsome x130)<|bif qiteB (qbool (qnth x130 2)) true (qiteB x18 (qnot (qbool (qnth x130 3))) false)then gd x12<|gd x132<|ge pd0<|ge pd1<|ge x14<|ge x15<|some [x25,x26,x131]else gd (qsome x141)<|gd x12<|gd x132<|ge pd0<|ge pd1<|ge x14<|ge x15<|some [.agg [x21,x134,x135,x136,x137,x138,x139,x140,.int (qint (qnth x141 0))],x20,x131]else gd x12<|gd x13<|gd (qsome x142)<|bif qiteB (qbool (qnth x142 2)) true x57 then gd x12<|gd x144<|ge pd0<|ge pd1<|ge x14<|ge x15<|some [x25,x26,x143]else bif qbool (qnth x142 3)then gd x12<|gd x144<|ge pd0<|ge pd1<|ge x14<|ge x15<|some [x25,.int 7,x143]else gd (qsome x153)<|gd x12<|gd x144<|ge pd0<|ge pd1<|ge x14<|ge x15<|some [.agg [x21,x146,x147,x148,x149,x150,x151,x152,.int (qint (qnth x153 0))],x20,x143]:=by kernel_rfl
def F37_a_eq:=by have h:= @F37_a_e;simp only[ge_id,gd,qeqD_self,qeqI_self,qeq_len,qeq_l,cond_true]at h;exact h
def q37_a:List D→Option (List D):=veil (F37_a)
theorem q37_a_eq:q37_a=F37_a:=veil_eq _
def tb37_a:Tb:=Tb.addF tb67_a 37 S37_a (q37_a)
theorem ok_tb37_a:TbOk env (tb37_a):=addFunF ok_tb67_a 37 (by kernel_rfl) _ (q37_a_eq)
end
end Go.Proofs.YtobhhfbdelnhfaaGreatDoor
open Go Go.AM
namespace Go.Proofs.YtobhhfbdelnhfaaGreatDoor
noncomputable section
set_option maxRecDepth 100000
set_option linter.unusedSimpArgs false
set_option linter.unusedVariables false
set_option linter.defProp false
def S122:FunS:=⟨[⟨true,(.ptr 0 0)⟩,⟨true, .str⟩],[(.lst false 9),(.mp true 9 22),(.lst false 5),(.cells [⟨false,(.int .u32)⟩,⟨false,(.osl 1 5)⟩,⟨false,(.map 2)⟩,⟨false,(.osl 3 9)⟩,⟨false, .bool⟩])],[⟨true,(.int .i64)⟩],[(.lst false 9),(.mp true 9 22),(.lst false 5),(.cells [⟨false,(.int .u32)⟩,⟨true,(.osl 1 5)⟩,⟨true,(.map 2)⟩,⟨true,(.osl 3 9)⟩,⟨false, .bool⟩])]⟩
def F122:List D→Option (List D):=liftX env tb37_a 60 12 122 S122
theorem F122_e (pd0:D) (pd1:D) (pn2:Int) (pb3:Bool) (ss0:ByteArray) (sd1:D):F122 [pd0,pd1,(D.int pn2),(D.bool pb3),(D.str ss0),sd1] =
 let x0:=D.str ss0
 let x1:=Proofs.YtobhhfbdelnhfaaGreatDoor.q146 [x0]
 let x2:=qlen pd1
 let x3:=qcmp .eql x2 x2
 let x4:=qcmp .eql (qlen pd0) (qlen pd0)
 let x5:=D.int pn2
 let x6:=D.bool pb3
 gd (qsome x1)<|bif qnot (qbool (qnth x1 0))then gd x3<|gd x4<|ge pd0<|ge pd1<|ge x5<|ge x6<|some [.int 3,sd1]else bif qiteB (qmhas 9 sd1 x0) (qnot pb3) false then gd x3<|gd x4<|ge pd0<|ge pd1<|ge x5<|ge x6<|some [.int 8,sd1]else gd x3<|gd x4<|ge pd0<|ge pd1<|ge x5<|ge x6<|some [.int 0,qmput 9 sd1 x0 (.int (qbin .add .u32 pn2 (qwrap .u32 x2)))]:=by kernel_rfl
def F122_eq:=by have h:= @F122_e;simp only[ge_id,gd,qeqD_self,qeqI_self,qeq_len,qeq_l,cond_true]at h;exact h
def q122:List D→Option (List D):=veil (F122)
theorem q122_eq:q122=F122:=veil_eq _
def tb122:Tb:=Tb.addF tb37_a 122 S122 (q122)
theorem ok_tb122:TbOk env (tb122):=addFunF ok_tb37_a 122 (by kernel_rfl) _ (q122_eq)
def S123_3:LoopS:=⟨4,[⟨false,(.ptr 0 0)⟩,uF,uF,uF,⟨false,(.lit (.int .i64 0))⟩,⟨false,(.osl 6 5)⟩,uF,uF,uF,uF,uF,⟨false,(.rows 9)⟩,⟨false,(.int .i64)⟩,⟨true,(.int .i64)⟩,uF,uF,uF,uF,uF,uF,uF,uF,uF,uF,uF,uF,uF,uF,uF,uF,uF,uF,uF,uF,uF,uF,uF,uF,uF,uF,uF,uF,uF,uF,uF,uF],[(.lst true 5),(.lst true 9),(.lst false 5), .skip,(.mp false 9 22), .skip,(.cells [⟨false,(.int .u32)⟩,⟨false,(.osl 4 5)⟩,⟨false,(.map 2)⟩,⟨false,(.osl 5 9)⟩,⟨false, .bool⟩])],[⟨0,0,[⟨true,(.ptr 0 0)⟩,uT,uT,uT,⟨true,(.lit (.int .i64 0))⟩,⟨true,(.osl 6 5)⟩,uT,uT,uT,uT,uT,⟨false,(.rows 9)⟩,⟨false,(.int .i64)⟩,uT,uT,uT,uT,uT,uT,uT,uT,uT,uT,uT,uT,uT,uT,uT,uT,uT,uT,uT,uT,uT,uT,uT,uT,uT,uT,uT,uT,uT,uT,uT,uT,uT],[(.lst true 5),(.lst true 9),(.lst false 5), .skip,(.mp false 9 22), .skip,(.cells [⟨false,(.int .u32)⟩,⟨true,(.osl 4 5)⟩,⟨true,(.map 2)⟩,⟨true,(.osl 5 9)⟩,⟨false, .bool⟩])]⟩,⟨1,0,[uT,uT,uT,uT,⟨true,(.lit (.int .i64 3))⟩,uT,uT,uT,uT,uT,uT,⟨false,(.rows 9)⟩,⟨false,(.int .i64)⟩,uT,uT,uT,uT,uT,uT,uT,uT,uT,uT,uT,uT,uT,uT,uT,uT,uT,uT,uT,uT,uT,uT,uT,uT,uT,uT,uT,uT,uT,uT,uT,uT,uT],[(.lst true 9), .skip,(.lst true 9),(.lst false 5), .skip,(.mp false 9 22), .skip,(.cells [⟨false,(.int .u32)⟩,⟨true,(.osl 4 5)⟩,⟨true,(.map 2)⟩,⟨true,(.osl 7 9)⟩,⟨false, .bool⟩])]⟩]⟩
def st123_3 (p s:List D):Option (Sum (List D) (List D)):=stepQX env tb122 60 12 123 (loopC 123 3) S123_3 p s
theorem st123_3_e (pd0:D) (pn1:Int) (pd2:D) (pd3:D) (pn4:Int) (pb5:Bool) (sn0:Int) (sd1:D) (sd2:D):st123_3 [pd0,(D.int pn1),pd2,pd3,(D.int pn4),(D.bool pb5)] [(D.int sn0),sd1,sd2] =
 let x0:=D.str (qstr (qget pd0 sn0))
 let x1:=Proofs.YtobhhfbdelnhfaaGreatDoor.q36 [x0]
 let x2:=qnot (qbool (qnth x1 1))
 let x3:=qcmp .eql (qlen pd2) (qlen pd2)
 let x4:=qcmp .eql (qlen sd2) (qlen sd2)
 let x5:=D.int pn4
 let x6:=D.bool pb5
 let x7:=Proofs.YtobhhfbdelnhfaaGreatDoor.q125 [pd3,pd2,x5,x6,x0,sd2]
 let x8:=qnth x7 2
 let x9:=qcmp .eql (qlen x8) (qlen x8)
 let x10:=D.int pn1
 let x11:=D.list []
 let x12:=Proofs.YtobhhfbdelnhfaaGreatDoor.q49 [x11,.int (qint (qnth x7 0)),.int 4]
 let x13:=qcmp .eql (qlen sd1) (qlen sd1)
 let x14:=qapp sd1 (qnth x12 0)
 let x15:=qlen x14
 let x16:=D.int (qbin .add .i64 sn0 1)
 let x17:=Proofs.YtobhhfbdelnhfaaGreatDoor.q49 [x11,.int (qint (qnth x1 0)),.int 4]
 let x18:=qapp sd1 (qnth x17 0)
 let x19:=qlen x18
 bif qcmp .lss sn0 pn1 then gd (qinb pd0 sn0)<|gd (qsome x1)<|bif x2 then gd x3<|gd x4<|gd (qsome x7)<|bif qnot (qbool (qnth x7 1))then gd x3<|gd x9<|ge pd0<|ge x10<|ge pd2<|ge pd3<|ge x5<|ge x6<|some (Sum.inr [.int 1,x8,x11])else gd (qsome x12)<|gd x13<|gd (qmem x15 1)<|gd (qcmp .eql x15 x15)<|gd x3<|gd x9<|ge pd0<|ge x10<|ge pd2<|ge pd3<|ge x5<|ge x6<|some (Sum.inl [x16,x14,x8])else bif x2 then none else gd (qsome x17)<|gd x13<|gd (qmem x19 1)<|gd (qcmp .eql x19 x19)<|gd x3<|gd x4<|ge pd0<|ge x10<|ge pd2<|ge pd3<|ge x5<|ge x6<|some (Sum.inl [x16,x18,sd2])else gd x13<|gd x3<|gd x4<|ge pd0<|ge x10<|ge pd2<|ge pd3<|ge x5<|ge x6<|some (Sum.inr [.int 0,sd1,sd2]):=by kernel_rfl
def st123_3_eq:=by have h:= @st123_3_e;simp only[ge_id,gd,qeqD_self,qeqI_self,qeq_len,qeq_l,cond_true]at h;exact h
def l123_3:List D→List D→Option (List D):=veil fun p s=>loW (st123_3 p) s
theorem l123_3_eq:l123_3=fun p s=>loW (st123_3 p) s:=veil_eq _
def tbl123_3:Tb:=Tb.addL tb122 123 3 S123_3.n0 (mkLp S123_3 (l123_3))
theorem ok_tbl123_3:TbOk env (tbl123_3):=addLoopQ ok_tb122 123 3 (by kernel_rfl) _ (l123_3_eq)
def S123:FunS:=⟨[⟨true,(.ptr 0 0)⟩,⟨true, .str⟩],[(.lst true 9),(.mp false 9 22),(.lst true 5),(.cells [⟨false,(.int .u32)⟩,⟨false,(.osl 1 5)⟩,⟨false,(.map 2)⟩,⟨false,(.osl 3 9)⟩,⟨false, .bool⟩])],[⟨true,(.int .i64)⟩],[(.lst true 9),(.lst true 5), .skip,(.mp false 9 22), .skip,(.cells [⟨false,(.int .u32)⟩,⟨true,(.osl 4 5)⟩,⟨true,(.map 2)⟩,⟨true,(.osl 5 9)⟩,⟨false, .bool⟩])]⟩
def F123:List D→Option (List D):=liftX env tbl123_3 60 12 123 S123
theorem F123_e (pd0:D) (pn1:Int) (pb2:Bool) (ss0:ByteArray) (sd1:D) (sd2:D):F123 [pd0,(D.int pn1),(D.bool pb2),(D.str ss0),sd1,sd2] =
 let x0:=qcmp .eql (qlen sd2) (qlen sd2)
 let x1:=qsplit ss0 (ByteArray.mk #[44,32])
 let x2:=D.int pn1
 let x3:=D.bool pb2
 let x4:=Proofs.YtobhhfbdelnhfaaGreatDoor.l123_3 [x1,.int (qlen x1),sd2,pd0,x2,x3] [.int 0,.list [],sd1]
 let x5:=qnth x4 1
 let x6:=qcmp .eql (qlen x5) (qlen x5)
 let x7:=qapp sd2 x5
 let x8:=qlen x7
 gd (qcmp .lss (qlenS ss0) 4294967281)<|gd (qcmp .eql 0 (qlen (.list [])))<|gd x0<|gd (qcmp .eql (qlen sd1) (qlen sd1))<|gd (qsome x4)<|bif qcmp .eql (qint (qnth x4 0)) 0 then gd x0<|gd x6<|gd (qmem x8 1)<|gd (qcmp .eql x8 x8)<|gd (qcmp .eql (qlen (qnth x4 2)) (qlen (qnth x4 2)))<|ge pd0<|ge x2<|ge x3<|some [.int 0,qnth x4 2,x7]else gd x0<|gd x6<|ge pd0<|ge x2<|ge x3<|some [.int 3,x5,sd2]:=by kernel_rfl
def F123_eq:=by have h:= @F123_e;simp only[ge_id,gd,qeqD_self,qeqI_self,qeq_len,qeq_l,cond_true]at h;exact h
def q123:List D→Option (List D):=veil (F123)
theorem q123_eq:q123=F123:=veil_eq _
def tb123:Tb:=Tb.addF tbl123_3 123 S123 (q123)
theorem ok_tb123:TbOk env (tb123):=addFunF ok_tbl123_3 123 (by kernel_rfl) _ (q123_eq)
def S124_4:LoopS:=⟨4,[⟨false,(.ptr 0 0)⟩,uF,uF,uF,⟨false,(.lit (.int .i64 0))⟩,⟨false,(.osl 6 5)⟩,⟨true, .bool⟩,uF,uF,uF,uF,uF,⟨false,(.rows 9)⟩,⟨false,(.int .i64)⟩,⟨true,(.int .i64)⟩,uF,uF,uF,uF,uF,uF,uF,uF,uF,uF,uF,uF,uF,uF,uF,uF,uF,uF,uF,uF,uF,uF,uF,uF,uF,uF,uF,uF,uF,uF,uF,uF,uF,uF,uF,uF],[(.lst true 5),(.lst false 9),(.lst false 5), .skip,(.mp false 9 22), .skip,(.cells [⟨false,(.int .u32)⟩,⟨false,(.osl 4 5)⟩,⟨false,(.map 2)⟩,⟨false,(.osl 5 9)⟩,⟨false, .bool⟩])],[⟨0,0,[⟨true,(.ptr 0 0)⟩,uT,uT,uT,⟨true,(.lit (.int .i64 0))⟩,⟨true,(.osl 6 5)⟩,⟨true, .bool⟩,uT,uT,uT,uT,uT,⟨false,(.rows 9)⟩,⟨false,(.int .i64)⟩,uT,uT,uT,uT,uT,uT,uT,uT,uT,uT,uT,uT,uT,uT,uT,uT,uT,uT,uT,uT,uT,uT,uT,uT,uT,uT,uT,uT,uT,uT,uT,uT,uT,uT,uT,uT,uT],[(.lst true 5),(.lst false 9),(.lst false 5), .skip,(.mp false 9 22), .skip,(.cells [⟨false,(.int .u32)⟩,⟨true,(.osl 4 5)⟩,⟨true,(.map 2)⟩,⟨true,(.osl 5 9)⟩,⟨false, .bool⟩])]⟩,⟨1,0,[uT,uT,uT,uT,⟨true,(.lit (.int .i64 3))⟩,uT,uT,uT,uT,uT,uT,uT,⟨false,(.rows 9)⟩,⟨false,(.int .i64)⟩,uT,uT,uT,uT,uT,uT,uT,uT,uT,uT,uT,uT,uT,uT,uT,uT,uT,uT,uT,uT,uT,uT,uT,uT,uT,uT,uT,uT,uT,uT,uT,uT,uT,uT,uT,uT,uT],[.skip,(.lst false 9),(.lst false 5), .skip,(.mp false 9 22), .skip,(.cells [⟨false,(.int .u32)⟩,⟨true,(.osl 4 5)⟩,⟨true,(.map 2)⟩,⟨true,(.osl 5 9)⟩,⟨false, .bool⟩])]⟩]⟩
def st124_4 (p s:List D):Option (Sum (List D) (List D)):=stepQX env tb123 60 12 124 (loopC 124 4) S124_4 p s
theorem st124_4_e (pd0:D) (pn1:Int) (pd2:D) (pd3:D) (pd4:D) (pn5:Int) (pb6:Bool) (sb0:Bool) (sn1:Int) (sd2:D):st124_4 [pd0,(D.int pn1),pd2,pd3,pd4,(D.int pn5),(D.bool pb6)] [(D.bool sb0),(D.int sn1),sd2] =
 let x0:=Proofs.YtobhhfbdelnhfaaGreatDoor.q36 [.str (qstr (qget pd0 sn1))]
 let x1:=qcmp .eql (qlen pd3) (qlen pd3)
 let x2:=qcmp .eql (qlen pd2) (qlen pd2)
 let x3:=D.int pn1
 let x4:=D.int pn5
 let x5:=D.bool pb6
 let x6:=qcmp .eql (qlen sd2) (qlen sd2)
 let x7:=qint (qnth x0 0)
 let x8:=qapp sd2 (.list [.int (qwrap .u8 x7)])
 let x9:=qlen x8
 bif qcmp .lss sn1 pn1 then gd (qinb pd0 sn1)<|gd (qsome x0)<|bif qnot (qbool (qnth x0 1))then gd x1<|gd x2<|ge pd0<|ge x3<|ge pd2<|ge pd3<|ge pd4<|ge x4<|ge x5<|some (Sum.inr [.int 1])else gd x6<|gd (qmem x9 1)<|gd (qcmp .eql x9 x9)<|gd x1<|gd x2<|ge pd0<|ge x3<|ge pd2<|ge pd3<|ge pd4<|ge x4<|ge x5<|some (Sum.inl [.bool (qiteB sb0 true (qiteB (qcmp .gtr x7 255) (qnot (qcmp .eql (qwrap .u32 (qwrap .i8 x7)) x7)) false)),.int (qbin .add .i64 sn1 1),x8])else gd x6<|gd x1<|gd x2<|ge pd0<|ge x3<|ge pd2<|ge pd3<|ge pd4<|ge x4<|ge x5<|some (Sum.inr [.int 0,.bool sb0,sd2]):=by kernel_rfl
def st124_4_eq:=by have h:= @st124_4_e;simp only[ge_id,gd,qeqD_self,qeqI_self,qeq_len,qeq_l,cond_true]at h;exact h
def l124_4:List D→List D→Option (List D):=veil fun p s=>loW (st124_4 p) s
theorem l124_4_eq:l124_4=fun p s=>loW (st124_4 p) s:=veil_eq _
def tbl124_4:Tb:=Tb.addL tb123 124 4 S124_4.n0 (mkLp S124_4 (l124_4))
theorem ok_tbl124_4:TbOk env (tbl124_4):=addLoopQ ok_tb123 124 4 (by kernel_rfl) _ (l124_4_eq)
def S124:FunS:=⟨[⟨true,(.ptr 0 0)⟩,⟨true, .str⟩],[(.lst true 9),(.mp false 9 22),(.lst true 5),(.cells [⟨false,(.int .u32)⟩,⟨false,(.osl 1 5)⟩,⟨false,(.map 2)⟩,⟨false,(.osl 3 9)⟩,⟨false, .bool⟩])],[⟨true,(.int .i64)⟩],[(.lst true 9),(.lst true 5), .skip,(.mp false 9 22), .skip,(.cells [⟨false,(.int .u32)⟩,⟨true,(.osl 4 5)⟩,⟨true,(.map 2)⟩,⟨true,(.osl 5 9)⟩,⟨false, .bool⟩])]⟩
def F124:List D→Option (List D):=liftX env tbl124_4 60 12 124 S124
theorem F124_e (pd0:D) (pn1:Int) (pb2:Bool) (ss0:ByteArray) (sd1:D) (sd2:D):F124 [pd0,(D.int pn1),(D.bool pb2),(D.str ss0),sd1,sd2] =
 let x0:=qcmp .eql (qlen sd2) (qlen sd2)
 let x1:=qcmp .eql (qlen sd1) (qlen sd1)
 let x2:=qsplit ss0 (ByteArray.mk #[44,32])
 let x3:=D.int pn1
 let x4:=D.bool pb2
 let x5:=Proofs.YtobhhfbdelnhfaaGreatDoor.l124_4 [x2,.int (qlen x2),sd1,sd2,pd0,x3,x4] [.bool false,.int 0,.list []]
 let x6:=qapp sd2 (qnth x5 2)
 let x7:=qlen x6
 gd (qcmp .lss (qlenS ss0) 4294967281)<|gd (qcmp .eql 0 (qlen (.list [])))<|gd x0<|gd x1<|gd (qsome x5)<|bif qcmp .eql (qint (qnth x5 0)) 0 then bif qbool (qnth x5 1)then gd x0<|gd x1<|ge pd0<|ge x3<|ge x4<|some [.int 7,sd1,sd2]else gd x0<|gd (qcmp .eql (qlen (qnth x5 2)) (qlen (qnth x5 2)))<|gd (qmem x7 1)<|gd (qcmp .eql x7 x7)<|gd x1<|ge pd0<|ge x3<|ge x4<|some [.int 0,sd1,x6]else gd x0<|gd x1<|ge pd0<|ge x3<|ge x4<|some [.int 3,sd1,sd2]:=by kernel_rfl
def F124_eq:=by have h:= @F124_e;simp only[ge_id,gd,qeqD_self,qeqI_self,qeq_len,qeq_l,cond_true]at h;exact h
def q124:List D→Option (List D):=veil (F124)
theorem q124_eq:q124=F124:=veil_eq _
def tb124:Tb:=Tb.addF tbl124_4 124 S124 (q124)
theorem ok_tb124:TbOk env (tb124):=addFunF ok_tbl124_4 124 (by kernel_rfl) _ (q124_eq)
def S76:FunS:=⟨[⟨true,(.ptr 0 0)⟩,⟨true, .str⟩],[(.lst true 9),(.mp true 9 22),(.lst true 5),(.cells [⟨false,(.int .u32)⟩,⟨false,(.osl 1 5)⟩,⟨false,(.map 2)⟩,⟨false,(.osl 3 9)⟩,⟨false, .bool⟩])],[⟨true,(.int .i64)⟩],[(.lst true 9),(.lst true 5), .skip,(.mp true 9 22), .skip,(.cells [⟨false,(.int .u32)⟩,⟨true,(.osl 4 5)⟩,⟨true,(.map 2)⟩,⟨true,(.osl 5 9)⟩,⟨false, .bool⟩])]⟩
def F76:List D→Option (List D):=liftX env tb124 60 12 76 S76
theorem F76_e (pn0:Int) (pb1:Bool) (ss0:ByteArray) (sd1:D) (sd2:D) (sd3:D):F76 [(D.int pn0),(D.bool pb1),(D.str ss0),sd1,sd2,sd3] =
 let x0:=qlen sd3
 let x1:=qcmp .eql x0 x0
 let x2:=qcmp .eql (qlen sd1) (qlen sd1)
 let x3:=D.int pn0
 let x4:=D.bool pb1
 let x5:=D.str ss0
 let x6:=Proofs.YtobhhfbdelnhfaaGreatDoor.q62 [x5,.str (ByteArray.mk #[58])]
 let x7:=Proofs.YtobhhfbdelnhfaaGreatDoor.q122 [sd1,sd3,x3,x4,.str (qstr (qnth x6 0)),sd2]
 let x8:=Proofs.YtobhhfbdelnhfaaGreatDoor.q59 [x5,.str (ByteArray.mk #[46,119,111,114,100,32])]
 let x9:=Proofs.YtobhhfbdelnhfaaGreatDoor.q123 [sd2,x3,x4,.str (qstr (qnth x8 0)),sd1,sd3]
 let x10:=Proofs.YtobhhfbdelnhfaaGreatDoor.q59 [x5,.str (ByteArray.mk #[46,98,121,116,101,32])]
 let x11:=Proofs.YtobhhfbdelnhfaaGreatDoor.q124 [sd2,x3,x4,.str (qstr (qnth x10 0)),sd1,sd3]
 let x12:=Proofs.YtobhhfbdelnhfaaGreatDoor.q37_a [sd2,sd3,x3,x4,x5,.int (qbin .add .u32 pn0 (qwrap .u32 x0)),sd1]
 let x13:=qint (qnth x12 1)
 let x14:=qnth x12 2
 let x15:=qcmp .eql (qlen x14) (qlen x14)
 let x16:=Proofs.YtobhhfbdelnhfaaGreatDoor.q17 [qnth x12 0]
 let x17:=qint (qnth x16 1)
 let x18:=qapp sd3 (qnth x16 0)
 let x19:=qlen x18
 bif qcmpS .eql ss0 (ByteArray.mk #[])then gd x1<|gd x2<|ge x3<|ge x4<|some [.int 0,sd1,sd3,sd2]else gd (qsome x6)<|bif qbool (qnth x6 1)then gd x1<|gd x2<|gd (qsome x7)<|gd x1<|gd x2<|ge x3<|ge x4<|some [.int (qint (qnth x7 0)),sd1,sd3,qnth x7 1]else gd (qsome x8)<|bif qbool (qnth x8 1)then gd x1<|gd x2<|gd (qsome x9)<|gd (qcmp .eql (qlen (qnth x9 2)) (qlen (qnth x9 2)))<|gd (qcmp .eql (qlen (qnth x9 1)) (qlen (qnth x9 1)))<|ge x3<|ge x4<|some [.int (qint (qnth x9 0)),qnth x9 1,qnth x9 2,sd2]else gd (qsome x10)<|bif qbool (qnth x10 1)then gd x1<|gd x2<|gd (qsome x11)<|gd (qcmp .eql (qlen (qnth x11 2)) (qlen (qnth x11 2)))<|gd (qcmp .eql (qlen (qnth x11 1)) (qlen (qnth x11 1)))<|ge x3<|ge x4<|some [.int (qint (qnth x11 0)),qnth x11 1,qnth x11 2,sd2]else gd x1<|gd x2<|gd (qsome x12)<|bif qcmp .neq x13 0 then gd x1<|gd x15<|ge x3<|ge x4<|some [.int x13,x14,sd3,sd2]else gd (qsome x16)<|bif qcmp .neq x17 0 then gd x1<|gd x15<|ge x3<|ge x4<|some [.int x17,x14,sd3,sd2]else gd x1<|gd (qmem x19 1)<|gd (qcmp .eql x19 x19)<|gd x15<|ge x3<|ge x4<|some [.int 0,x14,x18,sd2]:=by kernel_rfl
def F76_eq:=by have h:= @F76_e;simp only[ge_id,gd,qeqD_self,qeqI_self,qeq_len,qeq_l,cond_true]at h;exact h
def q76:List D→Option (List D):=veil (F76)
theorem q76_eq:q76=F76:=veil_eq _
def tb76:Tb:=Tb.addF tb124 76 S76 (q76)
theorem ok_tb76:TbOk env (tb76):=addFunF ok_tb124 76 (by kernel_rfl) _ (q76_eq)
end
end Go.Proofs.YtobhhfbdelnhfaaGreatDoor
open Go Go.AM
namespace Go.Proofs.YtobhhfbdelnhfaaGreatDoor
noncomputable section
set_option maxRecDepth 100000
set_option linter.unusedSimpArgs false
set_option linter.unusedVariables false
set_option linter.defProp false
def S41_3:LoopS:=⟨4,[⟨false,(.ptr 0 0)⟩,uF,uF,uF,⟨false,(.lit (.int .i64 0))⟩,uF,uF,uF,uF,uF,uF,uF,uF,uF,⟨false,(.rows 9)⟩,⟨false,(.int .i64)⟩,⟨true,(.int .i64)⟩,uF,uF,uF,uF,uF,uF,uF,uF,uF,uF],[(.lst true 9),(.lst true 5),(.lst false 9),(.mp true 9 22),(.lst false 5),(.cells [⟨false,(.int .u32)⟩,⟨false,(.osl 4 5)⟩,⟨false,(.map 2)⟩,⟨false,(.osl 5 9)⟩,⟨false, .bool⟩])],[⟨0,0,[uT,uT,uT,uT,⟨true,(.lit (.int .i64 0))⟩,uT,uT,uT,uT,uT,uT,uT,uT,uT,⟨false,(.rows 9)⟩,⟨false,(.int .i64)⟩,uT,uT,uT,uT,uT,uT,uT,uT,uT,uT,uT],[(.lst true 9),(.lst true 5),(.lst false 9),(.mp true 9 22),(.lst false 5),(.cells [⟨false,(.int .u32)⟩,⟨true,(.osl 4 5)⟩,⟨true,(.map 2)⟩,⟨true,(.osl 5 9)⟩,⟨false, .bool⟩])]⟩,⟨1,0,[uT,uT,uT,uT,⟨true,(.int .i64)⟩,uT,uT,uT,uT,uT,uT,uT,uT,uT,⟨false,(.rows 9)⟩,⟨false,(.int .i64)⟩,uT,uT,uT,uT,uT,uT,uT,uT,uT,uT,uT],[(.lst true 9),(.lst true 5), .skip, .skip,(.lst false 9),(.mp true 9 22),(.lst false 5),(.cells [⟨false,(.int .u32)⟩,⟨true,(.osl 6 5)⟩,⟨true,(.map 2)⟩,⟨true,(.osl 7 9)⟩,⟨false, .bool⟩])]⟩]⟩
def st41_3 (p s:List D):Option (Sum (List D) (List D)):=stepQX env tb76 60 12 41 (loopC 41 3) S41_3 p s
theorem st41_3_e (pd0:D) (pn1:Int) (pd2:D) (pd3:D) (pn4:Int) (pb5:Bool) (sn0:Int) (sd1:D) (sd2:D) (sd3:D):st41_3 [pd0,(D.int pn1),pd2,pd3,(D.int pn4),(D.bool pb5)] [(D.int sn0),sd1,sd2,sd3] =
 let x0:=qcmp .eql (qlen sd2) (qlen sd2)
 let x1:=qcmp .eql (qlen sd1) (qlen sd1)
 let x2:=D.int pn4
 let x3:=D.bool pb5
 let x4:=Proofs.YtobhhfbdelnhfaaGreatDoor.q76 [x2,x3,.str (qstr (qget pd0 sn0)),sd1,sd3,sd2]
 let x5:=qint (qnth x4 0)
 let x6:=qnth x4 2
 let x7:=qcmp .eql (qlen x6) (qlen x6)
 let x8:=qnth x4 1
 let x9:=qcmp .eql (qlen x8) (qlen x8)
 let x10:=D.int pn1
 bif qcmp .lss sn0 pn1 then gd (qinb pd0 sn0)<|gd x0<|gd x1<|gd (qsome x4)<|bif qcmp .neq x5 0 then gd x7<|gd x9<|ge pd0<|ge x10<|ge pd2<|ge pd3<|ge x2<|ge x3<|some (Sum.inr [.int 1,.int x5,x8,x6,qnth x4 3])else gd x7<|gd x9<|ge pd0<|ge x10<|ge pd2<|ge pd3<|ge x2<|ge x3<|some (Sum.inl [.int (qbin .add .i64 sn0 1),x8,x6,qnth x4 3])else gd x0<|gd x1<|ge pd0<|ge x10<|ge pd2<|ge pd3<|ge x2<|ge x3<|some (Sum.inr [.int 0,sd1,sd2,sd3]):=by kernel_rfl
def st41_3_eq:=by have h:= @st41_3_e;simp only[ge_id,gd,qeqD_self,qeqI_self,qeq_len,qeq_l,cond_true]at h;exact h
def l41_3:List D→List D→Option (List D):=veil fun p s=>loW (st41_3 p) s
theorem l41_3_eq:l41_3=fun p s=>loW (st41_3 p) s:=veil_eq _
def tbl41_3:Tb:=Tb.addL tb76 41 3 S41_3.n0 (mkLp S41_3 (l41_3))
theorem ok_tbl41_3:TbOk env (tbl41_3):=addLoopQ ok_tb76 41 3 (by kernel_rfl) _ (l41_3_eq)
def S41:FunS:=⟨[⟨true,(.ptr 0 0)⟩,⟨true,(.rows 9)⟩],[(.lst false 9),(.mp true 9 22),(.lst false 5),(.cells [⟨false,(.int .u32)⟩,⟨false,(.osl 1 5)⟩,⟨false,(.map 2)⟩,⟨false,(.osl 3 9)⟩,⟨false, .bool⟩])],[⟨true,(.int .i64)⟩],[(.lst true 9),(.lst true 5),(.lst false 9),(.mp true 9 22),(.lst false 5),(.cells [⟨false,(.int .u32)⟩,⟨true,(.osl 4 5)⟩,⟨true,(.map 2)⟩,⟨true,(.osl 5 9)⟩,⟨false, .bool⟩])]⟩
def F41:List D→Option (List D):=liftX env tbl41_3 60 12 41 S41
theorem F41_e (pd0:D) (pd1:D) (pn2:Int) (pb3:Bool) (sd0:D) (sd1:D):F41 [pd0,pd1,(D.int pn2),(D.bool pb3),sd0,sd1] =
 let x0:=D.list []
 let x1:=qcmp .eql 0 (qlen x0)
 let x2:=D.int pn2
 let x3:=D.bool pb3
 let x4:=Proofs.YtobhhfbdelnhfaaGreatDoor.l41_3 [sd0,.int (qlen sd0),pd0,pd1,x2,x3] [.int 0,x0,x0,sd1]
 let x5:=qnth x4 2
 let x6:=qcmp .eql (qlen x5) (qlen x5)
 let x7:=qnth x4 1
 let x8:=qnth x4 3
 gd x1<|gd x1<|gd (qsome x4)<|bif qcmp .eql (qint (qnth x4 0)) 0 then gd x6<|gd (qcmp .eql (qlen x7) (qlen x7))<|ge pd0<|ge pd1<|ge x2<|ge x3<|some [.int 0,x7,x5,x8]else gd (qcmp .eql (qlen x8) (qlen x8))<|gd x6<|ge pd0<|ge pd1<|ge x2<|ge x3<|some [.int (qint x7),x5,x8,qnth x4 4]:=by kernel_rfl
def F41_eq:=by have h:= @F41_e;simp only[ge_id,gd,qeqD_self,qeqI_self,qeq_len,qeq_l,cond_true]at h;exact h
def q41:List D→Option (List D):=veil (F41)
theorem q41_eq:q41=F41:=veil_eq _
def tb41:Tb:=Tb.addF tbl41_3 41 S41 (q41)
theorem ok_tb41:TbOk env (tb41):=addFunF ok_tbl41_3 41 (by kernel_rfl) _ (q41_eq)
def S13_11:LoopS:=⟨0,[uF,uF,uF,uF,⟨false,(.lit (.slice none 0 0))⟩,⟨false,(.lit (.int .i64 0))⟩,⟨false,(.ptr 0 0)⟩,⟨false,(.rows 9)⟩,uF,uF,uF,uF,uF,uF,uF,uF,uF,uF,uF,uF,uF,uF,uF,uF,uF,uF,uF,uF,uF,uF,uF,uF,uF,uF,uF,uF,uF,uF,⟨false,(.osl 3 9)⟩,⟨false,(.int .i64)⟩,⟨true,(.int .i64)⟩,uF,uF,uF,uF,uF,uF,uF,uF,uF,uF,uF,uF,uF,uF,uF,uF,uF,uF,uF,uF,uF,uF,uF,uF,uF,uF,uF,uF],[(.lst false 9),(.mp false 9 22),(.lst false 5),(.cells [⟨false,(.int .u32)⟩,⟨false,(.osl 1 5)⟩,⟨false,(.map 2)⟩,⟨false,(.osl 3 9)⟩,⟨false, .bool⟩])],[⟨0,0,[uT,uT,uT,uT,⟨true,(.lit (.slice none 0 0))⟩,⟨true,(.lit (.int .i64 0))⟩,⟨true,(.ptr 0 0)⟩,⟨false,(.rows 9)⟩,uT,uT,uT,uT,uT,uT,uT,uT,uT,uT,uT,uT,uT,uT,uT,uT,uT,uT,uT,uT,uT,uT,uT,uT,uT,uT,uT,uT,uT,uT,uT,⟨false,(.int .i64)⟩,uT,uT,uT,uT,uT,uT,uT,uT,uT,uT,uT,uT,uT,uT,uT,uT,uT,uT,uT,uT,uT,uT,uT,uT,uT,uT,uT,uT,uT],[(.lst false 9),(.mp false 9 22),(.lst false 5),(.cells [⟨false,(.int .u32)⟩,⟨true,(.osl 1 5)⟩,⟨true,(.map 2)⟩,⟨true,(.osl 3 9)⟩,⟨false, .bool⟩])]⟩,⟨1,0,[uT,uT,uT,uT,⟨true,(.lit (.slice none 0 0))⟩,⟨true,(.lit (.int .i64 17))⟩,uT,⟨false,(.rows 9)⟩,uT,uT,uT,uT,uT,uT,uT,uT,uT,uT,uT,uT,uT,uT,uT,uT,uT,uT,uT,uT,uT,uT,uT,uT,uT,uT,uT,uT,uT,uT,uT,⟨false,(.int .i64)⟩,uT,uT,uT,uT,uT,uT,uT,uT,uT,uT,uT,uT,uT,uT,uT,uT,uT,uT,uT,uT,uT,uT,uT,uT,uT,uT,uT,uT,uT],[(.lst false 9),(.mp false 9 22),(.lst false 5),(.cells [⟨false,(.int .u32)⟩,uT,uT,uT,⟨false, .bool⟩])]⟩]⟩
def st13_11 (p s:List D):Option (Sum (List D) (List D)):=stepQX env tb41 60 12 13 (loopC 13 11) S13_11 p s
theorem st13_11_e (pd0:D) (pn1:Int) (pd2:D) (pd3:D) (pd4:D) (pn5:Int) (pb6:Bool) (sn0:Int):st13_11 [pd0,(D.int pn1),pd2,pd3,pd4,(D.int pn5),(D.bool pb6)] [(D.int sn0)] =
 let x0:=qlen pd2
 let x1:=D.int pn1
 let x2:=D.int pn5
 let x3:=D.bool pb6
 let x4:=qcmp .eql x0 x0
 let x5:=qcmp .eql (qlen pd4) (qlen pd4)
 bif qcmp .lss sn0 pn1 then gd (qcmp .leq 0 sn0)<|gd (qcmp .lss sn0 x0)<|gd (qinb pd2 sn0)<|bif qnot (qmhas 9 pd3 (.str (qstr (qget pd2 sn0))))then ge pd0<|ge x1<|ge pd2<|ge pd3<|ge pd4<|ge x2<|ge x3<|some (Sum.inr [.int 1])else gd x4<|gd x5<|gd x4<|ge pd0<|ge x1<|ge pd2<|ge pd3<|ge pd4<|ge x2<|ge x3<|some (Sum.inl [.int (qbin .add .i64 sn0 1)])else gd x5<|gd x4<|ge pd0<|ge x1<|ge pd2<|ge pd3<|ge pd4<|ge x2<|ge x3<|some (Sum.inr [.int 0]):=by kernel_rfl
def st13_11_eq:=by have h:= @st13_11_e;simp only[ge_id,gd,qeqD_self,qeqI_self,qeq_len,qeq_l,cond_true]at h;exact h
def l13_11:List D→List D→Option (List D):=veil fun p s=>loW (st13_11 p) s
theorem l13_11_eq:l13_11=fun p s=>loW (st13_11 p) s:=veil_eq _
def tbl13_11:Tb:=Tb.addL tb41 13 11 S13_11.n0 (mkLp S13_11 (l13_11))
theorem ok_tbl13_11:TbOk env (tbl13_11):=addLoopQ ok_tb41 13 11 (by kernel_rfl) _ (l13_11_eq)
def S13:FunS:=⟨[⟨true, .str⟩,⟨true,(.int .u32)⟩],[],[⟨true,(.tup [(.rows 5),(.int .i64)])⟩],[]⟩
def F13:List D→Option (List D):=liftX env tbl13_11 60 12 13 S13
theorem F13_e (ss0:ByteArray) (sn1:Int):F13 [(D.str ss0),(D.int sn1)] =
 let x0:=D.list []
 let x1:Option (List D):=some [x0,.int 6]
 let x2:=qcmp .eql 0 (qlen x0)
 let x3:=D.int sn1
 let x4:=D.bool false
 let x5:=qsplit ss0 (ByteArray.mk #[10])
 let x6:=Proofs.YtobhhfbdelnhfaaGreatDoor.q41 [x0,x0,x3,x4,x5,x0]
 let x7:=qint (qnth x6 0)
 let x8:=qnth x6 2
 let x9:=qlen x8
 let x10:=qnth x6 1
 let x11:=qlen x10
 let x12:=qcmp .eql x11 x11
 let x13:=qcmp .eql x9 x9
 let x14:=Proofs.YtobhhfbdelnhfaaGreatDoor.l13_11 [x5,.int x11,x10,qnth x6 3,x8,x3,x4] [.int 0]
 let x15:=Proofs.YtobhhfbdelnhfaaGreatDoor.q41 [x10,x8,x3,.bool true,x5,qnth x6 3]
 let x16:=qint (qnth x15 0)
 bif qcmp .gtr (qlenS ss0) 65536 then x1 else gd (qcmp .lss (qlenS ss0) 4294967281)<|gd x2<|gd x2<|gd (qsome x6)<|bif qcmp .neq x7 0 then some [x0,.int x7]else bif qcmp .gtr x9 65536 then x1 else gd x12<|gd x13<|gd x12<|gd (qsome x14)<|bif qcmp .eql (qint (qnth x14 0)) 0 then gd x13<|gd x12<|gd (qsome x15)<|bif qcmp .neq x16 0 then some [x0,.int x16]else gd (qcmp .eql (qlen (qnth x15 2)) (qlen (qnth x15 2)))<|some [qnth x15 2,.int 0]else some [x0,.int 17]:=by kernel_rfl
def F13_eq:=by have h:= @F13_e;simp only[ge_id,gd,qeqD_self,qeqI_self,qeq_len,qeq_l,cond_true]at h;exact h
def q13:List D→Option (List D):=veil (F13)
theorem q13_eq:q13=F13:=veil_eq _
def tb13:Tb:=Tb.addF tbl13_11 13 S13 (q13)
theorem ok_tb13:TbOk env (tb13):=addFunF ok_tbl13_11 13 (by kernel_rfl) _ (q13_eq)
end
end Go.Proofs.YtobhhfbdelnhfaaGreatDoor
open Go Go.AM
namespace Go.Proofs.YtobhhfbdelnhfaaGreatDoor
noncomputable section
set_option maxRecDepth 100000
set_option linter.unusedSimpArgs false
set_option linter.unusedVariables false
set_option linter.defProp false
def tbz113:Tb:=Tb.addF tb13 113 S113 q113
theorem ok_tbz113:TbOk env tbz113:=TbOk.addF ok_tb13 (by kernel_rfl) (by rw[q113_eq];exact liftX_sound envOk ok_tbl113_2 60 12)
def tbz112:Tb:=Tb.addF tbz113 112 S112 q112
theorem ok_tbz112:TbOk env tbz112:=TbOk.addF ok_tbz113 (by kernel_rfl) (by rw[q112_eq];exact liftX_sound envOk ok_tbl112_4 60 12)
def tbz70:Tb:=Tb.addF tbz112 70 S70 q70
theorem ok_tbz70:TbOk env tbz70:=TbOk.addF ok_tbz112 (by kernel_rfl) (by rw[q70_eq];exact liftX_sound envOk ok_tbl70_2 60 12)
def tbz115:Tb:=Tb.addF tbz70 115 S115 q115
theorem ok_tbz115:TbOk env tbz115:=TbOk.addF ok_tbz70 (by kernel_rfl) (by rw[q115_eq];exact liftX_sound envOk ok_tb70 60 12)
def tbz72:Tb:=Tb.addF tbz115 72 S72 q72
theorem ok_tbz72:TbOk env tbz72:=TbOk.addF ok_tbz115 (by kernel_rfl) (by rw[q72_eq];exact liftX_sound envOk ok_tb118_n 60 12)
def tbz71:Tb:=Tb.addF tbz72 71 S71 q71
theorem ok_tbz71:TbOk env tbz71:=TbOk.addF ok_tbz72 (by kernel_rfl) (by rw[q71_eq];exact liftX_sound envOk ok_tb72 60 12)
def tbz117:Tb:=Tb.addF tbz71 117 S117 q117
theorem ok_tbz117:TbOk env tbz117:=TbOk.addF ok_tbz71 (by kernel_rfl) (by rw[q117_eq];exact liftX_sound envOk ok_tb71 60 12)
def S78_4:LoopS:=⟨0,[⟨false, .str⟩,uF,⟨false,(.lit (.bool false))⟩,⟨true,(.int .i64)⟩,uF,uF,uF,uF,uF,uF,uF,uF,uF,uF,uF,uF,uF,uF,uF,uF,uF,uF,uF,uF,uF,uF,uF,uF,uF,uF,uF,uF,uF,uF,uF,uF,uF,uF,uF,uF,uF,uF,uF,uF,uF,uF,uF,uF,uF,uF,uF,uF,uF,uF,uF,uF,uF,uF,uF,uF,uF,uF,uF,uF,uF,uF,uF,uF],[],[⟨0,0,[⟨false, .str⟩,uT,⟨true,(.lit (.bool false))⟩,uT,uT,uT,uT,uT,uT,uT,uT,uT,uT,uT,uT,uT,uT,uT,uT,uT,uT,uT,uT,uT,uT,uT,uT,uT,uT,uT,uT,uT,uT,uT,uT,uT,uT,uT,uT,uT,uT,uT,uT,uT,uT,uT,uT,uT,uT,uT,uT,uT,uT,uT,uT,uT,uT,uT,uT,uT,uT,uT,uT,uT,uT,uT,uT,uT],[]⟩,⟨1,0,[⟨false, .str⟩,uT,⟨true,(.lit (.bool false))⟩,uT,uT,uT,uT,uT,uT,uT,uT,uT,uT,uT,uT,uT,uT,uT,uT,uT,uT,uT,uT,uT,uT,uT,uT,uT,uT,uT,uT,uT,uT,uT,uT,uT,uT,uT,uT,uT,uT,uT,uT,uT,uT,uT,uT,uT,uT,uT,uT,uT,uT,uT,uT,uT,uT,uT,uT,uT,uT,uT,uT,uT,uT,uT,uT,uT],[]⟩]⟩
def st78_4 (p s:List D):Option (Sum (List D) (List D)):=stepQX env tbz117 60 12 78 (loopC 78 4) S78_4 p s
theorem st78_4_e (ps0:ByteArray) (sn0:Int):st78_4 [(D.str ps0)] [(D.int sn0)] =
 let x0:=qidxS ps0 sn0
 let x1:=D.str ps0
 bif qcmp .lss sn0 (qlenS ps0)then gd (qinbS ps0 sn0)<|bif qiteB (qnot (qiteB (qiteB (qiteB (qcmp .geq x0 97) (qcmp .leq x0 122) false) true (qiteB (qcmp .geq x0 65) (qcmp .leq x0 90) false)) true (qcmp .eql x0 95))) (qiteB (qcmp .eql sn0 0) true (qiteB (qcmp .neq x0 46) (qiteB (qcmp .lss x0 48) true (qcmp .gtr x0 57)) false)) false then ge x1<|some (Sum.inr [.int 1])else ge x1<|some (Sum.inl [.int (qbin .add .i64 sn0 1)])else ge x1<|some (Sum.inr [.int 0]):=by kernel_rfl
def st78_4_eq:=by have h:= @st78_4_e;simp only[ge_id,gd,qeqD_self,qeqI_self,qeq_len,qeq_l,cond_true]at h;exact h
def l78_4:List D→List D→Option (List D):=veil fun p s=>loW (st78_4 p) s
theorem l78_4_eq:l78_4=fun p s=>loW (st78_4 p) s:=veil_eq _
def tbl78_4:Tb:=Tb.addL tbz117 78 4 S78_4.n0 (mkLp S78_4 (l78_4))
theorem ok_tbl78_4:TbOk env (tbl78_4):=addLoopQ ok_tbz117 78 4 (by kernel_rfl) _ (l78_4_eq)
def S78:FunS:=⟨[⟨true, .str⟩],[],[⟨true, .bool⟩],[]⟩
def F78:List D→Option (List D):=liftX env tbl78_4 60 12 78 S78
theorem F78_e (ss0:ByteArray):F78 [(D.str ss0)] =
 let x0:Option (List D):=some [.bool false]
 let x1:List D:=[.str ss0]
 let x2:=Proofs.YtobhhfbdelnhfaaGreatDoor.l78_4 x1 [.int 0]
 let x3:=Proofs.YtobhhfbdelnhfaaGreatDoor.q114 x1
 bif qiteB (qcmp .lss (qlenS ss0) 1) true (qcmp .gtr (qlenS ss0) 32)then x0 else gd (qsome x2)<|bif qcmp .eql (qint (qnth x2 0)) 0 then gd (qsome x3)<|some [.bool (qnot (qbool (qnth x3 1)))]else x0:=by kernel_rfl
def F78_eq:=by have h:= @F78_e;simp only[ge_id,gd,qeqD_self,qeqI_self,qeq_len,qeq_l,cond_true]at h;exact h
def q78:List D→Option (List D):=veil (F78)
theorem q78_eq:q78=F78:=veil_eq _
def tb78:Tb:=Tb.addF tbl78_4 78 S78 (q78)
theorem ok_tb78:TbOk env (tb78):=addFunF ok_tbl78_4 78 (by kernel_rfl) _ (q78_eq)
def S77_9:LoopS:=⟨0,[⟨false, .str⟩,⟨false,(.rows 107)⟩,uF,uF,uF,uF,⟨false,(.lit (.int .u32 0))⟩,⟨false,(.lit (.bool false))⟩,⟨false,(.lit (.int .i64 0))⟩,uF,uF,⟨true,(.int .i64)⟩,uF,uF,uF,uF,uF,uF,uF,uF,uF,uF,uF,uF,uF,uF,uF,uF,uF,uF,uF,uF,uF,uF,uF,uF,uF,uF,uF,uF,uF,uF,uF,uF,uF,uF],[],[⟨0,0,[⟨false, .str⟩,⟨false,(.rows 107)⟩,uT,uT,uT,uT,⟨true,(.lit (.int .u32 0))⟩,⟨true,(.lit (.bool false))⟩,⟨true,(.lit (.int .i64 0))⟩,uT,uT,uT,uT,uT,uT,uT,uT,uT,uT,uT,uT,uT,uT,uT,uT,uT,uT,uT,uT,uT,uT,uT,uT,uT,uT,uT,uT,uT,uT,uT,uT,uT,uT,uT,uT,uT],[]⟩,⟨1,0,[⟨false, .str⟩,⟨false,(.rows 107)⟩,uT,uT,uT,uT,⟨true,(.int .u32)⟩,⟨true,(.lit (.bool true))⟩,⟨true,(.lit (.int .i64 0))⟩,uT,uT,uT,uT,uT,uT,uT,uT,uT,uT,uT,uT,uT,uT,uT,uT,uT,uT,uT,uT,uT,uT,uT,uT,uT,uT,uT,uT,uT,uT,uT,uT,uT,uT,uT,uT,uT],[]⟩]⟩
def st77_9 (p s:List D):Option (Sum (List D) (List D)):=stepQX env tb78 60 12 77 (loopC 77 9) S77_9 p s
theorem st77_9_e (ps0:ByteArray) (pd1:D) (sn0:Int):st77_9 [(D.str ps0),pd1] [(D.int sn0)] =
 let x0:=qinb pd1 sn0
 let x1:=qget pd1 sn0
 let x2:=D.str ps0
 bif qcmp .lss sn0 (qlen pd1)then gd x0<|bif qcmpS .eql (qstr (qfld x1 0)) ps0 then gd x0<|ge x2<|ge pd1<|some (Sum.inr [.int 1,.int (qint (qfld x1 1))])else ge x2<|ge pd1<|some (Sum.inl [.int (qbin .add .i64 sn0 1)])else ge x2<|ge pd1<|some (Sum.inr [.int 0]):=by kernel_rfl
def st77_9_eq:=by have h:= @st77_9_e;simp only[ge_id,gd,qeqD_self,qeqI_self,qeq_len,qeq_l,cond_true]at h;exact h
def l77_9:List D→List D→Option (List D):=veil fun p s=>loW (st77_9 p) s
theorem l77_9_eq:l77_9=fun p s=>loW (st77_9 p) s:=veil_eq _
def tbl77_9:Tb:=Tb.addL tb78 77 9 S77_9.n0 (mkLp S77_9 (l77_9))
theorem ok_tbl77_9:TbOk env (tbl77_9):=addLoopQ ok_tb78 77 9 (by kernel_rfl) _ (l77_9_eq)
def S77:FunS:=⟨[⟨true, .str⟩,⟨true,(.rows 107)⟩,⟨true,(.int .i64)⟩],[],[⟨true,(.tup [(.int .u32), .bool,(.int .i64)])⟩],[]⟩
def F77:List D→Option (List D):=liftX env tbl77_9 60 12 77 S77
theorem F77_e (ss0:ByteArray) (sd1:D) (sn2:Int):F77 [(D.str ss0),sd1,(D.int sn2)] =
 let x0:=Proofs.YtobhhfbdelnhfaaGreatDoor.q126 [.str ss0]
 let x1:=D.bool false
 let x2:=D.int 0
 let x3:=qcmp .eql sn2 0
 let x4:=Proofs.YtobhhfbdelnhfaaGreatDoor.q78 [.str ss0]
 let x5:=D.bool true
 let x6:=Proofs.YtobhhfbdelnhfaaGreatDoor.l77_9 [.str ss0,sd1] [x2]
 gd (qsome x0)<|bif qbool (qnth x0 1)then some [.int (qint (qnth x0 0)),x1,x2]else gd (qiteB x3 true (qsome x4))<|bif qiteB x3 true (qnot (qbool (qnth x4 0)))then some [x2,x1,.int 3]else bif qcmp .eql sn2 1 then some [x2,x5,x2]else gd (qsome x6)<|bif qcmp .eql (qint (qnth x6 0)) 0 then some [x2,x5,.int 17]else some [.int (qint (qnth x6 1)),x5,x2]:=by kernel_rfl
def F77_eq:=by have h:= @F77_e;simp only[ge_id,gd,qeqD_self,qeqI_self,qeq_len,qeq_l,cond_true]at h;exact h
def q77:List D→Option (List D):=veil (F77)
theorem q77_eq:q77=F77:=veil_eq _
def tb77:Tb:=Tb.addF tbl77_9 77 S77 (q77)
theorem ok_tb77:TbOk env (tb77):=addFunF ok_tbl77_9 77 (by kernel_rfl) _ (q77_eq)
def S116:FunS:=⟨[⟨true,(.dat 24)⟩,⟨true, .bool⟩,⟨true, .str⟩,⟨true,(.rows 107)⟩,⟨true,(.int .i64)⟩],[],[⟨true,(.tup [(.dat 24),(.int .i64)])⟩],[]⟩
def F116:List D→Option (List D):=liftX env tb77 60 12 116 S116
theorem F116_e (sd0:D) (sb1:Bool) (ss2:ByteArray) (sd3:D) (sn4:Int):F116 [sd0,(D.bool sb1),(D.str ss2),sd3,(D.int sn4)] =
 let x0:=Proofs.YtobhhfbdelnhfaaGreatDoor.q114 [.str ss2]
 let x1:=D.int 0
 let x2:=D.agg [x1,x1,x1,x1,x1,x1,x1,x1,x1]
 let x3:=D.int (qint (qfld sd0 0))
 let x4:=D.int (qint (qfld sd0 2))
 let x5:=D.int (qint (qfld sd0 4))
 let x6:=D.int (qint (qfld sd0 5))
 let x7:=D.int (qint (qfld sd0 6))
 let x8:=D.int (qint (qfld sd0 8))
 let x9:=Proofs.YtobhhfbdelnhfaaGreatDoor.q77 [.str ss2,sd3,.int sn4]
 let x10:=qint (qnth x9 2)
 let x11:=D.int (qint (qnth x9 0))
 let x12:=Proofs.YtobhhfbdelnhfaaGreatDoor.q32 [x11]
 let x13:=D.int (qint (qfld sd0 7))
 gd (qsome x0)<|bif qbool (qnth x0 1)then bif sb1 then some [x2,.int 3]else some [.agg [x3,.int (qint (qfld sd0 1)),x4,.int (qint (qfld sd0 3)),x5,x6,x7,.int (qint (qnth x0 0)),x8],x1]else gd (qsome x9)<|bif qcmp .neq x10 0 then some [x2,.int x10]else gd (qsome x12)<|bif qiteB (qiteB (qbool (qnth x12 0)) (qnot sb1) false) (qnot (qbool (qnth x9 1))) false then some [.agg [x3,x11,x4,.int 1,x5,x6,x7,x13,x8],x1]else some [.agg [x3,x11,x4,.int 2,x5,x6,x7,x13,x8],x1]:=by kernel_rfl
def F116_eq:=by have h:= @F116_e;simp only[ge_id,gd,qeqD_self,qeqI_self,qeq_len,qeq_l,cond_true]at h;exact h
def q116:List D→Option (List D):=veil (F116)
theorem q116_eq:q116=F116:=veil_eq _
def tb116:Tb:=Tb.addF tb77 116 S116 (q116)
theorem ok_tb116:TbOk env (tb116):=addFunF ok_tb77 116 (by kernel_rfl) _ (q116_eq)
def S118:FunS:=⟨[⟨true,(.dat 24)⟩,⟨true, .bool⟩,⟨true, .str⟩,⟨true,(.rows 107)⟩,⟨true,(.int .i64)⟩],[],[⟨true,(.tup [(.dat 24),(.int .i64)])⟩],[]⟩
def F118:List D→Option (List D):=liftX env tb116 60 12 118 S118
theorem F118_e (sd0:D) (sb1:Bool) (ss2:ByteArray) (sd3:D) (sn4:Int):F118 [sd0,(D.bool sb1),(D.str ss2),sd3,(D.int sn4)] =
 let x0:=Proofs.YtobhhfbdelnhfaaGreatDoor.q77 [.str ss2,sd3,.int sn4]
 let x1:=qint (qnth x0 2)
 let x2:=D.int 0
 let x3:=qint (qnth x0 0)
 let x4:=qint (qfld sd0 0)
 let x5:=Proofs.YtobhhfbdelnhfaaGreatDoor.q32 [.int (qbin .sub .u32 (qbin .sub .u32 x3 x4) 2)]
 let x6:=D.int (qint (qfld sd0 4))
 let x7:=D.int (qint (qfld sd0 5))
 let x8:=D.int (qint (qfld sd0 6))
 let x9:=D.int (qint (qfld sd0 7))
 let x10:=D.int (qint (qfld sd0 8))
 gd (qsome x0)<|bif qcmp .neq x1 0 then some [.agg [x2,x2,x2,x2,x2,x2,x2,x2,x2],.int x1]else gd (qsome x5)<|bif qiteB (qiteB (qbool (qnth x5 0)) (qnot sb1) false) (qnot (qbool (qnth x0 1))) false then some [.agg [.int x4,.int x3,.int 20,.int 1,x6,x7,x8,x9,x10],x2]else some [.agg [.int x4,.int x3,.int 20,.int 2,x6,x7,x8,x9,x10],x2]:=by kernel_rfl
def F118_eq:=by have h:= @F118_e;simp only[ge_id,gd,qeqD_self,qeqI_self,qeq_len,qeq_l,cond_true]at h;exact h
def q118:List D→Option (List D):=veil (F118)
theorem q118_eq:q118=F118:=veil_eq _
def tb118:Tb:=Tb.addF tb116 118 S118 (q118)
theorem ok_tb118:TbOk env (tb118):=addFunF ok_tb116 118 (by kernel_rfl) _ (q118_eq)
def S73:FunS:=⟨[⟨true,(.dat 24)⟩,⟨true, .str⟩,⟨true,(.rows 9)⟩,⟨true,(.rows 107)⟩,⟨true,(.int .i64)⟩],[],[⟨true,(.tup [(.dat 24),(.int .i64)])⟩],[]⟩
def F73:List D→Option (List D):=liftX env tb118 60 12 73 S73
theorem F73_e (sd0:D) (ss1:ByteArray) (sd2:D) (sd3:D) (sn4:Int):F73 [sd0,(D.str ss1),sd2,sd3,(D.int sn4)] =
 let x0:=qlenS ss1
 let x1:=qcmp .gtr x0 2
 let x2:=qbin .sub .i64 x0 2
 let x3:=qcmp .leq 0 x2
 let x4:=qcmp .leq x2 x0
 let x5:=qiteB x1 (qcmpS .eql (qsubS ss1 x2 x0) (ByteArray.mk #[46,119])) false
 let x6:=Proofs.YtobhhfbdelnhfaaGreatDoor.q57 []
 let x7:=qiteS x5 (qsubS ss1 0 x2) ss1
 let x8:=Proofs.YtobhhfbdelnhfaaGreatDoor.q113 [qnth x6 0,.str x7]
 let x9:=qint (qnth x8 0)
 let x10:=qcmp .eql (qlen sd2) 2
 let x11:=qinb sd2 0
 let x12:=D.str (qstr (qget sd2 0))
 let x13:=Proofs.YtobhhfbdelnhfaaGreatDoor.q114 [x12]
 let x14:=qnot (qbool (qnth x13 1))
 let x15:=D.int 0
 let x16:Option (List D):=some [.agg [x15,x15,x15,x15,x15,x15,x15,x15,x15],.int 3]
 let x17:=D.int (qint (qfld sd0 0))
 let x18:=D.int (qint (qfld sd0 1))
 let x19:=D.int (qint (qfld sd0 3))
 let x20:=D.int (qint (qfld sd0 4))
 let x21:=D.int (qint (qfld sd0 5))
 let x22:=D.int (qint (qnth x13 0))
 let x23:=D.int (qint (qfld sd0 7))
 let x24:=D.int (qint (qfld sd0 8))
 let x25:=D.str (qstr (qget sd2 1))
 let x26:=D.int sn4
 let x27:=Proofs.YtobhhfbdelnhfaaGreatDoor.q116 [.agg [x17,x18,.int (qbin .add .i64 5 x9),x19,x20,x21,x22,x23,x24],.bool x5,x25,sd3,x26]
 let x28:=Proofs.YtobhhfbdelnhfaaGreatDoor.q117 [.str x7]
 let x29:=qint (qnth x28 0)
 let x30:=qcmp .eql (qlen sd2) 1
 let x31:=D.int (qint (qfld sd0 6))
 let x32:=Proofs.YtobhhfbdelnhfaaGreatDoor.q118 [.agg [x17,x18,.int (qint (qfld sd0 2)),x19,x20,.int x29,x31,x23,x24],.bool x5,x12,sd3,x26]
 let x33:=Proofs.YtobhhfbdelnhfaaGreatDoor.q77 [x12,sd3,x26]
 let x34:=Proofs.YtobhhfbdelnhfaaGreatDoor.q77 [x25,sd3,x26]
 gd (qiteB x1 (qand x3 (qand x4 (qcmp .leq x0 x0))) true)<|gd (qiteB x5 (qand (qcmp .leq 0 0) (qand x3 x4)) true)<|gd (qsome x6)<|gd (qsome x8)<|bif qiteB (qcmp .geq x9 0) x10 false then gd x11<|gd (qsome x13)<|bif x14 then x16 else gd (qinb sd2 1)<|gd (qsome x27)<|some [qnth x27 0,.int (qint (qnth x27 1))]else gd (qsome x28)<|bif qiteB (qcmp .geq x29 0) x30 false then gd x11<|gd (qsome x32)<|some [qnth x32 0,.int (qint (qnth x32 1))]else bif qiteB (qiteB (qcmpS .eql x7 (ByteArray.mk #[99,97,108,108])) (qnot x5) false) x30 false then gd x11<|gd (qsome x33)<|some [.agg [x17,.int (qint (qnth x33 0)),.int 23,x19,x20,x21,x31,x23,x24],.int (qint (qnth x33 2))]else bif qiteB (qiteB (qcmpS .eql x7 (ByteArray.mk #[106,117,109,112,116])) (qnot x5) false) x10 false then gd x11<|gd (qsome x13)<|bif x14 then x16 else gd (qinb sd2 1)<|gd (qsome x34)<|some [.agg [x17,.int (qint (qnth x34 0)),.int 22,x19,x20,x21,x22,x23,x24],.int (qint (qnth x34 2))]else x16:=by kernel_rfl
def F73_eq:=by have h:= @F73_e;simp only[ge_id,gd,qeqD_self,qeqI_self,qeq_len,qeq_l,cond_true]at h;exact h
def q73:List D→Option (List D):=veil (F73)
theorem q73_eq:q73=F73:=veil_eq _
def tb73:Tb:=Tb.addF tb118 73 S73 (q73)
theorem ok_tb73:TbOk env (tb73):=addFunF ok_tb118 73 (by kernel_rfl) _ (q73_eq)
def S39:FunS:=⟨[⟨true, .str⟩,⟨true,(.int .u32)⟩,⟨true,(.rows 107)⟩,⟨true,(.int .i64)⟩],[],[⟨true,(.tup [(.dat 24),(.int .i64)])⟩],[]⟩
def F39:List D→Option (List D):=liftX env tb73 60 12 39 S39
theorem F39_e (ss0:ByteArray) (sn1:Int) (sd2:D) (sn3:Int):F39 [(D.str ss0),(D.int sn1),sd2,(D.int sn3)] =
 let x0:=Proofs.YtobhhfbdelnhfaaGreatDoor.q70 [.str ss0]
 let x1:=D.int 0
 let x2:=D.agg [.int sn1,x1,x1,x1,x1,x1,x1,x1,x1]
 let x3:=D.str (qstr (qnth x0 0))
 let x4:=Proofs.YtobhhfbdelnhfaaGreatDoor.q71 [x2,x3,qnth x0 1]
 let x5:=Proofs.YtobhhfbdelnhfaaGreatDoor.q72 [x2,x3,qnth x0 1]
 let x6:=Proofs.YtobhhfbdelnhfaaGreatDoor.q73 [x2,x3,qnth x0 1,sd2,.int sn3]
 let x7:=qint (qnth x6 1)
 let x8:=D.agg [x1,x1,x1,x1,x1,x1,x1,x1,x1]
 let x9:=qnth x6 0
 let x10:=Proofs.YtobhhfbdelnhfaaGreatDoor.q74 [x9]
 let x11:=qint (qnth x5 1)
 let x12:=qnth x5 0
 let x13:=Proofs.YtobhhfbdelnhfaaGreatDoor.q74 [x12]
 let x14:=qnth x4 0
 let x15:=Proofs.YtobhhfbdelnhfaaGreatDoor.q74 [x14]
 gd (qsome x0)<|gd (qsome x4)<|bif qnot (qbool (qnth x4 1))then gd (qsome x5)<|bif qnot (qbool (qnth x5 2))then gd (qsome x6)<|bif qcmp .neq x7 0 then some [x8,.int x7]else gd (qsome x10)<|some [.agg [.int (qint (qfld x9 0)),.int (qint (qfld x9 1)),.int (qint (qfld x9 2)),.int (qint (qfld x9 3)),.int (qint (qfld x9 4)),.int (qint (qfld x9 5)),.int (qint (qfld x9 6)),.int (qint (qfld x9 7)),.int (qint (qnth x10 0))],x1]else bif qcmp .neq x11 0 then some [x8,.int x11]else gd (qsome x13)<|some [.agg [.int (qint (qfld x12 0)),.int (qint (qfld x12 1)),.int (qint (qfld x12 2)),.int (qint (qfld x12 3)),.int (qint (qfld x12 4)),.int (qint (qfld x12 5)),.int (qint (qfld x12 6)),.int (qint (qfld x12 7)),.int (qint (qnth x13 0))],x1]else gd (qsome x15)<|some [.agg [.int (qint (qfld x14 0)),.int (qint (qfld x14 1)),.int (qint (qfld x14 2)),.int (qint (qfld x14 3)),.int (qint (qfld x14 4)),.int (qint (qfld x14 5)),.int (qint (qfld x14 6)),.int (qint (qfld x14 7)),.int (qint (qnth x15 0))],x1]:=by kernel_rfl
def F39_eq:=by have h:= @F39_e;simp only[ge_id,gd,qeqD_self,qeqI_self,qeq_len,qeq_l,cond_true]at h;exact h
def q39:List D→Option (List D):=veil (F39)
theorem q39_eq:q39=F39:=veil_eq _
def tb39:Tb:=Tb.addF tb73 39 S39 (q39)
theorem ok_tb39:TbOk env (tb39):=addFunF ok_tb73 39 (by kernel_rfl) _ (q39_eq)
end
end Go.Proofs.YtobhhfbdelnhfaaGreatDoor
open Go Go.AM
namespace Go.Proofs.YtobhhfbdelnhfaaGreatDoor
noncomputable section
set_option maxRecDepth 100000
set_option linter.unusedSimpArgs false
set_option linter.unusedVariables false
set_option linter.defProp false
def S80:FunS:=⟨[⟨true,(.dat 24)⟩],[],[⟨true,(.tup [(.rows 5),(.int .i64)])⟩],[]⟩
def F80:List D→Option (List D):=liftX env tb39 60 12 80 S80
theorem F80_eq (sd0:D):F80 [sd0] =
 bif (qsome (q46 [sd0]))then
 bif (qcmp BinOp.neq (qint (qnth (q46 [sd0]) 0)) 0)then
 some [(D.list []),(D.int (qint (qnth (q46 [sd0]) 0)))]
 else
 bif (qsome (q119 [sd0]))then
 some [(qnth (q119 [sd0]) 0),(D.int 0)]
 else
 none
 else
 none:=by kernel_rfl
def q80:List D→Option (List D):=veil (F80)
theorem q80_eq:q80=F80:=veil_eq _
def tb80:Tb:=Tb.addF tb39 80 S80 (q80)
theorem ok_tb80:TbOk env (tb80):=addFunF ok_tb39 80 (by kernel_rfl) _ (q80_eq)
def S127:FunS:=⟨[⟨true,(.int .u32)⟩],[],[⟨true,(.rows 5)⟩],[]⟩
def F127:List D→Option (List D):=liftX env tb80 60 12 127 S127
theorem F127_eq (sn0:Int):F127 [(D.int sn0)] =
 some [(D.list [(D.int (qwrap IntKind.u8 sn0)),(D.int (qwrap IntKind.u8 (qbin BinOp.shr IntKind.u32 sn0 8))),(D.int (qwrap IntKind.u8 (qbin BinOp.shr IntKind.u32 sn0 16))),(D.int (qwrap IntKind.u8 (qbin BinOp.shr IntKind.u32 sn0 24)))])]:=by kernel_rfl
def q127:List D→Option (List D):=veil (F127)
theorem q127_eq:q127=F127:=veil_eq _
def tb127:Tb:=Tb.addF tb80 127 S127 (q127)
theorem ok_tb127:TbOk env (tb127):=addFunF ok_tb80 127 (by kernel_rfl) _ (q127_eq)
def S79_7:LoopS:=⟨0,[uF,⟨false,(.int .i64)⟩,⟨false,(.rows 107)⟩,⟨false,(.int .i64)⟩,uF,uF,uF,uF,⟨false,(.lit (.slice none 0 0))⟩,⟨false,(.lit (.int .i64 0))⟩,⟨false,(.rows 9)⟩,⟨false,(.osl 0 5)⟩,⟨true, .bool⟩,⟨true,(.int .i64)⟩,uF,uF,uF,uF,uF,uF,uF,uF,uF,uF,uF,uF,uF,uF,uF,uF,uF,uF,uF,uF,uF,uF,uF,uF,uF,uF,uF,uF,uF,uF,uF,uF,uF,uF,uF,uF,uF,uF,uF,uF,uF,uF,uF,uF,uF,uF],[(.lst true 5)],[⟨0,0,[uT,⟨false,(.int .i64)⟩,⟨false,(.rows 107)⟩,⟨false,(.int .i64)⟩,uT,uT,uT,uT,⟨true,(.lit (.slice none 0 0))⟩,⟨true,(.lit (.int .i64 0))⟩,⟨false,(.rows 9)⟩,⟨true,(.osl 0 5)⟩,⟨true, .bool⟩,uT,uT,uT,uT,uT,uT,uT,uT,uT,uT,uT,uT,uT,uT,uT,uT,uT,uT,uT,uT,uT,uT,uT,uT,uT,uT,uT,uT,uT,uT,uT,uT,uT,uT,uT,uT,uT,uT,uT,uT,uT,uT,uT,uT,uT,uT,uT],[(.lst true 5)]⟩,⟨1,0,[uT,⟨false,(.int .i64)⟩,⟨false,(.rows 107)⟩,⟨false,(.int .i64)⟩,uT,uT,uT,uT,⟨true,(.lit (.slice none 0 0))⟩,⟨true,(.int .i64)⟩,⟨false,(.rows 9)⟩,uT,uT,uT,uT,uT,uT,uT,uT,uT,uT,uT,uT,uT,uT,uT,uT,uT,uT,uT,uT,uT,uT,uT,uT,uT,uT,uT,uT,uT,uT,uT,uT,uT,uT,uT,uT,uT,uT,uT,uT,uT,uT,uT,uT,uT,uT,uT,uT,uT],[.skip]⟩]⟩
def st79_7 (p s:List D):Option (Sum (List D) (List D)):=stepQX env tb127 60 12 79 (loopC 79 7) S79_7 p s
theorem st79_7_e (pn0:Int) (pd1:D) (pn2:Int) (pd3:D) (sb0:Bool) (sn1:Int) (sd2:D):st79_7 [(D.int pn0),pd1,(D.int pn2),pd3] [(D.bool sb0),(D.int sn1),sd2] =
 let x0:=D.int pn2
 let x1:=q77 [.str (qstr (qget pd3 sn1)),pd1,x0]
 let x2:=qint (qnth x1 2)
 let x3:=D.int pn0
 let x4:=qint (qnth x1 0)
 let x5:=qiteB (qcmp .eql pn0 1) (qcmp .gtr x4 255) false
 let x6:List D:=[.int x4]
 let x7:=q32 x6
 let x8:=q127 x6
 let x9:=qcmp .eql (qlen sd2) (qlen sd2)
 let x10:=qapp sd2 (qsub (qnth x8 0) 0 pn0)
 let x11:=qlen x10
 bif qcmp .lss sn1 (qlen pd3)then gd (qinb pd3 sn1)<|gd (qsome x1)<|bif qcmp .neq x2 0 then ge x3<|ge pd1<|ge x0<|ge pd3<|some (Sum.inr [.int 1,.int x2])else gd (qiteB x5 (qsome x7) true)<|gd (qsome x8)<|gd (qcmp .leq 0 0)<|gd (qcmp .leq 0 pn0)<|gd (qcmp .leq pn0 (qlen (qnth x8 0)))<|gd x9<|gd (qmem x11 1)<|gd (qcmp .eql x11 x11)<|ge x3<|ge pd1<|ge x0<|ge pd3<|some (Sum.inl [.bool (qiteB (qiteB x5 (qnot (qbool (qnth x7 0))) false) true sb0),.int (qbin .add .i64 sn1 1),x10])else gd x9<|ge x3<|ge pd1<|ge x0<|ge pd3<|some (Sum.inr [.int 0,.bool sb0,sd2]):=by kernel_rfl
def st79_7_eq:=by have h:= @st79_7_e;simp only[ge_id,gd,qeqD_self,qeqI_self,qeq_len,qeq_l,cond_true]at h;exact h
def l79_7:List D→List D→Option (List D):=veil fun p s=>loW (st79_7 p) s
theorem l79_7_eq:l79_7=fun p s=>loW (st79_7 p) s:=veil_eq _
def tbl79_7:Tb:=Tb.addL tb127 79 7 S79_7.n0 (mkLp S79_7 (l79_7))
theorem ok_tbl79_7:TbOk env (tbl79_7):=addLoopQ ok_tb127 79 7 (by kernel_rfl) _ (l79_7_eq)
def S79:FunS:=⟨[⟨true, .str⟩,⟨true,(.int .i64)⟩,⟨true,(.rows 107)⟩,⟨true,(.int .i64)⟩],[],[⟨true,(.tup [(.rows 5),(.int .i64)])⟩],[]⟩
def F79:List D→Option (List D):=liftX env tbl79_7 60 12 79 S79
theorem F79_e (ss0:ByteArray) (sn1:Int) (sd2:D) (sn3:Int):F79 [(D.str ss0),(D.int sn1),sd2,(D.int sn3)] =
 let x0:=q112 [.str ss0]
 let x1:=D.list []
 let x2:=l79_7 [.int sn1,sd2,.int (qiteI (qcmp .eql sn1 1) 0 sn3),qnth x0 0] [.bool false,.int 0,x1]
 gd (qsome x0)<|gd (qcmp .eql 0 (qlen x1))<|gd (qsome x2)<|bif qcmp .eql (qint (qnth x2 0)) 0 then bif qbool (qnth x2 1)then some [x1,.int 7]else gd (qcmp .eql (qlen (qnth x2 2)) (qlen (qnth x2 2)))<|some [qnth x2 2,.int 0]else some [x1,.int (qint (qnth x2 1))]:=by kernel_rfl
def F79_eq:=by have h:= @F79_e;simp only[ge_id,gd,qeqD_self,qeqI_self,qeq_len,qeq_l,cond_true]at h;exact h
def q79:List D→Option (List D):=veil (F79)
theorem q79_eq:q79=F79:=veil_eq _
def tb79:Tb:=Tb.addF tbl79_7 79 S79 (q79)
theorem ok_tb79:TbOk env (tb79):=addFunF ok_tbl79_7 79 (by kernel_rfl) _ (q79_eq)
def S45:FunS:=⟨[⟨true, .str⟩,⟨true,(.int .u32)⟩,⟨true,(.rows 107)⟩,⟨true,(.int .i64)⟩],[],[⟨true,(.tup [(.rows 5),(.int .i64)])⟩],[]⟩
def F45:List D→Option (List D):=liftX env tb79 60 12 45 S45
theorem F45_e (ss0:ByteArray) (sn1:Int) (sd2:D) (sn3:Int):F45 [(D.str ss0),(D.int sn1),sd2,(D.int sn3)] =
 let x0:=qlenS ss0
 let x1:=qcmp .geq x0 6
 let x2:=qcmp .leq 0 6
 let x3:=qcmp .leq 6 x0
 let x4:=qiteB x1 (qand (qcmp .leq 0 0) (qand x2 x3)) true
 let x5:=qsubS ss0 0 6
 let x6:=qcmp .leq x0 x0
 let x7:=D.str (qsubS ss0 6 x0)
 let x8:=D.int sn3
 let x9:=q79 [x7,.int 4,sd2,x8]
 let x10:=q79 [x7,.int 1,sd2,x8]
 let x11:=q39 [.str ss0,.int sn1,sd2,x8]
 let x12:=qint (qnth x11 1)
 let x13:=q80 [qnth x11 0]
 bif qcmpS .eql ss0 (ByteArray.mk #[])then some [.list [],.int 0]else gd x4<|bif qiteB x1 (qcmpS .eql x5 (ByteArray.mk #[46,119,111,114,100,32])) false then gd x2<|gd x3<|gd x6<|gd (qsome x9)<|some [qnth x9 0,.int (qint (qnth x9 1))]else gd x4<|bif qiteB x1 (qcmpS .eql x5 (ByteArray.mk #[46,98,121,116,101,32])) false then gd x2<|gd x3<|gd x6<|gd (qsome x10)<|some [qnth x10 0,.int (qint (qnth x10 1))]else gd (qsome x11)<|bif qcmp .neq x12 0 then some [.list [],.int x12]else gd (qsome x13)<|some [qnth x13 0,.int 0]:=by kernel_rfl
def F45_eq:=by have h:= @F45_e;simp only[ge_id,gd,qeqD_self,qeqI_self,qeq_len,qeq_l,cond_true]at h;exact h
def q45:List D→Option (List D):=veil (F45)
theorem q45_eq:q45=F45:=veil_eq _
def tb45:Tb:=Tb.addF tb79 45 S45 (q45)
theorem ok_tb45:TbOk env (tb45):=addFunF ok_tb79 45 (by kernel_rfl) _ (q45_eq)
def S44:FunS:=⟨[⟨true, .str⟩],[],[⟨true,(.tup [.str, .bool])⟩],[]⟩
def F44:List D→Option (List D):=liftX env tb45 60 12 44 S44
theorem F44_e (ss0:ByteArray):F44 [(D.str ss0)] =
 let x0:=qlenS ss0
 let x1:=qcmp .lss x0 2
 let x2:=qbin .sub .i64 x0 1
 let x3:=qiteB x1 true (qcmp .neq (qidxS ss0 x2) 58)
 let x4:=qcmp .leq 0 0
 let x5:=qcmp .leq 0 x2
 let x6:=qcmp .leq x2 x0
 let x7:=D.str (qsubS ss0 0 x2)
 let x8:=q78 [x7]
 gd (qiteB x1 true (qinbS ss0 x2))<|gd (qiteB x3 true (qand x4 (qand x5 (qand x6 (qsome x8)))))<|bif qiteB x3 true (qnot (qbool (qnth x8 0)))then some [.str (ByteArray.mk #[]),.bool false]else gd x4<|gd x5<|gd x6<|some [x7,.bool true]:=by kernel_rfl
def F44_eq:=by have h:= @F44_e;simp only[ge_id,gd,qeqD_self,qeqI_self,qeq_len,qeq_l,cond_true]at h;exact h
def q44:List D→Option (List D):=veil (F44)
theorem q44_eq:q44=F44:=veil_eq _
def tb44:Tb:=Tb.addF tb45 44 S44 (q44)
theorem ok_tb44:TbOk env (tb44):=addFunF ok_tb45 44 (by kernel_rfl) _ (q44_eq)
def S42_4:LoopS:=⟨0,[⟨false, .str⟩,uF,⟨false,(.lit (.slice none 0 0))⟩,⟨false,(.osl 0 9)⟩,⟨true,(.int .i64)⟩,⟨true,(.int .i64)⟩,uF,uF,uF,uF,uF,uF,uF,uF,uF,uF,uF,uF,uF,uF,uF,uF,uF,uF,uF,uF,uF,uF,uF,uF,uF],[(.lst true 9)],[⟨0,0,[⟨false, .str⟩,uT,⟨true,(.lit (.slice none 0 0))⟩,⟨true,(.osl 0 9)⟩,⟨true,(.int .i64)⟩,uT,uT,uT,uT,uT,uT,uT,uT,uT,uT,uT,uT,uT,uT,uT,uT,uT,uT,uT,uT,uT,uT,uT,uT,uT,uT],[(.lst true 9)]⟩]⟩
def st42_4 (p s:List D):Option (Sum (List D) (List D)):=stepQX env tb44 60 12 42 (loopC 42 4) S42_4 p s
theorem st42_4_e (ps0:ByteArray) (sn0:Int) (sn1:Int) (sd2:D):st42_4 [(D.str ps0)] [(D.int sn0),(D.int sn1),sd2] =
 let x0:=qcmp .eql (qlen sd2) (qlen sd2)
 let x1:=qapp sd2 (.list [.str (qsubS ps0 sn0 sn1)])
 let x2:=qlen x1
 let x3:=D.str ps0
 let x4:=D.int (qbin .add .i64 sn1 1)
 bif qcmp .lss sn1 (qlenS ps0)then gd (qinbS ps0 sn1)<|bif qcmp .eql (qidxS ps0 sn1) 10 then gd (qcmp .leq 0 sn0)<|gd (qcmp .leq sn0 sn1)<|gd (qcmp .leq sn1 (qlenS ps0))<|gd x0<|gd (qmem x2 16)<|gd (qcmp .eql x2 x2)<|ge x3<|some (Sum.inl [x4,x4,x1])else gd x0<|ge x3<|some (Sum.inl [.int sn0,x4,sd2])else gd x0<|ge x3<|some (Sum.inr [.int 0,.int sn0,sd2]):=by kernel_rfl
def st42_4_eq:=by have h:= @st42_4_e;simp only[ge_id,gd,qeqD_self,qeqI_self,qeq_len,qeq_l,cond_true]at h;exact h
def l42_4:List D→List D→Option (List D):=veil fun p s=>loW (st42_4 p) s
theorem l42_4_eq:l42_4=fun p s=>loW (st42_4 p) s:=veil_eq _
def tbl42_4:Tb:=Tb.addL tb44 42 4 S42_4.n0 (mkLp S42_4 (l42_4))
theorem ok_tbl42_4:TbOk env (tbl42_4):=addLoopQ ok_tb44 42 4 (by kernel_rfl) _ (l42_4_eq)
def S42:FunS:=⟨[⟨true, .str⟩],[],[⟨true,(.rows 9)⟩],[]⟩
def F42:List D→Option (List D):=liftX env tbl42_4 60 12 42 S42
theorem F42_e (ss0:ByteArray):F42 [(D.str ss0)] =
 let x0:=l42_4 [.str ss0] [.int 0,.int 0,.list []]
 let x1:=qint (qnth x0 1)
 let x2:=qlenS ss0
 let x3:=qapp (qnth x0 2) (.list [.str (qsubS ss0 x1 x2)])
 let x4:=qlen x3
 gd (qcmp .eql 0 (qlen (.list [])))<|gd (qsome x0)<|gd (qcmp .leq 0 x1)<|gd (qcmp .leq x1 x2)<|gd (qcmp .leq x2 x2)<|gd (qcmp .eql (qlen (qnth x0 2)) (qlen (qnth x0 2)))<|gd (qmem x4 16)<|gd (qcmp .eql x4 x4)<|some [x3]:=by kernel_rfl
def F42_eq:=by have h:= @F42_e;simp only[ge_id,gd,qeqD_self,qeqI_self,qeq_len,qeq_l,cond_true]at h;exact h
def q42:List D→Option (List D):=veil (F42)
theorem q42_eq:q42=F42:=veil_eq _
def tb42:Tb:=Tb.addF tbl42_4 42 S42 (q42)
theorem ok_tb42:TbOk env (tb42):=addFunF ok_tbl42_4 42 (by kernel_rfl) _ (q42_eq)
def S43_4:LoopS:=⟨0,[⟨false,(.rows 9)⟩,⟨false,(.int .u32)⟩,uF,uF,⟨false,(.lit (.slice none 0 0))⟩,⟨false,(.lit (.int .i64 0))⟩,⟨false,(.lit (.int .i64 0))⟩,⟨false,(.osl 0 107)⟩,⟨true,(.int .i64)⟩,⟨true,(.int .i64)⟩,uF,uF,uF,uF,uF,uF,uF,uF,uF,uF,uF,uF,uF,uF,uF,uF,uF,uF,uF,uF,uF,uF,uF,uF,uF,uF,uF,uF,uF,uF,uF,uF,uF,uF,uF,uF,uF,uF,uF,uF,uF,uF,uF,uF,uF,uF,uF,uF,uF,uF,uF,uF,uF,uF,uF,uF,uF,uF,uF,uF,uF],[(.lst true 107)],[⟨0,0,[⟨false,(.rows 9)⟩,⟨false,(.int .u32)⟩,uT,uT,⟨true,(.lit (.slice none 0 0))⟩,⟨true,(.lit (.int .i64 0))⟩,⟨true,(.lit (.int .i64 0))⟩,⟨true,(.osl 0 107)⟩,⟨true,(.int .i64)⟩,uT,uT,uT,uT,uT,uT,uT,uT,uT,uT,uT,uT,uT,uT,uT,uT,uT,uT,uT,uT,uT,uT,uT,uT,uT,uT,uT,uT,uT,uT,uT,uT,uT,uT,uT,uT,uT,uT,uT,uT,uT,uT,uT,uT,uT,uT,uT,uT,uT,uT,uT,uT,uT,uT,uT,uT,uT,uT,uT,uT,uT,uT],[(.lst true 107)]⟩,⟨1,0,[⟨false,(.rows 9)⟩,⟨false,(.int .u32)⟩,uT,uT,⟨true,(.lit (.slice none 0 0))⟩,⟨true,(.lit (.int .i64 0))⟩,⟨true,(.int .i64)⟩,uT,uT,uT,uT,uT,uT,uT,uT,uT,uT,uT,uT,uT,uT,uT,uT,uT,uT,uT,uT,uT,uT,uT,uT,uT,uT,uT,uT,uT,uT,uT,uT,uT,uT,uT,uT,uT,uT,uT,uT,uT,uT,uT,uT,uT,uT,uT,uT,uT,uT,uT,uT,uT,uT,uT,uT,uT,uT,uT,uT,uT,uT,uT,uT],[.skip]⟩]⟩
def st43_4 (p s:List D):Option (Sum (List D) (List D)):=stepQX env tb42 60 12 43 (loopC 43 4) S43_4 p s
theorem st43_4_e (pd0:D) (pn1:Int) (sn0:Int) (sn1:Int) (sd2:D):st43_4 [pd0,(D.int pn1)] [(D.int sn0),(D.int sn1),sd2] =
 let x0:=qinb pd0 sn1
 let x1:=D.str (qstr (qget pd0 sn1))
 let x2:=q44 [x1]
 let x3:=qcmp .eql (qlen sd2) (qlen sd2)
 let x4:=D.str (qstr (qnth x2 0))
 let x5:=q77 [x4,sd2,.int 2]
 let x6:=D.int pn1
 let x7:=D.int 1
 let x8:=D.int (qbin .add .u32 pn1 (qwrap .u32 sn0))
 let x9:=qapp sd2 (.list [.agg [x4,x8]])
 let x10:=qlen x9
 let x11:=D.int (qbin .add .i64 sn1 1)
 let x12:=q45 [x1,x8,.list [],x7]
 let x13:=qint (qnth x12 1)
 bif qcmp .lss sn1 (qlen pd0)then gd x0<|gd (qsome x2)<|bif qbool (qnth x2 1)then gd x3<|gd (qsome x5)<|bif qcmp .eql (qint (qnth x5 2)) 0 then ge pd0<|ge x6<|some (Sum.inr [x7,.int 8])else gd x3<|gd (qmem x10 24)<|gd (qcmp .eql x10 x10)<|ge pd0<|ge x6<|some (Sum.inl [.int sn0,x11,x9])else gd x0<|gd (qsome x12)<|bif qcmp .neq x13 0 then ge pd0<|ge x6<|some (Sum.inr [x7,.int x13])else gd x3<|ge pd0<|ge x6<|some (Sum.inl [.int (qbin .add .i64 sn0 (qlen (qnth x12 0))),x11,sd2])else gd x3<|ge pd0<|ge x6<|some (Sum.inr [.int 0,.int sn0,sd2]):=by kernel_rfl
def st43_4_eq:=by have h:= @st43_4_e;simp only[ge_id,gd,qeqD_self,qeqI_self,qeq_len,qeq_l,cond_true]at h;exact h
def l43_4:List D→List D→Option (List D):=veil fun p s=>loW (st43_4 p) s
theorem l43_4_eq:l43_4=fun p s=>loW (st43_4 p) s:=veil_eq _
def tbl43_4:Tb:=Tb.addL tb42 43 4 S43_4.n0 (mkLp S43_4 (l43_4))
theorem ok_tbl43_4:TbOk env (tbl43_4):=addLoopQ ok_tb42 43 4 (by kernel_rfl) _ (l43_4_eq)
def S43:FunS:=⟨[⟨true,(.rows 9)⟩,⟨true,(.int .u32)⟩],[],[⟨true,(.tup [(.rows 107),(.int .i64),(.int .i64)])⟩],[]⟩
def F43:List D→Option (List D):=liftX env tbl43_4 60 12 43 S43
theorem F43_e (sd0:D) (sn1:Int):F43 [sd0,(D.int sn1)] =
 let x0:=D.list []
 let x1:=D.int 0
 let x2:=l43_4 [sd0,.int sn1] [x1,x1,x0]
 let x3:=D.int (qint (qnth x2 1))
 gd (qcmp .eql 0 (qlen x0))<|gd (qsome x2)<|bif qcmp .eql (qint (qnth x2 0)) 0 then gd (qcmp .eql (qlen (qnth x2 2)) (qlen (qnth x2 2)))<|some [qnth x2 2,x3,x1]else some [x0,x1,x3]:=by kernel_rfl
def F43_eq:=by have h:= @F43_e;simp only[ge_id,gd,qeqD_self,qeqI_self,qeq_len,qeq_l,cond_true]at h;exact h
def q43:List D→Option (List D):=veil (F43)
theorem q43_eq:q43=F43:=veil_eq _
def tb43:Tb:=Tb.addF tbl43_4 43 S43 (q43)
theorem ok_tb43:TbOk env (tb43):=addFunF ok_tbl43_4 43 (by kernel_rfl) _ (q43_eq)
def S14_11:LoopS:=⟨0,[uF,⟨false,(.int .u32)⟩,uF,uF,⟨false,(.lit (.slice none 0 0))⟩,⟨false,(.lit (.int .i64 0))⟩,⟨false,(.rows 9)⟩,⟨false,(.rows 107)⟩,uF,uF,⟨false,(.osl 0 5)⟩,⟨true,(.int .i64)⟩,uF,uF,uF,uF,uF,uF,uF,uF,uF,uF,uF,uF,uF,uF,uF,uF,uF,uF,uF,uF,uF,uF,uF,uF,uF,uF,uF,uF,uF,uF,uF,uF,uF,uF,uF,uF,uF,uF,uF,uF,uF,uF,uF,uF,uF,uF,uF,uF,uF,uF,uF,uF,uF,uF,uF,uF,uF],[(.lst true 5)],[⟨0,0,[uT,⟨false,(.int .u32)⟩,uT,uT,⟨true,(.lit (.slice none 0 0))⟩,⟨true,(.lit (.int .i64 0))⟩,⟨false,(.rows 9)⟩,⟨false,(.rows 107)⟩,uT,uT,⟨true,(.osl 0 5)⟩,uT,uT,uT,uT,uT,uT,uT,uT,uT,uT,uT,uT,uT,uT,uT,uT,uT,uT,uT,uT,uT,uT,uT,uT,uT,uT,uT,uT,uT,uT,uT,uT,uT,uT,uT,uT,uT,uT,uT,uT,uT,uT,uT,uT,uT,uT,uT,uT,uT,uT,uT,uT,uT,uT,uT,uT,uT,uT],[(.lst true 5)]⟩,⟨1,0,[uT,⟨false,(.int .u32)⟩,uT,uT,⟨true,(.lit (.slice none 0 0))⟩,⟨true,(.int .i64)⟩,⟨false,(.rows 9)⟩,⟨false,(.rows 107)⟩,uT,uT,uT,uT,uT,uT,uT,uT,uT,uT,uT,uT,uT,uT,uT,uT,uT,uT,uT,uT,uT,uT,uT,uT,uT,uT,uT,uT,uT,uT,uT,uT,uT,uT,uT,uT,uT,uT,uT,uT,uT,uT,uT,uT,uT,uT,uT,uT,uT,uT,uT,uT,uT,uT,uT,uT,uT,uT,uT,uT,uT],[.skip]⟩]⟩
def st14_11 (p s:List D):Option (Sum (List D) (List D)):=stepQX env tb43 60 12 14 (loopC 14 11) S14_11 p s
theorem st14_11_e (pn0:Int) (pd1:D) (pd2:D) (sn0:Int) (sd1:D):st14_11 [(D.int pn0),pd1,pd2] [(D.int sn0),sd1] =
 let x0:=qinb pd1 sn0
 let x1:=D.str (qstr (qget pd1 sn0))
 let x2:=q44 [x1]
 let x3:=qlen sd1
 let x4:=qcmp .eql x3 x3
 let x5:=D.int pn0
 let x6:=D.int (qbin .add .i64 sn0 1)
 let x7:=q45 [x1,.int (qbin .add .u32 pn0 (qwrap .u32 x3)),pd2,.int 2]
 let x8:=qint (qnth x7 1)
 let x9:=qapp sd1 (qnth x7 0)
 let x10:=qlen x9
 bif qcmp .lss sn0 (qlen pd1)then gd x0<|gd (qsome x2)<|bif qbool (qnth x2 1)then gd x4<|ge x5<|ge pd1<|ge pd2<|some (Sum.inl [x6,sd1])else gd x0<|gd (qsome x7)<|bif qcmp .neq x8 0 then ge x5<|ge pd1<|ge pd2<|some (Sum.inr [.int 1,.int x8])else gd x4<|gd (qmem x10 1)<|gd (qcmp .eql x10 x10)<|ge x5<|ge pd1<|ge pd2<|some (Sum.inl [x6,x9])else gd x4<|ge x5<|ge pd1<|ge pd2<|some (Sum.inr [.int 0,sd1]):=by kernel_rfl
def st14_11_eq:=by have h:= @st14_11_e;simp only[ge_id,gd,qeqD_self,qeqI_self,qeq_len,qeq_l,cond_true]at h;exact h
def l14_11:List D→List D→Option (List D):=veil fun p s=>loW (st14_11 p) s
theorem l14_11_eq:l14_11=fun p s=>loW (st14_11 p) s:=veil_eq _
def tbl14_11:Tb:=Tb.addL tb43 14 11 S14_11.n0 (mkLp S14_11 (l14_11))
theorem ok_tbl14_11:TbOk env (tbl14_11):=addLoopQ ok_tb43 14 11 (by kernel_rfl) _ (l14_11_eq)
def S14:FunS:=⟨[⟨true, .str⟩,⟨true,(.int .u32)⟩],[],[⟨true,(.tup [(.rows 5),(.int .i64)])⟩],[]⟩
def F14:List D→Option (List D):=liftX env tbl14_11 60 12 14 S14
theorem F14_e (ss0:ByteArray) (sn1:Int):F14 [(D.str ss0),(D.int sn1)] =
 let x0:=D.list []
 let x1:Option (List D):=some [x0,.int 6]
 let x2:=q42 [.str ss0]
 let x3:=q43 [qnth x2 0,.int sn1]
 let x4:=qint (qnth x3 2)
 let x5:=l14_11 [.int sn1,qnth x2 0,qnth x3 0] [.int 0,x0]
 let x6:=qnth x5 1
 bif qcmp .gtr (qlenS ss0) 65536 then x1 else gd (qsome x2)<|gd (qsome x3)<|bif qcmp .neq x4 0 then some [x0,.int x4]else bif qcmp .gtr (qint (qnth x3 1)) 65536 then x1 else gd (qcmp .eql 0 (qlen x0))<|gd (qsome x5)<|bif qcmp .eql (qint (qnth x5 0)) 0 then gd (qcmp .eql (qlen x6) (qlen x6))<|some [x6,.int 0]else some [x0,.int (qint x6)]:=by kernel_rfl
def F14_eq:=by have h:= @F14_e;simp only[ge_id,gd,qeqD_self,qeqI_self,qeq_len,qeq_l,cond_true]at h;exact h
def q14:List D→Option (List D):=veil (F14)
theorem q14_eq:q14=F14:=veil_eq _
def tb14:Tb:=Tb.addF tbl14_11 14 S14 (q14)
theorem ok_tb14:TbOk env (tb14):=addFunF ok_tbl14_11 14 (by kernel_rfl) _ (q14_eq)
end
end Go.Proofs.YtobhhfbdelnhfaaGreatDoor
open Go Go.AM
namespace Go.Proofs.YtobhhfbdelnhfaaGreatDoor
noncomputable section
set_option maxRecDepth 100000
set_option linter.unusedSimpArgs false
set_option linter.unusedVariables false
set_option linter.defProp false
def tb10a:Tb:=Tb.addF tb14 10 S10 q10
theorem ok_tb10a:TbOk env tb10a:=TbOk.addF ok_tb14 (by kernel_rfl) sound10
def S15:FunS:=⟨[⟨true,(.rows 5)⟩,⟨true,(.rows 5)⟩],[],[⟨true, .bool⟩],[]⟩
def F15:List D→Option (List D):=liftX env tb10a 60 12 15 S15
theorem F15_eq (sd0:D) (sd1:D):F15 [sd0,sd1] =
 some [(D.bool (qcmpS BinOp.eql (qtext sd0) (qtext sd1)))]:=by kernel_rfl
def q15:List D→Option (List D):=veil (F15)
theorem q15_eq:q15=F15:=veil_eq _
def tb15:Tb:=Tb.addF tb10a 15 S15 (q15)
theorem ok_tb15:TbOk env (tb15):=addFunF ok_tb10a 15 (by kernel_rfl) _ (q15_eq)
def S5:FunS:=⟨[⟨true, .str⟩,⟨true,(.int .u32)⟩],[],[⟨true, .bool⟩],[]⟩
def F5:List D→Option (List D):=liftX env tb15 60 12 5 S5
theorem F5_e (ss0:ByteArray) (sn1:Int):F5 [(D.str ss0),(D.int sn1)] =
 let x0:=q10 []
 let x1:=qbool (qnth x0 0)
 let x2:List D:=[.str ss0,.int sn1]
 let x3:=q13 x2
 let x4:=q14 x2
 let x5:=q15 [qnth x3 0,qnth x4 0]
 let x6:=qiteB (qbool (qnth x5 0)) (qcmp .eql (qint (qnth x3 1)) (qint (qnth x4 1))) false
 bif qcmp .gtr (qlenS ss0) 600 then gd (qsome x0)<|some [.bool x1]else gd (qsome x3)<|gd (qsome x4)<|gd (qsome x5)<|gd (qiteB x6 (qsome x0) true)<|some [.bool (qiteB x6 x1 false)]:=by kernel_rfl
def F5_eq:=by have h:= @F5_e;simp only[ge_id,gd,qeqD_self,qeqI_self,qeq_len,qeq_l,cond_true]at h;exact h
def q5:List D→Option (List D):=veil (F5)
theorem q5_eq:q5=F5:=veil_eq _
end
end Go.Proofs.YtobhhfbdelnhfaaGreatDoor
