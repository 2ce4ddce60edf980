/-
  The fixed example 'exampleHolds' of law04, run in the kernel over the library's contracts of Index and Count.
-/
import Derived.Test.YtobhhfbdelnhfaaGreatDoorM1
import Derived.Test.YtobhhfbdelnhfaaGreatDoorM2
import Derived.KernelRfl
import Derived.Test.YtobhhfbdelnhfaaGreatDoorAmS
import Derived.Lib.ItoaNum
namespace Go.Proofs.YtobhhfbdelnhfaaGreatDoor
open Go Go.AM
set_option maxRecDepth 100000
theorem indexSaid137:IndexSaid Tryz.prog 137 1:=fun s sub m w hs hm=>Tryz.stringslite_Index s sub m w hs hm
theorem countSaid121:CountSaid Tryz.prog 121:=fun s c w=>Tryz.strings_Count_one s c w
noncomputable def tbX:Tb:=(Tb.nil.add 137 (idxC 1) (fun _ _=>[])).add 121 cntC (fun _ _=>[])
noncomputable def envX:Env:={P:=Tryz.prog,fn:=fun f=>(Tryz.prog.funcs[f]?).bind fun fn=>fn.body.map fun c=>⟨c,fn.ntmps,fn.results.toList⟩,isPure:=fun f=> !([37,41,65,66,67,68,76,105,106,107,110,111,134,122,123,124,125,17,139,49,96,130].elem f),isFrz:=fun _=>false,clr:=false,pre:=tbX.O,lp:=fun _ _=>none,n0:=0}
theorem envXOk:EnvOk envX:=by
 intro f F h
 refine envOk f F ?_
 rw[envFn]
 exact h
theorem tbXOk:TbOk envX tbX:=(TbOk.nil.add (by kernel_rfl) fun args H v H' h _=>idxC_ok indexSaid137 args H v H' h).add (by kernel_rfl) fun args H v H' h _=>cntC_ok countSaid121 args H v H' h
def S10:FunS:=⟨[],[],[⟨true, .bool⟩],[]⟩
theorem ex10:liftC envX tbX (runF envX tbX 5000 5000).d 10 S10 []=some [.bool true]:=by kernel_rfl
noncomputable def q10:List D→Option (List D):=veil fun ds=>liftC envX tbX (runF envX tbX 5000 5000).d 10 S10 ds
theorem q10_eq:q10 []=some [.bool true]:=by unfold q10;rw[veil_eq];exact ex10
theorem sound10:SoundF env.P 10 S10 q10:=by
 unfold q10;rw[veil_eq]
 exact liftC_sound envX tbX (runF_sound envXOk (fun _ _=>rfl) rfl tbXOk 5000 5000)
end Go.Proofs.YtobhhfbdelnhfaaGreatDoor
open Go Go.AM
namespace Go.Proofs.YtobhhfbdelnhfaaGreatDoor
set_option maxRecDepth 100000
set_option linter.unusedSimpArgs false
set_option linter.unusedVariables false
def S113_2:LoopS:=⟨0,[⟨false,(.rows 9)⟩,⟨false, .str⟩,uF,uF,⟨false,(.lit (.int .i64 0))⟩,⟨true,(.int .i64)⟩,uF,uF,uF,uF,uF,uF,uF,uF,uF,uF,uF,uF,uF],[],[⟨0,0,[⟨false,(.rows 9)⟩,⟨false, .str⟩,uT,uT,⟨true,(.lit (.int .i64 0))⟩,uT,uT,uT,uT,uT,uT,uT,uT,uT,uT,uT,uT,uT,uT],[]⟩,⟨1,0,[⟨false,(.rows 9)⟩,⟨false, .str⟩,uT,uT,⟨true,(.int .i64)⟩,uT,uT,uT,uT,uT,uT,uT,uT,uT,uT,uT,uT,uT,uT],[]⟩]⟩
noncomputable def st113_2 (p s:List D):Option (Sum (List D) (List D)):=stepQX env tb11 60 12 113 (loopC 113 2) S113_2 p s
theorem st113_2_eq (pd0:D) (ps1:ByteArray) (sn0:Int):st113_2 [pd0,(D.str ps1)] [(D.int sn0)] =
 bif (qcmp BinOp.lss sn0 (qlen pd0))then
 bif (qinb pd0 sn0)then
 bif (qcmpS BinOp.eql (qstr (qget pd0 sn0)) ps1)then
 some (Sum.inr [(D.int 1),(D.int sn0)])
 else
 some (Sum.inl [(D.int (qbin BinOp.add IntKind.i64 sn0 1))])
 else
 none
 else
 some (Sum.inr [(D.int 0)]):=by
 have h:st113_2 [pd0,(D.str ps1)] [(D.int sn0)] =
  bif (qcmp BinOp.lss sn0 (qlen pd0))then
  bif (qinb pd0 sn0)then
  bif (qcmpS BinOp.eql (qstr (qget pd0 sn0)) ps1)then
  bif (qeqD pd0 pd0)then
  bif (qeqD (D.str ps1) (D.str ps1))then
  some (Sum.inr [(D.int 1),(D.int sn0)])
  else
  none
  else
  none
  else
  bif (qeqD pd0 pd0)then
  bif (qeqD (D.str ps1) (D.str ps1))then
  some (Sum.inl [(D.int (qbin BinOp.add IntKind.i64 sn0 1))])
  else
  none
  else
  none
  else
  none
  else
  bif (qeqD pd0 pd0)then
  bif (qeqD (D.str ps1) (D.str ps1))then
  some (Sum.inr [(D.int 0)])
  else
  none
  else
  none:=by kernel_rfl
 rw[h];simp only[qeqD_self,qeqI_self,qeq_len,show qcmp BinOp.eql 0 (qlen (D.list []))=true from qeq_len [],show∀a,qcmp BinOp.eql 1 (qlen (D.list [a]))=true from fun a=>qeq_len [a],show∀a b,qcmp BinOp.eql 2 (qlen (D.list [a,b]))=true from fun a b=>qeq_len [a,b],show∀a b c,qcmp BinOp.eql 3 (qlen (D.list [a,b,c]))=true from fun a b c=>qeq_len [a,b,c],show∀a b c d,qcmp BinOp.eql 4 (qlen (D.list [a,b,c,d]))=true from fun a b c d=>qeq_len [a,b,c,d],cond_true]
noncomputable def l113_2:List D→List D→Option (List D):=veil fun p s=>loW (st113_2 p) s
theorem l113_2_eq:l113_2=fun p s=>loW (st113_2 p) s:=veil_eq _
noncomputable def tbl113_2:Tb:=Tb.addL tb11 113 2 S113_2.n0 (mkLp S113_2 (l113_2))
theorem ok_tbl113_2:TbOk env (tbl113_2):=addLoopQ ok_tb11 113 2 (by kernel_rfl) _ (l113_2_eq)
def S113:FunS:=⟨[⟨true,(.rows 9)⟩,⟨true, .str⟩],[],[⟨true,(.int .i64)⟩],[]⟩
noncomputable def F113:List D→Option (List D):=liftX env tbl113_2 60 12 113 S113
theorem F113_eq (sd0:D) (ss1:ByteArray):F113 [sd0,(D.str ss1)] =
 bif (qsome (l113_2 [sd0,(D.str ss1)] [(D.int 0)]))then
 bif (qcmp BinOp.eql (qint (qnth (l113_2 [sd0,(D.str ss1)] [(D.int 0)]) 0)) 0)then
 some [(D.int (-1))]
 else
 some [(D.int (qint (qnth (l113_2 [sd0,(D.str ss1)] [(D.int 0)]) 1)))]
 else
 none:=by kernel_rfl
noncomputable def q113:List D→Option (List D):=veil (F113)
theorem q113_eq:q113=F113:=veil_eq _
noncomputable def tb113:Tb:=Tb.addF tbl113_2 113 S113 (q113)
theorem ok_tb113:TbOk env (tb113):=addFunF ok_tbl113_2 113 (by kernel_rfl) _ (q113_eq)
def S112_4:LoopS:=⟨0,[⟨false, .str⟩,uF,⟨false,(.lit (.slice none 0 0))⟩,⟨false,(.osl 0 9)⟩,⟨true,(.int .i64)⟩,⟨true,(.int .i64)⟩,uF,uF,uF,uF,uF,uF,uF,uF,uF,uF,uF,uF,uF,uF,uF,uF,uF,uF,uF,uF,uF,uF,uF,uF,uF,uF,uF,uF,uF,uF,uF,uF,uF,uF,uF,uF,uF,uF],[(.lst true 9)],[⟨0,0,[⟨false, .str⟩,uT,⟨true,(.lit (.slice none 0 0))⟩,⟨true,(.osl 0 9)⟩,⟨true,(.int .i64)⟩,uT,uT,uT,uT,uT,uT,uT,uT,uT,uT,uT,uT,uT,uT,uT,uT,uT,uT,uT,uT,uT,uT,uT,uT,uT,uT,uT,uT,uT,uT,uT,uT,uT,uT,uT,uT,uT,uT,uT],[(.lst true 9)]⟩]⟩
noncomputable def st112_4 (p s:List D):Option (Sum (List D) (List D)):=stepQX env tb113 60 12 112 (loopC 112 4) S112_4 p s
theorem st112_4_eq (ps0:ByteArray) (sn0:Int) (sn1:Int) (sd2:D):st112_4 [(D.str ps0)] [(D.int sn0),(D.int sn1),sd2] =
 bif (qcmp BinOp.lss (qbin BinOp.add IntKind.i64 sn1 1) (qlenS ps0))then
 bif (qinbS ps0 sn1)then
 bif (qiteB (qcmp BinOp.eql (qidxS ps0 sn1) 44) (qinbS ps0 (qbin BinOp.add IntKind.i64 sn1 1)) Bool.true)then
 bif (qiteB (qiteB (qcmp BinOp.eql (qidxS ps0 sn1) 44) (qcmp BinOp.eql (qidxS ps0 (qbin BinOp.add IntKind.i64 sn1 1)) 32) Bool.false) (qcmp BinOp.geq sn1 sn0) Bool.false)then
 bif (qcmp BinOp.leq 0 sn0)then
 bif (qcmp BinOp.leq sn0 sn1)then
 bif (qcmp BinOp.leq sn1 (qlenS ps0))then
 bif (qmem (qlen (qapp sd2 (D.list [(D.str (qsubS ps0 sn0 sn1))]))) 16)then
 some (Sum.inl [(D.int (qbin BinOp.add IntKind.i64 sn1 2)),(D.int (qbin BinOp.add IntKind.i64 sn1 1)),(qapp sd2 (D.list [(D.str (qsubS ps0 sn0 sn1))]))])
 else
 none
 else
 none
 else
 none
 else
 none
 else
 some (Sum.inl [(D.int sn0),(D.int (qbin BinOp.add IntKind.i64 sn1 1)),sd2])
 else
 none
 else
 none
 else
 some (Sum.inr [(D.int 0),(D.int sn0),sd2]):=by
 have h:st112_4 [(D.str ps0)] [(D.int sn0),(D.int sn1),sd2] =
  bif (qcmp BinOp.lss (qbin BinOp.add IntKind.i64 sn1 1) (qlenS ps0))then
  bif (qinbS ps0 sn1)then
  bif (qiteB (qcmp BinOp.eql (qidxS ps0 sn1) 44) (qinbS ps0 (qbin BinOp.add IntKind.i64 sn1 1)) Bool.true)then
  bif (qiteB (qiteB (qcmp BinOp.eql (qidxS ps0 sn1) 44) (qcmp BinOp.eql (qidxS ps0 (qbin BinOp.add IntKind.i64 sn1 1)) 32) Bool.false) (qcmp BinOp.geq sn1 sn0) Bool.false)then
  bif (qcmp BinOp.leq 0 sn0)then
  bif (qcmp BinOp.leq sn0 sn1)then
  bif (qcmp BinOp.leq sn1 (qlenS ps0))then
  bif (qcmp BinOp.eql (qlen sd2) (qlen sd2))then
  bif (qmem (qlen (qapp sd2 (D.list [(D.str (qsubS ps0 sn0 sn1))]))) 16)then
  bif (qcmp BinOp.eql (qlen (qapp sd2 (D.list [(D.str (qsubS ps0 sn0 sn1))]))) (qlen (qapp sd2 (D.list [(D.str (qsubS ps0 sn0 sn1))]))))then
  bif (qeqD (D.str ps0) (D.str ps0))then
  some (Sum.inl [(D.int (qbin BinOp.add IntKind.i64 sn1 2)),(D.int (qbin BinOp.add IntKind.i64 sn1 1)),(qapp sd2 (D.list [(D.str (qsubS ps0 sn0 sn1))]))])
  else
  none
  else
  none
  else
  none
  else
  none
  else
  none
  else
  none
  else
  none
  else
  bif (qcmp BinOp.eql (qlen sd2) (qlen sd2))then
  bif (qeqD (D.str ps0) (D.str ps0))then
  some (Sum.inl [(D.int sn0),(D.int (qbin BinOp.add IntKind.i64 sn1 1)),sd2])
  else
  none
  else
  none
  else
  none
  else
  none
  else
  bif (qcmp BinOp.eql (qlen sd2) (qlen sd2))then
  bif (qeqD (D.str ps0) (D.str ps0))then
  some (Sum.inr [(D.int 0),(D.int sn0),sd2])
  else
  none
  else
  none:=by kernel_rfl
 rw[h];simp only[qeqD_self,qeqI_self,qeq_len,show qcmp BinOp.eql 0 (qlen (D.list []))=true from qeq_len [],show∀a,qcmp BinOp.eql 1 (qlen (D.list [a]))=true from fun a=>qeq_len [a],show∀a b,qcmp BinOp.eql 2 (qlen (D.list [a,b]))=true from fun a b=>qeq_len [a,b],show∀a b c,qcmp BinOp.eql 3 (qlen (D.list [a,b,c]))=true from fun a b c=>qeq_len [a,b,c],show∀a b c d,qcmp BinOp.eql 4 (qlen (D.list [a,b,c,d]))=true from fun a b c d=>qeq_len [a,b,c,d],cond_true]
noncomputable def l112_4:List D→List D→Option (List D):=veil fun p s=>loW (st112_4 p) s
theorem l112_4_eq:l112_4=fun p s=>loW (st112_4 p) s:=veil_eq _
noncomputable def tbl112_4:Tb:=Tb.addL tb113 112 4 S112_4.n0 (mkLp S112_4 (l112_4))
theorem ok_tbl112_4:TbOk env (tbl112_4):=addLoopQ ok_tb113 112 4 (by kernel_rfl) _ (l112_4_eq)
def S112:FunS:=⟨[⟨true, .str⟩],[],[⟨true,(.rows 9)⟩],[]⟩
noncomputable def F112:List D→Option (List D):=liftX env tbl112_4 60 12 112 S112
theorem F112_eq (ss0:ByteArray):F112 [(D.str ss0)] =
 bif (qsome (l112_4 [(D.str ss0)] [(D.int 0),(D.int 0),(D.list [])]))then
 bif (qcmp BinOp.leq 0 (qint (qnth (l112_4 [(D.str ss0)] [(D.int 0),(D.int 0),(D.list [])]) 1)))then
 bif (qcmp BinOp.leq (qint (qnth (l112_4 [(D.str ss0)] [(D.int 0),(D.int 0),(D.list [])]) 1)) (qlenS ss0))then
 bif (qcmp BinOp.leq (qlenS ss0) (qlenS ss0))then
 bif (qmem (qlen (qapp (qnth (l112_4 [(D.str ss0)] [(D.int 0),(D.int 0),(D.list [])]) 2) (D.list [(D.str (qsubS ss0 (qint (qnth (l112_4 [(D.str ss0)] [(D.int 0),(D.int 0),(D.list [])]) 1)) (qlenS ss0)))]))) 16)then
 some [(qapp (qnth (l112_4 [(D.str ss0)] [(D.int 0),(D.int 0),(D.list [])]) 2) (D.list [(D.str (qsubS ss0 (qint (qnth (l112_4 [(D.str ss0)] [(D.int 0),(D.int 0),(D.list [])]) 1)) (qlenS ss0)))]))]
 else
 none
 else
 none
 else
 none
 else
 none
 else
 none:=by
 have h:F112 [(D.str ss0)] =
  bif (qcmp BinOp.eql 0 (qlen (D.list [])))then
  bif (qsome (l112_4 [(D.str ss0)] [(D.int 0),(D.int 0),(D.list [])]))then
  bif (qcmp BinOp.leq 0 (qint (qnth (l112_4 [(D.str ss0)] [(D.int 0),(D.int 0),(D.list [])]) 1)))then
  bif (qcmp BinOp.leq (qint (qnth (l112_4 [(D.str ss0)] [(D.int 0),(D.int 0),(D.list [])]) 1)) (qlenS ss0))then
  bif (qcmp BinOp.leq (qlenS ss0) (qlenS ss0))then
  bif (qcmp BinOp.eql (qlen (qnth (l112_4 [(D.str ss0)] [(D.int 0),(D.int 0),(D.list [])]) 2)) (qlen (qnth (l112_4 [(D.str ss0)] [(D.int 0),(D.int 0),(D.list [])]) 2)))then
  bif (qmem (qlen (qapp (qnth (l112_4 [(D.str ss0)] [(D.int 0),(D.int 0),(D.list [])]) 2) (D.list [(D.str (qsubS ss0 (qint (qnth (l112_4 [(D.str ss0)] [(D.int 0),(D.int 0),(D.list [])]) 1)) (qlenS ss0)))]))) 16)then
  bif (qcmp BinOp.eql (qlen (qapp (qnth (l112_4 [(D.str ss0)] [(D.int 0),(D.int 0),(D.list [])]) 2) (D.list [(D.str (qsubS ss0 (qint (qnth (l112_4 [(D.str ss0)] [(D.int 0),(D.int 0),(D.list [])]) 1)) (qlenS ss0)))]))) (qlen (qapp (qnth (l112_4 [(D.str ss0)] [(D.int 0),(D.int 0),(D.list [])]) 2) (D.list [(D.str (qsubS ss0 (qint (qnth (l112_4 [(D.str ss0)] [(D.int 0),(D.int 0),(D.list [])]) 1)) (qlenS ss0)))]))))then
  some [(qapp (qnth (l112_4 [(D.str ss0)] [(D.int 0),(D.int 0),(D.list [])]) 2) (D.list [(D.str (qsubS ss0 (qint (qnth (l112_4 [(D.str ss0)] [(D.int 0),(D.int 0),(D.list [])]) 1)) (qlenS ss0)))]))]
  else
  none
  else
  none
  else
  none
  else
  none
  else
  none
  else
  none
  else
  none
  else
  none:=by kernel_rfl
 rw[h];simp only[qeqD_self,qeqI_self,qeq_len,show qcmp BinOp.eql 0 (qlen (D.list []))=true from qeq_len [],show∀a,qcmp BinOp.eql 1 (qlen (D.list [a]))=true from fun a=>qeq_len [a],show∀a b,qcmp BinOp.eql 2 (qlen (D.list [a,b]))=true from fun a b=>qeq_len [a,b],show∀a b c,qcmp BinOp.eql 3 (qlen (D.list [a,b,c]))=true from fun a b c=>qeq_len [a,b,c],show∀a b c d,qcmp BinOp.eql 4 (qlen (D.list [a,b,c,d]))=true from fun a b c d=>qeq_len [a,b,c,d],cond_true]
noncomputable def q112:List D→Option (List D):=veil (F112)
theorem q112_eq:q112=F112:=veil_eq _
noncomputable def tb112:Tb:=Tb.addF tbl112_4 112 S112 (q112)
theorem ok_tb112:TbOk env (tb112):=addFunF ok_tbl112_4 112 (by kernel_rfl) _ (q112_eq)
def S70_2:LoopS:=⟨0,[⟨false, .str⟩,uF,⟨false, .str⟩,⟨false,(.lit (.slice none 0 0))⟩,⟨true,(.int .i64)⟩,uF,uF,uF,uF,uF,uF,uF,uF,uF,uF,uF,uF,uF,uF,uF,uF,uF,uF,uF,uF,uF,uF,uF,uF,uF],[],[⟨0,0,[⟨false, .str⟩,uT,⟨false, .str⟩,⟨true,(.lit (.slice none 0 0))⟩,⟨true,(.int .i64)⟩,uT,uT,uT,uT,uT,uT,uT,uT,uT,uT,uT,uT,uT,uT,uT,uT,uT,uT,uT,uT,uT,uT,uT,uT,uT],[]⟩]⟩
noncomputable def st70_2 (p s:List D):Option (Sum (List D) (List D)):=stepQX env tb112 60 12 70 (loopC 70 2) S70_2 p s
theorem st70_2_eq (ps0:ByteArray) (ps1:ByteArray) (sn0:Int):st70_2 [(D.str ps0),(D.str ps1)] [(D.int sn0)] =
 bif (qiteB (qcmp BinOp.lss sn0 (qlenS ps0)) (qinbS ps0 sn0) Bool.true)then
 bif (qiteB (qcmp BinOp.lss sn0 (qlenS ps0)) (qcmp BinOp.neq (qidxS ps0 sn0) 32) Bool.false)then
 some (Sum.inl [(D.int (qbin BinOp.add IntKind.i64 sn0 1))])
 else
 some (Sum.inr [(D.int 0),(D.int sn0)])
 else
 none:=by
 have h:st70_2 [(D.str ps0),(D.str ps1)] [(D.int sn0)] =
  bif (qiteB (qcmp BinOp.lss sn0 (qlenS ps0)) (qinbS ps0 sn0) Bool.true)then
  bif (qiteB (qcmp BinOp.lss sn0 (qlenS ps0)) (qcmp BinOp.neq (qidxS ps0 sn0) 32) Bool.false)then
  bif (qeqD (D.str ps0) (D.str ps0))then
  bif (qeqD (D.str ps1) (D.str ps1))then
  some (Sum.inl [(D.int (qbin BinOp.add IntKind.i64 sn0 1))])
  else
  none
  else
  none
  else
  bif (qeqD (D.str ps0) (D.str ps0))then
  bif (qeqD (D.str ps1) (D.str ps1))then
  some (Sum.inr [(D.int 0),(D.int sn0)])
  else
  none
  else
  none
  else
  none:=by kernel_rfl
 rw[h];simp only[qeqD_self,qeqI_self,qeq_len,show qcmp BinOp.eql 0 (qlen (D.list []))=true from qeq_len [],show∀a,qcmp BinOp.eql 1 (qlen (D.list [a]))=true from fun a=>qeq_len [a],show∀a b,qcmp BinOp.eql 2 (qlen (D.list [a,b]))=true from fun a b=>qeq_len [a,b],show∀a b c,qcmp BinOp.eql 3 (qlen (D.list [a,b,c]))=true from fun a b c=>qeq_len [a,b,c],show∀a b c d,qcmp BinOp.eql 4 (qlen (D.list [a,b,c,d]))=true from fun a b c d=>qeq_len [a,b,c,d],cond_true]
noncomputable def l70_2:List D→List D→Option (List D):=veil fun p s=>loW (st70_2 p) s
theorem l70_2_eq:l70_2=fun p s=>loW (st70_2 p) s:=veil_eq _
noncomputable def tbl70_2:Tb:=Tb.addL tb112 70 2 S70_2.n0 (mkLp S70_2 (l70_2))
theorem ok_tbl70_2:TbOk env (tbl70_2):=addLoopQ ok_tb112 70 2 (by kernel_rfl) _ (l70_2_eq)
def S70:FunS:=⟨[⟨true, .str⟩],[],[⟨true,(.tup [.str,(.rows 9)])⟩],[]⟩
noncomputable def F70:List D→Option (List D):=liftX env tbl70_2 60 12 70 S70
theorem F70_eq (ss0:ByteArray):F70 [(D.str ss0)] =
 bif (qsome (l70_2 [(D.str ss0),(D.str (ByteArray.mk #[]))] [(D.int 0)]))then
 bif (qcmp BinOp.eql (qint (qnth (l70_2 [(D.str ss0),(D.str (ByteArray.mk #[]))] [(D.int 0)]) 1)) (qlenS ss0))then
 some [(D.str ss0),(D.list [])]
 else
 bif (qcmp BinOp.leq 0 0)then
 bif (qcmp BinOp.leq 0 (qint (qnth (l70_2 [(D.str ss0),(D.str (ByteArray.mk #[]))] [(D.int 0)]) 1)))then
 bif (qcmp BinOp.leq (qint (qnth (l70_2 [(D.str ss0),(D.str (ByteArray.mk #[]))] [(D.int 0)]) 1)) (qlenS ss0))then
 bif (qcmp BinOp.leq 0 (qbin BinOp.add IntKind.i64 (qint (qnth (l70_2 [(D.str ss0),(D.str (ByteArray.mk #[]))] [(D.int 0)]) 1)) 1))then
 bif (qcmp BinOp.leq (qbin BinOp.add IntKind.i64 (qint (qnth (l70_2 [(D.str ss0),(D.str (ByteArray.mk #[]))] [(D.int 0)]) 1)) 1) (qlenS ss0))then
 bif (qcmp BinOp.leq (qlenS ss0) (qlenS ss0))then
 bif (qsome (q112 [(D.str (qsubS ss0 (qbin BinOp.add IntKind.i64 (qint (qnth (l70_2 [(D.str ss0),(D.str (ByteArray.mk #[]))] [(D.int 0)]) 1)) 1) (qlenS ss0)))]))then
 some [(D.str (qsubS ss0 0 (qint (qnth (l70_2 [(D.str ss0),(D.str (ByteArray.mk #[]))] [(D.int 0)]) 1)))),(qnth (q112 [(D.str (qsubS ss0 (qbin BinOp.add IntKind.i64 (qint (qnth (l70_2 [(D.str ss0),(D.str (ByteArray.mk #[]))] [(D.int 0)]) 1)) 1) (qlenS ss0)))]) 0)]
 else
 none
 else
 none
 else
 none
 else
 none
 else
 none
 else
 none
 else
 none
 else
 none:=by kernel_rfl
noncomputable def q70:List D→Option (List D):=veil (F70)
theorem q70_eq:q70=F70:=veil_eq _
noncomputable def tb70:Tb:=Tb.addF tbl70_2 70 S70 (q70)
theorem ok_tb70:TbOk env (tb70):=addFunF ok_tbl70_2 70 (by kernel_rfl) _ (q70_eq)
def S115:FunS:=⟨[⟨true, .str⟩],[],[⟨true,(.tup [(.int .i64),(.int .u32),(.int .i64)])⟩],[]⟩
noncomputable def F115:List D→Option (List D):=liftX env tb70 60 12 115 S115
theorem F115_eq (ss0:ByteArray):F115 [(D.str ss0)] =
 bif (qiteB (qcmp BinOp.lss (qlenS ss0) 4) Bool.true (qinbS ss0 0))then
 bif (qiteB (qiteB (qcmp BinOp.lss (qlenS ss0) 4) Bool.true (qcmp BinOp.neq (qidxS ss0 0) 91)) Bool.true (qinbS ss0 (qbin BinOp.sub IntKind.i64 (qlenS ss0) 1)))then
 bif (qiteB (qiteB (qcmp BinOp.lss (qlenS ss0) 4) Bool.true (qcmp BinOp.neq (qidxS ss0 0) 91)) Bool.true (qcmp BinOp.neq (qidxS ss0 (qbin BinOp.sub IntKind.i64 (qlenS ss0) 1)) 93))then
 some [(D.int 0),(D.int 0),(D.int 3)]
 else
 bif (qcmp BinOp.leq 0 1)then
 bif (qcmp BinOp.leq 1 3)then
 bif (qcmp BinOp.leq 3 (qlenS ss0))then
 bif (qsome (q114 [(D.str (qsubS ss0 1 3))]))then
 bif (qnot (qbool (qnth (q114 [(D.str (qsubS ss0 1 3))]) 1)))then
 some [(D.int 0),(D.int 0),(D.int 3)]
 else
 bif (qcmp BinOp.leq 0 3)then
 bif (qcmp BinOp.leq 3 (qbin BinOp.sub IntKind.i64 (qlenS ss0) 1))then
 bif (qcmp BinOp.leq (qbin BinOp.sub IntKind.i64 (qlenS ss0) 1) (qlenS ss0))then
 bif (qcmpS BinOp.eql (qsubS ss0 3 (qbin BinOp.sub IntKind.i64 (qlenS ss0) 1)) (ByteArray.mk #[]))then
 some [(D.int (qint (qnth (q114 [(D.str (qsubS ss0 1 3))]) 0))),(D.int 0),(D.int 0)]
 else
 bif (qcmp BinOp.leq 0 1)then
 bif (qcmp BinOp.leq 1 (qlenS (qsubS ss0 3 (qbin BinOp.sub IntKind.i64 (qlenS ss0) 1))))then
 bif (qcmp BinOp.leq (qlenS (qsubS ss0 3 (qbin BinOp.sub IntKind.i64 (qlenS ss0) 1))) (qlenS (qsubS ss0 3 (qbin BinOp.sub IntKind.i64 (qlenS ss0) 1))))then
 bif (qsome (q126 [(D.str (qsubS (qsubS ss0 3 (qbin BinOp.sub IntKind.i64 (qlenS ss0) 1)) 1 (qlenS (qsubS ss0 3 (qbin BinOp.sub IntKind.i64 (qlenS ss0) 1)))))]))then
 bif (qiteB (qnot (qbool (qnth (q126 [(D.str (qsubS (qsubS ss0 3 (qbin BinOp.sub IntKind.i64 (qlenS ss0) 1)) 1 (qlenS (qsubS ss0 3 (qbin BinOp.sub IntKind.i64 (qlenS ss0) 1)))))]) 1))) Bool.true (qinbS (qsubS ss0 3 (qbin BinOp.sub IntKind.i64 (qlenS ss0) 1)) 1))then
 bif (qiteB (qiteB (qnot (qbool (qnth (q126 [(D.str (qsubS (qsubS ss0 3 (qbin BinOp.sub IntKind.i64 (qlenS ss0) 1)) 1 (qlenS (qsubS ss0 3 (qbin BinOp.sub IntKind.i64 (qlenS ss0) 1)))))]) 1))) Bool.true (qcmp BinOp.eql (qidxS (qsubS ss0 3 (qbin BinOp.sub IntKind.i64 (qlenS ss0) 1)) 1) 45)) Bool.true (qand (qinbS (qsubS ss0 3 (qbin BinOp.sub IntKind.i64 (qlenS ss0) 1)) 0) (qiteB (qcmp BinOp.neq (qidxS (qsubS ss0 3 (qbin BinOp.sub IntKind.i64 (qlenS ss0) 1)) 0) 43) (qinbS (qsubS ss0 3 (qbin BinOp.sub IntKind.i64 (qlenS ss0) 1)) 0) Bool.true)))then
 bif (qiteB (qiteB (qnot (qbool (qnth (q126 [(D.str (qsubS (qsubS ss0 3 (qbin BinOp.sub IntKind.i64 (qlenS ss0) 1)) 1 (qlenS (qsubS ss0 3 (qbin BinOp.sub IntKind.i64 (qlenS ss0) 1)))))]) 1))) Bool.true (qcmp BinOp.eql (qidxS (qsubS ss0 3 (qbin BinOp.sub IntKind.i64 (qlenS ss0) 1)) 1) 45)) Bool.true (qiteB (qcmp BinOp.neq (qidxS (qsubS ss0 3 (qbin BinOp.sub IntKind.i64 (qlenS ss0) 1)) 0) 43) (qcmp BinOp.neq (qidxS (qsubS ss0 3 (qbin BinOp.sub IntKind.i64 (qlenS ss0) 1)) 0) 45) Bool.false))then
 some [(D.int 0),(D.int 0),(D.int 3)]
 else
 bif (qinbS (qsubS ss0 3 (qbin BinOp.sub IntKind.i64 (qlenS ss0) 1)) 0)then
 bif (qiteB (qiteB (qcmp BinOp.eql (qidxS (qsubS ss0 3 (qbin BinOp.sub IntKind.i64 (qlenS ss0) 1)) 0) 43) (qcmp BinOp.gtr (qint (qnth (q126 [(D.str (qsubS (qsubS ss0 3 (qbin BinOp.sub IntKind.i64 (qlenS ss0) 1)) 1 (qlenS (qsubS ss0 3 (qbin BinOp.sub IntKind.i64 (qlenS ss0) 1)))))]) 0)) 127) Bool.false) Bool.true (qcmp BinOp.gtr (qint (qnth (q126 [(D.str (qsubS (qsubS ss0 3 (qbin BinOp.sub IntKind.i64 (qlenS ss0) 1)) 1 (qlenS (qsubS ss0 3 (qbin BinOp.sub IntKind.i64 (qlenS ss0) 1)))))]) 0)) 128))then
 some [(D.int 0),(D.int 0),(D.int 7)]
 else
 bif (qinbS (qsubS ss0 3 (qbin BinOp.sub IntKind.i64 (qlenS ss0) 1)) 0)then
 some [(D.int (qint (qnth (q114 [(D.str (qsubS ss0 1 3))]) 0))),(D.int (qiteI (qcmp BinOp.eql (qidxS (qsubS ss0 3 (qbin BinOp.sub IntKind.i64 (qlenS ss0) 1)) 0) 45) (qbin BinOp.sub IntKind.u32 0 (qint (qnth (q126 [(D.str (qsubS (qsubS ss0 3 (qbin BinOp.sub IntKind.i64 (qlenS ss0) 1)) 1 (qlenS (qsubS ss0 3 (qbin BinOp.sub IntKind.i64 (qlenS ss0) 1)))))]) 0))) (qint (qnth (q126 [(D.str (qsubS (qsubS ss0 3 (qbin BinOp.sub IntKind.i64 (qlenS ss0) 1)) 1 (qlenS (qsubS ss0 3 (qbin BinOp.sub IntKind.i64 (qlenS ss0) 1)))))]) 0)))),(D.int 0)]
 else
 none
 else
 none
 else
 none
 else
 none
 else
 none
 else
 none
 else
 none
 else
 none
 else
 none
 else
 none
 else
 none
 else
 none
 else
 none
 else
 none
 else
 none
 else
 none
 else
 none:=by kernel_rfl
noncomputable def q115:List D→Option (List D):=veil (F115)
theorem q115_eq:q115=F115:=veil_eq _
noncomputable def tb115:Tb:=Tb.addF tb70 115 S115 (q115)
theorem ok_tb115:TbOk env (tb115):=addFunF ok_tb70 115 (by kernel_rfl) _ (q115_eq)
def S77_n:FunS:=⟨[⟨true, .str⟩,⟨true,(.lit (.slice none 0 0))⟩,⟨true,(.lit (.int .i64 0))⟩],[],[⟨true,(.tup [(.int .u32), .bool,(.int .i64)])⟩],[]⟩
noncomputable def F77_n:List D→Option (List D):=liftX env tb115 60 12 77 S77_n
theorem F77_n_eq (ss0:ByteArray):F77_n [(D.str ss0)] =
 bif (qsome (q126 [(D.str ss0)]))then
 bif (qbool (qnth (q126 [(D.str ss0)]) 1))then
 some [(D.int (qint (qnth (q126 [(D.str ss0)]) 0))),(D.bool Bool.false),(D.int 0)]
 else
 some [(D.int 0),(D.bool Bool.false),(D.int 3)]
 else
 none:=by kernel_rfl
noncomputable def q77_n:List D→Option (List D):=veil (F77_n)
theorem q77_n_eq:q77_n=F77_n:=veil_eq _
noncomputable def tb77_n:Tb:=Tb.addF tb115 77 S77_n (q77_n)
theorem ok_tb77_n:TbOk env (tb77_n):=addFunF ok_tb115 77 (by kernel_rfl) _ (q77_n_eq)
def S116_n:FunS:=⟨[⟨true,(.dat 24)⟩,⟨true, .bool⟩,⟨true, .str⟩,⟨true,(.lit (.slice none 0 0))⟩,⟨true,(.lit (.int .i64 0))⟩],[],[⟨true,(.tup [(.dat 24),(.int .i64)])⟩],[]⟩
noncomputable def F116_n:List D→Option (List D):=liftX env tb77_n 60 12 116 S116_n
theorem F116_n_eq (sd0:D) (sb1:Bool) (ss2:ByteArray):F116_n [sd0,(D.bool sb1),(D.str ss2)] =
 bif (qsome (q114 [(D.str ss2)]))then
 bif (qbool (qnth (q114 [(D.str ss2)]) 1))then
 bif sb1 then
 some [(D.agg [(D.int 0),(D.int 0),(D.int 0),(D.int 0),(D.int 0),(D.int 0),(D.int 0),(D.int 0),(D.int 0)]),(D.int 3)]
 else
 some [(D.agg [(D.int (qint (qfld sd0 0))),(D.int (qint (qfld sd0 1))),(D.int (qint (qfld sd0 2))),(D.int (qint (qfld sd0 3))),(D.int (qint (qfld sd0 4))),(D.int (qint (qfld sd0 5))),(D.int (qint (qfld sd0 6))),(D.int (qint (qnth (q114 [(D.str ss2)]) 0))),(D.int (qint (qfld sd0 8)))]),(D.int 0)]
 else
 bif (qsome (q77_n [(D.str ss2)]))then
 bif (qcmp BinOp.neq (qint (qnth (q77_n [(D.str ss2)]) 2)) 0)then
 some [(D.agg [(D.int 0),(D.int 0),(D.int 0),(D.int 0),(D.int 0),(D.int 0),(D.int 0),(D.int 0),(D.int 0)]),(D.int (qint (qnth (q77_n [(D.str ss2)]) 2)))]
 else
 bif (qsome (q32 [(D.int (qint (qnth (q77_n [(D.str ss2)]) 0)))]))then
 bif (qiteB (qiteB (qbool (qnth (q32 [(D.int (qint (qnth (q77_n [(D.str ss2)]) 0)))]) 0)) (qnot sb1) Bool.false) (qnot (qbool (qnth (q77_n [(D.str ss2)]) 1))) Bool.false)then
 some [(D.agg [(D.int (qint (qfld sd0 0))),(D.int (qint (qnth (q77_n [(D.str ss2)]) 0))),(D.int (qint (qfld sd0 2))),(D.int 1),(D.int (qint (qfld sd0 4))),(D.int (qint (qfld sd0 5))),(D.int (qint (qfld sd0 6))),(D.int (qint (qfld sd0 7))),(D.int (qint (qfld sd0 8)))]),(D.int 0)]
 else
 some [(D.agg [(D.int (qint (qfld sd0 0))),(D.int (qint (qnth (q77_n [(D.str ss2)]) 0))),(D.int (qint (qfld sd0 2))),(D.int 2),(D.int (qint (qfld sd0 4))),(D.int (qint (qfld sd0 5))),(D.int (qint (qfld sd0 6))),(D.int (qint (qfld sd0 7))),(D.int (qint (qfld sd0 8)))]),(D.int 0)]
 else
 none
 else
 none
 else
 none:=by kernel_rfl
noncomputable def q116_n:List D→Option (List D):=veil (F116_n)
theorem q116_n_eq:q116_n=F116_n:=veil_eq _
noncomputable def tb116_n:Tb:=Tb.addF tb77_n 116 S116_n (q116_n)
theorem ok_tb116_n:TbOk env (tb116_n):=addFunF ok_tb77_n 116 (by kernel_rfl) _ (q116_n_eq)
def S118_n:FunS:=⟨[⟨true,(.dat 24)⟩,⟨true, .bool⟩,⟨true, .str⟩,⟨true,(.lit (.slice none 0 0))⟩,⟨true,(.lit (.int .i64 0))⟩],[],[⟨true,(.tup [(.dat 24),(.int .i64)])⟩],[]⟩
noncomputable def F118_n:List D→Option (List D):=liftX env tb116_n 60 12 118 S118_n
theorem F118_n_eq (sd0:D) (sb1:Bool) (ss2:ByteArray):F118_n [sd0,(D.bool sb1),(D.str ss2)] =
 bif (qsome (q77_n [(D.str ss2)]))then
 bif (qcmp BinOp.neq (qint (qnth (q77_n [(D.str ss2)]) 2)) 0)then
 some [(D.agg [(D.int 0),(D.int 0),(D.int 0),(D.int 0),(D.int 0),(D.int 0),(D.int 0),(D.int 0),(D.int 0)]),(D.int (qint (qnth (q77_n [(D.str ss2)]) 2)))]
 else
 bif (qsome (q32 [(D.int (qbin BinOp.sub IntKind.u32 (qbin BinOp.sub IntKind.u32 (qint (qnth (q77_n [(D.str ss2)]) 0)) (qint (qfld sd0 0))) 2))]))then
 bif (qiteB (qiteB (qbool (qnth (q32 [(D.int (qbin BinOp.sub IntKind.u32 (qbin BinOp.sub IntKind.u32 (qint (qnth (q77_n [(D.str ss2)]) 0)) (qint (qfld sd0 0))) 2))]) 0)) (qnot sb1) Bool.false) (qnot (qbool (qnth (q77_n [(D.str ss2)]) 1))) Bool.false)then
 some [(D.agg [(D.int (qint (qfld sd0 0))),(D.int (qint (qnth (q77_n [(D.str ss2)]) 0))),(D.int 20),(D.int 1),(D.int (qint (qfld sd0 4))),(D.int (qint (qfld sd0 5))),(D.int (qint (qfld sd0 6))),(D.int (qint (qfld sd0 7))),(D.int (qint (qfld sd0 8)))]),(D.int 0)]
 else
 some [(D.agg [(D.int (qint (qfld sd0 0))),(D.int (qint (qnth (q77_n [(D.str ss2)]) 0))),(D.int 20),(D.int 2),(D.int (qint (qfld sd0 4))),(D.int (qint (qfld sd0 5))),(D.int (qint (qfld sd0 6))),(D.int (qint (qfld sd0 7))),(D.int (qint (qfld sd0 8)))]),(D.int 0)]
 else
 none
 else
 none:=by kernel_rfl
noncomputable def q118_n:List D→Option (List D):=veil (F118_n)
theorem q118_n_eq:q118_n=F118_n:=veil_eq _
noncomputable def tb118_n:Tb:=Tb.addF tb116_n 118 S118_n (q118_n)
theorem ok_tb118_n:TbOk env (tb118_n):=addFunF ok_tb116_n 118 (by kernel_rfl) _ (q118_n_eq)
def S72:FunS:=⟨[⟨true,(.dat 24)⟩,⟨true, .str⟩,⟨true,(.rows 9)⟩],[],[⟨true,(.tup [(.dat 24),(.int .i64), .bool])⟩],[]⟩
noncomputable def F72:List D→Option (List D):=liftX env tb118_n 60 12 72 S72
theorem F72_eq (sd0:D) (ss1:ByteArray) (sd2:D):F72 [sd0,(D.str ss1),sd2] =
 bif (qsome (q113 [(D.list [(D.str (ByteArray.mk #[108,111,97,100,49])),(D.str (ByteArray.mk #[108,111,97,100,50])),(D.str (ByteArray.mk #[108,111,97,100,52])),(D.str (ByteArray.mk #[108,111,97,100,49,115])),(D.str (ByteArray.mk #[108,111,97,100,50,115])),(D.str (ByteArray.mk #[115,116,111,114,101,49])),(D.str (ByteArray.mk #[115,116,111,114,101,50])),(D.str (ByteArray.mk #[115,116,111,114,101,52])),(D.str (ByteArray.mk #[108,101,97]))]),(D.str ss1)]))then
 bif (qcmp BinOp.lss (qint (qnth (q113 [(D.list [(D.str (ByteArray.mk #[108,111,97,100,49])),(D.str (ByteArray.mk #[108,111,97,100,50])),(D.str (ByteArray.mk #[108,111,97,100,52])),(D.str (ByteArray.mk #[108,111,97,100,49,115])),(D.str (ByteArray.mk #[108,111,97,100,50,115])),(D.str (ByteArray.mk #[115,116,111,114,101,49])),(D.str (ByteArray.mk #[115,116,111,114,101,50])),(D.str (ByteArray.mk #[115,116,111,114,101,52])),(D.str (ByteArray.mk #[108,101,97]))]),(D.str ss1)]) 0)) 0)then
 some [sd0,(D.int 0),(D.bool Bool.false)]
 else
 bif (qcmp BinOp.neq (qlen sd2) 2)then
 some [sd0,(D.int 3),(D.bool Bool.true)]
 else
 bif (qinb sd2 0)then
 bif (qinb sd2 1)then
 bif (qcmp BinOp.leq 0 (qint (qnth (q113 [(D.list [(D.str (ByteArray.mk #[108,111,97,100,49])),(D.str (ByteArray.mk #[108,111,97,100,50])),(D.str (ByteArray.mk #[108,111,97,100,52])),(D.str (ByteArray.mk #[108,111,97,100,49,115])),(D.str (ByteArray.mk #[108,111,97,100,50,115])),(D.str (ByteArray.mk #[115,116,111,114,101,49])),(D.str (ByteArray.mk #[115,116,111,114,101,50])),(D.str (ByteArray.mk #[115,116,111,114,101,52])),(D.str (ByteArray.mk #[108,101,97]))]),(D.str ss1)]) 0)))then
 bif (qcmp BinOp.lss (qint (qnth (q113 [(D.list [(D.str (ByteArray.mk #[108,111,97,100,49])),(D.str (ByteArray.mk #[108,111,97,100,50])),(D.str (ByteArray.mk #[108,111,97,100,52])),(D.str (ByteArray.mk #[108,111,97,100,49,115])),(D.str (ByteArray.mk #[108,111,97,100,50,115])),(D.str (ByteArray.mk #[115,116,111,114,101,49])),(D.str (ByteArray.mk #[115,116,111,114,101,50])),(D.str (ByteArray.mk #[115,116,111,114,101,52])),(D.str (ByteArray.mk #[108,101,97]))]),(D.str ss1)]) 0)) 9)then
 bif (qinb (D.list [(D.int 16),(D.int 16),(D.int 16),(D.int 17),(D.int 17),(D.int 18),(D.int 18),(D.int 18),(D.int 19)]) (qint (qnth (q113 [(D.list [(D.str (ByteArray.mk #[108,111,97,100,49])),(D.str (ByteArray.mk #[108,111,97,100,50])),(D.str (ByteArray.mk #[108,111,97,100,52])),(D.str (ByteArray.mk #[108,111,97,100,49,115])),(D.str (ByteArray.mk #[108,111,97,100,50,115])),(D.str (ByteArray.mk #[115,116,111,114,101,49])),(D.str (ByteArray.mk #[115,116,111,114,101,50])),(D.str (ByteArray.mk #[115,116,111,114,101,52])),(D.str (ByteArray.mk #[108,101,97]))]),(D.str ss1)]) 0)))then
 bif (qcmp BinOp.eql (qint (qget (D.list [(D.int 16),(D.int 16),(D.int 16),(D.int 17),(D.int 17),(D.int 18),(D.int 18),(D.int 18),(D.int 19)]) (qint (qnth (q113 [(D.list [(D.str (ByteArray.mk #[108,111,97,100,49])),(D.str (ByteArray.mk #[108,111,97,100,50])),(D.str (ByteArray.mk #[108,111,97,100,52])),(D.str (ByteArray.mk #[108,111,97,100,49,115])),(D.str (ByteArray.mk #[108,111,97,100,50,115])),(D.str (ByteArray.mk #[115,116,111,114,101,49])),(D.str (ByteArray.mk #[115,116,111,114,101,50])),(D.str (ByteArray.mk #[115,116,111,114,101,52])),(D.str (ByteArray.mk #[108,101,97]))]),(D.str ss1)]) 0)))) 18)then
 bif (qinb sd2 1)then
 bif (qinb sd2 0)then
 bif (qsome (q114 [(D.str (qstr (qget sd2 1)))]))then
 bif (qsome (q115 [(D.str (qstr (qget sd2 0)))]))then
 bif (qiteB (qnot (qbool (qnth (q114 [(D.str (qstr (qget sd2 1)))]) 1))) Bool.true (qcmp BinOp.eql (qint (qnth (q115 [(D.str (qstr (qget sd2 0)))]) 2)) 3))then
 some [sd0,(D.int 3),(D.bool Bool.true)]
 else
 bif (qcmp BinOp.leq 0 (qint (qnth (q113 [(D.list [(D.str (ByteArray.mk #[108,111,97,100,49])),(D.str (ByteArray.mk #[108,111,97,100,50])),(D.str (ByteArray.mk #[108,111,97,100,52])),(D.str (ByteArray.mk #[108,111,97,100,49,115])),(D.str (ByteArray.mk #[108,111,97,100,50,115])),(D.str (ByteArray.mk #[115,116,111,114,101,49])),(D.str (ByteArray.mk #[115,116,111,114,101,50])),(D.str (ByteArray.mk #[115,116,111,114,101,52])),(D.str (ByteArray.mk #[108,101,97]))]),(D.str ss1)]) 0)))then
 bif (qcmp BinOp.lss (qint (qnth (q113 [(D.list [(D.str (ByteArray.mk #[108,111,97,100,49])),(D.str (ByteArray.mk #[108,111,97,100,50])),(D.str (ByteArray.mk #[108,111,97,100,52])),(D.str (ByteArray.mk #[108,111,97,100,49,115])),(D.str (ByteArray.mk #[108,111,97,100,50,115])),(D.str (ByteArray.mk #[115,116,111,114,101,49])),(D.str (ByteArray.mk #[115,116,111,114,101,50])),(D.str (ByteArray.mk #[115,116,111,114,101,52])),(D.str (ByteArray.mk #[108,101,97]))]),(D.str ss1)]) 0)) 9)then
 bif (qinb (D.list [(D.int 16),(D.int 16),(D.int 16),(D.int 17),(D.int 17),(D.int 18),(D.int 18),(D.int 18),(D.int 19)]) (qint (qnth (q113 [(D.list [(D.str (ByteArray.mk #[108,111,97,100,49])),(D.str (ByteArray.mk #[108,111,97,100,50])),(D.str (ByteArray.mk #[108,111,97,100,52])),(D.str (ByteArray.mk #[108,111,97,100,49,115])),(D.str (ByteArray.mk #[108,111,97,100,50,115])),(D.str (ByteArray.mk #[115,116,111,114,101,49])),(D.str (ByteArray.mk #[115,116,111,114,101,50])),(D.str (ByteArray.mk #[115,116,111,114,101,52])),(D.str (ByteArray.mk #[108,101,97]))]),(D.str ss1)]) 0)))then
 bif (qcmp BinOp.leq 0 (qint (qnth (q113 [(D.list [(D.str (ByteArray.mk #[108,111,97,100,49])),(D.str (ByteArray.mk #[108,111,97,100,50])),(D.str (ByteArray.mk #[108,111,97,100,52])),(D.str (ByteArray.mk #[108,111,97,100,49,115])),(D.str (ByteArray.mk #[108,111,97,100,50,115])),(D.str (ByteArray.mk #[115,116,111,114,101,49])),(D.str (ByteArray.mk #[115,116,111,114,101,50])),(D.str (ByteArray.mk #[115,116,111,114,101,52])),(D.str (ByteArray.mk #[108,101,97]))]),(D.str ss1)]) 0)))then
 bif (qcmp BinOp.lss (qint (qnth (q113 [(D.list [(D.str (ByteArray.mk #[108,111,97,100,49])),(D.str (ByteArray.mk #[108,111,97,100,50])),(D.str (ByteArray.mk #[108,111,97,100,52])),(D.str (ByteArray.mk #[108,111,97,100,49,115])),(D.str (ByteArray.mk #[108,111,97,100,50,115])),(D.str (ByteArray.mk #[115,116,111,114,101,49])),(D.str (ByteArray.mk #[115,116,111,114,101,50])),(D.str (ByteArray.mk #[115,116,111,114,101,52])),(D.str (ByteArray.mk #[108,101,97]))]),(D.str ss1)]) 0)) 9)then
 bif (qinb (D.list [(D.int 1),(D.int 2),(D.int 4),(D.int 1),(D.int 2),(D.int 1),(D.int 2),(D.int 4),(D.int 0)]) (qint (qnth (q113 [(D.list [(D.str (ByteArray.mk #[108,111,97,100,49])),(D.str (ByteArray.mk #[108,111,97,100,50])),(D.str (ByteArray.mk #[108,111,97,100,52])),(D.str (ByteArray.mk #[108,111,97,100,49,115])),(D.str (ByteArray.mk #[108,111,97,100,50,115])),(D.str (ByteArray.mk #[115,116,111,114,101,49])),(D.str (ByteArray.mk #[115,116,111,114,101,50])),(D.str (ByteArray.mk #[115,116,111,114,101,52])),(D.str (ByteArray.mk #[108,101,97]))]),(D.str ss1)]) 0)))then
 some [(D.agg [(D.int (qint (qfld sd0 0))),(D.int (qint (qnth (q115 [(D.str (qstr (qget sd2 0)))]) 1))),(D.int (qint (qget (D.list [(D.int 16),(D.int 16),(D.int 16),(D.int 17),(D.int 17),(D.int 18),(D.int 18),(D.int 18),(D.int 19)]) (qint (qnth (q113 [(D.list [(D.str (ByteArray.mk #[108,111,97,100,49])),(D.str (ByteArray.mk #[108,111,97,100,50])),(D.str (ByteArray.mk #[108,111,97,100,52])),(D.str (ByteArray.mk #[108,111,97,100,49,115])),(D.str (ByteArray.mk #[108,111,97,100,50,115])),(D.str (ByteArray.mk #[115,116,111,114,101,49])),(D.str (ByteArray.mk #[115,116,111,114,101,50])),(D.str (ByteArray.mk #[115,116,111,114,101,52])),(D.str (ByteArray.mk #[108,101,97]))]),(D.str ss1)]) 0))))),(D.int (qint (qfld sd0 3))),(D.int (qint (qget (D.list [(D.int 1),(D.int 2),(D.int 4),(D.int 1),(D.int 2),(D.int 1),(D.int 2),(D.int 4),(D.int 0)]) (qint (qnth (q113 [(D.list [(D.str (ByteArray.mk #[108,111,97,100,49])),(D.str (ByteArray.mk #[108,111,97,100,50])),(D.str (ByteArray.mk #[108,111,97,100,52])),(D.str (ByteArray.mk #[108,111,97,100,49,115])),(D.str (ByteArray.mk #[108,111,97,100,50,115])),(D.str (ByteArray.mk #[115,116,111,114,101,49])),(D.str (ByteArray.mk #[115,116,111,114,101,50])),(D.str (ByteArray.mk #[115,116,111,114,101,52])),(D.str (ByteArray.mk #[108,101,97]))]),(D.str ss1)]) 0))))),(D.int (qint (qfld sd0 5))),(D.int (qint (qnth (q114 [(D.str (qstr (qget sd2 1)))]) 0))),(D.int (qint (qnth (q115 [(D.str (qstr (qget sd2 0)))]) 0))),(D.int (qint (qfld sd0 8)))]),(D.int (qint (qnth (q115 [(D.str (qstr (qget sd2 0)))]) 2))),(D.bool Bool.true)]
 else
 none
 else
 none
 else
 none
 else
 none
 else
 none
 else
 none
 else
 none
 else
 none
 else
 none
 else
 none
 else
 bif (qsome (q114 [(D.str (qstr (qget sd2 0)))]))then
 bif (qsome (q115 [(D.str (qstr (qget sd2 1)))]))then
 bif (qiteB (qnot (qbool (qnth (q114 [(D.str (qstr (qget sd2 0)))]) 1))) Bool.true (qcmp BinOp.eql (qint (qnth (q115 [(D.str (qstr (qget sd2 1)))]) 2)) 3))then
 some [sd0,(D.int 3),(D.bool Bool.true)]
 else
 bif (qcmp BinOp.leq 0 (qint (qnth (q113 [(D.list [(D.str (ByteArray.mk #[108,111,97,100,49])),(D.str (ByteArray.mk #[108,111,97,100,50])),(D.str (ByteArray.mk #[108,111,97,100,52])),(D.str (ByteArray.mk #[108,111,97,100,49,115])),(D.str (ByteArray.mk #[108,111,97,100,50,115])),(D.str (ByteArray.mk #[115,116,111,114,101,49])),(D.str (ByteArray.mk #[115,116,111,114,101,50])),(D.str (ByteArray.mk #[115,116,111,114,101,52])),(D.str (ByteArray.mk #[108,101,97]))]),(D.str ss1)]) 0)))then
 bif (qcmp BinOp.lss (qint (qnth (q113 [(D.list [(D.str (ByteArray.mk #[108,111,97,100,49])),(D.str (ByteArray.mk #[108,111,97,100,50])),(D.str (ByteArray.mk #[108,111,97,100,52])),(D.str (ByteArray.mk #[108,111,97,100,49,115])),(D.str (ByteArray.mk #[108,111,97,100,50,115])),(D.str (ByteArray.mk #[115,116,111,114,101,49])),(D.str (ByteArray.mk #[115,116,111,114,101,50])),(D.str (ByteArray.mk #[115,116,111,114,101,52])),(D.str (ByteArray.mk #[108,101,97]))]),(D.str ss1)]) 0)) 9)then
 bif (qinb (D.list [(D.int 16),(D.int 16),(D.int 16),(D.int 17),(D.int 17),(D.int 18),(D.int 18),(D.int 18),(D.int 19)]) (qint (qnth (q113 [(D.list [(D.str (ByteArray.mk #[108,111,97,100,49])),(D.str (ByteArray.mk #[108,111,97,100,50])),(D.str (ByteArray.mk #[108,111,97,100,52])),(D.str (ByteArray.mk #[108,111,97,100,49,115])),(D.str (ByteArray.mk #[108,111,97,100,50,115])),(D.str (ByteArray.mk #[115,116,111,114,101,49])),(D.str (ByteArray.mk #[115,116,111,114,101,50])),(D.str (ByteArray.mk #[115,116,111,114,101,52])),(D.str (ByteArray.mk #[108,101,97]))]),(D.str ss1)]) 0)))then
 bif (qcmp BinOp.leq 0 (qint (qnth (q113 [(D.list [(D.str (ByteArray.mk #[108,111,97,100,49])),(D.str (ByteArray.mk #[108,111,97,100,50])),(D.str (ByteArray.mk #[108,111,97,100,52])),(D.str (ByteArray.mk #[108,111,97,100,49,115])),(D.str (ByteArray.mk #[108,111,97,100,50,115])),(D.str (ByteArray.mk #[115,116,111,114,101,49])),(D.str (ByteArray.mk #[115,116,111,114,101,50])),(D.str (ByteArray.mk #[115,116,111,114,101,52])),(D.str (ByteArray.mk #[108,101,97]))]),(D.str ss1)]) 0)))then
 bif (qcmp BinOp.lss (qint (qnth (q113 [(D.list [(D.str (ByteArray.mk #[108,111,97,100,49])),(D.str (ByteArray.mk #[108,111,97,100,50])),(D.str (ByteArray.mk #[108,111,97,100,52])),(D.str (ByteArray.mk #[108,111,97,100,49,115])),(D.str (ByteArray.mk #[108,111,97,100,50,115])),(D.str (ByteArray.mk #[115,116,111,114,101,49])),(D.str (ByteArray.mk #[115,116,111,114,101,50])),(D.str (ByteArray.mk #[115,116,111,114,101,52])),(D.str (ByteArray.mk #[108,101,97]))]),(D.str ss1)]) 0)) 9)then
 bif (qinb (D.list [(D.int 1),(D.int 2),(D.int 4),(D.int 1),(D.int 2),(D.int 1),(D.int 2),(D.int 4),(D.int 0)]) (qint (qnth (q113 [(D.list [(D.str (ByteArray.mk #[108,111,97,100,49])),(D.str (ByteArray.mk #[108,111,97,100,50])),(D.str (ByteArray.mk #[108,111,97,100,52])),(D.str (ByteArray.mk #[108,111,97,100,49,115])),(D.str (ByteArray.mk #[108,111,97,100,50,115])),(D.str (ByteArray.mk #[115,116,111,114,101,49])),(D.str (ByteArray.mk #[115,116,111,114,101,50])),(D.str (ByteArray.mk #[115,116,111,114,101,52])),(D.str (ByteArray.mk #[108,101,97]))]),(D.str ss1)]) 0)))then
 some [(D.agg [(D.int (qint (qfld sd0 0))),(D.int (qint (qnth (q115 [(D.str (qstr (qget sd2 1)))]) 1))),(D.int (qint (qget (D.list [(D.int 16),(D.int 16),(D.int 16),(D.int 17),(D.int 17),(D.int 18),(D.int 18),(D.int 18),(D.int 19)]) (qint (qnth (q113 [(D.list [(D.str (ByteArray.mk #[108,111,97,100,49])),(D.str (ByteArray.mk #[108,111,97,100,50])),(D.str (ByteArray.mk #[108,111,97,100,52])),(D.str (ByteArray.mk #[108,111,97,100,49,115])),(D.str (ByteArray.mk #[108,111,97,100,50,115])),(D.str (ByteArray.mk #[115,116,111,114,101,49])),(D.str (ByteArray.mk #[115,116,111,114,101,50])),(D.str (ByteArray.mk #[115,116,111,114,101,52])),(D.str (ByteArray.mk #[108,101,97]))]),(D.str ss1)]) 0))))),(D.int (qint (qfld sd0 3))),(D.int (qint (qget (D.list [(D.int 1),(D.int 2),(D.int 4),(D.int 1),(D.int 2),(D.int 1),(D.int 2),(D.int 4),(D.int 0)]) (qint (qnth (q113 [(D.list [(D.str (ByteArray.mk #[108,111,97,100,49])),(D.str (ByteArray.mk #[108,111,97,100,50])),(D.str (ByteArray.mk #[108,111,97,100,52])),(D.str (ByteArray.mk #[108,111,97,100,49,115])),(D.str (ByteArray.mk #[108,111,97,100,50,115])),(D.str (ByteArray.mk #[115,116,111,114,101,49])),(D.str (ByteArray.mk #[115,116,111,114,101,50])),(D.str (ByteArray.mk #[115,116,111,114,101,52])),(D.str (ByteArray.mk #[108,101,97]))]),(D.str ss1)]) 0))))),(D.int (qint (qfld sd0 5))),(D.int (qint (qnth (q114 [(D.str (qstr (qget sd2 0)))]) 0))),(D.int (qint (qnth (q115 [(D.str (qstr (qget sd2 1)))]) 0))),(D.int (qint (qfld sd0 8)))]),(D.int (qint (qnth (q115 [(D.str (qstr (qget sd2 1)))]) 2))),(D.bool Bool.true)]
 else
 none
 else
 none
 else
 none
 else
 none
 else
 none
 else
 none
 else
 none
 else
 none
 else
 none
 else
 none
 else
 none
 else
 none
 else
 none
 else
 none:=by kernel_rfl
noncomputable def q72:List D→Option (List D):=veil (F72)
theorem q72_eq:q72=F72:=veil_eq _
noncomputable def tb72:Tb:=Tb.addF tb118_n 72 S72 (q72)
theorem ok_tb72:TbOk env (tb72):=addFunF ok_tb118_n 72 (by kernel_rfl) _ (q72_eq)
def S71:FunS:=⟨[⟨true,(.dat 24)⟩,⟨true, .str⟩,⟨true,(.rows 9)⟩],[],[⟨true,(.tup [(.dat 24), .bool])⟩],[]⟩
noncomputable def F71:List D→Option (List D):=liftX env tb72 60 12 71 S71
theorem F71_eq (sd0:D) (ss1:ByteArray) (sd2:D):F71 [sd0,(D.str ss1),sd2] =
 bif (qsome (q113 [(D.list [(D.str (ByteArray.mk #[110,111,112])),(D.str (ByteArray.mk #[104,97,108,116])),(D.str (ByteArray.mk #[114,101,116]))]),(D.str ss1)]))then
 bif (qiteB (qcmp BinOp.geq (qint (qnth (q113 [(D.list [(D.str (ByteArray.mk #[110,111,112])),(D.str (ByteArray.mk #[104,97,108,116])),(D.str (ByteArray.mk #[114,101,116]))]),(D.str ss1)]) 0)) 0) (qcmp BinOp.eql (qlen sd2) 0) Bool.false)then
 some [(D.agg [(D.int (qint (qfld sd0 0))),(D.int (qint (qfld sd0 1))),(D.int (qbin BinOp.add IntKind.i64 0 (qint (qnth (q113 [(D.list [(D.str (ByteArray.mk #[110,111,112])),(D.str (ByteArray.mk #[104,97,108,116])),(D.str (ByteArray.mk #[114,101,116]))]),(D.str ss1)]) 0)))),(D.int (qint (qfld sd0 3))),(D.int (qint (qfld sd0 4))),(D.int (qint (qfld sd0 5))),(D.int (qint (qfld sd0 6))),(D.int (qint (qfld sd0 7))),(D.int (qint (qfld sd0 8)))]),(D.bool Bool.true)]
 else
 bif (qsome (q113 [(D.list [(D.str (ByteArray.mk #[112,117,115,104])),(D.str (ByteArray.mk #[112,111,112])),(D.str (ByteArray.mk #[106,117,109,112,114])),(D.str (ByteArray.mk #[99,97,108,108,114])),(D.str (ByteArray.mk #[105,110])),(D.str (ByteArray.mk #[111,117,116]))]),(D.str ss1)]))then
 bif (qiteB (qcmp BinOp.gtr (qlenS ss1) 3) (qand (qcmp BinOp.leq 0 0) (qand (qcmp BinOp.leq 0 3) (qcmp BinOp.leq 3 (qlenS ss1)))) Bool.true)then
 bif (qiteB (qcmp BinOp.gtr (qlenS ss1) 3) (qcmpS BinOp.eql (qsubS ss1 0 3) (ByteArray.mk #[115,101,116])) Bool.false)then
 bif (qsome (q35 []))then
 bif (qcmp BinOp.leq 0 3)then
 bif (qcmp BinOp.leq 3 (qlenS ss1))then
 bif (qcmp BinOp.leq (qlenS ss1) (qlenS ss1))then
 bif (qsome (q113 [(qnth (q35 []) 0),(D.str (qsubS ss1 3 (qlenS ss1)))]))then
 bif (qcmp BinOp.geq (qint (qnth (q113 [(qnth (q35 []) 0),(D.str (qsubS ss1 3 (qlenS ss1)))]) 0)) 0)then
 bif (qcmp BinOp.neq (qlen sd2) 1)then
 some [(D.agg [(D.int 0),(D.int 0),(D.int 0),(D.int 0),(D.int 0),(D.int 0),(D.int 0),(D.int 0),(D.int 0)]),(D.bool Bool.false)]
 else
 bif (qinb sd2 0)then
 bif (qsome (q114 [(D.str (qstr (qget sd2 0)))]))then
 some [(D.agg [(D.int (qint (qfld sd0 0))),(D.int (qint (qfld sd0 1))),(D.int 25),(D.int (qint (qfld sd0 3))),(D.int (qint (qfld sd0 4))),(D.int (qint (qnth (q113 [(qnth (q35 []) 0),(D.str (qsubS ss1 3 (qlenS ss1)))]) 0))),(D.int (qint (qnth (q114 [(D.str (qstr (qget sd2 0)))]) 0))),(D.int (qint (qfld sd0 7))),(D.int (qint (qfld sd0 8)))]),(D.bool (qbool (qnth (q114 [(D.str (qstr (qget sd2 0)))]) 1)))]
 else
 none
 else
 none
 else
 bif (qiteB (qcmp BinOp.lss (qint (qnth (q113 [(D.list [(D.str (ByteArray.mk #[112,117,115,104])),(D.str (ByteArray.mk #[112,111,112])),(D.str (ByteArray.mk #[106,117,109,112,114])),(D.str (ByteArray.mk #[99,97,108,108,114])),(D.str (ByteArray.mk #[105,110])),(D.str (ByteArray.mk #[111,117,116]))]),(D.str ss1)]) 0)) 0) Bool.true (qcmp BinOp.neq (qlen sd2) 1))then
 some [(D.agg [(D.int 0),(D.int 0),(D.int 0),(D.int 0),(D.int 0),(D.int 0),(D.int 0),(D.int 0),(D.int 0)]),(D.bool Bool.false)]
 else
 bif (qinb sd2 0)then
 bif (qsome (q114 [(D.str (qstr (qget sd2 0)))]))then
 bif (qcmp BinOp.leq 0 (qint (qnth (q113 [(D.list [(D.str (ByteArray.mk #[112,117,115,104])),(D.str (ByteArray.mk #[112,111,112])),(D.str (ByteArray.mk #[106,117,109,112,114])),(D.str (ByteArray.mk #[99,97,108,108,114])),(D.str (ByteArray.mk #[105,110])),(D.str (ByteArray.mk #[111,117,116]))]),(D.str ss1)]) 0)))then
 bif (qcmp BinOp.lss (qint (qnth (q113 [(D.list [(D.str (ByteArray.mk #[112,117,115,104])),(D.str (ByteArray.mk #[112,111,112])),(D.str (ByteArray.mk #[106,117,109,112,114])),(D.str (ByteArray.mk #[99,97,108,108,114])),(D.str (ByteArray.mk #[105,110])),(D.str (ByteArray.mk #[111,117,116]))]),(D.str ss1)]) 0)) 7)then
 bif (qinb (D.list [(D.int 3),(D.int 4),(D.int 21),(D.int 24),(D.int 26),(D.int 27),(D.int 25)]) (qint (qnth (q113 [(D.list [(D.str (ByteArray.mk #[112,117,115,104])),(D.str (ByteArray.mk #[112,111,112])),(D.str (ByteArray.mk #[106,117,109,112,114])),(D.str (ByteArray.mk #[99,97,108,108,114])),(D.str (ByteArray.mk #[105,110])),(D.str (ByteArray.mk #[111,117,116]))]),(D.str ss1)]) 0)))then
 some [(D.agg [(D.int (qint (qfld sd0 0))),(D.int (qint (qfld sd0 1))),(D.int (qint (qget (D.list [(D.int 3),(D.int 4),(D.int 21),(D.int 24),(D.int 26),(D.int 27),(D.int 25)]) (qint (qnth (q113 [(D.list [(D.str (ByteArray.mk #[112,117,115,104])),(D.str (ByteArray.mk #[112,111,112])),(D.str (ByteArray.mk #[106,117,109,112,114])),(D.str (ByteArray.mk #[99,97,108,108,114])),(D.str (ByteArray.mk #[105,110])),(D.str (ByteArray.mk #[111,117,116]))]),(D.str ss1)]) 0))))),(D.int (qint (qfld sd0 3))),(D.int (qint (qfld sd0 4))),(D.int (qint (qnth (q113 [(qnth (q35 []) 0),(D.str (qsubS ss1 3 (qlenS ss1)))]) 0))),(D.int (qint (qnth (q114 [(D.str (qstr (qget sd2 0)))]) 0))),(D.int (qint (qfld sd0 7))),(D.int (qint (qfld sd0 8)))]),(D.bool (qbool (qnth (q114 [(D.str (qstr (qget sd2 0)))]) 1)))]
 else
 none
 else
 none
 else
 none
 else
 none
 else
 none
 else
 none
 else
 none
 else
 none
 else
 none
 else
 none
 else
 bif (qiteB (qcmp BinOp.lss (qint (qnth (q113 [(D.list [(D.str (ByteArray.mk #[112,117,115,104])),(D.str (ByteArray.mk #[112,111,112])),(D.str (ByteArray.mk #[106,117,109,112,114])),(D.str (ByteArray.mk #[99,97,108,108,114])),(D.str (ByteArray.mk #[105,110])),(D.str (ByteArray.mk #[111,117,116]))]),(D.str ss1)]) 0)) 0) Bool.true (qcmp BinOp.neq (qlen sd2) 1))then
 some [(D.agg [(D.int 0),(D.int 0),(D.int 0),(D.int 0),(D.int 0),(D.int 0),(D.int 0),(D.int 0),(D.int 0)]),(D.bool Bool.false)]
 else
 bif (qinb sd2 0)then
 bif (qsome (q114 [(D.str (qstr (qget sd2 0)))]))then
 bif (qcmp BinOp.leq 0 (qint (qnth (q113 [(D.list [(D.str (ByteArray.mk #[112,117,115,104])),(D.str (ByteArray.mk #[112,111,112])),(D.str (ByteArray.mk #[106,117,109,112,114])),(D.str (ByteArray.mk #[99,97,108,108,114])),(D.str (ByteArray.mk #[105,110])),(D.str (ByteArray.mk #[111,117,116]))]),(D.str ss1)]) 0)))then
 bif (qcmp BinOp.lss (qint (qnth (q113 [(D.list [(D.str (ByteArray.mk #[112,117,115,104])),(D.str (ByteArray.mk #[112,111,112])),(D.str (ByteArray.mk #[106,117,109,112,114])),(D.str (ByteArray.mk #[99,97,108,108,114])),(D.str (ByteArray.mk #[105,110])),(D.str (ByteArray.mk #[111,117,116]))]),(D.str ss1)]) 0)) 7)then
 bif (qinb (D.list [(D.int 3),(D.int 4),(D.int 21),(D.int 24),(D.int 26),(D.int 27),(D.int 25)]) (qint (qnth (q113 [(D.list [(D.str (ByteArray.mk #[112,117,115,104])),(D.str (ByteArray.mk #[112,111,112])),(D.str (ByteArray.mk #[106,117,109,112,114])),(D.str (ByteArray.mk #[99,97,108,108,114])),(D.str (ByteArray.mk #[105,110])),(D.str (ByteArray.mk #[111,117,116]))]),(D.str ss1)]) 0)))then
 some [(D.agg [(D.int (qint (qfld sd0 0))),(D.int (qint (qfld sd0 1))),(D.int (qint (qget (D.list [(D.int 3),(D.int 4),(D.int 21),(D.int 24),(D.int 26),(D.int 27),(D.int 25)]) (qint (qnth (q113 [(D.list [(D.str (ByteArray.mk #[112,117,115,104])),(D.str (ByteArray.mk #[112,111,112])),(D.str (ByteArray.mk #[106,117,109,112,114])),(D.str (ByteArray.mk #[99,97,108,108,114])),(D.str (ByteArray.mk #[105,110])),(D.str (ByteArray.mk #[111,117,116]))]),(D.str ss1)]) 0))))),(D.int (qint (qfld sd0 3))),(D.int (qint (qfld sd0 4))),(D.int (qint (qfld sd0 5))),(D.int (qint (qnth (q114 [(D.str (qstr (qget sd2 0)))]) 0))),(D.int (qint (qfld sd0 7))),(D.int (qint (qfld sd0 8)))]),(D.bool (qbool (qnth (q114 [(D.str (qstr (qget sd2 0)))]) 1)))]
 else
 none
 else
 none
 else
 none
 else
 none
 else
 none
 else
 none
 else
 none
 else
 none:=by kernel_rfl
noncomputable def q71:List D→Option (List D):=veil (F71)
theorem q71_eq:q71=F71:=veil_eq _
noncomputable def tb71:Tb:=Tb.addF tb72 71 S71 (q71)
theorem ok_tb71:TbOk env (tb71):=addFunF ok_tb72 71 (by kernel_rfl) _ (q71_eq)
def S117:FunS:=⟨[⟨true, .str⟩],[],[⟨true,(.int .i64)⟩],[]⟩
noncomputable def F117:List D→Option (List D):=liftX env tb71 60 12 117 S117
theorem F117_eq (ss0:ByteArray):F117 [(D.str ss0)] =
 bif (qcmpS BinOp.eql ss0 (ByteArray.mk #[106,109,112]))then
 some [(D.int 0)]
 else
 bif (qiteB (qcmp BinOp.lss (qlenS ss0) 2) Bool.true (qinbS ss0 0))then
 bif (qiteB (qcmp BinOp.lss (qlenS ss0) 2) Bool.true (qcmp BinOp.neq (qidxS ss0 0) 106))then
 some [(D.int (-1))]
 else
 bif (qsome (q35 []))then
 bif (qcmp BinOp.leq 0 1)then
 bif (qcmp BinOp.leq 1 (qlenS ss0))then
 bif (qcmp BinOp.leq (qlenS ss0) (qlenS ss0))then
 bif (qsome (q113 [(qnth (q35 []) 0),(D.str (qsubS ss0 1 (qlenS ss0)))]))then
 bif (qcmp BinOp.eql (qint (qnth (q113 [(qnth (q35 []) 0),(D.str (qsubS ss0 1 (qlenS ss0)))]) 0)) 0)then
 some [(D.int (-1))]
 else
 some [(D.int (qint (qnth (q113 [(qnth (q35 []) 0),(D.str (qsubS ss0 1 (qlenS ss0)))]) 0)))]
 else
 none
 else
 none
 else
 none
 else
 none
 else
 none
 else
 none:=by kernel_rfl
noncomputable def q117:List D→Option (List D):=veil (F117)
theorem q117_eq:q117=F117:=veil_eq _
noncomputable def tb117:Tb:=Tb.addF tb71 117 S117 (q117)
theorem ok_tb117:TbOk env (tb117):=addFunF ok_tb71 117 (by kernel_rfl) _ (q117_eq)
def S73_n:FunS:=⟨[⟨true,(.dat 24)⟩,⟨true, .str⟩,⟨true,(.rows 9)⟩,⟨true,(.lit (.slice none 0 0))⟩,⟨true,(.lit (.int .i64 0))⟩],[],[⟨true,(.tup [(.dat 24),(.int .i64)])⟩],[]⟩
noncomputable def F73_n:List D→Option (List D):=liftX env tb117 60 12 73 S73_n
theorem F73_n_eq (sd0:D) (ss1:ByteArray) (sd2:D):F73_n [sd0,(D.str ss1),sd2] =
 bif (qiteB (qcmp BinOp.gtr (qlenS ss1) 2) (qand (qcmp BinOp.leq 0 (qbin BinOp.sub IntKind.i64 (qlenS ss1) 2)) (qand (qcmp BinOp.leq (qbin BinOp.sub IntKind.i64 (qlenS ss1) 2) (qlenS ss1)) (qcmp BinOp.leq (qlenS ss1) (qlenS ss1)))) Bool.true)then
 bif (qiteB (qiteB (qcmp BinOp.gtr (qlenS ss1) 2) (qcmpS BinOp.eql (qsubS ss1 (qbin BinOp.sub IntKind.i64 (qlenS ss1) 2) (qlenS ss1)) (ByteArray.mk #[46,119])) Bool.false) (qand (qcmp BinOp.leq 0 0) (qand (qcmp BinOp.leq 0 (qbin BinOp.sub IntKind.i64 (qlenS ss1) 2)) (qcmp BinOp.leq (qbin BinOp.sub IntKind.i64 (qlenS ss1) 2) (qlenS ss1)))) Bool.true)then
 bif (qsome (q57 []))then
 bif (qsome (q113 [(qnth (q57 []) 0),(D.str (qiteS (qiteB (qcmp BinOp.gtr (qlenS ss1) 2) (qcmpS BinOp.eql (qsubS ss1 (qbin BinOp.sub IntKind.i64 (qlenS ss1) 2) (qlenS ss1)) (ByteArray.mk #[46,119])) Bool.false) (qsubS ss1 0 (qbin BinOp.sub IntKind.i64 (qlenS ss1) 2)) ss1))]))then
 bif (qiteB (qcmp BinOp.geq (qint (qnth (q113 [(qnth (q57 []) 0),(D.str (qiteS (qiteB (qcmp BinOp.gtr (qlenS ss1) 2) (qcmpS BinOp.eql (qsubS ss1 (qbin BinOp.sub IntKind.i64 (qlenS ss1) 2) (qlenS ss1)) (ByteArray.mk #[46,119])) Bool.false) (qsubS ss1 0 (qbin BinOp.sub IntKind.i64 (qlenS ss1) 2)) ss1))]) 0)) 0) (qcmp BinOp.eql (qlen sd2) 2) Bool.false)then
 bif (qinb sd2 0)then
 bif (qsome (q114 [(D.str (qstr (qget sd2 0)))]))then
 bif (qnot (qbool (qnth (q114 [(D.str (qstr (qget sd2 0)))]) 1)))then
 some [(D.agg [(D.int 0),(D.int 0),(D.int 0),(D.int 0),(D.int 0),(D.int 0),(D.int 0),(D.int 0),(D.int 0)]),(D.int 3)]
 else
 bif (qinb sd2 1)then
 bif (qsome (q116_n [(D.agg [(D.int (qint (qfld sd0 0))),(D.int (qint (qfld sd0 1))),(D.int (qbin BinOp.add IntKind.i64 5 (qint (qnth (q113 [(qnth (q57 []) 0),(D.str (qiteS (qiteB (qcmp BinOp.gtr (qlenS ss1) 2) (qcmpS BinOp.eql (qsubS ss1 (qbin BinOp.sub IntKind.i64 (qlenS ss1) 2) (qlenS ss1)) (ByteArray.mk #[46,119])) Bool.false) (qsubS ss1 0 (qbin BinOp.sub IntKind.i64 (qlenS ss1) 2)) ss1))]) 0)))),(D.int (qint (qfld sd0 3))),(D.int (qint (qfld sd0 4))),(D.int (qint (qfld sd0 5))),(D.int (qint (qnth (q114 [(D.str (qstr (qget sd2 0)))]) 0))),(D.int (qint (qfld sd0 7))),(D.int (qint (qfld sd0 8)))]),(D.bool (qiteB (qcmp BinOp.gtr (qlenS ss1) 2) (qcmpS BinOp.eql (qsubS ss1 (qbin BinOp.sub IntKind.i64 (qlenS ss1) 2) (qlenS ss1)) (ByteArray.mk #[46,119])) Bool.false)),(D.str (qstr (qget sd2 1)))]))then
 some [(qnth (q116_n [(D.agg [(D.int (qint (qfld sd0 0))),(D.int (qint (qfld sd0 1))),(D.int (qbin BinOp.add IntKind.i64 5 (qint (qnth (q113 [(qnth (q57 []) 0),(D.str (qiteS (qiteB (qcmp BinOp.gtr (qlenS ss1) 2) (qcmpS BinOp.eql (qsubS ss1 (qbin BinOp.sub IntKind.i64 (qlenS ss1) 2) (qlenS ss1)) (ByteArray.mk #[46,119])) Bool.false) (qsubS ss1 0 (qbin BinOp.sub IntKind.i64 (qlenS ss1) 2)) ss1))]) 0)))),(D.int (qint (qfld sd0 3))),(D.int (qint (qfld sd0 4))),(D.int (qint (qfld sd0 5))),(D.int (qint (qnth (q114 [(D.str (qstr (qget sd2 0)))]) 0))),(D.int (qint (qfld sd0 7))),(D.int (qint (qfld sd0 8)))]),(D.bool (qiteB (qcmp BinOp.gtr (qlenS ss1) 2) (qcmpS BinOp.eql (qsubS ss1 (qbin BinOp.sub IntKind.i64 (qlenS ss1) 2) (qlenS ss1)) (ByteArray.mk #[46,119])) Bool.false)),(D.str (qstr (qget sd2 1)))]) 0),(D.int (qint (qnth (q116_n [(D.agg [(D.int (qint (qfld sd0 0))),(D.int (qint (qfld sd0 1))),(D.int (qbin BinOp.add IntKind.i64 5 (qint (qnth (q113 [(qnth (q57 []) 0),(D.str (qiteS (qiteB (qcmp BinOp.gtr (qlenS ss1) 2) (qcmpS BinOp.eql (qsubS ss1 (qbin BinOp.sub IntKind.i64 (qlenS ss1) 2) (qlenS ss1)) (ByteArray.mk #[46,119])) Bool.false) (qsubS ss1 0 (qbin BinOp.sub IntKind.i64 (qlenS ss1) 2)) ss1))]) 0)))),(D.int (qint (qfld sd0 3))),(D.int (qint (qfld sd0 4))),(D.int (qint (qfld sd0 5))),(D.int (qint (qnth (q114 [(D.str (qstr (qget sd2 0)))]) 0))),(D.int (qint (qfld sd0 7))),(D.int (qint (qfld sd0 8)))]),(D.bool (qiteB (qcmp BinOp.gtr (qlenS ss1) 2) (qcmpS BinOp.eql (qsubS ss1 (qbin BinOp.sub IntKind.i64 (qlenS ss1) 2) (qlenS ss1)) (ByteArray.mk #[46,119])) Bool.false)),(D.str (qstr (qget sd2 1)))]) 1)))]
 else
 none
 else
 none
 else
 none
 else
 none
 else
 bif (qsome (q117 [(D.str (qiteS (qiteB (qcmp BinOp.gtr (qlenS ss1) 2) (qcmpS BinOp.eql (qsubS ss1 (qbin BinOp.sub IntKind.i64 (qlenS ss1) 2) (qlenS ss1)) (ByteArray.mk #[46,119])) Bool.false) (qsubS ss1 0 (qbin BinOp.sub IntKind.i64 (qlenS ss1) 2)) ss1))]))then
 bif (qiteB (qcmp BinOp.geq (qint (qnth (q117 [(D.str (qiteS (qiteB (qcmp BinOp.gtr (qlenS ss1) 2) (qcmpS BinOp.eql (qsubS ss1 (qbin BinOp.sub IntKind.i64 (qlenS ss1) 2) (qlenS ss1)) (ByteArray.mk #[46,119])) Bool.false) (qsubS ss1 0 (qbin BinOp.sub IntKind.i64 (qlenS ss1) 2)) ss1))]) 0)) 0) (qcmp BinOp.eql (qlen sd2) 1) Bool.false)then
 bif (qinb sd2 0)then
 bif (qsome (q118_n [(D.agg [(D.int (qint (qfld sd0 0))),(D.int (qint (qfld sd0 1))),(D.int (qint (qfld sd0 2))),(D.int (qint (qfld sd0 3))),(D.int (qint (qfld sd0 4))),(D.int (qint (qnth (q117 [(D.str (qiteS (qiteB (qcmp BinOp.gtr (qlenS ss1) 2) (qcmpS BinOp.eql (qsubS ss1 (qbin BinOp.sub IntKind.i64 (qlenS ss1) 2) (qlenS ss1)) (ByteArray.mk #[46,119])) Bool.false) (qsubS ss1 0 (qbin BinOp.sub IntKind.i64 (qlenS ss1) 2)) ss1))]) 0))),(D.int (qint (qfld sd0 6))),(D.int (qint (qfld sd0 7))),(D.int (qint (qfld sd0 8)))]),(D.bool (qiteB (qcmp BinOp.gtr (qlenS ss1) 2) (qcmpS BinOp.eql (qsubS ss1 (qbin BinOp.sub IntKind.i64 (qlenS ss1) 2) (qlenS ss1)) (ByteArray.mk #[46,119])) Bool.false)),(D.str (qstr (qget sd2 0)))]))then
 some [(qnth (q118_n [(D.agg [(D.int (qint (qfld sd0 0))),(D.int (qint (qfld sd0 1))),(D.int (qint (qfld sd0 2))),(D.int (qint (qfld sd0 3))),(D.int (qint (qfld sd0 4))),(D.int (qint (qnth (q117 [(D.str (qiteS (qiteB (qcmp BinOp.gtr (qlenS ss1) 2) (qcmpS BinOp.eql (qsubS ss1 (qbin BinOp.sub IntKind.i64 (qlenS ss1) 2) (qlenS ss1)) (ByteArray.mk #[46,119])) Bool.false) (qsubS ss1 0 (qbin BinOp.sub IntKind.i64 (qlenS ss1) 2)) ss1))]) 0))),(D.int (qint (qfld sd0 6))),(D.int (qint (qfld sd0 7))),(D.int (qint (qfld sd0 8)))]),(D.bool (qiteB (qcmp BinOp.gtr (qlenS ss1) 2) (qcmpS BinOp.eql (qsubS ss1 (qbin BinOp.sub IntKind.i64 (qlenS ss1) 2) (qlenS ss1)) (ByteArray.mk #[46,119])) Bool.false)),(D.str (qstr (qget sd2 0)))]) 0),(D.int (qint (qnth (q118_n [(D.agg [(D.int (qint (qfld sd0 0))),(D.int (qint (qfld sd0 1))),(D.int (qint (qfld sd0 2))),(D.int (qint (qfld sd0 3))),(D.int (qint (qfld sd0 4))),(D.int (qint (qnth (q117 [(D.str (qiteS (qiteB (qcmp BinOp.gtr (qlenS ss1) 2) (qcmpS BinOp.eql (qsubS ss1 (qbin BinOp.sub IntKind.i64 (qlenS ss1) 2) (qlenS ss1)) (ByteArray.mk #[46,119])) Bool.false) (qsubS ss1 0 (qbin BinOp.sub IntKind.i64 (qlenS ss1) 2)) ss1))]) 0))),(D.int (qint (qfld sd0 6))),(D.int (qint (qfld sd0 7))),(D.int (qint (qfld sd0 8)))]),(D.bool (qiteB (qcmp BinOp.gtr (qlenS ss1) 2) (qcmpS BinOp.eql (qsubS ss1 (qbin BinOp.sub IntKind.i64 (qlenS ss1) 2) (qlenS ss1)) (ByteArray.mk #[46,119])) Bool.false)),(D.str (qstr (qget sd2 0)))]) 1)))]
 else
 none
 else
 none
 else
 bif (qiteB (qiteB (qcmpS BinOp.eql (qiteS (qiteB (qcmp BinOp.gtr (qlenS ss1) 2) (qcmpS BinOp.eql (qsubS ss1 (qbin BinOp.sub IntKind.i64 (qlenS ss1) 2) (qlenS ss1)) (ByteArray.mk #[46,119])) Bool.false) (qsubS ss1 0 (qbin BinOp.sub IntKind.i64 (qlenS ss1) 2)) ss1) (ByteArray.mk #[99,97,108,108])) (qnot (qiteB (qcmp BinOp.gtr (qlenS ss1) 2) (qcmpS BinOp.eql (qsubS ss1 (qbin BinOp.sub IntKind.i64 (qlenS ss1) 2) (qlenS ss1)) (ByteArray.mk #[46,119])) Bool.false)) Bool.false) (qcmp BinOp.eql (qlen sd2) 1) Bool.false)then
 bif (qinb sd2 0)then
 bif (qsome (q77_n [(D.str (qstr (qget sd2 0)))]))then
 some [(D.agg [(D.int (qint (qfld sd0 0))),(D.int (qint (qnth (q77_n [(D.str (qstr (qget sd2 0)))]) 0))),(D.int 23),(D.int (qint (qfld sd0 3))),(D.int (qint (qfld sd0 4))),(D.int (qint (qfld sd0 5))),(D.int (qint (qfld sd0 6))),(D.int (qint (qfld sd0 7))),(D.int (qint (qfld sd0 8)))]),(D.int (qint (qnth (q77_n [(D.str (qstr (qget sd2 0)))]) 2)))]
 else
 none
 else
 none
 else
 bif (qiteB (qiteB (qcmpS BinOp.eql (qiteS (qiteB (qcmp BinOp.gtr (qlenS ss1) 2) (qcmpS BinOp.eql (qsubS ss1 (qbin BinOp.sub IntKind.i64 (qlenS ss1) 2) (qlenS ss1)) (ByteArray.mk #[46,119])) Bool.false) (qsubS ss1 0 (qbin BinOp.sub IntKind.i64 (qlenS ss1) 2)) ss1) (ByteArray.mk #[106,117,109,112,116])) (qnot (qiteB (qcmp BinOp.gtr (qlenS ss1) 2) (qcmpS BinOp.eql (qsubS ss1 (qbin BinOp.sub IntKind.i64 (qlenS ss1) 2) (qlenS ss1)) (ByteArray.mk #[46,119])) Bool.false)) Bool.false) (qcmp BinOp.eql (qlen sd2) 2) Bool.false)then
 bif (qinb sd2 0)then
 bif (qsome (q114 [(D.str (qstr (qget sd2 0)))]))then
 bif (qnot (qbool (qnth (q114 [(D.str (qstr (qget sd2 0)))]) 1)))then
 some [(D.agg [(D.int 0),(D.int 0),(D.int 0),(D.int 0),(D.int 0),(D.int 0),(D.int 0),(D.int 0),(D.int 0)]),(D.int 3)]
 else
 bif (qinb sd2 1)then
 bif (qsome (q77_n [(D.str (qstr (qget sd2 1)))]))then
 some [(D.agg [(D.int (qint (qfld sd0 0))),(D.int (qint (qnth (q77_n [(D.str (qstr (qget sd2 1)))]) 0))),(D.int 22),(D.int (qint (qfld sd0 3))),(D.int (qint (qfld sd0 4))),(D.int (qint (qfld sd0 5))),(D.int (qint (qnth (q114 [(D.str (qstr (qget sd2 0)))]) 0))),(D.int (qint (qfld sd0 7))),(D.int (qint (qfld sd0 8)))]),(D.int (qint (qnth (q77_n [(D.str (qstr (qget sd2 1)))]) 2)))]
 else
 none
 else
 none
 else
 none
 else
 none
 else
 some [(D.agg [(D.int 0),(D.int 0),(D.int 0),(D.int 0),(D.int 0),(D.int 0),(D.int 0),(D.int 0),(D.int 0)]),(D.int 3)]
 else
 none
 else
 none
 else
 none
 else
 none
 else
 none:=by kernel_rfl
noncomputable def q73_n:List D→Option (List D):=veil (F73_n)
theorem q73_n_eq:q73_n=F73_n:=veil_eq _
noncomputable def tb73_n:Tb:=Tb.addF tb117 73 S73_n (q73_n)
theorem ok_tb73_n:TbOk env (tb73_n):=addFunF ok_tb117 73 (by kernel_rfl) _ (q73_n_eq)
def S39_n:FunS:=⟨[⟨true, .str⟩,⟨true,(.int .u32)⟩,⟨true,(.lit (.slice none 0 0))⟩,⟨true,(.lit (.int .i64 0))⟩],[],[⟨true,(.tup [(.dat 24),(.int .i64)])⟩],[]⟩
noncomputable def F39_n:List D→Option (List D):=liftX env tb73_n 60 12 39 S39_n
theorem F39_n_eq (ss0:ByteArray) (sn1:Int):F39_n [(D.str ss0),(D.int sn1)] =
 bif (qsome (q70 [(D.str ss0)]))then
 bif (qsome (q71 [(D.agg [(D.int sn1),(D.int 0),(D.int 0),(D.int 0),(D.int 0),(D.int 0),(D.int 0),(D.int 0),(D.int 0)]),(D.str (qstr (qnth (q70 [(D.str ss0)]) 0))),(qnth (q70 [(D.str ss0)]) 1)]))then
 bif (qnot (qbool (qnth (q71 [(D.agg [(D.int sn1),(D.int 0),(D.int 0),(D.int 0),(D.int 0),(D.int 0),(D.int 0),(D.int 0),(D.int 0)]),(D.str (qstr (qnth (q70 [(D.str ss0)]) 0))),(qnth (q70 [(D.str ss0)]) 1)]) 1)))then
 bif (qsome (q72 [(D.agg [(D.int sn1),(D.int 0),(D.int 0),(D.int 0),(D.int 0),(D.int 0),(D.int 0),(D.int 0),(D.int 0)]),(D.str (qstr (qnth (q70 [(D.str ss0)]) 0))),(qnth (q70 [(D.str ss0)]) 1)]))then
 bif (qnot (qbool (qnth (q72 [(D.agg [(D.int sn1),(D.int 0),(D.int 0),(D.int 0),(D.int 0),(D.int 0),(D.int 0),(D.int 0),(D.int 0)]),(D.str (qstr (qnth (q70 [(D.str ss0)]) 0))),(qnth (q70 [(D.str ss0)]) 1)]) 2)))then
 bif (qsome (q73_n [(D.agg [(D.int sn1),(D.int 0),(D.int 0),(D.int 0),(D.int 0),(D.int 0),(D.int 0),(D.int 0),(D.int 0)]),(D.str (qstr (qnth (q70 [(D.str ss0)]) 0))),(qnth (q70 [(D.str ss0)]) 1)]))then
 bif (qcmp BinOp.neq (qint (qnth (q73_n [(D.agg [(D.int sn1),(D.int 0),(D.int 0),(D.int 0),(D.int 0),(D.int 0),(D.int 0),(D.int 0),(D.int 0)]),(D.str (qstr (qnth (q70 [(D.str ss0)]) 0))),(qnth (q70 [(D.str ss0)]) 1)]) 1)) 0)then
 some [(D.agg [(D.int 0),(D.int 0),(D.int 0),(D.int 0),(D.int 0),(D.int 0),(D.int 0),(D.int 0),(D.int 0)]),(D.int (qint (qnth (q73_n [(D.agg [(D.int sn1),(D.int 0),(D.int 0),(D.int 0),(D.int 0),(D.int 0),(D.int 0),(D.int 0),(D.int 0)]),(D.str (qstr (qnth (q70 [(D.str ss0)]) 0))),(qnth (q70 [(D.str ss0)]) 1)]) 1)))]
 else
 bif (qsome (q74 [(qnth (q73_n [(D.agg [(D.int sn1),(D.int 0),(D.int 0),(D.int 0),(D.int 0),(D.int 0),(D.int 0),(D.int 0),(D.int 0)]),(D.str (qstr (qnth (q70 [(D.str ss0)]) 0))),(qnth (q70 [(D.str ss0)]) 1)]) 0)]))then
 some [(D.agg [(D.int (qint (qfld (qnth (q73_n [(D.agg [(D.int sn1),(D.int 0),(D.int 0),(D.int 0),(D.int 0),(D.int 0),(D.int 0),(D.int 0),(D.int 0)]),(D.str (qstr (qnth (q70 [(D.str ss0)]) 0))),(qnth (q70 [(D.str ss0)]) 1)]) 0) 0))),(D.int (qint (qfld (qnth (q73_n [(D.agg [(D.int sn1),(D.int 0),(D.int 0),(D.int 0),(D.int 0),(D.int 0),(D.int 0),(D.int 0),(D.int 0)]),(D.str (qstr (qnth (q70 [(D.str ss0)]) 0))),(qnth (q70 [(D.str ss0)]) 1)]) 0) 1))),(D.int (qint (qfld (qnth (q73_n [(D.agg [(D.int sn1),(D.int 0),(D.int 0),(D.int 0),(D.int 0),(D.int 0),(D.int 0),(D.int 0),(D.int 0)]),(D.str (qstr (qnth (q70 [(D.str ss0)]) 0))),(qnth (q70 [(D.str ss0)]) 1)]) 0) 2))),(D.int (qint (qfld (qnth (q73_n [(D.agg [(D.int sn1),(D.int 0),(D.int 0),(D.int 0),(D.int 0),(D.int 0),(D.int 0),(D.int 0),(D.int 0)]),(D.str (qstr (qnth (q70 [(D.str ss0)]) 0))),(qnth (q70 [(D.str ss0)]) 1)]) 0) 3))),(D.int (qint (qfld (qnth (q73_n [(D.agg [(D.int sn1),(D.int 0),(D.int 0),(D.int 0),(D.int 0),(D.int 0),(D.int 0),(D.int 0),(D.int 0)]),(D.str (qstr (qnth (q70 [(D.str ss0)]) 0))),(qnth (q70 [(D.str ss0)]) 1)]) 0) 4))),(D.int (qint (qfld (qnth (q73_n [(D.agg [(D.int sn1),(D.int 0),(D.int 0),(D.int 0),(D.int 0),(D.int 0),(D.int 0),(D.int 0),(D.int 0)]),(D.str (qstr (qnth (q70 [(D.str ss0)]) 0))),(qnth (q70 [(D.str ss0)]) 1)]) 0) 5))),(D.int (qint (qfld (qnth (q73_n [(D.agg [(D.int sn1),(D.int 0),(D.int 0),(D.int 0),(D.int 0),(D.int 0),(D.int 0),(D.int 0),(D.int 0)]),(D.str (qstr (qnth (q70 [(D.str ss0)]) 0))),(qnth (q70 [(D.str ss0)]) 1)]) 0) 6))),(D.int (qint (qfld (qnth (q73_n [(D.agg [(D.int sn1),(D.int 0),(D.int 0),(D.int 0),(D.int 0),(D.int 0),(D.int 0),(D.int 0),(D.int 0)]),(D.str (qstr (qnth (q70 [(D.str ss0)]) 0))),(qnth (q70 [(D.str ss0)]) 1)]) 0) 7))),(D.int (qint (qnth (q74 [(qnth (q73_n [(D.agg [(D.int sn1),(D.int 0),(D.int 0),(D.int 0),(D.int 0),(D.int 0),(D.int 0),(D.int 0),(D.int 0)]),(D.str (qstr (qnth (q70 [(D.str ss0)]) 0))),(qnth (q70 [(D.str ss0)]) 1)]) 0)]) 0)))]),(D.int 0)]
 else
 none
 else
 none
 else
 bif (qcmp BinOp.neq (qint (qnth (q72 [(D.agg [(D.int sn1),(D.int 0),(D.int 0),(D.int 0),(D.int 0),(D.int 0),(D.int 0),(D.int 0),(D.int 0)]),(D.str (qstr (qnth (q70 [(D.str ss0)]) 0))),(qnth (q70 [(D.str ss0)]) 1)]) 1)) 0)then
 some [(D.agg [(D.int 0),(D.int 0),(D.int 0),(D.int 0),(D.int 0),(D.int 0),(D.int 0),(D.int 0),(D.int 0)]),(D.int (qint (qnth (q72 [(D.agg [(D.int sn1),(D.int 0),(D.int 0),(D.int 0),(D.int 0),(D.int 0),(D.int 0),(D.int 0),(D.int 0)]),(D.str (qstr (qnth (q70 [(D.str ss0)]) 0))),(qnth (q70 [(D.str ss0)]) 1)]) 1)))]
 else
 bif (qsome (q74 [(qnth (q72 [(D.agg [(D.int sn1),(D.int 0),(D.int 0),(D.int 0),(D.int 0),(D.int 0),(D.int 0),(D.int 0),(D.int 0)]),(D.str (qstr (qnth (q70 [(D.str ss0)]) 0))),(qnth (q70 [(D.str ss0)]) 1)]) 0)]))then
 some [(D.agg [(D.int (qint (qfld (qnth (q72 [(D.agg [(D.int sn1),(D.int 0),(D.int 0),(D.int 0),(D.int 0),(D.int 0),(D.int 0),(D.int 0),(D.int 0)]),(D.str (qstr (qnth (q70 [(D.str ss0)]) 0))),(qnth (q70 [(D.str ss0)]) 1)]) 0) 0))),(D.int (qint (qfld (qnth (q72 [(D.agg [(D.int sn1),(D.int 0),(D.int 0),(D.int 0),(D.int 0),(D.int 0),(D.int 0),(D.int 0),(D.int 0)]),(D.str (qstr (qnth (q70 [(D.str ss0)]) 0))),(qnth (q70 [(D.str ss0)]) 1)]) 0) 1))),(D.int (qint (qfld (qnth (q72 [(D.agg [(D.int sn1),(D.int 0),(D.int 0),(D.int 0),(D.int 0),(D.int 0),(D.int 0),(D.int 0),(D.int 0)]),(D.str (qstr (qnth (q70 [(D.str ss0)]) 0))),(qnth (q70 [(D.str ss0)]) 1)]) 0) 2))),(D.int (qint (qfld (qnth (q72 [(D.agg [(D.int sn1),(D.int 0),(D.int 0),(D.int 0),(D.int 0),(D.int 0),(D.int 0),(D.int 0),(D.int 0)]),(D.str (qstr (qnth (q70 [(D.str ss0)]) 0))),(qnth (q70 [(D.str ss0)]) 1)]) 0) 3))),(D.int (qint (qfld (qnth (q72 [(D.agg [(D.int sn1),(D.int 0),(D.int 0),(D.int 0),(D.int 0),(D.int 0),(D.int 0),(D.int 0),(D.int 0)]),(D.str (qstr (qnth (q70 [(D.str ss0)]) 0))),(qnth (q70 [(D.str ss0)]) 1)]) 0) 4))),(D.int (qint (qfld (qnth (q72 [(D.agg [(D.int sn1),(D.int 0),(D.int 0),(D.int 0),(D.int 0),(D.int 0),(D.int 0),(D.int 0),(D.int 0)]),(D.str (qstr (qnth (q70 [(D.str ss0)]) 0))),(qnth (q70 [(D.str ss0)]) 1)]) 0) 5))),(D.int (qint (qfld (qnth (q72 [(D.agg [(D.int sn1),(D.int 0),(D.int 0),(D.int 0),(D.int 0),(D.int 0),(D.int 0),(D.int 0),(D.int 0)]),(D.str (qstr (qnth (q70 [(D.str ss0)]) 0))),(qnth (q70 [(D.str ss0)]) 1)]) 0) 6))),(D.int (qint (qfld (qnth (q72 [(D.agg [(D.int sn1),(D.int 0),(D.int 0),(D.int 0),(D.int 0),(D.int 0),(D.int 0),(D.int 0),(D.int 0)]),(D.str (qstr (qnth (q70 [(D.str ss0)]) 0))),(qnth (q70 [(D.str ss0)]) 1)]) 0) 7))),(D.int (qint (qnth (q74 [(qnth (q72 [(D.agg [(D.int sn1),(D.int 0),(D.int 0),(D.int 0),(D.int 0),(D.int 0),(D.int 0),(D.int 0),(D.int 0)]),(D.str (qstr (qnth (q70 [(D.str ss0)]) 0))),(qnth (q70 [(D.str ss0)]) 1)]) 0)]) 0)))]),(D.int 0)]
 else
 none
 else
 none
 else
 bif (qsome (q74 [(qnth (q71 [(D.agg [(D.int sn1),(D.int 0),(D.int 0),(D.int 0),(D.int 0),(D.int 0),(D.int 0),(D.int 0),(D.int 0)]),(D.str (qstr (qnth (q70 [(D.str ss0)]) 0))),(qnth (q70 [(D.str ss0)]) 1)]) 0)]))then
 some [(D.agg [(D.int (qint (qfld (qnth (q71 [(D.agg [(D.int sn1),(D.int 0),(D.int 0),(D.int 0),(D.int 0),(D.int 0),(D.int 0),(D.int 0),(D.int 0)]),(D.str (qstr (qnth (q70 [(D.str ss0)]) 0))),(qnth (q70 [(D.str ss0)]) 1)]) 0) 0))),(D.int (qint (qfld (qnth (q71 [(D.agg [(D.int sn1),(D.int 0),(D.int 0),(D.int 0),(D.int 0),(D.int 0),(D.int 0),(D.int 0),(D.int 0)]),(D.str (qstr (qnth (q70 [(D.str ss0)]) 0))),(qnth (q70 [(D.str ss0)]) 1)]) 0) 1))),(D.int (qint (qfld (qnth (q71 [(D.agg [(D.int sn1),(D.int 0),(D.int 0),(D.int 0),(D.int 0),(D.int 0),(D.int 0),(D.int 0),(D.int 0)]),(D.str (qstr (qnth (q70 [(D.str ss0)]) 0))),(qnth (q70 [(D.str ss0)]) 1)]) 0) 2))),(D.int (qint (qfld (qnth (q71 [(D.agg [(D.int sn1),(D.int 0),(D.int 0),(D.int 0),(D.int 0),(D.int 0),(D.int 0),(D.int 0),(D.int 0)]),(D.str (qstr (qnth (q70 [(D.str ss0)]) 0))),(qnth (q70 [(D.str ss0)]) 1)]) 0) 3))),(D.int (qint (qfld (qnth (q71 [(D.agg [(D.int sn1),(D.int 0),(D.int 0),(D.int 0),(D.int 0),(D.int 0),(D.int 0),(D.int 0),(D.int 0)]),(D.str (qstr (qnth (q70 [(D.str ss0)]) 0))),(qnth (q70 [(D.str ss0)]) 1)]) 0) 4))),(D.int (qint (qfld (qnth (q71 [(D.agg [(D.int sn1),(D.int 0),(D.int 0),(D.int 0),(D.int 0),(D.int 0),(D.int 0),(D.int 0),(D.int 0)]),(D.str (qstr (qnth (q70 [(D.str ss0)]) 0))),(qnth (q70 [(D.str ss0)]) 1)]) 0) 5))),(D.int (qint (qfld (qnth (q71 [(D.agg [(D.int sn1),(D.int 0),(D.int 0),(D.int 0),(D.int 0),(D.int 0),(D.int 0),(D.int 0),(D.int 0)]),(D.str (qstr (qnth (q70 [(D.str ss0)]) 0))),(qnth (q70 [(D.str ss0)]) 1)]) 0) 6))),(D.int (qint (qfld (qnth (q71 [(D.agg [(D.int sn1),(D.int 0),(D.int 0),(D.int 0),(D.int 0),(D.int 0),(D.int 0),(D.int 0),(D.int 0)]),(D.str (qstr (qnth (q70 [(D.str ss0)]) 0))),(qnth (q70 [(D.str ss0)]) 1)]) 0) 7))),(D.int (qint (qnth (q74 [(qnth (q71 [(D.agg [(D.int sn1),(D.int 0),(D.int 0),(D.int 0),(D.int 0),(D.int 0),(D.int 0),(D.int 0),(D.int 0)]),(D.str (qstr (qnth (q70 [(D.str ss0)]) 0))),(qnth (q70 [(D.str ss0)]) 1)]) 0)]) 0)))]),(D.int 0)]
 else
 none
 else
 none
 else
 none:=by kernel_rfl
noncomputable def q39_n:List D→Option (List D):=veil (F39_n)
theorem q39_n_eq:q39_n=F39_n:=veil_eq _
noncomputable def tb39_n:Tb:=Tb.addF tb73_n 39 S39_n (q39_n)
theorem ok_tb39_n:TbOk env (tb39_n):=addFunF ok_tb73_n 39 (by kernel_rfl) _ (q39_n_eq)
def S12:FunS:=⟨[⟨true, .str⟩,⟨true,(.int .u32)⟩],[],[⟨true,(.tup [(.dat 24),(.int .i64)])⟩],[]⟩
noncomputable def F12:List D→Option (List D):=liftX env tb39_n 60 12 12 S12
theorem F12_eq (ss0:ByteArray) (sn1:Int):F12 [(D.str ss0),(D.int sn1)] =
 bif (qsome (q39_n [(D.str ss0),(D.int sn1)]))then
 some [(qnth (q39_n [(D.str ss0),(D.int sn1)]) 0),(D.int (qint (qnth (q39_n [(D.str ss0),(D.int sn1)]) 1)))]
 else
 none:=by kernel_rfl
noncomputable def q12:List D→Option (List D):=veil (F12)
theorem q12_eq:q12=F12:=veil_eq _
noncomputable def tb12:Tb:=Tb.addF tb39_n 12 S12 (q12)
theorem ok_tb12:TbOk env (tb12):=addFunF ok_tb39_n 12 (by kernel_rfl) _ (q12_eq)
end Go.Proofs.YtobhhfbdelnhfaaGreatDoor
open Go Go.AM
namespace Go.Proofs.YtobhhfbdelnhfaaGreatDoor
set_option maxRecDepth 100000
set_option linter.unusedSimpArgs false
set_option linter.unusedVariables false
noncomputable def tb10:Tb:=Tb.addF tb12 10 S10 q10
theorem ok_tb10:TbOk env tb10:=TbOk.addF ok_tb12 (by kernel_rfl) sound10
def S4:FunS:=⟨[⟨true, .str⟩,⟨true,(.int .u32)⟩],[],[⟨true, .bool⟩],[]⟩
noncomputable def F4:List D→Option (List D):=liftX env tb10 60 12 4 S4
theorem F4_eq (ss0:ByteArray) (sn1:Int):F4 [(D.str ss0),(D.int sn1)] =
 bif (qcmp BinOp.gtr (qlenS ss0) 200)then
 bif (qsome (q10 []))then
 some [(D.bool (qbool (qnth (q10 []) 0)))]
 else
 none
 else
 bif (qsome (q11 [(D.str ss0),(D.int sn1)]))then
 bif (qsome (q12 [(D.str ss0),(D.int sn1)]))then
 bif (qiteB (qiteB (qand (qcmp BinOp.eql (qint (qfld (qnth (q11 [(D.str ss0),(D.int sn1)]) 0) 0)) (qint (qfld (qnth (q12 [(D.str ss0),(D.int sn1)]) 0) 0))) (qand (qcmp BinOp.eql (qint (qfld (qnth (q11 [(D.str ss0),(D.int sn1)]) 0) 1)) (qint (qfld (qnth (q12 [(D.str ss0),(D.int sn1)]) 0) 1))) (qand (qcmp BinOp.eql (qint (qfld (qnth (q11 [(D.str ss0),(D.int sn1)]) 0) 2)) (qint (qfld (qnth (q12 [(D.str ss0),(D.int sn1)]) 0) 2))) (qand (qcmp BinOp.eql (qint (qfld (qnth (q11 [(D.str ss0),(D.int sn1)]) 0) 3)) (qint (qfld (qnth (q12 [(D.str ss0),(D.int sn1)]) 0) 3))) (qand (qcmp BinOp.eql (qint (qfld (qnth (q11 [(D.str ss0),(D.int sn1)]) 0) 4)) (qint (qfld (qnth (q12 [(D.str ss0),(D.int sn1)]) 0) 4))) (qand (qcmp BinOp.eql (qint (qfld (qnth (q11 [(D.str ss0),(D.int sn1)]) 0) 5)) (qint (qfld (qnth (q12 [(D.str ss0),(D.int sn1)]) 0) 5))) (qand (qcmp BinOp.eql (qint (qfld (qnth (q11 [(D.str ss0),(D.int sn1)]) 0) 6)) (qint (qfld (qnth (q12 [(D.str ss0),(D.int sn1)]) 0) 6))) (qand (qcmp BinOp.eql (qint (qfld (qnth (q11 [(D.str ss0),(D.int sn1)]) 0) 7)) (qint (qfld (qnth (q12 [(D.str ss0),(D.int sn1)]) 0) 7))) (qcmp BinOp.eql (qint (qfld (qnth (q11 [(D.str ss0),(D.int sn1)]) 0) 8)) (qint (qfld (qnth (q12 [(D.str ss0),(D.int sn1)]) 0) 8))))))))))) (qcmp BinOp.eql (qint (qnth (q11 [(D.str ss0),(D.int sn1)]) 1)) (qint (qnth (q12 [(D.str ss0),(D.int sn1)]) 1))) Bool.false) (qsome (q10 [])) Bool.true)then
 some [(D.bool (qiteB (qiteB (qand (qcmp BinOp.eql (qint (qfld (qnth (q11 [(D.str ss0),(D.int sn1)]) 0) 0)) (qint (qfld (qnth (q12 [(D.str ss0),(D.int sn1)]) 0) 0))) (qand (qcmp BinOp.eql (qint (qfld (qnth (q11 [(D.str ss0),(D.int sn1)]) 0) 1)) (qint (qfld (qnth (q12 [(D.str ss0),(D.int sn1)]) 0) 1))) (qand (qcmp BinOp.eql (qint (qfld (qnth (q11 [(D.str ss0),(D.int sn1)]) 0) 2)) (qint (qfld (qnth (q12 [(D.str ss0),(D.int sn1)]) 0) 2))) (qand (qcmp BinOp.eql (qint (qfld (qnth (q11 [(D.str ss0),(D.int sn1)]) 0) 3)) (qint (qfld (qnth (q12 [(D.str ss0),(D.int sn1)]) 0) 3))) (qand (qcmp BinOp.eql (qint (qfld (qnth (q11 [(D.str ss0),(D.int sn1)]) 0) 4)) (qint (qfld (qnth (q12 [(D.str ss0),(D.int sn1)]) 0) 4))) (qand (qcmp BinOp.eql (qint (qfld (qnth (q11 [(D.str ss0),(D.int sn1)]) 0) 5)) (qint (qfld (qnth (q12 [(D.str ss0),(D.int sn1)]) 0) 5))) (qand (qcmp BinOp.eql (qint (qfld (qnth (q11 [(D.str ss0),(D.int sn1)]) 0) 6)) (qint (qfld (qnth (q12 [(D.str ss0),(D.int sn1)]) 0) 6))) (qand (qcmp BinOp.eql (qint (qfld (qnth (q11 [(D.str ss0),(D.int sn1)]) 0) 7)) (qint (qfld (qnth (q12 [(D.str ss0),(D.int sn1)]) 0) 7))) (qcmp BinOp.eql (qint (qfld (qnth (q11 [(D.str ss0),(D.int sn1)]) 0) 8)) (qint (qfld (qnth (q12 [(D.str ss0),(D.int sn1)]) 0) 8))))))))))) (qcmp BinOp.eql (qint (qnth (q11 [(D.str ss0),(D.int sn1)]) 1)) (qint (qnth (q12 [(D.str ss0),(D.int sn1)]) 1))) Bool.false) (qbool (qnth (q10 []) 0)) Bool.false))]
 else
 none
 else
 none
 else
 none:=by kernel_rfl
noncomputable def q4:List D→Option (List D):=veil (F4)
theorem q4_eq:q4=F4:=veil_eq _
end Go.Proofs.YtobhhfbdelnhfaaGreatDoor
namespace Go.AM
theorem qsome_s (r:List D):qsome (some r)=true:=by rw[qsome_eq];rfl
theorem qnth_s (r:List D) (j:Nat):qnth (some r) j=r.getD j .other:=by rw[qnth_eq];rfl
theorem qint_i (n:Int):qint (.int n)=n:=by rw[qint_eq];rfl
theorem qbool_b (b:Bool):qbool (.bool b)=b:=by rw[qbool_eq];rfl
theorem qstr_s (s:ByteArray):qstr (.str s)=s:=by rw[qstr_eq];rfl
theorem qcmp_lss (a b:Int):qcmp .lss a b=decide (a<b):=by rw[qcmp_eq];rfl
theorem qcmp_leq (a b:Int):qcmp .leq a b=decide (a≤b):=by rw[qcmp_eq];rfl
theorem qcmp_gtr (a b:Int):qcmp .gtr a b=decide (b<a):=by rw[qcmp_eq];rfl
theorem qcmp_geq (a b:Int):qcmp .geq a b=decide (b≤a):=by rw[qcmp_eq];rfl
theorem qcmp_eql (a b:Int):qcmp .eql a b=decide (a=b):=by rw[qcmp_eq];simp only[rcmp];cases h:decide (a=b)<;>simp_all
theorem qcmp_neq (a b:Int):qcmp .neq a b = !decide (a=b):=by rw[qcmp_eq];simp only[rcmp,bne];cases h:decide (a=b)<;>simp_all
theorem qiteB_c (c a b:Bool):qiteB c a b=bif c then a else b:=by rw[qiteB_eq]
theorem qnot_c (a:Bool):qnot a = !a:=by rw[qnot_eq]
theorem qlen_c (d:D):qlen d=(d.toList.length:Int):=by rw[qlen_eq];rfl
theorem qinb_c (d:D) (i:Int):qinb d i=(decide (0≤i)&&decide (i<d.toList.length)):=by rw[qinb_eq];rfl
theorem qget_n (d:D) (i:Nat):qget d (i:Int)=d.toList.getD i .other:=by rw[qget_eq];simp[D.get]
theorem qinb_n {d:D} {i:Nat} (h:i<d.toList.length):qinb d (i:Int)=true:=by rw[qinb_c];simp;omega
theorem wrap64' {n:Int} (h0: -9223372036854775808≤n) (h1:n≤9223372036854775807):IntKind.i64.wrap n=n:=wrap64 h0 h1
theorem add_nat {i:Nat} (h:i<9223372036854775807):qbin .add .i64 (i:Int) 1=((i+1:Nat):Int):=by
 rw[add64 (by omega) (by omega)];omega
end Go.AM
namespace Go.Proofs.YtobhhfbdelnhfaaGreatDoor
set_option linter.unusedSimpArgs false
open Go Go.AM
def shp (o f w cc:Int):Option Int:=
 if 0≤o∧o≤2 then some 0
 else if o=3∨o=4 then some 1
 else if 5≤o∧o≤15 then(if f=0 then some 3 else if f=1 then some 4 else if f=2 then some 6 else none)
 else if o=16∨o=18 then(if w=1∨w=2∨w=4 then some 5 else none)
 else if o=17 then(if w=1∨w=2 then some 5 else none)
 else if o=19 then some 5
 else if o=20 then(if 0≤cc∧cc≤14 then(if f=1 then some 7 else if f=2 then some 8 else none)else none)
 else if o=25 then(if 0≤cc∧cc≤14 then some 2 else none)
 else if o=23 then some 8
 else if o=24∨o=21∨o=26∨o=27 then some 2
 else if o=22 then some 6
 else none
theorem ocases (o:Int):(o<0∨27<o)∨(o=0∨o=1∨o=2)∨o=3∨o=4∨(5≤o∧o≤15)∨o=16∨o=17∨o=18∨o=19∨o=20∨o=21∨o=22∨o=23∨o=24∨o=25∨o=26∨o=27:=by omega
theorem acc_spec (d:D) (ho:qint (qfld d 2)=16∨qint (qfld d 2)=17∨qint (qfld d 2)=18):
 (∃c,q128 [d]=some [.int c, .int 5, .bool true]∧shp (qint (qfld d 2)) (qint (qfld d 3)) (qint (qfld d 4)) (qint (qfld d 5))=some 5)∨
 (∃c,q128 [d]=some [.int c, .int 5, .bool false]∧shp (qint (qfld d 2)) (qint (qfld d 3)) (qint (qfld d 4)) (qint (qfld d 5))=none):=by
 rw[q128_eq,F128_eq]
 generalize qint (qfld d 2)=o at *
 generalize qint (qfld d 3)=f at *
 generalize qint (qfld d 4)=w at *
 simp only[qand_eq,qcmp_eql]
 rcases ho with rfl|rfl|rfl<;>by_cases h1:w=1<;>by_cases h2:w=2<;>by_cases h4:w=4<;>first|omega|simp[*,shp]
theorem cc_spec (d:D) (ho:qint (qfld d 2)=20∨qint (qfld d 2)=25):
 (∃c s,q129 [d]=some [.int c, .int s, .bool true]∧shp (qint (qfld d 2)) (qint (qfld d 3)) (qint (qfld d 4)) (qint (qfld d 5))=some s)∨
 (∃c s,q129 [d]=some [.int c, .int s, .bool false]∧shp (qint (qfld d 2)) (qint (qfld d 3)) (qint (qfld d 4)) (qint (qfld d 5))=none):=by
 rw[q129_eq,F129_eq]
 generalize qint (qfld d 2)=o at *
 generalize qint (qfld d 3)=f at *
 generalize qint (qfld d 4)=w at *
 generalize qint (qfld d 5)=cc at *
 simp only[qiteB_c,qcmp_eql,qcmp_lss,qcmp_gtr]
 rcases ho with rfl|rfl<;>by_cases h1:cc<0<;>by_cases h2:14<cc<;>by_cases h3:f=1<;>by_cases h4:f=2<;>first|omega|(simp[*,shp];done)|(simp[*,shp];omega)
theorem op_spec (d:D):
 (∃c s,q92 [d]=some [.int c, .int s, .bool true]∧shp (qint (qfld d 2)) (qint (qfld d 3)) (qint (qfld d 4)) (qint (qfld d 5))=some s)∨
 (∃c s,q92 [d]=some [.int c, .int s, .bool false]∧shp (qint (qfld d 2)) (qint (qfld d 3)) (qint (qfld d 4)) (qint (qfld d 5))=none):=by
 have hacc:=acc_spec d
 have hcc:=cc_spec d
 rw[q92_eq,F92_eq]
 generalize qint (qfld d 2)=o at *
 generalize qint (qfld d 3)=f at *
 generalize qint (qfld d 4)=w at *
 generalize qint (qfld d 5)=cc at *
 generalize qint (qfld d 6)=a at *
 simp only[qiteB_c,qcmp_eql,qcmp_geq,qcmp_leq]
 rcases ocases o with h|h|rfl|rfl|h|rfl|rfl|rfl|rfl|rfl|rfl|rfl|rfl|rfl|rfl|rfl|rfl
 ·right
  simp[shp,show¬o=0 by omega,show¬o=1 by omega,show¬o=2 by omega,show¬o=3 by omega,show¬o=4 by omega,show¬(5≤o∧o≤15)by omega,show¬(0≤o∧o≤2)by omega,show¬o=16 by omega,show¬o=17 by omega,show¬o=18 by omega,show¬o=19 by omega,show¬o=20 by omega,show¬o=21 by omega,show¬o=22 by omega,show¬o=23 by omega,show¬o=24 by omega,show¬o=25 by omega,show¬o=26 by omega,show¬o=27 by omega]
  rcases h with h|h
  ·simp[show¬5≤o by omega]
  ·simp[show¬o≤15 by omega]
 ·left
  rcases h with rfl|rfl|rfl<;>simp[shp]
 ·left;simp[shp]
 ·left;simp[shp]
 ·obtain⟨h1,h2⟩:=h
  by_cases f0:f=0
  ·left;subst f0;simp[shp,h1,h2,show¬o=0 by omega,show¬o=1 by omega,show¬o=2 by omega,show¬o=3 by omega,show¬o=4 by omega,show¬o≤2 by omega]
  by_cases f1:f=1
  ·left;subst f1;simp[shp,h1,h2,show¬o=0 by omega,show¬o=1 by omega,show¬o=2 by omega,show¬o=3 by omega,show¬o=4 by omega,show¬o≤2 by omega]
  by_cases f2:f=2
  ·left;subst f2;simp[shp,h1,h2,show¬o=0 by omega,show¬o=1 by omega,show¬o=2 by omega,show¬o=3 by omega,show¬o=4 by omega,show¬o≤2 by omega]
  ·right;simp[shp,f0,f1,f2,h1,h2,show¬o=0 by omega,show¬o=1 by omega,show¬o=2 by omega,show¬o=3 by omega,show¬o=4 by omega,show¬o≤2 by omega]
 ·rcases hacc (by simp)with⟨c,h,hs⟩|⟨c,h,hs⟩
  ·left;exact⟨c,5,by simp[h,qsome_s,qnth_s,qint_i,qbool_b],hs⟩
  ·right;exact⟨c,5,by simp[h,qsome_s,qnth_s,qint_i,qbool_b],hs⟩
 ·rcases hacc (by simp)with⟨c,h,hs⟩|⟨c,h,hs⟩
  ·left;exact⟨c,5,by simp[h,qsome_s,qnth_s,qint_i,qbool_b],hs⟩
  ·right;exact⟨c,5,by simp[h,qsome_s,qnth_s,qint_i,qbool_b],hs⟩
 ·rcases hacc (by simp)with⟨c,h,hs⟩|⟨c,h,hs⟩
  ·left;exact⟨c,5,by simp[h,qsome_s,qnth_s,qint_i,qbool_b],hs⟩
  ·right;exact⟨c,5,by simp[h,qsome_s,qnth_s,qint_i,qbool_b],hs⟩
 ·left;simp[shp]
 ·rcases hcc (by simp)with⟨c,s,h,hs⟩|⟨c,s,h,hs⟩
  ·left;exact⟨c,s,by simp[h,qsome_s,qnth_s,qint_i,qbool_b],hs⟩
  ·right;exact⟨c,s,by simp[h,qsome_s,qnth_s,qint_i,qbool_b],hs⟩
 ·left;simp[shp]
 ·left;simp[shp]
 ·left;simp[shp]
 ·left;simp[shp]
 ·rcases hcc (by simp)with⟨c,s,h,hs⟩|⟨c,s,h,hs⟩
  ·left;exact⟨c,s,by simp[h,qsome_s,qnth_s,qint_i,qbool_b],hs⟩
  ·right;exact⟨c,s,by simp[h,qsome_s,qnth_s,qint_i,qbool_b],hs⟩
 ·left;simp[shp]
 ·left;simp[shp]
theorem kept_spec (d:D) (s:Int):q94 [d, .int s]=some [.agg [.int (qint (qfld d 0)), .int (if 4≤s∧s≤8 then qint (qfld d 1)else 0), .int (qint (qfld d 2)),
 .int (if 5≤qint (qfld d 2)∧qint (qfld d 2)≤15∨qint (qfld d 2)=20 then qint (qfld d 3)else 0), .int (if 16≤qint (qfld d 2)∧qint (qfld d 2)≤18 then qint (qfld d 4)else 0),
 .int (if qint (qfld d 2)=20∨qint (qfld d 2)=25 then qint (qfld d 5)else 0), .int (if 1≤s∧s≤6 then qint (qfld d 6)else 0), .int (if s=3∨s=5 then qint (qfld d 7)else 0), .int (qint (qfld d 8))]]:=by
 rw[q94_eq,F94_eq]
 generalize qint (qfld d 2)=o at *
 simp only[qiteB_c,qcmp_eql,qcmp_geq,qcmp_leq]
 have hsc:(s<1∨8<s)∨s=1∨s=2∨s=3∨s=4∨s=5∨s=6∨s=7∨s=8:=by omega
 have hoc:(o<5∨(18<o∧o≠20∧o≠25))∨(5≤o∧o≤15)∨o=16∨o=17∨o=18∨o=20∨o=25:=by omega
 rcases hoc with ho|ho|rfl|rfl|rfl|rfl|rfl
 ·have e1:¬(5≤o∧o≤15):=by omega
  have e2:(decide (5≤o)&&decide (o≤15))=false:=by simp;omega
  rcases hsc with hs|rfl|rfl|rfl|rfl|rfl|rfl|rfl|rfl
  ·simp[e1,e2,show¬o=16 by omega,show¬o=17 by omega,show¬o=18 by omega,show¬o=20 by omega,show¬o=25 by omega,show¬(16≤o∧o≤18)by omega,show¬s=1 by omega,show¬s=2 by omega,show¬s=3 by omega,show¬s=4 by omega,show¬s=5 by omega,show¬s=6 by omega,show¬s=7 by omega,show¬s=8 by omega,show¬(1≤s∧s≤6)by omega,show¬(4≤s∧s≤8)by omega]
  all_goals
   simp[e1,e2,show¬o=16 by omega,show¬o=17 by omega,show¬o=18 by omega,show¬o=20 by omega,show¬o=25 by omega,show¬(16≤o∧o≤18)by omega]
 ·rcases hsc with hs|rfl|rfl|rfl|rfl|rfl|rfl|rfl|rfl
  ·simp[ho.1,ho.2,show¬o=16 by omega,show¬o=17 by omega,show¬o=18 by omega,show¬o=20 by omega,show¬o=25 by omega,show¬(16≤o∧o≤18)by omega,show¬s=1 by omega,show¬s=2 by omega,show¬s=3 by omega,show¬s=4 by omega,show¬s=5 by omega,show¬s=6 by omega,show¬s=7 by omega,show¬s=8 by omega,show¬(1≤s∧s≤6)by omega,show¬(4≤s∧s≤8)by omega]
  all_goals simp[ho.1,ho.2,show¬o=16 by omega,show¬o=17 by omega,show¬o=18 by omega,show¬o=20 by omega,show¬o=25 by omega,show¬(16≤o∧o≤18)by omega]
 all_goals
  rcases hsc with hs|rfl|rfl|rfl|rfl|rfl|rfl|rfl|rfl
  ·simp[show¬s=1 by omega,show¬s=2 by omega,show¬s=3 by omega,show¬s=4 by omega,show¬s=5 by omega,show¬s=6 by omega,show¬s=7 by omega,show¬s=8 by omega,show¬(1≤s∧s≤6)by omega,show¬(4≤s∧s≤8)by omega]
  all_goals simp
def okA (s o f w cc a b imm j:Int):Prop:=
 (0≤a∧a<8)∧(0≤b∧b<8)∧(4≤s∧s≤8∨imm=0)∧(5≤o∧o≤15∨o=20∨f=0)∧(16≤o∧o≤18∨w=0)∧(o=20∨o=25∨cc=0)∧(1≤s∧s≤6∨a=0)∧(s=3∨s=5∨b=0)∧
 (s=4∨s=5→imm≤127∨4294967168≤imm)∧(s=7→j≤127∨4294967168≤j)
def okArg (s o f w cc a b imm:Int):Prop:=
 (0≤a∧a<8)∧(0≤b∧b<8)∧(4≤s∧s≤8∨imm=0)∧(5≤o∧o≤15∨o=20∨f=0)∧(16≤o∧o≤18∨w=0)∧(o=20∨o=25∨cc=0)∧(1≤s∧s≤6∨a=0)∧(s=3∨s=5∨b=0)
noncomputable def short (d:D):Int:=qbin .sub .u32 (qbin .sub .u32 (qint (qfld d 1)) (qint (qfld d 0))) 2
def hasS (d:D) (s:Int):Prop:=
 shp (qint (qfld d 2)) (qint (qfld d 3)) (qint (qfld d 4)) (qint (qfld d 5))=some s∧okA s (qint (qfld d 2)) (qint (qfld d 3)) (qint (qfld d 4)) (qint (qfld d 5)) (qint (qfld d 6)) (qint (qfld d 7)) (qint (qfld d 1)) (short d)
def argOk (d:D):Prop:=
 ∃s,shp (qint (qfld d 2)) (qint (qfld d 3)) (qint (qfld d 4)) (qint (qfld d 5))=some s∧okArg s (qint (qfld d 2)) (qint (qfld d 3)) (qint (qfld d 4)) (qint (qfld d 5)) (qint (qfld d 6)) (qint (qfld d 7)) (qint (qfld d 1))
theorem qfld_agg (xs:List D) (j:Nat):qfld (.agg xs) j=xs.getD j .other:=by rw[qfld_eq];rfl
theorem keq (C:Prop) [Decidable C] (x:Int):decide ((if C then x else 0)=x)=decide (C∨x=0):=by
 by_cases h:C
 ·simp[h]
 ·simp[h];exact⟨fun e=>e.symm,fun e=>e.symm⟩
theorem dself (x:Int):decide (x=x)=true:=by simp
theorem narB (s i j:Int):(bif bif (bif decide (s=4)then true else decide (s=5))then !(bif decide (i≤127)then true else decide (4294967168≤i))else false then true else
 bif decide (s=7)then !(bif decide (j≤127)then true else decide (4294967168≤j))else false) = !decide ((s=4∨s=5→i≤127∨4294967168≤i)∧(s=7→j≤127∨4294967168≤j)):=by
 by_cases i1:i≤127<;>by_cases i2:4294967168≤i<;>by_cases j1:j≤127<;>by_cases j2:4294967168≤j<;>simp only[i1,i2,j1,j2,decide_true,decide_false,cond_true,cond_false,Bool.not_true,Bool.not_false,true_or,or_true,or_false,imp_true_iff,and_true,true_and,Bool.cond_self]<;>
  by_cases e4:s=4<;>by_cases e5:s=5<;>by_cases e7:s=7<;>first|omega|simp[e4,e5,e7]
theorem chk69 (d:D):(∃c s,q47 [d]=some [.int c, .int s, .int 0]∧hasS d s∧q92 [d]=some [.int c, .int s, .bool true])∨(∃e,q47 [d]=some [.int 0, .int 0, .int e]∧e≠0∧(∀s,¬hasS d s)∧(e=2∧¬argOk d∨e=7∧argOk d)):=by
 rw[q47_eq,F47_eq]
 rcases op_spec d with⟨c,s,h,hs⟩|⟨c,s,h,hs⟩
 ·rw[h]
  simp only[qsome_s,qnth_s,List.getD_cons_zero,List.getD_cons_succ,qint_i,qbool_b,qnot_c,qiteB_c,qcmp_eql,qcmp_geq,qcmp_lss,qcmp_leq,kept_spec,qfld_agg,qand_eq]
  have key:hasS d s↔okA s (qint (qfld d 2)) (qint (qfld d 3)) (qint (qfld d 4)) (qint (qfld d 5)) (qint (qfld d 6)) (qint (qfld d 7)) (qint (qfld d 1)) (short d):=by
   unfold hasS;simp[hs]
  have keyn:∀s',s'≠s→¬hasS d s':=fun s' hne h'=>by
   have:=h'.1;rw[hs]at this;simp at this;omega
  have kna:¬okArg s (qint (qfld d 2)) (qint (qfld d 3)) (qint (qfld d 4)) (qint (qfld d 5)) (qint (qfld d 6)) (qint (qfld d 7)) (qint (qfld d 1))→¬argOk d:=fun h1 ⟨s',h2,h3⟩=>by
   rw[hs]at h2;injection h2 with h2;subst h2;exact h1 h3
  have kn:¬hasS d s→∀s',¬hasS d s':=fun h1 s' h2=>by
   by_cases e:s'=s
   ·exact h1 (e▸h2)
   ·exact keyn s' e h2
  change _∨_
  rw[show qbin BinOp.sub IntKind.u32 (qbin BinOp.sub IntKind.u32 (qint (qfld d 1)) (qint (qfld d 0))) 2=short d from rfl]
  by_cases ha:0≤qint (qfld d 6)∧qint (qfld d 6)<8
  ·by_cases hb:0≤qint (qfld d 7)∧qint (qfld d 7)<8
   ·by_cases hk:(4≤s∧s≤8∨qint (qfld d 1)=0)∧(5≤qint (qfld d 2)∧qint (qfld d 2)≤15∨qint (qfld d 2)=20∨qint (qfld d 3)=0)∧(16≤qint (qfld d 2)∧qint (qfld d 2)≤18∨qint (qfld d 4)=0)∧(qint (qfld d 2)=20∨qint (qfld d 2)=25∨qint (qfld d 5)=0)∧(1≤s∧s≤6∨qint (qfld d 6)=0)∧(s=3∨s=5∨qint (qfld d 7)=0)
    ·simp only[keq,dself,ha.1,ha.2,hb.1,hb.2,decide_true,cond_true,Bool.not_true,cond_false,Bool.true_and,Bool.and_true,
      decide_eq_true hk.1,decide_eq_true hk.2.2.1,decide_eq_true hk.2.2.2.2.1,or_assoc,decide_eq_true hk.2.1,decide_eq_true hk.2.2.2.1,decide_eq_true hk.2.2.2.2.2]
     by_cases hn:(s=4∨s=5→qint (qfld d 1)≤127∨4294967168≤qint (qfld d 1))∧(s=7→short d≤127∨4294967168≤short d)
     ·left
      refine⟨c,s,?_,key.2 ⟨ha,hb,hk.1,hk.2.1,hk.2.2.1,hk.2.2.2.1,hk.2.2.2.2.1,hk.2.2.2.2.2,hn⟩,rfl⟩
      simp only[narB,decide_eq_true hn,Bool.not_true,cond_false]
     ·right
      refine⟨7,?_,by omega,kn (fun h'=>hn (key.1 h').2.2.2.2.2.2.2.2), .inr ⟨rfl,s,hs,ha,hb,hk.1,hk.2.1,hk.2.2.1,hk.2.2.2.1,hk.2.2.2.2.1,hk.2.2.2.2.2⟩⟩
      simp only[narB,decide_eq_false hn,Bool.not_false,cond_true]
    ·right
     refine⟨2,?_,by omega,kn (fun h'=>hk ⟨(key.1 h').2.2.1,(key.1 h').2.2.2.1,(key.1 h').2.2.2.2.1,(key.1 h').2.2.2.2.2.1,(key.1 h').2.2.2.2.2.2.1,(key.1 h').2.2.2.2.2.2.2.1⟩), .inl ⟨rfl,kna fun h'=>hk ⟨h'.2.2.1,h'.2.2.2.1,h'.2.2.2.2.1,h'.2.2.2.2.2.1,h'.2.2.2.2.2.2.1,h'.2.2.2.2.2.2.2⟩⟩⟩
     simp only[keq,dself,ha.1,ha.2,hb.1,hb.2,decide_true,cond_true,Bool.not_true,cond_false,Bool.true_and,Bool.and_true,or_assoc]
     simp only[← Bool.decide_and,decide_eq_false hk,Bool.not_false,cond_true]
   ·right
    refine⟨2,?_,by omega,kn (fun h'=>hb (key.1 h').2.1), .inl ⟨rfl,kna fun h'=>hb h'.2.1⟩⟩
    simp only[ha.1,ha.2,decide_true,cond_true,Bool.not_true,cond_false]
    have:(bif decide (0≤qint (qfld d 7))then decide (qint (qfld d 7)<8)else false)=false:=by
     simp;omega
    rw[this];rfl
  ·right
   refine⟨2,?_,by omega,kn (fun h'=>ha (key.1 h').1), .inl ⟨rfl,kna fun h'=>ha h'.1⟩⟩
   have:(bif decide (0≤qint (qfld d 6))then decide (qint (qfld d 6)<8)else false)=false:=by
    simp;omega
   simp only[this,Bool.not_true,Bool.not_false,cond_true,cond_false]
 ·right
  refine⟨2,?_,by omega,(fun s' h'=>by have:=h'.1;rw[hs]at this;cases this), .inl ⟨rfl,(fun⟨s',h',_⟩=>by rw[hs]at h';cases h')⟩⟩
  simp[h,qsome_s,qnth_s,qbool_b,qnot_c]
theorem form_spec (d:D):q81 [d]=some [.bool (decide (if 5≤qint (qfld d 2)∧qint (qfld d 2)≤15 then 0≤qint (qfld d 3)∧qint (qfld d 3)≤2 else if qint (qfld d 2)=20 then qint (qfld d 3)=1∨qint (qfld d 3)=2 else qint (qfld d 3)=0))]:=by
 rw[q81_eq,F81_eq]
 generalize qint (qfld d 2)=o at *
 generalize qint (qfld d 3)=f at *
 simp only[qiteB_c,qcmp_eql,qcmp_geq,qcmp_leq]
 by_cases h1:5≤o<;>by_cases h2:o≤15<;>by_cases h3:o=20<;>first|omega|(simp[h1,h2,h3])
theorem width_spec (d:D):q82 [d]=some [.bool (decide (if qint (qfld d 2)=17 then qint (qfld d 4)=1∨qint (qfld d 4)=2 else if qint (qfld d 2)=16∨qint (qfld d 2)=18 then qint (qfld d 4)=1∨qint (qfld d 4)=2∨qint (qfld d 4)=4 else qint (qfld d 4)=0))]:=by
 rw[q82_eq,F82_eq]
 generalize qint (qfld d 2)=o at *
 generalize qint (qfld d 4)=w at *
 simp only[qiteB_c,qcmp_eql,qcmp_geq,qcmp_leq]
 by_cases h1:o=16<;>by_cases h2:o=17<;>by_cases h3:o=18<;>first|omega|(simp[h1,h2,h3];done)|(simp[h1,h2,h3,Bool.or_assoc];done)
theorem treeB {n1 n2 c1 c2 c3 c4 c5 c6:Bool} {R A:Prop} (h1:n1=true) (h2:n2=true) (hR:(c1=false∧c2=false∧c3=false∧(c4=true→c5=false)∧c6=false)↔R) (hA:(c1=false∧c2=false∧c3=false)↔A):
 ∃e,(bif n1 then bif n2 then bif c1 then some [D.int 2]else bif c2 then some [D.int 2]else bif c3 then some [D.int 2]else bif c4 then(bif c5 then some [D.int 7]else bif c6 then some [D.int 7]else some [D.int 0])else bif c6 then some [D.int 7]else some [D.int 0]else none else none)=some [D.int e]∧(e=0↔R)∧(e=0∨e=7∨e=2)∧(e=2↔¬A):=by
 subst h1 h2
 rw[← hR, ← hA]
 cases c1<;>cases c2<;>cases c3<;>cases c4<;>cases c5<;>cases c6<;>simp
theorem chk126 (d:D):∃e,q46 [d]=some [.int e]∧(e=0↔∃s,hasS d s)∧(e=0∨e=7∨e=2)∧(e=2↔¬argOk d):=by
 unfold hasS argOk
 rw[q46_eq,F46_eq,form_spec,width_spec]
 rw[show qbin BinOp.sub IntKind.u32 (qbin BinOp.sub IntKind.u32 (qint (qfld d 1)) (qint (qfld d 0))) 2=short d from rfl]
 generalize qint (qfld d 2)=o
 generalize qint (qfld d 3)=f
 generalize qint (qfld d 4)=w
 generalize qint (qfld d 5)=cc
 generalize qint (qfld d 6)=a
 generalize qint (qfld d 7)=b
 generalize qint (qfld d 1)=imm
 generalize short d=j
 simp only[qsome_s,qnth_s,List.getD_cons_zero,qbool_b,qnot_c,qiteB_c,qcmp_eql,qcmp_geq,qcmp_lss,qcmp_leq,qcmp_gtr,qcmp_neq]
 rcases ocases o with h|h|rfl|rfl|h|rfl|rfl|rfl|rfl|rfl|rfl|rfl|rfl|rfl|rfl|rfl|rfl
 ·refine treeB (by simp) (by simp) ?_ ?_
  ·have:(bif decide (o<0)then true else decide (27<o))=true:=by simp;omega
   simp[this,shp,show¬(0≤o∧o≤2)by omega,show¬o=3 by omega,show¬o=4 by omega,show¬(5≤o∧o≤15)by omega,show¬o=16 by omega,show¬o=17 by omega,show¬o=18 by omega,show¬o=19 by omega,show¬o=20 by omega,show¬o=21 by omega,show¬o=22 by omega,show¬o=23 by omega,show¬o=24 by omega,show¬o=25 by omega,show¬o=26 by omega,show¬o=27 by omega]
  ·have:(bif decide (o<0)then true else decide (27<o))=true:=by simp;omega
   simp[this,shp,show¬(0≤o∧o≤2)by omega,show¬o=3 by omega,show¬o=4 by omega,show¬(5≤o∧o≤15)by omega,show¬o=16 by omega,show¬o=17 by omega,show¬o=18 by omega,show¬o=19 by omega,show¬o=20 by omega,show¬o=21 by omega,show¬o=22 by omega,show¬o=23 by omega,show¬o=24 by omega,show¬o=25 by omega,show¬o=26 by omega,show¬o=27 by omega]
 ·refine treeB (by simp) (by simp) ?_ ?_
  ·rcases h with rfl|rfl|rfl<;>simp[shp,okA]<;>grind
  ·rcases h with rfl|rfl|rfl<;>simp[shp,okArg]<;>grind
 ·refine treeB (by simp) (by simp) ?_ ?_
  ·simp[shp,okA]<;>grind
  ·simp[shp,okArg]<;>grind
 ·refine treeB (by simp) (by simp) ?_ ?_
  ·simp[shp,okA]<;>grind
  ·simp[shp,okArg]<;>grind
 ·refine treeB (by simp) (by simp) ?_ ?_
  ·obtain⟨h1,h2⟩:=h
   by_cases f0:f=0
   ·simp[shp,okA,h1,h2,f0,show¬o=3 by omega,show¬o=4 by omega,show¬o≤2 by omega,show 3≤o by omega,show o≤27 by omega,show¬o=16 by omega,show¬o=17 by omega,show¬o=18 by omega,show¬o=19 by omega,show¬o=20 by omega,show¬o=22 by omega,show¬o=23 by omega,show¬o=25 by omega,show¬16≤o by omega]
    grind
   by_cases f1:f=1
   ·simp[shp,okA,h1,h2,f1,show¬o=3 by omega,show¬o=4 by omega,show¬o≤2 by omega,show 3≤o by omega,show o≤27 by omega,show¬o=16 by omega,show¬o=17 by omega,show¬o=18 by omega,show¬o=19 by omega,show¬o=20 by omega,show¬o=22 by omega,show¬o=23 by omega,show¬o=25 by omega,show¬16≤o by omega]
    grind
   by_cases f2:f=2
   ·simp[shp,okA,h1,h2,f2,show¬o=3 by omega,show¬o=4 by omega,show¬o≤2 by omega,show 3≤o by omega,show o≤27 by omega,show¬o=16 by omega,show¬o=17 by omega,show¬o=18 by omega,show¬o=19 by omega,show¬o=20 by omega,show¬o=22 by omega,show¬o=23 by omega,show¬o=25 by omega,show¬16≤o by omega]
    grind
   ·simp[shp,okA,h1,h2,f0,f1,f2,show¬o=3 by omega,show¬o=4 by omega,show¬o≤2 by omega,show 3≤o by omega,show o≤27 by omega,show¬o=16 by omega,show¬o=17 by omega,show¬o=18 by omega,show¬o=19 by omega,show¬o=20 by omega,show¬o=22 by omega,show¬o=23 by omega,show¬o=25 by omega,show¬16≤o by omega]
    try grind
  ·obtain⟨h1,h2⟩:=h
   by_cases f0:f=0
   ·simp[shp,okArg,h1,h2,f0,show¬o=3 by omega,show¬o=4 by omega,show¬o≤2 by omega,show 3≤o by omega,show o≤27 by omega,show¬o=16 by omega,show¬o=17 by omega,show¬o=18 by omega,show¬o=19 by omega,show¬o=20 by omega,show¬o=22 by omega,show¬o=23 by omega,show¬o=25 by omega,show¬16≤o by omega]
    grind
   by_cases f1:f=1
   ·simp[shp,okArg,h1,h2,f1,show¬o=3 by omega,show¬o=4 by omega,show¬o≤2 by omega,show 3≤o by omega,show o≤27 by omega,show¬o=16 by omega,show¬o=17 by omega,show¬o=18 by omega,show¬o=19 by omega,show¬o=20 by omega,show¬o=22 by omega,show¬o=23 by omega,show¬o=25 by omega,show¬16≤o by omega]
    grind
   by_cases f2:f=2
   ·simp[shp,okArg,h1,h2,f2,show¬o=3 by omega,show¬o=4 by omega,show¬o≤2 by omega,show 3≤o by omega,show o≤27 by omega,show¬o=16 by omega,show¬o=17 by omega,show¬o=18 by omega,show¬o=19 by omega,show¬o=20 by omega,show¬o=22 by omega,show¬o=23 by omega,show¬o=25 by omega,show¬16≤o by omega]
    grind
   ·simp[shp,okArg,h1,h2,f0,f1,f2,show¬o=3 by omega,show¬o=4 by omega,show¬o≤2 by omega,show 3≤o by omega,show o≤27 by omega,show¬o=16 by omega,show¬o=17 by omega,show¬o=18 by omega,show¬o=19 by omega,show¬o=20 by omega,show¬o=22 by omega,show¬o=23 by omega,show¬o=25 by omega,show¬16≤o by omega]
    try grind
 ·refine treeB (by simp) (by simp) ?_ ?_
  ·simp[shp,okA]<;>grind
  ·simp[shp,okArg]<;>grind
 ·refine treeB (by simp) (by simp) ?_ ?_
  ·simp[shp,okA]<;>grind
  ·simp[shp,okArg]<;>grind
 ·refine treeB (by simp) (by simp) ?_ ?_
  ·simp[shp,okA]<;>grind
  ·simp[shp,okArg]<;>grind
 ·refine treeB (by simp) (by simp) ?_ ?_
  ·simp[shp,okA]<;>grind
  ·simp[shp,okArg]<;>grind
 ·refine treeB (by simp) (by simp) ?_ ?_
  ·simp[shp,okA]<;>grind
  ·simp[shp,okArg]<;>grind
 ·refine treeB (by simp) (by simp) ?_ ?_
  ·simp[shp,okA]<;>grind
  ·simp[shp,okArg]<;>grind
 ·refine treeB (by simp) (by simp) ?_ ?_
  ·simp[shp,okA]<;>grind
  ·simp[shp,okArg]<;>grind
 ·refine treeB (by simp) (by simp) ?_ ?_
  ·simp[shp,okA]<;>grind
  ·simp[shp,okArg]<;>grind
 ·refine treeB (by simp) (by simp) ?_ ?_
  ·simp[shp,okA]<;>grind
  ·simp[shp,okArg]<;>grind
 ·refine treeB (by simp) (by simp) ?_ ?_
  ·simp[shp,okA]<;>grind
  ·simp[shp,okArg]<;>grind
 ·refine treeB (by simp) (by simp) ?_ ?_
  ·simp[shp,okA]<;>grind
  ·simp[shp,okArg]<;>grind
 ·refine treeB (by simp) (by simp) ?_ ?_
  ·simp[shp,okA]<;>grind
  ·simp[shp,okArg]<;>grind
def sLen (s:Int):Int:=if s=0∨s=1 then 1 else if s=2∨s=3∨s=7 then 2 else if s=4∨s=5 then 3 else if s=6 then 6 else 5
theorem shp_le {o f w cc s:Int} (h:shp o f w cc=some s):0≤s∧s≤8:=by
 unfold shp at h
 repeat' split at h
 all_goals first|(cases h;done)|(injection h with h;omega)
theorem sLen_pos (s:Int):1≤sLen s∧sLen s≤6:=by
 unfold sLen;repeat' split
 all_goals omega
theorem size_spec {s:Int} (h:0≤s∧s≤8):q48 [.int s]=some [.int (sLen s)]:=by
 rw[q48_eq,F48_eq]
 obtain rfl|rfl|rfl|rfl|rfl|rfl|rfl|rfl|rfl:s=0∨s=1∨s=2∨s=3∨s=4∨s=5∨s=6∨s=7∨s=8:=by omega
 all_goals (rw[qinbS_eq,qidxS_eq,qbin_eq,qwrap_eq];kernel_rfl)
theorem acode_spec (d:D):∃c,q141 [d]=some [.int c]:=by
 rw[q141_eq,F141_eq]
 generalize qcmp BinOp.eql (qint (qfld d 2)) 17=c1
 generalize qcmp BinOp.eql (qint (qfld d 4)) 1=c2
 generalize qiteB (qcmp BinOp.eql (qint (qfld d 4)) 2) (qcmp BinOp.eql (qint (qfld d 2)) 16) Bool.false=c3
 generalize qcmp BinOp.eql (qint (qfld d 4)) 2=c4
 cases c1<;>cases c2<;>cases c3<;>cases c4<;>exact⟨_,rfl⟩
theorem bytes_spec {d:D} {s:Int} (h:hasS d s):∃bs,q119 [d]=some [bs]∧qlen bs=sLen s:=by
 obtain⟨c,hc⟩:=acode_spec d
 have h1:=h.1
 rw[q119_eq,F119_eq,hc,q142_eq,F142_eq]
 generalize qint (qfld d 2)=o at *
 generalize qint (qfld d 3)=f at *
 generalize qint (qfld d 4)=w at *
 generalize qint (qfld d 5)=cc at *
 simp only[qsome_s,qnth_s,List.getD_cons_zero,qiteB_c,qcmp_eql,qcmp_geq,qcmp_leq]
 rcases ocases o with h|h|rfl|rfl|h|rfl|rfl|rfl|rfl|rfl|rfl|rfl|rfl|rfl|rfl|rfl|rfl
 ·exfalso
  simp[shp,show¬(0≤o∧o≤2)by omega,show¬o=3 by omega,show¬o=4 by omega,show¬(5≤o∧o≤15)by omega,show¬o=16 by omega,show¬o=17 by omega,show¬o=18 by omega,show¬o=19 by omega,show¬o=20 by omega,show¬o=21 by omega,show¬o=22 by omega,show¬o=23 by omega,show¬o=24 by omega,show¬o=25 by omega,show¬o=26 by omega,show¬o=27 by omega]at h1
 ·rcases h with rfl|rfl|rfl<;>simp[shp]at h1<;>subst h1<;>(simp[qsome_s,qnth_s];rw[qlen_c];rfl)
 ·simp[shp]at h1;subst h1;(simp[qsome_s,qnth_s];rw[qlen_c];rfl)
 ·simp[shp]at h1;subst h1;(simp[qsome_s,qnth_s];rw[qlen_c];rfl)
 ·obtain⟨h2,h3⟩:=h
  simp only[shp,h2,h3,show¬o=3 by omega,show¬o=4 by omega,show¬(0≤o∧o≤2)by omega,true_and,if_true,if_false,or_self]at h1
  simp only[h2,h3,decide_true,cond_true]
  by_cases f0:f=0
  ·rw[if_pos f0]at h1;injection h1 with h1;subst h1;(simp[f0];rw[qlen_c];rfl)
  by_cases f1:f=1
  ·rw[if_neg f0,if_pos f1]at h1;injection h1 with h1;subst h1;(simp[f1];rw[qlen_c];rfl)
  by_cases f2:f=2
  ·rw[if_neg f0,if_neg f1,if_pos f2]at h1;injection h1 with h1;subst h1;(simp[f2];rw[qlen_c];rfl)
  ·rw[if_neg f0,if_neg f1,if_neg f2]at h1;cases h1
 ·have:s=5:=by revert h1;simp only[shp];by_cases w1:w=1∨w=2∨w=4<;>simp[w1]<;>omega
  subst this;(simp;rw[qlen_c];rfl)
 ·have:s=5:=by revert h1;simp only[shp];by_cases w1:w=1∨w=2<;>simp[w1]<;>omega
  subst this;(simp;rw[qlen_c];rfl)
 ·have:s=5:=by revert h1;simp only[shp];by_cases w1:w=1∨w=2∨w=4<;>simp[w1]<;>omega
  subst this;(simp;rw[qlen_c];rfl)
 ·simp[shp]at h1;subst h1;(simp;rw[qlen_c];rfl)
 ·by_cases hcc:0≤cc∧cc≤14
  ·by_cases f1:f=1
   ·simp[shp,hcc,f1]at h1;subst h1;(simp[f1];rw[qlen_c];rfl)
   by_cases f2:f=2
   ·simp[shp,hcc,f2]at h1;subst h1;(simp[f2];rw[qlen_c];rfl)
   ·simp[shp,hcc,f1,f2]at h1
  ·simp[shp,hcc]at h1
 ·simp[shp]at h1;subst h1;(simp[qsome_s,qnth_s];rw[qlen_c];rfl)
 ·simp[shp]at h1;subst h1;(simp[qsome_s,qnth_s];rw[qlen_c];rfl)
 ·simp[shp]at h1;subst h1;(simp[qsome_s,qnth_s];rw[qlen_c];rfl)
 ·simp[shp]at h1;subst h1;(simp[qsome_s,qnth_s];rw[qlen_c];rfl)
 ·by_cases hcc:0≤cc∧cc≤14
  ·simp[shp,hcc]at h1;subst h1;(simp[qsome_s,qnth_s];rw[qlen_c];rfl)
  ·simp[shp,hcc]at h1
 ·simp[shp]at h1;subst h1;(simp[qsome_s,qnth_s];rw[qlen_c];rfl)
 ·simp[shp]at h1;subst h1;(simp[qsome_s,qnth_s];rw[qlen_c];rfl)
open Classical in
noncomputable def lenI (d:D):Int:=if h:∃s,hasS d s then sLen h.choose else 0
noncomputable def vld (d:D):Bool:=decide (lenI d≠0)
theorem hasS_un {d:D} {s s':Int} (h:hasS d s) (h':hasS d s'):s=s':=by
 have:=h.1.symm.trans h'.1;injection this
theorem lenI_of {d:D} {s:Int} (h:hasS d s):lenI d=sLen s:=by
 unfold lenI
 rw[dif_pos ⟨s,h⟩]
 exact congrArg sLen (hasS_un (Exists.choose_spec (⟨s,h⟩:∃s,hasS d s)) h)
theorem lenI_none {d:D} (h:¬∃s,hasS d s):lenI d=0:=by unfold lenI;rw[dif_neg h]
theorem vld_iff {d:D}:vld d=true↔∃s,hasS d s:=by
 unfold vld
 rw[decide_eq_true_iff]
 constructor
 ·intro h
  by_cases hx:∃s,hasS d s
  ·exact hx
  ·exact absurd (lenI_none hx) h
 ·rintro⟨s,hs⟩
  rw[lenI_of hs]
  have:=sLen_pos s
  omega
theorem valid_spec (d:D):q20 [d]=some [.bool (vld d)]∧q16 [d]=some [.bool (vld d)]∧q69 [d]=some [.int (lenI d)]∧q74 [d]=some [.int (lenI d)]:=by
 obtain⟨e',h126,he',_⟩:=chk126 d
 have h71:q16 [d]=some [.bool (vld d)]:=by
  rw[q16_eq,F16_eq,h126]
  simp only[qsome_s,qnth_s,List.getD_cons_zero,qint_i,cond_true,qcmp_eql]
  by_cases hx:∃s,hasS d s
  ·simp[vld_iff.2 hx,he'.2 hx]
  ·have hv:vld d=false:=by rw[Bool.eq_false_iff];exact mt vld_iff.1 hx
   simp[hv,mt he'.1 hx]
 rcases chk69 d with⟨c,s,h69,hs,_⟩|⟨e,h69,he,hn,_⟩
 ·obtain⟨bs,hb,hl⟩:=bytes_spec hs
  have hv:vld d=true:=vld_iff.2 ⟨s,hs⟩
  refine⟨?_,h71,?_,?_⟩
  ·rw[q20_eq,F20_eq,h69,hv];simp[qsome_s,qnth_s,qint_i,qcmp_eql]
  ·rw[q69_eq,F69_eq,h69,lenI_of hs]
   simp only[qsome_s,qnth_s,List.getD_cons_zero,List.getD_cons_succ,qint_i,size_spec (shp_le hs.1),qcmp_neq]
   simp
  ·rw[q74_eq,F74_eq,h71,hv,hb,lenI_of hs]
   simp[qsome_s,qnth_s,qbool_b,qnot_c,hl]
 ·have hx:¬∃s,hasS d s:=fun⟨s,h⟩=>hn s h
  have hv:vld d=false:=by rw[Bool.eq_false_iff];exact mt vld_iff.1 hx
  refine⟨?_,h71,?_,?_⟩
  ·rw[q20_eq,F20_eq,h69,hv];simp[qsome_s,qnth_s,qint_i,qcmp_eql,he]
  ·rw[q69_eq,F69_eq,h69,lenI_none hx];simp[qsome_s,qnth_s,qint_i,qcmp_neq,he]
  ·rw[q74_eq,F74_eq,h71,hv,lenI_none hx];simp[qsome_s,qnth_s,qbool_b,qnot_c]
end Go.Proofs.YtobhhfbdelnhfaaGreatDoor
namespace Go.Proofs.YtobhhfbdelnhfaaGreatDoor
set_option linter.unusedSimpArgs false
set_option linter.unusedVariables false
open Go Go.AM
def bs (l:List UInt8):ByteArray:=⟨⟨l⟩⟩
theorem bs_size (l:List UInt8):(bs l).size=l.length:=rfl
def hx (d:Nat):UInt8:=UInt8.ofNat (if d<10 then 48+d else 87+d)
def digs (b n:Nat):List UInt8:=if h:n<b∨b<2 then[hx n]else digs b (n/b) ++ [hx (n%b)]
termination_by n
decreasing_by exact Nat.div_lt_self (by omega) (by omega)
theorem digs_lt {b n:Nat} (h:n<b):digs b n = [hx n]:=by rw[digs,dif_pos (.inl h)]
theorem digs_ge {b n:Nat} (h:b≤n) (hb:2≤b):digs b n=digs b (n/b) ++ [hx (n%b)]:=by rw[digs,dif_neg (by omega)]
theorem digs_len {b:Nat} (hb:2≤b):∀(k n:Nat),n<b^(k+1)→(digs b n).length≤k+1
 |0,n,h=>by rw[digs_lt (by simpa using h)];simp
 |k+1,n,h=>by
  by_cases h1:n<b
  ·rw[digs_lt h1];simp
  ·rw[digs_ge (by omega) hb,List.length_append]
   have:=digs_len hb k (n/b) (by rw[Nat.div_lt_iff_lt_mul (by omega)];rw[Nat.pow_succ]at h;exact h)
   simp;omega
theorem mU32 (n:Int):IntKind.u32.wrap n=n%4294967296:=by simp[IntKind.wrap,IntKind.bits,IntKind.signed]
theorem geN (n k:Nat):qcmp .geq (n:Int) (k:Int)=decide (k≤n):=by rw[qcmp_geq];exact decide_eq_decide.2 (by omega)
theorem leN (n k:Nat):qcmp .leq (n:Int) (k:Int)=decide (n≤k):=by rw[qcmp_leq];exact decide_eq_decide.2 (by omega)
def d16:ByteArray:=ByteArray.mk #[48,49,50,51,52,53,54,55,56,57,97,98,99,100,101,102]
noncomputable def nxt (st:List D→Option (Sum (List D) (List D))) (x:Option (Sum (List D) (List D))):Option (List D):=match x with|none=>none|some (.inl s')=>loW st s'|some (.inr d)=>some d
theorem nxt_l (st:List D→Option (Sum (List D) (List D))) (s:List D):nxt st (some (.inl s))=loW st s:=rfl
theorem nxt_r (st:List D→Option (Sum (List D) (List D))) (s:List D):nxt st (some (.inr s))=some s:=rfl
theorem nxtW (st:List D→Option (Sum (List D) (List D))) (s:List D):loW st s=nxt st (st s):=by
 rw[loW_eq];unfold nxt
 cases st s with
 |none=>rfl
 |some x=>cases x<;>rfl
end Go.Proofs.YtobhhfbdelnhfaaGreatDoor
namespace Go.Proofs.YtobhhfbdelnhfaaGreatDoor
set_option linter.unusedSimpArgs false
set_option linter.unusedVariables false
open Go Go.AM
theorem mkB (l:List UInt8):ByteArray.mk l.toArray=bs l:=rfl
def nameL (l:List (List UInt8)):D:= .list (l.map fun x=> .str (bs x))
theorem nameL_get {l:List (List UInt8)} {k:Nat} (h:k<l.length):qget (nameL l) (k:Int) = .str (bs (l.getD k [])):=by
 rw[qget_n];simp[nameL,D.toList,List.getD,h]
theorem nameL_inb {l:List (List UInt8)} {k:Nat} (h:k<l.length):qinb (nameL l) (k:Int)=true:=by
 rw[qinb_c];simp[nameL,D.toList];omega
def ccL:List (List UInt8):=[[97,108],[101,113],[110,101],[108,116],[103,101],[108,101],[103,116],[98],[97,101],[98,101],[97],[110,101,103],[112,111,115],[111,118],[110,111]]
def opL:List (List UInt8):=[[109,111,118],[97,100,100],[115,117,98],[97,110,100],[111,114],[120,111,114],[109,117,108],[115,104,108],[115,104,114],[115,97,114],[99,109,112]]
def ccT (k:Nat):List UInt8:=ccL.getD k []
def opT (k:Nat):List UInt8:=opL.getD k []
theorem spec26 {k:Nat} (h:k<15):q26 [.int k]=some [.str (bs (ccT k))]:=by
 rw[q26_eq]
 have e:F26 [.int (k:Int)]=(bif qcmp .leq 0 (k:Int)then(bif qcmp .lss (k:Int) 15 then(bif qinb (nameL ccL) (k:Int)then some [.str (qstr (qget (nameL ccL) (k:Int)))]else none)else none)else none):=F26_eq (k:Int)
 rw[e,nameL_inb (l:=ccL) h,nameL_get (l:=ccL) h,qcmp_leq,qcmp_lss,decide_eq_true (show(0:Int)≤(k:Int)by omega),decide_eq_true (show(k:Int)<15 by omega),qstr_s]
 rfl
theorem sub5 {o:Int} (h:5≤o∧o≤15):qbin .sub .i64 o 5=(((o-5).toNat:Nat):Int):=by
 rw[qbin_eq];simp only[rbin];rw[wrap64' (by omega) (by omega)];omega
theorem spec56 {o:Int} (h:5≤o∧o≤15):q56 [.int o]=some [.str (bs (opT (o-5).toNat))]:=by
 rw[q56_eq]
 have hk:(o-5).toNat<opL.length:=by show _<11;omega
 have e:F56 [.int o]=(bif qcmp .leq 0 (qbin .sub .i64 o 5)then(bif qcmp .lss (qbin .sub .i64 o 5) 11 then(bif qinb (nameL opL) (qbin .sub .i64 o 5)then some [.str (qstr (qget (nameL opL) (qbin .sub .i64 o 5)))]else none)else none)else none):=F56_eq o
 rw[e,sub5 h,nameL_inb hk,nameL_get hk,qcmp_leq,qcmp_lss,decide_eq_true (show(0:Int)≤((o-5).toNat:Int)by omega),decide_eq_true (show((o-5).toNat:Int)<11 by omega),qstr_s]
 rfl
theorem spec35:q35 []=some [nameL ccL]:=by rw[q35_eq];exact F35_eq
theorem spec57:q57 []=some [nameL opL]:=by rw[q57_eq];exact F57_eq
theorem mI8 (n:Int):IntKind.i8.wrap n=if n%256<128 then n%256 else n%256-256:=by
 simp[IntKind.wrap,IntKind.bits,IntKind.signed]
 by_cases h:n%256<128
 ·rw[if_pos h,if_neg (by omega)]
 ·rw[if_neg h,if_pos (by omega)]
def near (n:Nat):Prop:=n≤127∨4294967168≤n
instance (n:Nat):Decidable (near n):=by unfold near;infer_instance
theorem hlen (n:Nat) (h:n<4294967296):(digs 16 n).length≤8:=digs_len (by omega) 7 n (by omega)
theorem spec32 (n:Nat):q32 [.int n]=some [.bool (decide (near n))]:=by
 rw[q32_eq,F32_eq,qiteB_c,show qcmp .leq (n:Int) 127=decide (n≤127)from leN n 127,show qcmp .geq (n:Int) 4294967168=decide (4294967168≤n)from geN n 4294967168]
 unfold near
 by_cases a:n≤127<;>simp[a]
theorem nearW (n:Nat) (h2:n<4294967296):qcmp .eql (qwrap .u32 (qwrap .i8 (n:Int))) (n:Int)=decide (near n):=by
 rw[qcmp_eql,qwrap_eq,mU32]
 refine decide_eq_decide.2 ?_
 unfold near
 rw[mI8]
 split<;>omega
end Go.Proofs.YtobhhfbdelnhfaaGreatDoor
namespace Go.Proofs.YtobhhfbdelnhfaaGreatDoor
set_option linter.unusedSimpArgs false
set_option linter.unusedVariables false
open Go Go.AM
theorem decode_lo {s:ByteArray} {i:Nat} (h:(s.get! i).toNat<128):(Utf8.decode s i)=((s.get! i).toNat,1):=by
 unfold Utf8.decode;simp[h]
theorem decode_hi {s:ByteArray} {i:Nat} (h:¬(s.get! i).toNat<128):128≤(Utf8.decode s i).1:=by
 unfold Utf8.decode;simp only[Nat.add_zero,h,if_false,Utf8.runeError]
 repeat' split
 all_goals simp_all
 all_goals omega
def byt (s:ByteArray) (i:Nat):Int:=(s.data.toList.getD i 0).toNat
theorem byt_get {s:ByteArray} {i:Nat} (h:i<s.size):((s.get! i).toNat:Int)=byt s i:=by
 have h1:i<s.data.toList.length:=by simpa using h
 have h2:i<s.data.size:=h
 unfold byt
 cases s with|mk bs=>simp only[ByteArray.get!,List.getD,getElem!_pos,h2];simp[h2]
theorem byt_le (s:ByteArray) (i:Nat):0≤byt s i∧byt s i≤255:=by
 unfold byt
 have:=(s.data.toList.getD i 0).toNat_lt
 omega
theorem idxS {s:ByteArray} {i:Nat}:qidxS s (i:Int)=byt s i:=by rw[qidxS_eq];simp[ridxS,byt,ByteArray.toList_eq]
theorem inbS {s:ByteArray} {i:Nat} (h:i<s.size):qinbS s (i:Int)=true:=by rw[qinbS_eq];simp only[rinbS];simp[h]
theorem lenS (s:ByteArray):qlenS s=(s.size:Int):=by rw[qlenS_eq]
theorem wrap_u64 {n:Int} (h0:0≤n) (h1:n<18446744073709551616):IntKind.u64.wrap n=n:=by
 show n.emod _=n
 exact Int.emod_eq_of_lt h0 (by simpa[IntKind.bits]using h1)
theorem wrap_i32 {n:Int} (h0:0≤n) (h1:n<2147483648):IntKind.i32.wrap n=n:=by
 simp only[IntKind.wrap,IntKind.bits,IntKind.signed]
 simp
 omega
theorem pow16:∀i:Nat,i≤10→(16:Int)^i≤1099511627776:=by decide
def dv (c:Int):Int:=if 48≤c∧c≤57 then c-48 else if 97≤c∧c≤102 then c-87 else -1
theorem q158_spec {c:Int} (h:0≤c∧c≤255):q158 [.int c]=some [.int (dv c)]:=by
 rw[q158_eq,F158_eq]
 simp only[qiteB_c,qcmp_geq,qcmp_leq,qbin_eq,rbin,qwrap_eq,dv]
 by_cases h1:48≤c∧c≤57
 ·have e1:IntKind.u8.wrap (c-48)=c-48:=by show(c-48).emod _=_;exact Int.emod_eq_of_lt (by omega) (by simp[IntKind.bits];omega)
  simp only[h1.1,h1.2,decide_true,cond_true,and_self,if_true,e1]
  rw[wrap64' (by omega) (by omega)]
 ·by_cases h2:97≤c∧c≤102
  ·have e1:IntKind.u8.wrap (c-97)=c-97:=by show(c-97).emod _=_;exact Int.emod_eq_of_lt (by omega) (by simp[IntKind.bits];omega)
   have h3:¬c≤57:=by omega
   have h4:48≤c:=by omega
   simp only[h2.1,h2.2,h3,h4,decide_true,decide_false,cond_true,cond_false,and_false,and_self,if_true,if_false,e1]
   rw[wrap64' (n:=c-97) (by omega) (by omega),wrap64' (by omega) (by omega)]
   congr 3;omega
  ·simp only[h1,h2,if_false]
   have:(bif decide (48≤c)then decide (c≤57)else false)=false:=by
    by_cases a:48≤c<;>by_cases b:c≤57<;>simp_all
   rw[this]
   have:(bif decide (97≤c)then decide (c≤102)else false)=false:=by
    by_cases a:97≤c<;>by_cases b:c≤102<;>simp_all
   rw[this]
   rfl
def dgN (s:ByteArray) (base:Int):Nat→Nat→Int→Option Int
 |0,_,n=>some n
 |k+1,i,n=>if dv (byt s i)<0∨base≤dv (byt s i)then none else dgN s base k (i+1) (n*base+dv (byt s i))
theorem dv_le (c:Int):dv c≤15:=by unfold dv;split;omega;split<;>omega
theorem pow_step {i:Nat} {n d:Int} (h:n<16^i) (hd:d≤15) (h0:0≤n) {b:Int} (hb:b≤16) (hb0:0≤b):n*b+d<16^(i+1):=by
 have h1:n*b≤n*16:=Int.mul_le_mul_of_nonneg_left hb h0
 rw[Int.pow_succ];omega
theorem loop147 {s:ByteArray} {base:Int} (hb:10≤base∧base≤16) (hz:s.size≤10):∀(k i:Nat) (n:Int),i+k=s.size→0≤n→n<16^i→
 loW (st147_5 [.str s, .int base]) [.int n, .int i]=some (match dgN s base k i n with|some m=>[.int 0, .int m]|none=>[.int 1]):=by
 intro k
 induction k with
 |zero=>
  intro i n hi h0 h1
  rw[loW_eq,st147_5_eq,lenS,qcmp_lss]
  simp only[show¬((i:Int)<s.size)by omega,decide_false,cond_false,dgN]
 |succ k ih=>
  intro i n hi h0 h1
  have hlt:i<s.size:=by omega
  have hc:=byt_le s i
  rw[loW_eq,st147_5_eq,lenS,qcmp_lss,inbS hlt,idxS,q158_spec hc]
  simp only[show((i:Int)<s.size)by omega,decide_true,cond_true,qsome_s,qnth_s,List.getD_cons_zero,qint_i,qiteB_c,qcmp_lss,qcmp_geq,dgN]
  by_cases h:dv (byt s i)<0∨base≤dv (byt s i)
  ·have:(bif decide (dv (byt s i)<0)then true else decide (base≤dv (byt s i)))=true:=by
    rcases h with h|h<;>simp[h]
   rw[this,if_pos h];rfl
  ·have:(bif decide (dv (byt s i)<0)then true else decide (base≤dv (byt s i)))=false:=by
    have h2:¬dv (byt s i)<0:=fun e=>h (.inl e)
    have h3:¬base≤dv (byt s i):=fun e=>h (.inr e)
    simp[h2,h3]
   rw[this,if_neg h]
   have hd:=dv_le (byt s i)
   have hp:=pow_step h1 hd h0 hb.2 (by omega)
   have hp10:=pow16 (i+1) (by omega)
   have hm:n*base≤n*16:=Int.mul_le_mul_of_nonneg_left hb.2 h0
   have hm0:0≤n*base:=Int.mul_nonneg h0 (by omega)
   have hn0:0≤dv (byt s i):=by omega
   simp only[cond_false,qbin_eq,rbin,qwrap_eq]
   rw[wrap_u64 (n:=base) (by omega) (by omega),wrap_u64 (n:=dv (byt s i)) hn0 (by omega),wrap_u64 (n:=n*base) hm0 (by omega),wrap_u64 (n:=n*base+dv (byt s i)) (by omega) (by omega)]
   have ha:=add_nat (i:=i) (by omega)
   rw[qbin_eq]at ha
   simp only[rbin]at ha
   rw[ha]
   exact ih (i+1) _ (by omega) (by omega) hp
theorem spec147 {s:ByteArray} {base:Int} (hb:10≤base∧base≤16):q147 [.str s, .int base]=some (if 1≤s.size∧s.size≤10 then(match dgN s base s.size 0 0 with|some m=>[.int m, .bool true]|none=>[.int 0, .bool false])else[.int 0, .bool false]):=by
 rw[q147_eq,F147_eq,lenS,qiteB_c,qcmp_lss,qcmp_gtr]
 by_cases h:1≤s.size∧s.size≤10
 ·have h1:¬((s.size:Int)<1):=by omega
  have h2:¬((10:Int)<s.size):=by omega
  have e:l147_5 [.str s, .int base] [.int 0, .int 0]=some (match dgN s base s.size 0 0 with|some m=>[.int 0, .int m]|none=>[.int 1]):=by
   rw[l147_5_eq]
   exact loop147 hb h.2 s.size 0 0 (by omega) (by omega) (by decide)
  simp only[h1,h2,decide_false,cond_false,h,and_self,if_true,e]
  cases dgN s base s.size 0 0<;>simp[qsome_s,qnth_s,qint_i,qcmp_eql]
 ·rw[if_neg h]
  have:(bif decide ((s.size:Int)<1)then true else decide ((10:Int)<s.size))=true:=by
   by_cases a:(s.size:Int)<1
   ·simp[a]
   ·have b:(10:Int)<s.size:=by omega
    simp[a,b]
  rw[this];rfl
noncomputable def nxtT (st:List D→Option (Sum (List D) (List D))) (x:Option (Sum (List D) (List D))):Option (List D):=match x with|none=>none|some (.inl s')=>loW st s'|some (.inr d)=>some d
theorem loW_nxt (st:List D→Option (Sum (List D) (List D))) (s:List D):loW st s=nxtT st (st s):=by
 rw[loW_eq];unfold nxtT
 cases st s with
 |none=>rfl
 |some x=>cases x<;>rfl
theorem loop60 {s:ByteArray} {base most:Int} (hb:10≤base∧base≤16) (hz:s.size≤1000):∀(k i:Nat) (n:Int),i+k=s.size→0≤n→n≤1099511627776→
 ∃r,loW (st60_3 [.str s, .int base, .int most, .str s]) [.int n, .int i]=some r∧(r.getD 0 .other = .int 0∨r.getD 0 .other = .int 1)∧∃m,r.getD 1 .other = .int m∧
  (s.size≤10→n<16^i→(match dgN s base k i n with|some x=>r.getD 0 .other = .int 0∧m=x|none=>r.getD 0 .other = .int 1)):=by
 intro k
 induction k with
 |zero=>
  intro i n hi h0 h1
  rw[loW_nxt,st60_3_eq,lenS,qcmp_lss]
  simp only[show¬((i:Int)<s.size)by omega,decide_false,cond_false]
  exact⟨_,rfl, .inl rfl,n,rfl,fun _ _=>by simp[dgN]⟩
 |succ k ih=>
  intro i n hi h0 h1
  have hlt:i<s.size:=by omega
  have hc:=byt_le s i
  rw[loW_nxt,st60_3_eq,lenS,qcmp_lss]
  simp only[show((i:Int)<s.size)by omega,decide_true,cond_true,qiteB_c,qiteI_eq]
  have bad:∀(x:D),(∃y,x = .int y)→(s.size≤10→n<16^i→dgN s base (k+1) i n=none)→∃r,nxtT (st60_3 [.str s, .int base, .int most, .str s]) (some (Sum.inr [.int 1,x]))=some r∧(r.getD 0 .other = .int 0∨r.getD 0 .other = .int 1)∧∃m,r.getD 1 .other = .int m∧
   (s.size≤10→n<16^i→(match dgN s base (k+1) i n with|some x=>r.getD 0 .other = .int 0∧m=x|none=>r.getD 0 .other = .int 1)):=by
   rintro x ⟨y,rfl⟩ hx
   refine⟨_,rfl, .inr rfl,y,rfl,fun h2 h3=> ?_⟩
   rw[hx h2 h3];rfl
  by_cases hlo:(s.get! i).toNat<128
  ·have hr:qrune s i=byt s i:=by
    rw[qrune,veil_eq];simp only[Int.toNat_natCast,decode_lo hlo];exact byt_get hlt
   have hw:qrw s i=((i+1:Nat):Int):=by
    rw[qrw,veil_eq];simp only[Int.toNat_natCast,decode_lo hlo];omega
   rw[hr,hw]
   have go:∀(d:Int),d=dv (byt s i)→0≤d→∃r,nxtT (st60_3 [.str s, .int base, .int most, .str s]) (bif decide (base≤d)then some (Sum.inr [.int 1, .int ((i+1:Nat):Int)])else bif decide (1099511627776<n*base+d)then some (Sum.inr [.int 1, .int ((i+1:Nat):Int)])else some (Sum.inl [.int (n*base+d), .int ((i+1:Nat):Int)]))=some r∧(r.getD 0 .other = .int 0∨r.getD 0 .other = .int 1)∧∃m,r.getD 1 .other = .int m∧
    (s.size≤10→n<16^i→(match dgN s base (k+1) i n with|some x=>r.getD 0 .other = .int 0∧m=x|none=>r.getD 0 .other = .int 1)):=by
    intro d hd hd0
    have hd15:d≤15:=by rw[hd];exact dv_le _
    by_cases hbd:base≤d
    ·simp only[hbd,decide_true,cond_true]
     exact bad _ ⟨_,rfl⟩ fun _ _=>by simp only[dgN];rw[if_pos (.inr (by rw[← hd];exact hbd))]
    ·simp only[hbd,decide_false,cond_false]
     have hm0:0≤n*base:=Int.mul_nonneg h0 (by omega)
     by_cases hbig:1099511627776<n*base+d
     ·simp only[hbig,decide_true,cond_true]
      refine bad _ ⟨_,rfl⟩ fun h2 h3=> ?_
      have hp:=pow_step h3 hd15 h0 hb.2 (by omega)
      have hp10:=pow16 (i+1) (by omega)
      omega
     ·simp only[hbig,decide_false,cond_false]
      obtain⟨r,e1,e2,m,e3,e4⟩:=ih (i+1) (n*base+d) (by omega) (by omega) (by omega)
      refine⟨r,e1,e2,m,e3,fun h2 h3=> ?_⟩
      have:=e4 h2 (pow_step h3 hd15 h0 hb.2 (by omega))
      simp only[dgN]
      rw[if_neg (by rw[← hd];omega), ← hd]
      exact this
   have hm:n*base≤n*16:=Int.mul_le_mul_of_nonneg_left hb.2 h0
   have hm0:0≤n*base:=Int.mul_nonneg h0 (by omega)
   have wm:IntKind.u64.wrap (n*base)=n*base:=wrap_u64 hm0 (by omega)
   simp only[qcmp_geq,qcmp_leq,qcmp_gtr,qbin_eq,rbin,qwrap_eq,wm]
   by_cases h1':48≤byt s i∧byt s i≤57
   ·have w1:IntKind.i32.wrap (byt s i-48)=byt s i-48:=wrap_i32 (by omega) (by omega)
    have w2:IntKind.u64.wrap (byt s i-48)=byt s i-48:=wrap_u64 (by omega) (by omega)
    have w3:IntKind.u64.wrap (n*base+(byt s i-48))=n*base+(byt s i-48):=wrap_u64 (by omega) (by omega)
    simp only[h1'.1,h1'.2,decide_true,cond_true,w1,w2,w3]
    exact go _ (by rw[dv,if_pos h1']) (by omega)
   ·have e0:(bif decide (48≤byt s i)then decide (byt s i≤57)else false)=false:=by
     by_cases a:48≤byt s i<;>by_cases b:byt s i≤57<;>simp_all
    rw[e0]
    by_cases h2':97≤byt s i∧byt s i≤102
    ·have w1:IntKind.i32.wrap (byt s i-97)=byt s i-97:=wrap_i32 (by omega) (by omega)
     have w2:IntKind.u64.wrap (byt s i-97)=byt s i-97:=wrap_u64 (by omega) (by omega)
     have w4:IntKind.u64.wrap (byt s i-97+10)=byt s i-97+10:=wrap_u64 (by omega) (by omega)
     have w3:IntKind.u64.wrap (n*base+(byt s i-97+10))=n*base+(byt s i-97+10):=wrap_u64 (by omega) (by omega)
     simp only[h2'.1,h2'.2,decide_true,cond_true,cond_false,w1,w2,w4,w3]
     exact go (byt s i-97+10) (by rw[dv,if_neg h1',if_pos h2'];omega) (by omega)
    ·have e1:(bif decide (97≤byt s i)then decide (byt s i≤102)else false)=false:=by
      by_cases a:97≤byt s i<;>by_cases b:byt s i≤102<;>simp_all
     rw[e1]
     simp only[cond_false,Int.le_refl,decide_true,cond_true]
     exact bad _ ⟨_,rfl⟩ fun _ _=>by simp only[dgN,dv,h1',h2',if_false];rw[if_pos (.inl (by omega))]
  ·have hr:128≤qrune s i:=by
    rw[qrune,veil_eq];simp only[Int.toNat_natCast];have:=decode_hi hlo;omega
   have hby:128≤byt s i:=by rw[← byt_get hlt];omega
   simp only[qcmp_geq,qcmp_leq]
   have a1:¬qrune s i≤57:=by omega
   have a2:¬qrune s i≤102:=by omega
   have a3:48≤qrune s i:=by omega
   have a4:97≤qrune s i:=by omega
   simp only[a1,a2,a3,a4,decide_true,decide_false,cond_true,cond_false,Int.le_refl]
   refine bad _ ⟨_,rfl⟩ fun _ _=> ?_
   have b1:¬(48≤byt s i∧byt s i≤57):=by omega
   have b2:¬(97≤byt s i∧byt s i≤102):=by omega
   simp only[dgN,dv,b1,b2,if_false];rw[if_pos (.inl (by omega))]
theorem spec60 {s:ByteArray} {base most:Int} (hb:10≤base∧base≤16) (hm:most≤10) (hz:s.size≤1000):∃(n:Int) (b:Bool),q60 [.str s, .int base, .int most]=some [.int n, .bool b]∧
 (match(if 1≤s.size∧(s.size:Int)≤most then dgN s base s.size 0 0 else none)with|some m=>n=m∧b=true|none=>b=false):=by
 obtain⟨r,e1,e2,m,e3,e4⟩:=loop60 (most:=most) hb hz s.size 0 0 (by omega) (by omega) (by omega)
 have e:l60_3 [.str s, .int base, .int most, .str s] [.int 0, .int 0]=some r:=by rw[l60_3_eq];exact e1
 rw[q60_eq,F60_eq,e]
 simp only[qsome_s,qnth_s,e3,qint_i,cond_true,lenS,qiteB_c,qcmp_geq,qcmp_leq,qcmp_eql]
 rcases e2 with e2|e2
 ·simp only[e2,qint_i,decide_true,cond_true]
  refine⟨m,_,rfl,?_⟩
  by_cases h:1≤s.size∧(s.size:Int)≤most
  ·have h5:=e4 (by omega) (by decide)
   rw[if_pos h]
   cases hd:dgN s base s.size 0 0 with
   |none=>rw[hd]at h5;rw[e2]at h5;simp at h5
   |some x=>
    rw[hd]at h5
    refine⟨h5.2,?_⟩
    simp[h.2];omega
  ·rw[if_neg h]
   show _=_
   by_cases a:(1:Int)≤s.size
   ·have b:¬(s.size:Int)≤most:=fun b=>h ⟨by omega,b⟩
    simp[a,b]
   ·simp[a]
 ·simp only[e2,qint_i,show¬((1:Int)=0)by omega,decide_false,cond_false]
  refine⟨0,false,rfl,?_⟩
  by_cases h:1≤s.size∧(s.size:Int)≤most
  ·have h5:=e4 (by omega) (by decide)
   rw[if_pos h]
   cases hd:dgN s base s.size 0 0 with
   |none=>rfl
   |some x=>rw[hd]at h5;rw[e2]at h5;simp at h5
  ·rw[if_neg h]
theorem dgN_nn {s:ByteArray} {base:Int} (hb:0≤base):∀(k i:Nat) (n m:Int),0≤n→dgN s base k i n=some m→0≤m
 |0,_,n,m,h,e=>by simp only[dgN,Option.some.injEq]at e;omega
 |k+1,i,n,m,h,e=>by
  simp only[dgN]at e
  split at e
  ·cases e
  ·refine dgN_nn hb k (i+1) _ m ?_ e
   have:=Int.mul_nonneg h hb
   omega
end Go.Proofs.YtobhhfbdelnhfaaGreatDoor
namespace Go.Proofs.YtobhhfbdelnhfaaGreatDoor
set_option linter.unusedSimpArgs false
set_option linter.unusedVariables false
open Go Go.AM
noncomputable def has (s p:ByteArray):Bool:=bif decide (p.size≤s.size)then qcmpS .eql (qsubS s 0 (qlenS p)) p else false
theorem spec59 (s p:ByteArray):q59 [.str s, .str p]=some [.str (bif has s p then qsubS s (qlenS p) (qlenS s)else s), .bool (has s p)]:=by
 rw[q59_eq,F59_eq,q102_eq,F102_eq,q136_eq,F136_eq]
 simp only[qiteB_c,qcmp_geq,qcmp_leq,lenS,has,show qand=fun a b=>a&&b from veil_eq _]
 by_cases h:p.size≤s.size
 ·have h1:(p.size:Int)≤s.size:=by omega
  have h2:(0:Int)≤p.size:=by omega
  simp only[h,h1,h2,decide_true,cond_true,Int.le_refl,Bool.and_self,qsome_s,qnth_s,List.getD_cons_zero,List.getD_cons_succ,qbool_b,qnot_c]
  cases qcmpS BinOp.eql (qsubS s 0 (p.size:Int)) p<;>simp[qsome_s,qnth_s,qstr_s,qbool_b]
 ·have h1:¬(p.size:Int)≤s.size:=by omega
  simp only[h,h1,decide_false,cond_false,cond_true,qsome_s,qnth_s,List.getD_cons_zero,List.getD_cons_succ,qbool_b,qnot_c,Bool.not_false,qstr_s]
theorem byt0 {l:List UInt8} {i:Nat}:byt ⟨⟨l⟩⟩ i=(l.getD i 0).toNat:=rfl
theorem eqS (a b:ByteArray):qcmpS .eql a b=(a.data.toList==b.data.toList):=by rw[qcmpS_eq];simp[rcmpS,ByteArray.toList_eq]
theorem u8_eq {x:UInt8} {n:Nat} (hn:n<256):((x.toNat:Int)=(n:Int))↔x=UInt8.ofNat n:=by
 constructor
 ·intro h
  have h1:x.toNat=n:=by omega
  rw[← h1];exact(UInt8.ofNat_toNat).symm
 ·rintro rfl
  simp[UInt8.toNat_ofNat',Nat.mod_eq_of_lt hn]
theorem sub_list {l:List UInt8} {n:Nat}:(qsubS ⟨⟨l⟩⟩ 0 (n:Int)).data.toList=l.take n:=by
 rw[qsubS_eq]
 simp[ByteArray.extract,ByteArray.copySlice]
theorem has_minus (s:ByteArray):has s ⟨#[45]⟩=(decide (0<s.size)&&decide (byt s 0=45)):=by
 obtain⟨⟨l⟩⟩:=s
 have hs:(ByteArray.mk ⟨l⟩).size=l.length:=rfl
 have hp:(ByteArray.mk #[45]).size=1:=rfl
 simp only[has,hs,hp,lenS,eqS]
 cases l with
 |nil=>rfl
 |cons x l=>
  rw[show((1:Nat):Int)=((1:Nat):Int)from rfl,sub_list]
  simp only[List.length_cons,show 1≤l.length+1 by omega,show 0<l.length+1 by omega,decide_true,cond_true,Bool.true_and,List.take_succ_cons,List.take_zero,byt0,List.getD_cons_zero]
  rw[Bool.eq_iff_iff,beq_iff_eq,decide_eq_true_eq,show(45:Int)=((45:Nat):Int)from rfl,u8_eq (by omega)]
  simp
theorem has_hex {s:ByteArray} (h:has s ⟨#[48,120]⟩=true):2≤s.size∧byt s 0=48∧byt s 1=120:=by
 obtain⟨⟨l⟩⟩:=s
 have hs:(ByteArray.mk ⟨l⟩).size=l.length:=rfl
 have hp:(ByteArray.mk #[48,120]).size=2:=rfl
 simp only[has,hs,hp,lenS,eqS]at h
 by_cases h2:2≤l.length
 ·simp only[h2,decide_true,cond_true]at h
  rw[sub_list,beq_iff_eq]at h
  match l,h2 with
  |x::y::l,_=>
   simp only[List.take_succ_cons,List.take_zero,List.cons.injEq,and_true]at h
   refine⟨by rw[hs];simp only[List.length_cons];omega,?_,?_⟩
   ·simp only[byt0,List.getD_cons_zero];rw[h.1];rfl
   ·simp only[byt0,List.getD_cons_zero,List.getD_cons_succ];rw[h.2];rfl
 ·simp[h2]at h
theorem is_zero (s:ByteArray):qcmpS .eql s ⟨#[48]⟩=true↔s.size=1∧byt s 0=48:=by
 obtain⟨⟨l⟩⟩:=s
 have hs:(ByteArray.mk ⟨l⟩).size=l.length:=rfl
 rw[eqS,beq_iff_eq,hs]
 match l with
 | []=>simp
 | [x]=>
   simp only[byt0,List.getD_cons_zero,List.length_cons,List.length_nil]
   rw[show(48:Int)=((48:Nat):Int)from rfl,u8_eq (by omega)]
   simp
 |x::y::l=>simp
theorem size_sub {s:ByteArray} {n:Nat} (h:n≤s.size):(qsubS s (n:Int) (s.size:Int)).size=s.size-n:=by
 rw[qsubS_eq]
 simp[ByteArray.size_extract]
theorem digits_eq {t:ByteArray} {base most:Int} (hb:10≤base∧base≤16) (hm:most≤10) (hz:t.size≤1000):
 (∃n m,q60 [.str t, .int base, .int most]=some [.int n, .bool false]∧(q147 [.str t, .int base]=some [.int m, .bool false]∨(q147 [.str t, .int base]=some [.int m, .bool true]∧most<t.size)))∨
 (∃m,0≤m∧1≤t.size∧(t.size:Int)≤most∧dgN t base t.size 0 0=some m∧q60 [.str t, .int base, .int most]=some [.int m, .bool true]∧q147 [.str t, .int base]=some [.int m, .bool true]):=by
 obtain⟨n,b,e1,e2⟩:=spec60 hb hm hz
 have e3:=spec147 (s:=t) hb
 rw[e1,e3]
 by_cases h:1≤t.size∧(t.size:Int)≤most
 ·rw[if_pos h]at e2
  have h10:1≤t.size∧t.size≤10:=by omega
  rw[if_pos h10]
  cases hd:dgN t base t.size 0 0 with
  |none=>
   rw[hd]at e2
   simp only at e2
   subst e2
   exact .inl ⟨n,0,rfl, .inl rfl⟩
  |some m=>
   rw[hd]at e2
   simp only at e2
   obtain⟨rfl,rfl⟩:=e2
   exact .inr ⟨n,dgN_nn (by omega) _ _ _ _ (by omega) hd,h.1,h.2,rfl,rfl,rfl⟩
 ·rw[if_neg h]at e2
  simp only at e2
  subst e2
  left
  by_cases h10:1≤t.size∧t.size≤10
  ·rw[if_pos h10]
   cases hd:dgN t base t.size 0 0 with
   |none=>exact⟨n,0,rfl, .inl rfl⟩
   |some m=>exact⟨n,m,rfl, .inr ⟨rfl,by omega⟩⟩
  ·rw[if_neg h10]
   exact⟨n,0,rfl, .inl rfl⟩
theorem neg32 {m:Int} (h0:0≤m) (h1:m≤2147483648):qun .neg .u32 (qwrap .u32 m)=qwrap .u32 (qbin .sub .u64 4294967296 m):=by
 rw[qwrap_eq,qbin_eq,qun_eq]
 simp only[run1,rbin]
 rw[wrap_u64 (n:=4294967296-m) (by omega) (by omega)]
 have w:∀n:Int,IntKind.u32.wrap n=n%4294967296:=fun n=>by simp[IntKind.wrap,IntKind.bits,IntKind.signed]
 rw[w,w,w]
 omega
theorem num_eq {s:ByteArray} (hz:s.size≤1000):∃(n:Int) (b:Bool),q36 [.str s]=some [.int n, .bool b]∧q126 [.str s]=some [.int n, .bool b]:=by
 have l2:qlenS ⟨#[48,120]⟩=2:=by rw[lenS];rfl
 have l1:qlenS ⟨#[45]⟩=1:=by rw[lenS];rfl
 have hqand:qand=fun a b=>a&&b:=veil_eq _
 rw[q36_eq,F36_eq,q126_eq,F126_eq,spec59,spec59]
 simp only[qsome_s,qnth_s,List.getD_cons_zero,List.getD_cons_succ,qbool_b,qstr_s,cond_true,l2,l1]
 cases hx:has s ⟨#[48,120]⟩with
 |true=>
  obtain⟨h2,hb0,hb1⟩:=has_hex hx
  have hE:qcmpS .eql (qsubS s 0 2) ⟨#[48,120]⟩=true:=by
   have:=hx
   simp only[has,l2,show(ByteArray.mk #[48,120]).size=2 from rfl,h2,decide_true,cond_true]at this
   exact this
  have ht:(qsubS s 2 (s.size:Int)).size=s.size-2:=size_sub (n:=2) h2
  simp only[cond_true,lenS,qiteB_c,qcmp_gtr,qcmp_leq,hqand,hE]
  have i2:(2:Int)≤s.size:=by omega
  have d16:=digits_eq (t:=qsubS s 2 (s.size:Int)) (base:=16) (most:=8) (by omega) (by omega) (by omega)
  by_cases h3:(2:Int)<s.size
  ·simp only[h3,i2,decide_true,cond_true,Int.le_refl,show(0:Int)≤2 by omega,Bool.and_self]
   rcases d16 with⟨n,m,e1,e2⟩|⟨m,hm,t1,t2,_,e1,e2⟩
   ·rw[e1]
    simp only[qsome_s,qnth_s,List.getD_cons_zero,List.getD_cons_succ,qbool_b,qnot_c,Bool.not_false,cond_true]
    refine⟨0,false,rfl,?_⟩
    rcases e2 with e2|⟨e2,hl⟩
    ·rw[e2];simp[qsome_s,qnth_s,qbool_b,qnot_c]
    ·have:(10:Int)<s.size:=by omega
     rw[e2];simp[qsome_s,qnth_s,qbool_b,qnot_c,this]
   ·have:¬(10:Int)<s.size:=by omega
    rw[e1,e2]
    simp only[qsome_s,qnth_s,List.getD_cons_zero,List.getD_cons_succ,qbool_b,qnot_c,Bool.not_true,cond_true,cond_false,this,decide_false,qint_i]
    exact⟨_,_,rfl,rfl⟩
  ·have hs2:s.size=2:=by omega
   have hi0:qinbS s 0=true:=by have:=inbS (s:=s) (i:=0) (by omega);simpa using this
   have hx0:qidxS s 0=48:=by have:=idxS (s:=s) (i:=0);rw[hb0]at this;simpa using this
   have e29:q147 [.str s, .int 10]=some [.int 0, .bool false]:=by
    rw[spec147 (by omega),if_pos (by omega),hs2]
    simp only[dgN,hb0,hb1,dv]
    simp
   rcases d16 with⟨n,m,e1,e2⟩|⟨m,hm,t1,t2,_,e1,e2⟩
   ·have hc45:¬((48:Int)=45):=by omega
    rw[e1]
    simp only[h3,decide_false,cond_false,cond_true,qsome_s,qnth_s,List.getD_cons_zero,List.getD_cons_succ,qbool_b,qnot_c,Bool.not_false,hs2,hi0,hx0,qcmp_eql,hc45,show((0:Int)<(2:Nat))by omega,decide_true,qiteS_eq,e29]
    exact⟨_,_,rfl,rfl⟩
   ·omega
 |false=>
  have hE:(bif decide ((2:Int)<s.size)then qcmpS .eql (qsubS s 0 2) ⟨#[48,120]⟩else false)=false:=by
   by_cases h3:(2:Int)<s.size
   ·simp only[has,l2,show(ByteArray.mk #[48,120]).size=2 from rfl,show 2≤s.size by omega,decide_true,cond_true]at hx
    simp[h3,hx]
   ·simp[h3]
  have g1:(bif decide ((2:Int)<s.size)then(decide ((0:Int)≤0)&&(decide ((0:Int)≤2)&&decide ((2:Int)≤s.size)))else true)=true:=by
   by_cases h3:(2:Int)<s.size
   ·have:(2:Int)≤s.size:=by omega
    simp[h3,this]
   ·simp[h3]
  have hM:(bif decide ((0:Int)<s.size)then decide (qidxS s 0=45)else false)=has s ⟨#[45]⟩:=by
   rw[has_minus]
   have:qidxS s 0=byt s 0:=by have:=idxS (s:=s) (i:=0);simpa using this
   rw[this]
   by_cases h0:0<s.size
   ·have:(0:Int)<s.size:=by omega
    simp[h0,this]
   ·have:¬(0:Int)<s.size:=by omega
    simp[h0,this]
  have g2:(bif decide ((0:Int)<s.size)then qinbS s 0 else true)=true:=by
   by_cases h0:(0:Int)<s.size
   ·rw[decide_eq_true h0]
    have:=inbS (s:=s) (i:=0) (by omega)
    simp only[cond_true];simpa using this
   ·rw[decide_eq_false h0];rfl
  have g3:(bif has s ⟨#[45]⟩then(decide ((0:Int)≤1)&&(decide ((1:Int)≤s.size)&&decide ((s.size:Int)≤s.size)))else true)=true:=by
   cases hm:has s ⟨#[45]⟩with
   |false=>rfl
   |true=>
    rw[has_minus]at hm
    simp only[Bool.and_eq_true,decide_eq_true_eq]at hm
    have:(1:Int)≤s.size:=by omega
    simp[this]
  simp only[cond_false,lenS,qiteB_c,qcmp_gtr,qcmp_leq,qcmp_eql,qcmp_geq,hqand,hE,g1,cond_true,g2,hM,g3,qiteS_eq]
  obtain⟨u,hu⟩:∃u,u=(bif has s ⟨#[45]⟩then qsubS s 1 (s.size:Int)else s):=⟨_,rfl⟩
  rw[← hu]
  have hus:u.size≤1000:=by
   rw[hu]
   cases hm:has s ⟨#[45]⟩with
   |false=>exact hz
   |true=>
    rw[has_minus]at hm
    simp only[Bool.and_eq_true,decide_eq_true_eq]at hm
    have h1:(qsubS s 1 (s.size:Int)).size=s.size-1:=size_sub (n:=1) (by omega)
    simp only[cond_true];omega
  have d10:=digits_eq (t:=u) (base:=10) (most:=10) (by omega) (by omega) hus
  cases hz0:qcmpS .eql s ⟨#[48]⟩with
  |true=>
   obtain⟨hs1,hb0⟩:=(is_zero s).1 hz0
   have hm:has s ⟨#[45]⟩=false:=by rw[has_minus,hb0];simp
   rw[hm]at hu
   simp only[cond_false]at hu
   subst hu
   have e29:q147 [.str u, .int 10]=some [.int 0, .bool true]:=by
    rw[spec147 (by omega),if_pos (by omega),hs1]
    simp only[dgN,hb0,dv]
    simp
   have hi0:qinbS u 0=true:=by have:=inbS (s:=u) (i:=0) (by omega);simpa using this
   have hx0:qidxS u 0=48:=by have:=idxS (s:=u) (i:=0);rw[hb0]at this;simpa using this
   simp only[cond_true,hm,e29,qsome_s,qnth_s,List.getD_cons_zero,List.getD_cons_succ,qbool_b,qnot_c,Bool.not_true,Bool.not_false,cond_false,hi0,hx0,hs1,decide_true,qint_i]
   exact⟨0,true,rfl,by rw[qwrap_eq];rfl⟩
  |false=>
   simp only[cond_false]
   rcases d10 with⟨n,m,e1,e2⟩|⟨m,hm0,t1,t2,_,e1,e2⟩
   ·have e2':∃m,q147 [.str u, .int 10]=some [.int m, .bool false]:=by
     rcases e2 with e2|⟨e2,hl⟩
     ·exact⟨m,e2⟩
     ·have e3:=spec147 (s:=u) (base:=10) (by omega)
      rw[if_neg (by omega)]at e3
      exact⟨0,e3⟩
    obtain⟨m',e3⟩:=e2'
    rw[e1,e3]
    simp only[qsome_s,qnth_s,List.getD_cons_zero,List.getD_cons_succ,qbool_b,qnot_c,Bool.not_false,cond_true]
    exact⟨0,false,rfl,rfl⟩
   ·have hi0:qinbS u 0=true:=by have:=inbS (s:=u) (i:=0) (by omega);simpa using this
    have hx0:qidxS u 0=byt u 0:=by have:=idxS (s:=u) (i:=0);simpa using this
    rw[e1,e2]
    simp only[qsome_s,qnth_s,List.getD_cons_zero,List.getD_cons_succ,qbool_b,qnot_c,Bool.not_true,cond_true,cond_false,hi0,hx0,qint_i]
    by_cases h48:byt u 0=48
    ·have hlong:(bif decide ((1:Int)<u.size)then true else has s ⟨#[45]⟩)=true:=by
      by_cases hl:(1:Int)<u.size
      ·simp[hl]
      ·cases hm:has s ⟨#[45]⟩with
       |true=>simp[hl]
       |false=>
        rw[hm]at hu
        simp only[cond_false]at hu
        rw[hu]at h48 hl t1
        rw[(is_zero s).2 ⟨by omega,h48⟩]at hz0
        cases hz0
     simp only[h48,decide_true,cond_true,hlong]
     exact⟨0,false,rfl,rfl⟩
    ·simp only[h48,decide_false,cond_false]
     cases hm:has s ⟨#[45]⟩with
     |false=>
      simp only[cond_false,cond_true,Bool.not_false]
      by_cases hb:(4294967296:Int)≤m
      ·have:(4294967295:Int)<m:=by omega
       simp only[hb,this,decide_true,cond_true]
       exact⟨0,false,rfl,rfl⟩
      ·have:¬(4294967295:Int)<m:=by omega
       simp only[hb,this,decide_false,cond_false]
       exact⟨_,true,rfl,rfl⟩
     |true=>
      simp only[cond_false,cond_true,Bool.not_true]
      by_cases hb:(2147483648:Int)<m
      ·simp only[hb,decide_true,cond_true]
       refine⟨0,false,?_,rfl⟩
       cases decide ((4294967296:Int)≤m)<;>rfl
      ·have:¬(4294967296:Int)≤m:=by omega
       simp only[hb,this,decide_false,cond_false]
       exact⟨_,true,rfl,by rw[neg32 hm0 (by omega)]⟩
theorem reg_eq (s:ByteArray):∃(n:Int) (b:Bool),q108 [.str s]=some [.int n, .bool b]∧q114 [.str s]=some [.int n, .bool b]:=by
 rw[q108_eq,F108_eq,q114_eq,F114_eq]
 simp only[lenS,qiteB_c,qcmp_neq,qcmp_eql,qcmp_lss,qcmp_gtr,qcmp_leq,qcmp_geq]
 by_cases h:(s.size:Int)=2
 ·have i0:qinbS s 0=true:=by have:=inbS (s:=s) (i:=0) (by omega);simpa using this
  have i1:qinbS s 1=true:=by have:=inbS (s:=s) (i:=1) (by omega);simpa using this
  simp only[h,decide_true,Bool.not_true,cond_false,cond_true,i0,i1]
  by_cases a:qidxS s 0=114<;>by_cases b:48≤qidxS s 1<;>by_cases c:qidxS s 1≤55
  all_goals
   have b':decide (qidxS s 1<48) = !decide (48≤qidxS s 1):=by rw[Bool.eq_iff_iff];simp
   have c':decide (55<qidxS s 1) = !decide (qidxS s 1≤55):=by rw[Bool.eq_iff_iff];simp
   simp only[a,b,c,b',c',decide_true,decide_false,Bool.not_true,Bool.not_false,cond_true,cond_false]
   exact⟨_,_,rfl,rfl⟩
 ·simp only[h,decide_false,Bool.not_false,cond_true,cond_false]
  exact⟨_,_,rfl,rfl⟩
end Go.Proofs.YtobhhfbdelnhfaaGreatDoor
