/-
  Made by gen3.py: what functions of the seat compute, as partial functions on data, and that they do.
-/
import Derived.Test.YtfdedgmlafelaaaGreatDoorM3
import Derived.KernelRfl
import Derived.Test.YtfdedgmlafelaaaGreatDoorM1
set_option linter.unusedVariables false
set_option linter.unusedSimpArgs false
open Go Go.AM
namespace Go.Proofs.YtfdedgmlafelaaaGreatDoor
set_option maxRecDepth 100000
set_option linter.unusedSimpArgs false
set_option linter.unusedVariables false
def S148_148:FunS:=⟨[⟨true,(.int .i64)⟩,⟨true,(.edat 25)⟩],[],[⟨true, .bool⟩],[]⟩
noncomputable def F148_148:List D→Option (List D):=liftX env tb17 60 12 148 S148_148
theorem F148_148_eq (sn0:Int) (sd1:D):F148_148 [(D.int sn0),sd1] =
 some [(D.bool (qiteB (qcmp BinOp.lss sn0 0) Bool.true (qcmp BinOp.geq sn0 (qlen (qfld sd1 1)))))]:=by kernel_rfl
noncomputable def q148_148:List D→Option (List D):=veil (F148_148)
theorem q148_148_eq:q148_148=F148_148:=veil_eq _
noncomputable def tb148_148:Tb:=Tb.addF tb17 148 S148_148 (q148_148)
theorem ok_tb148_148:TbOk env (tb148_148):=addFunF ok_tb17 148 (by kernel_rfl) _ (q148_148_eq)
def S122_148_2:LoopS:=⟨0,[⟨false,(.rows 3)⟩,⟨false,(.func 148 [] [(.edat 25)])⟩,uF,uF,⟨false,(.lit (.int .i64 0))⟩,uF,uF,⟨false,(.int .i64)⟩,⟨true,(.int .i64)⟩,uF,uF,uF,uF,uF,uF,uF,uF,uF,uF],[],[⟨0,0,[⟨false,(.rows 3)⟩,⟨false,(.func 148 [] [(.edat 25)])⟩,uT,uT,⟨true,(.lit (.int .i64 0))⟩,uT,uT,⟨false,(.int .i64)⟩,uT,uT,uT,uT,uT,uT,uT,uT,uT,uT,uT],[]⟩,⟨1,0,[⟨false,(.rows 3)⟩,⟨false,(.func 148 [] [(.edat 25)])⟩,uT,uT,⟨true,(.int .i64)⟩,uT,uT,⟨false,(.int .i64)⟩,uT,uT,uT,uT,uT,uT,uT,uT,uT,uT,uT],[]⟩]⟩
noncomputable def st122_148_2 (p s:List D):Option (Sum (List D) (List D)):=stepQX env tb148_148 60 12 122 (loopC 122 2) S122_148_2 p s
theorem st122_148_2_eq (pd0:D) (pd1:D) (pn2:Int) (sn0:Int):st122_148_2 [pd0,pd1,(D.int pn2)] [(D.int sn0)] =
 bif (qcmp BinOp.lss sn0 pn2)then
 bif (qinb pd0 sn0)then
 bif (qsome (q148_148 [(D.int (qint (qget pd0 sn0))),pd1]))then
 bif (qbool (qnth (q148_148 [(D.int (qint (qget pd0 sn0))),pd1]) 0))then
 some (Sum.inr [(D.int 1),(D.int sn0)])
 else
 some (Sum.inl [(D.int (qbin BinOp.add IntKind.i64 sn0 1))])
 else
 none
 else
 none
 else
 some (Sum.inr [(D.int 0)]):=by
 have h:st122_148_2 [pd0,pd1,(D.int pn2)] [(D.int sn0)] =
  bif (qcmp BinOp.lss sn0 pn2)then
  bif (qinb pd0 sn0)then
  bif (qsome (q148_148 [(D.int (qint (qget pd0 sn0))),pd1]))then
  bif (qbool (qnth (q148_148 [(D.int (qint (qget pd0 sn0))),pd1]) 0))then
  bif (qeqD pd0 pd0)then
  bif (qeqD pd1 pd1)then
  bif (qeqD (D.int pn2) (D.int pn2))then
  some (Sum.inr [(D.int 1),(D.int sn0)])
  else
  none
  else
  none
  else
  none
  else
  bif (qeqD pd0 pd0)then
  bif (qeqD pd1 pd1)then
  bif (qeqD (D.int pn2) (D.int pn2))then
  some (Sum.inl [(D.int (qbin BinOp.add IntKind.i64 sn0 1))])
  else
  none
  else
  none
  else
  none
  else
  none
  else
  none
  else
  bif (qeqD pd0 pd0)then
  bif (qeqD pd1 pd1)then
  bif (qeqD (D.int pn2) (D.int pn2))then
  some (Sum.inr [(D.int 0)])
  else
  none
  else
  none
  else
  none:=by kernel_rfl
 rw[h];simp only[qeqD_self,qeqI_self,qeq_len,show qcmp BinOp.eql 0 (qlen (D.list []))=true from qeq_len [],show∀a,qcmp BinOp.eql 1 (qlen (D.list [a]))=true from fun a=>qeq_len [a],show∀a b,qcmp BinOp.eql 2 (qlen (D.list [a,b]))=true from fun a b=>qeq_len [a,b],show∀a b c,qcmp BinOp.eql 3 (qlen (D.list [a,b,c]))=true from fun a b c=>qeq_len [a,b,c],show∀a b c d,qcmp BinOp.eql 4 (qlen (D.list [a,b,c,d]))=true from fun a b c d=>qeq_len [a,b,c,d],cond_true]
noncomputable def l122_148_2:List D→List D→Option (List D):=veil fun p s=>loW (st122_148_2 p) s
theorem l122_148_2_eq:l122_148_2=fun p s=>loW (st122_148_2 p) s:=veil_eq _
noncomputable def tbl122_148_2:Tb:=Tb.addL tb148_148 122 2 S122_148_2.n0 (mkLp S122_148_2 (l122_148_2))
theorem ok_tbl122_148_2:TbOk env (tbl122_148_2):=addLoopQ ok_tb148_148 122 2 (by kernel_rfl) _ (l122_148_2_eq)
def S122_148:FunS:=⟨[⟨true,(.rows 3)⟩,⟨true,(.func 148 [] [(.edat 25)])⟩],[],[⟨true,(.int .i64)⟩],[]⟩
noncomputable def F122_148:List D→Option (List D):=liftX env tbl122_148_2 60 12 122 S122_148
theorem F122_148_eq (sd0:D) (sd1:D):F122_148 [sd0,sd1] =
 bif (qsome (l122_148_2 [sd0,sd1,(D.int (qlen sd0))] [(D.int 0)]))then
 bif (qcmp BinOp.eql (qint (qnth (l122_148_2 [sd0,sd1,(D.int (qlen sd0))] [(D.int 0)]) 0)) 0)then
 some [(D.int (-1))]
 else
 some [(D.int (qint (qnth (l122_148_2 [sd0,sd1,(D.int (qlen sd0))] [(D.int 0)]) 1)))]
 else
 none:=by kernel_rfl
noncomputable def q122_148:List D→Option (List D):=veil (F122_148)
theorem q122_148_eq:q122_148=F122_148:=veil_eq _
noncomputable def tb122_148:Tb:=Tb.addF tbl122_148_2 122 S122_148 (q122_148)
theorem ok_tb122_148:TbOk env (tb122_148):=addFunF ok_tbl122_148_2 122 (by kernel_rfl) _ (q122_148_eq)
def S147_148_5:LoopS:=⟨0,[⟨false,(.rows 3)⟩,⟨false,(.func 148 [] [(.edat 25)])⟩,uF,uF,⟨false,(.lit (.slice none 0 0))⟩,⟨false,(.int .i64)⟩,⟨true,(.int .i64)⟩,uF,uF,uF,uF,uF,uF,uF,uF,uF,uF,uF,uF,uF,uF,uF,uF,uF,uF,uF,uF,uF,uF,uF,uF,uF,uF,uF,uF,uF,uF,uF,uF,uF,uF,uF],[],[⟨0,0,[⟨false,(.rows 3)⟩,⟨false,(.func 148 [] [(.edat 25)])⟩,uT,uT,⟨true,(.lit (.slice none 0 0))⟩,⟨false,(.int .i64)⟩,uT,uT,uT,uT,uT,uT,uT,uT,uT,uT,uT,uT,uT,uT,uT,uT,uT,uT,uT,uT,uT,uT,uT,uT,uT,uT,uT,uT,uT,uT,uT,uT,uT,uT,uT,uT],[]⟩]⟩
noncomputable def st147_148_5 (p s:List D):Option (Sum (List D) (List D)):=stepQX env tb122_148 60 12 147 (loopC 147 5) S147_148_5 p s
noncomputable def l147_148_5:List D→List D→Option (List D):=veil fun p s=>loW (st147_148_5 p) s
theorem l147_148_5_eq:l147_148_5=fun p s=>loW (st147_148_5 p) s:=veil_eq _
noncomputable def tbl147_148_5:Tb:=Tb.addL tb122_148 147 5 S147_148_5.n0 (mkLp S147_148_5 (l147_148_5))
theorem ok_tbl147_148_5:TbOk env (tbl147_148_5):=addLoopQ ok_tb122_148 147 5 (by kernel_rfl) _ (l147_148_5_eq)
def S147_148:FunS:=⟨[⟨true,(.rows 3)⟩,⟨true,(.func 148 [] [(.edat 25)])⟩],[],[⟨true,(.rows 3)⟩],[]⟩
noncomputable def F147_148:List D→Option (List D):=liftX env tbl147_148_5 1 12 147 S147_148
theorem F147_148_eq (sd0:D) (sd1:D):F147_148 [sd0,sd1] =
 bif (qsome (q122_148 [sd0,sd1]))then
 bif (qcmp BinOp.eql (qint (qnth (q122_148 [sd0,sd1]) 0)) (-1))then
 some [sd0]
 else
 bif (qsome (l147_148_5 [sd0,sd1,(D.int (qint (qnth (q122_148 [sd0,sd1]) 0)))] [(D.int (qbin BinOp.add IntKind.i64 (qint (qnth (q122_148 [sd0,sd1]) 0)) 1))]))then
 bif (qcmp BinOp.leq 0 (qint (qnth (q122_148 [sd0,sd1]) 0)))then
 bif (qcmp BinOp.leq (qint (qnth (q122_148 [sd0,sd1]) 0)) (qlen sd0))then
 bif (qcmp BinOp.leq (qlen sd0) (qlen sd0))then
 none
 else
 none
 else
 none
 else
 none
 else
 none
 else
 none:=by kernel_rfl
noncomputable def q147_148:List D→Option (List D):=veil (F147_148)
theorem q147_148_eq:q147_148=F147_148:=veil_eq _
noncomputable def tb147_148:Tb:=Tb.addF tbl147_148_5 147 S147_148 (q147_148)
theorem ok_tb147_148:TbOk env (tb147_148):=addFunK 1 ok_tbl147_148_5 147 (by kernel_rfl) _ (q147_148_eq)
end Go.Proofs.YtfdedgmlafelaaaGreatDoor
open Go Go.AM
namespace Go.Proofs.YtfdedgmlafelaaaGreatDoor
set_option maxRecDepth 100000
set_option linter.unusedSimpArgs false
set_option linter.unusedVariables false
def S127:FunS:=⟨[⟨true,(.dat 25)⟩,⟨true,(.int .i64)⟩],[],[⟨true,(.rows 3)⟩],[]⟩
noncomputable def F127:List D→Option (List D):=liftX env tb147_148 60 12 127 S127
theorem F127_eq (sd0:D) (sn1:Int):F127 [sd0,(D.int sn1)] =
 bif (qinb (qfld sd0 1) sn1)then
 bif (qcmp BinOp.eql (qlen (qfld (qget (qfld sd0 1) sn1) 1)) 0)then
 some [(D.list [])]
 else
 bif (qinb (qfld (qget (qfld sd0 1) sn1) 1) (qbin BinOp.sub IntKind.i64 (qlen (qfld (qget (qfld sd0 1) sn1) 1)) 1))then
 bif (qcmp BinOp.eql (qint (qfld (qget (qfld (qget (qfld sd0 1) sn1) 1) (qbin BinOp.sub IntKind.i64 (qlen (qfld (qget (qfld sd0 1) sn1) 1)) 1)) 0)) 6)then
 bif (qsome (q147_148 [(D.list [(D.int (qint (qfld (qget (qfld (qget (qfld sd0 1) sn1) 1) (qbin BinOp.sub IntKind.i64 (qlen (qfld (qget (qfld sd0 1) sn1) 1)) 1)) 3)))]),sd0]))then
 some [(qnth (q147_148 [(D.list [(D.int (qint (qfld (qget (qfld (qget (qfld sd0 1) sn1) 1) (qbin BinOp.sub IntKind.i64 (qlen (qfld (qget (qfld sd0 1) sn1) 1)) 1)) 3)))]),sd0]) 0)]
 else
 none
 else
 bif (qcmp BinOp.eql (qint (qfld (qget (qfld (qget (qfld sd0 1) sn1) 1) (qbin BinOp.sub IntKind.i64 (qlen (qfld (qget (qfld sd0 1) sn1) 1)) 1)) 0)) 7)then
 bif (qsome (q147_148 [(D.list [(D.int (qint (qfld (qget (qfld (qget (qfld sd0 1) sn1) 1) (qbin BinOp.sub IntKind.i64 (qlen (qfld (qget (qfld sd0 1) sn1) 1)) 1)) 3))),(D.int (qint (qfld (qget (qfld (qget (qfld sd0 1) sn1) 1) (qbin BinOp.sub IntKind.i64 (qlen (qfld (qget (qfld sd0 1) sn1) 1)) 1)) 4)))]),sd0]))then
 some [(qnth (q147_148 [(D.list [(D.int (qint (qfld (qget (qfld (qget (qfld sd0 1) sn1) 1) (qbin BinOp.sub IntKind.i64 (qlen (qfld (qget (qfld sd0 1) sn1) 1)) 1)) 3))),(D.int (qint (qfld (qget (qfld (qget (qfld sd0 1) sn1) 1) (qbin BinOp.sub IntKind.i64 (qlen (qfld (qget (qfld sd0 1) sn1) 1)) 1)) 4)))]),sd0]) 0)]
 else
 none
 else
 bif (qcmp BinOp.eql (qint (qfld (qget (qfld (qget (qfld sd0 1) sn1) 1) (qbin BinOp.sub IntKind.i64 (qlen (qfld (qget (qfld sd0 1) sn1) 1)) 1)) 0)) 8)then
 bif (qsome (q53 [(qfld (qget (qfld (qget (qfld sd0 1) sn1) 1) (qbin BinOp.sub IntKind.i64 (qlen (qfld (qget (qfld sd0 1) sn1) 1)) 1)) 7)]))then
 bif (qsome (q147_148 [(qnth (q53 [(qfld (qget (qfld (qget (qfld sd0 1) sn1) 1) (qbin BinOp.sub IntKind.i64 (qlen (qfld (qget (qfld sd0 1) sn1) 1)) 1)) 7)]) 0),sd0]))then
 some [(qnth (q147_148 [(qnth (q53 [(qfld (qget (qfld (qget (qfld sd0 1) sn1) 1) (qbin BinOp.sub IntKind.i64 (qlen (qfld (qget (qfld sd0 1) sn1) 1)) 1)) 7)]) 0),sd0]) 0)]
 else
 none
 else
 none
 else
 bif (qsome (q147_148 [(D.list []),sd0]))then
 some [(qnth (q147_148 [(D.list []),sd0]) 0)]
 else
 none
 else
 none
 else
 none:=by kernel_rfl
noncomputable def q127:List D→Option (List D):=veil (F127)
theorem q127_eq:q127=F127:=veil_eq _
noncomputable def tb127:Tb:=Tb.addF tb147_148 127 S127 (q127)
theorem ok_tb127:TbOk env (tb127):=addFunF ok_tb147_148 127 (by kernel_rfl) _ (q127_eq)
def S96_3:LoopS:=⟨0,[uF,⟨false,(.ptr 0 0)⟩,⟨false,(.lit (.slice none 0 0))⟩,⟨false,(.osl 1 46)⟩,uF,uF,uF,uF,uF,uF,uF,⟨false,(.int .i64)⟩,⟨true,(.int .i64)⟩,uF,uF,uF,uF,uF,uF,uF,uF,uF,uF],[(.lst true 46),(.dat false 25)],[⟨0,0,[uT,uT,⟨true,(.lit (.slice none 0 0))⟩,⟨true,(.osl 1 46)⟩,uT,uT,uT,uT,uT,uT,uT,⟨false,(.int .i64)⟩,uT,uT,uT,uT,uT,uT,uT,uT,uT,uT,uT],[(.lst true 46),(.dat false 25)]⟩]⟩
noncomputable def st96_3 (p s:List D):Option (Sum (List D) (List D)):=stepQX env tb127 60 12 96 (loopC 96 3) S96_3 p s
theorem st96_3_eq (pn0:Int) (pd1:D) (sn0:Int) (sd1:D):st96_3 [(D.int pn0),pd1] [(D.int sn0),sd1] =
 bif (qcmp BinOp.lss sn0 pn0)then
 bif (qsome (q127 [pd1,(D.int sn0)]))then
 bif (qcmp BinOp.leq 0 sn0)then
 bif (qcmp BinOp.lss sn0 (qlen sd1))then
 bif (qinb sd1 sn0)then
 bif (qcmp BinOp.eql (qlen sd1) (qlen (qset sd1 sn0 (qnth (q127 [pd1,(D.int sn0)]) 0))))then
 some (Sum.inl [(D.int (qbin BinOp.add IntKind.i64 sn0 1)),(qset sd1 sn0 (qnth (q127 [pd1,(D.int sn0)]) 0))])
 else
 none
 else
 none
 else
 none
 else
 none
 else
 none
 else
 some (Sum.inr [(D.int 0),sd1]):=by
 have h:st96_3 [(D.int pn0),pd1] [(D.int sn0),sd1] =
  bif (qcmp BinOp.lss sn0 pn0)then
  bif (qsome (q127 [pd1,(D.int sn0)]))then
  bif (qcmp BinOp.leq 0 sn0)then
  bif (qcmp BinOp.lss sn0 (qlen sd1))then
  bif (qinb sd1 sn0)then
  bif (qcmp BinOp.eql (qlen sd1) (qlen (qset sd1 sn0 (qnth (q127 [pd1,(D.int sn0)]) 0))))then
  bif (qeqD (D.int pn0) (D.int pn0))then
  bif (qeqD pd1 pd1)then
  some (Sum.inl [(D.int (qbin BinOp.add IntKind.i64 sn0 1)),(qset sd1 sn0 (qnth (q127 [pd1,(D.int sn0)]) 0))])
  else
  none
  else
  none
  else
  none
  else
  none
  else
  none
  else
  none
  else
  none
  else
  bif (qcmp BinOp.eql (qlen sd1) (qlen sd1))then
  bif (qeqD (D.int pn0) (D.int pn0))then
  bif (qeqD pd1 pd1)then
  some (Sum.inr [(D.int 0),sd1])
  else
  none
  else
  none
  else
  none:=by kernel_rfl
 rw[h];simp only[qeqD_self,qeqI_self,qeq_len,show qcmp BinOp.eql 0 (qlen (D.list []))=true from qeq_len [],show∀a,qcmp BinOp.eql 1 (qlen (D.list [a]))=true from fun a=>qeq_len [a],show∀a b,qcmp BinOp.eql 2 (qlen (D.list [a,b]))=true from fun a b=>qeq_len [a,b],show∀a b c,qcmp BinOp.eql 3 (qlen (D.list [a,b,c]))=true from fun a b c=>qeq_len [a,b,c],show∀a b c d,qcmp BinOp.eql 4 (qlen (D.list [a,b,c,d]))=true from fun a b c d=>qeq_len [a,b,c,d],cond_true]
noncomputable def l96_3:List D→List D→Option (List D):=veil fun p s=>loW (st96_3 p) s
theorem l96_3_eq:l96_3=fun p s=>loW (st96_3 p) s:=veil_eq _
noncomputable def tbl96_3:Tb:=Tb.addL tb127 96 3 S96_3.n0 (mkLp S96_3 (l96_3))
theorem ok_tbl96_3:TbOk env (tbl96_3):=addLoopQ ok_tb127 96 3 (by kernel_rfl) _ (l96_3_eq)
def S96:FunS:=⟨[⟨true,(.dat 25)⟩],[],[⟨true,(.rows 46)⟩],[]⟩
noncomputable def F96:List D→Option (List D):=liftX env tbl96_3 60 12 96 S96
theorem F96_eq (sd0:D):F96 [sd0] =
 bif (qcmp BinOp.leq 0 (qlen (qfld sd0 1)))then
 bif (qcmp BinOp.leq (qlen (qfld sd0 1)) (qlen (qfld sd0 1)))then
 bif (qmem (qlen (qfld sd0 1)) 24)then
 bif (qcmp BinOp.eql (qlen (qfld sd0 1)) (qlen (qrep (qlen (qfld sd0 1)) (D.list []))))then
 bif (qsome (l96_3 [(D.int (qlen (qfld sd0 1))),sd0] [(D.int 0),(qrep (qlen (qfld sd0 1)) (D.list []))]))then
 some [(qnth (l96_3 [(D.int (qlen (qfld sd0 1))),sd0] [(D.int 0),(qrep (qlen (qfld sd0 1)) (D.list []))]) 1)]
 else
 none
 else
 none
 else
 none
 else
 none
 else
 none:=by
 have h:F96 [sd0] =
  bif (qcmp BinOp.leq 0 (qlen (qfld sd0 1)))then
  bif (qcmp BinOp.leq (qlen (qfld sd0 1)) (qlen (qfld sd0 1)))then
  bif (qmem (qlen (qfld sd0 1)) 24)then
  bif (qcmp BinOp.eql (qlen (qfld sd0 1)) (qlen (qrep (qlen (qfld sd0 1)) (D.list []))))then
  bif (qsome (l96_3 [(D.int (qlen (qfld sd0 1))),sd0] [(D.int 0),(qrep (qlen (qfld sd0 1)) (D.list []))]))then
  bif (qcmp BinOp.eql (qlen (qnth (l96_3 [(D.int (qlen (qfld sd0 1))),sd0] [(D.int 0),(qrep (qlen (qfld sd0 1)) (D.list []))]) 1)) (qlen (qnth (l96_3 [(D.int (qlen (qfld sd0 1))),sd0] [(D.int 0),(qrep (qlen (qfld sd0 1)) (D.list []))]) 1)))then
  some [(qnth (l96_3 [(D.int (qlen (qfld sd0 1))),sd0] [(D.int 0),(qrep (qlen (qfld sd0 1)) (D.list []))]) 1)]
  else
  none
  else
  none
  else
  none
  else
  none
  else
  none
  else
  none:=by kernel_rfl
 rw[h];simp only[qeqD_self,qeqI_self,qeq_len,show qcmp BinOp.eql 0 (qlen (D.list []))=true from qeq_len [],show∀a,qcmp BinOp.eql 1 (qlen (D.list [a]))=true from fun a=>qeq_len [a],show∀a b,qcmp BinOp.eql 2 (qlen (D.list [a,b]))=true from fun a b=>qeq_len [a,b],show∀a b c,qcmp BinOp.eql 3 (qlen (D.list [a,b,c]))=true from fun a b c=>qeq_len [a,b,c],show∀a b c d,qcmp BinOp.eql 4 (qlen (D.list [a,b,c,d]))=true from fun a b c d=>qeq_len [a,b,c,d],cond_true]
noncomputable def q96:List D→Option (List D):=veil (F96)
theorem q96_eq:q96=F96:=veil_eq _
noncomputable def tb96:Tb:=Tb.addF tbl96_3 96 S96 (q96)
theorem ok_tb96:TbOk env (tb96):=addFunF ok_tbl96_3 96 (by kernel_rfl) _ (q96_eq)
end Go.Proofs.YtfdedgmlafelaaaGreatDoor
open Go Go.AM
namespace Go.Proofs.YtfdedgmlafelaaaGreatDoor
set_option maxRecDepth 100000
set_option linter.unusedSimpArgs false
set_option linter.unusedVariables false
def S125:FunS:=⟨[⟨true,(.int .i64)⟩,⟨true,(.ptr 1 0)⟩,⟨true,(.ptr 0 0)⟩,⟨true,(.ptr 3 0)⟩,⟨true,(.ptr 2 0)⟩],[(.lst true 3),(.lst true 4),(.cells [⟨false,(.func 125 [] [(.ptr 1 0),(.ptr 0 0),(.ptr 3 0),(.ptr 2 0)])⟩]),(.cells [⟨false,(.osl 5 3)⟩]),(.cells [⟨false,(.osl 4 4)⟩]),(.cells [⟨false,(.rows 46)⟩])],[⟨true,(.tup [])⟩],[(.lst true 3),(.lst true 4), .skip, .skip,(.cells [⟨false,(.func 125 [] [(.ptr 1 0),(.ptr 0 0),(.ptr 3 0),(.ptr 2 0)])⟩]),(.cells [⟨true,(.osl 7 3)⟩]),(.cells [⟨true,(.osl 6 4)⟩]),(.cells [⟨false,(.rows 46)⟩])]⟩
noncomputable def tbR125 (Q:List D→Option (List D)):Tb:=Tb.addF tb96 125 S125 Q
theorem ok_tbR125 (Q:List D→Option (List D)) (hQ:SoundF env.P 125 S125 Q):TbOk env (tbR125 Q):=TbOk.addF ok_tb96 (by kernel_rfl) hQ
def S125_2:LoopS:=⟨6,[⟨false,(.int .i64)⟩,⟨false,(.ptr 1 0)⟩,uF,⟨false,(.ptr 3 0)⟩,⟨false,(.ptr 2 0)⟩,uF,uF,uF,uF,uF,uF,uF,uF,uF,⟨false,(.rows 3)⟩,⟨false,(.int .i64)⟩,⟨true,(.int .i64)⟩,uF,uF,uF,uF,uF,uF,uF,uF,uF,uF,uF,uF,uF,uF,uF,uF],[(.lst true 3),(.lst true 4), .skip, .skip,(.cells [⟨false,(.func 125 [] [(.ptr 1 0),(.ptr 0 0),(.ptr 3 0),(.ptr 2 0)])⟩]),(.cells [⟨false,(.osl 7 3)⟩]),(.cells [⟨false,(.osl 6 4)⟩]),(.cells [⟨false,(.rows 46)⟩])],[⟨0,0,[⟨false,(.int .i64)⟩,uT,uT,uT,⟨true,(.ptr 2 0)⟩,uT,uT,uT,uT,uT,uT,uT,uT,uT,⟨false,(.rows 3)⟩,⟨false,(.int .i64)⟩,uT,uT,uT,uT,uT,uT,uT,uT,uT,uT,uT,uT,uT,uT,uT,uT,uT],[(.lst true 3),(.lst true 4), .skip, .skip,(.cells [⟨true,(.func 125 [] [(.ptr 1 0),(.ptr 0 0),(.ptr 3 0),(.ptr 2 0)])⟩]),(.cells [⟨true,(.osl 7 3)⟩]),(.cells [⟨true,(.osl 6 4)⟩]),(.cells [⟨false,(.rows 46)⟩])]⟩]⟩
noncomputable def st125_2 (Q:List D→Option (List D)) (p s:List D):Option (Sum (List D) (List D)):=stepQX env (tbR125 Q) 60 12 125 (loopC 125 2) S125_2 p s
theorem st125_2_eq (Q:List D→Option (List D)) (pn0:Int) (pd1:D) (pn2:Int) (pd3:D) (sn0:Int) (sd1:D) (sd2:D):st125_2 Q [(D.int pn0),pd1,(D.int pn2),pd3] [(D.int sn0),sd1,sd2] =
 bif (qcmp BinOp.lss sn0 pn2)then
 bif (qinb pd1 sn0)then
 bif (qcmp BinOp.leq 0 (qint (qget pd1 sn0)))then
 bif (qcmp BinOp.lss (qint (qget pd1 sn0)) (qlen sd2))then
 bif (qinb sd2 (qint (qget pd1 sn0)))then
 bif (qnot (qbool (qget sd2 (qint (qget pd1 sn0)))))then
 bif (qsome (Q [pd3,(D.int (qint (qget pd1 sn0))),sd1,sd2]))then
 some (Sum.inl [(D.int (qbin BinOp.add IntKind.i64 sn0 1)),(qnth (Q [pd3,(D.int (qint (qget pd1 sn0))),sd1,sd2]) 0),(qnth (Q [pd3,(D.int (qint (qget pd1 sn0))),sd1,sd2]) 1)])
 else
 none
 else
 some (Sum.inl [(D.int (qbin BinOp.add IntKind.i64 sn0 1)),sd1,sd2])
 else
 none
 else
 none
 else
 none
 else
 none
 else
 some (Sum.inr [(D.int 0),sd1,sd2]):=by
 have h:st125_2 Q [(D.int pn0),pd1,(D.int pn2),pd3] [(D.int sn0),sd1,sd2] =
  bif (qcmp BinOp.lss sn0 pn2)then
  bif (qinb pd1 sn0)then
  bif (qcmp BinOp.leq 0 (qint (qget pd1 sn0)))then
  bif (qcmp BinOp.lss (qint (qget pd1 sn0)) (qlen sd2))then
  bif (qinb sd2 (qint (qget pd1 sn0)))then
  bif (qnot (qbool (qget sd2 (qint (qget pd1 sn0)))))then
  bif (qcmp BinOp.eql (qlen sd1) (qlen sd1))then
  bif (qcmp BinOp.eql (qlen sd2) (qlen sd2))then
  bif (qsome (Q [pd3,(D.int (qint (qget pd1 sn0))),sd1,sd2]))then
  bif (qcmp BinOp.eql (qlen (qnth (Q [pd3,(D.int (qint (qget pd1 sn0))),sd1,sd2]) 0)) (qlen (qnth (Q [pd3,(D.int (qint (qget pd1 sn0))),sd1,sd2]) 0)))then
  bif (qcmp BinOp.eql (qlen (qnth (Q [pd3,(D.int (qint (qget pd1 sn0))),sd1,sd2]) 1)) (qlen (qnth (Q [pd3,(D.int (qint (qget pd1 sn0))),sd1,sd2]) 1)))then
  bif (qeqD (D.int pn0) (D.int pn0))then
  bif (qeqD pd1 pd1)then
  bif (qeqD (D.int pn2) (D.int pn2))then
  bif (qeqD pd3 pd3)then
  some (Sum.inl [(D.int (qbin BinOp.add IntKind.i64 sn0 1)),(qnth (Q [pd3,(D.int (qint (qget pd1 sn0))),sd1,sd2]) 0),(qnth (Q [pd3,(D.int (qint (qget pd1 sn0))),sd1,sd2]) 1)])
  else
  none
  else
  none
  else
  none
  else
  none
  else
  none
  else
  none
  else
  none
  else
  none
  else
  none
  else
  bif (qcmp BinOp.eql (qlen sd1) (qlen sd1))then
  bif (qcmp BinOp.eql (qlen sd2) (qlen sd2))then
  bif (qeqD (D.int pn0) (D.int pn0))then
  bif (qeqD pd1 pd1)then
  bif (qeqD (D.int pn2) (D.int pn2))then
  bif (qeqD pd3 pd3)then
  some (Sum.inl [(D.int (qbin BinOp.add IntKind.i64 sn0 1)),sd1,sd2])
  else
  none
  else
  none
  else
  none
  else
  none
  else
  none
  else
  none
  else
  none
  else
  none
  else
  none
  else
  none
  else
  bif (qcmp BinOp.eql (qlen sd1) (qlen sd1))then
  bif (qcmp BinOp.eql (qlen sd2) (qlen sd2))then
  bif (qeqD (D.int pn0) (D.int pn0))then
  bif (qeqD pd1 pd1)then
  bif (qeqD (D.int pn2) (D.int pn2))then
  bif (qeqD pd3 pd3)then
  some (Sum.inr [(D.int 0),sd1,sd2])
  else
  none
  else
  none
  else
  none
  else
  none
  else
  none
  else
  none:=by kernel_rfl
 rw[h];simp only[qeqD_self,qeqI_self,qeq_len,show qcmp BinOp.eql 0 (qlen (D.list []))=true from qeq_len [],show∀a,qcmp BinOp.eql 1 (qlen (D.list [a]))=true from fun a=>qeq_len [a],show∀a b,qcmp BinOp.eql 2 (qlen (D.list [a,b]))=true from fun a b=>qeq_len [a,b],show∀a b c,qcmp BinOp.eql 3 (qlen (D.list [a,b,c]))=true from fun a b c=>qeq_len [a,b,c],show∀a b c d,qcmp BinOp.eql 4 (qlen (D.list [a,b,c,d]))=true from fun a b c d=>qeq_len [a,b,c,d],cond_true]
noncomputable def l125_2 (Q:List D→Option (List D)):List D→List D→Option (List D):=veil fun p s=>loW (st125_2 Q p) s
theorem l125_2_eq (Q:List D→Option (List D)):l125_2 Q=fun p s=>loW (st125_2 Q p) s:=veil_eq _
noncomputable def tbl125_2 (Q:List D→Option (List D)):Tb:=Tb.addL (tbR125 Q) 125 2 S125_2.n0 (mkLp S125_2 (l125_2 Q))
theorem ok_tbl125_2 (Q:List D→Option (List D)) (hQ:SoundF env.P 125 S125 Q):TbOk env (tbl125_2 Q):=addLoopQ (ok_tbR125 Q hQ) 125 2 (by kernel_rfl) _ (l125_2_eq Q)
noncomputable def Fb125 (Q:List D→Option (List D)):List D→Option (List D):=liftX env (tbl125_2 Q) 60 12 125 S125
theorem Fb125_eq (Q:List D→Option (List D)) (pd0:D) (sn0:Int) (sd1:D) (sd2:D):Fb125 Q [pd0,(D.int sn0),sd1,sd2] =
 bif (qcmp BinOp.leq 0 sn0)then
 bif (qcmp BinOp.lss sn0 (qlen sd2))then
 bif (qinb sd2 sn0)then
 bif (qinb pd0 sn0)then
 bif (qcmp BinOp.eql (qlen sd2) (qlen (qset sd2 sn0 (D.bool Bool.true))))then
 bif (qsome (l125_2 Q [(D.int sn0),(qget pd0 sn0),(D.int (qlen (qget pd0 sn0))),pd0] [(D.int 0),sd1,(qset sd2 sn0 (D.bool Bool.true))]))then
 bif (qmem (qlen (qapp (qnth (l125_2 Q [(D.int sn0),(qget pd0 sn0),(D.int (qlen (qget pd0 sn0))),pd0] [(D.int 0),sd1,(qset sd2 sn0 (D.bool Bool.true))]) 1) (D.list [(D.int sn0)]))) 8)then
 some [(qapp (qnth (l125_2 Q [(D.int sn0),(qget pd0 sn0),(D.int (qlen (qget pd0 sn0))),pd0] [(D.int 0),sd1,(qset sd2 sn0 (D.bool Bool.true))]) 1) (D.list [(D.int sn0)])),(qnth (l125_2 Q [(D.int sn0),(qget pd0 sn0),(D.int (qlen (qget pd0 sn0))),pd0] [(D.int 0),sd1,(qset sd2 sn0 (D.bool Bool.true))]) 2)]
 else
 none
 else
 none
 else
 none
 else
 none
 else
 none
 else
 none
 else
 none:=by
 have h:Fb125 Q [pd0,(D.int sn0),sd1,sd2] =
  bif (qcmp BinOp.leq 0 sn0)then
  bif (qcmp BinOp.lss sn0 (qlen sd2))then
  bif (qinb sd2 sn0)then
  bif (qinb pd0 sn0)then
  bif (qcmp BinOp.eql (qlen sd1) (qlen sd1))then
  bif (qcmp BinOp.eql (qlen sd2) (qlen (qset sd2 sn0 (D.bool Bool.true))))then
  bif (qsome (l125_2 Q [(D.int sn0),(qget pd0 sn0),(D.int (qlen (qget pd0 sn0))),pd0] [(D.int 0),sd1,(qset sd2 sn0 (D.bool Bool.true))]))then
  bif (qcmp BinOp.eql (qlen (qnth (l125_2 Q [(D.int sn0),(qget pd0 sn0),(D.int (qlen (qget pd0 sn0))),pd0] [(D.int 0),sd1,(qset sd2 sn0 (D.bool Bool.true))]) 1)) (qlen (qnth (l125_2 Q [(D.int sn0),(qget pd0 sn0),(D.int (qlen (qget pd0 sn0))),pd0] [(D.int 0),sd1,(qset sd2 sn0 (D.bool Bool.true))]) 1)))then
  bif (qmem (qlen (qapp (qnth (l125_2 Q [(D.int sn0),(qget pd0 sn0),(D.int (qlen (qget pd0 sn0))),pd0] [(D.int 0),sd1,(qset sd2 sn0 (D.bool Bool.true))]) 1) (D.list [(D.int sn0)]))) 8)then
  bif (qcmp BinOp.eql (qlen (qapp (qnth (l125_2 Q [(D.int sn0),(qget pd0 sn0),(D.int (qlen (qget pd0 sn0))),pd0] [(D.int 0),sd1,(qset sd2 sn0 (D.bool Bool.true))]) 1) (D.list [(D.int sn0)]))) (qlen (qapp (qnth (l125_2 Q [(D.int sn0),(qget pd0 sn0),(D.int (qlen (qget pd0 sn0))),pd0] [(D.int 0),sd1,(qset sd2 sn0 (D.bool Bool.true))]) 1) (D.list [(D.int sn0)]))))then
  bif (qcmp BinOp.eql (qlen (qnth (l125_2 Q [(D.int sn0),(qget pd0 sn0),(D.int (qlen (qget pd0 sn0))),pd0] [(D.int 0),sd1,(qset sd2 sn0 (D.bool Bool.true))]) 2)) (qlen (qnth (l125_2 Q [(D.int sn0),(qget pd0 sn0),(D.int (qlen (qget pd0 sn0))),pd0] [(D.int 0),sd1,(qset sd2 sn0 (D.bool Bool.true))]) 2)))then
  bif (qeqD pd0 pd0)then
  some [(qapp (qnth (l125_2 Q [(D.int sn0),(qget pd0 sn0),(D.int (qlen (qget pd0 sn0))),pd0] [(D.int 0),sd1,(qset sd2 sn0 (D.bool Bool.true))]) 1) (D.list [(D.int sn0)])),(qnth (l125_2 Q [(D.int sn0),(qget pd0 sn0),(D.int (qlen (qget pd0 sn0))),pd0] [(D.int 0),sd1,(qset sd2 sn0 (D.bool Bool.true))]) 2)]
  else
  none
  else
  none
  else
  none
  else
  none
  else
  none
  else
  none
  else
  none
  else
  none
  else
  none
  else
  none
  else
  none
  else
  none:=by kernel_rfl
 rw[h];simp only[qeqD_self,qeqI_self,qeq_len,show qcmp BinOp.eql 0 (qlen (D.list []))=true from qeq_len [],show∀a,qcmp BinOp.eql 1 (qlen (D.list [a]))=true from fun a=>qeq_len [a],show∀a b,qcmp BinOp.eql 2 (qlen (D.list [a,b]))=true from fun a b=>qeq_len [a,b],show∀a b c,qcmp BinOp.eql 3 (qlen (D.list [a,b,c]))=true from fun a b c=>qeq_len [a,b,c],show∀a b c d,qcmp BinOp.eql 4 (qlen (D.list [a,b,c,d]))=true from fun a b c d=>qeq_len [a,b,c,d],cond_true]
noncomputable def F125:Nat→List D→Option (List D):=levels Fb125
theorem F125_s (n:Nat):F125 (n+1)=Fb125 (F125 n):=rfl
noncomputable def q125:List D→Option (List D):=veil fun ds=>F125 (fuelL ds) ds
theorem q125_eq:q125=fun ds=>F125 (fuelL ds) ds:=veil_eq _
theorem sound125:SoundF env.P 125 S125 q125:=recF (fun q=>tbl125_2 q) (fun q hq=>ok_tbl125_2 q hq) q125_eq
noncomputable def tb125:Tb:=Tb.addF tb96 125 S125 q125
theorem ok_tb125:TbOk env tb125:=TbOk.addF ok_tb96 (by kernel_rfl) sound125
end Go.Proofs.YtfdedgmlafelaaaGreatDoor
open Go Go.AM
namespace Go.Proofs.YtfdedgmlafelaaaGreatDoor
set_option maxRecDepth 100000
set_option linter.unusedSimpArgs false
set_option linter.unusedVariables false
def S126_1:LoopS:=⟨1,[⟨false,(.osl 0 3)⟩,uF,⟨true,(.int .i64)⟩,⟨true,(.int .i64)⟩,uF,uF,uF,uF,uF,uF,uF,uF,uF,uF,uF,uF,uF,uF,uF,uF,uF,uF,uF,uF,uF,uF,uF,uF],[(.lst true 3)],[⟨0,0,[uT,uT,uT,uT,uT,uT,uT,uT,uT,uT,uT,uT,uT,uT,uT,uT,uT,uT,uT,uT,uT,uT,uT,uT,uT,uT,uT,uT],[(.lst true 3)]⟩]⟩
noncomputable def st126_1 (p s:List D):Option (Sum (List D) (List D)):=stepQX env tb125 60 12 126 (loopC 126 1) S126_1 p s
theorem st126_1_eq (sn0:Int) (sn1:Int) (sd2:D):st126_1 [] [(D.int sn0),(D.int sn1),sd2] =
 bif (qcmp BinOp.lss sn0 sn1)then
 bif (qcmp BinOp.leq 0 sn1)then
 bif (qcmp BinOp.lss sn1 (qlen sd2))then
 bif (qinb sd2 sn1)then
 bif (qcmp BinOp.leq 0 sn0)then
 bif (qcmp BinOp.lss sn0 (qlen sd2))then
 bif (qinb sd2 sn0)then
 bif (qcmp BinOp.leq 0 sn0)then
 bif (qcmp BinOp.lss sn0 (qlen sd2))then
 bif (qinb sd2 sn0)then
 bif (qcmp BinOp.leq 0 sn1)then
 bif (qcmp BinOp.lss sn1 (qlen sd2))then
 bif (qinb (qset sd2 sn0 (D.int (qint (qget sd2 sn1)))) sn1)then
 bif (qcmp BinOp.eql (qlen sd2) (qlen (qset (qset sd2 sn0 (D.int (qint (qget sd2 sn1)))) sn1 (D.int (qint (qget sd2 sn0))))))then
 some (Sum.inl [(D.int (qbin BinOp.add IntKind.i64 sn0 1)),(D.int (qbin BinOp.sub IntKind.i64 sn1 1)),(qset (qset sd2 sn0 (D.int (qint (qget sd2 sn1)))) sn1 (D.int (qint (qget sd2 sn0))))])
 else
 none
 else
 none
 else
 none
 else
 none
 else
 none
 else
 none
 else
 none
 else
 none
 else
 none
 else
 none
 else
 none
 else
 none
 else
 none
 else
 some (Sum.inr [(D.int 0),sd2]):=by kernel_rfl
noncomputable def l126_1:List D→List D→Option (List D):=veil fun p s=>loW (st126_1 p) s
theorem l126_1_eq:l126_1=fun p s=>loW (st126_1 p) s:=veil_eq _
noncomputable def tbl126_1:Tb:=Tb.addL tb125 126 1 S126_1.n0 (mkLp S126_1 (l126_1))
theorem ok_tbl126_1:TbOk env (tbl126_1):=addLoopQ ok_tb125 126 1 (by kernel_rfl) _ (l126_1_eq)
def S126:FunS:=⟨[⟨true,(.osl 0 3)⟩],[(.lst true 3)],[⟨true,(.tup [])⟩],[(.lst true 3)]⟩
noncomputable def F126:List D→Option (List D):=liftX env tbl126_1 60 12 126 S126
theorem F126_eq (sd0:D):F126 [sd0] =
 bif (qsome (l126_1 [] [(D.int 0),(D.int (qbin BinOp.sub IntKind.i64 (qlen sd0) 1)),sd0]))then
 some [(qnth (l126_1 [] [(D.int 0),(D.int (qbin BinOp.sub IntKind.i64 (qlen sd0) 1)),sd0]) 1)]
 else
 none:=by
 have h:F126 [sd0] =
  bif (qcmp BinOp.eql (qlen sd0) (qlen sd0))then
  bif (qsome (l126_1 [] [(D.int 0),(D.int (qbin BinOp.sub IntKind.i64 (qlen sd0) 1)),sd0]))then
  some [(qnth (l126_1 [] [(D.int 0),(D.int (qbin BinOp.sub IntKind.i64 (qlen sd0) 1)),sd0]) 1)]
  else
  none
  else
  none:=by kernel_rfl
 rw[h];simp only[qeqD_self,qeqI_self,qeq_len,show qcmp BinOp.eql 0 (qlen (D.list []))=true from qeq_len [],show∀a,qcmp BinOp.eql 1 (qlen (D.list [a]))=true from fun a=>qeq_len [a],show∀a b,qcmp BinOp.eql 2 (qlen (D.list [a,b]))=true from fun a b=>qeq_len [a,b],show∀a b c,qcmp BinOp.eql 3 (qlen (D.list [a,b,c]))=true from fun a b c=>qeq_len [a,b,c],show∀a b c d,qcmp BinOp.eql 4 (qlen (D.list [a,b,c,d]))=true from fun a b c d=>qeq_len [a,b,c,d],cond_true]
noncomputable def q126:List D→Option (List D):=veil (F126)
theorem q126_eq:q126=F126:=veil_eq _
noncomputable def tb126:Tb:=Tb.addF tbl126_1 126 S126 (q126)
theorem ok_tb126:TbOk env (tb126):=addFunF ok_tbl126_1 126 (by kernel_rfl) _ (q126_eq)
end Go.Proofs.YtfdedgmlafelaaaGreatDoor
open Go Go.AM
namespace Go.Proofs.YtfdedgmlafelaaaGreatDoor
set_option maxRecDepth 100000
set_option linter.unusedSimpArgs false
set_option linter.unusedVariables false
def S95:FunS:=⟨[⟨true,(.rows 46)⟩,⟨true,(.int .i64)⟩],[],[⟨true,(.rows 3)⟩],[]⟩
noncomputable def F95:List D→Option (List D):=liftX env tb126 60 12 95 S95
theorem F95_eq (sd0:D) (sn1:Int):F95 [sd0,(D.int sn1)] =
 bif (qcmp BinOp.geq sn1 (qlen sd0))then
 some [(D.list [])]
 else
 bif (qcmp BinOp.leq 0 (qlen sd0))then
 bif (qcmp BinOp.leq (qlen sd0) (qlen sd0))then
 bif (qmem (qlen sd0) 1)then
 bif (qcmp BinOp.eql (qlen sd0) (qlen (qrep (qlen sd0) (D.bool Bool.false))))then
 bif (qsome (q125 [sd0,(D.int sn1),(D.list []),(qrep (qlen sd0) (D.bool Bool.false))]))then
 bif (qsome (q126 [(qnth (q125 [sd0,(D.int sn1),(D.list []),(qrep (qlen sd0) (D.bool Bool.false))]) 0)]))then
 bif (qcmp BinOp.eql (qlen (qnth (q125 [sd0,(D.int sn1),(D.list []),(qrep (qlen sd0) (D.bool Bool.false))]) 0)) (qlen (qnth (q126 [(qnth (q125 [sd0,(D.int sn1),(D.list []),(qrep (qlen sd0) (D.bool Bool.false))]) 0)]) 0)))then
 some [(qnth (q126 [(qnth (q125 [sd0,(D.int sn1),(D.list []),(qrep (qlen sd0) (D.bool Bool.false))]) 0)]) 0)]
 else
 none
 else
 none
 else
 none
 else
 none
 else
 none
 else
 none
 else
 none:=by
 have h:F95 [sd0,(D.int sn1)] =
  bif (qcmp BinOp.geq sn1 (qlen sd0))then
  some [(D.list [])]
  else
  bif (qcmp BinOp.leq 0 (qlen sd0))then
  bif (qcmp BinOp.leq (qlen sd0) (qlen sd0))then
  bif (qmem (qlen sd0) 1)then
  bif (qcmp BinOp.eql 0 (qlen (D.list [])))then
  bif (qcmp BinOp.eql (qlen sd0) (qlen (qrep (qlen sd0) (D.bool Bool.false))))then
  bif (qsome (q125 [sd0,(D.int sn1),(D.list []),(qrep (qlen sd0) (D.bool Bool.false))]))then
  bif (qcmp BinOp.eql (qlen (qnth (q125 [sd0,(D.int sn1),(D.list []),(qrep (qlen sd0) (D.bool Bool.false))]) 0)) (qlen (qnth (q125 [sd0,(D.int sn1),(D.list []),(qrep (qlen sd0) (D.bool Bool.false))]) 0)))then
  bif (qsome (q126 [(qnth (q125 [sd0,(D.int sn1),(D.list []),(qrep (qlen sd0) (D.bool Bool.false))]) 0)]))then
  bif (qcmp BinOp.eql (qlen (qnth (q125 [sd0,(D.int sn1),(D.list []),(qrep (qlen sd0) (D.bool Bool.false))]) 0)) (qlen (qnth (q126 [(qnth (q125 [sd0,(D.int sn1),(D.list []),(qrep (qlen sd0) (D.bool Bool.false))]) 0)]) 0)))then
  some [(qnth (q126 [(qnth (q125 [sd0,(D.int sn1),(D.list []),(qrep (qlen sd0) (D.bool Bool.false))]) 0)]) 0)]
  else
  none
  else
  none
  else
  none
  else
  none
  else
  none
  else
  none
  else
  none
  else
  none
  else
  none:=by kernel_rfl
 rw[h];simp only[qeqD_self,qeqI_self,qeq_len,show qcmp BinOp.eql 0 (qlen (D.list []))=true from qeq_len [],show∀a,qcmp BinOp.eql 1 (qlen (D.list [a]))=true from fun a=>qeq_len [a],show∀a b,qcmp BinOp.eql 2 (qlen (D.list [a,b]))=true from fun a b=>qeq_len [a,b],show∀a b c,qcmp BinOp.eql 3 (qlen (D.list [a,b,c]))=true from fun a b c=>qeq_len [a,b,c],show∀a b c d,qcmp BinOp.eql 4 (qlen (D.list [a,b,c,d]))=true from fun a b c d=>qeq_len [a,b,c,d],cond_true]
noncomputable def q95:List D→Option (List D):=veil (F95)
theorem q95_eq:q95=F95:=veil_eq _
noncomputable def tb95:Tb:=Tb.addF tb126 95 S95 (q95)
theorem ok_tb95:TbOk env (tb95):=addFunF ok_tb126 95 (by kernel_rfl) _ (q95_eq)
def S51:FunS:=⟨[⟨true,(.dat 25)⟩],[],[⟨true,(.rows 3)⟩],[]⟩
noncomputable def F51:List D→Option (List D):=liftX env tb95 60 12 51 S51
theorem F51_eq (sd0:D):F51 [sd0] =
 bif (qsome (q96 [sd0]))then
 bif (qsome (q95 [(qnth (q96 [sd0]) 0),(D.int 0)]))then
 some [(qnth (q95 [(qnth (q96 [sd0]) 0),(D.int 0)]) 0)]
 else
 none
 else
 none:=by kernel_rfl
noncomputable def q51:List D→Option (List D):=veil (F51)
theorem q51_eq:q51=F51:=veil_eq _
noncomputable def tb51:Tb:=Tb.addF tb95 51 S51 (q51)
theorem ok_tb51:TbOk env (tb51):=addFunF ok_tb95 51 (by kernel_rfl) _ (q51_eq)
def S20_3:LoopS:=⟨0,[uF,uF,⟨false,(.lit (.slice none 0 0))⟩,⟨false,(.osl 0 4)⟩,uF,uF,uF,uF,uF,uF,uF,⟨false,(.rows 3)⟩,⟨false,(.int .i64)⟩,⟨true,(.int .i64)⟩,uF,uF,uF,uF,uF,uF,uF,uF],[(.lst true 4)],[⟨0,0,[uT,uT,⟨true,(.lit (.slice none 0 0))⟩,⟨true,(.osl 0 4)⟩,uT,uT,uT,uT,uT,uT,uT,⟨false,(.rows 3)⟩,⟨false,(.int .i64)⟩,uT,uT,uT,uT,uT,uT,uT,uT,uT],[(.lst true 4)]⟩]⟩
noncomputable def st20_3 (p s:List D):Option (Sum (List D) (List D)):=stepQX env tb51 60 12 20 (loopC 20 3) S20_3 p s
theorem st20_3_eq (pd0:D) (pn1:Int) (sn0:Int) (sd1:D):st20_3 [pd0,(D.int pn1)] [(D.int sn0),sd1] =
 bif (qcmp BinOp.lss sn0 pn1)then
 bif (qinb pd0 sn0)then
 bif (qcmp BinOp.leq 0 (qint (qget pd0 sn0)))then
 bif (qcmp BinOp.lss (qint (qget pd0 sn0)) (qlen sd1))then
 bif (qinb sd1 (qint (qget pd0 sn0)))then
 bif (qcmp BinOp.eql (qlen sd1) (qlen (qset sd1 (qint (qget pd0 sn0)) (D.bool Bool.true))))then
 some (Sum.inl [(D.int (qbin BinOp.add IntKind.i64 sn0 1)),(qset sd1 (qint (qget pd0 sn0)) (D.bool Bool.true))])
 else
 none
 else
 none
 else
 none
 else
 none
 else
 none
 else
 some (Sum.inr [(D.int 0),sd1]):=by
 have h:st20_3 [pd0,(D.int pn1)] [(D.int sn0),sd1] =
  bif (qcmp BinOp.lss sn0 pn1)then
  bif (qinb pd0 sn0)then
  bif (qcmp BinOp.leq 0 (qint (qget pd0 sn0)))then
  bif (qcmp BinOp.lss (qint (qget pd0 sn0)) (qlen sd1))then
  bif (qinb sd1 (qint (qget pd0 sn0)))then
  bif (qcmp BinOp.eql (qlen sd1) (qlen (qset sd1 (qint (qget pd0 sn0)) (D.bool Bool.true))))then
  bif (qeqD pd0 pd0)then
  bif (qeqD (D.int pn1) (D.int pn1))then
  some (Sum.inl [(D.int (qbin BinOp.add IntKind.i64 sn0 1)),(qset sd1 (qint (qget pd0 sn0)) (D.bool Bool.true))])
  else
  none
  else
  none
  else
  none
  else
  none
  else
  none
  else
  none
  else
  none
  else
  bif (qcmp BinOp.eql (qlen sd1) (qlen sd1))then
  bif (qeqD pd0 pd0)then
  bif (qeqD (D.int pn1) (D.int pn1))then
  some (Sum.inr [(D.int 0),sd1])
  else
  none
  else
  none
  else
  none:=by kernel_rfl
 rw[h];simp only[qeqD_self,qeqI_self,qeq_len,show qcmp BinOp.eql 0 (qlen (D.list []))=true from qeq_len [],show∀a,qcmp BinOp.eql 1 (qlen (D.list [a]))=true from fun a=>qeq_len [a],show∀a b,qcmp BinOp.eql 2 (qlen (D.list [a,b]))=true from fun a b=>qeq_len [a,b],show∀a b c,qcmp BinOp.eql 3 (qlen (D.list [a,b,c]))=true from fun a b c=>qeq_len [a,b,c],show∀a b c d,qcmp BinOp.eql 4 (qlen (D.list [a,b,c,d]))=true from fun a b c d=>qeq_len [a,b,c,d],cond_true]
noncomputable def l20_3:List D→List D→Option (List D):=veil fun p s=>loW (st20_3 p) s
theorem l20_3_eq:l20_3=fun p s=>loW (st20_3 p) s:=veil_eq _
noncomputable def tbl20_3:Tb:=Tb.addL tb51 20 3 S20_3.n0 (mkLp S20_3 (l20_3))
theorem ok_tbl20_3:TbOk env (tbl20_3):=addLoopQ ok_tb51 20 3 (by kernel_rfl) _ (l20_3_eq)
def S20:FunS:=⟨[⟨true,(.dat 25)⟩],[],[⟨true,(.rows 4)⟩],[]⟩
noncomputable def F20:List D→Option (List D):=liftX env tbl20_3 60 12 20 S20
theorem F20_eq (sd0:D):F20 [sd0] =
 bif (qcmp BinOp.leq 0 (qlen (qfld sd0 1)))then
 bif (qcmp BinOp.leq (qlen (qfld sd0 1)) (qlen (qfld sd0 1)))then
 bif (qmem (qlen (qfld sd0 1)) 1)then
 bif (qsome (q51 [sd0]))then
 bif (qcmp BinOp.eql (qlen (qfld sd0 1)) (qlen (qrep (qlen (qfld sd0 1)) (D.bool Bool.false))))then
 bif (qsome (l20_3 [(qnth (q51 [sd0]) 0),(D.int (qlen (qnth (q51 [sd0]) 0)))] [(D.int 0),(qrep (qlen (qfld sd0 1)) (D.bool Bool.false))]))then
 some [(qnth (l20_3 [(qnth (q51 [sd0]) 0),(D.int (qlen (qnth (q51 [sd0]) 0)))] [(D.int 0),(qrep (qlen (qfld sd0 1)) (D.bool Bool.false))]) 1)]
 else
 none
 else
 none
 else
 none
 else
 none
 else
 none
 else
 none:=by
 have h:F20 [sd0] =
  bif (qcmp BinOp.leq 0 (qlen (qfld sd0 1)))then
  bif (qcmp BinOp.leq (qlen (qfld sd0 1)) (qlen (qfld sd0 1)))then
  bif (qmem (qlen (qfld sd0 1)) 1)then
  bif (qsome (q51 [sd0]))then
  bif (qcmp BinOp.eql (qlen (qfld sd0 1)) (qlen (qrep (qlen (qfld sd0 1)) (D.bool Bool.false))))then
  bif (qsome (l20_3 [(qnth (q51 [sd0]) 0),(D.int (qlen (qnth (q51 [sd0]) 0)))] [(D.int 0),(qrep (qlen (qfld sd0 1)) (D.bool Bool.false))]))then
  bif (qcmp BinOp.eql (qlen (qnth (l20_3 [(qnth (q51 [sd0]) 0),(D.int (qlen (qnth (q51 [sd0]) 0)))] [(D.int 0),(qrep (qlen (qfld sd0 1)) (D.bool Bool.false))]) 1)) (qlen (qnth (l20_3 [(qnth (q51 [sd0]) 0),(D.int (qlen (qnth (q51 [sd0]) 0)))] [(D.int 0),(qrep (qlen (qfld sd0 1)) (D.bool Bool.false))]) 1)))then
  some [(qnth (l20_3 [(qnth (q51 [sd0]) 0),(D.int (qlen (qnth (q51 [sd0]) 0)))] [(D.int 0),(qrep (qlen (qfld sd0 1)) (D.bool Bool.false))]) 1)]
  else
  none
  else
  none
  else
  none
  else
  none
  else
  none
  else
  none
  else
  none:=by kernel_rfl
 rw[h];simp only[qeqD_self,qeqI_self,qeq_len,show qcmp BinOp.eql 0 (qlen (D.list []))=true from qeq_len [],show∀a,qcmp BinOp.eql 1 (qlen (D.list [a]))=true from fun a=>qeq_len [a],show∀a b,qcmp BinOp.eql 2 (qlen (D.list [a,b]))=true from fun a b=>qeq_len [a,b],show∀a b c,qcmp BinOp.eql 3 (qlen (D.list [a,b,c]))=true from fun a b c=>qeq_len [a,b,c],show∀a b c d,qcmp BinOp.eql 4 (qlen (D.list [a,b,c,d]))=true from fun a b c d=>qeq_len [a,b,c,d],cond_true]
noncomputable def q20:List D→Option (List D):=veil (F20)
theorem q20_eq:q20=F20:=veil_eq _
noncomputable def tb20:Tb:=Tb.addF tbl20_3 20 S20 (q20)
theorem ok_tb20:TbOk env (tb20):=addFunF ok_tbl20_3 20 (by kernel_rfl) _ (q20_eq)
end Go.Proofs.YtfdedgmlafelaaaGreatDoor
open Go Go.AM
namespace Go.Proofs.YtfdedgmlafelaaaGreatDoor
set_option maxRecDepth 100000
set_option linter.unusedSimpArgs false
set_option linter.unusedVariables false
noncomputable def tb9e:Tb:=Tb.addF tb20 9 S9 q9
theorem ok_tb9e:TbOk env tb9e:=TbOk.addF ok_tb20 (by kernel_rfl) sound9
def S6_17:LoopS:=⟨0,[uF,⟨false,(.ptr 0 0)⟩,⟨false,(.lit (.bool false))⟩,⟨false,(.rows 3)⟩,uF,⟨false,(.rows 4)⟩,⟨false,(.int .i64)⟩,⟨true,(.int .u32)⟩,⟨true,(.int .i64)⟩,uF,uF,uF,uF,uF,uF,uF,uF,uF,uF,uF,uF,uF,uF,uF,uF,uF,uF,uF,uF,uF,uF,uF,uF,uF,uF,uF,uF,uF,uF,uF,uF,uF,uF,uF,uF,uF,uF,uF,uF,uF,uF,uF,uF,uF,uF,uF,uF,uF,uF,uF,uF,uF,uF,uF,uF,uF,uF,uF,uF,uF,uF,uF,uF,uF,uF,uF,uF,uF,uF,uF,uF,uF,uF,uF,uF,uF,uF,uF,uF,uF,uF,uF,uF,uF,uF,uF,uF,uF,uF,uF,uF,uF,uF,uF,uF,uF,uF,uF,uF,uF,uF,uF,uF,uF,uF,uF,uF,uF,uF,uF,uF,uF,uF,uF,uF,uF,uF,uF,uF,uF,uF,uF,uF,uF,uF,uF,uF,uF,uF,uF,uF,uF,uF,uF,uF,uF,uF,uF,uF,uF,uF,uF,uF,uF,uF,uF,uF,uF,uF,uF,uF,uF,uF,uF,uF,uF,uF,uF,uF,uF,uF,uF,uF,uF,uF,uF,uF,uF,uF,uF],[(.dat false 25)],[⟨0,2,[uT,⟨true,(.ptr 0 0)⟩,⟨true,(.lit (.bool false))⟩,⟨false,(.rows 3)⟩,uT,⟨false,(.rows 4)⟩,⟨false,(.int .i64)⟩,⟨true,(.int .u32)⟩,uT,uT,uT,uT,uT,uT,uT,uT,uT,uT,uT,uT,uT,uT,uT,uT,uT,uT,uT,uT,uT,uT,uT,uT,uT,uT,uT,uT,uT,uT,uT,uT,uT,uT,uT,uT,uT,uT,uT,uT,uT,uT,uT,uT,uT,uT,uT,uT,uT,uT,uT,uT,uT,uT,uT,uT,uT,uT,uT,uT,uT,uT,uT,uT,uT,uT,uT,uT,uT,uT,uT,uT,uT,uT,uT,uT,uT,uT,uT,uT,uT,uT,uT,uT,uT,uT,uT,uT,uT,uT,uT,uT,uT,uT,uT,uT,uT,uT,uT,uT,uT,uT,uT,uT,uT,uT,uT,uT,uT,uT,uT,uT,uT,uT,uT,uT,uT,uT,uT,uT,uT,uT,uT,uT,uT,uT,uT,uT,uT,uT,uT,uT,uT,uT,uT,uT,uT,uT,uT,uT,uT,uT,uT,uT,uT,uT,uT,uT,uT,uT,uT,uT,uT,uT,uT,uT,uT,uT,uT,uT,uT,uT,uT,uT,uT,uT,uT,uT,uT,uT,uT,uT],[(.dat false 25)]⟩,⟨1,0,[uT,uT,⟨true,(.lit (.bool false))⟩,⟨false,(.rows 3)⟩,uT,⟨false,(.rows 4)⟩,⟨false,(.int .i64)⟩,uT,uT,uT,uT,uT,uT,uT,uT,uT,uT,uT,uT,uT,uT,uT,uT,uT,uT,uT,uT,uT,uT,uT,uT,uT,uT,uT,uT,uT,uT,uT,uT,uT,uT,uT,uT,uT,uT,uT,uT,uT,uT,uT,uT,uT,uT,uT,uT,uT,uT,uT,uT,uT,uT,uT,uT,uT,uT,uT,uT,uT,uT,uT,uT,uT,uT,uT,uT,uT,uT,uT,uT,uT,uT,uT,uT,uT,uT,uT,uT,uT,uT,uT,uT,uT,uT,uT,uT,uT,uT,uT,uT,uT,uT,uT,uT,uT,uT,uT,uT,uT,uT,uT,uT,uT,uT,uT,uT,uT,uT,uT,uT,uT,uT,uT,uT,uT,uT,uT,uT,uT,uT,uT,uT,uT,uT,uT,uT,uT,uT,uT,uT,uT,uT,uT,uT,uT,uT,uT,uT,uT,uT,uT,uT,uT,uT,uT,uT,uT,uT,uT,uT,uT,uT,uT,uT,uT,uT,uT,uT,uT,uT,uT,uT,uT,uT,uT,uT,uT,uT,uT,uT,uT],[(.dat false 25)]⟩]⟩
noncomputable def st6_17 (p s:List D):Option (Sum (List D) (List D)):=stepQX env tb9e 60 12 6 (loopC 6 17) S6_17 p s
theorem st6_17_eq (pd0:D) (pd1:D) (pn2:Int) (pd3:D) (sn0:Int) (sn1:Int):st6_17 [pd0,pd1,(D.int pn2),pd3] [(D.int sn0),(D.int sn1)] =
 bif (qinb (qfld pd3 1) pn2)then
 bif (qcmp BinOp.lss sn1 (qlen (qfld (qget (qfld pd3 1) pn2) 1)))then
 bif (qinb (qfld pd3 1) pn2)then
 bif (qinb (qfld (qget (qfld pd3 1) pn2) 1) sn1)then
 bif (qiteB (qiteB (qcmp BinOp.eql (qint (qfld (qget (qfld (qget (qfld pd3 1) pn2) 1) sn1) 0)) 1) (qcmp BinOp.eql (qint (qfld (qget (qfld (qget (qfld pd3 1) pn2) 1) sn1) 1)) 7) Bool.false) (qcmp BinOp.eql (qlen (qfld (qget (qfld (qget (qfld pd3 1) pn2) 1) sn1) 6)) 1) Bool.false)then
 bif (qinb (qfld (qget (qfld (qget (qfld pd3 1) pn2) 1) sn1) 6) 0)then
 bif (qsome (q21 [(qget (qfld (qget (qfld (qget (qfld pd3 1) pn2) 1) sn1) 6) 0)]))then
 bif (qnot (qbool (qnth (q21 [(qget (qfld (qget (qfld (qget (qfld pd3 1) pn2) 1) sn1) 6) 0)]) 1)))then
 some (Sum.inr [(D.int 1)])
 else
 some (Sum.inl [(D.int (qbin BinOp.add IntKind.u32 (qiteI (qcmp BinOp.eql (qint (qfld (qget (qfld (qget (qfld pd3 1) pn2) 1) sn1) 0)) 5) (qbin BinOp.add IntKind.u32 sn0 4) sn0) (qwrap IntKind.u32 (qint (qnth (q21 [(qget (qfld (qget (qfld (qget (qfld pd3 1) pn2) 1) sn1) 6) 0)]) 0))))),(D.int (qbin BinOp.add IntKind.i64 sn1 1))])
 else
 none
 else
 none
 else
 some (Sum.inl [(D.int (qiteI (qcmp BinOp.eql (qint (qfld (qget (qfld (qget (qfld pd3 1) pn2) 1) sn1) 0)) 5) (qbin BinOp.add IntKind.u32 sn0 4) sn0)),(D.int (qbin BinOp.add IntKind.i64 sn1 1))])
 else
 none
 else
 none
 else
 some (Sum.inr [(D.int 0),(D.int sn0)])
 else
 none:=by
 have h:st6_17 [pd0,pd1,(D.int pn2),pd3] [(D.int sn0),(D.int sn1)] =
  bif (qinb (qfld pd3 1) pn2)then
  bif (qcmp BinOp.lss sn1 (qlen (qfld (qget (qfld pd3 1) pn2) 1)))then
  bif (qinb (qfld pd3 1) pn2)then
  bif (qinb (qfld (qget (qfld pd3 1) pn2) 1) sn1)then
  bif (qiteB (qiteB (qcmp BinOp.eql (qint (qfld (qget (qfld (qget (qfld pd3 1) pn2) 1) sn1) 0)) 1) (qcmp BinOp.eql (qint (qfld (qget (qfld (qget (qfld pd3 1) pn2) 1) sn1) 1)) 7) Bool.false) (qcmp BinOp.eql (qlen (qfld (qget (qfld (qget (qfld pd3 1) pn2) 1) sn1) 6)) 1) Bool.false)then
  bif (qinb (qfld (qget (qfld (qget (qfld pd3 1) pn2) 1) sn1) 6) 0)then
  bif (qsome (q21 [(qget (qfld (qget (qfld (qget (qfld pd3 1) pn2) 1) sn1) 6) 0)]))then
  bif (qnot (qbool (qnth (q21 [(qget (qfld (qget (qfld (qget (qfld pd3 1) pn2) 1) sn1) 6) 0)]) 1)))then
  bif (qeqD pd0 pd0)then
  bif (qeqD pd1 pd1)then
  bif (qeqD (D.int pn2) (D.int pn2))then
  bif (qeqD pd3 pd3)then
  some (Sum.inr [(D.int 1)])
  else
  none
  else
  none
  else
  none
  else
  none
  else
  bif (qeqD pd0 pd0)then
  bif (qeqD pd1 pd1)then
  bif (qeqD (D.int pn2) (D.int pn2))then
  bif (qeqD pd3 pd3)then
  some (Sum.inl [(D.int (qbin BinOp.add IntKind.u32 (qiteI (qcmp BinOp.eql (qint (qfld (qget (qfld (qget (qfld pd3 1) pn2) 1) sn1) 0)) 5) (qbin BinOp.add IntKind.u32 sn0 4) sn0) (qwrap IntKind.u32 (qint (qnth (q21 [(qget (qfld (qget (qfld (qget (qfld pd3 1) pn2) 1) sn1) 6) 0)]) 0))))),(D.int (qbin BinOp.add IntKind.i64 sn1 1))])
  else
  none
  else
  none
  else
  none
  else
  none
  else
  none
  else
  none
  else
  bif (qeqD pd0 pd0)then
  bif (qeqD pd1 pd1)then
  bif (qeqD (D.int pn2) (D.int pn2))then
  bif (qeqD pd3 pd3)then
  some (Sum.inl [(D.int (qiteI (qcmp BinOp.eql (qint (qfld (qget (qfld (qget (qfld pd3 1) pn2) 1) sn1) 0)) 5) (qbin BinOp.add IntKind.u32 sn0 4) sn0)),(D.int (qbin BinOp.add IntKind.i64 sn1 1))])
  else
  none
  else
  none
  else
  none
  else
  none
  else
  none
  else
  none
  else
  bif (qeqD pd0 pd0)then
  bif (qeqD pd1 pd1)then
  bif (qeqD (D.int pn2) (D.int pn2))then
  bif (qeqD pd3 pd3)then
  some (Sum.inr [(D.int 0),(D.int sn0)])
  else
  none
  else
  none
  else
  none
  else
  none
  else
  none:=by kernel_rfl
 rw[h];simp only[qeqD_self,qeqI_self,qeq_len,show qcmp BinOp.eql 0 (qlen (D.list []))=true from qeq_len [],show∀a,qcmp BinOp.eql 1 (qlen (D.list [a]))=true from fun a=>qeq_len [a],show∀a b,qcmp BinOp.eql 2 (qlen (D.list [a,b]))=true from fun a b=>qeq_len [a,b],show∀a b c,qcmp BinOp.eql 3 (qlen (D.list [a,b,c]))=true from fun a b c=>qeq_len [a,b,c],show∀a b c d,qcmp BinOp.eql 4 (qlen (D.list [a,b,c,d]))=true from fun a b c d=>qeq_len [a,b,c,d],cond_true]
noncomputable def l6_17:List D→List D→Option (List D):=veil fun p s=>loW (st6_17 p) s
theorem l6_17_eq:l6_17=fun p s=>loW (st6_17 p) s:=veil_eq _
noncomputable def tbl6_17:Tb:=Tb.addL tb9e 6 17 S6_17.n0 (mkLp S6_17 (l6_17))
theorem ok_tbl6_17:TbOk env (tbl6_17):=addLoopQ ok_tb9e 6 17 (by kernel_rfl) _ (l6_17_eq)
def S6_29:LoopS:=⟨0,[uF,⟨false,(.ptr 0 0)⟩,⟨false,(.lit (.bool false))⟩,⟨false,(.rows 3)⟩,uF,⟨false,(.rows 4)⟩,⟨false,(.int .i64)⟩,⟨false,(.int .u32)⟩,uF,uF,uF,uF,⟨false,(.rows 3)⟩,⟨true,(.int .i64)⟩,uF,uF,uF,uF,uF,uF,uF,uF,uF,uF,uF,uF,uF,uF,uF,uF,uF,uF,uF,uF,uF,uF,uF,uF,uF,uF,uF,uF,uF,uF,uF,uF,uF,uF,uF,uF,uF,uF,uF,uF,uF,uF,uF,uF,uF,uF,uF,uF,uF,uF,uF,uF,uF,uF,uF,uF,uF,uF,uF,uF,uF,uF,uF,uF,uF,uF,uF,uF,uF,uF,uF,uF,uF,uF,uF,uF,uF,uF,uF,uF,uF,uF,uF,uF,uF,uF,uF,uF,uF,uF,uF,uF,uF,uF,uF,uF,uF,uF,uF,uF,uF,uF,uF,uF,uF,uF,uF,uF,uF,uF,uF,uF,uF,uF,uF,uF,uF,uF,uF,uF,uF,uF,uF,uF,uF,uF,uF,uF,uF,uF,uF,uF,uF,uF,uF,uF,uF,uF,uF,uF,uF,uF,uF,uF,uF,uF,uF,uF,uF,uF,uF,uF,uF,uF,uF,uF,uF,uF,uF,uF,uF,uF,uF,uF,uF,uF],[(.dat false 25)],[⟨0,4,[uT,⟨true,(.ptr 0 0)⟩,⟨true,(.lit (.bool false))⟩,⟨false,(.rows 3)⟩,uT,⟨false,(.rows 4)⟩,⟨false,(.int .i64)⟩,⟨false,(.int .u32)⟩,uT,uT,uT,uT,⟨false,(.rows 3)⟩,uT,uT,uT,uT,uT,uT,uT,uT,uT,uT,uT,uT,uT,uT,uT,uT,uT,uT,uT,uT,uT,uT,uT,uT,uT,uT,uT,uT,uT,uT,uT,uT,uT,uT,uT,uT,uT,uT,uT,uT,uT,uT,uT,uT,uT,uT,uT,uT,uT,uT,uT,uT,uT,uT,uT,uT,uT,uT,uT,uT,uT,uT,uT,uT,uT,uT,uT,uT,uT,uT,uT,uT,uT,uT,uT,uT,uT,uT,uT,uT,uT,uT,uT,uT,uT,uT,uT,uT,uT,uT,uT,uT,uT,uT,uT,uT,uT,uT,uT,uT,uT,uT,uT,uT,uT,uT,uT,uT,uT,uT,uT,uT,uT,uT,uT,uT,uT,uT,uT,uT,uT,uT,uT,uT,uT,uT,uT,uT,uT,uT,uT,uT,uT,uT,uT,uT,uT,uT,uT,uT,uT,uT,uT,uT,uT,uT,uT,uT,uT,uT,uT,uT,uT,uT,uT,uT,uT,uT,uT,uT,uT,uT,uT,uT,uT,uT,uT],[(.dat false 25)]⟩,⟨1,0,[uT,uT,⟨true,(.lit (.bool false))⟩,⟨false,(.rows 3)⟩,uT,⟨false,(.rows 4)⟩,⟨false,(.int .i64)⟩,⟨false,(.int .u32)⟩,uT,uT,uT,uT,⟨false,(.rows 3)⟩,uT,uT,uT,uT,uT,uT,uT,uT,uT,uT,uT,uT,uT,uT,uT,uT,uT,uT,uT,uT,uT,uT,uT,uT,uT,uT,uT,uT,uT,uT,uT,uT,uT,uT,uT,uT,uT,uT,uT,uT,uT,uT,uT,uT,uT,uT,uT,uT,uT,uT,uT,uT,uT,uT,uT,uT,uT,uT,uT,uT,uT,uT,uT,uT,uT,uT,uT,uT,uT,uT,uT,uT,uT,uT,uT,uT,uT,uT,uT,uT,uT,uT,uT,uT,uT,uT,uT,uT,uT,uT,uT,uT,uT,uT,uT,uT,uT,uT,uT,uT,uT,uT,uT,uT,uT,uT,uT,uT,uT,uT,uT,uT,uT,uT,uT,uT,uT,uT,uT,uT,uT,uT,uT,uT,uT,uT,uT,uT,uT,uT,uT,uT,uT,uT,uT,uT,uT,uT,uT,uT,uT,uT,uT,uT,uT,uT,uT,uT,uT,uT,uT,uT,uT,uT,uT,uT,uT,uT,uT,uT,uT,uT,uT,uT,uT,uT,uT],[(.dat false 25)]⟩]⟩
noncomputable def st6_29 (p s:List D):Option (Sum (List D) (List D)):=stepQX env tbl6_17 60 12 6 (loopC 6 29) S6_29 p s
theorem st6_29_eq (pd0:D) (pd1:D) (pn2:Int) (pn3:Int) (pd4:D) (pd5:D) (sn0:Int):st6_29 [pd0,pd1,(D.int pn2),(D.int pn3),pd4,pd5] [(D.int sn0)] =
 bif (qcmp BinOp.lss sn0 (qlen pd4))then
 bif (qinb pd4 sn0)then
 bif (qiteB (qcmp BinOp.lss (qint (qget pd4 sn0)) 0) Bool.true (qinb pd4 sn0))then
 bif (qiteB (qiteB (qcmp BinOp.lss (qint (qget pd4 sn0)) 0) Bool.true (qcmp BinOp.geq (qint (qget pd4 sn0)) (qlen pd0))) Bool.true (qand (qinb pd4 sn0) (qinb pd0 (qint (qget pd4 sn0)))))then
 bif (qiteB (qiteB (qcmp BinOp.lss (qint (qget pd4 sn0)) 0) Bool.true (qcmp BinOp.geq (qint (qget pd4 sn0)) (qlen pd0))) Bool.true (qcmp BinOp.neq (qwrap IntKind.u32 (qint (qget pd0 (qint (qget pd4 sn0))))) pn3))then
 some (Sum.inr [(D.int 1)])
 else
 some (Sum.inl [(D.int (qbin BinOp.add IntKind.i64 sn0 1))])
 else
 none
 else
 none
 else
 none
 else
 some (Sum.inr [(D.int 0)]):=by
 have h:st6_29 [pd0,pd1,(D.int pn2),(D.int pn3),pd4,pd5] [(D.int sn0)] =
  bif (qcmp BinOp.lss sn0 (qlen pd4))then
  bif (qinb pd4 sn0)then
  bif (qiteB (qcmp BinOp.lss (qint (qget pd4 sn0)) 0) Bool.true (qinb pd4 sn0))then
  bif (qiteB (qiteB (qcmp BinOp.lss (qint (qget pd4 sn0)) 0) Bool.true (qcmp BinOp.geq (qint (qget pd4 sn0)) (qlen pd0))) Bool.true (qand (qinb pd4 sn0) (qinb pd0 (qint (qget pd4 sn0)))))then
  bif (qiteB (qiteB (qcmp BinOp.lss (qint (qget pd4 sn0)) 0) Bool.true (qcmp BinOp.geq (qint (qget pd4 sn0)) (qlen pd0))) Bool.true (qcmp BinOp.neq (qwrap IntKind.u32 (qint (qget pd0 (qint (qget pd4 sn0))))) pn3))then
  bif (qeqD pd0 pd0)then
  bif (qeqD pd1 pd1)then
  bif (qeqD (D.int pn2) (D.int pn2))then
  bif (qeqD (D.int pn3) (D.int pn3))then
  bif (qeqD pd4 pd4)then
  bif (qeqD pd5 pd5)then
  some (Sum.inr [(D.int 1)])
  else
  none
  else
  none
  else
  none
  else
  none
  else
  none
  else
  none
  else
  bif (qeqD pd0 pd0)then
  bif (qeqD pd1 pd1)then
  bif (qeqD (D.int pn2) (D.int pn2))then
  bif (qeqD (D.int pn3) (D.int pn3))then
  bif (qeqD pd4 pd4)then
  bif (qeqD pd5 pd5)then
  some (Sum.inl [(D.int (qbin BinOp.add IntKind.i64 sn0 1))])
  else
  none
  else
  none
  else
  none
  else
  none
  else
  none
  else
  none
  else
  none
  else
  none
  else
  none
  else
  bif (qeqD pd0 pd0)then
  bif (qeqD pd1 pd1)then
  bif (qeqD (D.int pn2) (D.int pn2))then
  bif (qeqD (D.int pn3) (D.int pn3))then
  bif (qeqD pd4 pd4)then
  bif (qeqD pd5 pd5)then
  some (Sum.inr [(D.int 0)])
  else
  none
  else
  none
  else
  none
  else
  none
  else
  none
  else
  none:=by kernel_rfl
 rw[h];simp only[qeqD_self,qeqI_self,qeq_len,show qcmp BinOp.eql 0 (qlen (D.list []))=true from qeq_len [],show∀a,qcmp BinOp.eql 1 (qlen (D.list [a]))=true from fun a=>qeq_len [a],show∀a b,qcmp BinOp.eql 2 (qlen (D.list [a,b]))=true from fun a b=>qeq_len [a,b],show∀a b c,qcmp BinOp.eql 3 (qlen (D.list [a,b,c]))=true from fun a b c=>qeq_len [a,b,c],show∀a b c d,qcmp BinOp.eql 4 (qlen (D.list [a,b,c,d]))=true from fun a b c d=>qeq_len [a,b,c,d],cond_true]
noncomputable def l6_29:List D→List D→Option (List D):=veil fun p s=>loW (st6_29 p) s
theorem l6_29_eq:l6_29=fun p s=>loW (st6_29 p) s:=veil_eq _
noncomputable def tbl6_29:Tb:=Tb.addL tbl6_17 6 29 S6_29.n0 (mkLp S6_29 (l6_29))
theorem ok_tbl6_29:TbOk env (tbl6_29):=addLoopQ ok_tbl6_17 6 29 (by kernel_rfl) _ (l6_29_eq)
def S6_10:LoopS:=⟨0,[uF,⟨false,(.ptr 0 0)⟩,⟨false,(.lit (.bool false))⟩,⟨false,(.rows 3)⟩,uF,⟨false,(.rows 4)⟩,⟨true,(.int .i64)⟩,uF,uF,uF,uF,uF,uF,uF,uF,uF,uF,uF,uF,uF,uF,uF,uF,uF,uF,uF,uF,uF,uF,uF,uF,uF,uF,uF,uF,uF,uF,uF,uF,uF,uF,uF,uF,uF,uF,uF,uF,uF,uF,uF,uF,uF,uF,uF,uF,uF,uF,uF,uF,uF,uF,uF,uF,uF,uF,uF,uF,uF,uF,uF,uF,uF,uF,uF,uF,uF,uF,uF,uF,uF,uF,uF,uF,uF,uF,uF,uF,uF,uF,uF,uF,uF,uF,uF,uF,uF,uF,uF,uF,uF,uF,uF,uF,uF,uF,uF,uF,uF,uF,uF,uF,uF,uF,uF,uF,uF,uF,uF,uF,uF,uF,uF,uF,uF,uF,uF,uF,uF,uF,uF,uF,uF,uF,uF,uF,uF,uF,uF,uF,uF,uF,uF,uF,uF,uF,uF,uF,uF,uF,uF,uF,uF,uF,uF,uF,uF,uF,uF,uF,uF,uF,uF,uF,uF,uF,uF,uF,uF,uF,uF,uF,uF,uF,uF,uF,uF,uF,uF,uF,uF],[(.dat false 25)],[⟨0,0,[uT,uT,⟨true,(.lit (.bool false))⟩,⟨false,(.rows 3)⟩,uT,⟨false,(.rows 4)⟩,uT,uT,uT,uT,uT,uT,uT,uT,uT,uT,uT,uT,uT,uT,uT,uT,uT,uT,uT,uT,uT,uT,uT,uT,uT,uT,uT,uT,uT,uT,uT,uT,uT,uT,uT,uT,uT,uT,uT,uT,uT,uT,uT,uT,uT,uT,uT,uT,uT,uT,uT,uT,uT,uT,uT,uT,uT,uT,uT,uT,uT,uT,uT,uT,uT,uT,uT,uT,uT,uT,uT,uT,uT,uT,uT,uT,uT,uT,uT,uT,uT,uT,uT,uT,uT,uT,uT,uT,uT,uT,uT,uT,uT,uT,uT,uT,uT,uT,uT,uT,uT,uT,uT,uT,uT,uT,uT,uT,uT,uT,uT,uT,uT,uT,uT,uT,uT,uT,uT,uT,uT,uT,uT,uT,uT,uT,uT,uT,uT,uT,uT,uT,uT,uT,uT,uT,uT,uT,uT,uT,uT,uT,uT,uT,uT,uT,uT,uT,uT,uT,uT,uT,uT,uT,uT,uT,uT,uT,uT,uT,uT,uT,uT,uT,uT,uT,uT,uT,uT,uT,uT,uT,uT,uT],[(.dat false 25)]⟩,⟨1,0,[uT,uT,⟨true,(.lit (.bool false))⟩,⟨false,(.rows 3)⟩,uT,⟨false,(.rows 4)⟩,uT,uT,uT,uT,uT,uT,uT,uT,uT,uT,uT,uT,uT,uT,uT,uT,uT,uT,uT,uT,uT,uT,uT,uT,uT,uT,uT,uT,uT,uT,uT,uT,uT,uT,uT,uT,uT,uT,uT,uT,uT,uT,uT,uT,uT,uT,uT,uT,uT,uT,uT,uT,uT,uT,uT,uT,uT,uT,uT,uT,uT,uT,uT,uT,uT,uT,uT,uT,uT,uT,uT,uT,uT,uT,uT,uT,uT,uT,uT,uT,uT,uT,uT,uT,uT,uT,uT,uT,uT,uT,uT,uT,uT,uT,uT,uT,uT,uT,uT,uT,uT,uT,uT,uT,uT,uT,uT,uT,uT,uT,uT,uT,uT,uT,uT,uT,uT,uT,uT,uT,uT,uT,uT,uT,uT,uT,uT,uT,uT,uT,uT,uT,uT,uT,uT,uT,uT,uT,uT,uT,uT,uT,uT,uT,uT,uT,uT,uT,uT,uT,uT,uT,uT,uT,uT,uT,uT,uT,uT,uT,uT,uT,uT,uT,uT,uT,uT,uT,uT,uT,uT,uT,uT,uT],[(.dat false 25)]⟩]⟩
noncomputable def st6_10 (p s:List D):Option (Sum (List D) (List D)):=stepQX env tbl6_29 60 12 6 (loopC 6 10) S6_10 p s
theorem st6_10_eq (pd0:D) (pd1:D) (pd2:D) (sn0:Int):st6_10 [pd0,pd1,pd2] [(D.int sn0)] =
 bif (qcmp BinOp.lss sn0 (qlen (qfld pd2 1)))then
 bif (qinb pd1 sn0)then
 bif (qnot (qbool (qget pd1 sn0)))then
 bif (qinb pd0 sn0)then
 bif (qcmp BinOp.neq (qint (qget pd0 sn0)) 0)then
 some (Sum.inr [(D.int 1)])
 else
 some (Sum.inl [(D.int (qbin BinOp.add IntKind.i64 sn0 1))])
 else
 none
 else
 bif (qinb pd0 sn0)then
 bif (qsome (l6_17 [pd0,pd1,(D.int sn0),pd2] [(D.int (qwrap IntKind.u32 (qint (qget pd0 sn0)))),(D.int 0)]))then
 bif (qcmp BinOp.eql (qint (qnth (l6_17 [pd0,pd1,(D.int sn0),pd2] [(D.int (qwrap IntKind.u32 (qint (qget pd0 sn0)))),(D.int 0)]) 0)) 0)then
 bif (qinb (qfld pd2 1) sn0)then
 bif (qsome (q22 [(qget (qfld pd2 1) sn0)]))then
 bif (qsome (l6_29 [pd0,pd1,(D.int sn0),(D.int (qint (qnth (l6_17 [pd0,pd1,(D.int sn0),pd2] [(D.int (qwrap IntKind.u32 (qint (qget pd0 sn0)))),(D.int 0)]) 1))),(qnth (q22 [(qget (qfld pd2 1) sn0)]) 0),pd2] [(D.int 0)]))then
 bif (qcmp BinOp.eql (qint (qnth (l6_29 [pd0,pd1,(D.int sn0),(D.int (qint (qnth (l6_17 [pd0,pd1,(D.int sn0),pd2] [(D.int (qwrap IntKind.u32 (qint (qget pd0 sn0)))),(D.int 0)]) 1))),(qnth (q22 [(qget (qfld pd2 1) sn0)]) 0),pd2] [(D.int 0)]) 0)) 0)then
 some (Sum.inl [(D.int (qbin BinOp.add IntKind.i64 sn0 1))])
 else
 some (Sum.inr [(D.int 1)])
 else
 none
 else
 none
 else
 none
 else
 some (Sum.inr [(D.int 1)])
 else
 none
 else
 none
 else
 none
 else
 some (Sum.inr [(D.int 0)]):=by
 have h:st6_10 [pd0,pd1,pd2] [(D.int sn0)] =
  bif (qcmp BinOp.lss sn0 (qlen (qfld pd2 1)))then
  bif (qinb pd1 sn0)then
  bif (qnot (qbool (qget pd1 sn0)))then
  bif (qinb pd0 sn0)then
  bif (qcmp BinOp.neq (qint (qget pd0 sn0)) 0)then
  bif (qeqD pd0 pd0)then
  bif (qeqD pd1 pd1)then
  bif (qeqD pd2 pd2)then
  some (Sum.inr [(D.int 1)])
  else
  none
  else
  none
  else
  none
  else
  bif (qeqD pd0 pd0)then
  bif (qeqD pd1 pd1)then
  bif (qeqD pd2 pd2)then
  some (Sum.inl [(D.int (qbin BinOp.add IntKind.i64 sn0 1))])
  else
  none
  else
  none
  else
  none
  else
  none
  else
  bif (qinb pd0 sn0)then
  bif (qsome (l6_17 [pd0,pd1,(D.int sn0),pd2] [(D.int (qwrap IntKind.u32 (qint (qget pd0 sn0)))),(D.int 0)]))then
  bif (qcmp BinOp.eql (qint (qnth (l6_17 [pd0,pd1,(D.int sn0),pd2] [(D.int (qwrap IntKind.u32 (qint (qget pd0 sn0)))),(D.int 0)]) 0)) 0)then
  bif (qinb (qfld pd2 1) sn0)then
  bif (qsome (q22 [(qget (qfld pd2 1) sn0)]))then
  bif (qsome (l6_29 [pd0,pd1,(D.int sn0),(D.int (qint (qnth (l6_17 [pd0,pd1,(D.int sn0),pd2] [(D.int (qwrap IntKind.u32 (qint (qget pd0 sn0)))),(D.int 0)]) 1))),(qnth (q22 [(qget (qfld pd2 1) sn0)]) 0),pd2] [(D.int 0)]))then
  bif (qcmp BinOp.eql (qint (qnth (l6_29 [pd0,pd1,(D.int sn0),(D.int (qint (qnth (l6_17 [pd0,pd1,(D.int sn0),pd2] [(D.int (qwrap IntKind.u32 (qint (qget pd0 sn0)))),(D.int 0)]) 1))),(qnth (q22 [(qget (qfld pd2 1) sn0)]) 0),pd2] [(D.int 0)]) 0)) 0)then
  bif (qeqD pd0 pd0)then
  bif (qeqD pd1 pd1)then
  bif (qeqD pd2 pd2)then
  some (Sum.inl [(D.int (qbin BinOp.add IntKind.i64 sn0 1))])
  else
  none
  else
  none
  else
  none
  else
  bif (qeqD pd0 pd0)then
  bif (qeqD pd1 pd1)then
  bif (qeqD pd2 pd2)then
  some (Sum.inr [(D.int 1)])
  else
  none
  else
  none
  else
  none
  else
  none
  else
  none
  else
  none
  else
  bif (qeqD pd0 pd0)then
  bif (qeqD pd1 pd1)then
  bif (qeqD pd2 pd2)then
  some (Sum.inr [(D.int 1)])
  else
  none
  else
  none
  else
  none
  else
  none
  else
  none
  else
  none
  else
  bif (qeqD pd0 pd0)then
  bif (qeqD pd1 pd1)then
  bif (qeqD pd2 pd2)then
  some (Sum.inr [(D.int 0)])
  else
  none
  else
  none
  else
  none:=by kernel_rfl
 rw[h];simp only[qeqD_self,qeqI_self,qeq_len,show qcmp BinOp.eql 0 (qlen (D.list []))=true from qeq_len [],show∀a,qcmp BinOp.eql 1 (qlen (D.list [a]))=true from fun a=>qeq_len [a],show∀a b,qcmp BinOp.eql 2 (qlen (D.list [a,b]))=true from fun a b=>qeq_len [a,b],show∀a b c,qcmp BinOp.eql 3 (qlen (D.list [a,b,c]))=true from fun a b c=>qeq_len [a,b,c],show∀a b c d,qcmp BinOp.eql 4 (qlen (D.list [a,b,c,d]))=true from fun a b c d=>qeq_len [a,b,c,d],cond_true]
noncomputable def l6_10:List D→List D→Option (List D):=veil fun p s=>loW (st6_10 p) s
theorem l6_10_eq:l6_10=fun p s=>loW (st6_10 p) s:=veil_eq _
noncomputable def tbl6_10:Tb:=Tb.addL tbl6_29 6 10 S6_10.n0 (mkLp S6_10 (l6_10))
theorem ok_tbl6_10:TbOk env (tbl6_10):=addLoopQ ok_tbl6_29 6 10 (by kernel_rfl) _ (l6_10_eq)
def S6:FunS:=⟨[⟨true,(.dat 25)⟩],[],[⟨true, .bool⟩],[]⟩
noncomputable def F6:List D→Option (List D):=liftX env tbl6_10 60 12 6 S6
theorem F6_eq (sd0:D):F6 [sd0] =
 bif (qsome (q8 [sd0]))then
 bif (qbool (qnth (q8 [sd0]) 0))then
 bif (qsome (q9 []))then
 some [(D.bool (qbool (qnth (q9 []) 0)))]
 else
 none
 else
 bif (qsome (q17 [sd0]))then
 bif (qiteB (qnot (qbool (qnth (q17 [sd0]) 1))) Bool.true (qsome (q19 [sd0])))then
 bif (qiteB (qnot (qbool (qnth (q17 [sd0]) 1))) Bool.true (qcmp BinOp.neq (qint (qnth (q19 [sd0]) 0)) 0))then
 bif (qiteB (qiteB (qnot (qbool (qnth (q17 [sd0]) 1))) (qcmp BinOp.eql (qlen (qnth (q17 [sd0]) 0)) 0) Bool.false) (qsome (q9 [])) Bool.true)then
 some [(D.bool (qiteB (qiteB (qnot (qbool (qnth (q17 [sd0]) 1))) (qcmp BinOp.eql (qlen (qnth (q17 [sd0]) 0)) 0) Bool.false) (qbool (qnth (q9 []) 0)) Bool.false))]
 else
 none
 else
 bif (qsome (q20 [sd0]))then
 bif (qiteB (qiteB (qcmp BinOp.neq (qlen (qnth (q17 [sd0]) 0)) (qlen (qfld sd0 1))) Bool.true (qcmp BinOp.neq (qlen (qnth (q20 [sd0]) 0)) (qlen (qfld sd0 1)))) Bool.true (qcmp BinOp.eql (qlen (qnth (q17 [sd0]) 0)) 0))then
 some [(D.bool Bool.false)]
 else
 bif (qsome (l6_10 [(qnth (q17 [sd0]) 0),(qnth (q20 [sd0]) 0),sd0] [(D.int 0)]))then
 bif (qcmp BinOp.eql (qint (qnth (l6_10 [(qnth (q17 [sd0]) 0),(qnth (q20 [sd0]) 0),sd0] [(D.int 0)]) 0)) 0)then
 bif (qinb (qnth (q17 [sd0]) 0) 0)then
 bif (qiteB (qcmp BinOp.eql (qint (qget (qnth (q17 [sd0]) 0) 0)) 0) (qsome (q9 [])) Bool.true)then
 some [(D.bool (qiteB (qcmp BinOp.eql (qint (qget (qnth (q17 [sd0]) 0) 0)) 0) (qbool (qnth (q9 []) 0)) Bool.false))]
 else
 none
 else
 none
 else
 some [(D.bool Bool.false)]
 else
 none
 else
 none
 else
 none
 else
 none
 else
 none:=by kernel_rfl
noncomputable def q6:List D→Option (List D):=veil (F6)
theorem q6_eq:q6=F6:=veil_eq _
end Go.Proofs.YtfdedgmlafelaaaGreatDoor
