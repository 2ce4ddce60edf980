/-
  Made by gen3.py: what functions of the seat compute, as partial functions on data, and that they do.
-/
import Derived.Test.YtgklbalcneepoaaGreatDoorM2
import Derived.KernelRfl
open Go Go.AM
namespace Go.Proofs.YtgklbalcneepoaaGreatDoor
set_option maxRecDepth 100000
set_option linter.unusedSimpArgs false
set_option linter.unusedVariables false
def S85:FunS:=⟨[⟨true,(.int .i64)⟩],[],[⟨true, .bool⟩],[]⟩
noncomputable def F85:List D→Option (List D):=liftX env tb23 60 12 85 S85
theorem F85_eq (sn0:Int):F85 [(D.int sn0)] =
 some [(D.bool (qiteB (qcmp BinOp.geq sn0 0) (qcmp BinOp.lss sn0 65536) Bool.false))]:=by kernel_rfl
noncomputable def q85:List D→Option (List D):=veil (F85)
theorem q85_eq:q85=F85:=veil_eq _
noncomputable def tb85:Tb:=Tb.addF tb23 85 S85 (q85)
theorem ok_tb85:TbOk env (tb85):=addFunF ok_tb23 85 (by kernel_rfl) _ (q85_eq)
def S101:FunS:=⟨[⟨true,(.dat 91)⟩],[],[⟨true, .bool⟩],[]⟩
noncomputable def F101:List D→Option (List D):=liftX env tb85 60 12 101 S101
theorem F101_eq (sd0:D):F101 [sd0] =
 some [(D.bool (qiteB (qcmp BinOp.geq (qint (qfld sd0 0)) 6) (qcmp BinOp.leq (qint (qfld sd0 0)) 10) Bool.false))]:=by kernel_rfl
noncomputable def q101:List D→Option (List D):=veil (F101)
theorem q101_eq:q101=F101:=veil_eq _
noncomputable def tb101:Tb:=Tb.addF tb85 101 S101 (q101)
theorem ok_tb101:TbOk env (tb101):=addFunF ok_tb85 101 (by kernel_rfl) _ (q101_eq)
def S144:FunS:=⟨[⟨true,(.dat 91)⟩],[],[⟨true, .bool⟩],[]⟩
noncomputable def F144:List D→Option (List D):=liftX env tb101 60 12 144 S144
theorem F144_eq (sd0:D):F144 [sd0] =
 some [(D.bool (qiteB (qcmp BinOp.geq (qint (qfld sd0 0)) 6) (qcmp BinOp.leq (qint (qfld sd0 0)) 10) Bool.false))]:=by kernel_rfl
noncomputable def q144:List D→Option (List D):=veil (F144)
theorem q144_eq:q144=F144:=veil_eq _
noncomputable def tb144:Tb:=Tb.addF tb101 144 S144 (q144)
theorem ok_tb144:TbOk env (tb144):=addFunF ok_tb101 144 (by kernel_rfl) _ (q144_eq)
def S153:FunS:=⟨[⟨true,(.int .i64)⟩],[],[⟨true, .bool⟩],[]⟩
noncomputable def F153:List D→Option (List D):=liftX env tb144 60 12 153 S153
theorem F153_eq (sn0:Int):F153 [(D.int sn0)] =
 some [(D.bool (qiteB (qcmp BinOp.geq sn0 0) (qcmp BinOp.lss sn0 65536) Bool.false))]:=by kernel_rfl
noncomputable def q153:List D→Option (List D):=veil (F153)
theorem q153_eq:q153=F153:=veil_eq _
noncomputable def tb153:Tb:=Tb.addF tb144 153 S153 (q153)
theorem ok_tb153:TbOk env (tb153):=addFunF ok_tb144 153 (by kernel_rfl) _ (q153_eq)
def S154:FunS:=⟨[⟨true,(.int .i64)⟩],[],[⟨true, .bool⟩],[]⟩
noncomputable def F154:List D→Option (List D):=liftX env tb153 60 12 154 S154
theorem F154_eq (sn0:Int):F154 [(D.int sn0)] =
 some [(D.bool (qiteB (qiteB (qcmp BinOp.eql sn0 1) Bool.true (qcmp BinOp.eql sn0 2)) Bool.true (qcmp BinOp.eql sn0 4)))]:=by kernel_rfl
noncomputable def q154:List D→Option (List D):=veil (F154)
theorem q154_eq:q154=F154:=veil_eq _
noncomputable def tb154:Tb:=Tb.addF tb153 154 S154 (q154)
theorem ok_tb154:TbOk env (tb154):=addFunF ok_tb153 154 (by kernel_rfl) _ (q154_eq)
def S106:FunS:=⟨[⟨true,(.int .i64)⟩],[],[⟨true,(.int .i64)⟩],[]⟩
noncomputable def F106:List D→Option (List D):=liftX env tb154 60 12 106 S106
theorem F106_eq (sn0:Int):F106 [(D.int sn0)] =
 bif (qiteB (qcmp BinOp.eql sn0 1) (qcmp BinOp.eql sn0 1) (qiteB (qcmp BinOp.eql sn0 4) (qcmp BinOp.eql sn0 4) (qiteB (qcmp BinOp.eql sn0 7) (qcmp BinOp.eql sn0 7) (qcmp BinOp.eql sn0 8))))then
 some [(D.int 1)]
 else
 bif (qcmp BinOp.eql sn0 2)then
 some [(D.int 2)]
 else
 bif (qiteB (qcmp BinOp.eql sn0 3) (qcmp BinOp.eql sn0 3) (qiteB (qcmp BinOp.eql sn0 5) (qcmp BinOp.eql sn0 5) (qiteB (qcmp BinOp.eql sn0 6) (qcmp BinOp.eql sn0 6) (qiteB (qcmp BinOp.eql sn0 9) (qcmp BinOp.eql sn0 9) (qcmp BinOp.eql sn0 10)))))then
 some [(D.int 0)]
 else
 some [(D.int (-1))]:=by kernel_rfl
noncomputable def q106:List D→Option (List D):=veil (F106)
theorem q106_eq:q106=F106:=veil_eq _
noncomputable def tb106:Tb:=Tb.addF tb154 106 S106 (q106)
theorem ok_tb106:TbOk env (tb106):=addFunF ok_tb154 106 (by kernel_rfl) _ (q106_eq)
def S146:FunS:=⟨[⟨true,(.int .i64)⟩],[],[⟨true,(.int .i64)⟩],[]⟩
noncomputable def F146:List D→Option (List D):=liftX env tb106 60 12 146 S146
theorem F146_eq (sn0:Int):F146 [(D.int sn0)] =
 bif (qcmp BinOp.eql sn0 2)then
 some [(D.int 2)]
 else
 bif (qiteB (qcmp BinOp.eql sn0 1) (qcmp BinOp.eql sn0 1) (qiteB (qcmp BinOp.eql sn0 4) (qcmp BinOp.eql sn0 4) (qiteB (qcmp BinOp.eql sn0 7) (qcmp BinOp.eql sn0 7) (qcmp BinOp.eql sn0 8))))then
 some [(D.int 1)]
 else
 some [(D.int 0)]:=by kernel_rfl
noncomputable def q146:List D→Option (List D):=veil (F146)
theorem q146_eq:q146=F146:=veil_eq _
noncomputable def tb146:Tb:=Tb.addF tb106 146 S146 (q146)
theorem ok_tb146:TbOk env (tb146):=addFunF ok_tb106 146 (by kernel_rfl) _ (q146_eq)
def S108:FunS:=⟨[⟨true,(.dat 91)⟩],[],[⟨true, .bool⟩],[]⟩
noncomputable def F108:List D→Option (List D):=liftX env tb146 60 12 108 S108
theorem F108_eq (sd0:D):F108 [sd0] =
 bif (qiteB (qcmp BinOp.eql (qint (qfld sd0 0)) 1) (qcmp BinOp.eql (qint (qfld sd0 0)) 1) (qcmp BinOp.eql (qint (qfld sd0 0)) 3))then
 bif (qsome (q153 [(D.int (qint (qfld sd0 1)))]))then
 bif (qnot (qbool (qnth (q153 [(D.int (qint (qfld sd0 1)))]) 0)))then
 some [(D.bool Bool.false)]
 else
 some [(D.bool (qiteB (qiteB (qiteB (qiteB (qiteB (qcmp BinOp.eql (qint (qfld sd0 1)) (qint (qfld sd0 1))) (qcmp BinOp.eql (qint (qfld sd0 2)) 0) Bool.false) (qcmp BinOp.eql (qint (qfld sd0 5)) 0) Bool.false) (qcmp BinOp.eql (qint (qfld sd0 3)) 0) Bool.false) (qcmp BinOp.eql (qint (qfld sd0 4)) 0) Bool.false) (qcmp BinOp.eql (qlen (qfld sd0 7)) 0) Bool.false))]
 else
 none
 else
 bif (qcmp BinOp.eql (qint (qfld sd0 0)) 2)then
 bif (qsome (q154 [(D.int (qint (qfld sd0 2)))]))then
 bif (qnot (qbool (qnth (q154 [(D.int (qint (qfld sd0 2)))]) 0)))then
 some [(D.bool Bool.false)]
 else
 some [(D.bool (qiteB (qiteB (qiteB (qiteB (qiteB (qcmp BinOp.eql (qint (qfld sd0 1)) 0) (qcmp BinOp.eql (qint (qfld sd0 2)) (qint (qfld sd0 2))) Bool.false) (qcmp BinOp.eql (qint (qfld sd0 5)) 0) Bool.false) (qcmp BinOp.eql (qint (qfld sd0 3)) 0) Bool.false) (qcmp BinOp.eql (qint (qfld sd0 4)) 0) Bool.false) (qcmp BinOp.eql (qlen (qfld sd0 7)) 0) Bool.false))]
 else
 none
 else
 bif (qcmp BinOp.eql (qint (qfld sd0 0)) 5)then
 some [(D.bool (qiteB (qiteB (qiteB (qiteB (qiteB (qcmp BinOp.eql (qint (qfld sd0 1)) 0) (qcmp BinOp.eql (qint (qfld sd0 2)) 0) Bool.false) (qcmp BinOp.eql (qint (qfld sd0 5)) (qint (qfld sd0 5))) Bool.false) (qcmp BinOp.eql (qint (qfld sd0 3)) 0) Bool.false) (qcmp BinOp.eql (qint (qfld sd0 4)) 0) Bool.false) (qcmp BinOp.eql (qlen (qfld sd0 7)) 0) Bool.false))]
 else
 bif (qcmp BinOp.eql (qint (qfld sd0 0)) 6)then
 some [(D.bool (qiteB (qiteB (qiteB (qiteB (qiteB (qcmp BinOp.eql (qint (qfld sd0 1)) 0) (qcmp BinOp.eql (qint (qfld sd0 2)) 0) Bool.false) (qcmp BinOp.eql (qint (qfld sd0 5)) 0) Bool.false) (qcmp BinOp.eql (qint (qfld sd0 3)) (qint (qfld sd0 3))) Bool.false) (qcmp BinOp.eql (qint (qfld sd0 4)) 0) Bool.false) (qcmp BinOp.eql (qlen (qfld sd0 7)) 0) Bool.false))]
 else
 bif (qcmp BinOp.eql (qint (qfld sd0 0)) 7)then
 some [(D.bool (qiteB (qiteB (qiteB (qiteB (qiteB (qcmp BinOp.eql (qint (qfld sd0 1)) 0) (qcmp BinOp.eql (qint (qfld sd0 2)) 0) Bool.false) (qcmp BinOp.eql (qint (qfld sd0 5)) 0) Bool.false) (qcmp BinOp.eql (qint (qfld sd0 3)) (qint (qfld sd0 3))) Bool.false) (qcmp BinOp.eql (qint (qfld sd0 4)) (qint (qfld sd0 4))) Bool.false) (qcmp BinOp.eql (qlen (qfld sd0 7)) 0) Bool.false))]
 else
 bif (qcmp BinOp.eql (qint (qfld sd0 0)) 8)then
 bif (qiteB (qcmp BinOp.lss (qlen (qfld sd0 7)) 1) Bool.true (qcmp BinOp.gtr (qlen (qfld sd0 7)) 64))then
 some [(D.bool Bool.false)]
 else
 some [(D.bool (qiteB (qiteB (qiteB (qiteB (qiteB (qcmp BinOp.eql (qint (qfld sd0 1)) 0) (qcmp BinOp.eql (qint (qfld sd0 2)) 0) Bool.false) (qcmp BinOp.eql (qint (qfld sd0 5)) 0) Bool.false) (qcmp BinOp.eql (qint (qfld sd0 3)) 0) Bool.false) (qcmp BinOp.eql (qint (qfld sd0 4)) 0) Bool.false) (qcmp BinOp.eql (qlen (qfld sd0 7)) (qlen (qfld sd0 7))) Bool.false))]
 else
 some [(D.bool (qiteB (qiteB (qiteB (qiteB (qiteB (qcmp BinOp.eql (qint (qfld sd0 1)) 0) (qcmp BinOp.eql (qint (qfld sd0 2)) 0) Bool.false) (qcmp BinOp.eql (qint (qfld sd0 5)) 0) Bool.false) (qcmp BinOp.eql (qint (qfld sd0 3)) 0) Bool.false) (qcmp BinOp.eql (qint (qfld sd0 4)) 0) Bool.false) (qcmp BinOp.eql (qlen (qfld sd0 7)) 0) Bool.false))]:=by kernel_rfl
noncomputable def q108:List D→Option (List D):=veil (F108)
theorem q108_eq:q108=F108:=veil_eq _
noncomputable def tb108:Tb:=Tb.addF tb146 108 S108 (q108)
theorem ok_tb108:TbOk env (tb108):=addFunF ok_tb146 108 (by kernel_rfl) _ (q108_eq)
def S147:FunS:=⟨[⟨true,(.dat 91)⟩],[],[⟨true, .bool⟩],[]⟩
noncomputable def F147:List D→Option (List D):=liftX env tb108 60 12 147 S147
theorem F147_eq (sd0:D):F147 [sd0] =
 some [(D.bool (qiteB (qiteB (qiteB (qiteB (qiteB (qiteB (qiteB (qcmp BinOp.eql (qint (qfld sd0 0)) 1) Bool.true (qcmp BinOp.eql (qint (qfld sd0 0)) 3)) Bool.true (qcmp BinOp.eql (qint (qfld sd0 1)) 0)) (qiteB (qcmp BinOp.eql (qint (qfld sd0 0)) 2) Bool.true (qcmp BinOp.eql (qint (qfld sd0 2)) 0)) Bool.false) (qiteB (qiteB (qcmp BinOp.eql (qint (qfld sd0 0)) 6) Bool.true (qcmp BinOp.eql (qint (qfld sd0 0)) 7)) Bool.true (qcmp BinOp.eql (qint (qfld sd0 3)) 0)) Bool.false) (qiteB (qcmp BinOp.eql (qint (qfld sd0 0)) 7) Bool.true (qcmp BinOp.eql (qint (qfld sd0 4)) 0)) Bool.false) (qiteB (qcmp BinOp.eql (qint (qfld sd0 0)) 5) Bool.true (qcmp BinOp.eql (qint (qfld sd0 5)) 0)) Bool.false) (qiteB (qcmp BinOp.eql (qint (qfld sd0 0)) 8) Bool.true (qcmp BinOp.eql (qlen (qfld sd0 7)) 0)) Bool.false))]:=by kernel_rfl
noncomputable def q147:List D→Option (List D):=veil (F147)
theorem q147_eq:q147=F147:=veil_eq _
noncomputable def tb147:Tb:=Tb.addF tb108 147 S147 (q147)
theorem ok_tb147:TbOk env (tb147):=addFunF ok_tb108 147 (by kernel_rfl) _ (q147_eq)
end Go.Proofs.YtgklbalcneepoaaGreatDoor
open Go Go.AM
namespace Go.Proofs.YtgklbalcneepoaaGreatDoor
set_option maxRecDepth 100000
set_option linter.unusedSimpArgs false
set_option linter.unusedVariables false
def S151:FunS:=⟨[⟨true,(.dat 33)⟩,⟨true,(.int .i64)⟩],[],[⟨true, .bool⟩],[]⟩
noncomputable def tbR151 (Q:List D→Option (List D)):Tb:=Tb.addF tb147 151 S151 Q
theorem ok_tbR151 (Q:List D→Option (List D)) (hQ:SoundF env.P 151 S151 Q):TbOk env (tbR151 Q):=TbOk.addF ok_tb147 (by kernel_rfl) hQ
def S167:FunS:=⟨[⟨true,(.dat 33)⟩,⟨true,(.eptr [(.int .i64)])⟩],[],[⟨true, .bool⟩],[]⟩
noncomputable def F167 (Q:List D→Option (List D)):List D→Option (List D):=liftX env (tbR151 Q) 60 12 167 S167
theorem F167_eq (Q:List D→Option (List D)) (sd0:D) (sn1:Int):F167 Q [sd0,(D.int sn1)] =
 bif (qsome (Q [sd0,(D.int (qbin BinOp.sub IntKind.i64 sn1 1))]))then
 some [(D.bool (qnot (qbool (qnth (Q [sd0,(D.int (qbin BinOp.sub IntKind.i64 sn1 1))]) 0))))]
 else
 none:=by kernel_rfl
noncomputable def q167 (Q:List D→Option (List D)):List D→Option (List D):=veil (F167 Q)
theorem q167_eq (Q:List D→Option (List D)):q167 Q=F167 Q:=veil_eq _
noncomputable def tb167 (Q:List D→Option (List D)):Tb:=Tb.addF (tbR151 Q) 167 S167 (q167 Q)
theorem ok_tb167 (Q:List D→Option (List D)) (hQ:SoundF env.P 151 S151 Q):TbOk env (tb167 Q):=addFunF (ok_tbR151 Q hQ) 167 (by kernel_rfl) _ (q167_eq Q)
def S179_167_2:LoopS:=⟨0,[⟨false,(.rows 33)⟩,⟨false,(.func 167 [] [(.eptr [(.int .i64)])])⟩,uF,uF,⟨false,(.lit (.int .i64 0))⟩,uF,uF,⟨false,(.int .i64)⟩,⟨true,(.int .i64)⟩,uF,uF,uF,uF,uF,uF,uF,uF,uF,uF],[],[⟨0,0,[⟨false,(.rows 33)⟩,⟨false,(.func 167 [] [(.eptr [(.int .i64)])])⟩,uT,uT,⟨true,(.lit (.int .i64 0))⟩,uT,uT,⟨false,(.int .i64)⟩,uT,uT,uT,uT,uT,uT,uT,uT,uT,uT,uT],[]⟩,⟨1,0,[⟨false,(.rows 33)⟩,⟨false,(.func 167 [] [(.eptr [(.int .i64)])])⟩,uT,uT,⟨true,(.int .i64)⟩,uT,uT,⟨false,(.int .i64)⟩,uT,uT,uT,uT,uT,uT,uT,uT,uT,uT,uT],[]⟩]⟩
noncomputable def st179_167_2 (Q:List D→Option (List D)) (p s:List D):Option (Sum (List D) (List D)):=stepQX env (tb167 Q) 60 12 179 (loopC 179 2) S179_167_2 p s
theorem st179_167_2_eq (Q:List D→Option (List D)) (pd0:D) (pn1:Int) (pn2:Int) (sn0:Int):st179_167_2 Q [pd0,(D.int pn1),(D.int pn2)] [(D.int sn0)] =
 bif (qcmp BinOp.lss sn0 pn2)then
 bif (qinb pd0 sn0)then
 bif (qsome (q167 Q [(qget pd0 sn0),(D.int pn1)]))then
 bif (qbool (qnth (q167 Q [(qget pd0 sn0),(D.int pn1)]) 0))then
 some (Sum.inr [(D.int 1),(D.int sn0)])
 else
 some (Sum.inl [(D.int (qbin BinOp.add IntKind.i64 sn0 1))])
 else
 none
 else
 none
 else
 some (Sum.inr [(D.int 0)]):=by
 have h:st179_167_2 Q [pd0,(D.int pn1),(D.int pn2)] [(D.int sn0)] =
  bif (qcmp BinOp.lss sn0 pn2)then
  bif (qinb pd0 sn0)then
  bif (qsome (q167 Q [(qget pd0 sn0),(D.int pn1)]))then
  bif (qbool (qnth (q167 Q [(qget pd0 sn0),(D.int pn1)]) 0))then
  bif (qeqD pd0 pd0)then
  bif (qeqD (D.int pn1) (D.int pn1))then
  bif (qeqD (D.int pn2) (D.int pn2))then
  some (Sum.inr [(D.int 1),(D.int sn0)])
  else
  none
  else
  none
  else
  none
  else
  bif (qeqD pd0 pd0)then
  bif (qeqD (D.int pn1) (D.int pn1))then
  bif (qeqD (D.int pn2) (D.int pn2))then
  some (Sum.inl [(D.int (qbin BinOp.add IntKind.i64 sn0 1))])
  else
  none
  else
  none
  else
  none
  else
  none
  else
  none
  else
  bif (qeqD pd0 pd0)then
  bif (qeqD (D.int pn1) (D.int pn1))then
  bif (qeqD (D.int pn2) (D.int pn2))then
  some (Sum.inr [(D.int 0)])
  else
  none
  else
  none
  else
  none:=by kernel_rfl
 rw[h];simp only[qeqD_self,qeqI_self,qeq_len,show qcmp BinOp.eql 0 (qlen (D.list []))=true from qeq_len [],show∀a,qcmp BinOp.eql 1 (qlen (D.list [a]))=true from fun a=>qeq_len [a],show∀a b,qcmp BinOp.eql 2 (qlen (D.list [a,b]))=true from fun a b=>qeq_len [a,b],show∀a b c,qcmp BinOp.eql 3 (qlen (D.list [a,b,c]))=true from fun a b c=>qeq_len [a,b,c],show∀a b c d,qcmp BinOp.eql 4 (qlen (D.list [a,b,c,d]))=true from fun a b c d=>qeq_len [a,b,c,d],cond_true]
noncomputable def l179_167_2 (Q:List D→Option (List D)):List D→List D→Option (List D):=veil fun p s=>loW (st179_167_2 Q p) s
theorem l179_167_2_eq (Q:List D→Option (List D)):l179_167_2 Q=fun p s=>loW (st179_167_2 Q p) s:=veil_eq _
noncomputable def tbl179_167_2 (Q:List D→Option (List D)):Tb:=Tb.addL (tb167 Q) 179 2 S179_167_2.n0 (mkLp S179_167_2 (l179_167_2 Q))
theorem ok_tbl179_167_2 (Q:List D→Option (List D)) (hQ:SoundF env.P 151 S151 Q):TbOk env (tbl179_167_2 Q):=addLoopQ (ok_tb167 Q hQ) 179 2 (by kernel_rfl) _ (l179_167_2_eq Q)
def S179_167:FunS:=⟨[⟨true,(.rows 33)⟩,⟨true,(.func 167 [] [(.eptr [(.int .i64)])])⟩],[],[⟨true,(.int .i64)⟩],[]⟩
noncomputable def F179_167 (Q:List D→Option (List D)):List D→Option (List D):=liftX env (tbl179_167_2 Q) 60 12 179 S179_167
theorem F179_167_eq (Q:List D→Option (List D)) (sd0:D) (sn1:Int):F179_167 Q [sd0,(D.int sn1)] =
 bif (qsome (l179_167_2 Q [sd0,(D.int sn1),(D.int (qlen sd0))] [(D.int 0)]))then
 bif (qcmp BinOp.eql (qint (qnth (l179_167_2 Q [sd0,(D.int sn1),(D.int (qlen sd0))] [(D.int 0)]) 0)) 0)then
 some [(D.int (-1))]
 else
 some [(D.int (qint (qnth (l179_167_2 Q [sd0,(D.int sn1),(D.int (qlen sd0))] [(D.int 0)]) 1)))]
 else
 none:=by kernel_rfl
noncomputable def q179_167 (Q:List D→Option (List D)):List D→Option (List D):=veil (F179_167 Q)
theorem q179_167_eq (Q:List D→Option (List D)):q179_167 Q=F179_167 Q:=veil_eq _
noncomputable def tb179_167 (Q:List D→Option (List D)):Tb:=Tb.addF (tbl179_167_2 Q) 179 S179_167 (q179_167 Q)
theorem ok_tb179_167 (Q:List D→Option (List D)) (hQ:SoundF env.P 151 S151 Q):TbOk env (tb179_167 Q):=addFunF (ok_tbl179_167_2 Q hQ) 179 (by kernel_rfl) _ (q179_167_eq Q)
def S166_167:FunS:=⟨[⟨true,(.rows 33)⟩,⟨true,(.func 167 [] [(.eptr [(.int .i64)])])⟩],[],[⟨true, .bool⟩],[]⟩
noncomputable def F166_167 (Q:List D→Option (List D)):List D→Option (List D):=liftX env (tb179_167 Q) 60 12 166 S166_167
theorem F166_167_eq (Q:List D→Option (List D)) (sd0:D) (sn1:Int):F166_167 Q [sd0,(D.int sn1)] =
 bif (qsome (q179_167 Q [sd0,(D.int sn1)]))then
 some [(D.bool (qcmp BinOp.geq (qint (qnth (q179_167 Q [sd0,(D.int sn1)]) 0)) 0))]
 else
 none:=by kernel_rfl
noncomputable def q166_167 (Q:List D→Option (List D)):List D→Option (List D):=veil (F166_167 Q)
theorem q166_167_eq (Q:List D→Option (List D)):q166_167 Q=F166_167 Q:=veil_eq _
noncomputable def tb166_167 (Q:List D→Option (List D)):Tb:=Tb.addF (tb179_167 Q) 166 S166_167 (q166_167 Q)
theorem ok_tb166_167 (Q:List D→Option (List D)) (hQ:SoundF env.P 151 S151 Q):TbOk env (tb166_167 Q):=addFunF (ok_tb179_167 Q hQ) 166 (by kernel_rfl) _ (q166_167_eq Q)
noncomputable def Fb151 (Q:List D→Option (List D)):List D→Option (List D):=liftX env (tb166_167 Q) 60 12 151 S151
theorem Fb151_eq (Q:List D→Option (List D)) (sd0:D) (sn1:Int):Fb151 Q [sd0,(D.int sn1)] =
 bif (qiteB (qcmp BinOp.geq sn1 1) (qsome (q166_167 Q [(qfld sd0 4),(D.int sn1)])) Bool.true)then
 some [(D.bool (qiteB (qcmp BinOp.geq sn1 1) (qnot (qbool (qnth (q166_167 Q [(qfld sd0 4),(D.int sn1)]) 0))) Bool.false))]
 else
 none:=by kernel_rfl
noncomputable def F151:Nat→List D→Option (List D):=levels Fb151
theorem F151_s (n:Nat):F151 (n+1)=Fb151 (F151 n):=rfl
noncomputable def q151:List D→Option (List D):=veil fun ds=>F151 (fuelL ds) ds
theorem q151_eq:q151=fun ds=>F151 (fuelL ds) ds:=veil_eq _
theorem sound151:SoundF env.P 151 S151 q151:=recF (fun q=>tb166_167 q) (fun q hq=>ok_tb166_167 q hq) q151_eq
noncomputable def tb151:Tb:=Tb.addF tb147 151 S151 q151
theorem ok_tb151:TbOk env tb151:=TbOk.addF ok_tb147 (by kernel_rfl) sound151
end Go.Proofs.YtgklbalcneepoaaGreatDoor
open Go Go.AM
namespace Go.Proofs.YtgklbalcneepoaaGreatDoor
set_option maxRecDepth 100000
set_option linter.unusedSimpArgs false
set_option linter.unusedVariables false
def S152:FunS:=⟨[⟨true,(.dat 33)⟩],[],[⟨true, .bool⟩],[]⟩
noncomputable def tbR152 (Q:List D→Option (List D)):Tb:=Tb.addF tb151 152 S152 Q
theorem ok_tbR152 (Q:List D→Option (List D)) (hQ:SoundF env.P 152 S152 Q):TbOk env (tbR152 Q):=TbOk.addF ok_tb151 (by kernel_rfl) hQ
def S168:FunS:=⟨[⟨true,(.dat 33)⟩],[],[⟨true, .bool⟩],[]⟩
noncomputable def F168 (Q:List D→Option (List D)):List D→Option (List D):=liftX env (tbR152 Q) 60 12 168 S168
theorem F168_eq (Q:List D→Option (List D)) (sd0:D):F168 Q [sd0] =
 bif (qsome (Q [sd0]))then
 some [(D.bool (qnot (qbool (qnth (Q [sd0]) 0))))]
 else
 none:=by kernel_rfl
noncomputable def q168 (Q:List D→Option (List D)):List D→Option (List D):=veil (F168 Q)
theorem q168_eq (Q:List D→Option (List D)):q168 Q=F168 Q:=veil_eq _
noncomputable def tb168 (Q:List D→Option (List D)):Tb:=Tb.addF (tbR152 Q) 168 S168 (q168 Q)
theorem ok_tb168 (Q:List D→Option (List D)) (hQ:SoundF env.P 152 S152 Q):TbOk env (tb168 Q):=addFunF (ok_tbR152 Q hQ) 168 (by kernel_rfl) _ (q168_eq Q)
def S179_168_2:LoopS:=⟨0,[⟨false,(.rows 33)⟩,⟨false,(.func 168 [] [])⟩,uF,uF,⟨false,(.lit (.int .i64 0))⟩,uF,uF,⟨false,(.int .i64)⟩,⟨true,(.int .i64)⟩,uF,uF,uF,uF,uF,uF,uF,uF,uF,uF],[],[⟨0,0,[⟨false,(.rows 33)⟩,uT,uT,uT,⟨true,(.lit (.int .i64 0))⟩,uT,uT,⟨false,(.int .i64)⟩,uT,uT,uT,uT,uT,uT,uT,uT,uT,uT,uT],[]⟩,⟨1,0,[⟨false,(.rows 33)⟩,uT,uT,uT,⟨true,(.int .i64)⟩,uT,uT,⟨false,(.int .i64)⟩,uT,uT,uT,uT,uT,uT,uT,uT,uT,uT,uT],[]⟩]⟩
noncomputable def st179_168_2 (Q:List D→Option (List D)) (p s:List D):Option (Sum (List D) (List D)):=stepQX env (tb168 Q) 60 12 179 (loopC 179 2) S179_168_2 p s
theorem st179_168_2_eq (Q:List D→Option (List D)) (pd0:D) (pn1:Int) (sn0:Int):st179_168_2 Q [pd0,(D.int pn1)] [(D.int sn0)] =
 bif (qcmp BinOp.lss sn0 pn1)then
 bif (qinb pd0 sn0)then
 bif (qsome (q168 Q [(qget pd0 sn0)]))then
 bif (qbool (qnth (q168 Q [(qget pd0 sn0)]) 0))then
 some (Sum.inr [(D.int 1),(D.int sn0)])
 else
 some (Sum.inl [(D.int (qbin BinOp.add IntKind.i64 sn0 1))])
 else
 none
 else
 none
 else
 some (Sum.inr [(D.int 0)]):=by
 have h:st179_168_2 Q [pd0,(D.int pn1)] [(D.int sn0)] =
  bif (qcmp BinOp.lss sn0 pn1)then
  bif (qinb pd0 sn0)then
  bif (qsome (q168 Q [(qget pd0 sn0)]))then
  bif (qbool (qnth (q168 Q [(qget pd0 sn0)]) 0))then
  bif (qeqD pd0 pd0)then
  bif (qeqD (D.int pn1) (D.int pn1))then
  some (Sum.inr [(D.int 1),(D.int sn0)])
  else
  none
  else
  none
  else
  bif (qeqD pd0 pd0)then
  bif (qeqD (D.int pn1) (D.int pn1))then
  some (Sum.inl [(D.int (qbin BinOp.add IntKind.i64 sn0 1))])
  else
  none
  else
  none
  else
  none
  else
  none
  else
  bif (qeqD pd0 pd0)then
  bif (qeqD (D.int pn1) (D.int pn1))then
  some (Sum.inr [(D.int 0)])
  else
  none
  else
  none:=by kernel_rfl
 rw[h];simp only[qeqD_self,qeqI_self,qeq_len,show qcmp BinOp.eql 0 (qlen (D.list []))=true from qeq_len [],show∀a,qcmp BinOp.eql 1 (qlen (D.list [a]))=true from fun a=>qeq_len [a],show∀a b,qcmp BinOp.eql 2 (qlen (D.list [a,b]))=true from fun a b=>qeq_len [a,b],show∀a b c,qcmp BinOp.eql 3 (qlen (D.list [a,b,c]))=true from fun a b c=>qeq_len [a,b,c],show∀a b c d,qcmp BinOp.eql 4 (qlen (D.list [a,b,c,d]))=true from fun a b c d=>qeq_len [a,b,c,d],cond_true]
noncomputable def l179_168_2 (Q:List D→Option (List D)):List D→List D→Option (List D):=veil fun p s=>loW (st179_168_2 Q p) s
theorem l179_168_2_eq (Q:List D→Option (List D)):l179_168_2 Q=fun p s=>loW (st179_168_2 Q p) s:=veil_eq _
noncomputable def tbl179_168_2 (Q:List D→Option (List D)):Tb:=Tb.addL (tb168 Q) 179 2 S179_168_2.n0 (mkLp S179_168_2 (l179_168_2 Q))
theorem ok_tbl179_168_2 (Q:List D→Option (List D)) (hQ:SoundF env.P 152 S152 Q):TbOk env (tbl179_168_2 Q):=addLoopQ (ok_tb168 Q hQ) 179 2 (by kernel_rfl) _ (l179_168_2_eq Q)
def S179_168:FunS:=⟨[⟨true,(.rows 33)⟩,⟨true,(.func 168 [] [])⟩],[],[⟨true,(.int .i64)⟩],[]⟩
noncomputable def F179_168 (Q:List D→Option (List D)):List D→Option (List D):=liftX env (tbl179_168_2 Q) 60 12 179 S179_168
theorem F179_168_eq (Q:List D→Option (List D)) (sd0:D):F179_168 Q [sd0] =
 bif (qsome (l179_168_2 Q [sd0,(D.int (qlen sd0))] [(D.int 0)]))then
 bif (qcmp BinOp.eql (qint (qnth (l179_168_2 Q [sd0,(D.int (qlen sd0))] [(D.int 0)]) 0)) 0)then
 some [(D.int (-1))]
 else
 some [(D.int (qint (qnth (l179_168_2 Q [sd0,(D.int (qlen sd0))] [(D.int 0)]) 1)))]
 else
 none:=by kernel_rfl
noncomputable def q179_168 (Q:List D→Option (List D)):List D→Option (List D):=veil (F179_168 Q)
theorem q179_168_eq (Q:List D→Option (List D)):q179_168 Q=F179_168 Q:=veil_eq _
noncomputable def tb179_168 (Q:List D→Option (List D)):Tb:=Tb.addF (tbl179_168_2 Q) 179 S179_168 (q179_168 Q)
theorem ok_tb179_168 (Q:List D→Option (List D)) (hQ:SoundF env.P 152 S152 Q):TbOk env (tb179_168 Q):=addFunF (ok_tbl179_168_2 Q hQ) 179 (by kernel_rfl) _ (q179_168_eq Q)
def S166_168:FunS:=⟨[⟨true,(.rows 33)⟩,⟨true,(.func 168 [] [])⟩],[],[⟨true, .bool⟩],[]⟩
noncomputable def F166_168 (Q:List D→Option (List D)):List D→Option (List D):=liftX env (tb179_168 Q) 60 12 166 S166_168
theorem F166_168_eq (Q:List D→Option (List D)) (sd0:D):F166_168 Q [sd0] =
 bif (qsome (q179_168 Q [sd0]))then
 some [(D.bool (qcmp BinOp.geq (qint (qnth (q179_168 Q [sd0]) 0)) 0))]
 else
 none:=by kernel_rfl
noncomputable def q166_168 (Q:List D→Option (List D)):List D→Option (List D):=veil (F166_168 Q)
theorem q166_168_eq (Q:List D→Option (List D)):q166_168 Q=F166_168 Q:=veil_eq _
noncomputable def tb166_168 (Q:List D→Option (List D)):Tb:=Tb.addF (tb179_168 Q) 166 S166_168 (q166_168 Q)
theorem ok_tb166_168 (Q:List D→Option (List D)) (hQ:SoundF env.P 152 S152 Q):TbOk env (tb166_168 Q):=addFunF (ok_tb179_168 Q hQ) 166 (by kernel_rfl) _ (q166_168_eq Q)
noncomputable def Fb152 (Q:List D→Option (List D)):List D→Option (List D):=liftX env (tb166_168 Q) 60 12 152 S152
theorem Fb152_eq (Q:List D→Option (List D)) (sd0:D):Fb152 Q [sd0] =
 bif (qcmp BinOp.eql (qint (qfld sd0 0)) 1)then
 bif (qiteB (qiteB (qiteB (qiteB (qcmp BinOp.eql (qint (qfld sd0 1)) (qint (qfld sd0 1))) (qcmp BinOp.eql (qint (qfld sd0 2)) 0) Bool.false) (qcmp BinOp.eql (qint (qfld sd0 3)) 0) Bool.false) (qcmp BinOp.eql (qlen (qfld sd0 4)) 0) Bool.false) (qsome (q166_168 Q [(qfld sd0 4)])) Bool.true)then
 some [(D.bool (qiteB (qiteB (qiteB (qiteB (qcmp BinOp.eql (qint (qfld sd0 1)) (qint (qfld sd0 1))) (qcmp BinOp.eql (qint (qfld sd0 2)) 0) Bool.false) (qcmp BinOp.eql (qint (qfld sd0 3)) 0) Bool.false) (qcmp BinOp.eql (qlen (qfld sd0 4)) 0) Bool.false) (qnot (qbool (qnth (q166_168 Q [(qfld sd0 4)]) 0))) Bool.false))]
 else
 none
 else
 bif (qiteB (qcmp BinOp.eql (qint (qfld sd0 0)) 2) (qsome (q153 [(D.int (qint (qfld sd0 2)))])) Bool.true)then
 bif (qiteB (qcmp BinOp.eql (qint (qfld sd0 0)) 2) (qbool (qnth (q153 [(D.int (qint (qfld sd0 2)))]) 0)) Bool.false)then
 bif (qiteB (qiteB (qiteB (qiteB (qcmp BinOp.eql (qint (qfld sd0 1)) 0) (qcmp BinOp.eql (qint (qfld sd0 2)) (qint (qfld sd0 2))) Bool.false) (qcmp BinOp.eql (qint (qfld sd0 3)) 0) Bool.false) (qcmp BinOp.eql (qlen (qfld sd0 4)) 0) Bool.false) (qsome (q166_168 Q [(qfld sd0 4)])) Bool.true)then
 some [(D.bool (qiteB (qiteB (qiteB (qiteB (qcmp BinOp.eql (qint (qfld sd0 1)) 0) (qcmp BinOp.eql (qint (qfld sd0 2)) (qint (qfld sd0 2))) Bool.false) (qcmp BinOp.eql (qint (qfld sd0 3)) 0) Bool.false) (qcmp BinOp.eql (qlen (qfld sd0 4)) 0) Bool.false) (qnot (qbool (qnth (q166_168 Q [(qfld sd0 4)]) 0))) Bool.false))]
 else
 none
 else
 bif (qiteB (qcmp BinOp.geq (qint (qfld sd0 0)) 3) (qcmp BinOp.leq (qint (qfld sd0 0)) 15) Bool.false)then
 bif (qiteB (qiteB (qiteB (qiteB (qcmp BinOp.eql (qint (qfld sd0 1)) 0) (qcmp BinOp.eql (qint (qfld sd0 2)) 0) Bool.false) (qcmp BinOp.eql (qint (qfld sd0 3)) 0) Bool.false) (qcmp BinOp.eql (qlen (qfld sd0 4)) 2) Bool.false) (qsome (q166_168 Q [(qfld sd0 4)])) Bool.true)then
 some [(D.bool (qiteB (qiteB (qiteB (qiteB (qcmp BinOp.eql (qint (qfld sd0 1)) 0) (qcmp BinOp.eql (qint (qfld sd0 2)) 0) Bool.false) (qcmp BinOp.eql (qint (qfld sd0 3)) 0) Bool.false) (qcmp BinOp.eql (qlen (qfld sd0 4)) 2) Bool.false) (qnot (qbool (qnth (q166_168 Q [(qfld sd0 4)]) 0))) Bool.false))]
 else
 none
 else
 bif (qiteB (qcmp BinOp.eql (qint (qfld sd0 0)) 16) (qcmp BinOp.eql (qint (qfld sd0 0)) 16) (qcmp BinOp.eql (qint (qfld sd0 0)) 17))then
 bif (qiteB (qiteB (qiteB (qiteB (qcmp BinOp.eql (qint (qfld sd0 1)) 0) (qcmp BinOp.eql (qint (qfld sd0 2)) 0) Bool.false) (qcmp BinOp.eql (qint (qfld sd0 3)) 0) Bool.false) (qcmp BinOp.eql (qlen (qfld sd0 4)) 1) Bool.false) (qsome (q166_168 Q [(qfld sd0 4)])) Bool.true)then
 some [(D.bool (qiteB (qiteB (qiteB (qiteB (qcmp BinOp.eql (qint (qfld sd0 1)) 0) (qcmp BinOp.eql (qint (qfld sd0 2)) 0) Bool.false) (qcmp BinOp.eql (qint (qfld sd0 3)) 0) Bool.false) (qcmp BinOp.eql (qlen (qfld sd0 4)) 1) Bool.false) (qnot (qbool (qnth (q166_168 Q [(qfld sd0 4)]) 0))) Bool.false))]
 else
 none
 else
 bif (qiteB (qcmp BinOp.eql (qint (qfld sd0 0)) 18) (qsome (q154 [(D.int (qint (qfld sd0 3)))])) Bool.true)then
 bif (qiteB (qiteB (qcmp BinOp.eql (qint (qfld sd0 0)) 18) (qbool (qnth (q154 [(D.int (qint (qfld sd0 3)))]) 0)) Bool.false) (qiteB (qcmp BinOp.eql (qint (qfld sd0 0)) 18) (qbool (qnth (q154 [(D.int (qint (qfld sd0 3)))]) 0)) Bool.false) (qiteB (qcmp BinOp.eql (qint (qfld sd0 0)) 19) (qiteB (qcmp BinOp.eql (qint (qfld sd0 3)) 1) Bool.true (qcmp BinOp.eql (qint (qfld sd0 3)) 2)) Bool.false))then
 bif (qiteB (qiteB (qiteB (qiteB (qcmp BinOp.eql (qint (qfld sd0 1)) 0) (qcmp BinOp.eql (qint (qfld sd0 2)) 0) Bool.false) (qcmp BinOp.eql (qint (qfld sd0 3)) (qint (qfld sd0 3))) Bool.false) (qcmp BinOp.eql (qlen (qfld sd0 4)) 1) Bool.false) (qsome (q166_168 Q [(qfld sd0 4)])) Bool.true)then
 some [(D.bool (qiteB (qiteB (qiteB (qiteB (qcmp BinOp.eql (qint (qfld sd0 1)) 0) (qcmp BinOp.eql (qint (qfld sd0 2)) 0) Bool.false) (qcmp BinOp.eql (qint (qfld sd0 3)) (qint (qfld sd0 3))) Bool.false) (qcmp BinOp.eql (qlen (qfld sd0 4)) 1) Bool.false) (qnot (qbool (qnth (q166_168 Q [(qfld sd0 4)]) 0))) Bool.false))]
 else
 none
 else
 some [(D.bool Bool.false)]
 else
 none
 else
 none:=by kernel_rfl
noncomputable def F152:Nat→List D→Option (List D):=levels Fb152
theorem F152_s (n:Nat):F152 (n+1)=Fb152 (F152 n):=rfl
noncomputable def q152:List D→Option (List D):=veil fun ds=>F152 (fuelL ds) ds
theorem q152_eq:q152=fun ds=>F152 (fuelL ds) ds:=veil_eq _
theorem sound152:SoundF env.P 152 S152 q152:=recF (fun q=>tb166_168 q) (fun q hq=>ok_tb166_168 q hq) q152_eq
noncomputable def tb152:Tb:=Tb.addF tb151 152 S152 q152
theorem ok_tb152:TbOk env tb152:=TbOk.addF ok_tb151 (by kernel_rfl) sound152
end Go.Proofs.YtgklbalcneepoaaGreatDoor
open Go Go.AM
namespace Go.Proofs.YtgklbalcneepoaaGreatDoor
set_option maxRecDepth 100000
set_option linter.unusedSimpArgs false
set_option linter.unusedVariables false
def S44:FunS:=⟨[⟨true,(.dat 33)⟩,⟨true,(.int .i64)⟩],[],[⟨true, .bool⟩],[]⟩
noncomputable def tbR44 (Q:List D→Option (List D)):Tb:=Tb.addF tb152 44 S44 Q
theorem ok_tbR44 (Q:List D→Option (List D)) (hQ:SoundF env.P 44 S44 Q):TbOk env (tbR44 Q):=TbOk.addF ok_tb152 (by kernel_rfl) hQ
def S44_4:LoopS:=⟨0,[uF,⟨false,(.int .i64)⟩,⟨false,(.ptr 0 0)⟩,uF,⟨false,(.lit (.bool false))⟩,⟨true,(.int .i64)⟩,uF,uF,uF,uF,uF,uF,uF,uF,uF,uF,uF,uF,uF,uF,uF,uF,uF],[(.dat false 33)],[⟨0,0,[uT,⟨false,(.int .i64)⟩,uT,uT,⟨true,(.lit (.bool false))⟩,uT,uT,uT,uT,uT,uT,uT,uT,uT,uT,uT,uT,uT,uT,uT,uT,uT,uT],[(.dat false 33)]⟩,⟨1,0,[uT,⟨false,(.int .i64)⟩,uT,uT,⟨true,(.lit (.bool true))⟩,uT,uT,uT,uT,uT,uT,uT,uT,uT,uT,uT,uT,uT,uT,uT,uT,uT,uT],[(.dat false 33)]⟩]⟩
noncomputable def st44_4 (Q:List D→Option (List D)) (p s:List D):Option (Sum (List D) (List D)):=stepQX env (tbR44 Q) 60 12 44 (loopC 44 4) S44_4 p s
theorem st44_4_eq (Q:List D→Option (List D)) (pn0:Int) (pd1:D) (sn0:Int):st44_4 Q [(D.int pn0),pd1] [(D.int sn0)] =
 bif (qcmp BinOp.lss sn0 (qlen (qfld pd1 4)))then
 bif (qinb (qfld pd1 4) sn0)then
 bif (qsome (Q [(qget (qfld pd1 4) sn0),(D.int (qbin BinOp.sub IntKind.i64 pn0 1))]))then
 bif (qbool (qnth (Q [(qget (qfld pd1 4) sn0),(D.int (qbin BinOp.sub IntKind.i64 pn0 1))]) 0))then
 some (Sum.inr [(D.int 1)])
 else
 some (Sum.inl [(D.int (qbin BinOp.add IntKind.i64 sn0 1))])
 else
 none
 else
 none
 else
 some (Sum.inr [(D.int 0)]):=by
 have h:st44_4 Q [(D.int pn0),pd1] [(D.int sn0)] =
  bif (qcmp BinOp.lss sn0 (qlen (qfld pd1 4)))then
  bif (qinb (qfld pd1 4) sn0)then
  bif (qsome (Q [(qget (qfld pd1 4) sn0),(D.int (qbin BinOp.sub IntKind.i64 pn0 1))]))then
  bif (qbool (qnth (Q [(qget (qfld pd1 4) sn0),(D.int (qbin BinOp.sub IntKind.i64 pn0 1))]) 0))then
  bif (qeqD (D.int pn0) (D.int pn0))then
  bif (qeqD pd1 pd1)then
  some (Sum.inr [(D.int 1)])
  else
  none
  else
  none
  else
  bif (qeqD (D.int pn0) (D.int pn0))then
  bif (qeqD pd1 pd1)then
  some (Sum.inl [(D.int (qbin BinOp.add IntKind.i64 sn0 1))])
  else
  none
  else
  none
  else
  none
  else
  none
  else
  bif (qeqD (D.int pn0) (D.int pn0))then
  bif (qeqD pd1 pd1)then
  some (Sum.inr [(D.int 0)])
  else
  none
  else
  none:=by kernel_rfl
 rw[h];simp only[qeqD_self,qeqI_self,qeq_len,show qcmp BinOp.eql 0 (qlen (D.list []))=true from qeq_len [],show∀a,qcmp BinOp.eql 1 (qlen (D.list [a]))=true from fun a=>qeq_len [a],show∀a b,qcmp BinOp.eql 2 (qlen (D.list [a,b]))=true from fun a b=>qeq_len [a,b],show∀a b c,qcmp BinOp.eql 3 (qlen (D.list [a,b,c]))=true from fun a b c=>qeq_len [a,b,c],show∀a b c d,qcmp BinOp.eql 4 (qlen (D.list [a,b,c,d]))=true from fun a b c d=>qeq_len [a,b,c,d],cond_true]
noncomputable def l44_4 (Q:List D→Option (List D)):List D→List D→Option (List D):=veil fun p s=>loW (st44_4 Q p) s
theorem l44_4_eq (Q:List D→Option (List D)):l44_4 Q=fun p s=>loW (st44_4 Q p) s:=veil_eq _
noncomputable def tbl44_4 (Q:List D→Option (List D)):Tb:=Tb.addL (tbR44 Q) 44 4 S44_4.n0 (mkLp S44_4 (l44_4 Q))
theorem ok_tbl44_4 (Q:List D→Option (List D)) (hQ:SoundF env.P 44 S44 Q):TbOk env (tbl44_4 Q):=addLoopQ (ok_tbR44 Q hQ) 44 4 (by kernel_rfl) _ (l44_4_eq Q)
noncomputable def Fb44 (Q:List D→Option (List D)):List D→Option (List D):=liftX env (tbl44_4 Q) 60 12 44 S44
theorem Fb44_eq (Q:List D→Option (List D)) (sd0:D) (sn1:Int):Fb44 Q [sd0,(D.int sn1)] =
 bif (qcmp BinOp.lss sn1 1)then
 some [(D.bool Bool.true)]
 else
 bif (qsome (l44_4 Q [(D.int sn1),sd0] [(D.int 0)]))then
 bif (qcmp BinOp.eql (qint (qnth (l44_4 Q [(D.int sn1),sd0] [(D.int 0)]) 0)) 0)then
 some [(D.bool Bool.false)]
 else
 some [(D.bool Bool.true)]
 else
 none:=by kernel_rfl
noncomputable def F44:Nat→List D→Option (List D):=levels Fb44
theorem F44_s (n:Nat):F44 (n+1)=Fb44 (F44 n):=rfl
noncomputable def q44:List D→Option (List D):=veil fun ds=>F44 (fuelL ds) ds
theorem q44_eq:q44=fun ds=>F44 (fuelL ds) ds:=veil_eq _
theorem sound44:SoundF env.P 44 S44 q44:=recF (fun q=>tbl44_4 q) (fun q hq=>ok_tbl44_4 q hq) q44_eq
noncomputable def tb44:Tb:=Tb.addF tb152 44 S44 q44
theorem ok_tb44:TbOk env tb44:=TbOk.addF ok_tb152 (by kernel_rfl) sound44
def S45:FunS:=⟨[⟨true,(.dat 33)⟩],[],[⟨true, .bool⟩],[]⟩
noncomputable def tbR45 (Q:List D→Option (List D)):Tb:=Tb.addF tb44 45 S45 Q
theorem ok_tbR45 (Q:List D→Option (List D)) (hQ:SoundF env.P 45 S45 Q):TbOk env (tbR45 Q):=TbOk.addF ok_tb44 (by kernel_rfl) hQ
def S45_2:LoopS:=⟨0,[uF,⟨false,(.ptr 0 0)⟩,⟨false,(.lit (.bool false))⟩,⟨true,(.int .i64)⟩,uF,uF,uF,uF,uF,uF,uF,uF,uF,uF,uF,uF,uF,uF,uF,uF,uF,uF,uF,uF,uF,uF,uF,uF,uF,uF,uF,uF,uF,uF,uF,uF,uF,uF,uF,uF,uF,uF,uF,uF,uF,uF,uF,uF,uF,uF,uF,uF,uF,uF,uF,uF,uF,uF,uF,uF,uF,uF,uF,uF,uF,uF,uF,uF,uF,uF,uF,uF,uF,uF,uF,uF,uF,uF,uF,uF,uF,uF,uF,uF,uF,uF,uF,uF,uF,uF,uF,uF,uF,uF,uF,uF,uF,uF,uF,uF,uF,uF,uF,uF,uF,uF,uF,uF,uF,uF,uF,uF,uF,uF,uF,uF,uF,uF,uF,uF,uF,uF,uF,uF,uF,uF,uF,uF,uF,uF,uF,uF,uF,uF,uF,uF,uF,uF,uF,uF,uF,uF,uF,uF,uF,uF,uF,uF,uF,uF,uF,uF,uF,uF,uF,uF,uF,uF,uF,uF,uF,uF,uF,uF,uF],[(.dat false 33)],[⟨0,0,[uT,⟨true,(.ptr 0 0)⟩,⟨true,(.lit (.bool false))⟩,uT,uT,uT,uT,uT,uT,uT,uT,uT,uT,uT,uT,uT,uT,uT,uT,uT,uT,uT,uT,uT,uT,uT,uT,uT,uT,uT,uT,uT,uT,uT,uT,uT,uT,uT,uT,uT,uT,uT,uT,uT,uT,uT,uT,uT,uT,uT,uT,uT,uT,uT,uT,uT,uT,uT,uT,uT,uT,uT,uT,uT,uT,uT,uT,uT,uT,uT,uT,uT,uT,uT,uT,uT,uT,uT,uT,uT,uT,uT,uT,uT,uT,uT,uT,uT,uT,uT,uT,uT,uT,uT,uT,uT,uT,uT,uT,uT,uT,uT,uT,uT,uT,uT,uT,uT,uT,uT,uT,uT,uT,uT,uT,uT,uT,uT,uT,uT,uT,uT,uT,uT,uT,uT,uT,uT,uT,uT,uT,uT,uT,uT,uT,uT,uT,uT,uT,uT,uT,uT,uT,uT,uT,uT,uT,uT,uT,uT,uT,uT,uT,uT,uT,uT,uT,uT,uT,uT,uT,uT,uT,uT,uT],[(.dat false 33)]⟩,⟨1,0,[uT,uT,⟨true,(.lit (.bool false))⟩,uT,uT,uT,uT,uT,uT,uT,uT,uT,uT,uT,uT,uT,uT,uT,uT,uT,uT,uT,uT,uT,uT,uT,uT,uT,uT,uT,uT,uT,uT,uT,uT,uT,uT,uT,uT,uT,uT,uT,uT,uT,uT,uT,uT,uT,uT,uT,uT,uT,uT,uT,uT,uT,uT,uT,uT,uT,uT,uT,uT,uT,uT,uT,uT,uT,uT,uT,uT,uT,uT,uT,uT,uT,uT,uT,uT,uT,uT,uT,uT,uT,uT,uT,uT,uT,uT,uT,uT,uT,uT,uT,uT,uT,uT,uT,uT,uT,uT,uT,uT,uT,uT,uT,uT,uT,uT,uT,uT,uT,uT,uT,uT,uT,uT,uT,uT,uT,uT,uT,uT,uT,uT,uT,uT,uT,uT,uT,uT,uT,uT,uT,uT,uT,uT,uT,uT,uT,uT,uT,uT,uT,uT,uT,uT,uT,uT,uT,uT,uT,uT,uT,uT,uT,uT,uT,uT,uT,uT,uT,uT,uT,uT],[(.dat false 33)]⟩]⟩
noncomputable def st45_2 (Q:List D→Option (List D)) (p s:List D):Option (Sum (List D) (List D)):=stepQX env (tbR45 Q) 60 12 45 (loopC 45 2) S45_2 p s
theorem st45_2_eq (Q:List D→Option (List D)) (pd0:D) (sn0:Int):st45_2 Q [pd0] [(D.int sn0)] =
 bif (qcmp BinOp.lss sn0 (qlen (qfld pd0 4)))then
 bif (qinb (qfld pd0 4) sn0)then
 bif (qsome (Q [(qget (qfld pd0 4) sn0)]))then
 bif (qnot (qbool (qnth (Q [(qget (qfld pd0 4) sn0)]) 0)))then
 some (Sum.inr [(D.int 1)])
 else
 some (Sum.inl [(D.int (qbin BinOp.add IntKind.i64 sn0 1))])
 else
 none
 else
 none
 else
 some (Sum.inr [(D.int 0)]):=by
 have h:st45_2 Q [pd0] [(D.int sn0)] =
  bif (qcmp BinOp.lss sn0 (qlen (qfld pd0 4)))then
  bif (qinb (qfld pd0 4) sn0)then
  bif (qsome (Q [(qget (qfld pd0 4) sn0)]))then
  bif (qnot (qbool (qnth (Q [(qget (qfld pd0 4) sn0)]) 0)))then
  bif (qeqD pd0 pd0)then
  some (Sum.inr [(D.int 1)])
  else
  none
  else
  bif (qeqD pd0 pd0)then
  some (Sum.inl [(D.int (qbin BinOp.add IntKind.i64 sn0 1))])
  else
  none
  else
  none
  else
  none
  else
  bif (qeqD pd0 pd0)then
  some (Sum.inr [(D.int 0)])
  else
  none:=by kernel_rfl
 rw[h];simp only[qeqD_self,qeqI_self,qeq_len,show qcmp BinOp.eql 0 (qlen (D.list []))=true from qeq_len [],show∀a,qcmp BinOp.eql 1 (qlen (D.list [a]))=true from fun a=>qeq_len [a],show∀a b,qcmp BinOp.eql 2 (qlen (D.list [a,b]))=true from fun a b=>qeq_len [a,b],show∀a b c,qcmp BinOp.eql 3 (qlen (D.list [a,b,c]))=true from fun a b c=>qeq_len [a,b,c],show∀a b c d,qcmp BinOp.eql 4 (qlen (D.list [a,b,c,d]))=true from fun a b c d=>qeq_len [a,b,c,d],cond_true]
noncomputable def l45_2 (Q:List D→Option (List D)):List D→List D→Option (List D):=veil fun p s=>loW (st45_2 Q p) s
theorem l45_2_eq (Q:List D→Option (List D)):l45_2 Q=fun p s=>loW (st45_2 Q p) s:=veil_eq _
noncomputable def tbl45_2 (Q:List D→Option (List D)):Tb:=Tb.addL (tbR45 Q) 45 2 S45_2.n0 (mkLp S45_2 (l45_2 Q))
theorem ok_tbl45_2 (Q:List D→Option (List D)) (hQ:SoundF env.P 45 S45 Q):TbOk env (tbl45_2 Q):=addLoopQ (ok_tbR45 Q hQ) 45 2 (by kernel_rfl) _ (l45_2_eq Q)
noncomputable def Fb45 (Q:List D→Option (List D)):List D→Option (List D):=liftX env (tbl45_2 Q) 60 12 45 S45
theorem Fb45_eq (Q:List D→Option (List D)) (sd0:D):Fb45 Q [sd0] =
 bif (qsome (l45_2 Q [sd0] [(D.int 0)]))then
 bif (qcmp BinOp.eql (qint (qnth (l45_2 Q [sd0] [(D.int 0)]) 0)) 0)then
 bif (qcmp BinOp.eql (qint (qfld sd0 0)) 1)then
 some [(D.bool (qiteB (qiteB (qcmp BinOp.eql (qint (qfld sd0 2)) 0) (qcmp BinOp.eql (qint (qfld sd0 3)) 0) Bool.false) (qcmp BinOp.eql (qlen (qfld sd0 4)) 0) Bool.false))]
 else
 bif (qcmp BinOp.eql (qint (qfld sd0 0)) 2)then
 bif (qiteB (qiteB (qiteB (qcmp BinOp.eql (qint (qfld sd0 1)) 0) (qcmp BinOp.eql (qint (qfld sd0 3)) 0) Bool.false) (qcmp BinOp.eql (qlen (qfld sd0 4)) 0) Bool.false) (qsome (q85 [(D.int (qint (qfld sd0 2)))])) Bool.true)then
 some [(D.bool (qiteB (qiteB (qiteB (qcmp BinOp.eql (qint (qfld sd0 1)) 0) (qcmp BinOp.eql (qint (qfld sd0 3)) 0) Bool.false) (qcmp BinOp.eql (qlen (qfld sd0 4)) 0) Bool.false) (qbool (qnth (q85 [(D.int (qint (qfld sd0 2)))]) 0)) Bool.false))]
 else
 none
 else
 bif (qiteB (qcmp BinOp.eql (qint (qfld sd0 0)) 16) (qcmp BinOp.eql (qint (qfld sd0 0)) 16) (qcmp BinOp.eql (qint (qfld sd0 0)) 17))then
 some [(D.bool (qiteB (qiteB (qiteB (qcmp BinOp.eql (qint (qfld sd0 1)) 0) (qcmp BinOp.eql (qint (qfld sd0 2)) 0) Bool.false) (qcmp BinOp.eql (qint (qfld sd0 3)) 0) Bool.false) (qcmp BinOp.eql (qlen (qfld sd0 4)) 1) Bool.false))]
 else
 bif (qcmp BinOp.eql (qint (qfld sd0 0)) 18)then
 some [(D.bool (qiteB (qiteB (qiteB (qcmp BinOp.eql (qint (qfld sd0 1)) 0) (qcmp BinOp.eql (qint (qfld sd0 2)) 0) Bool.false) (qiteB (qiteB (qcmp BinOp.eql (qint (qfld sd0 3)) 1) Bool.true (qcmp BinOp.eql (qint (qfld sd0 3)) 2)) Bool.true (qcmp BinOp.eql (qint (qfld sd0 3)) 4)) Bool.false) (qcmp BinOp.eql (qlen (qfld sd0 4)) 1) Bool.false))]
 else
 bif (qcmp BinOp.eql (qint (qfld sd0 0)) 19)then
 some [(D.bool (qiteB (qiteB (qiteB (qcmp BinOp.eql (qint (qfld sd0 1)) 0) (qcmp BinOp.eql (qint (qfld sd0 2)) 0) Bool.false) (qiteB (qcmp BinOp.eql (qint (qfld sd0 3)) 1) Bool.true (qcmp BinOp.eql (qint (qfld sd0 3)) 2)) Bool.false) (qcmp BinOp.eql (qlen (qfld sd0 4)) 1) Bool.false))]
 else
 some [(D.bool (qiteB (qiteB (qiteB (qiteB (qiteB (qcmp BinOp.geq (qint (qfld sd0 0)) 3) (qcmp BinOp.leq (qint (qfld sd0 0)) 15) Bool.false) (qcmp BinOp.eql (qint (qfld sd0 1)) 0) Bool.false) (qcmp BinOp.eql (qint (qfld sd0 2)) 0) Bool.false) (qcmp BinOp.eql (qint (qfld sd0 3)) 0) Bool.false) (qcmp BinOp.eql (qlen (qfld sd0 4)) 2) Bool.false))]
 else
 some [(D.bool Bool.false)]
 else
 none:=by kernel_rfl
noncomputable def F45:Nat→List D→Option (List D):=levels Fb45
theorem F45_s (n:Nat):F45 (n+1)=Fb45 (F45 n):=rfl
noncomputable def q45:List D→Option (List D):=veil fun ds=>F45 (fuelL ds) ds
theorem q45_eq:q45=fun ds=>F45 (fuelL ds) ds:=veil_eq _
theorem sound45:SoundF env.P 45 S45 q45:=recF (fun q=>tbl45_2 q) (fun q hq=>ok_tbl45_2 q hq) q45_eq
noncomputable def tb45:Tb:=Tb.addF tb44 45 S45 q45
theorem ok_tb45:TbOk env tb45:=TbOk.addF ok_tb44 (by kernel_rfl) sound45
def S107:FunS:=⟨[⟨true,(.dat 33)⟩],[],[⟨true,(.int .i64)⟩],[]⟩
noncomputable def F107:List D→Option (List D):=liftX env tb45 60 12 107 S107
theorem F107_eq (sd0:D):F107 [sd0] =
 bif (qsome (q151 [sd0,(D.int 64)]))then
 bif (qnot (qbool (qnth (q151 [sd0,(D.int 64)]) 0)))then
 some [(D.int 20)]
 else
 bif (qsome (q152 [sd0]))then
 bif (qnot (qbool (qnth (q152 [sd0]) 0)))then
 some [(D.int 2)]
 else
 some [(D.int 0)]
 else
 none
 else
 none:=by kernel_rfl
noncomputable def q107:List D→Option (List D):=veil (F107)
theorem q107_eq:q107=F107:=veil_eq _
noncomputable def tb107:Tb:=Tb.addF tb45 107 S107 (q107)
theorem ok_tb107:TbOk env (tb107):=addFunF ok_tb45 107 (by kernel_rfl) _ (q107_eq)
def S12:FunS:=⟨[⟨true,(.dat 33)⟩],[],[⟨true,(.int .i64)⟩],[]⟩
noncomputable def F12:List D→Option (List D):=liftX env tb107 60 12 12 S12
theorem F12_eq (sd0:D):F12 [sd0] =
 bif (qsome (q44 [sd0,(D.int 64)]))then
 bif (qbool (qnth (q44 [sd0,(D.int 64)]) 0))then
 some [(D.int 20)]
 else
 bif (qsome (q45 [sd0]))then
 bif (qnot (qbool (qnth (q45 [sd0]) 0)))then
 some [(D.int 2)]
 else
 some [(D.int 0)]
 else
 none
 else
 none:=by kernel_rfl
noncomputable def q12:List D→Option (List D):=veil (F12)
theorem q12_eq:q12=F12:=veil_eq _
noncomputable def tb12:Tb:=Tb.addF tb107 12 S12 (q12)
theorem ok_tb12:TbOk env (tb12):=addFunF ok_tb107 12 (by kernel_rfl) _ (q12_eq)
def S65_5:LoopS:=⟨0,[uF,⟨false,(.ptr 0 0)⟩,⟨false,(.lit (.int .i64 0))⟩,uF,uF,uF,uF,uF,uF,uF,uF,uF,uF,uF,uF,uF,uF,uF,uF,uF,⟨false,(.rows 33)⟩,⟨false,(.int .i64)⟩,⟨true,(.int .i64)⟩,uF,uF,uF,uF,uF,uF,uF,uF,uF,uF,uF,uF],[(.dat false 91)],[⟨0,0,[uT,⟨true,(.ptr 0 0)⟩,⟨true,(.lit (.int .i64 0))⟩,uT,uT,uT,uT,uT,uT,uT,uT,uT,uT,uT,uT,uT,uT,uT,uT,uT,⟨false,(.rows 33)⟩,⟨false,(.int .i64)⟩,uT,uT,uT,uT,uT,uT,uT,uT,uT,uT,uT,uT,uT],[(.dat false 91)]⟩,⟨1,0,[uT,uT,⟨true,(.int .i64)⟩,uT,uT,uT,uT,uT,uT,uT,uT,uT,uT,uT,uT,uT,uT,uT,uT,uT,⟨false,(.rows 33)⟩,⟨false,(.int .i64)⟩,uT,uT,uT,uT,uT,uT,uT,uT,uT,uT,uT,uT,uT],[(.dat false 91)]⟩]⟩
noncomputable def st65_5 (p s:List D):Option (Sum (List D) (List D)):=stepQX env tb12 60 12 65 (loopC 65 5) S65_5 p s
theorem st65_5_eq (pd0:D) (pn1:Int) (pd2:D) (sn0:Int):st65_5 [pd0,(D.int pn1),pd2] [(D.int sn0)] =
 bif (qcmp BinOp.lss sn0 pn1)then
 bif (qinb pd0 sn0)then
 bif (qsome (q107 [(qget pd0 sn0)]))then
 bif (qcmp BinOp.neq (qint (qnth (q107 [(qget pd0 sn0)]) 0)) 0)then
 some (Sum.inr [(D.int 1),(D.int (qint (qnth (q107 [(qget pd0 sn0)]) 0)))])
 else
 some (Sum.inl [(D.int (qbin BinOp.add IntKind.i64 sn0 1))])
 else
 none
 else
 none
 else
 some (Sum.inr [(D.int 0)]):=by
 have h:st65_5 [pd0,(D.int pn1),pd2] [(D.int sn0)] =
  bif (qcmp BinOp.lss sn0 pn1)then
  bif (qinb pd0 sn0)then
  bif (qsome (q107 [(qget pd0 sn0)]))then
  bif (qcmp BinOp.neq (qint (qnth (q107 [(qget pd0 sn0)]) 0)) 0)then
  bif (qeqD pd0 pd0)then
  bif (qeqD (D.int pn1) (D.int pn1))then
  bif (qeqD pd2 pd2)then
  some (Sum.inr [(D.int 1),(D.int (qint (qnth (q107 [(qget pd0 sn0)]) 0)))])
  else
  none
  else
  none
  else
  none
  else
  bif (qeqD pd0 pd0)then
  bif (qeqD (D.int pn1) (D.int pn1))then
  bif (qeqD pd2 pd2)then
  some (Sum.inl [(D.int (qbin BinOp.add IntKind.i64 sn0 1))])
  else
  none
  else
  none
  else
  none
  else
  none
  else
  none
  else
  bif (qeqD pd0 pd0)then
  bif (qeqD (D.int pn1) (D.int pn1))then
  bif (qeqD pd2 pd2)then
  some (Sum.inr [(D.int 0)])
  else
  none
  else
  none
  else
  none:=by kernel_rfl
 rw[h];simp only[qeqD_self,qeqI_self,qeq_len,show qcmp BinOp.eql 0 (qlen (D.list []))=true from qeq_len [],show∀a,qcmp BinOp.eql 1 (qlen (D.list [a]))=true from fun a=>qeq_len [a],show∀a b,qcmp BinOp.eql 2 (qlen (D.list [a,b]))=true from fun a b=>qeq_len [a,b],show∀a b c,qcmp BinOp.eql 3 (qlen (D.list [a,b,c]))=true from fun a b c=>qeq_len [a,b,c],show∀a b c d,qcmp BinOp.eql 4 (qlen (D.list [a,b,c,d]))=true from fun a b c d=>qeq_len [a,b,c,d],cond_true]
noncomputable def l65_5:List D→List D→Option (List D):=veil fun p s=>loW (st65_5 p) s
theorem l65_5_eq:l65_5=fun p s=>loW (st65_5 p) s:=veil_eq _
noncomputable def tbl65_5:Tb:=Tb.addL tb12 65 5 S65_5.n0 (mkLp S65_5 (l65_5))
theorem ok_tbl65_5:TbOk env (tbl65_5):=addLoopQ ok_tb12 65 5 (by kernel_rfl) _ (l65_5_eq)
def S65:FunS:=⟨[⟨true,(.dat 91)⟩],[],[⟨true,(.int .i64)⟩],[]⟩
noncomputable def F65:List D→Option (List D):=liftX env tbl65_5 60 12 65 S65
theorem F65_eq (sd0:D):F65 [sd0] =
 bif (qsome (q106 [(D.int (qint (qfld sd0 0)))]))then
 bif (qiteB (qcmp BinOp.lss (qint (qnth (q106 [(D.int (qint (qfld sd0 0)))]) 0)) 0) Bool.true (qcmp BinOp.neq (qint (qnth (q106 [(D.int (qint (qfld sd0 0)))]) 0)) (qlen (qfld sd0 6))))then
 some [(D.int 2)]
 else
 bif (qsome (l65_5 [(qfld sd0 6),(D.int (qlen (qfld sd0 6))),sd0] [(D.int 0)]))then
 bif (qcmp BinOp.eql (qint (qnth (l65_5 [(qfld sd0 6),(D.int (qlen (qfld sd0 6))),sd0] [(D.int 0)]) 0)) 0)then
 bif (qsome (q108 [sd0]))then
 bif (qnot (qbool (qnth (q108 [sd0]) 0)))then
 some [(D.int 2)]
 else
 some [(D.int 0)]
 else
 none
 else
 some [(D.int (qint (qnth (l65_5 [(qfld sd0 6),(D.int (qlen (qfld sd0 6))),sd0] [(D.int 0)]) 1)))]
 else
 none
 else
 none:=by kernel_rfl
noncomputable def q65:List D→Option (List D):=veil (F65)
theorem q65_eq:q65=F65:=veil_eq _
noncomputable def tb65:Tb:=Tb.addF tbl65_5 65 S65 (q65)
theorem ok_tb65:TbOk env (tb65):=addFunF ok_tbl65_5 65 (by kernel_rfl) _ (q65_eq)
def S100_4:LoopS:=⟨0,[uF,⟨false,(.ptr 0 0)⟩,⟨false,(.lit (.int .i64 0))⟩,⟨true,(.int .i64)⟩,uF,uF,uF,uF,uF,uF,uF,uF,uF,uF,uF,uF,uF,uF,uF,uF,uF,uF,uF,uF,uF,uF,uF,uF,uF,uF,uF,uF,uF,uF,uF,uF,uF,uF,uF,uF,uF,uF,uF,uF,uF,uF,uF,uF,uF,uF,uF,uF,uF,uF,uF,uF,uF,uF,uF,uF,uF,uF,uF,uF,uF,uF,uF,uF,uF,uF,uF,uF,uF,uF,uF,uF,uF,uF,uF,uF,uF,uF],[(.dat false 91)],[⟨0,0,[uT,⟨true,(.ptr 0 0)⟩,⟨true,(.lit (.int .i64 0))⟩,uT,uT,uT,uT,uT,uT,uT,uT,uT,uT,uT,uT,uT,uT,uT,uT,uT,uT,uT,uT,uT,uT,uT,uT,uT,uT,uT,uT,uT,uT,uT,uT,uT,uT,uT,uT,uT,uT,uT,uT,uT,uT,uT,uT,uT,uT,uT,uT,uT,uT,uT,uT,uT,uT,uT,uT,uT,uT,uT,uT,uT,uT,uT,uT,uT,uT,uT,uT,uT,uT,uT,uT,uT,uT,uT,uT,uT,uT,uT],[(.dat false 91)]⟩,⟨1,0,[uT,uT,⟨true,(.int .i64)⟩,uT,uT,uT,uT,uT,uT,uT,uT,uT,uT,uT,uT,uT,uT,uT,uT,uT,uT,uT,uT,uT,uT,uT,uT,uT,uT,uT,uT,uT,uT,uT,uT,uT,uT,uT,uT,uT,uT,uT,uT,uT,uT,uT,uT,uT,uT,uT,uT,uT,uT,uT,uT,uT,uT,uT,uT,uT,uT,uT,uT,uT,uT,uT,uT,uT,uT,uT,uT,uT,uT,uT,uT,uT,uT,uT,uT,uT,uT,uT],[(.dat false 91)]⟩]⟩
noncomputable def st100_4 (p s:List D):Option (Sum (List D) (List D)):=stepQX env tb65 60 12 100 (loopC 100 4) S100_4 p s
theorem st100_4_eq (pd0:D) (sn0:Int):st100_4 [pd0] [(D.int sn0)] =
 bif (qcmp BinOp.lss sn0 (qlen (qfld pd0 6)))then
 bif (qinb (qfld pd0 6) sn0)then
 bif (qsome (q12 [(qget (qfld pd0 6) sn0)]))then
 bif (qcmp BinOp.neq (qint (qnth (q12 [(qget (qfld pd0 6) sn0)]) 0)) 0)then
 some (Sum.inr [(D.int 1),(D.int (qint (qnth (q12 [(qget (qfld pd0 6) sn0)]) 0)))])
 else
 some (Sum.inl [(D.int (qbin BinOp.add IntKind.i64 sn0 1))])
 else
 none
 else
 none
 else
 some (Sum.inr [(D.int 0)]):=by
 have h:st100_4 [pd0] [(D.int sn0)] =
  bif (qcmp BinOp.lss sn0 (qlen (qfld pd0 6)))then
  bif (qinb (qfld pd0 6) sn0)then
  bif (qsome (q12 [(qget (qfld pd0 6) sn0)]))then
  bif (qcmp BinOp.neq (qint (qnth (q12 [(qget (qfld pd0 6) sn0)]) 0)) 0)then
  bif (qeqD pd0 pd0)then
  some (Sum.inr [(D.int 1),(D.int (qint (qnth (q12 [(qget (qfld pd0 6) sn0)]) 0)))])
  else
  none
  else
  bif (qeqD pd0 pd0)then
  some (Sum.inl [(D.int (qbin BinOp.add IntKind.i64 sn0 1))])
  else
  none
  else
  none
  else
  none
  else
  bif (qeqD pd0 pd0)then
  some (Sum.inr [(D.int 0)])
  else
  none:=by kernel_rfl
 rw[h];simp only[qeqD_self,qeqI_self,qeq_len,show qcmp BinOp.eql 0 (qlen (D.list []))=true from qeq_len [],show∀a,qcmp BinOp.eql 1 (qlen (D.list [a]))=true from fun a=>qeq_len [a],show∀a b,qcmp BinOp.eql 2 (qlen (D.list [a,b]))=true from fun a b=>qeq_len [a,b],show∀a b c,qcmp BinOp.eql 3 (qlen (D.list [a,b,c]))=true from fun a b c=>qeq_len [a,b,c],show∀a b c d,qcmp BinOp.eql 4 (qlen (D.list [a,b,c,d]))=true from fun a b c d=>qeq_len [a,b,c,d],cond_true]
noncomputable def l100_4:List D→List D→Option (List D):=veil fun p s=>loW (st100_4 p) s
theorem l100_4_eq:l100_4=fun p s=>loW (st100_4 p) s:=veil_eq _
noncomputable def tbl100_4:Tb:=Tb.addL tb65 100 4 S100_4.n0 (mkLp S100_4 (l100_4))
theorem ok_tbl100_4:TbOk env (tbl100_4):=addLoopQ ok_tb65 100 4 (by kernel_rfl) _ (l100_4_eq)
def S100:FunS:=⟨[⟨true,(.dat 91)⟩],[],[⟨true,(.int .i64)⟩],[]⟩
noncomputable def F100:List D→Option (List D):=liftX env tbl100_4 60 12 100 S100
theorem F100_eq (sd0:D):F100 [sd0] =
 bif (qcmp BinOp.lss (qint (qfld sd0 0)) 1)then
 some [(D.int 2)]
 else
 bif (qcmp BinOp.gtr (qint (qfld sd0 0)) 10)then
 some [(D.int 2)]
 else
 bif (qsome (q146 [(D.int (qint (qfld sd0 0)))]))then
 bif (qcmp BinOp.neq (qlen (qfld sd0 6)) (qint (qnth (q146 [(D.int (qint (qfld sd0 0)))]) 0)))then
 some [(D.int 2)]
 else
 bif (qsome (l100_4 [sd0] [(D.int 0)]))then
 bif (qcmp BinOp.eql (qint (qnth (l100_4 [sd0] [(D.int 0)]) 0)) 0)then
 bif (qsome (q147 [sd0]))then
 bif (qiteB (qnot (qbool (qnth (q147 [sd0]) 0))) Bool.true (qsome (q85 [(D.int (qint (qfld sd0 1)))])))then
 bif (qiteB (qiteB (qnot (qbool (qnth (q147 [sd0]) 0))) Bool.true (qnot (qbool (qnth (q85 [(D.int (qint (qfld sd0 1)))]) 0)))) Bool.true (qiteB (qiteB (qiteB (qcmp BinOp.eql (qint (qfld sd0 0)) 2) (qcmp BinOp.neq (qint (qfld sd0 2)) 1) Bool.false) (qcmp BinOp.neq (qint (qfld sd0 2)) 2) Bool.false) (qcmp BinOp.neq (qint (qfld sd0 2)) 4) Bool.false))then
 some [(D.int 2)]
 else
 bif (qiteB (qcmp BinOp.eql (qint (qfld sd0 0)) 8) (qiteB (qcmp BinOp.lss (qlen (qfld sd0 7)) 1) Bool.true (qcmp BinOp.gtr (qlen (qfld sd0 7)) 64)) Bool.false)then
 some [(D.int 2)]
 else
 some [(D.int 0)]
 else
 none
 else
 none
 else
 some [(D.int (qint (qnth (l100_4 [sd0] [(D.int 0)]) 1)))]
 else
 none
 else
 none:=by kernel_rfl
noncomputable def q100:List D→Option (List D):=veil (F100)
theorem q100_eq:q100=F100:=veil_eq _
noncomputable def tb100:Tb:=Tb.addF tbl100_4 100 S100 (q100)
theorem ok_tb100:TbOk env (tb100):=addFunF ok_tbl100_4 100 (by kernel_rfl) _ (q100_eq)
end Go.Proofs.YtgklbalcneepoaaGreatDoor
open Go Go.AM
namespace Go.Proofs.YtgklbalcneepoaaGreatDoor
set_option maxRecDepth 100000
set_option linter.unusedSimpArgs false
set_option linter.unusedVariables false
def S148_101_2:LoopS:=⟨0,[⟨false,(.rows 91)⟩,⟨false,(.func 101 [] [])⟩,uF,uF,⟨false,(.lit (.int .i64 0))⟩,uF,uF,⟨false,(.int .i64)⟩,⟨true,(.int .i64)⟩,uF,uF,uF,uF,uF,uF,uF,uF,uF,uF],[],[⟨0,0,[⟨false,(.rows 91)⟩,uT,uT,uT,⟨true,(.lit (.int .i64 0))⟩,uT,uT,⟨false,(.int .i64)⟩,uT,uT,uT,uT,uT,uT,uT,uT,uT,uT,uT],[]⟩,⟨1,0,[⟨false,(.rows 91)⟩,uT,uT,uT,⟨true,(.int .i64)⟩,uT,uT,⟨false,(.int .i64)⟩,uT,uT,uT,uT,uT,uT,uT,uT,uT,uT,uT],[]⟩]⟩
noncomputable def st148_101_2 (p s:List D):Option (Sum (List D) (List D)):=stepQX env tb100 60 12 148 (loopC 148 2) S148_101_2 p s
theorem st148_101_2_eq (pd0:D) (pn1:Int) (sn0:Int):st148_101_2 [pd0,(D.int pn1)] [(D.int sn0)] =
 bif (qcmp BinOp.lss sn0 pn1)then
 bif (qinb pd0 sn0)then
 bif (qsome (q101 [(qget pd0 sn0)]))then
 bif (qbool (qnth (q101 [(qget pd0 sn0)]) 0))then
 some (Sum.inr [(D.int 1),(D.int sn0)])
 else
 some (Sum.inl [(D.int (qbin BinOp.add IntKind.i64 sn0 1))])
 else
 none
 else
 none
 else
 some (Sum.inr [(D.int 0)]):=by
 have h:st148_101_2 [pd0,(D.int pn1)] [(D.int sn0)] =
  bif (qcmp BinOp.lss sn0 pn1)then
  bif (qinb pd0 sn0)then
  bif (qsome (q101 [(qget pd0 sn0)]))then
  bif (qbool (qnth (q101 [(qget pd0 sn0)]) 0))then
  bif (qeqD pd0 pd0)then
  bif (qeqD (D.int pn1) (D.int pn1))then
  some (Sum.inr [(D.int 1),(D.int sn0)])
  else
  none
  else
  none
  else
  bif (qeqD pd0 pd0)then
  bif (qeqD (D.int pn1) (D.int pn1))then
  some (Sum.inl [(D.int (qbin BinOp.add IntKind.i64 sn0 1))])
  else
  none
  else
  none
  else
  none
  else
  none
  else
  bif (qeqD pd0 pd0)then
  bif (qeqD (D.int pn1) (D.int pn1))then
  some (Sum.inr [(D.int 0)])
  else
  none
  else
  none:=by kernel_rfl
 rw[h];simp only[qeqD_self,qeqI_self,qeq_len,show qcmp BinOp.eql 0 (qlen (D.list []))=true from qeq_len [],show∀a,qcmp BinOp.eql 1 (qlen (D.list [a]))=true from fun a=>qeq_len [a],show∀a b,qcmp BinOp.eql 2 (qlen (D.list [a,b]))=true from fun a b=>qeq_len [a,b],show∀a b c,qcmp BinOp.eql 3 (qlen (D.list [a,b,c]))=true from fun a b c=>qeq_len [a,b,c],show∀a b c d,qcmp BinOp.eql 4 (qlen (D.list [a,b,c,d]))=true from fun a b c d=>qeq_len [a,b,c,d],cond_true]
noncomputable def l148_101_2:List D→List D→Option (List D):=veil fun p s=>loW (st148_101_2 p) s
theorem l148_101_2_eq:l148_101_2=fun p s=>loW (st148_101_2 p) s:=veil_eq _
noncomputable def tbl148_101_2:Tb:=Tb.addL tb100 148 2 S148_101_2.n0 (mkLp S148_101_2 (l148_101_2))
theorem ok_tbl148_101_2:TbOk env (tbl148_101_2):=addLoopQ ok_tb100 148 2 (by kernel_rfl) _ (l148_101_2_eq)
def S148_101:FunS:=⟨[⟨true,(.rows 91)⟩,⟨true,(.func 101 [] [])⟩],[],[⟨true,(.int .i64)⟩],[]⟩
noncomputable def F148_101:List D→Option (List D):=liftX env tbl148_101_2 60 12 148 S148_101
theorem F148_101_eq (sd0:D):F148_101 [sd0] =
 bif (qsome (l148_101_2 [sd0,(D.int (qlen sd0))] [(D.int 0)]))then
 bif (qcmp BinOp.eql (qint (qnth (l148_101_2 [sd0,(D.int (qlen sd0))] [(D.int 0)]) 0)) 0)then
 some [(D.int (-1))]
 else
 some [(D.int (qint (qnth (l148_101_2 [sd0,(D.int (qlen sd0))] [(D.int 0)]) 1)))]
 else
 none:=by kernel_rfl
noncomputable def q148_101:List D→Option (List D):=veil (F148_101)
theorem q148_101_eq:q148_101=F148_101:=veil_eq _
noncomputable def tb148_101:Tb:=Tb.addF tbl148_101_2 148 S148_101 (q148_101)
theorem ok_tb148_101:TbOk env (tb148_101):=addFunF ok_tbl148_101_2 148 (by kernel_rfl) _ (q148_101_eq)
def S102_101:FunS:=⟨[⟨true,(.rows 91)⟩,⟨true,(.func 101 [] [])⟩],[],[⟨true, .bool⟩],[]⟩
noncomputable def F102_101:List D→Option (List D):=liftX env tb148_101 60 12 102 S102_101
theorem F102_101_eq (sd0:D):F102_101 [sd0] =
 bif (qsome (q148_101 [sd0]))then
 some [(D.bool (qcmp BinOp.geq (qint (qnth (q148_101 [sd0]) 0)) 0))]
 else
 none:=by kernel_rfl
noncomputable def q102_101:List D→Option (List D):=veil (F102_101)
theorem q102_101_eq:q102_101=F102_101:=veil_eq _
noncomputable def tb102_101:Tb:=Tb.addF tb148_101 102 S102_101 (q102_101)
theorem ok_tb102_101:TbOk env (tb102_101):=addFunF ok_tb148_101 102 (by kernel_rfl) _ (q102_101_eq)
def S105:FunS:=⟨[⟨true,(.int .i64)⟩,⟨true,(.edat 75)⟩],[],[⟨true, .bool⟩],[]⟩
noncomputable def F105:List D→Option (List D):=liftX env tb102_101 60 12 105 S105
theorem F105_eq (sn0:Int) (sd1:D):F105 [(D.int sn0),sd1] =
 some [(D.bool (qiteB (qcmp BinOp.lss sn0 0) Bool.true (qcmp BinOp.geq sn0 (qlen (qfld sd1 1)))))]:=by kernel_rfl
noncomputable def q105:List D→Option (List D):=veil (F105)
theorem q105_eq:q105=F105:=veil_eq _
noncomputable def tb105:Tb:=Tb.addF tb102_101 105 S105 (q105)
theorem ok_tb105:TbOk env (tb105):=addFunF ok_tb102_101 105 (by kernel_rfl) _ (q105_eq)
def S149_105_2:LoopS:=⟨0,[⟨false,(.rows 3)⟩,⟨false,(.func 105 [] [(.edat 75)])⟩,uF,uF,⟨false,(.lit (.int .i64 0))⟩,uF,uF,⟨false,(.int .i64)⟩,⟨true,(.int .i64)⟩,uF,uF,uF,uF,uF,uF,uF,uF,uF,uF],[],[⟨0,0,[⟨false,(.rows 3)⟩,⟨false,(.func 105 [] [(.edat 75)])⟩,uT,uT,⟨true,(.lit (.int .i64 0))⟩,uT,uT,⟨false,(.int .i64)⟩,uT,uT,uT,uT,uT,uT,uT,uT,uT,uT,uT],[]⟩,⟨1,0,[⟨false,(.rows 3)⟩,⟨false,(.func 105 [] [(.edat 75)])⟩,uT,uT,⟨true,(.int .i64)⟩,uT,uT,⟨false,(.int .i64)⟩,uT,uT,uT,uT,uT,uT,uT,uT,uT,uT,uT],[]⟩]⟩
noncomputable def st149_105_2 (p s:List D):Option (Sum (List D) (List D)):=stepQX env tb105 60 12 149 (loopC 149 2) S149_105_2 p s
theorem st149_105_2_eq (pd0:D) (pd1:D) (pn2:Int) (sn0:Int):st149_105_2 [pd0,pd1,(D.int pn2)] [(D.int sn0)] =
 bif (qcmp BinOp.lss sn0 pn2)then
 bif (qinb pd0 sn0)then
 bif (qsome (q105 [(D.int (qint (qget pd0 sn0))),pd1]))then
 bif (qbool (qnth (q105 [(D.int (qint (qget pd0 sn0))),pd1]) 0))then
 some (Sum.inr [(D.int 1),(D.int sn0)])
 else
 some (Sum.inl [(D.int (qbin BinOp.add IntKind.i64 sn0 1))])
 else
 none
 else
 none
 else
 some (Sum.inr [(D.int 0)]):=by
 have h:st149_105_2 [pd0,pd1,(D.int pn2)] [(D.int sn0)] =
  bif (qcmp BinOp.lss sn0 pn2)then
  bif (qinb pd0 sn0)then
  bif (qsome (q105 [(D.int (qint (qget pd0 sn0))),pd1]))then
  bif (qbool (qnth (q105 [(D.int (qint (qget pd0 sn0))),pd1]) 0))then
  bif (qeqD pd0 pd0)then
  bif (qeqD pd1 pd1)then
  bif (qeqD (D.int pn2) (D.int pn2))then
  some (Sum.inr [(D.int 1),(D.int sn0)])
  else
  none
  else
  none
  else
  none
  else
  bif (qeqD pd0 pd0)then
  bif (qeqD pd1 pd1)then
  bif (qeqD (D.int pn2) (D.int pn2))then
  some (Sum.inl [(D.int (qbin BinOp.add IntKind.i64 sn0 1))])
  else
  none
  else
  none
  else
  none
  else
  none
  else
  none
  else
  bif (qeqD pd0 pd0)then
  bif (qeqD pd1 pd1)then
  bif (qeqD (D.int pn2) (D.int pn2))then
  some (Sum.inr [(D.int 0)])
  else
  none
  else
  none
  else
  none:=by kernel_rfl
 rw[h];simp only[qeqD_self,qeqI_self,qeq_len,show qcmp BinOp.eql 0 (qlen (D.list []))=true from qeq_len [],show∀a,qcmp BinOp.eql 1 (qlen (D.list [a]))=true from fun a=>qeq_len [a],show∀a b,qcmp BinOp.eql 2 (qlen (D.list [a,b]))=true from fun a b=>qeq_len [a,b],show∀a b c,qcmp BinOp.eql 3 (qlen (D.list [a,b,c]))=true from fun a b c=>qeq_len [a,b,c],show∀a b c d,qcmp BinOp.eql 4 (qlen (D.list [a,b,c,d]))=true from fun a b c d=>qeq_len [a,b,c,d],cond_true]
noncomputable def l149_105_2:List D→List D→Option (List D):=veil fun p s=>loW (st149_105_2 p) s
theorem l149_105_2_eq:l149_105_2=fun p s=>loW (st149_105_2 p) s:=veil_eq _
noncomputable def tbl149_105_2:Tb:=Tb.addL tb105 149 2 S149_105_2.n0 (mkLp S149_105_2 (l149_105_2))
theorem ok_tbl149_105_2:TbOk env (tbl149_105_2):=addLoopQ ok_tb105 149 2 (by kernel_rfl) _ (l149_105_2_eq)
def S149_105:FunS:=⟨[⟨true,(.rows 3)⟩,⟨true,(.func 105 [] [(.edat 75)])⟩],[],[⟨true,(.int .i64)⟩],[]⟩
noncomputable def F149_105:List D→Option (List D):=liftX env tbl149_105_2 60 12 149 S149_105
theorem F149_105_eq (sd0:D) (sd1:D):F149_105 [sd0,sd1] =
 bif (qsome (l149_105_2 [sd0,sd1,(D.int (qlen sd0))] [(D.int 0)]))then
 bif (qcmp BinOp.eql (qint (qnth (l149_105_2 [sd0,sd1,(D.int (qlen sd0))] [(D.int 0)]) 0)) 0)then
 some [(D.int (-1))]
 else
 some [(D.int (qint (qnth (l149_105_2 [sd0,sd1,(D.int (qlen sd0))] [(D.int 0)]) 1)))]
 else
 none:=by kernel_rfl
noncomputable def q149_105:List D→Option (List D):=veil (F149_105)
theorem q149_105_eq:q149_105=F149_105:=veil_eq _
noncomputable def tb149_105:Tb:=Tb.addF tbl149_105_2 149 S149_105 (q149_105)
theorem ok_tb149_105:TbOk env (tb149_105):=addFunF ok_tbl149_105_2 149 (by kernel_rfl) _ (q149_105_eq)
def S103_105:FunS:=⟨[⟨true,(.rows 3)⟩,⟨true,(.func 105 [] [(.edat 75)])⟩],[],[⟨true, .bool⟩],[]⟩
noncomputable def F103_105:List D→Option (List D):=liftX env tb149_105 60 12 103 S103_105
theorem F103_105_eq (sd0:D) (sd1:D):F103_105 [sd0,sd1] =
 bif (qsome (q149_105 [sd0,sd1]))then
 some [(D.bool (qcmp BinOp.geq (qint (qnth (q149_105 [sd0,sd1]) 0)) 0))]
 else
 none:=by kernel_rfl
noncomputable def q103_105:List D→Option (List D):=veil (F103_105)
theorem q103_105_eq:q103_105=F103_105:=veil_eq _
noncomputable def tb103_105:Tb:=Tb.addF tb149_105 103 S103_105 (q103_105)
theorem ok_tb103_105:TbOk env (tb103_105):=addFunF ok_tb149_105 103 (by kernel_rfl) _ (q103_105_eq)
end Go.Proofs.YtgklbalcneepoaaGreatDoor
namespace Go.Proofs.YtgklbalcneepoaaGreatDoor
open Go Go.AM
def S150:FunS:=⟨[⟨true,(.rows 3)⟩],[],[⟨true,(.rows 3)⟩],[]⟩
theorem run150n (c:Nat):bodyK (envF env tb103_105 150) (runTb env tb103_105 60 12) 60 150 [.sc (.slice none 0 c)] (heapF S150 [] []) (retF S150 [])=some [.list []]:=by kernel_rfl
theorem run150z (d:D):bodyK (envF env tb103_105 150) (runTb env tb103_105 60 12) 60 150 [.rowz 3 d] (heapF S150 [] []) (retF S150 []) =
 bif qmem (qlen (qapp (D.list []) d)) 8 then(bif (qcmp BinOp.eql (qlen (qapp (D.list []) d)) (qlen (qapp (D.list []) d)))then some [qapp (D.list []) d]else none)else none:=by kernel_rfl
noncomputable def F150 (ds:List D):Option (List D):=bif qmem (qlen (qapp (D.list []) (ds.headD .other))) 8 then some [qapp (D.list []) (ds.headD .other)]else none
noncomputable def q150:List D→Option (List D):=veil F150
theorem q150_eq:q150=F150:=veil_eq _
theorem sound150:SoundF env.P 150 S150 q150:=by
 intro p s r hp hq lo w0 ρ E w vs inv ra
 obtain rfl:p = []:=List.length_eq_zero_iff.1 hp
 have ha:argF S150 [] s = [.rows 3 (s.headD .other)]:=by
  cases s<;>rfl
 have hh:heapF S150 [] s=heapF S150 [] []:=rfl
 rw[q150_eq]at hq
 unfold F150 at hq
 simp only[List.nil_append]at hq
 rw[ha]at ra
 generalize hd:s.headD .other=d at *
 cases hm:qmem (qlen (qapp (D.list []) d)) 8 with
 |false=>rw[hm]at hq;cases hq
 |true=>
  rw[hm]at hq
  simp only[cond_true,Option.some.injEq]at hq
  subst hq
  rw[hh]at inv
  generalize hvs:vs.toList=vl at ra
  obtain⟨v,vl',rfl,rv,hn⟩:∃v vs',vl=v::vs'∧Rep ρ E w (AV.rows 3 d) v∧vs' = []:=by simpa only[RepL]using ra
  ·subst hn
   simp only[Rep]at rv
   obtain⟨a,cap,rfl,hc,hx⟩:=id rv
   cases a with
   |none=>
    have he:d.toList = []:=by
     rcases hx with h|⟨_,_,h,_⟩
     ·exact h
     ·cases h
    have he':qapp (D.list []) d = .list []:=by rw[qapp_eq];unfold D.app;rw[he];rfl
    rw[he']
    refine lift_ok (av:=[.sc (.slice none 0 cap)]) envOk ok_tb103_105 60 12 (run150n cap) rfl lo w0 ρ E w vs inv ?_
    rw[hvs,he]
    simp[RepL,Rep]
   |some a=>
    refine lift_ok (av:=[.rowz 3 d]) envOk ok_tb103_105 60 12 (p:=[]) (r:=[qapp (D.list []) d]) (S:=S150) (by rw[run150z,hm,qeqI_self];rfl) rfl lo w0 ρ E w vs inv ?_
    rw[hvs]
    simp only[RepL]
    exact⟨_,_,rfl,by simp only[Rep];exact⟨rv,_,_,_,rfl⟩,rfl⟩
noncomputable def tb150:Tb:=Tb.addF tb103_105 150 S150 q150
theorem ok_tb150:TbOk env tb150:=TbOk.addF ok_tb103_105 (by kernel_rfl) sound150
end Go.Proofs.YtgklbalcneepoaaGreatDoor
open Go Go.AM
namespace Go.Proofs.YtgklbalcneepoaaGreatDoor
set_option maxRecDepth 100000
set_option linter.unusedSimpArgs false
set_option linter.unusedVariables false
def S104:FunS:=⟨[⟨true,(.dat 61)⟩],[],[⟨true,(.rows 3)⟩],[]⟩
noncomputable def F104:List D→Option (List D):=liftX env tb150 60 12 104 S104
theorem F104_eq (sd0:D):F104 [sd0] =
 bif (qcmp BinOp.eql (qlen (qfld sd0 1)) 0)then
 some [(D.list [])]
 else
 bif (qinb (qfld sd0 1) (qbin BinOp.sub IntKind.i64 (qlen (qfld sd0 1)) 1))then
 bif (qcmp BinOp.eql (qint (qfld (qget (qfld sd0 1) (qbin BinOp.sub IntKind.i64 (qlen (qfld sd0 1)) 1)) 0)) 6)then
 some [(D.list [(D.int (qint (qfld (qget (qfld sd0 1) (qbin BinOp.sub IntKind.i64 (qlen (qfld sd0 1)) 1)) 3)))])]
 else
 bif (qcmp BinOp.eql (qint (qfld (qget (qfld sd0 1) (qbin BinOp.sub IntKind.i64 (qlen (qfld sd0 1)) 1)) 0)) 7)then
 some [(D.list [(D.int (qint (qfld (qget (qfld sd0 1) (qbin BinOp.sub IntKind.i64 (qlen (qfld sd0 1)) 1)) 3))),(D.int (qint (qfld (qget (qfld sd0 1) (qbin BinOp.sub IntKind.i64 (qlen (qfld sd0 1)) 1)) 4)))])]
 else
 bif (qcmp BinOp.eql (qint (qfld (qget (qfld sd0 1) (qbin BinOp.sub IntKind.i64 (qlen (qfld sd0 1)) 1)) 0)) 8)then
 bif (qsome (q150 [(qfld (qget (qfld sd0 1) (qbin BinOp.sub IntKind.i64 (qlen (qfld sd0 1)) 1)) 7)]))then
 some [(qnth (q150 [(qfld (qget (qfld sd0 1) (qbin BinOp.sub IntKind.i64 (qlen (qfld sd0 1)) 1)) 7)]) 0)]
 else
 none
 else
 some [(D.list [])]
 else
 none:=by kernel_rfl
noncomputable def q104:List D→Option (List D):=veil (F104)
theorem q104_eq:q104=F104:=veil_eq _
noncomputable def tb104:Tb:=Tb.addF tb150 104 S104 (q104)
theorem ok_tb104:TbOk env (tb104):=addFunF ok_tb150 104 (by kernel_rfl) _ (q104_eq)
def S145:FunS:=⟨[⟨true,(.dat 91)⟩],[],[⟨true,(.rows 3)⟩],[]⟩
noncomputable def F145:List D→Option (List D):=liftX env tb104 60 12 145 S145
theorem F145_eq (sd0:D):F145 [sd0] =
 bif (qcmp BinOp.eql (qint (qfld sd0 0)) 6)then
 some [(D.list [(D.int (qint (qfld sd0 3)))])]
 else
 bif (qcmp BinOp.eql (qint (qfld sd0 0)) 7)then
 some [(D.list [(D.int (qint (qfld sd0 3))),(D.int (qint (qfld sd0 4)))])]
 else
 bif (qcmp BinOp.eql (qint (qfld sd0 0)) 8)then
 some [(qfld sd0 7)]
 else
 some [(D.list [])]:=by kernel_rfl
noncomputable def q145:List D→Option (List D):=veil (F145)
theorem q145_eq:q145=F145:=veil_eq _
noncomputable def tb145:Tb:=Tb.addF tb104 145 S145 (q145)
theorem ok_tb145:TbOk env (tb145):=addFunF ok_tb104 145 (by kernel_rfl) _ (q145_eq)
def S64_4:LoopS:=⟨0,[uF,⟨false,(.ptr 0 0)⟩,⟨false,(.lit (.bool false))⟩,uF,uF,uF,uF,uF,uF,uF,uF,⟨false,(.rows 61)⟩,⟨false,(.int .i64)⟩,⟨true,(.int .i64)⟩,uF,uF,uF,uF,uF,uF,uF,uF,uF,uF,uF,uF,uF,uF,uF,uF,uF,uF,uF,uF,uF,uF,uF,uF,uF,uF,uF,uF,uF,uF,uF],[(.dat false 75)],[⟨0,0,[uT,uT,⟨true,(.lit (.bool false))⟩,uT,uT,uT,uT,uT,uT,uT,uT,⟨false,(.rows 61)⟩,⟨false,(.int .i64)⟩,uT,uT,uT,uT,uT,uT,uT,uT,uT,uT,uT,uT,uT,uT,uT,uT,uT,uT,uT,uT,uT,uT,uT,uT,uT,uT,uT,uT,uT,uT,uT,uT],[(.dat false 75)]⟩,⟨1,0,[uT,uT,⟨true,(.lit (.bool false))⟩,uT,uT,uT,uT,uT,uT,uT,uT,⟨false,(.rows 61)⟩,⟨false,(.int .i64)⟩,uT,uT,uT,uT,uT,uT,uT,uT,uT,uT,uT,uT,uT,uT,uT,uT,uT,uT,uT,uT,uT,uT,uT,uT,uT,uT,uT,uT,uT,uT,uT,uT],[(.dat false 75)]⟩]⟩
noncomputable def st64_4 (p s:List D):Option (Sum (List D) (List D)):=stepQX env tb145 60 12 64 (loopC 64 4) S64_4 p s
theorem st64_4_eq (pd0:D) (pn1:Int) (pd2:D) (sn0:Int):st64_4 [pd0,(D.int pn1),pd2] [(D.int sn0)] =
 bif (qcmp BinOp.lss sn0 pn1)then
 bif (qinb pd0 sn0)then
 bif (qiteB (qcmp BinOp.eql (qlen (qfld (qget pd0 sn0) 1)) 0) Bool.true (qand (qinb (qfld (qget pd0 sn0) 1) (qbin BinOp.sub IntKind.i64 (qlen (qfld (qget pd0 sn0) 1)) 1)) (qsome (q101 [(qget (qfld (qget pd0 sn0) 1) (qbin BinOp.sub IntKind.i64 (qlen (qfld (qget pd0 sn0) 1)) 1))]))))then
 bif (qiteB (qiteB (qcmp BinOp.eql (qlen (qfld (qget pd0 sn0) 1)) 0) Bool.true (qnot (qbool (qnth (q101 [(qget (qfld (qget pd0 sn0) 1) (qbin BinOp.sub IntKind.i64 (qlen (qfld (qget pd0 sn0) 1)) 1))]) 0)))) Bool.true (qand (qcmp BinOp.leq 0 0) (qand (qcmp BinOp.leq 0 (qbin BinOp.sub IntKind.i64 (qlen (qfld (qget pd0 sn0) 1)) 1)) (qand (qcmp BinOp.leq (qbin BinOp.sub IntKind.i64 (qlen (qfld (qget pd0 sn0) 1)) 1) (qlen (qfld (qget pd0 sn0) 1))) (qsome (q102_101 [(qsub (qfld (qget pd0 sn0) 1) 0 (qbin BinOp.sub IntKind.i64 (qlen (qfld (qget pd0 sn0) 1)) 1))]))))))then
 bif (qiteB (qiteB (qcmp BinOp.eql (qlen (qfld (qget pd0 sn0) 1)) 0) Bool.true (qnot (qbool (qnth (q101 [(qget (qfld (qget pd0 sn0) 1) (qbin BinOp.sub IntKind.i64 (qlen (qfld (qget pd0 sn0) 1)) 1))]) 0)))) Bool.true (qbool (qnth (q102_101 [(qsub (qfld (qget pd0 sn0) 1) 0 (qbin BinOp.sub IntKind.i64 (qlen (qfld (qget pd0 sn0) 1)) 1))]) 0)))then
 some (Sum.inr [(D.int 1)])
 else
 bif (qsome (q104 [(qget pd0 sn0)]))then
 bif (qsome (q103_105 [(qnth (q104 [(qget pd0 sn0)]) 0),pd2]))then
 bif (qbool (qnth (q103_105 [(qnth (q104 [(qget pd0 sn0)]) 0),pd2]) 0))then
 some (Sum.inr [(D.int 1)])
 else
 some (Sum.inl [(D.int (qbin BinOp.add IntKind.i64 sn0 1))])
 else
 none
 else
 none
 else
 none
 else
 none
 else
 none
 else
 some (Sum.inr [(D.int 0)]):=by
 have h:st64_4 [pd0,(D.int pn1),pd2] [(D.int sn0)] =
  bif (qcmp BinOp.lss sn0 pn1)then
  bif (qinb pd0 sn0)then
  bif (qiteB (qcmp BinOp.eql (qlen (qfld (qget pd0 sn0) 1)) 0) Bool.true (qand (qinb (qfld (qget pd0 sn0) 1) (qbin BinOp.sub IntKind.i64 (qlen (qfld (qget pd0 sn0) 1)) 1)) (qsome (q101 [(qget (qfld (qget pd0 sn0) 1) (qbin BinOp.sub IntKind.i64 (qlen (qfld (qget pd0 sn0) 1)) 1))]))))then
  bif (qiteB (qiteB (qcmp BinOp.eql (qlen (qfld (qget pd0 sn0) 1)) 0) Bool.true (qnot (qbool (qnth (q101 [(qget (qfld (qget pd0 sn0) 1) (qbin BinOp.sub IntKind.i64 (qlen (qfld (qget pd0 sn0) 1)) 1))]) 0)))) Bool.true (qand (qcmp BinOp.leq 0 0) (qand (qcmp BinOp.leq 0 (qbin BinOp.sub IntKind.i64 (qlen (qfld (qget pd0 sn0) 1)) 1)) (qand (qcmp BinOp.leq (qbin BinOp.sub IntKind.i64 (qlen (qfld (qget pd0 sn0) 1)) 1) (qlen (qfld (qget pd0 sn0) 1))) (qsome (q102_101 [(qsub (qfld (qget pd0 sn0) 1) 0 (qbin BinOp.sub IntKind.i64 (qlen (qfld (qget pd0 sn0) 1)) 1))]))))))then
  bif (qiteB (qiteB (qcmp BinOp.eql (qlen (qfld (qget pd0 sn0) 1)) 0) Bool.true (qnot (qbool (qnth (q101 [(qget (qfld (qget pd0 sn0) 1) (qbin BinOp.sub IntKind.i64 (qlen (qfld (qget pd0 sn0) 1)) 1))]) 0)))) Bool.true (qbool (qnth (q102_101 [(qsub (qfld (qget pd0 sn0) 1) 0 (qbin BinOp.sub IntKind.i64 (qlen (qfld (qget pd0 sn0) 1)) 1))]) 0)))then
  bif (qeqD pd0 pd0)then
  bif (qeqD (D.int pn1) (D.int pn1))then
  bif (qeqD pd2 pd2)then
  some (Sum.inr [(D.int 1)])
  else
  none
  else
  none
  else
  none
  else
  bif (qsome (q104 [(qget pd0 sn0)]))then
  bif (qsome (q103_105 [(qnth (q104 [(qget pd0 sn0)]) 0),pd2]))then
  bif (qbool (qnth (q103_105 [(qnth (q104 [(qget pd0 sn0)]) 0),pd2]) 0))then
  bif (qeqD pd0 pd0)then
  bif (qeqD (D.int pn1) (D.int pn1))then
  bif (qeqD pd2 pd2)then
  some (Sum.inr [(D.int 1)])
  else
  none
  else
  none
  else
  none
  else
  bif (qeqD pd0 pd0)then
  bif (qeqD (D.int pn1) (D.int pn1))then
  bif (qeqD pd2 pd2)then
  some (Sum.inl [(D.int (qbin BinOp.add IntKind.i64 sn0 1))])
  else
  none
  else
  none
  else
  none
  else
  none
  else
  none
  else
  none
  else
  none
  else
  none
  else
  bif (qeqD pd0 pd0)then
  bif (qeqD (D.int pn1) (D.int pn1))then
  bif (qeqD pd2 pd2)then
  some (Sum.inr [(D.int 0)])
  else
  none
  else
  none
  else
  none:=by kernel_rfl
 rw[h];simp only[qeqD_self,qeqI_self,qeq_len,show qcmp BinOp.eql 0 (qlen (D.list []))=true from qeq_len [],show∀a,qcmp BinOp.eql 1 (qlen (D.list [a]))=true from fun a=>qeq_len [a],show∀a b,qcmp BinOp.eql 2 (qlen (D.list [a,b]))=true from fun a b=>qeq_len [a,b],show∀a b c,qcmp BinOp.eql 3 (qlen (D.list [a,b,c]))=true from fun a b c=>qeq_len [a,b,c],show∀a b c d,qcmp BinOp.eql 4 (qlen (D.list [a,b,c,d]))=true from fun a b c d=>qeq_len [a,b,c,d],cond_true]
noncomputable def l64_4:List D→List D→Option (List D):=veil fun p s=>loW (st64_4 p) s
theorem l64_4_eq:l64_4=fun p s=>loW (st64_4 p) s:=veil_eq _
noncomputable def tbl64_4:Tb:=Tb.addL tb145 64 4 S64_4.n0 (mkLp S64_4 (l64_4))
theorem ok_tbl64_4:TbOk env (tbl64_4):=addLoopQ ok_tb145 64 4 (by kernel_rfl) _ (l64_4_eq)
def S64:FunS:=⟨[⟨true,(.dat 75)⟩],[],[⟨true, .bool⟩],[]⟩
noncomputable def F64:List D→Option (List D):=liftX env tbl64_4 60 12 64 S64
theorem F64_eq (sd0:D):F64 [sd0] =
 bif (qcmp BinOp.eql (qlen (qfld sd0 1)) 0)then
 some [(D.bool Bool.false)]
 else
 bif (qsome (l64_4 [(qfld sd0 1),(D.int (qlen (qfld sd0 1))),sd0] [(D.int 0)]))then
 bif (qcmp BinOp.eql (qint (qnth (l64_4 [(qfld sd0 1),(D.int (qlen (qfld sd0 1))),sd0] [(D.int 0)]) 0)) 0)then
 some [(D.bool Bool.true)]
 else
 some [(D.bool Bool.false)]
 else
 none:=by kernel_rfl
noncomputable def q64:List D→Option (List D):=veil (F64)
theorem q64_eq:q64=F64:=veil_eq _
noncomputable def tb64:Tb:=Tb.addF tbl64_4 64 S64 (q64)
theorem ok_tb64:TbOk env (tb64):=addFunF ok_tbl64_4 64 (by kernel_rfl) _ (q64_eq)
def S29_3:LoopS:=⟨0,[uF,⟨false,(.ptr 0 0)⟩,⟨false,(.lit (.int .i64 0))⟩,⟨true,(.int .i64)⟩,uF,uF,uF,uF,uF,uF,uF,uF,⟨false,(.rows 61)⟩,⟨false,(.int .i64)⟩,⟨true,(.int .i64)⟩,uF,uF,uF,uF,uF,uF,uF,uF,uF,uF,uF,uF,uF,uF,uF,uF,uF,uF,uF,uF,uF,uF,uF,uF,uF,uF,uF,uF,uF,uF,uF,uF,uF,uF,uF,uF,uF,uF,uF,uF,uF],[(.dat false 75)],[⟨0,0,[uT,⟨true,(.ptr 0 0)⟩,⟨true,(.lit (.int .i64 0))⟩,⟨true,(.int .i64)⟩,uT,uT,uT,uT,uT,uT,uT,uT,⟨false,(.rows 61)⟩,⟨false,(.int .i64)⟩,uT,uT,uT,uT,uT,uT,uT,uT,uT,uT,uT,uT,uT,uT,uT,uT,uT,uT,uT,uT,uT,uT,uT,uT,uT,uT,uT,uT,uT,uT,uT,uT,uT,uT,uT,uT,uT,uT,uT,uT,uT,uT],[(.dat false 75)]⟩]⟩
noncomputable def st29_3 (p s:List D):Option (Sum (List D) (List D)):=stepQX env tb64 60 12 29 (loopC 29 3) S29_3 p s
theorem st29_3_eq (pd0:D) (pn1:Int) (pd2:D) (sn0:Int) (sn1:Int):st29_3 [pd0,(D.int pn1),pd2] [(D.int sn0),(D.int sn1)] =
 bif (qcmp BinOp.lss sn1 pn1)then
 bif (qinb pd0 sn1)then
 some (Sum.inl [(D.int (qbin BinOp.add IntKind.i64 sn0 (qlen (qfld (qget pd0 sn1) 1)))),(D.int (qbin BinOp.add IntKind.i64 sn1 1))])
 else
 none
 else
 some (Sum.inr [(D.int 0),(D.int sn0)]):=by
 have h:st29_3 [pd0,(D.int pn1),pd2] [(D.int sn0),(D.int sn1)] =
  bif (qcmp BinOp.lss sn1 pn1)then
  bif (qinb pd0 sn1)then
  bif (qeqD pd0 pd0)then
  bif (qeqD (D.int pn1) (D.int pn1))then
  bif (qeqD pd2 pd2)then
  some (Sum.inl [(D.int (qbin BinOp.add IntKind.i64 sn0 (qlen (qfld (qget pd0 sn1) 1)))),(D.int (qbin BinOp.add IntKind.i64 sn1 1))])
  else
  none
  else
  none
  else
  none
  else
  none
  else
  bif (qeqD pd0 pd0)then
  bif (qeqD (D.int pn1) (D.int pn1))then
  bif (qeqD pd2 pd2)then
  some (Sum.inr [(D.int 0),(D.int sn0)])
  else
  none
  else
  none
  else
  none:=by kernel_rfl
 rw[h];simp only[qeqD_self,qeqI_self,qeq_len,show qcmp BinOp.eql 0 (qlen (D.list []))=true from qeq_len [],show∀a,qcmp BinOp.eql 1 (qlen (D.list [a]))=true from fun a=>qeq_len [a],show∀a b,qcmp BinOp.eql 2 (qlen (D.list [a,b]))=true from fun a b=>qeq_len [a,b],show∀a b c,qcmp BinOp.eql 3 (qlen (D.list [a,b,c]))=true from fun a b c=>qeq_len [a,b,c],show∀a b c d,qcmp BinOp.eql 4 (qlen (D.list [a,b,c,d]))=true from fun a b c d=>qeq_len [a,b,c,d],cond_true]
noncomputable def l29_3:List D→List D→Option (List D):=veil fun p s=>loW (st29_3 p) s
theorem l29_3_eq:l29_3=fun p s=>loW (st29_3 p) s:=veil_eq _
noncomputable def tbl29_3:Tb:=Tb.addL tb64 29 3 S29_3.n0 (mkLp S29_3 (l29_3))
theorem ok_tbl29_3:TbOk env (tbl29_3):=addLoopQ ok_tb64 29 3 (by kernel_rfl) _ (l29_3_eq)
def S29_15:LoopS:=⟨0,[uF,uF,⟨false,(.lit (.int .i64 0))⟩,uF,uF,uF,uF,uF,uF,uF,uF,uF,uF,uF,uF,uF,uF,uF,uF,uF,uF,uF,uF,uF,uF,uF,uF,uF,uF,uF,uF,uF,uF,uF,uF,uF,⟨false,(.rows 61)⟩,⟨false,(.int .i64)⟩,⟨false,(.int .i64)⟩,uF,uF,uF,uF,⟨false,(.rows 91)⟩,⟨false,(.int .i64)⟩,⟨true,(.int .i64)⟩,uF,uF,uF,uF,uF,uF,uF,uF,uF,uF],[],[⟨0,4,[uT,uT,⟨true,(.lit (.int .i64 0))⟩,uT,uT,uT,uT,uT,uT,uT,uT,uT,uT,uT,uT,uT,uT,uT,uT,uT,uT,uT,uT,uT,uT,uT,uT,uT,uT,uT,uT,uT,uT,uT,uT,uT,⟨false,(.rows 61)⟩,⟨false,(.int .i64)⟩,⟨false,(.int .i64)⟩,uT,uT,uT,uT,⟨false,(.rows 91)⟩,⟨false,(.int .i64)⟩,uT,uT,uT,uT,uT,uT,uT,uT,uT,uT,uT],[]⟩,⟨1,0,[uT,uT,⟨true,(.int .i64)⟩,uT,uT,uT,uT,uT,uT,uT,uT,uT,uT,uT,uT,uT,uT,uT,uT,uT,uT,uT,uT,uT,uT,uT,uT,uT,uT,uT,uT,uT,uT,uT,uT,uT,⟨false,(.rows 61)⟩,⟨false,(.int .i64)⟩,⟨false,(.int .i64)⟩,uT,uT,uT,uT,⟨false,(.rows 91)⟩,⟨false,(.int .i64)⟩,uT,uT,uT,uT,uT,uT,uT,uT,uT,uT,uT],[]⟩]⟩
noncomputable def st29_15 (p s:List D):Option (Sum (List D) (List D)):=stepQX env tbl29_3 60 12 29 (loopC 29 15) S29_15 p s
theorem st29_15_eq (pd0:D) (pn1:Int) (pn2:Int) (pd3:D) (pn4:Int) (sn0:Int):st29_15 [pd0,(D.int pn1),(D.int pn2),pd3,(D.int pn4)] [(D.int sn0)] =
 bif (qcmp BinOp.lss sn0 pn4)then
 bif (qinb pd3 sn0)then
 bif (qsome (q65 [(qget pd3 sn0)]))then
 bif (qcmp BinOp.neq (qint (qnth (q65 [(qget pd3 sn0)]) 0)) 0)then
 some (Sum.inr [(D.int 1),(D.int (qint (qnth (q65 [(qget pd3 sn0)]) 0)))])
 else
 some (Sum.inl [(D.int (qbin BinOp.add IntKind.i64 sn0 1))])
 else
 none
 else
 none
 else
 some (Sum.inr [(D.int 0)]):=by
 have h:st29_15 [pd0,(D.int pn1),(D.int pn2),pd3,(D.int pn4)] [(D.int sn0)] =
  bif (qcmp BinOp.lss sn0 pn4)then
  bif (qinb pd3 sn0)then
  bif (qsome (q65 [(qget pd3 sn0)]))then
  bif (qcmp BinOp.neq (qint (qnth (q65 [(qget pd3 sn0)]) 0)) 0)then
  bif (qeqD pd0 pd0)then
  bif (qeqD (D.int pn1) (D.int pn1))then
  bif (qeqD (D.int pn2) (D.int pn2))then
  bif (qeqD pd3 pd3)then
  bif (qeqD (D.int pn4) (D.int pn4))then
  some (Sum.inr [(D.int 1),(D.int (qint (qnth (q65 [(qget pd3 sn0)]) 0)))])
  else
  none
  else
  none
  else
  none
  else
  none
  else
  none
  else
  bif (qeqD pd0 pd0)then
  bif (qeqD (D.int pn1) (D.int pn1))then
  bif (qeqD (D.int pn2) (D.int pn2))then
  bif (qeqD pd3 pd3)then
  bif (qeqD (D.int pn4) (D.int pn4))then
  some (Sum.inl [(D.int (qbin BinOp.add IntKind.i64 sn0 1))])
  else
  none
  else
  none
  else
  none
  else
  none
  else
  none
  else
  none
  else
  none
  else
  bif (qeqD pd0 pd0)then
  bif (qeqD (D.int pn1) (D.int pn1))then
  bif (qeqD (D.int pn2) (D.int pn2))then
  bif (qeqD pd3 pd3)then
  bif (qeqD (D.int pn4) (D.int pn4))then
  some (Sum.inr [(D.int 0)])
  else
  none
  else
  none
  else
  none
  else
  none
  else
  none:=by kernel_rfl
 rw[h];simp only[qeqD_self,qeqI_self,qeq_len,show qcmp BinOp.eql 0 (qlen (D.list []))=true from qeq_len [],show∀a,qcmp BinOp.eql 1 (qlen (D.list [a]))=true from fun a=>qeq_len [a],show∀a b,qcmp BinOp.eql 2 (qlen (D.list [a,b]))=true from fun a b=>qeq_len [a,b],show∀a b c,qcmp BinOp.eql 3 (qlen (D.list [a,b,c]))=true from fun a b c=>qeq_len [a,b,c],show∀a b c d,qcmp BinOp.eql 4 (qlen (D.list [a,b,c,d]))=true from fun a b c d=>qeq_len [a,b,c,d],cond_true]
noncomputable def l29_15:List D→List D→Option (List D):=veil fun p s=>loW (st29_15 p) s
theorem l29_15_eq:l29_15=fun p s=>loW (st29_15 p) s:=veil_eq _
noncomputable def tbl29_15:Tb:=Tb.addL tbl29_3 29 15 S29_15.n0 (mkLp S29_15 (l29_15))
theorem ok_tbl29_15:TbOk env (tbl29_15):=addLoopQ ok_tbl29_3 29 15 (by kernel_rfl) _ (l29_15_eq)
def S29_12:LoopS:=⟨0,[uF,uF,⟨false,(.lit (.int .i64 0))⟩,uF,uF,uF,uF,uF,uF,uF,uF,uF,uF,uF,uF,uF,uF,uF,uF,uF,uF,uF,uF,uF,uF,uF,uF,uF,uF,uF,uF,uF,uF,uF,uF,uF,⟨false,(.rows 61)⟩,⟨false,(.int .i64)⟩,⟨true,(.int .i64)⟩,uF,uF,uF,uF,uF,uF,uF,uF,uF,uF,uF,uF,uF,uF,uF,uF,uF],[],[⟨0,2,[uT,uT,⟨true,(.lit (.int .i64 0))⟩,uT,uT,uT,uT,uT,uT,uT,uT,uT,uT,uT,uT,uT,uT,uT,uT,uT,uT,uT,uT,uT,uT,uT,uT,uT,uT,uT,uT,uT,uT,uT,uT,uT,⟨false,(.rows 61)⟩,⟨false,(.int .i64)⟩,uT,uT,uT,uT,uT,uT,uT,uT,uT,uT,uT,uT,uT,uT,uT,uT,uT,uT],[]⟩,⟨1,0,[uT,uT,⟨true,(.int .i64)⟩,uT,uT,uT,uT,uT,uT,uT,uT,uT,uT,uT,uT,uT,uT,uT,uT,uT,uT,uT,uT,uT,uT,uT,uT,uT,uT,uT,uT,uT,uT,uT,uT,uT,⟨false,(.rows 61)⟩,⟨false,(.int .i64)⟩,uT,uT,uT,uT,uT,uT,uT,uT,uT,uT,uT,uT,uT,uT,uT,uT,uT,uT],[]⟩]⟩
noncomputable def st29_12 (p s:List D):Option (Sum (List D) (List D)):=stepQX env tbl29_15 60 12 29 (loopC 29 12) S29_12 p s
theorem st29_12_eq (pd0:D) (pn1:Int) (sn0:Int):st29_12 [pd0,(D.int pn1)] [(D.int sn0)] =
 bif (qcmp BinOp.lss sn0 pn1)then
 bif (qinb pd0 sn0)then
 bif (qsome (l29_15 [pd0,(D.int pn1),(D.int sn0),(qfld (qget pd0 sn0) 1),(D.int (qlen (qfld (qget pd0 sn0) 1)))] [(D.int 0)]))then
 bif (qcmp BinOp.eql (qint (qnth (l29_15 [pd0,(D.int pn1),(D.int sn0),(qfld (qget pd0 sn0) 1),(D.int (qlen (qfld (qget pd0 sn0) 1)))] [(D.int 0)]) 0)) 0)then
 some (Sum.inl [(D.int (qbin BinOp.add IntKind.i64 sn0 1))])
 else
 some (Sum.inr [(D.int 1),(D.int (qint (qnth (l29_15 [pd0,(D.int pn1),(D.int sn0),(qfld (qget pd0 sn0) 1),(D.int (qlen (qfld (qget pd0 sn0) 1)))] [(D.int 0)]) 1)))])
 else
 none
 else
 none
 else
 some (Sum.inr [(D.int 0)]):=by
 have h:st29_12 [pd0,(D.int pn1)] [(D.int sn0)] =
  bif (qcmp BinOp.lss sn0 pn1)then
  bif (qinb pd0 sn0)then
  bif (qsome (l29_15 [pd0,(D.int pn1),(D.int sn0),(qfld (qget pd0 sn0) 1),(D.int (qlen (qfld (qget pd0 sn0) 1)))] [(D.int 0)]))then
  bif (qcmp BinOp.eql (qint (qnth (l29_15 [pd0,(D.int pn1),(D.int sn0),(qfld (qget pd0 sn0) 1),(D.int (qlen (qfld (qget pd0 sn0) 1)))] [(D.int 0)]) 0)) 0)then
  bif (qeqD pd0 pd0)then
  bif (qeqD (D.int pn1) (D.int pn1))then
  some (Sum.inl [(D.int (qbin BinOp.add IntKind.i64 sn0 1))])
  else
  none
  else
  none
  else
  bif (qeqD pd0 pd0)then
  bif (qeqD (D.int pn1) (D.int pn1))then
  some (Sum.inr [(D.int 1),(D.int (qint (qnth (l29_15 [pd0,(D.int pn1),(D.int sn0),(qfld (qget pd0 sn0) 1),(D.int (qlen (qfld (qget pd0 sn0) 1)))] [(D.int 0)]) 1)))])
  else
  none
  else
  none
  else
  none
  else
  none
  else
  bif (qeqD pd0 pd0)then
  bif (qeqD (D.int pn1) (D.int pn1))then
  some (Sum.inr [(D.int 0)])
  else
  none
  else
  none:=by kernel_rfl
 rw[h];simp only[qeqD_self,qeqI_self,qeq_len,show qcmp BinOp.eql 0 (qlen (D.list []))=true from qeq_len [],show∀a,qcmp BinOp.eql 1 (qlen (D.list [a]))=true from fun a=>qeq_len [a],show∀a b,qcmp BinOp.eql 2 (qlen (D.list [a,b]))=true from fun a b=>qeq_len [a,b],show∀a b c,qcmp BinOp.eql 3 (qlen (D.list [a,b,c]))=true from fun a b c=>qeq_len [a,b,c],show∀a b c d,qcmp BinOp.eql 4 (qlen (D.list [a,b,c,d]))=true from fun a b c d=>qeq_len [a,b,c,d],cond_true]
noncomputable def l29_12:List D→List D→Option (List D):=veil fun p s=>loW (st29_12 p) s
theorem l29_12_eq:l29_12=fun p s=>loW (st29_12 p) s:=veil_eq _
noncomputable def tbl29_12:Tb:=Tb.addL tbl29_15 29 12 S29_12.n0 (mkLp S29_12 (l29_12))
theorem ok_tbl29_12:TbOk env (tbl29_12):=addLoopQ ok_tbl29_15 29 12 (by kernel_rfl) _ (l29_12_eq)
def S29:FunS:=⟨[⟨true,(.dat 75)⟩],[],[⟨true,(.int .i64)⟩],[]⟩
noncomputable def F29:List D→Option (List D):=liftX env tbl29_12 60 12 29 S29
theorem F29_eq (sd0:D):F29 [sd0] =
 bif (qsome (l29_3 [(qfld sd0 1),(D.int (qlen (qfld sd0 1))),sd0] [(D.int 0),(D.int 0)]))then
 bif (qiteB (qcmp BinOp.gtr (qlen (qfld sd0 1)) 256) Bool.true (qcmp BinOp.gtr (qint (qnth (l29_3 [(qfld sd0 1),(D.int (qlen (qfld sd0 1))),sd0] [(D.int 0),(D.int 0)]) 1)) 1024))then
 some [(D.int 6)]
 else
 bif (qsome (q64 [sd0]))then
 bif (qnot (qbool (qnth (q64 [sd0]) 0)))then
 some [(D.int 18)]
 else
 bif (qsome (l29_12 [(qfld sd0 1),(D.int (qlen (qfld sd0 1)))] [(D.int 0)]))then
 bif (qcmp BinOp.eql (qint (qnth (l29_12 [(qfld sd0 1),(D.int (qlen (qfld sd0 1)))] [(D.int 0)]) 0)) 0)then
 some [(D.int 0)]
 else
 some [(D.int (qint (qnth (l29_12 [(qfld sd0 1),(D.int (qlen (qfld sd0 1)))] [(D.int 0)]) 1)))]
 else
 none
 else
 none
 else
 none:=by kernel_rfl
noncomputable def q29:List D→Option (List D):=veil (F29)
theorem q29_eq:q29=F29:=veil_eq _
noncomputable def tb29:Tb:=Tb.addF tbl29_12 29 S29 (q29)
theorem ok_tb29:TbOk env (tb29):=addFunF ok_tbl29_12 29 (by kernel_rfl) _ (q29_eq)
def S99_4:LoopS:=⟨0,[uF,⟨false,(.int .i64)⟩,⟨false,(.ptr 0 0)⟩,uF,⟨false,(.lit (.bool false))⟩,⟨true,(.int .i64)⟩,uF,uF,uF,uF,uF,uF,uF,uF,uF,uF,uF,uF,uF,uF,uF,uF,uF,uF,uF,uF,uF,uF,uF,uF,uF,uF,uF,uF,uF,uF,uF,uF,uF,uF,uF,uF,uF,uF,uF,uF,uF,uF,uF,uF,uF,uF,uF,uF,uF,uF,uF,uF,uF,uF],[(.dat false 61)],[⟨0,0,[uT,⟨false,(.int .i64)⟩,⟨true,(.ptr 0 0)⟩,uT,⟨true,(.lit (.bool false))⟩,uT,uT,uT,uT,uT,uT,uT,uT,uT,uT,uT,uT,uT,uT,uT,uT,uT,uT,uT,uT,uT,uT,uT,uT,uT,uT,uT,uT,uT,uT,uT,uT,uT,uT,uT,uT,uT,uT,uT,uT,uT,uT,uT,uT,uT,uT,uT,uT,uT,uT,uT,uT,uT,uT,uT],[(.dat false 61)]⟩,⟨1,0,[uT,⟨false,(.int .i64)⟩,uT,uT,⟨true,(.lit (.bool false))⟩,uT,uT,uT,uT,uT,uT,uT,uT,uT,uT,uT,uT,uT,uT,uT,uT,uT,uT,uT,uT,uT,uT,uT,uT,uT,uT,uT,uT,uT,uT,uT,uT,uT,uT,uT,uT,uT,uT,uT,uT,uT,uT,uT,uT,uT,uT,uT,uT,uT,uT,uT,uT,uT,uT,uT],[(.dat false 61)]⟩]⟩
noncomputable def st99_4 (p s:List D):Option (Sum (List D) (List D)):=stepQX env tb29 60 12 99 (loopC 99 4) S99_4 p s
theorem st99_4_eq (pn0:Int) (pd1:D) (sn0:Int):st99_4 [(D.int pn0),pd1] [(D.int sn0)] =
 bif (qcmp BinOp.lss sn0 (qlen (qfld pd1 1)))then
 bif (qinb (qfld pd1 1) sn0)then
 bif (qsome (q144 [(qget (qfld pd1 1) sn0)]))then
 bif (qnot (qeqB (qbool (qnth (q144 [(qget (qfld pd1 1) sn0)]) 0)) (qcmp BinOp.eql sn0 (qbin BinOp.sub IntKind.i64 (qlen (qfld pd1 1)) 1))))then
 some (Sum.inr [(D.int 1)])
 else
 some (Sum.inl [(D.int (qbin BinOp.add IntKind.i64 sn0 1))])
 else
 none
 else
 none
 else
 some (Sum.inr [(D.int 0)]):=by
 have h:st99_4 [(D.int pn0),pd1] [(D.int sn0)] =
  bif (qcmp BinOp.lss sn0 (qlen (qfld pd1 1)))then
  bif (qinb (qfld pd1 1) sn0)then
  bif (qsome (q144 [(qget (qfld pd1 1) sn0)]))then
  bif (qnot (qeqB (qbool (qnth (q144 [(qget (qfld pd1 1) sn0)]) 0)) (qcmp BinOp.eql sn0 (qbin BinOp.sub IntKind.i64 (qlen (qfld pd1 1)) 1))))then
  bif (qeqD (D.int pn0) (D.int pn0))then
  bif (qeqD pd1 pd1)then
  some (Sum.inr [(D.int 1)])
  else
  none
  else
  none
  else
  bif (qeqD (D.int pn0) (D.int pn0))then
  bif (qeqD pd1 pd1)then
  some (Sum.inl [(D.int (qbin BinOp.add IntKind.i64 sn0 1))])
  else
  none
  else
  none
  else
  none
  else
  none
  else
  bif (qeqD (D.int pn0) (D.int pn0))then
  bif (qeqD pd1 pd1)then
  some (Sum.inr [(D.int 0)])
  else
  none
  else
  none:=by kernel_rfl
 rw[h];simp only[qeqD_self,qeqI_self,qeq_len,show qcmp BinOp.eql 0 (qlen (D.list []))=true from qeq_len [],show∀a,qcmp BinOp.eql 1 (qlen (D.list [a]))=true from fun a=>qeq_len [a],show∀a b,qcmp BinOp.eql 2 (qlen (D.list [a,b]))=true from fun a b=>qeq_len [a,b],show∀a b c,qcmp BinOp.eql 3 (qlen (D.list [a,b,c]))=true from fun a b c=>qeq_len [a,b,c],show∀a b c d,qcmp BinOp.eql 4 (qlen (D.list [a,b,c,d]))=true from fun a b c d=>qeq_len [a,b,c,d],cond_true]
noncomputable def l99_4:List D→List D→Option (List D):=veil fun p s=>loW (st99_4 p) s
theorem l99_4_eq:l99_4=fun p s=>loW (st99_4 p) s:=veil_eq _
noncomputable def tbl99_4:Tb:=Tb.addL tb29 99 4 S99_4.n0 (mkLp S99_4 (l99_4))
theorem ok_tbl99_4:TbOk env (tbl99_4):=addLoopQ ok_tb29 99 4 (by kernel_rfl) _ (l99_4_eq)
def S99_10:LoopS:=⟨0,[uF,⟨false,(.int .i64)⟩,uF,uF,⟨false,(.lit (.bool false))⟩,uF,⟨false,(.rows 3)⟩,⟨true,(.int .i64)⟩,uF,uF,uF,uF,uF,uF,uF,uF,uF,uF,uF,uF,uF,uF,uF,uF,uF,uF,uF,uF,uF,uF,uF,uF,uF,uF,uF,uF,uF,uF,uF,uF,uF,uF,uF,uF,uF,uF,uF,uF,uF,uF,uF,uF,uF,uF,uF,uF,uF,uF,uF,uF],[],[⟨0,2,[uT,⟨false,(.int .i64)⟩,uT,uT,⟨true,(.lit (.bool false))⟩,uT,⟨false,(.rows 3)⟩,uT,uT,uT,uT,uT,uT,uT,uT,uT,uT,uT,uT,uT,uT,uT,uT,uT,uT,uT,uT,uT,uT,uT,uT,uT,uT,uT,uT,uT,uT,uT,uT,uT,uT,uT,uT,uT,uT,uT,uT,uT,uT,uT,uT,uT,uT,uT,uT,uT,uT,uT,uT,uT],[]⟩,⟨1,0,[uT,⟨false,(.int .i64)⟩,uT,uT,⟨true,(.lit (.bool false))⟩,uT,⟨false,(.rows 3)⟩,uT,uT,uT,uT,uT,uT,uT,uT,uT,uT,uT,uT,uT,uT,uT,uT,uT,uT,uT,uT,uT,uT,uT,uT,uT,uT,uT,uT,uT,uT,uT,uT,uT,uT,uT,uT,uT,uT,uT,uT,uT,uT,uT,uT,uT,uT,uT,uT,uT,uT,uT,uT,uT],[]⟩]⟩
noncomputable def st99_10 (p s:List D):Option (Sum (List D) (List D)):=stepQX env tbl99_4 60 12 99 (loopC 99 10) S99_10 p s
theorem st99_10_eq (pn0:Int) (pd1:D) (sn0:Int):st99_10 [(D.int pn0),pd1] [(D.int sn0)] =
 bif (qcmp BinOp.lss sn0 (qlen pd1))then
 bif (qinb pd1 sn0)then
 bif (qiteB (qcmp BinOp.lss (qint (qget pd1 sn0)) 0) Bool.true (qinb pd1 sn0))then
 bif (qiteB (qcmp BinOp.lss (qint (qget pd1 sn0)) 0) Bool.true (qcmp BinOp.geq (qint (qget pd1 sn0)) pn0))then
 some (Sum.inr [(D.int 1)])
 else
 some (Sum.inl [(D.int (qbin BinOp.add IntKind.i64 sn0 1))])
 else
 none
 else
 none
 else
 some (Sum.inr [(D.int 0)]):=by
 have h:st99_10 [(D.int pn0),pd1] [(D.int sn0)] =
  bif (qcmp BinOp.lss sn0 (qlen pd1))then
  bif (qinb pd1 sn0)then
  bif (qiteB (qcmp BinOp.lss (qint (qget pd1 sn0)) 0) Bool.true (qinb pd1 sn0))then
  bif (qiteB (qcmp BinOp.lss (qint (qget pd1 sn0)) 0) Bool.true (qcmp BinOp.geq (qint (qget pd1 sn0)) pn0))then
  bif (qeqD (D.int pn0) (D.int pn0))then
  bif (qeqD pd1 pd1)then
  some (Sum.inr [(D.int 1)])
  else
  none
  else
  none
  else
  bif (qeqD (D.int pn0) (D.int pn0))then
  bif (qeqD pd1 pd1)then
  some (Sum.inl [(D.int (qbin BinOp.add IntKind.i64 sn0 1))])
  else
  none
  else
  none
  else
  none
  else
  none
  else
  bif (qeqD (D.int pn0) (D.int pn0))then
  bif (qeqD pd1 pd1)then
  some (Sum.inr [(D.int 0)])
  else
  none
  else
  none:=by kernel_rfl
 rw[h];simp only[qeqD_self,qeqI_self,qeq_len,show qcmp BinOp.eql 0 (qlen (D.list []))=true from qeq_len [],show∀a,qcmp BinOp.eql 1 (qlen (D.list [a]))=true from fun a=>qeq_len [a],show∀a b,qcmp BinOp.eql 2 (qlen (D.list [a,b]))=true from fun a b=>qeq_len [a,b],show∀a b c,qcmp BinOp.eql 3 (qlen (D.list [a,b,c]))=true from fun a b c=>qeq_len [a,b,c],show∀a b c d,qcmp BinOp.eql 4 (qlen (D.list [a,b,c,d]))=true from fun a b c d=>qeq_len [a,b,c,d],cond_true]
noncomputable def l99_10:List D→List D→Option (List D):=veil fun p s=>loW (st99_10 p) s
theorem l99_10_eq:l99_10=fun p s=>loW (st99_10 p) s:=veil_eq _
noncomputable def tbl99_10:Tb:=Tb.addL tbl99_4 99 10 S99_10.n0 (mkLp S99_10 (l99_10))
theorem ok_tbl99_10:TbOk env (tbl99_10):=addLoopQ ok_tbl99_4 99 10 (by kernel_rfl) _ (l99_10_eq)
def S99:FunS:=⟨[⟨true,(.dat 61)⟩,⟨true,(.int .i64)⟩],[],[⟨true, .bool⟩],[]⟩
noncomputable def F99:List D→Option (List D):=liftX env tbl99_10 60 12 99 S99
theorem F99_eq (sd0:D) (sn1:Int):F99 [sd0,(D.int sn1)] =
 bif (qcmp BinOp.eql (qlen (qfld sd0 1)) 0)then
 some [(D.bool Bool.false)]
 else
 bif (qsome (l99_4 [(D.int sn1),sd0] [(D.int 0)]))then
 bif (qcmp BinOp.eql (qint (qnth (l99_4 [(D.int sn1),sd0] [(D.int 0)]) 0)) 0)then
 bif (qinb (qfld sd0 1) (qbin BinOp.sub IntKind.i64 (qlen (qfld sd0 1)) 1))then
 bif (qsome (q145 [(qget (qfld sd0 1) (qbin BinOp.sub IntKind.i64 (qlen (qfld sd0 1)) 1))]))then
 bif (qsome (l99_10 [(D.int sn1),(qnth (q145 [(qget (qfld sd0 1) (qbin BinOp.sub IntKind.i64 (qlen (qfld sd0 1)) 1))]) 0)] [(D.int 0)]))then
 bif (qcmp BinOp.eql (qint (qnth (l99_10 [(D.int sn1),(qnth (q145 [(qget (qfld sd0 1) (qbin BinOp.sub IntKind.i64 (qlen (qfld sd0 1)) 1))]) 0)] [(D.int 0)]) 0)) 0)then
 some [(D.bool Bool.true)]
 else
 some [(D.bool Bool.false)]
 else
 none
 else
 none
 else
 none
 else
 some [(D.bool Bool.false)]
 else
 none:=by kernel_rfl
noncomputable def q99:List D→Option (List D):=veil (F99)
theorem q99_eq:q99=F99:=veil_eq _
noncomputable def tb99:Tb:=Tb.addF tbl99_10 99 S99 (q99)
theorem ok_tb99:TbOk env (tb99):=addFunF ok_tbl99_10 99 (by kernel_rfl) _ (q99_eq)
def S63_5:LoopS:=⟨0,[uF,⟨false,(.ptr 0 0)⟩,⟨false,(.lit (.int .i64 0))⟩,⟨true,(.int .i64)⟩,⟨true,(.int .i64)⟩,uF,uF,uF,uF,uF,uF,uF,uF,uF,uF,uF,uF,uF,uF,uF,uF,uF,uF,uF,uF,uF,uF,uF,uF,uF,uF,uF,uF,uF,uF,uF,uF,uF,uF,uF,uF,uF,uF,uF,uF,uF,uF,uF,uF,uF,uF,uF,uF,uF,uF,uF,uF,uF,uF,uF,uF,uF,uF,uF,uF,uF,uF,uF,uF,uF,uF,uF,uF,uF,uF,uF,uF,uF,uF,uF,uF,uF,uF],[(.dat false 75)],[⟨0,0,[uT,⟨true,(.ptr 0 0)⟩,⟨true,(.lit (.int .i64 0))⟩,⟨true,(.int .i64)⟩,uT,uT,uT,uT,uT,uT,uT,uT,uT,uT,uT,uT,uT,uT,uT,uT,uT,uT,uT,uT,uT,uT,uT,uT,uT,uT,uT,uT,uT,uT,uT,uT,uT,uT,uT,uT,uT,uT,uT,uT,uT,uT,uT,uT,uT,uT,uT,uT,uT,uT,uT,uT,uT,uT,uT,uT,uT,uT,uT,uT,uT,uT,uT,uT,uT,uT,uT,uT,uT,uT,uT,uT,uT,uT,uT,uT,uT,uT,uT],[(.dat false 75)]⟩]⟩
noncomputable def st63_5 (p s:List D):Option (Sum (List D) (List D)):=stepQX env tb99 60 12 63 (loopC 63 5) S63_5 p s
theorem st63_5_eq (pd0:D) (sn0:Int) (sn1:Int):st63_5 [pd0] [(D.int sn0),(D.int sn1)] =
 bif (qcmp BinOp.lss sn1 (qlen (qfld pd0 1)))then
 bif (qinb (qfld pd0 1) sn1)then
 some (Sum.inl [(D.int (qbin BinOp.add IntKind.i64 sn0 (qlen (qfld (qget (qfld pd0 1) sn1) 1)))),(D.int (qbin BinOp.add IntKind.i64 sn1 1))])
 else
 none
 else
 some (Sum.inr [(D.int 0),(D.int sn0)]):=by
 have h:st63_5 [pd0] [(D.int sn0),(D.int sn1)] =
  bif (qcmp BinOp.lss sn1 (qlen (qfld pd0 1)))then
  bif (qinb (qfld pd0 1) sn1)then
  bif (qeqD pd0 pd0)then
  some (Sum.inl [(D.int (qbin BinOp.add IntKind.i64 sn0 (qlen (qfld (qget (qfld pd0 1) sn1) 1)))),(D.int (qbin BinOp.add IntKind.i64 sn1 1))])
  else
  none
  else
  none
  else
  bif (qeqD pd0 pd0)then
  some (Sum.inr [(D.int 0),(D.int sn0)])
  else
  none:=by kernel_rfl
 rw[h];simp only[qeqD_self,qeqI_self,qeq_len,show qcmp BinOp.eql 0 (qlen (D.list []))=true from qeq_len [],show∀a,qcmp BinOp.eql 1 (qlen (D.list [a]))=true from fun a=>qeq_len [a],show∀a b,qcmp BinOp.eql 2 (qlen (D.list [a,b]))=true from fun a b=>qeq_len [a,b],show∀a b c,qcmp BinOp.eql 3 (qlen (D.list [a,b,c]))=true from fun a b c=>qeq_len [a,b,c],show∀a b c d,qcmp BinOp.eql 4 (qlen (D.list [a,b,c,d]))=true from fun a b c d=>qeq_len [a,b,c,d],cond_true]
noncomputable def l63_5:List D→List D→Option (List D):=veil fun p s=>loW (st63_5 p) s
theorem l63_5_eq:l63_5=fun p s=>loW (st63_5 p) s:=veil_eq _
noncomputable def tbl63_5:Tb:=Tb.addL tb99 63 5 S63_5.n0 (mkLp S63_5 (l63_5))
theorem ok_tbl63_5:TbOk env (tbl63_5):=addLoopQ ok_tb99 63 5 (by kernel_rfl) _ (l63_5_eq)
def S63_13:LoopS:=⟨0,[uF,⟨false,(.ptr 0 0)⟩,⟨false,(.lit (.int .i64 0))⟩,uF,uF,⟨true,(.int .i64)⟩,uF,uF,uF,uF,uF,uF,uF,uF,uF,uF,uF,uF,uF,uF,uF,uF,uF,uF,uF,uF,uF,uF,uF,uF,uF,uF,uF,uF,uF,uF,uF,uF,uF,uF,uF,uF,uF,uF,uF,uF,uF,uF,uF,uF,uF,uF,uF,uF,uF,uF,uF,uF,uF,uF,uF,uF,uF,uF,uF,uF,uF,uF,uF,uF,uF,uF,uF,uF,uF,uF,uF,uF,uF,uF,uF,uF,uF],[(.dat false 75)],[⟨0,2,[uT,⟨true,(.ptr 0 0)⟩,⟨true,(.lit (.int .i64 0))⟩,uT,uT,uT,uT,uT,uT,uT,uT,uT,uT,uT,uT,uT,uT,uT,uT,uT,uT,uT,uT,uT,uT,uT,uT,uT,uT,uT,uT,uT,uT,uT,uT,uT,uT,uT,uT,uT,uT,uT,uT,uT,uT,uT,uT,uT,uT,uT,uT,uT,uT,uT,uT,uT,uT,uT,uT,uT,uT,uT,uT,uT,uT,uT,uT,uT,uT,uT,uT,uT,uT,uT,uT,uT,uT,uT,uT,uT,uT,uT,uT],[(.dat false 75)]⟩,⟨1,0,[uT,uT,⟨true,(.lit (.int .i64 18))⟩,uT,uT,uT,uT,uT,uT,uT,uT,uT,uT,uT,uT,uT,uT,uT,uT,uT,uT,uT,uT,uT,uT,uT,uT,uT,uT,uT,uT,uT,uT,uT,uT,uT,uT,uT,uT,uT,uT,uT,uT,uT,uT,uT,uT,uT,uT,uT,uT,uT,uT,uT,uT,uT,uT,uT,uT,uT,uT,uT,uT,uT,uT,uT,uT,uT,uT,uT,uT,uT,uT,uT,uT,uT,uT,uT,uT,uT,uT,uT,uT],[(.dat false 75)]⟩]⟩
noncomputable def st63_13 (p s:List D):Option (Sum (List D) (List D)):=stepQX env tbl63_5 60 12 63 (loopC 63 13) S63_13 p s
theorem st63_13_eq (pd0:D) (sn0:Int):st63_13 [pd0] [(D.int sn0)] =
 bif (qcmp BinOp.lss sn0 (qlen (qfld pd0 1)))then
 bif (qinb (qfld pd0 1) sn0)then
 bif (qsome (q99 [(qget (qfld pd0 1) sn0),(D.int (qlen (qfld pd0 1)))]))then
 bif (qnot (qbool (qnth (q99 [(qget (qfld pd0 1) sn0),(D.int (qlen (qfld pd0 1)))]) 0)))then
 some (Sum.inr [(D.int 1)])
 else
 some (Sum.inl [(D.int (qbin BinOp.add IntKind.i64 sn0 1))])
 else
 none
 else
 none
 else
 some (Sum.inr [(D.int 0)]):=by
 have h:st63_13 [pd0] [(D.int sn0)] =
  bif (qcmp BinOp.lss sn0 (qlen (qfld pd0 1)))then
  bif (qinb (qfld pd0 1) sn0)then
  bif (qsome (q99 [(qget (qfld pd0 1) sn0),(D.int (qlen (qfld pd0 1)))]))then
  bif (qnot (qbool (qnth (q99 [(qget (qfld pd0 1) sn0),(D.int (qlen (qfld pd0 1)))]) 0)))then
  bif (qeqD pd0 pd0)then
  some (Sum.inr [(D.int 1)])
  else
  none
  else
  bif (qeqD pd0 pd0)then
  some (Sum.inl [(D.int (qbin BinOp.add IntKind.i64 sn0 1))])
  else
  none
  else
  none
  else
  none
  else
  bif (qeqD pd0 pd0)then
  some (Sum.inr [(D.int 0)])
  else
  none:=by kernel_rfl
 rw[h];simp only[qeqD_self,qeqI_self,qeq_len,show qcmp BinOp.eql 0 (qlen (D.list []))=true from qeq_len [],show∀a,qcmp BinOp.eql 1 (qlen (D.list [a]))=true from fun a=>qeq_len [a],show∀a b,qcmp BinOp.eql 2 (qlen (D.list [a,b]))=true from fun a b=>qeq_len [a,b],show∀a b c,qcmp BinOp.eql 3 (qlen (D.list [a,b,c]))=true from fun a b c=>qeq_len [a,b,c],show∀a b c d,qcmp BinOp.eql 4 (qlen (D.list [a,b,c,d]))=true from fun a b c d=>qeq_len [a,b,c,d],cond_true]
noncomputable def l63_13:List D→List D→Option (List D):=veil fun p s=>loW (st63_13 p) s
theorem l63_13_eq:l63_13=fun p s=>loW (st63_13 p) s:=veil_eq _
noncomputable def tbl63_13:Tb:=Tb.addL tbl63_5 63 13 S63_13.n0 (mkLp S63_13 (l63_13))
theorem ok_tbl63_13:TbOk env (tbl63_13):=addLoopQ ok_tbl63_5 63 13 (by kernel_rfl) _ (l63_13_eq)
def S63_21:LoopS:=⟨0,[uF,⟨false,(.ptr 0 0)⟩,⟨false,(.lit (.int .i64 0))⟩,uF,uF,uF,⟨false,(.int .i64)⟩,⟨true,(.int .i64)⟩,uF,uF,uF,uF,uF,uF,uF,uF,uF,uF,uF,uF,uF,uF,uF,uF,uF,uF,uF,uF,uF,uF,uF,uF,uF,uF,uF,uF,uF,uF,uF,uF,uF,uF,uF,uF,uF,uF,uF,uF,uF,uF,uF,uF,uF,uF,uF,uF,uF,uF,uF,uF,uF,uF,uF,uF,uF,uF,uF,uF,uF,uF,uF,uF,uF,uF,uF,uF,uF,uF,uF,uF,uF,uF,uF],[(.dat false 75)],[⟨0,6,[uT,⟨true,(.ptr 0 0)⟩,⟨true,(.lit (.int .i64 0))⟩,uT,uT,uT,⟨false,(.int .i64)⟩,uT,uT,uT,uT,uT,uT,uT,uT,uT,uT,uT,uT,uT,uT,uT,uT,uT,uT,uT,uT,uT,uT,uT,uT,uT,uT,uT,uT,uT,uT,uT,uT,uT,uT,uT,uT,uT,uT,uT,uT,uT,uT,uT,uT,uT,uT,uT,uT,uT,uT,uT,uT,uT,uT,uT,uT,uT,uT,uT,uT,uT,uT,uT,uT,uT,uT,uT,uT,uT,uT,uT,uT,uT,uT,uT,uT],[(.dat false 75)]⟩,⟨1,0,[uT,uT,⟨true,(.int .i64)⟩,uT,uT,uT,⟨false,(.int .i64)⟩,uT,uT,uT,uT,uT,uT,uT,uT,uT,uT,uT,uT,uT,uT,uT,uT,uT,uT,uT,uT,uT,uT,uT,uT,uT,uT,uT,uT,uT,uT,uT,uT,uT,uT,uT,uT,uT,uT,uT,uT,uT,uT,uT,uT,uT,uT,uT,uT,uT,uT,uT,uT,uT,uT,uT,uT,uT,uT,uT,uT,uT,uT,uT,uT,uT,uT,uT,uT,uT,uT,uT,uT,uT,uT,uT,uT],[(.dat false 75)]⟩]⟩
noncomputable def st63_21 (p s:List D):Option (Sum (List D) (List D)):=stepQX env tbl63_13 60 12 63 (loopC 63 21) S63_21 p s
theorem st63_21_eq (pn0:Int) (pd1:D) (sn0:Int):st63_21 [(D.int pn0),pd1] [(D.int sn0)] =
 bif (qinb (qfld pd1 1) pn0)then
 bif (qcmp BinOp.lss sn0 (qlen (qfld (qget (qfld pd1 1) pn0) 1)))then
 bif (qinb (qfld pd1 1) pn0)then
 bif (qinb (qfld (qget (qfld pd1 1) pn0) 1) sn0)then
 bif (qsome (q100 [(qget (qfld (qget (qfld pd1 1) pn0) 1) sn0)]))then
 bif (qcmp BinOp.neq (qint (qnth (q100 [(qget (qfld (qget (qfld pd1 1) pn0) 1) sn0)]) 0)) 0)then
 some (Sum.inr [(D.int 1),(D.int (qint (qnth (q100 [(qget (qfld (qget (qfld pd1 1) pn0) 1) sn0)]) 0)))])
 else
 some (Sum.inl [(D.int (qbin BinOp.add IntKind.i64 sn0 1))])
 else
 none
 else
 none
 else
 none
 else
 some (Sum.inr [(D.int 0)])
 else
 none:=by
 have h:st63_21 [(D.int pn0),pd1] [(D.int sn0)] =
  bif (qinb (qfld pd1 1) pn0)then
  bif (qcmp BinOp.lss sn0 (qlen (qfld (qget (qfld pd1 1) pn0) 1)))then
  bif (qinb (qfld pd1 1) pn0)then
  bif (qinb (qfld (qget (qfld pd1 1) pn0) 1) sn0)then
  bif (qsome (q100 [(qget (qfld (qget (qfld pd1 1) pn0) 1) sn0)]))then
  bif (qcmp BinOp.neq (qint (qnth (q100 [(qget (qfld (qget (qfld pd1 1) pn0) 1) sn0)]) 0)) 0)then
  bif (qeqD (D.int pn0) (D.int pn0))then
  bif (qeqD pd1 pd1)then
  some (Sum.inr [(D.int 1),(D.int (qint (qnth (q100 [(qget (qfld (qget (qfld pd1 1) pn0) 1) sn0)]) 0)))])
  else
  none
  else
  none
  else
  bif (qeqD (D.int pn0) (D.int pn0))then
  bif (qeqD pd1 pd1)then
  some (Sum.inl [(D.int (qbin BinOp.add IntKind.i64 sn0 1))])
  else
  none
  else
  none
  else
  none
  else
  none
  else
  none
  else
  bif (qeqD (D.int pn0) (D.int pn0))then
  bif (qeqD pd1 pd1)then
  some (Sum.inr [(D.int 0)])
  else
  none
  else
  none
  else
  none:=by kernel_rfl
 rw[h];simp only[qeqD_self,qeqI_self,qeq_len,show qcmp BinOp.eql 0 (qlen (D.list []))=true from qeq_len [],show∀a,qcmp BinOp.eql 1 (qlen (D.list [a]))=true from fun a=>qeq_len [a],show∀a b,qcmp BinOp.eql 2 (qlen (D.list [a,b]))=true from fun a b=>qeq_len [a,b],show∀a b c,qcmp BinOp.eql 3 (qlen (D.list [a,b,c]))=true from fun a b c=>qeq_len [a,b,c],show∀a b c d,qcmp BinOp.eql 4 (qlen (D.list [a,b,c,d]))=true from fun a b c d=>qeq_len [a,b,c,d],cond_true]
noncomputable def l63_21:List D→List D→Option (List D):=veil fun p s=>loW (st63_21 p) s
theorem l63_21_eq:l63_21=fun p s=>loW (st63_21 p) s:=veil_eq _
noncomputable def tbl63_21:Tb:=Tb.addL tbl63_13 63 21 S63_21.n0 (mkLp S63_21 (l63_21))
theorem ok_tbl63_21:TbOk env (tbl63_21):=addLoopQ ok_tbl63_13 63 21 (by kernel_rfl) _ (l63_21_eq)
def S63_18:LoopS:=⟨0,[uF,⟨false,(.ptr 0 0)⟩,⟨false,(.lit (.int .i64 0))⟩,uF,uF,uF,⟨true,(.int .i64)⟩,uF,uF,uF,uF,uF,uF,uF,uF,uF,uF,uF,uF,uF,uF,uF,uF,uF,uF,uF,uF,uF,uF,uF,uF,uF,uF,uF,uF,uF,uF,uF,uF,uF,uF,uF,uF,uF,uF,uF,uF,uF,uF,uF,uF,uF,uF,uF,uF,uF,uF,uF,uF,uF,uF,uF,uF,uF,uF,uF,uF,uF,uF,uF,uF,uF,uF,uF,uF,uF,uF,uF,uF,uF,uF,uF,uF],[(.dat false 75)],[⟨0,4,[uT,uT,⟨true,(.lit (.int .i64 0))⟩,uT,uT,uT,uT,uT,uT,uT,uT,uT,uT,uT,uT,uT,uT,uT,uT,uT,uT,uT,uT,uT,uT,uT,uT,uT,uT,uT,uT,uT,uT,uT,uT,uT,uT,uT,uT,uT,uT,uT,uT,uT,uT,uT,uT,uT,uT,uT,uT,uT,uT,uT,uT,uT,uT,uT,uT,uT,uT,uT,uT,uT,uT,uT,uT,uT,uT,uT,uT,uT,uT,uT,uT,uT,uT,uT,uT,uT,uT,uT,uT],[(.dat false 75)]⟩,⟨1,0,[uT,uT,⟨true,(.int .i64)⟩,uT,uT,uT,uT,uT,uT,uT,uT,uT,uT,uT,uT,uT,uT,uT,uT,uT,uT,uT,uT,uT,uT,uT,uT,uT,uT,uT,uT,uT,uT,uT,uT,uT,uT,uT,uT,uT,uT,uT,uT,uT,uT,uT,uT,uT,uT,uT,uT,uT,uT,uT,uT,uT,uT,uT,uT,uT,uT,uT,uT,uT,uT,uT,uT,uT,uT,uT,uT,uT,uT,uT,uT,uT,uT,uT,uT,uT,uT,uT,uT],[(.dat false 75)]⟩]⟩
noncomputable def st63_18 (p s:List D):Option (Sum (List D) (List D)):=stepQX env tbl63_21 60 12 63 (loopC 63 18) S63_18 p s
theorem st63_18_eq (pd0:D) (sn0:Int):st63_18 [pd0] [(D.int sn0)] =
 bif (qcmp BinOp.lss sn0 (qlen (qfld pd0 1)))then
 bif (qsome (l63_21 [(D.int sn0),pd0] [(D.int 0)]))then
 bif (qcmp BinOp.eql (qint (qnth (l63_21 [(D.int sn0),pd0] [(D.int 0)]) 0)) 0)then
 some (Sum.inl [(D.int (qbin BinOp.add IntKind.i64 sn0 1))])
 else
 some (Sum.inr [(D.int 1),(D.int (qint (qnth (l63_21 [(D.int sn0),pd0] [(D.int 0)]) 1)))])
 else
 none
 else
 some (Sum.inr [(D.int 0)]):=by
 have h:st63_18 [pd0] [(D.int sn0)] =
  bif (qcmp BinOp.lss sn0 (qlen (qfld pd0 1)))then
  bif (qsome (l63_21 [(D.int sn0),pd0] [(D.int 0)]))then
  bif (qcmp BinOp.eql (qint (qnth (l63_21 [(D.int sn0),pd0] [(D.int 0)]) 0)) 0)then
  bif (qeqD pd0 pd0)then
  some (Sum.inl [(D.int (qbin BinOp.add IntKind.i64 sn0 1))])
  else
  none
  else
  bif (qeqD pd0 pd0)then
  some (Sum.inr [(D.int 1),(D.int (qint (qnth (l63_21 [(D.int sn0),pd0] [(D.int 0)]) 1)))])
  else
  none
  else
  none
  else
  bif (qeqD pd0 pd0)then
  some (Sum.inr [(D.int 0)])
  else
  none:=by kernel_rfl
 rw[h];simp only[qeqD_self,qeqI_self,qeq_len,show qcmp BinOp.eql 0 (qlen (D.list []))=true from qeq_len [],show∀a,qcmp BinOp.eql 1 (qlen (D.list [a]))=true from fun a=>qeq_len [a],show∀a b,qcmp BinOp.eql 2 (qlen (D.list [a,b]))=true from fun a b=>qeq_len [a,b],show∀a b c,qcmp BinOp.eql 3 (qlen (D.list [a,b,c]))=true from fun a b c=>qeq_len [a,b,c],show∀a b c d,qcmp BinOp.eql 4 (qlen (D.list [a,b,c,d]))=true from fun a b c d=>qeq_len [a,b,c,d],cond_true]
noncomputable def l63_18:List D→List D→Option (List D):=veil fun p s=>loW (st63_18 p) s
theorem l63_18_eq:l63_18=fun p s=>loW (st63_18 p) s:=veil_eq _
noncomputable def tbl63_18:Tb:=Tb.addL tbl63_21 63 18 S63_18.n0 (mkLp S63_18 (l63_18))
theorem ok_tbl63_18:TbOk env (tbl63_18):=addLoopQ ok_tbl63_21 63 18 (by kernel_rfl) _ (l63_18_eq)
def S63:FunS:=⟨[⟨true,(.dat 75)⟩],[],[⟨true,(.int .i64)⟩],[]⟩
noncomputable def F63:List D→Option (List D):=liftX env tbl63_18 60 12 63 S63
theorem F63_eq (sd0:D):F63 [sd0] =
 bif (qcmp BinOp.gtr (qlen (qfld sd0 1)) 256)then
 some [(D.int 6)]
 else
 bif (qsome (l63_5 [sd0] [(D.int 0),(D.int 0)]))then
 bif (qcmp BinOp.gtr (qint (qnth (l63_5 [sd0] [(D.int 0),(D.int 0)]) 1)) 1024)then
 some [(D.int 6)]
 else
 bif (qcmp BinOp.eql (qlen (qfld sd0 1)) 0)then
 some [(D.int 18)]
 else
 bif (qsome (l63_13 [sd0] [(D.int 0)]))then
 bif (qcmp BinOp.eql (qint (qnth (l63_13 [sd0] [(D.int 0)]) 0)) 0)then
 bif (qsome (l63_18 [sd0] [(D.int 0)]))then
 bif (qcmp BinOp.eql (qint (qnth (l63_18 [sd0] [(D.int 0)]) 0)) 0)then
 some [(D.int 0)]
 else
 some [(D.int (qint (qnth (l63_18 [sd0] [(D.int 0)]) 1)))]
 else
 none
 else
 some [(D.int 18)]
 else
 none
 else
 none:=by kernel_rfl
noncomputable def q63:List D→Option (List D):=veil (F63)
theorem q63_eq:q63=F63:=veil_eq _
noncomputable def tb63:Tb:=Tb.addF tbl63_18 63 S63 (q63)
theorem ok_tb63:TbOk env (tb63):=addFunF ok_tbl63_18 63 (by kernel_rfl) _ (q63_eq)
end Go.Proofs.YtgklbalcneepoaaGreatDoor
open Go Go.AM
namespace Go.Proofs.YtgklbalcneepoaaGreatDoor
set_option maxRecDepth 100000
set_option linter.unusedSimpArgs false
set_option linter.unusedVariables false
def S28_10:LoopS:=⟨0,[uF,uF,⟨false,(.ptr 0 0)⟩,⟨false,(.ptr 1 0)⟩,⟨false,(.lit (.bool false))⟩,⟨false,(.int .i64)⟩,⟨false,(.ptr 2 0)⟩,⟨false,(.ptr 3 0)⟩,⟨true,(.int .i64)⟩,uF,uF,uF,uF,uF,uF,uF,uF,uF,uF,uF,uF,uF,uF,uF,uF,uF,uF,uF,uF,uF,uF,uF,uF,uF,uF,uF,uF,uF,uF,uF,uF,uF,uF,uF,uF,uF,uF,uF,uF,uF,uF,uF,uF,uF,uF,uF,uF,uF,uF,uF,uF,uF,uF,uF,uF,uF,uF,uF,uF,uF,uF,uF,uF],[(.dat false 61),(.dat false 61),(.dat false 75),(.dat false 75)],[⟨0,2,[uT,uT,⟨true,(.ptr 0 0)⟩,⟨true,(.ptr 1 0)⟩,⟨true,(.lit (.bool false))⟩,⟨false,(.int .i64)⟩,uT,uT,uT,uT,uT,uT,uT,uT,uT,uT,uT,uT,uT,uT,uT,uT,uT,uT,uT,uT,uT,uT,uT,uT,uT,uT,uT,uT,uT,uT,uT,uT,uT,uT,uT,uT,uT,uT,uT,uT,uT,uT,uT,uT,uT,uT,uT,uT,uT,uT,uT,uT,uT,uT,uT,uT,uT,uT,uT,uT,uT,uT,uT,uT,uT,uT,uT],[(.dat false 61),(.dat false 61),(.dat false 75),(.dat false 75)]⟩,⟨1,0,[uT,uT,uT,uT,⟨true,(.lit (.bool false))⟩,⟨false,(.int .i64)⟩,uT,uT,uT,uT,uT,uT,uT,uT,uT,uT,uT,uT,uT,uT,uT,uT,uT,uT,uT,uT,uT,uT,uT,uT,uT,uT,uT,uT,uT,uT,uT,uT,uT,uT,uT,uT,uT,uT,uT,uT,uT,uT,uT,uT,uT,uT,uT,uT,uT,uT,uT,uT,uT,uT,uT,uT,uT,uT,uT,uT,uT,uT,uT,uT,uT,uT,uT],[(.dat false 61),(.dat false 61),(.dat false 75),(.dat false 75)]⟩]⟩
noncomputable def st28_10 (p s:List D):Option (Sum (List D) (List D)):=stepQX env tb63 60 12 28 (loopC 28 10) S28_10 p s
theorem st28_10_eq (pn0:Int) (pd1:D) (pd2:D) (pd3:D) (pd4:D) (sn0:Int):st28_10 [(D.int pn0),pd1,pd2,pd3,pd4] [(D.int sn0)] =
 bif (qcmp BinOp.lss sn0 (qlen (qfld pd2 1)))then
 bif (qinb (qfld pd2 1) sn0)then
 bif (qinb (qfld pd1 1) sn0)then
 bif (qsome (q42 [(qget (qfld pd2 1) sn0),(qget (qfld pd1 1) sn0)]))then
 bif (qnot (qbool (qnth (q42 [(qget (qfld pd2 1) sn0),(qget (qfld pd1 1) sn0)]) 0)))then
 some (Sum.inr [(D.int 1)])
 else
 some (Sum.inl [(D.int (qbin BinOp.add IntKind.i64 sn0 1))])
 else
 none
 else
 none
 else
 none
 else
 some (Sum.inr [(D.int 0)]):=by
 have h:st28_10 [(D.int pn0),pd1,pd2,pd3,pd4] [(D.int sn0)] =
  bif (qcmp BinOp.lss sn0 (qlen (qfld pd2 1)))then
  bif (qinb (qfld pd2 1) sn0)then
  bif (qinb (qfld pd1 1) sn0)then
  bif (qsome (q42 [(qget (qfld pd2 1) sn0),(qget (qfld pd1 1) sn0)]))then
  bif (qnot (qbool (qnth (q42 [(qget (qfld pd2 1) sn0),(qget (qfld pd1 1) sn0)]) 0)))then
  bif (qeqD (D.int pn0) (D.int pn0))then
  bif (qeqD pd1 pd1)then
  bif (qeqD pd2 pd2)then
  bif (qeqD pd3 pd3)then
  bif (qeqD pd4 pd4)then
  some (Sum.inr [(D.int 1)])
  else
  none
  else
  none
  else
  none
  else
  none
  else
  none
  else
  bif (qeqD (D.int pn0) (D.int pn0))then
  bif (qeqD pd1 pd1)then
  bif (qeqD pd2 pd2)then
  bif (qeqD pd3 pd3)then
  bif (qeqD pd4 pd4)then
  some (Sum.inl [(D.int (qbin BinOp.add IntKind.i64 sn0 1))])
  else
  none
  else
  none
  else
  none
  else
  none
  else
  none
  else
  none
  else
  none
  else
  none
  else
  bif (qeqD (D.int pn0) (D.int pn0))then
  bif (qeqD pd1 pd1)then
  bif (qeqD pd2 pd2)then
  bif (qeqD pd3 pd3)then
  bif (qeqD pd4 pd4)then
  some (Sum.inr [(D.int 0)])
  else
  none
  else
  none
  else
  none
  else
  none
  else
  none:=by kernel_rfl
 rw[h];simp only[qeqD_self,qeqI_self,qeq_len,show qcmp BinOp.eql 0 (qlen (D.list []))=true from qeq_len [],show∀a,qcmp BinOp.eql 1 (qlen (D.list [a]))=true from fun a=>qeq_len [a],show∀a b,qcmp BinOp.eql 2 (qlen (D.list [a,b]))=true from fun a b=>qeq_len [a,b],show∀a b c,qcmp BinOp.eql 3 (qlen (D.list [a,b,c]))=true from fun a b c=>qeq_len [a,b,c],show∀a b c d,qcmp BinOp.eql 4 (qlen (D.list [a,b,c,d]))=true from fun a b c d=>qeq_len [a,b,c,d],cond_true]
noncomputable def l28_10:List D→List D→Option (List D):=veil fun p s=>loW (st28_10 p) s
theorem l28_10_eq:l28_10=fun p s=>loW (st28_10 p) s:=veil_eq _
noncomputable def tbl28_10:Tb:=Tb.addL tb63 28 10 S28_10.n0 (mkLp S28_10 (l28_10))
theorem ok_tbl28_10:TbOk env (tbl28_10):=addLoopQ ok_tb63 28 10 (by kernel_rfl) _ (l28_10_eq)
def S28_4:LoopS:=⟨0,[uF,uF,⟨false,(.ptr 0 0)⟩,⟨false,(.ptr 1 0)⟩,⟨false,(.lit (.bool false))⟩,⟨true,(.int .i64)⟩,uF,uF,uF,uF,uF,uF,uF,uF,uF,uF,uF,uF,uF,uF,uF,uF,uF,uF,uF,uF,uF,uF,uF,uF,uF,uF,uF,uF,uF,uF,uF,uF,uF,uF,uF,uF,uF,uF,uF,uF,uF,uF,uF,uF,uF,uF,uF,uF,uF,uF,uF,uF,uF,uF,uF,uF,uF,uF,uF,uF,uF,uF,uF,uF,uF,uF,uF],[(.dat false 75),(.dat false 75)],[⟨0,0,[uT,uT,uT,uT,⟨true,(.lit (.bool false))⟩,uT,uT,uT,uT,uT,uT,uT,uT,uT,uT,uT,uT,uT,uT,uT,uT,uT,uT,uT,uT,uT,uT,uT,uT,uT,uT,uT,uT,uT,uT,uT,uT,uT,uT,uT,uT,uT,uT,uT,uT,uT,uT,uT,uT,uT,uT,uT,uT,uT,uT,uT,uT,uT,uT,uT,uT,uT,uT,uT,uT,uT,uT,uT,uT,uT,uT,uT,uT],[(.dat false 75),(.dat false 75)]⟩,⟨1,0,[uT,uT,uT,uT,⟨true,(.lit (.bool false))⟩,uT,uT,uT,uT,uT,uT,uT,uT,uT,uT,uT,uT,uT,uT,uT,uT,uT,uT,uT,uT,uT,uT,uT,uT,uT,uT,uT,uT,uT,uT,uT,uT,uT,uT,uT,uT,uT,uT,uT,uT,uT,uT,uT,uT,uT,uT,uT,uT,uT,uT,uT,uT,uT,uT,uT,uT,uT,uT,uT,uT,uT,uT,uT,uT,uT,uT,uT,uT],[(.dat false 75),(.dat false 75)]⟩]⟩
noncomputable def st28_4 (p s:List D):Option (Sum (List D) (List D)):=stepQX env tbl28_10 60 12 28 (loopC 28 4) S28_4 p s
theorem st28_4_eq (pd0:D) (pd1:D) (sn0:Int):st28_4 [pd0,pd1] [(D.int sn0)] =
 bif (qcmp BinOp.lss sn0 (qlen (qfld pd1 1)))then
 bif (qinb (qfld pd1 1) sn0)then
 bif (qinb (qfld pd0 1) sn0)then
 bif (qiteB (qcmp BinOp.neq (qint (qfld (qget (qfld pd1 1) sn0) 0)) (qint (qfld (qget (qfld pd0 1) sn0) 0))) Bool.true (qcmp BinOp.neq (qlen (qfld (qget (qfld pd1 1) sn0) 1)) (qlen (qfld (qget (qfld pd0 1) sn0) 1))))then
 some (Sum.inr [(D.int 1)])
 else
 bif (qsome (l28_10 [(D.int sn0),(qget (qfld pd0 1) sn0),(qget (qfld pd1 1) sn0),pd0,pd1] [(D.int 0)]))then
 bif (qcmp BinOp.eql (qint (qnth (l28_10 [(D.int sn0),(qget (qfld pd0 1) sn0),(qget (qfld pd1 1) sn0),pd0,pd1] [(D.int 0)]) 0)) 0)then
 some (Sum.inl [(D.int (qbin BinOp.add IntKind.i64 sn0 1))])
 else
 some (Sum.inr [(D.int 1)])
 else
 none
 else
 none
 else
 none
 else
 some (Sum.inr [(D.int 0)]):=by
 have h:st28_4 [pd0,pd1] [(D.int sn0)] =
  bif (qcmp BinOp.lss sn0 (qlen (qfld pd1 1)))then
  bif (qinb (qfld pd1 1) sn0)then
  bif (qinb (qfld pd0 1) sn0)then
  bif (qiteB (qcmp BinOp.neq (qint (qfld (qget (qfld pd1 1) sn0) 0)) (qint (qfld (qget (qfld pd0 1) sn0) 0))) Bool.true (qcmp BinOp.neq (qlen (qfld (qget (qfld pd1 1) sn0) 1)) (qlen (qfld (qget (qfld pd0 1) sn0) 1))))then
  bif (qeqD pd0 pd0)then
  bif (qeqD pd1 pd1)then
  some (Sum.inr [(D.int 1)])
  else
  none
  else
  none
  else
  bif (qsome (l28_10 [(D.int sn0),(qget (qfld pd0 1) sn0),(qget (qfld pd1 1) sn0),pd0,pd1] [(D.int 0)]))then
  bif (qcmp BinOp.eql (qint (qnth (l28_10 [(D.int sn0),(qget (qfld pd0 1) sn0),(qget (qfld pd1 1) sn0),pd0,pd1] [(D.int 0)]) 0)) 0)then
  bif (qeqD pd0 pd0)then
  bif (qeqD pd1 pd1)then
  some (Sum.inl [(D.int (qbin BinOp.add IntKind.i64 sn0 1))])
  else
  none
  else
  none
  else
  bif (qeqD pd0 pd0)then
  bif (qeqD pd1 pd1)then
  some (Sum.inr [(D.int 1)])
  else
  none
  else
  none
  else
  none
  else
  none
  else
  none
  else
  bif (qeqD pd0 pd0)then
  bif (qeqD pd1 pd1)then
  some (Sum.inr [(D.int 0)])
  else
  none
  else
  none:=by kernel_rfl
 rw[h];simp only[qeqD_self,qeqI_self,qeq_len,show qcmp BinOp.eql 0 (qlen (D.list []))=true from qeq_len [],show∀a,qcmp BinOp.eql 1 (qlen (D.list [a]))=true from fun a=>qeq_len [a],show∀a b,qcmp BinOp.eql 2 (qlen (D.list [a,b]))=true from fun a b=>qeq_len [a,b],show∀a b c,qcmp BinOp.eql 3 (qlen (D.list [a,b,c]))=true from fun a b c=>qeq_len [a,b,c],show∀a b c d,qcmp BinOp.eql 4 (qlen (D.list [a,b,c,d]))=true from fun a b c d=>qeq_len [a,b,c,d],cond_true]
noncomputable def l28_4:List D→List D→Option (List D):=veil fun p s=>loW (st28_4 p) s
theorem l28_4_eq:l28_4=fun p s=>loW (st28_4 p) s:=veil_eq _
noncomputable def tbl28_4:Tb:=Tb.addL tbl28_10 28 4 S28_4.n0 (mkLp S28_4 (l28_4))
theorem ok_tbl28_4:TbOk env (tbl28_4):=addLoopQ ok_tbl28_10 28 4 (by kernel_rfl) _ (l28_4_eq)
def S28:FunS:=⟨[⟨true,(.dat 75)⟩,⟨true,(.dat 75)⟩],[],[⟨true, .bool⟩],[]⟩
noncomputable def F28:List D→Option (List D):=liftX env tbl28_4 60 12 28 S28
theorem F28_eq (sd0:D) (sd1:D):F28 [sd0,sd1] =
 bif (qiteB (qcmp BinOp.neq (qint (qfld sd0 0)) (qint (qfld sd1 0))) Bool.true (qcmp BinOp.neq (qlen (qfld sd0 1)) (qlen (qfld sd1 1))))then
 some [(D.bool Bool.false)]
 else
 bif (qsome (l28_4 [sd1,sd0] [(D.int 0)]))then
 bif (qcmp BinOp.eql (qint (qnth (l28_4 [sd1,sd0] [(D.int 0)]) 0)) 0)then
 some [(D.bool Bool.true)]
 else
 some [(D.bool Bool.false)]
 else
 none:=by kernel_rfl
noncomputable def q28:List D→Option (List D):=veil (F28)
theorem q28_eq:q28=F28:=veil_eq _
noncomputable def tb28:Tb:=Tb.addF tbl28_4 28 S28 (q28)
theorem ok_tb28:TbOk env (tb28):=addFunF ok_tbl28_4 28 (by kernel_rfl) _ (q28_eq)
def S62_2:LoopS:=⟨0,[⟨false,(.rows 58)⟩,⟨false,(.int .u32)⟩,uF,uF,⟨false,(.lit (.int .i64 0))⟩,⟨true,(.int .i64)⟩,uF,uF,uF,uF,uF,uF,uF,uF,uF,uF,uF,uF,uF,uF],[],[⟨0,0,[⟨false,(.rows 58)⟩,⟨false,(.int .u32)⟩,uT,uT,⟨true,(.lit (.int .i64 0))⟩,uT,uT,uT,uT,uT,uT,uT,uT,uT,uT,uT,uT,uT,uT,uT],[]⟩,⟨1,0,[⟨false,(.rows 58)⟩,⟨false,(.int .u32)⟩,uT,uT,⟨true,(.int .i64)⟩,uT,uT,uT,uT,uT,uT,uT,uT,uT,uT,uT,uT,uT,uT,uT],[]⟩]⟩
noncomputable def st62_2 (p s:List D):Option (Sum (List D) (List D)):=stepQX env tb28 60 12 62 (loopC 62 2) S62_2 p s
theorem st62_2_eq (pd0:D) (pn1:Int) (sn0:Int):st62_2 [pd0,(D.int pn1)] [(D.int sn0)] =
 bif (qcmp BinOp.lss sn0 (qlen pd0))then
 bif (qinb pd0 sn0)then
 bif (qcmp BinOp.eql (qint (qfld (qget pd0 sn0) 0)) pn1)then
 some (Sum.inr [(D.int 1),(D.int sn0)])
 else
 some (Sum.inl [(D.int (qbin BinOp.add IntKind.i64 sn0 1))])
 else
 none
 else
 some (Sum.inr [(D.int 0)]):=by
 have h:st62_2 [pd0,(D.int pn1)] [(D.int sn0)] =
  bif (qcmp BinOp.lss sn0 (qlen pd0))then
  bif (qinb pd0 sn0)then
  bif (qcmp BinOp.eql (qint (qfld (qget pd0 sn0) 0)) pn1)then
  bif (qeqD pd0 pd0)then
  bif (qeqD (D.int pn1) (D.int pn1))then
  some (Sum.inr [(D.int 1),(D.int sn0)])
  else
  none
  else
  none
  else
  bif (qeqD pd0 pd0)then
  bif (qeqD (D.int pn1) (D.int pn1))then
  some (Sum.inl [(D.int (qbin BinOp.add IntKind.i64 sn0 1))])
  else
  none
  else
  none
  else
  none
  else
  bif (qeqD pd0 pd0)then
  bif (qeqD (D.int pn1) (D.int pn1))then
  some (Sum.inr [(D.int 0)])
  else
  none
  else
  none:=by kernel_rfl
 rw[h];simp only[qeqD_self,qeqI_self,qeq_len,show qcmp BinOp.eql 0 (qlen (D.list []))=true from qeq_len [],show∀a,qcmp BinOp.eql 1 (qlen (D.list [a]))=true from fun a=>qeq_len [a],show∀a b,qcmp BinOp.eql 2 (qlen (D.list [a,b]))=true from fun a b=>qeq_len [a,b],show∀a b c,qcmp BinOp.eql 3 (qlen (D.list [a,b,c]))=true from fun a b c=>qeq_len [a,b,c],show∀a b c d,qcmp BinOp.eql 4 (qlen (D.list [a,b,c,d]))=true from fun a b c d=>qeq_len [a,b,c,d],cond_true]
noncomputable def l62_2:List D→List D→Option (List D):=veil fun p s=>loW (st62_2 p) s
theorem l62_2_eq:l62_2=fun p s=>loW (st62_2 p) s:=veil_eq _
noncomputable def tbl62_2:Tb:=Tb.addL tb28 62 2 S62_2.n0 (mkLp S62_2 (l62_2))
theorem ok_tbl62_2:TbOk env (tbl62_2):=addLoopQ ok_tb28 62 2 (by kernel_rfl) _ (l62_2_eq)
def S62:FunS:=⟨[⟨true,(.rows 58)⟩,⟨true,(.int .u32)⟩],[],[⟨true,(.int .i64)⟩],[]⟩
noncomputable def F62:List D→Option (List D):=liftX env tbl62_2 60 12 62 S62
theorem F62_eq (sd0:D) (sn1:Int):F62 [sd0,(D.int sn1)] =
 bif (qsome (l62_2 [sd0,(D.int sn1)] [(D.int 0)]))then
 bif (qcmp BinOp.eql (qint (qnth (l62_2 [sd0,(D.int sn1)] [(D.int 0)]) 0)) 0)then
 some [(D.int (-1))]
 else
 some [(D.int (qint (qnth (l62_2 [sd0,(D.int sn1)] [(D.int 0)]) 1)))]
 else
 none:=by kernel_rfl
noncomputable def q62:List D→Option (List D):=veil (F62)
theorem q62_eq:q62=F62:=veil_eq _
noncomputable def tb62:Tb:=Tb.addF tbl62_2 62 S62 (q62)
theorem ok_tb62:TbOk env (tb62):=addFunF ok_tbl62_2 62 (by kernel_rfl) _ (q62_eq)
def S24_2:LoopS:=⟨0,[⟨false,(.rows 58)⟩,uF,⟨false,(.lit (.bool false))⟩,⟨true,(.int .i64)⟩,uF,uF,uF,uF,uF,uF,uF,uF,uF,uF,uF,uF,uF,uF,uF,uF,uF,uF,uF],[],[⟨0,0,[⟨false,(.rows 58)⟩,uT,⟨true,(.lit (.bool false))⟩,uT,uT,uT,uT,uT,uT,uT,uT,uT,uT,uT,uT,uT,uT,uT,uT,uT,uT,uT,uT],[]⟩,⟨1,0,[⟨false,(.rows 58)⟩,uT,⟨true,(.lit (.bool false))⟩,uT,uT,uT,uT,uT,uT,uT,uT,uT,uT,uT,uT,uT,uT,uT,uT,uT,uT,uT,uT],[]⟩]⟩
noncomputable def st24_2 (p s:List D):Option (Sum (List D) (List D)):=stepQX env tb62 60 12 24 (loopC 24 2) S24_2 p s
theorem st24_2_eq (pd0:D) (sn0:Int):st24_2 [pd0] [(D.int sn0)] =
 bif (qiteB (qcmp BinOp.lss sn0 (qlen pd0)) (qcmp BinOp.lss sn0 30) Bool.false)then
 bif (qinb pd0 sn0)then
 bif (qsome (q20 [(qget pd0 sn0)]))then
 bif (qnot (qbool (qnth (q20 [(qget pd0 sn0)]) 0)))then
 some (Sum.inr [(D.int 1)])
 else
 some (Sum.inl [(D.int (qbin BinOp.add IntKind.i64 sn0 1))])
 else
 none
 else
 none
 else
 some (Sum.inr [(D.int 0)]):=by
 have h:st24_2 [pd0] [(D.int sn0)] =
  bif (qiteB (qcmp BinOp.lss sn0 (qlen pd0)) (qcmp BinOp.lss sn0 30) Bool.false)then
  bif (qinb pd0 sn0)then
  bif (qsome (q20 [(qget pd0 sn0)]))then
  bif (qnot (qbool (qnth (q20 [(qget pd0 sn0)]) 0)))then
  bif (qeqD pd0 pd0)then
  some (Sum.inr [(D.int 1)])
  else
  none
  else
  bif (qeqD pd0 pd0)then
  some (Sum.inl [(D.int (qbin BinOp.add IntKind.i64 sn0 1))])
  else
  none
  else
  none
  else
  none
  else
  bif (qeqD pd0 pd0)then
  some (Sum.inr [(D.int 0)])
  else
  none:=by kernel_rfl
 rw[h];simp only[qeqD_self,qeqI_self,qeq_len,show qcmp BinOp.eql 0 (qlen (D.list []))=true from qeq_len [],show∀a,qcmp BinOp.eql 1 (qlen (D.list [a]))=true from fun a=>qeq_len [a],show∀a b,qcmp BinOp.eql 2 (qlen (D.list [a,b]))=true from fun a b=>qeq_len [a,b],show∀a b c,qcmp BinOp.eql 3 (qlen (D.list [a,b,c]))=true from fun a b c=>qeq_len [a,b,c],show∀a b c d,qcmp BinOp.eql 4 (qlen (D.list [a,b,c,d]))=true from fun a b c d=>qeq_len [a,b,c,d],cond_true]
noncomputable def l24_2:List D→List D→Option (List D):=veil fun p s=>loW (st24_2 p) s
theorem l24_2_eq:l24_2=fun p s=>loW (st24_2 p) s:=veil_eq _
noncomputable def tbl24_2:Tb:=Tb.addL tb62 24 2 S24_2.n0 (mkLp S24_2 (l24_2))
theorem ok_tbl24_2:TbOk env (tbl24_2):=addLoopQ ok_tb62 24 2 (by kernel_rfl) _ (l24_2_eq)
def S24:FunS:=⟨[⟨true,(.rows 58)⟩],[],[⟨true, .bool⟩],[]⟩
noncomputable def F24:List D→Option (List D):=liftX env tbl24_2 60 12 24 S24
theorem F24_eq (sd0:D):F24 [sd0] =
 bif (qsome (l24_2 [sd0] [(D.int 0)]))then
 bif (qcmp BinOp.eql (qint (qnth (l24_2 [sd0] [(D.int 0)]) 0)) 0)then
 some [(D.bool (qcmp BinOp.leq (qlen sd0) 20))]
 else
 some [(D.bool Bool.false)]
 else
 none:=by kernel_rfl
noncomputable def q24:List D→Option (List D):=veil (F24)
theorem q24_eq:q24=F24:=veil_eq _
noncomputable def tb24:Tb:=Tb.addF tbl24_2 24 S24 (q24)
theorem ok_tb24:TbOk env (tb24):=addFunF ok_tbl24_2 24 (by kernel_rfl) _ (q24_eq)
def S26:FunS:=⟨[⟨true,(.dat 71)⟩],[],[⟨true,(.dat 78)⟩],[]⟩
noncomputable def F26:List D→Option (List D):=liftX env tb24 60 12 26 S26
theorem F26_eq (sd0:D):F26 [sd0] =
 some [(D.agg [(D.int (qint (qfld sd0 0))),(D.str (qstr (qfld sd0 1))),(qfld sd0 2),(qfld sd0 3),(D.bool (qbool (qfld sd0 4)))])]:=by kernel_rfl
noncomputable def q26:List D→Option (List D):=veil (F26)
theorem q26_eq:q26=F26:=veil_eq _
noncomputable def tb26:Tb:=Tb.addF tb24 26 S26 (q26)
theorem ok_tb26:TbOk env (tb26):=addFunF ok_tb24 26 (by kernel_rfl) _ (q26_eq)
def S61:FunS:=⟨[⟨true,(.dat 64)⟩,⟨true,(.eptr [(.int .u32)])⟩],[],[⟨true, .bool⟩],[]⟩
noncomputable def F61:List D→Option (List D):=liftX env tb26 60 12 61 S61
theorem F61_eq (sd0:D) (sn1:Int):F61 [sd0,(D.int sn1)] =
 some [(D.bool (qcmp BinOp.eql (qint (qfld sd0 0)) sn1))]:=by kernel_rfl
noncomputable def q61:List D→Option (List D):=veil (F61)
theorem q61_eq:q61=F61:=veil_eq _
noncomputable def tb61:Tb:=Tb.addF tb26 61 S61 (q61)
theorem ok_tb61:TbOk env (tb61):=addFunF ok_tb26 61 (by kernel_rfl) _ (q61_eq)
def S60_61_2:LoopS:=⟨0,[⟨false,(.rows 64)⟩,⟨false,(.func 61 [] [(.eptr [(.int .u32)])])⟩,uF,uF,⟨false,(.lit (.int .i64 0))⟩,uF,uF,⟨false,(.int .i64)⟩,⟨true,(.int .i64)⟩,uF,uF,uF,uF,uF,uF,uF,uF,uF,uF],[],[⟨0,0,[⟨false,(.rows 64)⟩,⟨false,(.func 61 [] [(.eptr [(.int .u32)])])⟩,uT,uT,⟨true,(.lit (.int .i64 0))⟩,uT,uT,⟨false,(.int .i64)⟩,uT,uT,uT,uT,uT,uT,uT,uT,uT,uT,uT],[]⟩,⟨1,0,[⟨false,(.rows 64)⟩,⟨false,(.func 61 [] [(.eptr [(.int .u32)])])⟩,uT,uT,⟨true,(.int .i64)⟩,uT,uT,⟨false,(.int .i64)⟩,uT,uT,uT,uT,uT,uT,uT,uT,uT,uT,uT],[]⟩]⟩
noncomputable def st60_61_2 (p s:List D):Option (Sum (List D) (List D)):=stepQX env tb61 60 12 60 (loopC 60 2) S60_61_2 p s
theorem st60_61_2_eq (pd0:D) (pn1:Int) (pn2:Int) (sn0:Int):st60_61_2 [pd0,(D.int pn1),(D.int pn2)] [(D.int sn0)] =
 bif (qcmp BinOp.lss sn0 pn2)then
 bif (qinb pd0 sn0)then
 bif (qsome (q61 [(qget pd0 sn0),(D.int pn1)]))then
 bif (qbool (qnth (q61 [(qget pd0 sn0),(D.int pn1)]) 0))then
 some (Sum.inr [(D.int 1),(D.int sn0)])
 else
 some (Sum.inl [(D.int (qbin BinOp.add IntKind.i64 sn0 1))])
 else
 none
 else
 none
 else
 some (Sum.inr [(D.int 0)]):=by
 have h:st60_61_2 [pd0,(D.int pn1),(D.int pn2)] [(D.int sn0)] =
  bif (qcmp BinOp.lss sn0 pn2)then
  bif (qinb pd0 sn0)then
  bif (qsome (q61 [(qget pd0 sn0),(D.int pn1)]))then
  bif (qbool (qnth (q61 [(qget pd0 sn0),(D.int pn1)]) 0))then
  bif (qeqD pd0 pd0)then
  bif (qeqD (D.int pn1) (D.int pn1))then
  bif (qeqD (D.int pn2) (D.int pn2))then
  some (Sum.inr [(D.int 1),(D.int sn0)])
  else
  none
  else
  none
  else
  none
  else
  bif (qeqD pd0 pd0)then
  bif (qeqD (D.int pn1) (D.int pn1))then
  bif (qeqD (D.int pn2) (D.int pn2))then
  some (Sum.inl [(D.int (qbin BinOp.add IntKind.i64 sn0 1))])
  else
  none
  else
  none
  else
  none
  else
  none
  else
  none
  else
  bif (qeqD pd0 pd0)then
  bif (qeqD (D.int pn1) (D.int pn1))then
  bif (qeqD (D.int pn2) (D.int pn2))then
  some (Sum.inr [(D.int 0)])
  else
  none
  else
  none
  else
  none:=by kernel_rfl
 rw[h];simp only[qeqD_self,qeqI_self,qeq_len,show qcmp BinOp.eql 0 (qlen (D.list []))=true from qeq_len [],show∀a,qcmp BinOp.eql 1 (qlen (D.list [a]))=true from fun a=>qeq_len [a],show∀a b,qcmp BinOp.eql 2 (qlen (D.list [a,b]))=true from fun a b=>qeq_len [a,b],show∀a b c,qcmp BinOp.eql 3 (qlen (D.list [a,b,c]))=true from fun a b c=>qeq_len [a,b,c],show∀a b c d,qcmp BinOp.eql 4 (qlen (D.list [a,b,c,d]))=true from fun a b c d=>qeq_len [a,b,c,d],cond_true]
noncomputable def l60_61_2:List D→List D→Option (List D):=veil fun p s=>loW (st60_61_2 p) s
theorem l60_61_2_eq:l60_61_2=fun p s=>loW (st60_61_2 p) s:=veil_eq _
noncomputable def tbl60_61_2:Tb:=Tb.addL tb61 60 2 S60_61_2.n0 (mkLp S60_61_2 (l60_61_2))
theorem ok_tbl60_61_2:TbOk env (tbl60_61_2):=addLoopQ ok_tb61 60 2 (by kernel_rfl) _ (l60_61_2_eq)
def S60_61:FunS:=⟨[⟨true,(.rows 64)⟩,⟨true,(.func 61 [] [(.eptr [(.int .u32)])])⟩],[],[⟨true,(.int .i64)⟩],[]⟩
noncomputable def F60_61:List D→Option (List D):=liftX env tbl60_61_2 60 12 60 S60_61
theorem F60_61_eq (sd0:D) (sn1:Int):F60_61 [sd0,(D.int sn1)] =
 bif (qsome (l60_61_2 [sd0,(D.int sn1),(D.int (qlen sd0))] [(D.int 0)]))then
 bif (qcmp BinOp.eql (qint (qnth (l60_61_2 [sd0,(D.int sn1),(D.int (qlen sd0))] [(D.int 0)]) 0)) 0)then
 some [(D.int (-1))]
 else
 some [(D.int (qint (qnth (l60_61_2 [sd0,(D.int sn1),(D.int (qlen sd0))] [(D.int 0)]) 1)))]
 else
 none:=by kernel_rfl
noncomputable def q60_61:List D→Option (List D):=veil (F60_61)
theorem q60_61_eq:q60_61=F60_61:=veil_eq _
noncomputable def tb60_61:Tb:=Tb.addF tbl60_61_2 60 S60_61 (q60_61)
theorem ok_tb60_61:TbOk env (tb60_61):=addFunF ok_tbl60_61_2 60 (by kernel_rfl) _ (q60_61_eq)
end Go.Proofs.YtgklbalcneepoaaGreatDoor
open Go Go.AM
namespace Go.Proofs.YtgklbalcneepoaaGreatDoor
set_option maxRecDepth 100000
set_option linter.unusedSimpArgs false
set_option linter.unusedVariables false
def S25_3:LoopS:=⟨0,[⟨false,(.rows 64)⟩,uF,uF,⟨false,(.ptr 0 0)⟩,⟨false,(.ptr 1 0)⟩,⟨false,(.lit (.int .i64 0))⟩,⟨false,(.osl 2 22)⟩,uF,uF,uF,uF,uF,uF,uF,uF,uF,uF,uF,uF,uF,uF,uF,uF,uF,uF,⟨false,(.rows 22)⟩,⟨false,(.int .i64)⟩,⟨true,(.int .i64)⟩,uF,uF,uF,uF,uF,uF,uF,uF,uF,uF,uF,uF,uF,uF,uF,uF,uF,uF,uF,uF,uF,uF,uF,uF,uF,uF,uF,uF,uF,uF,uF,uF,uF,uF,uF,uF,uF,uF,uF,uF,uF,uF,uF,uF,uF,uF,uF,uF,uF,uF,uF,uF,uF,uF,uF,uF,uF,uF,uF,uF,uF,uF,uF,uF,uF,uF,uF,uF],[(.lst true 22),(.cells [⟨false,(.lit (.int .u32 0))⟩,⟨false,(.lit (.slice none 0 0))⟩]),(.dat false 78)],[⟨0,0,[⟨false,(.rows 64)⟩,uT,uT,⟨true,(.ptr 0 0)⟩,⟨true,(.ptr 1 0)⟩,⟨true,(.lit (.int .i64 0))⟩,⟨true,(.osl 2 22)⟩,uT,uT,uT,uT,uT,uT,uT,uT,uT,uT,uT,uT,uT,uT,uT,uT,uT,uT,⟨false,(.rows 22)⟩,⟨false,(.int .i64)⟩,uT,uT,uT,uT,uT,uT,uT,uT,uT,uT,uT,uT,uT,uT,uT,uT,uT,uT,uT,uT,uT,uT,uT,uT,uT,uT,uT,uT,uT,uT,uT,uT,uT,uT,uT,uT,uT,uT,uT,uT,uT,uT,uT,uT,uT,uT,uT,uT,uT,uT,uT,uT,uT,uT,uT,uT,uT,uT,uT,uT,uT,uT,uT,uT,uT,uT,uT,uT,uT],[(.lst true 22),(.cells [⟨true,(.lit (.int .u32 0))⟩,⟨true,(.lit (.slice none 0 0))⟩]),(.dat false 78)]⟩]⟩
noncomputable def st25_3 (p s:List D):Option (Sum (List D) (List D)):=stepQX env tb60_61 60 12 25 (loopC 25 3) S25_3 p s
theorem st25_3_eq (pd0:D) (pd1:D) (pn2:Int) (pd3:D) (sn0:Int) (sd1:D):st25_3 [pd0,pd1,(D.int pn2),pd3] [(D.int sn0),sd1] =
 bif (qcmp BinOp.lss sn0 pn2)then
 bif (qinb pd1 sn0)then
 bif (qcmp BinOp.neq (qint (qget pd1 sn0)) (qint (qfld pd3 0)))then
 bif (qmem (qlen (qapp sd1 (D.list [(D.int (qint (qget pd1 sn0)))]))) 4)then
 some (Sum.inl [(D.int (qbin BinOp.add IntKind.i64 sn0 1)),(qapp sd1 (D.list [(D.int (qint (qget pd1 sn0)))]))])
 else
 none
 else
 some (Sum.inl [(D.int (qbin BinOp.add IntKind.i64 sn0 1)),sd1])
 else
 none
 else
 some (Sum.inr [(D.int 0),sd1]):=by
 have h:st25_3 [pd0,pd1,(D.int pn2),pd3] [(D.int sn0),sd1] =
  bif (qcmp BinOp.lss sn0 pn2)then
  bif (qinb pd1 sn0)then
  bif (qcmp BinOp.neq (qint (qget pd1 sn0)) (qint (qfld pd3 0)))then
  bif (qcmp BinOp.eql (qlen sd1) (qlen sd1))then
  bif (qmem (qlen (qapp sd1 (D.list [(D.int (qint (qget pd1 sn0)))]))) 4)then
  bif (qcmp BinOp.eql (qlen (qapp sd1 (D.list [(D.int (qint (qget pd1 sn0)))]))) (qlen (qapp sd1 (D.list [(D.int (qint (qget pd1 sn0)))]))))then
  bif (qeqD pd0 pd0)then
  bif (qeqD pd1 pd1)then
  bif (qeqD (D.int pn2) (D.int pn2))then
  bif (qeqD pd3 pd3)then
  some (Sum.inl [(D.int (qbin BinOp.add IntKind.i64 sn0 1)),(qapp sd1 (D.list [(D.int (qint (qget pd1 sn0)))]))])
  else
  none
  else
  none
  else
  none
  else
  none
  else
  none
  else
  none
  else
  none
  else
  bif (qcmp BinOp.eql (qlen sd1) (qlen sd1))then
  bif (qeqD pd0 pd0)then
  bif (qeqD pd1 pd1)then
  bif (qeqD (D.int pn2) (D.int pn2))then
  bif (qeqD pd3 pd3)then
  some (Sum.inl [(D.int (qbin BinOp.add IntKind.i64 sn0 1)),sd1])
  else
  none
  else
  none
  else
  none
  else
  none
  else
  none
  else
  none
  else
  bif (qcmp BinOp.eql (qlen sd1) (qlen sd1))then
  bif (qeqD pd0 pd0)then
  bif (qeqD pd1 pd1)then
  bif (qeqD (D.int pn2) (D.int pn2))then
  bif (qeqD pd3 pd3)then
  some (Sum.inr [(D.int 0),sd1])
  else
  none
  else
  none
  else
  none
  else
  none
  else
  none:=by kernel_rfl
 rw[h];simp only[qeqD_self,qeqI_self,qeq_len,show qcmp BinOp.eql 0 (qlen (D.list []))=true from qeq_len [],show∀a,qcmp BinOp.eql 1 (qlen (D.list [a]))=true from fun a=>qeq_len [a],show∀a b,qcmp BinOp.eql 2 (qlen (D.list [a,b]))=true from fun a b=>qeq_len [a,b],show∀a b c,qcmp BinOp.eql 3 (qlen (D.list [a,b,c]))=true from fun a b c=>qeq_len [a,b,c],show∀a b c d,qcmp BinOp.eql 4 (qlen (D.list [a,b,c,d]))=true from fun a b c d=>qeq_len [a,b,c,d],cond_true]
noncomputable def l25_3:List D→List D→Option (List D):=veil fun p s=>loW (st25_3 p) s
theorem l25_3_eq:l25_3=fun p s=>loW (st25_3 p) s:=veil_eq _
noncomputable def tbl25_3:Tb:=Tb.addL tb60_61 25 3 S25_3.n0 (mkLp S25_3 (l25_3))
theorem ok_tbl25_3:TbOk env (tbl25_3):=addLoopQ ok_tb60_61 25 3 (by kernel_rfl) _ (l25_3_eq)
def S25_10:LoopS:=⟨0,[⟨false,(.rows 64)⟩,uF,uF,⟨false,(.ptr 0 0)⟩,⟨false,(.ptr 1 0)⟩,⟨false,(.lit (.int .i64 0))⟩,⟨false,(.osl 2 22)⟩,uF,uF,⟨false,(.osl 3 64)⟩,uF,uF,uF,uF,uF,uF,uF,uF,uF,uF,uF,uF,uF,uF,uF,uF,uF,uF,uF,uF,uF,uF,uF,uF,uF,uF,uF,uF,uF,uF,⟨false,(.osl 2 22)⟩,⟨false,(.int .i64)⟩,⟨true,(.int .i64)⟩,uF,uF,uF,uF,uF,uF,uF,uF,uF,uF,uF,uF,uF,uF,uF,uF,uF,uF,uF,uF,uF,uF,uF,uF,uF,uF,uF,uF,uF,uF,uF,uF,uF,uF,uF,uF,uF,uF,uF,uF,uF,uF,uF,uF,uF,uF,uF,uF,uF,uF,uF,uF,uF],[(.lst true 64),(.lst false 22),(.cells [⟨false,(.lit (.int .u32 0))⟩,⟨false,(.lit (.slice none 0 0))⟩]),(.dat false 78)],[⟨0,2,[⟨false,(.rows 64)⟩,uT,uT,⟨true,(.ptr 0 0)⟩,⟨true,(.ptr 1 0)⟩,⟨true,(.lit (.int .i64 0))⟩,⟨true,(.osl 2 22)⟩,uT,uT,⟨true,(.osl 3 64)⟩,uT,uT,uT,uT,uT,uT,uT,uT,uT,uT,uT,uT,uT,uT,uT,uT,uT,uT,uT,uT,uT,uT,uT,uT,uT,uT,uT,uT,uT,uT,uT,⟨false,(.int .i64)⟩,uT,uT,uT,uT,uT,uT,uT,uT,uT,uT,uT,uT,uT,uT,uT,uT,uT,uT,uT,uT,uT,uT,uT,uT,uT,uT,uT,uT,uT,uT,uT,uT,uT,uT,uT,uT,uT,uT,uT,uT,uT,uT,uT,uT,uT,uT,uT,uT,uT,uT,uT,uT,uT,uT],[(.lst true 64),(.lst false 22),(.cells [⟨true,(.lit (.int .u32 0))⟩,⟨true,(.lit (.slice none 0 0))⟩]),(.dat false 78)]⟩,⟨1,0,[⟨false,(.rows 64)⟩,uT,uT,uT,⟨true,(.ptr 1 0)⟩,⟨true,(.lit (.int .i64 9))⟩,uT,uT,uT,uT,uT,uT,uT,uT,uT,uT,uT,uT,uT,uT,uT,uT,uT,uT,uT,uT,uT,uT,uT,uT,uT,uT,uT,uT,uT,uT,uT,uT,uT,uT,uT,⟨false,(.int .i64)⟩,uT,uT,uT,uT,uT,uT,uT,uT,uT,uT,uT,uT,uT,uT,uT,uT,uT,uT,uT,uT,uT,uT,uT,uT,uT,uT,uT,uT,uT,uT,uT,uT,uT,uT,uT,uT,uT,uT,uT,uT,uT,uT,uT,uT,uT,uT,uT,uT,uT,uT,uT,uT,uT,uT],[.skip,(.lst false 22),(.cells [⟨true,(.lit (.int .u32 0))⟩,⟨true,(.lit (.slice none 0 0))⟩]),(.dat false 78)]⟩]⟩
noncomputable def st25_10 (p s:List D):Option (Sum (List D) (List D)):=stepQX env tbl25_3 60 12 25 (loopC 25 10) S25_10 p s
theorem st25_10_eq (pd0:D) (pn1:Int) (pd2:D) (pd3:D) (sn0:Int) (sd1:D):st25_10 [pd0,(D.int pn1),pd2,pd3] [(D.int sn0),sd1] =
 bif (qcmp BinOp.lss sn0 pn1)then
 bif (qcmp BinOp.leq 0 sn0)then
 bif (qcmp BinOp.lss sn0 (qlen pd2))then
 bif (qinb pd2 sn0)then
 bif (qsome (q60_61 [pd0,(D.int (qint (qget pd2 sn0)))]))then
 bif (qcmp BinOp.lss (qint (qnth (q60_61 [pd0,(D.int (qint (qget pd2 sn0)))]) 0)) 0)then
 some (Sum.inr [(D.int 1)])
 else
 bif (qinb pd0 (qint (qnth (q60_61 [pd0,(D.int (qint (qget pd2 sn0)))]) 0)))then
 bif (qmem (qlen (qapp sd1 (D.list [(D.agg [(D.int (qint (qfld (qget pd0 (qint (qnth (q60_61 [pd0,(D.int (qint (qget pd2 sn0)))]) 0))) 0))),(D.int (qint (qfld (qget pd0 (qint (qnth (q60_61 [pd0,(D.int (qint (qget pd2 sn0)))]) 0))) 1))),(qfld (qget pd0 (qint (qnth (q60_61 [pd0,(D.int (qint (qget pd2 sn0)))]) 0))) 2),(qfld (qget pd0 (qint (qnth (q60_61 [pd0,(D.int (qint (qget pd2 sn0)))]) 0))) 3),(qfld (qget pd0 (qint (qnth (q60_61 [pd0,(D.int (qint (qget pd2 sn0)))]) 0))) 4)])]))) 80)then
 some (Sum.inl [(D.int (qbin BinOp.add IntKind.i64 sn0 1)),(qapp sd1 (D.list [(D.agg [(D.int (qint (qfld (qget pd0 (qint (qnth (q60_61 [pd0,(D.int (qint (qget pd2 sn0)))]) 0))) 0))),(D.int (qint (qfld (qget pd0 (qint (qnth (q60_61 [pd0,(D.int (qint (qget pd2 sn0)))]) 0))) 1))),(qfld (qget pd0 (qint (qnth (q60_61 [pd0,(D.int (qint (qget pd2 sn0)))]) 0))) 2),(qfld (qget pd0 (qint (qnth (q60_61 [pd0,(D.int (qint (qget pd2 sn0)))]) 0))) 3),(qfld (qget pd0 (qint (qnth (q60_61 [pd0,(D.int (qint (qget pd2 sn0)))]) 0))) 4)])]))])
 else
 none
 else
 none
 else
 none
 else
 none
 else
 none
 else
 none
 else
 some (Sum.inr [(D.int 0),sd1]):=by
 have h:st25_10 [pd0,(D.int pn1),pd2,pd3] [(D.int sn0),sd1] =
  bif (qcmp BinOp.lss sn0 pn1)then
  bif (qcmp BinOp.leq 0 sn0)then
  bif (qcmp BinOp.lss sn0 (qlen pd2))then
  bif (qinb pd2 sn0)then
  bif (qsome (q60_61 [pd0,(D.int (qint (qget pd2 sn0)))]))then
  bif (qcmp BinOp.lss (qint (qnth (q60_61 [pd0,(D.int (qint (qget pd2 sn0)))]) 0)) 0)then
  bif (qeqD pd0 pd0)then
  bif (qeqD (D.int pn1) (D.int pn1))then
  bif (qeqD pd2 pd2)then
  bif (qeqD pd3 pd3)then
  some (Sum.inr [(D.int 1)])
  else
  none
  else
  none
  else
  none
  else
  none
  else
  bif (qinb pd0 (qint (qnth (q60_61 [pd0,(D.int (qint (qget pd2 sn0)))]) 0)))then
  bif (qcmp BinOp.eql (qlen sd1) (qlen sd1))then
  bif (qmem (qlen (qapp sd1 (D.list [(D.agg [(D.int (qint (qfld (qget pd0 (qint (qnth (q60_61 [pd0,(D.int (qint (qget pd2 sn0)))]) 0))) 0))),(D.int (qint (qfld (qget pd0 (qint (qnth (q60_61 [pd0,(D.int (qint (qget pd2 sn0)))]) 0))) 1))),(qfld (qget pd0 (qint (qnth (q60_61 [pd0,(D.int (qint (qget pd2 sn0)))]) 0))) 2),(qfld (qget pd0 (qint (qnth (q60_61 [pd0,(D.int (qint (qget pd2 sn0)))]) 0))) 3),(qfld (qget pd0 (qint (qnth (q60_61 [pd0,(D.int (qint (qget pd2 sn0)))]) 0))) 4)])]))) 80)then
  bif (qcmp BinOp.eql (qlen pd2) (qlen pd2))then
  bif (qcmp BinOp.eql (qlen (qapp sd1 (D.list [(D.agg [(D.int (qint (qfld (qget pd0 (qint (qnth (q60_61 [pd0,(D.int (qint (qget pd2 sn0)))]) 0))) 0))),(D.int (qint (qfld (qget pd0 (qint (qnth (q60_61 [pd0,(D.int (qint (qget pd2 sn0)))]) 0))) 1))),(qfld (qget pd0 (qint (qnth (q60_61 [pd0,(D.int (qint (qget pd2 sn0)))]) 0))) 2),(qfld (qget pd0 (qint (qnth (q60_61 [pd0,(D.int (qint (qget pd2 sn0)))]) 0))) 3),(qfld (qget pd0 (qint (qnth (q60_61 [pd0,(D.int (qint (qget pd2 sn0)))]) 0))) 4)])]))) (qlen (qapp sd1 (D.list [(D.agg [(D.int (qint (qfld (qget pd0 (qint (qnth (q60_61 [pd0,(D.int (qint (qget pd2 sn0)))]) 0))) 0))),(D.int (qint (qfld (qget pd0 (qint (qnth (q60_61 [pd0,(D.int (qint (qget pd2 sn0)))]) 0))) 1))),(qfld (qget pd0 (qint (qnth (q60_61 [pd0,(D.int (qint (qget pd2 sn0)))]) 0))) 2),(qfld (qget pd0 (qint (qnth (q60_61 [pd0,(D.int (qint (qget pd2 sn0)))]) 0))) 3),(qfld (qget pd0 (qint (qnth (q60_61 [pd0,(D.int (qint (qget pd2 sn0)))]) 0))) 4)])]))))then
  bif (qcmp BinOp.eql (qlen pd2) (qlen pd2))then
  bif (qeqD pd0 pd0)then
  bif (qeqD (D.int pn1) (D.int pn1))then
  bif (qeqD pd2 pd2)then
  bif (qeqD pd3 pd3)then
  some (Sum.inl [(D.int (qbin BinOp.add IntKind.i64 sn0 1)),(qapp sd1 (D.list [(D.agg [(D.int (qint (qfld (qget pd0 (qint (qnth (q60_61 [pd0,(D.int (qint (qget pd2 sn0)))]) 0))) 0))),(D.int (qint (qfld (qget pd0 (qint (qnth (q60_61 [pd0,(D.int (qint (qget pd2 sn0)))]) 0))) 1))),(qfld (qget pd0 (qint (qnth (q60_61 [pd0,(D.int (qint (qget pd2 sn0)))]) 0))) 2),(qfld (qget pd0 (qint (qnth (q60_61 [pd0,(D.int (qint (qget pd2 sn0)))]) 0))) 3),(qfld (qget pd0 (qint (qnth (q60_61 [pd0,(D.int (qint (qget pd2 sn0)))]) 0))) 4)])]))])
  else
  none
  else
  none
  else
  none
  else
  none
  else
  none
  else
  none
  else
  none
  else
  none
  else
  none
  else
  none
  else
  none
  else
  none
  else
  none
  else
  none
  else
  bif (qcmp BinOp.eql (qlen pd2) (qlen pd2))then
  bif (qcmp BinOp.eql (qlen sd1) (qlen sd1))then
  bif (qeqD pd0 pd0)then
  bif (qeqD (D.int pn1) (D.int pn1))then
  bif (qeqD pd2 pd2)then
  bif (qeqD pd3 pd3)then
  some (Sum.inr [(D.int 0),sd1])
  else
  none
  else
  none
  else
  none
  else
  none
  else
  none
  else
  none:=by kernel_rfl
 rw[h];simp only[qeqD_self,qeqI_self,qeq_len,show qcmp BinOp.eql 0 (qlen (D.list []))=true from qeq_len [],show∀a,qcmp BinOp.eql 1 (qlen (D.list [a]))=true from fun a=>qeq_len [a],show∀a b,qcmp BinOp.eql 2 (qlen (D.list [a,b]))=true from fun a b=>qeq_len [a,b],show∀a b c,qcmp BinOp.eql 3 (qlen (D.list [a,b,c]))=true from fun a b c=>qeq_len [a,b,c],show∀a b c d,qcmp BinOp.eql 4 (qlen (D.list [a,b,c,d]))=true from fun a b c d=>qeq_len [a,b,c,d],cond_true]
noncomputable def l25_10:List D→List D→Option (List D):=veil fun p s=>loW (st25_10 p) s
theorem l25_10_eq:l25_10=fun p s=>loW (st25_10 p) s:=veil_eq _
noncomputable def tbl25_10:Tb:=Tb.addL tbl25_3 25 10 S25_10.n0 (mkLp S25_10 (l25_10))
theorem ok_tbl25_10:TbOk env (tbl25_10):=addLoopQ ok_tbl25_3 25 10 (by kernel_rfl) _ (l25_10_eq)
def S25_20:LoopS:=⟨0,[uF,uF,uF,uF,⟨false,(.ptr 0 0)⟩,⟨false,(.lit (.int .i64 0))⟩,⟨false,(.rows 22)⟩,uF,uF,uF,uF,uF,uF,⟨false,(.ptr 1 0)⟩,⟨true,(.int .i64)⟩,uF,uF,uF,uF,uF,uF,uF,uF,uF,uF,uF,uF,uF,uF,uF,uF,uF,uF,uF,uF,uF,uF,uF,uF,uF,uF,uF,uF,uF,uF,uF,uF,uF,uF,uF,uF,uF,uF,uF,uF,uF,uF,uF,uF,uF,uF,uF,uF,⟨false,(.osl 3 64)⟩,⟨false,(.int .i64)⟩,⟨true,(.int .i64)⟩,uF,uF,uF,uF,uF,uF,uF,uF,uF,uF,uF,uF,uF,uF,uF,uF,uF,uF,uF,uF,uF,uF,uF,uF,uF,uF,uF,uF,uF,uF],[(.lst false 64),(.lst true 61),(.cells [⟨false,(.int .u32)⟩,⟨false,(.osl 2 61)⟩]),(.cells [⟨false,(.lit (.int .u32 0))⟩,⟨false,(.lit (.slice none 0 0))⟩])],[⟨0,4,[uT,uT,uT,uT,⟨true,(.ptr 0 0)⟩,⟨true,(.lit (.int .i64 0))⟩,⟨false,(.rows 22)⟩,uT,uT,uT,uT,uT,uT,⟨true,(.ptr 1 0)⟩,uT,uT,uT,uT,uT,uT,uT,uT,uT,uT,uT,uT,uT,uT,uT,uT,uT,uT,uT,uT,uT,uT,uT,uT,uT,uT,uT,uT,uT,uT,uT,uT,uT,uT,uT,uT,uT,uT,uT,uT,uT,uT,uT,uT,uT,uT,uT,uT,uT,uT,⟨false,(.int .i64)⟩,uT,uT,uT,uT,uT,uT,uT,uT,uT,uT,uT,uT,uT,uT,uT,uT,uT,uT,uT,uT,uT,uT,uT,uT,uT,uT,uT,uT,uT,uT,uT],[(.lst false 64),(.lst true 61),(.cells [⟨false,(.int .u32)⟩,⟨true,(.osl 2 61)⟩]),(.cells [⟨true,(.lit (.int .u32 0))⟩,⟨true,(.lit (.slice none 0 0))⟩])]⟩,⟨1,0,[uT,uT,uT,uT,⟨true,(.ptr 0 0)⟩,⟨true,(.int .i64)⟩,⟨false,(.rows 22)⟩,uT,uT,uT,uT,uT,uT,uT,uT,uT,uT,uT,uT,uT,uT,uT,uT,uT,uT,uT,uT,uT,uT,uT,uT,uT,uT,uT,uT,uT,uT,uT,uT,uT,uT,uT,uT,uT,uT,uT,uT,uT,uT,uT,uT,uT,uT,uT,uT,uT,uT,uT,uT,uT,uT,uT,uT,uT,⟨false,(.int .i64)⟩,uT,uT,uT,uT,uT,uT,uT,uT,uT,uT,uT,uT,uT,uT,uT,uT,uT,uT,uT,uT,uT,uT,uT,uT,uT,uT,uT,uT,uT,uT,uT],[(.lst false 64), .skip,(.cells [⟨false,(.int .u32)⟩,uT]),(.cells [⟨true,(.lit (.int .u32 0))⟩,⟨true,(.lit (.slice none 0 0))⟩])]⟩]⟩
noncomputable def st25_20 (p s:List D):Option (Sum (List D) (List D)):=stepQX env tbl25_10 60 12 25 (loopC 25 20) S25_20 p s
theorem st25_20_eq (pd0:D) (pn1:Int) (pd2:D) (pn3:Int) (sn0:Int) (sn1:Int) (sd2:D):st25_20 [pd0,(D.int pn1),pd2,(D.int pn3)] [(D.int sn0),(D.int sn1),sd2] =
 bif (qcmp BinOp.lss sn1 pn1)then
 bif (qcmp BinOp.leq 0 sn1)then
 bif (qcmp BinOp.lss sn1 (qlen pd2))then
 bif (qinb pd2 sn1)then
 bif (qsome (q21 [(qget pd2 sn1),pd0,(D.int sn0)]))then
 bif (qcmp BinOp.neq (qint (qnth (q21 [(qget pd2 sn1),pd0,(D.int sn0)]) 3)) 0)then
 some (Sum.inr [(D.int 1),(D.int (qint (qnth (q21 [(qget pd2 sn1),pd0,(D.int sn0)]) 3)))])
 else
 bif (qmem (qlen (qapp sd2 (D.list [(D.agg [(D.int (qint (qnth (q21 [(qget pd2 sn1),pd0,(D.int sn0)]) 0))),(qnth (q21 [(qget pd2 sn1),pd0,(D.int sn0)]) 1)])]))) 32)then
 some (Sum.inl [(D.int (qint (qnth (q21 [(qget pd2 sn1),pd0,(D.int sn0)]) 2))),(D.int (qbin BinOp.add IntKind.i64 sn1 1)),(qapp sd2 (D.list [(D.agg [(D.int (qint (qnth (q21 [(qget pd2 sn1),pd0,(D.int sn0)]) 0))),(qnth (q21 [(qget pd2 sn1),pd0,(D.int sn0)]) 1)])]))])
 else
 none
 else
 none
 else
 none
 else
 none
 else
 none
 else
 some (Sum.inr [(D.int 0),sd2]):=by
 have h:st25_20 [pd0,(D.int pn1),pd2,(D.int pn3)] [(D.int sn0),(D.int sn1),sd2] =
  bif (qcmp BinOp.lss sn1 pn1)then
  bif (qcmp BinOp.leq 0 sn1)then
  bif (qcmp BinOp.lss sn1 (qlen pd2))then
  bif (qinb pd2 sn1)then
  bif (qsome (q21 [(qget pd2 sn1),pd0,(D.int sn0)]))then
  bif (qcmp BinOp.neq (qint (qnth (q21 [(qget pd2 sn1),pd0,(D.int sn0)]) 3)) 0)then
  bif (qeqD pd0 pd0)then
  bif (qeqD (D.int pn1) (D.int pn1))then
  bif (qeqD pd2 pd2)then
  bif (qeqD (D.int pn3) (D.int pn3))then
  some (Sum.inr [(D.int 1),(D.int (qint (qnth (q21 [(qget pd2 sn1),pd0,(D.int sn0)]) 3)))])
  else
  none
  else
  none
  else
  none
  else
  none
  else
  bif (qcmp BinOp.eql (qlen sd2) (qlen sd2))then
  bif (qmem (qlen (qapp sd2 (D.list [(D.agg [(D.int (qint (qnth (q21 [(qget pd2 sn1),pd0,(D.int sn0)]) 0))),(qnth (q21 [(qget pd2 sn1),pd0,(D.int sn0)]) 1)])]))) 32)then
  bif (qcmp BinOp.eql (qlen pd2) (qlen pd2))then
  bif (qcmp BinOp.eql (qlen (qapp sd2 (D.list [(D.agg [(D.int (qint (qnth (q21 [(qget pd2 sn1),pd0,(D.int sn0)]) 0))),(qnth (q21 [(qget pd2 sn1),pd0,(D.int sn0)]) 1)])]))) (qlen (qapp sd2 (D.list [(D.agg [(D.int (qint (qnth (q21 [(qget pd2 sn1),pd0,(D.int sn0)]) 0))),(qnth (q21 [(qget pd2 sn1),pd0,(D.int sn0)]) 1)])]))))then
  bif (qeqD pd0 pd0)then
  bif (qeqD (D.int pn1) (D.int pn1))then
  bif (qeqD pd2 pd2)then
  bif (qeqD (D.int pn3) (D.int pn3))then
  some (Sum.inl [(D.int (qint (qnth (q21 [(qget pd2 sn1),pd0,(D.int sn0)]) 2))),(D.int (qbin BinOp.add IntKind.i64 sn1 1)),(qapp sd2 (D.list [(D.agg [(D.int (qint (qnth (q21 [(qget pd2 sn1),pd0,(D.int sn0)]) 0))),(qnth (q21 [(qget pd2 sn1),pd0,(D.int sn0)]) 1)])]))])
  else
  none
  else
  none
  else
  none
  else
  none
  else
  none
  else
  none
  else
  none
  else
  none
  else
  none
  else
  none
  else
  none
  else
  none
  else
  bif (qcmp BinOp.eql (qlen sd2) (qlen sd2))then
  bif (qeqD pd0 pd0)then
  bif (qeqD (D.int pn1) (D.int pn1))then
  bif (qeqD pd2 pd2)then
  bif (qeqD (D.int pn3) (D.int pn3))then
  some (Sum.inr [(D.int 0),sd2])
  else
  none
  else
  none
  else
  none
  else
  none
  else
  none:=by kernel_rfl
 rw[h];simp only[qeqD_self,qeqI_self,qeq_len,show qcmp BinOp.eql 0 (qlen (D.list []))=true from qeq_len [],show∀a,qcmp BinOp.eql 1 (qlen (D.list [a]))=true from fun a=>qeq_len [a],show∀a b,qcmp BinOp.eql 2 (qlen (D.list [a,b]))=true from fun a b=>qeq_len [a,b],show∀a b c,qcmp BinOp.eql 3 (qlen (D.list [a,b,c]))=true from fun a b c=>qeq_len [a,b,c],show∀a b c d,qcmp BinOp.eql 4 (qlen (D.list [a,b,c,d]))=true from fun a b c d=>qeq_len [a,b,c,d],cond_true]
noncomputable def l25_20:List D→List D→Option (List D):=veil fun p s=>loW (st25_20 p) s
theorem l25_20_eq:l25_20=fun p s=>loW (st25_20 p) s:=veil_eq _
noncomputable def tbl25_20:Tb:=Tb.addL tbl25_10 25 20 S25_20.n0 (mkLp S25_20 (l25_20))
theorem ok_tbl25_20:TbOk env (tbl25_20):=addLoopQ ok_tbl25_10 25 20 (by kernel_rfl) _ (l25_20_eq)
def S25:FunS:=⟨[⟨true,(.rows 64)⟩,⟨true,(.dat 78)⟩],[],[⟨true,(.tup [(.agg [(.int .u32),(.rows 61)]),(.int .i64)])⟩],[]⟩
noncomputable def F25:List D→Option (List D):=liftX env tbl25_20 60 12 25 S25
theorem F25_eq (sd0:D) (sd1:D):F25 [sd0,sd1] =
 bif (qsome (l25_3 [sd0,(qfld sd1 2),(D.int (qlen (qfld sd1 2))),sd1] [(D.int 0),(D.list [(D.int (qint (qfld sd1 0)))])]))then
 bif (qsome (l25_10 [sd0,(D.int (qlen (qnth (l25_3 [sd0,(qfld sd1 2),(D.int (qlen (qfld sd1 2))),sd1] [(D.int 0),(D.list [(D.int (qint (qfld sd1 0)))])]) 1))),(qnth (l25_3 [sd0,(qfld sd1 2),(D.int (qlen (qfld sd1 2))),sd1] [(D.int 0),(D.list [(D.int (qint (qfld sd1 0)))])]) 1),sd1] [(D.int 0),(D.list [])]))then
 bif (qcmp BinOp.eql (qint (qnth (l25_10 [sd0,(D.int (qlen (qnth (l25_3 [sd0,(qfld sd1 2),(D.int (qlen (qfld sd1 2))),sd1] [(D.int 0),(D.list [(D.int (qint (qfld sd1 0)))])]) 1))),(qnth (l25_3 [sd0,(qfld sd1 2),(D.int (qlen (qfld sd1 2))),sd1] [(D.int 0),(D.list [(D.int (qint (qfld sd1 0)))])]) 1),sd1] [(D.int 0),(D.list [])]) 0)) 0)then
 bif (qsome (l25_20 [(qnth (l25_3 [sd0,(qfld sd1 2),(D.int (qlen (qfld sd1 2))),sd1] [(D.int 0),(D.list [(D.int (qint (qfld sd1 0)))])]) 1),(D.int (qlen (qnth (l25_10 [sd0,(D.int (qlen (qnth (l25_3 [sd0,(qfld sd1 2),(D.int (qlen (qfld sd1 2))),sd1] [(D.int 0),(D.list [(D.int (qint (qfld sd1 0)))])]) 1))),(qnth (l25_3 [sd0,(qfld sd1 2),(D.int (qlen (qfld sd1 2))),sd1] [(D.int 0),(D.list [(D.int (qint (qfld sd1 0)))])]) 1),sd1] [(D.int 0),(D.list [])]) 1))),(qnth (l25_10 [sd0,(D.int (qlen (qnth (l25_3 [sd0,(qfld sd1 2),(D.int (qlen (qfld sd1 2))),sd1] [(D.int 0),(D.list [(D.int (qint (qfld sd1 0)))])]) 1))),(qnth (l25_3 [sd0,(qfld sd1 2),(D.int (qlen (qfld sd1 2))),sd1] [(D.int 0),(D.list [(D.int (qint (qfld sd1 0)))])]) 1),sd1] [(D.int 0),(D.list [])]) 1),(D.int (qint (qfld sd1 0)))] [(D.int 12),(D.int 0),(D.list [])]))then
 bif (qcmp BinOp.eql (qint (qnth (l25_20 [(qnth (l25_3 [sd0,(qfld sd1 2),(D.int (qlen (qfld sd1 2))),sd1] [(D.int 0),(D.list [(D.int (qint (qfld sd1 0)))])]) 1),(D.int (qlen (qnth (l25_10 [sd0,(D.int (qlen (qnth (l25_3 [sd0,(qfld sd1 2),(D.int (qlen (qfld sd1 2))),sd1] [(D.int 0),(D.list [(D.int (qint (qfld sd1 0)))])]) 1))),(qnth (l25_3 [sd0,(qfld sd1 2),(D.int (qlen (qfld sd1 2))),sd1] [(D.int 0),(D.list [(D.int (qint (qfld sd1 0)))])]) 1),sd1] [(D.int 0),(D.list [])]) 1))),(qnth (l25_10 [sd0,(D.int (qlen (qnth (l25_3 [sd0,(qfld sd1 2),(D.int (qlen (qfld sd1 2))),sd1] [(D.int 0),(D.list [(D.int (qint (qfld sd1 0)))])]) 1))),(qnth (l25_3 [sd0,(qfld sd1 2),(D.int (qlen (qfld sd1 2))),sd1] [(D.int 0),(D.list [(D.int (qint (qfld sd1 0)))])]) 1),sd1] [(D.int 0),(D.list [])]) 1),(D.int (qint (qfld sd1 0)))] [(D.int 12),(D.int 0),(D.list [])]) 0)) 0)then
 bif (qsome (q29 [(D.agg [(D.int (qint (qfld sd1 0))),(qnth (l25_20 [(qnth (l25_3 [sd0,(qfld sd1 2),(D.int (qlen (qfld sd1 2))),sd1] [(D.int 0),(D.list [(D.int (qint (qfld sd1 0)))])]) 1),(D.int (qlen (qnth (l25_10 [sd0,(D.int (qlen (qnth (l25_3 [sd0,(qfld sd1 2),(D.int (qlen (qfld sd1 2))),sd1] [(D.int 0),(D.list [(D.int (qint (qfld sd1 0)))])]) 1))),(qnth (l25_3 [sd0,(qfld sd1 2),(D.int (qlen (qfld sd1 2))),sd1] [(D.int 0),(D.list [(D.int (qint (qfld sd1 0)))])]) 1),sd1] [(D.int 0),(D.list [])]) 1))),(qnth (l25_10 [sd0,(D.int (qlen (qnth (l25_3 [sd0,(qfld sd1 2),(D.int (qlen (qfld sd1 2))),sd1] [(D.int 0),(D.list [(D.int (qint (qfld sd1 0)))])]) 1))),(qnth (l25_3 [sd0,(qfld sd1 2),(D.int (qlen (qfld sd1 2))),sd1] [(D.int 0),(D.list [(D.int (qint (qfld sd1 0)))])]) 1),sd1] [(D.int 0),(D.list [])]) 1),(D.int (qint (qfld sd1 0)))] [(D.int 12),(D.int 0),(D.list [])]) 1)])]))then
 bif (qcmp BinOp.neq (qint (qnth (q29 [(D.agg [(D.int (qint (qfld sd1 0))),(qnth (l25_20 [(qnth (l25_3 [sd0,(qfld sd1 2),(D.int (qlen (qfld sd1 2))),sd1] [(D.int 0),(D.list [(D.int (qint (qfld sd1 0)))])]) 1),(D.int (qlen (qnth (l25_10 [sd0,(D.int (qlen (qnth (l25_3 [sd0,(qfld sd1 2),(D.int (qlen (qfld sd1 2))),sd1] [(D.int 0),(D.list [(D.int (qint (qfld sd1 0)))])]) 1))),(qnth (l25_3 [sd0,(qfld sd1 2),(D.int (qlen (qfld sd1 2))),sd1] [(D.int 0),(D.list [(D.int (qint (qfld sd1 0)))])]) 1),sd1] [(D.int 0),(D.list [])]) 1))),(qnth (l25_10 [sd0,(D.int (qlen (qnth (l25_3 [sd0,(qfld sd1 2),(D.int (qlen (qfld sd1 2))),sd1] [(D.int 0),(D.list [(D.int (qint (qfld sd1 0)))])]) 1))),(qnth (l25_3 [sd0,(qfld sd1 2),(D.int (qlen (qfld sd1 2))),sd1] [(D.int 0),(D.list [(D.int (qint (qfld sd1 0)))])]) 1),sd1] [(D.int 0),(D.list [])]) 1),(D.int (qint (qfld sd1 0)))] [(D.int 12),(D.int 0),(D.list [])]) 1)])]) 0)) 0)then
 some [(D.int 0),(D.list []),(D.int (qint (qnth (q29 [(D.agg [(D.int (qint (qfld sd1 0))),(qnth (l25_20 [(qnth (l25_3 [sd0,(qfld sd1 2),(D.int (qlen (qfld sd1 2))),sd1] [(D.int 0),(D.list [(D.int (qint (qfld sd1 0)))])]) 1),(D.int (qlen (qnth (l25_10 [sd0,(D.int (qlen (qnth (l25_3 [sd0,(qfld sd1 2),(D.int (qlen (qfld sd1 2))),sd1] [(D.int 0),(D.list [(D.int (qint (qfld sd1 0)))])]) 1))),(qnth (l25_3 [sd0,(qfld sd1 2),(D.int (qlen (qfld sd1 2))),sd1] [(D.int 0),(D.list [(D.int (qint (qfld sd1 0)))])]) 1),sd1] [(D.int 0),(D.list [])]) 1))),(qnth (l25_10 [sd0,(D.int (qlen (qnth (l25_3 [sd0,(qfld sd1 2),(D.int (qlen (qfld sd1 2))),sd1] [(D.int 0),(D.list [(D.int (qint (qfld sd1 0)))])]) 1))),(qnth (l25_3 [sd0,(qfld sd1 2),(D.int (qlen (qfld sd1 2))),sd1] [(D.int 0),(D.list [(D.int (qint (qfld sd1 0)))])]) 1),sd1] [(D.int 0),(D.list [])]) 1),(D.int (qint (qfld sd1 0)))] [(D.int 12),(D.int 0),(D.list [])]) 1)])]) 0)))]
 else
 some [(D.int (qint (qfld sd1 0))),(qnth (l25_20 [(qnth (l25_3 [sd0,(qfld sd1 2),(D.int (qlen (qfld sd1 2))),sd1] [(D.int 0),(D.list [(D.int (qint (qfld sd1 0)))])]) 1),(D.int (qlen (qnth (l25_10 [sd0,(D.int (qlen (qnth (l25_3 [sd0,(qfld sd1 2),(D.int (qlen (qfld sd1 2))),sd1] [(D.int 0),(D.list [(D.int (qint (qfld sd1 0)))])]) 1))),(qnth (l25_3 [sd0,(qfld sd1 2),(D.int (qlen (qfld sd1 2))),sd1] [(D.int 0),(D.list [(D.int (qint (qfld sd1 0)))])]) 1),sd1] [(D.int 0),(D.list [])]) 1))),(qnth (l25_10 [sd0,(D.int (qlen (qnth (l25_3 [sd0,(qfld sd1 2),(D.int (qlen (qfld sd1 2))),sd1] [(D.int 0),(D.list [(D.int (qint (qfld sd1 0)))])]) 1))),(qnth (l25_3 [sd0,(qfld sd1 2),(D.int (qlen (qfld sd1 2))),sd1] [(D.int 0),(D.list [(D.int (qint (qfld sd1 0)))])]) 1),sd1] [(D.int 0),(D.list [])]) 1),(D.int (qint (qfld sd1 0)))] [(D.int 12),(D.int 0),(D.list [])]) 1),(D.int 0)]
 else
 none
 else
 some [(D.int 0),(D.list []),(D.int (qint (qnth (l25_20 [(qnth (l25_3 [sd0,(qfld sd1 2),(D.int (qlen (qfld sd1 2))),sd1] [(D.int 0),(D.list [(D.int (qint (qfld sd1 0)))])]) 1),(D.int (qlen (qnth (l25_10 [sd0,(D.int (qlen (qnth (l25_3 [sd0,(qfld sd1 2),(D.int (qlen (qfld sd1 2))),sd1] [(D.int 0),(D.list [(D.int (qint (qfld sd1 0)))])]) 1))),(qnth (l25_3 [sd0,(qfld sd1 2),(D.int (qlen (qfld sd1 2))),sd1] [(D.int 0),(D.list [(D.int (qint (qfld sd1 0)))])]) 1),sd1] [(D.int 0),(D.list [])]) 1))),(qnth (l25_10 [sd0,(D.int (qlen (qnth (l25_3 [sd0,(qfld sd1 2),(D.int (qlen (qfld sd1 2))),sd1] [(D.int 0),(D.list [(D.int (qint (qfld sd1 0)))])]) 1))),(qnth (l25_3 [sd0,(qfld sd1 2),(D.int (qlen (qfld sd1 2))),sd1] [(D.int 0),(D.list [(D.int (qint (qfld sd1 0)))])]) 1),sd1] [(D.int 0),(D.list [])]) 1),(D.int (qint (qfld sd1 0)))] [(D.int 12),(D.int 0),(D.list [])]) 1)))]
 else
 none
 else
 some [(D.int 0),(D.list []),(D.int 9)]
 else
 none
 else
 none:=by
 have h:F25 [sd0,sd1] =
  bif (qcmp BinOp.eql 1 (qlen (D.list [(D.int (qint (qfld sd1 0)))])))then
  bif (qsome (l25_3 [sd0,(qfld sd1 2),(D.int (qlen (qfld sd1 2))),sd1] [(D.int 0),(D.list [(D.int (qint (qfld sd1 0)))])]))then
  bif (qcmp BinOp.eql (qlen (qnth (l25_3 [sd0,(qfld sd1 2),(D.int (qlen (qfld sd1 2))),sd1] [(D.int 0),(D.list [(D.int (qint (qfld sd1 0)))])]) 1)) (qlen (qnth (l25_3 [sd0,(qfld sd1 2),(D.int (qlen (qfld sd1 2))),sd1] [(D.int 0),(D.list [(D.int (qint (qfld sd1 0)))])]) 1)))then
  bif (qcmp BinOp.eql 0 (qlen (D.list [])))then
  bif (qcmp BinOp.eql (qlen (qnth (l25_3 [sd0,(qfld sd1 2),(D.int (qlen (qfld sd1 2))),sd1] [(D.int 0),(D.list [(D.int (qint (qfld sd1 0)))])]) 1)) (qlen (qnth (l25_3 [sd0,(qfld sd1 2),(D.int (qlen (qfld sd1 2))),sd1] [(D.int 0),(D.list [(D.int (qint (qfld sd1 0)))])]) 1)))then
  bif (qsome (l25_10 [sd0,(D.int (qlen (qnth (l25_3 [sd0,(qfld sd1 2),(D.int (qlen (qfld sd1 2))),sd1] [(D.int 0),(D.list [(D.int (qint (qfld sd1 0)))])]) 1))),(qnth (l25_3 [sd0,(qfld sd1 2),(D.int (qlen (qfld sd1 2))),sd1] [(D.int 0),(D.list [(D.int (qint (qfld sd1 0)))])]) 1),sd1] [(D.int 0),(D.list [])]))then
  bif (qcmp BinOp.eql (qint (qnth (l25_10 [sd0,(D.int (qlen (qnth (l25_3 [sd0,(qfld sd1 2),(D.int (qlen (qfld sd1 2))),sd1] [(D.int 0),(D.list [(D.int (qint (qfld sd1 0)))])]) 1))),(qnth (l25_3 [sd0,(qfld sd1 2),(D.int (qlen (qfld sd1 2))),sd1] [(D.int 0),(D.list [(D.int (qint (qfld sd1 0)))])]) 1),sd1] [(D.int 0),(D.list [])]) 0)) 0)then
  bif (qcmp BinOp.eql (qlen (qnth (l25_3 [sd0,(qfld sd1 2),(D.int (qlen (qfld sd1 2))),sd1] [(D.int 0),(D.list [(D.int (qint (qfld sd1 0)))])]) 1)) (qlen (qnth (l25_3 [sd0,(qfld sd1 2),(D.int (qlen (qfld sd1 2))),sd1] [(D.int 0),(D.list [(D.int (qint (qfld sd1 0)))])]) 1)))then
  bif (qcmp BinOp.eql (qlen (qnth (l25_10 [sd0,(D.int (qlen (qnth (l25_3 [sd0,(qfld sd1 2),(D.int (qlen (qfld sd1 2))),sd1] [(D.int 0),(D.list [(D.int (qint (qfld sd1 0)))])]) 1))),(qnth (l25_3 [sd0,(qfld sd1 2),(D.int (qlen (qfld sd1 2))),sd1] [(D.int 0),(D.list [(D.int (qint (qfld sd1 0)))])]) 1),sd1] [(D.int 0),(D.list [])]) 1)) (qlen (qnth (l25_10 [sd0,(D.int (qlen (qnth (l25_3 [sd0,(qfld sd1 2),(D.int (qlen (qfld sd1 2))),sd1] [(D.int 0),(D.list [(D.int (qint (qfld sd1 0)))])]) 1))),(qnth (l25_3 [sd0,(qfld sd1 2),(D.int (qlen (qfld sd1 2))),sd1] [(D.int 0),(D.list [(D.int (qint (qfld sd1 0)))])]) 1),sd1] [(D.int 0),(D.list [])]) 1)))then
  bif (qcmp BinOp.eql 0 (qlen (D.list [])))then
  bif (qsome (l25_20 [(qnth (l25_3 [sd0,(qfld sd1 2),(D.int (qlen (qfld sd1 2))),sd1] [(D.int 0),(D.list [(D.int (qint (qfld sd1 0)))])]) 1),(D.int (qlen (qnth (l25_10 [sd0,(D.int (qlen (qnth (l25_3 [sd0,(qfld sd1 2),(D.int (qlen (qfld sd1 2))),sd1] [(D.int 0),(D.list [(D.int (qint (qfld sd1 0)))])]) 1))),(qnth (l25_3 [sd0,(qfld sd1 2),(D.int (qlen (qfld sd1 2))),sd1] [(D.int 0),(D.list [(D.int (qint (qfld sd1 0)))])]) 1),sd1] [(D.int 0),(D.list [])]) 1))),(qnth (l25_10 [sd0,(D.int (qlen (qnth (l25_3 [sd0,(qfld sd1 2),(D.int (qlen (qfld sd1 2))),sd1] [(D.int 0),(D.list [(D.int (qint (qfld sd1 0)))])]) 1))),(qnth (l25_3 [sd0,(qfld sd1 2),(D.int (qlen (qfld sd1 2))),sd1] [(D.int 0),(D.list [(D.int (qint (qfld sd1 0)))])]) 1),sd1] [(D.int 0),(D.list [])]) 1),(D.int (qint (qfld sd1 0)))] [(D.int 12),(D.int 0),(D.list [])]))then
  bif (qcmp BinOp.eql (qint (qnth (l25_20 [(qnth (l25_3 [sd0,(qfld sd1 2),(D.int (qlen (qfld sd1 2))),sd1] [(D.int 0),(D.list [(D.int (qint (qfld sd1 0)))])]) 1),(D.int (qlen (qnth (l25_10 [sd0,(D.int (qlen (qnth (l25_3 [sd0,(qfld sd1 2),(D.int (qlen (qfld sd1 2))),sd1] [(D.int 0),(D.list [(D.int (qint (qfld sd1 0)))])]) 1))),(qnth (l25_3 [sd0,(qfld sd1 2),(D.int (qlen (qfld sd1 2))),sd1] [(D.int 0),(D.list [(D.int (qint (qfld sd1 0)))])]) 1),sd1] [(D.int 0),(D.list [])]) 1))),(qnth (l25_10 [sd0,(D.int (qlen (qnth (l25_3 [sd0,(qfld sd1 2),(D.int (qlen (qfld sd1 2))),sd1] [(D.int 0),(D.list [(D.int (qint (qfld sd1 0)))])]) 1))),(qnth (l25_3 [sd0,(qfld sd1 2),(D.int (qlen (qfld sd1 2))),sd1] [(D.int 0),(D.list [(D.int (qint (qfld sd1 0)))])]) 1),sd1] [(D.int 0),(D.list [])]) 1),(D.int (qint (qfld sd1 0)))] [(D.int 12),(D.int 0),(D.list [])]) 0)) 0)then
  bif (qcmp BinOp.eql (qlen (qnth (l25_20 [(qnth (l25_3 [sd0,(qfld sd1 2),(D.int (qlen (qfld sd1 2))),sd1] [(D.int 0),(D.list [(D.int (qint (qfld sd1 0)))])]) 1),(D.int (qlen (qnth (l25_10 [sd0,(D.int (qlen (qnth (l25_3 [sd0,(qfld sd1 2),(D.int (qlen (qfld sd1 2))),sd1] [(D.int 0),(D.list [(D.int (qint (qfld sd1 0)))])]) 1))),(qnth (l25_3 [sd0,(qfld sd1 2),(D.int (qlen (qfld sd1 2))),sd1] [(D.int 0),(D.list [(D.int (qint (qfld sd1 0)))])]) 1),sd1] [(D.int 0),(D.list [])]) 1))),(qnth (l25_10 [sd0,(D.int (qlen (qnth (l25_3 [sd0,(qfld sd1 2),(D.int (qlen (qfld sd1 2))),sd1] [(D.int 0),(D.list [(D.int (qint (qfld sd1 0)))])]) 1))),(qnth (l25_3 [sd0,(qfld sd1 2),(D.int (qlen (qfld sd1 2))),sd1] [(D.int 0),(D.list [(D.int (qint (qfld sd1 0)))])]) 1),sd1] [(D.int 0),(D.list [])]) 1),(D.int (qint (qfld sd1 0)))] [(D.int 12),(D.int 0),(D.list [])]) 1)) (qlen (qnth (l25_20 [(qnth (l25_3 [sd0,(qfld sd1 2),(D.int (qlen (qfld sd1 2))),sd1] [(D.int 0),(D.list [(D.int (qint (qfld sd1 0)))])]) 1),(D.int (qlen (qnth (l25_10 [sd0,(D.int (qlen (qnth (l25_3 [sd0,(qfld sd1 2),(D.int (qlen (qfld sd1 2))),sd1] [(D.int 0),(D.list [(D.int (qint (qfld sd1 0)))])]) 1))),(qnth (l25_3 [sd0,(qfld sd1 2),(D.int (qlen (qfld sd1 2))),sd1] [(D.int 0),(D.list [(D.int (qint (qfld sd1 0)))])]) 1),sd1] [(D.int 0),(D.list [])]) 1))),(qnth (l25_10 [sd0,(D.int (qlen (qnth (l25_3 [sd0,(qfld sd1 2),(D.int (qlen (qfld sd1 2))),sd1] [(D.int 0),(D.list [(D.int (qint (qfld sd1 0)))])]) 1))),(qnth (l25_3 [sd0,(qfld sd1 2),(D.int (qlen (qfld sd1 2))),sd1] [(D.int 0),(D.list [(D.int (qint (qfld sd1 0)))])]) 1),sd1] [(D.int 0),(D.list [])]) 1),(D.int (qint (qfld sd1 0)))] [(D.int 12),(D.int 0),(D.list [])]) 1)))then
  bif (qsome (q29 [(D.agg [(D.int (qint (qfld sd1 0))),(qnth (l25_20 [(qnth (l25_3 [sd0,(qfld sd1 2),(D.int (qlen (qfld sd1 2))),sd1] [(D.int 0),(D.list [(D.int (qint (qfld sd1 0)))])]) 1),(D.int (qlen (qnth (l25_10 [sd0,(D.int (qlen (qnth (l25_3 [sd0,(qfld sd1 2),(D.int (qlen (qfld sd1 2))),sd1] [(D.int 0),(D.list [(D.int (qint (qfld sd1 0)))])]) 1))),(qnth (l25_3 [sd0,(qfld sd1 2),(D.int (qlen (qfld sd1 2))),sd1] [(D.int 0),(D.list [(D.int (qint (qfld sd1 0)))])]) 1),sd1] [(D.int 0),(D.list [])]) 1))),(qnth (l25_10 [sd0,(D.int (qlen (qnth (l25_3 [sd0,(qfld sd1 2),(D.int (qlen (qfld sd1 2))),sd1] [(D.int 0),(D.list [(D.int (qint (qfld sd1 0)))])]) 1))),(qnth (l25_3 [sd0,(qfld sd1 2),(D.int (qlen (qfld sd1 2))),sd1] [(D.int 0),(D.list [(D.int (qint (qfld sd1 0)))])]) 1),sd1] [(D.int 0),(D.list [])]) 1),(D.int (qint (qfld sd1 0)))] [(D.int 12),(D.int 0),(D.list [])]) 1)])]))then
  bif (qcmp BinOp.neq (qint (qnth (q29 [(D.agg [(D.int (qint (qfld sd1 0))),(qnth (l25_20 [(qnth (l25_3 [sd0,(qfld sd1 2),(D.int (qlen (qfld sd1 2))),sd1] [(D.int 0),(D.list [(D.int (qint (qfld sd1 0)))])]) 1),(D.int (qlen (qnth (l25_10 [sd0,(D.int (qlen (qnth (l25_3 [sd0,(qfld sd1 2),(D.int (qlen (qfld sd1 2))),sd1] [(D.int 0),(D.list [(D.int (qint (qfld sd1 0)))])]) 1))),(qnth (l25_3 [sd0,(qfld sd1 2),(D.int (qlen (qfld sd1 2))),sd1] [(D.int 0),(D.list [(D.int (qint (qfld sd1 0)))])]) 1),sd1] [(D.int 0),(D.list [])]) 1))),(qnth (l25_10 [sd0,(D.int (qlen (qnth (l25_3 [sd0,(qfld sd1 2),(D.int (qlen (qfld sd1 2))),sd1] [(D.int 0),(D.list [(D.int (qint (qfld sd1 0)))])]) 1))),(qnth (l25_3 [sd0,(qfld sd1 2),(D.int (qlen (qfld sd1 2))),sd1] [(D.int 0),(D.list [(D.int (qint (qfld sd1 0)))])]) 1),sd1] [(D.int 0),(D.list [])]) 1),(D.int (qint (qfld sd1 0)))] [(D.int 12),(D.int 0),(D.list [])]) 1)])]) 0)) 0)then
  some [(D.int 0),(D.list []),(D.int (qint (qnth (q29 [(D.agg [(D.int (qint (qfld sd1 0))),(qnth (l25_20 [(qnth (l25_3 [sd0,(qfld sd1 2),(D.int (qlen (qfld sd1 2))),sd1] [(D.int 0),(D.list [(D.int (qint (qfld sd1 0)))])]) 1),(D.int (qlen (qnth (l25_10 [sd0,(D.int (qlen (qnth (l25_3 [sd0,(qfld sd1 2),(D.int (qlen (qfld sd1 2))),sd1] [(D.int 0),(D.list [(D.int (qint (qfld sd1 0)))])]) 1))),(qnth (l25_3 [sd0,(qfld sd1 2),(D.int (qlen (qfld sd1 2))),sd1] [(D.int 0),(D.list [(D.int (qint (qfld sd1 0)))])]) 1),sd1] [(D.int 0),(D.list [])]) 1))),(qnth (l25_10 [sd0,(D.int (qlen (qnth (l25_3 [sd0,(qfld sd1 2),(D.int (qlen (qfld sd1 2))),sd1] [(D.int 0),(D.list [(D.int (qint (qfld sd1 0)))])]) 1))),(qnth (l25_3 [sd0,(qfld sd1 2),(D.int (qlen (qfld sd1 2))),sd1] [(D.int 0),(D.list [(D.int (qint (qfld sd1 0)))])]) 1),sd1] [(D.int 0),(D.list [])]) 1),(D.int (qint (qfld sd1 0)))] [(D.int 12),(D.int 0),(D.list [])]) 1)])]) 0)))]
  else
  bif (qcmp BinOp.eql (qlen (qnth (l25_20 [(qnth (l25_3 [sd0,(qfld sd1 2),(D.int (qlen (qfld sd1 2))),sd1] [(D.int 0),(D.list [(D.int (qint (qfld sd1 0)))])]) 1),(D.int (qlen (qnth (l25_10 [sd0,(D.int (qlen (qnth (l25_3 [sd0,(qfld sd1 2),(D.int (qlen (qfld sd1 2))),sd1] [(D.int 0),(D.list [(D.int (qint (qfld sd1 0)))])]) 1))),(qnth (l25_3 [sd0,(qfld sd1 2),(D.int (qlen (qfld sd1 2))),sd1] [(D.int 0),(D.list [(D.int (qint (qfld sd1 0)))])]) 1),sd1] [(D.int 0),(D.list [])]) 1))),(qnth (l25_10 [sd0,(D.int (qlen (qnth (l25_3 [sd0,(qfld sd1 2),(D.int (qlen (qfld sd1 2))),sd1] [(D.int 0),(D.list [(D.int (qint (qfld sd1 0)))])]) 1))),(qnth (l25_3 [sd0,(qfld sd1 2),(D.int (qlen (qfld sd1 2))),sd1] [(D.int 0),(D.list [(D.int (qint (qfld sd1 0)))])]) 1),sd1] [(D.int 0),(D.list [])]) 1),(D.int (qint (qfld sd1 0)))] [(D.int 12),(D.int 0),(D.list [])]) 1)) (qlen (qnth (l25_20 [(qnth (l25_3 [sd0,(qfld sd1 2),(D.int (qlen (qfld sd1 2))),sd1] [(D.int 0),(D.list [(D.int (qint (qfld sd1 0)))])]) 1),(D.int (qlen (qnth (l25_10 [sd0,(D.int (qlen (qnth (l25_3 [sd0,(qfld sd1 2),(D.int (qlen (qfld sd1 2))),sd1] [(D.int 0),(D.list [(D.int (qint (qfld sd1 0)))])]) 1))),(qnth (l25_3 [sd0,(qfld sd1 2),(D.int (qlen (qfld sd1 2))),sd1] [(D.int 0),(D.list [(D.int (qint (qfld sd1 0)))])]) 1),sd1] [(D.int 0),(D.list [])]) 1))),(qnth (l25_10 [sd0,(D.int (qlen (qnth (l25_3 [sd0,(qfld sd1 2),(D.int (qlen (qfld sd1 2))),sd1] [(D.int 0),(D.list [(D.int (qint (qfld sd1 0)))])]) 1))),(qnth (l25_3 [sd0,(qfld sd1 2),(D.int (qlen (qfld sd1 2))),sd1] [(D.int 0),(D.list [(D.int (qint (qfld sd1 0)))])]) 1),sd1] [(D.int 0),(D.list [])]) 1),(D.int (qint (qfld sd1 0)))] [(D.int 12),(D.int 0),(D.list [])]) 1)))then
  some [(D.int (qint (qfld sd1 0))),(qnth (l25_20 [(qnth (l25_3 [sd0,(qfld sd1 2),(D.int (qlen (qfld sd1 2))),sd1] [(D.int 0),(D.list [(D.int (qint (qfld sd1 0)))])]) 1),(D.int (qlen (qnth (l25_10 [sd0,(D.int (qlen (qnth (l25_3 [sd0,(qfld sd1 2),(D.int (qlen (qfld sd1 2))),sd1] [(D.int 0),(D.list [(D.int (qint (qfld sd1 0)))])]) 1))),(qnth (l25_3 [sd0,(qfld sd1 2),(D.int (qlen (qfld sd1 2))),sd1] [(D.int 0),(D.list [(D.int (qint (qfld sd1 0)))])]) 1),sd1] [(D.int 0),(D.list [])]) 1))),(qnth (l25_10 [sd0,(D.int (qlen (qnth (l25_3 [sd0,(qfld sd1 2),(D.int (qlen (qfld sd1 2))),sd1] [(D.int 0),(D.list [(D.int (qint (qfld sd1 0)))])]) 1))),(qnth (l25_3 [sd0,(qfld sd1 2),(D.int (qlen (qfld sd1 2))),sd1] [(D.int 0),(D.list [(D.int (qint (qfld sd1 0)))])]) 1),sd1] [(D.int 0),(D.list [])]) 1),(D.int (qint (qfld sd1 0)))] [(D.int 12),(D.int 0),(D.list [])]) 1),(D.int 0)]
  else
  none
  else
  none
  else
  none
  else
  some [(D.int 0),(D.list []),(D.int (qint (qnth (l25_20 [(qnth (l25_3 [sd0,(qfld sd1 2),(D.int (qlen (qfld sd1 2))),sd1] [(D.int 0),(D.list [(D.int (qint (qfld sd1 0)))])]) 1),(D.int (qlen (qnth (l25_10 [sd0,(D.int (qlen (qnth (l25_3 [sd0,(qfld sd1 2),(D.int (qlen (qfld sd1 2))),sd1] [(D.int 0),(D.list [(D.int (qint (qfld sd1 0)))])]) 1))),(qnth (l25_3 [sd0,(qfld sd1 2),(D.int (qlen (qfld sd1 2))),sd1] [(D.int 0),(D.list [(D.int (qint (qfld sd1 0)))])]) 1),sd1] [(D.int 0),(D.list [])]) 1))),(qnth (l25_10 [sd0,(D.int (qlen (qnth (l25_3 [sd0,(qfld sd1 2),(D.int (qlen (qfld sd1 2))),sd1] [(D.int 0),(D.list [(D.int (qint (qfld sd1 0)))])]) 1))),(qnth (l25_3 [sd0,(qfld sd1 2),(D.int (qlen (qfld sd1 2))),sd1] [(D.int 0),(D.list [(D.int (qint (qfld sd1 0)))])]) 1),sd1] [(D.int 0),(D.list [])]) 1),(D.int (qint (qfld sd1 0)))] [(D.int 12),(D.int 0),(D.list [])]) 1)))]
  else
  none
  else
  none
  else
  none
  else
  none
  else
  some [(D.int 0),(D.list []),(D.int 9)]
  else
  none
  else
  none
  else
  none
  else
  none
  else
  none
  else
  none:=by kernel_rfl
 rw[h];simp only[qeqD_self,qeqI_self,qeq_len,show qcmp BinOp.eql 0 (qlen (D.list []))=true from qeq_len [],show∀a,qcmp BinOp.eql 1 (qlen (D.list [a]))=true from fun a=>qeq_len [a],show∀a b,qcmp BinOp.eql 2 (qlen (D.list [a,b]))=true from fun a b=>qeq_len [a,b],show∀a b c,qcmp BinOp.eql 3 (qlen (D.list [a,b,c]))=true from fun a b c=>qeq_len [a,b,c],show∀a b c d,qcmp BinOp.eql 4 (qlen (D.list [a,b,c,d]))=true from fun a b c d=>qeq_len [a,b,c,d],cond_true]
noncomputable def q25:List D→Option (List D):=veil (F25)
theorem q25_eq:q25=F25:=veil_eq _
noncomputable def tb25:Tb:=Tb.addF tbl25_20 25 S25 (q25)
theorem ok_tb25:TbOk env (tb25):=addFunF ok_tbl25_20 25 (by kernel_rfl) _ (q25_eq)
def S27_3:LoopS:=⟨0,[⟨false,(.rows 58)⟩,uF,uF,⟨false,(.ptr 0 0)⟩,⟨false,(.ptr 1 0)⟩,⟨false,(.lit (.int .i64 0))⟩,⟨false,(.osl 2 22)⟩,⟨true,(.int .i64)⟩,uF,uF,uF,uF,uF,uF,uF,uF,uF,uF,uF,uF,uF,uF,uF,uF,uF,uF,uF,uF,uF,uF,uF,uF,uF,uF,uF,uF,uF,uF,uF,uF,uF,uF,uF,uF,uF,uF,uF,uF,uF,uF,uF,uF,uF,uF,uF,uF,uF,uF,uF,uF,uF,uF,uF,uF,uF,uF,uF,uF,uF,uF,uF,uF,uF,uF,uF,uF,uF,uF,uF,uF,uF,uF,uF,uF,uF,uF,uF,uF,uF,uF,uF,uF,uF,uF,uF,uF],[(.lst true 22),(.cells [⟨false,(.lit (.int .u32 0))⟩,⟨false,(.lit (.slice none 0 0))⟩]),(.dat false 71)],[⟨0,0,[⟨false,(.rows 58)⟩,uT,uT,⟨true,(.ptr 0 0)⟩,⟨true,(.ptr 1 0)⟩,⟨true,(.lit (.int .i64 0))⟩,⟨true,(.osl 2 22)⟩,uT,uT,uT,uT,uT,uT,uT,uT,uT,uT,uT,uT,uT,uT,uT,uT,uT,uT,uT,uT,uT,uT,uT,uT,uT,uT,uT,uT,uT,uT,uT,uT,uT,uT,uT,uT,uT,uT,uT,uT,uT,uT,uT,uT,uT,uT,uT,uT,uT,uT,uT,uT,uT,uT,uT,uT,uT,uT,uT,uT,uT,uT,uT,uT,uT,uT,uT,uT,uT,uT,uT,uT,uT,uT,uT,uT,uT,uT,uT,uT,uT,uT,uT,uT,uT,uT,uT,uT,uT],[(.lst true 22),(.cells [⟨true,(.lit (.int .u32 0))⟩,⟨true,(.lit (.slice none 0 0))⟩]),(.dat false 71)]⟩]⟩
noncomputable def st27_3 (p s:List D):Option (Sum (List D) (List D)):=stepQX env tb25 60 12 27 (loopC 27 3) S27_3 p s
theorem st27_3_eq (pd0:D) (pd1:D) (sn0:Int) (sd1:D):st27_3 [pd0,pd1] [(D.int sn0),sd1] =
 bif (qcmp BinOp.lss sn0 (qlen (qfld pd1 2)))then
 bif (qinb (qfld pd1 2) sn0)then
 bif (qcmp BinOp.neq (qint (qget (qfld pd1 2) sn0)) (qint (qfld pd1 0)))then
 bif (qinb (qfld pd1 2) sn0)then
 bif (qmem (qlen (qapp sd1 (D.list [(D.int (qint (qget (qfld pd1 2) sn0)))]))) 4)then
 some (Sum.inl [(D.int (qbin BinOp.add IntKind.i64 sn0 1)),(qapp sd1 (D.list [(D.int (qint (qget (qfld pd1 2) sn0)))]))])
 else
 none
 else
 none
 else
 some (Sum.inl [(D.int (qbin BinOp.add IntKind.i64 sn0 1)),sd1])
 else
 none
 else
 some (Sum.inr [(D.int 0),sd1]):=by
 have h:st27_3 [pd0,pd1] [(D.int sn0),sd1] =
  bif (qcmp BinOp.lss sn0 (qlen (qfld pd1 2)))then
  bif (qinb (qfld pd1 2) sn0)then
  bif (qcmp BinOp.neq (qint (qget (qfld pd1 2) sn0)) (qint (qfld pd1 0)))then
  bif (qinb (qfld pd1 2) sn0)then
  bif (qcmp BinOp.eql (qlen sd1) (qlen sd1))then
  bif (qmem (qlen (qapp sd1 (D.list [(D.int (qint (qget (qfld pd1 2) sn0)))]))) 4)then
  bif (qcmp BinOp.eql (qlen (qapp sd1 (D.list [(D.int (qint (qget (qfld pd1 2) sn0)))]))) (qlen (qapp sd1 (D.list [(D.int (qint (qget (qfld pd1 2) sn0)))]))))then
  bif (qeqD pd0 pd0)then
  bif (qeqD pd1 pd1)then
  some (Sum.inl [(D.int (qbin BinOp.add IntKind.i64 sn0 1)),(qapp sd1 (D.list [(D.int (qint (qget (qfld pd1 2) sn0)))]))])
  else
  none
  else
  none
  else
  none
  else
  none
  else
  none
  else
  none
  else
  bif (qcmp BinOp.eql (qlen sd1) (qlen sd1))then
  bif (qeqD pd0 pd0)then
  bif (qeqD pd1 pd1)then
  some (Sum.inl [(D.int (qbin BinOp.add IntKind.i64 sn0 1)),sd1])
  else
  none
  else
  none
  else
  none
  else
  none
  else
  bif (qcmp BinOp.eql (qlen sd1) (qlen sd1))then
  bif (qeqD pd0 pd0)then
  bif (qeqD pd1 pd1)then
  some (Sum.inr [(D.int 0),sd1])
  else
  none
  else
  none
  else
  none:=by kernel_rfl
 rw[h];simp only[qeqD_self,qeqI_self,qeq_len,show qcmp BinOp.eql 0 (qlen (D.list []))=true from qeq_len [],show∀a,qcmp BinOp.eql 1 (qlen (D.list [a]))=true from fun a=>qeq_len [a],show∀a b,qcmp BinOp.eql 2 (qlen (D.list [a,b]))=true from fun a b=>qeq_len [a,b],show∀a b c,qcmp BinOp.eql 3 (qlen (D.list [a,b,c]))=true from fun a b c=>qeq_len [a,b,c],show∀a b c d,qcmp BinOp.eql 4 (qlen (D.list [a,b,c,d]))=true from fun a b c d=>qeq_len [a,b,c,d],cond_true]
noncomputable def l27_3:List D→List D→Option (List D):=veil fun p s=>loW (st27_3 p) s
theorem l27_3_eq:l27_3=fun p s=>loW (st27_3 p) s:=veil_eq _
noncomputable def tbl27_3:Tb:=Tb.addL tb25 27 3 S27_3.n0 (mkLp S27_3 (l27_3))
theorem ok_tbl27_3:TbOk env (tbl27_3):=addLoopQ ok_tb25 27 3 (by kernel_rfl) _ (l27_3_eq)
def S27_9:LoopS:=⟨0,[⟨false,(.rows 58)⟩,uF,uF,uF,⟨false,(.ptr 0 0)⟩,⟨false,(.lit (.int .i64 0))⟩,⟨false,(.osl 1 22)⟩,uF,⟨false,(.ptr 2 0)⟩,⟨true,(.int .i64)⟩,uF,uF,uF,uF,uF,uF,uF,uF,uF,uF,uF,uF,uF,uF,uF,uF,uF,uF,uF,uF,uF,uF,uF,uF,uF,uF,uF,uF,uF,uF,uF,uF,uF,uF,uF,uF,uF,uF,uF,uF,uF,uF,uF,uF,uF,uF,uF,uF,uF,uF,uF,uF,uF,uF,uF,uF,uF,uF,uF,uF,uF,uF,uF,uF,uF,uF,uF,uF,uF,uF,uF,uF,uF,uF,uF,uF,uF,uF,uF,uF,uF,uF,uF,uF,uF,uF],[(.cells [⟨false,(.int .u32)⟩,⟨false,(.lit (.slice none 0 0))⟩]),(.lst false 22),(.cells [⟨false,(.lit (.int .u32 0))⟩,⟨false,(.lit (.slice none 0 0))⟩])],[⟨0,2,[⟨false,(.rows 58)⟩,uT,uT,uT,⟨true,(.ptr 0 0)⟩,⟨true,(.lit (.int .i64 0))⟩,⟨true,(.osl 1 22)⟩,uT,⟨true,(.ptr 2 0)⟩,uT,uT,uT,uT,uT,uT,uT,uT,uT,uT,uT,uT,uT,uT,uT,uT,uT,uT,uT,uT,uT,uT,uT,uT,uT,uT,uT,uT,uT,uT,uT,uT,uT,uT,uT,uT,uT,uT,uT,uT,uT,uT,uT,uT,uT,uT,uT,uT,uT,uT,uT,uT,uT,uT,uT,uT,uT,uT,uT,uT,uT,uT,uT,uT,uT,uT,uT,uT,uT,uT,uT,uT,uT,uT,uT,uT,uT,uT,uT,uT,uT,uT,uT,uT,uT,uT,uT],[(.cells [⟨false,(.int .u32)⟩,⟨true,(.lit (.slice none 0 0))⟩]),(.lst false 22),(.cells [⟨true,(.lit (.int .u32 0))⟩,⟨true,(.lit (.slice none 0 0))⟩])]⟩,⟨1,0,[⟨false,(.rows 58)⟩,uT,uT,uT,⟨true,(.ptr 0 0)⟩,⟨true,(.lit (.int .i64 9))⟩,uT,uT,uT,uT,uT,uT,uT,uT,uT,uT,uT,uT,uT,uT,uT,uT,uT,uT,uT,uT,uT,uT,uT,uT,uT,uT,uT,uT,uT,uT,uT,uT,uT,uT,uT,uT,uT,uT,uT,uT,uT,uT,uT,uT,uT,uT,uT,uT,uT,uT,uT,uT,uT,uT,uT,uT,uT,uT,uT,uT,uT,uT,uT,uT,uT,uT,uT,uT,uT,uT,uT,uT,uT,uT,uT,uT,uT,uT,uT,uT,uT,uT,uT,uT,uT,uT,uT,uT,uT,uT],[(.cells [⟨false,(.int .u32)⟩,uT]),(.lst false 22),(.cells [⟨true,(.lit (.int .u32 0))⟩,⟨true,(.lit (.slice none 0 0))⟩])]⟩]⟩
noncomputable def st27_9 (p s:List D):Option (Sum (List D) (List D)):=stepQX env tbl27_3 60 12 27 (loopC 27 9) S27_9 p s
theorem st27_9_eq (pd0:D) (pn1:Int) (pd2:D) (sn0:Int):st27_9 [pd0,(D.int pn1),pd2] [(D.int sn0)] =
 bif (qcmp BinOp.lss sn0 (qlen pd2))then
 bif (qcmp BinOp.leq 0 sn0)then
 bif (qcmp BinOp.lss sn0 (qlen pd2))then
 bif (qinb pd2 sn0)then
 bif (qsome (q62 [pd0,(D.int (qint (qget pd2 sn0)))]))then
 bif (qcmp BinOp.lss (qint (qnth (q62 [pd0,(D.int (qint (qget pd2 sn0)))]) 0)) 0)then
 some (Sum.inr [(D.int 1)])
 else
 some (Sum.inl [(D.int (qbin BinOp.add IntKind.i64 sn0 1))])
 else
 none
 else
 none
 else
 none
 else
 none
 else
 some (Sum.inr [(D.int 0)]):=by
 have h:st27_9 [pd0,(D.int pn1),pd2] [(D.int sn0)] =
  bif (qcmp BinOp.lss sn0 (qlen pd2))then
  bif (qcmp BinOp.leq 0 sn0)then
  bif (qcmp BinOp.lss sn0 (qlen pd2))then
  bif (qinb pd2 sn0)then
  bif (qsome (q62 [pd0,(D.int (qint (qget pd2 sn0)))]))then
  bif (qcmp BinOp.lss (qint (qnth (q62 [pd0,(D.int (qint (qget pd2 sn0)))]) 0)) 0)then
  bif (qeqD pd0 pd0)then
  bif (qeqD (D.int pn1) (D.int pn1))then
  bif (qeqD pd2 pd2)then
  some (Sum.inr [(D.int 1)])
  else
  none
  else
  none
  else
  none
  else
  bif (qcmp BinOp.eql (qlen pd2) (qlen pd2))then
  bif (qeqD pd0 pd0)then
  bif (qeqD (D.int pn1) (D.int pn1))then
  bif (qeqD pd2 pd2)then
  some (Sum.inl [(D.int (qbin BinOp.add IntKind.i64 sn0 1))])
  else
  none
  else
  none
  else
  none
  else
  none
  else
  none
  else
  none
  else
  none
  else
  none
  else
  bif (qcmp BinOp.eql (qlen pd2) (qlen pd2))then
  bif (qeqD pd0 pd0)then
  bif (qeqD (D.int pn1) (D.int pn1))then
  bif (qeqD pd2 pd2)then
  some (Sum.inr [(D.int 0)])
  else
  none
  else
  none
  else
  none
  else
  none:=by kernel_rfl
 rw[h];simp only[qeqD_self,qeqI_self,qeq_len,show qcmp BinOp.eql 0 (qlen (D.list []))=true from qeq_len [],show∀a,qcmp BinOp.eql 1 (qlen (D.list [a]))=true from fun a=>qeq_len [a],show∀a b,qcmp BinOp.eql 2 (qlen (D.list [a,b]))=true from fun a b=>qeq_len [a,b],show∀a b c,qcmp BinOp.eql 3 (qlen (D.list [a,b,c]))=true from fun a b c=>qeq_len [a,b,c],show∀a b c d,qcmp BinOp.eql 4 (qlen (D.list [a,b,c,d]))=true from fun a b c d=>qeq_len [a,b,c,d],cond_true]
noncomputable def l27_9:List D→List D→Option (List D):=veil fun p s=>loW (st27_9 p) s
theorem l27_9_eq:l27_9=fun p s=>loW (st27_9 p) s:=veil_eq _
noncomputable def tbl27_9:Tb:=Tb.addL tbl27_3 27 9 S27_9.n0 (mkLp S27_9 (l27_9))
theorem ok_tbl27_9:TbOk env (tbl27_9):=addLoopQ ok_tbl27_3 27 9 (by kernel_rfl) _ (l27_9_eq)
def S27_14:LoopS:=⟨0,[⟨false,(.rows 58)⟩,uF,uF,uF,⟨false,(.ptr 0 0)⟩,⟨false,(.lit (.int .i64 0))⟩,⟨false,(.rows 22)⟩,uF,⟨false,(.ptr 1 0)⟩,uF,⟨true,(.int .i64)⟩,uF,uF,uF,uF,uF,uF,uF,uF,uF,uF,uF,uF,uF,uF,uF,uF,uF,uF,uF,uF,uF,uF,uF,uF,uF,uF,uF,uF,uF,uF,uF,uF,uF,uF,uF,uF,uF,uF,uF,uF,uF,uF,uF,uF,uF,uF,uF,uF,uF,uF,uF,uF,uF,uF,uF,uF,uF,uF,uF,uF,uF,uF,uF,uF,uF,uF,uF,uF,uF,uF,uF,uF,uF,uF,uF,uF,uF,uF,uF,uF,uF,uF,uF,uF,uF],[(.lst true 61),(.cells [⟨false,(.int .u32)⟩,⟨false,(.osl 2 61)⟩]),(.cells [⟨false,(.lit (.int .u32 0))⟩,⟨false,(.lit (.slice none 0 0))⟩])],[⟨0,4,[⟨false,(.rows 58)⟩,uT,uT,uT,⟨true,(.ptr 0 0)⟩,⟨true,(.lit (.int .i64 0))⟩,⟨false,(.rows 22)⟩,uT,⟨true,(.ptr 1 0)⟩,uT,uT,uT,uT,uT,uT,uT,uT,uT,uT,uT,uT,uT,uT,uT,uT,uT,uT,uT,uT,uT,uT,uT,uT,uT,uT,uT,uT,uT,uT,uT,uT,uT,uT,uT,uT,uT,uT,uT,uT,uT,uT,uT,uT,uT,uT,uT,uT,uT,uT,uT,uT,uT,uT,uT,uT,uT,uT,uT,uT,uT,uT,uT,uT,uT,uT,uT,uT,uT,uT,uT,uT,uT,uT,uT,uT,uT,uT,uT,uT,uT,uT,uT,uT,uT,uT,uT],[(.lst true 61),(.cells [⟨false,(.int .u32)⟩,⟨true,(.osl 2 61)⟩]),(.cells [⟨true,(.lit (.int .u32 0))⟩,⟨true,(.lit (.slice none 0 0))⟩])]⟩,⟨1,0,[⟨false,(.rows 58)⟩,uT,uT,uT,⟨true,(.ptr 0 0)⟩,⟨true,(.int .i64)⟩,⟨false,(.rows 22)⟩,uT,uT,uT,uT,uT,uT,uT,uT,uT,uT,uT,uT,uT,uT,uT,uT,uT,uT,uT,uT,uT,uT,uT,uT,uT,uT,uT,uT,uT,uT,uT,uT,uT,uT,uT,uT,uT,uT,uT,uT,uT,uT,uT,uT,uT,uT,uT,uT,uT,uT,uT,uT,uT,uT,uT,uT,uT,uT,uT,uT,uT,uT,uT,uT,uT,uT,uT,uT,uT,uT,uT,uT,uT,uT,uT,uT,uT,uT,uT,uT,uT,uT,uT,uT,uT,uT,uT,uT,uT],[.skip,(.cells [⟨false,(.int .u32)⟩,uT]),(.cells [⟨true,(.lit (.int .u32 0))⟩,⟨true,(.lit (.slice none 0 0))⟩])]⟩]⟩
noncomputable def st27_14 (p s:List D):Option (Sum (List D) (List D)):=stepQX env tbl27_9 60 12 27 (loopC 27 14) S27_14 p s
theorem st27_14_eq (pd0:D) (pd1:D) (pn2:Int) (sn0:Int) (sd1:D):st27_14 [pd0,pd1,(D.int pn2)] [(D.int sn0),sd1] =
 bif (qcmp BinOp.lss sn0 (qlen pd1))then
 bif (qinb pd1 sn0)then
 bif (qsome (q62 [pd0,(D.int (qint (qget pd1 sn0)))]))then
 bif (qinb pd0 (qint (qnth (q62 [pd0,(D.int (qint (qget pd1 sn0)))]) 0)))then
 bif (qsome (q23 [(qget pd0 (qint (qnth (q62 [pd0,(D.int (qint (qget pd1 sn0)))]) 0))),pd1,(D.int 12)]))then
 bif (qcmp BinOp.neq (qint (qnth (q23 [(qget pd0 (qint (qnth (q62 [pd0,(D.int (qint (qget pd1 sn0)))]) 0))),pd1,(D.int 12)]) 3)) 0)then
 some (Sum.inr [(D.int 1),(D.int (qint (qnth (q23 [(qget pd0 (qint (qnth (q62 [pd0,(D.int (qint (qget pd1 sn0)))]) 0))),pd1,(D.int 12)]) 3)))])
 else
 bif (qmem (qlen (qapp sd1 (D.list [(D.agg [(D.int (qint (qnth (q23 [(qget pd0 (qint (qnth (q62 [pd0,(D.int (qint (qget pd1 sn0)))]) 0))),pd1,(D.int 12)]) 0))),(qnth (q23 [(qget pd0 (qint (qnth (q62 [pd0,(D.int (qint (qget pd1 sn0)))]) 0))),pd1,(D.int 12)]) 1)])]))) 32)then
 some (Sum.inl [(D.int (qbin BinOp.add IntKind.i64 sn0 1)),(qapp sd1 (D.list [(D.agg [(D.int (qint (qnth (q23 [(qget pd0 (qint (qnth (q62 [pd0,(D.int (qint (qget pd1 sn0)))]) 0))),pd1,(D.int 12)]) 0))),(qnth (q23 [(qget pd0 (qint (qnth (q62 [pd0,(D.int (qint (qget pd1 sn0)))]) 0))),pd1,(D.int 12)]) 1)])]))])
 else
 none
 else
 none
 else
 none
 else
 none
 else
 none
 else
 some (Sum.inr [(D.int 0),sd1]):=by
 have h:st27_14 [pd0,pd1,(D.int pn2)] [(D.int sn0),sd1] =
  bif (qcmp BinOp.lss sn0 (qlen pd1))then
  bif (qinb pd1 sn0)then
  bif (qsome (q62 [pd0,(D.int (qint (qget pd1 sn0)))]))then
  bif (qinb pd0 (qint (qnth (q62 [pd0,(D.int (qint (qget pd1 sn0)))]) 0)))then
  bif (qsome (q23 [(qget pd0 (qint (qnth (q62 [pd0,(D.int (qint (qget pd1 sn0)))]) 0))),pd1,(D.int 12)]))then
  bif (qcmp BinOp.neq (qint (qnth (q23 [(qget pd0 (qint (qnth (q62 [pd0,(D.int (qint (qget pd1 sn0)))]) 0))),pd1,(D.int 12)]) 3)) 0)then
  bif (qeqD pd0 pd0)then
  bif (qeqD pd1 pd1)then
  bif (qeqD (D.int pn2) (D.int pn2))then
  some (Sum.inr [(D.int 1),(D.int (qint (qnth (q23 [(qget pd0 (qint (qnth (q62 [pd0,(D.int (qint (qget pd1 sn0)))]) 0))),pd1,(D.int 12)]) 3)))])
  else
  none
  else
  none
  else
  none
  else
  bif (qcmp BinOp.eql (qlen sd1) (qlen sd1))then
  bif (qmem (qlen (qapp sd1 (D.list [(D.agg [(D.int (qint (qnth (q23 [(qget pd0 (qint (qnth (q62 [pd0,(D.int (qint (qget pd1 sn0)))]) 0))),pd1,(D.int 12)]) 0))),(qnth (q23 [(qget pd0 (qint (qnth (q62 [pd0,(D.int (qint (qget pd1 sn0)))]) 0))),pd1,(D.int 12)]) 1)])]))) 32)then
  bif (qcmp BinOp.eql (qlen (qapp sd1 (D.list [(D.agg [(D.int (qint (qnth (q23 [(qget pd0 (qint (qnth (q62 [pd0,(D.int (qint (qget pd1 sn0)))]) 0))),pd1,(D.int 12)]) 0))),(qnth (q23 [(qget pd0 (qint (qnth (q62 [pd0,(D.int (qint (qget pd1 sn0)))]) 0))),pd1,(D.int 12)]) 1)])]))) (qlen (qapp sd1 (D.list [(D.agg [(D.int (qint (qnth (q23 [(qget pd0 (qint (qnth (q62 [pd0,(D.int (qint (qget pd1 sn0)))]) 0))),pd1,(D.int 12)]) 0))),(qnth (q23 [(qget pd0 (qint (qnth (q62 [pd0,(D.int (qint (qget pd1 sn0)))]) 0))),pd1,(D.int 12)]) 1)])]))))then
  bif (qeqD pd0 pd0)then
  bif (qeqD pd1 pd1)then
  bif (qeqD (D.int pn2) (D.int pn2))then
  some (Sum.inl [(D.int (qbin BinOp.add IntKind.i64 sn0 1)),(qapp sd1 (D.list [(D.agg [(D.int (qint (qnth (q23 [(qget pd0 (qint (qnth (q62 [pd0,(D.int (qint (qget pd1 sn0)))]) 0))),pd1,(D.int 12)]) 0))),(qnth (q23 [(qget pd0 (qint (qnth (q62 [pd0,(D.int (qint (qget pd1 sn0)))]) 0))),pd1,(D.int 12)]) 1)])]))])
  else
  none
  else
  none
  else
  none
  else
  none
  else
  none
  else
  none
  else
  none
  else
  none
  else
  none
  else
  none
  else
  bif (qcmp BinOp.eql (qlen sd1) (qlen sd1))then
  bif (qeqD pd0 pd0)then
  bif (qeqD pd1 pd1)then
  bif (qeqD (D.int pn2) (D.int pn2))then
  some (Sum.inr [(D.int 0),sd1])
  else
  none
  else
  none
  else
  none
  else
  none:=by kernel_rfl
 rw[h];simp only[qeqD_self,qeqI_self,qeq_len,show qcmp BinOp.eql 0 (qlen (D.list []))=true from qeq_len [],show∀a,qcmp BinOp.eql 1 (qlen (D.list [a]))=true from fun a=>qeq_len [a],show∀a b,qcmp BinOp.eql 2 (qlen (D.list [a,b]))=true from fun a b=>qeq_len [a,b],show∀a b c,qcmp BinOp.eql 3 (qlen (D.list [a,b,c]))=true from fun a b c=>qeq_len [a,b,c],show∀a b c d,qcmp BinOp.eql 4 (qlen (D.list [a,b,c,d]))=true from fun a b c d=>qeq_len [a,b,c,d],cond_true]
noncomputable def l27_14:List D→List D→Option (List D):=veil fun p s=>loW (st27_14 p) s
theorem l27_14_eq:l27_14=fun p s=>loW (st27_14 p) s:=veil_eq _
noncomputable def tbl27_14:Tb:=Tb.addL tbl27_9 27 14 S27_14.n0 (mkLp S27_14 (l27_14))
theorem ok_tbl27_14:TbOk env (tbl27_14):=addLoopQ ok_tbl27_9 27 14 (by kernel_rfl) _ (l27_14_eq)
def S27:FunS:=⟨[⟨true,(.rows 58)⟩,⟨true,(.dat 71)⟩],[],[⟨true,(.tup [(.agg [(.int .u32),(.rows 61)]),(.int .i64)])⟩],[]⟩
noncomputable def F27:List D→Option (List D):=liftX env tbl27_14 60 12 27 S27
theorem F27_eq (sd0:D) (sd1:D):F27 [sd0,sd1] =
 bif (qsome (l27_3 [sd0,sd1] [(D.int 0),(D.list [(D.int (qint (qfld sd1 0)))])]))then
 bif (qsome (l27_9 [sd0,(D.int (qint (qfld sd1 0))),(qnth (l27_3 [sd0,sd1] [(D.int 0),(D.list [(D.int (qint (qfld sd1 0)))])]) 1)] [(D.int 0)]))then
 bif (qcmp BinOp.eql (qint (qnth (l27_9 [sd0,(D.int (qint (qfld sd1 0))),(qnth (l27_3 [sd0,sd1] [(D.int 0),(D.list [(D.int (qint (qfld sd1 0)))])]) 1)] [(D.int 0)]) 0)) 0)then
 bif (qsome (l27_14 [sd0,(qnth (l27_3 [sd0,sd1] [(D.int 0),(D.list [(D.int (qint (qfld sd1 0)))])]) 1),(D.int (qint (qfld sd1 0)))] [(D.int 0),(D.list [])]))then
 bif (qcmp BinOp.eql (qint (qnth (l27_14 [sd0,(qnth (l27_3 [sd0,sd1] [(D.int 0),(D.list [(D.int (qint (qfld sd1 0)))])]) 1),(D.int (qint (qfld sd1 0)))] [(D.int 0),(D.list [])]) 0)) 0)then
 bif (qsome (q63 [(D.agg [(D.int (qint (qfld sd1 0))),(qnth (l27_14 [sd0,(qnth (l27_3 [sd0,sd1] [(D.int 0),(D.list [(D.int (qint (qfld sd1 0)))])]) 1),(D.int (qint (qfld sd1 0)))] [(D.int 0),(D.list [])]) 1)])]))then
 bif (qcmp BinOp.neq (qint (qnth (q63 [(D.agg [(D.int (qint (qfld sd1 0))),(qnth (l27_14 [sd0,(qnth (l27_3 [sd0,sd1] [(D.int 0),(D.list [(D.int (qint (qfld sd1 0)))])]) 1),(D.int (qint (qfld sd1 0)))] [(D.int 0),(D.list [])]) 1)])]) 0)) 0)then
 some [(D.int 0),(D.list []),(D.int (qint (qnth (q63 [(D.agg [(D.int (qint (qfld sd1 0))),(qnth (l27_14 [sd0,(qnth (l27_3 [sd0,sd1] [(D.int 0),(D.list [(D.int (qint (qfld sd1 0)))])]) 1),(D.int (qint (qfld sd1 0)))] [(D.int 0),(D.list [])]) 1)])]) 0)))]
 else
 some [(D.int (qint (qfld sd1 0))),(qnth (l27_14 [sd0,(qnth (l27_3 [sd0,sd1] [(D.int 0),(D.list [(D.int (qint (qfld sd1 0)))])]) 1),(D.int (qint (qfld sd1 0)))] [(D.int 0),(D.list [])]) 1),(D.int 0)]
 else
 none
 else
 some [(D.int 0),(D.list []),(D.int (qint (qnth (l27_14 [sd0,(qnth (l27_3 [sd0,sd1] [(D.int 0),(D.list [(D.int (qint (qfld sd1 0)))])]) 1),(D.int (qint (qfld sd1 0)))] [(D.int 0),(D.list [])]) 1)))]
 else
 none
 else
 some [(D.int 0),(D.list []),(D.int 9)]
 else
 none
 else
 none:=by
 have h:F27 [sd0,sd1] =
  bif (qcmp BinOp.eql 1 (qlen (D.list [(D.int (qint (qfld sd1 0)))])))then
  bif (qsome (l27_3 [sd0,sd1] [(D.int 0),(D.list [(D.int (qint (qfld sd1 0)))])]))then
  bif (qcmp BinOp.eql (qlen (qnth (l27_3 [sd0,sd1] [(D.int 0),(D.list [(D.int (qint (qfld sd1 0)))])]) 1)) (qlen (qnth (l27_3 [sd0,sd1] [(D.int 0),(D.list [(D.int (qint (qfld sd1 0)))])]) 1)))then
  bif (qsome (l27_9 [sd0,(D.int (qint (qfld sd1 0))),(qnth (l27_3 [sd0,sd1] [(D.int 0),(D.list [(D.int (qint (qfld sd1 0)))])]) 1)] [(D.int 0)]))then
  bif (qcmp BinOp.eql (qint (qnth (l27_9 [sd0,(D.int (qint (qfld sd1 0))),(qnth (l27_3 [sd0,sd1] [(D.int 0),(D.list [(D.int (qint (qfld sd1 0)))])]) 1)] [(D.int 0)]) 0)) 0)then
  bif (qcmp BinOp.eql (qlen (qnth (l27_3 [sd0,sd1] [(D.int 0),(D.list [(D.int (qint (qfld sd1 0)))])]) 1)) (qlen (qnth (l27_3 [sd0,sd1] [(D.int 0),(D.list [(D.int (qint (qfld sd1 0)))])]) 1)))then
  bif (qcmp BinOp.eql 0 (qlen (D.list [])))then
  bif (qsome (l27_14 [sd0,(qnth (l27_3 [sd0,sd1] [(D.int 0),(D.list [(D.int (qint (qfld sd1 0)))])]) 1),(D.int (qint (qfld sd1 0)))] [(D.int 0),(D.list [])]))then
  bif (qcmp BinOp.eql (qint (qnth (l27_14 [sd0,(qnth (l27_3 [sd0,sd1] [(D.int 0),(D.list [(D.int (qint (qfld sd1 0)))])]) 1),(D.int (qint (qfld sd1 0)))] [(D.int 0),(D.list [])]) 0)) 0)then
  bif (qcmp BinOp.eql (qlen (qnth (l27_14 [sd0,(qnth (l27_3 [sd0,sd1] [(D.int 0),(D.list [(D.int (qint (qfld sd1 0)))])]) 1),(D.int (qint (qfld sd1 0)))] [(D.int 0),(D.list [])]) 1)) (qlen (qnth (l27_14 [sd0,(qnth (l27_3 [sd0,sd1] [(D.int 0),(D.list [(D.int (qint (qfld sd1 0)))])]) 1),(D.int (qint (qfld sd1 0)))] [(D.int 0),(D.list [])]) 1)))then
  bif (qsome (q63 [(D.agg [(D.int (qint (qfld sd1 0))),(qnth (l27_14 [sd0,(qnth (l27_3 [sd0,sd1] [(D.int 0),(D.list [(D.int (qint (qfld sd1 0)))])]) 1),(D.int (qint (qfld sd1 0)))] [(D.int 0),(D.list [])]) 1)])]))then
  bif (qcmp BinOp.neq (qint (qnth (q63 [(D.agg [(D.int (qint (qfld sd1 0))),(qnth (l27_14 [sd0,(qnth (l27_3 [sd0,sd1] [(D.int 0),(D.list [(D.int (qint (qfld sd1 0)))])]) 1),(D.int (qint (qfld sd1 0)))] [(D.int 0),(D.list [])]) 1)])]) 0)) 0)then
  some [(D.int 0),(D.list []),(D.int (qint (qnth (q63 [(D.agg [(D.int (qint (qfld sd1 0))),(qnth (l27_14 [sd0,(qnth (l27_3 [sd0,sd1] [(D.int 0),(D.list [(D.int (qint (qfld sd1 0)))])]) 1),(D.int (qint (qfld sd1 0)))] [(D.int 0),(D.list [])]) 1)])]) 0)))]
  else
  bif (qcmp BinOp.eql (qlen (qnth (l27_14 [sd0,(qnth (l27_3 [sd0,sd1] [(D.int 0),(D.list [(D.int (qint (qfld sd1 0)))])]) 1),(D.int (qint (qfld sd1 0)))] [(D.int 0),(D.list [])]) 1)) (qlen (qnth (l27_14 [sd0,(qnth (l27_3 [sd0,sd1] [(D.int 0),(D.list [(D.int (qint (qfld sd1 0)))])]) 1),(D.int (qint (qfld sd1 0)))] [(D.int 0),(D.list [])]) 1)))then
  some [(D.int (qint (qfld sd1 0))),(qnth (l27_14 [sd0,(qnth (l27_3 [sd0,sd1] [(D.int 0),(D.list [(D.int (qint (qfld sd1 0)))])]) 1),(D.int (qint (qfld sd1 0)))] [(D.int 0),(D.list [])]) 1),(D.int 0)]
  else
  none
  else
  none
  else
  none
  else
  some [(D.int 0),(D.list []),(D.int (qint (qnth (l27_14 [sd0,(qnth (l27_3 [sd0,sd1] [(D.int 0),(D.list [(D.int (qint (qfld sd1 0)))])]) 1),(D.int (qint (qfld sd1 0)))] [(D.int 0),(D.list [])]) 1)))]
  else
  none
  else
  none
  else
  none
  else
  some [(D.int 0),(D.list []),(D.int 9)]
  else
  none
  else
  none
  else
  none
  else
  none:=by kernel_rfl
 rw[h];simp only[qeqD_self,qeqI_self,qeq_len,show qcmp BinOp.eql 0 (qlen (D.list []))=true from qeq_len [],show∀a,qcmp BinOp.eql 1 (qlen (D.list [a]))=true from fun a=>qeq_len [a],show∀a b,qcmp BinOp.eql 2 (qlen (D.list [a,b]))=true from fun a b=>qeq_len [a,b],show∀a b c,qcmp BinOp.eql 3 (qlen (D.list [a,b,c]))=true from fun a b c=>qeq_len [a,b,c],show∀a b c d,qcmp BinOp.eql 4 (qlen (D.list [a,b,c,d]))=true from fun a b c d=>qeq_len [a,b,c,d],cond_true]
noncomputable def q27:List D→Option (List D):=veil (F27)
theorem q27_eq:q27=F27:=veil_eq _
noncomputable def tb27:Tb:=Tb.addF tbl27_14 27 S27 (q27)
theorem ok_tb27:TbOk env (tb27):=addFunF ok_tbl27_14 27 (by kernel_rfl) _ (q27_eq)
end Go.Proofs.YtgklbalcneepoaaGreatDoor
namespace Go.AM
noncomputable def withPure (e:Env) (p:FuncId→Bool):Env:={e with isPure:=p,exc:=[],exi:=[]}
theorem withPure_ok {e:Env} {p:FuncId→Bool} (h:EnvOk e):EnvOk (withPure e p):=h
theorem withPure_tb {e:Env} {p:FuncId→Bool} {tb:Tb} (h:TbOk e tb):TbOk (withPure e p) tb:=⟨h.t,h.l,h.h⟩
end Go.AM
namespace Go.Proofs.YtgklbalcneepoaaGreatDoor
open Go Go.AM
noncomputable def env2:Env:=withPure env (fun f=> !([113,56,21].elem f))
theorem envOk2:EnvOk env2:=withPure_ok envOk
theorem ok2_tb27:TbOk env2 tb27:=withPure_tb ok_tb27
end Go.Proofs.YtgklbalcneepoaaGreatDoor
open Go Go.AM
namespace Go.Proofs.YtgklbalcneepoaaGreatDoor
set_option maxRecDepth 100000
set_option linter.unusedSimpArgs false
set_option linter.unusedVariables false
def S6:FunS:=⟨[⟨true,(.rows 58)⟩,⟨true,(.dat 71)⟩],[],[⟨true, .bool⟩],[]⟩
noncomputable def F6:List D→Option (List D):=liftX env2 tb27 60 12 6 S6
theorem F6_eq (sd0:D) (sd1:D):F6 [sd0,sd1] =
 bif (qsome (q24 [sd0]))then
 bif (qiteB (qnot (qbool (qnth (q24 [sd0]) 0))) Bool.true (qcmp BinOp.gtr (qlen (qfld sd1 2)) 30))then
 bif (qsome (q10 []))then
 some [(D.bool (qbool (qnth (q10 []) 0)))]
 else
 none
 else
 bif (qsome (q22 [sd0]))then
 bif (qsome (q26 [sd1]))then
 bif (qsome (q25 [(qnth (q22 [sd0]) 0),(qnth (q26 [sd1]) 0)]))then
 bif (qsome (q27 [sd0,sd1]))then
 bif (qiteB (qcmp BinOp.neq (qint (qnth (q25 [(qnth (q22 [sd0]) 0),(qnth (q26 [sd1]) 0)]) 2)) (qint (qnth (q27 [sd0,sd1]) 2))) Bool.true (qsome (q28 [(D.agg [(D.int (qint (qnth (q25 [(qnth (q22 [sd0]) 0),(qnth (q26 [sd1]) 0)]) 0))),(qnth (q25 [(qnth (q22 [sd0]) 0),(qnth (q26 [sd1]) 0)]) 1)]),(D.agg [(D.int (qint (qnth (q27 [sd0,sd1]) 0))),(qnth (q27 [sd0,sd1]) 1)])])))then
 bif (qiteB (qcmp BinOp.neq (qint (qnth (q25 [(qnth (q22 [sd0]) 0),(qnth (q26 [sd1]) 0)]) 2)) (qint (qnth (q27 [sd0,sd1]) 2))) Bool.true (qnot (qbool (qnth (q28 [(D.agg [(D.int (qint (qnth (q25 [(qnth (q22 [sd0]) 0),(qnth (q26 [sd1]) 0)]) 0))),(qnth (q25 [(qnth (q22 [sd0]) 0),(qnth (q26 [sd1]) 0)]) 1)]),(D.agg [(D.int (qint (qnth (q27 [sd0,sd1]) 0))),(qnth (q27 [sd0,sd1]) 1)])]) 0))))then
 some [(D.bool Bool.false)]
 else
 bif (qcmp BinOp.neq (qint (qnth (q25 [(qnth (q22 [sd0]) 0),(qnth (q26 [sd1]) 0)]) 2)) 0)then
 bif (qiteB (qcmp BinOp.eql (qlen (qnth (q25 [(qnth (q22 [sd0]) 0),(qnth (q26 [sd1]) 0)]) 1)) 0) (qsome (q10 [])) Bool.true)then
 some [(D.bool (qiteB (qcmp BinOp.eql (qlen (qnth (q25 [(qnth (q22 [sd0]) 0),(qnth (q26 [sd1]) 0)]) 1)) 0) (qbool (qnth (q10 []) 0)) Bool.false))]
 else
 none
 else
 bif (qsome (q29 [(D.agg [(D.int (qint (qnth (q25 [(qnth (q22 [sd0]) 0),(qnth (q26 [sd1]) 0)]) 0))),(qnth (q25 [(qnth (q22 [sd0]) 0),(qnth (q26 [sd1]) 0)]) 1)])]))then
 bif (qcmp BinOp.eql (qint (qnth (q29 [(D.agg [(D.int (qint (qnth (q25 [(qnth (q22 [sd0]) 0),(qnth (q26 [sd1]) 0)]) 0))),(qnth (q25 [(qnth (q22 [sd0]) 0),(qnth (q26 [sd1]) 0)]) 1)])]) 0)) 0)then
 bif (qcmp BinOp.eql (qint (qnth (q25 [(qnth (q22 [sd0]) 0),(qnth (q26 [sd1]) 0)]) 0)) (qint (qfld sd1 0)))then
 bif (qinb (qnth (q25 [(qnth (q22 [sd0]) 0),(qnth (q26 [sd1]) 0)]) 1) 0)then
 bif (qcmp BinOp.eql (qint (qfld (qget (qnth (q25 [(qnth (q22 [sd0]) 0),(qnth (q26 [sd1]) 0)]) 1) 0) 0)) (qint (qfld sd1 0)))then
 bif (qsome (q10 []))then
 some [(D.bool (qbool (qnth (q10 []) 0)))]
 else
 none
 else
 some [(D.bool Bool.false)]
 else
 none
 else
 some [(D.bool Bool.false)]
 else
 some [(D.bool Bool.false)]
 else
 none
 else
 none
 else
 none
 else
 none
 else
 none
 else
 none
 else
 none:=by kernel_rfl
noncomputable def q6:List D→Option (List D):=veil (F6)
theorem q6_eq:q6=F6:=veil_eq _
end Go.Proofs.YtgklbalcneepoaaGreatDoor
