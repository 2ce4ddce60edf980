/-
  Made by gen3.py: what functions of the seat compute, as partial functions on data, and that they do.
-/
import Derived.Test.YtobhhfbdelnhfaaGreatDoorM1
import Derived.KernelRfl
open Go Go.AM
namespace Go.Proofs.YtobhhfbdelnhfaaGreatDoor
set_option maxRecDepth 100000
set_option linter.unusedSimpArgs false
set_option linter.unusedVariables false
def S105:FunS:=⟨[⟨true,(.ptr 0 0)⟩,⟨true,(.int .i64)⟩],[(.cells [⟨false,(.rows 9)⟩,⟨false,(.func 38 [] [])⟩,⟨true, .bool⟩,⟨false, .bool⟩,⟨false, .bool⟩,⟨false, .bool⟩])],[⟨true, .bool⟩],[(.cells [⟨false,(.rows 9)⟩,⟨true,(.func 38 [] [])⟩,⟨true, .bool⟩,⟨false, .bool⟩,⟨false, .bool⟩,⟨false, .bool⟩])]⟩
noncomputable def F105:List D→Option (List D):=liftX env tb63_64 60 12 105 S105
theorem F105_eq (pd0:D) (pb1:Bool) (pb2:Bool) (pb3:Bool) (sn0:Int) (sb1:Bool):F105 [pd0,(D.bool pb1),(D.bool pb2),(D.bool pb3),(D.int sn0),(D.bool sb1)] =
 bif (qcmp BinOp.neq (qlen pd0) sn0)then
 some [(D.bool Bool.false),(D.bool Bool.true)]
 else
 some [(D.bool (qnot sb1)),(D.bool sb1)]:=by
 have h:F105 [pd0,(D.bool pb1),(D.bool pb2),(D.bool pb3),(D.int sn0),(D.bool sb1)] =
  bif (qcmp BinOp.neq (qlen pd0) sn0)then
  bif (qeqD pd0 pd0)then
  bif (qeqD (D.bool pb1) (D.bool pb1))then
  bif (qeqD (D.bool pb2) (D.bool pb2))then
  bif (qeqD (D.bool pb3) (D.bool pb3))then
  some [(D.bool Bool.false),(D.bool Bool.true)]
  else
  none
  else
  none
  else
  none
  else
  none
  else
  bif (qeqD pd0 pd0)then
  bif (qeqD (D.bool pb1) (D.bool pb1))then
  bif (qeqD (D.bool pb2) (D.bool pb2))then
  bif (qeqD (D.bool pb3) (D.bool pb3))then
  some [(D.bool (qnot sb1)),(D.bool sb1)]
  else
  none
  else
  none
  else
  none
  else
  none:=by kernel_rfl
 rw[h];simp only[qeqD_self,qeqI_self,qeq_len,show qcmp BinOp.eql 0 (qlen (D.list []))=true from qeq_len [],show∀a,qcmp BinOp.eql 1 (qlen (D.list [a]))=true from fun a=>qeq_len [a],show∀a b,qcmp BinOp.eql 2 (qlen (D.list [a,b]))=true from fun a b=>qeq_len [a,b],show∀a b c,qcmp BinOp.eql 3 (qlen (D.list [a,b,c]))=true from fun a b c=>qeq_len [a,b,c],show∀a b c d,qcmp BinOp.eql 4 (qlen (D.list [a,b,c,d]))=true from fun a b c d=>qeq_len [a,b,c,d],cond_true]
noncomputable def q105:List D→Option (List D):=veil (F105)
theorem q105_eq:q105=F105:=veil_eq _
noncomputable def tb105:Tb:=Tb.addF tb63_64 105 S105 (q105)
theorem ok_tb105:TbOk env (tb105):=addFunF ok_tb63_64 105 (by kernel_rfl) _ (q105_eq)
def S107:FunS:=⟨[⟨true,(.ptr 0 0)⟩,⟨true,(.int .i64)⟩],[(.cells [⟨false,(.rows 9)⟩,⟨false,(.func 38 [] [])⟩,⟨true, .bool⟩,⟨false, .bool⟩,⟨false, .bool⟩,⟨false, .bool⟩])],[⟨true,(.int .i64)⟩],[(.cells [⟨false,(.rows 9)⟩,⟨true,(.func 38 [] [])⟩,⟨true, .bool⟩,⟨false, .bool⟩,⟨false, .bool⟩,⟨false, .bool⟩])]⟩
noncomputable def F107:List D→Option (List D):=liftX env tb105 60 12 107 S107
theorem F107_eq (pd0:D) (pb1:Bool) (pb2:Bool) (pb3:Bool) (sn0:Int) (sb1:Bool):F107 [pd0,(D.bool pb1),(D.bool pb2),(D.bool pb3),(D.int sn0),(D.bool sb1)] =
 bif (qinb pd0 sn0)then
 bif (qsome (q108 [(D.str (qstr (qget pd0 sn0)))]))then
 bif (qnot (qbool (qnth (q108 [(D.str (qstr (qget pd0 sn0)))]) 1)))then
 some [(D.int (qint (qnth (q108 [(D.str (qstr (qget pd0 sn0)))]) 0))),(D.bool Bool.true)]
 else
 some [(D.int (qint (qnth (q108 [(D.str (qstr (qget pd0 sn0)))]) 0))),(D.bool sb1)]
 else
 none
 else
 none:=by
 have h:F107 [pd0,(D.bool pb1),(D.bool pb2),(D.bool pb3),(D.int sn0),(D.bool sb1)] =
  bif (qinb pd0 sn0)then
  bif (qsome (q108 [(D.str (qstr (qget pd0 sn0)))]))then
  bif (qnot (qbool (qnth (q108 [(D.str (qstr (qget pd0 sn0)))]) 1)))then
  bif (qeqD pd0 pd0)then
  bif (qeqD (D.bool pb1) (D.bool pb1))then
  bif (qeqD (D.bool pb2) (D.bool pb2))then
  bif (qeqD (D.bool pb3) (D.bool pb3))then
  some [(D.int (qint (qnth (q108 [(D.str (qstr (qget pd0 sn0)))]) 0))),(D.bool Bool.true)]
  else
  none
  else
  none
  else
  none
  else
  none
  else
  bif (qeqD pd0 pd0)then
  bif (qeqD (D.bool pb1) (D.bool pb1))then
  bif (qeqD (D.bool pb2) (D.bool pb2))then
  bif (qeqD (D.bool pb3) (D.bool pb3))then
  some [(D.int (qint (qnth (q108 [(D.str (qstr (qget pd0 sn0)))]) 0))),(D.bool sb1)]
  else
  none
  else
  none
  else
  none
  else
  none
  else
  none
  else
  none:=by kernel_rfl
 rw[h];simp only[qeqD_self,qeqI_self,qeq_len,show qcmp BinOp.eql 0 (qlen (D.list []))=true from qeq_len [],show∀a,qcmp BinOp.eql 1 (qlen (D.list [a]))=true from fun a=>qeq_len [a],show∀a b,qcmp BinOp.eql 2 (qlen (D.list [a,b]))=true from fun a b=>qeq_len [a,b],show∀a b c,qcmp BinOp.eql 3 (qlen (D.list [a,b,c]))=true from fun a b c=>qeq_len [a,b,c],show∀a b c d,qcmp BinOp.eql 4 (qlen (D.list [a,b,c,d]))=true from fun a b c d=>qeq_len [a,b,c,d],cond_true]
noncomputable def q107:List D→Option (List D):=veil (F107)
theorem q107_eq:q107=F107:=veil_eq _
noncomputable def tb107:Tb:=Tb.addF tb105 107 S107 (q107)
theorem ok_tb107:TbOk env (tb107):=addFunF ok_tb105 107 (by kernel_rfl) _ (q107_eq)
def S106:FunS:=⟨[⟨true,(.ptr 0 0)⟩,⟨true,(.int .i64)⟩],[(.cells [⟨false,(.rows 9)⟩,⟨false,(.func 38 [] [])⟩,⟨true, .bool⟩,⟨false, .bool⟩,⟨false, .bool⟩,⟨false, .bool⟩])],[⟨true,(.tup [(.int .u32), .bool])⟩],[(.cells [⟨false,(.rows 9)⟩,⟨true,(.func 38 [] [])⟩,⟨true, .bool⟩,⟨false, .bool⟩,⟨false, .bool⟩,⟨false, .bool⟩])]⟩
noncomputable def F106:List D→Option (List D):=liftX env tb107 60 12 106 S106
theorem F106_eq (pd0:D) (pb1:Bool) (pb2:Bool) (pb3:Bool) (sn0:Int) (sb1:Bool):F106 [pd0,(D.bool pb1),(D.bool pb2),(D.bool pb3),(D.int sn0),(D.bool sb1)] =
 bif (qinb pd0 sn0)then
 bif (qsome (q36 [(D.str (qstr (qget pd0 sn0)))]))then
 bif (qbool (qnth (q36 [(D.str (qstr (qget pd0 sn0)))]) 1))then
 some [(D.int (qint (qnth (q36 [(D.str (qstr (qget pd0 sn0)))]) 0))),(D.bool Bool.false),(D.bool sb1)]
 else
 some [(D.int 0),(D.bool Bool.false),(D.bool Bool.true)]
 else
 none
 else
 none:=by
 have h:F106 [pd0,(D.bool pb1),(D.bool pb2),(D.bool pb3),(D.int sn0),(D.bool sb1)] =
  bif (qinb pd0 sn0)then
  bif (qsome (q36 [(D.str (qstr (qget pd0 sn0)))]))then
  bif (qbool (qnth (q36 [(D.str (qstr (qget pd0 sn0)))]) 1))then
  bif (qeqD pd0 pd0)then
  bif (qeqD (D.bool pb1) (D.bool pb1))then
  bif (qeqD (D.bool pb2) (D.bool pb2))then
  bif (qeqD (D.bool pb3) (D.bool pb3))then
  some [(D.int (qint (qnth (q36 [(D.str (qstr (qget pd0 sn0)))]) 0))),(D.bool Bool.false),(D.bool sb1)]
  else
  none
  else
  none
  else
  none
  else
  none
  else
  bif (qeqD pd0 pd0)then
  bif (qeqD (D.bool pb1) (D.bool pb1))then
  bif (qeqD (D.bool pb2) (D.bool pb2))then
  bif (qeqD (D.bool pb3) (D.bool pb3))then
  some [(D.int 0),(D.bool Bool.false),(D.bool Bool.true)]
  else
  none
  else
  none
  else
  none
  else
  none
  else
  none
  else
  none:=by kernel_rfl
 rw[h];simp only[qeqD_self,qeqI_self,qeq_len,show qcmp BinOp.eql 0 (qlen (D.list []))=true from qeq_len [],show∀a,qcmp BinOp.eql 1 (qlen (D.list [a]))=true from fun a=>qeq_len [a],show∀a b,qcmp BinOp.eql 2 (qlen (D.list [a,b]))=true from fun a b=>qeq_len [a,b],show∀a b c,qcmp BinOp.eql 3 (qlen (D.list [a,b,c]))=true from fun a b c=>qeq_len [a,b,c],show∀a b c d,qcmp BinOp.eql 4 (qlen (D.list [a,b,c,d]))=true from fun a b c d=>qeq_len [a,b,c,d],cond_true]
noncomputable def q106:List D→Option (List D):=veil (F106)
theorem q106_eq:q106=F106:=veil_eq _
noncomputable def tb106:Tb:=Tb.addF tb107 106 S106 (q106)
theorem ok_tb106:TbOk env (tb106):=addFunF ok_tb107 106 (by kernel_rfl) _ (q106_eq)
def S139:FunS:=⟨[⟨true,(.ptr 0 0)⟩,⟨true,(.int .i64)⟩],[(.cells [⟨false,(.rows 9)⟩,⟨false,(.func 38 [] [])⟩,⟨true, .bool⟩,⟨true, .bool⟩,⟨false, .bool⟩,⟨false, .bool⟩])],[⟨true,(.tup [(.int .i64),(.int .u32)])⟩],[(.cells [⟨false,(.rows 9)⟩,⟨true,(.func 38 [] [])⟩,⟨true, .bool⟩,⟨true, .bool⟩,⟨false, .bool⟩,⟨false, .bool⟩])]⟩
noncomputable def F139:List D→Option (List D):=liftX env tb106 60 12 139 S139
theorem F139_eq (pd0:D) (pb1:Bool) (pb2:Bool) (sn0:Int) (sb1:Bool) (sb2:Bool):F139 [pd0,(D.bool pb1),(D.bool pb2),(D.int sn0),(D.bool sb1),(D.bool sb2)] =
 bif (qinb pd0 sn0)then
 bif (qsome (q59 [(D.str (qstr (qget pd0 sn0))),(D.str (ByteArray.mk #[91]))]))then
 bif (qsome (q62 [(D.str (qstr (qnth (q59 [(D.str (qstr (qget pd0 sn0))),(D.str (ByteArray.mk #[91]))]) 0))),(D.str (ByteArray.mk #[93]))]))then
 bif (qiteB (qiteB (qnot (qbool (qnth (q59 [(D.str (qstr (qget pd0 sn0))),(D.str (ByteArray.mk #[91]))]) 1))) Bool.true (qnot (qbool (qnth (q62 [(D.str (qstr (qnth (q59 [(D.str (qstr (qget pd0 sn0))),(D.str (ByteArray.mk #[91]))]) 0))),(D.str (ByteArray.mk #[93]))]) 1)))) Bool.true (qcmp BinOp.lss (qlenS (qstr (qnth (q62 [(D.str (qstr (qnth (q59 [(D.str (qstr (qget pd0 sn0))),(D.str (ByteArray.mk #[91]))]) 0))),(D.str (ByteArray.mk #[93]))]) 0))) 2))then
 some [(D.int 0),(D.int 0),(D.bool Bool.true),(D.bool sb2)]
 else
 bif (qcmp BinOp.leq 0 0)then
 bif (qcmp BinOp.leq 0 2)then
 bif (qcmp BinOp.leq 2 (qlenS (qstr (qnth (q62 [(D.str (qstr (qnth (q59 [(D.str (qstr (qget pd0 sn0))),(D.str (ByteArray.mk #[91]))]) 0))),(D.str (ByteArray.mk #[93]))]) 0))))then
 bif (qsome (q108 [(D.str (qsubS (qstr (qnth (q62 [(D.str (qstr (qnth (q59 [(D.str (qstr (qget pd0 sn0))),(D.str (ByteArray.mk #[91]))]) 0))),(D.str (ByteArray.mk #[93]))]) 0)) 0 2))]))then
 bif (qcmp BinOp.leq 0 2)then
 bif (qcmp BinOp.leq 2 (qlenS (qstr (qnth (q62 [(D.str (qstr (qnth (q59 [(D.str (qstr (qget pd0 sn0))),(D.str (ByteArray.mk #[91]))]) 0))),(D.str (ByteArray.mk #[93]))]) 0))))then
 bif (qcmp BinOp.leq (qlenS (qstr (qnth (q62 [(D.str (qstr (qnth (q59 [(D.str (qstr (qget pd0 sn0))),(D.str (ByteArray.mk #[91]))]) 0))),(D.str (ByteArray.mk #[93]))]) 0))) (qlenS (qstr (qnth (q62 [(D.str (qstr (qnth (q59 [(D.str (qstr (qget pd0 sn0))),(D.str (ByteArray.mk #[91]))]) 0))),(D.str (ByteArray.mk #[93]))]) 0))))then
 bif (qiteB (qcmpS BinOp.eql (qsubS (qstr (qnth (q62 [(D.str (qstr (qnth (q59 [(D.str (qstr (qget pd0 sn0))),(D.str (ByteArray.mk #[91]))]) 0))),(D.str (ByteArray.mk #[93]))]) 0)) 2 (qlenS (qstr (qnth (q62 [(D.str (qstr (qnth (q59 [(D.str (qstr (qget pd0 sn0))),(D.str (ByteArray.mk #[91]))]) 0))),(D.str (ByteArray.mk #[93]))]) 0)))) (ByteArray.mk #[])) (qbool (qnth (q108 [(D.str (qsubS (qstr (qnth (q62 [(D.str (qstr (qnth (q59 [(D.str (qstr (qget pd0 sn0))),(D.str (ByteArray.mk #[91]))]) 0))),(D.str (ByteArray.mk #[93]))]) 0)) 0 2))]) 1)) Bool.false)then
 some [(D.int (qint (qnth (q108 [(D.str (qsubS (qstr (qnth (q62 [(D.str (qstr (qnth (q59 [(D.str (qstr (qget pd0 sn0))),(D.str (ByteArray.mk #[91]))]) 0))),(D.str (ByteArray.mk #[93]))]) 0)) 0 2))]) 0))),(D.int 0),(D.bool sb1),(D.bool sb2)]
 else
 bif (qcmp BinOp.leq 0 2)then
 bif (qcmp BinOp.leq 2 (qlenS (qstr (qnth (q62 [(D.str (qstr (qnth (q59 [(D.str (qstr (qget pd0 sn0))),(D.str (ByteArray.mk #[91]))]) 0))),(D.str (ByteArray.mk #[93]))]) 0))))then
 bif (qcmp BinOp.leq (qlenS (qstr (qnth (q62 [(D.str (qstr (qnth (q59 [(D.str (qstr (qget pd0 sn0))),(D.str (ByteArray.mk #[91]))]) 0))),(D.str (ByteArray.mk #[93]))]) 0))) (qlenS (qstr (qnth (q62 [(D.str (qstr (qnth (q59 [(D.str (qstr (qget pd0 sn0))),(D.str (ByteArray.mk #[91]))]) 0))),(D.str (ByteArray.mk #[93]))]) 0))))then
 bif (qiteB (qiteB (qnot (qbool (qnth (q108 [(D.str (qsubS (qstr (qnth (q62 [(D.str (qstr (qnth (q59 [(D.str (qstr (qget pd0 sn0))),(D.str (ByteArray.mk #[91]))]) 0))),(D.str (ByteArray.mk #[93]))]) 0)) 0 2))]) 1))) Bool.true (qcmp BinOp.lss (qlenS (qsubS (qstr (qnth (q62 [(D.str (qstr (qnth (q59 [(D.str (qstr (qget pd0 sn0))),(D.str (ByteArray.mk #[91]))]) 0))),(D.str (ByteArray.mk #[93]))]) 0)) 2 (qlenS (qstr (qnth (q62 [(D.str (qstr (qnth (q59 [(D.str (qstr (qget pd0 sn0))),(D.str (ByteArray.mk #[91]))]) 0))),(D.str (ByteArray.mk #[93]))]) 0))))) 2)) Bool.true (qand (qinbS (qsubS (qstr (qnth (q62 [(D.str (qstr (qnth (q59 [(D.str (qstr (qget pd0 sn0))),(D.str (ByteArray.mk #[91]))]) 0))),(D.str (ByteArray.mk #[93]))]) 0)) 2 (qlenS (qstr (qnth (q62 [(D.str (qstr (qnth (q59 [(D.str (qstr (qget pd0 sn0))),(D.str (ByteArray.mk #[91]))]) 0))),(D.str (ByteArray.mk #[93]))]) 0)))) 0) (qiteB (qcmp BinOp.neq (qidxS (qsubS (qstr (qnth (q62 [(D.str (qstr (qnth (q59 [(D.str (qstr (qget pd0 sn0))),(D.str (ByteArray.mk #[91]))]) 0))),(D.str (ByteArray.mk #[93]))]) 0)) 2 (qlenS (qstr (qnth (q62 [(D.str (qstr (qnth (q59 [(D.str (qstr (qget pd0 sn0))),(D.str (ByteArray.mk #[91]))]) 0))),(D.str (ByteArray.mk #[93]))]) 0)))) 0) 43) (qinbS (qsubS (qstr (qnth (q62 [(D.str (qstr (qnth (q59 [(D.str (qstr (qget pd0 sn0))),(D.str (ByteArray.mk #[91]))]) 0))),(D.str (ByteArray.mk #[93]))]) 0)) 2 (qlenS (qstr (qnth (q62 [(D.str (qstr (qnth (q59 [(D.str (qstr (qget pd0 sn0))),(D.str (ByteArray.mk #[91]))]) 0))),(D.str (ByteArray.mk #[93]))]) 0)))) 0) Bool.true)))then
 bif (qiteB (qiteB (qiteB (qnot (qbool (qnth (q108 [(D.str (qsubS (qstr (qnth (q62 [(D.str (qstr (qnth (q59 [(D.str (qstr (qget pd0 sn0))),(D.str (ByteArray.mk #[91]))]) 0))),(D.str (ByteArray.mk #[93]))]) 0)) 0 2))]) 1))) Bool.true (qcmp BinOp.lss (qlenS (qsubS (qstr (qnth (q62 [(D.str (qstr (qnth (q59 [(D.str (qstr (qget pd0 sn0))),(D.str (ByteArray.mk #[91]))]) 0))),(D.str (ByteArray.mk #[93]))]) 0)) 2 (qlenS (qstr (qnth (q62 [(D.str (qstr (qnth (q59 [(D.str (qstr (qget pd0 sn0))),(D.str (ByteArray.mk #[91]))]) 0))),(D.str (ByteArray.mk #[93]))]) 0))))) 2)) Bool.true (qiteB (qcmp BinOp.neq (qidxS (qsubS (qstr (qnth (q62 [(D.str (qstr (qnth (q59 [(D.str (qstr (qget pd0 sn0))),(D.str (ByteArray.mk #[91]))]) 0))),(D.str (ByteArray.mk #[93]))]) 0)) 2 (qlenS (qstr (qnth (q62 [(D.str (qstr (qnth (q59 [(D.str (qstr (qget pd0 sn0))),(D.str (ByteArray.mk #[91]))]) 0))),(D.str (ByteArray.mk #[93]))]) 0)))) 0) 43) (qcmp BinOp.neq (qidxS (qsubS (qstr (qnth (q62 [(D.str (qstr (qnth (q59 [(D.str (qstr (qget pd0 sn0))),(D.str (ByteArray.mk #[91]))]) 0))),(D.str (ByteArray.mk #[93]))]) 0)) 2 (qlenS (qstr (qnth (q62 [(D.str (qstr (qnth (q59 [(D.str (qstr (qget pd0 sn0))),(D.str (ByteArray.mk #[91]))]) 0))),(D.str (ByteArray.mk #[93]))]) 0)))) 0) 45) Bool.false)) Bool.true (qinbS (qsubS (qstr (qnth (q62 [(D.str (qstr (qnth (q59 [(D.str (qstr (qget pd0 sn0))),(D.str (ByteArray.mk #[91]))]) 0))),(D.str (ByteArray.mk #[93]))]) 0)) 2 (qlenS (qstr (qnth (q62 [(D.str (qstr (qnth (q59 [(D.str (qstr (qget pd0 sn0))),(D.str (ByteArray.mk #[91]))]) 0))),(D.str (ByteArray.mk #[93]))]) 0)))) 1))then
 bif (qiteB (qiteB (qiteB (qnot (qbool (qnth (q108 [(D.str (qsubS (qstr (qnth (q62 [(D.str (qstr (qnth (q59 [(D.str (qstr (qget pd0 sn0))),(D.str (ByteArray.mk #[91]))]) 0))),(D.str (ByteArray.mk #[93]))]) 0)) 0 2))]) 1))) Bool.true (qcmp BinOp.lss (qlenS (qsubS (qstr (qnth (q62 [(D.str (qstr (qnth (q59 [(D.str (qstr (qget pd0 sn0))),(D.str (ByteArray.mk #[91]))]) 0))),(D.str (ByteArray.mk #[93]))]) 0)) 2 (qlenS (qstr (qnth (q62 [(D.str (qstr (qnth (q59 [(D.str (qstr (qget pd0 sn0))),(D.str (ByteArray.mk #[91]))]) 0))),(D.str (ByteArray.mk #[93]))]) 0))))) 2)) Bool.true (qiteB (qcmp BinOp.neq (qidxS (qsubS (qstr (qnth (q62 [(D.str (qstr (qnth (q59 [(D.str (qstr (qget pd0 sn0))),(D.str (ByteArray.mk #[91]))]) 0))),(D.str (ByteArray.mk #[93]))]) 0)) 2 (qlenS (qstr (qnth (q62 [(D.str (qstr (qnth (q59 [(D.str (qstr (qget pd0 sn0))),(D.str (ByteArray.mk #[91]))]) 0))),(D.str (ByteArray.mk #[93]))]) 0)))) 0) 43) (qcmp BinOp.neq (qidxS (qsubS (qstr (qnth (q62 [(D.str (qstr (qnth (q59 [(D.str (qstr (qget pd0 sn0))),(D.str (ByteArray.mk #[91]))]) 0))),(D.str (ByteArray.mk #[93]))]) 0)) 2 (qlenS (qstr (qnth (q62 [(D.str (qstr (qnth (q59 [(D.str (qstr (qget pd0 sn0))),(D.str (ByteArray.mk #[91]))]) 0))),(D.str (ByteArray.mk #[93]))]) 0)))) 0) 45) Bool.false)) Bool.true (qcmp BinOp.eql (qidxS (qsubS (qstr (qnth (q62 [(D.str (qstr (qnth (q59 [(D.str (qstr (qget pd0 sn0))),(D.str (ByteArray.mk #[91]))]) 0))),(D.str (ByteArray.mk #[93]))]) 0)) 2 (qlenS (qstr (qnth (q62 [(D.str (qstr (qnth (q59 [(D.str (qstr (qget pd0 sn0))),(D.str (ByteArray.mk #[91]))]) 0))),(D.str (ByteArray.mk #[93]))]) 0)))) 1) 45))then
 some [(D.int 0),(D.int 0),(D.bool Bool.true),(D.bool sb2)]
 else
 bif (qcmp BinOp.leq 0 1)then
 bif (qcmp BinOp.leq 1 (qlenS (qsubS (qstr (qnth (q62 [(D.str (qstr (qnth (q59 [(D.str (qstr (qget pd0 sn0))),(D.str (ByteArray.mk #[91]))]) 0))),(D.str (ByteArray.mk #[93]))]) 0)) 2 (qlenS (qstr (qnth (q62 [(D.str (qstr (qnth (q59 [(D.str (qstr (qget pd0 sn0))),(D.str (ByteArray.mk #[91]))]) 0))),(D.str (ByteArray.mk #[93]))]) 0))))))then
 bif (qcmp BinOp.leq (qlenS (qsubS (qstr (qnth (q62 [(D.str (qstr (qnth (q59 [(D.str (qstr (qget pd0 sn0))),(D.str (ByteArray.mk #[91]))]) 0))),(D.str (ByteArray.mk #[93]))]) 0)) 2 (qlenS (qstr (qnth (q62 [(D.str (qstr (qnth (q59 [(D.str (qstr (qget pd0 sn0))),(D.str (ByteArray.mk #[91]))]) 0))),(D.str (ByteArray.mk #[93]))]) 0))))) (qlenS (qsubS (qstr (qnth (q62 [(D.str (qstr (qnth (q59 [(D.str (qstr (qget pd0 sn0))),(D.str (ByteArray.mk #[91]))]) 0))),(D.str (ByteArray.mk #[93]))]) 0)) 2 (qlenS (qstr (qnth (q62 [(D.str (qstr (qnth (q59 [(D.str (qstr (qget pd0 sn0))),(D.str (ByteArray.mk #[91]))]) 0))),(D.str (ByteArray.mk #[93]))]) 0))))))then
 bif (qsome (q36 [(D.str (qsubS (qsubS (qstr (qnth (q62 [(D.str (qstr (qnth (q59 [(D.str (qstr (qget pd0 sn0))),(D.str (ByteArray.mk #[91]))]) 0))),(D.str (ByteArray.mk #[93]))]) 0)) 2 (qlenS (qstr (qnth (q62 [(D.str (qstr (qnth (q59 [(D.str (qstr (qget pd0 sn0))),(D.str (ByteArray.mk #[91]))]) 0))),(D.str (ByteArray.mk #[93]))]) 0)))) 1 (qlenS (qsubS (qstr (qnth (q62 [(D.str (qstr (qnth (q59 [(D.str (qstr (qget pd0 sn0))),(D.str (ByteArray.mk #[91]))]) 0))),(D.str (ByteArray.mk #[93]))]) 0)) 2 (qlenS (qstr (qnth (q62 [(D.str (qstr (qnth (q59 [(D.str (qstr (qget pd0 sn0))),(D.str (ByteArray.mk #[91]))]) 0))),(D.str (ByteArray.mk #[93]))]) 0)))))))]))then
 bif (qnot (qbool (qnth (q36 [(D.str (qsubS (qsubS (qstr (qnth (q62 [(D.str (qstr (qnth (q59 [(D.str (qstr (qget pd0 sn0))),(D.str (ByteArray.mk #[91]))]) 0))),(D.str (ByteArray.mk #[93]))]) 0)) 2 (qlenS (qstr (qnth (q62 [(D.str (qstr (qnth (q59 [(D.str (qstr (qget pd0 sn0))),(D.str (ByteArray.mk #[91]))]) 0))),(D.str (ByteArray.mk #[93]))]) 0)))) 1 (qlenS (qsubS (qstr (qnth (q62 [(D.str (qstr (qnth (q59 [(D.str (qstr (qget pd0 sn0))),(D.str (ByteArray.mk #[91]))]) 0))),(D.str (ByteArray.mk #[93]))]) 0)) 2 (qlenS (qstr (qnth (q62 [(D.str (qstr (qnth (q59 [(D.str (qstr (qget pd0 sn0))),(D.str (ByteArray.mk #[91]))]) 0))),(D.str (ByteArray.mk #[93]))]) 0)))))))]) 1)))then
 some [(D.int 0),(D.int 0),(D.bool Bool.true),(D.bool sb2)]
 else
 bif (qinbS (qsubS (qstr (qnth (q62 [(D.str (qstr (qnth (q59 [(D.str (qstr (qget pd0 sn0))),(D.str (ByteArray.mk #[91]))]) 0))),(D.str (ByteArray.mk #[93]))]) 0)) 2 (qlenS (qstr (qnth (q62 [(D.str (qstr (qnth (q59 [(D.str (qstr (qget pd0 sn0))),(D.str (ByteArray.mk #[91]))]) 0))),(D.str (ByteArray.mk #[93]))]) 0)))) 0)then
 bif (qcmp BinOp.eql (qidxS (qsubS (qstr (qnth (q62 [(D.str (qstr (qnth (q59 [(D.str (qstr (qget pd0 sn0))),(D.str (ByteArray.mk #[91]))]) 0))),(D.str (ByteArray.mk #[93]))]) 0)) 2 (qlenS (qstr (qnth (q62 [(D.str (qstr (qnth (q59 [(D.str (qstr (qget pd0 sn0))),(D.str (ByteArray.mk #[91]))]) 0))),(D.str (ByteArray.mk #[93]))]) 0)))) 0) 43)then
 bif sb2 then
 some [(D.int (qint (qnth (q108 [(D.str (qsubS (qstr (qnth (q62 [(D.str (qstr (qnth (q59 [(D.str (qstr (qget pd0 sn0))),(D.str (ByteArray.mk #[91]))]) 0))),(D.str (ByteArray.mk #[93]))]) 0)) 0 2))]) 0))),(D.int (qint (qnth (q36 [(D.str (qsubS (qsubS (qstr (qnth (q62 [(D.str (qstr (qnth (q59 [(D.str (qstr (qget pd0 sn0))),(D.str (ByteArray.mk #[91]))]) 0))),(D.str (ByteArray.mk #[93]))]) 0)) 2 (qlenS (qstr (qnth (q62 [(D.str (qstr (qnth (q59 [(D.str (qstr (qget pd0 sn0))),(D.str (ByteArray.mk #[91]))]) 0))),(D.str (ByteArray.mk #[93]))]) 0)))) 1 (qlenS (qsubS (qstr (qnth (q62 [(D.str (qstr (qnth (q59 [(D.str (qstr (qget pd0 sn0))),(D.str (ByteArray.mk #[91]))]) 0))),(D.str (ByteArray.mk #[93]))]) 0)) 2 (qlenS (qstr (qnth (q62 [(D.str (qstr (qnth (q59 [(D.str (qstr (qget pd0 sn0))),(D.str (ByteArray.mk #[91]))]) 0))),(D.str (ByteArray.mk #[93]))]) 0)))))))]) 0))),(D.bool sb1),(D.bool Bool.true)]
 else
 some [(D.int (qint (qnth (q108 [(D.str (qsubS (qstr (qnth (q62 [(D.str (qstr (qnth (q59 [(D.str (qstr (qget pd0 sn0))),(D.str (ByteArray.mk #[91]))]) 0))),(D.str (ByteArray.mk #[93]))]) 0)) 0 2))]) 0))),(D.int (qint (qnth (q36 [(D.str (qsubS (qsubS (qstr (qnth (q62 [(D.str (qstr (qnth (q59 [(D.str (qstr (qget pd0 sn0))),(D.str (ByteArray.mk #[91]))]) 0))),(D.str (ByteArray.mk #[93]))]) 0)) 2 (qlenS (qstr (qnth (q62 [(D.str (qstr (qnth (q59 [(D.str (qstr (qget pd0 sn0))),(D.str (ByteArray.mk #[91]))]) 0))),(D.str (ByteArray.mk #[93]))]) 0)))) 1 (qlenS (qsubS (qstr (qnth (q62 [(D.str (qstr (qnth (q59 [(D.str (qstr (qget pd0 sn0))),(D.str (ByteArray.mk #[91]))]) 0))),(D.str (ByteArray.mk #[93]))]) 0)) 2 (qlenS (qstr (qnth (q62 [(D.str (qstr (qnth (q59 [(D.str (qstr (qget pd0 sn0))),(D.str (ByteArray.mk #[91]))]) 0))),(D.str (ByteArray.mk #[93]))]) 0)))))))]) 0))),(D.bool sb1),(D.bool (qcmp BinOp.gtr (qint (qnth (q36 [(D.str (qsubS (qsubS (qstr (qnth (q62 [(D.str (qstr (qnth (q59 [(D.str (qstr (qget pd0 sn0))),(D.str (ByteArray.mk #[91]))]) 0))),(D.str (ByteArray.mk #[93]))]) 0)) 2 (qlenS (qstr (qnth (q62 [(D.str (qstr (qnth (q59 [(D.str (qstr (qget pd0 sn0))),(D.str (ByteArray.mk #[91]))]) 0))),(D.str (ByteArray.mk #[93]))]) 0)))) 1 (qlenS (qsubS (qstr (qnth (q62 [(D.str (qstr (qnth (q59 [(D.str (qstr (qget pd0 sn0))),(D.str (ByteArray.mk #[91]))]) 0))),(D.str (ByteArray.mk #[93]))]) 0)) 2 (qlenS (qstr (qnth (q62 [(D.str (qstr (qnth (q59 [(D.str (qstr (qget pd0 sn0))),(D.str (ByteArray.mk #[91]))]) 0))),(D.str (ByteArray.mk #[93]))]) 0)))))))]) 0)) 127))]
 else
 bif sb2 then
 some [(D.int (qint (qnth (q108 [(D.str (qsubS (qstr (qnth (q62 [(D.str (qstr (qnth (q59 [(D.str (qstr (qget pd0 sn0))),(D.str (ByteArray.mk #[91]))]) 0))),(D.str (ByteArray.mk #[93]))]) 0)) 0 2))]) 0))),(D.int (qun UnOp.neg IntKind.u32 (qint (qnth (q36 [(D.str (qsubS (qsubS (qstr (qnth (q62 [(D.str (qstr (qnth (q59 [(D.str (qstr (qget pd0 sn0))),(D.str (ByteArray.mk #[91]))]) 0))),(D.str (ByteArray.mk #[93]))]) 0)) 2 (qlenS (qstr (qnth (q62 [(D.str (qstr (qnth (q59 [(D.str (qstr (qget pd0 sn0))),(D.str (ByteArray.mk #[91]))]) 0))),(D.str (ByteArray.mk #[93]))]) 0)))) 1 (qlenS (qsubS (qstr (qnth (q62 [(D.str (qstr (qnth (q59 [(D.str (qstr (qget pd0 sn0))),(D.str (ByteArray.mk #[91]))]) 0))),(D.str (ByteArray.mk #[93]))]) 0)) 2 (qlenS (qstr (qnth (q62 [(D.str (qstr (qnth (q59 [(D.str (qstr (qget pd0 sn0))),(D.str (ByteArray.mk #[91]))]) 0))),(D.str (ByteArray.mk #[93]))]) 0)))))))]) 0)))),(D.bool sb1),(D.bool Bool.true)]
 else
 some [(D.int (qint (qnth (q108 [(D.str (qsubS (qstr (qnth (q62 [(D.str (qstr (qnth (q59 [(D.str (qstr (qget pd0 sn0))),(D.str (ByteArray.mk #[91]))]) 0))),(D.str (ByteArray.mk #[93]))]) 0)) 0 2))]) 0))),(D.int (qun UnOp.neg IntKind.u32 (qint (qnth (q36 [(D.str (qsubS (qsubS (qstr (qnth (q62 [(D.str (qstr (qnth (q59 [(D.str (qstr (qget pd0 sn0))),(D.str (ByteArray.mk #[91]))]) 0))),(D.str (ByteArray.mk #[93]))]) 0)) 2 (qlenS (qstr (qnth (q62 [(D.str (qstr (qnth (q59 [(D.str (qstr (qget pd0 sn0))),(D.str (ByteArray.mk #[91]))]) 0))),(D.str (ByteArray.mk #[93]))]) 0)))) 1 (qlenS (qsubS (qstr (qnth (q62 [(D.str (qstr (qnth (q59 [(D.str (qstr (qget pd0 sn0))),(D.str (ByteArray.mk #[91]))]) 0))),(D.str (ByteArray.mk #[93]))]) 0)) 2 (qlenS (qstr (qnth (q62 [(D.str (qstr (qnth (q59 [(D.str (qstr (qget pd0 sn0))),(D.str (ByteArray.mk #[91]))]) 0))),(D.str (ByteArray.mk #[93]))]) 0)))))))]) 0)))),(D.bool sb1),(D.bool (qcmp BinOp.gtr (qint (qnth (q36 [(D.str (qsubS (qsubS (qstr (qnth (q62 [(D.str (qstr (qnth (q59 [(D.str (qstr (qget pd0 sn0))),(D.str (ByteArray.mk #[91]))]) 0))),(D.str (ByteArray.mk #[93]))]) 0)) 2 (qlenS (qstr (qnth (q62 [(D.str (qstr (qnth (q59 [(D.str (qstr (qget pd0 sn0))),(D.str (ByteArray.mk #[91]))]) 0))),(D.str (ByteArray.mk #[93]))]) 0)))) 1 (qlenS (qsubS (qstr (qnth (q62 [(D.str (qstr (qnth (q59 [(D.str (qstr (qget pd0 sn0))),(D.str (ByteArray.mk #[91]))]) 0))),(D.str (ByteArray.mk #[93]))]) 0)) 2 (qlenS (qstr (qnth (q62 [(D.str (qstr (qnth (q59 [(D.str (qstr (qget pd0 sn0))),(D.str (ByteArray.mk #[91]))]) 0))),(D.str (ByteArray.mk #[93]))]) 0)))))))]) 0)) 128))]
 else
 none
 else
 none
 else
 none
 else
 none
 else
 none
 else
 none
 else
 none
 else
 none
 else
 none
 else
 none
 else
 none
 else
 none
 else
 none
 else
 none
 else
 none
 else
 none
 else
 none
 else
 none
 else
 none
 else
 none:=by
 have h:F139 [pd0,(D.bool pb1),(D.bool pb2),(D.int sn0),(D.bool sb1),(D.bool sb2)] =
  bif (qinb pd0 sn0)then
  bif (qsome (q59 [(D.str (qstr (qget pd0 sn0))),(D.str (ByteArray.mk #[91]))]))then
  bif (qsome (q62 [(D.str (qstr (qnth (q59 [(D.str (qstr (qget pd0 sn0))),(D.str (ByteArray.mk #[91]))]) 0))),(D.str (ByteArray.mk #[93]))]))then
  bif (qiteB (qiteB (qnot (qbool (qnth (q59 [(D.str (qstr (qget pd0 sn0))),(D.str (ByteArray.mk #[91]))]) 1))) Bool.true (qnot (qbool (qnth (q62 [(D.str (qstr (qnth (q59 [(D.str (qstr (qget pd0 sn0))),(D.str (ByteArray.mk #[91]))]) 0))),(D.str (ByteArray.mk #[93]))]) 1)))) Bool.true (qcmp BinOp.lss (qlenS (qstr (qnth (q62 [(D.str (qstr (qnth (q59 [(D.str (qstr (qget pd0 sn0))),(D.str (ByteArray.mk #[91]))]) 0))),(D.str (ByteArray.mk #[93]))]) 0))) 2))then
  bif (qeqD pd0 pd0)then
  bif (qeqD (D.bool pb1) (D.bool pb1))then
  bif (qeqD (D.bool pb2) (D.bool pb2))then
  some [(D.int 0),(D.int 0),(D.bool Bool.true),(D.bool sb2)]
  else
  none
  else
  none
  else
  none
  else
  bif (qcmp BinOp.leq 0 0)then
  bif (qcmp BinOp.leq 0 2)then
  bif (qcmp BinOp.leq 2 (qlenS (qstr (qnth (q62 [(D.str (qstr (qnth (q59 [(D.str (qstr (qget pd0 sn0))),(D.str (ByteArray.mk #[91]))]) 0))),(D.str (ByteArray.mk #[93]))]) 0))))then
  bif (qsome (q108 [(D.str (qsubS (qstr (qnth (q62 [(D.str (qstr (qnth (q59 [(D.str (qstr (qget pd0 sn0))),(D.str (ByteArray.mk #[91]))]) 0))),(D.str (ByteArray.mk #[93]))]) 0)) 0 2))]))then
  bif (qcmp BinOp.leq 0 2)then
  bif (qcmp BinOp.leq 2 (qlenS (qstr (qnth (q62 [(D.str (qstr (qnth (q59 [(D.str (qstr (qget pd0 sn0))),(D.str (ByteArray.mk #[91]))]) 0))),(D.str (ByteArray.mk #[93]))]) 0))))then
  bif (qcmp BinOp.leq (qlenS (qstr (qnth (q62 [(D.str (qstr (qnth (q59 [(D.str (qstr (qget pd0 sn0))),(D.str (ByteArray.mk #[91]))]) 0))),(D.str (ByteArray.mk #[93]))]) 0))) (qlenS (qstr (qnth (q62 [(D.str (qstr (qnth (q59 [(D.str (qstr (qget pd0 sn0))),(D.str (ByteArray.mk #[91]))]) 0))),(D.str (ByteArray.mk #[93]))]) 0))))then
  bif (qiteB (qcmpS BinOp.eql (qsubS (qstr (qnth (q62 [(D.str (qstr (qnth (q59 [(D.str (qstr (qget pd0 sn0))),(D.str (ByteArray.mk #[91]))]) 0))),(D.str (ByteArray.mk #[93]))]) 0)) 2 (qlenS (qstr (qnth (q62 [(D.str (qstr (qnth (q59 [(D.str (qstr (qget pd0 sn0))),(D.str (ByteArray.mk #[91]))]) 0))),(D.str (ByteArray.mk #[93]))]) 0)))) (ByteArray.mk #[])) (qbool (qnth (q108 [(D.str (qsubS (qstr (qnth (q62 [(D.str (qstr (qnth (q59 [(D.str (qstr (qget pd0 sn0))),(D.str (ByteArray.mk #[91]))]) 0))),(D.str (ByteArray.mk #[93]))]) 0)) 0 2))]) 1)) Bool.false)then
  bif (qeqD pd0 pd0)then
  bif (qeqD (D.bool pb1) (D.bool pb1))then
  bif (qeqD (D.bool pb2) (D.bool pb2))then
  some [(D.int (qint (qnth (q108 [(D.str (qsubS (qstr (qnth (q62 [(D.str (qstr (qnth (q59 [(D.str (qstr (qget pd0 sn0))),(D.str (ByteArray.mk #[91]))]) 0))),(D.str (ByteArray.mk #[93]))]) 0)) 0 2))]) 0))),(D.int 0),(D.bool sb1),(D.bool sb2)]
  else
  none
  else
  none
  else
  none
  else
  bif (qcmp BinOp.leq 0 2)then
  bif (qcmp BinOp.leq 2 (qlenS (qstr (qnth (q62 [(D.str (qstr (qnth (q59 [(D.str (qstr (qget pd0 sn0))),(D.str (ByteArray.mk #[91]))]) 0))),(D.str (ByteArray.mk #[93]))]) 0))))then
  bif (qcmp BinOp.leq (qlenS (qstr (qnth (q62 [(D.str (qstr (qnth (q59 [(D.str (qstr (qget pd0 sn0))),(D.str (ByteArray.mk #[91]))]) 0))),(D.str (ByteArray.mk #[93]))]) 0))) (qlenS (qstr (qnth (q62 [(D.str (qstr (qnth (q59 [(D.str (qstr (qget pd0 sn0))),(D.str (ByteArray.mk #[91]))]) 0))),(D.str (ByteArray.mk #[93]))]) 0))))then
  bif (qiteB (qiteB (qnot (qbool (qnth (q108 [(D.str (qsubS (qstr (qnth (q62 [(D.str (qstr (qnth (q59 [(D.str (qstr (qget pd0 sn0))),(D.str (ByteArray.mk #[91]))]) 0))),(D.str (ByteArray.mk #[93]))]) 0)) 0 2))]) 1))) Bool.true (qcmp BinOp.lss (qlenS (qsubS (qstr (qnth (q62 [(D.str (qstr (qnth (q59 [(D.str (qstr (qget pd0 sn0))),(D.str (ByteArray.mk #[91]))]) 0))),(D.str (ByteArray.mk #[93]))]) 0)) 2 (qlenS (qstr (qnth (q62 [(D.str (qstr (qnth (q59 [(D.str (qstr (qget pd0 sn0))),(D.str (ByteArray.mk #[91]))]) 0))),(D.str (ByteArray.mk #[93]))]) 0))))) 2)) Bool.true (qand (qinbS (qsubS (qstr (qnth (q62 [(D.str (qstr (qnth (q59 [(D.str (qstr (qget pd0 sn0))),(D.str (ByteArray.mk #[91]))]) 0))),(D.str (ByteArray.mk #[93]))]) 0)) 2 (qlenS (qstr (qnth (q62 [(D.str (qstr (qnth (q59 [(D.str (qstr (qget pd0 sn0))),(D.str (ByteArray.mk #[91]))]) 0))),(D.str (ByteArray.mk #[93]))]) 0)))) 0) (qiteB (qcmp BinOp.neq (qidxS (qsubS (qstr (qnth (q62 [(D.str (qstr (qnth (q59 [(D.str (qstr (qget pd0 sn0))),(D.str (ByteArray.mk #[91]))]) 0))),(D.str (ByteArray.mk #[93]))]) 0)) 2 (qlenS (qstr (qnth (q62 [(D.str (qstr (qnth (q59 [(D.str (qstr (qget pd0 sn0))),(D.str (ByteArray.mk #[91]))]) 0))),(D.str (ByteArray.mk #[93]))]) 0)))) 0) 43) (qinbS (qsubS (qstr (qnth (q62 [(D.str (qstr (qnth (q59 [(D.str (qstr (qget pd0 sn0))),(D.str (ByteArray.mk #[91]))]) 0))),(D.str (ByteArray.mk #[93]))]) 0)) 2 (qlenS (qstr (qnth (q62 [(D.str (qstr (qnth (q59 [(D.str (qstr (qget pd0 sn0))),(D.str (ByteArray.mk #[91]))]) 0))),(D.str (ByteArray.mk #[93]))]) 0)))) 0) Bool.true)))then
  bif (qiteB (qiteB (qiteB (qnot (qbool (qnth (q108 [(D.str (qsubS (qstr (qnth (q62 [(D.str (qstr (qnth (q59 [(D.str (qstr (qget pd0 sn0))),(D.str (ByteArray.mk #[91]))]) 0))),(D.str (ByteArray.mk #[93]))]) 0)) 0 2))]) 1))) Bool.true (qcmp BinOp.lss (qlenS (qsubS (qstr (qnth (q62 [(D.str (qstr (qnth (q59 [(D.str (qstr (qget pd0 sn0))),(D.str (ByteArray.mk #[91]))]) 0))),(D.str (ByteArray.mk #[93]))]) 0)) 2 (qlenS (qstr (qnth (q62 [(D.str (qstr (qnth (q59 [(D.str (qstr (qget pd0 sn0))),(D.str (ByteArray.mk #[91]))]) 0))),(D.str (ByteArray.mk #[93]))]) 0))))) 2)) Bool.true (qiteB (qcmp BinOp.neq (qidxS (qsubS (qstr (qnth (q62 [(D.str (qstr (qnth (q59 [(D.str (qstr (qget pd0 sn0))),(D.str (ByteArray.mk #[91]))]) 0))),(D.str (ByteArray.mk #[93]))]) 0)) 2 (qlenS (qstr (qnth (q62 [(D.str (qstr (qnth (q59 [(D.str (qstr (qget pd0 sn0))),(D.str (ByteArray.mk #[91]))]) 0))),(D.str (ByteArray.mk #[93]))]) 0)))) 0) 43) (qcmp BinOp.neq (qidxS (qsubS (qstr (qnth (q62 [(D.str (qstr (qnth (q59 [(D.str (qstr (qget pd0 sn0))),(D.str (ByteArray.mk #[91]))]) 0))),(D.str (ByteArray.mk #[93]))]) 0)) 2 (qlenS (qstr (qnth (q62 [(D.str (qstr (qnth (q59 [(D.str (qstr (qget pd0 sn0))),(D.str (ByteArray.mk #[91]))]) 0))),(D.str (ByteArray.mk #[93]))]) 0)))) 0) 45) Bool.false)) Bool.true (qinbS (qsubS (qstr (qnth (q62 [(D.str (qstr (qnth (q59 [(D.str (qstr (qget pd0 sn0))),(D.str (ByteArray.mk #[91]))]) 0))),(D.str (ByteArray.mk #[93]))]) 0)) 2 (qlenS (qstr (qnth (q62 [(D.str (qstr (qnth (q59 [(D.str (qstr (qget pd0 sn0))),(D.str (ByteArray.mk #[91]))]) 0))),(D.str (ByteArray.mk #[93]))]) 0)))) 1))then
  bif (qiteB (qiteB (qiteB (qnot (qbool (qnth (q108 [(D.str (qsubS (qstr (qnth (q62 [(D.str (qstr (qnth (q59 [(D.str (qstr (qget pd0 sn0))),(D.str (ByteArray.mk #[91]))]) 0))),(D.str (ByteArray.mk #[93]))]) 0)) 0 2))]) 1))) Bool.true (qcmp BinOp.lss (qlenS (qsubS (qstr (qnth (q62 [(D.str (qstr (qnth (q59 [(D.str (qstr (qget pd0 sn0))),(D.str (ByteArray.mk #[91]))]) 0))),(D.str (ByteArray.mk #[93]))]) 0)) 2 (qlenS (qstr (qnth (q62 [(D.str (qstr (qnth (q59 [(D.str (qstr (qget pd0 sn0))),(D.str (ByteArray.mk #[91]))]) 0))),(D.str (ByteArray.mk #[93]))]) 0))))) 2)) Bool.true (qiteB (qcmp BinOp.neq (qidxS (qsubS (qstr (qnth (q62 [(D.str (qstr (qnth (q59 [(D.str (qstr (qget pd0 sn0))),(D.str (ByteArray.mk #[91]))]) 0))),(D.str (ByteArray.mk #[93]))]) 0)) 2 (qlenS (qstr (qnth (q62 [(D.str (qstr (qnth (q59 [(D.str (qstr (qget pd0 sn0))),(D.str (ByteArray.mk #[91]))]) 0))),(D.str (ByteArray.mk #[93]))]) 0)))) 0) 43) (qcmp BinOp.neq (qidxS (qsubS (qstr (qnth (q62 [(D.str (qstr (qnth (q59 [(D.str (qstr (qget pd0 sn0))),(D.str (ByteArray.mk #[91]))]) 0))),(D.str (ByteArray.mk #[93]))]) 0)) 2 (qlenS (qstr (qnth (q62 [(D.str (qstr (qnth (q59 [(D.str (qstr (qget pd0 sn0))),(D.str (ByteArray.mk #[91]))]) 0))),(D.str (ByteArray.mk #[93]))]) 0)))) 0) 45) Bool.false)) Bool.true (qcmp BinOp.eql (qidxS (qsubS (qstr (qnth (q62 [(D.str (qstr (qnth (q59 [(D.str (qstr (qget pd0 sn0))),(D.str (ByteArray.mk #[91]))]) 0))),(D.str (ByteArray.mk #[93]))]) 0)) 2 (qlenS (qstr (qnth (q62 [(D.str (qstr (qnth (q59 [(D.str (qstr (qget pd0 sn0))),(D.str (ByteArray.mk #[91]))]) 0))),(D.str (ByteArray.mk #[93]))]) 0)))) 1) 45))then
  bif (qeqD pd0 pd0)then
  bif (qeqD (D.bool pb1) (D.bool pb1))then
  bif (qeqD (D.bool pb2) (D.bool pb2))then
  some [(D.int 0),(D.int 0),(D.bool Bool.true),(D.bool sb2)]
  else
  none
  else
  none
  else
  none
  else
  bif (qcmp BinOp.leq 0 1)then
  bif (qcmp BinOp.leq 1 (qlenS (qsubS (qstr (qnth (q62 [(D.str (qstr (qnth (q59 [(D.str (qstr (qget pd0 sn0))),(D.str (ByteArray.mk #[91]))]) 0))),(D.str (ByteArray.mk #[93]))]) 0)) 2 (qlenS (qstr (qnth (q62 [(D.str (qstr (qnth (q59 [(D.str (qstr (qget pd0 sn0))),(D.str (ByteArray.mk #[91]))]) 0))),(D.str (ByteArray.mk #[93]))]) 0))))))then
  bif (qcmp BinOp.leq (qlenS (qsubS (qstr (qnth (q62 [(D.str (qstr (qnth (q59 [(D.str (qstr (qget pd0 sn0))),(D.str (ByteArray.mk #[91]))]) 0))),(D.str (ByteArray.mk #[93]))]) 0)) 2 (qlenS (qstr (qnth (q62 [(D.str (qstr (qnth (q59 [(D.str (qstr (qget pd0 sn0))),(D.str (ByteArray.mk #[91]))]) 0))),(D.str (ByteArray.mk #[93]))]) 0))))) (qlenS (qsubS (qstr (qnth (q62 [(D.str (qstr (qnth (q59 [(D.str (qstr (qget pd0 sn0))),(D.str (ByteArray.mk #[91]))]) 0))),(D.str (ByteArray.mk #[93]))]) 0)) 2 (qlenS (qstr (qnth (q62 [(D.str (qstr (qnth (q59 [(D.str (qstr (qget pd0 sn0))),(D.str (ByteArray.mk #[91]))]) 0))),(D.str (ByteArray.mk #[93]))]) 0))))))then
  bif (qsome (q36 [(D.str (qsubS (qsubS (qstr (qnth (q62 [(D.str (qstr (qnth (q59 [(D.str (qstr (qget pd0 sn0))),(D.str (ByteArray.mk #[91]))]) 0))),(D.str (ByteArray.mk #[93]))]) 0)) 2 (qlenS (qstr (qnth (q62 [(D.str (qstr (qnth (q59 [(D.str (qstr (qget pd0 sn0))),(D.str (ByteArray.mk #[91]))]) 0))),(D.str (ByteArray.mk #[93]))]) 0)))) 1 (qlenS (qsubS (qstr (qnth (q62 [(D.str (qstr (qnth (q59 [(D.str (qstr (qget pd0 sn0))),(D.str (ByteArray.mk #[91]))]) 0))),(D.str (ByteArray.mk #[93]))]) 0)) 2 (qlenS (qstr (qnth (q62 [(D.str (qstr (qnth (q59 [(D.str (qstr (qget pd0 sn0))),(D.str (ByteArray.mk #[91]))]) 0))),(D.str (ByteArray.mk #[93]))]) 0)))))))]))then
  bif (qnot (qbool (qnth (q36 [(D.str (qsubS (qsubS (qstr (qnth (q62 [(D.str (qstr (qnth (q59 [(D.str (qstr (qget pd0 sn0))),(D.str (ByteArray.mk #[91]))]) 0))),(D.str (ByteArray.mk #[93]))]) 0)) 2 (qlenS (qstr (qnth (q62 [(D.str (qstr (qnth (q59 [(D.str (qstr (qget pd0 sn0))),(D.str (ByteArray.mk #[91]))]) 0))),(D.str (ByteArray.mk #[93]))]) 0)))) 1 (qlenS (qsubS (qstr (qnth (q62 [(D.str (qstr (qnth (q59 [(D.str (qstr (qget pd0 sn0))),(D.str (ByteArray.mk #[91]))]) 0))),(D.str (ByteArray.mk #[93]))]) 0)) 2 (qlenS (qstr (qnth (q62 [(D.str (qstr (qnth (q59 [(D.str (qstr (qget pd0 sn0))),(D.str (ByteArray.mk #[91]))]) 0))),(D.str (ByteArray.mk #[93]))]) 0)))))))]) 1)))then
  bif (qeqD pd0 pd0)then
  bif (qeqD (D.bool pb1) (D.bool pb1))then
  bif (qeqD (D.bool pb2) (D.bool pb2))then
  some [(D.int 0),(D.int 0),(D.bool Bool.true),(D.bool sb2)]
  else
  none
  else
  none
  else
  none
  else
  bif (qinbS (qsubS (qstr (qnth (q62 [(D.str (qstr (qnth (q59 [(D.str (qstr (qget pd0 sn0))),(D.str (ByteArray.mk #[91]))]) 0))),(D.str (ByteArray.mk #[93]))]) 0)) 2 (qlenS (qstr (qnth (q62 [(D.str (qstr (qnth (q59 [(D.str (qstr (qget pd0 sn0))),(D.str (ByteArray.mk #[91]))]) 0))),(D.str (ByteArray.mk #[93]))]) 0)))) 0)then
  bif (qcmp BinOp.eql (qidxS (qsubS (qstr (qnth (q62 [(D.str (qstr (qnth (q59 [(D.str (qstr (qget pd0 sn0))),(D.str (ByteArray.mk #[91]))]) 0))),(D.str (ByteArray.mk #[93]))]) 0)) 2 (qlenS (qstr (qnth (q62 [(D.str (qstr (qnth (q59 [(D.str (qstr (qget pd0 sn0))),(D.str (ByteArray.mk #[91]))]) 0))),(D.str (ByteArray.mk #[93]))]) 0)))) 0) 43)then
  bif sb2 then
  bif (qeqD pd0 pd0)then
  bif (qeqD (D.bool pb1) (D.bool pb1))then
  bif (qeqD (D.bool pb2) (D.bool pb2))then
  some [(D.int (qint (qnth (q108 [(D.str (qsubS (qstr (qnth (q62 [(D.str (qstr (qnth (q59 [(D.str (qstr (qget pd0 sn0))),(D.str (ByteArray.mk #[91]))]) 0))),(D.str (ByteArray.mk #[93]))]) 0)) 0 2))]) 0))),(D.int (qint (qnth (q36 [(D.str (qsubS (qsubS (qstr (qnth (q62 [(D.str (qstr (qnth (q59 [(D.str (qstr (qget pd0 sn0))),(D.str (ByteArray.mk #[91]))]) 0))),(D.str (ByteArray.mk #[93]))]) 0)) 2 (qlenS (qstr (qnth (q62 [(D.str (qstr (qnth (q59 [(D.str (qstr (qget pd0 sn0))),(D.str (ByteArray.mk #[91]))]) 0))),(D.str (ByteArray.mk #[93]))]) 0)))) 1 (qlenS (qsubS (qstr (qnth (q62 [(D.str (qstr (qnth (q59 [(D.str (qstr (qget pd0 sn0))),(D.str (ByteArray.mk #[91]))]) 0))),(D.str (ByteArray.mk #[93]))]) 0)) 2 (qlenS (qstr (qnth (q62 [(D.str (qstr (qnth (q59 [(D.str (qstr (qget pd0 sn0))),(D.str (ByteArray.mk #[91]))]) 0))),(D.str (ByteArray.mk #[93]))]) 0)))))))]) 0))),(D.bool sb1),(D.bool Bool.true)]
  else
  none
  else
  none
  else
  none
  else
  bif (qeqD pd0 pd0)then
  bif (qeqD (D.bool pb1) (D.bool pb1))then
  bif (qeqD (D.bool pb2) (D.bool pb2))then
  some [(D.int (qint (qnth (q108 [(D.str (qsubS (qstr (qnth (q62 [(D.str (qstr (qnth (q59 [(D.str (qstr (qget pd0 sn0))),(D.str (ByteArray.mk #[91]))]) 0))),(D.str (ByteArray.mk #[93]))]) 0)) 0 2))]) 0))),(D.int (qint (qnth (q36 [(D.str (qsubS (qsubS (qstr (qnth (q62 [(D.str (qstr (qnth (q59 [(D.str (qstr (qget pd0 sn0))),(D.str (ByteArray.mk #[91]))]) 0))),(D.str (ByteArray.mk #[93]))]) 0)) 2 (qlenS (qstr (qnth (q62 [(D.str (qstr (qnth (q59 [(D.str (qstr (qget pd0 sn0))),(D.str (ByteArray.mk #[91]))]) 0))),(D.str (ByteArray.mk #[93]))]) 0)))) 1 (qlenS (qsubS (qstr (qnth (q62 [(D.str (qstr (qnth (q59 [(D.str (qstr (qget pd0 sn0))),(D.str (ByteArray.mk #[91]))]) 0))),(D.str (ByteArray.mk #[93]))]) 0)) 2 (qlenS (qstr (qnth (q62 [(D.str (qstr (qnth (q59 [(D.str (qstr (qget pd0 sn0))),(D.str (ByteArray.mk #[91]))]) 0))),(D.str (ByteArray.mk #[93]))]) 0)))))))]) 0))),(D.bool sb1),(D.bool (qcmp BinOp.gtr (qint (qnth (q36 [(D.str (qsubS (qsubS (qstr (qnth (q62 [(D.str (qstr (qnth (q59 [(D.str (qstr (qget pd0 sn0))),(D.str (ByteArray.mk #[91]))]) 0))),(D.str (ByteArray.mk #[93]))]) 0)) 2 (qlenS (qstr (qnth (q62 [(D.str (qstr (qnth (q59 [(D.str (qstr (qget pd0 sn0))),(D.str (ByteArray.mk #[91]))]) 0))),(D.str (ByteArray.mk #[93]))]) 0)))) 1 (qlenS (qsubS (qstr (qnth (q62 [(D.str (qstr (qnth (q59 [(D.str (qstr (qget pd0 sn0))),(D.str (ByteArray.mk #[91]))]) 0))),(D.str (ByteArray.mk #[93]))]) 0)) 2 (qlenS (qstr (qnth (q62 [(D.str (qstr (qnth (q59 [(D.str (qstr (qget pd0 sn0))),(D.str (ByteArray.mk #[91]))]) 0))),(D.str (ByteArray.mk #[93]))]) 0)))))))]) 0)) 127))]
  else
  none
  else
  none
  else
  none
  else
  bif sb2 then
  bif (qeqD pd0 pd0)then
  bif (qeqD (D.bool pb1) (D.bool pb1))then
  bif (qeqD (D.bool pb2) (D.bool pb2))then
  some [(D.int (qint (qnth (q108 [(D.str (qsubS (qstr (qnth (q62 [(D.str (qstr (qnth (q59 [(D.str (qstr (qget pd0 sn0))),(D.str (ByteArray.mk #[91]))]) 0))),(D.str (ByteArray.mk #[93]))]) 0)) 0 2))]) 0))),(D.int (qun UnOp.neg IntKind.u32 (qint (qnth (q36 [(D.str (qsubS (qsubS (qstr (qnth (q62 [(D.str (qstr (qnth (q59 [(D.str (qstr (qget pd0 sn0))),(D.str (ByteArray.mk #[91]))]) 0))),(D.str (ByteArray.mk #[93]))]) 0)) 2 (qlenS (qstr (qnth (q62 [(D.str (qstr (qnth (q59 [(D.str (qstr (qget pd0 sn0))),(D.str (ByteArray.mk #[91]))]) 0))),(D.str (ByteArray.mk #[93]))]) 0)))) 1 (qlenS (qsubS (qstr (qnth (q62 [(D.str (qstr (qnth (q59 [(D.str (qstr (qget pd0 sn0))),(D.str (ByteArray.mk #[91]))]) 0))),(D.str (ByteArray.mk #[93]))]) 0)) 2 (qlenS (qstr (qnth (q62 [(D.str (qstr (qnth (q59 [(D.str (qstr (qget pd0 sn0))),(D.str (ByteArray.mk #[91]))]) 0))),(D.str (ByteArray.mk #[93]))]) 0)))))))]) 0)))),(D.bool sb1),(D.bool Bool.true)]
  else
  none
  else
  none
  else
  none
  else
  bif (qeqD pd0 pd0)then
  bif (qeqD (D.bool pb1) (D.bool pb1))then
  bif (qeqD (D.bool pb2) (D.bool pb2))then
  some [(D.int (qint (qnth (q108 [(D.str (qsubS (qstr (qnth (q62 [(D.str (qstr (qnth (q59 [(D.str (qstr (qget pd0 sn0))),(D.str (ByteArray.mk #[91]))]) 0))),(D.str (ByteArray.mk #[93]))]) 0)) 0 2))]) 0))),(D.int (qun UnOp.neg IntKind.u32 (qint (qnth (q36 [(D.str (qsubS (qsubS (qstr (qnth (q62 [(D.str (qstr (qnth (q59 [(D.str (qstr (qget pd0 sn0))),(D.str (ByteArray.mk #[91]))]) 0))),(D.str (ByteArray.mk #[93]))]) 0)) 2 (qlenS (qstr (qnth (q62 [(D.str (qstr (qnth (q59 [(D.str (qstr (qget pd0 sn0))),(D.str (ByteArray.mk #[91]))]) 0))),(D.str (ByteArray.mk #[93]))]) 0)))) 1 (qlenS (qsubS (qstr (qnth (q62 [(D.str (qstr (qnth (q59 [(D.str (qstr (qget pd0 sn0))),(D.str (ByteArray.mk #[91]))]) 0))),(D.str (ByteArray.mk #[93]))]) 0)) 2 (qlenS (qstr (qnth (q62 [(D.str (qstr (qnth (q59 [(D.str (qstr (qget pd0 sn0))),(D.str (ByteArray.mk #[91]))]) 0))),(D.str (ByteArray.mk #[93]))]) 0)))))))]) 0)))),(D.bool sb1),(D.bool (qcmp BinOp.gtr (qint (qnth (q36 [(D.str (qsubS (qsubS (qstr (qnth (q62 [(D.str (qstr (qnth (q59 [(D.str (qstr (qget pd0 sn0))),(D.str (ByteArray.mk #[91]))]) 0))),(D.str (ByteArray.mk #[93]))]) 0)) 2 (qlenS (qstr (qnth (q62 [(D.str (qstr (qnth (q59 [(D.str (qstr (qget pd0 sn0))),(D.str (ByteArray.mk #[91]))]) 0))),(D.str (ByteArray.mk #[93]))]) 0)))) 1 (qlenS (qsubS (qstr (qnth (q62 [(D.str (qstr (qnth (q59 [(D.str (qstr (qget pd0 sn0))),(D.str (ByteArray.mk #[91]))]) 0))),(D.str (ByteArray.mk #[93]))]) 0)) 2 (qlenS (qstr (qnth (q62 [(D.str (qstr (qnth (q59 [(D.str (qstr (qget pd0 sn0))),(D.str (ByteArray.mk #[91]))]) 0))),(D.str (ByteArray.mk #[93]))]) 0)))))))]) 0)) 128))]
  else
  none
  else
  none
  else
  none
  else
  none
  else
  none
  else
  none
  else
  none
  else
  none
  else
  none
  else
  none
  else
  none
  else
  none
  else
  none
  else
  none
  else
  none
  else
  none
  else
  none
  else
  none
  else
  none
  else
  none
  else
  none
  else
  none
  else
  none:=by kernel_rfl
 rw[h];simp only[qeqD_self,qeqI_self,qeq_len,show qcmp BinOp.eql 0 (qlen (D.list []))=true from qeq_len [],show∀a,qcmp BinOp.eql 1 (qlen (D.list [a]))=true from fun a=>qeq_len [a],show∀a b,qcmp BinOp.eql 2 (qlen (D.list [a,b]))=true from fun a b=>qeq_len [a,b],show∀a b c,qcmp BinOp.eql 3 (qlen (D.list [a,b,c]))=true from fun a b c=>qeq_len [a,b,c],show∀a b c d,qcmp BinOp.eql 4 (qlen (D.list [a,b,c,d]))=true from fun a b c d=>qeq_len [a,b,c,d],cond_true]
noncomputable def q139:List D→Option (List D):=veil (F139)
theorem q139_eq:q139=F139:=veil_eq _
noncomputable def tb139:Tb:=Tb.addF tb106 139 S139 (q139)
theorem ok_tb139:TbOk env (tb139):=addFunF ok_tb106 139 (by kernel_rfl) _ (q139_eq)
def S66:FunS:=⟨[⟨true,(.ptr 0 0)⟩,⟨true,(.dat 24)⟩],[(.cells [⟨false,(.rows 9)⟩,⟨false,(.func 38 [] [])⟩,⟨true, .bool⟩,⟨false, .bool⟩,⟨false, .bool⟩,⟨false, .bool⟩])],[⟨true,(.dat 24)⟩],[(.cells [⟨false,(.rows 9)⟩,⟨true,(.func 38 [] [])⟩,⟨true, .bool⟩,⟨false, .bool⟩,⟨false, .bool⟩,⟨false, .bool⟩])]⟩
noncomputable def F66:List D→Option (List D):=liftX env tb139 60 12 66 S66
theorem F66_eq (pd0:D) (pb1:Bool) (pb2:Bool) (pb3:Bool) (sd0:D) (sb1:Bool):F66 [pd0,(D.bool pb1),(D.bool pb2),(D.bool pb3),sd0,(D.bool sb1)] =
 bif (qsome (q105 [pd0,(D.bool pb1),(D.bool pb2),(D.bool pb3),(D.int 1),(D.bool sb1)]))then
 bif (qbool (qnth (q105 [pd0,(D.bool pb1),(D.bool pb2),(D.bool pb3),(D.int 1),(D.bool sb1)]) 0))then
 bif (qsome (q107 [pd0,(D.bool pb1),(D.bool pb2),(D.bool pb3),(D.int 0),(D.bool (qbool (qnth (q105 [pd0,(D.bool pb1),(D.bool pb2),(D.bool pb3),(D.int 1),(D.bool sb1)]) 1)))]))then
 some [(D.agg [(D.int (qint (qfld sd0 0))),(D.int (qint (qfld sd0 1))),(D.int (qint (qfld sd0 2))),(D.int (qint (qfld sd0 3))),(D.int (qint (qfld sd0 4))),(D.int (qint (qfld sd0 5))),(D.int (qint (qnth (q107 [pd0,(D.bool pb1),(D.bool pb2),(D.bool pb3),(D.int 0),(D.bool (qbool (qnth (q105 [pd0,(D.bool pb1),(D.bool pb2),(D.bool pb3),(D.int 1),(D.bool sb1)]) 1)))]) 0))),(D.int (qint (qfld sd0 7))),(D.int (qint (qfld sd0 8)))]),(D.bool (qbool (qnth (q107 [pd0,(D.bool pb1),(D.bool pb2),(D.bool pb3),(D.int 0),(D.bool (qbool (qnth (q105 [pd0,(D.bool pb1),(D.bool pb2),(D.bool pb3),(D.int 1),(D.bool sb1)]) 1)))]) 1)))]
 else
 none
 else
 some [sd0,(D.bool (qbool (qnth (q105 [pd0,(D.bool pb1),(D.bool pb2),(D.bool pb3),(D.int 1),(D.bool sb1)]) 1)))]
 else
 none:=by
 have h:F66 [pd0,(D.bool pb1),(D.bool pb2),(D.bool pb3),sd0,(D.bool sb1)] =
  bif (qsome (q105 [pd0,(D.bool pb1),(D.bool pb2),(D.bool pb3),(D.int 1),(D.bool sb1)]))then
  bif (qbool (qnth (q105 [pd0,(D.bool pb1),(D.bool pb2),(D.bool pb3),(D.int 1),(D.bool sb1)]) 0))then
  bif (qsome (q107 [pd0,(D.bool pb1),(D.bool pb2),(D.bool pb3),(D.int 0),(D.bool (qbool (qnth (q105 [pd0,(D.bool pb1),(D.bool pb2),(D.bool pb3),(D.int 1),(D.bool sb1)]) 1)))]))then
  bif (qeqD pd0 pd0)then
  bif (qeqD (D.bool pb1) (D.bool pb1))then
  bif (qeqD (D.bool pb2) (D.bool pb2))then
  bif (qeqD (D.bool pb3) (D.bool pb3))then
  some [(D.agg [(D.int (qint (qfld sd0 0))),(D.int (qint (qfld sd0 1))),(D.int (qint (qfld sd0 2))),(D.int (qint (qfld sd0 3))),(D.int (qint (qfld sd0 4))),(D.int (qint (qfld sd0 5))),(D.int (qint (qnth (q107 [pd0,(D.bool pb1),(D.bool pb2),(D.bool pb3),(D.int 0),(D.bool (qbool (qnth (q105 [pd0,(D.bool pb1),(D.bool pb2),(D.bool pb3),(D.int 1),(D.bool sb1)]) 1)))]) 0))),(D.int (qint (qfld sd0 7))),(D.int (qint (qfld sd0 8)))]),(D.bool (qbool (qnth (q107 [pd0,(D.bool pb1),(D.bool pb2),(D.bool pb3),(D.int 0),(D.bool (qbool (qnth (q105 [pd0,(D.bool pb1),(D.bool pb2),(D.bool pb3),(D.int 1),(D.bool sb1)]) 1)))]) 1)))]
  else
  none
  else
  none
  else
  none
  else
  none
  else
  none
  else
  bif (qeqD pd0 pd0)then
  bif (qeqD (D.bool pb1) (D.bool pb1))then
  bif (qeqD (D.bool pb2) (D.bool pb2))then
  bif (qeqD (D.bool pb3) (D.bool pb3))then
  some [sd0,(D.bool (qbool (qnth (q105 [pd0,(D.bool pb1),(D.bool pb2),(D.bool pb3),(D.int 1),(D.bool sb1)]) 1)))]
  else
  none
  else
  none
  else
  none
  else
  none
  else
  none:=by kernel_rfl
 rw[h];simp only[qeqD_self,qeqI_self,qeq_len,show qcmp BinOp.eql 0 (qlen (D.list []))=true from qeq_len [],show∀a,qcmp BinOp.eql 1 (qlen (D.list [a]))=true from fun a=>qeq_len [a],show∀a b,qcmp BinOp.eql 2 (qlen (D.list [a,b]))=true from fun a b=>qeq_len [a,b],show∀a b c,qcmp BinOp.eql 3 (qlen (D.list [a,b,c]))=true from fun a b c=>qeq_len [a,b,c],show∀a b c d,qcmp BinOp.eql 4 (qlen (D.list [a,b,c,d]))=true from fun a b c d=>qeq_len [a,b,c,d],cond_true]
noncomputable def q66:List D→Option (List D):=veil (F66)
theorem q66_eq:q66=F66:=veil_eq _
noncomputable def tb66:Tb:=Tb.addF tb139 66 S66 (q66)
theorem ok_tb66:TbOk env (tb66):=addFunF ok_tb139 66 (by kernel_rfl) _ (q66_eq)
def S110:FunS:=⟨[⟨true,(.ptr 0 0)⟩,⟨true,(.dat 24)⟩,⟨true, .bool⟩],[(.cells [⟨false,(.rows 9)⟩,⟨false,(.func 38 [] [])⟩,⟨true, .bool⟩,⟨true, .bool⟩,⟨false, .bool⟩,⟨false, .bool⟩])],[⟨true,(.dat 24)⟩],[(.cells [⟨false,(.rows 9)⟩,⟨true,(.func 38 [] [])⟩,⟨true, .bool⟩,⟨true, .bool⟩,⟨false, .bool⟩,⟨false, .bool⟩])]⟩
noncomputable def F110:List D→Option (List D):=liftX env tb66 60 12 110 S110
theorem F110_eq (pd0:D) (pb1:Bool) (pb2:Bool) (sd0:D) (sb1:Bool) (sb2:Bool) (sb3:Bool):F110 [pd0,(D.bool pb1),(D.bool pb2),sd0,(D.bool sb1),(D.bool sb2),(D.bool sb3)] =
 bif (qsome (q105 [pd0,(D.bool sb3),(D.bool pb1),(D.bool pb2),(D.int 2),(D.bool sb2)]))then
 bif (qnot (qbool (qnth (q105 [pd0,(D.bool sb3),(D.bool pb1),(D.bool pb2),(D.int 2),(D.bool sb2)]) 0)))then
 some [sd0,(D.bool (qbool (qnth (q105 [pd0,(D.bool sb3),(D.bool pb1),(D.bool pb2),(D.int 2),(D.bool sb2)]) 1))),(D.bool sb3)]
 else
 bif sb1 then
 bif (qsome (q139 [pd0,(D.bool pb1),(D.bool pb2),(D.int 0),(D.bool (qbool (qnth (q105 [pd0,(D.bool sb3),(D.bool pb1),(D.bool pb2),(D.int 2),(D.bool sb2)]) 1))),(D.bool sb3)]))then
 bif (qsome (q107 [pd0,(D.bool (qbool (qnth (q139 [pd0,(D.bool pb1),(D.bool pb2),(D.int 0),(D.bool (qbool (qnth (q105 [pd0,(D.bool sb3),(D.bool pb1),(D.bool pb2),(D.int 2),(D.bool sb2)]) 1))),(D.bool sb3)]) 3))),(D.bool pb1),(D.bool pb2),(D.int 1),(D.bool (qbool (qnth (q139 [pd0,(D.bool pb1),(D.bool pb2),(D.int 0),(D.bool (qbool (qnth (q105 [pd0,(D.bool sb3),(D.bool pb1),(D.bool pb2),(D.int 2),(D.bool sb2)]) 1))),(D.bool sb3)]) 2)))]))then
 some [(D.agg [(D.int (qint (qfld sd0 0))),(D.int (qint (qnth (q139 [pd0,(D.bool pb1),(D.bool pb2),(D.int 0),(D.bool (qbool (qnth (q105 [pd0,(D.bool sb3),(D.bool pb1),(D.bool pb2),(D.int 2),(D.bool sb2)]) 1))),(D.bool sb3)]) 1))),(D.int (qint (qfld sd0 2))),(D.int (qint (qfld sd0 3))),(D.int (qint (qfld sd0 4))),(D.int (qint (qfld sd0 5))),(D.int (qint (qnth (q107 [pd0,(D.bool (qbool (qnth (q139 [pd0,(D.bool pb1),(D.bool pb2),(D.int 0),(D.bool (qbool (qnth (q105 [pd0,(D.bool sb3),(D.bool pb1),(D.bool pb2),(D.int 2),(D.bool sb2)]) 1))),(D.bool sb3)]) 3))),(D.bool pb1),(D.bool pb2),(D.int 1),(D.bool (qbool (qnth (q139 [pd0,(D.bool pb1),(D.bool pb2),(D.int 0),(D.bool (qbool (qnth (q105 [pd0,(D.bool sb3),(D.bool pb1),(D.bool pb2),(D.int 2),(D.bool sb2)]) 1))),(D.bool sb3)]) 2)))]) 0))),(D.int (qint (qnth (q139 [pd0,(D.bool pb1),(D.bool pb2),(D.int 0),(D.bool (qbool (qnth (q105 [pd0,(D.bool sb3),(D.bool pb1),(D.bool pb2),(D.int 2),(D.bool sb2)]) 1))),(D.bool sb3)]) 0))),(D.int (qint (qfld sd0 8)))]),(D.bool (qbool (qnth (q107 [pd0,(D.bool (qbool (qnth (q139 [pd0,(D.bool pb1),(D.bool pb2),(D.int 0),(D.bool (qbool (qnth (q105 [pd0,(D.bool sb3),(D.bool pb1),(D.bool pb2),(D.int 2),(D.bool sb2)]) 1))),(D.bool sb3)]) 3))),(D.bool pb1),(D.bool pb2),(D.int 1),(D.bool (qbool (qnth (q139 [pd0,(D.bool pb1),(D.bool pb2),(D.int 0),(D.bool (qbool (qnth (q105 [pd0,(D.bool sb3),(D.bool pb1),(D.bool pb2),(D.int 2),(D.bool sb2)]) 1))),(D.bool sb3)]) 2)))]) 1))),(D.bool (qbool (qnth (q139 [pd0,(D.bool pb1),(D.bool pb2),(D.int 0),(D.bool (qbool (qnth (q105 [pd0,(D.bool sb3),(D.bool pb1),(D.bool pb2),(D.int 2),(D.bool sb2)]) 1))),(D.bool sb3)]) 3)))]
 else
 none
 else
 none
 else
 bif (qsome (q107 [pd0,(D.bool sb3),(D.bool pb1),(D.bool pb2),(D.int 0),(D.bool (qbool (qnth (q105 [pd0,(D.bool sb3),(D.bool pb1),(D.bool pb2),(D.int 2),(D.bool sb2)]) 1)))]))then
 bif (qsome (q139 [pd0,(D.bool pb1),(D.bool pb2),(D.int 1),(D.bool (qbool (qnth (q107 [pd0,(D.bool sb3),(D.bool pb1),(D.bool pb2),(D.int 0),(D.bool (qbool (qnth (q105 [pd0,(D.bool sb3),(D.bool pb1),(D.bool pb2),(D.int 2),(D.bool sb2)]) 1)))]) 1))),(D.bool sb3)]))then
 some [(D.agg [(D.int (qint (qfld sd0 0))),(D.int (qint (qnth (q139 [pd0,(D.bool pb1),(D.bool pb2),(D.int 1),(D.bool (qbool (qnth (q107 [pd0,(D.bool sb3),(D.bool pb1),(D.bool pb2),(D.int 0),(D.bool (qbool (qnth (q105 [pd0,(D.bool sb3),(D.bool pb1),(D.bool pb2),(D.int 2),(D.bool sb2)]) 1)))]) 1))),(D.bool sb3)]) 1))),(D.int (qint (qfld sd0 2))),(D.int (qint (qfld sd0 3))),(D.int (qint (qfld sd0 4))),(D.int (qint (qfld sd0 5))),(D.int (qint (qnth (q107 [pd0,(D.bool sb3),(D.bool pb1),(D.bool pb2),(D.int 0),(D.bool (qbool (qnth (q105 [pd0,(D.bool sb3),(D.bool pb1),(D.bool pb2),(D.int 2),(D.bool sb2)]) 1)))]) 0))),(D.int (qint (qnth (q139 [pd0,(D.bool pb1),(D.bool pb2),(D.int 1),(D.bool (qbool (qnth (q107 [pd0,(D.bool sb3),(D.bool pb1),(D.bool pb2),(D.int 0),(D.bool (qbool (qnth (q105 [pd0,(D.bool sb3),(D.bool pb1),(D.bool pb2),(D.int 2),(D.bool sb2)]) 1)))]) 1))),(D.bool sb3)]) 0))),(D.int (qint (qfld sd0 8)))]),(D.bool (qbool (qnth (q139 [pd0,(D.bool pb1),(D.bool pb2),(D.int 1),(D.bool (qbool (qnth (q107 [pd0,(D.bool sb3),(D.bool pb1),(D.bool pb2),(D.int 0),(D.bool (qbool (qnth (q105 [pd0,(D.bool sb3),(D.bool pb1),(D.bool pb2),(D.int 2),(D.bool sb2)]) 1)))]) 1))),(D.bool sb3)]) 2))),(D.bool (qbool (qnth (q139 [pd0,(D.bool pb1),(D.bool pb2),(D.int 1),(D.bool (qbool (qnth (q107 [pd0,(D.bool sb3),(D.bool pb1),(D.bool pb2),(D.int 0),(D.bool (qbool (qnth (q105 [pd0,(D.bool sb3),(D.bool pb1),(D.bool pb2),(D.int 2),(D.bool sb2)]) 1)))]) 1))),(D.bool sb3)]) 3)))]
 else
 none
 else
 none
 else
 none:=by
 have h:F110 [pd0,(D.bool pb1),(D.bool pb2),sd0,(D.bool sb1),(D.bool sb2),(D.bool sb3)] =
  bif (qsome (q105 [pd0,(D.bool sb3),(D.bool pb1),(D.bool pb2),(D.int 2),(D.bool sb2)]))then
  bif (qnot (qbool (qnth (q105 [pd0,(D.bool sb3),(D.bool pb1),(D.bool pb2),(D.int 2),(D.bool sb2)]) 0)))then
  bif (qeqD pd0 pd0)then
  bif (qeqD (D.bool pb1) (D.bool pb1))then
  bif (qeqD (D.bool pb2) (D.bool pb2))then
  some [sd0,(D.bool (qbool (qnth (q105 [pd0,(D.bool sb3),(D.bool pb1),(D.bool pb2),(D.int 2),(D.bool sb2)]) 1))),(D.bool sb3)]
  else
  none
  else
  none
  else
  none
  else
  bif sb1 then
  bif (qsome (q139 [pd0,(D.bool pb1),(D.bool pb2),(D.int 0),(D.bool (qbool (qnth (q105 [pd0,(D.bool sb3),(D.bool pb1),(D.bool pb2),(D.int 2),(D.bool sb2)]) 1))),(D.bool sb3)]))then
  bif (qsome (q107 [pd0,(D.bool (qbool (qnth (q139 [pd0,(D.bool pb1),(D.bool pb2),(D.int 0),(D.bool (qbool (qnth (q105 [pd0,(D.bool sb3),(D.bool pb1),(D.bool pb2),(D.int 2),(D.bool sb2)]) 1))),(D.bool sb3)]) 3))),(D.bool pb1),(D.bool pb2),(D.int 1),(D.bool (qbool (qnth (q139 [pd0,(D.bool pb1),(D.bool pb2),(D.int 0),(D.bool (qbool (qnth (q105 [pd0,(D.bool sb3),(D.bool pb1),(D.bool pb2),(D.int 2),(D.bool sb2)]) 1))),(D.bool sb3)]) 2)))]))then
  bif (qeqD pd0 pd0)then
  bif (qeqD (D.bool pb1) (D.bool pb1))then
  bif (qeqD (D.bool pb2) (D.bool pb2))then
  some [(D.agg [(D.int (qint (qfld sd0 0))),(D.int (qint (qnth (q139 [pd0,(D.bool pb1),(D.bool pb2),(D.int 0),(D.bool (qbool (qnth (q105 [pd0,(D.bool sb3),(D.bool pb1),(D.bool pb2),(D.int 2),(D.bool sb2)]) 1))),(D.bool sb3)]) 1))),(D.int (qint (qfld sd0 2))),(D.int (qint (qfld sd0 3))),(D.int (qint (qfld sd0 4))),(D.int (qint (qfld sd0 5))),(D.int (qint (qnth (q107 [pd0,(D.bool (qbool (qnth (q139 [pd0,(D.bool pb1),(D.bool pb2),(D.int 0),(D.bool (qbool (qnth (q105 [pd0,(D.bool sb3),(D.bool pb1),(D.bool pb2),(D.int 2),(D.bool sb2)]) 1))),(D.bool sb3)]) 3))),(D.bool pb1),(D.bool pb2),(D.int 1),(D.bool (qbool (qnth (q139 [pd0,(D.bool pb1),(D.bool pb2),(D.int 0),(D.bool (qbool (qnth (q105 [pd0,(D.bool sb3),(D.bool pb1),(D.bool pb2),(D.int 2),(D.bool sb2)]) 1))),(D.bool sb3)]) 2)))]) 0))),(D.int (qint (qnth (q139 [pd0,(D.bool pb1),(D.bool pb2),(D.int 0),(D.bool (qbool (qnth (q105 [pd0,(D.bool sb3),(D.bool pb1),(D.bool pb2),(D.int 2),(D.bool sb2)]) 1))),(D.bool sb3)]) 0))),(D.int (qint (qfld sd0 8)))]),(D.bool (qbool (qnth (q107 [pd0,(D.bool (qbool (qnth (q139 [pd0,(D.bool pb1),(D.bool pb2),(D.int 0),(D.bool (qbool (qnth (q105 [pd0,(D.bool sb3),(D.bool pb1),(D.bool pb2),(D.int 2),(D.bool sb2)]) 1))),(D.bool sb3)]) 3))),(D.bool pb1),(D.bool pb2),(D.int 1),(D.bool (qbool (qnth (q139 [pd0,(D.bool pb1),(D.bool pb2),(D.int 0),(D.bool (qbool (qnth (q105 [pd0,(D.bool sb3),(D.bool pb1),(D.bool pb2),(D.int 2),(D.bool sb2)]) 1))),(D.bool sb3)]) 2)))]) 1))),(D.bool (qbool (qnth (q139 [pd0,(D.bool pb1),(D.bool pb2),(D.int 0),(D.bool (qbool (qnth (q105 [pd0,(D.bool sb3),(D.bool pb1),(D.bool pb2),(D.int 2),(D.bool sb2)]) 1))),(D.bool sb3)]) 3)))]
  else
  none
  else
  none
  else
  none
  else
  none
  else
  none
  else
  bif (qsome (q107 [pd0,(D.bool sb3),(D.bool pb1),(D.bool pb2),(D.int 0),(D.bool (qbool (qnth (q105 [pd0,(D.bool sb3),(D.bool pb1),(D.bool pb2),(D.int 2),(D.bool sb2)]) 1)))]))then
  bif (qsome (q139 [pd0,(D.bool pb1),(D.bool pb2),(D.int 1),(D.bool (qbool (qnth (q107 [pd0,(D.bool sb3),(D.bool pb1),(D.bool pb2),(D.int 0),(D.bool (qbool (qnth (q105 [pd0,(D.bool sb3),(D.bool pb1),(D.bool pb2),(D.int 2),(D.bool sb2)]) 1)))]) 1))),(D.bool sb3)]))then
  bif (qeqD pd0 pd0)then
  bif (qeqD (D.bool pb1) (D.bool pb1))then
  bif (qeqD (D.bool pb2) (D.bool pb2))then
  some [(D.agg [(D.int (qint (qfld sd0 0))),(D.int (qint (qnth (q139 [pd0,(D.bool pb1),(D.bool pb2),(D.int 1),(D.bool (qbool (qnth (q107 [pd0,(D.bool sb3),(D.bool pb1),(D.bool pb2),(D.int 0),(D.bool (qbool (qnth (q105 [pd0,(D.bool sb3),(D.bool pb1),(D.bool pb2),(D.int 2),(D.bool sb2)]) 1)))]) 1))),(D.bool sb3)]) 1))),(D.int (qint (qfld sd0 2))),(D.int (qint (qfld sd0 3))),(D.int (qint (qfld sd0 4))),(D.int (qint (qfld sd0 5))),(D.int (qint (qnth (q107 [pd0,(D.bool sb3),(D.bool pb1),(D.bool pb2),(D.int 0),(D.bool (qbool (qnth (q105 [pd0,(D.bool sb3),(D.bool pb1),(D.bool pb2),(D.int 2),(D.bool sb2)]) 1)))]) 0))),(D.int (qint (qnth (q139 [pd0,(D.bool pb1),(D.bool pb2),(D.int 1),(D.bool (qbool (qnth (q107 [pd0,(D.bool sb3),(D.bool pb1),(D.bool pb2),(D.int 0),(D.bool (qbool (qnth (q105 [pd0,(D.bool sb3),(D.bool pb1),(D.bool pb2),(D.int 2),(D.bool sb2)]) 1)))]) 1))),(D.bool sb3)]) 0))),(D.int (qint (qfld sd0 8)))]),(D.bool (qbool (qnth (q139 [pd0,(D.bool pb1),(D.bool pb2),(D.int 1),(D.bool (qbool (qnth (q107 [pd0,(D.bool sb3),(D.bool pb1),(D.bool pb2),(D.int 0),(D.bool (qbool (qnth (q105 [pd0,(D.bool sb3),(D.bool pb1),(D.bool pb2),(D.int 2),(D.bool sb2)]) 1)))]) 1))),(D.bool sb3)]) 2))),(D.bool (qbool (qnth (q139 [pd0,(D.bool pb1),(D.bool pb2),(D.int 1),(D.bool (qbool (qnth (q107 [pd0,(D.bool sb3),(D.bool pb1),(D.bool pb2),(D.int 0),(D.bool (qbool (qnth (q105 [pd0,(D.bool sb3),(D.bool pb1),(D.bool pb2),(D.int 2),(D.bool sb2)]) 1)))]) 1))),(D.bool sb3)]) 3)))]
  else
  none
  else
  none
  else
  none
  else
  none
  else
  none
  else
  none:=by kernel_rfl
 rw[h];simp only[qeqD_self,qeqI_self,qeq_len,show qcmp BinOp.eql 0 (qlen (D.list []))=true from qeq_len [],show∀a,qcmp BinOp.eql 1 (qlen (D.list [a]))=true from fun a=>qeq_len [a],show∀a b,qcmp BinOp.eql 2 (qlen (D.list [a,b]))=true from fun a b=>qeq_len [a,b],show∀a b c,qcmp BinOp.eql 3 (qlen (D.list [a,b,c]))=true from fun a b c=>qeq_len [a,b,c],show∀a b c d,qcmp BinOp.eql 4 (qlen (D.list [a,b,c,d]))=true from fun a b c d=>qeq_len [a,b,c,d],cond_true]
noncomputable def q110:List D→Option (List D):=veil (F110)
theorem q110_eq:q110=F110:=veil_eq _
noncomputable def tb110:Tb:=Tb.addF tb66 110 S110 (q110)
theorem ok_tb110:TbOk env (tb110):=addFunF ok_tb66 110 (by kernel_rfl) _ (q110_eq)
def S111:FunS:=⟨[⟨true,(.ptr 0 0)⟩,⟨true, .str⟩],[(.cells [⟨false,(.rows 9)⟩,⟨false,(.func 38 [] [])⟩,⟨true, .bool⟩,⟨false, .bool⟩,⟨false, .bool⟩,⟨false, .bool⟩])],[⟨true,(.dat 24)⟩],[(.cells [⟨false,(.rows 9)⟩,⟨true,(.func 38 [] [])⟩,⟨true, .bool⟩,⟨false, .bool⟩,⟨false, .bool⟩,⟨false, .bool⟩])]⟩
noncomputable def F111:List D→Option (List D):=liftX env tb110 60 12 111 S111
theorem F111_eq (pd0:D) (pb1:Bool) (pb2:Bool) (pb3:Bool) (ss0:ByteArray) (sb1:Bool):F111 [pd0,(D.bool pb1),(D.bool pb2),(D.bool pb3),(D.str ss0),(D.bool sb1)] =
 bif (qcmpS BinOp.eql ss0 (ByteArray.mk #[99,97,108,108]))then
 bif (qsome (q105 [pd0,(D.bool pb1),(D.bool pb2),(D.bool pb3),(D.int 1),(D.bool sb1)]))then
 bif (qbool (qnth (q105 [pd0,(D.bool pb1),(D.bool pb2),(D.bool pb3),(D.int 1),(D.bool sb1)]) 0))then
 bif (qsome (q106 [pd0,(D.bool pb1),(D.bool pb2),(D.bool pb3),(D.int 0),(D.bool (qbool (qnth (q105 [pd0,(D.bool pb1),(D.bool pb2),(D.bool pb3),(D.int 1),(D.bool sb1)]) 1)))]))then
 some [(D.agg [(D.int 0),(D.int (qint (qnth (q106 [pd0,(D.bool pb1),(D.bool pb2),(D.bool pb3),(D.int 0),(D.bool (qbool (qnth (q105 [pd0,(D.bool pb1),(D.bool pb2),(D.bool pb3),(D.int 1),(D.bool sb1)]) 1)))]) 0))),(D.int 23),(D.int 0),(D.int 0),(D.int 0),(D.int 0),(D.int 0),(D.int 0)]),(D.bool (qbool (qnth (q106 [pd0,(D.bool pb1),(D.bool pb2),(D.bool pb3),(D.int 0),(D.bool (qbool (qnth (q105 [pd0,(D.bool pb1),(D.bool pb2),(D.bool pb3),(D.int 1),(D.bool sb1)]) 1)))]) 2)))]
 else
 none
 else
 some [(D.agg [(D.int 0),(D.int 0),(D.int 23),(D.int 0),(D.int 0),(D.int 0),(D.int 0),(D.int 0),(D.int 0)]),(D.bool (qbool (qnth (q105 [pd0,(D.bool pb1),(D.bool pb2),(D.bool pb3),(D.int 1),(D.bool sb1)]) 1)))]
 else
 none
 else
 bif (qcmpS BinOp.eql ss0 (ByteArray.mk #[106,117,109,112,116]))then
 bif (qsome (q105 [pd0,(D.bool pb1),(D.bool pb2),(D.bool pb3),(D.int 2),(D.bool sb1)]))then
 bif (qbool (qnth (q105 [pd0,(D.bool pb1),(D.bool pb2),(D.bool pb3),(D.int 2),(D.bool sb1)]) 0))then
 bif (qsome (q107 [pd0,(D.bool pb1),(D.bool pb2),(D.bool pb3),(D.int 0),(D.bool (qbool (qnth (q105 [pd0,(D.bool pb1),(D.bool pb2),(D.bool pb3),(D.int 2),(D.bool sb1)]) 1)))]))then
 bif (qsome (q106 [pd0,(D.bool pb1),(D.bool pb2),(D.bool pb3),(D.int 1),(D.bool (qbool (qnth (q107 [pd0,(D.bool pb1),(D.bool pb2),(D.bool pb3),(D.int 0),(D.bool (qbool (qnth (q105 [pd0,(D.bool pb1),(D.bool pb2),(D.bool pb3),(D.int 2),(D.bool sb1)]) 1)))]) 1)))]))then
 some [(D.agg [(D.int 0),(D.int (qint (qnth (q106 [pd0,(D.bool pb1),(D.bool pb2),(D.bool pb3),(D.int 1),(D.bool (qbool (qnth (q107 [pd0,(D.bool pb1),(D.bool pb2),(D.bool pb3),(D.int 0),(D.bool (qbool (qnth (q105 [pd0,(D.bool pb1),(D.bool pb2),(D.bool pb3),(D.int 2),(D.bool sb1)]) 1)))]) 1)))]) 0))),(D.int 22),(D.int 0),(D.int 0),(D.int 0),(D.int (qint (qnth (q107 [pd0,(D.bool pb1),(D.bool pb2),(D.bool pb3),(D.int 0),(D.bool (qbool (qnth (q105 [pd0,(D.bool pb1),(D.bool pb2),(D.bool pb3),(D.int 2),(D.bool sb1)]) 1)))]) 0))),(D.int 0),(D.int 0)]),(D.bool (qbool (qnth (q106 [pd0,(D.bool pb1),(D.bool pb2),(D.bool pb3),(D.int 1),(D.bool (qbool (qnth (q107 [pd0,(D.bool pb1),(D.bool pb2),(D.bool pb3),(D.int 0),(D.bool (qbool (qnth (q105 [pd0,(D.bool pb1),(D.bool pb2),(D.bool pb3),(D.int 2),(D.bool sb1)]) 1)))]) 1)))]) 2)))]
 else
 none
 else
 none
 else
 some [(D.agg [(D.int 0),(D.int 0),(D.int 22),(D.int 0),(D.int 0),(D.int 0),(D.int 0),(D.int 0),(D.int 0)]),(D.bool (qbool (qnth (q105 [pd0,(D.bool pb1),(D.bool pb2),(D.bool pb3),(D.int 2),(D.bool sb1)]) 1)))]
 else
 none
 else
 some [(D.agg [(D.int 0),(D.int 0),(D.int 0),(D.int 0),(D.int 0),(D.int 0),(D.int 0),(D.int 0),(D.int 0)]),(D.bool Bool.true)]:=by
 have h:F111 [pd0,(D.bool pb1),(D.bool pb2),(D.bool pb3),(D.str ss0),(D.bool sb1)] =
  bif (qcmpS BinOp.eql ss0 (ByteArray.mk #[99,97,108,108]))then
  bif (qsome (q105 [pd0,(D.bool pb1),(D.bool pb2),(D.bool pb3),(D.int 1),(D.bool sb1)]))then
  bif (qbool (qnth (q105 [pd0,(D.bool pb1),(D.bool pb2),(D.bool pb3),(D.int 1),(D.bool sb1)]) 0))then
  bif (qsome (q106 [pd0,(D.bool pb1),(D.bool pb2),(D.bool pb3),(D.int 0),(D.bool (qbool (qnth (q105 [pd0,(D.bool pb1),(D.bool pb2),(D.bool pb3),(D.int 1),(D.bool sb1)]) 1)))]))then
  bif (qeqD pd0 pd0)then
  bif (qeqD (D.bool pb1) (D.bool pb1))then
  bif (qeqD (D.bool pb2) (D.bool pb2))then
  bif (qeqD (D.bool pb3) (D.bool pb3))then
  some [(D.agg [(D.int 0),(D.int (qint (qnth (q106 [pd0,(D.bool pb1),(D.bool pb2),(D.bool pb3),(D.int 0),(D.bool (qbool (qnth (q105 [pd0,(D.bool pb1),(D.bool pb2),(D.bool pb3),(D.int 1),(D.bool sb1)]) 1)))]) 0))),(D.int 23),(D.int 0),(D.int 0),(D.int 0),(D.int 0),(D.int 0),(D.int 0)]),(D.bool (qbool (qnth (q106 [pd0,(D.bool pb1),(D.bool pb2),(D.bool pb3),(D.int 0),(D.bool (qbool (qnth (q105 [pd0,(D.bool pb1),(D.bool pb2),(D.bool pb3),(D.int 1),(D.bool sb1)]) 1)))]) 2)))]
  else
  none
  else
  none
  else
  none
  else
  none
  else
  none
  else
  bif (qeqD pd0 pd0)then
  bif (qeqD (D.bool pb1) (D.bool pb1))then
  bif (qeqD (D.bool pb2) (D.bool pb2))then
  bif (qeqD (D.bool pb3) (D.bool pb3))then
  some [(D.agg [(D.int 0),(D.int 0),(D.int 23),(D.int 0),(D.int 0),(D.int 0),(D.int 0),(D.int 0),(D.int 0)]),(D.bool (qbool (qnth (q105 [pd0,(D.bool pb1),(D.bool pb2),(D.bool pb3),(D.int 1),(D.bool sb1)]) 1)))]
  else
  none
  else
  none
  else
  none
  else
  none
  else
  none
  else
  bif (qcmpS BinOp.eql ss0 (ByteArray.mk #[106,117,109,112,116]))then
  bif (qsome (q105 [pd0,(D.bool pb1),(D.bool pb2),(D.bool pb3),(D.int 2),(D.bool sb1)]))then
  bif (qbool (qnth (q105 [pd0,(D.bool pb1),(D.bool pb2),(D.bool pb3),(D.int 2),(D.bool sb1)]) 0))then
  bif (qsome (q107 [pd0,(D.bool pb1),(D.bool pb2),(D.bool pb3),(D.int 0),(D.bool (qbool (qnth (q105 [pd0,(D.bool pb1),(D.bool pb2),(D.bool pb3),(D.int 2),(D.bool sb1)]) 1)))]))then
  bif (qsome (q106 [pd0,(D.bool pb1),(D.bool pb2),(D.bool pb3),(D.int 1),(D.bool (qbool (qnth (q107 [pd0,(D.bool pb1),(D.bool pb2),(D.bool pb3),(D.int 0),(D.bool (qbool (qnth (q105 [pd0,(D.bool pb1),(D.bool pb2),(D.bool pb3),(D.int 2),(D.bool sb1)]) 1)))]) 1)))]))then
  bif (qeqD pd0 pd0)then
  bif (qeqD (D.bool pb1) (D.bool pb1))then
  bif (qeqD (D.bool pb2) (D.bool pb2))then
  bif (qeqD (D.bool pb3) (D.bool pb3))then
  some [(D.agg [(D.int 0),(D.int (qint (qnth (q106 [pd0,(D.bool pb1),(D.bool pb2),(D.bool pb3),(D.int 1),(D.bool (qbool (qnth (q107 [pd0,(D.bool pb1),(D.bool pb2),(D.bool pb3),(D.int 0),(D.bool (qbool (qnth (q105 [pd0,(D.bool pb1),(D.bool pb2),(D.bool pb3),(D.int 2),(D.bool sb1)]) 1)))]) 1)))]) 0))),(D.int 22),(D.int 0),(D.int 0),(D.int 0),(D.int (qint (qnth (q107 [pd0,(D.bool pb1),(D.bool pb2),(D.bool pb3),(D.int 0),(D.bool (qbool (qnth (q105 [pd0,(D.bool pb1),(D.bool pb2),(D.bool pb3),(D.int 2),(D.bool sb1)]) 1)))]) 0))),(D.int 0),(D.int 0)]),(D.bool (qbool (qnth (q106 [pd0,(D.bool pb1),(D.bool pb2),(D.bool pb3),(D.int 1),(D.bool (qbool (qnth (q107 [pd0,(D.bool pb1),(D.bool pb2),(D.bool pb3),(D.int 0),(D.bool (qbool (qnth (q105 [pd0,(D.bool pb1),(D.bool pb2),(D.bool pb3),(D.int 2),(D.bool sb1)]) 1)))]) 1)))]) 2)))]
  else
  none
  else
  none
  else
  none
  else
  none
  else
  none
  else
  none
  else
  bif (qeqD pd0 pd0)then
  bif (qeqD (D.bool pb1) (D.bool pb1))then
  bif (qeqD (D.bool pb2) (D.bool pb2))then
  bif (qeqD (D.bool pb3) (D.bool pb3))then
  some [(D.agg [(D.int 0),(D.int 0),(D.int 22),(D.int 0),(D.int 0),(D.int 0),(D.int 0),(D.int 0),(D.int 0)]),(D.bool (qbool (qnth (q105 [pd0,(D.bool pb1),(D.bool pb2),(D.bool pb3),(D.int 2),(D.bool sb1)]) 1)))]
  else
  none
  else
  none
  else
  none
  else
  none
  else
  none
  else
  bif (qeqD pd0 pd0)then
  bif (qeqD (D.bool pb1) (D.bool pb1))then
  bif (qeqD (D.bool pb2) (D.bool pb2))then
  bif (qeqD (D.bool pb3) (D.bool pb3))then
  some [(D.agg [(D.int 0),(D.int 0),(D.int 0),(D.int 0),(D.int 0),(D.int 0),(D.int 0),(D.int 0),(D.int 0)]),(D.bool Bool.true)]
  else
  none
  else
  none
  else
  none
  else
  none:=by kernel_rfl
 rw[h];simp only[qeqD_self,qeqI_self,qeq_len,show qcmp BinOp.eql 0 (qlen (D.list []))=true from qeq_len [],show∀a,qcmp BinOp.eql 1 (qlen (D.list [a]))=true from fun a=>qeq_len [a],show∀a b,qcmp BinOp.eql 2 (qlen (D.list [a,b]))=true from fun a b=>qeq_len [a,b],show∀a b c,qcmp BinOp.eql 3 (qlen (D.list [a,b,c]))=true from fun a b c=>qeq_len [a,b,c],show∀a b c d,qcmp BinOp.eql 4 (qlen (D.list [a,b,c,d]))=true from fun a b c d=>qeq_len [a,b,c,d],cond_true]
noncomputable def q111:List D→Option (List D):=veil (F111)
theorem q111_eq:q111=F111:=veil_eq _
noncomputable def tb111:Tb:=Tb.addF tb110 111 S111 (q111)
theorem ok_tb111:TbOk env (tb111):=addFunF ok_tb110 111 (by kernel_rfl) _ (q111_eq)
def S68:FunS:=⟨[⟨true,(.ptr 0 0)⟩,⟨true, .str⟩],[(.cells [⟨false,(.rows 9)⟩,⟨false,(.func 38 [] [])⟩,⟨true, .bool⟩,⟨true, .bool⟩,⟨false, .bool⟩,⟨false, .bool⟩])],[⟨true,(.dat 24)⟩],[(.cells [⟨false,(.rows 9)⟩,⟨true,(.func 38 [] [])⟩,⟨true, .bool⟩,⟨true, .bool⟩,⟨false, .bool⟩,⟨false, .bool⟩])]⟩
noncomputable def F68:List D→Option (List D):=liftX env tb111 60 12 68 S68
noncomputable def F68_a0 (pd0:D) (pb1:Bool) (pb2:Bool) (ss0:ByteArray) (sb1:Bool) (sb2:Bool):D:=(D.agg [(D.int 0),(D.int 0),(D.int 27),(D.int 0),(D.int 0),(D.int 0),(D.int 0),(D.int 0),(D.int 0)])
noncomputable def F68_a1 (pd0:D) (pb1:Bool) (pb2:Bool) (ss0:ByteArray) (sb1:Bool) (sb2:Bool):D:=(D.agg [(D.int 0),(D.int 0),(D.int 26),(D.int 0),(D.int 0),(D.int 0),(D.int 0),(D.int 0),(D.int 0)])
noncomputable def F68_a2 (pd0:D) (pb1:Bool) (pb2:Bool) (ss0:ByteArray) (sb1:Bool) (sb2:Bool):D:=(D.agg [(D.int 0),(D.int 0),(D.int 24),(D.int 0),(D.int 0),(D.int 0),(D.int 0),(D.int 0),(D.int 0)])
noncomputable def F68_a3 (pd0:D) (pb1:Bool) (pb2:Bool) (ss0:ByteArray) (sb1:Bool) (sb2:Bool):D:=(D.agg [(D.int 0),(D.int 0),(D.int 21),(D.int 0),(D.int 0),(D.int 0),(D.int 0),(D.int 0),(D.int 0)])
noncomputable def F68_a4 (pd0:D) (pb1:Bool) (pb2:Bool) (ss0:ByteArray) (sb1:Bool) (sb2:Bool):D:=(D.agg [(D.int 0),(D.int 0),(D.int 19),(D.int 0),(D.int 0),(D.int 0),(D.int 0),(D.int 0),(D.int 0)])
noncomputable def F68_a5 (pd0:D) (pb1:Bool) (pb2:Bool) (ss0:ByteArray) (sb1:Bool) (sb2:Bool):D:=(D.agg [(D.int 0),(D.int 0),(D.int 18),(D.int 0),(D.int (qwrap IntKind.i64 (qbin BinOp.sub IntKind.u8 (qidxS ss0 5) 48))),(D.int 0),(D.int 0),(D.int 0),(D.int 0)])
noncomputable def F68_a6 (pd0:D) (pb1:Bool) (pb2:Bool) (ss0:ByteArray) (sb1:Bool) (sb2:Bool):D:=(D.agg [(D.int 0),(D.int 0),(D.int 17),(D.int 0),(D.int (qwrap IntKind.i64 (qbin BinOp.sub IntKind.u8 (qidxS ss0 4) 48))),(D.int 0),(D.int 0),(D.int 0),(D.int 0)])
noncomputable def F68_a7 (pd0:D) (pb1:Bool) (pb2:Bool) (ss0:ByteArray) (sb1:Bool) (sb2:Bool):D:=(D.agg [(D.int 0),(D.int 0),(D.int 16),(D.int 0),(D.int (qwrap IntKind.i64 (qbin BinOp.sub IntKind.u8 (qidxS ss0 4) 48))),(D.int 0),(D.int 0),(D.int 0),(D.int 0)])
noncomputable def F68_a8 (pd0:D) (pb1:Bool) (pb2:Bool) (ss0:ByteArray) (sb1:Bool) (sb2:Bool):D:=(D.agg [(D.int 0),(D.int 0),(D.int 4),(D.int 0),(D.int 0),(D.int 0),(D.int 0),(D.int 0),(D.int 0)])
noncomputable def F68_a9 (pd0:D) (pb1:Bool) (pb2:Bool) (ss0:ByteArray) (sb1:Bool) (sb2:Bool):D:=(D.agg [(D.int 0),(D.int 0),(D.int 3),(D.int 0),(D.int 0),(D.int 0),(D.int 0),(D.int 0),(D.int 0)])
noncomputable def F68_a10 (pd0:D) (pb1:Bool) (pb2:Bool) (ss0:ByteArray) (sb1:Bool) (sb2:Bool):D:=(D.agg [(D.int 0),(D.int 0),(D.int (qidxT (ByteArray.mk #[110,104,114]) (qsubS ss0 0 1))),(D.int 0),(D.int 0),(D.int 0),(D.int 0),(D.int 0),(D.int 0)])
theorem F68_eq (pd0:D) (pb1:Bool) (pb2:Bool) (ss0:ByteArray) (sb1:Bool) (sb2:Bool):F68 [pd0,(D.bool pb1),(D.bool pb2),(D.str ss0),(D.bool sb1),(D.bool sb2)] =
 bif (qiteB (qcmpS BinOp.eql ss0 (ByteArray.mk #[110,111,112])) (qcmpS BinOp.eql ss0 (ByteArray.mk #[110,111,112])) (qiteB (qcmpS BinOp.eql ss0 (ByteArray.mk #[104,97,108,116])) (qcmpS BinOp.eql ss0 (ByteArray.mk #[104,97,108,116])) (qcmpS BinOp.eql ss0 (ByteArray.mk #[114,101,116]))))then
 bif (qsome (q105 [pd0,(D.bool sb2),(D.bool pb1),(D.bool pb2),(D.int 0),(D.bool sb1)]))then
 bif (qcmp BinOp.leq 0 0)then
 bif (qcmp BinOp.leq 0 1)then
 bif (qcmp BinOp.leq 1 (qlenS ss0))then
 some [(F68_a10 pd0 pb1 pb2 ss0 sb1 sb2),(D.bool (qbool (qnth (q105 [pd0,(D.bool sb2),(D.bool pb1),(D.bool pb2),(D.int 0),(D.bool sb1)]) 1))),(D.bool sb2)]
 else
 none
 else
 none
 else
 none
 else
 none
 else
 bif (qcmpS BinOp.eql ss0 (ByteArray.mk #[112,117,115,104]))then
 bif (qsome (q66 [pd0,(D.bool sb2),(D.bool pb1),(D.bool pb2),(F68_a9 pd0 pb1 pb2 ss0 sb1 sb2),(D.bool sb1)]))then
 some [(qnth (q66 [pd0,(D.bool sb2),(D.bool pb1),(D.bool pb2),(F68_a9 pd0 pb1 pb2 ss0 sb1 sb2),(D.bool sb1)]) 0),(D.bool (qbool (qnth (q66 [pd0,(D.bool sb2),(D.bool pb1),(D.bool pb2),(F68_a9 pd0 pb1 pb2 ss0 sb1 sb2),(D.bool sb1)]) 1))),(D.bool sb2)]
 else
 none
 else
 bif (qcmpS BinOp.eql ss0 (ByteArray.mk #[112,111,112]))then
 bif (qsome (q66 [pd0,(D.bool sb2),(D.bool pb1),(D.bool pb2),(F68_a8 pd0 pb1 pb2 ss0 sb1 sb2),(D.bool sb1)]))then
 some [(qnth (q66 [pd0,(D.bool sb2),(D.bool pb1),(D.bool pb2),(F68_a8 pd0 pb1 pb2 ss0 sb1 sb2),(D.bool sb1)]) 0),(D.bool (qbool (qnth (q66 [pd0,(D.bool sb2),(D.bool pb1),(D.bool pb2),(F68_a8 pd0 pb1 pb2 ss0 sb1 sb2),(D.bool sb1)]) 1))),(D.bool sb2)]
 else
 none
 else
 bif (qiteB (qcmpS BinOp.eql ss0 (ByteArray.mk #[108,111,97,100,49])) (qcmpS BinOp.eql ss0 (ByteArray.mk #[108,111,97,100,49])) (qiteB (qcmpS BinOp.eql ss0 (ByteArray.mk #[108,111,97,100,50])) (qcmpS BinOp.eql ss0 (ByteArray.mk #[108,111,97,100,50])) (qcmpS BinOp.eql ss0 (ByteArray.mk #[108,111,97,100,52]))))then
 bif (qinbS ss0 4)then
 bif (qsome (q110 [pd0,(D.bool pb1),(D.bool pb2),(F68_a7 pd0 pb1 pb2 ss0 sb1 sb2),(D.bool Bool.false),(D.bool sb1),(D.bool sb2)]))then
 some [(qnth (q110 [pd0,(D.bool pb1),(D.bool pb2),(F68_a7 pd0 pb1 pb2 ss0 sb1 sb2),(D.bool Bool.false),(D.bool sb1),(D.bool sb2)]) 0),(D.bool (qbool (qnth (q110 [pd0,(D.bool pb1),(D.bool pb2),(F68_a7 pd0 pb1 pb2 ss0 sb1 sb2),(D.bool Bool.false),(D.bool sb1),(D.bool sb2)]) 1))),(D.bool (qbool (qnth (q110 [pd0,(D.bool pb1),(D.bool pb2),(F68_a7 pd0 pb1 pb2 ss0 sb1 sb2),(D.bool Bool.false),(D.bool sb1),(D.bool sb2)]) 2)))]
 else
 none
 else
 none
 else
 bif (qiteB (qcmpS BinOp.eql ss0 (ByteArray.mk #[108,111,97,100,49,115])) (qcmpS BinOp.eql ss0 (ByteArray.mk #[108,111,97,100,49,115])) (qcmpS BinOp.eql ss0 (ByteArray.mk #[108,111,97,100,50,115])))then
 bif (qinbS ss0 4)then
 bif (qsome (q110 [pd0,(D.bool pb1),(D.bool pb2),(F68_a6 pd0 pb1 pb2 ss0 sb1 sb2),(D.bool Bool.false),(D.bool sb1),(D.bool sb2)]))then
 some [(qnth (q110 [pd0,(D.bool pb1),(D.bool pb2),(F68_a6 pd0 pb1 pb2 ss0 sb1 sb2),(D.bool Bool.false),(D.bool sb1),(D.bool sb2)]) 0),(D.bool (qbool (qnth (q110 [pd0,(D.bool pb1),(D.bool pb2),(F68_a6 pd0 pb1 pb2 ss0 sb1 sb2),(D.bool Bool.false),(D.bool sb1),(D.bool sb2)]) 1))),(D.bool (qbool (qnth (q110 [pd0,(D.bool pb1),(D.bool pb2),(F68_a6 pd0 pb1 pb2 ss0 sb1 sb2),(D.bool Bool.false),(D.bool sb1),(D.bool sb2)]) 2)))]
 else
 none
 else
 none
 else
 bif (qiteB (qcmpS BinOp.eql ss0 (ByteArray.mk #[115,116,111,114,101,49])) (qcmpS BinOp.eql ss0 (ByteArray.mk #[115,116,111,114,101,49])) (qiteB (qcmpS BinOp.eql ss0 (ByteArray.mk #[115,116,111,114,101,50])) (qcmpS BinOp.eql ss0 (ByteArray.mk #[115,116,111,114,101,50])) (qcmpS BinOp.eql ss0 (ByteArray.mk #[115,116,111,114,101,52]))))then
 bif (qinbS ss0 5)then
 bif (qsome (q110 [pd0,(D.bool pb1),(D.bool pb2),(F68_a5 pd0 pb1 pb2 ss0 sb1 sb2),(D.bool Bool.true),(D.bool sb1),(D.bool sb2)]))then
 some [(qnth (q110 [pd0,(D.bool pb1),(D.bool pb2),(F68_a5 pd0 pb1 pb2 ss0 sb1 sb2),(D.bool Bool.true),(D.bool sb1),(D.bool sb2)]) 0),(D.bool (qbool (qnth (q110 [pd0,(D.bool pb1),(D.bool pb2),(F68_a5 pd0 pb1 pb2 ss0 sb1 sb2),(D.bool Bool.true),(D.bool sb1),(D.bool sb2)]) 1))),(D.bool (qbool (qnth (q110 [pd0,(D.bool pb1),(D.bool pb2),(F68_a5 pd0 pb1 pb2 ss0 sb1 sb2),(D.bool Bool.true),(D.bool sb1),(D.bool sb2)]) 2)))]
 else
 none
 else
 none
 else
 bif (qcmpS BinOp.eql ss0 (ByteArray.mk #[108,101,97]))then
 bif (qsome (q110 [pd0,(D.bool pb1),(D.bool pb2),(F68_a4 pd0 pb1 pb2 ss0 sb1 sb2),(D.bool Bool.false),(D.bool sb1),(D.bool sb2)]))then
 some [(qnth (q110 [pd0,(D.bool pb1),(D.bool pb2),(F68_a4 pd0 pb1 pb2 ss0 sb1 sb2),(D.bool Bool.false),(D.bool sb1),(D.bool sb2)]) 0),(D.bool (qbool (qnth (q110 [pd0,(D.bool pb1),(D.bool pb2),(F68_a4 pd0 pb1 pb2 ss0 sb1 sb2),(D.bool Bool.false),(D.bool sb1),(D.bool sb2)]) 1))),(D.bool (qbool (qnth (q110 [pd0,(D.bool pb1),(D.bool pb2),(F68_a4 pd0 pb1 pb2 ss0 sb1 sb2),(D.bool Bool.false),(D.bool sb1),(D.bool sb2)]) 2)))]
 else
 none
 else
 bif (qcmpS BinOp.eql ss0 (ByteArray.mk #[106,117,109,112,114]))then
 bif (qsome (q66 [pd0,(D.bool sb2),(D.bool pb1),(D.bool pb2),(F68_a3 pd0 pb1 pb2 ss0 sb1 sb2),(D.bool sb1)]))then
 some [(qnth (q66 [pd0,(D.bool sb2),(D.bool pb1),(D.bool pb2),(F68_a3 pd0 pb1 pb2 ss0 sb1 sb2),(D.bool sb1)]) 0),(D.bool (qbool (qnth (q66 [pd0,(D.bool sb2),(D.bool pb1),(D.bool pb2),(F68_a3 pd0 pb1 pb2 ss0 sb1 sb2),(D.bool sb1)]) 1))),(D.bool sb2)]
 else
 none
 else
 bif (qcmpS BinOp.eql ss0 (ByteArray.mk #[99,97,108,108,114]))then
 bif (qsome (q66 [pd0,(D.bool sb2),(D.bool pb1),(D.bool pb2),(F68_a2 pd0 pb1 pb2 ss0 sb1 sb2),(D.bool sb1)]))then
 some [(qnth (q66 [pd0,(D.bool sb2),(D.bool pb1),(D.bool pb2),(F68_a2 pd0 pb1 pb2 ss0 sb1 sb2),(D.bool sb1)]) 0),(D.bool (qbool (qnth (q66 [pd0,(D.bool sb2),(D.bool pb1),(D.bool pb2),(F68_a2 pd0 pb1 pb2 ss0 sb1 sb2),(D.bool sb1)]) 1))),(D.bool sb2)]
 else
 none
 else
 bif (qcmpS BinOp.eql ss0 (ByteArray.mk #[105,110]))then
 bif (qsome (q66 [pd0,(D.bool sb2),(D.bool pb1),(D.bool pb2),(F68_a1 pd0 pb1 pb2 ss0 sb1 sb2),(D.bool sb1)]))then
 some [(qnth (q66 [pd0,(D.bool sb2),(D.bool pb1),(D.bool pb2),(F68_a1 pd0 pb1 pb2 ss0 sb1 sb2),(D.bool sb1)]) 0),(D.bool (qbool (qnth (q66 [pd0,(D.bool sb2),(D.bool pb1),(D.bool pb2),(F68_a1 pd0 pb1 pb2 ss0 sb1 sb2),(D.bool sb1)]) 1))),(D.bool sb2)]
 else
 none
 else
 bif (qcmpS BinOp.eql ss0 (ByteArray.mk #[111,117,116]))then
 bif (qsome (q66 [pd0,(D.bool sb2),(D.bool pb1),(D.bool pb2),(F68_a0 pd0 pb1 pb2 ss0 sb1 sb2),(D.bool sb1)]))then
 some [(qnth (q66 [pd0,(D.bool sb2),(D.bool pb1),(D.bool pb2),(F68_a0 pd0 pb1 pb2 ss0 sb1 sb2),(D.bool sb1)]) 0),(D.bool (qbool (qnth (q66 [pd0,(D.bool sb2),(D.bool pb1),(D.bool pb2),(F68_a0 pd0 pb1 pb2 ss0 sb1 sb2),(D.bool sb1)]) 1))),(D.bool sb2)]
 else
 none
 else
 bif (qsome (q111 [pd0,(D.bool sb2),(D.bool pb1),(D.bool pb2),(D.str ss0),(D.bool sb1)]))then
 some [(qnth (q111 [pd0,(D.bool sb2),(D.bool pb1),(D.bool pb2),(D.str ss0),(D.bool sb1)]) 0),(D.bool (qbool (qnth (q111 [pd0,(D.bool sb2),(D.bool pb1),(D.bool pb2),(D.str ss0),(D.bool sb1)]) 1))),(D.bool sb2)]
 else
 none:=by
 have h:F68 [pd0,(D.bool pb1),(D.bool pb2),(D.str ss0),(D.bool sb1),(D.bool sb2)] =
  bif (qiteB (qcmpS BinOp.eql ss0 (ByteArray.mk #[110,111,112])) (qcmpS BinOp.eql ss0 (ByteArray.mk #[110,111,112])) (qiteB (qcmpS BinOp.eql ss0 (ByteArray.mk #[104,97,108,116])) (qcmpS BinOp.eql ss0 (ByteArray.mk #[104,97,108,116])) (qcmpS BinOp.eql ss0 (ByteArray.mk #[114,101,116]))))then
  bif (qsome (q105 [pd0,(D.bool sb2),(D.bool pb1),(D.bool pb2),(D.int 0),(D.bool sb1)]))then
  bif (qcmp BinOp.leq 0 0)then
  bif (qcmp BinOp.leq 0 1)then
  bif (qcmp BinOp.leq 1 (qlenS ss0))then
  bif (qeqD pd0 pd0)then
  bif (qeqD (D.bool pb1) (D.bool pb1))then
  bif (qeqD (D.bool pb2) (D.bool pb2))then
  some [(F68_a10 pd0 pb1 pb2 ss0 sb1 sb2),(D.bool (qbool (qnth (q105 [pd0,(D.bool sb2),(D.bool pb1),(D.bool pb2),(D.int 0),(D.bool sb1)]) 1))),(D.bool sb2)]
  else
  none
  else
  none
  else
  none
  else
  none
  else
  none
  else
  none
  else
  none
  else
  bif (qcmpS BinOp.eql ss0 (ByteArray.mk #[112,117,115,104]))then
  bif (qsome (q66 [pd0,(D.bool sb2),(D.bool pb1),(D.bool pb2),(F68_a9 pd0 pb1 pb2 ss0 sb1 sb2),(D.bool sb1)]))then
  bif (qeqD pd0 pd0)then
  bif (qeqD (D.bool pb1) (D.bool pb1))then
  bif (qeqD (D.bool pb2) (D.bool pb2))then
  some [(qnth (q66 [pd0,(D.bool sb2),(D.bool pb1),(D.bool pb2),(F68_a9 pd0 pb1 pb2 ss0 sb1 sb2),(D.bool sb1)]) 0),(D.bool (qbool (qnth (q66 [pd0,(D.bool sb2),(D.bool pb1),(D.bool pb2),(F68_a9 pd0 pb1 pb2 ss0 sb1 sb2),(D.bool sb1)]) 1))),(D.bool sb2)]
  else
  none
  else
  none
  else
  none
  else
  none
  else
  bif (qcmpS BinOp.eql ss0 (ByteArray.mk #[112,111,112]))then
  bif (qsome (q66 [pd0,(D.bool sb2),(D.bool pb1),(D.bool pb2),(F68_a8 pd0 pb1 pb2 ss0 sb1 sb2),(D.bool sb1)]))then
  bif (qeqD pd0 pd0)then
  bif (qeqD (D.bool pb1) (D.bool pb1))then
  bif (qeqD (D.bool pb2) (D.bool pb2))then
  some [(qnth (q66 [pd0,(D.bool sb2),(D.bool pb1),(D.bool pb2),(F68_a8 pd0 pb1 pb2 ss0 sb1 sb2),(D.bool sb1)]) 0),(D.bool (qbool (qnth (q66 [pd0,(D.bool sb2),(D.bool pb1),(D.bool pb2),(F68_a8 pd0 pb1 pb2 ss0 sb1 sb2),(D.bool sb1)]) 1))),(D.bool sb2)]
  else
  none
  else
  none
  else
  none
  else
  none
  else
  bif (qiteB (qcmpS BinOp.eql ss0 (ByteArray.mk #[108,111,97,100,49])) (qcmpS BinOp.eql ss0 (ByteArray.mk #[108,111,97,100,49])) (qiteB (qcmpS BinOp.eql ss0 (ByteArray.mk #[108,111,97,100,50])) (qcmpS BinOp.eql ss0 (ByteArray.mk #[108,111,97,100,50])) (qcmpS BinOp.eql ss0 (ByteArray.mk #[108,111,97,100,52]))))then
  bif (qinbS ss0 4)then
  bif (qsome (q110 [pd0,(D.bool pb1),(D.bool pb2),(F68_a7 pd0 pb1 pb2 ss0 sb1 sb2),(D.bool Bool.false),(D.bool sb1),(D.bool sb2)]))then
  bif (qeqD pd0 pd0)then
  bif (qeqD (D.bool pb1) (D.bool pb1))then
  bif (qeqD (D.bool pb2) (D.bool pb2))then
  some [(qnth (q110 [pd0,(D.bool pb1),(D.bool pb2),(F68_a7 pd0 pb1 pb2 ss0 sb1 sb2),(D.bool Bool.false),(D.bool sb1),(D.bool sb2)]) 0),(D.bool (qbool (qnth (q110 [pd0,(D.bool pb1),(D.bool pb2),(F68_a7 pd0 pb1 pb2 ss0 sb1 sb2),(D.bool Bool.false),(D.bool sb1),(D.bool sb2)]) 1))),(D.bool (qbool (qnth (q110 [pd0,(D.bool pb1),(D.bool pb2),(F68_a7 pd0 pb1 pb2 ss0 sb1 sb2),(D.bool Bool.false),(D.bool sb1),(D.bool sb2)]) 2)))]
  else
  none
  else
  none
  else
  none
  else
  none
  else
  none
  else
  bif (qiteB (qcmpS BinOp.eql ss0 (ByteArray.mk #[108,111,97,100,49,115])) (qcmpS BinOp.eql ss0 (ByteArray.mk #[108,111,97,100,49,115])) (qcmpS BinOp.eql ss0 (ByteArray.mk #[108,111,97,100,50,115])))then
  bif (qinbS ss0 4)then
  bif (qsome (q110 [pd0,(D.bool pb1),(D.bool pb2),(F68_a6 pd0 pb1 pb2 ss0 sb1 sb2),(D.bool Bool.false),(D.bool sb1),(D.bool sb2)]))then
  bif (qeqD pd0 pd0)then
  bif (qeqD (D.bool pb1) (D.bool pb1))then
  bif (qeqD (D.bool pb2) (D.bool pb2))then
  some [(qnth (q110 [pd0,(D.bool pb1),(D.bool pb2),(F68_a6 pd0 pb1 pb2 ss0 sb1 sb2),(D.bool Bool.false),(D.bool sb1),(D.bool sb2)]) 0),(D.bool (qbool (qnth (q110 [pd0,(D.bool pb1),(D.bool pb2),(F68_a6 pd0 pb1 pb2 ss0 sb1 sb2),(D.bool Bool.false),(D.bool sb1),(D.bool sb2)]) 1))),(D.bool (qbool (qnth (q110 [pd0,(D.bool pb1),(D.bool pb2),(F68_a6 pd0 pb1 pb2 ss0 sb1 sb2),(D.bool Bool.false),(D.bool sb1),(D.bool sb2)]) 2)))]
  else
  none
  else
  none
  else
  none
  else
  none
  else
  none
  else
  bif (qiteB (qcmpS BinOp.eql ss0 (ByteArray.mk #[115,116,111,114,101,49])) (qcmpS BinOp.eql ss0 (ByteArray.mk #[115,116,111,114,101,49])) (qiteB (qcmpS BinOp.eql ss0 (ByteArray.mk #[115,116,111,114,101,50])) (qcmpS BinOp.eql ss0 (ByteArray.mk #[115,116,111,114,101,50])) (qcmpS BinOp.eql ss0 (ByteArray.mk #[115,116,111,114,101,52]))))then
  bif (qinbS ss0 5)then
  bif (qsome (q110 [pd0,(D.bool pb1),(D.bool pb2),(F68_a5 pd0 pb1 pb2 ss0 sb1 sb2),(D.bool Bool.true),(D.bool sb1),(D.bool sb2)]))then
  bif (qeqD pd0 pd0)then
  bif (qeqD (D.bool pb1) (D.bool pb1))then
  bif (qeqD (D.bool pb2) (D.bool pb2))then
  some [(qnth (q110 [pd0,(D.bool pb1),(D.bool pb2),(F68_a5 pd0 pb1 pb2 ss0 sb1 sb2),(D.bool Bool.true),(D.bool sb1),(D.bool sb2)]) 0),(D.bool (qbool (qnth (q110 [pd0,(D.bool pb1),(D.bool pb2),(F68_a5 pd0 pb1 pb2 ss0 sb1 sb2),(D.bool Bool.true),(D.bool sb1),(D.bool sb2)]) 1))),(D.bool (qbool (qnth (q110 [pd0,(D.bool pb1),(D.bool pb2),(F68_a5 pd0 pb1 pb2 ss0 sb1 sb2),(D.bool Bool.true),(D.bool sb1),(D.bool sb2)]) 2)))]
  else
  none
  else
  none
  else
  none
  else
  none
  else
  none
  else
  bif (qcmpS BinOp.eql ss0 (ByteArray.mk #[108,101,97]))then
  bif (qsome (q110 [pd0,(D.bool pb1),(D.bool pb2),(F68_a4 pd0 pb1 pb2 ss0 sb1 sb2),(D.bool Bool.false),(D.bool sb1),(D.bool sb2)]))then
  bif (qeqD pd0 pd0)then
  bif (qeqD (D.bool pb1) (D.bool pb1))then
  bif (qeqD (D.bool pb2) (D.bool pb2))then
  some [(qnth (q110 [pd0,(D.bool pb1),(D.bool pb2),(F68_a4 pd0 pb1 pb2 ss0 sb1 sb2),(D.bool Bool.false),(D.bool sb1),(D.bool sb2)]) 0),(D.bool (qbool (qnth (q110 [pd0,(D.bool pb1),(D.bool pb2),(F68_a4 pd0 pb1 pb2 ss0 sb1 sb2),(D.bool Bool.false),(D.bool sb1),(D.bool sb2)]) 1))),(D.bool (qbool (qnth (q110 [pd0,(D.bool pb1),(D.bool pb2),(F68_a4 pd0 pb1 pb2 ss0 sb1 sb2),(D.bool Bool.false),(D.bool sb1),(D.bool sb2)]) 2)))]
  else
  none
  else
  none
  else
  none
  else
  none
  else
  bif (qcmpS BinOp.eql ss0 (ByteArray.mk #[106,117,109,112,114]))then
  bif (qsome (q66 [pd0,(D.bool sb2),(D.bool pb1),(D.bool pb2),(F68_a3 pd0 pb1 pb2 ss0 sb1 sb2),(D.bool sb1)]))then
  bif (qeqD pd0 pd0)then
  bif (qeqD (D.bool pb1) (D.bool pb1))then
  bif (qeqD (D.bool pb2) (D.bool pb2))then
  some [(qnth (q66 [pd0,(D.bool sb2),(D.bool pb1),(D.bool pb2),(F68_a3 pd0 pb1 pb2 ss0 sb1 sb2),(D.bool sb1)]) 0),(D.bool (qbool (qnth (q66 [pd0,(D.bool sb2),(D.bool pb1),(D.bool pb2),(F68_a3 pd0 pb1 pb2 ss0 sb1 sb2),(D.bool sb1)]) 1))),(D.bool sb2)]
  else
  none
  else
  none
  else
  none
  else
  none
  else
  bif (qcmpS BinOp.eql ss0 (ByteArray.mk #[99,97,108,108,114]))then
  bif (qsome (q66 [pd0,(D.bool sb2),(D.bool pb1),(D.bool pb2),(F68_a2 pd0 pb1 pb2 ss0 sb1 sb2),(D.bool sb1)]))then
  bif (qeqD pd0 pd0)then
  bif (qeqD (D.bool pb1) (D.bool pb1))then
  bif (qeqD (D.bool pb2) (D.bool pb2))then
  some [(qnth (q66 [pd0,(D.bool sb2),(D.bool pb1),(D.bool pb2),(F68_a2 pd0 pb1 pb2 ss0 sb1 sb2),(D.bool sb1)]) 0),(D.bool (qbool (qnth (q66 [pd0,(D.bool sb2),(D.bool pb1),(D.bool pb2),(F68_a2 pd0 pb1 pb2 ss0 sb1 sb2),(D.bool sb1)]) 1))),(D.bool sb2)]
  else
  none
  else
  none
  else
  none
  else
  none
  else
  bif (qcmpS BinOp.eql ss0 (ByteArray.mk #[105,110]))then
  bif (qsome (q66 [pd0,(D.bool sb2),(D.bool pb1),(D.bool pb2),(F68_a1 pd0 pb1 pb2 ss0 sb1 sb2),(D.bool sb1)]))then
  bif (qeqD pd0 pd0)then
  bif (qeqD (D.bool pb1) (D.bool pb1))then
  bif (qeqD (D.bool pb2) (D.bool pb2))then
  some [(qnth (q66 [pd0,(D.bool sb2),(D.bool pb1),(D.bool pb2),(F68_a1 pd0 pb1 pb2 ss0 sb1 sb2),(D.bool sb1)]) 0),(D.bool (qbool (qnth (q66 [pd0,(D.bool sb2),(D.bool pb1),(D.bool pb2),(F68_a1 pd0 pb1 pb2 ss0 sb1 sb2),(D.bool sb1)]) 1))),(D.bool sb2)]
  else
  none
  else
  none
  else
  none
  else
  none
  else
  bif (qcmpS BinOp.eql ss0 (ByteArray.mk #[111,117,116]))then
  bif (qsome (q66 [pd0,(D.bool sb2),(D.bool pb1),(D.bool pb2),(F68_a0 pd0 pb1 pb2 ss0 sb1 sb2),(D.bool sb1)]))then
  bif (qeqD pd0 pd0)then
  bif (qeqD (D.bool pb1) (D.bool pb1))then
  bif (qeqD (D.bool pb2) (D.bool pb2))then
  some [(qnth (q66 [pd0,(D.bool sb2),(D.bool pb1),(D.bool pb2),(F68_a0 pd0 pb1 pb2 ss0 sb1 sb2),(D.bool sb1)]) 0),(D.bool (qbool (qnth (q66 [pd0,(D.bool sb2),(D.bool pb1),(D.bool pb2),(F68_a0 pd0 pb1 pb2 ss0 sb1 sb2),(D.bool sb1)]) 1))),(D.bool sb2)]
  else
  none
  else
  none
  else
  none
  else
  none
  else
  bif (qsome (q111 [pd0,(D.bool sb2),(D.bool pb1),(D.bool pb2),(D.str ss0),(D.bool sb1)]))then
  bif (qeqD pd0 pd0)then
  bif (qeqD (D.bool pb1) (D.bool pb1))then
  bif (qeqD (D.bool pb2) (D.bool pb2))then
  some [(qnth (q111 [pd0,(D.bool sb2),(D.bool pb1),(D.bool pb2),(D.str ss0),(D.bool sb1)]) 0),(D.bool (qbool (qnth (q111 [pd0,(D.bool sb2),(D.bool pb1),(D.bool pb2),(D.str ss0),(D.bool sb1)]) 1))),(D.bool sb2)]
  else
  none
  else
  none
  else
  none
  else
  none:=by kernel_rfl
 rw[h];simp only[qeqD_self,qeqI_self,qeq_len,show qcmp BinOp.eql 0 (qlen (D.list []))=true from qeq_len [],show∀a,qcmp BinOp.eql 1 (qlen (D.list [a]))=true from fun a=>qeq_len [a],show∀a b,qcmp BinOp.eql 2 (qlen (D.list [a,b]))=true from fun a b=>qeq_len [a,b],show∀a b c,qcmp BinOp.eql 3 (qlen (D.list [a,b,c]))=true from fun a b c=>qeq_len [a,b,c],show∀a b c d,qcmp BinOp.eql 4 (qlen (D.list [a,b,c,d]))=true from fun a b c d=>qeq_len [a,b,c,d],cond_true]
noncomputable def q68:List D→Option (List D):=veil (F68)
theorem q68_eq:q68=F68:=veil_eq _
noncomputable def tb68:Tb:=Tb.addF tb111 68 S68 (q68)
theorem ok_tb68:TbOk env (tb68):=addFunF ok_tb111 68 (by kernel_rfl) _ (q68_eq)
def S65:FunS:=⟨[⟨true,(.ptr 0 0)⟩,⟨true,(.int .i64)⟩,⟨true,(.int .u32)⟩],[(.cells [⟨false,(.rows 9)⟩,⟨false,(.func 38 [] [])⟩,⟨true, .bool⟩,⟨false, .bool⟩,⟨false, .bool⟩,⟨true, .bool⟩])],[⟨true,(.dat 24)⟩],[(.cells [⟨false,(.rows 9)⟩,⟨true,(.func 38 [] [])⟩,⟨true, .bool⟩,⟨false, .bool⟩,⟨false, .bool⟩,⟨true, .bool⟩])]⟩
noncomputable def F65:List D→Option (List D):=liftX env tb68 60 12 65 S65
theorem F65_eq (pd0:D) (pb1:Bool) (pb2:Bool) (sn0:Int) (sn1:Int) (sb2:Bool) (sb3:Bool):F65 [pd0,(D.bool pb1),(D.bool pb2),(D.int sn0),(D.int sn1),(D.bool sb2),(D.bool sb3)] =
 bif (qsome (q105 [pd0,(D.bool pb1),(D.bool pb2),(D.bool Bool.true),(D.int 1),(D.bool sb2)]))then
 bif (qnot (qbool (qnth (q105 [pd0,(D.bool pb1),(D.bool pb2),(D.bool Bool.true),(D.int 1),(D.bool sb2)]) 0)))then
 some [(D.agg [(D.int 0),(D.int 0),(D.int 20),(D.int 2),(D.int 0),(D.int sn0),(D.int 0),(D.int 0),(D.int 0)]),(D.bool (qbool (qnth (q105 [pd0,(D.bool pb1),(D.bool pb2),(D.bool Bool.true),(D.int 1),(D.bool sb2)]) 1))),(D.bool Bool.true)]
 else
 bif (qsome (q106 [pd0,(D.bool pb1),(D.bool pb2),(D.bool Bool.true),(D.int 0),(D.bool (qbool (qnth (q105 [pd0,(D.bool pb1),(D.bool pb2),(D.bool Bool.true),(D.int 1),(D.bool sb2)]) 1)))]))then
 bif (qiteB (qiteB (qnot (qbool (qnth (q106 [pd0,(D.bool pb1),(D.bool pb2),(D.bool Bool.true),(D.int 0),(D.bool (qbool (qnth (q105 [pd0,(D.bool pb1),(D.bool pb2),(D.bool Bool.true),(D.int 1),(D.bool sb2)]) 1)))]) 1))) (qcmp BinOp.eql (qwrap IntKind.u32 (qwrap IntKind.i8 (qbin BinOp.sub IntKind.u32 (qbin BinOp.sub IntKind.u32 (qint (qnth (q106 [pd0,(D.bool pb1),(D.bool pb2),(D.bool Bool.true),(D.int 0),(D.bool (qbool (qnth (q105 [pd0,(D.bool pb1),(D.bool pb2),(D.bool Bool.true),(D.int 1),(D.bool sb2)]) 1)))]) 0)) sn1) 2))) (qbin BinOp.sub IntKind.u32 (qbin BinOp.sub IntKind.u32 (qint (qnth (q106 [pd0,(D.bool pb1),(D.bool pb2),(D.bool Bool.true),(D.int 0),(D.bool (qbool (qnth (q105 [pd0,(D.bool pb1),(D.bool pb2),(D.bool Bool.true),(D.int 1),(D.bool sb2)]) 1)))]) 0)) sn1) 2)) Bool.false) (qnot pb2) Bool.false)then
 some [(D.agg [(D.int 0),(D.int (qint (qnth (q106 [pd0,(D.bool pb1),(D.bool pb2),(D.bool Bool.true),(D.int 0),(D.bool (qbool (qnth (q105 [pd0,(D.bool pb1),(D.bool pb2),(D.bool Bool.true),(D.int 1),(D.bool sb2)]) 1)))]) 0))),(D.int 20),(D.int 1),(D.int 0),(D.int sn0),(D.int 0),(D.int 0),(D.int 0)]),(D.bool (qbool (qnth (q106 [pd0,(D.bool pb1),(D.bool pb2),(D.bool Bool.true),(D.int 0),(D.bool (qbool (qnth (q105 [pd0,(D.bool pb1),(D.bool pb2),(D.bool Bool.true),(D.int 1),(D.bool sb2)]) 1)))]) 2))),(D.bool Bool.true)]
 else
 some [(D.agg [(D.int 0),(D.int (qint (qnth (q106 [pd0,(D.bool pb1),(D.bool pb2),(D.bool Bool.true),(D.int 0),(D.bool (qbool (qnth (q105 [pd0,(D.bool pb1),(D.bool pb2),(D.bool Bool.true),(D.int 1),(D.bool sb2)]) 1)))]) 0))),(D.int 20),(D.int 2),(D.int 0),(D.int sn0),(D.int 0),(D.int 0),(D.int 0)]),(D.bool (qbool (qnth (q106 [pd0,(D.bool pb1),(D.bool pb2),(D.bool Bool.true),(D.int 0),(D.bool (qbool (qnth (q105 [pd0,(D.bool pb1),(D.bool pb2),(D.bool Bool.true),(D.int 1),(D.bool sb2)]) 1)))]) 2))),(D.bool Bool.true)]
 else
 none
 else
 none:=by
 have h:F65 [pd0,(D.bool pb1),(D.bool pb2),(D.int sn0),(D.int sn1),(D.bool sb2),(D.bool sb3)] =
  bif (qsome (q105 [pd0,(D.bool pb1),(D.bool pb2),(D.bool Bool.true),(D.int 1),(D.bool sb2)]))then
  bif (qnot (qbool (qnth (q105 [pd0,(D.bool pb1),(D.bool pb2),(D.bool Bool.true),(D.int 1),(D.bool sb2)]) 0)))then
  bif (qeqD pd0 pd0)then
  bif (qeqD (D.bool pb1) (D.bool pb1))then
  bif (qeqD (D.bool pb2) (D.bool pb2))then
  some [(D.agg [(D.int 0),(D.int 0),(D.int 20),(D.int 2),(D.int 0),(D.int sn0),(D.int 0),(D.int 0),(D.int 0)]),(D.bool (qbool (qnth (q105 [pd0,(D.bool pb1),(D.bool pb2),(D.bool Bool.true),(D.int 1),(D.bool sb2)]) 1))),(D.bool Bool.true)]
  else
  none
  else
  none
  else
  none
  else
  bif (qsome (q106 [pd0,(D.bool pb1),(D.bool pb2),(D.bool Bool.true),(D.int 0),(D.bool (qbool (qnth (q105 [pd0,(D.bool pb1),(D.bool pb2),(D.bool Bool.true),(D.int 1),(D.bool sb2)]) 1)))]))then
  bif (qiteB (qiteB (qnot (qbool (qnth (q106 [pd0,(D.bool pb1),(D.bool pb2),(D.bool Bool.true),(D.int 0),(D.bool (qbool (qnth (q105 [pd0,(D.bool pb1),(D.bool pb2),(D.bool Bool.true),(D.int 1),(D.bool sb2)]) 1)))]) 1))) (qcmp BinOp.eql (qwrap IntKind.u32 (qwrap IntKind.i8 (qbin BinOp.sub IntKind.u32 (qbin BinOp.sub IntKind.u32 (qint (qnth (q106 [pd0,(D.bool pb1),(D.bool pb2),(D.bool Bool.true),(D.int 0),(D.bool (qbool (qnth (q105 [pd0,(D.bool pb1),(D.bool pb2),(D.bool Bool.true),(D.int 1),(D.bool sb2)]) 1)))]) 0)) sn1) 2))) (qbin BinOp.sub IntKind.u32 (qbin BinOp.sub IntKind.u32 (qint (qnth (q106 [pd0,(D.bool pb1),(D.bool pb2),(D.bool Bool.true),(D.int 0),(D.bool (qbool (qnth (q105 [pd0,(D.bool pb1),(D.bool pb2),(D.bool Bool.true),(D.int 1),(D.bool sb2)]) 1)))]) 0)) sn1) 2)) Bool.false) (qnot pb2) Bool.false)then
  bif (qeqD pd0 pd0)then
  bif (qeqD (D.bool pb1) (D.bool pb1))then
  bif (qeqD (D.bool pb2) (D.bool pb2))then
  some [(D.agg [(D.int 0),(D.int (qint (qnth (q106 [pd0,(D.bool pb1),(D.bool pb2),(D.bool Bool.true),(D.int 0),(D.bool (qbool (qnth (q105 [pd0,(D.bool pb1),(D.bool pb2),(D.bool Bool.true),(D.int 1),(D.bool sb2)]) 1)))]) 0))),(D.int 20),(D.int 1),(D.int 0),(D.int sn0),(D.int 0),(D.int 0),(D.int 0)]),(D.bool (qbool (qnth (q106 [pd0,(D.bool pb1),(D.bool pb2),(D.bool Bool.true),(D.int 0),(D.bool (qbool (qnth (q105 [pd0,(D.bool pb1),(D.bool pb2),(D.bool Bool.true),(D.int 1),(D.bool sb2)]) 1)))]) 2))),(D.bool Bool.true)]
  else
  none
  else
  none
  else
  none
  else
  bif (qeqD pd0 pd0)then
  bif (qeqD (D.bool pb1) (D.bool pb1))then
  bif (qeqD (D.bool pb2) (D.bool pb2))then
  some [(D.agg [(D.int 0),(D.int (qint (qnth (q106 [pd0,(D.bool pb1),(D.bool pb2),(D.bool Bool.true),(D.int 0),(D.bool (qbool (qnth (q105 [pd0,(D.bool pb1),(D.bool pb2),(D.bool Bool.true),(D.int 1),(D.bool sb2)]) 1)))]) 0))),(D.int 20),(D.int 2),(D.int 0),(D.int sn0),(D.int 0),(D.int 0),(D.int 0)]),(D.bool (qbool (qnth (q106 [pd0,(D.bool pb1),(D.bool pb2),(D.bool Bool.true),(D.int 0),(D.bool (qbool (qnth (q105 [pd0,(D.bool pb1),(D.bool pb2),(D.bool Bool.true),(D.int 1),(D.bool sb2)]) 1)))]) 2))),(D.bool Bool.true)]
  else
  none
  else
  none
  else
  none
  else
  none
  else
  none:=by kernel_rfl
 rw[h];simp only[qeqD_self,qeqI_self,qeq_len,show qcmp BinOp.eql 0 (qlen (D.list []))=true from qeq_len [],show∀a,qcmp BinOp.eql 1 (qlen (D.list [a]))=true from fun a=>qeq_len [a],show∀a b,qcmp BinOp.eql 2 (qlen (D.list [a,b]))=true from fun a b=>qeq_len [a,b],show∀a b c,qcmp BinOp.eql 3 (qlen (D.list [a,b,c]))=true from fun a b c=>qeq_len [a,b,c],show∀a b c d,qcmp BinOp.eql 4 (qlen (D.list [a,b,c,d]))=true from fun a b c d=>qeq_len [a,b,c,d],cond_true]
noncomputable def q65:List D→Option (List D):=veil (F65)
theorem q65_eq:q65=F65:=veil_eq _
noncomputable def tb65:Tb:=Tb.addF tb68 65 S65 (q65)
theorem ok_tb65:TbOk env (tb65):=addFunF ok_tb68 65 (by kernel_rfl) _ (q65_eq)
def S67:FunS:=⟨[⟨true,(.ptr 0 0)⟩,⟨true,(.int .i64)⟩],[(.cells [⟨false,(.rows 9)⟩,⟨false,(.func 38 [] [])⟩,⟨true, .bool⟩,⟨false, .bool⟩,⟨false, .bool⟩,⟨true, .bool⟩])],[⟨true,(.dat 24)⟩],[(.cells [⟨false,(.rows 9)⟩,⟨true,(.func 38 [] [])⟩,⟨true, .bool⟩,⟨false, .bool⟩,⟨false, .bool⟩,⟨true, .bool⟩])]⟩
noncomputable def F67:List D→Option (List D):=liftX env tb65 60 12 67 S67
theorem F67_eq (pd0:D) (pb1:Bool) (pb2:Bool) (sn0:Int) (sb1:Bool) (sb2:Bool):F67 [pd0,(D.bool pb1),(D.bool pb2),(D.int sn0),(D.bool sb1),(D.bool sb2)] =
 bif (qsome (q105 [pd0,(D.bool pb1),(D.bool pb2),(D.bool sb2),(D.int 2),(D.bool sb1)]))then
 bif (qnot (qbool (qnth (q105 [pd0,(D.bool pb1),(D.bool pb2),(D.bool sb2),(D.int 2),(D.bool sb1)]) 0)))then
 some [(D.agg [(D.int 0),(D.int 0),(D.int sn0),(D.int 0),(D.int 0),(D.int 0),(D.int 0),(D.int 0),(D.int 0)]),(D.bool (qbool (qnth (q105 [pd0,(D.bool pb1),(D.bool pb2),(D.bool sb2),(D.int 2),(D.bool sb1)]) 1))),(D.bool sb2)]
 else
 bif (qsome (q107 [pd0,(D.bool pb1),(D.bool pb2),(D.bool sb2),(D.int 0),(D.bool (qbool (qnth (q105 [pd0,(D.bool pb1),(D.bool pb2),(D.bool sb2),(D.int 2),(D.bool sb1)]) 1)))]))then
 bif (qinb pd0 1)then
 bif (qsome (q108 [(D.str (qstr (qget pd0 1)))]))then
 bif (qbool (qnth (q108 [(D.str (qstr (qget pd0 1)))]) 1))then
 some [(D.agg [(D.int 0),(D.int 0),(D.int sn0),(D.int 0),(D.int 0),(D.int 0),(D.int (qint (qnth (q107 [pd0,(D.bool pb1),(D.bool pb2),(D.bool sb2),(D.int 0),(D.bool (qbool (qnth (q105 [pd0,(D.bool pb1),(D.bool pb2),(D.bool sb2),(D.int 2),(D.bool sb1)]) 1)))]) 0))),(D.int (qint (qnth (q108 [(D.str (qstr (qget pd0 1)))]) 0))),(D.int 0)]),(D.bool (qbool (qnth (q107 [pd0,(D.bool pb1),(D.bool pb2),(D.bool sb2),(D.int 0),(D.bool (qbool (qnth (q105 [pd0,(D.bool pb1),(D.bool pb2),(D.bool sb2),(D.int 2),(D.bool sb1)]) 1)))]) 1))),(D.bool sb2)]
 else
 bif (qsome (q106 [pd0,(D.bool pb1),(D.bool pb2),(D.bool Bool.true),(D.int 1),(D.bool (qbool (qnth (q107 [pd0,(D.bool pb1),(D.bool pb2),(D.bool sb2),(D.int 0),(D.bool (qbool (qnth (q105 [pd0,(D.bool pb1),(D.bool pb2),(D.bool sb2),(D.int 2),(D.bool sb1)]) 1)))]) 1)))]))then
 bif (qiteB (qiteB (qnot (qbool (qnth (q106 [pd0,(D.bool pb1),(D.bool pb2),(D.bool Bool.true),(D.int 1),(D.bool (qbool (qnth (q107 [pd0,(D.bool pb1),(D.bool pb2),(D.bool sb2),(D.int 0),(D.bool (qbool (qnth (q105 [pd0,(D.bool pb1),(D.bool pb2),(D.bool sb2),(D.int 2),(D.bool sb1)]) 1)))]) 1)))]) 1))) (qcmp BinOp.eql (qwrap IntKind.u32 (qwrap IntKind.i8 (qint (qnth (q106 [pd0,(D.bool pb1),(D.bool pb2),(D.bool Bool.true),(D.int 1),(D.bool (qbool (qnth (q107 [pd0,(D.bool pb1),(D.bool pb2),(D.bool sb2),(D.int 0),(D.bool (qbool (qnth (q105 [pd0,(D.bool pb1),(D.bool pb2),(D.bool sb2),(D.int 2),(D.bool sb1)]) 1)))]) 1)))]) 0)))) (qint (qnth (q106 [pd0,(D.bool pb1),(D.bool pb2),(D.bool Bool.true),(D.int 1),(D.bool (qbool (qnth (q107 [pd0,(D.bool pb1),(D.bool pb2),(D.bool sb2),(D.int 0),(D.bool (qbool (qnth (q105 [pd0,(D.bool pb1),(D.bool pb2),(D.bool sb2),(D.int 2),(D.bool sb1)]) 1)))]) 1)))]) 0))) Bool.false) (qnot pb2) Bool.false)then
 some [(D.agg [(D.int 0),(D.int (qint (qnth (q106 [pd0,(D.bool pb1),(D.bool pb2),(D.bool Bool.true),(D.int 1),(D.bool (qbool (qnth (q107 [pd0,(D.bool pb1),(D.bool pb2),(D.bool sb2),(D.int 0),(D.bool (qbool (qnth (q105 [pd0,(D.bool pb1),(D.bool pb2),(D.bool sb2),(D.int 2),(D.bool sb1)]) 1)))]) 1)))]) 0))),(D.int sn0),(D.int 1),(D.int 0),(D.int 0),(D.int (qint (qnth (q107 [pd0,(D.bool pb1),(D.bool pb2),(D.bool sb2),(D.int 0),(D.bool (qbool (qnth (q105 [pd0,(D.bool pb1),(D.bool pb2),(D.bool sb2),(D.int 2),(D.bool sb1)]) 1)))]) 0))),(D.int 0),(D.int 0)]),(D.bool (qbool (qnth (q106 [pd0,(D.bool pb1),(D.bool pb2),(D.bool Bool.true),(D.int 1),(D.bool (qbool (qnth (q107 [pd0,(D.bool pb1),(D.bool pb2),(D.bool sb2),(D.int 0),(D.bool (qbool (qnth (q105 [pd0,(D.bool pb1),(D.bool pb2),(D.bool sb2),(D.int 2),(D.bool sb1)]) 1)))]) 1)))]) 2))),(D.bool Bool.true)]
 else
 some [(D.agg [(D.int 0),(D.int (qint (qnth (q106 [pd0,(D.bool pb1),(D.bool pb2),(D.bool Bool.true),(D.int 1),(D.bool (qbool (qnth (q107 [pd0,(D.bool pb1),(D.bool pb2),(D.bool sb2),(D.int 0),(D.bool (qbool (qnth (q105 [pd0,(D.bool pb1),(D.bool pb2),(D.bool sb2),(D.int 2),(D.bool sb1)]) 1)))]) 1)))]) 0))),(D.int sn0),(D.int 2),(D.int 0),(D.int 0),(D.int (qint (qnth (q107 [pd0,(D.bool pb1),(D.bool pb2),(D.bool sb2),(D.int 0),(D.bool (qbool (qnth (q105 [pd0,(D.bool pb1),(D.bool pb2),(D.bool sb2),(D.int 2),(D.bool sb1)]) 1)))]) 0))),(D.int 0),(D.int 0)]),(D.bool (qbool (qnth (q106 [pd0,(D.bool pb1),(D.bool pb2),(D.bool Bool.true),(D.int 1),(D.bool (qbool (qnth (q107 [pd0,(D.bool pb1),(D.bool pb2),(D.bool sb2),(D.int 0),(D.bool (qbool (qnth (q105 [pd0,(D.bool pb1),(D.bool pb2),(D.bool sb2),(D.int 2),(D.bool sb1)]) 1)))]) 1)))]) 2))),(D.bool Bool.true)]
 else
 none
 else
 none
 else
 none
 else
 none
 else
 none:=by
 have h:F67 [pd0,(D.bool pb1),(D.bool pb2),(D.int sn0),(D.bool sb1),(D.bool sb2)] =
  bif (qsome (q105 [pd0,(D.bool pb1),(D.bool pb2),(D.bool sb2),(D.int 2),(D.bool sb1)]))then
  bif (qnot (qbool (qnth (q105 [pd0,(D.bool pb1),(D.bool pb2),(D.bool sb2),(D.int 2),(D.bool sb1)]) 0)))then
  bif (qeqD pd0 pd0)then
  bif (qeqD (D.bool pb1) (D.bool pb1))then
  bif (qeqD (D.bool pb2) (D.bool pb2))then
  some [(D.agg [(D.int 0),(D.int 0),(D.int sn0),(D.int 0),(D.int 0),(D.int 0),(D.int 0),(D.int 0),(D.int 0)]),(D.bool (qbool (qnth (q105 [pd0,(D.bool pb1),(D.bool pb2),(D.bool sb2),(D.int 2),(D.bool sb1)]) 1))),(D.bool sb2)]
  else
  none
  else
  none
  else
  none
  else
  bif (qsome (q107 [pd0,(D.bool pb1),(D.bool pb2),(D.bool sb2),(D.int 0),(D.bool (qbool (qnth (q105 [pd0,(D.bool pb1),(D.bool pb2),(D.bool sb2),(D.int 2),(D.bool sb1)]) 1)))]))then
  bif (qinb pd0 1)then
  bif (qsome (q108 [(D.str (qstr (qget pd0 1)))]))then
  bif (qbool (qnth (q108 [(D.str (qstr (qget pd0 1)))]) 1))then
  bif (qeqD pd0 pd0)then
  bif (qeqD (D.bool pb1) (D.bool pb1))then
  bif (qeqD (D.bool pb2) (D.bool pb2))then
  some [(D.agg [(D.int 0),(D.int 0),(D.int sn0),(D.int 0),(D.int 0),(D.int 0),(D.int (qint (qnth (q107 [pd0,(D.bool pb1),(D.bool pb2),(D.bool sb2),(D.int 0),(D.bool (qbool (qnth (q105 [pd0,(D.bool pb1),(D.bool pb2),(D.bool sb2),(D.int 2),(D.bool sb1)]) 1)))]) 0))),(D.int (qint (qnth (q108 [(D.str (qstr (qget pd0 1)))]) 0))),(D.int 0)]),(D.bool (qbool (qnth (q107 [pd0,(D.bool pb1),(D.bool pb2),(D.bool sb2),(D.int 0),(D.bool (qbool (qnth (q105 [pd0,(D.bool pb1),(D.bool pb2),(D.bool sb2),(D.int 2),(D.bool sb1)]) 1)))]) 1))),(D.bool sb2)]
  else
  none
  else
  none
  else
  none
  else
  bif (qsome (q106 [pd0,(D.bool pb1),(D.bool pb2),(D.bool Bool.true),(D.int 1),(D.bool (qbool (qnth (q107 [pd0,(D.bool pb1),(D.bool pb2),(D.bool sb2),(D.int 0),(D.bool (qbool (qnth (q105 [pd0,(D.bool pb1),(D.bool pb2),(D.bool sb2),(D.int 2),(D.bool sb1)]) 1)))]) 1)))]))then
  bif (qiteB (qiteB (qnot (qbool (qnth (q106 [pd0,(D.bool pb1),(D.bool pb2),(D.bool Bool.true),(D.int 1),(D.bool (qbool (qnth (q107 [pd0,(D.bool pb1),(D.bool pb2),(D.bool sb2),(D.int 0),(D.bool (qbool (qnth (q105 [pd0,(D.bool pb1),(D.bool pb2),(D.bool sb2),(D.int 2),(D.bool sb1)]) 1)))]) 1)))]) 1))) (qcmp BinOp.eql (qwrap IntKind.u32 (qwrap IntKind.i8 (qint (qnth (q106 [pd0,(D.bool pb1),(D.bool pb2),(D.bool Bool.true),(D.int 1),(D.bool (qbool (qnth (q107 [pd0,(D.bool pb1),(D.bool pb2),(D.bool sb2),(D.int 0),(D.bool (qbool (qnth (q105 [pd0,(D.bool pb1),(D.bool pb2),(D.bool sb2),(D.int 2),(D.bool sb1)]) 1)))]) 1)))]) 0)))) (qint (qnth (q106 [pd0,(D.bool pb1),(D.bool pb2),(D.bool Bool.true),(D.int 1),(D.bool (qbool (qnth (q107 [pd0,(D.bool pb1),(D.bool pb2),(D.bool sb2),(D.int 0),(D.bool (qbool (qnth (q105 [pd0,(D.bool pb1),(D.bool pb2),(D.bool sb2),(D.int 2),(D.bool sb1)]) 1)))]) 1)))]) 0))) Bool.false) (qnot pb2) Bool.false)then
  bif (qeqD pd0 pd0)then
  bif (qeqD (D.bool pb1) (D.bool pb1))then
  bif (qeqD (D.bool pb2) (D.bool pb2))then
  some [(D.agg [(D.int 0),(D.int (qint (qnth (q106 [pd0,(D.bool pb1),(D.bool pb2),(D.bool Bool.true),(D.int 1),(D.bool (qbool (qnth (q107 [pd0,(D.bool pb1),(D.bool pb2),(D.bool sb2),(D.int 0),(D.bool (qbool (qnth (q105 [pd0,(D.bool pb1),(D.bool pb2),(D.bool sb2),(D.int 2),(D.bool sb1)]) 1)))]) 1)))]) 0))),(D.int sn0),(D.int 1),(D.int 0),(D.int 0),(D.int (qint (qnth (q107 [pd0,(D.bool pb1),(D.bool pb2),(D.bool sb2),(D.int 0),(D.bool (qbool (qnth (q105 [pd0,(D.bool pb1),(D.bool pb2),(D.bool sb2),(D.int 2),(D.bool sb1)]) 1)))]) 0))),(D.int 0),(D.int 0)]),(D.bool (qbool (qnth (q106 [pd0,(D.bool pb1),(D.bool pb2),(D.bool Bool.true),(D.int 1),(D.bool (qbool (qnth (q107 [pd0,(D.bool pb1),(D.bool pb2),(D.bool sb2),(D.int 0),(D.bool (qbool (qnth (q105 [pd0,(D.bool pb1),(D.bool pb2),(D.bool sb2),(D.int 2),(D.bool sb1)]) 1)))]) 1)))]) 2))),(D.bool Bool.true)]
  else
  none
  else
  none
  else
  none
  else
  bif (qeqD pd0 pd0)then
  bif (qeqD (D.bool pb1) (D.bool pb1))then
  bif (qeqD (D.bool pb2) (D.bool pb2))then
  some [(D.agg [(D.int 0),(D.int (qint (qnth (q106 [pd0,(D.bool pb1),(D.bool pb2),(D.bool Bool.true),(D.int 1),(D.bool (qbool (qnth (q107 [pd0,(D.bool pb1),(D.bool pb2),(D.bool sb2),(D.int 0),(D.bool (qbool (qnth (q105 [pd0,(D.bool pb1),(D.bool pb2),(D.bool sb2),(D.int 2),(D.bool sb1)]) 1)))]) 1)))]) 0))),(D.int sn0),(D.int 2),(D.int 0),(D.int 0),(D.int (qint (qnth (q107 [pd0,(D.bool pb1),(D.bool pb2),(D.bool sb2),(D.int 0),(D.bool (qbool (qnth (q105 [pd0,(D.bool pb1),(D.bool pb2),(D.bool sb2),(D.int 2),(D.bool sb1)]) 1)))]) 0))),(D.int 0),(D.int 0)]),(D.bool (qbool (qnth (q106 [pd0,(D.bool pb1),(D.bool pb2),(D.bool Bool.true),(D.int 1),(D.bool (qbool (qnth (q107 [pd0,(D.bool pb1),(D.bool pb2),(D.bool sb2),(D.int 0),(D.bool (qbool (qnth (q105 [pd0,(D.bool pb1),(D.bool pb2),(D.bool sb2),(D.int 2),(D.bool sb1)]) 1)))]) 1)))]) 2))),(D.bool Bool.true)]
  else
  none
  else
  none
  else
  none
  else
  none
  else
  none
  else
  none
  else
  none
  else
  none:=by kernel_rfl
 rw[h];simp only[qeqD_self,qeqI_self,qeq_len,show qcmp BinOp.eql 0 (qlen (D.list []))=true from qeq_len [],show∀a,qcmp BinOp.eql 1 (qlen (D.list [a]))=true from fun a=>qeq_len [a],show∀a b,qcmp BinOp.eql 2 (qlen (D.list [a,b]))=true from fun a b=>qeq_len [a,b],show∀a b c,qcmp BinOp.eql 3 (qlen (D.list [a,b,c]))=true from fun a b c=>qeq_len [a,b,c],show∀a b c d,qcmp BinOp.eql 4 (qlen (D.list [a,b,c,d]))=true from fun a b c d=>qeq_len [a,b,c,d],cond_true]
noncomputable def q67:List D→Option (List D):=veil (F67)
theorem q67_eq:q67=F67:=veil_eq _
noncomputable def tb67:Tb:=Tb.addF tb65 67 S67 (q67)
theorem ok_tb67:TbOk env (tb67):=addFunF ok_tb65 67 (by kernel_rfl) _ (q67_eq)
end Go.Proofs.YtobhhfbdelnhfaaGreatDoor
open Go Go.AM
namespace Go.Proofs.YtobhhfbdelnhfaaGreatDoor
set_option maxRecDepth 100000
set_option linter.unusedSimpArgs false
set_option linter.unusedVariables false
def S37:FunS:=⟨[⟨true, .str⟩,⟨true,(.int .u32)⟩,⟨true,(.func 38 [] [])⟩],[],[⟨true,(.tup [(.dat 24),(.int .i64)])⟩],[]⟩
noncomputable def F37:List D→Option (List D):=liftX env tb67 60 12 37 S37
noncomputable def F37_a0 (ss0:ByteArray) (sn1:Int):D:=(D.agg [(D.int sn1),(D.int (qint (qfld (qnth (q68 [(D.list []),(D.bool (qbool (qnth (q62 [(D.str (qcutA ss0 (ByteArray.mk #[32]))),(D.str (ByteArray.mk #[46,119]))]) 1))),(D.bool Bool.false),(D.str (qstr (qnth (q62 [(D.str (qcutA ss0 (ByteArray.mk #[32]))),(D.str (ByteArray.mk #[46,119]))]) 0))),(D.bool Bool.false),(D.bool Bool.false)]) 0) 1))),(D.int (qint (qfld (qnth (q68 [(D.list []),(D.bool (qbool (qnth (q62 [(D.str (qcutA ss0 (ByteArray.mk #[32]))),(D.str (ByteArray.mk #[46,119]))]) 1))),(D.bool Bool.false),(D.str (qstr (qnth (q62 [(D.str (qcutA ss0 (ByteArray.mk #[32]))),(D.str (ByteArray.mk #[46,119]))]) 0))),(D.bool Bool.false),(D.bool Bool.false)]) 0) 2))),(D.int (qint (qfld (qnth (q68 [(D.list []),(D.bool (qbool (qnth (q62 [(D.str (qcutA ss0 (ByteArray.mk #[32]))),(D.str (ByteArray.mk #[46,119]))]) 1))),(D.bool Bool.false),(D.str (qstr (qnth (q62 [(D.str (qcutA ss0 (ByteArray.mk #[32]))),(D.str (ByteArray.mk #[46,119]))]) 0))),(D.bool Bool.false),(D.bool Bool.false)]) 0) 3))),(D.int (qint (qfld (qnth (q68 [(D.list []),(D.bool (qbool (qnth (q62 [(D.str (qcutA ss0 (ByteArray.mk #[32]))),(D.str (ByteArray.mk #[46,119]))]) 1))),(D.bool Bool.false),(D.str (qstr (qnth (q62 [(D.str (qcutA ss0 (ByteArray.mk #[32]))),(D.str (ByteArray.mk #[46,119]))]) 0))),(D.bool Bool.false),(D.bool Bool.false)]) 0) 4))),(D.int (qint (qfld (qnth (q68 [(D.list []),(D.bool (qbool (qnth (q62 [(D.str (qcutA ss0 (ByteArray.mk #[32]))),(D.str (ByteArray.mk #[46,119]))]) 1))),(D.bool Bool.false),(D.str (qstr (qnth (q62 [(D.str (qcutA ss0 (ByteArray.mk #[32]))),(D.str (ByteArray.mk #[46,119]))]) 0))),(D.bool Bool.false),(D.bool Bool.false)]) 0) 5))),(D.int (qint (qfld (qnth (q68 [(D.list []),(D.bool (qbool (qnth (q62 [(D.str (qcutA ss0 (ByteArray.mk #[32]))),(D.str (ByteArray.mk #[46,119]))]) 1))),(D.bool Bool.false),(D.str (qstr (qnth (q62 [(D.str (qcutA ss0 (ByteArray.mk #[32]))),(D.str (ByteArray.mk #[46,119]))]) 0))),(D.bool Bool.false),(D.bool Bool.false)]) 0) 6))),(D.int (qint (qfld (qnth (q68 [(D.list []),(D.bool (qbool (qnth (q62 [(D.str (qcutA ss0 (ByteArray.mk #[32]))),(D.str (ByteArray.mk #[46,119]))]) 1))),(D.bool Bool.false),(D.str (qstr (qnth (q62 [(D.str (qcutA ss0 (ByteArray.mk #[32]))),(D.str (ByteArray.mk #[46,119]))]) 0))),(D.bool Bool.false),(D.bool Bool.false)]) 0) 7))),(D.int (qint (qfld (qnth (q68 [(D.list []),(D.bool (qbool (qnth (q62 [(D.str (qcutA ss0 (ByteArray.mk #[32]))),(D.str (ByteArray.mk #[46,119]))]) 1))),(D.bool Bool.false),(D.str (qstr (qnth (q62 [(D.str (qcutA ss0 (ByteArray.mk #[32]))),(D.str (ByteArray.mk #[46,119]))]) 0))),(D.bool Bool.false),(D.bool Bool.false)]) 0) 8)))])
noncomputable def F37_a1 (ss0:ByteArray) (sn1:Int):D:=(D.agg [(D.int sn1),(D.int (qint (qfld (qnth (q68 [(D.list []),(D.bool (qbool (qnth (q62 [(D.str (qcutA ss0 (ByteArray.mk #[32]))),(D.str (ByteArray.mk #[46,119]))]) 1))),(D.bool Bool.false),(D.str (qstr (qnth (q62 [(D.str (qcutA ss0 (ByteArray.mk #[32]))),(D.str (ByteArray.mk #[46,119]))]) 0))),(D.bool Bool.false),(D.bool Bool.false)]) 0) 1))),(D.int (qint (qfld (qnth (q68 [(D.list []),(D.bool (qbool (qnth (q62 [(D.str (qcutA ss0 (ByteArray.mk #[32]))),(D.str (ByteArray.mk #[46,119]))]) 1))),(D.bool Bool.false),(D.str (qstr (qnth (q62 [(D.str (qcutA ss0 (ByteArray.mk #[32]))),(D.str (ByteArray.mk #[46,119]))]) 0))),(D.bool Bool.false),(D.bool Bool.false)]) 0) 2))),(D.int (qint (qfld (qnth (q68 [(D.list []),(D.bool (qbool (qnth (q62 [(D.str (qcutA ss0 (ByteArray.mk #[32]))),(D.str (ByteArray.mk #[46,119]))]) 1))),(D.bool Bool.false),(D.str (qstr (qnth (q62 [(D.str (qcutA ss0 (ByteArray.mk #[32]))),(D.str (ByteArray.mk #[46,119]))]) 0))),(D.bool Bool.false),(D.bool Bool.false)]) 0) 3))),(D.int (qint (qfld (qnth (q68 [(D.list []),(D.bool (qbool (qnth (q62 [(D.str (qcutA ss0 (ByteArray.mk #[32]))),(D.str (ByteArray.mk #[46,119]))]) 1))),(D.bool Bool.false),(D.str (qstr (qnth (q62 [(D.str (qcutA ss0 (ByteArray.mk #[32]))),(D.str (ByteArray.mk #[46,119]))]) 0))),(D.bool Bool.false),(D.bool Bool.false)]) 0) 4))),(D.int (qint (qfld (qnth (q68 [(D.list []),(D.bool (qbool (qnth (q62 [(D.str (qcutA ss0 (ByteArray.mk #[32]))),(D.str (ByteArray.mk #[46,119]))]) 1))),(D.bool Bool.false),(D.str (qstr (qnth (q62 [(D.str (qcutA ss0 (ByteArray.mk #[32]))),(D.str (ByteArray.mk #[46,119]))]) 0))),(D.bool Bool.false),(D.bool Bool.false)]) 0) 5))),(D.int (qint (qfld (qnth (q68 [(D.list []),(D.bool (qbool (qnth (q62 [(D.str (qcutA ss0 (ByteArray.mk #[32]))),(D.str (ByteArray.mk #[46,119]))]) 1))),(D.bool Bool.false),(D.str (qstr (qnth (q62 [(D.str (qcutA ss0 (ByteArray.mk #[32]))),(D.str (ByteArray.mk #[46,119]))]) 0))),(D.bool Bool.false),(D.bool Bool.false)]) 0) 6))),(D.int (qint (qfld (qnth (q68 [(D.list []),(D.bool (qbool (qnth (q62 [(D.str (qcutA ss0 (ByteArray.mk #[32]))),(D.str (ByteArray.mk #[46,119]))]) 1))),(D.bool Bool.false),(D.str (qstr (qnth (q62 [(D.str (qcutA ss0 (ByteArray.mk #[32]))),(D.str (ByteArray.mk #[46,119]))]) 0))),(D.bool Bool.false),(D.bool Bool.false)]) 0) 7))),(D.int (qint (qnth (q69 [(F37_a0 ss0 sn1)]) 0)))])
noncomputable def F37_a2 (ss0:ByteArray) (sn1:Int):D:=(D.agg [(D.int 0),(D.int 0),(D.int 0),(D.int 0),(D.int 0),(D.int 0),(D.int 0),(D.int 0),(D.int 0)])
noncomputable def F37_a3 (ss0:ByteArray) (sn1:Int):D:=(D.agg [(D.int sn1),(D.int (qint (qfld (qnth (q67 [(D.list []),(D.bool Bool.false),(D.bool (qbool (qnth (q62 [(D.str (qcutA ss0 (ByteArray.mk #[32]))),(D.str (ByteArray.mk #[46,119]))]) 1))),(D.int (qbin BinOp.add IntKind.i64 5 (qint (qnth (q63_64 [(D.str (qstr (qnth (q62 [(D.str (qcutA ss0 (ByteArray.mk #[32]))),(D.str (ByteArray.mk #[46,119]))]) 0))),(D.int 11)]) 0)))),(D.bool Bool.false),(D.bool Bool.false)]) 0) 1))),(D.int (qint (qfld (qnth (q67 [(D.list []),(D.bool Bool.false),(D.bool (qbool (qnth (q62 [(D.str (qcutA ss0 (ByteArray.mk #[32]))),(D.str (ByteArray.mk #[46,119]))]) 1))),(D.int (qbin BinOp.add IntKind.i64 5 (qint (qnth (q63_64 [(D.str (qstr (qnth (q62 [(D.str (qcutA ss0 (ByteArray.mk #[32]))),(D.str (ByteArray.mk #[46,119]))]) 0))),(D.int 11)]) 0)))),(D.bool Bool.false),(D.bool Bool.false)]) 0) 2))),(D.int (qint (qfld (qnth (q67 [(D.list []),(D.bool Bool.false),(D.bool (qbool (qnth (q62 [(D.str (qcutA ss0 (ByteArray.mk #[32]))),(D.str (ByteArray.mk #[46,119]))]) 1))),(D.int (qbin BinOp.add IntKind.i64 5 (qint (qnth (q63_64 [(D.str (qstr (qnth (q62 [(D.str (qcutA ss0 (ByteArray.mk #[32]))),(D.str (ByteArray.mk #[46,119]))]) 0))),(D.int 11)]) 0)))),(D.bool Bool.false),(D.bool Bool.false)]) 0) 3))),(D.int (qint (qfld (qnth (q67 [(D.list []),(D.bool Bool.false),(D.bool (qbool (qnth (q62 [(D.str (qcutA ss0 (ByteArray.mk #[32]))),(D.str (ByteArray.mk #[46,119]))]) 1))),(D.int (qbin BinOp.add IntKind.i64 5 (qint (qnth (q63_64 [(D.str (qstr (qnth (q62 [(D.str (qcutA ss0 (ByteArray.mk #[32]))),(D.str (ByteArray.mk #[46,119]))]) 0))),(D.int 11)]) 0)))),(D.bool Bool.false),(D.bool Bool.false)]) 0) 4))),(D.int (qint (qfld (qnth (q67 [(D.list []),(D.bool Bool.false),(D.bool (qbool (qnth (q62 [(D.str (qcutA ss0 (ByteArray.mk #[32]))),(D.str (ByteArray.mk #[46,119]))]) 1))),(D.int (qbin BinOp.add IntKind.i64 5 (qint (qnth (q63_64 [(D.str (qstr (qnth (q62 [(D.str (qcutA ss0 (ByteArray.mk #[32]))),(D.str (ByteArray.mk #[46,119]))]) 0))),(D.int 11)]) 0)))),(D.bool Bool.false),(D.bool Bool.false)]) 0) 5))),(D.int (qint (qfld (qnth (q67 [(D.list []),(D.bool Bool.false),(D.bool (qbool (qnth (q62 [(D.str (qcutA ss0 (ByteArray.mk #[32]))),(D.str (ByteArray.mk #[46,119]))]) 1))),(D.int (qbin BinOp.add IntKind.i64 5 (qint (qnth (q63_64 [(D.str (qstr (qnth (q62 [(D.str (qcutA ss0 (ByteArray.mk #[32]))),(D.str (ByteArray.mk #[46,119]))]) 0))),(D.int 11)]) 0)))),(D.bool Bool.false),(D.bool Bool.false)]) 0) 6))),(D.int (qint (qfld (qnth (q67 [(D.list []),(D.bool Bool.false),(D.bool (qbool (qnth (q62 [(D.str (qcutA ss0 (ByteArray.mk #[32]))),(D.str (ByteArray.mk #[46,119]))]) 1))),(D.int (qbin BinOp.add IntKind.i64 5 (qint (qnth (q63_64 [(D.str (qstr (qnth (q62 [(D.str (qcutA ss0 (ByteArray.mk #[32]))),(D.str (ByteArray.mk #[46,119]))]) 0))),(D.int 11)]) 0)))),(D.bool Bool.false),(D.bool Bool.false)]) 0) 7))),(D.int (qint (qfld (qnth (q67 [(D.list []),(D.bool Bool.false),(D.bool (qbool (qnth (q62 [(D.str (qcutA ss0 (ByteArray.mk #[32]))),(D.str (ByteArray.mk #[46,119]))]) 1))),(D.int (qbin BinOp.add IntKind.i64 5 (qint (qnth (q63_64 [(D.str (qstr (qnth (q62 [(D.str (qcutA ss0 (ByteArray.mk #[32]))),(D.str (ByteArray.mk #[46,119]))]) 0))),(D.int 11)]) 0)))),(D.bool Bool.false),(D.bool Bool.false)]) 0) 8)))])
noncomputable def F37_a4 (ss0:ByteArray) (sn1:Int):D:=(D.agg [(D.int sn1),(D.int (qint (qfld (qnth (q67 [(D.list []),(D.bool Bool.false),(D.bool (qbool (qnth (q62 [(D.str (qcutA ss0 (ByteArray.mk #[32]))),(D.str (ByteArray.mk #[46,119]))]) 1))),(D.int (qbin BinOp.add IntKind.i64 5 (qint (qnth (q63_64 [(D.str (qstr (qnth (q62 [(D.str (qcutA ss0 (ByteArray.mk #[32]))),(D.str (ByteArray.mk #[46,119]))]) 0))),(D.int 11)]) 0)))),(D.bool Bool.false),(D.bool Bool.false)]) 0) 1))),(D.int (qint (qfld (qnth (q67 [(D.list []),(D.bool Bool.false),(D.bool (qbool (qnth (q62 [(D.str (qcutA ss0 (ByteArray.mk #[32]))),(D.str (ByteArray.mk #[46,119]))]) 1))),(D.int (qbin BinOp.add IntKind.i64 5 (qint (qnth (q63_64 [(D.str (qstr (qnth (q62 [(D.str (qcutA ss0 (ByteArray.mk #[32]))),(D.str (ByteArray.mk #[46,119]))]) 0))),(D.int 11)]) 0)))),(D.bool Bool.false),(D.bool Bool.false)]) 0) 2))),(D.int (qint (qfld (qnth (q67 [(D.list []),(D.bool Bool.false),(D.bool (qbool (qnth (q62 [(D.str (qcutA ss0 (ByteArray.mk #[32]))),(D.str (ByteArray.mk #[46,119]))]) 1))),(D.int (qbin BinOp.add IntKind.i64 5 (qint (qnth (q63_64 [(D.str (qstr (qnth (q62 [(D.str (qcutA ss0 (ByteArray.mk #[32]))),(D.str (ByteArray.mk #[46,119]))]) 0))),(D.int 11)]) 0)))),(D.bool Bool.false),(D.bool Bool.false)]) 0) 3))),(D.int (qint (qfld (qnth (q67 [(D.list []),(D.bool Bool.false),(D.bool (qbool (qnth (q62 [(D.str (qcutA ss0 (ByteArray.mk #[32]))),(D.str (ByteArray.mk #[46,119]))]) 1))),(D.int (qbin BinOp.add IntKind.i64 5 (qint (qnth (q63_64 [(D.str (qstr (qnth (q62 [(D.str (qcutA ss0 (ByteArray.mk #[32]))),(D.str (ByteArray.mk #[46,119]))]) 0))),(D.int 11)]) 0)))),(D.bool Bool.false),(D.bool Bool.false)]) 0) 4))),(D.int (qint (qfld (qnth (q67 [(D.list []),(D.bool Bool.false),(D.bool (qbool (qnth (q62 [(D.str (qcutA ss0 (ByteArray.mk #[32]))),(D.str (ByteArray.mk #[46,119]))]) 1))),(D.int (qbin BinOp.add IntKind.i64 5 (qint (qnth (q63_64 [(D.str (qstr (qnth (q62 [(D.str (qcutA ss0 (ByteArray.mk #[32]))),(D.str (ByteArray.mk #[46,119]))]) 0))),(D.int 11)]) 0)))),(D.bool Bool.false),(D.bool Bool.false)]) 0) 5))),(D.int (qint (qfld (qnth (q67 [(D.list []),(D.bool Bool.false),(D.bool (qbool (qnth (q62 [(D.str (qcutA ss0 (ByteArray.mk #[32]))),(D.str (ByteArray.mk #[46,119]))]) 1))),(D.int (qbin BinOp.add IntKind.i64 5 (qint (qnth (q63_64 [(D.str (qstr (qnth (q62 [(D.str (qcutA ss0 (ByteArray.mk #[32]))),(D.str (ByteArray.mk #[46,119]))]) 0))),(D.int 11)]) 0)))),(D.bool Bool.false),(D.bool Bool.false)]) 0) 6))),(D.int (qint (qfld (qnth (q67 [(D.list []),(D.bool Bool.false),(D.bool (qbool (qnth (q62 [(D.str (qcutA ss0 (ByteArray.mk #[32]))),(D.str (ByteArray.mk #[46,119]))]) 1))),(D.int (qbin BinOp.add IntKind.i64 5 (qint (qnth (q63_64 [(D.str (qstr (qnth (q62 [(D.str (qcutA ss0 (ByteArray.mk #[32]))),(D.str (ByteArray.mk #[46,119]))]) 0))),(D.int 11)]) 0)))),(D.bool Bool.false),(D.bool Bool.false)]) 0) 7))),(D.int (qint (qnth (q69 [(F37_a3 ss0 sn1)]) 0)))])
noncomputable def F37_a5 (ss0:ByteArray) (sn1:Int):D:=(D.agg [(D.int 0),(D.int 0),(D.int 25),(D.int 0),(D.int 0),(D.int (qmm BinOp.gtr (qint (qnth (q63_26 [(D.str (qstr (qnth (q59 [(D.str (qstr (qnth (q62 [(D.str (qcutA ss0 (ByteArray.mk #[32]))),(D.str (ByteArray.mk #[46,119]))]) 0))),(D.str (ByteArray.mk #[115,101,116]))]) 0))),(D.int 15)]) 0)) 0)),(D.int 0),(D.int 0),(D.int 0)])
noncomputable def F37_a6 (ss0:ByteArray) (sn1:Int):D:=(D.agg [(D.int sn1),(D.int (qint (qfld (qnth (q66 [(D.list []),(D.bool Bool.false),(D.bool (qbool (qnth (q62 [(D.str (qcutA ss0 (ByteArray.mk #[32]))),(D.str (ByteArray.mk #[46,119]))]) 1))),(D.bool Bool.false),(F37_a5 ss0 sn1),(D.bool Bool.false)]) 0) 1))),(D.int (qint (qfld (qnth (q66 [(D.list []),(D.bool Bool.false),(D.bool (qbool (qnth (q62 [(D.str (qcutA ss0 (ByteArray.mk #[32]))),(D.str (ByteArray.mk #[46,119]))]) 1))),(D.bool Bool.false),(F37_a5 ss0 sn1),(D.bool Bool.false)]) 0) 2))),(D.int (qint (qfld (qnth (q66 [(D.list []),(D.bool Bool.false),(D.bool (qbool (qnth (q62 [(D.str (qcutA ss0 (ByteArray.mk #[32]))),(D.str (ByteArray.mk #[46,119]))]) 1))),(D.bool Bool.false),(F37_a5 ss0 sn1),(D.bool Bool.false)]) 0) 3))),(D.int (qint (qfld (qnth (q66 [(D.list []),(D.bool Bool.false),(D.bool (qbool (qnth (q62 [(D.str (qcutA ss0 (ByteArray.mk #[32]))),(D.str (ByteArray.mk #[46,119]))]) 1))),(D.bool Bool.false),(F37_a5 ss0 sn1),(D.bool Bool.false)]) 0) 4))),(D.int (qint (qfld (qnth (q66 [(D.list []),(D.bool Bool.false),(D.bool (qbool (qnth (q62 [(D.str (qcutA ss0 (ByteArray.mk #[32]))),(D.str (ByteArray.mk #[46,119]))]) 1))),(D.bool Bool.false),(F37_a5 ss0 sn1),(D.bool Bool.false)]) 0) 5))),(D.int (qint (qfld (qnth (q66 [(D.list []),(D.bool Bool.false),(D.bool (qbool (qnth (q62 [(D.str (qcutA ss0 (ByteArray.mk #[32]))),(D.str (ByteArray.mk #[46,119]))]) 1))),(D.bool Bool.false),(F37_a5 ss0 sn1),(D.bool Bool.false)]) 0) 6))),(D.int (qint (qfld (qnth (q66 [(D.list []),(D.bool Bool.false),(D.bool (qbool (qnth (q62 [(D.str (qcutA ss0 (ByteArray.mk #[32]))),(D.str (ByteArray.mk #[46,119]))]) 1))),(D.bool Bool.false),(F37_a5 ss0 sn1),(D.bool Bool.false)]) 0) 7))),(D.int (qint (qfld (qnth (q66 [(D.list []),(D.bool Bool.false),(D.bool (qbool (qnth (q62 [(D.str (qcutA ss0 (ByteArray.mk #[32]))),(D.str (ByteArray.mk #[46,119]))]) 1))),(D.bool Bool.false),(F37_a5 ss0 sn1),(D.bool Bool.false)]) 0) 8)))])
noncomputable def F37_a7 (ss0:ByteArray) (sn1:Int):D:=(D.agg [(D.int sn1),(D.int (qint (qfld (qnth (q66 [(D.list []),(D.bool Bool.false),(D.bool (qbool (qnth (q62 [(D.str (qcutA ss0 (ByteArray.mk #[32]))),(D.str (ByteArray.mk #[46,119]))]) 1))),(D.bool Bool.false),(F37_a5 ss0 sn1),(D.bool Bool.false)]) 0) 1))),(D.int (qint (qfld (qnth (q66 [(D.list []),(D.bool Bool.false),(D.bool (qbool (qnth (q62 [(D.str (qcutA ss0 (ByteArray.mk #[32]))),(D.str (ByteArray.mk #[46,119]))]) 1))),(D.bool Bool.false),(F37_a5 ss0 sn1),(D.bool Bool.false)]) 0) 2))),(D.int (qint (qfld (qnth (q66 [(D.list []),(D.bool Bool.false),(D.bool (qbool (qnth (q62 [(D.str (qcutA ss0 (ByteArray.mk #[32]))),(D.str (ByteArray.mk #[46,119]))]) 1))),(D.bool Bool.false),(F37_a5 ss0 sn1),(D.bool Bool.false)]) 0) 3))),(D.int (qint (qfld (qnth (q66 [(D.list []),(D.bool Bool.false),(D.bool (qbool (qnth (q62 [(D.str (qcutA ss0 (ByteArray.mk #[32]))),(D.str (ByteArray.mk #[46,119]))]) 1))),(D.bool Bool.false),(F37_a5 ss0 sn1),(D.bool Bool.false)]) 0) 4))),(D.int (qint (qfld (qnth (q66 [(D.list []),(D.bool Bool.false),(D.bool (qbool (qnth (q62 [(D.str (qcutA ss0 (ByteArray.mk #[32]))),(D.str (ByteArray.mk #[46,119]))]) 1))),(D.bool Bool.false),(F37_a5 ss0 sn1),(D.bool Bool.false)]) 0) 5))),(D.int (qint (qfld (qnth (q66 [(D.list []),(D.bool Bool.false),(D.bool (qbool (qnth (q62 [(D.str (qcutA ss0 (ByteArray.mk #[32]))),(D.str (ByteArray.mk #[46,119]))]) 1))),(D.bool Bool.false),(F37_a5 ss0 sn1),(D.bool Bool.false)]) 0) 6))),(D.int (qint (qfld (qnth (q66 [(D.list []),(D.bool Bool.false),(D.bool (qbool (qnth (q62 [(D.str (qcutA ss0 (ByteArray.mk #[32]))),(D.str (ByteArray.mk #[46,119]))]) 1))),(D.bool Bool.false),(F37_a5 ss0 sn1),(D.bool Bool.false)]) 0) 7))),(D.int (qint (qnth (q69 [(F37_a6 ss0 sn1)]) 0)))])
noncomputable def F37_a8 (ss0:ByteArray) (sn1:Int):D:=(D.agg [(D.int sn1),(D.int (qint (qfld (qnth (q65 [(D.list []),(D.bool Bool.false),(D.bool (qbool (qnth (q62 [(D.str (qcutA ss0 (ByteArray.mk #[32]))),(D.str (ByteArray.mk #[46,119]))]) 1))),(D.int (qiteI (qbool (qnth (q59 [(D.str (qstr (qnth (q62 [(D.str (qcutA ss0 (ByteArray.mk #[32]))),(D.str (ByteArray.mk #[46,119]))]) 0))),(D.str (ByteArray.mk #[106]))]) 1)) (qint (qnth (q63_26 [(D.str (qstr (qnth (q59 [(D.str (qstr (qnth (q62 [(D.str (qcutA ss0 (ByteArray.mk #[32]))),(D.str (ByteArray.mk #[46,119]))]) 0))),(D.str (ByteArray.mk #[106]))]) 0))),(D.int 15)]) 0)) (-1))),(D.int sn1),(D.bool Bool.false),(D.bool Bool.false)]) 0) 1))),(D.int (qint (qfld (qnth (q65 [(D.list []),(D.bool Bool.false),(D.bool (qbool (qnth (q62 [(D.str (qcutA ss0 (ByteArray.mk #[32]))),(D.str (ByteArray.mk #[46,119]))]) 1))),(D.int (qiteI (qbool (qnth (q59 [(D.str (qstr (qnth (q62 [(D.str (qcutA ss0 (ByteArray.mk #[32]))),(D.str (ByteArray.mk #[46,119]))]) 0))),(D.str (ByteArray.mk #[106]))]) 1)) (qint (qnth (q63_26 [(D.str (qstr (qnth (q59 [(D.str (qstr (qnth (q62 [(D.str (qcutA ss0 (ByteArray.mk #[32]))),(D.str (ByteArray.mk #[46,119]))]) 0))),(D.str (ByteArray.mk #[106]))]) 0))),(D.int 15)]) 0)) (-1))),(D.int sn1),(D.bool Bool.false),(D.bool Bool.false)]) 0) 2))),(D.int (qint (qfld (qnth (q65 [(D.list []),(D.bool Bool.false),(D.bool (qbool (qnth (q62 [(D.str (qcutA ss0 (ByteArray.mk #[32]))),(D.str (ByteArray.mk #[46,119]))]) 1))),(D.int (qiteI (qbool (qnth (q59 [(D.str (qstr (qnth (q62 [(D.str (qcutA ss0 (ByteArray.mk #[32]))),(D.str (ByteArray.mk #[46,119]))]) 0))),(D.str (ByteArray.mk #[106]))]) 1)) (qint (qnth (q63_26 [(D.str (qstr (qnth (q59 [(D.str (qstr (qnth (q62 [(D.str (qcutA ss0 (ByteArray.mk #[32]))),(D.str (ByteArray.mk #[46,119]))]) 0))),(D.str (ByteArray.mk #[106]))]) 0))),(D.int 15)]) 0)) (-1))),(D.int sn1),(D.bool Bool.false),(D.bool Bool.false)]) 0) 3))),(D.int (qint (qfld (qnth (q65 [(D.list []),(D.bool Bool.false),(D.bool (qbool (qnth (q62 [(D.str (qcutA ss0 (ByteArray.mk #[32]))),(D.str (ByteArray.mk #[46,119]))]) 1))),(D.int (qiteI (qbool (qnth (q59 [(D.str (qstr (qnth (q62 [(D.str (qcutA ss0 (ByteArray.mk #[32]))),(D.str (ByteArray.mk #[46,119]))]) 0))),(D.str (ByteArray.mk #[106]))]) 1)) (qint (qnth (q63_26 [(D.str (qstr (qnth (q59 [(D.str (qstr (qnth (q62 [(D.str (qcutA ss0 (ByteArray.mk #[32]))),(D.str (ByteArray.mk #[46,119]))]) 0))),(D.str (ByteArray.mk #[106]))]) 0))),(D.int 15)]) 0)) (-1))),(D.int sn1),(D.bool Bool.false),(D.bool Bool.false)]) 0) 4))),(D.int (qint (qfld (qnth (q65 [(D.list []),(D.bool Bool.false),(D.bool (qbool (qnth (q62 [(D.str (qcutA ss0 (ByteArray.mk #[32]))),(D.str (ByteArray.mk #[46,119]))]) 1))),(D.int (qiteI (qbool (qnth (q59 [(D.str (qstr (qnth (q62 [(D.str (qcutA ss0 (ByteArray.mk #[32]))),(D.str (ByteArray.mk #[46,119]))]) 0))),(D.str (ByteArray.mk #[106]))]) 1)) (qint (qnth (q63_26 [(D.str (qstr (qnth (q59 [(D.str (qstr (qnth (q62 [(D.str (qcutA ss0 (ByteArray.mk #[32]))),(D.str (ByteArray.mk #[46,119]))]) 0))),(D.str (ByteArray.mk #[106]))]) 0))),(D.int 15)]) 0)) (-1))),(D.int sn1),(D.bool Bool.false),(D.bool Bool.false)]) 0) 5))),(D.int (qint (qfld (qnth (q65 [(D.list []),(D.bool Bool.false),(D.bool (qbool (qnth (q62 [(D.str (qcutA ss0 (ByteArray.mk #[32]))),(D.str (ByteArray.mk #[46,119]))]) 1))),(D.int (qiteI (qbool (qnth (q59 [(D.str (qstr (qnth (q62 [(D.str (qcutA ss0 (ByteArray.mk #[32]))),(D.str (ByteArray.mk #[46,119]))]) 0))),(D.str (ByteArray.mk #[106]))]) 1)) (qint (qnth (q63_26 [(D.str (qstr (qnth (q59 [(D.str (qstr (qnth (q62 [(D.str (qcutA ss0 (ByteArray.mk #[32]))),(D.str (ByteArray.mk #[46,119]))]) 0))),(D.str (ByteArray.mk #[106]))]) 0))),(D.int 15)]) 0)) (-1))),(D.int sn1),(D.bool Bool.false),(D.bool Bool.false)]) 0) 6))),(D.int (qint (qfld (qnth (q65 [(D.list []),(D.bool Bool.false),(D.bool (qbool (qnth (q62 [(D.str (qcutA ss0 (ByteArray.mk #[32]))),(D.str (ByteArray.mk #[46,119]))]) 1))),(D.int (qiteI (qbool (qnth (q59 [(D.str (qstr (qnth (q62 [(D.str (qcutA ss0 (ByteArray.mk #[32]))),(D.str (ByteArray.mk #[46,119]))]) 0))),(D.str (ByteArray.mk #[106]))]) 1)) (qint (qnth (q63_26 [(D.str (qstr (qnth (q59 [(D.str (qstr (qnth (q62 [(D.str (qcutA ss0 (ByteArray.mk #[32]))),(D.str (ByteArray.mk #[46,119]))]) 0))),(D.str (ByteArray.mk #[106]))]) 0))),(D.int 15)]) 0)) (-1))),(D.int sn1),(D.bool Bool.false),(D.bool Bool.false)]) 0) 7))),(D.int (qint (qfld (qnth (q65 [(D.list []),(D.bool Bool.false),(D.bool (qbool (qnth (q62 [(D.str (qcutA ss0 (ByteArray.mk #[32]))),(D.str (ByteArray.mk #[46,119]))]) 1))),(D.int (qiteI (qbool (qnth (q59 [(D.str (qstr (qnth (q62 [(D.str (qcutA ss0 (ByteArray.mk #[32]))),(D.str (ByteArray.mk #[46,119]))]) 0))),(D.str (ByteArray.mk #[106]))]) 1)) (qint (qnth (q63_26 [(D.str (qstr (qnth (q59 [(D.str (qstr (qnth (q62 [(D.str (qcutA ss0 (ByteArray.mk #[32]))),(D.str (ByteArray.mk #[46,119]))]) 0))),(D.str (ByteArray.mk #[106]))]) 0))),(D.int 15)]) 0)) (-1))),(D.int sn1),(D.bool Bool.false),(D.bool Bool.false)]) 0) 8)))])
noncomputable def F37_a9 (ss0:ByteArray) (sn1:Int):D:=(D.agg [(D.int sn1),(D.int (qint (qfld (qnth (q65 [(D.list []),(D.bool Bool.false),(D.bool (qbool (qnth (q62 [(D.str (qcutA ss0 (ByteArray.mk #[32]))),(D.str (ByteArray.mk #[46,119]))]) 1))),(D.int (qiteI (qbool (qnth (q59 [(D.str (qstr (qnth (q62 [(D.str (qcutA ss0 (ByteArray.mk #[32]))),(D.str (ByteArray.mk #[46,119]))]) 0))),(D.str (ByteArray.mk #[106]))]) 1)) (qint (qnth (q63_26 [(D.str (qstr (qnth (q59 [(D.str (qstr (qnth (q62 [(D.str (qcutA ss0 (ByteArray.mk #[32]))),(D.str (ByteArray.mk #[46,119]))]) 0))),(D.str (ByteArray.mk #[106]))]) 0))),(D.int 15)]) 0)) (-1))),(D.int sn1),(D.bool Bool.false),(D.bool Bool.false)]) 0) 1))),(D.int (qint (qfld (qnth (q65 [(D.list []),(D.bool Bool.false),(D.bool (qbool (qnth (q62 [(D.str (qcutA ss0 (ByteArray.mk #[32]))),(D.str (ByteArray.mk #[46,119]))]) 1))),(D.int (qiteI (qbool (qnth (q59 [(D.str (qstr (qnth (q62 [(D.str (qcutA ss0 (ByteArray.mk #[32]))),(D.str (ByteArray.mk #[46,119]))]) 0))),(D.str (ByteArray.mk #[106]))]) 1)) (qint (qnth (q63_26 [(D.str (qstr (qnth (q59 [(D.str (qstr (qnth (q62 [(D.str (qcutA ss0 (ByteArray.mk #[32]))),(D.str (ByteArray.mk #[46,119]))]) 0))),(D.str (ByteArray.mk #[106]))]) 0))),(D.int 15)]) 0)) (-1))),(D.int sn1),(D.bool Bool.false),(D.bool Bool.false)]) 0) 2))),(D.int (qint (qfld (qnth (q65 [(D.list []),(D.bool Bool.false),(D.bool (qbool (qnth (q62 [(D.str (qcutA ss0 (ByteArray.mk #[32]))),(D.str (ByteArray.mk #[46,119]))]) 1))),(D.int (qiteI (qbool (qnth (q59 [(D.str (qstr (qnth (q62 [(D.str (qcutA ss0 (ByteArray.mk #[32]))),(D.str (ByteArray.mk #[46,119]))]) 0))),(D.str (ByteArray.mk #[106]))]) 1)) (qint (qnth (q63_26 [(D.str (qstr (qnth (q59 [(D.str (qstr (qnth (q62 [(D.str (qcutA ss0 (ByteArray.mk #[32]))),(D.str (ByteArray.mk #[46,119]))]) 0))),(D.str (ByteArray.mk #[106]))]) 0))),(D.int 15)]) 0)) (-1))),(D.int sn1),(D.bool Bool.false),(D.bool Bool.false)]) 0) 3))),(D.int (qint (qfld (qnth (q65 [(D.list []),(D.bool Bool.false),(D.bool (qbool (qnth (q62 [(D.str (qcutA ss0 (ByteArray.mk #[32]))),(D.str (ByteArray.mk #[46,119]))]) 1))),(D.int (qiteI (qbool (qnth (q59 [(D.str (qstr (qnth (q62 [(D.str (qcutA ss0 (ByteArray.mk #[32]))),(D.str (ByteArray.mk #[46,119]))]) 0))),(D.str (ByteArray.mk #[106]))]) 1)) (qint (qnth (q63_26 [(D.str (qstr (qnth (q59 [(D.str (qstr (qnth (q62 [(D.str (qcutA ss0 (ByteArray.mk #[32]))),(D.str (ByteArray.mk #[46,119]))]) 0))),(D.str (ByteArray.mk #[106]))]) 0))),(D.int 15)]) 0)) (-1))),(D.int sn1),(D.bool Bool.false),(D.bool Bool.false)]) 0) 4))),(D.int (qint (qfld (qnth (q65 [(D.list []),(D.bool Bool.false),(D.bool (qbool (qnth (q62 [(D.str (qcutA ss0 (ByteArray.mk #[32]))),(D.str (ByteArray.mk #[46,119]))]) 1))),(D.int (qiteI (qbool (qnth (q59 [(D.str (qstr (qnth (q62 [(D.str (qcutA ss0 (ByteArray.mk #[32]))),(D.str (ByteArray.mk #[46,119]))]) 0))),(D.str (ByteArray.mk #[106]))]) 1)) (qint (qnth (q63_26 [(D.str (qstr (qnth (q59 [(D.str (qstr (qnth (q62 [(D.str (qcutA ss0 (ByteArray.mk #[32]))),(D.str (ByteArray.mk #[46,119]))]) 0))),(D.str (ByteArray.mk #[106]))]) 0))),(D.int 15)]) 0)) (-1))),(D.int sn1),(D.bool Bool.false),(D.bool Bool.false)]) 0) 5))),(D.int (qint (qfld (qnth (q65 [(D.list []),(D.bool Bool.false),(D.bool (qbool (qnth (q62 [(D.str (qcutA ss0 (ByteArray.mk #[32]))),(D.str (ByteArray.mk #[46,119]))]) 1))),(D.int (qiteI (qbool (qnth (q59 [(D.str (qstr (qnth (q62 [(D.str (qcutA ss0 (ByteArray.mk #[32]))),(D.str (ByteArray.mk #[46,119]))]) 0))),(D.str (ByteArray.mk #[106]))]) 1)) (qint (qnth (q63_26 [(D.str (qstr (qnth (q59 [(D.str (qstr (qnth (q62 [(D.str (qcutA ss0 (ByteArray.mk #[32]))),(D.str (ByteArray.mk #[46,119]))]) 0))),(D.str (ByteArray.mk #[106]))]) 0))),(D.int 15)]) 0)) (-1))),(D.int sn1),(D.bool Bool.false),(D.bool Bool.false)]) 0) 6))),(D.int (qint (qfld (qnth (q65 [(D.list []),(D.bool Bool.false),(D.bool (qbool (qnth (q62 [(D.str (qcutA ss0 (ByteArray.mk #[32]))),(D.str (ByteArray.mk #[46,119]))]) 1))),(D.int (qiteI (qbool (qnth (q59 [(D.str (qstr (qnth (q62 [(D.str (qcutA ss0 (ByteArray.mk #[32]))),(D.str (ByteArray.mk #[46,119]))]) 0))),(D.str (ByteArray.mk #[106]))]) 1)) (qint (qnth (q63_26 [(D.str (qstr (qnth (q59 [(D.str (qstr (qnth (q62 [(D.str (qcutA ss0 (ByteArray.mk #[32]))),(D.str (ByteArray.mk #[46,119]))]) 0))),(D.str (ByteArray.mk #[106]))]) 0))),(D.int 15)]) 0)) (-1))),(D.int sn1),(D.bool Bool.false),(D.bool Bool.false)]) 0) 7))),(D.int (qint (qnth (q69 [(F37_a8 ss0 sn1)]) 0)))])
noncomputable def F37_a10 (ss0:ByteArray) (sn1:Int):D:=(D.agg [(D.int sn1),(D.int (qint (qfld (qnth (q65 [(D.list []),(D.bool Bool.false),(D.bool (qbool (qnth (q62 [(D.str (qcutA ss0 (ByteArray.mk #[32]))),(D.str (ByteArray.mk #[46,119]))]) 1))),(D.int 0),(D.int sn1),(D.bool Bool.false),(D.bool Bool.false)]) 0) 1))),(D.int (qint (qfld (qnth (q65 [(D.list []),(D.bool Bool.false),(D.bool (qbool (qnth (q62 [(D.str (qcutA ss0 (ByteArray.mk #[32]))),(D.str (ByteArray.mk #[46,119]))]) 1))),(D.int 0),(D.int sn1),(D.bool Bool.false),(D.bool Bool.false)]) 0) 2))),(D.int (qint (qfld (qnth (q65 [(D.list []),(D.bool Bool.false),(D.bool (qbool (qnth (q62 [(D.str (qcutA ss0 (ByteArray.mk #[32]))),(D.str (ByteArray.mk #[46,119]))]) 1))),(D.int 0),(D.int sn1),(D.bool Bool.false),(D.bool Bool.false)]) 0) 3))),(D.int (qint (qfld (qnth (q65 [(D.list []),(D.bool Bool.false),(D.bool (qbool (qnth (q62 [(D.str (qcutA ss0 (ByteArray.mk #[32]))),(D.str (ByteArray.mk #[46,119]))]) 1))),(D.int 0),(D.int sn1),(D.bool Bool.false),(D.bool Bool.false)]) 0) 4))),(D.int (qint (qfld (qnth (q65 [(D.list []),(D.bool Bool.false),(D.bool (qbool (qnth (q62 [(D.str (qcutA ss0 (ByteArray.mk #[32]))),(D.str (ByteArray.mk #[46,119]))]) 1))),(D.int 0),(D.int sn1),(D.bool Bool.false),(D.bool Bool.false)]) 0) 5))),(D.int (qint (qfld (qnth (q65 [(D.list []),(D.bool Bool.false),(D.bool (qbool (qnth (q62 [(D.str (qcutA ss0 (ByteArray.mk #[32]))),(D.str (ByteArray.mk #[46,119]))]) 1))),(D.int 0),(D.int sn1),(D.bool Bool.false),(D.bool Bool.false)]) 0) 6))),(D.int (qint (qfld (qnth (q65 [(D.list []),(D.bool Bool.false),(D.bool (qbool (qnth (q62 [(D.str (qcutA ss0 (ByteArray.mk #[32]))),(D.str (ByteArray.mk #[46,119]))]) 1))),(D.int 0),(D.int sn1),(D.bool Bool.false),(D.bool Bool.false)]) 0) 7))),(D.int (qint (qfld (qnth (q65 [(D.list []),(D.bool Bool.false),(D.bool (qbool (qnth (q62 [(D.str (qcutA ss0 (ByteArray.mk #[32]))),(D.str (ByteArray.mk #[46,119]))]) 1))),(D.int 0),(D.int sn1),(D.bool Bool.false),(D.bool Bool.false)]) 0) 8)))])
noncomputable def F37_a11 (ss0:ByteArray) (sn1:Int):D:=(D.agg [(D.int sn1),(D.int (qint (qfld (qnth (q65 [(D.list []),(D.bool Bool.false),(D.bool (qbool (qnth (q62 [(D.str (qcutA ss0 (ByteArray.mk #[32]))),(D.str (ByteArray.mk #[46,119]))]) 1))),(D.int 0),(D.int sn1),(D.bool Bool.false),(D.bool Bool.false)]) 0) 1))),(D.int (qint (qfld (qnth (q65 [(D.list []),(D.bool Bool.false),(D.bool (qbool (qnth (q62 [(D.str (qcutA ss0 (ByteArray.mk #[32]))),(D.str (ByteArray.mk #[46,119]))]) 1))),(D.int 0),(D.int sn1),(D.bool Bool.false),(D.bool Bool.false)]) 0) 2))),(D.int (qint (qfld (qnth (q65 [(D.list []),(D.bool Bool.false),(D.bool (qbool (qnth (q62 [(D.str (qcutA ss0 (ByteArray.mk #[32]))),(D.str (ByteArray.mk #[46,119]))]) 1))),(D.int 0),(D.int sn1),(D.bool Bool.false),(D.bool Bool.false)]) 0) 3))),(D.int (qint (qfld (qnth (q65 [(D.list []),(D.bool Bool.false),(D.bool (qbool (qnth (q62 [(D.str (qcutA ss0 (ByteArray.mk #[32]))),(D.str (ByteArray.mk #[46,119]))]) 1))),(D.int 0),(D.int sn1),(D.bool Bool.false),(D.bool Bool.false)]) 0) 4))),(D.int (qint (qfld (qnth (q65 [(D.list []),(D.bool Bool.false),(D.bool (qbool (qnth (q62 [(D.str (qcutA ss0 (ByteArray.mk #[32]))),(D.str (ByteArray.mk #[46,119]))]) 1))),(D.int 0),(D.int sn1),(D.bool Bool.false),(D.bool Bool.false)]) 0) 5))),(D.int (qint (qfld (qnth (q65 [(D.list []),(D.bool Bool.false),(D.bool (qbool (qnth (q62 [(D.str (qcutA ss0 (ByteArray.mk #[32]))),(D.str (ByteArray.mk #[46,119]))]) 1))),(D.int 0),(D.int sn1),(D.bool Bool.false),(D.bool Bool.false)]) 0) 6))),(D.int (qint (qfld (qnth (q65 [(D.list []),(D.bool Bool.false),(D.bool (qbool (qnth (q62 [(D.str (qcutA ss0 (ByteArray.mk #[32]))),(D.str (ByteArray.mk #[46,119]))]) 1))),(D.int 0),(D.int sn1),(D.bool Bool.false),(D.bool Bool.false)]) 0) 7))),(D.int (qint (qnth (q69 [(F37_a10 ss0 sn1)]) 0)))])
noncomputable def F37_a12 (ss0:ByteArray) (sn1:Int):D:=(D.agg [(D.int sn1),(D.int (qint (qfld (qnth (q68 [(qsplit (qcutB ss0 (ByteArray.mk #[32])) (ByteArray.mk #[44,32])),(D.bool (qbool (qnth (q62 [(D.str (qcutA ss0 (ByteArray.mk #[32]))),(D.str (ByteArray.mk #[46,119]))]) 1))),(D.bool Bool.false),(D.str (qstr (qnth (q62 [(D.str (qcutA ss0 (ByteArray.mk #[32]))),(D.str (ByteArray.mk #[46,119]))]) 0))),(D.bool Bool.false),(D.bool Bool.false)]) 0) 1))),(D.int (qint (qfld (qnth (q68 [(qsplit (qcutB ss0 (ByteArray.mk #[32])) (ByteArray.mk #[44,32])),(D.bool (qbool (qnth (q62 [(D.str (qcutA ss0 (ByteArray.mk #[32]))),(D.str (ByteArray.mk #[46,119]))]) 1))),(D.bool Bool.false),(D.str (qstr (qnth (q62 [(D.str (qcutA ss0 (ByteArray.mk #[32]))),(D.str (ByteArray.mk #[46,119]))]) 0))),(D.bool Bool.false),(D.bool Bool.false)]) 0) 2))),(D.int (qint (qfld (qnth (q68 [(qsplit (qcutB ss0 (ByteArray.mk #[32])) (ByteArray.mk #[44,32])),(D.bool (qbool (qnth (q62 [(D.str (qcutA ss0 (ByteArray.mk #[32]))),(D.str (ByteArray.mk #[46,119]))]) 1))),(D.bool Bool.false),(D.str (qstr (qnth (q62 [(D.str (qcutA ss0 (ByteArray.mk #[32]))),(D.str (ByteArray.mk #[46,119]))]) 0))),(D.bool Bool.false),(D.bool Bool.false)]) 0) 3))),(D.int (qint (qfld (qnth (q68 [(qsplit (qcutB ss0 (ByteArray.mk #[32])) (ByteArray.mk #[44,32])),(D.bool (qbool (qnth (q62 [(D.str (qcutA ss0 (ByteArray.mk #[32]))),(D.str (ByteArray.mk #[46,119]))]) 1))),(D.bool Bool.false),(D.str (qstr (qnth (q62 [(D.str (qcutA ss0 (ByteArray.mk #[32]))),(D.str (ByteArray.mk #[46,119]))]) 0))),(D.bool Bool.false),(D.bool Bool.false)]) 0) 4))),(D.int (qint (qfld (qnth (q68 [(qsplit (qcutB ss0 (ByteArray.mk #[32])) (ByteArray.mk #[44,32])),(D.bool (qbool (qnth (q62 [(D.str (qcutA ss0 (ByteArray.mk #[32]))),(D.str (ByteArray.mk #[46,119]))]) 1))),(D.bool Bool.false),(D.str (qstr (qnth (q62 [(D.str (qcutA ss0 (ByteArray.mk #[32]))),(D.str (ByteArray.mk #[46,119]))]) 0))),(D.bool Bool.false),(D.bool Bool.false)]) 0) 5))),(D.int (qint (qfld (qnth (q68 [(qsplit (qcutB ss0 (ByteArray.mk #[32])) (ByteArray.mk #[44,32])),(D.bool (qbool (qnth (q62 [(D.str (qcutA ss0 (ByteArray.mk #[32]))),(D.str (ByteArray.mk #[46,119]))]) 1))),(D.bool Bool.false),(D.str (qstr (qnth (q62 [(D.str (qcutA ss0 (ByteArray.mk #[32]))),(D.str (ByteArray.mk #[46,119]))]) 0))),(D.bool Bool.false),(D.bool Bool.false)]) 0) 6))),(D.int (qint (qfld (qnth (q68 [(qsplit (qcutB ss0 (ByteArray.mk #[32])) (ByteArray.mk #[44,32])),(D.bool (qbool (qnth (q62 [(D.str (qcutA ss0 (ByteArray.mk #[32]))),(D.str (ByteArray.mk #[46,119]))]) 1))),(D.bool Bool.false),(D.str (qstr (qnth (q62 [(D.str (qcutA ss0 (ByteArray.mk #[32]))),(D.str (ByteArray.mk #[46,119]))]) 0))),(D.bool Bool.false),(D.bool Bool.false)]) 0) 7))),(D.int (qint (qfld (qnth (q68 [(qsplit (qcutB ss0 (ByteArray.mk #[32])) (ByteArray.mk #[44,32])),(D.bool (qbool (qnth (q62 [(D.str (qcutA ss0 (ByteArray.mk #[32]))),(D.str (ByteArray.mk #[46,119]))]) 1))),(D.bool Bool.false),(D.str (qstr (qnth (q62 [(D.str (qcutA ss0 (ByteArray.mk #[32]))),(D.str (ByteArray.mk #[46,119]))]) 0))),(D.bool Bool.false),(D.bool Bool.false)]) 0) 8)))])
noncomputable def F37_a13 (ss0:ByteArray) (sn1:Int):D:=(D.agg [(D.int sn1),(D.int (qint (qfld (qnth (q68 [(qsplit (qcutB ss0 (ByteArray.mk #[32])) (ByteArray.mk #[44,32])),(D.bool (qbool (qnth (q62 [(D.str (qcutA ss0 (ByteArray.mk #[32]))),(D.str (ByteArray.mk #[46,119]))]) 1))),(D.bool Bool.false),(D.str (qstr (qnth (q62 [(D.str (qcutA ss0 (ByteArray.mk #[32]))),(D.str (ByteArray.mk #[46,119]))]) 0))),(D.bool Bool.false),(D.bool Bool.false)]) 0) 1))),(D.int (qint (qfld (qnth (q68 [(qsplit (qcutB ss0 (ByteArray.mk #[32])) (ByteArray.mk #[44,32])),(D.bool (qbool (qnth (q62 [(D.str (qcutA ss0 (ByteArray.mk #[32]))),(D.str (ByteArray.mk #[46,119]))]) 1))),(D.bool Bool.false),(D.str (qstr (qnth (q62 [(D.str (qcutA ss0 (ByteArray.mk #[32]))),(D.str (ByteArray.mk #[46,119]))]) 0))),(D.bool Bool.false),(D.bool Bool.false)]) 0) 2))),(D.int (qint (qfld (qnth (q68 [(qsplit (qcutB ss0 (ByteArray.mk #[32])) (ByteArray.mk #[44,32])),(D.bool (qbool (qnth (q62 [(D.str (qcutA ss0 (ByteArray.mk #[32]))),(D.str (ByteArray.mk #[46,119]))]) 1))),(D.bool Bool.false),(D.str (qstr (qnth (q62 [(D.str (qcutA ss0 (ByteArray.mk #[32]))),(D.str (ByteArray.mk #[46,119]))]) 0))),(D.bool Bool.false),(D.bool Bool.false)]) 0) 3))),(D.int (qint (qfld (qnth (q68 [(qsplit (qcutB ss0 (ByteArray.mk #[32])) (ByteArray.mk #[44,32])),(D.bool (qbool (qnth (q62 [(D.str (qcutA ss0 (ByteArray.mk #[32]))),(D.str (ByteArray.mk #[46,119]))]) 1))),(D.bool Bool.false),(D.str (qstr (qnth (q62 [(D.str (qcutA ss0 (ByteArray.mk #[32]))),(D.str (ByteArray.mk #[46,119]))]) 0))),(D.bool Bool.false),(D.bool Bool.false)]) 0) 4))),(D.int (qint (qfld (qnth (q68 [(qsplit (qcutB ss0 (ByteArray.mk #[32])) (ByteArray.mk #[44,32])),(D.bool (qbool (qnth (q62 [(D.str (qcutA ss0 (ByteArray.mk #[32]))),(D.str (ByteArray.mk #[46,119]))]) 1))),(D.bool Bool.false),(D.str (qstr (qnth (q62 [(D.str (qcutA ss0 (ByteArray.mk #[32]))),(D.str (ByteArray.mk #[46,119]))]) 0))),(D.bool Bool.false),(D.bool Bool.false)]) 0) 5))),(D.int (qint (qfld (qnth (q68 [(qsplit (qcutB ss0 (ByteArray.mk #[32])) (ByteArray.mk #[44,32])),(D.bool (qbool (qnth (q62 [(D.str (qcutA ss0 (ByteArray.mk #[32]))),(D.str (ByteArray.mk #[46,119]))]) 1))),(D.bool Bool.false),(D.str (qstr (qnth (q62 [(D.str (qcutA ss0 (ByteArray.mk #[32]))),(D.str (ByteArray.mk #[46,119]))]) 0))),(D.bool Bool.false),(D.bool Bool.false)]) 0) 6))),(D.int (qint (qfld (qnth (q68 [(qsplit (qcutB ss0 (ByteArray.mk #[32])) (ByteArray.mk #[44,32])),(D.bool (qbool (qnth (q62 [(D.str (qcutA ss0 (ByteArray.mk #[32]))),(D.str (ByteArray.mk #[46,119]))]) 1))),(D.bool Bool.false),(D.str (qstr (qnth (q62 [(D.str (qcutA ss0 (ByteArray.mk #[32]))),(D.str (ByteArray.mk #[46,119]))]) 0))),(D.bool Bool.false),(D.bool Bool.false)]) 0) 7))),(D.int (qint (qnth (q69 [(F37_a12 ss0 sn1)]) 0)))])
noncomputable def F37_a14 (ss0:ByteArray) (sn1:Int):D:=(D.agg [(D.int sn1),(D.int (qint (qfld (qnth (q67 [(qsplit (qcutB ss0 (ByteArray.mk #[32])) (ByteArray.mk #[44,32])),(D.bool Bool.false),(D.bool (qbool (qnth (q62 [(D.str (qcutA ss0 (ByteArray.mk #[32]))),(D.str (ByteArray.mk #[46,119]))]) 1))),(D.int (qbin BinOp.add IntKind.i64 5 (qint (qnth (q63_64 [(D.str (qstr (qnth (q62 [(D.str (qcutA ss0 (ByteArray.mk #[32]))),(D.str (ByteArray.mk #[46,119]))]) 0))),(D.int 11)]) 0)))),(D.bool Bool.false),(D.bool Bool.false)]) 0) 1))),(D.int (qint (qfld (qnth (q67 [(qsplit (qcutB ss0 (ByteArray.mk #[32])) (ByteArray.mk #[44,32])),(D.bool Bool.false),(D.bool (qbool (qnth (q62 [(D.str (qcutA ss0 (ByteArray.mk #[32]))),(D.str (ByteArray.mk #[46,119]))]) 1))),(D.int (qbin BinOp.add IntKind.i64 5 (qint (qnth (q63_64 [(D.str (qstr (qnth (q62 [(D.str (qcutA ss0 (ByteArray.mk #[32]))),(D.str (ByteArray.mk #[46,119]))]) 0))),(D.int 11)]) 0)))),(D.bool Bool.false),(D.bool Bool.false)]) 0) 2))),(D.int (qint (qfld (qnth (q67 [(qsplit (qcutB ss0 (ByteArray.mk #[32])) (ByteArray.mk #[44,32])),(D.bool Bool.false),(D.bool (qbool (qnth (q62 [(D.str (qcutA ss0 (ByteArray.mk #[32]))),(D.str (ByteArray.mk #[46,119]))]) 1))),(D.int (qbin BinOp.add IntKind.i64 5 (qint (qnth (q63_64 [(D.str (qstr (qnth (q62 [(D.str (qcutA ss0 (ByteArray.mk #[32]))),(D.str (ByteArray.mk #[46,119]))]) 0))),(D.int 11)]) 0)))),(D.bool Bool.false),(D.bool Bool.false)]) 0) 3))),(D.int (qint (qfld (qnth (q67 [(qsplit (qcutB ss0 (ByteArray.mk #[32])) (ByteArray.mk #[44,32])),(D.bool Bool.false),(D.bool (qbool (qnth (q62 [(D.str (qcutA ss0 (ByteArray.mk #[32]))),(D.str (ByteArray.mk #[46,119]))]) 1))),(D.int (qbin BinOp.add IntKind.i64 5 (qint (qnth (q63_64 [(D.str (qstr (qnth (q62 [(D.str (qcutA ss0 (ByteArray.mk #[32]))),(D.str (ByteArray.mk #[46,119]))]) 0))),(D.int 11)]) 0)))),(D.bool Bool.false),(D.bool Bool.false)]) 0) 4))),(D.int (qint (qfld (qnth (q67 [(qsplit (qcutB ss0 (ByteArray.mk #[32])) (ByteArray.mk #[44,32])),(D.bool Bool.false),(D.bool (qbool (qnth (q62 [(D.str (qcutA ss0 (ByteArray.mk #[32]))),(D.str (ByteArray.mk #[46,119]))]) 1))),(D.int (qbin BinOp.add IntKind.i64 5 (qint (qnth (q63_64 [(D.str (qstr (qnth (q62 [(D.str (qcutA ss0 (ByteArray.mk #[32]))),(D.str (ByteArray.mk #[46,119]))]) 0))),(D.int 11)]) 0)))),(D.bool Bool.false),(D.bool Bool.false)]) 0) 5))),(D.int (qint (qfld (qnth (q67 [(qsplit (qcutB ss0 (ByteArray.mk #[32])) (ByteArray.mk #[44,32])),(D.bool Bool.false),(D.bool (qbool (qnth (q62 [(D.str (qcutA ss0 (ByteArray.mk #[32]))),(D.str (ByteArray.mk #[46,119]))]) 1))),(D.int (qbin BinOp.add IntKind.i64 5 (qint (qnth (q63_64 [(D.str (qstr (qnth (q62 [(D.str (qcutA ss0 (ByteArray.mk #[32]))),(D.str (ByteArray.mk #[46,119]))]) 0))),(D.int 11)]) 0)))),(D.bool Bool.false),(D.bool Bool.false)]) 0) 6))),(D.int (qint (qfld (qnth (q67 [(qsplit (qcutB ss0 (ByteArray.mk #[32])) (ByteArray.mk #[44,32])),(D.bool Bool.false),(D.bool (qbool (qnth (q62 [(D.str (qcutA ss0 (ByteArray.mk #[32]))),(D.str (ByteArray.mk #[46,119]))]) 1))),(D.int (qbin BinOp.add IntKind.i64 5 (qint (qnth (q63_64 [(D.str (qstr (qnth (q62 [(D.str (qcutA ss0 (ByteArray.mk #[32]))),(D.str (ByteArray.mk #[46,119]))]) 0))),(D.int 11)]) 0)))),(D.bool Bool.false),(D.bool Bool.false)]) 0) 7))),(D.int (qint (qfld (qnth (q67 [(qsplit (qcutB ss0 (ByteArray.mk #[32])) (ByteArray.mk #[44,32])),(D.bool Bool.false),(D.bool (qbool (qnth (q62 [(D.str (qcutA ss0 (ByteArray.mk #[32]))),(D.str (ByteArray.mk #[46,119]))]) 1))),(D.int (qbin BinOp.add IntKind.i64 5 (qint (qnth (q63_64 [(D.str (qstr (qnth (q62 [(D.str (qcutA ss0 (ByteArray.mk #[32]))),(D.str (ByteArray.mk #[46,119]))]) 0))),(D.int 11)]) 0)))),(D.bool Bool.false),(D.bool Bool.false)]) 0) 8)))])
noncomputable def F37_a15 (ss0:ByteArray) (sn1:Int):D:=(D.agg [(D.int sn1),(D.int (qint (qfld (qnth (q67 [(qsplit (qcutB ss0 (ByteArray.mk #[32])) (ByteArray.mk #[44,32])),(D.bool Bool.false),(D.bool (qbool (qnth (q62 [(D.str (qcutA ss0 (ByteArray.mk #[32]))),(D.str (ByteArray.mk #[46,119]))]) 1))),(D.int (qbin BinOp.add IntKind.i64 5 (qint (qnth (q63_64 [(D.str (qstr (qnth (q62 [(D.str (qcutA ss0 (ByteArray.mk #[32]))),(D.str (ByteArray.mk #[46,119]))]) 0))),(D.int 11)]) 0)))),(D.bool Bool.false),(D.bool Bool.false)]) 0) 1))),(D.int (qint (qfld (qnth (q67 [(qsplit (qcutB ss0 (ByteArray.mk #[32])) (ByteArray.mk #[44,32])),(D.bool Bool.false),(D.bool (qbool (qnth (q62 [(D.str (qcutA ss0 (ByteArray.mk #[32]))),(D.str (ByteArray.mk #[46,119]))]) 1))),(D.int (qbin BinOp.add IntKind.i64 5 (qint (qnth (q63_64 [(D.str (qstr (qnth (q62 [(D.str (qcutA ss0 (ByteArray.mk #[32]))),(D.str (ByteArray.mk #[46,119]))]) 0))),(D.int 11)]) 0)))),(D.bool Bool.false),(D.bool Bool.false)]) 0) 2))),(D.int (qint (qfld (qnth (q67 [(qsplit (qcutB ss0 (ByteArray.mk #[32])) (ByteArray.mk #[44,32])),(D.bool Bool.false),(D.bool (qbool (qnth (q62 [(D.str (qcutA ss0 (ByteArray.mk #[32]))),(D.str (ByteArray.mk #[46,119]))]) 1))),(D.int (qbin BinOp.add IntKind.i64 5 (qint (qnth (q63_64 [(D.str (qstr (qnth (q62 [(D.str (qcutA ss0 (ByteArray.mk #[32]))),(D.str (ByteArray.mk #[46,119]))]) 0))),(D.int 11)]) 0)))),(D.bool Bool.false),(D.bool Bool.false)]) 0) 3))),(D.int (qint (qfld (qnth (q67 [(qsplit (qcutB ss0 (ByteArray.mk #[32])) (ByteArray.mk #[44,32])),(D.bool Bool.false),(D.bool (qbool (qnth (q62 [(D.str (qcutA ss0 (ByteArray.mk #[32]))),(D.str (ByteArray.mk #[46,119]))]) 1))),(D.int (qbin BinOp.add IntKind.i64 5 (qint (qnth (q63_64 [(D.str (qstr (qnth (q62 [(D.str (qcutA ss0 (ByteArray.mk #[32]))),(D.str (ByteArray.mk #[46,119]))]) 0))),(D.int 11)]) 0)))),(D.bool Bool.false),(D.bool Bool.false)]) 0) 4))),(D.int (qint (qfld (qnth (q67 [(qsplit (qcutB ss0 (ByteArray.mk #[32])) (ByteArray.mk #[44,32])),(D.bool Bool.false),(D.bool (qbool (qnth (q62 [(D.str (qcutA ss0 (ByteArray.mk #[32]))),(D.str (ByteArray.mk #[46,119]))]) 1))),(D.int (qbin BinOp.add IntKind.i64 5 (qint (qnth (q63_64 [(D.str (qstr (qnth (q62 [(D.str (qcutA ss0 (ByteArray.mk #[32]))),(D.str (ByteArray.mk #[46,119]))]) 0))),(D.int 11)]) 0)))),(D.bool Bool.false),(D.bool Bool.false)]) 0) 5))),(D.int (qint (qfld (qnth (q67 [(qsplit (qcutB ss0 (ByteArray.mk #[32])) (ByteArray.mk #[44,32])),(D.bool Bool.false),(D.bool (qbool (qnth (q62 [(D.str (qcutA ss0 (ByteArray.mk #[32]))),(D.str (ByteArray.mk #[46,119]))]) 1))),(D.int (qbin BinOp.add IntKind.i64 5 (qint (qnth (q63_64 [(D.str (qstr (qnth (q62 [(D.str (qcutA ss0 (ByteArray.mk #[32]))),(D.str (ByteArray.mk #[46,119]))]) 0))),(D.int 11)]) 0)))),(D.bool Bool.false),(D.bool Bool.false)]) 0) 6))),(D.int (qint (qfld (qnth (q67 [(qsplit (qcutB ss0 (ByteArray.mk #[32])) (ByteArray.mk #[44,32])),(D.bool Bool.false),(D.bool (qbool (qnth (q62 [(D.str (qcutA ss0 (ByteArray.mk #[32]))),(D.str (ByteArray.mk #[46,119]))]) 1))),(D.int (qbin BinOp.add IntKind.i64 5 (qint (qnth (q63_64 [(D.str (qstr (qnth (q62 [(D.str (qcutA ss0 (ByteArray.mk #[32]))),(D.str (ByteArray.mk #[46,119]))]) 0))),(D.int 11)]) 0)))),(D.bool Bool.false),(D.bool Bool.false)]) 0) 7))),(D.int (qint (qnth (q69 [(F37_a14 ss0 sn1)]) 0)))])
noncomputable def F37_a16 (ss0:ByteArray) (sn1:Int):D:=(D.agg [(D.int sn1),(D.int (qint (qfld (qnth (q66 [(qsplit (qcutB ss0 (ByteArray.mk #[32])) (ByteArray.mk #[44,32])),(D.bool Bool.false),(D.bool (qbool (qnth (q62 [(D.str (qcutA ss0 (ByteArray.mk #[32]))),(D.str (ByteArray.mk #[46,119]))]) 1))),(D.bool Bool.false),(F37_a5 ss0 sn1),(D.bool Bool.false)]) 0) 1))),(D.int (qint (qfld (qnth (q66 [(qsplit (qcutB ss0 (ByteArray.mk #[32])) (ByteArray.mk #[44,32])),(D.bool Bool.false),(D.bool (qbool (qnth (q62 [(D.str (qcutA ss0 (ByteArray.mk #[32]))),(D.str (ByteArray.mk #[46,119]))]) 1))),(D.bool Bool.false),(F37_a5 ss0 sn1),(D.bool Bool.false)]) 0) 2))),(D.int (qint (qfld (qnth (q66 [(qsplit (qcutB ss0 (ByteArray.mk #[32])) (ByteArray.mk #[44,32])),(D.bool Bool.false),(D.bool (qbool (qnth (q62 [(D.str (qcutA ss0 (ByteArray.mk #[32]))),(D.str (ByteArray.mk #[46,119]))]) 1))),(D.bool Bool.false),(F37_a5 ss0 sn1),(D.bool Bool.false)]) 0) 3))),(D.int (qint (qfld (qnth (q66 [(qsplit (qcutB ss0 (ByteArray.mk #[32])) (ByteArray.mk #[44,32])),(D.bool Bool.false),(D.bool (qbool (qnth (q62 [(D.str (qcutA ss0 (ByteArray.mk #[32]))),(D.str (ByteArray.mk #[46,119]))]) 1))),(D.bool Bool.false),(F37_a5 ss0 sn1),(D.bool Bool.false)]) 0) 4))),(D.int (qint (qfld (qnth (q66 [(qsplit (qcutB ss0 (ByteArray.mk #[32])) (ByteArray.mk #[44,32])),(D.bool Bool.false),(D.bool (qbool (qnth (q62 [(D.str (qcutA ss0 (ByteArray.mk #[32]))),(D.str (ByteArray.mk #[46,119]))]) 1))),(D.bool Bool.false),(F37_a5 ss0 sn1),(D.bool Bool.false)]) 0) 5))),(D.int (qint (qfld (qnth (q66 [(qsplit (qcutB ss0 (ByteArray.mk #[32])) (ByteArray.mk #[44,32])),(D.bool Bool.false),(D.bool (qbool (qnth (q62 [(D.str (qcutA ss0 (ByteArray.mk #[32]))),(D.str (ByteArray.mk #[46,119]))]) 1))),(D.bool Bool.false),(F37_a5 ss0 sn1),(D.bool Bool.false)]) 0) 6))),(D.int (qint (qfld (qnth (q66 [(qsplit (qcutB ss0 (ByteArray.mk #[32])) (ByteArray.mk #[44,32])),(D.bool Bool.false),(D.bool (qbool (qnth (q62 [(D.str (qcutA ss0 (ByteArray.mk #[32]))),(D.str (ByteArray.mk #[46,119]))]) 1))),(D.bool Bool.false),(F37_a5 ss0 sn1),(D.bool Bool.false)]) 0) 7))),(D.int (qint (qfld (qnth (q66 [(qsplit (qcutB ss0 (ByteArray.mk #[32])) (ByteArray.mk #[44,32])),(D.bool Bool.false),(D.bool (qbool (qnth (q62 [(D.str (qcutA ss0 (ByteArray.mk #[32]))),(D.str (ByteArray.mk #[46,119]))]) 1))),(D.bool Bool.false),(F37_a5 ss0 sn1),(D.bool Bool.false)]) 0) 8)))])
noncomputable def F37_a17 (ss0:ByteArray) (sn1:Int):D:=(D.agg [(D.int sn1),(D.int (qint (qfld (qnth (q66 [(qsplit (qcutB ss0 (ByteArray.mk #[32])) (ByteArray.mk #[44,32])),(D.bool Bool.false),(D.bool (qbool (qnth (q62 [(D.str (qcutA ss0 (ByteArray.mk #[32]))),(D.str (ByteArray.mk #[46,119]))]) 1))),(D.bool Bool.false),(F37_a5 ss0 sn1),(D.bool Bool.false)]) 0) 1))),(D.int (qint (qfld (qnth (q66 [(qsplit (qcutB ss0 (ByteArray.mk #[32])) (ByteArray.mk #[44,32])),(D.bool Bool.false),(D.bool (qbool (qnth (q62 [(D.str (qcutA ss0 (ByteArray.mk #[32]))),(D.str (ByteArray.mk #[46,119]))]) 1))),(D.bool Bool.false),(F37_a5 ss0 sn1),(D.bool Bool.false)]) 0) 2))),(D.int (qint (qfld (qnth (q66 [(qsplit (qcutB ss0 (ByteArray.mk #[32])) (ByteArray.mk #[44,32])),(D.bool Bool.false),(D.bool (qbool (qnth (q62 [(D.str (qcutA ss0 (ByteArray.mk #[32]))),(D.str (ByteArray.mk #[46,119]))]) 1))),(D.bool Bool.false),(F37_a5 ss0 sn1),(D.bool Bool.false)]) 0) 3))),(D.int (qint (qfld (qnth (q66 [(qsplit (qcutB ss0 (ByteArray.mk #[32])) (ByteArray.mk #[44,32])),(D.bool Bool.false),(D.bool (qbool (qnth (q62 [(D.str (qcutA ss0 (ByteArray.mk #[32]))),(D.str (ByteArray.mk #[46,119]))]) 1))),(D.bool Bool.false),(F37_a5 ss0 sn1),(D.bool Bool.false)]) 0) 4))),(D.int (qint (qfld (qnth (q66 [(qsplit (qcutB ss0 (ByteArray.mk #[32])) (ByteArray.mk #[44,32])),(D.bool Bool.false),(D.bool (qbool (qnth (q62 [(D.str (qcutA ss0 (ByteArray.mk #[32]))),(D.str (ByteArray.mk #[46,119]))]) 1))),(D.bool Bool.false),(F37_a5 ss0 sn1),(D.bool Bool.false)]) 0) 5))),(D.int (qint (qfld (qnth (q66 [(qsplit (qcutB ss0 (ByteArray.mk #[32])) (ByteArray.mk #[44,32])),(D.bool Bool.false),(D.bool (qbool (qnth (q62 [(D.str (qcutA ss0 (ByteArray.mk #[32]))),(D.str (ByteArray.mk #[46,119]))]) 1))),(D.bool Bool.false),(F37_a5 ss0 sn1),(D.bool Bool.false)]) 0) 6))),(D.int (qint (qfld (qnth (q66 [(qsplit (qcutB ss0 (ByteArray.mk #[32])) (ByteArray.mk #[44,32])),(D.bool Bool.false),(D.bool (qbool (qnth (q62 [(D.str (qcutA ss0 (ByteArray.mk #[32]))),(D.str (ByteArray.mk #[46,119]))]) 1))),(D.bool Bool.false),(F37_a5 ss0 sn1),(D.bool Bool.false)]) 0) 7))),(D.int (qint (qnth (q69 [(F37_a16 ss0 sn1)]) 0)))])
noncomputable def F37_a18 (ss0:ByteArray) (sn1:Int):D:=(D.agg [(D.int sn1),(D.int (qint (qfld (qnth (q65 [(qsplit (qcutB ss0 (ByteArray.mk #[32])) (ByteArray.mk #[44,32])),(D.bool Bool.false),(D.bool (qbool (qnth (q62 [(D.str (qcutA ss0 (ByteArray.mk #[32]))),(D.str (ByteArray.mk #[46,119]))]) 1))),(D.int (qiteI (qbool (qnth (q59 [(D.str (qstr (qnth (q62 [(D.str (qcutA ss0 (ByteArray.mk #[32]))),(D.str (ByteArray.mk #[46,119]))]) 0))),(D.str (ByteArray.mk #[106]))]) 1)) (qint (qnth (q63_26 [(D.str (qstr (qnth (q59 [(D.str (qstr (qnth (q62 [(D.str (qcutA ss0 (ByteArray.mk #[32]))),(D.str (ByteArray.mk #[46,119]))]) 0))),(D.str (ByteArray.mk #[106]))]) 0))),(D.int 15)]) 0)) (-1))),(D.int sn1),(D.bool Bool.false),(D.bool Bool.false)]) 0) 1))),(D.int (qint (qfld (qnth (q65 [(qsplit (qcutB ss0 (ByteArray.mk #[32])) (ByteArray.mk #[44,32])),(D.bool Bool.false),(D.bool (qbool (qnth (q62 [(D.str (qcutA ss0 (ByteArray.mk #[32]))),(D.str (ByteArray.mk #[46,119]))]) 1))),(D.int (qiteI (qbool (qnth (q59 [(D.str (qstr (qnth (q62 [(D.str (qcutA ss0 (ByteArray.mk #[32]))),(D.str (ByteArray.mk #[46,119]))]) 0))),(D.str (ByteArray.mk #[106]))]) 1)) (qint (qnth (q63_26 [(D.str (qstr (qnth (q59 [(D.str (qstr (qnth (q62 [(D.str (qcutA ss0 (ByteArray.mk #[32]))),(D.str (ByteArray.mk #[46,119]))]) 0))),(D.str (ByteArray.mk #[106]))]) 0))),(D.int 15)]) 0)) (-1))),(D.int sn1),(D.bool Bool.false),(D.bool Bool.false)]) 0) 2))),(D.int (qint (qfld (qnth (q65 [(qsplit (qcutB ss0 (ByteArray.mk #[32])) (ByteArray.mk #[44,32])),(D.bool Bool.false),(D.bool (qbool (qnth (q62 [(D.str (qcutA ss0 (ByteArray.mk #[32]))),(D.str (ByteArray.mk #[46,119]))]) 1))),(D.int (qiteI (qbool (qnth (q59 [(D.str (qstr (qnth (q62 [(D.str (qcutA ss0 (ByteArray.mk #[32]))),(D.str (ByteArray.mk #[46,119]))]) 0))),(D.str (ByteArray.mk #[106]))]) 1)) (qint (qnth (q63_26 [(D.str (qstr (qnth (q59 [(D.str (qstr (qnth (q62 [(D.str (qcutA ss0 (ByteArray.mk #[32]))),(D.str (ByteArray.mk #[46,119]))]) 0))),(D.str (ByteArray.mk #[106]))]) 0))),(D.int 15)]) 0)) (-1))),(D.int sn1),(D.bool Bool.false),(D.bool Bool.false)]) 0) 3))),(D.int (qint (qfld (qnth (q65 [(qsplit (qcutB ss0 (ByteArray.mk #[32])) (ByteArray.mk #[44,32])),(D.bool Bool.false),(D.bool (qbool (qnth (q62 [(D.str (qcutA ss0 (ByteArray.mk #[32]))),(D.str (ByteArray.mk #[46,119]))]) 1))),(D.int (qiteI (qbool (qnth (q59 [(D.str (qstr (qnth (q62 [(D.str (qcutA ss0 (ByteArray.mk #[32]))),(D.str (ByteArray.mk #[46,119]))]) 0))),(D.str (ByteArray.mk #[106]))]) 1)) (qint (qnth (q63_26 [(D.str (qstr (qnth (q59 [(D.str (qstr (qnth (q62 [(D.str (qcutA ss0 (ByteArray.mk #[32]))),(D.str (ByteArray.mk #[46,119]))]) 0))),(D.str (ByteArray.mk #[106]))]) 0))),(D.int 15)]) 0)) (-1))),(D.int sn1),(D.bool Bool.false),(D.bool Bool.false)]) 0) 4))),(D.int (qint (qfld (qnth (q65 [(qsplit (qcutB ss0 (ByteArray.mk #[32])) (ByteArray.mk #[44,32])),(D.bool Bool.false),(D.bool (qbool (qnth (q62 [(D.str (qcutA ss0 (ByteArray.mk #[32]))),(D.str (ByteArray.mk #[46,119]))]) 1))),(D.int (qiteI (qbool (qnth (q59 [(D.str (qstr (qnth (q62 [(D.str (qcutA ss0 (ByteArray.mk #[32]))),(D.str (ByteArray.mk #[46,119]))]) 0))),(D.str (ByteArray.mk #[106]))]) 1)) (qint (qnth (q63_26 [(D.str (qstr (qnth (q59 [(D.str (qstr (qnth (q62 [(D.str (qcutA ss0 (ByteArray.mk #[32]))),(D.str (ByteArray.mk #[46,119]))]) 0))),(D.str (ByteArray.mk #[106]))]) 0))),(D.int 15)]) 0)) (-1))),(D.int sn1),(D.bool Bool.false),(D.bool Bool.false)]) 0) 5))),(D.int (qint (qfld (qnth (q65 [(qsplit (qcutB ss0 (ByteArray.mk #[32])) (ByteArray.mk #[44,32])),(D.bool Bool.false),(D.bool (qbool (qnth (q62 [(D.str (qcutA ss0 (ByteArray.mk #[32]))),(D.str (ByteArray.mk #[46,119]))]) 1))),(D.int (qiteI (qbool (qnth (q59 [(D.str (qstr (qnth (q62 [(D.str (qcutA ss0 (ByteArray.mk #[32]))),(D.str (ByteArray.mk #[46,119]))]) 0))),(D.str (ByteArray.mk #[106]))]) 1)) (qint (qnth (q63_26 [(D.str (qstr (qnth (q59 [(D.str (qstr (qnth (q62 [(D.str (qcutA ss0 (ByteArray.mk #[32]))),(D.str (ByteArray.mk #[46,119]))]) 0))),(D.str (ByteArray.mk #[106]))]) 0))),(D.int 15)]) 0)) (-1))),(D.int sn1),(D.bool Bool.false),(D.bool Bool.false)]) 0) 6))),(D.int (qint (qfld (qnth (q65 [(qsplit (qcutB ss0 (ByteArray.mk #[32])) (ByteArray.mk #[44,32])),(D.bool Bool.false),(D.bool (qbool (qnth (q62 [(D.str (qcutA ss0 (ByteArray.mk #[32]))),(D.str (ByteArray.mk #[46,119]))]) 1))),(D.int (qiteI (qbool (qnth (q59 [(D.str (qstr (qnth (q62 [(D.str (qcutA ss0 (ByteArray.mk #[32]))),(D.str (ByteArray.mk #[46,119]))]) 0))),(D.str (ByteArray.mk #[106]))]) 1)) (qint (qnth (q63_26 [(D.str (qstr (qnth (q59 [(D.str (qstr (qnth (q62 [(D.str (qcutA ss0 (ByteArray.mk #[32]))),(D.str (ByteArray.mk #[46,119]))]) 0))),(D.str (ByteArray.mk #[106]))]) 0))),(D.int 15)]) 0)) (-1))),(D.int sn1),(D.bool Bool.false),(D.bool Bool.false)]) 0) 7))),(D.int (qint (qfld (qnth (q65 [(qsplit (qcutB ss0 (ByteArray.mk #[32])) (ByteArray.mk #[44,32])),(D.bool Bool.false),(D.bool (qbool (qnth (q62 [(D.str (qcutA ss0 (ByteArray.mk #[32]))),(D.str (ByteArray.mk #[46,119]))]) 1))),(D.int (qiteI (qbool (qnth (q59 [(D.str (qstr (qnth (q62 [(D.str (qcutA ss0 (ByteArray.mk #[32]))),(D.str (ByteArray.mk #[46,119]))]) 0))),(D.str (ByteArray.mk #[106]))]) 1)) (qint (qnth (q63_26 [(D.str (qstr (qnth (q59 [(D.str (qstr (qnth (q62 [(D.str (qcutA ss0 (ByteArray.mk #[32]))),(D.str (ByteArray.mk #[46,119]))]) 0))),(D.str (ByteArray.mk #[106]))]) 0))),(D.int 15)]) 0)) (-1))),(D.int sn1),(D.bool Bool.false),(D.bool Bool.false)]) 0) 8)))])
noncomputable def F37_a19 (ss0:ByteArray) (sn1:Int):D:=(D.agg [(D.int sn1),(D.int (qint (qfld (qnth (q65 [(qsplit (qcutB ss0 (ByteArray.mk #[32])) (ByteArray.mk #[44,32])),(D.bool Bool.false),(D.bool (qbool (qnth (q62 [(D.str (qcutA ss0 (ByteArray.mk #[32]))),(D.str (ByteArray.mk #[46,119]))]) 1))),(D.int (qiteI (qbool (qnth (q59 [(D.str (qstr (qnth (q62 [(D.str (qcutA ss0 (ByteArray.mk #[32]))),(D.str (ByteArray.mk #[46,119]))]) 0))),(D.str (ByteArray.mk #[106]))]) 1)) (qint (qnth (q63_26 [(D.str (qstr (qnth (q59 [(D.str (qstr (qnth (q62 [(D.str (qcutA ss0 (ByteArray.mk #[32]))),(D.str (ByteArray.mk #[46,119]))]) 0))),(D.str (ByteArray.mk #[106]))]) 0))),(D.int 15)]) 0)) (-1))),(D.int sn1),(D.bool Bool.false),(D.bool Bool.false)]) 0) 1))),(D.int (qint (qfld (qnth (q65 [(qsplit (qcutB ss0 (ByteArray.mk #[32])) (ByteArray.mk #[44,32])),(D.bool Bool.false),(D.bool (qbool (qnth (q62 [(D.str (qcutA ss0 (ByteArray.mk #[32]))),(D.str (ByteArray.mk #[46,119]))]) 1))),(D.int (qiteI (qbool (qnth (q59 [(D.str (qstr (qnth (q62 [(D.str (qcutA ss0 (ByteArray.mk #[32]))),(D.str (ByteArray.mk #[46,119]))]) 0))),(D.str (ByteArray.mk #[106]))]) 1)) (qint (qnth (q63_26 [(D.str (qstr (qnth (q59 [(D.str (qstr (qnth (q62 [(D.str (qcutA ss0 (ByteArray.mk #[32]))),(D.str (ByteArray.mk #[46,119]))]) 0))),(D.str (ByteArray.mk #[106]))]) 0))),(D.int 15)]) 0)) (-1))),(D.int sn1),(D.bool Bool.false),(D.bool Bool.false)]) 0) 2))),(D.int (qint (qfld (qnth (q65 [(qsplit (qcutB ss0 (ByteArray.mk #[32])) (ByteArray.mk #[44,32])),(D.bool Bool.false),(D.bool (qbool (qnth (q62 [(D.str (qcutA ss0 (ByteArray.mk #[32]))),(D.str (ByteArray.mk #[46,119]))]) 1))),(D.int (qiteI (qbool (qnth (q59 [(D.str (qstr (qnth (q62 [(D.str (qcutA ss0 (ByteArray.mk #[32]))),(D.str (ByteArray.mk #[46,119]))]) 0))),(D.str (ByteArray.mk #[106]))]) 1)) (qint (qnth (q63_26 [(D.str (qstr (qnth (q59 [(D.str (qstr (qnth (q62 [(D.str (qcutA ss0 (ByteArray.mk #[32]))),(D.str (ByteArray.mk #[46,119]))]) 0))),(D.str (ByteArray.mk #[106]))]) 0))),(D.int 15)]) 0)) (-1))),(D.int sn1),(D.bool Bool.false),(D.bool Bool.false)]) 0) 3))),(D.int (qint (qfld (qnth (q65 [(qsplit (qcutB ss0 (ByteArray.mk #[32])) (ByteArray.mk #[44,32])),(D.bool Bool.false),(D.bool (qbool (qnth (q62 [(D.str (qcutA ss0 (ByteArray.mk #[32]))),(D.str (ByteArray.mk #[46,119]))]) 1))),(D.int (qiteI (qbool (qnth (q59 [(D.str (qstr (qnth (q62 [(D.str (qcutA ss0 (ByteArray.mk #[32]))),(D.str (ByteArray.mk #[46,119]))]) 0))),(D.str (ByteArray.mk #[106]))]) 1)) (qint (qnth (q63_26 [(D.str (qstr (qnth (q59 [(D.str (qstr (qnth (q62 [(D.str (qcutA ss0 (ByteArray.mk #[32]))),(D.str (ByteArray.mk #[46,119]))]) 0))),(D.str (ByteArray.mk #[106]))]) 0))),(D.int 15)]) 0)) (-1))),(D.int sn1),(D.bool Bool.false),(D.bool Bool.false)]) 0) 4))),(D.int (qint (qfld (qnth (q65 [(qsplit (qcutB ss0 (ByteArray.mk #[32])) (ByteArray.mk #[44,32])),(D.bool Bool.false),(D.bool (qbool (qnth (q62 [(D.str (qcutA ss0 (ByteArray.mk #[32]))),(D.str (ByteArray.mk #[46,119]))]) 1))),(D.int (qiteI (qbool (qnth (q59 [(D.str (qstr (qnth (q62 [(D.str (qcutA ss0 (ByteArray.mk #[32]))),(D.str (ByteArray.mk #[46,119]))]) 0))),(D.str (ByteArray.mk #[106]))]) 1)) (qint (qnth (q63_26 [(D.str (qstr (qnth (q59 [(D.str (qstr (qnth (q62 [(D.str (qcutA ss0 (ByteArray.mk #[32]))),(D.str (ByteArray.mk #[46,119]))]) 0))),(D.str (ByteArray.mk #[106]))]) 0))),(D.int 15)]) 0)) (-1))),(D.int sn1),(D.bool Bool.false),(D.bool Bool.false)]) 0) 5))),(D.int (qint (qfld (qnth (q65 [(qsplit (qcutB ss0 (ByteArray.mk #[32])) (ByteArray.mk #[44,32])),(D.bool Bool.false),(D.bool (qbool (qnth (q62 [(D.str (qcutA ss0 (ByteArray.mk #[32]))),(D.str (ByteArray.mk #[46,119]))]) 1))),(D.int (qiteI (qbool (qnth (q59 [(D.str (qstr (qnth (q62 [(D.str (qcutA ss0 (ByteArray.mk #[32]))),(D.str (ByteArray.mk #[46,119]))]) 0))),(D.str (ByteArray.mk #[106]))]) 1)) (qint (qnth (q63_26 [(D.str (qstr (qnth (q59 [(D.str (qstr (qnth (q62 [(D.str (qcutA ss0 (ByteArray.mk #[32]))),(D.str (ByteArray.mk #[46,119]))]) 0))),(D.str (ByteArray.mk #[106]))]) 0))),(D.int 15)]) 0)) (-1))),(D.int sn1),(D.bool Bool.false),(D.bool Bool.false)]) 0) 6))),(D.int (qint (qfld (qnth (q65 [(qsplit (qcutB ss0 (ByteArray.mk #[32])) (ByteArray.mk #[44,32])),(D.bool Bool.false),(D.bool (qbool (qnth (q62 [(D.str (qcutA ss0 (ByteArray.mk #[32]))),(D.str (ByteArray.mk #[46,119]))]) 1))),(D.int (qiteI (qbool (qnth (q59 [(D.str (qstr (qnth (q62 [(D.str (qcutA ss0 (ByteArray.mk #[32]))),(D.str (ByteArray.mk #[46,119]))]) 0))),(D.str (ByteArray.mk #[106]))]) 1)) (qint (qnth (q63_26 [(D.str (qstr (qnth (q59 [(D.str (qstr (qnth (q62 [(D.str (qcutA ss0 (ByteArray.mk #[32]))),(D.str (ByteArray.mk #[46,119]))]) 0))),(D.str (ByteArray.mk #[106]))]) 0))),(D.int 15)]) 0)) (-1))),(D.int sn1),(D.bool Bool.false),(D.bool Bool.false)]) 0) 7))),(D.int (qint (qnth (q69 [(F37_a18 ss0 sn1)]) 0)))])
noncomputable def F37_a20 (ss0:ByteArray) (sn1:Int):D:=(D.agg [(D.int sn1),(D.int (qint (qfld (qnth (q65 [(qsplit (qcutB ss0 (ByteArray.mk #[32])) (ByteArray.mk #[44,32])),(D.bool Bool.false),(D.bool (qbool (qnth (q62 [(D.str (qcutA ss0 (ByteArray.mk #[32]))),(D.str (ByteArray.mk #[46,119]))]) 1))),(D.int 0),(D.int sn1),(D.bool Bool.false),(D.bool Bool.false)]) 0) 1))),(D.int (qint (qfld (qnth (q65 [(qsplit (qcutB ss0 (ByteArray.mk #[32])) (ByteArray.mk #[44,32])),(D.bool Bool.false),(D.bool (qbool (qnth (q62 [(D.str (qcutA ss0 (ByteArray.mk #[32]))),(D.str (ByteArray.mk #[46,119]))]) 1))),(D.int 0),(D.int sn1),(D.bool Bool.false),(D.bool Bool.false)]) 0) 2))),(D.int (qint (qfld (qnth (q65 [(qsplit (qcutB ss0 (ByteArray.mk #[32])) (ByteArray.mk #[44,32])),(D.bool Bool.false),(D.bool (qbool (qnth (q62 [(D.str (qcutA ss0 (ByteArray.mk #[32]))),(D.str (ByteArray.mk #[46,119]))]) 1))),(D.int 0),(D.int sn1),(D.bool Bool.false),(D.bool Bool.false)]) 0) 3))),(D.int (qint (qfld (qnth (q65 [(qsplit (qcutB ss0 (ByteArray.mk #[32])) (ByteArray.mk #[44,32])),(D.bool Bool.false),(D.bool (qbool (qnth (q62 [(D.str (qcutA ss0 (ByteArray.mk #[32]))),(D.str (ByteArray.mk #[46,119]))]) 1))),(D.int 0),(D.int sn1),(D.bool Bool.false),(D.bool Bool.false)]) 0) 4))),(D.int (qint (qfld (qnth (q65 [(qsplit (qcutB ss0 (ByteArray.mk #[32])) (ByteArray.mk #[44,32])),(D.bool Bool.false),(D.bool (qbool (qnth (q62 [(D.str (qcutA ss0 (ByteArray.mk #[32]))),(D.str (ByteArray.mk #[46,119]))]) 1))),(D.int 0),(D.int sn1),(D.bool Bool.false),(D.bool Bool.false)]) 0) 5))),(D.int (qint (qfld (qnth (q65 [(qsplit (qcutB ss0 (ByteArray.mk #[32])) (ByteArray.mk #[44,32])),(D.bool Bool.false),(D.bool (qbool (qnth (q62 [(D.str (qcutA ss0 (ByteArray.mk #[32]))),(D.str (ByteArray.mk #[46,119]))]) 1))),(D.int 0),(D.int sn1),(D.bool Bool.false),(D.bool Bool.false)]) 0) 6))),(D.int (qint (qfld (qnth (q65 [(qsplit (qcutB ss0 (ByteArray.mk #[32])) (ByteArray.mk #[44,32])),(D.bool Bool.false),(D.bool (qbool (qnth (q62 [(D.str (qcutA ss0 (ByteArray.mk #[32]))),(D.str (ByteArray.mk #[46,119]))]) 1))),(D.int 0),(D.int sn1),(D.bool Bool.false),(D.bool Bool.false)]) 0) 7))),(D.int (qint (qfld (qnth (q65 [(qsplit (qcutB ss0 (ByteArray.mk #[32])) (ByteArray.mk #[44,32])),(D.bool Bool.false),(D.bool (qbool (qnth (q62 [(D.str (qcutA ss0 (ByteArray.mk #[32]))),(D.str (ByteArray.mk #[46,119]))]) 1))),(D.int 0),(D.int sn1),(D.bool Bool.false),(D.bool Bool.false)]) 0) 8)))])
noncomputable def F37_a21 (ss0:ByteArray) (sn1:Int):D:=(D.agg [(D.int sn1),(D.int (qint (qfld (qnth (q65 [(qsplit (qcutB ss0 (ByteArray.mk #[32])) (ByteArray.mk #[44,32])),(D.bool Bool.false),(D.bool (qbool (qnth (q62 [(D.str (qcutA ss0 (ByteArray.mk #[32]))),(D.str (ByteArray.mk #[46,119]))]) 1))),(D.int 0),(D.int sn1),(D.bool Bool.false),(D.bool Bool.false)]) 0) 1))),(D.int (qint (qfld (qnth (q65 [(qsplit (qcutB ss0 (ByteArray.mk #[32])) (ByteArray.mk #[44,32])),(D.bool Bool.false),(D.bool (qbool (qnth (q62 [(D.str (qcutA ss0 (ByteArray.mk #[32]))),(D.str (ByteArray.mk #[46,119]))]) 1))),(D.int 0),(D.int sn1),(D.bool Bool.false),(D.bool Bool.false)]) 0) 2))),(D.int (qint (qfld (qnth (q65 [(qsplit (qcutB ss0 (ByteArray.mk #[32])) (ByteArray.mk #[44,32])),(D.bool Bool.false),(D.bool (qbool (qnth (q62 [(D.str (qcutA ss0 (ByteArray.mk #[32]))),(D.str (ByteArray.mk #[46,119]))]) 1))),(D.int 0),(D.int sn1),(D.bool Bool.false),(D.bool Bool.false)]) 0) 3))),(D.int (qint (qfld (qnth (q65 [(qsplit (qcutB ss0 (ByteArray.mk #[32])) (ByteArray.mk #[44,32])),(D.bool Bool.false),(D.bool (qbool (qnth (q62 [(D.str (qcutA ss0 (ByteArray.mk #[32]))),(D.str (ByteArray.mk #[46,119]))]) 1))),(D.int 0),(D.int sn1),(D.bool Bool.false),(D.bool Bool.false)]) 0) 4))),(D.int (qint (qfld (qnth (q65 [(qsplit (qcutB ss0 (ByteArray.mk #[32])) (ByteArray.mk #[44,32])),(D.bool Bool.false),(D.bool (qbool (qnth (q62 [(D.str (qcutA ss0 (ByteArray.mk #[32]))),(D.str (ByteArray.mk #[46,119]))]) 1))),(D.int 0),(D.int sn1),(D.bool Bool.false),(D.bool Bool.false)]) 0) 5))),(D.int (qint (qfld (qnth (q65 [(qsplit (qcutB ss0 (ByteArray.mk #[32])) (ByteArray.mk #[44,32])),(D.bool Bool.false),(D.bool (qbool (qnth (q62 [(D.str (qcutA ss0 (ByteArray.mk #[32]))),(D.str (ByteArray.mk #[46,119]))]) 1))),(D.int 0),(D.int sn1),(D.bool Bool.false),(D.bool Bool.false)]) 0) 6))),(D.int (qint (qfld (qnth (q65 [(qsplit (qcutB ss0 (ByteArray.mk #[32])) (ByteArray.mk #[44,32])),(D.bool Bool.false),(D.bool (qbool (qnth (q62 [(D.str (qcutA ss0 (ByteArray.mk #[32]))),(D.str (ByteArray.mk #[46,119]))]) 1))),(D.int 0),(D.int sn1),(D.bool Bool.false),(D.bool Bool.false)]) 0) 7))),(D.int (qint (qnth (q69 [(F37_a20 ss0 sn1)]) 0)))])
theorem F37_eq (ss0:ByteArray) (sn1:Int):F37 [(D.str ss0),(D.int sn1)] =
 bif (qcmp BinOp.lss (qlenS ss0) 4294967281)then
 bif (qcutOk ss0 (ByteArray.mk #[32]))then
 bif (qcmp BinOp.lss (qlenS (qcutB ss0 (ByteArray.mk #[32]))) 4294967281)then
 bif (qsome (q62 [(D.str (qcutA ss0 (ByteArray.mk #[32]))),(D.str (ByteArray.mk #[46,119]))]))then
 bif (qsome (q59 [(D.str (qstr (qnth (q62 [(D.str (qcutA ss0 (ByteArray.mk #[32]))),(D.str (ByteArray.mk #[46,119]))]) 0))),(D.str (ByteArray.mk #[106]))]))then
 bif (qiteB (qbool (qnth (q59 [(D.str (qstr (qnth (q62 [(D.str (qcutA ss0 (ByteArray.mk #[32]))),(D.str (ByteArray.mk #[46,119]))]) 0))),(D.str (ByteArray.mk #[106]))]) 1)) (qsome (q63_26 [(D.str (qstr (qnth (q59 [(D.str (qstr (qnth (q62 [(D.str (qcutA ss0 (ByteArray.mk #[32]))),(D.str (ByteArray.mk #[46,119]))]) 0))),(D.str (ByteArray.mk #[106]))]) 0))),(D.int 15)])) Bool.true)then
 bif (qsome (q59 [(D.str (qstr (qnth (q62 [(D.str (qcutA ss0 (ByteArray.mk #[32]))),(D.str (ByteArray.mk #[46,119]))]) 0))),(D.str (ByteArray.mk #[115,101,116]))]))then
 bif (qsome (q63_64 [(D.str (qstr (qnth (q62 [(D.str (qcutA ss0 (ByteArray.mk #[32]))),(D.str (ByteArray.mk #[46,119]))]) 0))),(D.int 11)]))then
 bif (qcmpS BinOp.eql (qstr (qnth (q62 [(D.str (qcutA ss0 (ByteArray.mk #[32]))),(D.str (ByteArray.mk #[46,119]))]) 0)) (ByteArray.mk #[106,109,112]))then
 bif (qsome (q65 [(qsplit (qcutB ss0 (ByteArray.mk #[32])) (ByteArray.mk #[44,32])),(D.bool Bool.false),(D.bool (qbool (qnth (q62 [(D.str (qcutA ss0 (ByteArray.mk #[32]))),(D.str (ByteArray.mk #[46,119]))]) 1))),(D.int 0),(D.int sn1),(D.bool Bool.false),(D.bool Bool.false)]))then
 bif (qiteB (qbool (qnth (q65 [(qsplit (qcutB ss0 (ByteArray.mk #[32])) (ByteArray.mk #[44,32])),(D.bool Bool.false),(D.bool (qbool (qnth (q62 [(D.str (qcutA ss0 (ByteArray.mk #[32]))),(D.str (ByteArray.mk #[46,119]))]) 1))),(D.int 0),(D.int sn1),(D.bool Bool.false),(D.bool Bool.false)]) 1)) Bool.true (qiteB (qbool (qnth (q62 [(D.str (qcutA ss0 (ByteArray.mk #[32]))),(D.str (ByteArray.mk #[46,119]))]) 1)) (qnot (qbool (qnth (q65 [(qsplit (qcutB ss0 (ByteArray.mk #[32])) (ByteArray.mk #[44,32])),(D.bool Bool.false),(D.bool (qbool (qnth (q62 [(D.str (qcutA ss0 (ByteArray.mk #[32]))),(D.str (ByteArray.mk #[46,119]))]) 1))),(D.int 0),(D.int sn1),(D.bool Bool.false),(D.bool Bool.false)]) 2))) Bool.false))then
 some [(F37_a2 ss0 sn1),(D.int 3)]
 else
 bif (qsome (q69 [(F37_a20 ss0 sn1)]))then
 some [(F37_a21 ss0 sn1),(D.int 0)]
 else
 none
 else
 none
 else
 bif (qcmp BinOp.gtr (qiteI (qbool (qnth (q59 [(D.str (qstr (qnth (q62 [(D.str (qcutA ss0 (ByteArray.mk #[32]))),(D.str (ByteArray.mk #[46,119]))]) 0))),(D.str (ByteArray.mk #[106]))]) 1)) (qint (qnth (q63_26 [(D.str (qstr (qnth (q59 [(D.str (qstr (qnth (q62 [(D.str (qcutA ss0 (ByteArray.mk #[32]))),(D.str (ByteArray.mk #[46,119]))]) 0))),(D.str (ByteArray.mk #[106]))]) 0))),(D.int 15)]) 0)) (-1)) 0)then
 bif (qsome (q65 [(qsplit (qcutB ss0 (ByteArray.mk #[32])) (ByteArray.mk #[44,32])),(D.bool Bool.false),(D.bool (qbool (qnth (q62 [(D.str (qcutA ss0 (ByteArray.mk #[32]))),(D.str (ByteArray.mk #[46,119]))]) 1))),(D.int (qiteI (qbool (qnth (q59 [(D.str (qstr (qnth (q62 [(D.str (qcutA ss0 (ByteArray.mk #[32]))),(D.str (ByteArray.mk #[46,119]))]) 0))),(D.str (ByteArray.mk #[106]))]) 1)) (qint (qnth (q63_26 [(D.str (qstr (qnth (q59 [(D.str (qstr (qnth (q62 [(D.str (qcutA ss0 (ByteArray.mk #[32]))),(D.str (ByteArray.mk #[46,119]))]) 0))),(D.str (ByteArray.mk #[106]))]) 0))),(D.int 15)]) 0)) (-1))),(D.int sn1),(D.bool Bool.false),(D.bool Bool.false)]))then
 bif (qiteB (qbool (qnth (q65 [(qsplit (qcutB ss0 (ByteArray.mk #[32])) (ByteArray.mk #[44,32])),(D.bool Bool.false),(D.bool (qbool (qnth (q62 [(D.str (qcutA ss0 (ByteArray.mk #[32]))),(D.str (ByteArray.mk #[46,119]))]) 1))),(D.int (qiteI (qbool (qnth (q59 [(D.str (qstr (qnth (q62 [(D.str (qcutA ss0 (ByteArray.mk #[32]))),(D.str (ByteArray.mk #[46,119]))]) 0))),(D.str (ByteArray.mk #[106]))]) 1)) (qint (qnth (q63_26 [(D.str (qstr (qnth (q59 [(D.str (qstr (qnth (q62 [(D.str (qcutA ss0 (ByteArray.mk #[32]))),(D.str (ByteArray.mk #[46,119]))]) 0))),(D.str (ByteArray.mk #[106]))]) 0))),(D.int 15)]) 0)) (-1))),(D.int sn1),(D.bool Bool.false),(D.bool Bool.false)]) 1)) Bool.true (qiteB (qbool (qnth (q62 [(D.str (qcutA ss0 (ByteArray.mk #[32]))),(D.str (ByteArray.mk #[46,119]))]) 1)) (qnot (qbool (qnth (q65 [(qsplit (qcutB ss0 (ByteArray.mk #[32])) (ByteArray.mk #[44,32])),(D.bool Bool.false),(D.bool (qbool (qnth (q62 [(D.str (qcutA ss0 (ByteArray.mk #[32]))),(D.str (ByteArray.mk #[46,119]))]) 1))),(D.int (qiteI (qbool (qnth (q59 [(D.str (qstr (qnth (q62 [(D.str (qcutA ss0 (ByteArray.mk #[32]))),(D.str (ByteArray.mk #[46,119]))]) 0))),(D.str (ByteArray.mk #[106]))]) 1)) (qint (qnth (q63_26 [(D.str (qstr (qnth (q59 [(D.str (qstr (qnth (q62 [(D.str (qcutA ss0 (ByteArray.mk #[32]))),(D.str (ByteArray.mk #[46,119]))]) 0))),(D.str (ByteArray.mk #[106]))]) 0))),(D.int 15)]) 0)) (-1))),(D.int sn1),(D.bool Bool.false),(D.bool Bool.false)]) 2))) Bool.false))then
 some [(F37_a2 ss0 sn1),(D.int 3)]
 else
 bif (qsome (q69 [(F37_a18 ss0 sn1)]))then
 some [(F37_a19 ss0 sn1),(D.int 0)]
 else
 none
 else
 none
 else
 bif (qbool (qnth (q59 [(D.str (qstr (qnth (q62 [(D.str (qcutA ss0 (ByteArray.mk #[32]))),(D.str (ByteArray.mk #[46,119]))]) 0))),(D.str (ByteArray.mk #[115,101,116]))]) 1))then
 bif (qsome (q63_26 [(D.str (qstr (qnth (q59 [(D.str (qstr (qnth (q62 [(D.str (qcutA ss0 (ByteArray.mk #[32]))),(D.str (ByteArray.mk #[46,119]))]) 0))),(D.str (ByteArray.mk #[115,101,116]))]) 0))),(D.int 15)]))then
 bif (qsome (q66 [(qsplit (qcutB ss0 (ByteArray.mk #[32])) (ByteArray.mk #[44,32])),(D.bool Bool.false),(D.bool (qbool (qnth (q62 [(D.str (qcutA ss0 (ByteArray.mk #[32]))),(D.str (ByteArray.mk #[46,119]))]) 1))),(D.bool Bool.false),(F37_a5 ss0 sn1),(D.bool Bool.false)]))then
 bif (qbool (qnth (q66 [(qsplit (qcutB ss0 (ByteArray.mk #[32])) (ByteArray.mk #[44,32])),(D.bool Bool.false),(D.bool (qbool (qnth (q62 [(D.str (qcutA ss0 (ByteArray.mk #[32]))),(D.str (ByteArray.mk #[46,119]))]) 1))),(D.bool Bool.false),(F37_a5 ss0 sn1),(D.bool Bool.false)]) 1))then
 some [(F37_a2 ss0 sn1),(D.int 3)]
 else
 bif (qsome (q63_26 [(D.str (qstr (qnth (q59 [(D.str (qstr (qnth (q62 [(D.str (qcutA ss0 (ByteArray.mk #[32]))),(D.str (ByteArray.mk #[46,119]))]) 0))),(D.str (ByteArray.mk #[115,101,116]))]) 0))),(D.int 15)]))then
 bif (qiteB (qcmp BinOp.lss (qint (qnth (q63_26 [(D.str (qstr (qnth (q59 [(D.str (qstr (qnth (q62 [(D.str (qcutA ss0 (ByteArray.mk #[32]))),(D.str (ByteArray.mk #[46,119]))]) 0))),(D.str (ByteArray.mk #[115,101,116]))]) 0))),(D.int 15)]) 0)) 0) Bool.true (qiteB (qbool (qnth (q62 [(D.str (qcutA ss0 (ByteArray.mk #[32]))),(D.str (ByteArray.mk #[46,119]))]) 1)) (qnot Bool.false) Bool.false))then
 some [(F37_a2 ss0 sn1),(D.int 3)]
 else
 bif (qsome (q69 [(F37_a16 ss0 sn1)]))then
 some [(F37_a17 ss0 sn1),(D.int 0)]
 else
 none
 else
 none
 else
 none
 else
 none
 else
 bif (qcmp BinOp.geq (qint (qnth (q63_64 [(D.str (qstr (qnth (q62 [(D.str (qcutA ss0 (ByteArray.mk #[32]))),(D.str (ByteArray.mk #[46,119]))]) 0))),(D.int 11)]) 0)) 0)then
 bif (qsome (q67 [(qsplit (qcutB ss0 (ByteArray.mk #[32])) (ByteArray.mk #[44,32])),(D.bool Bool.false),(D.bool (qbool (qnth (q62 [(D.str (qcutA ss0 (ByteArray.mk #[32]))),(D.str (ByteArray.mk #[46,119]))]) 1))),(D.int (qbin BinOp.add IntKind.i64 5 (qint (qnth (q63_64 [(D.str (qstr (qnth (q62 [(D.str (qcutA ss0 (ByteArray.mk #[32]))),(D.str (ByteArray.mk #[46,119]))]) 0))),(D.int 11)]) 0)))),(D.bool Bool.false),(D.bool Bool.false)]))then
 bif (qiteB (qbool (qnth (q67 [(qsplit (qcutB ss0 (ByteArray.mk #[32])) (ByteArray.mk #[44,32])),(D.bool Bool.false),(D.bool (qbool (qnth (q62 [(D.str (qcutA ss0 (ByteArray.mk #[32]))),(D.str (ByteArray.mk #[46,119]))]) 1))),(D.int (qbin BinOp.add IntKind.i64 5 (qint (qnth (q63_64 [(D.str (qstr (qnth (q62 [(D.str (qcutA ss0 (ByteArray.mk #[32]))),(D.str (ByteArray.mk #[46,119]))]) 0))),(D.int 11)]) 0)))),(D.bool Bool.false),(D.bool Bool.false)]) 1)) Bool.true (qiteB (qbool (qnth (q62 [(D.str (qcutA ss0 (ByteArray.mk #[32]))),(D.str (ByteArray.mk #[46,119]))]) 1)) (qnot (qbool (qnth (q67 [(qsplit (qcutB ss0 (ByteArray.mk #[32])) (ByteArray.mk #[44,32])),(D.bool Bool.false),(D.bool (qbool (qnth (q62 [(D.str (qcutA ss0 (ByteArray.mk #[32]))),(D.str (ByteArray.mk #[46,119]))]) 1))),(D.int (qbin BinOp.add IntKind.i64 5 (qint (qnth (q63_64 [(D.str (qstr (qnth (q62 [(D.str (qcutA ss0 (ByteArray.mk #[32]))),(D.str (ByteArray.mk #[46,119]))]) 0))),(D.int 11)]) 0)))),(D.bool Bool.false),(D.bool Bool.false)]) 2))) Bool.false))then
 some [(F37_a2 ss0 sn1),(D.int 3)]
 else
 bif (qsome (q69 [(F37_a14 ss0 sn1)]))then
 some [(F37_a15 ss0 sn1),(D.int 0)]
 else
 none
 else
 none
 else
 bif (qsome (q68 [(qsplit (qcutB ss0 (ByteArray.mk #[32])) (ByteArray.mk #[44,32])),(D.bool (qbool (qnth (q62 [(D.str (qcutA ss0 (ByteArray.mk #[32]))),(D.str (ByteArray.mk #[46,119]))]) 1))),(D.bool Bool.false),(D.str (qstr (qnth (q62 [(D.str (qcutA ss0 (ByteArray.mk #[32]))),(D.str (ByteArray.mk #[46,119]))]) 0))),(D.bool Bool.false),(D.bool Bool.false)]))then
 bif (qiteB (qbool (qnth (q68 [(qsplit (qcutB ss0 (ByteArray.mk #[32])) (ByteArray.mk #[44,32])),(D.bool (qbool (qnth (q62 [(D.str (qcutA ss0 (ByteArray.mk #[32]))),(D.str (ByteArray.mk #[46,119]))]) 1))),(D.bool Bool.false),(D.str (qstr (qnth (q62 [(D.str (qcutA ss0 (ByteArray.mk #[32]))),(D.str (ByteArray.mk #[46,119]))]) 0))),(D.bool Bool.false),(D.bool Bool.false)]) 1)) Bool.true (qiteB (qbool (qnth (q62 [(D.str (qcutA ss0 (ByteArray.mk #[32]))),(D.str (ByteArray.mk #[46,119]))]) 1)) (qnot Bool.false) Bool.false))then
 some [(F37_a2 ss0 sn1),(D.int 3)]
 else
 bif (qbool (qnth (q68 [(qsplit (qcutB ss0 (ByteArray.mk #[32])) (ByteArray.mk #[44,32])),(D.bool (qbool (qnth (q62 [(D.str (qcutA ss0 (ByteArray.mk #[32]))),(D.str (ByteArray.mk #[46,119]))]) 1))),(D.bool Bool.false),(D.str (qstr (qnth (q62 [(D.str (qcutA ss0 (ByteArray.mk #[32]))),(D.str (ByteArray.mk #[46,119]))]) 0))),(D.bool Bool.false),(D.bool Bool.false)]) 2))then
 some [(F37_a2 ss0 sn1),(D.int 7)]
 else
 bif (qsome (q69 [(F37_a12 ss0 sn1)]))then
 some [(F37_a13 ss0 sn1),(D.int 0)]
 else
 none
 else
 none
 else
 none
 else
 none
 else
 none
 else
 none
 else
 none
 else
 none
 else
 bif (qsome (q62 [(D.str (qcutA ss0 (ByteArray.mk #[32]))),(D.str (ByteArray.mk #[46,119]))]))then
 bif (qsome (q59 [(D.str (qstr (qnth (q62 [(D.str (qcutA ss0 (ByteArray.mk #[32]))),(D.str (ByteArray.mk #[46,119]))]) 0))),(D.str (ByteArray.mk #[106]))]))then
 bif (qiteB (qbool (qnth (q59 [(D.str (qstr (qnth (q62 [(D.str (qcutA ss0 (ByteArray.mk #[32]))),(D.str (ByteArray.mk #[46,119]))]) 0))),(D.str (ByteArray.mk #[106]))]) 1)) (qsome (q63_26 [(D.str (qstr (qnth (q59 [(D.str (qstr (qnth (q62 [(D.str (qcutA ss0 (ByteArray.mk #[32]))),(D.str (ByteArray.mk #[46,119]))]) 0))),(D.str (ByteArray.mk #[106]))]) 0))),(D.int 15)])) Bool.true)then
 bif (qsome (q59 [(D.str (qstr (qnth (q62 [(D.str (qcutA ss0 (ByteArray.mk #[32]))),(D.str (ByteArray.mk #[46,119]))]) 0))),(D.str (ByteArray.mk #[115,101,116]))]))then
 bif (qsome (q63_64 [(D.str (qstr (qnth (q62 [(D.str (qcutA ss0 (ByteArray.mk #[32]))),(D.str (ByteArray.mk #[46,119]))]) 0))),(D.int 11)]))then
 bif (qcmpS BinOp.eql (qstr (qnth (q62 [(D.str (qcutA ss0 (ByteArray.mk #[32]))),(D.str (ByteArray.mk #[46,119]))]) 0)) (ByteArray.mk #[106,109,112]))then
 bif (qsome (q65 [(D.list []),(D.bool Bool.false),(D.bool (qbool (qnth (q62 [(D.str (qcutA ss0 (ByteArray.mk #[32]))),(D.str (ByteArray.mk #[46,119]))]) 1))),(D.int 0),(D.int sn1),(D.bool Bool.false),(D.bool Bool.false)]))then
 bif (qiteB (qbool (qnth (q65 [(D.list []),(D.bool Bool.false),(D.bool (qbool (qnth (q62 [(D.str (qcutA ss0 (ByteArray.mk #[32]))),(D.str (ByteArray.mk #[46,119]))]) 1))),(D.int 0),(D.int sn1),(D.bool Bool.false),(D.bool Bool.false)]) 1)) Bool.true (qiteB (qbool (qnth (q62 [(D.str (qcutA ss0 (ByteArray.mk #[32]))),(D.str (ByteArray.mk #[46,119]))]) 1)) (qnot (qbool (qnth (q65 [(D.list []),(D.bool Bool.false),(D.bool (qbool (qnth (q62 [(D.str (qcutA ss0 (ByteArray.mk #[32]))),(D.str (ByteArray.mk #[46,119]))]) 1))),(D.int 0),(D.int sn1),(D.bool Bool.false),(D.bool Bool.false)]) 2))) Bool.false))then
 some [(F37_a2 ss0 sn1),(D.int 3)]
 else
 bif (qsome (q69 [(F37_a10 ss0 sn1)]))then
 some [(F37_a11 ss0 sn1),(D.int 0)]
 else
 none
 else
 none
 else
 bif (qcmp BinOp.gtr (qiteI (qbool (qnth (q59 [(D.str (qstr (qnth (q62 [(D.str (qcutA ss0 (ByteArray.mk #[32]))),(D.str (ByteArray.mk #[46,119]))]) 0))),(D.str (ByteArray.mk #[106]))]) 1)) (qint (qnth (q63_26 [(D.str (qstr (qnth (q59 [(D.str (qstr (qnth (q62 [(D.str (qcutA ss0 (ByteArray.mk #[32]))),(D.str (ByteArray.mk #[46,119]))]) 0))),(D.str (ByteArray.mk #[106]))]) 0))),(D.int 15)]) 0)) (-1)) 0)then
 bif (qsome (q65 [(D.list []),(D.bool Bool.false),(D.bool (qbool (qnth (q62 [(D.str (qcutA ss0 (ByteArray.mk #[32]))),(D.str (ByteArray.mk #[46,119]))]) 1))),(D.int (qiteI (qbool (qnth (q59 [(D.str (qstr (qnth (q62 [(D.str (qcutA ss0 (ByteArray.mk #[32]))),(D.str (ByteArray.mk #[46,119]))]) 0))),(D.str (ByteArray.mk #[106]))]) 1)) (qint (qnth (q63_26 [(D.str (qstr (qnth (q59 [(D.str (qstr (qnth (q62 [(D.str (qcutA ss0 (ByteArray.mk #[32]))),(D.str (ByteArray.mk #[46,119]))]) 0))),(D.str (ByteArray.mk #[106]))]) 0))),(D.int 15)]) 0)) (-1))),(D.int sn1),(D.bool Bool.false),(D.bool Bool.false)]))then
 bif (qiteB (qbool (qnth (q65 [(D.list []),(D.bool Bool.false),(D.bool (qbool (qnth (q62 [(D.str (qcutA ss0 (ByteArray.mk #[32]))),(D.str (ByteArray.mk #[46,119]))]) 1))),(D.int (qiteI (qbool (qnth (q59 [(D.str (qstr (qnth (q62 [(D.str (qcutA ss0 (ByteArray.mk #[32]))),(D.str (ByteArray.mk #[46,119]))]) 0))),(D.str (ByteArray.mk #[106]))]) 1)) (qint (qnth (q63_26 [(D.str (qstr (qnth (q59 [(D.str (qstr (qnth (q62 [(D.str (qcutA ss0 (ByteArray.mk #[32]))),(D.str (ByteArray.mk #[46,119]))]) 0))),(D.str (ByteArray.mk #[106]))]) 0))),(D.int 15)]) 0)) (-1))),(D.int sn1),(D.bool Bool.false),(D.bool Bool.false)]) 1)) Bool.true (qiteB (qbool (qnth (q62 [(D.str (qcutA ss0 (ByteArray.mk #[32]))),(D.str (ByteArray.mk #[46,119]))]) 1)) (qnot (qbool (qnth (q65 [(D.list []),(D.bool Bool.false),(D.bool (qbool (qnth (q62 [(D.str (qcutA ss0 (ByteArray.mk #[32]))),(D.str (ByteArray.mk #[46,119]))]) 1))),(D.int (qiteI (qbool (qnth (q59 [(D.str (qstr (qnth (q62 [(D.str (qcutA ss0 (ByteArray.mk #[32]))),(D.str (ByteArray.mk #[46,119]))]) 0))),(D.str (ByteArray.mk #[106]))]) 1)) (qint (qnth (q63_26 [(D.str (qstr (qnth (q59 [(D.str (qstr (qnth (q62 [(D.str (qcutA ss0 (ByteArray.mk #[32]))),(D.str (ByteArray.mk #[46,119]))]) 0))),(D.str (ByteArray.mk #[106]))]) 0))),(D.int 15)]) 0)) (-1))),(D.int sn1),(D.bool Bool.false),(D.bool Bool.false)]) 2))) Bool.false))then
 some [(F37_a2 ss0 sn1),(D.int 3)]
 else
 bif (qsome (q69 [(F37_a8 ss0 sn1)]))then
 some [(F37_a9 ss0 sn1),(D.int 0)]
 else
 none
 else
 none
 else
 bif (qbool (qnth (q59 [(D.str (qstr (qnth (q62 [(D.str (qcutA ss0 (ByteArray.mk #[32]))),(D.str (ByteArray.mk #[46,119]))]) 0))),(D.str (ByteArray.mk #[115,101,116]))]) 1))then
 bif (qsome (q63_26 [(D.str (qstr (qnth (q59 [(D.str (qstr (qnth (q62 [(D.str (qcutA ss0 (ByteArray.mk #[32]))),(D.str (ByteArray.mk #[46,119]))]) 0))),(D.str (ByteArray.mk #[115,101,116]))]) 0))),(D.int 15)]))then
 bif (qsome (q66 [(D.list []),(D.bool Bool.false),(D.bool (qbool (qnth (q62 [(D.str (qcutA ss0 (ByteArray.mk #[32]))),(D.str (ByteArray.mk #[46,119]))]) 1))),(D.bool Bool.false),(F37_a5 ss0 sn1),(D.bool Bool.false)]))then
 bif (qbool (qnth (q66 [(D.list []),(D.bool Bool.false),(D.bool (qbool (qnth (q62 [(D.str (qcutA ss0 (ByteArray.mk #[32]))),(D.str (ByteArray.mk #[46,119]))]) 1))),(D.bool Bool.false),(F37_a5 ss0 sn1),(D.bool Bool.false)]) 1))then
 some [(F37_a2 ss0 sn1),(D.int 3)]
 else
 bif (qsome (q63_26 [(D.str (qstr (qnth (q59 [(D.str (qstr (qnth (q62 [(D.str (qcutA ss0 (ByteArray.mk #[32]))),(D.str (ByteArray.mk #[46,119]))]) 0))),(D.str (ByteArray.mk #[115,101,116]))]) 0))),(D.int 15)]))then
 bif (qiteB (qcmp BinOp.lss (qint (qnth (q63_26 [(D.str (qstr (qnth (q59 [(D.str (qstr (qnth (q62 [(D.str (qcutA ss0 (ByteArray.mk #[32]))),(D.str (ByteArray.mk #[46,119]))]) 0))),(D.str (ByteArray.mk #[115,101,116]))]) 0))),(D.int 15)]) 0)) 0) Bool.true (qiteB (qbool (qnth (q62 [(D.str (qcutA ss0 (ByteArray.mk #[32]))),(D.str (ByteArray.mk #[46,119]))]) 1)) (qnot Bool.false) Bool.false))then
 some [(F37_a2 ss0 sn1),(D.int 3)]
 else
 bif (qsome (q69 [(F37_a6 ss0 sn1)]))then
 some [(F37_a7 ss0 sn1),(D.int 0)]
 else
 none
 else
 none
 else
 none
 else
 none
 else
 bif (qcmp BinOp.geq (qint (qnth (q63_64 [(D.str (qstr (qnth (q62 [(D.str (qcutA ss0 (ByteArray.mk #[32]))),(D.str (ByteArray.mk #[46,119]))]) 0))),(D.int 11)]) 0)) 0)then
 bif (qsome (q67 [(D.list []),(D.bool Bool.false),(D.bool (qbool (qnth (q62 [(D.str (qcutA ss0 (ByteArray.mk #[32]))),(D.str (ByteArray.mk #[46,119]))]) 1))),(D.int (qbin BinOp.add IntKind.i64 5 (qint (qnth (q63_64 [(D.str (qstr (qnth (q62 [(D.str (qcutA ss0 (ByteArray.mk #[32]))),(D.str (ByteArray.mk #[46,119]))]) 0))),(D.int 11)]) 0)))),(D.bool Bool.false),(D.bool Bool.false)]))then
 bif (qiteB (qbool (qnth (q67 [(D.list []),(D.bool Bool.false),(D.bool (qbool (qnth (q62 [(D.str (qcutA ss0 (ByteArray.mk #[32]))),(D.str (ByteArray.mk #[46,119]))]) 1))),(D.int (qbin BinOp.add IntKind.i64 5 (qint (qnth (q63_64 [(D.str (qstr (qnth (q62 [(D.str (qcutA ss0 (ByteArray.mk #[32]))),(D.str (ByteArray.mk #[46,119]))]) 0))),(D.int 11)]) 0)))),(D.bool Bool.false),(D.bool Bool.false)]) 1)) Bool.true (qiteB (qbool (qnth (q62 [(D.str (qcutA ss0 (ByteArray.mk #[32]))),(D.str (ByteArray.mk #[46,119]))]) 1)) (qnot (qbool (qnth (q67 [(D.list []),(D.bool Bool.false),(D.bool (qbool (qnth (q62 [(D.str (qcutA ss0 (ByteArray.mk #[32]))),(D.str (ByteArray.mk #[46,119]))]) 1))),(D.int (qbin BinOp.add IntKind.i64 5 (qint (qnth (q63_64 [(D.str (qstr (qnth (q62 [(D.str (qcutA ss0 (ByteArray.mk #[32]))),(D.str (ByteArray.mk #[46,119]))]) 0))),(D.int 11)]) 0)))),(D.bool Bool.false),(D.bool Bool.false)]) 2))) Bool.false))then
 some [(F37_a2 ss0 sn1),(D.int 3)]
 else
 bif (qsome (q69 [(F37_a3 ss0 sn1)]))then
 some [(F37_a4 ss0 sn1),(D.int 0)]
 else
 none
 else
 none
 else
 bif (qsome (q68 [(D.list []),(D.bool (qbool (qnth (q62 [(D.str (qcutA ss0 (ByteArray.mk #[32]))),(D.str (ByteArray.mk #[46,119]))]) 1))),(D.bool Bool.false),(D.str (qstr (qnth (q62 [(D.str (qcutA ss0 (ByteArray.mk #[32]))),(D.str (ByteArray.mk #[46,119]))]) 0))),(D.bool Bool.false),(D.bool Bool.false)]))then
 bif (qiteB (qbool (qnth (q68 [(D.list []),(D.bool (qbool (qnth (q62 [(D.str (qcutA ss0 (ByteArray.mk #[32]))),(D.str (ByteArray.mk #[46,119]))]) 1))),(D.bool Bool.false),(D.str (qstr (qnth (q62 [(D.str (qcutA ss0 (ByteArray.mk #[32]))),(D.str (ByteArray.mk #[46,119]))]) 0))),(D.bool Bool.false),(D.bool Bool.false)]) 1)) Bool.true (qiteB (qbool (qnth (q62 [(D.str (qcutA ss0 (ByteArray.mk #[32]))),(D.str (ByteArray.mk #[46,119]))]) 1)) (qnot Bool.false) Bool.false))then
 some [(F37_a2 ss0 sn1),(D.int 3)]
 else
 bif (qbool (qnth (q68 [(D.list []),(D.bool (qbool (qnth (q62 [(D.str (qcutA ss0 (ByteArray.mk #[32]))),(D.str (ByteArray.mk #[46,119]))]) 1))),(D.bool Bool.false),(D.str (qstr (qnth (q62 [(D.str (qcutA ss0 (ByteArray.mk #[32]))),(D.str (ByteArray.mk #[46,119]))]) 0))),(D.bool Bool.false),(D.bool Bool.false)]) 2))then
 some [(F37_a2 ss0 sn1),(D.int 7)]
 else
 bif (qsome (q69 [(F37_a0 ss0 sn1)]))then
 some [(F37_a1 ss0 sn1),(D.int 0)]
 else
 none
 else
 none
 else
 none
 else
 none
 else
 none
 else
 none
 else
 none
 else
 none:=by kernel_rfl
noncomputable def q37:List D→Option (List D):=veil (F37)
theorem q37_eq:q37=F37:=veil_eq _
noncomputable def tb37:Tb:=Tb.addF tb67 37 S37 (q37)
theorem ok_tb37:TbOk env (tb37):=addFunF ok_tb67 37 (by kernel_rfl) _ (q37_eq)
def S11:FunS:=⟨[⟨true, .str⟩,⟨true,(.int .u32)⟩],[],[⟨true,(.tup [(.dat 24),(.int .i64)])⟩],[]⟩
noncomputable def F11:List D→Option (List D):=liftX env tb37 60 12 11 S11
theorem F11_eq (ss0:ByteArray) (sn1:Int):F11 [(D.str ss0),(D.int sn1)] =
 bif (qsome (q37 [(D.str ss0),(D.int sn1)]))then
 some [(qnth (q37 [(D.str ss0),(D.int sn1)]) 0),(D.int (qint (qnth (q37 [(D.str ss0),(D.int sn1)]) 1)))]
 else
 none:=by kernel_rfl
noncomputable def q11:List D→Option (List D):=veil (F11)
theorem q11_eq:q11=F11:=veil_eq _
noncomputable def tb11:Tb:=Tb.addF tb37 11 S11 (q11)
theorem ok_tb11:TbOk env (tb11):=addFunF ok_tb37 11 (by kernel_rfl) _ (q11_eq)
end Go.Proofs.YtobhhfbdelnhfaaGreatDoor
