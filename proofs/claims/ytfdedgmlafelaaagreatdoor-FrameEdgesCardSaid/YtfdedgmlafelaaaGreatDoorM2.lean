/-
  A slice of numbers is cloned: nil, or not (function 53).
-/
import Derived.Test.YtfdedgmlafelaaaGreatDoorM1
import Derived.KernelRfl
set_option linter.unusedVariables false
set_option linter.unusedSimpArgs false
namespace Go.Proofs.YtfdedgmlafelaaaGreatDoor
open Go Go.AM
def S53:FunS:=⟨[⟨true,(.rows 3)⟩],[],[⟨true,(.rows 3)⟩],[]⟩
theorem run53n (c:Nat):bodyK (envF env tb91_92 53) (runTb env tb91_92 60 12) 60 53 [.sc (.slice none 0 c)] (heapF S53 [] []) (retF S53 [])=some [.list []]:=by kernel_rfl
theorem run53z (d:D):bodyK (envF env tb91_92 53) (runTb env tb91_92 60 12) 60 53 [.rowz 3 d] (heapF S53 [] []) (retF S53 []) =
 bif qmem (qlen (qapp (D.list []) d)) 8 then(bif (qcmp BinOp.eql (qlen (qapp (D.list []) d)) (qlen (qapp (D.list []) d)))then some [qapp (D.list []) d]else none)else none:=by kernel_rfl
noncomputable def F53 (ds:List D):Option (List D):=bif qmem (qlen (qapp (D.list []) (ds.headD .other))) 8 then some [qapp (D.list []) (ds.headD .other)]else none
noncomputable def q53:List D→Option (List D):=veil F53
theorem q53_eq:q53=F53:=veil_eq _
theorem sound53:SoundF env.P 53 S53 q53:=by
 intro p s r hp hq lo w0 ρ E w vs inv ra
 obtain rfl:p = []:=List.length_eq_zero_iff.1 hp
 have ha:argF S53 [] s = [.rows 3 (s.headD .other)]:=by
  cases s<;>rfl
 have hh:heapF S53 [] s=heapF S53 [] []:=rfl
 rw[q53_eq]at hq
 unfold F53 at hq
 simp only[List.nil_append]at hq
 rw[ha]at ra
 generalize hd:s.headD .other=d at *
 cases hm:qmem (qlen (qapp (D.list []) d)) 8 with
 |false=>rw[hm]at hq;cases hq
 |true=>
  rw[hm]at hq
  simp only[cond_true,Option.some.injEq]at hq
  subst hq
  rw[hh]at inv
  generalize hvs:vs.toList=vl at ra
  obtain⟨v,vl',rfl,rv,hn⟩:∃v vs',vl=v::vs'∧Rep ρ E w (AV.rows 3 d) v∧vs' = []:=by simpa only[RepL]using ra
  ·subst hn
   simp only[Rep]at rv
   obtain⟨a,cap,rfl,hc,hx⟩:=id rv
   cases a with
   |none=>
    have he:d.toList = []:=by
     rcases hx with h|⟨_,_,h,_⟩
     ·exact h
     ·cases h
    have he':qapp (D.list []) d = .list []:=by rw[qapp_eq];unfold D.app;rw[he];rfl
    rw[he']
    refine lift_ok (av:=[.sc (.slice none 0 cap)]) envOk ok_tb91_92 60 12 (run53n cap) rfl lo w0 ρ E w vs inv ?_
    rw[hvs,he]
    simp[RepL,Rep]
   |some a=>
    refine lift_ok (av:=[.rowz 3 d]) envOk ok_tb91_92 60 12 (p:=[]) (r:=[qapp (D.list []) d]) (S:=S53) (by rw[run53z,hm,qeqI_self];rfl) rfl lo w0 ρ E w vs inv ?_
    rw[hvs]
    simp only[RepL]
    exact⟨_,_,rfl,by simp only[Rep];exact⟨rv,_,_,_,rfl⟩,rfl⟩
noncomputable def tb53:Tb:=Tb.addF tb91_92 53 S53 q53
theorem ok_tb53:TbOk env tb53:=TbOk.addF ok_tb91_92 (by kernel_rfl) sound53
end Go.Proofs.YtfdedgmlafelaaaGreatDoor
open Go Go.AM
namespace Go.Proofs.YtfdedgmlafelaaaGreatDoor
set_option maxRecDepth 100000
set_option linter.unusedSimpArgs false
set_option linter.unusedVariables false
def S22:FunS:=⟨[⟨true,(.dat 54)⟩],[],[⟨true,(.rows 3)⟩],[]⟩
noncomputable def F22:List D→Option (List D):=liftX env tb53 60 12 22 S22
theorem F22_eq (sd0:D):F22 [sd0] =
 bif (qcmp BinOp.eql (qlen (qfld sd0 1)) 0)then
 some [(D.list [])]
 else
 bif (qinb (qfld sd0 1) (qbin BinOp.sub IntKind.i64 (qlen (qfld sd0 1)) 1))then
 bif (qcmp BinOp.eql (qint (qfld (qget (qfld sd0 1) (qbin BinOp.sub IntKind.i64 (qlen (qfld sd0 1)) 1)) 0)) 6)then
 some [(D.list [(D.int (qint (qfld (qget (qfld sd0 1) (qbin BinOp.sub IntKind.i64 (qlen (qfld sd0 1)) 1)) 3)))])]
 else
 bif (qcmp BinOp.eql (qint (qfld (qget (qfld sd0 1) (qbin BinOp.sub IntKind.i64 (qlen (qfld sd0 1)) 1)) 0)) 7)then
 some [(D.list [(D.int (qint (qfld (qget (qfld sd0 1) (qbin BinOp.sub IntKind.i64 (qlen (qfld sd0 1)) 1)) 3))),(D.int (qint (qfld (qget (qfld sd0 1) (qbin BinOp.sub IntKind.i64 (qlen (qfld sd0 1)) 1)) 4)))])]
 else
 bif (qcmp BinOp.eql (qint (qfld (qget (qfld sd0 1) (qbin BinOp.sub IntKind.i64 (qlen (qfld sd0 1)) 1)) 0)) 8)then
 bif (qsome (q53 [(qfld (qget (qfld sd0 1) (qbin BinOp.sub IntKind.i64 (qlen (qfld sd0 1)) 1)) 7)]))then
 some [(qnth (q53 [(qfld (qget (qfld sd0 1) (qbin BinOp.sub IntKind.i64 (qlen (qfld sd0 1)) 1)) 7)]) 0)]
 else
 none
 else
 some [(D.list [])]
 else
 none:=by kernel_rfl
noncomputable def q22:List D→Option (List D):=veil (F22)
theorem q22_eq:q22=F22:=veil_eq _
noncomputable def tb22:Tb:=Tb.addF tb53 22 S22 (q22)
theorem ok_tb22:TbOk env (tb22):=addFunF ok_tb53 22 (by kernel_rfl) _ (q22_eq)
def S89:FunS:=⟨[⟨true,(.dat 57)⟩],[],[⟨true,(.rows 3)⟩],[]⟩
noncomputable def F89:List D→Option (List D):=liftX env tb22 60 12 89 S89
theorem F89_eq (sd0:D):F89 [sd0] =
 bif (qcmp BinOp.eql (qint (qfld sd0 0)) 6)then
 some [(D.list [(D.int (qint (qfld sd0 3)))])]
 else
 bif (qcmp BinOp.eql (qint (qfld sd0 0)) 7)then
 some [(D.list [(D.int (qint (qfld sd0 3))),(D.int (qint (qfld sd0 4)))])]
 else
 bif (qcmp BinOp.eql (qint (qfld sd0 0)) 8)then
 some [(qfld sd0 7)]
 else
 some [(D.list [])]:=by kernel_rfl
noncomputable def q89:List D→Option (List D):=veil (F89)
theorem q89_eq:q89=F89:=veil_eq _
noncomputable def tb89:Tb:=Tb.addF tb22 89 S89 (q89)
theorem ok_tb89:TbOk env (tb89):=addFunF ok_tb22 89 (by kernel_rfl) _ (q89_eq)
def S49_4:LoopS:=⟨0,[uF,⟨false,(.ptr 0 0)⟩,⟨false,(.lit (.bool false))⟩,uF,uF,uF,uF,uF,uF,uF,uF,⟨false,(.rows 54)⟩,⟨false,(.int .i64)⟩,⟨true,(.int .i64)⟩,uF,uF,uF,uF,uF,uF,uF,uF,uF,uF,uF,uF,uF,uF,uF,uF,uF,uF,uF,uF,uF,uF,uF,uF,uF,uF,uF,uF,uF,uF,uF],[(.dat false 25)],[⟨0,0,[uT,uT,⟨true,(.lit (.bool false))⟩,uT,uT,uT,uT,uT,uT,uT,uT,⟨false,(.rows 54)⟩,⟨false,(.int .i64)⟩,uT,uT,uT,uT,uT,uT,uT,uT,uT,uT,uT,uT,uT,uT,uT,uT,uT,uT,uT,uT,uT,uT,uT,uT,uT,uT,uT,uT,uT,uT,uT,uT],[(.dat false 25)]⟩,⟨1,0,[uT,uT,⟨true,(.lit (.bool false))⟩,uT,uT,uT,uT,uT,uT,uT,uT,⟨false,(.rows 54)⟩,⟨false,(.int .i64)⟩,uT,uT,uT,uT,uT,uT,uT,uT,uT,uT,uT,uT,uT,uT,uT,uT,uT,uT,uT,uT,uT,uT,uT,uT,uT,uT,uT,uT,uT,uT,uT,uT],[(.dat false 25)]⟩]⟩
noncomputable def st49_4 (p s:List D):Option (Sum (List D) (List D)):=stepQX env tb89 60 12 49 (loopC 49 4) S49_4 p s
theorem st49_4_eq (pd0:D) (pn1:Int) (pd2:D) (sn0:Int):st49_4 [pd0,(D.int pn1),pd2] [(D.int sn0)] =
 bif (qcmp BinOp.lss sn0 pn1)then
 bif (qinb pd0 sn0)then
 bif (qiteB (qcmp BinOp.eql (qlen (qfld (qget pd0 sn0) 1)) 0) Bool.true (qand (qinb (qfld (qget pd0 sn0) 1) (qbin BinOp.sub IntKind.i64 (qlen (qfld (qget pd0 sn0) 1)) 1)) (qsome (q90 [(qget (qfld (qget pd0 sn0) 1) (qbin BinOp.sub IntKind.i64 (qlen (qfld (qget pd0 sn0) 1)) 1))]))))then
 bif (qiteB (qiteB (qcmp BinOp.eql (qlen (qfld (qget pd0 sn0) 1)) 0) Bool.true (qnot (qbool (qnth (q90 [(qget (qfld (qget pd0 sn0) 1) (qbin BinOp.sub IntKind.i64 (qlen (qfld (qget pd0 sn0) 1)) 1))]) 0)))) Bool.true (qand (qcmp BinOp.leq 0 0) (qand (qcmp BinOp.leq 0 (qbin BinOp.sub IntKind.i64 (qlen (qfld (qget pd0 sn0) 1)) 1)) (qand (qcmp BinOp.leq (qbin BinOp.sub IntKind.i64 (qlen (qfld (qget pd0 sn0) 1)) 1) (qlen (qfld (qget pd0 sn0) 1))) (qsome (q79_90 [(qsub (qfld (qget pd0 sn0) 1) 0 (qbin BinOp.sub IntKind.i64 (qlen (qfld (qget pd0 sn0) 1)) 1))]))))))then
 bif (qiteB (qiteB (qcmp BinOp.eql (qlen (qfld (qget pd0 sn0) 1)) 0) Bool.true (qnot (qbool (qnth (q90 [(qget (qfld (qget pd0 sn0) 1) (qbin BinOp.sub IntKind.i64 (qlen (qfld (qget pd0 sn0) 1)) 1))]) 0)))) Bool.true (qbool (qnth (q79_90 [(qsub (qfld (qget pd0 sn0) 1) 0 (qbin BinOp.sub IntKind.i64 (qlen (qfld (qget pd0 sn0) 1)) 1))]) 0)))then
 some (Sum.inr [(D.int 1)])
 else
 bif (qsome (q22 [(qget pd0 sn0)]))then
 bif (qsome (q91_92 [(qnth (q22 [(qget pd0 sn0)]) 0),pd2]))then
 bif (qbool (qnth (q91_92 [(qnth (q22 [(qget pd0 sn0)]) 0),pd2]) 0))then
 some (Sum.inr [(D.int 1)])
 else
 some (Sum.inl [(D.int (qbin BinOp.add IntKind.i64 sn0 1))])
 else
 none
 else
 none
 else
 none
 else
 none
 else
 none
 else
 some (Sum.inr [(D.int 0)]):=by
 have h:st49_4 [pd0,(D.int pn1),pd2] [(D.int sn0)] =
  bif (qcmp BinOp.lss sn0 pn1)then
  bif (qinb pd0 sn0)then
  bif (qiteB (qcmp BinOp.eql (qlen (qfld (qget pd0 sn0) 1)) 0) Bool.true (qand (qinb (qfld (qget pd0 sn0) 1) (qbin BinOp.sub IntKind.i64 (qlen (qfld (qget pd0 sn0) 1)) 1)) (qsome (q90 [(qget (qfld (qget pd0 sn0) 1) (qbin BinOp.sub IntKind.i64 (qlen (qfld (qget pd0 sn0) 1)) 1))]))))then
  bif (qiteB (qiteB (qcmp BinOp.eql (qlen (qfld (qget pd0 sn0) 1)) 0) Bool.true (qnot (qbool (qnth (q90 [(qget (qfld (qget pd0 sn0) 1) (qbin BinOp.sub IntKind.i64 (qlen (qfld (qget pd0 sn0) 1)) 1))]) 0)))) Bool.true (qand (qcmp BinOp.leq 0 0) (qand (qcmp BinOp.leq 0 (qbin BinOp.sub IntKind.i64 (qlen (qfld (qget pd0 sn0) 1)) 1)) (qand (qcmp BinOp.leq (qbin BinOp.sub IntKind.i64 (qlen (qfld (qget pd0 sn0) 1)) 1) (qlen (qfld (qget pd0 sn0) 1))) (qsome (q79_90 [(qsub (qfld (qget pd0 sn0) 1) 0 (qbin BinOp.sub IntKind.i64 (qlen (qfld (qget pd0 sn0) 1)) 1))]))))))then
  bif (qiteB (qiteB (qcmp BinOp.eql (qlen (qfld (qget pd0 sn0) 1)) 0) Bool.true (qnot (qbool (qnth (q90 [(qget (qfld (qget pd0 sn0) 1) (qbin BinOp.sub IntKind.i64 (qlen (qfld (qget pd0 sn0) 1)) 1))]) 0)))) Bool.true (qbool (qnth (q79_90 [(qsub (qfld (qget pd0 sn0) 1) 0 (qbin BinOp.sub IntKind.i64 (qlen (qfld (qget pd0 sn0) 1)) 1))]) 0)))then
  bif (qeqD pd0 pd0)then
  bif (qeqD (D.int pn1) (D.int pn1))then
  bif (qeqD pd2 pd2)then
  some (Sum.inr [(D.int 1)])
  else
  none
  else
  none
  else
  none
  else
  bif (qsome (q22 [(qget pd0 sn0)]))then
  bif (qsome (q91_92 [(qnth (q22 [(qget pd0 sn0)]) 0),pd2]))then
  bif (qbool (qnth (q91_92 [(qnth (q22 [(qget pd0 sn0)]) 0),pd2]) 0))then
  bif (qeqD pd0 pd0)then
  bif (qeqD (D.int pn1) (D.int pn1))then
  bif (qeqD pd2 pd2)then
  some (Sum.inr [(D.int 1)])
  else
  none
  else
  none
  else
  none
  else
  bif (qeqD pd0 pd0)then
  bif (qeqD (D.int pn1) (D.int pn1))then
  bif (qeqD pd2 pd2)then
  some (Sum.inl [(D.int (qbin BinOp.add IntKind.i64 sn0 1))])
  else
  none
  else
  none
  else
  none
  else
  none
  else
  none
  else
  none
  else
  none
  else
  none
  else
  bif (qeqD pd0 pd0)then
  bif (qeqD (D.int pn1) (D.int pn1))then
  bif (qeqD pd2 pd2)then
  some (Sum.inr [(D.int 0)])
  else
  none
  else
  none
  else
  none:=by kernel_rfl
 rw[h];simp only[qeqD_self,qeqI_self,qeq_len,show qcmp BinOp.eql 0 (qlen (D.list []))=true from qeq_len [],show∀a,qcmp BinOp.eql 1 (qlen (D.list [a]))=true from fun a=>qeq_len [a],show∀a b,qcmp BinOp.eql 2 (qlen (D.list [a,b]))=true from fun a b=>qeq_len [a,b],show∀a b c,qcmp BinOp.eql 3 (qlen (D.list [a,b,c]))=true from fun a b c=>qeq_len [a,b,c],show∀a b c d,qcmp BinOp.eql 4 (qlen (D.list [a,b,c,d]))=true from fun a b c d=>qeq_len [a,b,c,d],cond_true]
noncomputable def l49_4:List D→List D→Option (List D):=veil fun p s=>loW (st49_4 p) s
theorem l49_4_eq:l49_4=fun p s=>loW (st49_4 p) s:=veil_eq _
noncomputable def tbl49_4:Tb:=Tb.addL tb89 49 4 S49_4.n0 (mkLp S49_4 (l49_4))
theorem ok_tbl49_4:TbOk env (tbl49_4):=addLoopQ ok_tb89 49 4 (by kernel_rfl) _ (l49_4_eq)
def S49:FunS:=⟨[⟨true,(.dat 25)⟩],[],[⟨true, .bool⟩],[]⟩
noncomputable def F49:List D→Option (List D):=liftX env tbl49_4 60 12 49 S49
theorem F49_eq (sd0:D):F49 [sd0] =
 bif (qcmp BinOp.eql (qlen (qfld sd0 1)) 0)then
 some [(D.bool Bool.false)]
 else
 bif (qsome (l49_4 [(qfld sd0 1),(D.int (qlen (qfld sd0 1))),sd0] [(D.int 0)]))then
 bif (qcmp BinOp.eql (qint (qnth (l49_4 [(qfld sd0 1),(D.int (qlen (qfld sd0 1))),sd0] [(D.int 0)]) 0)) 0)then
 some [(D.bool Bool.true)]
 else
 some [(D.bool Bool.false)]
 else
 none:=by kernel_rfl
noncomputable def q49:List D→Option (List D):=veil (F49)
theorem q49_eq:q49=F49:=veil_eq _
noncomputable def tb49:Tb:=Tb.addF tbl49_4 49 S49 (q49)
theorem ok_tb49:TbOk env (tb49):=addFunF ok_tbl49_4 49 (by kernel_rfl) _ (q49_eq)
def S19_3:LoopS:=⟨0,[uF,⟨false,(.ptr 0 0)⟩,⟨false,(.lit (.int .i64 0))⟩,⟨true,(.int .i64)⟩,uF,uF,uF,uF,uF,uF,uF,uF,⟨false,(.rows 54)⟩,⟨false,(.int .i64)⟩,⟨true,(.int .i64)⟩,uF,uF,uF,uF,uF,uF,uF,uF,uF,uF,uF,uF,uF,uF,uF,uF,uF,uF,uF,uF,uF,uF,uF,uF,uF,uF,uF,uF,uF,uF,uF,uF,uF,uF,uF,uF,uF,uF,uF,uF,uF],[(.dat false 25)],[⟨0,0,[uT,⟨true,(.ptr 0 0)⟩,⟨true,(.lit (.int .i64 0))⟩,⟨true,(.int .i64)⟩,uT,uT,uT,uT,uT,uT,uT,uT,⟨false,(.rows 54)⟩,⟨false,(.int .i64)⟩,uT,uT,uT,uT,uT,uT,uT,uT,uT,uT,uT,uT,uT,uT,uT,uT,uT,uT,uT,uT,uT,uT,uT,uT,uT,uT,uT,uT,uT,uT,uT,uT,uT,uT,uT,uT,uT,uT,uT,uT,uT,uT],[(.dat false 25)]⟩]⟩
noncomputable def st19_3 (p s:List D):Option (Sum (List D) (List D)):=stepQX env tb49 60 12 19 (loopC 19 3) S19_3 p s
theorem st19_3_eq (pd0:D) (pn1:Int) (pd2:D) (sn0:Int) (sn1:Int):st19_3 [pd0,(D.int pn1),pd2] [(D.int sn0),(D.int sn1)] =
 bif (qcmp BinOp.lss sn1 pn1)then
 bif (qinb pd0 sn1)then
 some (Sum.inl [(D.int (qbin BinOp.add IntKind.i64 sn0 (qlen (qfld (qget pd0 sn1) 1)))),(D.int (qbin BinOp.add IntKind.i64 sn1 1))])
 else
 none
 else
 some (Sum.inr [(D.int 0),(D.int sn0)]):=by
 have h:st19_3 [pd0,(D.int pn1),pd2] [(D.int sn0),(D.int sn1)] =
  bif (qcmp BinOp.lss sn1 pn1)then
  bif (qinb pd0 sn1)then
  bif (qeqD pd0 pd0)then
  bif (qeqD (D.int pn1) (D.int pn1))then
  bif (qeqD pd2 pd2)then
  some (Sum.inl [(D.int (qbin BinOp.add IntKind.i64 sn0 (qlen (qfld (qget pd0 sn1) 1)))),(D.int (qbin BinOp.add IntKind.i64 sn1 1))])
  else
  none
  else
  none
  else
  none
  else
  none
  else
  bif (qeqD pd0 pd0)then
  bif (qeqD (D.int pn1) (D.int pn1))then
  bif (qeqD pd2 pd2)then
  some (Sum.inr [(D.int 0),(D.int sn0)])
  else
  none
  else
  none
  else
  none:=by kernel_rfl
 rw[h];simp only[qeqD_self,qeqI_self,qeq_len,show qcmp BinOp.eql 0 (qlen (D.list []))=true from qeq_len [],show∀a,qcmp BinOp.eql 1 (qlen (D.list [a]))=true from fun a=>qeq_len [a],show∀a b,qcmp BinOp.eql 2 (qlen (D.list [a,b]))=true from fun a b=>qeq_len [a,b],show∀a b c,qcmp BinOp.eql 3 (qlen (D.list [a,b,c]))=true from fun a b c=>qeq_len [a,b,c],show∀a b c d,qcmp BinOp.eql 4 (qlen (D.list [a,b,c,d]))=true from fun a b c d=>qeq_len [a,b,c,d],cond_true]
noncomputable def l19_3:List D→List D→Option (List D):=veil fun p s=>loW (st19_3 p) s
theorem l19_3_eq:l19_3=fun p s=>loW (st19_3 p) s:=veil_eq _
noncomputable def tbl19_3:Tb:=Tb.addL tb49 19 3 S19_3.n0 (mkLp S19_3 (l19_3))
theorem ok_tbl19_3:TbOk env (tbl19_3):=addLoopQ ok_tb49 19 3 (by kernel_rfl) _ (l19_3_eq)
def S19_15:LoopS:=⟨0,[uF,uF,⟨false,(.lit (.int .i64 0))⟩,uF,uF,uF,uF,uF,uF,uF,uF,uF,uF,uF,uF,uF,uF,uF,uF,uF,uF,uF,uF,uF,uF,uF,uF,uF,uF,uF,uF,uF,uF,uF,uF,uF,⟨false,(.rows 54)⟩,⟨false,(.int .i64)⟩,⟨false,(.int .i64)⟩,uF,uF,uF,uF,⟨false,(.rows 57)⟩,⟨false,(.int .i64)⟩,⟨true,(.int .i64)⟩,uF,uF,uF,uF,uF,uF,uF,uF,uF,uF],[],[⟨0,4,[uT,uT,⟨true,(.lit (.int .i64 0))⟩,uT,uT,uT,uT,uT,uT,uT,uT,uT,uT,uT,uT,uT,uT,uT,uT,uT,uT,uT,uT,uT,uT,uT,uT,uT,uT,uT,uT,uT,uT,uT,uT,uT,⟨false,(.rows 54)⟩,⟨false,(.int .i64)⟩,⟨false,(.int .i64)⟩,uT,uT,uT,uT,⟨false,(.rows 57)⟩,⟨false,(.int .i64)⟩,uT,uT,uT,uT,uT,uT,uT,uT,uT,uT,uT],[]⟩,⟨1,0,[uT,uT,⟨true,(.int .i64)⟩,uT,uT,uT,uT,uT,uT,uT,uT,uT,uT,uT,uT,uT,uT,uT,uT,uT,uT,uT,uT,uT,uT,uT,uT,uT,uT,uT,uT,uT,uT,uT,uT,uT,⟨false,(.rows 54)⟩,⟨false,(.int .i64)⟩,⟨false,(.int .i64)⟩,uT,uT,uT,uT,⟨false,(.rows 57)⟩,⟨false,(.int .i64)⟩,uT,uT,uT,uT,uT,uT,uT,uT,uT,uT,uT],[]⟩]⟩
noncomputable def st19_15 (p s:List D):Option (Sum (List D) (List D)):=stepQX env tbl19_3 60 12 19 (loopC 19 15) S19_15 p s
theorem st19_15_eq (pd0:D) (pn1:Int) (pn2:Int) (pd3:D) (pn4:Int) (sn0:Int):st19_15 [pd0,(D.int pn1),(D.int pn2),pd3,(D.int pn4)] [(D.int sn0)] =
 bif (qcmp BinOp.lss sn0 pn4)then
 bif (qinb pd3 sn0)then
 bif (qsome (q50 [(qget pd3 sn0)]))then
 bif (qcmp BinOp.neq (qint (qnth (q50 [(qget pd3 sn0)]) 0)) 0)then
 some (Sum.inr [(D.int 1),(D.int (qint (qnth (q50 [(qget pd3 sn0)]) 0)))])
 else
 some (Sum.inl [(D.int (qbin BinOp.add IntKind.i64 sn0 1))])
 else
 none
 else
 none
 else
 some (Sum.inr [(D.int 0)]):=by
 have h:st19_15 [pd0,(D.int pn1),(D.int pn2),pd3,(D.int pn4)] [(D.int sn0)] =
  bif (qcmp BinOp.lss sn0 pn4)then
  bif (qinb pd3 sn0)then
  bif (qsome (q50 [(qget pd3 sn0)]))then
  bif (qcmp BinOp.neq (qint (qnth (q50 [(qget pd3 sn0)]) 0)) 0)then
  bif (qeqD pd0 pd0)then
  bif (qeqD (D.int pn1) (D.int pn1))then
  bif (qeqD (D.int pn2) (D.int pn2))then
  bif (qeqD pd3 pd3)then
  bif (qeqD (D.int pn4) (D.int pn4))then
  some (Sum.inr [(D.int 1),(D.int (qint (qnth (q50 [(qget pd3 sn0)]) 0)))])
  else
  none
  else
  none
  else
  none
  else
  none
  else
  none
  else
  bif (qeqD pd0 pd0)then
  bif (qeqD (D.int pn1) (D.int pn1))then
  bif (qeqD (D.int pn2) (D.int pn2))then
  bif (qeqD pd3 pd3)then
  bif (qeqD (D.int pn4) (D.int pn4))then
  some (Sum.inl [(D.int (qbin BinOp.add IntKind.i64 sn0 1))])
  else
  none
  else
  none
  else
  none
  else
  none
  else
  none
  else
  none
  else
  none
  else
  bif (qeqD pd0 pd0)then
  bif (qeqD (D.int pn1) (D.int pn1))then
  bif (qeqD (D.int pn2) (D.int pn2))then
  bif (qeqD pd3 pd3)then
  bif (qeqD (D.int pn4) (D.int pn4))then
  some (Sum.inr [(D.int 0)])
  else
  none
  else
  none
  else
  none
  else
  none
  else
  none:=by kernel_rfl
 rw[h];simp only[qeqD_self,qeqI_self,qeq_len,show qcmp BinOp.eql 0 (qlen (D.list []))=true from qeq_len [],show∀a,qcmp BinOp.eql 1 (qlen (D.list [a]))=true from fun a=>qeq_len [a],show∀a b,qcmp BinOp.eql 2 (qlen (D.list [a,b]))=true from fun a b=>qeq_len [a,b],show∀a b c,qcmp BinOp.eql 3 (qlen (D.list [a,b,c]))=true from fun a b c=>qeq_len [a,b,c],show∀a b c d,qcmp BinOp.eql 4 (qlen (D.list [a,b,c,d]))=true from fun a b c d=>qeq_len [a,b,c,d],cond_true]
noncomputable def l19_15:List D→List D→Option (List D):=veil fun p s=>loW (st19_15 p) s
theorem l19_15_eq:l19_15=fun p s=>loW (st19_15 p) s:=veil_eq _
noncomputable def tbl19_15:Tb:=Tb.addL tbl19_3 19 15 S19_15.n0 (mkLp S19_15 (l19_15))
theorem ok_tbl19_15:TbOk env (tbl19_15):=addLoopQ ok_tbl19_3 19 15 (by kernel_rfl) _ (l19_15_eq)
def S19_12:LoopS:=⟨0,[uF,uF,⟨false,(.lit (.int .i64 0))⟩,uF,uF,uF,uF,uF,uF,uF,uF,uF,uF,uF,uF,uF,uF,uF,uF,uF,uF,uF,uF,uF,uF,uF,uF,uF,uF,uF,uF,uF,uF,uF,uF,uF,⟨false,(.rows 54)⟩,⟨false,(.int .i64)⟩,⟨true,(.int .i64)⟩,uF,uF,uF,uF,uF,uF,uF,uF,uF,uF,uF,uF,uF,uF,uF,uF,uF],[],[⟨0,2,[uT,uT,⟨true,(.lit (.int .i64 0))⟩,uT,uT,uT,uT,uT,uT,uT,uT,uT,uT,uT,uT,uT,uT,uT,uT,uT,uT,uT,uT,uT,uT,uT,uT,uT,uT,uT,uT,uT,uT,uT,uT,uT,⟨false,(.rows 54)⟩,⟨false,(.int .i64)⟩,uT,uT,uT,uT,uT,uT,uT,uT,uT,uT,uT,uT,uT,uT,uT,uT,uT,uT],[]⟩,⟨1,0,[uT,uT,⟨true,(.int .i64)⟩,uT,uT,uT,uT,uT,uT,uT,uT,uT,uT,uT,uT,uT,uT,uT,uT,uT,uT,uT,uT,uT,uT,uT,uT,uT,uT,uT,uT,uT,uT,uT,uT,uT,⟨false,(.rows 54)⟩,⟨false,(.int .i64)⟩,uT,uT,uT,uT,uT,uT,uT,uT,uT,uT,uT,uT,uT,uT,uT,uT,uT,uT],[]⟩]⟩
noncomputable def st19_12 (p s:List D):Option (Sum (List D) (List D)):=stepQX env tbl19_15 60 12 19 (loopC 19 12) S19_12 p s
theorem st19_12_eq (pd0:D) (pn1:Int) (sn0:Int):st19_12 [pd0,(D.int pn1)] [(D.int sn0)] =
 bif (qcmp BinOp.lss sn0 pn1)then
 bif (qinb pd0 sn0)then
 bif (qsome (l19_15 [pd0,(D.int pn1),(D.int sn0),(qfld (qget pd0 sn0) 1),(D.int (qlen (qfld (qget pd0 sn0) 1)))] [(D.int 0)]))then
 bif (qcmp BinOp.eql (qint (qnth (l19_15 [pd0,(D.int pn1),(D.int sn0),(qfld (qget pd0 sn0) 1),(D.int (qlen (qfld (qget pd0 sn0) 1)))] [(D.int 0)]) 0)) 0)then
 some (Sum.inl [(D.int (qbin BinOp.add IntKind.i64 sn0 1))])
 else
 some (Sum.inr [(D.int 1),(D.int (qint (qnth (l19_15 [pd0,(D.int pn1),(D.int sn0),(qfld (qget pd0 sn0) 1),(D.int (qlen (qfld (qget pd0 sn0) 1)))] [(D.int 0)]) 1)))])
 else
 none
 else
 none
 else
 some (Sum.inr [(D.int 0)]):=by
 have h:st19_12 [pd0,(D.int pn1)] [(D.int sn0)] =
  bif (qcmp BinOp.lss sn0 pn1)then
  bif (qinb pd0 sn0)then
  bif (qsome (l19_15 [pd0,(D.int pn1),(D.int sn0),(qfld (qget pd0 sn0) 1),(D.int (qlen (qfld (qget pd0 sn0) 1)))] [(D.int 0)]))then
  bif (qcmp BinOp.eql (qint (qnth (l19_15 [pd0,(D.int pn1),(D.int sn0),(qfld (qget pd0 sn0) 1),(D.int (qlen (qfld (qget pd0 sn0) 1)))] [(D.int 0)]) 0)) 0)then
  bif (qeqD pd0 pd0)then
  bif (qeqD (D.int pn1) (D.int pn1))then
  some (Sum.inl [(D.int (qbin BinOp.add IntKind.i64 sn0 1))])
  else
  none
  else
  none
  else
  bif (qeqD pd0 pd0)then
  bif (qeqD (D.int pn1) (D.int pn1))then
  some (Sum.inr [(D.int 1),(D.int (qint (qnth (l19_15 [pd0,(D.int pn1),(D.int sn0),(qfld (qget pd0 sn0) 1),(D.int (qlen (qfld (qget pd0 sn0) 1)))] [(D.int 0)]) 1)))])
  else
  none
  else
  none
  else
  none
  else
  none
  else
  bif (qeqD pd0 pd0)then
  bif (qeqD (D.int pn1) (D.int pn1))then
  some (Sum.inr [(D.int 0)])
  else
  none
  else
  none:=by kernel_rfl
 rw[h];simp only[qeqD_self,qeqI_self,qeq_len,show qcmp BinOp.eql 0 (qlen (D.list []))=true from qeq_len [],show∀a,qcmp BinOp.eql 1 (qlen (D.list [a]))=true from fun a=>qeq_len [a],show∀a b,qcmp BinOp.eql 2 (qlen (D.list [a,b]))=true from fun a b=>qeq_len [a,b],show∀a b c,qcmp BinOp.eql 3 (qlen (D.list [a,b,c]))=true from fun a b c=>qeq_len [a,b,c],show∀a b c d,qcmp BinOp.eql 4 (qlen (D.list [a,b,c,d]))=true from fun a b c d=>qeq_len [a,b,c,d],cond_true]
noncomputable def l19_12:List D→List D→Option (List D):=veil fun p s=>loW (st19_12 p) s
theorem l19_12_eq:l19_12=fun p s=>loW (st19_12 p) s:=veil_eq _
noncomputable def tbl19_12:Tb:=Tb.addL tbl19_15 19 12 S19_12.n0 (mkLp S19_12 (l19_12))
theorem ok_tbl19_12:TbOk env (tbl19_12):=addLoopQ ok_tbl19_15 19 12 (by kernel_rfl) _ (l19_12_eq)
def S19:FunS:=⟨[⟨true,(.dat 25)⟩],[],[⟨true,(.int .i64)⟩],[]⟩
noncomputable def F19:List D→Option (List D):=liftX env tbl19_12 60 12 19 S19
theorem F19_eq (sd0:D):F19 [sd0] =
 bif (qsome (l19_3 [(qfld sd0 1),(D.int (qlen (qfld sd0 1))),sd0] [(D.int 0),(D.int 0)]))then
 bif (qiteB (qcmp BinOp.gtr (qlen (qfld sd0 1)) 256) Bool.true (qcmp BinOp.gtr (qint (qnth (l19_3 [(qfld sd0 1),(D.int (qlen (qfld sd0 1))),sd0] [(D.int 0),(D.int 0)]) 1)) 1024))then
 some [(D.int 6)]
 else
 bif (qsome (q49 [sd0]))then
 bif (qnot (qbool (qnth (q49 [sd0]) 0)))then
 some [(D.int 18)]
 else
 bif (qsome (l19_12 [(qfld sd0 1),(D.int (qlen (qfld sd0 1)))] [(D.int 0)]))then
 bif (qcmp BinOp.eql (qint (qnth (l19_12 [(qfld sd0 1),(D.int (qlen (qfld sd0 1)))] [(D.int 0)]) 0)) 0)then
 some [(D.int 0)]
 else
 some [(D.int (qint (qnth (l19_12 [(qfld sd0 1),(D.int (qlen (qfld sd0 1)))] [(D.int 0)]) 1)))]
 else
 none
 else
 none
 else
 none:=by kernel_rfl
noncomputable def q19:List D→Option (List D):=veil (F19)
theorem q19_eq:q19=F19:=veil_eq _
noncomputable def tb19:Tb:=Tb.addF tbl19_12 19 S19 (q19)
theorem ok_tb19:TbOk env (tb19):=addFunF ok_tbl19_12 19 (by kernel_rfl) _ (q19_eq)
def S71_4:LoopS:=⟨0,[uF,⟨false,(.int .i64)⟩,⟨false,(.ptr 0 0)⟩,uF,⟨false,(.lit (.bool false))⟩,⟨true,(.int .i64)⟩,uF,uF,uF,uF,uF,uF,uF,uF,uF,uF,uF,uF,uF,uF,uF,uF,uF,uF,uF,uF,uF,uF,uF,uF,uF,uF,uF,uF,uF,uF,uF,uF,uF,uF,uF,uF,uF,uF,uF,uF,uF,uF,uF,uF,uF,uF,uF,uF,uF,uF,uF,uF,uF,uF],[(.dat false 54)],[⟨0,0,[uT,⟨false,(.int .i64)⟩,⟨true,(.ptr 0 0)⟩,uT,⟨true,(.lit (.bool false))⟩,uT,uT,uT,uT,uT,uT,uT,uT,uT,uT,uT,uT,uT,uT,uT,uT,uT,uT,uT,uT,uT,uT,uT,uT,uT,uT,uT,uT,uT,uT,uT,uT,uT,uT,uT,uT,uT,uT,uT,uT,uT,uT,uT,uT,uT,uT,uT,uT,uT,uT,uT,uT,uT,uT,uT],[(.dat false 54)]⟩,⟨1,0,[uT,⟨false,(.int .i64)⟩,uT,uT,⟨true,(.lit (.bool false))⟩,uT,uT,uT,uT,uT,uT,uT,uT,uT,uT,uT,uT,uT,uT,uT,uT,uT,uT,uT,uT,uT,uT,uT,uT,uT,uT,uT,uT,uT,uT,uT,uT,uT,uT,uT,uT,uT,uT,uT,uT,uT,uT,uT,uT,uT,uT,uT,uT,uT,uT,uT,uT,uT,uT,uT],[(.dat false 54)]⟩]⟩
noncomputable def st71_4 (p s:List D):Option (Sum (List D) (List D)):=stepQX env tb19 60 12 71 (loopC 71 4) S71_4 p s
theorem st71_4_eq (pn0:Int) (pd1:D) (sn0:Int):st71_4 [(D.int pn0),pd1] [(D.int sn0)] =
 bif (qcmp BinOp.lss sn0 (qlen (qfld pd1 1)))then
 bif (qinb (qfld pd1 1) sn0)then
 bif (qsome (q109 [(qget (qfld pd1 1) sn0)]))then
 bif (qnot (qeqB (qbool (qnth (q109 [(qget (qfld pd1 1) sn0)]) 0)) (qcmp BinOp.eql sn0 (qbin BinOp.sub IntKind.i64 (qlen (qfld pd1 1)) 1))))then
 some (Sum.inr [(D.int 1)])
 else
 some (Sum.inl [(D.int (qbin BinOp.add IntKind.i64 sn0 1))])
 else
 none
 else
 none
 else
 some (Sum.inr [(D.int 0)]):=by
 have h:st71_4 [(D.int pn0),pd1] [(D.int sn0)] =
  bif (qcmp BinOp.lss sn0 (qlen (qfld pd1 1)))then
  bif (qinb (qfld pd1 1) sn0)then
  bif (qsome (q109 [(qget (qfld pd1 1) sn0)]))then
  bif (qnot (qeqB (qbool (qnth (q109 [(qget (qfld pd1 1) sn0)]) 0)) (qcmp BinOp.eql sn0 (qbin BinOp.sub IntKind.i64 (qlen (qfld pd1 1)) 1))))then
  bif (qeqD (D.int pn0) (D.int pn0))then
  bif (qeqD pd1 pd1)then
  some (Sum.inr [(D.int 1)])
  else
  none
  else
  none
  else
  bif (qeqD (D.int pn0) (D.int pn0))then
  bif (qeqD pd1 pd1)then
  some (Sum.inl [(D.int (qbin BinOp.add IntKind.i64 sn0 1))])
  else
  none
  else
  none
  else
  none
  else
  none
  else
  bif (qeqD (D.int pn0) (D.int pn0))then
  bif (qeqD pd1 pd1)then
  some (Sum.inr [(D.int 0)])
  else
  none
  else
  none:=by kernel_rfl
 rw[h];simp only[qeqD_self,qeqI_self,qeq_len,show qcmp BinOp.eql 0 (qlen (D.list []))=true from qeq_len [],show∀a,qcmp BinOp.eql 1 (qlen (D.list [a]))=true from fun a=>qeq_len [a],show∀a b,qcmp BinOp.eql 2 (qlen (D.list [a,b]))=true from fun a b=>qeq_len [a,b],show∀a b c,qcmp BinOp.eql 3 (qlen (D.list [a,b,c]))=true from fun a b c=>qeq_len [a,b,c],show∀a b c d,qcmp BinOp.eql 4 (qlen (D.list [a,b,c,d]))=true from fun a b c d=>qeq_len [a,b,c,d],cond_true]
noncomputable def l71_4:List D→List D→Option (List D):=veil fun p s=>loW (st71_4 p) s
theorem l71_4_eq:l71_4=fun p s=>loW (st71_4 p) s:=veil_eq _
noncomputable def tbl71_4:Tb:=Tb.addL tb19 71 4 S71_4.n0 (mkLp S71_4 (l71_4))
theorem ok_tbl71_4:TbOk env (tbl71_4):=addLoopQ ok_tb19 71 4 (by kernel_rfl) _ (l71_4_eq)
def S71_10:LoopS:=⟨0,[uF,⟨false,(.int .i64)⟩,uF,uF,⟨false,(.lit (.bool false))⟩,uF,⟨false,(.rows 3)⟩,⟨true,(.int .i64)⟩,uF,uF,uF,uF,uF,uF,uF,uF,uF,uF,uF,uF,uF,uF,uF,uF,uF,uF,uF,uF,uF,uF,uF,uF,uF,uF,uF,uF,uF,uF,uF,uF,uF,uF,uF,uF,uF,uF,uF,uF,uF,uF,uF,uF,uF,uF,uF,uF,uF,uF,uF,uF],[],[⟨0,2,[uT,⟨false,(.int .i64)⟩,uT,uT,⟨true,(.lit (.bool false))⟩,uT,⟨false,(.rows 3)⟩,uT,uT,uT,uT,uT,uT,uT,uT,uT,uT,uT,uT,uT,uT,uT,uT,uT,uT,uT,uT,uT,uT,uT,uT,uT,uT,uT,uT,uT,uT,uT,uT,uT,uT,uT,uT,uT,uT,uT,uT,uT,uT,uT,uT,uT,uT,uT,uT,uT,uT,uT,uT,uT],[]⟩,⟨1,0,[uT,⟨false,(.int .i64)⟩,uT,uT,⟨true,(.lit (.bool false))⟩,uT,⟨false,(.rows 3)⟩,uT,uT,uT,uT,uT,uT,uT,uT,uT,uT,uT,uT,uT,uT,uT,uT,uT,uT,uT,uT,uT,uT,uT,uT,uT,uT,uT,uT,uT,uT,uT,uT,uT,uT,uT,uT,uT,uT,uT,uT,uT,uT,uT,uT,uT,uT,uT,uT,uT,uT,uT,uT,uT],[]⟩]⟩
noncomputable def st71_10 (p s:List D):Option (Sum (List D) (List D)):=stepQX env tbl71_4 60 12 71 (loopC 71 10) S71_10 p s
theorem st71_10_eq (pn0:Int) (pd1:D) (sn0:Int):st71_10 [(D.int pn0),pd1] [(D.int sn0)] =
 bif (qcmp BinOp.lss sn0 (qlen pd1))then
 bif (qinb pd1 sn0)then
 bif (qiteB (qcmp BinOp.lss (qint (qget pd1 sn0)) 0) Bool.true (qinb pd1 sn0))then
 bif (qiteB (qcmp BinOp.lss (qint (qget pd1 sn0)) 0) Bool.true (qcmp BinOp.geq (qint (qget pd1 sn0)) pn0))then
 some (Sum.inr [(D.int 1)])
 else
 some (Sum.inl [(D.int (qbin BinOp.add IntKind.i64 sn0 1))])
 else
 none
 else
 none
 else
 some (Sum.inr [(D.int 0)]):=by
 have h:st71_10 [(D.int pn0),pd1] [(D.int sn0)] =
  bif (qcmp BinOp.lss sn0 (qlen pd1))then
  bif (qinb pd1 sn0)then
  bif (qiteB (qcmp BinOp.lss (qint (qget pd1 sn0)) 0) Bool.true (qinb pd1 sn0))then
  bif (qiteB (qcmp BinOp.lss (qint (qget pd1 sn0)) 0) Bool.true (qcmp BinOp.geq (qint (qget pd1 sn0)) pn0))then
  bif (qeqD (D.int pn0) (D.int pn0))then
  bif (qeqD pd1 pd1)then
  some (Sum.inr [(D.int 1)])
  else
  none
  else
  none
  else
  bif (qeqD (D.int pn0) (D.int pn0))then
  bif (qeqD pd1 pd1)then
  some (Sum.inl [(D.int (qbin BinOp.add IntKind.i64 sn0 1))])
  else
  none
  else
  none
  else
  none
  else
  none
  else
  bif (qeqD (D.int pn0) (D.int pn0))then
  bif (qeqD pd1 pd1)then
  some (Sum.inr [(D.int 0)])
  else
  none
  else
  none:=by kernel_rfl
 rw[h];simp only[qeqD_self,qeqI_self,qeq_len,show qcmp BinOp.eql 0 (qlen (D.list []))=true from qeq_len [],show∀a,qcmp BinOp.eql 1 (qlen (D.list [a]))=true from fun a=>qeq_len [a],show∀a b,qcmp BinOp.eql 2 (qlen (D.list [a,b]))=true from fun a b=>qeq_len [a,b],show∀a b c,qcmp BinOp.eql 3 (qlen (D.list [a,b,c]))=true from fun a b c=>qeq_len [a,b,c],show∀a b c d,qcmp BinOp.eql 4 (qlen (D.list [a,b,c,d]))=true from fun a b c d=>qeq_len [a,b,c,d],cond_true]
noncomputable def l71_10:List D→List D→Option (List D):=veil fun p s=>loW (st71_10 p) s
theorem l71_10_eq:l71_10=fun p s=>loW (st71_10 p) s:=veil_eq _
noncomputable def tbl71_10:Tb:=Tb.addL tbl71_4 71 10 S71_10.n0 (mkLp S71_10 (l71_10))
theorem ok_tbl71_10:TbOk env (tbl71_10):=addLoopQ ok_tbl71_4 71 10 (by kernel_rfl) _ (l71_10_eq)
def S71:FunS:=⟨[⟨true,(.dat 54)⟩,⟨true,(.int .i64)⟩],[],[⟨true, .bool⟩],[]⟩
noncomputable def F71:List D→Option (List D):=liftX env tbl71_10 60 12 71 S71
theorem F71_eq (sd0:D) (sn1:Int):F71 [sd0,(D.int sn1)] =
 bif (qcmp BinOp.eql (qlen (qfld sd0 1)) 0)then
 some [(D.bool Bool.false)]
 else
 bif (qsome (l71_4 [(D.int sn1),sd0] [(D.int 0)]))then
 bif (qcmp BinOp.eql (qint (qnth (l71_4 [(D.int sn1),sd0] [(D.int 0)]) 0)) 0)then
 bif (qinb (qfld sd0 1) (qbin BinOp.sub IntKind.i64 (qlen (qfld sd0 1)) 1))then
 bif (qsome (q89 [(qget (qfld sd0 1) (qbin BinOp.sub IntKind.i64 (qlen (qfld sd0 1)) 1))]))then
 bif (qsome (l71_10 [(D.int sn1),(qnth (q89 [(qget (qfld sd0 1) (qbin BinOp.sub IntKind.i64 (qlen (qfld sd0 1)) 1))]) 0)] [(D.int 0)]))then
 bif (qcmp BinOp.eql (qint (qnth (l71_10 [(D.int sn1),(qnth (q89 [(qget (qfld sd0 1) (qbin BinOp.sub IntKind.i64 (qlen (qfld sd0 1)) 1))]) 0)] [(D.int 0)]) 0)) 0)then
 some [(D.bool Bool.true)]
 else
 some [(D.bool Bool.false)]
 else
 none
 else
 none
 else
 none
 else
 some [(D.bool Bool.false)]
 else
 none:=by kernel_rfl
noncomputable def q71:List D→Option (List D):=veil (F71)
theorem q71_eq:q71=F71:=veil_eq _
noncomputable def tb71:Tb:=Tb.addF tbl71_10 71 S71 (q71)
theorem ok_tb71:TbOk env (tb71):=addFunF ok_tbl71_10 71 (by kernel_rfl) _ (q71_eq)
def S35_5:LoopS:=⟨0,[uF,⟨false,(.ptr 0 0)⟩,⟨false,(.lit (.int .i64 0))⟩,⟨true,(.int .i64)⟩,⟨true,(.int .i64)⟩,uF,uF,uF,uF,uF,uF,uF,uF,uF,uF,uF,uF,uF,uF,uF,uF,uF,uF,uF,uF,uF,uF,uF,uF,uF,uF,uF,uF,uF,uF,uF,uF,uF,uF,uF,uF,uF,uF,uF,uF,uF,uF,uF,uF,uF,uF,uF,uF,uF,uF,uF,uF,uF,uF,uF,uF,uF,uF,uF,uF,uF,uF,uF,uF,uF,uF,uF,uF,uF,uF,uF,uF,uF,uF,uF,uF,uF,uF],[(.dat false 25)],[⟨0,0,[uT,⟨true,(.ptr 0 0)⟩,⟨true,(.lit (.int .i64 0))⟩,⟨true,(.int .i64)⟩,uT,uT,uT,uT,uT,uT,uT,uT,uT,uT,uT,uT,uT,uT,uT,uT,uT,uT,uT,uT,uT,uT,uT,uT,uT,uT,uT,uT,uT,uT,uT,uT,uT,uT,uT,uT,uT,uT,uT,uT,uT,uT,uT,uT,uT,uT,uT,uT,uT,uT,uT,uT,uT,uT,uT,uT,uT,uT,uT,uT,uT,uT,uT,uT,uT,uT,uT,uT,uT,uT,uT,uT,uT,uT,uT,uT,uT,uT,uT],[(.dat false 25)]⟩]⟩
noncomputable def st35_5 (p s:List D):Option (Sum (List D) (List D)):=stepQX env tb71 60 12 35 (loopC 35 5) S35_5 p s
theorem st35_5_eq (pd0:D) (sn0:Int) (sn1:Int):st35_5 [pd0] [(D.int sn0),(D.int sn1)] =
 bif (qcmp BinOp.lss sn1 (qlen (qfld pd0 1)))then
 bif (qinb (qfld pd0 1) sn1)then
 some (Sum.inl [(D.int (qbin BinOp.add IntKind.i64 sn0 (qlen (qfld (qget (qfld pd0 1) sn1) 1)))),(D.int (qbin BinOp.add IntKind.i64 sn1 1))])
 else
 none
 else
 some (Sum.inr [(D.int 0),(D.int sn0)]):=by
 have h:st35_5 [pd0] [(D.int sn0),(D.int sn1)] =
  bif (qcmp BinOp.lss sn1 (qlen (qfld pd0 1)))then
  bif (qinb (qfld pd0 1) sn1)then
  bif (qeqD pd0 pd0)then
  some (Sum.inl [(D.int (qbin BinOp.add IntKind.i64 sn0 (qlen (qfld (qget (qfld pd0 1) sn1) 1)))),(D.int (qbin BinOp.add IntKind.i64 sn1 1))])
  else
  none
  else
  none
  else
  bif (qeqD pd0 pd0)then
  some (Sum.inr [(D.int 0),(D.int sn0)])
  else
  none:=by kernel_rfl
 rw[h];simp only[qeqD_self,qeqI_self,qeq_len,show qcmp BinOp.eql 0 (qlen (D.list []))=true from qeq_len [],show∀a,qcmp BinOp.eql 1 (qlen (D.list [a]))=true from fun a=>qeq_len [a],show∀a b,qcmp BinOp.eql 2 (qlen (D.list [a,b]))=true from fun a b=>qeq_len [a,b],show∀a b c,qcmp BinOp.eql 3 (qlen (D.list [a,b,c]))=true from fun a b c=>qeq_len [a,b,c],show∀a b c d,qcmp BinOp.eql 4 (qlen (D.list [a,b,c,d]))=true from fun a b c d=>qeq_len [a,b,c,d],cond_true]
noncomputable def l35_5:List D→List D→Option (List D):=veil fun p s=>loW (st35_5 p) s
theorem l35_5_eq:l35_5=fun p s=>loW (st35_5 p) s:=veil_eq _
noncomputable def tbl35_5:Tb:=Tb.addL tb71 35 5 S35_5.n0 (mkLp S35_5 (l35_5))
theorem ok_tbl35_5:TbOk env (tbl35_5):=addLoopQ ok_tb71 35 5 (by kernel_rfl) _ (l35_5_eq)
def S35_13:LoopS:=⟨0,[uF,⟨false,(.ptr 0 0)⟩,⟨false,(.lit (.int .i64 0))⟩,uF,uF,⟨true,(.int .i64)⟩,uF,uF,uF,uF,uF,uF,uF,uF,uF,uF,uF,uF,uF,uF,uF,uF,uF,uF,uF,uF,uF,uF,uF,uF,uF,uF,uF,uF,uF,uF,uF,uF,uF,uF,uF,uF,uF,uF,uF,uF,uF,uF,uF,uF,uF,uF,uF,uF,uF,uF,uF,uF,uF,uF,uF,uF,uF,uF,uF,uF,uF,uF,uF,uF,uF,uF,uF,uF,uF,uF,uF,uF,uF,uF,uF,uF,uF],[(.dat false 25)],[⟨0,2,[uT,⟨true,(.ptr 0 0)⟩,⟨true,(.lit (.int .i64 0))⟩,uT,uT,uT,uT,uT,uT,uT,uT,uT,uT,uT,uT,uT,uT,uT,uT,uT,uT,uT,uT,uT,uT,uT,uT,uT,uT,uT,uT,uT,uT,uT,uT,uT,uT,uT,uT,uT,uT,uT,uT,uT,uT,uT,uT,uT,uT,uT,uT,uT,uT,uT,uT,uT,uT,uT,uT,uT,uT,uT,uT,uT,uT,uT,uT,uT,uT,uT,uT,uT,uT,uT,uT,uT,uT,uT,uT,uT,uT,uT,uT],[(.dat false 25)]⟩,⟨1,0,[uT,uT,⟨true,(.lit (.int .i64 18))⟩,uT,uT,uT,uT,uT,uT,uT,uT,uT,uT,uT,uT,uT,uT,uT,uT,uT,uT,uT,uT,uT,uT,uT,uT,uT,uT,uT,uT,uT,uT,uT,uT,uT,uT,uT,uT,uT,uT,uT,uT,uT,uT,uT,uT,uT,uT,uT,uT,uT,uT,uT,uT,uT,uT,uT,uT,uT,uT,uT,uT,uT,uT,uT,uT,uT,uT,uT,uT,uT,uT,uT,uT,uT,uT,uT,uT,uT,uT,uT,uT],[(.dat false 25)]⟩]⟩
noncomputable def st35_13 (p s:List D):Option (Sum (List D) (List D)):=stepQX env tbl35_5 60 12 35 (loopC 35 13) S35_13 p s
theorem st35_13_eq (pd0:D) (sn0:Int):st35_13 [pd0] [(D.int sn0)] =
 bif (qcmp BinOp.lss sn0 (qlen (qfld pd0 1)))then
 bif (qinb (qfld pd0 1) sn0)then
 bif (qsome (q71 [(qget (qfld pd0 1) sn0),(D.int (qlen (qfld pd0 1)))]))then
 bif (qnot (qbool (qnth (q71 [(qget (qfld pd0 1) sn0),(D.int (qlen (qfld pd0 1)))]) 0)))then
 some (Sum.inr [(D.int 1)])
 else
 some (Sum.inl [(D.int (qbin BinOp.add IntKind.i64 sn0 1))])
 else
 none
 else
 none
 else
 some (Sum.inr [(D.int 0)]):=by
 have h:st35_13 [pd0] [(D.int sn0)] =
  bif (qcmp BinOp.lss sn0 (qlen (qfld pd0 1)))then
  bif (qinb (qfld pd0 1) sn0)then
  bif (qsome (q71 [(qget (qfld pd0 1) sn0),(D.int (qlen (qfld pd0 1)))]))then
  bif (qnot (qbool (qnth (q71 [(qget (qfld pd0 1) sn0),(D.int (qlen (qfld pd0 1)))]) 0)))then
  bif (qeqD pd0 pd0)then
  some (Sum.inr [(D.int 1)])
  else
  none
  else
  bif (qeqD pd0 pd0)then
  some (Sum.inl [(D.int (qbin BinOp.add IntKind.i64 sn0 1))])
  else
  none
  else
  none
  else
  none
  else
  bif (qeqD pd0 pd0)then
  some (Sum.inr [(D.int 0)])
  else
  none:=by kernel_rfl
 rw[h];simp only[qeqD_self,qeqI_self,qeq_len,show qcmp BinOp.eql 0 (qlen (D.list []))=true from qeq_len [],show∀a,qcmp BinOp.eql 1 (qlen (D.list [a]))=true from fun a=>qeq_len [a],show∀a b,qcmp BinOp.eql 2 (qlen (D.list [a,b]))=true from fun a b=>qeq_len [a,b],show∀a b c,qcmp BinOp.eql 3 (qlen (D.list [a,b,c]))=true from fun a b c=>qeq_len [a,b,c],show∀a b c d,qcmp BinOp.eql 4 (qlen (D.list [a,b,c,d]))=true from fun a b c d=>qeq_len [a,b,c,d],cond_true]
noncomputable def l35_13:List D→List D→Option (List D):=veil fun p s=>loW (st35_13 p) s
theorem l35_13_eq:l35_13=fun p s=>loW (st35_13 p) s:=veil_eq _
noncomputable def tbl35_13:Tb:=Tb.addL tbl35_5 35 13 S35_13.n0 (mkLp S35_13 (l35_13))
theorem ok_tbl35_13:TbOk env (tbl35_13):=addLoopQ ok_tbl35_5 35 13 (by kernel_rfl) _ (l35_13_eq)
def S35_21:LoopS:=⟨0,[uF,⟨false,(.ptr 0 0)⟩,⟨false,(.lit (.int .i64 0))⟩,uF,uF,uF,⟨false,(.int .i64)⟩,⟨true,(.int .i64)⟩,uF,uF,uF,uF,uF,uF,uF,uF,uF,uF,uF,uF,uF,uF,uF,uF,uF,uF,uF,uF,uF,uF,uF,uF,uF,uF,uF,uF,uF,uF,uF,uF,uF,uF,uF,uF,uF,uF,uF,uF,uF,uF,uF,uF,uF,uF,uF,uF,uF,uF,uF,uF,uF,uF,uF,uF,uF,uF,uF,uF,uF,uF,uF,uF,uF,uF,uF,uF,uF,uF,uF,uF,uF,uF,uF],[(.dat false 25)],[⟨0,6,[uT,⟨true,(.ptr 0 0)⟩,⟨true,(.lit (.int .i64 0))⟩,uT,uT,uT,⟨false,(.int .i64)⟩,uT,uT,uT,uT,uT,uT,uT,uT,uT,uT,uT,uT,uT,uT,uT,uT,uT,uT,uT,uT,uT,uT,uT,uT,uT,uT,uT,uT,uT,uT,uT,uT,uT,uT,uT,uT,uT,uT,uT,uT,uT,uT,uT,uT,uT,uT,uT,uT,uT,uT,uT,uT,uT,uT,uT,uT,uT,uT,uT,uT,uT,uT,uT,uT,uT,uT,uT,uT,uT,uT,uT,uT,uT,uT,uT,uT],[(.dat false 25)]⟩,⟨1,0,[uT,uT,⟨true,(.int .i64)⟩,uT,uT,uT,⟨false,(.int .i64)⟩,uT,uT,uT,uT,uT,uT,uT,uT,uT,uT,uT,uT,uT,uT,uT,uT,uT,uT,uT,uT,uT,uT,uT,uT,uT,uT,uT,uT,uT,uT,uT,uT,uT,uT,uT,uT,uT,uT,uT,uT,uT,uT,uT,uT,uT,uT,uT,uT,uT,uT,uT,uT,uT,uT,uT,uT,uT,uT,uT,uT,uT,uT,uT,uT,uT,uT,uT,uT,uT,uT,uT,uT,uT,uT,uT,uT],[(.dat false 25)]⟩]⟩
noncomputable def st35_21 (p s:List D):Option (Sum (List D) (List D)):=stepQX env tbl35_13 60 12 35 (loopC 35 21) S35_21 p s
theorem st35_21_eq (pn0:Int) (pd1:D) (sn0:Int):st35_21 [(D.int pn0),pd1] [(D.int sn0)] =
 bif (qinb (qfld pd1 1) pn0)then
 bif (qcmp BinOp.lss sn0 (qlen (qfld (qget (qfld pd1 1) pn0) 1)))then
 bif (qinb (qfld pd1 1) pn0)then
 bif (qinb (qfld (qget (qfld pd1 1) pn0) 1) sn0)then
 bif (qsome (q72 [(qget (qfld (qget (qfld pd1 1) pn0) 1) sn0)]))then
 bif (qcmp BinOp.neq (qint (qnth (q72 [(qget (qfld (qget (qfld pd1 1) pn0) 1) sn0)]) 0)) 0)then
 some (Sum.inr [(D.int 1),(D.int (qint (qnth (q72 [(qget (qfld (qget (qfld pd1 1) pn0) 1) sn0)]) 0)))])
 else
 some (Sum.inl [(D.int (qbin BinOp.add IntKind.i64 sn0 1))])
 else
 none
 else
 none
 else
 none
 else
 some (Sum.inr [(D.int 0)])
 else
 none:=by
 have h:st35_21 [(D.int pn0),pd1] [(D.int sn0)] =
  bif (qinb (qfld pd1 1) pn0)then
  bif (qcmp BinOp.lss sn0 (qlen (qfld (qget (qfld pd1 1) pn0) 1)))then
  bif (qinb (qfld pd1 1) pn0)then
  bif (qinb (qfld (qget (qfld pd1 1) pn0) 1) sn0)then
  bif (qsome (q72 [(qget (qfld (qget (qfld pd1 1) pn0) 1) sn0)]))then
  bif (qcmp BinOp.neq (qint (qnth (q72 [(qget (qfld (qget (qfld pd1 1) pn0) 1) sn0)]) 0)) 0)then
  bif (qeqD (D.int pn0) (D.int pn0))then
  bif (qeqD pd1 pd1)then
  some (Sum.inr [(D.int 1),(D.int (qint (qnth (q72 [(qget (qfld (qget (qfld pd1 1) pn0) 1) sn0)]) 0)))])
  else
  none
  else
  none
  else
  bif (qeqD (D.int pn0) (D.int pn0))then
  bif (qeqD pd1 pd1)then
  some (Sum.inl [(D.int (qbin BinOp.add IntKind.i64 sn0 1))])
  else
  none
  else
  none
  else
  none
  else
  none
  else
  none
  else
  bif (qeqD (D.int pn0) (D.int pn0))then
  bif (qeqD pd1 pd1)then
  some (Sum.inr [(D.int 0)])
  else
  none
  else
  none
  else
  none:=by kernel_rfl
 rw[h];simp only[qeqD_self,qeqI_self,qeq_len,show qcmp BinOp.eql 0 (qlen (D.list []))=true from qeq_len [],show∀a,qcmp BinOp.eql 1 (qlen (D.list [a]))=true from fun a=>qeq_len [a],show∀a b,qcmp BinOp.eql 2 (qlen (D.list [a,b]))=true from fun a b=>qeq_len [a,b],show∀a b c,qcmp BinOp.eql 3 (qlen (D.list [a,b,c]))=true from fun a b c=>qeq_len [a,b,c],show∀a b c d,qcmp BinOp.eql 4 (qlen (D.list [a,b,c,d]))=true from fun a b c d=>qeq_len [a,b,c,d],cond_true]
noncomputable def l35_21:List D→List D→Option (List D):=veil fun p s=>loW (st35_21 p) s
theorem l35_21_eq:l35_21=fun p s=>loW (st35_21 p) s:=veil_eq _
noncomputable def tbl35_21:Tb:=Tb.addL tbl35_13 35 21 S35_21.n0 (mkLp S35_21 (l35_21))
theorem ok_tbl35_21:TbOk env (tbl35_21):=addLoopQ ok_tbl35_13 35 21 (by kernel_rfl) _ (l35_21_eq)
def S35_18:LoopS:=⟨0,[uF,⟨false,(.ptr 0 0)⟩,⟨false,(.lit (.int .i64 0))⟩,uF,uF,uF,⟨true,(.int .i64)⟩,uF,uF,uF,uF,uF,uF,uF,uF,uF,uF,uF,uF,uF,uF,uF,uF,uF,uF,uF,uF,uF,uF,uF,uF,uF,uF,uF,uF,uF,uF,uF,uF,uF,uF,uF,uF,uF,uF,uF,uF,uF,uF,uF,uF,uF,uF,uF,uF,uF,uF,uF,uF,uF,uF,uF,uF,uF,uF,uF,uF,uF,uF,uF,uF,uF,uF,uF,uF,uF,uF,uF,uF,uF,uF,uF,uF],[(.dat false 25)],[⟨0,4,[uT,uT,⟨true,(.lit (.int .i64 0))⟩,uT,uT,uT,uT,uT,uT,uT,uT,uT,uT,uT,uT,uT,uT,uT,uT,uT,uT,uT,uT,uT,uT,uT,uT,uT,uT,uT,uT,uT,uT,uT,uT,uT,uT,uT,uT,uT,uT,uT,uT,uT,uT,uT,uT,uT,uT,uT,uT,uT,uT,uT,uT,uT,uT,uT,uT,uT,uT,uT,uT,uT,uT,uT,uT,uT,uT,uT,uT,uT,uT,uT,uT,uT,uT,uT,uT,uT,uT,uT,uT],[(.dat false 25)]⟩,⟨1,0,[uT,uT,⟨true,(.int .i64)⟩,uT,uT,uT,uT,uT,uT,uT,uT,uT,uT,uT,uT,uT,uT,uT,uT,uT,uT,uT,uT,uT,uT,uT,uT,uT,uT,uT,uT,uT,uT,uT,uT,uT,uT,uT,uT,uT,uT,uT,uT,uT,uT,uT,uT,uT,uT,uT,uT,uT,uT,uT,uT,uT,uT,uT,uT,uT,uT,uT,uT,uT,uT,uT,uT,uT,uT,uT,uT,uT,uT,uT,uT,uT,uT,uT,uT,uT,uT,uT,uT],[(.dat false 25)]⟩]⟩
noncomputable def st35_18 (p s:List D):Option (Sum (List D) (List D)):=stepQX env tbl35_21 60 12 35 (loopC 35 18) S35_18 p s
theorem st35_18_eq (pd0:D) (sn0:Int):st35_18 [pd0] [(D.int sn0)] =
 bif (qcmp BinOp.lss sn0 (qlen (qfld pd0 1)))then
 bif (qsome (l35_21 [(D.int sn0),pd0] [(D.int 0)]))then
 bif (qcmp BinOp.eql (qint (qnth (l35_21 [(D.int sn0),pd0] [(D.int 0)]) 0)) 0)then
 some (Sum.inl [(D.int (qbin BinOp.add IntKind.i64 sn0 1))])
 else
 some (Sum.inr [(D.int 1),(D.int (qint (qnth (l35_21 [(D.int sn0),pd0] [(D.int 0)]) 1)))])
 else
 none
 else
 some (Sum.inr [(D.int 0)]):=by
 have h:st35_18 [pd0] [(D.int sn0)] =
  bif (qcmp BinOp.lss sn0 (qlen (qfld pd0 1)))then
  bif (qsome (l35_21 [(D.int sn0),pd0] [(D.int 0)]))then
  bif (qcmp BinOp.eql (qint (qnth (l35_21 [(D.int sn0),pd0] [(D.int 0)]) 0)) 0)then
  bif (qeqD pd0 pd0)then
  some (Sum.inl [(D.int (qbin BinOp.add IntKind.i64 sn0 1))])
  else
  none
  else
  bif (qeqD pd0 pd0)then
  some (Sum.inr [(D.int 1),(D.int (qint (qnth (l35_21 [(D.int sn0),pd0] [(D.int 0)]) 1)))])
  else
  none
  else
  none
  else
  bif (qeqD pd0 pd0)then
  some (Sum.inr [(D.int 0)])
  else
  none:=by kernel_rfl
 rw[h];simp only[qeqD_self,qeqI_self,qeq_len,show qcmp BinOp.eql 0 (qlen (D.list []))=true from qeq_len [],show∀a,qcmp BinOp.eql 1 (qlen (D.list [a]))=true from fun a=>qeq_len [a],show∀a b,qcmp BinOp.eql 2 (qlen (D.list [a,b]))=true from fun a b=>qeq_len [a,b],show∀a b c,qcmp BinOp.eql 3 (qlen (D.list [a,b,c]))=true from fun a b c=>qeq_len [a,b,c],show∀a b c d,qcmp BinOp.eql 4 (qlen (D.list [a,b,c,d]))=true from fun a b c d=>qeq_len [a,b,c,d],cond_true]
noncomputable def l35_18:List D→List D→Option (List D):=veil fun p s=>loW (st35_18 p) s
theorem l35_18_eq:l35_18=fun p s=>loW (st35_18 p) s:=veil_eq _
noncomputable def tbl35_18:Tb:=Tb.addL tbl35_21 35 18 S35_18.n0 (mkLp S35_18 (l35_18))
theorem ok_tbl35_18:TbOk env (tbl35_18):=addLoopQ ok_tbl35_21 35 18 (by kernel_rfl) _ (l35_18_eq)
def S35:FunS:=⟨[⟨true,(.dat 25)⟩],[],[⟨true,(.int .i64)⟩],[]⟩
noncomputable def F35:List D→Option (List D):=liftX env tbl35_18 60 12 35 S35
theorem F35_eq (sd0:D):F35 [sd0] =
 bif (qcmp BinOp.gtr (qlen (qfld sd0 1)) 256)then
 some [(D.int 6)]
 else
 bif (qsome (l35_5 [sd0] [(D.int 0),(D.int 0)]))then
 bif (qcmp BinOp.gtr (qint (qnth (l35_5 [sd0] [(D.int 0),(D.int 0)]) 1)) 1024)then
 some [(D.int 6)]
 else
 bif (qcmp BinOp.eql (qlen (qfld sd0 1)) 0)then
 some [(D.int 18)]
 else
 bif (qsome (l35_13 [sd0] [(D.int 0)]))then
 bif (qcmp BinOp.eql (qint (qnth (l35_13 [sd0] [(D.int 0)]) 0)) 0)then
 bif (qsome (l35_18 [sd0] [(D.int 0)]))then
 bif (qcmp BinOp.eql (qint (qnth (l35_18 [sd0] [(D.int 0)]) 0)) 0)then
 some [(D.int 0)]
 else
 some [(D.int (qint (qnth (l35_18 [sd0] [(D.int 0)]) 1)))]
 else
 none
 else
 some [(D.int 18)]
 else
 none
 else
 none:=by kernel_rfl
noncomputable def q35:List D→Option (List D):=veil (F35)
theorem q35_eq:q35=F35:=veil_eq _
noncomputable def tb35:Tb:=Tb.addF tbl35_18 35 S35 (q35)
theorem ok_tb35:TbOk env (tb35):=addFunF ok_tbl35_18 35 (by kernel_rfl) _ (q35_eq)
end Go.Proofs.YtfdedgmlafelaaaGreatDoor
open Go Go.AM
namespace Go.Proofs.YtfdedgmlafelaaaGreatDoor
set_option maxRecDepth 100000
set_option linter.unusedSimpArgs false
set_option linter.unusedVariables false
def S54:FunS:=⟨[⟨true,(.dat 61)⟩,⟨true,(.int .i64)⟩,⟨true,(.int .i64)⟩],[],[⟨true,(.int .i64)⟩],[]⟩
noncomputable def tbR54 (Q:List D→Option (List D)):Tb:=Tb.addF tb35 54 S54 Q
theorem ok_tbR54 (Q:List D→Option (List D)) (hQ:SoundF env.P 54 S54 Q):TbOk env (tbR54 Q):=TbOk.addF ok_tb35 (by kernel_rfl) hQ
def S54_5:LoopS:=⟨0,[uF,⟨false,(.int .i64)⟩,uF,⟨false,(.ptr 0 0)⟩,uF,uF,⟨false,(.lit (.int .i64 0))⟩,⟨true,(.int .i64)⟩,⟨true,(.int .i64)⟩,uF,uF,uF,uF,uF,uF,uF,uF,uF,uF,uF,uF,uF,uF,uF,uF,uF,uF,uF,uF,uF,uF,uF,uF,uF,uF,uF,uF,uF,uF,uF,uF,uF,uF,uF],[(.dat false 61)],[⟨0,0,[uT,⟨false,(.int .i64)⟩,uT,uT,uT,uT,⟨true,(.lit (.int .i64 0))⟩,⟨true,(.int .i64)⟩,uT,uT,uT,uT,uT,uT,uT,uT,uT,uT,uT,uT,uT,uT,uT,uT,uT,uT,uT,uT,uT,uT,uT,uT,uT,uT,uT,uT,uT,uT,uT,uT,uT,uT,uT,uT],[(.dat false 61)]⟩]⟩
noncomputable def st54_5 (Q:List D→Option (List D)) (p s:List D):Option (Sum (List D) (List D)):=stepQX env (tbR54 Q) 60 12 54 (loopC 54 5) S54_5 p s
theorem st54_5_eq (Q:List D→Option (List D)) (pn0:Int) (pd1:D) (sn0:Int) (sn1:Int):st54_5 Q [(D.int pn0),pd1] [(D.int sn0),(D.int sn1)] =
 bif (qiteB (qcmp BinOp.lss sn1 (qlen (qfld pd1 4))) (qcmp BinOp.geq sn0 0) Bool.false)then
 bif (qinb (qfld pd1 4) sn1)then
 bif (qsome (Q [(qget (qfld pd1 4) sn1),(D.int (qbin BinOp.sub IntKind.i64 pn0 1)),(D.int sn0)]))then
 some (Sum.inl [(D.int (qint (qnth (Q [(qget (qfld pd1 4) sn1),(D.int (qbin BinOp.sub IntKind.i64 pn0 1)),(D.int sn0)]) 0))),(D.int (qbin BinOp.add IntKind.i64 sn1 1))])
 else
 none
 else
 none
 else
 some (Sum.inr [(D.int 0),(D.int sn0)]):=by
 have h:st54_5 Q [(D.int pn0),pd1] [(D.int sn0),(D.int sn1)] =
  bif (qiteB (qcmp BinOp.lss sn1 (qlen (qfld pd1 4))) (qcmp BinOp.geq sn0 0) Bool.false)then
  bif (qinb (qfld pd1 4) sn1)then
  bif (qsome (Q [(qget (qfld pd1 4) sn1),(D.int (qbin BinOp.sub IntKind.i64 pn0 1)),(D.int sn0)]))then
  bif (qeqD (D.int pn0) (D.int pn0))then
  bif (qeqD pd1 pd1)then
  some (Sum.inl [(D.int (qint (qnth (Q [(qget (qfld pd1 4) sn1),(D.int (qbin BinOp.sub IntKind.i64 pn0 1)),(D.int sn0)]) 0))),(D.int (qbin BinOp.add IntKind.i64 sn1 1))])
  else
  none
  else
  none
  else
  none
  else
  none
  else
  bif (qeqD (D.int pn0) (D.int pn0))then
  bif (qeqD pd1 pd1)then
  some (Sum.inr [(D.int 0),(D.int sn0)])
  else
  none
  else
  none:=by kernel_rfl
 rw[h];simp only[qeqD_self,qeqI_self,qeq_len,show qcmp BinOp.eql 0 (qlen (D.list []))=true from qeq_len [],show∀a,qcmp BinOp.eql 1 (qlen (D.list [a]))=true from fun a=>qeq_len [a],show∀a b,qcmp BinOp.eql 2 (qlen (D.list [a,b]))=true from fun a b=>qeq_len [a,b],show∀a b c,qcmp BinOp.eql 3 (qlen (D.list [a,b,c]))=true from fun a b c=>qeq_len [a,b,c],show∀a b c d,qcmp BinOp.eql 4 (qlen (D.list [a,b,c,d]))=true from fun a b c d=>qeq_len [a,b,c,d],cond_true]
noncomputable def l54_5 (Q:List D→Option (List D)):List D→List D→Option (List D):=veil fun p s=>loW (st54_5 Q p) s
theorem l54_5_eq (Q:List D→Option (List D)):l54_5 Q=fun p s=>loW (st54_5 Q p) s:=veil_eq _
noncomputable def tbl54_5 (Q:List D→Option (List D)):Tb:=Tb.addL (tbR54 Q) 54 5 S54_5.n0 (mkLp S54_5 (l54_5 Q))
theorem ok_tbl54_5 (Q:List D→Option (List D)) (hQ:SoundF env.P 54 S54 Q):TbOk env (tbl54_5 Q):=addLoopQ (ok_tbR54 Q hQ) 54 5 (by kernel_rfl) _ (l54_5_eq Q)
noncomputable def Fb54 (Q:List D→Option (List D)):List D→Option (List D):=liftX env (tbl54_5 Q) 60 12 54 S54
theorem Fb54_eq (Q:List D→Option (List D)) (sd0:D) (sn1:Int) (sn2:Int):Fb54 Q [sd0,(D.int sn1),(D.int sn2)] =
 bif (qiteB (qiteB (qcmp BinOp.lss sn1 1) Bool.true (qcmp BinOp.lss sn2 1)) Bool.true (qcmp BinOp.gtr (qlen (qfld sd0 4)) 4))then
 some [(D.int (-1))]
 else
 bif (qsome (l54_5 Q [(D.int sn1),sd0] [(D.int (qbin BinOp.sub IntKind.i64 sn2 1)),(D.int 0)]))then
 some [(D.int (qint (qnth (l54_5 Q [(D.int sn1),sd0] [(D.int (qbin BinOp.sub IntKind.i64 sn2 1)),(D.int 0)]) 1)))]
 else
 none:=by kernel_rfl
noncomputable def F54:Nat→List D→Option (List D):=levels Fb54
theorem F54_s (n:Nat):F54 (n+1)=Fb54 (F54 n):=rfl
noncomputable def q54:List D→Option (List D):=veil fun ds=>F54 (fuelL ds) ds
theorem q54_eq:q54=fun ds=>F54 (fuelL ds) ds:=veil_eq _
theorem sound54:SoundF env.P 54 S54 q54:=recF (fun q=>tbl54_5 q) (fun q hq=>ok_tbl54_5 q hq) q54_eq
noncomputable def tb54:Tb:=Tb.addF tb35 54 S54 q54
theorem ok_tb54:TbOk env tb54:=TbOk.addF ok_tb35 (by kernel_rfl) sound54
def S25_16:LoopS:=⟨0,[uF,⟨false,(.int .i64)⟩,⟨false,(.ptr 0 0)⟩,uF,⟨false,(.lit (.bool false))⟩,⟨true,(.int .i64)⟩,⟨false,(.int .i64)⟩,⟨false,(.int .i64)⟩,⟨false,(.ptr 1 0)⟩,⟨true,(.int .i64)⟩,uF,uF,uF,uF,uF,uF,uF,uF,uF,uF,uF,uF,uF,uF,uF,uF,uF,uF,uF,uF,uF,uF,uF,uF,uF,uF,uF,uF,uF,uF,uF,uF,uF,uF,uF,uF,uF,uF,uF,uF,uF,uF,uF,uF,uF,uF,uF,uF,uF,uF,uF,uF,uF,uF,uF,uF,uF,uF,uF,uF,uF,uF,uF,uF,uF,uF],[(.dat false 57),(.dat false 25)],[⟨0,4,[uT,⟨false,(.int .i64)⟩,⟨true,(.ptr 0 0)⟩,uT,⟨true,(.lit (.bool false))⟩,⟨true,(.int .i64)⟩,⟨false,(.int .i64)⟩,⟨false,(.int .i64)⟩,uT,uT,uT,uT,uT,uT,uT,uT,uT,uT,uT,uT,uT,uT,uT,uT,uT,uT,uT,uT,uT,uT,uT,uT,uT,uT,uT,uT,uT,uT,uT,uT,uT,uT,uT,uT,uT,uT,uT,uT,uT,uT,uT,uT,uT,uT,uT,uT,uT,uT,uT,uT,uT,uT,uT,uT,uT,uT,uT,uT,uT,uT,uT,uT,uT,uT,uT,uT],[(.dat false 57),(.dat false 25)]⟩,⟨1,0,[uT,⟨false,(.int .i64)⟩,uT,uT,⟨true,(.lit (.bool false))⟩,uT,⟨false,(.int .i64)⟩,⟨false,(.int .i64)⟩,uT,uT,uT,uT,uT,uT,uT,uT,uT,uT,uT,uT,uT,uT,uT,uT,uT,uT,uT,uT,uT,uT,uT,uT,uT,uT,uT,uT,uT,uT,uT,uT,uT,uT,uT,uT,uT,uT,uT,uT,uT,uT,uT,uT,uT,uT,uT,uT,uT,uT,uT,uT,uT,uT,uT,uT,uT,uT,uT,uT,uT,uT,uT,uT,uT,uT,uT,uT],[(.dat false 57),(.dat false 25)]⟩]⟩
noncomputable def st25_16 (p s:List D):Option (Sum (List D) (List D)):=stepQX env tb54 60 12 25 (loopC 25 16) S25_16 p s
theorem st25_16_eq (pn0:Int) (pn1:Int) (pn2:Int) (pd3:D) (pd4:D) (sn0:Int) (sn1:Int):st25_16 [(D.int pn0),(D.int pn1),(D.int pn2),pd3,pd4] [(D.int sn0),(D.int sn1)] =
 bif (qcmp BinOp.lss sn1 (qlen (qfld pd3 6)))then
 bif (qinb (qfld pd3 6) sn1)then
 bif (qsome (q54 [(qget (qfld pd3 6) sn1),(D.int pn0),(D.int sn0)]))then
 bif (qcmp BinOp.lss (qint (qnth (q54 [(qget (qfld pd3 6) sn1),(D.int pn0),(D.int sn0)]) 0)) 0)then
 some (Sum.inr [(D.int 1)])
 else
 some (Sum.inl [(D.int (qint (qnth (q54 [(qget (qfld pd3 6) sn1),(D.int pn0),(D.int sn0)]) 0))),(D.int (qbin BinOp.add IntKind.i64 sn1 1))])
 else
 none
 else
 none
 else
 some (Sum.inr [(D.int 0),(D.int sn0)]):=by
 have h:st25_16 [(D.int pn0),(D.int pn1),(D.int pn2),pd3,pd4] [(D.int sn0),(D.int sn1)] =
  bif (qcmp BinOp.lss sn1 (qlen (qfld pd3 6)))then
  bif (qinb (qfld pd3 6) sn1)then
  bif (qsome (q54 [(qget (qfld pd3 6) sn1),(D.int pn0),(D.int sn0)]))then
  bif (qcmp BinOp.lss (qint (qnth (q54 [(qget (qfld pd3 6) sn1),(D.int pn0),(D.int sn0)]) 0)) 0)then
  bif (qeqD (D.int pn0) (D.int pn0))then
  bif (qeqD (D.int pn1) (D.int pn1))then
  bif (qeqD (D.int pn2) (D.int pn2))then
  bif (qeqD pd3 pd3)then
  bif (qeqD pd4 pd4)then
  some (Sum.inr [(D.int 1)])
  else
  none
  else
  none
  else
  none
  else
  none
  else
  none
  else
  bif (qeqD (D.int pn0) (D.int pn0))then
  bif (qeqD (D.int pn1) (D.int pn1))then
  bif (qeqD (D.int pn2) (D.int pn2))then
  bif (qeqD pd3 pd3)then
  bif (qeqD pd4 pd4)then
  some (Sum.inl [(D.int (qint (qnth (q54 [(qget (qfld pd3 6) sn1),(D.int pn0),(D.int sn0)]) 0))),(D.int (qbin BinOp.add IntKind.i64 sn1 1))])
  else
  none
  else
  none
  else
  none
  else
  none
  else
  none
  else
  none
  else
  none
  else
  bif (qeqD (D.int pn0) (D.int pn0))then
  bif (qeqD (D.int pn1) (D.int pn1))then
  bif (qeqD (D.int pn2) (D.int pn2))then
  bif (qeqD pd3 pd3)then
  bif (qeqD pd4 pd4)then
  some (Sum.inr [(D.int 0),(D.int sn0)])
  else
  none
  else
  none
  else
  none
  else
  none
  else
  none:=by kernel_rfl
 rw[h];simp only[qeqD_self,qeqI_self,qeq_len,show qcmp BinOp.eql 0 (qlen (D.list []))=true from qeq_len [],show∀a,qcmp BinOp.eql 1 (qlen (D.list [a]))=true from fun a=>qeq_len [a],show∀a b,qcmp BinOp.eql 2 (qlen (D.list [a,b]))=true from fun a b=>qeq_len [a,b],show∀a b c,qcmp BinOp.eql 3 (qlen (D.list [a,b,c]))=true from fun a b c=>qeq_len [a,b,c],show∀a b c d,qcmp BinOp.eql 4 (qlen (D.list [a,b,c,d]))=true from fun a b c d=>qeq_len [a,b,c,d],cond_true]
noncomputable def l25_16:List D→List D→Option (List D):=veil fun p s=>loW (st25_16 p) s
theorem l25_16_eq:l25_16=fun p s=>loW (st25_16 p) s:=veil_eq _
noncomputable def tbl25_16:Tb:=Tb.addL tb54 25 16 S25_16.n0 (mkLp S25_16 (l25_16))
theorem ok_tbl25_16:TbOk env (tbl25_16):=addLoopQ ok_tb54 25 16 (by kernel_rfl) _ (l25_16_eq)
def S25_10:LoopS:=⟨0,[uF,⟨false,(.int .i64)⟩,⟨false,(.ptr 0 0)⟩,uF,⟨false,(.lit (.bool false))⟩,⟨true,(.int .i64)⟩,⟨false,(.int .i64)⟩,⟨true,(.int .i64)⟩,uF,uF,uF,uF,uF,uF,uF,uF,uF,uF,uF,uF,uF,uF,uF,uF,uF,uF,uF,uF,uF,uF,uF,uF,uF,uF,uF,uF,uF,uF,uF,uF,uF,uF,uF,uF,uF,uF,uF,uF,uF,uF,uF,uF,uF,uF,uF,uF,uF,uF,uF,uF,uF,uF,uF,uF,uF,uF,uF,uF,uF,uF,uF,uF,uF,uF,uF,uF],[(.dat false 25)],[⟨0,2,[uT,⟨false,(.int .i64)⟩,⟨true,(.ptr 0 0)⟩,uT,⟨true,(.lit (.bool false))⟩,⟨true,(.int .i64)⟩,⟨false,(.int .i64)⟩,uT,uT,uT,uT,uT,uT,uT,uT,uT,uT,uT,uT,uT,uT,uT,uT,uT,uT,uT,uT,uT,uT,uT,uT,uT,uT,uT,uT,uT,uT,uT,uT,uT,uT,uT,uT,uT,uT,uT,uT,uT,uT,uT,uT,uT,uT,uT,uT,uT,uT,uT,uT,uT,uT,uT,uT,uT,uT,uT,uT,uT,uT,uT,uT,uT,uT,uT,uT,uT],[(.dat false 25)]⟩,⟨1,0,[uT,⟨false,(.int .i64)⟩,uT,uT,⟨true,(.lit (.bool false))⟩,uT,⟨false,(.int .i64)⟩,uT,uT,uT,uT,uT,uT,uT,uT,uT,uT,uT,uT,uT,uT,uT,uT,uT,uT,uT,uT,uT,uT,uT,uT,uT,uT,uT,uT,uT,uT,uT,uT,uT,uT,uT,uT,uT,uT,uT,uT,uT,uT,uT,uT,uT,uT,uT,uT,uT,uT,uT,uT,uT,uT,uT,uT,uT,uT,uT,uT,uT,uT,uT,uT,uT,uT,uT,uT,uT],[(.dat false 25)]⟩]⟩
noncomputable def st25_10 (p s:List D):Option (Sum (List D) (List D)):=stepQX env tbl25_16 60 12 25 (loopC 25 10) S25_10 p s
theorem st25_10_eq (pn0:Int) (pn1:Int) (pd2:D) (sn0:Int) (sn1:Int):st25_10 [(D.int pn0),(D.int pn1),pd2] [(D.int sn0),(D.int sn1)] =
 bif (qinb (qfld pd2 1) pn1)then
 bif (qcmp BinOp.lss sn1 (qlen (qfld (qget (qfld pd2 1) pn1) 1)))then
 bif (qinb (qfld pd2 1) pn1)then
 bif (qinb (qfld (qget (qfld pd2 1) pn1) 1) sn1)then
 bif (qiteB (qcmp BinOp.gtr (qlen (qfld (qget (qfld (qget (qfld pd2 1) pn1) 1) sn1) 6)) 4) Bool.true (qcmp BinOp.gtr (qlen (qfld (qget (qfld (qget (qfld pd2 1) pn1) 1) sn1) 7)) 100))then
 some (Sum.inr [(D.int 1)])
 else
 bif (qsome (l25_16 [(D.int pn0),(D.int pn1),(D.int sn1),(qget (qfld (qget (qfld pd2 1) pn1) 1) sn1),pd2] [(D.int sn0),(D.int 0)]))then
 bif (qcmp BinOp.eql (qint (qnth (l25_16 [(D.int pn0),(D.int pn1),(D.int sn1),(qget (qfld (qget (qfld pd2 1) pn1) 1) sn1),pd2] [(D.int sn0),(D.int 0)]) 0)) 0)then
 some (Sum.inl [(D.int (qint (qnth (l25_16 [(D.int pn0),(D.int pn1),(D.int sn1),(qget (qfld (qget (qfld pd2 1) pn1) 1) sn1),pd2] [(D.int sn0),(D.int 0)]) 1))),(D.int (qbin BinOp.add IntKind.i64 sn1 1))])
 else
 some (Sum.inr [(D.int 1)])
 else
 none
 else
 none
 else
 none
 else
 some (Sum.inr [(D.int 0),(D.int sn0)])
 else
 none:=by
 have h:st25_10 [(D.int pn0),(D.int pn1),pd2] [(D.int sn0),(D.int sn1)] =
  bif (qinb (qfld pd2 1) pn1)then
  bif (qcmp BinOp.lss sn1 (qlen (qfld (qget (qfld pd2 1) pn1) 1)))then
  bif (qinb (qfld pd2 1) pn1)then
  bif (qinb (qfld (qget (qfld pd2 1) pn1) 1) sn1)then
  bif (qiteB (qcmp BinOp.gtr (qlen (qfld (qget (qfld (qget (qfld pd2 1) pn1) 1) sn1) 6)) 4) Bool.true (qcmp BinOp.gtr (qlen (qfld (qget (qfld (qget (qfld pd2 1) pn1) 1) sn1) 7)) 100))then
  bif (qeqD (D.int pn0) (D.int pn0))then
  bif (qeqD (D.int pn1) (D.int pn1))then
  bif (qeqD pd2 pd2)then
  some (Sum.inr [(D.int 1)])
  else
  none
  else
  none
  else
  none
  else
  bif (qsome (l25_16 [(D.int pn0),(D.int pn1),(D.int sn1),(qget (qfld (qget (qfld pd2 1) pn1) 1) sn1),pd2] [(D.int sn0),(D.int 0)]))then
  bif (qcmp BinOp.eql (qint (qnth (l25_16 [(D.int pn0),(D.int pn1),(D.int sn1),(qget (qfld (qget (qfld pd2 1) pn1) 1) sn1),pd2] [(D.int sn0),(D.int 0)]) 0)) 0)then
  bif (qeqD (D.int pn0) (D.int pn0))then
  bif (qeqD (D.int pn1) (D.int pn1))then
  bif (qeqD pd2 pd2)then
  some (Sum.inl [(D.int (qint (qnth (l25_16 [(D.int pn0),(D.int pn1),(D.int sn1),(qget (qfld (qget (qfld pd2 1) pn1) 1) sn1),pd2] [(D.int sn0),(D.int 0)]) 1))),(D.int (qbin BinOp.add IntKind.i64 sn1 1))])
  else
  none
  else
  none
  else
  none
  else
  bif (qeqD (D.int pn0) (D.int pn0))then
  bif (qeqD (D.int pn1) (D.int pn1))then
  bif (qeqD pd2 pd2)then
  some (Sum.inr [(D.int 1)])
  else
  none
  else
  none
  else
  none
  else
  none
  else
  none
  else
  none
  else
  bif (qeqD (D.int pn0) (D.int pn0))then
  bif (qeqD (D.int pn1) (D.int pn1))then
  bif (qeqD pd2 pd2)then
  some (Sum.inr [(D.int 0),(D.int sn0)])
  else
  none
  else
  none
  else
  none
  else
  none:=by kernel_rfl
 rw[h];simp only[qeqD_self,qeqI_self,qeq_len,show qcmp BinOp.eql 0 (qlen (D.list []))=true from qeq_len [],show∀a,qcmp BinOp.eql 1 (qlen (D.list [a]))=true from fun a=>qeq_len [a],show∀a b,qcmp BinOp.eql 2 (qlen (D.list [a,b]))=true from fun a b=>qeq_len [a,b],show∀a b c,qcmp BinOp.eql 3 (qlen (D.list [a,b,c]))=true from fun a b c=>qeq_len [a,b,c],show∀a b c d,qcmp BinOp.eql 4 (qlen (D.list [a,b,c,d]))=true from fun a b c d=>qeq_len [a,b,c,d],cond_true]
noncomputable def l25_10:List D→List D→Option (List D):=veil fun p s=>loW (st25_10 p) s
theorem l25_10_eq:l25_10=fun p s=>loW (st25_10 p) s:=veil_eq _
noncomputable def tbl25_10:Tb:=Tb.addL tbl25_16 25 10 S25_10.n0 (mkLp S25_10 (l25_10))
theorem ok_tbl25_10:TbOk env (tbl25_10):=addLoopQ ok_tbl25_16 25 10 (by kernel_rfl) _ (l25_10_eq)
def S25_5:LoopS:=⟨0,[uF,⟨false,(.int .i64)⟩,⟨false,(.ptr 0 0)⟩,uF,⟨false,(.lit (.bool false))⟩,⟨true,(.int .i64)⟩,⟨true,(.int .i64)⟩,uF,uF,uF,uF,uF,uF,uF,uF,uF,uF,uF,uF,uF,uF,uF,uF,uF,uF,uF,uF,uF,uF,uF,uF,uF,uF,uF,uF,uF,uF,uF,uF,uF,uF,uF,uF,uF,uF,uF,uF,uF,uF,uF,uF,uF,uF,uF,uF,uF,uF,uF,uF,uF,uF,uF,uF,uF,uF,uF,uF,uF,uF,uF,uF,uF,uF,uF,uF,uF],[(.dat false 25)],[⟨0,0,[uT,⟨false,(.int .i64)⟩,uT,uT,⟨true,(.lit (.bool false))⟩,uT,uT,uT,uT,uT,uT,uT,uT,uT,uT,uT,uT,uT,uT,uT,uT,uT,uT,uT,uT,uT,uT,uT,uT,uT,uT,uT,uT,uT,uT,uT,uT,uT,uT,uT,uT,uT,uT,uT,uT,uT,uT,uT,uT,uT,uT,uT,uT,uT,uT,uT,uT,uT,uT,uT,uT,uT,uT,uT,uT,uT,uT,uT,uT,uT,uT,uT,uT,uT,uT,uT],[(.dat false 25)]⟩,⟨1,0,[uT,⟨false,(.int .i64)⟩,uT,uT,⟨true,(.lit (.bool false))⟩,uT,uT,uT,uT,uT,uT,uT,uT,uT,uT,uT,uT,uT,uT,uT,uT,uT,uT,uT,uT,uT,uT,uT,uT,uT,uT,uT,uT,uT,uT,uT,uT,uT,uT,uT,uT,uT,uT,uT,uT,uT,uT,uT,uT,uT,uT,uT,uT,uT,uT,uT,uT,uT,uT,uT,uT,uT,uT,uT,uT,uT,uT,uT,uT,uT,uT,uT,uT,uT,uT,uT],[(.dat false 25)]⟩]⟩
noncomputable def st25_5 (p s:List D):Option (Sum (List D) (List D)):=stepQX env tbl25_10 60 12 25 (loopC 25 5) S25_5 p s
theorem st25_5_eq (pn0:Int) (pd1:D) (sn0:Int) (sn1:Int):st25_5 [(D.int pn0),pd1] [(D.int sn0),(D.int sn1)] =
 bif (qcmp BinOp.lss sn1 (qlen (qfld pd1 1)))then
 bif (qinb (qfld pd1 1) sn1)then
 bif (qcmp BinOp.gtr (qlen (qfld (qget (qfld pd1 1) sn1) 1)) 1100)then
 some (Sum.inr [(D.int 1)])
 else
 bif (qsome (l25_10 [(D.int pn0),(D.int sn1),pd1] [(D.int sn0),(D.int 0)]))then
 bif (qcmp BinOp.eql (qint (qnth (l25_10 [(D.int pn0),(D.int sn1),pd1] [(D.int sn0),(D.int 0)]) 0)) 0)then
 some (Sum.inl [(D.int (qint (qnth (l25_10 [(D.int pn0),(D.int sn1),pd1] [(D.int sn0),(D.int 0)]) 1))),(D.int (qbin BinOp.add IntKind.i64 sn1 1))])
 else
 some (Sum.inr [(D.int 1)])
 else
 none
 else
 none
 else
 some (Sum.inr [(D.int 0)]):=by
 have h:st25_5 [(D.int pn0),pd1] [(D.int sn0),(D.int sn1)] =
  bif (qcmp BinOp.lss sn1 (qlen (qfld pd1 1)))then
  bif (qinb (qfld pd1 1) sn1)then
  bif (qcmp BinOp.gtr (qlen (qfld (qget (qfld pd1 1) sn1) 1)) 1100)then
  bif (qeqD (D.int pn0) (D.int pn0))then
  bif (qeqD pd1 pd1)then
  some (Sum.inr [(D.int 1)])
  else
  none
  else
  none
  else
  bif (qsome (l25_10 [(D.int pn0),(D.int sn1),pd1] [(D.int sn0),(D.int 0)]))then
  bif (qcmp BinOp.eql (qint (qnth (l25_10 [(D.int pn0),(D.int sn1),pd1] [(D.int sn0),(D.int 0)]) 0)) 0)then
  bif (qeqD (D.int pn0) (D.int pn0))then
  bif (qeqD pd1 pd1)then
  some (Sum.inl [(D.int (qint (qnth (l25_10 [(D.int pn0),(D.int sn1),pd1] [(D.int sn0),(D.int 0)]) 1))),(D.int (qbin BinOp.add IntKind.i64 sn1 1))])
  else
  none
  else
  none
  else
  bif (qeqD (D.int pn0) (D.int pn0))then
  bif (qeqD pd1 pd1)then
  some (Sum.inr [(D.int 1)])
  else
  none
  else
  none
  else
  none
  else
  none
  else
  bif (qeqD (D.int pn0) (D.int pn0))then
  bif (qeqD pd1 pd1)then
  some (Sum.inr [(D.int 0)])
  else
  none
  else
  none:=by kernel_rfl
 rw[h];simp only[qeqD_self,qeqI_self,qeq_len,show qcmp BinOp.eql 0 (qlen (D.list []))=true from qeq_len [],show∀a,qcmp BinOp.eql 1 (qlen (D.list [a]))=true from fun a=>qeq_len [a],show∀a b,qcmp BinOp.eql 2 (qlen (D.list [a,b]))=true from fun a b=>qeq_len [a,b],show∀a b c,qcmp BinOp.eql 3 (qlen (D.list [a,b,c]))=true from fun a b c=>qeq_len [a,b,c],show∀a b c d,qcmp BinOp.eql 4 (qlen (D.list [a,b,c,d]))=true from fun a b c d=>qeq_len [a,b,c,d],cond_true]
noncomputable def l25_5:List D→List D→Option (List D):=veil fun p s=>loW (st25_5 p) s
theorem l25_5_eq:l25_5=fun p s=>loW (st25_5 p) s:=veil_eq _
noncomputable def tbl25_5:Tb:=Tb.addL tbl25_10 25 5 S25_5.n0 (mkLp S25_5 (l25_5))
theorem ok_tbl25_5:TbOk env (tbl25_5):=addLoopQ ok_tbl25_10 25 5 (by kernel_rfl) _ (l25_5_eq)
def S25:FunS:=⟨[⟨true,(.dat 25)⟩,⟨true,(.int .i64)⟩],[],[⟨true, .bool⟩],[]⟩
noncomputable def F25:List D→Option (List D):=liftX env tbl25_5 60 12 25 S25
theorem F25_eq (sd0:D) (sn1:Int):F25 [sd0,(D.int sn1)] =
 bif (qcmp BinOp.gtr (qlen (qfld sd0 1)) 300)then
 some [(D.bool Bool.false)]
 else
 bif (qsome (l25_5 [(D.int sn1),sd0] [(D.int 20000),(D.int 0)]))then
 bif (qcmp BinOp.eql (qint (qnth (l25_5 [(D.int sn1),sd0] [(D.int 20000),(D.int 0)]) 0)) 0)then
 some [(D.bool Bool.true)]
 else
 some [(D.bool Bool.false)]
 else
 none:=by kernel_rfl
noncomputable def q25:List D→Option (List D):=veil (F25)
theorem q25_eq:q25=F25:=veil_eq _
noncomputable def tb25:Tb:=Tb.addF tbl25_5 25 S25 (q25)
theorem ok_tb25:TbOk env (tb25):=addFunF ok_tbl25_5 25 (by kernel_rfl) _ (q25_eq)
def S8_5:LoopS:=⟨0,[uF,⟨false,(.ptr 0 0)⟩,⟨false,(.lit (.bool false))⟩,⟨true,(.int .i64)⟩,⟨true,(.int .i64)⟩,uF,uF,uF,uF,uF,uF,uF,uF,uF,uF,uF,uF,uF,uF,uF,uF,uF,uF,uF,uF,uF,uF,uF,uF,uF,uF,uF],[(.dat false 25)],[⟨0,0,[uT,uT,⟨true,(.lit (.bool false))⟩,uT,uT,uT,uT,uT,uT,uT,uT,uT,uT,uT,uT,uT,uT,uT,uT,uT,uT,uT,uT,uT,uT,uT,uT,uT,uT,uT,uT,uT],[(.dat false 25)]⟩,⟨1,0,[uT,uT,⟨true,(.lit (.bool true))⟩,uT,uT,uT,uT,uT,uT,uT,uT,uT,uT,uT,uT,uT,uT,uT,uT,uT,uT,uT,uT,uT,uT,uT,uT,uT,uT,uT,uT,uT],[(.dat false 25)]⟩]⟩
noncomputable def st8_5 (p s:List D):Option (Sum (List D) (List D)):=stepQX env tb25 60 12 8 (loopC 8 5) S8_5 p s
theorem st8_5_eq (pd0:D) (sn0:Int) (sn1:Int):st8_5 [pd0] [(D.int sn0),(D.int sn1)] =
 bif (qcmp BinOp.lss sn1 (qlen (qfld pd0 1)))then
 bif (qinb (qfld pd0 1) sn1)then
 bif (qcmp BinOp.gtr (qbin BinOp.add IntKind.i64 sn0 (qlen (qfld (qget (qfld pd0 1) sn1) 1))) 400)then
 some (Sum.inr [(D.int 1)])
 else
 some (Sum.inl [(D.int (qbin BinOp.add IntKind.i64 sn0 (qlen (qfld (qget (qfld pd0 1) sn1) 1)))),(D.int (qbin BinOp.add IntKind.i64 sn1 1))])
 else
 none
 else
 some (Sum.inr [(D.int 0)]):=by
 have h:st8_5 [pd0] [(D.int sn0),(D.int sn1)] =
  bif (qcmp BinOp.lss sn1 (qlen (qfld pd0 1)))then
  bif (qinb (qfld pd0 1) sn1)then
  bif (qcmp BinOp.gtr (qbin BinOp.add IntKind.i64 sn0 (qlen (qfld (qget (qfld pd0 1) sn1) 1))) 400)then
  bif (qeqD pd0 pd0)then
  some (Sum.inr [(D.int 1)])
  else
  none
  else
  bif (qeqD pd0 pd0)then
  some (Sum.inl [(D.int (qbin BinOp.add IntKind.i64 sn0 (qlen (qfld (qget (qfld pd0 1) sn1) 1)))),(D.int (qbin BinOp.add IntKind.i64 sn1 1))])
  else
  none
  else
  none
  else
  bif (qeqD pd0 pd0)then
  some (Sum.inr [(D.int 0)])
  else
  none:=by kernel_rfl
 rw[h];simp only[qeqD_self,qeqI_self,qeq_len,show qcmp BinOp.eql 0 (qlen (D.list []))=true from qeq_len [],show∀a,qcmp BinOp.eql 1 (qlen (D.list [a]))=true from fun a=>qeq_len [a],show∀a b,qcmp BinOp.eql 2 (qlen (D.list [a,b]))=true from fun a b=>qeq_len [a,b],show∀a b c,qcmp BinOp.eql 3 (qlen (D.list [a,b,c]))=true from fun a b c=>qeq_len [a,b,c],show∀a b c d,qcmp BinOp.eql 4 (qlen (D.list [a,b,c,d]))=true from fun a b c d=>qeq_len [a,b,c,d],cond_true]
noncomputable def l8_5:List D→List D→Option (List D):=veil fun p s=>loW (st8_5 p) s
theorem l8_5_eq:l8_5=fun p s=>loW (st8_5 p) s:=veil_eq _
noncomputable def tbl8_5:Tb:=Tb.addL tb25 8 5 S8_5.n0 (mkLp S8_5 (l8_5))
theorem ok_tbl8_5:TbOk env (tbl8_5):=addLoopQ ok_tb25 8 5 (by kernel_rfl) _ (l8_5_eq)
def S8:FunS:=⟨[⟨true,(.dat 25)⟩],[],[⟨true, .bool⟩],[]⟩
noncomputable def F8:List D→Option (List D):=liftX env tbl8_5 60 12 8 S8
theorem F8_eq (sd0:D):F8 [sd0] =
 bif (qiteB (qcmp BinOp.gtr (qlen (qfld sd0 1)) 40) Bool.true (qsome (q25 [sd0,(D.int 70)])))then
 bif (qiteB (qcmp BinOp.gtr (qlen (qfld sd0 1)) 40) Bool.true (qnot (qbool (qnth (q25 [sd0,(D.int 70)]) 0))))then
 some [(D.bool Bool.true)]
 else
 bif (qsome (l8_5 [sd0] [(D.int 0),(D.int 0)]))then
 bif (qcmp BinOp.eql (qint (qnth (l8_5 [sd0] [(D.int 0),(D.int 0)]) 0)) 0)then
 some [(D.bool Bool.false)]
 else
 some [(D.bool Bool.true)]
 else
 none
 else
 none:=by kernel_rfl
noncomputable def q8:List D→Option (List D):=veil (F8)
theorem q8_eq:q8=F8:=veil_eq _
noncomputable def tb8:Tb:=Tb.addF tbl8_5 8 S8 (q8)
theorem ok_tb8:TbOk env (tb8):=addFunF ok_tbl8_5 8 (by kernel_rfl) _ (q8_eq)
end Go.Proofs.YtfdedgmlafelaaaGreatDoor
open Go Go.AM
namespace Go.Proofs.YtfdedgmlafelaaaGreatDoor
set_option maxRecDepth 100000
set_option linter.unusedSimpArgs false
set_option linter.unusedVariables false
def S105:FunS:=⟨[⟨true,(.dat 61)⟩],[],[⟨true, .bool⟩],[]⟩
noncomputable def F105:List D→Option (List D):=liftX env tb8 60 12 105 S105
theorem F105_eq (sd0:D):F105 [sd0] =
 some [(D.bool (qiteB (qcmp BinOp.eql (qint (qfld sd0 0)) 2) (qcmp BinOp.eql (qint (qfld sd0 2)) 7) Bool.false))]:=by kernel_rfl
noncomputable def q105:List D→Option (List D):=veil (F105)
theorem q105_eq:q105=F105:=veil_eq _
noncomputable def tb105:Tb:=Tb.addF tb8 105 S105 (q105)
theorem ok_tb105:TbOk env (tb105):=addFunF ok_tb8 105 (by kernel_rfl) _ (q105_eq)
def S64:FunS:=⟨[⟨true,(.int .i64)⟩],[],[⟨true,(.int .i64)⟩],[]⟩
noncomputable def F64:List D→Option (List D):=liftX env tb105 60 12 64 S64
theorem F64_eq (sn0:Int):F64 [(D.int sn0)] =
 some [(D.int (qwrap IntKind.i64 (qwrap IntKind.i32 (qwrap IntKind.u32 sn0))))]:=by kernel_rfl
noncomputable def q64:List D→Option (List D):=veil (F64)
theorem q64_eq:q64=F64:=veil_eq _
noncomputable def tb64:Tb:=Tb.addF tb105 64 S64 (q64)
theorem ok_tb64:TbOk env (tb64):=addFunF ok_tb105 64 (by kernel_rfl) _ (q64_eq)
def S62:FunS:=⟨[⟨true,(.dat 61)⟩],[],[⟨true,(.tup [(.int .i64), .bool])⟩],[]⟩
noncomputable def F62:List D→Option (List D):=liftX env tb64 60 12 62 S62
theorem F62_eq (sd0:D):F62 [sd0] =
 bif (qsome (q105 [sd0]))then
 bif (qbool (qnth (q105 [sd0]) 0))then
 some [(D.int 0),(D.bool Bool.true)]
 else
 bif (qiteB (qiteB (qcmp BinOp.neq (qint (qfld sd0 0)) 3) (qcmp BinOp.neq (qint (qfld sd0 0)) 4) Bool.false) Bool.true (qand (qinb (qfld sd0 4) 0) (qsome (q105 [(qget (qfld sd0 4) 0)]))))then
 bif (qiteB (qiteB (qiteB (qcmp BinOp.neq (qint (qfld sd0 0)) 3) (qcmp BinOp.neq (qint (qfld sd0 0)) 4) Bool.false) Bool.true (qnot (qbool (qnth (q105 [(qget (qfld sd0 4) 0)]) 0)))) Bool.true (qinb (qfld sd0 4) 1))then
 bif (qiteB (qiteB (qiteB (qcmp BinOp.neq (qint (qfld sd0 0)) 3) (qcmp BinOp.neq (qint (qfld sd0 0)) 4) Bool.false) Bool.true (qnot (qbool (qnth (q105 [(qget (qfld sd0 4) 0)]) 0)))) Bool.true (qcmp BinOp.neq (qint (qfld (qget (qfld sd0 4) 1) 0)) 1))then
 some [(D.int 0),(D.bool Bool.false)]
 else
 bif (qcmp BinOp.eql (qint (qfld sd0 0)) 4)then
 bif (qinb (qfld sd0 4) 1)then
 bif (qsome (q64 [(D.int (qun UnOp.neg IntKind.i64 (qwrap IntKind.i64 (qint (qfld (qget (qfld sd0 4) 1) 1)))))]))then
 some [(D.int (qint (qnth (q64 [(D.int (qun UnOp.neg IntKind.i64 (qwrap IntKind.i64 (qint (qfld (qget (qfld sd0 4) 1) 1)))))]) 0))),(D.bool Bool.true)]
 else
 none
 else
 none
 else
 bif (qinb (qfld sd0 4) 1)then
 bif (qsome (q64 [(D.int (qwrap IntKind.i64 (qint (qfld (qget (qfld sd0 4) 1) 1))))]))then
 some [(D.int (qint (qnth (q64 [(D.int (qwrap IntKind.i64 (qint (qfld (qget (qfld sd0 4) 1) 1))))]) 0))),(D.bool Bool.true)]
 else
 none
 else
 none
 else
 none
 else
 none
 else
 none:=by kernel_rfl
noncomputable def q62:List D→Option (List D):=veil (F62)
theorem q62_eq:q62=F62:=veil_eq _
noncomputable def tb62:Tb:=Tb.addF tb64 62 S62 (q62)
theorem ok_tb62:TbOk env (tb62):=addFunF ok_tb64 62 (by kernel_rfl) _ (q62_eq)
def S30:FunS:=⟨[⟨true,(.dat 57)⟩,⟨true,(.int .i64)⟩],[],[⟨true,(.tup [(.int .i64), .bool])⟩],[]⟩
noncomputable def F30:List D→Option (List D):=liftX env tb62 60 12 30 S30
theorem F30_eq (sd0:D) (sn1:Int):F30 [sd0,(D.int sn1)] =
 bif (qcmp BinOp.eql (qint (qfld sd0 0)) 5)then
 bif (qsome (q64 [(D.int (qbin BinOp.add IntKind.i64 sn1 4))]))then
 some [(D.int (qint (qnth (q64 [(D.int (qbin BinOp.add IntKind.i64 sn1 4))]) 0))),(D.bool Bool.true)]
 else
 none
 else
 bif (qiteB (qcmp BinOp.eql (qint (qfld sd0 0)) 3) (qcmp BinOp.eql (qint (qfld sd0 1)) 7) Bool.false)then
 some [(D.int 0),(D.bool Bool.false)]
 else
 bif (qiteB (qcmp BinOp.eql (qint (qfld sd0 0)) 1) (qcmp BinOp.eql (qint (qfld sd0 1)) 7) Bool.false)then
 bif (qinb (qfld sd0 6) 0)then
 bif (qsome (q62 [(qget (qfld sd0 6) 0)]))then
 bif (qsome (q64 [(D.int (qbin BinOp.add IntKind.i64 sn1 (qint (qnth (q62 [(qget (qfld sd0 6) 0)]) 0))))]))then
 some [(D.int (qint (qnth (q64 [(D.int (qbin BinOp.add IntKind.i64 sn1 (qint (qnth (q62 [(qget (qfld sd0 6) 0)]) 0))))]) 0))),(D.bool (qbool (qnth (q62 [(qget (qfld sd0 6) 0)]) 1)))]
 else
 none
 else
 none
 else
 none
 else
 some [(D.int sn1),(D.bool Bool.true)]:=by kernel_rfl
noncomputable def q30:List D→Option (List D):=veil (F30)
theorem q30_eq:q30=F30:=veil_eq _
noncomputable def tb30:Tb:=Tb.addF tb62 30 S30 (q30)
theorem ok_tb30:TbOk env (tb30):=addFunF ok_tb62 30 (by kernel_rfl) _ (q30_eq)
def S61_2:LoopS:=⟨0,[uF,⟨true,(.int .i64)⟩,uF,uF,⟨false,(.lit (.int .i64 0))⟩,⟨false,(.lit (.bool false))⟩,uF,uF,uF,uF,uF,⟨false,(.rows 57)⟩,⟨false,(.int .i64)⟩,⟨true,(.int .i64)⟩,uF,uF,uF,uF,uF,uF,uF,uF,uF,uF,uF,uF,uF,uF],[],[⟨0,0,[uT,⟨true,(.int .i64)⟩,uT,uT,⟨true,(.lit (.int .i64 0))⟩,⟨true,(.lit (.bool false))⟩,uT,uT,uT,uT,uT,⟨false,(.rows 57)⟩,⟨false,(.int .i64)⟩,uT,uT,uT,uT,uT,uT,uT,uT,uT,uT,uT,uT,uT,uT,uT],[]⟩,⟨1,0,[uT,uT,uT,uT,⟨true,(.lit (.int .i64 0))⟩,⟨true,(.lit (.bool false))⟩,uT,uT,uT,uT,uT,⟨false,(.rows 57)⟩,⟨false,(.int .i64)⟩,uT,uT,uT,uT,uT,uT,uT,uT,uT,uT,uT,uT,uT,uT,uT],[]⟩]⟩
noncomputable def st61_2 (p s:List D):Option (Sum (List D) (List D)):=stepQX env tb30 60 12 61 (loopC 61 2) S61_2 p s
theorem st61_2_eq (pd0:D) (pn1:Int) (sn0:Int) (sn1:Int):st61_2 [pd0,(D.int pn1)] [(D.int sn0),(D.int sn1)] =
 bif (qcmp BinOp.lss sn1 pn1)then
 bif (qinb pd0 sn1)then
 bif (qsome (q30 [(qget pd0 sn1),(D.int sn0)]))then
 bif (qnot (qbool (qnth (q30 [(qget pd0 sn1),(D.int sn0)]) 1)))then
 some (Sum.inr [(D.int 1)])
 else
 some (Sum.inl [(D.int (qint (qnth (q30 [(qget pd0 sn1),(D.int sn0)]) 0))),(D.int (qbin BinOp.add IntKind.i64 sn1 1))])
 else
 none
 else
 none
 else
 some (Sum.inr [(D.int 0),(D.int sn0)]):=by
 have h:st61_2 [pd0,(D.int pn1)] [(D.int sn0),(D.int sn1)] =
  bif (qcmp BinOp.lss sn1 pn1)then
  bif (qinb pd0 sn1)then
  bif (qsome (q30 [(qget pd0 sn1),(D.int sn0)]))then
  bif (qnot (qbool (qnth (q30 [(qget pd0 sn1),(D.int sn0)]) 1)))then
  bif (qeqD pd0 pd0)then
  bif (qeqD (D.int pn1) (D.int pn1))then
  some (Sum.inr [(D.int 1)])
  else
  none
  else
  none
  else
  bif (qeqD pd0 pd0)then
  bif (qeqD (D.int pn1) (D.int pn1))then
  some (Sum.inl [(D.int (qint (qnth (q30 [(qget pd0 sn1),(D.int sn0)]) 0))),(D.int (qbin BinOp.add IntKind.i64 sn1 1))])
  else
  none
  else
  none
  else
  none
  else
  none
  else
  bif (qeqD pd0 pd0)then
  bif (qeqD (D.int pn1) (D.int pn1))then
  some (Sum.inr [(D.int 0),(D.int sn0)])
  else
  none
  else
  none:=by kernel_rfl
 rw[h];simp only[qeqD_self,qeqI_self,qeq_len,show qcmp BinOp.eql 0 (qlen (D.list []))=true from qeq_len [],show∀a,qcmp BinOp.eql 1 (qlen (D.list [a]))=true from fun a=>qeq_len [a],show∀a b,qcmp BinOp.eql 2 (qlen (D.list [a,b]))=true from fun a b=>qeq_len [a,b],show∀a b c,qcmp BinOp.eql 3 (qlen (D.list [a,b,c]))=true from fun a b c=>qeq_len [a,b,c],show∀a b c d,qcmp BinOp.eql 4 (qlen (D.list [a,b,c,d]))=true from fun a b c d=>qeq_len [a,b,c,d],cond_true]
noncomputable def l61_2:List D→List D→Option (List D):=veil fun p s=>loW (st61_2 p) s
theorem l61_2_eq:l61_2=fun p s=>loW (st61_2 p) s:=veil_eq _
noncomputable def tbl61_2:Tb:=Tb.addL tb30 61 2 S61_2.n0 (mkLp S61_2 (l61_2))
theorem ok_tbl61_2:TbOk env (tbl61_2):=addLoopQ ok_tb30 61 2 (by kernel_rfl) _ (l61_2_eq)
def S61:FunS:=⟨[⟨true,(.dat 54)⟩,⟨true,(.int .i64)⟩],[],[⟨true,(.tup [(.int .i64), .bool])⟩],[]⟩
noncomputable def F61:List D→Option (List D):=liftX env tbl61_2 60 12 61 S61
theorem F61_eq (sd0:D) (sn1:Int):F61 [sd0,(D.int sn1)] =
 bif (qsome (l61_2 [(qfld sd0 1),(D.int (qlen (qfld sd0 1)))] [(D.int sn1),(D.int 0)]))then
 bif (qcmp BinOp.eql (qint (qnth (l61_2 [(qfld sd0 1),(D.int (qlen (qfld sd0 1)))] [(D.int sn1),(D.int 0)]) 0)) 0)then
 some [(D.int (qint (qnth (l61_2 [(qfld sd0 1),(D.int (qlen (qfld sd0 1)))] [(D.int sn1),(D.int 0)]) 1))),(D.bool Bool.true)]
 else
 some [(D.int 0),(D.bool Bool.false)]
 else
 none:=by kernel_rfl
noncomputable def q61:List D→Option (List D):=veil (F61)
theorem q61_eq:q61=F61:=veil_eq _
noncomputable def tb61:Tb:=Tb.addF tbl61_2 61 S61 (q61)
theorem ok_tb61:TbOk env (tb61):=addFunF ok_tbl61_2 61 (by kernel_rfl) _ (q61_eq)
def S52:FunS:=⟨[⟨true,(.dat 61)⟩],[],[⟨true, .bool⟩],[]⟩
noncomputable def F52:List D→Option (List D):=liftX env tb61 60 12 52 S52
theorem F52_eq (sd0:D):F52 [sd0] =
 some [(D.bool (qiteB (qcmp BinOp.eql (qint (qfld sd0 0)) 2) (qcmp BinOp.eql (qint (qfld sd0 2)) 7) Bool.false))]:=by kernel_rfl
noncomputable def q52:List D→Option (List D):=veil (F52)
theorem q52_eq:q52=F52:=veil_eq _
noncomputable def tb52:Tb:=Tb.addF tb61 52 S52 (q52)
theorem ok_tb52:TbOk env (tb52):=addFunF ok_tb61 52 (by kernel_rfl) _ (q52_eq)
def S75:FunS:=⟨[⟨true,(.int .i64)⟩,⟨true,(.int .i64)⟩],[],[⟨true,(.int .i64)⟩],[]⟩
noncomputable def F75:List D→Option (List D):=liftX env tb52 60 12 75 S75
noncomputable def q75:List D→Option (List D):=veil (F75)
theorem q75_eq:q75=F75:=veil_eq _
noncomputable def tb75:Tb:=Tb.addF tb52 75 S75 (q75)
theorem ok_tb75:TbOk env (tb75):=addFunF ok_tb52 75 (by kernel_rfl) _ (q75_eq)
def S21:FunS:=⟨[⟨true,(.dat 61)⟩],[],[⟨true,(.tup [(.int .i64), .bool])⟩],[]⟩
noncomputable def F21:List D→Option (List D):=liftX env tb75 60 12 21 S21
theorem F21_eq (sd0:D):F21 [sd0] =
 bif (qsome (q52 [sd0]))then
 bif (qbool (qnth (q52 [sd0]) 0))then
 some [(D.int 0),(D.bool Bool.true)]
 else
 bif (qiteB (qiteB (qcmp BinOp.eql (qint (qfld sd0 0)) 3) Bool.true (qcmp BinOp.eql (qint (qfld sd0 0)) 4)) (qand (qinb (qfld sd0 4) 0) (qsome (q52 [(qget (qfld sd0 4) 0)]))) Bool.true)then
 bif (qiteB (qiteB (qiteB (qcmp BinOp.eql (qint (qfld sd0 0)) 3) Bool.true (qcmp BinOp.eql (qint (qfld sd0 0)) 4)) (qbool (qnth (q52 [(qget (qfld sd0 4) 0)]) 0)) Bool.false) (qinb (qfld sd0 4) 1) Bool.true)then
 bif (qiteB (qiteB (qiteB (qcmp BinOp.eql (qint (qfld sd0 0)) 3) Bool.true (qcmp BinOp.eql (qint (qfld sd0 0)) 4)) (qbool (qnth (q52 [(qget (qfld sd0 4) 0)]) 0)) Bool.false) (qcmp BinOp.eql (qint (qfld (qget (qfld sd0 4) 1) 0)) 1) Bool.false)then
 bif (qinb (qfld sd0 4) 1)then
 some [(D.int (qwrap IntKind.i64 (qwrap IntKind.i32 (qiteI (qcmp BinOp.eql (qint (qfld sd0 0)) 4) (qbin BinOp.sub IntKind.u32 0 (qint (qfld (qget (qfld sd0 4) 1) 1))) (qint (qfld (qget (qfld sd0 4) 1) 1)))))),(D.bool Bool.true)]
 else
 none
 else
 some [(D.int 0),(D.bool Bool.false)]
 else
 none
 else
 none
 else
 none:=by kernel_rfl
noncomputable def q21:List D→Option (List D):=veil (F21)
theorem q21_eq:q21=F21:=veil_eq _
noncomputable def tb21:Tb:=Tb.addF tb75 21 S21 (q21)
theorem ok_tb21:TbOk env (tb21):=addFunF ok_tb75 21 (by kernel_rfl) _ (q21_eq)
def S38:FunS:=⟨[⟨true,(.dat 57)⟩,⟨true,(.int .i64)⟩],[],[⟨true,(.tup [(.int .i64), .bool])⟩],[]⟩
noncomputable def F38:List D→Option (List D):=liftX env tb21 60 12 38 S38
noncomputable def q38:List D→Option (List D):=veil (F38)
theorem q38_eq:q38=F38:=veil_eq _
noncomputable def tb38:Tb:=Tb.addF tb21 38 S38 (q38)
theorem ok_tb38:TbOk env (tb38):=addFunF ok_tb21 38 (by kernel_rfl) _ (q38_eq)
def S48:FunS:=⟨[⟨true,(.dat 54)⟩],[],[⟨true,(.rows 3)⟩],[]⟩
noncomputable def F48:List D→Option (List D):=liftX env tb38 60 12 48 S48
theorem F48_eq (sd0:D):F48 [sd0] =
 bif (qcmp BinOp.eql (qlen (qfld sd0 1)) 0)then
 some [(D.list [])]
 else
 bif (qinb (qfld sd0 1) (qbin BinOp.sub IntKind.i64 (qlen (qfld sd0 1)) 1))then
 bif (qsome (q89 [(qget (qfld sd0 1) (qbin BinOp.sub IntKind.i64 (qlen (qfld sd0 1)) 1))]))then
 some [(qnth (q89 [(qget (qfld sd0 1) (qbin BinOp.sub IntKind.i64 (qlen (qfld sd0 1)) 1))]) 0)]
 else
 none
 else
 none:=by kernel_rfl
noncomputable def q48:List D→Option (List D):=veil (F48)
theorem q48_eq:q48=F48:=veil_eq _
noncomputable def tb48:Tb:=Tb.addF tb38 48 S48 (q48)
theorem ok_tb48:TbOk env (tb48):=addFunF ok_tb38 48 (by kernel_rfl) _ (q48_eq)
end Go.Proofs.YtfdedgmlafelaaaGreatDoor
