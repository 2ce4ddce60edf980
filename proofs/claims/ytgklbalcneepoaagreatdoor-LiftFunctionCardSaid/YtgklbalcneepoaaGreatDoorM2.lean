/-
  A slice of expressions is cloned: nil, or not (function 113).
-/
import Derived.Test.YtgklbalcneepoaaGreatDoorM1
import Derived.Test.YtgklbalcneepoaaGreatDoorSp
import Derived.KernelRfl
namespace Go.Proofs.YtgklbalcneepoaaGreatDoor
set_option linter.unusedVariables false
set_option linter.unusedSimpArgs false
open Go Go.AM
def S113:FunS:=⟨[⟨true,(.rows 33)⟩],[],[⟨true,(.osl 0 33)⟩],[(.lst true 33)]⟩
theorem run113n (c:Nat):bodyK (envF env tb3 113) (runTb env tb3 60 12) 60 113 [.sc (.slice none 0 c)] (heapF S113 [] []) (retF S113 [])=some [.list []]:=by
 have h:bodyK (envF env tb3 113) (runTb env tb3 60 12) 60 113 [.sc (.slice none 0 c)] (heapF S113 [] []) (retF S113 [])=bif qcmp BinOp.eql 0 (qlen (D.list []))then some [.list []]else none:=by kernel_rfl
 rw[h,show qcmp BinOp.eql 0 (qlen (D.list []))=true from qeq_len []];rfl
theorem run113z (d:D):bodyK (envF env tb3 113) (runTb env tb3 60 12) 60 113 [.rowz 33 d] (heapF S113 [] []) (retF S113 []) =
 bif qmem (qlen (qapp (D.list []) d)) 56 then(bif (qcmp BinOp.eql (qlen (qapp (D.list []) d)) (qlen (qapp (D.list []) d)))then some [qapp (D.list []) d]else none)else none:=by kernel_rfl
noncomputable def F113 (ds:List D):Option (List D):=bif qmem (qlen (qapp (D.list []) (ds.headD .other))) 56 then some [qapp (D.list []) (ds.headD .other)]else none
noncomputable def q113:List D→Option (List D):=veil F113
theorem q113_eq:q113=F113:=veil_eq _
theorem sound113:SoundF env.P 113 S113 q113:=by
 intro p s r hp hq lo w0 ρ E w vs inv ra
 obtain rfl:p = []:=List.length_eq_zero_iff.1 hp
 have ha:argF S113 [] s = [.rows 33 (s.headD .other)]:=by
  cases s<;>rfl
 have hh:heapF S113 [] s=heapF S113 [] []:=rfl
 rw[q113_eq]at hq
 unfold F113 at hq
 simp only[List.nil_append]at hq
 rw[ha]at ra
 generalize hd:s.headD .other=d at *
 cases hm:qmem (qlen (qapp (D.list []) d)) 56 with
 |false=>rw[hm]at hq;cases hq
 |true=>
  rw[hm]at hq
  simp only[cond_true,Option.some.injEq]at hq
  subst hq
  rw[hh]at inv
  generalize hvs:vs.toList=vl at ra
  obtain⟨v,vl',rfl,rv,hn⟩:∃v vs',vl=v::vs'∧Rep ρ E w (AV.rows 33 d) v∧vs' = []:=by simpa only[RepL]using ra
  ·subst hn
   simp only[Rep]at rv
   obtain⟨a,cap,rfl,hc,hx⟩:=id rv
   cases a with
   |none=>
    have he:d.toList = []:=by
     rcases hx with h|⟨_,_,h,_⟩
     ·exact h
     ·cases h
    have he':qapp (D.list []) d = .list []:=by rw[qapp_eq];unfold D.app;rw[he];rfl
    rw[he']
    refine lift_ok (av:=[.sc (.slice none 0 cap)]) envOk ok_tb3 60 12 (run113n cap) rfl lo w0 ρ E w vs inv ?_
    rw[hvs,he]
    simp[RepL,Rep]
   |some a=>
    refine lift_ok (av:=[.rowz 33 d]) envOk ok_tb3 60 12 (p:=[]) (r:=[qapp (D.list []) d]) (S:=S113) (by rw[run113z,hm,qeqI_self];rfl) rfl lo w0 ρ E w vs inv ?_
    rw[hvs]
    simp only[RepL]
    exact⟨_,_,rfl,by simp only[Rep];exact⟨rv,_,_,_,rfl⟩,rfl⟩
noncomputable def tb113:Tb:=Tb.addF tb3 113 S113 q113
theorem ok_tb113:TbOk env tb113:=TbOk.addF ok_tb3 (by kernel_rfl) sound113
end Go.Proofs.YtgklbalcneepoaaGreatDoor
open Go Go.AM
namespace Go.Proofs.YtgklbalcneepoaaGreatDoor
set_option maxRecDepth 100000
set_option linter.unusedSimpArgs false
set_option linter.unusedVariables false
def S67:FunS:=⟨[⟨true,(.dat 33)⟩],[],[⟨true,(.agg [(.int .i64),(.int .u32),(.int .i64),(.int .i64),(.rows 33)])⟩],[]⟩
noncomputable def tbR67 (Q:List D→Option (List D)):Tb:=Tb.addF tb113 67 S67 Q
theorem ok_tbR67 (Q:List D→Option (List D)) (hQ:SoundF env.P 67 S67 Q):TbOk env (tbR67 Q):=TbOk.addF ok_tb113 (by kernel_rfl) hQ
def S67_3:LoopS:=⟨0,[uF,⟨false,(.ptr 0 0)⟩,⟨false,(.ptr 2 0)⟩,uF,uF,uF,uF,uF,uF,uF,⟨false,(.int .i64)⟩,⟨true,(.int .i64)⟩,uF,uF,uF,uF,uF,uF,uF,uF,uF,uF,uF,uF,uF,uF],[(.cells [⟨false,(.lit (.int .i64 0))⟩,⟨false,(.lit (.int .u32 0))⟩,⟨false,(.lit (.int .i64 0))⟩,⟨false,(.lit (.int .i64 0))⟩,⟨false,(.lit (.slice none 0 0))⟩]),(.lst true 33),(.cells [⟨false,(.int .i64)⟩,⟨false,(.int .u32)⟩,⟨false,(.int .i64)⟩,⟨false,(.int .i64)⟩,⟨false,(.osl 1 33)⟩])],[⟨0,0,[uT,⟨true,(.ptr 0 0)⟩,⟨true,(.ptr 2 0)⟩,uT,uT,uT,uT,uT,uT,uT,⟨false,(.int .i64)⟩,uT,uT,uT,uT,uT,uT,uT,uT,uT,uT,uT,uT,uT,uT,uT],[(.cells [⟨true,(.lit (.int .i64 0))⟩,⟨true,(.lit (.int .u32 0))⟩,⟨true,(.lit (.int .i64 0))⟩,⟨true,(.lit (.int .i64 0))⟩,⟨true,(.lit (.slice none 0 0))⟩]),(.lst true 33),(.cells [⟨false,(.int .i64)⟩,⟨false,(.int .u32)⟩,⟨false,(.int .i64)⟩,⟨false,(.int .i64)⟩,⟨true,(.osl 1 33)⟩])]⟩]⟩
noncomputable def st67_3 (Q:List D→Option (List D)) (p s:List D):Option (Sum (List D) (List D)):=stepQX env (tbR67 Q) 60 12 67 (loopC 67 3) S67_3 p s
theorem st67_3_eq (Q:List D→Option (List D)) (pn0:Int) (pn1:Int) (pn2:Int) (pn3:Int) (pn4:Int) (sn0:Int) (sd1:D):st67_3 Q [(D.int pn0),(D.int pn1),(D.int pn2),(D.int pn3),(D.int pn4)] [(D.int sn0),sd1] =
 bif (qcmp BinOp.lss sn0 pn0)then
 bif (qcmp BinOp.leq 0 sn0)then
 bif (qcmp BinOp.lss sn0 (qlen sd1))then
 bif (qinb sd1 sn0)then
 bif (qsome (Q [(qget sd1 sn0)]))then
 bif (qcmp BinOp.leq 0 sn0)then
 bif (qcmp BinOp.lss sn0 (qlen sd1))then
 bif (qinb sd1 sn0)then
 bif (qcmp BinOp.eql (qlen sd1) (qlen (qset sd1 sn0 (D.agg [(D.int (qint (qnth (Q [(qget sd1 sn0)]) 0))),(D.int (qint (qnth (Q [(qget sd1 sn0)]) 1))),(D.int (qint (qnth (Q [(qget sd1 sn0)]) 2))),(D.int (qint (qnth (Q [(qget sd1 sn0)]) 3))),(qnth (Q [(qget sd1 sn0)]) 4)]))))then
 some (Sum.inl [(D.int (qbin BinOp.add IntKind.i64 sn0 1)),(qset sd1 sn0 (D.agg [(D.int (qint (qnth (Q [(qget sd1 sn0)]) 0))),(D.int (qint (qnth (Q [(qget sd1 sn0)]) 1))),(D.int (qint (qnth (Q [(qget sd1 sn0)]) 2))),(D.int (qint (qnth (Q [(qget sd1 sn0)]) 3))),(qnth (Q [(qget sd1 sn0)]) 4)]))])
 else
 none
 else
 none
 else
 none
 else
 none
 else
 none
 else
 none
 else
 none
 else
 none
 else
 some (Sum.inr [(D.int 0),sd1]):=by
 have h:st67_3 Q [(D.int pn0),(D.int pn1),(D.int pn2),(D.int pn3),(D.int pn4)] [(D.int sn0),sd1] =
  bif (qcmp BinOp.lss sn0 pn0)then
  bif (qcmp BinOp.leq 0 sn0)then
  bif (qcmp BinOp.lss sn0 (qlen sd1))then
  bif (qinb sd1 sn0)then
  bif (qsome (Q [(qget sd1 sn0)]))then
  bif (qcmp BinOp.leq 0 sn0)then
  bif (qcmp BinOp.lss sn0 (qlen sd1))then
  bif (qinb sd1 sn0)then
  bif (qcmp BinOp.eql (qlen sd1) (qlen (qset sd1 sn0 (D.agg [(D.int (qint (qnth (Q [(qget sd1 sn0)]) 0))),(D.int (qint (qnth (Q [(qget sd1 sn0)]) 1))),(D.int (qint (qnth (Q [(qget sd1 sn0)]) 2))),(D.int (qint (qnth (Q [(qget sd1 sn0)]) 3))),(qnth (Q [(qget sd1 sn0)]) 4)]))))then
  bif (qeqD (D.int pn0) (D.int pn0))then
  bif (qeqD (D.int pn1) (D.int pn1))then
  bif (qeqD (D.int pn2) (D.int pn2))then
  bif (qeqD (D.int pn3) (D.int pn3))then
  bif (qeqD (D.int pn4) (D.int pn4))then
  some (Sum.inl [(D.int (qbin BinOp.add IntKind.i64 sn0 1)),(qset sd1 sn0 (D.agg [(D.int (qint (qnth (Q [(qget sd1 sn0)]) 0))),(D.int (qint (qnth (Q [(qget sd1 sn0)]) 1))),(D.int (qint (qnth (Q [(qget sd1 sn0)]) 2))),(D.int (qint (qnth (Q [(qget sd1 sn0)]) 3))),(qnth (Q [(qget sd1 sn0)]) 4)]))])
  else
  none
  else
  none
  else
  none
  else
  none
  else
  none
  else
  none
  else
  none
  else
  none
  else
  none
  else
  none
  else
  none
  else
  none
  else
  none
  else
  bif (qcmp BinOp.eql (qlen sd1) (qlen sd1))then
  bif (qeqD (D.int pn0) (D.int pn0))then
  bif (qeqD (D.int pn1) (D.int pn1))then
  bif (qeqD (D.int pn2) (D.int pn2))then
  bif (qeqD (D.int pn3) (D.int pn3))then
  bif (qeqD (D.int pn4) (D.int pn4))then
  some (Sum.inr [(D.int 0),sd1])
  else
  none
  else
  none
  else
  none
  else
  none
  else
  none
  else
  none:=by kernel_rfl
 rw[h];simp only[qeqD_self,qeqI_self,qeq_len,show qcmp BinOp.eql 0 (qlen (D.list []))=true from qeq_len [],show∀a,qcmp BinOp.eql 1 (qlen (D.list [a]))=true from fun a=>qeq_len [a],show∀a b,qcmp BinOp.eql 2 (qlen (D.list [a,b]))=true from fun a b=>qeq_len [a,b],show∀a b c,qcmp BinOp.eql 3 (qlen (D.list [a,b,c]))=true from fun a b c=>qeq_len [a,b,c],show∀a b c d,qcmp BinOp.eql 4 (qlen (D.list [a,b,c,d]))=true from fun a b c d=>qeq_len [a,b,c,d],cond_true]
noncomputable def l67_3 (Q:List D→Option (List D)):List D→List D→Option (List D):=veil fun p s=>loW (st67_3 Q p) s
theorem l67_3_eq (Q:List D→Option (List D)):l67_3 Q=fun p s=>loW (st67_3 Q p) s:=veil_eq _
noncomputable def tbl67_3 (Q:List D→Option (List D)):Tb:=Tb.addL (tbR67 Q) 67 3 S67_3.n0 (mkLp S67_3 (l67_3 Q))
theorem ok_tbl67_3 (Q:List D→Option (List D)) (hQ:SoundF env.P 67 S67 Q):TbOk env (tbl67_3 Q):=addLoopQ (ok_tbR67 Q hQ) 67 3 (by kernel_rfl) _ (l67_3_eq Q)
noncomputable def Fb67 (Q:List D→Option (List D)):List D→Option (List D):=liftX env (tbl67_3 Q) 60 12 67 S67
theorem Fb67_eq (Q:List D→Option (List D)) (sd0:D):Fb67 Q [sd0] =
 bif (qsome (q113 [(qfld sd0 4)]))then
 bif (qsome (l67_3 Q [(D.int (qlen (qnth (q113 [(qfld sd0 4)]) 0))),(D.int (qint (qfld sd0 0))),(D.int (qint (qfld sd0 1))),(D.int (qint (qfld sd0 2))),(D.int (qint (qfld sd0 3)))] [(D.int 0),(qnth (q113 [(qfld sd0 4)]) 0)]))then
 some [(D.int (qint (qfld sd0 0))),(D.int (qint (qfld sd0 1))),(D.int (qint (qfld sd0 2))),(D.int (qint (qfld sd0 3))),(qnth (l67_3 Q [(D.int (qlen (qnth (q113 [(qfld sd0 4)]) 0))),(D.int (qint (qfld sd0 0))),(D.int (qint (qfld sd0 1))),(D.int (qint (qfld sd0 2))),(D.int (qint (qfld sd0 3)))] [(D.int 0),(qnth (q113 [(qfld sd0 4)]) 0)]) 1)]
 else
 none
 else
 none:=by
 have h:Fb67 Q [sd0] =
  bif (qsome (q113 [(qfld sd0 4)]))then
  bif (qcmp BinOp.eql (qlen (qnth (q113 [(qfld sd0 4)]) 0)) (qlen (qnth (q113 [(qfld sd0 4)]) 0)))then
  bif (qsome (l67_3 Q [(D.int (qlen (qnth (q113 [(qfld sd0 4)]) 0))),(D.int (qint (qfld sd0 0))),(D.int (qint (qfld sd0 1))),(D.int (qint (qfld sd0 2))),(D.int (qint (qfld sd0 3)))] [(D.int 0),(qnth (q113 [(qfld sd0 4)]) 0)]))then
  bif (qcmp BinOp.eql (qlen (qnth (l67_3 Q [(D.int (qlen (qnth (q113 [(qfld sd0 4)]) 0))),(D.int (qint (qfld sd0 0))),(D.int (qint (qfld sd0 1))),(D.int (qint (qfld sd0 2))),(D.int (qint (qfld sd0 3)))] [(D.int 0),(qnth (q113 [(qfld sd0 4)]) 0)]) 1)) (qlen (qnth (l67_3 Q [(D.int (qlen (qnth (q113 [(qfld sd0 4)]) 0))),(D.int (qint (qfld sd0 0))),(D.int (qint (qfld sd0 1))),(D.int (qint (qfld sd0 2))),(D.int (qint (qfld sd0 3)))] [(D.int 0),(qnth (q113 [(qfld sd0 4)]) 0)]) 1)))then
  some [(D.int (qint (qfld sd0 0))),(D.int (qint (qfld sd0 1))),(D.int (qint (qfld sd0 2))),(D.int (qint (qfld sd0 3))),(qnth (l67_3 Q [(D.int (qlen (qnth (q113 [(qfld sd0 4)]) 0))),(D.int (qint (qfld sd0 0))),(D.int (qint (qfld sd0 1))),(D.int (qint (qfld sd0 2))),(D.int (qint (qfld sd0 3)))] [(D.int 0),(qnth (q113 [(qfld sd0 4)]) 0)]) 1)]
  else
  none
  else
  none
  else
  none
  else
  none:=by kernel_rfl
 rw[h];simp only[qeqD_self,qeqI_self,qeq_len,show qcmp BinOp.eql 0 (qlen (D.list []))=true from qeq_len [],show∀a,qcmp BinOp.eql 1 (qlen (D.list [a]))=true from fun a=>qeq_len [a],show∀a b,qcmp BinOp.eql 2 (qlen (D.list [a,b]))=true from fun a b=>qeq_len [a,b],show∀a b c,qcmp BinOp.eql 3 (qlen (D.list [a,b,c]))=true from fun a b c=>qeq_len [a,b,c],show∀a b c d,qcmp BinOp.eql 4 (qlen (D.list [a,b,c,d]))=true from fun a b c d=>qeq_len [a,b,c,d],cond_true]
noncomputable def F67:Nat→List D→Option (List D):=levels Fb67
theorem F67_s (n:Nat):F67 (n+1)=Fb67 (F67 n):=rfl
noncomputable def q67:List D→Option (List D):=veil fun ds=>F67 (fuelL ds) ds
theorem q67_eq:q67=fun ds=>F67 (fuelL ds) ds:=veil_eq _
theorem sound67:SoundF env.P 67 S67 q67:=recF (fun q=>tbl67_3 q) (fun q hq=>ok_tbl67_3 q hq) q67_eq
noncomputable def tb67:Tb:=Tb.addF tb113 67 S67 q67
theorem ok_tb67:TbOk env tb67:=TbOk.addF ok_tb113 (by kernel_rfl) sound67
end Go.Proofs.YtgklbalcneepoaaGreatDoor
open Go Go.AM
namespace Go.Proofs.YtgklbalcneepoaaGreatDoor
set_option maxRecDepth 100000
set_option linter.unusedSimpArgs false
set_option linter.unusedVariables false
def S31:FunS:=⟨[⟨true,(.int .i64)⟩,⟨true,(.dat 33)⟩,⟨true,(.dat 33)⟩],[],[⟨true,(.agg [(.int .i64),(.int .u32),(.int .i64),(.int .i64),(.rows 33)])⟩],[]⟩
noncomputable def F31:List D→Option (List D):=liftX env tb67 60 12 31 S31
theorem F31_eq (sn0:Int) (sd1:D) (sd2:D):F31 [(D.int sn0),sd1,sd2] =
 bif (qsome (q67 [sd1]))then
 bif (qsome (q67 [sd2]))then
 some [(D.int sn0),(D.int 0),(D.int 0),(D.int 0),(D.list [(D.agg [(D.int (qint (qnth (q67 [sd1]) 0))),(D.int (qint (qnth (q67 [sd1]) 1))),(D.int (qint (qnth (q67 [sd1]) 2))),(D.int (qint (qnth (q67 [sd1]) 3))),(qnth (q67 [sd1]) 4)]),(D.agg [(D.int (qint (qnth (q67 [sd2]) 0))),(D.int (qint (qnth (q67 [sd2]) 1))),(D.int (qint (qnth (q67 [sd2]) 2))),(D.int (qint (qnth (q67 [sd2]) 3))),(qnth (q67 [sd2]) 4)])])]
 else
 none
 else
 none:=by kernel_rfl
noncomputable def q31:List D→Option (List D):=veil (F31)
theorem q31_eq:q31=F31:=veil_eq _
noncomputable def tb31:Tb:=Tb.addF tb67 31 S31 (q31)
theorem ok_tb31:TbOk env (tb31):=addFunF ok_tb67 31 (by kernel_rfl) _ (q31_eq)
def S46:FunS:=⟨[⟨true,(.dat 33)⟩],[],[⟨true,(.agg [(.int .i64),(.int .u32),(.int .i64),(.int .i64),(.rows 33)])⟩],[]⟩
noncomputable def F46:List D→Option (List D):=liftX env tb31 60 12 46 S46
noncomputable def q46:List D→Option (List D):=veil (F46)
theorem q46_eq:q46=F46:=veil_eq _
noncomputable def tb46:Tb:=Tb.addF tb31 46 S46 (q46)
theorem ok_tb46:TbOk env (tb46):=addFunF ok_tb31 46 (by kernel_rfl) _ (q46_eq)
end Go.Proofs.YtgklbalcneepoaaGreatDoor
open Go Go.AM
namespace Go.Proofs.YtgklbalcneepoaaGreatDoor
set_option maxRecDepth 100000
set_option linter.unusedSimpArgs false
set_option linter.unusedVariables false
def S20_2:LoopS:=⟨0,[uF,⟨false,(.ptr 0 0)⟩,⟨false,(.lit (.bool false))⟩,⟨true,(.int .i64)⟩,uF,uF,uF,uF,uF,uF,uF,uF,uF,uF,uF,uF,uF,uF,uF,uF,uF,uF,uF,uF,uF,uF,uF,uF,uF,uF,uF,uF,uF,uF,uF,uF,uF,uF],[(.dat false 58)],[⟨0,0,[uT,⟨true,(.ptr 0 0)⟩,⟨true,(.lit (.bool false))⟩,uT,uT,uT,uT,uT,uT,uT,uT,uT,uT,uT,uT,uT,uT,uT,uT,uT,uT,uT,uT,uT,uT,uT,uT,uT,uT,uT,uT,uT,uT,uT,uT,uT,uT,uT],[(.dat false 58)]⟩,⟨1,0,[uT,uT,⟨true,(.lit (.bool false))⟩,uT,uT,uT,uT,uT,uT,uT,uT,uT,uT,uT,uT,uT,uT,uT,uT,uT,uT,uT,uT,uT,uT,uT,uT,uT,uT,uT,uT,uT,uT,uT,uT,uT,uT,uT],[(.dat false 58)]⟩]⟩
noncomputable def st20_2 (p s:List D):Option (Sum (List D) (List D)):=stepQX env tb46 60 12 20 (loopC 20 2) S20_2 p s
theorem st20_2_eq (pd0:D) (sn0:Int):st20_2 [pd0] [(D.int sn0)] =
 bif (qiteB (qcmp BinOp.lss sn0 (qlen (qfld pd0 4))) (qcmp BinOp.lss sn0 30) Bool.false)then
 bif (qinb (qfld pd0 4) sn0)then
 bif (qcmp BinOp.gtr (qlen (qget (qfld pd0 4) sn0)) 12)then
 some (Sum.inr [(D.int 1)])
 else
 some (Sum.inl [(D.int (qbin BinOp.add IntKind.i64 sn0 1))])
 else
 none
 else
 some (Sum.inr [(D.int 0)]):=by
 have h:st20_2 [pd0] [(D.int sn0)] =
  bif (qiteB (qcmp BinOp.lss sn0 (qlen (qfld pd0 4))) (qcmp BinOp.lss sn0 30) Bool.false)then
  bif (qinb (qfld pd0 4) sn0)then
  bif (qcmp BinOp.gtr (qlen (qget (qfld pd0 4) sn0)) 12)then
  bif (qeqD pd0 pd0)then
  some (Sum.inr [(D.int 1)])
  else
  none
  else
  bif (qeqD pd0 pd0)then
  some (Sum.inl [(D.int (qbin BinOp.add IntKind.i64 sn0 1))])
  else
  none
  else
  none
  else
  bif (qeqD pd0 pd0)then
  some (Sum.inr [(D.int 0)])
  else
  none:=by kernel_rfl
 rw[h];simp only[qeqD_self,qeqI_self,qeq_len,show qcmp BinOp.eql 0 (qlen (D.list []))=true from qeq_len [],show∀a,qcmp BinOp.eql 1 (qlen (D.list [a]))=true from fun a=>qeq_len [a],show∀a b,qcmp BinOp.eql 2 (qlen (D.list [a,b]))=true from fun a b=>qeq_len [a,b],show∀a b c,qcmp BinOp.eql 3 (qlen (D.list [a,b,c]))=true from fun a b c=>qeq_len [a,b,c],show∀a b c d,qcmp BinOp.eql 4 (qlen (D.list [a,b,c,d]))=true from fun a b c d=>qeq_len [a,b,c,d],cond_true]
noncomputable def l20_2:List D→List D→Option (List D):=veil fun p s=>loW (st20_2 p) s
theorem l20_2_eq:l20_2=fun p s=>loW (st20_2 p) s:=veil_eq _
noncomputable def tbl20_2:Tb:=Tb.addL tb46 20 2 S20_2.n0 (mkLp S20_2 (l20_2))
theorem ok_tbl20_2:TbOk env (tbl20_2):=addLoopQ ok_tb46 20 2 (by kernel_rfl) _ (l20_2_eq)
def S20:FunS:=⟨[⟨true,(.dat 58)⟩],[],[⟨true, .bool⟩],[]⟩
noncomputable def F20:List D→Option (List D):=liftX env tbl20_2 60 12 20 S20
theorem F20_eq (sd0:D):F20 [sd0] =
 bif (qsome (l20_2 [sd0] [(D.int 0)]))then
 bif (qcmp BinOp.eql (qint (qnth (l20_2 [sd0] [(D.int 0)]) 0)) 0)then
 some [(D.bool (qiteB (qiteB (qcmp BinOp.leq (qlen (qfld sd0 2)) 20) (qcmp BinOp.leq (qlen (qfld sd0 3)) 80) Bool.false) (qcmp BinOp.leq (qlen (qfld sd0 4)) 20) Bool.false))]
 else
 some [(D.bool Bool.false)]
 else
 none:=by kernel_rfl
noncomputable def q20:List D→Option (List D):=veil (F20)
theorem q20_eq:q20=F20:=veil_eq _
noncomputable def tb20:Tb:=Tb.addF tbl20_2 20 S20 (q20)
theorem ok_tb20:TbOk env (tb20):=addFunF ok_tbl20_2 20 (by kernel_rfl) _ (q20_eq)
def S22_3:LoopS:=⟨0,[⟨false,(.rows 58)⟩,uF,⟨false,(.lit (.slice none 0 0))⟩,⟨false,(.osl 0 64)⟩,⟨true,(.int .i64)⟩,uF,uF,uF,uF,uF,uF,uF,uF,uF,uF,uF,uF,uF,uF,uF,uF,uF,uF,uF,uF,uF,uF,uF,uF,uF,uF,uF,uF,uF,uF,uF,uF,uF,uF,uF,uF],[(.lst true 64)],[⟨0,0,[⟨false,(.rows 58)⟩,uT,⟨true,(.lit (.slice none 0 0))⟩,⟨true,(.osl 0 64)⟩,uT,uT,uT,uT,uT,uT,uT,uT,uT,uT,uT,uT,uT,uT,uT,uT,uT,uT,uT,uT,uT,uT,uT,uT,uT,uT,uT,uT,uT,uT,uT,uT,uT,uT,uT,uT,uT],[(.lst true 64)]⟩]⟩
noncomputable def st22_3 (p s:List D):Option (Sum (List D) (List D)):=stepQX env tb20 60 12 22 (loopC 22 3) S22_3 p s
theorem st22_3_eq (pd0:D) (sn0:Int) (sd1:D):st22_3 [pd0] [(D.int sn0),sd1] =
 bif (qcmp BinOp.lss sn0 (qlen pd0))then
 bif (qinb pd0 sn0)then
 bif (qinb pd0 sn0)then
 bif (qinb pd0 sn0)then
 bif (qinb pd0 sn0)then
 bif (qinb pd0 sn0)then
 bif (qmem (qlen (qapp sd1 (D.list [(D.agg [(D.int (qint (qfld (qget pd0 sn0) 0))),(D.int (qint (qfld (qget pd0 sn0) 1))),(qfld (qget pd0 sn0) 2),(qfld (qget pd0 sn0) 3),(qfld (qget pd0 sn0) 4)])]))) 80)then
 some (Sum.inl [(D.int (qbin BinOp.add IntKind.i64 sn0 1)),(qapp sd1 (D.list [(D.agg [(D.int (qint (qfld (qget pd0 sn0) 0))),(D.int (qint (qfld (qget pd0 sn0) 1))),(qfld (qget pd0 sn0) 2),(qfld (qget pd0 sn0) 3),(qfld (qget pd0 sn0) 4)])]))])
 else
 none
 else
 none
 else
 none
 else
 none
 else
 none
 else
 none
 else
 some (Sum.inr [(D.int 0),sd1]):=by
 have h:st22_3 [pd0] [(D.int sn0),sd1] =
  bif (qcmp BinOp.lss sn0 (qlen pd0))then
  bif (qinb pd0 sn0)then
  bif (qinb pd0 sn0)then
  bif (qinb pd0 sn0)then
  bif (qinb pd0 sn0)then
  bif (qinb pd0 sn0)then
  bif (qcmp BinOp.eql (qlen sd1) (qlen sd1))then
  bif (qmem (qlen (qapp sd1 (D.list [(D.agg [(D.int (qint (qfld (qget pd0 sn0) 0))),(D.int (qint (qfld (qget pd0 sn0) 1))),(qfld (qget pd0 sn0) 2),(qfld (qget pd0 sn0) 3),(qfld (qget pd0 sn0) 4)])]))) 80)then
  bif (qcmp BinOp.eql (qlen (qapp sd1 (D.list [(D.agg [(D.int (qint (qfld (qget pd0 sn0) 0))),(D.int (qint (qfld (qget pd0 sn0) 1))),(qfld (qget pd0 sn0) 2),(qfld (qget pd0 sn0) 3),(qfld (qget pd0 sn0) 4)])]))) (qlen (qapp sd1 (D.list [(D.agg [(D.int (qint (qfld (qget pd0 sn0) 0))),(D.int (qint (qfld (qget pd0 sn0) 1))),(qfld (qget pd0 sn0) 2),(qfld (qget pd0 sn0) 3),(qfld (qget pd0 sn0) 4)])]))))then
  bif (qeqD pd0 pd0)then
  some (Sum.inl [(D.int (qbin BinOp.add IntKind.i64 sn0 1)),(qapp sd1 (D.list [(D.agg [(D.int (qint (qfld (qget pd0 sn0) 0))),(D.int (qint (qfld (qget pd0 sn0) 1))),(qfld (qget pd0 sn0) 2),(qfld (qget pd0 sn0) 3),(qfld (qget pd0 sn0) 4)])]))])
  else
  none
  else
  none
  else
  none
  else
  none
  else
  none
  else
  none
  else
  none
  else
  none
  else
  none
  else
  bif (qcmp BinOp.eql (qlen sd1) (qlen sd1))then
  bif (qeqD pd0 pd0)then
  some (Sum.inr [(D.int 0),sd1])
  else
  none
  else
  none:=by kernel_rfl
 rw[h];simp only[qeqD_self,qeqI_self,qeq_len,show qcmp BinOp.eql 0 (qlen (D.list []))=true from qeq_len [],show∀a,qcmp BinOp.eql 1 (qlen (D.list [a]))=true from fun a=>qeq_len [a],show∀a b,qcmp BinOp.eql 2 (qlen (D.list [a,b]))=true from fun a b=>qeq_len [a,b],show∀a b c,qcmp BinOp.eql 3 (qlen (D.list [a,b,c]))=true from fun a b c=>qeq_len [a,b,c],show∀a b c d,qcmp BinOp.eql 4 (qlen (D.list [a,b,c,d]))=true from fun a b c d=>qeq_len [a,b,c,d],cond_true]
noncomputable def l22_3:List D→List D→Option (List D):=veil fun p s=>loW (st22_3 p) s
theorem l22_3_eq:l22_3=fun p s=>loW (st22_3 p) s:=veil_eq _
noncomputable def tbl22_3:Tb:=Tb.addL tb20 22 3 S22_3.n0 (mkLp S22_3 (l22_3))
theorem ok_tbl22_3:TbOk env (tbl22_3):=addLoopQ ok_tb20 22 3 (by kernel_rfl) _ (l22_3_eq)
def S22:FunS:=⟨[⟨true,(.rows 58)⟩],[],[⟨true,(.rows 64)⟩],[]⟩
noncomputable def F22:List D→Option (List D):=liftX env tbl22_3 60 12 22 S22
theorem F22_eq (sd0:D):F22 [sd0] =
 bif (qsome (l22_3 [sd0] [(D.int 0),(D.list [])]))then
 some [(qnth (l22_3 [sd0] [(D.int 0),(D.list [])]) 1)]
 else
 none:=by
 have h:F22 [sd0] =
  bif (qcmp BinOp.eql 0 (qlen (D.list [])))then
  bif (qsome (l22_3 [sd0] [(D.int 0),(D.list [])]))then
  bif (qcmp BinOp.eql (qlen (qnth (l22_3 [sd0] [(D.int 0),(D.list [])]) 1)) (qlen (qnth (l22_3 [sd0] [(D.int 0),(D.list [])]) 1)))then
  some [(qnth (l22_3 [sd0] [(D.int 0),(D.list [])]) 1)]
  else
  none
  else
  none
  else
  none:=by kernel_rfl
 rw[h];simp only[qeqD_self,qeqI_self,qeq_len,show qcmp BinOp.eql 0 (qlen (D.list []))=true from qeq_len [],show∀a,qcmp BinOp.eql 1 (qlen (D.list [a]))=true from fun a=>qeq_len [a],show∀a b,qcmp BinOp.eql 2 (qlen (D.list [a,b]))=true from fun a b=>qeq_len [a,b],show∀a b c,qcmp BinOp.eql 3 (qlen (D.list [a,b,c]))=true from fun a b c=>qeq_len [a,b,c],show∀a b c d,qcmp BinOp.eql 4 (qlen (D.list [a,b,c,d]))=true from fun a b c d=>qeq_len [a,b,c,d],cond_true]
noncomputable def q22:List D→Option (List D):=veil (F22)
theorem q22_eq:q22=F22:=veil_eq _
noncomputable def tb22:Tb:=Tb.addF tbl22_3 22 S22 (q22)
theorem ok_tb22:TbOk env (tb22):=addFunF ok_tbl22_3 22 (by kernel_rfl) _ (q22_eq)
def S93_93:FunS:=⟨[⟨true,(.dat 24)⟩],[],[⟨true, .bool⟩],[]⟩
noncomputable def F93_93:List D→Option (List D):=liftX env tb22 60 12 93 S93_93
theorem F93_93_eq (sd0:D):F93_93 [sd0] =
 bif (qsome (q30 [sd0]))then
 some [(D.bool (qnot (qbool (qnth (q30 [sd0]) 0))))]
 else
 none:=by kernel_rfl
noncomputable def q93_93:List D→Option (List D):=veil (F93_93)
theorem q93_93_eq:q93_93=F93_93:=veil_eq _
noncomputable def tb93_93:Tb:=Tb.addF tb22 93 S93_93 (q93_93)
theorem ok_tb93_93:TbOk env (tb93_93):=addFunF ok_tb22 93 (by kernel_rfl) _ (q93_93_eq)
def S140_93_2:LoopS:=⟨0,[⟨false,(.rows 24)⟩,⟨false,(.func 93 [] [])⟩,uF,uF,⟨false,(.lit (.int .i64 0))⟩,uF,uF,⟨false,(.int .i64)⟩,⟨true,(.int .i64)⟩,uF,uF,uF,uF,uF,uF,uF,uF,uF,uF],[],[⟨0,0,[⟨false,(.rows 24)⟩,uT,uT,uT,⟨true,(.lit (.int .i64 0))⟩,uT,uT,⟨false,(.int .i64)⟩,uT,uT,uT,uT,uT,uT,uT,uT,uT,uT,uT],[]⟩,⟨1,0,[⟨false,(.rows 24)⟩,uT,uT,uT,⟨true,(.int .i64)⟩,uT,uT,⟨false,(.int .i64)⟩,uT,uT,uT,uT,uT,uT,uT,uT,uT,uT,uT],[]⟩]⟩
noncomputable def st140_93_2 (p s:List D):Option (Sum (List D) (List D)):=stepQX env tb93_93 60 12 140 (loopC 140 2) S140_93_2 p s
theorem st140_93_2_eq (pd0:D) (pn1:Int) (sn0:Int):st140_93_2 [pd0,(D.int pn1)] [(D.int sn0)] =
 bif (qcmp BinOp.lss sn0 pn1)then
 bif (qinb pd0 sn0)then
 bif (qsome (q93_93 [(qget pd0 sn0)]))then
 bif (qbool (qnth (q93_93 [(qget pd0 sn0)]) 0))then
 some (Sum.inr [(D.int 1),(D.int sn0)])
 else
 some (Sum.inl [(D.int (qbin BinOp.add IntKind.i64 sn0 1))])
 else
 none
 else
 none
 else
 some (Sum.inr [(D.int 0)]):=by
 have h:st140_93_2 [pd0,(D.int pn1)] [(D.int sn0)] =
  bif (qcmp BinOp.lss sn0 pn1)then
  bif (qinb pd0 sn0)then
  bif (qsome (q93_93 [(qget pd0 sn0)]))then
  bif (qbool (qnth (q93_93 [(qget pd0 sn0)]) 0))then
  bif (qeqD pd0 pd0)then
  bif (qeqD (D.int pn1) (D.int pn1))then
  some (Sum.inr [(D.int 1),(D.int sn0)])
  else
  none
  else
  none
  else
  bif (qeqD pd0 pd0)then
  bif (qeqD (D.int pn1) (D.int pn1))then
  some (Sum.inl [(D.int (qbin BinOp.add IntKind.i64 sn0 1))])
  else
  none
  else
  none
  else
  none
  else
  none
  else
  bif (qeqD pd0 pd0)then
  bif (qeqD (D.int pn1) (D.int pn1))then
  some (Sum.inr [(D.int 0)])
  else
  none
  else
  none:=by kernel_rfl
 rw[h];simp only[qeqD_self,qeqI_self,qeq_len,show qcmp BinOp.eql 0 (qlen (D.list []))=true from qeq_len [],show∀a,qcmp BinOp.eql 1 (qlen (D.list [a]))=true from fun a=>qeq_len [a],show∀a b,qcmp BinOp.eql 2 (qlen (D.list [a,b]))=true from fun a b=>qeq_len [a,b],show∀a b c,qcmp BinOp.eql 3 (qlen (D.list [a,b,c]))=true from fun a b c=>qeq_len [a,b,c],show∀a b c d,qcmp BinOp.eql 4 (qlen (D.list [a,b,c,d]))=true from fun a b c d=>qeq_len [a,b,c,d],cond_true]
noncomputable def l140_93_2:List D→List D→Option (List D):=veil fun p s=>loW (st140_93_2 p) s
theorem l140_93_2_eq:l140_93_2=fun p s=>loW (st140_93_2 p) s:=veil_eq _
noncomputable def tbl140_93_2:Tb:=Tb.addL tb93_93 140 2 S140_93_2.n0 (mkLp S140_93_2 (l140_93_2))
theorem ok_tbl140_93_2:TbOk env (tbl140_93_2):=addLoopQ ok_tb93_93 140 2 (by kernel_rfl) _ (l140_93_2_eq)
def S140_93:FunS:=⟨[⟨true,(.rows 24)⟩,⟨true,(.func 93 [] [])⟩],[],[⟨true,(.int .i64)⟩],[]⟩
noncomputable def F140_93:List D→Option (List D):=liftX env tbl140_93_2 60 12 140 S140_93
theorem F140_93_eq (sd0:D):F140_93 [sd0] =
 bif (qsome (l140_93_2 [sd0,(D.int (qlen sd0))] [(D.int 0)]))then
 bif (qcmp BinOp.eql (qint (qnth (l140_93_2 [sd0,(D.int (qlen sd0))] [(D.int 0)]) 0)) 0)then
 some [(D.int (-1))]
 else
 some [(D.int (qint (qnth (l140_93_2 [sd0,(D.int (qlen sd0))] [(D.int 0)]) 1)))]
 else
 none:=by kernel_rfl
noncomputable def q140_93:List D→Option (List D):=veil (F140_93)
theorem q140_93_eq:q140_93=F140_93:=veil_eq _
noncomputable def tb140_93:Tb:=Tb.addF tbl140_93_2 140 S140_93 (q140_93)
theorem ok_tb140_93:TbOk env (tb140_93):=addFunF ok_tbl140_93_2 140 (by kernel_rfl) _ (q140_93_eq)
def S92_93:FunS:=⟨[⟨true,(.rows 24)⟩,⟨true,(.func 93 [] [])⟩],[],[⟨true, .bool⟩],[]⟩
noncomputable def F92_93:List D→Option (List D):=liftX env tb140_93 60 12 92 S92_93
theorem F92_93_eq (sd0:D):F92_93 [sd0] =
 bif (qsome (q140_93 [sd0]))then
 some [(D.bool (qcmp BinOp.geq (qint (qnth (q140_93 [sd0]) 0)) 0))]
 else
 none:=by kernel_rfl
noncomputable def q92_93:List D→Option (List D):=veil (F92_93)
theorem q92_93_eq:q92_93=F92_93:=veil_eq _
noncomputable def tb92_93:Tb:=Tb.addF tb140_93 92 S92_93 (q92_93)
theorem ok_tb92_93:TbOk env (tb92_93):=addFunF ok_tb140_93 92 (by kernel_rfl) _ (q92_93_eq)
def S55_2:LoopS:=⟨0,[⟨false,(.rows 22)⟩,⟨false,(.int .u32)⟩,uF,uF,⟨false,(.lit (.int .i64 0))⟩,uF,uF,⟨false,(.int .i64)⟩,⟨true,(.int .i64)⟩,uF,uF,uF,uF,uF,uF,uF,uF,uF,uF],[],[⟨0,0,[⟨false,(.rows 22)⟩,⟨false,(.int .u32)⟩,uT,uT,⟨true,(.lit (.int .i64 0))⟩,uT,uT,⟨false,(.int .i64)⟩,uT,uT,uT,uT,uT,uT,uT,uT,uT,uT,uT],[]⟩,⟨1,0,[⟨false,(.rows 22)⟩,⟨false,(.int .u32)⟩,uT,uT,⟨true,(.int .i64)⟩,uT,uT,⟨false,(.int .i64)⟩,uT,uT,uT,uT,uT,uT,uT,uT,uT,uT,uT],[]⟩]⟩
noncomputable def st55_2 (p s:List D):Option (Sum (List D) (List D)):=stepQX env tb92_93 60 12 55 (loopC 55 2) S55_2 p s
theorem st55_2_eq (pd0:D) (pn1:Int) (pn2:Int) (sn0:Int):st55_2 [pd0,(D.int pn1),(D.int pn2)] [(D.int sn0)] =
 bif (qcmp BinOp.lss sn0 pn2)then
 bif (qinb pd0 sn0)then
 bif (qcmp BinOp.eql pn1 (qint (qget pd0 sn0)))then
 some (Sum.inr [(D.int 1),(D.int sn0)])
 else
 some (Sum.inl [(D.int (qbin BinOp.add IntKind.i64 sn0 1))])
 else
 none
 else
 some (Sum.inr [(D.int 0)]):=by
 have h:st55_2 [pd0,(D.int pn1),(D.int pn2)] [(D.int sn0)] =
  bif (qcmp BinOp.lss sn0 pn2)then
  bif (qinb pd0 sn0)then
  bif (qcmp BinOp.eql pn1 (qint (qget pd0 sn0)))then
  bif (qeqD pd0 pd0)then
  bif (qeqD (D.int pn1) (D.int pn1))then
  bif (qeqD (D.int pn2) (D.int pn2))then
  some (Sum.inr [(D.int 1),(D.int sn0)])
  else
  none
  else
  none
  else
  none
  else
  bif (qeqD pd0 pd0)then
  bif (qeqD (D.int pn1) (D.int pn1))then
  bif (qeqD (D.int pn2) (D.int pn2))then
  some (Sum.inl [(D.int (qbin BinOp.add IntKind.i64 sn0 1))])
  else
  none
  else
  none
  else
  none
  else
  none
  else
  bif (qeqD pd0 pd0)then
  bif (qeqD (D.int pn1) (D.int pn1))then
  bif (qeqD (D.int pn2) (D.int pn2))then
  some (Sum.inr [(D.int 0)])
  else
  none
  else
  none
  else
  none:=by kernel_rfl
 rw[h];simp only[qeqD_self,qeqI_self,qeq_len,show qcmp BinOp.eql 0 (qlen (D.list []))=true from qeq_len [],show∀a,qcmp BinOp.eql 1 (qlen (D.list [a]))=true from fun a=>qeq_len [a],show∀a b,qcmp BinOp.eql 2 (qlen (D.list [a,b]))=true from fun a b=>qeq_len [a,b],show∀a b c,qcmp BinOp.eql 3 (qlen (D.list [a,b,c]))=true from fun a b c=>qeq_len [a,b,c],show∀a b c d,qcmp BinOp.eql 4 (qlen (D.list [a,b,c,d]))=true from fun a b c d=>qeq_len [a,b,c,d],cond_true]
noncomputable def l55_2:List D→List D→Option (List D):=veil fun p s=>loW (st55_2 p) s
theorem l55_2_eq:l55_2=fun p s=>loW (st55_2 p) s:=veil_eq _
noncomputable def tbl55_2:Tb:=Tb.addL tb92_93 55 2 S55_2.n0 (mkLp S55_2 (l55_2))
theorem ok_tbl55_2:TbOk env (tbl55_2):=addLoopQ ok_tb92_93 55 2 (by kernel_rfl) _ (l55_2_eq)
def S55:FunS:=⟨[⟨true,(.rows 22)⟩,⟨true,(.int .u32)⟩],[],[⟨true,(.int .i64)⟩],[]⟩
noncomputable def F55:List D→Option (List D):=liftX env tbl55_2 60 12 55 S55
theorem F55_eq (sd0:D) (sn1:Int):F55 [sd0,(D.int sn1)] =
 bif (qsome (l55_2 [sd0,(D.int sn1),(D.int (qlen sd0))] [(D.int 0)]))then
 bif (qcmp BinOp.eql (qint (qnth (l55_2 [sd0,(D.int sn1),(D.int (qlen sd0))] [(D.int 0)]) 0)) 0)then
 some [(D.int (-1))]
 else
 some [(D.int (qint (qnth (l55_2 [sd0,(D.int sn1),(D.int (qlen sd0))] [(D.int 0)]) 1)))]
 else
 none:=by kernel_rfl
noncomputable def q55:List D→Option (List D):=veil (F55)
theorem q55_eq:q55=F55:=veil_eq _
noncomputable def tb55:Tb:=Tb.addF tbl55_2 55 S55 (q55)
theorem ok_tb55:TbOk env (tb55):=addFunF ok_tbl55_2 55 (by kernel_rfl) _ (q55_eq)
def S141:FunS:=⟨[⟨true,(.rows 22)⟩,⟨true,(.int .u32)⟩],[],[⟨true, .bool⟩],[]⟩
noncomputable def F141:List D→Option (List D):=liftX env tb55 60 12 141 S141
theorem F141_eq (sd0:D) (sn1:Int):F141 [sd0,(D.int sn1)] =
 bif (qsome (q55 [sd0,(D.int sn1)]))then
 some [(D.bool (qcmp BinOp.geq (qint (qnth (q55 [sd0,(D.int sn1)]) 0)) 0))]
 else
 none:=by kernel_rfl
noncomputable def q141:List D→Option (List D):=veil (F141)
theorem q141_eq:q141=F141:=veil_eq _
noncomputable def tb141:Tb:=Tb.addF tb55 141 S141 (q141)
theorem ok_tb141:TbOk env (tb141):=addFunF ok_tb55 141 (by kernel_rfl) _ (q141_eq)
def S94_3:LoopS:=⟨0,[uF,uF,⟨false,(.lit (.slice none 0 0))⟩,⟨false,(.osl 0 22)⟩,uF,uF,⟨false,(.rows 22)⟩,⟨false,(.int .i64)⟩,⟨true,(.int .i64)⟩,uF,uF,uF,uF,uF,uF,uF,uF,uF,uF,uF,uF,uF],[(.lst true 22)],[⟨0,0,[uT,uT,⟨true,(.lit (.slice none 0 0))⟩,⟨true,(.osl 0 22)⟩,uT,uT,⟨false,(.rows 22)⟩,⟨false,(.int .i64)⟩,uT,uT,uT,uT,uT,uT,uT,uT,uT,uT,uT,uT,uT,uT],[(.lst true 22)]⟩]⟩
noncomputable def st94_3 (p s:List D):Option (Sum (List D) (List D)):=stepQX env tb141 60 12 94 (loopC 94 3) S94_3 p s
theorem st94_3_eq (pd0:D) (pn1:Int) (sn0:Int) (sd1:D):st94_3 [pd0,(D.int pn1)] [(D.int sn0),sd1] =
 bif (qcmp BinOp.lss sn0 pn1)then
 bif (qinb pd0 sn0)then
 bif (qsome (q141 [sd1,(D.int (qint (qget pd0 sn0)))]))then
 bif (qnot (qbool (qnth (q141 [sd1,(D.int (qint (qget pd0 sn0)))]) 0)))then
 bif (qmem (qlen (qapp sd1 (D.list [(D.int (qint (qget pd0 sn0)))]))) 4)then
 some (Sum.inl [(D.int (qbin BinOp.add IntKind.i64 sn0 1)),(qapp sd1 (D.list [(D.int (qint (qget pd0 sn0)))]))])
 else
 none
 else
 some (Sum.inl [(D.int (qbin BinOp.add IntKind.i64 sn0 1)),sd1])
 else
 none
 else
 none
 else
 some (Sum.inr [(D.int 0),sd1]):=by
 have h:st94_3 [pd0,(D.int pn1)] [(D.int sn0),sd1] =
  bif (qcmp BinOp.lss sn0 pn1)then
  bif (qinb pd0 sn0)then
  bif (qcmp BinOp.eql (qlen sd1) (qlen sd1))then
  bif (qsome (q141 [sd1,(D.int (qint (qget pd0 sn0)))]))then
  bif (qnot (qbool (qnth (q141 [sd1,(D.int (qint (qget pd0 sn0)))]) 0)))then
  bif (qcmp BinOp.eql (qlen sd1) (qlen sd1))then
  bif (qmem (qlen (qapp sd1 (D.list [(D.int (qint (qget pd0 sn0)))]))) 4)then
  bif (qcmp BinOp.eql (qlen (qapp sd1 (D.list [(D.int (qint (qget pd0 sn0)))]))) (qlen (qapp sd1 (D.list [(D.int (qint (qget pd0 sn0)))]))))then
  bif (qeqD pd0 pd0)then
  bif (qeqD (D.int pn1) (D.int pn1))then
  some (Sum.inl [(D.int (qbin BinOp.add IntKind.i64 sn0 1)),(qapp sd1 (D.list [(D.int (qint (qget pd0 sn0)))]))])
  else
  none
  else
  none
  else
  none
  else
  none
  else
  none
  else
  bif (qcmp BinOp.eql (qlen sd1) (qlen sd1))then
  bif (qeqD pd0 pd0)then
  bif (qeqD (D.int pn1) (D.int pn1))then
  some (Sum.inl [(D.int (qbin BinOp.add IntKind.i64 sn0 1)),sd1])
  else
  none
  else
  none
  else
  none
  else
  none
  else
  none
  else
  none
  else
  bif (qcmp BinOp.eql (qlen sd1) (qlen sd1))then
  bif (qeqD pd0 pd0)then
  bif (qeqD (D.int pn1) (D.int pn1))then
  some (Sum.inr [(D.int 0),sd1])
  else
  none
  else
  none
  else
  none:=by kernel_rfl
 rw[h];simp only[qeqD_self,qeqI_self,qeq_len,show qcmp BinOp.eql 0 (qlen (D.list []))=true from qeq_len [],show∀a,qcmp BinOp.eql 1 (qlen (D.list [a]))=true from fun a=>qeq_len [a],show∀a b,qcmp BinOp.eql 2 (qlen (D.list [a,b]))=true from fun a b=>qeq_len [a,b],show∀a b c,qcmp BinOp.eql 3 (qlen (D.list [a,b,c]))=true from fun a b c=>qeq_len [a,b,c],show∀a b c d,qcmp BinOp.eql 4 (qlen (D.list [a,b,c,d]))=true from fun a b c d=>qeq_len [a,b,c,d],cond_true]
noncomputable def l94_3:List D→List D→Option (List D):=veil fun p s=>loW (st94_3 p) s
theorem l94_3_eq:l94_3=fun p s=>loW (st94_3 p) s:=veil_eq _
noncomputable def tbl94_3:Tb:=Tb.addL tb141 94 3 S94_3.n0 (mkLp S94_3 (l94_3))
theorem ok_tbl94_3:TbOk env (tbl94_3):=addLoopQ ok_tb141 94 3 (by kernel_rfl) _ (l94_3_eq)
def S94:FunS:=⟨[⟨true,(.rows 22)⟩],[],[⟨true,(.rows 22)⟩],[]⟩
noncomputable def F94:List D→Option (List D):=liftX env tbl94_3 60 12 94 S94
theorem F94_eq (sd0:D):F94 [sd0] =
 bif (qsome (l94_3 [sd0,(D.int (qlen sd0))] [(D.int 0),(D.list [])]))then
 some [(qnth (l94_3 [sd0,(D.int (qlen sd0))] [(D.int 0),(D.list [])]) 1)]
 else
 none:=by
 have h:F94 [sd0] =
  bif (qcmp BinOp.eql 0 (qlen (D.list [])))then
  bif (qsome (l94_3 [sd0,(D.int (qlen sd0))] [(D.int 0),(D.list [])]))then
  bif (qcmp BinOp.eql (qlen (qnth (l94_3 [sd0,(D.int (qlen sd0))] [(D.int 0),(D.list [])]) 1)) (qlen (qnth (l94_3 [sd0,(D.int (qlen sd0))] [(D.int 0),(D.list [])]) 1)))then
  some [(qnth (l94_3 [sd0,(D.int (qlen sd0))] [(D.int 0),(D.list [])]) 1)]
  else
  none
  else
  none
  else
  none:=by kernel_rfl
 rw[h];simp only[qeqD_self,qeqI_self,qeq_len,show qcmp BinOp.eql 0 (qlen (D.list []))=true from qeq_len [],show∀a,qcmp BinOp.eql 1 (qlen (D.list [a]))=true from fun a=>qeq_len [a],show∀a b,qcmp BinOp.eql 2 (qlen (D.list [a,b]))=true from fun a b=>qeq_len [a,b],show∀a b c,qcmp BinOp.eql 3 (qlen (D.list [a,b,c]))=true from fun a b c=>qeq_len [a,b,c],show∀a b c d,qcmp BinOp.eql 4 (qlen (D.list [a,b,c,d]))=true from fun a b c d=>qeq_len [a,b,c,d],cond_true]
noncomputable def q94:List D→Option (List D):=veil (F94)
theorem q94_eq:q94=F94:=veil_eq _
noncomputable def tb94:Tb:=Tb.addF tbl94_3 94 S94 (q94)
theorem ok_tb94:TbOk env (tb94):=addFunF ok_tbl94_3 94 (by kernel_rfl) _ (q94_eq)
def S53_5:LoopS:=⟨0,[uF,⟨false,(.ptr 0 0)⟩,⟨false,(.lit (.int .i64 0))⟩,⟨true,(.int .i64)⟩,uF,uF,uF,uF,uF,uF,uF,uF,uF,uF,uF,uF,uF,⟨false,(.rows 24)⟩,⟨false,(.int .i64)⟩,⟨true,(.int .i64)⟩,uF,uF,uF,uF,uF,uF,uF,uF,uF,uF,uF,uF,uF,uF,uF,uF,uF,uF,uF,uF,uF,uF,uF,uF,uF,uF,uF,uF,uF,uF,uF,uF,uF,uF,uF,uF,uF,uF,uF,uF,uF,uF,uF,uF,uF,uF,uF,uF,uF,uF,uF,uF,uF,uF,uF,uF,uF,uF,uF,uF,uF,uF,uF,uF,uF],[(.dat false 64)],[⟨0,0,[uT,⟨true,(.ptr 0 0)⟩,⟨true,(.lit (.int .i64 0))⟩,uT,uT,uT,uT,uT,uT,uT,uT,uT,uT,uT,uT,uT,uT,⟨false,(.rows 24)⟩,⟨false,(.int .i64)⟩,uT,uT,uT,uT,uT,uT,uT,uT,uT,uT,uT,uT,uT,uT,uT,uT,uT,uT,uT,uT,uT,uT,uT,uT,uT,uT,uT,uT,uT,uT,uT,uT,uT,uT,uT,uT,uT,uT,uT,uT,uT,uT,uT,uT,uT,uT,uT,uT,uT,uT,uT,uT,uT,uT,uT,uT,uT,uT,uT,uT,uT,uT,uT,uT,uT,uT],[(.dat false 64)]⟩,⟨1,0,[uT,uT,⟨true,(.lit (.int .i64 19))⟩,uT,uT,uT,uT,uT,uT,uT,uT,uT,uT,uT,uT,uT,uT,⟨false,(.rows 24)⟩,⟨false,(.int .i64)⟩,uT,uT,uT,uT,uT,uT,uT,uT,uT,uT,uT,uT,uT,uT,uT,uT,uT,uT,uT,uT,uT,uT,uT,uT,uT,uT,uT,uT,uT,uT,uT,uT,uT,uT,uT,uT,uT,uT,uT,uT,uT,uT,uT,uT,uT,uT,uT,uT,uT,uT,uT,uT,uT,uT,uT,uT,uT,uT,uT,uT,uT,uT,uT,uT,uT,uT],[(.dat false 64)]⟩]⟩
noncomputable def st53_5 (p s:List D):Option (Sum (List D) (List D)):=stepQX env tb94 60 12 53 (loopC 53 5) S53_5 p s
theorem st53_5_eq (pd0:D) (pn1:Int) (pd2:D) (sn0:Int) (sn1:Int):st53_5 [pd0,(D.int pn1),pd2] [(D.int sn0),(D.int sn1)] =
 bif (qcmp BinOp.lss sn1 pn1)then
 bif (qinb pd0 sn1)then
 bif (qcmp BinOp.neq (qint (qfld (qget pd0 sn1) 2)) 24)then
 some (Sum.inl [(D.int sn0),(D.int (qbin BinOp.add IntKind.i64 sn1 1))])
 else
 bif (qiteB (qcmp BinOp.geq sn0 (qlen (qfld pd2 4))) Bool.true (qinb (qfld pd2 4) sn0))then
 bif (qiteB (qcmp BinOp.geq sn0 (qlen (qfld pd2 4))) Bool.true (qcmp BinOp.neq (qlen (qget (qfld pd2 4) sn0)) 1))then
 some (Sum.inr [(D.int 1)])
 else
 some (Sum.inl [(D.int (qbin BinOp.add IntKind.i64 sn0 1)),(D.int (qbin BinOp.add IntKind.i64 sn1 1))])
 else
 none
 else
 none
 else
 some (Sum.inr [(D.int 0)]):=by
 have h:st53_5 [pd0,(D.int pn1),pd2] [(D.int sn0),(D.int sn1)] =
  bif (qcmp BinOp.lss sn1 pn1)then
  bif (qinb pd0 sn1)then
  bif (qcmp BinOp.neq (qint (qfld (qget pd0 sn1) 2)) 24)then
  bif (qeqD pd0 pd0)then
  bif (qeqD (D.int pn1) (D.int pn1))then
  bif (qeqD pd2 pd2)then
  some (Sum.inl [(D.int sn0),(D.int (qbin BinOp.add IntKind.i64 sn1 1))])
  else
  none
  else
  none
  else
  none
  else
  bif (qiteB (qcmp BinOp.geq sn0 (qlen (qfld pd2 4))) Bool.true (qinb (qfld pd2 4) sn0))then
  bif (qiteB (qcmp BinOp.geq sn0 (qlen (qfld pd2 4))) Bool.true (qcmp BinOp.neq (qlen (qget (qfld pd2 4) sn0)) 1))then
  bif (qeqD pd0 pd0)then
  bif (qeqD (D.int pn1) (D.int pn1))then
  bif (qeqD pd2 pd2)then
  some (Sum.inr [(D.int 1)])
  else
  none
  else
  none
  else
  none
  else
  bif (qeqD pd0 pd0)then
  bif (qeqD (D.int pn1) (D.int pn1))then
  bif (qeqD pd2 pd2)then
  some (Sum.inl [(D.int (qbin BinOp.add IntKind.i64 sn0 1)),(D.int (qbin BinOp.add IntKind.i64 sn1 1))])
  else
  none
  else
  none
  else
  none
  else
  none
  else
  none
  else
  bif (qeqD pd0 pd0)then
  bif (qeqD (D.int pn1) (D.int pn1))then
  bif (qeqD pd2 pd2)then
  some (Sum.inr [(D.int 0)])
  else
  none
  else
  none
  else
  none:=by kernel_rfl
 rw[h];simp only[qeqD_self,qeqI_self,qeq_len,show qcmp BinOp.eql 0 (qlen (D.list []))=true from qeq_len [],show∀a,qcmp BinOp.eql 1 (qlen (D.list [a]))=true from fun a=>qeq_len [a],show∀a b,qcmp BinOp.eql 2 (qlen (D.list [a,b]))=true from fun a b=>qeq_len [a,b],show∀a b c,qcmp BinOp.eql 3 (qlen (D.list [a,b,c]))=true from fun a b c=>qeq_len [a,b,c],show∀a b c d,qcmp BinOp.eql 4 (qlen (D.list [a,b,c,d]))=true from fun a b c d=>qeq_len [a,b,c,d],cond_true]
noncomputable def l53_5:List D→List D→Option (List D):=veil fun p s=>loW (st53_5 p) s
theorem l53_5_eq:l53_5=fun p s=>loW (st53_5 p) s:=veil_eq _
noncomputable def tbl53_5:Tb:=Tb.addL tb94 53 5 S53_5.n0 (mkLp S53_5 (l53_5))
theorem ok_tbl53_5:TbOk env (tbl53_5):=addLoopQ ok_tb94 53 5 (by kernel_rfl) _ (l53_5_eq)
def S53:FunS:=⟨[⟨true,(.dat 64)⟩],[],[⟨true,(.int .i64)⟩],[]⟩
noncomputable def F53:List D→Option (List D):=liftX env tbl53_5 60 12 53 S53
theorem F53_eq (sd0:D):F53 [sd0] =
 bif (qiteB (qcmp BinOp.eql (qlen (qfld sd0 2)) 0) Bool.true (qsome (q92_93 [(qfld sd0 2)])))then
 bif (qiteB (qcmp BinOp.eql (qlen (qfld sd0 2)) 0) Bool.true (qbool (qnth (q92_93 [(qfld sd0 2)]) 0)))then
 some [(D.int 2)]
 else
 bif (qsome (l53_5 [(qfld sd0 2),(D.int (qlen (qfld sd0 2))),sd0] [(D.int 0),(D.int 0)]))then
 bif (qcmp BinOp.eql (qint (qnth (l53_5 [(qfld sd0 2),(D.int (qlen (qfld sd0 2))),sd0] [(D.int 0),(D.int 0)]) 0)) 0)then
 bif (qinb (qfld sd0 2) (qbin BinOp.sub IntKind.i64 (qlen (qfld sd0 2)) 1))then
 bif (qiteB (qcmp BinOp.neq (qint (qfld (qget (qfld sd0 2) (qbin BinOp.sub IntKind.i64 (qlen (qfld sd0 2)) 1)) 2)) 21) (qcmp BinOp.neq (qint (qfld (qget (qfld sd0 2) (qbin BinOp.sub IntKind.i64 (qlen (qfld sd0 2)) 1)) 2)) 22) Bool.false)then
 some [(D.int 0)]
 else
 bif (qcmp BinOp.eql (qlen (qfld sd0 3)) 0)then
 some [(D.int 19)]
 else
 bif (qiteB (qiteB (qcmp BinOp.eql (qint (qfld (qget (qfld sd0 2) (qbin BinOp.sub IntKind.i64 (qlen (qfld sd0 2)) 1)) 2)) 22) (qcmp BinOp.gtr (qlen (qfld sd0 3)) 64) Bool.false) Bool.true (qiteB (qcmp BinOp.eql (qint (qfld (qget (qfld sd0 2) (qbin BinOp.sub IntKind.i64 (qlen (qfld sd0 2)) 1)) 2)) 21) (qsome (q94 [(qfld sd0 3)])) Bool.true))then
 bif (qiteB (qiteB (qcmp BinOp.eql (qint (qfld (qget (qfld sd0 2) (qbin BinOp.sub IntKind.i64 (qlen (qfld sd0 2)) 1)) 2)) 22) (qcmp BinOp.gtr (qlen (qfld sd0 3)) 64) Bool.false) (qiteB (qcmp BinOp.eql (qint (qfld (qget (qfld sd0 2) (qbin BinOp.sub IntKind.i64 (qlen (qfld sd0 2)) 1)) 2)) 22) (qcmp BinOp.gtr (qlen (qfld sd0 3)) 64) Bool.false) (qiteB (qcmp BinOp.eql (qint (qfld (qget (qfld sd0 2) (qbin BinOp.sub IntKind.i64 (qlen (qfld sd0 2)) 1)) 2)) 21) (qcmp BinOp.gtr (qlen (qnth (q94 [(qfld sd0 3)]) 0)) 32) Bool.false))then
 some [(D.int 6)]
 else
 some [(D.int 0)]
 else
 none
 else
 none
 else
 some [(D.int 19)]
 else
 none
 else
 none:=by kernel_rfl
noncomputable def q53:List D→Option (List D):=veil (F53)
theorem q53_eq:q53=F53:=veil_eq _
noncomputable def tb53:Tb:=Tb.addF tbl53_5 53 S53 (q53)
theorem ok_tb53:TbOk env (tb53):=addFunF ok_tbl53_5 53 (by kernel_rfl) _ (q53_eq)
end Go.Proofs.YtgklbalcneepoaaGreatDoor
open Go Go.AM
namespace Go.Proofs.YtgklbalcneepoaaGreatDoor
set_option maxRecDepth 100000
set_option linter.unusedSimpArgs false
set_option linter.unusedVariables false
def S95_3:LoopS:=⟨0,[⟨false,(.int .i64)⟩,⟨false,(.rows 22)⟩,uF,uF,⟨false,(.ptr 0 0)⟩,⟨false,(.ptr 1 0)⟩,⟨true,(.int .i64)⟩,uF,uF,uF,uF,uF,uF,uF,uF,uF,uF,uF,uF,uF,uF,uF,uF,uF,uF,uF,uF,uF,uF,uF,uF,uF,uF],[(.cells [⟨true,(.int .i64)⟩,⟨true,(.int .u32)⟩,⟨true,(.int .i64)⟩,⟨true,(.int .i64)⟩,⟨true,(.rows 33)⟩]),(.cells [⟨false,(.lit (.int .i64 0))⟩,⟨false,(.lit (.int .u32 0))⟩,⟨false,(.lit (.int .i64 0))⟩,⟨false,(.lit (.int .i64 0))⟩,⟨false,(.lit (.slice none 0 0))⟩])],[⟨0,0,[⟨false,(.int .i64)⟩,⟨false,(.rows 22)⟩,uT,uT,⟨true,(.ptr 0 0)⟩,⟨true,(.ptr 1 0)⟩,uT,uT,uT,uT,uT,uT,uT,uT,uT,uT,uT,uT,uT,uT,uT,uT,uT,uT,uT,uT,uT,uT,uT,uT,uT,uT,uT],[(.cells [⟨true,(.int .i64)⟩,⟨true,(.int .u32)⟩,⟨true,(.int .i64)⟩,⟨true,(.int .i64)⟩,⟨true,(.rows 33)⟩]),(.cells [⟨true,(.lit (.int .i64 0))⟩,⟨true,(.lit (.int .u32 0))⟩,⟨true,(.lit (.int .i64 0))⟩,⟨true,(.lit (.int .i64 0))⟩,⟨true,(.lit (.slice none 0 0))⟩])]⟩]⟩
noncomputable def st95_3 (p s:List D):Option (Sum (List D) (List D)):=stepQX env tb53 60 12 95 (loopC 95 3) S95_3 p s
noncomputable def st95_3_a0 (pn0:Int) (pd1:D) (sn0:Int) (sn1:Int) (sn2:Int) (sn3:Int) (sn4:Int) (sd5:D):D:=(D.agg [(D.int 1),(D.int (qwrap IntKind.u32 sn0)),(D.int 0),(D.int 0),(D.list [])])
noncomputable def st95_3_a1 (pn0:Int) (pd1:D) (sn0:Int) (sn1:Int) (sn2:Int) (sn3:Int) (sn4:Int) (sd5:D):D:=(D.agg [(D.int 1),(D.int (qint (qget pd1 sn0))),(D.int 0),(D.int 0),(D.list [])])
noncomputable def st95_3_a2 (pn0:Int) (pd1:D) (sn0:Int) (sn1:Int) (sn2:Int) (sn3:Int) (sn4:Int) (sd5:D):D:=(D.agg [(D.int 2),(D.int 0),(D.int pn0),(D.int 0),(D.list [])])
noncomputable def st95_3_a3 (pn0:Int) (pd1:D) (sn0:Int) (sn1:Int) (sn2:Int) (sn3:Int) (sn4:Int) (sd5:D):D:=(D.agg [(D.int (qint (qnth (q31 [(D.int 12),(st95_3_a2 pn0 pd1 sn0 sn1 sn2 sn3 sn4 sd5),(st95_3_a1 pn0 pd1 sn0 sn1 sn2 sn3 sn4 sd5)]) 0))),(D.int (qint (qnth (q31 [(D.int 12),(st95_3_a2 pn0 pd1 sn0 sn1 sn2 sn3 sn4 sd5),(st95_3_a1 pn0 pd1 sn0 sn1 sn2 sn3 sn4 sd5)]) 1))),(D.int (qint (qnth (q31 [(D.int 12),(st95_3_a2 pn0 pd1 sn0 sn1 sn2 sn3 sn4 sd5),(st95_3_a1 pn0 pd1 sn0 sn1 sn2 sn3 sn4 sd5)]) 2))),(D.int (qint (qnth (q31 [(D.int 12),(st95_3_a2 pn0 pd1 sn0 sn1 sn2 sn3 sn4 sd5),(st95_3_a1 pn0 pd1 sn0 sn1 sn2 sn3 sn4 sd5)]) 3))),(qnth (q31 [(D.int 12),(st95_3_a2 pn0 pd1 sn0 sn1 sn2 sn3 sn4 sd5),(st95_3_a1 pn0 pd1 sn0 sn1 sn2 sn3 sn4 sd5)]) 4)])
noncomputable def st95_3_a4 (pn0:Int) (pd1:D) (sn0:Int) (sn1:Int) (sn2:Int) (sn3:Int) (sn4:Int) (sd5:D):D:=(D.agg [(D.int (qint (qnth (q31 [(D.int 5),(st95_3_a3 pn0 pd1 sn0 sn1 sn2 sn3 sn4 sd5),(st95_3_a0 pn0 pd1 sn0 sn1 sn2 sn3 sn4 sd5)]) 0))),(D.int (qint (qnth (q31 [(D.int 5),(st95_3_a3 pn0 pd1 sn0 sn1 sn2 sn3 sn4 sd5),(st95_3_a0 pn0 pd1 sn0 sn1 sn2 sn3 sn4 sd5)]) 1))),(D.int (qint (qnth (q31 [(D.int 5),(st95_3_a3 pn0 pd1 sn0 sn1 sn2 sn3 sn4 sd5),(st95_3_a0 pn0 pd1 sn0 sn1 sn2 sn3 sn4 sd5)]) 2))),(D.int (qint (qnth (q31 [(D.int 5),(st95_3_a3 pn0 pd1 sn0 sn1 sn2 sn3 sn4 sd5),(st95_3_a0 pn0 pd1 sn0 sn1 sn2 sn3 sn4 sd5)]) 3))),(qnth (q31 [(D.int 5),(st95_3_a3 pn0 pd1 sn0 sn1 sn2 sn3 sn4 sd5),(st95_3_a0 pn0 pd1 sn0 sn1 sn2 sn3 sn4 sd5)]) 4)])
noncomputable def st95_3_a5 (pn0:Int) (pd1:D) (sn0:Int) (sn1:Int) (sn2:Int) (sn3:Int) (sn4:Int) (sd5:D):D:=(D.agg [(D.int sn1),(D.int sn2),(D.int sn3),(D.int sn4),sd5])
theorem st95_3_eq (pn0:Int) (pd1:D) (sn0:Int) (sn1:Int) (sn2:Int) (sn3:Int) (sn4:Int) (sd5:D):st95_3 [(D.int pn0),pd1] [(D.int sn0),(D.int sn1),(D.int sn2),(D.int sn3),(D.int sn4),sd5] =
 bif (qcmp BinOp.lss sn0 (qlen pd1))then
 bif (qinb pd1 sn0)then
 bif (qsome (q31 [(D.int 12),(st95_3_a2 pn0 pd1 sn0 sn1 sn2 sn3 sn4 sd5),(st95_3_a1 pn0 pd1 sn0 sn1 sn2 sn3 sn4 sd5)]))then
 bif (qsome (q31 [(D.int 5),(st95_3_a3 pn0 pd1 sn0 sn1 sn2 sn3 sn4 sd5),(st95_3_a0 pn0 pd1 sn0 sn1 sn2 sn3 sn4 sd5)]))then
 bif (qcmp BinOp.eql sn0 1)then
 some (Sum.inl [(D.int (qbin BinOp.add IntKind.i64 sn0 1)),(D.int (qint (qnth (q31 [(D.int 5),(st95_3_a3 pn0 pd1 sn0 sn1 sn2 sn3 sn4 sd5),(st95_3_a0 pn0 pd1 sn0 sn1 sn2 sn3 sn4 sd5)]) 0))),(D.int (qint (qnth (q31 [(D.int 5),(st95_3_a3 pn0 pd1 sn0 sn1 sn2 sn3 sn4 sd5),(st95_3_a0 pn0 pd1 sn0 sn1 sn2 sn3 sn4 sd5)]) 1))),(D.int (qint (qnth (q31 [(D.int 5),(st95_3_a3 pn0 pd1 sn0 sn1 sn2 sn3 sn4 sd5),(st95_3_a0 pn0 pd1 sn0 sn1 sn2 sn3 sn4 sd5)]) 2))),(D.int (qint (qnth (q31 [(D.int 5),(st95_3_a3 pn0 pd1 sn0 sn1 sn2 sn3 sn4 sd5),(st95_3_a0 pn0 pd1 sn0 sn1 sn2 sn3 sn4 sd5)]) 3))),(qnth (q31 [(D.int 5),(st95_3_a3 pn0 pd1 sn0 sn1 sn2 sn3 sn4 sd5),(st95_3_a0 pn0 pd1 sn0 sn1 sn2 sn3 sn4 sd5)]) 4)])
 else
 bif (qsome (q31 [(D.int 3),(st95_3_a5 pn0 pd1 sn0 sn1 sn2 sn3 sn4 sd5),(st95_3_a4 pn0 pd1 sn0 sn1 sn2 sn3 sn4 sd5)]))then
 some (Sum.inl [(D.int (qbin BinOp.add IntKind.i64 sn0 1)),(D.int (qint (qnth (q31 [(D.int 3),(st95_3_a5 pn0 pd1 sn0 sn1 sn2 sn3 sn4 sd5),(st95_3_a4 pn0 pd1 sn0 sn1 sn2 sn3 sn4 sd5)]) 0))),(D.int (qint (qnth (q31 [(D.int 3),(st95_3_a5 pn0 pd1 sn0 sn1 sn2 sn3 sn4 sd5),(st95_3_a4 pn0 pd1 sn0 sn1 sn2 sn3 sn4 sd5)]) 1))),(D.int (qint (qnth (q31 [(D.int 3),(st95_3_a5 pn0 pd1 sn0 sn1 sn2 sn3 sn4 sd5),(st95_3_a4 pn0 pd1 sn0 sn1 sn2 sn3 sn4 sd5)]) 2))),(D.int (qint (qnth (q31 [(D.int 3),(st95_3_a5 pn0 pd1 sn0 sn1 sn2 sn3 sn4 sd5),(st95_3_a4 pn0 pd1 sn0 sn1 sn2 sn3 sn4 sd5)]) 3))),(qnth (q31 [(D.int 3),(st95_3_a5 pn0 pd1 sn0 sn1 sn2 sn3 sn4 sd5),(st95_3_a4 pn0 pd1 sn0 sn1 sn2 sn3 sn4 sd5)]) 4)])
 else
 none
 else
 none
 else
 none
 else
 none
 else
 some (Sum.inr [(D.int 0),(D.int sn1),(D.int sn2),(D.int sn3),(D.int sn4),sd5]):=by
 have h:st95_3 [(D.int pn0),pd1] [(D.int sn0),(D.int sn1),(D.int sn2),(D.int sn3),(D.int sn4),sd5] =
  bif (qcmp BinOp.lss sn0 (qlen pd1))then
  bif (qinb pd1 sn0)then
  bif (qsome (q31 [(D.int 12),(st95_3_a2 pn0 pd1 sn0 sn1 sn2 sn3 sn4 sd5),(st95_3_a1 pn0 pd1 sn0 sn1 sn2 sn3 sn4 sd5)]))then
  bif (qsome (q31 [(D.int 5),(st95_3_a3 pn0 pd1 sn0 sn1 sn2 sn3 sn4 sd5),(st95_3_a0 pn0 pd1 sn0 sn1 sn2 sn3 sn4 sd5)]))then
  bif (qcmp BinOp.eql sn0 1)then
  bif (qeqD (D.int pn0) (D.int pn0))then
  bif (qeqD pd1 pd1)then
  some (Sum.inl [(D.int (qbin BinOp.add IntKind.i64 sn0 1)),(D.int (qint (qnth (q31 [(D.int 5),(st95_3_a3 pn0 pd1 sn0 sn1 sn2 sn3 sn4 sd5),(st95_3_a0 pn0 pd1 sn0 sn1 sn2 sn3 sn4 sd5)]) 0))),(D.int (qint (qnth (q31 [(D.int 5),(st95_3_a3 pn0 pd1 sn0 sn1 sn2 sn3 sn4 sd5),(st95_3_a0 pn0 pd1 sn0 sn1 sn2 sn3 sn4 sd5)]) 1))),(D.int (qint (qnth (q31 [(D.int 5),(st95_3_a3 pn0 pd1 sn0 sn1 sn2 sn3 sn4 sd5),(st95_3_a0 pn0 pd1 sn0 sn1 sn2 sn3 sn4 sd5)]) 2))),(D.int (qint (qnth (q31 [(D.int 5),(st95_3_a3 pn0 pd1 sn0 sn1 sn2 sn3 sn4 sd5),(st95_3_a0 pn0 pd1 sn0 sn1 sn2 sn3 sn4 sd5)]) 3))),(qnth (q31 [(D.int 5),(st95_3_a3 pn0 pd1 sn0 sn1 sn2 sn3 sn4 sd5),(st95_3_a0 pn0 pd1 sn0 sn1 sn2 sn3 sn4 sd5)]) 4)])
  else
  none
  else
  none
  else
  bif (qsome (q31 [(D.int 3),(st95_3_a5 pn0 pd1 sn0 sn1 sn2 sn3 sn4 sd5),(st95_3_a4 pn0 pd1 sn0 sn1 sn2 sn3 sn4 sd5)]))then
  bif (qeqD (D.int pn0) (D.int pn0))then
  bif (qeqD pd1 pd1)then
  some (Sum.inl [(D.int (qbin BinOp.add IntKind.i64 sn0 1)),(D.int (qint (qnth (q31 [(D.int 3),(st95_3_a5 pn0 pd1 sn0 sn1 sn2 sn3 sn4 sd5),(st95_3_a4 pn0 pd1 sn0 sn1 sn2 sn3 sn4 sd5)]) 0))),(D.int (qint (qnth (q31 [(D.int 3),(st95_3_a5 pn0 pd1 sn0 sn1 sn2 sn3 sn4 sd5),(st95_3_a4 pn0 pd1 sn0 sn1 sn2 sn3 sn4 sd5)]) 1))),(D.int (qint (qnth (q31 [(D.int 3),(st95_3_a5 pn0 pd1 sn0 sn1 sn2 sn3 sn4 sd5),(st95_3_a4 pn0 pd1 sn0 sn1 sn2 sn3 sn4 sd5)]) 2))),(D.int (qint (qnth (q31 [(D.int 3),(st95_3_a5 pn0 pd1 sn0 sn1 sn2 sn3 sn4 sd5),(st95_3_a4 pn0 pd1 sn0 sn1 sn2 sn3 sn4 sd5)]) 3))),(qnth (q31 [(D.int 3),(st95_3_a5 pn0 pd1 sn0 sn1 sn2 sn3 sn4 sd5),(st95_3_a4 pn0 pd1 sn0 sn1 sn2 sn3 sn4 sd5)]) 4)])
  else
  none
  else
  none
  else
  none
  else
  none
  else
  none
  else
  none
  else
  bif (qeqD (D.int pn0) (D.int pn0))then
  bif (qeqD pd1 pd1)then
  some (Sum.inr [(D.int 0),(D.int sn1),(D.int sn2),(D.int sn3),(D.int sn4),sd5])
  else
  none
  else
  none:=by kernel_rfl
 rw[h];simp only[qeqD_self,qeqI_self,qeq_len,show qcmp BinOp.eql 0 (qlen (D.list []))=true from qeq_len [],show∀a,qcmp BinOp.eql 1 (qlen (D.list [a]))=true from fun a=>qeq_len [a],show∀a b,qcmp BinOp.eql 2 (qlen (D.list [a,b]))=true from fun a b=>qeq_len [a,b],show∀a b c,qcmp BinOp.eql 3 (qlen (D.list [a,b,c]))=true from fun a b c=>qeq_len [a,b,c],show∀a b c d,qcmp BinOp.eql 4 (qlen (D.list [a,b,c,d]))=true from fun a b c d=>qeq_len [a,b,c,d],cond_true]
noncomputable def l95_3:List D→List D→Option (List D):=veil fun p s=>loW (st95_3 p) s
theorem l95_3_eq:l95_3=fun p s=>loW (st95_3 p) s:=veil_eq _
noncomputable def tbl95_3:Tb:=Tb.addL tb53 95 3 S95_3.n0 (mkLp S95_3 (l95_3))
theorem ok_tbl95_3:TbOk env (tbl95_3):=addLoopQ ok_tb53 95 3 (by kernel_rfl) _ (l95_3_eq)
def S95:FunS:=⟨[⟨true,(.int .i64)⟩,⟨true,(.rows 22)⟩],[],[⟨true,(.dat 33)⟩],[]⟩
noncomputable def F95:List D→Option (List D):=liftX env tbl95_3 60 12 95 S95
theorem F95_eq (sn0:Int) (sd1:D):F95 [(D.int sn0),sd1] =
 bif (qsome (l95_3 [(D.int sn0),sd1] [(D.int 1),(D.int 0),(D.int 0),(D.int 0),(D.int 0),(D.list [])]))then
 some [(D.agg [(D.int (qint (qnth (l95_3 [(D.int sn0),sd1] [(D.int 1),(D.int 0),(D.int 0),(D.int 0),(D.int 0),(D.list [])]) 1))),(D.int (qint (qnth (l95_3 [(D.int sn0),sd1] [(D.int 1),(D.int 0),(D.int 0),(D.int 0),(D.int 0),(D.list [])]) 2))),(D.int (qint (qnth (l95_3 [(D.int sn0),sd1] [(D.int 1),(D.int 0),(D.int 0),(D.int 0),(D.int 0),(D.list [])]) 3))),(D.int (qint (qnth (l95_3 [(D.int sn0),sd1] [(D.int 1),(D.int 0),(D.int 0),(D.int 0),(D.int 0),(D.list [])]) 4))),(qnth (l95_3 [(D.int sn0),sd1] [(D.int 1),(D.int 0),(D.int 0),(D.int 0),(D.int 0),(D.list [])]) 5)])]
 else
 none:=by kernel_rfl
noncomputable def q95:List D→Option (List D):=veil (F95)
theorem q95_eq:q95=F95:=veil_eq _
noncomputable def tb95:Tb:=Tb.addF tbl95_3 95 S95 (q95)
theorem ok_tb95:TbOk env (tb95):=addFunF ok_tbl95_3 95 (by kernel_rfl) _ (q95_eq)
def S54:FunS:=⟨[⟨true,(.dat 64)⟩,⟨true,(.dat 24)⟩],[],[⟨true,(.rows 22)⟩],[]⟩
noncomputable def F54:List D→Option (List D):=liftX env tb95 60 12 54 S54
theorem F54_eq (sd0:D) (sd1:D):F54 [sd0,sd1] =
 bif (qiteB (qcmp BinOp.eql (qint (qfld sd1 2)) 1) (qcmp BinOp.eql (qint (qfld sd1 2)) 1) (qcmp BinOp.eql (qint (qfld sd1 2)) 2))then
 some [(D.list [])]
 else
 bif (qcmp BinOp.eql (qint (qfld sd1 2)) 22)then
 some [(qfld sd0 3)]
 else
 bif (qcmp BinOp.eql (qint (qfld sd1 2)) 21)then
 bif (qsome (q94 [(qfld sd0 3)]))then
 some [(qnth (q94 [(qfld sd0 3)]) 0)]
 else
 none
 else
 bif (qcmp BinOp.eql (qint (qfld sd1 2)) 20)then
 bif (qcmp BinOp.eql (qint (qfld sd1 5)) 0)then
 some [(D.list [(D.int (qint (qfld sd1 1)))])]
 else
 bif (qsome (q68 [sd1]))then
 some [(D.list [(D.int (qint (qfld sd1 1))),(D.int (qint (qnth (q68 [sd1]) 0)))])]
 else
 none
 else
 bif (qsome (q68 [sd1]))then
 some [(D.list [(D.int (qint (qnth (q68 [sd1]) 0)))])]
 else
 none:=by kernel_rfl
noncomputable def q54:List D→Option (List D):=veil (F54)
theorem q54_eq:q54=F54:=veil_eq _
noncomputable def tb54:Tb:=Tb.addF tb95 54 S54 (q54)
theorem ok_tb54:TbOk env (tb54):=addFunF ok_tb95 54 (by kernel_rfl) _ (q54_eq)
def S56:FunS:=⟨[⟨true,(.dat 24)⟩,⟨true,(.rows 22)⟩,⟨true,(.rows 3)⟩],[],[⟨true,(.dat 91)⟩],[]⟩
noncomputable def F56:List D→Option (List D):=liftX env tb54 60 12 56 S56
theorem F56_eq (sd0:D) (sd1:D) (sd2:D):F56 [sd0,sd1,sd2] =
 bif (qcmp BinOp.eql (qint (qfld sd0 2)) 1)then
 some [(D.agg [(D.int 10),(D.int 0),(D.int 0),(D.int 0),(D.int 0),(D.int 0),(D.list []),(D.list [])])]
 else
 bif (qcmp BinOp.eql (qint (qfld sd0 2)) 2)then
 some [(D.agg [(D.int 9),(D.int 0),(D.int 0),(D.int 0),(D.int 0),(D.int 0),(D.list []),(D.list [])])]
 else
 bif (qcmp BinOp.eql (qint (qfld sd0 2)) 22)then
 some [(D.agg [(D.int 8),(D.int 0),(D.int 0),(D.int 0),(D.int 0),(D.int 0),(D.list [(D.agg [(D.int 2),(D.int 0),(D.int (qint (qfld sd0 6))),(D.int 0),(D.list [])])]),sd2])]
 else
 bif (qiteB (qcmp BinOp.eql (qint (qfld sd0 2)) 21) (qcmp BinOp.gtr (qlen sd2) 1) Bool.false)then
 bif (qsome (q95 [(D.int (qint (qfld sd0 6))),sd1]))then
 some [(D.agg [(D.int 8),(D.int 0),(D.int 0),(D.int 0),(D.int 0),(D.int 0),(D.list [(D.agg [(D.int (qint (qfld (qnth (q95 [(D.int (qint (qfld sd0 6))),sd1]) 0) 0))),(D.int (qint (qfld (qnth (q95 [(D.int (qint (qfld sd0 6))),sd1]) 0) 1))),(D.int (qint (qfld (qnth (q95 [(D.int (qint (qfld sd0 6))),sd1]) 0) 2))),(D.int (qint (qfld (qnth (q95 [(D.int (qint (qfld sd0 6))),sd1]) 0) 3))),(qfld (qnth (q95 [(D.int (qint (qfld sd0 6))),sd1]) 0) 4)])]),sd2])]
 else
 none
 else
 bif (qiteB (qcmp BinOp.eql (qint (qfld sd0 2)) 20) (qcmp BinOp.neq (qint (qfld sd0 5)) 0) Bool.false)then
 bif (qsome (q38 [(D.int (qint (qfld sd0 5)))]))then
 bif (qinb sd2 0)then
 bif (qinb sd2 1)then
 some [(D.agg [(D.int 7),(D.int 0),(D.int 0),(D.int (qint (qget sd2 0))),(D.int (qint (qget sd2 1))),(D.int 0),(D.list [(D.agg [(D.int (qint (qfld (qnth (q38 [(D.int (qint (qfld sd0 5)))]) 0) 0))),(D.int (qint (qfld (qnth (q38 [(D.int (qint (qfld sd0 5)))]) 0) 1))),(D.int (qint (qfld (qnth (q38 [(D.int (qint (qfld sd0 5)))]) 0) 2))),(D.int (qint (qfld (qnth (q38 [(D.int (qint (qfld sd0 5)))]) 0) 3))),(qfld (qnth (q38 [(D.int (qint (qfld sd0 5)))]) 0) 4)])]),(D.list [])])]
 else
 none
 else
 none
 else
 none
 else
 bif (qinb sd2 0)then
 some [(D.agg [(D.int 6),(D.int 0),(D.int 0),(D.int (qint (qget sd2 0))),(D.int 0),(D.int 0),(D.list []),(D.list [])])]
 else
 none:=by kernel_rfl
noncomputable def q56:List D→Option (List D):=veil (F56)
theorem q56_eq:q56=F56:=veil_eq _
noncomputable def tb56:Tb:=Tb.addF tb54 56 S56 (q56)
theorem ok_tb56:TbOk env (tb56):=addFunF ok_tb54 56 (by kernel_rfl) _ (q56_eq)
def S21_9:LoopS:=⟨0,[uF,⟨false,(.rows 22)⟩,⟨true,(.int .i64)⟩,⟨false,(.ptr 0 0)⟩,uF,uF,⟨false,(.ptr 1 0)⟩,⟨false,(.lit (.int .i64 0))⟩,⟨false,(.lit (.int .i64 0))⟩,uF,⟨false,(.ptr 2 0)⟩,⟨true,(.int .i64)⟩,⟨false,(.ptr 4 0)⟩,⟨true,(.int .i64)⟩,uF,uF,uF,uF,uF,uF,uF,uF,uF,uF,uF,uF,uF,uF,uF,uF,uF,uF,uF,uF,uF,uF,uF,uF,uF,uF,uF,uF,uF,uF,uF,uF,uF,uF,uF,uF,uF,uF,uF,uF,uF,uF,uF,uF,uF,uF,uF,uF,uF,uF,uF,uF,uF,uF,uF,uF,uF,uF,uF,uF,uF,uF,uF,uF,uF,uF,uF,uF,uF,uF,uF,uF,uF,uF,uF,uF,uF,uF,uF,uF,uF,uF,uF,uF,uF,uF,uF,uF,uF,uF,uF,uF,uF,uF,uF,uF,uF,uF,uF,uF,uF,uF,uF],[(.cells [⟨false,(.lit (.int .u32 0))⟩,⟨false,(.lit (.int .u32 0))⟩,⟨false,(.lit (.int .i64 0))⟩,⟨false,(.lit (.int .i64 0))⟩,⟨false,(.lit (.int .i64 0))⟩,⟨false,(.lit (.int .i64 0))⟩,⟨false,(.lit (.int .i64 0))⟩,⟨false,(.lit (.int .i64 0))⟩,⟨false,(.lit (.int .i64 0))⟩]),(.lst true 91),(.cells [⟨false,(.int .u32)⟩,⟨false,(.osl 3 91)⟩]),(.cells [⟨false,(.lit (.int .u32 0))⟩,⟨false,(.lit (.slice none 0 0))⟩]),(.dat false 64)],[⟨0,0,[uT,⟨false,(.rows 22)⟩,⟨true,(.int .i64)⟩,⟨true,(.ptr 0 0)⟩,uT,uT,⟨true,(.ptr 1 0)⟩,⟨true,(.lit (.int .i64 0))⟩,⟨true,(.lit (.int .i64 0))⟩,uT,⟨true,(.ptr 2 0)⟩,uT,⟨true,(.ptr 4 0)⟩,uT,uT,uT,uT,uT,uT,uT,uT,uT,uT,uT,uT,uT,uT,uT,uT,uT,uT,uT,uT,uT,uT,uT,uT,uT,uT,uT,uT,uT,uT,uT,uT,uT,uT,uT,uT,uT,uT,uT,uT,uT,uT,uT,uT,uT,uT,uT,uT,uT,uT,uT,uT,uT,uT,uT,uT,uT,uT,uT,uT,uT,uT,uT,uT,uT,uT,uT,uT,uT,uT,uT,uT,uT,uT,uT,uT,uT,uT,uT,uT,uT,uT,uT,uT,uT,uT,uT,uT,uT,uT,uT,uT,uT,uT,uT,uT,uT,uT,uT,uT,uT,uT,uT,uT],[(.lst true 91),(.dat true 24), .skip,(.cells [⟨false,(.int .u32)⟩,⟨true,(.osl 5 91)⟩]),(.cells [⟨true,(.lit (.int .u32 0))⟩,⟨true,(.lit (.slice none 0 0))⟩]),(.dat false 64)]⟩]⟩
noncomputable def st21_9 (p s:List D):Option (Sum (List D) (List D)):=stepQX env tb56 60 12 21 (loopC 21 9) S21_9 p s
theorem st21_9_eq (pd0:D) (pn1:Int) (pd2:D) (sn0:Int) (sn1:Int) (sn2:Int) (sd3:D):st21_9 [pd0,(D.int pn1),pd2] [(D.int sn0),(D.int sn1),(D.int sn2),sd3] =
 bif (qinb (qfld pd2 2) sn2)then
 bif (qsome (q7 [(qget (qfld pd2 2) sn2),(D.int sn0)]))then
 bif (qmem (qlen (qapp sd3 (qnth (q7 [(qget (qfld pd2 2) sn2),(D.int sn0)]) 0))) 96)then
 bif (qcmp BinOp.eql (qint (qfld (qget (qfld pd2 2) sn2) 2)) 23)then
 bif (qmem (qlen (qapp (qapp sd3 (qnth (q7 [(qget (qfld pd2 2) sn2),(D.int sn0)]) 0)) (D.list [(D.agg [(D.int 5),(D.int 0),(D.int 0),(D.int 0),(D.int 0),(D.int (qint (qfld (qget (qfld pd2 2) sn2) 1))),(D.list []),(D.list [])])]))) 96)then
 bif (qcmp BinOp.eql sn2 (qbin BinOp.sub IntKind.i64 (qlen (qfld pd2 2)) 1))then
 some (Sum.inr [(D.int 0),(D.int (qint (qnth (q7 [(qget (qfld pd2 2) sn2),(D.int sn0)]) 1))),(qapp (qapp sd3 (qnth (q7 [(qget (qfld pd2 2) sn2),(D.int sn0)]) 0)) (D.list [(D.agg [(D.int 5),(D.int 0),(D.int 0),(D.int 0),(D.int 0),(D.int (qint (qfld (qget (qfld pd2 2) sn2) 1))),(D.list []),(D.list [])])])),(qget (qfld pd2 2) sn2)])
 else
 some (Sum.inl [(D.int (qint (qnth (q7 [(qget (qfld pd2 2) sn2),(D.int sn0)]) 1))),(D.int sn1),(D.int (qbin BinOp.add IntKind.i64 sn2 1)),(qapp (qapp sd3 (qnth (q7 [(qget (qfld pd2 2) sn2),(D.int sn0)]) 0)) (D.list [(D.agg [(D.int 5),(D.int 0),(D.int 0),(D.int 0),(D.int 0),(D.int (qint (qfld (qget (qfld pd2 2) sn2) 1))),(D.list []),(D.list [])])]))])
 else
 none
 else
 bif (qcmp BinOp.eql (qint (qfld (qget (qfld pd2 2) sn2) 2)) 24)then
 bif (qinb (qfld pd2 4) sn1)then
 bif (qinb (qget (qfld pd2 4) sn1) 0)then
 bif (qmem (qlen (qapp (qapp sd3 (qnth (q7 [(qget (qfld pd2 2) sn2),(D.int sn0)]) 0)) (D.list [(D.agg [(D.int 5),(D.int 0),(D.int 0),(D.int 0),(D.int 0),(D.int (qint (qget (qget (qfld pd2 4) sn1) 0))),(D.list []),(D.list [])])]))) 96)then
 bif (qcmp BinOp.eql sn2 (qbin BinOp.sub IntKind.i64 (qlen (qfld pd2 2)) 1))then
 some (Sum.inr [(D.int 0),(D.int (qint (qnth (q7 [(qget (qfld pd2 2) sn2),(D.int sn0)]) 1))),(qapp (qapp sd3 (qnth (q7 [(qget (qfld pd2 2) sn2),(D.int sn0)]) 0)) (D.list [(D.agg [(D.int 5),(D.int 0),(D.int 0),(D.int 0),(D.int 0),(D.int (qint (qget (qget (qfld pd2 4) sn1) 0))),(D.list []),(D.list [])])])),(qget (qfld pd2 2) sn2)])
 else
 some (Sum.inl [(D.int (qint (qnth (q7 [(qget (qfld pd2 2) sn2),(D.int sn0)]) 1))),(D.int (qbin BinOp.add IntKind.i64 sn1 1)),(D.int (qbin BinOp.add IntKind.i64 sn2 1)),(qapp (qapp sd3 (qnth (q7 [(qget (qfld pd2 2) sn2),(D.int sn0)]) 0)) (D.list [(D.agg [(D.int 5),(D.int 0),(D.int 0),(D.int 0),(D.int 0),(D.int (qint (qget (qget (qfld pd2 4) sn1) 0))),(D.list []),(D.list [])])]))])
 else
 none
 else
 none
 else
 none
 else
 bif (qcmp BinOp.eql sn2 (qbin BinOp.sub IntKind.i64 (qlen (qfld pd2 2)) 1))then
 some (Sum.inr [(D.int 0),(D.int (qint (qnth (q7 [(qget (qfld pd2 2) sn2),(D.int sn0)]) 1))),(qapp sd3 (qnth (q7 [(qget (qfld pd2 2) sn2),(D.int sn0)]) 0)),(qget (qfld pd2 2) sn2)])
 else
 some (Sum.inl [(D.int (qint (qnth (q7 [(qget (qfld pd2 2) sn2),(D.int sn0)]) 1))),(D.int sn1),(D.int (qbin BinOp.add IntKind.i64 sn2 1)),(qapp sd3 (qnth (q7 [(qget (qfld pd2 2) sn2),(D.int sn0)]) 0))])
 else
 none
 else
 none
 else
 none:=by
 have h:st21_9 [pd0,(D.int pn1),pd2] [(D.int sn0),(D.int sn1),(D.int sn2),sd3] =
  bif (qinb (qfld pd2 2) sn2)then
  bif (qsome (q7 [(qget (qfld pd2 2) sn2),(D.int sn0)]))then
  bif (qcmp BinOp.eql (qlen sd3) (qlen sd3))then
  bif (qmem (qlen (qapp sd3 (qnth (q7 [(qget (qfld pd2 2) sn2),(D.int sn0)]) 0))) 96)then
  bif (qcmp BinOp.eql (qint (qfld (qget (qfld pd2 2) sn2) 2)) 23)then
  bif (qcmp BinOp.eql (qlen (qapp sd3 (qnth (q7 [(qget (qfld pd2 2) sn2),(D.int sn0)]) 0))) (qlen (qapp sd3 (qnth (q7 [(qget (qfld pd2 2) sn2),(D.int sn0)]) 0))))then
  bif (qmem (qlen (qapp (qapp sd3 (qnth (q7 [(qget (qfld pd2 2) sn2),(D.int sn0)]) 0)) (D.list [(D.agg [(D.int 5),(D.int 0),(D.int 0),(D.int 0),(D.int 0),(D.int (qint (qfld (qget (qfld pd2 2) sn2) 1))),(D.list []),(D.list [])])]))) 96)then
  bif (qcmp BinOp.eql sn2 (qbin BinOp.sub IntKind.i64 (qlen (qfld pd2 2)) 1))then
  bif (qcmp BinOp.eql (qlen (qapp (qapp sd3 (qnth (q7 [(qget (qfld pd2 2) sn2),(D.int sn0)]) 0)) (D.list [(D.agg [(D.int 5),(D.int 0),(D.int 0),(D.int 0),(D.int 0),(D.int (qint (qfld (qget (qfld pd2 2) sn2) 1))),(D.list []),(D.list [])])]))) (qlen (qapp (qapp sd3 (qnth (q7 [(qget (qfld pd2 2) sn2),(D.int sn0)]) 0)) (D.list [(D.agg [(D.int 5),(D.int 0),(D.int 0),(D.int 0),(D.int 0),(D.int (qint (qfld (qget (qfld pd2 2) sn2) 1))),(D.list []),(D.list [])])]))))then
  bif (qeqD pd0 pd0)then
  bif (qeqD (D.int pn1) (D.int pn1))then
  bif (qeqD pd2 pd2)then
  some (Sum.inr [(D.int 0),(D.int (qint (qnth (q7 [(qget (qfld pd2 2) sn2),(D.int sn0)]) 1))),(qapp (qapp sd3 (qnth (q7 [(qget (qfld pd2 2) sn2),(D.int sn0)]) 0)) (D.list [(D.agg [(D.int 5),(D.int 0),(D.int 0),(D.int 0),(D.int 0),(D.int (qint (qfld (qget (qfld pd2 2) sn2) 1))),(D.list []),(D.list [])])])),(qget (qfld pd2 2) sn2)])
  else
  none
  else
  none
  else
  none
  else
  none
  else
  bif (qcmp BinOp.eql (qlen (qapp (qapp sd3 (qnth (q7 [(qget (qfld pd2 2) sn2),(D.int sn0)]) 0)) (D.list [(D.agg [(D.int 5),(D.int 0),(D.int 0),(D.int 0),(D.int 0),(D.int (qint (qfld (qget (qfld pd2 2) sn2) 1))),(D.list []),(D.list [])])]))) (qlen (qapp (qapp sd3 (qnth (q7 [(qget (qfld pd2 2) sn2),(D.int sn0)]) 0)) (D.list [(D.agg [(D.int 5),(D.int 0),(D.int 0),(D.int 0),(D.int 0),(D.int (qint (qfld (qget (qfld pd2 2) sn2) 1))),(D.list []),(D.list [])])]))))then
  bif (qeqD pd0 pd0)then
  bif (qeqD (D.int pn1) (D.int pn1))then
  bif (qeqD pd2 pd2)then
  some (Sum.inl [(D.int (qint (qnth (q7 [(qget (qfld pd2 2) sn2),(D.int sn0)]) 1))),(D.int sn1),(D.int (qbin BinOp.add IntKind.i64 sn2 1)),(qapp (qapp sd3 (qnth (q7 [(qget (qfld pd2 2) sn2),(D.int sn0)]) 0)) (D.list [(D.agg [(D.int 5),(D.int 0),(D.int 0),(D.int 0),(D.int 0),(D.int (qint (qfld (qget (qfld pd2 2) sn2) 1))),(D.list []),(D.list [])])]))])
  else
  none
  else
  none
  else
  none
  else
  none
  else
  none
  else
  none
  else
  bif (qcmp BinOp.eql (qint (qfld (qget (qfld pd2 2) sn2) 2)) 24)then
  bif (qinb (qfld pd2 4) sn1)then
  bif (qinb (qget (qfld pd2 4) sn1) 0)then
  bif (qcmp BinOp.eql (qlen (qapp sd3 (qnth (q7 [(qget (qfld pd2 2) sn2),(D.int sn0)]) 0))) (qlen (qapp sd3 (qnth (q7 [(qget (qfld pd2 2) sn2),(D.int sn0)]) 0))))then
  bif (qmem (qlen (qapp (qapp sd3 (qnth (q7 [(qget (qfld pd2 2) sn2),(D.int sn0)]) 0)) (D.list [(D.agg [(D.int 5),(D.int 0),(D.int 0),(D.int 0),(D.int 0),(D.int (qint (qget (qget (qfld pd2 4) sn1) 0))),(D.list []),(D.list [])])]))) 96)then
  bif (qcmp BinOp.eql sn2 (qbin BinOp.sub IntKind.i64 (qlen (qfld pd2 2)) 1))then
  bif (qcmp BinOp.eql (qlen (qapp (qapp sd3 (qnth (q7 [(qget (qfld pd2 2) sn2),(D.int sn0)]) 0)) (D.list [(D.agg [(D.int 5),(D.int 0),(D.int 0),(D.int 0),(D.int 0),(D.int (qint (qget (qget (qfld pd2 4) sn1) 0))),(D.list []),(D.list [])])]))) (qlen (qapp (qapp sd3 (qnth (q7 [(qget (qfld pd2 2) sn2),(D.int sn0)]) 0)) (D.list [(D.agg [(D.int 5),(D.int 0),(D.int 0),(D.int 0),(D.int 0),(D.int (qint (qget (qget (qfld pd2 4) sn1) 0))),(D.list []),(D.list [])])]))))then
  bif (qeqD pd0 pd0)then
  bif (qeqD (D.int pn1) (D.int pn1))then
  bif (qeqD pd2 pd2)then
  some (Sum.inr [(D.int 0),(D.int (qint (qnth (q7 [(qget (qfld pd2 2) sn2),(D.int sn0)]) 1))),(qapp (qapp sd3 (qnth (q7 [(qget (qfld pd2 2) sn2),(D.int sn0)]) 0)) (D.list [(D.agg [(D.int 5),(D.int 0),(D.int 0),(D.int 0),(D.int 0),(D.int (qint (qget (qget (qfld pd2 4) sn1) 0))),(D.list []),(D.list [])])])),(qget (qfld pd2 2) sn2)])
  else
  none
  else
  none
  else
  none
  else
  none
  else
  bif (qcmp BinOp.eql (qlen (qapp (qapp sd3 (qnth (q7 [(qget (qfld pd2 2) sn2),(D.int sn0)]) 0)) (D.list [(D.agg [(D.int 5),(D.int 0),(D.int 0),(D.int 0),(D.int 0),(D.int (qint (qget (qget (qfld pd2 4) sn1) 0))),(D.list []),(D.list [])])]))) (qlen (qapp (qapp sd3 (qnth (q7 [(qget (qfld pd2 2) sn2),(D.int sn0)]) 0)) (D.list [(D.agg [(D.int 5),(D.int 0),(D.int 0),(D.int 0),(D.int 0),(D.int (qint (qget (qget (qfld pd2 4) sn1) 0))),(D.list []),(D.list [])])]))))then
  bif (qeqD pd0 pd0)then
  bif (qeqD (D.int pn1) (D.int pn1))then
  bif (qeqD pd2 pd2)then
  some (Sum.inl [(D.int (qint (qnth (q7 [(qget (qfld pd2 2) sn2),(D.int sn0)]) 1))),(D.int (qbin BinOp.add IntKind.i64 sn1 1)),(D.int (qbin BinOp.add IntKind.i64 sn2 1)),(qapp (qapp sd3 (qnth (q7 [(qget (qfld pd2 2) sn2),(D.int sn0)]) 0)) (D.list [(D.agg [(D.int 5),(D.int 0),(D.int 0),(D.int 0),(D.int 0),(D.int (qint (qget (qget (qfld pd2 4) sn1) 0))),(D.list []),(D.list [])])]))])
  else
  none
  else
  none
  else
  none
  else
  none
  else
  none
  else
  none
  else
  none
  else
  none
  else
  bif (qcmp BinOp.eql sn2 (qbin BinOp.sub IntKind.i64 (qlen (qfld pd2 2)) 1))then
  bif (qcmp BinOp.eql (qlen (qapp sd3 (qnth (q7 [(qget (qfld pd2 2) sn2),(D.int sn0)]) 0))) (qlen (qapp sd3 (qnth (q7 [(qget (qfld pd2 2) sn2),(D.int sn0)]) 0))))then
  bif (qeqD pd0 pd0)then
  bif (qeqD (D.int pn1) (D.int pn1))then
  bif (qeqD pd2 pd2)then
  some (Sum.inr [(D.int 0),(D.int (qint (qnth (q7 [(qget (qfld pd2 2) sn2),(D.int sn0)]) 1))),(qapp sd3 (qnth (q7 [(qget (qfld pd2 2) sn2),(D.int sn0)]) 0)),(qget (qfld pd2 2) sn2)])
  else
  none
  else
  none
  else
  none
  else
  none
  else
  bif (qcmp BinOp.eql (qlen (qapp sd3 (qnth (q7 [(qget (qfld pd2 2) sn2),(D.int sn0)]) 0))) (qlen (qapp sd3 (qnth (q7 [(qget (qfld pd2 2) sn2),(D.int sn0)]) 0))))then
  bif (qeqD pd0 pd0)then
  bif (qeqD (D.int pn1) (D.int pn1))then
  bif (qeqD pd2 pd2)then
  some (Sum.inl [(D.int (qint (qnth (q7 [(qget (qfld pd2 2) sn2),(D.int sn0)]) 1))),(D.int sn1),(D.int (qbin BinOp.add IntKind.i64 sn2 1)),(qapp sd3 (qnth (q7 [(qget (qfld pd2 2) sn2),(D.int sn0)]) 0))])
  else
  none
  else
  none
  else
  none
  else
  none
  else
  none
  else
  none
  else
  none
  else
  none:=by kernel_rfl
 rw[h];simp only[qeqD_self,qeqI_self,qeq_len,show qcmp BinOp.eql 0 (qlen (D.list []))=true from qeq_len [],show∀a,qcmp BinOp.eql 1 (qlen (D.list [a]))=true from fun a=>qeq_len [a],show∀a b,qcmp BinOp.eql 2 (qlen (D.list [a,b]))=true from fun a b=>qeq_len [a,b],show∀a b c,qcmp BinOp.eql 3 (qlen (D.list [a,b,c]))=true from fun a b c=>qeq_len [a,b,c],show∀a b c d,qcmp BinOp.eql 4 (qlen (D.list [a,b,c,d]))=true from fun a b c d=>qeq_len [a,b,c,d],cond_true]
noncomputable def l21_9:List D→List D→Option (List D):=veil fun p s=>loW (st21_9 p) s
theorem l21_9_eq:l21_9=fun p s=>loW (st21_9 p) s:=veil_eq _
noncomputable def tbl21_9:Tb:=Tb.addL tb56 21 9 S21_9.n0 (mkLp S21_9 (l21_9))
theorem ok_tbl21_9:TbOk env (tbl21_9):=addLoopQ ok_tb56 21 9 (by kernel_rfl) _ (l21_9_eq)
def S21_24:LoopS:=⟨0,[uF,⟨false,(.rows 22)⟩,⟨false,(.int .i64)⟩,uF,uF,uF,⟨false,(.ptr 0 0)⟩,⟨false,(.lit (.int .i64 0))⟩,⟨false,(.lit (.int .i64 0))⟩,uF,⟨false,(.ptr 1 0)⟩,uF,⟨false,(.ptr 3 0)⟩,uF,uF,uF,uF,⟨false,(.rows 22)⟩,⟨false,(.osl 4 3)⟩,uF,uF,uF,uF,uF,uF,uF,uF,uF,uF,uF,uF,uF,uF,uF,uF,uF,uF,uF,uF,uF,uF,uF,uF,uF,uF,uF,uF,uF,uF,uF,uF,uF,uF,uF,uF,uF,uF,uF,uF,uF,uF,uF,uF,uF,uF,uF,uF,uF,uF,uF,uF,uF,uF,uF,uF,uF,uF,uF,uF,uF,uF,uF,uF,uF,uF,uF,uF,uF,uF,⟨false,(.rows 22)⟩,⟨false,(.int .i64)⟩,⟨true,(.int .i64)⟩,uF,uF,uF,uF,uF,uF,uF,uF,uF,uF,uF,uF,uF,uF,uF,uF,uF,uF,uF,uF,uF,uF,uF,uF,uF],[(.lst true 3),(.dat false 24),(.lst false 91),(.cells [⟨false,(.int .u32)⟩,⟨false,(.osl 2 91)⟩]),(.cells [⟨false,(.lit (.int .u32 0))⟩,⟨false,(.lit (.slice none 0 0))⟩])],[⟨0,3,[uT,⟨false,(.rows 22)⟩,⟨false,(.int .i64)⟩,uT,uT,uT,⟨true,(.ptr 0 0)⟩,⟨true,(.lit (.int .i64 0))⟩,⟨true,(.lit (.int .i64 0))⟩,uT,⟨true,(.ptr 1 0)⟩,uT,⟨true,(.ptr 3 0)⟩,uT,uT,uT,uT,⟨false,(.rows 22)⟩,⟨true,(.osl 4 3)⟩,uT,uT,uT,uT,uT,uT,uT,uT,uT,uT,uT,uT,uT,uT,uT,uT,uT,uT,uT,uT,uT,uT,uT,uT,uT,uT,uT,uT,uT,uT,uT,uT,uT,uT,uT,uT,uT,uT,uT,uT,uT,uT,uT,uT,uT,uT,uT,uT,uT,uT,uT,uT,uT,uT,uT,uT,uT,uT,uT,uT,uT,uT,uT,uT,uT,uT,uT,uT,uT,uT,⟨false,(.rows 22)⟩,⟨false,(.int .i64)⟩,uT,uT,uT,uT,uT,uT,uT,uT,uT,uT,uT,uT,uT,uT,uT,uT,uT,uT,uT,uT,uT,uT,uT,uT,uT,uT],[(.lst true 3),(.dat false 24),(.lst false 91),(.cells [⟨false,(.int .u32)⟩,⟨true,(.osl 2 91)⟩]),(.cells [⟨true,(.lit (.int .u32 0))⟩,⟨true,(.lit (.slice none 0 0))⟩])]⟩,⟨1,0,[uT,⟨false,(.rows 22)⟩,⟨false,(.int .i64)⟩,uT,uT,uT,⟨true,(.ptr 0 0)⟩,⟨true,(.lit (.int .i64 0))⟩,⟨true,(.lit (.int .i64 9))⟩,uT,uT,uT,uT,uT,uT,uT,uT,⟨false,(.rows 22)⟩,uT,uT,uT,uT,uT,uT,uT,uT,uT,uT,uT,uT,uT,uT,uT,uT,uT,uT,uT,uT,uT,uT,uT,uT,uT,uT,uT,uT,uT,uT,uT,uT,uT,uT,uT,uT,uT,uT,uT,uT,uT,uT,uT,uT,uT,uT,uT,uT,uT,uT,uT,uT,uT,uT,uT,uT,uT,uT,uT,uT,uT,uT,uT,uT,uT,uT,uT,uT,uT,uT,uT,⟨false,(.rows 22)⟩,⟨false,(.int .i64)⟩,uT,uT,uT,uT,uT,uT,uT,uT,uT,uT,uT,uT,uT,uT,uT,uT,uT,uT,uT,uT,uT,uT,uT,uT,uT,uT],[.skip,(.dat false 24),(.lst false 91),(.cells [⟨false,(.int .u32)⟩,uT]),(.cells [⟨true,(.lit (.int .u32 0))⟩,⟨true,(.lit (.slice none 0 0))⟩])]⟩]⟩
noncomputable def st21_24 (p s:List D):Option (Sum (List D) (List D)):=stepQX env tbl21_9 60 12 21 (loopC 21 24) S21_24 p s
theorem st21_24_eq (pd0:D) (pn1:Int) (pd2:D) (pd3:D) (pn4:Int) (pd5:D) (pd6:D) (pn7:Int) (sn0:Int) (sd1:D):st21_24 [pd0,(D.int pn1),pd2,pd3,(D.int pn4),pd5,pd6,(D.int pn7)] [(D.int sn0),sd1] =
 bif (qcmp BinOp.lss sn0 pn4)then
 bif (qinb pd3 sn0)then
 bif (qsome (q55 [pd0,(D.int (qint (qget pd3 sn0)))]))then
 bif (qcmp BinOp.lss (qint (qnth (q55 [pd0,(D.int (qint (qget pd3 sn0)))]) 0)) 0)then
 some (Sum.inr [(D.int 1)])
 else
 bif (qmem (qlen (qapp sd1 (D.list [(D.int (qint (qnth (q55 [pd0,(D.int (qint (qget pd3 sn0)))]) 0)))]))) 8)then
 some (Sum.inl [(D.int (qbin BinOp.add IntKind.i64 sn0 1)),(qapp sd1 (D.list [(D.int (qint (qnth (q55 [pd0,(D.int (qint (qget pd3 sn0)))]) 0)))]))])
 else
 none
 else
 none
 else
 none
 else
 some (Sum.inr [(D.int 0),sd1]):=by
 have h:st21_24 [pd0,(D.int pn1),pd2,pd3,(D.int pn4),pd5,pd6,(D.int pn7)] [(D.int sn0),sd1] =
  bif (qcmp BinOp.lss sn0 pn4)then
  bif (qinb pd3 sn0)then
  bif (qsome (q55 [pd0,(D.int (qint (qget pd3 sn0)))]))then
  bif (qcmp BinOp.lss (qint (qnth (q55 [pd0,(D.int (qint (qget pd3 sn0)))]) 0)) 0)then
  bif (qeqD pd0 pd0)then
  bif (qeqD (D.int pn1) (D.int pn1))then
  bif (qeqD pd2 pd2)then
  bif (qeqD pd3 pd3)then
  bif (qeqD (D.int pn4) (D.int pn4))then
  bif (qeqD pd5 pd5)then
  bif (qeqD pd6 pd6)then
  bif (qeqD (D.int pn7) (D.int pn7))then
  some (Sum.inr [(D.int 1)])
  else
  none
  else
  none
  else
  none
  else
  none
  else
  none
  else
  none
  else
  none
  else
  none
  else
  bif (qcmp BinOp.eql (qlen sd1) (qlen sd1))then
  bif (qmem (qlen (qapp sd1 (D.list [(D.int (qint (qnth (q55 [pd0,(D.int (qint (qget pd3 sn0)))]) 0)))]))) 8)then
  bif (qcmp BinOp.eql (qlen (qapp sd1 (D.list [(D.int (qint (qnth (q55 [pd0,(D.int (qint (qget pd3 sn0)))]) 0)))]))) (qlen (qapp sd1 (D.list [(D.int (qint (qnth (q55 [pd0,(D.int (qint (qget pd3 sn0)))]) 0)))]))))then
  bif (qcmp BinOp.eql (qlen pd6) (qlen pd6))then
  bif (qeqD pd0 pd0)then
  bif (qeqD (D.int pn1) (D.int pn1))then
  bif (qeqD pd2 pd2)then
  bif (qeqD pd3 pd3)then
  bif (qeqD (D.int pn4) (D.int pn4))then
  bif (qeqD pd5 pd5)then
  bif (qeqD pd6 pd6)then
  bif (qeqD (D.int pn7) (D.int pn7))then
  some (Sum.inl [(D.int (qbin BinOp.add IntKind.i64 sn0 1)),(qapp sd1 (D.list [(D.int (qint (qnth (q55 [pd0,(D.int (qint (qget pd3 sn0)))]) 0)))]))])
  else
  none
  else
  none
  else
  none
  else
  none
  else
  none
  else
  none
  else
  none
  else
  none
  else
  none
  else
  none
  else
  none
  else
  none
  else
  none
  else
  none
  else
  bif (qcmp BinOp.eql (qlen sd1) (qlen sd1))then
  bif (qcmp BinOp.eql (qlen pd6) (qlen pd6))then
  bif (qeqD pd0 pd0)then
  bif (qeqD (D.int pn1) (D.int pn1))then
  bif (qeqD pd2 pd2)then
  bif (qeqD pd3 pd3)then
  bif (qeqD (D.int pn4) (D.int pn4))then
  bif (qeqD pd5 pd5)then
  bif (qeqD pd6 pd6)then
  bif (qeqD (D.int pn7) (D.int pn7))then
  some (Sum.inr [(D.int 0),sd1])
  else
  none
  else
  none
  else
  none
  else
  none
  else
  none
  else
  none
  else
  none
  else
  none
  else
  none
  else
  none:=by kernel_rfl
 rw[h];simp only[qeqD_self,qeqI_self,qeq_len,show qcmp BinOp.eql 0 (qlen (D.list []))=true from qeq_len [],show∀a,qcmp BinOp.eql 1 (qlen (D.list [a]))=true from fun a=>qeq_len [a],show∀a b,qcmp BinOp.eql 2 (qlen (D.list [a,b]))=true from fun a b=>qeq_len [a,b],show∀a b c,qcmp BinOp.eql 3 (qlen (D.list [a,b,c]))=true from fun a b c=>qeq_len [a,b,c],show∀a b c d,qcmp BinOp.eql 4 (qlen (D.list [a,b,c,d]))=true from fun a b c d=>qeq_len [a,b,c,d],cond_true]
noncomputable def l21_24:List D→List D→Option (List D):=veil fun p s=>loW (st21_24 p) s
theorem l21_24_eq:l21_24=fun p s=>loW (st21_24 p) s:=veil_eq _
noncomputable def tbl21_24:Tb:=Tb.addL tbl21_9 21 24 S21_24.n0 (mkLp S21_24 (l21_24))
theorem ok_tbl21_24:TbOk env (tbl21_24):=addLoopQ ok_tbl21_9 21 24 (by kernel_rfl) _ (l21_24_eq)
def S21:FunS:=⟨[⟨true,(.dat 64)⟩,⟨true,(.rows 22)⟩,⟨true,(.int .i64)⟩],[],[⟨true,(.tup [(.agg [(.int .u32),(.rows 91)]),(.int .i64),(.int .i64)])⟩],[]⟩
noncomputable def F21:List D→Option (List D):=liftX env tbl21_24 60 12 21 S21
noncomputable def F21_a0 (sd0:D) (sd1:D) (sn2:Int):D:=(D.agg [(D.int (qint (qfld (qnth (q56 [(qnth (l21_9 [sd1,(D.int (qint (qfld sd0 0))),sd0] [(D.int sn2),(D.int 0),(D.int 0),(D.list [])]) 3),(qnth (q54 [sd0,(qnth (l21_9 [sd1,(D.int (qint (qfld sd0 0))),sd0] [(D.int sn2),(D.int 0),(D.int 0),(D.list [])]) 3)]) 0),(qnth (l21_24 [sd1,(D.int (qint (qnth (l21_9 [sd1,(D.int (qint (qfld sd0 0))),sd0] [(D.int sn2),(D.int 0),(D.int 0),(D.list [])]) 1))),(qnth (q54 [sd0,(qnth (l21_9 [sd1,(D.int (qint (qfld sd0 0))),sd0] [(D.int sn2),(D.int 0),(D.int 0),(D.list [])]) 3)]) 0),(qnth (q54 [sd0,(qnth (l21_9 [sd1,(D.int (qint (qfld sd0 0))),sd0] [(D.int sn2),(D.int 0),(D.int 0),(D.list [])]) 3)]) 0),(D.int (qlen (qnth (q54 [sd0,(qnth (l21_9 [sd1,(D.int (qint (qfld sd0 0))),sd0] [(D.int sn2),(D.int 0),(D.int 0),(D.list [])]) 3)]) 0))),(qnth (l21_9 [sd1,(D.int (qint (qfld sd0 0))),sd0] [(D.int sn2),(D.int 0),(D.int 0),(D.list [])]) 3),(qnth (l21_9 [sd1,(D.int (qint (qfld sd0 0))),sd0] [(D.int sn2),(D.int 0),(D.int 0),(D.list [])]) 2),(D.int (qint (qfld sd0 0)))] [(D.int 0),(D.list [])]) 1)]) 0) 0))),(D.int (qint (qfld (qnth (q56 [(qnth (l21_9 [sd1,(D.int (qint (qfld sd0 0))),sd0] [(D.int sn2),(D.int 0),(D.int 0),(D.list [])]) 3),(qnth (q54 [sd0,(qnth (l21_9 [sd1,(D.int (qint (qfld sd0 0))),sd0] [(D.int sn2),(D.int 0),(D.int 0),(D.list [])]) 3)]) 0),(qnth (l21_24 [sd1,(D.int (qint (qnth (l21_9 [sd1,(D.int (qint (qfld sd0 0))),sd0] [(D.int sn2),(D.int 0),(D.int 0),(D.list [])]) 1))),(qnth (q54 [sd0,(qnth (l21_9 [sd1,(D.int (qint (qfld sd0 0))),sd0] [(D.int sn2),(D.int 0),(D.int 0),(D.list [])]) 3)]) 0),(qnth (q54 [sd0,(qnth (l21_9 [sd1,(D.int (qint (qfld sd0 0))),sd0] [(D.int sn2),(D.int 0),(D.int 0),(D.list [])]) 3)]) 0),(D.int (qlen (qnth (q54 [sd0,(qnth (l21_9 [sd1,(D.int (qint (qfld sd0 0))),sd0] [(D.int sn2),(D.int 0),(D.int 0),(D.list [])]) 3)]) 0))),(qnth (l21_9 [sd1,(D.int (qint (qfld sd0 0))),sd0] [(D.int sn2),(D.int 0),(D.int 0),(D.list [])]) 3),(qnth (l21_9 [sd1,(D.int (qint (qfld sd0 0))),sd0] [(D.int sn2),(D.int 0),(D.int 0),(D.list [])]) 2),(D.int (qint (qfld sd0 0)))] [(D.int 0),(D.list [])]) 1)]) 0) 1))),(D.int (qint (qfld (qnth (q56 [(qnth (l21_9 [sd1,(D.int (qint (qfld sd0 0))),sd0] [(D.int sn2),(D.int 0),(D.int 0),(D.list [])]) 3),(qnth (q54 [sd0,(qnth (l21_9 [sd1,(D.int (qint (qfld sd0 0))),sd0] [(D.int sn2),(D.int 0),(D.int 0),(D.list [])]) 3)]) 0),(qnth (l21_24 [sd1,(D.int (qint (qnth (l21_9 [sd1,(D.int (qint (qfld sd0 0))),sd0] [(D.int sn2),(D.int 0),(D.int 0),(D.list [])]) 1))),(qnth (q54 [sd0,(qnth (l21_9 [sd1,(D.int (qint (qfld sd0 0))),sd0] [(D.int sn2),(D.int 0),(D.int 0),(D.list [])]) 3)]) 0),(qnth (q54 [sd0,(qnth (l21_9 [sd1,(D.int (qint (qfld sd0 0))),sd0] [(D.int sn2),(D.int 0),(D.int 0),(D.list [])]) 3)]) 0),(D.int (qlen (qnth (q54 [sd0,(qnth (l21_9 [sd1,(D.int (qint (qfld sd0 0))),sd0] [(D.int sn2),(D.int 0),(D.int 0),(D.list [])]) 3)]) 0))),(qnth (l21_9 [sd1,(D.int (qint (qfld sd0 0))),sd0] [(D.int sn2),(D.int 0),(D.int 0),(D.list [])]) 3),(qnth (l21_9 [sd1,(D.int (qint (qfld sd0 0))),sd0] [(D.int sn2),(D.int 0),(D.int 0),(D.list [])]) 2),(D.int (qint (qfld sd0 0)))] [(D.int 0),(D.list [])]) 1)]) 0) 2))),(D.int (qint (qfld (qnth (q56 [(qnth (l21_9 [sd1,(D.int (qint (qfld sd0 0))),sd0] [(D.int sn2),(D.int 0),(D.int 0),(D.list [])]) 3),(qnth (q54 [sd0,(qnth (l21_9 [sd1,(D.int (qint (qfld sd0 0))),sd0] [(D.int sn2),(D.int 0),(D.int 0),(D.list [])]) 3)]) 0),(qnth (l21_24 [sd1,(D.int (qint (qnth (l21_9 [sd1,(D.int (qint (qfld sd0 0))),sd0] [(D.int sn2),(D.int 0),(D.int 0),(D.list [])]) 1))),(qnth (q54 [sd0,(qnth (l21_9 [sd1,(D.int (qint (qfld sd0 0))),sd0] [(D.int sn2),(D.int 0),(D.int 0),(D.list [])]) 3)]) 0),(qnth (q54 [sd0,(qnth (l21_9 [sd1,(D.int (qint (qfld sd0 0))),sd0] [(D.int sn2),(D.int 0),(D.int 0),(D.list [])]) 3)]) 0),(D.int (qlen (qnth (q54 [sd0,(qnth (l21_9 [sd1,(D.int (qint (qfld sd0 0))),sd0] [(D.int sn2),(D.int 0),(D.int 0),(D.list [])]) 3)]) 0))),(qnth (l21_9 [sd1,(D.int (qint (qfld sd0 0))),sd0] [(D.int sn2),(D.int 0),(D.int 0),(D.list [])]) 3),(qnth (l21_9 [sd1,(D.int (qint (qfld sd0 0))),sd0] [(D.int sn2),(D.int 0),(D.int 0),(D.list [])]) 2),(D.int (qint (qfld sd0 0)))] [(D.int 0),(D.list [])]) 1)]) 0) 3))),(D.int (qint (qfld (qnth (q56 [(qnth (l21_9 [sd1,(D.int (qint (qfld sd0 0))),sd0] [(D.int sn2),(D.int 0),(D.int 0),(D.list [])]) 3),(qnth (q54 [sd0,(qnth (l21_9 [sd1,(D.int (qint (qfld sd0 0))),sd0] [(D.int sn2),(D.int 0),(D.int 0),(D.list [])]) 3)]) 0),(qnth (l21_24 [sd1,(D.int (qint (qnth (l21_9 [sd1,(D.int (qint (qfld sd0 0))),sd0] [(D.int sn2),(D.int 0),(D.int 0),(D.list [])]) 1))),(qnth (q54 [sd0,(qnth (l21_9 [sd1,(D.int (qint (qfld sd0 0))),sd0] [(D.int sn2),(D.int 0),(D.int 0),(D.list [])]) 3)]) 0),(qnth (q54 [sd0,(qnth (l21_9 [sd1,(D.int (qint (qfld sd0 0))),sd0] [(D.int sn2),(D.int 0),(D.int 0),(D.list [])]) 3)]) 0),(D.int (qlen (qnth (q54 [sd0,(qnth (l21_9 [sd1,(D.int (qint (qfld sd0 0))),sd0] [(D.int sn2),(D.int 0),(D.int 0),(D.list [])]) 3)]) 0))),(qnth (l21_9 [sd1,(D.int (qint (qfld sd0 0))),sd0] [(D.int sn2),(D.int 0),(D.int 0),(D.list [])]) 3),(qnth (l21_9 [sd1,(D.int (qint (qfld sd0 0))),sd0] [(D.int sn2),(D.int 0),(D.int 0),(D.list [])]) 2),(D.int (qint (qfld sd0 0)))] [(D.int 0),(D.list [])]) 1)]) 0) 4))),(D.int (qint (qfld (qnth (q56 [(qnth (l21_9 [sd1,(D.int (qint (qfld sd0 0))),sd0] [(D.int sn2),(D.int 0),(D.int 0),(D.list [])]) 3),(qnth (q54 [sd0,(qnth (l21_9 [sd1,(D.int (qint (qfld sd0 0))),sd0] [(D.int sn2),(D.int 0),(D.int 0),(D.list [])]) 3)]) 0),(qnth (l21_24 [sd1,(D.int (qint (qnth (l21_9 [sd1,(D.int (qint (qfld sd0 0))),sd0] [(D.int sn2),(D.int 0),(D.int 0),(D.list [])]) 1))),(qnth (q54 [sd0,(qnth (l21_9 [sd1,(D.int (qint (qfld sd0 0))),sd0] [(D.int sn2),(D.int 0),(D.int 0),(D.list [])]) 3)]) 0),(qnth (q54 [sd0,(qnth (l21_9 [sd1,(D.int (qint (qfld sd0 0))),sd0] [(D.int sn2),(D.int 0),(D.int 0),(D.list [])]) 3)]) 0),(D.int (qlen (qnth (q54 [sd0,(qnth (l21_9 [sd1,(D.int (qint (qfld sd0 0))),sd0] [(D.int sn2),(D.int 0),(D.int 0),(D.list [])]) 3)]) 0))),(qnth (l21_9 [sd1,(D.int (qint (qfld sd0 0))),sd0] [(D.int sn2),(D.int 0),(D.int 0),(D.list [])]) 3),(qnth (l21_9 [sd1,(D.int (qint (qfld sd0 0))),sd0] [(D.int sn2),(D.int 0),(D.int 0),(D.list [])]) 2),(D.int (qint (qfld sd0 0)))] [(D.int 0),(D.list [])]) 1)]) 0) 5))),(qfld (qnth (q56 [(qnth (l21_9 [sd1,(D.int (qint (qfld sd0 0))),sd0] [(D.int sn2),(D.int 0),(D.int 0),(D.list [])]) 3),(qnth (q54 [sd0,(qnth (l21_9 [sd1,(D.int (qint (qfld sd0 0))),sd0] [(D.int sn2),(D.int 0),(D.int 0),(D.list [])]) 3)]) 0),(qnth (l21_24 [sd1,(D.int (qint (qnth (l21_9 [sd1,(D.int (qint (qfld sd0 0))),sd0] [(D.int sn2),(D.int 0),(D.int 0),(D.list [])]) 1))),(qnth (q54 [sd0,(qnth (l21_9 [sd1,(D.int (qint (qfld sd0 0))),sd0] [(D.int sn2),(D.int 0),(D.int 0),(D.list [])]) 3)]) 0),(qnth (q54 [sd0,(qnth (l21_9 [sd1,(D.int (qint (qfld sd0 0))),sd0] [(D.int sn2),(D.int 0),(D.int 0),(D.list [])]) 3)]) 0),(D.int (qlen (qnth (q54 [sd0,(qnth (l21_9 [sd1,(D.int (qint (qfld sd0 0))),sd0] [(D.int sn2),(D.int 0),(D.int 0),(D.list [])]) 3)]) 0))),(qnth (l21_9 [sd1,(D.int (qint (qfld sd0 0))),sd0] [(D.int sn2),(D.int 0),(D.int 0),(D.list [])]) 3),(qnth (l21_9 [sd1,(D.int (qint (qfld sd0 0))),sd0] [(D.int sn2),(D.int 0),(D.int 0),(D.list [])]) 2),(D.int (qint (qfld sd0 0)))] [(D.int 0),(D.list [])]) 1)]) 0) 6),(qfld (qnth (q56 [(qnth (l21_9 [sd1,(D.int (qint (qfld sd0 0))),sd0] [(D.int sn2),(D.int 0),(D.int 0),(D.list [])]) 3),(qnth (q54 [sd0,(qnth (l21_9 [sd1,(D.int (qint (qfld sd0 0))),sd0] [(D.int sn2),(D.int 0),(D.int 0),(D.list [])]) 3)]) 0),(qnth (l21_24 [sd1,(D.int (qint (qnth (l21_9 [sd1,(D.int (qint (qfld sd0 0))),sd0] [(D.int sn2),(D.int 0),(D.int 0),(D.list [])]) 1))),(qnth (q54 [sd0,(qnth (l21_9 [sd1,(D.int (qint (qfld sd0 0))),sd0] [(D.int sn2),(D.int 0),(D.int 0),(D.list [])]) 3)]) 0),(qnth (q54 [sd0,(qnth (l21_9 [sd1,(D.int (qint (qfld sd0 0))),sd0] [(D.int sn2),(D.int 0),(D.int 0),(D.list [])]) 3)]) 0),(D.int (qlen (qnth (q54 [sd0,(qnth (l21_9 [sd1,(D.int (qint (qfld sd0 0))),sd0] [(D.int sn2),(D.int 0),(D.int 0),(D.list [])]) 3)]) 0))),(qnth (l21_9 [sd1,(D.int (qint (qfld sd0 0))),sd0] [(D.int sn2),(D.int 0),(D.int 0),(D.list [])]) 3),(qnth (l21_9 [sd1,(D.int (qint (qfld sd0 0))),sd0] [(D.int sn2),(D.int 0),(D.int 0),(D.list [])]) 2),(D.int (qint (qfld sd0 0)))] [(D.int 0),(D.list [])]) 1)]) 0) 7)])
theorem F21_eq (sd0:D) (sd1:D) (sn2:Int):F21 [sd0,sd1,(D.int sn2)] =
 bif (qsome (q53 [sd0]))then
 bif (qcmp BinOp.neq (qint (qnth (q53 [sd0]) 0)) 0)then
 some [(D.int 0),(D.list []),(D.int 0),(D.int (qint (qnth (q53 [sd0]) 0)))]
 else
 bif (qsome (l21_9 [sd1,(D.int (qint (qfld sd0 0))),sd0] [(D.int sn2),(D.int 0),(D.int 0),(D.list [])]))then
 bif (qsome (q54 [sd0,(qnth (l21_9 [sd1,(D.int (qint (qfld sd0 0))),sd0] [(D.int sn2),(D.int 0),(D.int 0),(D.list [])]) 3)]))then
 bif (qsome (l21_24 [sd1,(D.int (qint (qnth (l21_9 [sd1,(D.int (qint (qfld sd0 0))),sd0] [(D.int sn2),(D.int 0),(D.int 0),(D.list [])]) 1))),(qnth (q54 [sd0,(qnth (l21_9 [sd1,(D.int (qint (qfld sd0 0))),sd0] [(D.int sn2),(D.int 0),(D.int 0),(D.list [])]) 3)]) 0),(qnth (q54 [sd0,(qnth (l21_9 [sd1,(D.int (qint (qfld sd0 0))),sd0] [(D.int sn2),(D.int 0),(D.int 0),(D.list [])]) 3)]) 0),(D.int (qlen (qnth (q54 [sd0,(qnth (l21_9 [sd1,(D.int (qint (qfld sd0 0))),sd0] [(D.int sn2),(D.int 0),(D.int 0),(D.list [])]) 3)]) 0))),(qnth (l21_9 [sd1,(D.int (qint (qfld sd0 0))),sd0] [(D.int sn2),(D.int 0),(D.int 0),(D.list [])]) 3),(qnth (l21_9 [sd1,(D.int (qint (qfld sd0 0))),sd0] [(D.int sn2),(D.int 0),(D.int 0),(D.list [])]) 2),(D.int (qint (qfld sd0 0)))] [(D.int 0),(D.list [])]))then
 bif (qcmp BinOp.eql (qint (qnth (l21_24 [sd1,(D.int (qint (qnth (l21_9 [sd1,(D.int (qint (qfld sd0 0))),sd0] [(D.int sn2),(D.int 0),(D.int 0),(D.list [])]) 1))),(qnth (q54 [sd0,(qnth (l21_9 [sd1,(D.int (qint (qfld sd0 0))),sd0] [(D.int sn2),(D.int 0),(D.int 0),(D.list [])]) 3)]) 0),(qnth (q54 [sd0,(qnth (l21_9 [sd1,(D.int (qint (qfld sd0 0))),sd0] [(D.int sn2),(D.int 0),(D.int 0),(D.list [])]) 3)]) 0),(D.int (qlen (qnth (q54 [sd0,(qnth (l21_9 [sd1,(D.int (qint (qfld sd0 0))),sd0] [(D.int sn2),(D.int 0),(D.int 0),(D.list [])]) 3)]) 0))),(qnth (l21_9 [sd1,(D.int (qint (qfld sd0 0))),sd0] [(D.int sn2),(D.int 0),(D.int 0),(D.list [])]) 3),(qnth (l21_9 [sd1,(D.int (qint (qfld sd0 0))),sd0] [(D.int sn2),(D.int 0),(D.int 0),(D.list [])]) 2),(D.int (qint (qfld sd0 0)))] [(D.int 0),(D.list [])]) 0)) 0)then
 bif (qsome (q56 [(qnth (l21_9 [sd1,(D.int (qint (qfld sd0 0))),sd0] [(D.int sn2),(D.int 0),(D.int 0),(D.list [])]) 3),(qnth (q54 [sd0,(qnth (l21_9 [sd1,(D.int (qint (qfld sd0 0))),sd0] [(D.int sn2),(D.int 0),(D.int 0),(D.list [])]) 3)]) 0),(qnth (l21_24 [sd1,(D.int (qint (qnth (l21_9 [sd1,(D.int (qint (qfld sd0 0))),sd0] [(D.int sn2),(D.int 0),(D.int 0),(D.list [])]) 1))),(qnth (q54 [sd0,(qnth (l21_9 [sd1,(D.int (qint (qfld sd0 0))),sd0] [(D.int sn2),(D.int 0),(D.int 0),(D.list [])]) 3)]) 0),(qnth (q54 [sd0,(qnth (l21_9 [sd1,(D.int (qint (qfld sd0 0))),sd0] [(D.int sn2),(D.int 0),(D.int 0),(D.list [])]) 3)]) 0),(D.int (qlen (qnth (q54 [sd0,(qnth (l21_9 [sd1,(D.int (qint (qfld sd0 0))),sd0] [(D.int sn2),(D.int 0),(D.int 0),(D.list [])]) 3)]) 0))),(qnth (l21_9 [sd1,(D.int (qint (qfld sd0 0))),sd0] [(D.int sn2),(D.int 0),(D.int 0),(D.list [])]) 3),(qnth (l21_9 [sd1,(D.int (qint (qfld sd0 0))),sd0] [(D.int sn2),(D.int 0),(D.int 0),(D.list [])]) 2),(D.int (qint (qfld sd0 0)))] [(D.int 0),(D.list [])]) 1)]))then
 bif (qmem (qlen (qapp (qnth (l21_9 [sd1,(D.int (qint (qfld sd0 0))),sd0] [(D.int sn2),(D.int 0),(D.int 0),(D.list [])]) 2) (D.list [(F21_a0 sd0 sd1 sn2)]))) 96)then
 some [(D.int (qint (qfld sd0 0))),(qapp (qnth (l21_9 [sd1,(D.int (qint (qfld sd0 0))),sd0] [(D.int sn2),(D.int 0),(D.int 0),(D.list [])]) 2) (D.list [(F21_a0 sd0 sd1 sn2)])),(D.int (qint (qnth (l21_9 [sd1,(D.int (qint (qfld sd0 0))),sd0] [(D.int sn2),(D.int 0),(D.int 0),(D.list [])]) 1))),(D.int 0)]
 else
 none
 else
 none
 else
 some [(D.int 0),(D.list []),(D.int 0),(D.int 9)]
 else
 none
 else
 none
 else
 none
 else
 none:=by
 have h:F21 [sd0,sd1,(D.int sn2)] =
  bif (qsome (q53 [sd0]))then
  bif (qcmp BinOp.neq (qint (qnth (q53 [sd0]) 0)) 0)then
  some [(D.int 0),(D.list []),(D.int 0),(D.int (qint (qnth (q53 [sd0]) 0)))]
  else
  bif (qcmp BinOp.eql 0 (qlen (D.list [])))then
  bif (qsome (l21_9 [sd1,(D.int (qint (qfld sd0 0))),sd0] [(D.int sn2),(D.int 0),(D.int 0),(D.list [])]))then
  bif (qsome (q54 [sd0,(qnth (l21_9 [sd1,(D.int (qint (qfld sd0 0))),sd0] [(D.int sn2),(D.int 0),(D.int 0),(D.list [])]) 3)]))then
  bif (qcmp BinOp.eql 0 (qlen (D.list [])))then
  bif (qcmp BinOp.eql (qlen (qnth (l21_9 [sd1,(D.int (qint (qfld sd0 0))),sd0] [(D.int sn2),(D.int 0),(D.int 0),(D.list [])]) 2)) (qlen (qnth (l21_9 [sd1,(D.int (qint (qfld sd0 0))),sd0] [(D.int sn2),(D.int 0),(D.int 0),(D.list [])]) 2)))then
  bif (qsome (l21_24 [sd1,(D.int (qint (qnth (l21_9 [sd1,(D.int (qint (qfld sd0 0))),sd0] [(D.int sn2),(D.int 0),(D.int 0),(D.list [])]) 1))),(qnth (q54 [sd0,(qnth (l21_9 [sd1,(D.int (qint (qfld sd0 0))),sd0] [(D.int sn2),(D.int 0),(D.int 0),(D.list [])]) 3)]) 0),(qnth (q54 [sd0,(qnth (l21_9 [sd1,(D.int (qint (qfld sd0 0))),sd0] [(D.int sn2),(D.int 0),(D.int 0),(D.list [])]) 3)]) 0),(D.int (qlen (qnth (q54 [sd0,(qnth (l21_9 [sd1,(D.int (qint (qfld sd0 0))),sd0] [(D.int sn2),(D.int 0),(D.int 0),(D.list [])]) 3)]) 0))),(qnth (l21_9 [sd1,(D.int (qint (qfld sd0 0))),sd0] [(D.int sn2),(D.int 0),(D.int 0),(D.list [])]) 3),(qnth (l21_9 [sd1,(D.int (qint (qfld sd0 0))),sd0] [(D.int sn2),(D.int 0),(D.int 0),(D.list [])]) 2),(D.int (qint (qfld sd0 0)))] [(D.int 0),(D.list [])]))then
  bif (qcmp BinOp.eql (qint (qnth (l21_24 [sd1,(D.int (qint (qnth (l21_9 [sd1,(D.int (qint (qfld sd0 0))),sd0] [(D.int sn2),(D.int 0),(D.int 0),(D.list [])]) 1))),(qnth (q54 [sd0,(qnth (l21_9 [sd1,(D.int (qint (qfld sd0 0))),sd0] [(D.int sn2),(D.int 0),(D.int 0),(D.list [])]) 3)]) 0),(qnth (q54 [sd0,(qnth (l21_9 [sd1,(D.int (qint (qfld sd0 0))),sd0] [(D.int sn2),(D.int 0),(D.int 0),(D.list [])]) 3)]) 0),(D.int (qlen (qnth (q54 [sd0,(qnth (l21_9 [sd1,(D.int (qint (qfld sd0 0))),sd0] [(D.int sn2),(D.int 0),(D.int 0),(D.list [])]) 3)]) 0))),(qnth (l21_9 [sd1,(D.int (qint (qfld sd0 0))),sd0] [(D.int sn2),(D.int 0),(D.int 0),(D.list [])]) 3),(qnth (l21_9 [sd1,(D.int (qint (qfld sd0 0))),sd0] [(D.int sn2),(D.int 0),(D.int 0),(D.list [])]) 2),(D.int (qint (qfld sd0 0)))] [(D.int 0),(D.list [])]) 0)) 0)then
  bif (qcmp BinOp.eql (qlen (qnth (l21_24 [sd1,(D.int (qint (qnth (l21_9 [sd1,(D.int (qint (qfld sd0 0))),sd0] [(D.int sn2),(D.int 0),(D.int 0),(D.list [])]) 1))),(qnth (q54 [sd0,(qnth (l21_9 [sd1,(D.int (qint (qfld sd0 0))),sd0] [(D.int sn2),(D.int 0),(D.int 0),(D.list [])]) 3)]) 0),(qnth (q54 [sd0,(qnth (l21_9 [sd1,(D.int (qint (qfld sd0 0))),sd0] [(D.int sn2),(D.int 0),(D.int 0),(D.list [])]) 3)]) 0),(D.int (qlen (qnth (q54 [sd0,(qnth (l21_9 [sd1,(D.int (qint (qfld sd0 0))),sd0] [(D.int sn2),(D.int 0),(D.int 0),(D.list [])]) 3)]) 0))),(qnth (l21_9 [sd1,(D.int (qint (qfld sd0 0))),sd0] [(D.int sn2),(D.int 0),(D.int 0),(D.list [])]) 3),(qnth (l21_9 [sd1,(D.int (qint (qfld sd0 0))),sd0] [(D.int sn2),(D.int 0),(D.int 0),(D.list [])]) 2),(D.int (qint (qfld sd0 0)))] [(D.int 0),(D.list [])]) 1)) (qlen (qnth (l21_24 [sd1,(D.int (qint (qnth (l21_9 [sd1,(D.int (qint (qfld sd0 0))),sd0] [(D.int sn2),(D.int 0),(D.int 0),(D.list [])]) 1))),(qnth (q54 [sd0,(qnth (l21_9 [sd1,(D.int (qint (qfld sd0 0))),sd0] [(D.int sn2),(D.int 0),(D.int 0),(D.list [])]) 3)]) 0),(qnth (q54 [sd0,(qnth (l21_9 [sd1,(D.int (qint (qfld sd0 0))),sd0] [(D.int sn2),(D.int 0),(D.int 0),(D.list [])]) 3)]) 0),(D.int (qlen (qnth (q54 [sd0,(qnth (l21_9 [sd1,(D.int (qint (qfld sd0 0))),sd0] [(D.int sn2),(D.int 0),(D.int 0),(D.list [])]) 3)]) 0))),(qnth (l21_9 [sd1,(D.int (qint (qfld sd0 0))),sd0] [(D.int sn2),(D.int 0),(D.int 0),(D.list [])]) 3),(qnth (l21_9 [sd1,(D.int (qint (qfld sd0 0))),sd0] [(D.int sn2),(D.int 0),(D.int 0),(D.list [])]) 2),(D.int (qint (qfld sd0 0)))] [(D.int 0),(D.list [])]) 1)))then
  bif (qsome (q56 [(qnth (l21_9 [sd1,(D.int (qint (qfld sd0 0))),sd0] [(D.int sn2),(D.int 0),(D.int 0),(D.list [])]) 3),(qnth (q54 [sd0,(qnth (l21_9 [sd1,(D.int (qint (qfld sd0 0))),sd0] [(D.int sn2),(D.int 0),(D.int 0),(D.list [])]) 3)]) 0),(qnth (l21_24 [sd1,(D.int (qint (qnth (l21_9 [sd1,(D.int (qint (qfld sd0 0))),sd0] [(D.int sn2),(D.int 0),(D.int 0),(D.list [])]) 1))),(qnth (q54 [sd0,(qnth (l21_9 [sd1,(D.int (qint (qfld sd0 0))),sd0] [(D.int sn2),(D.int 0),(D.int 0),(D.list [])]) 3)]) 0),(qnth (q54 [sd0,(qnth (l21_9 [sd1,(D.int (qint (qfld sd0 0))),sd0] [(D.int sn2),(D.int 0),(D.int 0),(D.list [])]) 3)]) 0),(D.int (qlen (qnth (q54 [sd0,(qnth (l21_9 [sd1,(D.int (qint (qfld sd0 0))),sd0] [(D.int sn2),(D.int 0),(D.int 0),(D.list [])]) 3)]) 0))),(qnth (l21_9 [sd1,(D.int (qint (qfld sd0 0))),sd0] [(D.int sn2),(D.int 0),(D.int 0),(D.list [])]) 3),(qnth (l21_9 [sd1,(D.int (qint (qfld sd0 0))),sd0] [(D.int sn2),(D.int 0),(D.int 0),(D.list [])]) 2),(D.int (qint (qfld sd0 0)))] [(D.int 0),(D.list [])]) 1)]))then
  bif (qcmp BinOp.eql (qlen (qnth (l21_9 [sd1,(D.int (qint (qfld sd0 0))),sd0] [(D.int sn2),(D.int 0),(D.int 0),(D.list [])]) 2)) (qlen (qnth (l21_9 [sd1,(D.int (qint (qfld sd0 0))),sd0] [(D.int sn2),(D.int 0),(D.int 0),(D.list [])]) 2)))then
  bif (qmem (qlen (qapp (qnth (l21_9 [sd1,(D.int (qint (qfld sd0 0))),sd0] [(D.int sn2),(D.int 0),(D.int 0),(D.list [])]) 2) (D.list [(F21_a0 sd0 sd1 sn2)]))) 96)then
  bif (qcmp BinOp.eql (qlen (qapp (qnth (l21_9 [sd1,(D.int (qint (qfld sd0 0))),sd0] [(D.int sn2),(D.int 0),(D.int 0),(D.list [])]) 2) (D.list [(F21_a0 sd0 sd1 sn2)]))) (qlen (qapp (qnth (l21_9 [sd1,(D.int (qint (qfld sd0 0))),sd0] [(D.int sn2),(D.int 0),(D.int 0),(D.list [])]) 2) (D.list [(F21_a0 sd0 sd1 sn2)]))))then
  some [(D.int (qint (qfld sd0 0))),(qapp (qnth (l21_9 [sd1,(D.int (qint (qfld sd0 0))),sd0] [(D.int sn2),(D.int 0),(D.int 0),(D.list [])]) 2) (D.list [(F21_a0 sd0 sd1 sn2)])),(D.int (qint (qnth (l21_9 [sd1,(D.int (qint (qfld sd0 0))),sd0] [(D.int sn2),(D.int 0),(D.int 0),(D.list [])]) 1))),(D.int 0)]
  else
  none
  else
  none
  else
  none
  else
  none
  else
  none
  else
  some [(D.int 0),(D.list []),(D.int 0),(D.int 9)]
  else
  none
  else
  none
  else
  none
  else
  none
  else
  none
  else
  none
  else
  none:=by kernel_rfl
 rw[h];simp only[qeqD_self,qeqI_self,qeq_len,show qcmp BinOp.eql 0 (qlen (D.list []))=true from qeq_len [],show∀a,qcmp BinOp.eql 1 (qlen (D.list [a]))=true from fun a=>qeq_len [a],show∀a b,qcmp BinOp.eql 2 (qlen (D.list [a,b]))=true from fun a b=>qeq_len [a,b],show∀a b c,qcmp BinOp.eql 3 (qlen (D.list [a,b,c]))=true from fun a b c=>qeq_len [a,b,c],show∀a b c d,qcmp BinOp.eql 4 (qlen (D.list [a,b,c,d]))=true from fun a b c d=>qeq_len [a,b,c,d],cond_true]
noncomputable def q21:List D→Option (List D):=veil (F21)
theorem q21_eq:q21=F21:=veil_eq _
noncomputable def tb21:Tb:=Tb.addF tbl21_24 21 S21 (q21)
theorem ok_tb21:TbOk env (tb21):=addFunF ok_tbl21_24 21 (by kernel_rfl) _ (q21_eq)
end Go.Proofs.YtgklbalcneepoaaGreatDoor
open Go Go.AM
namespace Go.Proofs.YtgklbalcneepoaaGreatDoor
set_option maxRecDepth 100000
set_option linter.unusedSimpArgs false
set_option linter.unusedVariables false
def S142_2:LoopS:=⟨0,[⟨false,(.rows 22)⟩,⟨false,(.int .u32)⟩,uF,uF,⟨false,(.lit (.bool false))⟩,⟨true,(.int .i64)⟩,uF,uF,uF,uF,uF,uF,uF,uF,uF,uF,uF,uF],[],[⟨0,0,[⟨false,(.rows 22)⟩,⟨false,(.int .u32)⟩,uT,uT,⟨true,(.lit (.bool false))⟩,uT,uT,uT,uT,uT,uT,uT,uT,uT,uT,uT,uT,uT],[]⟩,⟨1,0,[⟨false,(.rows 22)⟩,⟨false,(.int .u32)⟩,uT,uT,⟨true,(.lit (.bool true))⟩,uT,uT,uT,uT,uT,uT,uT,uT,uT,uT,uT,uT,uT],[]⟩]⟩
noncomputable def st142_2 (p s:List D):Option (Sum (List D) (List D)):=stepQX env tb21 60 12 142 (loopC 142 2) S142_2 p s
theorem st142_2_eq (pd0:D) (pn1:Int) (sn0:Int):st142_2 [pd0,(D.int pn1)] [(D.int sn0)] =
 bif (qcmp BinOp.lss sn0 (qlen pd0))then
 bif (qinb pd0 sn0)then
 bif (qcmp BinOp.eql (qint (qget pd0 sn0)) pn1)then
 some (Sum.inr [(D.int 1)])
 else
 some (Sum.inl [(D.int (qbin BinOp.add IntKind.i64 sn0 1))])
 else
 none
 else
 some (Sum.inr [(D.int 0)]):=by
 have h:st142_2 [pd0,(D.int pn1)] [(D.int sn0)] =
  bif (qcmp BinOp.lss sn0 (qlen pd0))then
  bif (qinb pd0 sn0)then
  bif (qcmp BinOp.eql (qint (qget pd0 sn0)) pn1)then
  bif (qeqD pd0 pd0)then
  bif (qeqD (D.int pn1) (D.int pn1))then
  some (Sum.inr [(D.int 1)])
  else
  none
  else
  none
  else
  bif (qeqD pd0 pd0)then
  bif (qeqD (D.int pn1) (D.int pn1))then
  some (Sum.inl [(D.int (qbin BinOp.add IntKind.i64 sn0 1))])
  else
  none
  else
  none
  else
  none
  else
  bif (qeqD pd0 pd0)then
  bif (qeqD (D.int pn1) (D.int pn1))then
  some (Sum.inr [(D.int 0)])
  else
  none
  else
  none:=by kernel_rfl
 rw[h];simp only[qeqD_self,qeqI_self,qeq_len,show qcmp BinOp.eql 0 (qlen (D.list []))=true from qeq_len [],show∀a,qcmp BinOp.eql 1 (qlen (D.list [a]))=true from fun a=>qeq_len [a],show∀a b,qcmp BinOp.eql 2 (qlen (D.list [a,b]))=true from fun a b=>qeq_len [a,b],show∀a b c,qcmp BinOp.eql 3 (qlen (D.list [a,b,c]))=true from fun a b c=>qeq_len [a,b,c],show∀a b c d,qcmp BinOp.eql 4 (qlen (D.list [a,b,c,d]))=true from fun a b c d=>qeq_len [a,b,c,d],cond_true]
noncomputable def l142_2:List D→List D→Option (List D):=veil fun p s=>loW (st142_2 p) s
theorem l142_2_eq:l142_2=fun p s=>loW (st142_2 p) s:=veil_eq _
noncomputable def tbl142_2:Tb:=Tb.addL tb21 142 2 S142_2.n0 (mkLp S142_2 (l142_2))
theorem ok_tbl142_2:TbOk env (tbl142_2):=addLoopQ ok_tb21 142 2 (by kernel_rfl) _ (l142_2_eq)
def S142:FunS:=⟨[⟨true,(.rows 22)⟩,⟨true,(.int .u32)⟩],[],[⟨true, .bool⟩],[]⟩
noncomputable def F142:List D→Option (List D):=liftX env tbl142_2 60 12 142 S142
theorem F142_eq (sd0:D) (sn1:Int):F142 [sd0,(D.int sn1)] =
 bif (qsome (l142_2 [sd0,(D.int sn1)] [(D.int 0)]))then
 bif (qcmp BinOp.eql (qint (qnth (l142_2 [sd0,(D.int sn1)] [(D.int 0)]) 0)) 0)then
 some [(D.bool Bool.false)]
 else
 some [(D.bool Bool.true)]
 else
 none:=by kernel_rfl
noncomputable def q142:List D→Option (List D):=veil (F142)
theorem q142_eq:q142=F142:=veil_eq _
noncomputable def tb142:Tb:=Tb.addF tbl142_2 142 S142 (q142)
theorem ok_tb142:TbOk env (tb142):=addFunF ok_tbl142_2 142 (by kernel_rfl) _ (q142_eq)
def S96_3:LoopS:=⟨0,[⟨false,(.rows 22)⟩,uF,⟨false,(.lit (.slice none 0 0))⟩,⟨false,(.osl 0 22)⟩,⟨true,(.int .i64)⟩,uF,uF,uF,uF,uF,uF,uF,uF,uF,uF,uF,uF,uF,uF,uF,uF,uF,uF,uF,uF,uF],[(.lst true 22)],[⟨0,0,[⟨false,(.rows 22)⟩,uT,⟨true,(.lit (.slice none 0 0))⟩,⟨true,(.osl 0 22)⟩,uT,uT,uT,uT,uT,uT,uT,uT,uT,uT,uT,uT,uT,uT,uT,uT,uT,uT,uT,uT,uT,uT],[(.lst true 22)]⟩]⟩
noncomputable def st96_3 (p s:List D):Option (Sum (List D) (List D)):=stepQX env tb142 60 12 96 (loopC 96 3) S96_3 p s
theorem st96_3_eq (pd0:D) (sn0:Int) (sd1:D):st96_3 [pd0] [(D.int sn0),sd1] =
 bif (qcmp BinOp.lss sn0 (qlen pd0))then
 bif (qinb pd0 sn0)then
 bif (qsome (q142 [sd1,(D.int (qint (qget pd0 sn0)))]))then
 bif (qnot (qbool (qnth (q142 [sd1,(D.int (qint (qget pd0 sn0)))]) 0)))then
 bif (qinb pd0 sn0)then
 bif (qmem (qlen (qapp sd1 (D.list [(D.int (qint (qget pd0 sn0)))]))) 4)then
 some (Sum.inl [(D.int (qbin BinOp.add IntKind.i64 sn0 1)),(qapp sd1 (D.list [(D.int (qint (qget pd0 sn0)))]))])
 else
 none
 else
 none
 else
 some (Sum.inl [(D.int (qbin BinOp.add IntKind.i64 sn0 1)),sd1])
 else
 none
 else
 none
 else
 some (Sum.inr [(D.int 0),sd1]):=by
 have h:st96_3 [pd0] [(D.int sn0),sd1] =
  bif (qcmp BinOp.lss sn0 (qlen pd0))then
  bif (qinb pd0 sn0)then
  bif (qcmp BinOp.eql (qlen sd1) (qlen sd1))then
  bif (qsome (q142 [sd1,(D.int (qint (qget pd0 sn0)))]))then
  bif (qnot (qbool (qnth (q142 [sd1,(D.int (qint (qget pd0 sn0)))]) 0)))then
  bif (qinb pd0 sn0)then
  bif (qcmp BinOp.eql (qlen sd1) (qlen sd1))then
  bif (qmem (qlen (qapp sd1 (D.list [(D.int (qint (qget pd0 sn0)))]))) 4)then
  bif (qcmp BinOp.eql (qlen (qapp sd1 (D.list [(D.int (qint (qget pd0 sn0)))]))) (qlen (qapp sd1 (D.list [(D.int (qint (qget pd0 sn0)))]))))then
  bif (qeqD pd0 pd0)then
  some (Sum.inl [(D.int (qbin BinOp.add IntKind.i64 sn0 1)),(qapp sd1 (D.list [(D.int (qint (qget pd0 sn0)))]))])
  else
  none
  else
  none
  else
  none
  else
  none
  else
  none
  else
  bif (qcmp BinOp.eql (qlen sd1) (qlen sd1))then
  bif (qeqD pd0 pd0)then
  some (Sum.inl [(D.int (qbin BinOp.add IntKind.i64 sn0 1)),sd1])
  else
  none
  else
  none
  else
  none
  else
  none
  else
  none
  else
  bif (qcmp BinOp.eql (qlen sd1) (qlen sd1))then
  bif (qeqD pd0 pd0)then
  some (Sum.inr [(D.int 0),sd1])
  else
  none
  else
  none:=by kernel_rfl
 rw[h];simp only[qeqD_self,qeqI_self,qeq_len,show qcmp BinOp.eql 0 (qlen (D.list []))=true from qeq_len [],show∀a,qcmp BinOp.eql 1 (qlen (D.list [a]))=true from fun a=>qeq_len [a],show∀a b,qcmp BinOp.eql 2 (qlen (D.list [a,b]))=true from fun a b=>qeq_len [a,b],show∀a b c,qcmp BinOp.eql 3 (qlen (D.list [a,b,c]))=true from fun a b c=>qeq_len [a,b,c],show∀a b c d,qcmp BinOp.eql 4 (qlen (D.list [a,b,c,d]))=true from fun a b c d=>qeq_len [a,b,c,d],cond_true]
noncomputable def l96_3:List D→List D→Option (List D):=veil fun p s=>loW (st96_3 p) s
theorem l96_3_eq:l96_3=fun p s=>loW (st96_3 p) s:=veil_eq _
noncomputable def tbl96_3:Tb:=Tb.addL tb142 96 3 S96_3.n0 (mkLp S96_3 (l96_3))
theorem ok_tbl96_3:TbOk env (tbl96_3):=addLoopQ ok_tb142 96 3 (by kernel_rfl) _ (l96_3_eq)
def S96:FunS:=⟨[⟨true,(.rows 22)⟩],[],[⟨true,(.rows 22)⟩],[]⟩
noncomputable def F96:List D→Option (List D):=liftX env tbl96_3 60 12 96 S96
theorem F96_eq (sd0:D):F96 [sd0] =
 bif (qsome (l96_3 [sd0] [(D.int 0),(D.list [])]))then
 some [(qnth (l96_3 [sd0] [(D.int 0),(D.list [])]) 1)]
 else
 none:=by
 have h:F96 [sd0] =
  bif (qcmp BinOp.eql 0 (qlen (D.list [])))then
  bif (qsome (l96_3 [sd0] [(D.int 0),(D.list [])]))then
  bif (qcmp BinOp.eql (qlen (qnth (l96_3 [sd0] [(D.int 0),(D.list [])]) 1)) (qlen (qnth (l96_3 [sd0] [(D.int 0),(D.list [])]) 1)))then
  some [(qnth (l96_3 [sd0] [(D.int 0),(D.list [])]) 1)]
  else
  none
  else
  none
  else
  none:=by kernel_rfl
 rw[h];simp only[qeqD_self,qeqI_self,qeq_len,show qcmp BinOp.eql 0 (qlen (D.list []))=true from qeq_len [],show∀a,qcmp BinOp.eql 1 (qlen (D.list [a]))=true from fun a=>qeq_len [a],show∀a b,qcmp BinOp.eql 2 (qlen (D.list [a,b]))=true from fun a b=>qeq_len [a,b],show∀a b c,qcmp BinOp.eql 3 (qlen (D.list [a,b,c]))=true from fun a b c=>qeq_len [a,b,c],show∀a b c d,qcmp BinOp.eql 4 (qlen (D.list [a,b,c,d]))=true from fun a b c d=>qeq_len [a,b,c,d],cond_true]
noncomputable def q96:List D→Option (List D):=veil (F96)
theorem q96_eq:q96=F96:=veil_eq _
noncomputable def tb96:Tb:=Tb.addF tbl96_3 96 S96 (q96)
theorem ok_tb96:TbOk env (tb96):=addFunF ok_tbl96_3 96 (by kernel_rfl) _ (q96_eq)
def S47:FunS:=⟨[⟨true,(.int .i64)⟩,⟨true,(.dat 33)⟩,⟨true,(.dat 33)⟩],[],[⟨true,(.agg [(.int .i64),(.int .u32),(.int .i64),(.int .i64),(.rows 33)])⟩],[]⟩
noncomputable def F47:List D→Option (List D):=liftX env tb96 60 12 47 S47
theorem F47_eq (sn0:Int) (sd1:D) (sd2:D):F47 [(D.int sn0),sd1,sd2] =
 some [(D.int sn0),(D.int 0),(D.int 0),(D.int 0),(D.list [(D.agg [(D.int (qint (qfld sd1 0))),(D.int (qint (qfld sd1 1))),(D.int (qint (qfld sd1 2))),(D.int (qint (qfld sd1 3))),(qfld sd1 4)]),(D.agg [(D.int (qint (qfld sd2 0))),(D.int (qint (qfld sd2 1))),(D.int (qint (qfld sd2 2))),(D.int (qint (qfld sd2 3))),(qfld sd2 4)])])]:=by kernel_rfl
noncomputable def q47:List D→Option (List D):=veil (F47)
theorem q47_eq:q47=F47:=veil_eq _
noncomputable def tb47:Tb:=Tb.addF tb96 47 S47 (q47)
theorem ok_tb47:TbOk env (tb47):=addFunF ok_tb96 47 (by kernel_rfl) _ (q47_eq)
def S98_6:LoopS:=⟨0,[uF,uF,⟨false,(.ptr 0 0)⟩,uF,⟨false,(.ptr 1 0)⟩,⟨false,(.lit (.slice none 0 0))⟩,⟨false,(.rows 22)⟩,⟨false,(.ptr 2 0)⟩,⟨true,(.int .i64)⟩,uF,uF,uF,uF,uF,uF,uF,uF,uF,uF,uF,uF,uF,uF,uF,uF,uF,uF,uF,uF,uF,uF,uF,uF,uF,uF,uF,uF,uF,uF,uF,uF,uF,uF,uF,uF,uF],[(.cells [⟨true,(.int .i64)⟩,⟨true,(.int .u32)⟩,⟨true,(.int .i64)⟩,⟨true,(.int .i64)⟩,⟨true,(.rows 33)⟩]),(.cells [⟨false,(.lit (.int .i64 0))⟩,⟨false,(.lit (.int .i64 0))⟩,⟨false,(.lit (.int .i64 0))⟩,⟨false,(.lit (.int .i64 0))⟩,⟨false,(.lit (.int .i64 0))⟩,⟨false,(.lit (.int .u32 0))⟩,⟨false,(.lit (.slice none 0 0))⟩,⟨false,(.lit (.slice none 0 0))⟩]),(.dat false 24)],[⟨0,0,[uT,uT,uT,uT,⟨true,(.ptr 1 0)⟩,⟨true,(.lit (.slice none 0 0))⟩,⟨false,(.rows 22)⟩,⟨true,(.ptr 2 0)⟩,uT,uT,uT,uT,uT,uT,uT,uT,uT,uT,uT,uT,uT,uT,uT,uT,uT,uT,uT,uT,uT,uT,uT,uT,uT,uT,uT,uT,uT,uT,uT,uT,uT,uT,uT,uT,uT,uT],[(.cells [⟨true,(.int .i64)⟩,⟨true,(.int .u32)⟩,⟨true,(.int .i64)⟩,⟨true,(.int .i64)⟩,⟨true,(.rows 33)⟩]),(.cells [⟨true,(.lit (.int .i64 0))⟩,⟨true,(.lit (.int .i64 0))⟩,⟨true,(.lit (.int .i64 0))⟩,⟨true,(.lit (.int .i64 0))⟩,⟨true,(.lit (.int .i64 0))⟩,⟨true,(.lit (.int .u32 0))⟩,⟨true,(.lit (.slice none 0 0))⟩,⟨true,(.lit (.slice none 0 0))⟩]),(.dat false 24)]⟩]⟩
noncomputable def st98_6 (p s:List D):Option (Sum (List D) (List D)):=stepQX env tb47 60 12 98 (loopC 98 6) S98_6 p s
noncomputable def st98_6_a0 (pd0:D) (pd1:D) (sn0:Int) (sn1:Int) (sn2:Int) (sn3:Int) (sn4:Int) (sd5:D):D:=(D.agg [(D.int 1),(D.int (qwrap IntKind.u32 sn0)),(D.int 0),(D.int 0),(D.list [])])
noncomputable def st98_6_a1 (pd0:D) (pd1:D) (sn0:Int) (sn1:Int) (sn2:Int) (sn3:Int) (sn4:Int) (sd5:D):D:=(D.agg [(D.int 1),(D.int (qint (qget pd0 sn0))),(D.int 0),(D.int 0),(D.list [])])
noncomputable def st98_6_a2 (pd0:D) (pd1:D) (sn0:Int) (sn1:Int) (sn2:Int) (sn3:Int) (sn4:Int) (sd5:D):D:=(D.agg [(D.int 2),(D.int 0),(D.int (qint (qfld pd1 6))),(D.int 0),(D.list [])])
noncomputable def st98_6_a3 (pd0:D) (pd1:D) (sn0:Int) (sn1:Int) (sn2:Int) (sn3:Int) (sn4:Int) (sd5:D):D:=(D.agg [(D.int (qint (qnth (q47 [(D.int 12),(st98_6_a2 pd0 pd1 sn0 sn1 sn2 sn3 sn4 sd5),(st98_6_a1 pd0 pd1 sn0 sn1 sn2 sn3 sn4 sd5)]) 0))),(D.int (qint (qnth (q47 [(D.int 12),(st98_6_a2 pd0 pd1 sn0 sn1 sn2 sn3 sn4 sd5),(st98_6_a1 pd0 pd1 sn0 sn1 sn2 sn3 sn4 sd5)]) 1))),(D.int (qint (qnth (q47 [(D.int 12),(st98_6_a2 pd0 pd1 sn0 sn1 sn2 sn3 sn4 sd5),(st98_6_a1 pd0 pd1 sn0 sn1 sn2 sn3 sn4 sd5)]) 2))),(D.int (qint (qnth (q47 [(D.int 12),(st98_6_a2 pd0 pd1 sn0 sn1 sn2 sn3 sn4 sd5),(st98_6_a1 pd0 pd1 sn0 sn1 sn2 sn3 sn4 sd5)]) 3))),(qnth (q47 [(D.int 12),(st98_6_a2 pd0 pd1 sn0 sn1 sn2 sn3 sn4 sd5),(st98_6_a1 pd0 pd1 sn0 sn1 sn2 sn3 sn4 sd5)]) 4)])
noncomputable def st98_6_a4 (pd0:D) (pd1:D) (sn0:Int) (sn1:Int) (sn2:Int) (sn3:Int) (sn4:Int) (sd5:D):D:=(D.agg [(D.int (qint (qnth (q47 [(D.int 5),(st98_6_a3 pd0 pd1 sn0 sn1 sn2 sn3 sn4 sd5),(st98_6_a0 pd0 pd1 sn0 sn1 sn2 sn3 sn4 sd5)]) 0))),(D.int (qint (qnth (q47 [(D.int 5),(st98_6_a3 pd0 pd1 sn0 sn1 sn2 sn3 sn4 sd5),(st98_6_a0 pd0 pd1 sn0 sn1 sn2 sn3 sn4 sd5)]) 1))),(D.int (qint (qnth (q47 [(D.int 5),(st98_6_a3 pd0 pd1 sn0 sn1 sn2 sn3 sn4 sd5),(st98_6_a0 pd0 pd1 sn0 sn1 sn2 sn3 sn4 sd5)]) 2))),(D.int (qint (qnth (q47 [(D.int 5),(st98_6_a3 pd0 pd1 sn0 sn1 sn2 sn3 sn4 sd5),(st98_6_a0 pd0 pd1 sn0 sn1 sn2 sn3 sn4 sd5)]) 3))),(qnth (q47 [(D.int 5),(st98_6_a3 pd0 pd1 sn0 sn1 sn2 sn3 sn4 sd5),(st98_6_a0 pd0 pd1 sn0 sn1 sn2 sn3 sn4 sd5)]) 4)])
noncomputable def st98_6_a5 (pd0:D) (pd1:D) (sn0:Int) (sn1:Int) (sn2:Int) (sn3:Int) (sn4:Int) (sd5:D):D:=(D.agg [(D.int sn1),(D.int sn2),(D.int sn3),(D.int sn4),sd5])
theorem st98_6_eq (pd0:D) (pd1:D) (sn0:Int) (sn1:Int) (sn2:Int) (sn3:Int) (sn4:Int) (sd5:D):st98_6 [pd0,pd1] [(D.int sn0),(D.int sn1),(D.int sn2),(D.int sn3),(D.int sn4),sd5] =
 bif (qcmp BinOp.lss sn0 (qlen pd0))then
 bif (qinb pd0 sn0)then
 bif (qsome (q47 [(D.int 12),(st98_6_a2 pd0 pd1 sn0 sn1 sn2 sn3 sn4 sd5),(st98_6_a1 pd0 pd1 sn0 sn1 sn2 sn3 sn4 sd5)]))then
 bif (qsome (q47 [(D.int 5),(st98_6_a3 pd0 pd1 sn0 sn1 sn2 sn3 sn4 sd5),(st98_6_a0 pd0 pd1 sn0 sn1 sn2 sn3 sn4 sd5)]))then
 bif (qcmp BinOp.eql sn0 1)then
 some (Sum.inl [(D.int (qbin BinOp.add IntKind.i64 sn0 1)),(D.int (qint (qnth (q47 [(D.int 5),(st98_6_a3 pd0 pd1 sn0 sn1 sn2 sn3 sn4 sd5),(st98_6_a0 pd0 pd1 sn0 sn1 sn2 sn3 sn4 sd5)]) 0))),(D.int (qint (qnth (q47 [(D.int 5),(st98_6_a3 pd0 pd1 sn0 sn1 sn2 sn3 sn4 sd5),(st98_6_a0 pd0 pd1 sn0 sn1 sn2 sn3 sn4 sd5)]) 1))),(D.int (qint (qnth (q47 [(D.int 5),(st98_6_a3 pd0 pd1 sn0 sn1 sn2 sn3 sn4 sd5),(st98_6_a0 pd0 pd1 sn0 sn1 sn2 sn3 sn4 sd5)]) 2))),(D.int (qint (qnth (q47 [(D.int 5),(st98_6_a3 pd0 pd1 sn0 sn1 sn2 sn3 sn4 sd5),(st98_6_a0 pd0 pd1 sn0 sn1 sn2 sn3 sn4 sd5)]) 3))),(qnth (q47 [(D.int 5),(st98_6_a3 pd0 pd1 sn0 sn1 sn2 sn3 sn4 sd5),(st98_6_a0 pd0 pd1 sn0 sn1 sn2 sn3 sn4 sd5)]) 4)])
 else
 bif (qsome (q47 [(D.int 3),(st98_6_a5 pd0 pd1 sn0 sn1 sn2 sn3 sn4 sd5),(st98_6_a4 pd0 pd1 sn0 sn1 sn2 sn3 sn4 sd5)]))then
 some (Sum.inl [(D.int (qbin BinOp.add IntKind.i64 sn0 1)),(D.int (qint (qnth (q47 [(D.int 3),(st98_6_a5 pd0 pd1 sn0 sn1 sn2 sn3 sn4 sd5),(st98_6_a4 pd0 pd1 sn0 sn1 sn2 sn3 sn4 sd5)]) 0))),(D.int (qint (qnth (q47 [(D.int 3),(st98_6_a5 pd0 pd1 sn0 sn1 sn2 sn3 sn4 sd5),(st98_6_a4 pd0 pd1 sn0 sn1 sn2 sn3 sn4 sd5)]) 1))),(D.int (qint (qnth (q47 [(D.int 3),(st98_6_a5 pd0 pd1 sn0 sn1 sn2 sn3 sn4 sd5),(st98_6_a4 pd0 pd1 sn0 sn1 sn2 sn3 sn4 sd5)]) 2))),(D.int (qint (qnth (q47 [(D.int 3),(st98_6_a5 pd0 pd1 sn0 sn1 sn2 sn3 sn4 sd5),(st98_6_a4 pd0 pd1 sn0 sn1 sn2 sn3 sn4 sd5)]) 3))),(qnth (q47 [(D.int 3),(st98_6_a5 pd0 pd1 sn0 sn1 sn2 sn3 sn4 sd5),(st98_6_a4 pd0 pd1 sn0 sn1 sn2 sn3 sn4 sd5)]) 4)])
 else
 none
 else
 none
 else
 none
 else
 none
 else
 some (Sum.inr [(D.int 0),(D.int sn1),(D.int sn2),(D.int sn3),(D.int sn4),sd5]):=by
 have h:st98_6 [pd0,pd1] [(D.int sn0),(D.int sn1),(D.int sn2),(D.int sn3),(D.int sn4),sd5] =
  bif (qcmp BinOp.lss sn0 (qlen pd0))then
  bif (qinb pd0 sn0)then
  bif (qsome (q47 [(D.int 12),(st98_6_a2 pd0 pd1 sn0 sn1 sn2 sn3 sn4 sd5),(st98_6_a1 pd0 pd1 sn0 sn1 sn2 sn3 sn4 sd5)]))then
  bif (qsome (q47 [(D.int 5),(st98_6_a3 pd0 pd1 sn0 sn1 sn2 sn3 sn4 sd5),(st98_6_a0 pd0 pd1 sn0 sn1 sn2 sn3 sn4 sd5)]))then
  bif (qcmp BinOp.eql sn0 1)then
  bif (qeqD pd0 pd0)then
  bif (qeqD pd1 pd1)then
  some (Sum.inl [(D.int (qbin BinOp.add IntKind.i64 sn0 1)),(D.int (qint (qnth (q47 [(D.int 5),(st98_6_a3 pd0 pd1 sn0 sn1 sn2 sn3 sn4 sd5),(st98_6_a0 pd0 pd1 sn0 sn1 sn2 sn3 sn4 sd5)]) 0))),(D.int (qint (qnth (q47 [(D.int 5),(st98_6_a3 pd0 pd1 sn0 sn1 sn2 sn3 sn4 sd5),(st98_6_a0 pd0 pd1 sn0 sn1 sn2 sn3 sn4 sd5)]) 1))),(D.int (qint (qnth (q47 [(D.int 5),(st98_6_a3 pd0 pd1 sn0 sn1 sn2 sn3 sn4 sd5),(st98_6_a0 pd0 pd1 sn0 sn1 sn2 sn3 sn4 sd5)]) 2))),(D.int (qint (qnth (q47 [(D.int 5),(st98_6_a3 pd0 pd1 sn0 sn1 sn2 sn3 sn4 sd5),(st98_6_a0 pd0 pd1 sn0 sn1 sn2 sn3 sn4 sd5)]) 3))),(qnth (q47 [(D.int 5),(st98_6_a3 pd0 pd1 sn0 sn1 sn2 sn3 sn4 sd5),(st98_6_a0 pd0 pd1 sn0 sn1 sn2 sn3 sn4 sd5)]) 4)])
  else
  none
  else
  none
  else
  bif (qsome (q47 [(D.int 3),(st98_6_a5 pd0 pd1 sn0 sn1 sn2 sn3 sn4 sd5),(st98_6_a4 pd0 pd1 sn0 sn1 sn2 sn3 sn4 sd5)]))then
  bif (qeqD pd0 pd0)then
  bif (qeqD pd1 pd1)then
  some (Sum.inl [(D.int (qbin BinOp.add IntKind.i64 sn0 1)),(D.int (qint (qnth (q47 [(D.int 3),(st98_6_a5 pd0 pd1 sn0 sn1 sn2 sn3 sn4 sd5),(st98_6_a4 pd0 pd1 sn0 sn1 sn2 sn3 sn4 sd5)]) 0))),(D.int (qint (qnth (q47 [(D.int 3),(st98_6_a5 pd0 pd1 sn0 sn1 sn2 sn3 sn4 sd5),(st98_6_a4 pd0 pd1 sn0 sn1 sn2 sn3 sn4 sd5)]) 1))),(D.int (qint (qnth (q47 [(D.int 3),(st98_6_a5 pd0 pd1 sn0 sn1 sn2 sn3 sn4 sd5),(st98_6_a4 pd0 pd1 sn0 sn1 sn2 sn3 sn4 sd5)]) 2))),(D.int (qint (qnth (q47 [(D.int 3),(st98_6_a5 pd0 pd1 sn0 sn1 sn2 sn3 sn4 sd5),(st98_6_a4 pd0 pd1 sn0 sn1 sn2 sn3 sn4 sd5)]) 3))),(qnth (q47 [(D.int 3),(st98_6_a5 pd0 pd1 sn0 sn1 sn2 sn3 sn4 sd5),(st98_6_a4 pd0 pd1 sn0 sn1 sn2 sn3 sn4 sd5)]) 4)])
  else
  none
  else
  none
  else
  none
  else
  none
  else
  none
  else
  none
  else
  bif (qeqD pd0 pd0)then
  bif (qeqD pd1 pd1)then
  some (Sum.inr [(D.int 0),(D.int sn1),(D.int sn2),(D.int sn3),(D.int sn4),sd5])
  else
  none
  else
  none:=by kernel_rfl
 rw[h];simp only[qeqD_self,qeqI_self,qeq_len,show qcmp BinOp.eql 0 (qlen (D.list []))=true from qeq_len [],show∀a,qcmp BinOp.eql 1 (qlen (D.list [a]))=true from fun a=>qeq_len [a],show∀a b,qcmp BinOp.eql 2 (qlen (D.list [a,b]))=true from fun a b=>qeq_len [a,b],show∀a b c,qcmp BinOp.eql 3 (qlen (D.list [a,b,c]))=true from fun a b c=>qeq_len [a,b,c],show∀a b c d,qcmp BinOp.eql 4 (qlen (D.list [a,b,c,d]))=true from fun a b c d=>qeq_len [a,b,c,d],cond_true]
noncomputable def l98_6:List D→List D→Option (List D):=veil fun p s=>loW (st98_6 p) s
theorem l98_6_eq:l98_6=fun p s=>loW (st98_6 p) s:=veil_eq _
noncomputable def tbl98_6:Tb:=Tb.addL tb47 98 6 S98_6.n0 (mkLp S98_6 (l98_6))
theorem ok_tbl98_6:TbOk env (tbl98_6):=addLoopQ ok_tb47 98 6 (by kernel_rfl) _ (l98_6_eq)
def S98:FunS:=⟨[⟨true,(.dat 24)⟩,⟨true,(.rows 22)⟩],[],[⟨true,(.tup [(.agg [(.int .i64),(.int .i64),(.int .i64),(.int .i64),(.int .i64),(.int .u32),(.rows 33),(.lit (.slice none 0 0))]),(.rows 22)])⟩],[]⟩
noncomputable def F98:List D→Option (List D):=liftX env tbl98_6 60 12 98 S98
theorem F98_eq (sd0:D) (sd1:D):F98 [sd0,sd1] =
 bif (qsome (q96 [sd1]))then
 bif (qcmp BinOp.eql (qlen (qnth (q96 [sd1]) 0)) 1)then
 some [(D.int 6),(D.int 0),(D.int 0),(D.int 0),(D.int 0),(D.int 0),(D.list []),(qnth (q96 [sd1]) 0)]
 else
 bif (qsome (l98_6 [(qnth (q96 [sd1]) 0),sd0] [(D.int 1),(D.int 0),(D.int 0),(D.int 0),(D.int 0),(D.list [])]))then
 some [(D.int 8),(D.int 0),(D.int 0),(D.int 0),(D.int 0),(D.int 0),(D.list [(D.agg [(D.int (qint (qnth (l98_6 [(qnth (q96 [sd1]) 0),sd0] [(D.int 1),(D.int 0),(D.int 0),(D.int 0),(D.int 0),(D.list [])]) 1))),(D.int (qint (qnth (l98_6 [(qnth (q96 [sd1]) 0),sd0] [(D.int 1),(D.int 0),(D.int 0),(D.int 0),(D.int 0),(D.list [])]) 2))),(D.int (qint (qnth (l98_6 [(qnth (q96 [sd1]) 0),sd0] [(D.int 1),(D.int 0),(D.int 0),(D.int 0),(D.int 0),(D.list [])]) 3))),(D.int (qint (qnth (l98_6 [(qnth (q96 [sd1]) 0),sd0] [(D.int 1),(D.int 0),(D.int 0),(D.int 0),(D.int 0),(D.list [])]) 4))),(qnth (l98_6 [(qnth (q96 [sd1]) 0),sd0] [(D.int 1),(D.int 0),(D.int 0),(D.int 0),(D.int 0),(D.list [])]) 5)])]),(qnth (q96 [sd1]) 0)]
 else
 none
 else
 none:=by kernel_rfl
noncomputable def q98:List D→Option (List D):=veil (F98)
theorem q98_eq:q98=F98:=veil_eq _
noncomputable def tb98:Tb:=Tb.addF tbl98_6 98 S98 (q98)
theorem ok_tb98:TbOk env (tb98):=addFunF ok_tbl98_6 98 (by kernel_rfl) _ (q98_eq)
def S58:FunS:=⟨[⟨true,(.dat 24)⟩,⟨true,(.rows 22)⟩],[],[⟨true,(.tup [(.agg [(.int .i64),(.int .i64),(.int .i64),(.int .i64),(.int .i64),(.int .u32),(.rows 33),(.lit (.slice none 0 0))]),(.rows 22)])⟩],[]⟩
noncomputable def F58:List D→Option (List D):=liftX env tb98 60 12 58 S58
theorem F58_eq (sd0:D) (sd1:D):F58 [sd0,sd1] =
 bif (qsome (q97 [sd0]))then
 bif (qcmp BinOp.eql (qint (qfld sd0 2)) 1)then
 some [(D.int 10),(D.int 0),(D.int 0),(D.int 0),(D.int 0),(D.int 0),(D.list []),(D.list [])]
 else
 bif (qcmp BinOp.eql (qint (qfld sd0 2)) 2)then
 some [(D.int 9),(D.int 0),(D.int 0),(D.int 0),(D.int 0),(D.int 0),(D.list []),(D.list [])]
 else
 bif (qcmp BinOp.eql (qint (qfld sd0 2)) 20)then
 bif (qcmp BinOp.eql (qint (qfld sd0 5)) 0)then
 some [(D.int 6),(D.int 0),(D.int 0),(D.int 0),(D.int 0),(D.int 0),(D.list []),(D.list [(D.int (qint (qfld sd0 1)))])]
 else
 bif (qsome (q76 [(D.int (qint (qfld sd0 5)))]))then
 some [(D.int 7),(D.int 0),(D.int 0),(D.int 0),(D.int 0),(D.int 0),(D.list [(D.agg [(D.int (qint (qfld (qnth (q76 [(D.int (qint (qfld sd0 5)))]) 0) 0))),(D.int (qint (qfld (qnth (q76 [(D.int (qint (qfld sd0 5)))]) 0) 1))),(D.int (qint (qfld (qnth (q76 [(D.int (qint (qfld sd0 5)))]) 0) 2))),(D.int (qint (qfld (qnth (q76 [(D.int (qint (qfld sd0 5)))]) 0) 3))),(qfld (qnth (q76 [(D.int (qint (qfld sd0 5)))]) 0) 4)])]),(D.list [(D.int (qint (qfld sd0 1))),(D.int (qint (qnth (q97 [sd0]) 0)))])]
 else
 none
 else
 bif (qcmp BinOp.eql (qint (qfld sd0 2)) 22)then
 some [(D.int 8),(D.int 0),(D.int 0),(D.int 0),(D.int 0),(D.int 0),(D.list [(D.agg [(D.int 2),(D.int 0),(D.int (qint (qfld sd0 6))),(D.int 0),(D.list [])])]),sd1]
 else
 bif (qcmp BinOp.eql (qint (qfld sd0 2)) 21)then
 bif (qsome (q98 [sd0,sd1]))then
 some [(D.int (qint (qnth (q98 [sd0,sd1]) 0))),(D.int (qint (qnth (q98 [sd0,sd1]) 1))),(D.int (qint (qnth (q98 [sd0,sd1]) 2))),(D.int (qint (qnth (q98 [sd0,sd1]) 3))),(D.int (qint (qnth (q98 [sd0,sd1]) 4))),(D.int (qint (qnth (q98 [sd0,sd1]) 5))),(qnth (q98 [sd0,sd1]) 6),(qnth (q98 [sd0,sd1]) 7)]
 else
 none
 else
 some [(D.int 6),(D.int 0),(D.int 0),(D.int 0),(D.int 0),(D.int 0),(D.list []),(D.list [(D.int (qint (qnth (q97 [sd0]) 0)))])]
 else
 none:=by kernel_rfl
noncomputable def q58:List D→Option (List D):=veil (F58)
theorem q58_eq:q58=F58:=veil_eq _
noncomputable def tb58:Tb:=Tb.addF tb98 58 S58 (q58)
theorem ok_tb58:TbOk env (tb58):=addFunF ok_tb98 58 (by kernel_rfl) _ (q58_eq)
def S59_2:LoopS:=⟨0,[⟨false,(.rows 22)⟩,⟨false,(.int .u32)⟩,uF,uF,⟨false,(.lit (.int .i64 0))⟩,⟨true,(.int .i64)⟩,uF,uF,uF,uF,uF,uF,uF,uF,uF,uF,uF,uF,uF],[],[⟨0,0,[⟨false,(.rows 22)⟩,⟨false,(.int .u32)⟩,uT,uT,⟨true,(.lit (.int .i64 0))⟩,uT,uT,uT,uT,uT,uT,uT,uT,uT,uT,uT,uT,uT,uT],[]⟩,⟨1,0,[⟨false,(.rows 22)⟩,⟨false,(.int .u32)⟩,uT,uT,⟨true,(.int .i64)⟩,uT,uT,uT,uT,uT,uT,uT,uT,uT,uT,uT,uT,uT,uT],[]⟩]⟩
noncomputable def st59_2 (p s:List D):Option (Sum (List D) (List D)):=stepQX env tb58 60 12 59 (loopC 59 2) S59_2 p s
theorem st59_2_eq (pd0:D) (pn1:Int) (sn0:Int):st59_2 [pd0,(D.int pn1)] [(D.int sn0)] =
 bif (qcmp BinOp.lss sn0 (qlen pd0))then
 bif (qinb pd0 sn0)then
 bif (qcmp BinOp.eql (qint (qget pd0 sn0)) pn1)then
 some (Sum.inr [(D.int 1),(D.int sn0)])
 else
 some (Sum.inl [(D.int (qbin BinOp.add IntKind.i64 sn0 1))])
 else
 none
 else
 some (Sum.inr [(D.int 0)]):=by
 have h:st59_2 [pd0,(D.int pn1)] [(D.int sn0)] =
  bif (qcmp BinOp.lss sn0 (qlen pd0))then
  bif (qinb pd0 sn0)then
  bif (qcmp BinOp.eql (qint (qget pd0 sn0)) pn1)then
  bif (qeqD pd0 pd0)then
  bif (qeqD (D.int pn1) (D.int pn1))then
  some (Sum.inr [(D.int 1),(D.int sn0)])
  else
  none
  else
  none
  else
  bif (qeqD pd0 pd0)then
  bif (qeqD (D.int pn1) (D.int pn1))then
  some (Sum.inl [(D.int (qbin BinOp.add IntKind.i64 sn0 1))])
  else
  none
  else
  none
  else
  none
  else
  bif (qeqD pd0 pd0)then
  bif (qeqD (D.int pn1) (D.int pn1))then
  some (Sum.inr [(D.int 0)])
  else
  none
  else
  none:=by kernel_rfl
 rw[h];simp only[qeqD_self,qeqI_self,qeq_len,show qcmp BinOp.eql 0 (qlen (D.list []))=true from qeq_len [],show∀a,qcmp BinOp.eql 1 (qlen (D.list [a]))=true from fun a=>qeq_len [a],show∀a b,qcmp BinOp.eql 2 (qlen (D.list [a,b]))=true from fun a b=>qeq_len [a,b],show∀a b c,qcmp BinOp.eql 3 (qlen (D.list [a,b,c]))=true from fun a b c=>qeq_len [a,b,c],show∀a b c d,qcmp BinOp.eql 4 (qlen (D.list [a,b,c,d]))=true from fun a b c d=>qeq_len [a,b,c,d],cond_true]
noncomputable def l59_2:List D→List D→Option (List D):=veil fun p s=>loW (st59_2 p) s
theorem l59_2_eq:l59_2=fun p s=>loW (st59_2 p) s:=veil_eq _
noncomputable def tbl59_2:Tb:=Tb.addL tb58 59 2 S59_2.n0 (mkLp S59_2 (l59_2))
theorem ok_tbl59_2:TbOk env (tbl59_2):=addLoopQ ok_tb58 59 2 (by kernel_rfl) _ (l59_2_eq)
def S59:FunS:=⟨[⟨true,(.rows 22)⟩,⟨true,(.int .u32)⟩],[],[⟨true,(.int .i64)⟩],[]⟩
noncomputable def F59:List D→Option (List D):=liftX env tbl59_2 60 12 59 S59
theorem F59_eq (sd0:D) (sn1:Int):F59 [sd0,(D.int sn1)] =
 bif (qsome (l59_2 [sd0,(D.int sn1)] [(D.int 0)]))then
 bif (qcmp BinOp.eql (qint (qnth (l59_2 [sd0,(D.int sn1)] [(D.int 0)]) 0)) 0)then
 some [(D.int (-1))]
 else
 some [(D.int (qint (qnth (l59_2 [sd0,(D.int sn1)] [(D.int 0)]) 1)))]
 else
 none:=by kernel_rfl
noncomputable def q59:List D→Option (List D):=veil (F59)
theorem q59_eq:q59=F59:=veil_eq _
noncomputable def tb59:Tb:=Tb.addF tbl59_2 59 S59 (q59)
theorem ok_tb59:TbOk env (tb59):=addFunF ok_tbl59_2 59 (by kernel_rfl) _ (q59_eq)
def S57_4:LoopS:=⟨0,[uF,⟨false,(.ptr 0 0)⟩,⟨false,(.lit (.int .i64 0))⟩,⟨true,(.int .i64)⟩,uF,uF,uF,uF,uF,uF,uF,uF,uF,uF,uF,uF,uF,uF,uF,uF,uF,uF,uF,uF,uF,uF,uF,uF,uF,uF,uF,uF,uF,uF,uF,uF,uF,uF,uF,uF,uF,uF,uF,uF,uF,uF,uF,uF,uF,uF,uF,uF,uF,uF,uF,uF,uF,uF,uF,uF,uF,uF,uF,uF,uF,uF,uF,uF,uF,uF,uF,uF,uF,uF,uF,uF,uF,uF,uF,uF,uF,uF,uF,uF,uF,uF,uF,uF,uF,uF,uF,uF,uF,uF,uF,uF,uF,uF],[(.dat false 58)],[⟨0,0,[uT,⟨true,(.ptr 0 0)⟩,⟨true,(.lit (.int .i64 0))⟩,uT,uT,uT,uT,uT,uT,uT,uT,uT,uT,uT,uT,uT,uT,uT,uT,uT,uT,uT,uT,uT,uT,uT,uT,uT,uT,uT,uT,uT,uT,uT,uT,uT,uT,uT,uT,uT,uT,uT,uT,uT,uT,uT,uT,uT,uT,uT,uT,uT,uT,uT,uT,uT,uT,uT,uT,uT,uT,uT,uT,uT,uT,uT,uT,uT,uT,uT,uT,uT,uT,uT,uT,uT,uT,uT,uT,uT,uT,uT,uT,uT,uT,uT,uT,uT,uT,uT,uT,uT,uT,uT,uT,uT,uT,uT],[(.dat false 58)]⟩,⟨1,0,[uT,uT,⟨true,(.lit (.int .i64 2))⟩,uT,uT,uT,uT,uT,uT,uT,uT,uT,uT,uT,uT,uT,uT,uT,uT,uT,uT,uT,uT,uT,uT,uT,uT,uT,uT,uT,uT,uT,uT,uT,uT,uT,uT,uT,uT,uT,uT,uT,uT,uT,uT,uT,uT,uT,uT,uT,uT,uT,uT,uT,uT,uT,uT,uT,uT,uT,uT,uT,uT,uT,uT,uT,uT,uT,uT,uT,uT,uT,uT,uT,uT,uT,uT,uT,uT,uT,uT,uT,uT,uT,uT,uT,uT,uT,uT,uT,uT,uT,uT,uT,uT,uT,uT,uT],[(.dat false 58)]⟩]⟩
noncomputable def st57_4 (p s:List D):Option (Sum (List D) (List D)):=stepQX env tb59 60 12 57 (loopC 57 4) S57_4 p s
theorem st57_4_eq (pd0:D) (sn0:Int):st57_4 [pd0] [(D.int sn0)] =
 bif (qcmp BinOp.lss sn0 (qlen (qfld pd0 2)))then
 bif (qinb (qfld pd0 2) sn0)then
 bif (qsome (q40 [(qget (qfld pd0 2) sn0)]))then
 bif (qnot (qbool (qnth (q40 [(qget (qfld pd0 2) sn0)]) 0)))then
 some (Sum.inr [(D.int 1)])
 else
 some (Sum.inl [(D.int (qbin BinOp.add IntKind.i64 sn0 1))])
 else
 none
 else
 none
 else
 some (Sum.inr [(D.int 0)]):=by
 have h:st57_4 [pd0] [(D.int sn0)] =
  bif (qcmp BinOp.lss sn0 (qlen (qfld pd0 2)))then
  bif (qinb (qfld pd0 2) sn0)then
  bif (qsome (q40 [(qget (qfld pd0 2) sn0)]))then
  bif (qnot (qbool (qnth (q40 [(qget (qfld pd0 2) sn0)]) 0)))then
  bif (qeqD pd0 pd0)then
  some (Sum.inr [(D.int 1)])
  else
  none
  else
  bif (qeqD pd0 pd0)then
  some (Sum.inl [(D.int (qbin BinOp.add IntKind.i64 sn0 1))])
  else
  none
  else
  none
  else
  none
  else
  bif (qeqD pd0 pd0)then
  some (Sum.inr [(D.int 0)])
  else
  none:=by kernel_rfl
 rw[h];simp only[qeqD_self,qeqI_self,qeq_len,show qcmp BinOp.eql 0 (qlen (D.list []))=true from qeq_len [],show∀a,qcmp BinOp.eql 1 (qlen (D.list [a]))=true from fun a=>qeq_len [a],show∀a b,qcmp BinOp.eql 2 (qlen (D.list [a,b]))=true from fun a b=>qeq_len [a,b],show∀a b c,qcmp BinOp.eql 3 (qlen (D.list [a,b,c]))=true from fun a b c=>qeq_len [a,b,c],show∀a b c d,qcmp BinOp.eql 4 (qlen (D.list [a,b,c,d]))=true from fun a b c d=>qeq_len [a,b,c,d],cond_true]
noncomputable def l57_4:List D→List D→Option (List D):=veil fun p s=>loW (st57_4 p) s
theorem l57_4_eq:l57_4=fun p s=>loW (st57_4 p) s:=veil_eq _
noncomputable def tbl57_4:Tb:=Tb.addL tb59 57 4 S57_4.n0 (mkLp S57_4 (l57_4))
theorem ok_tbl57_4:TbOk env (tbl57_4):=addLoopQ ok_tb59 57 4 (by kernel_rfl) _ (l57_4_eq)
def S57_11:LoopS:=⟨0,[uF,⟨false,(.ptr 0 0)⟩,⟨false,(.lit (.int .i64 0))⟩,uF,⟨false,(.ptr 1 0)⟩,⟨true,(.int .i64)⟩,⟨true,(.int .i64)⟩,uF,uF,uF,uF,uF,uF,uF,uF,uF,uF,uF,uF,uF,uF,uF,uF,uF,uF,uF,uF,uF,uF,uF,uF,uF,uF,uF,uF,uF,uF,uF,uF,uF,uF,uF,uF,uF,uF,uF,uF,uF,uF,uF,uF,uF,uF,uF,uF,uF,uF,uF,uF,uF,uF,uF,uF,uF,uF,uF,uF,uF,uF,uF,uF,uF,uF,uF,uF,uF,uF,uF,uF,uF,uF,uF,uF,uF,uF,uF,uF,uF,uF,uF,uF,uF,uF,uF,uF,uF,uF,uF],[(.dat false 24),(.dat false 58)],[⟨0,2,[uT,⟨true,(.ptr 0 0)⟩,⟨true,(.lit (.int .i64 0))⟩,uT,⟨true,(.ptr 1 0)⟩,uT,uT,uT,uT,uT,uT,uT,uT,uT,uT,uT,uT,uT,uT,uT,uT,uT,uT,uT,uT,uT,uT,uT,uT,uT,uT,uT,uT,uT,uT,uT,uT,uT,uT,uT,uT,uT,uT,uT,uT,uT,uT,uT,uT,uT,uT,uT,uT,uT,uT,uT,uT,uT,uT,uT,uT,uT,uT,uT,uT,uT,uT,uT,uT,uT,uT,uT,uT,uT,uT,uT,uT,uT,uT,uT,uT,uT,uT,uT,uT,uT,uT,uT,uT,uT,uT,uT,uT,uT,uT,uT,uT,uT],[(.dat false 24),(.dat false 58)]⟩,⟨1,0,[uT,uT,⟨true,(.lit (.int .i64 19))⟩,uT,uT,uT,uT,uT,uT,uT,uT,uT,uT,uT,uT,uT,uT,uT,uT,uT,uT,uT,uT,uT,uT,uT,uT,uT,uT,uT,uT,uT,uT,uT,uT,uT,uT,uT,uT,uT,uT,uT,uT,uT,uT,uT,uT,uT,uT,uT,uT,uT,uT,uT,uT,uT,uT,uT,uT,uT,uT,uT,uT,uT,uT,uT,uT,uT,uT,uT,uT,uT,uT,uT,uT,uT,uT,uT,uT,uT,uT,uT,uT,uT,uT,uT,uT,uT,uT,uT,uT,uT,uT,uT,uT,uT,uT,uT],[(.dat false 24),(.dat false 58)]⟩]⟩
noncomputable def st57_11 (p s:List D):Option (Sum (List D) (List D)):=stepQX env tbl57_4 60 12 57 (loopC 57 11) S57_11 p s
theorem st57_11_eq (pd0:D) (pd1:D) (sn0:Int) (sn1:Int):st57_11 [pd0,pd1] [(D.int sn0),(D.int sn1)] =
 bif (qcmp BinOp.lss sn1 (qlen (qfld pd1 2)))then
 bif (qinb (qfld pd1 2) sn1)then
 bif (qcmp BinOp.neq (qint (qfld (qget (qfld pd1 2) sn1) 2)) 24)then
 some (Sum.inl [(D.int sn0),(D.int (qbin BinOp.add IntKind.i64 sn1 1))])
 else
 bif (qiteB (qcmp BinOp.geq sn0 (qlen (qfld pd1 4))) Bool.true (qinb (qfld pd1 4) sn0))then
 bif (qiteB (qcmp BinOp.geq sn0 (qlen (qfld pd1 4))) Bool.true (qcmp BinOp.neq (qlen (qget (qfld pd1 4) sn0)) 1))then
 some (Sum.inr [(D.int 1)])
 else
 some (Sum.inl [(D.int (qbin BinOp.add IntKind.i64 sn0 1)),(D.int (qbin BinOp.add IntKind.i64 sn1 1))])
 else
 none
 else
 none
 else
 some (Sum.inr [(D.int 0)]):=by
 have h:st57_11 [pd0,pd1] [(D.int sn0),(D.int sn1)] =
  bif (qcmp BinOp.lss sn1 (qlen (qfld pd1 2)))then
  bif (qinb (qfld pd1 2) sn1)then
  bif (qcmp BinOp.neq (qint (qfld (qget (qfld pd1 2) sn1) 2)) 24)then
  bif (qeqD pd0 pd0)then
  bif (qeqD pd1 pd1)then
  some (Sum.inl [(D.int sn0),(D.int (qbin BinOp.add IntKind.i64 sn1 1))])
  else
  none
  else
  none
  else
  bif (qiteB (qcmp BinOp.geq sn0 (qlen (qfld pd1 4))) Bool.true (qinb (qfld pd1 4) sn0))then
  bif (qiteB (qcmp BinOp.geq sn0 (qlen (qfld pd1 4))) Bool.true (qcmp BinOp.neq (qlen (qget (qfld pd1 4) sn0)) 1))then
  bif (qeqD pd0 pd0)then
  bif (qeqD pd1 pd1)then
  some (Sum.inr [(D.int 1)])
  else
  none
  else
  none
  else
  bif (qeqD pd0 pd0)then
  bif (qeqD pd1 pd1)then
  some (Sum.inl [(D.int (qbin BinOp.add IntKind.i64 sn0 1)),(D.int (qbin BinOp.add IntKind.i64 sn1 1))])
  else
  none
  else
  none
  else
  none
  else
  none
  else
  bif (qeqD pd0 pd0)then
  bif (qeqD pd1 pd1)then
  some (Sum.inr [(D.int 0)])
  else
  none
  else
  none:=by kernel_rfl
 rw[h];simp only[qeqD_self,qeqI_self,qeq_len,show qcmp BinOp.eql 0 (qlen (D.list []))=true from qeq_len [],show∀a,qcmp BinOp.eql 1 (qlen (D.list [a]))=true from fun a=>qeq_len [a],show∀a b,qcmp BinOp.eql 2 (qlen (D.list [a,b]))=true from fun a b=>qeq_len [a,b],show∀a b c,qcmp BinOp.eql 3 (qlen (D.list [a,b,c]))=true from fun a b c=>qeq_len [a,b,c],show∀a b c d,qcmp BinOp.eql 4 (qlen (D.list [a,b,c,d]))=true from fun a b c d=>qeq_len [a,b,c,d],cond_true]
noncomputable def l57_11:List D→List D→Option (List D):=veil fun p s=>loW (st57_11 p) s
theorem l57_11_eq:l57_11=fun p s=>loW (st57_11 p) s:=veil_eq _
noncomputable def tbl57_11:Tb:=Tb.addL tbl57_4 57 11 S57_11.n0 (mkLp S57_11 (l57_11))
theorem ok_tbl57_11:TbOk env (tbl57_11):=addLoopQ ok_tbl57_4 57 11 (by kernel_rfl) _ (l57_11_eq)
def S57:FunS:=⟨[⟨true,(.dat 58)⟩],[],[⟨true,(.int .i64)⟩],[]⟩
noncomputable def F57:List D→Option (List D):=liftX env tbl57_11 60 12 57 S57
theorem F57_eq (sd0:D):F57 [sd0] =
 bif (qcmp BinOp.eql (qlen (qfld sd0 2)) 0)then
 some [(D.int 2)]
 else
 bif (qsome (l57_4 [sd0] [(D.int 0)]))then
 bif (qcmp BinOp.eql (qint (qnth (l57_4 [sd0] [(D.int 0)]) 0)) 0)then
 bif (qinb (qfld sd0 2) (qbin BinOp.sub IntKind.i64 (qlen (qfld sd0 2)) 1))then
 bif (qsome (l57_11 [(qget (qfld sd0 2) (qbin BinOp.sub IntKind.i64 (qlen (qfld sd0 2)) 1)),sd0] [(D.int 0),(D.int 0)]))then
 bif (qcmp BinOp.eql (qint (qnth (l57_11 [(qget (qfld sd0 2) (qbin BinOp.sub IntKind.i64 (qlen (qfld sd0 2)) 1)),sd0] [(D.int 0),(D.int 0)]) 0)) 0)then
 bif (qiteB (qiteB (qcmp BinOp.eql (qint (qfld (qget (qfld sd0 2) (qbin BinOp.sub IntKind.i64 (qlen (qfld sd0 2)) 1)) 2)) 21) Bool.true (qcmp BinOp.eql (qint (qfld (qget (qfld sd0 2) (qbin BinOp.sub IntKind.i64 (qlen (qfld sd0 2)) 1)) 2)) 22)) (qcmp BinOp.eql (qlen (qfld sd0 3)) 0) Bool.false)then
 some [(D.int 19)]
 else
 bif (qiteB (qiteB (qcmp BinOp.eql (qint (qfld (qget (qfld sd0 2) (qbin BinOp.sub IntKind.i64 (qlen (qfld sd0 2)) 1)) 2)) 22) (qcmp BinOp.gtr (qlen (qfld sd0 3)) 64) Bool.false) Bool.true (qiteB (qcmp BinOp.eql (qint (qfld (qget (qfld sd0 2) (qbin BinOp.sub IntKind.i64 (qlen (qfld sd0 2)) 1)) 2)) 21) (qsome (q96 [(qfld sd0 3)])) Bool.true))then
 bif (qiteB (qiteB (qcmp BinOp.eql (qint (qfld (qget (qfld sd0 2) (qbin BinOp.sub IntKind.i64 (qlen (qfld sd0 2)) 1)) 2)) 22) (qcmp BinOp.gtr (qlen (qfld sd0 3)) 64) Bool.false) Bool.true (qiteB (qcmp BinOp.eql (qint (qfld (qget (qfld sd0 2) (qbin BinOp.sub IntKind.i64 (qlen (qfld sd0 2)) 1)) 2)) 21) (qcmp BinOp.gtr (qlen (qnth (q96 [(qfld sd0 3)]) 0)) 32) Bool.false))then
 some [(D.int 6)]
 else
 some [(D.int 0)]
 else
 none
 else
 some [(D.int 19)]
 else
 none
 else
 none
 else
 some [(D.int 2)]
 else
 none:=by kernel_rfl
noncomputable def q57:List D→Option (List D):=veil (F57)
theorem q57_eq:q57=F57:=veil_eq _
noncomputable def tb57:Tb:=Tb.addF tbl57_11 57 S57 (q57)
theorem ok_tb57:TbOk env (tb57):=addFunF ok_tbl57_11 57 (by kernel_rfl) _ (q57_eq)
def S23_7:LoopS:=⟨0,[uF,⟨false,(.rows 22)⟩,⟨false,(.int .i64)⟩,⟨false,(.ptr 0 0)⟩,uF,uF,⟨false,(.ptr 1 0)⟩,⟨false,(.lit (.int .i64 0))⟩,⟨false,(.lit (.int .i64 0))⟩,uF,⟨false,(.ptr 2 0)⟩,⟨true,(.int .i64)⟩,⟨true,(.int .i64)⟩,uF,uF,uF,uF,uF,uF,uF,uF,uF,uF,uF,uF,uF,uF,uF,uF,uF,uF,uF,uF,uF,uF,uF,uF,uF,uF,uF,uF,uF,uF,uF,uF,uF,uF,uF,uF,uF,uF,uF,uF,uF,uF,uF,uF,uF,uF,uF,uF,uF,uF,uF,uF,uF,uF,uF,uF,uF,uF,uF,uF,uF,uF,uF,uF,uF,uF,uF,uF,uF,uF,uF,uF,uF,uF,uF,uF,uF,uF,uF,uF,uF,uF,uF,uF,uF,uF,uF,uF,uF,uF,uF,uF,uF,uF,uF,uF,uF,uF,uF,uF,uF,uF,uF,uF,uF,uF,uF,uF,uF,uF,uF,uF,uF,uF,uF,uF,uF,uF,uF,uF,uF,uF,uF],[(.lst true 91),(.cells [⟨false,(.int .u32)⟩,⟨false,(.osl 3 91)⟩]),(.cells [⟨false,(.lit (.int .u32 0))⟩,⟨false,(.lit (.slice none 0 0))⟩]),(.dat false 58)],[⟨0,0,[uT,⟨false,(.rows 22)⟩,⟨false,(.int .i64)⟩,⟨true,(.ptr 0 0)⟩,uT,uT,⟨true,(.ptr 1 0)⟩,⟨true,(.lit (.int .i64 0))⟩,⟨true,(.lit (.int .i64 0))⟩,uT,⟨true,(.ptr 2 0)⟩,uT,uT,uT,uT,uT,uT,uT,uT,uT,uT,uT,uT,uT,uT,uT,uT,uT,uT,uT,uT,uT,uT,uT,uT,uT,uT,uT,uT,uT,uT,uT,uT,uT,uT,uT,uT,uT,uT,uT,uT,uT,uT,uT,uT,uT,uT,uT,uT,uT,uT,uT,uT,uT,uT,uT,uT,uT,uT,uT,uT,uT,uT,uT,uT,uT,uT,uT,uT,uT,uT,uT,uT,uT,uT,uT,uT,uT,uT,uT,uT,uT,uT,uT,uT,uT,uT,uT,uT,uT,uT,uT,uT,uT,uT,uT,uT,uT,uT,uT,uT,uT,uT,uT,uT,uT,uT,uT,uT,uT,uT,uT,uT,uT,uT,uT,uT,uT,uT,uT,uT,uT,uT,uT,uT,uT],[(.lst true 91),(.cells [⟨false,(.int .u32)⟩,⟨true,(.osl 3 91)⟩]),(.cells [⟨true,(.lit (.int .u32 0))⟩,⟨true,(.lit (.slice none 0 0))⟩]),(.dat false 58)]⟩]⟩
noncomputable def st23_7 (p s:List D):Option (Sum (List D) (List D)):=stepQX env tb57 60 12 23 (loopC 23 7) S23_7 p s
theorem st23_7_eq (pd0:D) (pn1:Int) (pn2:Int) (pd3:D) (sn0:Int) (sn1:Int) (sd2:D):st23_7 [pd0,(D.int pn1),(D.int pn2),pd3] [(D.int sn0),(D.int sn1),sd2] =
 bif (qcmp BinOp.lss sn1 (qlen (qfld pd3 2)))then
 bif (qinb (qfld pd3 2) sn1)then
 bif (qsome (q41 [(qget (qfld pd3 2) sn1)]))then
 bif (qmem (qlen (qapp sd2 (qnth (q41 [(qget (qfld pd3 2) sn1)]) 0))) 96)then
 bif (qinb (qfld pd3 2) sn1)then
 bif (qcmp BinOp.eql (qint (qfld (qget (qfld pd3 2) sn1) 2)) 23)then
 bif (qinb (qfld pd3 2) sn1)then
 bif (qmem (qlen (qapp (qapp sd2 (qnth (q41 [(qget (qfld pd3 2) sn1)]) 0)) (D.list [(D.agg [(D.int 5),(D.int 0),(D.int 0),(D.int 0),(D.int 0),(D.int (qint (qfld (qget (qfld pd3 2) sn1) 1))),(D.list []),(D.list [])])]))) 96)then
 bif (qinb (qfld pd3 2) sn1)then
 bif (qcmp BinOp.eql (qint (qfld (qget (qfld pd3 2) sn1) 2)) 24)then
 bif (qinb (qfld pd3 4) sn0)then
 bif (qinb (qget (qfld pd3 4) sn0) 0)then
 bif (qmem (qlen (qapp (qapp (qapp sd2 (qnth (q41 [(qget (qfld pd3 2) sn1)]) 0)) (D.list [(D.agg [(D.int 5),(D.int 0),(D.int 0),(D.int 0),(D.int 0),(D.int (qint (qfld (qget (qfld pd3 2) sn1) 1))),(D.list []),(D.list [])])])) (D.list [(D.agg [(D.int 5),(D.int 0),(D.int 0),(D.int 0),(D.int 0),(D.int (qint (qget (qget (qfld pd3 4) sn0) 0))),(D.list []),(D.list [])])]))) 96)then
 some (Sum.inl [(D.int (qbin BinOp.add IntKind.i64 sn0 1)),(D.int (qbin BinOp.add IntKind.i64 sn1 1)),(qapp (qapp (qapp sd2 (qnth (q41 [(qget (qfld pd3 2) sn1)]) 0)) (D.list [(D.agg [(D.int 5),(D.int 0),(D.int 0),(D.int 0),(D.int 0),(D.int (qint (qfld (qget (qfld pd3 2) sn1) 1))),(D.list []),(D.list [])])])) (D.list [(D.agg [(D.int 5),(D.int 0),(D.int 0),(D.int 0),(D.int 0),(D.int (qint (qget (qget (qfld pd3 4) sn0) 0))),(D.list []),(D.list [])])]))])
 else
 none
 else
 none
 else
 none
 else
 some (Sum.inl [(D.int sn0),(D.int (qbin BinOp.add IntKind.i64 sn1 1)),(qapp (qapp sd2 (qnth (q41 [(qget (qfld pd3 2) sn1)]) 0)) (D.list [(D.agg [(D.int 5),(D.int 0),(D.int 0),(D.int 0),(D.int 0),(D.int (qint (qfld (qget (qfld pd3 2) sn1) 1))),(D.list []),(D.list [])])]))])
 else
 none
 else
 none
 else
 none
 else
 bif (qinb (qfld pd3 2) sn1)then
 bif (qcmp BinOp.eql (qint (qfld (qget (qfld pd3 2) sn1) 2)) 24)then
 bif (qinb (qfld pd3 4) sn0)then
 bif (qinb (qget (qfld pd3 4) sn0) 0)then
 bif (qmem (qlen (qapp (qapp sd2 (qnth (q41 [(qget (qfld pd3 2) sn1)]) 0)) (D.list [(D.agg [(D.int 5),(D.int 0),(D.int 0),(D.int 0),(D.int 0),(D.int (qint (qget (qget (qfld pd3 4) sn0) 0))),(D.list []),(D.list [])])]))) 96)then
 some (Sum.inl [(D.int (qbin BinOp.add IntKind.i64 sn0 1)),(D.int (qbin BinOp.add IntKind.i64 sn1 1)),(qapp (qapp sd2 (qnth (q41 [(qget (qfld pd3 2) sn1)]) 0)) (D.list [(D.agg [(D.int 5),(D.int 0),(D.int 0),(D.int 0),(D.int 0),(D.int (qint (qget (qget (qfld pd3 4) sn0) 0))),(D.list []),(D.list [])])]))])
 else
 none
 else
 none
 else
 none
 else
 some (Sum.inl [(D.int sn0),(D.int (qbin BinOp.add IntKind.i64 sn1 1)),(qapp sd2 (qnth (q41 [(qget (qfld pd3 2) sn1)]) 0))])
 else
 none
 else
 none
 else
 none
 else
 none
 else
 none
 else
 some (Sum.inr [(D.int 0),sd2]):=by
 have h:st23_7 [pd0,(D.int pn1),(D.int pn2),pd3] [(D.int sn0),(D.int sn1),sd2] =
  bif (qcmp BinOp.lss sn1 (qlen (qfld pd3 2)))then
  bif (qinb (qfld pd3 2) sn1)then
  bif (qsome (q41 [(qget (qfld pd3 2) sn1)]))then
  bif (qcmp BinOp.eql (qlen sd2) (qlen sd2))then
  bif (qmem (qlen (qapp sd2 (qnth (q41 [(qget (qfld pd3 2) sn1)]) 0))) 96)then
  bif (qinb (qfld pd3 2) sn1)then
  bif (qcmp BinOp.eql (qint (qfld (qget (qfld pd3 2) sn1) 2)) 23)then
  bif (qinb (qfld pd3 2) sn1)then
  bif (qcmp BinOp.eql (qlen (qapp sd2 (qnth (q41 [(qget (qfld pd3 2) sn1)]) 0))) (qlen (qapp sd2 (qnth (q41 [(qget (qfld pd3 2) sn1)]) 0))))then
  bif (qmem (qlen (qapp (qapp sd2 (qnth (q41 [(qget (qfld pd3 2) sn1)]) 0)) (D.list [(D.agg [(D.int 5),(D.int 0),(D.int 0),(D.int 0),(D.int 0),(D.int (qint (qfld (qget (qfld pd3 2) sn1) 1))),(D.list []),(D.list [])])]))) 96)then
  bif (qinb (qfld pd3 2) sn1)then
  bif (qcmp BinOp.eql (qint (qfld (qget (qfld pd3 2) sn1) 2)) 24)then
  bif (qinb (qfld pd3 4) sn0)then
  bif (qinb (qget (qfld pd3 4) sn0) 0)then
  bif (qcmp BinOp.eql (qlen (qapp (qapp sd2 (qnth (q41 [(qget (qfld pd3 2) sn1)]) 0)) (D.list [(D.agg [(D.int 5),(D.int 0),(D.int 0),(D.int 0),(D.int 0),(D.int (qint (qfld (qget (qfld pd3 2) sn1) 1))),(D.list []),(D.list [])])]))) (qlen (qapp (qapp sd2 (qnth (q41 [(qget (qfld pd3 2) sn1)]) 0)) (D.list [(D.agg [(D.int 5),(D.int 0),(D.int 0),(D.int 0),(D.int 0),(D.int (qint (qfld (qget (qfld pd3 2) sn1) 1))),(D.list []),(D.list [])])]))))then
  bif (qmem (qlen (qapp (qapp (qapp sd2 (qnth (q41 [(qget (qfld pd3 2) sn1)]) 0)) (D.list [(D.agg [(D.int 5),(D.int 0),(D.int 0),(D.int 0),(D.int 0),(D.int (qint (qfld (qget (qfld pd3 2) sn1) 1))),(D.list []),(D.list [])])])) (D.list [(D.agg [(D.int 5),(D.int 0),(D.int 0),(D.int 0),(D.int 0),(D.int (qint (qget (qget (qfld pd3 4) sn0) 0))),(D.list []),(D.list [])])]))) 96)then
  bif (qcmp BinOp.eql (qlen (qapp (qapp (qapp sd2 (qnth (q41 [(qget (qfld pd3 2) sn1)]) 0)) (D.list [(D.agg [(D.int 5),(D.int 0),(D.int 0),(D.int 0),(D.int 0),(D.int (qint (qfld (qget (qfld pd3 2) sn1) 1))),(D.list []),(D.list [])])])) (D.list [(D.agg [(D.int 5),(D.int 0),(D.int 0),(D.int 0),(D.int 0),(D.int (qint (qget (qget (qfld pd3 4) sn0) 0))),(D.list []),(D.list [])])]))) (qlen (qapp (qapp (qapp sd2 (qnth (q41 [(qget (qfld pd3 2) sn1)]) 0)) (D.list [(D.agg [(D.int 5),(D.int 0),(D.int 0),(D.int 0),(D.int 0),(D.int (qint (qfld (qget (qfld pd3 2) sn1) 1))),(D.list []),(D.list [])])])) (D.list [(D.agg [(D.int 5),(D.int 0),(D.int 0),(D.int 0),(D.int 0),(D.int (qint (qget (qget (qfld pd3 4) sn0) 0))),(D.list []),(D.list [])])]))))then
  bif (qeqD pd0 pd0)then
  bif (qeqD (D.int pn1) (D.int pn1))then
  bif (qeqD (D.int pn2) (D.int pn2))then
  bif (qeqD pd3 pd3)then
  some (Sum.inl [(D.int (qbin BinOp.add IntKind.i64 sn0 1)),(D.int (qbin BinOp.add IntKind.i64 sn1 1)),(qapp (qapp (qapp sd2 (qnth (q41 [(qget (qfld pd3 2) sn1)]) 0)) (D.list [(D.agg [(D.int 5),(D.int 0),(D.int 0),(D.int 0),(D.int 0),(D.int (qint (qfld (qget (qfld pd3 2) sn1) 1))),(D.list []),(D.list [])])])) (D.list [(D.agg [(D.int 5),(D.int 0),(D.int 0),(D.int 0),(D.int 0),(D.int (qint (qget (qget (qfld pd3 4) sn0) 0))),(D.list []),(D.list [])])]))])
  else
  none
  else
  none
  else
  none
  else
  none
  else
  none
  else
  none
  else
  none
  else
  none
  else
  none
  else
  bif (qcmp BinOp.eql (qlen (qapp (qapp sd2 (qnth (q41 [(qget (qfld pd3 2) sn1)]) 0)) (D.list [(D.agg [(D.int 5),(D.int 0),(D.int 0),(D.int 0),(D.int 0),(D.int (qint (qfld (qget (qfld pd3 2) sn1) 1))),(D.list []),(D.list [])])]))) (qlen (qapp (qapp sd2 (qnth (q41 [(qget (qfld pd3 2) sn1)]) 0)) (D.list [(D.agg [(D.int 5),(D.int 0),(D.int 0),(D.int 0),(D.int 0),(D.int (qint (qfld (qget (qfld pd3 2) sn1) 1))),(D.list []),(D.list [])])]))))then
  bif (qeqD pd0 pd0)then
  bif (qeqD (D.int pn1) (D.int pn1))then
  bif (qeqD (D.int pn2) (D.int pn2))then
  bif (qeqD pd3 pd3)then
  some (Sum.inl [(D.int sn0),(D.int (qbin BinOp.add IntKind.i64 sn1 1)),(qapp (qapp sd2 (qnth (q41 [(qget (qfld pd3 2) sn1)]) 0)) (D.list [(D.agg [(D.int 5),(D.int 0),(D.int 0),(D.int 0),(D.int 0),(D.int (qint (qfld (qget (qfld pd3 2) sn1) 1))),(D.list []),(D.list [])])]))])
  else
  none
  else
  none
  else
  none
  else
  none
  else
  none
  else
  none
  else
  none
  else
  none
  else
  none
  else
  bif (qinb (qfld pd3 2) sn1)then
  bif (qcmp BinOp.eql (qint (qfld (qget (qfld pd3 2) sn1) 2)) 24)then
  bif (qinb (qfld pd3 4) sn0)then
  bif (qinb (qget (qfld pd3 4) sn0) 0)then
  bif (qcmp BinOp.eql (qlen (qapp sd2 (qnth (q41 [(qget (qfld pd3 2) sn1)]) 0))) (qlen (qapp sd2 (qnth (q41 [(qget (qfld pd3 2) sn1)]) 0))))then
  bif (qmem (qlen (qapp (qapp sd2 (qnth (q41 [(qget (qfld pd3 2) sn1)]) 0)) (D.list [(D.agg [(D.int 5),(D.int 0),(D.int 0),(D.int 0),(D.int 0),(D.int (qint (qget (qget (qfld pd3 4) sn0) 0))),(D.list []),(D.list [])])]))) 96)then
  bif (qcmp BinOp.eql (qlen (qapp (qapp sd2 (qnth (q41 [(qget (qfld pd3 2) sn1)]) 0)) (D.list [(D.agg [(D.int 5),(D.int 0),(D.int 0),(D.int 0),(D.int 0),(D.int (qint (qget (qget (qfld pd3 4) sn0) 0))),(D.list []),(D.list [])])]))) (qlen (qapp (qapp sd2 (qnth (q41 [(qget (qfld pd3 2) sn1)]) 0)) (D.list [(D.agg [(D.int 5),(D.int 0),(D.int 0),(D.int 0),(D.int 0),(D.int (qint (qget (qget (qfld pd3 4) sn0) 0))),(D.list []),(D.list [])])]))))then
  bif (qeqD pd0 pd0)then
  bif (qeqD (D.int pn1) (D.int pn1))then
  bif (qeqD (D.int pn2) (D.int pn2))then
  bif (qeqD pd3 pd3)then
  some (Sum.inl [(D.int (qbin BinOp.add IntKind.i64 sn0 1)),(D.int (qbin BinOp.add IntKind.i64 sn1 1)),(qapp (qapp sd2 (qnth (q41 [(qget (qfld pd3 2) sn1)]) 0)) (D.list [(D.agg [(D.int 5),(D.int 0),(D.int 0),(D.int 0),(D.int 0),(D.int (qint (qget (qget (qfld pd3 4) sn0) 0))),(D.list []),(D.list [])])]))])
  else
  none
  else
  none
  else
  none
  else
  none
  else
  none
  else
  none
  else
  none
  else
  none
  else
  none
  else
  bif (qcmp BinOp.eql (qlen (qapp sd2 (qnth (q41 [(qget (qfld pd3 2) sn1)]) 0))) (qlen (qapp sd2 (qnth (q41 [(qget (qfld pd3 2) sn1)]) 0))))then
  bif (qeqD pd0 pd0)then
  bif (qeqD (D.int pn1) (D.int pn1))then
  bif (qeqD (D.int pn2) (D.int pn2))then
  bif (qeqD pd3 pd3)then
  some (Sum.inl [(D.int sn0),(D.int (qbin BinOp.add IntKind.i64 sn1 1)),(qapp sd2 (qnth (q41 [(qget (qfld pd3 2) sn1)]) 0))])
  else
  none
  else
  none
  else
  none
  else
  none
  else
  none
  else
  none
  else
  none
  else
  none
  else
  none
  else
  none
  else
  none
  else
  bif (qcmp BinOp.eql (qlen sd2) (qlen sd2))then
  bif (qeqD pd0 pd0)then
  bif (qeqD (D.int pn1) (D.int pn1))then
  bif (qeqD (D.int pn2) (D.int pn2))then
  bif (qeqD pd3 pd3)then
  some (Sum.inr [(D.int 0),sd2])
  else
  none
  else
  none
  else
  none
  else
  none
  else
  none:=by kernel_rfl
 rw[h];simp only[qeqD_self,qeqI_self,qeq_len,show qcmp BinOp.eql 0 (qlen (D.list []))=true from qeq_len [],show∀a,qcmp BinOp.eql 1 (qlen (D.list [a]))=true from fun a=>qeq_len [a],show∀a b,qcmp BinOp.eql 2 (qlen (D.list [a,b]))=true from fun a b=>qeq_len [a,b],show∀a b c,qcmp BinOp.eql 3 (qlen (D.list [a,b,c]))=true from fun a b c=>qeq_len [a,b,c],show∀a b c d,qcmp BinOp.eql 4 (qlen (D.list [a,b,c,d]))=true from fun a b c d=>qeq_len [a,b,c,d],cond_true]
noncomputable def l23_7:List D→List D→Option (List D):=veil fun p s=>loW (st23_7 p) s
theorem l23_7_eq:l23_7=fun p s=>loW (st23_7 p) s:=veil_eq _
noncomputable def tbl23_7:Tb:=Tb.addL tb57 23 7 S23_7.n0 (mkLp S23_7 (l23_7))
theorem ok_tbl23_7:TbOk env (tbl23_7):=addLoopQ ok_tb57 23 7 (by kernel_rfl) _ (l23_7_eq)
def S23_17:LoopS:=⟨0,[uF,⟨false,(.rows 22)⟩,⟨false,(.int .i64)⟩,uF,uF,uF,⟨false,(.ptr 0 0)⟩,⟨false,(.lit (.int .i64 0))⟩,⟨false,(.lit (.int .i64 0))⟩,uF,⟨false,(.ptr 1 0)⟩,uF,uF,⟨false,(.ptr 3 0)⟩,⟨false,(.rows 22)⟩,⟨true,(.int .i64)⟩,uF,uF,uF,uF,uF,uF,uF,uF,uF,uF,uF,uF,uF,uF,uF,uF,uF,uF,uF,uF,uF,uF,uF,uF,uF,uF,uF,uF,uF,uF,uF,uF,uF,uF,uF,uF,uF,uF,uF,uF,uF,uF,uF,uF,uF,uF,uF,uF,uF,uF,uF,uF,uF,uF,uF,uF,uF,uF,uF,uF,uF,uF,uF,uF,uF,uF,uF,uF,uF,uF,uF,uF,uF,uF,uF,uF,uF,uF,uF,uF,uF,uF,uF,uF,uF,uF,uF,uF,uF,uF,uF,uF,uF,uF,uF,uF,uF,uF,uF,uF,uF,uF,uF,uF,uF,uF,uF,uF,uF,uF,uF,uF,uF,uF,uF,uF,uF,uF,uF,uF],[(.lst true 3),(.cells [⟨false,(.int .i64)⟩,⟨false,(.int .i64)⟩,⟨false,(.int .i64)⟩,⟨true,(.int .i64)⟩,⟨true,(.int .i64)⟩,⟨false,(.int .u32)⟩,⟨false,(.rows 33)⟩,⟨false,(.osl 4 3)⟩]),(.lst false 91),(.cells [⟨false,(.int .u32)⟩,⟨false,(.osl 2 91)⟩]),(.cells [⟨false,(.lit (.int .u32 0))⟩,⟨false,(.lit (.slice none 0 0))⟩])],[⟨0,2,[uT,⟨false,(.rows 22)⟩,⟨false,(.int .i64)⟩,uT,uT,uT,⟨true,(.ptr 0 0)⟩,⟨true,(.lit (.int .i64 0))⟩,⟨true,(.lit (.int .i64 0))⟩,uT,⟨true,(.ptr 1 0)⟩,uT,uT,⟨true,(.ptr 3 0)⟩,⟨false,(.rows 22)⟩,uT,uT,uT,uT,uT,uT,uT,uT,uT,uT,uT,uT,uT,uT,uT,uT,uT,uT,uT,uT,uT,uT,uT,uT,uT,uT,uT,uT,uT,uT,uT,uT,uT,uT,uT,uT,uT,uT,uT,uT,uT,uT,uT,uT,uT,uT,uT,uT,uT,uT,uT,uT,uT,uT,uT,uT,uT,uT,uT,uT,uT,uT,uT,uT,uT,uT,uT,uT,uT,uT,uT,uT,uT,uT,uT,uT,uT,uT,uT,uT,uT,uT,uT,uT,uT,uT,uT,uT,uT,uT,uT,uT,uT,uT,uT,uT,uT,uT,uT,uT,uT,uT,uT,uT,uT,uT,uT,uT,uT,uT,uT,uT,uT,uT,uT,uT,uT,uT,uT,uT,uT],[(.lst true 3),(.cells [⟨false,(.int .i64)⟩,⟨false,(.int .i64)⟩,⟨false,(.int .i64)⟩,⟨true,(.int .i64)⟩,⟨true,(.int .i64)⟩,⟨false,(.int .u32)⟩,⟨false,(.rows 33)⟩,⟨true,(.osl 4 3)⟩]),(.lst false 91),(.cells [⟨false,(.int .u32)⟩,⟨true,(.osl 2 91)⟩]),(.cells [⟨true,(.lit (.int .u32 0))⟩,⟨true,(.lit (.slice none 0 0))⟩])]⟩,⟨1,0,[uT,⟨false,(.rows 22)⟩,⟨false,(.int .i64)⟩,uT,uT,uT,⟨true,(.ptr 0 0)⟩,⟨true,(.lit (.int .i64 0))⟩,⟨true,(.lit (.int .i64 9))⟩,uT,uT,uT,uT,uT,⟨false,(.rows 22)⟩,uT,uT,uT,uT,uT,uT,uT,uT,uT,uT,uT,uT,uT,uT,uT,uT,uT,uT,uT,uT,uT,uT,uT,uT,uT,uT,uT,uT,uT,uT,uT,uT,uT,uT,uT,uT,uT,uT,uT,uT,uT,uT,uT,uT,uT,uT,uT,uT,uT,uT,uT,uT,uT,uT,uT,uT,uT,uT,uT,uT,uT,uT,uT,uT,uT,uT,uT,uT,uT,uT,uT,uT,uT,uT,uT,uT,uT,uT,uT,uT,uT,uT,uT,uT,uT,uT,uT,uT,uT,uT,uT,uT,uT,uT,uT,uT,uT,uT,uT,uT,uT,uT,uT,uT,uT,uT,uT,uT,uT,uT,uT,uT,uT,uT,uT,uT,uT,uT,uT,uT,uT],[.skip,(.cells [⟨false,(.int .i64)⟩,⟨false,(.int .i64)⟩,⟨false,(.int .i64)⟩,uT,uT,⟨false,(.int .u32)⟩,⟨false,(.rows 33)⟩,uT]),(.lst false 91),(.cells [⟨false,(.int .u32)⟩,uT]),(.cells [⟨true,(.lit (.int .u32 0))⟩,⟨true,(.lit (.slice none 0 0))⟩])]⟩]⟩
noncomputable def st23_17 (p s:List D):Option (Sum (List D) (List D)):=stepQX env tbl23_7 60 12 23 (loopC 23 17) S23_17 p s
theorem st23_17_eq (pd0:D) (pn1:Int) (pd2:D) (pn3:Int) (pn4:Int) (pn5:Int) (pn6:Int) (pd7:D) (pd8:D) (pn9:Int) (sn0:Int) (sd1:D) (sn2:Int) (sn3:Int):st23_17 [pd0,(D.int pn1),pd2,(D.int pn3),(D.int pn4),(D.int pn5),(D.int pn6),pd7,pd8,(D.int pn9)] [(D.int sn0),sd1,(D.int sn2),(D.int sn3)] =
 bif (qcmp BinOp.lss sn0 (qlen pd2))then
 bif (qinb pd2 sn0)then
 bif (qsome (q59 [pd0,(D.int (qint (qget pd2 sn0)))]))then
 bif (qcmp BinOp.lss (qint (qnth (q59 [pd0,(D.int (qint (qget pd2 sn0)))]) 0)) 0)then
 some (Sum.inr [(D.int 1)])
 else
 bif (qcmp BinOp.eql pn3 8)then
 bif (qmem (qlen (qapp sd1 (D.list [(D.int (qint (qnth (q59 [pd0,(D.int (qint (qget pd2 sn0)))]) 0)))]))) 8)then
 some (Sum.inl [(D.int (qbin BinOp.add IntKind.i64 sn0 1)),(qapp sd1 (D.list [(D.int (qint (qnth (q59 [pd0,(D.int (qint (qget pd2 sn0)))]) 0)))])),(D.int sn2),(D.int sn3)])
 else
 none
 else
 bif (qcmp BinOp.eql sn0 0)then
 some (Sum.inl [(D.int (qbin BinOp.add IntKind.i64 sn0 1)),sd1,(D.int (qint (qnth (q59 [pd0,(D.int (qint (qget pd2 sn0)))]) 0))),(D.int sn3)])
 else
 some (Sum.inl [(D.int (qbin BinOp.add IntKind.i64 sn0 1)),sd1,(D.int sn2),(D.int (qint (qnth (q59 [pd0,(D.int (qint (qget pd2 sn0)))]) 0)))])
 else
 none
 else
 none
 else
 some (Sum.inr [(D.int 0),sd1,(D.int sn2),(D.int sn3)]):=by
 have h:st23_17 [pd0,(D.int pn1),pd2,(D.int pn3),(D.int pn4),(D.int pn5),(D.int pn6),pd7,pd8,(D.int pn9)] [(D.int sn0),sd1,(D.int sn2),(D.int sn3)] =
  bif (qcmp BinOp.lss sn0 (qlen pd2))then
  bif (qinb pd2 sn0)then
  bif (qsome (q59 [pd0,(D.int (qint (qget pd2 sn0)))]))then
  bif (qcmp BinOp.lss (qint (qnth (q59 [pd0,(D.int (qint (qget pd2 sn0)))]) 0)) 0)then
  bif (qeqD pd0 pd0)then
  bif (qeqD (D.int pn1) (D.int pn1))then
  bif (qeqD pd2 pd2)then
  bif (qeqD (D.int pn3) (D.int pn3))then
  bif (qeqD (D.int pn4) (D.int pn4))then
  bif (qeqD (D.int pn5) (D.int pn5))then
  bif (qeqD (D.int pn6) (D.int pn6))then
  bif (qeqD pd7 pd7)then
  bif (qeqD pd8 pd8)then
  bif (qeqD (D.int pn9) (D.int pn9))then
  some (Sum.inr [(D.int 1)])
  else
  none
  else
  none
  else
  none
  else
  none
  else
  none
  else
  none
  else
  none
  else
  none
  else
  none
  else
  none
  else
  bif (qcmp BinOp.eql pn3 8)then
  bif (qcmp BinOp.eql (qlen sd1) (qlen sd1))then
  bif (qmem (qlen (qapp sd1 (D.list [(D.int (qint (qnth (q59 [pd0,(D.int (qint (qget pd2 sn0)))]) 0)))]))) 8)then
  bif (qcmp BinOp.eql (qlen (qapp sd1 (D.list [(D.int (qint (qnth (q59 [pd0,(D.int (qint (qget pd2 sn0)))]) 0)))]))) (qlen (qapp sd1 (D.list [(D.int (qint (qnth (q59 [pd0,(D.int (qint (qget pd2 sn0)))]) 0)))]))))then
  bif (qcmp BinOp.eql (qlen pd8) (qlen pd8))then
  bif (qeqD pd0 pd0)then
  bif (qeqD (D.int pn1) (D.int pn1))then
  bif (qeqD pd2 pd2)then
  bif (qeqD (D.int pn3) (D.int pn3))then
  bif (qeqD (D.int pn4) (D.int pn4))then
  bif (qeqD (D.int pn5) (D.int pn5))then
  bif (qeqD (D.int pn6) (D.int pn6))then
  bif (qeqD pd7 pd7)then
  bif (qeqD pd8 pd8)then
  bif (qeqD (D.int pn9) (D.int pn9))then
  some (Sum.inl [(D.int (qbin BinOp.add IntKind.i64 sn0 1)),(qapp sd1 (D.list [(D.int (qint (qnth (q59 [pd0,(D.int (qint (qget pd2 sn0)))]) 0)))])),(D.int sn2),(D.int sn3)])
  else
  none
  else
  none
  else
  none
  else
  none
  else
  none
  else
  none
  else
  none
  else
  none
  else
  none
  else
  none
  else
  none
  else
  none
  else
  none
  else
  none
  else
  bif (qcmp BinOp.eql sn0 0)then
  bif (qcmp BinOp.eql (qlen sd1) (qlen sd1))then
  bif (qcmp BinOp.eql (qlen pd8) (qlen pd8))then
  bif (qeqD pd0 pd0)then
  bif (qeqD (D.int pn1) (D.int pn1))then
  bif (qeqD pd2 pd2)then
  bif (qeqD (D.int pn3) (D.int pn3))then
  bif (qeqD (D.int pn4) (D.int pn4))then
  bif (qeqD (D.int pn5) (D.int pn5))then
  bif (qeqD (D.int pn6) (D.int pn6))then
  bif (qeqD pd7 pd7)then
  bif (qeqD pd8 pd8)then
  bif (qeqD (D.int pn9) (D.int pn9))then
  some (Sum.inl [(D.int (qbin BinOp.add IntKind.i64 sn0 1)),sd1,(D.int (qint (qnth (q59 [pd0,(D.int (qint (qget pd2 sn0)))]) 0))),(D.int sn3)])
  else
  none
  else
  none
  else
  none
  else
  none
  else
  none
  else
  none
  else
  none
  else
  none
  else
  none
  else
  none
  else
  none
  else
  none
  else
  bif (qcmp BinOp.eql (qlen sd1) (qlen sd1))then
  bif (qcmp BinOp.eql (qlen pd8) (qlen pd8))then
  bif (qeqD pd0 pd0)then
  bif (qeqD (D.int pn1) (D.int pn1))then
  bif (qeqD pd2 pd2)then
  bif (qeqD (D.int pn3) (D.int pn3))then
  bif (qeqD (D.int pn4) (D.int pn4))then
  bif (qeqD (D.int pn5) (D.int pn5))then
  bif (qeqD (D.int pn6) (D.int pn6))then
  bif (qeqD pd7 pd7)then
  bif (qeqD pd8 pd8)then
  bif (qeqD (D.int pn9) (D.int pn9))then
  some (Sum.inl [(D.int (qbin BinOp.add IntKind.i64 sn0 1)),sd1,(D.int sn2),(D.int (qint (qnth (q59 [pd0,(D.int (qint (qget pd2 sn0)))]) 0)))])
  else
  none
  else
  none
  else
  none
  else
  none
  else
  none
  else
  none
  else
  none
  else
  none
  else
  none
  else
  none
  else
  none
  else
  none
  else
  none
  else
  none
  else
  bif (qcmp BinOp.eql (qlen sd1) (qlen sd1))then
  bif (qcmp BinOp.eql (qlen pd8) (qlen pd8))then
  bif (qeqD pd0 pd0)then
  bif (qeqD (D.int pn1) (D.int pn1))then
  bif (qeqD pd2 pd2)then
  bif (qeqD (D.int pn3) (D.int pn3))then
  bif (qeqD (D.int pn4) (D.int pn4))then
  bif (qeqD (D.int pn5) (D.int pn5))then
  bif (qeqD (D.int pn6) (D.int pn6))then
  bif (qeqD pd7 pd7)then
  bif (qeqD pd8 pd8)then
  bif (qeqD (D.int pn9) (D.int pn9))then
  some (Sum.inr [(D.int 0),sd1,(D.int sn2),(D.int sn3)])
  else
  none
  else
  none
  else
  none
  else
  none
  else
  none
  else
  none
  else
  none
  else
  none
  else
  none
  else
  none
  else
  none
  else
  none:=by kernel_rfl
 rw[h];simp only[qeqD_self,qeqI_self,qeq_len,show qcmp BinOp.eql 0 (qlen (D.list []))=true from qeq_len [],show∀a,qcmp BinOp.eql 1 (qlen (D.list [a]))=true from fun a=>qeq_len [a],show∀a b,qcmp BinOp.eql 2 (qlen (D.list [a,b]))=true from fun a b=>qeq_len [a,b],show∀a b c,qcmp BinOp.eql 3 (qlen (D.list [a,b,c]))=true from fun a b c=>qeq_len [a,b,c],show∀a b c d,qcmp BinOp.eql 4 (qlen (D.list [a,b,c,d]))=true from fun a b c d=>qeq_len [a,b,c,d],cond_true]
noncomputable def l23_17:List D→List D→Option (List D):=veil fun p s=>loW (st23_17 p) s
theorem l23_17_eq:l23_17=fun p s=>loW (st23_17 p) s:=veil_eq _
noncomputable def tbl23_17:Tb:=Tb.addL tbl23_7 23 17 S23_17.n0 (mkLp S23_17 (l23_17))
theorem ok_tbl23_17:TbOk env (tbl23_17):=addLoopQ ok_tbl23_7 23 17 (by kernel_rfl) _ (l23_17_eq)
def S23:FunS:=⟨[⟨true,(.dat 58)⟩,⟨true,(.rows 22)⟩,⟨true,(.int .i64)⟩],[],[⟨true,(.tup [(.agg [(.int .u32),(.rows 91)]),(.int .i64),(.int .i64)])⟩],[]⟩
noncomputable def F23:List D→Option (List D):=liftX env tbl23_17 60 12 23 S23
noncomputable def F23_a0 (sd0:D) (sd1:D) (sn2:Int):D:=(D.agg [(D.int (qint (qnth (q58 [(qget (qfld sd0 2) (qbin BinOp.sub IntKind.i64 (qlen (qfld sd0 2)) 1)),(qfld sd0 3)]) 0))),(D.int (qint (qnth (q58 [(qget (qfld sd0 2) (qbin BinOp.sub IntKind.i64 (qlen (qfld sd0 2)) 1)),(qfld sd0 3)]) 1))),(D.int (qint (qnth (q58 [(qget (qfld sd0 2) (qbin BinOp.sub IntKind.i64 (qlen (qfld sd0 2)) 1)),(qfld sd0 3)]) 2))),(D.int (qint (qnth (l23_17 [sd1,(D.int sn2),(qnth (q58 [(qget (qfld sd0 2) (qbin BinOp.sub IntKind.i64 (qlen (qfld sd0 2)) 1)),(qfld sd0 3)]) 7),(D.int (qint (qnth (q58 [(qget (qfld sd0 2) (qbin BinOp.sub IntKind.i64 (qlen (qfld sd0 2)) 1)),(qfld sd0 3)]) 0))),(D.int (qint (qnth (q58 [(qget (qfld sd0 2) (qbin BinOp.sub IntKind.i64 (qlen (qfld sd0 2)) 1)),(qfld sd0 3)]) 1))),(D.int (qint (qnth (q58 [(qget (qfld sd0 2) (qbin BinOp.sub IntKind.i64 (qlen (qfld sd0 2)) 1)),(qfld sd0 3)]) 2))),(D.int (qint (qnth (q58 [(qget (qfld sd0 2) (qbin BinOp.sub IntKind.i64 (qlen (qfld sd0 2)) 1)),(qfld sd0 3)]) 5))),(qnth (q58 [(qget (qfld sd0 2) (qbin BinOp.sub IntKind.i64 (qlen (qfld sd0 2)) 1)),(qfld sd0 3)]) 6),(qnth (l23_7 [sd1,(D.int sn2),(D.int (qint (qfld sd0 0))),sd0] [(D.int 0),(D.int 0),(D.list [])]) 1),(D.int (qint (qfld sd0 0)))] [(D.int 0),(D.list []),(D.int (qint (qnth (q58 [(qget (qfld sd0 2) (qbin BinOp.sub IntKind.i64 (qlen (qfld sd0 2)) 1)),(qfld sd0 3)]) 3))),(D.int (qint (qnth (q58 [(qget (qfld sd0 2) (qbin BinOp.sub IntKind.i64 (qlen (qfld sd0 2)) 1)),(qfld sd0 3)]) 4)))]) 2))),(D.int (qint (qnth (l23_17 [sd1,(D.int sn2),(qnth (q58 [(qget (qfld sd0 2) (qbin BinOp.sub IntKind.i64 (qlen (qfld sd0 2)) 1)),(qfld sd0 3)]) 7),(D.int (qint (qnth (q58 [(qget (qfld sd0 2) (qbin BinOp.sub IntKind.i64 (qlen (qfld sd0 2)) 1)),(qfld sd0 3)]) 0))),(D.int (qint (qnth (q58 [(qget (qfld sd0 2) (qbin BinOp.sub IntKind.i64 (qlen (qfld sd0 2)) 1)),(qfld sd0 3)]) 1))),(D.int (qint (qnth (q58 [(qget (qfld sd0 2) (qbin BinOp.sub IntKind.i64 (qlen (qfld sd0 2)) 1)),(qfld sd0 3)]) 2))),(D.int (qint (qnth (q58 [(qget (qfld sd0 2) (qbin BinOp.sub IntKind.i64 (qlen (qfld sd0 2)) 1)),(qfld sd0 3)]) 5))),(qnth (q58 [(qget (qfld sd0 2) (qbin BinOp.sub IntKind.i64 (qlen (qfld sd0 2)) 1)),(qfld sd0 3)]) 6),(qnth (l23_7 [sd1,(D.int sn2),(D.int (qint (qfld sd0 0))),sd0] [(D.int 0),(D.int 0),(D.list [])]) 1),(D.int (qint (qfld sd0 0)))] [(D.int 0),(D.list []),(D.int (qint (qnth (q58 [(qget (qfld sd0 2) (qbin BinOp.sub IntKind.i64 (qlen (qfld sd0 2)) 1)),(qfld sd0 3)]) 3))),(D.int (qint (qnth (q58 [(qget (qfld sd0 2) (qbin BinOp.sub IntKind.i64 (qlen (qfld sd0 2)) 1)),(qfld sd0 3)]) 4)))]) 3))),(D.int (qint (qnth (q58 [(qget (qfld sd0 2) (qbin BinOp.sub IntKind.i64 (qlen (qfld sd0 2)) 1)),(qfld sd0 3)]) 5))),(qnth (q58 [(qget (qfld sd0 2) (qbin BinOp.sub IntKind.i64 (qlen (qfld sd0 2)) 1)),(qfld sd0 3)]) 6),(qnth (l23_17 [sd1,(D.int sn2),(qnth (q58 [(qget (qfld sd0 2) (qbin BinOp.sub IntKind.i64 (qlen (qfld sd0 2)) 1)),(qfld sd0 3)]) 7),(D.int (qint (qnth (q58 [(qget (qfld sd0 2) (qbin BinOp.sub IntKind.i64 (qlen (qfld sd0 2)) 1)),(qfld sd0 3)]) 0))),(D.int (qint (qnth (q58 [(qget (qfld sd0 2) (qbin BinOp.sub IntKind.i64 (qlen (qfld sd0 2)) 1)),(qfld sd0 3)]) 1))),(D.int (qint (qnth (q58 [(qget (qfld sd0 2) (qbin BinOp.sub IntKind.i64 (qlen (qfld sd0 2)) 1)),(qfld sd0 3)]) 2))),(D.int (qint (qnth (q58 [(qget (qfld sd0 2) (qbin BinOp.sub IntKind.i64 (qlen (qfld sd0 2)) 1)),(qfld sd0 3)]) 5))),(qnth (q58 [(qget (qfld sd0 2) (qbin BinOp.sub IntKind.i64 (qlen (qfld sd0 2)) 1)),(qfld sd0 3)]) 6),(qnth (l23_7 [sd1,(D.int sn2),(D.int (qint (qfld sd0 0))),sd0] [(D.int 0),(D.int 0),(D.list [])]) 1),(D.int (qint (qfld sd0 0)))] [(D.int 0),(D.list []),(D.int (qint (qnth (q58 [(qget (qfld sd0 2) (qbin BinOp.sub IntKind.i64 (qlen (qfld sd0 2)) 1)),(qfld sd0 3)]) 3))),(D.int (qint (qnth (q58 [(qget (qfld sd0 2) (qbin BinOp.sub IntKind.i64 (qlen (qfld sd0 2)) 1)),(qfld sd0 3)]) 4)))]) 1)])
theorem F23_eq (sd0:D) (sd1:D) (sn2:Int):F23 [sd0,sd1,(D.int sn2)] =
 bif (qsome (q57 [sd0]))then
 bif (qcmp BinOp.neq (qint (qnth (q57 [sd0]) 0)) 0)then
 some [(D.int 0),(D.list []),(D.int 0),(D.int (qint (qnth (q57 [sd0]) 0)))]
 else
 bif (qsome (l23_7 [sd1,(D.int sn2),(D.int (qint (qfld sd0 0))),sd0] [(D.int 0),(D.int 0),(D.list [])]))then
 bif (qinb (qfld sd0 2) (qbin BinOp.sub IntKind.i64 (qlen (qfld sd0 2)) 1))then
 bif (qsome (q58 [(qget (qfld sd0 2) (qbin BinOp.sub IntKind.i64 (qlen (qfld sd0 2)) 1)),(qfld sd0 3)]))then
 bif (qsome (l23_17 [sd1,(D.int sn2),(qnth (q58 [(qget (qfld sd0 2) (qbin BinOp.sub IntKind.i64 (qlen (qfld sd0 2)) 1)),(qfld sd0 3)]) 7),(D.int (qint (qnth (q58 [(qget (qfld sd0 2) (qbin BinOp.sub IntKind.i64 (qlen (qfld sd0 2)) 1)),(qfld sd0 3)]) 0))),(D.int (qint (qnth (q58 [(qget (qfld sd0 2) (qbin BinOp.sub IntKind.i64 (qlen (qfld sd0 2)) 1)),(qfld sd0 3)]) 1))),(D.int (qint (qnth (q58 [(qget (qfld sd0 2) (qbin BinOp.sub IntKind.i64 (qlen (qfld sd0 2)) 1)),(qfld sd0 3)]) 2))),(D.int (qint (qnth (q58 [(qget (qfld sd0 2) (qbin BinOp.sub IntKind.i64 (qlen (qfld sd0 2)) 1)),(qfld sd0 3)]) 5))),(qnth (q58 [(qget (qfld sd0 2) (qbin BinOp.sub IntKind.i64 (qlen (qfld sd0 2)) 1)),(qfld sd0 3)]) 6),(qnth (l23_7 [sd1,(D.int sn2),(D.int (qint (qfld sd0 0))),sd0] [(D.int 0),(D.int 0),(D.list [])]) 1),(D.int (qint (qfld sd0 0)))] [(D.int 0),(D.list []),(D.int (qint (qnth (q58 [(qget (qfld sd0 2) (qbin BinOp.sub IntKind.i64 (qlen (qfld sd0 2)) 1)),(qfld sd0 3)]) 3))),(D.int (qint (qnth (q58 [(qget (qfld sd0 2) (qbin BinOp.sub IntKind.i64 (qlen (qfld sd0 2)) 1)),(qfld sd0 3)]) 4)))]))then
 bif (qcmp BinOp.eql (qint (qnth (l23_17 [sd1,(D.int sn2),(qnth (q58 [(qget (qfld sd0 2) (qbin BinOp.sub IntKind.i64 (qlen (qfld sd0 2)) 1)),(qfld sd0 3)]) 7),(D.int (qint (qnth (q58 [(qget (qfld sd0 2) (qbin BinOp.sub IntKind.i64 (qlen (qfld sd0 2)) 1)),(qfld sd0 3)]) 0))),(D.int (qint (qnth (q58 [(qget (qfld sd0 2) (qbin BinOp.sub IntKind.i64 (qlen (qfld sd0 2)) 1)),(qfld sd0 3)]) 1))),(D.int (qint (qnth (q58 [(qget (qfld sd0 2) (qbin BinOp.sub IntKind.i64 (qlen (qfld sd0 2)) 1)),(qfld sd0 3)]) 2))),(D.int (qint (qnth (q58 [(qget (qfld sd0 2) (qbin BinOp.sub IntKind.i64 (qlen (qfld sd0 2)) 1)),(qfld sd0 3)]) 5))),(qnth (q58 [(qget (qfld sd0 2) (qbin BinOp.sub IntKind.i64 (qlen (qfld sd0 2)) 1)),(qfld sd0 3)]) 6),(qnth (l23_7 [sd1,(D.int sn2),(D.int (qint (qfld sd0 0))),sd0] [(D.int 0),(D.int 0),(D.list [])]) 1),(D.int (qint (qfld sd0 0)))] [(D.int 0),(D.list []),(D.int (qint (qnth (q58 [(qget (qfld sd0 2) (qbin BinOp.sub IntKind.i64 (qlen (qfld sd0 2)) 1)),(qfld sd0 3)]) 3))),(D.int (qint (qnth (q58 [(qget (qfld sd0 2) (qbin BinOp.sub IntKind.i64 (qlen (qfld sd0 2)) 1)),(qfld sd0 3)]) 4)))]) 0)) 0)then
 bif (qmem (qlen (qapp (qnth (l23_7 [sd1,(D.int sn2),(D.int (qint (qfld sd0 0))),sd0] [(D.int 0),(D.int 0),(D.list [])]) 1) (D.list [(F23_a0 sd0 sd1 sn2)]))) 96)then
 some [(D.int (qint (qfld sd0 0))),(qapp (qnth (l23_7 [sd1,(D.int sn2),(D.int (qint (qfld sd0 0))),sd0] [(D.int 0),(D.int 0),(D.list [])]) 1) (D.list [(F23_a0 sd0 sd1 sn2)])),(D.int sn2),(D.int 0)]
 else
 none
 else
 some [(D.int 0),(D.list []),(D.int 0),(D.int 9)]
 else
 none
 else
 none
 else
 none
 else
 none
 else
 none:=by
 have h:F23 [sd0,sd1,(D.int sn2)] =
  bif (qsome (q57 [sd0]))then
  bif (qcmp BinOp.neq (qint (qnth (q57 [sd0]) 0)) 0)then
  some [(D.int 0),(D.list []),(D.int 0),(D.int (qint (qnth (q57 [sd0]) 0)))]
  else
  bif (qcmp BinOp.eql 0 (qlen (D.list [])))then
  bif (qsome (l23_7 [sd1,(D.int sn2),(D.int (qint (qfld sd0 0))),sd0] [(D.int 0),(D.int 0),(D.list [])]))then
  bif (qinb (qfld sd0 2) (qbin BinOp.sub IntKind.i64 (qlen (qfld sd0 2)) 1))then
  bif (qsome (q58 [(qget (qfld sd0 2) (qbin BinOp.sub IntKind.i64 (qlen (qfld sd0 2)) 1)),(qfld sd0 3)]))then
  bif (qcmp BinOp.eql 0 (qlen (D.list [])))then
  bif (qcmp BinOp.eql (qlen (qnth (l23_7 [sd1,(D.int sn2),(D.int (qint (qfld sd0 0))),sd0] [(D.int 0),(D.int 0),(D.list [])]) 1)) (qlen (qnth (l23_7 [sd1,(D.int sn2),(D.int (qint (qfld sd0 0))),sd0] [(D.int 0),(D.int 0),(D.list [])]) 1)))then
  bif (qsome (l23_17 [sd1,(D.int sn2),(qnth (q58 [(qget (qfld sd0 2) (qbin BinOp.sub IntKind.i64 (qlen (qfld sd0 2)) 1)),(qfld sd0 3)]) 7),(D.int (qint (qnth (q58 [(qget (qfld sd0 2) (qbin BinOp.sub IntKind.i64 (qlen (qfld sd0 2)) 1)),(qfld sd0 3)]) 0))),(D.int (qint (qnth (q58 [(qget (qfld sd0 2) (qbin BinOp.sub IntKind.i64 (qlen (qfld sd0 2)) 1)),(qfld sd0 3)]) 1))),(D.int (qint (qnth (q58 [(qget (qfld sd0 2) (qbin BinOp.sub IntKind.i64 (qlen (qfld sd0 2)) 1)),(qfld sd0 3)]) 2))),(D.int (qint (qnth (q58 [(qget (qfld sd0 2) (qbin BinOp.sub IntKind.i64 (qlen (qfld sd0 2)) 1)),(qfld sd0 3)]) 5))),(qnth (q58 [(qget (qfld sd0 2) (qbin BinOp.sub IntKind.i64 (qlen (qfld sd0 2)) 1)),(qfld sd0 3)]) 6),(qnth (l23_7 [sd1,(D.int sn2),(D.int (qint (qfld sd0 0))),sd0] [(D.int 0),(D.int 0),(D.list [])]) 1),(D.int (qint (qfld sd0 0)))] [(D.int 0),(D.list []),(D.int (qint (qnth (q58 [(qget (qfld sd0 2) (qbin BinOp.sub IntKind.i64 (qlen (qfld sd0 2)) 1)),(qfld sd0 3)]) 3))),(D.int (qint (qnth (q58 [(qget (qfld sd0 2) (qbin BinOp.sub IntKind.i64 (qlen (qfld sd0 2)) 1)),(qfld sd0 3)]) 4)))]))then
  bif (qcmp BinOp.eql (qint (qnth (l23_17 [sd1,(D.int sn2),(qnth (q58 [(qget (qfld sd0 2) (qbin BinOp.sub IntKind.i64 (qlen (qfld sd0 2)) 1)),(qfld sd0 3)]) 7),(D.int (qint (qnth (q58 [(qget (qfld sd0 2) (qbin BinOp.sub IntKind.i64 (qlen (qfld sd0 2)) 1)),(qfld sd0 3)]) 0))),(D.int (qint (qnth (q58 [(qget (qfld sd0 2) (qbin BinOp.sub IntKind.i64 (qlen (qfld sd0 2)) 1)),(qfld sd0 3)]) 1))),(D.int (qint (qnth (q58 [(qget (qfld sd0 2) (qbin BinOp.sub IntKind.i64 (qlen (qfld sd0 2)) 1)),(qfld sd0 3)]) 2))),(D.int (qint (qnth (q58 [(qget (qfld sd0 2) (qbin BinOp.sub IntKind.i64 (qlen (qfld sd0 2)) 1)),(qfld sd0 3)]) 5))),(qnth (q58 [(qget (qfld sd0 2) (qbin BinOp.sub IntKind.i64 (qlen (qfld sd0 2)) 1)),(qfld sd0 3)]) 6),(qnth (l23_7 [sd1,(D.int sn2),(D.int (qint (qfld sd0 0))),sd0] [(D.int 0),(D.int 0),(D.list [])]) 1),(D.int (qint (qfld sd0 0)))] [(D.int 0),(D.list []),(D.int (qint (qnth (q58 [(qget (qfld sd0 2) (qbin BinOp.sub IntKind.i64 (qlen (qfld sd0 2)) 1)),(qfld sd0 3)]) 3))),(D.int (qint (qnth (q58 [(qget (qfld sd0 2) (qbin BinOp.sub IntKind.i64 (qlen (qfld sd0 2)) 1)),(qfld sd0 3)]) 4)))]) 0)) 0)then
  bif (qcmp BinOp.eql (qlen (qnth (l23_7 [sd1,(D.int sn2),(D.int (qint (qfld sd0 0))),sd0] [(D.int 0),(D.int 0),(D.list [])]) 1)) (qlen (qnth (l23_7 [sd1,(D.int sn2),(D.int (qint (qfld sd0 0))),sd0] [(D.int 0),(D.int 0),(D.list [])]) 1)))then
  bif (qcmp BinOp.eql (qlen (qnth (l23_17 [sd1,(D.int sn2),(qnth (q58 [(qget (qfld sd0 2) (qbin BinOp.sub IntKind.i64 (qlen (qfld sd0 2)) 1)),(qfld sd0 3)]) 7),(D.int (qint (qnth (q58 [(qget (qfld sd0 2) (qbin BinOp.sub IntKind.i64 (qlen (qfld sd0 2)) 1)),(qfld sd0 3)]) 0))),(D.int (qint (qnth (q58 [(qget (qfld sd0 2) (qbin BinOp.sub IntKind.i64 (qlen (qfld sd0 2)) 1)),(qfld sd0 3)]) 1))),(D.int (qint (qnth (q58 [(qget (qfld sd0 2) (qbin BinOp.sub IntKind.i64 (qlen (qfld sd0 2)) 1)),(qfld sd0 3)]) 2))),(D.int (qint (qnth (q58 [(qget (qfld sd0 2) (qbin BinOp.sub IntKind.i64 (qlen (qfld sd0 2)) 1)),(qfld sd0 3)]) 5))),(qnth (q58 [(qget (qfld sd0 2) (qbin BinOp.sub IntKind.i64 (qlen (qfld sd0 2)) 1)),(qfld sd0 3)]) 6),(qnth (l23_7 [sd1,(D.int sn2),(D.int (qint (qfld sd0 0))),sd0] [(D.int 0),(D.int 0),(D.list [])]) 1),(D.int (qint (qfld sd0 0)))] [(D.int 0),(D.list []),(D.int (qint (qnth (q58 [(qget (qfld sd0 2) (qbin BinOp.sub IntKind.i64 (qlen (qfld sd0 2)) 1)),(qfld sd0 3)]) 3))),(D.int (qint (qnth (q58 [(qget (qfld sd0 2) (qbin BinOp.sub IntKind.i64 (qlen (qfld sd0 2)) 1)),(qfld sd0 3)]) 4)))]) 1)) (qlen (qnth (l23_17 [sd1,(D.int sn2),(qnth (q58 [(qget (qfld sd0 2) (qbin BinOp.sub IntKind.i64 (qlen (qfld sd0 2)) 1)),(qfld sd0 3)]) 7),(D.int (qint (qnth (q58 [(qget (qfld sd0 2) (qbin BinOp.sub IntKind.i64 (qlen (qfld sd0 2)) 1)),(qfld sd0 3)]) 0))),(D.int (qint (qnth (q58 [(qget (qfld sd0 2) (qbin BinOp.sub IntKind.i64 (qlen (qfld sd0 2)) 1)),(qfld sd0 3)]) 1))),(D.int (qint (qnth (q58 [(qget (qfld sd0 2) (qbin BinOp.sub IntKind.i64 (qlen (qfld sd0 2)) 1)),(qfld sd0 3)]) 2))),(D.int (qint (qnth (q58 [(qget (qfld sd0 2) (qbin BinOp.sub IntKind.i64 (qlen (qfld sd0 2)) 1)),(qfld sd0 3)]) 5))),(qnth (q58 [(qget (qfld sd0 2) (qbin BinOp.sub IntKind.i64 (qlen (qfld sd0 2)) 1)),(qfld sd0 3)]) 6),(qnth (l23_7 [sd1,(D.int sn2),(D.int (qint (qfld sd0 0))),sd0] [(D.int 0),(D.int 0),(D.list [])]) 1),(D.int (qint (qfld sd0 0)))] [(D.int 0),(D.list []),(D.int (qint (qnth (q58 [(qget (qfld sd0 2) (qbin BinOp.sub IntKind.i64 (qlen (qfld sd0 2)) 1)),(qfld sd0 3)]) 3))),(D.int (qint (qnth (q58 [(qget (qfld sd0 2) (qbin BinOp.sub IntKind.i64 (qlen (qfld sd0 2)) 1)),(qfld sd0 3)]) 4)))]) 1)))then
  bif (qmem (qlen (qapp (qnth (l23_7 [sd1,(D.int sn2),(D.int (qint (qfld sd0 0))),sd0] [(D.int 0),(D.int 0),(D.list [])]) 1) (D.list [(F23_a0 sd0 sd1 sn2)]))) 96)then
  bif (qcmp BinOp.eql (qlen (qapp (qnth (l23_7 [sd1,(D.int sn2),(D.int (qint (qfld sd0 0))),sd0] [(D.int 0),(D.int 0),(D.list [])]) 1) (D.list [(F23_a0 sd0 sd1 sn2)]))) (qlen (qapp (qnth (l23_7 [sd1,(D.int sn2),(D.int (qint (qfld sd0 0))),sd0] [(D.int 0),(D.int 0),(D.list [])]) 1) (D.list [(F23_a0 sd0 sd1 sn2)]))))then
  some [(D.int (qint (qfld sd0 0))),(qapp (qnth (l23_7 [sd1,(D.int sn2),(D.int (qint (qfld sd0 0))),sd0] [(D.int 0),(D.int 0),(D.list [])]) 1) (D.list [(F23_a0 sd0 sd1 sn2)])),(D.int sn2),(D.int 0)]
  else
  none
  else
  none
  else
  none
  else
  none
  else
  some [(D.int 0),(D.list []),(D.int 0),(D.int 9)]
  else
  none
  else
  none
  else
  none
  else
  none
  else
  none
  else
  none
  else
  none
  else
  none:=by kernel_rfl
 rw[h];simp only[qeqD_self,qeqI_self,qeq_len,show qcmp BinOp.eql 0 (qlen (D.list []))=true from qeq_len [],show∀a,qcmp BinOp.eql 1 (qlen (D.list [a]))=true from fun a=>qeq_len [a],show∀a b,qcmp BinOp.eql 2 (qlen (D.list [a,b]))=true from fun a b=>qeq_len [a,b],show∀a b c,qcmp BinOp.eql 3 (qlen (D.list [a,b,c]))=true from fun a b c=>qeq_len [a,b,c],show∀a b c d,qcmp BinOp.eql 4 (qlen (D.list [a,b,c,d]))=true from fun a b c d=>qeq_len [a,b,c,d],cond_true]
noncomputable def q23:List D→Option (List D):=veil (F23)
theorem q23_eq:q23=F23:=veil_eq _
noncomputable def tb23:Tb:=Tb.addF tbl23_17 23 S23 (q23)
theorem ok_tb23:TbOk env (tb23):=addFunF ok_tbl23_17 23 (by kernel_rfl) _ (q23_eq)
end Go.Proofs.YtgklbalcneepoaaGreatDoor
