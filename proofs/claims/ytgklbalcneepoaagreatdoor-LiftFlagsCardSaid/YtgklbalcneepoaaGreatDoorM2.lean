/-
  Made by gen3.py: what functions of the seat compute, as partial functions on data, and that they do.
-/
import Derived.Test.YtgklbalcneepoaaGreatDoorM1
import Derived.KernelRfl
import Derived.Test.YtgklbalcneepoaaGreatDoorSp
import Derived.Test.YtgklbalcneepoaaGreatDoorAmS
import Derived.Test.YtgklbalcneepoaaGreatDoorRows
import Derived.Test.YtgklbalcneepoaaGreatDoorC1
import Derived.Deep.DeepHandedRow
import Derived.Lib.LaidTab
import Derived.MakeChecks
import Derived.LaidSub
import Derived.FnData
open Go Go.AM
namespace Go.Proofs.YtgklbalcneepoaaGreatDoor
set_option maxRecDepth 100000
set_option linter.unusedSimpArgs false
set_option linter.unusedVariables false
/- function 16  -/

def S16 : FunS := ⟨[⟨true, (.int .u32)⟩, ⟨true, (.int .u32)⟩], [], [⟨true, (.tup [(.int .u32), (.dat 41)])⟩], []⟩

noncomputable def F16 : List D → Option (List D) := liftX env tb12 60 12 16 S16

theorem F16_eq  (sn0 : Int) (sn1 : Int) : F16  [(D.int sn0), (D.int sn1)] =
    bif (qeqB (qcmp BinOp.geq sn0 2147483648) (qcmp BinOp.geq sn1 2147483648)) then
      some [(D.int (qbin BinOp.add IntKind.u32 sn0 sn1)), (D.agg [(D.bool (qcmp BinOp.eql (qbin BinOp.add IntKind.u32 sn0 sn1) 0)), (D.bool (qcmp BinOp.geq (qbin BinOp.add IntKind.u32 sn0 sn1) 2147483648)), (D.bool (qcmp BinOp.geq (qbin BinOp.add IntKind.u64 (qwrap IntKind.u64 sn0) (qwrap IntKind.u64 sn1)) 4294967296)), (D.bool (qnot (qeqB (qcmp BinOp.geq (qbin BinOp.add IntKind.u32 sn0 sn1) 2147483648) (qcmp BinOp.geq sn0 2147483648))))])]
    else
      some [(D.int (qbin BinOp.add IntKind.u32 sn0 sn1)), (D.agg [(D.bool (qcmp BinOp.eql (qbin BinOp.add IntKind.u32 sn0 sn1) 0)), (D.bool (qcmp BinOp.geq (qbin BinOp.add IntKind.u32 sn0 sn1) 2147483648)), (D.bool (qcmp BinOp.geq (qbin BinOp.add IntKind.u64 (qwrap IntKind.u64 sn0) (qwrap IntKind.u64 sn1)) 4294967296)), (D.bool Bool.false)])] := by kernel_rfl

noncomputable def q16 : List D → Option (List D) := veil (F16 )

theorem q16_eq : q16  = F16  := veil_eq _

noncomputable def tb16 : Tb := Tb.addF tb12 16 S16 (q16 )

theorem ok_tb16 : TbOk env (tb16 ) := addFunF ok_tb12 16 (by kernel_rfl) _ (q16_eq )

/- function 17  -/

def S17 : FunS := ⟨[⟨true, (.int .u32)⟩, ⟨true, (.int .u32)⟩], [], [⟨true, (.tup [(.int .u32), (.dat 41)])⟩], []⟩

noncomputable def F17 : List D → Option (List D) := liftX env tb16 60 12 17 S17

theorem F17_eq  (sn0 : Int) (sn1 : Int) : F17  [(D.int sn0), (D.int sn1)] =
    bif (qnot (qeqB (qcmp BinOp.geq sn0 2147483648) (qcmp BinOp.geq sn1 2147483648))) then
      some [(D.int (qbin BinOp.sub IntKind.u32 sn0 sn1)), (D.agg [(D.bool (qcmp BinOp.eql (qbin BinOp.sub IntKind.u32 sn0 sn1) 0)), (D.bool (qcmp BinOp.geq (qbin BinOp.sub IntKind.u32 sn0 sn1) 2147483648)), (D.bool (qcmp BinOp.lss sn0 sn1)), (D.bool (qnot (qeqB (qcmp BinOp.geq (qbin BinOp.sub IntKind.u32 sn0 sn1) 2147483648) (qcmp BinOp.geq sn0 2147483648))))])]
    else
      some [(D.int (qbin BinOp.sub IntKind.u32 sn0 sn1)), (D.agg [(D.bool (qcmp BinOp.eql (qbin BinOp.sub IntKind.u32 sn0 sn1) 0)), (D.bool (qcmp BinOp.geq (qbin BinOp.sub IntKind.u32 sn0 sn1) 2147483648)), (D.bool (qcmp BinOp.lss sn0 sn1)), (D.bool Bool.false)])] := by kernel_rfl

noncomputable def q17 : List D → Option (List D) := veil (F17 )

theorem q17_eq : q17  = F17  := veil_eq _

noncomputable def tb17 : Tb := Tb.addF tb16 17 S17 (q17 )

theorem ok_tb17 : TbOk env (tb17 ) := addFunF ok_tb16 17 (by kernel_rfl) _ (q17_eq )

/- function 136  -/

def S136_2 : LoopS := ⟨0, [⟨true, (.int .u32)⟩, ⟨false, (.int .u32)⟩, ⟨false, .any⟩, ⟨false, .any⟩, ⟨false, (.lit (.int .u32 0))⟩, ⟨true, (.int .u32)⟩, ⟨false, .any⟩, ⟨false, .any⟩, ⟨false, .any⟩, ⟨false, .any⟩, ⟨false, .any⟩, ⟨false, .any⟩, ⟨false, .any⟩, ⟨false, .any⟩, ⟨false, .any⟩], [], [⟨0, 0, [⟨true, (.int .u32)⟩, ⟨false, (.int .u32)⟩, ⟨true, .any⟩, ⟨true, .any⟩, ⟨true, (.lit (.int .u32 0))⟩, ⟨true, .any⟩, ⟨true, .any⟩, ⟨true, .any⟩, ⟨true, .any⟩, ⟨true, .any⟩, ⟨true, .any⟩, ⟨true, .any⟩, ⟨true, .any⟩, ⟨true, .any⟩, ⟨true, .any⟩], []⟩]⟩

noncomputable def st136_2 (p s : List D) : Option (Sum (List D) (List D)) := stepQX env tb17 60 12 136 (loopC 136 2) S136_2 p s

theorem st136_2_eq (pn0 : Int) (sn0 : Int) (sn1 : Int) : st136_2  [(D.int pn0)] [(D.int sn0), (D.int sn1)] =
    bif (qcmp BinOp.lss sn1 (qbin BinOp.rem IntKind.u32 pn0 32)) then
      some (Sum.inl [(D.int (qbin BinOp.mul IntKind.u32 sn0 2)), (D.int (qbin BinOp.add IntKind.u32 sn1 1))])
    else
      some (Sum.inr [(D.int 0), (D.int sn0)]) := by
  have h : st136_2  [(D.int pn0)] [(D.int sn0), (D.int sn1)] =
    bif (qcmp BinOp.lss sn1 (qbin BinOp.rem IntKind.u32 pn0 32)) then
      bif (qeqD (D.int pn0) (D.int pn0)) then
        some (Sum.inl [(D.int (qbin BinOp.mul IntKind.u32 sn0 2)), (D.int (qbin BinOp.add IntKind.u32 sn1 1))])
      else
        none
    else
      bif (qeqD (D.int pn0) (D.int pn0)) then
        some (Sum.inr [(D.int 0), (D.int sn0)])
      else
        none := by kernel_rfl
  rw [h]; simp only [qeqD_self, qeqI_self, qeq_len, show qcmp BinOp.eql 0 (qlen (D.list [])) = true from qeq_len [], show ∀ a, qcmp BinOp.eql 1 (qlen (D.list [a])) = true from fun a => qeq_len [a], show ∀ a b, qcmp BinOp.eql 2 (qlen (D.list [a, b])) = true from fun a b => qeq_len [a, b], show ∀ a b c, qcmp BinOp.eql 3 (qlen (D.list [a, b, c])) = true from fun a b c => qeq_len [a, b, c], show ∀ a b c d, qcmp BinOp.eql 4 (qlen (D.list [a, b, c, d])) = true from fun a b c d => qeq_len [a, b, c, d], cond_true]

noncomputable def l136_2 : List D → List D → Option (List D) := veil fun p s => loW (st136_2  p) s

theorem l136_2_eq : l136_2  = fun p s => loW (st136_2  p) s := veil_eq _

noncomputable def tbl136_2 : Tb := Tb.addL tb17 136 2 S136_2.n0 (mkLp S136_2 (l136_2 ))

theorem ok_tbl136_2 : TbOk env (tbl136_2 ) := addLoopQ ok_tb17 136 2 (by kernel_rfl) _ (l136_2_eq )

def S136 : FunS := ⟨[⟨true, (.int .u32)⟩, ⟨true, (.int .u32)⟩], [], [⟨true, (.int .u32)⟩], []⟩

noncomputable def F136 : List D → Option (List D) := liftX env tbl136_2 60 12 136 S136

theorem F136_eq  (sn0 : Int) (sn1 : Int) : F136  [(D.int sn0), (D.int sn1)] =
    bif (qsome (Proofs.YtgklbalcneepoaaGreatDoor.l136_2 [(D.int sn1)] [(D.int sn0), (D.int 0)])) then
      some [(D.int (qint (qnth (Proofs.YtgklbalcneepoaaGreatDoor.l136_2 [(D.int sn1)] [(D.int sn0), (D.int 0)]) 1)))]
    else
      none := by kernel_rfl

noncomputable def q136 : List D → Option (List D) := veil (F136 )

theorem q136_eq : q136  = F136  := veil_eq _

noncomputable def tb136 : Tb := Tb.addF tbl136_2 136 S136 (q136 )

theorem ok_tb136 : TbOk env (tb136 ) := addFunF ok_tbl136_2 136 (by kernel_rfl) _ (q136_eq )

/- function 137  -/

def S137_2 : LoopS := ⟨0, [⟨true, (.int .u32)⟩, ⟨false, (.int .u32)⟩, ⟨false, .any⟩, ⟨false, .any⟩, ⟨false, (.lit (.int .u32 0))⟩, ⟨true, (.int .u32)⟩, ⟨false, .any⟩, ⟨false, .any⟩, ⟨false, .any⟩, ⟨false, .any⟩, ⟨false, .any⟩, ⟨false, .any⟩, ⟨false, .any⟩, ⟨false, .any⟩, ⟨false, .any⟩], [], [⟨0, 0, [⟨true, (.int .u32)⟩, ⟨false, (.int .u32)⟩, ⟨true, .any⟩, ⟨true, .any⟩, ⟨true, (.lit (.int .u32 0))⟩, ⟨true, .any⟩, ⟨true, .any⟩, ⟨true, .any⟩, ⟨true, .any⟩, ⟨true, .any⟩, ⟨true, .any⟩, ⟨true, .any⟩, ⟨true, .any⟩, ⟨true, .any⟩, ⟨true, .any⟩], []⟩]⟩

noncomputable def st137_2 (p s : List D) : Option (Sum (List D) (List D)) := stepQX env tb136 60 12 137 (loopC 137 2) S137_2 p s

theorem st137_2_eq (pn0 : Int) (sn0 : Int) (sn1 : Int) : st137_2  [(D.int pn0)] [(D.int sn0), (D.int sn1)] =
    bif (qcmp BinOp.lss sn1 (qbin BinOp.rem IntKind.u32 pn0 32)) then
      some (Sum.inl [(D.int (qbin BinOp.quo IntKind.u32 sn0 2)), (D.int (qbin BinOp.add IntKind.u32 sn1 1))])
    else
      some (Sum.inr [(D.int 0), (D.int sn0)]) := by
  have h : st137_2  [(D.int pn0)] [(D.int sn0), (D.int sn1)] =
    bif (qcmp BinOp.lss sn1 (qbin BinOp.rem IntKind.u32 pn0 32)) then
      bif (qeqD (D.int pn0) (D.int pn0)) then
        some (Sum.inl [(D.int (qbin BinOp.quo IntKind.u32 sn0 2)), (D.int (qbin BinOp.add IntKind.u32 sn1 1))])
      else
        none
    else
      bif (qeqD (D.int pn0) (D.int pn0)) then
        some (Sum.inr [(D.int 0), (D.int sn0)])
      else
        none := by kernel_rfl
  rw [h]; simp only [qeqD_self, qeqI_self, qeq_len, show qcmp BinOp.eql 0 (qlen (D.list [])) = true from qeq_len [], show ∀ a, qcmp BinOp.eql 1 (qlen (D.list [a])) = true from fun a => qeq_len [a], show ∀ a b, qcmp BinOp.eql 2 (qlen (D.list [a, b])) = true from fun a b => qeq_len [a, b], show ∀ a b c, qcmp BinOp.eql 3 (qlen (D.list [a, b, c])) = true from fun a b c => qeq_len [a, b, c], show ∀ a b c d, qcmp BinOp.eql 4 (qlen (D.list [a, b, c, d])) = true from fun a b c d => qeq_len [a, b, c, d], cond_true]

noncomputable def l137_2 : List D → List D → Option (List D) := veil fun p s => loW (st137_2  p) s

theorem l137_2_eq : l137_2  = fun p s => loW (st137_2  p) s := veil_eq _

noncomputable def tbl137_2 : Tb := Tb.addL tb136 137 2 S137_2.n0 (mkLp S137_2 (l137_2 ))

theorem ok_tbl137_2 : TbOk env (tbl137_2 ) := addLoopQ ok_tb136 137 2 (by kernel_rfl) _ (l137_2_eq )

def S137 : FunS := ⟨[⟨true, (.int .u32)⟩, ⟨true, (.int .u32)⟩], [], [⟨true, (.int .u32)⟩], []⟩

noncomputable def F137 : List D → Option (List D) := liftX env tbl137_2 60 12 137 S137

theorem F137_eq  (sn0 : Int) (sn1 : Int) : F137  [(D.int sn0), (D.int sn1)] =
    bif (qsome (Proofs.YtgklbalcneepoaaGreatDoor.l137_2 [(D.int sn1)] [(D.int sn0), (D.int 0)])) then
      some [(D.int (qint (qnth (Proofs.YtgklbalcneepoaaGreatDoor.l137_2 [(D.int sn1)] [(D.int sn0), (D.int 0)]) 1)))]
    else
      none := by kernel_rfl

noncomputable def q137 : List D → Option (List D) := veil (F137 )

theorem q137_eq : q137  = F137  := veil_eq _

noncomputable def tb137 : Tb := Tb.addF tbl137_2 137 S137 (q137 )

theorem ok_tb137 : TbOk env (tb137 ) := addFunF ok_tbl137_2 137 (by kernel_rfl) _ (q137_eq )

/- function 138  -/

def S138_5 : LoopS := ⟨0, [⟨true, (.int .u32)⟩, ⟨false, (.int .u32)⟩, ⟨false, .any⟩, ⟨false, .any⟩, ⟨false, (.lit (.int .u32 0))⟩, ⟨false, (.int .u32)⟩, ⟨true, (.int .u32)⟩, ⟨false, .any⟩, ⟨false, .any⟩, ⟨false, .any⟩, ⟨false, .any⟩, ⟨false, .any⟩, ⟨false, .any⟩, ⟨false, .any⟩, ⟨false, .any⟩, ⟨false, .any⟩, ⟨false, .any⟩, ⟨false, .any⟩, ⟨false, .any⟩, ⟨false, .any⟩], [], [⟨0, 0, [⟨true, (.int .u32)⟩, ⟨false, (.int .u32)⟩, ⟨true, .any⟩, ⟨true, .any⟩, ⟨true, (.lit (.int .u32 0))⟩, ⟨false, (.int .u32)⟩, ⟨true, .any⟩, ⟨true, .any⟩, ⟨true, .any⟩, ⟨true, .any⟩, ⟨true, .any⟩, ⟨true, .any⟩, ⟨true, .any⟩, ⟨true, .any⟩, ⟨true, .any⟩, ⟨true, .any⟩, ⟨true, .any⟩, ⟨true, .any⟩, ⟨true, .any⟩, ⟨true, .any⟩], []⟩]⟩

noncomputable def st138_5 (p s : List D) : Option (Sum (List D) (List D)) := stepQX env tb137 60 12 138 (loopC 138 5) S138_5 p s

theorem st138_5_eq (pn0 : Int) (pn1 : Int) (sn0 : Int) (sn1 : Int) : st138_5  [(D.int pn0), (D.int pn1)] [(D.int sn0), (D.int sn1)] =
    bif (qcmp BinOp.lss sn1 (qbin BinOp.rem IntKind.u32 pn0 32)) then
      some (Sum.inl [(D.int (qbin BinOp.add IntKind.u32 (qbin BinOp.quo IntKind.u32 sn0 2) pn1)), (D.int (qbin BinOp.add IntKind.u32 sn1 1))])
    else
      some (Sum.inr [(D.int 0), (D.int sn0)]) := by
  have h : st138_5  [(D.int pn0), (D.int pn1)] [(D.int sn0), (D.int sn1)] =
    bif (qcmp BinOp.lss sn1 (qbin BinOp.rem IntKind.u32 pn0 32)) then
      bif (qeqD (D.int pn0) (D.int pn0)) then
        bif (qeqD (D.int pn1) (D.int pn1)) then
          some (Sum.inl [(D.int (qbin BinOp.add IntKind.u32 (qbin BinOp.quo IntKind.u32 sn0 2) pn1)), (D.int (qbin BinOp.add IntKind.u32 sn1 1))])
        else
          none
      else
        none
    else
      bif (qeqD (D.int pn0) (D.int pn0)) then
        bif (qeqD (D.int pn1) (D.int pn1)) then
          some (Sum.inr [(D.int 0), (D.int sn0)])
        else
          none
      else
        none := by kernel_rfl
  rw [h]; simp only [qeqD_self, qeqI_self, qeq_len, show qcmp BinOp.eql 0 (qlen (D.list [])) = true from qeq_len [], show ∀ a, qcmp BinOp.eql 1 (qlen (D.list [a])) = true from fun a => qeq_len [a], show ∀ a b, qcmp BinOp.eql 2 (qlen (D.list [a, b])) = true from fun a b => qeq_len [a, b], show ∀ a b c, qcmp BinOp.eql 3 (qlen (D.list [a, b, c])) = true from fun a b c => qeq_len [a, b, c], show ∀ a b c d, qcmp BinOp.eql 4 (qlen (D.list [a, b, c, d])) = true from fun a b c d => qeq_len [a, b, c, d], cond_true]

noncomputable def l138_5 : List D → List D → Option (List D) := veil fun p s => loW (st138_5  p) s

theorem l138_5_eq : l138_5  = fun p s => loW (st138_5  p) s := veil_eq _

noncomputable def tbl138_5 : Tb := Tb.addL tb137 138 5 S138_5.n0 (mkLp S138_5 (l138_5 ))

theorem ok_tbl138_5 : TbOk env (tbl138_5 ) := addLoopQ ok_tb137 138 5 (by kernel_rfl) _ (l138_5_eq )

def S138 : FunS := ⟨[⟨true, (.int .u32)⟩, ⟨true, (.int .u32)⟩], [], [⟨true, (.int .u32)⟩], []⟩

noncomputable def F138 : List D → Option (List D) := liftX env tbl138_5 60 12 138 S138

theorem F138_eq  (sn0 : Int) (sn1 : Int) : F138  [(D.int sn0), (D.int sn1)] =
    bif (qsome (Proofs.YtgklbalcneepoaaGreatDoor.l138_5 [(D.int sn1), (D.int (qiteI (qcmp BinOp.geq sn0 2147483648) 2147483648 0))] [(D.int sn0), (D.int 0)])) then
      some [(D.int (qint (qnth (Proofs.YtgklbalcneepoaaGreatDoor.l138_5 [(D.int sn1), (D.int (qiteI (qcmp BinOp.geq sn0 2147483648) 2147483648 0))] [(D.int sn0), (D.int 0)]) 1)))]
    else
      none := by kernel_rfl

noncomputable def q138 : List D → Option (List D) := veil (F138 )

theorem q138_eq : q138  = F138  := veil_eq _

noncomputable def tb138 : Tb := Tb.addF tbl138_5 138 S138 (q138 )

theorem ok_tb138 : TbOk env (tb138 ) := addFunF ok_tbl138_5 138 (by kernel_rfl) _ (q138_eq )

/- function 139  -/

def S139 : FunS := ⟨[⟨true, .bool⟩], [], [⟨true, (.int .u32)⟩], []⟩

noncomputable def F139 : List D → Option (List D) := liftX env tb138 60 12 139 S139

theorem F139_eq  (sb0 : Bool) : F139  [(D.bool sb0)] =
    bif sb0 then
      some [(D.int 1)]
    else
      some [(D.int 0)] := by kernel_rfl

noncomputable def q139 : List D → Option (List D) := veil (F139 )

theorem q139_eq : q139  = F139  := veil_eq _

noncomputable def tb139 : Tb := Tb.addF tb138 139 S139 (q139 )

theorem ok_tb139 : TbOk env (tb139 ) := addFunF ok_tb138 139 (by kernel_rfl) _ (q139_eq )

/- function 91  -/

def S91 : FunS := ⟨[⟨true, (.int .i64)⟩, ⟨true, (.int .u32)⟩, ⟨true, (.int .u32)⟩], [], [⟨true, (.tup [(.int .u32), (.int .i64)])⟩], []⟩

noncomputable def F91 : List D → Option (List D) := liftX env tb139 60 12 91 S91

theorem F91_eq  (sn0 : Int) (sn1 : Int) (sn2 : Int) : F91  [(D.int sn0), (D.int sn1), (D.int sn2)] =
    bif (qcmp BinOp.eql sn0 3) then
      some [(D.int (qbin BinOp.add IntKind.u32 sn1 sn2)), (D.int 0)]
    else
      bif (qcmp BinOp.eql sn0 4) then
        some [(D.int (qbin BinOp.sub IntKind.u32 sn1 sn2)), (D.int 0)]
      else
        bif (qcmp BinOp.eql sn0 5) then
          some [(D.int (qbin BinOp.mul IntKind.u32 sn1 sn2)), (D.int 0)]
        else
          bif (qcmp BinOp.eql sn0 6) then
            some [(D.int (qbin BinOp.and IntKind.u32 sn1 sn2)), (D.int 0)]
          else
            bif (qcmp BinOp.eql sn0 7) then
              some [(D.int (qbin BinOp.or IntKind.u32 sn1 sn2)), (D.int 0)]
            else
              bif (qcmp BinOp.eql sn0 8) then
                some [(D.int (qbin BinOp.xor IntKind.u32 sn1 sn2)), (D.int 0)]
              else
                bif (qcmp BinOp.eql sn0 9) then
                  bif (qsome (Proofs.YtgklbalcneepoaaGreatDoor.q136 [(D.int sn1), (D.int sn2)])) then
                    some [(D.int (qint (qnth (Proofs.YtgklbalcneepoaaGreatDoor.q136 [(D.int sn1), (D.int sn2)]) 0))), (D.int 0)]
                  else
                    none
                else
                  bif (qcmp BinOp.eql sn0 10) then
                    bif (qsome (Proofs.YtgklbalcneepoaaGreatDoor.q137 [(D.int sn1), (D.int sn2)])) then
                      some [(D.int (qint (qnth (Proofs.YtgklbalcneepoaaGreatDoor.q137 [(D.int sn1), (D.int sn2)]) 0))), (D.int 0)]
                    else
                      none
                  else
                    bif (qcmp BinOp.eql sn0 11) then
                      bif (qsome (Proofs.YtgklbalcneepoaaGreatDoor.q138 [(D.int sn1), (D.int sn2)])) then
                        some [(D.int (qint (qnth (Proofs.YtgklbalcneepoaaGreatDoor.q138 [(D.int sn1), (D.int sn2)]) 0))), (D.int 0)]
                      else
                        none
                    else
                      bif (qcmp BinOp.eql sn0 12) then
                        bif (qsome (Proofs.YtgklbalcneepoaaGreatDoor.q139 [(D.bool (qcmp BinOp.eql sn1 sn2))])) then
                          some [(D.int (qint (qnth (Proofs.YtgklbalcneepoaaGreatDoor.q139 [(D.bool (qcmp BinOp.eql sn1 sn2))]) 0))), (D.int 0)]
                        else
                          none
                      else
                        bif (qcmp BinOp.eql sn0 13) then
                          bif (qsome (Proofs.YtgklbalcneepoaaGreatDoor.q139 [(D.bool (qcmp BinOp.neq sn1 sn2))])) then
                            some [(D.int (qint (qnth (Proofs.YtgklbalcneepoaaGreatDoor.q139 [(D.bool (qcmp BinOp.neq sn1 sn2))]) 0))), (D.int 0)]
                          else
                            none
                        else
                          bif (qcmp BinOp.eql sn0 14) then
                            bif (qsome (Proofs.YtgklbalcneepoaaGreatDoor.q139 [(D.bool (qcmp BinOp.lss (qwrap IntKind.i32 sn1) (qwrap IntKind.i32 sn2)))])) then
                              some [(D.int (qint (qnth (Proofs.YtgklbalcneepoaaGreatDoor.q139 [(D.bool (qcmp BinOp.lss (qwrap IntKind.i32 sn1) (qwrap IntKind.i32 sn2)))]) 0))), (D.int 0)]
                            else
                              none
                          else
                            bif (qcmp BinOp.eql sn0 15) then
                              bif (qsome (Proofs.YtgklbalcneepoaaGreatDoor.q139 [(D.bool (qcmp BinOp.lss sn1 sn2))])) then
                                some [(D.int (qint (qnth (Proofs.YtgklbalcneepoaaGreatDoor.q139 [(D.bool (qcmp BinOp.lss sn1 sn2))]) 0))), (D.int 0)]
                              else
                                none
                            else
                              some [(D.int 0), (D.int 2)] := by kernel_rfl

noncomputable def q91 : List D → Option (List D) := veil (F91 )

theorem q91_eq : q91  = F91  := veil_eq _

noncomputable def tb91 : Tb := Tb.addF tb139 91 S91 (q91 )

theorem ok_tb91 : TbOk env (tb91 ) := addFunF ok_tb139 91 (by kernel_rfl) _ (q91_eq )

/- function 135  -/

def S135 : FunS := ⟨[⟨true, (.int .u32)⟩, ⟨true, (.int .i64)⟩], [], [⟨true, (.int .u32)⟩], []⟩

noncomputable def F135 : List D → Option (List D) := liftX env tb91 60 12 135 S135

theorem F135_eq  (sn0 : Int) (sn1 : Int) : F135  [(D.int sn0), (D.int sn1)] =
    bif (qcmp BinOp.eql sn1 1) then
      some [(D.int (qbin BinOp.rem IntKind.u32 sn0 256))]
    else
      bif (qcmp BinOp.eql sn1 2) then
        some [(D.int (qbin BinOp.rem IntKind.u32 sn0 65536))]
      else
        some [(D.int sn0)] := by kernel_rfl

noncomputable def q135 : List D → Option (List D) := veil (F135 )

theorem q135_eq : q135  = F135  := veil_eq _

noncomputable def tb135 : Tb := Tb.addF tb91 135 S135 (q135 )

theorem ok_tb135 : TbOk env (tb135 ) := addFunF ok_tb91 135 (by kernel_rfl) _ (q135_eq )

/- function 90  -/

def S90 : FunS := ⟨[⟨true, (.int .u32)⟩, ⟨true, (.int .i64)⟩], [], [⟨true, (.int .u32)⟩], []⟩

noncomputable def F90 : List D → Option (List D) := liftX env tb135 60 12 90 S90

theorem F90_eq  (sn0 : Int) (sn1 : Int) : F90  [(D.int sn0), (D.int sn1)] =
    bif (qsome (Proofs.YtgklbalcneepoaaGreatDoor.q135 [(D.int sn0), (D.int sn1)])) then
      bif (qiteB (qcmp BinOp.eql sn1 1) (qcmp BinOp.geq (qint (qnth (Proofs.YtgklbalcneepoaaGreatDoor.q135 [(D.int sn0), (D.int sn1)]) 0)) 128) Bool.false) then
        some [(D.int (qbin BinOp.sub IntKind.u32 (qint (qnth (Proofs.YtgklbalcneepoaaGreatDoor.q135 [(D.int sn0), (D.int sn1)]) 0)) 256))]
      else
        bif (qiteB (qcmp BinOp.eql sn1 2) (qcmp BinOp.geq (qint (qnth (Proofs.YtgklbalcneepoaaGreatDoor.q135 [(D.int sn0), (D.int sn1)]) 0)) 32768) Bool.false) then
          some [(D.int (qbin BinOp.sub IntKind.u32 (qint (qnth (Proofs.YtgklbalcneepoaaGreatDoor.q135 [(D.int sn0), (D.int sn1)]) 0)) 65536))]
        else
          some [(D.int (qint (qnth (Proofs.YtgklbalcneepoaaGreatDoor.q135 [(D.int sn0), (D.int sn1)]) 0)))]
    else
      none := by kernel_rfl

noncomputable def q90 : List D → Option (List D) := veil (F90 )

theorem q90_eq : q90  = F90  := veil_eq _

noncomputable def tb90 : Tb := Tb.addF tb135 90 S90 (q90 )

theorem ok_tb90 : TbOk env (tb90 ) := addFunF ok_tb135 90 (by kernel_rfl) _ (q90_eq )

/- function 88  -/

def S88 : FunS := ⟨[⟨true, (.dat 49)⟩, ⟨true, (.int .i64)⟩], [], [⟨true, (.int .u32)⟩], []⟩

noncomputable def F88 : List D → Option (List D) := liftX env tb90 60 12 88 S88

theorem F88_eq  (sd0 : D) (sn1 : Int) : F88  [sd0, (D.int sn1)] =
    bif (qiteB (qcmp BinOp.lss sn1 0) Bool.true (qcmp BinOp.geq sn1 (qlen (qfld sd0 0)))) then
      some [(D.int 0)]
    else
      bif (qinb (qfld sd0 0) sn1) then
        some [(D.int (qint (qget (qfld sd0 0) sn1)))]
      else
        none := by kernel_rfl

noncomputable def q88 : List D → Option (List D) := veil (F88 )

theorem q88_eq : q88  = F88  := veil_eq _

noncomputable def tb88 : Tb := Tb.addF tb90 88 S88 (q88 )

theorem ok_tb88 : TbOk env (tb88 ) := addFunF ok_tb90 88 (by kernel_rfl) _ (q88_eq )

/- function 132  -/

def S132 : FunS := ⟨[⟨true, (.int .i64)⟩], [], [⟨true, .bool⟩], []⟩

noncomputable def F132 : List D → Option (List D) := liftX env tb88 60 12 132 S132

theorem F132_eq  (sn0 : Int) : F132  [(D.int sn0)] =
    some [(D.bool (qiteB (qiteB (qcmp BinOp.eql sn0 1) Bool.true (qcmp BinOp.eql sn0 2)) Bool.true (qcmp BinOp.eql sn0 4)))] := by kernel_rfl

noncomputable def q132 : List D → Option (List D) := veil (F132 )

theorem q132_eq : q132  = F132  := veil_eq _

noncomputable def tb132 : Tb := Tb.addF tb88 132 S132 (q132 )

theorem ok_tb132 : TbOk env (tb132 ) := addFunF ok_tb88 132 (by kernel_rfl) _ (q132_eq )

/- function 187  -/

def S187 : FunS := ⟨[⟨true, (.dat 173)⟩], [], [⟨true, (.int .i64)⟩], []⟩

noncomputable def F187 : List D → Option (List D) := liftX env tb132 60 12 187 S187

theorem F187_eq  (sd0 : D) : F187  [sd0] =
    bif (qcmp BinOp.gtr (qbin BinOp.add IntKind.i64 (qwrap IntKind.i64 (qint (qfld sd0 1))) (qlen (qfld sd0 2))) 4294967295) then
      some [(D.int 4294967295)]
    else
      some [(D.int (qbin BinOp.add IntKind.i64 (qwrap IntKind.i64 (qint (qfld sd0 1))) (qlen (qfld sd0 2))))] := by kernel_rfl

noncomputable def q187 : List D → Option (List D) := veil (F187 )

theorem q187_eq : q187  = F187  := veil_eq _

noncomputable def tb187 : Tb := Tb.addF tb132 187 S187 (q187 )

theorem ok_tb187 : TbOk env (tb187 ) := addFunF ok_tb132 187 (by kernel_rfl) _ (q187_eq )

/- function 175  -/

def S175_2 : LoopS := ⟨0, [⟨false, (.rows 173)⟩, ⟨false, (.int .u32)⟩, ⟨false, .any⟩, ⟨false, .any⟩, ⟨false, (.lit (.int .i64 0))⟩, ⟨true, (.int .i64)⟩, ⟨false, .any⟩, ⟨false, .any⟩, ⟨false, .any⟩, ⟨false, .any⟩, ⟨false, .any⟩, ⟨false, .any⟩, ⟨false, .any⟩, ⟨false, .any⟩, ⟨false, .any⟩, ⟨false, .any⟩, ⟨false, .any⟩, ⟨false, .any⟩, ⟨false, .any⟩, ⟨false, .any⟩, ⟨false, .any⟩, ⟨false, .any⟩, ⟨false, .any⟩, ⟨false, .any⟩, ⟨false, .any⟩, ⟨false, .any⟩, ⟨false, .any⟩, ⟨false, .any⟩, ⟨false, .any⟩, ⟨false, .any⟩], [], [⟨0, 0, [⟨false, (.rows 173)⟩, ⟨false, (.int .u32)⟩, ⟨true, .any⟩, ⟨true, .any⟩, ⟨true, (.lit (.int .i64 0))⟩, ⟨true, .any⟩, ⟨true, .any⟩, ⟨true, .any⟩, ⟨true, .any⟩, ⟨true, .any⟩, ⟨true, .any⟩, ⟨true, .any⟩, ⟨true, .any⟩, ⟨true, .any⟩, ⟨true, .any⟩, ⟨true, .any⟩, ⟨true, .any⟩, ⟨true, .any⟩, ⟨true, .any⟩, ⟨true, .any⟩, ⟨true, .any⟩, ⟨true, .any⟩, ⟨true, .any⟩, ⟨true, .any⟩, ⟨true, .any⟩, ⟨true, .any⟩, ⟨true, .any⟩, ⟨true, .any⟩, ⟨true, .any⟩, ⟨true, .any⟩], []⟩, ⟨1, 0, [⟨false, (.rows 173)⟩, ⟨false, (.int .u32)⟩, ⟨true, .any⟩, ⟨true, .any⟩, ⟨true, (.int .i64)⟩, ⟨true, .any⟩, ⟨true, .any⟩, ⟨true, .any⟩, ⟨true, .any⟩, ⟨true, .any⟩, ⟨true, .any⟩, ⟨true, .any⟩, ⟨true, .any⟩, ⟨true, .any⟩, ⟨true, .any⟩, ⟨true, .any⟩, ⟨true, .any⟩, ⟨true, .any⟩, ⟨true, .any⟩, ⟨true, .any⟩, ⟨true, .any⟩, ⟨true, .any⟩, ⟨true, .any⟩, ⟨true, .any⟩, ⟨true, .any⟩, ⟨true, .any⟩, ⟨true, .any⟩, ⟨true, .any⟩, ⟨true, .any⟩, ⟨true, .any⟩], []⟩]⟩

noncomputable def st175_2 (p s : List D) : Option (Sum (List D) (List D)) := stepQX env tb187 60 12 175 (loopC 175 2) S175_2 p s

theorem st175_2_eq (pd0 : D) (pn1 : Int) (sn0 : Int) : st175_2  [pd0, (D.int pn1)] [(D.int sn0)] =
    bif (qcmp BinOp.lss sn0 (qlen pd0)) then
      bif (qinb pd0 sn0) then
        bif (qiteB (qcmp BinOp.leq (qint (qfld (qget pd0 sn0) 1)) pn1) (qand (qinb pd0 sn0) (qsome (Proofs.YtgklbalcneepoaaGreatDoor.q187 [(qget pd0 sn0)]))) Bool.true) then
          bif (qiteB (qcmp BinOp.leq (qint (qfld (qget pd0 sn0) 1)) pn1) (qcmp BinOp.lss (qwrap IntKind.i64 pn1) (qint (qnth (Proofs.YtgklbalcneepoaaGreatDoor.q187 [(qget pd0 sn0)]) 0))) Bool.false) then
            some (Sum.inr [(D.int 1), (D.int sn0)])
          else
            some (Sum.inl [(D.int (qbin BinOp.add IntKind.i64 sn0 1))])
        else
          none
      else
        none
    else
      some (Sum.inr [(D.int 0)]) := by
  have h : st175_2  [pd0, (D.int pn1)] [(D.int sn0)] =
    bif (qcmp BinOp.lss sn0 (qlen pd0)) then
      bif (qinb pd0 sn0) then
        bif (qiteB (qcmp BinOp.leq (qint (qfld (qget pd0 sn0) 1)) pn1) (qand (qinb pd0 sn0) (qsome (Proofs.YtgklbalcneepoaaGreatDoor.q187 [(qget pd0 sn0)]))) Bool.true) then
          bif (qiteB (qcmp BinOp.leq (qint (qfld (qget pd0 sn0) 1)) pn1) (qcmp BinOp.lss (qwrap IntKind.i64 pn1) (qint (qnth (Proofs.YtgklbalcneepoaaGreatDoor.q187 [(qget pd0 sn0)]) 0))) Bool.false) then
            bif (qeqD pd0 pd0) then
              bif (qeqD (D.int pn1) (D.int pn1)) then
                some (Sum.inr [(D.int 1), (D.int sn0)])
              else
                none
            else
              none
          else
            bif (qeqD pd0 pd0) then
              bif (qeqD (D.int pn1) (D.int pn1)) then
                some (Sum.inl [(D.int (qbin BinOp.add IntKind.i64 sn0 1))])
              else
                none
            else
              none
        else
          none
      else
        none
    else
      bif (qeqD pd0 pd0) then
        bif (qeqD (D.int pn1) (D.int pn1)) then
          some (Sum.inr [(D.int 0)])
        else
          none
      else
        none := by kernel_rfl
  rw [h]; simp only [qeqD_self, qeqI_self, qeq_len, show qcmp BinOp.eql 0 (qlen (D.list [])) = true from qeq_len [], show ∀ a, qcmp BinOp.eql 1 (qlen (D.list [a])) = true from fun a => qeq_len [a], show ∀ a b, qcmp BinOp.eql 2 (qlen (D.list [a, b])) = true from fun a b => qeq_len [a, b], show ∀ a b c, qcmp BinOp.eql 3 (qlen (D.list [a, b, c])) = true from fun a b c => qeq_len [a, b, c], show ∀ a b c d, qcmp BinOp.eql 4 (qlen (D.list [a, b, c, d])) = true from fun a b c d => qeq_len [a, b, c, d], cond_true]

noncomputable def l175_2 : List D → List D → Option (List D) := veil fun p s => loW (st175_2  p) s

theorem l175_2_eq : l175_2  = fun p s => loW (st175_2  p) s := veil_eq _

noncomputable def tbl175_2 : Tb := Tb.addL tb187 175 2 S175_2.n0 (mkLp S175_2 (l175_2 ))

theorem ok_tbl175_2 : TbOk env (tbl175_2 ) := addLoopQ ok_tb187 175 2 (by kernel_rfl) _ (l175_2_eq )

def S175 : FunS := ⟨[⟨true, (.rows 173)⟩, ⟨true, (.int .u32)⟩], [], [⟨true, (.int .i64)⟩], []⟩

noncomputable def F175 : List D → Option (List D) := liftX env tbl175_2 60 12 175 S175

theorem F175_eq  (sd0 : D) (sn1 : Int) : F175  [sd0, (D.int sn1)] =
    bif (qsome (Proofs.YtgklbalcneepoaaGreatDoor.l175_2 [sd0, (D.int sn1)] [(D.int 0)])) then
      bif (qcmp BinOp.eql (qint (qnth (Proofs.YtgklbalcneepoaaGreatDoor.l175_2 [sd0, (D.int sn1)] [(D.int 0)]) 0)) 0) then
        some [(D.int (-1))]
      else
        some [(D.int (qint (qnth (Proofs.YtgklbalcneepoaaGreatDoor.l175_2 [sd0, (D.int sn1)] [(D.int 0)]) 1)))]
    else
      none := by kernel_rfl

noncomputable def q175 : List D → Option (List D) := veil (F175 )

theorem q175_eq : q175  = F175  := veil_eq _

noncomputable def tb175 : Tb := Tb.addF tbl175_2 175 S175 (q175 )

theorem ok_tb175 : TbOk env (tb175 ) := addFunF ok_tbl175_2 175 (by kernel_rfl) _ (q175_eq )

/- function 163  -/

def S163 : FunS := ⟨[⟨true, (.dat 53)⟩, ⟨true, (.int .u32)⟩], [], [⟨true, (.int .i64)⟩], []⟩

noncomputable def F163 : List D → Option (List D) := liftX env tb175 60 12 163 S163

theorem F163_eq  (sd0 : D) (sn1 : Int) : F163  [sd0, (D.int sn1)] =
    bif (qiteB (qcmp BinOp.geq sn1 978944) (qcmp BinOp.lss sn1 983040) Bool.false) then
      some [(D.int (qlen (qfld sd0 1)))]
    else
      bif (qsome (Proofs.YtgklbalcneepoaaGreatDoor.q175 [(qfld sd0 1), (D.int sn1)])) then
        some [(D.int (qint (qnth (Proofs.YtgklbalcneepoaaGreatDoor.q175 [(qfld sd0 1), (D.int sn1)]) 0)))]
      else
        none := by kernel_rfl

noncomputable def q163 : List D → Option (List D) := veil (F163 )

theorem q163_eq : q163  = F163  := veil_eq _

noncomputable def tb163 : Tb := Tb.addF tb175 163 S163 (q163 )

theorem ok_tb163 : TbOk env (tb163 ) := addFunF ok_tb175 163 (by kernel_rfl) _ (q163_eq )

/- function 164  -/

def S164 : FunS := ⟨[⟨true, (.dat 53)⟩, ⟨true, (.int .u32)⟩], [], [⟨true, (.int .u8)⟩], []⟩

noncomputable def F164 : List D → Option (List D) := liftX env tb163 60 12 164 S164

theorem F164_eq  (sd0 : D) (sn1 : Int) : F164  [sd0, (D.int sn1)] =
    bif (qsome (Proofs.YtgklbalcneepoaaGreatDoor.q163 [sd0, (D.int sn1)])) then
      bif (qiteB (qcmp BinOp.lss (qint (qnth (Proofs.YtgklbalcneepoaaGreatDoor.q163 [sd0, (D.int sn1)]) 0)) 0) Bool.true (qcmp BinOp.eql (qint (qnth (Proofs.YtgklbalcneepoaaGreatDoor.q163 [sd0, (D.int sn1)]) 0)) (qlen (qfld sd0 1)))) then
        some [(D.int 0)]
      else
        bif (qinb (qfld sd0 1) (qint (qnth (Proofs.YtgklbalcneepoaaGreatDoor.q163 [sd0, (D.int sn1)]) 0))) then
          bif (qinb (qfld sd0 1) (qint (qnth (Proofs.YtgklbalcneepoaaGreatDoor.q163 [sd0, (D.int sn1)]) 0))) then
            bif (qinb (qfld (qget (qfld sd0 1) (qint (qnth (Proofs.YtgklbalcneepoaaGreatDoor.q163 [sd0, (D.int sn1)]) 0))) 2) (qwrap IntKind.i64 (qbin BinOp.sub IntKind.u32 sn1 (qint (qfld (qget (qfld sd0 1) (qint (qnth (Proofs.YtgklbalcneepoaaGreatDoor.q163 [sd0, (D.int sn1)]) 0))) 1))))) then
              some [(D.int (qint (qget (qfld (qget (qfld sd0 1) (qint (qnth (Proofs.YtgklbalcneepoaaGreatDoor.q163 [sd0, (D.int sn1)]) 0))) 2) (qwrap IntKind.i64 (qbin BinOp.sub IntKind.u32 sn1 (qint (qfld (qget (qfld sd0 1) (qint (qnth (Proofs.YtgklbalcneepoaaGreatDoor.q163 [sd0, (D.int sn1)]) 0))) 1)))))))]
            else
              none
          else
            none
        else
          none
    else
      none := by kernel_rfl

noncomputable def q164 : List D → Option (List D) := veil (F164 )

theorem q164_eq : q164  = F164  := veil_eq _

noncomputable def tb164 : Tb := Tb.addF tb163 164 S164 (q164 )

theorem ok_tb164 : TbOk env (tb164 ) := addFunF ok_tb163 164 (by kernel_rfl) _ (q164_eq )

/- function 133  -/

def S133 : FunS := ⟨[⟨true, (.dat 53)⟩, ⟨true, (.int .u32)⟩], [], [⟨true, (.int .i64)⟩], []⟩

noncomputable def F133 : List D → Option (List D) := liftX env tb164 60 12 133 S133

theorem F133_eq  (sd0 : D) (sn1 : Int) : F133  [sd0, (D.int sn1)] =
    bif (qsome (Proofs.YtgklbalcneepoaaGreatDoor.q163 [sd0, (D.int sn1)])) then
      bif (qcmp BinOp.lss (qint (qnth (Proofs.YtgklbalcneepoaaGreatDoor.q163 [sd0, (D.int sn1)]) 0)) 0) then
        some [(D.int 0)]
      else
        bif (qcmp BinOp.eql (qint (qnth (Proofs.YtgklbalcneepoaaGreatDoor.q163 [sd0, (D.int sn1)]) 0)) (qlen (qfld sd0 1))) then
          some [(D.int (qwrap IntKind.i64 (qbin BinOp.sub IntKind.u32 983040 sn1)))]
        else
          bif (qinb (qfld sd0 1) (qint (qnth (Proofs.YtgklbalcneepoaaGreatDoor.q163 [sd0, (D.int sn1)]) 0))) then
            bif (qinb (qfld sd0 1) (qint (qnth (Proofs.YtgklbalcneepoaaGreatDoor.q163 [sd0, (D.int sn1)]) 0))) then
              some [(D.int (qbin BinOp.sub IntKind.i64 (qlen (qfld (qget (qfld sd0 1) (qint (qnth (Proofs.YtgklbalcneepoaaGreatDoor.q163 [sd0, (D.int sn1)]) 0))) 2)) (qwrap IntKind.i64 (qbin BinOp.sub IntKind.u32 sn1 (qint (qfld (qget (qfld sd0 1) (qint (qnth (Proofs.YtgklbalcneepoaaGreatDoor.q163 [sd0, (D.int sn1)]) 0))) 1))))))]
            else
              none
          else
            none
    else
      none := by kernel_rfl

noncomputable def q133 : List D → Option (List D) := veil (F133 )

theorem q133_eq : q133  = F133  := veil_eq _

noncomputable def tb133 : Tb := Tb.addF tb164 133 S133 (q133 )

theorem ok_tb133 : TbOk env (tb133 ) := addFunF ok_tb164 133 (by kernel_rfl) _ (q133_eq )

/- function 134  -/

def S134_2 : LoopS := ⟨0, [⟨false, .any⟩, ⟨false, (.int .u32)⟩, ⟨false, (.ptr 0 0)⟩, ⟨false, .any⟩, ⟨false, (.lit (.int .u8 0))⟩, ⟨true, (.int .i64)⟩, ⟨false, .any⟩, ⟨false, .any⟩, ⟨false, .any⟩, ⟨false, .any⟩, ⟨false, .any⟩, ⟨false, .any⟩, ⟨false, .any⟩, ⟨false, .any⟩, ⟨false, .any⟩, ⟨false, .any⟩, ⟨false, .any⟩, ⟨false, .any⟩, ⟨false, .any⟩, ⟨false, .any⟩, ⟨false, .any⟩, ⟨false, .any⟩, ⟨false, .any⟩, ⟨false, .any⟩, ⟨false, .any⟩, ⟨false, .any⟩, ⟨false, .any⟩, ⟨false, .any⟩, ⟨false, .any⟩, ⟨false, .any⟩], [(.dat false 53)], [⟨0, 0, [⟨true, .any⟩, ⟨false, (.int .u32)⟩, ⟨true, (.ptr 0 0)⟩, ⟨true, .any⟩, ⟨true, (.lit (.int .u8 0))⟩, ⟨true, .any⟩, ⟨true, .any⟩, ⟨true, .any⟩, ⟨true, .any⟩, ⟨true, .any⟩, ⟨true, .any⟩, ⟨true, .any⟩, ⟨true, .any⟩, ⟨true, .any⟩, ⟨true, .any⟩, ⟨true, .any⟩, ⟨true, .any⟩, ⟨true, .any⟩, ⟨true, .any⟩, ⟨true, .any⟩, ⟨true, .any⟩, ⟨true, .any⟩, ⟨true, .any⟩, ⟨true, .any⟩, ⟨true, .any⟩, ⟨true, .any⟩, ⟨true, .any⟩, ⟨true, .any⟩, ⟨true, .any⟩, ⟨true, .any⟩], [(.dat false 53)]⟩, ⟨1, 0, [⟨true, .any⟩, ⟨false, (.int .u32)⟩, ⟨true, .any⟩, ⟨true, .any⟩, ⟨true, (.int .u8)⟩, ⟨true, .any⟩, ⟨true, .any⟩, ⟨true, .any⟩, ⟨true, .any⟩, ⟨true, .any⟩, ⟨true, .any⟩, ⟨true, .any⟩, ⟨true, .any⟩, ⟨true, .any⟩, ⟨true, .any⟩, ⟨true, .any⟩, ⟨true, .any⟩, ⟨true, .any⟩, ⟨true, .any⟩, ⟨true, .any⟩, ⟨true, .any⟩, ⟨true, .any⟩, ⟨true, .any⟩, ⟨true, .any⟩, ⟨true, .any⟩, ⟨true, .any⟩, ⟨true, .any⟩, ⟨true, .any⟩, ⟨true, .any⟩, ⟨true, .any⟩], [(.dat false 53)]⟩]⟩

noncomputable def st134_2 (p s : List D) : Option (Sum (List D) (List D)) := stepQX env tb133 60 12 134 (loopC 134 2) S134_2 p s

theorem st134_2_eq (pn0 : Int) (pd1 : D) (sn0 : Int) : st134_2  [(D.int pn0), pd1] [(D.int sn0)] =
    bif (qcmp BinOp.lss sn0 (qlen (qfld pd1 2))) then
      bif (qinb (qfld pd1 2) sn0) then
        bif (qcmp BinOp.eql (qint (qfld (qget (qfld pd1 2) sn0) 0)) pn0) then
          bif (qinb (qfld pd1 2) sn0) then
            some (Sum.inr [(D.int 1), (D.int (qint (qfld (qget (qfld pd1 2) sn0) 1)))])
          else
            none
        else
          some (Sum.inl [(D.int (qbin BinOp.add IntKind.i64 sn0 1))])
      else
        none
    else
      some (Sum.inr [(D.int 0)]) := by
  have h : st134_2  [(D.int pn0), pd1] [(D.int sn0)] =
    bif (qcmp BinOp.lss sn0 (qlen (qfld pd1 2))) then
      bif (qinb (qfld pd1 2) sn0) then
        bif (qcmp BinOp.eql (qint (qfld (qget (qfld pd1 2) sn0) 0)) pn0) then
          bif (qinb (qfld pd1 2) sn0) then
            bif (qeqD (D.int pn0) (D.int pn0)) then
              bif (qeqD pd1 pd1) then
                some (Sum.inr [(D.int 1), (D.int (qint (qfld (qget (qfld pd1 2) sn0) 1)))])
              else
                none
            else
              none
          else
            none
        else
          bif (qeqD (D.int pn0) (D.int pn0)) then
            bif (qeqD pd1 pd1) then
              some (Sum.inl [(D.int (qbin BinOp.add IntKind.i64 sn0 1))])
            else
              none
          else
            none
      else
        none
    else
      bif (qeqD (D.int pn0) (D.int pn0)) then
        bif (qeqD pd1 pd1) then
          some (Sum.inr [(D.int 0)])
        else
          none
      else
        none := by kernel_rfl
  rw [h]; simp only [qeqD_self, qeqI_self, qeq_len, show qcmp BinOp.eql 0 (qlen (D.list [])) = true from qeq_len [], show ∀ a, qcmp BinOp.eql 1 (qlen (D.list [a])) = true from fun a => qeq_len [a], show ∀ a b, qcmp BinOp.eql 2 (qlen (D.list [a, b])) = true from fun a b => qeq_len [a, b], show ∀ a b c, qcmp BinOp.eql 3 (qlen (D.list [a, b, c])) = true from fun a b c => qeq_len [a, b, c], show ∀ a b c d, qcmp BinOp.eql 4 (qlen (D.list [a, b, c, d])) = true from fun a b c d => qeq_len [a, b, c, d], cond_true]

noncomputable def l134_2 : List D → List D → Option (List D) := veil fun p s => loW (st134_2  p) s

theorem l134_2_eq : l134_2  = fun p s => loW (st134_2  p) s := veil_eq _

noncomputable def tbl134_2 : Tb := Tb.addL tb133 134 2 S134_2.n0 (mkLp S134_2 (l134_2 ))

theorem ok_tbl134_2 : TbOk env (tbl134_2 ) := addLoopQ ok_tb133 134 2 (by kernel_rfl) _ (l134_2_eq )

def S134 : FunS := ⟨[⟨true, (.dat 53)⟩, ⟨true, (.int .u32)⟩], [], [⟨true, (.int .u8)⟩], []⟩

noncomputable def F134 : List D → Option (List D) := liftX env tbl134_2 60 12 134 S134

theorem F134_eq  (sd0 : D) (sn1 : Int) : F134  [sd0, (D.int sn1)] =
    bif (qsome (Proofs.YtgklbalcneepoaaGreatDoor.l134_2 [(D.int sn1), sd0] [(D.int 0)])) then
      bif (qcmp BinOp.eql (qint (qnth (Proofs.YtgklbalcneepoaaGreatDoor.l134_2 [(D.int sn1), sd0] [(D.int 0)]) 0)) 0) then
        bif (qsome (Proofs.YtgklbalcneepoaaGreatDoor.q164 [sd0, (D.int sn1)])) then
          some [(D.int (qint (qnth (Proofs.YtgklbalcneepoaaGreatDoor.q164 [sd0, (D.int sn1)]) 0)))]
        else
          none
      else
        some [(D.int (qint (qnth (Proofs.YtgklbalcneepoaaGreatDoor.l134_2 [(D.int sn1), sd0] [(D.int 0)]) 1)))]
    else
      none := by kernel_rfl

noncomputable def q134 : List D → Option (List D) := veil (F134 )

theorem q134_eq : q134  = F134  := veil_eq _

noncomputable def tb134 : Tb := Tb.addF tbl134_2 134 S134 (q134 )

theorem ok_tb134 : TbOk env (tb134 ) := addFunF ok_tbl134_2 134 (by kernel_rfl) _ (q134_eq )

/- function 89  -/

def S89_9 : LoopS := ⟨0, [⟨false, .any⟩, ⟨false, (.int .u32)⟩, ⟨false, .any⟩, ⟨false, (.ptr 0 0)⟩, ⟨false, .any⟩, ⟨false, .any⟩, ⟨false, (.lit (.int .u32 0))⟩, ⟨false, (.lit (.int .i64 0))⟩, ⟨true, (.int .u32)⟩, ⟨true, (.int .i64)⟩, ⟨false, .any⟩, ⟨false, .any⟩, ⟨false, .any⟩, ⟨false, .any⟩, ⟨false, .any⟩, ⟨false, .any⟩, ⟨false, .any⟩, ⟨false, .any⟩, ⟨false, .any⟩, ⟨false, .any⟩, ⟨false, .any⟩, ⟨false, .any⟩, ⟨false, .any⟩, ⟨false, .any⟩, ⟨false, .any⟩, ⟨false, .any⟩, ⟨false, .any⟩, ⟨false, .any⟩, ⟨false, .any⟩, ⟨false, .any⟩, ⟨false, .any⟩, ⟨false, .any⟩, ⟨false, .any⟩, ⟨false, .any⟩, ⟨false, .any⟩, ⟨false, .any⟩, ⟨false, .any⟩, ⟨false, .any⟩], [(.dat false 53)], [⟨0, 0, [⟨true, .any⟩, ⟨false, (.int .u32)⟩, ⟨true, .any⟩, ⟨true, .any⟩, ⟨true, .any⟩, ⟨true, .any⟩, ⟨true, (.lit (.int .u32 0))⟩, ⟨true, (.lit (.int .i64 0))⟩, ⟨true, (.int .u32)⟩, ⟨true, .any⟩, ⟨true, .any⟩, ⟨true, .any⟩, ⟨true, .any⟩, ⟨true, .any⟩, ⟨true, .any⟩, ⟨true, .any⟩, ⟨true, .any⟩, ⟨true, .any⟩, ⟨true, .any⟩, ⟨true, .any⟩, ⟨true, .any⟩, ⟨true, .any⟩, ⟨true, .any⟩, ⟨true, .any⟩, ⟨true, .any⟩, ⟨true, .any⟩, ⟨true, .any⟩, ⟨true, .any⟩, ⟨true, .any⟩, ⟨true, .any⟩, ⟨true, .any⟩, ⟨true, .any⟩, ⟨true, .any⟩, ⟨true, .any⟩, ⟨true, .any⟩, ⟨true, .any⟩, ⟨true, .any⟩, ⟨true, .any⟩], [(.dat false 53)]⟩]⟩

noncomputable def st89_9 (p s : List D) : Option (Sum (List D) (List D)) := stepQX env tb134 60 12 89 (loopC 89 9) S89_9 p s

theorem st89_9_eq (pn0 : Int) (pd1 : D) (sn0 : Int) (sn1 : Int) : st89_9  [(D.int pn0), pd1] [(D.int sn0), (D.int sn1)] =
    bif (qcmp BinOp.geq sn1 0) then
      bif (qsome (Proofs.YtgklbalcneepoaaGreatDoor.q134 [pd1, (D.int (qbin BinOp.add IntKind.u32 pn0 (qwrap IntKind.u32 sn1)))])) then
        some (Sum.inl [(D.int (qbin BinOp.add IntKind.u32 (qbin BinOp.mul IntKind.u32 256 sn0) (qwrap IntKind.u32 (qint (qnth (Proofs.YtgklbalcneepoaaGreatDoor.q134 [pd1, (D.int (qbin BinOp.add IntKind.u32 pn0 (qwrap IntKind.u32 sn1)))]) 0))))), (D.int (qbin BinOp.sub IntKind.i64 sn1 1))])
      else
        none
    else
      some (Sum.inr [(D.int 0), (D.int sn0)]) := by
  have h : st89_9  [(D.int pn0), pd1] [(D.int sn0), (D.int sn1)] =
    bif (qcmp BinOp.geq sn1 0) then
      bif (qsome (Proofs.YtgklbalcneepoaaGreatDoor.q134 [pd1, (D.int (qbin BinOp.add IntKind.u32 pn0 (qwrap IntKind.u32 sn1)))])) then
        bif (qeqD (D.int pn0) (D.int pn0)) then
          bif (qeqD pd1 pd1) then
            some (Sum.inl [(D.int (qbin BinOp.add IntKind.u32 (qbin BinOp.mul IntKind.u32 256 sn0) (qwrap IntKind.u32 (qint (qnth (Proofs.YtgklbalcneepoaaGreatDoor.q134 [pd1, (D.int (qbin BinOp.add IntKind.u32 pn0 (qwrap IntKind.u32 sn1)))]) 0))))), (D.int (qbin BinOp.sub IntKind.i64 sn1 1))])
          else
            none
        else
          none
      else
        none
    else
      bif (qeqD (D.int pn0) (D.int pn0)) then
        bif (qeqD pd1 pd1) then
          some (Sum.inr [(D.int 0), (D.int sn0)])
        else
          none
      else
        none := by kernel_rfl
  rw [h]; simp only [qeqD_self, qeqI_self, qeq_len, show qcmp BinOp.eql 0 (qlen (D.list [])) = true from qeq_len [], show ∀ a, qcmp BinOp.eql 1 (qlen (D.list [a])) = true from fun a => qeq_len [a], show ∀ a b, qcmp BinOp.eql 2 (qlen (D.list [a, b])) = true from fun a b => qeq_len [a, b], show ∀ a b c, qcmp BinOp.eql 3 (qlen (D.list [a, b, c])) = true from fun a b c => qeq_len [a, b, c], show ∀ a b c d, qcmp BinOp.eql 4 (qlen (D.list [a, b, c, d])) = true from fun a b c d => qeq_len [a, b, c, d], cond_true]

noncomputable def l89_9 : List D → List D → Option (List D) := veil fun p s => loW (st89_9  p) s

theorem l89_9_eq : l89_9  = fun p s => loW (st89_9  p) s := veil_eq _

noncomputable def tbl89_9 : Tb := Tb.addL tb134 89 9 S89_9.n0 (mkLp S89_9 (l89_9 ))

theorem ok_tbl89_9 : TbOk env (tbl89_9 ) := addLoopQ ok_tb134 89 9 (by kernel_rfl) _ (l89_9_eq )

def S89 : FunS := ⟨[⟨true, (.dat 53)⟩, ⟨true, (.int .u32)⟩, ⟨true, (.int .i64)⟩], [], [⟨true, (.tup [(.int .u32), (.int .i64)])⟩], []⟩

noncomputable def F89 : List D → Option (List D) := liftX env tbl89_9 60 12 89 S89

theorem F89_eq  (sd0 : D) (sn1 : Int) (sn2 : Int) : F89  [sd0, (D.int sn1), (D.int sn2)] =
    bif (qnot (qbool (qfld sd0 0))) then
      some [(D.int 0), (D.int 1)]
    else
      bif (qsome (Proofs.YtgklbalcneepoaaGreatDoor.q132 [(D.int sn2)])) then
        bif (qnot (qbool (qnth (Proofs.YtgklbalcneepoaaGreatDoor.q132 [(D.int sn2)]) 0))) then
          some [(D.int 0), (D.int 2)]
        else
          bif (qsome (Proofs.YtgklbalcneepoaaGreatDoor.q133 [sd0, (D.int sn1)])) then
            bif (qcmp BinOp.lss (qint (qnth (Proofs.YtgklbalcneepoaaGreatDoor.q133 [sd0, (D.int sn1)]) 0)) sn2) then
              some [(D.int 0), (D.int 11)]
            else
              bif (qsome (Proofs.YtgklbalcneepoaaGreatDoor.l89_9 [(D.int sn1), sd0] [(D.int 0), (D.int (qbin BinOp.sub IntKind.i64 sn2 1))])) then
                some [(D.int (qint (qnth (Proofs.YtgklbalcneepoaaGreatDoor.l89_9 [(D.int sn1), sd0] [(D.int 0), (D.int (qbin BinOp.sub IntKind.i64 sn2 1))]) 1))), (D.int 0)]
              else
                none
          else
            none
      else
        none := by kernel_rfl

noncomputable def q89 : List D → Option (List D) := veil (F89 )

theorem q89_eq : q89  = F89  := veil_eq _

noncomputable def tb89 : Tb := Tb.addF tbl89_9 89 S89 (q89 )

theorem ok_tb89 : TbOk env (tb89 ) := addFunF ok_tbl89_9 89 (by kernel_rfl) _ (q89_eq )

end Go.Proofs.YtgklbalcneepoaaGreatDoor

open Go Go.AM
namespace Go.Proofs.YtgklbalcneepoaaGreatDoor
set_option maxRecDepth 100000
set_option linter.unusedSimpArgs false
set_option linter.unusedVariables false
def S52 : FunS := ⟨[⟨true, (.dat 33)⟩, ⟨true, (.dat 49)⟩, ⟨true, (.dat 53)⟩], [], [⟨true, (.tup [(.int .u32), (.int .i64)])⟩], []⟩

noncomputable def tbR52 (Q : List D → Option (List D)) : Tb := Tb.addF tb89 52 S52 Q

theorem ok_tbR52 (Q : List D → Option (List D)) (hQ : SoundF env.P 52 S52 Q) : TbOk env (tbR52 Q) := TbOk.addF ok_tb89 (by kernel_rfl) hQ

noncomputable def Fb52 (Q : List D → Option (List D)) : List D → Option (List D) := liftX env (tbR52 Q ) 60 12 52 S52

theorem Fb52_eq (Q : List D → Option (List D))  (sd0 : D) (sd1 : D) (sd2 : D) : Fb52 Q  [sd0, sd1, sd2] =
    bif (qcmp BinOp.eql (qint (qfld sd0 0)) 1) then
      some [(D.int (qint (qfld sd0 1))), (D.int 0)]
    else
      bif (qcmp BinOp.eql (qint (qfld sd0 0)) 2) then
        bif (qsome (Proofs.YtgklbalcneepoaaGreatDoor.q88 [sd1, (D.int (qint (qfld sd0 2)))])) then
          some [(D.int (qint (qnth (Proofs.YtgklbalcneepoaaGreatDoor.q88 [sd1, (D.int (qint (qfld sd0 2)))]) 0))), (D.int 0)]
        else
          none
      else
        bif (qinb (qfld sd0 4) 0) then
          bif (qsome (Q [(qget (qfld sd0 4) 0), sd1, sd2])) then
            bif (qcmp BinOp.neq (qint (qnth (Q [(qget (qfld sd0 4) 0), sd1, sd2]) 1)) 0) then
              some [(D.int 0), (D.int (qint (qnth (Q [(qget (qfld sd0 4) 0), sd1, sd2]) 1)))]
            else
              bif (qcmp BinOp.eql (qint (qfld sd0 0)) 16) then
                bif (qcmp BinOp.eql (qint (qnth (Q [(qget (qfld sd0 4) 0), sd1, sd2]) 0)) 0) then
                  some [(D.int 1), (D.int 0)]
                else
                  some [(D.int 0), (D.int 0)]
              else
                bif (qcmp BinOp.eql (qint (qfld sd0 0)) 17) then
                  some [(D.int (qbin BinOp.sub IntKind.u32 0 (qint (qnth (Q [(qget (qfld sd0 4) 0), sd1, sd2]) 0)))), (D.int 0)]
                else
                  bif (qcmp BinOp.eql (qint (qfld sd0 0)) 18) then
                    bif (qsome (Proofs.YtgklbalcneepoaaGreatDoor.q89 [sd2, (D.int (qint (qnth (Q [(qget (qfld sd0 4) 0), sd1, sd2]) 0))), (D.int (qint (qfld sd0 3)))])) then
                      some [(D.int (qint (qnth (Proofs.YtgklbalcneepoaaGreatDoor.q89 [sd2, (D.int (qint (qnth (Q [(qget (qfld sd0 4) 0), sd1, sd2]) 0))), (D.int (qint (qfld sd0 3)))]) 0))), (D.int (qint (qnth (Proofs.YtgklbalcneepoaaGreatDoor.q89 [sd2, (D.int (qint (qnth (Q [(qget (qfld sd0 4) 0), sd1, sd2]) 0))), (D.int (qint (qfld sd0 3)))]) 1)))]
                    else
                      none
                  else
                    bif (qcmp BinOp.eql (qint (qfld sd0 0)) 19) then
                      bif (qsome (Proofs.YtgklbalcneepoaaGreatDoor.q90 [(D.int (qint (qnth (Q [(qget (qfld sd0 4) 0), sd1, sd2]) 0))), (D.int (qint (qfld sd0 3)))])) then
                        some [(D.int (qint (qnth (Proofs.YtgklbalcneepoaaGreatDoor.q90 [(D.int (qint (qnth (Q [(qget (qfld sd0 4) 0), sd1, sd2]) 0))), (D.int (qint (qfld sd0 3)))]) 0))), (D.int 0)]
                      else
                        none
                    else
                      bif (qinb (qfld sd0 4) 1) then
                        bif (qsome (Q [(qget (qfld sd0 4) 1), sd1, sd2])) then
                          bif (qcmp BinOp.neq (qint (qnth (Q [(qget (qfld sd0 4) 1), sd1, sd2]) 1)) 0) then
                            some [(D.int 0), (D.int (qint (qnth (Q [(qget (qfld sd0 4) 1), sd1, sd2]) 1)))]
                          else
                            bif (qsome (Proofs.YtgklbalcneepoaaGreatDoor.q91 [(D.int (qint (qfld sd0 0))), (D.int (qint (qnth (Q [(qget (qfld sd0 4) 0), sd1, sd2]) 0))), (D.int (qint (qnth (Q [(qget (qfld sd0 4) 1), sd1, sd2]) 0)))])) then
                              some [(D.int (qint (qnth (Proofs.YtgklbalcneepoaaGreatDoor.q91 [(D.int (qint (qfld sd0 0))), (D.int (qint (qnth (Q [(qget (qfld sd0 4) 0), sd1, sd2]) 0))), (D.int (qint (qnth (Q [(qget (qfld sd0 4) 1), sd1, sd2]) 0)))]) 0))), (D.int (qint (qnth (Proofs.YtgklbalcneepoaaGreatDoor.q91 [(D.int (qint (qfld sd0 0))), (D.int (qint (qnth (Q [(qget (qfld sd0 4) 0), sd1, sd2]) 0))), (D.int (qint (qnth (Q [(qget (qfld sd0 4) 1), sd1, sd2]) 0)))]) 1)))]
                            else
                              none
                        else
                          none
                      else
                        none
          else
            none
        else
          none := by kernel_rfl

noncomputable def F52 : Nat → List D → Option (List D) := levels Fb52

theorem F52_0 (ds : List D) : F52 0 ds = none := rfl

theorem F52_s (n : Nat) : F52 (n + 1) = Fb52 (F52 n) := rfl

noncomputable def q52 : List D → Option (List D) := veil fun ds => F52 (fuelL ds) ds

theorem q52_eq : q52 = fun ds => F52 (fuelL ds) ds := veil_eq _

theorem sound52 : SoundF env.P 52 S52 q52 := recF (fun q => tbR52 q) (fun q hq => ok_tbR52 q hq) q52_eq

noncomputable def tb52 : Tb := Tb.addF tb89 52 S52 q52

theorem ok_tb52 : TbOk env tb52 := TbOk.addF ok_tb89 (by kernel_rfl) sound52

/- function 19  -/

def S19 : FunS := ⟨[⟨true, (.dat 33)⟩, ⟨true, (.dat 49)⟩, ⟨true, (.dat 53)⟩], [], [⟨true, (.tup [(.int .u32), (.int .i64)])⟩], []⟩

noncomputable def F19 : List D → Option (List D) := liftX env tb52 60 12 19 S19

theorem F19_eq  (sd0 : D) (sd1 : D) (sd2 : D) : F19  [sd0, sd1, sd2] =
    bif (qsome (Proofs.YtgklbalcneepoaaGreatDoor.q12 [sd0])) then
      bif (qcmp BinOp.neq (qint (qnth (Proofs.YtgklbalcneepoaaGreatDoor.q12 [sd0]) 0)) 0) then
        some [(D.int 0), (D.int (qint (qnth (Proofs.YtgklbalcneepoaaGreatDoor.q12 [sd0]) 0)))]
      else
        bif (qsome (Proofs.YtgklbalcneepoaaGreatDoor.q52 [sd0, sd1, sd2])) then
          some [(D.int (qint (qnth (Proofs.YtgklbalcneepoaaGreatDoor.q52 [sd0, sd1, sd2]) 0))), (D.int (qint (qnth (Proofs.YtgklbalcneepoaaGreatDoor.q52 [sd0, sd1, sd2]) 1)))]
        else
          none
    else
      none := by kernel_rfl

noncomputable def q19 : List D → Option (List D) := veil (F19 )

theorem q19_eq : q19  = F19  := veil_eq _

noncomputable def tb19 : Tb := Tb.addF tb52 19 S19 (q19 )

theorem ok_tb19 : TbOk env (tb19 ) := addFunF ok_tb52 19 (by kernel_rfl) _ (q19_eq )

end Go.Proofs.YtgklbalcneepoaaGreatDoor

namespace Go.Proofs.YtgklbalcneepoaaGreatDoor
open Go Go.AM

def S113 : FunS := ⟨[⟨true, (.rows 33)⟩], [], [⟨true, (.osl 0 33)⟩], [(.lst true 33)]⟩

theorem run113n (c : Nat) : bodyK (envF env tb19 113) (runTb env tb19 60 12) 60 113 [.sc (.slice none 0 c)] (heapF S113 [] []) (retF S113 []) = some [.list []] := by
  have h : bodyK (envF env tb19 113) (runTb env tb19 60 12) 60 113 [.sc (.slice none 0 c)] (heapF S113 [] []) (retF S113 []) = bif qcmp BinOp.eql 0 (qlen (D.list [])) then some [.list []] else none := by kernel_rfl
  rw [h, show qcmp BinOp.eql 0 (qlen (D.list [])) = true from qeq_len []]; rfl
theorem run113z (d : D) : bodyK (envF env tb19 113) (runTb env tb19 60 12) 60 113 [.rowz 33 d] (heapF S113 [] []) (retF S113 []) =
  bif qmem (qlen (qapp (D.list []) d)) 56 then (bif (qcmp BinOp.eql (qlen (qapp (D.list []) d)) (qlen (qapp (D.list []) d))) then some [qapp (D.list []) d] else none) else none := by kernel_rfl

noncomputable def F113 (ds : List D) : Option (List D) := bif qmem (qlen (qapp (D.list []) (ds.headD .other))) 56 then some [qapp (D.list []) (ds.headD .other)] else none

noncomputable def q113 : List D → Option (List D) := veil F113
theorem q113_eq : q113 = F113 := veil_eq _

theorem sound113 : SoundF env.P 113 S113 q113 := by
  intro p s r hp hq lo w0 ρ E w vs inv ra
  obtain rfl : p = [] := List.length_eq_zero_iff.1 hp
  have ha : argF S113 [] s = [.rows 33 (s.headD .other)] := by
    cases s <;> rfl
  have hh : heapF S113 [] s = heapF S113 [] [] := rfl
  rw [q113_eq] at hq
  unfold F113 at hq
  simp only [List.nil_append] at hq
  rw [ha] at ra
  generalize hd : s.headD .other = d at *
  cases hm : qmem (qlen (qapp (D.list []) d)) 56 with
  | false => rw [hm] at hq; cases hq
  | true =>
    rw [hm] at hq
    simp only [cond_true, Option.some.injEq] at hq
    subst hq
    rw [hh] at inv
    generalize hvs : vs.toList = vl at ra
    obtain ⟨v, vl', rfl, rv, hn⟩ : ∃ v vs', vl = v :: vs' ∧ Rep ρ E w (AV.rows 33 d) v ∧ vs' = [] := by simpa only [RepL] using ra
    · subst hn
      simp only [Rep] at rv
      obtain ⟨a, cap, rfl, hc, hx⟩ := id rv
      cases a with
      | none =>
        have he : d.toList = [] := by
          rcases hx with h | ⟨_, _, h, _⟩
          · exact h
          · cases h
        have he' : qapp (D.list []) d = .list [] := by rw [qapp_eq]; unfold D.app; rw [he]; rfl
        rw [he']
        refine lift_ok (av := [.sc (.slice none 0 cap)]) envOk ok_tb19 60 12 (run113n cap) rfl lo w0 ρ E w vs inv ?_
        rw [hvs, he]
        simp [RepL, Rep]
      | some a =>
        refine lift_ok (av := [.rowz 33 d]) envOk ok_tb19 60 12 (p := []) (r := [qapp (D.list []) d]) (S := S113) (by rw [run113z, hm, qeqI_self]; rfl) rfl lo w0 ρ E w vs inv ?_
        rw [hvs]
        simp only [RepL]
        exact ⟨_, _, rfl, by simp only [Rep]; exact ⟨rv, _, _, _, rfl⟩, rfl⟩

noncomputable def tb113 : Tb := Tb.addF tb19 113 S113 q113
theorem ok_tb113 : TbOk env tb113 := TbOk.addF ok_tb19 (by kernel_rfl) sound113

end Go.Proofs.YtgklbalcneepoaaGreatDoor

open Go Go.AM
namespace Go.Proofs.YtgklbalcneepoaaGreatDoor
set_option maxRecDepth 100000
set_option linter.unusedSimpArgs false
set_option linter.unusedVariables false
def S67 : FunS := ⟨[⟨true, (.dat 33)⟩], [], [⟨true, (.agg [(.int .i64), (.int .u32), (.int .i64), (.int .i64), (.rows 33)])⟩], []⟩

noncomputable def tbR67 (Q : List D → Option (List D)) : Tb := Tb.addF tb113 67 S67 Q

theorem ok_tbR67 (Q : List D → Option (List D)) (hQ : SoundF env.P 67 S67 Q) : TbOk env (tbR67 Q) := TbOk.addF ok_tb113 (by kernel_rfl) hQ

def S67_3 : LoopS := ⟨0, [⟨false, .any⟩, ⟨false, (.ptr 0 0)⟩, ⟨false, (.ptr 2 0)⟩, ⟨false, .any⟩, ⟨false, .any⟩, ⟨false, .any⟩, ⟨false, .any⟩, ⟨false, .any⟩, ⟨false, .any⟩, ⟨false, .any⟩, ⟨false, (.int .i64)⟩, ⟨true, (.int .i64)⟩, ⟨false, .any⟩, ⟨false, .any⟩, ⟨false, .any⟩, ⟨false, .any⟩, ⟨false, .any⟩, ⟨false, .any⟩, ⟨false, .any⟩, ⟨false, .any⟩, ⟨false, .any⟩, ⟨false, .any⟩, ⟨false, .any⟩, ⟨false, .any⟩, ⟨false, .any⟩, ⟨false, .any⟩], [(.cells [⟨false, (.lit (.int .i64 0))⟩, ⟨false, (.lit (.int .u32 0))⟩, ⟨false, (.lit (.int .i64 0))⟩, ⟨false, (.lit (.int .i64 0))⟩, ⟨false, (.lit (.slice none 0 0))⟩]), (.lst true 33), (.cells [⟨false, (.int .i64)⟩, ⟨false, (.int .u32)⟩, ⟨false, (.int .i64)⟩, ⟨false, (.int .i64)⟩, ⟨false, (.osl 1 33)⟩])], [⟨0, 0, [⟨true, .any⟩, ⟨true, (.ptr 0 0)⟩, ⟨true, (.ptr 2 0)⟩, ⟨true, .any⟩, ⟨true, .any⟩, ⟨true, .any⟩, ⟨true, .any⟩, ⟨true, .any⟩, ⟨true, .any⟩, ⟨true, .any⟩, ⟨false, (.int .i64)⟩, ⟨true, .any⟩, ⟨true, .any⟩, ⟨true, .any⟩, ⟨true, .any⟩, ⟨true, .any⟩, ⟨true, .any⟩, ⟨true, .any⟩, ⟨true, .any⟩, ⟨true, .any⟩, ⟨true, .any⟩, ⟨true, .any⟩, ⟨true, .any⟩, ⟨true, .any⟩, ⟨true, .any⟩, ⟨true, .any⟩], [(.cells [⟨true, (.lit (.int .i64 0))⟩, ⟨true, (.lit (.int .u32 0))⟩, ⟨true, (.lit (.int .i64 0))⟩, ⟨true, (.lit (.int .i64 0))⟩, ⟨true, (.lit (.slice none 0 0))⟩]), (.lst true 33), (.cells [⟨false, (.int .i64)⟩, ⟨false, (.int .u32)⟩, ⟨false, (.int .i64)⟩, ⟨false, (.int .i64)⟩, ⟨true, (.osl 1 33)⟩])]⟩]⟩

noncomputable def st67_3 (Q : List D → Option (List D)) (p s : List D) : Option (Sum (List D) (List D)) := stepQX env (tbR67 Q ) 60 12 67 (loopC 67 3) S67_3 p s

theorem st67_3_eq (Q : List D → Option (List D)) (pn0 : Int) (pn1 : Int) (pn2 : Int) (pn3 : Int) (pn4 : Int) (sn0 : Int) (sd1 : D) : st67_3 Q  [(D.int pn0), (D.int pn1), (D.int pn2), (D.int pn3), (D.int pn4)] [(D.int sn0), sd1] =
    bif (qcmp BinOp.lss sn0 pn0) then
      bif (qcmp BinOp.leq 0 sn0) then
        bif (qcmp BinOp.lss sn0 (qlen sd1)) then
          bif (qinb sd1 sn0) then
            bif (qsome (Q [(qget sd1 sn0)])) then
              bif (qcmp BinOp.leq 0 sn0) then
                bif (qcmp BinOp.lss sn0 (qlen sd1)) then
                  bif (qinb sd1 sn0) then
                    bif (qcmp BinOp.eql (qlen sd1) (qlen (qset sd1 sn0 (D.agg [(D.int (qint (qnth (Q [(qget sd1 sn0)]) 0))), (D.int (qint (qnth (Q [(qget sd1 sn0)]) 1))), (D.int (qint (qnth (Q [(qget sd1 sn0)]) 2))), (D.int (qint (qnth (Q [(qget sd1 sn0)]) 3))), (qnth (Q [(qget sd1 sn0)]) 4)])))) then
                      some (Sum.inl [(D.int (qbin BinOp.add IntKind.i64 sn0 1)), (qset sd1 sn0 (D.agg [(D.int (qint (qnth (Q [(qget sd1 sn0)]) 0))), (D.int (qint (qnth (Q [(qget sd1 sn0)]) 1))), (D.int (qint (qnth (Q [(qget sd1 sn0)]) 2))), (D.int (qint (qnth (Q [(qget sd1 sn0)]) 3))), (qnth (Q [(qget sd1 sn0)]) 4)]))])
                    else
                      none
                  else
                    none
                else
                  none
              else
                none
            else
              none
          else
            none
        else
          none
      else
        none
    else
      some (Sum.inr [(D.int 0), sd1]) := by
  have h : st67_3 Q  [(D.int pn0), (D.int pn1), (D.int pn2), (D.int pn3), (D.int pn4)] [(D.int sn0), sd1] =
    bif (qcmp BinOp.lss sn0 pn0) then
      bif (qcmp BinOp.leq 0 sn0) then
        bif (qcmp BinOp.lss sn0 (qlen sd1)) then
          bif (qinb sd1 sn0) then
            bif (qsome (Q [(qget sd1 sn0)])) then
              bif (qcmp BinOp.leq 0 sn0) then
                bif (qcmp BinOp.lss sn0 (qlen sd1)) then
                  bif (qinb sd1 sn0) then
                    bif (qcmp BinOp.eql (qlen sd1) (qlen (qset sd1 sn0 (D.agg [(D.int (qint (qnth (Q [(qget sd1 sn0)]) 0))), (D.int (qint (qnth (Q [(qget sd1 sn0)]) 1))), (D.int (qint (qnth (Q [(qget sd1 sn0)]) 2))), (D.int (qint (qnth (Q [(qget sd1 sn0)]) 3))), (qnth (Q [(qget sd1 sn0)]) 4)])))) then
                      bif (qeqD (D.int pn0) (D.int pn0)) then
                        bif (qeqD (D.int pn1) (D.int pn1)) then
                          bif (qeqD (D.int pn2) (D.int pn2)) then
                            bif (qeqD (D.int pn3) (D.int pn3)) then
                              bif (qeqD (D.int pn4) (D.int pn4)) then
                                some (Sum.inl [(D.int (qbin BinOp.add IntKind.i64 sn0 1)), (qset sd1 sn0 (D.agg [(D.int (qint (qnth (Q [(qget sd1 sn0)]) 0))), (D.int (qint (qnth (Q [(qget sd1 sn0)]) 1))), (D.int (qint (qnth (Q [(qget sd1 sn0)]) 2))), (D.int (qint (qnth (Q [(qget sd1 sn0)]) 3))), (qnth (Q [(qget sd1 sn0)]) 4)]))])
                              else
                                none
                            else
                              none
                          else
                            none
                        else
                          none
                      else
                        none
                    else
                      none
                  else
                    none
                else
                  none
              else
                none
            else
              none
          else
            none
        else
          none
      else
        none
    else
      bif (qcmp BinOp.eql (qlen sd1) (qlen sd1)) then
        bif (qeqD (D.int pn0) (D.int pn0)) then
          bif (qeqD (D.int pn1) (D.int pn1)) then
            bif (qeqD (D.int pn2) (D.int pn2)) then
              bif (qeqD (D.int pn3) (D.int pn3)) then
                bif (qeqD (D.int pn4) (D.int pn4)) then
                  some (Sum.inr [(D.int 0), sd1])
                else
                  none
              else
                none
            else
              none
          else
            none
        else
          none
      else
        none := by kernel_rfl
  rw [h]; simp only [qeqD_self, qeqI_self, qeq_len, show qcmp BinOp.eql 0 (qlen (D.list [])) = true from qeq_len [], show ∀ a, qcmp BinOp.eql 1 (qlen (D.list [a])) = true from fun a => qeq_len [a], show ∀ a b, qcmp BinOp.eql 2 (qlen (D.list [a, b])) = true from fun a b => qeq_len [a, b], show ∀ a b c, qcmp BinOp.eql 3 (qlen (D.list [a, b, c])) = true from fun a b c => qeq_len [a, b, c], show ∀ a b c d, qcmp BinOp.eql 4 (qlen (D.list [a, b, c, d])) = true from fun a b c d => qeq_len [a, b, c, d], cond_true]

noncomputable def l67_3 (Q : List D → Option (List D)) : List D → List D → Option (List D) := veil fun p s => loW (st67_3 Q  p) s

theorem l67_3_eq (Q : List D → Option (List D)) : l67_3 Q  = fun p s => loW (st67_3 Q  p) s := veil_eq _

noncomputable def tbl67_3 (Q : List D → Option (List D)) : Tb := Tb.addL (tbR67 Q ) 67 3 S67_3.n0 (mkLp S67_3 (l67_3 Q ))

theorem ok_tbl67_3 (Q : List D → Option (List D)) (hQ : SoundF env.P 67 S67 Q) : TbOk env (tbl67_3 Q ) := addLoopQ (ok_tbR67 Q hQ) 67 3 (by kernel_rfl) _ (l67_3_eq Q )

noncomputable def Fb67 (Q : List D → Option (List D)) : List D → Option (List D) := liftX env (tbl67_3 Q ) 60 12 67 S67

theorem Fb67_eq (Q : List D → Option (List D))  (sd0 : D) : Fb67 Q  [sd0] =
    bif (qsome (Proofs.YtgklbalcneepoaaGreatDoor.q113 [(qfld sd0 4)])) then
      bif (qsome (Proofs.YtgklbalcneepoaaGreatDoor.l67_3 Q [(D.int (qlen (qnth (Proofs.YtgklbalcneepoaaGreatDoor.q113 [(qfld sd0 4)]) 0))), (D.int (qint (qfld sd0 0))), (D.int (qint (qfld sd0 1))), (D.int (qint (qfld sd0 2))), (D.int (qint (qfld sd0 3)))] [(D.int 0), (qnth (Proofs.YtgklbalcneepoaaGreatDoor.q113 [(qfld sd0 4)]) 0)])) then
        some [(D.int (qint (qfld sd0 0))), (D.int (qint (qfld sd0 1))), (D.int (qint (qfld sd0 2))), (D.int (qint (qfld sd0 3))), (qnth (Proofs.YtgklbalcneepoaaGreatDoor.l67_3 Q [(D.int (qlen (qnth (Proofs.YtgklbalcneepoaaGreatDoor.q113 [(qfld sd0 4)]) 0))), (D.int (qint (qfld sd0 0))), (D.int (qint (qfld sd0 1))), (D.int (qint (qfld sd0 2))), (D.int (qint (qfld sd0 3)))] [(D.int 0), (qnth (Proofs.YtgklbalcneepoaaGreatDoor.q113 [(qfld sd0 4)]) 0)]) 1)]
      else
        none
    else
      none := by
  have h : Fb67 Q  [sd0] =
    bif (qsome (Proofs.YtgklbalcneepoaaGreatDoor.q113 [(qfld sd0 4)])) then
      bif (qcmp BinOp.eql (qlen (qnth (Proofs.YtgklbalcneepoaaGreatDoor.q113 [(qfld sd0 4)]) 0)) (qlen (qnth (Proofs.YtgklbalcneepoaaGreatDoor.q113 [(qfld sd0 4)]) 0))) then
        bif (qsome (Proofs.YtgklbalcneepoaaGreatDoor.l67_3 Q [(D.int (qlen (qnth (Proofs.YtgklbalcneepoaaGreatDoor.q113 [(qfld sd0 4)]) 0))), (D.int (qint (qfld sd0 0))), (D.int (qint (qfld sd0 1))), (D.int (qint (qfld sd0 2))), (D.int (qint (qfld sd0 3)))] [(D.int 0), (qnth (Proofs.YtgklbalcneepoaaGreatDoor.q113 [(qfld sd0 4)]) 0)])) then
          bif (qcmp BinOp.eql (qlen (qnth (Proofs.YtgklbalcneepoaaGreatDoor.l67_3 Q [(D.int (qlen (qnth (Proofs.YtgklbalcneepoaaGreatDoor.q113 [(qfld sd0 4)]) 0))), (D.int (qint (qfld sd0 0))), (D.int (qint (qfld sd0 1))), (D.int (qint (qfld sd0 2))), (D.int (qint (qfld sd0 3)))] [(D.int 0), (qnth (Proofs.YtgklbalcneepoaaGreatDoor.q113 [(qfld sd0 4)]) 0)]) 1)) (qlen (qnth (Proofs.YtgklbalcneepoaaGreatDoor.l67_3 Q [(D.int (qlen (qnth (Proofs.YtgklbalcneepoaaGreatDoor.q113 [(qfld sd0 4)]) 0))), (D.int (qint (qfld sd0 0))), (D.int (qint (qfld sd0 1))), (D.int (qint (qfld sd0 2))), (D.int (qint (qfld sd0 3)))] [(D.int 0), (qnth (Proofs.YtgklbalcneepoaaGreatDoor.q113 [(qfld sd0 4)]) 0)]) 1))) then
            some [(D.int (qint (qfld sd0 0))), (D.int (qint (qfld sd0 1))), (D.int (qint (qfld sd0 2))), (D.int (qint (qfld sd0 3))), (qnth (Proofs.YtgklbalcneepoaaGreatDoor.l67_3 Q [(D.int (qlen (qnth (Proofs.YtgklbalcneepoaaGreatDoor.q113 [(qfld sd0 4)]) 0))), (D.int (qint (qfld sd0 0))), (D.int (qint (qfld sd0 1))), (D.int (qint (qfld sd0 2))), (D.int (qint (qfld sd0 3)))] [(D.int 0), (qnth (Proofs.YtgklbalcneepoaaGreatDoor.q113 [(qfld sd0 4)]) 0)]) 1)]
          else
            none
        else
          none
      else
        none
    else
      none := by kernel_rfl
  rw [h]; simp only [qeqD_self, qeqI_self, qeq_len, show qcmp BinOp.eql 0 (qlen (D.list [])) = true from qeq_len [], show ∀ a, qcmp BinOp.eql 1 (qlen (D.list [a])) = true from fun a => qeq_len [a], show ∀ a b, qcmp BinOp.eql 2 (qlen (D.list [a, b])) = true from fun a b => qeq_len [a, b], show ∀ a b c, qcmp BinOp.eql 3 (qlen (D.list [a, b, c])) = true from fun a b c => qeq_len [a, b, c], show ∀ a b c d, qcmp BinOp.eql 4 (qlen (D.list [a, b, c, d])) = true from fun a b c d => qeq_len [a, b, c, d], cond_true]

noncomputable def F67 : Nat → List D → Option (List D) := levels Fb67

theorem F67_0 (ds : List D) : F67 0 ds = none := rfl

theorem F67_s (n : Nat) : F67 (n + 1) = Fb67 (F67 n) := rfl

noncomputable def q67 : List D → Option (List D) := veil fun ds => F67 (fuelL ds) ds

theorem q67_eq : q67 = fun ds => F67 (fuelL ds) ds := veil_eq _

theorem sound67 : SoundF env.P 67 S67 q67 := recF (fun q => tbl67_3 q) (fun q hq => ok_tbl67_3 q hq) q67_eq

noncomputable def tb67 : Tb := Tb.addF tb113 67 S67 q67

theorem ok_tb67 : TbOk env tb67 := TbOk.addF ok_tb113 (by kernel_rfl) sound67

end Go.Proofs.YtgklbalcneepoaaGreatDoor

open Go Go.AM
namespace Go.Proofs.YtgklbalcneepoaaGreatDoor
set_option maxRecDepth 100000
set_option linter.unusedSimpArgs false
set_option linter.unusedVariables false
/- function 31  -/

def S31 : FunS := ⟨[⟨true, (.int .i64)⟩, ⟨true, (.dat 33)⟩, ⟨true, (.dat 33)⟩], [], [⟨true, (.agg [(.int .i64), (.int .u32), (.int .i64), (.int .i64), (.rows 33)])⟩], []⟩

noncomputable def F31 : List D → Option (List D) := liftX env tb67 60 12 31 S31

theorem F31_eq  (sn0 : Int) (sd1 : D) (sd2 : D) : F31  [(D.int sn0), sd1, sd2] =
    bif (qsome (Proofs.YtgklbalcneepoaaGreatDoor.q67 [sd1])) then
      bif (qsome (Proofs.YtgklbalcneepoaaGreatDoor.q67 [sd2])) then
        some [(D.int sn0), (D.int 0), (D.int 0), (D.int 0), (D.list [(D.agg [(D.int (qint (qnth (Proofs.YtgklbalcneepoaaGreatDoor.q67 [sd1]) 0))), (D.int (qint (qnth (Proofs.YtgklbalcneepoaaGreatDoor.q67 [sd1]) 1))), (D.int (qint (qnth (Proofs.YtgklbalcneepoaaGreatDoor.q67 [sd1]) 2))), (D.int (qint (qnth (Proofs.YtgklbalcneepoaaGreatDoor.q67 [sd1]) 3))), (qnth (Proofs.YtgklbalcneepoaaGreatDoor.q67 [sd1]) 4)]), (D.agg [(D.int (qint (qnth (Proofs.YtgklbalcneepoaaGreatDoor.q67 [sd2]) 0))), (D.int (qint (qnth (Proofs.YtgklbalcneepoaaGreatDoor.q67 [sd2]) 1))), (D.int (qint (qnth (Proofs.YtgklbalcneepoaaGreatDoor.q67 [sd2]) 2))), (D.int (qint (qnth (Proofs.YtgklbalcneepoaaGreatDoor.q67 [sd2]) 3))), (qnth (Proofs.YtgklbalcneepoaaGreatDoor.q67 [sd2]) 4)])])]
      else
        none
    else
      none := by kernel_rfl

noncomputable def q31 : List D → Option (List D) := veil (F31 )

theorem q31_eq : q31  = F31  := veil_eq _

noncomputable def tb31 : Tb := Tb.addF tb67 31 S31 (q31 )

theorem ok_tb31 : TbOk env (tb31 ) := addFunF ok_tb67 31 (by kernel_rfl) _ (q31_eq )

/- function 46  -/

def S46 : FunS := ⟨[⟨true, (.dat 33)⟩], [], [⟨true, (.agg [(.int .i64), (.int .u32), (.int .i64), (.int .i64), (.rows 33)])⟩], []⟩

noncomputable def F46 : List D → Option (List D) := liftX env tb31 60 12 46 S46

theorem F46_eq  (sd0 : D) : F46  [sd0] =
    bif (qsome (Proofs.YtgklbalcneepoaaGreatDoor.q31 [(D.int 14), sd0, (D.agg [(D.int 1), (D.int 0), (D.int 0), (D.int 0), (D.list [])])])) then
      some [(D.int (qint (qnth (Proofs.YtgklbalcneepoaaGreatDoor.q31 [(D.int 14), sd0, (D.agg [(D.int 1), (D.int 0), (D.int 0), (D.int 0), (D.list [])])]) 0))), (D.int (qint (qnth (Proofs.YtgklbalcneepoaaGreatDoor.q31 [(D.int 14), sd0, (D.agg [(D.int 1), (D.int 0), (D.int 0), (D.int 0), (D.list [])])]) 1))), (D.int (qint (qnth (Proofs.YtgklbalcneepoaaGreatDoor.q31 [(D.int 14), sd0, (D.agg [(D.int 1), (D.int 0), (D.int 0), (D.int 0), (D.list [])])]) 2))), (D.int (qint (qnth (Proofs.YtgklbalcneepoaaGreatDoor.q31 [(D.int 14), sd0, (D.agg [(D.int 1), (D.int 0), (D.int 0), (D.int 0), (D.list [])])]) 3))), (qnth (Proofs.YtgklbalcneepoaaGreatDoor.q31 [(D.int 14), sd0, (D.agg [(D.int 1), (D.int 0), (D.int 0), (D.int 0), (D.list [])])]) 4)]
    else
      none := by kernel_rfl

noncomputable def q46 : List D → Option (List D) := veil (F46 )

theorem q46_eq : q46  = F46  := veil_eq _

noncomputable def tb46 : Tb := Tb.addF tb31 46 S46 (q46 )

theorem ok_tb46 : TbOk env (tb46 ) := addFunF ok_tb31 46 (by kernel_rfl) _ (q46_eq )

/- function 18  -/

def S18 : FunS := ⟨[⟨true, .bool⟩], [], [⟨true, (.int .u32)⟩], []⟩

noncomputable def F18 : List D → Option (List D) := liftX env tb46 60 12 18 S18

theorem F18_eq  (sb0 : Bool) : F18  [(D.bool sb0)] =
    bif sb0 then
      some [(D.int 1)]
    else
      some [(D.int 0)] := by kernel_rfl

noncomputable def q18 : List D → Option (List D) := veil (F18 )

theorem q18_eq : q18  = F18  := veil_eq _

noncomputable def tb18 : Tb := Tb.addF tb46 18 S18 (q18 )

theorem ok_tb18 : TbOk env (tb18 ) := addFunF ok_tb46 18 (by kernel_rfl) _ (q18_eq )

/- function 13  -/

def S13 : FunS := ⟨[⟨true, (.int .i64)⟩, ⟨true, (.dat 33)⟩, ⟨true, (.dat 33)⟩], [], [⟨true, (.rows 33)⟩], []⟩

noncomputable def F13 : List D → Option (List D) := liftX env tb18 60 12 13 S13

noncomputable def F13_a0 (sn0 : Int) (sd1 : D) (sd2 : D) : D := (D.agg [(D.int 1), (D.int 0), (D.int 0), (D.int 0), (D.list [])])

noncomputable def F13_a1 (sn0 : Int) (sd1 : D) (sd2 : D) : D := (D.agg [(D.int (qint (qnth (Proofs.YtgklbalcneepoaaGreatDoor.q31 [(D.int (qint (qget (D.list [(D.int 3), (D.int 4), (D.int 6), (D.int 7), (D.int 8), (D.int 5), (D.int 9), (D.int 10), (D.int 11)]) (qbin BinOp.sub IntKind.i64 sn0 6)))), sd1, sd2]) 0))), (D.int (qint (qnth (Proofs.YtgklbalcneepoaaGreatDoor.q31 [(D.int (qint (qget (D.list [(D.int 3), (D.int 4), (D.int 6), (D.int 7), (D.int 8), (D.int 5), (D.int 9), (D.int 10), (D.int 11)]) (qbin BinOp.sub IntKind.i64 sn0 6)))), sd1, sd2]) 1))), (D.int (qint (qnth (Proofs.YtgklbalcneepoaaGreatDoor.q31 [(D.int (qint (qget (D.list [(D.int 3), (D.int 4), (D.int 6), (D.int 7), (D.int 8), (D.int 5), (D.int 9), (D.int 10), (D.int 11)]) (qbin BinOp.sub IntKind.i64 sn0 6)))), sd1, sd2]) 2))), (D.int (qint (qnth (Proofs.YtgklbalcneepoaaGreatDoor.q31 [(D.int (qint (qget (D.list [(D.int 3), (D.int 4), (D.int 6), (D.int 7), (D.int 8), (D.int 5), (D.int 9), (D.int 10), (D.int 11)]) (qbin BinOp.sub IntKind.i64 sn0 6)))), sd1, sd2]) 3))), (qnth (Proofs.YtgklbalcneepoaaGreatDoor.q31 [(D.int (qint (qget (D.list [(D.int 3), (D.int 4), (D.int 6), (D.int 7), (D.int 8), (D.int 5), (D.int 9), (D.int 10), (D.int 11)]) (qbin BinOp.sub IntKind.i64 sn0 6)))), sd1, sd2]) 4)])

noncomputable def F13_a2 (sn0 : Int) (sd1 : D) (sd2 : D) : D := (D.agg [(D.int (qint (qnth (Proofs.YtgklbalcneepoaaGreatDoor.q46 [(F13_a1 sn0 sd1 sd2)]) 0))), (D.int (qint (qnth (Proofs.YtgklbalcneepoaaGreatDoor.q46 [(F13_a1 sn0 sd1 sd2)]) 1))), (D.int (qint (qnth (Proofs.YtgklbalcneepoaaGreatDoor.q46 [(F13_a1 sn0 sd1 sd2)]) 2))), (D.int (qint (qnth (Proofs.YtgklbalcneepoaaGreatDoor.q46 [(F13_a1 sn0 sd1 sd2)]) 3))), (qnth (Proofs.YtgklbalcneepoaaGreatDoor.q46 [(F13_a1 sn0 sd1 sd2)]) 4)])

noncomputable def F13_a3 (sn0 : Int) (sd1 : D) (sd2 : D) : D := (D.agg [(D.int (qint (qnth (Proofs.YtgklbalcneepoaaGreatDoor.q31 [(D.int 12), (F13_a1 sn0 sd1 sd2), (F13_a0 sn0 sd1 sd2)]) 0))), (D.int (qint (qnth (Proofs.YtgklbalcneepoaaGreatDoor.q31 [(D.int 12), (F13_a1 sn0 sd1 sd2), (F13_a0 sn0 sd1 sd2)]) 1))), (D.int (qint (qnth (Proofs.YtgklbalcneepoaaGreatDoor.q31 [(D.int 12), (F13_a1 sn0 sd1 sd2), (F13_a0 sn0 sd1 sd2)]) 2))), (D.int (qint (qnth (Proofs.YtgklbalcneepoaaGreatDoor.q31 [(D.int 12), (F13_a1 sn0 sd1 sd2), (F13_a0 sn0 sd1 sd2)]) 3))), (qnth (Proofs.YtgklbalcneepoaaGreatDoor.q31 [(D.int 12), (F13_a1 sn0 sd1 sd2), (F13_a0 sn0 sd1 sd2)]) 4)])

noncomputable def F13_a4 (sn0 : Int) (sd1 : D) (sd2 : D) : D := (D.agg [(D.int (qint (qnth (Proofs.YtgklbalcneepoaaGreatDoor.q31 [(D.int 4), sd1, sd2]) 0))), (D.int (qint (qnth (Proofs.YtgklbalcneepoaaGreatDoor.q31 [(D.int 4), sd1, sd2]) 1))), (D.int (qint (qnth (Proofs.YtgklbalcneepoaaGreatDoor.q31 [(D.int 4), sd1, sd2]) 2))), (D.int (qint (qnth (Proofs.YtgklbalcneepoaaGreatDoor.q31 [(D.int 4), sd1, sd2]) 3))), (qnth (Proofs.YtgklbalcneepoaaGreatDoor.q31 [(D.int 4), sd1, sd2]) 4)])

noncomputable def F13_a5 (sn0 : Int) (sd1 : D) (sd2 : D) : D := (D.agg [(D.int (qint (qnth (Proofs.YtgklbalcneepoaaGreatDoor.q46 [(F13_a4 sn0 sd1 sd2)]) 0))), (D.int (qint (qnth (Proofs.YtgklbalcneepoaaGreatDoor.q46 [(F13_a4 sn0 sd1 sd2)]) 1))), (D.int (qint (qnth (Proofs.YtgklbalcneepoaaGreatDoor.q46 [(F13_a4 sn0 sd1 sd2)]) 2))), (D.int (qint (qnth (Proofs.YtgklbalcneepoaaGreatDoor.q46 [(F13_a4 sn0 sd1 sd2)]) 3))), (qnth (Proofs.YtgklbalcneepoaaGreatDoor.q46 [(F13_a4 sn0 sd1 sd2)]) 4)])

noncomputable def F13_a6 (sn0 : Int) (sd1 : D) (sd2 : D) : D := (D.agg [(D.int (qint (qnth (Proofs.YtgklbalcneepoaaGreatDoor.q31 [(D.int 14), sd1, sd2]) 0))), (D.int (qint (qnth (Proofs.YtgklbalcneepoaaGreatDoor.q31 [(D.int 14), sd1, sd2]) 1))), (D.int (qint (qnth (Proofs.YtgklbalcneepoaaGreatDoor.q31 [(D.int 14), sd1, sd2]) 2))), (D.int (qint (qnth (Proofs.YtgklbalcneepoaaGreatDoor.q31 [(D.int 14), sd1, sd2]) 3))), (qnth (Proofs.YtgklbalcneepoaaGreatDoor.q31 [(D.int 14), sd1, sd2]) 4)])

noncomputable def F13_a7 (sn0 : Int) (sd1 : D) (sd2 : D) : D := (D.agg [(D.int (qint (qnth (Proofs.YtgklbalcneepoaaGreatDoor.q31 [(D.int 8), (F13_a6 sn0 sd1 sd2), (F13_a5 sn0 sd1 sd2)]) 0))), (D.int (qint (qnth (Proofs.YtgklbalcneepoaaGreatDoor.q31 [(D.int 8), (F13_a6 sn0 sd1 sd2), (F13_a5 sn0 sd1 sd2)]) 1))), (D.int (qint (qnth (Proofs.YtgklbalcneepoaaGreatDoor.q31 [(D.int 8), (F13_a6 sn0 sd1 sd2), (F13_a5 sn0 sd1 sd2)]) 2))), (D.int (qint (qnth (Proofs.YtgklbalcneepoaaGreatDoor.q31 [(D.int 8), (F13_a6 sn0 sd1 sd2), (F13_a5 sn0 sd1 sd2)]) 3))), (qnth (Proofs.YtgklbalcneepoaaGreatDoor.q31 [(D.int 8), (F13_a6 sn0 sd1 sd2), (F13_a5 sn0 sd1 sd2)]) 4)])

noncomputable def F13_a8 (sn0 : Int) (sd1 : D) (sd2 : D) : D := (D.agg [(D.int (qint (qnth (Proofs.YtgklbalcneepoaaGreatDoor.q31 [(D.int 15), sd1, sd2]) 0))), (D.int (qint (qnth (Proofs.YtgklbalcneepoaaGreatDoor.q31 [(D.int 15), sd1, sd2]) 1))), (D.int (qint (qnth (Proofs.YtgklbalcneepoaaGreatDoor.q31 [(D.int 15), sd1, sd2]) 2))), (D.int (qint (qnth (Proofs.YtgklbalcneepoaaGreatDoor.q31 [(D.int 15), sd1, sd2]) 3))), (qnth (Proofs.YtgklbalcneepoaaGreatDoor.q31 [(D.int 15), sd1, sd2]) 4)])

noncomputable def F13_a9 (sn0 : Int) (sd1 : D) (sd2 : D) : D := (D.agg [(D.int (qint (qnth (Proofs.YtgklbalcneepoaaGreatDoor.q31 [(D.int 12), sd1, sd2]) 0))), (D.int (qint (qnth (Proofs.YtgklbalcneepoaaGreatDoor.q31 [(D.int 12), sd1, sd2]) 1))), (D.int (qint (qnth (Proofs.YtgklbalcneepoaaGreatDoor.q31 [(D.int 12), sd1, sd2]) 2))), (D.int (qint (qnth (Proofs.YtgklbalcneepoaaGreatDoor.q31 [(D.int 12), sd1, sd2]) 3))), (qnth (Proofs.YtgklbalcneepoaaGreatDoor.q31 [(D.int 12), sd1, sd2]) 4)])

noncomputable def F13_a10 (sn0 : Int) (sd1 : D) (sd2 : D) : D := (D.agg [(D.int (qint (qnth (Proofs.YtgklbalcneepoaaGreatDoor.q31 [(D.int 3), sd1, sd2]) 0))), (D.int (qint (qnth (Proofs.YtgklbalcneepoaaGreatDoor.q31 [(D.int 3), sd1, sd2]) 1))), (D.int (qint (qnth (Proofs.YtgklbalcneepoaaGreatDoor.q31 [(D.int 3), sd1, sd2]) 2))), (D.int (qint (qnth (Proofs.YtgklbalcneepoaaGreatDoor.q31 [(D.int 3), sd1, sd2]) 3))), (qnth (Proofs.YtgklbalcneepoaaGreatDoor.q31 [(D.int 3), sd1, sd2]) 4)])

noncomputable def F13_a11 (sn0 : Int) (sd1 : D) (sd2 : D) : D := (D.agg [(D.int (qint (qnth (Proofs.YtgklbalcneepoaaGreatDoor.q31 [(D.int 8), sd2, (F13_a10 sn0 sd1 sd2)]) 0))), (D.int (qint (qnth (Proofs.YtgklbalcneepoaaGreatDoor.q31 [(D.int 8), sd2, (F13_a10 sn0 sd1 sd2)]) 1))), (D.int (qint (qnth (Proofs.YtgklbalcneepoaaGreatDoor.q31 [(D.int 8), sd2, (F13_a10 sn0 sd1 sd2)]) 2))), (D.int (qint (qnth (Proofs.YtgklbalcneepoaaGreatDoor.q31 [(D.int 8), sd2, (F13_a10 sn0 sd1 sd2)]) 3))), (qnth (Proofs.YtgklbalcneepoaaGreatDoor.q31 [(D.int 8), sd2, (F13_a10 sn0 sd1 sd2)]) 4)])

noncomputable def F13_a12 (sn0 : Int) (sd1 : D) (sd2 : D) : D := (D.agg [(D.int (qint (qnth (Proofs.YtgklbalcneepoaaGreatDoor.q31 [(D.int 8), sd1, (F13_a10 sn0 sd1 sd2)]) 0))), (D.int (qint (qnth (Proofs.YtgklbalcneepoaaGreatDoor.q31 [(D.int 8), sd1, (F13_a10 sn0 sd1 sd2)]) 1))), (D.int (qint (qnth (Proofs.YtgklbalcneepoaaGreatDoor.q31 [(D.int 8), sd1, (F13_a10 sn0 sd1 sd2)]) 2))), (D.int (qint (qnth (Proofs.YtgklbalcneepoaaGreatDoor.q31 [(D.int 8), sd1, (F13_a10 sn0 sd1 sd2)]) 3))), (qnth (Proofs.YtgklbalcneepoaaGreatDoor.q31 [(D.int 8), sd1, (F13_a10 sn0 sd1 sd2)]) 4)])

noncomputable def F13_a13 (sn0 : Int) (sd1 : D) (sd2 : D) : D := (D.agg [(D.int (qint (qnth (Proofs.YtgklbalcneepoaaGreatDoor.q31 [(D.int 6), (F13_a12 sn0 sd1 sd2), (F13_a11 sn0 sd1 sd2)]) 0))), (D.int (qint (qnth (Proofs.YtgklbalcneepoaaGreatDoor.q31 [(D.int 6), (F13_a12 sn0 sd1 sd2), (F13_a11 sn0 sd1 sd2)]) 1))), (D.int (qint (qnth (Proofs.YtgklbalcneepoaaGreatDoor.q31 [(D.int 6), (F13_a12 sn0 sd1 sd2), (F13_a11 sn0 sd1 sd2)]) 2))), (D.int (qint (qnth (Proofs.YtgklbalcneepoaaGreatDoor.q31 [(D.int 6), (F13_a12 sn0 sd1 sd2), (F13_a11 sn0 sd1 sd2)]) 3))), (qnth (Proofs.YtgklbalcneepoaaGreatDoor.q31 [(D.int 6), (F13_a12 sn0 sd1 sd2), (F13_a11 sn0 sd1 sd2)]) 4)])

noncomputable def F13_a14 (sn0 : Int) (sd1 : D) (sd2 : D) : D := (D.agg [(D.int (qint (qnth (Proofs.YtgklbalcneepoaaGreatDoor.q46 [(F13_a13 sn0 sd1 sd2)]) 0))), (D.int (qint (qnth (Proofs.YtgklbalcneepoaaGreatDoor.q46 [(F13_a13 sn0 sd1 sd2)]) 1))), (D.int (qint (qnth (Proofs.YtgklbalcneepoaaGreatDoor.q46 [(F13_a13 sn0 sd1 sd2)]) 2))), (D.int (qint (qnth (Proofs.YtgklbalcneepoaaGreatDoor.q46 [(F13_a13 sn0 sd1 sd2)]) 3))), (qnth (Proofs.YtgklbalcneepoaaGreatDoor.q46 [(F13_a13 sn0 sd1 sd2)]) 4)])

noncomputable def F13_a15 (sn0 : Int) (sd1 : D) (sd2 : D) : D := (D.agg [(D.int (qint (qnth (Proofs.YtgklbalcneepoaaGreatDoor.q31 [(D.int 15), (F13_a10 sn0 sd1 sd2), sd1]) 0))), (D.int (qint (qnth (Proofs.YtgklbalcneepoaaGreatDoor.q31 [(D.int 15), (F13_a10 sn0 sd1 sd2), sd1]) 1))), (D.int (qint (qnth (Proofs.YtgklbalcneepoaaGreatDoor.q31 [(D.int 15), (F13_a10 sn0 sd1 sd2), sd1]) 2))), (D.int (qint (qnth (Proofs.YtgklbalcneepoaaGreatDoor.q31 [(D.int 15), (F13_a10 sn0 sd1 sd2), sd1]) 3))), (qnth (Proofs.YtgklbalcneepoaaGreatDoor.q31 [(D.int 15), (F13_a10 sn0 sd1 sd2), sd1]) 4)])

noncomputable def F13_a16 (sn0 : Int) (sd1 : D) (sd2 : D) : D := (D.agg [(D.int (qint (qnth (Proofs.YtgklbalcneepoaaGreatDoor.q46 [(F13_a10 sn0 sd1 sd2)]) 0))), (D.int (qint (qnth (Proofs.YtgklbalcneepoaaGreatDoor.q46 [(F13_a10 sn0 sd1 sd2)]) 1))), (D.int (qint (qnth (Proofs.YtgklbalcneepoaaGreatDoor.q46 [(F13_a10 sn0 sd1 sd2)]) 2))), (D.int (qint (qnth (Proofs.YtgklbalcneepoaaGreatDoor.q46 [(F13_a10 sn0 sd1 sd2)]) 3))), (qnth (Proofs.YtgklbalcneepoaaGreatDoor.q46 [(F13_a10 sn0 sd1 sd2)]) 4)])

noncomputable def F13_a17 (sn0 : Int) (sd1 : D) (sd2 : D) : D := (D.agg [(D.int (qint (qnth (Proofs.YtgklbalcneepoaaGreatDoor.q31 [(D.int 12), (F13_a10 sn0 sd1 sd2), (F13_a0 sn0 sd1 sd2)]) 0))), (D.int (qint (qnth (Proofs.YtgklbalcneepoaaGreatDoor.q31 [(D.int 12), (F13_a10 sn0 sd1 sd2), (F13_a0 sn0 sd1 sd2)]) 1))), (D.int (qint (qnth (Proofs.YtgklbalcneepoaaGreatDoor.q31 [(D.int 12), (F13_a10 sn0 sd1 sd2), (F13_a0 sn0 sd1 sd2)]) 2))), (D.int (qint (qnth (Proofs.YtgklbalcneepoaaGreatDoor.q31 [(D.int 12), (F13_a10 sn0 sd1 sd2), (F13_a0 sn0 sd1 sd2)]) 3))), (qnth (Proofs.YtgklbalcneepoaaGreatDoor.q31 [(D.int 12), (F13_a10 sn0 sd1 sd2), (F13_a0 sn0 sd1 sd2)]) 4)])

theorem F13_eq  (sn0 : Int) (sd1 : D) (sd2 : D) : F13  [(D.int sn0), sd1, sd2] =
    bif (qcmp BinOp.eql sn0 6) then
      bif (qsome (Proofs.YtgklbalcneepoaaGreatDoor.q31 [(D.int 3), sd1, sd2])) then
        bif (qsome (Proofs.YtgklbalcneepoaaGreatDoor.q31 [(D.int 8), sd1, (F13_a10 sn0 sd1 sd2)])) then
          bif (qsome (Proofs.YtgklbalcneepoaaGreatDoor.q31 [(D.int 8), sd2, (F13_a10 sn0 sd1 sd2)])) then
            bif (qsome (Proofs.YtgklbalcneepoaaGreatDoor.q31 [(D.int 6), (F13_a12 sn0 sd1 sd2), (F13_a11 sn0 sd1 sd2)])) then
              bif (qsome (Proofs.YtgklbalcneepoaaGreatDoor.q31 [(D.int 12), (F13_a10 sn0 sd1 sd2), (F13_a0 sn0 sd1 sd2)])) then
                bif (qsome (Proofs.YtgklbalcneepoaaGreatDoor.q46 [(F13_a10 sn0 sd1 sd2)])) then
                  bif (qsome (Proofs.YtgklbalcneepoaaGreatDoor.q31 [(D.int 15), (F13_a10 sn0 sd1 sd2), sd1])) then
                    bif (qsome (Proofs.YtgklbalcneepoaaGreatDoor.q46 [(F13_a13 sn0 sd1 sd2)])) then
                      some [(D.list [(F13_a17 sn0 sd1 sd2), (F13_a16 sn0 sd1 sd2), (F13_a15 sn0 sd1 sd2), (F13_a14 sn0 sd1 sd2)])]
                    else
                      none
                  else
                    none
                else
                  none
              else
                none
            else
              none
          else
            none
        else
          none
      else
        none
    else
      bif (qiteB (qcmp BinOp.eql sn0 7) Bool.true (qcmp BinOp.eql sn0 15)) then
        bif (qsome (Proofs.YtgklbalcneepoaaGreatDoor.q31 [(D.int 4), sd1, sd2])) then
          bif (qsome (Proofs.YtgklbalcneepoaaGreatDoor.q46 [(F13_a4 sn0 sd1 sd2)])) then
            bif (qsome (Proofs.YtgklbalcneepoaaGreatDoor.q31 [(D.int 12), sd1, sd2])) then
              bif (qsome (Proofs.YtgklbalcneepoaaGreatDoor.q31 [(D.int 15), sd1, sd2])) then
                bif (qsome (Proofs.YtgklbalcneepoaaGreatDoor.q31 [(D.int 14), sd1, sd2])) then
                  bif (qsome (Proofs.YtgklbalcneepoaaGreatDoor.q31 [(D.int 8), (F13_a6 sn0 sd1 sd2), (F13_a5 sn0 sd1 sd2)])) then
                    some [(D.list [(F13_a9 sn0 sd1 sd2), (F13_a5 sn0 sd1 sd2), (F13_a8 sn0 sd1 sd2), (F13_a7 sn0 sd1 sd2)])]
                  else
                    none
                else
                  none
              else
                none
            else
              none
          else
            none
        else
          none
      else
        bif (qiteB (qcmp BinOp.gtr sn0 7) (qcmp BinOp.leq sn0 14) Bool.false) then
          bif (qinb (D.list [(D.int 3), (D.int 4), (D.int 6), (D.int 7), (D.int 8), (D.int 5), (D.int 9), (D.int 10), (D.int 11)]) (qbin BinOp.sub IntKind.i64 sn0 6)) then
            bif (qsome (Proofs.YtgklbalcneepoaaGreatDoor.q31 [(D.int (qint (qget (D.list [(D.int 3), (D.int 4), (D.int 6), (D.int 7), (D.int 8), (D.int 5), (D.int 9), (D.int 10), (D.int 11)]) (qbin BinOp.sub IntKind.i64 sn0 6)))), sd1, sd2])) then
              bif (qsome (Proofs.YtgklbalcneepoaaGreatDoor.q31 [(D.int 12), (F13_a1 sn0 sd1 sd2), (F13_a0 sn0 sd1 sd2)])) then
                bif (qsome (Proofs.YtgklbalcneepoaaGreatDoor.q46 [(F13_a1 sn0 sd1 sd2)])) then
                  some [(D.list [(F13_a3 sn0 sd1 sd2), (F13_a2 sn0 sd1 sd2), (F13_a0 sn0 sd1 sd2), (F13_a0 sn0 sd1 sd2)])]
                else
                  none
              else
                none
            else
              none
          else
            none
        else
          some [(D.list [])] := by kernel_rfl

noncomputable def q13 : List D → Option (List D) := veil (F13 )

theorem q13_eq : q13  = F13  := veil_eq _

noncomputable def tb13 : Tb := Tb.addF tb18 13 S13 (q13 )

theorem ok_tb13 : TbOk env (tb13 ) := addFunF ok_tb18 13 (by kernel_rfl) _ (q13_eq )

/- function 14  -/

def S14 : FunS := ⟨[⟨true, (.int .i64)⟩, ⟨true, (.dat 33)⟩, ⟨true, (.dat 33)⟩], [], [⟨true, (.rows 33)⟩], []⟩

noncomputable def F14 : List D → Option (List D) := liftX env tb13 60 12 14 S14

theorem F14_eq  (sn0 : Int) (sd1 : D) (sd2 : D) : F14  [(D.int sn0), sd1, sd2] =
    bif (qiteB (qcmp BinOp.lss sn0 6) Bool.true (qcmp BinOp.gtr sn0 15)) then
      some [(D.list [])]
    else
      bif (qcmp BinOp.eql sn0 6) then
        some [(D.list [(D.agg [(D.int 12), (D.int 0), (D.int 0), (D.int 0), (D.list [(D.agg [(D.int 3), (D.int 0), (D.int 0), (D.int 0), (D.list [(D.agg [(D.int (qint (qfld sd1 0))), (D.int (qint (qfld sd1 1))), (D.int (qint (qfld sd1 2))), (D.int (qint (qfld sd1 3))), (qfld sd1 4)]), (D.agg [(D.int (qint (qfld sd2 0))), (D.int (qint (qfld sd2 1))), (D.int (qint (qfld sd2 2))), (D.int (qint (qfld sd2 3))), (qfld sd2 4)])])]), (D.agg [(D.int 1), (D.int 0), (D.int 0), (D.int 0), (D.list [])])])]), (D.agg [(D.int 14), (D.int 0), (D.int 0), (D.int 0), (D.list [(D.agg [(D.int 3), (D.int 0), (D.int 0), (D.int 0), (D.list [(D.agg [(D.int (qint (qfld sd1 0))), (D.int (qint (qfld sd1 1))), (D.int (qint (qfld sd1 2))), (D.int (qint (qfld sd1 3))), (qfld sd1 4)]), (D.agg [(D.int (qint (qfld sd2 0))), (D.int (qint (qfld sd2 1))), (D.int (qint (qfld sd2 2))), (D.int (qint (qfld sd2 3))), (qfld sd2 4)])])]), (D.agg [(D.int 1), (D.int 0), (D.int 0), (D.int 0), (D.list [])])])]), (D.agg [(D.int 15), (D.int 0), (D.int 0), (D.int 0), (D.list [(D.agg [(D.int 3), (D.int 0), (D.int 0), (D.int 0), (D.list [(D.agg [(D.int (qint (qfld sd1 0))), (D.int (qint (qfld sd1 1))), (D.int (qint (qfld sd1 2))), (D.int (qint (qfld sd1 3))), (qfld sd1 4)]), (D.agg [(D.int (qint (qfld sd2 0))), (D.int (qint (qfld sd2 1))), (D.int (qint (qfld sd2 2))), (D.int (qint (qfld sd2 3))), (qfld sd2 4)])])]), (D.agg [(D.int (qint (qfld sd1 0))), (D.int (qint (qfld sd1 1))), (D.int (qint (qfld sd1 2))), (D.int (qint (qfld sd1 3))), (qfld sd1 4)])])]), (D.agg [(D.int 14), (D.int 0), (D.int 0), (D.int 0), (D.list [(D.agg [(D.int 6), (D.int 0), (D.int 0), (D.int 0), (D.list [(D.agg [(D.int 8), (D.int 0), (D.int 0), (D.int 0), (D.list [(D.agg [(D.int (qint (qfld sd1 0))), (D.int (qint (qfld sd1 1))), (D.int (qint (qfld sd1 2))), (D.int (qint (qfld sd1 3))), (qfld sd1 4)]), (D.agg [(D.int 3), (D.int 0), (D.int 0), (D.int 0), (D.list [(D.agg [(D.int (qint (qfld sd1 0))), (D.int (qint (qfld sd1 1))), (D.int (qint (qfld sd1 2))), (D.int (qint (qfld sd1 3))), (qfld sd1 4)]), (D.agg [(D.int (qint (qfld sd2 0))), (D.int (qint (qfld sd2 1))), (D.int (qint (qfld sd2 2))), (D.int (qint (qfld sd2 3))), (qfld sd2 4)])])])])]), (D.agg [(D.int 8), (D.int 0), (D.int 0), (D.int 0), (D.list [(D.agg [(D.int (qint (qfld sd2 0))), (D.int (qint (qfld sd2 1))), (D.int (qint (qfld sd2 2))), (D.int (qint (qfld sd2 3))), (qfld sd2 4)]), (D.agg [(D.int 3), (D.int 0), (D.int 0), (D.int 0), (D.list [(D.agg [(D.int (qint (qfld sd1 0))), (D.int (qint (qfld sd1 1))), (D.int (qint (qfld sd1 2))), (D.int (qint (qfld sd1 3))), (qfld sd1 4)]), (D.agg [(D.int (qint (qfld sd2 0))), (D.int (qint (qfld sd2 1))), (D.int (qint (qfld sd2 2))), (D.int (qint (qfld sd2 3))), (qfld sd2 4)])])])])])])]), (D.agg [(D.int 1), (D.int 0), (D.int 0), (D.int 0), (D.list [])])])])])]
      else
        bif (qiteB (qcmp BinOp.eql sn0 7) Bool.true (qcmp BinOp.eql sn0 15)) then
          some [(D.list [(D.agg [(D.int 12), (D.int 0), (D.int 0), (D.int 0), (D.list [(D.agg [(D.int (qint (qfld sd1 0))), (D.int (qint (qfld sd1 1))), (D.int (qint (qfld sd1 2))), (D.int (qint (qfld sd1 3))), (qfld sd1 4)]), (D.agg [(D.int (qint (qfld sd2 0))), (D.int (qint (qfld sd2 1))), (D.int (qint (qfld sd2 2))), (D.int (qint (qfld sd2 3))), (qfld sd2 4)])])]), (D.agg [(D.int 14), (D.int 0), (D.int 0), (D.int 0), (D.list [(D.agg [(D.int 4), (D.int 0), (D.int 0), (D.int 0), (D.list [(D.agg [(D.int (qint (qfld sd1 0))), (D.int (qint (qfld sd1 1))), (D.int (qint (qfld sd1 2))), (D.int (qint (qfld sd1 3))), (qfld sd1 4)]), (D.agg [(D.int (qint (qfld sd2 0))), (D.int (qint (qfld sd2 1))), (D.int (qint (qfld sd2 2))), (D.int (qint (qfld sd2 3))), (qfld sd2 4)])])]), (D.agg [(D.int 1), (D.int 0), (D.int 0), (D.int 0), (D.list [])])])]), (D.agg [(D.int 15), (D.int 0), (D.int 0), (D.int 0), (D.list [(D.agg [(D.int (qint (qfld sd1 0))), (D.int (qint (qfld sd1 1))), (D.int (qint (qfld sd1 2))), (D.int (qint (qfld sd1 3))), (qfld sd1 4)]), (D.agg [(D.int (qint (qfld sd2 0))), (D.int (qint (qfld sd2 1))), (D.int (qint (qfld sd2 2))), (D.int (qint (qfld sd2 3))), (qfld sd2 4)])])]), (D.agg [(D.int 8), (D.int 0), (D.int 0), (D.int 0), (D.list [(D.agg [(D.int 14), (D.int 0), (D.int 0), (D.int 0), (D.list [(D.agg [(D.int (qint (qfld sd1 0))), (D.int (qint (qfld sd1 1))), (D.int (qint (qfld sd1 2))), (D.int (qint (qfld sd1 3))), (qfld sd1 4)]), (D.agg [(D.int (qint (qfld sd2 0))), (D.int (qint (qfld sd2 1))), (D.int (qint (qfld sd2 2))), (D.int (qint (qfld sd2 3))), (qfld sd2 4)])])]), (D.agg [(D.int 14), (D.int 0), (D.int 0), (D.int 0), (D.list [(D.agg [(D.int 4), (D.int 0), (D.int 0), (D.int 0), (D.list [(D.agg [(D.int (qint (qfld sd1 0))), (D.int (qint (qfld sd1 1))), (D.int (qint (qfld sd1 2))), (D.int (qint (qfld sd1 3))), (qfld sd1 4)]), (D.agg [(D.int (qint (qfld sd2 0))), (D.int (qint (qfld sd2 1))), (D.int (qint (qfld sd2 2))), (D.int (qint (qfld sd2 3))), (qfld sd2 4)])])]), (D.agg [(D.int 1), (D.int 0), (D.int 0), (D.int 0), (D.list [])])])])])])])]
        else
          bif (qsome (Proofs.YtgklbalcneepoaaGreatDoor.q50 [(D.int sn0)])) then
            some [(D.list [(D.agg [(D.int 12), (D.int 0), (D.int 0), (D.int 0), (D.list [(D.agg [(D.int (qint (qnth (Proofs.YtgklbalcneepoaaGreatDoor.q50 [(D.int sn0)]) 0))), (D.int 0), (D.int 0), (D.int 0), (D.list [(D.agg [(D.int (qint (qfld sd1 0))), (D.int (qint (qfld sd1 1))), (D.int (qint (qfld sd1 2))), (D.int (qint (qfld sd1 3))), (qfld sd1 4)]), (D.agg [(D.int (qint (qfld sd2 0))), (D.int (qint (qfld sd2 1))), (D.int (qint (qfld sd2 2))), (D.int (qint (qfld sd2 3))), (qfld sd2 4)])])]), (D.agg [(D.int 1), (D.int 0), (D.int 0), (D.int 0), (D.list [])])])]), (D.agg [(D.int 14), (D.int 0), (D.int 0), (D.int 0), (D.list [(D.agg [(D.int (qint (qnth (Proofs.YtgklbalcneepoaaGreatDoor.q50 [(D.int sn0)]) 0))), (D.int 0), (D.int 0), (D.int 0), (D.list [(D.agg [(D.int (qint (qfld sd1 0))), (D.int (qint (qfld sd1 1))), (D.int (qint (qfld sd1 2))), (D.int (qint (qfld sd1 3))), (qfld sd1 4)]), (D.agg [(D.int (qint (qfld sd2 0))), (D.int (qint (qfld sd2 1))), (D.int (qint (qfld sd2 2))), (D.int (qint (qfld sd2 3))), (qfld sd2 4)])])]), (D.agg [(D.int 1), (D.int 0), (D.int 0), (D.int 0), (D.list [])])])]), (D.agg [(D.int 1), (D.int 0), (D.int 0), (D.int 0), (D.list [])]), (D.agg [(D.int 1), (D.int 0), (D.int 0), (D.int 0), (D.list [])])])]
          else
            none := by kernel_rfl

noncomputable def q14 : List D → Option (List D) := veil (F14 )

theorem q14_eq : q14  = F14  := veil_eq _

noncomputable def tb14 : Tb := Tb.addF tb13 14 S14 (q14 )

theorem ok_tb14 : TbOk env (tb14 ) := addFunF ok_tb13 14 (by kernel_rfl) _ (q14_eq )

/- function 4  -/

def S4_8 : LoopS := ⟨0, [⟨false, (.int .i64)⟩, ⟨false, .any⟩, ⟨false, .any⟩, ⟨false, .any⟩, ⟨false, .any⟩, ⟨false, (.ptr 0 0)⟩, ⟨false, (.lit (.bool false))⟩, ⟨false, (.ptr 1 0)⟩, ⟨false, (.ptr 2 0)⟩, ⟨false, (.rows 33)⟩, ⟨false, (.rows 33)⟩, ⟨true, (.int .i64)⟩, ⟨false, .any⟩, ⟨false, .any⟩, ⟨false, .any⟩, ⟨false, .any⟩, ⟨false, .any⟩, ⟨false, .any⟩, ⟨false, .any⟩, ⟨false, .any⟩, ⟨false, .any⟩, ⟨false, .any⟩, ⟨false, .any⟩, ⟨false, .any⟩, ⟨false, .any⟩, ⟨false, .any⟩, ⟨false, .any⟩, ⟨false, .any⟩, ⟨false, .any⟩, ⟨false, .any⟩, ⟨false, .any⟩, ⟨false, .any⟩, ⟨false, .any⟩, ⟨false, .any⟩, ⟨false, .any⟩, ⟨false, .any⟩, ⟨false, .any⟩, ⟨false, .any⟩, ⟨false, .any⟩, ⟨false, .any⟩, ⟨false, .any⟩, ⟨false, .any⟩, ⟨false, .any⟩, ⟨false, .any⟩, ⟨false, .any⟩, ⟨false, .any⟩, ⟨false, .any⟩, ⟨false, .any⟩, ⟨false, .any⟩, ⟨false, .any⟩, ⟨false, .any⟩, ⟨false, .any⟩, ⟨false, .any⟩, ⟨false, .any⟩, ⟨false, .any⟩, ⟨false, .any⟩, ⟨false, .any⟩, ⟨false, .any⟩, ⟨false, .any⟩, ⟨false, .any⟩, ⟨false, .any⟩, ⟨false, .any⟩, ⟨false, .any⟩, ⟨false, .any⟩, ⟨false, .any⟩, ⟨false, .any⟩, ⟨false, .any⟩, ⟨false, .any⟩, ⟨false, .any⟩, ⟨false, .any⟩, ⟨false, .any⟩, ⟨false, .any⟩, ⟨false, .any⟩, ⟨false, .any⟩, ⟨false, .any⟩, ⟨false, .any⟩, ⟨false, .any⟩, ⟨false, .any⟩, ⟨false, .any⟩, ⟨false, .any⟩, ⟨false, .any⟩, ⟨false, .any⟩, ⟨false, .any⟩, ⟨false, .any⟩, ⟨false, .any⟩, ⟨false, .any⟩, ⟨false, .any⟩, ⟨false, .any⟩, ⟨false, .any⟩, ⟨false, .any⟩, ⟨false, .any⟩, ⟨false, .any⟩, ⟨false, .any⟩, ⟨false, .any⟩, ⟨false, .any⟩, ⟨false, .any⟩, ⟨false, .any⟩, ⟨false, .any⟩, ⟨false, .any⟩, ⟨false, .any⟩, ⟨false, .any⟩, ⟨false, .any⟩, ⟨false, .any⟩, ⟨false, .any⟩, ⟨false, .any⟩, ⟨false, .any⟩, ⟨false, .any⟩, ⟨false, .any⟩, ⟨false, .any⟩, ⟨false, .any⟩, ⟨false, .any⟩, ⟨false, .any⟩, ⟨false, .any⟩, ⟨false, .any⟩, ⟨false, .any⟩, ⟨false, .any⟩, ⟨false, .any⟩, ⟨false, .any⟩, ⟨false, .any⟩, ⟨false, .any⟩, ⟨false, .any⟩, ⟨false, .any⟩, ⟨false, .any⟩, ⟨false, .any⟩, ⟨false, .any⟩, ⟨false, .any⟩, ⟨false, .any⟩, ⟨false, .any⟩, ⟨false, .any⟩, ⟨false, .any⟩, ⟨false, .any⟩, ⟨false, .any⟩, ⟨false, .any⟩, ⟨false, .any⟩, ⟨false, .any⟩, ⟨false, .any⟩, ⟨false, .any⟩, ⟨false, .any⟩, ⟨false, .any⟩, ⟨false, .any⟩, ⟨false, .any⟩, ⟨false, .any⟩, ⟨false, .any⟩, ⟨false, .any⟩, ⟨false, .any⟩, ⟨false, .any⟩, ⟨false, .any⟩, ⟨false, .any⟩, ⟨false, .any⟩, ⟨false, .any⟩, ⟨false, .any⟩, ⟨false, .any⟩], [(.cells [⟨false, (.lit (.int .i64 1))⟩, ⟨false, (.int .u32)⟩, ⟨false, (.lit (.int .i64 0))⟩, ⟨false, (.lit (.int .i64 0))⟩, ⟨false, (.lit (.slice none 0 0))⟩]), (.cells [⟨false, (.lit (.int .i64 1))⟩, ⟨false, (.int .u32)⟩, ⟨false, (.lit (.int .i64 0))⟩, ⟨false, (.lit (.int .i64 0))⟩, ⟨false, (.lit (.slice none 0 0))⟩]), (.dat false 34)], [⟨0, 0, [⟨false, (.int .i64)⟩, ⟨true, .any⟩, ⟨true, .any⟩, ⟨true, .any⟩, ⟨true, .any⟩, ⟨true, (.ptr 0 0)⟩, ⟨true, (.lit (.bool false))⟩, ⟨true, (.ptr 1 0)⟩, ⟨true, (.ptr 2 0)⟩, ⟨false, (.rows 33)⟩, ⟨false, (.rows 33)⟩, ⟨true, .any⟩, ⟨true, .any⟩, ⟨true, .any⟩, ⟨true, .any⟩, ⟨true, .any⟩, ⟨true, .any⟩, ⟨true, .any⟩, ⟨true, .any⟩, ⟨true, .any⟩, ⟨true, .any⟩, ⟨true, .any⟩, ⟨true, .any⟩, ⟨true, .any⟩, ⟨true, .any⟩, ⟨true, .any⟩, ⟨true, .any⟩, ⟨true, .any⟩, ⟨true, .any⟩, ⟨true, .any⟩, ⟨true, .any⟩, ⟨true, .any⟩, ⟨true, .any⟩, ⟨true, .any⟩, ⟨true, .any⟩, ⟨true, .any⟩, ⟨true, .any⟩, ⟨true, .any⟩, ⟨true, .any⟩, ⟨true, .any⟩, ⟨true, .any⟩, ⟨true, .any⟩, ⟨true, .any⟩, ⟨true, .any⟩, ⟨true, .any⟩, ⟨true, .any⟩, ⟨true, .any⟩, ⟨true, .any⟩, ⟨true, .any⟩, ⟨true, .any⟩, ⟨true, .any⟩, ⟨true, .any⟩, ⟨true, .any⟩, ⟨true, .any⟩, ⟨true, .any⟩, ⟨true, .any⟩, ⟨true, .any⟩, ⟨true, .any⟩, ⟨true, .any⟩, ⟨true, .any⟩, ⟨true, .any⟩, ⟨true, .any⟩, ⟨true, .any⟩, ⟨true, .any⟩, ⟨true, .any⟩, ⟨true, .any⟩, ⟨true, .any⟩, ⟨true, .any⟩, ⟨true, .any⟩, ⟨true, .any⟩, ⟨true, .any⟩, ⟨true, .any⟩, ⟨true, .any⟩, ⟨true, .any⟩, ⟨true, .any⟩, ⟨true, .any⟩, ⟨true, .any⟩, ⟨true, .any⟩, ⟨true, .any⟩, ⟨true, .any⟩, ⟨true, .any⟩, ⟨true, .any⟩, ⟨true, .any⟩, ⟨true, .any⟩, ⟨true, .any⟩, ⟨true, .any⟩, ⟨true, .any⟩, ⟨true, .any⟩, ⟨true, .any⟩, ⟨true, .any⟩, ⟨true, .any⟩, ⟨true, .any⟩, ⟨true, .any⟩, ⟨true, .any⟩, ⟨true, .any⟩, ⟨true, .any⟩, ⟨true, .any⟩, ⟨true, .any⟩, ⟨true, .any⟩, ⟨true, .any⟩, ⟨true, .any⟩, ⟨true, .any⟩, ⟨true, .any⟩, ⟨true, .any⟩, ⟨true, .any⟩, ⟨true, .any⟩, ⟨true, .any⟩, ⟨true, .any⟩, ⟨true, .any⟩, ⟨true, .any⟩, ⟨true, .any⟩, ⟨true, .any⟩, ⟨true, .any⟩, ⟨true, .any⟩, ⟨true, .any⟩, ⟨true, .any⟩, ⟨true, .any⟩, ⟨true, .any⟩, ⟨true, .any⟩, ⟨true, .any⟩, ⟨true, .any⟩, ⟨true, .any⟩, ⟨true, .any⟩, ⟨true, .any⟩, ⟨true, .any⟩, ⟨true, .any⟩, ⟨true, .any⟩, ⟨true, .any⟩, ⟨true, .any⟩, ⟨true, .any⟩, ⟨true, .any⟩, ⟨true, .any⟩, ⟨true, .any⟩, ⟨true, .any⟩, ⟨true, .any⟩, ⟨true, .any⟩, ⟨true, .any⟩, ⟨true, .any⟩, ⟨true, .any⟩, ⟨true, .any⟩, ⟨true, .any⟩, ⟨true, .any⟩, ⟨true, .any⟩, ⟨true, .any⟩, ⟨true, .any⟩, ⟨true, .any⟩, ⟨true, .any⟩, ⟨true, .any⟩, ⟨true, .any⟩, ⟨true, .any⟩, ⟨true, .any⟩, ⟨true, .any⟩], [(.cells [⟨true, (.lit (.int .i64 1))⟩, ⟨false, (.int .u32)⟩, ⟨true, (.lit (.int .i64 0))⟩, ⟨true, (.lit (.int .i64 0))⟩, ⟨true, (.lit (.slice none 0 0))⟩]), (.cells [⟨true, (.lit (.int .i64 1))⟩, ⟨false, (.int .u32)⟩, ⟨true, (.lit (.int .i64 0))⟩, ⟨true, (.lit (.int .i64 0))⟩, ⟨true, (.lit (.slice none 0 0))⟩]), (.dat false 34)]⟩, ⟨1, 0, [⟨false, (.int .i64)⟩, ⟨true, .any⟩, ⟨true, .any⟩, ⟨true, .any⟩, ⟨true, .any⟩, ⟨true, .any⟩, ⟨true, (.lit (.bool false))⟩, ⟨true, .any⟩, ⟨true, .any⟩, ⟨false, (.rows 33)⟩, ⟨false, (.rows 33)⟩, ⟨true, .any⟩, ⟨true, .any⟩, ⟨true, .any⟩, ⟨true, .any⟩, ⟨true, .any⟩, ⟨true, .any⟩, ⟨true, .any⟩, ⟨true, .any⟩, ⟨true, .any⟩, ⟨true, .any⟩, ⟨true, .any⟩, ⟨true, .any⟩, ⟨true, .any⟩, ⟨true, .any⟩, ⟨true, .any⟩, ⟨true, .any⟩, ⟨true, .any⟩, ⟨true, .any⟩, ⟨true, .any⟩, ⟨true, .any⟩, ⟨true, .any⟩, ⟨true, .any⟩, ⟨true, .any⟩, ⟨true, .any⟩, ⟨true, .any⟩, ⟨true, .any⟩, ⟨true, .any⟩, ⟨true, .any⟩, ⟨true, .any⟩, ⟨true, .any⟩, ⟨true, .any⟩, ⟨true, .any⟩, ⟨true, .any⟩, ⟨true, .any⟩, ⟨true, .any⟩, ⟨true, .any⟩, ⟨true, .any⟩, ⟨true, .any⟩, ⟨true, .any⟩, ⟨true, .any⟩, ⟨true, .any⟩, ⟨true, .any⟩, ⟨true, .any⟩, ⟨true, .any⟩, ⟨true, .any⟩, ⟨true, .any⟩, ⟨true, .any⟩, ⟨true, .any⟩, ⟨true, .any⟩, ⟨true, .any⟩, ⟨true, .any⟩, ⟨true, .any⟩, ⟨true, .any⟩, ⟨true, .any⟩, ⟨true, .any⟩, ⟨true, .any⟩, ⟨true, .any⟩, ⟨true, .any⟩, ⟨true, .any⟩, ⟨true, .any⟩, ⟨true, .any⟩, ⟨true, .any⟩, ⟨true, .any⟩, ⟨true, .any⟩, ⟨true, .any⟩, ⟨true, .any⟩, ⟨true, .any⟩, ⟨true, .any⟩, ⟨true, .any⟩, ⟨true, .any⟩, ⟨true, .any⟩, ⟨true, .any⟩, ⟨true, .any⟩, ⟨true, .any⟩, ⟨true, .any⟩, ⟨true, .any⟩, ⟨true, .any⟩, ⟨true, .any⟩, ⟨true, .any⟩, ⟨true, .any⟩, ⟨true, .any⟩, ⟨true, .any⟩, ⟨true, .any⟩, ⟨true, .any⟩, ⟨true, .any⟩, ⟨true, .any⟩, ⟨true, .any⟩, ⟨true, .any⟩, ⟨true, .any⟩, ⟨true, .any⟩, ⟨true, .any⟩, ⟨true, .any⟩, ⟨true, .any⟩, ⟨true, .any⟩, ⟨true, .any⟩, ⟨true, .any⟩, ⟨true, .any⟩, ⟨true, .any⟩, ⟨true, .any⟩, ⟨true, .any⟩, ⟨true, .any⟩, ⟨true, .any⟩, ⟨true, .any⟩, ⟨true, .any⟩, ⟨true, .any⟩, ⟨true, .any⟩, ⟨true, .any⟩, ⟨true, .any⟩, ⟨true, .any⟩, ⟨true, .any⟩, ⟨true, .any⟩, ⟨true, .any⟩, ⟨true, .any⟩, ⟨true, .any⟩, ⟨true, .any⟩, ⟨true, .any⟩, ⟨true, .any⟩, ⟨true, .any⟩, ⟨true, .any⟩, ⟨true, .any⟩, ⟨true, .any⟩, ⟨true, .any⟩, ⟨true, .any⟩, ⟨true, .any⟩, ⟨true, .any⟩, ⟨true, .any⟩, ⟨true, .any⟩, ⟨true, .any⟩, ⟨true, .any⟩, ⟨true, .any⟩, ⟨true, .any⟩, ⟨true, .any⟩, ⟨true, .any⟩, ⟨true, .any⟩, ⟨true, .any⟩, ⟨true, .any⟩, ⟨true, .any⟩, ⟨true, .any⟩, ⟨true, .any⟩, ⟨true, .any⟩, ⟨true, .any⟩], [(.cells [⟨true, .any⟩, ⟨false, (.int .u32)⟩, ⟨true, .any⟩, ⟨true, .any⟩, ⟨true, .any⟩]), (.cells [⟨true, .any⟩, ⟨false, (.int .u32)⟩, ⟨true, .any⟩, ⟨true, .any⟩, ⟨true, .any⟩]), (.dat false 34)]⟩]⟩

noncomputable def st4_8 (p s : List D) : Option (Sum (List D) (List D)) := stepQX env tb14 60 12 4 (loopC 4 8) S4_8 p s

theorem st4_8_eq (pn0 : Int) (pd1 : D) (pd2 : D) (pn3 : Int) (pn4 : Int) (pd5 : D) (sn0 : Int) : st4_8  [(D.int pn0), pd1, pd2, (D.int pn3), (D.int pn4), pd5] [(D.int sn0)] =
    bif (qcmp BinOp.lss sn0 (qlen pd1)) then
      bif (qinb pd1 sn0) then
        bif (qinb pd2 sn0) then
          bif (qsome (Proofs.YtgklbalcneepoaaGreatDoor.q15 [(qget pd1 sn0), (qget pd2 sn0)])) then
            bif (qnot (qbool (qnth (Proofs.YtgklbalcneepoaaGreatDoor.q15 [(qget pd1 sn0), (qget pd2 sn0)]) 0))) then
              some (Sum.inr [(D.int 1)])
            else
              some (Sum.inl [(D.int (qbin BinOp.add IntKind.i64 sn0 1))])
          else
            none
        else
          none
      else
        none
    else
      some (Sum.inr [(D.int 0)]) := by
  have h : st4_8  [(D.int pn0), pd1, pd2, (D.int pn3), (D.int pn4), pd5] [(D.int sn0)] =
    bif (qcmp BinOp.lss sn0 (qlen pd1)) then
      bif (qinb pd1 sn0) then
        bif (qinb pd2 sn0) then
          bif (qsome (Proofs.YtgklbalcneepoaaGreatDoor.q15 [(qget pd1 sn0), (qget pd2 sn0)])) then
            bif (qnot (qbool (qnth (Proofs.YtgklbalcneepoaaGreatDoor.q15 [(qget pd1 sn0), (qget pd2 sn0)]) 0))) then
              bif (qeqD (D.int pn0) (D.int pn0)) then
                bif (qeqD pd1 pd1) then
                  bif (qeqD pd2 pd2) then
                    bif (qeqD (D.int pn3) (D.int pn3)) then
                      bif (qeqD (D.int pn4) (D.int pn4)) then
                        bif (qeqD pd5 pd5) then
                          some (Sum.inr [(D.int 1)])
                        else
                          none
                      else
                        none
                    else
                      none
                  else
                    none
                else
                  none
              else
                none
            else
              bif (qeqD (D.int pn0) (D.int pn0)) then
                bif (qeqD pd1 pd1) then
                  bif (qeqD pd2 pd2) then
                    bif (qeqD (D.int pn3) (D.int pn3)) then
                      bif (qeqD (D.int pn4) (D.int pn4)) then
                        bif (qeqD pd5 pd5) then
                          some (Sum.inl [(D.int (qbin BinOp.add IntKind.i64 sn0 1))])
                        else
                          none
                      else
                        none
                    else
                      none
                  else
                    none
                else
                  none
              else
                none
          else
            none
        else
          none
      else
        none
    else
      bif (qeqD (D.int pn0) (D.int pn0)) then
        bif (qeqD pd1 pd1) then
          bif (qeqD pd2 pd2) then
            bif (qeqD (D.int pn3) (D.int pn3)) then
              bif (qeqD (D.int pn4) (D.int pn4)) then
                bif (qeqD pd5 pd5) then
                  some (Sum.inr [(D.int 0)])
                else
                  none
              else
                none
            else
              none
          else
            none
        else
          none
      else
        none := by kernel_rfl
  rw [h]; simp only [qeqD_self, qeqI_self, qeq_len, show qcmp BinOp.eql 0 (qlen (D.list [])) = true from qeq_len [], show ∀ a, qcmp BinOp.eql 1 (qlen (D.list [a])) = true from fun a => qeq_len [a], show ∀ a b, qcmp BinOp.eql 2 (qlen (D.list [a, b])) = true from fun a b => qeq_len [a, b], show ∀ a b c, qcmp BinOp.eql 3 (qlen (D.list [a, b, c])) = true from fun a b c => qeq_len [a, b, c], show ∀ a b c d, qcmp BinOp.eql 4 (qlen (D.list [a, b, c, d])) = true from fun a b c d => qeq_len [a, b, c, d], cond_true]

noncomputable def l4_8 : List D → List D → Option (List D) := veil fun p s => loW (st4_8  p) s

theorem l4_8_eq : l4_8  = fun p s => loW (st4_8  p) s := veil_eq _

noncomputable def tbl4_8 : Tb := Tb.addL tb14 4 8 S4_8.n0 (mkLp S4_8 (l4_8 ))

theorem ok_tbl4_8 : TbOk env (tbl4_8 ) := addLoopQ ok_tb14 4 8 (by kernel_rfl) _ (l4_8_eq )

def S4 : FunS := ⟨[⟨true, (.int .i64)⟩, ⟨true, (.dat 33)⟩, ⟨true, (.dat 34)⟩], [], [⟨true, .bool⟩], []⟩

noncomputable def F4 : List D → Option (List D) := liftX env tbl4_8 60 12 4 S4

noncomputable def F4_a0 (sn0 : Int) (sd1 : D) (sd2 : D) : D := (D.agg [(D.int 1), (D.int (qint (qfld sd2 1))), (D.int 0), (D.int 0), (D.list [])])

noncomputable def F4_a1 (sn0 : Int) (sd1 : D) (sd2 : D) : D := (D.agg [(D.int 1), (D.int (qint (qfld sd2 0))), (D.int 0), (D.int 0), (D.list [])])

noncomputable def F4_a2 (sn0 : Int) (sd1 : D) (sd2 : D) : D := (D.agg [(D.bool Bool.false), (D.list []), (D.list [])])

noncomputable def F4_a3 (sn0 : Int) (sd1 : D) (sd2 : D) : D := (D.agg [(D.list [])])

theorem F4_eq  (sn0 : Int) (sd1 : D) (sd2 : D) : F4  [(D.int sn0), sd1, sd2] =
    bif (qiteB (qiteB (qcmp BinOp.lss sn0 (-1000)) Bool.true (qcmp BinOp.gtr sn0 1000)) Bool.true (qsome (Proofs.YtgklbalcneepoaaGreatDoor.q11 [sd1, (D.int 70), (D.int 30)]))) then
      bif (qiteB (qiteB (qiteB (qcmp BinOp.lss sn0 (-1000)) Bool.true (qcmp BinOp.gtr sn0 1000)) Bool.true (qcmp BinOp.lss (qint (qnth (Proofs.YtgklbalcneepoaaGreatDoor.q11 [sd1, (D.int 70), (D.int 30)]) 0)) 0)) Bool.true (qsome (Proofs.YtgklbalcneepoaaGreatDoor.q12 [sd1]))) then
        bif (qiteB (qiteB (qiteB (qcmp BinOp.lss sn0 (-1000)) Bool.true (qcmp BinOp.gtr sn0 1000)) Bool.true (qcmp BinOp.lss (qint (qnth (Proofs.YtgklbalcneepoaaGreatDoor.q11 [sd1, (D.int 70), (D.int 30)]) 0)) 0)) Bool.true (qcmp BinOp.neq (qint (qnth (Proofs.YtgklbalcneepoaaGreatDoor.q12 [sd1]) 0)) 0)) then
          bif (qsome (Proofs.YtgklbalcneepoaaGreatDoor.q10 [])) then
            some [(D.bool (qbool (qnth (Proofs.YtgklbalcneepoaaGreatDoor.q10 []) 0)))]
          else
            none
        else
          bif (qsome (Proofs.YtgklbalcneepoaaGreatDoor.q13 [(D.int sn0), sd1, (F4_a0 sn0 sd1 sd2)])) then
            bif (qsome (Proofs.YtgklbalcneepoaaGreatDoor.q14 [(D.int sn0), sd1, (F4_a0 sn0 sd1 sd2)])) then
              bif (qcmp BinOp.neq (qlen (qnth (Proofs.YtgklbalcneepoaaGreatDoor.q13 [(D.int sn0), sd1, (F4_a0 sn0 sd1 sd2)]) 0)) (qlen (qnth (Proofs.YtgklbalcneepoaaGreatDoor.q14 [(D.int sn0), sd1, (F4_a0 sn0 sd1 sd2)]) 0))) then
                some [(D.bool Bool.false)]
              else
                bif (qsome (Proofs.YtgklbalcneepoaaGreatDoor.l4_8 [(D.int sn0), (qnth (Proofs.YtgklbalcneepoaaGreatDoor.q13 [(D.int sn0), sd1, (F4_a0 sn0 sd1 sd2)]) 0), (qnth (Proofs.YtgklbalcneepoaaGreatDoor.q14 [(D.int sn0), sd1, (F4_a0 sn0 sd1 sd2)]) 0), (D.int (qint (qfld sd2 1))), (D.int (qint (qfld sd2 0))), sd2] [(D.int 0)])) then
                  bif (qcmp BinOp.eql (qint (qnth (Proofs.YtgklbalcneepoaaGreatDoor.l4_8 [(D.int sn0), (qnth (Proofs.YtgklbalcneepoaaGreatDoor.q13 [(D.int sn0), sd1, (F4_a0 sn0 sd1 sd2)]) 0), (qnth (Proofs.YtgklbalcneepoaaGreatDoor.q14 [(D.int sn0), sd1, (F4_a0 sn0 sd1 sd2)]) 0), (D.int (qint (qfld sd2 1))), (D.int (qint (qfld sd2 0))), sd2] [(D.int 0)]) 0)) 0) then
                    bif (qsome (Proofs.YtgklbalcneepoaaGreatDoor.q16 [(D.int (qint (qfld sd2 0))), (D.int (qint (qfld sd2 1)))])) then
                      bif (qcmp BinOp.neq sn0 6) then
                        bif (qsome (Proofs.YtgklbalcneepoaaGreatDoor.q17 [(D.int (qint (qfld sd2 0))), (D.int (qint (qfld sd2 1)))])) then
                          bif (qiteB (qiteB (qcmp BinOp.neq sn0 6) (qcmp BinOp.neq sn0 7) Bool.false) (qcmp BinOp.neq sn0 15) Bool.false) then
                            bif (qsome (Proofs.YtgklbalcneepoaaGreatDoor.q10 [])) then
                              some [(D.bool (qbool (qnth (Proofs.YtgklbalcneepoaaGreatDoor.q10 []) 0)))]
                            else
                              none
                          else
                            bif (qsome (Proofs.YtgklbalcneepoaaGreatDoor.q18 [(D.bool (qbool (qfld (qnth (Proofs.YtgklbalcneepoaaGreatDoor.q17 [(D.int (qint (qfld sd2 0))), (D.int (qint (qfld sd2 1)))]) 1) 0)))])) then
                              bif (qsome (Proofs.YtgklbalcneepoaaGreatDoor.q18 [(D.bool (qbool (qfld (qnth (Proofs.YtgklbalcneepoaaGreatDoor.q17 [(D.int (qint (qfld sd2 0))), (D.int (qint (qfld sd2 1)))]) 1) 1)))])) then
                                bif (qsome (Proofs.YtgklbalcneepoaaGreatDoor.q18 [(D.bool (qbool (qfld (qnth (Proofs.YtgklbalcneepoaaGreatDoor.q17 [(D.int (qint (qfld sd2 0))), (D.int (qint (qfld sd2 1)))]) 1) 2)))])) then
                                  bif (qsome (Proofs.YtgklbalcneepoaaGreatDoor.q18 [(D.bool (qbool (qfld (qnth (Proofs.YtgklbalcneepoaaGreatDoor.q17 [(D.int (qint (qfld sd2 0))), (D.int (qint (qfld sd2 1)))]) 1) 3)))])) then
                                    bif (qsome (Proofs.YtgklbalcneepoaaGreatDoor.q13 [(D.int sn0), (F4_a1 sn0 sd1 sd2), (F4_a0 sn0 sd1 sd2)])) then
                                      bif (qiteB (qcmp BinOp.lss 0 (qlen (qnth (Proofs.YtgklbalcneepoaaGreatDoor.q13 [(D.int sn0), (F4_a1 sn0 sd1 sd2), (F4_a0 sn0 sd1 sd2)]) 0))) Bool.true Bool.false) then
                                        bif (qinb (qnth (Proofs.YtgklbalcneepoaaGreatDoor.q13 [(D.int sn0), (F4_a1 sn0 sd1 sd2), (F4_a0 sn0 sd1 sd2)]) 0) 0) then
                                          bif (qsome (Proofs.YtgklbalcneepoaaGreatDoor.q19 [(qget (qnth (Proofs.YtgklbalcneepoaaGreatDoor.q13 [(D.int sn0), (F4_a1 sn0 sd1 sd2), (F4_a0 sn0 sd1 sd2)]) 0) 0), (F4_a3 sn0 sd1 sd2), (F4_a2 sn0 sd1 sd2)])) then
                                            bif (qiteB (qcmp BinOp.neq (qint (qnth (Proofs.YtgklbalcneepoaaGreatDoor.q19 [(qget (qnth (Proofs.YtgklbalcneepoaaGreatDoor.q13 [(D.int sn0), (F4_a1 sn0 sd1 sd2), (F4_a0 sn0 sd1 sd2)]) 0) 0), (F4_a3 sn0 sd1 sd2), (F4_a2 sn0 sd1 sd2)]) 0)) (qint (qnth (Proofs.YtgklbalcneepoaaGreatDoor.q18 [(D.bool (qbool (qfld (qnth (Proofs.YtgklbalcneepoaaGreatDoor.q17 [(D.int (qint (qfld sd2 0))), (D.int (qint (qfld sd2 1)))]) 1) 0)))]) 0))) Bool.true (qcmp BinOp.neq (qint (qnth (Proofs.YtgklbalcneepoaaGreatDoor.q19 [(qget (qnth (Proofs.YtgklbalcneepoaaGreatDoor.q13 [(D.int sn0), (F4_a1 sn0 sd1 sd2), (F4_a0 sn0 sd1 sd2)]) 0) 0), (F4_a3 sn0 sd1 sd2), (F4_a2 sn0 sd1 sd2)]) 1)) 0)) then
                                              some [(D.bool Bool.false)]
                                            else
                                              bif (qiteB (qcmp BinOp.lss 1 (qlen (qnth (Proofs.YtgklbalcneepoaaGreatDoor.q13 [(D.int sn0), (F4_a1 sn0 sd1 sd2), (F4_a0 sn0 sd1 sd2)]) 0))) Bool.true Bool.false) then
                                                bif (qinb (qnth (Proofs.YtgklbalcneepoaaGreatDoor.q13 [(D.int sn0), (F4_a1 sn0 sd1 sd2), (F4_a0 sn0 sd1 sd2)]) 0) 1) then
                                                  bif (qsome (Proofs.YtgklbalcneepoaaGreatDoor.q19 [(qget (qnth (Proofs.YtgklbalcneepoaaGreatDoor.q13 [(D.int sn0), (F4_a1 sn0 sd1 sd2), (F4_a0 sn0 sd1 sd2)]) 0) 1), (F4_a3 sn0 sd1 sd2), (F4_a2 sn0 sd1 sd2)])) then
                                                    bif (qiteB (qcmp BinOp.neq (qint (qnth (Proofs.YtgklbalcneepoaaGreatDoor.q19 [(qget (qnth (Proofs.YtgklbalcneepoaaGreatDoor.q13 [(D.int sn0), (F4_a1 sn0 sd1 sd2), (F4_a0 sn0 sd1 sd2)]) 0) 1), (F4_a3 sn0 sd1 sd2), (F4_a2 sn0 sd1 sd2)]) 0)) (qint (qnth (Proofs.YtgklbalcneepoaaGreatDoor.q18 [(D.bool (qbool (qfld (qnth (Proofs.YtgklbalcneepoaaGreatDoor.q17 [(D.int (qint (qfld sd2 0))), (D.int (qint (qfld sd2 1)))]) 1) 1)))]) 0))) Bool.true (qcmp BinOp.neq (qint (qnth (Proofs.YtgklbalcneepoaaGreatDoor.q19 [(qget (qnth (Proofs.YtgklbalcneepoaaGreatDoor.q13 [(D.int sn0), (F4_a1 sn0 sd1 sd2), (F4_a0 sn0 sd1 sd2)]) 0) 1), (F4_a3 sn0 sd1 sd2), (F4_a2 sn0 sd1 sd2)]) 1)) 0)) then
                                                      some [(D.bool Bool.false)]
                                                    else
                                                      bif (qiteB (qcmp BinOp.lss 2 (qlen (qnth (Proofs.YtgklbalcneepoaaGreatDoor.q13 [(D.int sn0), (F4_a1 sn0 sd1 sd2), (F4_a0 sn0 sd1 sd2)]) 0))) Bool.true Bool.false) then
                                                        bif (qinb (qnth (Proofs.YtgklbalcneepoaaGreatDoor.q13 [(D.int sn0), (F4_a1 sn0 sd1 sd2), (F4_a0 sn0 sd1 sd2)]) 0) 2) then
                                                          bif (qsome (Proofs.YtgklbalcneepoaaGreatDoor.q19 [(qget (qnth (Proofs.YtgklbalcneepoaaGreatDoor.q13 [(D.int sn0), (F4_a1 sn0 sd1 sd2), (F4_a0 sn0 sd1 sd2)]) 0) 2), (F4_a3 sn0 sd1 sd2), (F4_a2 sn0 sd1 sd2)])) then
                                                            bif (qiteB (qcmp BinOp.neq (qint (qnth (Proofs.YtgklbalcneepoaaGreatDoor.q19 [(qget (qnth (Proofs.YtgklbalcneepoaaGreatDoor.q13 [(D.int sn0), (F4_a1 sn0 sd1 sd2), (F4_a0 sn0 sd1 sd2)]) 0) 2), (F4_a3 sn0 sd1 sd2), (F4_a2 sn0 sd1 sd2)]) 0)) (qint (qnth (Proofs.YtgklbalcneepoaaGreatDoor.q18 [(D.bool (qbool (qfld (qnth (Proofs.YtgklbalcneepoaaGreatDoor.q17 [(D.int (qint (qfld sd2 0))), (D.int (qint (qfld sd2 1)))]) 1) 2)))]) 0))) Bool.true (qcmp BinOp.neq (qint (qnth (Proofs.YtgklbalcneepoaaGreatDoor.q19 [(qget (qnth (Proofs.YtgklbalcneepoaaGreatDoor.q13 [(D.int sn0), (F4_a1 sn0 sd1 sd2), (F4_a0 sn0 sd1 sd2)]) 0) 2), (F4_a3 sn0 sd1 sd2), (F4_a2 sn0 sd1 sd2)]) 1)) 0)) then
                                                              some [(D.bool Bool.false)]
                                                            else
                                                              bif (qiteB (qcmp BinOp.lss 3 (qlen (qnth (Proofs.YtgklbalcneepoaaGreatDoor.q13 [(D.int sn0), (F4_a1 sn0 sd1 sd2), (F4_a0 sn0 sd1 sd2)]) 0))) Bool.true Bool.false) then
                                                                bif (qinb (qnth (Proofs.YtgklbalcneepoaaGreatDoor.q13 [(D.int sn0), (F4_a1 sn0 sd1 sd2), (F4_a0 sn0 sd1 sd2)]) 0) 3) then
                                                                  bif (qsome (Proofs.YtgklbalcneepoaaGreatDoor.q19 [(qget (qnth (Proofs.YtgklbalcneepoaaGreatDoor.q13 [(D.int sn0), (F4_a1 sn0 sd1 sd2), (F4_a0 sn0 sd1 sd2)]) 0) 3), (F4_a3 sn0 sd1 sd2), (F4_a2 sn0 sd1 sd2)])) then
                                                                    bif (qiteB (qcmp BinOp.neq (qint (qnth (Proofs.YtgklbalcneepoaaGreatDoor.q19 [(qget (qnth (Proofs.YtgklbalcneepoaaGreatDoor.q13 [(D.int sn0), (F4_a1 sn0 sd1 sd2), (F4_a0 sn0 sd1 sd2)]) 0) 3), (F4_a3 sn0 sd1 sd2), (F4_a2 sn0 sd1 sd2)]) 0)) (qint (qnth (Proofs.YtgklbalcneepoaaGreatDoor.q18 [(D.bool (qbool (qfld (qnth (Proofs.YtgklbalcneepoaaGreatDoor.q17 [(D.int (qint (qfld sd2 0))), (D.int (qint (qfld sd2 1)))]) 1) 3)))]) 0))) Bool.true (qcmp BinOp.neq (qint (qnth (Proofs.YtgklbalcneepoaaGreatDoor.q19 [(qget (qnth (Proofs.YtgklbalcneepoaaGreatDoor.q13 [(D.int sn0), (F4_a1 sn0 sd1 sd2), (F4_a0 sn0 sd1 sd2)]) 0) 3), (F4_a3 sn0 sd1 sd2), (F4_a2 sn0 sd1 sd2)]) 1)) 0)) then
                                                                      some [(D.bool Bool.false)]
                                                                    else
                                                                      bif (qiteB (qcmp BinOp.eql (qlen (qnth (Proofs.YtgklbalcneepoaaGreatDoor.q13 [(D.int sn0), (F4_a1 sn0 sd1 sd2), (F4_a0 sn0 sd1 sd2)]) 0)) 4) (qsome (Proofs.YtgklbalcneepoaaGreatDoor.q10 [])) Bool.true) then
                                                                        some [(D.bool (qiteB (qcmp BinOp.eql (qlen (qnth (Proofs.YtgklbalcneepoaaGreatDoor.q13 [(D.int sn0), (F4_a1 sn0 sd1 sd2), (F4_a0 sn0 sd1 sd2)]) 0)) 4) (qbool (qnth (Proofs.YtgklbalcneepoaaGreatDoor.q10 []) 0)) Bool.false))]
                                                                      else
                                                                        none
                                                                  else
                                                                    none
                                                                else
                                                                  none
                                                              else
                                                                bif (qiteB (qcmp BinOp.eql (qlen (qnth (Proofs.YtgklbalcneepoaaGreatDoor.q13 [(D.int sn0), (F4_a1 sn0 sd1 sd2), (F4_a0 sn0 sd1 sd2)]) 0)) 4) (qsome (Proofs.YtgklbalcneepoaaGreatDoor.q10 [])) Bool.true) then
                                                                  some [(D.bool (qiteB (qcmp BinOp.eql (qlen (qnth (Proofs.YtgklbalcneepoaaGreatDoor.q13 [(D.int sn0), (F4_a1 sn0 sd1 sd2), (F4_a0 sn0 sd1 sd2)]) 0)) 4) (qbool (qnth (Proofs.YtgklbalcneepoaaGreatDoor.q10 []) 0)) Bool.false))]
                                                                else
                                                                  none
                                                          else
                                                            none
                                                        else
                                                          none
                                                      else
                                                        bif (qiteB (qcmp BinOp.eql (qlen (qnth (Proofs.YtgklbalcneepoaaGreatDoor.q13 [(D.int sn0), (F4_a1 sn0 sd1 sd2), (F4_a0 sn0 sd1 sd2)]) 0)) 4) (qsome (Proofs.YtgklbalcneepoaaGreatDoor.q10 [])) Bool.true) then
                                                          some [(D.bool (qiteB (qcmp BinOp.eql (qlen (qnth (Proofs.YtgklbalcneepoaaGreatDoor.q13 [(D.int sn0), (F4_a1 sn0 sd1 sd2), (F4_a0 sn0 sd1 sd2)]) 0)) 4) (qbool (qnth (Proofs.YtgklbalcneepoaaGreatDoor.q10 []) 0)) Bool.false))]
                                                        else
                                                          none
                                                  else
                                                    none
                                                else
                                                  none
                                              else
                                                bif (qiteB (qcmp BinOp.eql (qlen (qnth (Proofs.YtgklbalcneepoaaGreatDoor.q13 [(D.int sn0), (F4_a1 sn0 sd1 sd2), (F4_a0 sn0 sd1 sd2)]) 0)) 4) (qsome (Proofs.YtgklbalcneepoaaGreatDoor.q10 [])) Bool.true) then
                                                  some [(D.bool (qiteB (qcmp BinOp.eql (qlen (qnth (Proofs.YtgklbalcneepoaaGreatDoor.q13 [(D.int sn0), (F4_a1 sn0 sd1 sd2), (F4_a0 sn0 sd1 sd2)]) 0)) 4) (qbool (qnth (Proofs.YtgklbalcneepoaaGreatDoor.q10 []) 0)) Bool.false))]
                                                else
                                                  none
                                          else
                                            none
                                        else
                                          none
                                      else
                                        bif (qiteB (qcmp BinOp.eql (qlen (qnth (Proofs.YtgklbalcneepoaaGreatDoor.q13 [(D.int sn0), (F4_a1 sn0 sd1 sd2), (F4_a0 sn0 sd1 sd2)]) 0)) 4) (qsome (Proofs.YtgklbalcneepoaaGreatDoor.q10 [])) Bool.true) then
                                          some [(D.bool (qiteB (qcmp BinOp.eql (qlen (qnth (Proofs.YtgklbalcneepoaaGreatDoor.q13 [(D.int sn0), (F4_a1 sn0 sd1 sd2), (F4_a0 sn0 sd1 sd2)]) 0)) 4) (qbool (qnth (Proofs.YtgklbalcneepoaaGreatDoor.q10 []) 0)) Bool.false))]
                                        else
                                          none
                                    else
                                      none
                                  else
                                    none
                                else
                                  none
                              else
                                none
                            else
                              none
                        else
                          none
                      else
                        bif (qiteB (qiteB (qcmp BinOp.neq sn0 6) (qcmp BinOp.neq sn0 7) Bool.false) (qcmp BinOp.neq sn0 15) Bool.false) then
                          bif (qsome (Proofs.YtgklbalcneepoaaGreatDoor.q10 [])) then
                            some [(D.bool (qbool (qnth (Proofs.YtgklbalcneepoaaGreatDoor.q10 []) 0)))]
                          else
                            none
                        else
                          bif (qsome (Proofs.YtgklbalcneepoaaGreatDoor.q18 [(D.bool (qbool (qfld (qnth (Proofs.YtgklbalcneepoaaGreatDoor.q16 [(D.int (qint (qfld sd2 0))), (D.int (qint (qfld sd2 1)))]) 1) 0)))])) then
                            bif (qsome (Proofs.YtgklbalcneepoaaGreatDoor.q18 [(D.bool (qbool (qfld (qnth (Proofs.YtgklbalcneepoaaGreatDoor.q16 [(D.int (qint (qfld sd2 0))), (D.int (qint (qfld sd2 1)))]) 1) 1)))])) then
                              bif (qsome (Proofs.YtgklbalcneepoaaGreatDoor.q18 [(D.bool (qbool (qfld (qnth (Proofs.YtgklbalcneepoaaGreatDoor.q16 [(D.int (qint (qfld sd2 0))), (D.int (qint (qfld sd2 1)))]) 1) 2)))])) then
                                bif (qsome (Proofs.YtgklbalcneepoaaGreatDoor.q18 [(D.bool (qbool (qfld (qnth (Proofs.YtgklbalcneepoaaGreatDoor.q16 [(D.int (qint (qfld sd2 0))), (D.int (qint (qfld sd2 1)))]) 1) 3)))])) then
                                  bif (qsome (Proofs.YtgklbalcneepoaaGreatDoor.q13 [(D.int sn0), (F4_a1 sn0 sd1 sd2), (F4_a0 sn0 sd1 sd2)])) then
                                    bif (qiteB (qcmp BinOp.lss 0 (qlen (qnth (Proofs.YtgklbalcneepoaaGreatDoor.q13 [(D.int sn0), (F4_a1 sn0 sd1 sd2), (F4_a0 sn0 sd1 sd2)]) 0))) Bool.true Bool.false) then
                                      bif (qinb (qnth (Proofs.YtgklbalcneepoaaGreatDoor.q13 [(D.int sn0), (F4_a1 sn0 sd1 sd2), (F4_a0 sn0 sd1 sd2)]) 0) 0) then
                                        bif (qsome (Proofs.YtgklbalcneepoaaGreatDoor.q19 [(qget (qnth (Proofs.YtgklbalcneepoaaGreatDoor.q13 [(D.int sn0), (F4_a1 sn0 sd1 sd2), (F4_a0 sn0 sd1 sd2)]) 0) 0), (F4_a3 sn0 sd1 sd2), (F4_a2 sn0 sd1 sd2)])) then
                                          bif (qiteB (qcmp BinOp.neq (qint (qnth (Proofs.YtgklbalcneepoaaGreatDoor.q19 [(qget (qnth (Proofs.YtgklbalcneepoaaGreatDoor.q13 [(D.int sn0), (F4_a1 sn0 sd1 sd2), (F4_a0 sn0 sd1 sd2)]) 0) 0), (F4_a3 sn0 sd1 sd2), (F4_a2 sn0 sd1 sd2)]) 0)) (qint (qnth (Proofs.YtgklbalcneepoaaGreatDoor.q18 [(D.bool (qbool (qfld (qnth (Proofs.YtgklbalcneepoaaGreatDoor.q16 [(D.int (qint (qfld sd2 0))), (D.int (qint (qfld sd2 1)))]) 1) 0)))]) 0))) Bool.true (qcmp BinOp.neq (qint (qnth (Proofs.YtgklbalcneepoaaGreatDoor.q19 [(qget (qnth (Proofs.YtgklbalcneepoaaGreatDoor.q13 [(D.int sn0), (F4_a1 sn0 sd1 sd2), (F4_a0 sn0 sd1 sd2)]) 0) 0), (F4_a3 sn0 sd1 sd2), (F4_a2 sn0 sd1 sd2)]) 1)) 0)) then
                                            some [(D.bool Bool.false)]
                                          else
                                            bif (qiteB (qcmp BinOp.lss 1 (qlen (qnth (Proofs.YtgklbalcneepoaaGreatDoor.q13 [(D.int sn0), (F4_a1 sn0 sd1 sd2), (F4_a0 sn0 sd1 sd2)]) 0))) Bool.true Bool.false) then
                                              bif (qinb (qnth (Proofs.YtgklbalcneepoaaGreatDoor.q13 [(D.int sn0), (F4_a1 sn0 sd1 sd2), (F4_a0 sn0 sd1 sd2)]) 0) 1) then
                                                bif (qsome (Proofs.YtgklbalcneepoaaGreatDoor.q19 [(qget (qnth (Proofs.YtgklbalcneepoaaGreatDoor.q13 [(D.int sn0), (F4_a1 sn0 sd1 sd2), (F4_a0 sn0 sd1 sd2)]) 0) 1), (F4_a3 sn0 sd1 sd2), (F4_a2 sn0 sd1 sd2)])) then
                                                  bif (qiteB (qcmp BinOp.neq (qint (qnth (Proofs.YtgklbalcneepoaaGreatDoor.q19 [(qget (qnth (Proofs.YtgklbalcneepoaaGreatDoor.q13 [(D.int sn0), (F4_a1 sn0 sd1 sd2), (F4_a0 sn0 sd1 sd2)]) 0) 1), (F4_a3 sn0 sd1 sd2), (F4_a2 sn0 sd1 sd2)]) 0)) (qint (qnth (Proofs.YtgklbalcneepoaaGreatDoor.q18 [(D.bool (qbool (qfld (qnth (Proofs.YtgklbalcneepoaaGreatDoor.q16 [(D.int (qint (qfld sd2 0))), (D.int (qint (qfld sd2 1)))]) 1) 1)))]) 0))) Bool.true (qcmp BinOp.neq (qint (qnth (Proofs.YtgklbalcneepoaaGreatDoor.q19 [(qget (qnth (Proofs.YtgklbalcneepoaaGreatDoor.q13 [(D.int sn0), (F4_a1 sn0 sd1 sd2), (F4_a0 sn0 sd1 sd2)]) 0) 1), (F4_a3 sn0 sd1 sd2), (F4_a2 sn0 sd1 sd2)]) 1)) 0)) then
                                                    some [(D.bool Bool.false)]
                                                  else
                                                    bif (qiteB (qcmp BinOp.lss 2 (qlen (qnth (Proofs.YtgklbalcneepoaaGreatDoor.q13 [(D.int sn0), (F4_a1 sn0 sd1 sd2), (F4_a0 sn0 sd1 sd2)]) 0))) Bool.true Bool.false) then
                                                      bif (qinb (qnth (Proofs.YtgklbalcneepoaaGreatDoor.q13 [(D.int sn0), (F4_a1 sn0 sd1 sd2), (F4_a0 sn0 sd1 sd2)]) 0) 2) then
                                                        bif (qsome (Proofs.YtgklbalcneepoaaGreatDoor.q19 [(qget (qnth (Proofs.YtgklbalcneepoaaGreatDoor.q13 [(D.int sn0), (F4_a1 sn0 sd1 sd2), (F4_a0 sn0 sd1 sd2)]) 0) 2), (F4_a3 sn0 sd1 sd2), (F4_a2 sn0 sd1 sd2)])) then
                                                          bif (qiteB (qcmp BinOp.neq (qint (qnth (Proofs.YtgklbalcneepoaaGreatDoor.q19 [(qget (qnth (Proofs.YtgklbalcneepoaaGreatDoor.q13 [(D.int sn0), (F4_a1 sn0 sd1 sd2), (F4_a0 sn0 sd1 sd2)]) 0) 2), (F4_a3 sn0 sd1 sd2), (F4_a2 sn0 sd1 sd2)]) 0)) (qint (qnth (Proofs.YtgklbalcneepoaaGreatDoor.q18 [(D.bool (qbool (qfld (qnth (Proofs.YtgklbalcneepoaaGreatDoor.q16 [(D.int (qint (qfld sd2 0))), (D.int (qint (qfld sd2 1)))]) 1) 2)))]) 0))) Bool.true (qcmp BinOp.neq (qint (qnth (Proofs.YtgklbalcneepoaaGreatDoor.q19 [(qget (qnth (Proofs.YtgklbalcneepoaaGreatDoor.q13 [(D.int sn0), (F4_a1 sn0 sd1 sd2), (F4_a0 sn0 sd1 sd2)]) 0) 2), (F4_a3 sn0 sd1 sd2), (F4_a2 sn0 sd1 sd2)]) 1)) 0)) then
                                                            some [(D.bool Bool.false)]
                                                          else
                                                            bif (qiteB (qcmp BinOp.lss 3 (qlen (qnth (Proofs.YtgklbalcneepoaaGreatDoor.q13 [(D.int sn0), (F4_a1 sn0 sd1 sd2), (F4_a0 sn0 sd1 sd2)]) 0))) Bool.true Bool.false) then
                                                              bif (qinb (qnth (Proofs.YtgklbalcneepoaaGreatDoor.q13 [(D.int sn0), (F4_a1 sn0 sd1 sd2), (F4_a0 sn0 sd1 sd2)]) 0) 3) then
                                                                bif (qsome (Proofs.YtgklbalcneepoaaGreatDoor.q19 [(qget (qnth (Proofs.YtgklbalcneepoaaGreatDoor.q13 [(D.int sn0), (F4_a1 sn0 sd1 sd2), (F4_a0 sn0 sd1 sd2)]) 0) 3), (F4_a3 sn0 sd1 sd2), (F4_a2 sn0 sd1 sd2)])) then
                                                                  bif (qiteB (qcmp BinOp.neq (qint (qnth (Proofs.YtgklbalcneepoaaGreatDoor.q19 [(qget (qnth (Proofs.YtgklbalcneepoaaGreatDoor.q13 [(D.int sn0), (F4_a1 sn0 sd1 sd2), (F4_a0 sn0 sd1 sd2)]) 0) 3), (F4_a3 sn0 sd1 sd2), (F4_a2 sn0 sd1 sd2)]) 0)) (qint (qnth (Proofs.YtgklbalcneepoaaGreatDoor.q18 [(D.bool (qbool (qfld (qnth (Proofs.YtgklbalcneepoaaGreatDoor.q16 [(D.int (qint (qfld sd2 0))), (D.int (qint (qfld sd2 1)))]) 1) 3)))]) 0))) Bool.true (qcmp BinOp.neq (qint (qnth (Proofs.YtgklbalcneepoaaGreatDoor.q19 [(qget (qnth (Proofs.YtgklbalcneepoaaGreatDoor.q13 [(D.int sn0), (F4_a1 sn0 sd1 sd2), (F4_a0 sn0 sd1 sd2)]) 0) 3), (F4_a3 sn0 sd1 sd2), (F4_a2 sn0 sd1 sd2)]) 1)) 0)) then
                                                                    some [(D.bool Bool.false)]
                                                                  else
                                                                    bif (qiteB (qcmp BinOp.eql (qlen (qnth (Proofs.YtgklbalcneepoaaGreatDoor.q13 [(D.int sn0), (F4_a1 sn0 sd1 sd2), (F4_a0 sn0 sd1 sd2)]) 0)) 4) (qsome (Proofs.YtgklbalcneepoaaGreatDoor.q10 [])) Bool.true) then
                                                                      some [(D.bool (qiteB (qcmp BinOp.eql (qlen (qnth (Proofs.YtgklbalcneepoaaGreatDoor.q13 [(D.int sn0), (F4_a1 sn0 sd1 sd2), (F4_a0 sn0 sd1 sd2)]) 0)) 4) (qbool (qnth (Proofs.YtgklbalcneepoaaGreatDoor.q10 []) 0)) Bool.false))]
                                                                    else
                                                                      none
                                                                else
                                                                  none
                                                              else
                                                                none
                                                            else
                                                              bif (qiteB (qcmp BinOp.eql (qlen (qnth (Proofs.YtgklbalcneepoaaGreatDoor.q13 [(D.int sn0), (F4_a1 sn0 sd1 sd2), (F4_a0 sn0 sd1 sd2)]) 0)) 4) (qsome (Proofs.YtgklbalcneepoaaGreatDoor.q10 [])) Bool.true) then
                                                                some [(D.bool (qiteB (qcmp BinOp.eql (qlen (qnth (Proofs.YtgklbalcneepoaaGreatDoor.q13 [(D.int sn0), (F4_a1 sn0 sd1 sd2), (F4_a0 sn0 sd1 sd2)]) 0)) 4) (qbool (qnth (Proofs.YtgklbalcneepoaaGreatDoor.q10 []) 0)) Bool.false))]
                                                              else
                                                                none
                                                        else
                                                          none
                                                      else
                                                        none
                                                    else
                                                      bif (qiteB (qcmp BinOp.eql (qlen (qnth (Proofs.YtgklbalcneepoaaGreatDoor.q13 [(D.int sn0), (F4_a1 sn0 sd1 sd2), (F4_a0 sn0 sd1 sd2)]) 0)) 4) (qsome (Proofs.YtgklbalcneepoaaGreatDoor.q10 [])) Bool.true) then
                                                        some [(D.bool (qiteB (qcmp BinOp.eql (qlen (qnth (Proofs.YtgklbalcneepoaaGreatDoor.q13 [(D.int sn0), (F4_a1 sn0 sd1 sd2), (F4_a0 sn0 sd1 sd2)]) 0)) 4) (qbool (qnth (Proofs.YtgklbalcneepoaaGreatDoor.q10 []) 0)) Bool.false))]
                                                      else
                                                        none
                                                else
                                                  none
                                              else
                                                none
                                            else
                                              bif (qiteB (qcmp BinOp.eql (qlen (qnth (Proofs.YtgklbalcneepoaaGreatDoor.q13 [(D.int sn0), (F4_a1 sn0 sd1 sd2), (F4_a0 sn0 sd1 sd2)]) 0)) 4) (qsome (Proofs.YtgklbalcneepoaaGreatDoor.q10 [])) Bool.true) then
                                                some [(D.bool (qiteB (qcmp BinOp.eql (qlen (qnth (Proofs.YtgklbalcneepoaaGreatDoor.q13 [(D.int sn0), (F4_a1 sn0 sd1 sd2), (F4_a0 sn0 sd1 sd2)]) 0)) 4) (qbool (qnth (Proofs.YtgklbalcneepoaaGreatDoor.q10 []) 0)) Bool.false))]
                                              else
                                                none
                                        else
                                          none
                                      else
                                        none
                                    else
                                      bif (qiteB (qcmp BinOp.eql (qlen (qnth (Proofs.YtgklbalcneepoaaGreatDoor.q13 [(D.int sn0), (F4_a1 sn0 sd1 sd2), (F4_a0 sn0 sd1 sd2)]) 0)) 4) (qsome (Proofs.YtgklbalcneepoaaGreatDoor.q10 [])) Bool.true) then
                                        some [(D.bool (qiteB (qcmp BinOp.eql (qlen (qnth (Proofs.YtgklbalcneepoaaGreatDoor.q13 [(D.int sn0), (F4_a1 sn0 sd1 sd2), (F4_a0 sn0 sd1 sd2)]) 0)) 4) (qbool (qnth (Proofs.YtgklbalcneepoaaGreatDoor.q10 []) 0)) Bool.false))]
                                      else
                                        none
                                  else
                                    none
                                else
                                  none
                              else
                                none
                            else
                              none
                          else
                            none
                    else
                      none
                  else
                    some [(D.bool Bool.false)]
                else
                  none
            else
              none
          else
            none
      else
        none
    else
      none := by kernel_rfl

noncomputable def q4 : List D → Option (List D) := veil (F4 )

theorem q4_eq : q4  = F4  := veil_eq _

noncomputable def tb4 : Tb := Tb.addF tbl4_8 4 S4 (q4 )

theorem ok_tb4 : TbOk env (tb4 ) := addFunF ok_tbl4_8 4 (by kernel_rfl) _ (q4_eq )

end Go.Proofs.YtgklbalcneepoaaGreatDoor

namespace Go.AM

theorem qsome_s (r : List D) : qsome (some r) = true := by rw [qsome_eq]; rfl
theorem qsome_n : qsome none = false := by rw [qsome_eq]; rfl
theorem qnth_s (r : List D) (j : Nat) : qnth (some r) j = r.getD j .other := by rw [qnth_eq]; rfl
theorem qint_i (n : Int) : qint (.int n) = n := by rw [qint_eq]; rfl
theorem qbool_b (b : Bool) : qbool (.bool b) = b := by rw [qbool_eq]; rfl
theorem qstr_s (s : ByteArray) : qstr (.str s) = s := by rw [qstr_eq]; rfl
theorem qcmp_lss (a b : Int) : qcmp .lss a b = decide (a < b) := by rw [qcmp_eq]; rfl
theorem qcmp_leq (a b : Int) : qcmp .leq a b = decide (a ≤ b) := by rw [qcmp_eq]; rfl
theorem qcmp_gtr (a b : Int) : qcmp .gtr a b = decide (b < a) := by rw [qcmp_eq]; rfl
theorem qcmp_geq (a b : Int) : qcmp .geq a b = decide (b ≤ a) := by rw [qcmp_eq]; rfl
theorem qcmp_eql (a b : Int) : qcmp .eql a b = decide (a = b) := by rw [qcmp_eq]; simp only [rcmp]; cases h : decide (a = b) <;> simp_all
theorem qcmp_neq (a b : Int) : qcmp .neq a b = !decide (a = b) := by rw [qcmp_eq]; simp only [rcmp, bne]; cases h : decide (a = b) <;> simp_all
theorem qiteB_c (c a b : Bool) : qiteB c a b = bif c then a else b := by rw [qiteB_eq]
theorem qnot_c (a : Bool) : qnot a = !a := by rw [qnot_eq]
theorem qlen_c (d : D) : qlen d = (d.toList.length : Int) := by rw [qlen_eq]; rfl
theorem qinb_c (d : D) (i : Int) : qinb d i = (decide (0 ≤ i) && decide (i < d.toList.length)) := by rw [qinb_eq]; rfl
theorem qget_n (d : D) (i : Nat) : qget d (i : Int) = d.toList.getD i .other := by rw [qget_eq]; simp [D.get]
theorem qinb_n {d : D} {i : Nat} (h : i < d.toList.length) : qinb d (i : Int) = true := by rw [qinb_c]; simp; omega

theorem cond_dec {α : Type} (p : Prop) [Decidable p] (a b : α) : (bif decide p then a else b) = if p then a else b := by by_cases h : p <;> simp [h]

/-- A loop that counts: so many rounds more. -/
def forN {A R : Type} (body : Nat → A → Option (Sum A R)) (fin : A → R) : Nat → Nat → A → Option R
  | _, 0, a => some (fin a)
  | i, k + 1, a => match body i a with
    | none => none
    | some (.inl a') => forN body fin (i + 1) k a'
    | some (.inr r) => some r

theorem loW_for {A S R : Type} {st : S → Option (Sum S R)} {enc : Nat → A → S} {n : Nat} {body : Nat → A → Option (Sum A R)} {fin : A → R} {I : Nat → A → Prop}
    (h1 : ∀ i a, i < n → I i a → st (enc i a) = match body i a with
      | none => none
      | some (.inl a') => some (.inl (enc (i + 1) a'))
      | some (.inr r) => some (.inr r))
    (h0 : ∀ a, I n a → st (enc n a) = some (.inr (fin a))) (hI : ∀ i a a', i < n → I i a → body i a = some (.inl a') → I (i + 1) a') :
    ∀ k i a, i + k = n → I i a → loW st (enc i a) = forN body fin i k a := by
  intro k
  induction k with
  | zero =>
    intro i a hi ha
    obtain rfl : i = n := by omega
    rw [loW_eq, h0 a ha]; rfl
  | succ k ih =>
    intro i a hi ha
    rw [loW_eq, h1 i a (by omega) ha]
    simp only [forN]
    cases hb : body i a with
    | none => rfl
    | some x =>
      cases x with
      | inr r => rfl
      | inl a' => exact ih (i + 1) a' (by omega) (hI i a a' (by omega) ha hb)

/-- A search: the first place at which there is an answer. -/
def srch {R : Type} (f : Nat → Option R) (r0 : R) : Nat → Nat → R
  | _, 0 => r0
  | i, k + 1 => match f i with
    | none => srch f r0 (i + 1) k
    | some r => r

theorem loW_srch {S R : Type} {st : S → Option (Sum S R)} {enc : Nat → S} {n : Nat} {f : Nat → Option R} {r0 : R}
    (h1 : ∀ i, i < n → st (enc i) = match f i with
      | none => some (.inl (enc (i + 1)))
      | some r => some (.inr r))
    (h0 : st (enc n) = some (.inr r0)) : ∀ k i, i + k = n → loW st (enc i) = some (srch f r0 i k) := by
  intro k
  induction k with
  | zero =>
    intro i hi
    obtain rfl : i = n := by omega
    rw [loW_eq, h0]; rfl
  | succ k ih =>
    intro i hi
    rw [loW_eq, h1 i (by omega)]
    simp only [srch]
    cases hb : f i with
    | some r => rfl
    | none => exact ih (i + 1) (by omega)

/-- A search in a list. -/
def srchL {α R : Type} (f : Nat → α → Option R) (r0 : R) : Nat → List α → R
  | _, [] => r0
  | i, x :: xs => match f i x with
    | none => srchL f r0 (i + 1) xs
    | some r => r

theorem srch_list {R : Type} {f : Nat → Option R} {g : Nat → D → Option R} {r0 : R} {xs : List D} (h : ∀ i x, xs[i]? = some x → f i = g i x) : ∀ k i, i + k = xs.length → srch f r0 i k = srchL g r0 i (xs.drop i) := by
  intro k
  induction k with
  | zero => intro i hi; rw [List.drop_of_length_le (by omega)]; rfl
  | succ k ih =>
    intro i hi
    have hlt : i < xs.length := by omega
    rw [List.drop_eq_getElem_cons hlt]
    simp only [srch, srchL]
    rw [h i xs[i] (List.getElem?_eq_getElem hlt)]
    cases g i xs[i] with
    | some r => rfl
    | none => exact ih (i + 1) (by omega)

/-- Does one of the list fit? -/
theorem srchL_any {R : Type} {p : D → Bool} {r : Nat → R} {r0 : R} {P : R → Bool} (h0 : P r0 = false) (h1 : ∀ i, P (r i) = true) : ∀ (xs : List D) (i : Nat), P (srchL (fun i x => if p x then some (r i) else none) r0 i xs) = xs.any p
  | [], i => h0
  | x :: xs, i => by
    simp only [srchL, List.any_cons]
    cases hp : p x with
    | true => simp [h1]
    | false => simpa using srchL_any h0 h1 xs (i + 1)

theorem getD_lt {xs : List D} {i : Nat} (h : i < xs.length) : xs.getD i .other = xs[i] := by simp [List.getD, h]

theorem wrap64' {n : Int} (h0 : -9223372036854775808 ≤ n) (h1 : n ≤ 9223372036854775807) : IntKind.i64.wrap n = n := wrap64 h0 h1

theorem add_nat {i : Nat} (h : i < 9223372036854775807) : qbin .add .i64 (i : Int) 1 = ((i + 1 : Nat) : Int) := by
  rw [add64 (by omega) (by omega)]; omega

/-- A search with a test that is a function. -/
theorem idxLoop {st : List D → Option (Sum (List D) (List D))} {l : D} {c : D → Option (List D)} {p : D → Bool} {r1 : Int → List D} {r0 : List D}
    (hst : ∀ i : Int, st [.int i] = bif qcmp .lss i (qlen l) then bif qinb l i then bif qsome (c (qget l i)) then bif qbool (qnth (c (qget l i)) 0) then some (.inr (r1 i)) else some (.inl [.int (qbin .add .i64 i 1)]) else none else none else some (.inr r0))
    (hl : l.toList.length ≤ maxLen) (hc : ∀ x ∈ l.toList, c x = some [.bool (p x)]) :
    (loW st [.int 0] = some r0 ∧ l.toList.any p = false) ∨ ∃ i : Nat, loW st [.int 0] = some (r1 i) ∧ l.toList.any p = true := by
  unfold maxLen at hl
  have key : ∀ k i : Nat, i + k = l.toList.length → (loW st [.int i] = some r0 ∧ (l.toList.drop i).any p = false) ∨ ∃ j : Nat, loW st [.int i] = some (r1 j) ∧ (l.toList.drop i).any p = true := by
    intro k
    induction k with
    | zero =>
      intro i hi
      left
      rw [loW_eq, hst, qcmp_lss, qlen_c, List.drop_of_length_le (by omega)]
      simp [show ¬ ((i : Int) < l.toList.length) by omega]
    | succ k ih =>
      intro i hi
      have hlt : i < l.toList.length := by omega
      rw [loW_eq, hst, qcmp_lss, qlen_c, qinb_n hlt, qget_n, getD_lt hlt, hc _ (List.getElem_mem hlt), List.drop_eq_getElem_cons hlt]
      simp only [show ((i : Int) < l.toList.length) by omega, decide_true, cond_true, qsome_s, qnth_s, List.getD_cons_zero, qbool_b, List.any_cons]
      cases hp : p l.toList[i] with
      | true => exact .inr ⟨i, rfl, by simp⟩
      | false =>
        simp only [cond_false, Bool.false_or]
        rw [add_nat (by omega)]
        exact ih (i + 1) (by omega)
  have := key l.toList.length 0 (by omega)
  simpa using this

theorem size_elem {d : D} {j : Nat} {x : D} (h : x ∈ (d.fld j).toList) : x.size < d.size := by
  cases d with
  | agg xs =>
    simp only [D.fld, List.getD] at h
    cases hx : xs[j]? with
    | none => rw [hx] at h; simp [D.toList] at h
    | some y =>
      rw [hx] at h
      simp only [Option.getD_some] at h
      have h1 := sizes_get hx
      cases y with
      | list ys =>
        simp only [D.toList] at h
        obtain ⟨i, hi⟩ := List.getElem?_of_mem h
        have h2 := sizes_get hi
        simp only [D.size] at h1 ⊢
        omega
      | _ => simp [D.toList] at h
  | _ => simp [D.fld, D.toList] at h

end Go.AM

namespace Go.Proofs.YtgklbalcneepoaaGreatDoor
set_option linter.unusedSimpArgs false
open Go Go.AM

/-- The shape of an instruction, if its opcode exists. -/
def shp (o f w cc : Int) : Option Int :=
  if 0 ≤ o ∧ o ≤ 2 then some 0
  else if o = 3 ∨ o = 4 then some 1
  else if 5 ≤ o ∧ o ≤ 15 then (if f = 0 then some 3 else if f = 1 then some 4 else if f = 2 then some 6 else none)
  else if o = 16 ∨ o = 18 then (if w = 1 ∨ w = 2 ∨ w = 4 then some 5 else none)
  else if o = 17 then (if w = 1 ∨ w = 2 then some 5 else none)
  else if o = 19 then some 5
  else if o = 20 then (if 0 ≤ cc ∧ cc ≤ 14 then (if f = 1 then some 7 else if f = 2 then some 8 else none) else none)
  else if o = 25 then (if 0 ≤ cc ∧ cc ≤ 14 then some 2 else none)
  else if o = 23 then some 8
  else if o = 24 ∨ o = 21 ∨ o = 26 ∨ o = 27 then some 2
  else if o = 22 then some 6
  else none

theorem ocases (o : Int) : (o < 0 ∨ 27 < o) ∨ (o = 0 ∨ o = 1 ∨ o = 2) ∨ o = 3 ∨ o = 4 ∨ (5 ≤ o ∧ o ≤ 15) ∨ o = 16 ∨ o = 17 ∨ o = 18 ∨ o = 19 ∨ o = 20 ∨ o = 21 ∨ o = 22 ∨ o = 23 ∨ o = 24 ∨ o = 25 ∨ o = 26 ∨ o = 27 := by omega

theorem acc_spec (d : D) (ho : qint (qfld d 2) = 16 ∨ qint (qfld d 2) = 17 ∨ qint (qfld d 2) = 18) :
    (∃ c, q155 [d] = some [.int c, .int 5, .bool true] ∧ shp (qint (qfld d 2)) (qint (qfld d 3)) (qint (qfld d 4)) (qint (qfld d 5)) = some 5) ∨
    (∃ c, q155 [d] = some [.int c, .int 5, .bool false] ∧ shp (qint (qfld d 2)) (qint (qfld d 3)) (qint (qfld d 4)) (qint (qfld d 5)) = none) := by
  rw [q155_eq, F155_eq]
  generalize qint (qfld d 2) = o at *
  generalize qint (qfld d 3) = f at *
  generalize qint (qfld d 4) = w at *
  simp only [qand_eq, qcmp_eql]
  rcases ho with rfl | rfl | rfl <;> by_cases h1 : w = 1 <;> by_cases h2 : w = 2 <;> by_cases h4 : w = 4 <;> first | omega | simp [*, shp]

theorem cc_spec (d : D) (ho : qint (qfld d 2) = 20 ∨ qint (qfld d 2) = 25) :
    (∃ c s, q156 [d] = some [.int c, .int s, .bool true] ∧ shp (qint (qfld d 2)) (qint (qfld d 3)) (qint (qfld d 4)) (qint (qfld d 5)) = some s) ∨
    (∃ c s, q156 [d] = some [.int c, .int s, .bool false] ∧ shp (qint (qfld d 2)) (qint (qfld d 3)) (qint (qfld d 4)) (qint (qfld d 5)) = none) := by
  rw [q156_eq, F156_eq]
  generalize qint (qfld d 2) = o at *
  generalize qint (qfld d 3) = f at *
  generalize qint (qfld d 4) = w at *
  generalize qint (qfld d 5) = cc at *
  simp only [qiteB_c, qcmp_eql, qcmp_lss, qcmp_gtr]
  rcases ho with rfl | rfl <;> by_cases h1 : cc < 0 <;> by_cases h2 : 14 < cc <;> by_cases h3 : f = 1 <;> by_cases h4 : f = 2 <;> first | omega | (simp [*, shp]; done) | (simp [*, shp]; omega)

/-- The opcode's shape. -/
theorem op_spec (d : D) :
    (∃ c s, q109 [d] = some [.int c, .int s, .bool true] ∧ shp (qint (qfld d 2)) (qint (qfld d 3)) (qint (qfld d 4)) (qint (qfld d 5)) = some s) ∨
    (∃ c s, q109 [d] = some [.int c, .int s, .bool false] ∧ shp (qint (qfld d 2)) (qint (qfld d 3)) (qint (qfld d 4)) (qint (qfld d 5)) = none) := by
  have hacc := acc_spec d
  have hcc := cc_spec d
  rw [q109_eq, F109_eq]
  generalize qint (qfld d 2) = o at *
  generalize qint (qfld d 3) = f at *
  generalize qint (qfld d 4) = w at *
  generalize qint (qfld d 5) = cc at *
  generalize qint (qfld d 6) = a at *
  simp only [qiteB_c, qcmp_eql, qcmp_geq, qcmp_leq]
  rcases ocases o with h | h | rfl | rfl | h | rfl | rfl | rfl | rfl | rfl | rfl | rfl | rfl | rfl | rfl | rfl | rfl
  · right
    simp [shp, show ¬ o = 0 by omega, show ¬ o = 1 by omega, show ¬ o = 2 by omega, show ¬ o = 3 by omega, show ¬ o = 4 by omega, show ¬ (5 ≤ o ∧ o ≤ 15) by omega, show ¬ (0 ≤ o ∧ o ≤ 2) by omega, show ¬ o = 16 by omega, show ¬ o = 17 by omega, show ¬ o = 18 by omega, show ¬ o = 19 by omega, show ¬ o = 20 by omega, show ¬ o = 21 by omega, show ¬ o = 22 by omega, show ¬ o = 23 by omega, show ¬ o = 24 by omega, show ¬ o = 25 by omega, show ¬ o = 26 by omega, show ¬ o = 27 by omega]
    rcases h with h | h
    · simp [show ¬ 5 ≤ o by omega]
    · simp [show ¬ o ≤ 15 by omega]
  · left
    rcases h with rfl | rfl | rfl <;> simp [shp]
  · left; simp [shp]
  · left; simp [shp]
  · obtain ⟨h1, h2⟩ := h
    by_cases f0 : f = 0
    · left; subst f0; simp [shp, h1, h2, show ¬ o = 0 by omega, show ¬ o = 1 by omega, show ¬ o = 2 by omega, show ¬ o = 3 by omega, show ¬ o = 4 by omega, show ¬ o ≤ 2 by omega]
    by_cases f1 : f = 1
    · left; subst f1; simp [shp, h1, h2, show ¬ o = 0 by omega, show ¬ o = 1 by omega, show ¬ o = 2 by omega, show ¬ o = 3 by omega, show ¬ o = 4 by omega, show ¬ o ≤ 2 by omega]
    by_cases f2 : f = 2
    · left; subst f2; simp [shp, h1, h2, show ¬ o = 0 by omega, show ¬ o = 1 by omega, show ¬ o = 2 by omega, show ¬ o = 3 by omega, show ¬ o = 4 by omega, show ¬ o ≤ 2 by omega]
    · right; simp [shp, f0, f1, f2, h1, h2, show ¬ o = 0 by omega, show ¬ o = 1 by omega, show ¬ o = 2 by omega, show ¬ o = 3 by omega, show ¬ o = 4 by omega, show ¬ o ≤ 2 by omega]
  · rcases hacc (by simp) with ⟨c, h, hs⟩ | ⟨c, h, hs⟩
    · left; exact ⟨c, 5, by simp [h, qsome_s, qnth_s, qint_i, qbool_b], hs⟩
    · right; exact ⟨c, 5, by simp [h, qsome_s, qnth_s, qint_i, qbool_b], hs⟩
  · rcases hacc (by simp) with ⟨c, h, hs⟩ | ⟨c, h, hs⟩
    · left; exact ⟨c, 5, by simp [h, qsome_s, qnth_s, qint_i, qbool_b], hs⟩
    · right; exact ⟨c, 5, by simp [h, qsome_s, qnth_s, qint_i, qbool_b], hs⟩
  · rcases hacc (by simp) with ⟨c, h, hs⟩ | ⟨c, h, hs⟩
    · left; exact ⟨c, 5, by simp [h, qsome_s, qnth_s, qint_i, qbool_b], hs⟩
    · right; exact ⟨c, 5, by simp [h, qsome_s, qnth_s, qint_i, qbool_b], hs⟩
  · left; simp [shp]
  · rcases hcc (by simp) with ⟨c, s, h, hs⟩ | ⟨c, s, h, hs⟩
    · left; exact ⟨c, s, by simp [h, qsome_s, qnth_s, qint_i, qbool_b], hs⟩
    · right; exact ⟨c, s, by simp [h, qsome_s, qnth_s, qint_i, qbool_b], hs⟩
  · left; simp [shp]
  · left; simp [shp]
  · left; simp [shp]
  · left; simp [shp]
  · rcases hcc (by simp) with ⟨c, s, h, hs⟩ | ⟨c, s, h, hs⟩
    · left; exact ⟨c, s, by simp [h, qsome_s, qnth_s, qint_i, qbool_b], hs⟩
    · right; exact ⟨c, s, by simp [h, qsome_s, qnth_s, qint_i, qbool_b], hs⟩
  · left; simp [shp]
  · left; simp [shp]

/-- What is kept of an instruction. -/
theorem kept_spec (d : D) (s : Int) : q111 [d, .int s] = some [.agg [.int (qint (qfld d 0)), .int (if 4 ≤ s ∧ s ≤ 8 then qint (qfld d 1) else 0), .int (qint (qfld d 2)),
    .int (if 5 ≤ qint (qfld d 2) ∧ qint (qfld d 2) ≤ 15 ∨ qint (qfld d 2) = 20 then qint (qfld d 3) else 0), .int (if 16 ≤ qint (qfld d 2) ∧ qint (qfld d 2) ≤ 18 then qint (qfld d 4) else 0),
    .int (if qint (qfld d 2) = 20 ∨ qint (qfld d 2) = 25 then qint (qfld d 5) else 0), .int (if 1 ≤ s ∧ s ≤ 6 then qint (qfld d 6) else 0), .int (if s = 3 ∨ s = 5 then qint (qfld d 7) else 0), .int (qint (qfld d 8))]] := by
  rw [q111_eq, F111_eq]
  generalize qint (qfld d 2) = o at *
  simp only [qiteB_c, qcmp_eql, qcmp_geq, qcmp_leq]
  have hsc : (s < 1 ∨ 8 < s) ∨ s = 1 ∨ s = 2 ∨ s = 3 ∨ s = 4 ∨ s = 5 ∨ s = 6 ∨ s = 7 ∨ s = 8 := by omega
  have hoc : (o < 5 ∨ (18 < o ∧ o ≠ 20 ∧ o ≠ 25)) ∨ (5 ≤ o ∧ o ≤ 15) ∨ o = 16 ∨ o = 17 ∨ o = 18 ∨ o = 20 ∨ o = 25 := by omega
  rcases hoc with ho | ho | rfl | rfl | rfl | rfl | rfl
  · have e1 : ¬ (5 ≤ o ∧ o ≤ 15) := by omega
    have e2 : (decide (5 ≤ o) && decide (o ≤ 15)) = false := by simp; omega
    rcases hsc with hs | rfl | rfl | rfl | rfl | rfl | rfl | rfl | rfl
    · simp [e1, e2, show ¬ o = 16 by omega, show ¬ o = 17 by omega, show ¬ o = 18 by omega, show ¬ o = 20 by omega, show ¬ o = 25 by omega, show ¬ (16 ≤ o ∧ o ≤ 18) by omega, show ¬ s = 1 by omega, show ¬ s = 2 by omega, show ¬ s = 3 by omega, show ¬ s = 4 by omega, show ¬ s = 5 by omega, show ¬ s = 6 by omega, show ¬ s = 7 by omega, show ¬ s = 8 by omega, show ¬ (1 ≤ s ∧ s ≤ 6) by omega, show ¬ (4 ≤ s ∧ s ≤ 8) by omega]
    all_goals
      simp [e1, e2, show ¬ o = 16 by omega, show ¬ o = 17 by omega, show ¬ o = 18 by omega, show ¬ o = 20 by omega, show ¬ o = 25 by omega, show ¬ (16 ≤ o ∧ o ≤ 18) by omega]
  · rcases hsc with hs | rfl | rfl | rfl | rfl | rfl | rfl | rfl | rfl
    · simp [ho.1, ho.2, show ¬ o = 16 by omega, show ¬ o = 17 by omega, show ¬ o = 18 by omega, show ¬ o = 20 by omega, show ¬ o = 25 by omega, show ¬ (16 ≤ o ∧ o ≤ 18) by omega, show ¬ s = 1 by omega, show ¬ s = 2 by omega, show ¬ s = 3 by omega, show ¬ s = 4 by omega, show ¬ s = 5 by omega, show ¬ s = 6 by omega, show ¬ s = 7 by omega, show ¬ s = 8 by omega, show ¬ (1 ≤ s ∧ s ≤ 6) by omega, show ¬ (4 ≤ s ∧ s ≤ 8) by omega]
    all_goals simp [ho.1, ho.2, show ¬ o = 16 by omega, show ¬ o = 17 by omega, show ¬ o = 18 by omega, show ¬ o = 20 by omega, show ¬ o = 25 by omega, show ¬ (16 ≤ o ∧ o ≤ 18) by omega]
  all_goals
    rcases hsc with hs | rfl | rfl | rfl | rfl | rfl | rfl | rfl | rfl
    · simp [show ¬ s = 1 by omega, show ¬ s = 2 by omega, show ¬ s = 3 by omega, show ¬ s = 4 by omega, show ¬ s = 5 by omega, show ¬ s = 6 by omega, show ¬ s = 7 by omega, show ¬ s = 8 by omega, show ¬ (1 ≤ s ∧ s ≤ 6) by omega, show ¬ (4 ≤ s ∧ s ≤ 8) by omega]
    all_goals simp

/-- What of an instruction must fit its shape. -/
def okA (s o f w cc a b imm j : Int) : Prop :=
  (0 ≤ a ∧ a < 8) ∧ (0 ≤ b ∧ b < 8) ∧ (4 ≤ s ∧ s ≤ 8 ∨ imm = 0) ∧ (5 ≤ o ∧ o ≤ 15 ∨ o = 20 ∨ f = 0) ∧ (16 ≤ o ∧ o ≤ 18 ∨ w = 0) ∧ (o = 20 ∨ o = 25 ∨ cc = 0) ∧ (1 ≤ s ∧ s ≤ 6 ∨ a = 0) ∧ (s = 3 ∨ s = 5 ∨ b = 0) ∧
  (s = 4 ∨ s = 5 → imm ≤ 127 ∨ 4294967168 ≤ imm) ∧ (s = 7 → j ≤ 127 ∨ 4294967168 ≤ j)

/-- The same, without the ranges. -/
def okArg (s o f w cc a b imm : Int) : Prop :=
  (0 ≤ a ∧ a < 8) ∧ (0 ≤ b ∧ b < 8) ∧ (4 ≤ s ∧ s ≤ 8 ∨ imm = 0) ∧ (5 ≤ o ∧ o ≤ 15 ∨ o = 20 ∨ f = 0) ∧ (16 ≤ o ∧ o ≤ 18 ∨ w = 0) ∧ (o = 20 ∨ o = 25 ∨ cc = 0) ∧ (1 ≤ s ∧ s ≤ 6 ∨ a = 0) ∧ (s = 3 ∨ s = 5 ∨ b = 0)

/-- The number that a short jump holds. -/
noncomputable def short (d : D) : Int := qbin .sub .u32 (qbin .sub .u32 (qint (qfld d 1)) (qint (qfld d 0))) 2

/-- Has an instruction an encoding, of that shape? -/
def hasS (d : D) (s : Int) : Prop :=
  shp (qint (qfld d 2)) (qint (qfld d 3)) (qint (qfld d 4)) (qint (qfld d 5)) = some s ∧ okA s (qint (qfld d 2)) (qint (qfld d 3)) (qint (qfld d 4)) (qint (qfld d 5)) (qint (qfld d 6)) (qint (qfld d 7)) (qint (qfld d 1)) (short d)

/-- Are its operands right? -/
def argOk (d : D) : Prop :=
  ∃ s, shp (qint (qfld d 2)) (qint (qfld d 3)) (qint (qfld d 4)) (qint (qfld d 5)) = some s ∧ okArg s (qint (qfld d 2)) (qint (qfld d 3)) (qint (qfld d 4)) (qint (qfld d 5)) (qint (qfld d 6)) (qint (qfld d 7)) (qint (qfld d 1))

theorem qfld_agg (xs : List D) (j : Nat) : qfld (.agg xs) j = xs.getD j .other := by rw [qfld_eq]; rfl

theorem keq (C : Prop) [Decidable C] (x : Int) : decide ((if C then x else 0) = x) = decide (C ∨ x = 0) := by
  by_cases h : C
  · simp [h]
  · simp [h]; exact ⟨fun e => e.symm, fun e => e.symm⟩
theorem dself (x : Int) : decide (x = x) = true := by simp

theorem narB (s i j : Int) : (bif bif (bif decide (s = 4) then true else decide (s = 5)) then !(bif decide (i ≤ 127) then true else decide (4294967168 ≤ i)) else false then true else
    bif decide (s = 7) then !(bif decide (j ≤ 127) then true else decide (4294967168 ≤ j)) else false) = !decide ((s = 4 ∨ s = 5 → i ≤ 127 ∨ 4294967168 ≤ i) ∧ (s = 7 → j ≤ 127 ∨ 4294967168 ≤ j)) := by
  by_cases i1 : i ≤ 127 <;> by_cases i2 : 4294967168 ≤ i <;> by_cases j1 : j ≤ 127 <;> by_cases j2 : 4294967168 ≤ j <;> simp only [i1, i2, j1, j2, decide_true, decide_false, cond_true, cond_false, Bool.not_true, Bool.not_false, true_or, or_true, or_false, imp_true_iff, and_true, true_and, Bool.cond_self] <;>
    by_cases e4 : s = 4 <;> by_cases e5 : s = 5 <;> by_cases e7 : s = 7 <;> first | omega | simp [e4, e5, e7]

theorem chk69 (d : D) : (∃ c s, q66 [d] = some [.int c, .int s, .int 0] ∧ hasS d s ∧ q109 [d] = some [.int c, .int s, .bool true]) ∨ (∃ e, q66 [d] = some [.int 0, .int 0, .int e] ∧ e ≠ 0 ∧ (∀ s, ¬ hasS d s) ∧ (e = 2 ∧ ¬ argOk d ∨ e = 7 ∧ argOk d)) := by
  rw [q66_eq, F66_eq]
  rcases op_spec d with ⟨c, s, h, hs⟩ | ⟨c, s, h, hs⟩
  · rw [h]
    simp only [qsome_s, qnth_s, List.getD_cons_zero, List.getD_cons_succ, qint_i, qbool_b, qnot_c, qiteB_c, qcmp_eql, qcmp_geq, qcmp_lss, qcmp_leq, kept_spec, qfld_agg, qand_eq]
    have key : hasS d s ↔ okA s (qint (qfld d 2)) (qint (qfld d 3)) (qint (qfld d 4)) (qint (qfld d 5)) (qint (qfld d 6)) (qint (qfld d 7)) (qint (qfld d 1)) (short d) := by
      unfold hasS; simp [hs]
    have keyn : ∀ s', s' ≠ s → ¬ hasS d s' := fun s' hne h' => by
      have := h'.1; rw [hs] at this; simp at this; omega
    have kna : ¬ okArg s (qint (qfld d 2)) (qint (qfld d 3)) (qint (qfld d 4)) (qint (qfld d 5)) (qint (qfld d 6)) (qint (qfld d 7)) (qint (qfld d 1)) → ¬ argOk d := fun h1 ⟨s', h2, h3⟩ => by
      rw [hs] at h2; injection h2 with h2; subst h2; exact h1 h3
    have kn : ¬ hasS d s → ∀ s', ¬ hasS d s' := fun h1 s' h2 => by
      by_cases e : s' = s
      · exact h1 (e ▸ h2)
      · exact keyn s' e h2
    change _ ∨ _
    rw [show qbin BinOp.sub IntKind.u32 (qbin BinOp.sub IntKind.u32 (qint (qfld d 1)) (qint (qfld d 0))) 2 = short d from rfl]
    by_cases ha : 0 ≤ qint (qfld d 6) ∧ qint (qfld d 6) < 8
    · by_cases hb : 0 ≤ qint (qfld d 7) ∧ qint (qfld d 7) < 8
      · by_cases hk : (4 ≤ s ∧ s ≤ 8 ∨ qint (qfld d 1) = 0) ∧ (5 ≤ qint (qfld d 2) ∧ qint (qfld d 2) ≤ 15 ∨ qint (qfld d 2) = 20 ∨ qint (qfld d 3) = 0) ∧ (16 ≤ qint (qfld d 2) ∧ qint (qfld d 2) ≤ 18 ∨ qint (qfld d 4) = 0) ∧ (qint (qfld d 2) = 20 ∨ qint (qfld d 2) = 25 ∨ qint (qfld d 5) = 0) ∧ (1 ≤ s ∧ s ≤ 6 ∨ qint (qfld d 6) = 0) ∧ (s = 3 ∨ s = 5 ∨ qint (qfld d 7) = 0)
        · simp only [keq, dself, ha.1, ha.2, hb.1, hb.2, decide_true, cond_true, Bool.not_true, cond_false, Bool.true_and, Bool.and_true,
            decide_eq_true hk.1, decide_eq_true hk.2.2.1, decide_eq_true hk.2.2.2.2.1, or_assoc, decide_eq_true hk.2.1, decide_eq_true hk.2.2.2.1, decide_eq_true hk.2.2.2.2.2]
          by_cases hn : (s = 4 ∨ s = 5 → qint (qfld d 1) ≤ 127 ∨ 4294967168 ≤ qint (qfld d 1)) ∧ (s = 7 → short d ≤ 127 ∨ 4294967168 ≤ short d)
          · left
            refine ⟨c, s, ?_, key.2 ⟨ha, hb, hk.1, hk.2.1, hk.2.2.1, hk.2.2.2.1, hk.2.2.2.2.1, hk.2.2.2.2.2, hn⟩, rfl⟩
            simp only [narB, decide_eq_true hn, Bool.not_true, cond_false]
          · right
            refine ⟨7, ?_, by omega, kn (fun h' => hn (key.1 h').2.2.2.2.2.2.2.2), .inr ⟨rfl, s, hs, ha, hb, hk.1, hk.2.1, hk.2.2.1, hk.2.2.2.1, hk.2.2.2.2.1, hk.2.2.2.2.2⟩⟩
            simp only [narB, decide_eq_false hn, Bool.not_false, cond_true]
        · right
          refine ⟨2, ?_, by omega, kn (fun h' => hk ⟨(key.1 h').2.2.1, (key.1 h').2.2.2.1, (key.1 h').2.2.2.2.1, (key.1 h').2.2.2.2.2.1, (key.1 h').2.2.2.2.2.2.1, (key.1 h').2.2.2.2.2.2.2.1⟩), .inl ⟨rfl, kna fun h' => hk ⟨h'.2.2.1, h'.2.2.2.1, h'.2.2.2.2.1, h'.2.2.2.2.2.1, h'.2.2.2.2.2.2.1, h'.2.2.2.2.2.2.2⟩⟩⟩
          simp only [keq, dself, ha.1, ha.2, hb.1, hb.2, decide_true, cond_true, Bool.not_true, cond_false, Bool.true_and, Bool.and_true, or_assoc]
          simp only [← Bool.decide_and, decide_eq_false hk, Bool.not_false, cond_true]
      · right
        refine ⟨2, ?_, by omega, kn (fun h' => hb (key.1 h').2.1), .inl ⟨rfl, kna fun h' => hb h'.2.1⟩⟩
        simp only [ha.1, ha.2, decide_true, cond_true, Bool.not_true, cond_false]
        have : (bif decide (0 ≤ qint (qfld d 7)) then decide (qint (qfld d 7) < 8) else false) = false := by
          simp; omega
        rw [this]; rfl
    · right
      refine ⟨2, ?_, by omega, kn (fun h' => ha (key.1 h').1), .inl ⟨rfl, kna fun h' => ha h'.1⟩⟩
      have : (bif decide (0 ≤ qint (qfld d 6)) then decide (qint (qfld d 6) < 8) else false) = false := by
        simp; omega
      simp only [this, Bool.not_true, Bool.not_false, cond_true, cond_false]
  · right
    refine ⟨2, ?_, by omega, (fun s' h' => by have := h'.1; rw [hs] at this; cases this), .inl ⟨rfl, (fun ⟨s', h', _⟩ => by rw [hs] at h'; cases h')⟩⟩
    simp [h, qsome_s, qnth_s, qbool_b, qnot_c]

theorem form_spec (d : D) : q116 [d] = some [.bool (decide (if 5 ≤ qint (qfld d 2) ∧ qint (qfld d 2) ≤ 15 then 0 ≤ qint (qfld d 3) ∧ qint (qfld d 3) ≤ 2 else if qint (qfld d 2) = 20 then qint (qfld d 3) = 1 ∨ qint (qfld d 3) = 2 else qint (qfld d 3) = 0))] := by
  rw [q116_eq, F116_eq]
  generalize qint (qfld d 2) = o at *
  generalize qint (qfld d 3) = f at *
  simp only [qiteB_c, qcmp_eql, qcmp_geq, qcmp_leq]
  by_cases h1 : 5 ≤ o <;> by_cases h2 : o ≤ 15 <;> by_cases h3 : o = 20 <;> first | omega | (simp [h1, h2, h3])

theorem width_spec (d : D) : q117 [d] = some [.bool (decide (if qint (qfld d 2) = 17 then qint (qfld d 4) = 1 ∨ qint (qfld d 4) = 2 else if qint (qfld d 2) = 16 ∨ qint (qfld d 2) = 18 then qint (qfld d 4) = 1 ∨ qint (qfld d 4) = 2 ∨ qint (qfld d 4) = 4 else qint (qfld d 4) = 0))] := by
  rw [q117_eq, F117_eq]
  generalize qint (qfld d 2) = o at *
  generalize qint (qfld d 4) = w at *
  simp only [qiteB_c, qcmp_eql, qcmp_geq, qcmp_leq]
  by_cases h1 : o = 16 <;> by_cases h2 : o = 17 <;> by_cases h3 : o = 18 <;> first | omega | (simp [h1, h2, h3]; done) | (simp [h1, h2, h3, Bool.or_assoc]; done)

theorem treeB {n1 n2 c1 c2 c3 c4 c5 c6 : Bool} {R A : Prop} (h1 : n1 = true) (h2 : n2 = true) (hR : (c1 = false ∧ c2 = false ∧ c3 = false ∧ (c4 = true → c5 = false) ∧ c6 = false) ↔ R) (hA : (c1 = false ∧ c2 = false ∧ c3 = false) ↔ A) :
    ∃ e, (bif n1 then bif n2 then bif c1 then some [D.int 2] else bif c2 then some [D.int 2] else bif c3 then some [D.int 2] else bif c4 then (bif c5 then some [D.int 7] else bif c6 then some [D.int 7] else some [D.int 0]) else bif c6 then some [D.int 7] else some [D.int 0] else none else none) = some [D.int e] ∧ (e = 0 ↔ R) ∧ (e = 0 ∨ e = 7 ∨ e = 2) ∧ (e = 2 ↔ ¬ A) := by
  subst h1 h2
  rw [← hR, ← hA]
  cases c1 <;> cases c2 <;> cases c3 <;> cases c4 <;> cases c5 <;> cases c6 <;> simp

theorem chk126 (d : D) : ∃ e, q70 [d] = some [.int e] ∧ (e = 0 ↔ ∃ s, hasS d s) ∧ (e = 0 ∨ e = 7 ∨ e = 2) ∧ (e = 2 ↔ ¬ argOk d) := by
  unfold hasS argOk
  rw [q70_eq, F70_eq, form_spec, width_spec]
  rw [show qbin BinOp.sub IntKind.u32 (qbin BinOp.sub IntKind.u32 (qint (qfld d 1)) (qint (qfld d 0))) 2 = short d from rfl]
  generalize qint (qfld d 2) = o
  generalize qint (qfld d 3) = f
  generalize qint (qfld d 4) = w
  generalize qint (qfld d 5) = cc
  generalize qint (qfld d 6) = a
  generalize qint (qfld d 7) = b
  generalize qint (qfld d 1) = imm
  generalize short d = j
  simp only [qsome_s, qnth_s, List.getD_cons_zero, qbool_b, qnot_c, qiteB_c, qcmp_eql, qcmp_geq, qcmp_lss, qcmp_leq, qcmp_gtr, qcmp_neq]
  rcases ocases o with h | h | rfl | rfl | h | rfl | rfl | rfl | rfl | rfl | rfl | rfl | rfl | rfl | rfl | rfl | rfl
  · refine treeB (by simp) (by simp) ?_ ?_
    · have : (bif decide (o < 0) then true else decide (27 < o)) = true := by simp; omega
      simp [this, shp, show ¬ (0 ≤ o ∧ o ≤ 2) by omega, show ¬ o = 3 by omega, show ¬ o = 4 by omega, show ¬ (5 ≤ o ∧ o ≤ 15) by omega, show ¬ o = 16 by omega, show ¬ o = 17 by omega, show ¬ o = 18 by omega, show ¬ o = 19 by omega, show ¬ o = 20 by omega, show ¬ o = 21 by omega, show ¬ o = 22 by omega, show ¬ o = 23 by omega, show ¬ o = 24 by omega, show ¬ o = 25 by omega, show ¬ o = 26 by omega, show ¬ o = 27 by omega]
    · have : (bif decide (o < 0) then true else decide (27 < o)) = true := by simp; omega
      simp [this, shp, show ¬ (0 ≤ o ∧ o ≤ 2) by omega, show ¬ o = 3 by omega, show ¬ o = 4 by omega, show ¬ (5 ≤ o ∧ o ≤ 15) by omega, show ¬ o = 16 by omega, show ¬ o = 17 by omega, show ¬ o = 18 by omega, show ¬ o = 19 by omega, show ¬ o = 20 by omega, show ¬ o = 21 by omega, show ¬ o = 22 by omega, show ¬ o = 23 by omega, show ¬ o = 24 by omega, show ¬ o = 25 by omega, show ¬ o = 26 by omega, show ¬ o = 27 by omega]
  · refine treeB (by simp) (by simp) ?_ ?_
    · rcases h with rfl | rfl | rfl <;> simp [shp, okA] <;> grind
    · rcases h with rfl | rfl | rfl <;> simp [shp, okArg] <;> grind
  · refine treeB (by simp) (by simp) ?_ ?_
    · simp [shp, okA] <;> grind
    · simp [shp, okArg] <;> grind
  · refine treeB (by simp) (by simp) ?_ ?_
    · simp [shp, okA] <;> grind
    · simp [shp, okArg] <;> grind
  · refine treeB (by simp) (by simp) ?_ ?_
    · obtain ⟨h1, h2⟩ := h
      by_cases f0 : f = 0
      · simp [shp, okA, h1, h2, f0, show ¬ o = 3 by omega, show ¬ o = 4 by omega, show ¬ o ≤ 2 by omega, show 3 ≤ o by omega, show o ≤ 27 by omega, show ¬ o = 16 by omega, show ¬ o = 17 by omega, show ¬ o = 18 by omega, show ¬ o = 19 by omega, show ¬ o = 20 by omega, show ¬ o = 22 by omega, show ¬ o = 23 by omega, show ¬ o = 25 by omega, show ¬ 16 ≤ o by omega]
        grind
      by_cases f1 : f = 1
      · simp [shp, okA, h1, h2, f1, show ¬ o = 3 by omega, show ¬ o = 4 by omega, show ¬ o ≤ 2 by omega, show 3 ≤ o by omega, show o ≤ 27 by omega, show ¬ o = 16 by omega, show ¬ o = 17 by omega, show ¬ o = 18 by omega, show ¬ o = 19 by omega, show ¬ o = 20 by omega, show ¬ o = 22 by omega, show ¬ o = 23 by omega, show ¬ o = 25 by omega, show ¬ 16 ≤ o by omega]
        grind
      by_cases f2 : f = 2
      · simp [shp, okA, h1, h2, f2, show ¬ o = 3 by omega, show ¬ o = 4 by omega, show ¬ o ≤ 2 by omega, show 3 ≤ o by omega, show o ≤ 27 by omega, show ¬ o = 16 by omega, show ¬ o = 17 by omega, show ¬ o = 18 by omega, show ¬ o = 19 by omega, show ¬ o = 20 by omega, show ¬ o = 22 by omega, show ¬ o = 23 by omega, show ¬ o = 25 by omega, show ¬ 16 ≤ o by omega]
        grind
      · simp [shp, okA, h1, h2, f0, f1, f2, show ¬ o = 3 by omega, show ¬ o = 4 by omega, show ¬ o ≤ 2 by omega, show 3 ≤ o by omega, show o ≤ 27 by omega, show ¬ o = 16 by omega, show ¬ o = 17 by omega, show ¬ o = 18 by omega, show ¬ o = 19 by omega, show ¬ o = 20 by omega, show ¬ o = 22 by omega, show ¬ o = 23 by omega, show ¬ o = 25 by omega, show ¬ 16 ≤ o by omega]
        try grind
    · obtain ⟨h1, h2⟩ := h
      by_cases f0 : f = 0
      · simp [shp, okArg, h1, h2, f0, show ¬ o = 3 by omega, show ¬ o = 4 by omega, show ¬ o ≤ 2 by omega, show 3 ≤ o by omega, show o ≤ 27 by omega, show ¬ o = 16 by omega, show ¬ o = 17 by omega, show ¬ o = 18 by omega, show ¬ o = 19 by omega, show ¬ o = 20 by omega, show ¬ o = 22 by omega, show ¬ o = 23 by omega, show ¬ o = 25 by omega, show ¬ 16 ≤ o by omega]
        grind
      by_cases f1 : f = 1
      · simp [shp, okArg, h1, h2, f1, show ¬ o = 3 by omega, show ¬ o = 4 by omega, show ¬ o ≤ 2 by omega, show 3 ≤ o by omega, show o ≤ 27 by omega, show ¬ o = 16 by omega, show ¬ o = 17 by omega, show ¬ o = 18 by omega, show ¬ o = 19 by omega, show ¬ o = 20 by omega, show ¬ o = 22 by omega, show ¬ o = 23 by omega, show ¬ o = 25 by omega, show ¬ 16 ≤ o by omega]
        grind
      by_cases f2 : f = 2
      · simp [shp, okArg, h1, h2, f2, show ¬ o = 3 by omega, show ¬ o = 4 by omega, show ¬ o ≤ 2 by omega, show 3 ≤ o by omega, show o ≤ 27 by omega, show ¬ o = 16 by omega, show ¬ o = 17 by omega, show ¬ o = 18 by omega, show ¬ o = 19 by omega, show ¬ o = 20 by omega, show ¬ o = 22 by omega, show ¬ o = 23 by omega, show ¬ o = 25 by omega, show ¬ 16 ≤ o by omega]
        grind
      · simp [shp, okArg, h1, h2, f0, f1, f2, show ¬ o = 3 by omega, show ¬ o = 4 by omega, show ¬ o ≤ 2 by omega, show 3 ≤ o by omega, show o ≤ 27 by omega, show ¬ o = 16 by omega, show ¬ o = 17 by omega, show ¬ o = 18 by omega, show ¬ o = 19 by omega, show ¬ o = 20 by omega, show ¬ o = 22 by omega, show ¬ o = 23 by omega, show ¬ o = 25 by omega, show ¬ 16 ≤ o by omega]
        try grind
  · refine treeB (by simp) (by simp) ?_ ?_
    · simp [shp, okA] <;> grind
    · simp [shp, okArg] <;> grind
  · refine treeB (by simp) (by simp) ?_ ?_
    · simp [shp, okA] <;> grind
    · simp [shp, okArg] <;> grind
  · refine treeB (by simp) (by simp) ?_ ?_
    · simp [shp, okA] <;> grind
    · simp [shp, okArg] <;> grind
  · refine treeB (by simp) (by simp) ?_ ?_
    · simp [shp, okA] <;> grind
    · simp [shp, okArg] <;> grind
  · refine treeB (by simp) (by simp) ?_ ?_
    · simp [shp, okA] <;> grind
    · simp [shp, okArg] <;> grind
  · refine treeB (by simp) (by simp) ?_ ?_
    · simp [shp, okA] <;> grind
    · simp [shp, okArg] <;> grind
  · refine treeB (by simp) (by simp) ?_ ?_
    · simp [shp, okA] <;> grind
    · simp [shp, okArg] <;> grind
  · refine treeB (by simp) (by simp) ?_ ?_
    · simp [shp, okA] <;> grind
    · simp [shp, okArg] <;> grind
  · refine treeB (by simp) (by simp) ?_ ?_
    · simp [shp, okA] <;> grind
    · simp [shp, okArg] <;> grind
  · refine treeB (by simp) (by simp) ?_ ?_
    · simp [shp, okA] <;> grind
    · simp [shp, okArg] <;> grind
  · refine treeB (by simp) (by simp) ?_ ?_
    · simp [shp, okA] <;> grind
    · simp [shp, okArg] <;> grind
  · refine treeB (by simp) (by simp) ?_ ?_
    · simp [shp, okA] <;> grind
    · simp [shp, okArg] <;> grind

/-- How many bytes a shape has. -/
def lenS (s : Int) : Int := if s = 0 ∨ s = 1 then 1 else if s = 2 ∨ s = 3 ∨ s = 7 then 2 else if s = 4 ∨ s = 5 then 3 else if s = 6 then 6 else 5

theorem shp_le {o f w cc s : Int} (h : shp o f w cc = some s) : 0 ≤ s ∧ s ≤ 8 := by
  unfold shp at h
  repeat' split at h
  all_goals first | (cases h; done) | (injection h with h; omega)

theorem lenS_pos (s : Int) : 1 ≤ lenS s ∧ lenS s ≤ 6 := by
  unfold lenS; repeat' split
  all_goals omega

theorem size_spec {s : Int} (h : 0 ≤ s ∧ s ≤ 8) : q157 [.int s] = some [.int (lenS s)] := by
  rw [q157_eq, F157_eq]
  obtain rfl | rfl | rfl | rfl | rfl | rfl | rfl | rfl | rfl : s = 0 ∨ s = 1 ∨ s = 2 ∨ s = 3 ∨ s = 4 ∨ s = 5 ∨ s = 6 ∨ s = 7 ∨ s = 8 := by omega
  all_goals (rw [qinbS_eq, qidxS_eq, qbin_eq, qwrap_eq]; kernel_rfl)

theorem acode_spec (d : D) : ∃ c, q177 [d] = some [.int c] := by
  rw [q177_eq, F177_eq]
  generalize qcmp BinOp.eql (qint (qfld d 2)) 17 = c1
  generalize qcmp BinOp.eql (qint (qfld d 4)) 1 = c2
  generalize qiteB (qcmp BinOp.eql (qint (qfld d 4)) 2) (qcmp BinOp.eql (qint (qfld d 2)) 16) Bool.false = c3
  generalize qcmp BinOp.eql (qint (qfld d 4)) 2 = c4
  cases c1 <;> cases c2 <;> cases c3 <;> cases c4 <;> exact ⟨_, rfl⟩

theorem bytes_spec {d : D} {s : Int} (h : hasS d s) : ∃ bs, q165 [d] = some [bs] ∧ qlen bs = lenS s := by
  obtain ⟨c, hc⟩ := acode_spec d
  have h1 := h.1
  rw [q165_eq, F165_eq, hc, q178_eq, F178_eq]
  generalize qint (qfld d 2) = o at *
  generalize qint (qfld d 3) = f at *
  generalize qint (qfld d 4) = w at *
  generalize qint (qfld d 5) = cc at *
  simp only [qsome_s, qnth_s, List.getD_cons_zero, qiteB_c, qcmp_eql, qcmp_geq, qcmp_leq]
  rcases ocases o with h | h | rfl | rfl | h | rfl | rfl | rfl | rfl | rfl | rfl | rfl | rfl | rfl | rfl | rfl | rfl
  · exfalso
    simp [shp, show ¬ (0 ≤ o ∧ o ≤ 2) by omega, show ¬ o = 3 by omega, show ¬ o = 4 by omega, show ¬ (5 ≤ o ∧ o ≤ 15) by omega, show ¬ o = 16 by omega, show ¬ o = 17 by omega, show ¬ o = 18 by omega, show ¬ o = 19 by omega, show ¬ o = 20 by omega, show ¬ o = 21 by omega, show ¬ o = 22 by omega, show ¬ o = 23 by omega, show ¬ o = 24 by omega, show ¬ o = 25 by omega, show ¬ o = 26 by omega, show ¬ o = 27 by omega] at h1
  · rcases h with rfl | rfl | rfl <;> simp [shp] at h1 <;> subst h1 <;> (simp [qsome_s, qnth_s]; rw [qlen_c]; rfl)
  · simp [shp] at h1; subst h1; (simp [qsome_s, qnth_s]; rw [qlen_c]; rfl)
  · simp [shp] at h1; subst h1; (simp [qsome_s, qnth_s]; rw [qlen_c]; rfl)
  · obtain ⟨h2, h3⟩ := h
    simp only [shp, h2, h3, show ¬ o = 3 by omega, show ¬ o = 4 by omega, show ¬ (0 ≤ o ∧ o ≤ 2) by omega, true_and, if_true, if_false, or_self] at h1
    simp only [h2, h3, decide_true, cond_true]
    by_cases f0 : f = 0
    · rw [if_pos f0] at h1; injection h1 with h1; subst h1; (simp [f0]; rw [qlen_c]; rfl)
    by_cases f1 : f = 1
    · rw [if_neg f0, if_pos f1] at h1; injection h1 with h1; subst h1; (simp [f1]; rw [qlen_c]; rfl)
    by_cases f2 : f = 2
    · rw [if_neg f0, if_neg f1, if_pos f2] at h1; injection h1 with h1; subst h1; (simp [f2]; rw [qlen_c]; rfl)
    · rw [if_neg f0, if_neg f1, if_neg f2] at h1; cases h1
  · have : s = 5 := by revert h1; simp only [shp]; by_cases w1 : w = 1 ∨ w = 2 ∨ w = 4 <;> simp [w1] <;> omega
    subst this; (simp; rw [qlen_c]; rfl)
  · have : s = 5 := by revert h1; simp only [shp]; by_cases w1 : w = 1 ∨ w = 2 <;> simp [w1] <;> omega
    subst this; (simp; rw [qlen_c]; rfl)
  · have : s = 5 := by revert h1; simp only [shp]; by_cases w1 : w = 1 ∨ w = 2 ∨ w = 4 <;> simp [w1] <;> omega
    subst this; (simp; rw [qlen_c]; rfl)
  · simp [shp] at h1; subst h1; (simp; rw [qlen_c]; rfl)
  · by_cases hcc : 0 ≤ cc ∧ cc ≤ 14
    · by_cases f1 : f = 1
      · simp [shp, hcc, f1] at h1; subst h1; (simp [f1]; rw [qlen_c]; rfl)
      by_cases f2 : f = 2
      · simp [shp, hcc, f2] at h1; subst h1; (simp [f2]; rw [qlen_c]; rfl)
      · simp [shp, hcc, f1, f2] at h1
    · simp [shp, hcc] at h1
  · simp [shp] at h1; subst h1; (simp [qsome_s, qnth_s]; rw [qlen_c]; rfl)
  · simp [shp] at h1; subst h1; (simp [qsome_s, qnth_s]; rw [qlen_c]; rfl)
  · simp [shp] at h1; subst h1; (simp [qsome_s, qnth_s]; rw [qlen_c]; rfl)
  · simp [shp] at h1; subst h1; (simp [qsome_s, qnth_s]; rw [qlen_c]; rfl)
  · by_cases hcc : 0 ≤ cc ∧ cc ≤ 14
    · simp [shp, hcc] at h1; subst h1; (simp [qsome_s, qnth_s]; rw [qlen_c]; rfl)
    · simp [shp, hcc] at h1
  · simp [shp] at h1; subst h1; (simp [qsome_s, qnth_s]; rw [qlen_c]; rfl)
  · simp [shp] at h1; subst h1; (simp [qsome_s, qnth_s]; rw [qlen_c]; rfl)

open Classical in
/-- How many bytes has it? -/
noncomputable def lenI (d : D) : Int := if h : ∃ s, hasS d s then lenS h.choose else 0

/-- Has an instruction an encoding? -/
noncomputable def vld (d : D) : Bool := decide (lenI d ≠ 0)

theorem hasS_un {d : D} {s s' : Int} (h : hasS d s) (h' : hasS d s') : s = s' := by
  have := h.1.symm.trans h'.1; injection this

theorem lenI_of {d : D} {s : Int} (h : hasS d s) : lenI d = lenS s := by
  unfold lenI
  rw [dif_pos ⟨s, h⟩]
  exact congrArg lenS (hasS_un (Exists.choose_spec (⟨s, h⟩ : ∃ s, hasS d s)) h)
theorem lenI_none {d : D} (h : ¬ ∃ s, hasS d s) : lenI d = 0 := by unfold lenI; rw [dif_neg h]
theorem vld_iff {d : D} : vld d = true ↔ ∃ s, hasS d s := by
  unfold vld
  rw [decide_eq_true_iff]
  constructor
  · intro h
    by_cases hx : ∃ s, hasS d s
    · exact hx
    · exact absurd (lenI_none hx) h
  · rintro ⟨s, hs⟩
    rw [lenI_of hs]
    have := lenS_pos s
    omega
theorem lenI_pos {d : D} (h : vld d = true) : 1 ≤ lenI d ∧ lenI d ≤ 6 := by
  obtain ⟨s, hs⟩ := vld_iff.1 h
  rw [lenI_of hs]; exact lenS_pos s
theorem lenI_le (d : D) : 0 ≤ lenI d ∧ lenI d ≤ 6 := by
  by_cases h : ∃ s, hasS d s
  · have := lenI_pos (vld_iff.2 h); omega
  · rw [lenI_none h]; omega

theorem valid_spec (d : D) : q30 [d] = some [.bool (vld d)] ∧ q40 [d] = some [.bool (vld d)] ∧ q114 [d] = some [.int (lenI d)] ∧ q143 [d] = some [.int (lenI d)] := by
  obtain ⟨e', h126, he', _⟩ := chk126 d
  have h71 : q40 [d] = some [.bool (vld d)] := by
    rw [q40_eq, F40_eq, h126]
    simp only [qsome_s, qnth_s, List.getD_cons_zero, qint_i, cond_true, qcmp_eql]
    by_cases hx : ∃ s, hasS d s
    · simp [vld_iff.2 hx, he'.2 hx]
    · have hv : vld d = false := by rw [Bool.eq_false_iff]; exact mt vld_iff.1 hx
      simp [hv, mt he'.1 hx]
  rcases chk69 d with ⟨c, s, h69, hs, _⟩ | ⟨e, h69, he, hn, _⟩
  · obtain ⟨bs, hb, hl⟩ := bytes_spec hs
    have hv : vld d = true := vld_iff.2 ⟨s, hs⟩
    refine ⟨?_, h71, ?_, ?_⟩
    · rw [q30_eq, F30_eq, h69, hv]; simp [qsome_s, qnth_s, qint_i, qcmp_eql]
    · rw [q114_eq, F114_eq, h69, lenI_of hs]
      simp only [qsome_s, qnth_s, List.getD_cons_zero, List.getD_cons_succ, qint_i, size_spec (shp_le hs.1), qcmp_neq]
      simp
    · rw [q143_eq, F143_eq, h71, hv, hb, lenI_of hs]
      simp [qsome_s, qnth_s, qbool_b, qnot_c, hl]
  · have hx : ¬ ∃ s, hasS d s := fun ⟨s, h⟩ => hn s h
    have hv : vld d = false := by rw [Bool.eq_false_iff]; exact mt vld_iff.1 hx
    refine ⟨?_, h71, ?_, ?_⟩
    · rw [q30_eq, F30_eq, h69, hv]; simp [qsome_s, qnth_s, qint_i, qcmp_eql, he]
    · rw [q114_eq, F114_eq, h69, lenI_none hx]; simp [qsome_s, qnth_s, qint_i, qcmp_neq, he]
    · rw [q143_eq, F143_eq, h71, hv, lenI_none hx]; simp [qsome_s, qnth_s, qbool_b, qnot_c]

/-- The two checks' errors are the same. -/
theorem chk_err {d : D} (h : ¬ ∃ s, hasS d s) : ∃ e, e ≠ 0 ∧ q66 [d] = some [.int 0, .int 0, .int e] ∧ q70 [d] = some [.int e] := by
  obtain ⟨e', h126, he', hc, h2⟩ := chk126 d
  rcases chk69 d with ⟨c, s, _, hs, _⟩ | ⟨e, h69, he, hn, hk⟩
  · exact absurd ⟨s, hs⟩ h
  · refine ⟨e, he, h69, ?_⟩
    rw [h126]
    have h0 : e' ≠ 0 := mt he'.1 h
    rcases hk with ⟨rfl, ha⟩ | ⟨rfl, ha⟩
    · rw [h2.2 ha]
    · have : e' ≠ 2 := fun e => h2.1 e ha
      obtain rfl : e' = 7 := by omega
      rfl

end Go.Proofs.YtgklbalcneepoaaGreatDoor

namespace Go.Proofs.YtgklbalcneepoaaGreatDoor
set_option linter.unusedSimpArgs false
open Go Go.AM

theorem qlen_l (xs : List D) : qlen (.list xs) = (xs.length : Int) := by rw [qlen_c]; rfl
theorem qapp_l (xs ys : List D) : qapp (.list xs) (.list ys) = .list (xs ++ ys) := by rw [qapp_eq]; rfl
theorem qmem_ok {n z : Nat} (hn : n ≤ 100000) (hz : z ≤ 100) : qmem (n : Int) z = true := by
  rw [qmem_eq]
  unfold rmem
  have h : (n : Int) * z ≤ 100000 * 100 := by
    have h1 : n * z ≤ 100000 * 100 := Nat.mul_le_mul hn hz
    have h2 : ((n * z : Nat) : Int) = (n : Int) * (z : Int) := by simp
    omega
  simp
  omega

theorem sizes_len : ∀ xs : List D, xs.length ≤ D.sizes xs
  | [] => by simp [D.sizes]
  | x :: xs => by
    have := sizes_len xs
    have := D.size_pos x
    simp only [D.sizes, List.length_cons]; omega

theorem len_size (d : D) : d.toList.length ≤ d.size := by
  cases d <;> simp only [D.toList, D.size, List.length_nil] <;> first | omega | skip
  all_goals (rename_i xs; have := sizes_len xs; omega)

theorem fld_size (d : D) (j : Nat) : (d.fld j).size ≤ d.size := by
  cases d with
  | agg xs =>
    simp only [D.fld, List.getD]
    cases hx : xs[j]? with
    | none => simp [D.size]
    | some x => have := sizes_get hx; simp only [Option.getD_some, D.size]; omega
  | _ => simp [D.fld, D.size]

theorem elem_size {d x : D} (h : x ∈ d.toList) : x.size ≤ d.size := by
  cases d <;> simp only [D.toList] at h <;> first | (cases h; done) | skip
  all_goals (obtain ⟨i, hi⟩ := List.getElem?_of_mem h; have := sizes_get hi; simp only [D.size]; omega)

/-- Data is the same as itself. -/
theorem same15 : ∀ (N : Nat) (d : D), d.size < N → d.size ≤ 1000000 → F15 N [d, d] = some [.bool true] := by
  intro N
  induction N with
  | zero => intro d h; omega
  | succ N ih =>
    intro d hs hz
    have hl : (d.fld 4).toList.length ≤ 1000000 := by have := len_size (d.fld 4); have := fld_size d 4; omega
    have key : ∀ k i : Nat, i + k = (d.fld 4).toList.length → loW (st15_4 (F15 N) [d, d]) [.int i] = some [.int 0] := by
      intro k
      induction k with
      | zero =>
        intro i hi
        rw [loW_eq, st15_4_eq, qfld_eq, qlen_c, qcmp_lss]
        simp only [show ¬ ((i : Int) < (d.fld 4).toList.length) by omega, decide_false, cond_false]
      | succ k ihk =>
        intro i hi
        have hlt : i < (d.fld 4).toList.length := by omega
        have hm : qget (d.fld 4) (i : Int) ∈ (d.fld 4).toList := by rw [qget_n, getD_lt hlt]; exact List.getElem_mem hlt
        have := size_elem hm
        rw [loW_eq, st15_4_eq, qfld_eq, qlen_c, qcmp_lss]
        simp only [show ((i : Int) < (d.fld 4).toList.length) by omega, decide_true, cond_true, qinb_n hlt, ih _ (show (qget (d.fld 4) (i : Int)).size < N by omega) (by omega), qsome_s, qnth_s, List.getD_cons_zero, qbool_b, qnot_c, Bool.not_true, cond_false, add_nat (i := i) (by omega)]
        exact ihk (i + 1) (by omega)
    have h := key (d.fld 4).toList.length 0 (by omega)
    have e : l15_4 (F15 N) [d, d] [.int 0] = some [.int 0] := by rw [l15_4_eq]; exact h
    rw [F15_s, Fb15_eq, e]
    simp [qcmp_neq, qcmp_eql, qiteB_c, qsome_s, qnth_s, qint_i]

theorem same78 {d : D} (hz : d.size ≤ 1000000) : q78 [d, d] = some [.bool true] := by
  have hl : d.toList.length ≤ 1000000 := by have := len_size d; omega
  have key : ∀ k i : Nat, i + k = d.toList.length → loW (st78_4 [d, d]) [.int i] = some [.int 0] := by
    intro k
    induction k with
    | zero =>
      intro i hi
      rw [loW_eq, st78_4_eq, qlen_c, qcmp_lss]
      simp only [show ¬ ((i : Int) < d.toList.length) by omega, decide_false, cond_false]
    | succ k ihk =>
      intro i hi
      have hlt : i < d.toList.length := by omega
      rw [loW_eq, st78_4_eq, qlen_c, qcmp_lss]
      simp only [show ((i : Int) < d.toList.length) by omega, decide_true, cond_true, qinb_n hlt, qcmp_neq, Bool.not_true, cond_false, add_nat (i := i) (by omega)]
      exact ihk (i + 1) (by omega)
  have h := key d.toList.length 0 (by omega)
  have e : l78_4 [d, d] [.int 0] = some [.int 0] := by rw [l78_4_eq]; exact h
  rw [q78_eq, F78_eq, e]
  simp [qcmp_neq, qcmp_eql, qsome_s, qnth_s, qint_i]

theorem fuel_two (l : List D) : 2 ≤ fuelL l := by
  induction l with
  | nil => simp [fuelL]
  | cons x l ih => simp only [fuelL]; omega
theorem wt_ge (d : D) : d.size ≤ d.wt ∨ ∃ m, d = .int m := by
  cases d <;> simp [D.wt]
theorem fuel_in {d : D} {l : List D} (h : d ∈ l) : d.size < fuelL l := by
  induction l with
  | nil => cases h
  | cons x l ih =>
    simp only [fuelL]
    rcases List.mem_cons.1 h with rfl | h
    · have := fuel_two l
      rcases wt_ge d with h | ⟨m, rfl⟩
      · omega
      · simp [D.size]; omega
    · have := ih h; omega

theorem same42 {d : D} (hz : d.size ≤ 1000000) : q42 [d, d] = some [.bool true] := by
  have hl : (d.fld 6).toList.length ≤ 1000000 := by have := len_size (d.fld 6); have := fld_size d 6; omega
  have key : ∀ k i : Nat, i + k = (d.fld 6).toList.length → loW (st42_4 [d, d]) [.int i] = some [.int 0] := by
    intro k
    induction k with
    | zero =>
      intro i hi
      rw [loW_eq, st42_4_eq, qfld_eq, qlen_c, qcmp_lss]
      simp only [show ¬ ((i : Int) < (d.fld 6).toList.length) by omega, decide_false, cond_false]
    | succ k ihk =>
      intro i hi
      have hlt : i < (d.fld 6).toList.length := by omega
      have hm : qget (d.fld 6) (i : Int) ∈ (d.fld 6).toList := by rw [qget_n, getD_lt hlt]; exact List.getElem_mem hlt
      have := size_elem hm
      have h15 : q15 [qget (d.fld 6) (i : Int), qget (d.fld 6) (i : Int)] = some [.bool true] := by rw [q15_eq]; exact same15 _ _ (fuel_in (by simp)) (by omega)
      rw [loW_eq, st42_4_eq, qfld_eq, qlen_c, qcmp_lss]
      simp only [show ((i : Int) < (d.fld 6).toList.length) by omega, decide_true, cond_true, qinb_n hlt, h15, qsome_s, qnth_s, List.getD_cons_zero, qbool_b, qnot_c, Bool.not_true, cond_false, add_nat (i := i) (by omega)]
      exact ihk (i + 1) (by omega)
  have h := key (d.fld 6).toList.length 0 (by omega)
  have e : l42_4 [d, d] [.int 0] = some [.int 0] := by rw [l42_4_eq]; exact h
  have h7 : q78 [qfld d 7, qfld d 7] = some [.bool true] := by rw [qfld_eq]; exact same78 (by have := fld_size d 7; omega)
  rw [q42_eq, F42_eq, e, h7]
  simp [qcmp_neq, qcmp_eql, qiteB_c, qsome_s, qnth_s, qint_i, qbool_b, qnot_c]

theorem same9 {d : D} (hz : d.size ≤ 1000000) : q9 [d, d] = some [.bool true] := by
  have hl : d.toList.length ≤ 1000000 := by have := len_size d; omega
  have key : ∀ k i : Nat, i + k = d.toList.length → loW (st9_4 [d, d]) [.int i] = some [.int 0] := by
    intro k
    induction k with
    | zero =>
      intro i hi
      rw [loW_eq, st9_4_eq, qlen_c, qcmp_lss]
      simp only [show ¬ ((i : Int) < d.toList.length) by omega, decide_false, cond_false]
    | succ k ihk =>
      intro i hi
      have hlt : i < d.toList.length := by omega
      have hm : qget d (i : Int) ∈ d.toList := by rw [qget_n, getD_lt hlt]; exact List.getElem_mem hlt
      have := elem_size hm
      rw [loW_eq, st9_4_eq, qlen_c, qcmp_lss]
      simp only [show ((i : Int) < d.toList.length) by omega, decide_true, cond_true, qinb_n hlt, same42 (show (qget d (i : Int)).size ≤ 1000000 by omega), qsome_s, qnth_s, List.getD_cons_zero, qbool_b, qnot_c, Bool.not_true, cond_false, add_nat (i := i) (by omega)]
      exact ihk (i + 1) (by omega)
  have h := key d.toList.length 0 (by omega)
  have e : l9_4 [d, d] [.int 0] = some [.int 0] := by rw [l9_4_eq]; exact h
  rw [q9_eq, F9_eq, e]
  simp [qcmp_neq, qcmp_eql, qsome_s, qnth_s, qint_i]

/- Conditions, the stack. -/

theorem cond_eq {c : Int} (h : 0 ≤ c ∧ c ≤ 14) : ∃ n0 n1 n2 n3 : Int, ∃ l, q38 [.int c] = some [.agg [.int n0, .int n1, .int n2, .int n3, l]] ∧ q76 [.int c] = some [.agg [.int n0, .int n1, .int n2, .int n3, l]] ∧ l.size ≤ 100 := by
  rw [q38_eq, q76_eq, F76_eq]
  have hs : ∀ k : Nat, c = k → k < 15 → F38 [.int c] = runI tb39 38 S38 0 k [] [.int c] := fun k hk hm => by unfold F38; exact splitI_at k hk hm
  have hc : c = 0 ∨ c = 1 ∨ c = 2 ∨ c = 3 ∨ c = 4 ∨ c = 5 ∨ c = 6 ∨ c = 7 ∨ c = 8 ∨ c = 9 ∨ c = 10 ∨ c = 11 ∨ c = 12 ∨ c = 13 ∨ c = 14 := by omega
  rcases hc with rfl | rfl | rfl | rfl | rfl | rfl | rfl | rfl | rfl | rfl | rfl | rfl | rfl | rfl | rfl
  · rw [hs 0 rfl (by omega)]; exact ⟨_, _, _, _, _, K38_0 _, by simp only [qcmp_eql]; rfl, by simp [D.size, D.sizes]⟩
  · rw [hs 1 rfl (by omega)]; exact ⟨_, _, _, _, _, K38_1 _, by simp only [qcmp_eql]; rfl, by simp [D.size, D.sizes]⟩
  · rw [hs 2 rfl (by omega)]; exact ⟨_, _, _, _, _, K38_2 _, by simp only [qcmp_eql]; rfl, by simp [D.size, D.sizes]⟩
  · rw [hs 3 rfl (by omega)]; exact ⟨_, _, _, _, _, K38_3 _, by simp only [qcmp_eql]; rfl, by simp [D.size, D.sizes]⟩
  · rw [hs 4 rfl (by omega)]; exact ⟨_, _, _, _, _, K38_4 _, by simp only [qcmp_eql]; rfl, by simp [D.size, D.sizes]⟩
  · rw [hs 5 rfl (by omega)]; exact ⟨_, _, _, _, _, K38_5 _, by simp only [qcmp_eql]; rfl, by simp [D.size, D.sizes]⟩
  · rw [hs 6 rfl (by omega)]; exact ⟨_, _, _, _, _, K38_6 _, by simp only [qcmp_eql]; rfl, by simp [D.size, D.sizes]⟩
  · rw [hs 7 rfl (by omega)]; exact ⟨_, _, _, _, _, K38_7 _, by simp only [qcmp_eql]; rfl, by simp [D.size, D.sizes]⟩
  · rw [hs 8 rfl (by omega)]; exact ⟨_, _, _, _, _, K38_8 _, by simp only [qcmp_eql]; rfl, by simp [D.size, D.sizes]⟩
  · rw [hs 9 rfl (by omega)]; exact ⟨_, _, _, _, _, K38_9 _, by simp only [qcmp_eql]; rfl, by simp [D.size, D.sizes]⟩
  · rw [hs 10 rfl (by omega)]; exact ⟨_, _, _, _, _, K38_10 _, by simp only [qcmp_eql]; rfl, by simp [D.size, D.sizes]⟩
  · rw [hs 11 rfl (by omega)]; exact ⟨_, _, _, _, _, K38_11 _, by simp only [qcmp_eql]; rfl, by simp [D.size, D.sizes]⟩
  · rw [hs 12 rfl (by omega)]; exact ⟨_, _, _, _, _, K38_12 _, by simp only [qcmp_eql]; rfl, by simp [D.size, D.sizes]⟩
  · rw [hs 13 rfl (by omega)]; exact ⟨_, _, _, _, _, K38_13 _, by simp only [qcmp_eql]; rfl, by simp [D.size, D.sizes]⟩
  · rw [hs 14 rfl (by omega)]; exact ⟨_, _, _, _, _, K38_14 _, by simp only [qcmp_eql]; rfl, by simp [D.size, D.sizes]⟩

theorem next_eq (d : D) : q68 [d] = some [.int (qbin .add .u32 (qint (qfld d 0)) (qwrap .u32 (lenI d)))] ∧ q97 [d] = some [.int (qbin .add .u32 (qint (qfld d 0)) (qwrap .u32 (lenI d)))] := by
  obtain ⟨_, _, h1, h2⟩ := valid_spec d
  exact ⟨by rw [q68_eq, F68_eq, h1]; simp only [qsome_s, qnth_s, List.getD_cons_zero, qint_i, cond_true], by rw [q97_eq, F97_eq, h2]; simp only [qsome_s, qnth_s, List.getD_cons_zero, qint_i, cond_true]⟩

theorem stack_eq {d : D} : ∃ l, q34 [d] = some [l] ∧ q77 [d] = some [l] ∧ l.size ≤ 1000 := by
  obtain ⟨h1, h2⟩ := next_eq d
  rw [q34_eq, F34_eq, q77_eq, F77_eq, h1, h2]
  simp only [qcmp_eql, qiteB_c, qsome_s, qnth_s, List.getD_cons_zero, qint_i, cond_true]
  by_cases h3 : qint (qfld d 2) = 3
  · by_cases h7 : qint (qfld d 6) = 7
    · simp only [h3, h7, decide_true, decide_false, cond_true, cond_false, show ¬ (3 : Int) = 2 by omega, show ¬ (3 : Int) = 4 by omega]
      exact ⟨_, rfl, rfl, by simp [D.size, D.sizes]⟩
    · simp only [h3, h7, decide_true, decide_false, cond_true, cond_false, show ¬ (3 : Int) = 2 by omega, show ¬ (3 : Int) = 4 by omega]
      exact ⟨_, rfl, rfl, by simp [D.size, D.sizes]⟩
  · by_cases h4 : qint (qfld d 2) = 4
    · by_cases h7 : qint (qfld d 6) = 7
      · simp only [h4, h7, decide_true, decide_false, cond_true, cond_false, show ¬ (4 : Int) = 2 by omega, show ¬ (4 : Int) = 3 by omega]
        exact ⟨_, rfl, rfl, by simp [D.size, D.sizes]⟩
      · simp only [h4, h7, decide_true, decide_false, cond_true, cond_false, show ¬ (4 : Int) = 2 by omega, show ¬ (4 : Int) = 3 by omega]
        exact ⟨_, rfl, rfl, by simp [D.size, D.sizes]⟩
    · by_cases h2 : qint (qfld d 2) = 2
      · simp only [h2, decide_true, decide_false, cond_true, cond_false, show ¬ (2 : Int) = 3 by omega, show ¬ (2 : Int) = 4 by omega]
        exact ⟨_, rfl, rfl, by simp [D.size, D.sizes]⟩
      · simp only [h2, h3, h4, decide_true, decide_false, cond_true, cond_false]
        exact ⟨_, rfl, rfl, by simp [D.size, D.sizes]⟩

/- Arithmetic. -/

/-- An operation's operator. -/
noncomputable def opr (o : Int) : Int := qint (qget (.list [.int 3, .int 4, .int 6, .int 7, .int 8, .int 5, .int 9, .int 10, .int 11]) (qbin .sub .i64 o 6))

theorem opr_spec {o : Int} (h : 6 ≤ o ∧ o ≤ 14) : q50 [.int o] = some [.int (opr o)] ∧ qinb (.list [.int 3, .int 4, .int 6, .int 7, .int 8, .int 5, .int 9, .int 10, .int 11]) (qbin .sub .i64 o 6) = true := by
  have hsub : qbin .sub .i64 o 6 = o - 6 := sub64 (by omega) (by omega)
  have hg : ∀ n : Nat, qget (.list [.int 3, .int 4, .int 6, .int 7, .int 8, .int 5, .int 9, .int 10, .int 11]) (n : Int) = [D.int 3, .int 4, .int 6, .int 7, .int 8, .int 5, .int 9, .int 10, .int 11].getD n .other := fun n => by rw [qget_n]; rfl
  refine ⟨?_, ?_⟩
  · rw [q50_eq, F50_eq]
    unfold opr
    rw [hsub]
    have ho : o = 6 ∨ o = 7 ∨ o = 8 ∨ o = 9 ∨ o = 10 ∨ o = 11 ∨ o = 12 ∨ o = 13 ∨ o = 14 := by omega
    rcases ho with rfl | rfl | rfl | rfl | rfl | rfl | rfl | rfl | rfl
    · rw [show (6 : Int) - 6 = (0 : Nat) from rfl, hg]; simp only [List.getD_cons_zero, List.getD_cons_succ, qint_i, qcmp_eql]; rfl
    · rw [show (7 : Int) - 6 = (1 : Nat) from rfl, hg]; simp only [List.getD_cons_zero, List.getD_cons_succ, qint_i, qcmp_eql]; rfl
    · rw [show (8 : Int) - 6 = (2 : Nat) from rfl, hg]; simp only [List.getD_cons_zero, List.getD_cons_succ, qint_i, qcmp_eql]; rfl
    · rw [show (9 : Int) - 6 = (3 : Nat) from rfl, hg]; simp only [List.getD_cons_zero, List.getD_cons_succ, qint_i, qcmp_eql]; rfl
    · rw [show (10 : Int) - 6 = (4 : Nat) from rfl, hg]; simp only [List.getD_cons_zero, List.getD_cons_succ, qint_i, qcmp_eql]; rfl
    · rw [show (11 : Int) - 6 = (5 : Nat) from rfl, hg]; simp only [List.getD_cons_zero, List.getD_cons_succ, qint_i, qcmp_eql]; rfl
    · rw [show (12 : Int) - 6 = (6 : Nat) from rfl, hg]; simp only [List.getD_cons_zero, List.getD_cons_succ, qint_i, qcmp_eql]; rfl
    · rw [show (13 : Int) - 6 = (7 : Nat) from rfl, hg]; simp only [List.getD_cons_zero, List.getD_cons_succ, qint_i, qcmp_eql]; rfl
    · rw [show (14 : Int) - 6 = (8 : Nat) from rfl, hg]; simp only [List.getD_cons_zero, List.getD_cons_succ, qint_i, qcmp_eql]; rfl
  · rw [hsub, qinb_c]
    simp [D.toList]
    omega

/-- An expression, read field by field. -/
noncomputable abbrev re5 (x : D) : D := .agg [.int (qint (qfld x 0)), .int (qint (qfld x 1)), .int (qint (qfld x 2)), .int (qint (qfld x 3)), qfld x 4]
abbrev setS (v : Int) (x : D) : D := .agg [.int 1, .int v, .int 0, .int 0, .int 0, .int 0, .list [x], .list []]

theorem step73 {a : Int} {y d : D} {l out : List D} {i : Nat} {x : D} (hl : l.length ≤ 100) (hx : l[i]? = some x) (hr : re5 x = x) (ho : out.length ≤ 100) :
    st73_5 [.int a, y, d] [.int i, .list l, .list out] = some (.inl [.int ((i + 1 : Nat) : Int), .list l, .list (out ++ [setS (8 + i) x])]) := by
  obtain ⟨hlt, hx'⟩ := List.getElem?_eq_some_iff.1 hx
  have hlt' : i < (D.list l).toList.length := hlt
  have hg : qget (.list l) (i : Int) = x := by rw [qget_n, getD_lt hlt']; exact hx'
  have hadd : qbin .add .i64 8 (i : Int) = 8 + i := by
    rw [qbin_eq]; simp only [rbin]; exact wrap64' (by omega) (by omega)
  unfold re5 at hr
  rw [st73_5_eq, hg, hr, hadd, qlen_l, qapp_l, qlen_l, qinb_n hlt', qmem_ok (by simp; omega) (by omega), add_nat (i := i) (by omega)]
  simp only [qcmp_lss, qcmp_leq, show ((i : Int) < (l.length : Int)) by omega, show (0 : Int) ≤ (i : Int) by omega, decide_true, cond_true]

theorem end73 {a : Int} {y d : D} {l out : List D} : st73_5 [.int a, y, d] [.int (l.length : Int), .list l, .list out] = some (.inr [.int 0, .list out]) := by
  rw [st73_5_eq, qlen_l, qcmp_lss]
  simp only [show ¬ ((l.length : Int) < (l.length : Int)) by omega, decide_false, cond_false]

theorem loop73 {a : Int} {y d x0 x1 x2 x3 : D} (h0 : re5 x0 = x0) (h1 : re5 x1 = x1) (h2 : re5 x2 = x2) (h3 : re5 x3 = x3) :
    l73_5 [.int a, y, d] [.int 0, .list [x0, x1, x2, x3], .list []] = some [.int 0, .list [setS 8 x0, setS 9 x1, setS 10 x2, setS 11 x3]] := by
  rw [l73_5_eq]
  have e0 := step73 (a := a) (y := y) (d := d) (l := [x0, x1, x2, x3]) (out := []) (i := 0) (by simp) rfl h0 (by simp)
  have e1 := step73 (a := a) (y := y) (d := d) (l := [x0, x1, x2, x3]) (out := [setS 8 x0]) (i := 1) (by simp) rfl h1 (by simp)
  have e2 := step73 (a := a) (y := y) (d := d) (l := [x0, x1, x2, x3]) (out := [setS 8 x0, setS 9 x1]) (i := 2) (by simp) rfl h2 (by simp)
  have e3 := step73 (a := a) (y := y) (d := d) (l := [x0, x1, x2, x3]) (out := [setS 8 x0, setS 9 x1, setS 10 x2]) (i := 3) (by simp) rfl h3 (by simp)
  have e4 := end73 (a := a) (y := y) (d := d) (l := [x0, x1, x2, x3]) (out := [setS 8 x0, setS 9 x1, setS 10 x2, setS 11 x3])
  show loW (st73_5 [.int a, y, d]) [.int ((0 : Nat) : Int), .list [x0, x1, x2, x3], .list []] = _
  rw [loW_eq, e0]
  show loW (st73_5 [.int a, y, d]) [.int ((1 : Nat) : Int), .list [x0, x1, x2, x3], .list [setS 8 x0]] = _
  rw [loW_eq, e1]
  show loW (st73_5 [.int a, y, d]) [.int ((2 : Nat) : Int), .list [x0, x1, x2, x3], .list [setS 8 x0, setS 9 x1]] = _
  rw [loW_eq, e2]
  show loW (st73_5 [.int a, y, d]) [.int ((3 : Nat) : Int), .list [x0, x1, x2, x3], .list [setS 8 x0, setS 9 x1, setS 10 x2]] = _
  rw [loW_eq, e3]
  show loW (st73_5 [.int a, y, d]) [.int ((4 : Nat) : Int), .list [x0, x1, x2, x3], .list [setS 8 x0, setS 9 x1, setS 10 x2, setS 11 x3]] = _
  rw [loW_eq]
  rw [show ((4 : Nat) : Int) = (([x0, x1, x2, x3].length : Nat) : Int) from rfl, e4]

end Go.Proofs.YtgklbalcneepoaaGreatDoor

namespace Go.Proofs.YtgklbalcneepoaaGreatDoor
set_option linter.unusedSimpArgs false
open Go Go.AM

noncomputable abbrev vA (d : D) : D := .agg [.int 2, .int 0, .int (qint (qfld d 6)), .int 0, .list []]
abbrev cZ : D := .agg [.int 1, .int 0, .int 0, .int 0, .list []]
abbrev tw (o : Int) (x y : D) : D := .agg [.int o, .int 0, .int 0, .int 0, .list [x, y]]

/-- The statements of an operation that sets the flags. -/
noncomputable def arith (d y : D) : List D :=
  if qint (qfld d 2) = 6 then [setS 8 (tw 12 (tw 3 (vA d) y) cZ), setS 9 (tw 14 (tw 3 (vA d) y) cZ), setS 10 (tw 15 (tw 3 (vA d) y) (vA d)), setS 11 (tw 14 (tw 6 (tw 8 (vA d) (tw 3 (vA d) y)) (tw 8 y (tw 3 (vA d) y))) cZ), setS (qint (qfld d 6)) (tw (opr (qint (qfld d 2))) (vA d) y)]
  else if qint (qfld d 2) = 7 then [setS 8 (tw 12 (vA d) y), setS 9 (tw 14 (tw 4 (vA d) y) cZ), setS 10 (tw 15 (vA d) y), setS 11 (tw 8 (tw 14 (vA d) y) (tw 14 (tw 4 (vA d) y) cZ)), setS (qint (qfld d 6)) (tw (opr (qint (qfld d 2))) (vA d) y)]
  else if qint (qfld d 2) = 15 then [setS 8 (tw 12 (vA d) y), setS 9 (tw 14 (tw 4 (vA d) y) cZ), setS 10 (tw 15 (vA d) y), setS 11 (tw 8 (tw 14 (vA d) y) (tw 14 (tw 4 (vA d) y) cZ))]
  else [setS 8 (tw 12 (tw (opr (qint (qfld d 2))) (vA d) y) cZ), setS 9 (tw 14 (tw (opr (qint (qfld d 2))) (vA d) y) cZ), setS 10 cZ, setS 11 cZ, setS (qint (qfld d 6)) (tw (opr (qint (qfld d 2))) (vA d) y)]

theorem re5_lit (a b c e : Int) (l : D) : re5 (.agg [.int a, .int b, .int c, .int e, l]) = .agg [.int a, .int b, .int c, .int e, l] := by
  simp only [re5, qfld_agg, List.getD_cons_zero, List.getD_cons_succ, qint_i]

theorem arith73 {d y : D} (h : 6 ≤ qint (qfld d 2) ∧ qint (qfld d 2) ≤ 15) (hy : re5 y = y) : q73 [d, y] = some [.list (arith d y)] := by
  have hl : ∀ x0 x1 x2 x3 : D, re5 x0 = x0 → re5 x1 = x1 → re5 x2 = x2 → re5 x3 = x3 → l73_5 [.int (qint (qfld d 6)), y, d] [.int 0, .list [x0, x1, x2, x3], .list []] = some [.int 0, .list [setS 8 x0, setS 9 x1, setS 10 x2, setS 11 x3]] := fun _ _ _ _ => loop73
  have hq : ∀ x0 x1 x2 x3 x4 : D, qmem (qlen (.list [x0, x1, x2, x3, x4])) 96 = true := fun _ _ _ _ _ => by rw [qlen_l]; exact qmem_ok (by simp) (by omega)
  have hy' : D.agg [.int (qint (qfld y 0)), .int (qint (qfld y 1)), .int (qint (qfld y 2)), .int (qint (qfld y 3)), qfld y 4] = y := hy
  rw [q73_eq, F73_eq]
  unfold arith
  simp only [F73_a20, F73_a19, F73_a18, F73_a17, F73_a16, F73_a15, F73_a14, F73_a13, F73_a12, F73_a11, F73_a10, F73_a9, F73_a8, F73_a7, F73_a6, F73_a5, F73_a4, F73_a3, F73_a2, F73_a1, F73_a0, hy',
    qcmp_lss, qcmp_gtr, qcmp_eql, qcmp_neq, qiteB_c, decide_eq_false (show ¬ qint (qfld d 2) < 6 by omega), decide_eq_false (show ¬ (15 : Int) < qint (qfld d 2) by omega), cond_false]
  by_cases e6 : qint (qfld d 2) = 6
  · obtain ⟨h50, _⟩ := opr_spec (o := qint (qfld d 2)) (by omega)
    simp only [if_pos e6, decide_eq_true e6, decide_eq_false (show ¬ qint (qfld d 2) = 15 by omega), cond_true, cond_false, Bool.not_false, hl _ _ _ _ (re5_lit ..) (re5_lit ..) (re5_lit ..) (re5_lit ..), qsome_s, qnth_s, List.getD_cons_zero, List.getD_cons_succ, h50, qint_i, hq, qapp_l, List.cons_append, List.nil_append]
  · by_cases e7 : qint (qfld d 2) = 7
    · obtain ⟨h50, _⟩ := opr_spec (o := qint (qfld d 2)) (by omega)
      simp only [if_neg e6, if_pos e7, decide_eq_true e7, decide_eq_false e6, decide_eq_false (show ¬ qint (qfld d 2) = 15 by omega), cond_true, cond_false, Bool.not_false, hl _ _ _ _ (re5_lit ..) (re5_lit ..) (re5_lit ..) (re5_lit ..), qsome_s, qnth_s, List.getD_cons_zero, List.getD_cons_succ, h50, qint_i, hq, qapp_l, List.cons_append, List.nil_append]
    · by_cases e15 : qint (qfld d 2) = 15
      · simp only [if_neg e6, if_neg e7, if_pos e15, decide_eq_false e7, decide_eq_false e6, decide_eq_true e15, cond_true, cond_false, Bool.not_true, hl _ _ _ _ (re5_lit ..) (re5_lit ..) (re5_lit ..) (re5_lit ..), qsome_s, qnth_s, List.getD_cons_zero, List.getD_cons_succ]
      · obtain ⟨h50, _⟩ := opr_spec (o := qint (qfld d 2)) (by omega)
        simp only [if_neg e6, if_neg e7, if_neg e15, decide_eq_false e7, decide_eq_false e6, decide_eq_false e15, cond_true, cond_false, Bool.not_false, hl _ _ _ _ (re5_lit ..) (re5_lit ..) (re5_lit ..) (re5_lit ..), qsome_s, qnth_s, List.getD_cons_zero, List.getD_cons_succ, h50, qint_i, hq, qapp_l, List.cons_append, List.nil_append]

/-- What is computed with: a register or a number. -/
noncomputable def argY (d : D) : D := if qint (qfld d 3) = 0 then .agg [.int 2, .int 0, .int (qint (qfld d 7)), .int 0, .list []] else .agg [.int 1, .int (qint (qfld d 1)), .int 0, .int 0, .list []]

theorem comp39 {d : D} (h : 5 ≤ qint (qfld d 2) ∧ qint (qfld d 2) ≤ 15) : q39 [d] = some [.list (if qint (qfld d 2) = 5 then [setS (qint (qfld d 6)) (argY d)] else arith d (argY d))] := by
  have hop : ∀ o : Int, qint (qget (.list [.int 3, .int 4, .int 6, .int 7, .int 8, .int 5, .int 9, .int 10, .int 11]) (qbin .sub .i64 o 6)) = opr o := fun _ => rfl
  have hib : 6 ≤ qint (qfld d 2) ∧ qint (qfld d 2) ≤ 14 → qinb (.list [.int 3, .int 4, .int 6, .int 7, .int 8, .int 5, .int 9, .int 10, .int 11]) (qbin .sub .i64 (qint (qfld d 2)) 6) = true := fun h => (opr_spec h).2
  rw [q39_eq, F39_eq]
  unfold arith argY
  simp only [F39_a63, F39_a62, F39_a61, F39_a60, F39_a59, F39_a58, F39_a57, F39_a56, F39_a55, F39_a54, F39_a53, F39_a52, F39_a51, F39_a50, F39_a49, F39_a48, F39_a47, F39_a46, F39_a45, F39_a44, F39_a43, F39_a42, F39_a41, F39_a40, F39_a39, F39_a38, F39_a37, F39_a36, F39_a35, F39_a34, F39_a33, F39_a32, F39_a31, F39_a30, F39_a29, F39_a28, F39_a27, F39_a26, F39_a25, F39_a24, F39_a23, F39_a22, F39_a21, F39_a20, F39_a19, F39_a18, F39_a17, F39_a16, F39_a15, F39_a14, F39_a13, F39_a12, F39_a11, F39_a10, F39_a9, F39_a8, F39_a7, F39_a6, F39_a5, F39_a4, F39_a3, F39_a2, F39_a1, F39_a0,
    hop, qcmp_gtr, qcmp_leq, qcmp_eql, qcmp_neq, qiteB_c]
  by_cases hf : qint (qfld d 3) = 0
  all_goals simp only [hf, decide_true, decide_false, cond_true, cond_false, if_true, if_false]
  all_goals by_cases e5 : qint (qfld d 2) = 5
  · simp only [if_pos e5, decide_eq_true e5, cond_true]
  · by_cases e15 : qint (qfld d 2) = 15
    · simp only [if_neg e5, decide_eq_false e5, decide_eq_false (show ¬ qint (qfld d 2) = 6 by omega), if_neg (show ¬ qint (qfld d 2) = 6 by omega), decide_eq_false (show ¬ qint (qfld d 2) = 7 by omega), if_neg (show ¬ qint (qfld d 2) = 7 by omega), if_pos e15, decide_eq_true e15, cond_true, cond_false, Bool.not_true]
    · have hib := hib (by omega)
      simp only [if_neg e5, decide_eq_false e5, if_neg e15, decide_eq_false e15, hib, cond_true, cond_false, Bool.not_false]
      by_cases e6 : qint (qfld d 2) = 6
      · simp only [if_pos e6, decide_eq_true e6, cond_true]
      · by_cases e7 : qint (qfld d 2) = 7
        · simp only [if_neg e6, decide_eq_false e6, if_pos e7, decide_eq_true e7, cond_true, cond_false]
        · simp only [if_neg e6, decide_eq_false e6, if_neg e7, decide_eq_false e7, cond_true, cond_false, decide_eq_true (show (7 : Int) < qint (qfld d 2) by omega), decide_eq_true (show qint (qfld d 2) ≤ 14 by omega)]
  · simp only [if_pos e5, decide_eq_true e5, cond_true]
  · by_cases e15 : qint (qfld d 2) = 15
    · simp only [if_neg e5, decide_eq_false e5, decide_eq_false (show ¬ qint (qfld d 2) = 6 by omega), if_neg (show ¬ qint (qfld d 2) = 6 by omega), decide_eq_false (show ¬ qint (qfld d 2) = 7 by omega), if_neg (show ¬ qint (qfld d 2) = 7 by omega), if_pos e15, decide_eq_true e15, cond_true, cond_false, Bool.not_true]
    · have hib := hib (by omega)
      simp only [if_neg e5, decide_eq_false e5, if_neg e15, decide_eq_false e15, hib, cond_true, cond_false, Bool.not_false]
      by_cases e6 : qint (qfld d 2) = 6
      · simp only [if_pos e6, decide_eq_true e6, cond_true]
      · by_cases e7 : qint (qfld d 2) = 7
        · simp only [if_neg e6, decide_eq_false e6, if_pos e7, decide_eq_true e7, cond_true, cond_false]
        · simp only [if_neg e6, decide_eq_false e6, if_neg e7, decide_eq_false e7, cond_true, cond_false, decide_eq_true (show (7 : Int) < qint (qfld d 2) by omega), decide_eq_true (show qint (qfld d 2) ≤ 14 by omega)]

theorem comp41 {d : D} (h : 5 ≤ qint (qfld d 2) ∧ qint (qfld d 2) ≤ 15) : q41 [d] = some [.list (if qint (qfld d 2) = 5 then [setS (qint (qfld d 6)) (argY d)] else arith d (argY d))] := by
  rw [q41_eq, F41_eq]
  have h73 : 6 ≤ qint (qfld d 2) → q73 [d, argY d] = some [.list (arith d (argY d))] := fun h6 => arith73 ⟨h6, h.2⟩ (by unfold argY; split <;> exact re5_lit ..)
  simp only [qcmp_geq, qcmp_leq, qcmp_eql, qcmp_neq, qiteB_c]
  by_cases hf : qint (qfld d 3) = 0
  · have hy : argY d = .agg [.int 2, .int 0, .int (qint (qfld d 7)), .int 0, .list []] := if_pos hf
    rw [hy] at h73
    simp only [decide_eq_true hf, Bool.not_true, cond_false, hy]
    by_cases e5 : qint (qfld d 2) = 5
    · simp only [if_pos e5, decide_eq_true e5, cond_true]
    · simp only [if_neg e5, decide_eq_false e5, cond_false, decide_eq_true (show 6 ≤ qint (qfld d 2) by omega), decide_eq_true h.2, cond_true, h73 (by omega), qsome_s, qnth_s, List.getD_cons_zero]
  · have hy : argY d = .agg [.int 1, .int (qint (qfld d 1)), .int 0, .int 0, .list []] := if_neg hf
    rw [hy] at h73
    simp only [decide_eq_false hf, Bool.not_false, cond_true, hy]
    by_cases e5 : qint (qfld d 2) = 5
    · simp only [if_pos e5, decide_eq_true e5, cond_true]
    · simp only [if_neg e5, decide_eq_false e5, cond_false, decide_eq_true (show 6 ≤ qint (qfld d 2) by omega), decide_eq_true h.2, cond_true, h73 (by omega), qsome_s, qnth_s, List.getD_cons_zero]

theorem arith_size (d y : D) (hy : y.size ≤ 10) : D.sizes (arith d y) ≤ 1000 := by
  unfold arith
  repeat' split
  all_goals (simp only [setS, tw, vA, cZ, D.size, D.sizes]; omega)

end Go.Proofs.YtgklbalcneepoaaGreatDoor

namespace Go.Proofs.YtgklbalcneepoaaGreatDoor
set_option linter.unusedSimpArgs false
open Go Go.AM

theorem conf_elems {T e : TypeId} {j F : Nat} {d : D} (hT : isFld T j F = true) (hF : isSl F e = true) (h : Conf PG T d) : (d.fld j).toList.length ≤ maxLen ∧ ∀ x ∈ (d.fld j).toList, Conf PG e x := by
  have h1 := conf_fld hT (qconf_iff.2 h)
  have h2 := qconfL_iff.1 (conf_list hF h1)
  rw [qfld_eq] at h2
  exact ⟨h2.1, h2.2.2⟩
theorem f33_4 : isFld 33 4 31 = true := by kernel_rfl
theorem s32 : isSl 31 33 = true := by kernel_rfl

/-- A loop over operands with an answer for each: an answer. -/
theorem idxAny {st : List D → Option (Sum (List D) (List D))} {l : D} {c : D → Option (List D)} {r1 : Int → List D} {r0 : List D}
    (hst : ∀ i : Int, st [.int i] = bif qcmp .lss i (qlen l) then bif qinb l i then bif qsome (c (qget l i)) then bif qbool (qnth (c (qget l i)) 0) then some (.inr (r1 i)) else some (.inl [.int (qbin .add .i64 i 1)]) else none else none else some (.inr r0))
    (hl : l.toList.length ≤ maxLen) (hc : ∀ x ∈ l.toList, ∃ b, c x = some [.bool b]) : loW st [.int 0] = some r0 ∨ ∃ i : Nat, loW st [.int 0] = some (r1 i) := by
  have hc' : ∀ x ∈ l.toList, c x = some [.bool (qbool (qnth (c x) 0))] := fun x hx => by
    obtain ⟨b, hb⟩ := hc x hx
    rw [hb, qnth_s, List.getD_cons_zero, qbool_b]
  rcases idxLoop (p := fun x => qbool (qnth (c x) 0)) hst hl hc' with ⟨h, _⟩ | ⟨i, h, _⟩
  · exact .inl h
  · exact .inr ⟨i, h⟩

theorem total44 : ∀ (N : Nat) (d : D) (n : Int), Conf PG 33 d → d.size < N → -9223372036854775808 ≤ n → n ≤ 9223372036854775807 → ∃ b, F44 N [d, .int n] = some [.bool b] := by
  intro N
  induction N with
  | zero => intro d n _ h; omega
  | succ N ih =>
    intro d n hd hs h0 h1
    obtain ⟨hl, hx⟩ := conf_elems f33_4 s32 hd
    rw [F44_s, Fb44_eq, l44_4_eq]
    by_cases hn : n < 1
    · exact ⟨true, by simp [qcmp_lss, hn]⟩
    · have hsub : qbin .sub .i64 n 1 = n - 1 := sub64 (by omega) (by omega)
      rcases idxAny (st := st44_4 (F44 N) [.int n, d]) (l := d.fld 4) (c := fun x => F44 N [x, .int (n - 1)]) (r1 := fun _ => [.int 1]) (r0 := [.int 0])
        (fun i => by rw [st44_4_eq, hsub, qfld_eq]) hl (fun x hm => ih x (n - 1) (hx x hm) (by have := size_elem hm; omega) (by omega) (by omega)) with h | ⟨i, h⟩
      · exact ⟨false, by simp [qcmp_lss, hn, h, qsome_s, qnth_s, qint_i, qcmp_eql]⟩
      · exact ⟨true, by simp [qcmp_lss, hn, h, qsome_s, qnth_s, qint_i, qcmp_eql]⟩

theorem bool_ex {c : Bool} {x y : Option (List D)} (hx : ∃ b, x = some [.bool b]) (hy : ∃ b, y = some [.bool b]) : ∃ b, (bif c then x else y) = some [D.bool b] := by
  cases c
  · exact hy
  · exact hx

theorem total45 : ∀ (N : Nat) (d : D), Conf PG 33 d → d.size < N → ∃ b, F45 N [d] = some [.bool b] := by
  intro N
  induction N with
  | zero => intro d _ h; omega
  | succ N ih =>
    intro d hd hs
    obtain ⟨hl, hx⟩ := conf_elems f33_4 s32 hd
    have h85 : ∀ n, q85 [.int n] = some [.bool (qiteB (qcmp .geq n 0) (qcmp .lss n 65536) false)] := fun n => by rw [q85_eq, F85_eq]
    rw [F45_s, Fb45_eq, l45_2_eq]
    rcases idxAny (st := st45_2 (F45 N) [d]) (l := d.fld 4) (c := fun x => (F45 N [x]).map fun r => [.bool (qnot (qbool (r.getD 0 .other)))]) (r1 := fun _ => [.int 1]) (r0 := [.int 0])
      (fun i => by
        rw [st45_2_eq, qfld_eq]
        cases hq : F45 N [qget (d.fld 4) i] with
        | none => simp [qsome_n]
        | some r => simp [qsome_s, qnth_s, qbool_b]) hl (fun x hm => by
        obtain ⟨b, hb⟩ := ih x (hx x hm) (by have := size_elem hm; omega)
        exact ⟨!b, by rw [hb]; simp [qbool_b, qnot_c]⟩) with h | ⟨i, h⟩
    · simp only [h, qsome_s, qnth_s, List.getD_cons_zero, qint_i, qcmp_eql, decide_true, cond_true, h85]
      refine bool_ex ⟨_, rfl⟩ (bool_ex ?_ (bool_ex ⟨_, rfl⟩ (bool_ex ⟨_, rfl⟩ (bool_ex ⟨_, rfl⟩ ⟨_, rfl⟩))))
      simp only [qiteB_c, Bool.cond_self, cond_true]
      exact ⟨_, rfl⟩
    · exact ⟨false, by simp [h, qsome_s, qnth_s, qint_i, qcmp_eql]⟩

theorem total11 : ∀ (N : Nat) (d : D) (most left : Int), d.size < N → (-9223372036854775807 ≤ most ∧ most ≤ 9223372036854775807) → left ≤ 3000 → ∃ r, F11 N [d, .int most, .int left] = some [.int r] ∧ r ≤ 3000 := by
  intro N
  induction N with
  | zero => intro d _ _ h; omega
  | succ N ih =>
    intro d most left hs hm hl
    rw [F11_s, Fb11_eq]
    simp only [qfld_eq, qlen_c, qiteB_c, qcmp_lss, qcmp_gtr]
    by_cases hg : most < 1 ∨ left < 1 ∨ (4 : Int) < ((d.fld 4).toList.length : Int)
    · refine ⟨-1, ?_, by omega⟩
      have : (bif bif decide (most < 1) then true else decide (left < 1) then true else decide ((4 : Int) < ((d.fld 4).toList.length : Int))) = true := by
        rcases hg with h | h | h <;> simp [h]
      rw [this]; rfl
    · have g1 : ¬ most < 1 := fun h => hg (.inl h)
      have g2 : ¬ left < 1 := fun h => hg (.inr (.inl h))
      have g3 : ¬ (4 : Int) < ((d.fld 4).toList.length : Int) := fun h => hg (.inr (.inr h))
      simp only [g1, g2, g3, decide_false, cond_false]
      have key : ∀ k i : Nat, i + k = (d.fld 4).toList.length → ∀ n : Int, n ≤ 3000 → ∃ r, loW (st11_5 (F11 N) [.int most, d]) [.int n, .int i] = some [.int 0, .int r] ∧ r ≤ 3000 := by
        intro k
        induction k with
        | zero =>
          intro i hi n hn
          rw [loW_eq, st11_5_eq]
          simp only [qfld_eq, qlen_c, qiteB_c, qcmp_lss, show ¬ ((i : Int) < ((d.fld 4).toList.length : Int)) by omega, decide_false, cond_false]
          exact ⟨n, rfl, hn⟩
        | succ k ihk =>
          intro i hi n hn
          rw [loW_eq, st11_5_eq]
          have hlt : i < (d.fld 4).toList.length := by omega
          simp only [qfld_eq, qlen_c, qiteB_c, qcmp_lss, qcmp_geq, show ((i : Int) < ((d.fld 4).toList.length : Int)) by omega, decide_true, cond_true]
          by_cases h0 : 0 ≤ n
          · have hmem : qget (d.fld 4) (i : Int) ∈ (d.fld 4).toList := by rw [qget_n, getD_lt hlt]; exact List.getElem_mem hlt
            obtain ⟨r, hr, hr1⟩ := ih (qget (d.fld 4) (i : Int)) (most - 1) n (by have := size_elem hmem; omega) (by omega) hn
            have hsub : qbin .sub .i64 most 1 = most - 1 := sub64 (by omega) (by omega)
            obtain ⟨r', hr', hr1'⟩ := ihk (i + 1) (by omega) r hr1
            exact ⟨r', by simp only [h0, decide_true, cond_true, qinb_n hlt, hsub, hr, qsome_s, qnth_s, List.getD_cons_zero, qint_i, add_nat (show i < 9223372036854775807 by omega), hr'], hr1'⟩
          · exact ⟨n, by simp only [h0, decide_false, cond_false], hn⟩
      obtain ⟨r, h1, h2⟩ := key (d.fld 4).toList.length 0 (by omega) (left - 1) (by omega)
      have hsub : qbin .sub .i64 left 1 = left - 1 := sub64 (by omega) (by omega)
      refine ⟨r, ?_, h2⟩
      rw [l11_5_eq, hsub]
      have h1' : loW (st11_5 (F11 N) [.int most, d]) [.int (left - 1), .int 0] = some [.int 0, .int r] := h1
      simp only [h1', qsome_s, qnth_s, List.getD_cons_zero, List.getD_cons_succ, qint_i, cond_true]

theorem check12 {d : D} (hd : Conf PG 33 d) : ∃ f, q12 [d] = some [.int f] := by
  obtain ⟨b, hb⟩ := total44 (fuelL [d, .int 64]) d 64 hd (fuel_in (by simp)) (by omega) (by omega)
  obtain ⟨c, hc⟩ := total45 (fuelL [d]) d hd (fuel_in (by simp))
  rw [q12_eq, F12_eq, q44_eq, q45_eq]
  simp only [hb, hc, qsome_s, qnth_s, List.getD_cons_zero, qbool_b, cond_true, qnot_c]
  cases b <;> cases c <;> exact ⟨_, rfl⟩

/-- The same as itself, with every fuel. -/
def Sm (d : D) : Prop := ∀ N, d.size < N → F15 N [d, d] = some [.bool true]

theorem sm_step {d : D} (hl : (d.fld 4).toList.length ≤ maxLen) (h : ∀ x ∈ (d.fld 4).toList, Sm x) : Sm d := by
  intro N hN
  cases N with
  | zero => omega
  | succ N =>
    unfold maxLen at hl
    have key : ∀ k i : Nat, i + k = (d.fld 4).toList.length → loW (st15_4 (F15 N) [d, d]) [.int i] = some [.int 0] := by
      intro k
      induction k with
      | zero =>
        intro i hi
        rw [loW_eq, st15_4_eq, qfld_eq, qlen_c, qcmp_lss]
        simp only [show ¬ ((i : Int) < (d.fld 4).toList.length) by omega, decide_false, cond_false]
      | succ k ihk =>
        intro i hi
        have hlt : i < (d.fld 4).toList.length := by omega
        have hm : qget (d.fld 4) (i : Int) ∈ (d.fld 4).toList := by rw [qget_n, getD_lt hlt]; exact List.getElem_mem hlt
        have := size_elem hm
        rw [loW_eq, st15_4_eq, qfld_eq, qlen_c, qcmp_lss]
        simp only [show ((i : Int) < (d.fld 4).toList.length) by omega, decide_true, cond_true, qinb_n hlt, h _ hm N (by omega), qsome_s, qnth_s, List.getD_cons_zero, qbool_b, qnot_c, Bool.not_true, cond_false, add_nat (i := i) (by omega)]
        exact ihk (i + 1) (by omega)
    have hk := key (d.fld 4).toList.length 0 (by omega)
    have e : l15_4 (F15 N) [d, d] [.int 0] = some [.int 0] := by rw [l15_4_eq]; exact hk
    rw [F15_s, Fb15_eq, e]
    simp [qcmp_neq, qcmp_eql, qiteB_c, qsome_s, qnth_s, qint_i]

theorem sm_conf : ∀ (k : Nat) (d : D), d.size ≤ k → Conf PG 33 d → Sm d := by
  intro k
  induction k with
  | zero => intro d h; have := D.size_pos d; omega
  | succ k ih =>
    intro d hk hd
    obtain ⟨hl, hx⟩ := conf_elems f33_4 s32 hd
    exact sm_step hl fun x hm => ih x (by have := size_elem hm; omega) (hx x hm)

theorem sm_lit (a b c e : Int) {l : List D} (hl : l.length ≤ 100) (h : ∀ x ∈ l, Sm x) : Sm (.agg [.int a, .int b, .int c, .int e, .list l]) :=
  sm_step (by show l.length ≤ maxLen; unfold maxLen; omega) h
theorem sm_tw (o : Int) {x y : D} (hx : Sm x) (hy : Sm y) : Sm (tw o x y) := sm_lit _ _ _ _ (by simp) (by intro z hz; simp at hz; rcases hz with rfl | rfl <;> assumption)
theorem sm_c (a b c e : Int) : Sm (.agg [.int a, .int b, .int c, .int e, .list []]) := sm_lit _ _ _ _ (by simp) (by simp)

end Go.Proofs.YtgklbalcneepoaaGreatDoor

namespace Go.Proofs.YtgklbalcneepoaaGreatDoor
set_option linter.unusedSimpArgs false
open Go Go.AM

abbrev cN (n : Int) : D := .agg [.int 1, .int n, .int 0, .int 0, .list []]

/-- An expression of numbers, with its value, of so many levels. -/
inductive Ev : D → Int → Nat → Prop
  | c (n : Int) (k : Nat) : Ev (cN n) n (k + 1)
  | two {o a b v : Int} {x y : D} {k : Nat} : Ev x a k → Ev y b k → 3 ≤ o → o ≤ 15 → q91 [.int o, .int a, .int b] = some [.int v, .int 0] → Ev (tw o x y) v (k + 1)

theorem ev44 {x : D} {v : Int} {k : Nat} (h : Ev x v k) : ∀ (N : Nat) (m : Int), x.size < N → (k : Int) ≤ m → m ≤ 1000 → F44 N [x, .int m] = some [.bool false] := by
  induction h with
  | c n k =>
    intro N m hN hm _
    cases N with
    | zero => omega
    | succ N =>
      have e : l44_4 (F44 N) [.int m, cN n] [.int 0] = some [.int 0] := by
        rw [l44_4_eq]
        show loW (st44_4 (F44 N) [.int m, cN n]) [.int 0] = some [.int 0]
        rw [loW_eq, st44_4_eq]
        simp only [qfld_agg, List.getD_cons_zero, List.getD_cons_succ, qlen_l, List.length_nil, qcmp_lss, cond_false, Int.natCast_zero, Int.lt_irrefl, decide_false]
      rw [F44_s, Fb44_eq, e]
      simp only [qcmp_lss, qcmp_eql, decide_eq_false (show ¬ m < 1 by omega), cond_false, decide_true, qsome_s, qnth_s, List.getD_cons_zero, qint_i, cond_true]
  | @two o a b v x y k _ _ _ _ _ ih1 ih2 =>
    intro N m hN hm h1000
    cases N with
    | zero => omega
    | succ N =>
      have hs : x.size < N ∧ y.size < N := by simp only [tw, D.size, D.sizes] at hN; omega
      have hsub : qbin .sub .i64 m 1 = m - 1 := sub64 (by omega) (by omega)
      have hc : ∀ z ∈ (D.list [x, y]).toList, F44 N [z, .int (m - 1)] = some [.bool false] := by
        intro z hz
        have hz' : z = x ∨ z = y := by simpa [D.toList] using hz
        rcases hz' with rfl | rfl
        · exact ih1 N (m - 1) hs.1 (by omega) (by omega)
        · exact ih2 N (m - 1) hs.2 (by omega) (by omega)
      have hloop := idxLoop (st := st44_4 (F44 N) [.int m, tw o x y]) (l := .list [x, y]) (c := fun z => F44 N [z, .int (m - 1)]) (p := fun _ => false) (r1 := fun _ => [.int 1]) (r0 := [.int 0])
        (fun i => by rw [st44_4_eq, hsub]; simp only [qfld_agg, List.getD_cons_zero, List.getD_cons_succ]) (by simp [D.toList, maxLen]) hc
      rcases hloop with ⟨h, _⟩ | ⟨i, _, h⟩
      · have e : l44_4 (F44 N) [.int m, tw o x y] [.int 0] = some [.int 0] := by rw [l44_4_eq]; exact h
        rw [F44_s, Fb44_eq, e]
        simp only [qcmp_lss, qcmp_eql, decide_eq_false (show ¬ m < 1 by omega), cond_false, decide_true, qsome_s, qnth_s, List.getD_cons_zero, qint_i, cond_true]
      · simp [D.toList] at h

theorem ev45 {x : D} {v : Int} {k : Nat} (h : Ev x v k) : ∀ (N : Nat), x.size < N → F45 N [x] = some [.bool true] := by
  induction h with
  | c n k =>
    intro N hN
    cases N with
    | zero => omega
    | succ N =>
      have e : l45_2 (F45 N) [cN n] [.int 0] = some [.int 0] := by
        rw [l45_2_eq]
        show loW (st45_2 (F45 N) [cN n]) [.int 0] = some [.int 0]
        rw [loW_eq, st45_2_eq]
        simp only [qfld_agg, List.getD_cons_zero, List.getD_cons_succ, qlen_l, List.length_nil, qcmp_lss, cond_false, Int.natCast_zero, Int.lt_irrefl, decide_false]
      rw [F45_s, Fb45_eq, e]
      simp only [qfld_agg, List.getD_cons_zero, List.getD_cons_succ, qlen_l, List.length_nil, qcmp_lss, qcmp_eql, cond_false, Int.natCast_zero, Int.lt_irrefl, decide_false, decide_true, qsome_s, qnth_s, qint_i, cond_true, qiteB_c]
  | @two o a b v x y k _ _ h3 h15 _ ih1 ih2 =>
    intro N hN
    cases N with
    | zero => omega
    | succ N =>
      have hs : x.size < N ∧ y.size < N := by simp only [tw, D.size, D.sizes] at hN; omega
      have hc : ∀ z ∈ (D.list [x, y]).toList, F45 N [z] = some [.bool true] := by
        intro z hz
        have hz' : z = x ∨ z = y := by simpa [D.toList] using hz
        rcases hz' with rfl | rfl
        · exact ih1 N hs.1
        · exact ih2 N hs.2
      have hloop := idxLoop (st := st45_2 (F45 N) [tw o x y]) (l := .list [x, y]) (c := fun z => (F45 N [z]).map fun r => [.bool (qnot (qbool (r.getD 0 .other)))]) (p := fun _ => false) (r1 := fun _ => [.int 1]) (r0 := [.int 0])
        (fun i => by
          rw [st45_2_eq]
          simp only [qfld_agg, List.getD_cons_zero, List.getD_cons_succ]
          cases hq : F45 N [qget (.list [x, y]) i] with
          | none => simp [qsome_n]
          | some r => simp [qsome_s, qnth_s, qbool_b]) (by simp [D.toList, maxLen]) (fun z hz => by rw [hc z hz]; simp [qbool_b, qnot_c])
      have hno : ∀ n : Int, n < 3 ∨ 15 < n → decide (o = n) = false := fun n hn => decide_eq_false (by omega)
      rcases hloop with ⟨h, _⟩ | ⟨i, _, h⟩
      · have e : l45_2 (F45 N) [tw o x y] [.int 0] = some [.int 0] := by rw [l45_2_eq]; exact h
        rw [F45_s, Fb45_eq, e]
        simp only [qfld_agg, List.getD_cons_zero, List.getD_cons_succ, qlen_l, qcmp_geq, qcmp_leq, qcmp_eql, decide_true, qsome_s, qnth_s, qint_i, cond_true, cond_false, qiteB_c, hno 1 (by omega), hno 2 (by omega), hno 16 (by omega), hno 17 (by omega), hno 18 (by omega), hno 19 (by omega), decide_eq_true h3, decide_eq_true h15, List.length_cons, List.length_nil]
        rfl
      · simp [D.toList] at h

theorem ev52 {x s m : D} {v : Int} {k : Nat} (h : Ev x v k) : ∀ (N : Nat), x.size < N → F52 N [x, s, m] = some [.int v, .int 0] := by
  induction h with
  | c n k =>
    intro N hN
    cases N with
    | zero => omega
    | succ N =>
      rw [F52_s, Fb52_eq]
      simp only [qfld_agg, List.getD_cons_zero, List.getD_cons_succ, qcmp_eql, decide_true, qint_i, cond_true]
  | @two o a b v x y k _ _ h3 h15 h91 ih1 ih2 =>
    intro N hN
    cases N with
    | zero => omega
    | succ N =>
      have hs : x.size < N ∧ y.size < N := by simp only [tw, D.size, D.sizes] at hN; omega
      have hno : ∀ n : Int, n < 3 ∨ 15 < n → decide (o = n) = false := fun n hn => decide_eq_false (by omega)
      have g0 : qget (.list [x, y]) 0 = x := by have := qget_n (.list [x, y]) 0; simpa [D.toList] using this
      have g1 : qget (.list [x, y]) 1 = y := by have := qget_n (.list [x, y]) 1; simpa [D.toList] using this
      have b0 : qinb (.list [x, y]) 0 = true := by rw [qinb_c]; rfl
      have b1 : qinb (.list [x, y]) 1 = true := by rw [qinb_c]; rfl
      rw [F52_s, Fb52_eq]
      simp only [qfld_agg, List.getD_cons_zero, List.getD_cons_succ, qcmp_eql, qcmp_neq, qint_i, g0, g1, b0, b1, ih1 N hs.1, ih2 N hs.2, qsome_s, qnth_s, h91, decide_true, Bool.not_true, cond_true, cond_false, hno 1 (by omega), hno 2 (by omega), hno 16 (by omega), hno 17 (by omega), hno 18 (by omega), hno 19 (by omega)]

theorem ev19 {x s m : D} {v : Int} {k : Nat} (h : Ev x v k) (hk : k ≤ 64) : q19 [x, s, m] = some [.int v, .int 0] := by
  have h12 : q12 [x] = some [.int 0] := by
    rw [q12_eq, F12_eq, q44_eq, q45_eq]
    simp only [ev44 h (fuelL [x, .int 64]) 64 (fuel_in (by simp)) (by omega) (by omega), ev45 h (fuelL [x]) (fuel_in (by simp)), qsome_s, qnth_s, List.getD_cons_zero, qbool_b, cond_true, cond_false, qnot_c, Bool.not_true]
  rw [q19_eq, F19_eq, h12, q52_eq]
  simp only [ev52 h (fuelL [x, s, m]) (fuel_in (by simp)), qsome_s, qnth_s, List.getD_cons_zero, List.getD_cons_succ, qint_i, qcmp_neq, decide_true, Bool.not_true, cond_true, cond_false]

/- The operators. -/

theorem wrap32 (n : Int) : IntKind.u32.wrap n = n % 4294967296 := by
  simp only [IntKind.wrap, IntKind.bits, IntKind.signed]
  simp

end Go.Proofs.YtgklbalcneepoaaGreatDoor

namespace Go.Proofs.YtgklbalcneepoaaGreatDoor
set_option linter.unusedSimpArgs false
open Go Go.AM

theorem wrapI32 {n : Int} (h : 0 ≤ n ∧ n < 4294967296) : IntKind.i32.wrap n = if n < 2147483648 then n else n - 4294967296 := by
  simp only [IntKind.wrap, IntKind.bits, IntKind.signed]
  simp
  split <;> split <;> omega

/-- A number of 32 bits. -/
abbrev U32 (n : Int) : Prop := 0 ≤ n ∧ n < 4294967296
/-- Its sign. -/
abbrev hi (n : Int) : Bool := decide (2147483648 ≤ n)
abbrev num (c : Bool) : Int := bif c then 1 else 0

theorem msb_hi {c : Int} (h : U32 c) : (BitVec.ofInt 32 c).msb = hi c := by
  rw [Bool.eq_iff_iff, BitVec.msb_eq_decide, BitVec.toNat_ofInt]
  simp
  omega
theorem hi_nat (x : BitVec 32) : hi (x.toNat : Int) = x.msb := by
  rw [Bool.eq_iff_iff, BitVec.msb_eq_decide]
  simp
  omega

theorem bin_xor (a b : Int) : qbin .xor .u32 a b = ((BitVec.ofInt 32 a ^^^ BitVec.ofInt 32 b).toNat : Int) := by
  rw [qbin_eq]
  show IntKind.u32.wrap _ = _
  have hlt := (BitVec.ofInt 32 a ^^^ BitVec.ofInt 32 b).isLt
  rw [wrap32]
  exact Int.emod_eq_of_lt (by omega) (by show ((BitVec.ofInt 32 a ^^^ BitVec.ofInt 32 b).toNat : Int) < 4294967296; omega)
theorem bin_and (a b : Int) : qbin .and .u32 a b = ((BitVec.ofInt 32 a &&& BitVec.ofInt 32 b).toNat : Int) := by
  rw [qbin_eq]
  show IntKind.u32.wrap _ = _
  have hlt := (BitVec.ofInt 32 a &&& BitVec.ofInt 32 b).isLt
  rw [wrap32]
  exact Int.emod_eq_of_lt (by omega) (by show ((BitVec.ofInt 32 a &&& BitVec.ofInt 32 b).toNat : Int) < 4294967296; omega)
theorem u32_xor (a b : Int) : U32 (qbin .xor .u32 a b) := by
  rw [bin_xor]
  have hlt := (BitVec.ofInt 32 a ^^^ BitVec.ofInt 32 b).isLt
  omega
theorem u32_and (a b : Int) : U32 (qbin .and .u32 a b) := by
  rw [bin_and]
  have hlt := (BitVec.ofInt 32 a &&& BitVec.ofInt 32 b).isLt
  omega
theorem hi_xor {a b : Int} (ha : U32 a) (hb : U32 b) : hi (qbin .xor .u32 a b) = (hi a ^^ hi b) := by
  rw [bin_xor, hi_nat, BitVec.msb_xor, msb_hi ha, msb_hi hb]
theorem hi_and {a b : Int} (ha : U32 a) (hb : U32 b) : hi (qbin .and .u32 a b) = (hi a && hi b) := by
  rw [bin_and, hi_nat, BitVec.msb_and, msb_hi ha, msb_hi hb]
theorem bin_add (a b : Int) : qbin .add .u32 a b = (a + b) % 4294967296 := by rw [qbin_eq]; exact wrap32 _
theorem bin_sub (a b : Int) : qbin .sub .u32 a b = (a - b) % 4294967296 := by rw [qbin_eq]; exact wrap32 _
theorem u32_add (a b : Int) : U32 (qbin .add .u32 a b) := by rw [bin_add]; omega
theorem u32_sub (a b : Int) : U32 (qbin .sub .u32 a b) := by rw [bin_sub]; omega

theorem i32_lt0 {a : Int} (h : U32 a) : decide (qwrap .i32 a < qwrap .i32 0) = hi a := by
  rw [qwrap_eq, wrapI32 h, wrapI32 (by omega)]
  rw [Bool.eq_iff_iff]
  simp only [decide_eq_true_eq]
  split <;> simp <;> omega
theorem i32_lt {a b : Int} (ha : U32 a) (hb : U32 b) : decide (qwrap .i32 a < qwrap .i32 b) = (bif hi a ^^ hi b then hi a else decide (a < b)) := by
  rw [qwrap_eq, wrapI32 ha, wrapI32 hb]
  by_cases h1 : 2147483648 ≤ a <;> by_cases h2 : 2147483648 ≤ b
  all_goals simp only [hi, h1, h2, decide_true, decide_false, Bool.xor_self, Bool.xor_true, Bool.xor_false, Bool.not_true, Bool.not_false, cond_true, cond_false]
  all_goals (first | rw [if_neg (show ¬ a < 2147483648 by omega)] | rw [if_pos (show a < 2147483648 by omega)])
  all_goals (first | rw [if_neg (show ¬ b < 2147483648 by omega)] | rw [if_pos (show b < 2147483648 by omega)])
  all_goals rw [Bool.eq_iff_iff]
  all_goals simp only [decide_eq_true_eq, Bool.false_eq_true, iff_false, iff_true]
  all_goals omega

theorem num_q (c : Bool) : q139 [.bool c] = some [.int (num c)] := by rw [q139_eq, F139_eq]; cases c <;> rfl

theorem app3 (a b : Int) : q91 [.int 3, .int a, .int b] = some [.int (qbin .add .u32 a b), .int 0] := by rw [q91_eq, F91_eq]; simp [qcmp_eql]
theorem app4 (a b : Int) : q91 [.int 4, .int a, .int b] = some [.int (qbin .sub .u32 a b), .int 0] := by rw [q91_eq, F91_eq]; simp [qcmp_eql]
theorem app6 (a b : Int) : q91 [.int 6, .int a, .int b] = some [.int (qbin .and .u32 a b), .int 0] := by rw [q91_eq, F91_eq]; simp [qcmp_eql]
theorem app8 (a b : Int) : q91 [.int 8, .int a, .int b] = some [.int (qbin .xor .u32 a b), .int 0] := by rw [q91_eq, F91_eq]; simp [qcmp_eql]
theorem app12 (a b : Int) : q91 [.int 12, .int a, .int b] = some [.int (num (decide (a = b))), .int 0] := by rw [q91_eq, F91_eq]; simp [qcmp_eql, num_q, qsome_s, qnth_s, qint_i]
theorem app14 (a b : Int) : q91 [.int 14, .int a, .int b] = some [.int (num (decide (qwrap .i32 a < qwrap .i32 b))), .int 0] := by rw [q91_eq, F91_eq]; simp [qcmp_eql, qcmp_lss, num_q, qsome_s, qnth_s, qint_i]
theorem app15 (a b : Int) : q91 [.int 15, .int a, .int b] = some [.int (num (decide (a < b))), .int 0] := by rw [q91_eq, F91_eq]; simp [qcmp_eql, qcmp_lss, num_q, qsome_s, qnth_s, qint_i]

/-- What the flags of an addition are. -/
theorem add_flags {a b : Int} (ha : U32 a) (hb : U32 b) :
    Ev (tw 12 (tw 3 (cN a) (cN b)) (cN 0)) (num (decide (qbin .add .u32 a b = 0))) 9 ∧
    Ev (tw 14 (tw 3 (cN a) (cN b)) (cN 0)) (num (hi (qbin .add .u32 a b))) 9 ∧
    Ev (tw 15 (tw 3 (cN a) (cN b)) (cN a)) (num (decide (4294967296 ≤ a + b))) 9 ∧
    Ev (tw 14 (tw 6 (tw 8 (cN a) (tw 3 (cN a) (cN b))) (tw 8 (cN b) (tw 3 (cN a) (cN b)))) (cN 0)) (num ((hi a == hi b) && (hi (qbin .add .u32 a b) != hi a))) 9 := by
  have r : ∀ k, Ev (tw 3 (cN a) (cN b)) (qbin .add .u32 a b) (k + 2) := fun k => .two (.c a k) (.c b k) (by omega) (by omega) (app3 a b)
  have hr := u32_add a b
  refine ⟨.two (r 6) (.c 0 7) (by omega) (by omega) (app12 _ _), ?_, ?_, ?_⟩
  · have h := Ev.two (r 6) (.c 0 7) (by omega) (by omega) (app14 (qbin .add .u32 a b) 0)
    rw [i32_lt0 hr] at h; exact h
  · have h := Ev.two (r 6) (.c a 7) (by omega) (by omega) (app15 (qbin .add .u32 a b) a)
    have e : decide (qbin .add .u32 a b < a) = decide (4294967296 ≤ a + b) := by
      rw [bin_add, Bool.eq_iff_iff]; simp only [decide_eq_true_eq]; omega
    rw [e] at h; exact h
  · have h1 : Ev (tw 8 (cN a) (tw 3 (cN a) (cN b))) (qbin .xor .u32 a (qbin .add .u32 a b)) 7 := .two (.c a 5) (r 4) (by omega) (by omega) (app8 _ _)
    have h2 : Ev (tw 8 (cN b) (tw 3 (cN a) (cN b))) (qbin .xor .u32 b (qbin .add .u32 a b)) 7 := .two (.c b 5) (r 4) (by omega) (by omega) (app8 _ _)
    have h3 : Ev _ _ 8 := .two h1 h2 (by omega) (by omega) (app6 _ _)
    have h := Ev.two h3 (.c 0 7) (by omega) (by omega) (app14 _ 0)
    rw [i32_lt0 (u32_and _ _), hi_and (u32_xor _ _) (u32_xor _ _), hi_xor ha hr, hi_xor hb hr] at h
    have e : ((hi a ^^ hi (qbin .add .u32 a b)) && (hi b ^^ hi (qbin .add .u32 a b))) = ((hi a == hi b) && (hi (qbin .add .u32 a b) != hi a)) := by
      cases hi a <;> cases hi b <;> cases hi (qbin .add .u32 a b) <;> rfl
    rw [e] at h; exact h

/-- What the flags of a subtraction are. -/
theorem sub_flags {a b : Int} (ha : U32 a) (hb : U32 b) :
    Ev (tw 12 (cN a) (cN b)) (num (decide (qbin .sub .u32 a b = 0))) 9 ∧
    Ev (tw 14 (tw 4 (cN a) (cN b)) (cN 0)) (num (hi (qbin .sub .u32 a b))) 9 ∧
    Ev (tw 15 (cN a) (cN b)) (num (decide (a < b))) 9 ∧
    Ev (tw 8 (tw 14 (cN a) (cN b)) (tw 14 (tw 4 (cN a) (cN b)) (cN 0))) (num ((hi a != hi b) && (hi (qbin .sub .u32 a b) != hi a))) 9 := by
  have r : ∀ k, Ev (tw 4 (cN a) (cN b)) (qbin .sub .u32 a b) (k + 2) := fun k => .two (.c a k) (.c b k) (by omega) (by omega) (app4 a b)
  have hr := u32_sub a b
  refine ⟨?_, ?_, .two (.c a 7) (.c b 7) (by omega) (by omega) (app15 _ _), ?_⟩
  · have h := Ev.two (.c a 7) (.c b 7) (by omega) (by omega) (app12 a b)
    have e : decide (a = b) = decide (qbin .sub .u32 a b = 0) := by
      rw [bin_sub, Bool.eq_iff_iff]; simp only [decide_eq_true_eq]; omega
    rw [e] at h; exact h
  · have h := Ev.two (r 6) (.c 0 7) (by omega) (by omega) (app14 (qbin .sub .u32 a b) 0)
    rw [i32_lt0 hr] at h; exact h
  · have h1 : Ev (tw 14 (cN a) (cN b)) (num (decide (qwrap .i32 a < qwrap .i32 b))) 8 := .two (.c a 6) (.c b 6) (by omega) (by omega) (app14 _ _)
    have h2 : Ev (tw 14 (tw 4 (cN a) (cN b)) (cN 0)) (num (decide (qwrap .i32 (qbin .sub .u32 a b) < qwrap .i32 0))) 8 := .two (r 5) (.c 0 6) (by omega) (by omega) (app14 _ _)
    have h := Ev.two h1 h2 (by omega) (by omega) (app8 _ _)
    rw [i32_lt0 hr, i32_lt ha hb] at h
    have e : qbin .xor .u32 (num (bif hi a ^^ hi b then hi a else decide (a < b))) (num (hi (qbin .sub .u32 a b))) = num ((hi a != hi b) && (hi (qbin .sub .u32 a b) != hi a)) := by
      have hx : ∀ c d : Bool, qbin .xor .u32 (num c) (num d) = num (c ^^ d) := fun c d => by rw [bin_xor]; cases c <;> cases d <;> rfl
      rw [hx]
      congr 1
      rw [bin_sub, Bool.eq_iff_iff]
      by_cases h1 : 2147483648 ≤ a <;> by_cases h2 : 2147483648 ≤ b <;> by_cases h3 : a < b <;> by_cases h4 : 2147483648 ≤ (a - b) % 4294967296 <;> simp only [hi, h1, h2, h3, h4, decide_true, decide_false] <;> first | (simp; done) | (exfalso; omega)
    rw [e] at h; exact h

end Go.Proofs.YtgklbalcneepoaaGreatDoor

namespace Go.Proofs.YtgklbalcneepoaaGreatDoor
set_option linter.unusedSimpArgs false
open Go Go.AM

/- Data of the expressions' type. -/
noncomputable def isIntT (T : TypeId) : Bool := match PG.underlying T with | some (.int _) => true | _ => false
noncomputable def structLen (T : TypeId) : Nat := match PG.underlying T with | some (.struct fs) => fs.size | _ => 0
theorem int3 : isIntT 3 = true := by kernel_rfl
theorem int22 : isIntT 22 = true := by kernel_rfl
theorem len33 : structLen 33 = 5 := by kernel_rfl
theorem f33_0 : isFld 33 0 3 = true := by kernel_rfl
theorem f33_1 : isFld 33 1 22 = true := by kernel_rfl
theorem f33_2 : isFld 33 2 3 = true := by kernel_rfl
theorem f33_3 : isFld 33 3 3 = true := by kernel_rfl

theorem conf_int {T : TypeId} {d : D} (hT : isIntT T = true) (h : Conf PG T d) : ∃ n, d = .int n := by
  unfold isIntT at hT
  cases hu : PG.underlying T with
  | none => rw [hu] at hT; cases hT
  | some td =>
    rw [hu] at hT
    cases h with
    | int h1 => exact ⟨_, rfl⟩
    | str h1 hl => rw [h1] at hu; cases hu; cases hT
    | slice h1 hl hd => rw [h1] at hu; cases hu; cases hT
    | struct h1 => rw [h1] at hu; cases hu; cases hT
    | bool h1 => rw [h1] at hu; cases hu; cases hT
    | array h1 => rw [h1] at hu; cases hu; cases hT
    | other h1 => unfold isOther at h1; rw [hu] at h1; cases td <;> simp_all

theorem conf_agg5 {d : D} (h : Conf PG 33 d) : ∃ a b c e l, d = .agg [a, b, c, e, l] := by
  have ht := len33
  unfold structLen at ht
  cases hu : PG.underlying 33 with
  | none => rw [hu] at ht; cases ht
  | some td =>
    rw [hu] at ht
    cases h with
    | struct h1 hl =>
      rw [h1] at hu
      cases hu
      rename_i fs ds hd
      have ht' : fs.size = 5 := ht
      rw [ht'] at hl
      match ds, hl with
      | [a, b, c, e, l], _ => exact ⟨a, b, c, e, l, rfl⟩
    | int h1 => rw [h1] at hu; cases hu; cases ht
    | str h1 hl => rw [h1] at hu; cases hu; cases ht
    | slice h1 hl hd => rw [h1] at hu; cases hu; cases ht
    | bool h1 => rw [h1] at hu; cases hu; cases ht
    | array h1 => rw [h1] at hu; cases hu; cases ht
    | other h1 => unfold isOther at h1; rw [hu] at h1; cases td <;> simp_all

theorem conf_fldC {T F : TypeId} {j : Nat} {d : D} (hT : isFld T j F = true) (h : Conf PG T d) : Conf PG F (d.fld j) := by
  have := conf_fld hT (qconf_iff.2 h)
  rw [qfld_eq] at this
  exact qconf_iff.1 this

/-- An expression is what its fields are. -/
theorem conf_re5 {d : D} (h : Conf PG 33 d) : re5 d = d ∧ ∃ xs, d.fld 4 = .list xs := by
  obtain ⟨a, b, c, e, l, rfl⟩ := conf_agg5 h
  obtain ⟨n0, h0⟩ := conf_int int3 (conf_fldC f33_0 h)
  obtain ⟨n1, h1⟩ := conf_int int22 (conf_fldC f33_1 h)
  obtain ⟨n2, h2⟩ := conf_int int3 (conf_fldC f33_2 h)
  obtain ⟨n3, h3⟩ := conf_int int3 (conf_fldC f33_3 h)
  obtain rfl : a = .int n0 := h0
  obtain rfl : b = .int n1 := h1
  obtain rfl : c = .int n2 := h2
  obtain rfl : e = .int n3 := h3
  exact ⟨re5_lit .., (qconfL_iff.1 (conf_list s32 (conf_fld f33_4 (qconf_iff.2 h)))).2.1.imp fun xs hx => by rw [qfld_eq] at hx; exact hx⟩

/-- No node has more than four operands. -/
def L4 : Nat → D → Prop
  | 0, _ => False
  | N + 1, d => (d.fld 4).toList.length ≤ 4 ∧ ∀ x ∈ (d.fld 4).toList, L4 N x

theorem small11 : ∀ (N : Nat) (d : D) (most left : Int), d.size < N → (-9223372036854775807 ≤ most ∧ most ≤ 9223372036854775807) → left ≤ 3000 → ∃ r, F11 N [d, .int most, .int left] = some [.int r] ∧ r ≤ 3000 ∧ (0 ≤ r → L4 N d) := by
  intro N
  induction N with
  | zero => intro d _ _ h; omega
  | succ N ih =>
    intro d most left hs hm hl
    rw [F11_s, Fb11_eq]
    simp only [qfld_eq, qlen_c, qiteB_c, qcmp_lss, qcmp_gtr]
    by_cases hg : most < 1 ∨ left < 1 ∨ (4 : Int) < ((d.fld 4).toList.length : Int)
    · refine ⟨-1, ?_, by omega, by omega⟩
      have : (bif bif decide (most < 1) then true else decide (left < 1) then true else decide ((4 : Int) < ((d.fld 4).toList.length : Int))) = true := by
        rcases hg with h | h | h <;> simp [h]
      rw [this]; rfl
    · have g1 : ¬ most < 1 := fun h => hg (.inl h)
      have g2 : ¬ left < 1 := fun h => hg (.inr (.inl h))
      have g3 : ¬ (4 : Int) < ((d.fld 4).toList.length : Int) := fun h => hg (.inr (.inr h))
      simp only [g1, g2, g3, decide_false, cond_false]
      have key : ∀ k i : Nat, i + k = (d.fld 4).toList.length → ∀ n : Int, n ≤ 3000 → ∃ r, loW (st11_5 (F11 N) [.int most, d]) [.int n, .int i] = some [.int 0, .int r] ∧ r ≤ 3000 ∧ (0 ≤ r → 0 ≤ n ∧ ∀ x ∈ (d.fld 4).toList.drop i, L4 N x) := by
        intro k
        induction k with
        | zero =>
          intro i hi n hn
          rw [loW_eq, st11_5_eq]
          simp only [qfld_eq, qlen_c, qiteB_c, qcmp_lss, show ¬ ((i : Int) < ((d.fld 4).toList.length : Int)) by omega, decide_false, cond_false]
          exact ⟨n, rfl, hn, fun h => ⟨h, by rw [List.drop_of_length_le (by omega)]; simp⟩⟩
        | succ k ihk =>
          intro i hi n hn
          rw [loW_eq, st11_5_eq]
          have hlt : i < (d.fld 4).toList.length := by omega
          simp only [qfld_eq, qlen_c, qiteB_c, qcmp_lss, qcmp_geq, show ((i : Int) < ((d.fld 4).toList.length : Int)) by omega, decide_true, cond_true]
          by_cases h0 : 0 ≤ n
          · have hmem : qget (d.fld 4) (i : Int) ∈ (d.fld 4).toList := by rw [qget_n, getD_lt hlt]; exact List.getElem_mem hlt
            obtain ⟨r, hr, hr1, hr2⟩ := ih (qget (d.fld 4) (i : Int)) (most - 1) n (by have := size_elem hmem; omega) (by omega) hn
            have hsub : qbin .sub .i64 most 1 = most - 1 := sub64 (by omega) (by omega)
            obtain ⟨r', hr', hr1', hr2'⟩ := ihk (i + 1) (by omega) r hr1
            refine ⟨r', by simp only [h0, decide_true, cond_true, qinb_n hlt, hsub, hr, qsome_s, qnth_s, List.getD_cons_zero, qint_i, add_nat (show i < 9223372036854775807 by omega), hr'], hr1', fun h => ⟨h0, ?_⟩⟩
            obtain ⟨a, b⟩ := hr2' h
            have hx : (d.fld 4).toList[i] = qget (d.fld 4) (i : Int) := by rw [qget_n, getD_lt hlt]
            rw [List.drop_eq_getElem_cons hlt, hx]
            intro x hm
            rcases List.mem_cons.1 hm with rfl | hm
            · exact hr2 a
            · exact b x hm
          · exact ⟨n, by simp only [h0, decide_false, cond_false], hn, fun h => absurd h h0⟩
      obtain ⟨r, h1, h2, h3⟩ := key (d.fld 4).toList.length 0 (by omega) (left - 1) (by omega)
      have hsub : qbin .sub .i64 left 1 = left - 1 := sub64 (by omega) (by omega)
      refine ⟨r, ?_, h2, fun h => ⟨by omega, fun x hx => (h3 h).2 x (by simpa using hx)⟩⟩
      rw [l11_5_eq, hsub]
      have h1' : loW (st11_5 (F11 N) [.int most, d]) [.int (left - 1), .int 0] = some [.int 0, .int r] := h1
      simp only [h1', qsome_s, qnth_s, List.getD_cons_zero, List.getD_cons_succ, qint_i, cond_true]

/-- Its copy is the same. -/
def Cp (d : D) : Prop := ∀ N, d.size < N → F67 N [d] = some [.int (qint (qfld d 0)), .int (qint (qfld d 1)), .int (qint (qfld d 2)), .int (qint (qfld d 3)), qfld d 4]

theorem qset_same {l : List D} {i : Nat} (h : i < l.length) : qset (.list l) (i : Int) l[i] = .list l := by
  rw [qset_eq]
  simp [D.upd, D.toList]

theorem cp_step {d : D} {l : List D} (hl : qfld d 4 = .list l) (hn : l.length ≤ 100) (h : ∀ x ∈ l, Cp x ∧ re5 x = x) : Cp d := by
  intro N hN
  cases N with
  | zero => omega
  | succ N =>
    have h113 : q113 [qfld d 4] = some [.list l] := by
      rw [q113_eq, hl]
      unfold F113
      simp only [List.headD_cons, qapp_l, List.nil_append, qlen_l, qmem_ok (show l.length ≤ 100000 by omega) (show 56 ≤ 100 by omega), cond_true]
    have hsz : ∀ x ∈ l, x.size < N := fun x hx => by
      have : x ∈ (d.fld 4).toList := by rw [← qfld_eq, hl]; exact hx
      have := size_elem this
      omega
    have key : ∀ (p0 p1 p2 p3 : Int) (k i : Nat), i + k = l.length → loW (st67_3 (F67 N) [.int (qlen (.list l)), .int p0, .int p1, .int p2, .int p3]) [.int i, .list l] = some [.int 0, .list l] := by
      intro p0 p1 p2 p3 k
      induction k with
      | zero =>
        intro i hi
        rw [loW_eq, st67_3_eq, qlen_l, qcmp_lss]
        simp only [show ¬ ((i : Int) < (l.length : Int)) by omega, decide_false, cond_false]
      | succ k ih =>
        intro i hi
        have hlt : i < l.length := by omega
        have hlt' : i < (D.list l).toList.length := hlt
        have hg : qget (.list l) (i : Int) = l[i] := by rw [qget_n, getD_lt hlt']; rfl
        obtain ⟨hc, hr⟩ := h l[i] (List.getElem_mem hlt)
        have hq := hc N (hsz _ (List.getElem_mem hlt))
        have hr' : D.agg [.int (qint (qfld l[i] 0)), .int (qint (qfld l[i] 1)), .int (qint (qfld l[i] 2)), .int (qint (qfld l[i] 3)), qfld l[i] 4] = l[i] := hr
        have hs : qset (.list l) (i : Int) l[i] = .list l := qset_same hlt
        rw [loW_eq, st67_3_eq, hg, hq]
        simp only [qsome_s, qnth_s, List.getD_cons_zero, List.getD_cons_succ, qint_i, hr', hs, qlen_l, qcmp_lss, qcmp_leq, qcmp_eql, show ((i : Int) < (l.length : Int)) by omega, show (0 : Int) ≤ (i : Int) by omega, decide_true, cond_true, qinb_n hlt', add_nat (i := i) (by omega)]
        have := ih (i + 1) (by omega)
        rw [qlen_l] at this
        exact this
    have e : ∀ p0 p1 p2 p3 : Int, l67_3 (F67 N) [.int (qlen (.list l)), .int p0, .int p1, .int p2, .int p3] [.int 0, .list l] = some [.int 0, .list l] := fun p0 p1 p2 p3 => by rw [l67_3_eq]; exact key p0 p1 p2 p3 l.length 0 (by omega)
    rw [F67_s, Fb67_eq, h113]
    simp only [qsome_s, qnth_s, List.getD_cons_zero, List.getD_cons_succ, e, cond_true, hl]

/-- An expression that may be handed on. -/
def Gd (d : D) : Prop := Cp d ∧ re5 d = d ∧ Sm d

theorem gd_conf : ∀ (N : Nat) (d : D), L4 N d → Conf PG 33 d → Gd d := by
  intro N
  induction N with
  | zero => intro d h; cases h
  | succ N ih =>
    intro d h hd
    obtain ⟨hr, xs, hxs⟩ := conf_re5 hd
    obtain ⟨_, hx⟩ := conf_elems f33_4 s32 hd
    rw [hxs] at hx
    have h' : xs.length ≤ 4 ∧ ∀ x ∈ xs, L4 N x := by have := h; unfold L4 at this; rw [hxs] at this; exact this
    refine ⟨cp_step (l := xs) (by rw [qfld_eq]; exact hxs) (by omega) fun x hm => ?_, hr, sm_conf d.size d (Nat.le_refl _) hd⟩
    obtain ⟨a, b, _⟩ := ih x (h'.2 x hm) (hx x hm)
    exact ⟨a, b⟩

theorem gd_c (n : Int) : Gd (cN n) := ⟨cp_step (l := []) (by simp [qfld_agg]) (by simp) (by simp), re5_lit .., sm_c 1 n 0 0⟩
theorem gd_tw (o : Int) {x y : D} (hx : Gd x) (hy : Gd y) : Gd (tw o x y) :=
  ⟨cp_step (l := [x, y]) (by simp [qfld_agg]) (by simp) (by
    intro z hz
    have hz' : z = x ∨ z = y := by simpa using hz
    rcases hz' with rfl | rfl
    · exact ⟨hx.1, hx.2.1⟩
    · exact ⟨hy.1, hy.2.1⟩), re5_lit .., sm_tw o hx.2.2 hy.2.2⟩

theorem two_q (o : Int) {x y : D} (hx : Gd x) (hy : Gd y) : q31 [.int o, x, y] = some [.int o, .int 0, .int 0, .int 0, .list [x, y]] := by
  have h1 : q67 [x] = some [.int (qint (qfld x 0)), .int (qint (qfld x 1)), .int (qint (qfld x 2)), .int (qint (qfld x 3)), qfld x 4] := by rw [q67_eq]; exact hx.1 (fuelL [x]) (fuel_in (by simp))
  have h2 : q67 [y] = some [.int (qint (qfld y 0)), .int (qint (qfld y 1)), .int (qint (qfld y 2)), .int (qint (qfld y 3)), qfld y 4] := by rw [q67_eq]; exact hy.1 (fuelL [y]) (fuel_in (by simp))
  have r1 : D.agg [.int (qint (qfld x 0)), .int (qint (qfld x 1)), .int (qint (qfld x 2)), .int (qint (qfld x 3)), qfld x 4] = x := hx.2.1
  have r2 : D.agg [.int (qint (qfld y 0)), .int (qint (qfld y 1)), .int (qint (qfld y 2)), .int (qint (qfld y 3)), qfld y 4] = y := hy.2.1
  rw [q31_eq, F31_eq, h1, h2]
  simp only [qsome_s, qnth_s, List.getD_cons_zero, List.getD_cons_succ, qint_i, cond_true, r1, r2]

theorem neg_q {x : D} (hx : Gd x) : q46 [x] = some [.int 14, .int 0, .int 0, .int 0, .list [x, cN 0]] := by
  rw [q46_eq, F46_eq, two_q 14 hx (gd_c 0)]
  simp only [qsome_s, qnth_s, List.getD_cons_zero, List.getD_cons_succ, qint_i, cond_true]

end Go.Proofs.YtgklbalcneepoaaGreatDoor

namespace Go.Proofs.YtgklbalcneepoaaGreatDoor
set_option linter.unusedSimpArgs false
open Go Go.AM

/-- The flags' expressions. -/
noncomputable def fl (o : Int) (e b : D) : List D :=
  if o = 6 then [tw 12 (tw 3 e b) (cN 0), tw 14 (tw 3 e b) (cN 0), tw 15 (tw 3 e b) e, tw 14 (tw 6 (tw 8 e (tw 3 e b)) (tw 8 b (tw 3 e b))) (cN 0)]
  else if o = 7 ∨ o = 15 then [tw 12 e b, tw 14 (tw 4 e b) (cN 0), tw 15 e b, tw 8 (tw 14 e b) (tw 14 (tw 4 e b) (cN 0))]
  else if 8 ≤ o ∧ o ≤ 14 then [tw 12 (tw (opr o) e b) (cN 0), tw 14 (tw (opr o) e b) (cN 0), cN 0, cN 0]
  else []

theorem fl_small (o : Int) {e b : D} (he : Gd e) (hb : Gd b) : (fl o e b).length ≤ 4 ∧ ∀ x ∈ fl o e b, Gd x := by
  have h3 := gd_tw 3 he hb
  have h4 := gd_tw 4 he hb
  have ho := gd_tw (opr o) he hb
  have hz := gd_c 0
  unfold fl
  refine ⟨by (repeat' split) <;> simp, ?_⟩
  intro x hx
  (repeat' split at hx) <;> simp only [List.mem_cons, List.not_mem_nil, or_false] at hx
  · rcases hx with rfl | rfl | rfl | rfl
    · exact gd_tw _ h3 hz
    · exact gd_tw _ h3 hz
    · exact gd_tw _ h3 he
    · exact gd_tw _ (gd_tw _ (gd_tw _ he h3) (gd_tw _ hb h3)) hz
  · rcases hx with rfl | rfl | rfl | rfl
    · exact gd_tw _ he hb
    · exact gd_tw _ h4 hz
    · exact gd_tw _ he hb
    · exact gd_tw _ (gd_tw _ he hb) (gd_tw _ h4 hz)
  · rcases hx with rfl | rfl | rfl | rfl
    · exact gd_tw _ ho hz
    · exact gd_tw _ ho hz
    · exact hz
    · exact hz

theorem flags13 (o : Int) {e b : D} (he : Gd e) (hb : Gd b) : q13 [.int o, e, b] = some [.list (fl o e b)] := by
  have hz := gd_c 0
  have hop : ∀ o : Int, qint (qget (.list [.int 3, .int 4, .int 6, .int 7, .int 8, .int 5, .int 9, .int 10, .int 11]) (qbin .sub .i64 o 6)) = opr o := fun _ => rfl
  rw [q13_eq, F13_eq]
  unfold fl
  simp only [F13_a17, F13_a16, F13_a15, F13_a14, F13_a13, F13_a12, F13_a11, F13_a10, F13_a9, F13_a8, F13_a7, F13_a6, F13_a5, F13_a4, F13_a3, F13_a2, F13_a1, F13_a0, hop, qcmp_eql, qcmp_gtr, qcmp_leq, qiteB_c]
  by_cases e6 : o = 6
  · have h3 := gd_tw 3 he hb
    have q3 := two_q 3 he hb
    have q8 := two_q 8 he h3
    have q8' := two_q 8 hb h3
    have q6 := two_q 6 (gd_tw 8 he h3) (gd_tw 8 hb h3)
    have q12 := two_q 12 h3 hz
    have q15 := two_q 15 h3 he
    have n3 := neg_q h3
    have n6 := neg_q (gd_tw 6 (gd_tw 8 he h3) (gd_tw 8 hb h3))
    simp only [if_pos e6, decide_eq_true e6, cond_true, q3, qsome_s, qnth_s, List.getD_cons_zero, List.getD_cons_succ, qint_i, q8, q8', q6, q12, q15, n3, n6]
  · by_cases e7 : o = 7 ∨ o = 15
    · have h4 := gd_tw 4 he hb
      have q4 := two_q 4 he hb
      have n4 := neg_q h4
      have q12 := two_q 12 he hb
      have q15 := two_q 15 he hb
      have q14 := two_q 14 he hb
      have q8 := two_q 8 (gd_tw 14 he hb) (gd_tw 14 h4 hz)
      have hc : (bif decide (o = 7) then true else decide (o = 15)) = true := by rcases e7 with rfl | rfl <;> simp
      simp only [if_neg e6, if_pos e7, decide_eq_false e6, hc, cond_true, cond_false, q4, qsome_s, qnth_s, List.getD_cons_zero, List.getD_cons_succ, qint_i, n4, q12, q15, q14, q8]
    · have hc : (bif decide (o = 7) then true else decide (o = 15)) = false := by
        have h1 : ¬ o = 7 := fun h => e7 (.inl h)
        have h2 : ¬ o = 15 := fun h => e7 (.inr h)
        simp [h1, h2]
      have h7 : ¬ o = 7 := fun h => e7 (.inl h)
      by_cases e8 : 8 ≤ o ∧ o ≤ 14
      · have ho := gd_tw (opr o) he hb
        have qo := two_q (opr o) he hb
        have q12 := two_q 12 ho hz
        have no := neg_q ho
        simp only [if_neg e6, if_neg e7, if_pos e8, decide_eq_false e6, hc, decide_eq_true (show (7 : Int) < o by omega), decide_eq_true e8.2, (opr_spec (show 6 ≤ o ∧ o ≤ 14 by omega)).2, cond_true, cond_false, qo, qsome_s, qnth_s, List.getD_cons_zero, List.getD_cons_succ, qint_i, q12, no]
      · have hc2 : (bif decide ((7 : Int) < o) then decide (o ≤ 14) else false) = false := by
          by_cases h1 : (7 : Int) < o
          · have h2 : ¬ o ≤ 14 := by omega
            simp [h1, h2]
          · simp [h1]
        simp only [if_neg e6, if_neg e7, if_neg e8, decide_eq_false e6, hc, hc2, cond_false]

theorem flags14 (o : Int) {e b : D} (he : Gd e) (hb : Gd b) : q14 [.int o, e, b] = some [.list (fl o e b)] := by
  have r1 : D.agg [.int (qint (qfld e 0)), .int (qint (qfld e 1)), .int (qint (qfld e 2)), .int (qint (qfld e 3)), qfld e 4] = e := he.2.1
  have r2 : D.agg [.int (qint (qfld b 0)), .int (qint (qfld b 1)), .int (qint (qfld b 2)), .int (qint (qfld b 3)), qfld b 4] = b := hb.2.1
  rw [q14_eq, F14_eq]
  unfold fl
  simp only [r1, r2, qcmp_eql, qcmp_gtr, qcmp_lss, qiteB_c]
  by_cases e0 : o < 6 ∨ 15 < o
  · have hc : (bif decide (o < 6) then true else decide ((15 : Int) < o)) = true := by rcases e0 with h | h <;> simp [h]
    simp only [hc, cond_true, if_neg (show ¬ o = 6 by omega), if_neg (show ¬ (o = 7 ∨ o = 15) by omega), if_neg (show ¬ (8 ≤ o ∧ o ≤ 14) by omega)]
  · have hc : (bif decide (o < 6) then true else decide ((15 : Int) < o)) = false := by
      have h1 : ¬ o < 6 := fun h => e0 (.inl h)
      have h2 : ¬ (15 : Int) < o := fun h => e0 (.inr h)
      simp [h1, h2]
    simp only [hc, cond_false]
    by_cases e6 : o = 6
    · simp only [if_pos e6, decide_eq_true e6, cond_true]
    · by_cases e7 : o = 7 ∨ o = 15
      · have hc : (bif decide (o = 7) then true else decide (o = 15)) = true := by rcases e7 with rfl | rfl <;> simp
        simp only [if_neg e6, if_pos e7, decide_eq_false e6, hc, cond_true, cond_false]
      · have hc : (bif decide (o = 7) then true else decide (o = 15)) = false := by
          have h1 : ¬ o = 7 := fun h => e7 (.inl h)
          have h2 : ¬ o = 15 := fun h => e7 (.inr h)
          simp [h1, h2]
        have h7 : ¬ o = 7 := fun h => e7 (.inl h)
        have h15 : ¬ o = 15 := fun h => e7 (.inr h)
        simp only [if_neg e6, if_neg e7, if_pos (show 8 ≤ o ∧ o ≤ 14 by omega), decide_eq_false e6, hc, cond_false, (opr_spec (show 6 ≤ o ∧ o ≤ 14 by omega)).1, qsome_s, qnth_s, List.getD_cons_zero, qint_i, cond_true]

theorem loop4 {o n1 n0 : Int} {d : D} {l : List D} (hl : l.length ≤ 4) (h : ∀ x ∈ l, Gd x) : l4_8 [.int o, .list l, .list l, .int n1, .int n0, d] [.int 0] = some [.int 0] := by
  rw [l4_8_eq]
  have key : ∀ k i : Nat, i + k = l.length → loW (st4_8 [.int o, .list l, .list l, .int n1, .int n0, d]) [.int i] = some [.int 0] := by
    intro k
    induction k with
    | zero =>
      intro i hi
      rw [loW_eq, st4_8_eq, qlen_l, qcmp_lss]
      simp only [show ¬ ((i : Int) < (l.length : Int)) by omega, decide_false, cond_false]
    | succ k ih =>
      intro i hi
      have hlt : i < l.length := by omega
      have hlt' : i < (D.list l).toList.length := hlt
      have hg : qget (.list l) (i : Int) = l[i] := by rw [qget_n, getD_lt hlt']; rfl
      have hs : q15 [l[i], l[i]] = some [.bool true] := by rw [q15_eq]; exact (h l[i] (List.getElem_mem hlt)).2.2 _ (fuel_in (by simp))
      rw [loW_eq, st4_8_eq, hg, qlen_l, qcmp_lss, hs, qinb_n hlt']
      simp only [show ((i : Int) < (l.length : Int)) by omega, decide_true, cond_true, qsome_s, qnth_s, List.getD_cons_zero, qbool_b, qnot_c, Bool.not_true, cond_false, add_nat (i := i) (by omega)]
      exact ih (i + 1) (by omega)
  exact key l.length 0 (by omega)

theorem geq_hi (a : Int) : qcmp .geq a 2147483648 = hi a := by rw [qcmp_geq]

theorem wrap64u {n : Int} (h : 0 ≤ n ∧ n < 18446744073709551616) : IntKind.u64.wrap n = n := by
  simp only [IntKind.wrap, IntKind.bits, IntKind.signed]
  simp
  omega

theorem add_q {a b : Int} (ha : U32 a) (hb : U32 b) : ∃ r, q16 [.int a, .int b] = some [.int r, .agg [.bool (decide (qbin .add .u32 a b = 0)), .bool (hi (qbin .add .u32 a b)), .bool (decide (4294967296 ≤ a + b)), .bool ((hi a == hi b) && (hi (qbin .add .u32 a b) != hi a))]] := by
  have hc : qcmp .geq (qbin .add .u64 (qwrap .u64 a) (qwrap .u64 b)) 4294967296 = decide (4294967296 ≤ a + b) := by
    rw [qwrap_eq, wrap64u (by omega), wrap64u (by omega), qbin_eq]
    show qcmp .geq (IntKind.u64.wrap (a + b)) 4294967296 = _
    rw [wrap64u (by omega), qcmp_geq]
  refine ⟨qbin .add .u32 a b, ?_⟩
  rw [q16_eq, F16_eq]
  simp only [hc, geq_hi, qeqB_eq, qcmp_eql, qnot_c]
  cases hi a <;> cases hi b <;> cases hi (qbin .add .u32 a b) <;> rfl

theorem sub_q (a b : Int) : ∃ r, q17 [.int a, .int b] = some [.int r, .agg [.bool (decide (qbin .sub .u32 a b = 0)), .bool (hi (qbin .sub .u32 a b)), .bool (decide (a < b)), .bool ((hi a != hi b) && (hi (qbin .sub .u32 a b) != hi a))]] := by
  refine ⟨qbin .sub .u32 a b, ?_⟩
  rw [q17_eq, F17_eq]
  simp only [geq_hi, qeqB_eq, qcmp_eql, qcmp_lss, qnot_c]
  cases hi a <;> cases hi b <;> cases hi (qbin .sub .u32 a b) <;> rfl

theorem bit_q (c : Bool) : q18 [.bool c] = some [.int (num c)] := by rw [q18_eq, F18_eq]; cases c <;> rfl

theorem law4 {o : Int} {e d : D} (he : Conf PG 33 e) (h0 : U32 (qint (qfld d 0))) (h1 : U32 (qint (qfld d 1))) : q4 [.int o, e, d] = some [.bool true] := by
  obtain ⟨r, hr, _, hL⟩ := small11 (fuelL [e, .int 70, .int 30]) e 70 30 (fuel_in (by simp)) (by omega) (by omega)
  obtain ⟨f, hf⟩ := check12 he
  have hr' : q11 [e, .int 70, .int 30] = some [.int r] := by rw [q11_eq]; exact hr
  rw [q4_eq, F4_eq]
  simp only [hr', hf, qsome_s, qnth_s, List.getD_cons_zero, qint_i, qiteB_c, qcmp_lss, qcmp_gtr, qcmp_neq, Bool.cond_self, cond_true, q10_eq, qbool_b]
  cases hg : (bif bif bif decide (o < -1000) then true else decide ((1000 : Int) < o) then true else decide (r < 0) then true else !decide (f = 0)) with
  | true => simp only [cond_true]
  | false =>
    have hr0 : 0 ≤ r := by
      revert hg
      cases decide (o < -1000) <;> cases decide ((1000 : Int) < o) <;> by_cases h : r < 0 <;> simp [h] <;> omega
    have hge := gd_conf _ e (hL hr0) he
    have hgb := gd_c (qint (qfld d 1))
    have hga := gd_c (qint (qfld d 0))
    obtain ⟨hl, hm⟩ := fl_small o hge hgb
    obtain ⟨ra, hadd⟩ := add_q h0 h1
    obtain ⟨rs, hsub⟩ := sub_q (qint (qfld d 0)) (qint (qfld d 1))
    simp only [F4_a0, F4_a1, F4_a2, F4_a3, flags13 o hge hgb, flags14 o hge hgb, flags13 o hga hgb, qsome_s, qnth_s, List.getD_cons_zero, List.getD_cons_succ, decide_true, Bool.not_true, cond_false, cond_true, loop4 hl hm, qint_i, qcmp_eql, hadd, hsub, qfld_agg, qbool_b, bit_q]
    have gl : ∀ (x0 x1 x2 x3 : D), qlen (.list [x0, x1, x2, x3]) = 4 ∧ qget (.list [x0, x1, x2, x3]) 0 = x0 ∧ qget (.list [x0, x1, x2, x3]) 1 = x1 ∧ qget (.list [x0, x1, x2, x3]) 2 = x2 ∧ qget (.list [x0, x1, x2, x3]) 3 = x3 ∧ qinb (.list [x0, x1, x2, x3]) 0 = true ∧ qinb (.list [x0, x1, x2, x3]) 1 = true ∧ qinb (.list [x0, x1, x2, x3]) 2 = true ∧ qinb (.list [x0, x1, x2, x3]) 3 = true := by
      intro x0 x1 x2 x3
      refine ⟨by rw [qlen_l]; rfl, ?_, ?_, ?_, ?_, by rw [qinb_c]; rfl, by rw [qinb_c]; rfl, by rw [qinb_c]; rfl, by rw [qinb_c]; rfl⟩
      · have := qget_n (.list [x0, x1, x2, x3]) 0; simpa [D.toList] using this
      · have := qget_n (.list [x0, x1, x2, x3]) 1; simpa [D.toList] using this
      · have := qget_n (.list [x0, x1, x2, x3]) 2; simpa [D.toList] using this
      · have := qget_n (.list [x0, x1, x2, x3]) 3; simpa [D.toList] using this
    by_cases e6 : o = 6
    · obtain ⟨v0, v1, v2, v3⟩ := add_flags h0 h1
      have hfl : fl o (cN (qint (qfld d 0))) (cN (qint (qfld d 1))) = [tw 12 (tw 3 (cN (qint (qfld d 0))) (cN (qint (qfld d 1)))) (cN 0), tw 14 (tw 3 (cN (qint (qfld d 0))) (cN (qint (qfld d 1)))) (cN 0), tw 15 (tw 3 (cN (qint (qfld d 0))) (cN (qint (qfld d 1)))) (cN (qint (qfld d 0))), tw 14 (tw 6 (tw 8 (cN (qint (qfld d 0))) (tw 3 (cN (qint (qfld d 0))) (cN (qint (qfld d 1))))) (tw 8 (cN (qint (qfld d 1))) (tw 3 (cN (qint (qfld d 0))) (cN (qint (qfld d 1)))))) (cN 0)] := by unfold fl; rw [if_pos e6]
      rw [hfl]
      obtain ⟨g0, g1, g2, g3, g4, g5, g6, g7, g8⟩ := gl (tw 12 (tw 3 (cN (qint (qfld d 0))) (cN (qint (qfld d 1)))) (cN 0)) (tw 14 (tw 3 (cN (qint (qfld d 0))) (cN (qint (qfld d 1)))) (cN 0)) (tw 15 (tw 3 (cN (qint (qfld d 0))) (cN (qint (qfld d 1)))) (cN (qint (qfld d 0)))) (tw 14 (tw 6 (tw 8 (cN (qint (qfld d 0))) (tw 3 (cN (qint (qfld d 0))) (cN (qint (qfld d 1))))) (tw 8 (cN (qint (qfld d 1))) (tw 3 (cN (qint (qfld d 0))) (cN (qint (qfld d 1)))))) (cN 0))
      simp only [g0, g1, g2, g3, g4, g5, g6, g7, g8, ev19 v0 (by omega), ev19 v1 (by omega), ev19 v2 (by omega), ev19 v3 (by omega), decide_eq_true e6, Bool.not_true, Bool.not_false, cond_true, cond_false, qsome_s, qnth_s, List.getD_cons_zero, List.getD_cons_succ, qint_i, decide_true, show ((0 : Int) < 4) by omega, show ((1 : Int) < 4) by omega, show ((2 : Int) < 4) by omega, show ((3 : Int) < 4) by omega]
    · by_cases e7 : o = 7 ∨ o = 15
      · obtain ⟨v0, v1, v2, v3⟩ := sub_flags h0 h1
        have hfl : fl o (cN (qint (qfld d 0))) (cN (qint (qfld d 1))) = [tw 12 (cN (qint (qfld d 0))) (cN (qint (qfld d 1))), tw 14 (tw 4 (cN (qint (qfld d 0))) (cN (qint (qfld d 1)))) (cN 0), tw 15 (cN (qint (qfld d 0))) (cN (qint (qfld d 1))), tw 8 (tw 14 (cN (qint (qfld d 0))) (cN (qint (qfld d 1)))) (tw 14 (tw 4 (cN (qint (qfld d 0))) (cN (qint (qfld d 1)))) (cN 0))] := by unfold fl; rw [if_neg e6, if_pos e7]
        rw [hfl]
        obtain ⟨g0, g1, g2, g3, g4, g5, g6, g7, g8⟩ := gl (tw 12 (cN (qint (qfld d 0))) (cN (qint (qfld d 1)))) (tw 14 (tw 4 (cN (qint (qfld d 0))) (cN (qint (qfld d 1)))) (cN 0)) (tw 15 (cN (qint (qfld d 0))) (cN (qint (qfld d 1)))) (tw 8 (tw 14 (cN (qint (qfld d 0))) (cN (qint (qfld d 1)))) (tw 14 (tw 4 (cN (qint (qfld d 0))) (cN (qint (qfld d 1)))) (cN 0)))
        have hc : (bif bif !decide (o = 6) then !decide (o = 7) else false then !decide (o = 15) else false) = false := by rcases e7 with rfl | rfl <;> simp
        simp only [g0, g1, g2, g3, g4, g5, g6, g7, g8, hc, ev19 v0 (by omega), ev19 v1 (by omega), ev19 v2 (by omega), ev19 v3 (by omega), decide_eq_false e6, Bool.not_true, Bool.not_false, cond_true, cond_false, qsome_s, qnth_s, List.getD_cons_zero, List.getD_cons_succ, qint_i, decide_true, show ((0 : Int) < 4) by omega, show ((1 : Int) < 4) by omega, show ((2 : Int) < 4) by omega, show ((3 : Int) < 4) by omega]
        simp only [Bool.cond_self]
      · have h7 : ¬ o = 7 := fun h => e7 (.inl h)
        have h15 : ¬ o = 15 := fun h => e7 (.inr h)
        simp only [decide_eq_false e6, decide_eq_false h7, decide_eq_false h15, Bool.not_false, cond_true]

end Go.Proofs.YtgklbalcneepoaaGreatDoor

namespace Go.Proofs.YtgklbalcneepoaaGreatDoor
open Go Go.AM

/-- A value that is known. -/
def isLitV : AV → Bool
  | .ui _ _ => true
  | .ub _ => true
  | _ => false
def litV : AV → Value
  | .ui k n => .int k n
  | .ub b => .bool b
  | _ => .bool false

theorem repL_lits {ρ : Nat → Option Nat} {E : Nat → Prop} {w : World} : ∀ (l : List AV) (cs : List Value), l.all isLitV = true → RepL ρ E w l cs → cs = l.map litV
  | [], cs, _, h => by simpa [RepL] using h
  | c :: l, cs, hl, h => by
    simp only [List.all_cons, Bool.and_eq_true] at hl
    simp only [RepL] at h
    obtain ⟨v, vs, rfl, h1, h2⟩ := h
    rw [repL_lits l vs hl.2 h2]
    cases c <;> simp only [isLitV] at hl <;> first | (cases hl.1; done) | skip
    all_goals (simp only [Rep] at h1; subst h1; rfl)

theorem okT : okTypes PG = true := by kernel_rfl
theorem pg : PG = Tryz.prog := by unfold PG; rfl

theorem arr_len {H : Type} {enc : TypeId × Value → H} {P : Program} {w : World} {base : Nat} {sp : Nat → Bool} {held : Bool} {fuel : Nat} {t e : TypeId} {n : Nat} {cs : List Value} {d : DataW H} {p : List MemPlace}
    (ht : P.underlying t = some (.array n e)) (h : DataW.trod enc P w base sp held fuel t cs = some (d, p)) : cs.length = P.cellsOf t := by
  cases fuel with
  | zero => simp [DataW.trod] at h
  | succ fuel =>
    simp only [DataW.trod, ht] at h
    split at h
    · rename_i hl
      exact hl
    · cases h

/-- The cells of a laid table. -/
theorem cs_of_laid {w : World} {fuel : Nat} {t e : TypeId} {n : Nat} {cs : List Value} {d : DataW Unit} {p : List MemPlace} {enc : TypeId × Value → Unit} {held : Bool}
    (ht : Tryz.prog.underlying t = some (.array n e)) (hs : t < Tryz.prog.types.size) (hl : layOk PG 8 t = true) (hlit : (cellsT 8 t (toD d)).all isLitV = true)
    (h : DataW.trod enc Tryz.prog w 0 (fun _ => true) held fuel t cs = some (d, p)) : cs = (cellsT 8 t (toD d)).map litV := by
  have hlen := arr_len ht h
  have h' : DataW.trod enc PG w 0 (fun _ => true) held fuel t cs = some (d, p) := by rw [pg]; exact h
  obtain ⟨hr, _⟩ := trod_rep (P := PG) okT fuel t cs d p h' (by rw [pg]; exact hlen) (by rw [pg]; exact hs)
  exact repL_lits _ _ hlit (cellsT_rep (ρ := nowhere) 8 t (toD d) cs hl hr)

theorem cells100 (d : D) : cellsT 8 100 d = (List.range 9).map fun i => .ui .i64 (qint (qfld d i)) := by kernel_rfl
theorem cells120 (d : D) : cellsT 8 120 d = (List.range 15).flatMap fun i => [.ui .i64 (qint (qfld (qfld d i) 0)), .ui .i64 (qint (qfld (qfld d i) 1)), .ub (qbool (qfld (qfld d i) 2))] := by kernel_rfl
theorem lit100 (d : D) : (cellsT 8 100 d).all isLitV = true := by rw [cells100]; rfl
theorem lit120 (d : D) : (cellsT 8 120 d).all isLitV = true := by rw [cells120]; rfl

theorem int_un (d : D) : qint d = d.toInt := by rw [qint_eq]
theorem bool_un (d : D) : qbool d = d.toBool := by rw [qbool_eq]

/-- The table's cells. -/
def tabCells (g : Nat) : List Value := ((findG g GLT).getD []).map fun a => match a with | .sc v => v | _ => .bool false

theorem vals100 : (cellsT 8 100 (toD (Rows.laid_decompiler_lift_operators (H := Unit)))).map litV = tabCells 0 := by
  rw [cells100]; simp only [int_un, qfld_eq]; rfl
theorem vals120 : (cellsT 8 120 (toD (Rows.laid_decompiler_lift_conditions (H := Unit)))).map litV = tabCells 1 := by
  rw [cells120]; simp only [int_un, bool_un, qfld_eq]; rfl

theorem glob0 : Tryz.prog.globalNamed "decompiler/lift.operators" = some 0 := by kernel_rfl
theorem glob1 : Tryz.prog.globalNamed "decompiler/lift.conditions" = some 1 := by kernel_rfl
theorem gty0 : (Tryz.prog.globals[0]?).map (·.type) = some 100 := by kernel_rfl
theorem gty1 : (Tryz.prog.globals[1]?).map (·.type) = some 120 := by kernel_rfl

theorem var_of {W : World} {name : String} {d : DataW Unit} {g t e n : Nat} {rest : List (String × DataW Unit)} (hg : Tryz.prog.globalNamed name = some g) (hty : (Tryz.prog.globals[g]?).map (·.type) = some t) (ht : Tryz.prog.underlying t = some (.array n e)) (hs : t < Tryz.prog.types.size)
    (hl : layOk PG 8 t = true) (hlit : (cellsT 8 t (toD d)).all isLitV = true) (h : laidMet Tryz.prog ((name, d) :: rest) W) : ∃ cs : Array Value, W.var? Tryz.prog name = some cs ∧ cs.toList = (cellsT 8 t (toD d)).map litV := by
  obtain ⟨ps, ⟨g', t', cs, fuel, p, q, hg', ht', hvar, hd, _, _⟩, _⟩ := h
  obtain rfl := Option.some.inj (hg.symm.trans hg')
  obtain rfl := Option.some.inj (hty.symm.trans ht')
  exact ⟨cs, hvar, cs_of_laid ht hs hl hlit hd⟩

theorem repAt_of {W : World} {E : Nat → Prop} {g : Nat} {name : String} {cs : Array Value} {vs : List Value} (hg : Tryz.prog.globalNamed name = some g) (hvar : W.var? Tryz.prog name = some cs) (he : cs.toList = vs) (h0 : 0 < vs.length) : g < W.heap.size ∧ RepAt nowhere E W g 0 (vs.map AV.sc) := by
  have hc : ∀ (i : Nat), W.cell? ⟨g, i, none⟩ = vs[i]? := fun i => by rw [World.var?_cell hg hvar i, ← he, Array.getElem?_toList]
  refine ⟨?_, RepAt.ofL (RepL.sc vs) fun j u hu => by rw [Nat.zero_add, hc]; exact hu⟩
  by_cases hlt : g < W.heap.size
  · exact hlt
  · exfalso
    have h1 : W.heap[g]? = none := Array.getElem?_eq_none (by omega)
    have h2 := hc 0
    rw [List.getElem?_eq_getElem h0] at h2
    simp [World.cell?, h1] at h2

/-- The tables lie in the world. -/
theorem tabs {W : World} {E : Nat → Prop} {l : List (String × DataW Unit)} (hl : l = Rows.liftInsRow.laid) (h : laidMetH Tryz.prog l W) {S : FunS} {p s : List D} (g : Nat) (cs : List AV) (hgl : (heapF S p s).glob g = some cs) : g < W.heap.size ∧ RepAt nowhere E W g 0 cs := by
  subst hl
  have hp : ∀ g, (heapF S p s).glob g = findG g GLT := fun _ => rfl
  rw [hp] at hgl
  cases g with
  | zero =>
    have hf := laidMetH.filter (fun x => x.1 == "decompiler/lift.operators") h
    have e : Rows.liftInsRow.laid.filter (fun x => x.1 == "decompiler/lift.operators") = [("decompiler/lift.operators", Rows.laid_decompiler_lift_operators)] := by rfl
    rw [e, MakeChecks.laidMetH_plain _ _ _ (by kernel_rfl)] at hf
    obtain ⟨a, h1, h2⟩ := var_of glob0 gty0 Tryz.underlying100 (of_decide_eq_true (by kernel_rfl)) (by kernel_rfl) (lit100 _) hf
    rw [vals100] at h2
    have := repAt_of (E := E) glob0 h1 h2 (of_decide_eq_true (by kernel_rfl))
    have e2 : findG 0 GLT = some ((tabCells 0).map AV.sc) := by rfl
    rw [e2] at hgl
    cases hgl
    exact this
  | succ g =>
    cases g with
    | zero =>
      have hf := laidMetH.filter (fun x => x.1 == "decompiler/lift.conditions") h
      have e : Rows.liftInsRow.laid.filter (fun x => x.1 == "decompiler/lift.conditions") = [("decompiler/lift.conditions", Rows.laid_decompiler_lift_conditions)] := by rfl
      rw [e, MakeChecks.laidMetH_plain _ _ _ (by kernel_rfl)] at hf
      obtain ⟨a, h1, h2⟩ := var_of glob1 gty1 Tryz.underlying120 (of_decide_eq_true (by kernel_rfl)) (by kernel_rfl) (lit120 _) hf
      rw [vals120] at h2
      have := repAt_of (E := E) glob1 h1 h2 (of_decide_eq_true (by kernel_rfl))
      have e2 : findG (0 + 1) GLT = some ((tabCells 1).map AV.sc) := by rfl
      rw [e2] at hgl
      cases hgl
      exact this
    | succ g =>
      have e2 : findG (g + 1 + 1) GLT = none := rfl
      rw [e2] at hgl; cases hgl

end Go.Proofs.YtgklbalcneepoaaGreatDoor
