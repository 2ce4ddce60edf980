/-
  Made by gen3.py: what functions of the seat compute, as partial functions on data, and that they do.
-/
import Derived.Test.YtiojjmlccehpoaaGreatCn
import Derived.KernelRfl
open Go Go.AM
namespace Go.Proofs.YtiojjmlccehpoaaGreat
set_option maxRecDepth 100000
set_option linter.unusedSimpArgs false
set_option linter.unusedVariables false
/- function 139  -/

def S139_2 : LoopS := ⟨0, [⟨false, .str⟩, ⟨false, .any⟩, ⟨false, (.lit (.bool false))⟩, ⟨false, .any⟩, ⟨false, .any⟩, ⟨false, .any⟩, ⟨false, .any⟩, ⟨false, (.ptr 0 0)⟩, ⟨false, .any⟩, ⟨false, .any⟩, ⟨false, .any⟩, ⟨false, .any⟩, ⟨false, .any⟩, ⟨false, .any⟩, ⟨false, .any⟩, ⟨false, .any⟩, ⟨false, .any⟩, ⟨false, .any⟩, ⟨false, .any⟩, ⟨false, .any⟩, ⟨false, .any⟩, ⟨false, .any⟩, ⟨false, .any⟩, ⟨false, .any⟩, ⟨false, .any⟩, ⟨false, .any⟩, ⟨false, .any⟩, ⟨false, .any⟩, ⟨false, .any⟩, ⟨false, .any⟩, ⟨false, .any⟩, ⟨false, .any⟩, ⟨false, .any⟩, ⟨false, .any⟩, ⟨false, .any⟩, ⟨false, .any⟩, ⟨false, .any⟩, ⟨false, .any⟩, ⟨false, .any⟩, ⟨false, .any⟩, ⟨false, .any⟩, ⟨false, .any⟩, ⟨false, .any⟩, ⟨false, .any⟩, ⟨false, .any⟩, ⟨false, .any⟩, ⟨false, .any⟩, ⟨false, .any⟩, ⟨false, .any⟩, ⟨false, .any⟩, ⟨false, .any⟩, ⟨false, .any⟩, ⟨false, .any⟩, ⟨false, .any⟩, ⟨false, .any⟩, ⟨false, .any⟩, ⟨false, .any⟩, ⟨false, .any⟩, ⟨false, .any⟩, ⟨false, .any⟩, ⟨false, .any⟩, ⟨false, .any⟩], [.sit], [⟨0, 0, [⟨false, .str⟩, ⟨true, .any⟩, ⟨true, (.lit (.bool false))⟩, ⟨true, .any⟩, ⟨true, .any⟩, ⟨true, .any⟩, ⟨true, .any⟩, ⟨true, .any⟩, ⟨true, .any⟩, ⟨true, .any⟩, ⟨true, .any⟩, ⟨true, .any⟩, ⟨true, .any⟩, ⟨true, .any⟩, ⟨true, .any⟩, ⟨true, .any⟩, ⟨true, .any⟩, ⟨true, .any⟩, ⟨true, .any⟩, ⟨true, .any⟩, ⟨true, .any⟩, ⟨true, .any⟩, ⟨true, .any⟩, ⟨true, .any⟩, ⟨true, .any⟩, ⟨true, .any⟩, ⟨true, .any⟩, ⟨true, .any⟩, ⟨true, .any⟩, ⟨true, .any⟩, ⟨true, .any⟩, ⟨true, .any⟩, ⟨true, .any⟩, ⟨true, .any⟩, ⟨true, .any⟩, ⟨true, .any⟩, ⟨true, .any⟩, ⟨true, .any⟩, ⟨true, .any⟩, ⟨true, .any⟩, ⟨true, .any⟩, ⟨true, .any⟩, ⟨true, .any⟩, ⟨true, .any⟩, ⟨true, .any⟩, ⟨true, .any⟩, ⟨true, .any⟩, ⟨true, .any⟩, ⟨true, .any⟩, ⟨true, .any⟩, ⟨true, .any⟩, ⟨true, .any⟩, ⟨true, .any⟩, ⟨true, .any⟩, ⟨true, .any⟩, ⟨true, .any⟩, ⟨true, .any⟩, ⟨true, .any⟩, ⟨true, .any⟩, ⟨true, .any⟩, ⟨true, .any⟩, ⟨true, .any⟩], [.sit]⟩, ⟨1, 0, [⟨false, .str⟩, ⟨true, .any⟩, ⟨true, (.lit (.bool false))⟩, ⟨true, .any⟩, ⟨true, .any⟩, ⟨true, .any⟩, ⟨true, .any⟩, ⟨true, .any⟩, ⟨true, .any⟩, ⟨true, .any⟩, ⟨true, .any⟩, ⟨true, .any⟩, ⟨true, .any⟩, ⟨true, .any⟩, ⟨true, .any⟩, ⟨true, .any⟩, ⟨true, .any⟩, ⟨true, .any⟩, ⟨true, .any⟩, ⟨true, .any⟩, ⟨true, .any⟩, ⟨true, .any⟩, ⟨true, .any⟩, ⟨true, .any⟩, ⟨true, .any⟩, ⟨true, .any⟩, ⟨true, .any⟩, ⟨true, .any⟩, ⟨true, .any⟩, ⟨true, .any⟩, ⟨true, .any⟩, ⟨true, .any⟩, ⟨true, .any⟩, ⟨true, .any⟩, ⟨true, .any⟩, ⟨true, .any⟩, ⟨true, .any⟩, ⟨true, .any⟩, ⟨true, .any⟩, ⟨true, .any⟩, ⟨true, .any⟩, ⟨true, .any⟩, ⟨true, .any⟩, ⟨true, .any⟩, ⟨true, .any⟩, ⟨true, .any⟩, ⟨true, .any⟩, ⟨true, .any⟩, ⟨true, .any⟩, ⟨true, .any⟩, ⟨true, .any⟩, ⟨true, .any⟩, ⟨true, .any⟩, ⟨true, .any⟩, ⟨true, .any⟩, ⟨true, .any⟩, ⟨true, .any⟩, ⟨true, .any⟩, ⟨true, .any⟩, ⟨true, .any⟩, ⟨true, .any⟩, ⟨true, .any⟩], [.sit]⟩]⟩

noncomputable def st139_2 (p s : List D) : Option (Sum (List D) (List D)) := stepQX env tb202 60 6 139 (loopC 139 2) S139_2 p s

theorem st139_2_eq (ps0 : ByteArray) (ps1 : ByteArray) (sn0 : Int) : st139_2  [(D.str ps0), (D.str ps1)] [(D.int sn0)] =
    bif (qcmp BinOp.lss sn0 (qlenS ps1)) then
      bif (qcmp BinOp.lss sn0 (qlenS ps1)) then
        bif (qcmp BinOp.lss sn0 (qlenS ps1)) then
          bif (qiteB (qnot (qiteB (qiteB (qiteB (qiteB (qcmp BinOp.geq (qrune ps1 sn0) 97) (qcmp BinOp.leq (qrune ps1 sn0) 122) Bool.false) Bool.true (qiteB (qcmp BinOp.geq (qrune ps1 sn0) 65) (qcmp BinOp.leq (qrune ps1 sn0) 90) Bool.false)) Bool.true (qcmp BinOp.eql (qrune ps1 sn0) 95)) Bool.true (qcmp BinOp.eql (qrune ps1 sn0) 46))) (qiteB (qiteB (qcmp BinOp.eql sn0 0) Bool.true (qcmp BinOp.lss (qrune ps1 sn0) 48)) Bool.true (qcmp BinOp.gtr (qrune ps1 sn0) 57)) Bool.false) then
            some (Sum.inr [(D.int 1), (D.int (qiteI (qcmp BinOp.lss sn0 (qlenS ps1)) (qrw ps1 sn0) sn0))])
          else
            some (Sum.inl [(D.int (qiteI (qcmp BinOp.lss sn0 (qlenS ps1)) (qrw ps1 sn0) sn0))])
        else
          none
      else
        none
    else
      some (Sum.inr [(D.int 0), (D.int (qiteI (qcmp BinOp.lss sn0 (qlenS ps1)) (qrw ps1 sn0) sn0))]) := by
  have h : st139_2  [(D.str ps0), (D.str ps1)] [(D.int sn0)] =
    bif (qcmp BinOp.lss sn0 (qlenS ps1)) then
      bif (qcmp BinOp.lss sn0 (qlenS ps1)) then
        bif (qcmp BinOp.lss sn0 (qlenS ps1)) then
          bif (qiteB (qnot (qiteB (qiteB (qiteB (qiteB (qcmp BinOp.geq (qrune ps1 sn0) 97) (qcmp BinOp.leq (qrune ps1 sn0) 122) Bool.false) Bool.true (qiteB (qcmp BinOp.geq (qrune ps1 sn0) 65) (qcmp BinOp.leq (qrune ps1 sn0) 90) Bool.false)) Bool.true (qcmp BinOp.eql (qrune ps1 sn0) 95)) Bool.true (qcmp BinOp.eql (qrune ps1 sn0) 46))) (qiteB (qiteB (qcmp BinOp.eql sn0 0) Bool.true (qcmp BinOp.lss (qrune ps1 sn0) 48)) Bool.true (qcmp BinOp.gtr (qrune ps1 sn0) 57)) Bool.false) then
            bif (qeqD (D.str ps0) (D.str ps0)) then
              bif (qeqD (D.str ps1) (D.str ps1)) then
                some (Sum.inr [(D.int 1), (D.int (qiteI (qcmp BinOp.lss sn0 (qlenS ps1)) (qrw ps1 sn0) sn0))])
              else
                none
            else
              none
          else
            bif (qeqD (D.str ps0) (D.str ps0)) then
              bif (qeqD (D.str ps1) (D.str ps1)) then
                some (Sum.inl [(D.int (qiteI (qcmp BinOp.lss sn0 (qlenS ps1)) (qrw ps1 sn0) sn0))])
              else
                none
            else
              none
        else
          none
      else
        none
    else
      bif (qeqD (D.str ps0) (D.str ps0)) then
        bif (qeqD (D.str ps1) (D.str ps1)) then
          some (Sum.inr [(D.int 0), (D.int (qiteI (qcmp BinOp.lss sn0 (qlenS ps1)) (qrw ps1 sn0) sn0))])
        else
          none
      else
        none := by kernel_rfl
  rw [h]; simp only [qeqD_self, qeqI_self, qeq_len, show qcmp BinOp.eql 0 (qlen (D.list [])) = true from qeq_len [], show ∀ a, qcmp BinOp.eql 1 (qlen (D.list [a])) = true from fun a => qeq_len [a], show ∀ a b, qcmp BinOp.eql 2 (qlen (D.list [a, b])) = true from fun a b => qeq_len [a, b], cond_true]

noncomputable def l139_2 : List D → List D → Option (List D) := veil fun p s => loW (st139_2  p) s

theorem l139_2_eq : l139_2  = fun p s => loW (st139_2  p) s := veil_eq _

noncomputable def tbl139_2 : Tb := Tb.addL tb202 139 2 S139_2.n0 (mkLp S139_2 (l139_2 ))

theorem ok_tbl139_2 : TbOk env (tbl139_2 ) := addLoopQ ok_tb202 139 2 (by kernel_rfl) _ (l139_2_eq )

def S139 : FunS := ⟨[⟨true, .str⟩], [], [⟨true, .bool⟩], []⟩

noncomputable def F139 : List D → Option (List D) := liftX env tbl139_2 60 6 139 S139

theorem F139_eq  (ss0 : ByteArray) : F139  [(D.str ss0)] =
    bif (qsome (Proofs.YtiojjmlccehpoaaGreat.l139_2 [(D.str ss0), (D.str ss0)] [(D.int 0)])) then
      bif (qcmp BinOp.eql (qint (qnth (Proofs.YtiojjmlccehpoaaGreat.l139_2 [(D.str ss0), (D.str ss0)] [(D.int 0)]) 0)) 0) then
        bif (qiteB (qiteB (qcmpS BinOp.neq ss0 (ByteArray.mk #[])) (qcmp BinOp.leq (qlenS ss0) 32) Bool.false) (qand (qcatOk (ByteArray.mk #[32]) ss0) (qcatOk (qcat (ByteArray.mk #[32]) ss0) (ByteArray.mk #[32]))) Bool.true) then
          some [(D.bool (qiteB (qiteB (qcmpS BinOp.neq ss0 (ByteArray.mk #[])) (qcmp BinOp.leq (qlenS ss0) 32) Bool.false) (qnot (qhas (ByteArray.mk #[32, 98, 114, 101, 97, 107, 32, 99, 97, 108, 108, 32, 99, 97, 115, 101, 32, 99, 111, 110, 116, 105, 110, 117, 101, 32, 100, 97, 116, 97, 32, 101, 108, 115, 101, 32, 101, 120, 101, 99, 32, 102, 117, 110, 99, 32, 103, 111, 116, 111, 32, 104, 97, 108, 116, 32, 105, 102, 32, 105, 110, 32, 108, 111, 111, 112, 32, 111, 117, 116, 32, 114, 101, 116, 117, 114, 110, 32, 115, 119, 105, 116, 99, 104, 32, 118, 97, 114, 32, 119, 104, 105, 108, 101, 32, 119, 114, 105, 116, 101, 32, 108, 111, 97, 100, 49, 32, 108, 111, 97, 100, 50, 32, 108, 111, 97, 100, 52, 32, 115, 101, 120, 116, 49, 32, 115, 101, 120, 116, 50, 32, 115, 116, 111, 114, 101, 49, 32, 115, 116, 111, 114, 101, 50, 32, 115, 116, 111, 114, 101, 52, 32]) (qcat (qcat (ByteArray.mk #[32]) ss0) (ByteArray.mk #[32])))) Bool.false))]
        else
          none
      else
        some [(D.bool Bool.false)]
    else
      none := by kernel_rfl

noncomputable def q139 : List D → Option (List D) := veil (F139 )

theorem q139_eq : q139  = F139  := veil_eq _

noncomputable def tb139 : Tb := Tb.addF tbl139_2 139 S139 (q139 )

theorem ok_tb139 : TbOk env (tb139 ) := addFunF ok_tbl139_2 139 (by kernel_rfl) _ (q139_eq )

/- function 217  -/

def S217 : FunS := ⟨[], [], [⟨true, (.rows 9)⟩], []⟩

noncomputable def F217 : List D → Option (List D) := liftX env tb139 60 6 217 S217

theorem F217_eq   : F217  [] =
    some [(D.list [(D.str (ByteArray.mk #[98, 114, 101, 97, 107])), (D.str (ByteArray.mk #[99, 97, 108, 108])), (D.str (ByteArray.mk #[99, 97, 115, 101])), (D.str (ByteArray.mk #[99, 111, 110, 116, 105, 110, 117, 101])), (D.str (ByteArray.mk #[100, 97, 116, 97])), (D.str (ByteArray.mk #[101, 108, 115, 101])), (D.str (ByteArray.mk #[101, 120, 101, 99])), (D.str (ByteArray.mk #[102, 117, 110, 99])), (D.str (ByteArray.mk #[103, 111, 116, 111])), (D.str (ByteArray.mk #[104, 97, 108, 116])), (D.str (ByteArray.mk #[105, 102])), (D.str (ByteArray.mk #[105, 110])), (D.str (ByteArray.mk #[108, 111, 111, 112])), (D.str (ByteArray.mk #[111, 117, 116])), (D.str (ByteArray.mk #[114, 101, 116, 117, 114, 110])), (D.str (ByteArray.mk #[115, 119, 105, 116, 99, 104])), (D.str (ByteArray.mk #[118, 97, 114])), (D.str (ByteArray.mk #[119, 104, 105, 108, 101])), (D.str (ByteArray.mk #[119, 114, 105, 116, 101])), (D.str (ByteArray.mk #[108, 111, 97, 100, 49])), (D.str (ByteArray.mk #[108, 111, 97, 100, 50])), (D.str (ByteArray.mk #[108, 111, 97, 100, 52])), (D.str (ByteArray.mk #[115, 101, 120, 116, 49])), (D.str (ByteArray.mk #[115, 101, 120, 116, 50])), (D.str (ByteArray.mk #[115, 116, 111, 114, 101, 49])), (D.str (ByteArray.mk #[115, 116, 111, 114, 101, 50])), (D.str (ByteArray.mk #[115, 116, 111, 114, 101, 52]))])] := by kernel_rfl

noncomputable def q217 : List D → Option (List D) := veil (F217 )

theorem q217_eq : q217  = F217  := veil_eq _

noncomputable def tb217 : Tb := Tb.addF tb139 217 S217 (q217 )

theorem ok_tb217 : TbOk env (tb217 ) := addFunF ok_tb139 217 (by kernel_rfl) _ (q217_eq )

/- function 164  -/

def S164_2 : LoopS := ⟨0, [⟨false, .str⟩, ⟨false, .any⟩, ⟨false, (.lit (.bool false))⟩, ⟨true, (.int .i64)⟩, ⟨false, .any⟩, ⟨false, .any⟩, ⟨false, .any⟩, ⟨false, .any⟩, ⟨false, .any⟩, ⟨false, .any⟩, ⟨false, .any⟩, ⟨false, .any⟩, ⟨false, .any⟩, ⟨false, .any⟩, ⟨false, .any⟩, ⟨false, .any⟩, ⟨false, .any⟩, ⟨false, .any⟩, ⟨false, .any⟩, ⟨false, .any⟩, ⟨false, .any⟩, ⟨false, .any⟩, ⟨false, .any⟩, ⟨false, .any⟩, ⟨false, .any⟩, ⟨false, .any⟩, ⟨false, .any⟩, ⟨false, .any⟩, ⟨false, .any⟩, ⟨false, .any⟩, ⟨false, .any⟩, ⟨false, .any⟩, ⟨false, .any⟩, ⟨false, .any⟩, ⟨false, .any⟩, ⟨false, .any⟩, ⟨false, .any⟩, ⟨false, .any⟩, ⟨false, .any⟩, ⟨false, .any⟩, ⟨false, .any⟩, ⟨false, .any⟩, ⟨false, .any⟩, ⟨false, .any⟩, ⟨false, .any⟩, ⟨false, .any⟩, ⟨false, .any⟩, ⟨false, .any⟩, ⟨false, .any⟩, ⟨false, .any⟩, ⟨false, .any⟩, ⟨false, .any⟩, ⟨false, .any⟩, ⟨false, .any⟩, ⟨false, .any⟩, ⟨false, .any⟩, ⟨false, .any⟩, ⟨false, .any⟩, ⟨false, .any⟩, ⟨false, .any⟩, ⟨false, .any⟩, ⟨false, .any⟩, ⟨false, .any⟩, ⟨false, .any⟩, ⟨false, .any⟩, ⟨false, .any⟩, ⟨false, .any⟩, ⟨false, .any⟩, ⟨false, .any⟩, ⟨false, .any⟩, ⟨false, .any⟩, ⟨false, .any⟩, ⟨false, .any⟩, ⟨false, .any⟩], [], [⟨0, 0, [⟨false, .str⟩, ⟨true, .any⟩, ⟨true, (.lit (.bool false))⟩, ⟨true, .any⟩, ⟨true, .any⟩, ⟨true, .any⟩, ⟨true, .any⟩, ⟨true, .any⟩, ⟨true, .any⟩, ⟨true, .any⟩, ⟨true, .any⟩, ⟨true, .any⟩, ⟨true, .any⟩, ⟨true, .any⟩, ⟨true, .any⟩, ⟨true, .any⟩, ⟨true, .any⟩, ⟨true, .any⟩, ⟨true, .any⟩, ⟨true, .any⟩, ⟨true, .any⟩, ⟨true, .any⟩, ⟨true, .any⟩, ⟨true, .any⟩, ⟨true, .any⟩, ⟨true, .any⟩, ⟨true, .any⟩, ⟨true, .any⟩, ⟨true, .any⟩, ⟨true, .any⟩, ⟨true, .any⟩, ⟨true, .any⟩, ⟨true, .any⟩, ⟨true, .any⟩, ⟨true, .any⟩, ⟨true, .any⟩, ⟨true, .any⟩, ⟨true, .any⟩, ⟨true, .any⟩, ⟨true, .any⟩, ⟨true, .any⟩, ⟨true, .any⟩, ⟨true, .any⟩, ⟨true, .any⟩, ⟨true, .any⟩, ⟨true, .any⟩, ⟨true, .any⟩, ⟨true, .any⟩, ⟨true, .any⟩, ⟨true, .any⟩, ⟨true, .any⟩, ⟨true, .any⟩, ⟨true, .any⟩, ⟨true, .any⟩, ⟨true, .any⟩, ⟨true, .any⟩, ⟨true, .any⟩, ⟨true, .any⟩, ⟨true, .any⟩, ⟨true, .any⟩, ⟨true, .any⟩, ⟨true, .any⟩, ⟨true, .any⟩, ⟨true, .any⟩, ⟨true, .any⟩, ⟨true, .any⟩, ⟨true, .any⟩, ⟨true, .any⟩, ⟨true, .any⟩, ⟨true, .any⟩, ⟨true, .any⟩, ⟨true, .any⟩, ⟨true, .any⟩, ⟨true, .any⟩], []⟩, ⟨1, 0, [⟨false, .str⟩, ⟨true, .any⟩, ⟨true, (.lit (.bool false))⟩, ⟨true, .any⟩, ⟨true, .any⟩, ⟨true, .any⟩, ⟨true, .any⟩, ⟨true, .any⟩, ⟨true, .any⟩, ⟨true, .any⟩, ⟨true, .any⟩, ⟨true, .any⟩, ⟨true, .any⟩, ⟨true, .any⟩, ⟨true, .any⟩, ⟨true, .any⟩, ⟨true, .any⟩, ⟨true, .any⟩, ⟨true, .any⟩, ⟨true, .any⟩, ⟨true, .any⟩, ⟨true, .any⟩, ⟨true, .any⟩, ⟨true, .any⟩, ⟨true, .any⟩, ⟨true, .any⟩, ⟨true, .any⟩, ⟨true, .any⟩, ⟨true, .any⟩, ⟨true, .any⟩, ⟨true, .any⟩, ⟨true, .any⟩, ⟨true, .any⟩, ⟨true, .any⟩, ⟨true, .any⟩, ⟨true, .any⟩, ⟨true, .any⟩, ⟨true, .any⟩, ⟨true, .any⟩, ⟨true, .any⟩, ⟨true, .any⟩, ⟨true, .any⟩, ⟨true, .any⟩, ⟨true, .any⟩, ⟨true, .any⟩, ⟨true, .any⟩, ⟨true, .any⟩, ⟨true, .any⟩, ⟨true, .any⟩, ⟨true, .any⟩, ⟨true, .any⟩, ⟨true, .any⟩, ⟨true, .any⟩, ⟨true, .any⟩, ⟨true, .any⟩, ⟨true, .any⟩, ⟨true, .any⟩, ⟨true, .any⟩, ⟨true, .any⟩, ⟨true, .any⟩, ⟨true, .any⟩, ⟨true, .any⟩, ⟨true, .any⟩, ⟨true, .any⟩, ⟨true, .any⟩, ⟨true, .any⟩, ⟨true, .any⟩, ⟨true, .any⟩, ⟨true, .any⟩, ⟨true, .any⟩, ⟨true, .any⟩, ⟨true, .any⟩, ⟨true, .any⟩, ⟨true, .any⟩], []⟩]⟩

noncomputable def st164_2 (p s : List D) : Option (Sum (List D) (List D)) := stepQX env tb217 60 6 164 (loopC 164 2) S164_2 p s

theorem st164_2_eq (ps0 : ByteArray) (sn0 : Int) : st164_2  [(D.str ps0)] [(D.int sn0)] =
    bif (qcmp BinOp.lss sn0 (qlenS ps0)) then
      bif (qinbS ps0 sn0) then
        bif (qiteB (qnot (qiteB (qiteB (qiteB (qiteB (qcmp BinOp.geq (qidxS ps0 sn0) 97) (qcmp BinOp.leq (qidxS ps0 sn0) 122) Bool.false) Bool.true (qiteB (qcmp BinOp.geq (qidxS ps0 sn0) 65) (qcmp BinOp.leq (qidxS ps0 sn0) 90) Bool.false)) Bool.true (qcmp BinOp.eql (qidxS ps0 sn0) 95)) Bool.true (qcmp BinOp.eql (qidxS ps0 sn0) 46))) (qiteB (qiteB (qcmp BinOp.eql sn0 0) Bool.true (qcmp BinOp.lss (qidxS ps0 sn0) 48)) Bool.true (qcmp BinOp.gtr (qidxS ps0 sn0) 57)) Bool.false) then
          some (Sum.inr [(D.int 1)])
        else
          some (Sum.inl [(D.int (qbin BinOp.add IntKind.i64 sn0 1))])
      else
        none
    else
      some (Sum.inr [(D.int 0)]) := by
  have h : st164_2  [(D.str ps0)] [(D.int sn0)] =
    bif (qcmp BinOp.lss sn0 (qlenS ps0)) then
      bif (qinbS ps0 sn0) then
        bif (qiteB (qnot (qiteB (qiteB (qiteB (qiteB (qcmp BinOp.geq (qidxS ps0 sn0) 97) (qcmp BinOp.leq (qidxS ps0 sn0) 122) Bool.false) Bool.true (qiteB (qcmp BinOp.geq (qidxS ps0 sn0) 65) (qcmp BinOp.leq (qidxS ps0 sn0) 90) Bool.false)) Bool.true (qcmp BinOp.eql (qidxS ps0 sn0) 95)) Bool.true (qcmp BinOp.eql (qidxS ps0 sn0) 46))) (qiteB (qiteB (qcmp BinOp.eql sn0 0) Bool.true (qcmp BinOp.lss (qidxS ps0 sn0) 48)) Bool.true (qcmp BinOp.gtr (qidxS ps0 sn0) 57)) Bool.false) then
          bif (qeqD (D.str ps0) (D.str ps0)) then
            some (Sum.inr [(D.int 1)])
          else
            none
        else
          bif (qeqD (D.str ps0) (D.str ps0)) then
            some (Sum.inl [(D.int (qbin BinOp.add IntKind.i64 sn0 1))])
          else
            none
      else
        none
    else
      bif (qeqD (D.str ps0) (D.str ps0)) then
        some (Sum.inr [(D.int 0)])
      else
        none := by kernel_rfl
  rw [h]; simp only [qeqD_self, qeqI_self, qeq_len, show qcmp BinOp.eql 0 (qlen (D.list [])) = true from qeq_len [], show ∀ a, qcmp BinOp.eql 1 (qlen (D.list [a])) = true from fun a => qeq_len [a], show ∀ a b, qcmp BinOp.eql 2 (qlen (D.list [a, b])) = true from fun a b => qeq_len [a, b], cond_true]

noncomputable def l164_2 : List D → List D → Option (List D) := veil fun p s => loW (st164_2  p) s

theorem l164_2_eq : l164_2  = fun p s => loW (st164_2  p) s := veil_eq _

noncomputable def tbl164_2 : Tb := Tb.addL tb217 164 2 S164_2.n0 (mkLp S164_2 (l164_2 ))

theorem ok_tbl164_2 : TbOk env (tbl164_2 ) := addLoopQ ok_tb217 164 2 (by kernel_rfl) _ (l164_2_eq )

def S164_10 : LoopS := ⟨0, [⟨false, .str⟩, ⟨false, .any⟩, ⟨false, (.lit (.bool false))⟩, ⟨false, .any⟩, ⟨false, .any⟩, ⟨false, .any⟩, ⟨false, (.rows 9)⟩, ⟨true, (.int .i64)⟩, ⟨false, .any⟩, ⟨false, .any⟩, ⟨false, .any⟩, ⟨false, .any⟩, ⟨false, .any⟩, ⟨false, .any⟩, ⟨false, .any⟩, ⟨false, .any⟩, ⟨false, .any⟩, ⟨false, .any⟩, ⟨false, .any⟩, ⟨false, .any⟩, ⟨false, .any⟩, ⟨false, .any⟩, ⟨false, .any⟩, ⟨false, .any⟩, ⟨false, .any⟩, ⟨false, .any⟩, ⟨false, .any⟩, ⟨false, .any⟩, ⟨false, .any⟩, ⟨false, .any⟩, ⟨false, .any⟩, ⟨false, .any⟩, ⟨false, .any⟩, ⟨false, .any⟩, ⟨false, .any⟩, ⟨false, .any⟩, ⟨false, .any⟩, ⟨false, .any⟩, ⟨false, .any⟩, ⟨false, .any⟩, ⟨false, .any⟩, ⟨false, .any⟩, ⟨false, .any⟩, ⟨false, .any⟩, ⟨false, .any⟩, ⟨false, .any⟩, ⟨false, .any⟩, ⟨false, .any⟩, ⟨false, .any⟩, ⟨false, .any⟩, ⟨false, .any⟩, ⟨false, .any⟩, ⟨false, .any⟩, ⟨false, .any⟩, ⟨false, .any⟩, ⟨false, .any⟩, ⟨false, .any⟩, ⟨false, .any⟩, ⟨false, .any⟩, ⟨false, .any⟩, ⟨false, .any⟩, ⟨false, .any⟩, ⟨false, .any⟩, ⟨false, .any⟩, ⟨false, .any⟩, ⟨false, .any⟩, ⟨false, .any⟩, ⟨false, .any⟩, ⟨false, .any⟩, ⟨false, .any⟩, ⟨false, .any⟩, ⟨false, .any⟩, ⟨false, .any⟩, ⟨false, .any⟩], [], [⟨0, 2, [⟨false, .str⟩, ⟨true, .any⟩, ⟨true, (.lit (.bool false))⟩, ⟨true, .any⟩, ⟨true, .any⟩, ⟨true, .any⟩, ⟨false, (.rows 9)⟩, ⟨true, .any⟩, ⟨true, .any⟩, ⟨true, .any⟩, ⟨true, .any⟩, ⟨true, .any⟩, ⟨true, .any⟩, ⟨true, .any⟩, ⟨true, .any⟩, ⟨true, .any⟩, ⟨true, .any⟩, ⟨true, .any⟩, ⟨true, .any⟩, ⟨true, .any⟩, ⟨true, .any⟩, ⟨true, .any⟩, ⟨true, .any⟩, ⟨true, .any⟩, ⟨true, .any⟩, ⟨true, .any⟩, ⟨true, .any⟩, ⟨true, .any⟩, ⟨true, .any⟩, ⟨true, .any⟩, ⟨true, .any⟩, ⟨true, .any⟩, ⟨true, .any⟩, ⟨true, .any⟩, ⟨true, .any⟩, ⟨true, .any⟩, ⟨true, .any⟩, ⟨true, .any⟩, ⟨true, .any⟩, ⟨true, .any⟩, ⟨true, .any⟩, ⟨true, .any⟩, ⟨true, .any⟩, ⟨true, .any⟩, ⟨true, .any⟩, ⟨true, .any⟩, ⟨true, .any⟩, ⟨true, .any⟩, ⟨true, .any⟩, ⟨true, .any⟩, ⟨true, .any⟩, ⟨true, .any⟩, ⟨true, .any⟩, ⟨true, .any⟩, ⟨true, .any⟩, ⟨true, .any⟩, ⟨true, .any⟩, ⟨true, .any⟩, ⟨true, .any⟩, ⟨true, .any⟩, ⟨true, .any⟩, ⟨true, .any⟩, ⟨true, .any⟩, ⟨true, .any⟩, ⟨true, .any⟩, ⟨true, .any⟩, ⟨true, .any⟩, ⟨true, .any⟩, ⟨true, .any⟩, ⟨true, .any⟩, ⟨true, .any⟩, ⟨true, .any⟩, ⟨true, .any⟩, ⟨true, .any⟩], []⟩, ⟨1, 0, [⟨false, .str⟩, ⟨true, .any⟩, ⟨true, (.lit (.bool false))⟩, ⟨true, .any⟩, ⟨true, .any⟩, ⟨true, .any⟩, ⟨false, (.rows 9)⟩, ⟨true, .any⟩, ⟨true, .any⟩, ⟨true, .any⟩, ⟨true, .any⟩, ⟨true, .any⟩, ⟨true, .any⟩, ⟨true, .any⟩, ⟨true, .any⟩, ⟨true, .any⟩, ⟨true, .any⟩, ⟨true, .any⟩, ⟨true, .any⟩, ⟨true, .any⟩, ⟨true, .any⟩, ⟨true, .any⟩, ⟨true, .any⟩, ⟨true, .any⟩, ⟨true, .any⟩, ⟨true, .any⟩, ⟨true, .any⟩, ⟨true, .any⟩, ⟨true, .any⟩, ⟨true, .any⟩, ⟨true, .any⟩, ⟨true, .any⟩, ⟨true, .any⟩, ⟨true, .any⟩, ⟨true, .any⟩, ⟨true, .any⟩, ⟨true, .any⟩, ⟨true, .any⟩, ⟨true, .any⟩, ⟨true, .any⟩, ⟨true, .any⟩, ⟨true, .any⟩, ⟨true, .any⟩, ⟨true, .any⟩, ⟨true, .any⟩, ⟨true, .any⟩, ⟨true, .any⟩, ⟨true, .any⟩, ⟨true, .any⟩, ⟨true, .any⟩, ⟨true, .any⟩, ⟨true, .any⟩, ⟨true, .any⟩, ⟨true, .any⟩, ⟨true, .any⟩, ⟨true, .any⟩, ⟨true, .any⟩, ⟨true, .any⟩, ⟨true, .any⟩, ⟨true, .any⟩, ⟨true, .any⟩, ⟨true, .any⟩, ⟨true, .any⟩, ⟨true, .any⟩, ⟨true, .any⟩, ⟨true, .any⟩, ⟨true, .any⟩, ⟨true, .any⟩, ⟨true, .any⟩, ⟨true, .any⟩, ⟨true, .any⟩, ⟨true, .any⟩, ⟨true, .any⟩, ⟨true, .any⟩], []⟩]⟩

noncomputable def st164_10 (p s : List D) : Option (Sum (List D) (List D)) := stepQX env tbl164_2 60 6 164 (loopC 164 10) S164_10 p s

theorem st164_10_eq (ps0 : ByteArray) (pd1 : D) (sn0 : Int) : st164_10  [(D.str ps0), pd1] [(D.int sn0)] =
    bif (qcmp BinOp.lss sn0 (qlen pd1)) then
      bif (qinb pd1 sn0) then
        bif (qcmpS BinOp.eql (qstr (qget pd1 sn0)) ps0) then
          some (Sum.inr [(D.int 1)])
        else
          some (Sum.inl [(D.int (qbin BinOp.add IntKind.i64 sn0 1))])
      else
        none
    else
      some (Sum.inr [(D.int 0)]) := by
  have h : st164_10  [(D.str ps0), pd1] [(D.int sn0)] =
    bif (qcmp BinOp.lss sn0 (qlen pd1)) then
      bif (qinb pd1 sn0) then
        bif (qcmpS BinOp.eql (qstr (qget pd1 sn0)) ps0) then
          bif (qeqD (D.str ps0) (D.str ps0)) then
            bif (qeqD pd1 pd1) then
              some (Sum.inr [(D.int 1)])
            else
              none
          else
            none
        else
          bif (qeqD (D.str ps0) (D.str ps0)) then
            bif (qeqD pd1 pd1) then
              some (Sum.inl [(D.int (qbin BinOp.add IntKind.i64 sn0 1))])
            else
              none
          else
            none
      else
        none
    else
      bif (qeqD (D.str ps0) (D.str ps0)) then
        bif (qeqD pd1 pd1) then
          some (Sum.inr [(D.int 0)])
        else
          none
      else
        none := by kernel_rfl
  rw [h]; simp only [qeqD_self, qeqI_self, qeq_len, show qcmp BinOp.eql 0 (qlen (D.list [])) = true from qeq_len [], show ∀ a, qcmp BinOp.eql 1 (qlen (D.list [a])) = true from fun a => qeq_len [a], show ∀ a b, qcmp BinOp.eql 2 (qlen (D.list [a, b])) = true from fun a b => qeq_len [a, b], cond_true]

noncomputable def l164_10 : List D → List D → Option (List D) := veil fun p s => loW (st164_10  p) s

theorem l164_10_eq : l164_10  = fun p s => loW (st164_10  p) s := veil_eq _

noncomputable def tbl164_10 : Tb := Tb.addL tbl164_2 164 10 S164_10.n0 (mkLp S164_10 (l164_10 ))

theorem ok_tbl164_10 : TbOk env (tbl164_10 ) := addLoopQ ok_tbl164_2 164 10 (by kernel_rfl) _ (l164_10_eq )

def S164 : FunS := ⟨[⟨true, .str⟩], [], [⟨true, .bool⟩], []⟩

noncomputable def F164 : List D → Option (List D) := liftX env tbl164_10 60 6 164 S164

theorem F164_eq  (ss0 : ByteArray) : F164  [(D.str ss0)] =
    bif (qsome (Proofs.YtiojjmlccehpoaaGreat.l164_2 [(D.str ss0)] [(D.int 0)])) then
      bif (qcmp BinOp.eql (qint (qnth (Proofs.YtiojjmlccehpoaaGreat.l164_2 [(D.str ss0)] [(D.int 0)]) 0)) 0) then
        bif (qsome (Proofs.YtiojjmlccehpoaaGreat.q217 [])) then
          bif (qsome (Proofs.YtiojjmlccehpoaaGreat.l164_10 [(D.str ss0), (qnth (Proofs.YtiojjmlccehpoaaGreat.q217 []) 0)] [(D.int 0)])) then
            bif (qcmp BinOp.eql (qint (qnth (Proofs.YtiojjmlccehpoaaGreat.l164_10 [(D.str ss0), (qnth (Proofs.YtiojjmlccehpoaaGreat.q217 []) 0)] [(D.int 0)]) 0)) 0) then
              some [(D.bool (qiteB (qcmp BinOp.gtr (qlenS ss0) 0) (qcmp BinOp.leq (qlenS ss0) 32) Bool.false))]
            else
              some [(D.bool Bool.false)]
          else
            none
        else
          none
      else
        some [(D.bool Bool.false)]
    else
      none := by kernel_rfl

noncomputable def q164 : List D → Option (List D) := veil (F164 )

theorem q164_eq : q164  = F164  := veil_eq _

noncomputable def tb164 : Tb := Tb.addF tbl164_10 164 S164 (q164 )

theorem ok_tb164 : TbOk env (tb164 ) := addFunF ok_tbl164_10 164 (by kernel_rfl) _ (q164_eq )

/- function 165  -/

def S165_2 : LoopS := ⟨0, [⟨false, (.rows 65)⟩, ⟨false, .str⟩, ⟨false, .any⟩, ⟨false, .any⟩, ⟨false, (.lit (.bool false))⟩, ⟨true, (.int .i64)⟩, ⟨false, .any⟩, ⟨false, .any⟩, ⟨false, .any⟩, ⟨false, .any⟩, ⟨false, .any⟩, ⟨false, .any⟩, ⟨false, .any⟩, ⟨false, .any⟩, ⟨false, .any⟩, ⟨false, .any⟩, ⟨false, .any⟩, ⟨false, .any⟩, ⟨false, .any⟩], [], [⟨0, 0, [⟨false, (.rows 65)⟩, ⟨false, .str⟩, ⟨true, .any⟩, ⟨true, .any⟩, ⟨true, (.lit (.bool false))⟩, ⟨true, .any⟩, ⟨true, .any⟩, ⟨true, .any⟩, ⟨true, .any⟩, ⟨true, .any⟩, ⟨true, .any⟩, ⟨true, .any⟩, ⟨true, .any⟩, ⟨true, .any⟩, ⟨true, .any⟩, ⟨true, .any⟩, ⟨true, .any⟩, ⟨true, .any⟩, ⟨true, .any⟩], []⟩, ⟨1, 0, [⟨false, (.rows 65)⟩, ⟨false, .str⟩, ⟨true, .any⟩, ⟨true, .any⟩, ⟨true, (.lit (.bool true))⟩, ⟨true, .any⟩, ⟨true, .any⟩, ⟨true, .any⟩, ⟨true, .any⟩, ⟨true, .any⟩, ⟨true, .any⟩, ⟨true, .any⟩, ⟨true, .any⟩, ⟨true, .any⟩, ⟨true, .any⟩, ⟨true, .any⟩, ⟨true, .any⟩, ⟨true, .any⟩, ⟨true, .any⟩], []⟩]⟩

noncomputable def st165_2 (p s : List D) : Option (Sum (List D) (List D)) := stepQX env tb164 60 6 165 (loopC 165 2) S165_2 p s

theorem st165_2_eq (pd0 : D) (ps1 : ByteArray) (sn0 : Int) : st165_2  [pd0, (D.str ps1)] [(D.int sn0)] =
    bif (qcmp BinOp.lss sn0 (qlen pd0)) then
      bif (qinb pd0 sn0) then
        bif (qcmpS BinOp.eql (qstr (qfld (qget pd0 sn0) 0)) ps1) then
          some (Sum.inr [(D.int 1)])
        else
          some (Sum.inl [(D.int (qbin BinOp.add IntKind.i64 sn0 1))])
      else
        none
    else
      some (Sum.inr [(D.int 0)]) := by
  have h : st165_2  [pd0, (D.str ps1)] [(D.int sn0)] =
    bif (qcmp BinOp.lss sn0 (qlen pd0)) then
      bif (qinb pd0 sn0) then
        bif (qcmpS BinOp.eql (qstr (qfld (qget pd0 sn0) 0)) ps1) then
          bif (qeqD pd0 pd0) then
            bif (qeqD (D.str ps1) (D.str ps1)) then
              some (Sum.inr [(D.int 1)])
            else
              none
          else
            none
        else
          bif (qeqD pd0 pd0) then
            bif (qeqD (D.str ps1) (D.str ps1)) then
              some (Sum.inl [(D.int (qbin BinOp.add IntKind.i64 sn0 1))])
            else
              none
          else
            none
      else
        none
    else
      bif (qeqD pd0 pd0) then
        bif (qeqD (D.str ps1) (D.str ps1)) then
          some (Sum.inr [(D.int 0)])
        else
          none
      else
        none := by kernel_rfl
  rw [h]; simp only [qeqD_self, qeqI_self, qeq_len, show qcmp BinOp.eql 0 (qlen (D.list [])) = true from qeq_len [], show ∀ a, qcmp BinOp.eql 1 (qlen (D.list [a])) = true from fun a => qeq_len [a], show ∀ a b, qcmp BinOp.eql 2 (qlen (D.list [a, b])) = true from fun a b => qeq_len [a, b], cond_true]

noncomputable def l165_2 : List D → List D → Option (List D) := veil fun p s => loW (st165_2  p) s

theorem l165_2_eq : l165_2  = fun p s => loW (st165_2  p) s := veil_eq _

noncomputable def tbl165_2 : Tb := Tb.addL tb164 165 2 S165_2.n0 (mkLp S165_2 (l165_2 ))

theorem ok_tbl165_2 : TbOk env (tbl165_2 ) := addLoopQ ok_tb164 165 2 (by kernel_rfl) _ (l165_2_eq )

def S165 : FunS := ⟨[⟨true, (.rows 65)⟩, ⟨true, .str⟩], [], [⟨true, .bool⟩], []⟩

noncomputable def F165 : List D → Option (List D) := liftX env tbl165_2 60 6 165 S165

theorem F165_eq  (sd0 : D) (ss1 : ByteArray) : F165  [sd0, (D.str ss1)] =
    bif (qsome (Proofs.YtiojjmlccehpoaaGreat.l165_2 [sd0, (D.str ss1)] [(D.int 0)])) then
      bif (qcmp BinOp.eql (qint (qnth (Proofs.YtiojjmlccehpoaaGreat.l165_2 [sd0, (D.str ss1)] [(D.int 0)]) 0)) 0) then
        some [(D.bool Bool.false)]
      else
        some [(D.bool Bool.true)]
    else
      none := by kernel_rfl

noncomputable def q165 : List D → Option (List D) := veil (F165 )

theorem q165_eq : q165  = F165  := veil_eq _

noncomputable def tb165 : Tb := Tb.addF tbl165_2 165 S165 (q165 )

theorem ok_tb165 : TbOk env (tb165 ) := addFunF ok_tbl165_2 165 (by kernel_rfl) _ (q165_eq )

end Go.Proofs.YtiojjmlccehpoaaGreat

open Go Go.AM
namespace Go.Proofs.YtiojjmlccehpoaaGreat
set_option maxRecDepth 100000
set_option linter.unusedSimpArgs false
set_option linter.unusedVariables false
def S85 : FunS := ⟨[⟨true, (.dat 25)⟩, ⟨true, (.int .i64)⟩], [], [⟨true, .bool⟩], []⟩

noncomputable def tbR85 (Q : List D → Option (List D)) : Tb := Tb.addF tb165 85 S85 Q

theorem ok_tbR85 (Q : List D → Option (List D)) (hQ : SoundF env.P 85 S85 Q) : TbOk env (tbR85 Q) := TbOk.addF ok_tb165 (by kernel_rfl) hQ

/- function 138  -/

def S138 : FunS := ⟨[⟨true, (.dat 25)⟩, ⟨true, (.eptr [(.int .i64)])⟩], [], [⟨true, .bool⟩], []⟩

noncomputable def F138 (Q : List D → Option (List D)) : List D → Option (List D) := liftX env (tbR85 Q ) 60 6 138 S138

theorem F138_eq (Q : List D → Option (List D))  (sd0 : D) (sn1 : Int) : F138 Q  [sd0, (D.int sn1)] =
    bif (qsome (Q [sd0, (D.int (qbin BinOp.sub IntKind.i64 sn1 1))])) then
      some [(D.bool (qnot (qbool (qnth (Q [sd0, (D.int (qbin BinOp.sub IntKind.i64 sn1 1))]) 0))))]
    else
      none := by kernel_rfl

noncomputable def q138 (Q : List D → Option (List D)) : List D → Option (List D) := veil (F138 Q )

theorem q138_eq (Q : List D → Option (List D)) : q138 Q  = F138 Q  := veil_eq _

noncomputable def tb138 (Q : List D → Option (List D)) : Tb := Tb.addF (tbR85 Q ) 138 S138 (q138 Q )

theorem ok_tb138 (Q : List D → Option (List D)) (hQ : SoundF env.P 85 S85 Q) : TbOk env (tb138 Q ) := addFunF (ok_tbR85 Q hQ) 138 (by kernel_rfl) _ (q138_eq Q )

/- function 201  -/

def S201_138_2 : LoopS := ⟨0, [⟨false, (.rows 25)⟩, ⟨false, (.func 138 [] [(.eptr [(.int .i64)])])⟩, ⟨false, .any⟩, ⟨false, .any⟩, ⟨false, (.lit (.int .i64 0))⟩, ⟨false, .any⟩, ⟨false, .any⟩, ⟨false, (.int .i64)⟩, ⟨true, (.int .i64)⟩, ⟨false, .any⟩, ⟨false, .any⟩, ⟨false, .any⟩, ⟨false, .any⟩, ⟨false, .any⟩, ⟨false, .any⟩, ⟨false, .any⟩, ⟨false, .any⟩, ⟨false, .any⟩, ⟨false, .any⟩], [], [⟨0, 0, [⟨false, (.rows 25)⟩, ⟨false, (.func 138 [] [(.eptr [(.int .i64)])])⟩, ⟨true, .any⟩, ⟨true, .any⟩, ⟨true, (.lit (.int .i64 0))⟩, ⟨true, .any⟩, ⟨true, .any⟩, ⟨false, (.int .i64)⟩, ⟨true, .any⟩, ⟨true, .any⟩, ⟨true, .any⟩, ⟨true, .any⟩, ⟨true, .any⟩, ⟨true, .any⟩, ⟨true, .any⟩, ⟨true, .any⟩, ⟨true, .any⟩, ⟨true, .any⟩, ⟨true, .any⟩], []⟩, ⟨1, 0, [⟨false, (.rows 25)⟩, ⟨false, (.func 138 [] [(.eptr [(.int .i64)])])⟩, ⟨true, .any⟩, ⟨true, .any⟩, ⟨true, (.int .i64)⟩, ⟨true, .any⟩, ⟨true, .any⟩, ⟨false, (.int .i64)⟩, ⟨true, .any⟩, ⟨true, .any⟩, ⟨true, .any⟩, ⟨true, .any⟩, ⟨true, .any⟩, ⟨true, .any⟩, ⟨true, .any⟩, ⟨true, .any⟩, ⟨true, .any⟩, ⟨true, .any⟩, ⟨true, .any⟩], []⟩]⟩

noncomputable def st201_138_2 (Q : List D → Option (List D)) (p s : List D) : Option (Sum (List D) (List D)) := stepQX env (tb138 Q ) 60 6 201 (loopC 201 2) S201_138_2 p s

theorem st201_138_2_eq (Q : List D → Option (List D)) (pd0 : D) (pn1 : Int) (pn2 : Int) (sn0 : Int) : st201_138_2 Q  [pd0, (D.int pn1), (D.int pn2)] [(D.int sn0)] =
    bif (qcmp BinOp.lss sn0 pn2) then
      bif (qinb pd0 sn0) then
        bif (qsome (Proofs.YtiojjmlccehpoaaGreat.q138 Q [(qget pd0 sn0), (D.int pn1)])) then
          bif (qbool (qnth (Proofs.YtiojjmlccehpoaaGreat.q138 Q [(qget pd0 sn0), (D.int pn1)]) 0)) then
            some (Sum.inr [(D.int 1), (D.int sn0)])
          else
            some (Sum.inl [(D.int (qbin BinOp.add IntKind.i64 sn0 1))])
        else
          none
      else
        none
    else
      some (Sum.inr [(D.int 0)]) := by
  have h : st201_138_2 Q  [pd0, (D.int pn1), (D.int pn2)] [(D.int sn0)] =
    bif (qcmp BinOp.lss sn0 pn2) then
      bif (qinb pd0 sn0) then
        bif (qsome (Proofs.YtiojjmlccehpoaaGreat.q138 Q [(qget pd0 sn0), (D.int pn1)])) then
          bif (qbool (qnth (Proofs.YtiojjmlccehpoaaGreat.q138 Q [(qget pd0 sn0), (D.int pn1)]) 0)) then
            bif (qeqD pd0 pd0) then
              bif (qeqD (D.int pn1) (D.int pn1)) then
                bif (qeqD (D.int pn2) (D.int pn2)) then
                  some (Sum.inr [(D.int 1), (D.int sn0)])
                else
                  none
              else
                none
            else
              none
          else
            bif (qeqD pd0 pd0) then
              bif (qeqD (D.int pn1) (D.int pn1)) then
                bif (qeqD (D.int pn2) (D.int pn2)) then
                  some (Sum.inl [(D.int (qbin BinOp.add IntKind.i64 sn0 1))])
                else
                  none
              else
                none
            else
              none
        else
          none
      else
        none
    else
      bif (qeqD pd0 pd0) then
        bif (qeqD (D.int pn1) (D.int pn1)) then
          bif (qeqD (D.int pn2) (D.int pn2)) then
            some (Sum.inr [(D.int 0)])
          else
            none
        else
          none
      else
        none := by kernel_rfl
  rw [h]; simp only [qeqD_self, qeqI_self, qeq_len, show qcmp BinOp.eql 0 (qlen (D.list [])) = true from qeq_len [], show ∀ a, qcmp BinOp.eql 1 (qlen (D.list [a])) = true from fun a => qeq_len [a], show ∀ a b, qcmp BinOp.eql 2 (qlen (D.list [a, b])) = true from fun a b => qeq_len [a, b], cond_true]

noncomputable def l201_138_2 (Q : List D → Option (List D)) : List D → List D → Option (List D) := veil fun p s => loW (st201_138_2 Q  p) s

theorem l201_138_2_eq (Q : List D → Option (List D)) : l201_138_2 Q  = fun p s => loW (st201_138_2 Q  p) s := veil_eq _

noncomputable def tbl201_138_2 (Q : List D → Option (List D)) : Tb := Tb.addL (tb138 Q ) 201 2 S201_138_2.n0 (mkLp S201_138_2 (l201_138_2 Q ))

theorem ok_tbl201_138_2 (Q : List D → Option (List D)) (hQ : SoundF env.P 85 S85 Q) : TbOk env (tbl201_138_2 Q ) := addLoopQ (ok_tb138 Q hQ) 201 2 (by kernel_rfl) _ (l201_138_2_eq Q )

def S201_138 : FunS := ⟨[⟨true, (.rows 25)⟩, ⟨true, (.func 138 [] [(.eptr [(.int .i64)])])⟩], [], [⟨true, (.int .i64)⟩], []⟩

noncomputable def F201_138 (Q : List D → Option (List D)) : List D → Option (List D) := liftX env (tbl201_138_2 Q ) 60 6 201 S201_138

theorem F201_138_eq (Q : List D → Option (List D))  (sd0 : D) (sn1 : Int) : F201_138 Q  [sd0, (D.int sn1)] =
    bif (qsome (Proofs.YtiojjmlccehpoaaGreat.l201_138_2 Q [sd0, (D.int sn1), (D.int (qlen sd0))] [(D.int 0)])) then
      bif (qcmp BinOp.eql (qint (qnth (Proofs.YtiojjmlccehpoaaGreat.l201_138_2 Q [sd0, (D.int sn1), (D.int (qlen sd0))] [(D.int 0)]) 0)) 0) then
        some [(D.int (-1))]
      else
        some [(D.int (qint (qnth (Proofs.YtiojjmlccehpoaaGreat.l201_138_2 Q [sd0, (D.int sn1), (D.int (qlen sd0))] [(D.int 0)]) 1)))]
    else
      none := by kernel_rfl

noncomputable def q201_138 (Q : List D → Option (List D)) : List D → Option (List D) := veil (F201_138 Q )

theorem q201_138_eq (Q : List D → Option (List D)) : q201_138 Q  = F201_138 Q  := veil_eq _

noncomputable def tb201_138 (Q : List D → Option (List D)) : Tb := Tb.addF (tbl201_138_2 Q ) 201 S201_138 (q201_138 Q )

theorem ok_tb201_138 (Q : List D → Option (List D)) (hQ : SoundF env.P 85 S85 Q) : TbOk env (tb201_138 Q ) := addFunF (ok_tbl201_138_2 Q hQ) 201 (by kernel_rfl) _ (q201_138_eq Q )

/- function 137  -/

def S137_138 : FunS := ⟨[⟨true, (.rows 25)⟩, ⟨true, (.func 138 [] [(.eptr [(.int .i64)])])⟩], [], [⟨true, .bool⟩], []⟩

noncomputable def F137_138 (Q : List D → Option (List D)) : List D → Option (List D) := liftX env (tb201_138 Q ) 60 6 137 S137_138

theorem F137_138_eq (Q : List D → Option (List D))  (sd0 : D) (sn1 : Int) : F137_138 Q  [sd0, (D.int sn1)] =
    bif (qsome (Proofs.YtiojjmlccehpoaaGreat.q201_138 Q [sd0, (D.int sn1)])) then
      some [(D.bool (qcmp BinOp.geq (qint (qnth (Proofs.YtiojjmlccehpoaaGreat.q201_138 Q [sd0, (D.int sn1)]) 0)) 0))]
    else
      none := by kernel_rfl

noncomputable def q137_138 (Q : List D → Option (List D)) : List D → Option (List D) := veil (F137_138 Q )

theorem q137_138_eq (Q : List D → Option (List D)) : q137_138 Q  = F137_138 Q  := veil_eq _

noncomputable def tb137_138 (Q : List D → Option (List D)) : Tb := Tb.addF (tb201_138 Q ) 137 S137_138 (q137_138 Q )

theorem ok_tb137_138 (Q : List D → Option (List D)) (hQ : SoundF env.P 85 S85 Q) : TbOk env (tb137_138 Q ) := addFunF (ok_tb201_138 Q hQ) 137 (by kernel_rfl) _ (q137_138_eq Q )

noncomputable def Fb85 (Q : List D → Option (List D)) : List D → Option (List D) := liftX env (tb137_138 Q ) 60 6 85 S85

theorem Fb85_eq (Q : List D → Option (List D))  (sd0 : D) (sn1 : Int) : Fb85 Q  [sd0, (D.int sn1)] =
    bif (qiteB (qcmp BinOp.geq sn1 1) (qsome (Proofs.YtiojjmlccehpoaaGreat.q137_138 Q [(qfld sd0 4), (D.int sn1)])) Bool.true) then
      some [(D.bool (qiteB (qcmp BinOp.geq sn1 1) (qnot (qbool (qnth (Proofs.YtiojjmlccehpoaaGreat.q137_138 Q [(qfld sd0 4), (D.int sn1)]) 0))) Bool.false))]
    else
      none := by kernel_rfl

noncomputable def F85 : Nat → List D → Option (List D) := levels Fb85

theorem F85_0 (ds : List D) : F85 0 ds = none := rfl

theorem F85_s (n : Nat) : F85 (n + 1) = Fb85 (F85 n) := rfl

noncomputable def q85 : List D → Option (List D) := veil fun ds => F85 (fuelL ds) ds

theorem q85_eq : q85 = fun ds => F85 (fuelL ds) ds := veil_eq _

theorem sound85 : SoundF env.P 85 S85 q85 := recF (fun q => tb137_138 q) (fun q hq => ok_tb137_138 q hq) q85_eq

noncomputable def tb85 : Tb := Tb.addF tb165 85 S85 q85

theorem ok_tb85 : TbOk env tb85 := TbOk.addF ok_tb165 (by kernel_rfl) sound85

end Go.Proofs.YtiojjmlccehpoaaGreat

open Go Go.AM
namespace Go.Proofs.YtiojjmlccehpoaaGreat
set_option maxRecDepth 100000
set_option linter.unusedSimpArgs false
set_option linter.unusedVariables false
def S86 : FunS := ⟨[⟨true, (.dat 25)⟩], [], [⟨true, .bool⟩], []⟩

noncomputable def tbR86 (Q : List D → Option (List D)) : Tb := Tb.addF tb85 86 S86 Q

theorem ok_tbR86 (Q : List D → Option (List D)) (hQ : SoundF env.P 86 S86 Q) : TbOk env (tbR86 Q) := TbOk.addF ok_tb85 (by kernel_rfl) hQ

/- function 140  -/

def S140 : FunS := ⟨[⟨true, (.dat 25)⟩], [], [⟨true, .bool⟩], []⟩

noncomputable def F140 (Q : List D → Option (List D)) : List D → Option (List D) := liftX env (tbR86 Q ) 60 6 140 S140

theorem F140_eq (Q : List D → Option (List D))  (sd0 : D) : F140 Q  [sd0] =
    bif (qsome (Q [sd0])) then
      some [(D.bool (qnot (qbool (qnth (Q [sd0]) 0))))]
    else
      none := by kernel_rfl

noncomputable def q140 (Q : List D → Option (List D)) : List D → Option (List D) := veil (F140 Q )

theorem q140_eq (Q : List D → Option (List D)) : q140 Q  = F140 Q  := veil_eq _

noncomputable def tb140 (Q : List D → Option (List D)) : Tb := Tb.addF (tbR86 Q ) 140 S140 (q140 Q )

theorem ok_tb140 (Q : List D → Option (List D)) (hQ : SoundF env.P 86 S86 Q) : TbOk env (tb140 Q ) := addFunF (ok_tbR86 Q hQ) 140 (by kernel_rfl) _ (q140_eq Q )

/- function 201  -/

def S201_140_2 : LoopS := ⟨0, [⟨false, (.rows 25)⟩, ⟨false, (.func 140 [] [])⟩, ⟨false, .any⟩, ⟨false, .any⟩, ⟨false, (.lit (.int .i64 0))⟩, ⟨false, .any⟩, ⟨false, .any⟩, ⟨false, (.int .i64)⟩, ⟨true, (.int .i64)⟩, ⟨false, .any⟩, ⟨false, .any⟩, ⟨false, .any⟩, ⟨false, .any⟩, ⟨false, .any⟩, ⟨false, .any⟩, ⟨false, .any⟩, ⟨false, .any⟩, ⟨false, .any⟩, ⟨false, .any⟩], [], [⟨0, 0, [⟨false, (.rows 25)⟩, ⟨true, .any⟩, ⟨true, .any⟩, ⟨true, .any⟩, ⟨true, (.lit (.int .i64 0))⟩, ⟨true, .any⟩, ⟨true, .any⟩, ⟨false, (.int .i64)⟩, ⟨true, .any⟩, ⟨true, .any⟩, ⟨true, .any⟩, ⟨true, .any⟩, ⟨true, .any⟩, ⟨true, .any⟩, ⟨true, .any⟩, ⟨true, .any⟩, ⟨true, .any⟩, ⟨true, .any⟩, ⟨true, .any⟩], []⟩, ⟨1, 0, [⟨false, (.rows 25)⟩, ⟨true, .any⟩, ⟨true, .any⟩, ⟨true, .any⟩, ⟨true, (.int .i64)⟩, ⟨true, .any⟩, ⟨true, .any⟩, ⟨false, (.int .i64)⟩, ⟨true, .any⟩, ⟨true, .any⟩, ⟨true, .any⟩, ⟨true, .any⟩, ⟨true, .any⟩, ⟨true, .any⟩, ⟨true, .any⟩, ⟨true, .any⟩, ⟨true, .any⟩, ⟨true, .any⟩, ⟨true, .any⟩], []⟩]⟩

noncomputable def st201_140_2 (Q : List D → Option (List D)) (p s : List D) : Option (Sum (List D) (List D)) := stepQX env (tb140 Q ) 60 6 201 (loopC 201 2) S201_140_2 p s

theorem st201_140_2_eq (Q : List D → Option (List D)) (pd0 : D) (pn1 : Int) (sn0 : Int) : st201_140_2 Q  [pd0, (D.int pn1)] [(D.int sn0)] =
    bif (qcmp BinOp.lss sn0 pn1) then
      bif (qinb pd0 sn0) then
        bif (qsome (Proofs.YtiojjmlccehpoaaGreat.q140 Q [(qget pd0 sn0)])) then
          bif (qbool (qnth (Proofs.YtiojjmlccehpoaaGreat.q140 Q [(qget pd0 sn0)]) 0)) then
            some (Sum.inr [(D.int 1), (D.int sn0)])
          else
            some (Sum.inl [(D.int (qbin BinOp.add IntKind.i64 sn0 1))])
        else
          none
      else
        none
    else
      some (Sum.inr [(D.int 0)]) := by
  have h : st201_140_2 Q  [pd0, (D.int pn1)] [(D.int sn0)] =
    bif (qcmp BinOp.lss sn0 pn1) then
      bif (qinb pd0 sn0) then
        bif (qsome (Proofs.YtiojjmlccehpoaaGreat.q140 Q [(qget pd0 sn0)])) then
          bif (qbool (qnth (Proofs.YtiojjmlccehpoaaGreat.q140 Q [(qget pd0 sn0)]) 0)) then
            bif (qeqD pd0 pd0) then
              bif (qeqD (D.int pn1) (D.int pn1)) then
                some (Sum.inr [(D.int 1), (D.int sn0)])
              else
                none
            else
              none
          else
            bif (qeqD pd0 pd0) then
              bif (qeqD (D.int pn1) (D.int pn1)) then
                some (Sum.inl [(D.int (qbin BinOp.add IntKind.i64 sn0 1))])
              else
                none
            else
              none
        else
          none
      else
        none
    else
      bif (qeqD pd0 pd0) then
        bif (qeqD (D.int pn1) (D.int pn1)) then
          some (Sum.inr [(D.int 0)])
        else
          none
      else
        none := by kernel_rfl
  rw [h]; simp only [qeqD_self, qeqI_self, qeq_len, show qcmp BinOp.eql 0 (qlen (D.list [])) = true from qeq_len [], show ∀ a, qcmp BinOp.eql 1 (qlen (D.list [a])) = true from fun a => qeq_len [a], show ∀ a b, qcmp BinOp.eql 2 (qlen (D.list [a, b])) = true from fun a b => qeq_len [a, b], cond_true]

noncomputable def l201_140_2 (Q : List D → Option (List D)) : List D → List D → Option (List D) := veil fun p s => loW (st201_140_2 Q  p) s

theorem l201_140_2_eq (Q : List D → Option (List D)) : l201_140_2 Q  = fun p s => loW (st201_140_2 Q  p) s := veil_eq _

noncomputable def tbl201_140_2 (Q : List D → Option (List D)) : Tb := Tb.addL (tb140 Q ) 201 2 S201_140_2.n0 (mkLp S201_140_2 (l201_140_2 Q ))

theorem ok_tbl201_140_2 (Q : List D → Option (List D)) (hQ : SoundF env.P 86 S86 Q) : TbOk env (tbl201_140_2 Q ) := addLoopQ (ok_tb140 Q hQ) 201 2 (by kernel_rfl) _ (l201_140_2_eq Q )

def S201_140 : FunS := ⟨[⟨true, (.rows 25)⟩, ⟨true, (.func 140 [] [])⟩], [], [⟨true, (.int .i64)⟩], []⟩

noncomputable def F201_140 (Q : List D → Option (List D)) : List D → Option (List D) := liftX env (tbl201_140_2 Q ) 60 6 201 S201_140

theorem F201_140_eq (Q : List D → Option (List D))  (sd0 : D) : F201_140 Q  [sd0] =
    bif (qsome (Proofs.YtiojjmlccehpoaaGreat.l201_140_2 Q [sd0, (D.int (qlen sd0))] [(D.int 0)])) then
      bif (qcmp BinOp.eql (qint (qnth (Proofs.YtiojjmlccehpoaaGreat.l201_140_2 Q [sd0, (D.int (qlen sd0))] [(D.int 0)]) 0)) 0) then
        some [(D.int (-1))]
      else
        some [(D.int (qint (qnth (Proofs.YtiojjmlccehpoaaGreat.l201_140_2 Q [sd0, (D.int (qlen sd0))] [(D.int 0)]) 1)))]
    else
      none := by kernel_rfl

noncomputable def q201_140 (Q : List D → Option (List D)) : List D → Option (List D) := veil (F201_140 Q )

theorem q201_140_eq (Q : List D → Option (List D)) : q201_140 Q  = F201_140 Q  := veil_eq _

noncomputable def tb201_140 (Q : List D → Option (List D)) : Tb := Tb.addF (tbl201_140_2 Q ) 201 S201_140 (q201_140 Q )

theorem ok_tb201_140 (Q : List D → Option (List D)) (hQ : SoundF env.P 86 S86 Q) : TbOk env (tb201_140 Q ) := addFunF (ok_tbl201_140_2 Q hQ) 201 (by kernel_rfl) _ (q201_140_eq Q )

/- function 137  -/

def S137_140 : FunS := ⟨[⟨true, (.rows 25)⟩, ⟨true, (.func 140 [] [])⟩], [], [⟨true, .bool⟩], []⟩

noncomputable def F137_140 (Q : List D → Option (List D)) : List D → Option (List D) := liftX env (tb201_140 Q ) 60 6 137 S137_140

theorem F137_140_eq (Q : List D → Option (List D))  (sd0 : D) : F137_140 Q  [sd0] =
    bif (qsome (Proofs.YtiojjmlccehpoaaGreat.q201_140 Q [sd0])) then
      some [(D.bool (qcmp BinOp.geq (qint (qnth (Proofs.YtiojjmlccehpoaaGreat.q201_140 Q [sd0]) 0)) 0))]
    else
      none := by kernel_rfl

noncomputable def q137_140 (Q : List D → Option (List D)) : List D → Option (List D) := veil (F137_140 Q )

theorem q137_140_eq (Q : List D → Option (List D)) : q137_140 Q  = F137_140 Q  := veil_eq _

noncomputable def tb137_140 (Q : List D → Option (List D)) : Tb := Tb.addF (tb201_140 Q ) 137 S137_140 (q137_140 Q )

theorem ok_tb137_140 (Q : List D → Option (List D)) (hQ : SoundF env.P 86 S86 Q) : TbOk env (tb137_140 Q ) := addFunF (ok_tb201_140 Q hQ) 137 (by kernel_rfl) _ (q137_140_eq Q )

noncomputable def Fb86 (Q : List D → Option (List D)) : List D → Option (List D) := liftX env (tb137_140 Q ) 60 6 86 S86

theorem Fb86_eq (Q : List D → Option (List D))  (sd0 : D) : Fb86 Q  [sd0] =
    bif (qcmp BinOp.eql (qint (qfld sd0 0)) 1) then
      bif (qiteB (qiteB (qiteB (qiteB (qcmp BinOp.eql (qint (qfld sd0 1)) (qint (qfld sd0 1))) (qcmpS BinOp.eql (qstr (qfld sd0 2)) (ByteArray.mk #[])) Bool.false) (qcmp BinOp.eql (qint (qfld sd0 3)) 0) Bool.false) (qcmp BinOp.eql (qlen (qfld sd0 4)) 0) Bool.false) (qsome (Proofs.YtiojjmlccehpoaaGreat.q137_140 Q [(qfld sd0 4)])) Bool.true) then
        some [(D.bool (qiteB (qiteB (qiteB (qiteB (qcmp BinOp.eql (qint (qfld sd0 1)) (qint (qfld sd0 1))) (qcmpS BinOp.eql (qstr (qfld sd0 2)) (ByteArray.mk #[])) Bool.false) (qcmp BinOp.eql (qint (qfld sd0 3)) 0) Bool.false) (qcmp BinOp.eql (qlen (qfld sd0 4)) 0) Bool.false) (qnot (qbool (qnth (Proofs.YtiojjmlccehpoaaGreat.q137_140 Q [(qfld sd0 4)]) 0))) Bool.false))]
      else
        none
    else
      bif (qiteB (qcmp BinOp.eql (qint (qfld sd0 0)) 2) (qsome (Proofs.YtiojjmlccehpoaaGreat.q139 [(D.str (qstr (qfld sd0 2)))])) Bool.true) then
        bif (qiteB (qcmp BinOp.eql (qint (qfld sd0 0)) 2) (qbool (qnth (Proofs.YtiojjmlccehpoaaGreat.q139 [(D.str (qstr (qfld sd0 2)))]) 0)) Bool.false) then
          bif (qiteB (qiteB (qiteB (qiteB (qcmp BinOp.eql (qint (qfld sd0 1)) 0) (qcmpS BinOp.eql (qstr (qfld sd0 2)) (qstr (qfld sd0 2))) Bool.false) (qcmp BinOp.eql (qint (qfld sd0 3)) 0) Bool.false) (qcmp BinOp.eql (qlen (qfld sd0 4)) 0) Bool.false) (qsome (Proofs.YtiojjmlccehpoaaGreat.q137_140 Q [(qfld sd0 4)])) Bool.true) then
            some [(D.bool (qiteB (qiteB (qiteB (qiteB (qcmp BinOp.eql (qint (qfld sd0 1)) 0) (qcmpS BinOp.eql (qstr (qfld sd0 2)) (qstr (qfld sd0 2))) Bool.false) (qcmp BinOp.eql (qint (qfld sd0 3)) 0) Bool.false) (qcmp BinOp.eql (qlen (qfld sd0 4)) 0) Bool.false) (qnot (qbool (qnth (Proofs.YtiojjmlccehpoaaGreat.q137_140 Q [(qfld sd0 4)]) 0))) Bool.false))]
          else
            none
        else
          bif (qiteB (qcmp BinOp.geq (qint (qfld sd0 0)) 3) (qcmp BinOp.leq (qint (qfld sd0 0)) 15) Bool.false) then
            bif (qiteB (qiteB (qiteB (qiteB (qcmp BinOp.eql (qint (qfld sd0 1)) 0) (qcmpS BinOp.eql (qstr (qfld sd0 2)) (ByteArray.mk #[])) Bool.false) (qcmp BinOp.eql (qint (qfld sd0 3)) 0) Bool.false) (qcmp BinOp.eql (qlen (qfld sd0 4)) 2) Bool.false) (qsome (Proofs.YtiojjmlccehpoaaGreat.q137_140 Q [(qfld sd0 4)])) Bool.true) then
              some [(D.bool (qiteB (qiteB (qiteB (qiteB (qcmp BinOp.eql (qint (qfld sd0 1)) 0) (qcmpS BinOp.eql (qstr (qfld sd0 2)) (ByteArray.mk #[])) Bool.false) (qcmp BinOp.eql (qint (qfld sd0 3)) 0) Bool.false) (qcmp BinOp.eql (qlen (qfld sd0 4)) 2) Bool.false) (qnot (qbool (qnth (Proofs.YtiojjmlccehpoaaGreat.q137_140 Q [(qfld sd0 4)]) 0))) Bool.false))]
            else
              none
          else
            bif (qiteB (qcmp BinOp.eql (qint (qfld sd0 0)) 16) (qcmp BinOp.eql (qint (qfld sd0 0)) 16) (qcmp BinOp.eql (qint (qfld sd0 0)) 17)) then
              bif (qiteB (qiteB (qiteB (qiteB (qcmp BinOp.eql (qint (qfld sd0 1)) 0) (qcmpS BinOp.eql (qstr (qfld sd0 2)) (ByteArray.mk #[])) Bool.false) (qcmp BinOp.eql (qint (qfld sd0 3)) 0) Bool.false) (qcmp BinOp.eql (qlen (qfld sd0 4)) 1) Bool.false) (qsome (Proofs.YtiojjmlccehpoaaGreat.q137_140 Q [(qfld sd0 4)])) Bool.true) then
                some [(D.bool (qiteB (qiteB (qiteB (qiteB (qcmp BinOp.eql (qint (qfld sd0 1)) 0) (qcmpS BinOp.eql (qstr (qfld sd0 2)) (ByteArray.mk #[])) Bool.false) (qcmp BinOp.eql (qint (qfld sd0 3)) 0) Bool.false) (qcmp BinOp.eql (qlen (qfld sd0 4)) 1) Bool.false) (qnot (qbool (qnth (Proofs.YtiojjmlccehpoaaGreat.q137_140 Q [(qfld sd0 4)]) 0))) Bool.false))]
              else
                none
            else
              bif (qiteB (qiteB (qcmp BinOp.eql (qint (qfld sd0 0)) 18) (qiteB (qiteB (qcmp BinOp.eql (qint (qfld sd0 3)) 1) Bool.true (qcmp BinOp.eql (qint (qfld sd0 3)) 2)) Bool.true (qcmp BinOp.eql (qint (qfld sd0 3)) 4)) Bool.false) (qiteB (qcmp BinOp.eql (qint (qfld sd0 0)) 18) (qiteB (qiteB (qcmp BinOp.eql (qint (qfld sd0 3)) 1) Bool.true (qcmp BinOp.eql (qint (qfld sd0 3)) 2)) Bool.true (qcmp BinOp.eql (qint (qfld sd0 3)) 4)) Bool.false) (qiteB (qcmp BinOp.eql (qint (qfld sd0 0)) 19) (qiteB (qcmp BinOp.eql (qint (qfld sd0 3)) 1) Bool.true (qcmp BinOp.eql (qint (qfld sd0 3)) 2)) Bool.false)) then
                bif (qiteB (qiteB (qiteB (qiteB (qcmp BinOp.eql (qint (qfld sd0 1)) 0) (qcmpS BinOp.eql (qstr (qfld sd0 2)) (ByteArray.mk #[])) Bool.false) (qcmp BinOp.eql (qint (qfld sd0 3)) (qint (qfld sd0 3))) Bool.false) (qcmp BinOp.eql (qlen (qfld sd0 4)) 1) Bool.false) (qsome (Proofs.YtiojjmlccehpoaaGreat.q137_140 Q [(qfld sd0 4)])) Bool.true) then
                  some [(D.bool (qiteB (qiteB (qiteB (qiteB (qcmp BinOp.eql (qint (qfld sd0 1)) 0) (qcmpS BinOp.eql (qstr (qfld sd0 2)) (ByteArray.mk #[])) Bool.false) (qcmp BinOp.eql (qint (qfld sd0 3)) (qint (qfld sd0 3))) Bool.false) (qcmp BinOp.eql (qlen (qfld sd0 4)) 1) Bool.false) (qnot (qbool (qnth (Proofs.YtiojjmlccehpoaaGreat.q137_140 Q [(qfld sd0 4)]) 0))) Bool.false))]
                else
                  none
              else
                some [(D.bool Bool.false)]
      else
        none := by kernel_rfl

noncomputable def F86 : Nat → List D → Option (List D) := levels Fb86

theorem F86_0 (ds : List D) : F86 0 ds = none := rfl

theorem F86_s (n : Nat) : F86 (n + 1) = Fb86 (F86 n) := rfl

noncomputable def q86 : List D → Option (List D) := veil fun ds => F86 (fuelL ds) ds

theorem q86_eq : q86 = fun ds => F86 (fuelL ds) ds := veil_eq _

theorem sound86 : SoundF env.P 86 S86 q86 := recF (fun q => tb137_140 q) (fun q hq => ok_tb137_140 q hq) q86_eq

noncomputable def tb86 : Tb := Tb.addF tb85 86 S86 q86

theorem ok_tb86 : TbOk env tb86 := TbOk.addF ok_tb85 (by kernel_rfl) sound86

end Go.Proofs.YtiojjmlccehpoaaGreat

open Go Go.AM
namespace Go.Proofs.YtiojjmlccehpoaaGreat
set_option maxRecDepth 100000
set_option linter.unusedSimpArgs false
set_option linter.unusedVariables false
def S105 : FunS := ⟨[⟨true, (.dat 25)⟩, ⟨true, (.int .i64)⟩], [], [⟨true, .bool⟩], []⟩

noncomputable def tbR105 (Q : List D → Option (List D)) : Tb := Tb.addF tb86 105 S105 Q

theorem ok_tbR105 (Q : List D → Option (List D)) (hQ : SoundF env.P 105 S105 Q) : TbOk env (tbR105 Q) := TbOk.addF ok_tb86 (by kernel_rfl) hQ

def S105_4 : LoopS := ⟨0, [⟨false, .any⟩, ⟨false, (.int .i64)⟩, ⟨false, (.ptr 0 0)⟩, ⟨false, .any⟩, ⟨false, (.lit (.bool false))⟩, ⟨true, (.int .i64)⟩, ⟨false, .any⟩, ⟨false, .any⟩, ⟨false, .any⟩, ⟨false, .any⟩, ⟨false, .any⟩, ⟨false, .any⟩, ⟨false, .any⟩, ⟨false, .any⟩, ⟨false, .any⟩, ⟨false, .any⟩, ⟨false, .any⟩, ⟨false, .any⟩, ⟨false, .any⟩, ⟨false, .any⟩, ⟨false, .any⟩, ⟨false, .any⟩, ⟨false, .any⟩], [(.dat false 25)], [⟨0, 0, [⟨true, .any⟩, ⟨false, (.int .i64)⟩, ⟨true, .any⟩, ⟨true, .any⟩, ⟨true, (.lit (.bool false))⟩, ⟨true, .any⟩, ⟨true, .any⟩, ⟨true, .any⟩, ⟨true, .any⟩, ⟨true, .any⟩, ⟨true, .any⟩, ⟨true, .any⟩, ⟨true, .any⟩, ⟨true, .any⟩, ⟨true, .any⟩, ⟨true, .any⟩, ⟨true, .any⟩, ⟨true, .any⟩, ⟨true, .any⟩, ⟨true, .any⟩, ⟨true, .any⟩, ⟨true, .any⟩, ⟨true, .any⟩], [(.dat false 25)]⟩, ⟨1, 0, [⟨true, .any⟩, ⟨false, (.int .i64)⟩, ⟨true, .any⟩, ⟨true, .any⟩, ⟨true, (.lit (.bool true))⟩, ⟨true, .any⟩, ⟨true, .any⟩, ⟨true, .any⟩, ⟨true, .any⟩, ⟨true, .any⟩, ⟨true, .any⟩, ⟨true, .any⟩, ⟨true, .any⟩, ⟨true, .any⟩, ⟨true, .any⟩, ⟨true, .any⟩, ⟨true, .any⟩, ⟨true, .any⟩, ⟨true, .any⟩, ⟨true, .any⟩, ⟨true, .any⟩, ⟨true, .any⟩, ⟨true, .any⟩], [(.dat false 25)]⟩]⟩

noncomputable def st105_4 (Q : List D → Option (List D)) (p s : List D) : Option (Sum (List D) (List D)) := stepQX env (tbR105 Q ) 60 6 105 (loopC 105 4) S105_4 p s

theorem st105_4_eq (Q : List D → Option (List D)) (pn0 : Int) (pd1 : D) (sn0 : Int) : st105_4 Q  [(D.int pn0), pd1] [(D.int sn0)] =
    bif (qcmp BinOp.lss sn0 (qlen (qfld pd1 4))) then
      bif (qinb (qfld pd1 4) sn0) then
        bif (qsome (Q [(qget (qfld pd1 4) sn0), (D.int (qbin BinOp.sub IntKind.i64 pn0 1))])) then
          bif (qbool (qnth (Q [(qget (qfld pd1 4) sn0), (D.int (qbin BinOp.sub IntKind.i64 pn0 1))]) 0)) then
            some (Sum.inr [(D.int 1)])
          else
            some (Sum.inl [(D.int (qbin BinOp.add IntKind.i64 sn0 1))])
        else
          none
      else
        none
    else
      some (Sum.inr [(D.int 0)]) := by
  have h : st105_4 Q  [(D.int pn0), pd1] [(D.int sn0)] =
    bif (qcmp BinOp.lss sn0 (qlen (qfld pd1 4))) then
      bif (qinb (qfld pd1 4) sn0) then
        bif (qsome (Q [(qget (qfld pd1 4) sn0), (D.int (qbin BinOp.sub IntKind.i64 pn0 1))])) then
          bif (qbool (qnth (Q [(qget (qfld pd1 4) sn0), (D.int (qbin BinOp.sub IntKind.i64 pn0 1))]) 0)) then
            bif (qeqD (D.int pn0) (D.int pn0)) then
              bif (qeqD pd1 pd1) then
                some (Sum.inr [(D.int 1)])
              else
                none
            else
              none
          else
            bif (qeqD (D.int pn0) (D.int pn0)) then
              bif (qeqD pd1 pd1) then
                some (Sum.inl [(D.int (qbin BinOp.add IntKind.i64 sn0 1))])
              else
                none
            else
              none
        else
          none
      else
        none
    else
      bif (qeqD (D.int pn0) (D.int pn0)) then
        bif (qeqD pd1 pd1) then
          some (Sum.inr [(D.int 0)])
        else
          none
      else
        none := by kernel_rfl
  rw [h]; simp only [qeqD_self, qeqI_self, qeq_len, show qcmp BinOp.eql 0 (qlen (D.list [])) = true from qeq_len [], show ∀ a, qcmp BinOp.eql 1 (qlen (D.list [a])) = true from fun a => qeq_len [a], show ∀ a b, qcmp BinOp.eql 2 (qlen (D.list [a, b])) = true from fun a b => qeq_len [a, b], cond_true]

noncomputable def l105_4 (Q : List D → Option (List D)) : List D → List D → Option (List D) := veil fun p s => loW (st105_4 Q  p) s

theorem l105_4_eq (Q : List D → Option (List D)) : l105_4 Q  = fun p s => loW (st105_4 Q  p) s := veil_eq _

noncomputable def tbl105_4 (Q : List D → Option (List D)) : Tb := Tb.addL (tbR105 Q ) 105 4 S105_4.n0 (mkLp S105_4 (l105_4 Q ))

theorem ok_tbl105_4 (Q : List D → Option (List D)) (hQ : SoundF env.P 105 S105 Q) : TbOk env (tbl105_4 Q ) := addLoopQ (ok_tbR105 Q hQ) 105 4 (by kernel_rfl) _ (l105_4_eq Q )

noncomputable def Fb105 (Q : List D → Option (List D)) : List D → Option (List D) := liftX env (tbl105_4 Q ) 60 6 105 S105

theorem Fb105_eq (Q : List D → Option (List D))  (sd0 : D) (sn1 : Int) : Fb105 Q  [sd0, (D.int sn1)] =
    bif (qcmp BinOp.leq sn1 0) then
      some [(D.bool Bool.true)]
    else
      bif (qsome (Proofs.YtiojjmlccehpoaaGreat.l105_4 Q [(D.int sn1), sd0] [(D.int 0)])) then
        bif (qcmp BinOp.eql (qint (qnth (Proofs.YtiojjmlccehpoaaGreat.l105_4 Q [(D.int sn1), sd0] [(D.int 0)]) 0)) 0) then
          some [(D.bool Bool.false)]
        else
          some [(D.bool Bool.true)]
      else
        none := by kernel_rfl

noncomputable def F105 : Nat → List D → Option (List D) := levels Fb105

theorem F105_0 (ds : List D) : F105 0 ds = none := rfl

theorem F105_s (n : Nat) : F105 (n + 1) = Fb105 (F105 n) := rfl

noncomputable def q105 : List D → Option (List D) := veil fun ds => F105 (fuelL ds) ds

theorem q105_eq : q105 = fun ds => F105 (fuelL ds) ds := veil_eq _

theorem sound105 : SoundF env.P 105 S105 q105 := recF (fun q => tbl105_4 q) (fun q hq => ok_tbl105_4 q hq) q105_eq

noncomputable def tb105 : Tb := Tb.addF tb86 105 S105 q105

theorem ok_tb105 : TbOk env tb105 := TbOk.addF ok_tb86 (by kernel_rfl) sound105

def S106 : FunS := ⟨[⟨true, (.dat 25)⟩], [], [⟨true, .bool⟩], []⟩

noncomputable def tbR106 (Q : List D → Option (List D)) : Tb := Tb.addF tb105 106 S106 Q

theorem ok_tbR106 (Q : List D → Option (List D)) (hQ : SoundF env.P 106 S106 Q) : TbOk env (tbR106 Q) := TbOk.addF ok_tb105 (by kernel_rfl) hQ

def S106_25 : LoopS := ⟨0, [⟨false, .any⟩, ⟨false, (.ptr 0 0)⟩, ⟨false, (.lit (.bool false))⟩, ⟨false, .any⟩, ⟨false, .any⟩, ⟨true, (.int .i64)⟩, ⟨false, .any⟩, ⟨false, .any⟩, ⟨false, .any⟩, ⟨false, .any⟩, ⟨false, .any⟩, ⟨false, .any⟩, ⟨false, .any⟩, ⟨false, .any⟩, ⟨false, .any⟩, ⟨false, .any⟩, ⟨false, .any⟩, ⟨false, .any⟩, ⟨false, .any⟩, ⟨false, .any⟩, ⟨false, .any⟩, ⟨false, .any⟩, ⟨false, .any⟩, ⟨false, .any⟩, ⟨false, .any⟩, ⟨false, .any⟩, ⟨false, .any⟩, ⟨false, .any⟩, ⟨false, .any⟩, ⟨false, .any⟩, ⟨false, .any⟩, ⟨false, .any⟩, ⟨false, .any⟩, ⟨false, .any⟩, ⟨false, .any⟩, ⟨false, .any⟩, ⟨false, .any⟩, ⟨false, .any⟩, ⟨false, .any⟩, ⟨false, .any⟩, ⟨false, .any⟩, ⟨false, .any⟩, ⟨false, .any⟩, ⟨false, .any⟩, ⟨false, .any⟩, ⟨false, .any⟩, ⟨false, .any⟩, ⟨false, .any⟩, ⟨false, .any⟩, ⟨false, .any⟩, ⟨false, .any⟩, ⟨false, .any⟩, ⟨false, .any⟩, ⟨false, .any⟩, ⟨false, .any⟩, ⟨false, .any⟩, ⟨false, .any⟩, ⟨false, .any⟩, ⟨false, .any⟩, ⟨false, .any⟩, ⟨false, .any⟩, ⟨false, .any⟩, ⟨false, .any⟩, ⟨false, .any⟩, ⟨false, .any⟩, ⟨false, .any⟩, ⟨false, .any⟩, ⟨false, .any⟩, ⟨false, .any⟩, ⟨false, .any⟩, ⟨false, .any⟩, ⟨false, .any⟩, ⟨false, .any⟩, ⟨false, .any⟩, ⟨false, .any⟩, ⟨false, .any⟩, ⟨false, .any⟩, ⟨false, .any⟩, ⟨false, .any⟩, ⟨false, .any⟩, ⟨false, .any⟩, ⟨false, .any⟩, ⟨false, .any⟩, ⟨false, .any⟩, ⟨false, .any⟩, ⟨false, .any⟩, ⟨false, .any⟩, ⟨false, .any⟩, ⟨false, .any⟩, ⟨false, .any⟩, ⟨false, .any⟩, ⟨false, .any⟩, ⟨false, .any⟩, ⟨false, .any⟩, ⟨false, .any⟩, ⟨false, .any⟩, ⟨false, .any⟩, ⟨false, .any⟩, ⟨false, .any⟩, ⟨false, .any⟩, ⟨false, .any⟩, ⟨false, .any⟩, ⟨false, .any⟩, ⟨false, .any⟩, ⟨false, .any⟩, ⟨false, .any⟩, ⟨false, .any⟩, ⟨false, .any⟩, ⟨false, .any⟩, ⟨false, .any⟩, ⟨false, .any⟩, ⟨false, .any⟩, ⟨false, .any⟩, ⟨false, .any⟩, ⟨false, .any⟩, ⟨false, .any⟩, ⟨false, .any⟩, ⟨false, .any⟩, ⟨false, .any⟩, ⟨false, .any⟩, ⟨false, .any⟩, ⟨false, .any⟩, ⟨false, .any⟩], [(.dat false 25)], [⟨0, 1, [⟨true, .any⟩, ⟨true, .any⟩, ⟨true, (.lit (.bool false))⟩, ⟨true, .any⟩, ⟨true, .any⟩, ⟨true, .any⟩, ⟨true, .any⟩, ⟨true, .any⟩, ⟨true, .any⟩, ⟨true, .any⟩, ⟨true, .any⟩, ⟨true, .any⟩, ⟨true, .any⟩, ⟨true, .any⟩, ⟨true, .any⟩, ⟨true, .any⟩, ⟨true, .any⟩, ⟨true, .any⟩, ⟨true, .any⟩, ⟨true, .any⟩, ⟨true, .any⟩, ⟨true, .any⟩, ⟨true, .any⟩, ⟨true, .any⟩, ⟨true, .any⟩, ⟨true, .any⟩, ⟨true, .any⟩, ⟨true, .any⟩, ⟨true, .any⟩, ⟨true, .any⟩, ⟨true, .any⟩, ⟨true, .any⟩, ⟨true, .any⟩, ⟨true, .any⟩, ⟨true, .any⟩, ⟨true, .any⟩, ⟨true, .any⟩, ⟨true, .any⟩, ⟨true, .any⟩, ⟨true, .any⟩, ⟨true, .any⟩, ⟨true, .any⟩, ⟨true, .any⟩, ⟨true, .any⟩, ⟨true, .any⟩, ⟨true, .any⟩, ⟨true, .any⟩, ⟨true, .any⟩, ⟨true, .any⟩, ⟨true, .any⟩, ⟨true, .any⟩, ⟨true, .any⟩, ⟨true, .any⟩, ⟨true, .any⟩, ⟨true, .any⟩, ⟨true, .any⟩, ⟨true, .any⟩, ⟨true, .any⟩, ⟨true, .any⟩, ⟨true, .any⟩, ⟨true, .any⟩, ⟨true, .any⟩, ⟨true, .any⟩, ⟨true, .any⟩, ⟨true, .any⟩, ⟨true, .any⟩, ⟨true, .any⟩, ⟨true, .any⟩, ⟨true, .any⟩, ⟨true, .any⟩, ⟨true, .any⟩, ⟨true, .any⟩, ⟨true, .any⟩, ⟨true, .any⟩, ⟨true, .any⟩, ⟨true, .any⟩, ⟨true, .any⟩, ⟨true, .any⟩, ⟨true, .any⟩, ⟨true, .any⟩, ⟨true, .any⟩, ⟨true, .any⟩, ⟨true, .any⟩, ⟨true, .any⟩, ⟨true, .any⟩, ⟨true, .any⟩, ⟨true, .any⟩, ⟨true, .any⟩, ⟨true, .any⟩, ⟨true, .any⟩, ⟨true, .any⟩, ⟨true, .any⟩, ⟨true, .any⟩, ⟨true, .any⟩, ⟨true, .any⟩, ⟨true, .any⟩, ⟨true, .any⟩, ⟨true, .any⟩, ⟨true, .any⟩, ⟨true, .any⟩, ⟨true, .any⟩, ⟨true, .any⟩, ⟨true, .any⟩, ⟨true, .any⟩, ⟨true, .any⟩, ⟨true, .any⟩, ⟨true, .any⟩, ⟨true, .any⟩, ⟨true, .any⟩, ⟨true, .any⟩, ⟨true, .any⟩, ⟨true, .any⟩, ⟨true, .any⟩, ⟨true, .any⟩, ⟨true, .any⟩, ⟨true, .any⟩, ⟨true, .any⟩, ⟨true, .any⟩, ⟨true, .any⟩, ⟨true, .any⟩, ⟨true, .any⟩, ⟨true, .any⟩, ⟨true, .any⟩], [(.dat false 25)]⟩, ⟨1, 0, [⟨true, .any⟩, ⟨true, .any⟩, ⟨true, (.lit (.bool false))⟩, ⟨true, .any⟩, ⟨true, .any⟩, ⟨true, .any⟩, ⟨true, .any⟩, ⟨true, .any⟩, ⟨true, .any⟩, ⟨true, .any⟩, ⟨true, .any⟩, ⟨true, .any⟩, ⟨true, .any⟩, ⟨true, .any⟩, ⟨true, .any⟩, ⟨true, .any⟩, ⟨true, .any⟩, ⟨true, .any⟩, ⟨true, .any⟩, ⟨true, .any⟩, ⟨true, .any⟩, ⟨true, .any⟩, ⟨true, .any⟩, ⟨true, .any⟩, ⟨true, .any⟩, ⟨true, .any⟩, ⟨true, .any⟩, ⟨true, .any⟩, ⟨true, .any⟩, ⟨true, .any⟩, ⟨true, .any⟩, ⟨true, .any⟩, ⟨true, .any⟩, ⟨true, .any⟩, ⟨true, .any⟩, ⟨true, .any⟩, ⟨true, .any⟩, ⟨true, .any⟩, ⟨true, .any⟩, ⟨true, .any⟩, ⟨true, .any⟩, ⟨true, .any⟩, ⟨true, .any⟩, ⟨true, .any⟩, ⟨true, .any⟩, ⟨true, .any⟩, ⟨true, .any⟩, ⟨true, .any⟩, ⟨true, .any⟩, ⟨true, .any⟩, ⟨true, .any⟩, ⟨true, .any⟩, ⟨true, .any⟩, ⟨true, .any⟩, ⟨true, .any⟩, ⟨true, .any⟩, ⟨true, .any⟩, ⟨true, .any⟩, ⟨true, .any⟩, ⟨true, .any⟩, ⟨true, .any⟩, ⟨true, .any⟩, ⟨true, .any⟩, ⟨true, .any⟩, ⟨true, .any⟩, ⟨true, .any⟩, ⟨true, .any⟩, ⟨true, .any⟩, ⟨true, .any⟩, ⟨true, .any⟩, ⟨true, .any⟩, ⟨true, .any⟩, ⟨true, .any⟩, ⟨true, .any⟩, ⟨true, .any⟩, ⟨true, .any⟩, ⟨true, .any⟩, ⟨true, .any⟩, ⟨true, .any⟩, ⟨true, .any⟩, ⟨true, .any⟩, ⟨true, .any⟩, ⟨true, .any⟩, ⟨true, .any⟩, ⟨true, .any⟩, ⟨true, .any⟩, ⟨true, .any⟩, ⟨true, .any⟩, ⟨true, .any⟩, ⟨true, .any⟩, ⟨true, .any⟩, ⟨true, .any⟩, ⟨true, .any⟩, ⟨true, .any⟩, ⟨true, .any⟩, ⟨true, .any⟩, ⟨true, .any⟩, ⟨true, .any⟩, ⟨true, .any⟩, ⟨true, .any⟩, ⟨true, .any⟩, ⟨true, .any⟩, ⟨true, .any⟩, ⟨true, .any⟩, ⟨true, .any⟩, ⟨true, .any⟩, ⟨true, .any⟩, ⟨true, .any⟩, ⟨true, .any⟩, ⟨true, .any⟩, ⟨true, .any⟩, ⟨true, .any⟩, ⟨true, .any⟩, ⟨true, .any⟩, ⟨true, .any⟩, ⟨true, .any⟩, ⟨true, .any⟩, ⟨true, .any⟩, ⟨true, .any⟩, ⟨true, .any⟩, ⟨true, .any⟩, ⟨true, .any⟩, ⟨true, .any⟩], [(.dat false 25)]⟩]⟩

noncomputable def st106_25 (Q : List D → Option (List D)) (p s : List D) : Option (Sum (List D) (List D)) := stepQX env (tbR106 Q ) 60 6 106 (loopC 106 25) S106_25 p s

theorem st106_25_eq (Q : List D → Option (List D)) (pd0 : D) (sn0 : Int) : st106_25 Q  [pd0] [(D.int sn0)] =
    bif (qcmp BinOp.lss sn0 (qlen (qfld pd0 4))) then
      bif (qinb (qfld pd0 4) sn0) then
        bif (qsome (Q [(qget (qfld pd0 4) sn0)])) then
          bif (qnot (qbool (qnth (Q [(qget (qfld pd0 4) sn0)]) 0))) then
            some (Sum.inr [(D.int 1)])
          else
            some (Sum.inl [(D.int (qbin BinOp.add IntKind.i64 sn0 1))])
        else
          none
      else
        none
    else
      some (Sum.inr [(D.int 0)]) := by
  have h : st106_25 Q  [pd0] [(D.int sn0)] =
    bif (qcmp BinOp.lss sn0 (qlen (qfld pd0 4))) then
      bif (qinb (qfld pd0 4) sn0) then
        bif (qsome (Q [(qget (qfld pd0 4) sn0)])) then
          bif (qnot (qbool (qnth (Q [(qget (qfld pd0 4) sn0)]) 0))) then
            bif (qeqD pd0 pd0) then
              some (Sum.inr [(D.int 1)])
            else
              none
          else
            bif (qeqD pd0 pd0) then
              some (Sum.inl [(D.int (qbin BinOp.add IntKind.i64 sn0 1))])
            else
              none
        else
          none
      else
        none
    else
      bif (qeqD pd0 pd0) then
        some (Sum.inr [(D.int 0)])
      else
        none := by kernel_rfl
  rw [h]; simp only [qeqD_self, qeqI_self, qeq_len, show qcmp BinOp.eql 0 (qlen (D.list [])) = true from qeq_len [], show ∀ a, qcmp BinOp.eql 1 (qlen (D.list [a])) = true from fun a => qeq_len [a], show ∀ a b, qcmp BinOp.eql 2 (qlen (D.list [a, b])) = true from fun a b => qeq_len [a, b], cond_true]

noncomputable def l106_25 (Q : List D → Option (List D)) : List D → List D → Option (List D) := veil fun p s => loW (st106_25 Q  p) s

theorem l106_25_eq (Q : List D → Option (List D)) : l106_25 Q  = fun p s => loW (st106_25 Q  p) s := veil_eq _

noncomputable def tbl106_25 (Q : List D → Option (List D)) : Tb := Tb.addL (tbR106 Q ) 106 25 S106_25.n0 (mkLp S106_25 (l106_25 Q ))

theorem ok_tbl106_25 (Q : List D → Option (List D)) (hQ : SoundF env.P 106 S106 Q) : TbOk env (tbl106_25 Q ) := addLoopQ (ok_tbR106 Q hQ) 106 25 (by kernel_rfl) _ (l106_25_eq Q )

noncomputable def Fb106 (Q : List D → Option (List D)) : List D → Option (List D) := liftX env (tbl106_25 Q ) 60 6 106 S106

theorem Fb106_eq (Q : List D → Option (List D))  (sd0 : D) : Fb106 Q  [sd0] =
    bif (qcmp BinOp.eql (qint (qfld sd0 0)) 1) then
      bif (qcmpS BinOp.neq (qstr (qfld sd0 2)) (ByteArray.mk #[])) then
        some [(D.bool Bool.false)]
      else
        bif (qiteB (qcmp BinOp.neq (qlen (qfld sd0 4)) 0) Bool.true (qiteB (qiteB (qcmp BinOp.neq (qint (qfld sd0 3)) 0) Bool.true (qcmp BinOp.eql (qint (qfld sd0 0)) 18)) Bool.true (qcmp BinOp.eql (qint (qfld sd0 0)) 19))) then
          some [(D.bool Bool.false)]
        else
          bif (qsome (Proofs.YtiojjmlccehpoaaGreat.l106_25 Q [sd0] [(D.int 0)])) then
            bif (qcmp BinOp.eql (qint (qnth (Proofs.YtiojjmlccehpoaaGreat.l106_25 Q [sd0] [(D.int 0)]) 0)) 0) then
              some [(D.bool Bool.true)]
            else
              some [(D.bool Bool.false)]
          else
            none
    else
      bif (qcmp BinOp.eql (qint (qfld sd0 0)) 2) then
        bif (qsome (Proofs.YtiojjmlccehpoaaGreat.q164 [(D.str (qstr (qfld sd0 2)))])) then
          bif (qiteB (qnot (qbool (qnth (Proofs.YtiojjmlccehpoaaGreat.q164 [(D.str (qstr (qfld sd0 2)))]) 0))) Bool.true (qcmp BinOp.neq (qint (qfld sd0 1)) 0)) then
            some [(D.bool Bool.false)]
          else
            bif (qiteB (qcmp BinOp.neq (qlen (qfld sd0 4)) 0) Bool.true (qiteB (qiteB (qcmp BinOp.neq (qint (qfld sd0 3)) 0) Bool.true (qcmp BinOp.eql (qint (qfld sd0 0)) 18)) Bool.true (qcmp BinOp.eql (qint (qfld sd0 0)) 19))) then
              some [(D.bool Bool.false)]
            else
              bif (qsome (Proofs.YtiojjmlccehpoaaGreat.l106_25 Q [sd0] [(D.int 0)])) then
                bif (qcmp BinOp.eql (qint (qnth (Proofs.YtiojjmlccehpoaaGreat.l106_25 Q [sd0] [(D.int 0)]) 0)) 0) then
                  some [(D.bool Bool.true)]
                else
                  some [(D.bool Bool.false)]
              else
                none
        else
          none
      else
        bif (qiteB (qcmp BinOp.geq (qint (qfld sd0 0)) 3) (qcmp BinOp.leq (qint (qfld sd0 0)) 15) Bool.false) then
          bif (qiteB (qcmp BinOp.neq (qlen (qfld sd0 4)) 2) Bool.true (qiteB (qiteB (qcmp BinOp.neq (qint (qfld sd0 3)) 0) Bool.true (qcmp BinOp.eql (qint (qfld sd0 0)) 18)) Bool.true (qcmp BinOp.eql (qint (qfld sd0 0)) 19))) then
            some [(D.bool Bool.false)]
          else
            bif (qiteB (qcmp BinOp.neq (qint (qfld sd0 1)) 0) Bool.true (qcmpS BinOp.neq (qstr (qfld sd0 2)) (ByteArray.mk #[]))) then
              some [(D.bool Bool.false)]
            else
              bif (qsome (Proofs.YtiojjmlccehpoaaGreat.l106_25 Q [sd0] [(D.int 0)])) then
                bif (qcmp BinOp.eql (qint (qnth (Proofs.YtiojjmlccehpoaaGreat.l106_25 Q [sd0] [(D.int 0)]) 0)) 0) then
                  some [(D.bool Bool.true)]
                else
                  some [(D.bool Bool.false)]
              else
                none
        else
          bif (qiteB (qcmp BinOp.eql (qint (qfld sd0 0)) 16) Bool.true (qcmp BinOp.eql (qint (qfld sd0 0)) 17)) then
            bif (qiteB (qcmp BinOp.neq (qlen (qfld sd0 4)) 1) Bool.true (qiteB (qiteB (qcmp BinOp.neq (qint (qfld sd0 3)) 0) Bool.true (qcmp BinOp.eql (qint (qfld sd0 0)) 18)) Bool.true (qcmp BinOp.eql (qint (qfld sd0 0)) 19))) then
              some [(D.bool Bool.false)]
            else
              bif (qiteB (qcmp BinOp.neq (qint (qfld sd0 1)) 0) Bool.true (qcmpS BinOp.neq (qstr (qfld sd0 2)) (ByteArray.mk #[]))) then
                some [(D.bool Bool.false)]
              else
                bif (qsome (Proofs.YtiojjmlccehpoaaGreat.l106_25 Q [sd0] [(D.int 0)])) then
                  bif (qcmp BinOp.eql (qint (qnth (Proofs.YtiojjmlccehpoaaGreat.l106_25 Q [sd0] [(D.int 0)]) 0)) 0) then
                    some [(D.bool Bool.true)]
                  else
                    some [(D.bool Bool.false)]
                else
                  none
          else
            bif (qcmp BinOp.eql (qint (qfld sd0 0)) 18) then
              bif (qcmp BinOp.eql (qint (qfld sd0 3)) 1) then
                bif (qiteB (qcmp BinOp.neq (qlen (qfld sd0 4)) 1) Bool.true Bool.false) then
                  some [(D.bool Bool.false)]
                else
                  bif (qiteB (qcmp BinOp.neq (qint (qfld sd0 1)) 0) Bool.true (qcmpS BinOp.neq (qstr (qfld sd0 2)) (ByteArray.mk #[]))) then
                    some [(D.bool Bool.false)]
                  else
                    bif (qsome (Proofs.YtiojjmlccehpoaaGreat.l106_25 Q [sd0] [(D.int 0)])) then
                      bif (qcmp BinOp.eql (qint (qnth (Proofs.YtiojjmlccehpoaaGreat.l106_25 Q [sd0] [(D.int 0)]) 0)) 0) then
                        some [(D.bool Bool.true)]
                      else
                        some [(D.bool Bool.false)]
                    else
                      none
              else
                bif (qcmp BinOp.eql (qint (qfld sd0 3)) 2) then
                  bif (qiteB (qcmp BinOp.neq (qlen (qfld sd0 4)) 1) Bool.true Bool.false) then
                    some [(D.bool Bool.false)]
                  else
                    bif (qiteB (qcmp BinOp.neq (qint (qfld sd0 1)) 0) Bool.true (qcmpS BinOp.neq (qstr (qfld sd0 2)) (ByteArray.mk #[]))) then
                      some [(D.bool Bool.false)]
                    else
                      bif (qsome (Proofs.YtiojjmlccehpoaaGreat.l106_25 Q [sd0] [(D.int 0)])) then
                        bif (qcmp BinOp.eql (qint (qnth (Proofs.YtiojjmlccehpoaaGreat.l106_25 Q [sd0] [(D.int 0)]) 0)) 0) then
                          some [(D.bool Bool.true)]
                        else
                          some [(D.bool Bool.false)]
                      else
                        none
                else
                  bif (qiteB (qcmp BinOp.neq (qlen (qfld sd0 4)) 1) Bool.true (qiteB (qnot (qcmp BinOp.eql (qint (qfld sd0 3)) 4)) (qiteB (qiteB (qcmp BinOp.neq (qint (qfld sd0 3)) 0) Bool.true (qcmp BinOp.eql (qint (qfld sd0 0)) 18)) Bool.true (qcmp BinOp.eql (qint (qfld sd0 0)) 19)) Bool.false)) then
                    some [(D.bool Bool.false)]
                  else
                    bif (qiteB (qcmp BinOp.neq (qint (qfld sd0 1)) 0) Bool.true (qcmpS BinOp.neq (qstr (qfld sd0 2)) (ByteArray.mk #[]))) then
                      some [(D.bool Bool.false)]
                    else
                      bif (qsome (Proofs.YtiojjmlccehpoaaGreat.l106_25 Q [sd0] [(D.int 0)])) then
                        bif (qcmp BinOp.eql (qint (qnth (Proofs.YtiojjmlccehpoaaGreat.l106_25 Q [sd0] [(D.int 0)]) 0)) 0) then
                          some [(D.bool Bool.true)]
                        else
                          some [(D.bool Bool.false)]
                      else
                        none
            else
              bif (qcmp BinOp.eql (qint (qfld sd0 0)) 19) then
                bif (qcmp BinOp.eql (qint (qfld sd0 3)) 1) then
                  bif (qiteB (qcmp BinOp.neq (qlen (qfld sd0 4)) 1) Bool.true Bool.false) then
                    some [(D.bool Bool.false)]
                  else
                    bif (qiteB (qcmp BinOp.neq (qint (qfld sd0 1)) 0) Bool.true (qcmpS BinOp.neq (qstr (qfld sd0 2)) (ByteArray.mk #[]))) then
                      some [(D.bool Bool.false)]
                    else
                      bif (qsome (Proofs.YtiojjmlccehpoaaGreat.l106_25 Q [sd0] [(D.int 0)])) then
                        bif (qcmp BinOp.eql (qint (qnth (Proofs.YtiojjmlccehpoaaGreat.l106_25 Q [sd0] [(D.int 0)]) 0)) 0) then
                          some [(D.bool Bool.true)]
                        else
                          some [(D.bool Bool.false)]
                      else
                        none
                else
                  bif (qiteB (qcmp BinOp.neq (qlen (qfld sd0 4)) 1) Bool.true (qiteB (qnot (qcmp BinOp.eql (qint (qfld sd0 3)) 2)) (qiteB (qiteB (qcmp BinOp.neq (qint (qfld sd0 3)) 0) Bool.true (qcmp BinOp.eql (qint (qfld sd0 0)) 18)) Bool.true (qcmp BinOp.eql (qint (qfld sd0 0)) 19)) Bool.false)) then
                    some [(D.bool Bool.false)]
                  else
                    bif (qiteB (qcmp BinOp.neq (qint (qfld sd0 1)) 0) Bool.true (qcmpS BinOp.neq (qstr (qfld sd0 2)) (ByteArray.mk #[]))) then
                      some [(D.bool Bool.false)]
                    else
                      bif (qsome (Proofs.YtiojjmlccehpoaaGreat.l106_25 Q [sd0] [(D.int 0)])) then
                        bif (qcmp BinOp.eql (qint (qnth (Proofs.YtiojjmlccehpoaaGreat.l106_25 Q [sd0] [(D.int 0)]) 0)) 0) then
                          some [(D.bool Bool.true)]
                        else
                          some [(D.bool Bool.false)]
                      else
                        none
              else
                some [(D.bool Bool.false)] := by kernel_rfl

noncomputable def F106 : Nat → List D → Option (List D) := levels Fb106

theorem F106_0 (ds : List D) : F106 0 ds = none := rfl

theorem F106_s (n : Nat) : F106 (n + 1) = Fb106 (F106 n) := rfl

noncomputable def q106 : List D → Option (List D) := veil fun ds => F106 (fuelL ds) ds

theorem q106_eq : q106 = fun ds => F106 (fuelL ds) ds := veil_eq _

theorem sound106 : SoundF env.P 106 S106 q106 := recF (fun q => tbl106_25 q) (fun q hq => ok_tbl106_25 q hq) q106_eq

noncomputable def tb106 : Tb := Tb.addF tb105 106 S106 q106

theorem ok_tb106 : TbOk env tb106 := TbOk.addF ok_tb105 (by kernel_rfl) sound106

def S107 : FunS := ⟨[⟨true, (.dat 25)⟩, ⟨true, (.rows 65)⟩], [], [⟨true, .bool⟩], []⟩

noncomputable def tbR107 (Q : List D → Option (List D)) : Tb := Tb.addF tb106 107 S107 Q

theorem ok_tbR107 (Q : List D → Option (List D)) (hQ : SoundF env.P 107 S107 Q) : TbOk env (tbR107 Q) := TbOk.addF ok_tb106 (by kernel_rfl) hQ

def S107_4 : LoopS := ⟨0, [⟨false, .any⟩, ⟨false, (.rows 65)⟩, ⟨false, (.ptr 0 0)⟩, ⟨false, .any⟩, ⟨false, (.lit (.bool false))⟩, ⟨true, (.int .i64)⟩, ⟨false, .any⟩, ⟨false, .any⟩, ⟨false, .any⟩, ⟨false, .any⟩, ⟨false, .any⟩, ⟨false, .any⟩, ⟨false, .any⟩, ⟨false, .any⟩, ⟨false, .any⟩, ⟨false, .any⟩, ⟨false, .any⟩, ⟨false, .any⟩, ⟨false, .any⟩, ⟨false, .any⟩, ⟨false, .any⟩, ⟨false, .any⟩, ⟨false, .any⟩, ⟨false, .any⟩, ⟨false, .any⟩, ⟨false, .any⟩, ⟨false, .any⟩, ⟨false, .any⟩], [(.dat false 25)], [⟨0, 0, [⟨true, .any⟩, ⟨false, (.rows 65)⟩, ⟨true, .any⟩, ⟨true, .any⟩, ⟨true, (.lit (.bool false))⟩, ⟨true, .any⟩, ⟨true, .any⟩, ⟨true, .any⟩, ⟨true, .any⟩, ⟨true, .any⟩, ⟨true, .any⟩, ⟨true, .any⟩, ⟨true, .any⟩, ⟨true, .any⟩, ⟨true, .any⟩, ⟨true, .any⟩, ⟨true, .any⟩, ⟨true, .any⟩, ⟨true, .any⟩, ⟨true, .any⟩, ⟨true, .any⟩, ⟨true, .any⟩, ⟨true, .any⟩, ⟨true, .any⟩, ⟨true, .any⟩, ⟨true, .any⟩, ⟨true, .any⟩, ⟨true, .any⟩], [(.dat false 25)]⟩, ⟨1, 0, [⟨true, .any⟩, ⟨false, (.rows 65)⟩, ⟨true, .any⟩, ⟨true, .any⟩, ⟨true, (.lit (.bool false))⟩, ⟨true, .any⟩, ⟨true, .any⟩, ⟨true, .any⟩, ⟨true, .any⟩, ⟨true, .any⟩, ⟨true, .any⟩, ⟨true, .any⟩, ⟨true, .any⟩, ⟨true, .any⟩, ⟨true, .any⟩, ⟨true, .any⟩, ⟨true, .any⟩, ⟨true, .any⟩, ⟨true, .any⟩, ⟨true, .any⟩, ⟨true, .any⟩, ⟨true, .any⟩, ⟨true, .any⟩, ⟨true, .any⟩, ⟨true, .any⟩, ⟨true, .any⟩, ⟨true, .any⟩, ⟨true, .any⟩], [(.dat false 25)]⟩]⟩

noncomputable def st107_4 (Q : List D → Option (List D)) (p s : List D) : Option (Sum (List D) (List D)) := stepQX env (tbR107 Q ) 60 6 107 (loopC 107 4) S107_4 p s

theorem st107_4_eq (Q : List D → Option (List D)) (pd0 : D) (pd1 : D) (sn0 : Int) : st107_4 Q  [pd0, pd1] [(D.int sn0)] =
    bif (qcmp BinOp.lss sn0 (qlen (qfld pd1 4))) then
      bif (qinb (qfld pd1 4) sn0) then
        bif (qsome (Q [(qget (qfld pd1 4) sn0), pd0])) then
          bif (qnot (qbool (qnth (Q [(qget (qfld pd1 4) sn0), pd0]) 0))) then
            some (Sum.inr [(D.int 1)])
          else
            some (Sum.inl [(D.int (qbin BinOp.add IntKind.i64 sn0 1))])
        else
          none
      else
        none
    else
      some (Sum.inr [(D.int 0)]) := by
  have h : st107_4 Q  [pd0, pd1] [(D.int sn0)] =
    bif (qcmp BinOp.lss sn0 (qlen (qfld pd1 4))) then
      bif (qinb (qfld pd1 4) sn0) then
        bif (qsome (Q [(qget (qfld pd1 4) sn0), pd0])) then
          bif (qnot (qbool (qnth (Q [(qget (qfld pd1 4) sn0), pd0]) 0))) then
            bif (qeqD pd0 pd0) then
              bif (qeqD pd1 pd1) then
                some (Sum.inr [(D.int 1)])
              else
                none
            else
              none
          else
            bif (qeqD pd0 pd0) then
              bif (qeqD pd1 pd1) then
                some (Sum.inl [(D.int (qbin BinOp.add IntKind.i64 sn0 1))])
              else
                none
            else
              none
        else
          none
      else
        none
    else
      bif (qeqD pd0 pd0) then
        bif (qeqD pd1 pd1) then
          some (Sum.inr [(D.int 0)])
        else
          none
      else
        none := by kernel_rfl
  rw [h]; simp only [qeqD_self, qeqI_self, qeq_len, show qcmp BinOp.eql 0 (qlen (D.list [])) = true from qeq_len [], show ∀ a, qcmp BinOp.eql 1 (qlen (D.list [a])) = true from fun a => qeq_len [a], show ∀ a b, qcmp BinOp.eql 2 (qlen (D.list [a, b])) = true from fun a b => qeq_len [a, b], cond_true]

noncomputable def l107_4 (Q : List D → Option (List D)) : List D → List D → Option (List D) := veil fun p s => loW (st107_4 Q  p) s

theorem l107_4_eq (Q : List D → Option (List D)) : l107_4 Q  = fun p s => loW (st107_4 Q  p) s := veil_eq _

noncomputable def tbl107_4 (Q : List D → Option (List D)) : Tb := Tb.addL (tbR107 Q ) 107 4 S107_4.n0 (mkLp S107_4 (l107_4 Q ))

theorem ok_tbl107_4 (Q : List D → Option (List D)) (hQ : SoundF env.P 107 S107 Q) : TbOk env (tbl107_4 Q ) := addLoopQ (ok_tbR107 Q hQ) 107 4 (by kernel_rfl) _ (l107_4_eq Q )

noncomputable def Fb107 (Q : List D → Option (List D)) : List D → Option (List D) := liftX env (tbl107_4 Q ) 60 6 107 S107

theorem Fb107_eq (Q : List D → Option (List D))  (sd0 : D) (sd1 : D) : Fb107 Q  [sd0, sd1] =
    bif (qcmp BinOp.eql (qint (qfld sd0 0)) 2) then
      bif (qsome (Proofs.YtiojjmlccehpoaaGreat.q165 [sd1, (D.str (qstr (qfld sd0 2)))])) then
        some [(D.bool (qbool (qnth (Proofs.YtiojjmlccehpoaaGreat.q165 [sd1, (D.str (qstr (qfld sd0 2)))]) 0)))]
      else
        none
    else
      bif (qsome (Proofs.YtiojjmlccehpoaaGreat.l107_4 Q [sd1, sd0] [(D.int 0)])) then
        bif (qcmp BinOp.eql (qint (qnth (Proofs.YtiojjmlccehpoaaGreat.l107_4 Q [sd1, sd0] [(D.int 0)]) 0)) 0) then
          some [(D.bool Bool.true)]
        else
          some [(D.bool Bool.false)]
      else
        none := by kernel_rfl

noncomputable def F107 : Nat → List D → Option (List D) := levels Fb107

theorem F107_0 (ds : List D) : F107 0 ds = none := rfl

theorem F107_s (n : Nat) : F107 (n + 1) = Fb107 (F107 n) := rfl

noncomputable def q107 : List D → Option (List D) := veil fun ds => F107 (fuelL ds) ds

theorem q107_eq : q107 = fun ds => F107 (fuelL ds) ds := veil_eq _

theorem sound107 : SoundF env.P 107 S107 q107 := recF (fun q => tbl107_4 q) (fun q hq => ok_tbl107_4 q hq) q107_eq

noncomputable def tb107 : Tb := Tb.addF tb106 107 S107 q107

theorem ok_tb107 : TbOk env tb107 := TbOk.addF ok_tb106 (by kernel_rfl) sound107

end Go.Proofs.YtiojjmlccehpoaaGreat

open Go Go.AM
namespace Go.Proofs.YtiojjmlccehpoaaGreat
set_option maxRecDepth 100000
set_option linter.unusedSimpArgs false
set_option linter.unusedVariables false
/- function 116  -/

def S116_2 : LoopS := ⟨0, [⟨false, (.rows 9)⟩, ⟨false, .str⟩, ⟨false, .any⟩, ⟨false, .any⟩, ⟨false, (.lit (.int .i64 0))⟩, ⟨false, .any⟩, ⟨false, .any⟩, ⟨false, (.int .i64)⟩, ⟨true, (.int .i64)⟩, ⟨false, .any⟩, ⟨false, .any⟩, ⟨false, .any⟩, ⟨false, .any⟩, ⟨false, .any⟩, ⟨false, .any⟩, ⟨false, .any⟩, ⟨false, .any⟩, ⟨false, .any⟩, ⟨false, .any⟩], [], [⟨0, 0, [⟨false, (.rows 9)⟩, ⟨false, .str⟩, ⟨true, .any⟩, ⟨true, .any⟩, ⟨true, (.lit (.int .i64 0))⟩, ⟨true, .any⟩, ⟨true, .any⟩, ⟨false, (.int .i64)⟩, ⟨true, .any⟩, ⟨true, .any⟩, ⟨true, .any⟩, ⟨true, .any⟩, ⟨true, .any⟩, ⟨true, .any⟩, ⟨true, .any⟩, ⟨true, .any⟩, ⟨true, .any⟩, ⟨true, .any⟩, ⟨true, .any⟩], []⟩, ⟨1, 0, [⟨false, (.rows 9)⟩, ⟨false, .str⟩, ⟨true, .any⟩, ⟨true, .any⟩, ⟨true, (.int .i64)⟩, ⟨true, .any⟩, ⟨true, .any⟩, ⟨false, (.int .i64)⟩, ⟨true, .any⟩, ⟨true, .any⟩, ⟨true, .any⟩, ⟨true, .any⟩, ⟨true, .any⟩, ⟨true, .any⟩, ⟨true, .any⟩, ⟨true, .any⟩, ⟨true, .any⟩, ⟨true, .any⟩, ⟨true, .any⟩], []⟩]⟩

noncomputable def st116_2 (p s : List D) : Option (Sum (List D) (List D)) := stepQX env tb107 60 6 116 (loopC 116 2) S116_2 p s

theorem st116_2_eq (pd0 : D) (ps1 : ByteArray) (pn2 : Int) (sn0 : Int) : st116_2  [pd0, (D.str ps1), (D.int pn2)] [(D.int sn0)] =
    bif (qcmp BinOp.lss sn0 pn2) then
      bif (qinb pd0 sn0) then
        bif (qcmpS BinOp.eql ps1 (qstr (qget pd0 sn0))) then
          some (Sum.inr [(D.int 1), (D.int sn0)])
        else
          some (Sum.inl [(D.int (qbin BinOp.add IntKind.i64 sn0 1))])
      else
        none
    else
      some (Sum.inr [(D.int 0)]) := by
  have h : st116_2  [pd0, (D.str ps1), (D.int pn2)] [(D.int sn0)] =
    bif (qcmp BinOp.lss sn0 pn2) then
      bif (qinb pd0 sn0) then
        bif (qcmpS BinOp.eql ps1 (qstr (qget pd0 sn0))) then
          bif (qeqD pd0 pd0) then
            bif (qeqD (D.str ps1) (D.str ps1)) then
              bif (qeqD (D.int pn2) (D.int pn2)) then
                some (Sum.inr [(D.int 1), (D.int sn0)])
              else
                none
            else
              none
          else
            none
        else
          bif (qeqD pd0 pd0) then
            bif (qeqD (D.str ps1) (D.str ps1)) then
              bif (qeqD (D.int pn2) (D.int pn2)) then
                some (Sum.inl [(D.int (qbin BinOp.add IntKind.i64 sn0 1))])
              else
                none
            else
              none
          else
            none
      else
        none
    else
      bif (qeqD pd0 pd0) then
        bif (qeqD (D.str ps1) (D.str ps1)) then
          bif (qeqD (D.int pn2) (D.int pn2)) then
            some (Sum.inr [(D.int 0)])
          else
            none
        else
          none
      else
        none := by kernel_rfl
  rw [h]; simp only [qeqD_self, qeqI_self, qeq_len, show qcmp BinOp.eql 0 (qlen (D.list [])) = true from qeq_len [], show ∀ a, qcmp BinOp.eql 1 (qlen (D.list [a])) = true from fun a => qeq_len [a], show ∀ a b, qcmp BinOp.eql 2 (qlen (D.list [a, b])) = true from fun a b => qeq_len [a, b], cond_true]

noncomputable def l116_2 : List D → List D → Option (List D) := veil fun p s => loW (st116_2  p) s

theorem l116_2_eq : l116_2  = fun p s => loW (st116_2  p) s := veil_eq _

noncomputable def tbl116_2 : Tb := Tb.addL tb107 116 2 S116_2.n0 (mkLp S116_2 (l116_2 ))

theorem ok_tbl116_2 : TbOk env (tbl116_2 ) := addLoopQ ok_tb107 116 2 (by kernel_rfl) _ (l116_2_eq )

def S116 : FunS := ⟨[⟨true, (.rows 9)⟩, ⟨true, .str⟩], [], [⟨true, (.int .i64)⟩], []⟩

noncomputable def F116 : List D → Option (List D) := liftX env tbl116_2 60 6 116 S116

theorem F116_eq  (sd0 : D) (ss1 : ByteArray) : F116  [sd0, (D.str ss1)] =
    bif (qsome (Proofs.YtiojjmlccehpoaaGreat.l116_2 [sd0, (D.str ss1), (D.int (qlen sd0))] [(D.int 0)])) then
      bif (qcmp BinOp.eql (qint (qnth (Proofs.YtiojjmlccehpoaaGreat.l116_2 [sd0, (D.str ss1), (D.int (qlen sd0))] [(D.int 0)]) 0)) 0) then
        some [(D.int (-1))]
      else
        some [(D.int (qint (qnth (Proofs.YtiojjmlccehpoaaGreat.l116_2 [sd0, (D.str ss1), (D.int (qlen sd0))] [(D.int 0)]) 1)))]
    else
      none := by kernel_rfl

noncomputable def q116 : List D → Option (List D) := veil (F116 )

theorem q116_eq : q116  = F116  := veil_eq _

noncomputable def tb116 : Tb := Tb.addF tbl116_2 116 S116 (q116 )

theorem ok_tb116 : TbOk env (tb116 ) := addFunF ok_tbl116_2 116 (by kernel_rfl) _ (q116_eq )

/- function 122  -/

def S122_2 : LoopS := ⟨0, [⟨false, (.rows 9)⟩, ⟨false, .str⟩, ⟨false, .any⟩, ⟨false, .any⟩, ⟨false, (.lit (.int .i64 0))⟩, ⟨true, (.int .i64)⟩, ⟨false, .any⟩, ⟨false, .any⟩, ⟨false, .any⟩, ⟨false, .any⟩, ⟨false, .any⟩, ⟨false, .any⟩, ⟨false, .any⟩, ⟨false, .any⟩, ⟨false, .any⟩, ⟨false, .any⟩, ⟨false, .any⟩, ⟨false, .any⟩, ⟨false, .any⟩], [], [⟨0, 0, [⟨false, (.rows 9)⟩, ⟨false, .str⟩, ⟨true, .any⟩, ⟨true, .any⟩, ⟨true, (.lit (.int .i64 0))⟩, ⟨true, .any⟩, ⟨true, .any⟩, ⟨true, .any⟩, ⟨true, .any⟩, ⟨true, .any⟩, ⟨true, .any⟩, ⟨true, .any⟩, ⟨true, .any⟩, ⟨true, .any⟩, ⟨true, .any⟩, ⟨true, .any⟩, ⟨true, .any⟩, ⟨true, .any⟩, ⟨true, .any⟩], []⟩, ⟨1, 0, [⟨false, (.rows 9)⟩, ⟨false, .str⟩, ⟨true, .any⟩, ⟨true, .any⟩, ⟨true, (.int .i64)⟩, ⟨true, .any⟩, ⟨true, .any⟩, ⟨true, .any⟩, ⟨true, .any⟩, ⟨true, .any⟩, ⟨true, .any⟩, ⟨true, .any⟩, ⟨true, .any⟩, ⟨true, .any⟩, ⟨true, .any⟩, ⟨true, .any⟩, ⟨true, .any⟩, ⟨true, .any⟩, ⟨true, .any⟩], []⟩]⟩

noncomputable def st122_2 (p s : List D) : Option (Sum (List D) (List D)) := stepQX env tb116 60 6 122 (loopC 122 2) S122_2 p s

theorem st122_2_eq (pd0 : D) (ps1 : ByteArray) (sn0 : Int) : st122_2  [pd0, (D.str ps1)] [(D.int sn0)] =
    bif (qcmp BinOp.lss sn0 (qlen pd0)) then
      bif (qinb pd0 sn0) then
        bif (qcmpS BinOp.eql (qstr (qget pd0 sn0)) ps1) then
          some (Sum.inr [(D.int 1), (D.int sn0)])
        else
          some (Sum.inl [(D.int (qbin BinOp.add IntKind.i64 sn0 1))])
      else
        none
    else
      some (Sum.inr [(D.int 0)]) := by
  have h : st122_2  [pd0, (D.str ps1)] [(D.int sn0)] =
    bif (qcmp BinOp.lss sn0 (qlen pd0)) then
      bif (qinb pd0 sn0) then
        bif (qcmpS BinOp.eql (qstr (qget pd0 sn0)) ps1) then
          bif (qeqD pd0 pd0) then
            bif (qeqD (D.str ps1) (D.str ps1)) then
              some (Sum.inr [(D.int 1), (D.int sn0)])
            else
              none
          else
            none
        else
          bif (qeqD pd0 pd0) then
            bif (qeqD (D.str ps1) (D.str ps1)) then
              some (Sum.inl [(D.int (qbin BinOp.add IntKind.i64 sn0 1))])
            else
              none
          else
            none
      else
        none
    else
      bif (qeqD pd0 pd0) then
        bif (qeqD (D.str ps1) (D.str ps1)) then
          some (Sum.inr [(D.int 0)])
        else
          none
      else
        none := by kernel_rfl
  rw [h]; simp only [qeqD_self, qeqI_self, qeq_len, show qcmp BinOp.eql 0 (qlen (D.list [])) = true from qeq_len [], show ∀ a, qcmp BinOp.eql 1 (qlen (D.list [a])) = true from fun a => qeq_len [a], show ∀ a b, qcmp BinOp.eql 2 (qlen (D.list [a, b])) = true from fun a b => qeq_len [a, b], cond_true]

noncomputable def l122_2 : List D → List D → Option (List D) := veil fun p s => loW (st122_2  p) s

theorem l122_2_eq : l122_2  = fun p s => loW (st122_2  p) s := veil_eq _

noncomputable def tbl122_2 : Tb := Tb.addL tb116 122 2 S122_2.n0 (mkLp S122_2 (l122_2 ))

theorem ok_tbl122_2 : TbOk env (tbl122_2 ) := addLoopQ ok_tb116 122 2 (by kernel_rfl) _ (l122_2_eq )

def S122 : FunS := ⟨[⟨true, (.rows 9)⟩, ⟨true, .str⟩], [], [⟨true, (.int .i64)⟩], []⟩

noncomputable def F122 : List D → Option (List D) := liftX env tbl122_2 60 6 122 S122

theorem F122_eq  (sd0 : D) (ss1 : ByteArray) : F122  [sd0, (D.str ss1)] =
    bif (qsome (Proofs.YtiojjmlccehpoaaGreat.l122_2 [sd0, (D.str ss1)] [(D.int 0)])) then
      bif (qcmp BinOp.eql (qint (qnth (Proofs.YtiojjmlccehpoaaGreat.l122_2 [sd0, (D.str ss1)] [(D.int 0)]) 0)) 0) then
        some [(D.int (-1))]
      else
        some [(D.int (qint (qnth (Proofs.YtiojjmlccehpoaaGreat.l122_2 [sd0, (D.str ss1)] [(D.int 0)]) 1)))]
    else
      none := by kernel_rfl

noncomputable def q122 : List D → Option (List D) := veil (F122 )

theorem q122_eq : q122  = F122  := veil_eq _

noncomputable def tb122 : Tb := Tb.addF tbl122_2 122 S122 (q122 )

theorem ok_tb122 : TbOk env (tb122 ) := addFunF ok_tbl122_2 122 (by kernel_rfl) _ (q122_eq )

/- function 115  -/

def S115 : FunS := ⟨[⟨true, (.ptr 0 1)⟩, ⟨true, (.rows 106)⟩], [(.lst true 106), (.lst false 46), (.cells [⟨false, (.osl 1 46)⟩, ⟨false, (.osl 2 106)⟩, ⟨false, .any⟩, ⟨false, .any⟩, ⟨false, .any⟩, ⟨false, (.rows 9)⟩, ⟨false, .any⟩, ⟨false, (.int .u32)⟩, ⟨false, .any⟩, ⟨false, .any⟩, ⟨false, .any⟩])], [⟨true, (.tup [])⟩], [(.lst true 106), .skip, (.lst false 46), (.cells [⟨true, (.osl 1 46)⟩, ⟨true, (.osl 3 106)⟩, ⟨true, .any⟩, ⟨true, .any⟩, ⟨true, .any⟩, ⟨false, (.rows 9)⟩, ⟨true, .any⟩, ⟨false, (.int .u32)⟩, ⟨true, .any⟩, ⟨true, .any⟩, ⟨true, .any⟩])]⟩

noncomputable def F115 : List D → Option (List D) := liftX env tb122 60 6 115 S115

theorem F115_eq (pd0 : D) (pd1 : D) (pn2 : Int) (sd0 : D) (sd1 : D) : F115  [pd0, pd1, (D.int pn2), sd0, sd1] =
    bif (qmem (qlen (qapp sd1 sd0)) 8) then
      some [(qapp sd1 sd0)]
    else
      none := by
  have h : F115  [pd0, pd1, (D.int pn2), sd0, sd1] =
    bif (qcmp BinOp.eql (qlen sd1) (qlen sd1)) then
      bif (qmem (qlen (qapp sd1 sd0)) 8) then
        bif (qcmp BinOp.eql (qlen pd0) (qlen pd0)) then
          bif (qcmp BinOp.eql (qlen (qapp sd1 sd0)) (qlen (qapp sd1 sd0))) then
            bif (qeqD pd0 pd0) then
              bif (qeqD pd1 pd1) then
                bif (qeqD (D.int pn2) (D.int pn2)) then
                  some [(qapp sd1 sd0)]
                else
                  none
              else
                none
            else
              none
          else
            none
        else
          none
      else
        none
    else
      none := by kernel_rfl
  rw [h]; simp only [qeqD_self, qeqI_self, qeq_len, show qcmp BinOp.eql 0 (qlen (D.list [])) = true from qeq_len [], show ∀ a, qcmp BinOp.eql 1 (qlen (D.list [a])) = true from fun a => qeq_len [a], show ∀ a b, qcmp BinOp.eql 2 (qlen (D.list [a, b])) = true from fun a b => qeq_len [a, b], cond_true]

noncomputable def q115 : List D → Option (List D) := veil (F115 )

theorem q115_eq : q115  = F115  := veil_eq _

noncomputable def tb115 : Tb := Tb.addF tb122 115 S115 (q115 )

theorem ok_tb115 : TbOk env (tb115 ) := addFunF ok_tb122 115 (by kernel_rfl) _ (q115_eq )

/- function 114  -/

def S114 : FunS := ⟨[⟨true, (.ptr 0 0)⟩, ⟨true, (.rows 46)⟩], [(.lst false 106), (.lst true 46), (.cells [⟨false, (.osl 1 46)⟩, ⟨false, (.osl 2 106)⟩, ⟨false, .any⟩, ⟨false, .any⟩, ⟨false, .any⟩, ⟨false, (.rows 9)⟩, ⟨false, .any⟩, ⟨false, (.int .u32)⟩, ⟨false, .any⟩, ⟨false, .any⟩, ⟨false, .any⟩])], [⟨true, (.tup [])⟩], [(.lst true 46), (.lst false 106), .skip, (.cells [⟨true, (.osl 3 46)⟩, ⟨true, (.osl 2 106)⟩, ⟨true, .any⟩, ⟨true, .any⟩, ⟨true, .any⟩, ⟨false, (.rows 9)⟩, ⟨true, .any⟩, ⟨false, (.int .u32)⟩, ⟨true, .any⟩, ⟨true, .any⟩, ⟨true, .any⟩])]⟩

noncomputable def F114 : List D → Option (List D) := liftX env tb115 60 6 114 S114

theorem F114_eq (pd0 : D) (pd1 : D) (pn2 : Int) (sd0 : D) (sd1 : D) : F114  [pd0, pd1, (D.int pn2), sd0, sd1] =
    bif (qmem (qlen (qapp sd1 sd0)) 64) then
      some [(qapp sd1 sd0)]
    else
      none := by
  have h : F114  [pd0, pd1, (D.int pn2), sd0, sd1] =
    bif (qcmp BinOp.eql (qlen sd1) (qlen sd1)) then
      bif (qmem (qlen (qapp sd1 sd0)) 64) then
        bif (qcmp BinOp.eql (qlen (qapp sd1 sd0)) (qlen (qapp sd1 sd0))) then
          bif (qcmp BinOp.eql (qlen pd0) (qlen pd0)) then
            bif (qeqD pd0 pd0) then
              bif (qeqD pd1 pd1) then
                bif (qeqD (D.int pn2) (D.int pn2)) then
                  some [(qapp sd1 sd0)]
                else
                  none
              else
                none
            else
              none
          else
            none
        else
          none
      else
        none
    else
      none := by kernel_rfl
  rw [h]; simp only [qeqD_self, qeqI_self, qeq_len, show qcmp BinOp.eql 0 (qlen (D.list [])) = true from qeq_len [], show ∀ a, qcmp BinOp.eql 1 (qlen (D.list [a])) = true from fun a => qeq_len [a], show ∀ a b, qcmp BinOp.eql 2 (qlen (D.list [a, b])) = true from fun a b => qeq_len [a, b], cond_true]

noncomputable def q114 : List D → Option (List D) := veil (F114 )

theorem q114_eq : q114  = F114  := veil_eq _

noncomputable def tb114 : Tb := Tb.addF tb115 114 S114 (q114 )

theorem ok_tb114 : TbOk env (tb114 ) := addFunF ok_tb115 114 (by kernel_rfl) _ (q114_eq )

/- function 50  -/

def S50_1 : LoopS := ⟨3, [⟨false, (.ptr 0 0)⟩, ⟨false, .any⟩, ⟨false, .any⟩, ⟨false, .any⟩, ⟨false, .any⟩, ⟨false, .any⟩, ⟨false, (.rows 46)⟩, ⟨false, (.int .i64)⟩, ⟨true, (.int .i64)⟩, ⟨false, .any⟩, ⟨false, .any⟩, ⟨false, .any⟩, ⟨false, .any⟩, ⟨false, .any⟩, ⟨false, .any⟩, ⟨false, .any⟩, ⟨false, .any⟩, ⟨false, .any⟩, ⟨false, .any⟩, ⟨false, .any⟩, ⟨false, .any⟩, ⟨false, .any⟩, ⟨false, .any⟩, ⟨false, .any⟩], [(.lst true 106), (.lst true 46), .skip, .skip, (.cells [⟨false, (.osl 3 46)⟩, ⟨false, (.osl 4 106)⟩, ⟨false, .any⟩, ⟨false, .any⟩, ⟨false, .any⟩, ⟨false, (.rows 9)⟩, ⟨false, .any⟩, ⟨false, (.int .u32)⟩, ⟨false, .any⟩, ⟨false, .any⟩, ⟨false, .any⟩])], [⟨0, 0, [⟨true, .any⟩, ⟨true, .any⟩, ⟨true, .any⟩, ⟨true, .any⟩, ⟨true, .any⟩, ⟨true, .any⟩, ⟨false, (.rows 46)⟩, ⟨false, (.int .i64)⟩, ⟨true, .any⟩, ⟨true, .any⟩, ⟨true, .any⟩, ⟨true, .any⟩, ⟨true, .any⟩, ⟨true, .any⟩, ⟨true, .any⟩, ⟨true, .any⟩, ⟨true, .any⟩, ⟨true, .any⟩, ⟨true, .any⟩, ⟨true, .any⟩, ⟨true, .any⟩, ⟨true, .any⟩, ⟨true, .any⟩, ⟨true, .any⟩], [(.lst true 106), (.lst true 46), .skip, .skip, (.cells [⟨true, (.osl 3 46)⟩, ⟨true, (.osl 4 106)⟩, ⟨true, .any⟩, ⟨true, .any⟩, ⟨true, .any⟩, ⟨false, (.rows 9)⟩, ⟨true, .any⟩, ⟨false, (.int .u32)⟩, ⟨true, .any⟩, ⟨true, .any⟩, ⟨true, .any⟩])]⟩]⟩

noncomputable def st50_1 (p s : List D) : Option (Sum (List D) (List D)) := stepQX env tb114 60 6 50 (loopC 50 1) S50_1 p s

theorem st50_1_eq (pd0 : D) (pn1 : Int) (pd2 : D) (pn3 : Int) (sn0 : Int) (sd1 : D) (sd2 : D) : st50_1  [pd0, (D.int pn1), pd2, (D.int pn3)] [(D.int sn0), sd1, sd2] =
    bif (qcmp BinOp.lss sn0 pn1) then
      bif (qinb pd0 sn0) then
        bif (qsome (Proofs.YtiojjmlccehpoaaGreat.q114 [sd1, pd2, (D.int pn3), (D.list [(D.agg [(D.int (qint (qfld (qget pd0 sn0) 0))), (D.int (qint (qfld (qget pd0 sn0) 1))), (D.int (qint (qfld (qget pd0 sn0) 2))), (D.int (qint (qfld (qget pd0 sn0) 3))), (D.int (qint (qfld (qget pd0 sn0) 4))), (D.int (qint (qfld (qget pd0 sn0) 5))), (D.int (qint (qfld (qget pd0 sn0) 6))), (D.int (qint (qfld (qget pd0 sn0) 7))), (D.int (qint (qfld (qget pd0 sn0) 8)))])]), sd2])) then
          bif (qsome (Proofs.YtiojjmlccehpoaaGreat.q115 [(qnth (Proofs.YtiojjmlccehpoaaGreat.q114 [sd1, pd2, (D.int pn3), (D.list [(D.agg [(D.int (qint (qfld (qget pd0 sn0) 0))), (D.int (qint (qfld (qget pd0 sn0) 1))), (D.int (qint (qfld (qget pd0 sn0) 2))), (D.int (qint (qfld (qget pd0 sn0) 3))), (D.int (qint (qfld (qget pd0 sn0) 4))), (D.int (qint (qfld (qget pd0 sn0) 5))), (D.int (qint (qfld (qget pd0 sn0) 6))), (D.int (qint (qfld (qget pd0 sn0) 7))), (D.int (qint (qfld (qget pd0 sn0) 8)))])]), sd2]) 0), pd2, (D.int pn3), (D.list [(D.int (-1))]), sd1])) then
            some (Sum.inl [(D.int (qbin BinOp.add IntKind.i64 sn0 1)), (qnth (Proofs.YtiojjmlccehpoaaGreat.q115 [(qnth (Proofs.YtiojjmlccehpoaaGreat.q114 [sd1, pd2, (D.int pn3), (D.list [(D.agg [(D.int (qint (qfld (qget pd0 sn0) 0))), (D.int (qint (qfld (qget pd0 sn0) 1))), (D.int (qint (qfld (qget pd0 sn0) 2))), (D.int (qint (qfld (qget pd0 sn0) 3))), (D.int (qint (qfld (qget pd0 sn0) 4))), (D.int (qint (qfld (qget pd0 sn0) 5))), (D.int (qint (qfld (qget pd0 sn0) 6))), (D.int (qint (qfld (qget pd0 sn0) 7))), (D.int (qint (qfld (qget pd0 sn0) 8)))])]), sd2]) 0), pd2, (D.int pn3), (D.list [(D.int (-1))]), sd1]) 0), (qnth (Proofs.YtiojjmlccehpoaaGreat.q114 [sd1, pd2, (D.int pn3), (D.list [(D.agg [(D.int (qint (qfld (qget pd0 sn0) 0))), (D.int (qint (qfld (qget pd0 sn0) 1))), (D.int (qint (qfld (qget pd0 sn0) 2))), (D.int (qint (qfld (qget pd0 sn0) 3))), (D.int (qint (qfld (qget pd0 sn0) 4))), (D.int (qint (qfld (qget pd0 sn0) 5))), (D.int (qint (qfld (qget pd0 sn0) 6))), (D.int (qint (qfld (qget pd0 sn0) 7))), (D.int (qint (qfld (qget pd0 sn0) 8)))])]), sd2]) 0)])
          else
            none
        else
          none
      else
        none
    else
      some (Sum.inr [(D.int 0), sd1, sd2]) := by
  have h : st50_1  [pd0, (D.int pn1), pd2, (D.int pn3)] [(D.int sn0), sd1, sd2] =
    bif (qcmp BinOp.lss sn0 pn1) then
      bif (qinb pd0 sn0) then
        bif (qcmp BinOp.eql (qlen sd2) (qlen sd2)) then
          bif (qcmp BinOp.eql (qlen sd1) (qlen sd1)) then
            bif (qsome (Proofs.YtiojjmlccehpoaaGreat.q114 [sd1, pd2, (D.int pn3), (D.list [(D.agg [(D.int (qint (qfld (qget pd0 sn0) 0))), (D.int (qint (qfld (qget pd0 sn0) 1))), (D.int (qint (qfld (qget pd0 sn0) 2))), (D.int (qint (qfld (qget pd0 sn0) 3))), (D.int (qint (qfld (qget pd0 sn0) 4))), (D.int (qint (qfld (qget pd0 sn0) 5))), (D.int (qint (qfld (qget pd0 sn0) 6))), (D.int (qint (qfld (qget pd0 sn0) 7))), (D.int (qint (qfld (qget pd0 sn0) 8)))])]), sd2])) then
              bif (qcmp BinOp.eql (qlen (qnth (Proofs.YtiojjmlccehpoaaGreat.q114 [sd1, pd2, (D.int pn3), (D.list [(D.agg [(D.int (qint (qfld (qget pd0 sn0) 0))), (D.int (qint (qfld (qget pd0 sn0) 1))), (D.int (qint (qfld (qget pd0 sn0) 2))), (D.int (qint (qfld (qget pd0 sn0) 3))), (D.int (qint (qfld (qget pd0 sn0) 4))), (D.int (qint (qfld (qget pd0 sn0) 5))), (D.int (qint (qfld (qget pd0 sn0) 6))), (D.int (qint (qfld (qget pd0 sn0) 7))), (D.int (qint (qfld (qget pd0 sn0) 8)))])]), sd2]) 0)) (qlen (qnth (Proofs.YtiojjmlccehpoaaGreat.q114 [sd1, pd2, (D.int pn3), (D.list [(D.agg [(D.int (qint (qfld (qget pd0 sn0) 0))), (D.int (qint (qfld (qget pd0 sn0) 1))), (D.int (qint (qfld (qget pd0 sn0) 2))), (D.int (qint (qfld (qget pd0 sn0) 3))), (D.int (qint (qfld (qget pd0 sn0) 4))), (D.int (qint (qfld (qget pd0 sn0) 5))), (D.int (qint (qfld (qget pd0 sn0) 6))), (D.int (qint (qfld (qget pd0 sn0) 7))), (D.int (qint (qfld (qget pd0 sn0) 8)))])]), sd2]) 0))) then
                bif (qcmp BinOp.eql (qlen sd1) (qlen sd1)) then
                  bif (qsome (Proofs.YtiojjmlccehpoaaGreat.q115 [(qnth (Proofs.YtiojjmlccehpoaaGreat.q114 [sd1, pd2, (D.int pn3), (D.list [(D.agg [(D.int (qint (qfld (qget pd0 sn0) 0))), (D.int (qint (qfld (qget pd0 sn0) 1))), (D.int (qint (qfld (qget pd0 sn0) 2))), (D.int (qint (qfld (qget pd0 sn0) 3))), (D.int (qint (qfld (qget pd0 sn0) 4))), (D.int (qint (qfld (qget pd0 sn0) 5))), (D.int (qint (qfld (qget pd0 sn0) 6))), (D.int (qint (qfld (qget pd0 sn0) 7))), (D.int (qint (qfld (qget pd0 sn0) 8)))])]), sd2]) 0), pd2, (D.int pn3), (D.list [(D.int (-1))]), sd1])) then
                    bif (qcmp BinOp.eql (qlen (qnth (Proofs.YtiojjmlccehpoaaGreat.q114 [sd1, pd2, (D.int pn3), (D.list [(D.agg [(D.int (qint (qfld (qget pd0 sn0) 0))), (D.int (qint (qfld (qget pd0 sn0) 1))), (D.int (qint (qfld (qget pd0 sn0) 2))), (D.int (qint (qfld (qget pd0 sn0) 3))), (D.int (qint (qfld (qget pd0 sn0) 4))), (D.int (qint (qfld (qget pd0 sn0) 5))), (D.int (qint (qfld (qget pd0 sn0) 6))), (D.int (qint (qfld (qget pd0 sn0) 7))), (D.int (qint (qfld (qget pd0 sn0) 8)))])]), sd2]) 0)) (qlen (qnth (Proofs.YtiojjmlccehpoaaGreat.q114 [sd1, pd2, (D.int pn3), (D.list [(D.agg [(D.int (qint (qfld (qget pd0 sn0) 0))), (D.int (qint (qfld (qget pd0 sn0) 1))), (D.int (qint (qfld (qget pd0 sn0) 2))), (D.int (qint (qfld (qget pd0 sn0) 3))), (D.int (qint (qfld (qget pd0 sn0) 4))), (D.int (qint (qfld (qget pd0 sn0) 5))), (D.int (qint (qfld (qget pd0 sn0) 6))), (D.int (qint (qfld (qget pd0 sn0) 7))), (D.int (qint (qfld (qget pd0 sn0) 8)))])]), sd2]) 0))) then
                      bif (qcmp BinOp.eql (qlen (qnth (Proofs.YtiojjmlccehpoaaGreat.q115 [(qnth (Proofs.YtiojjmlccehpoaaGreat.q114 [sd1, pd2, (D.int pn3), (D.list [(D.agg [(D.int (qint (qfld (qget pd0 sn0) 0))), (D.int (qint (qfld (qget pd0 sn0) 1))), (D.int (qint (qfld (qget pd0 sn0) 2))), (D.int (qint (qfld (qget pd0 sn0) 3))), (D.int (qint (qfld (qget pd0 sn0) 4))), (D.int (qint (qfld (qget pd0 sn0) 5))), (D.int (qint (qfld (qget pd0 sn0) 6))), (D.int (qint (qfld (qget pd0 sn0) 7))), (D.int (qint (qfld (qget pd0 sn0) 8)))])]), sd2]) 0), pd2, (D.int pn3), (D.list [(D.int (-1))]), sd1]) 0)) (qlen (qnth (Proofs.YtiojjmlccehpoaaGreat.q115 [(qnth (Proofs.YtiojjmlccehpoaaGreat.q114 [sd1, pd2, (D.int pn3), (D.list [(D.agg [(D.int (qint (qfld (qget pd0 sn0) 0))), (D.int (qint (qfld (qget pd0 sn0) 1))), (D.int (qint (qfld (qget pd0 sn0) 2))), (D.int (qint (qfld (qget pd0 sn0) 3))), (D.int (qint (qfld (qget pd0 sn0) 4))), (D.int (qint (qfld (qget pd0 sn0) 5))), (D.int (qint (qfld (qget pd0 sn0) 6))), (D.int (qint (qfld (qget pd0 sn0) 7))), (D.int (qint (qfld (qget pd0 sn0) 8)))])]), sd2]) 0), pd2, (D.int pn3), (D.list [(D.int (-1))]), sd1]) 0))) then
                        bif (qeqD pd0 pd0) then
                          bif (qeqD (D.int pn1) (D.int pn1)) then
                            bif (qeqD pd2 pd2) then
                              bif (qeqD (D.int pn3) (D.int pn3)) then
                                some (Sum.inl [(D.int (qbin BinOp.add IntKind.i64 sn0 1)), (qnth (Proofs.YtiojjmlccehpoaaGreat.q115 [(qnth (Proofs.YtiojjmlccehpoaaGreat.q114 [sd1, pd2, (D.int pn3), (D.list [(D.agg [(D.int (qint (qfld (qget pd0 sn0) 0))), (D.int (qint (qfld (qget pd0 sn0) 1))), (D.int (qint (qfld (qget pd0 sn0) 2))), (D.int (qint (qfld (qget pd0 sn0) 3))), (D.int (qint (qfld (qget pd0 sn0) 4))), (D.int (qint (qfld (qget pd0 sn0) 5))), (D.int (qint (qfld (qget pd0 sn0) 6))), (D.int (qint (qfld (qget pd0 sn0) 7))), (D.int (qint (qfld (qget pd0 sn0) 8)))])]), sd2]) 0), pd2, (D.int pn3), (D.list [(D.int (-1))]), sd1]) 0), (qnth (Proofs.YtiojjmlccehpoaaGreat.q114 [sd1, pd2, (D.int pn3), (D.list [(D.agg [(D.int (qint (qfld (qget pd0 sn0) 0))), (D.int (qint (qfld (qget pd0 sn0) 1))), (D.int (qint (qfld (qget pd0 sn0) 2))), (D.int (qint (qfld (qget pd0 sn0) 3))), (D.int (qint (qfld (qget pd0 sn0) 4))), (D.int (qint (qfld (qget pd0 sn0) 5))), (D.int (qint (qfld (qget pd0 sn0) 6))), (D.int (qint (qfld (qget pd0 sn0) 7))), (D.int (qint (qfld (qget pd0 sn0) 8)))])]), sd2]) 0)])
                              else
                                none
                            else
                              none
                          else
                            none
                        else
                          none
                      else
                        none
                    else
                      none
                  else
                    none
                else
                  none
              else
                none
            else
              none
          else
            none
        else
          none
      else
        none
    else
      bif (qcmp BinOp.eql (qlen sd2) (qlen sd2)) then
        bif (qcmp BinOp.eql (qlen sd1) (qlen sd1)) then
          bif (qeqD pd0 pd0) then
            bif (qeqD (D.int pn1) (D.int pn1)) then
              bif (qeqD pd2 pd2) then
                bif (qeqD (D.int pn3) (D.int pn3)) then
                  some (Sum.inr [(D.int 0), sd1, sd2])
                else
                  none
              else
                none
            else
              none
          else
            none
        else
          none
      else
        none := by kernel_rfl
  rw [h]; simp only [qeqD_self, qeqI_self, qeq_len, show qcmp BinOp.eql 0 (qlen (D.list [])) = true from qeq_len [], show ∀ a, qcmp BinOp.eql 1 (qlen (D.list [a])) = true from fun a => qeq_len [a], show ∀ a b, qcmp BinOp.eql 2 (qlen (D.list [a, b])) = true from fun a b => qeq_len [a, b], cond_true]

noncomputable def l50_1 : List D → List D → Option (List D) := veil fun p s => loW (st50_1  p) s

theorem l50_1_eq : l50_1  = fun p s => loW (st50_1  p) s := veil_eq _

noncomputable def tbl50_1 : Tb := Tb.addL tb114 50 1 S50_1.n0 (mkLp S50_1 (l50_1 ))

theorem ok_tbl50_1 : TbOk env (tbl50_1 ) := addLoopQ ok_tb114 50 1 (by kernel_rfl) _ (l50_1_eq )

def S50 : FunS := ⟨[⟨true, (.ptr 0 0)⟩, ⟨true, (.rows 46)⟩], [(.lst true 106), (.lst true 46), (.cells [⟨false, (.osl 1 46)⟩, ⟨false, (.osl 2 106)⟩, ⟨false, .any⟩, ⟨false, .any⟩, ⟨false, .any⟩, ⟨false, (.rows 9)⟩, ⟨false, .any⟩, ⟨false, (.int .u32)⟩, ⟨false, .any⟩, ⟨false, .any⟩, ⟨false, .any⟩])], [⟨true, (.tup [])⟩], [(.lst true 106), (.lst true 46), .skip, .skip, (.cells [⟨true, (.osl 3 46)⟩, ⟨true, (.osl 4 106)⟩, ⟨true, .any⟩, ⟨true, .any⟩, ⟨true, .any⟩, ⟨false, (.rows 9)⟩, ⟨true, .any⟩, ⟨false, (.int .u32)⟩, ⟨true, .any⟩, ⟨true, .any⟩, ⟨true, .any⟩])]⟩

noncomputable def F50 : List D → Option (List D) := liftX env tbl50_1 60 6 50 S50

theorem F50_eq (pd0 : D) (pn1 : Int) (sd0 : D) (sd1 : D) (sd2 : D) : F50  [pd0, (D.int pn1), sd0, sd1, sd2] =
    bif (qsome (Proofs.YtiojjmlccehpoaaGreat.l50_1 [sd0, (D.int (qlen sd0)), pd0, (D.int pn1)] [(D.int 0), sd1, sd2])) then
      some [(qnth (Proofs.YtiojjmlccehpoaaGreat.l50_1 [sd0, (D.int (qlen sd0)), pd0, (D.int pn1)] [(D.int 0), sd1, sd2]) 1), (qnth (Proofs.YtiojjmlccehpoaaGreat.l50_1 [sd0, (D.int (qlen sd0)), pd0, (D.int pn1)] [(D.int 0), sd1, sd2]) 2)]
    else
      none := by
  have h : F50  [pd0, (D.int pn1), sd0, sd1, sd2] =
    bif (qcmp BinOp.eql (qlen sd2) (qlen sd2)) then
      bif (qcmp BinOp.eql (qlen sd1) (qlen sd1)) then
        bif (qsome (Proofs.YtiojjmlccehpoaaGreat.l50_1 [sd0, (D.int (qlen sd0)), pd0, (D.int pn1)] [(D.int 0), sd1, sd2])) then
          bif (qcmp BinOp.eql (qlen (qnth (Proofs.YtiojjmlccehpoaaGreat.l50_1 [sd0, (D.int (qlen sd0)), pd0, (D.int pn1)] [(D.int 0), sd1, sd2]) 2)) (qlen (qnth (Proofs.YtiojjmlccehpoaaGreat.l50_1 [sd0, (D.int (qlen sd0)), pd0, (D.int pn1)] [(D.int 0), sd1, sd2]) 2))) then
            bif (qcmp BinOp.eql (qlen (qnth (Proofs.YtiojjmlccehpoaaGreat.l50_1 [sd0, (D.int (qlen sd0)), pd0, (D.int pn1)] [(D.int 0), sd1, sd2]) 1)) (qlen (qnth (Proofs.YtiojjmlccehpoaaGreat.l50_1 [sd0, (D.int (qlen sd0)), pd0, (D.int pn1)] [(D.int 0), sd1, sd2]) 1))) then
              bif (qeqD pd0 pd0) then
                bif (qeqD (D.int pn1) (D.int pn1)) then
                  some [(qnth (Proofs.YtiojjmlccehpoaaGreat.l50_1 [sd0, (D.int (qlen sd0)), pd0, (D.int pn1)] [(D.int 0), sd1, sd2]) 1), (qnth (Proofs.YtiojjmlccehpoaaGreat.l50_1 [sd0, (D.int (qlen sd0)), pd0, (D.int pn1)] [(D.int 0), sd1, sd2]) 2)]
                else
                  none
              else
                none
            else
              none
          else
            none
        else
          none
      else
        none
    else
      none := by kernel_rfl
  rw [h]; simp only [qeqD_self, qeqI_self, qeq_len, show qcmp BinOp.eql 0 (qlen (D.list [])) = true from qeq_len [], show ∀ a, qcmp BinOp.eql 1 (qlen (D.list [a])) = true from fun a => qeq_len [a], show ∀ a b, qcmp BinOp.eql 2 (qlen (D.list [a, b])) = true from fun a b => qeq_len [a, b], cond_true]

noncomputable def q50 : List D → Option (List D) := veil (F50 )

theorem q50_eq : q50  = F50  := veil_eq _

noncomputable def tb50 : Tb := Tb.addF tbl50_1 50 S50 (q50 )

theorem ok_tb50 : TbOk env (tb50 ) := addFunF ok_tbl50_1 50 (by kernel_rfl) _ (q50_eq )

/- function 51  -/

def S51 : FunS := ⟨[⟨true, (.ptr 0 0)⟩, ⟨true, .str⟩], [(.lst false 106), (.lst false 46), (.cells [⟨false, (.osl 1 46)⟩, ⟨false, (.osl 2 106)⟩, ⟨false, .any⟩, ⟨false, .any⟩, ⟨false, .any⟩, ⟨false, (.rows 9)⟩, ⟨false, .any⟩, ⟨false, (.int .u32)⟩, ⟨false, .any⟩, ⟨false, .any⟩, ⟨false, .any⟩])], [⟨true, (.dat 46)⟩], [(.lst false 106), (.lst false 46), (.cells [⟨true, (.osl 1 46)⟩, ⟨true, (.osl 2 106)⟩, ⟨true, .any⟩, ⟨true, .any⟩, ⟨true, .any⟩, ⟨false, (.rows 9)⟩, ⟨true, .any⟩, ⟨false, (.int .u32)⟩, ⟨true, .any⟩, ⟨true, .any⟩, ⟨true, .any⟩])]⟩

noncomputable def F51 : List D → Option (List D) := liftX env tb50 60 6 51 S51

theorem F51_eq (pd0 : D) (pd1 : D) (pd2 : D) (pn3 : Int) (ss0 : ByteArray) : F51  [pd0, pd1, pd2, (D.int pn3), (D.str ss0)] =
    bif (qsome (Proofs.YtiojjmlccehpoaaGreat.q116 [pd2, (D.str ss0)])) then
      some [(D.agg [(D.int 0), (D.int (qbin BinOp.add IntKind.u32 pn3 (qbin BinOp.mul IntKind.u32 4 (qwrap IntKind.u32 (qint (qnth (Proofs.YtiojjmlccehpoaaGreat.q116 [pd2, (D.str ss0)]) 0)))))), (D.int 5), (D.int 2), (D.int 0), (D.int 0), (D.int 2), (D.int 0), (D.int 0)])]
    else
      none := by
  have h : F51  [pd0, pd1, pd2, (D.int pn3), (D.str ss0)] =
    bif (qsome (Proofs.YtiojjmlccehpoaaGreat.q116 [pd2, (D.str ss0)])) then
      bif (qcmp BinOp.eql (qlen pd1) (qlen pd1)) then
        bif (qcmp BinOp.eql (qlen pd0) (qlen pd0)) then
          bif (qeqD pd0 pd0) then
            bif (qeqD pd1 pd1) then
              bif (qeqD pd2 pd2) then
                bif (qeqD (D.int pn3) (D.int pn3)) then
                  some [(D.agg [(D.int 0), (D.int (qbin BinOp.add IntKind.u32 pn3 (qbin BinOp.mul IntKind.u32 4 (qwrap IntKind.u32 (qint (qnth (Proofs.YtiojjmlccehpoaaGreat.q116 [pd2, (D.str ss0)]) 0)))))), (D.int 5), (D.int 2), (D.int 0), (D.int 0), (D.int 2), (D.int 0), (D.int 0)])]
                else
                  none
              else
                none
            else
              none
          else
            none
        else
          none
      else
        none
    else
      none := by kernel_rfl
  rw [h]; simp only [qeqD_self, qeqI_self, qeq_len, show qcmp BinOp.eql 0 (qlen (D.list [])) = true from qeq_len [], show ∀ a, qcmp BinOp.eql 1 (qlen (D.list [a])) = true from fun a => qeq_len [a], show ∀ a b, qcmp BinOp.eql 2 (qlen (D.list [a, b])) = true from fun a b => qeq_len [a, b], cond_true]

noncomputable def q51 : List D → Option (List D) := veil (F51 )

theorem q51_eq : q51  = F51  := veil_eq _

noncomputable def tb51 : Tb := Tb.addF tb50 51 S51 (q51 )

theorem ok_tb51 : TbOk env (tb51 ) := addFunF ok_tb50 51 (by kernel_rfl) _ (q51_eq )

/- function 103  -/

def S103 : FunS := ⟨[⟨true, (.int .i64)⟩], [], [⟨true, (.tup [(.int .i64), .bool])⟩], []⟩

noncomputable def F103 : List D → Option (List D) := liftX env tb51 60 6 103 S103

theorem F103_eq  (sn0 : Int) : F103  [(D.int sn0)] =
    bif (qcmp BinOp.eql sn0 3) then
      some [(D.int 6), (D.bool Bool.true)]
    else
      bif (qcmp BinOp.eql sn0 4) then
        some [(D.int 7), (D.bool Bool.true)]
      else
        bif (qcmp BinOp.eql sn0 5) then
          some [(D.int 11), (D.bool Bool.true)]
        else
          bif (qcmp BinOp.eql sn0 6) then
            some [(D.int 8), (D.bool Bool.true)]
          else
            bif (qcmp BinOp.eql sn0 7) then
              some [(D.int 9), (D.bool Bool.true)]
            else
              bif (qcmp BinOp.eql sn0 8) then
                some [(D.int 10), (D.bool Bool.true)]
              else
                bif (qcmp BinOp.eql sn0 9) then
                  some [(D.int 12), (D.bool Bool.true)]
                else
                  bif (qcmp BinOp.eql sn0 10) then
                    some [(D.int 13), (D.bool Bool.true)]
                  else
                    bif (qcmp BinOp.eql sn0 11) then
                      some [(D.int 14), (D.bool Bool.true)]
                    else
                      some [(D.int 0), (D.bool Bool.false)] := by kernel_rfl

noncomputable def q103 : List D → Option (List D) := veil (F103 )

theorem q103_eq : q103  = F103  := veil_eq _

noncomputable def tb103 : Tb := Tb.addF tb51 103 S103 (q103 )

theorem ok_tb103 : TbOk env (tb103 ) := addFunF ok_tb51 103 (by kernel_rfl) _ (q103_eq )

/- function 104  -/

def S104 : FunS := ⟨[⟨true, (.int .i64)⟩], [], [⟨true, (.int .i64)⟩], []⟩

noncomputable def F104 : List D → Option (List D) := liftX env tb103 60 6 104 S104

theorem F104_eq  (sn0 : Int) : F104  [(D.int sn0)] =
    bif (qcmp BinOp.eql sn0 12) then
      some [(D.int 1)]
    else
      bif (qcmp BinOp.eql sn0 13) then
        some [(D.int 2)]
      else
        bif (qcmp BinOp.eql sn0 14) then
          some [(D.int 3)]
        else
          some [(D.int 7)] := by kernel_rfl

noncomputable def q104 : List D → Option (List D) := veil (F104 )

theorem q104_eq : q104  = F104  := veil_eq _

noncomputable def tb104 : Tb := Tb.addF tb103 104 S104 (q104 )

theorem ok_tb104 : TbOk env (tb104 ) := addFunF ok_tb103 104 (by kernel_rfl) _ (q104_eq )

end Go.Proofs.YtiojjmlccehpoaaGreat
