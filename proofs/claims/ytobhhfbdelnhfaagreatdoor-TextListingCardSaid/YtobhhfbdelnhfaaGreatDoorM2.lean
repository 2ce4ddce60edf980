/-
  Made by gen3.py: what functions of the seat compute, as partial functions on data, and that they do.
-/
import Derived.Test.YtobhhfbdelnhfaaGreatDoorM1
import Derived.KernelRfl
set_option linter.unusedVariables false
set_option linter.unusedSimpArgs false
open Go Go.AM
namespace Go.Proofs.YtobhhfbdelnhfaaGreatDoor
set_option maxRecDepth 100000
set_option linter.unusedSimpArgs false
set_option linter.unusedVariables false
def S26 : FunS := ⟨[⟨true, (.int .i64)⟩], [], [⟨true, .str⟩], []⟩
noncomputable def F26 : List D → Option (List D) := liftX env tb74 60 12 26 S26
theorem F26_eq  (sn0 : Int) : F26  [(D.int sn0)] =
    bif (qcmp BinOp.leq 0 sn0) then
    bif (qcmp BinOp.lss sn0 15) then
    bif (qinb (D.list [(D.str (ByteArray.mk #[97, 108])), (D.str (ByteArray.mk #[101, 113])), (D.str (ByteArray.mk #[110, 101])), (D.str (ByteArray.mk #[108, 116])), (D.str (ByteArray.mk #[103, 101])), (D.str (ByteArray.mk #[108, 101])), (D.str (ByteArray.mk #[103, 116])), (D.str (ByteArray.mk #[98])), (D.str (ByteArray.mk #[97, 101])), (D.str (ByteArray.mk #[98, 101])), (D.str (ByteArray.mk #[97])), (D.str (ByteArray.mk #[110, 101, 103])), (D.str (ByteArray.mk #[112, 111, 115])), (D.str (ByteArray.mk #[111, 118])), (D.str (ByteArray.mk #[110, 111]))]) sn0) then
    some [(D.str (qstr (qget (D.list [(D.str (ByteArray.mk #[97, 108])), (D.str (ByteArray.mk #[101, 113])), (D.str (ByteArray.mk #[110, 101])), (D.str (ByteArray.mk #[108, 116])), (D.str (ByteArray.mk #[103, 101])), (D.str (ByteArray.mk #[108, 101])), (D.str (ByteArray.mk #[103, 116])), (D.str (ByteArray.mk #[98])), (D.str (ByteArray.mk #[97, 101])), (D.str (ByteArray.mk #[98, 101])), (D.str (ByteArray.mk #[97])), (D.str (ByteArray.mk #[110, 101, 103])), (D.str (ByteArray.mk #[112, 111, 115])), (D.str (ByteArray.mk #[111, 118])), (D.str (ByteArray.mk #[110, 111]))]) sn0)))]
    else
    none
    else
    none
    else
    none := by kernel_rfl
noncomputable def q26 : List D → Option (List D) := veil (F26 )
theorem q26_eq : q26  = F26  := veil_eq _
noncomputable def tb26 : Tb := Tb.addF tb74 26 S26 (q26 )
theorem ok_tb26 : TbOk env (tb26 ) := addFunF ok_tb74 26 (by kernel_rfl) _ (q26_eq )
def S56 : FunS := ⟨[⟨true, (.int .i64)⟩], [], [⟨true, .str⟩], []⟩
noncomputable def F56 : List D → Option (List D) := liftX env tb26 60 12 56 S56
theorem F56_eq  (sn0 : Int) : F56  [(D.int sn0)] =
    bif (qcmp BinOp.leq 0 (qbin BinOp.sub IntKind.i64 sn0 5)) then
    bif (qcmp BinOp.lss (qbin BinOp.sub IntKind.i64 sn0 5) 11) then
    bif (qinb (D.list [(D.str (ByteArray.mk #[109, 111, 118])), (D.str (ByteArray.mk #[97, 100, 100])), (D.str (ByteArray.mk #[115, 117, 98])), (D.str (ByteArray.mk #[97, 110, 100])), (D.str (ByteArray.mk #[111, 114])), (D.str (ByteArray.mk #[120, 111, 114])), (D.str (ByteArray.mk #[109, 117, 108])), (D.str (ByteArray.mk #[115, 104, 108])), (D.str (ByteArray.mk #[115, 104, 114])), (D.str (ByteArray.mk #[115, 97, 114])), (D.str (ByteArray.mk #[99, 109, 112]))]) (qbin BinOp.sub IntKind.i64 sn0 5)) then
    some [(D.str (qstr (qget (D.list [(D.str (ByteArray.mk #[109, 111, 118])), (D.str (ByteArray.mk #[97, 100, 100])), (D.str (ByteArray.mk #[115, 117, 98])), (D.str (ByteArray.mk #[97, 110, 100])), (D.str (ByteArray.mk #[111, 114])), (D.str (ByteArray.mk #[120, 111, 114])), (D.str (ByteArray.mk #[109, 117, 108])), (D.str (ByteArray.mk #[115, 104, 108])), (D.str (ByteArray.mk #[115, 104, 114])), (D.str (ByteArray.mk #[115, 97, 114])), (D.str (ByteArray.mk #[99, 109, 112]))]) (qbin BinOp.sub IntKind.i64 sn0 5))))]
    else
    none
    else
    none
    else
    none := by kernel_rfl
noncomputable def q56 : List D → Option (List D) := veil (F56 )
theorem q56_eq : q56  = F56  := veil_eq _
noncomputable def tb56 : Tb := Tb.addF tb26 56 S56 (q56 )
theorem ok_tb56 : TbOk env (tb56 ) := addFunF ok_tb26 56 (by kernel_rfl) _ (q56_eq )
def S25 : FunS := ⟨[⟨true, (.int .u32)⟩], [], [⟨true, .str⟩], []⟩
noncomputable def F25 : List D → Option (List D) := liftX env tb56 9 12 25 S25
theorem F25_eq  (sn0 : Int) : F25  [(D.int sn0)] =
    bif (qcmp BinOp.geq (qwrap IntKind.u64 sn0) 16) then
    bif (qinbS (ByteArray.mk #[48, 49, 50, 51, 52, 53, 54, 55, 56, 57, 97, 98, 99, 100, 101, 102, 103, 104, 105, 106, 107, 108, 109, 110, 111, 112, 113, 114, 115, 116, 117, 118, 119, 120, 121, 122]) (qbin BinOp.and IntKind.u64 (qwrap IntKind.u64 sn0) 15)) then
    bif (qcmp BinOp.geq (qbin BinOp.shr IntKind.u64 (qwrap IntKind.u64 sn0) 4) 16) then
    bif (qinbS (ByteArray.mk #[48, 49, 50, 51, 52, 53, 54, 55, 56, 57, 97, 98, 99, 100, 101, 102, 103, 104, 105, 106, 107, 108, 109, 110, 111, 112, 113, 114, 115, 116, 117, 118, 119, 120, 121, 122]) (qbin BinOp.and IntKind.u64 (qbin BinOp.shr IntKind.u64 (qwrap IntKind.u64 sn0) 4) 15)) then
    bif (qcmp BinOp.geq (qbin BinOp.shr IntKind.u64 (qbin BinOp.shr IntKind.u64 (qwrap IntKind.u64 sn0) 4) 4) 16) then
    bif (qinbS (ByteArray.mk #[48, 49, 50, 51, 52, 53, 54, 55, 56, 57, 97, 98, 99, 100, 101, 102, 103, 104, 105, 106, 107, 108, 109, 110, 111, 112, 113, 114, 115, 116, 117, 118, 119, 120, 121, 122]) (qbin BinOp.and IntKind.u64 (qbin BinOp.shr IntKind.u64 (qbin BinOp.shr IntKind.u64 (qwrap IntKind.u64 sn0) 4) 4) 15)) then
    bif (qcmp BinOp.geq (qbin BinOp.shr IntKind.u64 (qbin BinOp.shr IntKind.u64 (qbin BinOp.shr IntKind.u64 (qwrap IntKind.u64 sn0) 4) 4) 4) 16) then
    bif (qinbS (ByteArray.mk #[48, 49, 50, 51, 52, 53, 54, 55, 56, 57, 97, 98, 99, 100, 101, 102, 103, 104, 105, 106, 107, 108, 109, 110, 111, 112, 113, 114, 115, 116, 117, 118, 119, 120, 121, 122]) (qbin BinOp.and IntKind.u64 (qbin BinOp.shr IntKind.u64 (qbin BinOp.shr IntKind.u64 (qbin BinOp.shr IntKind.u64 (qwrap IntKind.u64 sn0) 4) 4) 4) 15)) then
    bif (qcmp BinOp.geq (qbin BinOp.shr IntKind.u64 (qbin BinOp.shr IntKind.u64 (qbin BinOp.shr IntKind.u64 (qbin BinOp.shr IntKind.u64 (qwrap IntKind.u64 sn0) 4) 4) 4) 4) 16) then
    bif (qinbS (ByteArray.mk #[48, 49, 50, 51, 52, 53, 54, 55, 56, 57, 97, 98, 99, 100, 101, 102, 103, 104, 105, 106, 107, 108, 109, 110, 111, 112, 113, 114, 115, 116, 117, 118, 119, 120, 121, 122]) (qbin BinOp.and IntKind.u64 (qbin BinOp.shr IntKind.u64 (qbin BinOp.shr IntKind.u64 (qbin BinOp.shr IntKind.u64 (qbin BinOp.shr IntKind.u64 (qwrap IntKind.u64 sn0) 4) 4) 4) 4) 15)) then
    bif (qcmp BinOp.geq (qbin BinOp.shr IntKind.u64 (qbin BinOp.shr IntKind.u64 (qbin BinOp.shr IntKind.u64 (qbin BinOp.shr IntKind.u64 (qbin BinOp.shr IntKind.u64 (qwrap IntKind.u64 sn0) 4) 4) 4) 4) 4) 16) then
    bif (qinbS (ByteArray.mk #[48, 49, 50, 51, 52, 53, 54, 55, 56, 57, 97, 98, 99, 100, 101, 102, 103, 104, 105, 106, 107, 108, 109, 110, 111, 112, 113, 114, 115, 116, 117, 118, 119, 120, 121, 122]) (qbin BinOp.and IntKind.u64 (qbin BinOp.shr IntKind.u64 (qbin BinOp.shr IntKind.u64 (qbin BinOp.shr IntKind.u64 (qbin BinOp.shr IntKind.u64 (qbin BinOp.shr IntKind.u64 (qwrap IntKind.u64 sn0) 4) 4) 4) 4) 4) 15)) then
    bif (qcmp BinOp.geq (qbin BinOp.shr IntKind.u64 (qbin BinOp.shr IntKind.u64 (qbin BinOp.shr IntKind.u64 (qbin BinOp.shr IntKind.u64 (qbin BinOp.shr IntKind.u64 (qbin BinOp.shr IntKind.u64 (qwrap IntKind.u64 sn0) 4) 4) 4) 4) 4) 4) 16) then
    bif (qinbS (ByteArray.mk #[48, 49, 50, 51, 52, 53, 54, 55, 56, 57, 97, 98, 99, 100, 101, 102, 103, 104, 105, 106, 107, 108, 109, 110, 111, 112, 113, 114, 115, 116, 117, 118, 119, 120, 121, 122]) (qbin BinOp.and IntKind.u64 (qbin BinOp.shr IntKind.u64 (qbin BinOp.shr IntKind.u64 (qbin BinOp.shr IntKind.u64 (qbin BinOp.shr IntKind.u64 (qbin BinOp.shr IntKind.u64 (qbin BinOp.shr IntKind.u64 (qwrap IntKind.u64 sn0) 4) 4) 4) 4) 4) 4) 15)) then
    bif (qcmp BinOp.geq (qbin BinOp.shr IntKind.u64 (qbin BinOp.shr IntKind.u64 (qbin BinOp.shr IntKind.u64 (qbin BinOp.shr IntKind.u64 (qbin BinOp.shr IntKind.u64 (qbin BinOp.shr IntKind.u64 (qbin BinOp.shr IntKind.u64 (qwrap IntKind.u64 sn0) 4) 4) 4) 4) 4) 4) 4) 16) then
    bif (qinbS (ByteArray.mk #[48, 49, 50, 51, 52, 53, 54, 55, 56, 57, 97, 98, 99, 100, 101, 102, 103, 104, 105, 106, 107, 108, 109, 110, 111, 112, 113, 114, 115, 116, 117, 118, 119, 120, 121, 122]) (qbin BinOp.and IntKind.u64 (qbin BinOp.shr IntKind.u64 (qbin BinOp.shr IntKind.u64 (qbin BinOp.shr IntKind.u64 (qbin BinOp.shr IntKind.u64 (qbin BinOp.shr IntKind.u64 (qbin BinOp.shr IntKind.u64 (qbin BinOp.shr IntKind.u64 (qwrap IntKind.u64 sn0) 4) 4) 4) 4) 4) 4) 4) 15)) then
    bif (qcmp BinOp.geq (qbin BinOp.shr IntKind.u64 (qbin BinOp.shr IntKind.u64 (qbin BinOp.shr IntKind.u64 (qbin BinOp.shr IntKind.u64 (qbin BinOp.shr IntKind.u64 (qbin BinOp.shr IntKind.u64 (qbin BinOp.shr IntKind.u64 (qbin BinOp.shr IntKind.u64 (qwrap IntKind.u64 sn0) 4) 4) 4) 4) 4) 4) 4) 4) 16) then
    bif (qinbS (ByteArray.mk #[48, 49, 50, 51, 52, 53, 54, 55, 56, 57, 97, 98, 99, 100, 101, 102, 103, 104, 105, 106, 107, 108, 109, 110, 111, 112, 113, 114, 115, 116, 117, 118, 119, 120, 121, 122]) (qbin BinOp.and IntKind.u64 (qbin BinOp.shr IntKind.u64 (qbin BinOp.shr IntKind.u64 (qbin BinOp.shr IntKind.u64 (qbin BinOp.shr IntKind.u64 (qbin BinOp.shr IntKind.u64 (qbin BinOp.shr IntKind.u64 (qbin BinOp.shr IntKind.u64 (qbin BinOp.shr IntKind.u64 (qwrap IntKind.u64 sn0) 4) 4) 4) 4) 4) 4) 4) 4) 15)) then
    none
    else
    none
    else
    bif (qinbS (ByteArray.mk #[48, 49, 50, 51, 52, 53, 54, 55, 56, 57, 97, 98, 99, 100, 101, 102, 103, 104, 105, 106, 107, 108, 109, 110, 111, 112, 113, 114, 115, 116, 117, 118, 119, 120, 121, 122]) (qbin BinOp.shr IntKind.u64 (qbin BinOp.shr IntKind.u64 (qbin BinOp.shr IntKind.u64 (qbin BinOp.shr IntKind.u64 (qbin BinOp.shr IntKind.u64 (qbin BinOp.shr IntKind.u64 (qbin BinOp.shr IntKind.u64 (qbin BinOp.shr IntKind.u64 (qwrap IntKind.u64 sn0) 4) 4) 4) 4) 4) 4) 4) 4)) then
    bif (qcatOk (ByteArray.mk #[48, 120]) (qtext (D.list [(D.int (qidxS (ByteArray.mk #[48, 49, 50, 51, 52, 53, 54, 55, 56, 57, 97, 98, 99, 100, 101, 102, 103, 104, 105, 106, 107, 108, 109, 110, 111, 112, 113, 114, 115, 116, 117, 118, 119, 120, 121, 122]) (qbin BinOp.shr IntKind.u64 (qbin BinOp.shr IntKind.u64 (qbin BinOp.shr IntKind.u64 (qbin BinOp.shr IntKind.u64 (qbin BinOp.shr IntKind.u64 (qbin BinOp.shr IntKind.u64 (qbin BinOp.shr IntKind.u64 (qbin BinOp.shr IntKind.u64 (qwrap IntKind.u64 sn0) 4) 4) 4) 4) 4) 4) 4) 4))), (D.int (qidxS (ByteArray.mk #[48, 49, 50, 51, 52, 53, 54, 55, 56, 57, 97, 98, 99, 100, 101, 102, 103, 104, 105, 106, 107, 108, 109, 110, 111, 112, 113, 114, 115, 116, 117, 118, 119, 120, 121, 122]) (qbin BinOp.and IntKind.u64 (qbin BinOp.shr IntKind.u64 (qbin BinOp.shr IntKind.u64 (qbin BinOp.shr IntKind.u64 (qbin BinOp.shr IntKind.u64 (qbin BinOp.shr IntKind.u64 (qbin BinOp.shr IntKind.u64 (qbin BinOp.shr IntKind.u64 (qwrap IntKind.u64 sn0) 4) 4) 4) 4) 4) 4) 4) 15))), (D.int (qidxS (ByteArray.mk #[48, 49, 50, 51, 52, 53, 54, 55, 56, 57, 97, 98, 99, 100, 101, 102, 103, 104, 105, 106, 107, 108, 109, 110, 111, 112, 113, 114, 115, 116, 117, 118, 119, 120, 121, 122]) (qbin BinOp.and IntKind.u64 (qbin BinOp.shr IntKind.u64 (qbin BinOp.shr IntKind.u64 (qbin BinOp.shr IntKind.u64 (qbin BinOp.shr IntKind.u64 (qbin BinOp.shr IntKind.u64 (qbin BinOp.shr IntKind.u64 (qwrap IntKind.u64 sn0) 4) 4) 4) 4) 4) 4) 15))), (D.int (qidxS (ByteArray.mk #[48, 49, 50, 51, 52, 53, 54, 55, 56, 57, 97, 98, 99, 100, 101, 102, 103, 104, 105, 106, 107, 108, 109, 110, 111, 112, 113, 114, 115, 116, 117, 118, 119, 120, 121, 122]) (qbin BinOp.and IntKind.u64 (qbin BinOp.shr IntKind.u64 (qbin BinOp.shr IntKind.u64 (qbin BinOp.shr IntKind.u64 (qbin BinOp.shr IntKind.u64 (qbin BinOp.shr IntKind.u64 (qwrap IntKind.u64 sn0) 4) 4) 4) 4) 4) 15))), (D.int (qidxS (ByteArray.mk #[48, 49, 50, 51, 52, 53, 54, 55, 56, 57, 97, 98, 99, 100, 101, 102, 103, 104, 105, 106, 107, 108, 109, 110, 111, 112, 113, 114, 115, 116, 117, 118, 119, 120, 121, 122]) (qbin BinOp.and IntKind.u64 (qbin BinOp.shr IntKind.u64 (qbin BinOp.shr IntKind.u64 (qbin BinOp.shr IntKind.u64 (qbin BinOp.shr IntKind.u64 (qwrap IntKind.u64 sn0) 4) 4) 4) 4) 15))), (D.int (qidxS (ByteArray.mk #[48, 49, 50, 51, 52, 53, 54, 55, 56, 57, 97, 98, 99, 100, 101, 102, 103, 104, 105, 106, 107, 108, 109, 110, 111, 112, 113, 114, 115, 116, 117, 118, 119, 120, 121, 122]) (qbin BinOp.and IntKind.u64 (qbin BinOp.shr IntKind.u64 (qbin BinOp.shr IntKind.u64 (qbin BinOp.shr IntKind.u64 (qwrap IntKind.u64 sn0) 4) 4) 4) 15))), (D.int (qidxS (ByteArray.mk #[48, 49, 50, 51, 52, 53, 54, 55, 56, 57, 97, 98, 99, 100, 101, 102, 103, 104, 105, 106, 107, 108, 109, 110, 111, 112, 113, 114, 115, 116, 117, 118, 119, 120, 121, 122]) (qbin BinOp.and IntKind.u64 (qbin BinOp.shr IntKind.u64 (qbin BinOp.shr IntKind.u64 (qwrap IntKind.u64 sn0) 4) 4) 15))), (D.int (qidxS (ByteArray.mk #[48, 49, 50, 51, 52, 53, 54, 55, 56, 57, 97, 98, 99, 100, 101, 102, 103, 104, 105, 106, 107, 108, 109, 110, 111, 112, 113, 114, 115, 116, 117, 118, 119, 120, 121, 122]) (qbin BinOp.and IntKind.u64 (qbin BinOp.shr IntKind.u64 (qwrap IntKind.u64 sn0) 4) 15))), (D.int (qidxS (ByteArray.mk #[48, 49, 50, 51, 52, 53, 54, 55, 56, 57, 97, 98, 99, 100, 101, 102, 103, 104, 105, 106, 107, 108, 109, 110, 111, 112, 113, 114, 115, 116, 117, 118, 119, 120, 121, 122]) (qbin BinOp.and IntKind.u64 (qwrap IntKind.u64 sn0) 15)))]))) then
    some [(D.str (qcat (ByteArray.mk #[48, 120]) (qtext (D.list [(D.int (qidxS (ByteArray.mk #[48, 49, 50, 51, 52, 53, 54, 55, 56, 57, 97, 98, 99, 100, 101, 102, 103, 104, 105, 106, 107, 108, 109, 110, 111, 112, 113, 114, 115, 116, 117, 118, 119, 120, 121, 122]) (qbin BinOp.shr IntKind.u64 (qbin BinOp.shr IntKind.u64 (qbin BinOp.shr IntKind.u64 (qbin BinOp.shr IntKind.u64 (qbin BinOp.shr IntKind.u64 (qbin BinOp.shr IntKind.u64 (qbin BinOp.shr IntKind.u64 (qbin BinOp.shr IntKind.u64 (qwrap IntKind.u64 sn0) 4) 4) 4) 4) 4) 4) 4) 4))), (D.int (qidxS (ByteArray.mk #[48, 49, 50, 51, 52, 53, 54, 55, 56, 57, 97, 98, 99, 100, 101, 102, 103, 104, 105, 106, 107, 108, 109, 110, 111, 112, 113, 114, 115, 116, 117, 118, 119, 120, 121, 122]) (qbin BinOp.and IntKind.u64 (qbin BinOp.shr IntKind.u64 (qbin BinOp.shr IntKind.u64 (qbin BinOp.shr IntKind.u64 (qbin BinOp.shr IntKind.u64 (qbin BinOp.shr IntKind.u64 (qbin BinOp.shr IntKind.u64 (qbin BinOp.shr IntKind.u64 (qwrap IntKind.u64 sn0) 4) 4) 4) 4) 4) 4) 4) 15))), (D.int (qidxS (ByteArray.mk #[48, 49, 50, 51, 52, 53, 54, 55, 56, 57, 97, 98, 99, 100, 101, 102, 103, 104, 105, 106, 107, 108, 109, 110, 111, 112, 113, 114, 115, 116, 117, 118, 119, 120, 121, 122]) (qbin BinOp.and IntKind.u64 (qbin BinOp.shr IntKind.u64 (qbin BinOp.shr IntKind.u64 (qbin BinOp.shr IntKind.u64 (qbin BinOp.shr IntKind.u64 (qbin BinOp.shr IntKind.u64 (qbin BinOp.shr IntKind.u64 (qwrap IntKind.u64 sn0) 4) 4) 4) 4) 4) 4) 15))), (D.int (qidxS (ByteArray.mk #[48, 49, 50, 51, 52, 53, 54, 55, 56, 57, 97, 98, 99, 100, 101, 102, 103, 104, 105, 106, 107, 108, 109, 110, 111, 112, 113, 114, 115, 116, 117, 118, 119, 120, 121, 122]) (qbin BinOp.and IntKind.u64 (qbin BinOp.shr IntKind.u64 (qbin BinOp.shr IntKind.u64 (qbin BinOp.shr IntKind.u64 (qbin BinOp.shr IntKind.u64 (qbin BinOp.shr IntKind.u64 (qwrap IntKind.u64 sn0) 4) 4) 4) 4) 4) 15))), (D.int (qidxS (ByteArray.mk #[48, 49, 50, 51, 52, 53, 54, 55, 56, 57, 97, 98, 99, 100, 101, 102, 103, 104, 105, 106, 107, 108, 109, 110, 111, 112, 113, 114, 115, 116, 117, 118, 119, 120, 121, 122]) (qbin BinOp.and IntKind.u64 (qbin BinOp.shr IntKind.u64 (qbin BinOp.shr IntKind.u64 (qbin BinOp.shr IntKind.u64 (qbin BinOp.shr IntKind.u64 (qwrap IntKind.u64 sn0) 4) 4) 4) 4) 15))), (D.int (qidxS (ByteArray.mk #[48, 49, 50, 51, 52, 53, 54, 55, 56, 57, 97, 98, 99, 100, 101, 102, 103, 104, 105, 106, 107, 108, 109, 110, 111, 112, 113, 114, 115, 116, 117, 118, 119, 120, 121, 122]) (qbin BinOp.and IntKind.u64 (qbin BinOp.shr IntKind.u64 (qbin BinOp.shr IntKind.u64 (qbin BinOp.shr IntKind.u64 (qwrap IntKind.u64 sn0) 4) 4) 4) 15))), (D.int (qidxS (ByteArray.mk #[48, 49, 50, 51, 52, 53, 54, 55, 56, 57, 97, 98, 99, 100, 101, 102, 103, 104, 105, 106, 107, 108, 109, 110, 111, 112, 113, 114, 115, 116, 117, 118, 119, 120, 121, 122]) (qbin BinOp.and IntKind.u64 (qbin BinOp.shr IntKind.u64 (qbin BinOp.shr IntKind.u64 (qwrap IntKind.u64 sn0) 4) 4) 15))), (D.int (qidxS (ByteArray.mk #[48, 49, 50, 51, 52, 53, 54, 55, 56, 57, 97, 98, 99, 100, 101, 102, 103, 104, 105, 106, 107, 108, 109, 110, 111, 112, 113, 114, 115, 116, 117, 118, 119, 120, 121, 122]) (qbin BinOp.and IntKind.u64 (qbin BinOp.shr IntKind.u64 (qwrap IntKind.u64 sn0) 4) 15))), (D.int (qidxS (ByteArray.mk #[48, 49, 50, 51, 52, 53, 54, 55, 56, 57, 97, 98, 99, 100, 101, 102, 103, 104, 105, 106, 107, 108, 109, 110, 111, 112, 113, 114, 115, 116, 117, 118, 119, 120, 121, 122]) (qbin BinOp.and IntKind.u64 (qwrap IntKind.u64 sn0) 15)))]))))]
    else
    none
    else
    none
    else
    none
    else
    bif (qinbS (ByteArray.mk #[48, 49, 50, 51, 52, 53, 54, 55, 56, 57, 97, 98, 99, 100, 101, 102, 103, 104, 105, 106, 107, 108, 109, 110, 111, 112, 113, 114, 115, 116, 117, 118, 119, 120, 121, 122]) (qbin BinOp.shr IntKind.u64 (qbin BinOp.shr IntKind.u64 (qbin BinOp.shr IntKind.u64 (qbin BinOp.shr IntKind.u64 (qbin BinOp.shr IntKind.u64 (qbin BinOp.shr IntKind.u64 (qbin BinOp.shr IntKind.u64 (qwrap IntKind.u64 sn0) 4) 4) 4) 4) 4) 4) 4)) then
    bif (qcatOk (ByteArray.mk #[48, 120]) (qtext (D.list [(D.int (qidxS (ByteArray.mk #[48, 49, 50, 51, 52, 53, 54, 55, 56, 57, 97, 98, 99, 100, 101, 102, 103, 104, 105, 106, 107, 108, 109, 110, 111, 112, 113, 114, 115, 116, 117, 118, 119, 120, 121, 122]) (qbin BinOp.shr IntKind.u64 (qbin BinOp.shr IntKind.u64 (qbin BinOp.shr IntKind.u64 (qbin BinOp.shr IntKind.u64 (qbin BinOp.shr IntKind.u64 (qbin BinOp.shr IntKind.u64 (qbin BinOp.shr IntKind.u64 (qwrap IntKind.u64 sn0) 4) 4) 4) 4) 4) 4) 4))), (D.int (qidxS (ByteArray.mk #[48, 49, 50, 51, 52, 53, 54, 55, 56, 57, 97, 98, 99, 100, 101, 102, 103, 104, 105, 106, 107, 108, 109, 110, 111, 112, 113, 114, 115, 116, 117, 118, 119, 120, 121, 122]) (qbin BinOp.and IntKind.u64 (qbin BinOp.shr IntKind.u64 (qbin BinOp.shr IntKind.u64 (qbin BinOp.shr IntKind.u64 (qbin BinOp.shr IntKind.u64 (qbin BinOp.shr IntKind.u64 (qbin BinOp.shr IntKind.u64 (qwrap IntKind.u64 sn0) 4) 4) 4) 4) 4) 4) 15))), (D.int (qidxS (ByteArray.mk #[48, 49, 50, 51, 52, 53, 54, 55, 56, 57, 97, 98, 99, 100, 101, 102, 103, 104, 105, 106, 107, 108, 109, 110, 111, 112, 113, 114, 115, 116, 117, 118, 119, 120, 121, 122]) (qbin BinOp.and IntKind.u64 (qbin BinOp.shr IntKind.u64 (qbin BinOp.shr IntKind.u64 (qbin BinOp.shr IntKind.u64 (qbin BinOp.shr IntKind.u64 (qbin BinOp.shr IntKind.u64 (qwrap IntKind.u64 sn0) 4) 4) 4) 4) 4) 15))), (D.int (qidxS (ByteArray.mk #[48, 49, 50, 51, 52, 53, 54, 55, 56, 57, 97, 98, 99, 100, 101, 102, 103, 104, 105, 106, 107, 108, 109, 110, 111, 112, 113, 114, 115, 116, 117, 118, 119, 120, 121, 122]) (qbin BinOp.and IntKind.u64 (qbin BinOp.shr IntKind.u64 (qbin BinOp.shr IntKind.u64 (qbin BinOp.shr IntKind.u64 (qbin BinOp.shr IntKind.u64 (qwrap IntKind.u64 sn0) 4) 4) 4) 4) 15))), (D.int (qidxS (ByteArray.mk #[48, 49, 50, 51, 52, 53, 54, 55, 56, 57, 97, 98, 99, 100, 101, 102, 103, 104, 105, 106, 107, 108, 109, 110, 111, 112, 113, 114, 115, 116, 117, 118, 119, 120, 121, 122]) (qbin BinOp.and IntKind.u64 (qbin BinOp.shr IntKind.u64 (qbin BinOp.shr IntKind.u64 (qbin BinOp.shr IntKind.u64 (qwrap IntKind.u64 sn0) 4) 4) 4) 15))), (D.int (qidxS (ByteArray.mk #[48, 49, 50, 51, 52, 53, 54, 55, 56, 57, 97, 98, 99, 100, 101, 102, 103, 104, 105, 106, 107, 108, 109, 110, 111, 112, 113, 114, 115, 116, 117, 118, 119, 120, 121, 122]) (qbin BinOp.and IntKind.u64 (qbin BinOp.shr IntKind.u64 (qbin BinOp.shr IntKind.u64 (qwrap IntKind.u64 sn0) 4) 4) 15))), (D.int (qidxS (ByteArray.mk #[48, 49, 50, 51, 52, 53, 54, 55, 56, 57, 97, 98, 99, 100, 101, 102, 103, 104, 105, 106, 107, 108, 109, 110, 111, 112, 113, 114, 115, 116, 117, 118, 119, 120, 121, 122]) (qbin BinOp.and IntKind.u64 (qbin BinOp.shr IntKind.u64 (qwrap IntKind.u64 sn0) 4) 15))), (D.int (qidxS (ByteArray.mk #[48, 49, 50, 51, 52, 53, 54, 55, 56, 57, 97, 98, 99, 100, 101, 102, 103, 104, 105, 106, 107, 108, 109, 110, 111, 112, 113, 114, 115, 116, 117, 118, 119, 120, 121, 122]) (qbin BinOp.and IntKind.u64 (qwrap IntKind.u64 sn0) 15)))]))) then
    some [(D.str (qcat (ByteArray.mk #[48, 120]) (qtext (D.list [(D.int (qidxS (ByteArray.mk #[48, 49, 50, 51, 52, 53, 54, 55, 56, 57, 97, 98, 99, 100, 101, 102, 103, 104, 105, 106, 107, 108, 109, 110, 111, 112, 113, 114, 115, 116, 117, 118, 119, 120, 121, 122]) (qbin BinOp.shr IntKind.u64 (qbin BinOp.shr IntKind.u64 (qbin BinOp.shr IntKind.u64 (qbin BinOp.shr IntKind.u64 (qbin BinOp.shr IntKind.u64 (qbin BinOp.shr IntKind.u64 (qbin BinOp.shr IntKind.u64 (qwrap IntKind.u64 sn0) 4) 4) 4) 4) 4) 4) 4))), (D.int (qidxS (ByteArray.mk #[48, 49, 50, 51, 52, 53, 54, 55, 56, 57, 97, 98, 99, 100, 101, 102, 103, 104, 105, 106, 107, 108, 109, 110, 111, 112, 113, 114, 115, 116, 117, 118, 119, 120, 121, 122]) (qbin BinOp.and IntKind.u64 (qbin BinOp.shr IntKind.u64 (qbin BinOp.shr IntKind.u64 (qbin BinOp.shr IntKind.u64 (qbin BinOp.shr IntKind.u64 (qbin BinOp.shr IntKind.u64 (qbin BinOp.shr IntKind.u64 (qwrap IntKind.u64 sn0) 4) 4) 4) 4) 4) 4) 15))), (D.int (qidxS (ByteArray.mk #[48, 49, 50, 51, 52, 53, 54, 55, 56, 57, 97, 98, 99, 100, 101, 102, 103, 104, 105, 106, 107, 108, 109, 110, 111, 112, 113, 114, 115, 116, 117, 118, 119, 120, 121, 122]) (qbin BinOp.and IntKind.u64 (qbin BinOp.shr IntKind.u64 (qbin BinOp.shr IntKind.u64 (qbin BinOp.shr IntKind.u64 (qbin BinOp.shr IntKind.u64 (qbin BinOp.shr IntKind.u64 (qwrap IntKind.u64 sn0) 4) 4) 4) 4) 4) 15))), (D.int (qidxS (ByteArray.mk #[48, 49, 50, 51, 52, 53, 54, 55, 56, 57, 97, 98, 99, 100, 101, 102, 103, 104, 105, 106, 107, 108, 109, 110, 111, 112, 113, 114, 115, 116, 117, 118, 119, 120, 121, 122]) (qbin BinOp.and IntKind.u64 (qbin BinOp.shr IntKind.u64 (qbin BinOp.shr IntKind.u64 (qbin BinOp.shr IntKind.u64 (qbin BinOp.shr IntKind.u64 (qwrap IntKind.u64 sn0) 4) 4) 4) 4) 15))), (D.int (qidxS (ByteArray.mk #[48, 49, 50, 51, 52, 53, 54, 55, 56, 57, 97, 98, 99, 100, 101, 102, 103, 104, 105, 106, 107, 108, 109, 110, 111, 112, 113, 114, 115, 116, 117, 118, 119, 120, 121, 122]) (qbin BinOp.and IntKind.u64 (qbin BinOp.shr IntKind.u64 (qbin BinOp.shr IntKind.u64 (qbin BinOp.shr IntKind.u64 (qwrap IntKind.u64 sn0) 4) 4) 4) 15))), (D.int (qidxS (ByteArray.mk #[48, 49, 50, 51, 52, 53, 54, 55, 56, 57, 97, 98, 99, 100, 101, 102, 103, 104, 105, 106, 107, 108, 109, 110, 111, 112, 113, 114, 115, 116, 117, 118, 119, 120, 121, 122]) (qbin BinOp.and IntKind.u64 (qbin BinOp.shr IntKind.u64 (qbin BinOp.shr IntKind.u64 (qwrap IntKind.u64 sn0) 4) 4) 15))), (D.int (qidxS (ByteArray.mk #[48, 49, 50, 51, 52, 53, 54, 55, 56, 57, 97, 98, 99, 100, 101, 102, 103, 104, 105, 106, 107, 108, 109, 110, 111, 112, 113, 114, 115, 116, 117, 118, 119, 120, 121, 122]) (qbin BinOp.and IntKind.u64 (qbin BinOp.shr IntKind.u64 (qwrap IntKind.u64 sn0) 4) 15))), (D.int (qidxS (ByteArray.mk #[48, 49, 50, 51, 52, 53, 54, 55, 56, 57, 97, 98, 99, 100, 101, 102, 103, 104, 105, 106, 107, 108, 109, 110, 111, 112, 113, 114, 115, 116, 117, 118, 119, 120, 121, 122]) (qbin BinOp.and IntKind.u64 (qwrap IntKind.u64 sn0) 15)))]))))]
    else
    none
    else
    none
    else
    none
    else
    bif (qinbS (ByteArray.mk #[48, 49, 50, 51, 52, 53, 54, 55, 56, 57, 97, 98, 99, 100, 101, 102, 103, 104, 105, 106, 107, 108, 109, 110, 111, 112, 113, 114, 115, 116, 117, 118, 119, 120, 121, 122]) (qbin BinOp.shr IntKind.u64 (qbin BinOp.shr IntKind.u64 (qbin BinOp.shr IntKind.u64 (qbin BinOp.shr IntKind.u64 (qbin BinOp.shr IntKind.u64 (qbin BinOp.shr IntKind.u64 (qwrap IntKind.u64 sn0) 4) 4) 4) 4) 4) 4)) then
    bif (qcatOk (ByteArray.mk #[48, 120]) (qtext (D.list [(D.int (qidxS (ByteArray.mk #[48, 49, 50, 51, 52, 53, 54, 55, 56, 57, 97, 98, 99, 100, 101, 102, 103, 104, 105, 106, 107, 108, 109, 110, 111, 112, 113, 114, 115, 116, 117, 118, 119, 120, 121, 122]) (qbin BinOp.shr IntKind.u64 (qbin BinOp.shr IntKind.u64 (qbin BinOp.shr IntKind.u64 (qbin BinOp.shr IntKind.u64 (qbin BinOp.shr IntKind.u64 (qbin BinOp.shr IntKind.u64 (qwrap IntKind.u64 sn0) 4) 4) 4) 4) 4) 4))), (D.int (qidxS (ByteArray.mk #[48, 49, 50, 51, 52, 53, 54, 55, 56, 57, 97, 98, 99, 100, 101, 102, 103, 104, 105, 106, 107, 108, 109, 110, 111, 112, 113, 114, 115, 116, 117, 118, 119, 120, 121, 122]) (qbin BinOp.and IntKind.u64 (qbin BinOp.shr IntKind.u64 (qbin BinOp.shr IntKind.u64 (qbin BinOp.shr IntKind.u64 (qbin BinOp.shr IntKind.u64 (qbin BinOp.shr IntKind.u64 (qwrap IntKind.u64 sn0) 4) 4) 4) 4) 4) 15))), (D.int (qidxS (ByteArray.mk #[48, 49, 50, 51, 52, 53, 54, 55, 56, 57, 97, 98, 99, 100, 101, 102, 103, 104, 105, 106, 107, 108, 109, 110, 111, 112, 113, 114, 115, 116, 117, 118, 119, 120, 121, 122]) (qbin BinOp.and IntKind.u64 (qbin BinOp.shr IntKind.u64 (qbin BinOp.shr IntKind.u64 (qbin BinOp.shr IntKind.u64 (qbin BinOp.shr IntKind.u64 (qwrap IntKind.u64 sn0) 4) 4) 4) 4) 15))), (D.int (qidxS (ByteArray.mk #[48, 49, 50, 51, 52, 53, 54, 55, 56, 57, 97, 98, 99, 100, 101, 102, 103, 104, 105, 106, 107, 108, 109, 110, 111, 112, 113, 114, 115, 116, 117, 118, 119, 120, 121, 122]) (qbin BinOp.and IntKind.u64 (qbin BinOp.shr IntKind.u64 (qbin BinOp.shr IntKind.u64 (qbin BinOp.shr IntKind.u64 (qwrap IntKind.u64 sn0) 4) 4) 4) 15))), (D.int (qidxS (ByteArray.mk #[48, 49, 50, 51, 52, 53, 54, 55, 56, 57, 97, 98, 99, 100, 101, 102, 103, 104, 105, 106, 107, 108, 109, 110, 111, 112, 113, 114, 115, 116, 117, 118, 119, 120, 121, 122]) (qbin BinOp.and IntKind.u64 (qbin BinOp.shr IntKind.u64 (qbin BinOp.shr IntKind.u64 (qwrap IntKind.u64 sn0) 4) 4) 15))), (D.int (qidxS (ByteArray.mk #[48, 49, 50, 51, 52, 53, 54, 55, 56, 57, 97, 98, 99, 100, 101, 102, 103, 104, 105, 106, 107, 108, 109, 110, 111, 112, 113, 114, 115, 116, 117, 118, 119, 120, 121, 122]) (qbin BinOp.and IntKind.u64 (qbin BinOp.shr IntKind.u64 (qwrap IntKind.u64 sn0) 4) 15))), (D.int (qidxS (ByteArray.mk #[48, 49, 50, 51, 52, 53, 54, 55, 56, 57, 97, 98, 99, 100, 101, 102, 103, 104, 105, 106, 107, 108, 109, 110, 111, 112, 113, 114, 115, 116, 117, 118, 119, 120, 121, 122]) (qbin BinOp.and IntKind.u64 (qwrap IntKind.u64 sn0) 15)))]))) then
    some [(D.str (qcat (ByteArray.mk #[48, 120]) (qtext (D.list [(D.int (qidxS (ByteArray.mk #[48, 49, 50, 51, 52, 53, 54, 55, 56, 57, 97, 98, 99, 100, 101, 102, 103, 104, 105, 106, 107, 108, 109, 110, 111, 112, 113, 114, 115, 116, 117, 118, 119, 120, 121, 122]) (qbin BinOp.shr IntKind.u64 (qbin BinOp.shr IntKind.u64 (qbin BinOp.shr IntKind.u64 (qbin BinOp.shr IntKind.u64 (qbin BinOp.shr IntKind.u64 (qbin BinOp.shr IntKind.u64 (qwrap IntKind.u64 sn0) 4) 4) 4) 4) 4) 4))), (D.int (qidxS (ByteArray.mk #[48, 49, 50, 51, 52, 53, 54, 55, 56, 57, 97, 98, 99, 100, 101, 102, 103, 104, 105, 106, 107, 108, 109, 110, 111, 112, 113, 114, 115, 116, 117, 118, 119, 120, 121, 122]) (qbin BinOp.and IntKind.u64 (qbin BinOp.shr IntKind.u64 (qbin BinOp.shr IntKind.u64 (qbin BinOp.shr IntKind.u64 (qbin BinOp.shr IntKind.u64 (qbin BinOp.shr IntKind.u64 (qwrap IntKind.u64 sn0) 4) 4) 4) 4) 4) 15))), (D.int (qidxS (ByteArray.mk #[48, 49, 50, 51, 52, 53, 54, 55, 56, 57, 97, 98, 99, 100, 101, 102, 103, 104, 105, 106, 107, 108, 109, 110, 111, 112, 113, 114, 115, 116, 117, 118, 119, 120, 121, 122]) (qbin BinOp.and IntKind.u64 (qbin BinOp.shr IntKind.u64 (qbin BinOp.shr IntKind.u64 (qbin BinOp.shr IntKind.u64 (qbin BinOp.shr IntKind.u64 (qwrap IntKind.u64 sn0) 4) 4) 4) 4) 15))), (D.int (qidxS (ByteArray.mk #[48, 49, 50, 51, 52, 53, 54, 55, 56, 57, 97, 98, 99, 100, 101, 102, 103, 104, 105, 106, 107, 108, 109, 110, 111, 112, 113, 114, 115, 116, 117, 118, 119, 120, 121, 122]) (qbin BinOp.and IntKind.u64 (qbin BinOp.shr IntKind.u64 (qbin BinOp.shr IntKind.u64 (qbin BinOp.shr IntKind.u64 (qwrap IntKind.u64 sn0) 4) 4) 4) 15))), (D.int (qidxS (ByteArray.mk #[48, 49, 50, 51, 52, 53, 54, 55, 56, 57, 97, 98, 99, 100, 101, 102, 103, 104, 105, 106, 107, 108, 109, 110, 111, 112, 113, 114, 115, 116, 117, 118, 119, 120, 121, 122]) (qbin BinOp.and IntKind.u64 (qbin BinOp.shr IntKind.u64 (qbin BinOp.shr IntKind.u64 (qwrap IntKind.u64 sn0) 4) 4) 15))), (D.int (qidxS (ByteArray.mk #[48, 49, 50, 51, 52, 53, 54, 55, 56, 57, 97, 98, 99, 100, 101, 102, 103, 104, 105, 106, 107, 108, 109, 110, 111, 112, 113, 114, 115, 116, 117, 118, 119, 120, 121, 122]) (qbin BinOp.and IntKind.u64 (qbin BinOp.shr IntKind.u64 (qwrap IntKind.u64 sn0) 4) 15))), (D.int (qidxS (ByteArray.mk #[48, 49, 50, 51, 52, 53, 54, 55, 56, 57, 97, 98, 99, 100, 101, 102, 103, 104, 105, 106, 107, 108, 109, 110, 111, 112, 113, 114, 115, 116, 117, 118, 119, 120, 121, 122]) (qbin BinOp.and IntKind.u64 (qwrap IntKind.u64 sn0) 15)))]))))]
    else
    none
    else
    none
    else
    none
    else
    bif (qinbS (ByteArray.mk #[48, 49, 50, 51, 52, 53, 54, 55, 56, 57, 97, 98, 99, 100, 101, 102, 103, 104, 105, 106, 107, 108, 109, 110, 111, 112, 113, 114, 115, 116, 117, 118, 119, 120, 121, 122]) (qbin BinOp.shr IntKind.u64 (qbin BinOp.shr IntKind.u64 (qbin BinOp.shr IntKind.u64 (qbin BinOp.shr IntKind.u64 (qbin BinOp.shr IntKind.u64 (qwrap IntKind.u64 sn0) 4) 4) 4) 4) 4)) then
    bif (qcatOk (ByteArray.mk #[48, 120]) (qtext (D.list [(D.int (qidxS (ByteArray.mk #[48, 49, 50, 51, 52, 53, 54, 55, 56, 57, 97, 98, 99, 100, 101, 102, 103, 104, 105, 106, 107, 108, 109, 110, 111, 112, 113, 114, 115, 116, 117, 118, 119, 120, 121, 122]) (qbin BinOp.shr IntKind.u64 (qbin BinOp.shr IntKind.u64 (qbin BinOp.shr IntKind.u64 (qbin BinOp.shr IntKind.u64 (qbin BinOp.shr IntKind.u64 (qwrap IntKind.u64 sn0) 4) 4) 4) 4) 4))), (D.int (qidxS (ByteArray.mk #[48, 49, 50, 51, 52, 53, 54, 55, 56, 57, 97, 98, 99, 100, 101, 102, 103, 104, 105, 106, 107, 108, 109, 110, 111, 112, 113, 114, 115, 116, 117, 118, 119, 120, 121, 122]) (qbin BinOp.and IntKind.u64 (qbin BinOp.shr IntKind.u64 (qbin BinOp.shr IntKind.u64 (qbin BinOp.shr IntKind.u64 (qbin BinOp.shr IntKind.u64 (qwrap IntKind.u64 sn0) 4) 4) 4) 4) 15))), (D.int (qidxS (ByteArray.mk #[48, 49, 50, 51, 52, 53, 54, 55, 56, 57, 97, 98, 99, 100, 101, 102, 103, 104, 105, 106, 107, 108, 109, 110, 111, 112, 113, 114, 115, 116, 117, 118, 119, 120, 121, 122]) (qbin BinOp.and IntKind.u64 (qbin BinOp.shr IntKind.u64 (qbin BinOp.shr IntKind.u64 (qbin BinOp.shr IntKind.u64 (qwrap IntKind.u64 sn0) 4) 4) 4) 15))), (D.int (qidxS (ByteArray.mk #[48, 49, 50, 51, 52, 53, 54, 55, 56, 57, 97, 98, 99, 100, 101, 102, 103, 104, 105, 106, 107, 108, 109, 110, 111, 112, 113, 114, 115, 116, 117, 118, 119, 120, 121, 122]) (qbin BinOp.and IntKind.u64 (qbin BinOp.shr IntKind.u64 (qbin BinOp.shr IntKind.u64 (qwrap IntKind.u64 sn0) 4) 4) 15))), (D.int (qidxS (ByteArray.mk #[48, 49, 50, 51, 52, 53, 54, 55, 56, 57, 97, 98, 99, 100, 101, 102, 103, 104, 105, 106, 107, 108, 109, 110, 111, 112, 113, 114, 115, 116, 117, 118, 119, 120, 121, 122]) (qbin BinOp.and IntKind.u64 (qbin BinOp.shr IntKind.u64 (qwrap IntKind.u64 sn0) 4) 15))), (D.int (qidxS (ByteArray.mk #[48, 49, 50, 51, 52, 53, 54, 55, 56, 57, 97, 98, 99, 100, 101, 102, 103, 104, 105, 106, 107, 108, 109, 110, 111, 112, 113, 114, 115, 116, 117, 118, 119, 120, 121, 122]) (qbin BinOp.and IntKind.u64 (qwrap IntKind.u64 sn0) 15)))]))) then
    some [(D.str (qcat (ByteArray.mk #[48, 120]) (qtext (D.list [(D.int (qidxS (ByteArray.mk #[48, 49, 50, 51, 52, 53, 54, 55, 56, 57, 97, 98, 99, 100, 101, 102, 103, 104, 105, 106, 107, 108, 109, 110, 111, 112, 113, 114, 115, 116, 117, 118, 119, 120, 121, 122]) (qbin BinOp.shr IntKind.u64 (qbin BinOp.shr IntKind.u64 (qbin BinOp.shr IntKind.u64 (qbin BinOp.shr IntKind.u64 (qbin BinOp.shr IntKind.u64 (qwrap IntKind.u64 sn0) 4) 4) 4) 4) 4))), (D.int (qidxS (ByteArray.mk #[48, 49, 50, 51, 52, 53, 54, 55, 56, 57, 97, 98, 99, 100, 101, 102, 103, 104, 105, 106, 107, 108, 109, 110, 111, 112, 113, 114, 115, 116, 117, 118, 119, 120, 121, 122]) (qbin BinOp.and IntKind.u64 (qbin BinOp.shr IntKind.u64 (qbin BinOp.shr IntKind.u64 (qbin BinOp.shr IntKind.u64 (qbin BinOp.shr IntKind.u64 (qwrap IntKind.u64 sn0) 4) 4) 4) 4) 15))), (D.int (qidxS (ByteArray.mk #[48, 49, 50, 51, 52, 53, 54, 55, 56, 57, 97, 98, 99, 100, 101, 102, 103, 104, 105, 106, 107, 108, 109, 110, 111, 112, 113, 114, 115, 116, 117, 118, 119, 120, 121, 122]) (qbin BinOp.and IntKind.u64 (qbin BinOp.shr IntKind.u64 (qbin BinOp.shr IntKind.u64 (qbin BinOp.shr IntKind.u64 (qwrap IntKind.u64 sn0) 4) 4) 4) 15))), (D.int (qidxS (ByteArray.mk #[48, 49, 50, 51, 52, 53, 54, 55, 56, 57, 97, 98, 99, 100, 101, 102, 103, 104, 105, 106, 107, 108, 109, 110, 111, 112, 113, 114, 115, 116, 117, 118, 119, 120, 121, 122]) (qbin BinOp.and IntKind.u64 (qbin BinOp.shr IntKind.u64 (qbin BinOp.shr IntKind.u64 (qwrap IntKind.u64 sn0) 4) 4) 15))), (D.int (qidxS (ByteArray.mk #[48, 49, 50, 51, 52, 53, 54, 55, 56, 57, 97, 98, 99, 100, 101, 102, 103, 104, 105, 106, 107, 108, 109, 110, 111, 112, 113, 114, 115, 116, 117, 118, 119, 120, 121, 122]) (qbin BinOp.and IntKind.u64 (qbin BinOp.shr IntKind.u64 (qwrap IntKind.u64 sn0) 4) 15))), (D.int (qidxS (ByteArray.mk #[48, 49, 50, 51, 52, 53, 54, 55, 56, 57, 97, 98, 99, 100, 101, 102, 103, 104, 105, 106, 107, 108, 109, 110, 111, 112, 113, 114, 115, 116, 117, 118, 119, 120, 121, 122]) (qbin BinOp.and IntKind.u64 (qwrap IntKind.u64 sn0) 15)))]))))]
    else
    none
    else
    none
    else
    none
    else
    bif (qinbS (ByteArray.mk #[48, 49, 50, 51, 52, 53, 54, 55, 56, 57, 97, 98, 99, 100, 101, 102, 103, 104, 105, 106, 107, 108, 109, 110, 111, 112, 113, 114, 115, 116, 117, 118, 119, 120, 121, 122]) (qbin BinOp.shr IntKind.u64 (qbin BinOp.shr IntKind.u64 (qbin BinOp.shr IntKind.u64 (qbin BinOp.shr IntKind.u64 (qwrap IntKind.u64 sn0) 4) 4) 4) 4)) then
    bif (qcatOk (ByteArray.mk #[48, 120]) (qtext (D.list [(D.int (qidxS (ByteArray.mk #[48, 49, 50, 51, 52, 53, 54, 55, 56, 57, 97, 98, 99, 100, 101, 102, 103, 104, 105, 106, 107, 108, 109, 110, 111, 112, 113, 114, 115, 116, 117, 118, 119, 120, 121, 122]) (qbin BinOp.shr IntKind.u64 (qbin BinOp.shr IntKind.u64 (qbin BinOp.shr IntKind.u64 (qbin BinOp.shr IntKind.u64 (qwrap IntKind.u64 sn0) 4) 4) 4) 4))), (D.int (qidxS (ByteArray.mk #[48, 49, 50, 51, 52, 53, 54, 55, 56, 57, 97, 98, 99, 100, 101, 102, 103, 104, 105, 106, 107, 108, 109, 110, 111, 112, 113, 114, 115, 116, 117, 118, 119, 120, 121, 122]) (qbin BinOp.and IntKind.u64 (qbin BinOp.shr IntKind.u64 (qbin BinOp.shr IntKind.u64 (qbin BinOp.shr IntKind.u64 (qwrap IntKind.u64 sn0) 4) 4) 4) 15))), (D.int (qidxS (ByteArray.mk #[48, 49, 50, 51, 52, 53, 54, 55, 56, 57, 97, 98, 99, 100, 101, 102, 103, 104, 105, 106, 107, 108, 109, 110, 111, 112, 113, 114, 115, 116, 117, 118, 119, 120, 121, 122]) (qbin BinOp.and IntKind.u64 (qbin BinOp.shr IntKind.u64 (qbin BinOp.shr IntKind.u64 (qwrap IntKind.u64 sn0) 4) 4) 15))), (D.int (qidxS (ByteArray.mk #[48, 49, 50, 51, 52, 53, 54, 55, 56, 57, 97, 98, 99, 100, 101, 102, 103, 104, 105, 106, 107, 108, 109, 110, 111, 112, 113, 114, 115, 116, 117, 118, 119, 120, 121, 122]) (qbin BinOp.and IntKind.u64 (qbin BinOp.shr IntKind.u64 (qwrap IntKind.u64 sn0) 4) 15))), (D.int (qidxS (ByteArray.mk #[48, 49, 50, 51, 52, 53, 54, 55, 56, 57, 97, 98, 99, 100, 101, 102, 103, 104, 105, 106, 107, 108, 109, 110, 111, 112, 113, 114, 115, 116, 117, 118, 119, 120, 121, 122]) (qbin BinOp.and IntKind.u64 (qwrap IntKind.u64 sn0) 15)))]))) then
    some [(D.str (qcat (ByteArray.mk #[48, 120]) (qtext (D.list [(D.int (qidxS (ByteArray.mk #[48, 49, 50, 51, 52, 53, 54, 55, 56, 57, 97, 98, 99, 100, 101, 102, 103, 104, 105, 106, 107, 108, 109, 110, 111, 112, 113, 114, 115, 116, 117, 118, 119, 120, 121, 122]) (qbin BinOp.shr IntKind.u64 (qbin BinOp.shr IntKind.u64 (qbin BinOp.shr IntKind.u64 (qbin BinOp.shr IntKind.u64 (qwrap IntKind.u64 sn0) 4) 4) 4) 4))), (D.int (qidxS (ByteArray.mk #[48, 49, 50, 51, 52, 53, 54, 55, 56, 57, 97, 98, 99, 100, 101, 102, 103, 104, 105, 106, 107, 108, 109, 110, 111, 112, 113, 114, 115, 116, 117, 118, 119, 120, 121, 122]) (qbin BinOp.and IntKind.u64 (qbin BinOp.shr IntKind.u64 (qbin BinOp.shr IntKind.u64 (qbin BinOp.shr IntKind.u64 (qwrap IntKind.u64 sn0) 4) 4) 4) 15))), (D.int (qidxS (ByteArray.mk #[48, 49, 50, 51, 52, 53, 54, 55, 56, 57, 97, 98, 99, 100, 101, 102, 103, 104, 105, 106, 107, 108, 109, 110, 111, 112, 113, 114, 115, 116, 117, 118, 119, 120, 121, 122]) (qbin BinOp.and IntKind.u64 (qbin BinOp.shr IntKind.u64 (qbin BinOp.shr IntKind.u64 (qwrap IntKind.u64 sn0) 4) 4) 15))), (D.int (qidxS (ByteArray.mk #[48, 49, 50, 51, 52, 53, 54, 55, 56, 57, 97, 98, 99, 100, 101, 102, 103, 104, 105, 106, 107, 108, 109, 110, 111, 112, 113, 114, 115, 116, 117, 118, 119, 120, 121, 122]) (qbin BinOp.and IntKind.u64 (qbin BinOp.shr IntKind.u64 (qwrap IntKind.u64 sn0) 4) 15))), (D.int (qidxS (ByteArray.mk #[48, 49, 50, 51, 52, 53, 54, 55, 56, 57, 97, 98, 99, 100, 101, 102, 103, 104, 105, 106, 107, 108, 109, 110, 111, 112, 113, 114, 115, 116, 117, 118, 119, 120, 121, 122]) (qbin BinOp.and IntKind.u64 (qwrap IntKind.u64 sn0) 15)))]))))]
    else
    none
    else
    none
    else
    none
    else
    bif (qinbS (ByteArray.mk #[48, 49, 50, 51, 52, 53, 54, 55, 56, 57, 97, 98, 99, 100, 101, 102, 103, 104, 105, 106, 107, 108, 109, 110, 111, 112, 113, 114, 115, 116, 117, 118, 119, 120, 121, 122]) (qbin BinOp.shr IntKind.u64 (qbin BinOp.shr IntKind.u64 (qbin BinOp.shr IntKind.u64 (qwrap IntKind.u64 sn0) 4) 4) 4)) then
    bif (qcatOk (ByteArray.mk #[48, 120]) (qtext (D.list [(D.int (qidxS (ByteArray.mk #[48, 49, 50, 51, 52, 53, 54, 55, 56, 57, 97, 98, 99, 100, 101, 102, 103, 104, 105, 106, 107, 108, 109, 110, 111, 112, 113, 114, 115, 116, 117, 118, 119, 120, 121, 122]) (qbin BinOp.shr IntKind.u64 (qbin BinOp.shr IntKind.u64 (qbin BinOp.shr IntKind.u64 (qwrap IntKind.u64 sn0) 4) 4) 4))), (D.int (qidxS (ByteArray.mk #[48, 49, 50, 51, 52, 53, 54, 55, 56, 57, 97, 98, 99, 100, 101, 102, 103, 104, 105, 106, 107, 108, 109, 110, 111, 112, 113, 114, 115, 116, 117, 118, 119, 120, 121, 122]) (qbin BinOp.and IntKind.u64 (qbin BinOp.shr IntKind.u64 (qbin BinOp.shr IntKind.u64 (qwrap IntKind.u64 sn0) 4) 4) 15))), (D.int (qidxS (ByteArray.mk #[48, 49, 50, 51, 52, 53, 54, 55, 56, 57, 97, 98, 99, 100, 101, 102, 103, 104, 105, 106, 107, 108, 109, 110, 111, 112, 113, 114, 115, 116, 117, 118, 119, 120, 121, 122]) (qbin BinOp.and IntKind.u64 (qbin BinOp.shr IntKind.u64 (qwrap IntKind.u64 sn0) 4) 15))), (D.int (qidxS (ByteArray.mk #[48, 49, 50, 51, 52, 53, 54, 55, 56, 57, 97, 98, 99, 100, 101, 102, 103, 104, 105, 106, 107, 108, 109, 110, 111, 112, 113, 114, 115, 116, 117, 118, 119, 120, 121, 122]) (qbin BinOp.and IntKind.u64 (qwrap IntKind.u64 sn0) 15)))]))) then
    some [(D.str (qcat (ByteArray.mk #[48, 120]) (qtext (D.list [(D.int (qidxS (ByteArray.mk #[48, 49, 50, 51, 52, 53, 54, 55, 56, 57, 97, 98, 99, 100, 101, 102, 103, 104, 105, 106, 107, 108, 109, 110, 111, 112, 113, 114, 115, 116, 117, 118, 119, 120, 121, 122]) (qbin BinOp.shr IntKind.u64 (qbin BinOp.shr IntKind.u64 (qbin BinOp.shr IntKind.u64 (qwrap IntKind.u64 sn0) 4) 4) 4))), (D.int (qidxS (ByteArray.mk #[48, 49, 50, 51, 52, 53, 54, 55, 56, 57, 97, 98, 99, 100, 101, 102, 103, 104, 105, 106, 107, 108, 109, 110, 111, 112, 113, 114, 115, 116, 117, 118, 119, 120, 121, 122]) (qbin BinOp.and IntKind.u64 (qbin BinOp.shr IntKind.u64 (qbin BinOp.shr IntKind.u64 (qwrap IntKind.u64 sn0) 4) 4) 15))), (D.int (qidxS (ByteArray.mk #[48, 49, 50, 51, 52, 53, 54, 55, 56, 57, 97, 98, 99, 100, 101, 102, 103, 104, 105, 106, 107, 108, 109, 110, 111, 112, 113, 114, 115, 116, 117, 118, 119, 120, 121, 122]) (qbin BinOp.and IntKind.u64 (qbin BinOp.shr IntKind.u64 (qwrap IntKind.u64 sn0) 4) 15))), (D.int (qidxS (ByteArray.mk #[48, 49, 50, 51, 52, 53, 54, 55, 56, 57, 97, 98, 99, 100, 101, 102, 103, 104, 105, 106, 107, 108, 109, 110, 111, 112, 113, 114, 115, 116, 117, 118, 119, 120, 121, 122]) (qbin BinOp.and IntKind.u64 (qwrap IntKind.u64 sn0) 15)))]))))]
    else
    none
    else
    none
    else
    none
    else
    bif (qinbS (ByteArray.mk #[48, 49, 50, 51, 52, 53, 54, 55, 56, 57, 97, 98, 99, 100, 101, 102, 103, 104, 105, 106, 107, 108, 109, 110, 111, 112, 113, 114, 115, 116, 117, 118, 119, 120, 121, 122]) (qbin BinOp.shr IntKind.u64 (qbin BinOp.shr IntKind.u64 (qwrap IntKind.u64 sn0) 4) 4)) then
    bif (qcatOk (ByteArray.mk #[48, 120]) (qtext (D.list [(D.int (qidxS (ByteArray.mk #[48, 49, 50, 51, 52, 53, 54, 55, 56, 57, 97, 98, 99, 100, 101, 102, 103, 104, 105, 106, 107, 108, 109, 110, 111, 112, 113, 114, 115, 116, 117, 118, 119, 120, 121, 122]) (qbin BinOp.shr IntKind.u64 (qbin BinOp.shr IntKind.u64 (qwrap IntKind.u64 sn0) 4) 4))), (D.int (qidxS (ByteArray.mk #[48, 49, 50, 51, 52, 53, 54, 55, 56, 57, 97, 98, 99, 100, 101, 102, 103, 104, 105, 106, 107, 108, 109, 110, 111, 112, 113, 114, 115, 116, 117, 118, 119, 120, 121, 122]) (qbin BinOp.and IntKind.u64 (qbin BinOp.shr IntKind.u64 (qwrap IntKind.u64 sn0) 4) 15))), (D.int (qidxS (ByteArray.mk #[48, 49, 50, 51, 52, 53, 54, 55, 56, 57, 97, 98, 99, 100, 101, 102, 103, 104, 105, 106, 107, 108, 109, 110, 111, 112, 113, 114, 115, 116, 117, 118, 119, 120, 121, 122]) (qbin BinOp.and IntKind.u64 (qwrap IntKind.u64 sn0) 15)))]))) then
    some [(D.str (qcat (ByteArray.mk #[48, 120]) (qtext (D.list [(D.int (qidxS (ByteArray.mk #[48, 49, 50, 51, 52, 53, 54, 55, 56, 57, 97, 98, 99, 100, 101, 102, 103, 104, 105, 106, 107, 108, 109, 110, 111, 112, 113, 114, 115, 116, 117, 118, 119, 120, 121, 122]) (qbin BinOp.shr IntKind.u64 (qbin BinOp.shr IntKind.u64 (qwrap IntKind.u64 sn0) 4) 4))), (D.int (qidxS (ByteArray.mk #[48, 49, 50, 51, 52, 53, 54, 55, 56, 57, 97, 98, 99, 100, 101, 102, 103, 104, 105, 106, 107, 108, 109, 110, 111, 112, 113, 114, 115, 116, 117, 118, 119, 120, 121, 122]) (qbin BinOp.and IntKind.u64 (qbin BinOp.shr IntKind.u64 (qwrap IntKind.u64 sn0) 4) 15))), (D.int (qidxS (ByteArray.mk #[48, 49, 50, 51, 52, 53, 54, 55, 56, 57, 97, 98, 99, 100, 101, 102, 103, 104, 105, 106, 107, 108, 109, 110, 111, 112, 113, 114, 115, 116, 117, 118, 119, 120, 121, 122]) (qbin BinOp.and IntKind.u64 (qwrap IntKind.u64 sn0) 15)))]))))]
    else
    none
    else
    none
    else
    none
    else
    bif (qinbS (ByteArray.mk #[48, 49, 50, 51, 52, 53, 54, 55, 56, 57, 97, 98, 99, 100, 101, 102, 103, 104, 105, 106, 107, 108, 109, 110, 111, 112, 113, 114, 115, 116, 117, 118, 119, 120, 121, 122]) (qbin BinOp.shr IntKind.u64 (qwrap IntKind.u64 sn0) 4)) then
    bif (qcatOk (ByteArray.mk #[48, 120]) (qtext (D.list [(D.int (qidxS (ByteArray.mk #[48, 49, 50, 51, 52, 53, 54, 55, 56, 57, 97, 98, 99, 100, 101, 102, 103, 104, 105, 106, 107, 108, 109, 110, 111, 112, 113, 114, 115, 116, 117, 118, 119, 120, 121, 122]) (qbin BinOp.shr IntKind.u64 (qwrap IntKind.u64 sn0) 4))), (D.int (qidxS (ByteArray.mk #[48, 49, 50, 51, 52, 53, 54, 55, 56, 57, 97, 98, 99, 100, 101, 102, 103, 104, 105, 106, 107, 108, 109, 110, 111, 112, 113, 114, 115, 116, 117, 118, 119, 120, 121, 122]) (qbin BinOp.and IntKind.u64 (qwrap IntKind.u64 sn0) 15)))]))) then
    some [(D.str (qcat (ByteArray.mk #[48, 120]) (qtext (D.list [(D.int (qidxS (ByteArray.mk #[48, 49, 50, 51, 52, 53, 54, 55, 56, 57, 97, 98, 99, 100, 101, 102, 103, 104, 105, 106, 107, 108, 109, 110, 111, 112, 113, 114, 115, 116, 117, 118, 119, 120, 121, 122]) (qbin BinOp.shr IntKind.u64 (qwrap IntKind.u64 sn0) 4))), (D.int (qidxS (ByteArray.mk #[48, 49, 50, 51, 52, 53, 54, 55, 56, 57, 97, 98, 99, 100, 101, 102, 103, 104, 105, 106, 107, 108, 109, 110, 111, 112, 113, 114, 115, 116, 117, 118, 119, 120, 121, 122]) (qbin BinOp.and IntKind.u64 (qwrap IntKind.u64 sn0) 15)))]))))]
    else
    none
    else
    none
    else
    none
    else
    bif (qinbS (ByteArray.mk #[48, 49, 50, 51, 52, 53, 54, 55, 56, 57, 97, 98, 99, 100, 101, 102, 103, 104, 105, 106, 107, 108, 109, 110, 111, 112, 113, 114, 115, 116, 117, 118, 119, 120, 121, 122]) (qwrap IntKind.u64 sn0)) then
    bif (qcatOk (ByteArray.mk #[48, 120]) (qtext (D.list [(D.int (qidxS (ByteArray.mk #[48, 49, 50, 51, 52, 53, 54, 55, 56, 57, 97, 98, 99, 100, 101, 102, 103, 104, 105, 106, 107, 108, 109, 110, 111, 112, 113, 114, 115, 116, 117, 118, 119, 120, 121, 122]) (qwrap IntKind.u64 sn0)))]))) then
    some [(D.str (qcat (ByteArray.mk #[48, 120]) (qtext (D.list [(D.int (qidxS (ByteArray.mk #[48, 49, 50, 51, 52, 53, 54, 55, 56, 57, 97, 98, 99, 100, 101, 102, 103, 104, 105, 106, 107, 108, 109, 110, 111, 112, 113, 114, 115, 116, 117, 118, 119, 120, 121, 122]) (qwrap IntKind.u64 sn0)))]))))]
    else
    none
    else
    none := by kernel_rfl
noncomputable def q25 : List D → Option (List D) := veil (F25 )
theorem q25_eq : q25  = F25  := veil_eq _
noncomputable def tb25 : Tb := Tb.addF tb56 25 S25 (q25 )
theorem ok_tb25 : TbOk env (tb25 ) := addFunK 9 ok_tb56 25 (by kernel_rfl) _ (q25_eq )
def S53 : FunS := ⟨[⟨true, (.int .u32)⟩], [], [⟨true, .str⟩], []⟩
noncomputable def F53 : List D → Option (List D) := liftX env tb25 60 12 53 S53
theorem F53_eq  (sn0 : Int) : F53  [(D.int sn0)] =
    bif (qcmp BinOp.leq (-9223372036854775808) (qwrap IntKind.i64 (qwrap IntKind.i32 sn0))) then
    bif (qcmp BinOp.leq (qwrap IntKind.i64 (qwrap IntKind.i32 sn0)) 9223372036854775807) then
    some [(D.str (qitoa (qwrap IntKind.i64 (qwrap IntKind.i32 sn0))))]
    else
    none
    else
    none := by kernel_rfl
noncomputable def q53 : List D → Option (List D) := veil (F53 )
theorem q53_eq : q53  = F53  := veil_eq _
noncomputable def tb53 : Tb := Tb.addF tb25 53 S53 (q53 )
theorem ok_tb53 : TbOk env (tb53 ) := addFunF ok_tb25 53 (by kernel_rfl) _ (q53_eq )
def S21 : FunS := ⟨[⟨true, (.int .i64)⟩], [], [⟨true, .str⟩], []⟩
noncomputable def F21 : List D → Option (List D) := liftX env tb53 60 12 21 S21
theorem F21_eq  (sn0 : Int) : F21  [(D.int sn0)] =
    bif (qcmp BinOp.leq (-9223372036854775808) sn0) then
    bif (qcmp BinOp.leq sn0 9223372036854775807) then
    bif (qcatOk (ByteArray.mk #[114]) (qitoa sn0)) then
    some [(D.str (qcat (ByteArray.mk #[114]) (qitoa sn0)))]
    else
    none
    else
    none
    else
    none := by kernel_rfl
noncomputable def q21 : List D → Option (List D) := veil (F21 )
theorem q21_eq : q21  = F21  := veil_eq _
noncomputable def tb21 : Tb := Tb.addF tb53 21 S21 (q21 )
theorem ok_tb21 : TbOk env (tb21 ) := addFunF ok_tb53 21 (by kernel_rfl) _ (q21_eq )
def S23 : FunS := ⟨[⟨true, (.dat 24)⟩], [], [⟨true, .str⟩], []⟩
noncomputable def F23 : List D → Option (List D) := liftX env tb21 60 12 23 S23
theorem F23_eq  (sd0 : D) : F23  [sd0] =
    bif (qcmp BinOp.eql (qint (qfld sd0 1)) 0) then
    bif (qsome (q21 [(D.int (qint (qfld sd0 7)))])) then
    bif (qcatOk (ByteArray.mk #[91]) (qstr (qnth (q21 [(D.int (qint (qfld sd0 7)))]) 0))) then
    bif (qcatOk (qcat (ByteArray.mk #[91]) (qstr (qnth (q21 [(D.int (qint (qfld sd0 7)))]) 0))) (ByteArray.mk #[93])) then
    some [(D.str (qcat (qcat (ByteArray.mk #[91]) (qstr (qnth (q21 [(D.int (qint (qfld sd0 7)))]) 0))) (ByteArray.mk #[93])))]
    else
    none
    else
    none
    else
    none
    else
    bif (qcmp BinOp.eql (qbin BinOp.shr IntKind.u32 (qint (qfld sd0 1)) 31) 0) then
    bif (qsome (q21 [(D.int (qint (qfld sd0 7)))])) then
    bif (qcatOk (ByteArray.mk #[91]) (qstr (qnth (q21 [(D.int (qint (qfld sd0 7)))]) 0))) then
    bif (qcatOk (qcat (ByteArray.mk #[91]) (qstr (qnth (q21 [(D.int (qint (qfld sd0 7)))]) 0))) (ByteArray.mk #[43])) then
    bif (qsome (q53 [(D.int (qint (qfld sd0 1)))])) then
    bif (qcatOk (qcat (qcat (ByteArray.mk #[91]) (qstr (qnth (q21 [(D.int (qint (qfld sd0 7)))]) 0))) (ByteArray.mk #[43])) (qstr (qnth (q53 [(D.int (qint (qfld sd0 1)))]) 0))) then
    bif (qcatOk (qcat (qcat (qcat (ByteArray.mk #[91]) (qstr (qnth (q21 [(D.int (qint (qfld sd0 7)))]) 0))) (ByteArray.mk #[43])) (qstr (qnth (q53 [(D.int (qint (qfld sd0 1)))]) 0))) (ByteArray.mk #[93])) then
    some [(D.str (qcat (qcat (qcat (qcat (ByteArray.mk #[91]) (qstr (qnth (q21 [(D.int (qint (qfld sd0 7)))]) 0))) (ByteArray.mk #[43])) (qstr (qnth (q53 [(D.int (qint (qfld sd0 1)))]) 0))) (ByteArray.mk #[93])))]
    else
    none
    else
    none
    else
    none
    else
    none
    else
    none
    else
    none
    else
    bif (qsome (q21 [(D.int (qint (qfld sd0 7)))])) then
    bif (qcatOk (ByteArray.mk #[91]) (qstr (qnth (q21 [(D.int (qint (qfld sd0 7)))]) 0))) then
    bif (qsome (q53 [(D.int (qint (qfld sd0 1)))])) then
    bif (qcatOk (qcat (ByteArray.mk #[91]) (qstr (qnth (q21 [(D.int (qint (qfld sd0 7)))]) 0))) (qstr (qnth (q53 [(D.int (qint (qfld sd0 1)))]) 0))) then
    bif (qcatOk (qcat (qcat (ByteArray.mk #[91]) (qstr (qnth (q21 [(D.int (qint (qfld sd0 7)))]) 0))) (qstr (qnth (q53 [(D.int (qint (qfld sd0 1)))]) 0))) (ByteArray.mk #[93])) then
    some [(D.str (qcat (qcat (qcat (ByteArray.mk #[91]) (qstr (qnth (q21 [(D.int (qint (qfld sd0 7)))]) 0))) (qstr (qnth (q53 [(D.int (qint (qfld sd0 1)))]) 0))) (ByteArray.mk #[93])))]
    else
    none
    else
    none
    else
    none
    else
    none
    else
    none := by kernel_rfl
noncomputable def q23 : List D → Option (List D) := veil (F23 )
theorem q23_eq : q23  = F23  := veil_eq _
noncomputable def tb23 : Tb := Tb.addF tb21 23 S23 (q23 )
theorem ok_tb23 : TbOk env (tb23 ) := addFunF ok_tb21 23 (by kernel_rfl) _ (q23_eq )
def S24 : FunS := ⟨[⟨true, (.dat 24)⟩], [], [⟨true, .str⟩], []⟩
noncomputable def F24 : List D → Option (List D) := liftX env tb23 60 12 24 S24
theorem F24_eq  (sd0 : D) : F24  [sd0] =
    bif (qiteB (qcmp BinOp.neq (qint (qfld sd0 5)) 0) (qand (qsome (q26 [(D.int (qint (qfld sd0 5)))])) (qcatOk (ByteArray.mk #[106]) (qstr (qnth (q26 [(D.int (qint (qfld sd0 5)))]) 0)))) Bool.true) then
    bif (qiteB (qiteB (qcmp BinOp.eql (qint (qfld sd0 3)) 2) (qcmp BinOp.eql (qwrap IntKind.u32 (qwrap IntKind.i8 (qbin BinOp.sub IntKind.u32 (qbin BinOp.sub IntKind.u32 (qint (qfld sd0 1)) (qint (qfld sd0 0))) 2))) (qbin BinOp.sub IntKind.u32 (qbin BinOp.sub IntKind.u32 (qint (qfld sd0 1)) (qint (qfld sd0 0))) 2)) Bool.false) (qcatOk (qiteS (qcmp BinOp.neq (qint (qfld sd0 5)) 0) (qcat (ByteArray.mk #[106]) (qstr (qnth (q26 [(D.int (qint (qfld sd0 5)))]) 0))) (ByteArray.mk #[106, 109, 112])) (ByteArray.mk #[46, 119])) Bool.true) then
    bif (qcatOk (qiteS (qiteB (qcmp BinOp.eql (qint (qfld sd0 3)) 2) (qcmp BinOp.eql (qwrap IntKind.u32 (qwrap IntKind.i8 (qbin BinOp.sub IntKind.u32 (qbin BinOp.sub IntKind.u32 (qint (qfld sd0 1)) (qint (qfld sd0 0))) 2))) (qbin BinOp.sub IntKind.u32 (qbin BinOp.sub IntKind.u32 (qint (qfld sd0 1)) (qint (qfld sd0 0))) 2)) Bool.false) (qcat (qiteS (qcmp BinOp.neq (qint (qfld sd0 5)) 0) (qcat (ByteArray.mk #[106]) (qstr (qnth (q26 [(D.int (qint (qfld sd0 5)))]) 0))) (ByteArray.mk #[106, 109, 112])) (ByteArray.mk #[46, 119])) (qiteS (qcmp BinOp.neq (qint (qfld sd0 5)) 0) (qcat (ByteArray.mk #[106]) (qstr (qnth (q26 [(D.int (qint (qfld sd0 5)))]) 0))) (ByteArray.mk #[106, 109, 112]))) (ByteArray.mk #[32])) then
    bif (qsome (q25 [(D.int (qint (qfld sd0 1)))])) then
    bif (qcatOk (qcat (qiteS (qiteB (qcmp BinOp.eql (qint (qfld sd0 3)) 2) (qcmp BinOp.eql (qwrap IntKind.u32 (qwrap IntKind.i8 (qbin BinOp.sub IntKind.u32 (qbin BinOp.sub IntKind.u32 (qint (qfld sd0 1)) (qint (qfld sd0 0))) 2))) (qbin BinOp.sub IntKind.u32 (qbin BinOp.sub IntKind.u32 (qint (qfld sd0 1)) (qint (qfld sd0 0))) 2)) Bool.false) (qcat (qiteS (qcmp BinOp.neq (qint (qfld sd0 5)) 0) (qcat (ByteArray.mk #[106]) (qstr (qnth (q26 [(D.int (qint (qfld sd0 5)))]) 0))) (ByteArray.mk #[106, 109, 112])) (ByteArray.mk #[46, 119])) (qiteS (qcmp BinOp.neq (qint (qfld sd0 5)) 0) (qcat (ByteArray.mk #[106]) (qstr (qnth (q26 [(D.int (qint (qfld sd0 5)))]) 0))) (ByteArray.mk #[106, 109, 112]))) (ByteArray.mk #[32])) (qstr (qnth (q25 [(D.int (qint (qfld sd0 1)))]) 0))) then
    some [(D.str (qcat (qcat (qiteS (qiteB (qcmp BinOp.eql (qint (qfld sd0 3)) 2) (qcmp BinOp.eql (qwrap IntKind.u32 (qwrap IntKind.i8 (qbin BinOp.sub IntKind.u32 (qbin BinOp.sub IntKind.u32 (qint (qfld sd0 1)) (qint (qfld sd0 0))) 2))) (qbin BinOp.sub IntKind.u32 (qbin BinOp.sub IntKind.u32 (qint (qfld sd0 1)) (qint (qfld sd0 0))) 2)) Bool.false) (qcat (qiteS (qcmp BinOp.neq (qint (qfld sd0 5)) 0) (qcat (ByteArray.mk #[106]) (qstr (qnth (q26 [(D.int (qint (qfld sd0 5)))]) 0))) (ByteArray.mk #[106, 109, 112])) (ByteArray.mk #[46, 119])) (qiteS (qcmp BinOp.neq (qint (qfld sd0 5)) 0) (qcat (ByteArray.mk #[106]) (qstr (qnth (q26 [(D.int (qint (qfld sd0 5)))]) 0))) (ByteArray.mk #[106, 109, 112]))) (ByteArray.mk #[32])) (qstr (qnth (q25 [(D.int (qint (qfld sd0 1)))]) 0))))]
    else
    none
    else
    none
    else
    none
    else
    none
    else
    none := by kernel_rfl
noncomputable def q24 : List D → Option (List D) := veil (F24 )
theorem q24_eq : q24  = F24  := veil_eq _
noncomputable def tb24 : Tb := Tb.addF tb23 24 S24 (q24 )
theorem ok_tb24 : TbOk env (tb24 ) := addFunF ok_tb23 24 (by kernel_rfl) _ (q24_eq )
def S27 : FunS := ⟨[⟨true, (.dat 24)⟩], [], [⟨true, .str⟩], []⟩
noncomputable def F27 : List D → Option (List D) := liftX env tb24 60 12 27 S27
theorem F27_eq  (sd0 : D) : F27  [sd0] =
    bif (qsome (q56 [(D.int (qint (qfld sd0 2)))])) then
    bif (qsome (q21 [(D.int (qint (qfld sd0 6)))])) then
    bif (qcatOk (ByteArray.mk #[32]) (qstr (qnth (q21 [(D.int (qint (qfld sd0 6)))]) 0))) then
    bif (qcatOk (qcat (ByteArray.mk #[32]) (qstr (qnth (q21 [(D.int (qint (qfld sd0 6)))]) 0))) (ByteArray.mk #[44, 32])) then
    bif (qcmp BinOp.eql (qint (qfld sd0 3)) 0) then
    bif (qcatOk (qstr (qnth (q56 [(D.int (qint (qfld sd0 2)))]) 0)) (qcat (qcat (ByteArray.mk #[32]) (qstr (qnth (q21 [(D.int (qint (qfld sd0 6)))]) 0))) (ByteArray.mk #[44, 32]))) then
    bif (qsome (q21 [(D.int (qint (qfld sd0 7)))])) then
    bif (qcatOk (qcat (qstr (qnth (q56 [(D.int (qint (qfld sd0 2)))]) 0)) (qcat (qcat (ByteArray.mk #[32]) (qstr (qnth (q21 [(D.int (qint (qfld sd0 6)))]) 0))) (ByteArray.mk #[44, 32]))) (qstr (qnth (q21 [(D.int (qint (qfld sd0 7)))]) 0))) then
    some [(D.str (qcat (qcat (qstr (qnth (q56 [(D.int (qint (qfld sd0 2)))]) 0)) (qcat (qcat (ByteArray.mk #[32]) (qstr (qnth (q21 [(D.int (qint (qfld sd0 6)))]) 0))) (ByteArray.mk #[44, 32]))) (qstr (qnth (q21 [(D.int (qint (qfld sd0 7)))]) 0))))]
    else
    none
    else
    none
    else
    none
    else
    bif (qcmp BinOp.eql (qint (qfld sd0 3)) 1) then
    bif (qcatOk (qstr (qnth (q56 [(D.int (qint (qfld sd0 2)))]) 0)) (qcat (qcat (ByteArray.mk #[32]) (qstr (qnth (q21 [(D.int (qint (qfld sd0 6)))]) 0))) (ByteArray.mk #[44, 32]))) then
    bif (qsome (q53 [(D.int (qint (qfld sd0 1)))])) then
    bif (qcatOk (qcat (qstr (qnth (q56 [(D.int (qint (qfld sd0 2)))]) 0)) (qcat (qcat (ByteArray.mk #[32]) (qstr (qnth (q21 [(D.int (qint (qfld sd0 6)))]) 0))) (ByteArray.mk #[44, 32]))) (qstr (qnth (q53 [(D.int (qint (qfld sd0 1)))]) 0))) then
    some [(D.str (qcat (qcat (qstr (qnth (q56 [(D.int (qint (qfld sd0 2)))]) 0)) (qcat (qcat (ByteArray.mk #[32]) (qstr (qnth (q21 [(D.int (qint (qfld sd0 6)))]) 0))) (ByteArray.mk #[44, 32]))) (qstr (qnth (q53 [(D.int (qint (qfld sd0 1)))]) 0))))]
    else
    none
    else
    none
    else
    none
    else
    bif (qcmp BinOp.eql (qwrap IntKind.u32 (qwrap IntKind.i8 (qint (qfld sd0 1)))) (qint (qfld sd0 1))) then
    bif (qcatOk (qstr (qnth (q56 [(D.int (qint (qfld sd0 2)))]) 0)) (ByteArray.mk #[46, 119])) then
    bif (qcatOk (qcat (qstr (qnth (q56 [(D.int (qint (qfld sd0 2)))]) 0)) (ByteArray.mk #[46, 119])) (qcat (qcat (ByteArray.mk #[32]) (qstr (qnth (q21 [(D.int (qint (qfld sd0 6)))]) 0))) (ByteArray.mk #[44, 32]))) then
    bif (qsome (q53 [(D.int (qint (qfld sd0 1)))])) then
    bif (qcatOk (qcat (qcat (qstr (qnth (q56 [(D.int (qint (qfld sd0 2)))]) 0)) (ByteArray.mk #[46, 119])) (qcat (qcat (ByteArray.mk #[32]) (qstr (qnth (q21 [(D.int (qint (qfld sd0 6)))]) 0))) (ByteArray.mk #[44, 32]))) (qstr (qnth (q53 [(D.int (qint (qfld sd0 1)))]) 0))) then
    some [(D.str (qcat (qcat (qcat (qstr (qnth (q56 [(D.int (qint (qfld sd0 2)))]) 0)) (ByteArray.mk #[46, 119])) (qcat (qcat (ByteArray.mk #[32]) (qstr (qnth (q21 [(D.int (qint (qfld sd0 6)))]) 0))) (ByteArray.mk #[44, 32]))) (qstr (qnth (q53 [(D.int (qint (qfld sd0 1)))]) 0))))]
    else
    none
    else
    none
    else
    none
    else
    none
    else
    bif (qcatOk (qstr (qnth (q56 [(D.int (qint (qfld sd0 2)))]) 0)) (qcat (qcat (ByteArray.mk #[32]) (qstr (qnth (q21 [(D.int (qint (qfld sd0 6)))]) 0))) (ByteArray.mk #[44, 32]))) then
    bif (qsome (q25 [(D.int (qint (qfld sd0 1)))])) then
    bif (qcatOk (qcat (qstr (qnth (q56 [(D.int (qint (qfld sd0 2)))]) 0)) (qcat (qcat (ByteArray.mk #[32]) (qstr (qnth (q21 [(D.int (qint (qfld sd0 6)))]) 0))) (ByteArray.mk #[44, 32]))) (qstr (qnth (q25 [(D.int (qint (qfld sd0 1)))]) 0))) then
    some [(D.str (qcat (qcat (qstr (qnth (q56 [(D.int (qint (qfld sd0 2)))]) 0)) (qcat (qcat (ByteArray.mk #[32]) (qstr (qnth (q21 [(D.int (qint (qfld sd0 6)))]) 0))) (ByteArray.mk #[44, 32]))) (qstr (qnth (q25 [(D.int (qint (qfld sd0 1)))]) 0))))]
    else
    none
    else
    none
    else
    none
    else
    none
    else
    none
    else
    none
    else
    none := by kernel_rfl
noncomputable def q27 : List D → Option (List D) := veil (F27 )
theorem q27_eq : q27  = F27  := veil_eq _
noncomputable def tb27 : Tb := Tb.addF tb24 27 S27 (q27 )
theorem ok_tb27 : TbOk env (tb27 ) := addFunF ok_tb24 27 (by kernel_rfl) _ (q27_eq )
def S8 : FunS := ⟨[⟨true, (.dat 24)⟩], [], [⟨true, .str⟩], []⟩
noncomputable def F8 : List D → Option (List D) := liftX env tb27 60 12 8 S8
theorem F8_eq  (sd0 : D) : F8  [sd0] =
    bif (qsome (q20 [sd0])) then
    bif (qnot (qbool (qnth (q20 [sd0]) 0))) then
    some [(D.str (ByteArray.mk #[]))]
    else
    bif (qiteB (qcmp BinOp.eql (qint (qfld sd0 2)) 0) (qcmp BinOp.eql (qint (qfld sd0 2)) 0) (qiteB (qcmp BinOp.eql (qint (qfld sd0 2)) 1) (qcmp BinOp.eql (qint (qfld sd0 2)) 1) (qcmp BinOp.eql (qint (qfld sd0 2)) 2))) then
    bif (qcmp BinOp.leq 0 (qint (qfld sd0 2))) then
    bif (qcmp BinOp.lss (qint (qfld sd0 2)) 5) then
    bif (qinb (D.list [(D.str (ByteArray.mk #[110, 111, 112])), (D.str (ByteArray.mk #[104, 97, 108, 116])), (D.str (ByteArray.mk #[114, 101, 116])), (D.str (ByteArray.mk #[112, 117, 115, 104, 32])), (D.str (ByteArray.mk #[112, 111, 112, 32]))]) (qint (qfld sd0 2))) then
    some [(D.str (qstr (qget (D.list [(D.str (ByteArray.mk #[110, 111, 112])), (D.str (ByteArray.mk #[104, 97, 108, 116])), (D.str (ByteArray.mk #[114, 101, 116])), (D.str (ByteArray.mk #[112, 117, 115, 104, 32])), (D.str (ByteArray.mk #[112, 111, 112, 32]))]) (qint (qfld sd0 2)))))]
    else
    none
    else
    none
    else
    none
    else
    bif (qiteB (qcmp BinOp.eql (qint (qfld sd0 2)) 3) (qcmp BinOp.eql (qint (qfld sd0 2)) 3) (qcmp BinOp.eql (qint (qfld sd0 2)) 4)) then
    bif (qcmp BinOp.leq 0 (qint (qfld sd0 2))) then
    bif (qcmp BinOp.lss (qint (qfld sd0 2)) 5) then
    bif (qinb (D.list [(D.str (ByteArray.mk #[110, 111, 112])), (D.str (ByteArray.mk #[104, 97, 108, 116])), (D.str (ByteArray.mk #[114, 101, 116])), (D.str (ByteArray.mk #[112, 117, 115, 104, 32])), (D.str (ByteArray.mk #[112, 111, 112, 32]))]) (qint (qfld sd0 2))) then
    bif (qsome (q21 [(D.int (qint (qfld sd0 6)))])) then
    bif (qcatOk (qstr (qget (D.list [(D.str (ByteArray.mk #[110, 111, 112])), (D.str (ByteArray.mk #[104, 97, 108, 116])), (D.str (ByteArray.mk #[114, 101, 116])), (D.str (ByteArray.mk #[112, 117, 115, 104, 32])), (D.str (ByteArray.mk #[112, 111, 112, 32]))]) (qint (qfld sd0 2)))) (qstr (qnth (q21 [(D.int (qint (qfld sd0 6)))]) 0))) then
    some [(D.str (qcat (qstr (qget (D.list [(D.str (ByteArray.mk #[110, 111, 112])), (D.str (ByteArray.mk #[104, 97, 108, 116])), (D.str (ByteArray.mk #[114, 101, 116])), (D.str (ByteArray.mk #[112, 117, 115, 104, 32])), (D.str (ByteArray.mk #[112, 111, 112, 32]))]) (qint (qfld sd0 2)))) (qstr (qnth (q21 [(D.int (qint (qfld sd0 6)))]) 0))))]
    else
    none
    else
    none
    else
    none
    else
    none
    else
    none
    else
    bif (qcmp BinOp.eql (qint (qfld sd0 2)) 16) then
    bif (qcmp BinOp.leq (-9223372036854775808) (qint (qfld sd0 4))) then
    bif (qcmp BinOp.leq (qint (qfld sd0 4)) 9223372036854775807) then
    bif (qcatOk (ByteArray.mk #[108, 111, 97, 100]) (qitoa (qint (qfld sd0 4)))) then
    bif (qcatOk (qcat (ByteArray.mk #[108, 111, 97, 100]) (qitoa (qint (qfld sd0 4)))) (ByteArray.mk #[32])) then
    bif (qsome (q21 [(D.int (qint (qfld sd0 6)))])) then
    bif (qcatOk (qcat (qcat (ByteArray.mk #[108, 111, 97, 100]) (qitoa (qint (qfld sd0 4)))) (ByteArray.mk #[32])) (qstr (qnth (q21 [(D.int (qint (qfld sd0 6)))]) 0))) then
    bif (qcatOk (qcat (qcat (qcat (ByteArray.mk #[108, 111, 97, 100]) (qitoa (qint (qfld sd0 4)))) (ByteArray.mk #[32])) (qstr (qnth (q21 [(D.int (qint (qfld sd0 6)))]) 0))) (ByteArray.mk #[44, 32])) then
    bif (qsome (q23 [sd0])) then
    bif (qcatOk (qcat (qcat (qcat (qcat (ByteArray.mk #[108, 111, 97, 100]) (qitoa (qint (qfld sd0 4)))) (ByteArray.mk #[32])) (qstr (qnth (q21 [(D.int (qint (qfld sd0 6)))]) 0))) (ByteArray.mk #[44, 32])) (qstr (qnth (q23 [sd0]) 0))) then
    some [(D.str (qcat (qcat (qcat (qcat (qcat (ByteArray.mk #[108, 111, 97, 100]) (qitoa (qint (qfld sd0 4)))) (ByteArray.mk #[32])) (qstr (qnth (q21 [(D.int (qint (qfld sd0 6)))]) 0))) (ByteArray.mk #[44, 32])) (qstr (qnth (q23 [sd0]) 0))))]
    else
    none
    else
    none
    else
    none
    else
    none
    else
    none
    else
    none
    else
    none
    else
    none
    else
    none
    else
    bif (qcmp BinOp.eql (qint (qfld sd0 2)) 17) then
    bif (qcmp BinOp.leq (-9223372036854775808) (qint (qfld sd0 4))) then
    bif (qcmp BinOp.leq (qint (qfld sd0 4)) 9223372036854775807) then
    bif (qcatOk (ByteArray.mk #[108, 111, 97, 100]) (qitoa (qint (qfld sd0 4)))) then
    bif (qcatOk (qcat (ByteArray.mk #[108, 111, 97, 100]) (qitoa (qint (qfld sd0 4)))) (ByteArray.mk #[115, 32])) then
    bif (qsome (q21 [(D.int (qint (qfld sd0 6)))])) then
    bif (qcatOk (qcat (qcat (ByteArray.mk #[108, 111, 97, 100]) (qitoa (qint (qfld sd0 4)))) (ByteArray.mk #[115, 32])) (qstr (qnth (q21 [(D.int (qint (qfld sd0 6)))]) 0))) then
    bif (qcatOk (qcat (qcat (qcat (ByteArray.mk #[108, 111, 97, 100]) (qitoa (qint (qfld sd0 4)))) (ByteArray.mk #[115, 32])) (qstr (qnth (q21 [(D.int (qint (qfld sd0 6)))]) 0))) (ByteArray.mk #[44, 32])) then
    bif (qsome (q23 [sd0])) then
    bif (qcatOk (qcat (qcat (qcat (qcat (ByteArray.mk #[108, 111, 97, 100]) (qitoa (qint (qfld sd0 4)))) (ByteArray.mk #[115, 32])) (qstr (qnth (q21 [(D.int (qint (qfld sd0 6)))]) 0))) (ByteArray.mk #[44, 32])) (qstr (qnth (q23 [sd0]) 0))) then
    some [(D.str (qcat (qcat (qcat (qcat (qcat (ByteArray.mk #[108, 111, 97, 100]) (qitoa (qint (qfld sd0 4)))) (ByteArray.mk #[115, 32])) (qstr (qnth (q21 [(D.int (qint (qfld sd0 6)))]) 0))) (ByteArray.mk #[44, 32])) (qstr (qnth (q23 [sd0]) 0))))]
    else
    none
    else
    none
    else
    none
    else
    none
    else
    none
    else
    none
    else
    none
    else
    none
    else
    none
    else
    bif (qcmp BinOp.eql (qint (qfld sd0 2)) 18) then
    bif (qcmp BinOp.leq (-9223372036854775808) (qint (qfld sd0 4))) then
    bif (qcmp BinOp.leq (qint (qfld sd0 4)) 9223372036854775807) then
    bif (qcatOk (ByteArray.mk #[115, 116, 111, 114, 101]) (qitoa (qint (qfld sd0 4)))) then
    bif (qcatOk (qcat (ByteArray.mk #[115, 116, 111, 114, 101]) (qitoa (qint (qfld sd0 4)))) (ByteArray.mk #[32])) then
    bif (qsome (q23 [sd0])) then
    bif (qcatOk (qcat (qcat (ByteArray.mk #[115, 116, 111, 114, 101]) (qitoa (qint (qfld sd0 4)))) (ByteArray.mk #[32])) (qstr (qnth (q23 [sd0]) 0))) then
    bif (qcatOk (qcat (qcat (qcat (ByteArray.mk #[115, 116, 111, 114, 101]) (qitoa (qint (qfld sd0 4)))) (ByteArray.mk #[32])) (qstr (qnth (q23 [sd0]) 0))) (ByteArray.mk #[44, 32])) then
    bif (qsome (q21 [(D.int (qint (qfld sd0 6)))])) then
    bif (qcatOk (qcat (qcat (qcat (qcat (ByteArray.mk #[115, 116, 111, 114, 101]) (qitoa (qint (qfld sd0 4)))) (ByteArray.mk #[32])) (qstr (qnth (q23 [sd0]) 0))) (ByteArray.mk #[44, 32])) (qstr (qnth (q21 [(D.int (qint (qfld sd0 6)))]) 0))) then
    some [(D.str (qcat (qcat (qcat (qcat (qcat (ByteArray.mk #[115, 116, 111, 114, 101]) (qitoa (qint (qfld sd0 4)))) (ByteArray.mk #[32])) (qstr (qnth (q23 [sd0]) 0))) (ByteArray.mk #[44, 32])) (qstr (qnth (q21 [(D.int (qint (qfld sd0 6)))]) 0))))]
    else
    none
    else
    none
    else
    none
    else
    none
    else
    none
    else
    none
    else
    none
    else
    none
    else
    none
    else
    bif (qcmp BinOp.eql (qint (qfld sd0 2)) 19) then
    bif (qsome (q21 [(D.int (qint (qfld sd0 6)))])) then
    bif (qcatOk (ByteArray.mk #[108, 101, 97, 32]) (qstr (qnth (q21 [(D.int (qint (qfld sd0 6)))]) 0))) then
    bif (qcatOk (qcat (ByteArray.mk #[108, 101, 97, 32]) (qstr (qnth (q21 [(D.int (qint (qfld sd0 6)))]) 0))) (ByteArray.mk #[44, 32])) then
    bif (qsome (q23 [sd0])) then
    bif (qcatOk (qcat (qcat (ByteArray.mk #[108, 101, 97, 32]) (qstr (qnth (q21 [(D.int (qint (qfld sd0 6)))]) 0))) (ByteArray.mk #[44, 32])) (qstr (qnth (q23 [sd0]) 0))) then
    some [(D.str (qcat (qcat (qcat (ByteArray.mk #[108, 101, 97, 32]) (qstr (qnth (q21 [(D.int (qint (qfld sd0 6)))]) 0))) (ByteArray.mk #[44, 32])) (qstr (qnth (q23 [sd0]) 0))))]
    else
    none
    else
    none
    else
    none
    else
    none
    else
    none
    else
    bif (qcmp BinOp.eql (qint (qfld sd0 2)) 20) then
    bif (qsome (q24 [sd0])) then
    some [(D.str (qstr (qnth (q24 [sd0]) 0)))]
    else
    none
    else
    bif (qcmp BinOp.eql (qint (qfld sd0 2)) 21) then
    bif (qsome (q21 [(D.int (qint (qfld sd0 6)))])) then
    bif (qcatOk (ByteArray.mk #[106, 117, 109, 112, 114, 32]) (qstr (qnth (q21 [(D.int (qint (qfld sd0 6)))]) 0))) then
    some [(D.str (qcat (ByteArray.mk #[106, 117, 109, 112, 114, 32]) (qstr (qnth (q21 [(D.int (qint (qfld sd0 6)))]) 0))))]
    else
    none
    else
    none
    else
    bif (qcmp BinOp.eql (qint (qfld sd0 2)) 24) then
    bif (qsome (q21 [(D.int (qint (qfld sd0 6)))])) then
    bif (qcatOk (ByteArray.mk #[99, 97, 108, 108, 114, 32]) (qstr (qnth (q21 [(D.int (qint (qfld sd0 6)))]) 0))) then
    some [(D.str (qcat (ByteArray.mk #[99, 97, 108, 108, 114, 32]) (qstr (qnth (q21 [(D.int (qint (qfld sd0 6)))]) 0))))]
    else
    none
    else
    none
    else
    bif (qcmp BinOp.eql (qint (qfld sd0 2)) 22) then
    bif (qsome (q21 [(D.int (qint (qfld sd0 6)))])) then
    bif (qcatOk (ByteArray.mk #[106, 117, 109, 112, 116, 32]) (qstr (qnth (q21 [(D.int (qint (qfld sd0 6)))]) 0))) then
    bif (qcatOk (qcat (ByteArray.mk #[106, 117, 109, 112, 116, 32]) (qstr (qnth (q21 [(D.int (qint (qfld sd0 6)))]) 0))) (ByteArray.mk #[44, 32])) then
    bif (qsome (q25 [(D.int (qint (qfld sd0 1)))])) then
    bif (qcatOk (qcat (qcat (ByteArray.mk #[106, 117, 109, 112, 116, 32]) (qstr (qnth (q21 [(D.int (qint (qfld sd0 6)))]) 0))) (ByteArray.mk #[44, 32])) (qstr (qnth (q25 [(D.int (qint (qfld sd0 1)))]) 0))) then
    some [(D.str (qcat (qcat (qcat (ByteArray.mk #[106, 117, 109, 112, 116, 32]) (qstr (qnth (q21 [(D.int (qint (qfld sd0 6)))]) 0))) (ByteArray.mk #[44, 32])) (qstr (qnth (q25 [(D.int (qint (qfld sd0 1)))]) 0))))]
    else
    none
    else
    none
    else
    none
    else
    none
    else
    none
    else
    bif (qcmp BinOp.eql (qint (qfld sd0 2)) 23) then
    bif (qsome (q25 [(D.int (qint (qfld sd0 1)))])) then
    bif (qcatOk (ByteArray.mk #[99, 97, 108, 108, 32]) (qstr (qnth (q25 [(D.int (qint (qfld sd0 1)))]) 0))) then
    some [(D.str (qcat (ByteArray.mk #[99, 97, 108, 108, 32]) (qstr (qnth (q25 [(D.int (qint (qfld sd0 1)))]) 0))))]
    else
    none
    else
    none
    else
    bif (qcmp BinOp.eql (qint (qfld sd0 2)) 25) then
    bif (qsome (q26 [(D.int (qint (qfld sd0 5)))])) then
    bif (qcatOk (ByteArray.mk #[115, 101, 116]) (qstr (qnth (q26 [(D.int (qint (qfld sd0 5)))]) 0))) then
    bif (qcatOk (qcat (ByteArray.mk #[115, 101, 116]) (qstr (qnth (q26 [(D.int (qint (qfld sd0 5)))]) 0))) (ByteArray.mk #[32])) then
    bif (qsome (q21 [(D.int (qint (qfld sd0 6)))])) then
    bif (qcatOk (qcat (qcat (ByteArray.mk #[115, 101, 116]) (qstr (qnth (q26 [(D.int (qint (qfld sd0 5)))]) 0))) (ByteArray.mk #[32])) (qstr (qnth (q21 [(D.int (qint (qfld sd0 6)))]) 0))) then
    some [(D.str (qcat (qcat (qcat (ByteArray.mk #[115, 101, 116]) (qstr (qnth (q26 [(D.int (qint (qfld sd0 5)))]) 0))) (ByteArray.mk #[32])) (qstr (qnth (q21 [(D.int (qint (qfld sd0 6)))]) 0))))]
    else
    none
    else
    none
    else
    none
    else
    none
    else
    none
    else
    bif (qcmp BinOp.eql (qint (qfld sd0 2)) 26) then
    bif (qsome (q21 [(D.int (qint (qfld sd0 6)))])) then
    bif (qcatOk (ByteArray.mk #[105, 110, 32]) (qstr (qnth (q21 [(D.int (qint (qfld sd0 6)))]) 0))) then
    some [(D.str (qcat (ByteArray.mk #[105, 110, 32]) (qstr (qnth (q21 [(D.int (qint (qfld sd0 6)))]) 0))))]
    else
    none
    else
    none
    else
    bif (qcmp BinOp.eql (qint (qfld sd0 2)) 27) then
    bif (qsome (q21 [(D.int (qint (qfld sd0 6)))])) then
    bif (qcatOk (ByteArray.mk #[111, 117, 116, 32]) (qstr (qnth (q21 [(D.int (qint (qfld sd0 6)))]) 0))) then
    some [(D.str (qcat (ByteArray.mk #[111, 117, 116, 32]) (qstr (qnth (q21 [(D.int (qint (qfld sd0 6)))]) 0))))]
    else
    none
    else
    none
    else
    bif (qsome (q27 [sd0])) then
    some [(D.str (qstr (qnth (q27 [sd0]) 0)))]
    else
    none
    else
    none := by kernel_rfl
noncomputable def q8 : List D → Option (List D) := veil (F8 )
theorem q8_eq : q8  = F8  := veil_eq _
noncomputable def tb8 : Tb := Tb.addF tb27 8 S8 (q8 )
theorem ok_tb8 : TbOk env (tb8 ) := addFunF ok_tb27 8 (by kernel_rfl) _ (q8_eq )
end Go.Proofs.YtobhhfbdelnhfaaGreatDoor
open Go Go.AM
namespace Go.Proofs.YtobhhfbdelnhfaaGreatDoor
set_option maxRecDepth 100000
set_option linter.unusedSimpArgs false
set_option linter.unusedVariables false
def S35 : FunS := ⟨[], [], [⟨true, (.rows 9)⟩], []⟩
noncomputable def F35 : List D → Option (List D) := liftX env tb8 60 12 35 S35
theorem F35_eq   : F35  [] =
    some [(D.list [(D.str (ByteArray.mk #[97, 108])), (D.str (ByteArray.mk #[101, 113])), (D.str (ByteArray.mk #[110, 101])), (D.str (ByteArray.mk #[108, 116])), (D.str (ByteArray.mk #[103, 101])), (D.str (ByteArray.mk #[108, 101])), (D.str (ByteArray.mk #[103, 116])), (D.str (ByteArray.mk #[98])), (D.str (ByteArray.mk #[97, 101])), (D.str (ByteArray.mk #[98, 101])), (D.str (ByteArray.mk #[97])), (D.str (ByteArray.mk #[110, 101, 103])), (D.str (ByteArray.mk #[112, 111, 115])), (D.str (ByteArray.mk #[111, 118])), (D.str (ByteArray.mk #[110, 111]))])] := by kernel_rfl
noncomputable def q35 : List D → Option (List D) := veil (F35 )
theorem q35_eq : q35  = F35  := veil_eq _
noncomputable def tb35 : Tb := Tb.addF tb8 35 S35 (q35 )
theorem ok_tb35 : TbOk env (tb35 ) := addFunF ok_tb8 35 (by kernel_rfl) _ (q35_eq )
def S57 : FunS := ⟨[], [], [⟨true, (.rows 9)⟩], []⟩
noncomputable def F57 : List D → Option (List D) := liftX env tb35 60 12 57 S57
theorem F57_eq   : F57  [] =
    some [(D.list [(D.str (ByteArray.mk #[109, 111, 118])), (D.str (ByteArray.mk #[97, 100, 100])), (D.str (ByteArray.mk #[115, 117, 98])), (D.str (ByteArray.mk #[97, 110, 100])), (D.str (ByteArray.mk #[111, 114])), (D.str (ByteArray.mk #[120, 111, 114])), (D.str (ByteArray.mk #[109, 117, 108])), (D.str (ByteArray.mk #[115, 104, 108])), (D.str (ByteArray.mk #[115, 104, 114])), (D.str (ByteArray.mk #[115, 97, 114])), (D.str (ByteArray.mk #[99, 109, 112]))])] := by kernel_rfl
noncomputable def q57 : List D → Option (List D) := veil (F57 )
theorem q57_eq : q57  = F57  := veil_eq _
noncomputable def tb57 : Tb := Tb.addF tb35 57 S57 (q57 )
theorem ok_tb57 : TbOk env (tb57 ) := addFunF ok_tb35 57 (by kernel_rfl) _ (q57_eq )
def S30_2 : LoopS := ⟨0, [⟨true, (.int .u32)⟩, ⟨false, .any⟩, ⟨false, .str⟩, ⟨true, .str⟩, ⟨false, .any⟩, ⟨false, .any⟩, ⟨false, .any⟩, ⟨false, .any⟩, ⟨false, .any⟩, ⟨false, .any⟩, ⟨false, .any⟩, ⟨false, .any⟩, ⟨false, .any⟩, ⟨false, .any⟩, ⟨false, .any⟩, ⟨false, .any⟩, ⟨false, .any⟩, ⟨false, .any⟩, ⟨false, .any⟩, ⟨false, .any⟩, ⟨false, .any⟩, ⟨false, .any⟩, ⟨false, .any⟩], [], [⟨0, 0, [⟨true, .any⟩, ⟨true, .any⟩, ⟨false, .str⟩, ⟨true, .str⟩, ⟨true, .any⟩, ⟨true, .any⟩, ⟨true, .any⟩, ⟨true, .any⟩, ⟨true, .any⟩, ⟨true, .any⟩, ⟨true, .any⟩, ⟨true, .any⟩, ⟨true, .any⟩, ⟨true, .any⟩, ⟨true, .any⟩, ⟨true, .any⟩, ⟨true, .any⟩, ⟨true, .any⟩, ⟨true, .any⟩, ⟨true, .any⟩, ⟨true, .any⟩, ⟨true, .any⟩, ⟨true, .any⟩], []⟩]⟩
noncomputable def st30_2 (p s : List D) : Option (Sum (List D) (List D)) := stepQX env tb57 60 12 30 (loopC 30 2) S30_2 p s
theorem st30_2_eq (ps0 : ByteArray) (sn0 : Int) (ss1 : ByteArray) : st30_2  [(D.str ps0)] [(D.int sn0), (D.str ss1)] =
    bif (qcmp BinOp.geq sn0 10) then
    bif (qcatOk (qtext (D.list [(D.int (qwrap IntKind.u8 (qbin BinOp.add IntKind.u32 48 (qbin BinOp.rem IntKind.u32 (qbin BinOp.quo IntKind.u32 sn0 10) 10))))])) ss1) then
    some (Sum.inl [(D.int (qbin BinOp.quo IntKind.u32 sn0 10)), (D.str (qcat (qtext (D.list [(D.int (qwrap IntKind.u8 (qbin BinOp.add IntKind.u32 48 (qbin BinOp.rem IntKind.u32 (qbin BinOp.quo IntKind.u32 sn0 10) 10))))])) ss1))])
    else
    none
    else
    some (Sum.inr [(D.int 0), (D.str ss1)]) := by
  have h : st30_2  [(D.str ps0)] [(D.int sn0), (D.str ss1)] =
    bif (qcmp BinOp.geq sn0 10) then
    bif (qcatOk (qtext (D.list [(D.int (qwrap IntKind.u8 (qbin BinOp.add IntKind.u32 48 (qbin BinOp.rem IntKind.u32 (qbin BinOp.quo IntKind.u32 sn0 10) 10))))])) ss1) then
    bif (qeqD (D.str ps0) (D.str ps0)) then
    some (Sum.inl [(D.int (qbin BinOp.quo IntKind.u32 sn0 10)), (D.str (qcat (qtext (D.list [(D.int (qwrap IntKind.u8 (qbin BinOp.add IntKind.u32 48 (qbin BinOp.rem IntKind.u32 (qbin BinOp.quo IntKind.u32 sn0 10) 10))))])) ss1))])
    else
    none
    else
    none
    else
    bif (qeqD (D.str ps0) (D.str ps0)) then
    some (Sum.inr [(D.int 0), (D.str ss1)])
    else
    none := by kernel_rfl
  rw [h]; simp only [qeqD_self, qeqI_self, qeq_len, show qcmp BinOp.eql 0 (qlen (D.list [])) = true from qeq_len [], show ∀ a, qcmp BinOp.eql 1 (qlen (D.list [a])) = true from fun a => qeq_len [a], show ∀ a b, qcmp BinOp.eql 2 (qlen (D.list [a, b])) = true from fun a b => qeq_len [a, b], show ∀ a b c, qcmp BinOp.eql 3 (qlen (D.list [a, b, c])) = true from fun a b c => qeq_len [a, b, c], show ∀ a b c d, qcmp BinOp.eql 4 (qlen (D.list [a, b, c, d])) = true from fun a b c d => qeq_len [a, b, c, d], cond_true]
noncomputable def l30_2 : List D → List D → Option (List D) := veil fun p s => loW (st30_2  p) s
theorem l30_2_eq : l30_2  = fun p s => loW (st30_2  p) s := veil_eq _
noncomputable def tbl30_2 : Tb := Tb.addL tb57 30 2 S30_2.n0 (mkLp S30_2 (l30_2 ))
theorem ok_tbl30_2 : TbOk env (tbl30_2 ) := addLoopQ ok_tb57 30 2 (by kernel_rfl) _ (l30_2_eq )
def S30 : FunS := ⟨[⟨true, (.int .u32)⟩], [], [⟨true, .str⟩], []⟩
noncomputable def F30 : List D → Option (List D) := liftX env tbl30_2 60 12 30 S30
theorem F30_eq  (sn0 : Int) : F30  [(D.int sn0)] =
    bif (qsome (l30_2 [(D.str (ByteArray.mk #[]))] [(D.int sn0), (D.str (qtext (D.list [(D.int (qwrap IntKind.u8 (qbin BinOp.add IntKind.u32 48 (qbin BinOp.rem IntKind.u32 sn0 10))))])))])) then
    some [(D.str (qstr (qnth (l30_2 [(D.str (ByteArray.mk #[]))] [(D.int sn0), (D.str (qtext (D.list [(D.int (qwrap IntKind.u8 (qbin BinOp.add IntKind.u32 48 (qbin BinOp.rem IntKind.u32 sn0 10))))])))]) 1)))]
    else
    none := by kernel_rfl
noncomputable def q30 : List D → Option (List D) := veil (F30 )
theorem q30_eq : q30  = F30  := veil_eq _
noncomputable def tb30 : Tb := Tb.addF tbl30_2 30 S30 (q30 )
theorem ok_tb30 : TbOk env (tb30 ) := addFunF ok_tbl30_2 30 (by kernel_rfl) _ (q30_eq )
def S34_3 : LoopS := ⟨0, [⟨true, (.int .u32)⟩, ⟨false, .any⟩, ⟨false, .str⟩, ⟨false, .str⟩, ⟨true, .str⟩, ⟨false, .any⟩, ⟨false, .any⟩, ⟨false, .any⟩, ⟨false, .any⟩, ⟨false, .any⟩, ⟨false, .any⟩, ⟨false, .any⟩, ⟨false, .any⟩, ⟨false, .any⟩, ⟨false, .any⟩, ⟨false, .any⟩, ⟨false, .any⟩, ⟨false, .any⟩, ⟨false, .any⟩, ⟨false, .any⟩, ⟨false, .any⟩, ⟨false, .any⟩, ⟨false, .any⟩, ⟨false, .any⟩, ⟨false, .any⟩, ⟨false, .any⟩, ⟨false, .any⟩], [], [⟨0, 0, [⟨true, .any⟩, ⟨true, .any⟩, ⟨false, .str⟩, ⟨false, .str⟩, ⟨true, .str⟩, ⟨true, .any⟩, ⟨true, .any⟩, ⟨true, .any⟩, ⟨true, .any⟩, ⟨true, .any⟩, ⟨true, .any⟩, ⟨true, .any⟩, ⟨true, .any⟩, ⟨true, .any⟩, ⟨true, .any⟩, ⟨true, .any⟩, ⟨true, .any⟩, ⟨true, .any⟩, ⟨true, .any⟩, ⟨true, .any⟩, ⟨true, .any⟩, ⟨true, .any⟩, ⟨true, .any⟩, ⟨true, .any⟩, ⟨true, .any⟩, ⟨true, .any⟩, ⟨true, .any⟩], []⟩]⟩
noncomputable def st34_3 (p s : List D) : Option (Sum (List D) (List D)) := stepQX env tb30 60 12 34 (loopC 34 3) S34_3 p s
theorem st34_3_eq (ps0 : ByteArray) (ps1 : ByteArray) (sn0 : Int) (ss1 : ByteArray) : st34_3  [(D.str ps0), (D.str ps1)] [(D.int sn0), (D.str ss1)] =
    bif (qcmp BinOp.geq sn0 16) then
    bif (qcmp BinOp.leq 0 (qbin BinOp.rem IntKind.u32 (qbin BinOp.quo IntKind.u32 sn0 16) 16)) then
    bif (qcmp BinOp.leq (qbin BinOp.rem IntKind.u32 (qbin BinOp.quo IntKind.u32 sn0 16) 16) (qbin BinOp.add IntKind.u32 (qbin BinOp.rem IntKind.u32 (qbin BinOp.quo IntKind.u32 sn0 16) 16) 1)) then
    bif (qcmp BinOp.leq (qbin BinOp.add IntKind.u32 (qbin BinOp.rem IntKind.u32 (qbin BinOp.quo IntKind.u32 sn0 16) 16) 1) (qlenS ps1)) then
    bif (qcatOk (qsubS ps1 (qbin BinOp.rem IntKind.u32 (qbin BinOp.quo IntKind.u32 sn0 16) 16) (qbin BinOp.add IntKind.u32 (qbin BinOp.rem IntKind.u32 (qbin BinOp.quo IntKind.u32 sn0 16) 16) 1)) ss1) then
    some (Sum.inl [(D.int (qbin BinOp.quo IntKind.u32 sn0 16)), (D.str (qcat (qsubS ps1 (qbin BinOp.rem IntKind.u32 (qbin BinOp.quo IntKind.u32 sn0 16) 16) (qbin BinOp.add IntKind.u32 (qbin BinOp.rem IntKind.u32 (qbin BinOp.quo IntKind.u32 sn0 16) 16) 1)) ss1))])
    else
    none
    else
    none
    else
    none
    else
    none
    else
    some (Sum.inr [(D.int 0), (D.str ss1)]) := by
  have h : st34_3  [(D.str ps0), (D.str ps1)] [(D.int sn0), (D.str ss1)] =
    bif (qcmp BinOp.geq sn0 16) then
    bif (qcmp BinOp.leq 0 (qbin BinOp.rem IntKind.u32 (qbin BinOp.quo IntKind.u32 sn0 16) 16)) then
    bif (qcmp BinOp.leq (qbin BinOp.rem IntKind.u32 (qbin BinOp.quo IntKind.u32 sn0 16) 16) (qbin BinOp.add IntKind.u32 (qbin BinOp.rem IntKind.u32 (qbin BinOp.quo IntKind.u32 sn0 16) 16) 1)) then
    bif (qcmp BinOp.leq (qbin BinOp.add IntKind.u32 (qbin BinOp.rem IntKind.u32 (qbin BinOp.quo IntKind.u32 sn0 16) 16) 1) (qlenS ps1)) then
    bif (qcatOk (qsubS ps1 (qbin BinOp.rem IntKind.u32 (qbin BinOp.quo IntKind.u32 sn0 16) 16) (qbin BinOp.add IntKind.u32 (qbin BinOp.rem IntKind.u32 (qbin BinOp.quo IntKind.u32 sn0 16) 16) 1)) ss1) then
    bif (qeqD (D.str ps0) (D.str ps0)) then
    bif (qeqD (D.str ps1) (D.str ps1)) then
    some (Sum.inl [(D.int (qbin BinOp.quo IntKind.u32 sn0 16)), (D.str (qcat (qsubS ps1 (qbin BinOp.rem IntKind.u32 (qbin BinOp.quo IntKind.u32 sn0 16) 16) (qbin BinOp.add IntKind.u32 (qbin BinOp.rem IntKind.u32 (qbin BinOp.quo IntKind.u32 sn0 16) 16) 1)) ss1))])
    else
    none
    else
    none
    else
    none
    else
    none
    else
    none
    else
    none
    else
    bif (qeqD (D.str ps0) (D.str ps0)) then
    bif (qeqD (D.str ps1) (D.str ps1)) then
    some (Sum.inr [(D.int 0), (D.str ss1)])
    else
    none
    else
    none := by kernel_rfl
  rw [h]; simp only [qeqD_self, qeqI_self, qeq_len, show qcmp BinOp.eql 0 (qlen (D.list [])) = true from qeq_len [], show ∀ a, qcmp BinOp.eql 1 (qlen (D.list [a])) = true from fun a => qeq_len [a], show ∀ a b, qcmp BinOp.eql 2 (qlen (D.list [a, b])) = true from fun a b => qeq_len [a, b], show ∀ a b c, qcmp BinOp.eql 3 (qlen (D.list [a, b, c])) = true from fun a b c => qeq_len [a, b, c], show ∀ a b c d, qcmp BinOp.eql 4 (qlen (D.list [a, b, c, d])) = true from fun a b c d => qeq_len [a, b, c, d], cond_true]
noncomputable def l34_3 : List D → List D → Option (List D) := veil fun p s => loW (st34_3  p) s
theorem l34_3_eq : l34_3  = fun p s => loW (st34_3  p) s := veil_eq _
noncomputable def tbl34_3 : Tb := Tb.addL tb30 34 3 S34_3.n0 (mkLp S34_3 (l34_3 ))
theorem ok_tbl34_3 : TbOk env (tbl34_3 ) := addLoopQ ok_tb30 34 3 (by kernel_rfl) _ (l34_3_eq )
def S34 : FunS := ⟨[⟨true, (.int .u32)⟩], [], [⟨true, .str⟩], []⟩
noncomputable def F34 : List D → Option (List D) := liftX env tbl34_3 60 12 34 S34
theorem F34_eq  (sn0 : Int) : F34  [(D.int sn0)] =
    bif (qcmp BinOp.leq 0 (qbin BinOp.rem IntKind.u32 sn0 16)) then
    bif (qcmp BinOp.leq (qbin BinOp.rem IntKind.u32 sn0 16) (qbin BinOp.add IntKind.u32 (qbin BinOp.rem IntKind.u32 sn0 16) 1)) then
    bif (qcmp BinOp.leq (qbin BinOp.add IntKind.u32 (qbin BinOp.rem IntKind.u32 sn0 16) 1) (qlenS (ByteArray.mk #[48, 49, 50, 51, 52, 53, 54, 55, 56, 57, 97, 98, 99, 100, 101, 102]))) then
    bif (qsome (l34_3 [(D.str (ByteArray.mk #[])), (D.str (ByteArray.mk #[48, 49, 50, 51, 52, 53, 54, 55, 56, 57, 97, 98, 99, 100, 101, 102]))] [(D.int sn0), (D.str (qsubS (ByteArray.mk #[48, 49, 50, 51, 52, 53, 54, 55, 56, 57, 97, 98, 99, 100, 101, 102]) (qbin BinOp.rem IntKind.u32 sn0 16) (qbin BinOp.add IntKind.u32 (qbin BinOp.rem IntKind.u32 sn0 16) 1)))])) then
    bif (qcatOk (ByteArray.mk #[48, 120]) (qstr (qnth (l34_3 [(D.str (ByteArray.mk #[])), (D.str (ByteArray.mk #[48, 49, 50, 51, 52, 53, 54, 55, 56, 57, 97, 98, 99, 100, 101, 102]))] [(D.int sn0), (D.str (qsubS (ByteArray.mk #[48, 49, 50, 51, 52, 53, 54, 55, 56, 57, 97, 98, 99, 100, 101, 102]) (qbin BinOp.rem IntKind.u32 sn0 16) (qbin BinOp.add IntKind.u32 (qbin BinOp.rem IntKind.u32 sn0 16) 1)))]) 1))) then
    some [(D.str (qcat (ByteArray.mk #[48, 120]) (qstr (qnth (l34_3 [(D.str (ByteArray.mk #[])), (D.str (ByteArray.mk #[48, 49, 50, 51, 52, 53, 54, 55, 56, 57, 97, 98, 99, 100, 101, 102]))] [(D.int sn0), (D.str (qsubS (ByteArray.mk #[48, 49, 50, 51, 52, 53, 54, 55, 56, 57, 97, 98, 99, 100, 101, 102]) (qbin BinOp.rem IntKind.u32 sn0 16) (qbin BinOp.add IntKind.u32 (qbin BinOp.rem IntKind.u32 sn0 16) 1)))]) 1))))]
    else
    none
    else
    none
    else
    none
    else
    none
    else
    none := by kernel_rfl
noncomputable def q34 : List D → Option (List D) := veil (F34 )
theorem q34_eq : q34  = F34  := veil_eq _
noncomputable def tb34 : Tb := Tb.addF tbl34_3 34 S34 (q34 )
theorem ok_tb34 : TbOk env (tb34 ) := addFunF ok_tbl34_3 34 (by kernel_rfl) _ (q34_eq )
def S32 : FunS := ⟨[⟨true, (.int .u32)⟩], [], [⟨true, .bool⟩], []⟩
noncomputable def F32 : List D → Option (List D) := liftX env tb34 60 12 32 S32
theorem F32_eq  (sn0 : Int) : F32  [(D.int sn0)] =
    some [(D.bool (qiteB (qcmp BinOp.leq sn0 127) Bool.true (qcmp BinOp.geq sn0 4294967168)))] := by kernel_rfl
noncomputable def q32 : List D → Option (List D) := veil (F32 )
theorem q32_eq : q32  = F32  := veil_eq _
noncomputable def tb32 : Tb := Tb.addF tb34 32 S32 (q32 )
theorem ok_tb32 : TbOk env (tb32 ) := addFunF ok_tb34 32 (by kernel_rfl) _ (q32_eq )
def S58 : FunS := ⟨[⟨true, (.int .u32)⟩], [], [⟨true, .str⟩], []⟩
noncomputable def F58 : List D → Option (List D) := liftX env tb32 60 12 58 S58
theorem F58_eq  (sn0 : Int) : F58  [(D.int sn0)] =
    bif (qcmp BinOp.geq sn0 4294967168) then
    bif (qsome (q30 [(D.int (qbin BinOp.sub IntKind.u32 0 sn0))])) then
    bif (qcatOk (ByteArray.mk #[45]) (qstr (qnth (q30 [(D.int (qbin BinOp.sub IntKind.u32 0 sn0))]) 0))) then
    some [(D.str (qcat (ByteArray.mk #[45]) (qstr (qnth (q30 [(D.int (qbin BinOp.sub IntKind.u32 0 sn0))]) 0))))]
    else
    none
    else
    none
    else
    bif (qsome (q30 [(D.int sn0)])) then
    some [(D.str (qstr (qnth (q30 [(D.int sn0)]) 0)))]
    else
    none := by kernel_rfl
noncomputable def q58 : List D → Option (List D) := veil (F58 )
theorem q58_eq : q58  = F58  := veil_eq _
noncomputable def tb58 : Tb := Tb.addF tb32 58 S58 (q58 )
theorem ok_tb58 : TbOk env (tb58 ) := addFunF ok_tb32 58 (by kernel_rfl) _ (q58_eq )
def S29 : FunS := ⟨[⟨true, (.int .i64)⟩], [], [⟨true, .str⟩], []⟩
noncomputable def F29 : List D → Option (List D) := liftX env tb58 60 12 29 S29
theorem F29_eq  (sn0 : Int) : F29  [(D.int sn0)] =
    bif (qsome (q30 [(D.int (qwrap IntKind.u32 sn0))])) then
    bif (qcatOk (ByteArray.mk #[114]) (qstr (qnth (q30 [(D.int (qwrap IntKind.u32 sn0))]) 0))) then
    some [(D.str (qcat (ByteArray.mk #[114]) (qstr (qnth (q30 [(D.int (qwrap IntKind.u32 sn0))]) 0))))]
    else
    none
    else
    none := by kernel_rfl
noncomputable def q29 : List D → Option (List D) := veil (F29 )
theorem q29_eq : q29  = F29  := veil_eq _
noncomputable def tb29 : Tb := Tb.addF tb58 29 S29 (q29 )
theorem ok_tb29 : TbOk env (tb29 ) := addFunF ok_tb58 29 (by kernel_rfl) _ (q29_eq )
def S31 : FunS := ⟨[⟨true, (.dat 24)⟩], [], [⟨true, .str⟩], []⟩
noncomputable def F31 : List D → Option (List D) := liftX env tb29 60 12 31 S31
theorem F31_eq  (sd0 : D) : F31  [sd0] =
    bif (qcmp BinOp.eql (qint (qfld sd0 1)) 0) then
    bif (qsome (q29 [(D.int (qint (qfld sd0 7)))])) then
    bif (qcatOk (ByteArray.mk #[91]) (qstr (qnth (q29 [(D.int (qint (qfld sd0 7)))]) 0))) then
    bif (qcatOk (qcat (ByteArray.mk #[91]) (qstr (qnth (q29 [(D.int (qint (qfld sd0 7)))]) 0))) (ByteArray.mk #[93])) then
    some [(D.str (qcat (qcat (ByteArray.mk #[91]) (qstr (qnth (q29 [(D.int (qint (qfld sd0 7)))]) 0))) (ByteArray.mk #[93])))]
    else
    none
    else
    none
    else
    none
    else
    bif (qcmp BinOp.leq (qint (qfld sd0 1)) 127) then
    bif (qsome (q29 [(D.int (qint (qfld sd0 7)))])) then
    bif (qcatOk (ByteArray.mk #[91]) (qstr (qnth (q29 [(D.int (qint (qfld sd0 7)))]) 0))) then
    bif (qcatOk (qcat (ByteArray.mk #[91]) (qstr (qnth (q29 [(D.int (qint (qfld sd0 7)))]) 0))) (ByteArray.mk #[43])) then
    bif (qsome (q30 [(D.int (qint (qfld sd0 1)))])) then
    bif (qcatOk (qcat (qcat (ByteArray.mk #[91]) (qstr (qnth (q29 [(D.int (qint (qfld sd0 7)))]) 0))) (ByteArray.mk #[43])) (qstr (qnth (q30 [(D.int (qint (qfld sd0 1)))]) 0))) then
    bif (qcatOk (qcat (qcat (qcat (ByteArray.mk #[91]) (qstr (qnth (q29 [(D.int (qint (qfld sd0 7)))]) 0))) (ByteArray.mk #[43])) (qstr (qnth (q30 [(D.int (qint (qfld sd0 1)))]) 0))) (ByteArray.mk #[93])) then
    some [(D.str (qcat (qcat (qcat (qcat (ByteArray.mk #[91]) (qstr (qnth (q29 [(D.int (qint (qfld sd0 7)))]) 0))) (ByteArray.mk #[43])) (qstr (qnth (q30 [(D.int (qint (qfld sd0 1)))]) 0))) (ByteArray.mk #[93])))]
    else
    none
    else
    none
    else
    none
    else
    none
    else
    none
    else
    none
    else
    bif (qsome (q29 [(D.int (qint (qfld sd0 7)))])) then
    bif (qcatOk (ByteArray.mk #[91]) (qstr (qnth (q29 [(D.int (qint (qfld sd0 7)))]) 0))) then
    bif (qcatOk (qcat (ByteArray.mk #[91]) (qstr (qnth (q29 [(D.int (qint (qfld sd0 7)))]) 0))) (ByteArray.mk #[45])) then
    bif (qsome (q30 [(D.int (qbin BinOp.sub IntKind.u32 0 (qint (qfld sd0 1))))])) then
    bif (qcatOk (qcat (qcat (ByteArray.mk #[91]) (qstr (qnth (q29 [(D.int (qint (qfld sd0 7)))]) 0))) (ByteArray.mk #[45])) (qstr (qnth (q30 [(D.int (qbin BinOp.sub IntKind.u32 0 (qint (qfld sd0 1))))]) 0))) then
    bif (qcatOk (qcat (qcat (qcat (ByteArray.mk #[91]) (qstr (qnth (q29 [(D.int (qint (qfld sd0 7)))]) 0))) (ByteArray.mk #[45])) (qstr (qnth (q30 [(D.int (qbin BinOp.sub IntKind.u32 0 (qint (qfld sd0 1))))]) 0))) (ByteArray.mk #[93])) then
    some [(D.str (qcat (qcat (qcat (qcat (ByteArray.mk #[91]) (qstr (qnth (q29 [(D.int (qint (qfld sd0 7)))]) 0))) (ByteArray.mk #[45])) (qstr (qnth (q30 [(D.int (qbin BinOp.sub IntKind.u32 0 (qint (qfld sd0 1))))]) 0))) (ByteArray.mk #[93])))]
    else
    none
    else
    none
    else
    none
    else
    none
    else
    none
    else
    none := by kernel_rfl
noncomputable def q31 : List D → Option (List D) := veil (F31 )
theorem q31_eq : q31  = F31  := veil_eq _
noncomputable def tb31 : Tb := Tb.addF tb29 31 S31 (q31 )
theorem ok_tb31 : TbOk env (tb31 ) := addFunF ok_tb29 31 (by kernel_rfl) _ (q31_eq )
def S33 : FunS := ⟨[⟨true, (.int .i64)⟩], [], [⟨true, .str⟩], []⟩
noncomputable def F33 : List D → Option (List D) := liftX env tb31 60 12 33 S33
theorem F33_eq  (sn0 : Int) : F33  [(D.int sn0)] =
    bif (qcmp BinOp.eql sn0 0) then
    some [(D.str (ByteArray.mk #[106, 109, 112]))]
    else
    bif (qsome (q35 [])) then
    bif (qinb (qnth (q35 []) 0) sn0) then
    bif (qcatOk (ByteArray.mk #[106]) (qstr (qget (qnth (q35 []) 0) sn0))) then
    some [(D.str (qcat (ByteArray.mk #[106]) (qstr (qget (qnth (q35 []) 0) sn0))))]
    else
    none
    else
    none
    else
    none := by kernel_rfl
noncomputable def q33 : List D → Option (List D) := veil (F33 )
theorem q33_eq : q33  = F33  := veil_eq _
noncomputable def tb33 : Tb := Tb.addF tb31 33 S33 (q33 )
theorem ok_tb33 : TbOk env (tb33 ) := addFunF ok_tb31 33 (by kernel_rfl) _ (q33_eq )
def S28 : FunS := ⟨[⟨true, (.dat 24)⟩], [], [⟨true, .str⟩], []⟩
noncomputable def F28 : List D → Option (List D) := liftX env tb33 60 12 28 S28
theorem F28_eq  (sd0 : D) : F28  [sd0] =
    bif (qsome (q57 [])) then
    bif (qinb (qnth (q57 []) 0) (qbin BinOp.sub IntKind.i64 (qint (qfld sd0 2)) 5)) then
    bif (qcmp BinOp.eql (qint (qfld sd0 3)) 0) then
    bif (qcatOk (qstr (qget (qnth (q57 []) 0) (qbin BinOp.sub IntKind.i64 (qint (qfld sd0 2)) 5))) (ByteArray.mk #[32])) then
    bif (qsome (q29 [(D.int (qint (qfld sd0 6)))])) then
    bif (qcatOk (qcat (qstr (qget (qnth (q57 []) 0) (qbin BinOp.sub IntKind.i64 (qint (qfld sd0 2)) 5))) (ByteArray.mk #[32])) (qstr (qnth (q29 [(D.int (qint (qfld sd0 6)))]) 0))) then
    bif (qcatOk (qcat (qcat (qstr (qget (qnth (q57 []) 0) (qbin BinOp.sub IntKind.i64 (qint (qfld sd0 2)) 5))) (ByteArray.mk #[32])) (qstr (qnth (q29 [(D.int (qint (qfld sd0 6)))]) 0))) (ByteArray.mk #[44, 32])) then
    bif (qsome (q29 [(D.int (qint (qfld sd0 7)))])) then
    bif (qcatOk (qcat (qcat (qcat (qstr (qget (qnth (q57 []) 0) (qbin BinOp.sub IntKind.i64 (qint (qfld sd0 2)) 5))) (ByteArray.mk #[32])) (qstr (qnth (q29 [(D.int (qint (qfld sd0 6)))]) 0))) (ByteArray.mk #[44, 32])) (qstr (qnth (q29 [(D.int (qint (qfld sd0 7)))]) 0))) then
    some [(D.str (qcat (qcat (qcat (qcat (qstr (qget (qnth (q57 []) 0) (qbin BinOp.sub IntKind.i64 (qint (qfld sd0 2)) 5))) (ByteArray.mk #[32])) (qstr (qnth (q29 [(D.int (qint (qfld sd0 6)))]) 0))) (ByteArray.mk #[44, 32])) (qstr (qnth (q29 [(D.int (qint (qfld sd0 7)))]) 0))))]
    else
    none
    else
    none
    else
    none
    else
    none
    else
    none
    else
    none
    else
    bif (qcmp BinOp.eql (qint (qfld sd0 3)) 1) then
    bif (qcatOk (qstr (qget (qnth (q57 []) 0) (qbin BinOp.sub IntKind.i64 (qint (qfld sd0 2)) 5))) (ByteArray.mk #[32])) then
    bif (qsome (q29 [(D.int (qint (qfld sd0 6)))])) then
    bif (qcatOk (qcat (qstr (qget (qnth (q57 []) 0) (qbin BinOp.sub IntKind.i64 (qint (qfld sd0 2)) 5))) (ByteArray.mk #[32])) (qstr (qnth (q29 [(D.int (qint (qfld sd0 6)))]) 0))) then
    bif (qcatOk (qcat (qcat (qstr (qget (qnth (q57 []) 0) (qbin BinOp.sub IntKind.i64 (qint (qfld sd0 2)) 5))) (ByteArray.mk #[32])) (qstr (qnth (q29 [(D.int (qint (qfld sd0 6)))]) 0))) (ByteArray.mk #[44, 32])) then
    bif (qsome (q58 [(D.int (qint (qfld sd0 1)))])) then
    bif (qcatOk (qcat (qcat (qcat (qstr (qget (qnth (q57 []) 0) (qbin BinOp.sub IntKind.i64 (qint (qfld sd0 2)) 5))) (ByteArray.mk #[32])) (qstr (qnth (q29 [(D.int (qint (qfld sd0 6)))]) 0))) (ByteArray.mk #[44, 32])) (qstr (qnth (q58 [(D.int (qint (qfld sd0 1)))]) 0))) then
    some [(D.str (qcat (qcat (qcat (qcat (qstr (qget (qnth (q57 []) 0) (qbin BinOp.sub IntKind.i64 (qint (qfld sd0 2)) 5))) (ByteArray.mk #[32])) (qstr (qnth (q29 [(D.int (qint (qfld sd0 6)))]) 0))) (ByteArray.mk #[44, 32])) (qstr (qnth (q58 [(D.int (qint (qfld sd0 1)))]) 0))))]
    else
    none
    else
    none
    else
    none
    else
    none
    else
    none
    else
    none
    else
    bif (qsome (q32 [(D.int (qint (qfld sd0 1)))])) then
    bif (qbool (qnth (q32 [(D.int (qint (qfld sd0 1)))]) 0)) then
    bif (qcatOk (qstr (qget (qnth (q57 []) 0) (qbin BinOp.sub IntKind.i64 (qint (qfld sd0 2)) 5))) (ByteArray.mk #[46, 119, 32])) then
    bif (qsome (q29 [(D.int (qint (qfld sd0 6)))])) then
    bif (qcatOk (qcat (qstr (qget (qnth (q57 []) 0) (qbin BinOp.sub IntKind.i64 (qint (qfld sd0 2)) 5))) (ByteArray.mk #[46, 119, 32])) (qstr (qnth (q29 [(D.int (qint (qfld sd0 6)))]) 0))) then
    bif (qcatOk (qcat (qcat (qstr (qget (qnth (q57 []) 0) (qbin BinOp.sub IntKind.i64 (qint (qfld sd0 2)) 5))) (ByteArray.mk #[46, 119, 32])) (qstr (qnth (q29 [(D.int (qint (qfld sd0 6)))]) 0))) (ByteArray.mk #[44, 32])) then
    bif (qsome (q58 [(D.int (qint (qfld sd0 1)))])) then
    bif (qcatOk (qcat (qcat (qcat (qstr (qget (qnth (q57 []) 0) (qbin BinOp.sub IntKind.i64 (qint (qfld sd0 2)) 5))) (ByteArray.mk #[46, 119, 32])) (qstr (qnth (q29 [(D.int (qint (qfld sd0 6)))]) 0))) (ByteArray.mk #[44, 32])) (qstr (qnth (q58 [(D.int (qint (qfld sd0 1)))]) 0))) then
    some [(D.str (qcat (qcat (qcat (qcat (qstr (qget (qnth (q57 []) 0) (qbin BinOp.sub IntKind.i64 (qint (qfld sd0 2)) 5))) (ByteArray.mk #[46, 119, 32])) (qstr (qnth (q29 [(D.int (qint (qfld sd0 6)))]) 0))) (ByteArray.mk #[44, 32])) (qstr (qnth (q58 [(D.int (qint (qfld sd0 1)))]) 0))))]
    else
    none
    else
    none
    else
    none
    else
    none
    else
    none
    else
    none
    else
    bif (qcatOk (qstr (qget (qnth (q57 []) 0) (qbin BinOp.sub IntKind.i64 (qint (qfld sd0 2)) 5))) (ByteArray.mk #[32])) then
    bif (qsome (q29 [(D.int (qint (qfld sd0 6)))])) then
    bif (qcatOk (qcat (qstr (qget (qnth (q57 []) 0) (qbin BinOp.sub IntKind.i64 (qint (qfld sd0 2)) 5))) (ByteArray.mk #[32])) (qstr (qnth (q29 [(D.int (qint (qfld sd0 6)))]) 0))) then
    bif (qcatOk (qcat (qcat (qstr (qget (qnth (q57 []) 0) (qbin BinOp.sub IntKind.i64 (qint (qfld sd0 2)) 5))) (ByteArray.mk #[32])) (qstr (qnth (q29 [(D.int (qint (qfld sd0 6)))]) 0))) (ByteArray.mk #[44, 32])) then
    bif (qsome (q34 [(D.int (qint (qfld sd0 1)))])) then
    bif (qcatOk (qcat (qcat (qcat (qstr (qget (qnth (q57 []) 0) (qbin BinOp.sub IntKind.i64 (qint (qfld sd0 2)) 5))) (ByteArray.mk #[32])) (qstr (qnth (q29 [(D.int (qint (qfld sd0 6)))]) 0))) (ByteArray.mk #[44, 32])) (qstr (qnth (q34 [(D.int (qint (qfld sd0 1)))]) 0))) then
    some [(D.str (qcat (qcat (qcat (qcat (qstr (qget (qnth (q57 []) 0) (qbin BinOp.sub IntKind.i64 (qint (qfld sd0 2)) 5))) (ByteArray.mk #[32])) (qstr (qnth (q29 [(D.int (qint (qfld sd0 6)))]) 0))) (ByteArray.mk #[44, 32])) (qstr (qnth (q34 [(D.int (qint (qfld sd0 1)))]) 0))))]
    else
    none
    else
    none
    else
    none
    else
    none
    else
    none
    else
    none
    else
    none
    else
    none
    else
    none := by kernel_rfl
noncomputable def q28 : List D → Option (List D) := veil (F28 )
theorem q28_eq : q28  = F28  := veil_eq _
noncomputable def tb28 : Tb := Tb.addF tb33 28 S28 (q28 )
theorem ok_tb28 : TbOk env (tb28 ) := addFunF ok_tb33 28 (by kernel_rfl) _ (q28_eq )
def S9 : FunS := ⟨[⟨true, (.dat 24)⟩], [], [⟨true, .str⟩], []⟩
noncomputable def F9 : List D → Option (List D) := liftX env tb28 60 12 9 S9
theorem F9_eq  (sd0 : D) : F9  [sd0] =
    bif (qsome (q16 [sd0])) then
    bif (qnot (qbool (qnth (q16 [sd0]) 0))) then
    some [(D.str (ByteArray.mk #[]))]
    else
    bif (qiteB (qcmp BinOp.geq (qint (qfld sd0 2)) 5) (qcmp BinOp.leq (qint (qfld sd0 2)) 15) Bool.false) then
    bif (qsome (q28 [sd0])) then
    some [(D.str (qstr (qnth (q28 [sd0]) 0)))]
    else
    none
    else
    bif (qcmp BinOp.eql (qint (qfld sd0 2)) 0) then
    some [(D.str (ByteArray.mk #[110, 111, 112]))]
    else
    bif (qcmp BinOp.eql (qint (qfld sd0 2)) 1) then
    some [(D.str (ByteArray.mk #[104, 97, 108, 116]))]
    else
    bif (qcmp BinOp.eql (qint (qfld sd0 2)) 2) then
    some [(D.str (ByteArray.mk #[114, 101, 116]))]
    else
    bif (qcmp BinOp.eql (qint (qfld sd0 2)) 3) then
    bif (qsome (q29 [(D.int (qint (qfld sd0 6)))])) then
    bif (qcatOk (ByteArray.mk #[112, 117, 115, 104, 32]) (qstr (qnth (q29 [(D.int (qint (qfld sd0 6)))]) 0))) then
    some [(D.str (qcat (ByteArray.mk #[112, 117, 115, 104, 32]) (qstr (qnth (q29 [(D.int (qint (qfld sd0 6)))]) 0))))]
    else
    none
    else
    none
    else
    bif (qcmp BinOp.eql (qint (qfld sd0 2)) 4) then
    bif (qsome (q29 [(D.int (qint (qfld sd0 6)))])) then
    bif (qcatOk (ByteArray.mk #[112, 111, 112, 32]) (qstr (qnth (q29 [(D.int (qint (qfld sd0 6)))]) 0))) then
    some [(D.str (qcat (ByteArray.mk #[112, 111, 112, 32]) (qstr (qnth (q29 [(D.int (qint (qfld sd0 6)))]) 0))))]
    else
    none
    else
    none
    else
    bif (qcmp BinOp.eql (qint (qfld sd0 2)) 16) then
    bif (qsome (q30 [(D.int (qwrap IntKind.u32 (qint (qfld sd0 4))))])) then
    bif (qcatOk (ByteArray.mk #[108, 111, 97, 100]) (qstr (qnth (q30 [(D.int (qwrap IntKind.u32 (qint (qfld sd0 4))))]) 0))) then
    bif (qcatOk (qcat (ByteArray.mk #[108, 111, 97, 100]) (qstr (qnth (q30 [(D.int (qwrap IntKind.u32 (qint (qfld sd0 4))))]) 0))) (ByteArray.mk #[32])) then
    bif (qsome (q29 [(D.int (qint (qfld sd0 6)))])) then
    bif (qcatOk (qcat (qcat (ByteArray.mk #[108, 111, 97, 100]) (qstr (qnth (q30 [(D.int (qwrap IntKind.u32 (qint (qfld sd0 4))))]) 0))) (ByteArray.mk #[32])) (qstr (qnth (q29 [(D.int (qint (qfld sd0 6)))]) 0))) then
    bif (qcatOk (qcat (qcat (qcat (ByteArray.mk #[108, 111, 97, 100]) (qstr (qnth (q30 [(D.int (qwrap IntKind.u32 (qint (qfld sd0 4))))]) 0))) (ByteArray.mk #[32])) (qstr (qnth (q29 [(D.int (qint (qfld sd0 6)))]) 0))) (ByteArray.mk #[44, 32])) then
    bif (qsome (q31 [sd0])) then
    bif (qcatOk (qcat (qcat (qcat (qcat (ByteArray.mk #[108, 111, 97, 100]) (qstr (qnth (q30 [(D.int (qwrap IntKind.u32 (qint (qfld sd0 4))))]) 0))) (ByteArray.mk #[32])) (qstr (qnth (q29 [(D.int (qint (qfld sd0 6)))]) 0))) (ByteArray.mk #[44, 32])) (qstr (qnth (q31 [sd0]) 0))) then
    some [(D.str (qcat (qcat (qcat (qcat (qcat (ByteArray.mk #[108, 111, 97, 100]) (qstr (qnth (q30 [(D.int (qwrap IntKind.u32 (qint (qfld sd0 4))))]) 0))) (ByteArray.mk #[32])) (qstr (qnth (q29 [(D.int (qint (qfld sd0 6)))]) 0))) (ByteArray.mk #[44, 32])) (qstr (qnth (q31 [sd0]) 0))))]
    else
    none
    else
    none
    else
    none
    else
    none
    else
    none
    else
    none
    else
    none
    else
    none
    else
    bif (qcmp BinOp.eql (qint (qfld sd0 2)) 17) then
    bif (qsome (q30 [(D.int (qwrap IntKind.u32 (qint (qfld sd0 4))))])) then
    bif (qcatOk (ByteArray.mk #[108, 111, 97, 100]) (qstr (qnth (q30 [(D.int (qwrap IntKind.u32 (qint (qfld sd0 4))))]) 0))) then
    bif (qcatOk (qcat (ByteArray.mk #[108, 111, 97, 100]) (qstr (qnth (q30 [(D.int (qwrap IntKind.u32 (qint (qfld sd0 4))))]) 0))) (ByteArray.mk #[115, 32])) then
    bif (qsome (q29 [(D.int (qint (qfld sd0 6)))])) then
    bif (qcatOk (qcat (qcat (ByteArray.mk #[108, 111, 97, 100]) (qstr (qnth (q30 [(D.int (qwrap IntKind.u32 (qint (qfld sd0 4))))]) 0))) (ByteArray.mk #[115, 32])) (qstr (qnth (q29 [(D.int (qint (qfld sd0 6)))]) 0))) then
    bif (qcatOk (qcat (qcat (qcat (ByteArray.mk #[108, 111, 97, 100]) (qstr (qnth (q30 [(D.int (qwrap IntKind.u32 (qint (qfld sd0 4))))]) 0))) (ByteArray.mk #[115, 32])) (qstr (qnth (q29 [(D.int (qint (qfld sd0 6)))]) 0))) (ByteArray.mk #[44, 32])) then
    bif (qsome (q31 [sd0])) then
    bif (qcatOk (qcat (qcat (qcat (qcat (ByteArray.mk #[108, 111, 97, 100]) (qstr (qnth (q30 [(D.int (qwrap IntKind.u32 (qint (qfld sd0 4))))]) 0))) (ByteArray.mk #[115, 32])) (qstr (qnth (q29 [(D.int (qint (qfld sd0 6)))]) 0))) (ByteArray.mk #[44, 32])) (qstr (qnth (q31 [sd0]) 0))) then
    some [(D.str (qcat (qcat (qcat (qcat (qcat (ByteArray.mk #[108, 111, 97, 100]) (qstr (qnth (q30 [(D.int (qwrap IntKind.u32 (qint (qfld sd0 4))))]) 0))) (ByteArray.mk #[115, 32])) (qstr (qnth (q29 [(D.int (qint (qfld sd0 6)))]) 0))) (ByteArray.mk #[44, 32])) (qstr (qnth (q31 [sd0]) 0))))]
    else
    none
    else
    none
    else
    none
    else
    none
    else
    none
    else
    none
    else
    none
    else
    none
    else
    bif (qcmp BinOp.eql (qint (qfld sd0 2)) 18) then
    bif (qsome (q30 [(D.int (qwrap IntKind.u32 (qint (qfld sd0 4))))])) then
    bif (qcatOk (ByteArray.mk #[115, 116, 111, 114, 101]) (qstr (qnth (q30 [(D.int (qwrap IntKind.u32 (qint (qfld sd0 4))))]) 0))) then
    bif (qcatOk (qcat (ByteArray.mk #[115, 116, 111, 114, 101]) (qstr (qnth (q30 [(D.int (qwrap IntKind.u32 (qint (qfld sd0 4))))]) 0))) (ByteArray.mk #[32])) then
    bif (qsome (q31 [sd0])) then
    bif (qcatOk (qcat (qcat (ByteArray.mk #[115, 116, 111, 114, 101]) (qstr (qnth (q30 [(D.int (qwrap IntKind.u32 (qint (qfld sd0 4))))]) 0))) (ByteArray.mk #[32])) (qstr (qnth (q31 [sd0]) 0))) then
    bif (qcatOk (qcat (qcat (qcat (ByteArray.mk #[115, 116, 111, 114, 101]) (qstr (qnth (q30 [(D.int (qwrap IntKind.u32 (qint (qfld sd0 4))))]) 0))) (ByteArray.mk #[32])) (qstr (qnth (q31 [sd0]) 0))) (ByteArray.mk #[44, 32])) then
    bif (qsome (q29 [(D.int (qint (qfld sd0 6)))])) then
    bif (qcatOk (qcat (qcat (qcat (qcat (ByteArray.mk #[115, 116, 111, 114, 101]) (qstr (qnth (q30 [(D.int (qwrap IntKind.u32 (qint (qfld sd0 4))))]) 0))) (ByteArray.mk #[32])) (qstr (qnth (q31 [sd0]) 0))) (ByteArray.mk #[44, 32])) (qstr (qnth (q29 [(D.int (qint (qfld sd0 6)))]) 0))) then
    some [(D.str (qcat (qcat (qcat (qcat (qcat (ByteArray.mk #[115, 116, 111, 114, 101]) (qstr (qnth (q30 [(D.int (qwrap IntKind.u32 (qint (qfld sd0 4))))]) 0))) (ByteArray.mk #[32])) (qstr (qnth (q31 [sd0]) 0))) (ByteArray.mk #[44, 32])) (qstr (qnth (q29 [(D.int (qint (qfld sd0 6)))]) 0))))]
    else
    none
    else
    none
    else
    none
    else
    none
    else
    none
    else
    none
    else
    none
    else
    none
    else
    bif (qcmp BinOp.eql (qint (qfld sd0 2)) 19) then
    bif (qsome (q29 [(D.int (qint (qfld sd0 6)))])) then
    bif (qcatOk (ByteArray.mk #[108, 101, 97, 32]) (qstr (qnth (q29 [(D.int (qint (qfld sd0 6)))]) 0))) then
    bif (qcatOk (qcat (ByteArray.mk #[108, 101, 97, 32]) (qstr (qnth (q29 [(D.int (qint (qfld sd0 6)))]) 0))) (ByteArray.mk #[44, 32])) then
    bif (qsome (q31 [sd0])) then
    bif (qcatOk (qcat (qcat (ByteArray.mk #[108, 101, 97, 32]) (qstr (qnth (q29 [(D.int (qint (qfld sd0 6)))]) 0))) (ByteArray.mk #[44, 32])) (qstr (qnth (q31 [sd0]) 0))) then
    some [(D.str (qcat (qcat (qcat (ByteArray.mk #[108, 101, 97, 32]) (qstr (qnth (q29 [(D.int (qint (qfld sd0 6)))]) 0))) (ByteArray.mk #[44, 32])) (qstr (qnth (q31 [sd0]) 0))))]
    else
    none
    else
    none
    else
    none
    else
    none
    else
    none
    else
    bif (qcmp BinOp.eql (qint (qfld sd0 2)) 20) then
    bif (qiteB (qcmp BinOp.eql (qint (qfld sd0 3)) 2) (qsome (q32 [(D.int (qbin BinOp.sub IntKind.u32 (qbin BinOp.sub IntKind.u32 (qint (qfld sd0 1)) (qint (qfld sd0 0))) 2))])) Bool.true) then
    bif (qiteB (qcmp BinOp.eql (qint (qfld sd0 3)) 2) (qbool (qnth (q32 [(D.int (qbin BinOp.sub IntKind.u32 (qbin BinOp.sub IntKind.u32 (qint (qfld sd0 1)) (qint (qfld sd0 0))) 2))]) 0)) Bool.false) then
    bif (qsome (q33 [(D.int (qint (qfld sd0 5)))])) then
    bif (qcatOk (qstr (qnth (q33 [(D.int (qint (qfld sd0 5)))]) 0)) (ByteArray.mk #[46, 119, 32])) then
    bif (qsome (q34 [(D.int (qint (qfld sd0 1)))])) then
    bif (qcatOk (qcat (qstr (qnth (q33 [(D.int (qint (qfld sd0 5)))]) 0)) (ByteArray.mk #[46, 119, 32])) (qstr (qnth (q34 [(D.int (qint (qfld sd0 1)))]) 0))) then
    some [(D.str (qcat (qcat (qstr (qnth (q33 [(D.int (qint (qfld sd0 5)))]) 0)) (ByteArray.mk #[46, 119, 32])) (qstr (qnth (q34 [(D.int (qint (qfld sd0 1)))]) 0))))]
    else
    none
    else
    none
    else
    none
    else
    none
    else
    bif (qsome (q33 [(D.int (qint (qfld sd0 5)))])) then
    bif (qcatOk (qstr (qnth (q33 [(D.int (qint (qfld sd0 5)))]) 0)) (ByteArray.mk #[32])) then
    bif (qsome (q34 [(D.int (qint (qfld sd0 1)))])) then
    bif (qcatOk (qcat (qstr (qnth (q33 [(D.int (qint (qfld sd0 5)))]) 0)) (ByteArray.mk #[32])) (qstr (qnth (q34 [(D.int (qint (qfld sd0 1)))]) 0))) then
    some [(D.str (qcat (qcat (qstr (qnth (q33 [(D.int (qint (qfld sd0 5)))]) 0)) (ByteArray.mk #[32])) (qstr (qnth (q34 [(D.int (qint (qfld sd0 1)))]) 0))))]
    else
    none
    else
    none
    else
    none
    else
    none
    else
    none
    else
    bif (qcmp BinOp.eql (qint (qfld sd0 2)) 21) then
    bif (qsome (q29 [(D.int (qint (qfld sd0 6)))])) then
    bif (qcatOk (ByteArray.mk #[106, 117, 109, 112, 114, 32]) (qstr (qnth (q29 [(D.int (qint (qfld sd0 6)))]) 0))) then
    some [(D.str (qcat (ByteArray.mk #[106, 117, 109, 112, 114, 32]) (qstr (qnth (q29 [(D.int (qint (qfld sd0 6)))]) 0))))]
    else
    none
    else
    none
    else
    bif (qcmp BinOp.eql (qint (qfld sd0 2)) 24) then
    bif (qsome (q29 [(D.int (qint (qfld sd0 6)))])) then
    bif (qcatOk (ByteArray.mk #[99, 97, 108, 108, 114, 32]) (qstr (qnth (q29 [(D.int (qint (qfld sd0 6)))]) 0))) then
    some [(D.str (qcat (ByteArray.mk #[99, 97, 108, 108, 114, 32]) (qstr (qnth (q29 [(D.int (qint (qfld sd0 6)))]) 0))))]
    else
    none
    else
    none
    else
    bif (qcmp BinOp.eql (qint (qfld sd0 2)) 22) then
    bif (qsome (q29 [(D.int (qint (qfld sd0 6)))])) then
    bif (qcatOk (ByteArray.mk #[106, 117, 109, 112, 116, 32]) (qstr (qnth (q29 [(D.int (qint (qfld sd0 6)))]) 0))) then
    bif (qcatOk (qcat (ByteArray.mk #[106, 117, 109, 112, 116, 32]) (qstr (qnth (q29 [(D.int (qint (qfld sd0 6)))]) 0))) (ByteArray.mk #[44, 32])) then
    bif (qsome (q34 [(D.int (qint (qfld sd0 1)))])) then
    bif (qcatOk (qcat (qcat (ByteArray.mk #[106, 117, 109, 112, 116, 32]) (qstr (qnth (q29 [(D.int (qint (qfld sd0 6)))]) 0))) (ByteArray.mk #[44, 32])) (qstr (qnth (q34 [(D.int (qint (qfld sd0 1)))]) 0))) then
    some [(D.str (qcat (qcat (qcat (ByteArray.mk #[106, 117, 109, 112, 116, 32]) (qstr (qnth (q29 [(D.int (qint (qfld sd0 6)))]) 0))) (ByteArray.mk #[44, 32])) (qstr (qnth (q34 [(D.int (qint (qfld sd0 1)))]) 0))))]
    else
    none
    else
    none
    else
    none
    else
    none
    else
    none
    else
    bif (qcmp BinOp.eql (qint (qfld sd0 2)) 23) then
    bif (qsome (q34 [(D.int (qint (qfld sd0 1)))])) then
    bif (qcatOk (ByteArray.mk #[99, 97, 108, 108, 32]) (qstr (qnth (q34 [(D.int (qint (qfld sd0 1)))]) 0))) then
    some [(D.str (qcat (ByteArray.mk #[99, 97, 108, 108, 32]) (qstr (qnth (q34 [(D.int (qint (qfld sd0 1)))]) 0))))]
    else
    none
    else
    none
    else
    bif (qcmp BinOp.eql (qint (qfld sd0 2)) 25) then
    bif (qsome (q35 [])) then
    bif (qinb (qnth (q35 []) 0) (qint (qfld sd0 5))) then
    bif (qcatOk (ByteArray.mk #[115, 101, 116]) (qstr (qget (qnth (q35 []) 0) (qint (qfld sd0 5))))) then
    bif (qcatOk (qcat (ByteArray.mk #[115, 101, 116]) (qstr (qget (qnth (q35 []) 0) (qint (qfld sd0 5))))) (ByteArray.mk #[32])) then
    bif (qsome (q29 [(D.int (qint (qfld sd0 6)))])) then
    bif (qcatOk (qcat (qcat (ByteArray.mk #[115, 101, 116]) (qstr (qget (qnth (q35 []) 0) (qint (qfld sd0 5))))) (ByteArray.mk #[32])) (qstr (qnth (q29 [(D.int (qint (qfld sd0 6)))]) 0))) then
    some [(D.str (qcat (qcat (qcat (ByteArray.mk #[115, 101, 116]) (qstr (qget (qnth (q35 []) 0) (qint (qfld sd0 5))))) (ByteArray.mk #[32])) (qstr (qnth (q29 [(D.int (qint (qfld sd0 6)))]) 0))))]
    else
    none
    else
    none
    else
    none
    else
    none
    else
    none
    else
    none
    else
    bif (qcmp BinOp.eql (qint (qfld sd0 2)) 26) then
    bif (qsome (q29 [(D.int (qint (qfld sd0 6)))])) then
    bif (qcatOk (ByteArray.mk #[105, 110, 32]) (qstr (qnth (q29 [(D.int (qint (qfld sd0 6)))]) 0))) then
    some [(D.str (qcat (ByteArray.mk #[105, 110, 32]) (qstr (qnth (q29 [(D.int (qint (qfld sd0 6)))]) 0))))]
    else
    none
    else
    none
    else
    bif (qsome (q29 [(D.int (qint (qfld sd0 6)))])) then
    bif (qcatOk (ByteArray.mk #[111, 117, 116, 32]) (qstr (qnth (q29 [(D.int (qint (qfld sd0 6)))]) 0))) then
    some [(D.str (qcat (ByteArray.mk #[111, 117, 116, 32]) (qstr (qnth (q29 [(D.int (qint (qfld sd0 6)))]) 0))))]
    else
    none
    else
    none
    else
    none := by kernel_rfl
noncomputable def q9 : List D → Option (List D) := veil (F9 )
theorem q9_eq : q9  = F9  := veil_eq _
noncomputable def tb9 : Tb := Tb.addF tb28 9 S9 (q9 )
theorem ok_tb9 : TbOk env (tb9 ) := addFunF ok_tb28 9 (by kernel_rfl) _ (q9_eq )
end Go.Proofs.YtobhhfbdelnhfaaGreatDoor
