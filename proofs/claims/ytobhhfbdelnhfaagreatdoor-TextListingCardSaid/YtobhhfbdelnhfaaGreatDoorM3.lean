/-
  The fixed example 'exampleHolds' of law04, run in the kernel over the library's contracts of Index and Count.
-/
import Derived.Test.YtobhhfbdelnhfaaGreatDoorM1
import Derived.Test.YtobhhfbdelnhfaaGreatDoorM2
import Derived.KernelRfl
import Derived.Test.YtobhhfbdelnhfaaGreatDoorAmS
import Derived.Lib.ItoaNum
import Derived.WalkKit
import Derived.BigCall
import Derived.Test.YtobhhfbdelnhfaaGreatDoorRows
import Derived.Test.YtobhhfbdelnhfaaGreatDoorC1
import Derived.Deep.DeepHandedRow
import Derived.Lib.LaidTab
import Derived.MakeChecks
import Derived.LaidSub
import Derived.FnData
import Derived.Shelf.Vars
import Derived.HandedShaped
set_option linter.unusedVariables false
set_option linter.unusedSimpArgs false
namespace Go.Proofs.YtobhhfbdelnhfaaGreatDoor
open Go Go.AM
set_option maxRecDepth 100000
theorem indexSaid137 : IndexSaid Tryz.prog 137 1 := fun s sub m w hs hm => Tryz.stringslite_Index s sub m w hs hm
theorem countSaid121 : CountSaid Tryz.prog 121 := fun s c w => Tryz.strings_Count_one s c w
noncomputable def tbX : Tb := (Tb.nil.add 137 (idxC 1) (fun _ _ => [])).add 121 cntC (fun _ _ => [])
noncomputable def envX : Env := { P := Tryz.prog, fn := fun f => (Tryz.prog.funcs[f]?).bind fun fn => fn.body.map fun c => ⟨c, fn.ntmps, fn.results.toList⟩, isPure := fun f => !([37,41,65,66,67,68,76,105,106,107,110,111,134,122,123,124,125,17,139,49,96,130].elem f), isFrz := fun _ => false, clr := false, pre := tbX.O, lp := fun _ _ => none, n0 := 0 }
theorem envXOk : EnvOk envX := by
  intro f F h
  refine envOk f F ?_
  rw [envFn]
  exact h
theorem tbXOk : TbOk envX tbX := (TbOk.nil.add (by kernel_rfl) fun args H v H' h _ => idxC_ok indexSaid137 args H v H' h).add (by kernel_rfl) fun args H v H' h _ => cntC_ok countSaid121 args H v H' h
def S10 : FunS := ⟨[], [], [⟨true, .bool⟩], []⟩
theorem ex10 : liftC envX tbX (runF envX tbX 5000 5000).d 10 S10 [] = some [.bool true] := by kernel_rfl
noncomputable def q10 : List D → Option (List D) := veil fun ds => liftC envX tbX (runF envX tbX 5000 5000).d 10 S10 ds
theorem q10_eq : q10 [] = some [.bool true] := by unfold q10; rw [veil_eq]; exact ex10
theorem sound10 : SoundF env.P 10 S10 q10 := by
  unfold q10; rw [veil_eq]
  exact liftC_sound envX tbX (runF_sound envXOk (fun _ _ => rfl) rfl tbXOk 5000 5000)
end Go.Proofs.YtobhhfbdelnhfaaGreatDoor
open Go Go.AM
namespace Go.Proofs.YtobhhfbdelnhfaaGreatDoor
set_option maxRecDepth 100000
set_option linter.unusedSimpArgs false
set_option linter.unusedVariables false
end Go.Proofs.YtobhhfbdelnhfaaGreatDoor
namespace Go.AM
theorem qsome_s (r : List D) : qsome (some r) = true := by rw [qsome_eq]; rfl
theorem qnth_s (r : List D) (j : Nat) : qnth (some r) j = r.getD j .other := by rw [qnth_eq]; rfl
theorem qint_i (n : Int) : qint (.int n) = n := by rw [qint_eq]; rfl
theorem qbool_b (b : Bool) : qbool (.bool b) = b := by rw [qbool_eq]; rfl
theorem qstr_s (s : ByteArray) : qstr (.str s) = s := by rw [qstr_eq]; rfl
theorem qcmp_lss (a b : Int) : qcmp .lss a b = decide (a < b) := by rw [qcmp_eq]; rfl
theorem qcmp_leq (a b : Int) : qcmp .leq a b = decide (a ≤ b) := by rw [qcmp_eq]; rfl
theorem qcmp_gtr (a b : Int) : qcmp .gtr a b = decide (b < a) := by rw [qcmp_eq]; rfl
theorem qcmp_geq (a b : Int) : qcmp .geq a b = decide (b ≤ a) := by rw [qcmp_eq]; rfl
theorem qcmp_eql (a b : Int) : qcmp .eql a b = decide (a = b) := by rw [qcmp_eq]; simp only [rcmp]; cases h : decide (a = b) <;> simp_all
theorem qcmp_neq (a b : Int) : qcmp .neq a b = !decide (a = b) := by rw [qcmp_eq]; simp only [rcmp, bne]; cases h : decide (a = b) <;> simp_all
theorem qiteB_c (c a b : Bool) : qiteB c a b = bif c then a else b := by rw [qiteB_eq]
theorem qnot_c (a : Bool) : qnot a = !a := by rw [qnot_eq]
theorem qlen_c (d : D) : qlen d = (d.toList.length : Int) := by rw [qlen_eq]; rfl
theorem qinb_c (d : D) (i : Int) : qinb d i = (decide (0 ≤ i) && decide (i < d.toList.length)) := by rw [qinb_eq]; rfl
theorem qget_n (d : D) (i : Nat) : qget d (i : Int) = d.toList.getD i .other := by rw [qget_eq]; simp [D.get]
theorem qinb_n {d : D} {i : Nat} (h : i < d.toList.length) : qinb d (i : Int) = true := by rw [qinb_c]; simp; omega
theorem getD_lt {xs : List D} {i : Nat} (h : i < xs.length) : xs.getD i .other = xs[i] := by simp [List.getD, h]
theorem wrap64' {n : Int} (h0 : -9223372036854775808 ≤ n) (h1 : n ≤ 9223372036854775807) : IntKind.i64.wrap n = n := wrap64 h0 h1
theorem add_nat {i : Nat} (h : i < 9223372036854775807) : qbin .add .i64 (i : Int) 1 = ((i + 1 : Nat) : Int) := by
  rw [add64 (by omega) (by omega)]; omega
end Go.AM
namespace Go.Proofs.YtobhhfbdelnhfaaGreatDoor
set_option linter.unusedSimpArgs false
open Go Go.AM
def shp (o f w cc : Int) : Option Int :=
  if 0 ≤ o ∧ o ≤ 2 then some 0
  else if o = 3 ∨ o = 4 then some 1
  else if 5 ≤ o ∧ o ≤ 15 then (if f = 0 then some 3 else if f = 1 then some 4 else if f = 2 then some 6 else none)
  else if o = 16 ∨ o = 18 then (if w = 1 ∨ w = 2 ∨ w = 4 then some 5 else none)
  else if o = 17 then (if w = 1 ∨ w = 2 then some 5 else none)
  else if o = 19 then some 5
  else if o = 20 then (if 0 ≤ cc ∧ cc ≤ 14 then (if f = 1 then some 7 else if f = 2 then some 8 else none) else none)
  else if o = 25 then (if 0 ≤ cc ∧ cc ≤ 14 then some 2 else none)
  else if o = 23 then some 8
  else if o = 24 ∨ o = 21 ∨ o = 26 ∨ o = 27 then some 2
  else if o = 22 then some 6
  else none
theorem ocases (o : Int) : (o < 0 ∨ 27 < o) ∨ (o = 0 ∨ o = 1 ∨ o = 2) ∨ o = 3 ∨ o = 4 ∨ (5 ≤ o ∧ o ≤ 15) ∨ o = 16 ∨ o = 17 ∨ o = 18 ∨ o = 19 ∨ o = 20 ∨ o = 21 ∨ o = 22 ∨ o = 23 ∨ o = 24 ∨ o = 25 ∨ o = 26 ∨ o = 27 := by omega
theorem acc_spec (d : D) (ho : qint (qfld d 2) = 16 ∨ qint (qfld d 2) = 17 ∨ qint (qfld d 2) = 18) :
    (∃ c, q128 [d] = some [.int c, .int 5, .bool true] ∧ shp (qint (qfld d 2)) (qint (qfld d 3)) (qint (qfld d 4)) (qint (qfld d 5)) = some 5) ∨
    (∃ c, q128 [d] = some [.int c, .int 5, .bool false] ∧ shp (qint (qfld d 2)) (qint (qfld d 3)) (qint (qfld d 4)) (qint (qfld d 5)) = none) := by
  rw [q128_eq, F128_eq]
  generalize qint (qfld d 2) = o at *
  generalize qint (qfld d 3) = f at *
  generalize qint (qfld d 4) = w at *
  simp only [qand_eq, qcmp_eql]
  rcases ho with rfl | rfl | rfl <;> by_cases h1 : w = 1 <;> by_cases h2 : w = 2 <;> by_cases h4 : w = 4 <;> first | omega | simp [*, shp]
theorem cc_spec (d : D) (ho : qint (qfld d 2) = 20 ∨ qint (qfld d 2) = 25) :
    (∃ c s, q129 [d] = some [.int c, .int s, .bool true] ∧ shp (qint (qfld d 2)) (qint (qfld d 3)) (qint (qfld d 4)) (qint (qfld d 5)) = some s) ∨
    (∃ c s, q129 [d] = some [.int c, .int s, .bool false] ∧ shp (qint (qfld d 2)) (qint (qfld d 3)) (qint (qfld d 4)) (qint (qfld d 5)) = none) := by
  rw [q129_eq, F129_eq]
  generalize qint (qfld d 2) = o at *
  generalize qint (qfld d 3) = f at *
  generalize qint (qfld d 4) = w at *
  generalize qint (qfld d 5) = cc at *
  simp only [qiteB_c, qcmp_eql, qcmp_lss, qcmp_gtr]
  rcases ho with rfl | rfl <;> by_cases h1 : cc < 0 <;> by_cases h2 : 14 < cc <;> by_cases h3 : f = 1 <;> by_cases h4 : f = 2 <;> first | omega | (simp [*, shp]; done) | (simp [*, shp]; omega)
theorem op_spec (d : D) :
    (∃ c s, q92 [d] = some [.int c, .int s, .bool true] ∧ shp (qint (qfld d 2)) (qint (qfld d 3)) (qint (qfld d 4)) (qint (qfld d 5)) = some s) ∨
    (∃ c s, q92 [d] = some [.int c, .int s, .bool false] ∧ shp (qint (qfld d 2)) (qint (qfld d 3)) (qint (qfld d 4)) (qint (qfld d 5)) = none) := by
  have hacc := acc_spec d
  have hcc := cc_spec d
  rw [q92_eq, F92_eq]
  generalize qint (qfld d 2) = o at *
  generalize qint (qfld d 3) = f at *
  generalize qint (qfld d 4) = w at *
  generalize qint (qfld d 5) = cc at *
  generalize qint (qfld d 6) = a at *
  simp only [qiteB_c, qcmp_eql, qcmp_geq, qcmp_leq]
  rcases ocases o with h | h | rfl | rfl | h | rfl | rfl | rfl | rfl | rfl | rfl | rfl | rfl | rfl | rfl | rfl | rfl
  · right
    simp [shp, show ¬ o = 0 by omega, show ¬ o = 1 by omega, show ¬ o = 2 by omega, show ¬ o = 3 by omega, show ¬ o = 4 by omega, show ¬ (5 ≤ o ∧ o ≤ 15) by omega, show ¬ (0 ≤ o ∧ o ≤ 2) by omega, show ¬ o = 16 by omega, show ¬ o = 17 by omega, show ¬ o = 18 by omega, show ¬ o = 19 by omega, show ¬ o = 20 by omega, show ¬ o = 21 by omega, show ¬ o = 22 by omega, show ¬ o = 23 by omega, show ¬ o = 24 by omega, show ¬ o = 25 by omega, show ¬ o = 26 by omega, show ¬ o = 27 by omega]
    rcases h with h | h
    · simp [show ¬ 5 ≤ o by omega]
    · simp [show ¬ o ≤ 15 by omega]
  · left
    rcases h with rfl | rfl | rfl <;> simp [shp]
  · left; simp [shp]
  · left; simp [shp]
  · obtain ⟨h1, h2⟩ := h
    by_cases f0 : f = 0
    · left; subst f0; simp [shp, h1, h2, show ¬ o = 0 by omega, show ¬ o = 1 by omega, show ¬ o = 2 by omega, show ¬ o = 3 by omega, show ¬ o = 4 by omega, show ¬ o ≤ 2 by omega]
    by_cases f1 : f = 1
    · left; subst f1; simp [shp, h1, h2, show ¬ o = 0 by omega, show ¬ o = 1 by omega, show ¬ o = 2 by omega, show ¬ o = 3 by omega, show ¬ o = 4 by omega, show ¬ o ≤ 2 by omega]
    by_cases f2 : f = 2
    · left; subst f2; simp [shp, h1, h2, show ¬ o = 0 by omega, show ¬ o = 1 by omega, show ¬ o = 2 by omega, show ¬ o = 3 by omega, show ¬ o = 4 by omega, show ¬ o ≤ 2 by omega]
    · right; simp [shp, f0, f1, f2, h1, h2, show ¬ o = 0 by omega, show ¬ o = 1 by omega, show ¬ o = 2 by omega, show ¬ o = 3 by omega, show ¬ o = 4 by omega, show ¬ o ≤ 2 by omega]
  · rcases hacc (by simp) with ⟨c, h, hs⟩ | ⟨c, h, hs⟩
    · left; exact ⟨c, 5, by simp [h, qsome_s, qnth_s, qint_i, qbool_b], hs⟩
    · right; exact ⟨c, 5, by simp [h, qsome_s, qnth_s, qint_i, qbool_b], hs⟩
  · rcases hacc (by simp) with ⟨c, h, hs⟩ | ⟨c, h, hs⟩
    · left; exact ⟨c, 5, by simp [h, qsome_s, qnth_s, qint_i, qbool_b], hs⟩
    · right; exact ⟨c, 5, by simp [h, qsome_s, qnth_s, qint_i, qbool_b], hs⟩
  · rcases hacc (by simp) with ⟨c, h, hs⟩ | ⟨c, h, hs⟩
    · left; exact ⟨c, 5, by simp [h, qsome_s, qnth_s, qint_i, qbool_b], hs⟩
    · right; exact ⟨c, 5, by simp [h, qsome_s, qnth_s, qint_i, qbool_b], hs⟩
  · left; simp [shp]
  · rcases hcc (by simp) with ⟨c, s, h, hs⟩ | ⟨c, s, h, hs⟩
    · left; exact ⟨c, s, by simp [h, qsome_s, qnth_s, qint_i, qbool_b], hs⟩
    · right; exact ⟨c, s, by simp [h, qsome_s, qnth_s, qint_i, qbool_b], hs⟩
  · left; simp [shp]
  · left; simp [shp]
  · left; simp [shp]
  · left; simp [shp]
  · rcases hcc (by simp) with ⟨c, s, h, hs⟩ | ⟨c, s, h, hs⟩
    · left; exact ⟨c, s, by simp [h, qsome_s, qnth_s, qint_i, qbool_b], hs⟩
    · right; exact ⟨c, s, by simp [h, qsome_s, qnth_s, qint_i, qbool_b], hs⟩
  · left; simp [shp]
  · left; simp [shp]
theorem kept_spec (d : D) (s : Int) : q94 [d, .int s] = some [.agg [.int (qint (qfld d 0)), .int (if 4 ≤ s ∧ s ≤ 8 then qint (qfld d 1) else 0), .int (qint (qfld d 2)),
    .int (if 5 ≤ qint (qfld d 2) ∧ qint (qfld d 2) ≤ 15 ∨ qint (qfld d 2) = 20 then qint (qfld d 3) else 0), .int (if 16 ≤ qint (qfld d 2) ∧ qint (qfld d 2) ≤ 18 then qint (qfld d 4) else 0),
    .int (if qint (qfld d 2) = 20 ∨ qint (qfld d 2) = 25 then qint (qfld d 5) else 0), .int (if 1 ≤ s ∧ s ≤ 6 then qint (qfld d 6) else 0), .int (if s = 3 ∨ s = 5 then qint (qfld d 7) else 0), .int (qint (qfld d 8))]] := by
  rw [q94_eq, F94_eq]
  generalize qint (qfld d 2) = o at *
  simp only [qiteB_c, qcmp_eql, qcmp_geq, qcmp_leq]
  have hsc : (s < 1 ∨ 8 < s) ∨ s = 1 ∨ s = 2 ∨ s = 3 ∨ s = 4 ∨ s = 5 ∨ s = 6 ∨ s = 7 ∨ s = 8 := by omega
  have hoc : (o < 5 ∨ (18 < o ∧ o ≠ 20 ∧ o ≠ 25)) ∨ (5 ≤ o ∧ o ≤ 15) ∨ o = 16 ∨ o = 17 ∨ o = 18 ∨ o = 20 ∨ o = 25 := by omega
  rcases hoc with ho | ho | rfl | rfl | rfl | rfl | rfl
  · have e1 : ¬ (5 ≤ o ∧ o ≤ 15) := by omega
    have e2 : (decide (5 ≤ o) && decide (o ≤ 15)) = false := by simp; omega
    rcases hsc with hs | rfl | rfl | rfl | rfl | rfl | rfl | rfl | rfl
    · simp [e1, e2, show ¬ o = 16 by omega, show ¬ o = 17 by omega, show ¬ o = 18 by omega, show ¬ o = 20 by omega, show ¬ o = 25 by omega, show ¬ (16 ≤ o ∧ o ≤ 18) by omega, show ¬ s = 1 by omega, show ¬ s = 2 by omega, show ¬ s = 3 by omega, show ¬ s = 4 by omega, show ¬ s = 5 by omega, show ¬ s = 6 by omega, show ¬ s = 7 by omega, show ¬ s = 8 by omega, show ¬ (1 ≤ s ∧ s ≤ 6) by omega, show ¬ (4 ≤ s ∧ s ≤ 8) by omega]
    all_goals
      simp [e1, e2, show ¬ o = 16 by omega, show ¬ o = 17 by omega, show ¬ o = 18 by omega, show ¬ o = 20 by omega, show ¬ o = 25 by omega, show ¬ (16 ≤ o ∧ o ≤ 18) by omega]
  · rcases hsc with hs | rfl | rfl | rfl | rfl | rfl | rfl | rfl | rfl
    · simp [ho.1, ho.2, show ¬ o = 16 by omega, show ¬ o = 17 by omega, show ¬ o = 18 by omega, show ¬ o = 20 by omega, show ¬ o = 25 by omega, show ¬ (16 ≤ o ∧ o ≤ 18) by omega, show ¬ s = 1 by omega, show ¬ s = 2 by omega, show ¬ s = 3 by omega, show ¬ s = 4 by omega, show ¬ s = 5 by omega, show ¬ s = 6 by omega, show ¬ s = 7 by omega, show ¬ s = 8 by omega, show ¬ (1 ≤ s ∧ s ≤ 6) by omega, show ¬ (4 ≤ s ∧ s ≤ 8) by omega]
    all_goals simp [ho.1, ho.2, show ¬ o = 16 by omega, show ¬ o = 17 by omega, show ¬ o = 18 by omega, show ¬ o = 20 by omega, show ¬ o = 25 by omega, show ¬ (16 ≤ o ∧ o ≤ 18) by omega]
  all_goals
    rcases hsc with hs | rfl | rfl | rfl | rfl | rfl | rfl | rfl | rfl
    · simp [show ¬ s = 1 by omega, show ¬ s = 2 by omega, show ¬ s = 3 by omega, show ¬ s = 4 by omega, show ¬ s = 5 by omega, show ¬ s = 6 by omega, show ¬ s = 7 by omega, show ¬ s = 8 by omega, show ¬ (1 ≤ s ∧ s ≤ 6) by omega, show ¬ (4 ≤ s ∧ s ≤ 8) by omega]
    all_goals simp
def okA (s o f w cc a b imm j : Int) : Prop :=
  (0 ≤ a ∧ a < 8) ∧ (0 ≤ b ∧ b < 8) ∧ (4 ≤ s ∧ s ≤ 8 ∨ imm = 0) ∧ (5 ≤ o ∧ o ≤ 15 ∨ o = 20 ∨ f = 0) ∧ (16 ≤ o ∧ o ≤ 18 ∨ w = 0) ∧ (o = 20 ∨ o = 25 ∨ cc = 0) ∧ (1 ≤ s ∧ s ≤ 6 ∨ a = 0) ∧ (s = 3 ∨ s = 5 ∨ b = 0) ∧
  (s = 4 ∨ s = 5 → imm ≤ 127 ∨ 4294967168 ≤ imm) ∧ (s = 7 → j ≤ 127 ∨ 4294967168 ≤ j)
def okArg (s o f w cc a b imm : Int) : Prop :=
  (0 ≤ a ∧ a < 8) ∧ (0 ≤ b ∧ b < 8) ∧ (4 ≤ s ∧ s ≤ 8 ∨ imm = 0) ∧ (5 ≤ o ∧ o ≤ 15 ∨ o = 20 ∨ f = 0) ∧ (16 ≤ o ∧ o ≤ 18 ∨ w = 0) ∧ (o = 20 ∨ o = 25 ∨ cc = 0) ∧ (1 ≤ s ∧ s ≤ 6 ∨ a = 0) ∧ (s = 3 ∨ s = 5 ∨ b = 0)
noncomputable def short (d : D) : Int := qbin .sub .u32 (qbin .sub .u32 (qint (qfld d 1)) (qint (qfld d 0))) 2
def hasS (d : D) (s : Int) : Prop :=
  shp (qint (qfld d 2)) (qint (qfld d 3)) (qint (qfld d 4)) (qint (qfld d 5)) = some s ∧ okA s (qint (qfld d 2)) (qint (qfld d 3)) (qint (qfld d 4)) (qint (qfld d 5)) (qint (qfld d 6)) (qint (qfld d 7)) (qint (qfld d 1)) (short d)
def argOk (d : D) : Prop :=
  ∃ s, shp (qint (qfld d 2)) (qint (qfld d 3)) (qint (qfld d 4)) (qint (qfld d 5)) = some s ∧ okArg s (qint (qfld d 2)) (qint (qfld d 3)) (qint (qfld d 4)) (qint (qfld d 5)) (qint (qfld d 6)) (qint (qfld d 7)) (qint (qfld d 1))
theorem qfld_agg (xs : List D) (j : Nat) : qfld (.agg xs) j = xs.getD j .other := by rw [qfld_eq]; rfl
theorem keq (C : Prop) [Decidable C] (x : Int) : decide ((if C then x else 0) = x) = decide (C ∨ x = 0) := by
  by_cases h : C
  · simp [h]
  · simp [h]; exact ⟨fun e => e.symm, fun e => e.symm⟩
theorem dself (x : Int) : decide (x = x) = true := by simp
theorem narB (s i j : Int) : (bif bif (bif decide (s = 4) then true else decide (s = 5)) then !(bif decide (i ≤ 127) then true else decide (4294967168 ≤ i)) else false then true else
    bif decide (s = 7) then !(bif decide (j ≤ 127) then true else decide (4294967168 ≤ j)) else false) = !decide ((s = 4 ∨ s = 5 → i ≤ 127 ∨ 4294967168 ≤ i) ∧ (s = 7 → j ≤ 127 ∨ 4294967168 ≤ j)) := by
  by_cases i1 : i ≤ 127 <;> by_cases i2 : 4294967168 ≤ i <;> by_cases j1 : j ≤ 127 <;> by_cases j2 : 4294967168 ≤ j <;> simp only [i1, i2, j1, j2, decide_true, decide_false, cond_true, cond_false, Bool.not_true, Bool.not_false, true_or, or_true, or_false, imp_true_iff, and_true, true_and, Bool.cond_self] <;>
    by_cases e4 : s = 4 <;> by_cases e5 : s = 5 <;> by_cases e7 : s = 7 <;> first | omega | simp [e4, e5, e7]
theorem chk69 (d : D) : (∃ c s, q47 [d] = some [.int c, .int s, .int 0] ∧ hasS d s ∧ q92 [d] = some [.int c, .int s, .bool true]) ∨ (∃ e, q47 [d] = some [.int 0, .int 0, .int e] ∧ e ≠ 0 ∧ (∀ s, ¬ hasS d s) ∧ (e = 2 ∧ ¬ argOk d ∨ e = 7 ∧ argOk d)) := by
  rw [q47_eq, F47_eq]
  rcases op_spec d with ⟨c, s, h, hs⟩ | ⟨c, s, h, hs⟩
  · rw [h]
    simp only [qsome_s, qnth_s, List.getD_cons_zero, List.getD_cons_succ, qint_i, qbool_b, qnot_c, qiteB_c, qcmp_eql, qcmp_geq, qcmp_lss, qcmp_leq, kept_spec, qfld_agg, qand_eq]
    have key : hasS d s ↔ okA s (qint (qfld d 2)) (qint (qfld d 3)) (qint (qfld d 4)) (qint (qfld d 5)) (qint (qfld d 6)) (qint (qfld d 7)) (qint (qfld d 1)) (short d) := by
      unfold hasS; simp [hs]
    have keyn : ∀ s', s' ≠ s → ¬ hasS d s' := fun s' hne h' => by
      have := h'.1; rw [hs] at this; simp at this; omega
    have kna : ¬ okArg s (qint (qfld d 2)) (qint (qfld d 3)) (qint (qfld d 4)) (qint (qfld d 5)) (qint (qfld d 6)) (qint (qfld d 7)) (qint (qfld d 1)) → ¬ argOk d := fun h1 ⟨s', h2, h3⟩ => by
      rw [hs] at h2; injection h2 with h2; subst h2; exact h1 h3
    have kn : ¬ hasS d s → ∀ s', ¬ hasS d s' := fun h1 s' h2 => by
      by_cases e : s' = s
      · exact h1 (e ▸ h2)
      · exact keyn s' e h2
    change _ ∨ _
    rw [show qbin BinOp.sub IntKind.u32 (qbin BinOp.sub IntKind.u32 (qint (qfld d 1)) (qint (qfld d 0))) 2 = short d from rfl]
    by_cases ha : 0 ≤ qint (qfld d 6) ∧ qint (qfld d 6) < 8
    · by_cases hb : 0 ≤ qint (qfld d 7) ∧ qint (qfld d 7) < 8
      · by_cases hk : (4 ≤ s ∧ s ≤ 8 ∨ qint (qfld d 1) = 0) ∧ (5 ≤ qint (qfld d 2) ∧ qint (qfld d 2) ≤ 15 ∨ qint (qfld d 2) = 20 ∨ qint (qfld d 3) = 0) ∧ (16 ≤ qint (qfld d 2) ∧ qint (qfld d 2) ≤ 18 ∨ qint (qfld d 4) = 0) ∧ (qint (qfld d 2) = 20 ∨ qint (qfld d 2) = 25 ∨ qint (qfld d 5) = 0) ∧ (1 ≤ s ∧ s ≤ 6 ∨ qint (qfld d 6) = 0) ∧ (s = 3 ∨ s = 5 ∨ qint (qfld d 7) = 0)
        · simp only [keq, dself, ha.1, ha.2, hb.1, hb.2, decide_true, cond_true, Bool.not_true, cond_false, Bool.true_and, Bool.and_true,
            decide_eq_true hk.1, decide_eq_true hk.2.2.1, decide_eq_true hk.2.2.2.2.1, or_assoc, decide_eq_true hk.2.1, decide_eq_true hk.2.2.2.1, decide_eq_true hk.2.2.2.2.2]
          by_cases hn : (s = 4 ∨ s = 5 → qint (qfld d 1) ≤ 127 ∨ 4294967168 ≤ qint (qfld d 1)) ∧ (s = 7 → short d ≤ 127 ∨ 4294967168 ≤ short d)
          · left
            refine ⟨c, s, ?_, key.2 ⟨ha, hb, hk.1, hk.2.1, hk.2.2.1, hk.2.2.2.1, hk.2.2.2.2.1, hk.2.2.2.2.2, hn⟩, rfl⟩
            simp only [narB, decide_eq_true hn, Bool.not_true, cond_false]
          · right
            refine ⟨7, ?_, by omega, kn (fun h' => hn (key.1 h').2.2.2.2.2.2.2.2), .inr ⟨rfl, s, hs, ha, hb, hk.1, hk.2.1, hk.2.2.1, hk.2.2.2.1, hk.2.2.2.2.1, hk.2.2.2.2.2⟩⟩
            simp only [narB, decide_eq_false hn, Bool.not_false, cond_true]
        · right
          refine ⟨2, ?_, by omega, kn (fun h' => hk ⟨(key.1 h').2.2.1, (key.1 h').2.2.2.1, (key.1 h').2.2.2.2.1, (key.1 h').2.2.2.2.2.1, (key.1 h').2.2.2.2.2.2.1, (key.1 h').2.2.2.2.2.2.2.1⟩), .inl ⟨rfl, kna fun h' => hk ⟨h'.2.2.1, h'.2.2.2.1, h'.2.2.2.2.1, h'.2.2.2.2.2.1, h'.2.2.2.2.2.2.1, h'.2.2.2.2.2.2.2⟩⟩⟩
          simp only [keq, dself, ha.1, ha.2, hb.1, hb.2, decide_true, cond_true, Bool.not_true, cond_false, Bool.true_and, Bool.and_true, or_assoc]
          simp only [← Bool.decide_and, decide_eq_false hk, Bool.not_false, cond_true]
      · right
        refine ⟨2, ?_, by omega, kn (fun h' => hb (key.1 h').2.1), .inl ⟨rfl, kna fun h' => hb h'.2.1⟩⟩
        simp only [ha.1, ha.2, decide_true, cond_true, Bool.not_true, cond_false]
        have : (bif decide (0 ≤ qint (qfld d 7)) then decide (qint (qfld d 7) < 8) else false) = false := by
          simp; omega
        rw [this]; rfl
    · right
      refine ⟨2, ?_, by omega, kn (fun h' => ha (key.1 h').1), .inl ⟨rfl, kna fun h' => ha h'.1⟩⟩
      have : (bif decide (0 ≤ qint (qfld d 6)) then decide (qint (qfld d 6) < 8) else false) = false := by
        simp; omega
      simp only [this, Bool.not_true, Bool.not_false, cond_true, cond_false]
  · right
    refine ⟨2, ?_, by omega, (fun s' h' => by have := h'.1; rw [hs] at this; cases this), .inl ⟨rfl, (fun ⟨s', h', _⟩ => by rw [hs] at h'; cases h')⟩⟩
    simp [h, qsome_s, qnth_s, qbool_b, qnot_c]
theorem form_spec (d : D) : q81 [d] = some [.bool (decide (if 5 ≤ qint (qfld d 2) ∧ qint (qfld d 2) ≤ 15 then 0 ≤ qint (qfld d 3) ∧ qint (qfld d 3) ≤ 2 else if qint (qfld d 2) = 20 then qint (qfld d 3) = 1 ∨ qint (qfld d 3) = 2 else qint (qfld d 3) = 0))] := by
  rw [q81_eq, F81_eq]
  generalize qint (qfld d 2) = o at *
  generalize qint (qfld d 3) = f at *
  simp only [qiteB_c, qcmp_eql, qcmp_geq, qcmp_leq]
  by_cases h1 : 5 ≤ o <;> by_cases h2 : o ≤ 15 <;> by_cases h3 : o = 20 <;> first | omega | (simp [h1, h2, h3])
theorem width_spec (d : D) : q82 [d] = some [.bool (decide (if qint (qfld d 2) = 17 then qint (qfld d 4) = 1 ∨ qint (qfld d 4) = 2 else if qint (qfld d 2) = 16 ∨ qint (qfld d 2) = 18 then qint (qfld d 4) = 1 ∨ qint (qfld d 4) = 2 ∨ qint (qfld d 4) = 4 else qint (qfld d 4) = 0))] := by
  rw [q82_eq, F82_eq]
  generalize qint (qfld d 2) = o at *
  generalize qint (qfld d 4) = w at *
  simp only [qiteB_c, qcmp_eql, qcmp_geq, qcmp_leq]
  by_cases h1 : o = 16 <;> by_cases h2 : o = 17 <;> by_cases h3 : o = 18 <;> first | omega | (simp [h1, h2, h3]; done) | (simp [h1, h2, h3, Bool.or_assoc]; done)
theorem treeB {n1 n2 c1 c2 c3 c4 c5 c6 : Bool} {R A : Prop} (h1 : n1 = true) (h2 : n2 = true) (hR : (c1 = false ∧ c2 = false ∧ c3 = false ∧ (c4 = true → c5 = false) ∧ c6 = false) ↔ R) (hA : (c1 = false ∧ c2 = false ∧ c3 = false) ↔ A) :
    ∃ e, (bif n1 then bif n2 then bif c1 then some [D.int 2] else bif c2 then some [D.int 2] else bif c3 then some [D.int 2] else bif c4 then (bif c5 then some [D.int 7] else bif c6 then some [D.int 7] else some [D.int 0]) else bif c6 then some [D.int 7] else some [D.int 0] else none else none) = some [D.int e] ∧ (e = 0 ↔ R) ∧ (e = 0 ∨ e = 7 ∨ e = 2) ∧ (e = 2 ↔ ¬ A) := by
  subst h1 h2
  rw [← hR, ← hA]
  cases c1 <;> cases c2 <;> cases c3 <;> cases c4 <;> cases c5 <;> cases c6 <;> simp
theorem chk126 (d : D) : ∃ e, q46 [d] = some [.int e] ∧ (e = 0 ↔ ∃ s, hasS d s) ∧ (e = 0 ∨ e = 7 ∨ e = 2) ∧ (e = 2 ↔ ¬ argOk d) := by
  unfold hasS argOk
  rw [q46_eq, F46_eq, form_spec, width_spec]
  rw [show qbin BinOp.sub IntKind.u32 (qbin BinOp.sub IntKind.u32 (qint (qfld d 1)) (qint (qfld d 0))) 2 = short d from rfl]
  generalize qint (qfld d 2) = o
  generalize qint (qfld d 3) = f
  generalize qint (qfld d 4) = w
  generalize qint (qfld d 5) = cc
  generalize qint (qfld d 6) = a
  generalize qint (qfld d 7) = b
  generalize qint (qfld d 1) = imm
  generalize short d = j
  simp only [qsome_s, qnth_s, List.getD_cons_zero, qbool_b, qnot_c, qiteB_c, qcmp_eql, qcmp_geq, qcmp_lss, qcmp_leq, qcmp_gtr, qcmp_neq]
  rcases ocases o with h | h | rfl | rfl | h | rfl | rfl | rfl | rfl | rfl | rfl | rfl | rfl | rfl | rfl | rfl | rfl
  · refine treeB (by simp) (by simp) ?_ ?_
    · have : (bif decide (o < 0) then true else decide (27 < o)) = true := by simp; omega
      simp [this, shp, show ¬ (0 ≤ o ∧ o ≤ 2) by omega, show ¬ o = 3 by omega, show ¬ o = 4 by omega, show ¬ (5 ≤ o ∧ o ≤ 15) by omega, show ¬ o = 16 by omega, show ¬ o = 17 by omega, show ¬ o = 18 by omega, show ¬ o = 19 by omega, show ¬ o = 20 by omega, show ¬ o = 21 by omega, show ¬ o = 22 by omega, show ¬ o = 23 by omega, show ¬ o = 24 by omega, show ¬ o = 25 by omega, show ¬ o = 26 by omega, show ¬ o = 27 by omega]
    · have : (bif decide (o < 0) then true else decide (27 < o)) = true := by simp; omega
      simp [this, shp, show ¬ (0 ≤ o ∧ o ≤ 2) by omega, show ¬ o = 3 by omega, show ¬ o = 4 by omega, show ¬ (5 ≤ o ∧ o ≤ 15) by omega, show ¬ o = 16 by omega, show ¬ o = 17 by omega, show ¬ o = 18 by omega, show ¬ o = 19 by omega, show ¬ o = 20 by omega, show ¬ o = 21 by omega, show ¬ o = 22 by omega, show ¬ o = 23 by omega, show ¬ o = 24 by omega, show ¬ o = 25 by omega, show ¬ o = 26 by omega, show ¬ o = 27 by omega]
  · refine treeB (by simp) (by simp) ?_ ?_
    · rcases h with rfl | rfl | rfl <;> simp [shp, okA] <;> grind
    · rcases h with rfl | rfl | rfl <;> simp [shp, okArg] <;> grind
  · refine treeB (by simp) (by simp) ?_ ?_
    · simp [shp, okA] <;> grind
    · simp [shp, okArg] <;> grind
  · refine treeB (by simp) (by simp) ?_ ?_
    · simp [shp, okA] <;> grind
    · simp [shp, okArg] <;> grind
  · refine treeB (by simp) (by simp) ?_ ?_
    · obtain ⟨h1, h2⟩ := h
      by_cases f0 : f = 0
      · simp [shp, okA, h1, h2, f0, show ¬ o = 3 by omega, show ¬ o = 4 by omega, show ¬ o ≤ 2 by omega, show 3 ≤ o by omega, show o ≤ 27 by omega, show ¬ o = 16 by omega, show ¬ o = 17 by omega, show ¬ o = 18 by omega, show ¬ o = 19 by omega, show ¬ o = 20 by omega, show ¬ o = 22 by omega, show ¬ o = 23 by omega, show ¬ o = 25 by omega, show ¬ 16 ≤ o by omega]
        grind
      by_cases f1 : f = 1
      · simp [shp, okA, h1, h2, f1, show ¬ o = 3 by omega, show ¬ o = 4 by omega, show ¬ o ≤ 2 by omega, show 3 ≤ o by omega, show o ≤ 27 by omega, show ¬ o = 16 by omega, show ¬ o = 17 by omega, show ¬ o = 18 by omega, show ¬ o = 19 by omega, show ¬ o = 20 by omega, show ¬ o = 22 by omega, show ¬ o = 23 by omega, show ¬ o = 25 by omega, show ¬ 16 ≤ o by omega]
        grind
      by_cases f2 : f = 2
      · simp [shp, okA, h1, h2, f2, show ¬ o = 3 by omega, show ¬ o = 4 by omega, show ¬ o ≤ 2 by omega, show 3 ≤ o by omega, show o ≤ 27 by omega, show ¬ o = 16 by omega, show ¬ o = 17 by omega, show ¬ o = 18 by omega, show ¬ o = 19 by omega, show ¬ o = 20 by omega, show ¬ o = 22 by omega, show ¬ o = 23 by omega, show ¬ o = 25 by omega, show ¬ 16 ≤ o by omega]
        grind
      · simp [shp, okA, h1, h2, f0, f1, f2, show ¬ o = 3 by omega, show ¬ o = 4 by omega, show ¬ o ≤ 2 by omega, show 3 ≤ o by omega, show o ≤ 27 by omega, show ¬ o = 16 by omega, show ¬ o = 17 by omega, show ¬ o = 18 by omega, show ¬ o = 19 by omega, show ¬ o = 20 by omega, show ¬ o = 22 by omega, show ¬ o = 23 by omega, show ¬ o = 25 by omega, show ¬ 16 ≤ o by omega]
        try grind
    · obtain ⟨h1, h2⟩ := h
      by_cases f0 : f = 0
      · simp [shp, okArg, h1, h2, f0, show ¬ o = 3 by omega, show ¬ o = 4 by omega, show ¬ o ≤ 2 by omega, show 3 ≤ o by omega, show o ≤ 27 by omega, show ¬ o = 16 by omega, show ¬ o = 17 by omega, show ¬ o = 18 by omega, show ¬ o = 19 by omega, show ¬ o = 20 by omega, show ¬ o = 22 by omega, show ¬ o = 23 by omega, show ¬ o = 25 by omega, show ¬ 16 ≤ o by omega]
        grind
      by_cases f1 : f = 1
      · simp [shp, okArg, h1, h2, f1, show ¬ o = 3 by omega, show ¬ o = 4 by omega, show ¬ o ≤ 2 by omega, show 3 ≤ o by omega, show o ≤ 27 by omega, show ¬ o = 16 by omega, show ¬ o = 17 by omega, show ¬ o = 18 by omega, show ¬ o = 19 by omega, show ¬ o = 20 by omega, show ¬ o = 22 by omega, show ¬ o = 23 by omega, show ¬ o = 25 by omega, show ¬ 16 ≤ o by omega]
        grind
      by_cases f2 : f = 2
      · simp [shp, okArg, h1, h2, f2, show ¬ o = 3 by omega, show ¬ o = 4 by omega, show ¬ o ≤ 2 by omega, show 3 ≤ o by omega, show o ≤ 27 by omega, show ¬ o = 16 by omega, show ¬ o = 17 by omega, show ¬ o = 18 by omega, show ¬ o = 19 by omega, show ¬ o = 20 by omega, show ¬ o = 22 by omega, show ¬ o = 23 by omega, show ¬ o = 25 by omega, show ¬ 16 ≤ o by omega]
        grind
      · simp [shp, okArg, h1, h2, f0, f1, f2, show ¬ o = 3 by omega, show ¬ o = 4 by omega, show ¬ o ≤ 2 by omega, show 3 ≤ o by omega, show o ≤ 27 by omega, show ¬ o = 16 by omega, show ¬ o = 17 by omega, show ¬ o = 18 by omega, show ¬ o = 19 by omega, show ¬ o = 20 by omega, show ¬ o = 22 by omega, show ¬ o = 23 by omega, show ¬ o = 25 by omega, show ¬ 16 ≤ o by omega]
        try grind
  · refine treeB (by simp) (by simp) ?_ ?_
    · simp [shp, okA] <;> grind
    · simp [shp, okArg] <;> grind
  · refine treeB (by simp) (by simp) ?_ ?_
    · simp [shp, okA] <;> grind
    · simp [shp, okArg] <;> grind
  · refine treeB (by simp) (by simp) ?_ ?_
    · simp [shp, okA] <;> grind
    · simp [shp, okArg] <;> grind
  · refine treeB (by simp) (by simp) ?_ ?_
    · simp [shp, okA] <;> grind
    · simp [shp, okArg] <;> grind
  · refine treeB (by simp) (by simp) ?_ ?_
    · simp [shp, okA] <;> grind
    · simp [shp, okArg] <;> grind
  · refine treeB (by simp) (by simp) ?_ ?_
    · simp [shp, okA] <;> grind
    · simp [shp, okArg] <;> grind
  · refine treeB (by simp) (by simp) ?_ ?_
    · simp [shp, okA] <;> grind
    · simp [shp, okArg] <;> grind
  · refine treeB (by simp) (by simp) ?_ ?_
    · simp [shp, okA] <;> grind
    · simp [shp, okArg] <;> grind
  · refine treeB (by simp) (by simp) ?_ ?_
    · simp [shp, okA] <;> grind
    · simp [shp, okArg] <;> grind
  · refine treeB (by simp) (by simp) ?_ ?_
    · simp [shp, okA] <;> grind
    · simp [shp, okArg] <;> grind
  · refine treeB (by simp) (by simp) ?_ ?_
    · simp [shp, okA] <;> grind
    · simp [shp, okArg] <;> grind
  · refine treeB (by simp) (by simp) ?_ ?_
    · simp [shp, okA] <;> grind
    · simp [shp, okArg] <;> grind
def sLen (s : Int) : Int := if s = 0 ∨ s = 1 then 1 else if s = 2 ∨ s = 3 ∨ s = 7 then 2 else if s = 4 ∨ s = 5 then 3 else if s = 6 then 6 else 5
theorem shp_le {o f w cc s : Int} (h : shp o f w cc = some s) : 0 ≤ s ∧ s ≤ 8 := by
  unfold shp at h
  repeat' split at h
  all_goals first | (cases h; done) | (injection h with h; omega)
theorem sLen_pos (s : Int) : 1 ≤ sLen s ∧ sLen s ≤ 6 := by
  unfold sLen; repeat' split
  all_goals omega
theorem size_spec {s : Int} (h : 0 ≤ s ∧ s ≤ 8) : q48 [.int s] = some [.int (sLen s)] := by
  rw [q48_eq, F48_eq]
  obtain rfl | rfl | rfl | rfl | rfl | rfl | rfl | rfl | rfl : s = 0 ∨ s = 1 ∨ s = 2 ∨ s = 3 ∨ s = 4 ∨ s = 5 ∨ s = 6 ∨ s = 7 ∨ s = 8 := by omega
  all_goals (rw [qinbS_eq, qidxS_eq, qbin_eq, qwrap_eq]; kernel_rfl)
theorem acode_spec (d : D) : ∃ c, q141 [d] = some [.int c] := by
  rw [q141_eq, F141_eq]
  generalize qcmp BinOp.eql (qint (qfld d 2)) 17 = c1
  generalize qcmp BinOp.eql (qint (qfld d 4)) 1 = c2
  generalize qiteB (qcmp BinOp.eql (qint (qfld d 4)) 2) (qcmp BinOp.eql (qint (qfld d 2)) 16) Bool.false = c3
  generalize qcmp BinOp.eql (qint (qfld d 4)) 2 = c4
  cases c1 <;> cases c2 <;> cases c3 <;> cases c4 <;> exact ⟨_, rfl⟩
theorem bytes_spec {d : D} {s : Int} (h : hasS d s) : ∃ bs, q119 [d] = some [bs] ∧ qlen bs = sLen s := by
  obtain ⟨c, hc⟩ := acode_spec d
  have h1 := h.1
  rw [q119_eq, F119_eq, hc, q142_eq, F142_eq]
  generalize qint (qfld d 2) = o at *
  generalize qint (qfld d 3) = f at *
  generalize qint (qfld d 4) = w at *
  generalize qint (qfld d 5) = cc at *
  simp only [qsome_s, qnth_s, List.getD_cons_zero, qiteB_c, qcmp_eql, qcmp_geq, qcmp_leq]
  rcases ocases o with h | h | rfl | rfl | h | rfl | rfl | rfl | rfl | rfl | rfl | rfl | rfl | rfl | rfl | rfl | rfl
  · exfalso
    simp [shp, show ¬ (0 ≤ o ∧ o ≤ 2) by omega, show ¬ o = 3 by omega, show ¬ o = 4 by omega, show ¬ (5 ≤ o ∧ o ≤ 15) by omega, show ¬ o = 16 by omega, show ¬ o = 17 by omega, show ¬ o = 18 by omega, show ¬ o = 19 by omega, show ¬ o = 20 by omega, show ¬ o = 21 by omega, show ¬ o = 22 by omega, show ¬ o = 23 by omega, show ¬ o = 24 by omega, show ¬ o = 25 by omega, show ¬ o = 26 by omega, show ¬ o = 27 by omega] at h1
  · rcases h with rfl | rfl | rfl <;> simp [shp] at h1 <;> subst h1 <;> (simp [qsome_s, qnth_s]; rw [qlen_c]; rfl)
  · simp [shp] at h1; subst h1; (simp [qsome_s, qnth_s]; rw [qlen_c]; rfl)
  · simp [shp] at h1; subst h1; (simp [qsome_s, qnth_s]; rw [qlen_c]; rfl)
  · obtain ⟨h2, h3⟩ := h
    simp only [shp, h2, h3, show ¬ o = 3 by omega, show ¬ o = 4 by omega, show ¬ (0 ≤ o ∧ o ≤ 2) by omega, true_and, if_true, if_false, or_self] at h1
    simp only [h2, h3, decide_true, cond_true]
    by_cases f0 : f = 0
    · rw [if_pos f0] at h1; injection h1 with h1; subst h1; (simp [f0]; rw [qlen_c]; rfl)
    by_cases f1 : f = 1
    · rw [if_neg f0, if_pos f1] at h1; injection h1 with h1; subst h1; (simp [f1]; rw [qlen_c]; rfl)
    by_cases f2 : f = 2
    · rw [if_neg f0, if_neg f1, if_pos f2] at h1; injection h1 with h1; subst h1; (simp [f2]; rw [qlen_c]; rfl)
    · rw [if_neg f0, if_neg f1, if_neg f2] at h1; cases h1
  · have : s = 5 := by revert h1; simp only [shp]; by_cases w1 : w = 1 ∨ w = 2 ∨ w = 4 <;> simp [w1] <;> omega
    subst this; (simp; rw [qlen_c]; rfl)
  · have : s = 5 := by revert h1; simp only [shp]; by_cases w1 : w = 1 ∨ w = 2 <;> simp [w1] <;> omega
    subst this; (simp; rw [qlen_c]; rfl)
  · have : s = 5 := by revert h1; simp only [shp]; by_cases w1 : w = 1 ∨ w = 2 ∨ w = 4 <;> simp [w1] <;> omega
    subst this; (simp; rw [qlen_c]; rfl)
  · simp [shp] at h1; subst h1; (simp; rw [qlen_c]; rfl)
  · by_cases hcc : 0 ≤ cc ∧ cc ≤ 14
    · by_cases f1 : f = 1
      · simp [shp, hcc, f1] at h1; subst h1; (simp [f1]; rw [qlen_c]; rfl)
      by_cases f2 : f = 2
      · simp [shp, hcc, f2] at h1; subst h1; (simp [f2]; rw [qlen_c]; rfl)
      · simp [shp, hcc, f1, f2] at h1
    · simp [shp, hcc] at h1
  · simp [shp] at h1; subst h1; (simp [qsome_s, qnth_s]; rw [qlen_c]; rfl)
  · simp [shp] at h1; subst h1; (simp [qsome_s, qnth_s]; rw [qlen_c]; rfl)
  · simp [shp] at h1; subst h1; (simp [qsome_s, qnth_s]; rw [qlen_c]; rfl)
  · simp [shp] at h1; subst h1; (simp [qsome_s, qnth_s]; rw [qlen_c]; rfl)
  · by_cases hcc : 0 ≤ cc ∧ cc ≤ 14
    · simp [shp, hcc] at h1; subst h1; (simp [qsome_s, qnth_s]; rw [qlen_c]; rfl)
    · simp [shp, hcc] at h1
  · simp [shp] at h1; subst h1; (simp [qsome_s, qnth_s]; rw [qlen_c]; rfl)
  · simp [shp] at h1; subst h1; (simp [qsome_s, qnth_s]; rw [qlen_c]; rfl)
open Classical in
noncomputable def lenI (d : D) : Int := if h : ∃ s, hasS d s then sLen h.choose else 0
noncomputable def vld (d : D) : Bool := decide (lenI d ≠ 0)
theorem hasS_un {d : D} {s s' : Int} (h : hasS d s) (h' : hasS d s') : s = s' := by
  have := h.1.symm.trans h'.1; injection this
theorem lenI_of {d : D} {s : Int} (h : hasS d s) : lenI d = sLen s := by
  unfold lenI
  rw [dif_pos ⟨s, h⟩]
  exact congrArg sLen (hasS_un (Exists.choose_spec (⟨s, h⟩ : ∃ s, hasS d s)) h)
theorem lenI_none {d : D} (h : ¬ ∃ s, hasS d s) : lenI d = 0 := by unfold lenI; rw [dif_neg h]
theorem vld_iff {d : D} : vld d = true ↔ ∃ s, hasS d s := by
  unfold vld
  rw [decide_eq_true_iff]
  constructor
  · intro h
    by_cases hx : ∃ s, hasS d s
    · exact hx
    · exact absurd (lenI_none hx) h
  · rintro ⟨s, hs⟩
    rw [lenI_of hs]
    have := sLen_pos s
    omega
theorem valid_spec (d : D) : q20 [d] = some [.bool (vld d)] ∧ q16 [d] = some [.bool (vld d)] ∧ q69 [d] = some [.int (lenI d)] ∧ q74 [d] = some [.int (lenI d)] := by
  obtain ⟨e', h126, he', _⟩ := chk126 d
  have h71 : q16 [d] = some [.bool (vld d)] := by
    rw [q16_eq, F16_eq, h126]
    simp only [qsome_s, qnth_s, List.getD_cons_zero, qint_i, cond_true, qcmp_eql]
    by_cases hx : ∃ s, hasS d s
    · simp [vld_iff.2 hx, he'.2 hx]
    · have hv : vld d = false := by rw [Bool.eq_false_iff]; exact mt vld_iff.1 hx
      simp [hv, mt he'.1 hx]
  rcases chk69 d with ⟨c, s, h69, hs, _⟩ | ⟨e, h69, he, hn, _⟩
  · obtain ⟨bs, hb, hl⟩ := bytes_spec hs
    have hv : vld d = true := vld_iff.2 ⟨s, hs⟩
    refine ⟨?_, h71, ?_, ?_⟩
    · rw [q20_eq, F20_eq, h69, hv]; simp [qsome_s, qnth_s, qint_i, qcmp_eql]
    · rw [q69_eq, F69_eq, h69, lenI_of hs]
      simp only [qsome_s, qnth_s, List.getD_cons_zero, List.getD_cons_succ, qint_i, size_spec (shp_le hs.1), qcmp_neq]
      simp
    · rw [q74_eq, F74_eq, h71, hv, hb, lenI_of hs]
      simp [qsome_s, qnth_s, qbool_b, qnot_c, hl]
  · have hx : ¬ ∃ s, hasS d s := fun ⟨s, h⟩ => hn s h
    have hv : vld d = false := by rw [Bool.eq_false_iff]; exact mt vld_iff.1 hx
    refine ⟨?_, h71, ?_, ?_⟩
    · rw [q20_eq, F20_eq, h69, hv]; simp [qsome_s, qnth_s, qint_i, qcmp_eql, he]
    · rw [q69_eq, F69_eq, h69, lenI_none hx]; simp [qsome_s, qnth_s, qint_i, qcmp_neq, he]
    · rw [q74_eq, F74_eq, h71, hv, lenI_none hx]; simp [qsome_s, qnth_s, qbool_b, qnot_c]
end Go.Proofs.YtobhhfbdelnhfaaGreatDoor
namespace Go.Proofs.YtobhhfbdelnhfaaGreatDoor
set_option linter.unusedSimpArgs false
set_option linter.unusedVariables false
open Go Go.AM
def bs (l : List UInt8) : ByteArray := ⟨⟨l⟩⟩
theorem bs_size (l : List UInt8) : (bs l).size = l.length := rfl
theorem catB (a b : List UInt8) : qcat (bs a) (bs b) = bs (a ++ b) := by
  simp only [qcat, veil_eq]
  apply ByteArray.ext
  rw [← Array.toList_inj, ByteArray.toList_data_append]
  rfl
theorem catOkB {a b : List UInt8} (h : a.length + b.length ≤ 1000000) : qcatOk (bs a) (bs b) = true := by
  simp only [qcatOk, veil_eq]
  show decide (((a.length + b.length : Nat) : Int) ≤ 9223372036854775807) = true
  rw [decide_eq_true_eq]; omega
def hx (d : Nat) : UInt8 := UInt8.ofNat (if d < 10 then 48 + d else 87 + d)
def digs (b n : Nat) : List UInt8 := if h : n < b ∨ b < 2 then [hx n] else digs b (n / b) ++ [hx (n % b)]
termination_by n
decreasing_by exact Nat.div_lt_self (by omega) (by omega)
theorem digs_lt {b n : Nat} (h : n < b) : digs b n = [hx n] := by rw [digs, dif_pos (.inl h)]
theorem digs_ge {b n : Nat} (h : b ≤ n) (hb : 2 ≤ b) : digs b n = digs b (n / b) ++ [hx (n % b)] := by rw [digs, dif_neg (by omega)]
theorem dec_digs (n : Nat) : Lib.decDigits n = digs 10 n := by
  induction n using Nat.strongRecOn with
  | _ n ih =>
    rw [Lib.decDigits]
    by_cases h : n < 10
    · rw [dif_pos h, digs_lt h]; simp [hx, h]
    · rw [dif_neg h, digs_ge (by omega) (by omega), ih _ (by omega)]
      have : n % 10 < 10 := Nat.mod_lt _ (by omega)
      simp [hx, this]
theorem digs_len {b : Nat} (hb : 2 ≤ b) : ∀ (k n : Nat), n < b ^ (k + 1) → (digs b n).length ≤ k + 1
  | 0, n, h => by rw [digs_lt (by simpa using h)]; simp
  | k + 1, n, h => by
    by_cases h1 : n < b
    · rw [digs_lt h1]; simp
    · rw [digs_ge (by omega) hb, List.length_append]
      have := digs_len hb k (n / b) (by rw [Nat.div_lt_iff_lt_mul (by omega)]; rw [Nat.pow_succ] at h; exact h)
      simp; omega
theorem mU8 (n : Int) : IntKind.u8.wrap n = n % 256 := by simp [IntKind.wrap, IntKind.bits, IntKind.signed]
theorem mU32 (n : Int) : IntKind.u32.wrap n = n % 4294967296 := by simp [IntKind.wrap, IntKind.bits, IntKind.signed]
theorem mU64 (n : Int) : IntKind.u64.wrap n = n % 18446744073709551616 := by simp [IntKind.wrap, IntKind.bits, IntKind.signed]
theorem w64 (n : Nat) (h : n < 18446744073709551616) : qwrap .u64 (n : Int) = n := by
  rw [qwrap_eq, mU64]; omega
theorem w32 (n : Nat) (h : n < 4294967296) : qwrap .u32 (n : Int) = n := by
  rw [qwrap_eq, mU32]; omega
theorem shr4 (n : Nat) : qbin .shr .u64 (n : Int) 4 = ((n / 16 : Nat) : Int) := by
  rw [qbin_eq]; simp only [rbin, IntKind.bits]
  show Int.fdiv (n : Int) 16 = _
  rw [Int.fdiv_eq_ediv_of_nonneg _ (by omega)]; omega
theorem and15 (n : Nat) : qbin .and .u64 (n : Int) 15 = ((n % 16 : Nat) : Int) := by
  rw [qbin_eq]; simp only [rbin, IntKind.bits]
  have h : (BitVec.ofInt 64 (n : Int) &&& BitVec.ofInt 64 15).toNat = n % 16 := by
    rw [BitVec.toNat_and, BitVec.toNat_ofInt, BitVec.toNat_ofInt]
    have e1 : ((n : Int) % ((2 ^ 64 : Nat) : Int)).toNat = n % 2 ^ 64 := by omega
    have e2 : ((15 : Int) % ((2 ^ 64 : Nat) : Int)).toNat = 2 ^ 4 - 1 := by decide
    rw [e1, e2, Nat.and_two_pow_sub_one_eq_mod]
    omega
  show IntKind.u64.wrap ((BitVec.ofInt 64 (n : Int) &&& BitVec.ofInt 64 15).toNat : Int) = _
  rw [h, mU64]; omega
theorem remN (n k : Nat) : qbin .rem .u32 (n : Int) (k : Int) = ((n % k : Nat) : Int) := by rw [qbin_eq]; rfl
theorem quoN (n k : Nat) (h : n < 4294967296) : qbin .quo .u32 (n : Int) (k : Int) = ((n / k : Nat) : Int) := by
  rw [qbin_eq]; simp only [rbin]
  show IntKind.u32.wrap ((n / k : Nat) : Int) = _
  have := Nat.div_le_self n k
  rw [mU32]; generalize n / k = q at *; omega
theorem addN (n k : Nat) (h : n + k < 4294967296) : qbin .add .u32 (n : Int) (k : Int) = ((n + k : Nat) : Int) := by
  rw [qbin_eq]; simp only [rbin, mU32]; omega
theorem geN (n k : Nat) : qcmp .geq (n : Int) (k : Int) = decide (k ≤ n) := by rw [qcmp_geq]; exact decide_eq_decide.2 (by omega)
theorem leN (n k : Nat) : qcmp .leq (n : Int) (k : Int) = decide (n ≤ k) := by rw [qcmp_leq]; exact decide_eq_decide.2 (by omega)
def d36 : ByteArray := ByteArray.mk #[48, 49, 50, 51, 52, 53, 54, 55, 56, 57, 97, 98, 99, 100, 101, 102, 103, 104, 105, 106, 107, 108, 109, 110, 111, 112, 113, 114, 115, 116, 117, 118, 119, 120, 121, 122]
theorem d36_def : ByteArray.mk #[48, 49, 50, 51, 52, 53, 54, 55, 56, 57, 97, 98, 99, 100, 101, 102, 103, 104, 105, 106, 107, 108, 109, 110, 111, 112, 113, 114, 115, 116, 117, 118, 119, 120, 121, 122] = d36 := rfl
theorem idx36_fin : ∀ k : Fin 16, (d36.data.toList.getD k.val 0) = hx k.val := by decide +kernel
theorem idx36 (k : Nat) (h : k < 16) : qidxS d36 (k : Int) = ((hx k).toNat : Int) := by
  rw [qidxS_eq]; simp only [ridxS, ByteArray.toList_eq, Int.toNat_natCast]; rw [idx36_fin ⟨k, h⟩]
theorem inb36 (k : Nat) (h : k < 16) : qinbS d36 (k : Int) = true := by
  have hs : d36.size = 36 := rfl
  rw [qinbS_eq]; simp only [rinbS, hs, Bool.and_eq_true, decide_eq_true_eq]; omega
def d16 : ByteArray := ByteArray.mk #[48, 49, 50, 51, 52, 53, 54, 55, 56, 57, 97, 98, 99, 100, 101, 102]
theorem d16_def : ByteArray.mk #[48, 49, 50, 51, 52, 53, 54, 55, 56, 57, 97, 98, 99, 100, 101, 102] = d16 := rfl
theorem sub16_fin : ∀ k : Fin 16, (d16.data.toList.drop k.val).take 1 = [hx k.val] := by decide +kernel
theorem sub16 (k : Nat) (h : k < 16) : qsubS d16 (k : Int) ((k + 1 : Nat) : Int) = bs [hx k] := by
  rw [qsubS_eq]
  apply ByteArray.ext
  rw [← Array.toList_inj]
  simp only [Int.toNat_natCast, ByteArray.data_extract, Array.toList_extract, List.extract_eq_take_drop]
  rw [show k + 1 - k = 1 by omega]
  exact sub16_fin ⟨k, h⟩
theorem len16 : qlenS d16 = ((16 : Nat) : Int) := by rw [qlenS_eq]; rfl
theorem push_list (l : List D) : ∀ (r : ByteArray), (l.foldl (fun r x => r.push (UInt8.ofNat x.toInt.toNat)) r).data.toList = r.data.toList ++ l.map fun x => UInt8.ofNat x.toInt.toNat := by
  induction l with
  | nil => intro r; simp
  | cons x l ih => intro r; rw [List.foldl_cons, ih]; simp [ByteArray.push]
theorem textL (l : List D) : qtext (.list l) = bs (l.map fun x => UInt8.ofNat x.toInt.toNat) := by
  rw [qtext_eq]
  apply ByteArray.ext
  rw [← Array.toList_inj]
  unfold D.text
  rw [push_list]
  rfl
theorem of8 (c : UInt8) : UInt8.ofNat (Int.toNat (D.toInt (.int (c.toNat : Int)))) = c := by simp [D.toInt]
theorem spec25 (n : Nat) (h : n < 4294967296) : q25 [.int n] = some [.str (bs (48 :: 120 :: digs 16 n))] := by
  rw [q25_eq, F25_eq]
  have m16 : ∀ k : Nat, k % 16 < 16 := fun k => Nat.mod_lt _ (by omega)
  have i15 : ∀ k : Nat, qinbS d36 ((k % 16 : Nat) : Int) = true := fun k => inb36 _ (m16 k)
  have x15 : ∀ k : Nat, qidxS d36 ((k % 16 : Nat) : Int) = ((hx (k % 16)).toNat : Int) := fun k => idx36 _ (m16 k)
  have b0 : ByteArray.mk #[48, 120] = bs [48, 120] := rfl
  have g16 : ∀ k : Nat, qcmp .geq (k : Int) 16 = decide (16 ≤ k) := fun k => geN k 16
  simp only [d36_def, w64 n (by omega), shr4, and15, g16, i15, x15, cond_true, b0, textL, List.map_cons, List.map_nil, of8]
  by_cases h0 : 16 ≤ n
  · simp only [h0, decide_true, cond_true]
    by_cases h1 : 16 ≤ (n / 16)
    · simp only [h1, decide_true, cond_true]
      by_cases h2 : 16 ≤ ((n / 16) / 16)
      · simp only [h2, decide_true, cond_true]
        by_cases h3 : 16 ≤ (((n / 16) / 16) / 16)
        · simp only [h3, decide_true, cond_true]
          by_cases h4 : 16 ≤ ((((n / 16) / 16) / 16) / 16)
          · simp only [h4, decide_true, cond_true]
            by_cases h5 : 16 ≤ (((((n / 16) / 16) / 16) / 16) / 16)
            · simp only [h5, decide_true, cond_true]
              by_cases h6 : 16 ≤ ((((((n / 16) / 16) / 16) / 16) / 16) / 16)
              · simp only [h6, decide_true, cond_true]
                by_cases h7 : 16 ≤ (((((((n / 16) / 16) / 16) / 16) / 16) / 16) / 16)
                · simp only [h7, decide_true, cond_true]
                  exfalso; omega
                · simp only [h7, decide_false, cond_false, inb36 _ (Nat.lt_of_not_le h7), idx36 _ (Nat.lt_of_not_le h7), of8, cond_true]
                  rw [catOkB (by simp), catB, digs_ge h0 (by omega), digs_ge h1 (by omega), digs_ge h2 (by omega), digs_ge h3 (by omega), digs_ge h4 (by omega), digs_ge h5 (by omega), digs_ge h6 (by omega), digs_lt (Nat.lt_of_not_le h7)]
                  rfl
              · simp only [h6, decide_false, cond_false, inb36 _ (Nat.lt_of_not_le h6), idx36 _ (Nat.lt_of_not_le h6), of8, cond_true]
                rw [catOkB (by simp), catB, digs_ge h0 (by omega), digs_ge h1 (by omega), digs_ge h2 (by omega), digs_ge h3 (by omega), digs_ge h4 (by omega), digs_ge h5 (by omega), digs_lt (Nat.lt_of_not_le h6)]
                rfl
            · simp only [h5, decide_false, cond_false, inb36 _ (Nat.lt_of_not_le h5), idx36 _ (Nat.lt_of_not_le h5), of8, cond_true]
              rw [catOkB (by simp), catB, digs_ge h0 (by omega), digs_ge h1 (by omega), digs_ge h2 (by omega), digs_ge h3 (by omega), digs_ge h4 (by omega), digs_lt (Nat.lt_of_not_le h5)]
              rfl
          · simp only [h4, decide_false, cond_false, inb36 _ (Nat.lt_of_not_le h4), idx36 _ (Nat.lt_of_not_le h4), of8, cond_true]
            rw [catOkB (by simp), catB, digs_ge h0 (by omega), digs_ge h1 (by omega), digs_ge h2 (by omega), digs_ge h3 (by omega), digs_lt (Nat.lt_of_not_le h4)]
            rfl
        · simp only [h3, decide_false, cond_false, inb36 _ (Nat.lt_of_not_le h3), idx36 _ (Nat.lt_of_not_le h3), of8, cond_true]
          rw [catOkB (by simp), catB, digs_ge h0 (by omega), digs_ge h1 (by omega), digs_ge h2 (by omega), digs_lt (Nat.lt_of_not_le h3)]
          rfl
      · simp only [h2, decide_false, cond_false, inb36 _ (Nat.lt_of_not_le h2), idx36 _ (Nat.lt_of_not_le h2), of8, cond_true]
        rw [catOkB (by simp), catB, digs_ge h0 (by omega), digs_ge h1 (by omega), digs_lt (Nat.lt_of_not_le h2)]
        rfl
    · simp only [h1, decide_false, cond_false, inb36 _ (Nat.lt_of_not_le h1), idx36 _ (Nat.lt_of_not_le h1), of8, cond_true]
      rw [catOkB (by simp), catB, digs_ge h0 (by omega), digs_lt (Nat.lt_of_not_le h1)]
      rfl
  · simp only [h0, decide_false, cond_false, inb36 _ (Nat.lt_of_not_le h0), idx36 _ (Nat.lt_of_not_le h0), of8, cond_true]
    rw [catOkB (by simp), catB, digs_lt (Nat.lt_of_not_le h0)]
    rfl
noncomputable def nxt (st : List D → Option (Sum (List D) (List D))) (x : Option (Sum (List D) (List D))) : Option (List D) := match x with | none => none | some (.inl s') => loW st s' | some (.inr d) => some d
theorem nxt_l (st : List D → Option (Sum (List D) (List D))) (s : List D) : nxt st (some (.inl s)) = loW st s := rfl
theorem nxt_r (st : List D → Option (Sum (List D) (List D))) (s : List D) : nxt st (some (.inr s)) = some s := rfl
theorem nxtW (st : List D → Option (Sum (List D) (List D))) (s : List D) : loW st s = nxt st (st s) := by
  rw [loW_eq]; unfold nxt
  cases st s with
  | none => rfl
  | some x => cases x <;> rfl
theorem loop30 (ps : ByteArray) : ∀ (k n : Nat) (r : List UInt8), n < 10 ^ (k + 1) → n < 4294967296 → r.length + k ≤ 1000 → l30_2 [.str ps] [.int n, .str (bs (hx (n % 10) :: r))] = some [.int 0, .str (bs (digs 10 n ++ r))] := by
  intro k
  induction k with
  | zero =>
    intro n r h0 h hr
    rw [l30_2_eq]
    show loW (st30_2 [.str ps]) _ = _
    rw [nxtW, st30_2_eq, show qcmp .geq (n : Int) 10 = decide (10 ≤ n) from geN n 10, decide_eq_false (by omega), digs_lt (by omega)]
    simp only [cond_false, nxt_r]
    rw [Nat.mod_eq_of_lt (by omega)]; rfl
  | succ k ih =>
    intro n r h0 h hr
    rw [l30_2_eq]
    show loW (st30_2 [.str ps]) _ = _
    rw [nxtW, st30_2_eq]
    have h10 : n / 10 % 10 < 10 := Nat.mod_lt _ (by omega)
    have e1 : qbin .quo .u32 (n : Int) 10 = ((n / 10 : Nat) : Int) := quoN n 10 h
    have e2 : qbin .rem .u32 ((n / 10 : Nat) : Int) 10 = ((n / 10 % 10 : Nat) : Int) := remN _ 10
    have e3 : qbin .add .u32 48 ((n / 10 % 10 : Nat) : Int) = ((48 + n / 10 % 10 : Nat) : Int) := addN 48 _ (by omega)
    have e4 : qwrap .u8 ((48 + n / 10 % 10 : Nat) : Int) = ((hx (n / 10 % 10)).toNat : Int) := by
      rw [qwrap_eq, mU8]; simp only [hx, h10, if_true, UInt8.toNat_ofNat']; omega
    rw [show qcmp .geq (n : Int) 10 = decide (10 ≤ n) from geN n 10, e1, e2, e3, e4]
    simp only [textL, List.map_cons, List.map_nil, of8]
    by_cases hn : 10 ≤ n
    · rw [decide_eq_true hn, catOkB (by simp; omega), catB]
      simp only [cond_true, List.cons_append, List.nil_append, nxt_l]
      have := ih (n / 10) (hx (n % 10) :: r) (by rw [Nat.div_lt_iff_lt_mul (by omega)]; rw [Nat.pow_succ] at h0; exact h0) (by omega) (by simp; omega)
      rw [l30_2_eq] at this
      rw [show loW (st30_2 [.str ps]) [.int ((n / 10 : Nat) : Int), .str (bs (hx (n / 10 % 10) :: hx (n % 10) :: r))] = _ from this, digs_ge hn (by omega)]
      simp
    · rw [decide_eq_false hn, digs_lt (by omega)]
      simp only [cond_false, nxt_r]
      rw [Nat.mod_eq_of_lt (by omega)]; rfl
theorem spec30 (n : Nat) (h : n < 4294967296) : q30 [.int n] = some [.str (bs (digs 10 n))] := by
  rw [q30_eq, F30_eq]
  have h10 : n % 10 < 10 := Nat.mod_lt _ (by omega)
  have e2 : qbin .rem .u32 (n : Int) 10 = ((n % 10 : Nat) : Int) := remN _ 10
  have e3 : qbin .add .u32 48 ((n % 10 : Nat) : Int) = ((48 + n % 10 : Nat) : Int) := addN 48 _ (by omega)
  have e4 : qwrap .u8 ((48 + n % 10 : Nat) : Int) = ((hx (n % 10)).toNat : Int) := by
    rw [qwrap_eq, mU8]; simp only [hx, h10, if_true, UInt8.toNat_ofNat']; omega
  rw [e2, e3, e4]
  simp only [textL, List.map_cons, List.map_nil, of8]
  have := loop30 (ByteArray.mk #[]) 9 n [] (by omega) h (by simp)
  rw [this]
  simp [qsome_s, qnth_s, qstr_s]
theorem loop34 (ps : ByteArray) : ∀ (k n : Nat) (r : List UInt8), n < 16 ^ (k + 1) → n < 4294967296 → r.length + k ≤ 1000 → l34_3 [.str ps, .str d16] [.int n, .str (bs (hx (n % 16) :: r))] = some [.int 0, .str (bs (digs 16 n ++ r))] := by
  intro k
  induction k with
  | zero =>
    intro n r h0 h hr
    rw [l34_3_eq]
    show loW (st34_3 [.str ps, .str d16]) _ = _
    rw [nxtW, st34_3_eq, show qcmp .geq (n : Int) 16 = decide (16 ≤ n) from geN n 16, decide_eq_false (by omega), digs_lt (by omega)]
    simp only [cond_false, nxt_r]
    rw [Nat.mod_eq_of_lt (by omega)]; rfl
  | succ k ih =>
    intro n r h0 h hr
    rw [l34_3_eq]
    show loW (st34_3 [.str ps, .str d16]) _ = _
    rw [nxtW, st34_3_eq]
    have h16 : n / 16 % 16 < 16 := Nat.mod_lt _ (by omega)
    have e1 : qbin .quo .u32 (n : Int) 16 = ((n / 16 : Nat) : Int) := quoN n 16 h
    have e2 : qbin .rem .u32 ((n / 16 : Nat) : Int) 16 = ((n / 16 % 16 : Nat) : Int) := remN _ 16
    have e3 : qbin .add .u32 ((n / 16 % 16 : Nat) : Int) 1 = ((n / 16 % 16 + 1 : Nat) : Int) := addN _ 1 (by omega)
    rw [show qcmp .geq (n : Int) 16 = decide (16 ≤ n) from geN n 16, e1, e2, e3, sub16 _ h16, len16, leN, leN, show qcmp .leq 0 ((n / 16 % 16 : Nat) : Int) = decide (0 ≤ n / 16 % 16) from leN 0 _,
      decide_eq_true (show 0 ≤ n / 16 % 16 by omega), decide_eq_true (show n / 16 % 16 ≤ n / 16 % 16 + 1 by omega), decide_eq_true (show n / 16 % 16 + 1 ≤ 16 by omega)]
    simp only [cond_true]
    by_cases hn : 16 ≤ n
    · rw [decide_eq_true hn, catOkB (by simp; omega), catB]
      simp only [cond_true, List.cons_append, List.nil_append, nxt_l]
      have := ih (n / 16) (hx (n % 16) :: r) (by rw [Nat.div_lt_iff_lt_mul (by omega)]; rw [Nat.pow_succ] at h0; exact h0) (by omega) (by simp; omega)
      rw [l34_3_eq] at this
      rw [show loW (st34_3 [.str ps, .str d16]) [.int ((n / 16 : Nat) : Int), .str (bs (hx (n / 16 % 16) :: hx (n % 16) :: r))] = _ from this, digs_ge hn (by omega)]
      simp
    · rw [decide_eq_false hn, digs_lt (by omega)]
      simp only [cond_false, nxt_r]
      rw [Nat.mod_eq_of_lt (by omega)]; rfl
theorem spec34 (n : Nat) (h : n < 4294967296) : q34 [.int n] = some [.str (bs (48 :: 120 :: digs 16 n))] := by
  rw [q34_eq, F34_eq]
  have h16 : n % 16 < 16 := Nat.mod_lt _ (by omega)
  have e2 : qbin .rem .u32 (n : Int) 16 = ((n % 16 : Nat) : Int) := remN _ 16
  have e3 : qbin .add .u32 ((n % 16 : Nat) : Int) 1 = ((n % 16 + 1 : Nat) : Int) := addN _ 1 (by omega)
  have b0 : ByteArray.mk #[48, 120] = bs [48, 120] := rfl
  have := loop34 (ByteArray.mk #[]) 7 n [] (by omega) h (by simp)
  rw [d16_def, e2, e3, sub16 _ h16, len16, leN, leN, show qcmp .leq 0 ((n % 16 : Nat) : Int) = decide (0 ≤ n % 16) from leN 0 _,
      decide_eq_true (show 0 ≤ n % 16 by omega), decide_eq_true (show n % 16 ≤ n % 16 + 1 by omega), decide_eq_true (show n % 16 + 1 ≤ 16 by omega), this, b0]
  have hl := digs_len (b := 16) (by omega) 7 n (by omega)
  simp only [cond_true, qsome_s, qnth_s, List.getD_cons_succ, List.getD_cons_zero, qstr_s, List.append_nil]
  rw [catOkB (by simp; omega), catB]
  rfl
end Go.Proofs.YtobhhfbdelnhfaaGreatDoor
namespace Go.Proofs.YtobhhfbdelnhfaaGreatDoor
set_option linter.unusedSimpArgs false
set_option linter.unusedVariables false
open Go Go.AM
theorem mkB (l : List UInt8) : ByteArray.mk l.toArray = bs l := rfl
def nameL (l : List (List UInt8)) : D := .list (l.map fun x => .str (bs x))
theorem nameL_get {l : List (List UInt8)} {k : Nat} (h : k < l.length) : qget (nameL l) (k : Int) = .str (bs (l.getD k [])) := by
  rw [qget_n]; simp [nameL, D.toList, List.getD, h]
theorem nameL_inb {l : List (List UInt8)} {k : Nat} (h : k < l.length) : qinb (nameL l) (k : Int) = true := by
  rw [qinb_c]; simp [nameL, D.toList]; omega
def ccL : List (List UInt8) := [[97, 108], [101, 113], [110, 101], [108, 116], [103, 101], [108, 101], [103, 116], [98], [97, 101], [98, 101], [97], [110, 101, 103], [112, 111, 115], [111, 118], [110, 111]]
def opL : List (List UInt8) := [[109, 111, 118], [97, 100, 100], [115, 117, 98], [97, 110, 100], [111, 114], [120, 111, 114], [109, 117, 108], [115, 104, 108], [115, 104, 114], [115, 97, 114], [99, 109, 112]]
def plL : List (List UInt8) := [[110, 111, 112], [104, 97, 108, 116], [114, 101, 116], [112, 117, 115, 104, 32], [112, 111, 112, 32]]
def ccT (k : Nat) : List UInt8 := ccL.getD k []
def opT (k : Nat) : List UInt8 := opL.getD k []
theorem short_of {l : List (List UInt8)} (h : l.all (fun x => decide (x.length ≤ 5)) = true) (k : Nat) : (l.getD k []).length ≤ 5 := by
  rw [List.getD]
  cases hk : l[k]? with
  | none => simp
  | some x =>
    have := List.all_eq_true.1 h x (List.mem_of_getElem? hk)
    simpa using this
theorem ccT_len (k : Nat) : (ccT k).length ≤ 5 := short_of (by decide +kernel) k
theorem opT_len (k : Nat) : (opT k).length ≤ 5 := short_of (by decide +kernel) k
theorem spec26 {k : Nat} (h : k < 15) : q26 [.int k] = some [.str (bs (ccT k))] := by
  rw [q26_eq]
  have e : F26 [.int (k : Int)] = (bif qcmp .leq 0 (k : Int) then (bif qcmp .lss (k : Int) 15 then (bif qinb (nameL ccL) (k : Int) then some [.str (qstr (qget (nameL ccL) (k : Int)))] else none) else none) else none) := F26_eq (k : Int)
  rw [e, nameL_inb (l := ccL) h, nameL_get (l := ccL) h, qcmp_leq, qcmp_lss, decide_eq_true (show (0 : Int) ≤ (k : Int) by omega), decide_eq_true (show (k : Int) < 15 by omega), qstr_s]
  rfl
theorem sub5 {o : Int} (h : 5 ≤ o ∧ o ≤ 15) : qbin .sub .i64 o 5 = (((o - 5).toNat : Nat) : Int) := by
  rw [qbin_eq]; simp only [rbin]; rw [wrap64' (by omega) (by omega)]; omega
theorem spec56 {o : Int} (h : 5 ≤ o ∧ o ≤ 15) : q56 [.int o] = some [.str (bs (opT (o - 5).toNat))] := by
  rw [q56_eq]
  have hk : (o - 5).toNat < opL.length := by show _ < 11; omega
  have e : F56 [.int o] = (bif qcmp .leq 0 (qbin .sub .i64 o 5) then (bif qcmp .lss (qbin .sub .i64 o 5) 11 then (bif qinb (nameL opL) (qbin .sub .i64 o 5) then some [.str (qstr (qget (nameL opL) (qbin .sub .i64 o 5)))] else none) else none) else none) := F56_eq o
  rw [e, sub5 h, nameL_inb hk, nameL_get hk, qcmp_leq, qcmp_lss, decide_eq_true (show (0 : Int) ≤ ((o - 5).toNat : Int) by omega), decide_eq_true (show ((o - 5).toNat : Int) < 11 by omega), qstr_s]
  rfl
theorem spec35 : q35 [] = some [nameL ccL] := by rw [q35_eq]; exact F35_eq
theorem spec57 : q57 [] = some [nameL opL] := by rw [q57_eq]; exact F57_eq
theorem mI32 (n : Int) : IntKind.i32.wrap n = if n % 4294967296 < 2147483648 then n % 4294967296 else n % 4294967296 - 4294967296 := by
  simp [IntKind.wrap, IntKind.bits, IntKind.signed]
  by_cases h : n % 4294967296 < 2147483648
  · rw [if_pos h, if_neg (by omega)]
  · rw [if_neg h, if_pos (by omega)]
theorem mI8 (n : Int) : IntKind.i8.wrap n = if n % 256 < 128 then n % 256 else n % 256 - 256 := by
  simp [IntKind.wrap, IntKind.bits, IntKind.signed]
  by_cases h : n % 256 < 128
  · rw [if_pos h, if_neg (by omega)]
  · rw [if_neg h, if_pos (by omega)]
theorem itoaN (n : Nat) : qitoa (n : Int) = bs (digs 10 n) := by
  simp only [qitoa, veil_eq, Lib.itoa]
  rw [if_neg (by omega), Int.toNat_natCast, dec_digs]; rfl
theorem itoaM (n : Nat) (h : 0 < n) : qitoa (-(n : Int)) = bs (45 :: digs 10 n) := by
  simp only [qitoa, veil_eq, Lib.itoa]
  rw [if_pos (by omega), Int.natAbs_neg, Int.natAbs_natCast, dec_digs]; rfl
def rg (k : Int) : UInt8 := hx k.toNat
theorem bnd (n : Nat) (h : n ≤ 4294967296) : qcmp .leq (-9223372036854775808) (n : Int) = true ∧ qcmp .leq (n : Int) 9223372036854775807 = true := by
  rw [qcmp_leq, qcmp_leq]; exact ⟨decide_eq_true (by omega), decide_eq_true (by omega)⟩
theorem spec21 {k : Int} (h : 0 ≤ k ∧ k < 8) : q21 [.int k] = some [.str (bs [114, rg k])] := by
  obtain ⟨n, rfl⟩ := Int.eq_ofNat_of_zero_le h.1
  obtain ⟨b1, b2⟩ := bnd n (by omega)
  rw [q21_eq, F21_eq, b1, b2, itoaN, digs_lt (by omega)]
  simp (disch := (simp only [List.length_append, List.length_cons, List.length_nil]; omega)) only [qsome_s, qnth_s, List.getD_cons_zero, qstr_s, qbool_b, cond_true, cond_false, mkB, catOkB, catB]
  rfl
theorem spec29 {k : Int} (h : 0 ≤ k ∧ k < 8) : q29 [.int k] = some [.str (bs [114, rg k])] := by
  obtain ⟨n, rfl⟩ := Int.eq_ofNat_of_zero_le h.1
  rw [q29_eq, F29_eq, w32 n (by omega), spec30 n (by omega), digs_lt (by omega)]
  simp (disch := (simp only [List.length_append, List.length_cons, List.length_nil]; omega)) only [qsome_s, qnth_s, List.getD_cons_zero, qstr_s, qbool_b, cond_true, cond_false, mkB, catOkB, catB]
  rfl
def near (n : Nat) : Prop := n ≤ 127 ∨ 4294967168 ≤ n
instance (n : Nat) : Decidable (near n) := by unfold near; infer_instance
def signT (n : Nat) : List UInt8 := if 4294967168 ≤ n then 45 :: digs 10 (4294967296 - n) else digs 10 n
theorem dlen (n : Nat) (h : n < 4294967296) : (digs 10 n).length ≤ 10 := digs_len (by omega) 9 n (by omega)
theorem hlen (n : Nat) (h : n < 4294967296) : (digs 16 n).length ≤ 8 := digs_len (by omega) 7 n (by omega)
theorem signT_len (n : Nat) (h : n < 4294967296) : (signT n).length ≤ 11 := by
  unfold signT
  split
  · have := dlen (4294967296 - n) (by omega); simp; omega
  · have := dlen n h; omega
theorem i32w (n : Nat) (h : near n) (h2 : n < 4294967296) : qwrap .i64 (qwrap .i32 (n : Int)) = if 4294967168 ≤ n then -((4294967296 - n : Nat) : Int) else (n : Int) := by
  rw [qwrap_eq]
  unfold near at h
  have e : IntKind.i32.wrap (n : Int) = if 4294967168 ≤ n then -((4294967296 - n : Nat) : Int) else (n : Int) := by
    rw [mI32]
    split <;> split <;> omega
  rw [e]
  split
  · exact wrap64' (by omega) (by omega)
  · exact wrap64' (by omega) (by omega)
theorem spec53 (n : Nat) (h : near n) (h2 : n < 4294967296) : q53 [.int n] = some [.str (bs (signT n))] := by
  rw [q53_eq, F53_eq, i32w n h h2, qcmp_leq, qcmp_leq]
  by_cases hn : 4294967168 ≤ n
  · rw [if_pos hn, decide_eq_true (by omega), decide_eq_true (by omega), itoaM _ (by omega)]
    simp only [cond_true, signT, if_pos hn]
  · rw [if_neg hn, decide_eq_true (by omega), decide_eq_true (by omega), itoaN]
    simp only [cond_true, signT, if_neg hn]
theorem spec58 (n : Nat) (h2 : n < 4294967296) : q58 [.int n] = some [.str (bs (signT n))] := by
  rw [q58_eq, F58_eq, show qcmp .geq (n : Int) 4294967168 = decide (4294967168 ≤ n) from geN n 4294967168]
  by_cases hn : 4294967168 ≤ n
  · have e : qbin .sub .u32 0 (n : Int) = ((4294967296 - n : Nat) : Int) := by rw [qbin_eq]; simp only [rbin, mU32]; omega
    have := dlen (4294967296 - n) (by omega)
    rw [decide_eq_true hn, e, spec30 (4294967296 - n) (by omega)]
    simp (disch := (simp only [List.length_append, List.length_cons, List.length_nil]; omega)) only [qsome_s, qnth_s, List.getD_cons_zero, qstr_s, qbool_b, cond_true, cond_false, mkB, catOkB, catB]
    simp only [signT, if_pos hn]; rfl
  · rw [decide_eq_false hn, spec30 _ h2]
    simp (disch := (simp only [List.length_append, List.length_cons, List.length_nil]; omega)) only [qsome_s, qnth_s, List.getD_cons_zero, qstr_s, qbool_b, cond_true, cond_false, mkB, catOkB, catB]
    simp only [signT, if_neg hn]
def placeT (c : UInt8) (n : Nat) : List UInt8 := [91, 114, c] ++ ((if n = 0 then [] else if n ≤ 127 then 43 :: digs 10 n else 45 :: digs 10 (4294967296 - n)) ++ [93])
theorem placeT_len (c : UInt8) (n : Nat) (h : n < 4294967296) : (placeT c n).length ≤ 20 := by
  unfold placeT
  have h1 := dlen n h
  split
  · simp
  · split
    · simp; omega
    · have h2 := dlen (4294967296 - n) (by omega); simp; omega
theorem spec23 {d : D} {n : Nat} (hb : 0 ≤ qint (qfld d 7) ∧ qint (qfld d 7) < 8) (hn : qint (qfld d 1) = n) (h : near n) (h2 : n < 4294967296) : q23 [d] = some [.str (bs (placeT (rg (qint (qfld d 7))) n))] := by
  rw [q23_eq, F23_eq, spec21 hb, hn, spec53 n h h2]
  have hl := signT_len n h2
  have e0 : qcmp .eql (n : Int) 0 = decide (n = 0) := by rw [qcmp_eql]; exact decide_eq_decide.2 (by omega)
  have e1 : qcmp .eql (qbin .shr .u32 (n : Int) 31) 0 = decide (n ≤ 127) := by
    rw [qcmp_eql]
    refine decide_eq_decide.2 ?_
    rw [qbin_eq]; simp only [rbin, IntKind.bits]
    show Int.fdiv (n : Int) 2147483648 = 0 ↔ _
    rw [Int.fdiv_eq_ediv_of_nonneg _ (by omega)]
    unfold near at h
    omega
  rw [e0, e1]
  by_cases z : n = 0
  · rw [decide_eq_true z]
    simp (disch := (simp only [List.length_append, List.length_cons, List.length_nil]; omega)) only [qsome_s, qnth_s, List.getD_cons_zero, qstr_s, qbool_b, cond_true, cond_false, mkB, catOkB, catB]
    simp only [placeT, if_pos z]; rfl
  · rw [decide_eq_false z]
    by_cases p : n ≤ 127
    · rw [decide_eq_true p]
      simp (disch := (simp only [List.length_append, List.length_cons, List.length_nil]; omega)) only [qsome_s, qnth_s, List.getD_cons_zero, qstr_s, qbool_b, cond_true, cond_false, mkB, catOkB, catB]
      simp only [placeT, if_neg z, if_pos p, signT, if_neg (show ¬ 4294967168 ≤ n by omega), List.append_assoc, List.cons_append, List.nil_append]
    · have q : 4294967168 ≤ n := by unfold near at h; omega
      rw [decide_eq_false p]
      simp (disch := (simp only [List.length_append, List.length_cons, List.length_nil]; omega)) only [qsome_s, qnth_s, List.getD_cons_zero, qstr_s, qbool_b, cond_true, cond_false, mkB, catOkB, catB]
      simp only [placeT, if_neg z, if_neg p, signT, if_pos q, List.append_assoc, List.cons_append, List.nil_append]
theorem spec31 {d : D} {n : Nat} (hb : 0 ≤ qint (qfld d 7) ∧ qint (qfld d 7) < 8) (hn : qint (qfld d 1) = n) (h : near n) (h2 : n < 4294967296) : q31 [d] = some [.str (bs (placeT (rg (qint (qfld d 7))) n))] := by
  rw [q31_eq, F31_eq, spec29 hb, hn]
  have e0 : qcmp .eql (n : Int) 0 = decide (n = 0) := by rw [qcmp_eql]; exact decide_eq_decide.2 (by omega)
  have e1 : qcmp .leq (n : Int) 127 = decide (n ≤ 127) := leN n 127
  rw [e0, e1]
  by_cases z : n = 0
  · rw [decide_eq_true z]
    simp (disch := (simp only [List.length_append, List.length_cons, List.length_nil]; omega)) only [qsome_s, qnth_s, List.getD_cons_zero, qstr_s, qbool_b, cond_true, cond_false, mkB, catOkB, catB]
    simp only [placeT, if_pos z]; rfl
  · rw [decide_eq_false z]
    by_cases p : n ≤ 127
    · have hl := dlen n h2
      rw [decide_eq_true p, spec30 n h2]
      simp (disch := (simp only [List.length_append, List.length_cons, List.length_nil]; omega)) only [qsome_s, qnth_s, List.getD_cons_zero, qstr_s, qbool_b, cond_true, cond_false, mkB, catOkB, catB]
      simp only [placeT, if_neg z, if_pos p, List.append_assoc, List.cons_append, List.nil_append]
    · have q : 4294967168 ≤ n := by unfold near at h; omega
      have e : qbin .sub .u32 0 (n : Int) = ((4294967296 - n : Nat) : Int) := by rw [qbin_eq]; simp only [rbin, mU32]; omega
      have hl := dlen (4294967296 - n) (by omega)
      rw [decide_eq_false p, e, spec30 (4294967296 - n) (by omega)]
      simp (disch := (simp only [List.length_append, List.length_cons, List.length_nil]; omega)) only [qsome_s, qnth_s, List.getD_cons_zero, qstr_s, qbool_b, cond_true, cond_false, mkB, catOkB, catB]
      simp only [placeT, if_neg z, if_neg p, List.append_assoc, List.cons_append, List.nil_append]
theorem spec32 (n : Nat) : q32 [.int n] = some [.bool (decide (near n))] := by
  rw [q32_eq, F32_eq, qiteB_c, show qcmp .leq (n : Int) 127 = decide (n ≤ 127) from leN n 127, show qcmp .geq (n : Int) 4294967168 = decide (4294967168 ≤ n) from geN n 4294967168]
  unfold near
  by_cases a : n ≤ 127 <;> simp [a]
theorem nearW (n : Nat) (h2 : n < 4294967296) : qcmp .eql (qwrap .u32 (qwrap .i8 (n : Int))) (n : Int) = decide (near n) := by
  rw [qcmp_eql, qwrap_eq, mU32]
  refine decide_eq_decide.2 ?_
  unfold near
  rw [mI8]
  split <;> omega
def arT (f : Int) (ra rb : UInt8) (n : Nat) : List UInt8 :=
  if f = 0 then [32, 114, ra, 44, 32, 114, rb] else if f = 1 then [32, 114, ra, 44, 32] ++ signT n
  else if near n then [46, 119, 32, 114, ra, 44, 32] ++ signT n else [32, 114, ra, 44, 32, 48, 120] ++ digs 16 n
theorem spec27 {d : D} {n : Nat} (ho : 5 ≤ qint (qfld d 2) ∧ qint (qfld d 2) ≤ 15) (ha : 0 ≤ qint (qfld d 6) ∧ qint (qfld d 6) < 8) (hb : 0 ≤ qint (qfld d 7) ∧ qint (qfld d 7) < 8) (hn : qint (qfld d 1) = n) (h : qint (qfld d 3) = 1 → near n) (h2 : n < 4294967296) :
    q27 [d] = some [.str (bs (opT (qint (qfld d 2) - 5).toNat ++ arT (qint (qfld d 3)) (rg (qint (qfld d 6))) (rg (qint (qfld d 7))) n))] := by
  rw [q27_eq, F27_eq, spec56 ho, spec21 ha, spec21 hb, hn, spec25 n h2, nearW n h2, qcmp_eql, qcmp_eql]
  have ol := opT_len (qint (qfld d 2) - 5).toNat
  have sl := signT_len n h2
  have gl := hlen n h2
  by_cases f0 : qint (qfld d 3) = 0
  · rw [decide_eq_true f0]
    simp (disch := (simp only [List.length_append, List.length_cons, List.length_nil]; omega)) only [qsome_s, qnth_s, List.getD_cons_zero, qstr_s, qbool_b, cond_true, cond_false, mkB, catOkB, catB]
    simp only [arT, if_pos f0, List.append_assoc, List.cons_append, List.nil_append]
  · rw [decide_eq_false f0]
    by_cases f1 : qint (qfld d 3) = 1
    · rw [decide_eq_true f1, spec53 n (h f1) h2]
      simp (disch := (simp only [List.length_append, List.length_cons, List.length_nil]; omega)) only [qsome_s, qnth_s, List.getD_cons_zero, qstr_s, qbool_b, cond_true, cond_false, mkB, catOkB, catB]
      simp only [arT, if_neg f0, if_pos f1, List.append_assoc, List.cons_append, List.nil_append]
    · rw [decide_eq_false f1]
      by_cases g : near n
      · rw [decide_eq_true g, spec53 n g h2]
        simp (disch := (simp only [List.length_append, List.length_cons, List.length_nil]; omega)) only [qsome_s, qnth_s, List.getD_cons_zero, qstr_s, qbool_b, cond_true, cond_false, mkB, catOkB, catB]
        simp only [arT, if_neg f0, if_neg f1, if_pos g, List.append_assoc, List.cons_append, List.nil_append]
      · rw [decide_eq_false g]
        simp (disch := (simp only [List.length_append, List.length_cons, List.length_nil]; omega)) only [qsome_s, qnth_s, List.getD_cons_zero, qstr_s, qbool_b, cond_true, cond_false, mkB, catOkB, catB]
        simp only [arT, if_neg f0, if_neg f1, if_neg g, List.append_assoc, List.cons_append, List.nil_append]
theorem spec28 {d : D} {n : Nat} (ho : 5 ≤ qint (qfld d 2) ∧ qint (qfld d 2) ≤ 15) (ha : 0 ≤ qint (qfld d 6) ∧ qint (qfld d 6) < 8) (hb : 0 ≤ qint (qfld d 7) ∧ qint (qfld d 7) < 8) (hn : qint (qfld d 1) = n) (h2 : n < 4294967296) :
    q28 [d] = some [.str (bs (opT (qint (qfld d 2) - 5).toNat ++ arT (qint (qfld d 3)) (rg (qint (qfld d 6))) (rg (qint (qfld d 7))) n))] := by
  have hk : (qint (qfld d 2) - 5).toNat < opL.length := by show _ < 11; omega
  rw [q28_eq, F28_eq, spec57, sub5 ho, spec29 ha, spec29 hb, hn, spec34 n h2, spec32, spec58 n h2, qcmp_eql, qcmp_eql]
  simp only [qsome_s, qnth_s, List.getD_cons_zero, cond_true, nameL_inb hk, nameL_get hk, qstr_s, qbool_b]
  rw [show opL.getD (qint (qfld d 2) - 5).toNat [] = opT (qint (qfld d 2) - 5).toNat from rfl]
  have ol := opT_len (qint (qfld d 2) - 5).toNat
  have sl := signT_len n h2
  have gl := hlen n h2
  by_cases f0 : qint (qfld d 3) = 0
  · rw [decide_eq_true f0]
    simp (disch := (simp only [List.length_append, List.length_cons, List.length_nil]; omega)) only [qsome_s, qnth_s, List.getD_cons_zero, qstr_s, qbool_b, cond_true, cond_false, mkB, catOkB, catB]
    simp only [arT, if_pos f0, List.append_assoc, List.cons_append, List.nil_append]
  · rw [decide_eq_false f0]
    by_cases f1 : qint (qfld d 3) = 1
    · rw [decide_eq_true f1]
      simp (disch := (simp only [List.length_append, List.length_cons, List.length_nil]; omega)) only [qsome_s, qnth_s, List.getD_cons_zero, qstr_s, qbool_b, cond_true, cond_false, mkB, catOkB, catB]
      simp only [arT, if_neg f0, if_pos f1, List.append_assoc, List.cons_append, List.nil_append]
    · rw [decide_eq_false f1]
      by_cases g : near n
      · rw [decide_eq_true g]
        simp (disch := (simp only [List.length_append, List.length_cons, List.length_nil]; omega)) only [qsome_s, qnth_s, List.getD_cons_zero, qstr_s, qbool_b, cond_true, cond_false, mkB, catOkB, catB]
        simp only [arT, if_neg f0, if_neg f1, if_pos g, List.append_assoc, List.cons_append, List.nil_append]
      · rw [decide_eq_false g]
        simp (disch := (simp only [List.length_append, List.length_cons, List.length_nil]; omega)) only [qsome_s, qnth_s, List.getD_cons_zero, qstr_s, qbool_b, cond_true, cond_false, mkB, catOkB, catB]
        simp only [arT, if_neg f0, if_neg f1, if_neg g, List.append_assoc, List.cons_append, List.nil_append]
def jmT (cc f : Int) (n j : Nat) : List UInt8 := (if cc = 0 then [106, 109, 112] else 106 :: ccT cc.toNat) ++ ((if f = 2 ∧ near j then [46, 119] else []) ++ ([32, 48, 120] ++ digs 16 n))
theorem spec33 {c : Int} (h : 0 ≤ c ∧ c ≤ 14) : q33 [.int c] = some [.str (bs (if c = 0 then [106, 109, 112] else 106 :: ccT c.toNat))] := by
  obtain ⟨k, rfl⟩ := Int.eq_ofNat_of_zero_le h.1
  have hk : k < ccL.length := by show _ < 15; omega
  rw [q33_eq, F33_eq, spec35, qcmp_eql]
  have cl := ccT_len k
  by_cases c0 : (k : Int) = 0
  · rw [decide_eq_true c0, if_pos c0]; rfl
  · rw [decide_eq_false c0, if_neg c0]
    simp only [qsome_s, qnth_s, List.getD_cons_zero, cond_true, cond_false, nameL_inb hk, nameL_get hk, qstr_s]
    rw [show ccL.getD k [] = ccT k from rfl]
    simp (disch := (simp only [List.length_append, List.length_cons, List.length_nil]; omega)) only [qsome_s, qnth_s, List.getD_cons_zero, qstr_s, qbool_b, cond_true, cond_false, mkB, catOkB, catB]
    rw [Int.toNat_natCast]; rfl
theorem spec24 {d : D} {n j : Nat} (hc : 0 ≤ qint (qfld d 5) ∧ qint (qfld d 5) ≤ 14) (hn : qint (qfld d 1) = n) (h2 : n < 4294967296) (hj : short d = j) (hj2 : j < 4294967296) : q24 [d] = some [.str (bs (jmT (qint (qfld d 5)) (qint (qfld d 3)) n j))] := by
  obtain ⟨k, hk⟩ := Int.eq_ofNat_of_zero_le hc.1
  have hj' : qbin .sub .u32 (qbin .sub .u32 (qint (qfld d 1)) (qint (qfld d 0))) 2 = (j : Int) := hj
  rw [q24_eq, F24_eq, hj', nearW j hj2, hn, spec25 n h2, hk, spec26 (by omega), qcmp_neq, qcmp_eql]
  have cl := ccT_len k
  have gl := hlen n h2
  by_cases c0 : (k : Int) = 0 <;> by_cases f2 : qint (qfld d 3) = 2 <;> by_cases g : near j
  all_goals
    simp only [c0, f2, g, decide_true, decide_false, Bool.not_true, Bool.not_false, qiteB_eq, qiteS_eq, show qand = fun a b => a && b from veil_eq _, Bool.true_and, Bool.and_true, jmT, and_true, and_false, true_and, false_and, if_true, if_false, Int.toNat_natCast]
    simp (disch := (simp only [List.length_append, List.length_cons, List.length_nil]; omega)) only [qsome_s, qnth_s, List.getD_cons_zero, qstr_s, qbool_b, cond_true, cond_false, mkB, catOkB, catB]
    first | rfl | simp only [Bool.and_self, cond_true, List.append_assoc, List.cons_append, List.nil_append]
end Go.Proofs.YtobhhfbdelnhfaaGreatDoor
namespace Go.Proofs.YtobhhfbdelnhfaaGreatDoor
set_option linter.unusedSimpArgs false
set_option linter.unusedVariables false
open Go Go.AM
noncomputable def PT (d : D) (n j : Nat) : List UInt8 :=
  if qint (qfld d 2) = 0 then [110, 111, 112] else if qint (qfld d 2) = 1 then [104, 97, 108, 116] else if qint (qfld d 2) = 2 then [114, 101, 116]
  else if qint (qfld d 2) = 3 then [112, 117, 115, 104, 32, 114] ++ [rg (qint (qfld d 6))] else if qint (qfld d 2) = 4 then [112, 111, 112, 32, 114] ++ [rg (qint (qfld d 6))]
  else if qint (qfld d 2) ≤ 15 then opT (qint (qfld d 2) - 5).toNat ++ arT (qint (qfld d 3)) (rg (qint (qfld d 6))) (rg (qint (qfld d 7))) n
  else if qint (qfld d 2) = 16 then [108, 111, 97, 100] ++ (digs 10 (qint (qfld d 4)).toNat ++ ([32, 114, rg (qint (qfld d 6)), 44, 32] ++ placeT (rg (qint (qfld d 7))) n))
  else if qint (qfld d 2) = 17 then [108, 111, 97, 100] ++ (digs 10 (qint (qfld d 4)).toNat ++ ([115, 32, 114, rg (qint (qfld d 6)), 44, 32] ++ placeT (rg (qint (qfld d 7))) n))
  else if qint (qfld d 2) = 18 then [115, 116, 111, 114, 101] ++ (digs 10 (qint (qfld d 4)).toNat ++ (32 :: (placeT (rg (qint (qfld d 7))) n ++ [44, 32, 114, rg (qint (qfld d 6))])))
  else if qint (qfld d 2) = 19 then [108, 101, 97, 32, 114] ++ ([rg (qint (qfld d 6)), 44, 32] ++ placeT (rg (qint (qfld d 7))) n)
  else if qint (qfld d 2) = 20 then jmT (qint (qfld d 5)) (qint (qfld d 3)) n j
  else if qint (qfld d 2) = 21 then [106, 117, 109, 112, 114, 32, 114] ++ [rg (qint (qfld d 6))]
  else if qint (qfld d 2) = 24 then [99, 97, 108, 108, 114, 32, 114] ++ [rg (qint (qfld d 6))]
  else if qint (qfld d 2) = 22 then [106, 117, 109, 112, 116, 32, 114] ++ ([rg (qint (qfld d 6)), 44, 32, 48, 120] ++ digs 16 n)
  else if qint (qfld d 2) = 23 then [99, 97, 108, 108, 32, 48, 120] ++ digs 16 n
  else if qint (qfld d 2) = 25 then [115, 101, 116] ++ (ccT (qint (qfld d 5)).toNat ++ [32, 114, rg (qint (qfld d 6))])
  else if qint (qfld d 2) = 26 then [105, 110, 32, 114] ++ [rg (qint (qfld d 6))]
  else [111, 117, 116, 32, 114] ++ [rg (qint (qfld d 6))]
theorem pl_def : D.list [(D.str (ByteArray.mk #[110, 111, 112])), (D.str (ByteArray.mk #[104, 97, 108, 116])), (D.str (ByteArray.mk #[114, 101, 116])), (D.str (ByteArray.mk #[112, 117, 115, 104, 32])), (D.str (ByteArray.mk #[112, 111, 112, 32]))] = nameL plL := rfl
theorem pl0 : qget (nameL plL) 0 = .str (bs [110, 111, 112]) ∧ qinb (nameL plL) 0 = true := ⟨nameL_get (l := plL) (k := 0) (by decide), nameL_inb (l := plL) (k := 0) (by decide)⟩
theorem pl1 : qget (nameL plL) 1 = .str (bs [104, 97, 108, 116]) ∧ qinb (nameL plL) 1 = true := ⟨nameL_get (l := plL) (k := 1) (by decide), nameL_inb (l := plL) (k := 1) (by decide)⟩
theorem pl2 : qget (nameL plL) 2 = .str (bs [114, 101, 116]) ∧ qinb (nameL plL) 2 = true := ⟨nameL_get (l := plL) (k := 2) (by decide), nameL_inb (l := plL) (k := 2) (by decide)⟩
theorem pl3 : qget (nameL plL) 3 = .str (bs [112, 117, 115, 104, 32]) ∧ qinb (nameL plL) 3 = true := ⟨nameL_get (l := plL) (k := 3) (by decide), nameL_inb (l := plL) (k := 3) (by decide)⟩
theorem pl4 : qget (nameL plL) 4 = .str (bs [112, 111, 112, 32]) ∧ qinb (nameL plL) 4 = true := ⟨nameL_get (l := plL) (k := 4) (by decide), nameL_inb (l := plL) (k := 4) (by decide)⟩
theorem print_spec {d : D} {n j : Nat} (hv : vld d = true) (hn : qint (qfld d 1) = n) (h2 : n < 4294967296) (hj : short d = j) (hj2 : j < 4294967296) :
    q8 [d] = some [.str (bs (PT d n j))] ∧ q9 [d] = some [.str (bs (PT d n j))] := by
  obtain ⟨s, hs, hA, hB, hI, hF, hW, hC, hA0, hB0, hN, hJ⟩ := vld_iff.1 hv
  rw [hn] at hI hN
  have hl := hlen n h2
  have hpl := placeT_len (rg (qint (qfld d 7))) n h2
  have ho28 : 0 ≤ qint (qfld d 2) ∧ qint (qfld d 2) ≤ 27 := by
    apply Classical.byContradiction
    intro hx
    unfold shp at hs
    rw [if_neg (by omega), if_neg (by omega), if_neg (by omega), if_neg (by omega), if_neg (by omega), if_neg (by omega), if_neg (by omega), if_neg (by omega), if_neg (by omega), if_neg (by omega), if_neg (by omega)] at hs
    cases hs
  rw [q8_eq, q9_eq, F8_eq, F9_eq, (valid_spec d).1, (valid_spec d).2.1, hv]
  by_cases h5 : 5 ≤ qint (qfld d 2) ∧ qint (qfld d 2) ≤ 15
  · have hnear : qint (qfld d 3) = 1 → near n := by
      intro f1
      have h4 : s = 4 := by
        unfold shp at hs
        rw [if_neg (by omega), if_neg (by omega), if_pos h5, if_neg (by omega), if_pos f1] at hs
        cases hs; rfl
      have := hN (.inl h4)
      unfold near; omega
    have e27 := spec27 h5 hA hB hn hnear h2
    have e28 := spec28 h5 hA hB hn h2
    have nk : ∀ k : Int, k < 5 ∨ 15 < k → decide (qint (qfld d 2) = k) = false := fun k hk => decide_eq_false (by omega)
    have PTe : PT d n j = opT (qint (qfld d 2) - 5).toNat ++ arT (qint (qfld d 3)) (rg (qint (qfld d 6))) (rg (qint (qfld d 7))) n := by
      unfold PT
      rw [if_neg (by omega), if_neg (by omega), if_neg (by omega), if_neg (by omega), if_neg (by omega), if_pos h5.2]
    rw [e27, e28, PTe]
    simp only [qcmp_eql, qcmp_geq, qcmp_leq, qiteB_c, qnot_c, qsome_s, qnth_s, List.getD_cons_zero, qbool_b, qstr_s, Bool.not_true, cond_true, cond_false, nk 0 (by omega), nk 1 (by omega), nk 2 (by omega), nk 3 (by omega), nk 4 (by omega), nk 16 (by omega), nk 17 (by omega), nk 18 (by omega), nk 19 (by omega), nk 20 (by omega), nk 21 (by omega), nk 22 (by omega), nk 23 (by omega), nk 24 (by omega), nk 25 (by omega), nk 26 (by omega), nk 27 (by omega), decide_eq_true h5.1, decide_eq_true h5.2]
    exact ⟨by trivial, by trivial⟩
  · have hoc : qint (qfld d 2) = 0 ∨ qint (qfld d 2) = 1 ∨ qint (qfld d 2) = 2 ∨ qint (qfld d 2) = 3 ∨ qint (qfld d 2) = 4 ∨ qint (qfld d 2) = 16 ∨ qint (qfld d 2) = 17 ∨ qint (qfld d 2) = 18 ∨ qint (qfld d 2) = 19 ∨ qint (qfld d 2) = 20 ∨ qint (qfld d 2) = 21 ∨ qint (qfld d 2) = 22 ∨ qint (qfld d 2) = 23 ∨ qint (qfld d 2) = 24 ∨ qint (qfld d 2) = 25 ∨ qint (qfld d 2) = 26 ∨ qint (qfld d 2) = 27 := by omega
    rcases hoc with ho | ho | ho | ho | ho | ho | ho | ho | ho | ho | ho | ho | ho | ho | ho | ho | ho
    · have PTe : PT d n j = [110, 111, 112] := by
        unfold PT
        simp only [ho, Int.reduceEq, Int.reduceLE, if_true, if_false]
      rw [PTe, pl_def]
      simp only [ho, qcmp_eql, qcmp_neq, qcmp_leq, qcmp_lss, qcmp_geq, qiteB_c, qnot_c, qsome_s, qnth_s, List.getD_cons_zero, qbool_b, Int.reduceEq, Int.reduceLE, Int.reduceLT, decide_true, decide_false, Bool.not_true, Bool.not_false, cond_true, cond_false]
      simp (disch := (simp only [List.length_append, List.length_cons, List.length_nil]; omega)) only [qsome_s, qnth_s, List.getD_cons_zero, qstr_s, qbool_b, cond_true, cond_false, mkB, catOkB, catB, pl0.1, pl0.2]
      first | exact ⟨rfl, rfl⟩ | simp only [List.append_assoc, List.cons_append, List.nil_append, and_self]
    · have PTe : PT d n j = [104, 97, 108, 116] := by
        unfold PT
        simp only [ho, Int.reduceEq, Int.reduceLE, if_true, if_false]
      rw [PTe, pl_def]
      simp only [ho, qcmp_eql, qcmp_neq, qcmp_leq, qcmp_lss, qcmp_geq, qiteB_c, qnot_c, qsome_s, qnth_s, List.getD_cons_zero, qbool_b, Int.reduceEq, Int.reduceLE, Int.reduceLT, decide_true, decide_false, Bool.not_true, Bool.not_false, cond_true, cond_false]
      simp (disch := (simp only [List.length_append, List.length_cons, List.length_nil]; omega)) only [qsome_s, qnth_s, List.getD_cons_zero, qstr_s, qbool_b, cond_true, cond_false, mkB, catOkB, catB, pl1.1, pl1.2]
      first | exact ⟨rfl, rfl⟩ | simp only [List.append_assoc, List.cons_append, List.nil_append, and_self]
    · have PTe : PT d n j = [114, 101, 116] := by
        unfold PT
        simp only [ho, Int.reduceEq, Int.reduceLE, if_true, if_false]
      rw [PTe, pl_def]
      simp only [ho, qcmp_eql, qcmp_neq, qcmp_leq, qcmp_lss, qcmp_geq, qiteB_c, qnot_c, qsome_s, qnth_s, List.getD_cons_zero, qbool_b, Int.reduceEq, Int.reduceLE, Int.reduceLT, decide_true, decide_false, Bool.not_true, Bool.not_false, cond_true, cond_false]
      simp (disch := (simp only [List.length_append, List.length_cons, List.length_nil]; omega)) only [qsome_s, qnth_s, List.getD_cons_zero, qstr_s, qbool_b, cond_true, cond_false, mkB, catOkB, catB, pl2.1, pl2.2]
      first | exact ⟨rfl, rfl⟩ | simp only [List.append_assoc, List.cons_append, List.nil_append, and_self]
    · have PTe : PT d n j = [112, 117, 115, 104, 32, 114] ++ [rg (qint (qfld d 6))] := by
        unfold PT
        simp only [ho, Int.reduceEq, Int.reduceLE, if_true, if_false]
      rw [PTe, pl_def]
      simp only [ho, qcmp_eql, qcmp_neq, qcmp_leq, qcmp_lss, qcmp_geq, qiteB_c, qnot_c, qsome_s, qnth_s, List.getD_cons_zero, qbool_b, Int.reduceEq, Int.reduceLE, Int.reduceLT, decide_true, decide_false, Bool.not_true, Bool.not_false, cond_true, cond_false]
      rw [spec21 hA, spec29 hA]
      simp (disch := (simp only [List.length_append, List.length_cons, List.length_nil]; omega)) only [qsome_s, qnth_s, List.getD_cons_zero, qstr_s, qbool_b, cond_true, cond_false, mkB, catOkB, catB, pl3.1, pl3.2]
      first | exact ⟨rfl, rfl⟩ | simp only [List.append_assoc, List.cons_append, List.nil_append, and_self]
    · have PTe : PT d n j = [112, 111, 112, 32, 114] ++ [rg (qint (qfld d 6))] := by
        unfold PT
        simp only [ho, Int.reduceEq, Int.reduceLE, if_true, if_false]
      rw [PTe, pl_def]
      simp only [ho, qcmp_eql, qcmp_neq, qcmp_leq, qcmp_lss, qcmp_geq, qiteB_c, qnot_c, qsome_s, qnth_s, List.getD_cons_zero, qbool_b, Int.reduceEq, Int.reduceLE, Int.reduceLT, decide_true, decide_false, Bool.not_true, Bool.not_false, cond_true, cond_false]
      rw [spec21 hA, spec29 hA]
      simp (disch := (simp only [List.length_append, List.length_cons, List.length_nil]; omega)) only [qsome_s, qnth_s, List.getD_cons_zero, qstr_s, qbool_b, cond_true, cond_false, mkB, catOkB, catB, pl4.1, pl4.2]
      first | exact ⟨rfl, rfl⟩ | simp only [List.append_assoc, List.cons_append, List.nil_append, and_self]
    · have h5 : s = 5 ∧ (qint (qfld d 4) = 1 ∨ qint (qfld d 4) = 2 ∨ qint (qfld d 4) = 4) := by
        unfold shp at hs
        rw [ho] at hs
        simp only [Int.reduceEq, Int.reduceLE, or_true, or_false, and_true, and_false, true_and, false_and, if_true, if_false, or_self] at hs
        split at hs
        · rename_i hw; cases hs; exact ⟨rfl, by omega⟩
        · cases hs
      have hnr : near n := by have := hN (.inr h5.1); unfold near; omega
      obtain ⟨w, hw⟩ := Int.eq_ofNat_of_zero_le (show 0 ≤ qint (qfld d 4) by omega)
      obtain ⟨b1, b2⟩ := bnd w (by omega)
      have dl := dlen w (by omega)
      have PTe : PT d n j = [108, 111, 97, 100] ++ (digs 10 (qint (qfld d 4)).toNat ++ ([32, 114, rg (qint (qfld d 6)), 44, 32] ++ placeT (rg (qint (qfld d 7))) n)) := by
        unfold PT
        simp only [ho, Int.reduceEq, Int.reduceLE, if_true, if_false]
      rw [PTe, pl_def, hw, Int.toNat_natCast]
      simp only [ho, b1, b2, qcmp_eql, qcmp_neq, qcmp_leq, qcmp_lss, qcmp_geq, qiteB_c, qnot_c, qsome_s, qnth_s, List.getD_cons_zero, qbool_b, Int.reduceEq, Int.reduceLE, Int.reduceLT, decide_true, decide_false, Bool.not_true, Bool.not_false, cond_true, cond_false]
      rw [w32 w (by omega), spec30 w (by omega), itoaN, spec21 hA, spec29 hA, spec23 hB hn hnr h2, spec31 hB hn hnr h2]
      simp (disch := (simp only [List.length_append, List.length_cons, List.length_nil]; omega)) only [qsome_s, qnth_s, List.getD_cons_zero, qstr_s, qbool_b, cond_true, cond_false, mkB, catOkB, catB]
      first | exact ⟨rfl, rfl⟩ | simp only [List.append_assoc, List.cons_append, List.nil_append, and_self]
    · have h5 : s = 5 ∧ (qint (qfld d 4) = 1 ∨ qint (qfld d 4) = 2) := by
        unfold shp at hs
        rw [ho] at hs
        simp only [Int.reduceEq, Int.reduceLE, or_true, or_false, and_true, and_false, true_and, false_and, if_true, if_false, or_self] at hs
        split at hs
        · rename_i hw; cases hs; exact ⟨rfl, by omega⟩
        · cases hs
      have hnr : near n := by have := hN (.inr h5.1); unfold near; omega
      obtain ⟨w, hw⟩ := Int.eq_ofNat_of_zero_le (show 0 ≤ qint (qfld d 4) by omega)
      obtain ⟨b1, b2⟩ := bnd w (by omega)
      have dl := dlen w (by omega)
      have PTe : PT d n j = [108, 111, 97, 100] ++ (digs 10 (qint (qfld d 4)).toNat ++ ([115, 32, 114, rg (qint (qfld d 6)), 44, 32] ++ placeT (rg (qint (qfld d 7))) n)) := by
        unfold PT
        simp only [ho, Int.reduceEq, Int.reduceLE, if_true, if_false]
      rw [PTe, pl_def, hw, Int.toNat_natCast]
      simp only [ho, b1, b2, qcmp_eql, qcmp_neq, qcmp_leq, qcmp_lss, qcmp_geq, qiteB_c, qnot_c, qsome_s, qnth_s, List.getD_cons_zero, qbool_b, Int.reduceEq, Int.reduceLE, Int.reduceLT, decide_true, decide_false, Bool.not_true, Bool.not_false, cond_true, cond_false]
      rw [w32 w (by omega), spec30 w (by omega), itoaN, spec21 hA, spec29 hA, spec23 hB hn hnr h2, spec31 hB hn hnr h2]
      simp (disch := (simp only [List.length_append, List.length_cons, List.length_nil]; omega)) only [qsome_s, qnth_s, List.getD_cons_zero, qstr_s, qbool_b, cond_true, cond_false, mkB, catOkB, catB]
      first | exact ⟨rfl, rfl⟩ | simp only [List.append_assoc, List.cons_append, List.nil_append, and_self]
    · have h5 : s = 5 ∧ (qint (qfld d 4) = 1 ∨ qint (qfld d 4) = 2 ∨ qint (qfld d 4) = 4) := by
        unfold shp at hs
        rw [ho] at hs
        simp only [Int.reduceEq, Int.reduceLE, or_true, or_false, and_true, and_false, true_and, false_and, if_true, if_false, or_self] at hs
        split at hs
        · rename_i hw; cases hs; exact ⟨rfl, by omega⟩
        · cases hs
      have hnr : near n := by have := hN (.inr h5.1); unfold near; omega
      obtain ⟨w, hw⟩ := Int.eq_ofNat_of_zero_le (show 0 ≤ qint (qfld d 4) by omega)
      obtain ⟨b1, b2⟩ := bnd w (by omega)
      have dl := dlen w (by omega)
      have PTe : PT d n j = [115, 116, 111, 114, 101] ++ (digs 10 (qint (qfld d 4)).toNat ++ (32 :: (placeT (rg (qint (qfld d 7))) n ++ [44, 32, 114, rg (qint (qfld d 6))]))) := by
        unfold PT
        simp only [ho, Int.reduceEq, Int.reduceLE, if_true, if_false]
      rw [PTe, pl_def, hw, Int.toNat_natCast]
      simp only [ho, b1, b2, qcmp_eql, qcmp_neq, qcmp_leq, qcmp_lss, qcmp_geq, qiteB_c, qnot_c, qsome_s, qnth_s, List.getD_cons_zero, qbool_b, Int.reduceEq, Int.reduceLE, Int.reduceLT, decide_true, decide_false, Bool.not_true, Bool.not_false, cond_true, cond_false]
      rw [w32 w (by omega), spec30 w (by omega), itoaN, spec21 hA, spec29 hA, spec23 hB hn hnr h2, spec31 hB hn hnr h2]
      simp (disch := (simp only [List.length_append, List.length_cons, List.length_nil]; omega)) only [qsome_s, qnth_s, List.getD_cons_zero, qstr_s, qbool_b, cond_true, cond_false, mkB, catOkB, catB]
      first | exact ⟨rfl, rfl⟩ | simp only [List.append_assoc, List.cons_append, List.nil_append, and_self]
    · have h5 : s = 5 ∧ True := by
        unfold shp at hs
        rw [ho] at hs
        simp only [Int.reduceEq, Int.reduceLE, or_true, or_false, and_true, and_false, true_and, false_and, if_true, if_false, or_self] at hs
        cases hs; exact ⟨rfl, trivial⟩
      have hnr : near n := by have := hN (.inr h5.1); unfold near; omega
      have PTe : PT d n j = [108, 101, 97, 32, 114] ++ ([rg (qint (qfld d 6)), 44, 32] ++ placeT (rg (qint (qfld d 7))) n) := by
        unfold PT
        simp only [ho, Int.reduceEq, Int.reduceLE, if_true, if_false]
      rw [PTe, pl_def]
      simp only [ho, qcmp_eql, qcmp_neq, qcmp_leq, qcmp_lss, qcmp_geq, qiteB_c, qnot_c, qsome_s, qnth_s, List.getD_cons_zero, qbool_b, Int.reduceEq, Int.reduceLE, Int.reduceLT, decide_true, decide_false, Bool.not_true, Bool.not_false, cond_true, cond_false]
      rw [spec21 hA, spec29 hA, spec23 hB hn hnr h2, spec31 hB hn hnr h2]
      simp (disch := (simp only [List.length_append, List.length_cons, List.length_nil]; omega)) only [qsome_s, qnth_s, List.getD_cons_zero, qstr_s, qbool_b, cond_true, cond_false, mkB, catOkB, catB]
      first | exact ⟨rfl, rfl⟩ | simp only [List.append_assoc, List.cons_append, List.nil_append, and_self]
    · have hcc : 0 ≤ qint (qfld d 5) ∧ qint (qfld d 5) ≤ 14 := by
        unfold shp at hs
        rw [ho] at hs
        simp only [Int.reduceEq, Int.reduceLE, or_true, or_false, and_true, and_false, true_and, false_and, if_true, if_false, or_self] at hs
        split at hs
        · assumption
        · cases hs
      have PTe : PT d n j = jmT (qint (qfld d 5)) (qint (qfld d 3)) n j := by
        unfold PT
        simp only [ho, Int.reduceEq, Int.reduceLE, if_true, if_false]
      have e24 := spec24 hcc hn h2 hj hj2
      rw [PTe]
      simp only [ho, qcmp_eql, qcmp_neq, qcmp_leq, qcmp_lss, qcmp_geq, qiteB_c, qnot_c, qsome_s, qnth_s, List.getD_cons_zero, qbool_b, Int.reduceEq, Int.reduceLE, Int.reduceLT, decide_true, decide_false, Bool.not_true, Bool.not_false, cond_true, cond_false]
      rw [e24, hn, spec34 n h2, spec33 hcc, show qbin .sub .u32 (qbin .sub .u32 (n : Int) (qint (qfld d 0))) 2 = (j : Int) by rw [← hn]; exact hj, spec32]
      simp only [qsome_s, qnth_s, List.getD_cons_zero, qbool_b, qstr_s, cond_true, cond_false]
      refine ⟨by trivial, ?_⟩
      have cl := ccT_len (qint (qfld d 5)).toNat
      unfold jmT
      by_cases c0 : qint (qfld d 5) = 0 <;> by_cases f2 : qint (qfld d 3) = 2 <;> by_cases g : near j
      all_goals
        simp only [c0, f2, g, decide_true, decide_false, cond_true, cond_false, and_true, and_false, true_and, false_and, if_true, if_false]
        simp (disch := (simp only [List.length_append, List.length_cons, List.length_nil]; omega)) only [qsome_s, qnth_s, List.getD_cons_zero, qstr_s, qbool_b, cond_true, cond_false, mkB, catOkB, catB]
        first | rfl | simp only [List.append_assoc, List.cons_append, List.nil_append]
    · have PTe : PT d n j = [106, 117, 109, 112, 114, 32, 114] ++ [rg (qint (qfld d 6))] := by
        unfold PT
        simp only [ho, Int.reduceEq, Int.reduceLE, if_true, if_false]
      rw [PTe, pl_def]
      simp only [ho, qcmp_eql, qcmp_neq, qcmp_leq, qcmp_lss, qcmp_geq, qiteB_c, qnot_c, qsome_s, qnth_s, List.getD_cons_zero, qbool_b, Int.reduceEq, Int.reduceLE, Int.reduceLT, decide_true, decide_false, Bool.not_true, Bool.not_false, cond_true, cond_false]
      rw [spec21 hA, spec29 hA]
      simp (disch := (simp only [List.length_append, List.length_cons, List.length_nil]; omega)) only [qsome_s, qnth_s, List.getD_cons_zero, qstr_s, qbool_b, cond_true, cond_false, mkB, catOkB, catB]
      first | exact ⟨rfl, rfl⟩ | simp only [List.append_assoc, List.cons_append, List.nil_append, and_self]
    · have PTe : PT d n j = [106, 117, 109, 112, 116, 32, 114] ++ ([rg (qint (qfld d 6)), 44, 32, 48, 120] ++ digs 16 n) := by
        unfold PT
        simp only [ho, Int.reduceEq, Int.reduceLE, if_true, if_false]
      rw [PTe, pl_def]
      simp only [ho, qcmp_eql, qcmp_neq, qcmp_leq, qcmp_lss, qcmp_geq, qiteB_c, qnot_c, qsome_s, qnth_s, List.getD_cons_zero, qbool_b, Int.reduceEq, Int.reduceLE, Int.reduceLT, decide_true, decide_false, Bool.not_true, Bool.not_false, cond_true, cond_false]
      rw [spec21 hA, spec29 hA, hn, spec25 n h2, spec34 n h2]
      simp (disch := (simp only [List.length_append, List.length_cons, List.length_nil]; omega)) only [qsome_s, qnth_s, List.getD_cons_zero, qstr_s, qbool_b, cond_true, cond_false, mkB, catOkB, catB]
      first | exact ⟨rfl, rfl⟩ | simp only [List.append_assoc, List.cons_append, List.nil_append, and_self]
    · have PTe : PT d n j = [99, 97, 108, 108, 32, 48, 120] ++ digs 16 n := by
        unfold PT
        simp only [ho, Int.reduceEq, Int.reduceLE, if_true, if_false]
      rw [PTe, pl_def]
      simp only [ho, qcmp_eql, qcmp_neq, qcmp_leq, qcmp_lss, qcmp_geq, qiteB_c, qnot_c, qsome_s, qnth_s, List.getD_cons_zero, qbool_b, Int.reduceEq, Int.reduceLE, Int.reduceLT, decide_true, decide_false, Bool.not_true, Bool.not_false, cond_true, cond_false]
      rw [hn, spec25 n h2, spec34 n h2]
      simp (disch := (simp only [List.length_append, List.length_cons, List.length_nil]; omega)) only [qsome_s, qnth_s, List.getD_cons_zero, qstr_s, qbool_b, cond_true, cond_false, mkB, catOkB, catB]
      first | exact ⟨rfl, rfl⟩ | simp only [List.append_assoc, List.cons_append, List.nil_append, and_self]
    · have PTe : PT d n j = [99, 97, 108, 108, 114, 32, 114] ++ [rg (qint (qfld d 6))] := by
        unfold PT
        simp only [ho, Int.reduceEq, Int.reduceLE, if_true, if_false]
      rw [PTe, pl_def]
      simp only [ho, qcmp_eql, qcmp_neq, qcmp_leq, qcmp_lss, qcmp_geq, qiteB_c, qnot_c, qsome_s, qnth_s, List.getD_cons_zero, qbool_b, Int.reduceEq, Int.reduceLE, Int.reduceLT, decide_true, decide_false, Bool.not_true, Bool.not_false, cond_true, cond_false]
      rw [spec21 hA, spec29 hA]
      simp (disch := (simp only [List.length_append, List.length_cons, List.length_nil]; omega)) only [qsome_s, qnth_s, List.getD_cons_zero, qstr_s, qbool_b, cond_true, cond_false, mkB, catOkB, catB]
      first | exact ⟨rfl, rfl⟩ | simp only [List.append_assoc, List.cons_append, List.nil_append, and_self]
    · have hcc : 0 ≤ qint (qfld d 5) ∧ qint (qfld d 5) ≤ 14 := by
        unfold shp at hs
        rw [ho] at hs
        simp only [Int.reduceEq, Int.reduceLE, or_true, or_false, and_true, and_false, true_and, false_and, if_true, if_false, or_self] at hs
        split at hs
        · assumption
        · cases hs
      obtain ⟨k, hk⟩ := Int.eq_ofNat_of_zero_le hcc.1
      have hkl : k < ccL.length := by show _ < 15; omega
      have cl := ccT_len k
      have PTe : PT d n j = [115, 101, 116] ++ (ccT (qint (qfld d 5)).toNat ++ [32, 114, rg (qint (qfld d 6))]) := by
        unfold PT
        simp only [ho, Int.reduceEq, Int.reduceLE, if_true, if_false]
      rw [PTe, pl_def, hk, Int.toNat_natCast]
      simp only [ho, qcmp_eql, qcmp_neq, qcmp_leq, qcmp_lss, qcmp_geq, qiteB_c, qnot_c, qsome_s, qnth_s, List.getD_cons_zero, qbool_b, Int.reduceEq, Int.reduceLE, Int.reduceLT, decide_true, decide_false, Bool.not_true, Bool.not_false, cond_true, cond_false]
      rw [spec26 (by omega), spec35, spec21 hA, spec29 hA]
      simp (disch := (simp only [List.length_append, List.length_cons, List.length_nil]; omega)) only [qsome_s, qnth_s, List.getD_cons_zero, qstr_s, qbool_b, cond_true, cond_false, mkB, catOkB, catB, nameL_inb hkl, nameL_get hkl, show ccL.getD k [] = ccT k from rfl]
      first | exact ⟨rfl, rfl⟩ | simp only [List.append_assoc, List.cons_append, List.nil_append, and_self]
    · have PTe : PT d n j = [105, 110, 32, 114] ++ [rg (qint (qfld d 6))] := by
        unfold PT
        simp only [ho, Int.reduceEq, Int.reduceLE, if_true, if_false]
      rw [PTe, pl_def]
      simp only [ho, qcmp_eql, qcmp_neq, qcmp_leq, qcmp_lss, qcmp_geq, qiteB_c, qnot_c, qsome_s, qnth_s, List.getD_cons_zero, qbool_b, Int.reduceEq, Int.reduceLE, Int.reduceLT, decide_true, decide_false, Bool.not_true, Bool.not_false, cond_true, cond_false]
      rw [spec21 hA, spec29 hA]
      simp (disch := (simp only [List.length_append, List.length_cons, List.length_nil]; omega)) only [qsome_s, qnth_s, List.getD_cons_zero, qstr_s, qbool_b, cond_true, cond_false, mkB, catOkB, catB]
      first | exact ⟨rfl, rfl⟩ | simp only [List.append_assoc, List.cons_append, List.nil_append, and_self]
    · have PTe : PT d n j = [111, 117, 116, 32, 114] ++ [rg (qint (qfld d 6))] := by
        unfold PT
        simp only [ho, Int.reduceEq, Int.reduceLE, if_true, if_false]
      rw [PTe, pl_def]
      simp only [ho, qcmp_eql, qcmp_neq, qcmp_leq, qcmp_lss, qcmp_geq, qiteB_c, qnot_c, qsome_s, qnth_s, List.getD_cons_zero, qbool_b, Int.reduceEq, Int.reduceLE, Int.reduceLT, decide_true, decide_false, Bool.not_true, Bool.not_false, cond_true, cond_false]
      rw [spec21 hA, spec29 hA]
      simp (disch := (simp only [List.length_append, List.length_cons, List.length_nil]; omega)) only [qsome_s, qnth_s, List.getD_cons_zero, qstr_s, qbool_b, cond_true, cond_false, mkB, catOkB, catB]
      first | exact ⟨rfl, rfl⟩ | simp only [List.append_assoc, List.cons_append, List.nil_append, and_self]
theorem short_nn (d : D) : ∃ j : Nat, short d = j ∧ j < 4294967296 := by
  have h1 : 0 ≤ short d ∧ short d < 4294967296 := by unfold short; rw [qbin_eq]; simp only [rbin, mU32]; omega
  obtain ⟨j, hj⟩ := Int.eq_ofNat_of_zero_le h1.1
  exact ⟨j, hj, by omega⟩
end Go.Proofs.YtobhhfbdelnhfaaGreatDoor
namespace Go.Proofs.YtobhhfbdelnhfaaGreatDoor
open Go Go.AM Go.RowKit
theorem hid {p : Prop} (h : p) : Hid p := h
def lineB (a t : ByteArray) : ByteArray := a ++ ⟨#[58, 32]⟩ ++ (if t = ByteArray.empty then ⟨#[63]⟩ else t) ++ ⟨#[10]⟩
def accL (adr txt : Nat → ByteArray) : Nat → List UInt8
  | 0 => []
  | k + 1 => accL adr txt k ++ (lineB (adr k) (txt k)).data.toList
theorem lineB_size {a t : ByteArray} (ha : a.size ≤ 1000) (ht : t.size ≤ 1000) : (lineB a t).size ≤ 2010 := by
  unfold lineB
  simp only [ByteArray.size_append]
  have h1 : (⟨#[58, 32]⟩ : ByteArray).size = 2 := rfl
  have h2 : (⟨#[10]⟩ : ByteArray).size = 1 := rfl
  have h3 : (⟨#[63]⟩ : ByteArray).size = 1 := rfl
  split <;> omega
theorem accL_len {adr txt : Nat → ByteArray} : ∀ k, (∀ j, j < k → (adr j).size ≤ 1000 ∧ (txt j).size ≤ 1000) → (accL adr txt k).length ≤ 2010 * k
  | 0, _ => by simp [accL]
  | k + 1, h => by
    have ih := accL_len k fun j hj => h j (by omega)
    have h1 := lineB_size (h k (by omega)).1 (h k (by omega)).2
    have h2 : (lineB (adr k) (txt k)).data.toList.length = (lineB (adr k) (txt k)).size := by rw [Array.length_toList]; rfl
    simp only [accL, List.length_append]
    omega
def rowI (v : Nat → Int) : List Value := [.int .u32 (v 0), .int .u32 (v 1), .int .i64 (v 2), .int .i64 (v 3), .int .i64 (v 4), .int .i64 (v 5), .int .i64 (v 6), .int .i64 (v 7), .int .i64 (v 8)]
set_option maxHeartbeats 4000000 in
set_option maxRecDepth 100000 in
theorem listing_walk (n off cap : Nat) (bk : Nat) (v : Nat → Nat → Int) (txt adr : Nat → ByteArray) (w : World)
    (hcap : n ≤ cap) (hbk : bk < w.heap.size) (hn : n ≤ 1000)
    (hrow : ∀ k, k < n → ∀ (j : Nat) u, (rowI (v k))[j]? = some u → w.cell? ⟨bk, off + k * 9 + j, none⟩ = some u)
    (hsz : ∀ k, k < n → (adr k).size ≤ 1000 ∧ (txt k).size ≤ 1000)
    (h8 : ∀ k, k < n → ∀ W, Below w.heap.size w W → Calls Tryz.prog 8 #[.agg (rowI (v k)).toArray] W fun e w' => e = .returned (.string (txt k)) ∧ Below W.heap.size W w')
    (h25 : ∀ k, k < n → ∀ W, Below w.heap.size w W → Calls Tryz.prog 25 #[.int .u32 (v k 0)] W fun e w' => e = .returned (.string (adr k)) ∧ Below W.heap.size W w') :
    Calls Tryz.prog 18 #[.slice (some ⟨bk, off, none⟩) n cap] w fun e w' => e = .returned (.string ⟨(accL adr txt n).toArray⟩) ∧ Below w.heap.size w w' := by
  have hlen : ∀ k, k ≤ n → (accL adr txt k).length ≤ 2010 * k := fun k hk => accL_len k fun j hj => hsz j (by omega)
  have h0 : Lib.IsBuilderF 72 5 w.heap.size w.heap.size (Lib.byteCells (accL adr txt 0)) (w.alloc (.cells #[.pointer none, .slice none 0 0] 72)) := Lib.IsBuilderF.of (Lib.fresh_isBuilder 72 5 w)
  have b0 : Below w.heap.size w (w.alloc (.cells #[.pointer none, .slice none 0 0] 72)) := (Below.refl _ w).alloc (Nat.le_refl _) _
  have H0 := hid h0
  have B0 := hid b0
  clear h0 b0
  go_enter Tryz.func18, Tryz.ntmps18
  go_wp2_with fail
  go_loopw [9] (fun i wr => ∃ k : Nat, k ≤ n ∧ i = .int .i64 k ∧ Hid (Lib.IsBuilderF 72 5 w.heap.size w.heap.size (Lib.byteCells (accL adr txt k)) wr) ∧ Hid (Below w.heap.size w wr)) (fun i _ => n - (intOf i).toNat)
  case atStart => exact ⟨0, Nat.zero_le _, rfl, H0, B0⟩
  case round =>
    obtain ⟨k, hk, rfl, HB, HW⟩ := hrel
    by_cases hkn : k < n
    · have hr := hrow k hkn
      have C8 := hid (h8 k hkn)
      have C25 := hid (h25 k hkn)
      have HS := hid (hsz k hkn)
      generalize v k = z at *
      have cell : ∀ (j : Nat) (u : Value), (rowI z)[j]? = some u → wr.cell? ⟨bk, off + k * 9 + j, none⟩ = some u := fun j u hj => (HW.out.cell (p := ⟨bk, off + k * 9 + j, none⟩) hbk).trans (hr j u hj)
      have d0 : wr.cell? ⟨bk, off + k * 9, none⟩ = some (.int .u32 (z 0)) := cell 0 _ rfl
      have d1 : wr.cell? ⟨bk, off + k * 9 + 1, none⟩ = some (.int .u32 (z 1)) := cell 1 _ rfl
      have d2 : wr.cell? ⟨bk, off + k * 9 + 2, none⟩ = some (.int .i64 (z 2)) := cell 2 _ rfl
      have d3 : wr.cell? ⟨bk, off + k * 9 + 3, none⟩ = some (.int .i64 (z 3)) := cell 3 _ rfl
      have d4 : wr.cell? ⟨bk, off + k * 9 + 4, none⟩ = some (.int .i64 (z 4)) := cell 4 _ rfl
      have d5 : wr.cell? ⟨bk, off + k * 9 + 5, none⟩ = some (.int .i64 (z 5)) := cell 5 _ rfl
      have d6 : wr.cell? ⟨bk, off + k * 9 + 6, none⟩ = some (.int .i64 (z 6)) := cell 6 _ rfl
      have d7 : wr.cell? ⟨bk, off + k * 9 + 7, none⟩ = some (.int .i64 (z 7)) := cell 7 _ rfl
      have d8 : wr.cell? ⟨bk, off + k * 9 + 8, none⟩ = some (.int .i64 (z 8)) := cell 8 _ rfl
      have hBw : w.heap.size ≤ wr.heap.size := HW.out.size
      clear cell hr h8 h25 hsz hrow
      go_wp2_with fail
      have hb1 : Below w.heap.size w (wr.alloc (.cells #[.int .u32 (z 0), .int .u32 (z 1), .int .i64 (z 2), .int .i64 (z 3), .int .i64 (z 4), .int .i64 (z 5), .int .i64 (z 6), .int .i64 (z 7), .int .i64 (z 8)] 24)) := HW.out.trans ((Below.refl _ wr).alloc hBw _)
      have hB1 := Lib.IsBuilderF.alloc HB.out (.cells #[.int .u32 (z 0), .int .u32 (z 1), .int .i64 (z 2), .int .i64 (z 3), .int .i64 (z 4), .int .i64 (z 5), .int .i64 (z 6), .int .i64 (z 7), .int .i64 (z 8)] 24)
      have e0 : (wr.alloc (.cells #[.int .u32 (z 0), .int .u32 (z 1), .int .i64 (z 2), .int .i64 (z 3), .int .i64 (z 4), .int .i64 (z 5), .int .i64 (z 6), .int .i64 (z 7), .int .i64 (z 8)] 24)).cell? ⟨wr.heap.size, 0, none⟩ = some (.int .u32 (z 0)) := by rw [Lib.cell_of_heap (heap_alloc_new wr _)]; rfl
      have hl1 : wr.heap.size < (wr.alloc (.cells #[.int .u32 (z 0), .int .u32 (z 1), .int .i64 (z 2), .int .i64 (z 3), .int .i64 (z 4), .int .i64 (z 5), .int .i64 (z 6), .int .i64 (z 7), .int .i64 (z 8)] 24)).heap.size := by
        show wr.heap.size < (wr.heap.push _).size
        rw [Array.size_push]; exact Nat.lt_succ_self _
      refine (C8.out _ hb1).mono ?_
      rintro e w2 ⟨rfl, hb2⟩
      have e2 := (hb2.cell (p := ⟨wr.heap.size, 0, none⟩) hl1).trans e0
      have H2 := hid (hB1.below hb2)
      have HB2 := hid (Below.trans hb1 (Below.mono hb2 (Below.size hb1)))
      clear hb1 hB1 e0 hl1 hb2 d0 d1 d2 d3 d4 d5 d6 d7 d8
      have hx : ∃ x : ByteArray, x = (if txt k = ByteArray.empty then ⟨#[63]⟩ else txt k) := ⟨_, rfl⟩
      obtain ⟨x, hx⟩ := hx
      have Hx := hid hx
      have fin : ∀ (s : ByteArray) (w3 w4 : World), s = adr k ++ ⟨#[58, 32]⟩ ++ x ++ ⟨#[10]⟩ → Lib.BuilderAtF 72 5 w.heap.size w.heap.size (.pointer (some ⟨w.heap.size, 0, none⟩)) (Lib.byteCells (accL adr txt k) ++ Lib.strCells s) w4 →
          Lib.IsBuilderF 72 5 w.heap.size w.heap.size (Lib.byteCells (accL adr txt (k + 1))) w4 := by
        intro s w3 w4 hs h4
        have e : Lib.byteCells (accL adr txt k) ++ Lib.strCells s = Lib.byteCells (accL adr txt (k + 1)) := by
          rw [Lib.strCells_eq, ← Lib.byteCells_append]
          simp only [accL, lineB]
          rw [← Hx.out, hs]
        rw [e] at h4
        exact .inr h4
      have Fin := hid fin
      have hls : (Lib.byteCells (accL adr txt k)).length + (adr k ++ ⟨#[58, 32]⟩ ++ x ++ ⟨#[10]⟩).size ≤ 140737488355328 := by
        have h1 := hlen k (by omega)
        have h2 := lineB_size HS.out.1 HS.out.2
        unfold lineB at h2
        rw [← Hx.out] at h2
        rw [Lib.byteCells_length]
        omega
      have Hls := hid hls
      clear fin hls hx
      have hem : x = if (txt k).toList.isEmpty then ⟨#[63]⟩ else txt k := by
        rw [Hx.out]
        have : ((txt k).toList.isEmpty = true) ↔ txt k = ByteArray.empty := by
          rw [List.isEmpty_iff, ByteArray.toList_eq]
          constructor
          · intro h
            apply ByteArray.ext
            apply Array.toList_inj.1
            rw [h]; rfl
          · intro h; rw [h]; rfl
        by_cases h : txt k = ByteArray.empty
        · rw [if_pos h, if_pos (this.2 h)]
        · rw [if_neg h, if_neg (fun h' => h (this.1 h'))]
      cases hE : (txt k).toList.isEmpty <;> rw [hE] at hem <;> simp only [Bool.false_eq_true, if_false, if_true] at hem <;> subst hem
      all_goals (
        go_wp2_with fail
        refine (C25.out w2 HB2.out).mono ?_
        rintro e w3 ⟨rfl, hb3⟩
        have H3 := hid (H2.out.below hb3)
        have HB3 := hid (Below.trans HB2.out (Below.mono hb3 (Below.size HB2.out)))
        have hBw3 : w.heap.size ≤ w3.heap.size := HB3.out.size
        clear hb3
        have hs1 := HS.out.1
        have hs2 := HS.out.2
        go_wp2_with fail
        all_goals first | (exfalso; omega) | skip
        refine (Tryz.Builder_WriteString_f w.heap.size w.heap.size _ _ w3 H3.out Hls.out hBw3).mono ?_
        rintro e w4 ⟨rfl, h4, hb4⟩
        have H4 := hid (Fin.out _ w3 w4 rfl h4)
        have Hb4 := hid (HB3.out.trans hb4)
        clear h4 hb4
        go_wp2
        exact ⟨⟨k + 1, by omega, by go_num, H4, Hb4⟩, by simp [intOf]; omega⟩)
    · have hke : k = n := by omega
      subst hke
      have hBw : w.heap.size ≤ wr.heap.size := HW.out.size
      go_wp2_with fail
      refine (Tryz.Builder_String_f w.heap.size w.heap.size _ wr HB.out hBw).mono ?_
      rintro e w5 ⟨rfl, hb5⟩
      have Hb5 := hid (HW.out.trans hb5)
      clear hb5
      go_wp2
      go_ret
      exact ⟨rfl, Hb5.out⟩
end Go.Proofs.YtobhhfbdelnhfaaGreatDoor
namespace Go.Proofs.YtobhhfbdelnhfaaGreatDoor
open Go Go.AM Go.RowKit
set_option maxHeartbeats 4000000 in
set_option maxRecDepth 100000 in
theorem listing_walk0 (a : Option Addr) (cap : Nat) (w : World) :
    Calls Tryz.prog 18 #[.slice a 0 cap] w fun e w' => e = .returned (.string ⟨([] : List UInt8).toArray⟩) ∧ Below w.heap.size w w' := by
  have h0 : Lib.IsBuilderF 72 5 w.heap.size w.heap.size (Lib.byteCells []) (w.alloc (.cells #[.pointer none, .slice none 0 0] 72)) := Lib.IsBuilderF.of (Lib.fresh_isBuilder 72 5 w)
  have b0 : Below w.heap.size w (w.alloc (.cells #[.pointer none, .slice none 0 0] 72)) := (Below.refl _ w).alloc (Nat.le_refl _) _
  have H0 := hid h0
  have B0 := hid b0
  clear h0 b0
  go_enter Tryz.func18, Tryz.ntmps18
  go_wp2_with fail
  go_loopw [9] (fun i wr => i = .int .i64 0 ∧ Hid (Lib.IsBuilderF 72 5 w.heap.size w.heap.size (Lib.byteCells []) wr) ∧ Hid (Below w.heap.size w wr)) (fun _ _ => 0)
  case atStart => exact ⟨rfl, H0, B0⟩
  case round =>
    obtain ⟨rfl, HB, HW⟩ := hrel
    have hBw : w.heap.size ≤ wr.heap.size := HW.out.size
    go_wp2_with fail
    refine (Tryz.Builder_String_f w.heap.size w.heap.size _ wr HB.out hBw).mono ?_
    rintro e w5 ⟨rfl, hb5⟩
    have Hb5 := hid (HW.out.trans hb5)
    clear hb5
    go_wp2
    go_ret
    exact ⟨rfl, Hb5.out⟩
theorem cells24 (x : D) : cellsT rowDepth 24 x = [.ui .u32 (qint (qfld x 0)), .ui .u32 (qint (qfld x 1)), .ui .i64 (qint (qfld x 2)), .ui .i64 (qint (qfld x 3)), .ui .i64 (qint (qfld x 4)), .ui .i64 (qint (qfld x 5)), .ui .i64 (qint (qfld x 6)), .ui .i64 (qint (qfld x 7)), .ui .i64 (qint (qfld x 8))] := by kernel_rfl
theorem lay24 : layOk PG rowDepth 24 = true := by kernel_rfl
theorem size24 : PG.cellsOf 24 = 9 := by kernel_rfl
theorem row_of {E : Nat → Prop} {w : World} {x : D} {row : List Value} (h : RepD PG E w 24 x row) : row = rowI (fun j => qint (qfld x j)) := by
  have := cellsT_rep (ρ := nowhere) rowDepth 24 x row lay24 h
  rw [cells24] at this
  simp only [RepL, Rep] at this
  obtain ⟨_, _, rfl, rfl, _, _, rfl, rfl, _, _, rfl, rfl, _, _, rfl, rfl, _, _, rfl, rfl, _, _, rfl, rfl, _, _, rfl, rfl, _, _, rfl, rfl, _, _, rfl, rfl, rfl⟩ := this
  rfl
theorem inv_at {lo : Nat → Prop} {w0 : World} {ρ : Nat → Option Nat} {E : Nat → Prop} {gl : Bool} {w W : World} (inv : Inv lo w0 ρ E ⟨0, [], gl⟩ w) (hb : Below w.heap.size w W) :
    Inv (fun b => b < W.heap.size) W nowhere E ⟨0, [], gl⟩ W ∧ Ext nowhere E w nowhere E W := by
  have ext : Ext nowhere E w nowhere E W := Ext.grow (fun _ _ h => h) (fun _ h => h) (fun _ _ h => nomatch h) inv.ebd (fun b hb' => hb.block b hb') hb.size
  exact ⟨{ len := rfl, dom := fun _ _ h => (nomatch h), blk := fun _ _ _ _ h => (nomatch h), inj := fun _ _ _ _ _ _ _ h => (nomatch h), notE := fun _ _ _ _ h => (nomatch h), bd := fun _ _ h => (nomatch h)
           ebd := fun b hE => Nat.lt_of_lt_of_le (inv.ebd b hE) hb.size, lole := fun _ h => h, old := fun _ _ => rfl, io := ⟨rfl, rfl, rfl⟩, gl := gl_mono (ρ := nowhere) rfl ext inv.gl }, ext⟩
theorem sound8 : SoundF env.P 8 S8 q8 := by rw [q8_eq]; exact liftX_sound envOk ok_tb27 60 12
theorem sound25 : SoundF env.P 25 S25 q25 := by rw [q25_eq]; exact liftX_sound envOk ok_tb56 9 12
noncomputable def txtD (x : D) : ByteArray := qstr (qnth (q8 [x]) 0)
noncomputable def adrD (x : D) : ByteArray := qstr (qnth (q25 [.int (qint (qfld x 0))]) 0)
structure LsOk (x : D) : Prop where
  t : q8 [x] = some [.str (txtD x)]
  ts : (txtD x).size ≤ 1000
  a : q25 [.int (qint (qfld x 0))] = some [.str (adrD x)]
  az : (adrD x).size ≤ 1000
noncomputable def lsT (d : D) : ByteArray := ⟨(accL (fun k => adrD (qget d (k : Int))) (fun k => txtD (qget d (k : Int))) d.toList.length).toArray⟩
open Classical in
noncomputable def F18 (ds : List D) : Option (List D) := if (ds.headD .other).toList.length ≤ 1000 ∧ ∀ x ∈ (ds.headD .other).toList, LsOk x then some [.str (lsT (ds.headD .other))] else none
def S18 : FunS := ⟨[⟨true, .rows 24⟩], [], [⟨true, .str⟩], []⟩
theorem call8 {E : Nat → Prop} {gl : Bool} {lo : Nat → Prop} {w0 : World} {ρ : Nat → Option Nat} {w : World} (inv : Inv lo w0 ρ E ⟨0, [], gl⟩ w) (hgl : gl = true) {x : D} (hx : RepD PG E w 24 x (rowI (fun j => qint (qfld x j)))) (ok : LsOk x) (W : World) (hb : Below w.heap.size w W) :
    Calls Tryz.prog 8 #[.agg (rowI (fun j => qint (qfld x j))).toArray] W fun e w' => e = .returned (.string (txtD x)) ∧ Below W.heap.size W w' := by
  subst hgl
  obtain ⟨inv', ext⟩ := inv_at inv hb
  refine (sound8 [] [x] [.str (txtD x)] rfl ok.t _ _ _ _ W _ inv' (RepL.cons ?_ RepL.nil)).mono ?_
  · show Rep nowhere E W (.dat 24 x) _
    simp only [Rep]
    exact ⟨_, rfl, lay24, RepD.mono ext hx⟩
  · rintro e w' ⟨u, ρ', E', rfl, inv'', reach, rep⟩
    have hr : resF S8 [] (bdL [.str (txtD x)]) = .us (txtD x) := rfl
    rw [hr] at rep
    simp only [Rep] at rep
    subst rep
    exact ⟨rfl, inv''.io.1, inv''.io.2.1, inv''.io.2.2, reach.size, inv''.old⟩
theorem call25 {E : Nat → Prop} {gl : Bool} {lo : Nat → Prop} {w0 : World} {ρ : Nat → Option Nat} {w : World} (inv : Inv lo w0 ρ E ⟨0, [], gl⟩ w) (hgl : gl = true) {x : D} (ok : LsOk x) (W : World) (hb : Below w.heap.size w W) :
    Calls Tryz.prog 25 #[.int .u32 (qint (qfld x 0))] W fun e w' => e = .returned (.string (adrD x)) ∧ Below W.heap.size W w' := by
  subst hgl
  obtain ⟨inv', ext⟩ := inv_at inv hb
  refine (sound25 [] [.int (qint (qfld x 0))] [.str (adrD x)] rfl ok.a _ _ _ _ W _ inv' (RepL.cons ?_ RepL.nil)).mono ?_
  · show Rep nowhere E W (.ui .u32 (qint (qfld x 0))) _
    simp only [Rep]
  · rintro e w' ⟨u, ρ', E', rfl, inv'', reach, rep⟩
    have hr : resF S25 [] (bdL [.str (adrD x)]) = .us (adrD x) := rfl
    rw [hr] at rep
    simp only [Rep] at rep
    subst rep
    exact ⟨rfl, inv''.io.1, inv''.io.2.1, inv''.io.2.2, reach.size, inv''.old⟩
noncomputable def q18 : List D → Option (List D) := veil F18
theorem q18_eq : q18 = F18 := veil_eq _
theorem sound18 : SoundF env.P 18 S18 q18 := by
  intro p s r hp hq
  obtain rfl : p = [] := List.length_eq_zero_iff.1 hp
  rw [q18_eq] at hq
  unfold F18 at hq
  rw [List.nil_append] at hq
  have ha : argF S18 [] s = [.rows 24 (s.headD .other)] := by cases s <;> rfl
  have hh : heapF S18 [] s = ⟨0, [], true⟩ := rfl
  have hh' : heapR S18 [] (bdL r) = ⟨0, [], true⟩ := rfl
  split at hq
  case isFalse => cases hq
  case isTrue hc =>
    obtain ⟨hl, hok⟩ := hc
    cases hq
    have hr : resF S18 [] (bdL [.str (lsT (s.headD .other))]) = .us (lsT (s.headD .other)) := rfl
    rw [ha, hh, hh', hr]
    generalize s.headD .other = d at *
    refine ok_of_belowV fun lo w0 ρ E w vs inv ra => ?_
    obtain ⟨vl⟩ := vs
    obtain ⟨v, vl', rfl, rv, hn⟩ : ∃ v vs', vl = v :: vs' ∧ Rep ρ E w (AV.rows 24 d) v ∧ vs' = [] := by simpa only [RepL] using ra
    subst hn
    simp only [Rep] at rv
    obtain ⟨a, cap, rfl, hcap, hx⟩ := rv
    have fin : ∀ {l : List UInt8}, lsT d = ⟨l.toArray⟩ → Calls Tryz.prog 18 #[.slice a d.toList.length cap] w (fun e w' => e = .returned (.string ⟨l.toArray⟩) ∧ Below w.heap.size w w') →
        Calls env.P 18 #[.slice a d.toList.length cap] w fun e w' => ∃ x, e = .returned x ∧ Below w.heap.size w w' ∧ Rep ρ (fun b => E b ∨ (w.heap.size ≤ b ∧ b < w'.heap.size)) w' (.us (lsT d)) x := fun hT h => h.mono fun e w' ⟨he, hb⟩ => ⟨_, he, hb, by simp only [Rep]; rw [hT]⟩
    rcases hx with hx | ⟨b, off, rfl, hE, hrows⟩
    · have hT : lsT d = ⟨([] : List UInt8).toArray⟩ := by unfold lsT; rw [hx]; rfl
      refine fin hT ?_
      rw [hx]
      exact listing_walk0 a cap w
    · refine fin rfl ?_
      have hrow : ∀ k, k < d.toList.length → RepD PG E w 24 (qget d (k : Int)) (rowI (fun j => qint (qfld (qget d (k : Int)) j))) ∧ ∀ (j : Nat) u, (rowI (fun j => qint (qfld (qget d (k : Int)) j)))[j]? = some u → w.cell? ⟨b, off + k * 9 + j, none⟩ = some u := fun k hk => by
        have hg : qget d (k : Int) = d.toList[k] := by rw [qget_n, getD_lt hk]
        obtain ⟨row, h1, h2, h3⟩ := hrows k d.toList[k] (List.getElem?_eq_getElem hk)
        rw [← hg] at h3
        rw [size24] at h2
        have e := row_of h3
        rw [e] at h2 h3
        exact ⟨h3, h2⟩
      have hLs : ∀ k, k < d.toList.length → LsOk (qget d (k : Int)) := fun k hk => by
        have hg : qget d (k : Int) = d.toList[k] := by rw [qget_n, getD_lt hk]
        rw [hg]; exact hok _ (List.getElem_mem hk)
      exact listing_walk d.toList.length off cap b (fun k j => qint (qfld (qget d (k : Int)) j)) (fun k => txtD (qget d (k : Int))) (fun k => adrD (qget d (k : Int))) w hcap (inv.ebd b hE) hl
        (fun k hk => (hrow k hk).2) (fun k hk => ⟨(hLs k hk).az, (hLs k hk).ts⟩)
        (fun k hk W hb => call8 inv rfl (hrow k hk).1 (hLs k hk) W hb) (fun k hk W hb => call25 inv rfl (hLs k hk) W hb)
noncomputable def tb18 : Tb := Tb.addF tb9 18 S18 q18
theorem ok_tb18 : TbOk env tb18 := TbOk.addF ok_tb9 (by kernel_rfl) sound18
end Go.Proofs.YtobhhfbdelnhfaaGreatDoor
open Go Go.AM
namespace Go.Proofs.YtobhhfbdelnhfaaGreatDoor
set_option maxRecDepth 100000
set_option linter.unusedSimpArgs false
set_option linter.unusedVariables false
def S19_3 : LoopS := ⟨0, [⟨false, (.rows 24)⟩, ⟨false, .any⟩, ⟨false, .str⟩, ⟨true, .str⟩, ⟨true, (.int .i64)⟩, ⟨false, .any⟩, ⟨false, .any⟩, ⟨false, .any⟩, ⟨false, .any⟩, ⟨false, .any⟩, ⟨false, .any⟩, ⟨false, .any⟩, ⟨false, .any⟩, ⟨false, .any⟩, ⟨false, .any⟩, ⟨false, .any⟩, ⟨false, .any⟩, ⟨false, .any⟩, ⟨false, .any⟩, ⟨false, .any⟩, ⟨false, .any⟩, ⟨false, .any⟩, ⟨false, .any⟩, ⟨false, .any⟩, ⟨false, .any⟩, ⟨false, .any⟩, ⟨false, .any⟩, ⟨false, .any⟩, ⟨false, .any⟩, ⟨false, .any⟩, ⟨false, .any⟩, ⟨false, .any⟩], [], [⟨0, 0, [⟨false, (.rows 24)⟩, ⟨true, .any⟩, ⟨false, .str⟩, ⟨true, .str⟩, ⟨true, .any⟩, ⟨true, .any⟩, ⟨true, .any⟩, ⟨true, .any⟩, ⟨true, .any⟩, ⟨true, .any⟩, ⟨true, .any⟩, ⟨true, .any⟩, ⟨true, .any⟩, ⟨true, .any⟩, ⟨true, .any⟩, ⟨true, .any⟩, ⟨true, .any⟩, ⟨true, .any⟩, ⟨true, .any⟩, ⟨true, .any⟩, ⟨true, .any⟩, ⟨true, .any⟩, ⟨true, .any⟩, ⟨true, .any⟩, ⟨true, .any⟩, ⟨true, .any⟩, ⟨true, .any⟩, ⟨true, .any⟩, ⟨true, .any⟩, ⟨true, .any⟩, ⟨true, .any⟩, ⟨true, .any⟩], []⟩]⟩
noncomputable def st19_3 (p s : List D) : Option (Sum (List D) (List D)) := stepQX env tb18 60 12 19 (loopC 19 3) S19_3 p s
theorem st19_3_eq (pd0 : D) (ps1 : ByteArray) (ss0 : ByteArray) (sn1 : Int) : st19_3  [pd0, (D.str ps1)] [(D.str ss0), (D.int sn1)] =
    bif (qcmp BinOp.lss sn1 (qlen pd0)) then
    bif (qinb pd0 sn1) then
    bif (qsome (q9 [(qget pd0 sn1)])) then
    bif (qinb pd0 sn1) then
    bif (qsome (q34 [(D.int (qint (qfld (qget pd0 sn1) 0)))])) then
    bif (qcatOk ss0 (qstr (qnth (q34 [(D.int (qint (qfld (qget pd0 sn1) 0)))]) 0))) then
    bif (qcatOk (qcat ss0 (qstr (qnth (q34 [(D.int (qint (qfld (qget pd0 sn1) 0)))]) 0))) (ByteArray.mk #[58, 32])) then
    bif (qcatOk (qcat (qcat ss0 (qstr (qnth (q34 [(D.int (qint (qfld (qget pd0 sn1) 0)))]) 0))) (ByteArray.mk #[58, 32])) (qiteS (qcmpS BinOp.eql (qstr (qnth (q9 [(qget pd0 sn1)]) 0)) (ByteArray.mk #[])) (ByteArray.mk #[63]) (qstr (qnth (q9 [(qget pd0 sn1)]) 0)))) then
    bif (qcatOk (qcat (qcat (qcat ss0 (qstr (qnth (q34 [(D.int (qint (qfld (qget pd0 sn1) 0)))]) 0))) (ByteArray.mk #[58, 32])) (qiteS (qcmpS BinOp.eql (qstr (qnth (q9 [(qget pd0 sn1)]) 0)) (ByteArray.mk #[])) (ByteArray.mk #[63]) (qstr (qnth (q9 [(qget pd0 sn1)]) 0)))) (ByteArray.mk #[10])) then
    some (Sum.inl [(D.str (qcat (qcat (qcat (qcat ss0 (qstr (qnth (q34 [(D.int (qint (qfld (qget pd0 sn1) 0)))]) 0))) (ByteArray.mk #[58, 32])) (qiteS (qcmpS BinOp.eql (qstr (qnth (q9 [(qget pd0 sn1)]) 0)) (ByteArray.mk #[])) (ByteArray.mk #[63]) (qstr (qnth (q9 [(qget pd0 sn1)]) 0)))) (ByteArray.mk #[10]))), (D.int (qbin BinOp.add IntKind.i64 sn1 1))])
    else
    none
    else
    none
    else
    none
    else
    none
    else
    none
    else
    none
    else
    none
    else
    none
    else
    some (Sum.inr [(D.int 0), (D.str ss0)]) := by
  have h : st19_3  [pd0, (D.str ps1)] [(D.str ss0), (D.int sn1)] =
    bif (qcmp BinOp.lss sn1 (qlen pd0)) then
    bif (qinb pd0 sn1) then
    bif (qsome (q9 [(qget pd0 sn1)])) then
    bif (qinb pd0 sn1) then
    bif (qsome (q34 [(D.int (qint (qfld (qget pd0 sn1) 0)))])) then
    bif (qcatOk ss0 (qstr (qnth (q34 [(D.int (qint (qfld (qget pd0 sn1) 0)))]) 0))) then
    bif (qcatOk (qcat ss0 (qstr (qnth (q34 [(D.int (qint (qfld (qget pd0 sn1) 0)))]) 0))) (ByteArray.mk #[58, 32])) then
    bif (qcatOk (qcat (qcat ss0 (qstr (qnth (q34 [(D.int (qint (qfld (qget pd0 sn1) 0)))]) 0))) (ByteArray.mk #[58, 32])) (qiteS (qcmpS BinOp.eql (qstr (qnth (q9 [(qget pd0 sn1)]) 0)) (ByteArray.mk #[])) (ByteArray.mk #[63]) (qstr (qnth (q9 [(qget pd0 sn1)]) 0)))) then
    bif (qcatOk (qcat (qcat (qcat ss0 (qstr (qnth (q34 [(D.int (qint (qfld (qget pd0 sn1) 0)))]) 0))) (ByteArray.mk #[58, 32])) (qiteS (qcmpS BinOp.eql (qstr (qnth (q9 [(qget pd0 sn1)]) 0)) (ByteArray.mk #[])) (ByteArray.mk #[63]) (qstr (qnth (q9 [(qget pd0 sn1)]) 0)))) (ByteArray.mk #[10])) then
    bif (qeqD pd0 pd0) then
    bif (qeqD (D.str ps1) (D.str ps1)) then
    some (Sum.inl [(D.str (qcat (qcat (qcat (qcat ss0 (qstr (qnth (q34 [(D.int (qint (qfld (qget pd0 sn1) 0)))]) 0))) (ByteArray.mk #[58, 32])) (qiteS (qcmpS BinOp.eql (qstr (qnth (q9 [(qget pd0 sn1)]) 0)) (ByteArray.mk #[])) (ByteArray.mk #[63]) (qstr (qnth (q9 [(qget pd0 sn1)]) 0)))) (ByteArray.mk #[10]))), (D.int (qbin BinOp.add IntKind.i64 sn1 1))])
    else
    none
    else
    none
    else
    none
    else
    none
    else
    none
    else
    none
    else
    none
    else
    none
    else
    none
    else
    none
    else
    bif (qeqD pd0 pd0) then
    bif (qeqD (D.str ps1) (D.str ps1)) then
    some (Sum.inr [(D.int 0), (D.str ss0)])
    else
    none
    else
    none := by kernel_rfl
  rw [h]; simp only [qeqD_self, qeqI_self, qeq_len, show qcmp BinOp.eql 0 (qlen (D.list [])) = true from qeq_len [], show ∀ a, qcmp BinOp.eql 1 (qlen (D.list [a])) = true from fun a => qeq_len [a], show ∀ a b, qcmp BinOp.eql 2 (qlen (D.list [a, b])) = true from fun a b => qeq_len [a, b], show ∀ a b c, qcmp BinOp.eql 3 (qlen (D.list [a, b, c])) = true from fun a b c => qeq_len [a, b, c], show ∀ a b c d, qcmp BinOp.eql 4 (qlen (D.list [a, b, c, d])) = true from fun a b c d => qeq_len [a, b, c, d], cond_true]
noncomputable def l19_3 : List D → List D → Option (List D) := veil fun p s => loW (st19_3  p) s
theorem l19_3_eq : l19_3  = fun p s => loW (st19_3  p) s := veil_eq _
noncomputable def tbl19_3 : Tb := Tb.addL tb18 19 3 S19_3.n0 (mkLp S19_3 (l19_3 ))
theorem ok_tbl19_3 : TbOk env (tbl19_3 ) := addLoopQ ok_tb18 19 3 (by kernel_rfl) _ (l19_3_eq )
def S19 : FunS := ⟨[⟨true, (.rows 24)⟩], [], [⟨true, .str⟩], []⟩
noncomputable def F19 : List D → Option (List D) := liftX env tbl19_3 60 12 19 S19
theorem F19_eq  (sd0 : D) : F19  [sd0] =
    bif (qsome (l19_3 [sd0, (D.str (ByteArray.mk #[]))] [(D.str (ByteArray.mk #[])), (D.int 0)])) then
    some [(D.str (qstr (qnth (l19_3 [sd0, (D.str (ByteArray.mk #[]))] [(D.str (ByteArray.mk #[])), (D.int 0)]) 1)))]
    else
    none := by kernel_rfl
noncomputable def q19 : List D → Option (List D) := veil (F19 )
theorem q19_eq : q19  = F19  := veil_eq _
noncomputable def tb19 : Tb := Tb.addF tbl19_3 19 S19 (q19 )
theorem ok_tb19 : TbOk env (tb19 ) := addFunF ok_tbl19_3 19 (by kernel_rfl) _ (q19_eq )
end Go.Proofs.YtobhhfbdelnhfaaGreatDoor
open Go Go.AM
namespace Go.Proofs.YtobhhfbdelnhfaaGreatDoor
set_option maxRecDepth 100000
set_option linter.unusedSimpArgs false
set_option linter.unusedVariables false
noncomputable def tb10l : Tb := Tb.addF tb19 10 S10 q10
theorem ok_tb10l : TbOk env tb10l := TbOk.addF ok_tb19 (by kernel_rfl) sound10
def S7 : FunS := ⟨[⟨true, (.rows 24)⟩], [], [⟨true, .bool⟩], []⟩
noncomputable def F7 : List D → Option (List D) := liftX env tb10l 60 12 7 S7
theorem F7_eq  (sd0 : D) : F7  [sd0] =
    bif (qcmp BinOp.gtr (qlen sd0) 60) then
    bif (qsome (q10 [])) then
    some [(D.bool (qbool (qnth (q10 []) 0)))]
    else
    none
    else
    bif (qsome (q18 [sd0])) then
    bif (qsome (q19 [sd0])) then
    bif (qiteB (qcmpS BinOp.eql (qstr (qnth (q18 [sd0]) 0)) (qstr (qnth (q19 [sd0]) 0))) (qsome (q10 [])) Bool.true) then
    some [(D.bool (qiteB (qcmpS BinOp.eql (qstr (qnth (q18 [sd0]) 0)) (qstr (qnth (q19 [sd0]) 0))) (qbool (qnth (q10 []) 0)) Bool.false))]
    else
    none
    else
    none
    else
    none := by kernel_rfl
noncomputable def q7 : List D → Option (List D) := veil (F7 )
theorem q7_eq : q7  = F7  := veil_eq _
end Go.Proofs.YtobhhfbdelnhfaaGreatDoor
namespace Go.Proofs.YtobhhfbdelnhfaaGreatDoor
set_option linter.unusedSimpArgs false
set_option linter.unusedVariables false
open Go Go.AM
theorem w_le {d : D} (hv : vld d = true) : 0 ≤ qint (qfld d 4) ∧ qint (qfld d 4) ≤ 4 := by
  obtain ⟨s, hs, hA, hB, hI, hF, hW, hC, hA0, hB0, hN, hJ⟩ := vld_iff.1 hv
  unfold shp at hs
  rcases hW with h | h
  · have : qint (qfld d 2) = 16 ∨ qint (qfld d 2) = 17 ∨ qint (qfld d 2) = 18 := by omega
    rcases this with h | h | h <;> rw [h] at hs <;> simp only [Int.reduceEq, Int.reduceLE, or_true, or_false, and_true, and_false, true_and, false_and, if_true, if_false, or_self] at hs <;> split at hs <;> first | omega | cases hs
  · omega
theorem ite_len {c : Prop} [Decidable c] {a b : List UInt8} (h : a.length ≤ 100) (h' : b.length ≤ 100) : (if c then a else b).length ≤ 100 := by
  split
  · exact h
  · exact h'
theorem PT_len {d : D} {n j : Nat} (hv : vld d = true) (h2 : n < 4294967296) : (PT d n j).length ≤ 100 := by
  have hw := w_le hv
  have l1 := dlen (qint (qfld d 4)).toNat (by omega)
  have l2 := hlen n h2
  have l3 := placeT_len (rg (qint (qfld d 7))) n h2
  have l4 := opT_len (qint (qfld d 2) - 5).toNat
  have l5 := ccT_len (qint (qfld d 5)).toNat
  have l6 := signT_len n h2
  have ar : (arT (qint (qfld d 3)) (rg (qint (qfld d 6))) (rg (qint (qfld d 7))) n).length ≤ 30 := by
    unfold arT
    repeat' split
    all_goals (simp only [List.length_append, List.length_cons, List.length_nil]; omega)
  have jm : (jmT (qint (qfld d 5)) (qint (qfld d 3)) n j).length ≤ 30 := by
    unfold jmT
    repeat' split
    all_goals (simp only [List.length_append, List.length_cons, List.length_nil]; omega)
  unfold PT
  repeat' apply ite_len
  all_goals first | (simp only [List.length_append, List.length_cons, List.length_nil]; omega) | omega
theorem line_bs (a t : List UInt8) : (lineB (bs a) (bs t)).data.toList = a ++ [58, 32] ++ (if t = [] then [63] else t) ++ [10] := by
  unfold lineB
  have h : (bs t = ByteArray.empty) ↔ t = [] := ⟨fun h => by have := congrArg (fun b => b.data.toList) h; simpa [bs] using this, fun h => by subst h; rfl⟩
  by_cases ht : t = []
  · rw [if_pos ht, if_pos (h.2 ht)]
    simp [bs, ByteArray.data_append]
  · rw [if_neg ht, if_neg (fun x => ht (h.1 x))]
    simp [bs, ByteArray.data_append]
theorem ins_ls {x : D} (h : ∃ n : Nat, qint (qfld x 1) = n ∧ n < 4294967296) (h0 : ∃ n : Nat, qint (qfld x 0) = n ∧ n < 4294967296) :
    ∃ a t : List UInt8, a.length ≤ 10 ∧ t.length ≤ 100 ∧ q8 [x] = some [.str (bs t)] ∧ q9 [x] = some [.str (bs t)] ∧ q25 [.int (qint (qfld x 0))] = some [.str (bs a)] ∧ q34 [.int (qint (qfld x 0))] = some [.str (bs a)] := by
  obtain ⟨n, hn, h2⟩ := h
  obtain ⟨m, hm, h3⟩ := h0
  obtain ⟨j, hj, hj2⟩ := short_nn x
  have ha : (48 :: 120 :: digs 16 m).length ≤ 10 := by have := hlen m h3; simp only [List.length_cons]; omega
  rw [hm]
  have key : ∃ t : List UInt8, t.length ≤ 100 ∧ q8 [x] = some [.str (bs t)] ∧ q9 [x] = some [.str (bs t)] := by
    cases hv : vld x with
    | true => exact ⟨_, PT_len (j := j) hv h2, print_spec hv hn h2 hj hj2⟩
    | false =>
      refine ⟨[], by simp, ?_, ?_⟩
      · rw [q8_eq, F8_eq, (valid_spec x).1, hv]
        simp only [qsome_s, qnth_s, List.getD_cons_zero, qbool_b, qnot_c, Bool.not_false, cond_true]; rfl
      · rw [q9_eq, F9_eq, (valid_spec x).2.1, hv]
        simp only [qsome_s, qnth_s, List.getD_cons_zero, qbool_b, qnot_c, Bool.not_false, cond_true]; rfl
  obtain ⟨t, ht, e1, e2⟩ := key
  exact ⟨_, t, ha, ht, e1, e2, spec25 m h3, spec34 m h3⟩
theorem ls_ok {x : D} (h : ∃ n : Nat, qint (qfld x 1) = n ∧ n < 4294967296) (h0 : ∃ n : Nat, qint (qfld x 0) = n ∧ n < 4294967296) :
    LsOk x ∧ ∃ a t : List UInt8, a.length ≤ 10 ∧ t.length ≤ 100 ∧ adrD x = bs a ∧ txtD x = bs t ∧ q9 [x] = some [.str (bs t)] ∧ q34 [.int (qint (qfld x 0))] = some [.str (bs a)] := by
  obtain ⟨a, t, ha, ht, e1, e2, e3, e4⟩ := ins_ls h h0
  have h1 : txtD x = bs t := by unfold txtD; rw [e1, qnth_s, List.getD_cons_zero, qstr_s]
  have h2 : adrD x = bs a := by unfold adrD; rw [e3, qnth_s, List.getD_cons_zero, qstr_s]
  exact ⟨⟨by rw [e1, h1], by rw [h1, bs_size]; omega, by rw [e3, h2], by rw [h2, bs_size]; omega⟩, a, t, ha, ht, h2, h1, e2, e4⟩
theorem accL_bs {adr txt : Nat → ByteArray} {k : Nat} {a t : List UInt8} (ha : adr k = bs a) (ht : txt k = bs t) : accL adr txt (k + 1) = accL adr txt k ++ a ++ [58, 32] ++ (if t = [] then [63] else t) ++ [10] := by
  simp only [accL, ha, ht, line_bs, List.append_assoc]
def LsL (d : D) : Prop := ∀ x ∈ d.toList, (∃ n : Nat, qint (qfld x 1) = n ∧ n < 4294967296) ∧ ∃ n : Nat, qint (qfld x 0) = n ∧ n < 4294967296
theorem eq_nil (t : List UInt8) : qcmpS .eql (bs t) (ByteArray.mk #[]) = decide (t = []) := by
  rw [qcmpS_eq]
  show ((bs t).toList == (ByteArray.mk #[]).toList) = _
  rw [ByteArray.toList_eq, ByteArray.toList_eq]
  show (t == []) = _
  cases t <;> rfl
theorem ref_loop {d : D} (h : LsL d) (hl : d.toList.length ≤ 60) (p : ByteArray) : ∀ (k i : Nat), i + k = d.toList.length →
    loW (st19_3 [d, .str p]) [.str (bs (accL (fun k => adrD (qget d (k : Int))) (fun k => txtD (qget d (k : Int))) i)), .int i] = some [.int 0, .str (bs (accL (fun k => adrD (qget d (k : Int))) (fun k => txtD (qget d (k : Int))) d.toList.length))]
  | 0, i, hi => by
    obtain rfl : i = d.toList.length := by omega
    have c0 : qcmp .lss (d.toList.length : Int) (qlen d) = false := by rw [qcmp_lss, qlen_c, decide_eq_false_iff_not]; omega
    rw [loW_eq, st19_3_eq, c0]; rfl
  | k + 1, i, hi => by
    have hlt : i < d.toList.length := by omega
    have hg : qget d (i : Int) = d.toList[i] := by rw [qget_n, getD_lt hlt]
    obtain ⟨h1, h0⟩ := h (qget d (i : Int)) (by rw [hg]; exact List.getElem_mem hlt)
    obtain ⟨_, a, t, ha, ht, e1, e2, e3, e4⟩ := ls_ok h1 h0
    have c0 : qcmp .lss (i : Int) (qlen d) = true := by rw [qcmp_lss, qlen_c, decide_eq_true_eq]; omega
    have ih := ref_loop h hl p k (i + 1) (by omega)
    have hacc := accL_bs (adr := fun k => adrD (qget d (k : Int))) (txt := fun k => txtD (qget d (k : Int))) (k := i) e1 e2
    have hb : (accL (fun k => adrD (qget d (k : Int))) (fun k => txtD (qget d (k : Int))) i).length ≤ 2010 * i := accL_len i fun j hj => by
      have hjl : j < d.toList.length := by omega
      have hg : qget d (j : Int) = d.toList[j] := by rw [qget_n, getD_lt hjl]
      obtain ⟨h1, h0⟩ := h (qget d (j : Int)) (by rw [hg]; exact List.getElem_mem hjl)
      obtain ⟨ok, _⟩ := ls_ok h1 h0
      exact ⟨ok.az, ok.ts⟩
    generalize hA : accL (fun k => adrD (qget d (k : Int))) (fun k => txtD (qget d (k : Int))) i = A at *
    have hI : qiteS (decide (t = [])) (ByteArray.mk #[63]) (bs t) = bs (if t = [] then [63] else t) := by
      rw [qiteS_eq]
      by_cases h : t = []
      · simp [h]; rfl
      · simp [h]
    have hIl : (if t = [] then [63] else t).length ≤ 100 := by split <;> simp_all
    have k1 : (ByteArray.mk #[58, 32]) = bs [58, 32] := rfl
    have k2 : (ByteArray.mk #[10]) = bs [10] := rfl
    rw [loW_eq, st19_3_eq, c0, qinb_n hlt, e3, e4]
    simp only [qsome_s, qnth_s, List.getD_cons_zero, qstr_s, eq_nil, hI, k1, k2, cond_true]
    generalize (if t = [] then [63] else t) = T at *
    have c5 : qcatOk (bs A) (bs a) = true := catOkB (by omega)
    simp (disch := (simp only [List.length_append, List.length_cons, List.length_nil]; omega)) only [c5, catOkB, catB, cond_true, add_nat (show i < 9223372036854775807 by omega)]
    rw [hacc] at ih
    exact ih
theorem law7 {d : D} (h : LsL d) : q7 [d] = some [.bool true] := by
  rw [q7_eq, F7_eq, q10_eq]
  simp only [qlen_c, qcmp_gtr]
  by_cases hl : (60 : Int) < (d.toList.length : Int)
  · simp [hl, qsome_s, qnth_s, qbool_b]
  · have hl' : d.toList.length ≤ 60 := by omega
    have h18 : q18 [d] = some [.str (lsT d)] := by
      rw [q18_eq]
      unfold F18
      rw [if_pos ⟨by simp only [List.headD_cons]; omega, fun x hx => (ls_ok (h x hx).1 (h x hx).2).1⟩]
      rfl
    have h19 : q19 [d] = some [.str (lsT d)] := by
      have := ref_loop h hl' (ByteArray.mk #[]) d.toList.length 0 (by omega)
      have e : l19_3 [d, .str (ByteArray.mk #[])] [.str (ByteArray.mk #[]), .int 0] = some [.int 0, .str (lsT d)] := by rw [l19_3_eq]; exact this
      rw [q19_eq, F19_eq, e]
      simp [qsome_s, qnth_s, qstr_s]
    have hq : qcmpS .eql (lsT d) (lsT d) = true := by rw [qcmpS_eq]; simp [rcmpS]
    rw [h18, h19]
    simp [hl, qsome_s, qnth_s, qbool_b, qstr_s, hq, qiteB_c]
end Go.Proofs.YtobhhfbdelnhfaaGreatDoor
namespace Go.Proofs.YtobhhfbdelnhfaaGreatDoor
open Go Go.AM
def isLitV : AV → Bool
  | .ui _ _ => true
  | .ub _ => true
  | _ => false
def litV : AV → Value
  | .ui k n => .int k n
  | .ub b => .bool b
  | _ => .bool false
theorem repL_lits {ρ : Nat → Option Nat} {E : Nat → Prop} {w : World} : ∀ (l : List AV) (cs : List Value), l.all isLitV = true → RepL ρ E w l cs → cs = l.map litV
  | [], cs, _, h => by simpa [RepL] using h
  | c :: l, cs, hl, h => by
    simp only [List.all_cons, Bool.and_eq_true] at hl
    simp only [RepL] at h
    obtain ⟨v, vs, rfl, h1, h2⟩ := h
    rw [repL_lits l vs hl.2 h2]
    cases c <;> simp only [isLitV] at hl <;> first | (cases hl.1; done) | skip
    all_goals (simp only [Rep] at h1; subst h1; rfl)
theorem okT : okTypes PG = true := by kernel_rfl
theorem pg : PG = Tryz.prog := by unfold PG; rfl
theorem arr_len {H : Type} {enc : TypeId × Value → H} {P : Program} {w : World} {base : Nat} {sp : Nat → Bool} {held : Bool} {fuel : Nat} {t e : TypeId} {n : Nat} {cs : List Value} {d : DataW H} {p : List MemPlace}
    (ht : P.underlying t = some (.array n e)) (h : DataW.trod enc P w base sp held fuel t cs = some (d, p)) : cs.length = P.cellsOf t := by
  cases fuel with
  | zero => simp [DataW.trod] at h
  | succ fuel =>
    simp only [DataW.trod, ht] at h
    split at h
    · rename_i hl
      exact hl
    · cases h
theorem cs_of_laid {w : World} {fuel : Nat} {t e : TypeId} {n : Nat} {cs : List Value} {d : DataW Unit} {p : List MemPlace} {enc : TypeId × Value → Unit} {held : Bool}
    (ht : Tryz.prog.underlying t = some (.array n e)) (hs : t < Tryz.prog.types.size) (hl : layOk PG 8 t = true) (hlit : (cellsT 8 t (toD d)).all isLitV = true)
    (h : DataW.trod enc Tryz.prog w 0 (fun _ => true) held fuel t cs = some (d, p)) : cs = (cellsT 8 t (toD d)).map litV := by
  have hlen := arr_len ht h
  have h' : DataW.trod enc PG w 0 (fun _ => true) held fuel t cs = some (d, p) := by rw [pg]; exact h
  obtain ⟨hr, _⟩ := trod_rep (P := PG) okT fuel t cs d p h' (by rw [pg]; exact hlen) (by rw [pg]; exact hs)
  exact repL_lits _ _ hlit (cellsT_rep (ρ := nowhere) 8 t (toD d) cs hl hr)
theorem cells151 (d : D) : cellsT 8 151 d = (List.range 20).map fun i => .ui .u64 (qint (qfld d i)) := by kernel_rfl
theorem lit151 (d : D) : (cellsT 8 151 d).all isLitV = true := by rw [cells151]; rfl
theorem cells163 (d : D) : cellsT 8 163 d = (List.range 64).map fun i => .ui .u8 (qint (qfld d i)) := by kernel_rfl
theorem lit163 (d : D) : (cellsT 8 163 d).all isLitV = true := by rw [cells163]; rfl
theorem int_un (d : D) : qint d = d.toInt := by rw [qint_eq]
def tabCells (g : Nat) : List Value := ((findG g GLT).getD []).map fun a => match a with | .sc v => v | _ => .bool false
theorem vals0 : (cellsT 8 151 (toD (Rows.laid_internal_strconv_uint64pow10 (H := Unit)))).map litV = tabCells 0 := by
  rw [cells151]; simp only [int_un, qfld_eq]; rfl
theorem vals5 : (cellsT 8 163 (toD (Rows.laid_math_bits_deBruijn64tab (H := Unit)))).map litV = tabCells 5 := by
  rw [cells163]; simp only [int_un, qfld_eq]; rfl
theorem glob5 : Tryz.prog.globalNamed "math/bits.deBruijn64tab" = some 5 := by kernel_rfl
theorem gty5 : (Tryz.prog.globals[5]?).map (·.type) = some 163 := by kernel_rfl
theorem glob0 : Tryz.prog.globalNamed "internal/strconv.uint64pow10" = some 0 := by kernel_rfl
theorem gty0 : (Tryz.prog.globals[0]?).map (·.type) = some 151 := by kernel_rfl
theorem var_of {W : World} {name : String} {d : DataW Unit} {g t e n : Nat} {rest : List (String × DataW Unit)} (hg : Tryz.prog.globalNamed name = some g) (hty : (Tryz.prog.globals[g]?).map (·.type) = some t) (ht : Tryz.prog.underlying t = some (.array n e)) (hs : t < Tryz.prog.types.size)
    (hl : layOk PG 8 t = true) (hlit : (cellsT 8 t (toD d)).all isLitV = true) (h : laidMet Tryz.prog ((name, d) :: rest) W) : ∃ cs : Array Value, W.var? Tryz.prog name = some cs ∧ cs.toList = (cellsT 8 t (toD d)).map litV := by
  obtain ⟨ps, ⟨g', t', cs, fuel, p, q, hg', ht', hvar, hd, _, _⟩, _⟩ := h
  obtain rfl := Option.some.inj (hg.symm.trans hg')
  obtain rfl := Option.some.inj (hty.symm.trans ht')
  exact ⟨cs, hvar, cs_of_laid ht hs hl hlit hd⟩
theorem var?_all {W : World} {g : Nat} {name : String} {cs : Array Value} {vs : List Value} (hg : Tryz.prog.globalNamed name = some g) (hvar : W.var? Tryz.prog name = some cs) (he : cs.toList = vs) : ∃ c T f, W.heap[g]? = some (.cells c T f) ∧ c.size = (vs.map AV.sc).length := by
  simp only [World.var?, hg, Option.bind_some] at hvar
  split at hvar
  · rename_i c T f hh
    cases hvar
    exact ⟨_, _, _, hh, by rw [List.length_map, ← he, Array.length_toList]⟩
  · cases hvar
theorem repAt_of {W : World} {E : Nat → Prop} {g : Nat} {name : String} {cs : Array Value} {vs : List Value} (hg : Tryz.prog.globalNamed name = some g) (hvar : W.var? Tryz.prog name = some cs) (he : cs.toList = vs) (h0 : 0 < vs.length) : g < W.heap.size ∧ GlRep E W g (vs.map AV.sc) := by
  have hc : ∀ (i : Nat), W.cell? ⟨g, i, none⟩ = vs[i]? := fun i => by rw [World.var?_cell hg hvar i, ← he, Array.getElem?_toList]
  refine ⟨?_, RepAt.ofL (RepL.sc vs) fun j u hu => by rw [Nat.zero_add, hc]; exact hu, fun _ => var?_all hg hvar he⟩
  by_cases hlt : g < W.heap.size
  · exact hlt
  · exfalso
    have h1 : W.heap[g]? = none := Array.getElem?_eq_none (by omega)
    have h2 := hc 0
    rw [List.getElem?_eq_getElem h0] at h2
    simp [World.cell?, h1] at h2
theorem maxLen (W : World) (h : W.ShapedOpen Tryz.prog) : ∃ m, W.cell? ⟨1, 0, none⟩ = some (.int .i64 m) :=
  cell_of_shapedOpen_int (P := Tryz.prog) (t := 3) (zero := #[.int .i64 0]) h (of_decide_eq_true (by kernel_rfl)) (by kernel_rfl) (by kernel_rfl) (by kernel_rfl) (by kernel_rfl) Tryz.underlying3
theorem tabs {W : World} {E : Nat → Prop} {l : List (String × DataW Unit)} (hl : l = Rows.textPrintRow.laid) (h : laidMetH Tryz.prog l W) (hsh : W.ShapedOpen Tryz.prog) {S : FunS} {p s : List D} (g : Nat) (cs : List AV) (hgl : (heapF S p s).glob g = some cs) : g < W.heap.size ∧ GlRep E W g cs := by
  subst hl
  have hp : ∀ g, (heapF S p s).glob g = findG g GLT := fun _ => rfl
  rw [hp] at hgl
  cases g with
  | zero =>
    have hf := laidMetH.filter (fun x => x.1 == "internal/strconv.uint64pow10") h
    have e : Rows.textPrintRow.laid.filter (fun x => x.1 == "internal/strconv.uint64pow10") = [("internal/strconv.uint64pow10", Rows.laid_internal_strconv_uint64pow10)] := by rfl
    rw [e, MakeChecks.laidMetH_plain _ _ _ (by kernel_rfl)] at hf
    obtain ⟨a, h1, h2⟩ := var_of glob0 gty0 Tryz.underlying151 (of_decide_eq_true (by kernel_rfl)) (by kernel_rfl) (lit151 _) hf
    rw [vals0] at h2
    have := repAt_of (E := E) glob0 h1 h2 (of_decide_eq_true (by kernel_rfl))
    have e2 : findG 0 GLT = some ((tabCells 0).map AV.sc) := by rfl
    rw [e2] at hgl
    cases hgl
    exact this
  | succ g =>
    cases g with
    | zero =>
      obtain ⟨m, hm⟩ := maxLen W hsh
      have e2 : findG (0 + 1) GLT = some [.anyI .i64] := by rfl
      rw [e2] at hgl
      cases hgl
      refine ⟨?_, ?_⟩
      · by_cases h0 : 1 < W.heap.size
        · exact h0
        · exfalso
          have : W.heap[1]? = none := Array.getElem?_eq_none (by omega)
          simp [World.cell?, this] at hm
      · refine ⟨?_, fun h => by cases h⟩
        simp only [RepAt]
        exact ⟨⟨_, hm, by simp only [Rep]; exact ⟨m, rfl⟩⟩, trivial⟩
    | succ g =>
      match g, hgl with
      | 0, hgl => have e2 : findG (0 + 1 + 1) GLT = none := rfl
                  rw [e2] at hgl; cases hgl
      | 1, hgl => have e2 : findG (1 + 1 + 1) GLT = none := rfl
                  rw [e2] at hgl; cases hgl
      | 2, hgl => have e2 : findG (2 + 1 + 1) GLT = none := rfl
                  rw [e2] at hgl; cases hgl
      | 3, hgl =>
        have hf := laidMetH.filter (fun x => x.1 == "math/bits.deBruijn64tab") h
        have e : Rows.textPrintRow.laid.filter (fun x => x.1 == "math/bits.deBruijn64tab") = [("math/bits.deBruijn64tab", Rows.laid_math_bits_deBruijn64tab)] := by rfl
        rw [e, MakeChecks.laidMetH_plain _ _ _ (by kernel_rfl)] at hf
        obtain ⟨a, h1, h2⟩ := var_of glob5 gty5 Tryz.underlying163 (of_decide_eq_true (by kernel_rfl)) (by kernel_rfl) (lit163 _) hf
        rw [vals5] at h2
        have := repAt_of (E := E) glob5 h1 h2 (of_decide_eq_true (by kernel_rfl))
        have e2 : findG 5 GLT = some ((tabCells 5).map AV.sc) := by rfl
        rw [e2] at hgl
        cases hgl
        exact this
      | g + 4, hgl =>
        have e2 : findG (g + 4 + 1 + 1) GLT = none := rfl
        rw [e2] at hgl; cases hgl
end Go.Proofs.YtobhhfbdelnhfaaGreatDoor
namespace Go.Proofs.YtobhhfbdelnhfaaGreatDoor
open Go Go.AM
theorem f24_0 : isFld 24 0 22 = true := by kernel_rfl
theorem f24_1 : isFld 24 1 22 = true := by kernel_rfl
theorem i22 : isInt 22 .u32 = true := by kernel_rfl
theorem imm_conf {x : D} (h : Conf PG 24 x) : ∃ n : Nat, qint (qfld x 1) = n ∧ n < 4294967296 := by
  have h1 := conf_int i22 (conf_fld f24_1 (qconf_iff.2 h))
  rw [qrng_iff] at h1
  simp [IntKind.min, IntKind.max, IntKind.bits, IntKind.signed] at h1
  obtain ⟨n, hn⟩ := Int.eq_ofNat_of_zero_le h1.1
  exact ⟨n, hn, by omega⟩
theorem adr_conf {x : D} (h : Conf PG 24 x) : ∃ n : Nat, qint (qfld x 0) = n ∧ n < 4294967296 := by
  have h1 := conf_int i22 (conf_fld f24_0 (qconf_iff.2 h))
  rw [qrng_iff] at h1
  simp [IntKind.min, IntKind.max, IntKind.bits, IntKind.signed] at h1
  obtain ⟨n, hn⟩ := Int.eq_ofNat_of_zero_le h1.1
  exact ⟨n, hn, by omega⟩
theorem sl36 : isSl 36 24 = true := by kernel_rfl
theorem conf_ls {d : D} (h : Conf PG 36 d) : LsL d := by
  obtain ⟨_, _, h2⟩ := qconfL_iff.1 (conf_list sl36 (qconf_iff.2 h))
  exact fun x hx => ⟨imm_conf (h2 x hx), adr_conf (h2 x hx)⟩
theorem rep36 {w : World} {E : Nat → Prop} {d : D} {v : Value} (h : RepD PG E w 36 d [v]) : Rep nowhere E w (.rows 24 d) v := by
  have hc : cellsT 8 36 d = [.rows 24 d] := by kernel_rfl
  have := cellsT_rep (ρ := nowhere) 8 36 d [v] (by kernel_rfl) h
  rw [hc] at this
  simpa [RepL] using this
theorem sound7 : SoundF env.P 7 S7 q7 := by rw [q7_eq]; exact liftX_sound envOk ok_tb10l 60 12
theorem top7 {d0 : D} (c0 : Conf PG 36 d0) (w : World) (hL : laidMetH Tryz.prog Rows.textListingRow.laid w) (hsh : w.ShapedOpen Tryz.prog) {v0 : Value} (r0 : RepD PG (fun b => b < w.heap.size) w 36 d0 [v0]) :
    Calls Tryz.prog 7 #[v0] w fun e w' => e = .returned (.bool true) ∧ RowKit.Below w.heap.size w w' := by
  refine (sound7 [] [d0] [.bool true] rfl (law7 (conf_ls c0)) (fun b => b < w.heap.size) w nowhere _ w #[v0] (Inv.empty w _ (fun _ h => h) rfl rfl (fun g cs h => tabs rfl hL hsh g cs h))
    (RepL.cons (rep36 r0) RepL.nil)).mono ?_
  rintro e w' ⟨u, ρ', E', rfl, inv, reach, rep⟩
  have hr : resF S7 [] (bdL [.bool true]) = .ub true := rfl
  rw [hr] at rep
  simp only [Rep] at rep
  subst rep
  exact ⟨rfl, ⟨inv.io.1, inv.io.2.1, inv.io.2.2, reach.size, inv.old⟩⟩
end Go.Proofs.YtobhhfbdelnhfaaGreatDoor
