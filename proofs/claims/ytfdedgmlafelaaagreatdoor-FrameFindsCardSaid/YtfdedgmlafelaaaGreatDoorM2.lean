/-
  Plain laws: what is not known, unveiled; loops over numbers.
-/
import Derived.Test.YtfdedgmlafelaaaGreatDoorAmS
import Derived.Test.YtfdedgmlafelaaaGreatDoorM1
import Derived.Test.YtfdedgmlafelaaaGreatDoorRows
import Derived.Test.YtfdedgmlafelaaaGreatDoorC1
import Derived.Deep.DeepHandedRow
import Derived.Lib.LaidTab
import Derived.MakeChecks
import Derived.LaidSub
import Derived.FnData
set_option linter.unusedVariables false
set_option linter.unusedSimpArgs false
namespace Go.AM

theorem qsome_s (r : List D) : qsome (some r) = true := by rw [qsome_eq]; rfl
theorem qsome_n : qsome none = false := by rw [qsome_eq]; rfl
theorem qnth_s (r : List D) (j : Nat) : qnth (some r) j = r.getD j .other := by rw [qnth_eq]; rfl
theorem qint_i (n : Int) : qint (.int n) = n := by rw [qint_eq]; rfl
theorem qbool_b (b : Bool) : qbool (.bool b) = b := by rw [qbool_eq]; rfl
theorem qstr_s (s : ByteArray) : qstr (.str s) = s := by rw [qstr_eq]; rfl
theorem qcmp_lss (a b : Int) : qcmp .lss a b = decide (a < b) := by rw [qcmp_eq]; rfl
theorem qcmp_leq (a b : Int) : qcmp .leq a b = decide (a ≤ b) := by rw [qcmp_eq]; rfl
theorem qcmp_gtr (a b : Int) : qcmp .gtr a b = decide (b < a) := by rw [qcmp_eq]; rfl
theorem qcmp_geq (a b : Int) : qcmp .geq a b = decide (b ≤ a) := by rw [qcmp_eq]; rfl
theorem qcmp_eql (a b : Int) : qcmp .eql a b = decide (a = b) := by rw [qcmp_eq]; simp only [rcmp]; cases h : decide (a = b) <;> simp_all
theorem qcmp_neq (a b : Int) : qcmp .neq a b = !decide (a = b) := by rw [qcmp_eq]; simp only [rcmp, bne]; cases h : decide (a = b) <;> simp_all
theorem qiteB_c (c a b : Bool) : qiteB c a b = bif c then a else b := by rw [qiteB_eq]
theorem qnot_c (a : Bool) : qnot a = !a := by rw [qnot_eq]
theorem qlen_c (d : D) : qlen d = (d.toList.length : Int) := by rw [qlen_eq]; rfl
theorem qinb_c (d : D) (i : Int) : qinb d i = (decide (0 ≤ i) && decide (i < d.toList.length)) := by rw [qinb_eq]; rfl
theorem qget_n (d : D) (i : Nat) : qget d (i : Int) = d.toList.getD i .other := by rw [qget_eq]; simp [D.get]
theorem qinb_n {d : D} {i : Nat} (h : i < d.toList.length) : qinb d (i : Int) = true := by rw [qinb_c]; simp; omega

theorem cond_dec {α : Type} (p : Prop) [Decidable p] (a b : α) : (bif decide p then a else b) = if p then a else b := by by_cases h : p <;> simp [h]

/-- A loop that counts: so many rounds more. -/
def forN {A R : Type} (body : Nat → A → Option (Sum A R)) (fin : A → R) : Nat → Nat → A → Option R
  | _, 0, a => some (fin a)
  | i, k + 1, a => match body i a with
    | none => none
    | some (.inl a') => forN body fin (i + 1) k a'
    | some (.inr r) => some r

theorem loW_for {A S R : Type} {st : S → Option (Sum S R)} {enc : Nat → A → S} {n : Nat} {body : Nat → A → Option (Sum A R)} {fin : A → R} {I : Nat → A → Prop}
    (h1 : ∀ i a, i < n → I i a → st (enc i a) = match body i a with
      | none => none
      | some (.inl a') => some (.inl (enc (i + 1) a'))
      | some (.inr r) => some (.inr r))
    (h0 : ∀ a, I n a → st (enc n a) = some (.inr (fin a))) (hI : ∀ i a a', i < n → I i a → body i a = some (.inl a') → I (i + 1) a') :
    ∀ k i a, i + k = n → I i a → loW st (enc i a) = forN body fin i k a := by
  intro k
  induction k with
  | zero =>
    intro i a hi ha
    obtain rfl : i = n := by omega
    rw [loW_eq, h0 a ha]; rfl
  | succ k ih =>
    intro i a hi ha
    rw [loW_eq, h1 i a (by omega) ha]
    simp only [forN]
    cases hb : body i a with
    | none => rfl
    | some x =>
      cases x with
      | inr r => rfl
      | inl a' => exact ih (i + 1) a' (by omega) (hI i a a' (by omega) ha hb)

/-- A search: the first place at which there is an answer. -/
def srch {R : Type} (f : Nat → Option R) (r0 : R) : Nat → Nat → R
  | _, 0 => r0
  | i, k + 1 => match f i with
    | none => srch f r0 (i + 1) k
    | some r => r

theorem loW_srch {S R : Type} {st : S → Option (Sum S R)} {enc : Nat → S} {n : Nat} {f : Nat → Option R} {r0 : R}
    (h1 : ∀ i, i < n → st (enc i) = match f i with
      | none => some (.inl (enc (i + 1)))
      | some r => some (.inr r))
    (h0 : st (enc n) = some (.inr r0)) : ∀ k i, i + k = n → loW st (enc i) = some (srch f r0 i k) := by
  intro k
  induction k with
  | zero =>
    intro i hi
    obtain rfl : i = n := by omega
    rw [loW_eq, h0]; rfl
  | succ k ih =>
    intro i hi
    rw [loW_eq, h1 i (by omega)]
    simp only [srch]
    cases hb : f i with
    | some r => rfl
    | none => exact ih (i + 1) (by omega)

/-- A search in a list. -/
def srchL {α R : Type} (f : Nat → α → Option R) (r0 : R) : Nat → List α → R
  | _, [] => r0
  | i, x :: xs => match f i x with
    | none => srchL f r0 (i + 1) xs
    | some r => r

theorem srch_list {R : Type} {f : Nat → Option R} {g : Nat → D → Option R} {r0 : R} {xs : List D} (h : ∀ i x, xs[i]? = some x → f i = g i x) : ∀ k i, i + k = xs.length → srch f r0 i k = srchL g r0 i (xs.drop i) := by
  intro k
  induction k with
  | zero => intro i hi; rw [List.drop_of_length_le (by omega)]; rfl
  | succ k ih =>
    intro i hi
    have hlt : i < xs.length := by omega
    rw [List.drop_eq_getElem_cons hlt]
    simp only [srch, srchL]
    rw [h i xs[i] (List.getElem?_eq_getElem hlt)]
    cases g i xs[i] with
    | some r => rfl
    | none => exact ih (i + 1) (by omega)

/-- Does one of the list fit? -/
theorem srchL_any {R : Type} {p : D → Bool} {r : Nat → R} {r0 : R} {P : R → Bool} (h0 : P r0 = false) (h1 : ∀ i, P (r i) = true) : ∀ (xs : List D) (i : Nat), P (srchL (fun i x => if p x then some (r i) else none) r0 i xs) = xs.any p
  | [], i => h0
  | x :: xs, i => by
    simp only [srchL, List.any_cons]
    cases hp : p x with
    | true => simp [h1]
    | false => simpa using srchL_any h0 h1 xs (i + 1)

theorem getD_lt {xs : List D} {i : Nat} (h : i < xs.length) : xs.getD i .other = xs[i] := by simp [List.getD, h]

theorem wrap64' {n : Int} (h0 : -9223372036854775808 ≤ n) (h1 : n ≤ 9223372036854775807) : IntKind.i64.wrap n = n := wrap64 h0 h1

theorem add_nat {i : Nat} (h : i < 9223372036854775807) : qbin .add .i64 (i : Int) 1 = ((i + 1 : Nat) : Int) := by
  rw [add64 (by omega) (by omega)]; omega

/-- A search with a test that is a function. -/
theorem idxLoop {st : List D → Option (Sum (List D) (List D))} {l : D} {c : D → Option (List D)} {p : D → Bool} {r1 : Int → List D} {r0 : List D}
    (hst : ∀ i : Int, st [.int i] = bif qcmp .lss i (qlen l) then bif qinb l i then bif qsome (c (qget l i)) then bif qbool (qnth (c (qget l i)) 0) then some (.inr (r1 i)) else some (.inl [.int (qbin .add .i64 i 1)]) else none else none else some (.inr r0))
    (hl : l.toList.length ≤ maxLen) (hc : ∀ x ∈ l.toList, c x = some [.bool (p x)]) :
    (loW st [.int 0] = some r0 ∧ l.toList.any p = false) ∨ ∃ i : Nat, loW st [.int 0] = some (r1 i) ∧ l.toList.any p = true := by
  unfold maxLen at hl
  have key : ∀ k i : Nat, i + k = l.toList.length → (loW st [.int i] = some r0 ∧ (l.toList.drop i).any p = false) ∨ ∃ j : Nat, loW st [.int i] = some (r1 j) ∧ (l.toList.drop i).any p = true := by
    intro k
    induction k with
    | zero =>
      intro i hi
      left
      rw [loW_eq, hst, qcmp_lss, qlen_c, List.drop_of_length_le (by omega)]
      simp [show ¬ ((i : Int) < l.toList.length) by omega]
    | succ k ih =>
      intro i hi
      have hlt : i < l.toList.length := by omega
      rw [loW_eq, hst, qcmp_lss, qlen_c, qinb_n hlt, qget_n, getD_lt hlt, hc _ (List.getElem_mem hlt), List.drop_eq_getElem_cons hlt]
      simp only [show ((i : Int) < l.toList.length) by omega, decide_true, cond_true, qsome_s, qnth_s, List.getD_cons_zero, qbool_b, List.any_cons]
      cases hp : p l.toList[i] with
      | true => exact .inr ⟨i, rfl, by simp⟩
      | false =>
        simp only [cond_false, Bool.false_or]
        rw [add_nat (by omega)]
        exact ih (i + 1) (by omega)
  have := key l.toList.length 0 (by omega)
  simpa using this

theorem size_elem {d : D} {j : Nat} {x : D} (h : x ∈ (d.fld j).toList) : x.size < d.size := by
  cases d with
  | agg xs =>
    simp only [D.fld, List.getD] at h
    cases hx : xs[j]? with
    | none => rw [hx] at h; simp [D.toList] at h
    | some y =>
      rw [hx] at h
      simp only [Option.getD_some] at h
      have h1 := sizes_get hx
      cases y with
      | list ys =>
        simp only [D.toList] at h
        obtain ⟨i, hi⟩ := List.getElem?_of_mem h
        have h2 := sizes_get hi
        simp only [D.size] at h1 ⊢
        omega
      | _ => simp [D.toList] at h
  | _ => simp [D.fld, D.toList] at h

end Go.AM

namespace Go.Proofs.YtfdedgmlafelaaaGreatDoor
set_option linter.unusedSimpArgs false
open Go Go.AM

theorem mem_ok {n : Int} {z : Nat} (h0 : 0 ≤ n) (h : n ≤ 100000) (hz : z ≤ 100) : qmem n z = true := by
  rw [qmem_eq]
  have h1 : n * (z : Int) ≤ 100000 * 100 := by
    calc n * (z : Int) ≤ 100000 * (z : Int) := Int.mul_le_mul_of_nonneg_right h (by omega)
      _ ≤ 100000 * 100 := Int.mul_le_mul_of_nonneg_left (by omega) (by omega)
  simp only [rmem, Bool.and_eq_true, decide_eq_true_eq]
  omega

theorem fld_agg (xs : List D) (j : Nat) : qfld (.agg xs) j = xs.getD j .other := by rw [qfld_eq]; rfl
theorem app_l (xs ys : List D) : qapp (.list xs) (.list ys) = .list (xs ++ ys) := by rw [qapp_eq]; rfl

/-- Does a slot contain an offset? -/
noncomputable def hit (x : D) (n : Int) : Bool := decide (qint (qfld x 0) ≤ n) && (decide (0 < qint (qfld x 1)) && qcmp .lss (qbin .sub .u64 (qwrap .u64 n) (qwrap .u64 (qint (qfld x 0)))) (qwrap .u64 (qint (qfld x 1))))

noncomputable def hitR (n : Int) (i : Nat) (x : D) : Option (List D) := bif hit x n then some [.int 1, .int i] else none

theorem loopA {n : Int} {L : D} (hL : L.toList.length ≤ 300) : l23_2 [.int n, L, .int (qlen L)] [.int 0] = some (srchL (hitR n) [.int 0] 0 L.toList) := by
  rw [l23_2_eq]
  have h := loW_srch (st := st23_2 [.int n, L, .int (qlen L)]) (enc := fun i => [.int (i : Int)]) (n := L.toList.length) (f := fun i => hitR n i (L.toList.getD i .other)) (r0 := [.int 0])
    (fun i hi => by
      rw [st23_2_eq, qcmp_lss, qlen_c, qinb_n hi, qget_n]
      simp only [show ((i : Int) < L.toList.length) by omega, decide_true, cond_true, hitR, hit, qcmp_leq, qcmp_gtr, qiteB_c]
      generalize L.toList.getD i .other = x
      cases h1 : decide (qint (qfld x 0) ≤ n) <;> cases h2 : decide (0 < qint (qfld x 1)) <;> simp only [cond_true, cond_false, Bool.true_and, Bool.false_and, Bool.and_true, Bool.and_false]
      · rw [add_nat (by omega)]
      · rw [add_nat (by omega)]
      · rw [add_nat (by omega)]
      · cases qcmp .lss (qbin .sub .u64 (qwrap .u64 n) (qwrap .u64 (qint (qfld x 0)))) (qwrap .u64 (qint (qfld x 1))) <;> simp only [cond_true, cond_false]
        rw [add_nat (by omega)])
    (by rw [st23_2_eq, qcmp_lss, qlen_c]; simp)
    L.toList.length 0 (by omega)
  refine (show loW (st23_2 [.int n, L, .int (qlen L)]) [.int ((0 : Nat) : Int)] = _ from ?_)
  rw [h, srch_list (g := hitR n) (xs := L.toList) (fun i x hx => by simp [List.getD, hx]) L.toList.length 0 (by omega)]
  rfl

theorem loopB {n : Int} {d : D} (hL : (qfld d 1).toList.length ≤ 300) : l24_2 [.int n, d] [.int 0] = some (srchL (hitR n) [.int 0] 0 (qfld d 1).toList) := by
  rw [l24_2_eq]
  have h := loW_srch (st := st24_2 [.int n, d]) (enc := fun i => [.int (i : Int)]) (n := (qfld d 1).toList.length) (f := fun i => hitR n i ((qfld d 1).toList.getD i .other)) (r0 := [.int 0])
    (fun i hi => by
      rw [st24_2_eq, qcmp_lss, qlen_c, qinb_n hi, qget_n]
      simp only [show ((i : Int) < (qfld d 1).toList.length) by omega, decide_true, cond_true, hitR, hit, qcmp_leq, qcmp_gtr]
      generalize (qfld d 1).toList.getD i .other = x
      rw [add_nat (by omega)]
      cases h1 : decide (qint (qfld x 0) ≤ n) <;> cases h2 : decide (0 < qint (qfld x 1)) <;> simp only [cond_true, cond_false, Bool.true_and, Bool.false_and, Bool.and_true, Bool.and_false]
      cases qcmp .lss (qbin .sub .u64 (qwrap .u64 n) (qwrap .u64 (qint (qfld x 0)))) (qwrap .u64 (qint (qfld x 1))) <;> simp only [cond_true, cond_false])
    (by rw [st24_2_eq, qcmp_lss, qlen_c]; simp)
    (qfld d 1).toList.length 0 (by omega)
  refine (show loW (st24_2 [.int n, d]) [.int ((0 : Nat) : Int)] = _ from ?_)
  rw [h, srch_list (g := hitR n) (xs := (qfld d 1).toList) (fun i x hx => by simp [List.getD, hx]) (qfld d 1).toList.length 0 (by omega)]
  rfl

/-- A slot, converted. -/
noncomputable def cv (x : D) : D := .agg [.int (qint (qfld x 0)), .int (qint (qfld x 1)), .int (qint (qfld x 2)), .int (qint (qfld x 3)), .bool (qbool (qfld x 4))]

theorem cv_eq (x : D) : cv x = .agg [.int (qint (qfld x 0)), .int (qint (qfld x 1)), .int (qint (qfld x 2)), .int (qint (qfld x 3)), .bool (qbool (qfld x 4))] := rfl

theorem loopV {a : Int} {b : Bool} {d : D} (hL : (qfld d 1).toList.length ≤ 300) : l13_3 [.int a, .bool b, d] [.int 0, .list []] = some [.int 0, .list ((qfld d 1).toList.map cv)] := by
  rw [l13_3_eq]
  have key : ∀ k i : Nat, i + k = (qfld d 1).toList.length → loW (st13_3 [.int a, .bool b, d]) [.int (i : Int), .list (((qfld d 1).toList.take i).map cv)] = some [.int 0, .list ((qfld d 1).toList.map cv)] := by
    intro k
    induction k with
    | zero =>
      intro i hi
      rw [loW_eq, st13_3_eq, qcmp_lss, qlen_c, List.take_of_length_le (by omega)]
      simp [show ¬ ((i : Int) < (qfld d 1).toList.length) by omega]
    | succ k ih =>
      intro i hi
      have hlt : i < (qfld d 1).toList.length := by omega
      rw [loW_eq, st13_3_eq, qcmp_lss, qlen_c, qinb_n hlt, qget_n, getD_lt hlt, app_l]
      have hap : ((qfld d 1).toList.take i).map cv ++ [cv (qfld d 1).toList[i]] = ((qfld d 1).toList.take (i + 1)).map cv := by
        rw [List.take_add_one, List.getElem?_eq_getElem hlt, List.map_append]; rfl
      rw [← cv_eq, hap]
      simp only [show ((i : Int) < (qfld d 1).toList.length) by omega, decide_true, cond_true]
      rw [qlen_c, mem_ok (by omega) (by show ((((qfld d 1).toList.take (i + 1)).map cv).length : Int) ≤ 100000; rw [List.length_map, List.length_take]; omega) (by omega)]
      simp only [cond_true]
      rw [add_nat (by omega)]
      exact ih (i + 1) (by omega)
  exact key (qfld d 1).toList.length 0 (by omega)

theorem hit_cv (x : D) (n : Int) : hit (cv x) n = hit x n := by
  unfold hit cv
  simp only [fld_agg, List.getD_cons_zero, List.getD_cons_succ, qint_i]

theorem srch_cv (n : Int) : ∀ (xs : List D) (i : Nat), srchL (hitR n) [.int 0] i (xs.map cv) = srchL (hitR n) [.int 0] i xs
  | [], _ => rfl
  | x :: xs, i => by
    simp only [List.map_cons, srchL, hitR, hit_cv]
    cases hit x n
    · simpa using srch_cv n xs (i + 1)
    · rfl

theorem law7 (d : D) (n : Int) : q7 [d, .int n] = some [.bool true] := by
  rw [q7_eq, F7_eq, qcmp_gtr, qlen_c]
  have hq : q9 [] = some [.bool true] := q9_eq
  by_cases hL : (300 : Int) < (qfld d 1).toList.length
  · simp only [hL, decide_true, cond_true, hq, qsome_s, qnth_s, List.getD_cons_zero, qbool_b]
  · have hL' : (qfld d 1).toList.length ≤ 300 := by omega
    have e23 : q23 [d, .int n] = some (if qint ((srchL (hitR n) [.int 0] 0 (qfld d 1).toList).getD 0 .other) = 0 then [.int 0, .bool false] else [.int (qint ((srchL (hitR n) [.int 0] 0 (qfld d 1).toList).getD 1 .other)), .bool true]) := by
      rw [q23_eq, F23_eq, loopA hL', qcmp_eql]
      simp only [qsome_s, cond_true, qnth_s, cond_dec]
      split <;> rfl
    have e13 : q13 [d] = some [.agg [.int (qint (qfld d 0)), .list ((qfld d 1).toList.map cv), .bool (qbool (qfld d 2))]] := by
      rw [q13_eq, F13_eq, loopV hL']
      simp only [qsome_s, cond_true, qnth_s, List.getD_cons_zero, List.getD_cons_succ]
    have e24 : q24 [.agg [.int (qint (qfld d 0)), .list ((qfld d 1).toList.map cv), .bool (qbool (qfld d 2))], .int n] = some (if qint ((srchL (hitR n) [.int 0] 0 (qfld d 1).toList).getD 0 .other) = 0 then [.int 0, .bool false] else [.int (qint ((srchL (hitR n) [.int 0] 0 (qfld d 1).toList).getD 1 .other)), .bool true]) := by
      have hl : qfld (.agg [.int (qint (qfld d 0)), .list ((qfld d 1).toList.map cv), .bool (qbool (qfld d 2))]) 1 = .list ((qfld d 1).toList.map cv) := by rw [fld_agg]; rfl
      rw [q24_eq, F24_eq, loopB (by rw [hl]; simpa [D.toList] using hL'), hl, qcmp_eql]
      rw [show (D.list ((qfld d 1).toList.map cv)).toList = (qfld d 1).toList.map cv from rfl, srch_cv]
      simp only [qsome_s, cond_true, qnth_s, cond_dec]
      split <;> rfl
    simp only [hL, decide_false, cond_false, e23, e13, e24, qsome_s, cond_true, qnth_s, List.getD_cons_zero]
    rw [qcmp_eql]
    simp only [decide_true, cond_true, qeqB_eq, beq_self_eq_true, hq, qsome_s, qnth_s, List.getD_cons_zero, qbool_b]

end Go.Proofs.YtfdedgmlafelaaaGreatDoor

namespace Go.Proofs.YtfdedgmlafelaaaGreatDoor
open Go Go.AM

theorem okT : okTypes PG = true := by kernel_rfl
theorem pg : PG = Tryz.prog := by unfold PG; rfl

/-- No package table is read. -/
theorem tabs {W : World} {E : Nat → Prop} {S : FunS} {p s : List D} (g : Nat) (cs : List AV) (hgl : (heapF S p s).glob g = some cs) : g < W.heap.size ∧ GlRep E W g cs := by
  have hp : (heapF S p s).glob g = none := rfl
  rw [hp] at hgl; cases hgl

end Go.Proofs.YtfdedgmlafelaaaGreatDoor

namespace Go.Proofs.YtfdedgmlafelaaaGreatDoor
open Go Go.AM

theorem sound7 : SoundF env.P 7 S7 q7 := by rw [q7_eq]; exact liftX_sound envOk ok_tb9x 60 12

theorem top7 {d0 : D} {n : Int} (w : World) {v0 : Value} (r0 : Rep nowhere (fun b => b < w.heap.size) w (.dat 30 d0) v0) :
    Calls Tryz.prog 7 #[v0, .int .i64 n] w fun e w' => e = .returned (.bool true) ∧ RowKit.Below w.heap.size w w' := by
  refine (sound7 [] [d0, .int n] [.bool true] rfl (law7 d0 n) (fun b => b < w.heap.size) w nowhere _ w #[v0, .int .i64 n] (Inv.empty w _ (fun _ h => h) rfl rfl (fun g cs h => tabs g cs h))
    (RepL.cons r0 (RepL.cons (show Rep nowhere _ w (.ui .i64 n) (.int .i64 n) by simp only [Rep]) RepL.nil))).mono ?_
  rintro e w' ⟨u, ρ', E', rfl, inv, reach, rep⟩
  have hr : resF S7 [] (bdL [.bool true]) = .ub true := rfl
  rw [hr] at rep
  simp only [Rep] at rep
  subst rep
  exact ⟨rfl, ⟨inv.io.1, inv.io.2.1, inv.io.2.2, reach.size, inv.old⟩⟩

end Go.Proofs.YtfdedgmlafelaaaGreatDoor
