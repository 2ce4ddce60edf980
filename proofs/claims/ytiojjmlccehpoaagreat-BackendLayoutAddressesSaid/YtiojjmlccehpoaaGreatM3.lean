/-
  Plain laws: what is not known, unveiled; loops over numbers.
-/
import Derived.Test.YtiojjmlccehpoaaGreatAmS
import Derived.Test.YtiojjmlccehpoaaGreatM1
import Derived.Test.YtiojjmlccehpoaaGreatM2
namespace Go.AM

theorem qsome_s (r : List D) : qsome (some r) = true := by rw [qsome_eq]; rfl
theorem qsome_n : qsome none = false := by rw [qsome_eq]; rfl
theorem qnth_s (r : List D) (j : Nat) : qnth (some r) j = r.getD j .other := by rw [qnth_eq]; rfl
theorem qint_i (n : Int) : qint (.int n) = n := by rw [qint_eq]; rfl
theorem qbool_b (b : Bool) : qbool (.bool b) = b := by rw [qbool_eq]; rfl
theorem qstr_s (s : ByteArray) : qstr (.str s) = s := by rw [qstr_eq]; rfl
theorem qcmp_lss (a b : Int) : qcmp .lss a b = decide (a < b) := by rw [qcmp_eq]; rfl
theorem qcmp_leq (a b : Int) : qcmp .leq a b = decide (a ≤ b) := by rw [qcmp_eq]; rfl
theorem qcmp_gtr (a b : Int) : qcmp .gtr a b = decide (b < a) := by rw [qcmp_eq]; rfl
theorem qcmp_geq (a b : Int) : qcmp .geq a b = decide (b ≤ a) := by rw [qcmp_eq]; rfl
theorem qcmp_eql (a b : Int) : qcmp .eql a b = decide (a = b) := by rw [qcmp_eq]; simp only [rcmp]; cases h : decide (a = b) <;> simp_all
theorem qcmp_neq (a b : Int) : qcmp .neq a b = !decide (a = b) := by rw [qcmp_eq]; simp only [rcmp, bne]; cases h : decide (a = b) <;> simp_all
theorem qiteB_c (c a b : Bool) : qiteB c a b = bif c then a else b := by rw [qiteB_eq]
theorem qnot_c (a : Bool) : qnot a = !a := by rw [qnot_eq]
theorem qlen_c (d : D) : qlen d = (d.toList.length : Int) := by rw [qlen_eq]; rfl
theorem qinb_c (d : D) (i : Int) : qinb d i = (decide (0 ≤ i) && decide (i < d.toList.length)) := by rw [qinb_eq]; rfl
theorem qget_n (d : D) (i : Nat) : qget d (i : Int) = d.toList.getD i .other := by rw [qget_eq]; simp [D.get]
theorem qinb_n {d : D} {i : Nat} (h : i < d.toList.length) : qinb d (i : Int) = true := by rw [qinb_c]; simp; omega

theorem cond_dec {α : Type} (p : Prop) [Decidable p] (a b : α) : (bif decide p then a else b) = if p then a else b := by by_cases h : p <;> simp [h]

/-- A loop that counts: so many rounds more. -/
def forN {A R : Type} (body : Nat → A → Option (Sum A R)) (fin : A → R) : Nat → Nat → A → Option R
  | _, 0, a => some (fin a)
  | i, k + 1, a => match body i a with
    | none => none
    | some (.inl a') => forN body fin (i + 1) k a'
    | some (.inr r) => some r

theorem loW_for {A S R : Type} {st : S → Option (Sum S R)} {enc : Nat → A → S} {n : Nat} {body : Nat → A → Option (Sum A R)} {fin : A → R} {I : Nat → A → Prop}
    (h1 : ∀ i a, i < n → I i a → st (enc i a) = match body i a with
      | none => none
      | some (.inl a') => some (.inl (enc (i + 1) a'))
      | some (.inr r) => some (.inr r))
    (h0 : ∀ a, I n a → st (enc n a) = some (.inr (fin a))) (hI : ∀ i a a', i < n → I i a → body i a = some (.inl a') → I (i + 1) a') :
    ∀ k i a, i + k = n → I i a → loW st (enc i a) = forN body fin i k a := by
  intro k
  induction k with
  | zero =>
    intro i a hi ha
    obtain rfl : i = n := by omega
    rw [loW_eq, h0 a ha]; rfl
  | succ k ih =>
    intro i a hi ha
    rw [loW_eq, h1 i a (by omega) ha]
    simp only [forN]
    cases hb : body i a with
    | none => rfl
    | some x =>
      cases x with
      | inr r => rfl
      | inl a' => exact ih (i + 1) a' (by omega) (hI i a a' (by omega) ha hb)

/-- A search: the first place at which there is an answer. -/
def srch {R : Type} (f : Nat → Option R) (r0 : R) : Nat → Nat → R
  | _, 0 => r0
  | i, k + 1 => match f i with
    | none => srch f r0 (i + 1) k
    | some r => r

theorem loW_srch {S R : Type} {st : S → Option (Sum S R)} {enc : Nat → S} {n : Nat} {f : Nat → Option R} {r0 : R}
    (h1 : ∀ i, i < n → st (enc i) = match f i with
      | none => some (.inl (enc (i + 1)))
      | some r => some (.inr r))
    (h0 : st (enc n) = some (.inr r0)) : ∀ k i, i + k = n → loW st (enc i) = some (srch f r0 i k) := by
  intro k
  induction k with
  | zero =>
    intro i hi
    obtain rfl : i = n := by omega
    rw [loW_eq, h0]; rfl
  | succ k ih =>
    intro i hi
    rw [loW_eq, h1 i (by omega)]
    simp only [srch]
    cases hb : f i with
    | some r => rfl
    | none => exact ih (i + 1) (by omega)

/-- A search in a list. -/
def srchL {α R : Type} (f : Nat → α → Option R) (r0 : R) : Nat → List α → R
  | _, [] => r0
  | i, x :: xs => match f i x with
    | none => srchL f r0 (i + 1) xs
    | some r => r

theorem srch_list {R : Type} {f : Nat → Option R} {g : Nat → D → Option R} {r0 : R} {xs : List D} (h : ∀ i x, xs[i]? = some x → f i = g i x) : ∀ k i, i + k = xs.length → srch f r0 i k = srchL g r0 i (xs.drop i) := by
  intro k
  induction k with
  | zero => intro i hi; rw [List.drop_of_length_le (by omega)]; rfl
  | succ k ih =>
    intro i hi
    have hlt : i < xs.length := by omega
    rw [List.drop_eq_getElem_cons hlt]
    simp only [srch, srchL]
    rw [h i xs[i] (List.getElem?_eq_getElem hlt)]
    cases g i xs[i] with
    | some r => rfl
    | none => exact ih (i + 1) (by omega)

/-- Does one of the list fit? -/
theorem srchL_any {R : Type} {p : D → Bool} {r : Nat → R} {r0 : R} {P : R → Bool} (h0 : P r0 = false) (h1 : ∀ i, P (r i) = true) : ∀ (xs : List D) (i : Nat), P (srchL (fun i x => if p x then some (r i) else none) r0 i xs) = xs.any p
  | [], i => h0
  | x :: xs, i => by
    simp only [srchL, List.any_cons]
    cases hp : p x with
    | true => simp [h1]
    | false => simpa using srchL_any h0 h1 xs (i + 1)

theorem getD_lt {xs : List D} {i : Nat} (h : i < xs.length) : xs.getD i .other = xs[i] := by simp [List.getD, h]

theorem wrap64' {n : Int} (h0 : -9223372036854775808 ≤ n) (h1 : n ≤ 9223372036854775807) : IntKind.i64.wrap n = n := wrap64 h0 h1

theorem add_nat {i : Nat} (h : i < 9223372036854775807) : qbin .add .i64 (i : Int) 1 = ((i + 1 : Nat) : Int) := by
  rw [add64 (by omega) (by omega)]; omega

/-- A search with a test that is a function. -/
theorem idxLoop {st : List D → Option (Sum (List D) (List D))} {l : D} {c : D → Option (List D)} {p : D → Bool} {r1 : Int → List D} {r0 : List D}
    (hst : ∀ i : Int, st [.int i] = bif qcmp .lss i (qlen l) then bif qinb l i then bif qsome (c (qget l i)) then bif qbool (qnth (c (qget l i)) 0) then some (.inr (r1 i)) else some (.inl [.int (qbin .add .i64 i 1)]) else none else none else some (.inr r0))
    (hl : l.toList.length ≤ maxLen) (hc : ∀ x ∈ l.toList, c x = some [.bool (p x)]) :
    (loW st [.int 0] = some r0 ∧ l.toList.any p = false) ∨ ∃ i : Nat, loW st [.int 0] = some (r1 i) ∧ l.toList.any p = true := by
  unfold maxLen at hl
  have key : ∀ k i : Nat, i + k = l.toList.length → (loW st [.int i] = some r0 ∧ (l.toList.drop i).any p = false) ∨ ∃ j : Nat, loW st [.int i] = some (r1 j) ∧ (l.toList.drop i).any p = true := by
    intro k
    induction k with
    | zero =>
      intro i hi
      left
      rw [loW_eq, hst, qcmp_lss, qlen_c, List.drop_of_length_le (by omega)]
      simp [show ¬ ((i : Int) < l.toList.length) by omega]
    | succ k ih =>
      intro i hi
      have hlt : i < l.toList.length := by omega
      rw [loW_eq, hst, qcmp_lss, qlen_c, qinb_n hlt, qget_n, getD_lt hlt, hc _ (List.getElem_mem hlt), List.drop_eq_getElem_cons hlt]
      simp only [show ((i : Int) < l.toList.length) by omega, decide_true, cond_true, qsome_s, qnth_s, List.getD_cons_zero, qbool_b, List.any_cons]
      cases hp : p l.toList[i] with
      | true => exact .inr ⟨i, rfl, by simp⟩
      | false =>
        simp only [cond_false, Bool.false_or]
        rw [add_nat (by omega)]
        exact ih (i + 1) (by omega)
  have := key l.toList.length 0 (by omega)
  simpa using this

theorem size_elem {d : D} {j : Nat} {x : D} (h : x ∈ (d.fld j).toList) : x.size < d.size := by
  cases d with
  | agg xs =>
    simp only [D.fld, List.getD] at h
    cases hx : xs[j]? with
    | none => rw [hx] at h; simp [D.toList] at h
    | some y =>
      rw [hx] at h
      simp only [Option.getD_some] at h
      have h1 := sizes_get hx
      cases y with
      | list ys =>
        simp only [D.toList] at h
        obtain ⟨i, hi⟩ := List.getElem?_of_mem h
        have h2 := sizes_get hi
        simp only [D.size] at h1 ⊢
        omega
      | _ => simp [D.toList] at h
  | _ => simp [D.fld, D.toList] at h

end Go.AM

namespace Go.Proofs.YtiojjmlccehpoaaGreat
set_option linter.unusedSimpArgs false
open Go Go.AM

/-- The shape of an instruction, if its opcode exists. -/
def shp (o f w cc : Int) : Option Int :=
  if 0 ≤ o ∧ o ≤ 2 then some 0
  else if o = 3 ∨ o = 4 then some 1
  else if 5 ≤ o ∧ o ≤ 15 then (if f = 0 then some 3 else if f = 1 then some 4 else if f = 2 then some 6 else none)
  else if o = 16 ∨ o = 18 then (if w = 1 ∨ w = 2 ∨ w = 4 then some 5 else none)
  else if o = 17 then (if w = 1 ∨ w = 2 then some 5 else none)
  else if o = 19 then some 5
  else if o = 20 then (if 0 ≤ cc ∧ cc ≤ 14 then (if f = 1 then some 7 else if f = 2 then some 8 else none) else none)
  else if o = 25 then (if 0 ≤ cc ∧ cc ≤ 14 then some 2 else none)
  else if o = 23 then some 8
  else if o = 24 ∨ o = 21 ∨ o = 26 ∨ o = 27 then some 2
  else if o = 22 then some 6
  else none

theorem ocases (o : Int) : (o < 0 ∨ 27 < o) ∨ (o = 0 ∨ o = 1 ∨ o = 2) ∨ o = 3 ∨ o = 4 ∨ (5 ≤ o ∧ o ≤ 15) ∨ o = 16 ∨ o = 17 ∨ o = 18 ∨ o = 19 ∨ o = 20 ∨ o = 21 ∨ o = 22 ∨ o = 23 ∨ o = 24 ∨ o = 25 ∨ o = 26 ∨ o = 27 := by omega

theorem acc_spec (d : D) (ho : qint (qfld d 2) = 16 ∨ qint (qfld d 2) = 17 ∨ qint (qfld d 2) = 18) :
    (∃ c, q134 [d] = some [.int c, .int 5, .bool true] ∧ shp (qint (qfld d 2)) (qint (qfld d 3)) (qint (qfld d 4)) (qint (qfld d 5)) = some 5) ∨
    (∃ c, q134 [d] = some [.int c, .int 5, .bool false] ∧ shp (qint (qfld d 2)) (qint (qfld d 3)) (qint (qfld d 4)) (qint (qfld d 5)) = none) := by
  rw [q134_eq, F134_eq]
  generalize qint (qfld d 2) = o at *
  generalize qint (qfld d 3) = f at *
  generalize qint (qfld d 4) = w at *
  simp only [qand_eq, qcmp_eql]
  rcases ho with rfl | rfl | rfl <;> by_cases h1 : w = 1 <;> by_cases h2 : w = 2 <;> by_cases h4 : w = 4 <;> first | omega | simp [*, shp]

theorem cc_spec (d : D) (ho : qint (qfld d 2) = 20 ∨ qint (qfld d 2) = 25) :
    (∃ c s, q135 [d] = some [.int c, .int s, .bool true] ∧ shp (qint (qfld d 2)) (qint (qfld d 3)) (qint (qfld d 4)) (qint (qfld d 5)) = some s) ∨
    (∃ c s, q135 [d] = some [.int c, .int s, .bool false] ∧ shp (qint (qfld d 2)) (qint (qfld d 3)) (qint (qfld d 4)) (qint (qfld d 5)) = none) := by
  rw [q135_eq, F135_eq]
  generalize qint (qfld d 2) = o at *
  generalize qint (qfld d 3) = f at *
  generalize qint (qfld d 4) = w at *
  generalize qint (qfld d 5) = cc at *
  simp only [qiteB_c, qcmp_eql, qcmp_lss, qcmp_gtr]
  rcases ho with rfl | rfl <;> by_cases h1 : cc < 0 <;> by_cases h2 : 14 < cc <;> by_cases h3 : f = 1 <;> by_cases h4 : f = 2 <;> first | omega | (simp [*, shp]; done) | (simp [*, shp]; omega)

/-- The opcode's shape. -/
theorem op_spec (d : D) :
    (∃ c s, q81 [d] = some [.int c, .int s, .bool true] ∧ shp (qint (qfld d 2)) (qint (qfld d 3)) (qint (qfld d 4)) (qint (qfld d 5)) = some s) ∨
    (∃ c s, q81 [d] = some [.int c, .int s, .bool false] ∧ shp (qint (qfld d 2)) (qint (qfld d 3)) (qint (qfld d 4)) (qint (qfld d 5)) = none) := by
  have hacc := acc_spec d
  have hcc := cc_spec d
  rw [q81_eq, F81_eq]
  generalize qint (qfld d 2) = o at *
  generalize qint (qfld d 3) = f at *
  generalize qint (qfld d 4) = w at *
  generalize qint (qfld d 5) = cc at *
  generalize qint (qfld d 6) = a at *
  simp only [qiteB_c, qcmp_eql, qcmp_geq, qcmp_leq]
  rcases ocases o with h | h | rfl | rfl | h | rfl | rfl | rfl | rfl | rfl | rfl | rfl | rfl | rfl | rfl | rfl | rfl
  · right
    simp [shp, show ¬ o = 0 by omega, show ¬ o = 1 by omega, show ¬ o = 2 by omega, show ¬ o = 3 by omega, show ¬ o = 4 by omega, show ¬ (5 ≤ o ∧ o ≤ 15) by omega, show ¬ (0 ≤ o ∧ o ≤ 2) by omega, show ¬ o = 16 by omega, show ¬ o = 17 by omega, show ¬ o = 18 by omega, show ¬ o = 19 by omega, show ¬ o = 20 by omega, show ¬ o = 21 by omega, show ¬ o = 22 by omega, show ¬ o = 23 by omega, show ¬ o = 24 by omega, show ¬ o = 25 by omega, show ¬ o = 26 by omega, show ¬ o = 27 by omega]
    rcases h with h | h
    · simp [show ¬ 5 ≤ o by omega]
    · simp [show ¬ o ≤ 15 by omega]
  · left
    rcases h with rfl | rfl | rfl <;> simp [shp]
  · left; simp [shp]
  · left; simp [shp]
  · obtain ⟨h1, h2⟩ := h
    by_cases f0 : f = 0
    · left; subst f0; simp [shp, h1, h2, show ¬ o = 0 by omega, show ¬ o = 1 by omega, show ¬ o = 2 by omega, show ¬ o = 3 by omega, show ¬ o = 4 by omega, show ¬ o ≤ 2 by omega]
    by_cases f1 : f = 1
    · left; subst f1; simp [shp, h1, h2, show ¬ o = 0 by omega, show ¬ o = 1 by omega, show ¬ o = 2 by omega, show ¬ o = 3 by omega, show ¬ o = 4 by omega, show ¬ o ≤ 2 by omega]
    by_cases f2 : f = 2
    · left; subst f2; simp [shp, h1, h2, show ¬ o = 0 by omega, show ¬ o = 1 by omega, show ¬ o = 2 by omega, show ¬ o = 3 by omega, show ¬ o = 4 by omega, show ¬ o ≤ 2 by omega]
    · right; simp [shp, f0, f1, f2, h1, h2, show ¬ o = 0 by omega, show ¬ o = 1 by omega, show ¬ o = 2 by omega, show ¬ o = 3 by omega, show ¬ o = 4 by omega, show ¬ o ≤ 2 by omega]
  · rcases hacc (by simp) with ⟨c, h, hs⟩ | ⟨c, h, hs⟩
    · left; exact ⟨c, 5, by simp [h, qsome_s, qnth_s, qint_i, qbool_b], hs⟩
    · right; exact ⟨c, 5, by simp [h, qsome_s, qnth_s, qint_i, qbool_b], hs⟩
  · rcases hacc (by simp) with ⟨c, h, hs⟩ | ⟨c, h, hs⟩
    · left; exact ⟨c, 5, by simp [h, qsome_s, qnth_s, qint_i, qbool_b], hs⟩
    · right; exact ⟨c, 5, by simp [h, qsome_s, qnth_s, qint_i, qbool_b], hs⟩
  · rcases hacc (by simp) with ⟨c, h, hs⟩ | ⟨c, h, hs⟩
    · left; exact ⟨c, 5, by simp [h, qsome_s, qnth_s, qint_i, qbool_b], hs⟩
    · right; exact ⟨c, 5, by simp [h, qsome_s, qnth_s, qint_i, qbool_b], hs⟩
  · left; simp [shp]
  · rcases hcc (by simp) with ⟨c, s, h, hs⟩ | ⟨c, s, h, hs⟩
    · left; exact ⟨c, s, by simp [h, qsome_s, qnth_s, qint_i, qbool_b], hs⟩
    · right; exact ⟨c, s, by simp [h, qsome_s, qnth_s, qint_i, qbool_b], hs⟩
  · left; simp [shp]
  · left; simp [shp]
  · left; simp [shp]
  · left; simp [shp]
  · rcases hcc (by simp) with ⟨c, s, h, hs⟩ | ⟨c, s, h, hs⟩
    · left; exact ⟨c, s, by simp [h, qsome_s, qnth_s, qint_i, qbool_b], hs⟩
    · right; exact ⟨c, s, by simp [h, qsome_s, qnth_s, qint_i, qbool_b], hs⟩
  · left; simp [shp]
  · left; simp [shp]

/-- What is kept of an instruction. -/
theorem kept_spec (d : D) (s : Int) : q124 [d, .int s] = some [.agg [.int (qint (qfld d 0)), .int (if 4 ≤ s ∧ s ≤ 8 then qint (qfld d 1) else 0), .int (qint (qfld d 2)),
    .int (if 5 ≤ qint (qfld d 2) ∧ qint (qfld d 2) ≤ 15 ∨ qint (qfld d 2) = 20 then qint (qfld d 3) else 0), .int (if 16 ≤ qint (qfld d 2) ∧ qint (qfld d 2) ≤ 18 then qint (qfld d 4) else 0),
    .int (if qint (qfld d 2) = 20 ∨ qint (qfld d 2) = 25 then qint (qfld d 5) else 0), .int (if 1 ≤ s ∧ s ≤ 6 then qint (qfld d 6) else 0), .int (if s = 3 ∨ s = 5 then qint (qfld d 7) else 0), .int (qint (qfld d 8))]] := by
  rw [q124_eq, F124_eq]
  generalize qint (qfld d 2) = o at *
  simp only [qiteB_c, qcmp_eql, qcmp_geq, qcmp_leq]
  have hsc : (s < 1 ∨ 8 < s) ∨ s = 1 ∨ s = 2 ∨ s = 3 ∨ s = 4 ∨ s = 5 ∨ s = 6 ∨ s = 7 ∨ s = 8 := by omega
  have hoc : (o < 5 ∨ (18 < o ∧ o ≠ 20 ∧ o ≠ 25)) ∨ (5 ≤ o ∧ o ≤ 15) ∨ o = 16 ∨ o = 17 ∨ o = 18 ∨ o = 20 ∨ o = 25 := by omega
  rcases hoc with ho | ho | rfl | rfl | rfl | rfl | rfl
  · have e1 : ¬ (5 ≤ o ∧ o ≤ 15) := by omega
    have e2 : (decide (5 ≤ o) && decide (o ≤ 15)) = false := by simp; omega
    rcases hsc with hs | rfl | rfl | rfl | rfl | rfl | rfl | rfl | rfl
    · simp [e1, e2, show ¬ o = 16 by omega, show ¬ o = 17 by omega, show ¬ o = 18 by omega, show ¬ o = 20 by omega, show ¬ o = 25 by omega, show ¬ (16 ≤ o ∧ o ≤ 18) by omega, show ¬ s = 1 by omega, show ¬ s = 2 by omega, show ¬ s = 3 by omega, show ¬ s = 4 by omega, show ¬ s = 5 by omega, show ¬ s = 6 by omega, show ¬ s = 7 by omega, show ¬ s = 8 by omega, show ¬ (1 ≤ s ∧ s ≤ 6) by omega, show ¬ (4 ≤ s ∧ s ≤ 8) by omega]
    all_goals
      simp [e1, e2, show ¬ o = 16 by omega, show ¬ o = 17 by omega, show ¬ o = 18 by omega, show ¬ o = 20 by omega, show ¬ o = 25 by omega, show ¬ (16 ≤ o ∧ o ≤ 18) by omega]
  · rcases hsc with hs | rfl | rfl | rfl | rfl | rfl | rfl | rfl | rfl
    · simp [ho.1, ho.2, show ¬ o = 16 by omega, show ¬ o = 17 by omega, show ¬ o = 18 by omega, show ¬ o = 20 by omega, show ¬ o = 25 by omega, show ¬ (16 ≤ o ∧ o ≤ 18) by omega, show ¬ s = 1 by omega, show ¬ s = 2 by omega, show ¬ s = 3 by omega, show ¬ s = 4 by omega, show ¬ s = 5 by omega, show ¬ s = 6 by omega, show ¬ s = 7 by omega, show ¬ s = 8 by omega, show ¬ (1 ≤ s ∧ s ≤ 6) by omega, show ¬ (4 ≤ s ∧ s ≤ 8) by omega]
    all_goals simp [ho.1, ho.2, show ¬ o = 16 by omega, show ¬ o = 17 by omega, show ¬ o = 18 by omega, show ¬ o = 20 by omega, show ¬ o = 25 by omega, show ¬ (16 ≤ o ∧ o ≤ 18) by omega]
  all_goals
    rcases hsc with hs | rfl | rfl | rfl | rfl | rfl | rfl | rfl | rfl
    · simp [show ¬ s = 1 by omega, show ¬ s = 2 by omega, show ¬ s = 3 by omega, show ¬ s = 4 by omega, show ¬ s = 5 by omega, show ¬ s = 6 by omega, show ¬ s = 7 by omega, show ¬ s = 8 by omega, show ¬ (1 ≤ s ∧ s ≤ 6) by omega, show ¬ (4 ≤ s ∧ s ≤ 8) by omega]
    all_goals simp

/-- What of an instruction must fit its shape. -/
def okA (s o f w cc a b imm j : Int) : Prop :=
  (0 ≤ a ∧ a < 8) ∧ (0 ≤ b ∧ b < 8) ∧ (4 ≤ s ∧ s ≤ 8 ∨ imm = 0) ∧ (5 ≤ o ∧ o ≤ 15 ∨ o = 20 ∨ f = 0) ∧ (16 ≤ o ∧ o ≤ 18 ∨ w = 0) ∧ (o = 20 ∨ o = 25 ∨ cc = 0) ∧ (1 ≤ s ∧ s ≤ 6 ∨ a = 0) ∧ (s = 3 ∨ s = 5 ∨ b = 0) ∧
  (s = 4 ∨ s = 5 → imm ≤ 127 ∨ 4294967168 ≤ imm) ∧ (s = 7 → j ≤ 127 ∨ 4294967168 ≤ j)

/-- The number that a short jump holds. -/
noncomputable def short (d : D) : Int := qbin .sub .u32 (qbin .sub .u32 (qint (qfld d 1)) (qint (qfld d 0))) 2

/-- Has an instruction an encoding, of that shape? -/
def hasS (d : D) (s : Int) : Prop :=
  shp (qint (qfld d 2)) (qint (qfld d 3)) (qint (qfld d 4)) (qint (qfld d 5)) = some s ∧ okA s (qint (qfld d 2)) (qint (qfld d 3)) (qint (qfld d 4)) (qint (qfld d 5)) (qint (qfld d 6)) (qint (qfld d 7)) (qint (qfld d 1)) (short d)

theorem qfld_agg (xs : List D) (j : Nat) : qfld (.agg xs) j = xs.getD j .other := by rw [qfld_eq]; rfl

theorem keq (C : Prop) [Decidable C] (x : Int) : decide ((if C then x else 0) = x) = decide (C ∨ x = 0) := by
  by_cases h : C
  · simp [h]
  · simp [h]; exact ⟨fun e => e.symm, fun e => e.symm⟩
theorem dself (x : Int) : decide (x = x) = true := by simp

theorem narB (s i j : Int) : (bif bif (bif decide (s = 4) then true else decide (s = 5)) then !(bif decide (i ≤ 127) then true else decide (4294967168 ≤ i)) else false then true else
    bif decide (s = 7) then !(bif decide (j ≤ 127) then true else decide (4294967168 ≤ j)) else false) = !decide ((s = 4 ∨ s = 5 → i ≤ 127 ∨ 4294967168 ≤ i) ∧ (s = 7 → j ≤ 127 ∨ 4294967168 ≤ j)) := by
  by_cases i1 : i ≤ 127 <;> by_cases i2 : 4294967168 ≤ i <;> by_cases j1 : j ≤ 127 <;> by_cases j2 : 4294967168 ≤ j <;> simp only [i1, i2, j1, j2, decide_true, decide_false, cond_true, cond_false, Bool.not_true, Bool.not_false, true_or, or_true, or_false, imp_true_iff, and_true, true_and, Bool.cond_self] <;>
    by_cases e4 : s = 4 <;> by_cases e5 : s = 5 <;> by_cases e7 : s = 7 <;> first | omega | simp [e4, e5, e7]

theorem chk69 (d : D) : (∃ c s, q69 [d] = some [.int c, .int s, .int 0] ∧ hasS d s) ∨ (∃ e, q69 [d] = some [.int 0, .int 0, .int e] ∧ e ≠ 0 ∧ ∀ s, ¬ hasS d s) := by
  rw [q69_eq, F69_eq]
  rcases op_spec d with ⟨c, s, h, hs⟩ | ⟨c, s, h, hs⟩
  · rw [h]
    simp only [qsome_s, qnth_s, List.getD_cons_zero, List.getD_cons_succ, qint_i, qbool_b, qnot_c, qiteB_c, qcmp_eql, qcmp_geq, qcmp_lss, qcmp_leq, kept_spec, qfld_agg, qand_eq]
    have key : hasS d s ↔ okA s (qint (qfld d 2)) (qint (qfld d 3)) (qint (qfld d 4)) (qint (qfld d 5)) (qint (qfld d 6)) (qint (qfld d 7)) (qint (qfld d 1)) (short d) := by
      unfold hasS; simp [hs]
    have keyn : ∀ s', s' ≠ s → ¬ hasS d s' := fun s' hne h' => by
      have := h'.1; rw [hs] at this; simp at this; omega
    have kn : ¬ hasS d s → ∀ s', ¬ hasS d s' := fun h1 s' h2 => by
      by_cases e : s' = s
      · exact h1 (e ▸ h2)
      · exact keyn s' e h2
    change _ ∨ _
    rw [show qbin BinOp.sub IntKind.u32 (qbin BinOp.sub IntKind.u32 (qint (qfld d 1)) (qint (qfld d 0))) 2 = short d from rfl]
    by_cases ha : 0 ≤ qint (qfld d 6) ∧ qint (qfld d 6) < 8
    · by_cases hb : 0 ≤ qint (qfld d 7) ∧ qint (qfld d 7) < 8
      · by_cases hk : (4 ≤ s ∧ s ≤ 8 ∨ qint (qfld d 1) = 0) ∧ (5 ≤ qint (qfld d 2) ∧ qint (qfld d 2) ≤ 15 ∨ qint (qfld d 2) = 20 ∨ qint (qfld d 3) = 0) ∧ (16 ≤ qint (qfld d 2) ∧ qint (qfld d 2) ≤ 18 ∨ qint (qfld d 4) = 0) ∧ (qint (qfld d 2) = 20 ∨ qint (qfld d 2) = 25 ∨ qint (qfld d 5) = 0) ∧ (1 ≤ s ∧ s ≤ 6 ∨ qint (qfld d 6) = 0) ∧ (s = 3 ∨ s = 5 ∨ qint (qfld d 7) = 0)
        · simp only [keq, dself, ha.1, ha.2, hb.1, hb.2, decide_true, cond_true, Bool.not_true, cond_false, Bool.true_and, Bool.and_true,
            decide_eq_true hk.1, decide_eq_true hk.2.2.1, decide_eq_true hk.2.2.2.2.1, or_assoc, decide_eq_true hk.2.1, decide_eq_true hk.2.2.2.1, decide_eq_true hk.2.2.2.2.2]
          by_cases hn : (s = 4 ∨ s = 5 → qint (qfld d 1) ≤ 127 ∨ 4294967168 ≤ qint (qfld d 1)) ∧ (s = 7 → short d ≤ 127 ∨ 4294967168 ≤ short d)
          · left
            refine ⟨c, s, ?_, key.2 ⟨ha, hb, hk.1, hk.2.1, hk.2.2.1, hk.2.2.2.1, hk.2.2.2.2.1, hk.2.2.2.2.2, hn⟩⟩
            simp only [narB, decide_eq_true hn, Bool.not_true, cond_false]
          · right
            refine ⟨7, ?_, by omega, kn (fun h' => hn (key.1 h').2.2.2.2.2.2.2.2)⟩
            simp only [narB, decide_eq_false hn, Bool.not_false, cond_true]
        · right
          refine ⟨2, ?_, by omega, kn (fun h' => hk ⟨(key.1 h').2.2.1, (key.1 h').2.2.2.1, (key.1 h').2.2.2.2.1, (key.1 h').2.2.2.2.2.1, (key.1 h').2.2.2.2.2.2.1, (key.1 h').2.2.2.2.2.2.2.1⟩)⟩
          simp only [keq, dself, ha.1, ha.2, hb.1, hb.2, decide_true, cond_true, Bool.not_true, cond_false, Bool.true_and, Bool.and_true, or_assoc]
          simp only [← Bool.decide_and, decide_eq_false hk, Bool.not_false, cond_true]
      · right
        refine ⟨2, ?_, by omega, kn (fun h' => hb (key.1 h').2.1)⟩
        simp only [ha.1, ha.2, decide_true, cond_true, Bool.not_true, cond_false]
        have : (bif decide (0 ≤ qint (qfld d 7)) then decide (qint (qfld d 7) < 8) else false) = false := by
          simp; omega
        rw [this]; rfl
    · right
      refine ⟨2, ?_, by omega, kn (fun h' => ha (key.1 h').1)⟩
      have : (bif decide (0 ≤ qint (qfld d 6)) then decide (qint (qfld d 6) < 8) else false) = false := by
        simp; omega
      simp only [this, Bool.not_true, Bool.not_false, cond_true, cond_false]
  · right
    refine ⟨2, ?_, by omega, fun s' h' => by have := h'.1; rw [hs] at this; cases this⟩
    simp [h, qsome_s, qnth_s, qbool_b, qnot_c]

theorem form_spec (d : D) : q186 [d] = some [.bool (decide (if 5 ≤ qint (qfld d 2) ∧ qint (qfld d 2) ≤ 15 then 0 ≤ qint (qfld d 3) ∧ qint (qfld d 3) ≤ 2 else if qint (qfld d 2) = 20 then qint (qfld d 3) = 1 ∨ qint (qfld d 3) = 2 else qint (qfld d 3) = 0))] := by
  rw [q186_eq, F186_eq]
  generalize qint (qfld d 2) = o at *
  generalize qint (qfld d 3) = f at *
  simp only [qiteB_c, qcmp_eql, qcmp_geq, qcmp_leq]
  by_cases h1 : 5 ≤ o <;> by_cases h2 : o ≤ 15 <;> by_cases h3 : o = 20 <;> first | omega | (simp [h1, h2, h3])

theorem width_spec (d : D) : q187 [d] = some [.bool (decide (if qint (qfld d 2) = 17 then qint (qfld d 4) = 1 ∨ qint (qfld d 4) = 2 else if qint (qfld d 2) = 16 ∨ qint (qfld d 2) = 18 then qint (qfld d 4) = 1 ∨ qint (qfld d 4) = 2 ∨ qint (qfld d 4) = 4 else qint (qfld d 4) = 0))] := by
  rw [q187_eq, F187_eq]
  generalize qint (qfld d 2) = o at *
  generalize qint (qfld d 4) = w at *
  simp only [qiteB_c, qcmp_eql, qcmp_geq, qcmp_leq]
  by_cases h1 : o = 16 <;> by_cases h2 : o = 17 <;> by_cases h3 : o = 18 <;> first | omega | (simp [h1, h2, h3]; done) | (simp [h1, h2, h3, Bool.or_assoc]; done)

theorem treeB {n1 n2 c1 c2 c3 c4 c5 c6 : Bool} {R : Prop} (h1 : n1 = true) (h2 : n2 = true) (hR : (c1 = false ∧ c2 = false ∧ c3 = false ∧ (c4 = true → c5 = false) ∧ c6 = false) ↔ R) :
    ∃ e, (bif n1 then bif n2 then bif c1 then some [D.int 2] else bif c2 then some [D.int 2] else bif c3 then some [D.int 2] else bif c4 then (bif c5 then some [D.int 7] else bif c6 then some [D.int 7] else some [D.int 0]) else bif c6 then some [D.int 7] else some [D.int 0] else none else none) = some [D.int e] ∧ (e = 0 ↔ R) := by
  subst h1 h2
  rw [← hR]
  cases c1 <;> cases c2 <;> cases c3 <;> cases c4 <;> cases c5 <;> cases c6 <;> simp

theorem chk126 (d : D) : ∃ e, q126 [d] = some [.int e] ∧ (e = 0 ↔ ∃ s, hasS d s) := by
  unfold hasS
  rw [q126_eq, F126_eq, form_spec, width_spec]
  rw [show qbin BinOp.sub IntKind.u32 (qbin BinOp.sub IntKind.u32 (qint (qfld d 1)) (qint (qfld d 0))) 2 = short d from rfl]
  generalize qint (qfld d 2) = o
  generalize qint (qfld d 3) = f
  generalize qint (qfld d 4) = w
  generalize qint (qfld d 5) = cc
  generalize qint (qfld d 6) = a
  generalize qint (qfld d 7) = b
  generalize qint (qfld d 1) = imm
  generalize short d = j
  simp only [qsome_s, qnth_s, List.getD_cons_zero, qbool_b, qnot_c, qiteB_c, qcmp_eql, qcmp_geq, qcmp_lss, qcmp_leq, qcmp_gtr, qcmp_neq]
  rcases ocases o with h | h | rfl | rfl | h | rfl | rfl | rfl | rfl | rfl | rfl | rfl | rfl | rfl | rfl | rfl | rfl
  all_goals refine treeB (by simp) (by simp) ?_
  · have : (bif decide (o < 0) then true else decide (27 < o)) = true := by simp; omega
    simp [this, shp, show ¬ (0 ≤ o ∧ o ≤ 2) by omega, show ¬ o = 3 by omega, show ¬ o = 4 by omega, show ¬ (5 ≤ o ∧ o ≤ 15) by omega, show ¬ o = 16 by omega, show ¬ o = 17 by omega, show ¬ o = 18 by omega, show ¬ o = 19 by omega, show ¬ o = 20 by omega, show ¬ o = 21 by omega, show ¬ o = 22 by omega, show ¬ o = 23 by omega, show ¬ o = 24 by omega, show ¬ o = 25 by omega, show ¬ o = 26 by omega, show ¬ o = 27 by omega]
  · rcases h with rfl | rfl | rfl <;> simp [shp, okA] <;> grind
  · simp [shp, okA] <;> grind
  · simp [shp, okA] <;> grind
  · obtain ⟨h1, h2⟩ := h
    by_cases f0 : f = 0
    · simp [shp, okA, h1, h2, f0, show ¬ o = 3 by omega, show ¬ o = 4 by omega, show ¬ o ≤ 2 by omega, show 3 ≤ o by omega, show o ≤ 27 by omega, show ¬ o = 16 by omega, show ¬ o = 17 by omega, show ¬ o = 18 by omega, show ¬ o = 19 by omega, show ¬ o = 20 by omega, show ¬ o = 22 by omega, show ¬ o = 23 by omega, show ¬ o = 25 by omega, show ¬ 16 ≤ o by omega]
      grind
    by_cases f1 : f = 1
    · simp [shp, okA, h1, h2, f1, show ¬ o = 3 by omega, show ¬ o = 4 by omega, show ¬ o ≤ 2 by omega, show 3 ≤ o by omega, show o ≤ 27 by omega, show ¬ o = 16 by omega, show ¬ o = 17 by omega, show ¬ o = 18 by omega, show ¬ o = 19 by omega, show ¬ o = 20 by omega, show ¬ o = 22 by omega, show ¬ o = 23 by omega, show ¬ o = 25 by omega, show ¬ 16 ≤ o by omega]
      grind
    by_cases f2 : f = 2
    · simp [shp, okA, h1, h2, f2, show ¬ o = 3 by omega, show ¬ o = 4 by omega, show ¬ o ≤ 2 by omega, show 3 ≤ o by omega, show o ≤ 27 by omega, show ¬ o = 16 by omega, show ¬ o = 17 by omega, show ¬ o = 18 by omega, show ¬ o = 19 by omega, show ¬ o = 20 by omega, show ¬ o = 22 by omega, show ¬ o = 23 by omega, show ¬ o = 25 by omega, show ¬ 16 ≤ o by omega]
      grind
    · simp [shp, okA, h1, h2, f0, f1, f2, show ¬ o = 3 by omega, show ¬ o = 4 by omega, show ¬ o ≤ 2 by omega, show 3 ≤ o by omega, show o ≤ 27 by omega, show ¬ o = 16 by omega, show ¬ o = 17 by omega, show ¬ o = 18 by omega, show ¬ o = 19 by omega, show ¬ o = 20 by omega, show ¬ o = 22 by omega, show ¬ o = 23 by omega, show ¬ o = 25 by omega, show ¬ 16 ≤ o by omega]
      try grind
  · simp [shp, okA] <;> grind
  · simp [shp, okA] <;> grind
  · simp [shp, okA] <;> grind
  · simp [shp, okA] <;> grind
  · simp [shp, okA] <;> grind
  · simp [shp, okA] <;> grind
  · simp [shp, okA] <;> grind
  · simp [shp, okA] <;> grind
  · simp [shp, okA] <;> grind
  · simp [shp, okA] <;> grind
  · simp [shp, okA] <;> grind
  · simp [shp, okA] <;> grind

/-- How many bytes a shape has. -/
def lenS (s : Int) : Int := if s = 0 ∨ s = 1 then 1 else if s = 2 ∨ s = 3 ∨ s = 7 then 2 else if s = 4 ∨ s = 5 then 3 else if s = 6 then 6 else 5

theorem shp_le {o f w cc s : Int} (h : shp o f w cc = some s) : 0 ≤ s ∧ s ≤ 8 := by
  unfold shp at h
  repeat' split at h
  all_goals first | (cases h; done) | (injection h with h; omega)

theorem lenS_pos (s : Int) : 1 ≤ lenS s ∧ lenS s ≤ 6 := by
  unfold lenS; repeat' split
  all_goals omega

theorem size_spec {s : Int} (h : 0 ≤ s ∧ s ≤ 8) : q73 [.int s] = some [.int (lenS s)] := by
  rw [q73_eq, F73_eq]
  obtain rfl | rfl | rfl | rfl | rfl | rfl | rfl | rfl | rfl : s = 0 ∨ s = 1 ∨ s = 2 ∨ s = 3 ∨ s = 4 ∨ s = 5 ∨ s = 6 ∨ s = 7 ∨ s = 8 := by omega
  all_goals (rw [qinbS_eq, qidxS_eq, qbin_eq, qwrap_eq]; kernel_rfl)

theorem acode_spec (d : D) : ∃ c, q198 [d] = some [.int c] := by
  rw [q198_eq, F198_eq]
  generalize qcmp BinOp.eql (qint (qfld d 2)) 17 = c1
  generalize qcmp BinOp.eql (qint (qfld d 4)) 1 = c2
  generalize qiteB (qcmp BinOp.eql (qint (qfld d 4)) 2) (qcmp BinOp.eql (qint (qfld d 2)) 16) Bool.false = c3
  generalize qcmp BinOp.eql (qint (qfld d 4)) 2 = c4
  cases c1 <;> cases c2 <;> cases c3 <;> cases c4 <;> exact ⟨_, rfl⟩

theorem bytes_spec {d : D} {s : Int} (h : hasS d s) : ∃ bs, q127 [d] = some [bs] ∧ qlen bs = lenS s := by
  obtain ⟨c, hc⟩ := acode_spec d
  have h1 := h.1
  rw [q127_eq, F127_eq, hc, q199_eq, F199_eq]
  generalize qint (qfld d 2) = o at *
  generalize qint (qfld d 3) = f at *
  generalize qint (qfld d 4) = w at *
  generalize qint (qfld d 5) = cc at *
  simp only [qsome_s, qnth_s, List.getD_cons_zero, qiteB_c, qcmp_eql, qcmp_geq, qcmp_leq]
  rcases ocases o with h | h | rfl | rfl | h | rfl | rfl | rfl | rfl | rfl | rfl | rfl | rfl | rfl | rfl | rfl | rfl
  · exfalso
    simp [shp, show ¬ (0 ≤ o ∧ o ≤ 2) by omega, show ¬ o = 3 by omega, show ¬ o = 4 by omega, show ¬ (5 ≤ o ∧ o ≤ 15) by omega, show ¬ o = 16 by omega, show ¬ o = 17 by omega, show ¬ o = 18 by omega, show ¬ o = 19 by omega, show ¬ o = 20 by omega, show ¬ o = 21 by omega, show ¬ o = 22 by omega, show ¬ o = 23 by omega, show ¬ o = 24 by omega, show ¬ o = 25 by omega, show ¬ o = 26 by omega, show ¬ o = 27 by omega] at h1
  · rcases h with rfl | rfl | rfl <;> simp [shp] at h1 <;> subst h1 <;> (simp [qsome_s, qnth_s]; rw [qlen_c]; rfl)
  · simp [shp] at h1; subst h1; (simp [qsome_s, qnth_s]; rw [qlen_c]; rfl)
  · simp [shp] at h1; subst h1; (simp [qsome_s, qnth_s]; rw [qlen_c]; rfl)
  · obtain ⟨h2, h3⟩ := h
    simp only [shp, h2, h3, show ¬ o = 3 by omega, show ¬ o = 4 by omega, show ¬ (0 ≤ o ∧ o ≤ 2) by omega, true_and, if_true, if_false, or_self] at h1
    simp only [h2, h3, decide_true, cond_true]
    by_cases f0 : f = 0
    · rw [if_pos f0] at h1; injection h1 with h1; subst h1; (simp [f0]; rw [qlen_c]; rfl)
    by_cases f1 : f = 1
    · rw [if_neg f0, if_pos f1] at h1; injection h1 with h1; subst h1; (simp [f1]; rw [qlen_c]; rfl)
    by_cases f2 : f = 2
    · rw [if_neg f0, if_neg f1, if_pos f2] at h1; injection h1 with h1; subst h1; (simp [f2]; rw [qlen_c]; rfl)
    · rw [if_neg f0, if_neg f1, if_neg f2] at h1; cases h1
  · have : s = 5 := by revert h1; simp only [shp]; by_cases w1 : w = 1 ∨ w = 2 ∨ w = 4 <;> simp [w1] <;> omega
    subst this; (simp; rw [qlen_c]; rfl)
  · have : s = 5 := by revert h1; simp only [shp]; by_cases w1 : w = 1 ∨ w = 2 <;> simp [w1] <;> omega
    subst this; (simp; rw [qlen_c]; rfl)
  · have : s = 5 := by revert h1; simp only [shp]; by_cases w1 : w = 1 ∨ w = 2 ∨ w = 4 <;> simp [w1] <;> omega
    subst this; (simp; rw [qlen_c]; rfl)
  · simp [shp] at h1; subst h1; (simp; rw [qlen_c]; rfl)
  · by_cases hcc : 0 ≤ cc ∧ cc ≤ 14
    · by_cases f1 : f = 1
      · simp [shp, hcc, f1] at h1; subst h1; (simp [f1]; rw [qlen_c]; rfl)
      by_cases f2 : f = 2
      · simp [shp, hcc, f2] at h1; subst h1; (simp [f2]; rw [qlen_c]; rfl)
      · simp [shp, hcc, f1, f2] at h1
    · simp [shp, hcc] at h1
  · simp [shp] at h1; subst h1; (simp [qsome_s, qnth_s]; rw [qlen_c]; rfl)
  · simp [shp] at h1; subst h1; (simp [qsome_s, qnth_s]; rw [qlen_c]; rfl)
  · simp [shp] at h1; subst h1; (simp [qsome_s, qnth_s]; rw [qlen_c]; rfl)
  · simp [shp] at h1; subst h1; (simp [qsome_s, qnth_s]; rw [qlen_c]; rfl)
  · by_cases hcc : 0 ≤ cc ∧ cc ≤ 14
    · simp [shp, hcc] at h1; subst h1; (simp [qsome_s, qnth_s]; rw [qlen_c]; rfl)
    · simp [shp, hcc] at h1
  · simp [shp] at h1; subst h1; (simp [qsome_s, qnth_s]; rw [qlen_c]; rfl)
  · simp [shp] at h1; subst h1; (simp [qsome_s, qnth_s]; rw [qlen_c]; rfl)

open Classical in
/-- How many bytes has it? -/
noncomputable def lenI (d : D) : Int := if h : ∃ s, hasS d s then lenS h.choose else 0

/-- Has an instruction an encoding? -/
noncomputable def vld (d : D) : Bool := decide (lenI d ≠ 0)

theorem hasS_un {d : D} {s s' : Int} (h : hasS d s) (h' : hasS d s') : s = s' := by
  have := h.1.symm.trans h'.1; injection this

theorem lenI_of {d : D} {s : Int} (h : hasS d s) : lenI d = lenS s := by
  unfold lenI
  rw [dif_pos ⟨s, h⟩]
  exact congrArg lenS (hasS_un (Exists.choose_spec (⟨s, h⟩ : ∃ s, hasS d s)) h)
theorem lenI_none {d : D} (h : ¬ ∃ s, hasS d s) : lenI d = 0 := by unfold lenI; rw [dif_neg h]
theorem vld_iff {d : D} : vld d = true ↔ ∃ s, hasS d s := by
  unfold vld
  rw [decide_eq_true_iff]
  constructor
  · intro h
    by_cases hx : ∃ s, hasS d s
    · exact hx
    · exact absurd (lenI_none hx) h
  · rintro ⟨s, hs⟩
    rw [lenI_of hs]
    have := lenS_pos s
    omega
theorem lenI_pos {d : D} (h : vld d = true) : 1 ≤ lenI d ∧ lenI d ≤ 6 := by
  obtain ⟨s, hs⟩ := vld_iff.1 h
  rw [lenI_of hs]; exact lenS_pos s
theorem lenI_le (d : D) : 0 ≤ lenI d ∧ lenI d ≤ 6 := by
  by_cases h : ∃ s, hasS d s
  · have := lenI_pos (vld_iff.2 h); omega
  · rw [lenI_none h]; omega

theorem valid_spec (d : D) : q20 [d] = some [.bool (vld d)] ∧ q71 [d] = some [.bool (vld d)] ∧ q23 [d] = some [.int (lenI d)] ∧ q72 [d] = some [.int (lenI d)] := by
  obtain ⟨e', h126, he'⟩ := chk126 d
  have h71 : q71 [d] = some [.bool (vld d)] := by
    rw [q71_eq, F71_eq, h126]
    simp only [qsome_s, qnth_s, List.getD_cons_zero, qint_i, cond_true, qcmp_eql]
    by_cases hx : ∃ s, hasS d s
    · simp [vld_iff.2 hx, he'.2 hx]
    · have hv : vld d = false := by rw [Bool.eq_false_iff]; exact mt vld_iff.1 hx
      simp [hv, mt he'.1 hx]
  rcases chk69 d with ⟨c, s, h69, hs⟩ | ⟨e, h69, he, hn⟩
  · obtain ⟨bs, hb, hl⟩ := bytes_spec hs
    have hv : vld d = true := vld_iff.2 ⟨s, hs⟩
    refine ⟨?_, h71, ?_, ?_⟩
    · rw [q20_eq, F20_eq, h69, hv]; simp [qsome_s, qnth_s, qint_i, qcmp_eql]
    · rw [q23_eq, F23_eq, h69, lenI_of hs]
      simp only [qsome_s, qnth_s, List.getD_cons_zero, List.getD_cons_succ, qint_i, size_spec (shp_le hs.1), qcmp_neq]
      simp
    · rw [q72_eq, F72_eq, h71, hv, hb, lenI_of hs]
      simp [qsome_s, qnth_s, qbool_b, qnot_c, hl]
  · have hx : ¬ ∃ s, hasS d s := fun ⟨s, h⟩ => hn s h
    have hv : vld d = false := by rw [Bool.eq_false_iff]; exact mt vld_iff.1 hx
    refine ⟨?_, h71, ?_, ?_⟩
    · rw [q20_eq, F20_eq, h69, hv]; simp [qsome_s, qnth_s, qint_i, qcmp_eql, he]
    · rw [q23_eq, F23_eq, h69, lenI_none hx]; simp [qsome_s, qnth_s, qint_i, qcmp_neq, he]
    · rw [q72_eq, F72_eq, h71, hv, lenI_none hx]; simp [qsome_s, qnth_s, qbool_b, qnot_c]

end Go.Proofs.YtiojjmlccehpoaaGreat

namespace Go.Proofs.YtiojjmlccehpoaaGreat
set_option linter.unusedSimpArgs false
open Go Go.AM

/-- A list, by its elements' places. -/
def tab (n : Nat) (f : Nat → D) : D := .list ((List.range n).map f)

theorem tab_toList (n : Nat) (f : Nat → D) : (tab n f).toList = (List.range n).map f := rfl
theorem tab_len (n : Nat) (f : Nat → D) : qlen (tab n f) = (n : Int) := by rw [qlen_c]; simp [tab_toList]
theorem tab_inb {n k : Nat} (f : Nat → D) (h : k < n) : qinb (tab n f) (k : Int) = true := by rw [qinb_c]; simp [tab_toList]; omega
theorem tab_get {n k : Nat} (f : Nat → D) (h : k < n) : qget (tab n f) (k : Int) = f k := by rw [qget_n]; simp [tab_toList, List.getD, h]
theorem tab_inbI {n : Nat} {i : Int} (f : Nat → D) (h0 : 0 ≤ i) (h : i < n) : qinb (tab n f) i = true := by rw [qinb_c]; simp [tab_toList]; omega
theorem tab_getI {n : Nat} {i : Int} (f : Nat → D) (h0 : 0 ≤ i) (h : i < n) : qget (tab n f) i = f i.toNat := by
  obtain ⟨k, rfl⟩ := Int.eq_ofNat_of_zero_le h0
  exact tab_get f (by omega)
theorem tab_app {n : Nat} (f : Nat → D) (v : D) (h : f n = v) : qapp (tab n f) (.list [v]) = tab (n + 1) f := by
  rw [qapp_eq]; subst h
  simp [D.app, tab, D.toList, List.range_succ]
theorem tab_set {n k : Nat} (f : Nat → D) (v : D) : qset (tab n f) (k : Int) v = tab n (fun j => if j = k then v else f j) := by
  rw [qset_eq]
  simp only [D.upd, tab, D.toList, Int.toNat_natCast]
  congr 1
  apply List.ext_getElem
  · simp
  · intro i h1 h2
    rw [List.getElem_set]
    simp only [List.getElem_map, List.getElem_range]
    by_cases h : k = i
    · simp [h]
    · simp [h, show ¬ i = k from fun e => h e.symm]
theorem tab_congr {n : Nat} {f g : Nat → D} (h : ∀ j, j < n → f j = g j) : tab n f = tab n g := by
  unfold tab
  congr 1
  apply List.map_congr_left
  intro j hj
  exact h j (by simpa using hj)
theorem tab_self (xs : List D) : D.list xs = tab xs.length (fun j => xs.getD j .other) := by
  unfold tab
  congr 1
  apply List.ext_getElem
  · simp
  · intro i h1 h2
    simp [List.getD, h1]

/-- An instruction at an address, with a size; a jump has its long form. -/
noncomputable def ins (x : D) (imm a n : Int) : D := .agg [.int a, .int imm, .int (qint (qfld x 2)), .int (if qint (qfld x 2) = 20 then 2 else qint (qfld x 3)), .int (qint (qfld x 4)), .int (qint (qfld x 5)), .int (qint (qfld x 6)), .int (qint (qfld x 7)), .int n]

/-- Does it have a target? -/
def goes (x : D) : Prop := qint (qfld x 2) = 20 ∨ qint (qfld x 2) = 23

theorem has_ins {x : D} {imm imm' a a' n n' s : Int} (hi : imm = imm' ∨ goes x) (h : hasS (ins x imm a n) s) : hasS (ins x imm' a' n') s := by
  unfold hasS ins at *
  simp only [qfld_agg, List.getD_cons_zero, List.getD_cons_succ, qint_i] at *
  refine ⟨h.1, ?_⟩
  obtain ⟨h1, h2⟩ := h
  unfold okA at *
  obtain ⟨e1, e2, e3, e4, e5, e6, e7, e8, e9, e10⟩ := h2
  rcases hi with rfl | hg
  · refine ⟨e1, e2, e3, e4, e5, e6, e7, e8, e9, ?_⟩
    intro h7
    subst h7
    exfalso
    revert h1
    unfold shp
    by_cases ho : qint (qfld x 2) = 20
    · simp [ho]
    · simp only [ho, if_false]
      repeat' split
      all_goals simp
  · have hs : s = 8 := by
      revert h1
      unfold shp
      rcases hg with ho | ho
      · simp [ho]; omega
      · simp [ho]; omega
    subst hs
    exact ⟨e1, e2, .inl ⟨by omega, by omega⟩, e4, e5, e6, e7, e8, by omega, by omega⟩

theorem len_ins {x : D} {imm imm' a a' n n' : Int} (hi : imm = imm' ∨ goes x) : lenI (ins x imm a n) = lenI (ins x imm' a' n') := by
  by_cases h : ∃ s, hasS (ins x imm a n) s
  · obtain ⟨s, hs⟩ := h
    rw [lenI_of hs, lenI_of (has_ins hi hs)]
  · have h' : ¬ ∃ s, hasS (ins x imm' a' n') s := fun ⟨s, hs⟩ => h ⟨s, has_ins (hi.imp Eq.symm id) hs⟩
    rw [lenI_none h, lenI_none h']
theorem vld_ins {x : D} {imm imm' a a' n n' : Int} (hi : imm = imm' ∨ goes x) : vld (ins x imm a n) = vld (ins x imm' a' n') := by
  unfold vld; rw [len_ins hi]

/-- How long an instruction will be, and whether it has an encoding. -/
noncomputable def lenX (x : D) : Int := lenI (ins x (qint (qfld x 1)) 0 0)
noncomputable def vldX (x : D) : Bool := vld (ins x (qint (qfld x 1)) 0 0)

theorem lenX_le (x : D) : 0 ≤ lenX x ∧ lenX x ≤ 6 := lenI_le _
theorem len23 (x : D) (a n : Int) : q23 [ins x (qint (qfld x 1)) a n] = some [.int (lenX x)] := by rw [(valid_spec _).2.2.1, len_ins (.inl rfl)]; rfl
theorem len72 (x : D) (a n : Int) : q72 [ins x (qint (qfld x 1)) a n] = some [.int (lenX x)] := by rw [(valid_spec _).2.2.2, len_ins (.inl rfl)]; rfl
theorem val71 (x : D) (a n : Int) : q71 [ins x (qint (qfld x 1)) a n] = some [.bool (vldX x)] := by rw [(valid_spec _).2.1, vld_ins (.inl rfl)]; rfl
theorem val20 {x : D} (i a n : Int) (hi : i = qint (qfld x 1) ∨ goes x) : q20 [ins x i a n] = some [.bool (vldX x)] := by rw [(valid_spec _).1, vld_ins hi]; rfl

/-- The bytes of the first instructions. -/
noncomputable def tot (g : Nat → D) : Nat → Int
  | 0 => 0
  | k + 1 => tot g k + lenX (g k)
theorem tot_le (g : Nat → D) : ∀ k : Nat, 0 ≤ tot g k ∧ tot g k ≤ 6 * k
  | 0 => by simp [tot]
  | k + 1 => by have := tot_le g k; have := lenX_le (g k); simp only [tot]; omega

/-- The address of an instruction. -/
noncomputable def adr (g : Nat → D) (at_ : Int) (k : Nat) : Int := IntKind.u32.wrap (at_ + tot g k)

theorem wrap32 (n : Int) : IntKind.u32.wrap n = n % 4294967296 := by
  simp only [IntKind.wrap, IntKind.bits, IntKind.signed]
  simp
theorem qadr (g : Nat → D) (at_ : Int) (k : Nat) : qbin .add .u32 at_ (qwrap .u32 (tot g k)) = adr g at_ k := by
  rw [qbin_eq, qwrap_eq]; simp only [rbin, adr, wrap32]; omega
theorem qadr' (g : Nat → D) (at_ : Int) (k : Nat) : qbin .add .u32 (adr g at_ k) (qwrap .u32 (lenX (g k))) = adr g at_ (k + 1) := by
  rw [qbin_eq, qwrap_eq]; simp only [rbin, adr, wrap32, tot]; omega

/-- An instruction, laid out, its target as it was. -/
noncomputable def laid (g : Nat → D) (at_ : Int) (k : Nat) : D := ins (g k) (qint (qfld (g k) 1)) (adr g at_ k) (lenX (g k))

theorem qmem_small {n z : Nat} (hn : n ≤ 1000) (hz : z ≤ 100) : qmem (n : Int) z = true := by
  rw [qmem_eq]
  unfold rmem
  have h : (n : Int) * z ≤ 1000 * 100 := by
    have h1 : n * z ≤ 1000 * 100 := Nat.mul_le_mul hn hz
    have h2 : ((n * z : Nat) : Int) = (n : Int) * (z : Int) := by simp
    omega
  simp
  omega

theorem leq0 (k : Nat) : qcmp .leq 0 (k : Int) = true := by rw [qcmp_leq]; simp
theorem lssN {k n : Nat} (h : k < n) : qcmp .lss (k : Int) (n : Int) = true := by rw [qcmp_lss]; simp [h]
theorem lssNn {k n : Nat} (h : n ≤ k) : qcmp .lss (k : Int) (n : Int) = false := by rw [qcmp_lss]; simp; omega
theorem eqlN (n : Nat) : qcmp .eql (n : Int) (n : Int) = true := by rw [qcmp_eql]; simp

theorem step21_7 (pd0 pd1 : D) (at_ : Int) {n k : Nat} (g w : Nat → D) (hk : k < n) (hn : n ≤ 60) (hw : w k = g k) :
    st21_7 [pd0, pd1, .int at_, .int n] [.int (tot g k), .int k, tab k (fun j => .int (adr g at_ j)), tab n w] =
      some (.inl [.int (tot g (k + 1)), .int ((k + 1 : Nat) : Int), tab (k + 1) (fun j => .int (adr g at_ j)), tab n (fun j => if j = k then laid g at_ k else w j)]) := by
  rw [st21_7_eq]
  simp only [st21_7_a9, st21_7_a8, st21_7_a7, st21_7_a6, st21_7_a5, st21_7_a4, st21_7_a3, st21_7_a2, st21_7_a1, st21_7_a0]
  have hap : qapp (tab k (fun j => D.int (adr g at_ j))) (.list [.int (adr g at_ k)]) = tab (k + 1) (fun j => .int (adr g at_ j)) := tab_app _ _ rfl
  rw [qadr, hap, add_nat (i := k) (by omega)]
  have hl := len23 (g k) (adr g at_ k) (qint (qfld (g k) 8))
  have hlen : qbin .add .i64 (tot g k) (lenX (g k)) = tot g (k + 1) := by
    have := tot_le g k; have := lenX_le (g k)
    rw [add64 (by omega) (by omega)]; rfl
  simp only [lssN hk, leq0, tab_len, tab_inb _ hk, tab_get _ hk, hw, tab_set, tab_inb _ (Nat.lt_succ_self k), tab_get _ (Nat.lt_succ_self k), lssN (Nat.lt_succ_self k), qmem_small (show k + 1 ≤ 1000 by omega) (show 4 ≤ 100 by omega), if_true, cond_true, qfld_agg, List.getD_cons_zero, List.getD_cons_succ, qint_i, eqlN]
  by_cases ho : qint (qfld (g k) 2) = 20
  · simp only [ins, ho, if_true] at hl
    simp only [ho, qcmp_eql, decide_true, cond_true, hl, qsome_s, qnth_s, List.getD_cons_zero, qint_i, hlen]
    refine congrArg (fun d => some (Sum.inl [D.int (tot g (k + 1)), D.int ((k + 1 : Nat) : Int), tab (k + 1) (fun j => D.int (adr g at_ j)), d])) (tab_congr fun j _ => ?_)
    by_cases hj : j = k
    · simp [hj, laid, ins, ho]
    · simp [hj]
  · simp only [ins, ho, if_false] at hl
    simp only [ho, qcmp_eql, decide_false, cond_false, hl, qsome_s, qnth_s, List.getD_cons_zero, qint_i, hlen, cond_true]
    refine congrArg (fun d => some (Sum.inl [D.int (tot g (k + 1)), D.int ((k + 1 : Nat) : Int), tab (k + 1) (fun j => D.int (adr g at_ j)), d])) (tab_congr fun j _ => ?_)
    by_cases hj : j = k
    · simp [hj, laid, ins, ho]
    · simp [hj]

theorem loop21_7 (pd0 pd1 : D) (at_ : Int) {n : Nat} (g : Nat → D) (hn : n ≤ 60) : l21_7 [pd0, pd1, .int at_, .int n] [.int 0, .int 0, tab 0 (fun j => .int (adr g at_ j)), tab n g] =
    some [.int 0, .int (tot g n), tab n (fun j => .int (adr g at_ j)), tab n (laid g at_)] := by
  have key : ∀ m k : Nat, k + m = n → loW (st21_7 [pd0, pd1, .int at_, .int n]) [.int (tot g k), .int k, tab k (fun j => .int (adr g at_ j)), tab n (fun j => if j < k then laid g at_ j else g j)] =
      some [.int 0, .int (tot g n), tab n (fun j => .int (adr g at_ j)), tab n (laid g at_)] := by
    intro m
    induction m with
    | zero =>
      intro k hk
      obtain rfl : k = n := by omega
      rw [loW_eq, st21_7_eq, lssNn (Nat.le_refl _)]
      simp only [cond_false]
      rw [tab_congr (f := fun j => if j < k then laid g at_ j else g j) (g := laid g at_) (fun j hj => by simp [hj])]
    | succ m ih =>
      intro k hk
      rw [loW_eq, step21_7 pd0 pd1 at_ g _ (by omega) hn (by simp)]
      simp only []
      rw [show tab n (fun j => if j = k then laid g at_ k else if j < k then laid g at_ j else g j) = tab n (fun j => if j < k + 1 then laid g at_ j else g j) from tab_congr fun j _ => by
        by_cases h1 : j = k
        · simp [h1]
        · by_cases h2 : j < k
          · simp [h1, h2, show j < k + 1 by omega]
          · simp [h1, h2, show ¬ j < k + 1 by omega]]
      exact ih (k + 1) (by omega)
  rw [l21_7_eq]
  have := key n 0 (by omega)
  simpa [tot] using this

/-- An instruction, laid out. -/
noncomputable def fin (g : Nat → D) (at_ : Int) (lb : Nat → D) (k : Nat) : D := if 0 ≤ qint (lb k) then ins (g k) (adr g at_ (qint (lb k)).toNat) (adr g at_ k) (lenX (g k)) else laid g at_ k

/-- What is refused. -/
def bad (g : Nat → D) (n : Nat) (lb : Nat → D) (k : Nat) : Prop := qint (lb k) < -1 ∨ (n : Int) < qint (lb k) ∨ (qint (lb k) ≠ -1 ∧ ¬ goes (g k)) ∨ vldX (g k) = false

theorem laid_fs (g : Nat → D) (at_ : Int) (k : Nat) : qint (qfld (laid g at_ k) 0) = adr g at_ k ∧ qint (qfld (laid g at_ k) 1) = qint (qfld (g k) 1) ∧ qint (qfld (laid g at_ k) 2) = qint (qfld (g k) 2) ∧
    qint (qfld (laid g at_ k) 3) = (if qint (qfld (g k) 2) = 20 then 2 else qint (qfld (g k) 3)) ∧ qint (qfld (laid g at_ k) 4) = qint (qfld (g k) 4) ∧ qint (qfld (laid g at_ k) 5) = qint (qfld (g k) 5) ∧
    qint (qfld (laid g at_ k) 6) = qint (qfld (g k) 6) ∧ qint (qfld (laid g at_ k) 7) = qint (qfld (g k) 7) ∧ qint (qfld (laid g at_ k) 8) = lenX (g k) := by
  simp [laid, ins, qfld_agg, qint_i]

theorem step21_18 (pd0 : D) (pn1 at_ : Int) {n k : Nat} (g lb w : Nat → D) (hk : k < n) (hn : n ≤ 60) (h0 : qlen pd0 = n) (hw : w k = laid g at_ k) :
    (bad g n lb k → st21_18 [pd0, .int pn1, tab n lb, .int n, tab (n + 1) (fun j => .int (adr g at_ j))] [.int k, tab n w] = some (.inr [.int 1])) ∧
    (¬ bad g n lb k → st21_18 [pd0, .int pn1, tab n lb, .int n, tab (n + 1) (fun j => .int (adr g at_ j))] [.int k, tab n w] =
      some (.inl [.int ((k + 1 : Nat) : Int), tab n (fun j => if j = k then fin g at_ lb k else w j)])) := by
  have hop : qint (qfld (laid g at_ k) 2) = qint (qfld (g k) 2) := by simp [laid, ins, qfld_agg, qint_i]
  have hg : ∀ a b : Prop, [Decidable a] → [Decidable b] → (bif decide a then true else decide b) = decide (a ∨ b) := by
    intro a b _ _
    by_cases h : a <;> simp [h]
  rw [st21_18_eq]
  simp only [h0, lssN hk, leq0, tab_len, tab_inb _ hk, tab_get _ hk, hw, tab_set, cond_true, eqlN, hop, qand_eq, Bool.and_self, qiteB_c, qcmp_eql, qcmp_lss, qcmp_gtr, qcmp_neq, qcmp_geq, qnot_c, Bool.cond_self, hg]
  obtain ⟨f0, f1, f2, f3, f4, f5, f6, f7, f8⟩ := laid_fs g at_ k
  unfold bad
  by_cases c1 : qint (lb k) < -1 ∨ (n : Int) < qint (lb k)
  · simp only [decide_eq_true c1, cond_true]
    refine ⟨fun _ => trivial, fun h => absurd ?_ h⟩
    rcases c1 with c1 | c1
    · exact .inl c1
    · exact .inr (.inl c1)
  · simp only [decide_eq_false c1, cond_false]
    by_cases c2 : qint (lb k) = -1
    · have h20 := val20 (x := g k) (qint (qfld (g k) 1)) (adr g at_ k) (lenX (g k)) (.inl rfl)
      change q20 [laid g at_ k] = _ at h20
      simp only [c2, decide_true, Bool.not_true, cond_false, show ¬ (0 : Int) ≤ -1 by omega, decide_false, h20, qsome_s, qnth_s, List.getD_cons_zero, qbool_b, cond_true, add_nat (i := k) (by omega)]
      cases hv : vldX (g k) with
      | false => simp
      | true =>
        simp only [Bool.not_true, cond_false]
        refine ⟨fun h => absurd h (by simp <;> omega), fun _ => ?_⟩
        rw [show tab n w = tab n (fun j => if j = k then fin g at_ lb k else w j) from tab_congr fun j _ => by
          by_cases hj : j = k
          · simp [hj, fin, c2, hw]
          · simp [hj]]
    · by_cases c3 : goes (g k)
      · have h0L : 0 ≤ qint (lb k) := by omega
        have hnL : qint (lb k) < ((n + 1 : Nat) : Int) := by omega
        have h20 := val20 (x := g k) (adr g at_ (qint (lb k)).toNat) (adr g at_ k) (lenX (g k)) (.inr c3)
        have h20' := h20
        simp only [ins] at h20
        have c3' := c3
        unfold goes at c3'
        simp only [decide_eq_false c2, decide_eq_true c3', Bool.not_false, Bool.not_true, cond_true, cond_false, decide_eq_true h0L, decide_eq_true hnL, qcmp_leq, tab_inbI _ h0L hnL, tab_getI _ h0L hnL, if_true, f0, f1, f2, f3, f4, f5, f6, f7, f8, qint_i, h20, qsome_s, qnth_s, List.getD_cons_zero, qbool_b, add_nat (i := k) (by omega), decide_true]
        cases hv : vldX (g k) with
        | false => simp
        | true =>
          simp only [Bool.not_true, cond_false]
          refine ⟨fun h => absurd h (by simp [c3]; omega), fun _ => ?_⟩
          refine congrArg (fun d => some (Sum.inl [D.int ((k + 1 : Nat) : Int), d])) (tab_congr fun j _ => ?_)
          by_cases hj : j = k
          · simp [hj, fin, h0L, ins]
          · simp [hj]
      · have c3' := c3
        unfold goes at c3'
        simp only [decide_eq_false c2, decide_eq_false c3', Bool.not_false, cond_true]
        exact ⟨fun _ => trivial, fun h => absurd (.inr (.inr (.inl ⟨c2, c3⟩))) h⟩

theorem loop21_18 (pd0 : D) (pn1 at_ : Int) {n : Nat} (g lb : Nat → D) (hn : n ≤ 60) (h0 : qlen pd0 = n) :
    ((∃ j, j < n ∧ bad g n lb j) → l21_18 [pd0, .int pn1, tab n lb, .int n, tab (n + 1) (fun j => .int (adr g at_ j))] [.int 0, tab n (laid g at_)] = some [.int 1]) ∧
    ((¬ ∃ j, j < n ∧ bad g n lb j) → l21_18 [pd0, .int pn1, tab n lb, .int n, tab (n + 1) (fun j => .int (adr g at_ j))] [.int 0, tab n (laid g at_)] = some [.int 0, tab n (fin g at_ lb)]) := by
  have key : ∀ m k : Nat, k + m = n →
      ((∃ j, k ≤ j ∧ j < n ∧ bad g n lb j) → loW (st21_18 [pd0, .int pn1, tab n lb, .int n, tab (n + 1) (fun j => .int (adr g at_ j))]) [.int k, tab n (fun j => if j < k then fin g at_ lb j else laid g at_ j)] = some [.int 1]) ∧
      ((¬ ∃ j, k ≤ j ∧ j < n ∧ bad g n lb j) → loW (st21_18 [pd0, .int pn1, tab n lb, .int n, tab (n + 1) (fun j => .int (adr g at_ j))]) [.int k, tab n (fun j => if j < k then fin g at_ lb j else laid g at_ j)] = some [.int 0, tab n (fin g at_ lb)]) := by
    intro m
    induction m with
    | zero =>
      intro k hk
      obtain rfl : k = n := by omega
      refine ⟨fun ⟨j, h1, h2, _⟩ => by omega, fun _ => ?_⟩
      rw [loW_eq, st21_18_eq, lssNn (Nat.le_refl _)]
      simp only [cond_false]
      rw [tab_congr (f := fun j => if j < k then fin g at_ lb j else laid g at_ j) (g := fin g at_ lb) (fun j hj => by simp [hj])]
    | succ m ih =>
      intro k hk
      obtain ⟨hb, hg⟩ := step21_18 pd0 pn1 at_ g lb (fun j => if j < k then fin g at_ lb j else laid g at_ j) (show k < n by omega) hn h0 (by simp)
      obtain ⟨ih1, ih2⟩ := ih (k + 1) (by omega)
      by_cases hx : bad g n lb k
      · refine ⟨fun _ => ?_, fun h => absurd ⟨k, Nat.le_refl _, by omega, hx⟩ h⟩
        rw [loW_eq, hb hx]
      · have hs : loW (st21_18 [pd0, .int pn1, tab n lb, .int n, tab (n + 1) (fun j => .int (adr g at_ j))]) [.int k, tab n (fun j => if j < k then fin g at_ lb j else laid g at_ j)] =
            loW (st21_18 [pd0, .int pn1, tab n lb, .int n, tab (n + 1) (fun j => .int (adr g at_ j))]) [.int ((k + 1 : Nat) : Int), tab n (fun j => if j < k + 1 then fin g at_ lb j else laid g at_ j)] := by
          rw [loW_eq, hg hx]
          simp only []
          rw [show tab n (fun j => if j = k then fin g at_ lb k else if j < k then fin g at_ lb j else laid g at_ j) = tab n (fun j => if j < k + 1 then fin g at_ lb j else laid g at_ j) from tab_congr fun j _ => by
            by_cases h1 : j = k
            · simp [h1]
            · by_cases h2 : j < k
              · simp [h1, h2, show j < k + 1 by omega]
              · simp [h1, h2, show ¬ j < k + 1 by omega]]
        rw [hs]
        refine ⟨fun ⟨j, h1, h2, h3⟩ => ih1 ⟨j, ?_, h2, h3⟩, fun h => ih2 fun ⟨j, h1, h2, h3⟩ => h ⟨j, by omega, h2, h3⟩⟩
        rcases Nat.lt_or_ge k j with h | h
        · exact h
        · obtain rfl : j = k := by omega
          exact absurd h3 hx
  rw [l21_18_eq]
  have := key n 0 (by omega)
  simpa using this

end Go.Proofs.YtiojjmlccehpoaaGreat

namespace Go.Proofs.YtiojjmlccehpoaaGreat
set_option linter.unusedSimpArgs false
open Go Go.AM

/-- What Layout answers. -/
def Lay (n m : Nat) (g lb : Nat → D) (at_ : Int) (r : Option (List D)) : Prop :=
  ((n ≠ m ∨ ∃ j, j < n ∧ bad g n lb j) → r = some [.list [], .int 2]) ∧ ((n = m ∧ ¬ ∃ j, j < n ∧ bad g n lb j) → r = some [tab n (fin g at_ lb), .int 0])

theorem tab0 (f : Nat → D) : tab 0 f = .list [] := rfl

theorem neqN (n m : Nat) : qcmp .neq (n : Int) (m : Int) = !decide (n = m) := by
  rw [qcmp_neq]
  by_cases h : n = m
  · simp [h]
  · have : ¬ (n : Int) = m := by omega
    simp [h, this]

theorem clone70 {n : Nat} (g : Nat → D) (hn : n ≤ 60) : q70 [tab n g] = some [tab n g] := by
  rw [q70_eq]
  have h : qapp (D.list []) (tab n g) = tab n g := by rw [qapp_eq]; simp [D.app, D.toList, tab]
  simp only [F70, List.headD_cons, h, tab_len, qmem_small (show n ≤ 1000 by omega) (show 64 ≤ 100 by omega), cond_true]

theorem layout21 {n m : Nat} (g lb : Nat → D) (at_ : Int) (hn : n ≤ 60) : Lay n m g lb at_ (q21 [tab n g, tab m lb, .int at_]) := by
  rw [q21_eq, F21_eq]
  have h7 := loop21_7 (tab n g) (tab m lb) at_ g hn
  simp only [tab0] at h7
  have hr : qrep 0 (D.int 0) = D.list [] := by rw [qrep_eq]; rfl
  have hap : qapp (tab n (fun j => D.int (adr g at_ j))) (.list [.int (adr g at_ n)]) = tab (n + 1) (fun j => .int (adr g at_ j)) := tab_app _ _ rfl
  have hle : qcmp .leq 0 0 = true := by rw [qcmp_leq]; rfl
  have hl0 : qcmp .eql 0 (qlen (D.list [])) = true := by rw [qcmp_eql, qlen_c]; rfl
  have hgt : qcmp .gtr (tot g n) 65536 = false := by rw [qcmp_gtr]; have := tot_le g n; simp; omega
  simp only [tab_len, neqN, clone70 g hn, qsome_s, qnth_s, List.getD_cons_zero, List.getD_cons_succ, add_nat (i := n) (by omega), hle, leq0, cond_true, qmem_small (show n + 1 ≤ 1000 by omega) (show 4 ≤ 100 by omega), hr, hl0, h7, qint_i, qadr, hap, hgt, cond_false]
  by_cases hnm : n = m
  · subst hnm
    obtain ⟨hb, hg⟩ := loop21_18 (tab n g) (tot g n) at_ g lb hn (tab_len n g)
    simp only [decide_true, Bool.not_true, cond_false]
    refine ⟨fun h => ?_, fun h => ?_⟩
    · have h' : ∃ j, j < n ∧ bad g n lb j := h.resolve_left (by simp)
      rw [hb h']
      simp [qsome_s, qnth_s, qint_i, qcmp_eql]
    · rw [hg h.2]
      simp [qsome_s, qnth_s, qint_i, qcmp_eql]
  · simp only [hnm, decide_false, Bool.not_false, cond_true]
    exact ⟨fun _ => rfl, fun h => absurd h.1 hnm⟩

theorem bifor (a b : Prop) [Decidable a] [Decidable b] : (bif decide a then true else decide b) = decide (a ∨ b) := by by_cases h : a <;> simp [h]
theorem bifand (a b : Prop) [Decidable a] [Decidable b] : (bif decide a then decide b else false) = decide (a ∧ b) := by by_cases h : a <;> simp [h]
theorem biforT (a : Prop) [Decidable a] : (bif decide a then true else true) = true := by by_cases h : a <;> simp [h]
theorem decnot (a : Prop) [Decidable a] : (!decide a) = decide (¬ a) := by by_cases h : a <;> simp [h]

theorem step22_7 (at_ : Int) {n k : Nat} (g lb : Nat → D) (hk : k < n) (hn : n ≤ 60) :
    (bad g n lb k → st22_7 [tab n g, tab n lb] [.int (tot g k), .int k, tab (k + 1) (fun j => .int (adr g at_ j)), tab k (laid g at_)] = some (.inr [.int 1])) ∧
    (¬ bad g n lb k → st22_7 [tab n g, tab n lb] [.int (tot g k), .int k, tab (k + 1) (fun j => .int (adr g at_ j)), tab k (laid g at_)] =
      some (.inl [.int (tot g (k + 1)), .int ((k + 1 : Nat) : Int), tab (k + 2) (fun j => .int (adr g at_ j)), tab (k + 1) (laid g at_)])) := by
  have h72 := len72 (g k) (adr g at_ k) (qint (qfld (g k) 8))
  have h71 := val71 (g k) (adr g at_ k) (qint (qfld (g k) 8))
  have hap : qapp (tab (k + 1) (fun j => D.int (adr g at_ j))) (.list [.int (adr g at_ (k + 1))]) = tab (k + 2) (fun j => .int (adr g at_ j)) := tab_app _ _ rfl
  have hap2 : qapp (tab k (laid g at_)) (.list [laid g at_ k]) = tab (k + 1) (laid g at_) := tab_app _ _ rfl
  have hlen : qbin .add .i64 (tot g k) (lenX (g k)) = tot g (k + 1) := by
    have := tot_le g k; have := lenX_le (g k)
    rw [add64 (by omega) (by omega)]; rfl
  have hbad : bad g n lb k ↔ (((qint (lb k) < -1 ∨ (n : Int) < qint (lb k)) ∨ (0 ≤ qint (lb k) ∧ ¬ (qint (qfld (g k) 2) = 20 ∨ qint (qfld (g k) 2) = 23))) ∨ vldX (g k) = false) := by
    unfold bad goes
    constructor
    · rintro (h | h | h | h)
      · exact .inl (.inl (.inl h))
      · exact .inl (.inl (.inr h))
      · by_cases h1 : qint (lb k) < -1
        · exact .inl (.inl (.inl h1))
        · exact .inl (.inr ⟨by omega, h.2⟩)
      · exact .inr h
    · rintro (((h | h) | h) | h)
      · exact .inl h
      · exact .inr (.inl h)
      · exact .inr (.inr (.inl ⟨by omega, h.2⟩))
      · exact .inr (.inr (.inr h))
  rw [st22_7_eq]
  simp only [st22_7_a3, st22_7_a2, st22_7_a1, st22_7_a0]
  simp only [tab_len, lssN hk, leq0, tab_inb _ hk, tab_get _ hk, tab_get _ (Nat.lt_succ_self k), tab_inb _ (Nat.lt_succ_self k), lssN (Nat.lt_succ_self k), cond_true, qint_i, qcmp_eql, qcmp_lss, qcmp_gtr, qcmp_geq, qiteB_c, qnot_c, Bool.cond_self]
  by_cases ho : qint (qfld (g k) 2) = 20
  · simp only [ins, ho, if_true] at h72 h71
    have hla : D.agg [D.int (adr g at_ k), D.int (qint (qfld (g k) 1)), D.int 20, D.int 2, D.int (qint (qfld (g k) 4)), D.int (qint (qfld (g k) 5)), D.int (qint (qfld (g k) 6)), D.int (qint (qfld (g k) 7)), D.int (lenX (g k))] = laid g at_ k := by simp [laid, ins, ho]
    simp only [ho, decide_true, cond_true, h71, h72, qsome_s, qnth_s, List.getD_cons_zero, qbool_b, qint_i, hla, hap2, qadr', hap, tab_len, qmem_small (show k + 1 ≤ 1000 by omega) (show 64 ≤ 100 by omega), qmem_small (show k + 2 ≤ 1000 by omega) (show 4 ≤ 100 by omega), hlen, add_nat (i := k) (by omega), bifor, biforT, decnot, bifand]
    rw [hbad]
    by_cases c1 : qint (lb k) < -1 ∨ (n : Int) < qint (lb k)
    · simp [c1]
    · cases hv : vldX (g k) <;> simp [c1, ho]
  · simp only [ins, ho, if_false] at h72 h71
    have hla : D.agg [D.int (adr g at_ k), D.int (qint (qfld (g k) 1)), D.int (qint (qfld (g k) 2)), D.int (qint (qfld (g k) 3)), D.int (qint (qfld (g k) 4)), D.int (qint (qfld (g k) 5)), D.int (qint (qfld (g k) 6)), D.int (qint (qfld (g k) 7)), D.int (lenX (g k))] = laid g at_ k := by simp [laid, ins, ho]
    simp only [ho, decide_false, cond_false, cond_true, h71, h72, qsome_s, qnth_s, List.getD_cons_zero, qbool_b, qint_i, hla, hap2, qadr', hap, tab_len, qmem_small (show k + 1 ≤ 1000 by omega) (show 64 ≤ 100 by omega), qmem_small (show k + 2 ≤ 1000 by omega) (show 4 ≤ 100 by omega), hlen, add_nat (i := k) (by omega), bifor, biforT, decnot, bifand]
    rw [hbad]
    by_cases c1 : qint (lb k) < -1 ∨ (n : Int) < qint (lb k)
    · simp [c1]
    · by_cases c2 : 0 ≤ qint (lb k)
      · by_cases c3 : qint (qfld (g k) 2) = 23
        · cases hv : vldX (g k) <;> simp [c1, ho, c2, c3]
        · cases hv : vldX (g k) <;> simp [c1, ho, c2, c3]
      · cases hv : vldX (g k) <;> simp [c1, ho, c2]

/-- A loop that ends at the first place that does not fit. -/
theorem loW_bad {st : List D → Option (Sum (List D) (List D))} {enc : Nat → List D} {n : Nat} {B : Nat → Prop} {e r : List D}
    (h : ∀ k, k < n → (B k → st (enc k) = some (.inr e)) ∧ (¬ B k → st (enc k) = some (.inl (enc (k + 1))))) (hn : st (enc n) = some (.inr r)) :
    ((∃ j, j < n ∧ B j) → loW st (enc 0) = some e) ∧ ((¬ ∃ j, j < n ∧ B j) → loW st (enc 0) = some r) := by
  have key : ∀ m k : Nat, k + m = n → ((∃ j, k ≤ j ∧ j < n ∧ B j) → loW st (enc k) = some e) ∧ ((¬ ∃ j, k ≤ j ∧ j < n ∧ B j) → loW st (enc k) = some r) := by
    intro m
    induction m with
    | zero =>
      intro k hk
      obtain rfl : k = n := by omega
      refine ⟨fun ⟨j, h1, h2, _⟩ => by omega, fun _ => ?_⟩
      rw [loW_eq, hn]
    | succ m ih =>
      intro k hk
      obtain ⟨ih1, ih2⟩ := ih (k + 1) (by omega)
      by_cases hx : B k
      · refine ⟨fun _ => ?_, fun h' => absurd ⟨k, Nat.le_refl _, by omega, hx⟩ h'⟩
        rw [loW_eq, (h k (by omega)).1 hx]
      · have hs : loW st (enc k) = loW st (enc (k + 1)) := by rw [loW_eq, (h k (by omega)).2 hx]
        rw [hs]
        refine ⟨fun ⟨j, h1, h2, h3⟩ => ih1 ⟨j, ?_, h2, h3⟩, fun h' => ih2 fun ⟨j, h1, h2, h3⟩ => h' ⟨j, by omega, h2, h3⟩⟩
        rcases Nat.lt_or_ge k j with h4 | h4
        · exact h4
        · obtain rfl : j = k := by omega
          exact absurd h3 hx
  obtain ⟨k1, k2⟩ := key n 0 (by omega)
  exact ⟨fun ⟨j, h1, h2⟩ => k1 ⟨j, by omega, h1, h2⟩, fun h' => k2 fun ⟨j, _, h1, h2⟩ => h' ⟨j, h1, h2⟩⟩

theorem loop22_7 (at_ : Int) {n : Nat} (g lb : Nat → D) (hn : n ≤ 60) (h32 : 0 ≤ at_ ∧ at_ < 4294967296) :
    ((∃ j, j < n ∧ bad g n lb j) → l22_7 [tab n g, tab n lb] [.int 0, .int 0, .list [.int at_], .list []] = some [.int 1]) ∧
    ((¬ ∃ j, j < n ∧ bad g n lb j) → l22_7 [tab n g, tab n lb] [.int 0, .int 0, .list [.int at_], .list []] = some [.int 0, .int (tot g n), tab (n + 1) (fun j => .int (adr g at_ j)), tab n (laid g at_)]) := by
  rw [l22_7_eq]
  have h0 : D.list [D.int at_] = tab 1 (fun j => .int (adr g at_ j)) := by
    simp [tab, adr, tot, wrap32, Int.emod_eq_of_lt h32.1 h32.2]
  have := loW_bad (st := st22_7 [tab n g, tab n lb]) (enc := fun k => [.int (tot g k), .int k, tab (k + 1) (fun j => .int (adr g at_ j)), tab k (laid g at_)]) (n := n) (B := bad g n lb) (e := [.int 1])
    (r := [.int 0, .int (tot g n), tab (n + 1) (fun j => .int (adr g at_ j)), tab n (laid g at_)]) (fun k hk => step22_7 at_ g lb hk hn)
    (by rw [st22_7_eq, tab_len, lssNn (Nat.le_refl _)]; rfl)
  rw [h0]
  exact this

theorem loop22_23 (at_ : Int) {n : Nat} (g lb : Nat → D) (hn : n ≤ 60) (hb : ¬ ∃ j, j < n ∧ bad g n lb j) :
    l22_23 [tab n lb, tab (n + 1) (fun j => .int (adr g at_ j))] [.int 0, tab n (laid g at_)] = some [.int 0, tab n (fin g at_ lb)] := by
  rw [l22_23_eq]
  have := loW_bad (st := st22_23 [tab n lb, tab (n + 1) (fun j => .int (adr g at_ j))]) (enc := fun k => [.int k, tab n (fun j => if j < k then fin g at_ lb j else laid g at_ j)]) (n := n) (B := fun _ => False) (e := [])
    (r := [.int 0, tab n (fin g at_ lb)]) (fun k hk => ⟨fun h => h.elim, fun _ => ?_⟩) ?_
  · have h2 := this.2 (fun ⟨_, _, h⟩ => h)
    simpa using h2
  · have hnb : ¬ bad g n lb k := fun h => hb ⟨k, hk, h⟩
    obtain ⟨f0, f1, f2, f3, f4, f5, f6, f7, f8⟩ := laid_fs g at_ k
    have hup : ∀ v, v = fin g at_ lb k → tab n (fun j => if j = k then v else if j < k then fin g at_ lb j else laid g at_ j) = tab n (fun j => if j < k + 1 then fin g at_ lb j else laid g at_ j) := fun v hv => tab_congr fun j _ => by
      by_cases h1 : j = k
      · simp [h1, hv]
      · by_cases h2 : j < k
        · simp [h1, h2, show j < k + 1 by omega]
        · simp [h1, h2, show ¬ j < k + 1 by omega]
    rw [st22_23_eq]
    simp only [tab_len, lssN hk, leq0, tab_inb _ hk, tab_get _ hk, tab_set, cond_true, eqlN, add_nat (i := k) (by omega), Nat.lt_irrefl, if_false, qcmp_geq]
    by_cases h0L : 0 ≤ qint (lb k)
    · have hnL : qint (lb k) < ((n + 1 : Nat) : Int) := by
        unfold bad at hnb
        by_cases h : (n : Int) < qint (lb k)
        · exact absurd (.inr (.inl h)) hnb
        · omega
      simp only [decide_eq_true h0L, qcmp_leq, qcmp_lss, decide_eq_true hnL, cond_true, tab_inbI _ h0L hnL, tab_getI _ h0L hnL, qint_i, f0, f1, f2, f3, f4, f5, f6, f7, f8]
      rw [hup _ (by simp [fin, h0L, ins])]
    · simp only [decide_eq_false h0L, cond_false]
      rw [show tab n (fun j => if j < k then fin g at_ lb j else laid g at_ j) = tab n (fun j => if j = k then fin g at_ lb k else if j < k then fin g at_ lb j else laid g at_ j) from tab_congr fun j _ => by
        by_cases h1 : j = k
        · simp [h1, fin, h0L]
        · simp [h1], hup _ rfl]
  · rw [st22_23_eq, tab_len, lssNn (Nat.le_refl _)]
    simp only [cond_false]
    rw [tab_congr (f := fun j => if j < n then fin g at_ lb j else laid g at_ j) (g := fin g at_ lb) (fun j hj => by simp [hj])]

theorem layout22 {n m : Nat} (g lb : Nat → D) (at_ : Int) (hn : n ≤ 60) (h32 : 0 ≤ at_ ∧ at_ < 4294967296) : Lay n m g lb at_ (q22 [tab n g, tab m lb, .int at_]) := by
  rw [q22_eq, F22_eq]
  have hgt : qcmp .gtr (tot g n) 65536 = false := by rw [qcmp_gtr]; have := tot_le g n; simp; omega
  simp only [tab_len, neqN]
  by_cases hnm : n = m
  · subst hnm
    obtain ⟨hb, hg⟩ := loop22_7 at_ g lb hn h32
    simp only [decide_true, Bool.not_true, cond_false]
    refine ⟨fun h => ?_, fun h => ?_⟩
    · have h' : ∃ j, j < n ∧ bad g n lb j := h.resolve_left (by simp)
      rw [hb h']
      simp [qsome_s, qnth_s, qint_i, qcmp_eql]
    · rw [hg h.2]
      simp [qsome_s, qnth_s, qint_i, qcmp_eql, hgt, loop22_23 at_ g lb hn h.2]
  · simp only [show ¬ m = n from fun e => hnm e.symm, decide_false, Bool.not_false, cond_true]
    exact ⟨fun _ => rfl, fun h => absurd h.1 hnm⟩

theorem same15 {n : Nat} (f : Nat → D) (hn : n ≤ 1000) : q15 [tab n f, tab n f] = some [.bool true] := by
  rw [q15_eq, F15_eq, l15_4_eq]
  have := loW_bad (st := st15_4 [tab n f, tab n f]) (enc := fun k => [.int k]) (n := n) (B := fun _ => False) (e := []) (r := [.int 0]) (fun k hk => ⟨fun h => h.elim, fun _ => ?_⟩) ?_
  · have h2 := this.2 (fun ⟨_, _, h⟩ => h)
    have h3 : loW (st15_4 [tab n f, tab n f]) [.int 0] = some [.int 0] := by simpa using h2
    simp [h3, tab_len, neqN, qsome_s, qnth_s, qint_i, qcmp_eql]
  · rw [st15_4_eq]
    simp [tab_len, lssN hk, tab_inb _ hk, qcmp_eql, qand_eq, qnot_c, add_nat (i := k) (by omega)]
  · rw [st15_4_eq, tab_len, lssNn (Nat.le_refl _)]; rfl

theorem tab_of (d : D) : ∃ n g, D.list d.toList = tab n g ∧ qlen d = (n : Int) := ⟨_, _, tab_self d.toList, by rw [qlen_c]⟩

end Go.Proofs.YtiojjmlccehpoaaGreat

namespace Go.Proofs.YtiojjmlccehpoaaGreat
set_option linter.unusedSimpArgs false
open Go Go.AM

theorem fin_fs (g : Nat → D) (at_ : Int) (lb : Nat → D) (k : Nat) : qint (qfld (fin g at_ lb k) 0) = adr g at_ k ∧ qint (qfld (fin g at_ lb k) 1) = (if 0 ≤ qint (lb k) then adr g at_ (qint (lb k)).toNat else qint (qfld (g k) 1)) ∧ qint (qfld (fin g at_ lb k) 2) = qint (qfld (g k) 2) ∧
    qint (qfld (fin g at_ lb k) 6) = qint (qfld (g k) 6) ∧ qint (qfld (fin g at_ lb k) 8) = lenX (g k) := by
  unfold fin laid
  by_cases h : 0 ≤ qint (lb k) <;> simp [h, ins, qfld_agg, qint_i]

theorem fin_len {g : Nat → D} {at_ : Int} {lb : Nat → D} {n k : Nat} (h : ¬ bad g n lb k) : q23 [fin g at_ lb k] = some [.int (lenX (g k))] ∧ 1 ≤ lenX (g k) := by
  have hv : vldX (g k) = true := by
    cases hv : vldX (g k) with
    | true => rfl
    | false => exact absurd (.inr (.inr (.inr hv))) h
  refine ⟨?_, (lenI_pos hv).1⟩
  unfold fin
  by_cases h0 : 0 ≤ qint (lb k)
  · have hg : goes (g k) := by
      by_cases hg : goes (g k)
      · exact hg
      · exact absurd (.inr (.inr (.inl ⟨by omega, hg⟩))) h
    rw [if_pos h0, (valid_spec _).2.2.1, len_ins (imm' := qint (qfld (g k) 1)) (a' := 0) (n' := 0) (.inr hg)]; rfl
  · rw [if_neg h0]; exact len23 _ _ _

theorem loop7_10 (pd1 : D) (at_ : Int) {n : Nat} (g lb : Nat → D) (hn : n ≤ 60) (h32 : 0 ≤ at_ ∧ at_ < 4294967296) (hb : ¬ ∃ j, j < n ∧ bad g n lb j) :
    l7_10 [tab n g, pd1, tab n (fin g at_ lb)] [.int at_, .int 0] = some [.int 0, .int (adr g at_ n)] := by
  rw [l7_10_eq]
  have h0 : at_ = adr g at_ 0 := by simp [adr, tot, wrap32, Int.emod_eq_of_lt h32.1 h32.2]
  have := loW_bad (st := st7_10 [tab n g, pd1, tab n (fin g at_ lb)]) (enc := fun k => [.int (adr g at_ k), .int k]) (n := n) (B := fun _ => False) (e := []) (r := [.int 0, .int (adr g at_ n)]) (fun k hk => ⟨fun h => h.elim, fun _ => ?_⟩) ?_
  · have h2 := this.2 (fun ⟨_, _, h⟩ => h)
    rw [← h0] at h2
    simpa using h2
  · have hnb : ¬ bad g n lb k := fun h => hb ⟨k, hk, h⟩
    obtain ⟨f0, f1, f2, f6, f8⟩ := fin_fs g at_ lb k
    obtain ⟨hl, hl1⟩ := fin_len (at_ := at_) hnb
    rw [st7_10_eq]
    simp only [tab_len, lssN hk, tab_inb _ hk, tab_get _ hk, cond_true, f0, f2, f6, f8, hl, qsome_s, qnth_s, List.getD_cons_zero, qint_i, qcmp_neq, decide_true, Bool.not_true, cond_false, qcmp_lss, decide_eq_false (show ¬ lenX (g k) < 1 by omega), qadr', add_nat (i := k) (by omega), show ¬ lenX (g k) < 1 by omega, decide_false]
  · rw [st7_10_eq, tab_len, lssNn (Nat.le_refl _)]; rfl

theorem loop7_16 (at_ : Int) {n : Nat} (g lb : Nat → D) (hn : n ≤ 60) (hb : ¬ ∃ j, j < n ∧ bad g n lb j) :
    l7_16 [tab n g, tab n lb, tab n (fin g at_ lb), .int (adr g at_ n)] [.int 0] = some [.int 0] := by
  rw [l7_16_eq]
  have := loW_bad (st := st7_16 [tab n g, tab n lb, tab n (fin g at_ lb), .int (adr g at_ n)]) (enc := fun k => [.int k]) (n := n) (B := fun _ => False) (e := []) (r := [.int 0]) (fun k hk => ⟨fun h => h.elim, fun _ => ?_⟩) ?_
  · have h2 := this.2 (fun ⟨_, _, h⟩ => h)
    simpa using h2
  · have hnb : ¬ bad g n lb k := fun h => hb ⟨k, hk, h⟩
    obtain ⟨f0, f1, f2, f6, f8⟩ := fin_fs g at_ lb k
    rw [st7_16_eq]
    by_cases h0 : 0 ≤ qint (lb k)
    · have hle : qint (lb k) ≤ n := by
        by_cases h : (n : Int) < qint (lb k)
        · exact absurd (.inr (.inl h)) hnb
        · omega
      rw [if_pos h0] at f1
      by_cases h1 : qint (lb k) < n
      · obtain ⟨e0, _⟩ := fin_fs g at_ lb (qint (lb k)).toNat
        simp only [tab_len, lssN hk, tab_inb _ hk, tab_get _ hk, cond_true, qcmp_geq, qcmp_lss, qcmp_neq, qcmp_eql, decide_eq_true h0, decide_eq_true h1, tab_inbI _ h0 h1, tab_getI _ h0 h1, e0, f1, decide_true, Bool.not_true, cond_false, decide_eq_false (show ¬ qint (lb k) = n by omega), decide_eq_false (show ¬ qint (lb k) = -1 by omega), add_nat (i := k) (by omega)]
      · have he : qint (lb k) = n := by omega
        simp only [tab_len, lssN hk, tab_inb _ hk, tab_get _ hk, cond_true, qcmp_geq, qcmp_lss, qcmp_neq, qcmp_eql, decide_eq_true h0, decide_eq_false h1, f1, he, Int.toNat_natCast, decide_true, Bool.not_true, cond_false, decide_eq_false (show ¬ (n : Int) = -1 by omega), add_nat (i := k) (by omega), Int.lt_irrefl, decide_false, decide_eq_true (show (0 : Int) ≤ n by omega)]
    · have h1 : qint (lb k) = -1 := by
        by_cases h : qint (lb k) < -1
        · exact absurd (.inl h) hnb
        · omega
      rw [if_neg h0] at f1
      simp only [tab_len, lssN hk, tab_inb _ hk, tab_get _ hk, cond_true, qcmp_geq, qcmp_lss, qcmp_neq, qcmp_eql, f1, h1, decide_true, Bool.not_true, cond_false, decide_eq_false (show ¬ (-1 : Int) = n by omega), decide_eq_false (show ¬ (0 : Int) ≤ -1 by omega), add_nat (i := k) (by omega)]
  · rw [st7_16_eq, tab_len, lssNn (Nat.le_refl _)]; rfl

theorem law6 {d0 d1 : D} {at_ : Int} (h0 : ∃ xs, d0 = .list xs) (h1 : ∃ xs, d1 = .list xs) (h32 : 0 ≤ at_ ∧ at_ < 4294967296) : q6 [d0, d1, .int at_] = some [.bool true] := by
  obtain ⟨xs, rfl⟩ := h0
  obtain ⟨ys, rfl⟩ := h1
  rw [tab_self xs, tab_self ys]
  generalize xs.length = n
  generalize ys.length = m
  generalize (fun j => xs.getD j D.other) = g
  generalize (fun j => ys.getD j D.other) = lb
  rw [q6_eq, F6_eq]
  simp only [tab_len, qcmp_gtr, q12_eq, qsome_s, qnth_s, List.getD_cons_zero, qbool_b, cond_true]
  by_cases hn : n ≤ 60
  · by_cases hm : m ≤ 60
    · have hc : (bif decide ((60 : Int) < n) then true else decide ((60 : Int) < m)) = false := by simp; omega
      obtain ⟨a1, a2⟩ := layout21 (m := m) g lb at_ hn
      obtain ⟨b1, b2⟩ := layout22 (m := m) g lb at_ hn h32
      simp only [qiteB_c, hc, cond_false]
      by_cases hb : n = m ∧ ¬ ∃ j, j < n ∧ bad g n lb j
      · rw [a2 hb, b2 hb]
        simp [qsome_s, qnth_s, same15 (fin g at_ lb) (show n ≤ 1000 by omega), qbool_b, qint_i, qcmp_eql]
      · have hb' : n ≠ m ∨ ∃ j, j < n ∧ bad g n lb j := by
          by_cases h : n = m
          · right
            exact Classical.byContradiction fun h' => hb ⟨h, h'⟩
          · exact .inl h
        have hs : q15 [D.list [], D.list []] = some [.bool true] := same15 (n := 0) (fun _ => .other) (by omega)
        rw [a1 hb', b1 hb']
        simp [qsome_s, qnth_s, hs, qbool_b, qint_i, qcmp_eql]
    · have hc : (bif decide ((60 : Int) < n) then true else decide ((60 : Int) < m)) = true := by simp; omega
      simp only [qiteB_c, hc, cond_true]
  · have hc : (bif decide ((60 : Int) < n) then true else decide ((60 : Int) < m)) = true := by simp; omega
    simp only [qiteB_c, hc, cond_true]

theorem law7 {d0 d1 : D} {at_ : Int} (h0 : ∃ xs, d0 = .list xs) (h1 : ∃ xs, d1 = .list xs) (h32 : 0 ≤ at_ ∧ at_ < 4294967296) : q7 [d0, d1, .int at_] = some [.bool true] := by
  obtain ⟨xs, rfl⟩ := h0
  obtain ⟨ys, rfl⟩ := h1
  rw [tab_self xs, tab_self ys]
  generalize xs.length = n
  generalize ys.length = m
  generalize (fun j => xs.getD j D.other) = g
  generalize (fun j => ys.getD j D.other) = lb
  rw [q7_eq, F7_eq]
  simp only [tab_len, qcmp_gtr, q12_eq, qsome_s, qnth_s, List.getD_cons_zero, qbool_b, cond_true]
  by_cases hn : n ≤ 60
  · by_cases hm : m ≤ 60
    · have hc : (bif decide ((60 : Int) < n) then true else decide ((60 : Int) < m)) = false := by simp; omega
      obtain ⟨a1, a2⟩ := layout21 (m := m) g lb at_ hn
      simp only [qiteB_c, hc, cond_false]
      by_cases hb : n = m ∧ ¬ ∃ j, j < n ∧ bad g n lb j
      · rw [a2 hb]
        obtain ⟨rfl, hb⟩ := hb
        simp [qsome_s, qnth_s, qint_i, qcmp_eql, qcmp_neq, tab_len, loop7_10 _ at_ g lb hn h32 hb, loop7_16 at_ g lb hn hb]
      · have hb' : n ≠ m ∨ ∃ j, j < n ∧ bad g n lb j := by
          by_cases h : n = m
          · right
            exact Classical.byContradiction fun h' => hb ⟨h, h'⟩
          · exact .inl h
        have hz : qlen (D.list []) = 0 := by rw [qlen_c]; rfl
        rw [a1 hb']
        simp [qsome_s, qnth_s, qbool_b, qint_i, qcmp_eql, qcmp_neq, hz]
    · have hc : (bif decide ((60 : Int) < n) then true else decide ((60 : Int) < m)) = true := by simp; omega
      simp only [qiteB_c, hc, cond_true]
  · have hc : (bif decide ((60 : Int) < n) then true else decide ((60 : Int) < m)) = true := by simp; omega
    simp only [qiteB_c, hc, cond_true]

end Go.Proofs.YtiojjmlccehpoaaGreat
