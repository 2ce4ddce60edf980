/-
  Plain laws: what is not known, unveiled; loops over numbers.
-/
import Derived.Test.YtobhhfbdelnhfaaDoorAmS
import Derived.Test.YtobhhfbdelnhfaaDoorM1
import Derived.Test.YtobhhfbdelnhfaaDoorRows
import Derived.Test.YtobhhfbdelnhfaaDoorC1
import Derived.Deep.DeepHandedRow
import Derived.Lib.LaidTab
import Derived.MakeChecks
import Derived.LaidSub
import Derived.FnData
import Derived.Shelf.Vars
import Derived.HandedShaped
set_option linter.unusedVariables false
set_option linter.unusedSimpArgs false
namespace Go.AM

theorem qsome_s (r : List D) : qsome (some r) = true := by rw [qsome_eq]; rfl
theorem qsome_n : qsome none = false := by rw [qsome_eq]; rfl
theorem qnth_s (r : List D) (j : Nat) : qnth (some r) j = r.getD j .other := by rw [qnth_eq]; rfl
theorem qint_i (n : Int) : qint (.int n) = n := by rw [qint_eq]; rfl
theorem qbool_b (b : Bool) : qbool (.bool b) = b := by rw [qbool_eq]; rfl
theorem qstr_s (s : ByteArray) : qstr (.str s) = s := by rw [qstr_eq]; rfl
theorem qcmp_lss (a b : Int) : qcmp .lss a b = decide (a < b) := by rw [qcmp_eq]; rfl
theorem qcmp_leq (a b : Int) : qcmp .leq a b = decide (a ≤ b) := by rw [qcmp_eq]; rfl
theorem qcmp_gtr (a b : Int) : qcmp .gtr a b = decide (b < a) := by rw [qcmp_eq]; rfl
theorem qcmp_geq (a b : Int) : qcmp .geq a b = decide (b ≤ a) := by rw [qcmp_eq]; rfl
theorem qcmp_eql (a b : Int) : qcmp .eql a b = decide (a = b) := by rw [qcmp_eq]; simp only [rcmp]; cases h : decide (a = b) <;> simp_all
theorem qcmp_neq (a b : Int) : qcmp .neq a b = !decide (a = b) := by rw [qcmp_eq]; simp only [rcmp, bne]; cases h : decide (a = b) <;> simp_all
theorem qiteB_c (c a b : Bool) : qiteB c a b = bif c then a else b := by rw [qiteB_eq]
theorem qnot_c (a : Bool) : qnot a = !a := by rw [qnot_eq]
theorem qlen_c (d : D) : qlen d = (d.toList.length : Int) := by rw [qlen_eq]; rfl
theorem qinb_c (d : D) (i : Int) : qinb d i = (decide (0 ≤ i) && decide (i < d.toList.length)) := by rw [qinb_eq]; rfl
theorem qget_n (d : D) (i : Nat) : qget d (i : Int) = d.toList.getD i .other := by rw [qget_eq]; simp [D.get]
theorem qinb_n {d : D} {i : Nat} (h : i < d.toList.length) : qinb d (i : Int) = true := by rw [qinb_c]; simp; omega

theorem cond_dec {α : Type} (p : Prop) [Decidable p] (a b : α) : (bif decide p then a else b) = if p then a else b := by by_cases h : p <;> simp [h]

/-- A loop that counts: so many rounds more. -/
def forN {A R : Type} (body : Nat → A → Option (Sum A R)) (fin : A → R) : Nat → Nat → A → Option R
  | _, 0, a => some (fin a)
  | i, k + 1, a => match body i a with
    | none => none
    | some (.inl a') => forN body fin (i + 1) k a'
    | some (.inr r) => some r

theorem loW_for {A S R : Type} {st : S → Option (Sum S R)} {enc : Nat → A → S} {n : Nat} {body : Nat → A → Option (Sum A R)} {fin : A → R} {I : Nat → A → Prop}
    (h1 : ∀ i a, i < n → I i a → st (enc i a) = match body i a with
      | none => none
      | some (.inl a') => some (.inl (enc (i + 1) a'))
      | some (.inr r) => some (.inr r))
    (h0 : ∀ a, I n a → st (enc n a) = some (.inr (fin a))) (hI : ∀ i a a', i < n → I i a → body i a = some (.inl a') → I (i + 1) a') :
    ∀ k i a, i + k = n → I i a → loW st (enc i a) = forN body fin i k a := by
  intro k
  induction k with
  | zero =>
    intro i a hi ha
    obtain rfl : i = n := by omega
    rw [loW_eq, h0 a ha]; rfl
  | succ k ih =>
    intro i a hi ha
    rw [loW_eq, h1 i a (by omega) ha]
    simp only [forN]
    cases hb : body i a with
    | none => rfl
    | some x =>
      cases x with
      | inr r => rfl
      | inl a' => exact ih (i + 1) a' (by omega) (hI i a a' (by omega) ha hb)

/-- A search: the first place at which there is an answer. -/
def srch {R : Type} (f : Nat → Option R) (r0 : R) : Nat → Nat → R
  | _, 0 => r0
  | i, k + 1 => match f i with
    | none => srch f r0 (i + 1) k
    | some r => r

theorem loW_srch {S R : Type} {st : S → Option (Sum S R)} {enc : Nat → S} {n : Nat} {f : Nat → Option R} {r0 : R}
    (h1 : ∀ i, i < n → st (enc i) = match f i with
      | none => some (.inl (enc (i + 1)))
      | some r => some (.inr r))
    (h0 : st (enc n) = some (.inr r0)) : ∀ k i, i + k = n → loW st (enc i) = some (srch f r0 i k) := by
  intro k
  induction k with
  | zero =>
    intro i hi
    obtain rfl : i = n := by omega
    rw [loW_eq, h0]; rfl
  | succ k ih =>
    intro i hi
    rw [loW_eq, h1 i (by omega)]
    simp only [srch]
    cases hb : f i with
    | some r => rfl
    | none => exact ih (i + 1) (by omega)

/-- A search in a list. -/
def srchL {α R : Type} (f : Nat → α → Option R) (r0 : R) : Nat → List α → R
  | _, [] => r0
  | i, x :: xs => match f i x with
    | none => srchL f r0 (i + 1) xs
    | some r => r

theorem srch_list {R : Type} {f : Nat → Option R} {g : Nat → D → Option R} {r0 : R} {xs : List D} (h : ∀ i x, xs[i]? = some x → f i = g i x) : ∀ k i, i + k = xs.length → srch f r0 i k = srchL g r0 i (xs.drop i) := by
  intro k
  induction k with
  | zero => intro i hi; rw [List.drop_of_length_le (by omega)]; rfl
  | succ k ih =>
    intro i hi
    have hlt : i < xs.length := by omega
    rw [List.drop_eq_getElem_cons hlt]
    simp only [srch, srchL]
    rw [h i xs[i] (List.getElem?_eq_getElem hlt)]
    cases g i xs[i] with
    | some r => rfl
    | none => exact ih (i + 1) (by omega)

/-- Does one of the list fit? -/
theorem srchL_any {R : Type} {p : D → Bool} {r : Nat → R} {r0 : R} {P : R → Bool} (h0 : P r0 = false) (h1 : ∀ i, P (r i) = true) : ∀ (xs : List D) (i : Nat), P (srchL (fun i x => if p x then some (r i) else none) r0 i xs) = xs.any p
  | [], i => h0
  | x :: xs, i => by
    simp only [srchL, List.any_cons]
    cases hp : p x with
    | true => simp [h1]
    | false => simpa using srchL_any h0 h1 xs (i + 1)

theorem getD_lt {xs : List D} {i : Nat} (h : i < xs.length) : xs.getD i .other = xs[i] := by simp [List.getD, h]

theorem wrap64' {n : Int} (h0 : -9223372036854775808 ≤ n) (h1 : n ≤ 9223372036854775807) : IntKind.i64.wrap n = n := wrap64 h0 h1

theorem add_nat {i : Nat} (h : i < 9223372036854775807) : qbin .add .i64 (i : Int) 1 = ((i + 1 : Nat) : Int) := by
  rw [add64 (by omega) (by omega)]; omega

/-- A search with a test that is a function. -/
theorem idxLoop {st : List D → Option (Sum (List D) (List D))} {l : D} {c : D → Option (List D)} {p : D → Bool} {r1 : Int → List D} {r0 : List D}
    (hst : ∀ i : Int, st [.int i] = bif qcmp .lss i (qlen l) then bif qinb l i then bif qsome (c (qget l i)) then bif qbool (qnth (c (qget l i)) 0) then some (.inr (r1 i)) else some (.inl [.int (qbin .add .i64 i 1)]) else none else none else some (.inr r0))
    (hl : l.toList.length ≤ maxLen) (hc : ∀ x ∈ l.toList, c x = some [.bool (p x)]) :
    (loW st [.int 0] = some r0 ∧ l.toList.any p = false) ∨ ∃ i : Nat, loW st [.int 0] = some (r1 i) ∧ l.toList.any p = true := by
  unfold maxLen at hl
  have key : ∀ k i : Nat, i + k = l.toList.length → (loW st [.int i] = some r0 ∧ (l.toList.drop i).any p = false) ∨ ∃ j : Nat, loW st [.int i] = some (r1 j) ∧ (l.toList.drop i).any p = true := by
    intro k
    induction k with
    | zero =>
      intro i hi
      left
      rw [loW_eq, hst, qcmp_lss, qlen_c, List.drop_of_length_le (by omega)]
      simp [show ¬ ((i : Int) < l.toList.length) by omega]
    | succ k ih =>
      intro i hi
      have hlt : i < l.toList.length := by omega
      rw [loW_eq, hst, qcmp_lss, qlen_c, qinb_n hlt, qget_n, getD_lt hlt, hc _ (List.getElem_mem hlt), List.drop_eq_getElem_cons hlt]
      simp only [show ((i : Int) < l.toList.length) by omega, decide_true, cond_true, qsome_s, qnth_s, List.getD_cons_zero, qbool_b, List.any_cons]
      cases hp : p l.toList[i] with
      | true => exact .inr ⟨i, rfl, by simp⟩
      | false =>
        simp only [cond_false, Bool.false_or]
        rw [add_nat (by omega)]
        exact ih (i + 1) (by omega)
  have := key l.toList.length 0 (by omega)
  simpa using this

theorem size_elem {d : D} {j : Nat} {x : D} (h : x ∈ (d.fld j).toList) : x.size < d.size := by
  cases d with
  | agg xs =>
    simp only [D.fld, List.getD] at h
    cases hx : xs[j]? with
    | none => rw [hx] at h; simp [D.toList] at h
    | some y =>
      rw [hx] at h
      simp only [Option.getD_some] at h
      have h1 := sizes_get hx
      cases y with
      | list ys =>
        simp only [D.toList] at h
        obtain ⟨i, hi⟩ := List.getElem?_of_mem h
        have h2 := sizes_get hi
        simp only [D.size] at h1 ⊢
        omega
      | _ => simp [D.toList] at h
  | _ => simp [D.fld, D.toList] at h

end Go.AM

namespace Go.Proofs.YtobhhfbdelnhfaaDoor
set_option linter.unusedSimpArgs false
set_option linter.unusedVariables false
open Go Go.AM

theorem decode_lo {s : ByteArray} {i : Nat} (h : (s.get! i).toNat < 128) : (Utf8.decode s i) = ((s.get! i).toNat, 1) := by
  unfold Utf8.decode; simp [h]
theorem decode_hi {s : ByteArray} {i : Nat} (h : ¬ (s.get! i).toNat < 128) : 128 ≤ (Utf8.decode s i).1 := by
  unfold Utf8.decode; simp only [Nat.add_zero, h, if_false, Utf8.runeError]
  repeat' split
  all_goals simp_all
  all_goals omega

/-- The byte at a place. -/
def byt (s : ByteArray) (i : Nat) : Int := (s.data.toList.getD i 0).toNat
theorem byt_get {s : ByteArray} {i : Nat} (h : i < s.size) : ((s.get! i).toNat : Int) = byt s i := by
  have h1 : i < s.data.toList.length := by simpa using h
  have h2 : i < s.data.size := h
  unfold byt
  cases s with | mk bs => simp only [ByteArray.get!, List.getD, getElem!_pos, h2]; simp [h2]
theorem byt_le (s : ByteArray) (i : Nat) : 0 ≤ byt s i ∧ byt s i ≤ 255 := by
  unfold byt
  have := (s.data.toList.getD i 0).toNat_lt
  omega
theorem idxS {s : ByteArray} {i : Nat} : qidxS s (i : Int) = byt s i := by rw [qidxS_eq]; simp [ridxS, byt, ByteArray.toList_eq]
theorem inbS {s : ByteArray} {i : Nat} (h : i < s.size) : qinbS s (i : Int) = true := by rw [qinbS_eq]; simp only [rinbS]; simp [h]
theorem lenS (s : ByteArray) : qlenS s = (s.size : Int) := by rw [qlenS_eq]

theorem wrap_u64 {n : Int} (h0 : 0 ≤ n) (h1 : n < 18446744073709551616) : IntKind.u64.wrap n = n := by
  show n.emod _ = n
  exact Int.emod_eq_of_lt h0 (by simpa [IntKind.bits] using h1)

theorem wrap_i32 {n : Int} (h0 : 0 ≤ n) (h1 : n < 2147483648) : IntKind.i32.wrap n = n := by
  simp only [IntKind.wrap, IntKind.bits, IntKind.signed]
  simp
  omega

theorem pow16 : ∀ i : Nat, i ≤ 10 → (16 : Int) ^ i ≤ 1099511627776 := by decide

/-- What a digit means; -1: none. -/
def dv (c : Int) : Int := if 48 ≤ c ∧ c ≤ 57 then c - 48 else if 97 ≤ c ∧ c ≤ 102 then c - 87 else -1

theorem q50_spec {c : Int} (h : 0 ≤ c ∧ c ≤ 255) : q50 [.int c] = some [.int (dv c)] := by
  rw [q50_eq, F50_eq]
  simp only [qiteB_c, qcmp_geq, qcmp_leq, qbin_eq, rbin, qwrap_eq, dv]
  by_cases h1 : 48 ≤ c ∧ c ≤ 57
  · have e1 : IntKind.u8.wrap (c - 48) = c - 48 := by show (c - 48).emod _ = _; exact Int.emod_eq_of_lt (by omega) (by simp [IntKind.bits]; omega)
    simp only [h1.1, h1.2, decide_true, cond_true, and_self, if_true, e1]
    rw [wrap64' (by omega) (by omega)]
  · by_cases h2 : 97 ≤ c ∧ c ≤ 102
    · have e1 : IntKind.u8.wrap (c - 97) = c - 97 := by show (c - 97).emod _ = _; exact Int.emod_eq_of_lt (by omega) (by simp [IntKind.bits]; omega)
      have h3 : ¬ c ≤ 57 := by omega
      have h4 : 48 ≤ c := by omega
      simp only [h2.1, h2.2, h3, h4, decide_true, decide_false, cond_true, cond_false, and_false, and_self, if_true, if_false, e1]
      rw [wrap64' (n := c - 97) (by omega) (by omega), wrap64' (by omega) (by omega)]
      congr 3; omega
    · simp only [h1, h2, if_false]
      have : (bif decide (48 ≤ c) then decide (c ≤ 57) else false) = false := by
        by_cases a : 48 ≤ c <;> by_cases b : c ≤ 57 <;> simp_all
      rw [this]
      have : (bif decide (97 ≤ c) then decide (c ≤ 102) else false) = false := by
        by_cases a : 97 ≤ c <;> by_cases b : c ≤ 102 <;> simp_all
      rw [this]
      rfl

/-- The number that k digits from place i on mean, behind n. -/
def dgN (s : ByteArray) (base : Int) : Nat → Nat → Int → Option Int
  | 0, _, n => some n
  | k + 1, i, n => if dv (byt s i) < 0 ∨ base ≤ dv (byt s i) then none else dgN s base k (i + 1) (n * base + dv (byt s i))

theorem dv_le (c : Int) : dv c ≤ 15 := by unfold dv; split; omega; split <;> omega

theorem pow_step {i : Nat} {n d : Int} (h : n < 16 ^ i) (hd : d ≤ 15) (h0 : 0 ≤ n) {b : Int} (hb : b ≤ 16) (hb0 : 0 ≤ b) : n * b + d < 16 ^ (i + 1) := by
  have h1 : n * b ≤ n * 16 := Int.mul_le_mul_of_nonneg_left hb h0
  rw [Int.pow_succ]; omega

theorem loop29 {s : ByteArray} {base : Int} (hb : 10 ≤ base ∧ base ≤ 16) (hz : s.size ≤ 10) : ∀ (k i : Nat) (n : Int), i + k = s.size → 0 ≤ n → n < 16 ^ i →
    loW (st29_5 [.str s, .int base]) [.int n, .int i] = some (match dgN s base k i n with | some m => [.int 0, .int m] | none => [.int 1]) := by
  intro k
  induction k with
  | zero =>
    intro i n hi h0 h1
    rw [loW_eq, st29_5_eq, lenS, qcmp_lss]
    simp only [show ¬ ((i : Int) < s.size) by omega, decide_false, cond_false, dgN]
  | succ k ih =>
    intro i n hi h0 h1
    have hlt : i < s.size := by omega
    have hc := byt_le s i
    rw [loW_eq, st29_5_eq, lenS, qcmp_lss, inbS hlt, idxS, q50_spec hc]
    simp only [show ((i : Int) < s.size) by omega, decide_true, cond_true, qsome_s, qnth_s, List.getD_cons_zero, qint_i, qiteB_c, qcmp_lss, qcmp_geq, dgN]
    by_cases h : dv (byt s i) < 0 ∨ base ≤ dv (byt s i)
    · have : (bif decide (dv (byt s i) < 0) then true else decide (base ≤ dv (byt s i))) = true := by
        rcases h with h | h <;> simp [h]
      rw [this, if_pos h]; rfl
    · have : (bif decide (dv (byt s i) < 0) then true else decide (base ≤ dv (byt s i))) = false := by
        have h2 : ¬ dv (byt s i) < 0 := fun e => h (.inl e)
        have h3 : ¬ base ≤ dv (byt s i) := fun e => h (.inr e)
        simp [h2, h3]
      rw [this, if_neg h]
      have hd := dv_le (byt s i)
      have hp := pow_step h1 hd h0 hb.2 (by omega)
      have hp10 := pow16 (i + 1) (by omega)
      have hm : n * base ≤ n * 16 := Int.mul_le_mul_of_nonneg_left hb.2 h0
      have hm0 : 0 ≤ n * base := Int.mul_nonneg h0 (by omega)
      have hn0 : 0 ≤ dv (byt s i) := by omega
      simp only [cond_false, qbin_eq, rbin, qwrap_eq]
      rw [wrap_u64 (n := base) (by omega) (by omega), wrap_u64 (n := dv (byt s i)) hn0 (by omega), wrap_u64 (n := n * base) hm0 (by omega), wrap_u64 (n := n * base + dv (byt s i)) (by omega) (by omega)]
      have ha := add_nat (i := i) (by omega)
      rw [qbin_eq] at ha
      simp only [rbin] at ha
      rw [ha]
      exact ih (i + 1) _ (by omega) (by omega) hp

theorem spec29 {s : ByteArray} {base : Int} (hb : 10 ≤ base ∧ base ≤ 16) : q29 [.str s, .int base] = some (if 1 ≤ s.size ∧ s.size ≤ 10 then (match dgN s base s.size 0 0 with | some m => [.int m, .bool true] | none => [.int 0, .bool false]) else [.int 0, .bool false]) := by
  rw [q29_eq, F29_eq, lenS, qiteB_c, qcmp_lss, qcmp_gtr]
  by_cases h : 1 ≤ s.size ∧ s.size ≤ 10
  · have h1 : ¬ ((s.size : Int) < 1) := by omega
    have h2 : ¬ ((10 : Int) < s.size) := by omega
    have e : l29_5 [.str s, .int base] [.int 0, .int 0] = some (match dgN s base s.size 0 0 with | some m => [.int 0, .int m] | none => [.int 1]) := by
      rw [l29_5_eq]
      exact loop29 hb h.2 s.size 0 0 (by omega) (by omega) (by decide)
    simp only [h1, h2, decide_false, cond_false, h, and_self, if_true, e]
    cases dgN s base s.size 0 0 <;> simp [qsome_s, qnth_s, qint_i, qcmp_eql]
  · rw [if_neg h]
    have : (bif decide ((s.size : Int) < 1) then true else decide ((10 : Int) < s.size)) = true := by
      by_cases a : (s.size : Int) < 1
      · simp [a]
      · have b : (10 : Int) < s.size := by omega
        simp [a, b]
    rw [this]; rfl

/-- What follows a round. -/
noncomputable def nxt (st : List D → Option (Sum (List D) (List D))) (x : Option (Sum (List D) (List D))) : Option (List D) := match x with | none => none | some (.inl s') => loW st s' | some (.inr d) => some d
theorem loW_nxt (st : List D → Option (Sum (List D) (List D))) (s : List D) : loW st s = nxt st (st s) := by
  rw [loW_eq]; unfold nxt
  cases st s with
  | none => rfl
  | some x => cases x <;> rfl

/-- The program's loop. -/
theorem loop28 {s : ByteArray} {base most : Int} (hb : 10 ≤ base ∧ base ≤ 16) (hz : s.size ≤ 100) : ∀ (k i : Nat) (n : Int), i + k = s.size → 0 ≤ n → n ≤ 1099511627776 →
    ∃ r, loW (st28_3 [.str s, .int base, .int most, .str s]) [.int n, .int i] = some r ∧ (r.getD 0 .other = .int 0 ∨ r.getD 0 .other = .int 1) ∧ ∃ m, r.getD 1 .other = .int m ∧
      (s.size ≤ 10 → n < 16 ^ i → (match dgN s base k i n with | some x => r.getD 0 .other = .int 0 ∧ m = x | none => r.getD 0 .other = .int 1)) := by
  intro k
  induction k with
  | zero =>
    intro i n hi h0 h1
    rw [loW_nxt, st28_3_eq, lenS, qcmp_lss]
    simp only [show ¬ ((i : Int) < s.size) by omega, decide_false, cond_false]
    exact ⟨_, rfl, .inl rfl, n, rfl, fun _ _ => by simp [dgN]⟩
  | succ k ih =>
    intro i n hi h0 h1
    have hlt : i < s.size := by omega
    have hc := byt_le s i
    rw [loW_nxt, st28_3_eq, lenS, qcmp_lss]
    simp only [show ((i : Int) < s.size) by omega, decide_true, cond_true, qiteB_c, qiteI_eq]
    have bad : ∀ (x : D), (∃ y, x = .int y) → (s.size ≤ 10 → n < 16 ^ i → dgN s base (k + 1) i n = none) → ∃ r, nxt (st28_3 [.str s, .int base, .int most, .str s]) (some (Sum.inr [.int 1, x])) = some r ∧ (r.getD 0 .other = .int 0 ∨ r.getD 0 .other = .int 1) ∧ ∃ m, r.getD 1 .other = .int m ∧
      (s.size ≤ 10 → n < 16 ^ i → (match dgN s base (k + 1) i n with | some x => r.getD 0 .other = .int 0 ∧ m = x | none => r.getD 0 .other = .int 1)) := by
      rintro x ⟨y, rfl⟩ hx
      refine ⟨_, rfl, .inr rfl, y, rfl, fun h2 h3 => ?_⟩
      rw [hx h2 h3]; rfl
    by_cases hlo : (s.get! i).toNat < 128
    · have hr : qrune s i = byt s i := by
        rw [qrune, veil_eq]; simp only [Int.toNat_natCast, decode_lo hlo]; exact byt_get hlt
      have hw : qrw s i = ((i + 1 : Nat) : Int) := by
        rw [qrw, veil_eq]; simp only [Int.toNat_natCast, decode_lo hlo]; omega
      rw [hr, hw]
      -- a digit
      have go : ∀ (d : Int), d = dv (byt s i) → 0 ≤ d → ∃ r, nxt (st28_3 [.str s, .int base, .int most, .str s]) (bif decide (base ≤ d) then some (Sum.inr [.int 1, .int ((i + 1 : Nat) : Int)]) else bif decide (1099511627776 < n * base + d) then some (Sum.inr [.int 1, .int ((i + 1 : Nat) : Int)]) else some (Sum.inl [.int (n * base + d), .int ((i + 1 : Nat) : Int)])) = some r ∧ (r.getD 0 .other = .int 0 ∨ r.getD 0 .other = .int 1) ∧ ∃ m, r.getD 1 .other = .int m ∧
          (s.size ≤ 10 → n < 16 ^ i → (match dgN s base (k + 1) i n with | some x => r.getD 0 .other = .int 0 ∧ m = x | none => r.getD 0 .other = .int 1)) := by
        intro d hd hd0
        have hd15 : d ≤ 15 := by rw [hd]; exact dv_le _
        by_cases hbd : base ≤ d
        · simp only [hbd, decide_true, cond_true]
          exact bad _ ⟨_, rfl⟩ fun _ _ => by simp only [dgN]; rw [if_pos (.inr (by rw [← hd]; exact hbd))]
        · simp only [hbd, decide_false, cond_false]
          have hm0 : 0 ≤ n * base := Int.mul_nonneg h0 (by omega)
          by_cases hbig : 1099511627776 < n * base + d
          · simp only [hbig, decide_true, cond_true]
            refine bad _ ⟨_, rfl⟩ fun h2 h3 => ?_
            have hp := pow_step h3 hd15 h0 hb.2 (by omega)
            have hp10 := pow16 (i + 1) (by omega)
            omega
          · simp only [hbig, decide_false, cond_false]
            obtain ⟨r, e1, e2, m, e3, e4⟩ := ih (i + 1) (n * base + d) (by omega) (by omega) (by omega)
            refine ⟨r, e1, e2, m, e3, fun h2 h3 => ?_⟩
            have := e4 h2 (pow_step h3 hd15 h0 hb.2 (by omega))
            simp only [dgN]
            rw [if_neg (by rw [← hd]; omega), ← hd]
            exact this
      have hm : n * base ≤ n * 16 := Int.mul_le_mul_of_nonneg_left hb.2 h0
      have hm0 : 0 ≤ n * base := Int.mul_nonneg h0 (by omega)
      have wm : IntKind.u64.wrap (n * base) = n * base := wrap_u64 hm0 (by omega)
      simp only [qcmp_geq, qcmp_leq, qcmp_gtr, qbin_eq, rbin, qwrap_eq, wm]
      by_cases h1' : 48 ≤ byt s i ∧ byt s i ≤ 57
      · have w1 : IntKind.i32.wrap (byt s i - 48) = byt s i - 48 := wrap_i32 (by omega) (by omega)
        have w2 : IntKind.u64.wrap (byt s i - 48) = byt s i - 48 := wrap_u64 (by omega) (by omega)
        have w3 : IntKind.u64.wrap (n * base + (byt s i - 48)) = n * base + (byt s i - 48) := wrap_u64 (by omega) (by omega)
        simp only [h1'.1, h1'.2, decide_true, cond_true, w1, w2, w3]
        exact go _ (by rw [dv, if_pos h1']) (by omega)
      · have e0 : (bif decide (48 ≤ byt s i) then decide (byt s i ≤ 57) else false) = false := by
          by_cases a : 48 ≤ byt s i <;> by_cases b : byt s i ≤ 57 <;> simp_all
        rw [e0]
        by_cases h2' : 97 ≤ byt s i ∧ byt s i ≤ 102
        · have w1 : IntKind.i32.wrap (byt s i - 97) = byt s i - 97 := wrap_i32 (by omega) (by omega)
          have w2 : IntKind.u64.wrap (byt s i - 97) = byt s i - 97 := wrap_u64 (by omega) (by omega)
          have w4 : IntKind.u64.wrap (byt s i - 97 + 10) = byt s i - 97 + 10 := wrap_u64 (by omega) (by omega)
          have w3 : IntKind.u64.wrap (n * base + (byt s i - 97 + 10)) = n * base + (byt s i - 97 + 10) := wrap_u64 (by omega) (by omega)
          simp only [h2'.1, h2'.2, decide_true, cond_true, cond_false, w1, w2, w4, w3]
          exact go (byt s i - 97 + 10) (by rw [dv, if_neg h1', if_pos h2']; omega) (by omega)
        · have e1 : (bif decide (97 ≤ byt s i) then decide (byt s i ≤ 102) else false) = false := by
            by_cases a : 97 ≤ byt s i <;> by_cases b : byt s i ≤ 102 <;> simp_all
          rw [e1]
          simp only [cond_false, Int.le_refl, decide_true, cond_true]
          exact bad _ ⟨_, rfl⟩ fun _ _ => by simp only [dgN, dv, h1', h2', if_false]; rw [if_pos (.inl (by omega))]
    · have hr : 128 ≤ qrune s i := by
        rw [qrune, veil_eq]; simp only [Int.toNat_natCast]; have := decode_hi hlo; omega
      have hby : 128 ≤ byt s i := by rw [← byt_get hlt]; omega
      simp only [qcmp_geq, qcmp_leq]
      have a1 : ¬ qrune s i ≤ 57 := by omega
      have a2 : ¬ qrune s i ≤ 102 := by omega
      have a3 : 48 ≤ qrune s i := by omega
      have a4 : 97 ≤ qrune s i := by omega
      simp only [a1, a2, a3, a4, decide_true, decide_false, cond_true, cond_false, Int.le_refl]
      refine bad _ ⟨_, rfl⟩ fun _ _ => ?_
      have b1 : ¬ (48 ≤ byt s i ∧ byt s i ≤ 57) := by omega
      have b2 : ¬ (97 ≤ byt s i ∧ byt s i ≤ 102) := by omega
      simp only [dgN, dv, b1, b2, if_false]; rw [if_pos (.inl (by omega))]

theorem spec28 {s : ByteArray} {base most : Int} (hb : 10 ≤ base ∧ base ≤ 16) (hm : most ≤ 10) (hz : s.size ≤ 100) : ∃ (n : Int) (b : Bool), q28 [.str s, .int base, .int most] = some [.int n, .bool b] ∧
    (match (if 1 ≤ s.size ∧ (s.size : Int) ≤ most then dgN s base s.size 0 0 else none) with | some m => n = m ∧ b = true | none => b = false) := by
  obtain ⟨r, e1, e2, m, e3, e4⟩ := loop28 (most := most) hb hz s.size 0 0 (by omega) (by omega) (by omega)
  have e : l28_3 [.str s, .int base, .int most, .str s] [.int 0, .int 0] = some r := by rw [l28_3_eq]; exact e1
  rw [q28_eq, F28_eq, e]
  simp only [qsome_s, qnth_s, e3, qint_i, cond_true, lenS, qiteB_c, qcmp_geq, qcmp_leq, qcmp_eql]
  rcases e2 with e2 | e2
  · simp only [e2, qint_i, decide_true, cond_true]
    refine ⟨m, _, rfl, ?_⟩
    by_cases h : 1 ≤ s.size ∧ (s.size : Int) ≤ most
    · have h5 := e4 (by omega) (by decide)
      rw [if_pos h]
      cases hd : dgN s base s.size 0 0 with
      | none => rw [hd] at h5; rw [e2] at h5; simp at h5
      | some x =>
        rw [hd] at h5
        refine ⟨h5.2, ?_⟩
        simp [h.2]; omega
    · rw [if_neg h]
      show _ = _
      by_cases a : (1 : Int) ≤ s.size
      · have b : ¬ (s.size : Int) ≤ most := fun b => h ⟨by omega, b⟩
        simp [a, b]
      · simp [a]
  · simp only [e2, qint_i, show ¬ ((1 : Int) = 0) by omega, decide_false, cond_false]
    refine ⟨0, false, rfl, ?_⟩
    by_cases h : 1 ≤ s.size ∧ (s.size : Int) ≤ most
    · have h5 := e4 (by omega) (by decide)
      rw [if_pos h]
      cases hd : dgN s base s.size 0 0 with
      | none => rfl
      | some x => rw [hd] at h5; rw [e2] at h5; simp at h5
    · rw [if_neg h]

theorem dgN_nn {s : ByteArray} {base : Int} (hb : 0 ≤ base) : ∀ (k i : Nat) (n m : Int), 0 ≤ n → dgN s base k i n = some m → 0 ≤ m
  | 0, _, n, m, h, e => by simp only [dgN, Option.some.injEq] at e; omega
  | k + 1, i, n, m, h, e => by
    simp only [dgN] at e
    split at e
    · cases e
    · refine dgN_nn hb k (i + 1) _ m ?_ e
      have := Int.mul_nonneg h hb
      omega

end Go.Proofs.YtobhhfbdelnhfaaDoor

namespace Go.Proofs.YtobhhfbdelnhfaaDoor
set_option linter.unusedSimpArgs false
set_option linter.unusedVariables false
open Go Go.AM

/-- Does a text begin with another? -/
noncomputable def has (s p : ByteArray) : Bool := bif decide (p.size ≤ s.size) then qcmpS .eql (qsubS s 0 (qlenS p)) p else false

theorem spec27 (s p : ByteArray) : q27 [.str s, .str p] = some [.str (bif has s p then qsubS s (qlenS p) (qlenS s) else s), .bool (has s p)] := by
  rw [q27_eq, F27_eq, q49_eq, F49_eq, q66_eq, F66_eq]
  simp only [qiteB_c, qcmp_geq, qcmp_leq, lenS, has, show qand = fun a b => a && b from veil_eq _]
  by_cases h : p.size ≤ s.size
  · have h1 : (p.size : Int) ≤ s.size := by omega
    have h2 : (0 : Int) ≤ p.size := by omega
    simp only [h, h1, h2, decide_true, cond_true, Int.le_refl, Bool.and_self, qsome_s, qnth_s, List.getD_cons_zero, List.getD_cons_succ, qbool_b, qnot_c]
    cases qcmpS BinOp.eql (qsubS s 0 (p.size : Int)) p <;> simp [qsome_s, qnth_s, qstr_s, qbool_b]
  · have h1 : ¬ (p.size : Int) ≤ s.size := by omega
    simp only [h, h1, decide_false, cond_false, cond_true, qsome_s, qnth_s, List.getD_cons_zero, List.getD_cons_succ, qbool_b, qnot_c, Bool.not_false, qstr_s]

theorem byt0 {l : List UInt8} {i : Nat} : byt ⟨⟨l⟩⟩ i = (l.getD i 0).toNat := rfl
theorem eqS (a b : ByteArray) : qcmpS .eql a b = (a.data.toList == b.data.toList) := by rw [qcmpS_eq]; simp [rcmpS, ByteArray.toList_eq]
theorem u8_eq {x : UInt8} {n : Nat} (hn : n < 256) : ((x.toNat : Int) = (n : Int)) ↔ x = UInt8.ofNat n := by
  constructor
  · intro h
    have h1 : x.toNat = n := by omega
    rw [← h1]; exact (UInt8.ofNat_toNat).symm
  · rintro rfl
    simp [UInt8.toNat_ofNat', Nat.mod_eq_of_lt hn]
theorem sub_list {l : List UInt8} {n : Nat} : (qsubS ⟨⟨l⟩⟩ 0 (n : Int)).data.toList = l.take n := by
  rw [qsubS_eq]
  simp [ByteArray.extract, ByteArray.copySlice]

theorem has_minus (s : ByteArray) : has s ⟨#[45]⟩ = (decide (0 < s.size) && decide (byt s 0 = 45)) := by
  obtain ⟨⟨l⟩⟩ := s
  have hs : (ByteArray.mk ⟨l⟩).size = l.length := rfl
  have hp : (ByteArray.mk #[45]).size = 1 := rfl
  simp only [has, hs, hp, lenS, eqS]
  cases l with
  | nil => rfl
  | cons x l =>
    rw [show ((1 : Nat) : Int) = ((1 : Nat) : Int) from rfl, sub_list]
    simp only [List.length_cons, show 1 ≤ l.length + 1 by omega, show 0 < l.length + 1 by omega, decide_true, cond_true, Bool.true_and, List.take_succ_cons, List.take_zero, byt0, List.getD_cons_zero]
    rw [Bool.eq_iff_iff, beq_iff_eq, decide_eq_true_eq, show (45 : Int) = ((45 : Nat) : Int) from rfl, u8_eq (by omega)]
    simp

theorem has_hex {s : ByteArray} (h : has s ⟨#[48, 120]⟩ = true) : 2 ≤ s.size ∧ byt s 0 = 48 ∧ byt s 1 = 120 := by
  obtain ⟨⟨l⟩⟩ := s
  have hs : (ByteArray.mk ⟨l⟩).size = l.length := rfl
  have hp : (ByteArray.mk #[48, 120]).size = 2 := rfl
  simp only [has, hs, hp, lenS, eqS] at h
  by_cases h2 : 2 ≤ l.length
  · simp only [h2, decide_true, cond_true] at h
    rw [sub_list, beq_iff_eq] at h
    match l, h2 with
    | x :: y :: l, _ =>
      simp only [List.take_succ_cons, List.take_zero, List.cons.injEq, and_true] at h
      refine ⟨by rw [hs]; simp only [List.length_cons]; omega, ?_, ?_⟩
      · simp only [byt0, List.getD_cons_zero]; rw [h.1]; rfl
      · simp only [byt0, List.getD_cons_zero, List.getD_cons_succ]; rw [h.2]; rfl
  · simp [h2] at h

theorem is_zero (s : ByteArray) : qcmpS .eql s ⟨#[48]⟩ = true ↔ s.size = 1 ∧ byt s 0 = 48 := by
  obtain ⟨⟨l⟩⟩ := s
  have hs : (ByteArray.mk ⟨l⟩).size = l.length := rfl
  rw [eqS, beq_iff_eq, hs]
  match l with
  | [] => simp
  | [x] =>
    simp only [byt0, List.getD_cons_zero, List.length_cons, List.length_nil]
    rw [show (48 : Int) = ((48 : Nat) : Int) from rfl, u8_eq (by omega)]
    simp
  | x :: y :: l => simp

theorem size_sub {s : ByteArray} {n : Nat} (h : n ≤ s.size) : (qsubS s (n : Int) (s.size : Int)).size = s.size - n := by
  rw [qsubS_eq]
  simp [ByteArray.size_extract]

/-- Both reasons of a digits' reading. -/
theorem digits_eq {t : ByteArray} {base most : Int} (hb : 10 ≤ base ∧ base ≤ 16) (hm : most ≤ 10) (hz : t.size ≤ 100) :
    (∃ n m, q28 [.str t, .int base, .int most] = some [.int n, .bool false] ∧ (q29 [.str t, .int base] = some [.int m, .bool false] ∨ (q29 [.str t, .int base] = some [.int m, .bool true] ∧ most < t.size))) ∨
    (∃ m, 0 ≤ m ∧ 1 ≤ t.size ∧ (t.size : Int) ≤ most ∧ dgN t base t.size 0 0 = some m ∧ q28 [.str t, .int base, .int most] = some [.int m, .bool true] ∧ q29 [.str t, .int base] = some [.int m, .bool true]) := by
  obtain ⟨n, b, e1, e2⟩ := spec28 hb hm hz
  have e3 := spec29 (s := t) hb
  rw [e1, e3]
  by_cases h : 1 ≤ t.size ∧ (t.size : Int) ≤ most
  · rw [if_pos h] at e2
    have h10 : 1 ≤ t.size ∧ t.size ≤ 10 := by omega
    rw [if_pos h10]
    cases hd : dgN t base t.size 0 0 with
    | none =>
      rw [hd] at e2
      simp only at e2
      subst e2
      exact .inl ⟨n, 0, rfl, .inl rfl⟩
    | some m =>
      rw [hd] at e2
      simp only at e2
      obtain ⟨rfl, rfl⟩ := e2
      exact .inr ⟨n, dgN_nn (by omega) _ _ _ _ (by omega) hd, h.1, h.2, rfl, rfl, rfl⟩
  · rw [if_neg h] at e2
    simp only at e2
    subst e2
    left
    by_cases h10 : 1 ≤ t.size ∧ t.size ≤ 10
    · rw [if_pos h10]
      cases hd : dgN t base t.size 0 0 with
      | none => exact ⟨n, 0, rfl, .inl rfl⟩
      | some m => exact ⟨n, m, rfl, .inr ⟨rfl, by omega⟩⟩
    · rw [if_neg h10]
      exact ⟨n, 0, rfl, .inl rfl⟩

theorem neg32 {m : Int} (h0 : 0 ≤ m) (h1 : m ≤ 2147483648) : qun .neg .u32 (qwrap .u32 m) = qwrap .u32 (qbin .sub .u64 4294967296 m) := by
  rw [qwrap_eq, qbin_eq, qun_eq]
  simp only [run1, rbin]
  rw [wrap_u64 (n := 4294967296 - m) (by omega) (by omega)]
  have w : ∀ n : Int, IntKind.u32.wrap n = n % 4294967296 := fun n => by simp [IntKind.wrap, IntKind.bits, IntKind.signed]
  rw [w, w, w]
  omega

theorem num_eq {s : ByteArray} (hz : s.size ≤ 100) : ∃ (n : Int) (b : Bool), q11 [.str s] = some [.int n, .bool b] ∧ q12 [.str s] = some [.int n, .bool b] := by
  have l2 : qlenS ⟨#[48, 120]⟩ = 2 := by rw [lenS]; rfl
  have l1 : qlenS ⟨#[45]⟩ = 1 := by rw [lenS]; rfl
  have hqand : qand = fun a b => a && b := veil_eq _
  rw [q11_eq, F11_eq, q12_eq, F12_eq, spec27, spec27]
  simp only [qsome_s, qnth_s, List.getD_cons_zero, List.getD_cons_succ, qbool_b, qstr_s, cond_true, l2, l1]
  cases hx : has s ⟨#[48, 120]⟩ with
  | true =>
    obtain ⟨h2, hb0, hb1⟩ := has_hex hx
    have hE : qcmpS .eql (qsubS s 0 2) ⟨#[48, 120]⟩ = true := by
      have := hx
      simp only [has, l2, show (ByteArray.mk #[48, 120]).size = 2 from rfl, h2, decide_true, cond_true] at this
      exact this
    have ht : (qsubS s 2 (s.size : Int)).size = s.size - 2 := size_sub (n := 2) h2
    simp only [cond_true, lenS, qiteB_c, qcmp_gtr, qcmp_leq, hqand, hE]
    have i2 : (2 : Int) ≤ s.size := by omega
    have d16 := digits_eq (t := qsubS s 2 (s.size : Int)) (base := 16) (most := 8) (by omega) (by omega) (by omega)
    by_cases h3 : (2 : Int) < s.size
    · simp only [h3, i2, decide_true, cond_true, Int.le_refl, show (0 : Int) ≤ 2 by omega, Bool.and_self]
      rcases d16 with ⟨n, m, e1, e2⟩ | ⟨m, hm, t1, t2, _, e1, e2⟩
      · rw [e1]
        simp only [qsome_s, qnth_s, List.getD_cons_zero, List.getD_cons_succ, qbool_b, qnot_c, Bool.not_false, cond_true]
        refine ⟨0, false, rfl, ?_⟩
        rcases e2 with e2 | ⟨e2, hl⟩
        · rw [e2]; simp [qsome_s, qnth_s, qbool_b, qnot_c]
        · have : (10 : Int) < s.size := by omega
          rw [e2]; simp [qsome_s, qnth_s, qbool_b, qnot_c, this]
      · have : ¬ (10 : Int) < s.size := by omega
        rw [e1, e2]
        simp only [qsome_s, qnth_s, List.getD_cons_zero, List.getD_cons_succ, qbool_b, qnot_c, Bool.not_true, cond_true, cond_false, this, decide_false, qint_i]
        exact ⟨_, _, rfl, rfl⟩
    · have hs2 : s.size = 2 := by omega
      have hi0 : qinbS s 0 = true := by have := inbS (s := s) (i := 0) (by omega); simpa using this
      have hx0 : qidxS s 0 = 48 := by have := idxS (s := s) (i := 0); rw [hb0] at this; simpa using this
      have e29 : q29 [.str s, .int 10] = some [.int 0, .bool false] := by
        rw [spec29 (by omega), if_pos (by omega), hs2]
        simp only [dgN, hb0, hb1, dv]
        simp
      rcases d16 with ⟨n, m, e1, e2⟩ | ⟨m, hm, t1, t2, _, e1, e2⟩
      · have hc45 : ¬ ((48 : Int) = 45) := by omega
        rw [e1]
        simp only [h3, decide_false, cond_false, cond_true, qsome_s, qnth_s, List.getD_cons_zero, List.getD_cons_succ, qbool_b, qnot_c, Bool.not_false, hs2, hi0, hx0, qcmp_eql, hc45, show ((0 : Int) < (2 : Nat)) by omega, decide_true, qiteS_eq, e29]
        exact ⟨_, _, rfl, rfl⟩
      · omega
  | false =>
    have hE : (bif decide ((2 : Int) < s.size) then qcmpS .eql (qsubS s 0 2) ⟨#[48, 120]⟩ else false) = false := by
      by_cases h3 : (2 : Int) < s.size
      · simp only [has, l2, show (ByteArray.mk #[48, 120]).size = 2 from rfl, show 2 ≤ s.size by omega, decide_true, cond_true] at hx
        simp [h3, hx]
      · simp [h3]
    have g1 : (bif decide ((2 : Int) < s.size) then (decide ((0 : Int) ≤ 0) && (decide ((0 : Int) ≤ 2) && decide ((2 : Int) ≤ s.size))) else true) = true := by
      by_cases h3 : (2 : Int) < s.size
      · have : (2 : Int) ≤ s.size := by omega
        simp [h3, this]
      · simp [h3]
    have hM : (bif decide ((0 : Int) < s.size) then decide (qidxS s 0 = 45) else false) = has s ⟨#[45]⟩ := by
      rw [has_minus]
      have : qidxS s 0 = byt s 0 := by have := idxS (s := s) (i := 0); simpa using this
      rw [this]
      by_cases h0 : 0 < s.size
      · have : (0 : Int) < s.size := by omega
        simp [h0, this]
      · have : ¬ (0 : Int) < s.size := by omega
        simp [h0, this]
    have g2 : (bif decide ((0 : Int) < s.size) then qinbS s 0 else true) = true := by
      by_cases h0 : (0 : Int) < s.size
      · rw [decide_eq_true h0]
        have := inbS (s := s) (i := 0) (by omega)
        simp only [cond_true]; simpa using this
      · rw [decide_eq_false h0]; rfl
    have g3 : (bif has s ⟨#[45]⟩ then (decide ((0 : Int) ≤ 1) && (decide ((1 : Int) ≤ s.size) && decide ((s.size : Int) ≤ s.size))) else true) = true := by
      cases hm : has s ⟨#[45]⟩ with
      | false => rfl
      | true =>
        rw [has_minus] at hm
        simp only [Bool.and_eq_true, decide_eq_true_eq] at hm
        have : (1 : Int) ≤ s.size := by omega
        simp [this]
    simp only [cond_false, lenS, qiteB_c, qcmp_gtr, qcmp_leq, qcmp_eql, qcmp_geq, hqand, hE, g1, cond_true, g2, hM, g3, qiteS_eq]
    obtain ⟨u, hu⟩ : ∃ u, u = (bif has s ⟨#[45]⟩ then qsubS s 1 (s.size : Int) else s) := ⟨_, rfl⟩
    rw [← hu]
    have hus : u.size ≤ 100 := by
      rw [hu]
      cases hm : has s ⟨#[45]⟩ with
      | false => exact hz
      | true =>
        rw [has_minus] at hm
        simp only [Bool.and_eq_true, decide_eq_true_eq] at hm
        have h1 : (qsubS s 1 (s.size : Int)).size = s.size - 1 := size_sub (n := 1) (by omega)
        simp only [cond_true]; omega
    have d10 := digits_eq (t := u) (base := 10) (most := 10) (by omega) (by omega) hus
    cases hz0 : qcmpS .eql s ⟨#[48]⟩ with
    | true =>
      obtain ⟨hs1, hb0⟩ := (is_zero s).1 hz0
      have hm : has s ⟨#[45]⟩ = false := by rw [has_minus, hb0]; simp
      rw [hm] at hu
      simp only [cond_false] at hu
      subst hu
      have e29 : q29 [.str u, .int 10] = some [.int 0, .bool true] := by
        rw [spec29 (by omega), if_pos (by omega), hs1]
        simp only [dgN, hb0, dv]
        simp
      have hi0 : qinbS u 0 = true := by have := inbS (s := u) (i := 0) (by omega); simpa using this
      have hx0 : qidxS u 0 = 48 := by have := idxS (s := u) (i := 0); rw [hb0] at this; simpa using this
      simp only [cond_true, hm, e29, qsome_s, qnth_s, List.getD_cons_zero, List.getD_cons_succ, qbool_b, qnot_c, Bool.not_true, Bool.not_false, cond_false, hi0, hx0, hs1, decide_true, qint_i]
      exact ⟨0, true, rfl, by rw [qwrap_eq]; rfl⟩
    | false =>
      simp only [cond_false]
      rcases d10 with ⟨n, m, e1, e2⟩ | ⟨m, hm0, t1, t2, _, e1, e2⟩
      · have e2' : ∃ m, q29 [.str u, .int 10] = some [.int m, .bool false] := by
          rcases e2 with e2 | ⟨e2, hl⟩
          · exact ⟨m, e2⟩
          · have e3 := spec29 (s := u) (base := 10) (by omega)
            rw [if_neg (by omega)] at e3
            exact ⟨0, e3⟩
        obtain ⟨m', e3⟩ := e2'
        rw [e1, e3]
        simp only [qsome_s, qnth_s, List.getD_cons_zero, List.getD_cons_succ, qbool_b, qnot_c, Bool.not_false, cond_true]
        exact ⟨0, false, rfl, rfl⟩
      · have hi0 : qinbS u 0 = true := by have := inbS (s := u) (i := 0) (by omega); simpa using this
        have hx0 : qidxS u 0 = byt u 0 := by have := idxS (s := u) (i := 0); simpa using this
        rw [e1, e2]
        simp only [qsome_s, qnth_s, List.getD_cons_zero, List.getD_cons_succ, qbool_b, qnot_c, Bool.not_true, cond_true, cond_false, hi0, hx0, qint_i]
        by_cases h48 : byt u 0 = 48
        · have hlong : (bif decide ((1 : Int) < u.size) then true else has s ⟨#[45]⟩) = true := by
            by_cases hl : (1 : Int) < u.size
            · simp [hl]
            · cases hm : has s ⟨#[45]⟩ with
              | true => simp [hl]
              | false =>
                rw [hm] at hu
                simp only [cond_false] at hu
                rw [hu] at h48 hl t1
                rw [(is_zero s).2 ⟨by omega, h48⟩] at hz0
                cases hz0
          simp only [h48, decide_true, cond_true, hlong]
          exact ⟨0, false, rfl, rfl⟩
        · simp only [h48, decide_false, cond_false]
          cases hm : has s ⟨#[45]⟩ with
          | false =>
            simp only [cond_false, cond_true, Bool.not_false]
            by_cases hb : (4294967296 : Int) ≤ m
            · have : (4294967295 : Int) < m := by omega
              simp only [hb, this, decide_true, cond_true]
              exact ⟨0, false, rfl, rfl⟩
            · have : ¬ (4294967295 : Int) < m := by omega
              simp only [hb, this, decide_false, cond_false]
              exact ⟨_, true, rfl, rfl⟩
          | true =>
            simp only [cond_false, cond_true, Bool.not_true]
            by_cases hb : (2147483648 : Int) < m
            · simp only [hb, decide_true, cond_true]
              refine ⟨0, false, ?_, rfl⟩
              cases decide ((4294967296 : Int) ≤ m) <;> rfl
            · have : ¬ (4294967296 : Int) ≤ m := by omega
              simp only [hb, this, decide_false, cond_false]
              exact ⟨_, true, rfl, by rw [neg32 hm0 (by omega)]⟩

theorem reg_eq (s : ByteArray) : ∃ (n : Int) (b : Bool), q13 [.str s] = some [.int n, .bool b] ∧ q14 [.str s] = some [.int n, .bool b] := by
  rw [q13_eq, F13_eq, q14_eq, F14_eq]
  simp only [lenS, qiteB_c, qcmp_neq, qcmp_eql, qcmp_lss, qcmp_gtr, qcmp_leq, qcmp_geq]
  by_cases h : (s.size : Int) = 2
  · have i0 : qinbS s 0 = true := by have := inbS (s := s) (i := 0) (by omega); simpa using this
    have i1 : qinbS s 1 = true := by have := inbS (s := s) (i := 1) (by omega); simpa using this
    simp only [h, decide_true, Bool.not_true, cond_false, cond_true, i0, i1]
    by_cases a : qidxS s 0 = 114 <;> by_cases b : 48 ≤ qidxS s 1 <;> by_cases c : qidxS s 1 ≤ 55
    all_goals
      have b' : decide (qidxS s 1 < 48) = !decide (48 ≤ qidxS s 1) := by rw [Bool.eq_iff_iff]; simp
      have c' : decide (55 < qidxS s 1) = !decide (qidxS s 1 ≤ 55) := by rw [Bool.eq_iff_iff]; simp
      simp only [a, b, c, b', c', decide_true, decide_false, Bool.not_true, Bool.not_false, cond_true, cond_false]
      exact ⟨_, _, rfl, rfl⟩
  · simp only [h, decide_false, Bool.not_false, cond_true, cond_false]
    exact ⟨_, _, rfl, rfl⟩

theorem law5 (s : ByteArray) : q5 [.str s] = some [.bool true] := by
  rw [q5_eq, F5_eq, q8_eq, lenS, qcmp_gtr]
  by_cases h : (100 : Int) < s.size
  · simp [h, qsome_s, qnth_s, qbool_b]
  · obtain ⟨n, b, e1, e2⟩ := num_eq (s := s) (by omega)
    obtain ⟨k, c, e3, e4⟩ := reg_eq s
    rw [e1, e2, e3, e4]
    have hq : ∀ x : Bool, qeqB x x = true := fun x => by rw [qeqB, veil_eq]; simp
    simp [h, qsome_s, qnth_s, qbool_b, qint_i, qcmp_eql, qiteB_c, hq]

end Go.Proofs.YtobhhfbdelnhfaaDoor

namespace Go.Proofs.YtobhhfbdelnhfaaDoor
open Go Go.AM

/-- A value that is known. -/
def isLitV : AV → Bool
  | .ui _ _ => true
  | .ub _ => true
  | _ => false
def litV : AV → Value
  | .ui k n => .int k n
  | .ub b => .bool b
  | _ => .bool false

theorem repL_lits {ρ : Nat → Option Nat} {E : Nat → Prop} {w : World} : ∀ (l : List AV) (cs : List Value), l.all isLitV = true → RepL ρ E w l cs → cs = l.map litV
  | [], cs, _, h => by simpa [RepL] using h
  | c :: l, cs, hl, h => by
    simp only [List.all_cons, Bool.and_eq_true] at hl
    simp only [RepL] at h
    obtain ⟨v, vs, rfl, h1, h2⟩ := h
    rw [repL_lits l vs hl.2 h2]
    cases c <;> simp only [isLitV] at hl <;> first | (cases hl.1; done) | skip
    all_goals (simp only [Rep] at h1; subst h1; rfl)

theorem okT : okTypes PG = true := by kernel_rfl
theorem pg : PG = Tryd.prog := by unfold PG; rfl

theorem arr_len {H : Type} {enc : TypeId × Value → H} {P : Program} {w : World} {base : Nat} {sp : Nat → Bool} {held : Bool} {fuel : Nat} {t e : TypeId} {n : Nat} {cs : List Value} {d : DataW H} {p : List MemPlace}
    (ht : P.underlying t = some (.array n e)) (h : DataW.trod enc P w base sp held fuel t cs = some (d, p)) : cs.length = P.cellsOf t := by
  cases fuel with
  | zero => simp [DataW.trod] at h
  | succ fuel =>
    simp only [DataW.trod, ht] at h
    split at h
    · rename_i hl
      exact hl
    · cases h

/-- The cells of a laid table. -/
theorem cs_of_laid {w : World} {fuel : Nat} {t e : TypeId} {n : Nat} {cs : List Value} {d : DataW Unit} {p : List MemPlace} {enc : TypeId × Value → Unit} {held : Bool}
    (ht : Tryd.prog.underlying t = some (.array n e)) (hs : t < Tryd.prog.types.size) (hl : layOk PG 8 t = true) (hlit : (cellsT 8 t (toD d)).all isLitV = true)
    (h : DataW.trod enc Tryd.prog w 0 (fun _ => true) held fuel t cs = some (d, p)) : cs = (cellsT 8 t (toD d)).map litV := by
  have hlen := arr_len ht h
  have h' : DataW.trod enc PG w 0 (fun _ => true) held fuel t cs = some (d, p) := by rw [pg]; exact h
  obtain ⟨hr, _⟩ := trod_rep (P := PG) okT fuel t cs d p h' (by rw [pg]; exact hlen) (by rw [pg]; exact hs)
  exact repL_lits _ _ hlit (cellsT_rep (ρ := nowhere) 8 t (toD d) cs hl hr)

theorem cells102 (d : D) : cellsT 8 102 d = (List.range 20).map fun i => .ui .u64 (qint (qfld d i)) := by kernel_rfl
theorem lit102 (d : D) : (cellsT 8 102 d).all isLitV = true := by rw [cells102]; rfl

theorem int_un (d : D) : qint d = d.toInt := by rw [qint_eq]
theorem bool_un (d : D) : qbool d = d.toBool := by rw [qbool_eq]

/-- The table's cells. -/
def tabCells (g : Nat) : List Value := ((findG g GLT).getD []).map fun a => match a with | .sc v => v | _ => .bool false

theorem vals0 : (cellsT 8 102 (toD (Rows.laid_internal_strconv_uint64pow10 (H := Unit)))).map litV = tabCells 0 := by
  rw [cells102]; simp only [int_un, qfld_eq]; rfl

theorem glob0 : Tryd.prog.globalNamed "internal/strconv.uint64pow10" = some 0 := by kernel_rfl
theorem gty0 : (Tryd.prog.globals[0]?).map (·.type) = some 102 := by kernel_rfl

theorem var_of {W : World} {name : String} {d : DataW Unit} {g t e n : Nat} {rest : List (String × DataW Unit)} (hg : Tryd.prog.globalNamed name = some g) (hty : (Tryd.prog.globals[g]?).map (·.type) = some t) (ht : Tryd.prog.underlying t = some (.array n e)) (hs : t < Tryd.prog.types.size)
    (hl : layOk PG 8 t = true) (hlit : (cellsT 8 t (toD d)).all isLitV = true) (h : laidMet Tryd.prog ((name, d) :: rest) W) : ∃ cs : Array Value, W.var? Tryd.prog name = some cs ∧ cs.toList = (cellsT 8 t (toD d)).map litV := by
  obtain ⟨ps, ⟨g', t', cs, fuel, p, q, hg', ht', hvar, hd, _, _⟩, _⟩ := h
  obtain rfl := Option.some.inj (hg.symm.trans hg')
  obtain rfl := Option.some.inj (hty.symm.trans ht')
  exact ⟨cs, hvar, cs_of_laid ht hs hl hlit hd⟩

theorem repAt_of {W : World} {E : Nat → Prop} {g : Nat} {name : String} {cs : Array Value} {vs : List Value} (hg : Tryd.prog.globalNamed name = some g) (hvar : W.var? Tryd.prog name = some cs) (he : cs.toList = vs) (h0 : 0 < vs.length) : g < W.heap.size ∧ RepAt nowhere E W g 0 (vs.map AV.sc) := by
  have hc : ∀ (i : Nat), W.cell? ⟨g, i, none⟩ = vs[i]? := fun i => by rw [World.var?_cell hg hvar i, ← he, Array.getElem?_toList]
  refine ⟨?_, RepAt.ofL (RepL.sc vs) fun j u hu => by rw [Nat.zero_add, hc]; exact hu⟩
  by_cases hlt : g < W.heap.size
  · exact hlt
  · exfalso
    have h1 : W.heap[g]? = none := Array.getElem?_eq_none (by omega)
    have h2 := hc 0
    rw [List.getElem?_eq_getElem h0] at h2
    simp [World.cell?, h1] at h2

theorem maxLen (W : World) (h : W.ShapedOpen Tryd.prog) : ∃ m, W.cell? ⟨1, 0, none⟩ = some (.int .i64 m) :=
  cell_of_shapedOpen_int (P := Tryd.prog) (t := 3) (zero := #[.int .i64 0]) h (of_decide_eq_true (by kernel_rfl)) (by kernel_rfl) (by kernel_rfl) (by kernel_rfl) (by kernel_rfl) Tryd.underlying3

/-- The tables lie in the world. -/
theorem tabs {W : World} {E : Nat → Prop} {l : List (String × DataW Unit)} (hl : l = Rows.textNumbersRow.laid) (h : laidMetH Tryd.prog l W) (hsh : W.ShapedOpen Tryd.prog) {S : FunS} {p s : List D} (g : Nat) (cs : List AV) (hgl : (heapF S p s).glob g = some cs) : g < W.heap.size ∧ RepAt nowhere E W g 0 cs := by
  subst hl
  have hp : ∀ g, (heapF S p s).glob g = findG g GLT := fun _ => rfl
  rw [hp] at hgl
  cases g with
  | zero =>
    have hf := laidMetH.filter (fun x => x.1 == "internal/strconv.uint64pow10") h
    have e : Rows.textNumbersRow.laid.filter (fun x => x.1 == "internal/strconv.uint64pow10") = [("internal/strconv.uint64pow10", Rows.laid_internal_strconv_uint64pow10)] := by rfl
    rw [e, MakeChecks.laidMetH_plain _ _ _ (by kernel_rfl)] at hf
    obtain ⟨a, h1, h2⟩ := var_of glob0 gty0 Tryd.underlying102 (of_decide_eq_true (by kernel_rfl)) (by kernel_rfl) (lit102 _) hf
    rw [vals0] at h2
    have := repAt_of (E := E) glob0 h1 h2 (of_decide_eq_true (by kernel_rfl))
    have e2 : findG 0 GLT = some ((tabCells 0).map AV.sc) := by rfl
    rw [e2] at hgl
    cases hgl
    exact this
  | succ g =>
    cases g with
    | zero =>
      obtain ⟨m, hm⟩ := maxLen W hsh
      have e2 : findG (0 + 1) GLT = some [.anyI .i64] := by rfl
      rw [e2] at hgl
      cases hgl
      refine ⟨?_, ?_⟩
      · by_cases h0 : 1 < W.heap.size
        · exact h0
        · exfalso
          have : W.heap[1]? = none := Array.getElem?_eq_none (by omega)
          simp [World.cell?, this] at hm
      · simp only [RepAt]
        exact ⟨⟨_, hm, by simp only [Rep]; exact ⟨m, rfl⟩⟩, trivial⟩
    | succ g =>
      have e2 : findG (g + 1 + 1) GLT = none := rfl
      rw [e2] at hgl; cases hgl

end Go.Proofs.YtobhhfbdelnhfaaDoor

namespace Go.Proofs.YtobhhfbdelnhfaaDoor
open Go Go.AM

theorem sound5 : SoundF env.P 5 S5 q5 := by rw [q5_eq]; exact liftX_sound envOk ok_tb8 60 12

theorem top5 {s : ByteArray} (w : World) (hL : laidMetH Tryd.prog Rows.textNumbersRow.laid w) (hsh : w.ShapedOpen Tryd.prog) :
    Calls Tryd.prog 5 #[.string s] w fun e w' => e = .returned (.bool true) ∧ RowKit.Below w.heap.size w w' := by
  refine (sound5 [] [.str s] [.bool true] rfl (law5 s) (fun b => b < w.heap.size) w nowhere _ w #[.string s] (Inv.empty w _ (fun _ h => h) rfl rfl (fun g cs h => tabs rfl hL hsh g cs h))
    (RepL.cons (show Rep nowhere _ w (.us s) (.string s) by simp only [Rep]) RepL.nil)).mono ?_
  rintro e w' ⟨u, ρ', E', rfl, inv, reach, rep⟩
  have hr : resF S5 [] (bdL [.bool true]) = .ub true := rfl
  rw [hr] at rep
  simp only [Rep] at rep
  subst rep
  exact ⟨rfl, ⟨inv.io.1, inv.io.2.1, inv.io.2.2, reach.size, inv.old⟩⟩

end Go.Proofs.YtobhhfbdelnhfaaDoor
