/-
  Plain laws: what is not known, unveiled; loops over numbers.
-/
import Derived.Test.YtcengfpfphdacaaAmS
import Derived.Test.YtcengfpfphdacaaM1
import Derived.Test.YtcengfpfphdacaaM2
namespace Go.AM

theorem qsome_s (r : List D) : qsome (some r) = true := by rw [qsome_eq]; rfl
theorem qsome_n : qsome none = false := by rw [qsome_eq]; rfl
theorem qnth_s (r : List D) (j : Nat) : qnth (some r) j = r.getD j .other := by rw [qnth_eq]; rfl
theorem qint_i (n : Int) : qint (.int n) = n := by rw [qint_eq]; rfl
theorem qbool_b (b : Bool) : qbool (.bool b) = b := by rw [qbool_eq]; rfl
theorem qstr_s (s : ByteArray) : qstr (.str s) = s := by rw [qstr_eq]; rfl
theorem qcmp_lss (a b : Int) : qcmp .lss a b = decide (a < b) := by rw [qcmp_eq]; rfl
theorem qcmp_leq (a b : Int) : qcmp .leq a b = decide (a ≤ b) := by rw [qcmp_eq]; rfl
theorem qcmp_gtr (a b : Int) : qcmp .gtr a b = decide (b < a) := by rw [qcmp_eq]; rfl
theorem qcmp_geq (a b : Int) : qcmp .geq a b = decide (b ≤ a) := by rw [qcmp_eq]; rfl
theorem qcmp_eql (a b : Int) : qcmp .eql a b = decide (a = b) := by rw [qcmp_eq]; simp only [rcmp]; cases h : decide (a = b) <;> simp_all
theorem qcmp_neq (a b : Int) : qcmp .neq a b = !decide (a = b) := by rw [qcmp_eq]; simp only [rcmp, bne]; cases h : decide (a = b) <;> simp_all
theorem qiteB_c (c a b : Bool) : qiteB c a b = bif c then a else b := by rw [qiteB_eq]
theorem qnot_c (a : Bool) : qnot a = !a := by rw [qnot_eq]
theorem qlen_c (d : D) : qlen d = (d.toList.length : Int) := by rw [qlen_eq]; rfl
theorem qinb_c (d : D) (i : Int) : qinb d i = (decide (0 ≤ i) && decide (i < d.toList.length)) := by rw [qinb_eq]; rfl
theorem qget_n (d : D) (i : Nat) : qget d (i : Int) = d.toList.getD i .other := by rw [qget_eq]; simp [D.get]
theorem qinb_n {d : D} {i : Nat} (h : i < d.toList.length) : qinb d (i : Int) = true := by rw [qinb_c]; simp; omega

theorem cond_dec {α : Type} (p : Prop) [Decidable p] (a b : α) : (bif decide p then a else b) = if p then a else b := by by_cases h : p <;> simp [h]

/-- A loop that counts: so many rounds more. -/
def forN {A R : Type} (body : Nat → A → Option (Sum A R)) (fin : A → R) : Nat → Nat → A → Option R
  | _, 0, a => some (fin a)
  | i, k + 1, a => match body i a with
    | none => none
    | some (.inl a') => forN body fin (i + 1) k a'
    | some (.inr r) => some r

theorem loW_for {A S R : Type} {st : S → Option (Sum S R)} {enc : Nat → A → S} {n : Nat} {body : Nat → A → Option (Sum A R)} {fin : A → R} {I : Nat → A → Prop}
    (h1 : ∀ i a, i < n → I i a → st (enc i a) = match body i a with
      | none => none
      | some (.inl a') => some (.inl (enc (i + 1) a'))
      | some (.inr r) => some (.inr r))
    (h0 : ∀ a, I n a → st (enc n a) = some (.inr (fin a))) (hI : ∀ i a a', i < n → I i a → body i a = some (.inl a') → I (i + 1) a') :
    ∀ k i a, i + k = n → I i a → loW st (enc i a) = forN body fin i k a := by
  intro k
  induction k with
  | zero =>
    intro i a hi ha
    obtain rfl : i = n := by omega
    rw [loW_eq, h0 a ha]; rfl
  | succ k ih =>
    intro i a hi ha
    rw [loW_eq, h1 i a (by omega) ha]
    simp only [forN]
    cases hb : body i a with
    | none => rfl
    | some x =>
      cases x with
      | inr r => rfl
      | inl a' => exact ih (i + 1) a' (by omega) (hI i a a' (by omega) ha hb)

/-- A search: the first place at which there is an answer. -/
def srch {R : Type} (f : Nat → Option R) (r0 : R) : Nat → Nat → R
  | _, 0 => r0
  | i, k + 1 => match f i with
    | none => srch f r0 (i + 1) k
    | some r => r

theorem loW_srch {S R : Type} {st : S → Option (Sum S R)} {enc : Nat → S} {n : Nat} {f : Nat → Option R} {r0 : R}
    (h1 : ∀ i, i < n → st (enc i) = match f i with
      | none => some (.inl (enc (i + 1)))
      | some r => some (.inr r))
    (h0 : st (enc n) = some (.inr r0)) : ∀ k i, i + k = n → loW st (enc i) = some (srch f r0 i k) := by
  intro k
  induction k with
  | zero =>
    intro i hi
    obtain rfl : i = n := by omega
    rw [loW_eq, h0]; rfl
  | succ k ih =>
    intro i hi
    rw [loW_eq, h1 i (by omega)]
    simp only [srch]
    cases hb : f i with
    | some r => rfl
    | none => exact ih (i + 1) (by omega)

/-- A search in a list. -/
def srchL {α R : Type} (f : Nat → α → Option R) (r0 : R) : Nat → List α → R
  | _, [] => r0
  | i, x :: xs => match f i x with
    | none => srchL f r0 (i + 1) xs
    | some r => r

theorem srch_list {R : Type} {f : Nat → Option R} {g : Nat → D → Option R} {r0 : R} {xs : List D} (h : ∀ i x, xs[i]? = some x → f i = g i x) : ∀ k i, i + k = xs.length → srch f r0 i k = srchL g r0 i (xs.drop i) := by
  intro k
  induction k with
  | zero => intro i hi; rw [List.drop_of_length_le (by omega)]; rfl
  | succ k ih =>
    intro i hi
    have hlt : i < xs.length := by omega
    rw [List.drop_eq_getElem_cons hlt]
    simp only [srch, srchL]
    rw [h i xs[i] (List.getElem?_eq_getElem hlt)]
    cases g i xs[i] with
    | some r => rfl
    | none => exact ih (i + 1) (by omega)

/-- Does one of the list fit? -/
theorem srchL_any {R : Type} {p : D → Bool} {r : Nat → R} {r0 : R} {P : R → Bool} (h0 : P r0 = false) (h1 : ∀ i, P (r i) = true) : ∀ (xs : List D) (i : Nat), P (srchL (fun i x => if p x then some (r i) else none) r0 i xs) = xs.any p
  | [], i => h0
  | x :: xs, i => by
    simp only [srchL, List.any_cons]
    cases hp : p x with
    | true => simp [h1]
    | false => simpa using srchL_any h0 h1 xs (i + 1)

theorem getD_lt {xs : List D} {i : Nat} (h : i < xs.length) : xs.getD i .other = xs[i] := by simp [List.getD, h]

theorem wrap64' {n : Int} (h0 : -9223372036854775808 ≤ n) (h1 : n ≤ 9223372036854775807) : IntKind.i64.wrap n = n := wrap64 h0 h1

theorem add_nat {i : Nat} (h : i < 9223372036854775807) : qbin .add .i64 (i : Int) 1 = ((i + 1 : Nat) : Int) := by
  rw [add64 (by omega) (by omega)]; omega

/-- A search with a test that is a function. -/
theorem idxLoop {st : List D → Option (Sum (List D) (List D))} {l : D} {c : D → Option (List D)} {p : D → Bool} {r1 : Int → List D} {r0 : List D}
    (hst : ∀ i : Int, st [.int i] = bif qcmp .lss i (qlen l) then bif qinb l i then bif qsome (c (qget l i)) then bif qbool (qnth (c (qget l i)) 0) then some (.inr (r1 i)) else some (.inl [.int (qbin .add .i64 i 1)]) else none else none else some (.inr r0))
    (hl : l.toList.length ≤ maxLen) (hc : ∀ x ∈ l.toList, c x = some [.bool (p x)]) :
    (loW st [.int 0] = some r0 ∧ l.toList.any p = false) ∨ ∃ i : Nat, loW st [.int 0] = some (r1 i) ∧ l.toList.any p = true := by
  unfold maxLen at hl
  have key : ∀ k i : Nat, i + k = l.toList.length → (loW st [.int i] = some r0 ∧ (l.toList.drop i).any p = false) ∨ ∃ j : Nat, loW st [.int i] = some (r1 j) ∧ (l.toList.drop i).any p = true := by
    intro k
    induction k with
    | zero =>
      intro i hi
      left
      rw [loW_eq, hst, qcmp_lss, qlen_c, List.drop_of_length_le (by omega)]
      simp [show ¬ ((i : Int) < l.toList.length) by omega]
    | succ k ih =>
      intro i hi
      have hlt : i < l.toList.length := by omega
      rw [loW_eq, hst, qcmp_lss, qlen_c, qinb_n hlt, qget_n, getD_lt hlt, hc _ (List.getElem_mem hlt), List.drop_eq_getElem_cons hlt]
      simp only [show ((i : Int) < l.toList.length) by omega, decide_true, cond_true, qsome_s, qnth_s, List.getD_cons_zero, qbool_b, List.any_cons]
      cases hp : p l.toList[i] with
      | true => exact .inr ⟨i, rfl, by simp⟩
      | false =>
        simp only [cond_false, Bool.false_or]
        rw [add_nat (by omega)]
        exact ih (i + 1) (by omega)
  have := key l.toList.length 0 (by omega)
  simpa using this

theorem size_elem {d : D} {j : Nat} {x : D} (h : x ∈ (d.fld j).toList) : x.size < d.size := by
  cases d with
  | agg xs =>
    simp only [D.fld, List.getD] at h
    cases hx : xs[j]? with
    | none => rw [hx] at h; simp [D.toList] at h
    | some y =>
      rw [hx] at h
      simp only [Option.getD_some] at h
      have h1 := sizes_get hx
      cases y with
      | list ys =>
        simp only [D.toList] at h
        obtain ⟨i, hi⟩ := List.getElem?_of_mem h
        have h2 := sizes_get hi
        simp only [D.size] at h1 ⊢
        omega
      | _ => simp [D.toList] at h
  | _ => simp [D.fld, D.toList] at h

end Go.AM

namespace Go.Proofs.Ytcengfpfphdacaa
open Go Go.AM

theorem conf_elems {T e : TypeId} {j F : Nat} {d : D} (hT : isFld T j F = true) (hF : isSl F e = true) (h : Conf PG T d) : (d.fld j).toList.length ≤ maxLen ∧ ∀ x ∈ (d.fld j).toList, Conf PG e x := by
  have h1 := conf_fld hT (qconf_iff.2 h)
  have h2 := qconfL_iff.1 (conf_list hF h1)
  rw [qfld_eq] at h2
  exact ⟨h2.1, h2.2.2⟩

theorem contains82 {Q : List D → Option (List D)} {l : D} {n : Int} {p : D → Bool} (hl : l.toList.length ≤ maxLen) (hc : ∀ x ∈ l.toList, q82 Q [x, .int n] = some [.bool (p x)]) : q81_82 Q [l, .int n] = some [.bool (l.toList.any p)] := by
  rw [q81_82_eq, F81_82_eq, q98_82_eq, F98_82_eq, l98_82_2_eq]
  rcases idxLoop (st := st98_82_2 Q [l, .int n, .int (qlen l)]) (c := fun x => q82 Q [x, .int n]) (r1 := fun i => [.int 1, .int i]) (r0 := [.int 0]) (fun i => st98_82_2_eq Q l n (qlen l) i) hl hc with ⟨h1, h2⟩ | ⟨i, h1, h2⟩
  · simp [h1, h2, qsome_s, qnth_s, qint_i, qcmp_eql, qcmp_geq]
  · simp [h1, h2, qsome_s, qnth_s, qint_i, qcmp_eql, qcmp_geq]

/-- Has an expression more levels? -/
def deepS : Nat → D → Int → Bool
  | 0, _, _ => false
  | N + 1, d, n => decide (n < 1) || (d.fld 4).toList.any fun x => deepS N x (n - 1)

theorem f60_4 : isFld 60 4 58 = true := by kernel_rfl
theorem s58 : isSl 58 60 = true := by kernel_rfl

theorem deep_spec : ∀ (N : Nat) (d : D) (n : Int), Conf PG 60 d → d.size < N → -9223372036854775808 ≤ n → n ≤ 9223372036854775807 → F94 N [d, .int n] = some [.bool (deepS N d n)] ∧ F55 N [d, .int n] = some [.bool (!deepS N d n)] := by
  intro N
  induction N with
  | zero => intro d n _ h; omega
  | succ N ih =>
    intro d n hd hs h0 h1
    obtain ⟨hl, hx⟩ := conf_elems f60_4 s58 hd
    rw [F94_s, F55_s, Fb94_eq, Fb55_eq]
    by_cases hn : n < 1
    · simp [qcmp_lss, qcmp_geq, hn, qiteB_c, deepS, show ¬ 1 ≤ n by omega]
    · have hsub : qbin .sub .i64 n 1 = n - 1 := sub64 (by omega) (by omega)
      have hel : ∀ x ∈ (d.fld 4).toList, F94 N [x, .int (n - 1)] = some [.bool (deepS N x (n - 1))] ∧ F55 N [x, .int (n - 1)] = some [.bool (!deepS N x (n - 1))] :=
        fun x hm => ih x (n - 1) (hx x hm) (by have := size_elem hm; omega) (by omega) (by omega)
      have h82 : ∀ x ∈ (d.fld 4).toList, q82 (F55 N) [x, .int n] = some [.bool (deepS N x (n - 1))] := fun x hm => by
        rw [q82_eq, F82_eq, hsub, (hel x hm).2]
        simp [qsome_s, qnth_s, qbool_b, qnot_c]
      have hcon := contains82 (n := n) hl h82
      rw [l94_4_eq, qfld_eq, hcon]
      have hloop := idxLoop (st := st94_4 (F94 N) [.int n, d]) (l := d.fld 4) (c := fun x => F94 N [x, .int (n - 1)]) (p := fun x => deepS N x (n - 1)) (r1 := fun _ => [.int 1]) (r0 := [.int 0])
        (fun i => by rw [st94_4_eq, hsub, qfld_eq]) hl (fun x hm => (hel x hm).1)
      rcases hloop with ⟨h3, h4⟩ | ⟨i, h3, h4⟩
      · simp [h3, h4, qcmp_lss, qcmp_geq, hn, show 1 ≤ n by omega, qsome_s, qnth_s, qint_i, qbool_b, qnot_c, qcmp_eql, qiteB_c, deepS]
      · simp [h3, h4, qcmp_lss, qcmp_geq, hn, show 1 ≤ n by omega, qsome_s, qnth_s, qint_i, qbool_b, qnot_c, qcmp_eql, qiteB_c, deepS]

theorem contains85 {Q : List D → Option (List D)} {l : D} {p : D → Bool} (hl : l.toList.length ≤ maxLen) (hc : ∀ x ∈ l.toList, q85 Q [x] = some [.bool (p x)]) : q81_85 Q [l] = some [.bool (l.toList.any p)] := by
  rw [q81_85_eq, F81_85_eq, q98_85_eq, F98_85_eq, l98_85_2_eq]
  rcases idxLoop (st := st98_85_2 Q [l, .int (qlen l)]) (c := fun x => q85 Q [x]) (r1 := fun i => [.int 1, .int i]) (r0 := [.int 0]) (fun i => st98_85_2_eq Q l (qlen l) i) hl hc with ⟨h1, h2⟩ | ⟨i, h1, h2⟩
  · simp [h1, h2, qsome_s, qnth_s, qint_i, qcmp_eql, qcmp_geq]
  · simp [h1, h2, qsome_s, qnth_s, qint_i, qcmp_eql, qcmp_geq]

theorem var_spec (v : Int) : q83 [.int v] = some [.bool (decide (0 ≤ v) && decide (v < 65536))] := by
  rw [q83_eq, F83_eq]; simp only [qiteB_c, qcmp_geq, qcmp_lss]; cases h : decide (0 ≤ v) <;> simp
theorem isVar_spec (v : Int) : q74 [.int v] = some [.bool (decide (0 ≤ v) && decide (v < 65536))] := by
  rw [q74_eq, F74_eq]; simp only [qiteB_c, qcmp_geq, qcmp_lss]; cases h : decide (0 ≤ v) <;> simp
theorem access_spec (v : Int) : q84 [.int v] = some [.bool (decide (v = 1) || decide (v = 2) || decide (v = 4))] := by
  rw [q84_eq, F84_eq]; simp only [qiteB_c, qcmp_eql]; cases h : decide (v = 1) <;> cases h2 : decide (v = 2) <;> simp

theorem formed_eq : ∀ (N : Nat) (d : D), Conf PG 60 d → d.size < N → ∃ b, F56 N [d] = some [.bool b] ∧ F95 N [d] = some [.bool b] := by
  intro N
  induction N with
  | zero => intro d _ h; omega
  | succ N ih =>
    intro d hd hs
    obtain ⟨hl, hx⟩ := conf_elems f60_4 s58 hd
    have hel : ∀ x ∈ (d.fld 4).toList, ∃ b, F56 N [x] = some [.bool b] ∧ F95 N [x] = some [.bool b] := fun x hm => ih x (hx x hm) (by have := size_elem hm; omega)
    let p : D → Bool := fun x => match F56 N [x] with | some [.bool b] => !b | _ => false
    have h85 : ∀ x ∈ (d.fld 4).toList, q85 (F56 N) [x] = some [.bool (p x)] := fun x hm => by
      obtain ⟨b, h1, h2⟩ := hel x hm
      rw [q85_eq, F85_eq]
      simp [p, h1, qsome_s, qnth_s, qbool_b, qnot_c]
    have hcon := contains85 hl h85
    rw [F56_s, F95_s, Fb56_eq, Fb95_eq]
    rw [l95_2_eq, qfld_eq, hcon]
    have hloop := idxLoop (st := st95_2 (F95 N) [d]) (l := d.fld 4) (c := fun x => (F95 N [x]).map fun r => [.bool (qnot (qbool (r.getD 0 .other)))]) (p := p) (r1 := fun _ => [.int 1]) (r0 := [.int 0])
      (fun i => by
        rw [st95_2_eq, qfld_eq]
        cases hq : F95 N [qget (d.fld 4) i] with
        | none => simp [qsome_n]
        | some r => simp [qsome_s, qnth_s, qbool_b]) hl (fun x hm => by
        obtain ⟨b, h1, h2⟩ := hel x hm
        simp [h1, h2, p, qbool_b, qnot_c])
    generalize (d.fld 4).toList.any p = an at *
    simp only [var_spec, isVar_spec, access_spec, qsome_s, qnth_s, List.getD_cons_zero, qbool_b, qnot_c, qcmp_eql, qcmp_geq, qcmp_leq, qiteB_c, decide_true, cond_true]
    generalize qint (d.fld 0) = o
    generalize qint (d.fld 1) = n
    generalize qint (d.fld 2) = v
    generalize qint (d.fld 3) = w
    generalize qlen (d.fld 4) = z
    rcases hloop with ⟨h3, rfl⟩ | ⟨i, h3, rfl⟩
    · simp only [h3, qsome_s, qnth_s, List.getD_cons_zero, qint_i, decide_true, cond_true, Bool.cond_self]
      by_cases e1 : o = 1
      · subst e1; simp <;> grind
      by_cases e2 : o = 2
      · subst e2; simp <;> grind
      by_cases e16 : o = 16
      · subst e16; simp <;> grind
      by_cases e17 : o = 17
      · subst e17; simp <;> grind
      by_cases e18 : o = 18
      · subst e18; simp <;> grind
      by_cases e19 : o = 19
      · subst e19; simp <;> grind
      simp [e1, e2, e16, e17, e18, e19] <;> grind
    · simp only [h3, qsome_s, qnth_s, List.getD_cons_zero, qint_i, decide_true, cond_true, Bool.cond_self]
      by_cases e1 : o = 1
      · subst e1; simp
      by_cases e2 : o = 2
      · subst e2; simp <;> grind
      by_cases e16 : o = 16
      · subst e16; simp
      by_cases e17 : o = 17
      · subst e17; simp
      by_cases e18 : o = 18
      · subst e18; simp <;> grind
      by_cases e19 : o = 19
      · subst e19; simp <;> grind
      simp [e1, e2, e16, e17, e18, e19] <;> grind

end Go.Proofs.Ytcengfpfphdacaa

namespace Go.Proofs.Ytcengfpfphdacaa
open Go Go.AM

/-- The first that is not 0. -/
def firstErr (e : D → Int) : List D → Int
  | [] => 0
  | x :: xs => if e x = 0 then firstErr e xs else e x

theorem firstErr_congr {e e' : D → Int} : ∀ {xs : List D}, (∀ x ∈ xs, e x = e' x) → firstErr e xs = firstErr e' xs
  | [], _ => rfl
  | x :: xs, h => by
    simp only [firstErr]
    rw [h x List.mem_cons_self, firstErr_congr fun y hy => h y (List.mem_cons_of_mem _ hy)]

def errOut (n : Int) : List D := if n = 0 then [.int 0] else [.int 1, .int n]

theorem errLoop {st : List D → Option (Sum (List D) (List D))} {l : D} {c : D → Option (List D)} {e : D → Int}
    (hst : ∀ i : Int, st [.int i] = bif qcmp .lss i (qlen l) then bif qinb l i then bif qsome (c (qget l i)) then bif qcmp .neq (qint (qnth (c (qget l i)) 0)) 0 then some (.inr [.int 1, .int (qint (qnth (c (qget l i)) 0))]) else some (.inl [.int (qbin .add .i64 i 1)]) else none else none else some (.inr [.int 0]))
    (hl : l.toList.length ≤ maxLen) (hc : ∀ x ∈ l.toList, c x = some [.int (e x)]) : loW st [.int 0] = some (errOut (firstErr e l.toList)) := by
  unfold maxLen at hl
  have key : ∀ k i : Nat, i + k = l.toList.length → loW st [.int i] = some (errOut (firstErr e (l.toList.drop i))) := by
    intro k
    induction k with
    | zero =>
      intro i hi
      rw [loW_eq, hst, qcmp_lss, qlen_c, List.drop_of_length_le (by omega)]
      simp [show ¬ ((i : Int) < l.toList.length) by omega, firstErr, errOut]
    | succ k ih =>
      intro i hi
      have hlt : i < l.toList.length := by omega
      rw [loW_eq, hst, qcmp_lss, qlen_c, qinb_n hlt, qget_n, getD_lt hlt, hc _ (List.getElem_mem hlt), List.drop_eq_getElem_cons hlt]
      simp only [show ((i : Int) < l.toList.length) by omega, decide_true, cond_true, qsome_s, qnth_s, List.getD_cons_zero, qint_i, qcmp_neq, firstErr]
      by_cases he : e l.toList[i] = 0
      · simp only [he, decide_true, Bool.not_true, cond_false, if_true]
        rw [add_nat (by omega)]
        exact ih (i + 1) (by omega)
      · simp only [he, decide_false, Bool.not_false, cond_true, if_false]
        rw [errOut, if_neg he]
  have := key l.toList.length 0 (by omega)
  simpa using this

theorem errOut_0 {n : Int} : qcmp .eql (qint (qnth (some (errOut n)) 0)) 0 = decide (n = 0) := by
  unfold errOut
  split <;> simp [qnth_s, qint_i, qcmp_eql, *]
theorem errOut_1 {n : Int} (h : n ≠ 0) : qint (qnth (some (errOut n)) 1) = n := by
  unfold errOut
  rw [if_neg h]; simp [qnth_s, qint_i]

theorem size_lt (d : D) : d.size < d.size + 1 := Nat.lt_succ_self _

theorem qsome_bif (c : Bool) (x y : Option (List D)) : qsome (bif c then x else y) = bif c then qsome x else qsome y := by cases c <;> rfl
theorem qnth_bif (c : Bool) (x y : Option (List D)) (j : Nat) : qnth (bif c then x else y) j = bif c then qnth x j else qnth y j := by cases c <;> rfl
theorem qint_bif (c : Bool) (x y : D) : qint (bif c then x else y) = bif c then qint x else qint y := by cases c <;> rfl
theorem qbool_bif (c : Bool) (x y : D) : qbool (bif c then x else y) = bif c then qbool x else qbool y := by cases c <;> rfl
theorem int_bif (c : Bool) (x y : Int) : (bif c then some [D.int x] else some [D.int y]) = some [D.int (bif c then x else y)] := by cases c <;> rfl
theorem bool_bif (c : Bool) (x y : Bool) : (bif c then some [D.bool x] else some [D.bool y]) = some [D.bool (bif c then x else y)] := by cases c <;> rfl

/-- What an expression's check says. -/
noncomputable def eExpr (d : D) : Int := qint (qnth (F30 [d]) 0)

theorem fuel2 (d : D) (n : Int) : d.size < fuelL [d, .int n] ∧ d.size < fuelL [d] := by
  simp only [fuelL]
  have : d.size ≤ d.wt ∨ ∃ m, d = .int m := by
    cases d <;> simp [D.wt]
  rcases this with h | ⟨m, rfl⟩
  · omega
  · simp [D.size]; omega

theorem expr_eq {d : D} (hd : Conf PG 60 d) : F30 [d] = some [.int (eExpr d)] ∧ F72 [d] = some [.int (eExpr d)] := by
  obtain ⟨h1, h2⟩ := fuel2 d 64
  obtain ⟨a, b⟩ := deep_spec (fuelL [d, .int 64]) d 64 hd h1 (by omega) (by omega)
  obtain ⟨c, f1, f2⟩ := formed_eq (fuelL [d]) d hd h2
  have key : ∃ e, F30 [d] = some [.int e] ∧ F72 [d] = some [.int e] := by
    rw [F30_eq, F72_eq, q55_eq, q94_eq, q56_eq, q95_eq]
    simp only [a, b, f1, f2, qsome_s, qnth_s, List.getD_cons_zero, qbool_b, qnot_c, cond_true]
    cases deepS (fuelL [d, .int 64]) d 64 <;> cases c <;> simp
  obtain ⟨e, h1, h2⟩ := key
  have : eExpr d = e := by unfold eExpr; rw [h1]; simp [qnth_s, qint_i]
  rw [this]; exact ⟨h1, h2⟩

/-- What a statement's check says. -/
noncomputable def eStmt (d : D) : Int := qint (qnth (F41 [d]) 0)

theorem f81_6 : isFld 81 6 58 = true := by kernel_rfl

theorem exprsOf (d : D) (hd : Conf PG 81 d) : (d.fld 6).toList.length ≤ maxLen ∧ ∀ x ∈ (d.fld 6).toList, Conf PG 60 x := conf_elems f81_6 s58 hd

theorem stmt_eq {d : D} (hd : Conf PG 81 d) : F41 [d] = some [.int (eStmt d)] ∧ F46 [d] = some [.int (eStmt d)] := by
  obtain ⟨hl, hx⟩ := exprsOf d hd
  have key : ∃ e, F41 [d] = some [.int e] ∧ F46 [d] = some [.int e] := by
    have h1 := errLoop (st := st41_5 [qfld d 6, .int (qlen (qfld d 6)), d]) (l := d.fld 6) (c := fun x => q30 [x]) (e := eExpr) (fun i => by rw [st41_5_eq, qfld_eq]) hl (fun x hm => by rw [q30_eq]; exact (expr_eq (hx x hm)).1)
    have h2 := errLoop (st := st46_4 [d]) (l := d.fld 6) (c := fun x => q72 [x]) (e := eExpr) (fun i => by rw [st46_4_eq, qfld_eq]) hl (fun x hm => by rw [q72_eq]; exact (expr_eq (hx x hm)).2)
    rw [F41_eq, F46_eq, l41_5_eq, l46_4_eq]
    simp only [h1, h2]
    generalize firstErr eExpr (d.fld 6).toList = fe
    simp only [q66_eq, q71_eq, q67_eq, q73_eq, q74_eq, F66_eq, F71_eq, F67_eq, F73_eq, var_spec, isVar_spec, access_spec, F74_eq, errOut_0, qsome_bif, qnth_bif, qint_bif, qbool_bif, qsome_s, qnth_s, List.getD_cons_zero, qint_i, qbool_b, qnot_c, qiteB_c, qcmp_eql, qcmp_neq, qcmp_lss, qcmp_gtr, qcmp_geq, qcmp_leq, Bool.cond_self, cond_true]
    generalize qint (qnth (some (errOut fe)) 1) = fe1
    simp only [int_bif]
    refine ⟨_, rfl, ?_⟩
    congr 3
    generalize qint (qfld d 0) = o
    generalize qint (qfld d 1) = v
    generalize qint (qfld d 2) = w
    generalize qint (qfld d 3) = nx
    generalize qint (qfld d 4) = el
    generalize qint (qfld d 5) = tg
    generalize qlen (qfld d 6) = ne
    generalize qlen (qfld d 7) = nc
    by_cases a1 : o = 1
    · subst a1; simp; grind
    by_cases a2 : o = 2
    · subst a2; simp; grind
    by_cases a3 : o = 3
    · subst a3; simp; grind
    by_cases a4 : o = 4
    · subst a4; simp; grind
    by_cases a5 : o = 5
    · subst a5; simp; grind
    by_cases a6 : o = 6
    · subst a6; simp; grind
    by_cases a7 : o = 7
    · subst a7; simp; grind
    by_cases a8 : o = 8
    · subst a8; simp; grind
    by_cases a9 : o = 9
    · subst a9; simp; grind
    by_cases a10 : o = 10
    · subst a10; simp; grind
    simp [a1, a2, a3, a4, a5, a6, a7, a8, a9, a10]; grind
  obtain ⟨e, h1, h2⟩ := key
  have : eStmt d = e := by unfold eStmt; rw [h1]; simp [qnth_s, qint_i]
  rw [this]; exact ⟨h1, h2⟩

end Go.Proofs.Ytcengfpfphdacaa

namespace Go.Proofs.Ytcengfpfphdacaa
open Go Go.AM

theorem tl_list (xs : List D) : (D.list xs).toList = xs := rfl
theorem qand_c (a b : Bool) : qand a b = (a && b) := by rw [qand_eq]

/-- A search by place. -/
theorem anyFor {st : List D → Option (Sum (List D) (List D))} {n : Nat} {p : Nat → Bool} {r1 : Nat → List D} {r0 : List D} (hn : n ≤ maxLen)
    (h1 : ∀ i : Nat, i < n → st [.int i] = bif p i then some (.inr (r1 i)) else some (.inl [.int (qbin .add .i64 i 1)])) (h0 : st [.int n] = some (.inr r0)) :
    (loW st [.int 0] = some r0 ∧ ∀ i, i < n → p i = false) ∨ ∃ i, i < n ∧ p i = true ∧ (∀ j, j < i → p j = false) ∧ loW st [.int 0] = some (r1 i) := by
  unfold maxLen at hn
  have key : ∀ k i : Nat, i + k = n → (∀ j, j < i → p j = false) → (loW st [.int i] = some r0 ∧ ∀ i, i < n → p i = false) ∨ ∃ i', i' < n ∧ p i' = true ∧ (∀ j, j < i' → p j = false) ∧ loW st [.int i] = some (r1 i') := by
    intro k
    induction k with
    | zero =>
      intro i hi hp
      obtain rfl : i = n := by omega
      exact .inl ⟨by rw [loW_eq, h0], hp⟩
    | succ k ih =>
      intro i hi hp
      have hlt : i < n := by omega
      rw [loW_eq, h1 i hlt]
      cases hc : p i with
      | true => exact .inr ⟨i, hlt, hc, hp, rfl⟩
      | false =>
        simp only [cond_false]
        rw [add_nat (by omega)]
        exact ih (i + 1) (by omega) fun j hj => by
          by_cases h : j = i
          · subst h; exact hc
          · exact hp j (by omega)
  exact key n 0 (by omega) (fun j hj => absurd hj (Nat.not_lt_zero _))

/-- The first that is not 0, by place. -/
def fErr (e : Nat → Int) : Nat → Nat → Int
  | _, 0 => 0
  | i, k + 1 => if e i = 0 then fErr e (i + 1) k else e i

theorem fErr_congr {e e' : Nat → Int} : ∀ {k i : Nat}, (∀ j, j < i + k → e j = e' j) → fErr e i k = fErr e' i k
  | 0, _, _ => rfl
  | k + 1, i, h => by
    simp only [fErr]
    rw [h i (by omega), fErr_congr (k := k) (i := i + 1) fun j hj => h j (by omega)]

theorem errFor {st : List D → Option (Sum (List D) (List D))} {n : Nat} {e : Nat → Int} (hn : n ≤ maxLen)
    (h1 : ∀ i : Nat, i < n → st [.int i] = if e i = 0 then some (.inl [.int (qbin .add .i64 i 1)]) else some (.inr [.int 1, .int (e i)]))
    (h0 : st [.int n] = some (.inr [.int 0])) : loW st [.int 0] = some (errOut (fErr e 0 n)) := by
  unfold maxLen at hn
  have key : ∀ k i : Nat, i + k = n → loW st [.int i] = some (errOut (fErr e i k)) := by
    intro k
    induction k with
    | zero =>
      intro i hi
      obtain rfl : i = n := by omega
      rw [loW_eq, h0]; simp [fErr, errOut]
    | succ k ih =>
      intro i hi
      have hlt : i < n := by omega
      rw [loW_eq, h1 i hlt]
      by_cases he : e i = 0
      · simp only [he, if_true, fErr]
        rw [add_nat (by omega)]
        exact ih (i + 1) (by omega)
      · simp only [he, if_false, fErr]
        rw [errOut, if_neg he]
  exact key n 0 (by omega)

/-- A list is searched by a function. -/
theorem contG {st : List D → Option (Sum (List D) (List D))} {l : D} {c : D → Option (List D)} {p : D → Bool}
    (hst : ∀ i : Int, st [.int i] = bif qcmp .lss i (qlen l) then bif qinb l i then bif qsome (c (qget l i)) then bif qbool (qnth (c (qget l i)) 0) then some (.inr [.int 1, .int i]) else some (.inl [.int (qbin .add .i64 i 1)]) else none else none else some (.inr [.int 0]))
    (hl : l.toList.length ≤ maxLen) (hc : ∀ x ∈ l.toList, c x = some [.bool (p x)]) :
    ∃ k : Int, (bif qsome (loW st [.int 0]) then bif qcmp .eql (qint (qnth (loW st [.int 0]) 0)) 0 then some [D.int (-1)] else some [.int (qint (qnth (loW st [.int 0]) 1))] else none) = some [.int k] ∧ decide (0 ≤ k) = l.toList.any p := by
  rcases idxLoop (r1 := fun i => [.int 1, .int i]) hst hl hc with ⟨h1, h2⟩ | ⟨i, h1, h2⟩
  · exact ⟨-1, by simp [h1, qsome_s, qnth_s, qint_i, qcmp_eql], by rw [h2]; rfl⟩
  · exact ⟨i, by simp [h1, qsome_s, qnth_s, qint_i, qcmp_eql], by rw [h2]; simp⟩

theorem take_any {p : D → Bool} {xs : List D} {i : Nat} (hi : i ≤ xs.length) : (xs.take i).any p = true ↔ ∃ k, k < i ∧ p (xs.getD k .other) = true := by
  rw [List.any_eq_true]
  constructor
  · rintro ⟨x, hx, hp⟩
    obtain ⟨k, hk, rfl⟩ := List.getElem_of_mem hx
    simp only [List.length_take] at hk
    refine ⟨k, by omega, ?_⟩
    rw [List.getElem_take] at hp
    rw [getD_lt (by omega)]; exact hp
  · rintro ⟨k, hk, hp⟩
    rw [getD_lt (by omega)] at hp
    exact ⟨_, List.mem_take_iff_getElem.2 ⟨k, by omega, rfl⟩, hp⟩

theorem qsub_l (d : D) (i : Nat) : (qsub d 0 (i : Int)).toList = d.toList.take i := by rw [qsub_eq]; simp [D.sub, D.toList]

/- Statements that end a block. -/

noncomputable def term (d : D) : Bool := decide (6 ≤ qint (qfld d 0)) && decide (qint (qfld d 0) ≤ 10)
theorem term_p (d : D) : q61 [d] = some [.bool (term d)] := by
  rw [q61_eq, F61_eq]; simp only [qiteB_c, qcmp_geq, qcmp_leq, term]; cases decide (6 ≤ qint (qfld d 0)) <;> simp
theorem term_r (d : D) : q69 [d] = some [.bool (term d)] := by
  rw [q69_eq, F69_eq]; simp only [qiteB_c, qcmp_geq, qcmp_leq, term]; cases decide (6 ≤ qint (qfld d 0)) <;> simp

theorem contains61 {l : D} (hl : l.toList.length ≤ maxLen) : q62_61 [l] = some [.bool (l.toList.any term)] := by
  obtain ⟨k, h1, h2⟩ := contG (st := st91_61_2 [l, .int (qlen l)]) (c := fun x => q61 [x]) (p := term) (fun i => by rw [st91_61_2_eq]) hl (fun x _ => term_p x)
  rw [q62_61_eq, F62_61_eq, q91_61_eq, F91_61_eq, l91_61_2_eq, h1]
  simp only [qsome_s, cond_true, qnth_s, List.getD_cons_zero, qint_i, qcmp_geq, h2]

noncomputable def outside (n : Int) (x : D) : Bool := decide (qint x < 0) || decide (n ≤ qint x)
theorem outside_p (x g : D) : q65 [.int (qint x), g] = some [.bool (outside (qlen (qfld g 1)) x)] := by
  rw [q65_eq, F65_eq]; simp only [qiteB_c, qcmp_lss, qcmp_geq, outside]; cases decide (qint x < 0) <;> simp

theorem contains65 {l g : D} (hl : l.toList.length ≤ maxLen) : q63_65 [l, g] = some [.bool (l.toList.any (outside (qlen (qfld g 1))))] := by
  obtain ⟨k, h1, h2⟩ := contG (st := st92_65_2 [l, g, .int (qlen l)]) (c := fun x => q65 [.int (qint x), g]) (p := outside (qlen (qfld g 1))) (fun i => by rw [st92_65_2_eq]) hl (fun x _ => outside_p x g)
  rw [q63_65_eq, F63_65_eq, q92_65_eq, F92_65_eq, l92_65_2_eq, h1]
  simp only [qsome_s, cond_true, qnth_s, List.getD_cons_zero, qint_i, qcmp_geq, h2]

/- Where a statement goes. -/

noncomputable def tgts (s : D) : List D :=
  if qint (qfld s 0) = 6 then [.int (qint (qfld s 3))] else if qint (qfld s 0) = 7 then [.int (qint (qfld s 3)), .int (qint (qfld s 4))] else if qint (qfld s 0) = 8 then (qfld s 7).toList else []

theorem tgts_r (s : D) : ∃ X, q70 [s] = some [X] ∧ X.toList = tgts s := by
  rw [q70_eq, F70_eq]
  simp only [qcmp_eql, tgts]
  by_cases h6 : qint (qfld s 0) = 6
  · simp [h6, tl_list]
  by_cases h7 : qint (qfld s 0) = 7
  · simp [h7, tl_list]
  by_cases h8 : qint (qfld s 0) = 8
  · simp [h8]
  simp [h6, h7, h8, tl_list]

noncomputable def lastS (b : D) : D := qget (qfld b 1) (((qfld b 1).toList.length - 1 : Nat) : Int)

theorem last_ix {l : D} (h : l.toList.length ≠ 0) (hl : l.toList.length ≤ maxLen) : qbin .sub .i64 (qlen l) 1 = ((l.toList.length - 1 : Nat) : Int) := by
  unfold maxLen at hl
  rw [qlen_c, sub64 (by omega) (by omega)]; omega

theorem tgts_p {b : D} (h : (qfld b 1).toList.length ≠ 0) (hl : (qfld b 1).toList.length ≤ maxLen) (hm : (qfld (lastS b) 7).toList.length ≤ 1048576) : ∃ X, q64 [b] = some [X] ∧ X.toList = tgts (lastS b) := by
  rw [q64_eq, F64_eq, last_ix h hl, qinb_n (by omega)]
  simp only [qcmp_eql, tgts, qlen_c]
  rw [show qget (qfld b 1) (((qfld b 1).toList.length - 1 : Nat) : Int) = lastS b from rfl]
  have h0 : ¬ (((qfld b 1).toList.length : Int) = 0) := by omega
  simp only [h0, decide_false, cond_false, cond_true]
  by_cases h6 : qint (qfld (lastS b) 0) = 6
  · simp [h6, tl_list]
  by_cases h7 : qint (qfld (lastS b) 0) = 7
  · simp [h7, tl_list]
  by_cases h8 : qint (qfld (lastS b) 0) = 8
  · have hq : q93 [qfld (lastS b) 7] = some [qapp (.list []) (qfld (lastS b) 7)] := by
      rw [q93_eq]
      unfold F93
      have : qapp (.list []) (qfld (lastS b) 7) = .list (qfld (lastS b) 7).toList := by rw [qapp_eq]; simp [D.app, tl_list]
      simp only [List.headD_cons, this, qlen_c, tl_list]
      rw [qmem_eq]
      have hr : rmem ((qfld (lastS b) 7).toList.length : Int) 8 = true := by
        simp [rmem]; omega
      rw [hr]; rfl
    have ha : (qapp (.list []) (qfld (lastS b) 7)).toList = (qfld (lastS b) 7).toList := by rw [qapp_eq]; simp [D.app, tl_list]
    simp [h8, hq, qsome_s, qnth_s, ha]
  simp [h6, h7, h8, tl_list]

end Go.Proofs.Ytcengfpfphdacaa

namespace Go.Proofs.Ytcengfpfphdacaa
open Go Go.AM

theorem sizes_len : ∀ xs : List D, xs.length ≤ D.sizes xs
  | [] => Nat.zero_le _
  | x :: xs => by
    have := sizes_len xs
    have := D.size_pos x
    simp only [List.length_cons, D.sizes]; omega

theorem len_lt (d : D) : d.toList.length < d.size := by
  cases d with
  | list xs => have := sizes_len xs; simp only [D.toList, D.size]; omega
  | _ => simp only [D.toList, D.size, List.length_nil]; omega

theorem fld_le (d : D) (j : Nat) : (qfld d j).size ≤ d.size := by
  rw [qfld_eq]
  cases d with
  | agg xs =>
    simp only [D.fld, List.getD]
    cases h : xs[j]? with
    | none => simp [D.size]
    | some y => have := sizes_get h; simp only [Option.getD_some, D.size]; omega
  | _ => simp [D.fld, D.size]

theorem elem_le {l x : D} (h : x ∈ l.toList) : x.size ≤ l.size := by
  cases l with
  | list xs =>
    simp only [D.toList] at h
    obtain ⟨i, hi⟩ := List.getElem?_of_mem h
    have := sizes_get hi
    simp only [D.size]; omega
  | _ => simp [D.toList] at h

theorem get_mem {l : D} {i : Nat} (h : i < l.toList.length) : qget l i ∈ l.toList := by
  rw [qget_n, getD_lt h]; exact List.getElem_mem h

/-- What is the whole bound for: lists are short. -/
def lim : Nat := 1048576

theorem conf_el {T e : TypeId} {j F : Nat} {d : D} (hT : isFld T j F = true) (hF : isSl F e = true) (h : Conf PG T d) : (qfld d j).toList.length ≤ maxLen ∧ ∀ x ∈ (qfld d j).toList, Conf PG e x := by
  rw [qfld_eq]; exact conf_elems hT hF h

theorem qeqB_c (a b : Bool) : qeqB a b = (a == b) := by rw [qeqB_eq]

/- Lengths are summed. -/

noncomputable def sumK : List D → Int → Int
  | [], s => s
  | x :: xs, s => sumK xs (qbin .add .i64 s (qlen (qfld x 1)))

theorem sumLoop {st : List D → Option (Sum (List D) (List D))} {l : D}
    (hst : ∀ s i : Int, st [.int s, .int i] = bif qcmp .lss i (qlen l) then bif qinb l i then some (.inl [.int (qbin .add .i64 s (qlen (qfld (qget l i) 1))), .int (qbin .add .i64 i 1)]) else none else some (.inr [.int 0, .int s]))
    (hl : l.toList.length ≤ maxLen) : loW st [.int 0, .int 0] = some [.int 0, .int (sumK l.toList 0)] := by
  unfold maxLen at hl
  have key : ∀ k i : Nat, ∀ s : Int, i + k = l.toList.length → loW st [.int s, .int i] = some [.int 0, .int (sumK (l.toList.drop i) s)] := by
    intro k
    induction k with
    | zero =>
      intro i s hi
      rw [loW_eq, hst, qcmp_lss, qlen_c, List.drop_of_length_le (by omega)]
      simp [show ¬ ((i : Int) < l.toList.length) by omega, sumK]
    | succ k ih =>
      intro i s hi
      have hlt : i < l.toList.length := by omega
      rw [loW_eq, hst, qcmp_lss, qinb_n hlt, qget_n, getD_lt hlt, List.drop_eq_getElem_cons hlt, show decide ((i : Int) < qlen l) = true by rw [qlen_c]; simp; omega]
      simp only [cond_true, sumK]
      rw [add_nat (by omega)]
      exact ih (i + 1) _ (by omega)
  exact key l.toList.length 0 0 (by omega)

/- A block is closed. -/

theorem f52 : isFld 52 1 50 = true := by kernel_rfl
theorem s52 : isSl 50 81 = true := by kernel_rfl
theorem f49 : isFld 49 1 47 = true := by kernel_rfl
theorem s49 : isSl 47 52 = true := by kernel_rfl
theorem f81_7 : isFld 81 7 79 = true := by kernel_rfl
theorem s3 : isSl 79 3 = true := by kernel_rfl

/-- Is a block not well-ended in a graph of n blocks? -/
noncomputable def badB (n : Int) (b : D) : Bool :=
  decide ((qfld b 1).toList.length = 0) || (!term (lastS b) || ((qfld b 1).toList.take ((qfld b 1).toList.length - 1)).any term || (tgts (lastS b)).any (outside n))

theorem last_mem {b : D} (h : (qfld b 1).toList.length ≠ 0) : lastS b ∈ (qfld b 1).toList := get_mem (by omega)

theorem tgts_len {s : D} (hs : Conf PG 81 s) : (tgts s).length ≤ maxLen := by
  unfold tgts
  split
  · simp [maxLen]
  · split
    · simp [maxLen]
    · split
      · exact (conf_el f81_7 s3 hs).1
      · simp [maxLen]

theorem closed_r {b : D} {n : Int} (hb : Conf PG 52 b) : q45 [b, .int n] = some [.bool (!badB n b)] := by
  obtain ⟨hl, hx⟩ := conf_el f52 s52 hb
  rw [q45_eq, F45_eq]
  unfold badB
  by_cases h0 : (qfld b 1).toList.length = 0
  · simp [qcmp_eql, qlen_c, h0]
  have hi := last_ix h0 hl
  have hloop := anyFor (st := st45_4 [.int n, b]) (n := (qfld b 1).toList.length) (p := fun i => !(term (qget (qfld b 1) i) == decide (i = (qfld b 1).toList.length - 1))) (r1 := fun _ => [.int 1]) (r0 := [.int 0]) hl
    (fun i hlt => by
      rw [st45_4_eq, hi, qinb_n hlt, term_r, show qcmp .lss (i : Int) (qlen (qfld b 1)) = true by rw [qcmp_lss, qlen_c]; simp; omega]
      simp only [cond_true, qsome_s, qnth_s, List.getD_cons_zero, qbool_b, qnot_c, qcmp_eql, qeqB_c]
      congr 3
      simp only [Int.natCast_inj])
    (by rw [st45_4_eq, show qcmp .lss ((qfld b 1).toList.length : Int) (qlen (qfld b 1)) = false by rw [qcmp_lss, qlen_c]; simp]; rfl)
  obtain ⟨X, hX, hXl⟩ := tgts_r (lastS b)
  have hT := tgts_len (hx _ (last_mem h0))
  have hloop2 := anyFor (st := st45_10 [.int n, X]) (n := X.toList.length) (p := fun i => outside n (X.toList.getD i .other)) (r1 := fun _ => [.int 1]) (r0 := [.int 0]) (by rw [hXl]; exact hT)
    (fun i hlt => by
      rw [st45_10_eq, qinb_n hlt, show qcmp .lss (i : Int) (qlen X) = true by rw [qcmp_lss, qlen_c]; simp; omega, qget_n]
      simp only [cond_true, qcmp_lss, qcmp_geq, qiteB_c, outside]
      cases decide (qint (X.toList.getD i .other) < 0) <;> simp)
    (by rw [st45_10_eq, show qcmp .lss (X.toList.length : Int) (qlen X) = false by rw [qcmp_lss, qlen_c]; simp]; rfl)
  rw [l45_4_eq, l45_10_eq, hi, qinb_n (by omega)]
  rw [show qget (qfld b 1) (((qfld b 1).toList.length - 1 : Nat) : Int) = lastS b from rfl, hX]
  have hn0 : qcmp .eql (qlen (qfld b 1)) 0 = false := by rw [qcmp_eql, qlen_c]; simp; intro h; exact h0 (by rw [h]; rfl)
  simp only [hn0, cond_false, cond_true, qsome_s, qnth_s, List.getD_cons_zero, decide_eq_false h0, Bool.false_or]
  have hlast : qget (qfld b 1) (((qfld b 1).toList.length - 1 : Nat) : Int) = lastS b := rfl
  rcases hloop with ⟨h1, h2⟩ | ⟨i, hlt, hp, _, h1⟩
  · have ht : term (lastS b) = true := by
      have := h2 ((qfld b 1).toList.length - 1) (by omega)
      simp only [hlast, decide_true, Bool.not_eq_false', beq_iff_eq] at this
      exact this
    have ha : ((qfld b 1).toList.take ((qfld b 1).toList.length - 1)).any term = false := by
      rw [← Bool.not_eq_true, take_any (by omega)]
      rintro ⟨k, hk, hp⟩
      have := h2 k (by omega)
      rw [qget_n, hp] at this
      simp [show ¬ k = (qfld b 1).toList.length - 1 by omega] at this
    simp only [h1, qsome_s, qnth_s, List.getD_cons_zero, qint_i, qcmp_eql, decide_true, cond_true, ht, ha, Bool.not_true, Bool.false_or]
    rw [← hXl]
    rcases hloop2 with ⟨h3, h4⟩ | ⟨i, hlt, hp, _, h3⟩
    · have : X.toList.any (outside n) = false := by
        rw [← Bool.not_eq_true]
        intro h
        obtain ⟨x, hx, hp⟩ := List.any_eq_true.1 h
        obtain ⟨k, hk, rfl⟩ := List.getElem_of_mem hx
        have := h4 k hk
        rw [getD_lt hk, hp] at this; cases this
      simp [h3, qsome_s, qnth_s, qint_i, this]
    · have : X.toList.any (outside n) = true := by
        rw [getD_lt hlt] at hp
        exact List.any_eq_true.2 ⟨_, List.getElem_mem hlt, hp⟩
      simp [h3, qsome_s, qnth_s, qint_i, this]
  · have hbad : (!term (lastS b) || ((qfld b 1).toList.take ((qfld b 1).toList.length - 1)).any term) = true := by
      by_cases he : i = (qfld b 1).toList.length - 1
      · subst he
        simp only [hlast, decide_true] at hp
        have : term (lastS b) = false := by simpa using hp
        rw [this]; rfl
      · have ht : term (qget (qfld b 1) i) = true := by simpa [he] using hp
        have : ((qfld b 1).toList.take ((qfld b 1).toList.length - 1)).any term = true := (take_any (by omega)).2 ⟨i, by omega, by rw [← qget_n]; exact ht⟩
        rw [this]; simp
    simp only [h1, qsome_s, qnth_s, List.getD_cons_zero, qint_i, qcmp_eql, cond_true, hbad, Bool.true_or, Bool.not_true]
    rfl

theorem closed_p {g : D} {i : Nat} {n : Int} (hi : i < (qfld g 1).toList.length) (hb : Conf PG 52 (qget (qfld g 1) i)) (hg : (qget (qfld g 1) i).size ≤ lim) (hn : n = qlen (qfld g 1)) :
    st40_4 [qfld g 1, .int n, g] [.int i] = bif badB n (qget (qfld g 1) i) then some (.inr [.int 1]) else some (.inl [.int (qbin .add .i64 i 1)]) := by
  subst hn
  rw [st40_4_eq, show qcmp .lss (i : Int) (qlen (qfld g 1)) = true by (rw [qcmp_lss, qlen_c]; simp; omega), qinb_n hi]
  generalize qget (qfld g 1) i = b at *
  obtain ⟨hl, hx⟩ := conf_el f52 s52 hb
  unfold badB
  by_cases h0 : (qfld b 1).toList.length = 0
  · simp [qcmp_eql, qlen_c, h0, qiteB_c]
  have hix := last_ix h0 hl
  have hn0 : qcmp .eql (qlen (qfld b 1)) 0 = false := by rw [qcmp_eql, qlen_c]; simp; intro h; exact h0 (by rw [h]; rfl)
  have hm : (qfld (lastS b) 7).toList.length ≤ 1048576 := by
    have h1 := len_lt (qfld (lastS b) 7)
    have h2 := fld_le (lastS b) 7
    have h3 := elem_le (last_mem h0)
    have h4 := fld_le b 1
    unfold lim at hg
    omega
  obtain ⟨X, hX, hXl⟩ := tgts_p h0 hl hm
  have hT := tgts_len (hx _ (last_mem h0))
  rw [hix, qinb_n (by omega), show qget (qfld b 1) (((qfld b 1).toList.length - 1 : Nat) : Int) = lastS b from rfl, hn0, term_p, contains61 (by rw [qsub_l]; simp only [List.length_take]; omega), qsub_l, hX]
  simp only [qsome_s, qnth_s, List.getD_cons_zero, qbool_b, contains65 (l := X) (g := g) (by rw [hXl]; exact hT), hXl, qcmp_leq, qlen_c, qiteB_c, qand_c, qnot_c, cond_true, cond_false, decide_eq_false h0, Bool.false_or, Bool.and_true]
  have e1 : decide ((0 : Int) ≤ (((qfld b 1).toList.length - 1 : Nat) : Int)) = true := by simp
  have e2 : decide ((((qfld b 1).toList.length - 1 : Nat) : Int) ≤ ((qfld b 1).toList.length : Int)) = true := by rw [decide_eq_true_iff]; omega
  simp only [e1, e2, Int.le_refl, decide_true, Bool.and_self, Bool.cond_self, cond_true]
  cases term (lastS b) <;> cases ((qfld b 1).toList.take ((qfld b 1).toList.length - 1)).any term <;> simp

theorem blocksOf {g : D} (hg : Conf PG 49 g) : (qfld g 1).toList.length ≤ maxLen ∧ ∀ x ∈ (qfld g 1).toList, Conf PG 52 x := conf_el f49 s49 hg

/-- Is a graph shaped? -/
theorem shaped_eq {g : D} (hg : Conf PG 49 g) (hs : g.size ≤ lim) : ∃ b : Bool, q40 [g] = some [.bool b] ∧ ((qfld g 1).toList.length = 0 → b = false) ∧
    ((qfld g 1).toList.length ≠ 0 → ((loW (st25_13 [g]) [.int 0] = some [.int 0] ∧ b = true) ∨ (loW (st25_13 [g]) [.int 0] = some [.int 1] ∧ b = false))) := by
  obtain ⟨hl, hx⟩ := blocksOf hg
  rw [q40_eq, F40_eq, l40_4_eq]
  by_cases h0 : (qfld g 1).toList.length = 0
  · exact ⟨false, by simp [qcmp_eql, qlen_c, h0], fun _ => rfl, fun h => absurd h0 h⟩
  have hn0 : qcmp .eql (qlen (qfld g 1)) 0 = false := by rw [qcmp_eql, qlen_c]; simp; intro h; exact h0 (by rw [h]; rfl)
  have hsz : ∀ i : Nat, i < (qfld g 1).toList.length → (qget (qfld g 1) i).size ≤ lim := fun i hi => by
    have h1 := elem_le (get_mem hi)
    have h2 := fld_le g 1
    omega
  have hp := anyFor (st := st40_4 [qfld g 1, .int (qlen (qfld g 1)), g]) (n := (qfld g 1).toList.length) (p := fun i => badB (qlen (qfld g 1)) (qget (qfld g 1) i)) (r1 := fun _ => [.int 1]) (r0 := [.int 0]) hl
    (fun i hi => closed_p hi (hx _ (get_mem hi)) (hsz i hi) rfl)
    (by rw [st40_4_eq, show qcmp .lss ((qfld g 1).toList.length : Int) (qlen (qfld g 1)) = false by rw [qcmp_lss, qlen_c]; simp]; rfl)
  have hr := anyFor (st := st25_13 [g]) (n := (qfld g 1).toList.length) (p := fun i => badB (qlen (qfld g 1)) (qget (qfld g 1) i)) (r1 := fun _ => [.int 1]) (r0 := [.int 0]) hl
    (fun i hi => by
      rw [st25_13_eq, show qcmp .lss (i : Int) (qlen (qfld g 1)) = true by rw [qcmp_lss, qlen_c]; simp; omega, qinb_n hi, closed_r (hx _ (get_mem hi))]
      simp only [cond_true, qsome_s, qnth_s, List.getD_cons_zero, qbool_b, qnot_c, Bool.not_not])
    (by rw [st25_13_eq, show qcmp .lss ((qfld g 1).toList.length : Int) (qlen (qfld g 1)) = false by rw [qcmp_lss, qlen_c]; simp]; rfl)
  simp only [hn0, cond_false]
  rcases hp with ⟨h1, h2⟩ | ⟨i, hlt, hpi, _, h1⟩
  · refine ⟨true, by simp [h1, qsome_s, qnth_s, qint_i, qcmp_eql], fun h => absurd h h0, fun _ => .inl ⟨?_, rfl⟩⟩
    rcases hr with ⟨h3, _⟩ | ⟨j, hj, hpj, _, _⟩
    · exact h3
    · rw [h2 j hj] at hpj; cases hpj
  · refine ⟨false, by simp [h1, qsome_s, qnth_s, qint_i, qcmp_eql], fun h => rfl, fun _ => .inr ⟨?_, rfl⟩⟩
    rcases hr with ⟨_, h4⟩ | ⟨j, hj, hpj, _, h3⟩
    · rw [h4 i hlt] at hpi; cases hpi
    · exact h3

/-- What the statements of a block say. -/
noncomputable def eBlock (b : D) : Int := firstErr eStmt (qfld b 1).toList

theorem block_p {b a0 : D} {a1 a2 : Int} (hb : Conf PG 52 b) : l20_15 [a0, .int a1, .int a2, qfld b 1, .int (qlen (qfld b 1))] [.int 0] = some (errOut (eBlock b)) := by
  obtain ⟨hl, hx⟩ := conf_el f52 s52 hb
  rw [l20_15_eq]
  exact errLoop (st := st20_15 [a0, .int a1, .int a2, qfld b 1, .int (qlen (qfld b 1))]) (l := qfld b 1) (c := fun x => q41 [x]) (e := eStmt) (fun i => by rw [st20_15_eq]) hl (fun x hm => by rw [q41_eq]; exact (stmt_eq (hx x hm)).1)

theorem block_r {g : D} {i : Nat} (hi : i < (qfld g 1).toList.length) (hb : Conf PG 52 (qget (qfld g 1) i)) : l25_21 [.int i, g] [.int 0] = some (errOut (eBlock (qget (qfld g 1) i))) := by
  obtain ⟨hl, hx⟩ := conf_el f52 s52 hb
  rw [l25_21_eq]
  exact errLoop (st := st25_21 [.int i, g]) (l := qfld (qget (qfld g 1) i) 1) (c := fun x => q46 [x]) (e := eStmt) (fun k => by rw [st25_21_eq, qinb_n hi]; simp only [cond_true]) hl (fun x hm => by rw [q46_eq]; exact (stmt_eq (hx x hm)).2)

theorem errOut_2 (e : Int) : qcmp .eql (qint (qnth (some (errOut e)) 0)) 0 = decide (e = 0) := errOut_0

/-- What a graph's check says. -/
noncomputable def eGraph (g : D) : Int := qint (qnth (F20 [g]) 0)

theorem graph_eq {g : D} (hg : Conf PG 49 g) (hs : g.size ≤ lim) : q20 [g] = some [.int (eGraph g)] ∧ q25 [g] = some [.int (eGraph g)] := by
  obtain ⟨hl, hx⟩ := blocksOf hg
  have key : ∃ e, F20 [g] = some [.int e] ∧ F25 [g] = some [.int e] := by
    obtain ⟨b, hb, hb0, hb1⟩ := shaped_eq hg hs
    have s1 := sumLoop (st := st20_3 [qfld g 1, .int (qlen (qfld g 1)), g]) (l := qfld g 1) (fun s i => by rw [st20_3_eq]) hl
    have s2 := sumLoop (st := st25_5 [g]) (l := qfld g 1) (fun s i => by rw [st25_5_eq]) hl
    have e1 := errFor (st := st20_12 [qfld g 1, .int (qlen (qfld g 1))]) (n := (qfld g 1).toList.length) (e := fun i => eBlock (qget (qfld g 1) i)) hl
      (fun i hi => by
        rw [st20_12_eq, show qcmp .lss (i : Int) (qlen (qfld g 1)) = true by rw [qcmp_lss, qlen_c]; simp; omega, qinb_n hi, block_p (hx _ (get_mem hi)), errOut_0]
        simp only [cond_true, qsome_s]
        by_cases he : eBlock (qget (qfld g 1) i) = 0
        · simp [he]
        · simp [he, errOut_1 he])
      (by rw [st20_12_eq, show qcmp .lss ((qfld g 1).toList.length : Int) (qlen (qfld g 1)) = false by rw [qcmp_lss, qlen_c]; simp]; rfl)
    have e2 := errFor (st := st25_18 [g]) (n := (qfld g 1).toList.length) (e := fun i => eBlock (qget (qfld g 1) i)) hl
      (fun i hi => by
        rw [st25_18_eq, show qcmp .lss (i : Int) (qlen (qfld g 1)) = true by rw [qcmp_lss, qlen_c]; simp; omega, block_r hi (hx _ (get_mem hi)), errOut_0]
        simp only [cond_true, qsome_s]
        by_cases he : eBlock (qget (qfld g 1) i) = 0
        · simp [he]
        · simp [he, errOut_1 he])
      (by rw [st25_18_eq, show qcmp .lss ((qfld g 1).toList.length : Int) (qlen (qfld g 1)) = false by rw [qcmp_lss, qlen_c]; simp]; rfl)
    rw [F20_eq, F25_eq, l20_3_eq, l25_5_eq, l20_12_eq, l25_13_eq, l25_18_eq]
    simp only [s1, s2, e1, e2, hb]
    simp only [qsome_s, qnth_s, List.getD_cons_zero, List.getD_cons_succ, qint_i, qbool_b, qnot_c, qcmp_gtr, qcmp_eql, qiteB_c, cond_true, qlen_c]
    generalize sumK (qfld g 1).toList 0 = sm
    generalize fErr (fun i => eBlock (qget (qfld g 1) i)) 0 (qfld g 1).toList.length = fe
    have hz : ∀ m : Int, decide (qint (qnth (some (errOut m)) 0) = 0) = decide (m = 0) := fun m => by rw [← qcmp_eql]; exact errOut_0
    have hL : ((qfld g 1).toList.length = 0) ↔ (((qfld g 1).toList.length : Int) = 0) := by omega
    simp only [ne_eq, hL] at hb0 hb1
    generalize ((qfld g 1).toList.length : Int) = L at *
    by_cases hmx : 256 < L
    · refine ⟨6, ?_, ?_⟩ <;> simp [hmx]
    by_cases hsm : 1024 < sm
    · refine ⟨6, ?_, ?_⟩ <;> simp [hmx, hsm]
    by_cases h0 : L = 0
    · refine ⟨18, ?_, ?_⟩ <;> simp [hsm, h0, hb0 h0]
    · rcases hb1 h0 with ⟨h1, rfl⟩ | ⟨h1, rfl⟩
      · by_cases hf : fe = 0
        · refine ⟨0, ?_, ?_⟩ <;> simp [hmx, hsm, h0, h1, hf, qsome_s, qnth_s, qint_i, errOut]
        · refine ⟨fe, ?_, ?_⟩ <;> simp [hmx, hsm, h0, h1, hf, qsome_s, qnth_s, qint_i, errOut]
      · refine ⟨18, ?_, ?_⟩ <;> simp [hmx, hsm, h0, h1, qsome_s, qnth_s, qint_i]
  obtain ⟨e, h1, h2⟩ := key
  have : eGraph g = e := by unfold eGraph; rw [h1]; simp [qnth_s, qint_i]
  rw [this, q20_eq, q25_eq]; exact ⟨h1, h2⟩

end Go.Proofs.Ytcengfpfphdacaa

namespace Go.Proofs.Ytcengfpfphdacaa
open Go Go.AM

theorem lt_yes {i : Nat} {l : D} (h : i < l.toList.length) : qcmp .lss (i : Int) (qlen l) = true := by rw [qcmp_lss, qlen_c]; simp; omega
theorem lt_no (l : D) : qcmp .lss (l.toList.length : Int) (qlen l) = false := by rw [qcmp_lss, qlen_c]; simp

theorem loopP {st : List D → Option (Sum (List D) (List D))} {n : Nat} {P : List D → Prop} (hn : n ≤ maxLen)
    (h1 : ∀ (s : Int) (i : Nat), i < n → (∃ s' : Int, st [.int s, .int i] = some (.inl [.int s', .int (qbin .add .i64 i 1)])) ∨ ∃ r, st [.int s, .int i] = some (.inr r) ∧ P r)
    (h0 : ∀ s : Int, ∃ r, st [.int s, .int n] = some (.inr r) ∧ P r) : ∀ s : Int, ∃ r, loW st [.int s, .int 0] = some r ∧ P r := by
  unfold maxLen at hn
  have key : ∀ k i : Nat, i + k = n → ∀ s : Int, ∃ r, loW st [.int s, .int i] = some r ∧ P r := by
    intro k
    induction k with
    | zero =>
      intro i hi s
      obtain rfl : i = n := by omega
      obtain ⟨r, hr, hp⟩ := h0 s
      exact ⟨r, by rw [loW_eq, hr], hp⟩
    | succ k ih =>
      intro i hi s
      rcases h1 s i (by omega) with ⟨s', h⟩ | ⟨r, h, hp⟩
      · rw [loW_eq, h, add_nat (by omega)]
        exact ih (i + 1) (by omega) s'
      · exact ⟨r, by rw [loW_eq, h], hp⟩
  exact key n 0 (by omega)

def P0 (r : List D) : Prop := ∃ s : Int, r = [.int 0, .int s]
def P1 (r : List D) : Prop := r = [.int 1] ∨ ∃ s : Int, r = [.int 0, .int s]
def P2 (r : List D) : Prop := r = [.int 1] ∨ r = [.int 0]

theorem size29 : ∀ (N : Nat) (d : D) (a b : Int), Conf PG 60 d → d.size < N → ∃ k : Int, F29 N [d, .int a, .int b] = some [.int k] := by
  intro N
  induction N with
  | zero => intro d _ _ _ h; omega
  | succ N ih =>
    intro d a b hd hs
    obtain ⟨hl, hx⟩ := conf_el f60_4 s58 hd
    rw [F29_s, Fb29_eq, l29_5_eq]
    cases qiteB (qiteB (qcmp .lss a 1) true (qcmp .lss b 1)) true (qcmp .gtr (qlen (qfld d 4)) 4) with
    | true => exact ⟨-1, rfl⟩
    | false =>
      obtain ⟨r, hr, s, rfl⟩ := loopP (st := st29_5 (F29 N) [.int a, d]) (n := (qfld d 4).toList.length) (P := P0) hl
        (fun s i hi => by
          rw [st29_5_eq, lt_yes hi, qinb_n hi, qiteB_c]
          have hm := get_mem hi
          obtain ⟨k, hk⟩ := ih (qget (qfld d 4) i) (qbin .sub .i64 a 1) s (hx _ hm) (by have := size_elem (d := d) (j := 4) (by rw [← qfld_eq]; exact hm); omega)
          simp only [cond_true, hk, qsome_s, qnth_s, List.getD_cons_zero, qint_i]
          cases qcmp .geq s 0 with
          | true => exact .inl ⟨k, rfl⟩
          | false => exact .inr ⟨_, rfl, s, rfl⟩)
        (fun s => by rw [st29_5_eq, lt_no, qiteB_c]; exact ⟨_, rfl, s, rfl⟩) (qbin .sub .i64 b 1)
      exact ⟨s, by simp [hr, qsome_s, qnth_s, qint_i]⟩

theorem q29_some {d : D} {a b : Int} (hd : Conf PG 60 d) : ∃ k : Int, q29 [d, .int a, .int b] = some [.int k] := by
  rw [q29_eq]
  refine size29 _ d a b hd ?_
  have h := (fuel2 d 0).2
  simp only [fuelL] at h ⊢
  omega

theorem stmtsOf {b : D} (hb : Conf PG 52 b) : (qfld b 1).toList.length ≤ maxLen ∧ ∀ x ∈ (qfld b 1).toList, Conf PG 81 x := conf_el f52 s52 hb

theorem small16 {g : D} {a : Int} (hg : Conf PG 49 g) : ∃ b : Bool, q16 [g, .int a] = some [.bool b] := by
  obtain ⟨hl, hx⟩ := blocksOf hg
  rw [q16_eq, F16_eq, l16_5_eq]
  cases qcmp .gtr (qlen (qfld g 1)) 300 with
  | true => exact ⟨false, rfl⟩
  | false =>
    obtain ⟨r, hr, hp⟩ := loopP (st := st16_5 [.int a, g]) (n := (qfld g 1).toList.length) (P := P2) hl
      (fun s i hi => by
        rw [st16_5_eq, lt_yes hi, qinb_n hi, l16_10_eq]
        simp only [cond_true]
        cases qcmp .gtr (qlen (qfld (qget (qfld g 1) i) 1)) 1100 with
        | true => exact .inr ⟨_, rfl, .inl rfl⟩
        | false =>
          obtain ⟨hl2, hx2⟩ := stmtsOf (hx _ (get_mem hi))
          obtain ⟨r2, hr2, hp2⟩ := loopP (st := st16_10 [.int a, .int i, g]) (n := (qfld (qget (qfld g 1) i) 1).toList.length) (P := P1) hl2
            (fun s k hk => by
              rw [st16_10_eq, qinb_n hi, lt_yes hk, qinb_n hk, l16_16_eq]
              simp only [cond_true]
              generalize hst : qget (qfld (qget (qfld g 1) i) 1) k = x
              have hcx : Conf PG 81 x := by rw [← hst]; exact hx2 _ (get_mem hk)
              cases qiteB (qcmp .gtr (qlen (qfld x 6)) 4) true (qcmp .gtr (qlen (qfld x 7)) 100) with
              | true => exact .inr ⟨_, rfl, .inl rfl⟩
              | false =>
                obtain ⟨hl3, hx3⟩ := conf_el f81_6 s58 hcx
                obtain ⟨r3, hr3, hp3⟩ := loopP (st := st16_16 [.int a, .int i, .int k, x, g]) (n := (qfld x 6).toList.length) (P := P1) hl3
                  (fun s j hj => by
                    obtain ⟨z, hz⟩ := q29_some (a := a) (b := s) (hx3 _ (get_mem hj))
                    rw [st16_16_eq, lt_yes hj, qinb_n hj, hz]
                    simp only [cond_true, qsome_s, qnth_s, List.getD_cons_zero, qint_i]
                    cases qcmp .lss z 0 with
                    | true => exact .inr ⟨_, rfl, .inl rfl⟩
                    | false => exact .inl ⟨z, rfl⟩)
                  (fun s => by rw [st16_16_eq, lt_no]; exact ⟨_, rfl, .inr ⟨s, rfl⟩⟩) s
                simp only [cond_false, hr3, qsome_s, cond_true]
                rcases hp3 with rfl | ⟨z, rfl⟩
                · exact .inr ⟨_, by simp [qnth_s, qint_i, qcmp_eql], .inl rfl⟩
                · exact .inl ⟨z, by simp [qnth_s, qint_i, qcmp_eql]⟩)
            (fun s => by rw [st16_10_eq, qinb_n hi, lt_no]; exact ⟨_, rfl, .inr ⟨s, rfl⟩⟩) s
          simp only [cond_false, hr2, qsome_s, cond_true]
          rcases hp2 with rfl | ⟨z, rfl⟩
          · exact .inr ⟨_, by simp [qnth_s, qint_i, qcmp_eql], .inl rfl⟩
          · exact .inl ⟨z, by simp [qnth_s, qint_i, qcmp_eql]⟩)
      (fun s => by rw [st16_5_eq, lt_no]; exact ⟨_, rfl, .inr rfl⟩) 20000
    simp only [cond_false, hr, qsome_s, cond_true]
    rcases hp with rfl | rfl
    · exact ⟨false, by simp [qnth_s, qint_i, qcmp_eql]⟩
    · exact ⟨true, by simp [qnth_s, qint_i, qcmp_eql]⟩

theorem f26_0 : isFld 26 0 22 = true := by kernel_rfl
theorem s22 : isSl 22 49 = true := by kernel_rfl
theorem f26_1 : isFld 26 1 23 = true := by kernel_rfl
theorem s23 : isSl 23 57 = true := by kernel_rfl

theorem large7 {d : D} {a : Int} (hd : Conf PG 26 d) : ∃ b : Bool, q7 [d, .int a] = some [.bool b] := by
  obtain ⟨hl, hx⟩ := conf_el f26_0 s22 hd
  obtain ⟨hl', _⟩ := conf_el f26_1 s23 hd
  rw [q7_eq, F7_eq, l7_5_eq, l7_16_eq]
  cases qiteB (qiteB (qcmp .gtr (qlen (qfld d 0)) 80) true (qcmp .gtr (qlen (qfld d 1)) 30)) true (qcmp .gtr a 600) with
  | true => exact ⟨true, rfl⟩
  | false =>
    obtain ⟨r, hr, hp⟩ := loopP (st := st7_5 [d]) (n := (qfld d 0).toList.length) (P := P1) hl
      (fun s i hi => by
        obtain ⟨b, hb⟩ := small16 (a := 70) (hx _ (get_mem hi))
        rw [st7_5_eq, lt_yes hi, qinb_n hi, hb, l7_10_eq]
        simp only [cond_true, qsome_s, qnth_s, List.getD_cons_zero, qbool_b, qnot_c, qiteB_c, qand_c, Bool.and_self, Bool.cond_self]
        cases (bif qcmp .gtr (qlen (qfld (qget (qfld d 0) i) 1)) 300 then true else !b) with
        | true => exact .inr ⟨_, rfl, .inl rfl⟩
        | false =>
          obtain ⟨hl2, hx2⟩ := blocksOf (hx _ (get_mem hi))
          obtain ⟨r2, hr2, hp2⟩ := loopP (st := st7_10 [.int i, d]) (n := (qfld (qget (qfld d 0) i) 1).toList.length) (P := P1) hl2
            (fun s k hk => by
              rw [st7_10_eq, qinb_n hi, lt_yes hk, qinb_n hk]
              simp only [cond_true]
              cases qcmp .gtr (qbin .add .i64 (qbin .add .i64 s 1) (qlen (qfld (qget (qfld (qget (qfld d 0) i) 1) k) 1))) 3000 with
              | true => exact .inr ⟨_, rfl, .inl rfl⟩
              | false => exact .inl ⟨_, rfl⟩)
            (fun s => by rw [st7_10_eq, qinb_n hi, lt_no]; exact ⟨_, rfl, .inr ⟨s, rfl⟩⟩) s
          simp only [cond_false, hr2, qsome_s, cond_true]
          rcases hp2 with rfl | ⟨z, rfl⟩
          · exact .inr ⟨_, by simp [qnth_s, qint_i, qcmp_eql], .inl rfl⟩
          · exact .inl ⟨z, by simp [qnth_s, qint_i, qcmp_eql]⟩)
      (fun s => by rw [st7_5_eq, lt_no]; exact ⟨_, rfl, .inr ⟨s, rfl⟩⟩) 0
    simp only [cond_false, hr, qsome_s, cond_true]
    rcases hp with rfl | ⟨z, rfl⟩
    · exact ⟨true, by simp [qnth_s, qint_i, qcmp_eql]⟩
    · obtain ⟨r2, hr2, hp2⟩ := loopP (st := st7_16 [d]) (n := (qfld d 1).toList.length) (P := P2) hl'
        (fun s i hi => by
          rw [st7_16_eq, lt_yes hi, qinb_n hi]
          simp only [cond_true]
          cases qcmp .gtr (qbin .add .i64 s (qbin .quo .i64 (qlen (qfld (qget (qfld d 1) i) 2)) 10)) 3000 with
          | true => exact .inr ⟨_, rfl, .inl rfl⟩
          | false => exact .inl ⟨_, rfl⟩)
        (fun s => by rw [st7_16_eq, lt_no]; exact ⟨_, rfl, .inr rfl⟩) z
      simp only [qnth_s, List.getD_cons_zero, List.getD_cons_succ, qint_i, hr2, qsome_s, cond_true]
      rcases hp2 with rfl | rfl
      · exact ⟨true, by simp [qint_i, qcmp_eql]⟩
      · exact ⟨false, by simp [qint_i, qcmp_eql]⟩

end Go.Proofs.Ytcengfpfphdacaa

namespace Go.Proofs.Ytcengfpfphdacaa
open Go Go.AM

theorem wrapU64 {n : Int} (h0 : 0 ≤ n) (h1 : n ≤ 18446744073709551615) : IntKind.u64.wrap n = n := by
  simp only [IntKind.wrap, IntKind.bits, IntKind.signed]; simp; omega
theorem wrapU32 {n : Int} (h0 : 0 ≤ n) (h1 : n ≤ 4294967295) : IntKind.u32.wrap n = n := by
  simp only [IntKind.wrap, IntKind.bits, IntKind.signed]; simp; omega
theorem addU64 {a b : Int} (h0 : 0 ≤ a + b) (h1 : a + b ≤ 18446744073709551615) : qbin .add .u64 a b = a + b := by rw [qbin_eq]; exact wrapU64 h0 h1
theorem qmm_l (a b : Int) : qmm .lss a b = if b < a then b else a := by rw [qmm_eq]; rfl
theorem qmm_g (a b : Int) : qmm .gtr a b = if a < b then b else a := by rw [qmm_eq]; rfl

noncomputable def isStrT (T : TypeId) : Bool := match PG.underlying T with | some .string => true | _ => false
theorem str9 : isStrT 9 = true := by kernel_rfl
theorem conf_strlen {d : D} (h : Conf PG 9 d) : (qstr d).size ≤ maxLen := by
  have ht := str9
  unfold isStrT at ht
  cases hu : PG.underlying 9 with
  | none => rw [hu] at ht; cases ht
  | some td =>
    rw [hu] at ht
    cases h with
    | str h1 hl => rw [qstr_s]; exact hl
    | slice h1 hl hd => rw [h1] at hu; cases hu; cases ht
    | struct h1 => rw [h1] at hu; cases hu; cases ht
    | bool h1 => rw [h1] at hu; cases hu; cases ht
    | int h1 => rw [h1] at hu; cases hu; cases ht
    | array h1 => rw [h1] at hu; cases hu; cases ht
    | other h1 => unfold isOther at h1; rw [hu] at h1; cases td <;> simp_all

/- Names. -/

theorem bytes_len (s : ByteArray) : (qbytes s).toList.length = s.size := by rw [qbytes_eq, bytes_list]; simp
theorem bytes_at {s : ByteArray} {i : Nat} (h : i < s.size) : qint (qget (qbytes s) i) = qidxS s i := by
  rw [qget_n, qbytes_eq, bytes_list, qidxS_eq, getD_lt (by simpa using h)]
  simp only [List.getElem_map, qint_i, ridxS, ByteArray.toList_eq]
  have : i < s.data.toList.length := by simpa using h
  simp [List.getD, List.getElem?_eq_getElem this]

/-- Is a letter not one of a name? -/
noncomputable def badC (c : Int) : Bool :=
  (decide (c < 97) || decide (122 < c)) && ((decide (c < 65) || decide (90 < c)) && ((decide (c < 48) || decide (57 < c)) && (!decide (c = 95) && !decide (c = 46))))

theorem name_eq {s : ByteArray} (hs : s.size ≤ maxLen) : ∃ b : Bool, q35 [.str s] = some [.bool b] ∧ q68 [.str s] = some [.bool b] := by
  rw [q35_eq, q68_eq, F35_eq, F68_eq, l35_2_eq, l68_2_eq]
  have h1 := anyFor (st := st35_2 [.str s, qbytes s, .int (qlen (qbytes s))]) (n := s.size) (p := fun i => badC (qidxS s i)) (r1 := fun _ => [.int 1]) (r0 := [.int 0]) hs
    (fun i hi => by
      have hi' : i < (qbytes s).toList.length := by rw [bytes_len]; exact hi
      rw [st35_2_eq, lt_yes hi', qinb_n hi', bytes_at hi]
      generalize qidxS s i = c
      simp only [cond_true, qiteB_c, qcmp_lss, qcmp_gtr, qcmp_neq]
      congr 1
      unfold badC
      rw [Bool.eq_iff_iff]
      simp
      omega)
    (by rw [st35_2_eq, ← bytes_len, lt_no]; rfl)
  have h2 := anyFor (st := st68_2 [.str s]) (n := s.size) (p := fun i => badC (qidxS s i)) (r1 := fun _ => [.int 1]) (r0 := [.int 0]) hs
    (fun i hi => by
      have e1 : qcmp .lss (i : Int) (qlenS s) = true := by rw [qcmp_lss, qlenS_eq]; simp; omega
      have e2 : qinbS s i = true := by rw [qinbS_eq]; simp [rinbS]; omega
      rw [st68_2_eq, e1, e2]
      generalize qidxS s i = c
      simp only [cond_true, qiteB_c, qcmp_lss, qcmp_gtr, qcmp_geq, qcmp_leq, qcmp_neq, qnot_c]
      congr 1
      unfold badC
      rw [Bool.eq_iff_iff]
      simp
      omega)
    (by rw [st68_2_eq, show qcmp .lss (s.size : Int) (qlenS s) = false by rw [qcmp_lss, qlenS_eq]; simp]; rfl)
  have hn : decide (1 ≤ qlenS s) = decide (0 < qlenS s) := by rw [Bool.eq_iff_iff]; simp; omega
  rcases h1 with ⟨h1, h1'⟩ | ⟨i, hi, hpi, _, h1⟩
  · rcases h2 with ⟨h2, _⟩ | ⟨j, hj, hpj, _, _⟩
    · refine ⟨_, by simp only [h1, qsome_s, qnth_s, List.getD_cons_zero, qint_i, qcmp_eql, decide_true, cond_true]; rfl, ?_⟩
      simp only [h2, qsome_s, qnth_s, List.getD_cons_zero, qint_i, qcmp_eql, decide_true, cond_true, qcmp_geq, qcmp_gtr, hn]
    · rw [h1' j hj] at hpj; cases hpj
  · rcases h2 with ⟨_, h2'⟩ | ⟨j, hj, hpj, _, h2⟩
    · rw [h2' i hi] at hpi; cases hpi
    · exact ⟨false, by simp [h1, qsome_s, qnth_s, qint_i, qcmp_eql], by simp [h2, qsome_s, qnth_s, qint_i, qcmp_eql]⟩

/- One section. -/

noncomputable def adr (s : D) : Int := qint (qfld s 1)
noncomputable def lenD (s : D) : Int := ((qfld s 2).toList.length : Int)
/-- The address behind a section. -/
noncomputable def endS (s : D) : Int := if 4294967295 < adr s + lenD s then 4294967295 else adr s + lenD s

theorem f57_0 : isFld 57 0 9 = true := by kernel_rfl
theorem f57_1 : isFld 57 1 24 = true := by kernel_rfl
theorem i24 : isInt 24 .u32 = true := by kernel_rfl

structure Sec (s : D) : Prop where
  a0 : 0 ≤ adr s
  a1 : adr s ≤ 4294967295
  l0 : 0 ≤ lenD s
  l1 : lenD s ≤ 1048576
  nm : (qstr (qfld s 0)).size ≤ maxLen

theorem secOf {s : D} (hs : Conf PG 57 s) (hz : s.size ≤ lim) : Sec s := by
  have h1 := qrng_iff.1 (conf_int i24 (conf_fld f57_1 (qconf_iff.2 hs)))
  have h2 := conf_strlen (qconf_iff.1 (conf_fld f57_0 (qconf_iff.2 hs)))
  have h3 := len_lt (qfld s 2)
  have h4 := fld_le s 2
  unfold lim at hz
  refine ⟨h1.1, h1.2, by unfold lenD; omega, by unfold lenD; omega, h2⟩

theorem end_r {s : D} (h : Sec s) : q44 [s] = some [.int (endS s)] := by
  obtain ⟨a0, a1, l0, l1, _⟩ := h
  rw [q44_eq, F44_eq, qlen_c, qwrap_eq]
  change _ = some [D.int (if 4294967295 < adr s + lenD s then 4294967295 else adr s + lenD s)]
  rw [show qint (qfld s 1) = adr s from rfl, show (((qfld s 2).toList.length : Nat) : Int) = lenD s from rfl, wrap64 (by omega) (by omega), add64 (by omega) (by omega), qcmp_gtr]
  by_cases h : 4294967295 < adr s + lenD s <;> simp [h]

theorem space_p {s : D} (h : Sec s) : q37 [s] = some [.agg [.int (adr s), .int (endS s)]] := by
  obtain ⟨a0, a1, l0, l1, _⟩ := h
  rw [q37_eq, F37_eq, qlen_c, qwrap_eq]
  rw [show qint (qfld s 1) = adr s from rfl, show (((qfld s 2).toList.length : Nat) : Int) = lenD s from rfl, wrapU64 a0 (by omega), wrapU64 l0 (by omega), addU64 (by omega) (by omega), qmm_l]
  have : (if (4294967295 : Int) < adr s + lenD s then 4294967295 else adr s + lenD s) = endS s := rfl
  rw [this, wrapU32]
  · unfold endS; split <;> omega
  · unfold endS; split <;> omega

theorem meet_p (a b c d : Int) : q36 [.agg [.int a, .int b], .agg [.int c, .int d]] = some [.bool (decide ((if a < c then c else a) < (if d < b then d else b)))] := by
  rw [q36_eq, F36_eq]
  simp only [qfld_eq, D.fld, List.getD_cons_zero, List.getD_cons_succ, qint_i, qmm_g, qmm_l, qcmp_lss]

noncomputable def meetS (x y : D) : Bool := decide ((if adr x < adr y then adr y else adr x) < (if endS y < endS x then endS y else endS x))

theorem closure39 {x y : D} (hx : Sec x) (hy : Sec y) : q39 [x, y] = some [.bool (meetS x y)] := by
  rw [q39_eq, F39_eq, space_p hx, space_p hy]
  simp only [qsome_s, qnth_s, List.getD_cons_zero, meet_p, qbool_b, cond_true, meetS]

noncomputable def sameN (y x : D) : Bool := qcmpS .eql (qstr (qfld x 0)) (qstr (qfld y 0))

theorem contains34 {l y : D} (hl : l.toList.length ≤ maxLen) : q33_34 [l, y] = some [.bool (l.toList.any (sameN y))] := by
  obtain ⟨k, h1, h2⟩ := contG (st := st60_34_2 [l, y, .int (qlen l)]) (c := fun x => q34 [x, y]) (p := sameN y) (fun i => by rw [st60_34_2_eq]) hl (fun x _ => by rw [q34_eq, F34_eq]; rfl)
  rw [q33_34_eq, F33_34_eq, q60_34_eq, F60_34_eq, l60_34_2_eq, h1]
  simp only [qsome_s, cond_true, qnth_s, List.getD_cons_zero, qint_i, qcmp_geq, h2]

theorem contains39 {l y : D} (hl : l.toList.length ≤ maxLen) (hx : ∀ x ∈ l.toList, Sec x) (hy : Sec y) : q33_39 [l, y] = some [.bool (l.toList.any fun x => meetS x y)] := by
  obtain ⟨k, h1, h2⟩ := contG (st := st60_39_2 [l, y, .int (qlen l)]) (c := fun x => q39 [x, y]) (p := fun x => meetS x y) (fun i => by rw [st60_39_2_eq]) hl (fun x hm => closure39 (hx x hm) hy)
  rw [q33_39_eq, F33_39_eq, q60_39_eq, F60_39_eq, l60_39_2_eq, h1]
  simp only [qsome_s, cond_true, qnth_s, List.getD_cons_zero, qint_i, qcmp_geq, h2]

/- What one section's check says. -/

noncomputable def nameOk (s : D) : Bool := qbool (qnth (q35 [.str (qstr (qfld s 0))]) 0)
theorem name_p {s : D} (h : Sec s) : q35 [.str (qstr (qfld s 0))] = some [.bool (nameOk s)] := by
  obtain ⟨b, h1, _⟩ := name_eq h.nm
  unfold nameOk; rw [h1]; simp [qnth_s, qbool_b]
theorem name_r {s : D} (h : Sec s) : q68 [.str (qstr (qfld s 0))] = some [.bool (nameOk s)] := by
  obtain ⟨b, h1, h2⟩ := name_eq h.nm
  unfold nameOk; rw [h1, h2]; simp [qnth_s, qbool_b]

noncomputable def rangeBad (s : D) : Bool := decide (4294967295 < adr s + lenD s) || (decide (0 < lenD s) && (decide (adr s < 983040) && decide (978944 < endS s)))
noncomputable def twice (l : D) (i : Nat) : Bool := (l.toList.take i).any (sameN (qget l i))

noncomputable def eSec (l : D) (i : Nat) : Int :=
  bif decide (65536 < lenD (qget l i)) then 6 else bif !nameOk (qget l i) then 3 else bif twice l i then 8 else bif rangeBad (qget l i) then 7 else 0

theorem le_yes {i : Nat} {l : D} (h : i ≤ l.toList.length) : qcmp .leq (i : Int) (qlen l) = true := by rw [qcmp_leq, qlen_c]; simp; omega
theorem leq_00 : qcmp .leq 0 0 = true := by rw [qcmp_leq]; rfl
theorem leq_0 (i : Nat) : qcmp .leq 0 (i : Int) = true := by rw [qcmp_leq]; simp

theorem range_p {s : D} (h : Sec s) : (decide (4294967295 < adr s + lenD s) || decide ((if adr s < 978944 then 978944 else adr s) < (if 983040 < endS s then 983040 else endS s))) = rangeBad s := by
  obtain ⟨a0, a1, l0, l1, _⟩ := h
  unfold rangeBad
  rw [Bool.eq_iff_iff]
  by_cases hb : 4294967295 < adr s + lenD s
  · simp [hb]
  · have he : endS s = adr s + lenD s := by unfold endS; rw [if_neg hb]
    rw [he]
    simp only [hb, decide_false, Bool.false_or, decide_eq_true_eq, Bool.and_eq_true]
    split <;> split <;> omega

theorem step19 {l : D} {i : Nat} (hi : i < l.toList.length) (hl : l.toList.length ≤ maxLen) (hs : Sec (qget l i)) :
    st19_4 [l, l, .int (qlen l)] [.int i] = if eSec l i = 0 then some (.inl [.int (qbin .add .i64 i 1)]) else some (.inr [.int 1, .int (eSec l i)]) := by
  have ht : q33_34 [qsub l 0 i, qget l i] = some [.bool (twice l i)] := by
    rw [contains34 (by rw [qsub_l]; simp only [List.length_take]; omega), qsub_l]; rfl
  have hr := range_p hs
  rw [st19_4_eq, lt_yes hi, qinb_n hi, leq_00, leq_0, le_yes (by omega), ht, name_p hs, space_p hs]
  simp only [qsome_s, qnth_s, List.getD_cons_zero, meet_p]
  obtain ⟨a0, a1, l0, l1, _⟩ := hs
  unfold eSec
  rw [show qint (qfld (qget l i) 1) = adr (qget l i) from rfl, qlen_c, show (((qfld (qget l i) 2).toList.length : Nat) : Int) = lenD (qget l i) from rfl, qwrap_eq, wrapU64 a0 (by omega), wrapU64 l0 (by omega), addU64 (by omega) (by omega)]
  simp only [cond_true, qsome_s, qnth_s, List.getD_cons_zero, qbool_b, qnot_c, qcmp_gtr, qiteB_c, qand_c, Bool.and_self, Bool.cond_self]
  rw [← hr]
  cases decide (65536 < lenD (qget l i)) <;> cases nameOk (qget l i) <;> cases twice l i <;> cases decide (4294967295 < adr (qget l i) + lenD (qget l i)) <;>
    cases decide ((if adr (qget l i) < 978944 then 978944 else adr (qget l i)) < (if 983040 < endS (qget l i) then 983040 else endS (qget l i))) <;> rfl

theorem twice_r {l : D} {i : Nat} (hi : i < l.toList.length) (hl : l.toList.length ≤ maxLen) : loW (st43_7 [l, .int i, qget l i]) [.int 0] = some (bif twice l i then [.int 1] else [.int 0]) := by
  have h := anyFor (st := st43_7 [l, .int i, qget l i]) (n := i) (p := fun k => sameN (qget l i) (qget l k)) (r1 := fun _ => [.int 1]) (r0 := [.int 0]) (by omega)
    (fun k hk => by
      rw [st43_7_eq, qinb_n (by omega), show qcmp .lss (k : Int) (i : Int) = true by rw [qcmp_lss]; simp; omega]
      rfl)
    (by rw [st43_7_eq, show qcmp .lss (i : Int) (i : Int) = false by rw [qcmp_lss]; simp]; rfl)
  rcases h with ⟨h1, h2⟩ | ⟨k, hk, hp, _, h1⟩
  · have : twice l i = false := by
      unfold twice
      rw [← Bool.not_eq_true, take_any (by omega)]
      rintro ⟨k, hk, hp⟩
      rw [← qget_n, h2 k hk] at hp; cases hp
    rw [h1, this]; rfl
  · have : twice l i = true := (take_any (by omega)).2 ⟨k, hk, by rw [← qget_n]; exact hp⟩
    rw [h1, this]; rfl

theorem one_r {l : D} {i : Nat} (hi : i < l.toList.length) (hl : l.toList.length ≤ maxLen) (hs : Sec (qget l i)) : q43 [l, .int i] = some [.int (eSec l i)] := by
  have he : endS (qget l i) = endS (qget l i) := rfl
  rw [q43_eq, F43_eq, l43_7_eq, qinb_n hi, name_r hs, end_r hs]
  simp only [twice_r hi hl]
  obtain ⟨a0, a1, l0, l1, _⟩ := hs
  unfold eSec rangeBad
  rw [show qint (qfld (qget l i) 1) = adr (qget l i) from rfl, qlen_c, show (((qfld (qget l i) 2).toList.length : Nat) : Int) = lenD (qget l i) from rfl, qwrap_eq, wrap64 (by omega) (by omega), add64 (by omega) (by omega)]
  simp only [cond_true, qsome_s, qnth_s, List.getD_cons_zero, qbool_b, qint_i, qnot_c, qcmp_gtr, qcmp_lss, qcmp_eql, qiteB_c]
  cases decide (65536 < lenD (qget l i)) <;> cases nameOk (qget l i) <;> cases twice l i <;> cases decide (4294967295 < adr (qget l i) + lenD (qget l i)) <;>
    cases decide (0 < lenD (qget l i)) <;> cases decide (adr (qget l i) < 983040) <;> cases decide (978944 < endS (qget l i)) <;> simp [qint_i]

/- Overlaps. -/

noncomputable def over (l : D) (i : Nat) : Bool := (l.toList.take i).any fun x => meetS x (qget l i)

theorem meet_iff {x y : D} (hx : Sec x) (hy : Sec y) : meetS x y = (decide (0 < lenD y) && (decide (0 < lenD x) && (decide (adr y < endS x) && decide (adr x < endS y)))) := by
  obtain ⟨a0, a1, l0, l1, _⟩ := hx
  obtain ⟨b0, b1, m0, m1, _⟩ := hy
  unfold meetS endS
  rw [Bool.eq_iff_iff]
  simp only [decide_eq_true_eq, Bool.and_eq_true]
  repeat' split
  all_goals omega

end Go.Proofs.Ytcengfpfphdacaa

namespace Go.Proofs.Ytcengfpfphdacaa
open Go Go.AM

theorem over_iff {l : D} {i : Nat} (hi : i < l.toList.length) (hs : ∀ k : Nat, k < l.toList.length → Sec (qget l k)) : over l i = true ↔ ∃ k : Nat, k < i ∧ meetS (qget l k) (qget l i) = true := by
  unfold over
  rw [take_any (by omega)]
  constructor
  · rintro ⟨k, hk, h⟩; exact ⟨k, hk, by rw [qget_n l k]; exact h⟩
  · rintro ⟨k, hk, h⟩; exact ⟨k, hk, by rw [← qget_n]; exact h⟩

theorem over_r {l : D} {i : Nat} (hi : i < l.toList.length) (hl : l.toList.length ≤ maxLen) (hs : ∀ k : Nat, k < l.toList.length → Sec (qget l k)) :
    loW (st24_13 [l, .int i]) [.int 0] = some (bif over l i then [.int 1] else [.int 0]) := by
  have h := anyFor (st := st24_13 [l, .int i]) (n := i) (p := fun k => meetS (qget l k) (qget l i)) (r1 := fun _ => [.int 1]) (r0 := [.int 0]) (by omega)
    (fun k hk => by
      have sk := hs k (by omega)
      have si := hs i hi
      rw [st24_13_eq, qinb_n (d := l) (i := k) (by omega), qinb_n hi, show qcmp .lss (k : Int) (i : Int) = true by (rw [qcmp_lss]; simp; omega), end_r sk, end_r si, meet_iff sk si]
      obtain ⟨a0, a1, l0, l1, _⟩ := sk
      obtain ⟨b0, b1, m0, m1, _⟩ := si
      rw [show qint (qfld (qget l k) 1) = adr (qget l k) from rfl, show qint (qfld (qget l i) 1) = adr (qget l i) from rfl, qlen_c, qlen_c, show (((qfld (qget l i) 2).toList.length : Nat) : Int) = lenD (qget l i) from rfl, show (((qfld (qget l k) 2).toList.length : Nat) : Int) = lenD (qget l k) from rfl, qwrap_eq, wrap64 (by omega) (by omega), wrap64 (by omega) (by omega)]
      simp only [cond_true, qsome_s, qnth_s, List.getD_cons_zero, qint_i, qcmp_gtr, qcmp_lss]
      cases decide (0 < lenD (qget l i)) <;> cases decide (0 < lenD (qget l k)) <;> cases decide (adr (qget l i) < endS (qget l k)) <;> cases decide (adr (qget l k) < endS (qget l i)) <;> rfl)
    (by rw [st24_13_eq, show qcmp .lss (i : Int) (i : Int) = false by rw [qcmp_lss]; simp]; rfl)
  rcases h with ⟨h1, h2⟩ | ⟨k, hk, hp, _, h1⟩
  · have : over l i = false := by
      rw [← Bool.not_eq_true, over_iff hi hs]
      rintro ⟨k, hk, hp⟩
      rw [h2 k hk] at hp; cases hp
    rw [h1, this]; rfl
  · rw [h1, (over_iff hi hs).2 ⟨k, hk, hp⟩]; rfl

theorem sections_eq {l : D} (hl : l.toList.length ≤ maxLen) (hs : ∀ k : Nat, k < l.toList.length → Sec (qget l k)) : ∃ e : Int, q19 [l] = some [.int e] ∧ q24 [l] = some [.int e] := by
  have e1 := errFor (st := st19_4 [l, l, .int (qlen l)]) (n := l.toList.length) (e := eSec l) hl (fun i hi => step19 hi hl (hs i hi)) (by rw [st19_4_eq, lt_no]; rfl)
  have e2 := errFor (st := st24_4 [l]) (n := l.toList.length) (e := eSec l) hl
    (fun i hi => by
      rw [st24_4_eq, lt_yes hi, one_r hi hl (hs i hi)]
      simp only [cond_true, qsome_s, qnth_s, List.getD_cons_zero, qint_i, qcmp_neq]
      by_cases h : eSec l i = 0 <;> simp [h])
    (by rw [st24_4_eq, lt_no]; rfl)
  have o1 := anyFor (st := st19_17 [l, l, .int (qlen l)]) (n := l.toList.length) (p := over l) (r1 := fun _ => [.int 1]) (r0 := [.int 0]) hl
    (fun i hi => by
      have hc : q33_39 [qsub l 0 i, qget l i] = some [.bool (over l i)] := by
        rw [contains39 (by rw [qsub_l]; simp only [List.length_take]; omega) (fun x hx => by
          rw [qsub_l] at hx
          obtain ⟨k, hk, rfl⟩ := List.getElem_of_mem hx
          simp only [List.length_take] at hk
          have := hs k (by omega)
          rw [qget_n, getD_lt (by omega)] at this
          rw [List.getElem_take]; exact this) (hs i hi), qsub_l]; rfl
      rw [st19_17_eq, lt_yes hi, qinb_n hi, leq_00, leq_0, le_yes (by omega), hc]
      simp only [cond_true, qsome_s, qnth_s, List.getD_cons_zero, qbool_b])
    (by rw [st19_17_eq, lt_no]; rfl)
  have o2 := anyFor (st := st24_10 [l]) (n := l.toList.length) (p := over l) (r1 := fun _ => [.int 1]) (r0 := [.int 0]) hl
    (fun i hi => by
      rw [st24_10_eq, lt_yes hi, l24_13_eq]
      simp only [over_r hi hl hs]
      cases over l i <;> simp [qsome_s, qnth_s, qint_i, qcmp_eql])
    (by rw [st24_10_eq, lt_no]; rfl)
  rw [q19_eq, q24_eq, F19_eq, F24_eq, l19_4_eq, l24_4_eq, l19_17_eq, l24_10_eq]
  simp only [e1, e2]
  generalize fErr (eSec l) 0 l.toList.length = fe
  simp only [errOut_0, qsome_s, cond_true]
  cases qcmp .gtr (qlen l) 16 with
  | true => exact ⟨6, rfl, rfl⟩
  | false =>
    simp only [cond_false]
    by_cases hf : fe = 0
    · simp only [hf, decide_true, cond_true]
      rcases o1 with ⟨h1, h1'⟩ | ⟨i, hi, hpi, _, h1⟩
      · rcases o2 with ⟨h2, _⟩ | ⟨j, hj, hpj, _, _⟩
        · exact ⟨0, by simp [h1, qsome_s, qnth_s, qint_i, qcmp_eql], by simp [h2, qsome_s, qnth_s, qint_i, qcmp_eql]⟩
        · rw [h1' j hj] at hpj; cases hpj
      · rcases o2 with ⟨_, h2'⟩ | ⟨j, hj, hpj, _, h2⟩
        · rw [h2' i hi] at hpi; cases hpi
        · exact ⟨10, by simp [h1, qsome_s, qnth_s, qint_i, qcmp_eql], by simp [h2, qsome_s, qnth_s, qint_i, qcmp_eql]⟩
    · exact ⟨fe, by simp [hf, errOut_1 hf], by simp [hf, errOut_1 hf]⟩

end Go.Proofs.Ytcengfpfphdacaa

namespace Go.Proofs.Ytcengfpfphdacaa
open Go Go.AM

/- The first graph with an address. -/

noncomputable def hasA (a : Int) (g : D) : Bool := decide (qint (qfld g 0) = a)

theorem find_spec {d : D} {a : Int} (hl : (qfld d 0).toList.length ≤ maxLen) :
    (q26 [d, .int a] = some [.int (-1)] ∧ ∀ i : Nat, i < (qfld d 0).toList.length → hasA a (qget (qfld d 0) i) = false) ∨
    ∃ i : Nat, i < (qfld d 0).toList.length ∧ hasA a (qget (qfld d 0) i) = true ∧ (∀ j : Nat, j < i → hasA a (qget (qfld d 0) j) = false) ∧ q26 [d, .int a] = some [.int i] := by
  have h := anyFor (st := st26_2 [.int a, d]) (n := (qfld d 0).toList.length) (p := fun i => hasA a (qget (qfld d 0) i)) (r1 := fun i => [.int 1, .int i]) (r0 := [.int 0]) hl
    (fun i hi => by
      rw [st26_2_eq, lt_yes hi, qinb_n hi, qcmp_eql]; rfl)
    (by rw [st26_2_eq, lt_no]; rfl)
  rw [q26_eq, F26_eq, l26_2_eq]
  rcases h with ⟨h1, h2⟩ | ⟨i, hi, hp, hj, h1⟩
  · exact .inl ⟨by simp [h1, qsome_s, qnth_s, qint_i, qcmp_eql], h2⟩
  · exact .inr ⟨i, hi, hp, hj, by simp [h1, qsome_s, qnth_s, qint_i, qcmp_eql]⟩

theorem contains22 {l y : D} (hl : l.toList.length ≤ maxLen) : q21_22 [l, y] = some [.bool (l.toList.any (hasA (qint (qfld y 0))))] := by
  obtain ⟨k, h1, h2⟩ := contG (st := st42_22_2 [l, y, .int (qlen l)]) (c := fun x => q22 [x, y]) (p := hasA (qint (qfld y 0))) (fun i => by rw [st42_22_2_eq]) hl (fun x _ => by rw [q22_eq, F22_eq, qcmp_eql]; rfl)
  rw [q21_22_eq, F21_22_eq, q42_22_eq, F42_22_eq, l42_22_2_eq, h1]
  simp only [qsome_s, cond_true, qnth_s, List.getD_cons_zero, qint_i, qcmp_geq, h2]

theorem contains23 {l y : D} (hl : l.toList.length ≤ maxLen) : q21_23 [l, y] = some [.bool (l.toList.any (hasA (qint (qfld y 2))))] := by
  obtain ⟨k, h1, h2⟩ := contG (st := st42_23_2 [l, y, .int (qlen l)]) (c := fun x => q23 [x, y]) (p := hasA (qint (qfld y 2))) (fun i => by rw [st42_23_2_eq]) hl (fun x _ => by rw [q23_eq, F23_eq, qcmp_eql]; rfl)
  rw [q21_23_eq, F21_23_eq, q42_23_eq, F42_23_eq, l42_23_2_eq, h1]
  simp only [qsome_s, cond_true, qnth_s, List.getD_cons_zero, qint_i, qcmp_geq, h2]

/-- What a graph at its place says: its own check, then whether its address came before. -/
noncomputable def eAt (l : D) (i : Nat) : Int :=
  if eGraph (qget l i) = 0 then (bif (l.toList.take i).any (hasA (qint (qfld (qget l i) 0))) then 8 else 0) else eGraph (qget l i)

theorem step9 {d : D} {i : Nat} (hl : (qfld d 0).toList.length ≤ maxLen) (hi : i < (qfld d 0).toList.length) (hg : Conf PG 49 (qget (qfld d 0) i)) (hz : (qget (qfld d 0) i).size ≤ lim) :
    st9_7 [qfld d 0, .int (qlen (qfld d 0)), d] [.int i] = if eAt (qfld d 0) i = 0 then some (.inl [.int (qbin .add .i64 i 1)]) else some (.inr [.int 1, .int (eAt (qfld d 0) i)]) := by
  have ht : q21_22 [qsub (qfld d 0) 0 i, qget (qfld d 0) i] = some [.bool (((qfld d 0).toList.take i).any (hasA (qint (qfld (qget (qfld d 0) i) 0))))] := by
    rw [contains22 (by rw [qsub_l]; simp only [List.length_take]; omega), qsub_l]
  rw [st9_7_eq, lt_yes hi, qinb_n hi, (graph_eq hg hz).1, leq_00, leq_0, le_yes (by omega), ht]
  unfold eAt
  simp only [cond_true, qsome_s, qnth_s, List.getD_cons_zero, qint_i, qbool_b, qcmp_neq]
  by_cases h : eGraph (qget (qfld d 0) i) = 0
  · simp only [h, decide_true, Bool.not_true, cond_false, if_true]
    cases ((qfld d 0).toList.take i).any (hasA (qint (qfld (qget (qfld d 0) i) 0))) <;> rfl
  · simp [h]

theorem before_iff {d : D} {i : Nat} (hl : (qfld d 0).toList.length ≤ maxLen) (hi : i < (qfld d 0).toList.length) :
    ∃ k : Int, q26 [d, .int (qint (qfld (qget (qfld d 0) i) 0))] = some [.int k] ∧ ((!decide (k = (i : Int))) = ((qfld d 0).toList.take i).any (hasA (qint (qfld (qget (qfld d 0) i) 0)))) := by
  have self : hasA (qint (qfld (qget (qfld d 0) i) 0)) (qget (qfld d 0) i) = true := by unfold hasA; simp
  rcases find_spec (d := d) (a := qint (qfld (qget (qfld d 0) i) 0)) hl with ⟨_, h⟩ | ⟨j, hj, hp, hb, h⟩
  · rw [h i hi] at self; cases self
  · refine ⟨j, h, ?_⟩
    by_cases hji : j = i
    · subst hji
      have : ((qfld d 0).toList.take j).any (hasA (qint (qfld (qget (qfld d 0) j) 0))) = false := by
        rw [← Bool.not_eq_true, take_any (by omega)]
        rintro ⟨k, hk, hq⟩
        rw [← qget_n, hb k hk] at hq; cases hq
      rw [this]; simp
    · have hlt : j < i := by
        rcases Nat.lt_or_gt_of_ne hji with h1 | h1
        · exact h1
        · rw [hb i h1] at self; cases self
      have : ((qfld d 0).toList.take i).any (hasA (qint (qfld (qget (qfld d 0) i) 0))) = true := (take_any (by omega)).2 ⟨j, hlt, by rw [← qget_n]; exact hp⟩
      rw [this]; simp; omega

theorem step10 {d : D} {i : Nat} (hl : (qfld d 0).toList.length ≤ maxLen) (hi : i < (qfld d 0).toList.length) (hg : Conf PG 49 (qget (qfld d 0) i)) (hz : (qget (qfld d 0) i).size ≤ lim) :
    st10_7 [d] [.int i] = if eAt (qfld d 0) i = 0 then some (.inl [.int (qbin .add .i64 i 1)]) else some (.inr [.int 1, .int (eAt (qfld d 0) i)]) := by
  obtain ⟨k, hk, hb⟩ := before_iff hl hi
  rw [st10_7_eq, lt_yes hi, qinb_n hi, (graph_eq hg hz).2, hk]
  unfold eAt
  simp only [cond_true, qsome_s, qnth_s, List.getD_cons_zero, qint_i, qcmp_neq, hb]
  by_cases h : eGraph (qget (qfld d 0) i) = 0
  · simp only [h, decide_true, Bool.not_true, cond_false, if_true]
    cases ((qfld d 0).toList.take i).any (hasA (qint (qfld (qget (qfld d 0) i) 0))) <;> rfl
  · simp [h]

theorem check_eq {d d' : D} (hd : Conf PG 26 d) (hz : d.size ≤ lim) (h0 : qfld d' 0 = qfld d 0) (h1 : qfld d' 1 = qfld d 1) (h2 : qint (qfld d' 2) = qint (qfld d 2)) :
    ∃ e : Int, q9 [d] = some [.int e] ∧ q10 [d'] = some [.int e] := by
  obtain ⟨hl, hx⟩ := conf_el f26_0 s22 hd
  obtain ⟨hl', hx'⟩ := conf_el f26_1 s23 hd
  have hsec : ∀ k : Nat, k < (qfld d 1).toList.length → Sec (qget (qfld d 1) k) := fun k hk => secOf (hx' _ (get_mem hk)) (by
    have h1 := elem_le (get_mem hk)
    have h2 := fld_le d 1
    omega)
  obtain ⟨es, s1, s2⟩ := sections_eq hl' hsec
  have hgz : ∀ i : Nat, i < (qfld d 0).toList.length → (qget (qfld d 0) i).size ≤ lim := fun i hi => by
    have h1 := elem_le (get_mem hi)
    have h2 := fld_le d 0
    omega
  have e1 := errFor (st := st9_7 [qfld d 0, .int (qlen (qfld d 0)), d]) (n := (qfld d 0).toList.length) (e := eAt (qfld d 0)) hl (fun i hi => step9 hl hi (hx _ (get_mem hi)) (hgz i hi)) (by rw [st9_7_eq, lt_no]; rfl)
  have e2 := errFor (st := st10_7 [d']) (n := (qfld d' 0).toList.length) (e := eAt (qfld d' 0)) (by rw [h0]; exact hl) (fun i hi => step10 (by rw [h0]; exact hl) hi (by rw [h0] at hi ⊢; exact hx _ (get_mem hi)) (by rw [h0] at hi ⊢; exact hgz i hi)) (by rw [st10_7_eq, lt_no]; rfl)
  rw [h0] at e2
  have hc : q21_23 [qfld d 0, d] = some [.bool ((qfld d 0).toList.any (hasA (qint (qfld d 2))))] := contains23 hl
  rw [q9_eq, q10_eq, F9_eq, F10_eq, l9_7_eq, l10_7_eq, h1, s1, s2, h0, h2, hc]
  simp only [e1, e2, errOut_0, qsome_s, cond_true]
  generalize hfe : fErr (eAt (qfld d 0)) 0 (qfld d 0).toList.length = fe
  generalize hE : qint (qnth (some (errOut fe)) 1) = E1
  simp only [qnth_s, List.getD_cons_zero, qint_i, qbool_b, qnot_c]
  cases qcmp .neq es 0 with
  | true => exact ⟨es, rfl, rfl⟩
  | false =>
    simp only [cond_false]
    cases qcmp .gtr (qlen (qfld d 0)) 64 with
    | true => exact ⟨6, rfl, rfl⟩
    | false =>
      simp only [cond_false]
      by_cases hf : fe = 0
      · simp only [hf, decide_true, cond_true]
        rcases find_spec (d := d') (a := qint (qfld d 2)) (by rw [h0]; exact hl) with ⟨hq, hn⟩ | ⟨j, hj, hp, _, hq⟩
        · have : (qfld d 0).toList.any (hasA (qint (qfld d 2))) = false := by
            rw [← Bool.not_eq_true]
            intro h
            obtain ⟨x, hx, hp⟩ := List.any_eq_true.1 h
            obtain ⟨k, hk, rfl⟩ := List.getElem_of_mem hx
            have := hn k (by rw [h0]; exact hk)
            rw [h0, qget_n, getD_lt hk, hp] at this; cases this
          exact ⟨17, by rw [this]; rfl, by rw [hq]; simp [qsome_s, qnth_s, qint_i, qcmp_lss]⟩
        · have : (qfld d 0).toList.any (hasA (qint (qfld d 2))) = true := by
            rw [h0] at hj hp
            exact List.any_eq_true.2 ⟨_, get_mem hj, hp⟩
          exact ⟨0, by rw [this]; rfl, by rw [hq]; simp [qsome_s, qnth_s, qint_i, qcmp_lss, show ¬ ((j : Int) < 0) by omega]⟩
      · exact ⟨E1, by simp [hf], by simp [hf]⟩

/-- THE LAW, over data: the function says true. -/
theorem law3 {d : D} (hd : Conf PG 26 d) (hz : d.size ≤ lim) : q3 [d] = some [.bool true] := by
  obtain ⟨b, hb⟩ := large7 (a := 0) hd
  obtain ⟨e, h9, h10⟩ := check_eq (d' := .agg [qfld d 0, qfld d 1, .int (qint (qfld d 2))]) hd hz (by rw [qfld_eq]; rfl) (by rw [qfld_eq]; rfl) (by rw [qfld_eq]; simp [D.fld, qint_i])
  rw [q3_eq, F3_eq, hb, h9, q11_eq, F11_eq]
  simp only [qsome_s, qnth_s, List.getD_cons_zero, h10, q8_eq, qbool_b, qint_i, cond_true, qeqI_self]
  cases b <;> rfl

end Go.Proofs.Ytcengfpfphdacaa
