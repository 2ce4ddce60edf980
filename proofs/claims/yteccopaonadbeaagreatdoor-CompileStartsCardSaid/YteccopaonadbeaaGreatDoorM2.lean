/-
  Plain laws: what is not known, unveiled; loops over numbers.
-/
import Derived.Test.YteccopaonadbeaaGreatDoorAmS
import Derived.Test.YteccopaonadbeaaGreatDoorM1
import Derived.Test.YteccopaonadbeaaGreatDoorRows
import Derived.Test.YteccopaonadbeaaGreatDoorC1
import Derived.Deep.DeepHandedRow
import Derived.Lib.LaidTab
import Derived.MakeChecks
import Derived.LaidSub
import Derived.FnData
import Derived.Shelf.Vars
import Derived.HandedShaped
set_option linter.unusedVariables false
set_option linter.unusedSimpArgs false
namespace Go.AM

theorem qsome_s (r : List D) : qsome (some r) = true := by rw [qsome_eq]; rfl
theorem qsome_n : qsome none = false := by rw [qsome_eq]; rfl
theorem qnth_s (r : List D) (j : Nat) : qnth (some r) j = r.getD j .other := by rw [qnth_eq]; rfl
theorem qint_i (n : Int) : qint (.int n) = n := by rw [qint_eq]; rfl
theorem qbool_b (b : Bool) : qbool (.bool b) = b := by rw [qbool_eq]; rfl
theorem qstr_s (s : ByteArray) : qstr (.str s) = s := by rw [qstr_eq]; rfl
theorem qcmp_lss (a b : Int) : qcmp .lss a b = decide (a < b) := by rw [qcmp_eq]; rfl
theorem qcmp_leq (a b : Int) : qcmp .leq a b = decide (a ≤ b) := by rw [qcmp_eq]; rfl
theorem qcmp_gtr (a b : Int) : qcmp .gtr a b = decide (b < a) := by rw [qcmp_eq]; rfl
theorem qcmp_geq (a b : Int) : qcmp .geq a b = decide (b ≤ a) := by rw [qcmp_eq]; rfl
theorem qcmp_eql (a b : Int) : qcmp .eql a b = decide (a = b) := by rw [qcmp_eq]; simp only [rcmp]; cases h : decide (a = b) <;> simp_all
theorem qcmp_neq (a b : Int) : qcmp .neq a b = !decide (a = b) := by rw [qcmp_eq]; simp only [rcmp, bne]; cases h : decide (a = b) <;> simp_all
theorem qiteB_c (c a b : Bool) : qiteB c a b = bif c then a else b := by rw [qiteB_eq]
theorem qnot_c (a : Bool) : qnot a = !a := by rw [qnot_eq]
theorem qlen_c (d : D) : qlen d = (d.toList.length : Int) := by rw [qlen_eq]; rfl
theorem qinb_c (d : D) (i : Int) : qinb d i = (decide (0 ≤ i) && decide (i < d.toList.length)) := by rw [qinb_eq]; rfl
theorem qget_n (d : D) (i : Nat) : qget d (i : Int) = d.toList.getD i .other := by rw [qget_eq]; simp [D.get]
theorem qinb_n {d : D} {i : Nat} (h : i < d.toList.length) : qinb d (i : Int) = true := by rw [qinb_c]; simp; omega

theorem cond_dec {α : Type} (p : Prop) [Decidable p] (a b : α) : (bif decide p then a else b) = if p then a else b := by by_cases h : p <;> simp [h]

/-- A loop that counts: so many rounds more. -/
def forN {A R : Type} (body : Nat → A → Option (Sum A R)) (fin : A → R) : Nat → Nat → A → Option R
  | _, 0, a => some (fin a)
  | i, k + 1, a => match body i a with
    | none => none
    | some (.inl a') => forN body fin (i + 1) k a'
    | some (.inr r) => some r

theorem loW_for {A S R : Type} {st : S → Option (Sum S R)} {enc : Nat → A → S} {n : Nat} {body : Nat → A → Option (Sum A R)} {fin : A → R} {I : Nat → A → Prop}
    (h1 : ∀ i a, i < n → I i a → st (enc i a) = match body i a with
      | none => none
      | some (.inl a') => some (.inl (enc (i + 1) a'))
      | some (.inr r) => some (.inr r))
    (h0 : ∀ a, I n a → st (enc n a) = some (.inr (fin a))) (hI : ∀ i a a', i < n → I i a → body i a = some (.inl a') → I (i + 1) a') :
    ∀ k i a, i + k = n → I i a → loW st (enc i a) = forN body fin i k a := by
  intro k
  induction k with
  | zero =>
    intro i a hi ha
    obtain rfl : i = n := by omega
    rw [loW_eq, h0 a ha]; rfl
  | succ k ih =>
    intro i a hi ha
    rw [loW_eq, h1 i a (by omega) ha]
    simp only [forN]
    cases hb : body i a with
    | none => rfl
    | some x =>
      cases x with
      | inr r => rfl
      | inl a' => exact ih (i + 1) a' (by omega) (hI i a a' (by omega) ha hb)

/-- A search: the first place at which there is an answer. -/
def srch {R : Type} (f : Nat → Option R) (r0 : R) : Nat → Nat → R
  | _, 0 => r0
  | i, k + 1 => match f i with
    | none => srch f r0 (i + 1) k
    | some r => r

theorem loW_srch {S R : Type} {st : S → Option (Sum S R)} {enc : Nat → S} {n : Nat} {f : Nat → Option R} {r0 : R}
    (h1 : ∀ i, i < n → st (enc i) = match f i with
      | none => some (.inl (enc (i + 1)))
      | some r => some (.inr r))
    (h0 : st (enc n) = some (.inr r0)) : ∀ k i, i + k = n → loW st (enc i) = some (srch f r0 i k) := by
  intro k
  induction k with
  | zero =>
    intro i hi
    obtain rfl : i = n := by omega
    rw [loW_eq, h0]; rfl
  | succ k ih =>
    intro i hi
    rw [loW_eq, h1 i (by omega)]
    simp only [srch]
    cases hb : f i with
    | some r => rfl
    | none => exact ih (i + 1) (by omega)

/-- A search in a list. -/
def srchL {α R : Type} (f : Nat → α → Option R) (r0 : R) : Nat → List α → R
  | _, [] => r0
  | i, x :: xs => match f i x with
    | none => srchL f r0 (i + 1) xs
    | some r => r

theorem srch_list {R : Type} {f : Nat → Option R} {g : Nat → D → Option R} {r0 : R} {xs : List D} (h : ∀ i x, xs[i]? = some x → f i = g i x) : ∀ k i, i + k = xs.length → srch f r0 i k = srchL g r0 i (xs.drop i) := by
  intro k
  induction k with
  | zero => intro i hi; rw [List.drop_of_length_le (by omega)]; rfl
  | succ k ih =>
    intro i hi
    have hlt : i < xs.length := by omega
    rw [List.drop_eq_getElem_cons hlt]
    simp only [srch, srchL]
    rw [h i xs[i] (List.getElem?_eq_getElem hlt)]
    cases g i xs[i] with
    | some r => rfl
    | none => exact ih (i + 1) (by omega)

/-- Does one of the list fit? -/
theorem srchL_any {R : Type} {p : D → Bool} {r : Nat → R} {r0 : R} {P : R → Bool} (h0 : P r0 = false) (h1 : ∀ i, P (r i) = true) : ∀ (xs : List D) (i : Nat), P (srchL (fun i x => if p x then some (r i) else none) r0 i xs) = xs.any p
  | [], i => h0
  | x :: xs, i => by
    simp only [srchL, List.any_cons]
    cases hp : p x with
    | true => simp [h1]
    | false => simpa using srchL_any h0 h1 xs (i + 1)

theorem getD_lt {xs : List D} {i : Nat} (h : i < xs.length) : xs.getD i .other = xs[i] := by simp [List.getD, h]

theorem wrap64' {n : Int} (h0 : -9223372036854775808 ≤ n) (h1 : n ≤ 9223372036854775807) : IntKind.i64.wrap n = n := wrap64 h0 h1

theorem add_nat {i : Nat} (h : i < 9223372036854775807) : qbin .add .i64 (i : Int) 1 = ((i + 1 : Nat) : Int) := by
  rw [add64 (by omega) (by omega)]; omega

/-- A search with a test that is a function. -/
theorem idxLoop {st : List D → Option (Sum (List D) (List D))} {l : D} {c : D → Option (List D)} {p : D → Bool} {r1 : Int → List D} {r0 : List D}
    (hst : ∀ i : Int, st [.int i] = bif qcmp .lss i (qlen l) then bif qinb l i then bif qsome (c (qget l i)) then bif qbool (qnth (c (qget l i)) 0) then some (.inr (r1 i)) else some (.inl [.int (qbin .add .i64 i 1)]) else none else none else some (.inr r0))
    (hl : l.toList.length ≤ maxLen) (hc : ∀ x ∈ l.toList, c x = some [.bool (p x)]) :
    (loW st [.int 0] = some r0 ∧ l.toList.any p = false) ∨ ∃ i : Nat, loW st [.int 0] = some (r1 i) ∧ l.toList.any p = true := by
  unfold maxLen at hl
  have key : ∀ k i : Nat, i + k = l.toList.length → (loW st [.int i] = some r0 ∧ (l.toList.drop i).any p = false) ∨ ∃ j : Nat, loW st [.int i] = some (r1 j) ∧ (l.toList.drop i).any p = true := by
    intro k
    induction k with
    | zero =>
      intro i hi
      left
      rw [loW_eq, hst, qcmp_lss, qlen_c, List.drop_of_length_le (by omega)]
      simp [show ¬ ((i : Int) < l.toList.length) by omega]
    | succ k ih =>
      intro i hi
      have hlt : i < l.toList.length := by omega
      rw [loW_eq, hst, qcmp_lss, qlen_c, qinb_n hlt, qget_n, getD_lt hlt, hc _ (List.getElem_mem hlt), List.drop_eq_getElem_cons hlt]
      simp only [show ((i : Int) < l.toList.length) by omega, decide_true, cond_true, qsome_s, qnth_s, List.getD_cons_zero, qbool_b, List.any_cons]
      cases hp : p l.toList[i] with
      | true => exact .inr ⟨i, rfl, by simp⟩
      | false =>
        simp only [cond_false, Bool.false_or]
        rw [add_nat (by omega)]
        exact ih (i + 1) (by omega)
  have := key l.toList.length 0 (by omega)
  simpa using this

theorem size_elem {d : D} {j : Nat} {x : D} (h : x ∈ (d.fld j).toList) : x.size < d.size := by
  cases d with
  | agg xs =>
    simp only [D.fld, List.getD] at h
    cases hx : xs[j]? with
    | none => rw [hx] at h; simp [D.toList] at h
    | some y =>
      rw [hx] at h
      simp only [Option.getD_some] at h
      have h1 := sizes_get hx
      cases y with
      | list ys =>
        simp only [D.toList] at h
        obtain ⟨i, hi⟩ := List.getElem?_of_mem h
        have h2 := sizes_get hi
        simp only [D.size] at h1 ⊢
        omega
      | _ => simp [D.toList] at h
  | _ => simp [D.fld, D.toList] at h

end Go.AM

namespace Go.Proofs.YteccopaonadbeaaGreatDoor
set_option linter.unusedSimpArgs false
open Go Go.AM

theorem mv (a b : Int) : q27 [.int a, .int b] = some [.agg [.int 0, .int b, .int 5, .int 2, .int 0, .int 0, .int a, .int 0, .int 0]] := by rw [q27_eq, F27_eq]
theorem mv' (a b : Int) : q28 [.int a, .int b] = some [.agg [.int 0, .int b, .int 5, .int 2, .int 0, .int 0, .int a, .int 0, .int 0]] := by rw [q28_eq, F28_eq]

theorem starts (n : Int) : ∃ xs : List D, xs.length ≤ 10 ∧ q8 [.int n] = some [.list xs] ∧ q9 [.int n] = some [.list xs] := by
  rw [q8_eq, F8_eq, q9_eq, F9_eq]
  simp only [mv, mv', qsome_s, cond_true]
  cases qiteB (qcmp .geq n 0) (qcmp .lss n 256) Bool.false with
  | true => exact ⟨_, by simp, rfl, rfl⟩
  | false => exact ⟨_, by simp, rfl, rfl⟩

theorem qand_c (a b : Bool) : qand a b = (a && b) := by rw [qand_eq]

theorem self (xs : List D) (h : xs.length ≤ 10) : l3_5 [.list xs, .list xs] [.int 0] = some [.int 0] := by
  rw [l3_5_eq]
  have hl := loW_srch (st := st3_5 [.list xs, .list xs]) (enc := fun i => [.int (i : Int)]) (n := xs.length) (f := fun _ => none) (r0 := [.int 0])
    (fun i hi => by
      have hi' : i < (D.list xs).toList.length := hi
      rw [st3_5_eq, qcmp_lss, qlen_c, qinb_n hi']
      simp only [show ((i : Int) < (D.list xs).toList.length) by omega, decide_true, cond_true, qcmp_eql, qand_c, Bool.and_true, qnot_c, Bool.not_true, cond_false]
      rw [add_nat (by omega)])
    (by rw [st3_5_eq, qcmp_lss, qlen_c]; simp [D.toList])
    xs.length 0 (by omega)
  have hs : ∀ k i, srch (fun _ : Nat => (none : Option (List D))) [.int 0] i k = [.int 0] := by
    intro k
    induction k with
    | zero => intro i; rfl
    | succ k ih => intro i; exact ih (i + 1)
  rw [hs] at hl
  exact hl

theorem law3 (n : Int) : q3 [.int n] = some [.bool true] := by
  obtain ⟨xs, hx, h8, h9⟩ := starts n
  have hq : q10 [] = some [.bool true] := q10_eq
  rw [q3_eq, F3_eq]
  simp only [h8, h9, qsome_s, qnth_s, List.getD_cons_zero, cond_true, qcmp_neq, decide_true, Bool.not_true, cond_false, self xs hx, qcmp_eql, qint_i, hq, qbool_b]

end Go.Proofs.YteccopaonadbeaaGreatDoor

namespace Go.Proofs.YteccopaonadbeaaGreatDoor
open Go Go.AM
set_option maxRecDepth 100000

/-- A value that is known. -/
def isLitV : AV → Bool
  | .ui _ _ => true
  | .ub _ => true
  | _ => false
def litV : AV → Value
  | .ui k n => .int k n
  | .ub b => .bool b
  | _ => .bool false

theorem repL_lits {ρ : Nat → Option Nat} {E : Nat → Prop} {w : World} : ∀ (l : List AV) (cs : List Value), l.all isLitV = true → RepL ρ E w l cs → cs = l.map litV
  | [], cs, _, h => by simpa [RepL] using h
  | c :: l, cs, hl, h => by
    simp only [List.all_cons, Bool.and_eq_true] at hl
    simp only [RepL] at h
    obtain ⟨v, vs, rfl, h1, h2⟩ := h
    rw [repL_lits l vs hl.2 h2]
    cases c <;> simp only [isLitV] at hl <;> first | (cases hl.1; done) | skip
    all_goals (simp only [Rep] at h1; subst h1; rfl)

theorem okT : okTypes PG = true := by kernel_rfl
theorem pg : PG = Tryz.prog := by unfold PG; rfl

theorem arr_len {H : Type} {enc : TypeId × Value → H} {P : Program} {w : World} {base : Nat} {sp : Nat → Bool} {held : Bool} {fuel : Nat} {t e : TypeId} {n : Nat} {cs : List Value} {d : DataW H} {p : List MemPlace}
    (ht : P.underlying t = some (.array n e)) (h : DataW.trod enc P w base sp held fuel t cs = some (d, p)) : cs.length = P.cellsOf t := by
  cases fuel with
  | zero => simp [DataW.trod] at h
  | succ fuel =>
    simp only [DataW.trod, ht] at h
    split at h
    · rename_i hl
      exact hl
    · cases h

/-- The cells of a laid table. -/
theorem cs_of_laid {w : World} {fuel : Nat} {t e : TypeId} {n : Nat} {cs : List Value} {d : DataW Unit} {p : List MemPlace} {enc : TypeId × Value → Unit} {held : Bool}
    (ht : Tryz.prog.underlying t = some (.array n e)) (hs : t < Tryz.prog.types.size) (hl : layOk PG 8 t = true) (hlit : (cellsT 8 t (toD d)).all isLitV = true)
    (h : DataW.trod enc Tryz.prog w 0 (fun _ => true) held fuel t cs = some (d, p)) : cs = (cellsT 8 t (toD d)).map litV := by
  have hlen := arr_len ht h
  have h' : DataW.trod enc PG w 0 (fun _ => true) held fuel t cs = some (d, p) := by rw [pg]; exact h
  obtain ⟨hr, _⟩ := trod_rep (P := PG) okT fuel t cs d p h' (by rw [pg]; exact hlen) (by rw [pg]; exact hs)
  exact repL_lits _ _ hlit (cellsT_rep (ρ := nowhere) 8 t (toD d) cs hl hr)

theorem cells217 (d : D) : cellsT 8 217 d = (List.range 256).map fun i => .ui .u8 (qint (qfld d i)) := by kernel_rfl
theorem lit217 (d : D) : (cellsT 8 217 d).all isLitV = true := by rw [cells217]; kernel_rfl

theorem int_un (d : D) : qint d = d.toInt := by rw [qint_eq]
theorem bool_un (d : D) : qbool d = d.toBool := by rw [qbool_eq]

/-- The table's cells. -/
def tabCells (g : Nat) : List Value := ((findG g GLT).getD []).map fun a => match a with | .sc v => v | _ => .bool false

theorem vals0 : (cellsT 8 217 (toD (Rows.laid_strings_asciiSpace (H := Unit)))).map litV = tabCells 0 := by
  rw [cells217]; simp only [int_un, qfld_eq]; kernel_rfl

theorem glob0 : Tryz.prog.globalNamed "strings.asciiSpace" = some 0 := by kernel_rfl
theorem gty0 : (Tryz.prog.globals[0]?).map (·.type) = some 217 := by kernel_rfl

theorem var_of {W : World} {name : String} {d : DataW Unit} {g t e n : Nat} {rest : List (String × DataW Unit)} (hg : Tryz.prog.globalNamed name = some g) (hty : (Tryz.prog.globals[g]?).map (·.type) = some t) (ht : Tryz.prog.underlying t = some (.array n e)) (hs : t < Tryz.prog.types.size)
    (hl : layOk PG 8 t = true) (hlit : (cellsT 8 t (toD d)).all isLitV = true) (h : laidMet Tryz.prog ((name, d) :: rest) W) : ∃ cs : Array Value, W.var? Tryz.prog name = some cs ∧ cs.toList = (cellsT 8 t (toD d)).map litV := by
  obtain ⟨ps, ⟨g', t', cs, fuel, p, q, hg', ht', hvar, hd, _, _⟩, _⟩ := h
  obtain rfl := Option.some.inj (hg.symm.trans hg')
  obtain rfl := Option.some.inj (hty.symm.trans ht')
  exact ⟨cs, hvar, cs_of_laid ht hs hl hlit hd⟩

theorem var?_all {W : World} {g : Nat} {name : String} {cs : Array Value} {vs : List Value} (hg : Tryz.prog.globalNamed name = some g) (hvar : W.var? Tryz.prog name = some cs) (he : cs.toList = vs) : ∃ c T f, W.heap[g]? = some (.cells c T f) ∧ c.size = (vs.map AV.sc).length := by
  simp only [World.var?, hg, Option.bind_some] at hvar
  split at hvar
  · rename_i c T f hh
    cases hvar
    exact ⟨_, _, _, hh, by rw [List.length_map, ← he, Array.length_toList]⟩
  · cases hvar

theorem repAt_of {W : World} {E : Nat → Prop} {g : Nat} {name : String} {cs : Array Value} {vs : List Value} (hg : Tryz.prog.globalNamed name = some g) (hvar : W.var? Tryz.prog name = some cs) (he : cs.toList = vs) (h0 : 0 < vs.length) : g < W.heap.size ∧ GlRep E W g (vs.map AV.sc) := by
  have hc : ∀ (i : Nat), W.cell? ⟨g, i, none⟩ = vs[i]? := fun i => by rw [World.var?_cell hg hvar i, ← he, Array.getElem?_toList]
  refine ⟨?_, RepAt.ofL (RepL.sc vs) fun j u hu => by rw [Nat.zero_add, hc]; exact hu, fun _ => var?_all hg hvar he⟩
  by_cases hlt : g < W.heap.size
  · exact hlt
  · exfalso
    have h1 : W.heap[g]? = none := Array.getElem?_eq_none (by omega)
    have h2 := hc 0
    rw [List.getElem?_eq_getElem h0] at h2
    simp [World.cell?, h1] at h2

theorem maxLen (W : World) (h : W.ShapedOpen Tryz.prog) : ∃ m, W.cell? ⟨2, 0, none⟩ = some (.int .i64 m) :=
  cell_of_shapedOpen_int (P := Tryz.prog) (t := 3) (zero := #[.int .i64 0]) h (of_decide_eq_true (by kernel_rfl)) (by kernel_rfl) (by kernel_rfl) (by kernel_rfl) (by kernel_rfl) Tryz.underlying3

/-- The tables lie in the world. -/
theorem tabs {W : World} {E : Nat → Prop} {l : List (String × DataW Unit)} (hl : l = Rows.compileStartsRow.laid) (h : laidMetH Tryz.prog l W) (hsh : W.ShapedOpen Tryz.prog) {S : FunS} {p s : List D} (g : Nat) (cs : List AV) (hgl : (heapF S p s).glob g = some cs) : g < W.heap.size ∧ GlRep E W g cs := by
  subst hl
  have hp : ∀ g, (heapF S p s).glob g = findG g GLT := fun _ => rfl
  rw [hp] at hgl
  cases g with
  | zero =>
    have hf := laidMetH.filter (fun x => x.1 == "strings.asciiSpace") h
    have e : Rows.compileStartsRow.laid.filter (fun x => x.1 == "strings.asciiSpace") = [("strings.asciiSpace", Rows.laid_strings_asciiSpace)] := by rfl
    rw [e, MakeChecks.laidMetH_plain _ _ _ (by kernel_rfl)] at hf
    obtain ⟨a, h1, h2⟩ := var_of glob0 gty0 Tryz.underlying217 (of_decide_eq_true (by kernel_rfl)) (by kernel_rfl) (lit217 _) hf
    rw [vals0] at h2
    have := repAt_of (E := E) glob0 h1 h2 (of_decide_eq_true (by kernel_rfl))
    have e2 : findG 0 GLT = some ((tabCells 0).map AV.sc) := by kernel_rfl
    rw [e2] at hgl
    cases hgl
    exact this
  | succ g =>
    cases g with
    | zero =>
      have e2 : findG (0 + 1) GLT = none := rfl
      rw [e2] at hgl; cases hgl
    | succ g =>
      cases g with
      | zero =>
        obtain ⟨m, hm⟩ := maxLen W hsh
        have e2 : findG (0 + 1 + 1) GLT = some [.anyI .i64] := by rfl
        rw [e2] at hgl
        cases hgl
        refine ⟨?_, ?_⟩
        · by_cases h0 : 2 < W.heap.size
          · exact h0
          · exfalso
            have : W.heap[2]? = none := Array.getElem?_eq_none (by omega)
            simp [World.cell?, this] at hm
        · refine ⟨?_, fun h => by cases h⟩
          simp only [RepAt]
          exact ⟨⟨_, hm, by simp only [Rep]; exact ⟨m, rfl⟩⟩, trivial⟩
      | succ g =>
        have e2 : findG (g + 1 + 1 + 1) GLT = none := rfl
        rw [e2] at hgl; cases hgl

end Go.Proofs.YteccopaonadbeaaGreatDoor

namespace Go.Proofs.YteccopaonadbeaaGreatDoor
open Go Go.AM

theorem sound3 : SoundF env.P 3 S3 q3 := by rw [q3_eq]; exact liftX_sound envOk ok_tbl3_5 60 12

theorem top3 (n : Int) (w : World) (hL : laidMetH Tryz.prog Rows.compileStartsRow.laid w) (hsh : w.ShapedOpen Tryz.prog) :
    Calls Tryz.prog 3 #[.int .i64 n] w fun e w' => e = .returned (.bool true) ∧ RowKit.Below w.heap.size w w' := by
  refine (sound3 [] [.int n] [.bool true] rfl (law3 n) (fun b => b < w.heap.size) w nowhere _ w #[.int .i64 n] (Inv.empty w _ (fun _ h => h) rfl rfl (fun g cs h => tabs rfl hL hsh g cs h))
    (RepL.cons (show Rep nowhere _ w (.ui .i64 n) (.int .i64 n) by simp only [Rep]) RepL.nil)).mono ?_
  rintro e w' ⟨u, ρ', E', rfl, inv, reach, rep⟩
  have hr : resF S3 [] (bdL [.bool true]) = .ub true := rfl
  rw [hr] at rep
  simp only [Rep] at rep
  subst rep
  exact ⟨rfl, ⟨inv.io.1, inv.io.2.1, inv.io.2.2, reach.size, inv.old⟩⟩

end Go.Proofs.YteccopaonadbeaaGreatDoor
