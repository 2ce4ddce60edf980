/-
  Data that fits its type: what is asked of arguments, and how it goes down to parts.
-/
import Derived.Test.YteccopaonadbeaaGreatDoorAmN
set_option linter.unusedVariables false
set_option linter.unusedSimpArgs false
namespace Go.AM

/-- A slice of data that fits. -/
def ConfL (e : TypeId) (d : D) : Prop := d.toList.length ≤ maxLen ∧ (∃ xs, d = .list xs) ∧ ∀ x ∈ d.toList, Conf PG e x

noncomputable def qconf : TypeId → D → Bool := veil fun T d => @decide (Conf PG T d) (Classical.propDecidable _)
noncomputable def qconfL : TypeId → D → Bool := veil fun T d => @decide (ConfL T d) (Classical.propDecidable _)
noncomputable def qrng : IntKind → Int → Bool := veil fun k n => @decide (k.min ≤ n ∧ n ≤ k.max) (Classical.propDecidable _)
theorem qconf_iff {T : TypeId} {d : D} : qconf T d = true ↔ Conf PG T d := by unfold qconf; rw [veil_eq]; simp
theorem qconfL_iff {T : TypeId} {d : D} : qconfL T d = true ↔ ConfL T d := by unfold qconfL; rw [veil_eq]; simp
theorem qrng_iff {k : IntKind} {n : Int} : qrng k n = true ↔ k.min ≤ n ∧ n ≤ k.max := by unfold qrng; rw [veil_eq]; simp

/-- The kinds of types, read off the program. -/
noncomputable def isInt (T : TypeId) (k : IntKind) : Bool := match PG.underlying T with | some (.int k') => k == k' | _ => false
noncomputable def isSl (T e : TypeId) : Bool := match PG.underlying T with | some (.slice e') => Nat.beq e e' | _ => false
noncomputable def isFld (T : TypeId) (j : Nat) (F : TypeId) : Bool := match PG.underlying T with | some (.struct fs) => (match fs.toList[j]? with | some f => Nat.beq f.type F | none => false) | _ => false

theorem conf_get {e : TypeId} {d : D} {i : Int} (h : qconfL e d = true) (hi : qinb d i = true) : qconf e (qget d i) = true := by
  rw [qconf_iff]
  obtain ⟨_, _, h⟩ := qconfL_iff.1 h
  rw [qinb_eq] at hi
  simp only [D.inb, Bool.and_eq_true, decide_eq_true_eq] at hi
  have hlt : i.toNat < d.toList.length := by omega
  have hg : qget d i = d.toList[i.toNat] := by rw [qget_eq]; simp [D.get, List.getD, hlt]
  rw [hg]
  exact h _ (List.getElem_mem hlt)

theorem conf_list {T e : TypeId} {d : D} (hT : isSl T e = true) (h : qconf T d = true) : qconfL e d = true := by
  rw [qconfL_iff]
  unfold isSl at hT
  cases hu : PG.underlying T with
  | none => rw [hu] at hT; cases hT
  | some td =>
    rw [hu] at hT
    cases qconf_iff.1 h with
    | slice h1 hl hd =>
      rw [h1] at hu; cases hu
      obtain rfl := Nat.eq_of_beq_eq_true hT
      exact ⟨hl, ⟨_, rfl⟩, hd⟩
    | int h1 => rw [h1] at hu; cases hu; cases hT
    | bool h1 => rw [h1] at hu; cases hu; cases hT
    | str h1 => rw [h1] at hu; cases hu; cases hT
    | struct h1 => rw [h1] at hu; cases hu; cases hT
    | array h1 => rw [h1] at hu; cases hu; cases hT
    | other h1 => unfold isOther at h1; rw [hu] at h1; cases td <;> simp_all

theorem conf_fld {T F : TypeId} {j : Nat} {d : D} (hT : isFld T j F = true) (h : qconf T d = true) : qconf F (qfld d j) = true := by
  rw [qconf_iff]
  unfold isFld at hT
  cases hu : PG.underlying T with
  | none => rw [hu] at hT; cases hT
  | some td =>
    rw [hu] at hT
    cases qconf_iff.1 h with
    | struct h1 hl hd =>
      rename_i fs ds
      rw [h1] at hu; cases hu
      simp only at hT
      cases hf : fs.toList[j]? with
      | none => rw [hf] at hT; cases hT
      | some f =>
        rw [hf] at hT
        simp only at hT
        obtain rfl := Nat.eq_of_beq_eq_true hT
        rw [qfld_eq]
        exact hd j f hf
    | slice h1 hl hd => rw [h1] at hu; cases hu; cases hT
    | int h1 => rw [h1] at hu; cases hu; cases hT
    | bool h1 => rw [h1] at hu; cases hu; cases hT
    | str h1 => rw [h1] at hu; cases hu; cases hT
    | array h1 => rw [h1] at hu; cases hu; cases hT
    | other h1 => unfold isOther at h1; rw [hu] at h1; cases td <;> simp_all

theorem conf_int {T : TypeId} {k : IntKind} {d : D} (hT : isInt T k = true) (h : qconf T d = true) : qrng k (qint d) = true := by
  rw [qrng_iff]
  unfold isInt at hT
  cases hu : PG.underlying T with
  | none => rw [hu] at hT; cases hT
  | some td =>
    rw [hu] at hT
    cases qconf_iff.1 h with
    | int h1 h2 h3 =>
      rw [h1] at hu; cases hu
      simp only [beq_iff_eq] at hT
      subst hT
      rw [qint_eq]
      exact ⟨h2, h3⟩
    | slice h1 hl hd => rw [h1] at hu; cases hu; cases hT
    | struct h1 => rw [h1] at hu; cases hu; cases hT
    | bool h1 => rw [h1] at hu; cases hu; cases hT
    | str h1 => rw [h1] at hu; cases hu; cases hT
    | array h1 => rw [h1] at hu; cases hu; cases hT
    | other h1 => unfold isOther at h1; rw [hu] at h1; cases td <;> simp_all

theorem conf_len {e : TypeId} {d : D} (h : qconfL e d = true) : 0 ≤ qlen d ∧ qlen d ≤ 9223372036854775807 := by
  obtain ⟨h, _⟩ := qconfL_iff.1 h
  rw [qlen_eq]
  simp only [D.len, maxLen] at h ⊢
  omega

theorem rng_len {e : TypeId} {d : D} (h : qconfL e d = true) : qrng .i64 (qlen d) = true := by
  rw [qrng_iff]
  obtain ⟨h1, h2⟩ := conf_len h
  simp only [IntKind.min, IntKind.max, IntKind.bits, IntKind.signed]
  constructor <;> simp <;> omega

theorem conf_sub {e : TypeId} {d : D} {lo hi : Int} (h : qconfL e d = true) : qconfL e (qsub d lo hi) = true := by
  rw [qconfL_iff] at h ⊢
  obtain ⟨h1, h3, h4⟩ := h
  rw [qsub_eq]
  have hl : (D.sub d lo hi).toList = (d.toList.drop lo.toNat).take (hi - lo).toNat := rfl
  have hsub : ∀ x, x ∈ ((d.toList.drop lo.toNat).take (hi - lo).toNat) → x ∈ d.toList := fun x hx => List.mem_of_mem_drop (List.mem_of_mem_take hx)
  refine ⟨?_, ⟨_, rfl⟩, ?_⟩
  · rw [hl, List.length_take, List.length_drop]; omega
  · intro x hx
    rw [hl] at hx
    exact h4 x (hsub x hx)

theorem inb_of {d : D} {i : Int} (h0 : 0 ≤ i) (h1 : i < qlen d) : qinb d i = true := by
  rw [qinb_eq]
  rw [qlen_eq] at h1
  simp only [D.inb, D.len] at h1 ⊢
  simp only [Bool.and_eq_true, decide_eq_true_eq]
  exact ⟨h0, h1⟩

theorem lss_iff {a b : Int} : qcmp .lss a b = true ↔ a < b := by rw [qcmp_eq]; simp [rcmp]
theorem leq_iff {a b : Int} : qcmp .leq a b = true ↔ a ≤ b := by rw [qcmp_eq]; simp [rcmp]
theorem gtr_iff {a b : Int} : qcmp .gtr a b = true ↔ b < a := by rw [qcmp_eq]; simp [rcmp]
theorem geq_iff {a b : Int} : qcmp .geq a b = true ↔ b ≤ a := by rw [qcmp_eq]; simp [rcmp]
theorem eql_iff {a b : Int} : qcmp .eql a b = true ↔ a = b := by rw [qcmp_eq]; simp [rcmp]
theorem neq_iff {a b : Int} : qcmp .neq a b = true ↔ a ≠ b := by rw [qcmp_eq]; simp [rcmp]
theorem lss_no {a b : Int} : qcmp .lss a b = false ↔ b ≤ a := by rw [qcmp_eq]; simp [rcmp]
theorem leq_no {a b : Int} : qcmp .leq a b = false ↔ b < a := by rw [qcmp_eq]; simp [rcmp]
theorem gtr_no {a b : Int} : qcmp .gtr a b = false ↔ a ≤ b := by rw [qcmp_eq]; simp [rcmp]
theorem geq_no {a b : Int} : qcmp .geq a b = false ↔ a < b := by rw [qcmp_eq]; simp [rcmp]
theorem eql_no {a b : Int} : qcmp .eql a b = false ↔ a ≠ b := by rw [qcmp_eq]; simp [rcmp]
theorem neq_no {a b : Int} : qcmp .neq a b = false ↔ a = b := by rw [qcmp_eq]; simp [rcmp]

theorem wrap64 {n : Int} (h0 : -9223372036854775808 ≤ n) (h1 : n ≤ 9223372036854775807) : IntKind.i64.wrap n = n := by
  simp only [IntKind.wrap, IntKind.bits, IntKind.signed]
  simp
  omega

theorem add64 {a b : Int} (h0 : -9223372036854775808 ≤ a + b) (h1 : a + b ≤ 9223372036854775807) : qbin .add .i64 a b = a + b := by rw [qbin_eq]; exact wrap64 h0 h1
theorem sub64 {a b : Int} (h0 : -9223372036854775808 ≤ a - b) (h1 : a - b ≤ 9223372036854775807) : qbin .sub .i64 a b = a - b := by rw [qbin_eq]; exact wrap64 h0 h1


mutual
/-- How large data is. -/
def D.size : D → Nat
  | .int _ => 1
  | .bool _ => 1
  | .str _ => 1
  | .list xs => 1 + D.sizes xs
  | .agg xs => 1 + D.sizes xs
  | .other => 1
def D.sizes : List D → Nat
  | [] => 0
  | x :: xs => x.size + D.sizes xs
end

theorem D.size_pos (d : D) : 1 ≤ d.size := by cases d <;> simp only [D.size] <;> omega

theorem sizes_get : ∀ {xs : List D} {i : Nat} {x : D}, xs[i]? = some x → x.size ≤ D.sizes xs
  | [], i, x, h => by simp at h
  | y :: ys, i, x, h => by
    cases i with
    | zero => simp at h; subst h; simp only [D.sizes]; omega
    | succ i => simp at h; have := sizes_get h; simp only [D.sizes]; omega

theorem sizes_sub : ∀ (xs : List D) (a b : Nat), D.sizes ((xs.drop a).take b) ≤ D.sizes xs
  | [], a, b => by simp [D.sizes]
  | x :: xs, 0, 0 => by simp [D.sizes]
  | x :: xs, 0, b + 1 => by have := sizes_sub xs 0 b; simp only [List.drop_zero] at this; simp only [List.drop_zero, List.take_succ_cons, D.sizes]; omega
  | x :: xs, a + 1, b => by have := sizes_sub xs a b; simp only [List.drop_succ_cons, D.sizes]; omega

noncomputable def qszlt : D → Nat → Bool := veil fun d n => decide (d.size < n)
theorem qszlt_iff {d : D} {n : Nat} : qszlt d n = true ↔ d.size < n := by unfold qszlt; rw [veil_eq]; simp

theorem sz_fld {d : D} {j M : Nat} (h : qszlt d M = true) : qszlt (qfld d j) M = true := by
  rw [qszlt_iff] at h ⊢
  rw [qfld_eq]
  have h0 := D.size_pos d
  cases d with
  | agg xs =>
    simp only [D.fld, List.getD]
    simp only [D.size] at h h0
    cases hx : xs[j]? with
    | none => simp only [Option.getD_none, D.size]; omega
    | some x => have := sizes_get hx; simp only [Option.getD_some]; omega
  | _ => simp only [D.fld, D.size]; omega

theorem sz_get {d : D} {i : Int} {M : Nat} (h : qszlt d (M + 1) = true) (hi : qinb d i = true) : qszlt (qget d i) M = true := by
  rw [qszlt_iff] at h ⊢
  rw [qinb_eq] at hi
  rw [qget_eq]
  simp only [D.inb, Bool.and_eq_true, decide_eq_true_eq] at hi
  cases d with
  | list xs =>
    simp only [D.toList] at hi
    simp only [D.get, D.toList, List.getD]
    simp only [D.size] at h
    have hlt : i.toNat < xs.length := by omega
    have := sizes_get (List.getElem?_eq_getElem hlt)
    rw [List.getElem?_eq_getElem hlt]
    simp only [Option.getD_some]; omega
  | _ => simp [D.toList] at hi; omega

theorem sz_sub {d : D} {lo hi : Int} {M : Nat} (h : qszlt d M = true) : qszlt (qsub d lo hi) M = true := by
  rw [qszlt_iff] at h ⊢
  rw [qsub_eq]
  cases d with
  | list xs =>
    simp only [D.size] at h
    have := sizes_sub xs lo.toNat (hi - lo).toNat
    simp only [D.sub, D.toList, D.size]; omega
  | _ =>
    simp only [D.sub, D.toList, D.size, List.drop_nil, List.take_nil, D.sizes]
    have := D.size_pos
    simp only [D.size] at h
    omega

theorem sz_up {d : D} {M : Nat} (h : qszlt d M = true) : qszlt d (M + 1) = true := by
  rw [qszlt_iff] at h ⊢; omega

end Go.AM
