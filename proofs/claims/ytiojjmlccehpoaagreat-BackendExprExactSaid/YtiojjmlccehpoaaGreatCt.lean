/-
  strings.Contains of known texts, by the library's summary; the number that it looks at may be any.
-/
import Derived.Test.YtiojjmlccehpoaaGreatAmZ2
import Derived.Test.YtiojjmlccehpoaaGreatC1
import Derived.Below
import Derived.RowKit3
import Derived.Lib.IndexMore
namespace Go.AM
section
variable {P : Program}

/-- The world as it was, and a value without memory. -/
theorem ok_of_same' {f : FuncId} {args : List AV} {H : Hp} {x : Value} {y : AV} (hy : ∀ ρ E w, Rep ρ E w y x) (h : ∀ (lo : Nat → Prop) (w0 : World) (ρ : Nat → Option Nat) (E : Nat → Prop) (w : World) (vs : Array Value), Inv lo w0 ρ E H w → RepL ρ E w args vs.toList →
      Calls P f vs w fun e w' => e = .returned x ∧ w' = w) : Ok P f args H y H := by
  intro lo w0 ρ E w vs inv ra
  refine (h lo w0 ρ E w vs inv ra).mono ?_
  rintro e w' ⟨rfl, rfl⟩
  exact ⟨x, ρ, E, rfl, inv, ⟨Ext.refl, fun _ h => .inl h⟩, hy _ _ _⟩
theorem ok_of_same {f : FuncId} {args : List AV} {H : Hp} {x : Value} (h : ∀ (lo : Nat → Prop) (w0 : World) (ρ : Nat → Option Nat) (E : Nat → Prop) (w : World) (vs : Array Value), Inv lo w0 ρ E H w → RepL ρ E w args vs.toList →
      Calls P f vs w fun e w' => e = .returned x ∧ w' = w) : Ok P f args H (.sc x) H := by
  intro lo w0 ρ E w vs inv ra
  refine (h lo w0 ρ E w vs inv ra).mono ?_
  rintro e w' ⟨rfl, rfl⟩
  exact ⟨x, ρ, E, rfl, inv, ⟨Ext.refl, fun _ h => .inl h⟩, by simp only [Rep]⟩

/-- Is the one within the other? -/
noncomputable def subT (s t : List UInt8) : Bool := match s with | [] => t.isEmpty | x :: r => t.isPrefixOf (x :: r) || subT r t

theorem subT_eq : ∀ s t : List UInt8, subT s t = Lib.contains s t
  | [], t => by
    unfold subT Lib.contains Lib.index
    cases h : t.isEmpty <;> rfl
  | x :: r, t => by
    have ih := subT_eq r t
    have hg := Lib.index_ge r t
    unfold Lib.contains at ih
    unfold subT Lib.contains Lib.index
    rw [ih]
    cases h : t.isPrefixOf (x :: r) with
    | true => simp
    | false =>
      simp only [Bool.false_or, Bool.false_eq_true, if_false]
      split
      · rename_i h1
        rw [eq_of_beq h1]
      · rename_i h1
        have : Lib.index r t ≠ -1 := fun e => h1 (by rw [e]; rfl)
        rw [Bool.eq_iff_iff]; simp only [decide_eq_true_eq]; omega

/-- What a contract of strings.Contains says, as the library has it. -/
def ContSaid (P : Program) (f : FuncId) : Prop :=
  ∀ (s sub : ByteArray) (m : Int) (w : World), s.size < 4294967281 → w.cell? ⟨0, 0, none⟩ = some (.int .i64 m) →
    Calls P f #[.string s, .string sub] w fun e w' => e = .returned (.bool (Lib.contains s.data.toList sub.data.toList)) ∧ w' = w

noncomputable def qhas : ByteArray → ByteArray → Bool := veil fun s t => subT s.data.toList t.data.toList
theorem qhas_eq : qhas = fun s t => subT s.data.toList t.data.toList := veil_eq _

noncomputable def contC (args : List AV) (H : Hp) : Option (AV × Hp) :=
  match args with
  | [.sc (.string s), .sc (.string t)] => (match H.glob 0 with
    | some [.anyI .i64] => bif Nat.ble s.size 1048576 then some (.sc (.bool (subT s.data.toList t.data.toList)), H) else none
    | _ => none)
  | [.sc (.string s), .us t] => (match H.glob 0 with
    | some [.anyI .i64] => bif Nat.ble s.size 1048576 then some (.ub (qhas s t), H) else none
    | _ => none)
  | _ => none

theorem contC_ok {f : FuncId} (hC : ContSaid P f) (args : List AV) (H : Hp) (v : AV) (H' : Hp) (h : contC args H = some (v, H')) : Ok P f args H v H' := by
  unfold contC at h
  split at h
  case h_3 => cases h
  case h_1 s t =>
    split at h
    case h_2 => cases h
    case h_1 hg =>
      cases hb : Nat.ble s.size 1048576 with
      | false => rw [hb] at h; cases h
      | true =>
        rw [hb] at h
        cases h
        simp only [Nat.ble_eq] at hb
        refine ok_of_same fun lo w0 ρ E w vs inv ra => ?_
        generalize hvs : vs.toList = l at ra
        simp only [RepL] at ra
        obtain ⟨u1, l1, rfl, r1, u2, l2, rfl, r2, rfl⟩ := ra
        simp only [Rep] at r1 r2
        subst r1 r2
        have hv : vs = #[.string s, .string t] := by rw [← Array.toList_inj, hvs]
        have hr := (inv.gl 0 _ hg).2
        simp only [RepAt, Rep] at hr
        obtain ⟨⟨u, hu, n, rfl⟩, _⟩ := hr
        rw [hv, subT_eq]
        exact hC s t n w (by omega) hu
  case h_2 s t =>
    split at h
    case h_2 => cases h
    case h_1 hg =>
      cases hb : Nat.ble s.size 1048576 with
      | false => rw [hb] at h; cases h
      | true =>
        rw [hb] at h
        cases h
        simp only [Nat.ble_eq] at hb
        refine ok_of_same' (x := .bool (subT s.data.toList t.data.toList)) (fun _ _ _ => by simp only [Rep, qhas_eq]) fun lo w0 ρ E w vs inv ra => ?_
        generalize hvs : vs.toList = l at ra
        simp only [RepL] at ra
        obtain ⟨u1, l1, rfl, r1, u2, l2, rfl, r2, rfl⟩ := ra
        simp only [Rep] at r1 r2
        subst r1 r2
        have hv : vs = #[.string s, .string t] := by rw [← Array.toList_inj, hvs]
        have hr := (inv.gl 0 _ hg).2
        simp only [RepAt, Rep] at hr
        obtain ⟨⟨u, hu, n, rfl⟩, _⟩ := hr
        rw [hv, subT_eq]
        exact hC s t n w (by omega) hu

end
end Go.AM
