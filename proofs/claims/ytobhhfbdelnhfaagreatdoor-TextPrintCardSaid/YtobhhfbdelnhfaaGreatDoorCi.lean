/-
  The place of a known text in a known text, how often a byte stands in a known text: by the library's summaries; the number that the first looks at may be any.
-/
import Derived.Test.YtobhhfbdelnhfaaGreatDoorAmZ2
import Derived.Test.YtobhhfbdelnhfaaGreatDoorC1
import Derived.Below
import Derived.RowKit3
import Derived.Lib.IndexMore
namespace Go.AM
section
variable {P : Program}

theorem ok_of_same {f : FuncId} {args : List AV} {H : Hp} {x : Value} (h : ∀ (lo : Nat → Prop) (w0 : World) (ρ : Nat → Option Nat) (E : Nat → Prop) (w : World) (vs : Array Value), Inv lo w0 ρ E H w → RepL ρ E w args vs.toList →
      Calls P f vs w fun e w' => e = .returned x ∧ w' = w) : Ok P f args H (.sc x) H := by
  intro lo w0 ρ E w vs inv ra
  refine (h lo w0 ρ E w vs inv ra).mono ?_
  rintro e w' ⟨rfl, rfl⟩
  exact ⟨x, ρ, E, rfl, inv, ⟨Ext.refl, fun _ h => .inl h⟩, by simp only [Rep]⟩

/-- Where the one begins in the other. -/
noncomputable def idxT (s t : List UInt8) (i : Nat) : Int := match s with | [] => bif t.isEmpty then (i : Int) else -1 | x :: r => bif t.isPrefixOf (x :: r) then (i : Int) else idxT r t (i + 1)

theorem idxT_eq : ∀ (s t : List UInt8) (i : Nat), idxT s t i = if Lib.index s t = -1 then -1 else Lib.index s t + i
  | [], t, i => by
    unfold idxT Lib.index
    cases h : t.isEmpty <;> simp
  | x :: r, t, i => by
    have ih := idxT_eq r t (i + 1)
    have hg := Lib.index_ge r t
    unfold idxT Lib.index
    rw [ih]
    cases h : t.isPrefixOf (x :: r) with
    | true => simp
    | false =>
      simp only [cond_false, Bool.false_eq_true, if_false, beq_iff_eq]
      by_cases h1 : Lib.index r t = -1
      · simp [h1]
      · have h2 : ¬ (Lib.index r t + 1 = -1) := by omega
        simp only [h1, h2, if_false]; omega

def IndexSaid (P : Program) (f g : Nat) : Prop :=
  ∀ (s sub : ByteArray) (m : Int) (w : World), s.size < 4294967281 → w.cell? ⟨g, 0, none⟩ = some (.int .i64 m) →
    Calls P f #[.string s, .string sub] w fun e w' => e = .returned (.int .i64 (Lib.index s.data.toList sub.data.toList)) ∧ w' = w

noncomputable def idxC (g : Nat) (args : List AV) (H : Hp) : Option (AV × Hp) :=
  match args with
  | [.sc (.string s), .sc (.string t)] => (match H.glob g with
    | some [.anyI .i64] => bif Nat.ble s.size 1048576 then some (.sc (.int .i64 (idxT s.data.toList t.data.toList 0)), H) else none
    | _ => none)
  | _ => none

theorem idxC_ok {f g : Nat} (hC : IndexSaid P f g) (args : List AV) (H : Hp) (v : AV) (H' : Hp) (h : idxC g args H = some (v, H')) : Ok P f args H v H' := by
  unfold idxC at h
  split at h
  case h_2 => cases h
  case h_1 s t =>
    split at h
    case h_2 => cases h
    case h_1 hg =>
      cases hb : Nat.ble s.size 1048576 with
      | false => rw [hb] at h; cases h
      | true =>
        rw [hb] at h
        cases h
        simp only [Nat.ble_eq] at hb
        refine ok_of_same fun lo w0 ρ E w vs inv ra => ?_
        generalize hvs : vs.toList = l at ra
        simp only [RepL] at ra
        obtain ⟨u1, l1, rfl, r1, u2, l2, rfl, r2, rfl⟩ := ra
        simp only [Rep] at r1 r2
        subst r1 r2
        have hv : vs = #[.string s, .string t] := by rw [← Array.toList_inj, hvs]
        have hr := (inv.gl g _ hg).2.1
        simp only [RepAt, Rep] at hr
        obtain ⟨⟨u, hu, n, rfl⟩, _⟩ := hr
        have e : idxT s.data.toList t.data.toList 0 = Lib.index s.data.toList t.data.toList := by
          rw [idxT_eq]; split <;> simp_all
        rw [hv, e]
        exact hC s t n w (by omega) hu

def CountSaid (P : Program) (f : Nat) : Prop :=
  ∀ (s : ByteArray) (c : UInt8) (w : World), Calls P f #[.string s, .string ⟨#[c]⟩] w fun e w' => e = .returned (.int .i64 (Lib.countByte s.data.toList c)) ∧ w' = w

noncomputable def cntC (args : List AV) (H : Hp) : Option (AV × Hp) :=
  match args with
  | [.sc (.string s), .sc (.string ⟨⟨[c]⟩⟩)] => some (.sc (.int .i64 (s.data.toList.count c : Nat)), H)
  | _ => none

theorem cntC_ok {f : Nat} (hC : CountSaid P f) (args : List AV) (H : Hp) (v : AV) (H' : Hp) (h : cntC args H = some (v, H')) : Ok P f args H v H' := by
  unfold cntC at h
  split at h
  case h_2 => cases h
  case h_1 s c =>
    cases h
    refine ok_of_same fun lo w0 ρ E w vs inv ra => ?_
    generalize hvs : vs.toList = l at ra
    simp only [RepL] at ra
    obtain ⟨u1, l1, rfl, r1, u2, l2, rfl, r2, rfl⟩ := ra
    simp only [Rep] at r1 r2
    subst r1 r2
    have hv : vs = #[.string s, .string ⟨#[c]⟩] := by rw [← Array.toList_inj, hvs]
    rw [hv]
    exact hC s c w

end
end Go.AM
