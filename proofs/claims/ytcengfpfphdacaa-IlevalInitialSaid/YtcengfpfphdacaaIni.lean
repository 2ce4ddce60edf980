/-
  'IlevalInitial': what the evaluator answers, for every argument.
-/
import Derived.Test.YtcengfpfphdacaaEx
namespace Go.Proofs.Ytcengfpfphdacaa
open Go Go.AM

theorem EnvOk.flag {e : Env} (h : EnvOk e) (b : Bool) : EnvOk { e with clr := b } := h

theorem callA_none {e : Env} {r : Rec} {f : FuncId} {v : AV} (hp : e.isPure f = true) (h : callPure r f [] = some (v, true)) (H : Hp) : callA e r f [] H = some (v, H) := by
  unfold callA
  simp [hp, h, mapO]

/-- One call by its proved answer, all else by another rec. -/
def over8 (g : FuncId) (r : Rec) : Rec := fun f args H => bif Nat.beq f g && args.isEmpty then some (.sc (.bool true), H) else r f args H

theorem over8_sound {e : Env} {g : FuncId} {r r' : Rec} (hr : SoundRec e.P r) (hr' : SoundRec e.P r') (hp : e.isPure g = true) (h8 : callPure r' g [] = some (.sc (.bool true), true)) : SoundRec e.P (over8 g r) := by
  intro f args H v H' h lo w0 ρ E w vs inv ra
  unfold over8 at h
  cases hc : (Nat.beq f g && args.isEmpty) with
  | false =>
    rw [hc, cond_false] at h
    exact hr f args H v H' h lo w0 ρ E w vs inv ra
  | true =>
    rw [hc, cond_true] at h
    simp only [Option.some.injEq, Prod.mk.injEq] at h
    obtain ⟨rfl, rfl⟩ := h
    simp only [Bool.and_eq_true, List.isEmpty_iff] at hc
    obtain ⟨h1, rfl⟩ := hc
    obtain rfl : f = g := Nat.eq_of_beq_eq_true h1
    refine (any_call hr' (callA_none hp h8 H) inv ra).mono ?_
    rintro e w' ⟨u, ρ', E', he, h1, h2, h3, _⟩
    exact ⟨u, ρ', E', he, h1, h2, h3⟩

theorem over8_fn {e : Env} {g : FuncId} {r : Rec} (hr : HasFn e r) (hg : (e.fn g).isSome = true) : HasFn e (over8 g r) := by
  intro f args H p h
  unfold over8 at h
  cases hc : (Nat.beq f g && args.isEmpty) with
  | false =>
    rw [hc, cond_false] at h
    exact hr f args H p h
  | true =>
    simp only [Bool.and_eq_true] at hc
    obtain rfl : f = g := Nat.eq_of_beq_eq_true hc.1
    exact Option.isSome_iff_exists.1 hg

theorem over8_body {e : Env} {g : FuncId} (hok : EnvOk e) (hp : e.isPure g = true) (hg : (e.fn g).isSome = true) (m n N : Nat) (b : Bool) (h8 : callPure (runFn e m) g [] = some (.sc (.bool true), true)) :
    SoundRec e.P (bodyRun { e with clr := b } (over8 g (runFn e n)) N) :=
  body_sound (env := { e with clr := b }) (EnvOk.flag hok b) N (over8_fn (e := e) (runFn_fn e n) hg) (over8_sound (e := e) (runFn_sound hok n) (runFn_sound hok m) hp h8)

theorem pure8 : env.isPure 8 = true := by kernel_rfl
theorem has8 : (env.fn 8).isSome = true := by kernel_rfl

theorem body8_sound : SoundRec env.P (bodyRun { env with clr := true } (over8 8 (runFn env 30)) 60) := over8_body envOk pure8 has8 60 30 60 true ex8

def isTrue : Option (AV × Hp) → Bool
  | some (.sc (.bool b), _) => b
  | _ => false

theorem of_isTrue {x : Option (AV × Hp)} (h : isTrue x = true) : ∃ H', x = some (.sc (.bool true), H') := by
  unfold isTrue at h
  split at h
  · subst h; exact ⟨_, rfl⟩
  · cases h

noncomputable def run4 (k : Int) : Option (AV × Hp) := bodyRun { env with clr := true } (over8 8 (runFn env 30)) 60 4 [.sc (.int .i64 k)] .nil

theorem low (m : Nat) : isTrue (run4 (Int.negSucc m)) = true := by kernel_rfl
theorem high (m : Nat) : isTrue (run4 (Int.ofNat (m + 13))) = true := by kernel_rfl
theorem mid : ((List.range 13).all fun n => isTrue (run4 (Int.ofNat n))) = true := by kernel_rfl

theorem run4_true (k : Int) : isTrue (run4 k) = true := by
  cases k with
  | negSucc m => exact low m
  | ofNat n =>
    by_cases h : n < 13
    · exact List.all_eq_true.1 mid n (by simpa using h)
    · obtain ⟨m, rfl⟩ : ∃ m, n = m + 13 := ⟨n - 13, by omega⟩
      exact high m

theorem initial (k : Int) (w : World) : Calls Try.prog 4 #[.int .i64 k] w fun e w' => e = .returned (.bool true) ∧ RowKit.Grown w w' := by
  obtain ⟨H', h⟩ := of_isTrue (run4_true k)
  exact top_call (P := env.P) body8_sound h w (RepL.cons (by simp only [Rep]) RepL.nil)

end Go.Proofs.Ytcengfpfphdacaa
