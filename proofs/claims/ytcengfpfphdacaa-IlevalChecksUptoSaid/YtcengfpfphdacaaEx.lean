/-
  The fixed example 'exampleHolds', run in the kernel.
-/
import Derived.Test.YtcengfpfphdacaaC1
namespace Go.Proofs.Ytcengfpfphdacaa
open Go Go.AM

/-- A closed run: no loop is known, no call is by contract. -/
noncomputable def liftR (n : Nat) (f : FuncId) (S : FunS) (ds : List D) : Option (List D) :=
  bodyK env (runFn env n) n f (argF S (ds.take S.np) (ds.drop S.np)) (heapF S (ds.take S.np) (ds.drop S.np)) (retF S (ds.take S.np))

theorem liftR_sound (n : Nat) {f : FuncId} {S : FunS} : SoundF env.P f S (liftR n f S) := by
  intro p s r hpl hr lo w0 ρ E w vs inv ra
  unfold liftR at hr
  rw [← hpl, List.take_left, List.drop_left] at hr
  refine (bodyK_sound (env := env) envOk n (runFn_fn env n) (runFn_sound envOk envLp n) f (fun F _ x _ n0 g hg => by rw [envLp] at hg; cases hg) hr lo w0 ρ E w vs inv ra).mono ?_
  rintro e' w' ⟨u, ρ', E', v0, Hc, rfl, inv', reach, hrep, hk⟩
  unfold retF at hk
  split at hk
  · rename_i q hq
    obtain ⟨h1, h2⟩ := guardAll_some hk
    cases h2
    obtain ⟨o1, o2⟩ := allB_both h1
    have hp := eqD2_eq o2
    have st : St lo w0 ρ E w ρ' E' Hc [v0] { tmps := #[u], defers := [] } w' := ⟨inv', ⟨rfl, fun t x ht => by
      cases t with
      | zero => simp at ht; subst ht; simpa using hrep
      | succ t => simp at ht, rfl⟩, reach⟩
    obtain ⟨ρ2, E2, st2⟩ := nrm_wk hq o1 (σp := bdL p) (σs := bdL q.s) (js := 0) (by rw [hp]; exact bdL_ats p) (bdL_ats q.s) lo w0 ρ E w ρ' E' _ w' inv.dom st
    refine ⟨u, ρ2, E2, rfl, st2.inv, st2.reach, ?_⟩
    unfold resF
    cases hm : mkFr (bdL p) (bdL q.s) S.rs S.rhs 0 with
    | nil => simp only [List.headD_nil, Rep]
    | cons x xs =>
      have := st2.fr.rep 0 x (by rw [hm]; rfl)
      simpa using this
  · cases hk

def S8 : FunS := ⟨[], [], [⟨true, .bool⟩], []⟩
theorem ex8 : liftR 60 8 S8 [] = some [.bool true] := by kernel_rfl

noncomputable def q8 : List D → Option (List D) := veil fun ds => liftR 60 8 S8 ds
theorem q8_eq : q8 [] = some [.bool true] := by unfold q8; rw [veil_eq]; exact ex8
theorem sound8 : SoundF env.P 8 S8 q8 := by unfold q8; rw [veil_eq]; exact liftR_sound 60

end Go.Proofs.Ytcengfpfphdacaa
