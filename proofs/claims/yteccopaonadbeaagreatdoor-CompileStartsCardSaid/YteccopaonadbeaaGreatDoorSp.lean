/-
  A function of a struct, by cases on one of its fields: for each of its first values a run of its own.
-/
import Derived.Test.YteccopaonadbeaaGreatDoorC1
set_option linter.unusedVariables false
set_option linter.unusedSimpArgs false
namespace Go.Proofs.YteccopaonadbeaaGreatDoor
open Go Go.AM
set_option maxRecDepth 100000

theorem lift_ok {e : Env} {tb : Tb} (hok : EnvOk e) (h : TbOk e tb) (K n : Nat) {f : FuncId} {S : FunS} {av : List AV} {p r : List D} {H : Hp}
    (hr : bodyK (envF e tb f) (runTb e tb K n) K f av H (retF S p) = some r) (hH : H.n = S.hs.length) : Ok e.P f av H (resF S p (bdL r)) (heapR S p (bdL r)) := by
  intro lo w0 ρ E w vs inv ra
  refine (bodyK_sound (env := envF e tb f) (envF_ok hok f) K (runTb_fn h K n) (runTb_sound hok h K n) f (fun F hF x hx n0 g hg => h.l f F x n0 g hF hx hg) hr lo w0 ρ E w vs inv ra).mono ?_
  rintro e' w' ⟨u, ρ', E', v0, Hc, rfl, inv', reach, hrep, hk⟩
  unfold retF at hk
  split at hk
  · rename_i q hq
    obtain ⟨h1, h2⟩ := guardAll_some hk
    cases h2
    obtain ⟨o1, o2⟩ := allB_both h1
    have hp := eqD2_eq o2
    have st : St lo w0 ρ E w ρ' E' Hc [v0] { tmps := #[u], defers := [] } w' := ⟨inv', ⟨rfl, fun t x ht => by
      cases t with
      | zero => simp at ht; subst ht; simpa using hrep
      | succ t => simp at ht, rfl⟩, reach⟩
    obtain ⟨ρ2, E2, st2⟩ := nrm_wk hq o1 (σp := bdL p) (σs := bdL q.s) (js := 0) (by rw [hp]; exact bdL_ats p) (bdL_ats q.s) lo w0 ρ E w ρ' E' _ w' (by rw [← hH]; exact inv.dom) st
    refine ⟨u, ρ2, E2, rfl, st2.inv, st2.reach, ?_⟩
    unfold resF
    cases hm : mkFr (bdL p) (bdL q.s) S.rs S.rhs 0 with
    | nil => simp only [List.headD_nil, Rep]
    | cons x xs =>
      have := st2.fr.rep 0 x (by rw [hm]; rfl)
      simpa using this
  · cases hk

theorem ok_args {P : Program} {f : FuncId} {av av' : List AV} {H H' : Hp} {v : AV} (h : Ok P f av H v H') (hle : ∀ ρ E w l, RepL ρ E w av' l → RepL ρ E w av l) : Ok P f av' H v H' :=
  fun lo w0 ρ E w vs inv ra => h lo w0 ρ E w vs inv (hle _ _ _ _ ra)

/-- The struct's cells, one of them known. -/
noncomputable def knownC (T j : Nat) (k : Int) (d : D) : AV := .agg ((cellsT rowDepth T d).set j (.sc (.int .i64 k)))

theorem repL_set {ρ : Nat → Option Nat} {E : Nat → Prop} {w : World} {y : AV} : ∀ {cs : List AV} {l : List Value} {j : Nat} {x : AV}, cs[j]? = some x → (∀ v, Rep ρ E w x v → Rep ρ E w y v) → RepL ρ E w cs l → RepL ρ E w (cs.set j y) l
  | [], _, _, _, h, _, _ => by simp at h
  | c :: cs, l, 0, x, h, hxy, r => by
    simp at h; subst h
    simp only [RepL, List.set_cons_zero] at r ⊢
    obtain ⟨v, vs, rfl, h1, h2⟩ := r
    exact ⟨v, vs, rfl, hxy v h1, h2⟩
  | c :: cs, l, j + 1, x, h, hxy, r => by
    simp only [RepL, List.set_cons_succ] at r ⊢
    obtain ⟨v, vs, rfl, h1, h2⟩ := r
    exact ⟨v, vs, rfl, h1, repL_set (by simpa using h) hxy h2⟩

theorem known_le {ρ : Nat → Option Nat} {E : Nat → Prop} {w : World} {T j : Nat} {k : Int} {d : D} {v : Value} (hc : (cellsT rowDepth T d)[j]? = some (.ui .i64 (qint (qfld d j)))) (hk : qint (qfld d j) = k) (h : Rep ρ E w (.dat T d) v) : Rep ρ E w (knownC T j k d) v := by
  have h := dat_agg h
  unfold knownC
  simp only [Rep] at h ⊢
  obtain ⟨xs, rfl, hr⟩ := h
  refine ⟨xs, rfl, repL_set hc ?_ hr⟩
  intro v hv
  simp only [Rep] at hv ⊢
  rw [hv, hk]

/-- A run where the field is known. -/
noncomputable def runK (tb : Tb) (f : FuncId) (S : FunS) (T j : Nat) (k : Int) (ds : List D) : Option (List D) :=
  (fnC { envF env tb f with n0 := S.hs.length } 60 f).a (runX env tb 60 12) [knownC T j k (ds.headD .other)] (heapF S [] []) (retF S [])
/-- A run where the field is not known; calls by contracts alone. -/
noncomputable def runE (tb : Tb) (f : FuncId) (S : FunS) (T : Nat) (ds : List D) : Option (List D) :=
  (fnC { envF env tb f with n0 := S.hs.length } 60 f).a (runX env tb 60 0) [.dat T (ds.headD .other)] (heapF S [] []) (retF S [])
theorem fnX_eq (tb : Tb) (n : Nat) (f : FuncId) (S : FunS) (av : List AV) (k : AV → Hp → Option (List D)) : (fnC { envF env tb f with n0 := S.hs.length } 60 f).a (runX env tb 60 n) av (heapF S [] []) k = bodyK (envF env tb f) (runTb env tb 60 n) 60 f av (heapF S [] []) k := by
  rw [fnC_eq _ _ _ _ _ _ _ rfl, runX_eq]; rfl

noncomputable def splitF (tb tb' : Tb) (f : FuncId) (S : FunS) (T j m : Nat) (ds : List D) : Option (List D) :=
  if 0 ≤ qint (qfld (ds.headD .other) j) ∧ qint (qfld (ds.headD .other) j) < m then runK tb f S T j (qint (qfld (ds.headD .other) j)) ds else runE tb' f S T ds

theorem split_sound {tb tb' : Tb} (h : TbOk env tb) (h' : TbOk env tb') {f : FuncId} {T j m : Nat} {rs : List Slot} (hc : ∀ d, (cellsT rowDepth T d)[j]? = some (.ui .i64 (qint (qfld d j)))) :
    SoundF env.P f ⟨[⟨true, .dat T⟩], [], rs, []⟩ (splitF tb tb' f ⟨[⟨true, .dat T⟩], [], rs, []⟩ T j m) := by
  intro p s r hp hq
  obtain rfl : p = [] := List.length_eq_zero_iff.1 hp
  simp only [List.nil_append] at hq
  have ha : argF ⟨[⟨true, .dat T⟩], [], rs, []⟩ [] s = [.dat T (s.headD .other)] := by cases s <;> rfl
  have hh : heapF ⟨[⟨true, .dat T⟩], [], rs, []⟩ [] s = heapF ⟨[⟨true, .dat T⟩], [], rs, []⟩ [] [] := rfl
  rw [ha, hh]
  unfold splitF at hq
  split at hq
  · refine ok_args (lift_ok envOk h 60 12 (by rw [← fnX_eq]; exact hq) rfl) ?_
    intro ρ E w l hr
    simp only [RepL] at hr ⊢
    obtain ⟨v, vs, rfl, h1, h2⟩ := hr
    exact ⟨v, vs, rfl, known_le (hc _) rfl h1, h2⟩
  · exact lift_ok envOk h' 60 0 (by rw [← fnX_eq]; exact hq) rfl

theorem splitF_at {tb tb' : Tb} {f : FuncId} {S : FunS} {T j m : Nat} {d : D} (k : Nat) (hk : qint (qfld d j) = k) (hm : k < m) : splitF tb tb' f S T j m [d] = runK tb f S T j k [d] := by
  have hc : 0 ≤ qint (qfld d j) ∧ qint (qfld d j) < (m : Int) := by rw [hk]; omega
  rw [← hk]
  exact if_pos hc
theorem splitF_out {tb tb' : Tb} {f : FuncId} {S : FunS} {T j m : Nat} {d : D} (hk : qint (qfld d j) < 0 ∨ (m : Int) ≤ qint (qfld d j)) : splitF tb tb' f S T j m [d] = runE tb' f S T [d] := by
  have hc : ¬(0 ≤ qint (qfld d j) ∧ qint (qfld d j) < (m : Int)) := by omega
  exact if_neg hc

end Go.Proofs.YteccopaonadbeaaGreatDoor
