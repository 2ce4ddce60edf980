/-
  Single operations: slices of slices, lengths, append, copy.
-/
import Derived.Test.YtcengfpfphdacaaAm7
namespace Go.AM

section
variable {P : Program} {lo : Nat} {w0 : World} {ρ : Nat → Option Nat} {E : Nat → Prop} {H : Hp} {w : World}

theorem natOf_rep {x : AV} {u : Value} {n : Nat} (h : natOf x = some n) (r : Rep ρ E w x u) : ∃ k, u = .int k (n : Int) := by
  unfold natOf at h
  split at h
  · split at h
    · rename_i k m hm
      cases h
      simp only [Rep] at r
      exact ⟨k, by rw [r]; congr 1; omega⟩
    · cases h
  · cases h

theorem run_bound {k : IntKind} {n y : Nat} (h : n ≤ y) (code : BoundsCode) (w : World) : (Instr.sliceBound (.int k (n : Int)) y code).run P w = .ok n w := by
  have h1 : (0 : Int) ≤ (n : Int) ∧ (n : Int) ≤ (y : Int) := by omega
  simp only [Instr.sliceBound, asIntOf, pure_bind, h1, and_self, if_true, Int.toNat_natCast]
  rfl

/-- The values behind optional operands. -/
def RepO (ρ : Nat → Option Nat) (E : Nat → Prop) (w : World) : Option AV → Option Value → Prop
  | none, v => v = none
  | some x, v => ∃ u, v = some u ∧ Rep ρ E w x u

theorem run_bounds {lo' hi' : Option AV} {lv hv : Option Value} {l h len cap : Nat} (isS : Bool) (hl : lowOf lo' = some l) (hh : highOf len hi' = some h) (rl : RepO ρ E w lo' lv) (rh : RepO ρ E w hi' hv) (h1 : l ≤ h) (h2 : h ≤ len) (h3 : len ≤ cap) :
    (Instr.sliceBounds isS len cap lv hv none).run P w = .ok (l, h, cap) w := by
  have hlow : ∀ c : BoundsCode, (match lv with | some v => Instr.sliceBound v h c | none => pure 0 : Sem Nat).run P w = .ok l w := by
    intro c
    cases lo' with
    | none => simp only [RepO] at rl; subst rl; simp only [lowOf, Option.some.injEq] at hl; subst hl; simp
    | some x =>
      simp only [RepO] at rl
      obtain ⟨u, rfl, ru⟩ := rl
      simp only [lowOf] at hl
      obtain ⟨k, rfl⟩ := natOf_rep hl ru
      exact run_bound h1 c w
  have hhigh : ∀ c : BoundsCode, (match hv with | some v => Instr.sliceBound v cap c | none => pure len : Sem Nat).run P w = .ok h w := by
    intro c
    cases hi' with
    | none => simp only [RepO] at rh; subst rh; simp only [highOf, Option.some.injEq] at hh; subst hh; simp
    | some x =>
      simp only [RepO] at rh
      obtain ⟨u, rfl, ru⟩ := rh
      simp only [highOf] at hh
      obtain ⟨k, rfl⟩ := natOf_rep hh ru
      exact run_bound (by omega) c w
  cases hv with
  | none =>
    have hh' := hhigh .sliceB
    simp only [Sem.run_pure, Result.ok.injEq, and_true] at hh'
    subst hh'
    cases lv with
    | none => have := hlow .sliceB; simp at this; subst this; simp [Instr.sliceBounds]
    | some v => have := hlow .sliceB; simp only at this; simp [Instr.sliceBounds, this]
  | some v =>
    have hh' := hhigh
    simp only at hh'
    cases lv with
    | none => have := hlow .sliceB; simp at this; subst this; simp [Instr.sliceBounds, hh']
    | some v' => have := hlow .sliceB; simp only at this; simp [Instr.sliceBounds, hh', this]

theorem ok_sliceE {T : TypeId} {xs : List (List AV)} {v : AV} {u : Value} {lo' hi' : Option AV} {lv hv : Option Value} {l h : Nat}
    (hl : lowOf lo' = some l) (hh : highOf xs.length hi' = some h) (rl : RepO ρ E w lo' lv) (rh : RepO ρ E w hi' hv)
    (hs : sliceE P T xs l h = some v) (r : Rep ρ E w (.esl xs) u) : OkP P ρ E w (Instr.sliceAt T u lv hv none) v := by
  unfold sliceE at hs
  split at hs
  case isFalse => cases hs
  case isTrue hb =>
    obtain ⟨h1, h2⟩ := hb
    split at hs
    case h_2 => cases hs
    case h_1 e hu =>
      cases hz : sz P e with
      | none => simp [hz] at hs
      | some s =>
        simp only [hz, Option.bind_some] at hs
        simp only [Rep] at r
        obtain ⟨a, cap, rfl, hcap, hr⟩ := r
        have hrun : (Instr.sliceAt T (.slice a xs.length cap) lv hv none).run P w = .ok (.slice (if cap = l then a else a.map (·.add (l * s))) (h - l) (cap - l)) w := by
          simp [Instr.sliceAt, run_underlying hu, Instr.slice, run_bounds (P := P) true hl hh rl rh h1 h2 hcap, run_sz hz]
        refine ⟨_, hrun, ?_⟩
        split at hs
        · rename_i hl0
          subst hl0
          cases hs
          simp only [Rep]
          have ea : (if cap = 0 then a else a.map (·.add (0 * s))) = a := by
            split
            · rfl
            · cases a <;> simp [Addr.add]
          rw [ea]
          refine ⟨a, cap - 0, ?_, ?_, ?_⟩
          · simp only [List.length_take]; congr 1; omega
          · simp only [List.length_take]; omega
          · rcases hr with rfl | ⟨b, off, z, rfl, he, hr⟩
            · left; simp
            · right; exact ⟨b, off, z, rfl, he, hr.take h⟩
        · split at hs
          · rename_i hlh
            cases hx : xs[l]? with
            | none => simp [hx] at hs
            | some c =>
              simp only [hx, Option.bind_some] at hs
              split at hs
              · rename_i hcl
                cases hs
                rcases hr with rfl | ⟨b, off, z, rfl, he, hr⟩
                · simp at hx
                · have hcz : z = s := by rw [← hcl]; exact (hr.get hx).1.symm
                  subst hcz
                  have hne : ¬ cap = l := by omega
                  simp only [Rep]
                  rw [if_neg hne]
                  refine ⟨some ⟨b, off + l * z, none⟩, cap - l, ?_, ?_, .inr ⟨b, off + l * z, z, ?_, he, ?_⟩⟩
                  · simp only [Option.map_some, Addr.add_none, List.length_drop, List.length_take]; congr 1; omega
                  · simp only [List.length_drop, List.length_take]; omega
                  · rfl
                  · have := (hr.take h).drop l (by simp only [List.length_take]; omega)
                    exact this
              · cases hs
          · cases hs
            simp only [Rep]
            exact ⟨_, cap - l, by congr 1; simp; omega, by simp, .inl trivial⟩

theorem ok_sliceO {T : TypeId} {i z off len : Nat} {v : AV} {u : Value} {lo' hi' : Option AV} {lv hv : Option Value} {l h : Nat}
    (hl : lowOf lo' = some l) (hh : highOf len hi' = some h) (rl : RepO ρ E w lo' lv) (rh : RepO ρ E w hi' hv)
    (hs : sliceO P T i z off len l h = some v) (r : Rep ρ E w (.sl i z off len) u) : OkP P ρ E w (Instr.sliceAt T u lv hv none) v := by
  unfold sliceO at hs
  split at hs
  case isFalse => cases hs
  case isTrue hb =>
    obtain ⟨h1, h2⟩ := hb
    split at hs
    case h_2 => cases hs
    case h_1 e hu =>
      cases hz : sz P e with
      | none => simp [hz] at hs
      | some s =>
        simp only [hz, Option.bind_some] at hs
        split at hs
        case isFalse => cases hs
        case isTrue hsz =>
          subst hsz
          simp only [Rep] at r
          obtain ⟨b, cap, hρ, rfl, hcap, c, T', f, hc, hfit⟩ := r
          have hrun : (Instr.sliceAt T (.slice (some ⟨b, off, none⟩) len cap) lv hv none).run P w = .ok (.slice (if cap = l then some ⟨b, off, none⟩ else some (⟨b, off + l * s, none⟩)) (h - l) (cap - l)) w := by
            simp [Instr.sliceAt, run_underlying hu, Instr.slice, run_bounds (P := P) true hl hh rl rh h1 h2 hcap, run_sz hz, Addr.add_none]
          refine ⟨_, hrun, ?_⟩
          split at hs
          · rename_i hl0
            subst hl0
            cases hs
            simp only [Rep]
            refine ⟨b, cap, hρ, ?_, by omega, c, T', f, hc, hfit⟩
            simp
          · split at hs
            · rename_i hlh
              cases hs
              have hne : ¬ cap = l := by omega
              simp only [Rep]
              rw [if_neg hne]
              refine ⟨b, cap - l, hρ, rfl, by omega, c, T', f, hc, ?_⟩
              have : l * s + (cap - l) * s = cap * s := by rw [← Nat.add_mul]; congr 1; omega
              omega
            · cases hs
              simp only [Rep]
              exact ⟨_, cap - l, by congr 1; simp; omega, by simp, .inl trivial⟩

theorem ok_sliceP (inv : Inv lo w0 ρ E H w) {T : TypeId} {i off : Nat} {v : AV} {u : Value} {lo' hi' : Option AV} {lv hv : Option Value} {l : Nat}
    (hl : lowOf lo' = some l) (rl : RepO ρ E w lo' lv) (rh : RepO ρ E w hi' hv)
    (hs : sliceP P H T i off l hi' = some v) (r : Rep ρ E w (.ptr i off) u) : OkP P ρ E w (Instr.sliceAt T u lv hv none) v := by
  unfold sliceP at hs
  split at hs
  case h_2 => cases hs
  case h_1 n e hu =>
    cases hz : sz P e with
    | none => simp [hz] at hs
    | some s =>
      cases hh : highOf n hi' with
      | none => simp [hz, hh] at hs
      | some h =>
        cases hg : getB H i with
        | none => simp [hz, hh, hg] at hs
        | some cs =>
          simp only [hz, hh, hg, Option.bind_some] at hs
          split at hs
          case isFalse => cases hs
          case isTrue hb =>
            obtain ⟨h1, h2, hfit⟩ := hb
            simp only [Rep] at r
            obtain ⟨b, hρ, rfl⟩ := r
            obtain ⟨c, T', hc, hlc, _⟩ := inv.cells hg hρ
            have hrun : (Instr.sliceAt T (.pointer (some ⟨b, off, none⟩)) lv hv none).run P w = .ok (.slice (some (if n = l then ⟨b, off, none⟩ else (⟨b, off + l * s, none⟩))) (h - l) (n - l)) w := by
              simp [Instr.sliceAt, run_underlying hu, Instr.sureAddr, run_bounds (P := P) false hl hh rl rh h1 h2 (Nat.le_refl n), run_sz hz, Addr.add_none]
            refine ⟨_, hrun, ?_⟩
            split at hs
            · rename_i hl0
              subst hl0
              cases hs
              simp only [Rep]
              exact ⟨b, n, hρ, by simp, by omega, c, T', _, hc, by omega⟩
            · split at hs
              · rename_i hlh
                cases hs
                have hne : ¬ n = l := by omega
                simp only [Rep]
                rw [if_neg hne]
                refine ⟨b, n - l, hρ, rfl, by omega, c, T', _, hc, ?_⟩
                have : l * s + (n - l) * s = n * s := by rw [← Nat.add_mul]; congr 1; omega
                omega
              · cases hs
                simp only [Rep]
                exact ⟨_, n - l, by congr 1; simp; omega, by simp, .inl trivial⟩

theorem valOpt_rep {x : Option AV} {v a : Option Value} (h : valOpt x = some a) (r : RepO ρ E w x v) : v = a := by
  unfold valOpt at h
  split at h
  · cases h; simpa [RepO] using r
  · cases h; simp only [RepO, Rep] at r; obtain ⟨u, rfl, rfl⟩ := r; rfl
  · cases h

theorem ok_slice (inv : Inv lo w0 ρ E H w) {T : TypeId} {x v : AV} {u : Value} {lo' hi' mx : Option AV} {lv hv mv : Option Value}
    (rl : RepO ρ E w lo' lv) (rh : RepO ρ E w hi' hv) (rm : RepO ρ E w mx mv) (hs : sliceA P H T x lo' hi' mx = some v) (r : Rep ρ E w x u) : OkP P ρ E w (Instr.sliceAt T u lv hv mv) v := by
  unfold sliceA at hs
  split at hs
  · cases hs
  · simp only [RepO] at rm
    subst rm
    split at hs
    · rename_i xs
      cases hl : lowOf lo' with
      | none => simp [hl] at hs
      | some l =>
        cases hh : highOf xs.length hi' with
        | none => simp [hl, hh] at hs
        | some h => simp only [hl, hh, Option.bind_some] at hs; exact ok_sliceE hl hh rl rh hs r
    · rename_i i z off len
      cases hl : lowOf lo' with
      | none => simp [hl] at hs
      | some l =>
        cases hh : highOf len hi' with
        | none => simp [hl, hh] at hs
        | some h => simp only [hl, hh, Option.bind_some] at hs; exact ok_sliceO hl hh rl rh hs r
    · cases hl : lowOf lo' with
      | none => simp [hl] at hs
      | some l => simp only [hl, Option.bind_some] at hs; exact ok_sliceP inv hl rl rh hs r
    · cases ha : valOpt lo' with
      | none => simp [ha] at hs
      | some a =>
        cases hb : valOpt hi' with
        | none => simp [ha, hb] at hs
        | some b =>
          simp only [ha, hb, Option.bind_some] at hs
          rw [valOpt_rep ha rl, valOpt_rep hb rh]
          simp only [Rep] at r
          subst r
          exact ok_pure_sc hs
    · cases hs

theorem RepM.length : ∀ {xs : List (Value × AV)} {es : List MapEntry}, RepM ρ E w xs es → xs.length = es.length
  | [], es, h => by simp only [RepM] at h; simp [h]
  | (k, v) :: xs, es, h => by
    simp only [RepM] at h
    obtain ⟨e, es', rfl, _, _, h2⟩ := h
    simp [RepM.length h2]

theorem Inv.mapAt (inv : Inv lo w0 ρ E H w) {i b : Nat} {es : List (Value × AV)} (h : getM H i = some es) (hb : ρ i = some b) :
    ∃ arr clk, w.heap[b]? = some (.map arr clk) ∧ RepM ρ E w es arr.toList := inv.blk i (.map es) b (getM_get h) hb

theorem run_getObj_map {b : Nat} {arr : Array MapEntry} {clk : Nat} {w : World} (hm : w.heap[b]? = some (.map arr clk)) : (getObj b).run P w = .ok (.map arr clk) w := by
  simp [getObj, Sem.run, hm]

theorem ok_lenP {T ty : TypeId} {x v : AV} {u : Value} (h : lenP P T x = some v) (r : Rep ρ E w x u) : OkP P ρ E w (Builtin.len_ #[T] ty #[u]) v := by
  unfold lenP at h
  split at h
  case h_1 hu => cases h; simp only [Rep] at r; obtain ⟨_, _, _, rfl, _⟩ := r; exact ok_val (by simp [Builtin.len_, run_underlying hu, goInt])
  case h_2 hu => cases h; simp only [Rep] at r; obtain ⟨_, _, rfl, _⟩ := r; exact ok_val (by simp [Builtin.len_, run_underlying hu, goInt])
  case h_3 hu => cases h; simp only [Rep] at r; subst r; exact ok_val (by simp [Builtin.len_, run_underlying hu, goInt])
  case h_4 hu => cases h; simp only [Rep] at r; subst r; exact ok_val (by simp [Builtin.len_, run_underlying hu, goInt])
  case h_5 es hu =>
    cases h
    simp only [Rep] at r
    obtain ⟨b, arr, clk, rfl, _, hm, hr⟩ := r
    have hl : arr.size = es.length := by rw [← Array.length_toList, hr.length]
    exact ok_val (by simp [Builtin.len_, run_underlying hu, goInt, run_getObj_map hm, hl])
  case h_6 hu => cases h; exact ok_val (by simp [Builtin.len_, run_underlying hu, goInt])
  case h_7 => cases h


theorem ok_len (inv : Inv lo w0 ρ E H w) {T ty : TypeId} {x v : AV} {u : Value} (h : lenA P T H x = some v) (r : Rep ρ E w x u) : OkP P ρ E w (Builtin.len_ #[T] ty #[u]) v := by
  unfold lenA at h
  split at h
  · rename_i i
    cases hg : getM H i with
    | none => simp [hg] at h
    | some es =>
      simp only [hg, Option.bind_some] at h
      unfold lenM at h
      split at h
      · rename_i hu
        cases h
        simp only [Rep] at r
        obtain ⟨b, hb, rfl⟩ := r
        obtain ⟨arr, clk, hm, hr⟩ := inv.mapAt hg hb
        have hl : arr.size = es.length := by rw [← Array.length_toList, hr.length]
        exact ok_val (by simp [Builtin.len_, run_underlying hu, goInt, run_getObj_map hm, hl])
      · cases h
  · exact ok_lenP h r

end
end Go.AM
