/-
  Regions that draw their order: operations that make a block; heaps that differ by new blocks; operands.
-/
import Derived.Test.YtcengfpfphdacaaAmF
namespace Go.AM

/-- The blocks of one heap are blocks of the other. -/
def HLe (H H' : Hp) : Prop := ∀ i k, H.get i = some k → H'.get i = some k

theorem HLe.getB {H H' : Hp} (h : HLe H H') {i : Nat} {cs : List AV} (hg : getB H i = some cs) : AM.getB H' i = some cs := by
  have := h i _ (getB_get hg)
  simp [AM.getB, this]

theorem HLe.getM {H H' : Hp} (h : HLe H H') {i : Nat} {es : List (Value × AV)} (hg : getM H i = some es) : AM.getM H' i = some es := by
  have := h i _ (getM_get hg)
  simp [AM.getM, this]

theorem ld1_le {H H' : Hp} (h : HLe H H') {x v : AV} (hl : ld1 H x = some v) : ld1 H' x = some v := by
  cases x with
  | ptr i off =>
    simp only [ld1] at hl ⊢
    cases hg : getB H i with
    | none => simp [hg] at hl
    | some cs => rw [h.getB hg]; simpa [hg] using hl
  | _ => exact hl

theorem ldN_le {H H' : Hp} (h : HLe H H') {n : Nat} {x v : AV} (hl : ldN H n x = some v) : ldN H' n x = some v := by
  cases x with
  | ptr i off =>
    simp only [ldN] at hl ⊢
    cases hg : getB H i with
    | none => simp [hg] at hl
    | some cs => rw [h.getB hg]; simpa [hg] using hl
  | _ => exact hl

theorem loadA_le {P : Program} {H H' : Hp} (h : HLe H H') {T : TypeId} {x v : AV} (hl : loadA P H T x = some v) : loadA P H' T x = some v := by
  unfold loadA at hl ⊢
  cases ha : aggB P T with
  | none => simp [ha] at hl
  | some b =>
    cases b with
    | false => simp only [ha] at hl ⊢; exact ld1_le h hl
    | true =>
      simp only [ha] at hl ⊢
      cases hs : sz P T with
      | none => simp [hs] at hl
      | some n => simp only [hs, Option.bind_some] at hl ⊢; exact ldN_le h hl

theorem mapO_le {α β : Type} {f g : α → Option β} (h : ∀ x y, f x = some y → g x = some y) : ∀ {xs : List α} {ys : List β}, mapO f xs = some ys → mapO g xs = some ys
  | [], _, hm => hm
  | x :: xs, ys, hm => by
    simp only [mapO] at hm ⊢
    cases hx : f x with
    | none => simp [hx] at hm
    | some y =>
      cases hr : mapO f xs with
      | none => simp [hx, hr] at hm
      | some zs => rw [h x y hx]; simp [hx, hr] at hm; simp [mapO_le h hr, hm]

theorem expo_le {H H' : Hp} (h : HLe H H') : ∀ (n : Nat) (x y : AV), expo H n x = some y → expo H' n x = some y := by
  intro n
  induction n with
  | zero => intro x y hx; simp [expo] at hx
  | succ n ih =>
    intro x y hx
    simp only [expo] at hx ⊢
    cases x with
    | ptr i off =>
      cases hg : getB H i with
      | none => simp [hg] at hx
      | some cs =>
        cases hm : mapO (expo H n) (cs.drop off) with
        | none => simp [hg, hm] at hx
        | some ys => simp only [h.getB hg, Option.bind_some, mapO_le ih hm]; simpa [hg, hm] using hx
    | sl i z off len =>
      cases hg : getB H i with
      | none => simp [hg] at hx
      | some cs =>
        simp only [hg, h.getB hg, Option.bind_some] at hx ⊢
        split at hx
        · rename_i hf
          rw [if_pos hf]
          cases hm : mapO (expo H n) ((cs.drop off).take (len * z)) with
          | none => simp [hm] at hx
          | some ys => rw [mapO_le ih hm]; simpa [hm] using hx
        · cases hx
    | map i =>
      cases hg : getM H i with
      | none => simp [hg] at hx
      | some es =>
        cases hm : mapO (fun e => (expo H n e.2).map fun v => (e.1, v)) es with
        | none => simp [hg, hm] at hx
        | some ys =>
          have hm' : mapO (fun e => (expo H' n e.2).map fun v => (e.1, v)) es = some ys := mapO_le (fun e y he => by
            cases hv : expo H n e.2 with
            | none => simp [hv] at he
            | some v => rw [ih _ _ hv]; simpa [hv] using he) hm
          simp only [h.getM hg, Option.bind_some, hm']; simpa [hg, hm] using hx
    | func f a b =>
      cases ha : mapO (expo H n) a with
      | none => simp [ha] at hx
      | some a' =>
        cases hb : mapO (expo H n) b with
        | none => simp [ha, hb] at hx
        | some b' => simp only [mapO_le ih ha, mapO_le ih hb, Option.bind_some]; simpa [ha, hb] using hx
    | agg cs =>
      cases ha : mapO (expo H n) cs with
      | none => simp [ha] at hx
      | some a' => simp only [mapO_le ih ha]; simpa [ha] using hx
    | tup cs =>
      cases ha : mapO (expo H n) cs with
      | none => simp [ha] at hx
      | some a' => simp only [mapO_le ih ha]; simpa [ha] using hx
    | _ => exact hx

theorem sliceA_le {P : Program} {H H' : Hp} (h : HLe H H') {T : TypeId} {x v : AV} {lo hi mx : Option AV} (hs : sliceA P H T x lo hi mx = some v) : sliceA P H' T x lo hi mx = some v := by
  cases mx with
  | some m => simp [sliceA] at hs
  | none =>
    cases x with
    | ptr i off =>
      simp only [sliceA] at hs ⊢
      cases hlo : lowOf lo with
      | none => simp [hlo] at hs
      | some l =>
        simp only [hlo, Option.bind_some] at hs ⊢
        unfold sliceP at hs ⊢
        cases hu : P.underlying T with
        | none => simp [hu] at hs
        | some d =>
          cases d <;> simp only [hu] at hs ⊢ <;> (try (cases hs; done))
          rename_i n e'
          cases hz : sz P e' with
          | none => simp [hz] at hs
          | some s =>
            cases hh : highOf n hi with
            | none => simp [hz, hh] at hs
            | some hi' =>
              cases hg : getB H i with
              | none => simp [hz, hh, hg] at hs
              | some cs => simp only [hz, hh, hg, h.getB hg, Option.bind_some] at hs ⊢; exact hs
    | _ => exact hs

theorem entriesOf_le {H H' : Hp} (h : HLe H H') {x : AV} {es : List (Value × AV)} (he : entriesOf H x = some es) : entriesOf H' x = some es := by
  cases x with
  | map i => exact h.getM he
  | _ => exact he

theorem lookupA_le {P : Program} {H H' : Hp} (h : HLe H H') {T : TypeId} {ok : Bool} {x k v : AV} (hl : lookupA P T ok x k H = some v) : lookupA P T ok x k H' = some v := by
  unfold lookupA at hl ⊢
  split at hl
  · rename_i kT eT kv hu
    cases hkd : P.underlying kT with
    | none => simp [hkd] at hl
    | some kd =>
      cases he : entriesOf H x with
      | none => simp [hkd, he] at hl
      | some es =>
        simp only [hkd, he, entriesOf_le h he, Option.bind_some] at hl ⊢
        exact hl
  · cases hl

theorem lenA_le {P : Program} {H H' : Hp} (h : HLe H H') {T : TypeId} {x v : AV} (hl : lenA P T H x = some v) : lenA P T H' x = some v := by
  cases x with
  | map i =>
    simp only [lenA] at hl ⊢
    cases hg : getM H i with
    | none => simp [hg] at hl
    | some es => rw [h.getM hg]; simpa [hg] using hl
  | _ => exact hl

section
variable {env : Env} {r : Rec}

/-- Class 0: the heap is not looked at. -/
theorem cls0_any {fr : Fr} {H H' : Hp} {ty : TypeId} {op : Op} {v : AV} (hc : cls env op = 0) (h : evOp env r fr H ty op = some (v, H')) : H' = H ∧ ∀ H2, evOp env r fr H2 ty op = some (v, H2) := by
  cases op <;> simp only [cls] at hc <;> (try (exact absurd hc (by decide))) <;> simp only [evOp] at h ⊢
  case move => cases h; exact ⟨rfl, fun _ => rfl⟩
  case assign => cases h; exact ⟨rfl, fun _ => rfl⟩
  case makeFunc f a b =>
    unfold makeFuncA at h ⊢
    cases f <;> simp only at h <;> first | cases h
    exact ⟨rfl, fun _ => rfl⟩
  case call c =>
    unfold callOp at h ⊢
    cases hcal : c.callee with
    | value g =>
      simp only [hcal] at hc
      cases g <;> simp only at hc <;> first | (exact absurd hc (by decide)) | skip
      rename_i f
      cases hp : env.isPure f <;> simp [hp] at hc
    | invoke x m => simp only [hcal] at hc; exact absurd hc (by decide)
    | builtin b =>
      simp only [hcal] at hc h ⊢
      cases b <;> simp only at hc <;> first | (exact absurd hc (by decide)) | skip
      · simp only [builtinA, maxOp] at h ⊢
        split at h
        · obtain ⟨hx, rfl⟩ := vA_some h; exact ⟨rfl, fun H2 => by simp [vA, hx]⟩
        · cases h
      · simp only [builtinA, minOp] at h ⊢
        split at h
        · obtain ⟨hx, rfl⟩ := vA_some h; exact ⟨rfl, fun H2 => by simp [vA, hx]⟩
        · cases h
  all_goals (obtain ⟨hx, rfl⟩ := vA_some h; exact ⟨rfl, fun H2 => by simp [vA, hx]⟩)

/-- Class 1: the heap is only looked at. -/
theorem cls1_le {fr : Fr} {H H' : Hp} {ty : TypeId} {op : Op} {v : AV} (hc : cls env op = 1) (h : evOp env r fr H ty op = some (v, H')) : H' = H ∧ ∀ H2, HLe H H2 → evOp env r fr H2 ty op = some (v, H2) := by
  cases op <;> simp only [cls] at hc <;> (try (exact absurd hc (by decide))) <;> simp only [evOp] at h ⊢
  case load T x =>
    obtain ⟨hx, rfl⟩ := vA_some h
    exact ⟨rfl, fun H2 hl => by simp [vA, loadA_le hl hx]⟩
  case slice T x lo hi mx =>
    obtain ⟨hx, rfl⟩ := vA_some h
    refine ⟨rfl, fun H2 hl => ?_⟩
    have : sliceOp env.P fr H2 T x lo hi mx = some v := sliceA_le hl hx
    simp [vA, this]
  case lookup T x k ok =>
    obtain ⟨hx, rfl⟩ := vA_some h
    refine ⟨rfl, fun H2 hl => ?_⟩
    have : lookupA env.P T ok (opd fr x) (opd fr k) H2 = some v := lookupA_le hl hx
    simp [vA, this]
  case call c =>
    unfold callOp at h ⊢
    cases hcal : c.callee with
    | value g =>
      simp only [hcal] at hc h ⊢
      cases g <;> simp only at hc <;> first | (exact absurd hc (by decide)) | skip
      rename_i f
      cases hp : env.isPure f with
      | false => simp [hp] at hc
      | true =>
        simp only [opd, callV, callA, hp, cond_true, List.nil_append, List.append_nil] at h ⊢
        cases ha : mapO (expo H expoDepth) (c.args.toList.map (opd fr)) with
        | none => simp [ha] at h
        | some args' =>
          simp only [ha, Option.bind_some] at h
          cases hcp : callPure r f args' with
          | none => simp [hcp] at h
          | some p =>
            simp only [hcp, Option.bind_some] at h
            cases hfl : (List.all (c.args.toList.map (opd fr)) (ownFree expoDepth) || p.2) with
            | false => simp only [hfl, cond_false] at h; cases h
            | true =>
              simp only [hfl, cond_true, Option.some.injEq, Prod.mk.injEq] at h
              obtain ⟨rfl, rfl⟩ := h
              refine ⟨rfl, fun H2 hl => ?_⟩
              simp only [mapO_le (expo_le hl expoDepth) ha, hcp, Option.bind_some, hfl, cond_true]
    | invoke x m => simp only [hcal] at hc; exact absurd hc (by decide)
    | builtin b =>
      simp only [hcal] at hc h ⊢
      cases b <;> simp only at hc <;> first | (exact absurd hc (by decide)) | skip
      simp only [builtinA, lenOp] at h ⊢
      split at h
      · rename_i x T e1 e2
        obtain ⟨hx, rfl⟩ := vA_some h
        refine ⟨rfl, fun H2 hl => ?_⟩
        have : lenA env.P T H2 x = some v := lenA_le hl hx
        simp [vA, this]
      · cases h

end
end Go.AM
