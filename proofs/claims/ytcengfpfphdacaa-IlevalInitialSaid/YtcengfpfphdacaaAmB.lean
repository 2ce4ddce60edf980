/-
  Calls by contents: what is handed over and what is handed back, seen by its contents.
-/
import Derived.Test.YtcengfpfphdacaaAmA
namespace Go.AM

section
variable {P : Program} {lo : Nat} {w0 : World} {ρ : Nat → Option Nat} {E : Nat → Prop} {H : Hp} {w : World}

/-- The blocks of the running call. -/
def Own (ρ : Nat → Option Nat) (H : Hp) (b : Nat) : Prop := ∃ i k, H.get i = some k ∧ ρ i = some b

theorem RepAt.of {b : Nat} {E : Nat → Prop} : ∀ {ys : List AV} {off : Nat}, (∀ j c, ys[j]? = some c → ∃ v, w.cell? ⟨b, off + j, none⟩ = some v ∧ Rep ρ E w c v) → RepAt ρ E w b off ys
  | [], _, _ => by simp only [RepAt]
  | c :: cs, off, h => by
    simp only [RepAt]
    refine ⟨h 0 c (by simp), RepAt.of fun j x hj => ?_⟩
    have := h (j + 1) x (by simpa using hj)
    rwa [show off + (j + 1) = off + 1 + j from by omega] at this

theorem RepAt.take {b : Nat} {E : Nat → Prop} {ys : List AV} {off : Nat} (n : Nat) (h : RepAt ρ E w b off ys) : RepAt ρ E w b off (ys.take n) :=
  RepAt.of fun j c hj => h.get (by rw [List.getElem?_take] at hj; split at hj; exact hj; cases hj)

theorem chunks_length (z : Nat) : ∀ (n : Nat) (cs : List AV), (chunks z n cs).length = n
  | 0, _ => rfl
  | n + 1, cs => by simp [chunks, chunks_length z n]

theorem chunks_rows {b z : Nat} {E : Nat → Prop} : ∀ {n : Nat} {ys : List AV} {off : Nat}, RepAt ρ E w b off ys → ys.length = n * z → RepRows ρ E w b off z (chunks z n ys)
  | 0, _, _, _, _ => by simp only [chunks, RepRows]
  | n + 1, ys, off, h, hl => by
    rw [Nat.succ_mul] at hl
    simp only [chunks, RepRows]
    exact ⟨by simp; omega, h.take z, chunks_rows (h.drop z) (by simp; omega)⟩

theorem expo_rep (inv : Inv lo w0 ρ E H w) {E1 : Nat → Prop} : ∀ (n : Nat) (x y : AV) (u : Value), expo H n x = some y → Rep ρ E w x u → (ownFree n x = true ∨ ∀ b, Own ρ H b → E1 b) → (extFree H n x = true ∨ ∀ b, E b → E1 b) → Rep nowhere E1 w y u := by
  intro n
  induction n with
  | zero => intro x y u h; simp [expo] at h
  | succ n ih =>
    have ihL : ∀ (xs ys : List AV) (us : List Value), mapO (expo H n) xs = some ys → RepL ρ E w xs us → (xs.all (ownFree n) = true ∨ ∀ b, Own ρ H b → E1 b) → (xs.all (extFree H n) = true ∨ ∀ b, E b → E1 b) → RepL nowhere E1 w ys us := by
      intro xs ys us hm hr ho he
      refine RepL.of ?_ fun j y v hy hv => ?_
      · rw [← mapO_len hm, hr.length]
      · have hjl : j < xs.length := by rw [mapO_len hm]; exact (List.getElem?_eq_some_iff.1 hy).1
        obtain ⟨y', hy', hf⟩ := mapO_get hm (List.getElem?_eq_getElem hjl)
        rw [hy] at hy'; cases hy'
        obtain ⟨v', hv', hrv⟩ := hr.get (List.getElem?_eq_getElem hjl)
        rw [hv] at hv'; cases hv'
        exact ih _ _ _ hf hrv (ho.imp (fun h => List.all_eq_true.1 h _ (List.getElem_mem hjl)) id) (he.imp (fun h => List.all_eq_true.1 h _ (List.getElem_mem hjl)) id)
    have ihC : ∀ (xs ys : List AV) (b off : Nat), mapO (expo H n) xs = some ys → (∀ j c, xs[j]? = some c → ∃ v, w.cell? ⟨b, off + j, none⟩ = some v ∧ Rep ρ E w c v) → (∀ b, Own ρ H b → E1 b) → (xs.all (extFree H n) = true ∨ ∀ b, E b → E1 b) → RepAt nowhere E1 w b off ys := by
      intro xs ys b off hm hc ho he
      refine RepAt.of fun j y hy => ?_
      have hjl : j < xs.length := by rw [mapO_len hm]; exact (List.getElem?_eq_some_iff.1 hy).1
      obtain ⟨y', hy', hf⟩ := mapO_get hm (List.getElem?_eq_getElem hjl)
      rw [hy] at hy'; cases hy'
      obtain ⟨v, hv, hrv⟩ := hc j _ (List.getElem?_eq_getElem hjl)
      exact ⟨v, hv, ih _ _ _ hf hrv (.inr ho) (he.imp (fun h => List.all_eq_true.1 h _ (List.getElem_mem hjl)) id)⟩
    intro x y u h r ho he
    simp only [expo] at h
    cases x with
    | undef => cases h; simp only [Rep]
    | sc v =>
      simp only [Rep] at r
      subst r
      have h' : expoS u = some y := h
      unfold expoS at h'
      split at h'
      · cases h'; simp only [Rep]; exact ⟨none, 0, rfl, Nat.le_refl _, .inl trivial⟩
      · cases h'; simp only [Rep]
    | ptr i off =>
      cases hg : getB H i with
      | none => simp [hg] at h
      | some cs =>
        cases hm : mapO (expo H n) (cs.drop off) with
        | none => simp [hg, hm] at h
        | some ys =>
          simp [hg, hm] at h
          subst h
          have ho' : ∀ b, Own ρ H b → E1 b := ho.resolve_left (by simp [ownFree])
          have he' : (cs.drop off).all (extFree H n) = true ∨ ∀ b, E b → E1 b := he.imp (fun h => by simpa only [extFree, hg] using h) id
          obtain ⟨b, off', rfl, hcell⟩ := contents_at inv (x := .ptr i off) (cs := cs.drop off) (by simp [contents, hg]) r
          simp only [Rep] at r ⊢
          obtain ⟨b0, hb0, e⟩ := r
          simp only [Value.pointer.injEq, Option.some.injEq, Addr.mk.injEq, and_true] at e
          obtain ⟨rfl, rfl⟩ := e
          exact ⟨b, off', rfl, ho' b ⟨i, _, getB_get hg, hb0⟩, ihC _ _ _ _ hm hcell ho' he'⟩
    | eptr cs =>
      cases h
      have he' : ∀ b, E b → E1 b := he.resolve_left (by simp [extFree])
      exact Rep.mono ⟨fun _ _ e => e, he', fun _ _ => rfl, fun _ _ _ _ _ e => (by cases e), Nat.le_refl _⟩ _ _ (by simp only [Rep] at r ⊢; exact r)
    | sl i z off len =>
      cases hg : getB H i with
      | none => simp [hg] at h
      | some cs =>
        simp only [hg, Option.bind_some] at h
        split at h
        case isFalse => cases h
        case isTrue hfit =>
          cases hm : mapO (expo H n) ((cs.drop off).take (len * z)) with
          | none => simp [hm] at h
          | some ys =>
            simp [hm] at h
            subst h
            have ho' : ∀ b, Own ρ H b → E1 b := ho.resolve_left (by simp [ownFree])
            have he' : ((cs.drop off).take (len * z)).all (extFree H n) = true ∨ ∀ b, E b → E1 b := he.imp (fun h => by simpa only [extFree, hg] using h) id
            simp only [Rep] at r ⊢
            obtain ⟨b, cap, hb, rfl, hcap, _⟩ := r
            obtain ⟨b', off', e, hcell⟩ := contents_at inv (x := .ptr i off) (u := .pointer (some ⟨b, off, none⟩)) (cs := cs.drop off) (by simp [contents, hg]) (by simp only [Rep]; exact ⟨b, hb, rfl⟩)
            simp only [Value.pointer.injEq, Option.some.injEq, Addr.mk.injEq, and_true] at e
            obtain ⟨rfl, rfl⟩ := e
            have hat := ihC _ _ b off hm (fun j c hj => hcell j c (by rw [List.getElem?_take] at hj; split at hj; exact hj; cases hj)) ho' he'
            have hyl : ys.length = len * z := by rw [← mapO_len hm]; simp; omega
            refine ⟨some ⟨b, off, none⟩, cap, by rw [chunks_length], by rw [chunks_length]; exact hcap, .inr ⟨b, off, z, rfl, ho' b ⟨i, _, getB_get hg, hb⟩, chunks_rows hat hyl⟩⟩
    | esl xs =>
      cases h
      rcases he with he | he
      · simp only [extFree, List.isEmpty_iff] at he
        subst he
        simp only [Rep] at r ⊢
        obtain ⟨a, cap, hv, hl, _⟩ := r
        exact ⟨a, cap, hv, hl, .inl trivial⟩
      · exact Rep.mono ⟨fun _ _ e => e, he, fun _ _ => rfl, fun _ _ _ _ _ e => (by cases e), Nat.le_refl _⟩ _ _ (by simp only [Rep] at r ⊢; exact r)
    | map i =>
      cases hg : getM H i with
      | none => simp [hg] at h
      | some es =>
        cases hm : mapO (fun e => (expo H n e.2).map fun v => (e.1, v)) es with
        | none => simp [hg, hm] at h
        | some ys =>
          simp [hg, hm] at h
          subst h
          have ho' : ∀ b, Own ρ H b → E1 b := ho.resolve_left (by simp [ownFree])
          have he' : es.all (fun e => extFree H n e.2) = true ∨ ∀ b, E b → E1 b := he.imp (fun h => by simpa only [extFree, hg] using h) id
          simp only [Rep] at r ⊢
          obtain ⟨b, hb, rfl⟩ := r
          obtain ⟨arr, clk, hmm, hrm⟩ := inv.mapAt hg hb
          refine ⟨b, arr, clk, rfl, ho' b ⟨i, _, getM_get hg, hb⟩, hmm, ?_⟩
          have key : ∀ (es : List (Value × AV)) (ys : List (Value × AV)) (ms : List MapEntry), mapO (fun e => (expo H n e.2).map fun v => (e.1, v)) es = some ys → RepM ρ E w es ms →
              (es.all (fun e => extFree H n e.2) = true ∨ ∀ b, E b → E1 b) → RepM nowhere E1 w ys ms := by
            intro es
            induction es with
            | nil => intro ys ms h hr _; simp only [mapO, Option.some.injEq] at h; subst h; simpa only [RepM] using hr
            | cons p es ihe =>
              intro ys ms h hr he
              obtain ⟨k, v⟩ := p
              simp only [mapO] at h
              cases hx : expo H n v with
              | none => simp [hx] at h
              | some v' =>
                cases hr' : mapO (fun e => (expo H n e.2).map fun v => (e.1, v)) es with
                | none => simp [hx, hr'] at h
                | some zs =>
                  simp [hx, hr'] at h
                  subst h
                  simp only [RepM] at hr ⊢
                  obtain ⟨e, es', rfl, hk, hv, hrest⟩ := hr
                  refine ⟨e, es', rfl, hk, ih _ _ _ hx hv (.inr ho') (he.imp (fun h => ?_) id), ihe zs es' hr' hrest (he.imp (fun h => ?_) id)⟩
                  · simp only [List.all_cons, Bool.and_eq_true] at h; exact h.1
                  · simp only [List.all_cons, Bool.and_eq_true] at h; exact h.2
          exact key es ys _ hm hrm he'
    | emap es =>
      cases h
      have he' : ∀ b, E b → E1 b := he.resolve_left (by simp [extFree])
      exact Rep.mono ⟨fun _ _ e => e, he', fun _ _ => rfl, fun _ _ _ _ _ e => (by cases e), Nat.le_refl _⟩ _ _ (by simp only [Rep] at r ⊢; exact r)
    | func f a b =>
      cases ha : mapO (expo H n) a with
      | none => simp [ha] at h
      | some a' =>
        cases hb : mapO (expo H n) b with
        | none => simp [ha, hb] at h
        | some b' =>
          simp [ha, hb] at h
          subst h
          simp only [Rep] at r ⊢
          obtain ⟨xs, ys, rfl, hra, hrb⟩ := r
          have ho1 : (a.all (ownFree n) = true ∨ ∀ b, Own ρ H b → E1 b) ∧ (b.all (ownFree n) = true ∨ ∀ b, Own ρ H b → E1 b) := by
            rcases ho with h | h
            · simp only [ownFree, Bool.and_eq_true] at h; exact ⟨.inl h.1, .inl h.2⟩
            · exact ⟨.inr h, .inr h⟩
          have he1 : (a.all (extFree H n) = true ∨ ∀ b, E b → E1 b) ∧ (b.all (extFree H n) = true ∨ ∀ b, E b → E1 b) := by
            rcases he with h | h
            · simp only [extFree, Bool.and_eq_true] at h; exact ⟨.inl h.1, .inl h.2⟩
            · exact ⟨.inr h, .inr h⟩
          exact ⟨xs, ys, rfl, ihL _ _ _ ha hra ho1.1 he1.1, ihL _ _ _ hb hrb ho1.2 he1.2⟩
    | agg cs =>
      cases ha : mapO (expo H n) cs with
      | none => simp [ha] at h
      | some a' =>
        simp [ha] at h
        subst h
        simp only [Rep] at r ⊢
        obtain ⟨xs, rfl, hra⟩ := r
        exact ⟨xs, rfl, ihL _ _ _ ha hra (ho.imp (fun h => by simpa only [ownFree] using h) id) (he.imp (fun h => by simpa only [extFree] using h) id)⟩
    | tup cs =>
      cases ha : mapO (expo H n) cs with
      | none => simp [ha] at h
      | some a' =>
        simp [ha] at h
        subst h
        simp only [Rep] at r ⊢
        obtain ⟨xs, rfl, hra⟩ := r
        exact ⟨xs, rfl, ihL _ _ _ ha hra (ho.imp (fun h => by simpa only [ownFree] using h) id) (he.imp (fun h => by simpa only [extFree] using h) id)⟩

theorem expoL_rep (inv : Inv lo w0 ρ E H w) {E1 : Nat → Prop} {xs ys : List AV} {us : List Value} {n : Nat} (hm : mapO (expo H n) xs = some ys) (hr : RepL ρ E w xs us) (ho : xs.all (ownFree n) = true ∨ ∀ b, Own ρ H b → E1 b) (he : ∀ b, E b → E1 b) : RepL nowhere E1 w ys us := by
  refine RepL.of ?_ fun j y v hy hv => ?_
  · rw [← mapO_len hm, hr.length]
  · have hjl : j < xs.length := by rw [mapO_len hm]; exact (List.getElem?_eq_some_iff.1 hy).1
    obtain ⟨y', hy', hf⟩ := mapO_get hm (List.getElem?_eq_getElem hjl)
    rw [hy] at hy'; cases hy'
    obtain ⟨v', hv', hrv⟩ := hr.get (List.getElem?_eq_getElem hjl)
    rw [hv] at hv'; cases hv'
    exact expo_rep inv n _ _ _ hf hrv (ho.imp (fun h => List.all_eq_true.1 h _ (List.getElem_mem hjl)) id) (.inr he)

/-- A state of the memory that a run can come to. -/
structure Reach (ρ : Nat → Option Nat) (E : Nat → Prop) (w : World) (ρ' : Nat → Option Nat) (E' : Nat → Prop) (w' : World) : Prop where
  ext : Ext ρ E w ρ' E' w'
  new : ∀ b, E' b → E b ∨ w.heap.size ≤ b

theorem Reach.size {ρ' : Nat → Option Nat} {E' : Nat → Prop} {w' : World} (h : Reach ρ E w ρ' E' w') : w.heap.size ≤ w'.heap.size := h.ext.bigger

theorem Reach.refl : Reach ρ E w ρ E w := ⟨Ext.refl, fun _ h => .inl h⟩

theorem Reach.trans {ρ' ρ'' : Nat → Option Nat} {E' E'' : Nat → Prop} {w' w'' : World} (h : Reach ρ E w ρ' E' w') (h' : Reach ρ' E' w' ρ'' E'' w'') : Reach ρ E w ρ'' E'' w'' :=
  ⟨h.ext.trans h'.ext, fun b hb => by
    rcases h'.new b hb with e | e
    · exact h.new b e
    · exact .inr (Nat.le_trans h.size e)⟩

/-- What the evaluator says of calls holds. -/
def SoundRec (P : Program) (r : Rec) : Prop :=
  ∀ f args H v H', r f args H = some (v, H') → ∀ lo w0 ρ E w (vs : Array Value), Inv lo w0 ρ E H w → RepL ρ E w args vs.toList →
    Calls P f vs w fun e w' => ∃ u ρ' E', e = .returned u ∧ Inv lo w0 ρ' E' H' w' ∧ Reach ρ E w ρ' E' w' ∧ Rep ρ' E' w' v u

theorem Inv.empty (w : World) (E : Nat → Prop) (hE : ∀ b, E b → b < w.heap.size) : Inv w.heap.size w nowhere E Hp.nil w :=
  { len := rfl, dom := fun _ _ e => (by cases e), blk := fun _ _ _ _ e => (by cases e), inj := fun _ _ _ _ _ _ _ e => (by cases e), notE := fun _ _ _ _ e => (by cases e), bd := fun _ _ e => (by cases e), ebd := hE, lole := Nat.le_refl _, old := fun _ _ => rfl, io := ⟨rfl, rfl, rfl⟩, fz := fun _ => rfl }

/-- A call by contents. -/
theorem pure_call {r : Rec} (hr : SoundRec P r) {env : Env} {f : FuncId} {args : List AV} {v : AV} {H' : Hp} (hp : env.isPure f = true) (h : callA env r f args H = some (v, H'))
    (inv : Inv lo w0 ρ E H w) {vs : Array Value} (ra : RepL ρ E w args vs.toList) :
    Calls P f vs w fun e w' => ∃ u ρ' E', e = .returned u ∧ Inv lo w0 ρ' E' H' w' ∧ Reach ρ E w ρ' E' w' ∧ Rep ρ' E' w' v u ∧ ρ' = ρ := by
  unfold callA at h
  simp only [hp, cond_true] at h
  cases ha : mapO (expo H expoDepth) args with
  | none => simp [ha] at h
  | some args' =>
    simp only [ha, Option.bind_some] at h
    unfold callPure at h
    cases hrun : r f args' Hp.nil with
    | none => simp [hrun] at h
    | some p =>
      obtain ⟨raw, Hc⟩ := p
      cases hx : expo Hc expoDepth raw with
      | none => simp [hrun, hx] at h
      | some v' =>
        simp only [hrun, hx, Option.bind_some, Option.map_some] at h
        cases hfl : (args.all (ownFree expoDepth) || extFree Hc expoDepth raw) with
        | false => simp [hfl] at h
        | true =>
          simp only [hfl, cond_true, Option.some.injEq, Prod.mk.injEq] at h
          obtain ⟨rfl, rfl⟩ := h
          -- the callee's outer memory
          have hEc : ∃ Ec : Nat → Prop, (∀ b, Ec b → b < w.heap.size) ∧ RepL nowhere Ec w args' vs.toList ∧ ((∀ b, Ec b → E b) ∨ extFree Hc expoDepth raw = true) := by
            cases ho : args.all (ownFree expoDepth) with
            | true => exact ⟨E, inv.ebd, expoL_rep inv ha ra (.inl ho) (fun _ h => h), .inl fun _ h => h⟩
            | false =>
              refine ⟨fun b => b < w.heap.size, fun _ h => h, expoL_rep inv ha ra (.inr fun b ⟨i, _, _, hb⟩ => (inv.bd i b hb).2) inv.ebd, .inr ?_⟩
              simpa [ho] using hfl
          obtain ⟨Ec, hEcb, hra, hback⟩ := hEc
          refine (hr f args' Hp.nil raw Hc hrun w.heap.size w nowhere Ec w vs (Inv.empty w Ec hEcb) hra).mono ?_
          rintro e w' ⟨u, ρ', E', rfl, inv', reach, hrep⟩
          have hold : ∀ b, b < w.heap.size → w'.heap[b]? = w.heap[b]? := inv'.old
          refine ⟨u, ρ, fun b => E b ∨ (w.heap.size ≤ b ∧ b < w'.heap.size), rfl, ?_, ⟨?_, ?_⟩, ?_, rfl⟩
          · have ext : Ext ρ E w ρ (fun b => E b ∨ (w.heap.size ≤ b ∧ b < w'.heap.size)) w' := Ext.grow (fun _ _ h => h) (fun _ h => .inl h) (fun i b hb => (inv.bd i b hb).2) inv.ebd hold reach.size
            exact { len := inv.len, dom := inv.dom, blk := fun i k b hk hb => (inv.blk i k b hk hb).mono ext (hold b (inv.bd i b hb).2), inj := inv.inj,
                    notE := fun i k b hk hb he => by
                      rcases he with he | he
                      · exact inv.notE i k b hk hb he
                      · have := (inv.bd i b hb).2; omega
                    bd := fun i b hb => ⟨(inv.bd i b hb).1, Nat.lt_of_lt_of_le (inv.bd i b hb).2 reach.size⟩
                    ebd := fun b he => by
                      rcases he with he | he
                      · exact Nat.lt_of_lt_of_le (inv.ebd b he) reach.size
                      · exact he.2
                    lole := Nat.le_trans inv.lole reach.size
                    old := fun b hb => (hold b (Nat.lt_of_lt_of_le hb inv.lole)).trans (inv.old b hb)
                    io := inv.io.trans inv'.io, fz := fun a => (inv'.fz a).trans (inv.fz a) }
          · exact Ext.grow (fun _ _ h => h) (fun _ h => .inl h) (fun i b hb => (inv.bd i b hb).2) inv.ebd hold reach.size
          · intro b hb
            rcases hb with hb | hb
            · exact .inl hb
            · exact .inr hb.1
          · refine Rep.up (expo_rep inv' expoDepth raw v' u hx hrep (.inr fun b ⟨i, _, _, hb⟩ => .inr (inv'.bd i b hb)) ?_)
            rcases hback with hback | hback
            · refine .inr fun b hb => ?_
              rcases reach.new b hb with e | e
              · exact .inl (hback b e)
              · exact .inr ⟨e, inv'.ebd b hb⟩
            · exact .inl hback

theorem any_call {r : Rec} (hr : SoundRec P r) {env : Env} {f : FuncId} {args : List AV} {v : AV} {H' : Hp} (h : callA env r f args H = some (v, H'))
    (inv : Inv lo w0 ρ E H w) {vs : Array Value} (ra : RepL ρ E w args vs.toList) :
    Calls P f vs w fun e w' => ∃ u ρ' E', e = .returned u ∧ Inv lo w0 ρ' E' H' w' ∧ Reach ρ E w ρ' E' w' ∧ Rep ρ' E' w' v u ∧ (env.isPure f = true → ρ' = ρ) := by
  cases hp : env.isPure f with
  | true =>
    refine (pure_call hr hp h inv ra).mono ?_
    rintro e w' ⟨u, ρ', E', he, h1, h2, h3, h4⟩
    exact ⟨u, ρ', E', he, h1, h2, h3, fun _ => h4⟩
  | false =>
    unfold callA at h
    simp only [hp, cond_false] at h
    refine (hr f args H v H' h lo w0 ρ E w vs inv ra).mono ?_
    rintro e w' ⟨u, ρ', E', he, h1, h2, h3⟩
    exact ⟨u, ρ', E', he, h1, h2, h3, fun e => by cases e⟩

end
end Go.AM
