/-
  What abstract values stand for, and that this stands when the world goes on.
-/
import Derived.Test.YtcengfpfphdacaaAm1
namespace Go.AM

/-- No memory of the running call. -/
def nowhere : Nat → Option Nat := fun _ => none

mutual
/-- The abstract value stands for the value. -/
def Rep (ρ : Nat → Option Nat) (E : Nat → Prop) (w : World) : AV → Value → Prop
  | .undef, _ => True
  | .sc x, v => v = x
  | .ptr i off, v => ∃ b, ρ i = some b ∧ v = .pointer (some ⟨b, off, none⟩)
  | .eptr cs, v => ∃ b off, v = .pointer (some ⟨b, off, none⟩) ∧ E b ∧ RepAt nowhere E w b off cs
  | .sl i z off len, v => ∃ b cap, ρ i = some b ∧ v = .slice (some ⟨b, off, none⟩) len cap ∧ len ≤ cap ∧ ∃ c T f, w.heap[b]? = some (.cells c T f) ∧ off + cap * z ≤ c.size
  | .esl xs, v => ∃ a cap, v = .slice a xs.length cap ∧ xs.length ≤ cap ∧ (xs = [] ∨ ∃ b off z, a = some ⟨b, off, none⟩ ∧ E b ∧ RepRows nowhere E w b off z xs)
  | .map i, v => ∃ b, ρ i = some b ∧ v = .map (some b)
  | .emap es, v => ∃ b arr clk, v = .map (some b) ∧ E b ∧ w.heap[b]? = some (.map arr clk) ∧ RepM nowhere E w es arr.toList
  | .func f a b, v => ∃ xs ys, v = .func (.func f) xs ys ∧ RepL ρ E w a xs.toList ∧ RepL ρ E w b ys.toList
  | .agg cs, v => ∃ xs, v = .agg xs ∧ RepL ρ E w cs xs.toList
  | .tup cs, v => ∃ xs, v = .tuple xs ∧ RepL ρ E w cs xs.toList
def RepL (ρ : Nat → Option Nat) (E : Nat → Prop) (w : World) : List AV → List Value → Prop
  | [], vs => vs = []
  | c :: cs, vs => ∃ v vs', vs = v :: vs' ∧ Rep ρ E w c v ∧ RepL ρ E w cs vs'
def RepAt (ρ : Nat → Option Nat) (E : Nat → Prop) (w : World) (b off : Nat) : List AV → Prop
  | [] => True
  | c :: cs => (∃ u, w.cell? ⟨b, off, none⟩ = some u ∧ Rep ρ E w c u) ∧ RepAt ρ E w b (off + 1) cs
def RepRows (ρ : Nat → Option Nat) (E : Nat → Prop) (w : World) (b off z : Nat) : List (List AV) → Prop
  | [] => True
  | x :: xs => x.length = z ∧ RepAt ρ E w b off x ∧ RepRows ρ E w b (off + z) z xs
def RepM (ρ : Nat → Option Nat) (E : Nat → Prop) (w : World) : List (Value × AV) → List MapEntry → Prop
  | [], es => es = []
  | (k, v) :: r, es => ∃ e es', es = e :: es' ∧ e.key = k ∧ Rep ρ E w v e.val ∧ RepM ρ E w r es'
end

/-- One state of the memory behind another. -/
structure Ext (ρ : Nat → Option Nat) (E : Nat → Prop) (w : World) (ρ' : Nat → Option Nat) (E' : Nat → Prop) (w' : World) : Prop where
  map : ∀ i b, ρ i = some b → ρ' i = some b
  ext : ∀ b, E b → E' b
  same : ∀ b, E b → w'.heap[b]? = w.heap[b]?
  size : ∀ i b c T f, ρ i = some b → w.heap[b]? = some (.cells c T f) → ∃ c', w'.heap[b]? = some (.cells c' T f) ∧ c'.size = c.size
  bigger : w.heap.size ≤ w'.heap.size

theorem cell?_same {w w' : World} {b off : Nat} (h : w'.heap[b]? = w.heap[b]?) : w'.cell? ⟨b, off, none⟩ = w.cell? ⟨b, off, none⟩ := by
  simp only [World.cell?, h]

section
variable {ρ : Nat → Option Nat} {E : Nat → Prop} {w : World} {ρ' : Nat → Option Nat} {E' : Nat → Prop} {w' : World}

theorem Ext.refl : Ext ρ E w ρ E w := ⟨fun _ _ h => h, fun _ h => h, fun _ _ => rfl, fun _ _ c _ _ _ h => ⟨c, h, rfl⟩, Nat.le_refl _⟩

theorem Ext.trans {ρ'' : Nat → Option Nat} {E'' : Nat → Prop} {w'' : World} (h : Ext ρ E w ρ' E' w') (h' : Ext ρ' E' w' ρ'' E'' w'') : Ext ρ E w ρ'' E'' w'' :=
  ⟨fun i b e => h'.map i b (h.map i b e), fun b e => h'.ext b (h.ext b e), fun b e => (h'.same b (h.ext b e)).trans (h.same b e),
   fun i b c T f e hc => let ⟨c', hc', hs⟩ := h.size i b c T f e hc; let ⟨c'', hc'', hs'⟩ := h'.size i b c' T f (h.map i b e) hc'; ⟨c'', hc'', hs'.trans hs⟩, Nat.le_trans h.bigger h'.bigger⟩

theorem Ext.none (h : Ext ρ E w ρ' E' w') : Ext nowhere E w nowhere E' w' :=
  ⟨fun _ _ e => e, h.ext, h.same, fun _ _ _ _ _ e => (by cases e), h.bigger⟩

mutual
theorem Rep.mono {ρ : Nat → Option Nat} {E : Nat → Prop} {w : World} {ρ' : Nat → Option Nat} {E' : Nat → Prop} {w' : World} (h : Ext ρ E w ρ' E' w') : ∀ (x : AV) (v : Value), Rep ρ E w x v → Rep ρ' E' w' x v
  | .undef, _, _ => by simp only [Rep]
  | .sc _, _, r => by simp only [Rep] at r ⊢; exact r
  | .ptr i off, _, r => by
    simp only [Rep] at r ⊢
    obtain ⟨b, hb, hv⟩ := r
    exact ⟨b, h.map _ _ hb, hv⟩
  | .eptr cs, _, r => by
    simp only [Rep] at r ⊢
    obtain ⟨b, off, hv, hb, hr⟩ := r
    exact ⟨b, off, hv, h.ext b hb, RepAt.mono h.none b hb cs off hr⟩
  | .sl i z off len, _, r => by
    simp only [Rep] at r ⊢
    obtain ⟨b, cap, hb, hv, hl, c, T, f, hc, hs⟩ := r
    obtain ⟨c', hc', hs'⟩ := h.size i b c T f hb hc
    exact ⟨b, cap, h.map _ _ hb, hv, hl, c', T, f, hc', by omega⟩
  | .esl xs, _, r => by
    simp only [Rep] at r ⊢
    obtain ⟨a, cap, hv, hl, hr⟩ := r
    refine ⟨a, cap, hv, hl, ?_⟩
    rcases hr with hr | ⟨b, off, z, ha, hb, hr⟩
    · exact .inl hr
    · exact .inr ⟨b, off, z, ha, h.ext b hb, RepRows.mono h.none b hb xs off z hr⟩
  | .map i, _, r => by
    simp only [Rep] at r ⊢
    obtain ⟨b, hb, hv⟩ := r
    exact ⟨b, h.map _ _ hb, hv⟩
  | .emap es, _, r => by
    simp only [Rep] at r ⊢
    obtain ⟨b, arr, clk, hv, hb, hm, hr⟩ := r
    exact ⟨b, arr, clk, hv, h.ext b hb, (h.same b hb).trans hm, RepM.mono h.none es _ hr⟩
  | .func f a b, _, r => by
    simp only [Rep] at r ⊢
    obtain ⟨xs, ys, hv, ha, hb⟩ := r
    exact ⟨xs, ys, hv, RepL.mono h a _ ha, RepL.mono h b _ hb⟩
  | .agg cs, _, r => by
    simp only [Rep] at r ⊢
    obtain ⟨xs, hv, ha⟩ := r
    exact ⟨xs, hv, RepL.mono h cs _ ha⟩
  | .tup cs, _, r => by
    simp only [Rep] at r ⊢
    obtain ⟨xs, hv, ha⟩ := r
    exact ⟨xs, hv, RepL.mono h cs _ ha⟩
theorem RepL.mono {ρ : Nat → Option Nat} {E : Nat → Prop} {w : World} {ρ' : Nat → Option Nat} {E' : Nat → Prop} {w' : World} (h : Ext ρ E w ρ' E' w') : ∀ (xs : List AV) (vs : List Value), RepL ρ E w xs vs → RepL ρ' E' w' xs vs
  | [], _, r => by simp only [RepL] at r ⊢; exact r
  | c :: cs, _, r => by
    simp only [RepL] at r ⊢
    obtain ⟨v, vs', hv, h1, h2⟩ := r
    exact ⟨v, vs', hv, Rep.mono h c v h1, RepL.mono h cs vs' h2⟩
theorem RepAt.mono {ρ : Nat → Option Nat} {E : Nat → Prop} {w : World} {ρ' : Nat → Option Nat} {E' : Nat → Prop} {w' : World} (h : Ext ρ E w ρ' E' w') (b : Nat) (hb : E b) : ∀ (xs : List AV) (off : Nat), RepAt ρ E w b off xs → RepAt ρ' E' w' b off xs
  | [], _, _ => by simp only [RepAt]
  | c :: cs, off, r => by
    simp only [RepAt] at r ⊢
    obtain ⟨⟨u, hu, h1⟩, h2⟩ := r
    exact ⟨⟨u, (cell?_same (h.same b hb)).trans hu, Rep.mono h c u h1⟩, RepAt.mono h b hb cs (off + 1) h2⟩
theorem RepRows.mono {ρ : Nat → Option Nat} {E : Nat → Prop} {w : World} {ρ' : Nat → Option Nat} {E' : Nat → Prop} {w' : World} (h : Ext ρ E w ρ' E' w') (b : Nat) (hb : E b) : ∀ (xs : List (List AV)) (off z : Nat), RepRows ρ E w b off z xs → RepRows ρ' E' w' b off z xs
  | [], _, _, _ => by simp only [RepRows]
  | x :: xs, off, z, r => by
    simp only [RepRows] at r ⊢
    obtain ⟨h1, h2, h3⟩ := r
    exact ⟨h1, RepAt.mono h b hb x off h2, RepRows.mono h b hb xs (off + z) z h3⟩
theorem RepM.mono {ρ : Nat → Option Nat} {E : Nat → Prop} {w : World} {ρ' : Nat → Option Nat} {E' : Nat → Prop} {w' : World} (h : Ext ρ E w ρ' E' w') : ∀ (xs : List (Value × AV)) (es : List MapEntry), RepM ρ E w xs es → RepM ρ' E' w' xs es
  | [], _, r => by simp only [RepM] at r ⊢; exact r
  | (k, v) :: xs, _, r => by
    simp only [RepM] at r ⊢
    obtain ⟨e, es', he, hk, h1, h2⟩ := r
    exact ⟨e, es', he, hk, Rep.mono h v e.val h1, RepM.mono h xs es' h2⟩
end

theorem Ext.up : Ext nowhere E w ρ E w := ⟨fun _ _ e => (by cases e), fun _ h => h, fun _ _ => rfl, fun _ _ _ _ _ e => (by cases e), Nat.le_refl _⟩

theorem Rep.up {x : AV} {v : Value} (h : Rep nowhere E w x v) : Rep ρ E w x v := Rep.mono Ext.up x v h

theorem RepL.length : ∀ {xs : List AV} {vs : List Value}, RepL ρ E w xs vs → xs.length = vs.length
  | [], vs, h => by simp only [RepL] at h; simp [h]
  | c :: cs, vs, h => by
    simp only [RepL] at h
    obtain ⟨v, vs', rfl, _, h2⟩ := h
    simp [RepL.length h2]

theorem RepL.cons {x : AV} {xs : List AV} {v : Value} {vs : List Value} (h : Rep ρ E w x v) (h' : RepL ρ E w xs vs) : RepL ρ E w (x :: xs) (v :: vs) := by
  simp only [RepL]; exact ⟨v, vs, rfl, h, h'⟩

theorem RepL.nil : RepL ρ E w [] [] := by simp only [RepL]

theorem RepL.get : ∀ {xs : List AV} {vs : List Value}, RepL ρ E w xs vs → ∀ {i : Nat} {x : AV}, xs[i]? = some x → ∃ v, vs[i]? = some v ∧ Rep ρ E w x v
  | [], _, _, i, x, hi => by simp at hi
  | c :: cs, vs, h, i, x, hi => by
    simp only [RepL] at h
    obtain ⟨v, vs', rfl, h1, h2⟩ := h
    cases i with
    | zero => simp at hi; subst hi; exact ⟨v, by simp, h1⟩
    | succ i => simp at hi; obtain ⟨u, hu, hr⟩ := RepL.get h2 hi; exact ⟨u, by simpa using hu, hr⟩

theorem RepL.of : ∀ {xs : List AV} {vs : List Value}, xs.length = vs.length → (∀ (i : Nat) (x : AV) (v : Value), xs[i]? = some x → vs[i]? = some v → Rep ρ E w x v) → RepL ρ E w xs vs
  | [], vs, h, _ => by cases vs with | nil => exact RepL.nil | cons _ _ => simp at h
  | c :: cs, vs, h, hh => by
    cases vs with
    | nil => simp at h
    | cons v vs => exact RepL.cons (hh 0 c v (by simp) (by simp)) (RepL.of (by simpa using h) fun i x u h1 h2 => hh (i + 1) x u (by simpa using h1) (by simpa using h2))

theorem RepL.app : ∀ {xs ys : List AV} {vs us : List Value}, RepL ρ E w xs vs → RepL ρ E w ys us → RepL ρ E w (xs ++ ys) (vs ++ us)
  | [], _, _, _, h, h' => by simp only [RepL] at h; subst h; simpa using h'
  | c :: cs, _, _, _, h, h' => by
    simp only [RepL] at h
    obtain ⟨v, vs', rfl, h1, h2⟩ := h
    exact RepL.cons h1 (RepL.app h2 h')

theorem RepL.take : ∀ {xs : List AV} {vs : List Value} (n : Nat), RepL ρ E w xs vs → RepL ρ E w (xs.take n) (vs.take n)
  | _, _, 0, _ => by simpa using RepL.nil
  | [], _, n + 1, h => by simp only [RepL] at h; subst h; simpa using RepL.nil
  | c :: cs, _, n + 1, h => by
    simp only [RepL] at h
    obtain ⟨v, vs', rfl, h1, h2⟩ := h
    exact RepL.cons h1 (RepL.take n h2)

theorem RepL.drop : ∀ {xs : List AV} {vs : List Value} (n : Nat), RepL ρ E w xs vs → RepL ρ E w (xs.drop n) (vs.drop n)
  | _, _, 0, h => by simpa using h
  | [], _, n + 1, h => by simp only [RepL] at h; subst h; simpa using RepL.nil
  | c :: cs, _, n + 1, h => by
    simp only [RepL] at h
    obtain ⟨v, vs', rfl, h1, h2⟩ := h
    simpa using RepL.drop n h2

theorem RepL.sc (vs : List Value) : RepL ρ E w (vs.map .sc) vs := by
  induction vs with
  | nil => exact RepL.nil
  | cons v vs ih => exact RepL.cons (by simp only [Rep]) ih

theorem RepAt.get {b : Nat} : ∀ {xs : List AV} {off : Nat}, RepAt ρ E w b off xs → ∀ {i : Nat} {x : AV}, xs[i]? = some x → ∃ v, w.cell? ⟨b, off + i, none⟩ = some v ∧ Rep ρ E w x v
  | [], _, _, i, x, hi => by simp at hi
  | c :: cs, off, h, i, x, hi => by
    simp only [RepAt] at h
    obtain ⟨⟨u, hu, h1⟩, h2⟩ := h
    cases i with
    | zero => simp at hi; subst hi; exact ⟨u, by simpa using hu, h1⟩
    | succ i => simp at hi; obtain ⟨u, hu, hr⟩ := RepAt.get h2 hi; exact ⟨u, by rw [show off + (i + 1) = off + 1 + i from by omega]; exact hu, hr⟩

theorem RepAt.drop {b : Nat} : ∀ {xs : List AV} {off : Nat} (n : Nat), RepAt ρ E w b off xs → RepAt ρ E w b (off + n) (xs.drop n)
  | _, _, 0, h => by simpa using h
  | [], _, n + 1, _ => by simp only [List.drop_nil, RepAt]
  | c :: cs, off, n + 1, h => by
    simp only [RepAt] at h
    have := RepAt.drop n h.2
    rw [show off + (n + 1) = off + 1 + n from by omega]
    simpa using this

theorem RepRows.get {b z : Nat} : ∀ {xs : List (List AV)} {off : Nat}, RepRows ρ E w b off z xs → ∀ {i : Nat} {x : List AV}, xs[i]? = some x → x.length = z ∧ RepAt ρ E w b (off + i * z) x
  | [], _, _, i, x, hi => by simp at hi
  | c :: cs, off, h, i, x, hi => by
    simp only [RepRows] at h
    obtain ⟨h1, h2, h3⟩ := h
    cases i with
    | zero => simp at hi; subst hi; exact ⟨h1, by simpa using h2⟩
    | succ i =>
      simp at hi
      obtain ⟨k1, k2⟩ := RepRows.get h3 hi
      exact ⟨k1, by rw [show off + (i + 1) * z = off + z + i * z from by rw [Nat.succ_mul]; omega]; exact k2⟩

theorem RepRows.drop {b z : Nat} : ∀ {xs : List (List AV)} {off : Nat} (n : Nat), RepRows ρ E w b off z xs → n ≤ xs.length → RepRows ρ E w b (off + n * z) z (xs.drop n)
  | _, _, 0, h, _ => by simpa using h
  | [], _, n + 1, _, hn => by simp at hn
  | c :: cs, off, n + 1, h, hn => by
    simp only [RepRows] at h
    have := RepRows.drop n h.2.2 (by simpa using hn)
    rw [show off + (n + 1) * z = off + z + n * z from by rw [Nat.succ_mul]; omega]
    simpa using this

theorem RepRows.take {b z : Nat} : ∀ {xs : List (List AV)} {off : Nat} (n : Nat), RepRows ρ E w b off z xs → RepRows ρ E w b off z (xs.take n)
  | _, _, 0, _ => by simp only [List.take_zero, RepRows]
  | [], _, n + 1, _ => by simp only [List.take_nil, RepRows]
  | c :: cs, off, n + 1, h => by
    simp only [RepRows] at h
    simp only [List.take_succ_cons, RepRows]
    exact ⟨h.1, h.2.1, RepRows.take n h.2.2⟩

theorem Rep.ofV (v : Value) : Rep ρ E w (ofV v) v := by
  cases v <;> simp only [AM.ofV, Rep]
  case agg cs => exact ⟨cs, rfl, RepL.sc _⟩
  case tuple cs => exact ⟨cs, rfl, RepL.sc _⟩

theorem pureRun_run {α : Type} {P : Program} : ∀ {s : Sem α} {a : α}, pureRun P s = some a → ∀ w, s.run P w = .ok a w
  | .pure _, _, h, w => by simp only [pureRun, Option.some.injEq] at h; subst h; simp [Sem.run]
  | .program k, _, h, w => by simp only [pureRun] at h; simp only [Sem.run]; exact pureRun_run h w
  | .load .., _, h, _ => by simp [pureRun] at h
  | .store .., _, h, _ => by simp [pureRun] at h
  | .new .., _, h, _ => by simp [pureRun] at h
  | .shape .., _, h, _ => by simp [pureRun] at h
  | .freeze .., _, h, _ => by simp [pureRun] at h
  | .frozen .., _, h, _ => by simp [pureRun] at h
  | .getObj .., _, h, _ => by simp [pureRun] at h
  | .setObj .., _, h, _ => by simp [pureRun] at h
  | .choose .., _, h, _ => by simp [pureRun] at h
  | .sys .., _, h, _ => by simp [pureRun] at h
  | .mark .., _, h, _ => by simp [pureRun] at h
  | .halt .., _, h, _ => by simp [pureRun] at h

end
end Go.AM
