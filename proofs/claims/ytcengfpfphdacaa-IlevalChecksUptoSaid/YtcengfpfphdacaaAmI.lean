/-
  Regions that draw their order go as the order of the text does: the proof.
-/
import Derived.Test.YtcengfpfphdacaaAmH
namespace Go.AM

section
variable {lo : Nat → Prop} {w0 : World} {ρ0 : Nat → Option Nat} {E0 : Nat → Prop} {wE : World} {env : Env} {r : Rec} {ops : Array Oper} {vT : Nat → AV} {fr0 : Fr} {frT : Nat → Fr} {HT : Nat → Hp} {Wd : Nat → Bool}

theorem exists_next (C : Nat → Prop) (n : Nat) : ∀ d p, n = p + d → ∃ m, p ≤ m ∧ m ≤ n ∧ (∀ i, p ≤ i → i < m → ¬ C i) ∧ (m = n ∨ C m)
  | 0, p, h => ⟨p, Nat.le_refl _, by omega, fun i h1 h2 => by omega, .inl (by omega)⟩
  | d + 1, p, h => by
    by_cases hc : C p
    · exact ⟨p, Nat.le_refl _, by omega, fun i h1 h2 => by omega, .inr hc⟩
    · obtain ⟨m, h1, h2, h3, h4⟩ := exists_next C n d (p + 1) (by omega)
      refine ⟨m, by omega, h2, fun i hi1 hi2 => ?_, h4⟩
      by_cases e : i = p
      · rw [e]; exact hc
      · exact h3 i (by omega) hi2

theorem Inv.pad {ρ : Nat → Option Nat} {E : Nat → Prop} {H H' : Hp} {w : World} (inv : Inv lo w0 ρ E H w) (hl : H'.n = H'.bs.length) (hn : H.n ≤ H'.n) (hg : ∀ i, i < H.n → H'.get i = H.get i) (hgl : H'.gl = H.gl) : Inv lo w0 ρ E H' w :=
  { gl := gl_mono (ρ := ρ) hgl Ext.refl inv.gl, len := hl, dom := fun i b h => Nat.lt_of_lt_of_le (inv.dom i b h) hn,
    blk := fun i k b hk hb => inv.blk i k b (by rw [← hg i (inv.dom i b hb)]; exact hk) hb,
    inj := fun i j k k' b hk hk' hb hb' => inv.inj i j k k' b (by rw [← hg i (inv.dom i b hb)]; exact hk) (by rw [← hg j (inv.dom j b hb')]; exact hk') hb hb',
    notE := fun i k b hk hb => inv.notE i k b (by rw [← hg i (inv.dom i b hb)]; exact hk) hb,
    bd := inv.bd, ebd := inv.ebd, lole := inv.lole, old := inv.old, io := inv.io }

/-- One heap behind the other by new blocks alone. -/
structure Grows (H H' : Hp) : Prop where
  n : H.n ≤ H'.n
  len : H.n = H.bs.length → H'.n = H'.bs.length
  get : ∀ i, i < H.n → H'.get i = H.get i
  gl : H'.gl = H.gl

theorem Grows.refl (H : Hp) : Grows H H := ⟨Nat.le_refl _, id, fun _ _ => rfl, rfl⟩
theorem Grows.trans {H H' H'' : Hp} (h : Grows H H') (h' : Grows H' H'') : Grows H H'' :=
  ⟨Nat.le_trans h.n h'.n, fun e => h'.len (h.len e), fun i hi => (h'.get i (Nat.lt_of_lt_of_le hi h.n)).trans (h.get i hi), h'.gl.trans h.gl⟩
theorem Grows.push (H : Hp) (k : Blk) : Grows H (H.push k) := ⟨Nat.le_succ _, fun e => Hp.push_len k e, fun _ hi => Hp.get_push_lt k hi, rfl⟩
theorem Grows.le {H H' : Hp} (h : Grows H H') : HLe H H' := ⟨fun i k hk => by rw [h.get i (Hp.get_lt hk)]; exact hk, h.gl⟩

theorem step_small (run : Run env r ops frT HT vT Wd) {i : Nat} {o : Oper} (ho : ops[i]? = some o) (hc : cls env o.op ≠ 3) : Grows (HT i) (HT (i + 1)) := by
  obtain ⟨_, ⟨_, _, he, _⟩ | ⟨_, _, e⟩⟩ := run.step i o ho
  · rcases cls_le3 (env := env) o.op with h | h | h | h
    · rw [(cls0_any h he).1]; exact Grows.refl _
    · rw [(cls1_le h he).1]; exact Grows.refl _
    · obtain ⟨mk, k, _, e, _⟩ := cls2_new h he
      rw [e]; exact Grows.push _ _
    · exact (hc h).elim
  · rw [e]; exact Grows.refl _

theorem grows_between (run : Run env r ops frT HT vT Wd) {p : Nat} : ∀ d, p + d ≤ ops.size → (∀ i o, p ≤ i → i < p + d → ops[i]? = some o → cls env o.op ≠ 3) → Grows (HT p) (HT (p + d))
  | 0, _, _ => Grows.refl _
  | d + 1, hd, h => by
    have ho : ops[p + d]? = some (ops[p + d]'(by omega)) := Array.getElem?_eq_getElem (by omega)
    exact (grows_between run d (by omega) fun i o h1 h2 => h i o h1 (by omega)).trans (step_small run ho (h (p + d) _ (by omega) (by omega) ho))

/-- What holds whatever has come up. -/
structure DI (lo : Nat → Prop) (w0 : World) (ρ0 : Nat → Option Nat) (E0 : Nat → Prop) (wE : World) (env : Env) (ops : Array Oper) (vT : Nat → AV) (fr0 : Fr) (HT : Nat → Hp) (Wd : Nat → Bool) (L : Nat → Bool) (ρ : Nat → Option Nat) (E : Nat → Prop) (p m : Nat) (a : Act) (w : World) : Prop where
  pm : p ≤ m
  mn : m ≤ ops.size
  quiet : ∀ i o, p ≤ i → i < m → ops[i]? = some o → cls env o.op ≠ 3
  past : ∀ i o, i < p → ops[i]? = some o → (cls env o.op = 2 ∨ cls env o.op = 3) → L i = true
  stop : m = ops.size ∨ ∃ o, ops[m]? = some o ∧ cls env o.op = 3 ∧ L m = false
  inv : Inv lo w0 ρ E (HT m) w
  fr : FrRep ρ E w (frUp fr0 ops vT L ops.size) a
  reach : Reach lo ρ0 E0 wE ρ E w
  closed : Closed ops L
  owed : ∀ i o, p ≤ i → i < m → ops[i]? = some o → cls env o.op = 2 → Wd i = true → L i = false → ρ (HT i).n = none

def add (L : Nat → Bool) (i : Nat) : Nat → Bool := fun j => if j = i then true else L j

theorem pairs_of (hok : drawOk env ops = true) {i j : Nat} {x y : Oper} (hij : i < j) (hx : ops[i]? = some x) (hy : ops[j]? = some y) : ((preds ops).getD j []).elem i = true ∨ freeOk env ops x y = true := by
  simp only [drawOk, Bool.and_eq_true] at hok
  have hj : j < ops.size := (Array.getElem?_eq_some_iff.1 hy).1
  have h1 := List.all_eq_true.1 hok.2 j (by simpa using hj)
  have h2 := List.all_eq_true.1 h1 i (by simpa using hij)
  simp only [pairOk, Bool.or_eq_true, hx, hy] at h2
  exact h2

theorem free_writes {x y : Oper} (h : freeOk env ops x y = true) : writesIn x (namesOf ops y) = false ∧ writesIn y (namesOf ops x) = false := by
  simp only [freeOk, Bool.and_eq_true, Bool.not_eq_true'] at h
  exact ⟨h.1.1, h.1.2⟩

theorem free_heap {x y : Oper} (h : freeOk env ops x y = true) : (cls env x.op ≤ 2 ∧ cls env y.op ≤ 2) ∨ cls env x.op = 0 ∨ cls env y.op = 0 ∨ ∃ T s T' t v, x.op = .load T (.tmp s) ∧ y.op = .store T' (.tmp t) v := by
  simp only [freeOk, Bool.and_eq_true, Bool.or_eq_true, Nat.ble_eq] at h
  rcases h.2 with ((h | h) | h) | h
  · exact .inl h
  · exact .inr (.inl (Nat.eq_of_beq_eq_true h))
  · exact .inr (.inr (.inl (Nat.eq_of_beq_eq_true h)))
  · split at h
    · rename_i e1 e2; exact .inr (.inr (.inr ⟨_, _, _, _, _, e1, e2⟩))
    · cases h

theorem free_not3 {x y : Oper} (h : freeOk env ops x y = true) (hx : cls env x.op = 3) (hy : cls env y.op ≠ 0) : False := by
  rcases free_heap h with h | h | h | ⟨T, s, T', t, v, h, _⟩
  · omega
  · omega
  · exact hy h
  · rw [h] at hx; simp [cls] at hx

theorem mem_names {o : Oper} {t : Nat} (h : t ∈ opTmps o) : (namesOf ops o).elem t = true := by
  simp only [namesOf, List.elem_eq_mem, List.mem_append, decide_eq_true_eq]; exact .inr h

theorem writes_of {o : Oper} {t : Nat} {ns : List Nat} (h : o.dst = some t) (hn : ns.elem t = true) : writesIn o ns = true := by simp only [writesIn, h]; exact hn

/-- Of the slots that an operation names: what has been written ahead of it in the text has come up, what is written behind it has not. -/
theorem names_order (hok : drawOk env ops = true) {L : Nat → Bool} (hc : Closed ops L) {i : Nat} {o : Oper} (ho : ops[i]? = some o) (hr : Rdy ops L i) {t : Nat} (ht : (namesOf ops o).elem t = true) :
    (∀ j x, j < i → ops[j]? = some x → x.dst = some t → L j = true) ∧ (∀ j x, i ≤ j → ops[j]? = some x → x.dst = some t → L j = false) := by
  refine ⟨fun j x hj hx hd => ?_, fun j x hj hx hd => ?_⟩
  · rcases pairs_of hok hj hx ho with h | h
    · exact preds_spec hc h (.inr hr)
    · have := (free_writes h).1
      rw [writes_of hd ht] at this; cases this
  · by_cases e : i = j
    · rw [← e]; exact hr.1
    · rcases pairs_of hok (show i < j by omega) ho hx with h | h
      · cases hl : L j with
        | false => rfl
        | true => have := preds_spec hc h (.inl hl); rw [hr.1] at this; cases this
      · have := (free_writes h).2
        rw [writes_of hd ht] at this; cases this

theorem up_agrees (hok : drawOk env ops = true) (run : Run env r ops frT HT vT Wd) (h0 : frT 0 = fr0) {L : Nat → Bool} (hc : Closed ops L) {i : Nat} {o : Oper} (ho : ops[i]? = some o) (hr : Rdy ops L i) {t : Nat} (ht : (namesOf ops o).elem t = true) :
    (frUp fr0 ops vT L ops.size).getD t .undef = (frT i).getD t .undef := by
  obtain ⟨h1, h2⟩ := names_order hok hc ho hr ht
  have hi : i < ops.size := (Array.getElem?_eq_some_iff.1 ho).1
  have e1 := frUp_keep (vT := vT) (fr0 := fr0) h2 ops.size (by omega)
  have e2 := (frUp_text (vT := vT) h0 (fun i o ho => (run.step i o ho).1) i (by omega) h1).1
  simp only [List.getD, e1, e2]

theorem up_add (hok : drawOk env ops = true) {L : Nat → Bool} (hc : Closed ops L) {i : Nat} {o : Oper} (ho : ops[i]? = some o) (hr : Rdy ops L i) :
    frUp fr0 ops vT (add L i) ops.size = putA (frUp fr0 ops vT L ops.size) o.dst (vT i) := by
  have hi : i < ops.size := (Array.getElem?_eq_some_iff.1 ho).1
  apply List.ext_getElem?
  intro t
  by_cases hd : o.dst = some t
  · have ht : (namesOf ops o).elem t = true := by simp [namesOf, hd]
    obtain ⟨_, h2⟩ := names_order hok hc ho hr ht
    have h3 : ∀ j x, i + 1 ≤ j → ops[j]? = some x → x.dst = some t → add L i j = false := fun j x hj hx hdx => by
      simp only [add]; rw [if_neg (by omega)]; exact h2 j x (by omega) hx hdx
    rw [frUp_keep h3 ops.size (by omega)]
    simp only [frUp, ho, add, if_true, cond_true, hd, putA_same, frUp_len]
  · rw [putA_other hd]
    have key : ∀ k, (frUp fr0 ops vT (add L i) k)[t]? = (frUp fr0 ops vT L k)[t]? := by
      intro k
      induction k with
      | zero => rfl
      | succ k ih =>
        simp only [frUp]
        cases hk : ops[k]? with
        | none => exact ih
        | some x =>
          by_cases e : k = i
          · subst e
            rw [ho] at hk; cases hk
            simp only [add, if_true, cond_true, hr.1, cond_false]
            rw [putA_other hd]; exact ih
          · simp only [add, e, if_false]
            cases L k with
            | false => exact ih
            | true =>
              simp only [cond_true]
              by_cases hdx : x.dst = some t
              · simp only [hdx, putA_same, frUp_len]
              · rw [putA_other hdx, putA_other hdx]; exact ih
    exact key ops.size

theorem closed_add {L : Nat → Bool} (hc : Closed ops L) {i : Nat} (hr : Rdy ops L i) : Closed ops (add L i) := by
  intro j o ho hj e he hb
  have : L e.on = true := by
    by_cases ej : j = i
    · subst ej; exact hr.2 o ho e he hb
    · simp only [add, ej, if_false] at hj; exact hc j o ho hj e he hb
  simp only [add]
  split
  · rfl
  · exact this

theorem add_mono {L : Nat → Bool} {i j : Nat} (h : L j = true) : add L i j = true := by simp only [add]; split; rfl; exact h

theorem storeA_put {P : Program} {H H' : Hp} {T : TypeId} {c d : Nat} {y : AV} (h : storeA P H T (.ptr c d) y = some H') : ∃ cs k, getB H c = some cs ∧ H' = H.put c (some k) := by
  unfold storeA at h
  obtain ⟨n, hz, h1⟩ := Option.bind_eq_some_iff.1 h
  obtain ⟨vs, hcs, h2⟩ := Option.bind_eq_some_iff.1 h1
  clear h h1
  have plain : stN H n (.ptr c d) vs = some H' → ∃ cs k, getB H c = some cs ∧ H' = H.put c (some k) := by
    intro h
    simp only [stN] at h
    obtain ⟨cs, hg, h'⟩ := Option.bind_eq_some_iff.1 h
    split at h'
    · cases h'; exact ⟨cs, _, hg, rfl⟩
    · cases h'
  have h := h2
  clear h2
  simp only at h
  split at h
  · rename_i T' d'
    cases hb : (Nat.beq d 0 && Nat.beq n (PG.cellsOf T') && isB H c n && vs.all one) with
    | false => simp only [hb, cond_false] at h; exact plain h
    | true =>
      simp only [hb, cond_true, Option.some.injEq] at h
      simp only [Bool.and_eq_true] at hb
      have hB := hb.1.2
      unfold isB at hB
      cases hg : getB H c with
      | none => rw [hg] at hB; cases hB
      | some cs => exact ⟨cs, _, rfl, h.symm⟩
  · exact plain h

/-- A load whose block no store of the region touches. -/
theorem load_stays (run : Run env r ops frT HT vT Wd) {T : TypeId} {x v : AV} {i m : Nat} (hm : m ≤ ops.size) (hl : loadA env.P (HT i) T x = some v)
    (hst : ∀ j o, i ≤ j → j < m → ops[j]? = some o → cls env o.op = 3 → Wd j = true → ∃ T' t y, o.op = .store T' (.tmp t) y ∧ ((∃ a b c d, x = .ptr a b ∧ (frT j).getD t .undef = .ptr c d ∧ a ≠ c) ∨ ∃ cs, x = .eptr cs)) :
    ∀ d, i + d ≤ m → loadA env.P (HT (i + d)) T x = some v
  | 0, _ => hl
  | d + 1, hd => by
    have ih := load_stays run hm hl hst d (by omega)
    have ho : ops[i + d]? = some (ops[i + d]'(by omega)) := Array.getElem?_eq_getElem (by omega)
    by_cases hc : cls env (ops[i + d]'(by omega)).op = 3
    · obtain ⟨_, ⟨hw, _, he, _⟩ | ⟨_, _, e⟩⟩ := run.step (i + d) _ ho
      · obtain ⟨T', t, y, hop, hx⟩ := hst (i + d) _ (by omega) (by omega) ho hc hw
        rw [hop] at he
        obtain ⟨hs, _⟩ := uA_some (x := storeA env.P (HT (i + d)) T' (opd (frT (i + d)) (.tmp t)) (opd (frT (i + d)) y)) (evOp_some he).2
        rcases hx with ⟨a, b, c, d', rfl, hpt, hne⟩ | ⟨cs, rfl⟩
        · have hx' : opd (frT (i + d)) (.tmp t) = .ptr c d' := hpt
          rw [hx'] at hs
          obtain ⟨cs, vs, hg, heq⟩ := storeA_put hs
          have hget : getB (HT (i + (d + 1))) a = getB (HT (i + d)) a := by
            rw [← Nat.add_assoc, heq]
            simp only [getB]; rw [Hp.get_put_ne _ (Ne.symm hne) (getB_lt hg)]
          have hgetD : datB (HT (i + (d + 1))) a = datB (HT (i + d)) a := by
            rw [← Nat.add_assoc, heq]
            simp only [datB]; rw [Hp.get_put_ne _ (Ne.symm hne) (getB_lt hg)]
          unfold loadA at ih ⊢
          cases ha : aggB env.P T with
          | none => simp [ha] at ih
          | some ag =>
            cases ag with
            | false => simp only [ha, ld1, hget] at ih ⊢; exact ih
            | true =>
              simp only [ha] at ih ⊢
              cases hz2 : sz env.P T with
              | none => simp [hz2] at ih
              | some n2 => simp only [hz2, Option.bind_some, ldN, hget, datAt, hgetD] at ih ⊢; exact ih
        · unfold loadA at ih ⊢
          cases ha : aggB env.P T with
          | none => simp [ha] at ih
          | some ag =>
            cases ag with
            | false => simp only [ha] at ih ⊢; exact ih
            | true => simp only [ha] at ih ⊢; cases hz2 : sz env.P T with
              | none => simp [hz2] at ih
              | some n2 => simp only [hz2, Option.bind_some] at ih ⊢; exact ih
      · rw [← Nat.add_assoc, e]; exact ih
    · exact loadA_le (step_small run ho hc).le ih

end
end Go.AM
