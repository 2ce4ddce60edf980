/-
  Single operations: copy, maps.
-/
import Derived.Test.YtfdedgmlafelaaaGreatDoorAm9c
set_option linter.unusedVariables false
set_option linter.unusedSimpArgs false
namespace Go.AM
section
variable {P : Program} {lo : Nat → Prop} {w0 : World} {ρ : Nat → Option Nat} {E : Nat → Prop} {H : Hp} {w : World}
theorem ok_copy (inv : Inv lo w0 ρ E H w) {T T2 ty : TypeId} {d x v : AV} {du xu : Value} {H' : Hp} (h : copyA P T d x H = some (v, H')) (rd : Rep ρ E w d du) (rx : Rep ρ E w x xu) :
    OkH P lo w0 ρ E w (Builtin.copy_ #[T, T2] ty #[du, xu]) v H' := by
  unfold copyA at h
  split at h
  case h_2 => cases h
  case h_1 e i z off len hu =>
    cases hs : sz P e with
    | none => simp [hs] at h
    | some s =>
      cases hro : rowsOf s H x with
      | none => simp [hs, hro] at h
      | some p =>
        obtain ⟨src, n⟩ := p
        cases hg : getB H i with
        | none => simp [hs, hg] at h
        | some cs =>
          simp only [hs, hro, hg, Option.bind_some] at h
          split at h
          case isFalse => cases h
          case isTrue hc =>
            obtain ⟨hzs, hfit, hone, _⟩ := hc
            subst hzs
            obtain ⟨s, rfl⟩ : ∃ s, s = z := ⟨_, rfl⟩
            simp only [Option.some.injEq, Prod.mk.injEq] at h
            obtain ⟨rfl, rfl⟩ := h
            obtain ⟨xa, xcap, vs, rfl, hlen, hrl, hcells⟩ := rowsOf_rep inv hro rx
            simp only [Rep] at rd
            obtain ⟨b, cap, hρ, rfl, hcap, c0, T0, f0, hc0, hfit0⟩ := rd
            obtain ⟨c, T', hcell, hlc, hrc⟩ := inv.cells hg hρ
            have hvl : vs.length = n * s := by rw [← hrl.length, hlen]
            have hmin : min n len * s ≤ n * s := Nat.mul_le_mul_right _ (Nat.min_le_left _ _)
            have hvt : (vs.take (min n len * s)).length = min n len * s := by simp; omega
            have hst : stN H (min n len * s) (.ptr i off) (src.take (min n len * s)) = some (H.put i (some (.cells (setCells cs off (src.take (min n len * s)))))) := by
              simp only [stN, hg, Option.bind_some]
              rw [if_pos ⟨by simp; omega, hfit, hone⟩]
            obtain ⟨a, w', e', _, hrun, inv', ext⟩ := ok_stN (P := P) inv hst (u := .pointer (some ⟨b, off, none⟩)) (by simp only [Rep]; exact ⟨b, hρ, rfl⟩) (hrl.take (min n len * s))
            simp only [Value.pointer.injEq, Option.some.injEq] at e'
            subst e'
            refine ⟨.int .i64 (min n len : Nat), w', ρ, ?_, inv', ext, by simp only [Rep]⟩
            have hfirst : (Builtin.firstCells s (min n len) (.slice xa n xcap)).run P w = .ok (vs.take (min n len * s)).toArray w := by
              rcases hcells with rfl | ⟨xb, xoff, rfl, hcs⟩
              · have hz : min n len * s = 0 := by simp at hvl; omega
                cases xa with
                | none => simp [Builtin.firstCells]
                | some xa => simp [Builtin.firstCells, hz, loadCells, loadCellsFrom]
              · have := run_loadCells_list (P := P) w ⟨xb, xoff, none⟩ (vs.take (min n len * s)) (fun j v hv => by
                  rw [Addr.add_none]
                  rw [List.getElem?_take] at hv
                  split at hv
                  · exact hcs j v hv
                  · cases hv)
                rw [hvt] at this
                simpa [Builtin.firstCells] using this
            have hm : Nat.min n len = min n len := rfl
            simp [Builtin.copy_, run_underlying hu, Builtin.lenOf, run_sz hs, hm, hfirst, hrun, goInt]
theorem keyIs_int {kd : TypeDesc} {v : Value} (h : keyIs kd v = true) : (∃ k n, kd = .int k ∧ v = .int k n) ∨ (∃ s, kd = .string ∧ v = .string s) ∨ (∃ b, kd = .bool ∧ v = .bool b) := by
  unfold keyIs at h
  split at h
  · rename_i k k' n
    obtain rfl : k = k' := by simpa using h
    exact .inl ⟨_, _, rfl, rfl⟩
  · exact .inr (.inl ⟨_, rfl, rfl⟩)
  · exact .inr (.inr ⟨_, rfl, rfl⟩)
  · cases h
theorem run_checkKey {kT : TypeId} {kd : TypeDesc} {v : Value} (em : Bool) (hu : P.underlying kT = some kd) (h : keyIs kd v = true) (w : World) : (Instr.checkKey em 10000 kT v).run P w = .ok () w := by
  have key : ∀ n, (Instr.checkKey em (n + 1) kT v).run P w = .ok () w := by
    intro n
    rcases keyIs_int h with ⟨k, n, rfl, rfl⟩ | ⟨s, rfl, rfl⟩ | ⟨b, rfl, rfl⟩ <;> simp [Instr.checkKey, run_underlying hu]
  exact key 9999
theorem sameNow_key {kd : TypeDesc} {a b : Value} (ha : keyIs kd a = true) (hb : keyIs kd b = true) : Instr.sameNow kd a b = some (keyEq a b) := by
  rcases keyIs_int ha with ⟨k, n, rfl, rfl⟩ | ⟨s, rfl, rfl⟩ | ⟨x, rfl, rfl⟩
  · rcases keyIs_int hb with ⟨k', n', e, rfl⟩ | ⟨s, e, rfl⟩ | ⟨x, e, rfl⟩ <;> cases e
    simp [Instr.sameNow, keyEq]
  · rcases keyIs_int hb with ⟨k', n', e, rfl⟩ | ⟨s, e, rfl⟩ | ⟨x, e, rfl⟩ <;> cases e
    simp [Instr.sameNow, keyEq]
  · rcases keyIs_int hb with ⟨k', n', e, rfl⟩ | ⟨s, e, rfl⟩ | ⟨x, e, rfl⟩ <;> cases e
    simp [Instr.sameNow, keyEq]
theorem ba_eq {a b : ByteArray} (h : (a == b) = true) : a = b := by
  have h' : (a.data == b.data) = true := h
  cases a; cases b
  simpa using h'
theorem ba_refl (a : ByteArray) : (a == a) = true := by
  show (a.data == a.data) = true
  simp
theorem sameBits_key {kd : TypeDesc} {a b : Value} (ha : keyIs kd a = true) (hb : keyIs kd b = true) (h : keyEq a b = true) : Instr.sameBits 10000 b a = true := by
  rcases keyIs_int ha with ⟨k, n, rfl, rfl⟩ | ⟨s, rfl, rfl⟩ | ⟨x, rfl, rfl⟩
  · rcases keyIs_int hb with ⟨k', n', e, rfl⟩ | ⟨s, e, rfl⟩ | ⟨x, e, rfl⟩ <;> cases e
    simp only [keyEq, beq_iff_eq] at h; subst h; simp [Instr.sameBits]
  · rcases keyIs_int hb with ⟨k', n', e, rfl⟩ | ⟨s, e, rfl⟩ | ⟨x, e, rfl⟩ <;> cases e
    simp only [keyEq] at h; obtain rfl := ba_eq h; simp [Instr.sameBits, ba_refl]
  · rcases keyIs_int hb with ⟨k', n', e, rfl⟩ | ⟨s, e, rfl⟩ | ⟨x, e, rfl⟩ <;> cases e
    simp only [keyEq, beq_iff_eq] at h; subst h; simp [Instr.sameBits]
theorem findNow_rep {kd : TypeDesc} {k : Value} (hk : keyIs kd k = true) : ∀ {xs : List (Value × AV)} {es : List MapEntry} (n : Nat), RepM ρ E w xs es → xs.all (fun e => keyIs kd e.1) = true →
    (∃ v, findA k xs = some v ∧ ∃ j u, Instr.findNow kd k es n = some (some (n + j, u)) ∧ Rep ρ E w v u ∧ ∃ e, es[j]? = some e ∧ keyEq k e.key = true ∧ keyIs kd e.key = true ∧
      ∀ v' u', Rep ρ E w v' u' → RepM ρ E w (updA k v' xs) (es.set j { e with key := k, val := u' })) ∨
    (findA k xs = none ∧ Instr.findNow kd k es n = some none ∧ ∀ v' u' born, Rep ρ E w v' u' → RepM ρ E w (updA k v' xs) (es ++ [{ key := k, val := u', born := born }]))
  | [], es, n, h, _ => by
    simp only [RepM] at h
    subst h
    refine .inr ⟨rfl, rfl, fun v' u' born hr => ?_⟩
    simp only [updA, List.nil_append, RepM]
    exact ⟨_, [], rfl, rfl, hr, rfl⟩
  | (k', v0) :: xs, es, n, h, hall => by
    simp only [RepM] at h
    obtain ⟨e, es', rfl, hke, hv0, hr⟩ := h
    simp only [List.all_cons, Bool.and_eq_true] at hall
    obtain ⟨hk', hall'⟩ := hall
    subst hke
    have hs := sameNow_key hk hk'
    cases hq : keyEq k e.key with
    | true =>
      refine .inl ⟨v0, by simp [findA, hq], 0, e.val, by simp [Instr.findNow, hs, hq], hv0, e, by simp, hq, hk', fun v' u' hr' => ?_⟩
      simp only [updA, hq, cond_true, List.set_cons_zero, RepM]
      exact ⟨_, es', rfl, rfl, hr', hr⟩
    | false =>
      rcases findNow_rep hk (n + 1) hr hall' with ⟨v, hf, j, u, hfn, hrv, e', he', hke', hkk', hset⟩ | ⟨hf, hfn, hset⟩
      · refine .inl ⟨v, by simp [findA, hq, hf], j + 1, u, by simp [Instr.findNow, hs, hq, hfn]; omega, hrv, e', by simpa using he', hke', hkk', fun v' u' hr' => ?_⟩
        simp only [updA, hq, cond_false, List.set_cons_succ, RepM]
        exact ⟨e, _, rfl, rfl, hv0, hset v' u' hr'⟩
      · refine .inr ⟨by simp [findA, hq, hf], by simp [Instr.findNow, hs, hq, hfn], fun v' u' born hr' => ?_⟩
        simp only [updA, hq, cond_false, List.cons_append, RepM]
        exact ⟨e, _, rfl, rfl, hv0, hset v' u' born hr'⟩
theorem keyArr_some {kd : TypeDesc} {v : Value} (h : keyArr P kd v = true) : ∃ m e k cs, kd = .array m e ∧ v = .agg cs ∧ P.underlying e = some (.int k) ∧ sz P e = some 1 ∧ cs.size = m ∧ ∀ x ∈ cs.toList, ∃ n, x = .int k n := by
  unfold keyArr at h
  split at h
  · rename_i m e cs
    split at h
    · rename_i k hu hz
      simp only [Bool.and_eq_true, List.all_eq_true] at h
      refine ⟨m, e, k, cs, rfl, rfl, hu, hz, Nat.eq_of_beq_eq_true h.1, fun x hx => ?_⟩
      have := h.2 x hx
      unfold isIntK at this
      split at this
      · rename_i k' n
        have hk : k = k' := by simpa using this
        exact ⟨n, by rw [hk]⟩
      · cases this
    · cases h
  · cases h
theorem scal_of {e : TypeId} {d : TypeDesc} (hu : P.underlying e = some d) (h : ∀ fs, d ≠ .struct fs) (h' : ∀ m t, d ≠ .array m t) : aggB P e = some false := by
  unfold aggB
  rw [hu]
  cases d <;> first | rfl | exact absurd rfl (h _) | exact absurd rfl (h' _ _)
theorem run_checkKey_arr {kT : TypeId} {kd : TypeDesc} {v : Value} (em : Bool) (hu : P.underlying kT = some kd) (h : keyArr P kd v = true) (w : World) : (Instr.checkKey em 10000 kT v).run P w = .ok () w := by
  obtain ⟨m, e, k, cs, rfl, rfl, he, hz, hs, hall⟩ := keyArr_some h
  have ha : aggB P e = some false := scal_of he (by intro fs hc; cases hc) (by intro m t hc; cases hc)
  have key : ∀ N, (∀ q, (Instr.checkKey em N e (.int k q)).run P w = .ok () w) → (Instr.checkKey em (N + 1) kT (.agg cs)).run P w = .ok () w := by
    intro N hN
    simp only [Instr.checkKey, Sem.run_bind, run_underlying hu, Result.andThen_ok]
    simp only [Std.Legacy.Range.forIn_eq_forIn_range', Std.Legacy.Range.size, Nat.sub_zero, Nat.add_sub_cancel, Nat.div_one, ← List.range_eq_range']
    have go : ∀ js : List Nat, (∀ j ∈ js, j < m) → (forIn js PUnit.unit (fun i (_ : PUnit) => do
        let __do_lift ← sizeOf e
        let __do_lift ← part e cs (i * __do_lift)
        Instr.checkKey em N e __do_lift
        pure (ForInStep.yield PUnit.unit)) : Sem PUnit).run P w = .ok PUnit.unit w := by
      intro js
      induction js with
      | nil => intro _; simp
      | cons j js ih =>
        intro hj
        have hjm : j < cs.size := by rw [hs]; exact hj j List.mem_cons_self
        obtain ⟨x, hx⟩ : ∃ x, cs[j]? = some x := ⟨cs[j], by simp [hjm]⟩
        obtain ⟨q, rfl⟩ := hall x (List.mem_of_getElem? (by simpa using hx))
        have h1 := run_part1 ha (cs := cs) (off := j * 1) (u := .int k q) (by simpa using hx) w
        rw [List.forIn_cons]
        simp only [Sem.run_bind, run_sz hz, Result.andThen_ok, h1, hN, Sem.run_pure]
        exact ih fun j hj' => hj j (List.mem_cons_of_mem _ hj')
    rw [go (List.range m) fun j hj => List.mem_range.1 hj]
    simp only [Result.andThen_ok, Sem.run_pure]
  have inner : ∀ N q, (Instr.checkKey em (N + 1) e (.int k q)).run P w = .ok () w := fun N q => by simp [Instr.checkKey, run_underlying he]
  exact key 9999 (inner 9998)
theorem eqElems_ints {e : TypeId} {k : IntKind} (d : Nat) (he : P.underlying e = some (.int k)) {us vs : Array Value} (hu : ∀ x ∈ us.toList, ∃ n, x = .int k n) (hv : ∀ x ∈ vs.toList, ∃ n, x = .int k n) (hs : us.size = vs.size) : ∀ (c i : Nat), i + c = us.size →
    (eqElems (d + 1) e 1 us vs (List.range' i c)).run P w = .ok (eqInts (us.toList.drop i) (vs.toList.drop i)) w
  | 0, i, hi => by
    have h1 : us.toList.drop i = [] := List.drop_eq_nil_of_le (by rw [Array.length_toList]; omega)
    have h2 : vs.toList.drop i = [] := List.drop_eq_nil_of_le (by rw [Array.length_toList]; omega)
    rw [h1, h2]
    simp [eqElems, eqInts]
  | c + 1, i, hi => by
    have ha : aggB P e = some false := scal_of he (by intro fs hc; cases hc) (by intro m t hc; cases hc)
    have hil : i < us.size := by omega
    have hil' : i < vs.size := by omega
    obtain ⟨a, ea⟩ := hu us[i] (by simp)
    obtain ⟨b, eb⟩ := hv vs[i] (by simp)
    have h1 := run_part1 ha (cs := us) (off := i * 1) (u := .int k a) (by simp [hil, ea]) w
    have h2 := run_part1 ha (cs := vs) (off := i * 1) (u := .int k b) (by simp [hil', eb]) w
    have h3 : (Op.equalIn (d + 1) e (.int k a) (.int k b)).run P w = .ok (a == b) w := by simp [Op.equalIn, run_underlying he]
    have d1 : us.toList.drop i = .int k a :: us.toList.drop (i + 1) := by rw [List.drop_eq_getElem_cons (by simpa using hil)]; congr 1
    have d2 : vs.toList.drop i = .int k b :: vs.toList.drop (i + 1) := by rw [List.drop_eq_getElem_cons (by simpa using hil')]; congr 1
    rw [List.range'_succ, d1, d2]
    simp only [eqElems, Sem.run_bind, h1, h2, h3, Result.andThen_ok, eqInts]
    cases hab : (a == b) with
    | true => simpa using eqElems_ints d he hu hv hs c (i + 1) (by omega)
    | false => simp
theorem run_equal_arr {kT : TypeId} {kd : TypeDesc} {a b : Value} (hu : P.underlying kT = some kd) (ha : keyArr P kd a = true) (hb : keyArr P kd b = true) (w : World) : (Op.equal kT a b).run P w = .ok (keyEq a b) w := by
  obtain ⟨m, e, k, cs, rfl, rfl, he, hz, hs, hall⟩ := keyArr_some ha
  obtain ⟨m', e', k', cs', hkd, rfl, he', hz', hs', hall'⟩ := keyArr_some hb
  cases hkd
  obtain rfl : k = k' := by rw [he] at he'; cases he'; rfl
  have h1 := run_equalIn_array (P := P) (w := w) 9999 kT e m 1 cs cs' hu hz
  have h2 := eqElems_ints (w := w) 9998 he hall hall' (hs.trans hs'.symm) m 0 (by omega)
  rw [← List.range_eq_range'] at h2
  simp only [List.drop_zero] at h2
  exact h1.trans h2
theorem eqInts_eq {k : IntKind} : ∀ {us vs : List Value}, (∀ x ∈ us, ∃ n, x = .int k n) → (∀ x ∈ vs, ∃ n, x = .int k n) → eqInts us vs = true → us = vs
  | [], [], _, _, _ => rfl
  | [], _ :: _, _, _, h => by simp [eqInts] at h
  | _ :: _, [], _, _, h => by simp [eqInts] at h
  | x :: us, y :: vs, hu, hv, h => by
    obtain ⟨a, rfl⟩ := hu x List.mem_cons_self
    obtain ⟨b, rfl⟩ := hv y List.mem_cons_self
    simp only [eqInts, Bool.and_eq_true, beq_iff_eq] at h
    rw [h.1, eqInts_eq (fun x hx => hu x (List.mem_cons_of_mem _ hx)) (fun x hx => hv x (List.mem_cons_of_mem _ hx)) h.2]
theorem zip_self {α : Type} {p : α × α} : ∀ {l : List α}, p ∈ l.zip l → p.1 = p.2 ∧ p.1 ∈ l
  | [], h => by simp at h
  | x :: l, h => by
    simp only [List.zip_cons_cons, List.mem_cons] at h
    rcases h with rfl | h
    · exact ⟨rfl, List.mem_cons_self⟩
    · exact ⟨(zip_self h).1, List.mem_cons_of_mem _ (zip_self h).2⟩
theorem keyOk_kinds {kd : TypeDesc} {a b : Value} (ha : keyOk P kd a = true) (hb : keyOk P kd b = true) : (keyIs kd a = true ∧ keyIs kd b = true) ∨ (keyArr P kd a = true ∧ keyArr P kd b = true) := by
  simp only [keyOk, Bool.or_eq_true] at ha hb
  rcases ha with ha | ha
  · rcases hb with hb | hb
    · exact .inl ⟨ha, hb⟩
    · obtain ⟨m, e, k, cs, rfl, _⟩ := keyArr_some hb
      rcases keyIs_int ha with ⟨_, _, e, _⟩ | ⟨_, e, _⟩ | ⟨_, e, _⟩ <;> cases e
  · rcases hb with hb | hb
    · obtain ⟨m, e, k, cs, rfl, _⟩ := keyArr_some ha
      rcases keyIs_int hb with ⟨_, _, e, _⟩ | ⟨_, e, _⟩ | ⟨_, e, _⟩ <;> cases e
    · exact .inr ⟨ha, hb⟩
theorem run_checkKey_ok {kT : TypeId} {kd : TypeDesc} {v : Value} (em : Bool) (hu : P.underlying kT = some kd) (h : keyOk P kd v = true) (w : World) : (Instr.checkKey em 10000 kT v).run P w = .ok () w := by
  rcases keyOk_kinds h h with ⟨h, _⟩ | ⟨h, _⟩
  · exact run_checkKey em hu h w
  · exact run_checkKey_arr em hu h w
theorem sameBits_ok {kd : TypeDesc} {a b : Value} (ha : keyOk P kd a = true) (hb : keyOk P kd b = true) (h : keyEq a b = true) : Instr.sameBits 10000 b a = true := by
  rcases keyOk_kinds ha hb with ⟨ha, hb⟩ | ⟨ha, hb⟩
  · exact sameBits_key ha hb h
  · obtain ⟨m, e, k, cs, rfl, rfl, he, hz, hs, hall⟩ := keyArr_some ha
    obtain ⟨m', e', k', cs', hkd, rfl, he', hz', hs', hall'⟩ := keyArr_some hb
    cases hkd
    obtain rfl : k = k' := by rw [he] at he'; cases he'; rfl
    simp only [keyEq] at h
    have hcs : cs = cs' := by
      have := eqInts_eq hall hall' h
      cases cs; cases cs'; simpa using this
    subst hcs
    have key : ∀ n, Instr.sameBits (n + 1) (.agg cs) (.agg cs) = true := by
      intro n
      simp only [Instr.sameBits, beq_self_eq_true, Bool.true_and, List.all_eq_true]
      intro p hp
      obtain ⟨e1, hx⟩ := zip_self hp
      obtain ⟨q, hq⟩ := hall _ hx
      rw [← e1, hq]
      simp [Instr.sameBits]
    exact key 9999
theorem findAsking_rep {kT : TypeId} {kd : TypeDesc} {k : Value} (hu : P.underlying kT = some kd) (hk : keyArr P kd k = true) : ∀ {xs : List (Value × AV)} {es : List MapEntry} (n : Nat), RepM ρ E w xs es → xs.all (fun e => keyOk P kd e.1) = true →
    (∃ v, findA k xs = some v ∧ ∃ j u, (Instr.findAsking kT k es n).run P w = .ok (some (n + j, u)) w ∧ Rep ρ E w v u ∧ ∃ e, es[j]? = some e ∧ keyEq k e.key = true ∧ keyOk P kd e.key = true ∧
      ∀ v' u', Rep ρ E w v' u' → RepM ρ E w (updA k v' xs) (es.set j { e with key := k, val := u' })) ∨
    (findA k xs = none ∧ (Instr.findAsking kT k es n).run P w = .ok none w ∧ ∀ v' u' born, Rep ρ E w v' u' → RepM ρ E w (updA k v' xs) (es ++ [{ key := k, val := u', born := born }]))
  | [], es, n, h, _ => by
    simp only [RepM] at h
    subst h
    refine .inr ⟨rfl, by simp [Instr.findAsking], fun v' u' born hr => ?_⟩
    simp only [updA, List.nil_append, RepM]
    exact ⟨_, [], rfl, rfl, hr, rfl⟩
  | (k', v0) :: xs, es, n, h, hall => by
    simp only [RepM] at h
    obtain ⟨e, es', rfl, hke, hv0, hr⟩ := h
    simp only [List.all_cons, Bool.and_eq_true] at hall
    obtain ⟨hk', hall'⟩ := hall
    subst hke
    have hk2 : keyArr P kd e.key = true := by
      rcases keyOk_kinds (by simp only [keyOk, hk, Bool.or_true] : keyOk P kd k = true) hk' with ⟨h1, _⟩ | ⟨_, h2⟩
      · obtain ⟨m, e, k, cs, rfl, _⟩ := keyArr_some hk
        rcases keyIs_int h1 with ⟨_, _, e, _⟩ | ⟨_, e, _⟩ | ⟨_, e, _⟩ <;> cases e
      · exact h2
    have hs := run_equal_arr hu hk hk2 w
    cases hq : keyEq k e.key with
    | true =>
      rw [hq] at hs
      refine .inl ⟨v0, by simp [findA, hq], 0, e.val, by simp [Instr.findAsking, hs], hv0, e, by simp, hq, hk', fun v' u' hr' => ?_⟩
      simp only [updA, hq, cond_true, List.set_cons_zero, RepM]
      exact ⟨_, es', rfl, rfl, hr', hr⟩
    | false =>
      rw [hq] at hs
      rcases findAsking_rep hu hk (n + 1) hr hall' with ⟨v, hf, j, u, hfn, hrv, e', he', hke', hkk', hset⟩ | ⟨hf, hfn, hset⟩
      · refine .inl ⟨v, by simp [findA, hq, hf], j + 1, u, by simp [Instr.findAsking, hs, hfn]; omega, hrv, e', by simpa using he', hke', hkk', fun v' u' hr' => ?_⟩
        simp only [updA, hq, cond_false, List.set_cons_succ, RepM]
        exact ⟨e, _, rfl, rfl, hv0, hset v' u' hr'⟩
      · refine .inr ⟨by simp [findA, hq, hf], by simp [Instr.findAsking, hs, hfn], fun v' u' born hr' => ?_⟩
        simp only [updA, hq, cond_false, List.cons_append, RepM]
        exact ⟨e, _, rfl, rfl, hv0, hset v' u' born hr'⟩
theorem findKey_rep {kT : TypeId} {kd : TypeDesc} {k : Value} (hu : P.underlying kT = some kd) (hk : keyOk P kd k = true) {xs : List (Value × AV)} {es : List MapEntry} (hr : RepM ρ E w xs es) (hall : xs.all (fun e => keyOk P kd e.1) = true) :
    (∃ v, findA k xs = some v ∧ ∃ j u, (Instr.findKey kT k es).run P w = .ok (some (j, u)) w ∧ Rep ρ E w v u ∧ ∃ e, es[j]? = some e ∧ keyEq k e.key = true ∧ keyOk P kd e.key = true ∧
      ∀ v' u', Rep ρ E w v' u' → RepM ρ E w (updA k v' xs) (es.set j { e with key := k, val := u' })) ∨
    (findA k xs = none ∧ (Instr.findKey kT k es).run P w = .ok none w ∧ ∀ v' u' born, Rep ρ E w v' u' → RepM ρ E w (updA k v' xs) (es ++ [{ key := k, val := u', born := born }])) := by
  rcases keyOk_kinds hk hk with ⟨h, _⟩ | ⟨h, _⟩
  · have hall' : xs.all (fun e => keyIs kd e.1) = true := by
      rw [List.all_eq_true] at hall ⊢
      intro x hx
      rcases keyOk_kinds hk (hall x hx) with ⟨_, h2⟩ | ⟨h1, _⟩
      · exact h2
      · obtain ⟨m, e, k, cs, rfl, _⟩ := keyArr_some h1
        rcases keyIs_int h with ⟨_, _, e, _⟩ | ⟨_, e, _⟩ | ⟨_, e, _⟩ <;> cases e
    rcases findNow_rep h 0 hr hall' with ⟨v1, hf, j, u1, hfn, hrv, e, he, hke, hkk, hst⟩ | ⟨hf, hfn, hst⟩
    · exact .inl ⟨v1, hf, j, u1, by simp [Instr.findKey, run_underlying hu, hfn], hrv, e, he, hke, by simp only [keyOk, hkk, Bool.true_or], hst⟩
    · exact .inr ⟨hf, by simp [Instr.findKey, run_underlying hu, hfn], hst⟩
  · have hfk : (Instr.findKey kT k es).run P w = (Instr.findAsking kT k es 0).run P w := by
      obtain ⟨m, e, k', cs, rfl, rfl, _⟩ := keyArr_some h
      cases es with
      | nil => simp [Instr.findKey, run_underlying hu, Instr.findNow, Instr.findAsking]
      | cons x es => simp [Instr.findKey, run_underlying hu, Instr.findNow, Instr.sameNow]
    rw [hfk]
    have := findAsking_rep hu h 0 hr hall
    simpa only [Nat.zero_add] using this
theorem scalsV_rep : ∀ {cs : List AV} {vs us : List Value}, scalsV cs = some vs → RepL ρ E w cs us → us = vs
  | [], vs, us, h, r => by simp only [scalsV, Option.some.injEq] at h; simp only [RepL] at r; rw [← h, r]
  | c :: cs, vs, us, h, r => by
    cases c <;> simp only [scalsV] at h <;> try (cases h; done)
    rename_i v
    simp only [RepL] at r
    obtain ⟨u, us', rfl, h1, h2⟩ := r
    obtain ⟨vs', hv, rfl⟩ := Option.map_eq_some_iff.1 h
    simp only [Rep] at h1
    rw [h1, scalsV_rep hv h2]
theorem keyV_rep {x : AV} {k u : Value} (h : keyV x = some k) (r : Rep ρ E w x u) : u = k := by
  unfold keyV at h
  split at h
  · cases h; simpa only [Rep] using r
  · obtain ⟨vs, hv, rfl⟩ := Option.map_eq_some_iff.1 h
    simp only [Rep] at r
    obtain ⟨xs, rfl, hr⟩ := r
    have := scalsV_rep hv hr
    rw [← this]
  · cases h
theorem entriesOf_rep (inv : Inv lo w0 ρ E H w) {x : AV} {u : Value} {xs : List (Value × AV)} (h : entriesOf H x = some xs) (r : Rep ρ E w x u) :
    ∃ m arr, u = .map m ∧ RepM ρ E w xs arr.toList ∧ (match m with | none => arr = #[] | some b => ∃ clk, w.heap[b]? = some (.map arr clk)) := by
  unfold entriesOf at h
  split at h
  · simp only [Rep] at r
    obtain ⟨b, hb, rfl⟩ := r
    obtain ⟨arr, clk, hm, hr, _⟩ := inv.mapAt h hb
    exact ⟨some b, arr, rfl, hr, clk, hm⟩
  · unfold entriesP at h
    split at h
    · cases h
      simp only [Rep] at r
      obtain ⟨b, arr, clk, rfl, _, hm, hr, _⟩ := r
      exact ⟨some b, arr, rfl, RepM.mono Ext.up _ _ hr, clk, hm⟩
    · cases h
      simp only [Rep] at r
      subst r
      exact ⟨none, #[], rfl, by simp [RepM], rfl⟩
    · cases h
theorem ok_lookup (inv : Inv lo w0 ρ E H w) {T : TypeId} {ok : Bool} {x k v : AV} {u ku : Value} (h : lookupA P T ok x k H = some v) (r : Rep ρ E w x u) (rk : Rep ρ E w k ku) :
    OkP P ρ E w (Instr.lookup T u ku ok) v := by
  unfold lookupA at h
  split at h
  case h_2 => cases h
  case h_1 kT eT kv hu hkv =>
    obtain rfl := keyV_rep hkv rk
    cases hkd : P.underlying kT with
    | none => simp [hkd] at h
    | some kd =>
      cases he : entriesOf H x with
      | none => simp [hkd, he] at h
      | some xs =>
        simp only [hkd, he, Option.bind_some] at h
        split at h
        case isFalse => cases h
        case isTrue hc =>
          obtain ⟨hkey, hall⟩ := hc
          cases hz : zeroA P eT with
          | none => simp [hz] at h
          | some z =>
            simp only [hz, Option.bind_some] at h
            obtain ⟨_, zv, _, _, hrun, hrep⟩ := zeroA_rep hz
            obtain ⟨m, arr, rfl, hrm, hm⟩ := entriesOf_rep inv he r
            rcases findKey_rep hkd hkey hrm hall with ⟨v1, hf, j, u1, hfn, hrv, _⟩ | ⟨hf, hfn, _⟩
            · simp only [hf, Option.some.injEq] at h
              subst h
              refine ⟨if ok then .tuple #[u1, .bool true] else u1, ?_, ?_⟩
              · cases m with
                | none =>
                  simp only at hm
                  subst hm
                  have hfn := hfn; simp only [Array.toList_empty] at hfn
                  simp [Instr.lookup, run_underlying hu, run_checkKey_ok _ hkd hkey, hfn]
                | some b => obtain ⟨clk, hb⟩ := hm; simp [Instr.lookup, run_underlying hu, run_getObj_map hb, run_checkKey_ok _ hkd hkey, hfn]
              · cases ok
                · simpa using hrv
                · simp only [cond_true, if_true, Rep]
                  exact ⟨_, rfl, RepL.cons hrv (RepL.cons (by simp only [Rep]) RepL.nil)⟩
            · simp only [hf, Option.some.injEq] at h
              subst h
              refine ⟨if ok then .tuple #[zv, .bool false] else zv, ?_, ?_⟩
              · cases m with
                | none =>
                  simp only at hm
                  subst hm
                  have hfn := hfn; simp only [Array.toList_empty] at hfn
                  simp [Instr.lookup, run_underlying hu, run_checkKey_ok _ hkd hkey, hfn, hrun]
                | some b => obtain ⟨clk, hb⟩ := hm; simp [Instr.lookup, run_underlying hu, run_getObj_map hb, run_checkKey_ok _ hkd hkey, hfn, hrun]
              · cases ok
                · simpa using hrep ρ E w
                · simp only [cond_true, if_true, Rep]
                  exact ⟨_, rfl, RepL.cons (hrep ρ E w) (RepL.cons (by simp only [Rep]) RepL.nil)⟩
theorem ok_mapUpdate (inv : Inv lo w0 ρ E H w) {T : TypeId} {x k v : AV} {u ku vu : Value} {H' : Hp} (h : mapUpdateA P T x k v H = some H') (r : Rep ρ E w x u) (rk : Rep ρ E w k ku) (rv : Rep ρ E w v vu) :
    ∃ w', (Instr.mapUpdate T u ku vu).run P w = .ok () w' ∧ Inv lo w0 ρ E H' w' ∧ Ext ρ E w ρ E w' := by
  unfold mapUpdateA at h
  split at h
  case h_2 => cases h
  case h_1 kT eT kv i hu hkv =>
    obtain rfl := keyV_rep hkv rk
    cases hkd : P.underlying kT with
    | none => simp [hkd] at h
    | some kd =>
      cases hg : getM H i with
      | none => simp [hkd, hg] at h
      | some xs =>
        simp only [hkd, hg, Option.bind_some] at h
        split at h
        case isFalse => cases h
        case isTrue hc =>
          obtain ⟨hkey, hall⟩ := hc
          cases h
          simp only [Rep] at r
          obtain ⟨b, hb, rfl⟩ := r
          obtain ⟨arr, clk, hm, hrm, hbo⟩ := inv.mapAt hg hb
          have hlt : b < w.heap.size := (inv.bd i b hb).2
          have hset : ∀ o, (setObj b o).run P w = .ok () { w with heap := w.heap.setIfInBounds b o } := fun o => by simp [setObj, Sem.run, hm]
          have hchange : ∀ (arr' : Array MapEntry) (clk' : Nat), (∀ ρ' E' w', Ext ρ E w ρ' E' w' → RepM ρ' E' w' (updA ku v xs) arr'.toList) → Born arr' clk' →
              Inv lo w0 ρ E (H.put i (some (.map (updA ku v xs)))) { w with heap := w.heap.setIfInBounds b (.map arr' clk') } ∧ Ext ρ E w ρ E { w with heap := w.heap.setIfInBounds b (.map arr' clk') } := by
            intro arr' clk' hr' hbo'
            have hnew : ({ w with heap := w.heap.setIfInBounds b (.map arr' clk') } : World).heap[b]? = some (.map arr' clk') := by simp [hlt]
            exact inv.change i b (.map xs) (.map (updA ku v xs)) (getM_get hg) hb (fun j hj => by simp [Array.getElem?_setIfInBounds_ne (Ne.symm hj)]) (by simp) (fun c T f hcc => by rw [hm] at hcc; cases hcc)
              (fun ext => ⟨arr', clk', hnew, hr' _ _ _ ext, hbo'⟩)
          rcases findKey_rep hkd hkey hrm hall with ⟨v1, hf, j, u1, hfn, _, e, he, hke, hkk, hst⟩ | ⟨hf, hfn, hst⟩
          · have he' : arr[j]? = some e := by simpa using he
            obtain ⟨inv', ext⟩ := hchange (arr.modify j fun e => { e with key := ku, val := vu }) clk (fun ρ' E' w' ext => by
              have := (hst v vu rv).mono ext
              have e1 : (arr.modify j fun e => { e with key := ku, val := vu }).toList = arr.toList.set j { e with key := ku, val := vu } := by
                apply List.ext_getElem?
                intro q
                rw [Array.getElem?_toList, Array.getElem?_modify, List.getElem?_set]
                by_cases hq : j = q
                · subst hq
                  obtain ⟨hjl, hje⟩ := Array.getElem?_eq_some_iff.1 he'
                  simp [hjl, hje]
                · simp [hq]
              rw [e1]; exact this) (fun x hx => by
                obtain ⟨q, hq⟩ := List.mem_iff_getElem?.1 hx
                rw [Array.getElem?_toList, Array.getElem?_modify] at hq
                by_cases hjq : j = q
                · subst hjq
                  rw [if_pos rfl, he'] at hq
                  cases hq
                  exact hbo e (List.mem_of_getElem? he)
                · rw [if_neg hjq] at hq
                  exact hbo x (List.mem_of_getElem? (by rw [Array.getElem?_toList]; exact hq)))
            refine ⟨_, ?_, inv', ext⟩
            have hsb := sameBits_ok hkey hkk hke
            simp [Instr.mapUpdate, run_underlying hu, run_getObj_map hm, run_checkKey_ok _ hkd hkey, hfn, Instr.keyThatStays, he', hsb, hset]
          · obtain ⟨inv', ext⟩ := hchange (arr.push { key := ku, val := vu, born := clk }) (clk + 1) (fun ρ' E' w' ext => by
              have := (hst v vu clk rv).mono ext
              simpa using this) (fun x hx => by
                rw [Array.toList_push, List.mem_append] at hx
                rcases hx with hx | hx
                · have := hbo x hx; omega
                · simp only [List.mem_singleton] at hx; subst hx; exact Nat.lt_succ_self _)
            refine ⟨_, ?_, inv', ext⟩
            simp [Instr.mapUpdate, run_underlying hu, run_getObj_map hm, run_checkKey_ok _ hkd hkey, hfn, hset]
theorem bytesC_rep : ∀ {cs : List AV} {ns : List Int} {vs : List Value}, bytesC cs = some ns → RepL ρ E w cs vs → vs = ns.map (Value.int .u8)
  | [], ns, vs, h, r => by
    simp only [bytesC, Option.some.injEq] at h
    simp only [RepL] at r
    subst h r; rfl
  | c :: cs, ns, vs, h, r => by
    unfold bytesC at h
    split at h
    · rename_i e; cases e
    · rename_i n rr e
      cases e
      obtain ⟨ms, hm, rfl⟩ := Option.map_eq_some_iff.1 h
      simp only [RepL] at r
      obtain ⟨v, vs', rfl, h1, h2⟩ := r
      simp only [Rep] at h1
      subst h1
      rw [bytesC_rep hm h2]; rfl
    · cases h
theorem bytesU_rep : ∀ {l : List AV} {ds : List D} {vs : List Value}, bytesU l = some ds → RepL ρ E w l vs → vs = ds.map fun d => .int .u8 d.toInt
  | [], ds, vs, h, r => by
    simp only [bytesU, Option.some.injEq] at h
    subst h
    simp only [RepL] at r
    exact r
  | x :: l, ds, vs, h, r => by
    simp only [RepL] at r
    obtain ⟨v, vs', rfl, h1, h2⟩ := r
    unfold bytesU at h
    split at h
    · rename_i e; cases e
    · rename_i n rr e
      cases e
      obtain ⟨ms, hm, rfl⟩ := Option.map_eq_some_iff.1 h
      simp only [Rep] at h1
      subst h1
      rw [bytesU_rep hm h2]; rfl
    · rename_i n rr e
      cases e
      obtain ⟨ms, hm, rfl⟩ := Option.map_eq_some_iff.1 h
      simp only [Rep] at h1
      subst h1
      rw [bytesU_rep hm h2]; rfl
    · cases h
theorem text_ints (ds : List D) : D.text (.list ds) = (ds.map D.toInt).foldl (fun r n => r.push (UInt8.ofNat n.toNat)) ByteArray.empty := by
  unfold D.text
  rw [List.foldl_map]
  rfl
theorem ok_textH (inv : Inv lo w0 ρ E H w) {s d : TypeId} {x v : AV} {u : Value} (h : textH P H s d x = some v) (r : Rep ρ E w x u) : OkP P ρ E w (convert s d u) v := by
  unfold textH at h
  split at h
  · rename_i e e1 e2
    split at h
    · rename_i i z off len he
      obtain ⟨p, hp, h⟩ := Option.bind_eq_some_iff.1 h
      obtain ⟨cs, n⟩ := p
      obtain ⟨a, cap, vs, rfl, hlen, hrl, hcells⟩ := rowsOf_rep inv hp r
      obtain ⟨ns, hvs, hv⟩ : ∃ ns : List Int, vs = ns.map (Value.int .u8) ∧ Rep ρ E w v (.string (ns.foldl (fun r n => r.push (UInt8.ofNat n.toNat)) ByteArray.empty)) := by
        cases hc : bytesC cs with
        | some ns =>
          simp only [hc, Option.map_some, orAV, Option.some.injEq] at h
          subst h
          exact ⟨ns, bytesC_rep hc hrl, by simp only [Rep]⟩
        | none =>
          simp only [hc, Option.map_none, orAV] at h
          obtain ⟨ds, hd, rfl⟩ := Option.map_eq_some_iff.1 h
          refine ⟨ds.map D.toInt, ?_, ?_⟩
          · rw [bytesU_rep hd hrl, List.map_map]; rfl
          · simp only [Rep]; rw [qtext_eq, text_ints]
      subst hvs
      have hnl : ns.length = n := by have := hrl.length; simp only [List.length_map] at this; omega
      refine ⟨.string (ns.foldl (fun r n => r.push (UInt8.ofNat n.toNat)) ByteArray.empty), ?_, hv⟩
      rw [run_convert_bytes_string w s d e a _ cap e1 he e2]
      cases a with
      | none =>
        have hl : ns = [] := by
          rcases hcells with h | ⟨_, _, h, _⟩
          · simpa using h
          · cases h
        subst hl
        simp at hnl
        subst hnl
        simp [Conv.bytesToString]
      | some a =>
        have hcell : ∀ (j : Nat) (m : Int), ns[j]? = some m → w.cell? (a.add j) = some (.int .u8 m) := by
          intro j m hj
          rcases hcells with h | ⟨b, off, ha, hb⟩
          · have : ns = [] := by simpa using h
            rw [this] at hj; simp at hj
          · cases ha
            have := hb j (.int .u8 m) (by rw [List.getElem?_map, hj]; rfl)
            unfold Addr.add
            by_cases h0 : j = 0
            · rw [if_pos h0]; subst h0; exact this
            · rw [if_neg h0]; exact this
        have hl := run_loadCells_list (P := P) (w := w) a (ns.map (Value.int .u8)) (fun j v hj => by
          rw [List.getElem?_map] at hj
          cases hd' : ns[j]? with
          | none => rw [hd'] at hj; cases hj
          | some m =>
            rw [hd'] at hj
            simp only [Option.map_some, Option.some.injEq] at hj
            rw [hcell j m hd', hj])
        simp only [List.length_map] at hl
        rw [hnl] at hl
        rw [run_bytesToString w a n cap _ hl]
    · cases h
  · cases h
theorem ok_convH (inv : Inv lo w0 ρ E H w) {s d : TypeId} {x v : AV} {u : Value} (h : convH P H s d x = some v) (r : Rep ρ E w x u) : OkP P ρ E w (convert s d u) v := by
  unfold convH at h
  cases hc : convA P s d x with
  | some v' =>
    rw [hc] at h
    simp only [orAV, Option.some.injEq] at h
    subst h
    exact ok_convert hc r
  | none =>
    rw [hc] at h
    simp only [orAV] at h
    exact ok_textH inv h r
end
end Go.AM
