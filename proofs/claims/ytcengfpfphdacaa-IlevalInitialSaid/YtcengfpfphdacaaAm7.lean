/-
  Single operations: arithmetic, parts of values, slices of slices, lengths.
-/
import Derived.Test.YtcengfpfphdacaaAm6
namespace Go.AM

section
variable {P : Program} {lo : Nat} {w0 : World} {ρ : Nat → Option Nat} {E : Nat → Prop} {H : Hp} {w : World}

theorem ok_pure_map {s : Sem Value} {v : AV} (h : (pureRun P s).map ofV = some v) : OkP P ρ E w s v := by
  cases hp : pureRun P s with
  | none => simp [hp] at h
  | some u => simp [hp] at h; subst h; exact ⟨u, pureRun_run hp w, Rep.ofV u⟩

theorem ok_pure_sc {s : Sem Value} {v : AV} (h : (pureRun P s).map .sc = some v) : OkP P ρ E w s v := by
  cases hp : pureRun P s with
  | none => simp [hp] at h
  | some u => simp [hp] at h; subst h; exact ⟨u, pureRun_run hp w, by simp only [Rep]⟩

theorem ok_unary {op : UnOp} {x v : AV} {u : Value} (h : unA P op x = some v) (r : Rep ρ E w x u) : OkP P ρ E w (Op.unary op u) v := by
  unfold unA at h
  split at h
  · simp only [Rep] at r; subst r; exact ok_pure_map h
  · cases h

theorem ok_convert {s d : TypeId} {x v : AV} {u : Value} (h : convA P s d x = some v) (r : Rep ρ E w x u) : OkP P ρ E w (convert s d u) v := by
  unfold convA at h
  split at h
  · simp only [Rep] at r; subst r; exact ok_pure_map h
  · cases h

theorem run_eqGuard_int (op : BinOp) (T : TypeId) (x y : Operand) (k k' : IntKind) (a b : Int) (w : World) : (eqGuard op T x y (.int k a) (.int k' b)).run P w = .ok () w := by
  cases op <;> simp [eqGuard]

theorem run_eqGuard_other (op : BinOp) (T : TypeId) (x y : Operand) (a b : Value) (ha : ∀ cs, a ≠ .agg cs) (hi : a ≠ .nilIface) (w : World) : (eqGuard op T x y a b).run P w = .ok () w := by
  cases op <;> simp only [eqGuard] <;> (try simp) <;> (cases a <;> first | (exact (ha _ rfl).elim) | (exact (hi rfl).elim) | simp)

theorem ok_val {s : Sem Value} {u : Value} (h : s.run P w = .ok u w) : OkP P ρ E w s (.sc u) := ⟨u, h, by simp only [Rep]⟩

theorem leI_eq (a b : Int) : leI a b = decide (a ≤ b) := by
  cases a with
  | ofNat a =>
    cases b with
    | ofNat b =>
      rw [Bool.eq_iff_iff]
      simp only [leI, Nat.ble_eq, decide_eq_true_eq, Int.ofNat_eq_natCast]
      omega
    | negSucc b =>
      rw [Bool.eq_iff_iff]
      simp only [leI, decide_eq_true_eq, Int.ofNat_eq_natCast, Bool.false_eq_true, false_iff]
      omega
  | negSucc a =>
    cases b with
    | ofNat b =>
      rw [Bool.eq_iff_iff]
      simp only [leI, decide_eq_true_eq, Int.ofNat_eq_natCast, true_iff]
      omega
    | negSucc b =>
      rw [Bool.eq_iff_iff]
      simp only [leI, Nat.ble_eq, decide_eq_true_eq]
      omega

theorem not_leI (a b : Int) : (!leI a b) = decide (b < a) := by
  rw [leI_eq, Bool.eq_iff_iff]
  simp only [Bool.not_eq_true', decide_eq_false_iff_not, decide_eq_true_eq]
  omega

theorem ok_intBin {op : BinOp} {k : IntKind} {a b : Int} {v : AV} (T : TypeId) (h : intBin op k a b = some v) : OkP P ρ E w (binOp op T (.int k a) (.int k b)) v := by
  cases op <;> simp only [intBin, not_leI] at h <;> (try simp only [leI_eq] at h)
  case quo =>
    split at h
    · cases h
    · rename_i hb
      cases h
      exact ok_val (by simp [binOp, Op.intDiv, hb])
  case rem =>
    split at h
    · cases h
    · rename_i hb
      cases h
      exact ok_val (by simp [binOp, Op.intDiv, hb])
  all_goals first | (cases h; exact ok_val (by simp [binOp, Op.intArith, Op.intCmp, Op.intBits])) | cases h

theorem ok_shiftBin {op : BinOp} {k k' : IntKind} {a b : Int} {v : AV} (T : TypeId) (hs : isShift op = true) (h : shiftBin op k a b = some v) : OkP P ρ E w (binOp op T (.int k a) (.int k' b)) v := by
  unfold shiftBin at h
  split at h
  · cases h
  · rename_i hb
    cases op
    case shl => simp only [Option.some.injEq] at h; subst h; exact ok_val (by simp [binOp, Op.shift, hb])
    case shr => simp only [Option.some.injEq] at h; subst h; exact ok_val (by simp [binOp, Op.shift, hb])
    all_goals simp [isShift] at hs

theorem ok_strBin {op : BinOp} {a b : ByteArray} {v : AV} (T : TypeId) (h : strBin op a b = some v) : OkP P ρ E w (binOp op T (.string a) (.string b)) v := by
  cases op <;> simp only [strBin] at h
  case add =>
    split at h
    · cases h
    · rename_i hb
      cases h
      exact ok_val (by
        have hb' : ¬ (IntKind.i64.max < ((a.size + b.size : Nat) : Int)) := by simp only [IntKind.max, IntKind.bits, IntKind.signed]; simpa using hb
        simp only [binOp, Op.stringOp]
        rw [if_neg (by simpa using hb')]
        simp)
  all_goals first | (cases h; exact ok_val (by simp [binOp, Op.stringOp])) | cases h

theorem run_equal_bool {T : TypeId} (hu : P.underlying T = some .bool) (a b : Bool) (w : World) : (Op.equal T (.bool a) (.bool b)).run P w = .ok (a == b) w := by
  have key : ∀ d, (Op.equalIn (d + 1) T (.bool a) (.bool b)).run P w = .ok (a == b) w := fun d => by simp [Op.equalIn, run_underlying hu]
  exact key 9999

theorem run_equal_ptr {T e : TypeId} (hu : P.underlying T = some (.pointer e)) (a : Option Addr) (w : World) : (Op.equal T (.pointer a) (.pointer none)).run P w = .ok a.isNone w := by
  have key : ∀ d, (Op.equalIn (d + 1) T (.pointer a) (.pointer none)).run P w = .ok a.isNone w := fun d => by cases a <;> simp [Op.equalIn, run_underlying hu]
  exact key 9999

theorem run_equal_slice {T e : TypeId} (hu : P.underlying T = some (.slice e)) (a : Option Addr) (l c l' c' : Nat) (w : World) : (Op.equal T (.slice a l c) (.slice none l' c')).run P w = .ok a.isNone w := by
  have key : ∀ d, (Op.equalIn (d + 1) T (.slice a l c) (.slice none l' c')).run P w = .ok a.isNone w := fun d => by cases a <;> simp [Op.equalIn, run_underlying hu]
  exact key 9999

theorem run_equal_map {T k e : TypeId} (hu : P.underlying T = some (.map k e)) (a : Option Nat) (w : World) : (Op.equal T (.map a) (.map none)).run P w = .ok a.isNone w := by
  have key : ∀ d, (Op.equalIn (d + 1) T (.map a) (.map none)).run P w = .ok a.isNone w := fun d => by cases a <;> simp [Op.equalIn, run_underlying hu]
  exact key 9999

theorem run_equal_func {T : TypeId} {ps rs : Array TypeId} {vr : Bool} (hu : P.underlying T = some (.func ps rs vr)) (f : Fn) (a b : Array Value) (w : World) : (Op.equal T (.func f a b) .nilFunc).run P w = .ok false w := by
  have key : ∀ d, (Op.equalIn (d + 1) T (.func f a b) .nilFunc).run P w = .ok false w := fun d => by simp [Op.equalIn, run_underlying hu]
  exact key 9999

theorem run_equal_nilFunc {T : TypeId} {ps rs : Array TypeId} {vr : Bool} (hu : P.underlying T = some (.func ps rs vr)) (w : World) : (Op.equal T .nilFunc .nilFunc).run P w = .ok true w := by
  have key : ∀ d, (Op.equalIn (d + 1) T .nilFunc .nilFunc).run P w = .ok true w := fun d => by simp [Op.equalIn, run_underlying hu]
  exact key 9999

theorem ok_boolBin {op : BinOp} {a b : Bool} {v : AV} {T : TypeId} (hu : P.underlying T = some .bool) (h : boolBin op a b = some v) : OkP P ρ E w (binOp op T (.bool a) (.bool b)) v := by
  cases op <;> simp only [boolBin] at h
  case eql => cases h; exact ok_val (by simp [binOp, run_equal_bool hu])
  case neq =>
    cases h
    exact ok_val (by simp [binOp, run_equal_bool hu, bne])
  all_goals cases h

theorem run_nilEq {T : TypeId} {x : AV} {u b : Value} {t : Bool} (h : nilEq P T x b = some t) (r : Rep ρ E w x u) :
    (∀ cs, u ≠ .agg cs) ∧ u ≠ .nilIface ∧ (binOp .eql T u b).run P w = .ok (.bool t) w ∧ (binOp .neq T u b).run P w = .ok (.bool (!t)) w := by
  unfold nilEq at h
  split at h
  case h_5 => cases h
  case h_1 e hu =>
    have k := fun a => run_equal_ptr hu a w
    split at h
    · cases h; simp only [Rep] at r; obtain ⟨_, _, rfl⟩ := r
      refine ⟨by simp, by simp, ?_, ?_⟩ <;> simp [binOp, k]
    · cases h; simp only [Rep] at r; obtain ⟨_, _, rfl, _⟩ := r
      refine ⟨by simp, by simp, ?_, ?_⟩ <;> simp [binOp, k]
    · cases h; simp only [Rep] at r; subst r
      refine ⟨by simp, by simp, ?_, ?_⟩ <;> simp [binOp, k]
    · cases h
  case h_2 e hu =>
    have k := fun a l c l' c' => run_equal_slice hu a l c l' c' w
    split at h
    · cases h; simp only [Rep] at r; obtain ⟨_, _, _, rfl, _⟩ := r
      refine ⟨by simp, by simp, ?_, ?_⟩ <;> simp [binOp, k]
    · cases h; simp only [Rep] at r; subst r
      refine ⟨by simp, by simp, ?_, ?_⟩ <;> simp [binOp, k]
    · cases h
  case h_3 k e hu =>
    have k := fun a => run_equal_map hu a w
    split at h
    · cases h; simp only [Rep] at r; obtain ⟨_, _, rfl⟩ := r
      refine ⟨by simp, by simp, ?_, ?_⟩ <;> simp [binOp, k]
    · cases h; simp only [Rep] at r; obtain ⟨_, _, _, rfl, _⟩ := r
      refine ⟨by simp, by simp, ?_, ?_⟩ <;> simp [binOp, k]
    · cases h; simp only [Rep] at r; subst r
      refine ⟨by simp, by simp, ?_, ?_⟩ <;> simp [binOp, k]
    · cases h
  case h_4 k e hu =>
    have k1 := fun f a b => run_equal_func hu f a b w
    have k2 := run_equal_nilFunc hu w
    split at h
    · cases h; simp only [Rep] at r; obtain ⟨_, _, rfl, _⟩ := r
      refine ⟨by simp, by simp, ?_, ?_⟩ <;> simp [binOp, k1]
    · cases h; simp only [Rep] at r; subst r
      refine ⟨by simp, by simp, ?_, ?_⟩ <;> simp [binOp, k2]
    · cases h

theorem ok_binOp {op : BinOp} {T : TypeId} {x y v : AV} {u s : Value} {xo yo : Operand} (h : binA P op T x y = some v) (r : Rep ρ E w x u) (ry : Rep ρ E w y s) :
    OkP P ρ E w (do eqGuard op T xo yo u s; binOp op T u s) v := by
  unfold binA at h
  split at h
  · split at h
    · rename_i k a k' b
      simp only [Rep] at r ry
      subst r; subst ry
      unfold intBin' at h
      cases hs : isShift op with
      | true =>
        simp only [hs, cond_true] at h
        obtain ⟨v', hr, hv⟩ := ok_shiftBin (P := P) (ρ := ρ) (E := E) (w := w) (k' := k') T hs h
        exact ⟨v', by simp [run_eqGuard_int, hr], hv⟩
      | false =>
        simp only [hs, cond_false] at h
        split at h
        · rename_i hk
          subst hk
          obtain ⟨v', hr, hv⟩ := ok_intBin (P := P) (ρ := ρ) (E := E) (w := w) T h
          exact ⟨v', by simp [run_eqGuard_int, hr], hv⟩
        · cases h
    · cases h
  · split at h
    · simp only [Rep] at r ry
      subst r; subst ry
      obtain ⟨v', hr, hv⟩ := ok_strBin (P := P) (ρ := ρ) (E := E) (w := w) T h
      exact ⟨v', by simp [run_eqGuard_other, hr], hv⟩
    · cases h
  · split at h
    · split at h
      · rename_i hu
        simp only [Rep] at r ry
        subst r; subst ry
        obtain ⟨v', hr, hv⟩ := ok_boolBin (P := P) (ρ := ρ) (E := E) (w := w) hu h
        exact ⟨v', by simp [run_eqGuard_other, hr], hv⟩
      · cases h
    · cases h
  · split at h
    · simp only [Rep] at ry
      subst ry
      unfold nilBin at h
      split at h
      · cases hn : nilEq P T x s with
        | none => simp [hn] at h
        | some t =>
          simp [hn] at h
          subst h
          obtain ⟨h1, h2, h3, _⟩ := run_nilEq hn r
          exact ok_val (by simp [run_eqGuard_other _ T xo yo u s h1 h2, h3])
      · cases hn : nilEq P T x s with
        | none => simp [hn] at h
        | some t =>
          simp [hn] at h
          subst h
          obtain ⟨h1, h2, _, h4⟩ := run_nilEq hn r
          exact ok_val (by simp [run_eqGuard_other _ T xo yo u s h1 h2, h4])
      · cases h
    · cases h

theorem ok_pick {c a b v : AV} {cv av bv : Value} (h : pickA c a b = some v) (rc : Rep ρ E w c cv) (ra : Rep ρ E w a av) (rb : Rep ρ E w b bv) :
    ∃ t, cv = .bool t ∧ Rep ρ E w v (if t then av else bv) := by
  unfold pickA at h
  split at h
  · cases h; simp only [Rep] at rc; exact ⟨true, rc, by simpa using ra⟩
  · cases h; simp only [Rep] at rc; exact ⟨false, rc, by simpa using rb⟩
  · cases h

theorem ok_extract {i : Nat} {x v : AV} {u : Value} (h : extractA i x = some v) (r : Rep ρ E w x u) : OkP P ρ E w (Instr.extract u i) v := by
  unfold extractA at h
  split at h
  · simp only [Rep] at r
    obtain ⟨xs, rfl, hr⟩ := r
    obtain ⟨u', hu, hv⟩ := hr.get h
    refine ⟨u', ?_, hv⟩
    have : xs[i]? = some u' := by simpa using hu
    simp [Instr.extract, this]
  · cases h

theorem ok_field {T : TypeId} {f : Nat} {x v : AV} {u : Value} (h : fieldA P T f x = some v) (r : Rep ρ E w x u) : OkP P ρ E w (Instr.field T u f) v := by
  unfold fieldA at h
  split at h
  case h_2 => cases h
  case h_1 cs =>
    simp only [Rep] at r
    obtain ⟨xs, rfl, hr⟩ := r
    split at h
    case h_2 => cases h
    case h_1 fs hu =>
      cases hf : fs[f]? with
      | none => simp [hf] at h
      | some fd =>
        cases hs : sz P fd.type with
        | none => simp [hf, hs] at h
        | some s =>
          simp only [hf, hs, Option.bind_some] at h
          split at h
          case h_3 => cases h
          case h_1 ha =>
            split at h
            · rename_i hl
              cases h
              refine ⟨.agg (xs.extract fd.offset (fd.offset + s)), ?_, ?_⟩
              · simp [Instr.field, run_underlying hu, hf, asAgg, part, run_aggB ha, run_sz hs]
              · simp only [Rep]
                refine ⟨_, rfl, ?_⟩
                have := (hr.drop fd.offset).take s
                simpa [Array.toList_extract, List.extract] using this
            · cases h
          case h_2 ha =>
            obtain ⟨u', hu', hv⟩ := hr.get h
            refine ⟨u', ?_, hv⟩
            have e : xs[fd.offset]? = some u' := by simpa using hu'
            simp [Instr.field, run_underlying hu, hf, asAgg, part, run_aggB ha, e]

theorem ok_index {T : TypeId} {x ix v : AV} {u i : Value} (h : indexA P T x ix = some v) (r : Rep ρ E w x u) (ri : Rep ρ E w ix i) : OkP P ρ E w (Instr.index T u i) v := by
  unfold indexA at h
  split at h
  case h_3 => cases h
  case h_1 =>
    simp only [Rep] at r ri
    subst r; subst ri
    exact ok_pure_map h
  case h_2 cs k n =>
    simp only [Rep] at r ri
    subst ri
    obtain ⟨xs, rfl, hr⟩ := r
    split at h
    case h_2 => cases h
    case h_1 len e hu =>
      cases hs : sz P e with
      | none => simp [hs] at h
      | some s =>
        simp only [hs, Option.bind_some] at h
        split at h
        case isFalse => cases h
        case isTrue hn =>
          split at h
          case h_3 => cases h
          case h_1 ha =>
            split at h
            · cases h
              refine ⟨.agg (xs.extract (n.toNat * s) (n.toNat * s + s)), ?_, ?_⟩
              · simp [Instr.index, asIntOf, run_underlying hu, hn, part, run_aggB ha, run_sz hs]
              · simp only [Rep]
                refine ⟨_, rfl, ?_⟩
                have := (hr.drop (n.toNat * s)).take s
                simpa [Array.toList_extract, List.extract] using this
            · cases h
          case h_2 ha =>
            obtain ⟨u', hu', hv⟩ := hr.get h
            refine ⟨u', ?_, hv⟩
            have e' : xs[n.toNat * s]? = some u' := by simpa using hu'
            simp [Instr.index, asIntOf, run_underlying hu, hn, part, run_aggB ha, run_sz hs, e']

end
end Go.AM
