/-
  Single operations: loads, addresses, stores.
-/
import Derived.Test.YtcengfpfphdacaaAm3
namespace Go.AM

section
variable {P : Program} {lo : Nat} {w0 : World} {ρ : Nat → Option Nat} {E : Nat → Prop} {H : Hp} {w : World}

/-- It yields what the abstract value stands for, and leaves the world alone. -/
def OkP (P : Program) (ρ : Nat → Option Nat) (E : Nat → Prop) (w : World) (s : Sem Value) (v : AV) : Prop := ∃ u, s.run P w = .ok u w ∧ Rep ρ E w v u

/-- It yields what the abstract value stands for, and the abstract heap stands for the world behind. -/
def OkH (P : Program) (lo : Nat) (w0 : World) (ρ : Nat → Option Nat) (E : Nat → Prop) (w : World) (s : Sem Value) (v : AV) (H' : Hp) : Prop :=
  ∃ u w' ρ', s.run P w = .ok u w' ∧ Inv lo w0 ρ' E H' w' ∧ Ext ρ E w ρ' E w' ∧ Rep ρ' E w' v u

theorem OkP.okH {s : Sem Value} {v : AV} (inv : Inv lo w0 ρ E H w) (h : OkP P ρ E w s v) : OkH P lo w0 ρ E w s v H :=
  let ⟨u, hr, hv⟩ := h; ⟨u, w, ρ, hr, inv, Ext.refl, hv⟩

theorem sz_some {T n : Nat} (h : sz P T = some n) : ∃ i, P.info? T = some i ∧ i.size = n := by
  unfold sz at h
  cases hi : P.info? T with
  | none => simp [hi] at h
  | some i => simp [hi] at h; exact ⟨i, rfl, h⟩

theorem run_sz {T n : Nat} (h : sz P T = some n) (w : World) : (sizeOf T).run P w = .ok n w := by
  obtain ⟨i, hi, rfl⟩ := sz_some h
  simp [sizeOf, typeInfo, hi]

theorem run_aggB {T : Nat} {b : Bool} (h : aggB P T = some b) (w : World) : (isAgg T).run P w = .ok b w := by
  unfold aggB at h
  split at h
  case h_1 hu => cases h; simp [isAgg, run_underlying hu]
  case h_2 hu => cases h; simp [isAgg, run_underlying hu]
  case h_3 d h1 h2 hu =>
    cases h
    have hu' : P.underlying T = some d := hu
    cases d <;> first | (simp [isAgg, run_underlying hu']; done) | (exact (h1 _ rfl).elim) | (exact (h2 _ _ rfl).elim)
  case h_4 => cases h

/-- The cells from an address on. -/
def contents (H : Hp) : AV → Option (List AV)
  | .ptr i off => (getB H i).map (·.drop off)
  | .eptr cs => some cs
  | _ => none

theorem contents_at (inv : Inv lo w0 ρ E H w) {x : AV} {u : Value} {cs : List AV} (h : contents H x = some cs) (r : Rep ρ E w x u) :
    ∃ b off, u = .pointer (some ⟨b, off, none⟩) ∧ ∀ j c, cs[j]? = some c → ∃ v, w.cell? ⟨b, off + j, none⟩ = some v ∧ Rep ρ E w c v := by
  cases x with
  | ptr i off =>
    simp only [contents] at h
    cases hg : getB H i with
    | none => simp [hg] at h
    | some bs =>
      simp [hg] at h
      subst h
      simp only [Rep] at r
      obtain ⟨b, hb, rfl⟩ := r
      obtain ⟨c, T, hc, hl, hr⟩ := inv.cells hg hb
      refine ⟨b, off, rfl, fun j x hj => ?_⟩
      rw [List.getElem?_drop] at hj
      obtain ⟨v, hv, hr'⟩ := hr.get hj
      refine ⟨v, ?_, hr'⟩
      rw [List.getElem?_take] at hv
      split at hv
      · simpa [World.cell?, hc] using hv
      · cases hv
  | eptr es =>
    simp only [contents, Option.some.injEq] at h
    subst h
    simp only [Rep] at r
    obtain ⟨b, off, rfl, _, hr⟩ := r
    exact ⟨b, off, rfl, fun j c hj => let ⟨v, hv, hr'⟩ := hr.get hj; ⟨v, hv, hr'.up⟩⟩
  | _ => simp [contents] at h

theorem ld1_contents {x v : AV} (h : ld1 H x = some v) : ∃ cs, contents H x = some cs ∧ cs[0]? = some v := by
  cases x with
  | ptr i off =>
    simp only [ld1] at h
    cases hg : getB H i with
    | none => simp [hg] at h
    | some bs => simp [hg] at h; exact ⟨bs.drop off, by simp [contents, hg], by simpa using h⟩
  | eptr es => exact ⟨es, rfl, by simp only [ld1] at h; cases es <;> simp_all⟩
  | _ => simp [ld1] at h

theorem ldN_contents {n : Nat} {x v : AV} (h : ldN H n x = some v) : ∃ cs, contents H x = some cs ∧ n ≤ cs.length ∧ v = .agg (cs.take n) := by
  cases x with
  | ptr i off =>
    simp only [ldN] at h
    cases hg : getB H i with
    | none => simp [hg] at h
    | some bs =>
      simp only [hg, Option.bind_some] at h
      split at h
      · rename_i hl
        cases h
        exact ⟨bs.drop off, by simp [contents, hg], by simp; omega, rfl⟩
      · cases h
  | eptr es =>
    simp only [ldN] at h
    split at h
    · rename_i hl; cases h; exact ⟨es, rfl, hl, rfl⟩
    · cases h
  | _ => simp [ldN] at h

/-- Values that lie in cells, listed. -/
theorem cells_list {w : World} {b off : Nat} : ∀ {cs : List AV}, (∀ j c, cs[j]? = some c → ∃ v, w.cell? ⟨b, off + j, none⟩ = some v ∧ Rep ρ E w c v) →
    ∃ vs : List Value, vs.length = cs.length ∧ RepL ρ E w cs vs ∧ ∀ j v, vs[j]? = some v → w.cell? ⟨b, off + j, none⟩ = some v := by
  intro cs
  induction cs generalizing off with
  | nil => intro _; exact ⟨[], rfl, RepL.nil, fun j v h => by simp at h⟩
  | cons c cs ih =>
    intro h
    obtain ⟨v, hv, hr⟩ := h 0 c (by simp)
    obtain ⟨vs, hl, hrl, hcell⟩ := ih (off := off + 1) (fun j x hj => by
      have := h (j + 1) x (by simpa using hj)
      rwa [show off + (j + 1) = off + 1 + j from by omega] at this)
    refine ⟨v :: vs, by simp [hl], RepL.cons hr hrl, fun j u hj => ?_⟩
    cases j with
    | zero => simp at hj; subst hj; exact hv
    | succ j => simp at hj; have := hcell j u hj; rwa [show off + (j + 1) = off + 1 + j from by omega]

theorem Addr.add_none (b off n : Nat) : (⟨b, off, none⟩ : Addr).add n = ⟨b, off + n, none⟩ := by
  unfold Addr.add
  split
  · rename_i h; subst h; rfl
  · rfl

theorem ok_loadVar (inv : Inv lo w0 ρ E H w) {T : TypeId} {x v : AV} {u : Value} (h : loadA P H T x = some v) (r : Rep ρ E w x u) : ∃ a, u = .pointer (some a) ∧ OkP P ρ E w (loadVar T a) v := by
  unfold loadA at h
  split at h
  case h_1 ha =>
    cases hs : sz P T with
    | none => simp [hs] at h
    | some n =>
      simp only [hs, Option.bind_some] at h
      obtain ⟨cs, hc, hl, rfl⟩ := ldN_contents h
      obtain ⟨b, off, rfl, hcell⟩ := contents_at inv hc r
      obtain ⟨vs, hvl, hrl, hcs⟩ := cells_list (cs := cs.take n) (fun j c hj => hcell j c (by rw [List.getElem?_take] at hj; split at hj; exact hj; cases hj))
      have hn : vs.length = n := by rw [hvl]; simp; omega
      have hld := run_loadCells_list (P := P) w ⟨b, off, none⟩ vs (fun j v hv => by rw [Addr.add_none]; exact hcs j v hv)
      rw [hn] at hld
      refine ⟨_, rfl, .agg vs.toArray, ?_, by simp only [Rep]; exact ⟨vs.toArray, rfl, by simpa using hrl⟩⟩
      simp [loadVar, run_aggB ha, run_sz hs, hld]
  case h_2 ha =>
    obtain ⟨cs, hc, h0⟩ := ld1_contents h
    obtain ⟨b, off, rfl, hcell⟩ := contents_at inv hc r
    obtain ⟨v', hv', hr'⟩ := hcell 0 v h0
    refine ⟨_, rfl, v', ?_, hr'⟩
    have hv0 : w.cell? ⟨b, off, none⟩ = some v' := by simpa using hv'
    simp [loadVar, run_aggB ha, hv0]
  case h_3 => cases h

theorem ok_load (inv : Inv lo w0 ρ E H w) {T : TypeId} {x v : AV} {u : Value} (h : loadA P H T x = some v) (r : Rep ρ E w x u) : OkP P ρ E w (Instr.loadAt T u) v := by
  obtain ⟨a, rfl, v', hr, hv⟩ := ok_loadVar (P := P) inv h r
  exact ⟨v', by simpa [Instr.loadAt, Instr.sureAddr] using hr, hv⟩

theorem addrAdd_rep {o : Nat} {x y : AV} {u : Value} (h : addrAdd o x = some y) (r : Rep ρ E w x u) :
    ∃ b off, u = .pointer (some ⟨b, off, none⟩) ∧ Rep ρ E w y (.pointer (some ⟨b, off + o, none⟩)) := by
  cases x with
  | ptr i off =>
    simp only [addrAdd, Option.some.injEq] at h
    subst h
    simp only [Rep] at r ⊢
    obtain ⟨b, hb, rfl⟩ := r
    exact ⟨b, off, rfl, b, hb, rfl⟩
  | eptr cs =>
    simp only [addrAdd, Option.some.injEq] at h
    subst h
    simp only [Rep] at r ⊢
    obtain ⟨b, off, rfl, he, hr⟩ := r
    exact ⟨b, off, rfl, b, off + o, rfl, he, hr.drop o⟩
  | _ => simp [addrAdd] at h

theorem ok_fieldAddr {s : TypeId} {f : Nat} {x v : AV} {u : Value} (h : fieldAddrA P s f x = some v) (r : Rep ρ E w x u) : OkP P ρ E w (Instr.fieldAt s u f) v := by
  unfold fieldAddrA at h
  cases ho : fieldOff P s f with
  | none => simp [ho] at h
  | some o =>
    simp only [ho, Option.bind_some] at h
    obtain ⟨b, off, rfl, hr⟩ := addrAdd_rep h r
    unfold fieldOff at ho
    split at ho
    case h_2 => cases ho
    case h_1 fs hu =>
      split at ho
      case h_2 => cases ho
      case h_1 fd hf =>
        split at ho
        case h_2 => cases ho
        case h_1 n hn =>
          cases ho
          refine ⟨_, ?_, hr⟩
          simp [Instr.fieldAt, run_underlying hu, hf, Instr.sureAddr, fieldPlace, run_sz hn, Addr.add_none]

theorem elemAt_rep {s : Nat} {n : Int} {x v : AV} {u : Value} (h : elemAt s n x = some v) (r : Rep ρ E w x u) :
    ∃ b off len cap, u = .slice (some ⟨b, off, none⟩) len cap ∧ 0 ≤ n ∧ n < len ∧ Rep ρ E w v (.pointer (some ⟨b, off + n.toNat * s, none⟩)) := by
  cases x with
  | sl i z off len =>
    simp only [elemAt] at h
    split at h
    · rename_i hc
      obtain ⟨rfl, h0, h1⟩ := hc
      cases h
      simp only [Rep] at r ⊢
      obtain ⟨b, cap, hb, rfl, _⟩ := r
      exact ⟨b, off, len, cap, rfl, h0, h1, b, hb, rfl⟩
    · cases h
  | esl xs =>
    simp only [elemAt] at h
    split at h
    · rename_i h0
      cases hx : xs[n.toNat]? with
      | none => simp [hx] at h
      | some c =>
        simp only [hx, Option.bind_some] at h
        split at h
        · rename_i hl
          cases h
          simp only [Rep] at r ⊢
          obtain ⟨a, cap, rfl, hcap, hr⟩ := r
          rcases hr with rfl | ⟨b, off, z, rfl, he, hr⟩
          · simp at hx
          · obtain ⟨hz, hat⟩ := hr.get hx
            have hlt : n.toNat < xs.length := (List.getElem?_eq_some_iff.1 hx).1
            refine ⟨b, off, xs.length, cap, rfl, h0, by omega, b, _, rfl, he, ?_⟩
            rw [← hl, hz]; exact hat
        · cases h
    · cases h
  | _ => simp [elemAt] at h

theorem ok_indexAddr {T : TypeId} {x ix v : AV} {u i : Value} (h : idxA P T x ix = some v) (r : Rep ρ E w x u) (ri : Rep ρ E w ix i) : OkP P ρ E w (Instr.indexAt T u i) v := by
  unfold idxA at h
  split at h
  case h_2 => cases h
  case h_1 k n =>
    simp only [Rep] at ri
    subst ri
    split at h
    case h_3 => cases h
    case h_1 len e hu =>
      cases hs : sz P e with
      | none => simp [hs] at h
      | some s =>
        simp only [hs, Option.bind_some, arrAt] at h
        split at h
        · rename_i hn
          obtain ⟨b, off, rfl, hr⟩ := addrAdd_rep h r
          refine ⟨_, ?_, hr⟩
          simp [Instr.indexAt, asIntOf, run_underlying hu, Instr.sureAddr, hn, run_sz hs, Addr.add_none]
        · cases h
    case h_2 e hu =>
      cases hs : sz P e with
      | none => simp [hs] at h
      | some s =>
        simp only [hs, Option.bind_some] at h
        obtain ⟨b, off, len, cap, rfl, h0, h1, hr⟩ := elemAt_rep h r
        refine ⟨_, ?_, hr⟩
        simp [Instr.indexAt, asIntOf, run_underlying hu, h0, h1, run_sz hs, Addr.add_none]

/-- A stretch of cells is written. -/
theorem RepL.setCells {cs vs : List AV} {xs us : List Value} {off : Nat} (h : RepL ρ E w cs xs) (h' : RepL ρ E w vs us) :
    RepL ρ E w (AM.setCells cs off vs) (xs.take off ++ us ++ xs.drop (off + us.length)) := by
  unfold AM.setCells
  rw [h'.length]
  exact ((h.take off).app h').app (h.drop _)

theorem ok_stN (inv : Inv lo w0 ρ E H w) {n : Nat} {x : AV} {vs : List AV} {u : Value} {us : List Value} {H' : Hp} (h : stN H n x vs = some H') (r : Rep ρ E w x u) (rv : RepL ρ E w vs us) :
    ∃ a w', u = .pointer (some a) ∧ vs.length = n ∧ (storeCells a us).run P w = .ok () w' ∧ Inv lo w0 ρ E H' w' ∧ Ext ρ E w ρ E w' := by
  unfold stN at h
  split at h
  case h_2 => cases h
  case h_1 i off =>
    cases hg : getB H i with
    | none => simp [hg] at h
    | some cs =>
      simp only [hg, Option.bind_some] at h
      split at h
      case isFalse => cases h
      case isTrue hc =>
        obtain ⟨hl, hfit, h1⟩ := hc
        cases h
        simp only [Rep] at r
        obtain ⟨b, hb, rfl⟩ := r
        obtain ⟨c, T, hcell, hlc, hr⟩ := inv.cells hg hb
        have hul : us.length = n := by rw [← hl]; exact rv.length.symm
        have hone : ∀ v ∈ us, v.oneCell' = true := by
          intro v hv
          obtain ⟨j, hj⟩ := List.getElem?_of_mem hv
          have hjl : j < vs.length := by rw [rv.length]; exact (List.getElem?_eq_some_iff.1 hj).1
          obtain ⟨v', hv', hrv⟩ := rv.get (List.getElem?_eq_getElem hjl)
          rw [hj] at hv'; cases hv'
          exact one_cell (List.all_eq_true.1 h1 _ (List.getElem_mem hjl)) hrv
        have hst := run_storeCells_at P b off T us 0 c w hcell (by omega) hone
        simp only [Nat.add_zero] at hst
        obtain ⟨inv', ext⟩ := inv.change (w' := w.setRow b (c.toList.take off ++ us ++ c.toList.drop (off + us.length)).toArray) i b (.cells cs) (.cells (AM.setCells cs off vs)) (getB_get hg) hb
          (fun j hj => setRow_other w b j _ hj) (by simp)
          (fun c0 T0 f0 h0 => by
            rw [hcell] at h0
            cases h0
            refine ⟨_, setRow_heap w b c _ T _ hcell, ?_⟩
            simp only [List.size_toArray, List.length_append, List.length_take, List.length_drop, Array.length_toList]; omega)
          (fun ext => by
            refine ⟨_, T, setRow_heap w b c _ T _ hcell, ?_, ?_⟩
            · simp only [AM.setCells, List.size_toArray, List.length_append, List.length_take, List.length_drop, Array.length_toList]; omega
            · have hlen : (AM.setCells cs off vs).length = cs.length := by
                simp only [AM.setCells, List.length_append, List.length_take, List.length_drop]; omega
              rw [hlen]
              have := (RepL.setCells (off := off) hr rv).mono ext
              have e : (c.toList.take off ++ us ++ c.toList.drop (off + us.length)).take cs.length = (c.toList.take cs.length).take off ++ us ++ (c.toList.take cs.length).drop (off + us.length) := by
                rw [List.take_append, List.take_append]
                have l1 : (c.toList.take off).length = off := by simp; omega
                have l2 : (c.toList.take off ++ us).length = off + us.length := by simp [l1]
                rw [List.take_take, List.take_take, List.drop_take, l1, l2, List.take_of_length_le (l := us) (by omega)]
                congr 2
                · congr 1
                  rw [Nat.min_comm]
              show RepL ρ E _ _ (List.take cs.length (c.toList.take off ++ us ++ c.toList.drop (off + us.length)))
              rw [e]; exact this)
        exact ⟨_, _, rfl, hl, hst, inv', ext⟩

theorem ok_store (inv : Inv lo w0 ρ E H w) {T : TypeId} {x v : AV} {u uv : Value} {H' : Hp} (h : storeA P H T x v = some H') (r : Rep ρ E w x u) (rv : Rep ρ E w v uv) :
    ∃ w', (Instr.storeAt T u uv).run P w = .ok () w' ∧ Inv lo w0 ρ E H' w' ∧ Ext ρ E w ρ E w' := by
  unfold storeA at h
  cases hs : sz P T with
  | none => simp [hs] at h
  | some n =>
    cases hc : cellsOf v with
    | none => simp [hs, hc] at h
    | some vs =>
      simp only [hs, hc, Option.bind_some] at h
      have hrl := cellsOf_rep hc rv
      obtain ⟨a, w', rfl, hl, hst, inv', ext⟩ := ok_stN (P := P) inv h r hrl
      refine ⟨w', ?_, inv', ext⟩
      have hsize : uv.cells.size = n := by rw [← Array.length_toList, ← hrl.length, hl]
      simp [Instr.storeAt, Instr.sureAddr, storeVar, run_sz hs, hsize, hst]

end
end Go.AM
