/-
  Contracts of the library's where a text or a number is not known: the decimal form of a number; a text cut at, or split at, a text.
-/
import Derived.Test.YtobhhfbdelnhfaaGreatDoorCi
import Derived.Lib.ItoaNum
import Derived.Lib.SplitLaws
import Derived.Lib.LaidTab
import Derived.Sort.Grow
import Derived.Deep.Draws
namespace Go.AM
section
variable {P : Program}

theorem ok_of_belowV {f : FuncId} {args : List AV} {H : Hp} {v : AV} (h : ∀ (lo : Nat → Prop) (w0 : World) (ρ : Nat → Option Nat) (E : Nat → Prop) (w : World) (vs : Array Value), Inv lo w0 ρ E H w → RepL ρ E w args vs.toList →
      Calls P f vs w fun e w' => ∃ x, e = .returned x ∧ RowKit.Below w.heap.size w w' ∧ Rep ρ (fun b => E b ∨ (w.heap.size ≤ b ∧ b < w'.heap.size)) w' v x) : Ok P f args H v H := by
  intro lo w0 ρ E w vs inv ra
  refine (h lo w0 ρ E w vs inv ra).mono ?_
  rintro e w' ⟨x, rfl, hb, hrep⟩
  obtain ⟨b1, b2, b3, hsz, hold⟩ := hb
  have ext : Ext ρ E w ρ (fun b => E b ∨ (w.heap.size ≤ b ∧ b < w'.heap.size)) w' := Ext.grow (fun _ _ h => h) (fun _ h => .inl h) (fun i b hb => (inv.bd i b hb).2) inv.ebd hold hsz
  refine ⟨x, ρ, _, rfl, ?_, ⟨ext, ?_⟩, hrep⟩
  · exact { len := inv.len, dom := inv.dom, blk := fun i k b hk hb => (inv.blk i k b hk hb).mono ext (hold b (inv.bd i b hb).2), inj := inv.inj
            notE := fun i k b hk hb he => by
              rcases he with he | he
              · exact inv.notE i k b hk hb he
              · have := (inv.bd i b hb).2; omega
            bd := fun i b hb => ⟨(inv.bd i b hb).1, Nat.lt_of_lt_of_le (inv.bd i b hb).2 hsz⟩
            ebd := fun b he => by
              rcases he with he | he
              · exact Nat.lt_of_lt_of_le (inv.ebd b he) hsz
              · exact he.2
            lole := fun b hb => Nat.lt_of_lt_of_le (inv.lole b hb) hsz
            old := fun b hb => (hold b (inv.lole b hb)).trans (inv.old b hb)
            io := inv.io.trans ⟨b1, b2, b3⟩, gl := gl_mono rfl ext inv.gl }
  · intro b hb
    rcases hb with hb | hb
    · exact .inl hb
    · exact .inr fun h => by have := inv.lole b h; omega

theorem bl_drewN (w : World) (n : Nat) : RowKit.Below w.heap.size w (w.drewN n) := ⟨rfl, rfl, rfl, Nat.le_refl _, fun _ _ => rfl⟩

theorem below_grow (w : World) (k : Nat) (os : Array Obj) : RowKit.Below w.heap.size w (Sort.grow (w.drewN k) os) := by
  refine RowKit.Below.trans (bl_drewN w k) ⟨rfl, rfl, rfl, ?_, fun b hb => ?_⟩
  · simp only [Sort.grow, Array.size_append]; omega
  · have h0 : (w.drewN k).heap = w.heap := rfl
    simp only [Sort.grow, h0]
    rw [Array.getElem?_append_left hb]

/-- The decimal form. -/
noncomputable def qitoa : Int → ByteArray := veil fun n => ⟨(Lib.itoa n).toArray⟩
noncomputable def qcutA : ByteArray → ByteArray → ByteArray := veil fun s t => ⟨(Lib.cut s.data.toList t.data.toList).1.toArray⟩
noncomputable def qcutB : ByteArray → ByteArray → ByteArray := veil fun s t => ⟨(Lib.cut s.data.toList t.data.toList).2.1.toArray⟩
noncomputable def qcutOk : ByteArray → ByteArray → Bool := veil fun s t => (Lib.cut s.data.toList t.data.toList).2.2
noncomputable def qsplit : ByteArray → ByteArray → D := veil fun s t => .list ((Lib.splitB t 0 (Lib.countB s t) s).map .str)
noncomputable def qidxT : ByteArray → ByteArray → Int := veil fun s t => Lib.index s.data.toList t.data.toList

def pow10A : List AV := (List.range 20).map fun i => .sc (.int .u64 (10 ^ i : Nat))
def powC (i : Nat) : AV → Bool
  | .sc (.int .u64 (.ofNat m)) => Nat.beq m (10 ^ i)
  | _ => false
def eqPow : Nat → List AV → Bool
  | _, [] => true
  | i, c :: r => powC i c && eqPow (i + 1) r

theorem powC_eq {i : Nat} {c : AV} (h : powC i c = true) : c = .sc (.int .u64 (10 ^ i : Nat)) := by
  unfold powC at h
  split at h
  · rename_i m
    have hm : m = 10 ^ i := Nat.eq_of_beq_eq_true h
    subst hm; rfl
  · cases h

theorem eqPow_eq : ∀ (cs : List AV) (i : Nat), eqPow i cs = true → cs = (List.range cs.length).map fun j => .sc (.int .u64 (10 ^ (i + j) : Nat))
  | [], _, _ => rfl
  | c :: cs, i, h => by
    simp only [eqPow, Bool.and_eq_true] at h
    have ih := eqPow_eq cs (i + 1) h.2
    rw [List.length_cons, List.range_succ_eq_map, List.map_cons, List.map_map, powC_eq h.1]
    congr 1
    refine ih.trans (List.map_congr_left fun j _ => ?_)
    simp only [Function.comp]
    rw [show i + 1 + j = i + (j + 1) by omega]

def ItoaSaid (P : Program) (f : Nat) : Prop :=
  ∀ (n : Int), -9223372036854775808 ≤ n → n ≤ 9223372036854775807 → ∀ (w : World), Lib.TabIs P w "internal/strconv.uint64pow10" .u64 Lib.pow10Tab →
    Calls P f #[.int .i64 n] w fun e w' => e = .returned (.string ⟨(Lib.itoa n).toArray⟩) ∧ ∃ k os, w' = Sort.grow (w.drewN k) os

noncomputable def itoaC (g : Nat) (args : List AV) (H : Hp) : Option (AV × Hp) :=
  match args with
  | [.ui .i64 n] => (match H.glob g with
    | some cs => bif eqPow 0 cs && Nat.beq cs.length 20 then some (.us (qitoa n), H) else none
    | none => none)
  | _ => none
noncomputable def itoaO (args : List AV) (_ : Hp) : List Bool :=
  match args with
  | [.ui .i64 n] => [qcmp .leq (-9223372036854775808) n, qcmp .leq n 9223372036854775807]
  | _ => []

theorem allSc_pow : ∀ (cs : List AV) (i : Nat), eqPow i cs = true → allSc cs = true
  | [], _, _ => rfl
  | c :: cs, i, h => by
    simp only [eqPow, Bool.and_eq_true] at h
    rw [powC_eq h.1]
    exact allSc_pow cs (i + 1) h.2

theorem itoaC_ok {f g : Nat} (hC : ItoaSaid P f) (hg : P.globalNamed "internal/strconv.uint64pow10" = some g) (args : List AV) (H : Hp) (v : AV) (H' : Hp) (h : itoaC g args H = some (v, H')) (ho : allB (itoaO args H) = true) : Ok P f args H v H' := by
  unfold itoaC at h
  split at h
  case h_2 => cases h
  case h_1 n =>
    split at h
    case h_2 => cases h
    case h_1 cs hgl =>
      cases hb : (eqPow 0 cs && Nat.beq cs.length 20) with
      | false => rw [hb] at h; cases h
      | true =>
        rw [hb] at h
        cases h
        simp only [Bool.and_eq_true] at hb
        have hlen := Nat.eq_of_beq_eq_true hb.2
        have o1 := allB_mem ho (qcmp .leq (-9223372036854775808) n) (by simp [itoaO])
        have o2 := allB_mem ho (qcmp .leq n 9223372036854775807) (by simp [itoaO])
        rw [qcmp_eq] at o1 o2
        simp only [rcmp, decide_eq_true_eq] at o1 o2
        refine ok_of_belowV fun lo w0 ρ E w vs inv ra => ?_
        generalize hvs : vs.toList = l at ra
        simp only [RepL] at ra
        obtain ⟨u1, l1, rfl, r1, rfl⟩ := ra
        simp only [Rep] at r1
        subst r1
        have hv : vs = #[.int .i64 n] := by rw [← Array.toList_inj, hvs]
        obtain ⟨_, hat, hall⟩ := inv.gl g _ hgl
        obtain ⟨c, T, fz, hc, hsz⟩ := hall (allSc_pow cs 0 hb.1)
        have htab : Lib.TabIs P w "internal/strconv.uint64pow10" .u64 Lib.pow10Tab := by
          unfold Lib.TabIs World.var?
          simp only [hg, Option.bind_some, hc, Option.some.injEq]
          rw [← Array.toList_inj]
          apply List.ext_getElem?
          intro i
          simp only [Array.getElem?_toList, Lib.pow10Tab, List.map_map, List.getElem?_map]
          have hcs := eqPow_eq cs 0 hb.1
          rw [hlen] at hcs hsz
          by_cases hi : i < 20
          · have hx : cs[i]? = some (.sc (.int .u64 (10 ^ i : Nat))) := by
              rw [hcs, List.getElem?_map, List.getElem?_range hi]; simp
            obtain ⟨u, hu, hr⟩ := hat.each i _ hx
            simp only [Rep] at hr
            subst hr
            simp only [World.cell?, hc, Nat.zero_add] at hu
            rw [List.getElem?_range hi]
            simpa using hu
          · rw [Array.getElem?_eq_none (by omega), List.getElem?_eq_none (by simpa using hi)]; rfl
        rw [hv]
        refine (hC n o1 o2 w htab).mono ?_
        rintro e w' ⟨rfl, k, os, rfl⟩
        refine ⟨_, rfl, below_grow w k os, ?_⟩
        simp only [Rep, qitoa, veil_eq]

def CutSaid (P : Program) (f g : Nat) : Prop :=
  ∀ (s sep : ByteArray) (m : Int) (w : World), s.size < 4294967281 → w.cell? ⟨g, 0, none⟩ = some (.int .i64 m) →
    Calls P f #[.string s, .string sep] w fun e w' => e = .returned (.tuple #[.string ⟨(Lib.cut s.data.toList sep.data.toList).1.toArray⟩, .string ⟨(Lib.cut s.data.toList sep.data.toList).2.1.toArray⟩, .bool (Lib.cut s.data.toList sep.data.toList).2.2]) ∧ ∃ n, w' = w.drewN n

def isAnyG : Option (List AV) → Bool
  | some [.anyI .i64] => true
  | _ => false
noncomputable def cutC (g : Nat) (args : List AV) (H : Hp) : Option (AV × Hp) :=
  match args with
  | [.us s, .sc (.string t)] => bif isAnyG (H.glob g) then some (.tup [.us (qcutA s t), .us (qcutB s t), .ub (qcutOk s t)], H) else none
  | _ => none
noncomputable def sizeO (args : List AV) (_ : Hp) : List Bool :=
  match args with
  | [.us s, .sc (.string _)] => [qcmp .lss (qlenS s) 4294967281]
  | [.sc (.string _), .us _] => []
  | _ => []

theorem any_cell {lo : Nat → Prop} {w0 : World} {ρ : Nat → Option Nat} {E : Nat → Prop} {H : Hp} {w : World} (inv : Inv lo w0 ρ E H w) {g : Nat} (h : isAnyG (H.glob g) = true) : ∃ m, w.cell? ⟨g, 0, none⟩ = some (.int .i64 m) := by
  unfold isAnyG at h
  split at h
  · rename_i hg
    have hr := (inv.gl g _ hg).2.1
    simp only [RepAt, Rep] at hr
    obtain ⟨⟨u, hu, n, rfl⟩, _⟩ := hr
    exact ⟨n, hu⟩
  · cases h

theorem sizeO_lt {s t : ByteArray} {H : Hp} (ho : allB (sizeO [.us s, .sc (.string t)] H) = true) : s.size < 4294967281 := by
  have o1 := allB_mem ho (qcmp .lss (qlenS s) 4294967281) (by simp [sizeO])
  rw [qcmp_eq, qlenS_eq] at o1
  simp only [rcmp, decide_eq_true_eq] at o1
  omega

theorem cutC_ok {f g : Nat} (hC : CutSaid P f g) (args : List AV) (H : Hp) (v : AV) (H' : Hp) (h : cutC g args H = some (v, H')) (ho : allB (sizeO args H) = true) : Ok P f args H v H' := by
  unfold cutC at h
  split at h
  case h_2 => cases h
  case h_1 s t =>
    cases hb : isAnyG (H.glob g) with
    | false => rw [hb] at h; cases h
    | true =>
      rw [hb] at h
      cases h
      refine ok_of_belowV fun lo w0 ρ E w vs inv ra => ?_
      generalize hvs : vs.toList = l at ra
      simp only [RepL] at ra
      obtain ⟨u1, l1, rfl, r1, u2, l2, rfl, r2, rfl⟩ := ra
      simp only [Rep] at r1 r2
      subst r1 r2
      have hv : vs = #[.string s, .string t] := by rw [← Array.toList_inj, hvs]
      obtain ⟨m, hm⟩ := any_cell inv hb
      rw [hv]
      refine (hC s t m w (sizeO_lt ho) hm).mono ?_
      rintro e w' ⟨rfl, n, rfl⟩
      refine ⟨_, rfl, bl_drewN w n, ?_⟩
      simp only [Rep]
      exact ⟨_, rfl, RepL.cons (by simp only [Rep, qcutA, veil_eq]) (RepL.cons (by simp only [Rep, qcutB, veil_eq]) (RepL.cons (by simp only [Rep, qcutOk, veil_eq]) RepL.nil))⟩

/-- Where the one begins in the other, where one of the two is not known. -/
noncomputable def idxU (g : Nat) (args : List AV) (H : Hp) : Option (AV × Hp) :=
  match args with
  | [.us s, .sc (.string t)] => bif isAnyG (H.glob g) then some (.ui .i64 (qidxT s t), H) else none
  | [.sc (.string s), .us t] => bif isAnyG (H.glob g) && Nat.ble s.size 1048576 then some (.ui .i64 (qidxT s t), H) else none
  | args => idxC g args H

theorem idxU_ok {f g : Nat} (hC : IndexSaid P f g) (args : List AV) (H : Hp) (v : AV) (H' : Hp) (h : idxU g args H = some (v, H')) (ho : allB (sizeO args H) = true) : Ok P f args H v H' := by
  have core : ∀ (a b : AV) (s t : ByteArray), s.size < 4294967281 → isAnyG (H.glob g) = true → (∀ ρ E w u, Rep ρ E w a u → u = .string s) → (∀ ρ E w u, Rep ρ E w b u → u = .string t) → Ok P f [a, b] H (.ui .i64 (qidxT s t)) H := by
    intro a b s t hs hb ha hbb
    refine ok_of_belowV fun lo w0 ρ E w vs inv ra => ?_
    generalize hvs : vs.toList = l at ra
    simp only [RepL] at ra
    obtain ⟨u1, l1, rfl, r1, u2, l2, rfl, r2, rfl⟩ := ra
    obtain rfl := ha _ _ _ _ r1
    obtain rfl := hbb _ _ _ _ r2
    have hv : vs = #[.string s, .string t] := by rw [← Array.toList_inj, hvs]
    obtain ⟨m, hm⟩ := any_cell inv hb
    rw [hv]
    refine (hC s t m w hs hm).mono ?_
    rintro e w' ⟨rfl, rfl⟩
    exact ⟨_, rfl, RowKit.Below.refl _ _, by simp only [Rep, qidxT, veil_eq]⟩
  unfold idxU at h
  split at h
  · rename_i s t
    cases hb : isAnyG (H.glob g) with
    | false => rw [hb] at h; cases h
    | true =>
      rw [hb] at h
      cases h
      exact core _ _ s t (sizeO_lt ho) hb (fun ρ E w u r => by simpa only [Rep] using r) (fun ρ E w u r => by simpa only [Rep] using r)
  · rename_i s t
    cases hb : (isAnyG (H.glob g) && Nat.ble s.size 1048576) with
    | false => rw [hb] at h; cases h
    | true =>
      rw [hb] at h
      cases h
      simp only [Bool.and_eq_true, Nat.ble_eq] at hb
      exact core _ _ s t (by omega) hb.1 (fun ρ E w u r => by simpa only [Rep] using r) (fun ρ E w u r => by simpa only [Rep] using r)
  · exact idxC_ok hC _ H v H' h

def SplitSaid (P : Program) (f g T : Nat) : Prop :=
  ∀ (s sep : ByteArray) (m : Int) (w : World), s.size < 4294967281 → w.cell? ⟨g, 0, none⟩ = some (.int .i64 m) → 1 ≤ sep.size →
    Calls P f #[.string s, .string sep] w fun e w' =>
      e = .returned (.slice (some ⟨w.heap.size, 0, none⟩) (Lib.countB s sep + 1) (Lib.countB s sep + 1)) ∧ w' = w.alloc (.cells ((Lib.splitB sep 0 (Lib.countB s sep) s).map Value.string).toArray T)

noncomputable def splitC (g T : Nat) (args : List AV) (H : Hp) : Option (AV × Hp) :=
  match args with
  | [.us s, .sc (.string t)] => bif isAnyG (H.glob g) && Nat.ble 1 t.size && Nat.beq (PG.cellsOf T) 1 then some (.rows T (qsplit s t), H) else none
  | _ => none

theorem alloc_get (w : World) (o : Obj) : (w.alloc o).heap[w.heap.size]? = some o := by show (w.heap.push o)[w.heap.size]? = some o; simp

theorem splitC_ok {f g T : Nat} (hC : SplitSaid P f g T) (hT : PG.underlying T = some .string) (args : List AV) (H : Hp) (v : AV) (H' : Hp) (h : splitC g T args H = some (v, H')) (ho : allB (sizeO args H) = true) : Ok P f args H v H' := by
  unfold splitC at h
  split at h
  case h_2 => cases h
  case h_1 s t =>
    cases hb : (isAnyG (H.glob g) && Nat.ble 1 t.size && Nat.beq (PG.cellsOf T) 1) with
    | false => rw [hb] at h; cases h
    | true =>
      rw [hb] at h
      cases h
      simp only [Bool.and_eq_true, Nat.ble_eq] at hb
      have hz := Nat.eq_of_beq_eq_true hb.2
      refine ok_of_belowV fun lo w0 ρ E w vs inv ra => ?_
      generalize hvs : vs.toList = l at ra
      simp only [RepL] at ra
      obtain ⟨u1, l1, rfl, r1, u2, l2, rfl, r2, rfl⟩ := ra
      simp only [Rep] at r1 r2
      subst r1 r2
      have hv : vs = #[.string s, .string t] := by rw [← Array.toList_inj, hvs]
      obtain ⟨m, hm⟩ := any_cell inv hb.1.1
      rw [hv]
      refine (hC s t m w (sizeO_lt ho) hm hb.1.2).mono ?_
      rintro e w' ⟨rfl, rfl⟩
      have hlen := Lib.splitB_all t hb.1.2 0 _ s rfl
      refine ⟨_, rfl, (RowKit.Below.refl _ w).alloc (Nat.le_refl _) _, ?_⟩
      have hd : (qsplit s t).toList = (Lib.splitB t 0 (Lib.countB s t) s).map D.str := by simp only [qsplit, veil_eq, D.toList]
      have hdl : (qsplit s t).toList.length = Lib.countB s t + 1 := by rw [hd, List.length_map, hlen]
      simp only [Rep]
      refine ⟨some ⟨w.heap.size, 0, none⟩, Lib.countB s t + 1, by rw [hdl], by rw [hdl]; exact Nat.le_refl _, .inr ⟨w.heap.size, 0, rfl, .inr ⟨Nat.le_refl _, by show w.heap.size < (w.heap.push _).size; simp⟩, fun i x hx => ?_⟩⟩
      rw [hd, List.getElem?_map] at hx
      obtain ⟨y, hy, rfl⟩ := Option.map_eq_some_iff.1 hx
      refine ⟨[.string y], by rw [hz]; rfl, fun j u hu => ?_, .str hT⟩
      cases j with
      | succ j => simp at hu
      | zero =>
        simp only [List.getElem?_cons_zero, Option.some.injEq] at hu
        subst hu
        simp only [World.cell?, alloc_get, hz, Nat.mul_one, Nat.zero_add, Nat.add_zero]
        rw [List.getElem?_toArray, List.getElem?_map, hy]; rfl

end
end Go.AM
