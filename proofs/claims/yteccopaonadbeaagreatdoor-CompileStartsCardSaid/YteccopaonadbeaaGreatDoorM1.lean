/-
  DERIVED: THE SHELF's CONTRACTS AT THIS DUMP, IN PLAIN WORDS (tools/lay-plain.mjs out of 'TryzShelf.lean', which tools/lay-shelf.mjs wrote): THE SAME DECLARATIONS UNDER THE SAME NAMES: 'import', 'namespace', 'open', 'def', 'theorem' AND NOTHING ELSE: no command of the shelf's: FOR A HAND-IN. Each laying: the table of numbers ('.._ren') and one theorem, a field a fact of the dump's own or the kernel's comparison; each contract: ONE APPLICATION.
-/
import Derived.Shelf.Strings.Search1
import Derived.Shelf.Strings.Search2
import Derived.Shelf.Strings.Search3
import Derived.Shelf.LaysM
import Derived.Ground.Names2Prog
import Derived.Ground.SlgnProg
import Derived.Test.YteccopaonadbeaaGreatDoorProg
import Derived.Test.YteccopaonadbeaaGreatDoorAmZ2
import Derived.Test.YteccopaonadbeaaGreatDoorC1
import Derived.Below
import Derived.RowKit3
import Derived.Lib.IndexMore
import Derived.Test.YteccopaonadbeaaGreatDoorAmW
import Derived.Test.YteccopaonadbeaaGreatDoorSp
import Derived.KernelRfl
set_option linter.unusedVariables false
set_option linter.unusedSimpArgs false
namespace Go.Proofs
open Go.Shelf
def Tryz.lays144_ren : Go.Shelf.Ren := ⟨fun | 144 => 97 | 143 => 159 | 219 => 199 | 217 => 246 | 225 => 247 | 224 => 248 | 267 => 249 | 266 => 266 | 314 => 267 | n => n, fun | 9 => 9 | 4 => 4 | 3 => 3 | 5 => 5 | 46 => 230 | 146 => 297 | 51 => 24 | n => n, fun | 1 => 2 | n => n⟩
theorem Tryz.lays144 : Go.Proofs.Lays.n144 Tryz.prog Tryz.lays144_ren := {
  mixed := by kernel_rfl
  f143 := Tryz.func159.trans (congrArg some (by kernel_rfl))
  f144 := Tryz.func97.trans (congrArg some (by kernel_rfl))
  f217 := Tryz.func246.trans (congrArg some (by kernel_rfl))
  f219 := Tryz.func199.trans (congrArg some (by kernel_rfl))
  f224 := Tryz.func248.trans (congrArg some (by kernel_rfl))
  f225 := Tryz.func247.trans (congrArg some (by kernel_rfl))
  f266 := Tryz.func266.trans (congrArg some (by kernel_rfl))
  f267 := Tryz.func249.trans (congrArg some (by kernel_rfl))
  f314 := Tryz.func267.trans (congrArg some (by kernel_rfl))
  t3 := Tryz.underlying3
  a3 := Tryz.isAgg3
  z3 := Tryz.sizeOf3
  v3 := Tryz.zeroValue3
  t4 := Tryz.underlying4
  a4 := Tryz.isAgg4
  z4 := Tryz.sizeOf4
  v4 := Tryz.zeroValue4
  t5 := Tryz.underlying5
  a5 := Tryz.isAgg5
  z5 := Tryz.sizeOf5
  v5 := Tryz.zeroValue5
  t9 := Tryz.underlying9
  a9 := Tryz.isAgg9
  z9 := Tryz.sizeOf9
  v9 := Tryz.zeroValue9
  t46 := Tryz.underlying230
  a46 := Tryz.isAgg230
  z46 := Tryz.sizeOf230
  v46 := Tryz.zeroValue230
  t51 := Tryz.underlying24
  a51 := Tryz.isAgg24
  z51 := Tryz.sizeOf24
  v51 := Tryz.zeroValue24
  t146 := Tryz.underlying297
  a146 := Tryz.isAgg297
  z146 := Tryz.sizeOf297
  v146 := Tryz.zeroValue297
  g1 := by kernel_rfl }
open Go.RowKit Go.Lib in
/-- strings.Contains: "Contains reports whether substr is within s.": IT RETURNS 'Lib.contains s substr'; the world is as it was. (LAID: no walk: one application.) -/
theorem Tryz.strings_Contains (s sub : ByteArray) (m : Int) (w : World) (hs : s.size < 4294967281) (hm : w.cell? ⟨2, 0, none⟩ = some (.int .i64 m)) :
    Calls Tryz.prog 97 #[.string s, .string sub] w fun e w' => e = .returned (.bool (Lib.contains s.data.toList sub.data.toList)) ∧ w' = w := Any.strings_Contains Tryz.lays144 s sub m w hs hm
end Go.Proofs

namespace Go.AM
section
variable {P : Program}

/-- The world as it was, and a value without memory. -/
theorem ok_of_same' {f : FuncId} {args : List AV} {H : Hp} {x : Value} {y : AV} (hy : ∀ ρ E w, Rep ρ E w y x) (h : ∀ (lo : Nat → Prop) (w0 : World) (ρ : Nat → Option Nat) (E : Nat → Prop) (w : World) (vs : Array Value), Inv lo w0 ρ E H w → RepL ρ E w args vs.toList →
      Calls P f vs w fun e w' => e = .returned x ∧ w' = w) : Ok P f args H y H := by
  intro lo w0 ρ E w vs inv ra
  refine (h lo w0 ρ E w vs inv ra).mono ?_
  rintro e w' ⟨rfl, rfl⟩
  exact ⟨x, ρ, E, rfl, inv, ⟨Ext.refl, fun _ h => .inl h⟩, hy _ _ _⟩
theorem ok_of_same {f : FuncId} {args : List AV} {H : Hp} {x : Value} (h : ∀ (lo : Nat → Prop) (w0 : World) (ρ : Nat → Option Nat) (E : Nat → Prop) (w : World) (vs : Array Value), Inv lo w0 ρ E H w → RepL ρ E w args vs.toList →
      Calls P f vs w fun e w' => e = .returned x ∧ w' = w) : Ok P f args H (.sc x) H := by
  intro lo w0 ρ E w vs inv ra
  refine (h lo w0 ρ E w vs inv ra).mono ?_
  rintro e w' ⟨rfl, rfl⟩
  exact ⟨x, ρ, E, rfl, inv, ⟨Ext.refl, fun _ h => .inl h⟩, by simp only [Rep]⟩

/-- Is the one within the other? -/
noncomputable def subT (s t : List UInt8) : Bool := match s with | [] => t.isEmpty | x :: r => t.isPrefixOf (x :: r) || subT r t

theorem subT_eq : ∀ s t : List UInt8, subT s t = Lib.contains s t
  | [], t => by
    unfold subT Lib.contains Lib.index
    cases h : t.isEmpty <;> rfl
  | x :: r, t => by
    have ih := subT_eq r t
    have hg := Lib.index_ge r t
    unfold Lib.contains at ih
    unfold subT Lib.contains Lib.index
    rw [ih]
    cases h : t.isPrefixOf (x :: r) with
    | true => simp
    | false =>
      simp only [Bool.false_or, Bool.false_eq_true, if_false]
      split
      · rename_i h1
        rw [eq_of_beq h1]
      · rename_i h1
        have : Lib.index r t ≠ -1 := fun e => h1 (by rw [e]; rfl)
        rw [Bool.eq_iff_iff]; simp only [decide_eq_true_eq]; omega

/-- What a contract of strings.Contains says, as the library has it. -/
def ContSaid (P : Program) (f : FuncId) : Prop :=
  ∀ (s sub : ByteArray) (m : Int) (w : World), s.size < 4294967281 → w.cell? ⟨2, 0, none⟩ = some (.int .i64 m) →
    Calls P f #[.string s, .string sub] w fun e w' => e = .returned (.bool (Lib.contains s.data.toList sub.data.toList)) ∧ w' = w

noncomputable def qhas : ByteArray → ByteArray → Bool := veil fun s t => subT s.data.toList t.data.toList
theorem qhas_eq : qhas = fun s t => subT s.data.toList t.data.toList := veil_eq _

noncomputable def contC (args : List AV) (H : Hp) : Option (AV × Hp) :=
  match args with
  | [.sc (.string s), .sc (.string t)] => (match H.glob 2 with
    | some [.anyI .i64] => bif Nat.ble s.size 1048576 then some (.sc (.bool (subT s.data.toList t.data.toList)), H) else none
    | _ => none)
  | [.sc (.string s), .us t] => (match H.glob 2 with
    | some [.anyI .i64] => bif Nat.ble s.size 1048576 then some (.ub (qhas s t), H) else none
    | _ => none)
  | _ => none

theorem contC_ok {f : FuncId} (hC : ContSaid P f) (args : List AV) (H : Hp) (v : AV) (H' : Hp) (h : contC args H = some (v, H')) : Ok P f args H v H' := by
  unfold contC at h
  split at h
  case h_3 => cases h
  case h_1 s t =>
    split at h
    case h_2 => cases h
    case h_1 hg =>
      cases hb : Nat.ble s.size 1048576 with
      | false => rw [hb] at h; cases h
      | true =>
        rw [hb] at h
        cases h
        simp only [Nat.ble_eq] at hb
        refine ok_of_same fun lo w0 ρ E w vs inv ra => ?_
        generalize hvs : vs.toList = l at ra
        simp only [RepL] at ra
        obtain ⟨u1, l1, rfl, r1, u2, l2, rfl, r2, rfl⟩ := ra
        simp only [Rep] at r1 r2
        subst r1 r2
        have hv : vs = #[.string s, .string t] := by rw [← Array.toList_inj, hvs]
        have hr := (inv.gl 2 _ hg).2.1
        simp only [RepAt, Rep] at hr
        obtain ⟨⟨u, hu, n, rfl⟩, _⟩ := hr
        rw [hv, subT_eq]
        exact hC s t n w (by omega) hu
  case h_2 s t =>
    split at h
    case h_2 => cases h
    case h_1 hg =>
      cases hb : Nat.ble s.size 1048576 with
      | false => rw [hb] at h; cases h
      | true =>
        rw [hb] at h
        cases h
        simp only [Nat.ble_eq] at hb
        refine ok_of_same' (x := .bool (subT s.data.toList t.data.toList)) (fun _ _ _ => by simp only [Rep, qhas_eq]) fun lo w0 ρ E w vs inv ra => ?_
        generalize hvs : vs.toList = l at ra
        simp only [RepL] at ra
        obtain ⟨u1, l1, rfl, r1, u2, l2, rfl, r2, rfl⟩ := ra
        simp only [Rep] at r1 r2
        subst r1 r2
        have hv : vs = #[.string s, .string t] := by rw [← Array.toList_inj, hvs]
        have hr := (inv.gl 2 _ hg).2.1
        simp only [RepAt, Rep] at hr
        obtain ⟨⟨u, hu, n, rfl⟩, _⟩ := hr
        rw [hv, subT_eq]
        exact hC s t n w (by omega) hu

end
end Go.AM

namespace Go.AM
noncomputable section
set_option linter.unusedSimpArgs false

/-- The answer to a call with these arguments. -/
def memoC (A : List AV) (v : AV) (args : List AV) (H : Hp) : Option (AV × Hp) := bif allEq (avEq 12) args A && H.gl then some (v, H) else none

theorem memo_ok {e : Env} {tb : Tb} (hok : EnvOk e) (hl : ∀ n c, e.lp n c = none) (hp : e.pre = tb.O) (ps : List (Nat × Nat)) (ds : List Nat) (h : TbOk e tb) (F n : Nat) {f : FuncId} {A : List AV} {v : AV}
    (hrun : (callPure (runP e ps ds tb F n).d ⟨0, [], true⟩ f A).map (·.1) = some v) (hA : ∀ H, mapO (expo H expoDepth) A = some A) (hO : ∀ H, allB ((A.map (expoObl H expoDepth)).flatten ++ tb.O f A ⟨0, [], true⟩) = true) (hown : A.all (ownFree expoDepth) = true) :
    ∀ args H v' H', memoC A v args H = some (v', H') → Ok e.P f args H v' H' := by
  intro args H v' H' hm
  unfold memoC at hm
  cases hc : (allEq (avEq 12) args A && H.gl) with
  | false => rw [hc] at hm; cases hm
  | true =>
    rw [hc] at hm
    simp only [cond_true, Option.some.injEq, Prod.mk.injEq] at hm
    obtain ⟨rfl, rfl⟩ := hm
    simp only [Bool.and_eq_true] at hc
    obtain ⟨he, hg⟩ := hc
    have hargs : args = A := allEq_eq (avEq_eq 12) he
    subst hargs
    have hr : SoundRec e.P ({ e with isPure := fun _ => true } : Env).pre (runP e ps ds tb F n).d := by
      show SoundRec e.P e.pre _
      rw [hp]; exact runP_sound hok hl hp ps ds h F n
    have hfr : H.fresh = ⟨0, [], true⟩ := by simp only [Hp.fresh, hg]
    obtain ⟨⟨v1, fl⟩, hrun2, rfl⟩ := Option.map_eq_some_iff.1 hrun
    have hcall : callA { e with isPure := fun _ => true } (runP e ps ds tb F n).d f args H = some (v1, H) := by
      unfold callA
      simp only [cond_true, hA H, Option.bind_some, hfr, hrun2, hown, Bool.true_or, cond_true]
    have hob : allB (callObl { e with isPure := fun _ => true } f args H) = true := by
      simp only [callObl, cond_true, hA H, hp, hfr]
      exact hO H
    intro lo w0 ρ E w vs inv ra
    refine (pure_call hr rfl hcall hob inv ra).mono ?_
    rintro e' w' ⟨u, ρ', E', rfl, inv', reach, rep, _⟩
    exact ⟨u, ρ', E', rfl, inv', reach, rep⟩

/-- Several such calls. -/
def memoL (ms : List (List AV × AV)) (args : List AV) (H : Hp) : Option (AV × Hp) :=
  match ms with
  | [] => none
  | m :: ms => orP (memoC m.1 m.2 args H) (memoL ms args H)

theorem memoL_ok {P : Program} {f : FuncId} : ∀ {ms : List (List AV × AV)}, (∀ m ∈ ms, ∀ args H v' H', memoC m.1 m.2 args H = some (v', H') → Ok P f args H v' H') → ∀ args H v' H', memoL ms args H = some (v', H') → Ok P f args H v' H'
  | [], _, args, H, v', H', hm => by simp [memoL] at hm
  | m :: ms, h, args, H, v', H', hm => by
    simp only [memoL] at hm
    cases hc : memoC m.1 m.2 args H with
    | some p => rw [hc] at hm; simp only [orP, Option.some.injEq] at hm; subst hm; exact h m List.mem_cons_self args H _ _ hc
    | none => rw [hc] at hm; exact memoL_ok (fun m hm' => h m (List.mem_cons_of_mem _ hm')) args H v' H' hm

/-- The answer to a call by contents, in memory of its own. -/
def memoR (A : List AV) (v : AV) (Hc : Hp) (args : List AV) (H : Hp) : Option (AV × Hp) := bif allEq (avEq 12) args A && (H.gl && (Nat.beq H.n 0 && H.bs.isEmpty)) then some (v, Hc) else none

theorem memoR_ok {e : Env} {tb : Tb} (hok : EnvOk e) (hl : ∀ n c, e.lp n c = none) (hp : e.pre = tb.O) (ps : List (Nat × Nat)) (ds : List Nat) (h : TbOk e tb) (F n : Nat) {f : FuncId} {A : List AV} {v : AV} {Hc : Hp}
    (hrun : (runP e ps ds tb F n).d f A ⟨0, [], true⟩ = some (v, Hc)) (hO : allB (tb.O f A ⟨0, [], true⟩) = true) :
    ∀ args H v' H', memoR A v Hc args H = some (v', H') → Ok e.P f args H v' H' := by
  intro args H v' H' hm
  unfold memoR at hm
  cases hc : (allEq (avEq 12) args A && (H.gl && (Nat.beq H.n 0 && H.bs.isEmpty))) with
  | false => rw [hc] at hm; cases hm
  | true =>
    rw [hc] at hm
    simp only [cond_true, Option.some.injEq, Prod.mk.injEq] at hm
    obtain ⟨rfl, rfl⟩ := hm
    simp only [Bool.and_eq_true] at hc
    obtain ⟨he, hg, hn, hb⟩ := hc
    have hargs : args = A := allEq_eq (avEq_eq 12) he
    subst hargs
    have hH : H = ⟨0, [], true⟩ := by
      cases H with
      | mk n bs gl =>
        simp only at hg hn hb
        rw [hg, Nat.eq_of_beq_eq_true hn, List.isEmpty_iff.1 hb]
    subst hH
    exact runP_sound hok hl hp ps ds h F n f _ _ v Hc hrun hO

/-- Several such calls. -/
def memoRL (ms : List (List AV × AV × Hp)) (args : List AV) (H : Hp) : Option (AV × Hp) :=
  match ms with
  | [] => none
  | m :: ms => orP (memoR m.1 m.2.1 m.2.2 args H) (memoRL ms args H)

theorem memoRL_ok {P : Program} {f : FuncId} : ∀ {ms : List (List AV × AV × Hp)}, (∀ m ∈ ms, ∀ args H v' H', memoR m.1 m.2.1 m.2.2 args H = some (v', H') → Ok P f args H v' H') → ∀ args H v' H', memoRL ms args H = some (v', H') → Ok P f args H v' H'
  | [], _, args, H, v', H', hm => by simp [memoRL] at hm
  | m :: ms, h, args, H, v', H', hm => by
    simp only [memoRL] at hm
    cases hc : memoR m.1 m.2.1 m.2.2 args H with
    | some p => rw [hc] at hm; simp only [orP, Option.some.injEq] at hm; subst hm; exact h m List.mem_cons_self args H _ _ hc
    | none => rw [hc] at hm; exact memoRL_ok (fun m hm' => h m (List.mem_cons_of_mem _ hm')) args H v' H' hm

end
end Go.AM

namespace Go.Proofs.YteccopaonadbeaaGreatDoor
open Go Go.AM
set_option maxRecDepth 100000

theorem contSaidX : ContSaid Tryz.prog 97 := fun s sub m w hs hm => Tryz.strings_Contains s sub m w hs hm

noncomputable def tbX : Tb := Tb.nil.add 97 contC (fun _ _ => [])
noncomputable def envX : Env := { P := Tryz.prog, fn := fun f => (Tryz.prog.funcs[f]?).bind fun fn => fn.body.map fun c => ⟨c, fn.ntmps, fn.results.toList⟩, isPure := fun f => !([33,34,35,36,37,45,50,52,66,67,102,106,110,111,117,118,121,126,127,153,155,166,171,172,173,175,176,177,221,94,200,250,101,161,128,31,262,268,182,27,8,109,122,218,64,129,15,16,17,43,44,48,51,71].elem f), isFrz := fun _ => false, clr := false, pre := tbX.O, lp := fun _ _ => none, n0 := 0 }

theorem envXOk : EnvOk envX := by
  intro f F h
  refine envOk f F ?_
  rw [envFn]
  exact h

theorem tbXOk : TbOk envX tbX := TbOk.nil.add (by kernel_rfl) fun args H v H' h _ => contC_ok contSaidX args H v H' h

noncomputable def psX : List (Nat × Nat) := []
noncomputable def dsX : List Nat := [12]
noncomputable def rX : Rec := (runP envX psX dsX tbX 5000 5000).d
/- MEMO -/
noncomputable def mA26_0 : List AV := [.agg [.esl [[.sc (.string ⟨#[114, 48]⟩), .sc (.int .i64 (2)), .sc (.int .i64 (4)), .sc (.int .i64 (0)), .sc (.slice none 0 0), .sc (.slice none 0 0)], [.sc (.string ⟨#[114, 49]⟩), .sc (.int .i64 (2)), .sc (.int .i64 (4)), .sc (.int .i64 (0)), .sc (.slice none 0 0), .sc (.slice none 0 0)], [.sc (.string ⟨#[114, 50]⟩), .sc (.int .i64 (2)), .sc (.int .i64 (4)), .sc (.int .i64 (0)), .sc (.slice none 0 0), .sc (.slice none 0 0)], [.sc (.string ⟨#[114, 51]⟩), .sc (.int .i64 (2)), .sc (.int .i64 (4)), .sc (.int .i64 (0)), .sc (.slice none 0 0), .sc (.slice none 0 0)], [.sc (.string ⟨#[114, 52]⟩), .sc (.int .i64 (2)), .sc (.int .i64 (4)), .sc (.int .i64 (0)), .sc (.slice none 0 0), .sc (.slice none 0 0)], [.sc (.string ⟨#[114, 53]⟩), .sc (.int .i64 (2)), .sc (.int .i64 (4)), .sc (.int .i64 (0)), .sc (.slice none 0 0), .sc (.slice none 0 0)], [.sc (.string ⟨#[114, 54]⟩), .sc (.int .i64 (2)), .sc (.int .i64 (4)), .sc (.int .i64 (0)), .sc (.slice none 0 0), .sc (.slice none 0 0)], [.sc (.string ⟨#[114, 55]⟩), .sc (.int .i64 (2)), .sc (.int .i64 (4)), .sc (.int .i64 (0)), .sc (.slice none 0 0), .sc (.slice none 0 0)], [.sc (.string ⟨#[102, 122]⟩), .sc (.int .i64 (2)), .sc (.int .i64 (4)), .sc (.int .i64 (0)), .sc (.slice none 0 0), .sc (.slice none 0 0)], [.sc (.string ⟨#[102, 110]⟩), .sc (.int .i64 (2)), .sc (.int .i64 (4)), .sc (.int .i64 (0)), .sc (.slice none 0 0), .sc (.slice none 0 0)], [.sc (.string ⟨#[102, 99]⟩), .sc (.int .i64 (2)), .sc (.int .i64 (4)), .sc (.int .i64 (0)), .sc (.slice none 0 0), .sc (.slice none 0 0)], [.sc (.string ⟨#[102, 118]⟩), .sc (.int .i64 (2)), .sc (.int .i64 (4)), .sc (.int .i64 (0)), .sc (.slice none 0 0), .sc (.slice none 0 0)]], .sc (.slice none 0 0), .esl [[.sc (.string ⟨#[109, 97, 105, 110]⟩), .sc (.slice none 0 0), .esl [[.sc (.int .i64 (15)), .sc (.int .i64 (0)), .sc (.string ⟨#[]⟩), .sc (.slice none 0 0), .sc (.slice none 0 0), .sc (.slice none 0 0), .sc (.slice none 0 0)]]]]]]
noncomputable def mV26_0 : AV := (.sc (.int .i64 (0)))

theorem mR26_0 : (callPure rX ⟨0, [], true⟩ 26 mA26_0).map (·.1) = some mV26_0 := by kernel_rfl

theorem mO26_0 : ∀ args H v' H', memoC mA26_0 mV26_0 args H = some (v', H') → Ok envX.P 26 args H v' H' :=
  memo_ok envXOk (fun _ _ => rfl) rfl psX dsX tbXOk 5000 5000 mR26_0 (by intro H; rfl) (by intro H; rfl) (by rfl)

noncomputable def mA26_1 : List AV := [.agg [.esl [[.sc (.string ⟨#[114, 48]⟩), .sc (.int .i64 (0)), .sc (.int .i64 (0)), .sc (.int .i64 (0)), .sc (.slice none 0 0), .sc (.slice none 0 0)], [.sc (.string ⟨#[114, 49]⟩), .sc (.int .i64 (0)), .sc (.int .i64 (0)), .sc (.int .i64 (0)), .sc (.slice none 0 0), .sc (.slice none 0 0)], [.sc (.string ⟨#[114, 50]⟩), .sc (.int .i64 (0)), .sc (.int .i64 (0)), .sc (.int .i64 (0)), .sc (.slice none 0 0), .sc (.slice none 0 0)], [.sc (.string ⟨#[114, 51]⟩), .sc (.int .i64 (0)), .sc (.int .i64 (0)), .sc (.int .i64 (0)), .sc (.slice none 0 0), .sc (.slice none 0 0)], [.sc (.string ⟨#[114, 52]⟩), .sc (.int .i64 (0)), .sc (.int .i64 (0)), .sc (.int .i64 (0)), .sc (.slice none 0 0), .sc (.slice none 0 0)], [.sc (.string ⟨#[114, 53]⟩), .sc (.int .i64 (0)), .sc (.int .i64 (0)), .sc (.int .i64 (0)), .sc (.slice none 0 0), .sc (.slice none 0 0)], [.sc (.string ⟨#[114, 54]⟩), .sc (.int .i64 (0)), .sc (.int .i64 (0)), .sc (.int .i64 (0)), .sc (.slice none 0 0), .sc (.slice none 0 0)], [.sc (.string ⟨#[114, 55]⟩), .sc (.int .i64 (0)), .sc (.int .i64 (0)), .sc (.int .i64 (0)), .sc (.slice none 0 0), .sc (.slice none 0 0)], [.sc (.string ⟨#[102, 122]⟩), .sc (.int .i64 (0)), .sc (.int .i64 (0)), .sc (.int .i64 (0)), .sc (.slice none 0 0), .sc (.slice none 0 0)], [.sc (.string ⟨#[102, 110]⟩), .sc (.int .i64 (0)), .sc (.int .i64 (0)), .sc (.int .i64 (0)), .sc (.slice none 0 0), .sc (.slice none 0 0)], [.sc (.string ⟨#[102, 99]⟩), .sc (.int .i64 (0)), .sc (.int .i64 (0)), .sc (.int .i64 (0)), .sc (.slice none 0 0), .sc (.slice none 0 0)], [.sc (.string ⟨#[102, 118]⟩), .sc (.int .i64 (0)), .sc (.int .i64 (0)), .sc (.int .i64 (0)), .sc (.slice none 0 0), .sc (.slice none 0 0)]], .sc (.slice none 0 0), .esl [[.sc (.string ⟨#[109, 97, 105, 110]⟩), .sc (.slice none 0 0), .esl [[.sc (.int .i64 (15)), .sc (.int .i64 (0)), .sc (.string ⟨#[]⟩), .sc (.slice none 0 0), .sc (.slice none 0 0), .sc (.slice none 0 0), .sc (.slice none 0 0)]]]]]]
noncomputable def mV26_1 : AV := (.sc (.int .i64 (0)))

theorem mR26_1 : (callPure rX ⟨0, [], true⟩ 26 mA26_1).map (·.1) = some mV26_1 := by kernel_rfl

theorem mO26_1 : ∀ args H v' H', memoC mA26_1 mV26_1 args H = some (v', H') → Ok envX.P 26 args H v' H' :=
  memo_ok envXOk (fun _ _ => rfl) rfl psX dsX tbXOk 5000 5000 mR26_1 (by intro H; rfl) (by intro H; rfl) (by rfl)

noncomputable def memo26 : List AV → Hp → Option (AV × Hp) := memoL [(mA26_0, mV26_0), (mA26_1, mV26_1)]

theorem memoOk26 : ∀ args H v' H', memo26 args H = some (v', H') → Ok envX.P 26 args H v' H' := memoL_ok fun m hm => by
  simp only [List.mem_cons, List.not_mem_nil, or_false] at hm

  rcases hm with rfl | rfl
  · exact mO26_0
  · exact mO26_1

noncomputable def mA103_0 : List AV := [.sc (.string ⟨#[114, 48, 32, 114, 49, 32, 114, 50, 32, 114, 51, 32, 114, 52, 32, 114, 53, 32, 114, 54, 32, 114, 55, 32, 102, 122, 32, 102, 110, 32, 102, 99, 32, 102, 118]⟩)]
noncomputable def mV103_0 : AV := (.esl [[.sc (.string ⟨#[114, 48]⟩)], [.sc (.string ⟨#[114, 49]⟩)], [.sc (.string ⟨#[114, 50]⟩)], [.sc (.string ⟨#[114, 51]⟩)], [.sc (.string ⟨#[114, 52]⟩)], [.sc (.string ⟨#[114, 53]⟩)], [.sc (.string ⟨#[114, 54]⟩)], [.sc (.string ⟨#[114, 55]⟩)], [.sc (.string ⟨#[102, 122]⟩)], [.sc (.string ⟨#[102, 110]⟩)], [.sc (.string ⟨#[102, 99]⟩)], [.sc (.string ⟨#[102, 118]⟩)]])

theorem mR103_0 : (callPure rX ⟨0, [], true⟩ 103 mA103_0).map (·.1) = some mV103_0 := by kernel_rfl

theorem mO103_0 : ∀ args H v' H', memoC mA103_0 mV103_0 args H = some (v', H') → Ok envX.P 103 args H v' H' :=
  memo_ok envXOk (fun _ _ => rfl) rfl psX dsX tbXOk 5000 5000 mR103_0 (by intro H; rfl) (by intro H; rfl) (by rfl)

noncomputable def memo103 : List AV → Hp → Option (AV × Hp) := memoL [(mA103_0, mV103_0)]

theorem memoOk103 : ∀ args H v' H', memo103 args H = some (v', H') → Ok envX.P 103 args H v' H' := memoL_ok fun m hm => by
  simp only [List.mem_cons, List.not_mem_nil, or_false] at hm

  subst hm; exact mO103_0

noncomputable def mA69_0 : List AV := [.esl [[.sc (.int .u32 (0)), .sc (.int .u32 (36912)), .sc (.int .i64 (5)), .sc (.int .i64 (2)), .sc (.int .i64 (0)), .sc (.int .i64 (0)), .sc (.int .i64 (7)), .sc (.int .i64 (0)), .sc (.int .i64 (0))], [.sc (.int .u32 (0)), .sc (.int .u32 (983036)), .sc (.int .i64 (5)), .sc (.int .i64 (2)), .sc (.int .i64 (0)), .sc (.int .i64 (0)), .sc (.int .i64 (0)), .sc (.int .i64 (0)), .sc (.int .i64 (0))], [.sc (.int .u32 (0)), .sc (.int .u32 (4124)), .sc (.int .i64 (5)), .sc (.int .i64 (2)), .sc (.int .i64 (0)), .sc (.int .i64 (0)), .sc (.int .i64 (2)), .sc (.int .i64 (0)), .sc (.int .i64 (0))], [.sc (.int .u32 (0)), .sc (.int .u32 (0)), .sc (.int .i64 (18)), .sc (.int .i64 (0)), .sc (.int .i64 (4)), .sc (.int .i64 (0)), .sc (.int .i64 (0)), .sc (.int .i64 (2)), .sc (.int .i64 (0))], [.sc (.int .u32 (0)), .sc (.int .u32 (0)), .sc (.int .i64 (23)), .sc (.int .i64 (0)), .sc (.int .i64 (0)), .sc (.int .i64 (0)), .sc (.int .i64 (0)), .sc (.int .i64 (0)), .sc (.int .i64 (0))], [.sc (.int .u32 (0)), .sc (.int .u32 (0)), .sc (.int .i64 (1)), .sc (.int .i64 (0)), .sc (.int .i64 (0)), .sc (.int .i64 (0)), .sc (.int .i64 (0)), .sc (.int .i64 (0)), .sc (.int .i64 (0))], [.sc (.int .u32 (0)), .sc (.int .u32 (0)), .sc (.int .i64 (1)), .sc (.int .i64 (0)), .sc (.int .i64 (0)), .sc (.int .i64 (0)), .sc (.int .i64 (0)), .sc (.int .i64 (0)), .sc (.int .i64 (0))], [.sc (.int .u32 (0)), .sc (.int .u32 (0)), .sc (.int .i64 (2)), .sc (.int .i64 (0)), .sc (.int .i64 (0)), .sc (.int .i64 (0)), .sc (.int .i64 (0)), .sc (.int .i64 (0)), .sc (.int .i64 (0))]], .esl [[.sc (.int .i64 (-1))], [.sc (.int .i64 (-1))], [.sc (.int .i64 (-1))], [.sc (.int .i64 (-1))], [.sc (.int .i64 (6))], [.sc (.int .i64 (-1))], [.sc (.int .i64 (-1))], [.sc (.int .i64 (-1))]], .sc (.int .u32 (0))]
noncomputable def mV69_0 : AV := .tup [.sl 1 9 0 8, .sc (.int .i64 (0))]
noncomputable def mH69_0 : Hp := ⟨21, [some (.cells [.sc (.int .u32 (0)), .sc (.int .u32 (6)), .sc (.int .u32 (12)), .sc (.int .u32 (18)), .sc (.int .u32 (21)), .sc (.int .u32 (26)), .sc (.int .u32 (27)), .sc (.int .u32 (28)), .sc (.int .u32 (29))]), some (.cells [.sc (.int .u32 (29))]), none, some (.cells [.sc (.int .u32 (28))]), none, some (.cells [.sc (.int .u32 (27))]), none, some (.cells [.sc (.int .u32 (26))]), none, some (.cells [.sc (.int .u32 (21))]), none, some (.cells [.sc (.int .u32 (18))]), none, some (.cells [.sc (.int .u32 (12))]), none, some (.cells [.sc (.int .u32 (6))]), none, some (.cells [.sc (.int .u32 (0))]), none, some (.cells [.sc (.int .u32 (0)), .sc (.int .u32 (36912)), .sc (.int .i64 (5)), .sc (.int .i64 (2)), .sc (.int .i64 (0)), .sc (.int .i64 (0)), .sc (.int .i64 (7)), .sc (.int .i64 (0)), .sc (.int .i64 (6)), .sc (.int .u32 (6)), .sc (.int .u32 (983036)), .sc (.int .i64 (5)), .sc (.int .i64 (2)), .sc (.int .i64 (0)), .sc (.int .i64 (0)), .sc (.int .i64 (0)), .sc (.int .i64 (0)), .sc (.int .i64 (6)), .sc (.int .u32 (12)), .sc (.int .u32 (4124)), .sc (.int .i64 (5)), .sc (.int .i64 (2)), .sc (.int .i64 (0)), .sc (.int .i64 (0)), .sc (.int .i64 (2)), .sc (.int .i64 (0)), .sc (.int .i64 (6)), .sc (.int .u32 (18)), .sc (.int .u32 (0)), .sc (.int .i64 (18)), .sc (.int .i64 (0)), .sc (.int .i64 (4)), .sc (.int .i64 (0)), .sc (.int .i64 (0)), .sc (.int .i64 (2)), .sc (.int .i64 (3)), .sc (.int .u32 (21)), .sc (.int .u32 (27)), .sc (.int .i64 (23)), .sc (.int .i64 (0)), .sc (.int .i64 (0)), .sc (.int .i64 (0)), .sc (.int .i64 (0)), .sc (.int .i64 (0)), .sc (.int .i64 (5)), .sc (.int .u32 (26)), .sc (.int .u32 (0)), .sc (.int .i64 (1)), .sc (.int .i64 (0)), .sc (.int .i64 (0)), .sc (.int .i64 (0)), .sc (.int .i64 (0)), .sc (.int .i64 (0)), .sc (.int .i64 (1)), .sc (.int .u32 (27)), .sc (.int .u32 (0)), .sc (.int .i64 (1)), .sc (.int .i64 (0)), .sc (.int .i64 (0)), .sc (.int .i64 (0)), .sc (.int .i64 (0)), .sc (.int .i64 (0)), .sc (.int .i64 (1)), .sc (.int .u32 (28)), .sc (.int .u32 (0)), .sc (.int .i64 (2)), .sc (.int .i64 (0)), .sc (.int .i64 (0)), .sc (.int .i64 (0)), .sc (.int .i64 (0)), .sc (.int .i64 (0)), .sc (.int .i64 (1))]), none], true⟩

theorem mR69_0 : rX 69 mA69_0 ⟨0, [], true⟩ = some (mV69_0, mH69_0) := by kernel_rfl

theorem mO69_0 : ∀ args H v' H', memoR mA69_0 mV69_0 mH69_0 args H = some (v', H') → Ok envX.P 69 args H v' H' :=
  memoR_ok envXOk (fun _ _ => rfl) rfl psX dsX tbXOk 5000 5000 mR69_0 (by rfl)

noncomputable def mA69_1 : List AV := [.esl [[.sc (.int .u32 (0)), .sc (.int .u32 (36912)), .sc (.int .i64 (5)), .sc (.int .i64 (2)), .sc (.int .i64 (0)), .sc (.int .i64 (0)), .sc (.int .i64 (7)), .sc (.int .i64 (0)), .sc (.int .i64 (0))], [.sc (.int .u32 (0)), .sc (.int .u32 (983036)), .sc (.int .i64 (5)), .sc (.int .i64 (2)), .sc (.int .i64 (0)), .sc (.int .i64 (0)), .sc (.int .i64 (0)), .sc (.int .i64 (0)), .sc (.int .i64 (0))], [.sc (.int .u32 (0)), .sc (.int .u32 (4124)), .sc (.int .i64 (5)), .sc (.int .i64 (2)), .sc (.int .i64 (0)), .sc (.int .i64 (0)), .sc (.int .i64 (2)), .sc (.int .i64 (0)), .sc (.int .i64 (0))], [.sc (.int .u32 (0)), .sc (.int .u32 (0)), .sc (.int .i64 (18)), .sc (.int .i64 (0)), .sc (.int .i64 (4)), .sc (.int .i64 (0)), .sc (.int .i64 (0)), .sc (.int .i64 (2)), .sc (.int .i64 (0))], [.sc (.int .u32 (0)), .sc (.int .u32 (0)), .sc (.int .i64 (23)), .sc (.int .i64 (0)), .sc (.int .i64 (0)), .sc (.int .i64 (0)), .sc (.int .i64 (0)), .sc (.int .i64 (0)), .sc (.int .i64 (0))], [.sc (.int .u32 (0)), .sc (.int .u32 (0)), .sc (.int .i64 (1)), .sc (.int .i64 (0)), .sc (.int .i64 (0)), .sc (.int .i64 (0)), .sc (.int .i64 (0)), .sc (.int .i64 (0)), .sc (.int .i64 (0))], [.sc (.int .u32 (0)), .sc (.int .u32 (0)), .sc (.int .i64 (1)), .sc (.int .i64 (0)), .sc (.int .i64 (0)), .sc (.int .i64 (0)), .sc (.int .i64 (0)), .sc (.int .i64 (0)), .sc (.int .i64 (0))], [.sc (.int .u32 (0)), .sc (.int .u32 (0)), .sc (.int .i64 (2)), .sc (.int .i64 (0)), .sc (.int .i64 (0)), .sc (.int .i64 (0)), .sc (.int .i64 (0)), .sc (.int .i64 (0)), .sc (.int .i64 (0))]], .esl [[.sc (.int .i64 (-1))], [.sc (.int .i64 (-1))], [.sc (.int .i64 (-1))], [.sc (.int .i64 (-1))], [.sc (.int .i64 (6))], [.sc (.int .i64 (-1))], [.sc (.int .i64 (-1))], [.sc (.int .i64 (-1))]], .sc (.int .u32 (36912))]
noncomputable def mV69_1 : AV := .tup [.sl 1 9 0 8, .sc (.int .i64 (0))]
noncomputable def mH69_1 : Hp := ⟨21, [some (.cells [.sc (.int .u32 (36912)), .sc (.int .u32 (36918)), .sc (.int .u32 (36924)), .sc (.int .u32 (36930)), .sc (.int .u32 (36933)), .sc (.int .u32 (36938)), .sc (.int .u32 (36939)), .sc (.int .u32 (36940)), .sc (.int .u32 (36941))]), some (.cells [.sc (.int .u32 (36941))]), none, some (.cells [.sc (.int .u32 (36940))]), none, some (.cells [.sc (.int .u32 (36939))]), none, some (.cells [.sc (.int .u32 (36938))]), none, some (.cells [.sc (.int .u32 (36933))]), none, some (.cells [.sc (.int .u32 (36930))]), none, some (.cells [.sc (.int .u32 (36924))]), none, some (.cells [.sc (.int .u32 (36918))]), none, some (.cells [.sc (.int .u32 (36912))]), none, some (.cells [.sc (.int .u32 (36912)), .sc (.int .u32 (36912)), .sc (.int .i64 (5)), .sc (.int .i64 (2)), .sc (.int .i64 (0)), .sc (.int .i64 (0)), .sc (.int .i64 (7)), .sc (.int .i64 (0)), .sc (.int .i64 (6)), .sc (.int .u32 (36918)), .sc (.int .u32 (983036)), .sc (.int .i64 (5)), .sc (.int .i64 (2)), .sc (.int .i64 (0)), .sc (.int .i64 (0)), .sc (.int .i64 (0)), .sc (.int .i64 (0)), .sc (.int .i64 (6)), .sc (.int .u32 (36924)), .sc (.int .u32 (4124)), .sc (.int .i64 (5)), .sc (.int .i64 (2)), .sc (.int .i64 (0)), .sc (.int .i64 (0)), .sc (.int .i64 (2)), .sc (.int .i64 (0)), .sc (.int .i64 (6)), .sc (.int .u32 (36930)), .sc (.int .u32 (0)), .sc (.int .i64 (18)), .sc (.int .i64 (0)), .sc (.int .i64 (4)), .sc (.int .i64 (0)), .sc (.int .i64 (0)), .sc (.int .i64 (2)), .sc (.int .i64 (3)), .sc (.int .u32 (36933)), .sc (.int .u32 (36939)), .sc (.int .i64 (23)), .sc (.int .i64 (0)), .sc (.int .i64 (0)), .sc (.int .i64 (0)), .sc (.int .i64 (0)), .sc (.int .i64 (0)), .sc (.int .i64 (5)), .sc (.int .u32 (36938)), .sc (.int .u32 (0)), .sc (.int .i64 (1)), .sc (.int .i64 (0)), .sc (.int .i64 (0)), .sc (.int .i64 (0)), .sc (.int .i64 (0)), .sc (.int .i64 (0)), .sc (.int .i64 (1)), .sc (.int .u32 (36939)), .sc (.int .u32 (0)), .sc (.int .i64 (1)), .sc (.int .i64 (0)), .sc (.int .i64 (0)), .sc (.int .i64 (0)), .sc (.int .i64 (0)), .sc (.int .i64 (0)), .sc (.int .i64 (1)), .sc (.int .u32 (36940)), .sc (.int .u32 (0)), .sc (.int .i64 (2)), .sc (.int .i64 (0)), .sc (.int .i64 (0)), .sc (.int .i64 (0)), .sc (.int .i64 (0)), .sc (.int .i64 (0)), .sc (.int .i64 (1))]), none], true⟩

theorem mR69_1 : rX 69 mA69_1 ⟨0, [], true⟩ = some (mV69_1, mH69_1) := by kernel_rfl

theorem mO69_1 : ∀ args H v' H', memoR mA69_1 mV69_1 mH69_1 args H = some (v', H') → Ok envX.P 69 args H v' H' :=
  memoR_ok envXOk (fun _ _ => rfl) rfl psX dsX tbXOk 5000 5000 mR69_1 (by rfl)

noncomputable def memo69 : List AV → Hp → Option (AV × Hp) := memoRL [(mA69_0, mV69_0, mH69_0), (mA69_1, mV69_1, mH69_1)]

theorem memoOk69 : ∀ args H v' H', memo69 args H = some (v', H') → Ok envX.P 69 args H v' H' := memoRL_ok fun m hm => by
  simp only [List.mem_cons, List.not_mem_nil, or_false] at hm

  rcases hm with rfl | rfl
  · exact mO69_0
  · exact mO69_1

noncomputable def mA70_0 : List AV := [.esl [[.sc (.int .u32 (0)), .sc (.int .u32 (36912)), .sc (.int .i64 (5)), .sc (.int .i64 (2)), .sc (.int .i64 (0)), .sc (.int .i64 (0)), .sc (.int .i64 (7)), .sc (.int .i64 (0)), .sc (.int .i64 (6))], [.sc (.int .u32 (6)), .sc (.int .u32 (983036)), .sc (.int .i64 (5)), .sc (.int .i64 (2)), .sc (.int .i64 (0)), .sc (.int .i64 (0)), .sc (.int .i64 (0)), .sc (.int .i64 (0)), .sc (.int .i64 (6))], [.sc (.int .u32 (12)), .sc (.int .u32 (4124)), .sc (.int .i64 (5)), .sc (.int .i64 (2)), .sc (.int .i64 (0)), .sc (.int .i64 (0)), .sc (.int .i64 (2)), .sc (.int .i64 (0)), .sc (.int .i64 (6))], [.sc (.int .u32 (18)), .sc (.int .u32 (0)), .sc (.int .i64 (18)), .sc (.int .i64 (0)), .sc (.int .i64 (4)), .sc (.int .i64 (0)), .sc (.int .i64 (0)), .sc (.int .i64 (2)), .sc (.int .i64 (3))], [.sc (.int .u32 (21)), .sc (.int .u32 (27)), .sc (.int .i64 (23)), .sc (.int .i64 (0)), .sc (.int .i64 (0)), .sc (.int .i64 (0)), .sc (.int .i64 (0)), .sc (.int .i64 (0)), .sc (.int .i64 (5))], [.sc (.int .u32 (26)), .sc (.int .u32 (0)), .sc (.int .i64 (1)), .sc (.int .i64 (0)), .sc (.int .i64 (0)), .sc (.int .i64 (0)), .sc (.int .i64 (0)), .sc (.int .i64 (0)), .sc (.int .i64 (1))], [.sc (.int .u32 (27)), .sc (.int .u32 (0)), .sc (.int .i64 (1)), .sc (.int .i64 (0)), .sc (.int .i64 (0)), .sc (.int .i64 (0)), .sc (.int .i64 (0)), .sc (.int .i64 (0)), .sc (.int .i64 (1))], [.sc (.int .u32 (28)), .sc (.int .u32 (0)), .sc (.int .i64 (2)), .sc (.int .i64 (0)), .sc (.int .i64 (0)), .sc (.int .i64 (0)), .sc (.int .i64 (0)), .sc (.int .i64 (0)), .sc (.int .i64 (1))]]]
noncomputable def mV70_0 : AV := .tup [.sl 16 1 0 29, .sc (.int .i64 (0))]
noncomputable def mH70_0 : Hp := ⟨17, [some (.cells [.sc (.int .u8 (64)), .sc (.int .u8 (7)), .sc (.int .u8 (48)), .sc (.int .u8 (144)), .sc (.int .u8 (0)), .sc (.int .u8 (0)), .sc (.int .u8 (64)), .sc (.int .u8 (0)), .sc (.int .u8 (252)), .sc (.int .u8 (255)), .sc (.int .u8 (14)), .sc (.int .u8 (0)), .sc (.int .u8 (64)), .sc (.int .u8 (2)), .sc (.int .u8 (28)), .sc (.int .u8 (16)), .sc (.int .u8 (0)), .sc (.int .u8 (0)), .sc (.int .u8 (85)), .sc (.int .u8 (2)), .sc (.int .u8 (0)), .sc (.int .u8 (128)), .sc (.int .u8 (1)), .sc (.int .u8 (0)), .sc (.int .u8 (0)), .sc (.int .u8 (0)), .sc (.int .u8 (1)), .sc (.int .u8 (1)), .sc (.int .u8 (2))]), some (.cells [.sc (.int .u32 (28)), .sc (.int .u32 (0)), .sc (.int .i64 (2)), .sc (.int .i64 (0)), .sc (.int .i64 (0)), .sc (.int .i64 (0)), .sc (.int .i64 (0)), .sc (.int .i64 (0)), .sc (.int .i64 (1))]), none, some (.cells [.sc (.int .u32 (27)), .sc (.int .u32 (0)), .sc (.int .i64 (1)), .sc (.int .i64 (0)), .sc (.int .i64 (0)), .sc (.int .i64 (0)), .sc (.int .i64 (0)), .sc (.int .i64 (0)), .sc (.int .i64 (1))]), none, some (.cells [.sc (.int .u32 (26)), .sc (.int .u32 (0)), .sc (.int .i64 (1)), .sc (.int .i64 (0)), .sc (.int .i64 (0)), .sc (.int .i64 (0)), .sc (.int .i64 (0)), .sc (.int .i64 (0)), .sc (.int .i64 (1))]), none, some (.cells [.sc (.int .u32 (21)), .sc (.int .u32 (27)), .sc (.int .i64 (23)), .sc (.int .i64 (0)), .sc (.int .i64 (0)), .sc (.int .i64 (0)), .sc (.int .i64 (0)), .sc (.int .i64 (0)), .sc (.int .i64 (5))]), none, some (.cells [.sc (.int .u32 (18)), .sc (.int .u32 (0)), .sc (.int .i64 (18)), .sc (.int .i64 (0)), .sc (.int .i64 (4)), .sc (.int .i64 (0)), .sc (.int .i64 (0)), .sc (.int .i64 (2)), .sc (.int .i64 (3))]), none, some (.cells [.sc (.int .u32 (12)), .sc (.int .u32 (4124)), .sc (.int .i64 (5)), .sc (.int .i64 (2)), .sc (.int .i64 (0)), .sc (.int .i64 (0)), .sc (.int .i64 (2)), .sc (.int .i64 (0)), .sc (.int .i64 (6))]), none, some (.cells [.sc (.int .u32 (6)), .sc (.int .u32 (983036)), .sc (.int .i64 (5)), .sc (.int .i64 (2)), .sc (.int .i64 (0)), .sc (.int .i64 (0)), .sc (.int .i64 (0)), .sc (.int .i64 (0)), .sc (.int .i64 (6))]), none, some (.cells [.sc (.int .u32 (0)), .sc (.int .u32 (36912)), .sc (.int .i64 (5)), .sc (.int .i64 (2)), .sc (.int .i64 (0)), .sc (.int .i64 (0)), .sc (.int .i64 (7)), .sc (.int .i64 (0)), .sc (.int .i64 (6))]), some (.cells [.sl 16 1 0 29])], true⟩

theorem mR70_0 : rX 70 mA70_0 ⟨0, [], true⟩ = some (mV70_0, mH70_0) := by kernel_rfl

theorem mO70_0 : ∀ args H v' H', memoR mA70_0 mV70_0 mH70_0 args H = some (v', H') → Ok envX.P 70 args H v' H' :=
  memoR_ok envXOk (fun _ _ => rfl) rfl psX dsX tbXOk 5000 5000 mR70_0 (by rfl)

noncomputable def mA70_1 : List AV := [.esl [[.sc (.int .u32 (36912)), .sc (.int .u32 (36912)), .sc (.int .i64 (5)), .sc (.int .i64 (2)), .sc (.int .i64 (0)), .sc (.int .i64 (0)), .sc (.int .i64 (7)), .sc (.int .i64 (0)), .sc (.int .i64 (6))], [.sc (.int .u32 (36918)), .sc (.int .u32 (983036)), .sc (.int .i64 (5)), .sc (.int .i64 (2)), .sc (.int .i64 (0)), .sc (.int .i64 (0)), .sc (.int .i64 (0)), .sc (.int .i64 (0)), .sc (.int .i64 (6))], [.sc (.int .u32 (36924)), .sc (.int .u32 (4124)), .sc (.int .i64 (5)), .sc (.int .i64 (2)), .sc (.int .i64 (0)), .sc (.int .i64 (0)), .sc (.int .i64 (2)), .sc (.int .i64 (0)), .sc (.int .i64 (6))], [.sc (.int .u32 (36930)), .sc (.int .u32 (0)), .sc (.int .i64 (18)), .sc (.int .i64 (0)), .sc (.int .i64 (4)), .sc (.int .i64 (0)), .sc (.int .i64 (0)), .sc (.int .i64 (2)), .sc (.int .i64 (3))], [.sc (.int .u32 (36933)), .sc (.int .u32 (36939)), .sc (.int .i64 (23)), .sc (.int .i64 (0)), .sc (.int .i64 (0)), .sc (.int .i64 (0)), .sc (.int .i64 (0)), .sc (.int .i64 (0)), .sc (.int .i64 (5))], [.sc (.int .u32 (36938)), .sc (.int .u32 (0)), .sc (.int .i64 (1)), .sc (.int .i64 (0)), .sc (.int .i64 (0)), .sc (.int .i64 (0)), .sc (.int .i64 (0)), .sc (.int .i64 (0)), .sc (.int .i64 (1))], [.sc (.int .u32 (36939)), .sc (.int .u32 (0)), .sc (.int .i64 (1)), .sc (.int .i64 (0)), .sc (.int .i64 (0)), .sc (.int .i64 (0)), .sc (.int .i64 (0)), .sc (.int .i64 (0)), .sc (.int .i64 (1))], [.sc (.int .u32 (36940)), .sc (.int .u32 (0)), .sc (.int .i64 (2)), .sc (.int .i64 (0)), .sc (.int .i64 (0)), .sc (.int .i64 (0)), .sc (.int .i64 (0)), .sc (.int .i64 (0)), .sc (.int .i64 (1))]]]
noncomputable def mV70_1 : AV := .tup [.sl 16 1 0 29, .sc (.int .i64 (0))]
noncomputable def mH70_1 : Hp := ⟨17, [some (.cells [.sc (.int .u8 (64)), .sc (.int .u8 (7)), .sc (.int .u8 (48)), .sc (.int .u8 (144)), .sc (.int .u8 (0)), .sc (.int .u8 (0)), .sc (.int .u8 (64)), .sc (.int .u8 (0)), .sc (.int .u8 (252)), .sc (.int .u8 (255)), .sc (.int .u8 (14)), .sc (.int .u8 (0)), .sc (.int .u8 (64)), .sc (.int .u8 (2)), .sc (.int .u8 (28)), .sc (.int .u8 (16)), .sc (.int .u8 (0)), .sc (.int .u8 (0)), .sc (.int .u8 (85)), .sc (.int .u8 (2)), .sc (.int .u8 (0)), .sc (.int .u8 (128)), .sc (.int .u8 (1)), .sc (.int .u8 (0)), .sc (.int .u8 (0)), .sc (.int .u8 (0)), .sc (.int .u8 (1)), .sc (.int .u8 (1)), .sc (.int .u8 (2))]), some (.cells [.sc (.int .u32 (36940)), .sc (.int .u32 (0)), .sc (.int .i64 (2)), .sc (.int .i64 (0)), .sc (.int .i64 (0)), .sc (.int .i64 (0)), .sc (.int .i64 (0)), .sc (.int .i64 (0)), .sc (.int .i64 (1))]), none, some (.cells [.sc (.int .u32 (36939)), .sc (.int .u32 (0)), .sc (.int .i64 (1)), .sc (.int .i64 (0)), .sc (.int .i64 (0)), .sc (.int .i64 (0)), .sc (.int .i64 (0)), .sc (.int .i64 (0)), .sc (.int .i64 (1))]), none, some (.cells [.sc (.int .u32 (36938)), .sc (.int .u32 (0)), .sc (.int .i64 (1)), .sc (.int .i64 (0)), .sc (.int .i64 (0)), .sc (.int .i64 (0)), .sc (.int .i64 (0)), .sc (.int .i64 (0)), .sc (.int .i64 (1))]), none, some (.cells [.sc (.int .u32 (36933)), .sc (.int .u32 (36939)), .sc (.int .i64 (23)), .sc (.int .i64 (0)), .sc (.int .i64 (0)), .sc (.int .i64 (0)), .sc (.int .i64 (0)), .sc (.int .i64 (0)), .sc (.int .i64 (5))]), none, some (.cells [.sc (.int .u32 (36930)), .sc (.int .u32 (0)), .sc (.int .i64 (18)), .sc (.int .i64 (0)), .sc (.int .i64 (4)), .sc (.int .i64 (0)), .sc (.int .i64 (0)), .sc (.int .i64 (2)), .sc (.int .i64 (3))]), none, some (.cells [.sc (.int .u32 (36924)), .sc (.int .u32 (4124)), .sc (.int .i64 (5)), .sc (.int .i64 (2)), .sc (.int .i64 (0)), .sc (.int .i64 (0)), .sc (.int .i64 (2)), .sc (.int .i64 (0)), .sc (.int .i64 (6))]), none, some (.cells [.sc (.int .u32 (36918)), .sc (.int .u32 (983036)), .sc (.int .i64 (5)), .sc (.int .i64 (2)), .sc (.int .i64 (0)), .sc (.int .i64 (0)), .sc (.int .i64 (0)), .sc (.int .i64 (0)), .sc (.int .i64 (6))]), none, some (.cells [.sc (.int .u32 (36912)), .sc (.int .u32 (36912)), .sc (.int .i64 (5)), .sc (.int .i64 (2)), .sc (.int .i64 (0)), .sc (.int .i64 (0)), .sc (.int .i64 (7)), .sc (.int .i64 (0)), .sc (.int .i64 (6))]), some (.cells [.sl 16 1 0 29])], true⟩

theorem mR70_1 : rX 70 mA70_1 ⟨0, [], true⟩ = some (mV70_1, mH70_1) := by kernel_rfl

theorem mO70_1 : ∀ args H v' H', memoR mA70_1 mV70_1 mH70_1 args H = some (v', H') → Ok envX.P 70 args H v' H' :=
  memoR_ok envXOk (fun _ _ => rfl) rfl psX dsX tbXOk 5000 5000 mR70_1 (by rfl)

noncomputable def memo70 : List AV → Hp → Option (AV × Hp) := memoRL [(mA70_0, mV70_0, mH70_0), (mA70_1, mV70_1, mH70_1)]

theorem memoOk70 : ∀ args H v' H', memo70 args H = some (v', H') → Ok envX.P 70 args H v' H' := memoRL_ok fun m hm => by
  simp only [List.mem_cons, List.not_mem_nil, or_false] at hm

  rcases hm with rfl | rfl
  · exact mO70_0
  · exact mO70_1

noncomputable def tbY : Tb := ((((tbX.add 26 memo26 (fun _ _ => [])).add 69 memo69 (fun _ _ => [])).add 70 memo70 (fun _ _ => [])).add 103 memo103 (fun _ _ => []))
noncomputable def envY : Env := { envX with pre := tbY.O }
theorem envYOk : EnvOk envY := envXOk

theorem tbXOkY : TbOk envY tbX := TbOk.nil.add (by kernel_rfl) fun args H v H' h _ => contC_ok contSaidX args H v H' h

theorem tbYOk : TbOk envY tbY := ((((tbXOkY.add (by kernel_rfl) fun args H v H' h _ => memoOk26 args H v H' h).add (by kernel_rfl) fun args H v H' h _ => memoOk69 args H v H' h).add (by kernel_rfl) fun args H v H' h _ => memoOk70 args H v H' h).add (by kernel_rfl) fun args H v H' h _ => memoOk103 args H v H' h)

/- OMEM -/
def S10 : FunS := ⟨[], [], [⟨true, .bool⟩], []⟩
theorem ex10 : liftC envY tbY (runP envY psX dsX tbY 5000 5000).d 10 S10 [] = some [.bool true] := by kernel_rfl

noncomputable def q10 : List D → Option (List D) := veil fun ds => liftC envY tbY (runP envY psX dsX tbY 5000 5000).d 10 S10 ds
theorem q10_eq : q10 [] = some [.bool true] := by unfold q10; rw [veil_eq]; exact ex10
theorem sound10 : SoundF env.P 10 S10 q10 := by
  unfold q10; rw [veil_eq]
  exact liftC_sound envY tbY (runP_sound envYOk (fun _ _ => rfl) rfl psX dsX tbYOk 5000 5000)

end Go.Proofs.YteccopaonadbeaaGreatDoor

open Go Go.AM
namespace Go.Proofs.YteccopaonadbeaaGreatDoor
set_option maxRecDepth 100000
set_option linter.unusedSimpArgs false
set_option linter.unusedVariables false
/- function 27  -/

def S27 : FunS := ⟨[⟨true, (.int .i64)⟩, ⟨true, (.int .u32)⟩], [], [⟨true, (.dat 26)⟩], []⟩

noncomputable def F27 : List D → Option (List D) := liftX env Tb.nil 60 12 27 S27

theorem F27_eq  (sn0 : Int) (sn1 : Int) : F27  [(D.int sn0), (D.int sn1)] =
    some [(D.agg [(D.int 0), (D.int sn1), (D.int 5), (D.int 2), (D.int 0), (D.int 0), (D.int sn0), (D.int 0), (D.int 0)])] := by kernel_rfl

noncomputable def q27 : List D → Option (List D) := veil (F27 )

theorem q27_eq : q27  = F27  := veil_eq _

noncomputable def tb27 : Tb := Tb.addF Tb.nil 27 S27 (q27 )

theorem ok_tb27 : TbOk env (tb27 ) := addFunF ok_nil 27 (by kernel_rfl) _ (q27_eq )

/- function 28  -/

def S28 : FunS := ⟨[⟨true, (.int .i64)⟩, ⟨true, (.int .u32)⟩], [], [⟨true, (.dat 26)⟩], []⟩

noncomputable def F28 : List D → Option (List D) := liftX env tb27 60 12 28 S28

theorem F28_eq  (sn0 : Int) (sn1 : Int) : F28  [(D.int sn0), (D.int sn1)] =
    some [(D.agg [(D.int 0), (D.int sn1), (D.int 5), (D.int 2), (D.int 0), (D.int 0), (D.int sn0), (D.int 0), (D.int 0)])] := by kernel_rfl

noncomputable def q28 : List D → Option (List D) := veil (F28 )

theorem q28_eq : q28  = F28  := veil_eq _

noncomputable def tb28 : Tb := Tb.addF tb27 28 S28 (q28 )

theorem ok_tb28 : TbOk env (tb28 ) := addFunF ok_tb27 28 (by kernel_rfl) _ (q28_eq )

/- function 8  -/

def S8 : FunS := ⟨[⟨true, (.int .i64)⟩], [], [⟨true, (.rows 26)⟩], []⟩

noncomputable def F8 : List D → Option (List D) := liftX env tb28 60 12 8 S8

theorem F8_eq  (sn0 : Int) : F8  [(D.int sn0)] =
    bif (qsome (Proofs.YteccopaonadbeaaGreatDoor.q27 [(D.int 7), (D.int 0)])) then
      bif (qiteB (qcmp BinOp.geq sn0 0) (qcmp BinOp.lss sn0 256) Bool.false) then
        bif (qsome (Proofs.YteccopaonadbeaaGreatDoor.q27 [(D.int 0), (D.int 983036)])) then
          bif (qsome (Proofs.YteccopaonadbeaaGreatDoor.q27 [(D.int 2), (D.int (qwrap IntKind.u32 (qbin BinOp.mul IntKind.i64 4 sn0)))])) then
            some [(D.list [(D.agg [(D.int (qint (qfld (qnth (Proofs.YteccopaonadbeaaGreatDoor.q27 [(D.int 7), (D.int 0)]) 0) 0))), (D.int (qint (qfld (qnth (Proofs.YteccopaonadbeaaGreatDoor.q27 [(D.int 7), (D.int 0)]) 0) 1))), (D.int (qint (qfld (qnth (Proofs.YteccopaonadbeaaGreatDoor.q27 [(D.int 7), (D.int 0)]) 0) 2))), (D.int (qint (qfld (qnth (Proofs.YteccopaonadbeaaGreatDoor.q27 [(D.int 7), (D.int 0)]) 0) 3))), (D.int (qint (qfld (qnth (Proofs.YteccopaonadbeaaGreatDoor.q27 [(D.int 7), (D.int 0)]) 0) 4))), (D.int (qint (qfld (qnth (Proofs.YteccopaonadbeaaGreatDoor.q27 [(D.int 7), (D.int 0)]) 0) 5))), (D.int (qint (qfld (qnth (Proofs.YteccopaonadbeaaGreatDoor.q27 [(D.int 7), (D.int 0)]) 0) 6))), (D.int (qint (qfld (qnth (Proofs.YteccopaonadbeaaGreatDoor.q27 [(D.int 7), (D.int 0)]) 0) 7))), (D.int (qint (qfld (qnth (Proofs.YteccopaonadbeaaGreatDoor.q27 [(D.int 7), (D.int 0)]) 0) 8)))]), (D.agg [(D.int (qint (qfld (qnth (Proofs.YteccopaonadbeaaGreatDoor.q27 [(D.int 0), (D.int 983036)]) 0) 0))), (D.int (qint (qfld (qnth (Proofs.YteccopaonadbeaaGreatDoor.q27 [(D.int 0), (D.int 983036)]) 0) 1))), (D.int (qint (qfld (qnth (Proofs.YteccopaonadbeaaGreatDoor.q27 [(D.int 0), (D.int 983036)]) 0) 2))), (D.int (qint (qfld (qnth (Proofs.YteccopaonadbeaaGreatDoor.q27 [(D.int 0), (D.int 983036)]) 0) 3))), (D.int (qint (qfld (qnth (Proofs.YteccopaonadbeaaGreatDoor.q27 [(D.int 0), (D.int 983036)]) 0) 4))), (D.int (qint (qfld (qnth (Proofs.YteccopaonadbeaaGreatDoor.q27 [(D.int 0), (D.int 983036)]) 0) 5))), (D.int (qint (qfld (qnth (Proofs.YteccopaonadbeaaGreatDoor.q27 [(D.int 0), (D.int 983036)]) 0) 6))), (D.int (qint (qfld (qnth (Proofs.YteccopaonadbeaaGreatDoor.q27 [(D.int 0), (D.int 983036)]) 0) 7))), (D.int (qint (qfld (qnth (Proofs.YteccopaonadbeaaGreatDoor.q27 [(D.int 0), (D.int 983036)]) 0) 8)))]), (D.agg [(D.int (qint (qfld (qnth (Proofs.YteccopaonadbeaaGreatDoor.q27 [(D.int 2), (D.int (qwrap IntKind.u32 (qbin BinOp.mul IntKind.i64 4 sn0)))]) 0) 0))), (D.int (qint (qfld (qnth (Proofs.YteccopaonadbeaaGreatDoor.q27 [(D.int 2), (D.int (qwrap IntKind.u32 (qbin BinOp.mul IntKind.i64 4 sn0)))]) 0) 1))), (D.int (qint (qfld (qnth (Proofs.YteccopaonadbeaaGreatDoor.q27 [(D.int 2), (D.int (qwrap IntKind.u32 (qbin BinOp.mul IntKind.i64 4 sn0)))]) 0) 2))), (D.int (qint (qfld (qnth (Proofs.YteccopaonadbeaaGreatDoor.q27 [(D.int 2), (D.int (qwrap IntKind.u32 (qbin BinOp.mul IntKind.i64 4 sn0)))]) 0) 3))), (D.int (qint (qfld (qnth (Proofs.YteccopaonadbeaaGreatDoor.q27 [(D.int 2), (D.int (qwrap IntKind.u32 (qbin BinOp.mul IntKind.i64 4 sn0)))]) 0) 4))), (D.int (qint (qfld (qnth (Proofs.YteccopaonadbeaaGreatDoor.q27 [(D.int 2), (D.int (qwrap IntKind.u32 (qbin BinOp.mul IntKind.i64 4 sn0)))]) 0) 5))), (D.int (qint (qfld (qnth (Proofs.YteccopaonadbeaaGreatDoor.q27 [(D.int 2), (D.int (qwrap IntKind.u32 (qbin BinOp.mul IntKind.i64 4 sn0)))]) 0) 6))), (D.int (qint (qfld (qnth (Proofs.YteccopaonadbeaaGreatDoor.q27 [(D.int 2), (D.int (qwrap IntKind.u32 (qbin BinOp.mul IntKind.i64 4 sn0)))]) 0) 7))), (D.int (qint (qfld (qnth (Proofs.YteccopaonadbeaaGreatDoor.q27 [(D.int 2), (D.int (qwrap IntKind.u32 (qbin BinOp.mul IntKind.i64 4 sn0)))]) 0) 8)))]), (D.agg [(D.int 0), (D.int 0), (D.int 18), (D.int 0), (D.int 4), (D.int 0), (D.int 0), (D.int 2), (D.int 0)]), (D.agg [(D.int 0), (D.int 0), (D.int 23), (D.int 0), (D.int 0), (D.int 0), (D.int 0), (D.int 0), (D.int 0)]), (D.agg [(D.int 0), (D.int 0), (D.int 1), (D.int 0), (D.int 0), (D.int 0), (D.int 0), (D.int 0), (D.int 0)])])]
          else
            none
        else
          none
      else
        some [(D.list [(D.agg [(D.int (qint (qfld (qnth (Proofs.YteccopaonadbeaaGreatDoor.q27 [(D.int 7), (D.int 0)]) 0) 0))), (D.int (qint (qfld (qnth (Proofs.YteccopaonadbeaaGreatDoor.q27 [(D.int 7), (D.int 0)]) 0) 1))), (D.int (qint (qfld (qnth (Proofs.YteccopaonadbeaaGreatDoor.q27 [(D.int 7), (D.int 0)]) 0) 2))), (D.int (qint (qfld (qnth (Proofs.YteccopaonadbeaaGreatDoor.q27 [(D.int 7), (D.int 0)]) 0) 3))), (D.int (qint (qfld (qnth (Proofs.YteccopaonadbeaaGreatDoor.q27 [(D.int 7), (D.int 0)]) 0) 4))), (D.int (qint (qfld (qnth (Proofs.YteccopaonadbeaaGreatDoor.q27 [(D.int 7), (D.int 0)]) 0) 5))), (D.int (qint (qfld (qnth (Proofs.YteccopaonadbeaaGreatDoor.q27 [(D.int 7), (D.int 0)]) 0) 6))), (D.int (qint (qfld (qnth (Proofs.YteccopaonadbeaaGreatDoor.q27 [(D.int 7), (D.int 0)]) 0) 7))), (D.int (qint (qfld (qnth (Proofs.YteccopaonadbeaaGreatDoor.q27 [(D.int 7), (D.int 0)]) 0) 8)))]), (D.agg [(D.int 0), (D.int 0), (D.int 23), (D.int 0), (D.int 0), (D.int 0), (D.int 0), (D.int 0), (D.int 0)]), (D.agg [(D.int 0), (D.int 0), (D.int 1), (D.int 0), (D.int 0), (D.int 0), (D.int 0), (D.int 0), (D.int 0)])])]
    else
      none := by kernel_rfl

noncomputable def q8 : List D → Option (List D) := veil (F8 )

theorem q8_eq : q8  = F8  := veil_eq _

noncomputable def tb8 : Tb := Tb.addF tb28 8 S8 (q8 )

theorem ok_tb8 : TbOk env (tb8 ) := addFunF ok_tb28 8 (by kernel_rfl) _ (q8_eq )

/- function 9  -/

def S9 : FunS := ⟨[⟨true, (.int .i64)⟩], [], [⟨true, (.rows 26)⟩], []⟩

noncomputable def F9 : List D → Option (List D) := liftX env tb8 60 12 9 S9

theorem F9_eq  (sn0 : Int) : F9  [(D.int sn0)] =
    bif (qsome (Proofs.YteccopaonadbeaaGreatDoor.q28 [(D.int 7), (D.int 0)])) then
      bif (qiteB (qcmp BinOp.geq sn0 0) (qcmp BinOp.lss sn0 256) Bool.false) then
        bif (qsome (Proofs.YteccopaonadbeaaGreatDoor.q28 [(D.int 0), (D.int 983036)])) then
          bif (qsome (Proofs.YteccopaonadbeaaGreatDoor.q28 [(D.int 2), (D.int (qwrap IntKind.u32 (qbin BinOp.mul IntKind.i64 4 sn0)))])) then
            some [(D.list [(D.agg [(D.int (qint (qfld (qnth (Proofs.YteccopaonadbeaaGreatDoor.q28 [(D.int 7), (D.int 0)]) 0) 0))), (D.int (qint (qfld (qnth (Proofs.YteccopaonadbeaaGreatDoor.q28 [(D.int 7), (D.int 0)]) 0) 1))), (D.int (qint (qfld (qnth (Proofs.YteccopaonadbeaaGreatDoor.q28 [(D.int 7), (D.int 0)]) 0) 2))), (D.int (qint (qfld (qnth (Proofs.YteccopaonadbeaaGreatDoor.q28 [(D.int 7), (D.int 0)]) 0) 3))), (D.int (qint (qfld (qnth (Proofs.YteccopaonadbeaaGreatDoor.q28 [(D.int 7), (D.int 0)]) 0) 4))), (D.int (qint (qfld (qnth (Proofs.YteccopaonadbeaaGreatDoor.q28 [(D.int 7), (D.int 0)]) 0) 5))), (D.int (qint (qfld (qnth (Proofs.YteccopaonadbeaaGreatDoor.q28 [(D.int 7), (D.int 0)]) 0) 6))), (D.int (qint (qfld (qnth (Proofs.YteccopaonadbeaaGreatDoor.q28 [(D.int 7), (D.int 0)]) 0) 7))), (D.int (qint (qfld (qnth (Proofs.YteccopaonadbeaaGreatDoor.q28 [(D.int 7), (D.int 0)]) 0) 8)))]), (D.agg [(D.int (qint (qfld (qnth (Proofs.YteccopaonadbeaaGreatDoor.q28 [(D.int 0), (D.int 983036)]) 0) 0))), (D.int (qint (qfld (qnth (Proofs.YteccopaonadbeaaGreatDoor.q28 [(D.int 0), (D.int 983036)]) 0) 1))), (D.int (qint (qfld (qnth (Proofs.YteccopaonadbeaaGreatDoor.q28 [(D.int 0), (D.int 983036)]) 0) 2))), (D.int (qint (qfld (qnth (Proofs.YteccopaonadbeaaGreatDoor.q28 [(D.int 0), (D.int 983036)]) 0) 3))), (D.int (qint (qfld (qnth (Proofs.YteccopaonadbeaaGreatDoor.q28 [(D.int 0), (D.int 983036)]) 0) 4))), (D.int (qint (qfld (qnth (Proofs.YteccopaonadbeaaGreatDoor.q28 [(D.int 0), (D.int 983036)]) 0) 5))), (D.int (qint (qfld (qnth (Proofs.YteccopaonadbeaaGreatDoor.q28 [(D.int 0), (D.int 983036)]) 0) 6))), (D.int (qint (qfld (qnth (Proofs.YteccopaonadbeaaGreatDoor.q28 [(D.int 0), (D.int 983036)]) 0) 7))), (D.int (qint (qfld (qnth (Proofs.YteccopaonadbeaaGreatDoor.q28 [(D.int 0), (D.int 983036)]) 0) 8)))]), (D.agg [(D.int (qint (qfld (qnth (Proofs.YteccopaonadbeaaGreatDoor.q28 [(D.int 2), (D.int (qwrap IntKind.u32 (qbin BinOp.mul IntKind.i64 4 sn0)))]) 0) 0))), (D.int (qint (qfld (qnth (Proofs.YteccopaonadbeaaGreatDoor.q28 [(D.int 2), (D.int (qwrap IntKind.u32 (qbin BinOp.mul IntKind.i64 4 sn0)))]) 0) 1))), (D.int (qint (qfld (qnth (Proofs.YteccopaonadbeaaGreatDoor.q28 [(D.int 2), (D.int (qwrap IntKind.u32 (qbin BinOp.mul IntKind.i64 4 sn0)))]) 0) 2))), (D.int (qint (qfld (qnth (Proofs.YteccopaonadbeaaGreatDoor.q28 [(D.int 2), (D.int (qwrap IntKind.u32 (qbin BinOp.mul IntKind.i64 4 sn0)))]) 0) 3))), (D.int (qint (qfld (qnth (Proofs.YteccopaonadbeaaGreatDoor.q28 [(D.int 2), (D.int (qwrap IntKind.u32 (qbin BinOp.mul IntKind.i64 4 sn0)))]) 0) 4))), (D.int (qint (qfld (qnth (Proofs.YteccopaonadbeaaGreatDoor.q28 [(D.int 2), (D.int (qwrap IntKind.u32 (qbin BinOp.mul IntKind.i64 4 sn0)))]) 0) 5))), (D.int (qint (qfld (qnth (Proofs.YteccopaonadbeaaGreatDoor.q28 [(D.int 2), (D.int (qwrap IntKind.u32 (qbin BinOp.mul IntKind.i64 4 sn0)))]) 0) 6))), (D.int (qint (qfld (qnth (Proofs.YteccopaonadbeaaGreatDoor.q28 [(D.int 2), (D.int (qwrap IntKind.u32 (qbin BinOp.mul IntKind.i64 4 sn0)))]) 0) 7))), (D.int (qint (qfld (qnth (Proofs.YteccopaonadbeaaGreatDoor.q28 [(D.int 2), (D.int (qwrap IntKind.u32 (qbin BinOp.mul IntKind.i64 4 sn0)))]) 0) 8)))]), (D.agg [(D.int 0), (D.int 0), (D.int 18), (D.int 0), (D.int 4), (D.int 0), (D.int 0), (D.int 2), (D.int 0)]), (D.agg [(D.int 0), (D.int 0), (D.int 23), (D.int 0), (D.int 0), (D.int 0), (D.int 0), (D.int 0), (D.int 0)]), (D.agg [(D.int 0), (D.int 0), (D.int 1), (D.int 0), (D.int 0), (D.int 0), (D.int 0), (D.int 0), (D.int 0)])])]
          else
            none
        else
          none
      else
        some [(D.list [(D.agg [(D.int (qint (qfld (qnth (Proofs.YteccopaonadbeaaGreatDoor.q28 [(D.int 7), (D.int 0)]) 0) 0))), (D.int (qint (qfld (qnth (Proofs.YteccopaonadbeaaGreatDoor.q28 [(D.int 7), (D.int 0)]) 0) 1))), (D.int (qint (qfld (qnth (Proofs.YteccopaonadbeaaGreatDoor.q28 [(D.int 7), (D.int 0)]) 0) 2))), (D.int (qint (qfld (qnth (Proofs.YteccopaonadbeaaGreatDoor.q28 [(D.int 7), (D.int 0)]) 0) 3))), (D.int (qint (qfld (qnth (Proofs.YteccopaonadbeaaGreatDoor.q28 [(D.int 7), (D.int 0)]) 0) 4))), (D.int (qint (qfld (qnth (Proofs.YteccopaonadbeaaGreatDoor.q28 [(D.int 7), (D.int 0)]) 0) 5))), (D.int (qint (qfld (qnth (Proofs.YteccopaonadbeaaGreatDoor.q28 [(D.int 7), (D.int 0)]) 0) 6))), (D.int (qint (qfld (qnth (Proofs.YteccopaonadbeaaGreatDoor.q28 [(D.int 7), (D.int 0)]) 0) 7))), (D.int (qint (qfld (qnth (Proofs.YteccopaonadbeaaGreatDoor.q28 [(D.int 7), (D.int 0)]) 0) 8)))]), (D.agg [(D.int 0), (D.int 0), (D.int 23), (D.int 0), (D.int 0), (D.int 0), (D.int 0), (D.int 0), (D.int 0)]), (D.agg [(D.int 0), (D.int 0), (D.int 1), (D.int 0), (D.int 0), (D.int 0), (D.int 0), (D.int 0), (D.int 0)])])]
    else
      none := by kernel_rfl

noncomputable def q9 : List D → Option (List D) := veil (F9 )

theorem q9_eq : q9  = F9  := veil_eq _

noncomputable def tb9 : Tb := Tb.addF tb8 9 S9 (q9 )

theorem ok_tb9 : TbOk env (tb9 ) := addFunF ok_tb8 9 (by kernel_rfl) _ (q9_eq )

end Go.Proofs.YteccopaonadbeaaGreatDoor

open Go Go.AM
namespace Go.Proofs.YteccopaonadbeaaGreatDoor
set_option maxRecDepth 100000
set_option linter.unusedSimpArgs false
set_option linter.unusedVariables false
noncomputable def tb10x : Tb := Tb.addF tb9 10 S10 q10

theorem ok_tb10x : TbOk env tb10x := TbOk.addF ok_tb9 (by kernel_rfl) sound10

/- function 3  -/

def S3_5 : LoopS := ⟨0, [⟨false, .any⟩, ⟨false, .any⟩, ⟨false, (.lit (.bool false))⟩, ⟨false, (.rows 26)⟩, ⟨false, (.rows 26)⟩, ⟨true, (.int .i64)⟩, ⟨false, .any⟩, ⟨false, .any⟩, ⟨false, .any⟩, ⟨false, .any⟩, ⟨false, .any⟩, ⟨false, .any⟩, ⟨false, .any⟩, ⟨false, .any⟩, ⟨false, .any⟩, ⟨false, .any⟩, ⟨false, .any⟩, ⟨false, .any⟩, ⟨false, .any⟩, ⟨false, .any⟩, ⟨false, .any⟩, ⟨false, .any⟩, ⟨false, .any⟩, ⟨false, .any⟩, ⟨false, .any⟩, ⟨false, .any⟩, ⟨false, .any⟩, ⟨false, .any⟩, ⟨false, .any⟩, ⟨false, .any⟩, ⟨false, .any⟩], [], [⟨0, 0, [⟨true, .any⟩, ⟨true, .any⟩, ⟨true, (.lit (.bool false))⟩, ⟨false, (.rows 26)⟩, ⟨false, (.rows 26)⟩, ⟨true, .any⟩, ⟨true, .any⟩, ⟨true, .any⟩, ⟨true, .any⟩, ⟨true, .any⟩, ⟨true, .any⟩, ⟨true, .any⟩, ⟨true, .any⟩, ⟨true, .any⟩, ⟨true, .any⟩, ⟨true, .any⟩, ⟨true, .any⟩, ⟨true, .any⟩, ⟨true, .any⟩, ⟨true, .any⟩, ⟨true, .any⟩, ⟨true, .any⟩, ⟨true, .any⟩, ⟨true, .any⟩, ⟨true, .any⟩, ⟨true, .any⟩, ⟨true, .any⟩, ⟨true, .any⟩, ⟨true, .any⟩, ⟨true, .any⟩, ⟨true, .any⟩], []⟩, ⟨1, 0, [⟨true, .any⟩, ⟨true, .any⟩, ⟨true, (.lit (.bool false))⟩, ⟨false, (.rows 26)⟩, ⟨false, (.rows 26)⟩, ⟨true, .any⟩, ⟨true, .any⟩, ⟨true, .any⟩, ⟨true, .any⟩, ⟨true, .any⟩, ⟨true, .any⟩, ⟨true, .any⟩, ⟨true, .any⟩, ⟨true, .any⟩, ⟨true, .any⟩, ⟨true, .any⟩, ⟨true, .any⟩, ⟨true, .any⟩, ⟨true, .any⟩, ⟨true, .any⟩, ⟨true, .any⟩, ⟨true, .any⟩, ⟨true, .any⟩, ⟨true, .any⟩, ⟨true, .any⟩, ⟨true, .any⟩, ⟨true, .any⟩, ⟨true, .any⟩, ⟨true, .any⟩, ⟨true, .any⟩, ⟨true, .any⟩], []⟩]⟩

noncomputable def st3_5 (p s : List D) : Option (Sum (List D) (List D)) := stepQX env tb10x 60 12 3 (loopC 3 5) S3_5 p s

theorem st3_5_eq (pd0 : D) (pd1 : D) (sn0 : Int) : st3_5  [pd0, pd1] [(D.int sn0)] =
    bif (qcmp BinOp.lss sn0 (qlen pd0)) then
      bif (qinb pd0 sn0) then
        bif (qinb pd1 sn0) then
          bif (qnot (qand (qcmp BinOp.eql (qint (qfld (qget pd0 sn0) 0)) (qint (qfld (qget pd1 sn0) 0))) (qand (qcmp BinOp.eql (qint (qfld (qget pd0 sn0) 1)) (qint (qfld (qget pd1 sn0) 1))) (qand (qcmp BinOp.eql (qint (qfld (qget pd0 sn0) 2)) (qint (qfld (qget pd1 sn0) 2))) (qand (qcmp BinOp.eql (qint (qfld (qget pd0 sn0) 3)) (qint (qfld (qget pd1 sn0) 3))) (qand (qcmp BinOp.eql (qint (qfld (qget pd0 sn0) 4)) (qint (qfld (qget pd1 sn0) 4))) (qand (qcmp BinOp.eql (qint (qfld (qget pd0 sn0) 5)) (qint (qfld (qget pd1 sn0) 5))) (qand (qcmp BinOp.eql (qint (qfld (qget pd0 sn0) 6)) (qint (qfld (qget pd1 sn0) 6))) (qand (qcmp BinOp.eql (qint (qfld (qget pd0 sn0) 7)) (qint (qfld (qget pd1 sn0) 7))) (qcmp BinOp.eql (qint (qfld (qget pd0 sn0) 8)) (qint (qfld (qget pd1 sn0) 8)))))))))))) then
            some (Sum.inr [(D.int 1)])
          else
            some (Sum.inl [(D.int (qbin BinOp.add IntKind.i64 sn0 1))])
        else
          none
      else
        none
    else
      some (Sum.inr [(D.int 0)]) := by
  have h : st3_5  [pd0, pd1] [(D.int sn0)] =
    bif (qcmp BinOp.lss sn0 (qlen pd0)) then
      bif (qinb pd0 sn0) then
        bif (qinb pd1 sn0) then
          bif (qnot (qand (qcmp BinOp.eql (qint (qfld (qget pd0 sn0) 0)) (qint (qfld (qget pd1 sn0) 0))) (qand (qcmp BinOp.eql (qint (qfld (qget pd0 sn0) 1)) (qint (qfld (qget pd1 sn0) 1))) (qand (qcmp BinOp.eql (qint (qfld (qget pd0 sn0) 2)) (qint (qfld (qget pd1 sn0) 2))) (qand (qcmp BinOp.eql (qint (qfld (qget pd0 sn0) 3)) (qint (qfld (qget pd1 sn0) 3))) (qand (qcmp BinOp.eql (qint (qfld (qget pd0 sn0) 4)) (qint (qfld (qget pd1 sn0) 4))) (qand (qcmp BinOp.eql (qint (qfld (qget pd0 sn0) 5)) (qint (qfld (qget pd1 sn0) 5))) (qand (qcmp BinOp.eql (qint (qfld (qget pd0 sn0) 6)) (qint (qfld (qget pd1 sn0) 6))) (qand (qcmp BinOp.eql (qint (qfld (qget pd0 sn0) 7)) (qint (qfld (qget pd1 sn0) 7))) (qcmp BinOp.eql (qint (qfld (qget pd0 sn0) 8)) (qint (qfld (qget pd1 sn0) 8)))))))))))) then
            bif (qeqD pd0 pd0) then
              bif (qeqD pd1 pd1) then
                some (Sum.inr [(D.int 1)])
              else
                none
            else
              none
          else
            bif (qeqD pd0 pd0) then
              bif (qeqD pd1 pd1) then
                some (Sum.inl [(D.int (qbin BinOp.add IntKind.i64 sn0 1))])
              else
                none
            else
              none
        else
          none
      else
        none
    else
      bif (qeqD pd0 pd0) then
        bif (qeqD pd1 pd1) then
          some (Sum.inr [(D.int 0)])
        else
          none
      else
        none := by kernel_rfl
  rw [h]; simp only [qeqD_self, qeqI_self, qeq_len, show qcmp BinOp.eql 0 (qlen (D.list [])) = true from qeq_len [], show ∀ a, qcmp BinOp.eql 1 (qlen (D.list [a])) = true from fun a => qeq_len [a], show ∀ a b, qcmp BinOp.eql 2 (qlen (D.list [a, b])) = true from fun a b => qeq_len [a, b], show ∀ a b c, qcmp BinOp.eql 3 (qlen (D.list [a, b, c])) = true from fun a b c => qeq_len [a, b, c], show ∀ a b c d, qcmp BinOp.eql 4 (qlen (D.list [a, b, c, d])) = true from fun a b c d => qeq_len [a, b, c, d], cond_true]

noncomputable def l3_5 : List D → List D → Option (List D) := veil fun p s => loW (st3_5  p) s

theorem l3_5_eq : l3_5  = fun p s => loW (st3_5  p) s := veil_eq _

noncomputable def tbl3_5 : Tb := Tb.addL tb10x 3 5 S3_5.n0 (mkLp S3_5 (l3_5 ))

theorem ok_tbl3_5 : TbOk env (tbl3_5 ) := addLoopQ ok_tb10x 3 5 (by kernel_rfl) _ (l3_5_eq )

def S3 : FunS := ⟨[⟨true, (.int .i64)⟩], [], [⟨true, .bool⟩], []⟩

noncomputable def F3 : List D → Option (List D) := liftX env tbl3_5 60 12 3 S3

theorem F3_eq  (sn0 : Int) : F3  [(D.int sn0)] =
    bif (qsome (Proofs.YteccopaonadbeaaGreatDoor.q8 [(D.int sn0)])) then
      bif (qsome (Proofs.YteccopaonadbeaaGreatDoor.q9 [(D.int sn0)])) then
        bif (qcmp BinOp.neq (qlen (qnth (Proofs.YteccopaonadbeaaGreatDoor.q8 [(D.int sn0)]) 0)) (qlen (qnth (Proofs.YteccopaonadbeaaGreatDoor.q9 [(D.int sn0)]) 0))) then
          some [(D.bool Bool.false)]
        else
          bif (qsome (Proofs.YteccopaonadbeaaGreatDoor.l3_5 [(qnth (Proofs.YteccopaonadbeaaGreatDoor.q8 [(D.int sn0)]) 0), (qnth (Proofs.YteccopaonadbeaaGreatDoor.q9 [(D.int sn0)]) 0)] [(D.int 0)])) then
            bif (qcmp BinOp.eql (qint (qnth (Proofs.YteccopaonadbeaaGreatDoor.l3_5 [(qnth (Proofs.YteccopaonadbeaaGreatDoor.q8 [(D.int sn0)]) 0), (qnth (Proofs.YteccopaonadbeaaGreatDoor.q9 [(D.int sn0)]) 0)] [(D.int 0)]) 0)) 0) then
              bif (qsome (Proofs.YteccopaonadbeaaGreatDoor.q10 [])) then
                some [(D.bool (qbool (qnth (Proofs.YteccopaonadbeaaGreatDoor.q10 []) 0)))]
              else
                none
            else
              some [(D.bool Bool.false)]
          else
            none
      else
        none
    else
      none := by kernel_rfl

noncomputable def q3 : List D → Option (List D) := veil (F3 )

theorem q3_eq : q3  = F3  := veil_eq _

noncomputable def tb3 : Tb := Tb.addF tbl3_5 3 S3 (q3 )

theorem ok_tb3 : TbOk env (tb3 ) := addFunF ok_tbl3_5 3 (by kernel_rfl) _ (q3_eq )

end Go.Proofs.YteccopaonadbeaaGreatDoor
