/-
  DERIVED: THE SHELF's CONTRACTS AT THIS DUMP, IN PLAIN WORDS (tools/lay-plain.mjs out of 'TryzShelf.lean', which tools/lay-shelf.mjs wrote): THE SAME DECLARATIONS UNDER THE SAME NAMES: 'import', 'namespace', 'open', 'def', 'theorem' AND NOTHING ELSE: no command of the shelf's: FOR A HAND-IN. Each laying: the table of numbers ('.._ren') and one theorem, a field a fact of the dump's own or the kernel's comparison; each contract: ONE APPLICATION.
-/
import Derived.Shelf.Strings.Builder1
import Derived.Shelf.Strings.Builder2
import Derived.Shelf.Strings.OnBuilder
import Derived.Shelf.LaysM
import Derived.Ground.Names2Prog
import Derived.Test.YtfdedgmlafelaaaGreatDoorProg
import Derived.Test.YtfdedgmlafelaaaGreatDoorC1
import Derived.Below
import Derived.RowKit3
import Derived.Test.YtfdedgmlafelaaaGreatDoorAmW
import Derived.Test.YtfdedgmlafelaaaGreatDoorSp
import Derived.KernelRfl
set_option linter.unusedVariables false
set_option linter.unusedSimpArgs false
namespace Go.Proofs
open Go.Shelf
def Tryz.lays156_ren : Go.Shelf.Ren := ⟨fun | 156 => 132 | 165 => 151 | 166 => 152 | 169 => 153 | 240 => 164 | 241 => 165 | 276 => 171 | 277 => 172 | n => n, fun | 31 => 159 | 9 => 9 | 3 => 3 | 4 => 4 | 0 => 0 | 20 => 20 | 72 => 176 | 76 => 179 | 70 => 173 | 37 => 174 | 75 => 178 | 127 => 193 | 164 => 200 | 5 => 5 | 80 => 181 | n => n, fun | n => n⟩
theorem Tryz.lays156 : Go.Proofs.Lays.n156 Tryz.prog Tryz.lays156_ren := {
  mixed := by kernel_rfl
  f156 := Tryz.func132.trans (congrArg some (by kernel_rfl))
  f165 := Tryz.func151.trans (congrArg some (by kernel_rfl))
  f166 := Tryz.func152.trans (congrArg some (by kernel_rfl))
  f169 := Tryz.func153.trans (congrArg some (by kernel_rfl))
  f240 := Tryz.func164.trans (congrArg some (by kernel_rfl))
  f241 := Tryz.func165.trans (congrArg some (by kernel_rfl))
  f276 := Tryz.func171.trans (congrArg some (by kernel_rfl))
  f277 := Tryz.func172.trans (congrArg some (by kernel_rfl))
  t0 := Tryz.underlying0
  a0 := Tryz.isAgg0
  z0 := Tryz.sizeOf0
  v0 := Tryz.zeroValue0
  t3 := Tryz.underlying3
  a3 := Tryz.isAgg3
  z3 := Tryz.sizeOf3
  v3 := Tryz.zeroValue3
  t4 := Tryz.underlying4
  a4 := Tryz.isAgg4
  z4 := Tryz.sizeOf4
  v4 := Tryz.zeroValue4
  t9 := Tryz.underlying9
  a9 := Tryz.isAgg9
  z9 := Tryz.sizeOf9
  v9 := Tryz.zeroValue9
  t20 := Tryz.underlying20
  a20 := Tryz.isAgg20
  z20 := Tryz.sizeOf20
  v20 := Tryz.zeroValue20
  t31 := Tryz.underlying159
  a31 := Tryz.isAgg159
  z31 := Tryz.sizeOf159
  v31 := Tryz.zeroValue159
  t37 := Tryz.underlying174
  a37 := Tryz.isAgg174
  z37 := Tryz.sizeOf174
  v37 := Tryz.zeroValue174
  t70 := Tryz.underlying173
  a70 := Tryz.isAgg173
  z70 := Tryz.sizeOf173
  v70 := Tryz.zeroValue173
  t72 := Tryz.underlying176
  a72 := Tryz.isAgg176
  z72 := Tryz.sizeOf176
  v72 := Tryz.zeroValue176
  t75 := Tryz.underlying178
  a75 := Tryz.isAgg178
  z75 := Tryz.sizeOf178
  v75 := Tryz.zeroValue178
  t76 := Tryz.underlying179
  a76 := Tryz.isAgg179
  z76 := Tryz.sizeOf179
  v76 := Tryz.zeroValue179
  t127 := Tryz.underlying193
  a127 := Tryz.isAgg193
  z127 := Tryz.sizeOf193
  v127 := Tryz.zeroValue193
  t164 := Tryz.underlying200
  a164 := Tryz.isAgg200
  z164 := Tryz.sizeOf200
  v164 := Tryz.zeroValue200 }
theorem Tryz.Builder_Extra_156 : Builder.Extra Tryz.prog Tryz.lays156_ren := {
  sizeBuilder := by kernel_rfl
  liesBuilder := by kernel_rfl
  t5 := Tryz.underlying5
  a5 := Tryz.isAgg5
  z5 := Tryz.sizeOf5
  v5 := Tryz.zeroValue5
  infoByte := by kernel_rfl
  cellsByte := by kernel_rfl
  sizeByte := by kernel_rfl
  neB5 := by decide }
open Go.RowKit in
/-- strings.Join: "Join concatenates the elements of its first argument to create a single string. The separator string sep is placed between elements in the resulting string.": HOWEVER MANY ELEMENTS. Below the heap's end the world is as it was. (LAID: no walk: one application.) -/
theorem Tryz.strings_Join (bk o c : Nat) (xs : List ByteArray) (sep : ByteArray) (w : World) (hcells : ∀ (j : Nat) x, xs[j]? = some x → w.cell? ⟨bk, o + j, none⟩ = some (.string x)) (hbk : bk < w.heap.size) (hN : xs.length ≤ 140737488355328) (hcap : xs.length ≤ c) (hlen : (Lib.join (xs.map (·.data.toList)) sep.data.toList).length ≤ 140737488355328) :
    Calls Tryz.prog 132 #[.slice (some ⟨bk, o, none⟩) xs.length c, .string sep] w fun e w' => e = .returned (.string ⟨(Lib.join (xs.map (·.data.toList)) sep.data.toList).toArray⟩) ∧ Below w.heap.size w w' := Any.strings_Join Tryz.lays156 Tryz.Builder_Extra_156 bk o c xs sep w hcells hbk hN hcap hlen
end Go.Proofs

namespace Go.AM
section
variable {P : Program}

theorem ok_of_below {f : FuncId} {args : List AV} {H : Hp} {x : Value} (h : ∀ (lo : Nat → Prop) (w0 : World) (ρ : Nat → Option Nat) (E : Nat → Prop) (w : World) (vs : Array Value), Inv lo w0 ρ E H w → RepL ρ E w args vs.toList →
      Calls P f vs w fun e w' => e = .returned x ∧ RowKit.Below w.heap.size w w') : Ok P f args H (.sc x) H := by
  intro lo w0 ρ E w vs inv ra
  refine (h lo w0 ρ E w vs inv ra).mono ?_
  rintro e w' ⟨rfl, hb⟩
  obtain ⟨b1, b2, b3, hsz, hold⟩ := hb
  have ext : Ext ρ E w ρ E w' := Ext.grow (fun _ _ h => h) (fun _ h => h) (fun i b hb => (inv.bd i b hb).2) inv.ebd hold hsz
  refine ⟨x, ρ, E, rfl, ?_, ⟨ext, fun _ h => .inl h⟩, by simp only [Rep]⟩
  exact { len := inv.len, dom := inv.dom, blk := fun i k b hk hb => (inv.blk i k b hk hb).mono ext (hold b (inv.bd i b hb).2), inj := inv.inj, notE := inv.notE,
          bd := fun i b hb => ⟨(inv.bd i b hb).1, Nat.lt_of_lt_of_le (inv.bd i b hb).2 hsz⟩
          ebd := fun b he => Nat.lt_of_lt_of_le (inv.ebd b he) hsz
          lole := fun b hb => Nat.lt_of_lt_of_le (inv.lole b hb) hsz
          old := fun b hb => (hold b (inv.lole b hb)).trans (inv.old b hb)
          io := inv.io.trans ⟨b1, b2, b3⟩, gl := gl_mono rfl ext inv.gl }

def str1 : List AV → Option ByteArray
  | [.sc (.string s)] => some s
  | _ => none

/-- Known texts in cells. -/
theorem rows_strs {E : Nat → Prop} {w : World} {b z : Nat} : ∀ {xs : List (List AV)} {ss : List ByteArray} {off : Nat}, mapO str1 xs = some ss → RepRows nowhere E w b off z xs → ∀ (j : Nat) x, ss[j]? = some x → w.cell? ⟨b, off + j, none⟩ = some (.string x)
  | [], ss, off, h, _, j, x, hx => by simp [mapO] at h; subst h; simp at hx
  | c :: cs, ss, off, h, hr, j, x, hx => by
    simp only [RepRows] at hr
    obtain ⟨hz, h1, h2⟩ := hr
    simp only [mapO] at h
    cases hc : str1 c with
    | none => simp [hc] at h
    | some s =>
      cases hm : mapO str1 cs with
      | none => simp [hc, hm] at h
      | some ss' =>
        simp [hc, hm] at h
        subst h
        have he : c = [.sc (.string s)] := by
          unfold str1 at hc
          split at hc
          · cases hc; rfl
          · cases hc
        subst he
        simp only [List.length_cons, List.length_nil] at hz
        subst hz
        cases j with
        | zero =>
          simp at hx; subst hx
          simp only [RepAt, Rep] at h1
          obtain ⟨⟨u, hu, rfl⟩, _⟩ := h1
          exact hu
        | succ j =>
          have := rows_strs hm h2 j x (by simpa using hx)
          rw [show off + (j + 1) = off + (0 + 1) + j by omega]; exact this

/-- What a contract of strings.Join says, as the library has it. -/
def JoinSaid (P : Program) (f : FuncId) : Prop :=
  ∀ (bk o c : Nat) (xs : List ByteArray) (sep : ByteArray) (w : World), (∀ (j : Nat) x, xs[j]? = some x → w.cell? ⟨bk, o + j, none⟩ = some (.string x)) → bk < w.heap.size → xs.length ≤ 140737488355328 → xs.length ≤ c →
    (Lib.join (xs.map (·.data.toList)) sep.data.toList).length ≤ 140737488355328 →
    Calls P f #[.slice (some ⟨bk, o, none⟩) xs.length c, .string sep] w fun e w' => e = .returned (.string ⟨(Lib.join (xs.map (·.data.toList)) sep.data.toList).toArray⟩) ∧ RowKit.Below w.heap.size w w'

/-- strings.Join of known texts, at least one. -/
def joinC (args : List AV) (H : Hp) : Option (AV × Hp) :=
  match args with
  | [.esl (x :: xs), .sc (.string sep)] => (mapO str1 (x :: xs)).bind fun ss =>
    bif Nat.ble ss.length 1048576 && Nat.ble (Lib.join (ss.map (·.data.toList)) sep.data.toList).length 1048576 then some (.sc (.string ⟨(Lib.join (ss.map (·.data.toList)) sep.data.toList).toArray⟩), H) else none
  | _ => none

theorem joinC_ok {f : FuncId} (hJ : JoinSaid P f) (args : List AV) (H : Hp) (v : AV) (H' : Hp) (h : joinC args H = some (v, H')) : Ok P f args H v H' := by
  unfold joinC at h
  split at h
  case h_2 => cases h
  case h_1 x xs sep =>
    obtain ⟨ss, hs, h⟩ := Option.bind_eq_some_iff.1 h
    cases hb : (Nat.ble ss.length 1048576 && Nat.ble (Lib.join (ss.map (·.data.toList)) sep.data.toList).length 1048576) with
    | false => rw [hb] at h; cases h
    | true =>
      rw [hb] at h
      cases h
      simp only [Bool.and_eq_true, Nat.ble_eq] at hb
      refine ok_of_below fun lo w0 ρ E w vs inv ra => ?_
      generalize hvs : vs.toList = l at ra
      simp only [RepL] at ra
      obtain ⟨u1, l1, rfl, r1, u2, l2, rfl, r2, rfl⟩ := ra
      simp only [Rep] at r1 r2
      subst r2
      obtain ⟨a, cap, rfl, hcap, hr⟩ := r1
      rcases hr with hr | ⟨b, off, z, rfl, he, hr⟩
      · cases hr
      · have hlen := mapO_len hs
        have hv : vs = #[.slice (some ⟨b, off, none⟩) ss.length cap, .string sep] := by
          rw [← Array.toList_inj, hvs, hlen]
        rw [hv]
        exact hJ b off cap ss sep w (rows_strs hs hr) (inv.ebd b he) (by omega) (by omega) (by omega)

end
end Go.AM

namespace Go.Proofs.YtfdedgmlafelaaaGreatDoor
open Go Go.AM
set_option maxRecDepth 100000

theorem joinSaid132 : JoinSaid Tryz.prog 132 := fun bk o c xs sep w h h1 h2 h3 h4 => Tryz.strings_Join bk o c xs sep w h h1 h2 h3 h4

noncomputable def tbX : Tb := Tb.nil.add 132 joinC (fun _ _ => [])
noncomputable def envX : Env := { P := Tryz.prog, fn := fun f => (Tryz.prog.funcs[f]?).bind fun fn => fn.body.map fun c => ⟨c, fn.ntmps, fn.results.toList⟩, isPure := fun _ => false, isFrz := fun _ => false, clr := false, pre := tbX.O, lp := fun _ _ => none, n0 := 0 }

theorem envXOk : EnvOk envX := by
  intro f F h
  refine envOk f F ?_
  rw [envFn]
  exact h

theorem tbXOk : TbOk envX tbX := TbOk.nil.add (by kernel_rfl) fun args H v H' h _ => joinC_ok joinSaid132 args H v H' h

def S9 : FunS := ⟨[], [], [⟨true, .bool⟩], []⟩
noncomputable def psX : List (Nat × Nat) := [(102, 132), (26, 55), (26, 56), (26, 57), (26, 58)]
theorem ex9 : liftC envX tbX (runP envX psX [] tbX 5000 5000).d 9 S9 [] = some [.bool true] := by kernel_rfl

noncomputable def q9 : List D → Option (List D) := veil fun ds => liftC envX tbX (runP envX psX [] tbX 5000 5000).d 9 S9 ds
theorem q9_eq : q9 [] = some [.bool true] := by unfold q9; rw [veil_eq]; exact ex9
theorem sound9 : SoundF env.P 9 S9 q9 := by
  unfold q9; rw [veil_eq]
  exact liftC_sound envX tbX (runP_sound envXOk (fun _ _ => rfl) rfl psX [] tbXOk 5000 5000)

end Go.Proofs.YtfdedgmlafelaaaGreatDoor

open Go Go.AM
namespace Go.Proofs.YtfdedgmlafelaaaGreatDoor
set_option maxRecDepth 100000
set_option linter.unusedSimpArgs false
set_option linter.unusedVariables false
/- function 23  -/

def S23_2 : LoopS := ⟨0, [⟨false, .any⟩, ⟨false, (.int .i64)⟩, ⟨false, .any⟩, ⟨false, .any⟩, ⟨false, (.lit (.int .i64 0))⟩, ⟨false, (.lit (.bool false))⟩, ⟨false, .any⟩, ⟨false, .any⟩, ⟨false, .any⟩, ⟨false, (.rows 69)⟩, ⟨false, (.int .i64)⟩, ⟨true, (.int .i64)⟩, ⟨false, .any⟩, ⟨false, .any⟩, ⟨false, .any⟩, ⟨false, .any⟩, ⟨false, .any⟩, ⟨false, .any⟩, ⟨false, .any⟩, ⟨false, .any⟩, ⟨false, .any⟩, ⟨false, .any⟩, ⟨false, .any⟩, ⟨false, .any⟩, ⟨false, .any⟩, ⟨false, .any⟩, ⟨false, .any⟩, ⟨false, .any⟩, ⟨false, .any⟩, ⟨false, .any⟩, ⟨false, .any⟩, ⟨false, .any⟩, ⟨false, .any⟩, ⟨false, .any⟩, ⟨false, .any⟩, ⟨false, .any⟩, ⟨false, .any⟩, ⟨false, .any⟩, ⟨false, .any⟩], [], [⟨0, 0, [⟨true, .any⟩, ⟨false, (.int .i64)⟩, ⟨true, .any⟩, ⟨true, .any⟩, ⟨true, (.lit (.int .i64 0))⟩, ⟨true, (.lit (.bool false))⟩, ⟨true, .any⟩, ⟨true, .any⟩, ⟨true, .any⟩, ⟨false, (.rows 69)⟩, ⟨false, (.int .i64)⟩, ⟨true, .any⟩, ⟨true, .any⟩, ⟨true, .any⟩, ⟨true, .any⟩, ⟨true, .any⟩, ⟨true, .any⟩, ⟨true, .any⟩, ⟨true, .any⟩, ⟨true, .any⟩, ⟨true, .any⟩, ⟨true, .any⟩, ⟨true, .any⟩, ⟨true, .any⟩, ⟨true, .any⟩, ⟨true, .any⟩, ⟨true, .any⟩, ⟨true, .any⟩, ⟨true, .any⟩, ⟨true, .any⟩, ⟨true, .any⟩, ⟨true, .any⟩, ⟨true, .any⟩, ⟨true, .any⟩, ⟨true, .any⟩, ⟨true, .any⟩, ⟨true, .any⟩, ⟨true, .any⟩, ⟨true, .any⟩], []⟩, ⟨1, 0, [⟨true, .any⟩, ⟨false, (.int .i64)⟩, ⟨true, .any⟩, ⟨true, .any⟩, ⟨true, (.int .i64)⟩, ⟨true, (.lit (.bool true))⟩, ⟨true, .any⟩, ⟨true, .any⟩, ⟨true, .any⟩, ⟨false, (.rows 69)⟩, ⟨false, (.int .i64)⟩, ⟨true, .any⟩, ⟨true, .any⟩, ⟨true, .any⟩, ⟨true, .any⟩, ⟨true, .any⟩, ⟨true, .any⟩, ⟨true, .any⟩, ⟨true, .any⟩, ⟨true, .any⟩, ⟨true, .any⟩, ⟨true, .any⟩, ⟨true, .any⟩, ⟨true, .any⟩, ⟨true, .any⟩, ⟨true, .any⟩, ⟨true, .any⟩, ⟨true, .any⟩, ⟨true, .any⟩, ⟨true, .any⟩, ⟨true, .any⟩, ⟨true, .any⟩, ⟨true, .any⟩, ⟨true, .any⟩, ⟨true, .any⟩, ⟨true, .any⟩, ⟨true, .any⟩, ⟨true, .any⟩, ⟨true, .any⟩], []⟩]⟩

noncomputable def st23_2 (p s : List D) : Option (Sum (List D) (List D)) := stepQX env Tb.nil 60 12 23 (loopC 23 2) S23_2 p s

theorem st23_2_eq (pn0 : Int) (pd1 : D) (pn2 : Int) (sn0 : Int) : st23_2  [(D.int pn0), pd1, (D.int pn2)] [(D.int sn0)] =
    bif (qcmp BinOp.lss sn0 pn2) then
      bif (qinb pd1 sn0) then
        bif (qiteB (qiteB (qcmp BinOp.leq (qint (qfld (qget pd1 sn0) 0)) pn0) (qcmp BinOp.gtr (qint (qfld (qget pd1 sn0) 1)) 0) Bool.false) (qcmp BinOp.lss (qbin BinOp.sub IntKind.u64 (qwrap IntKind.u64 pn0) (qwrap IntKind.u64 (qint (qfld (qget pd1 sn0) 0)))) (qwrap IntKind.u64 (qint (qfld (qget pd1 sn0) 1)))) Bool.false) then
          some (Sum.inr [(D.int 1), (D.int sn0)])
        else
          some (Sum.inl [(D.int (qbin BinOp.add IntKind.i64 sn0 1))])
      else
        none
    else
      some (Sum.inr [(D.int 0)]) := by
  have h : st23_2  [(D.int pn0), pd1, (D.int pn2)] [(D.int sn0)] =
    bif (qcmp BinOp.lss sn0 pn2) then
      bif (qinb pd1 sn0) then
        bif (qiteB (qiteB (qcmp BinOp.leq (qint (qfld (qget pd1 sn0) 0)) pn0) (qcmp BinOp.gtr (qint (qfld (qget pd1 sn0) 1)) 0) Bool.false) (qcmp BinOp.lss (qbin BinOp.sub IntKind.u64 (qwrap IntKind.u64 pn0) (qwrap IntKind.u64 (qint (qfld (qget pd1 sn0) 0)))) (qwrap IntKind.u64 (qint (qfld (qget pd1 sn0) 1)))) Bool.false) then
          bif (qeqD (D.int pn0) (D.int pn0)) then
            bif (qeqD pd1 pd1) then
              bif (qeqD (D.int pn2) (D.int pn2)) then
                some (Sum.inr [(D.int 1), (D.int sn0)])
              else
                none
            else
              none
          else
            none
        else
          bif (qeqD (D.int pn0) (D.int pn0)) then
            bif (qeqD pd1 pd1) then
              bif (qeqD (D.int pn2) (D.int pn2)) then
                some (Sum.inl [(D.int (qbin BinOp.add IntKind.i64 sn0 1))])
              else
                none
            else
              none
          else
            none
      else
        none
    else
      bif (qeqD (D.int pn0) (D.int pn0)) then
        bif (qeqD pd1 pd1) then
          bif (qeqD (D.int pn2) (D.int pn2)) then
            some (Sum.inr [(D.int 0)])
          else
            none
        else
          none
      else
        none := by kernel_rfl
  rw [h]; simp only [qeqD_self, qeqI_self, qeq_len, show qcmp BinOp.eql 0 (qlen (D.list [])) = true from qeq_len [], show ∀ a, qcmp BinOp.eql 1 (qlen (D.list [a])) = true from fun a => qeq_len [a], show ∀ a b, qcmp BinOp.eql 2 (qlen (D.list [a, b])) = true from fun a b => qeq_len [a, b], show ∀ a b c, qcmp BinOp.eql 3 (qlen (D.list [a, b, c])) = true from fun a b c => qeq_len [a, b, c], show ∀ a b c d, qcmp BinOp.eql 4 (qlen (D.list [a, b, c, d])) = true from fun a b c d => qeq_len [a, b, c, d], cond_true]

noncomputable def l23_2 : List D → List D → Option (List D) := veil fun p s => loW (st23_2  p) s

theorem l23_2_eq : l23_2  = fun p s => loW (st23_2  p) s := veil_eq _

noncomputable def tbl23_2 : Tb := Tb.addL Tb.nil 23 2 S23_2.n0 (mkLp S23_2 (l23_2 ))

theorem ok_tbl23_2 : TbOk env (tbl23_2 ) := addLoopQ ok_nil 23 2 (by kernel_rfl) _ (l23_2_eq )

def S23 : FunS := ⟨[⟨true, (.dat 30)⟩, ⟨true, (.int .i64)⟩], [], [⟨true, (.tup [(.int .i64), .bool])⟩], []⟩

noncomputable def F23 : List D → Option (List D) := liftX env tbl23_2 60 12 23 S23

theorem F23_eq  (sd0 : D) (sn1 : Int) : F23  [sd0, (D.int sn1)] =
    bif (qsome (Proofs.YtfdedgmlafelaaaGreatDoor.l23_2 [(D.int sn1), (qfld sd0 1), (D.int (qlen (qfld sd0 1)))] [(D.int 0)])) then
      bif (qcmp BinOp.eql (qint (qnth (Proofs.YtfdedgmlafelaaaGreatDoor.l23_2 [(D.int sn1), (qfld sd0 1), (D.int (qlen (qfld sd0 1)))] [(D.int 0)]) 0)) 0) then
        some [(D.int 0), (D.bool Bool.false)]
      else
        some [(D.int (qint (qnth (Proofs.YtfdedgmlafelaaaGreatDoor.l23_2 [(D.int sn1), (qfld sd0 1), (D.int (qlen (qfld sd0 1)))] [(D.int 0)]) 1))), (D.bool Bool.true)]
    else
      none := by kernel_rfl

noncomputable def q23 : List D → Option (List D) := veil (F23 )

theorem q23_eq : q23  = F23  := veil_eq _

noncomputable def tb23 : Tb := Tb.addF tbl23_2 23 S23 (q23 )

theorem ok_tb23 : TbOk env (tb23 ) := addFunF ok_tbl23_2 23 (by kernel_rfl) _ (q23_eq )

/- function 24  -/

def S24_2 : LoopS := ⟨0, [⟨false, .any⟩, ⟨false, (.int .i64)⟩, ⟨false, (.ptr 0 0)⟩, ⟨false, .any⟩, ⟨false, (.lit (.int .i64 0))⟩, ⟨false, (.lit (.bool false))⟩, ⟨true, (.int .i64)⟩, ⟨false, .any⟩, ⟨false, .any⟩, ⟨false, .any⟩, ⟨false, .any⟩, ⟨false, .any⟩, ⟨false, .any⟩, ⟨false, .any⟩, ⟨false, .any⟩, ⟨false, .any⟩, ⟨false, .any⟩, ⟨false, .any⟩, ⟨false, .any⟩, ⟨false, .any⟩, ⟨false, .any⟩, ⟨false, .any⟩, ⟨false, .any⟩, ⟨false, .any⟩, ⟨false, .any⟩, ⟨false, .any⟩, ⟨false, .any⟩, ⟨false, .any⟩, ⟨false, .any⟩, ⟨false, .any⟩, ⟨false, .any⟩, ⟨false, .any⟩, ⟨false, .any⟩, ⟨false, .any⟩, ⟨false, .any⟩, ⟨false, .any⟩, ⟨false, .any⟩, ⟨false, .any⟩, ⟨false, .any⟩, ⟨false, .any⟩, ⟨false, .any⟩, ⟨false, .any⟩, ⟨false, .any⟩, ⟨false, .any⟩, ⟨false, .any⟩, ⟨false, .any⟩, ⟨false, .any⟩, ⟨false, .any⟩, ⟨false, .any⟩, ⟨false, .any⟩, ⟨false, .any⟩, ⟨false, .any⟩], [(.dat false 36)], [⟨0, 0, [⟨true, .any⟩, ⟨false, (.int .i64)⟩, ⟨true, .any⟩, ⟨true, .any⟩, ⟨true, (.lit (.int .i64 0))⟩, ⟨true, (.lit (.bool false))⟩, ⟨true, .any⟩, ⟨true, .any⟩, ⟨true, .any⟩, ⟨true, .any⟩, ⟨true, .any⟩, ⟨true, .any⟩, ⟨true, .any⟩, ⟨true, .any⟩, ⟨true, .any⟩, ⟨true, .any⟩, ⟨true, .any⟩, ⟨true, .any⟩, ⟨true, .any⟩, ⟨true, .any⟩, ⟨true, .any⟩, ⟨true, .any⟩, ⟨true, .any⟩, ⟨true, .any⟩, ⟨true, .any⟩, ⟨true, .any⟩, ⟨true, .any⟩, ⟨true, .any⟩, ⟨true, .any⟩, ⟨true, .any⟩, ⟨true, .any⟩, ⟨true, .any⟩, ⟨true, .any⟩, ⟨true, .any⟩, ⟨true, .any⟩, ⟨true, .any⟩, ⟨true, .any⟩, ⟨true, .any⟩, ⟨true, .any⟩, ⟨true, .any⟩, ⟨true, .any⟩, ⟨true, .any⟩, ⟨true, .any⟩, ⟨true, .any⟩, ⟨true, .any⟩, ⟨true, .any⟩, ⟨true, .any⟩, ⟨true, .any⟩, ⟨true, .any⟩, ⟨true, .any⟩, ⟨true, .any⟩, ⟨true, .any⟩], [(.dat false 36)]⟩, ⟨1, 0, [⟨true, .any⟩, ⟨false, (.int .i64)⟩, ⟨true, .any⟩, ⟨true, .any⟩, ⟨true, (.int .i64)⟩, ⟨true, (.lit (.bool true))⟩, ⟨true, .any⟩, ⟨true, .any⟩, ⟨true, .any⟩, ⟨true, .any⟩, ⟨true, .any⟩, ⟨true, .any⟩, ⟨true, .any⟩, ⟨true, .any⟩, ⟨true, .any⟩, ⟨true, .any⟩, ⟨true, .any⟩, ⟨true, .any⟩, ⟨true, .any⟩, ⟨true, .any⟩, ⟨true, .any⟩, ⟨true, .any⟩, ⟨true, .any⟩, ⟨true, .any⟩, ⟨true, .any⟩, ⟨true, .any⟩, ⟨true, .any⟩, ⟨true, .any⟩, ⟨true, .any⟩, ⟨true, .any⟩, ⟨true, .any⟩, ⟨true, .any⟩, ⟨true, .any⟩, ⟨true, .any⟩, ⟨true, .any⟩, ⟨true, .any⟩, ⟨true, .any⟩, ⟨true, .any⟩, ⟨true, .any⟩, ⟨true, .any⟩, ⟨true, .any⟩, ⟨true, .any⟩, ⟨true, .any⟩, ⟨true, .any⟩, ⟨true, .any⟩, ⟨true, .any⟩, ⟨true, .any⟩, ⟨true, .any⟩, ⟨true, .any⟩, ⟨true, .any⟩, ⟨true, .any⟩, ⟨true, .any⟩], [(.dat false 36)]⟩]⟩

noncomputable def st24_2 (p s : List D) : Option (Sum (List D) (List D)) := stepQX env tb23 60 12 24 (loopC 24 2) S24_2 p s

theorem st24_2_eq (pn0 : Int) (pd1 : D) (sn0 : Int) : st24_2  [(D.int pn0), pd1] [(D.int sn0)] =
    bif (qcmp BinOp.lss sn0 (qlen (qfld pd1 1))) then
      bif (qinb (qfld pd1 1) sn0) then
        bif (qcmp BinOp.leq (qint (qfld (qget (qfld pd1 1) sn0) 0)) pn0) then
          bif (qinb (qfld pd1 1) sn0) then
            bif (qcmp BinOp.gtr (qint (qfld (qget (qfld pd1 1) sn0) 1)) 0) then
              bif (qinb (qfld pd1 1) sn0) then
                bif (qinb (qfld pd1 1) sn0) then
                  bif (qcmp BinOp.lss (qbin BinOp.sub IntKind.u64 (qwrap IntKind.u64 pn0) (qwrap IntKind.u64 (qint (qfld (qget (qfld pd1 1) sn0) 0)))) (qwrap IntKind.u64 (qint (qfld (qget (qfld pd1 1) sn0) 1)))) then
                    some (Sum.inr [(D.int 1), (D.int sn0)])
                  else
                    some (Sum.inl [(D.int (qbin BinOp.add IntKind.i64 sn0 1))])
                else
                  none
              else
                none
            else
              some (Sum.inl [(D.int (qbin BinOp.add IntKind.i64 sn0 1))])
          else
            none
        else
          some (Sum.inl [(D.int (qbin BinOp.add IntKind.i64 sn0 1))])
      else
        none
    else
      some (Sum.inr [(D.int 0)]) := by
  have h : st24_2  [(D.int pn0), pd1] [(D.int sn0)] =
    bif (qcmp BinOp.lss sn0 (qlen (qfld pd1 1))) then
      bif (qinb (qfld pd1 1) sn0) then
        bif (qcmp BinOp.leq (qint (qfld (qget (qfld pd1 1) sn0) 0)) pn0) then
          bif (qinb (qfld pd1 1) sn0) then
            bif (qcmp BinOp.gtr (qint (qfld (qget (qfld pd1 1) sn0) 1)) 0) then
              bif (qinb (qfld pd1 1) sn0) then
                bif (qinb (qfld pd1 1) sn0) then
                  bif (qcmp BinOp.lss (qbin BinOp.sub IntKind.u64 (qwrap IntKind.u64 pn0) (qwrap IntKind.u64 (qint (qfld (qget (qfld pd1 1) sn0) 0)))) (qwrap IntKind.u64 (qint (qfld (qget (qfld pd1 1) sn0) 1)))) then
                    bif (qeqD (D.int pn0) (D.int pn0)) then
                      bif (qeqD pd1 pd1) then
                        some (Sum.inr [(D.int 1), (D.int sn0)])
                      else
                        none
                    else
                      none
                  else
                    bif (qeqD (D.int pn0) (D.int pn0)) then
                      bif (qeqD pd1 pd1) then
                        some (Sum.inl [(D.int (qbin BinOp.add IntKind.i64 sn0 1))])
                      else
                        none
                    else
                      none
                else
                  none
              else
                none
            else
              bif (qeqD (D.int pn0) (D.int pn0)) then
                bif (qeqD pd1 pd1) then
                  some (Sum.inl [(D.int (qbin BinOp.add IntKind.i64 sn0 1))])
                else
                  none
              else
                none
          else
            none
        else
          bif (qeqD (D.int pn0) (D.int pn0)) then
            bif (qeqD pd1 pd1) then
              some (Sum.inl [(D.int (qbin BinOp.add IntKind.i64 sn0 1))])
            else
              none
          else
            none
      else
        none
    else
      bif (qeqD (D.int pn0) (D.int pn0)) then
        bif (qeqD pd1 pd1) then
          some (Sum.inr [(D.int 0)])
        else
          none
      else
        none := by kernel_rfl
  rw [h]; simp only [qeqD_self, qeqI_self, qeq_len, show qcmp BinOp.eql 0 (qlen (D.list [])) = true from qeq_len [], show ∀ a, qcmp BinOp.eql 1 (qlen (D.list [a])) = true from fun a => qeq_len [a], show ∀ a b, qcmp BinOp.eql 2 (qlen (D.list [a, b])) = true from fun a b => qeq_len [a, b], show ∀ a b c, qcmp BinOp.eql 3 (qlen (D.list [a, b, c])) = true from fun a b c => qeq_len [a, b, c], show ∀ a b c d, qcmp BinOp.eql 4 (qlen (D.list [a, b, c, d])) = true from fun a b c d => qeq_len [a, b, c, d], cond_true]

noncomputable def l24_2 : List D → List D → Option (List D) := veil fun p s => loW (st24_2  p) s

theorem l24_2_eq : l24_2  = fun p s => loW (st24_2  p) s := veil_eq _

noncomputable def tbl24_2 : Tb := Tb.addL tb23 24 2 S24_2.n0 (mkLp S24_2 (l24_2 ))

theorem ok_tbl24_2 : TbOk env (tbl24_2 ) := addLoopQ ok_tb23 24 2 (by kernel_rfl) _ (l24_2_eq )

def S24 : FunS := ⟨[⟨true, (.dat 36)⟩, ⟨true, (.int .i64)⟩], [], [⟨true, (.tup [(.int .i64), .bool])⟩], []⟩

noncomputable def F24 : List D → Option (List D) := liftX env tbl24_2 60 12 24 S24

theorem F24_eq  (sd0 : D) (sn1 : Int) : F24  [sd0, (D.int sn1)] =
    bif (qsome (Proofs.YtfdedgmlafelaaaGreatDoor.l24_2 [(D.int sn1), sd0] [(D.int 0)])) then
      bif (qcmp BinOp.eql (qint (qnth (Proofs.YtfdedgmlafelaaaGreatDoor.l24_2 [(D.int sn1), sd0] [(D.int 0)]) 0)) 0) then
        some [(D.int 0), (D.bool Bool.false)]
      else
        some [(D.int (qint (qnth (Proofs.YtfdedgmlafelaaaGreatDoor.l24_2 [(D.int sn1), sd0] [(D.int 0)]) 1))), (D.bool Bool.true)]
    else
      none := by kernel_rfl

noncomputable def q24 : List D → Option (List D) := veil (F24 )

theorem q24_eq : q24  = F24  := veil_eq _

noncomputable def tb24 : Tb := Tb.addF tbl24_2 24 S24 (q24 )

theorem ok_tb24 : TbOk env (tb24 ) := addFunF ok_tbl24_2 24 (by kernel_rfl) _ (q24_eq )

/- function 13  -/

def S13_3 : LoopS := ⟨0, [⟨false, .any⟩, ⟨false, (.ptr 0 0)⟩, ⟨false, (.ptr 1 0)⟩, ⟨false, (.ptr 2 0)⟩, ⟨true, (.int .i64)⟩, ⟨false, .any⟩, ⟨false, .any⟩, ⟨false, .any⟩, ⟨false, .any⟩, ⟨false, .any⟩, ⟨false, .any⟩, ⟨false, .any⟩, ⟨false, .any⟩, ⟨false, .any⟩, ⟨false, .any⟩, ⟨false, .any⟩, ⟨false, .any⟩, ⟨false, .any⟩, ⟨false, .any⟩, ⟨false, .any⟩, ⟨false, .any⟩, ⟨false, .any⟩, ⟨false, .any⟩, ⟨false, .any⟩, ⟨false, .any⟩, ⟨false, .any⟩, ⟨false, .any⟩, ⟨false, .any⟩, ⟨false, .any⟩, ⟨false, .any⟩, ⟨false, .any⟩, ⟨false, .any⟩, ⟨false, .any⟩, ⟨false, .any⟩, ⟨false, .any⟩, ⟨false, .any⟩, ⟨false, .any⟩, ⟨false, .any⟩, ⟨false, .any⟩, ⟨false, .any⟩], [(.lst true 88), (.cells [⟨false, (.int .i64)⟩, ⟨false, (.osl 3 88)⟩, ⟨false, .bool⟩]), (.cells [⟨false, (.lit (.int .i64 0))⟩, ⟨false, (.lit (.slice none 0 0))⟩, ⟨false, (.lit (.bool false))⟩]), (.dat false 30)], [⟨0, 0, [⟨true, .any⟩, ⟨true, .any⟩, ⟨true, (.ptr 1 0)⟩, ⟨true, (.ptr 2 0)⟩, ⟨true, .any⟩, ⟨true, .any⟩, ⟨true, .any⟩, ⟨true, .any⟩, ⟨true, .any⟩, ⟨true, .any⟩, ⟨true, .any⟩, ⟨true, .any⟩, ⟨true, .any⟩, ⟨true, .any⟩, ⟨true, .any⟩, ⟨true, .any⟩, ⟨true, .any⟩, ⟨true, .any⟩, ⟨true, .any⟩, ⟨true, .any⟩, ⟨true, .any⟩, ⟨true, .any⟩, ⟨true, .any⟩, ⟨true, .any⟩, ⟨true, .any⟩, ⟨true, .any⟩, ⟨true, .any⟩, ⟨true, .any⟩, ⟨true, .any⟩, ⟨true, .any⟩, ⟨true, .any⟩, ⟨true, .any⟩, ⟨true, .any⟩, ⟨true, .any⟩, ⟨true, .any⟩, ⟨true, .any⟩, ⟨true, .any⟩, ⟨true, .any⟩, ⟨true, .any⟩, ⟨true, .any⟩], [(.lst true 88), (.cells [⟨false, (.int .i64)⟩, ⟨true, (.osl 3 88)⟩, ⟨false, .bool⟩]), (.cells [⟨true, (.lit (.int .i64 0))⟩, ⟨true, (.lit (.slice none 0 0))⟩, ⟨true, (.lit (.bool false))⟩]), (.dat false 30)]⟩]⟩

noncomputable def st13_3 (p s : List D) : Option (Sum (List D) (List D)) := stepQX env tb24 60 12 13 (loopC 13 3) S13_3 p s

theorem st13_3_eq (pn0 : Int) (pb1 : Bool) (pd2 : D) (sn0 : Int) (sd1 : D) : st13_3  [(D.int pn0), (D.bool pb1), pd2] [(D.int sn0), sd1] =
    bif (qcmp BinOp.lss sn0 (qlen (qfld pd2 1))) then
      bif (qinb (qfld pd2 1) sn0) then
        bif (qmem (qlen (qapp sd1 (D.list [(D.agg [(D.int (qint (qfld (qget (qfld pd2 1) sn0) 0))), (D.int (qint (qfld (qget (qfld pd2 1) sn0) 1))), (D.int (qint (qfld (qget (qfld pd2 1) sn0) 2))), (D.int (qint (qfld (qget (qfld pd2 1) sn0) 3))), (D.bool (qbool (qfld (qget (qfld pd2 1) sn0) 4)))])]))) 40) then
          some (Sum.inl [(D.int (qbin BinOp.add IntKind.i64 sn0 1)), (qapp sd1 (D.list [(D.agg [(D.int (qint (qfld (qget (qfld pd2 1) sn0) 0))), (D.int (qint (qfld (qget (qfld pd2 1) sn0) 1))), (D.int (qint (qfld (qget (qfld pd2 1) sn0) 2))), (D.int (qint (qfld (qget (qfld pd2 1) sn0) 3))), (D.bool (qbool (qfld (qget (qfld pd2 1) sn0) 4)))])]))])
        else
          none
      else
        none
    else
      some (Sum.inr [(D.int 0), sd1]) := by
  have h : st13_3  [(D.int pn0), (D.bool pb1), pd2] [(D.int sn0), sd1] =
    bif (qcmp BinOp.lss sn0 (qlen (qfld pd2 1))) then
      bif (qinb (qfld pd2 1) sn0) then
        bif (qcmp BinOp.eql (qlen sd1) (qlen sd1)) then
          bif (qmem (qlen (qapp sd1 (D.list [(D.agg [(D.int (qint (qfld (qget (qfld pd2 1) sn0) 0))), (D.int (qint (qfld (qget (qfld pd2 1) sn0) 1))), (D.int (qint (qfld (qget (qfld pd2 1) sn0) 2))), (D.int (qint (qfld (qget (qfld pd2 1) sn0) 3))), (D.bool (qbool (qfld (qget (qfld pd2 1) sn0) 4)))])]))) 40) then
            bif (qcmp BinOp.eql (qlen (qapp sd1 (D.list [(D.agg [(D.int (qint (qfld (qget (qfld pd2 1) sn0) 0))), (D.int (qint (qfld (qget (qfld pd2 1) sn0) 1))), (D.int (qint (qfld (qget (qfld pd2 1) sn0) 2))), (D.int (qint (qfld (qget (qfld pd2 1) sn0) 3))), (D.bool (qbool (qfld (qget (qfld pd2 1) sn0) 4)))])]))) (qlen (qapp sd1 (D.list [(D.agg [(D.int (qint (qfld (qget (qfld pd2 1) sn0) 0))), (D.int (qint (qfld (qget (qfld pd2 1) sn0) 1))), (D.int (qint (qfld (qget (qfld pd2 1) sn0) 2))), (D.int (qint (qfld (qget (qfld pd2 1) sn0) 3))), (D.bool (qbool (qfld (qget (qfld pd2 1) sn0) 4)))])])))) then
              bif (qeqD (D.int pn0) (D.int pn0)) then
                bif (qeqD (D.bool pb1) (D.bool pb1)) then
                  bif (qeqD pd2 pd2) then
                    some (Sum.inl [(D.int (qbin BinOp.add IntKind.i64 sn0 1)), (qapp sd1 (D.list [(D.agg [(D.int (qint (qfld (qget (qfld pd2 1) sn0) 0))), (D.int (qint (qfld (qget (qfld pd2 1) sn0) 1))), (D.int (qint (qfld (qget (qfld pd2 1) sn0) 2))), (D.int (qint (qfld (qget (qfld pd2 1) sn0) 3))), (D.bool (qbool (qfld (qget (qfld pd2 1) sn0) 4)))])]))])
                  else
                    none
                else
                  none
              else
                none
            else
              none
          else
            none
        else
          none
      else
        none
    else
      bif (qcmp BinOp.eql (qlen sd1) (qlen sd1)) then
        bif (qeqD (D.int pn0) (D.int pn0)) then
          bif (qeqD (D.bool pb1) (D.bool pb1)) then
            bif (qeqD pd2 pd2) then
              some (Sum.inr [(D.int 0), sd1])
            else
              none
          else
            none
        else
          none
      else
        none := by kernel_rfl
  rw [h]; simp only [qeqD_self, qeqI_self, qeq_len, show qcmp BinOp.eql 0 (qlen (D.list [])) = true from qeq_len [], show ∀ a, qcmp BinOp.eql 1 (qlen (D.list [a])) = true from fun a => qeq_len [a], show ∀ a b, qcmp BinOp.eql 2 (qlen (D.list [a, b])) = true from fun a b => qeq_len [a, b], show ∀ a b c, qcmp BinOp.eql 3 (qlen (D.list [a, b, c])) = true from fun a b c => qeq_len [a, b, c], show ∀ a b c d, qcmp BinOp.eql 4 (qlen (D.list [a, b, c, d])) = true from fun a b c d => qeq_len [a, b, c, d], cond_true]

noncomputable def l13_3 : List D → List D → Option (List D) := veil fun p s => loW (st13_3  p) s

theorem l13_3_eq : l13_3  = fun p s => loW (st13_3  p) s := veil_eq _

noncomputable def tbl13_3 : Tb := Tb.addL tb24 13 3 S13_3.n0 (mkLp S13_3 (l13_3 ))

theorem ok_tbl13_3 : TbOk env (tbl13_3 ) := addLoopQ ok_tb24 13 3 (by kernel_rfl) _ (l13_3_eq )

def S13 : FunS := ⟨[⟨true, (.dat 30)⟩], [], [⟨true, (.dat 36)⟩], []⟩

noncomputable def F13 : List D → Option (List D) := liftX env tbl13_3 60 12 13 S13

theorem F13_eq  (sd0 : D) : F13  [sd0] =
    bif (qsome (Proofs.YtfdedgmlafelaaaGreatDoor.l13_3 [(D.int (qint (qfld sd0 0))), (D.bool (qbool (qfld sd0 2))), sd0] [(D.int 0), (D.list [])])) then
      some [(D.agg [(D.int (qint (qfld sd0 0))), (qnth (Proofs.YtfdedgmlafelaaaGreatDoor.l13_3 [(D.int (qint (qfld sd0 0))), (D.bool (qbool (qfld sd0 2))), sd0] [(D.int 0), (D.list [])]) 1), (D.bool (qbool (qfld sd0 2)))])]
    else
      none := by
  have h : F13  [sd0] =
    bif (qcmp BinOp.eql 0 (qlen (D.list []))) then
      bif (qsome (Proofs.YtfdedgmlafelaaaGreatDoor.l13_3 [(D.int (qint (qfld sd0 0))), (D.bool (qbool (qfld sd0 2))), sd0] [(D.int 0), (D.list [])])) then
        bif (qcmp BinOp.eql (qlen (qnth (Proofs.YtfdedgmlafelaaaGreatDoor.l13_3 [(D.int (qint (qfld sd0 0))), (D.bool (qbool (qfld sd0 2))), sd0] [(D.int 0), (D.list [])]) 1)) (qlen (qnth (Proofs.YtfdedgmlafelaaaGreatDoor.l13_3 [(D.int (qint (qfld sd0 0))), (D.bool (qbool (qfld sd0 2))), sd0] [(D.int 0), (D.list [])]) 1))) then
          some [(D.agg [(D.int (qint (qfld sd0 0))), (qnth (Proofs.YtfdedgmlafelaaaGreatDoor.l13_3 [(D.int (qint (qfld sd0 0))), (D.bool (qbool (qfld sd0 2))), sd0] [(D.int 0), (D.list [])]) 1), (D.bool (qbool (qfld sd0 2)))])]
        else
          none
      else
        none
    else
      none := by kernel_rfl
  rw [h]; simp only [qeqD_self, qeqI_self, qeq_len, show qcmp BinOp.eql 0 (qlen (D.list [])) = true from qeq_len [], show ∀ a, qcmp BinOp.eql 1 (qlen (D.list [a])) = true from fun a => qeq_len [a], show ∀ a b, qcmp BinOp.eql 2 (qlen (D.list [a, b])) = true from fun a b => qeq_len [a, b], show ∀ a b c, qcmp BinOp.eql 3 (qlen (D.list [a, b, c])) = true from fun a b c => qeq_len [a, b, c], show ∀ a b c d, qcmp BinOp.eql 4 (qlen (D.list [a, b, c, d])) = true from fun a b c d => qeq_len [a, b, c, d], cond_true]

noncomputable def q13 : List D → Option (List D) := veil (F13 )

theorem q13_eq : q13  = F13  := veil_eq _

noncomputable def tb13 : Tb := Tb.addF tbl13_3 13 S13 (q13 )

theorem ok_tb13 : TbOk env (tb13 ) := addFunF ok_tbl13_3 13 (by kernel_rfl) _ (q13_eq )

end Go.Proofs.YtfdedgmlafelaaaGreatDoor

open Go Go.AM
namespace Go.Proofs.YtfdedgmlafelaaaGreatDoor
set_option maxRecDepth 100000
set_option linter.unusedSimpArgs false
set_option linter.unusedVariables false
noncomputable def tb9x : Tb := Tb.addF tb13 9 S9 q9

theorem ok_tb9x : TbOk env tb9x := TbOk.addF ok_tb13 (by kernel_rfl) sound9

/- function 7  -/

def S7 : FunS := ⟨[⟨true, (.dat 30)⟩, ⟨true, (.int .i64)⟩], [], [⟨true, .bool⟩], []⟩

noncomputable def F7 : List D → Option (List D) := liftX env tb9x 60 12 7 S7

theorem F7_eq  (sd0 : D) (sn1 : Int) : F7  [sd0, (D.int sn1)] =
    bif (qcmp BinOp.gtr (qlen (qfld sd0 1)) 300) then
      bif (qsome (Proofs.YtfdedgmlafelaaaGreatDoor.q9 [])) then
        some [(D.bool (qbool (qnth (Proofs.YtfdedgmlafelaaaGreatDoor.q9 []) 0)))]
      else
        none
    else
      bif (qsome (Proofs.YtfdedgmlafelaaaGreatDoor.q23 [sd0, (D.int sn1)])) then
        bif (qsome (Proofs.YtfdedgmlafelaaaGreatDoor.q13 [sd0])) then
          bif (qsome (Proofs.YtfdedgmlafelaaaGreatDoor.q24 [(qnth (Proofs.YtfdedgmlafelaaaGreatDoor.q13 [sd0]) 0), (D.int sn1)])) then
            bif (qcmp BinOp.eql (qint (qnth (Proofs.YtfdedgmlafelaaaGreatDoor.q23 [sd0, (D.int sn1)]) 0)) (qint (qnth (Proofs.YtfdedgmlafelaaaGreatDoor.q24 [(qnth (Proofs.YtfdedgmlafelaaaGreatDoor.q13 [sd0]) 0), (D.int sn1)]) 0))) then
              bif (qeqB (qbool (qnth (Proofs.YtfdedgmlafelaaaGreatDoor.q23 [sd0, (D.int sn1)]) 1)) (qbool (qnth (Proofs.YtfdedgmlafelaaaGreatDoor.q24 [(qnth (Proofs.YtfdedgmlafelaaaGreatDoor.q13 [sd0]) 0), (D.int sn1)]) 1))) then
                bif (qsome (Proofs.YtfdedgmlafelaaaGreatDoor.q9 [])) then
                  some [(D.bool (qbool (qnth (Proofs.YtfdedgmlafelaaaGreatDoor.q9 []) 0)))]
                else
                  none
              else
                some [(D.bool Bool.false)]
            else
              some [(D.bool Bool.false)]
          else
            none
        else
          none
      else
        none := by kernel_rfl

noncomputable def q7 : List D → Option (List D) := veil (F7 )

theorem q7_eq : q7  = F7  := veil_eq _

noncomputable def tb7 : Tb := Tb.addF tb9x 7 S7 (q7 )

theorem ok_tb7 : TbOk env (tb7 ) := addFunF ok_tb9x 7 (by kernel_rfl) _ (q7_eq )

end Go.Proofs.YtfdedgmlafelaaaGreatDoor
