/-
  DERIVED: THE SHELF's CONTRACTS AT THIS DUMP, IN PLAIN WORDS (tools/lay-plain.mjs out of 'TryzShelf.lean', which tools/lay-shelf.mjs wrote): THE SAME DECLARATIONS UNDER THE SAME NAMES: 'import', 'namespace', 'open', 'def', 'theorem' AND NOTHING ELSE: no command of the shelf's: FOR A HAND-IN. Each laying: the table of numbers ('.._ren') and one theorem, a field a fact of the dump's own or the kernel's comparison; each contract: ONE APPLICATION.
-/
import Derived.Shelf.Strconv.Itoa0
import Derived.Shelf.Strconv.Itoa1
import Derived.Shelf.LaysM
import Derived.Shelf.Strconv.Itoa2
import Derived.Shelf.Strconv.Itoa3
import Derived.Shelf.Strings.Search1
import Derived.Shelf.Strings.Search2
import Derived.Shelf.Strings.Search3
import Derived.Shelf.Strings.Cut
import Derived.Shelf.Strings.Count
import Derived.Shelf.Strings.Shaped
import Derived.Shelf.Strings.Split
import Derived.Test.YtobhhfbdelnhfaaGreatDoorProg
import Derived.Test.YtobhhfbdelnhfaaGreatDoorAmZ2
import Derived.Test.YtobhhfbdelnhfaaGreatDoorC1
import Derived.Below
import Derived.RowKit3
import Derived.Lib.IndexMore
import Derived.Lib.ItoaNum
import Derived.Lib.SplitLaws
import Derived.Lib.LaidTab
import Derived.Sort.Grow
import Derived.Deep.Draws
import Derived.Shelf.Strings.Builder1
import Derived.Shelf.Strings.BuilderF
import Derived.Shelf.Strings.MapGrows
import Derived.Test.YtobhhfbdelnhfaaGreatDoorSp
import Derived.KernelRfl
set_option linter.unusedVariables false
set_option linter.unusedSimpArgs false
namespace Go.Proofs
open Go.Shelf
def Tryz.laysM171_ren : Go.Shelf.Ren := ⟨fun | 171 => 22 | 243 => 52 | 246 => 99 | 283 => 132 | 284 => 133 | 285 => 134 | 286 => 135 | 129 => 149 | 317 => 148 | 318 => 150 | 319 => 151 | 320 => 152 | 337 => 159 | 338 => 160 | n => n, fun | 3 => 3 | 9 => 9 | 2 => 2 | 4 => 4 | 171 => 135 | 0 => 0 | 53 => 79 | 37 => 32 | 5 => 5 | 173 => 138 | 212 => 151 | 51 => 22 | 20 => 20 | 213 => 152 | 46 => 68 | 232 => 162 | 233 => 163 | n => n, fun | 17 => 0 | 18 => 4 | 19 => 5 | n => n⟩
theorem Tryz.laysM171 : Go.Proofs.LaysM.n171 Tryz.prog Tryz.laysM171_ren := {
  mixed := by kernel_rfl
  f129 := Tryz.func149.trans (congrArg some (by kernel_rfl))
  f171 := Tryz.func22.trans (congrArg some (by kernel_rfl))
  f243 := Tryz.func52.trans (congrArg some (by kernel_rfl))
  f246 := Tryz.func99.trans (congrArg some (by kernel_rfl))
  f283 := Tryz.func132.trans (congrArg some (by kernel_rfl))
  f284 := Tryz.func133.trans (congrArg some (by kernel_rfl))
  f285 := Tryz.func134.trans (congrArg some (by kernel_rfl))
  f286 := Tryz.func135.trans (congrArg some (by kernel_rfl))
  f317 := Tryz.func148.trans (congrArg some (by kernel_rfl))
  f318 := Tryz.func150.trans (congrArg some (by kernel_rfl))
  f319 := Tryz.func151.trans (congrArg some (by kernel_rfl))
  f320 := Tryz.func152.trans (congrArg some (by kernel_rfl))
  f337 := Tryz.func159.trans (congrArg some (by kernel_rfl))
  f338 := Tryz.func160.trans (congrArg some (by kernel_rfl))
  t0 := Tryz.underlying0
  a0 := Tryz.isAgg0
  z0 := Tryz.sizeOf0
  v0 := Tryz.zeroValue0
  t2 := Tryz.underlying2
  a2 := Tryz.isAgg2
  z2 := Tryz.sizeOf2
  v2 := Tryz.zeroValue2
  t3 := Tryz.underlying3
  a3 := Tryz.isAgg3
  z3 := Tryz.sizeOf3
  v3 := Tryz.zeroValue3
  t4 := Tryz.underlying4
  a4 := Tryz.isAgg4
  z4 := Tryz.sizeOf4
  v4 := Tryz.zeroValue4
  t5 := Tryz.underlying5
  a5 := Tryz.isAgg5
  z5 := Tryz.sizeOf5
  v5 := Tryz.zeroValue5
  t9 := Tryz.underlying9
  a9 := Tryz.isAgg9
  z9 := Tryz.sizeOf9
  v9 := Tryz.zeroValue9
  t20 := Tryz.underlying20
  a20 := Tryz.isAgg20
  z20 := Tryz.sizeOf20
  v20 := Tryz.zeroValue20
  t37 := Tryz.underlying32
  a37 := Tryz.isAgg32
  z37 := Tryz.sizeOf32
  v37 := Tryz.zeroValue32
  t46 := Tryz.underlying68
  a46 := Tryz.isAgg68
  z46 := Tryz.sizeOf68
  v46 := Tryz.zeroValue68
  t51 := Tryz.underlying22
  a51 := Tryz.isAgg22
  z51 := Tryz.sizeOf22
  v51 := Tryz.zeroValue22
  t53 := Tryz.underlying79
  a53 := Tryz.isAgg79
  z53 := Tryz.sizeOf79
  v53 := Tryz.zeroValue79
  t171 := Tryz.underlying135
  a171 := Tryz.isAgg135
  z171 := Tryz.sizeOf135
  v171 := Tryz.zeroValue135
  t173 := Tryz.underlying138
  a173 := Tryz.isAgg138
  z173 := Tryz.sizeOf138
  v173 := Tryz.zeroValue138
  t212 := Tryz.underlying151
  a212 := Tryz.isAgg151
  z212 := Tryz.sizeOf151
  v212 := Tryz.zeroValue151
  t213 := Tryz.underlying152
  a213 := Tryz.isAgg152
  z213 := Tryz.sizeOf152
  t232 := Tryz.underlying162
  a232 := Tryz.isAgg162
  z232 := Tryz.sizeOf162
  v232 := Tryz.zeroValue162
  t233 := Tryz.underlying163
  a233 := Tryz.isAgg163
  z233 := Tryz.sizeOf163
  v233 := Tryz.zeroValue163
  g17 := by kernel_rfl
  g18 := by kernel_rfl
  g19 := by kernel_rfl
  i0 := by kernel_rfl
  i2 := by kernel_rfl
  i3 := by kernel_rfl
  i4 := by kernel_rfl
  i5 := by kernel_rfl
  i9 := by kernel_rfl
  i20 := by kernel_rfl
  i37 := by kernel_rfl
  i46 := by kernel_rfl
  i51 := by kernel_rfl
  i53 := by kernel_rfl
  i171 := by kernel_rfl
  i173 := by kernel_rfl
  i212 := by kernel_rfl
  i232 := by kernel_rfl
  i233 := by kernel_rfl
  m17 := by kernel_rfl
  m18 := by kernel_rfl
  m19 := by kernel_rfl }
open Go.RowKit Go.Sort Go.Lib in
theorem Tryz.strconv_Itoa (n : Int) (h0 : -9223372036854775808 ≤ n) (h1 : n ≤ 9223372036854775807) (w : World) (htab : Lib.TabIs Tryz.prog w "internal/strconv.uint64pow10" .u64 Lib.pow10Tab) :
    Calls Tryz.prog 22 #[.int .i64 n] w fun e w' => e = .returned (.string ⟨(Lib.itoa n).toArray⟩) ∧ ∃ k os, w' = grow (w.drewN k) os := Any.strconv_Itoa Tryz.laysM171 n h0 h1 w htab
def Tryz.lays219_ren : Go.Shelf.Ren := ⟨fun | 219 => 137 | 217 => 153 | 225 => 154 | 224 => 155 | 267 => 156 | 266 => 161 | 314 => 162 | n => n, fun | 9 => 9 | 3 => 3 | 4 => 4 | 5 => 5 | 46 => 68 | 146 => 156 | 51 => 22 | n => n, fun | 1 => 1 | n => n⟩
theorem Tryz.lays219 : Go.Proofs.Lays.n219 Tryz.prog Tryz.lays219_ren := {
  mixed := by kernel_rfl
  f217 := Tryz.func153.trans (congrArg some (by kernel_rfl))
  f219 := Tryz.func137.trans (congrArg some (by kernel_rfl))
  f224 := Tryz.func155.trans (congrArg some (by kernel_rfl))
  f225 := Tryz.func154.trans (congrArg some (by kernel_rfl))
  f266 := Tryz.func161.trans (congrArg some (by kernel_rfl))
  f267 := Tryz.func156.trans (congrArg some (by kernel_rfl))
  f314 := Tryz.func162.trans (congrArg some (by kernel_rfl))
  t3 := Tryz.underlying3
  a3 := Tryz.isAgg3
  z3 := Tryz.sizeOf3
  v3 := Tryz.zeroValue3
  t4 := Tryz.underlying4
  a4 := Tryz.isAgg4
  z4 := Tryz.sizeOf4
  v4 := Tryz.zeroValue4
  t5 := Tryz.underlying5
  a5 := Tryz.isAgg5
  z5 := Tryz.sizeOf5
  v5 := Tryz.zeroValue5
  t9 := Tryz.underlying9
  a9 := Tryz.isAgg9
  z9 := Tryz.sizeOf9
  v9 := Tryz.zeroValue9
  t46 := Tryz.underlying68
  a46 := Tryz.isAgg68
  z46 := Tryz.sizeOf68
  v46 := Tryz.zeroValue68
  t51 := Tryz.underlying22
  a51 := Tryz.isAgg22
  z51 := Tryz.sizeOf22
  v51 := Tryz.zeroValue22
  t146 := Tryz.underlying156
  a146 := Tryz.isAgg156
  z146 := Tryz.sizeOf156
  v146 := Tryz.zeroValue156
  g1 := by kernel_rfl }
open Go.RowKit Go.Lib in
theorem Tryz.stringslite_Index (s sub : ByteArray) (m : Int) (w : World) (hs : s.size < 4294967281) (hm : w.cell? ⟨1, 0, none⟩ = some (.int .i64 m)) :
    Calls Tryz.prog 137 #[.string s, .string sub] w fun e w' => e = .returned (.int .i64 (Lib.index s.data.toList sub.data.toList)) ∧ w' = w := Any.stringslite_Index Tryz.lays219 s sub m w hs hm
def Tryz.lays145_ren : Go.Shelf.Ren := ⟨fun | 145 => 61 | 220 => 103 | 219 => 137 | 217 => 153 | 225 => 154 | 224 => 155 | 267 => 156 | 266 => 161 | 314 => 162 | n => n, fun | 9 => 9 | 4 => 4 | 59 => 84 | 3 => 3 | 5 => 5 | 46 => 68 | 146 => 156 | 51 => 22 | n => n, fun | 1 => 1 | n => n⟩
theorem Tryz.lays145 : Go.Proofs.Lays.n145 Tryz.prog Tryz.lays145_ren := {
  mixed := by kernel_rfl
  f145 := Tryz.func61.trans (congrArg some (by kernel_rfl))
  f217 := Tryz.func153.trans (congrArg some (by kernel_rfl))
  f219 := Tryz.func137.trans (congrArg some (by kernel_rfl))
  f220 := Tryz.func103.trans (congrArg some (by kernel_rfl))
  f224 := Tryz.func155.trans (congrArg some (by kernel_rfl))
  f225 := Tryz.func154.trans (congrArg some (by kernel_rfl))
  f266 := Tryz.func161.trans (congrArg some (by kernel_rfl))
  f267 := Tryz.func156.trans (congrArg some (by kernel_rfl))
  f314 := Tryz.func162.trans (congrArg some (by kernel_rfl))
  t3 := Tryz.underlying3
  a3 := Tryz.isAgg3
  z3 := Tryz.sizeOf3
  v3 := Tryz.zeroValue3
  t4 := Tryz.underlying4
  a4 := Tryz.isAgg4
  z4 := Tryz.sizeOf4
  v4 := Tryz.zeroValue4
  t5 := Tryz.underlying5
  a5 := Tryz.isAgg5
  z5 := Tryz.sizeOf5
  v5 := Tryz.zeroValue5
  t9 := Tryz.underlying9
  a9 := Tryz.isAgg9
  z9 := Tryz.sizeOf9
  v9 := Tryz.zeroValue9
  t46 := Tryz.underlying68
  a46 := Tryz.isAgg68
  z46 := Tryz.sizeOf68
  v46 := Tryz.zeroValue68
  t51 := Tryz.underlying22
  a51 := Tryz.isAgg22
  z51 := Tryz.sizeOf22
  v51 := Tryz.zeroValue22
  t59 := Tryz.underlying84
  a59 := Tryz.isAgg84
  z59 := Tryz.sizeOf84
  v59 := Tryz.zeroValue84
  t146 := Tryz.underlying156
  a146 := Tryz.isAgg156
  z146 := Tryz.sizeOf156
  v146 := Tryz.zeroValue156
  g1 := by kernel_rfl }
open Go.RowKit Go.Lib in
theorem Tryz.strings_Cut (s sep : ByteArray) (m : Int) (w : World) (hs : s.size < 4294967281) (hm : w.cell? ⟨1, 0, none⟩ = some (.int .i64 m)) :
    Calls Tryz.prog 61 #[.string s, .string sep] w fun e w' => e = .returned (.tuple #[.string ⟨(Lib.cut s.data.toList sep.data.toList).1.toArray⟩, .string ⟨(Lib.cut s.data.toList sep.data.toList).2.1.toArray⟩, .bool (Lib.cut s.data.toList sep.data.toList).2.2]) ∧ ∃ n, w' = w.drewN n := Any.strings_Cut Tryz.lays145 s sep m w hs hm
def Tryz.lays138_ren : Go.Shelf.Ren := ⟨fun | 138 => 121 | 195 => 143 | 218 => 145 | 143 => 109 | 219 => 137 | 217 => 153 | 225 => 154 | 224 => 155 | 267 => 156 | 266 => 161 | 314 => 162 | n => n, fun | 9 => 9 | 3 => 3 | 4 => 4 | 5 => 5 | 0 => 0 | 46 => 68 | 146 => 156 | 51 => 22 | n => n, fun | 1 => 1 | n => n⟩
theorem Tryz.lays138 : Go.Proofs.Lays.n138 Tryz.prog Tryz.lays138_ren := {
  mixed := by kernel_rfl
  f138 := Tryz.func121.trans (congrArg some (by kernel_rfl))
  f143 := Tryz.func109.trans (congrArg some (by kernel_rfl))
  f195 := Tryz.func143.trans (congrArg some (by kernel_rfl))
  f217 := Tryz.func153.trans (congrArg some (by kernel_rfl))
  f218 := Tryz.func145.trans (congrArg some (by kernel_rfl))
  f219 := Tryz.func137.trans (congrArg some (by kernel_rfl))
  f224 := Tryz.func155.trans (congrArg some (by kernel_rfl))
  f225 := Tryz.func154.trans (congrArg some (by kernel_rfl))
  f266 := Tryz.func161.trans (congrArg some (by kernel_rfl))
  f267 := Tryz.func156.trans (congrArg some (by kernel_rfl))
  f314 := Tryz.func162.trans (congrArg some (by kernel_rfl))
  t0 := Tryz.underlying0
  a0 := Tryz.isAgg0
  z0 := Tryz.sizeOf0
  v0 := Tryz.zeroValue0
  t3 := Tryz.underlying3
  a3 := Tryz.isAgg3
  z3 := Tryz.sizeOf3
  v3 := Tryz.zeroValue3
  t4 := Tryz.underlying4
  a4 := Tryz.isAgg4
  z4 := Tryz.sizeOf4
  v4 := Tryz.zeroValue4
  t5 := Tryz.underlying5
  a5 := Tryz.isAgg5
  z5 := Tryz.sizeOf5
  v5 := Tryz.zeroValue5
  t9 := Tryz.underlying9
  a9 := Tryz.isAgg9
  z9 := Tryz.sizeOf9
  v9 := Tryz.zeroValue9
  t46 := Tryz.underlying68
  a46 := Tryz.isAgg68
  z46 := Tryz.sizeOf68
  v46 := Tryz.zeroValue68
  t51 := Tryz.underlying22
  a51 := Tryz.isAgg22
  z51 := Tryz.sizeOf22
  v51 := Tryz.zeroValue22
  t146 := Tryz.underlying156
  a146 := Tryz.isAgg156
  z146 := Tryz.sizeOf156
  v146 := Tryz.zeroValue156
  g1 := by kernel_rfl }
open Go.RowKit Go.Lib in
theorem Tryz.strings_Count_one (s : ByteArray) (c : UInt8) (w : World) :
    Calls Tryz.prog 121 #[.string s, .string ⟨#[c]⟩] w fun e w' => e = .returned (.int .i64 (Lib.countByte s.data.toList c)) ∧ w' = w := Any.strings_Count_one Tryz.lays138 s c w
def Tryz.lays146_ren : Go.Shelf.Ren := ⟨fun | 146 => 40 | 221 => 75 | 268 => 120 | 138 => 121 | 143 => 109 | 195 => 143 | 197 => 144 | 218 => 145 | 219 => 137 | 260 => 157 | 217 => 153 | 225 => 154 | 224 => 155 | 267 => 156 | 266 => 161 | 314 => 162 | n => n, fun | 9 => 9 | 31 => 45 | 3 => 3 | 4 => 4 | 0 => 0 | 105 => 145 | 21 => 21 | 5 => 5 | 46 => 68 | 119 => 158 | 139 => 161 | 138 => 160 | 146 => 156 | 51 => 22 | n => n, fun | 1 => 1 | 3 => 2 | 4 => 3 | n => n⟩
theorem Tryz.lays146 : Go.Proofs.Lays.n146 Tryz.prog Tryz.lays146_ren := {
  mixed := by kernel_rfl
  f138 := Tryz.func121.trans (congrArg some (by kernel_rfl))
  f143 := Tryz.func109.trans (congrArg some (by kernel_rfl))
  f146 := Tryz.func40.trans (congrArg some (by kernel_rfl))
  f195 := Tryz.func143.trans (congrArg some (by kernel_rfl))
  f197 := Tryz.func144.trans (congrArg some (by kernel_rfl))
  f217 := Tryz.func153.trans (congrArg some (by kernel_rfl))
  f218 := Tryz.func145.trans (congrArg some (by kernel_rfl))
  f219 := Tryz.func137.trans (congrArg some (by kernel_rfl))
  f221 := Tryz.func75.trans (congrArg some (by kernel_rfl))
  f224 := Tryz.func155.trans (congrArg some (by kernel_rfl))
  f225 := Tryz.func154.trans (congrArg some (by kernel_rfl))
  f260 := Tryz.func157.trans (congrArg some (by kernel_rfl))
  f266 := Tryz.func161.trans (congrArg some (by kernel_rfl))
  f267 := Tryz.func156.trans (congrArg some (by kernel_rfl))
  f268 := Tryz.func120.trans (congrArg some (by kernel_rfl))
  f314 := Tryz.func162.trans (congrArg some (by kernel_rfl))
  t0 := Tryz.underlying0
  a0 := Tryz.isAgg0
  z0 := Tryz.sizeOf0
  v0 := Tryz.zeroValue0
  t3 := Tryz.underlying3
  a3 := Tryz.isAgg3
  z3 := Tryz.sizeOf3
  v3 := Tryz.zeroValue3
  t4 := Tryz.underlying4
  a4 := Tryz.isAgg4
  z4 := Tryz.sizeOf4
  v4 := Tryz.zeroValue4
  t5 := Tryz.underlying5
  a5 := Tryz.isAgg5
  z5 := Tryz.sizeOf5
  v5 := Tryz.zeroValue5
  t9 := Tryz.underlying9
  a9 := Tryz.isAgg9
  z9 := Tryz.sizeOf9
  v9 := Tryz.zeroValue9
  t21 := Tryz.underlying21
  a21 := Tryz.isAgg21
  z21 := Tryz.sizeOf21
  v21 := Tryz.zeroValue21
  t31 := Tryz.underlying45
  a31 := Tryz.isAgg45
  z31 := Tryz.sizeOf45
  v31 := Tryz.zeroValue45
  t46 := Tryz.underlying68
  a46 := Tryz.isAgg68
  z46 := Tryz.sizeOf68
  v46 := Tryz.zeroValue68
  t51 := Tryz.underlying22
  a51 := Tryz.isAgg22
  z51 := Tryz.sizeOf22
  v51 := Tryz.zeroValue22
  t105 := Tryz.underlying145
  a105 := Tryz.isAgg145
  z105 := Tryz.sizeOf145
  v105 := Tryz.zeroValue145
  t119 := Tryz.underlying158
  a119 := Tryz.isAgg158
  z119 := Tryz.sizeOf158
  t138 := Tryz.underlying160
  a138 := Tryz.isAgg160
  z138 := Tryz.sizeOf160
  v138 := Tryz.zeroValue160
  t139 := Tryz.underlying161
  a139 := Tryz.isAgg161
  z139 := Tryz.sizeOf161
  v139 := Tryz.zeroValue161
  t146 := Tryz.underlying156
  a146 := Tryz.isAgg156
  z146 := Tryz.sizeOf156
  v146 := Tryz.zeroValue156
  g1 := by kernel_rfl
  g3 := by kernel_rfl
  g4 := by kernel_rfl }
open Go.RowKit Go.Lib in
theorem Tryz.strings_Split (s sep : ByteArray) (m : Int) (w : World) (hs : s.size < 4294967281) (hm : w.cell? ⟨1, 0, none⟩ = some (.int .i64 m)) (h1 : 1 ≤ sep.size) :
    Calls Tryz.prog 40 #[.string s, .string sep] w fun e w' =>
      e = .returned (.slice (some ⟨w.heap.size, 0, none⟩) (Lib.countB s sep + 1) (Lib.countB s sep + 1)) ∧ w' = w.alloc (.cells ((Lib.splitB sep 0 (Lib.countB s sep) s).map Value.string).toArray 9) := Any.strings_Split Tryz.lays146 (by kernel_rfl) s sep m w hs hm h1
end Go.Proofs
namespace Go.AM
section
variable {P : Program}
theorem ok_of_same {f : FuncId} {args : List AV} {H : Hp} {x : Value} (h : ∀ (lo : Nat → Prop) (w0 : World) (ρ : Nat → Option Nat) (E : Nat → Prop) (w : World) (vs : Array Value), Inv lo w0 ρ E H w → RepL ρ E w args vs.toList →
      Calls P f vs w fun e w' => e = .returned x ∧ w' = w) : Ok P f args H (.sc x) H := by
  intro lo w0 ρ E w vs inv ra
  refine (h lo w0 ρ E w vs inv ra).mono ?_
  rintro e w' ⟨rfl, rfl⟩
  exact ⟨x, ρ, E, rfl, inv, ⟨Ext.refl, fun _ h => .inl h⟩, by simp only [Rep]⟩
noncomputable def idxT (s t : List UInt8) (i : Nat) : Int := match s with | [] => bif t.isEmpty then (i : Int) else -1 | x :: r => bif t.isPrefixOf (x :: r) then (i : Int) else idxT r t (i + 1)
theorem idxT_eq : ∀ (s t : List UInt8) (i : Nat), idxT s t i = if Lib.index s t = -1 then -1 else Lib.index s t + i
  | [], t, i => by
    unfold idxT Lib.index
    cases h : t.isEmpty <;> simp
  | x :: r, t, i => by
    have ih := idxT_eq r t (i + 1)
    have hg := Lib.index_ge r t
    unfold idxT Lib.index
    rw [ih]
    cases h : t.isPrefixOf (x :: r) with
    | true => simp
    | false =>
      simp only [cond_false, Bool.false_eq_true, if_false, beq_iff_eq]
      by_cases h1 : Lib.index r t = -1
      · simp [h1]
      · have h2 : ¬ (Lib.index r t + 1 = -1) := by omega
        simp only [h1, h2, if_false]; omega
def IndexSaid (P : Program) (f g : Nat) : Prop :=
  ∀ (s sub : ByteArray) (m : Int) (w : World), s.size < 4294967281 → w.cell? ⟨g, 0, none⟩ = some (.int .i64 m) →
    Calls P f #[.string s, .string sub] w fun e w' => e = .returned (.int .i64 (Lib.index s.data.toList sub.data.toList)) ∧ w' = w
noncomputable def idxC (g : Nat) (args : List AV) (H : Hp) : Option (AV × Hp) :=
  match args with
  | [.sc (.string s), .sc (.string t)] => (match H.glob g with
    | some [.anyI .i64] => bif Nat.ble s.size 1048576 then some (.sc (.int .i64 (idxT s.data.toList t.data.toList 0)), H) else none
    | _ => none)
  | _ => none
theorem idxC_ok {f g : Nat} (hC : IndexSaid P f g) (args : List AV) (H : Hp) (v : AV) (H' : Hp) (h : idxC g args H = some (v, H')) : Ok P f args H v H' := by
  unfold idxC at h
  split at h
  case h_2 => cases h
  case h_1 s t =>
    split at h
    case h_2 => cases h
    case h_1 hg =>
      cases hb : Nat.ble s.size 1048576 with
      | false => rw [hb] at h; cases h
      | true =>
        rw [hb] at h
        cases h
        simp only [Nat.ble_eq] at hb
        refine ok_of_same fun lo w0 ρ E w vs inv ra => ?_
        generalize hvs : vs.toList = l at ra
        simp only [RepL] at ra
        obtain ⟨u1, l1, rfl, r1, u2, l2, rfl, r2, rfl⟩ := ra
        simp only [Rep] at r1 r2
        subst r1 r2
        have hv : vs = #[.string s, .string t] := by rw [← Array.toList_inj, hvs]
        have hr := (inv.gl g _ hg).2.1
        simp only [RepAt, Rep] at hr
        obtain ⟨⟨u, hu, n, rfl⟩, _⟩ := hr
        have e : idxT s.data.toList t.data.toList 0 = Lib.index s.data.toList t.data.toList := by
          rw [idxT_eq]; split <;> simp_all
        rw [hv, e]
        exact hC s t n w (by omega) hu
def CountSaid (P : Program) (f : Nat) : Prop :=
  ∀ (s : ByteArray) (c : UInt8) (w : World), Calls P f #[.string s, .string ⟨#[c]⟩] w fun e w' => e = .returned (.int .i64 (Lib.countByte s.data.toList c)) ∧ w' = w
noncomputable def cntC (args : List AV) (H : Hp) : Option (AV × Hp) :=
  match args with
  | [.sc (.string s), .sc (.string ⟨⟨[c]⟩⟩)] => some (.sc (.int .i64 (s.data.toList.count c : Nat)), H)
  | _ => none
theorem cntC_ok {f : Nat} (hC : CountSaid P f) (args : List AV) (H : Hp) (v : AV) (H' : Hp) (h : cntC args H = some (v, H')) : Ok P f args H v H' := by
  unfold cntC at h
  split at h
  case h_2 => cases h
  case h_1 s c =>
    cases h
    refine ok_of_same fun lo w0 ρ E w vs inv ra => ?_
    generalize hvs : vs.toList = l at ra
    simp only [RepL] at ra
    obtain ⟨u1, l1, rfl, r1, u2, l2, rfl, r2, rfl⟩ := ra
    simp only [Rep] at r1 r2
    subst r1 r2
    have hv : vs = #[.string s, .string ⟨#[c]⟩] := by rw [← Array.toList_inj, hvs]
    rw [hv]
    exact hC s c w
end
end Go.AM
namespace Go.AM
section
variable {P : Program}
theorem ok_of_belowV {f : FuncId} {args : List AV} {H : Hp} {v : AV} (h : ∀ (lo : Nat → Prop) (w0 : World) (ρ : Nat → Option Nat) (E : Nat → Prop) (w : World) (vs : Array Value), Inv lo w0 ρ E H w → RepL ρ E w args vs.toList →
      Calls P f vs w fun e w' => ∃ x, e = .returned x ∧ RowKit.Below w.heap.size w w' ∧ Rep ρ (fun b => E b ∨ (w.heap.size ≤ b ∧ b < w'.heap.size)) w' v x) : Ok P f args H v H := by
  intro lo w0 ρ E w vs inv ra
  refine (h lo w0 ρ E w vs inv ra).mono ?_
  rintro e w' ⟨x, rfl, hb, hrep⟩
  obtain ⟨b1, b2, b3, hsz, hold⟩ := hb
  have ext : Ext ρ E w ρ (fun b => E b ∨ (w.heap.size ≤ b ∧ b < w'.heap.size)) w' := Ext.grow (fun _ _ h => h) (fun _ h => .inl h) (fun i b hb => (inv.bd i b hb).2) inv.ebd hold hsz
  refine ⟨x, ρ, _, rfl, ?_, ⟨ext, ?_⟩, hrep⟩
  · exact { len := inv.len, dom := inv.dom, blk := fun i k b hk hb => (inv.blk i k b hk hb).mono ext (hold b (inv.bd i b hb).2), inj := inv.inj
            notE := fun i k b hk hb he => by
              rcases he with he | he
              · exact inv.notE i k b hk hb he
              · have := (inv.bd i b hb).2; omega
            bd := fun i b hb => ⟨(inv.bd i b hb).1, Nat.lt_of_lt_of_le (inv.bd i b hb).2 hsz⟩
            ebd := fun b he => by
              rcases he with he | he
              · exact Nat.lt_of_lt_of_le (inv.ebd b he) hsz
              · exact he.2
            lole := fun b hb => Nat.lt_of_lt_of_le (inv.lole b hb) hsz
            old := fun b hb => (hold b (inv.lole b hb)).trans (inv.old b hb)
            io := inv.io.trans ⟨b1, b2, b3⟩, gl := gl_mono rfl ext inv.gl }
  · intro b hb
    rcases hb with hb | hb
    · exact .inl hb
    · exact .inr fun h => by have := inv.lole b h; omega
theorem bl_drewN (w : World) (n : Nat) : RowKit.Below w.heap.size w (w.drewN n) := ⟨rfl, rfl, rfl, Nat.le_refl _, fun _ _ => rfl⟩
theorem below_grow (w : World) (k : Nat) (os : Array Obj) : RowKit.Below w.heap.size w (Sort.grow (w.drewN k) os) := by
  refine RowKit.Below.trans (bl_drewN w k) ⟨rfl, rfl, rfl, ?_, fun b hb => ?_⟩
  · simp only [Sort.grow, Array.size_append]; omega
  · have h0 : (w.drewN k).heap = w.heap := rfl
    simp only [Sort.grow, h0]
    rw [Array.getElem?_append_left hb]
noncomputable def qitoa : Int → ByteArray := veil fun n => ⟨(Lib.itoa n).toArray⟩
noncomputable def qcutA : ByteArray → ByteArray → ByteArray := veil fun s t => ⟨(Lib.cut s.data.toList t.data.toList).1.toArray⟩
noncomputable def qcutB : ByteArray → ByteArray → ByteArray := veil fun s t => ⟨(Lib.cut s.data.toList t.data.toList).2.1.toArray⟩
noncomputable def qcutOk : ByteArray → ByteArray → Bool := veil fun s t => (Lib.cut s.data.toList t.data.toList).2.2
noncomputable def qsplit : ByteArray → ByteArray → D := veil fun s t => .list ((Lib.splitB t 0 (Lib.countB s t) s).map .str)
noncomputable def qidxT : ByteArray → ByteArray → Int := veil fun s t => Lib.index s.data.toList t.data.toList
def powC (i : Nat) : AV → Bool
  | .sc (.int .u64 (.ofNat m)) => Nat.beq m (10 ^ i)
  | _ => false
def eqPow : Nat → List AV → Bool
  | _, [] => true
  | i, c :: r => powC i c && eqPow (i + 1) r
theorem powC_eq {i : Nat} {c : AV} (h : powC i c = true) : c = .sc (.int .u64 (10 ^ i : Nat)) := by
  unfold powC at h
  split at h
  · rename_i m
    have hm : m = 10 ^ i := Nat.eq_of_beq_eq_true h
    subst hm; rfl
  · cases h
theorem eqPow_eq : ∀ (cs : List AV) (i : Nat), eqPow i cs = true → cs = (List.range cs.length).map fun j => .sc (.int .u64 (10 ^ (i + j) : Nat))
  | [], _, _ => rfl
  | c :: cs, i, h => by
    simp only [eqPow, Bool.and_eq_true] at h
    have ih := eqPow_eq cs (i + 1) h.2
    rw [List.length_cons, List.range_succ_eq_map, List.map_cons, List.map_map, powC_eq h.1]
    congr 1
    refine ih.trans (List.map_congr_left fun j _ => ?_)
    simp only [Function.comp]
    rw [show i + 1 + j = i + (j + 1) by omega]
def ItoaSaid (P : Program) (f : Nat) : Prop :=
  ∀ (n : Int), -9223372036854775808 ≤ n → n ≤ 9223372036854775807 → ∀ (w : World), Lib.TabIs P w "internal/strconv.uint64pow10" .u64 Lib.pow10Tab →
    Calls P f #[.int .i64 n] w fun e w' => e = .returned (.string ⟨(Lib.itoa n).toArray⟩) ∧ ∃ k os, w' = Sort.grow (w.drewN k) os
noncomputable def itoaC (g : Nat) (args : List AV) (H : Hp) : Option (AV × Hp) :=
  match args with
  | [.ui .i64 n] => (match H.glob g with
    | some cs => bif eqPow 0 cs && Nat.beq cs.length 20 then some (.us (qitoa n), H) else none
    | none => none)
  | _ => none
noncomputable def itoaO (args : List AV) (_ : Hp) : List Bool :=
  match args with
  | [.ui .i64 n] => [qcmp .leq (-9223372036854775808) n, qcmp .leq n 9223372036854775807]
  | _ => []
theorem allSc_pow : ∀ (cs : List AV) (i : Nat), eqPow i cs = true → allSc cs = true
  | [], _, _ => rfl
  | c :: cs, i, h => by
    simp only [eqPow, Bool.and_eq_true] at h
    rw [powC_eq h.1]
    exact allSc_pow cs (i + 1) h.2
theorem itoaC_ok {f g : Nat} (hC : ItoaSaid P f) (hg : P.globalNamed "internal/strconv.uint64pow10" = some g) (args : List AV) (H : Hp) (v : AV) (H' : Hp) (h : itoaC g args H = some (v, H')) (ho : allB (itoaO args H) = true) : Ok P f args H v H' := by
  unfold itoaC at h
  split at h
  case h_2 => cases h
  case h_1 n =>
    split at h
    case h_2 => cases h
    case h_1 cs hgl =>
      cases hb : (eqPow 0 cs && Nat.beq cs.length 20) with
      | false => rw [hb] at h; cases h
      | true =>
        rw [hb] at h
        cases h
        simp only [Bool.and_eq_true] at hb
        have hlen := Nat.eq_of_beq_eq_true hb.2
        have o1 := allB_mem ho (qcmp .leq (-9223372036854775808) n) (by simp [itoaO])
        have o2 := allB_mem ho (qcmp .leq n 9223372036854775807) (by simp [itoaO])
        rw [qcmp_eq] at o1 o2
        simp only [rcmp, decide_eq_true_eq] at o1 o2
        refine ok_of_belowV fun lo w0 ρ E w vs inv ra => ?_
        generalize hvs : vs.toList = l at ra
        simp only [RepL] at ra
        obtain ⟨u1, l1, rfl, r1, rfl⟩ := ra
        simp only [Rep] at r1
        subst r1
        have hv : vs = #[.int .i64 n] := by rw [← Array.toList_inj, hvs]
        obtain ⟨_, hat, hall⟩ := inv.gl g _ hgl
        obtain ⟨c, T, fz, hc, hsz⟩ := hall (allSc_pow cs 0 hb.1)
        have htab : Lib.TabIs P w "internal/strconv.uint64pow10" .u64 Lib.pow10Tab := by
          unfold Lib.TabIs World.var?
          simp only [hg, Option.bind_some, hc, Option.some.injEq]
          rw [← Array.toList_inj]
          apply List.ext_getElem?
          intro i
          simp only [Array.getElem?_toList, Lib.pow10Tab, List.map_map, List.getElem?_map]
          have hcs := eqPow_eq cs 0 hb.1
          rw [hlen] at hcs hsz
          by_cases hi : i < 20
          · have hx : cs[i]? = some (.sc (.int .u64 (10 ^ i : Nat))) := by
              rw [hcs, List.getElem?_map, List.getElem?_range hi]; simp
            obtain ⟨u, hu, hr⟩ := hat.each i _ hx
            simp only [Rep] at hr
            subst hr
            simp only [World.cell?, hc, Nat.zero_add] at hu
            rw [List.getElem?_range hi]
            simpa using hu
          · rw [Array.getElem?_eq_none (by omega), List.getElem?_eq_none (by simpa using hi)]; rfl
        rw [hv]
        refine (hC n o1 o2 w htab).mono ?_
        rintro e w' ⟨rfl, k, os, rfl⟩
        refine ⟨_, rfl, below_grow w k os, ?_⟩
        simp only [Rep, qitoa, veil_eq]
def CutSaid (P : Program) (f g : Nat) : Prop :=
  ∀ (s sep : ByteArray) (m : Int) (w : World), s.size < 4294967281 → w.cell? ⟨g, 0, none⟩ = some (.int .i64 m) →
    Calls P f #[.string s, .string sep] w fun e w' => e = .returned (.tuple #[.string ⟨(Lib.cut s.data.toList sep.data.toList).1.toArray⟩, .string ⟨(Lib.cut s.data.toList sep.data.toList).2.1.toArray⟩, .bool (Lib.cut s.data.toList sep.data.toList).2.2]) ∧ ∃ n, w' = w.drewN n
def isAnyG : Option (List AV) → Bool
  | some [.anyI .i64] => true
  | _ => false
noncomputable def cutC (g : Nat) (args : List AV) (H : Hp) : Option (AV × Hp) :=
  match args with
  | [.us s, .sc (.string t)] => bif isAnyG (H.glob g) then some (.tup [.us (qcutA s t), .us (qcutB s t), .ub (qcutOk s t)], H) else none
  | _ => none
noncomputable def sizeO (args : List AV) (_ : Hp) : List Bool :=
  match args with
  | [.us s, .sc (.string _)] => [qcmp .lss (qlenS s) 4294967281]
  | [.sc (.string _), .us _] => []
  | _ => []
theorem any_cell {lo : Nat → Prop} {w0 : World} {ρ : Nat → Option Nat} {E : Nat → Prop} {H : Hp} {w : World} (inv : Inv lo w0 ρ E H w) {g : Nat} (h : isAnyG (H.glob g) = true) : ∃ m, w.cell? ⟨g, 0, none⟩ = some (.int .i64 m) := by
  unfold isAnyG at h
  split at h
  · rename_i hg
    have hr := (inv.gl g _ hg).2.1
    simp only [RepAt, Rep] at hr
    obtain ⟨⟨u, hu, n, rfl⟩, _⟩ := hr
    exact ⟨n, hu⟩
  · cases h
theorem sizeO_lt {s t : ByteArray} {H : Hp} (ho : allB (sizeO [.us s, .sc (.string t)] H) = true) : s.size < 4294967281 := by
  have o1 := allB_mem ho (qcmp .lss (qlenS s) 4294967281) (by simp [sizeO])
  rw [qcmp_eq, qlenS_eq] at o1
  simp only [rcmp, decide_eq_true_eq] at o1
  omega
theorem cutC_ok {f g : Nat} (hC : CutSaid P f g) (args : List AV) (H : Hp) (v : AV) (H' : Hp) (h : cutC g args H = some (v, H')) (ho : allB (sizeO args H) = true) : Ok P f args H v H' := by
  unfold cutC at h
  split at h
  case h_2 => cases h
  case h_1 s t =>
    cases hb : isAnyG (H.glob g) with
    | false => rw [hb] at h; cases h
    | true =>
      rw [hb] at h
      cases h
      refine ok_of_belowV fun lo w0 ρ E w vs inv ra => ?_
      generalize hvs : vs.toList = l at ra
      simp only [RepL] at ra
      obtain ⟨u1, l1, rfl, r1, u2, l2, rfl, r2, rfl⟩ := ra
      simp only [Rep] at r1 r2
      subst r1 r2
      have hv : vs = #[.string s, .string t] := by rw [← Array.toList_inj, hvs]
      obtain ⟨m, hm⟩ := any_cell inv hb
      rw [hv]
      refine (hC s t m w (sizeO_lt ho) hm).mono ?_
      rintro e w' ⟨rfl, n, rfl⟩
      refine ⟨_, rfl, bl_drewN w n, ?_⟩
      simp only [Rep]
      exact ⟨_, rfl, RepL.cons (by simp only [Rep, qcutA, veil_eq]) (RepL.cons (by simp only [Rep, qcutB, veil_eq]) (RepL.cons (by simp only [Rep, qcutOk, veil_eq]) RepL.nil))⟩
noncomputable def idxU (g : Nat) (args : List AV) (H : Hp) : Option (AV × Hp) :=
  match args with
  | [.us s, .sc (.string t)] => bif isAnyG (H.glob g) then some (.ui .i64 (qidxT s t), H) else none
  | [.sc (.string s), .us t] => bif isAnyG (H.glob g) && Nat.ble s.size 1048576 then some (.ui .i64 (qidxT s t), H) else none
  | args => idxC g args H
theorem idxU_ok {f g : Nat} (hC : IndexSaid P f g) (args : List AV) (H : Hp) (v : AV) (H' : Hp) (h : idxU g args H = some (v, H')) (ho : allB (sizeO args H) = true) : Ok P f args H v H' := by
  have core : ∀ (a b : AV) (s t : ByteArray), s.size < 4294967281 → isAnyG (H.glob g) = true → (∀ ρ E w u, Rep ρ E w a u → u = .string s) → (∀ ρ E w u, Rep ρ E w b u → u = .string t) → Ok P f [a, b] H (.ui .i64 (qidxT s t)) H := by
    intro a b s t hs hb ha hbb
    refine ok_of_belowV fun lo w0 ρ E w vs inv ra => ?_
    generalize hvs : vs.toList = l at ra
    simp only [RepL] at ra
    obtain ⟨u1, l1, rfl, r1, u2, l2, rfl, r2, rfl⟩ := ra
    obtain rfl := ha _ _ _ _ r1
    obtain rfl := hbb _ _ _ _ r2
    have hv : vs = #[.string s, .string t] := by rw [← Array.toList_inj, hvs]
    obtain ⟨m, hm⟩ := any_cell inv hb
    rw [hv]
    refine (hC s t m w hs hm).mono ?_
    rintro e w' ⟨rfl, rfl⟩
    exact ⟨_, rfl, RowKit.Below.refl _ _, by simp only [Rep, qidxT, veil_eq]⟩
  unfold idxU at h
  split at h
  · rename_i s t
    cases hb : isAnyG (H.glob g) with
    | false => rw [hb] at h; cases h
    | true =>
      rw [hb] at h
      cases h
      exact core _ _ s t (sizeO_lt ho) hb (fun ρ E w u r => by simpa only [Rep] using r) (fun ρ E w u r => by simpa only [Rep] using r)
  · rename_i s t
    cases hb : (isAnyG (H.glob g) && Nat.ble s.size 1048576) with
    | false => rw [hb] at h; cases h
    | true =>
      rw [hb] at h
      cases h
      simp only [Bool.and_eq_true, Nat.ble_eq] at hb
      exact core _ _ s t (by omega) hb.1 (fun ρ E w u r => by simpa only [Rep] using r) (fun ρ E w u r => by simpa only [Rep] using r)
  · exact idxC_ok hC _ H v H' h
def SplitSaid (P : Program) (f g T : Nat) : Prop :=
  ∀ (s sep : ByteArray) (m : Int) (w : World), s.size < 4294967281 → w.cell? ⟨g, 0, none⟩ = some (.int .i64 m) → 1 ≤ sep.size →
    Calls P f #[.string s, .string sep] w fun e w' =>
      e = .returned (.slice (some ⟨w.heap.size, 0, none⟩) (Lib.countB s sep + 1) (Lib.countB s sep + 1)) ∧ w' = w.alloc (.cells ((Lib.splitB sep 0 (Lib.countB s sep) s).map Value.string).toArray T)
noncomputable def splitC (g T : Nat) (args : List AV) (H : Hp) : Option (AV × Hp) :=
  match args with
  | [.us s, .sc (.string t)] => bif isAnyG (H.glob g) && Nat.ble 1 t.size && Nat.beq (PG.cellsOf T) 1 then some (.rows T (qsplit s t), H) else none
  | _ => none
theorem alloc_get (w : World) (o : Obj) : (w.alloc o).heap[w.heap.size]? = some o := by show (w.heap.push o)[w.heap.size]? = some o; simp
theorem splitC_ok {f g T : Nat} (hC : SplitSaid P f g T) (hT : PG.underlying T = some .string) (args : List AV) (H : Hp) (v : AV) (H' : Hp) (h : splitC g T args H = some (v, H')) (ho : allB (sizeO args H) = true) : Ok P f args H v H' := by
  unfold splitC at h
  split at h
  case h_2 => cases h
  case h_1 s t =>
    cases hb : (isAnyG (H.glob g) && Nat.ble 1 t.size && Nat.beq (PG.cellsOf T) 1) with
    | false => rw [hb] at h; cases h
    | true =>
      rw [hb] at h
      cases h
      simp only [Bool.and_eq_true, Nat.ble_eq] at hb
      have hz := Nat.eq_of_beq_eq_true hb.2
      refine ok_of_belowV fun lo w0 ρ E w vs inv ra => ?_
      generalize hvs : vs.toList = l at ra
      simp only [RepL] at ra
      obtain ⟨u1, l1, rfl, r1, u2, l2, rfl, r2, rfl⟩ := ra
      simp only [Rep] at r1 r2
      subst r1 r2
      have hv : vs = #[.string s, .string t] := by rw [← Array.toList_inj, hvs]
      obtain ⟨m, hm⟩ := any_cell inv hb.1.1
      rw [hv]
      refine (hC s t m w (sizeO_lt ho) hm hb.1.2).mono ?_
      rintro e w' ⟨rfl, rfl⟩
      have hlen := Lib.splitB_all t hb.1.2 0 _ s rfl
      refine ⟨_, rfl, (RowKit.Below.refl _ w).alloc (Nat.le_refl _) _, ?_⟩
      have hd : (qsplit s t).toList = (Lib.splitB t 0 (Lib.countB s t) s).map D.str := by simp only [qsplit, veil_eq, D.toList]
      have hdl : (qsplit s t).toList.length = Lib.countB s t + 1 := by rw [hd, List.length_map, hlen]
      simp only [Rep]
      refine ⟨some ⟨w.heap.size, 0, none⟩, Lib.countB s t + 1, by rw [hdl], by rw [hdl]; exact Nat.le_refl _, .inr ⟨w.heap.size, 0, rfl, .inr ⟨Nat.le_refl _, by show w.heap.size < (w.heap.push _).size; simp⟩, fun i x hx => ?_⟩⟩
      rw [hd, List.getElem?_map] at hx
      obtain ⟨y, hy, rfl⟩ := Option.map_eq_some_iff.1 hx
      refine ⟨[.string y], by rw [hz]; rfl, fun j u hu => ?_, .str hT⟩
      cases j with
      | succ j => simp at hu
      | zero =>
        simp only [List.getElem?_cons_zero, Option.some.injEq] at hu
        subst hu
        simp only [World.cell?, alloc_get, hz, Nat.mul_one, Nat.zero_add, Nat.add_zero]
        rw [List.getElem?_toArray, List.getElem?_map, hy]; rfl
end
end Go.AM
namespace Go.Proofs.YtobhhfbdelnhfaaGreatDoor
open Go Go.AM
set_option maxRecDepth 100000
theorem itoaSaid : ItoaSaid Tryz.prog 22 := fun n h0 h1 w ht => Tryz.strconv_Itoa n h0 h1 w ht
theorem indexSaid : IndexSaid Tryz.prog 137 1 := fun s sub m w hs hm => Tryz.stringslite_Index s sub m w hs hm
theorem cutSaid : CutSaid Tryz.prog 61 1 := fun s sub m w hs hm => Tryz.strings_Cut s sub m w hs hm
theorem splitSaid : SplitSaid Tryz.prog 40 1 9 := fun s sub m w hs hm h1 => Tryz.strings_Split s sub m w hs hm h1
noncomputable def tbS : Tb := (((Tb.nil.add 22 (itoaC 0) itoaO).add 137 (idxU 1) sizeO).add 61 (cutC 1) sizeO).add 40 (splitC 1 9) sizeO
theorem ok_tbS : TbOk env tbS :=
  (((TbOk.nil.add (by kernel_rfl) fun args H v H' h ho => itoaC_ok itoaSaid (by kernel_rfl) args H v H' h ho).add (by kernel_rfl) fun args H v H' h ho => idxU_ok indexSaid args H v H' h ho).add (by kernel_rfl) fun args H v H' h ho => cutC_ok cutSaid args H v H' h ho).add (by kernel_rfl) fun args H v H' h ho => splitC_ok splitSaid (by unfold PG; exact Tryz.underlying9) args H v H' h ho
end Go.Proofs.YtobhhfbdelnhfaaGreatDoor
namespace Go.Proofs
open Go.Shelf
def Tryz.lays166_ren : Go.Shelf.Ren := ⟨fun | 166 => 50 | 240 => 98 | 276 => 131 | n => n, fun | 0 => 0 | 3 => 3 | 4 => 4 | 9 => 9 | 20 => 20 | 37 => 32 | 70 => 70 | 72 => 72 | 75 => 74 | 164 => 133 | 5 => 5 | 80 => 77 | 127 => 115 | n => n, fun | n => n⟩
theorem Tryz.lays166 : Go.Proofs.Lays.n166 Tryz.prog Tryz.lays166_ren := {
  mixed := by kernel_rfl
  f166 := Tryz.func50.trans (congrArg some (by kernel_rfl))
  f240 := Tryz.func98.trans (congrArg some (by kernel_rfl))
  f276 := Tryz.func131.trans (congrArg some (by kernel_rfl))
  t0 := Tryz.underlying0
  a0 := Tryz.isAgg0
  z0 := Tryz.sizeOf0
  v0 := Tryz.zeroValue0
  t3 := Tryz.underlying3
  a3 := Tryz.isAgg3
  z3 := Tryz.sizeOf3
  v3 := Tryz.zeroValue3
  t4 := Tryz.underlying4
  a4 := Tryz.isAgg4
  z4 := Tryz.sizeOf4
  v4 := Tryz.zeroValue4
  t9 := Tryz.underlying9
  a9 := Tryz.isAgg9
  z9 := Tryz.sizeOf9
  v9 := Tryz.zeroValue9
  t20 := Tryz.underlying20
  a20 := Tryz.isAgg20
  z20 := Tryz.sizeOf20
  v20 := Tryz.zeroValue20
  t37 := Tryz.underlying32
  a37 := Tryz.isAgg32
  z37 := Tryz.sizeOf32
  v37 := Tryz.zeroValue32
  t70 := Tryz.underlying70
  a70 := Tryz.isAgg70
  z70 := Tryz.sizeOf70
  v70 := Tryz.zeroValue70
  t72 := Tryz.underlying72
  a72 := Tryz.isAgg72
  z72 := Tryz.sizeOf72
  v72 := Tryz.zeroValue72
  t75 := Tryz.underlying74
  a75 := Tryz.isAgg74
  z75 := Tryz.sizeOf74
  v75 := Tryz.zeroValue74
  t164 := Tryz.underlying133
  a164 := Tryz.isAgg133
  z164 := Tryz.sizeOf133
  v164 := Tryz.zeroValue133 }
theorem Tryz.Builder_Extra_166 : Builder.Extra Tryz.prog Tryz.lays166_ren := {
  sizeBuilder := by kernel_rfl
  liesBuilder := by kernel_rfl
  t5 := Tryz.underlying5
  a5 := Tryz.isAgg5
  z5 := Tryz.sizeOf5
  v5 := Tryz.zeroValue5
  infoByte := by kernel_rfl
  cellsByte := by kernel_rfl
  sizeByte := by kernel_rfl
  neB5 := by decide }
open Go.RowKit in
def Tryz.lays169_ren : Go.Shelf.Ren := ⟨fun | 169 => 51 | n => n, fun | 70 => 70 | 9 => 9 | 0 => 0 | 72 => 72 | 37 => 32 | 127 => 115 | 3 => 3 | 5 => 5 | n => n, fun | n => n⟩
theorem Tryz.lays169 : Go.Proofs.Lays.n169 Tryz.prog Tryz.lays169_ren := {
  mixed := by kernel_rfl
  f169 := Tryz.func51.trans (congrArg some (by kernel_rfl))
  t0 := Tryz.underlying0
  a0 := Tryz.isAgg0
  z0 := Tryz.sizeOf0
  v0 := Tryz.zeroValue0
  t3 := Tryz.underlying3
  a3 := Tryz.isAgg3
  z3 := Tryz.sizeOf3
  v3 := Tryz.zeroValue3
  t9 := Tryz.underlying9
  a9 := Tryz.isAgg9
  z9 := Tryz.sizeOf9
  v9 := Tryz.zeroValue9
  t37 := Tryz.underlying32
  a37 := Tryz.isAgg32
  z37 := Tryz.sizeOf32
  v37 := Tryz.zeroValue32
  t70 := Tryz.underlying70
  a70 := Tryz.isAgg70
  z70 := Tryz.sizeOf70
  v70 := Tryz.zeroValue70
  t72 := Tryz.underlying72
  a72 := Tryz.isAgg72
  z72 := Tryz.sizeOf72
  v72 := Tryz.zeroValue72
  t127 := Tryz.underlying115
  a127 := Tryz.isAgg115
  z127 := Tryz.sizeOf115
  v127 := Tryz.zeroValue115 }
theorem Tryz.Builder_Extra_169 : Builder.Extra Tryz.prog Tryz.lays169_ren := {
  sizeBuilder := by kernel_rfl
  liesBuilder := by kernel_rfl
  t5 := Tryz.underlying5
  a5 := Tryz.isAgg5
  z5 := Tryz.sizeOf5
  v5 := Tryz.zeroValue5
  infoByte := by kernel_rfl
  cellsByte := by kernel_rfl
  sizeByte := by kernel_rfl
  neB5 := by decide }
open Go.RowKit in
open Go.RowKit in
theorem Tryz.Builder_WriteString_f (B b : Nat) (bs : List Value) (s : ByteArray) (w : World) (h : Lib.IsBuilderF 72 5 B b bs w) (hlen : bs.length + s.size ≤ 140737488355328) (hBw : B ≤ w.heap.size) :
    Calls Tryz.prog 50 #[.pointer (some ⟨b, 0, none⟩), .string s] w fun e w' => e = .returned (.tuple #[.int .i64 s.size, .nilIface]) ∧ (Lib.BuilderAtF 72 5 B b (.pointer (some ⟨b, 0, none⟩)) (bs ++ Lib.strCells s) w' ∧ Below B w w') := Any.Builder_WriteString_f Tryz.lays166 Tryz.Builder_Extra_166 B b bs s w h hlen hBw
open Go.RowKit in
theorem Tryz.Builder_String_f (B b : Nat) (l : List UInt8) (w : World) (h : Lib.IsBuilderF 72 5 B b (Lib.byteCells l) w) (hBw : B ≤ w.heap.size) :
    Calls Tryz.prog 51 #[.pointer (some ⟨b, 0, none⟩)] w fun e w' => e = .returned (.string ⟨l.toArray⟩) ∧ Below B w w' := (Any.Builder_String_any_f Tryz.lays169 Tryz.Builder_Extra_169 B b l w h hBw).mono fun e w' h => ⟨h.1, h.2.2⟩
end Go.Proofs
open Go Go.AM
namespace Go.Proofs.YtobhhfbdelnhfaaGreatDoor
set_option maxRecDepth 100000
set_option linter.unusedSimpArgs false
set_option linter.unusedVariables false
def S128 : FunS := ⟨[⟨true, (.dat 24)⟩], [], [⟨true, (.tup [(.int .u8), (.int .i64), .bool])⟩], []⟩
noncomputable def F128 : List D → Option (List D) := liftX env tbS 60 12 128 S128
theorem F128_eq  (sd0 : D) : F128  [sd0] =
    bif (qand (qcmp BinOp.eql (qint (qfld sd0 2)) 16) (qcmp BinOp.eql (qint (qfld sd0 4)) 4)) then
    some [(D.int 80), (D.int 5), (D.bool Bool.true)]
    else
    bif (qand (qcmp BinOp.eql (qint (qfld sd0 2)) 16) (qcmp BinOp.eql (qint (qfld sd0 4)) 1)) then
    some [(D.int 81), (D.int 5), (D.bool Bool.true)]
    else
    bif (qand (qcmp BinOp.eql (qint (qfld sd0 2)) 17) (qcmp BinOp.eql (qint (qfld sd0 4)) 1)) then
    some [(D.int 82), (D.int 5), (D.bool Bool.true)]
    else
    bif (qand (qcmp BinOp.eql (qint (qfld sd0 2)) 16) (qcmp BinOp.eql (qint (qfld sd0 4)) 2)) then
    some [(D.int 83), (D.int 5), (D.bool Bool.true)]
    else
    bif (qand (qcmp BinOp.eql (qint (qfld sd0 2)) 17) (qcmp BinOp.eql (qint (qfld sd0 4)) 2)) then
    some [(D.int 84), (D.int 5), (D.bool Bool.true)]
    else
    bif (qand (qcmp BinOp.eql (qint (qfld sd0 2)) 18) (qcmp BinOp.eql (qint (qfld sd0 4)) 4)) then
    some [(D.int 85), (D.int 5), (D.bool Bool.true)]
    else
    bif (qand (qcmp BinOp.eql (qint (qfld sd0 2)) 18) (qcmp BinOp.eql (qint (qfld sd0 4)) 1)) then
    some [(D.int 86), (D.int 5), (D.bool Bool.true)]
    else
    bif (qand (qcmp BinOp.eql (qint (qfld sd0 2)) 18) (qcmp BinOp.eql (qint (qfld sd0 4)) 2)) then
    some [(D.int 87), (D.int 5), (D.bool Bool.true)]
    else
    some [(D.int 0), (D.int 5), (D.bool Bool.false)] := by kernel_rfl
noncomputable def q128 : List D → Option (List D) := veil (F128 )
theorem q128_eq : q128  = F128  := veil_eq _
noncomputable def tb128 : Tb := Tb.addF tbS 128 S128 (q128 )
theorem ok_tb128 : TbOk env (tb128 ) := addFunF ok_tbS 128 (by kernel_rfl) _ (q128_eq )
def S129 : FunS := ⟨[⟨true, (.dat 24)⟩], [], [⟨true, (.tup [(.int .u8), (.int .i64), .bool])⟩], []⟩
noncomputable def F129 : List D → Option (List D) := liftX env tb128 60 12 129 S129
theorem F129_eq  (sd0 : D) : F129  [sd0] =
    bif (qiteB (qcmp BinOp.lss (qint (qfld sd0 5)) 0) Bool.true (qcmp BinOp.gtr (qint (qfld sd0 5)) 14)) then
    some [(D.int 0), (D.int 0), (D.bool Bool.false)]
    else
    bif (qcmp BinOp.eql (qint (qfld sd0 2)) 25) then
    some [(D.int (qbin BinOp.add IntKind.u8 144 (qwrap IntKind.u8 (qint (qfld sd0 5))))), (D.int 2), (D.bool Bool.true)]
    else
    bif (qcmp BinOp.eql (qint (qfld sd0 3)) 1) then
    some [(D.int (qbin BinOp.add IntKind.u8 96 (qwrap IntKind.u8 (qint (qfld sd0 5))))), (D.int 7), (D.bool Bool.true)]
    else
    bif (qcmp BinOp.eql (qint (qfld sd0 3)) 2) then
    some [(D.int (qbin BinOp.add IntKind.u8 112 (qwrap IntKind.u8 (qint (qfld sd0 5))))), (D.int 8), (D.bool Bool.true)]
    else
    some [(D.int 0), (D.int 0), (D.bool Bool.false)] := by kernel_rfl
noncomputable def q129 : List D → Option (List D) := veil (F129 )
theorem q129_eq : q129  = F129  := veil_eq _
noncomputable def tb129 : Tb := Tb.addF tb128 129 S129 (q129 )
theorem ok_tb129 : TbOk env (tb129 ) := addFunF ok_tb128 129 (by kernel_rfl) _ (q129_eq )
def S92 : FunS := ⟨[⟨true, (.dat 24)⟩], [], [⟨true, (.tup [(.int .u8), (.int .i64), .bool])⟩], []⟩
noncomputable def F92 : List D → Option (List D) := liftX env tb129 60 12 92 S92
theorem F92_eq  (sd0 : D) : F92  [sd0] =
    bif (qiteB (qcmp BinOp.eql (qint (qfld sd0 2)) 0) (qcmp BinOp.eql (qint (qfld sd0 2)) 0) (qiteB (qcmp BinOp.eql (qint (qfld sd0 2)) 1) (qcmp BinOp.eql (qint (qfld sd0 2)) 1) (qcmp BinOp.eql (qint (qfld sd0 2)) 2))) then
    some [(D.int (qwrap IntKind.u8 (qint (qfld sd0 2)))), (D.int 0), (D.bool Bool.true)]
    else
    bif (qcmp BinOp.eql (qint (qfld sd0 2)) 3) then
    some [(D.int (qbin BinOp.add IntKind.u8 8 (qwrap IntKind.u8 (qbin BinOp.and IntKind.i64 (qint (qfld sd0 6)) 7)))), (D.int 1), (D.bool Bool.true)]
    else
    bif (qcmp BinOp.eql (qint (qfld sd0 2)) 4) then
    some [(D.int (qbin BinOp.add IntKind.u8 16 (qwrap IntKind.u8 (qbin BinOp.and IntKind.i64 (qint (qfld sd0 6)) 7)))), (D.int 1), (D.bool Bool.true)]
    else
    bif (qiteB (qcmp BinOp.geq (qint (qfld sd0 2)) 5) (qcmp BinOp.leq (qint (qfld sd0 2)) 15) Bool.false) then
    bif (qcmp BinOp.eql (qint (qfld sd0 3)) 0) then
    some [(D.int (qbin BinOp.add IntKind.u8 32 (qwrap IntKind.u8 (qbin BinOp.sub IntKind.i64 (qint (qfld sd0 2)) 5)))), (D.int 3), (D.bool Bool.true)]
    else
    bif (qcmp BinOp.eql (qint (qfld sd0 3)) 1) then
    some [(D.int (qbin BinOp.add IntKind.u8 48 (qwrap IntKind.u8 (qbin BinOp.sub IntKind.i64 (qint (qfld sd0 2)) 5)))), (D.int 4), (D.bool Bool.true)]
    else
    bif (qcmp BinOp.eql (qint (qfld sd0 3)) 2) then
    some [(D.int (qbin BinOp.add IntKind.u8 64 (qwrap IntKind.u8 (qbin BinOp.sub IntKind.i64 (qint (qfld sd0 2)) 5)))), (D.int 6), (D.bool Bool.true)]
    else
    some [(D.int 0), (D.int 0), (D.bool Bool.false)]
    else
    bif (qiteB (qcmp BinOp.eql (qint (qfld sd0 2)) 16) (qcmp BinOp.eql (qint (qfld sd0 2)) 16) (qiteB (qcmp BinOp.eql (qint (qfld sd0 2)) 17) (qcmp BinOp.eql (qint (qfld sd0 2)) 17) (qcmp BinOp.eql (qint (qfld sd0 2)) 18))) then
    bif (qsome (q128 [sd0])) then
    some [(D.int (qint (qnth (q128 [sd0]) 0))), (D.int (qint (qnth (q128 [sd0]) 1))), (D.bool (qbool (qnth (q128 [sd0]) 2)))]
    else
    none
    else
    bif (qcmp BinOp.eql (qint (qfld sd0 2)) 19) then
    some [(D.int 90), (D.int 5), (D.bool Bool.true)]
    else
    bif (qiteB (qcmp BinOp.eql (qint (qfld sd0 2)) 20) Bool.true (qcmp BinOp.eql (qint (qfld sd0 2)) 25)) then
    bif (qsome (q129 [sd0])) then
    some [(D.int (qint (qnth (q129 [sd0]) 0))), (D.int (qint (qnth (q129 [sd0]) 1))), (D.bool (qbool (qnth (q129 [sd0]) 2)))]
    else
    none
    else
    bif (qcmp BinOp.eql (qint (qfld sd0 2)) 23) then
    some [(D.int 128), (D.int 8), (D.bool Bool.true)]
    else
    bif (qcmp BinOp.eql (qint (qfld sd0 2)) 24) then
    some [(D.int 129), (D.int 2), (D.bool Bool.true)]
    else
    bif (qcmp BinOp.eql (qint (qfld sd0 2)) 21) then
    some [(D.int 130), (D.int 2), (D.bool Bool.true)]
    else
    bif (qcmp BinOp.eql (qint (qfld sd0 2)) 22) then
    some [(D.int 131), (D.int 6), (D.bool Bool.true)]
    else
    bif (qcmp BinOp.eql (qint (qfld sd0 2)) 26) then
    some [(D.int 160), (D.int 2), (D.bool Bool.true)]
    else
    bif (qcmp BinOp.eql (qint (qfld sd0 2)) 27) then
    some [(D.int 161), (D.int 2), (D.bool Bool.true)]
    else
    some [(D.int 0), (D.int 0), (D.bool Bool.false)] := by kernel_rfl
noncomputable def q92 : List D → Option (List D) := veil (F92 )
theorem q92_eq : q92  = F92  := veil_eq _
noncomputable def tb92 : Tb := Tb.addF tb129 92 S92 (q92 )
theorem ok_tb92 : TbOk env (tb92 ) := addFunF ok_tb129 92 (by kernel_rfl) _ (q92_eq )
def S94 : FunS := ⟨[⟨true, (.dat 24)⟩, ⟨true, (.int .i64)⟩], [], [⟨true, (.dat 24)⟩], []⟩
noncomputable def F94 : List D → Option (List D) := liftX env tb92 60 12 94 S94
theorem F94_eq  (sd0 : D) (sn1 : Int) : F94  [sd0, (D.int sn1)] =
    bif (qiteB (qcmp BinOp.eql sn1 1) (qcmp BinOp.eql sn1 1) (qcmp BinOp.eql sn1 2)) then
    bif (qiteB (qcmp BinOp.geq (qint (qfld sd0 2)) 5) (qcmp BinOp.leq (qint (qfld sd0 2)) 15) Bool.false) then
    some [(D.agg [(D.int (qint (qfld sd0 0))), (D.int 0), (D.int (qint (qfld sd0 2))), (D.int (qint (qfld sd0 3))), (D.int 0), (D.int 0), (D.int (qint (qfld sd0 6))), (D.int 0), (D.int (qint (qfld sd0 8)))])]
    else
    bif (qiteB (qcmp BinOp.eql (qint (qfld sd0 2)) 16) (qcmp BinOp.eql (qint (qfld sd0 2)) 16) (qiteB (qcmp BinOp.eql (qint (qfld sd0 2)) 17) (qcmp BinOp.eql (qint (qfld sd0 2)) 17) (qcmp BinOp.eql (qint (qfld sd0 2)) 18))) then
    some [(D.agg [(D.int (qint (qfld sd0 0))), (D.int 0), (D.int (qint (qfld sd0 2))), (D.int 0), (D.int (qint (qfld sd0 4))), (D.int 0), (D.int (qint (qfld sd0 6))), (D.int 0), (D.int (qint (qfld sd0 8)))])]
    else
    bif (qcmp BinOp.eql (qint (qfld sd0 2)) 20) then
    some [(D.agg [(D.int (qint (qfld sd0 0))), (D.int 0), (D.int (qint (qfld sd0 2))), (D.int (qint (qfld sd0 3))), (D.int 0), (D.int (qint (qfld sd0 5))), (D.int (qint (qfld sd0 6))), (D.int 0), (D.int (qint (qfld sd0 8)))])]
    else
    bif (qcmp BinOp.eql (qint (qfld sd0 2)) 25) then
    some [(D.agg [(D.int (qint (qfld sd0 0))), (D.int 0), (D.int (qint (qfld sd0 2))), (D.int 0), (D.int 0), (D.int (qint (qfld sd0 5))), (D.int (qint (qfld sd0 6))), (D.int 0), (D.int (qint (qfld sd0 8)))])]
    else
    some [(D.agg [(D.int (qint (qfld sd0 0))), (D.int 0), (D.int (qint (qfld sd0 2))), (D.int 0), (D.int 0), (D.int 0), (D.int (qint (qfld sd0 6))), (D.int 0), (D.int (qint (qfld sd0 8)))])]
    else
    bif (qcmp BinOp.eql sn1 3) then
    bif (qiteB (qcmp BinOp.geq (qint (qfld sd0 2)) 5) (qcmp BinOp.leq (qint (qfld sd0 2)) 15) Bool.false) then
    some [(D.agg [(D.int (qint (qfld sd0 0))), (D.int 0), (D.int (qint (qfld sd0 2))), (D.int (qint (qfld sd0 3))), (D.int 0), (D.int 0), (D.int (qint (qfld sd0 6))), (D.int (qint (qfld sd0 7))), (D.int (qint (qfld sd0 8)))])]
    else
    bif (qiteB (qcmp BinOp.eql (qint (qfld sd0 2)) 16) (qcmp BinOp.eql (qint (qfld sd0 2)) 16) (qiteB (qcmp BinOp.eql (qint (qfld sd0 2)) 17) (qcmp BinOp.eql (qint (qfld sd0 2)) 17) (qcmp BinOp.eql (qint (qfld sd0 2)) 18))) then
    some [(D.agg [(D.int (qint (qfld sd0 0))), (D.int 0), (D.int (qint (qfld sd0 2))), (D.int 0), (D.int (qint (qfld sd0 4))), (D.int 0), (D.int (qint (qfld sd0 6))), (D.int (qint (qfld sd0 7))), (D.int (qint (qfld sd0 8)))])]
    else
    bif (qcmp BinOp.eql (qint (qfld sd0 2)) 20) then
    some [(D.agg [(D.int (qint (qfld sd0 0))), (D.int 0), (D.int (qint (qfld sd0 2))), (D.int (qint (qfld sd0 3))), (D.int 0), (D.int (qint (qfld sd0 5))), (D.int (qint (qfld sd0 6))), (D.int (qint (qfld sd0 7))), (D.int (qint (qfld sd0 8)))])]
    else
    bif (qcmp BinOp.eql (qint (qfld sd0 2)) 25) then
    some [(D.agg [(D.int (qint (qfld sd0 0))), (D.int 0), (D.int (qint (qfld sd0 2))), (D.int 0), (D.int 0), (D.int (qint (qfld sd0 5))), (D.int (qint (qfld sd0 6))), (D.int (qint (qfld sd0 7))), (D.int (qint (qfld sd0 8)))])]
    else
    some [(D.agg [(D.int (qint (qfld sd0 0))), (D.int 0), (D.int (qint (qfld sd0 2))), (D.int 0), (D.int 0), (D.int 0), (D.int (qint (qfld sd0 6))), (D.int (qint (qfld sd0 7))), (D.int (qint (qfld sd0 8)))])]
    else
    bif (qiteB (qcmp BinOp.eql sn1 4) (qcmp BinOp.eql sn1 4) (qcmp BinOp.eql sn1 6)) then
    bif (qiteB (qcmp BinOp.geq (qint (qfld sd0 2)) 5) (qcmp BinOp.leq (qint (qfld sd0 2)) 15) Bool.false) then
    some [(D.agg [(D.int (qint (qfld sd0 0))), (D.int (qint (qfld sd0 1))), (D.int (qint (qfld sd0 2))), (D.int (qint (qfld sd0 3))), (D.int 0), (D.int 0), (D.int (qint (qfld sd0 6))), (D.int 0), (D.int (qint (qfld sd0 8)))])]
    else
    bif (qiteB (qcmp BinOp.eql (qint (qfld sd0 2)) 16) (qcmp BinOp.eql (qint (qfld sd0 2)) 16) (qiteB (qcmp BinOp.eql (qint (qfld sd0 2)) 17) (qcmp BinOp.eql (qint (qfld sd0 2)) 17) (qcmp BinOp.eql (qint (qfld sd0 2)) 18))) then
    some [(D.agg [(D.int (qint (qfld sd0 0))), (D.int (qint (qfld sd0 1))), (D.int (qint (qfld sd0 2))), (D.int 0), (D.int (qint (qfld sd0 4))), (D.int 0), (D.int (qint (qfld sd0 6))), (D.int 0), (D.int (qint (qfld sd0 8)))])]
    else
    bif (qcmp BinOp.eql (qint (qfld sd0 2)) 20) then
    some [(D.agg [(D.int (qint (qfld sd0 0))), (D.int (qint (qfld sd0 1))), (D.int (qint (qfld sd0 2))), (D.int (qint (qfld sd0 3))), (D.int 0), (D.int (qint (qfld sd0 5))), (D.int (qint (qfld sd0 6))), (D.int 0), (D.int (qint (qfld sd0 8)))])]
    else
    bif (qcmp BinOp.eql (qint (qfld sd0 2)) 25) then
    some [(D.agg [(D.int (qint (qfld sd0 0))), (D.int (qint (qfld sd0 1))), (D.int (qint (qfld sd0 2))), (D.int 0), (D.int 0), (D.int (qint (qfld sd0 5))), (D.int (qint (qfld sd0 6))), (D.int 0), (D.int (qint (qfld sd0 8)))])]
    else
    some [(D.agg [(D.int (qint (qfld sd0 0))), (D.int (qint (qfld sd0 1))), (D.int (qint (qfld sd0 2))), (D.int 0), (D.int 0), (D.int 0), (D.int (qint (qfld sd0 6))), (D.int 0), (D.int (qint (qfld sd0 8)))])]
    else
    bif (qcmp BinOp.eql sn1 5) then
    bif (qiteB (qcmp BinOp.geq (qint (qfld sd0 2)) 5) (qcmp BinOp.leq (qint (qfld sd0 2)) 15) Bool.false) then
    some [(D.agg [(D.int (qint (qfld sd0 0))), (D.int (qint (qfld sd0 1))), (D.int (qint (qfld sd0 2))), (D.int (qint (qfld sd0 3))), (D.int 0), (D.int 0), (D.int (qint (qfld sd0 6))), (D.int (qint (qfld sd0 7))), (D.int (qint (qfld sd0 8)))])]
    else
    bif (qiteB (qcmp BinOp.eql (qint (qfld sd0 2)) 16) (qcmp BinOp.eql (qint (qfld sd0 2)) 16) (qiteB (qcmp BinOp.eql (qint (qfld sd0 2)) 17) (qcmp BinOp.eql (qint (qfld sd0 2)) 17) (qcmp BinOp.eql (qint (qfld sd0 2)) 18))) then
    some [(D.agg [(D.int (qint (qfld sd0 0))), (D.int (qint (qfld sd0 1))), (D.int (qint (qfld sd0 2))), (D.int 0), (D.int (qint (qfld sd0 4))), (D.int 0), (D.int (qint (qfld sd0 6))), (D.int (qint (qfld sd0 7))), (D.int (qint (qfld sd0 8)))])]
    else
    bif (qcmp BinOp.eql (qint (qfld sd0 2)) 20) then
    some [(D.agg [(D.int (qint (qfld sd0 0))), (D.int (qint (qfld sd0 1))), (D.int (qint (qfld sd0 2))), (D.int (qint (qfld sd0 3))), (D.int 0), (D.int (qint (qfld sd0 5))), (D.int (qint (qfld sd0 6))), (D.int (qint (qfld sd0 7))), (D.int (qint (qfld sd0 8)))])]
    else
    bif (qcmp BinOp.eql (qint (qfld sd0 2)) 25) then
    some [(D.agg [(D.int (qint (qfld sd0 0))), (D.int (qint (qfld sd0 1))), (D.int (qint (qfld sd0 2))), (D.int 0), (D.int 0), (D.int (qint (qfld sd0 5))), (D.int (qint (qfld sd0 6))), (D.int (qint (qfld sd0 7))), (D.int (qint (qfld sd0 8)))])]
    else
    some [(D.agg [(D.int (qint (qfld sd0 0))), (D.int (qint (qfld sd0 1))), (D.int (qint (qfld sd0 2))), (D.int 0), (D.int 0), (D.int 0), (D.int (qint (qfld sd0 6))), (D.int (qint (qfld sd0 7))), (D.int (qint (qfld sd0 8)))])]
    else
    bif (qiteB (qcmp BinOp.eql sn1 7) (qcmp BinOp.eql sn1 7) (qcmp BinOp.eql sn1 8)) then
    bif (qiteB (qcmp BinOp.geq (qint (qfld sd0 2)) 5) (qcmp BinOp.leq (qint (qfld sd0 2)) 15) Bool.false) then
    some [(D.agg [(D.int (qint (qfld sd0 0))), (D.int (qint (qfld sd0 1))), (D.int (qint (qfld sd0 2))), (D.int (qint (qfld sd0 3))), (D.int 0), (D.int 0), (D.int 0), (D.int 0), (D.int (qint (qfld sd0 8)))])]
    else
    bif (qiteB (qcmp BinOp.eql (qint (qfld sd0 2)) 16) (qcmp BinOp.eql (qint (qfld sd0 2)) 16) (qiteB (qcmp BinOp.eql (qint (qfld sd0 2)) 17) (qcmp BinOp.eql (qint (qfld sd0 2)) 17) (qcmp BinOp.eql (qint (qfld sd0 2)) 18))) then
    some [(D.agg [(D.int (qint (qfld sd0 0))), (D.int (qint (qfld sd0 1))), (D.int (qint (qfld sd0 2))), (D.int 0), (D.int (qint (qfld sd0 4))), (D.int 0), (D.int 0), (D.int 0), (D.int (qint (qfld sd0 8)))])]
    else
    bif (qcmp BinOp.eql (qint (qfld sd0 2)) 20) then
    some [(D.agg [(D.int (qint (qfld sd0 0))), (D.int (qint (qfld sd0 1))), (D.int (qint (qfld sd0 2))), (D.int (qint (qfld sd0 3))), (D.int 0), (D.int (qint (qfld sd0 5))), (D.int 0), (D.int 0), (D.int (qint (qfld sd0 8)))])]
    else
    bif (qcmp BinOp.eql (qint (qfld sd0 2)) 25) then
    some [(D.agg [(D.int (qint (qfld sd0 0))), (D.int (qint (qfld sd0 1))), (D.int (qint (qfld sd0 2))), (D.int 0), (D.int 0), (D.int (qint (qfld sd0 5))), (D.int 0), (D.int 0), (D.int (qint (qfld sd0 8)))])]
    else
    some [(D.agg [(D.int (qint (qfld sd0 0))), (D.int (qint (qfld sd0 1))), (D.int (qint (qfld sd0 2))), (D.int 0), (D.int 0), (D.int 0), (D.int 0), (D.int 0), (D.int (qint (qfld sd0 8)))])]
    else
    bif (qiteB (qcmp BinOp.geq (qint (qfld sd0 2)) 5) (qcmp BinOp.leq (qint (qfld sd0 2)) 15) Bool.false) then
    some [(D.agg [(D.int (qint (qfld sd0 0))), (D.int 0), (D.int (qint (qfld sd0 2))), (D.int (qint (qfld sd0 3))), (D.int 0), (D.int 0), (D.int 0), (D.int 0), (D.int (qint (qfld sd0 8)))])]
    else
    bif (qiteB (qcmp BinOp.eql (qint (qfld sd0 2)) 16) (qcmp BinOp.eql (qint (qfld sd0 2)) 16) (qiteB (qcmp BinOp.eql (qint (qfld sd0 2)) 17) (qcmp BinOp.eql (qint (qfld sd0 2)) 17) (qcmp BinOp.eql (qint (qfld sd0 2)) 18))) then
    some [(D.agg [(D.int (qint (qfld sd0 0))), (D.int 0), (D.int (qint (qfld sd0 2))), (D.int 0), (D.int (qint (qfld sd0 4))), (D.int 0), (D.int 0), (D.int 0), (D.int (qint (qfld sd0 8)))])]
    else
    bif (qcmp BinOp.eql (qint (qfld sd0 2)) 20) then
    some [(D.agg [(D.int (qint (qfld sd0 0))), (D.int 0), (D.int (qint (qfld sd0 2))), (D.int (qint (qfld sd0 3))), (D.int 0), (D.int (qint (qfld sd0 5))), (D.int 0), (D.int 0), (D.int (qint (qfld sd0 8)))])]
    else
    bif (qcmp BinOp.eql (qint (qfld sd0 2)) 25) then
    some [(D.agg [(D.int (qint (qfld sd0 0))), (D.int 0), (D.int (qint (qfld sd0 2))), (D.int 0), (D.int 0), (D.int (qint (qfld sd0 5))), (D.int 0), (D.int 0), (D.int (qint (qfld sd0 8)))])]
    else
    some [(D.agg [(D.int (qint (qfld sd0 0))), (D.int 0), (D.int (qint (qfld sd0 2))), (D.int 0), (D.int 0), (D.int 0), (D.int 0), (D.int 0), (D.int (qint (qfld sd0 8)))])] := by kernel_rfl
noncomputable def q94 : List D → Option (List D) := veil (F94 )
theorem q94_eq : q94  = F94  := veil_eq _
noncomputable def tb94 : Tb := Tb.addF tb92 94 S94 (q94 )
theorem ok_tb94 : TbOk env (tb94 ) := addFunF ok_tb92 94 (by kernel_rfl) _ (q94_eq )
def S47 : FunS := ⟨[⟨true, (.dat 24)⟩], [], [⟨true, (.tup [(.int .u8), (.int .i64), (.int .i64)])⟩], []⟩
noncomputable def F47 : List D → Option (List D) := liftX env tb94 60 12 47 S47
theorem F47_eq  (sd0 : D) : F47  [sd0] =
    bif (qsome (q92 [sd0])) then
    bif (qnot (qbool (qnth (q92 [sd0]) 2))) then
    some [(D.int 0), (D.int 0), (D.int 2)]
    else
    bif (qnot (qiteB (qcmp BinOp.geq (qint (qfld sd0 6)) 0) (qcmp BinOp.lss (qint (qfld sd0 6)) 8) Bool.false)) then
    some [(D.int 0), (D.int 0), (D.int 2)]
    else
    bif (qnot (qiteB (qcmp BinOp.geq (qint (qfld sd0 7)) 0) (qcmp BinOp.lss (qint (qfld sd0 7)) 8) Bool.false)) then
    some [(D.int 0), (D.int 0), (D.int 2)]
    else
    bif (qsome (q94 [sd0, (D.int (qint (qnth (q92 [sd0]) 1)))])) then
    bif (qnot (qand (qcmp BinOp.eql (qint (qfld (qnth (q94 [sd0, (D.int (qint (qnth (q92 [sd0]) 1)))]) 0) 0)) (qint (qfld sd0 0))) (qand (qcmp BinOp.eql (qint (qfld (qnth (q94 [sd0, (D.int (qint (qnth (q92 [sd0]) 1)))]) 0) 1)) (qint (qfld sd0 1))) (qand (qcmp BinOp.eql (qint (qfld (qnth (q94 [sd0, (D.int (qint (qnth (q92 [sd0]) 1)))]) 0) 2)) (qint (qfld sd0 2))) (qand (qcmp BinOp.eql (qint (qfld (qnth (q94 [sd0, (D.int (qint (qnth (q92 [sd0]) 1)))]) 0) 3)) (qint (qfld sd0 3))) (qand (qcmp BinOp.eql (qint (qfld (qnth (q94 [sd0, (D.int (qint (qnth (q92 [sd0]) 1)))]) 0) 4)) (qint (qfld sd0 4))) (qand (qcmp BinOp.eql (qint (qfld (qnth (q94 [sd0, (D.int (qint (qnth (q92 [sd0]) 1)))]) 0) 5)) (qint (qfld sd0 5))) (qand (qcmp BinOp.eql (qint (qfld (qnth (q94 [sd0, (D.int (qint (qnth (q92 [sd0]) 1)))]) 0) 6)) (qint (qfld sd0 6))) (qand (qcmp BinOp.eql (qint (qfld (qnth (q94 [sd0, (D.int (qint (qnth (q92 [sd0]) 1)))]) 0) 7)) (qint (qfld sd0 7))) (qcmp BinOp.eql (qint (qfld (qnth (q94 [sd0, (D.int (qint (qnth (q92 [sd0]) 1)))]) 0) 8)) (qint (qfld sd0 8)))))))))))) then
    some [(D.int 0), (D.int 0), (D.int 2)]
    else
    bif (qiteB (qiteB (qiteB (qcmp BinOp.eql (qint (qnth (q92 [sd0]) 1)) 4) Bool.true (qcmp BinOp.eql (qint (qnth (q92 [sd0]) 1)) 5)) (qnot (qiteB (qcmp BinOp.leq (qint (qfld sd0 1)) 127) Bool.true (qcmp BinOp.geq (qint (qfld sd0 1)) 4294967168))) Bool.false) Bool.true (qiteB (qcmp BinOp.eql (qint (qnth (q92 [sd0]) 1)) 7) (qnot (qiteB (qcmp BinOp.leq (qbin BinOp.sub IntKind.u32 (qbin BinOp.sub IntKind.u32 (qint (qfld sd0 1)) (qint (qfld sd0 0))) 2) 127) Bool.true (qcmp BinOp.geq (qbin BinOp.sub IntKind.u32 (qbin BinOp.sub IntKind.u32 (qint (qfld sd0 1)) (qint (qfld sd0 0))) 2) 4294967168))) Bool.false)) then
    some [(D.int 0), (D.int 0), (D.int 7)]
    else
    some [(D.int (qint (qnth (q92 [sd0]) 0))), (D.int (qint (qnth (q92 [sd0]) 1))), (D.int 0)]
    else
    none
    else
    none := by kernel_rfl
noncomputable def q47 : List D → Option (List D) := veil (F47 )
theorem q47_eq : q47  = F47  := veil_eq _
noncomputable def tb47 : Tb := Tb.addF tb94 47 S47 (q47 )
theorem ok_tb47 : TbOk env (tb47 ) := addFunF ok_tb94 47 (by kernel_rfl) _ (q47_eq )
def S48 : FunS := ⟨[⟨true, (.int .i64)⟩], [], [⟨true, (.int .i64)⟩], []⟩
noncomputable def F48 : List D → Option (List D) := liftX env tb47 60 12 48 S48
theorem F48_eq  (sn0 : Int) : F48  [(D.int sn0)] =
    bif (qinbS (ByteArray.mk #[49, 49, 50, 50, 51, 51, 54, 50, 53]) sn0) then
    some [(D.int (qwrap IntKind.i64 (qbin BinOp.sub IntKind.u8 (qidxS (ByteArray.mk #[49, 49, 50, 50, 51, 51, 54, 50, 53]) sn0) 48)))]
    else
    none := by kernel_rfl
noncomputable def q48 : List D → Option (List D) := veil (F48 )
theorem q48_eq : q48  = F48  := veil_eq _
noncomputable def tb48 : Tb := Tb.addF tb47 48 S48 (q48 )
theorem ok_tb48 : TbOk env (tb48 ) := addFunF ok_tb47 48 (by kernel_rfl) _ (q48_eq )
def S20 : FunS := ⟨[⟨true, (.dat 24)⟩], [], [⟨true, .bool⟩], []⟩
noncomputable def F20 : List D → Option (List D) := liftX env tb48 60 12 20 S20
theorem F20_eq  (sd0 : D) : F20  [sd0] =
    bif (qsome (q47 [sd0])) then
    some [(D.bool (qcmp BinOp.eql (qint (qnth (q47 [sd0]) 2)) 0))]
    else
    none := by kernel_rfl
noncomputable def q20 : List D → Option (List D) := veil (F20 )
theorem q20_eq : q20  = F20  := veil_eq _
noncomputable def tb20 : Tb := Tb.addF tb48 20 S20 (q20 )
theorem ok_tb20 : TbOk env (tb20 ) := addFunF ok_tb48 20 (by kernel_rfl) _ (q20_eq )
def S69 : FunS := ⟨[⟨true, (.dat 24)⟩], [], [⟨true, (.int .i64)⟩], []⟩
noncomputable def F69 : List D → Option (List D) := liftX env tb20 60 12 69 S69
theorem F69_eq  (sd0 : D) : F69  [sd0] =
    bif (qsome (q47 [sd0])) then
    bif (qcmp BinOp.neq (qint (qnth (q47 [sd0]) 2)) 0) then
    some [(D.int 0)]
    else
    bif (qsome (q48 [(D.int (qint (qnth (q47 [sd0]) 1)))])) then
    some [(D.int (qint (qnth (q48 [(D.int (qint (qnth (q47 [sd0]) 1)))]) 0)))]
    else
    none
    else
    none := by kernel_rfl
noncomputable def q69 : List D → Option (List D) := veil (F69 )
theorem q69_eq : q69  = F69  := veil_eq _
noncomputable def tb69 : Tb := Tb.addF tb20 69 S69 (q69 )
theorem ok_tb69 : TbOk env (tb69 ) := addFunF ok_tb20 69 (by kernel_rfl) _ (q69_eq )
end Go.Proofs.YtobhhfbdelnhfaaGreatDoor
open Go Go.AM
namespace Go.Proofs.YtobhhfbdelnhfaaGreatDoor
set_option maxRecDepth 100000
set_option linter.unusedSimpArgs false
set_option linter.unusedVariables false
def S81 : FunS := ⟨[⟨true, (.dat 24)⟩], [], [⟨true, .bool⟩], []⟩
noncomputable def F81 : List D → Option (List D) := liftX env tb69 60 12 81 S81
theorem F81_eq  (sd0 : D) : F81  [sd0] =
    bif (qiteB (qcmp BinOp.geq (qint (qfld sd0 2)) 5) (qcmp BinOp.leq (qint (qfld sd0 2)) 15) Bool.false) then
    some [(D.bool (qiteB (qcmp BinOp.geq (qint (qfld sd0 3)) 0) (qcmp BinOp.leq (qint (qfld sd0 3)) 2) Bool.false))]
    else
    bif (qcmp BinOp.eql (qint (qfld sd0 2)) 20) then
    some [(D.bool (qiteB (qcmp BinOp.eql (qint (qfld sd0 3)) 1) Bool.true (qcmp BinOp.eql (qint (qfld sd0 3)) 2)))]
    else
    some [(D.bool (qcmp BinOp.eql (qint (qfld sd0 3)) 0))] := by kernel_rfl
noncomputable def q81 : List D → Option (List D) := veil (F81 )
theorem q81_eq : q81  = F81  := veil_eq _
noncomputable def tb81 : Tb := Tb.addF tb69 81 S81 (q81 )
theorem ok_tb81 : TbOk env (tb81 ) := addFunF ok_tb69 81 (by kernel_rfl) _ (q81_eq )
def S82 : FunS := ⟨[⟨true, (.dat 24)⟩], [], [⟨true, .bool⟩], []⟩
noncomputable def F82 : List D → Option (List D) := liftX env tb81 60 12 82 S82
theorem F82_eq  (sd0 : D) : F82  [sd0] =
    bif (qcmp BinOp.eql (qint (qfld sd0 2)) 17) then
    some [(D.bool (qiteB (qcmp BinOp.eql (qint (qfld sd0 4)) 1) Bool.true (qcmp BinOp.eql (qint (qfld sd0 4)) 2)))]
    else
    bif (qiteB (qiteB (qcmp BinOp.eql (qint (qfld sd0 2)) 16) Bool.true (qcmp BinOp.eql (qint (qfld sd0 2)) 17)) Bool.true (qcmp BinOp.eql (qint (qfld sd0 2)) 18)) then
    some [(D.bool (qiteB (qiteB (qcmp BinOp.eql (qint (qfld sd0 4)) 1) Bool.true (qcmp BinOp.eql (qint (qfld sd0 4)) 2)) Bool.true (qcmp BinOp.eql (qint (qfld sd0 4)) 4)))]
    else
    some [(D.bool (qcmp BinOp.eql (qint (qfld sd0 4)) 0))] := by kernel_rfl
noncomputable def q82 : List D → Option (List D) := veil (F82 )
theorem q82_eq : q82  = F82  := veil_eq _
noncomputable def tb82 : Tb := Tb.addF tb81 82 S82 (q82 )
theorem ok_tb82 : TbOk env (tb82 ) := addFunF ok_tb81 82 (by kernel_rfl) _ (q82_eq )
def S46 : FunS := ⟨[⟨true, (.dat 24)⟩], [], [⟨true, (.int .i64)⟩], []⟩
noncomputable def F46 : List D → Option (List D) := liftX env tb82 60 12 46 S46
theorem F46_eq  (sd0 : D) : F46  [sd0] =
    bif (qiteB (qiteB (qcmp BinOp.lss (qint (qfld sd0 2)) 0) Bool.true (qcmp BinOp.gtr (qint (qfld sd0 2)) 27)) Bool.true (qsome (q81 [sd0]))) then
    bif (qiteB (qiteB (qiteB (qcmp BinOp.lss (qint (qfld sd0 2)) 0) Bool.true (qcmp BinOp.gtr (qint (qfld sd0 2)) 27)) Bool.true (qnot (qbool (qnth (q81 [sd0]) 0)))) Bool.true (qsome (q82 [sd0]))) then
    bif (qiteB (qiteB (qiteB (qcmp BinOp.lss (qint (qfld sd0 2)) 0) Bool.true (qcmp BinOp.gtr (qint (qfld sd0 2)) 27)) Bool.true (qnot (qbool (qnth (q81 [sd0]) 0)))) Bool.true (qnot (qbool (qnth (q82 [sd0]) 0)))) then
    some [(D.int 2)]
    else
    bif (qiteB (qiteB (qiteB (qiteB (qiteB (qiteB (qiteB (qcmp BinOp.geq (qint (qfld sd0 2)) 3) (qcmp BinOp.leq (qint (qfld sd0 2)) 27) Bool.false) (qcmp BinOp.neq (qint (qfld sd0 2)) 20) Bool.false) (qcmp BinOp.neq (qint (qfld sd0 2)) 23) Bool.false) (qnot (qiteB (qcmp BinOp.geq (qint (qfld sd0 6)) 0) (qcmp BinOp.lss (qint (qfld sd0 6)) 8) Bool.false)) Bool.false) Bool.true (qiteB (qnot (qiteB (qiteB (qiteB (qcmp BinOp.geq (qint (qfld sd0 2)) 3) (qcmp BinOp.leq (qint (qfld sd0 2)) 27) Bool.false) (qcmp BinOp.neq (qint (qfld sd0 2)) 20) Bool.false) (qcmp BinOp.neq (qint (qfld sd0 2)) 23) Bool.false)) (qcmp BinOp.neq (qint (qfld sd0 6)) 0) Bool.false)) Bool.true (qiteB (qiteB (qiteB (qiteB (qiteB (qcmp BinOp.geq (qint (qfld sd0 2)) 5) (qcmp BinOp.leq (qint (qfld sd0 2)) 15) Bool.false) (qcmp BinOp.eql (qint (qfld sd0 3)) 0) Bool.false) Bool.true (qiteB (qiteB (qcmp BinOp.eql (qint (qfld sd0 2)) 16) Bool.true (qcmp BinOp.eql (qint (qfld sd0 2)) 17)) Bool.true (qcmp BinOp.eql (qint (qfld sd0 2)) 18))) Bool.true (qcmp BinOp.eql (qint (qfld sd0 2)) 19)) (qnot (qiteB (qcmp BinOp.geq (qint (qfld sd0 7)) 0) (qcmp BinOp.lss (qint (qfld sd0 7)) 8) Bool.false)) Bool.false)) Bool.true (qiteB (qnot (qiteB (qiteB (qiteB (qiteB (qcmp BinOp.geq (qint (qfld sd0 2)) 5) (qcmp BinOp.leq (qint (qfld sd0 2)) 15) Bool.false) (qcmp BinOp.eql (qint (qfld sd0 3)) 0) Bool.false) Bool.true (qiteB (qiteB (qcmp BinOp.eql (qint (qfld sd0 2)) 16) Bool.true (qcmp BinOp.eql (qint (qfld sd0 2)) 17)) Bool.true (qcmp BinOp.eql (qint (qfld sd0 2)) 18))) Bool.true (qcmp BinOp.eql (qint (qfld sd0 2)) 19))) (qcmp BinOp.neq (qint (qfld sd0 7)) 0) Bool.false)) then
    some [(D.int 2)]
    else
    bif (qiteB (qiteB (qiteB (qiteB (qcmp BinOp.eql (qint (qfld sd0 2)) 20) Bool.true (qcmp BinOp.eql (qint (qfld sd0 2)) 25)) (qnot (qiteB (qcmp BinOp.geq (qint (qfld sd0 5)) 0) (qcmp BinOp.leq (qint (qfld sd0 5)) 14) Bool.false)) Bool.false) Bool.true (qiteB (qnot (qiteB (qcmp BinOp.eql (qint (qfld sd0 2)) 20) Bool.true (qcmp BinOp.eql (qint (qfld sd0 2)) 25))) (qcmp BinOp.neq (qint (qfld sd0 5)) 0) Bool.false)) Bool.true (qiteB (qnot (qiteB (qiteB (qiteB (qiteB (qiteB (qiteB (qiteB (qcmp BinOp.geq (qint (qfld sd0 2)) 5) (qcmp BinOp.leq (qint (qfld sd0 2)) 15) Bool.false) (qcmp BinOp.neq (qint (qfld sd0 3)) 0) Bool.false) Bool.true (qiteB (qiteB (qcmp BinOp.eql (qint (qfld sd0 2)) 16) Bool.true (qcmp BinOp.eql (qint (qfld sd0 2)) 17)) Bool.true (qcmp BinOp.eql (qint (qfld sd0 2)) 18))) Bool.true (qcmp BinOp.eql (qint (qfld sd0 2)) 19)) Bool.true (qcmp BinOp.eql (qint (qfld sd0 2)) 20)) Bool.true (qcmp BinOp.eql (qint (qfld sd0 2)) 22)) Bool.true (qcmp BinOp.eql (qint (qfld sd0 2)) 23))) (qcmp BinOp.neq (qint (qfld sd0 1)) 0) Bool.false)) then
    some [(D.int 2)]
    else
    bif (qiteB (qiteB (qiteB (qiteB (qcmp BinOp.geq (qint (qfld sd0 2)) 5) (qcmp BinOp.leq (qint (qfld sd0 2)) 15) Bool.false) (qcmp BinOp.eql (qint (qfld sd0 3)) 1) Bool.false) Bool.true (qiteB (qiteB (qcmp BinOp.eql (qint (qfld sd0 2)) 16) Bool.true (qcmp BinOp.eql (qint (qfld sd0 2)) 17)) Bool.true (qcmp BinOp.eql (qint (qfld sd0 2)) 18))) Bool.true (qcmp BinOp.eql (qint (qfld sd0 2)) 19)) then
    bif (qnot (qiteB (qcmp BinOp.leq (qint (qfld sd0 1)) 127) Bool.true (qcmp BinOp.geq (qint (qfld sd0 1)) 4294967168))) then
    some [(D.int 7)]
    else
    bif (qiteB (qiteB (qcmp BinOp.eql (qint (qfld sd0 2)) 20) (qcmp BinOp.eql (qint (qfld sd0 3)) 1) Bool.false) (qnot (qiteB (qcmp BinOp.leq (qbin BinOp.sub IntKind.u32 (qbin BinOp.sub IntKind.u32 (qint (qfld sd0 1)) (qint (qfld sd0 0))) 2) 127) Bool.true (qcmp BinOp.geq (qbin BinOp.sub IntKind.u32 (qbin BinOp.sub IntKind.u32 (qint (qfld sd0 1)) (qint (qfld sd0 0))) 2) 4294967168))) Bool.false) then
    some [(D.int 7)]
    else
    some [(D.int 0)]
    else
    bif (qiteB (qiteB (qcmp BinOp.eql (qint (qfld sd0 2)) 20) (qcmp BinOp.eql (qint (qfld sd0 3)) 1) Bool.false) (qnot (qiteB (qcmp BinOp.leq (qbin BinOp.sub IntKind.u32 (qbin BinOp.sub IntKind.u32 (qint (qfld sd0 1)) (qint (qfld sd0 0))) 2) 127) Bool.true (qcmp BinOp.geq (qbin BinOp.sub IntKind.u32 (qbin BinOp.sub IntKind.u32 (qint (qfld sd0 1)) (qint (qfld sd0 0))) 2) 4294967168))) Bool.false) then
    some [(D.int 7)]
    else
    some [(D.int 0)]
    else
    none
    else
    none := by kernel_rfl
noncomputable def q46 : List D → Option (List D) := veil (F46 )
theorem q46_eq : q46  = F46  := veil_eq _
noncomputable def tb46 : Tb := Tb.addF tb82 46 S46 (q46 )
theorem ok_tb46 : TbOk env (tb46 ) := addFunF ok_tb82 46 (by kernel_rfl) _ (q46_eq )
def S16 : FunS := ⟨[⟨true, (.dat 24)⟩], [], [⟨true, .bool⟩], []⟩
noncomputable def F16 : List D → Option (List D) := liftX env tb46 60 12 16 S16
theorem F16_eq  (sd0 : D) : F16  [sd0] =
    bif (qsome (q46 [sd0])) then
    some [(D.bool (qcmp BinOp.eql (qint (qnth (q46 [sd0]) 0)) 0))]
    else
    none := by kernel_rfl
noncomputable def q16 : List D → Option (List D) := veil (F16 )
theorem q16_eq : q16  = F16  := veil_eq _
noncomputable def tb16 : Tb := Tb.addF tb46 16 S16 (q16 )
theorem ok_tb16 : TbOk env (tb16 ) := addFunF ok_tb46 16 (by kernel_rfl) _ (q16_eq )
def S141 : FunS := ⟨[⟨true, (.dat 24)⟩], [], [⟨true, (.int .i64)⟩], []⟩
noncomputable def F141 : List D → Option (List D) := liftX env tb16 60 12 141 S141
theorem F141_eq  (sd0 : D) : F141  [sd0] =
    bif (qcmp BinOp.eql (qint (qfld sd0 2)) 17) then
    some [(D.int (qbin BinOp.add IntKind.i64 80 (qbin BinOp.mul IntKind.i64 2 (qint (qfld sd0 4)))))]
    else
    bif (qcmp BinOp.eql (qint (qfld sd0 4)) 1) then
    some [(D.int (qbin BinOp.add IntKind.i64 (qiteI (qcmp BinOp.eql (qint (qfld sd0 2)) 18) 85 80) 1))]
    else
    bif (qiteB (qcmp BinOp.eql (qint (qfld sd0 4)) 2) (qcmp BinOp.eql (qint (qfld sd0 2)) 16) Bool.false) then
    some [(D.int (qbin BinOp.add IntKind.i64 (qiteI (qcmp BinOp.eql (qint (qfld sd0 2)) 18) 85 80) 3))]
    else
    bif (qcmp BinOp.eql (qint (qfld sd0 4)) 2) then
    some [(D.int (qbin BinOp.add IntKind.i64 (qiteI (qcmp BinOp.eql (qint (qfld sd0 2)) 18) 85 80) 2))]
    else
    some [(D.int (qiteI (qcmp BinOp.eql (qint (qfld sd0 2)) 18) 85 80))] := by kernel_rfl
noncomputable def q141 : List D → Option (List D) := veil (F141 )
theorem q141_eq : q141  = F141  := veil_eq _
noncomputable def tb141 : Tb := Tb.addF tb16 141 S141 (q141 )
theorem ok_tb141 : TbOk env (tb141 ) := addFunF ok_tb16 141 (by kernel_rfl) _ (q141_eq )
def S142 : FunS := ⟨[⟨true, (.dat 24)⟩], [], [⟨true, (.rows 5)⟩], []⟩
noncomputable def F142 : List D → Option (List D) := liftX env tb141 60 12 142 S142
theorem F142_eq  (sd0 : D) : F142  [sd0] =
    bif (qcmp BinOp.eql (qint (qfld sd0 2)) 3) then
    some [(D.list [(D.int (qbin BinOp.add IntKind.u8 8 (qwrap IntKind.u8 (qint (qfld sd0 6)))))])]
    else
    bif (qcmp BinOp.eql (qint (qfld sd0 2)) 4) then
    some [(D.list [(D.int (qbin BinOp.add IntKind.u8 16 (qwrap IntKind.u8 (qint (qfld sd0 6)))))])]
    else
    bif (qcmp BinOp.eql (qint (qfld sd0 2)) 24) then
    some [(D.list [(D.int 129), (D.int (qwrap IntKind.u8 (qint (qfld sd0 6))))])]
    else
    bif (qcmp BinOp.eql (qint (qfld sd0 2)) 21) then
    some [(D.list [(D.int 130), (D.int (qwrap IntKind.u8 (qint (qfld sd0 6))))])]
    else
    bif (qcmp BinOp.eql (qint (qfld sd0 2)) 25) then
    some [(D.list [(D.int (qwrap IntKind.u8 (qbin BinOp.add IntKind.i64 144 (qint (qfld sd0 5))))), (D.int (qwrap IntKind.u8 (qint (qfld sd0 6))))])]
    else
    bif (qcmp BinOp.eql (qint (qfld sd0 2)) 26) then
    some [(D.list [(D.int 160), (D.int (qwrap IntKind.u8 (qint (qfld sd0 6))))])]
    else
    bif (qcmp BinOp.eql (qint (qfld sd0 2)) 27) then
    some [(D.list [(D.int 161), (D.int (qwrap IntKind.u8 (qint (qfld sd0 6))))])]
    else
    some [(D.list [(D.int (qwrap IntKind.u8 (qint (qfld sd0 2))))])] := by kernel_rfl
noncomputable def q142 : List D → Option (List D) := veil (F142 )
theorem q142_eq : q142  = F142  := veil_eq _
noncomputable def tb142 : Tb := Tb.addF tb141 142 S142 (q142 )
theorem ok_tb142 : TbOk env (tb142 ) := addFunF ok_tb141 142 (by kernel_rfl) _ (q142_eq )
def S119 : FunS := ⟨[⟨true, (.dat 24)⟩], [], [⟨true, (.rows 5)⟩], []⟩
noncomputable def F119 : List D → Option (List D) := liftX env tb142 60 12 119 S119
theorem F119_eq  (sd0 : D) : F119  [sd0] =
    bif (qiteB (qcmp BinOp.geq (qint (qfld sd0 2)) 5) (qcmp BinOp.leq (qint (qfld sd0 2)) 15) Bool.false) then
    bif (qcmp BinOp.eql (qint (qfld sd0 3)) 0) then
    some [(D.list [(D.int (qwrap IntKind.u8 (qbin BinOp.add IntKind.i64 32 (qbin BinOp.sub IntKind.i64 (qint (qfld sd0 2)) 5)))), (D.int (qwrap IntKind.u8 (qbin BinOp.add IntKind.i64 (qbin BinOp.mul IntKind.i64 16 (qint (qfld sd0 6))) (qint (qfld sd0 7)))))])]
    else
    bif (qcmp BinOp.eql (qint (qfld sd0 3)) 1) then
    some [(D.list [(D.int (qwrap IntKind.u8 (qbin BinOp.add IntKind.i64 48 (qbin BinOp.sub IntKind.i64 (qint (qfld sd0 2)) 5)))), (D.int (qwrap IntKind.u8 (qint (qfld sd0 6)))), (D.int (qwrap IntKind.u8 (qbin BinOp.rem IntKind.u32 (qint (qfld sd0 1)) 256)))])]
    else
    some [(D.list [(D.int (qwrap IntKind.u8 (qbin BinOp.add IntKind.i64 64 (qbin BinOp.sub IntKind.i64 (qint (qfld sd0 2)) 5)))), (D.int (qwrap IntKind.u8 (qint (qfld sd0 6)))), (D.int (qwrap IntKind.u8 (qbin BinOp.rem IntKind.u32 (qint (qfld sd0 1)) 256))), (D.int (qwrap IntKind.u8 (qbin BinOp.rem IntKind.u32 (qbin BinOp.quo IntKind.u32 (qint (qfld sd0 1)) 256) 256))), (D.int (qwrap IntKind.u8 (qbin BinOp.rem IntKind.u32 (qbin BinOp.quo IntKind.u32 (qint (qfld sd0 1)) 65536) 256))), (D.int (qwrap IntKind.u8 (qbin BinOp.quo IntKind.u32 (qint (qfld sd0 1)) 16777216)))])]
    else
    bif (qiteB (qiteB (qcmp BinOp.eql (qint (qfld sd0 2)) 16) Bool.true (qcmp BinOp.eql (qint (qfld sd0 2)) 17)) Bool.true (qcmp BinOp.eql (qint (qfld sd0 2)) 18)) then
    bif (qsome (q141 [sd0])) then
    some [(D.list [(D.int (qwrap IntKind.u8 (qint (qnth (q141 [sd0]) 0)))), (D.int (qwrap IntKind.u8 (qbin BinOp.add IntKind.i64 (qbin BinOp.mul IntKind.i64 16 (qint (qfld sd0 6))) (qint (qfld sd0 7))))), (D.int (qwrap IntKind.u8 (qbin BinOp.rem IntKind.u32 (qint (qfld sd0 1)) 256)))])]
    else
    none
    else
    bif (qcmp BinOp.eql (qint (qfld sd0 2)) 19) then
    some [(D.list [(D.int 90), (D.int (qwrap IntKind.u8 (qbin BinOp.add IntKind.i64 (qbin BinOp.mul IntKind.i64 16 (qint (qfld sd0 6))) (qint (qfld sd0 7))))), (D.int (qwrap IntKind.u8 (qbin BinOp.rem IntKind.u32 (qint (qfld sd0 1)) 256)))])]
    else
    bif (qcmp BinOp.eql (qint (qfld sd0 2)) 20) then
    bif (qcmp BinOp.eql (qint (qfld sd0 3)) 1) then
    some [(D.list [(D.int (qwrap IntKind.u8 (qbin BinOp.add IntKind.i64 96 (qint (qfld sd0 5))))), (D.int (qwrap IntKind.u8 (qbin BinOp.rem IntKind.u32 (qbin BinOp.sub IntKind.u32 (qbin BinOp.sub IntKind.u32 (qint (qfld sd0 1)) (qint (qfld sd0 0))) 2) 256)))])]
    else
    some [(D.list [(D.int (qwrap IntKind.u8 (qbin BinOp.add IntKind.i64 112 (qint (qfld sd0 5))))), (D.int (qwrap IntKind.u8 (qbin BinOp.rem IntKind.u32 (qbin BinOp.sub IntKind.u32 (qbin BinOp.sub IntKind.u32 (qint (qfld sd0 1)) (qint (qfld sd0 0))) 5) 256))), (D.int (qwrap IntKind.u8 (qbin BinOp.rem IntKind.u32 (qbin BinOp.quo IntKind.u32 (qbin BinOp.sub IntKind.u32 (qbin BinOp.sub IntKind.u32 (qint (qfld sd0 1)) (qint (qfld sd0 0))) 5) 256) 256))), (D.int (qwrap IntKind.u8 (qbin BinOp.rem IntKind.u32 (qbin BinOp.quo IntKind.u32 (qbin BinOp.sub IntKind.u32 (qbin BinOp.sub IntKind.u32 (qint (qfld sd0 1)) (qint (qfld sd0 0))) 5) 65536) 256))), (D.int (qwrap IntKind.u8 (qbin BinOp.quo IntKind.u32 (qbin BinOp.sub IntKind.u32 (qbin BinOp.sub IntKind.u32 (qint (qfld sd0 1)) (qint (qfld sd0 0))) 5) 16777216)))])]
    else
    bif (qcmp BinOp.eql (qint (qfld sd0 2)) 23) then
    some [(D.list [(D.int 128), (D.int (qwrap IntKind.u8 (qbin BinOp.rem IntKind.u32 (qbin BinOp.sub IntKind.u32 (qbin BinOp.sub IntKind.u32 (qint (qfld sd0 1)) (qint (qfld sd0 0))) 5) 256))), (D.int (qwrap IntKind.u8 (qbin BinOp.rem IntKind.u32 (qbin BinOp.quo IntKind.u32 (qbin BinOp.sub IntKind.u32 (qbin BinOp.sub IntKind.u32 (qint (qfld sd0 1)) (qint (qfld sd0 0))) 5) 256) 256))), (D.int (qwrap IntKind.u8 (qbin BinOp.rem IntKind.u32 (qbin BinOp.quo IntKind.u32 (qbin BinOp.sub IntKind.u32 (qbin BinOp.sub IntKind.u32 (qint (qfld sd0 1)) (qint (qfld sd0 0))) 5) 65536) 256))), (D.int (qwrap IntKind.u8 (qbin BinOp.quo IntKind.u32 (qbin BinOp.sub IntKind.u32 (qbin BinOp.sub IntKind.u32 (qint (qfld sd0 1)) (qint (qfld sd0 0))) 5) 16777216)))])]
    else
    bif (qcmp BinOp.eql (qint (qfld sd0 2)) 22) then
    some [(D.list [(D.int 131), (D.int (qwrap IntKind.u8 (qint (qfld sd0 6)))), (D.int (qwrap IntKind.u8 (qbin BinOp.rem IntKind.u32 (qint (qfld sd0 1)) 256))), (D.int (qwrap IntKind.u8 (qbin BinOp.rem IntKind.u32 (qbin BinOp.quo IntKind.u32 (qint (qfld sd0 1)) 256) 256))), (D.int (qwrap IntKind.u8 (qbin BinOp.rem IntKind.u32 (qbin BinOp.quo IntKind.u32 (qint (qfld sd0 1)) 65536) 256))), (D.int (qwrap IntKind.u8 (qbin BinOp.quo IntKind.u32 (qint (qfld sd0 1)) 16777216)))])]
    else
    bif (qsome (q142 [sd0])) then
    some [(qnth (q142 [sd0]) 0)]
    else
    none := by kernel_rfl
noncomputable def q119 : List D → Option (List D) := veil (F119 )
theorem q119_eq : q119  = F119  := veil_eq _
noncomputable def tb119 : Tb := Tb.addF tb142 119 S119 (q119 )
theorem ok_tb119 : TbOk env (tb119 ) := addFunF ok_tb142 119 (by kernel_rfl) _ (q119_eq )
def S74 : FunS := ⟨[⟨true, (.dat 24)⟩], [], [⟨true, (.int .i64)⟩], []⟩
noncomputable def F74 : List D → Option (List D) := liftX env tb119 60 12 74 S74
theorem F74_eq  (sd0 : D) : F74  [sd0] =
    bif (qsome (q16 [sd0])) then
    bif (qnot (qbool (qnth (q16 [sd0]) 0))) then
    some [(D.int 0)]
    else
    bif (qsome (q119 [sd0])) then
    some [(D.int (qlen (qnth (q119 [sd0]) 0)))]
    else
    none
    else
    none := by kernel_rfl
noncomputable def q74 : List D → Option (List D) := veil (F74 )
theorem q74_eq : q74  = F74  := veil_eq _
noncomputable def tb74 : Tb := Tb.addF tb119 74 S74 (q74 )
theorem ok_tb74 : TbOk env (tb74 ) := addFunF ok_tb119 74 (by kernel_rfl) _ (q74_eq )
end Go.Proofs.YtobhhfbdelnhfaaGreatDoor
