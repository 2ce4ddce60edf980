/-
  DERIVED: THE SHELF's CONTRACTS AT THIS DUMP, IN PLAIN WORDS (tools/lay-plain.mjs out of 'TrydShelf.lean', which tools/lay-shelf.mjs wrote): THE SAME DECLARATIONS UNDER THE SAME NAMES: 'import', 'namespace', 'open', 'def', 'theorem' AND NOTHING ELSE: no command of the shelf's: FOR A HAND-IN. Each laying: the table of numbers ('.._ren') and one theorem, a field a fact of the dump's own or the kernel's comparison; each contract: ONE APPLICATION.
-/
import Derived.Shelf.Strconv.Itoa0
import Derived.Shelf.Strconv.Itoa1
import Derived.Shelf.LaysM
import Derived.Shelf.Strconv.Itoa2
import Derived.Shelf.Strconv.Itoa3
import Derived.Shelf.Strings.Search1
import Derived.Shelf.Strings.Search2
import Derived.Shelf.Strings.Search3
import Derived.Shelf.Strings.Cut
import Derived.Shelf.Strings.Count
import Derived.Shelf.Strings.Shaped
import Derived.Shelf.Strings.Split
import Derived.Test.YtobhhfbdelnhfaaDoorProg
import Derived.Test.YtobhhfbdelnhfaaDoorAmZ2
import Derived.Test.YtobhhfbdelnhfaaDoorC1
import Derived.Below
import Derived.RowKit3
import Derived.Lib.IndexMore
import Derived.Lib.ItoaNum
import Derived.Lib.SplitLaws
import Derived.Lib.LaidTab
import Derived.Sort.Grow
import Derived.Deep.Draws
import Derived.Test.YtobhhfbdelnhfaaDoorSp
import Derived.KernelRfl
namespace Go.Proofs
open Go.Shelf
def Tryd.laysM171_ren:Go.Shelf.Ren:=⟨fun|171=>16|243=>30|246=>51|283=>67|284=>68|285=>69|286=>70|129=>82|317=>81|318=>83|319=>84|320=>85|337=>95|338=>96|n=>n,fun|3=>3|9=>9|2=>2|4=>4|171=>89|0=>0|53=>50|37=>43|5=>5|173=>92|212=>102|51=>22|20=>20|213=>103|46=>54|232=>114|233=>115|n=>n,fun|17=>0|18=>2|19=>3|n=>n⟩
theorem Tryd.laysM171:Go.Proofs.LaysM.n171 Tryd.prog Tryd.laysM171_ren:={
 mixed:=by kernel_rfl
 f129:=Tryd.func82.trans (congrArg some (by kernel_rfl))
 f171:=Tryd.func16.trans (congrArg some (by kernel_rfl))
 f243:=Tryd.func30.trans (congrArg some (by kernel_rfl))
 f246:=Tryd.func51.trans (congrArg some (by kernel_rfl))
 f283:=Tryd.func67.trans (congrArg some (by kernel_rfl))
 f284:=Tryd.func68.trans (congrArg some (by kernel_rfl))
 f285:=Tryd.func69.trans (congrArg some (by kernel_rfl))
 f286:=Tryd.func70.trans (congrArg some (by kernel_rfl))
 f317:=Tryd.func81.trans (congrArg some (by kernel_rfl))
 f318:=Tryd.func83.trans (congrArg some (by kernel_rfl))
 f319:=Tryd.func84.trans (congrArg some (by kernel_rfl))
 f320:=Tryd.func85.trans (congrArg some (by kernel_rfl))
 f337:=Tryd.func95.trans (congrArg some (by kernel_rfl))
 f338:=Tryd.func96.trans (congrArg some (by kernel_rfl))
 t0:=Tryd.underlying0
 a0:=Tryd.isAgg0
 z0:=Tryd.sizeOf0
 v0:=Tryd.zeroValue0
 t2:=Tryd.underlying2
 a2:=Tryd.isAgg2
 z2:=Tryd.sizeOf2
 v2:=Tryd.zeroValue2
 t3:=Tryd.underlying3
 a3:=Tryd.isAgg3
 z3:=Tryd.sizeOf3
 v3:=Tryd.zeroValue3
 t4:=Tryd.underlying4
 a4:=Tryd.isAgg4
 z4:=Tryd.sizeOf4
 v4:=Tryd.zeroValue4
 t5:=Tryd.underlying5
 a5:=Tryd.isAgg5
 z5:=Tryd.sizeOf5
 v5:=Tryd.zeroValue5
 t9:=Tryd.underlying9
 a9:=Tryd.isAgg9
 z9:=Tryd.sizeOf9
 v9:=Tryd.zeroValue9
 t20:=Tryd.underlying20
 a20:=Tryd.isAgg20
 z20:=Tryd.sizeOf20
 v20:=Tryd.zeroValue20
 t37:=Tryd.underlying43
 a37:=Tryd.isAgg43
 z37:=Tryd.sizeOf43
 v37:=Tryd.zeroValue43
 t46:=Tryd.underlying54
 a46:=Tryd.isAgg54
 z46:=Tryd.sizeOf54
 v46:=Tryd.zeroValue54
 t51:=Tryd.underlying22
 a51:=Tryd.isAgg22
 z51:=Tryd.sizeOf22
 v51:=Tryd.zeroValue22
 t53:=Tryd.underlying50
 a53:=Tryd.isAgg50
 z53:=Tryd.sizeOf50
 v53:=Tryd.zeroValue50
 t171:=Tryd.underlying89
 a171:=Tryd.isAgg89
 z171:=Tryd.sizeOf89
 v171:=Tryd.zeroValue89
 t173:=Tryd.underlying92
 a173:=Tryd.isAgg92
 z173:=Tryd.sizeOf92
 v173:=Tryd.zeroValue92
 t212:=Tryd.underlying102
 a212:=Tryd.isAgg102
 z212:=Tryd.sizeOf102
 v212:=Tryd.zeroValue102
 t213:=Tryd.underlying103
 a213:=Tryd.isAgg103
 z213:=Tryd.sizeOf103
 t232:=Tryd.underlying114
 a232:=Tryd.isAgg114
 z232:=Tryd.sizeOf114
 v232:=Tryd.zeroValue114
 t233:=Tryd.underlying115
 a233:=Tryd.isAgg115
 z233:=Tryd.sizeOf115
 v233:=Tryd.zeroValue115
 g17:=by kernel_rfl
 g18:=by kernel_rfl
 g19:=by kernel_rfl
 i0:=by kernel_rfl
 i2:=by kernel_rfl
 i3:=by kernel_rfl
 i4:=by kernel_rfl
 i5:=by kernel_rfl
 i9:=by kernel_rfl
 i20:=by kernel_rfl
 i37:=by kernel_rfl
 i46:=by kernel_rfl
 i51:=by kernel_rfl
 i53:=by kernel_rfl
 i171:=by kernel_rfl
 i173:=by kernel_rfl
 i212:=by kernel_rfl
 i232:=by kernel_rfl
 i233:=by kernel_rfl
 m17:=by kernel_rfl
 m18:=by kernel_rfl
 m19:=by kernel_rfl}
open Go.RowKit Go.Sort Go.Lib in
theorem Tryd.strconv_Itoa (n:Int) (h0: -9223372036854775808≤n) (h1:n≤9223372036854775807) (w:World) (htab:Lib.TabIs Tryd.prog w "internal/strconv.uint64pow10" .u64 Lib.pow10Tab):
 Calls Tryd.prog 16 #[.int .i64 n] w fun e w'=>e = .returned (.string ⟨(Lib.itoa n).toArray⟩)∧∃k os,w'=grow (w.drewN k) os:=Any.strconv_Itoa Tryd.laysM171 n h0 h1 w htab
def Tryd.lays219_ren:Go.Shelf.Ren:=⟨fun|219=>78|217=>91|225=>92|224=>93|267=>94|266=>100|314=>101|n=>n,fun|9=>9|3=>3|4=>4|5=>5|46=>54|146=>112|51=>22|n=>n,fun|1=>1|n=>n⟩
theorem Tryd.lays219:Go.Proofs.Lays.n219 Tryd.prog Tryd.lays219_ren:={
 mixed:=by kernel_rfl
 f217:=Tryd.func91.trans (congrArg some (by kernel_rfl))
 f219:=Tryd.func78.trans (congrArg some (by kernel_rfl))
 f224:=Tryd.func93.trans (congrArg some (by kernel_rfl))
 f225:=Tryd.func92.trans (congrArg some (by kernel_rfl))
 f266:=Tryd.func100.trans (congrArg some (by kernel_rfl))
 f267:=Tryd.func94.trans (congrArg some (by kernel_rfl))
 f314:=Tryd.func101.trans (congrArg some (by kernel_rfl))
 t3:=Tryd.underlying3
 a3:=Tryd.isAgg3
 z3:=Tryd.sizeOf3
 v3:=Tryd.zeroValue3
 t4:=Tryd.underlying4
 a4:=Tryd.isAgg4
 z4:=Tryd.sizeOf4
 v4:=Tryd.zeroValue4
 t5:=Tryd.underlying5
 a5:=Tryd.isAgg5
 z5:=Tryd.sizeOf5
 v5:=Tryd.zeroValue5
 t9:=Tryd.underlying9
 a9:=Tryd.isAgg9
 z9:=Tryd.sizeOf9
 v9:=Tryd.zeroValue9
 t46:=Tryd.underlying54
 a46:=Tryd.isAgg54
 z46:=Tryd.sizeOf54
 v46:=Tryd.zeroValue54
 t51:=Tryd.underlying22
 a51:=Tryd.isAgg22
 z51:=Tryd.sizeOf22
 v51:=Tryd.zeroValue22
 t146:=Tryd.underlying112
 a146:=Tryd.isAgg112
 z146:=Tryd.sizeOf112
 v146:=Tryd.zeroValue112
 g1:=by kernel_rfl}
open Go.RowKit Go.Lib in
theorem Tryd.stringslite_Index (s sub:ByteArray) (m:Int) (w:World) (hs:s.size<4294967281) (hm:w.cell? ⟨1,0,none⟩=some (.int .i64 m)):
 Calls Tryd.prog 78 #[.string s, .string sub] w fun e w'=>e = .returned (.int .i64 (Lib.index s.data.toList sub.data.toList))∧w'=w:=Any.stringslite_Index Tryd.lays219 s sub m w hs hm
def Tryd.lays145_ren:Go.Shelf.Ren:=⟨fun|145=>41|220=>58|219=>78|217=>91|225=>92|224=>93|267=>94|266=>100|314=>101|n=>n,fun|9=>9|4=>4|59=>69|3=>3|5=>5|46=>54|146=>112|51=>22|n=>n,fun|1=>1|n=>n⟩
theorem Tryd.lays145:Go.Proofs.Lays.n145 Tryd.prog Tryd.lays145_ren:={
 mixed:=by kernel_rfl
 f145:=Tryd.func41.trans (congrArg some (by kernel_rfl))
 f217:=Tryd.func91.trans (congrArg some (by kernel_rfl))
 f219:=Tryd.func78.trans (congrArg some (by kernel_rfl))
 f220:=Tryd.func58.trans (congrArg some (by kernel_rfl))
 f224:=Tryd.func93.trans (congrArg some (by kernel_rfl))
 f225:=Tryd.func92.trans (congrArg some (by kernel_rfl))
 f266:=Tryd.func100.trans (congrArg some (by kernel_rfl))
 f267:=Tryd.func94.trans (congrArg some (by kernel_rfl))
 f314:=Tryd.func101.trans (congrArg some (by kernel_rfl))
 t3:=Tryd.underlying3
 a3:=Tryd.isAgg3
 z3:=Tryd.sizeOf3
 v3:=Tryd.zeroValue3
 t4:=Tryd.underlying4
 a4:=Tryd.isAgg4
 z4:=Tryd.sizeOf4
 v4:=Tryd.zeroValue4
 t5:=Tryd.underlying5
 a5:=Tryd.isAgg5
 z5:=Tryd.sizeOf5
 v5:=Tryd.zeroValue5
 t9:=Tryd.underlying9
 a9:=Tryd.isAgg9
 z9:=Tryd.sizeOf9
 v9:=Tryd.zeroValue9
 t46:=Tryd.underlying54
 a46:=Tryd.isAgg54
 z46:=Tryd.sizeOf54
 v46:=Tryd.zeroValue54
 t51:=Tryd.underlying22
 a51:=Tryd.isAgg22
 z51:=Tryd.sizeOf22
 v51:=Tryd.zeroValue22
 t59:=Tryd.underlying69
 a59:=Tryd.isAgg69
 z59:=Tryd.sizeOf69
 v59:=Tryd.zeroValue69
 t146:=Tryd.underlying112
 a146:=Tryd.isAgg112
 z146:=Tryd.sizeOf112
 v146:=Tryd.zeroValue112
 g1:=by kernel_rfl}
open Go.RowKit Go.Lib in
theorem Tryd.strings_Cut (s sep:ByteArray) (m:Int) (w:World) (hs:s.size<4294967281) (hm:w.cell? ⟨1,0,none⟩=some (.int .i64 m)):
 Calls Tryd.prog 41 #[.string s, .string sep] w fun e w'=>e = .returned (.tuple #[.string ⟨(Lib.cut s.data.toList sep.data.toList).1.toArray⟩, .string ⟨(Lib.cut s.data.toList sep.data.toList).2.1.toArray⟩, .bool (Lib.cut s.data.toList sep.data.toList).2.2])∧∃n,w'=w.drewN n:=Any.strings_Cut Tryd.lays145 s sep m w hs hm
def Tryd.lays138_ren:Go.Shelf.Ren:=⟨fun|138=>72|195=>86|218=>88|143=>63|219=>78|217=>91|225=>92|224=>93|267=>94|266=>100|314=>101|n=>n,fun|9=>9|3=>3|4=>4|5=>5|0=>0|46=>54|146=>112|51=>22|n=>n,fun|1=>1|n=>n⟩
theorem Tryd.lays138:Go.Proofs.Lays.n138 Tryd.prog Tryd.lays138_ren:={
 mixed:=by kernel_rfl
 f138:=Tryd.func72.trans (congrArg some (by kernel_rfl))
 f143:=Tryd.func63.trans (congrArg some (by kernel_rfl))
 f195:=Tryd.func86.trans (congrArg some (by kernel_rfl))
 f217:=Tryd.func91.trans (congrArg some (by kernel_rfl))
 f218:=Tryd.func88.trans (congrArg some (by kernel_rfl))
 f219:=Tryd.func78.trans (congrArg some (by kernel_rfl))
 f224:=Tryd.func93.trans (congrArg some (by kernel_rfl))
 f225:=Tryd.func92.trans (congrArg some (by kernel_rfl))
 f266:=Tryd.func100.trans (congrArg some (by kernel_rfl))
 f267:=Tryd.func94.trans (congrArg some (by kernel_rfl))
 f314:=Tryd.func101.trans (congrArg some (by kernel_rfl))
 t0:=Tryd.underlying0
 a0:=Tryd.isAgg0
 z0:=Tryd.sizeOf0
 v0:=Tryd.zeroValue0
 t3:=Tryd.underlying3
 a3:=Tryd.isAgg3
 z3:=Tryd.sizeOf3
 v3:=Tryd.zeroValue3
 t4:=Tryd.underlying4
 a4:=Tryd.isAgg4
 z4:=Tryd.sizeOf4
 v4:=Tryd.zeroValue4
 t5:=Tryd.underlying5
 a5:=Tryd.isAgg5
 z5:=Tryd.sizeOf5
 v5:=Tryd.zeroValue5
 t9:=Tryd.underlying9
 a9:=Tryd.isAgg9
 z9:=Tryd.sizeOf9
 v9:=Tryd.zeroValue9
 t46:=Tryd.underlying54
 a46:=Tryd.isAgg54
 z46:=Tryd.sizeOf54
 v46:=Tryd.zeroValue54
 t51:=Tryd.underlying22
 a51:=Tryd.isAgg22
 z51:=Tryd.sizeOf22
 v51:=Tryd.zeroValue22
 t146:=Tryd.underlying112
 a146:=Tryd.isAgg112
 z146:=Tryd.sizeOf112
 v146:=Tryd.zeroValue112
 g1:=by kernel_rfl}
open Go.RowKit Go.Lib in
theorem Tryd.strings_Count_one (s:ByteArray) (c:UInt8) (w:World):
 Calls Tryd.prog 72 #[.string s, .string ⟨#[c]⟩] w fun e w'=>e = .returned (.int .i64 (Lib.countByte s.data.toList c))∧w'=w:=Any.strings_Count_one Tryd.lays138 s c w
def Tryd.lays146_ren:Go.Shelf.Ren:=⟨fun|146=>39|221=>56|268=>71|138=>72|143=>63|195=>86|197=>87|218=>88|219=>78|260=>97|217=>91|225=>92|224=>93|267=>94|266=>100|314=>101|n=>n,fun|9=>9|31=>64|3=>3|4=>4|0=>0|105=>106|21=>21|5=>5|46=>54|119=>116|139=>119|138=>118|146=>112|51=>22|n=>n,fun|1=>1|3=>4|4=>5|n=>n⟩
theorem Tryd.lays146:Go.Proofs.Lays.n146 Tryd.prog Tryd.lays146_ren:={
 mixed:=by kernel_rfl
 f138:=Tryd.func72.trans (congrArg some (by kernel_rfl))
 f143:=Tryd.func63.trans (congrArg some (by kernel_rfl))
 f146:=Tryd.func39.trans (congrArg some (by kernel_rfl))
 f195:=Tryd.func86.trans (congrArg some (by kernel_rfl))
 f197:=Tryd.func87.trans (congrArg some (by kernel_rfl))
 f217:=Tryd.func91.trans (congrArg some (by kernel_rfl))
 f218:=Tryd.func88.trans (congrArg some (by kernel_rfl))
 f219:=Tryd.func78.trans (congrArg some (by kernel_rfl))
 f221:=Tryd.func56.trans (congrArg some (by kernel_rfl))
 f224:=Tryd.func93.trans (congrArg some (by kernel_rfl))
 f225:=Tryd.func92.trans (congrArg some (by kernel_rfl))
 f260:=Tryd.func97.trans (congrArg some (by kernel_rfl))
 f266:=Tryd.func100.trans (congrArg some (by kernel_rfl))
 f267:=Tryd.func94.trans (congrArg some (by kernel_rfl))
 f268:=Tryd.func71.trans (congrArg some (by kernel_rfl))
 f314:=Tryd.func101.trans (congrArg some (by kernel_rfl))
 t0:=Tryd.underlying0
 a0:=Tryd.isAgg0
 z0:=Tryd.sizeOf0
 v0:=Tryd.zeroValue0
 t3:=Tryd.underlying3
 a3:=Tryd.isAgg3
 z3:=Tryd.sizeOf3
 v3:=Tryd.zeroValue3
 t4:=Tryd.underlying4
 a4:=Tryd.isAgg4
 z4:=Tryd.sizeOf4
 v4:=Tryd.zeroValue4
 t5:=Tryd.underlying5
 a5:=Tryd.isAgg5
 z5:=Tryd.sizeOf5
 v5:=Tryd.zeroValue5
 t9:=Tryd.underlying9
 a9:=Tryd.isAgg9
 z9:=Tryd.sizeOf9
 v9:=Tryd.zeroValue9
 t21:=Tryd.underlying21
 a21:=Tryd.isAgg21
 z21:=Tryd.sizeOf21
 v21:=Tryd.zeroValue21
 t31:=Tryd.underlying64
 a31:=Tryd.isAgg64
 z31:=Tryd.sizeOf64
 v31:=Tryd.zeroValue64
 t46:=Tryd.underlying54
 a46:=Tryd.isAgg54
 z46:=Tryd.sizeOf54
 v46:=Tryd.zeroValue54
 t51:=Tryd.underlying22
 a51:=Tryd.isAgg22
 z51:=Tryd.sizeOf22
 v51:=Tryd.zeroValue22
 t105:=Tryd.underlying106
 a105:=Tryd.isAgg106
 z105:=Tryd.sizeOf106
 v105:=Tryd.zeroValue106
 t119:=Tryd.underlying116
 a119:=Tryd.isAgg116
 z119:=Tryd.sizeOf116
 t138:=Tryd.underlying118
 a138:=Tryd.isAgg118
 z138:=Tryd.sizeOf118
 v138:=Tryd.zeroValue118
 t139:=Tryd.underlying119
 a139:=Tryd.isAgg119
 z139:=Tryd.sizeOf119
 v139:=Tryd.zeroValue119
 t146:=Tryd.underlying112
 a146:=Tryd.isAgg112
 z146:=Tryd.sizeOf112
 v146:=Tryd.zeroValue112
 g1:=by kernel_rfl
 g3:=by kernel_rfl
 g4:=by kernel_rfl}
open Go.RowKit Go.Lib in
theorem Tryd.strings_Split (s sep:ByteArray) (m:Int) (w:World) (hs:s.size<4294967281) (hm:w.cell? ⟨1,0,none⟩=some (.int .i64 m)) (h1:1≤sep.size):
 Calls Tryd.prog 39 #[.string s, .string sep] w fun e w'=>
  e = .returned (.slice (some ⟨w.heap.size,0,none⟩) (Lib.countB s sep+1) (Lib.countB s sep+1))∧w'=w.alloc (.cells ((Lib.splitB sep 0 (Lib.countB s sep) s).map Value.string).toArray 9):=Any.strings_Split Tryd.lays146 (by kernel_rfl) s sep m w hs hm h1
end Go.Proofs
namespace Go.AM
section
variable {P:Program}
theorem ok_of_same {f:FuncId} {args:List AV} {H:Hp} {x:Value} (h:∀(lo:Nat→Prop) (w0:World) (ρ:Nat→Option Nat) (E:Nat→Prop) (w:World) (vs:Array Value),Inv lo w0 ρ E H w→RepL ρ E w args vs.toList→
 Calls P f vs w fun e w'=>e = .returned x∧w'=w):Ok P f args H (.sc x) H:=by
 intro lo w0 ρ E w vs inv ra
 refine(h lo w0 ρ E w vs inv ra).mono ?_
 rintro e w' ⟨rfl,rfl⟩
 exact⟨x,ρ,E,rfl,inv,⟨Ext.refl,fun _ h=> .inl h⟩,by simp only[Rep]⟩
noncomputable def idxT (s t:List UInt8) (i:Nat):Int:=match s with | []=>bif t.isEmpty then(i:Int)else -1|x::r=>bif t.isPrefixOf (x::r)then(i:Int)else idxT r t (i+1)
theorem idxT_eq:∀(s t:List UInt8) (i:Nat),idxT s t i=if Lib.index s t = -1 then -1 else Lib.index s t+i
 | [],t,i=>by
   unfold idxT Lib.index
   cases h:t.isEmpty<;>simp
 |x::r,t,i=>by
  have ih:=idxT_eq r t (i+1)
  have hg:=Lib.index_ge r t
  unfold idxT Lib.index
  rw[ih]
  cases h:t.isPrefixOf (x::r)with
  |true=>simp
  |false=>
   simp only[cond_false,Bool.false_eq_true,if_false,beq_iff_eq]
   by_cases h1:Lib.index r t = -1
   ·simp[h1]
   ·have h2:¬(Lib.index r t+1 = -1):=by omega
    simp only[h1,h2,if_false];omega
def IndexSaid (P:Program) (f g:Nat):Prop:=
 ∀(s sub:ByteArray) (m:Int) (w:World),s.size<4294967281→w.cell? ⟨g,0,none⟩=some (.int .i64 m)→
  Calls P f #[.string s, .string sub] w fun e w'=>e = .returned (.int .i64 (Lib.index s.data.toList sub.data.toList))∧w'=w
noncomputable def idxC (g:Nat) (args:List AV) (H:Hp):Option (AV×Hp):=
 match args with
 | [.sc (.string s), .sc (.string t)]=>(match H.glob g with
   |some [.anyI .i64]=>bif Nat.ble s.size 1048576 then some (.sc (.int .i64 (idxT s.data.toList t.data.toList 0)),H)else none
   |_=>none)
 |_=>none
theorem idxC_ok {f g:Nat} (hC:IndexSaid P f g) (args:List AV) (H:Hp) (v:AV) (H':Hp) (h:idxC g args H=some (v,H')):Ok P f args H v H':=by
 unfold idxC at h
 split at h
 case h_2=>cases h
 case h_1 s t=>
  split at h
  case h_2=>cases h
  case h_1 hg=>
   cases hb:Nat.ble s.size 1048576 with
   |false=>rw[hb]at h;cases h
   |true=>
    rw[hb]at h
    cases h
    simp only[Nat.ble_eq]at hb
    refine ok_of_same fun lo w0 ρ E w vs inv ra=> ?_
    generalize hvs:vs.toList=l at ra
    simp only[RepL]at ra
    obtain⟨u1,l1,rfl,r1,u2,l2,rfl,r2,rfl⟩:=ra
    simp only[Rep]at r1 r2
    subst r1 r2
    have hv:vs = #[.string s, .string t]:=by rw[← Array.toList_inj,hvs]
    have hr:=(inv.gl g _ hg).2.1
    simp only[RepAt,Rep]at hr
    obtain⟨⟨u,hu,n,rfl⟩,_⟩:=hr
    have e:idxT s.data.toList t.data.toList 0=Lib.index s.data.toList t.data.toList:=by
     rw[idxT_eq];split<;>simp_all
    rw[hv,e]
    exact hC s t n w (by omega) hu
def CountSaid (P:Program) (f:Nat):Prop:=
 ∀(s:ByteArray) (c:UInt8) (w:World),Calls P f #[.string s, .string ⟨#[c]⟩] w fun e w'=>e = .returned (.int .i64 (Lib.countByte s.data.toList c))∧w'=w
noncomputable def cntC (args:List AV) (H:Hp):Option (AV×Hp):=
 match args with
 | [.sc (.string s), .sc (.string ⟨⟨[c]⟩⟩)]=>some (.sc (.int .i64 (s.data.toList.count c:Nat)),H)
 |_=>none
theorem cntC_ok {f:Nat} (hC:CountSaid P f) (args:List AV) (H:Hp) (v:AV) (H':Hp) (h:cntC args H=some (v,H')):Ok P f args H v H':=by
 unfold cntC at h
 split at h
 case h_2=>cases h
 case h_1 s c=>
  cases h
  refine ok_of_same fun lo w0 ρ E w vs inv ra=> ?_
  generalize hvs:vs.toList=l at ra
  simp only[RepL]at ra
  obtain⟨u1,l1,rfl,r1,u2,l2,rfl,r2,rfl⟩:=ra
  simp only[Rep]at r1 r2
  subst r1 r2
  have hv:vs = #[.string s, .string ⟨#[c]⟩]:=by rw[← Array.toList_inj,hvs]
  rw[hv]
  exact hC s c w
end
end Go.AM
namespace Go.AM
section
variable {P:Program}
theorem ok_of_belowV {f:FuncId} {args:List AV} {H:Hp} {v:AV} (h:∀(lo:Nat→Prop) (w0:World) (ρ:Nat→Option Nat) (E:Nat→Prop) (w:World) (vs:Array Value),Inv lo w0 ρ E H w→RepL ρ E w args vs.toList→
 Calls P f vs w fun e w'=>∃x,e = .returned x∧RowKit.Below w.heap.size w w'∧Rep ρ (fun b=>E b∨(w.heap.size≤b∧b<w'.heap.size)) w' v x):Ok P f args H v H:=by
 intro lo w0 ρ E w vs inv ra
 refine(h lo w0 ρ E w vs inv ra).mono ?_
 rintro e w' ⟨x,rfl,hb,hrep⟩
 obtain⟨b1,b2,b3,hsz,hold⟩:=hb
 have ext:Ext ρ E w ρ (fun b=>E b∨(w.heap.size≤b∧b<w'.heap.size)) w':=Ext.grow (fun _ _ h=>h) (fun _ h=> .inl h) (fun i b hb=>(inv.bd i b hb).2) inv.ebd hold hsz
 refine⟨x,ρ,_,rfl,?_,⟨ext,?_⟩,hrep⟩
 ·exact{len:=inv.len,dom:=inv.dom,blk:=fun i k b hk hb=>(inv.blk i k b hk hb).mono ext (hold b (inv.bd i b hb).2),inj:=inv.inj
        notE:=fun i k b hk hb he=>by
         rcases he with he|he
         ·exact inv.notE i k b hk hb he
         ·have:=(inv.bd i b hb).2;omega
        bd:=fun i b hb=>⟨(inv.bd i b hb).1,Nat.lt_of_lt_of_le (inv.bd i b hb).2 hsz⟩
        ebd:=fun b he=>by
         rcases he with he|he
         ·exact Nat.lt_of_lt_of_le (inv.ebd b he) hsz
         ·exact he.2
        lole:=fun b hb=>Nat.lt_of_lt_of_le (inv.lole b hb) hsz
        old:=fun b hb=>(hold b (inv.lole b hb)).trans (inv.old b hb)
        io:=inv.io.trans ⟨b1,b2,b3⟩,gl:=gl_mono rfl ext inv.gl}
 ·intro b hb
  rcases hb with hb|hb
  ·exact .inl hb
  ·exact .inr fun h=>by have:=inv.lole b h;omega
theorem bl_drewN (w:World) (n:Nat):RowKit.Below w.heap.size w (w.drewN n):=⟨rfl,rfl,rfl,Nat.le_refl _,fun _ _=>rfl⟩
theorem below_grow (w:World) (k:Nat) (os:Array Obj):RowKit.Below w.heap.size w (Sort.grow (w.drewN k) os):=by
 refine RowKit.Below.trans (bl_drewN w k) ⟨rfl,rfl,rfl,?_,fun b hb=> ?_⟩
 ·simp only[Sort.grow,Array.size_append];omega
 ·have h0:(w.drewN k).heap=w.heap:=rfl
  simp only[Sort.grow,h0]
  rw[Array.getElem?_append_left hb]
noncomputable def qitoa:Int→ByteArray:=veil fun n=>⟨(Lib.itoa n).toArray⟩
noncomputable def qcutA:ByteArray→ByteArray→ByteArray:=veil fun s t=>⟨(Lib.cut s.data.toList t.data.toList).1.toArray⟩
noncomputable def qcutB:ByteArray→ByteArray→ByteArray:=veil fun s t=>⟨(Lib.cut s.data.toList t.data.toList).2.1.toArray⟩
noncomputable def qcutOk:ByteArray→ByteArray→Bool:=veil fun s t=>(Lib.cut s.data.toList t.data.toList).2.2
noncomputable def qsplit:ByteArray→ByteArray→D:=veil fun s t=> .list ((Lib.splitB t 0 (Lib.countB s t) s).map .str)
noncomputable def qidxT:ByteArray→ByteArray→Int:=veil fun s t=>Lib.index s.data.toList t.data.toList
def powC (i:Nat):AV→Bool
 | .sc (.int .u64 (.ofNat m))=>Nat.beq m (10^i)
 |_=>false
def eqPow:Nat→List AV→Bool
 |_,[]=>true
 |i,c::r=>powC i c&&eqPow (i+1) r
theorem powC_eq {i:Nat} {c:AV} (h:powC i c=true):c = .sc (.int .u64 (10^i:Nat)):=by
 unfold powC at h
 split at h
 ·rename_i m
  have hm:m=10^i:=Nat.eq_of_beq_eq_true h
  subst hm;rfl
 ·cases h
theorem eqPow_eq:∀(cs:List AV) (i:Nat),eqPow i cs=true→cs=(List.range cs.length).map fun j=> .sc (.int .u64 (10^(i+j):Nat))
 | [],_,_=>rfl
 |c::cs,i,h=>by
  simp only[eqPow,Bool.and_eq_true]at h
  have ih:=eqPow_eq cs (i+1) h.2
  rw[List.length_cons,List.range_succ_eq_map,List.map_cons,List.map_map,powC_eq h.1]
  congr 1
  refine ih.trans (List.map_congr_left fun j _=> ?_)
  simp only[Function.comp]
  rw[show i+1+j=i+(j+1)by omega]
def ItoaSaid (P:Program) (f:Nat):Prop:=
 ∀(n:Int), -9223372036854775808≤n→n≤9223372036854775807→∀(w:World),Lib.TabIs P w "internal/strconv.uint64pow10" .u64 Lib.pow10Tab→
  Calls P f #[.int .i64 n] w fun e w'=>e = .returned (.string ⟨(Lib.itoa n).toArray⟩)∧∃k os,w'=Sort.grow (w.drewN k) os
noncomputable def itoaC (g:Nat) (args:List AV) (H:Hp):Option (AV×Hp):=
 match args with
 | [.ui .i64 n]=>(match H.glob g with
   |some cs=>bif eqPow 0 cs&&Nat.beq cs.length 20 then some (.us (qitoa n),H)else none
   |none=>none)
 |_=>none
noncomputable def itoaO (args:List AV) (_:Hp):List Bool:=
 match args with
 | [.ui .i64 n]=>[qcmp .leq (-9223372036854775808) n,qcmp .leq n 9223372036854775807]
 |_=>[]
theorem allSc_pow:∀(cs:List AV) (i:Nat),eqPow i cs=true→allSc cs=true
 | [],_,_=>rfl
 |c::cs,i,h=>by
  simp only[eqPow,Bool.and_eq_true]at h
  rw[powC_eq h.1]
  exact allSc_pow cs (i+1) h.2
theorem itoaC_ok {f g:Nat} (hC:ItoaSaid P f) (hg:P.globalNamed "internal/strconv.uint64pow10" = some g) (args:List AV) (H:Hp) (v:AV) (H':Hp) (h:itoaC g args H=some (v,H')) (ho:allB (itoaO args H)=true):Ok P f args H v H':=by
 unfold itoaC at h
 split at h
 case h_2=>cases h
 case h_1 n=>
  split at h
  case h_2=>cases h
  case h_1 cs hgl=>
   cases hb:(eqPow 0 cs&&Nat.beq cs.length 20)with
   |false=>rw[hb]at h;cases h
   |true=>
    rw[hb]at h
    cases h
    simp only[Bool.and_eq_true]at hb
    have hlen:=Nat.eq_of_beq_eq_true hb.2
    have o1:=allB_mem ho (qcmp .leq (-9223372036854775808) n) (by simp[itoaO])
    have o2:=allB_mem ho (qcmp .leq n 9223372036854775807) (by simp[itoaO])
    rw[qcmp_eq]at o1 o2
    simp only[rcmp,decide_eq_true_eq]at o1 o2
    refine ok_of_belowV fun lo w0 ρ E w vs inv ra=> ?_
    generalize hvs:vs.toList=l at ra
    simp only[RepL]at ra
    obtain⟨u1,l1,rfl,r1,rfl⟩:=ra
    simp only[Rep]at r1
    subst r1
    have hv:vs = #[.int .i64 n]:=by rw[← Array.toList_inj,hvs]
    obtain⟨_,hat,hall⟩:=inv.gl g _ hgl
    obtain⟨c,T,fz,hc,hsz⟩:=hall (allSc_pow cs 0 hb.1)
    have htab:Lib.TabIs P w "internal/strconv.uint64pow10" .u64 Lib.pow10Tab:=by
     unfold Lib.TabIs World.var?
     simp only[hg,Option.bind_some,hc,Option.some.injEq]
     rw[← Array.toList_inj]
     apply List.ext_getElem?
     intro i
     simp only[Array.getElem?_toList,Lib.pow10Tab,List.map_map,List.getElem?_map]
     have hcs:=eqPow_eq cs 0 hb.1
     rw[hlen]at hcs hsz
     by_cases hi:i<20
     ·have hx:cs[i]? = some (.sc (.int .u64 (10^i:Nat))):=by
       rw[hcs,List.getElem?_map,List.getElem?_range hi];simp
      obtain⟨u,hu,hr⟩:=hat.each i _ hx
      simp only[Rep]at hr
      subst hr
      simp only[World.cell?,hc,Nat.zero_add]at hu
      rw[List.getElem?_range hi]
      simpa using hu
     ·rw[Array.getElem?_eq_none (by omega),List.getElem?_eq_none (by simpa using hi)];rfl
    rw[hv]
    refine(hC n o1 o2 w htab).mono ?_
    rintro e w' ⟨rfl,k,os,rfl⟩
    refine⟨_,rfl,below_grow w k os,?_⟩
    simp only[Rep,qitoa,veil_eq]
def CutSaid (P:Program) (f g:Nat):Prop:=
 ∀(s sep:ByteArray) (m:Int) (w:World),s.size<4294967281→w.cell? ⟨g,0,none⟩=some (.int .i64 m)→
  Calls P f #[.string s, .string sep] w fun e w'=>e = .returned (.tuple #[.string ⟨(Lib.cut s.data.toList sep.data.toList).1.toArray⟩, .string ⟨(Lib.cut s.data.toList sep.data.toList).2.1.toArray⟩, .bool (Lib.cut s.data.toList sep.data.toList).2.2])∧∃n,w'=w.drewN n
def isAnyG:Option (List AV)→Bool
 |some [.anyI .i64]=>true
 |_=>false
noncomputable def cutC (g:Nat) (args:List AV) (H:Hp):Option (AV×Hp):=
 match args with
 | [.us s, .sc (.string t)]=>bif isAnyG (H.glob g)then some (.tup [.us (qcutA s t), .us (qcutB s t), .ub (qcutOk s t)],H)else none
 |_=>none
noncomputable def sizeO (args:List AV) (_:Hp):List Bool:=
 match args with
 | [.us s, .sc (.string _)]=>[qcmp .lss (qlenS s) 4294967281]
 | [.sc (.string _), .us _]=>[]
 |_=>[]
theorem any_cell {lo:Nat→Prop} {w0:World} {ρ:Nat→Option Nat} {E:Nat→Prop} {H:Hp} {w:World} (inv:Inv lo w0 ρ E H w) {g:Nat} (h:isAnyG (H.glob g)=true):∃m,w.cell? ⟨g,0,none⟩=some (.int .i64 m):=by
 unfold isAnyG at h
 split at h
 ·rename_i hg
  have hr:=(inv.gl g _ hg).2.1
  simp only[RepAt,Rep]at hr
  obtain⟨⟨u,hu,n,rfl⟩,_⟩:=hr
  exact⟨n,hu⟩
 ·cases h
theorem sizeO_lt {s t:ByteArray} {H:Hp} (ho:allB (sizeO [.us s, .sc (.string t)] H)=true):s.size<4294967281:=by
 have o1:=allB_mem ho (qcmp .lss (qlenS s) 4294967281) (by simp[sizeO])
 rw[qcmp_eq,qlenS_eq]at o1
 simp only[rcmp,decide_eq_true_eq]at o1
 omega
theorem cutC_ok {f g:Nat} (hC:CutSaid P f g) (args:List AV) (H:Hp) (v:AV) (H':Hp) (h:cutC g args H=some (v,H')) (ho:allB (sizeO args H)=true):Ok P f args H v H':=by
 unfold cutC at h
 split at h
 case h_2=>cases h
 case h_1 s t=>
  cases hb:isAnyG (H.glob g)with
  |false=>rw[hb]at h;cases h
  |true=>
   rw[hb]at h
   cases h
   refine ok_of_belowV fun lo w0 ρ E w vs inv ra=> ?_
   generalize hvs:vs.toList=l at ra
   simp only[RepL]at ra
   obtain⟨u1,l1,rfl,r1,u2,l2,rfl,r2,rfl⟩:=ra
   simp only[Rep]at r1 r2
   subst r1 r2
   have hv:vs = #[.string s, .string t]:=by rw[← Array.toList_inj,hvs]
   obtain⟨m,hm⟩:=any_cell inv hb
   rw[hv]
   refine(hC s t m w (sizeO_lt ho) hm).mono ?_
   rintro e w' ⟨rfl,n,rfl⟩
   refine⟨_,rfl,bl_drewN w n,?_⟩
   simp only[Rep]
   exact⟨_,rfl,RepL.cons (by simp only[Rep,qcutA,veil_eq]) (RepL.cons (by simp only[Rep,qcutB,veil_eq]) (RepL.cons (by simp only[Rep,qcutOk,veil_eq]) RepL.nil))⟩
noncomputable def idxU (g:Nat) (args:List AV) (H:Hp):Option (AV×Hp):=
 match args with
 | [.us s, .sc (.string t)]=>bif isAnyG (H.glob g)then some (.ui .i64 (qidxT s t),H)else none
 | [.sc (.string s), .us t]=>bif isAnyG (H.glob g)&&Nat.ble s.size 1048576 then some (.ui .i64 (qidxT s t),H)else none
 |args=>idxC g args H
theorem idxU_ok {f g:Nat} (hC:IndexSaid P f g) (args:List AV) (H:Hp) (v:AV) (H':Hp) (h:idxU g args H=some (v,H')) (ho:allB (sizeO args H)=true):Ok P f args H v H':=by
 have core:∀(a b:AV) (s t:ByteArray),s.size<4294967281→isAnyG (H.glob g)=true→(∀ρ E w u,Rep ρ E w a u→u = .string s)→(∀ρ E w u,Rep ρ E w b u→u = .string t)→Ok P f [a,b] H (.ui .i64 (qidxT s t)) H:=by
  intro a b s t hs hb ha hbb
  refine ok_of_belowV fun lo w0 ρ E w vs inv ra=> ?_
  generalize hvs:vs.toList=l at ra
  simp only[RepL]at ra
  obtain⟨u1,l1,rfl,r1,u2,l2,rfl,r2,rfl⟩:=ra
  obtain rfl:=ha _ _ _ _ r1
  obtain rfl:=hbb _ _ _ _ r2
  have hv:vs = #[.string s, .string t]:=by rw[← Array.toList_inj,hvs]
  obtain⟨m,hm⟩:=any_cell inv hb
  rw[hv]
  refine(hC s t m w hs hm).mono ?_
  rintro e w' ⟨rfl,rfl⟩
  exact⟨_,rfl,RowKit.Below.refl _ _,by simp only[Rep,qidxT,veil_eq]⟩
 unfold idxU at h
 split at h
 ·rename_i s t
  cases hb:isAnyG (H.glob g)with
  |false=>rw[hb]at h;cases h
  |true=>
   rw[hb]at h
   cases h
   exact core _ _ s t (sizeO_lt ho) hb (fun ρ E w u r=>by simpa only[Rep]using r) (fun ρ E w u r=>by simpa only[Rep]using r)
 ·rename_i s t
  cases hb:(isAnyG (H.glob g)&&Nat.ble s.size 1048576)with
  |false=>rw[hb]at h;cases h
  |true=>
   rw[hb]at h
   cases h
   simp only[Bool.and_eq_true,Nat.ble_eq]at hb
   exact core _ _ s t (by omega) hb.1 (fun ρ E w u r=>by simpa only[Rep]using r) (fun ρ E w u r=>by simpa only[Rep]using r)
 ·exact idxC_ok hC _ H v H' h
def SplitSaid (P:Program) (f g T:Nat):Prop:=
 ∀(s sep:ByteArray) (m:Int) (w:World),s.size<4294967281→w.cell? ⟨g,0,none⟩=some (.int .i64 m)→1≤sep.size→
  Calls P f #[.string s, .string sep] w fun e w'=>
   e = .returned (.slice (some ⟨w.heap.size,0,none⟩) (Lib.countB s sep+1) (Lib.countB s sep+1))∧w'=w.alloc (.cells ((Lib.splitB sep 0 (Lib.countB s sep) s).map Value.string).toArray T)
noncomputable def splitC (g T:Nat) (args:List AV) (H:Hp):Option (AV×Hp):=
 match args with
 | [.us s, .sc (.string t)]=>bif isAnyG (H.glob g)&&Nat.ble 1 t.size&&Nat.beq (PG.cellsOf T) 1 then some (.rows T (qsplit s t),H)else none
 |_=>none
theorem alloc_get (w:World) (o:Obj):(w.alloc o).heap[w.heap.size]? = some o:=by show(w.heap.push o)[w.heap.size]? = some o;simp
theorem splitC_ok {f g T:Nat} (hC:SplitSaid P f g T) (hT:PG.underlying T=some .string) (args:List AV) (H:Hp) (v:AV) (H':Hp) (h:splitC g T args H=some (v,H')) (ho:allB (sizeO args H)=true):Ok P f args H v H':=by
 unfold splitC at h
 split at h
 case h_2=>cases h
 case h_1 s t=>
  cases hb:(isAnyG (H.glob g)&&Nat.ble 1 t.size&&Nat.beq (PG.cellsOf T) 1)with
  |false=>rw[hb]at h;cases h
  |true=>
   rw[hb]at h
   cases h
   simp only[Bool.and_eq_true,Nat.ble_eq]at hb
   have hz:=Nat.eq_of_beq_eq_true hb.2
   refine ok_of_belowV fun lo w0 ρ E w vs inv ra=> ?_
   generalize hvs:vs.toList=l at ra
   simp only[RepL]at ra
   obtain⟨u1,l1,rfl,r1,u2,l2,rfl,r2,rfl⟩:=ra
   simp only[Rep]at r1 r2
   subst r1 r2
   have hv:vs = #[.string s, .string t]:=by rw[← Array.toList_inj,hvs]
   obtain⟨m,hm⟩:=any_cell inv hb.1.1
   rw[hv]
   refine(hC s t m w (sizeO_lt ho) hm hb.1.2).mono ?_
   rintro e w' ⟨rfl,rfl⟩
   have hlen:=Lib.splitB_all t hb.1.2 0 _ s rfl
   refine⟨_,rfl,(RowKit.Below.refl _ w).alloc (Nat.le_refl _) _,?_⟩
   have hd:(qsplit s t).toList=(Lib.splitB t 0 (Lib.countB s t) s).map D.str:=by simp only[qsplit,veil_eq,D.toList]
   have hdl:(qsplit s t).toList.length=Lib.countB s t+1:=by rw[hd,List.length_map,hlen]
   simp only[Rep]
   refine⟨some ⟨w.heap.size,0,none⟩,Lib.countB s t+1,by rw[hdl],by rw[hdl];exact Nat.le_refl _, .inr ⟨w.heap.size,0,rfl, .inr ⟨Nat.le_refl _,by show w.heap.size<(w.heap.push _).size;simp⟩,fun i x hx=> ?_⟩⟩
   rw[hd,List.getElem?_map]at hx
   obtain⟨y,hy,rfl⟩:=Option.map_eq_some_iff.1 hx
   refine⟨[.string y],by rw[hz];rfl,fun j u hu=> ?_, .str hT⟩
   cases j with
   |succ j=>simp at hu
   |zero=>
    simp only[List.getElem?_cons_zero,Option.some.injEq]at hu
    subst hu
    simp only[World.cell?,alloc_get,hz,Nat.mul_one,Nat.zero_add,Nat.add_zero]
    rw[List.getElem?_toArray,List.getElem?_map,hy];rfl
end
end Go.AM
namespace Go.Proofs.YtobhhfbdelnhfaaDoor
open Go Go.AM
set_option maxRecDepth 100000
theorem itoaSaid:ItoaSaid Tryd.prog 16:=fun n h0 h1 w ht=>Tryd.strconv_Itoa n h0 h1 w ht
theorem indexSaid:IndexSaid Tryd.prog 78 1:=fun s sub m w hs hm=>Tryd.stringslite_Index s sub m w hs hm
theorem cutSaid:CutSaid Tryd.prog 41 1:=fun s sub m w hs hm=>Tryd.strings_Cut s sub m w hs hm
theorem splitSaid:SplitSaid Tryd.prog 39 1 9:=fun s sub m w hs hm h1=>Tryd.strings_Split s sub m w hs hm h1
noncomputable def tbS:Tb:=(((Tb.nil.add 16 (itoaC 0) itoaO).add 78 (idxU 1) sizeO).add 41 (cutC 1) sizeO).add 39 (splitC 1 9) sizeO
theorem ok_tbS:TbOk env tbS:=
 (((TbOk.nil.add (by kernel_rfl) fun args H v H' h ho=>itoaC_ok itoaSaid (by kernel_rfl) args H v H' h ho).add (by kernel_rfl) fun args H v H' h ho=>idxU_ok indexSaid args H v H' h ho).add (by kernel_rfl) fun args H v H' h ho=>cutC_ok cutSaid args H v H' h ho).add (by kernel_rfl) fun args H v H' h ho=>splitC_ok splitSaid (by unfold PG;exact Tryd.underlying9) args H v H' h ho
end Go.Proofs.YtobhhfbdelnhfaaDoor
open Go Go.AM
namespace Go.Proofs.YtobhhfbdelnhfaaDoor
set_option maxRecDepth 100000
set_option linter.unusedSimpArgs false
set_option linter.unusedVariables false
def S54:FunS:=⟨[⟨true,(.dat 24)⟩],[],[⟨true,(.tup [(.int .u8),(.int .i64), .bool])⟩],[]⟩
noncomputable def F54:List D→Option (List D):=liftX env tbS 60 12 54 S54
theorem F54_eq (sd0:D):F54 [sd0] =
 bif (qand (qcmp BinOp.eql (qint (qfld sd0 2)) 16) (qcmp BinOp.eql (qint (qfld sd0 4)) 4))then
 some [(D.int 80),(D.int 5),(D.bool Bool.true)]
 else
 bif (qand (qcmp BinOp.eql (qint (qfld sd0 2)) 16) (qcmp BinOp.eql (qint (qfld sd0 4)) 1))then
 some [(D.int 81),(D.int 5),(D.bool Bool.true)]
 else
 bif (qand (qcmp BinOp.eql (qint (qfld sd0 2)) 17) (qcmp BinOp.eql (qint (qfld sd0 4)) 1))then
 some [(D.int 82),(D.int 5),(D.bool Bool.true)]
 else
 bif (qand (qcmp BinOp.eql (qint (qfld sd0 2)) 16) (qcmp BinOp.eql (qint (qfld sd0 4)) 2))then
 some [(D.int 83),(D.int 5),(D.bool Bool.true)]
 else
 bif (qand (qcmp BinOp.eql (qint (qfld sd0 2)) 17) (qcmp BinOp.eql (qint (qfld sd0 4)) 2))then
 some [(D.int 84),(D.int 5),(D.bool Bool.true)]
 else
 bif (qand (qcmp BinOp.eql (qint (qfld sd0 2)) 18) (qcmp BinOp.eql (qint (qfld sd0 4)) 4))then
 some [(D.int 85),(D.int 5),(D.bool Bool.true)]
 else
 bif (qand (qcmp BinOp.eql (qint (qfld sd0 2)) 18) (qcmp BinOp.eql (qint (qfld sd0 4)) 1))then
 some [(D.int 86),(D.int 5),(D.bool Bool.true)]
 else
 bif (qand (qcmp BinOp.eql (qint (qfld sd0 2)) 18) (qcmp BinOp.eql (qint (qfld sd0 4)) 2))then
 some [(D.int 87),(D.int 5),(D.bool Bool.true)]
 else
 some [(D.int 0),(D.int 5),(D.bool Bool.false)]:=by kernel_rfl
noncomputable def q54:List D→Option (List D):=veil (F54)
theorem q54_eq:q54=F54:=veil_eq _
noncomputable def tb54:Tb:=Tb.addF tbS 54 S54 (q54)
theorem ok_tb54:TbOk env (tb54):=addFunF ok_tbS 54 (by kernel_rfl) _ (q54_eq)
def S55:FunS:=⟨[⟨true,(.dat 24)⟩],[],[⟨true,(.tup [(.int .u8),(.int .i64), .bool])⟩],[]⟩
noncomputable def F55:List D→Option (List D):=liftX env tb54 60 12 55 S55
theorem F55_eq (sd0:D):F55 [sd0] =
 bif (qiteB (qcmp BinOp.lss (qint (qfld sd0 5)) 0) Bool.true (qcmp BinOp.gtr (qint (qfld sd0 5)) 14))then
 some [(D.int 0),(D.int 0),(D.bool Bool.false)]
 else
 bif (qcmp BinOp.eql (qint (qfld sd0 2)) 25)then
 some [(D.int (qbin BinOp.add IntKind.u8 144 (qwrap IntKind.u8 (qint (qfld sd0 5))))),(D.int 2),(D.bool Bool.true)]
 else
 bif (qcmp BinOp.eql (qint (qfld sd0 3)) 1)then
 some [(D.int (qbin BinOp.add IntKind.u8 96 (qwrap IntKind.u8 (qint (qfld sd0 5))))),(D.int 7),(D.bool Bool.true)]
 else
 bif (qcmp BinOp.eql (qint (qfld sd0 3)) 2)then
 some [(D.int (qbin BinOp.add IntKind.u8 112 (qwrap IntKind.u8 (qint (qfld sd0 5))))),(D.int 8),(D.bool Bool.true)]
 else
 some [(D.int 0),(D.int 0),(D.bool Bool.false)]:=by kernel_rfl
noncomputable def q55:List D→Option (List D):=veil (F55)
theorem q55_eq:q55=F55:=veil_eq _
noncomputable def tb55:Tb:=Tb.addF tb54 55 S55 (q55)
theorem ok_tb55:TbOk env (tb55):=addFunF ok_tb54 55 (by kernel_rfl) _ (q55_eq)
def S35:FunS:=⟨[⟨true,(.dat 24)⟩],[],[⟨true,(.tup [(.int .u8),(.int .i64), .bool])⟩],[]⟩
noncomputable def F35:List D→Option (List D):=liftX env tb55 60 12 35 S35
theorem F35_eq (sd0:D):F35 [sd0] =
 bif (qiteB (qcmp BinOp.eql (qint (qfld sd0 2)) 0) (qcmp BinOp.eql (qint (qfld sd0 2)) 0) (qiteB (qcmp BinOp.eql (qint (qfld sd0 2)) 1) (qcmp BinOp.eql (qint (qfld sd0 2)) 1) (qcmp BinOp.eql (qint (qfld sd0 2)) 2)))then
 some [(D.int (qwrap IntKind.u8 (qint (qfld sd0 2)))),(D.int 0),(D.bool Bool.true)]
 else
 bif (qcmp BinOp.eql (qint (qfld sd0 2)) 3)then
 some [(D.int (qbin BinOp.add IntKind.u8 8 (qwrap IntKind.u8 (qbin BinOp.and IntKind.i64 (qint (qfld sd0 6)) 7)))),(D.int 1),(D.bool Bool.true)]
 else
 bif (qcmp BinOp.eql (qint (qfld sd0 2)) 4)then
 some [(D.int (qbin BinOp.add IntKind.u8 16 (qwrap IntKind.u8 (qbin BinOp.and IntKind.i64 (qint (qfld sd0 6)) 7)))),(D.int 1),(D.bool Bool.true)]
 else
 bif (qiteB (qcmp BinOp.geq (qint (qfld sd0 2)) 5) (qcmp BinOp.leq (qint (qfld sd0 2)) 15) Bool.false)then
 bif (qcmp BinOp.eql (qint (qfld sd0 3)) 0)then
 some [(D.int (qbin BinOp.add IntKind.u8 32 (qwrap IntKind.u8 (qbin BinOp.sub IntKind.i64 (qint (qfld sd0 2)) 5)))),(D.int 3),(D.bool Bool.true)]
 else
 bif (qcmp BinOp.eql (qint (qfld sd0 3)) 1)then
 some [(D.int (qbin BinOp.add IntKind.u8 48 (qwrap IntKind.u8 (qbin BinOp.sub IntKind.i64 (qint (qfld sd0 2)) 5)))),(D.int 4),(D.bool Bool.true)]
 else
 bif (qcmp BinOp.eql (qint (qfld sd0 3)) 2)then
 some [(D.int (qbin BinOp.add IntKind.u8 64 (qwrap IntKind.u8 (qbin BinOp.sub IntKind.i64 (qint (qfld sd0 2)) 5)))),(D.int 6),(D.bool Bool.true)]
 else
 some [(D.int 0),(D.int 0),(D.bool Bool.false)]
 else
 bif (qiteB (qcmp BinOp.eql (qint (qfld sd0 2)) 16) (qcmp BinOp.eql (qint (qfld sd0 2)) 16) (qiteB (qcmp BinOp.eql (qint (qfld sd0 2)) 17) (qcmp BinOp.eql (qint (qfld sd0 2)) 17) (qcmp BinOp.eql (qint (qfld sd0 2)) 18)))then
 bif (qsome (q54 [sd0]))then
 some [(D.int (qint (qnth (q54 [sd0]) 0))),(D.int (qint (qnth (q54 [sd0]) 1))),(D.bool (qbool (qnth (q54 [sd0]) 2)))]
 else
 none
 else
 bif (qcmp BinOp.eql (qint (qfld sd0 2)) 19)then
 some [(D.int 90),(D.int 5),(D.bool Bool.true)]
 else
 bif (qiteB (qcmp BinOp.eql (qint (qfld sd0 2)) 20) Bool.true (qcmp BinOp.eql (qint (qfld sd0 2)) 25))then
 bif (qsome (q55 [sd0]))then
 some [(D.int (qint (qnth (q55 [sd0]) 0))),(D.int (qint (qnth (q55 [sd0]) 1))),(D.bool (qbool (qnth (q55 [sd0]) 2)))]
 else
 none
 else
 bif (qcmp BinOp.eql (qint (qfld sd0 2)) 23)then
 some [(D.int 128),(D.int 8),(D.bool Bool.true)]
 else
 bif (qcmp BinOp.eql (qint (qfld sd0 2)) 24)then
 some [(D.int 129),(D.int 2),(D.bool Bool.true)]
 else
 bif (qcmp BinOp.eql (qint (qfld sd0 2)) 21)then
 some [(D.int 130),(D.int 2),(D.bool Bool.true)]
 else
 bif (qcmp BinOp.eql (qint (qfld sd0 2)) 22)then
 some [(D.int 131),(D.int 6),(D.bool Bool.true)]
 else
 bif (qcmp BinOp.eql (qint (qfld sd0 2)) 26)then
 some [(D.int 160),(D.int 2),(D.bool Bool.true)]
 else
 bif (qcmp BinOp.eql (qint (qfld sd0 2)) 27)then
 some [(D.int 161),(D.int 2),(D.bool Bool.true)]
 else
 some [(D.int 0),(D.int 0),(D.bool Bool.false)]:=by kernel_rfl
noncomputable def q35:List D→Option (List D):=veil (F35)
theorem q35_eq:q35=F35:=veil_eq _
noncomputable def tb35:Tb:=Tb.addF tb55 35 S35 (q35)
theorem ok_tb35:TbOk env (tb35):=addFunF ok_tb55 35 (by kernel_rfl) _ (q35_eq)
def S37:FunS:=⟨[⟨true,(.dat 24)⟩,⟨true,(.int .i64)⟩],[],[⟨true,(.dat 24)⟩],[]⟩
noncomputable def F37:List D→Option (List D):=liftX env tb35 60 12 37 S37
theorem F37_eq (sd0:D) (sn1:Int):F37 [sd0,(D.int sn1)] =
 bif (qiteB (qcmp BinOp.eql sn1 1) (qcmp BinOp.eql sn1 1) (qcmp BinOp.eql sn1 2))then
 bif (qiteB (qcmp BinOp.geq (qint (qfld sd0 2)) 5) (qcmp BinOp.leq (qint (qfld sd0 2)) 15) Bool.false)then
 some [(D.agg [(D.int (qint (qfld sd0 0))),(D.int 0),(D.int (qint (qfld sd0 2))),(D.int (qint (qfld sd0 3))),(D.int 0),(D.int 0),(D.int (qint (qfld sd0 6))),(D.int 0),(D.int (qint (qfld sd0 8)))])]
 else
 bif (qiteB (qcmp BinOp.eql (qint (qfld sd0 2)) 16) (qcmp BinOp.eql (qint (qfld sd0 2)) 16) (qiteB (qcmp BinOp.eql (qint (qfld sd0 2)) 17) (qcmp BinOp.eql (qint (qfld sd0 2)) 17) (qcmp BinOp.eql (qint (qfld sd0 2)) 18)))then
 some [(D.agg [(D.int (qint (qfld sd0 0))),(D.int 0),(D.int (qint (qfld sd0 2))),(D.int 0),(D.int (qint (qfld sd0 4))),(D.int 0),(D.int (qint (qfld sd0 6))),(D.int 0),(D.int (qint (qfld sd0 8)))])]
 else
 bif (qcmp BinOp.eql (qint (qfld sd0 2)) 20)then
 some [(D.agg [(D.int (qint (qfld sd0 0))),(D.int 0),(D.int (qint (qfld sd0 2))),(D.int (qint (qfld sd0 3))),(D.int 0),(D.int (qint (qfld sd0 5))),(D.int (qint (qfld sd0 6))),(D.int 0),(D.int (qint (qfld sd0 8)))])]
 else
 bif (qcmp BinOp.eql (qint (qfld sd0 2)) 25)then
 some [(D.agg [(D.int (qint (qfld sd0 0))),(D.int 0),(D.int (qint (qfld sd0 2))),(D.int 0),(D.int 0),(D.int (qint (qfld sd0 5))),(D.int (qint (qfld sd0 6))),(D.int 0),(D.int (qint (qfld sd0 8)))])]
 else
 some [(D.agg [(D.int (qint (qfld sd0 0))),(D.int 0),(D.int (qint (qfld sd0 2))),(D.int 0),(D.int 0),(D.int 0),(D.int (qint (qfld sd0 6))),(D.int 0),(D.int (qint (qfld sd0 8)))])]
 else
 bif (qcmp BinOp.eql sn1 3)then
 bif (qiteB (qcmp BinOp.geq (qint (qfld sd0 2)) 5) (qcmp BinOp.leq (qint (qfld sd0 2)) 15) Bool.false)then
 some [(D.agg [(D.int (qint (qfld sd0 0))),(D.int 0),(D.int (qint (qfld sd0 2))),(D.int (qint (qfld sd0 3))),(D.int 0),(D.int 0),(D.int (qint (qfld sd0 6))),(D.int (qint (qfld sd0 7))),(D.int (qint (qfld sd0 8)))])]
 else
 bif (qiteB (qcmp BinOp.eql (qint (qfld sd0 2)) 16) (qcmp BinOp.eql (qint (qfld sd0 2)) 16) (qiteB (qcmp BinOp.eql (qint (qfld sd0 2)) 17) (qcmp BinOp.eql (qint (qfld sd0 2)) 17) (qcmp BinOp.eql (qint (qfld sd0 2)) 18)))then
 some [(D.agg [(D.int (qint (qfld sd0 0))),(D.int 0),(D.int (qint (qfld sd0 2))),(D.int 0),(D.int (qint (qfld sd0 4))),(D.int 0),(D.int (qint (qfld sd0 6))),(D.int (qint (qfld sd0 7))),(D.int (qint (qfld sd0 8)))])]
 else
 bif (qcmp BinOp.eql (qint (qfld sd0 2)) 20)then
 some [(D.agg [(D.int (qint (qfld sd0 0))),(D.int 0),(D.int (qint (qfld sd0 2))),(D.int (qint (qfld sd0 3))),(D.int 0),(D.int (qint (qfld sd0 5))),(D.int (qint (qfld sd0 6))),(D.int (qint (qfld sd0 7))),(D.int (qint (qfld sd0 8)))])]
 else
 bif (qcmp BinOp.eql (qint (qfld sd0 2)) 25)then
 some [(D.agg [(D.int (qint (qfld sd0 0))),(D.int 0),(D.int (qint (qfld sd0 2))),(D.int 0),(D.int 0),(D.int (qint (qfld sd0 5))),(D.int (qint (qfld sd0 6))),(D.int (qint (qfld sd0 7))),(D.int (qint (qfld sd0 8)))])]
 else
 some [(D.agg [(D.int (qint (qfld sd0 0))),(D.int 0),(D.int (qint (qfld sd0 2))),(D.int 0),(D.int 0),(D.int 0),(D.int (qint (qfld sd0 6))),(D.int (qint (qfld sd0 7))),(D.int (qint (qfld sd0 8)))])]
 else
 bif (qiteB (qcmp BinOp.eql sn1 4) (qcmp BinOp.eql sn1 4) (qcmp BinOp.eql sn1 6))then
 bif (qiteB (qcmp BinOp.geq (qint (qfld sd0 2)) 5) (qcmp BinOp.leq (qint (qfld sd0 2)) 15) Bool.false)then
 some [(D.agg [(D.int (qint (qfld sd0 0))),(D.int (qint (qfld sd0 1))),(D.int (qint (qfld sd0 2))),(D.int (qint (qfld sd0 3))),(D.int 0),(D.int 0),(D.int (qint (qfld sd0 6))),(D.int 0),(D.int (qint (qfld sd0 8)))])]
 else
 bif (qiteB (qcmp BinOp.eql (qint (qfld sd0 2)) 16) (qcmp BinOp.eql (qint (qfld sd0 2)) 16) (qiteB (qcmp BinOp.eql (qint (qfld sd0 2)) 17) (qcmp BinOp.eql (qint (qfld sd0 2)) 17) (qcmp BinOp.eql (qint (qfld sd0 2)) 18)))then
 some [(D.agg [(D.int (qint (qfld sd0 0))),(D.int (qint (qfld sd0 1))),(D.int (qint (qfld sd0 2))),(D.int 0),(D.int (qint (qfld sd0 4))),(D.int 0),(D.int (qint (qfld sd0 6))),(D.int 0),(D.int (qint (qfld sd0 8)))])]
 else
 bif (qcmp BinOp.eql (qint (qfld sd0 2)) 20)then
 some [(D.agg [(D.int (qint (qfld sd0 0))),(D.int (qint (qfld sd0 1))),(D.int (qint (qfld sd0 2))),(D.int (qint (qfld sd0 3))),(D.int 0),(D.int (qint (qfld sd0 5))),(D.int (qint (qfld sd0 6))),(D.int 0),(D.int (qint (qfld sd0 8)))])]
 else
 bif (qcmp BinOp.eql (qint (qfld sd0 2)) 25)then
 some [(D.agg [(D.int (qint (qfld sd0 0))),(D.int (qint (qfld sd0 1))),(D.int (qint (qfld sd0 2))),(D.int 0),(D.int 0),(D.int (qint (qfld sd0 5))),(D.int (qint (qfld sd0 6))),(D.int 0),(D.int (qint (qfld sd0 8)))])]
 else
 some [(D.agg [(D.int (qint (qfld sd0 0))),(D.int (qint (qfld sd0 1))),(D.int (qint (qfld sd0 2))),(D.int 0),(D.int 0),(D.int 0),(D.int (qint (qfld sd0 6))),(D.int 0),(D.int (qint (qfld sd0 8)))])]
 else
 bif (qcmp BinOp.eql sn1 5)then
 bif (qiteB (qcmp BinOp.geq (qint (qfld sd0 2)) 5) (qcmp BinOp.leq (qint (qfld sd0 2)) 15) Bool.false)then
 some [(D.agg [(D.int (qint (qfld sd0 0))),(D.int (qint (qfld sd0 1))),(D.int (qint (qfld sd0 2))),(D.int (qint (qfld sd0 3))),(D.int 0),(D.int 0),(D.int (qint (qfld sd0 6))),(D.int (qint (qfld sd0 7))),(D.int (qint (qfld sd0 8)))])]
 else
 bif (qiteB (qcmp BinOp.eql (qint (qfld sd0 2)) 16) (qcmp BinOp.eql (qint (qfld sd0 2)) 16) (qiteB (qcmp BinOp.eql (qint (qfld sd0 2)) 17) (qcmp BinOp.eql (qint (qfld sd0 2)) 17) (qcmp BinOp.eql (qint (qfld sd0 2)) 18)))then
 some [(D.agg [(D.int (qint (qfld sd0 0))),(D.int (qint (qfld sd0 1))),(D.int (qint (qfld sd0 2))),(D.int 0),(D.int (qint (qfld sd0 4))),(D.int 0),(D.int (qint (qfld sd0 6))),(D.int (qint (qfld sd0 7))),(D.int (qint (qfld sd0 8)))])]
 else
 bif (qcmp BinOp.eql (qint (qfld sd0 2)) 20)then
 some [(D.agg [(D.int (qint (qfld sd0 0))),(D.int (qint (qfld sd0 1))),(D.int (qint (qfld sd0 2))),(D.int (qint (qfld sd0 3))),(D.int 0),(D.int (qint (qfld sd0 5))),(D.int (qint (qfld sd0 6))),(D.int (qint (qfld sd0 7))),(D.int (qint (qfld sd0 8)))])]
 else
 bif (qcmp BinOp.eql (qint (qfld sd0 2)) 25)then
 some [(D.agg [(D.int (qint (qfld sd0 0))),(D.int (qint (qfld sd0 1))),(D.int (qint (qfld sd0 2))),(D.int 0),(D.int 0),(D.int (qint (qfld sd0 5))),(D.int (qint (qfld sd0 6))),(D.int (qint (qfld sd0 7))),(D.int (qint (qfld sd0 8)))])]
 else
 some [(D.agg [(D.int (qint (qfld sd0 0))),(D.int (qint (qfld sd0 1))),(D.int (qint (qfld sd0 2))),(D.int 0),(D.int 0),(D.int 0),(D.int (qint (qfld sd0 6))),(D.int (qint (qfld sd0 7))),(D.int (qint (qfld sd0 8)))])]
 else
 bif (qiteB (qcmp BinOp.eql sn1 7) (qcmp BinOp.eql sn1 7) (qcmp BinOp.eql sn1 8))then
 bif (qiteB (qcmp BinOp.geq (qint (qfld sd0 2)) 5) (qcmp BinOp.leq (qint (qfld sd0 2)) 15) Bool.false)then
 some [(D.agg [(D.int (qint (qfld sd0 0))),(D.int (qint (qfld sd0 1))),(D.int (qint (qfld sd0 2))),(D.int (qint (qfld sd0 3))),(D.int 0),(D.int 0),(D.int 0),(D.int 0),(D.int (qint (qfld sd0 8)))])]
 else
 bif (qiteB (qcmp BinOp.eql (qint (qfld sd0 2)) 16) (qcmp BinOp.eql (qint (qfld sd0 2)) 16) (qiteB (qcmp BinOp.eql (qint (qfld sd0 2)) 17) (qcmp BinOp.eql (qint (qfld sd0 2)) 17) (qcmp BinOp.eql (qint (qfld sd0 2)) 18)))then
 some [(D.agg [(D.int (qint (qfld sd0 0))),(D.int (qint (qfld sd0 1))),(D.int (qint (qfld sd0 2))),(D.int 0),(D.int (qint (qfld sd0 4))),(D.int 0),(D.int 0),(D.int 0),(D.int (qint (qfld sd0 8)))])]
 else
 bif (qcmp BinOp.eql (qint (qfld sd0 2)) 20)then
 some [(D.agg [(D.int (qint (qfld sd0 0))),(D.int (qint (qfld sd0 1))),(D.int (qint (qfld sd0 2))),(D.int (qint (qfld sd0 3))),(D.int 0),(D.int (qint (qfld sd0 5))),(D.int 0),(D.int 0),(D.int (qint (qfld sd0 8)))])]
 else
 bif (qcmp BinOp.eql (qint (qfld sd0 2)) 25)then
 some [(D.agg [(D.int (qint (qfld sd0 0))),(D.int (qint (qfld sd0 1))),(D.int (qint (qfld sd0 2))),(D.int 0),(D.int 0),(D.int (qint (qfld sd0 5))),(D.int 0),(D.int 0),(D.int (qint (qfld sd0 8)))])]
 else
 some [(D.agg [(D.int (qint (qfld sd0 0))),(D.int (qint (qfld sd0 1))),(D.int (qint (qfld sd0 2))),(D.int 0),(D.int 0),(D.int 0),(D.int 0),(D.int 0),(D.int (qint (qfld sd0 8)))])]
 else
 bif (qiteB (qcmp BinOp.geq (qint (qfld sd0 2)) 5) (qcmp BinOp.leq (qint (qfld sd0 2)) 15) Bool.false)then
 some [(D.agg [(D.int (qint (qfld sd0 0))),(D.int 0),(D.int (qint (qfld sd0 2))),(D.int (qint (qfld sd0 3))),(D.int 0),(D.int 0),(D.int 0),(D.int 0),(D.int (qint (qfld sd0 8)))])]
 else
 bif (qiteB (qcmp BinOp.eql (qint (qfld sd0 2)) 16) (qcmp BinOp.eql (qint (qfld sd0 2)) 16) (qiteB (qcmp BinOp.eql (qint (qfld sd0 2)) 17) (qcmp BinOp.eql (qint (qfld sd0 2)) 17) (qcmp BinOp.eql (qint (qfld sd0 2)) 18)))then
 some [(D.agg [(D.int (qint (qfld sd0 0))),(D.int 0),(D.int (qint (qfld sd0 2))),(D.int 0),(D.int (qint (qfld sd0 4))),(D.int 0),(D.int 0),(D.int 0),(D.int (qint (qfld sd0 8)))])]
 else
 bif (qcmp BinOp.eql (qint (qfld sd0 2)) 20)then
 some [(D.agg [(D.int (qint (qfld sd0 0))),(D.int 0),(D.int (qint (qfld sd0 2))),(D.int (qint (qfld sd0 3))),(D.int 0),(D.int (qint (qfld sd0 5))),(D.int 0),(D.int 0),(D.int (qint (qfld sd0 8)))])]
 else
 bif (qcmp BinOp.eql (qint (qfld sd0 2)) 25)then
 some [(D.agg [(D.int (qint (qfld sd0 0))),(D.int 0),(D.int (qint (qfld sd0 2))),(D.int 0),(D.int 0),(D.int (qint (qfld sd0 5))),(D.int 0),(D.int 0),(D.int (qint (qfld sd0 8)))])]
 else
 some [(D.agg [(D.int (qint (qfld sd0 0))),(D.int 0),(D.int (qint (qfld sd0 2))),(D.int 0),(D.int 0),(D.int 0),(D.int 0),(D.int 0),(D.int (qint (qfld sd0 8)))])]:=by kernel_rfl
noncomputable def q37:List D→Option (List D):=veil (F37)
theorem q37_eq:q37=F37:=veil_eq _
noncomputable def tb37:Tb:=Tb.addF tb35 37 S37 (q37)
theorem ok_tb37:TbOk env (tb37):=addFunF ok_tb35 37 (by kernel_rfl) _ (q37_eq)
def S22:FunS:=⟨[⟨true,(.dat 24)⟩],[],[⟨true,(.tup [(.int .u8),(.int .i64),(.int .i64)])⟩],[]⟩
noncomputable def F22:List D→Option (List D):=liftX env tb37 60 12 22 S22
theorem F22_eq (sd0:D):F22 [sd0] =
 bif (qsome (q35 [sd0]))then
 bif (qnot (qbool (qnth (q35 [sd0]) 2)))then
 some [(D.int 0),(D.int 0),(D.int 2)]
 else
 bif (qnot (qiteB (qcmp BinOp.geq (qint (qfld sd0 6)) 0) (qcmp BinOp.lss (qint (qfld sd0 6)) 8) Bool.false))then
 some [(D.int 0),(D.int 0),(D.int 2)]
 else
 bif (qnot (qiteB (qcmp BinOp.geq (qint (qfld sd0 7)) 0) (qcmp BinOp.lss (qint (qfld sd0 7)) 8) Bool.false))then
 some [(D.int 0),(D.int 0),(D.int 2)]
 else
 bif (qsome (q37 [sd0,(D.int (qint (qnth (q35 [sd0]) 1)))]))then
 bif (qnot (qand (qcmp BinOp.eql (qint (qfld (qnth (q37 [sd0,(D.int (qint (qnth (q35 [sd0]) 1)))]) 0) 0)) (qint (qfld sd0 0))) (qand (qcmp BinOp.eql (qint (qfld (qnth (q37 [sd0,(D.int (qint (qnth (q35 [sd0]) 1)))]) 0) 1)) (qint (qfld sd0 1))) (qand (qcmp BinOp.eql (qint (qfld (qnth (q37 [sd0,(D.int (qint (qnth (q35 [sd0]) 1)))]) 0) 2)) (qint (qfld sd0 2))) (qand (qcmp BinOp.eql (qint (qfld (qnth (q37 [sd0,(D.int (qint (qnth (q35 [sd0]) 1)))]) 0) 3)) (qint (qfld sd0 3))) (qand (qcmp BinOp.eql (qint (qfld (qnth (q37 [sd0,(D.int (qint (qnth (q35 [sd0]) 1)))]) 0) 4)) (qint (qfld sd0 4))) (qand (qcmp BinOp.eql (qint (qfld (qnth (q37 [sd0,(D.int (qint (qnth (q35 [sd0]) 1)))]) 0) 5)) (qint (qfld sd0 5))) (qand (qcmp BinOp.eql (qint (qfld (qnth (q37 [sd0,(D.int (qint (qnth (q35 [sd0]) 1)))]) 0) 6)) (qint (qfld sd0 6))) (qand (qcmp BinOp.eql (qint (qfld (qnth (q37 [sd0,(D.int (qint (qnth (q35 [sd0]) 1)))]) 0) 7)) (qint (qfld sd0 7))) (qcmp BinOp.eql (qint (qfld (qnth (q37 [sd0,(D.int (qint (qnth (q35 [sd0]) 1)))]) 0) 8)) (qint (qfld sd0 8))))))))))))then
 some [(D.int 0),(D.int 0),(D.int 2)]
 else
 bif (qiteB (qiteB (qiteB (qcmp BinOp.eql (qint (qnth (q35 [sd0]) 1)) 4) Bool.true (qcmp BinOp.eql (qint (qnth (q35 [sd0]) 1)) 5)) (qnot (qiteB (qcmp BinOp.leq (qint (qfld sd0 1)) 127) Bool.true (qcmp BinOp.geq (qint (qfld sd0 1)) 4294967168))) Bool.false) Bool.true (qiteB (qcmp BinOp.eql (qint (qnth (q35 [sd0]) 1)) 7) (qnot (qiteB (qcmp BinOp.leq (qbin BinOp.sub IntKind.u32 (qbin BinOp.sub IntKind.u32 (qint (qfld sd0 1)) (qint (qfld sd0 0))) 2) 127) Bool.true (qcmp BinOp.geq (qbin BinOp.sub IntKind.u32 (qbin BinOp.sub IntKind.u32 (qint (qfld sd0 1)) (qint (qfld sd0 0))) 2) 4294967168))) Bool.false))then
 some [(D.int 0),(D.int 0),(D.int 7)]
 else
 some [(D.int (qint (qnth (q35 [sd0]) 0))),(D.int (qint (qnth (q35 [sd0]) 1))),(D.int 0)]
 else
 none
 else
 none:=by kernel_rfl
noncomputable def q22:List D→Option (List D):=veil (F22)
theorem q22_eq:q22=F22:=veil_eq _
noncomputable def tb22:Tb:=Tb.addF tb37 22 S22 (q22)
theorem ok_tb22:TbOk env (tb22):=addFunF ok_tb37 22 (by kernel_rfl) _ (q22_eq)
def S26:FunS:=⟨[⟨true,(.int .i64)⟩],[],[⟨true,(.int .i64)⟩],[]⟩
noncomputable def F26:List D→Option (List D):=liftX env tb22 60 12 26 S26
theorem F26_eq (sn0:Int):F26 [(D.int sn0)] =
 bif (qinbS (ByteArray.mk #[49,49,50,50,51,51,54,50,53]) sn0)then
 some [(D.int (qwrap IntKind.i64 (qbin BinOp.sub IntKind.u8 (qidxS (ByteArray.mk #[49,49,50,50,51,51,54,50,53]) sn0) 48)))]
 else
 none:=by kernel_rfl
noncomputable def q26:List D→Option (List D):=veil (F26)
theorem q26_eq:q26=F26:=veil_eq _
noncomputable def tb26:Tb:=Tb.addF tb22 26 S26 (q26)
theorem ok_tb26:TbOk env (tb26):=addFunF ok_tb22 26 (by kernel_rfl) _ (q26_eq)
def S7:FunS:=⟨[⟨true,(.dat 24)⟩],[],[⟨true, .bool⟩],[]⟩
noncomputable def F7:List D→Option (List D):=liftX env tb26 60 12 7 S7
theorem F7_eq (sd0:D):F7 [sd0] =
 bif (qsome (q22 [sd0]))then
 some [(D.bool (qcmp BinOp.eql (qint (qnth (q22 [sd0]) 2)) 0))]
 else
 none:=by kernel_rfl
noncomputable def q7:List D→Option (List D):=veil (F7)
theorem q7_eq:q7=F7:=veil_eq _
noncomputable def tb7:Tb:=Tb.addF tb26 7 S7 (q7)
theorem ok_tb7:TbOk env (tb7):=addFunF ok_tb26 7 (by kernel_rfl) _ (q7_eq)
def S10:FunS:=⟨[⟨true,(.dat 24)⟩],[],[⟨true,(.int .i64)⟩],[]⟩
noncomputable def F10:List D→Option (List D):=liftX env tb7 60 12 10 S10
theorem F10_eq (sd0:D):F10 [sd0] =
 bif (qsome (q22 [sd0]))then
 bif (qcmp BinOp.neq (qint (qnth (q22 [sd0]) 2)) 0)then
 some [(D.int 0)]
 else
 bif (qsome (q26 [(D.int (qint (qnth (q22 [sd0]) 1)))]))then
 some [(D.int (qint (qnth (q26 [(D.int (qint (qnth (q22 [sd0]) 1)))]) 0)))]
 else
 none
 else
 none:=by kernel_rfl
noncomputable def q10:List D→Option (List D):=veil (F10)
theorem q10_eq:q10=F10:=veil_eq _
noncomputable def tb10:Tb:=Tb.addF tb7 10 S10 (q10)
theorem ok_tb10:TbOk env (tb10):=addFunF ok_tb7 10 (by kernel_rfl) _ (q10_eq)
end Go.Proofs.YtobhhfbdelnhfaaDoor
open Go Go.AM
namespace Go.Proofs.YtobhhfbdelnhfaaDoor
set_option maxRecDepth 100000
set_option linter.unusedSimpArgs false
set_option linter.unusedVariables false
def S20:FunS:=⟨[⟨true,(.int .i64)⟩],[],[⟨true, .str⟩],[]⟩
noncomputable def F20:List D→Option (List D):=liftX env tb10 60 12 20 S20
theorem F20_eq (sn0:Int):F20 [(D.int sn0)] =
 bif (qcmp BinOp.leq 0 sn0)then
 bif (qcmp BinOp.lss sn0 15)then
 bif (qinb (D.list [(D.str (ByteArray.mk #[97,108])),(D.str (ByteArray.mk #[101,113])),(D.str (ByteArray.mk #[110,101])),(D.str (ByteArray.mk #[108,116])),(D.str (ByteArray.mk #[103,101])),(D.str (ByteArray.mk #[108,101])),(D.str (ByteArray.mk #[103,116])),(D.str (ByteArray.mk #[98])),(D.str (ByteArray.mk #[97,101])),(D.str (ByteArray.mk #[98,101])),(D.str (ByteArray.mk #[97])),(D.str (ByteArray.mk #[110,101,103])),(D.str (ByteArray.mk #[112,111,115])),(D.str (ByteArray.mk #[111,118])),(D.str (ByteArray.mk #[110,111]))]) sn0)then
 some [(D.str (qstr (qget (D.list [(D.str (ByteArray.mk #[97,108])),(D.str (ByteArray.mk #[101,113])),(D.str (ByteArray.mk #[110,101])),(D.str (ByteArray.mk #[108,116])),(D.str (ByteArray.mk #[103,101])),(D.str (ByteArray.mk #[108,101])),(D.str (ByteArray.mk #[103,116])),(D.str (ByteArray.mk #[98])),(D.str (ByteArray.mk #[97,101])),(D.str (ByteArray.mk #[98,101])),(D.str (ByteArray.mk #[97])),(D.str (ByteArray.mk #[110,101,103])),(D.str (ByteArray.mk #[112,111,115])),(D.str (ByteArray.mk #[111,118])),(D.str (ByteArray.mk #[110,111]))]) sn0)))]
 else
 none
 else
 none
 else
 none:=by kernel_rfl
noncomputable def q20:List D→Option (List D):=veil (F20)
theorem q20_eq:q20=F20:=veil_eq _
noncomputable def tb20:Tb:=Tb.addF tb10 20 S20 (q20)
theorem ok_tb20:TbOk env (tb20):=addFunF ok_tb10 20 (by kernel_rfl) _ (q20_eq)
def S34:FunS:=⟨[⟨true,(.int .i64)⟩],[],[⟨true, .str⟩],[]⟩
noncomputable def F34:List D→Option (List D):=liftX env tb20 60 12 34 S34
theorem F34_eq (sn0:Int):F34 [(D.int sn0)] =
 bif (qcmp BinOp.leq 0 (qbin BinOp.sub IntKind.i64 sn0 5))then
 bif (qcmp BinOp.lss (qbin BinOp.sub IntKind.i64 sn0 5) 11)then
 bif (qinb (D.list [(D.str (ByteArray.mk #[109,111,118])),(D.str (ByteArray.mk #[97,100,100])),(D.str (ByteArray.mk #[115,117,98])),(D.str (ByteArray.mk #[97,110,100])),(D.str (ByteArray.mk #[111,114])),(D.str (ByteArray.mk #[120,111,114])),(D.str (ByteArray.mk #[109,117,108])),(D.str (ByteArray.mk #[115,104,108])),(D.str (ByteArray.mk #[115,104,114])),(D.str (ByteArray.mk #[115,97,114])),(D.str (ByteArray.mk #[99,109,112]))]) (qbin BinOp.sub IntKind.i64 sn0 5))then
 some [(D.str (qstr (qget (D.list [(D.str (ByteArray.mk #[109,111,118])),(D.str (ByteArray.mk #[97,100,100])),(D.str (ByteArray.mk #[115,117,98])),(D.str (ByteArray.mk #[97,110,100])),(D.str (ByteArray.mk #[111,114])),(D.str (ByteArray.mk #[120,111,114])),(D.str (ByteArray.mk #[109,117,108])),(D.str (ByteArray.mk #[115,104,108])),(D.str (ByteArray.mk #[115,104,114])),(D.str (ByteArray.mk #[115,97,114])),(D.str (ByteArray.mk #[99,109,112]))]) (qbin BinOp.sub IntKind.i64 sn0 5))))]
 else
 none
 else
 none
 else
 none:=by kernel_rfl
noncomputable def q34:List D→Option (List D):=veil (F34)
theorem q34_eq:q34=F34:=veil_eq _
noncomputable def tb34:Tb:=Tb.addF tb20 34 S34 (q34)
theorem ok_tb34:TbOk env (tb34):=addFunF ok_tb20 34 (by kernel_rfl) _ (q34_eq)
def S19:FunS:=⟨[⟨true,(.int .u32)⟩],[],[⟨true, .str⟩],[]⟩
noncomputable def F19:List D→Option (List D):=liftX env tb34 9 12 19 S19
theorem F19_eq (sn0:Int):F19 [(D.int sn0)] =
 bif (qcmp BinOp.geq (qwrap IntKind.u64 sn0) 16)then
 bif (qinbS (ByteArray.mk #[48,49,50,51,52,53,54,55,56,57,97,98,99,100,101,102,103,104,105,106,107,108,109,110,111,112,113,114,115,116,117,118,119,120,121,122]) (qbin BinOp.and IntKind.u64 (qwrap IntKind.u64 sn0) 15))then
 bif (qcmp BinOp.geq (qbin BinOp.shr IntKind.u64 (qwrap IntKind.u64 sn0) 4) 16)then
 bif (qinbS (ByteArray.mk #[48,49,50,51,52,53,54,55,56,57,97,98,99,100,101,102,103,104,105,106,107,108,109,110,111,112,113,114,115,116,117,118,119,120,121,122]) (qbin BinOp.and IntKind.u64 (qbin BinOp.shr IntKind.u64 (qwrap IntKind.u64 sn0) 4) 15))then
 bif (qcmp BinOp.geq (qbin BinOp.shr IntKind.u64 (qbin BinOp.shr IntKind.u64 (qwrap IntKind.u64 sn0) 4) 4) 16)then
 bif (qinbS (ByteArray.mk #[48,49,50,51,52,53,54,55,56,57,97,98,99,100,101,102,103,104,105,106,107,108,109,110,111,112,113,114,115,116,117,118,119,120,121,122]) (qbin BinOp.and IntKind.u64 (qbin BinOp.shr IntKind.u64 (qbin BinOp.shr IntKind.u64 (qwrap IntKind.u64 sn0) 4) 4) 15))then
 bif (qcmp BinOp.geq (qbin BinOp.shr IntKind.u64 (qbin BinOp.shr IntKind.u64 (qbin BinOp.shr IntKind.u64 (qwrap IntKind.u64 sn0) 4) 4) 4) 16)then
 bif (qinbS (ByteArray.mk #[48,49,50,51,52,53,54,55,56,57,97,98,99,100,101,102,103,104,105,106,107,108,109,110,111,112,113,114,115,116,117,118,119,120,121,122]) (qbin BinOp.and IntKind.u64 (qbin BinOp.shr IntKind.u64 (qbin BinOp.shr IntKind.u64 (qbin BinOp.shr IntKind.u64 (qwrap IntKind.u64 sn0) 4) 4) 4) 15))then
 bif (qcmp BinOp.geq (qbin BinOp.shr IntKind.u64 (qbin BinOp.shr IntKind.u64 (qbin BinOp.shr IntKind.u64 (qbin BinOp.shr IntKind.u64 (qwrap IntKind.u64 sn0) 4) 4) 4) 4) 16)then
 bif (qinbS (ByteArray.mk #[48,49,50,51,52,53,54,55,56,57,97,98,99,100,101,102,103,104,105,106,107,108,109,110,111,112,113,114,115,116,117,118,119,120,121,122]) (qbin BinOp.and IntKind.u64 (qbin BinOp.shr IntKind.u64 (qbin BinOp.shr IntKind.u64 (qbin BinOp.shr IntKind.u64 (qbin BinOp.shr IntKind.u64 (qwrap IntKind.u64 sn0) 4) 4) 4) 4) 15))then
 bif (qcmp BinOp.geq (qbin BinOp.shr IntKind.u64 (qbin BinOp.shr IntKind.u64 (qbin BinOp.shr IntKind.u64 (qbin BinOp.shr IntKind.u64 (qbin BinOp.shr IntKind.u64 (qwrap IntKind.u64 sn0) 4) 4) 4) 4) 4) 16)then
 bif (qinbS (ByteArray.mk #[48,49,50,51,52,53,54,55,56,57,97,98,99,100,101,102,103,104,105,106,107,108,109,110,111,112,113,114,115,116,117,118,119,120,121,122]) (qbin BinOp.and IntKind.u64 (qbin BinOp.shr IntKind.u64 (qbin BinOp.shr IntKind.u64 (qbin BinOp.shr IntKind.u64 (qbin BinOp.shr IntKind.u64 (qbin BinOp.shr IntKind.u64 (qwrap IntKind.u64 sn0) 4) 4) 4) 4) 4) 15))then
 bif (qcmp BinOp.geq (qbin BinOp.shr IntKind.u64 (qbin BinOp.shr IntKind.u64 (qbin BinOp.shr IntKind.u64 (qbin BinOp.shr IntKind.u64 (qbin BinOp.shr IntKind.u64 (qbin BinOp.shr IntKind.u64 (qwrap IntKind.u64 sn0) 4) 4) 4) 4) 4) 4) 16)then
 bif (qinbS (ByteArray.mk #[48,49,50,51,52,53,54,55,56,57,97,98,99,100,101,102,103,104,105,106,107,108,109,110,111,112,113,114,115,116,117,118,119,120,121,122]) (qbin BinOp.and IntKind.u64 (qbin BinOp.shr IntKind.u64 (qbin BinOp.shr IntKind.u64 (qbin BinOp.shr IntKind.u64 (qbin BinOp.shr IntKind.u64 (qbin BinOp.shr IntKind.u64 (qbin BinOp.shr IntKind.u64 (qwrap IntKind.u64 sn0) 4) 4) 4) 4) 4) 4) 15))then
 bif (qcmp BinOp.geq (qbin BinOp.shr IntKind.u64 (qbin BinOp.shr IntKind.u64 (qbin BinOp.shr IntKind.u64 (qbin BinOp.shr IntKind.u64 (qbin BinOp.shr IntKind.u64 (qbin BinOp.shr IntKind.u64 (qbin BinOp.shr IntKind.u64 (qwrap IntKind.u64 sn0) 4) 4) 4) 4) 4) 4) 4) 16)then
 bif (qinbS (ByteArray.mk #[48,49,50,51,52,53,54,55,56,57,97,98,99,100,101,102,103,104,105,106,107,108,109,110,111,112,113,114,115,116,117,118,119,120,121,122]) (qbin BinOp.and IntKind.u64 (qbin BinOp.shr IntKind.u64 (qbin BinOp.shr IntKind.u64 (qbin BinOp.shr IntKind.u64 (qbin BinOp.shr IntKind.u64 (qbin BinOp.shr IntKind.u64 (qbin BinOp.shr IntKind.u64 (qbin BinOp.shr IntKind.u64 (qwrap IntKind.u64 sn0) 4) 4) 4) 4) 4) 4) 4) 15))then
 bif (qcmp BinOp.geq (qbin BinOp.shr IntKind.u64 (qbin BinOp.shr IntKind.u64 (qbin BinOp.shr IntKind.u64 (qbin BinOp.shr IntKind.u64 (qbin BinOp.shr IntKind.u64 (qbin BinOp.shr IntKind.u64 (qbin BinOp.shr IntKind.u64 (qbin BinOp.shr IntKind.u64 (qwrap IntKind.u64 sn0) 4) 4) 4) 4) 4) 4) 4) 4) 16)then
 bif (qinbS (ByteArray.mk #[48,49,50,51,52,53,54,55,56,57,97,98,99,100,101,102,103,104,105,106,107,108,109,110,111,112,113,114,115,116,117,118,119,120,121,122]) (qbin BinOp.and IntKind.u64 (qbin BinOp.shr IntKind.u64 (qbin BinOp.shr IntKind.u64 (qbin BinOp.shr IntKind.u64 (qbin BinOp.shr IntKind.u64 (qbin BinOp.shr IntKind.u64 (qbin BinOp.shr IntKind.u64 (qbin BinOp.shr IntKind.u64 (qbin BinOp.shr IntKind.u64 (qwrap IntKind.u64 sn0) 4) 4) 4) 4) 4) 4) 4) 4) 15))then
 none
 else
 none
 else
 bif (qinbS (ByteArray.mk #[48,49,50,51,52,53,54,55,56,57,97,98,99,100,101,102,103,104,105,106,107,108,109,110,111,112,113,114,115,116,117,118,119,120,121,122]) (qbin BinOp.shr IntKind.u64 (qbin BinOp.shr IntKind.u64 (qbin BinOp.shr IntKind.u64 (qbin BinOp.shr IntKind.u64 (qbin BinOp.shr IntKind.u64 (qbin BinOp.shr IntKind.u64 (qbin BinOp.shr IntKind.u64 (qbin BinOp.shr IntKind.u64 (qwrap IntKind.u64 sn0) 4) 4) 4) 4) 4) 4) 4) 4))then
 bif (qcatOk (ByteArray.mk #[48,120]) (qtext (D.list [(D.int (qidxS (ByteArray.mk #[48,49,50,51,52,53,54,55,56,57,97,98,99,100,101,102,103,104,105,106,107,108,109,110,111,112,113,114,115,116,117,118,119,120,121,122]) (qbin BinOp.shr IntKind.u64 (qbin BinOp.shr IntKind.u64 (qbin BinOp.shr IntKind.u64 (qbin BinOp.shr IntKind.u64 (qbin BinOp.shr IntKind.u64 (qbin BinOp.shr IntKind.u64 (qbin BinOp.shr IntKind.u64 (qbin BinOp.shr IntKind.u64 (qwrap IntKind.u64 sn0) 4) 4) 4) 4) 4) 4) 4) 4))),(D.int (qidxS (ByteArray.mk #[48,49,50,51,52,53,54,55,56,57,97,98,99,100,101,102,103,104,105,106,107,108,109,110,111,112,113,114,115,116,117,118,119,120,121,122]) (qbin BinOp.and IntKind.u64 (qbin BinOp.shr IntKind.u64 (qbin BinOp.shr IntKind.u64 (qbin BinOp.shr IntKind.u64 (qbin BinOp.shr IntKind.u64 (qbin BinOp.shr IntKind.u64 (qbin BinOp.shr IntKind.u64 (qbin BinOp.shr IntKind.u64 (qwrap IntKind.u64 sn0) 4) 4) 4) 4) 4) 4) 4) 15))),(D.int (qidxS (ByteArray.mk #[48,49,50,51,52,53,54,55,56,57,97,98,99,100,101,102,103,104,105,106,107,108,109,110,111,112,113,114,115,116,117,118,119,120,121,122]) (qbin BinOp.and IntKind.u64 (qbin BinOp.shr IntKind.u64 (qbin BinOp.shr IntKind.u64 (qbin BinOp.shr IntKind.u64 (qbin BinOp.shr IntKind.u64 (qbin BinOp.shr IntKind.u64 (qbin BinOp.shr IntKind.u64 (qwrap IntKind.u64 sn0) 4) 4) 4) 4) 4) 4) 15))),(D.int (qidxS (ByteArray.mk #[48,49,50,51,52,53,54,55,56,57,97,98,99,100,101,102,103,104,105,106,107,108,109,110,111,112,113,114,115,116,117,118,119,120,121,122]) (qbin BinOp.and IntKind.u64 (qbin BinOp.shr IntKind.u64 (qbin BinOp.shr IntKind.u64 (qbin BinOp.shr IntKind.u64 (qbin BinOp.shr IntKind.u64 (qbin BinOp.shr IntKind.u64 (qwrap IntKind.u64 sn0) 4) 4) 4) 4) 4) 15))),(D.int (qidxS (ByteArray.mk #[48,49,50,51,52,53,54,55,56,57,97,98,99,100,101,102,103,104,105,106,107,108,109,110,111,112,113,114,115,116,117,118,119,120,121,122]) (qbin BinOp.and IntKind.u64 (qbin BinOp.shr IntKind.u64 (qbin BinOp.shr IntKind.u64 (qbin BinOp.shr IntKind.u64 (qbin BinOp.shr IntKind.u64 (qwrap IntKind.u64 sn0) 4) 4) 4) 4) 15))),(D.int (qidxS (ByteArray.mk #[48,49,50,51,52,53,54,55,56,57,97,98,99,100,101,102,103,104,105,106,107,108,109,110,111,112,113,114,115,116,117,118,119,120,121,122]) (qbin BinOp.and IntKind.u64 (qbin BinOp.shr IntKind.u64 (qbin BinOp.shr IntKind.u64 (qbin BinOp.shr IntKind.u64 (qwrap IntKind.u64 sn0) 4) 4) 4) 15))),(D.int (qidxS (ByteArray.mk #[48,49,50,51,52,53,54,55,56,57,97,98,99,100,101,102,103,104,105,106,107,108,109,110,111,112,113,114,115,116,117,118,119,120,121,122]) (qbin BinOp.and IntKind.u64 (qbin BinOp.shr IntKind.u64 (qbin BinOp.shr IntKind.u64 (qwrap IntKind.u64 sn0) 4) 4) 15))),(D.int (qidxS (ByteArray.mk #[48,49,50,51,52,53,54,55,56,57,97,98,99,100,101,102,103,104,105,106,107,108,109,110,111,112,113,114,115,116,117,118,119,120,121,122]) (qbin BinOp.and IntKind.u64 (qbin BinOp.shr IntKind.u64 (qwrap IntKind.u64 sn0) 4) 15))),(D.int (qidxS (ByteArray.mk #[48,49,50,51,52,53,54,55,56,57,97,98,99,100,101,102,103,104,105,106,107,108,109,110,111,112,113,114,115,116,117,118,119,120,121,122]) (qbin BinOp.and IntKind.u64 (qwrap IntKind.u64 sn0) 15)))])))then
 some [(D.str (qcat (ByteArray.mk #[48,120]) (qtext (D.list [(D.int (qidxS (ByteArray.mk #[48,49,50,51,52,53,54,55,56,57,97,98,99,100,101,102,103,104,105,106,107,108,109,110,111,112,113,114,115,116,117,118,119,120,121,122]) (qbin BinOp.shr IntKind.u64 (qbin BinOp.shr IntKind.u64 (qbin BinOp.shr IntKind.u64 (qbin BinOp.shr IntKind.u64 (qbin BinOp.shr IntKind.u64 (qbin BinOp.shr IntKind.u64 (qbin BinOp.shr IntKind.u64 (qbin BinOp.shr IntKind.u64 (qwrap IntKind.u64 sn0) 4) 4) 4) 4) 4) 4) 4) 4))),(D.int (qidxS (ByteArray.mk #[48,49,50,51,52,53,54,55,56,57,97,98,99,100,101,102,103,104,105,106,107,108,109,110,111,112,113,114,115,116,117,118,119,120,121,122]) (qbin BinOp.and IntKind.u64 (qbin BinOp.shr IntKind.u64 (qbin BinOp.shr IntKind.u64 (qbin BinOp.shr IntKind.u64 (qbin BinOp.shr IntKind.u64 (qbin BinOp.shr IntKind.u64 (qbin BinOp.shr IntKind.u64 (qbin BinOp.shr IntKind.u64 (qwrap IntKind.u64 sn0) 4) 4) 4) 4) 4) 4) 4) 15))),(D.int (qidxS (ByteArray.mk #[48,49,50,51,52,53,54,55,56,57,97,98,99,100,101,102,103,104,105,106,107,108,109,110,111,112,113,114,115,116,117,118,119,120,121,122]) (qbin BinOp.and IntKind.u64 (qbin BinOp.shr IntKind.u64 (qbin BinOp.shr IntKind.u64 (qbin BinOp.shr IntKind.u64 (qbin BinOp.shr IntKind.u64 (qbin BinOp.shr IntKind.u64 (qbin BinOp.shr IntKind.u64 (qwrap IntKind.u64 sn0) 4) 4) 4) 4) 4) 4) 15))),(D.int (qidxS (ByteArray.mk #[48,49,50,51,52,53,54,55,56,57,97,98,99,100,101,102,103,104,105,106,107,108,109,110,111,112,113,114,115,116,117,118,119,120,121,122]) (qbin BinOp.and IntKind.u64 (qbin BinOp.shr IntKind.u64 (qbin BinOp.shr IntKind.u64 (qbin BinOp.shr IntKind.u64 (qbin BinOp.shr IntKind.u64 (qbin BinOp.shr IntKind.u64 (qwrap IntKind.u64 sn0) 4) 4) 4) 4) 4) 15))),(D.int (qidxS (ByteArray.mk #[48,49,50,51,52,53,54,55,56,57,97,98,99,100,101,102,103,104,105,106,107,108,109,110,111,112,113,114,115,116,117,118,119,120,121,122]) (qbin BinOp.and IntKind.u64 (qbin BinOp.shr IntKind.u64 (qbin BinOp.shr IntKind.u64 (qbin BinOp.shr IntKind.u64 (qbin BinOp.shr IntKind.u64 (qwrap IntKind.u64 sn0) 4) 4) 4) 4) 15))),(D.int (qidxS (ByteArray.mk #[48,49,50,51,52,53,54,55,56,57,97,98,99,100,101,102,103,104,105,106,107,108,109,110,111,112,113,114,115,116,117,118,119,120,121,122]) (qbin BinOp.and IntKind.u64 (qbin BinOp.shr IntKind.u64 (qbin BinOp.shr IntKind.u64 (qbin BinOp.shr IntKind.u64 (qwrap IntKind.u64 sn0) 4) 4) 4) 15))),(D.int (qidxS (ByteArray.mk #[48,49,50,51,52,53,54,55,56,57,97,98,99,100,101,102,103,104,105,106,107,108,109,110,111,112,113,114,115,116,117,118,119,120,121,122]) (qbin BinOp.and IntKind.u64 (qbin BinOp.shr IntKind.u64 (qbin BinOp.shr IntKind.u64 (qwrap IntKind.u64 sn0) 4) 4) 15))),(D.int (qidxS (ByteArray.mk #[48,49,50,51,52,53,54,55,56,57,97,98,99,100,101,102,103,104,105,106,107,108,109,110,111,112,113,114,115,116,117,118,119,120,121,122]) (qbin BinOp.and IntKind.u64 (qbin BinOp.shr IntKind.u64 (qwrap IntKind.u64 sn0) 4) 15))),(D.int (qidxS (ByteArray.mk #[48,49,50,51,52,53,54,55,56,57,97,98,99,100,101,102,103,104,105,106,107,108,109,110,111,112,113,114,115,116,117,118,119,120,121,122]) (qbin BinOp.and IntKind.u64 (qwrap IntKind.u64 sn0) 15)))]))))]
 else
 none
 else
 none
 else
 none
 else
 bif (qinbS (ByteArray.mk #[48,49,50,51,52,53,54,55,56,57,97,98,99,100,101,102,103,104,105,106,107,108,109,110,111,112,113,114,115,116,117,118,119,120,121,122]) (qbin BinOp.shr IntKind.u64 (qbin BinOp.shr IntKind.u64 (qbin BinOp.shr IntKind.u64 (qbin BinOp.shr IntKind.u64 (qbin BinOp.shr IntKind.u64 (qbin BinOp.shr IntKind.u64 (qbin BinOp.shr IntKind.u64 (qwrap IntKind.u64 sn0) 4) 4) 4) 4) 4) 4) 4))then
 bif (qcatOk (ByteArray.mk #[48,120]) (qtext (D.list [(D.int (qidxS (ByteArray.mk #[48,49,50,51,52,53,54,55,56,57,97,98,99,100,101,102,103,104,105,106,107,108,109,110,111,112,113,114,115,116,117,118,119,120,121,122]) (qbin BinOp.shr IntKind.u64 (qbin BinOp.shr IntKind.u64 (qbin BinOp.shr IntKind.u64 (qbin BinOp.shr IntKind.u64 (qbin BinOp.shr IntKind.u64 (qbin BinOp.shr IntKind.u64 (qbin BinOp.shr IntKind.u64 (qwrap IntKind.u64 sn0) 4) 4) 4) 4) 4) 4) 4))),(D.int (qidxS (ByteArray.mk #[48,49,50,51,52,53,54,55,56,57,97,98,99,100,101,102,103,104,105,106,107,108,109,110,111,112,113,114,115,116,117,118,119,120,121,122]) (qbin BinOp.and IntKind.u64 (qbin BinOp.shr IntKind.u64 (qbin BinOp.shr IntKind.u64 (qbin BinOp.shr IntKind.u64 (qbin BinOp.shr IntKind.u64 (qbin BinOp.shr IntKind.u64 (qbin BinOp.shr IntKind.u64 (qwrap IntKind.u64 sn0) 4) 4) 4) 4) 4) 4) 15))),(D.int (qidxS (ByteArray.mk #[48,49,50,51,52,53,54,55,56,57,97,98,99,100,101,102,103,104,105,106,107,108,109,110,111,112,113,114,115,116,117,118,119,120,121,122]) (qbin BinOp.and IntKind.u64 (qbin BinOp.shr IntKind.u64 (qbin BinOp.shr IntKind.u64 (qbin BinOp.shr IntKind.u64 (qbin BinOp.shr IntKind.u64 (qbin BinOp.shr IntKind.u64 (qwrap IntKind.u64 sn0) 4) 4) 4) 4) 4) 15))),(D.int (qidxS (ByteArray.mk #[48,49,50,51,52,53,54,55,56,57,97,98,99,100,101,102,103,104,105,106,107,108,109,110,111,112,113,114,115,116,117,118,119,120,121,122]) (qbin BinOp.and IntKind.u64 (qbin BinOp.shr IntKind.u64 (qbin BinOp.shr IntKind.u64 (qbin BinOp.shr IntKind.u64 (qbin BinOp.shr IntKind.u64 (qwrap IntKind.u64 sn0) 4) 4) 4) 4) 15))),(D.int (qidxS (ByteArray.mk #[48,49,50,51,52,53,54,55,56,57,97,98,99,100,101,102,103,104,105,106,107,108,109,110,111,112,113,114,115,116,117,118,119,120,121,122]) (qbin BinOp.and IntKind.u64 (qbin BinOp.shr IntKind.u64 (qbin BinOp.shr IntKind.u64 (qbin BinOp.shr IntKind.u64 (qwrap IntKind.u64 sn0) 4) 4) 4) 15))),(D.int (qidxS (ByteArray.mk #[48,49,50,51,52,53,54,55,56,57,97,98,99,100,101,102,103,104,105,106,107,108,109,110,111,112,113,114,115,116,117,118,119,120,121,122]) (qbin BinOp.and IntKind.u64 (qbin BinOp.shr IntKind.u64 (qbin BinOp.shr IntKind.u64 (qwrap IntKind.u64 sn0) 4) 4) 15))),(D.int (qidxS (ByteArray.mk #[48,49,50,51,52,53,54,55,56,57,97,98,99,100,101,102,103,104,105,106,107,108,109,110,111,112,113,114,115,116,117,118,119,120,121,122]) (qbin BinOp.and IntKind.u64 (qbin BinOp.shr IntKind.u64 (qwrap IntKind.u64 sn0) 4) 15))),(D.int (qidxS (ByteArray.mk #[48,49,50,51,52,53,54,55,56,57,97,98,99,100,101,102,103,104,105,106,107,108,109,110,111,112,113,114,115,116,117,118,119,120,121,122]) (qbin BinOp.and IntKind.u64 (qwrap IntKind.u64 sn0) 15)))])))then
 some [(D.str (qcat (ByteArray.mk #[48,120]) (qtext (D.list [(D.int (qidxS (ByteArray.mk #[48,49,50,51,52,53,54,55,56,57,97,98,99,100,101,102,103,104,105,106,107,108,109,110,111,112,113,114,115,116,117,118,119,120,121,122]) (qbin BinOp.shr IntKind.u64 (qbin BinOp.shr IntKind.u64 (qbin BinOp.shr IntKind.u64 (qbin BinOp.shr IntKind.u64 (qbin BinOp.shr IntKind.u64 (qbin BinOp.shr IntKind.u64 (qbin BinOp.shr IntKind.u64 (qwrap IntKind.u64 sn0) 4) 4) 4) 4) 4) 4) 4))),(D.int (qidxS (ByteArray.mk #[48,49,50,51,52,53,54,55,56,57,97,98,99,100,101,102,103,104,105,106,107,108,109,110,111,112,113,114,115,116,117,118,119,120,121,122]) (qbin BinOp.and IntKind.u64 (qbin BinOp.shr IntKind.u64 (qbin BinOp.shr IntKind.u64 (qbin BinOp.shr IntKind.u64 (qbin BinOp.shr IntKind.u64 (qbin BinOp.shr IntKind.u64 (qbin BinOp.shr IntKind.u64 (qwrap IntKind.u64 sn0) 4) 4) 4) 4) 4) 4) 15))),(D.int (qidxS (ByteArray.mk #[48,49,50,51,52,53,54,55,56,57,97,98,99,100,101,102,103,104,105,106,107,108,109,110,111,112,113,114,115,116,117,118,119,120,121,122]) (qbin BinOp.and IntKind.u64 (qbin BinOp.shr IntKind.u64 (qbin BinOp.shr IntKind.u64 (qbin BinOp.shr IntKind.u64 (qbin BinOp.shr IntKind.u64 (qbin BinOp.shr IntKind.u64 (qwrap IntKind.u64 sn0) 4) 4) 4) 4) 4) 15))),(D.int (qidxS (ByteArray.mk #[48,49,50,51,52,53,54,55,56,57,97,98,99,100,101,102,103,104,105,106,107,108,109,110,111,112,113,114,115,116,117,118,119,120,121,122]) (qbin BinOp.and IntKind.u64 (qbin BinOp.shr IntKind.u64 (qbin BinOp.shr IntKind.u64 (qbin BinOp.shr IntKind.u64 (qbin BinOp.shr IntKind.u64 (qwrap IntKind.u64 sn0) 4) 4) 4) 4) 15))),(D.int (qidxS (ByteArray.mk #[48,49,50,51,52,53,54,55,56,57,97,98,99,100,101,102,103,104,105,106,107,108,109,110,111,112,113,114,115,116,117,118,119,120,121,122]) (qbin BinOp.and IntKind.u64 (qbin BinOp.shr IntKind.u64 (qbin BinOp.shr IntKind.u64 (qbin BinOp.shr IntKind.u64 (qwrap IntKind.u64 sn0) 4) 4) 4) 15))),(D.int (qidxS (ByteArray.mk #[48,49,50,51,52,53,54,55,56,57,97,98,99,100,101,102,103,104,105,106,107,108,109,110,111,112,113,114,115,116,117,118,119,120,121,122]) (qbin BinOp.and IntKind.u64 (qbin BinOp.shr IntKind.u64 (qbin BinOp.shr IntKind.u64 (qwrap IntKind.u64 sn0) 4) 4) 15))),(D.int (qidxS (ByteArray.mk #[48,49,50,51,52,53,54,55,56,57,97,98,99,100,101,102,103,104,105,106,107,108,109,110,111,112,113,114,115,116,117,118,119,120,121,122]) (qbin BinOp.and IntKind.u64 (qbin BinOp.shr IntKind.u64 (qwrap IntKind.u64 sn0) 4) 15))),(D.int (qidxS (ByteArray.mk #[48,49,50,51,52,53,54,55,56,57,97,98,99,100,101,102,103,104,105,106,107,108,109,110,111,112,113,114,115,116,117,118,119,120,121,122]) (qbin BinOp.and IntKind.u64 (qwrap IntKind.u64 sn0) 15)))]))))]
 else
 none
 else
 none
 else
 none
 else
 bif (qinbS (ByteArray.mk #[48,49,50,51,52,53,54,55,56,57,97,98,99,100,101,102,103,104,105,106,107,108,109,110,111,112,113,114,115,116,117,118,119,120,121,122]) (qbin BinOp.shr IntKind.u64 (qbin BinOp.shr IntKind.u64 (qbin BinOp.shr IntKind.u64 (qbin BinOp.shr IntKind.u64 (qbin BinOp.shr IntKind.u64 (qbin BinOp.shr IntKind.u64 (qwrap IntKind.u64 sn0) 4) 4) 4) 4) 4) 4))then
 bif (qcatOk (ByteArray.mk #[48,120]) (qtext (D.list [(D.int (qidxS (ByteArray.mk #[48,49,50,51,52,53,54,55,56,57,97,98,99,100,101,102,103,104,105,106,107,108,109,110,111,112,113,114,115,116,117,118,119,120,121,122]) (qbin BinOp.shr IntKind.u64 (qbin BinOp.shr IntKind.u64 (qbin BinOp.shr IntKind.u64 (qbin BinOp.shr IntKind.u64 (qbin BinOp.shr IntKind.u64 (qbin BinOp.shr IntKind.u64 (qwrap IntKind.u64 sn0) 4) 4) 4) 4) 4) 4))),(D.int (qidxS (ByteArray.mk #[48,49,50,51,52,53,54,55,56,57,97,98,99,100,101,102,103,104,105,106,107,108,109,110,111,112,113,114,115,116,117,118,119,120,121,122]) (qbin BinOp.and IntKind.u64 (qbin BinOp.shr IntKind.u64 (qbin BinOp.shr IntKind.u64 (qbin BinOp.shr IntKind.u64 (qbin BinOp.shr IntKind.u64 (qbin BinOp.shr IntKind.u64 (qwrap IntKind.u64 sn0) 4) 4) 4) 4) 4) 15))),(D.int (qidxS (ByteArray.mk #[48,49,50,51,52,53,54,55,56,57,97,98,99,100,101,102,103,104,105,106,107,108,109,110,111,112,113,114,115,116,117,118,119,120,121,122]) (qbin BinOp.and IntKind.u64 (qbin BinOp.shr IntKind.u64 (qbin BinOp.shr IntKind.u64 (qbin BinOp.shr IntKind.u64 (qbin BinOp.shr IntKind.u64 (qwrap IntKind.u64 sn0) 4) 4) 4) 4) 15))),(D.int (qidxS (ByteArray.mk #[48,49,50,51,52,53,54,55,56,57,97,98,99,100,101,102,103,104,105,106,107,108,109,110,111,112,113,114,115,116,117,118,119,120,121,122]) (qbin BinOp.and IntKind.u64 (qbin BinOp.shr IntKind.u64 (qbin BinOp.shr IntKind.u64 (qbin BinOp.shr IntKind.u64 (qwrap IntKind.u64 sn0) 4) 4) 4) 15))),(D.int (qidxS (ByteArray.mk #[48,49,50,51,52,53,54,55,56,57,97,98,99,100,101,102,103,104,105,106,107,108,109,110,111,112,113,114,115,116,117,118,119,120,121,122]) (qbin BinOp.and IntKind.u64 (qbin BinOp.shr IntKind.u64 (qbin BinOp.shr IntKind.u64 (qwrap IntKind.u64 sn0) 4) 4) 15))),(D.int (qidxS (ByteArray.mk #[48,49,50,51,52,53,54,55,56,57,97,98,99,100,101,102,103,104,105,106,107,108,109,110,111,112,113,114,115,116,117,118,119,120,121,122]) (qbin BinOp.and IntKind.u64 (qbin BinOp.shr IntKind.u64 (qwrap IntKind.u64 sn0) 4) 15))),(D.int (qidxS (ByteArray.mk #[48,49,50,51,52,53,54,55,56,57,97,98,99,100,101,102,103,104,105,106,107,108,109,110,111,112,113,114,115,116,117,118,119,120,121,122]) (qbin BinOp.and IntKind.u64 (qwrap IntKind.u64 sn0) 15)))])))then
 some [(D.str (qcat (ByteArray.mk #[48,120]) (qtext (D.list [(D.int (qidxS (ByteArray.mk #[48,49,50,51,52,53,54,55,56,57,97,98,99,100,101,102,103,104,105,106,107,108,109,110,111,112,113,114,115,116,117,118,119,120,121,122]) (qbin BinOp.shr IntKind.u64 (qbin BinOp.shr IntKind.u64 (qbin BinOp.shr IntKind.u64 (qbin BinOp.shr IntKind.u64 (qbin BinOp.shr IntKind.u64 (qbin BinOp.shr IntKind.u64 (qwrap IntKind.u64 sn0) 4) 4) 4) 4) 4) 4))),(D.int (qidxS (ByteArray.mk #[48,49,50,51,52,53,54,55,56,57,97,98,99,100,101,102,103,104,105,106,107,108,109,110,111,112,113,114,115,116,117,118,119,120,121,122]) (qbin BinOp.and IntKind.u64 (qbin BinOp.shr IntKind.u64 (qbin BinOp.shr IntKind.u64 (qbin BinOp.shr IntKind.u64 (qbin BinOp.shr IntKind.u64 (qbin BinOp.shr IntKind.u64 (qwrap IntKind.u64 sn0) 4) 4) 4) 4) 4) 15))),(D.int (qidxS (ByteArray.mk #[48,49,50,51,52,53,54,55,56,57,97,98,99,100,101,102,103,104,105,106,107,108,109,110,111,112,113,114,115,116,117,118,119,120,121,122]) (qbin BinOp.and IntKind.u64 (qbin BinOp.shr IntKind.u64 (qbin BinOp.shr IntKind.u64 (qbin BinOp.shr IntKind.u64 (qbin BinOp.shr IntKind.u64 (qwrap IntKind.u64 sn0) 4) 4) 4) 4) 15))),(D.int (qidxS (ByteArray.mk #[48,49,50,51,52,53,54,55,56,57,97,98,99,100,101,102,103,104,105,106,107,108,109,110,111,112,113,114,115,116,117,118,119,120,121,122]) (qbin BinOp.and IntKind.u64 (qbin BinOp.shr IntKind.u64 (qbin BinOp.shr IntKind.u64 (qbin BinOp.shr IntKind.u64 (qwrap IntKind.u64 sn0) 4) 4) 4) 15))),(D.int (qidxS (ByteArray.mk #[48,49,50,51,52,53,54,55,56,57,97,98,99,100,101,102,103,104,105,106,107,108,109,110,111,112,113,114,115,116,117,118,119,120,121,122]) (qbin BinOp.and IntKind.u64 (qbin BinOp.shr IntKind.u64 (qbin BinOp.shr IntKind.u64 (qwrap IntKind.u64 sn0) 4) 4) 15))),(D.int (qidxS (ByteArray.mk #[48,49,50,51,52,53,54,55,56,57,97,98,99,100,101,102,103,104,105,106,107,108,109,110,111,112,113,114,115,116,117,118,119,120,121,122]) (qbin BinOp.and IntKind.u64 (qbin BinOp.shr IntKind.u64 (qwrap IntKind.u64 sn0) 4) 15))),(D.int (qidxS (ByteArray.mk #[48,49,50,51,52,53,54,55,56,57,97,98,99,100,101,102,103,104,105,106,107,108,109,110,111,112,113,114,115,116,117,118,119,120,121,122]) (qbin BinOp.and IntKind.u64 (qwrap IntKind.u64 sn0) 15)))]))))]
 else
 none
 else
 none
 else
 none
 else
 bif (qinbS (ByteArray.mk #[48,49,50,51,52,53,54,55,56,57,97,98,99,100,101,102,103,104,105,106,107,108,109,110,111,112,113,114,115,116,117,118,119,120,121,122]) (qbin BinOp.shr IntKind.u64 (qbin BinOp.shr IntKind.u64 (qbin BinOp.shr IntKind.u64 (qbin BinOp.shr IntKind.u64 (qbin BinOp.shr IntKind.u64 (qwrap IntKind.u64 sn0) 4) 4) 4) 4) 4))then
 bif (qcatOk (ByteArray.mk #[48,120]) (qtext (D.list [(D.int (qidxS (ByteArray.mk #[48,49,50,51,52,53,54,55,56,57,97,98,99,100,101,102,103,104,105,106,107,108,109,110,111,112,113,114,115,116,117,118,119,120,121,122]) (qbin BinOp.shr IntKind.u64 (qbin BinOp.shr IntKind.u64 (qbin BinOp.shr IntKind.u64 (qbin BinOp.shr IntKind.u64 (qbin BinOp.shr IntKind.u64 (qwrap IntKind.u64 sn0) 4) 4) 4) 4) 4))),(D.int (qidxS (ByteArray.mk #[48,49,50,51,52,53,54,55,56,57,97,98,99,100,101,102,103,104,105,106,107,108,109,110,111,112,113,114,115,116,117,118,119,120,121,122]) (qbin BinOp.and IntKind.u64 (qbin BinOp.shr IntKind.u64 (qbin BinOp.shr IntKind.u64 (qbin BinOp.shr IntKind.u64 (qbin BinOp.shr IntKind.u64 (qwrap IntKind.u64 sn0) 4) 4) 4) 4) 15))),(D.int (qidxS (ByteArray.mk #[48,49,50,51,52,53,54,55,56,57,97,98,99,100,101,102,103,104,105,106,107,108,109,110,111,112,113,114,115,116,117,118,119,120,121,122]) (qbin BinOp.and IntKind.u64 (qbin BinOp.shr IntKind.u64 (qbin BinOp.shr IntKind.u64 (qbin BinOp.shr IntKind.u64 (qwrap IntKind.u64 sn0) 4) 4) 4) 15))),(D.int (qidxS (ByteArray.mk #[48,49,50,51,52,53,54,55,56,57,97,98,99,100,101,102,103,104,105,106,107,108,109,110,111,112,113,114,115,116,117,118,119,120,121,122]) (qbin BinOp.and IntKind.u64 (qbin BinOp.shr IntKind.u64 (qbin BinOp.shr IntKind.u64 (qwrap IntKind.u64 sn0) 4) 4) 15))),(D.int (qidxS (ByteArray.mk #[48,49,50,51,52,53,54,55,56,57,97,98,99,100,101,102,103,104,105,106,107,108,109,110,111,112,113,114,115,116,117,118,119,120,121,122]) (qbin BinOp.and IntKind.u64 (qbin BinOp.shr IntKind.u64 (qwrap IntKind.u64 sn0) 4) 15))),(D.int (qidxS (ByteArray.mk #[48,49,50,51,52,53,54,55,56,57,97,98,99,100,101,102,103,104,105,106,107,108,109,110,111,112,113,114,115,116,117,118,119,120,121,122]) (qbin BinOp.and IntKind.u64 (qwrap IntKind.u64 sn0) 15)))])))then
 some [(D.str (qcat (ByteArray.mk #[48,120]) (qtext (D.list [(D.int (qidxS (ByteArray.mk #[48,49,50,51,52,53,54,55,56,57,97,98,99,100,101,102,103,104,105,106,107,108,109,110,111,112,113,114,115,116,117,118,119,120,121,122]) (qbin BinOp.shr IntKind.u64 (qbin BinOp.shr IntKind.u64 (qbin BinOp.shr IntKind.u64 (qbin BinOp.shr IntKind.u64 (qbin BinOp.shr IntKind.u64 (qwrap IntKind.u64 sn0) 4) 4) 4) 4) 4))),(D.int (qidxS (ByteArray.mk #[48,49,50,51,52,53,54,55,56,57,97,98,99,100,101,102,103,104,105,106,107,108,109,110,111,112,113,114,115,116,117,118,119,120,121,122]) (qbin BinOp.and IntKind.u64 (qbin BinOp.shr IntKind.u64 (qbin BinOp.shr IntKind.u64 (qbin BinOp.shr IntKind.u64 (qbin BinOp.shr IntKind.u64 (qwrap IntKind.u64 sn0) 4) 4) 4) 4) 15))),(D.int (qidxS (ByteArray.mk #[48,49,50,51,52,53,54,55,56,57,97,98,99,100,101,102,103,104,105,106,107,108,109,110,111,112,113,114,115,116,117,118,119,120,121,122]) (qbin BinOp.and IntKind.u64 (qbin BinOp.shr IntKind.u64 (qbin BinOp.shr IntKind.u64 (qbin BinOp.shr IntKind.u64 (qwrap IntKind.u64 sn0) 4) 4) 4) 15))),(D.int (qidxS (ByteArray.mk #[48,49,50,51,52,53,54,55,56,57,97,98,99,100,101,102,103,104,105,106,107,108,109,110,111,112,113,114,115,116,117,118,119,120,121,122]) (qbin BinOp.and IntKind.u64 (qbin BinOp.shr IntKind.u64 (qbin BinOp.shr IntKind.u64 (qwrap IntKind.u64 sn0) 4) 4) 15))),(D.int (qidxS (ByteArray.mk #[48,49,50,51,52,53,54,55,56,57,97,98,99,100,101,102,103,104,105,106,107,108,109,110,111,112,113,114,115,116,117,118,119,120,121,122]) (qbin BinOp.and IntKind.u64 (qbin BinOp.shr IntKind.u64 (qwrap IntKind.u64 sn0) 4) 15))),(D.int (qidxS (ByteArray.mk #[48,49,50,51,52,53,54,55,56,57,97,98,99,100,101,102,103,104,105,106,107,108,109,110,111,112,113,114,115,116,117,118,119,120,121,122]) (qbin BinOp.and IntKind.u64 (qwrap IntKind.u64 sn0) 15)))]))))]
 else
 none
 else
 none
 else
 none
 else
 bif (qinbS (ByteArray.mk #[48,49,50,51,52,53,54,55,56,57,97,98,99,100,101,102,103,104,105,106,107,108,109,110,111,112,113,114,115,116,117,118,119,120,121,122]) (qbin BinOp.shr IntKind.u64 (qbin BinOp.shr IntKind.u64 (qbin BinOp.shr IntKind.u64 (qbin BinOp.shr IntKind.u64 (qwrap IntKind.u64 sn0) 4) 4) 4) 4))then
 bif (qcatOk (ByteArray.mk #[48,120]) (qtext (D.list [(D.int (qidxS (ByteArray.mk #[48,49,50,51,52,53,54,55,56,57,97,98,99,100,101,102,103,104,105,106,107,108,109,110,111,112,113,114,115,116,117,118,119,120,121,122]) (qbin BinOp.shr IntKind.u64 (qbin BinOp.shr IntKind.u64 (qbin BinOp.shr IntKind.u64 (qbin BinOp.shr IntKind.u64 (qwrap IntKind.u64 sn0) 4) 4) 4) 4))),(D.int (qidxS (ByteArray.mk #[48,49,50,51,52,53,54,55,56,57,97,98,99,100,101,102,103,104,105,106,107,108,109,110,111,112,113,114,115,116,117,118,119,120,121,122]) (qbin BinOp.and IntKind.u64 (qbin BinOp.shr IntKind.u64 (qbin BinOp.shr IntKind.u64 (qbin BinOp.shr IntKind.u64 (qwrap IntKind.u64 sn0) 4) 4) 4) 15))),(D.int (qidxS (ByteArray.mk #[48,49,50,51,52,53,54,55,56,57,97,98,99,100,101,102,103,104,105,106,107,108,109,110,111,112,113,114,115,116,117,118,119,120,121,122]) (qbin BinOp.and IntKind.u64 (qbin BinOp.shr IntKind.u64 (qbin BinOp.shr IntKind.u64 (qwrap IntKind.u64 sn0) 4) 4) 15))),(D.int (qidxS (ByteArray.mk #[48,49,50,51,52,53,54,55,56,57,97,98,99,100,101,102,103,104,105,106,107,108,109,110,111,112,113,114,115,116,117,118,119,120,121,122]) (qbin BinOp.and IntKind.u64 (qbin BinOp.shr IntKind.u64 (qwrap IntKind.u64 sn0) 4) 15))),(D.int (qidxS (ByteArray.mk #[48,49,50,51,52,53,54,55,56,57,97,98,99,100,101,102,103,104,105,106,107,108,109,110,111,112,113,114,115,116,117,118,119,120,121,122]) (qbin BinOp.and IntKind.u64 (qwrap IntKind.u64 sn0) 15)))])))then
 some [(D.str (qcat (ByteArray.mk #[48,120]) (qtext (D.list [(D.int (qidxS (ByteArray.mk #[48,49,50,51,52,53,54,55,56,57,97,98,99,100,101,102,103,104,105,106,107,108,109,110,111,112,113,114,115,116,117,118,119,120,121,122]) (qbin BinOp.shr IntKind.u64 (qbin BinOp.shr IntKind.u64 (qbin BinOp.shr IntKind.u64 (qbin BinOp.shr IntKind.u64 (qwrap IntKind.u64 sn0) 4) 4) 4) 4))),(D.int (qidxS (ByteArray.mk #[48,49,50,51,52,53,54,55,56,57,97,98,99,100,101,102,103,104,105,106,107,108,109,110,111,112,113,114,115,116,117,118,119,120,121,122]) (qbin BinOp.and IntKind.u64 (qbin BinOp.shr IntKind.u64 (qbin BinOp.shr IntKind.u64 (qbin BinOp.shr IntKind.u64 (qwrap IntKind.u64 sn0) 4) 4) 4) 15))),(D.int (qidxS (ByteArray.mk #[48,49,50,51,52,53,54,55,56,57,97,98,99,100,101,102,103,104,105,106,107,108,109,110,111,112,113,114,115,116,117,118,119,120,121,122]) (qbin BinOp.and IntKind.u64 (qbin BinOp.shr IntKind.u64 (qbin BinOp.shr IntKind.u64 (qwrap IntKind.u64 sn0) 4) 4) 15))),(D.int (qidxS (ByteArray.mk #[48,49,50,51,52,53,54,55,56,57,97,98,99,100,101,102,103,104,105,106,107,108,109,110,111,112,113,114,115,116,117,118,119,120,121,122]) (qbin BinOp.and IntKind.u64 (qbin BinOp.shr IntKind.u64 (qwrap IntKind.u64 sn0) 4) 15))),(D.int (qidxS (ByteArray.mk #[48,49,50,51,52,53,54,55,56,57,97,98,99,100,101,102,103,104,105,106,107,108,109,110,111,112,113,114,115,116,117,118,119,120,121,122]) (qbin BinOp.and IntKind.u64 (qwrap IntKind.u64 sn0) 15)))]))))]
 else
 none
 else
 none
 else
 none
 else
 bif (qinbS (ByteArray.mk #[48,49,50,51,52,53,54,55,56,57,97,98,99,100,101,102,103,104,105,106,107,108,109,110,111,112,113,114,115,116,117,118,119,120,121,122]) (qbin BinOp.shr IntKind.u64 (qbin BinOp.shr IntKind.u64 (qbin BinOp.shr IntKind.u64 (qwrap IntKind.u64 sn0) 4) 4) 4))then
 bif (qcatOk (ByteArray.mk #[48,120]) (qtext (D.list [(D.int (qidxS (ByteArray.mk #[48,49,50,51,52,53,54,55,56,57,97,98,99,100,101,102,103,104,105,106,107,108,109,110,111,112,113,114,115,116,117,118,119,120,121,122]) (qbin BinOp.shr IntKind.u64 (qbin BinOp.shr IntKind.u64 (qbin BinOp.shr IntKind.u64 (qwrap IntKind.u64 sn0) 4) 4) 4))),(D.int (qidxS (ByteArray.mk #[48,49,50,51,52,53,54,55,56,57,97,98,99,100,101,102,103,104,105,106,107,108,109,110,111,112,113,114,115,116,117,118,119,120,121,122]) (qbin BinOp.and IntKind.u64 (qbin BinOp.shr IntKind.u64 (qbin BinOp.shr IntKind.u64 (qwrap IntKind.u64 sn0) 4) 4) 15))),(D.int (qidxS (ByteArray.mk #[48,49,50,51,52,53,54,55,56,57,97,98,99,100,101,102,103,104,105,106,107,108,109,110,111,112,113,114,115,116,117,118,119,120,121,122]) (qbin BinOp.and IntKind.u64 (qbin BinOp.shr IntKind.u64 (qwrap IntKind.u64 sn0) 4) 15))),(D.int (qidxS (ByteArray.mk #[48,49,50,51,52,53,54,55,56,57,97,98,99,100,101,102,103,104,105,106,107,108,109,110,111,112,113,114,115,116,117,118,119,120,121,122]) (qbin BinOp.and IntKind.u64 (qwrap IntKind.u64 sn0) 15)))])))then
 some [(D.str (qcat (ByteArray.mk #[48,120]) (qtext (D.list [(D.int (qidxS (ByteArray.mk #[48,49,50,51,52,53,54,55,56,57,97,98,99,100,101,102,103,104,105,106,107,108,109,110,111,112,113,114,115,116,117,118,119,120,121,122]) (qbin BinOp.shr IntKind.u64 (qbin BinOp.shr IntKind.u64 (qbin BinOp.shr IntKind.u64 (qwrap IntKind.u64 sn0) 4) 4) 4))),(D.int (qidxS (ByteArray.mk #[48,49,50,51,52,53,54,55,56,57,97,98,99,100,101,102,103,104,105,106,107,108,109,110,111,112,113,114,115,116,117,118,119,120,121,122]) (qbin BinOp.and IntKind.u64 (qbin BinOp.shr IntKind.u64 (qbin BinOp.shr IntKind.u64 (qwrap IntKind.u64 sn0) 4) 4) 15))),(D.int (qidxS (ByteArray.mk #[48,49,50,51,52,53,54,55,56,57,97,98,99,100,101,102,103,104,105,106,107,108,109,110,111,112,113,114,115,116,117,118,119,120,121,122]) (qbin BinOp.and IntKind.u64 (qbin BinOp.shr IntKind.u64 (qwrap IntKind.u64 sn0) 4) 15))),(D.int (qidxS (ByteArray.mk #[48,49,50,51,52,53,54,55,56,57,97,98,99,100,101,102,103,104,105,106,107,108,109,110,111,112,113,114,115,116,117,118,119,120,121,122]) (qbin BinOp.and IntKind.u64 (qwrap IntKind.u64 sn0) 15)))]))))]
 else
 none
 else
 none
 else
 none
 else
 bif (qinbS (ByteArray.mk #[48,49,50,51,52,53,54,55,56,57,97,98,99,100,101,102,103,104,105,106,107,108,109,110,111,112,113,114,115,116,117,118,119,120,121,122]) (qbin BinOp.shr IntKind.u64 (qbin BinOp.shr IntKind.u64 (qwrap IntKind.u64 sn0) 4) 4))then
 bif (qcatOk (ByteArray.mk #[48,120]) (qtext (D.list [(D.int (qidxS (ByteArray.mk #[48,49,50,51,52,53,54,55,56,57,97,98,99,100,101,102,103,104,105,106,107,108,109,110,111,112,113,114,115,116,117,118,119,120,121,122]) (qbin BinOp.shr IntKind.u64 (qbin BinOp.shr IntKind.u64 (qwrap IntKind.u64 sn0) 4) 4))),(D.int (qidxS (ByteArray.mk #[48,49,50,51,52,53,54,55,56,57,97,98,99,100,101,102,103,104,105,106,107,108,109,110,111,112,113,114,115,116,117,118,119,120,121,122]) (qbin BinOp.and IntKind.u64 (qbin BinOp.shr IntKind.u64 (qwrap IntKind.u64 sn0) 4) 15))),(D.int (qidxS (ByteArray.mk #[48,49,50,51,52,53,54,55,56,57,97,98,99,100,101,102,103,104,105,106,107,108,109,110,111,112,113,114,115,116,117,118,119,120,121,122]) (qbin BinOp.and IntKind.u64 (qwrap IntKind.u64 sn0) 15)))])))then
 some [(D.str (qcat (ByteArray.mk #[48,120]) (qtext (D.list [(D.int (qidxS (ByteArray.mk #[48,49,50,51,52,53,54,55,56,57,97,98,99,100,101,102,103,104,105,106,107,108,109,110,111,112,113,114,115,116,117,118,119,120,121,122]) (qbin BinOp.shr IntKind.u64 (qbin BinOp.shr IntKind.u64 (qwrap IntKind.u64 sn0) 4) 4))),(D.int (qidxS (ByteArray.mk #[48,49,50,51,52,53,54,55,56,57,97,98,99,100,101,102,103,104,105,106,107,108,109,110,111,112,113,114,115,116,117,118,119,120,121,122]) (qbin BinOp.and IntKind.u64 (qbin BinOp.shr IntKind.u64 (qwrap IntKind.u64 sn0) 4) 15))),(D.int (qidxS (ByteArray.mk #[48,49,50,51,52,53,54,55,56,57,97,98,99,100,101,102,103,104,105,106,107,108,109,110,111,112,113,114,115,116,117,118,119,120,121,122]) (qbin BinOp.and IntKind.u64 (qwrap IntKind.u64 sn0) 15)))]))))]
 else
 none
 else
 none
 else
 none
 else
 bif (qinbS (ByteArray.mk #[48,49,50,51,52,53,54,55,56,57,97,98,99,100,101,102,103,104,105,106,107,108,109,110,111,112,113,114,115,116,117,118,119,120,121,122]) (qbin BinOp.shr IntKind.u64 (qwrap IntKind.u64 sn0) 4))then
 bif (qcatOk (ByteArray.mk #[48,120]) (qtext (D.list [(D.int (qidxS (ByteArray.mk #[48,49,50,51,52,53,54,55,56,57,97,98,99,100,101,102,103,104,105,106,107,108,109,110,111,112,113,114,115,116,117,118,119,120,121,122]) (qbin BinOp.shr IntKind.u64 (qwrap IntKind.u64 sn0) 4))),(D.int (qidxS (ByteArray.mk #[48,49,50,51,52,53,54,55,56,57,97,98,99,100,101,102,103,104,105,106,107,108,109,110,111,112,113,114,115,116,117,118,119,120,121,122]) (qbin BinOp.and IntKind.u64 (qwrap IntKind.u64 sn0) 15)))])))then
 some [(D.str (qcat (ByteArray.mk #[48,120]) (qtext (D.list [(D.int (qidxS (ByteArray.mk #[48,49,50,51,52,53,54,55,56,57,97,98,99,100,101,102,103,104,105,106,107,108,109,110,111,112,113,114,115,116,117,118,119,120,121,122]) (qbin BinOp.shr IntKind.u64 (qwrap IntKind.u64 sn0) 4))),(D.int (qidxS (ByteArray.mk #[48,49,50,51,52,53,54,55,56,57,97,98,99,100,101,102,103,104,105,106,107,108,109,110,111,112,113,114,115,116,117,118,119,120,121,122]) (qbin BinOp.and IntKind.u64 (qwrap IntKind.u64 sn0) 15)))]))))]
 else
 none
 else
 none
 else
 none
 else
 bif (qinbS (ByteArray.mk #[48,49,50,51,52,53,54,55,56,57,97,98,99,100,101,102,103,104,105,106,107,108,109,110,111,112,113,114,115,116,117,118,119,120,121,122]) (qwrap IntKind.u64 sn0))then
 bif (qcatOk (ByteArray.mk #[48,120]) (qtext (D.list [(D.int (qidxS (ByteArray.mk #[48,49,50,51,52,53,54,55,56,57,97,98,99,100,101,102,103,104,105,106,107,108,109,110,111,112,113,114,115,116,117,118,119,120,121,122]) (qwrap IntKind.u64 sn0)))])))then
 some [(D.str (qcat (ByteArray.mk #[48,120]) (qtext (D.list [(D.int (qidxS (ByteArray.mk #[48,49,50,51,52,53,54,55,56,57,97,98,99,100,101,102,103,104,105,106,107,108,109,110,111,112,113,114,115,116,117,118,119,120,121,122]) (qwrap IntKind.u64 sn0)))]))))]
 else
 none
 else
 none:=by kernel_rfl
noncomputable def q19:List D→Option (List D):=veil (F19)
theorem q19_eq:q19=F19:=veil_eq _
noncomputable def tb19:Tb:=Tb.addF tb34 19 S19 (q19)
theorem ok_tb19:TbOk env (tb19):=addFunK 9 ok_tb34 19 (by kernel_rfl) _ (q19_eq)
def S31:FunS:=⟨[⟨true,(.int .u32)⟩],[],[⟨true, .str⟩],[]⟩
noncomputable def F31:List D→Option (List D):=liftX env tb19 60 12 31 S31
theorem F31_eq (sn0:Int):F31 [(D.int sn0)] =
 bif (qcmp BinOp.leq (-9223372036854775808) (qwrap IntKind.i64 (qwrap IntKind.i32 sn0)))then
 bif (qcmp BinOp.leq (qwrap IntKind.i64 (qwrap IntKind.i32 sn0)) 9223372036854775807)then
 some [(D.str (qitoa (qwrap IntKind.i64 (qwrap IntKind.i32 sn0))))]
 else
 none
 else
 none:=by kernel_rfl
noncomputable def q31:List D→Option (List D):=veil (F31)
theorem q31_eq:q31=F31:=veil_eq _
noncomputable def tb31:Tb:=Tb.addF tb19 31 S31 (q31)
theorem ok_tb31:TbOk env (tb31):=addFunF ok_tb19 31 (by kernel_rfl) _ (q31_eq)
def S15:FunS:=⟨[⟨true,(.int .i64)⟩],[],[⟨true, .str⟩],[]⟩
noncomputable def F15:List D→Option (List D):=liftX env tb31 60 12 15 S15
theorem F15_eq (sn0:Int):F15 [(D.int sn0)] =
 bif (qcmp BinOp.leq (-9223372036854775808) sn0)then
 bif (qcmp BinOp.leq sn0 9223372036854775807)then
 bif (qcatOk (ByteArray.mk #[114]) (qitoa sn0))then
 some [(D.str (qcat (ByteArray.mk #[114]) (qitoa sn0)))]
 else
 none
 else
 none
 else
 none:=by kernel_rfl
noncomputable def q15:List D→Option (List D):=veil (F15)
theorem q15_eq:q15=F15:=veil_eq _
noncomputable def tb15:Tb:=Tb.addF tb31 15 S15 (q15)
theorem ok_tb15:TbOk env (tb15):=addFunF ok_tb31 15 (by kernel_rfl) _ (q15_eq)
def S17:FunS:=⟨[⟨true,(.dat 24)⟩],[],[⟨true, .str⟩],[]⟩
noncomputable def F17:List D→Option (List D):=liftX env tb15 60 12 17 S17
theorem F17_eq (sd0:D):F17 [sd0] =
 bif (qcmp BinOp.eql (qint (qfld sd0 1)) 0)then
 bif (qsome (q15 [(D.int (qint (qfld sd0 7)))]))then
 bif (qcatOk (ByteArray.mk #[91]) (qstr (qnth (q15 [(D.int (qint (qfld sd0 7)))]) 0)))then
 bif (qcatOk (qcat (ByteArray.mk #[91]) (qstr (qnth (q15 [(D.int (qint (qfld sd0 7)))]) 0))) (ByteArray.mk #[93]))then
 some [(D.str (qcat (qcat (ByteArray.mk #[91]) (qstr (qnth (q15 [(D.int (qint (qfld sd0 7)))]) 0))) (ByteArray.mk #[93])))]
 else
 none
 else
 none
 else
 none
 else
 bif (qcmp BinOp.eql (qbin BinOp.shr IntKind.u32 (qint (qfld sd0 1)) 31) 0)then
 bif (qsome (q15 [(D.int (qint (qfld sd0 7)))]))then
 bif (qcatOk (ByteArray.mk #[91]) (qstr (qnth (q15 [(D.int (qint (qfld sd0 7)))]) 0)))then
 bif (qcatOk (qcat (ByteArray.mk #[91]) (qstr (qnth (q15 [(D.int (qint (qfld sd0 7)))]) 0))) (ByteArray.mk #[43]))then
 bif (qsome (q31 [(D.int (qint (qfld sd0 1)))]))then
 bif (qcatOk (qcat (qcat (ByteArray.mk #[91]) (qstr (qnth (q15 [(D.int (qint (qfld sd0 7)))]) 0))) (ByteArray.mk #[43])) (qstr (qnth (q31 [(D.int (qint (qfld sd0 1)))]) 0)))then
 bif (qcatOk (qcat (qcat (qcat (ByteArray.mk #[91]) (qstr (qnth (q15 [(D.int (qint (qfld sd0 7)))]) 0))) (ByteArray.mk #[43])) (qstr (qnth (q31 [(D.int (qint (qfld sd0 1)))]) 0))) (ByteArray.mk #[93]))then
 some [(D.str (qcat (qcat (qcat (qcat (ByteArray.mk #[91]) (qstr (qnth (q15 [(D.int (qint (qfld sd0 7)))]) 0))) (ByteArray.mk #[43])) (qstr (qnth (q31 [(D.int (qint (qfld sd0 1)))]) 0))) (ByteArray.mk #[93])))]
 else
 none
 else
 none
 else
 none
 else
 none
 else
 none
 else
 none
 else
 bif (qsome (q15 [(D.int (qint (qfld sd0 7)))]))then
 bif (qcatOk (ByteArray.mk #[91]) (qstr (qnth (q15 [(D.int (qint (qfld sd0 7)))]) 0)))then
 bif (qsome (q31 [(D.int (qint (qfld sd0 1)))]))then
 bif (qcatOk (qcat (ByteArray.mk #[91]) (qstr (qnth (q15 [(D.int (qint (qfld sd0 7)))]) 0))) (qstr (qnth (q31 [(D.int (qint (qfld sd0 1)))]) 0)))then
 bif (qcatOk (qcat (qcat (ByteArray.mk #[91]) (qstr (qnth (q15 [(D.int (qint (qfld sd0 7)))]) 0))) (qstr (qnth (q31 [(D.int (qint (qfld sd0 1)))]) 0))) (ByteArray.mk #[93]))then
 some [(D.str (qcat (qcat (qcat (ByteArray.mk #[91]) (qstr (qnth (q15 [(D.int (qint (qfld sd0 7)))]) 0))) (qstr (qnth (q31 [(D.int (qint (qfld sd0 1)))]) 0))) (ByteArray.mk #[93])))]
 else
 none
 else
 none
 else
 none
 else
 none
 else
 none:=by kernel_rfl
noncomputable def q17:List D→Option (List D):=veil (F17)
theorem q17_eq:q17=F17:=veil_eq _
noncomputable def tb17:Tb:=Tb.addF tb15 17 S17 (q17)
theorem ok_tb17:TbOk env (tb17):=addFunF ok_tb15 17 (by kernel_rfl) _ (q17_eq)
def S18:FunS:=⟨[⟨true,(.dat 24)⟩],[],[⟨true, .str⟩],[]⟩
noncomputable def F18:List D→Option (List D):=liftX env tb17 60 12 18 S18
theorem F18_eq (sd0:D):F18 [sd0] =
 bif (qiteB (qcmp BinOp.neq (qint (qfld sd0 5)) 0) (qand (qsome (q20 [(D.int (qint (qfld sd0 5)))])) (qcatOk (ByteArray.mk #[106]) (qstr (qnth (q20 [(D.int (qint (qfld sd0 5)))]) 0)))) Bool.true)then
 bif (qiteB (qiteB (qcmp BinOp.eql (qint (qfld sd0 3)) 2) (qcmp BinOp.eql (qwrap IntKind.u32 (qwrap IntKind.i8 (qbin BinOp.sub IntKind.u32 (qbin BinOp.sub IntKind.u32 (qint (qfld sd0 1)) (qint (qfld sd0 0))) 2))) (qbin BinOp.sub IntKind.u32 (qbin BinOp.sub IntKind.u32 (qint (qfld sd0 1)) (qint (qfld sd0 0))) 2)) Bool.false) (qcatOk (qiteS (qcmp BinOp.neq (qint (qfld sd0 5)) 0) (qcat (ByteArray.mk #[106]) (qstr (qnth (q20 [(D.int (qint (qfld sd0 5)))]) 0))) (ByteArray.mk #[106,109,112])) (ByteArray.mk #[46,119])) Bool.true)then
 bif (qcatOk (qiteS (qiteB (qcmp BinOp.eql (qint (qfld sd0 3)) 2) (qcmp BinOp.eql (qwrap IntKind.u32 (qwrap IntKind.i8 (qbin BinOp.sub IntKind.u32 (qbin BinOp.sub IntKind.u32 (qint (qfld sd0 1)) (qint (qfld sd0 0))) 2))) (qbin BinOp.sub IntKind.u32 (qbin BinOp.sub IntKind.u32 (qint (qfld sd0 1)) (qint (qfld sd0 0))) 2)) Bool.false) (qcat (qiteS (qcmp BinOp.neq (qint (qfld sd0 5)) 0) (qcat (ByteArray.mk #[106]) (qstr (qnth (q20 [(D.int (qint (qfld sd0 5)))]) 0))) (ByteArray.mk #[106,109,112])) (ByteArray.mk #[46,119])) (qiteS (qcmp BinOp.neq (qint (qfld sd0 5)) 0) (qcat (ByteArray.mk #[106]) (qstr (qnth (q20 [(D.int (qint (qfld sd0 5)))]) 0))) (ByteArray.mk #[106,109,112]))) (ByteArray.mk #[32]))then
 bif (qsome (q19 [(D.int (qint (qfld sd0 1)))]))then
 bif (qcatOk (qcat (qiteS (qiteB (qcmp BinOp.eql (qint (qfld sd0 3)) 2) (qcmp BinOp.eql (qwrap IntKind.u32 (qwrap IntKind.i8 (qbin BinOp.sub IntKind.u32 (qbin BinOp.sub IntKind.u32 (qint (qfld sd0 1)) (qint (qfld sd0 0))) 2))) (qbin BinOp.sub IntKind.u32 (qbin BinOp.sub IntKind.u32 (qint (qfld sd0 1)) (qint (qfld sd0 0))) 2)) Bool.false) (qcat (qiteS (qcmp BinOp.neq (qint (qfld sd0 5)) 0) (qcat (ByteArray.mk #[106]) (qstr (qnth (q20 [(D.int (qint (qfld sd0 5)))]) 0))) (ByteArray.mk #[106,109,112])) (ByteArray.mk #[46,119])) (qiteS (qcmp BinOp.neq (qint (qfld sd0 5)) 0) (qcat (ByteArray.mk #[106]) (qstr (qnth (q20 [(D.int (qint (qfld sd0 5)))]) 0))) (ByteArray.mk #[106,109,112]))) (ByteArray.mk #[32])) (qstr (qnth (q19 [(D.int (qint (qfld sd0 1)))]) 0)))then
 some [(D.str (qcat (qcat (qiteS (qiteB (qcmp BinOp.eql (qint (qfld sd0 3)) 2) (qcmp BinOp.eql (qwrap IntKind.u32 (qwrap IntKind.i8 (qbin BinOp.sub IntKind.u32 (qbin BinOp.sub IntKind.u32 (qint (qfld sd0 1)) (qint (qfld sd0 0))) 2))) (qbin BinOp.sub IntKind.u32 (qbin BinOp.sub IntKind.u32 (qint (qfld sd0 1)) (qint (qfld sd0 0))) 2)) Bool.false) (qcat (qiteS (qcmp BinOp.neq (qint (qfld sd0 5)) 0) (qcat (ByteArray.mk #[106]) (qstr (qnth (q20 [(D.int (qint (qfld sd0 5)))]) 0))) (ByteArray.mk #[106,109,112])) (ByteArray.mk #[46,119])) (qiteS (qcmp BinOp.neq (qint (qfld sd0 5)) 0) (qcat (ByteArray.mk #[106]) (qstr (qnth (q20 [(D.int (qint (qfld sd0 5)))]) 0))) (ByteArray.mk #[106,109,112]))) (ByteArray.mk #[32])) (qstr (qnth (q19 [(D.int (qint (qfld sd0 1)))]) 0))))]
 else
 none
 else
 none
 else
 none
 else
 none
 else
 none:=by kernel_rfl
noncomputable def q18:List D→Option (List D):=veil (F18)
theorem q18_eq:q18=F18:=veil_eq _
noncomputable def tb18:Tb:=Tb.addF tb17 18 S18 (q18)
theorem ok_tb18:TbOk env (tb18):=addFunF ok_tb17 18 (by kernel_rfl) _ (q18_eq)
def S21:FunS:=⟨[⟨true,(.dat 24)⟩],[],[⟨true, .str⟩],[]⟩
noncomputable def F21:List D→Option (List D):=liftX env tb18 60 12 21 S21
theorem F21_eq (sd0:D):F21 [sd0] =
 bif (qsome (q34 [(D.int (qint (qfld sd0 2)))]))then
 bif (qsome (q15 [(D.int (qint (qfld sd0 6)))]))then
 bif (qcatOk (ByteArray.mk #[32]) (qstr (qnth (q15 [(D.int (qint (qfld sd0 6)))]) 0)))then
 bif (qcatOk (qcat (ByteArray.mk #[32]) (qstr (qnth (q15 [(D.int (qint (qfld sd0 6)))]) 0))) (ByteArray.mk #[44,32]))then
 bif (qcmp BinOp.eql (qint (qfld sd0 3)) 0)then
 bif (qcatOk (qstr (qnth (q34 [(D.int (qint (qfld sd0 2)))]) 0)) (qcat (qcat (ByteArray.mk #[32]) (qstr (qnth (q15 [(D.int (qint (qfld sd0 6)))]) 0))) (ByteArray.mk #[44,32])))then
 bif (qsome (q15 [(D.int (qint (qfld sd0 7)))]))then
 bif (qcatOk (qcat (qstr (qnth (q34 [(D.int (qint (qfld sd0 2)))]) 0)) (qcat (qcat (ByteArray.mk #[32]) (qstr (qnth (q15 [(D.int (qint (qfld sd0 6)))]) 0))) (ByteArray.mk #[44,32]))) (qstr (qnth (q15 [(D.int (qint (qfld sd0 7)))]) 0)))then
 some [(D.str (qcat (qcat (qstr (qnth (q34 [(D.int (qint (qfld sd0 2)))]) 0)) (qcat (qcat (ByteArray.mk #[32]) (qstr (qnth (q15 [(D.int (qint (qfld sd0 6)))]) 0))) (ByteArray.mk #[44,32]))) (qstr (qnth (q15 [(D.int (qint (qfld sd0 7)))]) 0))))]
 else
 none
 else
 none
 else
 none
 else
 bif (qcmp BinOp.eql (qint (qfld sd0 3)) 1)then
 bif (qcatOk (qstr (qnth (q34 [(D.int (qint (qfld sd0 2)))]) 0)) (qcat (qcat (ByteArray.mk #[32]) (qstr (qnth (q15 [(D.int (qint (qfld sd0 6)))]) 0))) (ByteArray.mk #[44,32])))then
 bif (qsome (q31 [(D.int (qint (qfld sd0 1)))]))then
 bif (qcatOk (qcat (qstr (qnth (q34 [(D.int (qint (qfld sd0 2)))]) 0)) (qcat (qcat (ByteArray.mk #[32]) (qstr (qnth (q15 [(D.int (qint (qfld sd0 6)))]) 0))) (ByteArray.mk #[44,32]))) (qstr (qnth (q31 [(D.int (qint (qfld sd0 1)))]) 0)))then
 some [(D.str (qcat (qcat (qstr (qnth (q34 [(D.int (qint (qfld sd0 2)))]) 0)) (qcat (qcat (ByteArray.mk #[32]) (qstr (qnth (q15 [(D.int (qint (qfld sd0 6)))]) 0))) (ByteArray.mk #[44,32]))) (qstr (qnth (q31 [(D.int (qint (qfld sd0 1)))]) 0))))]
 else
 none
 else
 none
 else
 none
 else
 bif (qcmp BinOp.eql (qwrap IntKind.u32 (qwrap IntKind.i8 (qint (qfld sd0 1)))) (qint (qfld sd0 1)))then
 bif (qcatOk (qstr (qnth (q34 [(D.int (qint (qfld sd0 2)))]) 0)) (ByteArray.mk #[46,119]))then
 bif (qcatOk (qcat (qstr (qnth (q34 [(D.int (qint (qfld sd0 2)))]) 0)) (ByteArray.mk #[46,119])) (qcat (qcat (ByteArray.mk #[32]) (qstr (qnth (q15 [(D.int (qint (qfld sd0 6)))]) 0))) (ByteArray.mk #[44,32])))then
 bif (qsome (q31 [(D.int (qint (qfld sd0 1)))]))then
 bif (qcatOk (qcat (qcat (qstr (qnth (q34 [(D.int (qint (qfld sd0 2)))]) 0)) (ByteArray.mk #[46,119])) (qcat (qcat (ByteArray.mk #[32]) (qstr (qnth (q15 [(D.int (qint (qfld sd0 6)))]) 0))) (ByteArray.mk #[44,32]))) (qstr (qnth (q31 [(D.int (qint (qfld sd0 1)))]) 0)))then
 some [(D.str (qcat (qcat (qcat (qstr (qnth (q34 [(D.int (qint (qfld sd0 2)))]) 0)) (ByteArray.mk #[46,119])) (qcat (qcat (ByteArray.mk #[32]) (qstr (qnth (q15 [(D.int (qint (qfld sd0 6)))]) 0))) (ByteArray.mk #[44,32]))) (qstr (qnth (q31 [(D.int (qint (qfld sd0 1)))]) 0))))]
 else
 none
 else
 none
 else
 none
 else
 none
 else
 bif (qcatOk (qstr (qnth (q34 [(D.int (qint (qfld sd0 2)))]) 0)) (qcat (qcat (ByteArray.mk #[32]) (qstr (qnth (q15 [(D.int (qint (qfld sd0 6)))]) 0))) (ByteArray.mk #[44,32])))then
 bif (qsome (q19 [(D.int (qint (qfld sd0 1)))]))then
 bif (qcatOk (qcat (qstr (qnth (q34 [(D.int (qint (qfld sd0 2)))]) 0)) (qcat (qcat (ByteArray.mk #[32]) (qstr (qnth (q15 [(D.int (qint (qfld sd0 6)))]) 0))) (ByteArray.mk #[44,32]))) (qstr (qnth (q19 [(D.int (qint (qfld sd0 1)))]) 0)))then
 some [(D.str (qcat (qcat (qstr (qnth (q34 [(D.int (qint (qfld sd0 2)))]) 0)) (qcat (qcat (ByteArray.mk #[32]) (qstr (qnth (q15 [(D.int (qint (qfld sd0 6)))]) 0))) (ByteArray.mk #[44,32]))) (qstr (qnth (q19 [(D.int (qint (qfld sd0 1)))]) 0))))]
 else
 none
 else
 none
 else
 none
 else
 none
 else
 none
 else
 none
 else
 none:=by kernel_rfl
noncomputable def q21:List D→Option (List D):=veil (F21)
theorem q21_eq:q21=F21:=veil_eq _
noncomputable def tb21:Tb:=Tb.addF tb18 21 S21 (q21)
theorem ok_tb21:TbOk env (tb21):=addFunF ok_tb18 21 (by kernel_rfl) _ (q21_eq)
def S6:FunS:=⟨[⟨true,(.dat 24)⟩],[],[⟨true, .str⟩],[]⟩
noncomputable def F6:List D→Option (List D):=liftX env tb21 60 12 6 S6
theorem F6_eq (sd0:D):F6 [sd0] =
 bif (qsome (q7 [sd0]))then
 bif (qnot (qbool (qnth (q7 [sd0]) 0)))then
 some [(D.str (ByteArray.mk #[]))]
 else
 bif (qiteB (qcmp BinOp.eql (qint (qfld sd0 2)) 0) (qcmp BinOp.eql (qint (qfld sd0 2)) 0) (qiteB (qcmp BinOp.eql (qint (qfld sd0 2)) 1) (qcmp BinOp.eql (qint (qfld sd0 2)) 1) (qcmp BinOp.eql (qint (qfld sd0 2)) 2)))then
 bif (qcmp BinOp.leq 0 (qint (qfld sd0 2)))then
 bif (qcmp BinOp.lss (qint (qfld sd0 2)) 5)then
 bif (qinb (D.list [(D.str (ByteArray.mk #[110,111,112])),(D.str (ByteArray.mk #[104,97,108,116])),(D.str (ByteArray.mk #[114,101,116])),(D.str (ByteArray.mk #[112,117,115,104,32])),(D.str (ByteArray.mk #[112,111,112,32]))]) (qint (qfld sd0 2)))then
 some [(D.str (qstr (qget (D.list [(D.str (ByteArray.mk #[110,111,112])),(D.str (ByteArray.mk #[104,97,108,116])),(D.str (ByteArray.mk #[114,101,116])),(D.str (ByteArray.mk #[112,117,115,104,32])),(D.str (ByteArray.mk #[112,111,112,32]))]) (qint (qfld sd0 2)))))]
 else
 none
 else
 none
 else
 none
 else
 bif (qiteB (qcmp BinOp.eql (qint (qfld sd0 2)) 3) (qcmp BinOp.eql (qint (qfld sd0 2)) 3) (qcmp BinOp.eql (qint (qfld sd0 2)) 4))then
 bif (qcmp BinOp.leq 0 (qint (qfld sd0 2)))then
 bif (qcmp BinOp.lss (qint (qfld sd0 2)) 5)then
 bif (qinb (D.list [(D.str (ByteArray.mk #[110,111,112])),(D.str (ByteArray.mk #[104,97,108,116])),(D.str (ByteArray.mk #[114,101,116])),(D.str (ByteArray.mk #[112,117,115,104,32])),(D.str (ByteArray.mk #[112,111,112,32]))]) (qint (qfld sd0 2)))then
 bif (qsome (q15 [(D.int (qint (qfld sd0 6)))]))then
 bif (qcatOk (qstr (qget (D.list [(D.str (ByteArray.mk #[110,111,112])),(D.str (ByteArray.mk #[104,97,108,116])),(D.str (ByteArray.mk #[114,101,116])),(D.str (ByteArray.mk #[112,117,115,104,32])),(D.str (ByteArray.mk #[112,111,112,32]))]) (qint (qfld sd0 2)))) (qstr (qnth (q15 [(D.int (qint (qfld sd0 6)))]) 0)))then
 some [(D.str (qcat (qstr (qget (D.list [(D.str (ByteArray.mk #[110,111,112])),(D.str (ByteArray.mk #[104,97,108,116])),(D.str (ByteArray.mk #[114,101,116])),(D.str (ByteArray.mk #[112,117,115,104,32])),(D.str (ByteArray.mk #[112,111,112,32]))]) (qint (qfld sd0 2)))) (qstr (qnth (q15 [(D.int (qint (qfld sd0 6)))]) 0))))]
 else
 none
 else
 none
 else
 none
 else
 none
 else
 none
 else
 bif (qcmp BinOp.eql (qint (qfld sd0 2)) 16)then
 bif (qcmp BinOp.leq (-9223372036854775808) (qint (qfld sd0 4)))then
 bif (qcmp BinOp.leq (qint (qfld sd0 4)) 9223372036854775807)then
 bif (qcatOk (ByteArray.mk #[108,111,97,100]) (qitoa (qint (qfld sd0 4))))then
 bif (qcatOk (qcat (ByteArray.mk #[108,111,97,100]) (qitoa (qint (qfld sd0 4)))) (ByteArray.mk #[32]))then
 bif (qsome (q15 [(D.int (qint (qfld sd0 6)))]))then
 bif (qcatOk (qcat (qcat (ByteArray.mk #[108,111,97,100]) (qitoa (qint (qfld sd0 4)))) (ByteArray.mk #[32])) (qstr (qnth (q15 [(D.int (qint (qfld sd0 6)))]) 0)))then
 bif (qcatOk (qcat (qcat (qcat (ByteArray.mk #[108,111,97,100]) (qitoa (qint (qfld sd0 4)))) (ByteArray.mk #[32])) (qstr (qnth (q15 [(D.int (qint (qfld sd0 6)))]) 0))) (ByteArray.mk #[44,32]))then
 bif (qsome (q17 [sd0]))then
 bif (qcatOk (qcat (qcat (qcat (qcat (ByteArray.mk #[108,111,97,100]) (qitoa (qint (qfld sd0 4)))) (ByteArray.mk #[32])) (qstr (qnth (q15 [(D.int (qint (qfld sd0 6)))]) 0))) (ByteArray.mk #[44,32])) (qstr (qnth (q17 [sd0]) 0)))then
 some [(D.str (qcat (qcat (qcat (qcat (qcat (ByteArray.mk #[108,111,97,100]) (qitoa (qint (qfld sd0 4)))) (ByteArray.mk #[32])) (qstr (qnth (q15 [(D.int (qint (qfld sd0 6)))]) 0))) (ByteArray.mk #[44,32])) (qstr (qnth (q17 [sd0]) 0))))]
 else
 none
 else
 none
 else
 none
 else
 none
 else
 none
 else
 none
 else
 none
 else
 none
 else
 none
 else
 bif (qcmp BinOp.eql (qint (qfld sd0 2)) 17)then
 bif (qcmp BinOp.leq (-9223372036854775808) (qint (qfld sd0 4)))then
 bif (qcmp BinOp.leq (qint (qfld sd0 4)) 9223372036854775807)then
 bif (qcatOk (ByteArray.mk #[108,111,97,100]) (qitoa (qint (qfld sd0 4))))then
 bif (qcatOk (qcat (ByteArray.mk #[108,111,97,100]) (qitoa (qint (qfld sd0 4)))) (ByteArray.mk #[115,32]))then
 bif (qsome (q15 [(D.int (qint (qfld sd0 6)))]))then
 bif (qcatOk (qcat (qcat (ByteArray.mk #[108,111,97,100]) (qitoa (qint (qfld sd0 4)))) (ByteArray.mk #[115,32])) (qstr (qnth (q15 [(D.int (qint (qfld sd0 6)))]) 0)))then
 bif (qcatOk (qcat (qcat (qcat (ByteArray.mk #[108,111,97,100]) (qitoa (qint (qfld sd0 4)))) (ByteArray.mk #[115,32])) (qstr (qnth (q15 [(D.int (qint (qfld sd0 6)))]) 0))) (ByteArray.mk #[44,32]))then
 bif (qsome (q17 [sd0]))then
 bif (qcatOk (qcat (qcat (qcat (qcat (ByteArray.mk #[108,111,97,100]) (qitoa (qint (qfld sd0 4)))) (ByteArray.mk #[115,32])) (qstr (qnth (q15 [(D.int (qint (qfld sd0 6)))]) 0))) (ByteArray.mk #[44,32])) (qstr (qnth (q17 [sd0]) 0)))then
 some [(D.str (qcat (qcat (qcat (qcat (qcat (ByteArray.mk #[108,111,97,100]) (qitoa (qint (qfld sd0 4)))) (ByteArray.mk #[115,32])) (qstr (qnth (q15 [(D.int (qint (qfld sd0 6)))]) 0))) (ByteArray.mk #[44,32])) (qstr (qnth (q17 [sd0]) 0))))]
 else
 none
 else
 none
 else
 none
 else
 none
 else
 none
 else
 none
 else
 none
 else
 none
 else
 none
 else
 bif (qcmp BinOp.eql (qint (qfld sd0 2)) 18)then
 bif (qcmp BinOp.leq (-9223372036854775808) (qint (qfld sd0 4)))then
 bif (qcmp BinOp.leq (qint (qfld sd0 4)) 9223372036854775807)then
 bif (qcatOk (ByteArray.mk #[115,116,111,114,101]) (qitoa (qint (qfld sd0 4))))then
 bif (qcatOk (qcat (ByteArray.mk #[115,116,111,114,101]) (qitoa (qint (qfld sd0 4)))) (ByteArray.mk #[32]))then
 bif (qsome (q17 [sd0]))then
 bif (qcatOk (qcat (qcat (ByteArray.mk #[115,116,111,114,101]) (qitoa (qint (qfld sd0 4)))) (ByteArray.mk #[32])) (qstr (qnth (q17 [sd0]) 0)))then
 bif (qcatOk (qcat (qcat (qcat (ByteArray.mk #[115,116,111,114,101]) (qitoa (qint (qfld sd0 4)))) (ByteArray.mk #[32])) (qstr (qnth (q17 [sd0]) 0))) (ByteArray.mk #[44,32]))then
 bif (qsome (q15 [(D.int (qint (qfld sd0 6)))]))then
 bif (qcatOk (qcat (qcat (qcat (qcat (ByteArray.mk #[115,116,111,114,101]) (qitoa (qint (qfld sd0 4)))) (ByteArray.mk #[32])) (qstr (qnth (q17 [sd0]) 0))) (ByteArray.mk #[44,32])) (qstr (qnth (q15 [(D.int (qint (qfld sd0 6)))]) 0)))then
 some [(D.str (qcat (qcat (qcat (qcat (qcat (ByteArray.mk #[115,116,111,114,101]) (qitoa (qint (qfld sd0 4)))) (ByteArray.mk #[32])) (qstr (qnth (q17 [sd0]) 0))) (ByteArray.mk #[44,32])) (qstr (qnth (q15 [(D.int (qint (qfld sd0 6)))]) 0))))]
 else
 none
 else
 none
 else
 none
 else
 none
 else
 none
 else
 none
 else
 none
 else
 none
 else
 none
 else
 bif (qcmp BinOp.eql (qint (qfld sd0 2)) 19)then
 bif (qsome (q15 [(D.int (qint (qfld sd0 6)))]))then
 bif (qcatOk (ByteArray.mk #[108,101,97,32]) (qstr (qnth (q15 [(D.int (qint (qfld sd0 6)))]) 0)))then
 bif (qcatOk (qcat (ByteArray.mk #[108,101,97,32]) (qstr (qnth (q15 [(D.int (qint (qfld sd0 6)))]) 0))) (ByteArray.mk #[44,32]))then
 bif (qsome (q17 [sd0]))then
 bif (qcatOk (qcat (qcat (ByteArray.mk #[108,101,97,32]) (qstr (qnth (q15 [(D.int (qint (qfld sd0 6)))]) 0))) (ByteArray.mk #[44,32])) (qstr (qnth (q17 [sd0]) 0)))then
 some [(D.str (qcat (qcat (qcat (ByteArray.mk #[108,101,97,32]) (qstr (qnth (q15 [(D.int (qint (qfld sd0 6)))]) 0))) (ByteArray.mk #[44,32])) (qstr (qnth (q17 [sd0]) 0))))]
 else
 none
 else
 none
 else
 none
 else
 none
 else
 none
 else
 bif (qcmp BinOp.eql (qint (qfld sd0 2)) 20)then
 bif (qsome (q18 [sd0]))then
 some [(D.str (qstr (qnth (q18 [sd0]) 0)))]
 else
 none
 else
 bif (qcmp BinOp.eql (qint (qfld sd0 2)) 21)then
 bif (qsome (q15 [(D.int (qint (qfld sd0 6)))]))then
 bif (qcatOk (ByteArray.mk #[106,117,109,112,114,32]) (qstr (qnth (q15 [(D.int (qint (qfld sd0 6)))]) 0)))then
 some [(D.str (qcat (ByteArray.mk #[106,117,109,112,114,32]) (qstr (qnth (q15 [(D.int (qint (qfld sd0 6)))]) 0))))]
 else
 none
 else
 none
 else
 bif (qcmp BinOp.eql (qint (qfld sd0 2)) 24)then
 bif (qsome (q15 [(D.int (qint (qfld sd0 6)))]))then
 bif (qcatOk (ByteArray.mk #[99,97,108,108,114,32]) (qstr (qnth (q15 [(D.int (qint (qfld sd0 6)))]) 0)))then
 some [(D.str (qcat (ByteArray.mk #[99,97,108,108,114,32]) (qstr (qnth (q15 [(D.int (qint (qfld sd0 6)))]) 0))))]
 else
 none
 else
 none
 else
 bif (qcmp BinOp.eql (qint (qfld sd0 2)) 22)then
 bif (qsome (q15 [(D.int (qint (qfld sd0 6)))]))then
 bif (qcatOk (ByteArray.mk #[106,117,109,112,116,32]) (qstr (qnth (q15 [(D.int (qint (qfld sd0 6)))]) 0)))then
 bif (qcatOk (qcat (ByteArray.mk #[106,117,109,112,116,32]) (qstr (qnth (q15 [(D.int (qint (qfld sd0 6)))]) 0))) (ByteArray.mk #[44,32]))then
 bif (qsome (q19 [(D.int (qint (qfld sd0 1)))]))then
 bif (qcatOk (qcat (qcat (ByteArray.mk #[106,117,109,112,116,32]) (qstr (qnth (q15 [(D.int (qint (qfld sd0 6)))]) 0))) (ByteArray.mk #[44,32])) (qstr (qnth (q19 [(D.int (qint (qfld sd0 1)))]) 0)))then
 some [(D.str (qcat (qcat (qcat (ByteArray.mk #[106,117,109,112,116,32]) (qstr (qnth (q15 [(D.int (qint (qfld sd0 6)))]) 0))) (ByteArray.mk #[44,32])) (qstr (qnth (q19 [(D.int (qint (qfld sd0 1)))]) 0))))]
 else
 none
 else
 none
 else
 none
 else
 none
 else
 none
 else
 bif (qcmp BinOp.eql (qint (qfld sd0 2)) 23)then
 bif (qsome (q19 [(D.int (qint (qfld sd0 1)))]))then
 bif (qcatOk (ByteArray.mk #[99,97,108,108,32]) (qstr (qnth (q19 [(D.int (qint (qfld sd0 1)))]) 0)))then
 some [(D.str (qcat (ByteArray.mk #[99,97,108,108,32]) (qstr (qnth (q19 [(D.int (qint (qfld sd0 1)))]) 0))))]
 else
 none
 else
 none
 else
 bif (qcmp BinOp.eql (qint (qfld sd0 2)) 25)then
 bif (qsome (q20 [(D.int (qint (qfld sd0 5)))]))then
 bif (qcatOk (ByteArray.mk #[115,101,116]) (qstr (qnth (q20 [(D.int (qint (qfld sd0 5)))]) 0)))then
 bif (qcatOk (qcat (ByteArray.mk #[115,101,116]) (qstr (qnth (q20 [(D.int (qint (qfld sd0 5)))]) 0))) (ByteArray.mk #[32]))then
 bif (qsome (q15 [(D.int (qint (qfld sd0 6)))]))then
 bif (qcatOk (qcat (qcat (ByteArray.mk #[115,101,116]) (qstr (qnth (q20 [(D.int (qint (qfld sd0 5)))]) 0))) (ByteArray.mk #[32])) (qstr (qnth (q15 [(D.int (qint (qfld sd0 6)))]) 0)))then
 some [(D.str (qcat (qcat (qcat (ByteArray.mk #[115,101,116]) (qstr (qnth (q20 [(D.int (qint (qfld sd0 5)))]) 0))) (ByteArray.mk #[32])) (qstr (qnth (q15 [(D.int (qint (qfld sd0 6)))]) 0))))]
 else
 none
 else
 none
 else
 none
 else
 none
 else
 none
 else
 bif (qcmp BinOp.eql (qint (qfld sd0 2)) 26)then
 bif (qsome (q15 [(D.int (qint (qfld sd0 6)))]))then
 bif (qcatOk (ByteArray.mk #[105,110,32]) (qstr (qnth (q15 [(D.int (qint (qfld sd0 6)))]) 0)))then
 some [(D.str (qcat (ByteArray.mk #[105,110,32]) (qstr (qnth (q15 [(D.int (qint (qfld sd0 6)))]) 0))))]
 else
 none
 else
 none
 else
 bif (qcmp BinOp.eql (qint (qfld sd0 2)) 27)then
 bif (qsome (q15 [(D.int (qint (qfld sd0 6)))]))then
 bif (qcatOk (ByteArray.mk #[111,117,116,32]) (qstr (qnth (q15 [(D.int (qint (qfld sd0 6)))]) 0)))then
 some [(D.str (qcat (ByteArray.mk #[111,117,116,32]) (qstr (qnth (q15 [(D.int (qint (qfld sd0 6)))]) 0))))]
 else
 none
 else
 none
 else
 bif (qsome (q21 [sd0]))then
 some [(D.str (qstr (qnth (q21 [sd0]) 0)))]
 else
 none
 else
 none:=by kernel_rfl
noncomputable def q6:List D→Option (List D):=veil (F6)
theorem q6_eq:q6=F6:=veil_eq _
noncomputable def tb6:Tb:=Tb.addF tb21 6 S6 (q6)
theorem ok_tb6:TbOk env (tb6):=addFunF ok_tb21 6 (by kernel_rfl) _ (q6_eq)
end Go.Proofs.YtobhhfbdelnhfaaDoor
open Go Go.AM
namespace Go.Proofs.YtobhhfbdelnhfaaDoor
set_option maxRecDepth 100000
set_option linter.unusedSimpArgs false
set_option linter.unusedVariables false
def S13:FunS:=⟨[⟨true, .str⟩],[],[⟨true,(.tup [(.int .i64), .bool])⟩],[]⟩
noncomputable def F13:List D→Option (List D):=liftX env tb6 60 12 13 S13
theorem F13_eq (ss0:ByteArray):F13 [(D.str ss0)] =
 bif (qiteB (qcmp BinOp.neq (qlenS ss0) 2) Bool.true (qinbS ss0 0))then
 bif (qiteB (qiteB (qcmp BinOp.neq (qlenS ss0) 2) Bool.true (qcmp BinOp.neq (qidxS ss0 0) 114)) Bool.true (qinbS ss0 1))then
 bif (qiteB (qiteB (qiteB (qcmp BinOp.neq (qlenS ss0) 2) Bool.true (qcmp BinOp.neq (qidxS ss0 0) 114)) Bool.true (qcmp BinOp.lss (qidxS ss0 1) 48)) Bool.true (qinbS ss0 1))then
 bif (qiteB (qiteB (qiteB (qcmp BinOp.neq (qlenS ss0) 2) Bool.true (qcmp BinOp.neq (qidxS ss0 0) 114)) Bool.true (qcmp BinOp.lss (qidxS ss0 1) 48)) Bool.true (qcmp BinOp.gtr (qidxS ss0 1) 55))then
 some [(D.int 0),(D.bool Bool.false)]
 else
 bif (qinbS ss0 1)then
 some [(D.int (qwrap IntKind.i64 (qbin BinOp.sub IntKind.u8 (qidxS ss0 1) 48))),(D.bool Bool.true)]
 else
 none
 else
 none
 else
 none
 else
 none:=by kernel_rfl
noncomputable def q13:List D→Option (List D):=veil (F13)
theorem q13_eq:q13=F13:=veil_eq _
noncomputable def tb13:Tb:=Tb.addF tb6 13 S13 (q13)
theorem ok_tb13:TbOk env (tb13):=addFunF ok_tb6 13 (by kernel_rfl) _ (q13_eq)
def S14:FunS:=⟨[⟨true, .str⟩],[],[⟨true,(.tup [(.int .i64), .bool])⟩],[]⟩
noncomputable def F14:List D→Option (List D):=liftX env tb13 60 12 14 S14
theorem F14_eq (ss0:ByteArray):F14 [(D.str ss0)] =
 bif (qiteB (qcmp BinOp.eql (qlenS ss0) 2) (qinbS ss0 0) Bool.true)then
 bif (qiteB (qiteB (qcmp BinOp.eql (qlenS ss0) 2) (qcmp BinOp.eql (qidxS ss0 0) 114) Bool.false) (qinbS ss0 1) Bool.true)then
 bif (qiteB (qiteB (qiteB (qcmp BinOp.eql (qlenS ss0) 2) (qcmp BinOp.eql (qidxS ss0 0) 114) Bool.false) (qcmp BinOp.geq (qidxS ss0 1) 48) Bool.false) (qinbS ss0 1) Bool.true)then
 bif (qiteB (qiteB (qiteB (qcmp BinOp.eql (qlenS ss0) 2) (qcmp BinOp.eql (qidxS ss0 0) 114) Bool.false) (qcmp BinOp.geq (qidxS ss0 1) 48) Bool.false) (qcmp BinOp.leq (qidxS ss0 1) 55) Bool.false)then
 bif (qinbS ss0 1)then
 some [(D.int (qwrap IntKind.i64 (qbin BinOp.sub IntKind.u8 (qidxS ss0 1) 48))),(D.bool Bool.true)]
 else
 none
 else
 some [(D.int 0),(D.bool Bool.false)]
 else
 none
 else
 none
 else
 none:=by kernel_rfl
noncomputable def q14:List D→Option (List D):=veil (F14)
theorem q14_eq:q14=F14:=veil_eq _
noncomputable def tb14:Tb:=Tb.addF tb13 14 S14 (q14)
theorem ok_tb14:TbOk env (tb14):=addFunF ok_tb13 14 (by kernel_rfl) _ (q14_eq)
def S28_3:LoopS:=⟨0,[⟨false, .str⟩,⟨false,(.int .u64)⟩,⟨false,(.int .i64)⟩,uF,uF,uF,⟨false,(.lit (.int .u64 0))⟩,⟨false,(.lit (.bool false))⟩,⟨true,(.int .u64)⟩,uF,uF,uF,uF,⟨false,(.ptr 0 0)⟩,uF,uF,uF,uF,uF,uF,uF,uF,uF,uF,uF,uF,uF,uF,uF,uF,uF,uF,uF,uF,uF,uF,uF,uF,uF,uF,uF,uF,uF,uF,uF,uF,uF,uF,uF,uF,uF,uF,uF,uF,uF,uF,uF,uF,uF],[.sit],[⟨0,0,[⟨false, .str⟩,⟨false,(.int .u64)⟩,⟨false,(.int .i64)⟩,uT,uT,uT,⟨true,(.lit (.int .u64 0))⟩,⟨true,(.lit (.bool false))⟩,⟨true,(.int .u64)⟩,uT,uT,uT,uT,uT,uT,uT,uT,uT,uT,uT,uT,uT,uT,uT,uT,uT,uT,uT,uT,uT,uT,uT,uT,uT,uT,uT,uT,uT,uT,uT,uT,uT,uT,uT,uT,uT,uT,uT,uT,uT,uT,uT,uT,uT,uT,uT,uT,uT,uT],[.sit]⟩,⟨1,0,[⟨false, .str⟩,⟨false,(.int .u64)⟩,⟨false,(.int .i64)⟩,uT,uT,uT,⟨true,(.lit (.int .u64 0))⟩,⟨true,(.lit (.bool false))⟩,uT,uT,uT,uT,uT,uT,uT,uT,uT,uT,uT,uT,uT,uT,uT,uT,uT,uT,uT,uT,uT,uT,uT,uT,uT,uT,uT,uT,uT,uT,uT,uT,uT,uT,uT,uT,uT,uT,uT,uT,uT,uT,uT,uT,uT,uT,uT,uT,uT,uT,uT],[.sit]⟩]⟩
noncomputable def st28_3 (p s:List D):Option (Sum (List D) (List D)):=stepQX env tb14 60 12 28 (loopC 28 3) S28_3 p s
theorem st28_3_eq (ps0:ByteArray) (pn1:Int) (pn2:Int) (ps3:ByteArray) (sn0:Int) (sn1:Int):st28_3 [(D.str ps0),(D.int pn1),(D.int pn2),(D.str ps3)] [(D.int sn0),(D.int sn1)] =
 bif (qcmp BinOp.lss sn1 (qlenS ps3))then
 bif (qcmp BinOp.lss sn1 (qlenS ps3))then
 bif (qiteB (qcmp BinOp.geq (qrune ps3 sn1) 48) (qcmp BinOp.leq (qrune ps3 sn1) 57) Bool.false)then
 bif (qcmp BinOp.geq (qwrap IntKind.u64 (qbin BinOp.sub IntKind.i32 (qrune ps3 sn1) 48)) pn1)then
 some (Sum.inr [(D.int 1),(D.int (qiteI (qcmp BinOp.lss sn1 (qlenS ps3)) (qrw ps3 sn1) sn1))])
 else
 bif (qcmp BinOp.gtr (qbin BinOp.add IntKind.u64 (qbin BinOp.mul IntKind.u64 sn0 pn1) (qwrap IntKind.u64 (qbin BinOp.sub IntKind.i32 (qrune ps3 sn1) 48))) 1099511627776)then
 some (Sum.inr [(D.int 1),(D.int (qiteI (qcmp BinOp.lss sn1 (qlenS ps3)) (qrw ps3 sn1) sn1))])
 else
 some (Sum.inl [(D.int (qbin BinOp.add IntKind.u64 (qbin BinOp.mul IntKind.u64 sn0 pn1) (qwrap IntKind.u64 (qbin BinOp.sub IntKind.i32 (qrune ps3 sn1) 48)))),(D.int (qiteI (qcmp BinOp.lss sn1 (qlenS ps3)) (qrw ps3 sn1) sn1))])
 else
 bif (qiteB (qcmp BinOp.geq (qrune ps3 sn1) 97) (qcmp BinOp.leq (qrune ps3 sn1) 102) Bool.false)then
 bif (qcmp BinOp.geq (qbin BinOp.add IntKind.u64 (qwrap IntKind.u64 (qbin BinOp.sub IntKind.i32 (qrune ps3 sn1) 97)) 10) pn1)then
 some (Sum.inr [(D.int 1),(D.int (qiteI (qcmp BinOp.lss sn1 (qlenS ps3)) (qrw ps3 sn1) sn1))])
 else
 bif (qcmp BinOp.gtr (qbin BinOp.add IntKind.u64 (qbin BinOp.mul IntKind.u64 sn0 pn1) (qbin BinOp.add IntKind.u64 (qwrap IntKind.u64 (qbin BinOp.sub IntKind.i32 (qrune ps3 sn1) 97)) 10)) 1099511627776)then
 some (Sum.inr [(D.int 1),(D.int (qiteI (qcmp BinOp.lss sn1 (qlenS ps3)) (qrw ps3 sn1) sn1))])
 else
 some (Sum.inl [(D.int (qbin BinOp.add IntKind.u64 (qbin BinOp.mul IntKind.u64 sn0 pn1) (qbin BinOp.add IntKind.u64 (qwrap IntKind.u64 (qbin BinOp.sub IntKind.i32 (qrune ps3 sn1) 97)) 10))),(D.int (qiteI (qcmp BinOp.lss sn1 (qlenS ps3)) (qrw ps3 sn1) sn1))])
 else
 bif (qcmp BinOp.geq pn1 pn1)then
 some (Sum.inr [(D.int 1),(D.int (qiteI (qcmp BinOp.lss sn1 (qlenS ps3)) (qrw ps3 sn1) sn1))])
 else
 bif (qcmp BinOp.gtr (qbin BinOp.add IntKind.u64 (qbin BinOp.mul IntKind.u64 sn0 pn1) pn1) 1099511627776)then
 some (Sum.inr [(D.int 1),(D.int (qiteI (qcmp BinOp.lss sn1 (qlenS ps3)) (qrw ps3 sn1) sn1))])
 else
 some (Sum.inl [(D.int (qbin BinOp.add IntKind.u64 (qbin BinOp.mul IntKind.u64 sn0 pn1) pn1)),(D.int (qiteI (qcmp BinOp.lss sn1 (qlenS ps3)) (qrw ps3 sn1) sn1))])
 else
 none
 else
 some (Sum.inr [(D.int 0),(D.int sn0),(D.int (qiteI (qcmp BinOp.lss sn1 (qlenS ps3)) (qrw ps3 sn1) sn1))]):=by
 have h:st28_3 [(D.str ps0),(D.int pn1),(D.int pn2),(D.str ps3)] [(D.int sn0),(D.int sn1)] =
  bif (qcmp BinOp.lss sn1 (qlenS ps3))then
  bif (qcmp BinOp.lss sn1 (qlenS ps3))then
  bif (qiteB (qcmp BinOp.geq (qrune ps3 sn1) 48) (qcmp BinOp.leq (qrune ps3 sn1) 57) Bool.false)then
  bif (qcmp BinOp.geq (qwrap IntKind.u64 (qbin BinOp.sub IntKind.i32 (qrune ps3 sn1) 48)) pn1)then
  bif (qeqD (D.str ps0) (D.str ps0))then
  bif (qeqD (D.int pn1) (D.int pn1))then
  bif (qeqD (D.int pn2) (D.int pn2))then
  bif (qeqD (D.str ps3) (D.str ps3))then
  some (Sum.inr [(D.int 1),(D.int (qiteI (qcmp BinOp.lss sn1 (qlenS ps3)) (qrw ps3 sn1) sn1))])
  else
  none
  else
  none
  else
  none
  else
  none
  else
  bif (qcmp BinOp.gtr (qbin BinOp.add IntKind.u64 (qbin BinOp.mul IntKind.u64 sn0 pn1) (qwrap IntKind.u64 (qbin BinOp.sub IntKind.i32 (qrune ps3 sn1) 48))) 1099511627776)then
  bif (qeqD (D.str ps0) (D.str ps0))then
  bif (qeqD (D.int pn1) (D.int pn1))then
  bif (qeqD (D.int pn2) (D.int pn2))then
  bif (qeqD (D.str ps3) (D.str ps3))then
  some (Sum.inr [(D.int 1),(D.int (qiteI (qcmp BinOp.lss sn1 (qlenS ps3)) (qrw ps3 sn1) sn1))])
  else
  none
  else
  none
  else
  none
  else
  none
  else
  bif (qeqD (D.str ps0) (D.str ps0))then
  bif (qeqD (D.int pn1) (D.int pn1))then
  bif (qeqD (D.int pn2) (D.int pn2))then
  bif (qeqD (D.str ps3) (D.str ps3))then
  some (Sum.inl [(D.int (qbin BinOp.add IntKind.u64 (qbin BinOp.mul IntKind.u64 sn0 pn1) (qwrap IntKind.u64 (qbin BinOp.sub IntKind.i32 (qrune ps3 sn1) 48)))),(D.int (qiteI (qcmp BinOp.lss sn1 (qlenS ps3)) (qrw ps3 sn1) sn1))])
  else
  none
  else
  none
  else
  none
  else
  none
  else
  bif (qiteB (qcmp BinOp.geq (qrune ps3 sn1) 97) (qcmp BinOp.leq (qrune ps3 sn1) 102) Bool.false)then
  bif (qcmp BinOp.geq (qbin BinOp.add IntKind.u64 (qwrap IntKind.u64 (qbin BinOp.sub IntKind.i32 (qrune ps3 sn1) 97)) 10) pn1)then
  bif (qeqD (D.str ps0) (D.str ps0))then
  bif (qeqD (D.int pn1) (D.int pn1))then
  bif (qeqD (D.int pn2) (D.int pn2))then
  bif (qeqD (D.str ps3) (D.str ps3))then
  some (Sum.inr [(D.int 1),(D.int (qiteI (qcmp BinOp.lss sn1 (qlenS ps3)) (qrw ps3 sn1) sn1))])
  else
  none
  else
  none
  else
  none
  else
  none
  else
  bif (qcmp BinOp.gtr (qbin BinOp.add IntKind.u64 (qbin BinOp.mul IntKind.u64 sn0 pn1) (qbin BinOp.add IntKind.u64 (qwrap IntKind.u64 (qbin BinOp.sub IntKind.i32 (qrune ps3 sn1) 97)) 10)) 1099511627776)then
  bif (qeqD (D.str ps0) (D.str ps0))then
  bif (qeqD (D.int pn1) (D.int pn1))then
  bif (qeqD (D.int pn2) (D.int pn2))then
  bif (qeqD (D.str ps3) (D.str ps3))then
  some (Sum.inr [(D.int 1),(D.int (qiteI (qcmp BinOp.lss sn1 (qlenS ps3)) (qrw ps3 sn1) sn1))])
  else
  none
  else
  none
  else
  none
  else
  none
  else
  bif (qeqD (D.str ps0) (D.str ps0))then
  bif (qeqD (D.int pn1) (D.int pn1))then
  bif (qeqD (D.int pn2) (D.int pn2))then
  bif (qeqD (D.str ps3) (D.str ps3))then
  some (Sum.inl [(D.int (qbin BinOp.add IntKind.u64 (qbin BinOp.mul IntKind.u64 sn0 pn1) (qbin BinOp.add IntKind.u64 (qwrap IntKind.u64 (qbin BinOp.sub IntKind.i32 (qrune ps3 sn1) 97)) 10))),(D.int (qiteI (qcmp BinOp.lss sn1 (qlenS ps3)) (qrw ps3 sn1) sn1))])
  else
  none
  else
  none
  else
  none
  else
  none
  else
  bif (qcmp BinOp.geq pn1 pn1)then
  bif (qeqD (D.str ps0) (D.str ps0))then
  bif (qeqD (D.int pn1) (D.int pn1))then
  bif (qeqD (D.int pn2) (D.int pn2))then
  bif (qeqD (D.str ps3) (D.str ps3))then
  some (Sum.inr [(D.int 1),(D.int (qiteI (qcmp BinOp.lss sn1 (qlenS ps3)) (qrw ps3 sn1) sn1))])
  else
  none
  else
  none
  else
  none
  else
  none
  else
  bif (qcmp BinOp.gtr (qbin BinOp.add IntKind.u64 (qbin BinOp.mul IntKind.u64 sn0 pn1) pn1) 1099511627776)then
  bif (qeqD (D.str ps0) (D.str ps0))then
  bif (qeqD (D.int pn1) (D.int pn1))then
  bif (qeqD (D.int pn2) (D.int pn2))then
  bif (qeqD (D.str ps3) (D.str ps3))then
  some (Sum.inr [(D.int 1),(D.int (qiteI (qcmp BinOp.lss sn1 (qlenS ps3)) (qrw ps3 sn1) sn1))])
  else
  none
  else
  none
  else
  none
  else
  none
  else
  bif (qeqD (D.str ps0) (D.str ps0))then
  bif (qeqD (D.int pn1) (D.int pn1))then
  bif (qeqD (D.int pn2) (D.int pn2))then
  bif (qeqD (D.str ps3) (D.str ps3))then
  some (Sum.inl [(D.int (qbin BinOp.add IntKind.u64 (qbin BinOp.mul IntKind.u64 sn0 pn1) pn1)),(D.int (qiteI (qcmp BinOp.lss sn1 (qlenS ps3)) (qrw ps3 sn1) sn1))])
  else
  none
  else
  none
  else
  none
  else
  none
  else
  none
  else
  bif (qeqD (D.str ps0) (D.str ps0))then
  bif (qeqD (D.int pn1) (D.int pn1))then
  bif (qeqD (D.int pn2) (D.int pn2))then
  bif (qeqD (D.str ps3) (D.str ps3))then
  some (Sum.inr [(D.int 0),(D.int sn0),(D.int (qiteI (qcmp BinOp.lss sn1 (qlenS ps3)) (qrw ps3 sn1) sn1))])
  else
  none
  else
  none
  else
  none
  else
  none:=by kernel_rfl
 rw[h];simp only[qeqD_self,qeqI_self,qeq_len,show qcmp BinOp.eql 0 (qlen (D.list []))=true from qeq_len [],show∀a,qcmp BinOp.eql 1 (qlen (D.list [a]))=true from fun a=>qeq_len [a],show∀a b,qcmp BinOp.eql 2 (qlen (D.list [a,b]))=true from fun a b=>qeq_len [a,b],show∀a b c,qcmp BinOp.eql 3 (qlen (D.list [a,b,c]))=true from fun a b c=>qeq_len [a,b,c],show∀a b c d,qcmp BinOp.eql 4 (qlen (D.list [a,b,c,d]))=true from fun a b c d=>qeq_len [a,b,c,d],cond_true]
noncomputable def l28_3:List D→List D→Option (List D):=veil fun p s=>loW (st28_3 p) s
theorem l28_3_eq:l28_3=fun p s=>loW (st28_3 p) s:=veil_eq _
noncomputable def tbl28_3:Tb:=Tb.addL tb14 28 3 S28_3.n0 (mkLp S28_3 (l28_3))
theorem ok_tbl28_3:TbOk env (tbl28_3):=addLoopQ ok_tb14 28 3 (by kernel_rfl) _ (l28_3_eq)
def S28:FunS:=⟨[⟨true, .str⟩,⟨true,(.int .u64)⟩,⟨true,(.int .i64)⟩],[],[⟨true,(.tup [(.int .u64), .bool])⟩],[]⟩
noncomputable def F28:List D→Option (List D):=liftX env tbl28_3 60 12 28 S28
theorem F28_eq (ss0:ByteArray) (sn1:Int) (sn2:Int):F28 [(D.str ss0),(D.int sn1),(D.int sn2)] =
 bif (qsome (l28_3 [(D.str ss0),(D.int sn1),(D.int sn2),(D.str ss0)] [(D.int 0),(D.int 0)]))then
 bif (qcmp BinOp.eql (qint (qnth (l28_3 [(D.str ss0),(D.int sn1),(D.int sn2),(D.str ss0)] [(D.int 0),(D.int 0)]) 0)) 0)then
 some [(D.int (qint (qnth (l28_3 [(D.str ss0),(D.int sn1),(D.int sn2),(D.str ss0)] [(D.int 0),(D.int 0)]) 1))),(D.bool (qiteB (qcmp BinOp.geq (qlenS ss0) 1) (qcmp BinOp.leq (qlenS ss0) sn2) Bool.false))]
 else
 some [(D.int 0),(D.bool Bool.false)]
 else
 none:=by kernel_rfl
noncomputable def q28:List D→Option (List D):=veil (F28)
theorem q28_eq:q28=F28:=veil_eq _
noncomputable def tb28:Tb:=Tb.addF tbl28_3 28 S28 (q28)
theorem ok_tb28:TbOk env (tb28):=addFunF ok_tbl28_3 28 (by kernel_rfl) _ (q28_eq)
def S66:FunS:=⟨[⟨true, .str⟩,⟨true, .str⟩],[],[⟨true, .bool⟩],[]⟩
noncomputable def F66:List D→Option (List D):=liftX env tb28 60 12 66 S66
theorem F66_eq (ss0:ByteArray) (ss1:ByteArray):F66 [(D.str ss0),(D.str ss1)] =
 bif (qiteB (qcmp BinOp.geq (qlenS ss0) (qlenS ss1)) (qand (qcmp BinOp.leq 0 0) (qand (qcmp BinOp.leq 0 (qlenS ss1)) (qcmp BinOp.leq (qlenS ss1) (qlenS ss0)))) Bool.true)then
 some [(D.bool (qiteB (qcmp BinOp.geq (qlenS ss0) (qlenS ss1)) (qcmpS BinOp.eql (qsubS ss0 0 (qlenS ss1)) ss1) Bool.false))]
 else
 none:=by kernel_rfl
noncomputable def q66:List D→Option (List D):=veil (F66)
theorem q66_eq:q66=F66:=veil_eq _
noncomputable def tb66:Tb:=Tb.addF tb28 66 S66 (q66)
theorem ok_tb66:TbOk env (tb66):=addFunF ok_tb28 66 (by kernel_rfl) _ (q66_eq)
def S49:FunS:=⟨[⟨true, .str⟩,⟨true, .str⟩],[],[⟨true,(.tup [.str, .bool])⟩],[]⟩
noncomputable def F49:List D→Option (List D):=liftX env tb66 60 12 49 S49
theorem F49_eq (ss0:ByteArray) (ss1:ByteArray):F49 [(D.str ss0),(D.str ss1)] =
 bif (qsome (q66 [(D.str ss0),(D.str ss1)]))then
 bif (qnot (qbool (qnth (q66 [(D.str ss0),(D.str ss1)]) 0)))then
 some [(D.str ss0),(D.bool Bool.false)]
 else
 bif (qcmp BinOp.leq 0 (qlenS ss1))then
 bif (qcmp BinOp.leq (qlenS ss1) (qlenS ss0))then
 bif (qcmp BinOp.leq (qlenS ss0) (qlenS ss0))then
 some [(D.str (qsubS ss0 (qlenS ss1) (qlenS ss0))),(D.bool Bool.true)]
 else
 none
 else
 none
 else
 none
 else
 none:=by kernel_rfl
noncomputable def q49:List D→Option (List D):=veil (F49)
theorem q49_eq:q49=F49:=veil_eq _
noncomputable def tb49:Tb:=Tb.addF tb66 49 S49 (q49)
theorem ok_tb49:TbOk env (tb49):=addFunF ok_tb66 49 (by kernel_rfl) _ (q49_eq)
def S27:FunS:=⟨[⟨true, .str⟩,⟨true, .str⟩],[],[⟨true,(.tup [.str, .bool])⟩],[]⟩
noncomputable def F27:List D→Option (List D):=liftX env tb49 60 12 27 S27
theorem F27_eq (ss0:ByteArray) (ss1:ByteArray):F27 [(D.str ss0),(D.str ss1)] =
 bif (qsome (q49 [(D.str ss0),(D.str ss1)]))then
 some [(D.str (qstr (qnth (q49 [(D.str ss0),(D.str ss1)]) 0))),(D.bool (qbool (qnth (q49 [(D.str ss0),(D.str ss1)]) 1)))]
 else
 none:=by kernel_rfl
noncomputable def q27:List D→Option (List D):=veil (F27)
theorem q27_eq:q27=F27:=veil_eq _
noncomputable def tb27:Tb:=Tb.addF tb49 27 S27 (q27)
theorem ok_tb27:TbOk env (tb27):=addFunF ok_tb49 27 (by kernel_rfl) _ (q27_eq)
def S11:FunS:=⟨[⟨true, .str⟩],[],[⟨true,(.tup [(.int .u32), .bool])⟩],[]⟩
noncomputable def F11:List D→Option (List D):=liftX env tb27 60 12 11 S11
theorem F11_eq (ss0:ByteArray):F11 [(D.str ss0)] =
 bif (qsome (q27 [(D.str ss0),(D.str (ByteArray.mk #[48,120]))]))then
 bif (qbool (qnth (q27 [(D.str ss0),(D.str (ByteArray.mk #[48,120]))]) 1))then
 bif (qsome (q28 [(D.str (qstr (qnth (q27 [(D.str ss0),(D.str (ByteArray.mk #[48,120]))]) 0))),(D.int 16),(D.int 8)]))then
 bif (qnot (qbool (qnth (q28 [(D.str (qstr (qnth (q27 [(D.str ss0),(D.str (ByteArray.mk #[48,120]))]) 0))),(D.int 16),(D.int 8)]) 1)))then
 some [(D.int 0),(D.bool Bool.false)]
 else
 some [(D.int (qwrap IntKind.u32 (qint (qnth (q28 [(D.str (qstr (qnth (q27 [(D.str ss0),(D.str (ByteArray.mk #[48,120]))]) 0))),(D.int 16),(D.int 8)]) 0)))),(D.bool Bool.true)]
 else
 none
 else
 bif (qcmpS BinOp.eql ss0 (ByteArray.mk #[48]))then
 some [(D.int 0),(D.bool Bool.true)]
 else
 bif (qsome (q27 [(D.str ss0),(D.str (ByteArray.mk #[45]))]))then
 bif (qsome (q28 [(D.str (qstr (qnth (q27 [(D.str ss0),(D.str (ByteArray.mk #[45]))]) 0))),(D.int 10),(D.int 10)]))then
 bif (qiteB (qnot (qbool (qnth (q28 [(D.str (qstr (qnth (q27 [(D.str ss0),(D.str (ByteArray.mk #[45]))]) 0))),(D.int 10),(D.int 10)]) 1))) Bool.true (qinbS (qstr (qnth (q27 [(D.str ss0),(D.str (ByteArray.mk #[45]))]) 0)) 0))then
 bif (qiteB (qiteB (qiteB (qnot (qbool (qnth (q28 [(D.str (qstr (qnth (q27 [(D.str ss0),(D.str (ByteArray.mk #[45]))]) 0))),(D.int 10),(D.int 10)]) 1))) Bool.true (qcmp BinOp.eql (qidxS (qstr (qnth (q27 [(D.str ss0),(D.str (ByteArray.mk #[45]))]) 0)) 0) 48)) Bool.true (qcmp BinOp.geq (qint (qnth (q28 [(D.str (qstr (qnth (q27 [(D.str ss0),(D.str (ByteArray.mk #[45]))]) 0))),(D.int 10),(D.int 10)]) 0)) 4294967296)) Bool.true (qiteB (qbool (qnth (q27 [(D.str ss0),(D.str (ByteArray.mk #[45]))]) 1)) (qcmp BinOp.gtr (qint (qnth (q28 [(D.str (qstr (qnth (q27 [(D.str ss0),(D.str (ByteArray.mk #[45]))]) 0))),(D.int 10),(D.int 10)]) 0)) 2147483648) Bool.false))then
 some [(D.int 0),(D.bool Bool.false)]
 else
 bif (qbool (qnth (q27 [(D.str ss0),(D.str (ByteArray.mk #[45]))]) 1))then
 some [(D.int (qun UnOp.neg IntKind.u32 (qwrap IntKind.u32 (qint (qnth (q28 [(D.str (qstr (qnth (q27 [(D.str ss0),(D.str (ByteArray.mk #[45]))]) 0))),(D.int 10),(D.int 10)]) 0))))),(D.bool Bool.true)]
 else
 some [(D.int (qwrap IntKind.u32 (qint (qnth (q28 [(D.str (qstr (qnth (q27 [(D.str ss0),(D.str (ByteArray.mk #[45]))]) 0))),(D.int 10),(D.int 10)]) 0)))),(D.bool Bool.true)]
 else
 none
 else
 none
 else
 none
 else
 none:=by kernel_rfl
noncomputable def q11:List D→Option (List D):=veil (F11)
theorem q11_eq:q11=F11:=veil_eq _
noncomputable def tb11:Tb:=Tb.addF tb27 11 S11 (q11)
theorem ok_tb11:TbOk env (tb11):=addFunF ok_tb27 11 (by kernel_rfl) _ (q11_eq)
def S50:FunS:=⟨[⟨true,(.int .u8)⟩],[],[⟨true,(.int .i64)⟩],[]⟩
noncomputable def F50:List D→Option (List D):=liftX env tb11 60 12 50 S50
theorem F50_eq (sn0:Int):F50 [(D.int sn0)] =
 bif (qiteB (qcmp BinOp.geq sn0 48) (qcmp BinOp.leq sn0 57) Bool.false)then
 some [(D.int (qwrap IntKind.i64 (qbin BinOp.sub IntKind.u8 sn0 48)))]
 else
 bif (qiteB (qcmp BinOp.geq sn0 97) (qcmp BinOp.leq sn0 102) Bool.false)then
 some [(D.int (qbin BinOp.add IntKind.i64 (qwrap IntKind.i64 (qbin BinOp.sub IntKind.u8 sn0 97)) 10))]
 else
 some [(D.int (-1))]:=by kernel_rfl
noncomputable def q50:List D→Option (List D):=veil (F50)
theorem q50_eq:q50=F50:=veil_eq _
noncomputable def tb50:Tb:=Tb.addF tb11 50 S50 (q50)
theorem ok_tb50:TbOk env (tb50):=addFunF ok_tb11 50 (by kernel_rfl) _ (q50_eq)
def S29_5:LoopS:=⟨0,[⟨false, .str⟩,⟨false,(.int .i64)⟩,uF,uF,⟨false,(.lit (.int .u64 0))⟩,⟨false,(.lit (.bool false))⟩,⟨true,(.int .u64)⟩,⟨true,(.int .i64)⟩,uF,uF,uF,uF,uF,uF,uF,uF,uF,uF,uF,uF,uF,uF,uF,uF,uF,uF,uF,uF,uF,uF,uF,uF,uF,uF,uF,uF,uF,uF,uF,uF,uF,uF],[],[⟨0,0,[⟨false, .str⟩,⟨false,(.int .i64)⟩,uT,uT,⟨true,(.lit (.int .u64 0))⟩,⟨true,(.lit (.bool false))⟩,⟨true,(.int .u64)⟩,uT,uT,uT,uT,uT,uT,uT,uT,uT,uT,uT,uT,uT,uT,uT,uT,uT,uT,uT,uT,uT,uT,uT,uT,uT,uT,uT,uT,uT,uT,uT,uT,uT,uT,uT],[]⟩,⟨1,0,[⟨false, .str⟩,⟨false,(.int .i64)⟩,uT,uT,⟨true,(.lit (.int .u64 0))⟩,⟨true,(.lit (.bool false))⟩,uT,uT,uT,uT,uT,uT,uT,uT,uT,uT,uT,uT,uT,uT,uT,uT,uT,uT,uT,uT,uT,uT,uT,uT,uT,uT,uT,uT,uT,uT,uT,uT,uT,uT,uT,uT],[]⟩]⟩
noncomputable def st29_5 (p s:List D):Option (Sum (List D) (List D)):=stepQX env tb50 60 12 29 (loopC 29 5) S29_5 p s
theorem st29_5_eq (ps0:ByteArray) (pn1:Int) (sn0:Int) (sn1:Int):st29_5 [(D.str ps0),(D.int pn1)] [(D.int sn0),(D.int sn1)] =
 bif (qcmp BinOp.lss sn1 (qlenS ps0))then
 bif (qinbS ps0 sn1)then
 bif (qsome (q50 [(D.int (qidxS ps0 sn1))]))then
 bif (qiteB (qcmp BinOp.lss (qint (qnth (q50 [(D.int (qidxS ps0 sn1))]) 0)) 0) Bool.true (qcmp BinOp.geq (qint (qnth (q50 [(D.int (qidxS ps0 sn1))]) 0)) pn1))then
 some (Sum.inr [(D.int 1)])
 else
 some (Sum.inl [(D.int (qbin BinOp.add IntKind.u64 (qbin BinOp.mul IntKind.u64 sn0 (qwrap IntKind.u64 pn1)) (qwrap IntKind.u64 (qint (qnth (q50 [(D.int (qidxS ps0 sn1))]) 0))))),(D.int (qbin BinOp.add IntKind.i64 sn1 1))])
 else
 none
 else
 none
 else
 some (Sum.inr [(D.int 0),(D.int sn0)]):=by
 have h:st29_5 [(D.str ps0),(D.int pn1)] [(D.int sn0),(D.int sn1)] =
  bif (qcmp BinOp.lss sn1 (qlenS ps0))then
  bif (qinbS ps0 sn1)then
  bif (qsome (q50 [(D.int (qidxS ps0 sn1))]))then
  bif (qiteB (qcmp BinOp.lss (qint (qnth (q50 [(D.int (qidxS ps0 sn1))]) 0)) 0) Bool.true (qcmp BinOp.geq (qint (qnth (q50 [(D.int (qidxS ps0 sn1))]) 0)) pn1))then
  bif (qeqD (D.str ps0) (D.str ps0))then
  bif (qeqD (D.int pn1) (D.int pn1))then
  some (Sum.inr [(D.int 1)])
  else
  none
  else
  none
  else
  bif (qeqD (D.str ps0) (D.str ps0))then
  bif (qeqD (D.int pn1) (D.int pn1))then
  some (Sum.inl [(D.int (qbin BinOp.add IntKind.u64 (qbin BinOp.mul IntKind.u64 sn0 (qwrap IntKind.u64 pn1)) (qwrap IntKind.u64 (qint (qnth (q50 [(D.int (qidxS ps0 sn1))]) 0))))),(D.int (qbin BinOp.add IntKind.i64 sn1 1))])
  else
  none
  else
  none
  else
  none
  else
  none
  else
  bif (qeqD (D.str ps0) (D.str ps0))then
  bif (qeqD (D.int pn1) (D.int pn1))then
  some (Sum.inr [(D.int 0),(D.int sn0)])
  else
  none
  else
  none:=by kernel_rfl
 rw[h];simp only[qeqD_self,qeqI_self,qeq_len,show qcmp BinOp.eql 0 (qlen (D.list []))=true from qeq_len [],show∀a,qcmp BinOp.eql 1 (qlen (D.list [a]))=true from fun a=>qeq_len [a],show∀a b,qcmp BinOp.eql 2 (qlen (D.list [a,b]))=true from fun a b=>qeq_len [a,b],show∀a b c,qcmp BinOp.eql 3 (qlen (D.list [a,b,c]))=true from fun a b c=>qeq_len [a,b,c],show∀a b c d,qcmp BinOp.eql 4 (qlen (D.list [a,b,c,d]))=true from fun a b c d=>qeq_len [a,b,c,d],cond_true]
noncomputable def l29_5:List D→List D→Option (List D):=veil fun p s=>loW (st29_5 p) s
theorem l29_5_eq:l29_5=fun p s=>loW (st29_5 p) s:=veil_eq _
noncomputable def tbl29_5:Tb:=Tb.addL tb50 29 5 S29_5.n0 (mkLp S29_5 (l29_5))
theorem ok_tbl29_5:TbOk env (tbl29_5):=addLoopQ ok_tb50 29 5 (by kernel_rfl) _ (l29_5_eq)
def S29:FunS:=⟨[⟨true, .str⟩,⟨true,(.int .i64)⟩],[],[⟨true,(.tup [(.int .u64), .bool])⟩],[]⟩
noncomputable def F29:List D→Option (List D):=liftX env tbl29_5 60 12 29 S29
theorem F29_eq (ss0:ByteArray) (sn1:Int):F29 [(D.str ss0),(D.int sn1)] =
 bif (qiteB (qcmp BinOp.lss (qlenS ss0) 1) Bool.true (qcmp BinOp.gtr (qlenS ss0) 10))then
 some [(D.int 0),(D.bool Bool.false)]
 else
 bif (qsome (l29_5 [(D.str ss0),(D.int sn1)] [(D.int 0),(D.int 0)]))then
 bif (qcmp BinOp.eql (qint (qnth (l29_5 [(D.str ss0),(D.int sn1)] [(D.int 0),(D.int 0)]) 0)) 0)then
 some [(D.int (qint (qnth (l29_5 [(D.str ss0),(D.int sn1)] [(D.int 0),(D.int 0)]) 1))),(D.bool Bool.true)]
 else
 some [(D.int 0),(D.bool Bool.false)]
 else
 none:=by kernel_rfl
noncomputable def q29:List D→Option (List D):=veil (F29)
theorem q29_eq:q29=F29:=veil_eq _
noncomputable def tb29:Tb:=Tb.addF tbl29_5 29 S29 (q29)
theorem ok_tb29:TbOk env (tb29):=addFunF ok_tbl29_5 29 (by kernel_rfl) _ (q29_eq)
def S12:FunS:=⟨[⟨true, .str⟩],[],[⟨true,(.tup [(.int .u32), .bool])⟩],[]⟩
noncomputable def F12:List D→Option (List D):=liftX env tb29 60 12 12 S12
theorem F12_eq (ss0:ByteArray):F12 [(D.str ss0)] =
 bif (qiteB (qcmp BinOp.gtr (qlenS ss0) 2) (qand (qcmp BinOp.leq 0 0) (qand (qcmp BinOp.leq 0 2) (qcmp BinOp.leq 2 (qlenS ss0)))) Bool.true)then
 bif (qiteB (qcmp BinOp.gtr (qlenS ss0) 2) (qcmpS BinOp.eql (qsubS ss0 0 2) (ByteArray.mk #[48,120])) Bool.false)then
 bif (qcmp BinOp.leq 0 2)then
 bif (qcmp BinOp.leq 2 (qlenS ss0))then
 bif (qcmp BinOp.leq (qlenS ss0) (qlenS ss0))then
 bif (qsome (q29 [(D.str (qsubS ss0 2 (qlenS ss0))),(D.int 16)]))then
 bif (qiteB (qnot (qbool (qnth (q29 [(D.str (qsubS ss0 2 (qlenS ss0))),(D.int 16)]) 1))) Bool.true (qcmp BinOp.gtr (qlenS ss0) 10))then
 some [(D.int 0),(D.bool Bool.false)]
 else
 some [(D.int (qwrap IntKind.u32 (qint (qnth (q29 [(D.str (qsubS ss0 2 (qlenS ss0))),(D.int 16)]) 0)))),(D.bool Bool.true)]
 else
 none
 else
 none
 else
 none
 else
 none
 else
 bif (qiteB (qcmp BinOp.gtr (qlenS ss0) 0) (qinbS ss0 0) Bool.true)then
 bif (qiteB (qiteB (qcmp BinOp.gtr (qlenS ss0) 0) (qcmp BinOp.eql (qidxS ss0 0) 45) Bool.false) (qand (qcmp BinOp.leq 0 1) (qand (qcmp BinOp.leq 1 (qlenS ss0)) (qcmp BinOp.leq (qlenS ss0) (qlenS ss0)))) Bool.true)then
 bif (qsome (q29 [(D.str (qiteS (qiteB (qcmp BinOp.gtr (qlenS ss0) 0) (qcmp BinOp.eql (qidxS ss0 0) 45) Bool.false) (qsubS ss0 1 (qlenS ss0)) ss0)),(D.int 10)]))then
 bif (qiteB (qnot (qbool (qnth (q29 [(D.str (qiteS (qiteB (qcmp BinOp.gtr (qlenS ss0) 0) (qcmp BinOp.eql (qidxS ss0 0) 45) Bool.false) (qsubS ss0 1 (qlenS ss0)) ss0)),(D.int 10)]) 1))) Bool.true (qinbS (qiteS (qiteB (qcmp BinOp.gtr (qlenS ss0) 0) (qcmp BinOp.eql (qidxS ss0 0) 45) Bool.false) (qsubS ss0 1 (qlenS ss0)) ss0) 0))then
 bif (qiteB (qiteB (qiteB (qnot (qbool (qnth (q29 [(D.str (qiteS (qiteB (qcmp BinOp.gtr (qlenS ss0) 0) (qcmp BinOp.eql (qidxS ss0 0) 45) Bool.false) (qsubS ss0 1 (qlenS ss0)) ss0)),(D.int 10)]) 1))) Bool.true (qiteB (qcmp BinOp.eql (qidxS (qiteS (qiteB (qcmp BinOp.gtr (qlenS ss0) 0) (qcmp BinOp.eql (qidxS ss0 0) 45) Bool.false) (qsubS ss0 1 (qlenS ss0)) ss0) 0) 48) (qiteB (qcmp BinOp.gtr (qlenS (qiteS (qiteB (qcmp BinOp.gtr (qlenS ss0) 0) (qcmp BinOp.eql (qidxS ss0 0) 45) Bool.false) (qsubS ss0 1 (qlenS ss0)) ss0)) 1) Bool.true (qiteB (qcmp BinOp.gtr (qlenS ss0) 0) (qcmp BinOp.eql (qidxS ss0 0) 45) Bool.false)) Bool.false)) Bool.true (qiteB (qnot (qiteB (qcmp BinOp.gtr (qlenS ss0) 0) (qcmp BinOp.eql (qidxS ss0 0) 45) Bool.false)) (qcmp BinOp.gtr (qint (qnth (q29 [(D.str (qiteS (qiteB (qcmp BinOp.gtr (qlenS ss0) 0) (qcmp BinOp.eql (qidxS ss0 0) 45) Bool.false) (qsubS ss0 1 (qlenS ss0)) ss0)),(D.int 10)]) 0)) 4294967295) Bool.false)) Bool.true (qiteB (qiteB (qcmp BinOp.gtr (qlenS ss0) 0) (qcmp BinOp.eql (qidxS ss0 0) 45) Bool.false) (qcmp BinOp.gtr (qint (qnth (q29 [(D.str (qiteS (qiteB (qcmp BinOp.gtr (qlenS ss0) 0) (qcmp BinOp.eql (qidxS ss0 0) 45) Bool.false) (qsubS ss0 1 (qlenS ss0)) ss0)),(D.int 10)]) 0)) 2147483648) Bool.false))then
 some [(D.int 0),(D.bool Bool.false)]
 else
 bif (qiteB (qcmp BinOp.gtr (qlenS ss0) 0) (qcmp BinOp.eql (qidxS ss0 0) 45) Bool.false)then
 some [(D.int (qwrap IntKind.u32 (qbin BinOp.sub IntKind.u64 4294967296 (qint (qnth (q29 [(D.str (qiteS (qiteB (qcmp BinOp.gtr (qlenS ss0) 0) (qcmp BinOp.eql (qidxS ss0 0) 45) Bool.false) (qsubS ss0 1 (qlenS ss0)) ss0)),(D.int 10)]) 0))))),(D.bool Bool.true)]
 else
 some [(D.int (qwrap IntKind.u32 (qint (qnth (q29 [(D.str (qiteS (qiteB (qcmp BinOp.gtr (qlenS ss0) 0) (qcmp BinOp.eql (qidxS ss0 0) 45) Bool.false) (qsubS ss0 1 (qlenS ss0)) ss0)),(D.int 10)]) 0)))),(D.bool Bool.true)]
 else
 none
 else
 none
 else
 none
 else
 none
 else
 none:=by kernel_rfl
noncomputable def q12:List D→Option (List D):=veil (F12)
theorem q12_eq:q12=F12:=veil_eq _
noncomputable def tb12:Tb:=Tb.addF tb29 12 S12 (q12)
theorem ok_tb12:TbOk env (tb12):=addFunF ok_tb29 12 (by kernel_rfl) _ (q12_eq)
def S79:FunS:=⟨[⟨true, .str⟩,⟨true, .str⟩],[],[⟨true, .bool⟩],[]⟩
noncomputable def F79:List D→Option (List D):=liftX env tb12 60 12 79 S79
theorem F79_eq (ss0:ByteArray) (ss1:ByteArray):F79 [(D.str ss0),(D.str ss1)] =
 bif (qiteB (qcmp BinOp.geq (qlenS ss0) (qlenS ss1)) (qand (qcmp BinOp.leq 0 (qbin BinOp.sub IntKind.i64 (qlenS ss0) (qlenS ss1))) (qand (qcmp BinOp.leq (qbin BinOp.sub IntKind.i64 (qlenS ss0) (qlenS ss1)) (qlenS ss0)) (qcmp BinOp.leq (qlenS ss0) (qlenS ss0)))) Bool.true)then
 some [(D.bool (qiteB (qcmp BinOp.geq (qlenS ss0) (qlenS ss1)) (qcmpS BinOp.eql (qsubS ss0 (qbin BinOp.sub IntKind.i64 (qlenS ss0) (qlenS ss1)) (qlenS ss0)) ss1) Bool.false))]
 else
 none:=by kernel_rfl
noncomputable def q79:List D→Option (List D):=veil (F79)
theorem q79_eq:q79=F79:=veil_eq _
noncomputable def tb79:Tb:=Tb.addF tb12 79 S79 (q79)
theorem ok_tb79:TbOk env (tb79):=addFunF ok_tb12 79 (by kernel_rfl) _ (q79_eq)
def S59:FunS:=⟨[⟨true, .str⟩,⟨true, .str⟩],[],[⟨true,(.tup [.str, .bool])⟩],[]⟩
noncomputable def F59:List D→Option (List D):=liftX env tb79 60 12 59 S59
theorem F59_eq (ss0:ByteArray) (ss1:ByteArray):F59 [(D.str ss0),(D.str ss1)] =
 bif (qsome (q79 [(D.str ss0),(D.str ss1)]))then
 bif (qnot (qbool (qnth (q79 [(D.str ss0),(D.str ss1)]) 0)))then
 some [(D.str ss0),(D.bool Bool.false)]
 else
 bif (qcmp BinOp.leq 0 0)then
 bif (qcmp BinOp.leq 0 (qbin BinOp.sub IntKind.i64 (qlenS ss0) (qlenS ss1)))then
 bif (qcmp BinOp.leq (qbin BinOp.sub IntKind.i64 (qlenS ss0) (qlenS ss1)) (qlenS ss0))then
 some [(D.str (qsubS ss0 0 (qbin BinOp.sub IntKind.i64 (qlenS ss0) (qlenS ss1)))),(D.bool Bool.true)]
 else
 none
 else
 none
 else
 none
 else
 none:=by kernel_rfl
noncomputable def q59:List D→Option (List D):=veil (F59)
theorem q59_eq:q59=F59:=veil_eq _
noncomputable def tb59:Tb:=Tb.addF tb79 59 S59 (q59)
theorem ok_tb59:TbOk env (tb59):=addFunF ok_tb79 59 (by kernel_rfl) _ (q59_eq)
def S42:FunS:=⟨[⟨true, .str⟩,⟨true, .str⟩],[],[⟨true,(.tup [.str, .bool])⟩],[]⟩
noncomputable def F42:List D→Option (List D):=liftX env tb59 60 12 42 S42
theorem F42_eq (ss0:ByteArray) (ss1:ByteArray):F42 [(D.str ss0),(D.str ss1)] =
 bif (qsome (q59 [(D.str ss0),(D.str ss1)]))then
 some [(D.str (qstr (qnth (q59 [(D.str ss0),(D.str ss1)]) 0))),(D.bool (qbool (qnth (q59 [(D.str ss0),(D.str ss1)]) 1)))]
 else
 none:=by kernel_rfl
noncomputable def q42:List D→Option (List D):=veil (F42)
theorem q42_eq:q42=F42:=veil_eq _
noncomputable def tb42:Tb:=Tb.addF tb59 42 S42 (q42)
theorem ok_tb42:TbOk env (tb42):=addFunF ok_tb59 42 (by kernel_rfl) _ (q42_eq)
def S43_20_2:LoopS:=⟨0,[⟨false, .str⟩,uF,⟨false,(.func 20 [] [])⟩,uF,uF,uF,⟨false,(.lit (.int .i64 0))⟩,uF,⟨false,(.int .i64)⟩,⟨true,(.int .i64)⟩,uF,uF,uF,uF,uF,uF,uF,uF,uF],[],[⟨0,0,[⟨false, .str⟩,uT,uT,uT,uT,uT,⟨true,(.lit (.int .i64 0))⟩,uT,⟨false,(.int .i64)⟩,uT,uT,uT,uT,uT,uT,uT,uT,uT,uT],[]⟩,⟨1,0,[⟨false, .str⟩,uT,uT,uT,uT,uT,⟨true,(.int .i64)⟩,uT,⟨false,(.int .i64)⟩,uT,uT,uT,uT,uT,uT,uT,uT,uT,uT],[]⟩]⟩
noncomputable def st43_20_2 (p s:List D):Option (Sum (List D) (List D)):=stepQX env tb42 60 12 43 (loopC 43 2) S43_20_2 p s
theorem st43_20_2_eq (ps0:ByteArray) (pn1:Int) (sn0:Int):st43_20_2 [(D.str ps0),(D.int pn1)] [(D.int sn0)] =
 bif (qcmp BinOp.lss sn0 pn1)then
 bif (qsome (q20 [(D.int sn0)]))then
 bif (qcmpS BinOp.eql (qstr (qnth (q20 [(D.int sn0)]) 0)) ps0)then
 some (Sum.inr [(D.int 1),(D.int sn0)])
 else
 some (Sum.inl [(D.int (qbin BinOp.add IntKind.i64 sn0 1))])
 else
 none
 else
 some (Sum.inr [(D.int 0)]):=by
 have h:st43_20_2 [(D.str ps0),(D.int pn1)] [(D.int sn0)] =
  bif (qcmp BinOp.lss sn0 pn1)then
  bif (qsome (q20 [(D.int sn0)]))then
  bif (qcmpS BinOp.eql (qstr (qnth (q20 [(D.int sn0)]) 0)) ps0)then
  bif (qeqD (D.str ps0) (D.str ps0))then
  bif (qeqD (D.int pn1) (D.int pn1))then
  some (Sum.inr [(D.int 1),(D.int sn0)])
  else
  none
  else
  none
  else
  bif (qeqD (D.str ps0) (D.str ps0))then
  bif (qeqD (D.int pn1) (D.int pn1))then
  some (Sum.inl [(D.int (qbin BinOp.add IntKind.i64 sn0 1))])
  else
  none
  else
  none
  else
  none
  else
  bif (qeqD (D.str ps0) (D.str ps0))then
  bif (qeqD (D.int pn1) (D.int pn1))then
  some (Sum.inr [(D.int 0)])
  else
  none
  else
  none:=by kernel_rfl
 rw[h];simp only[qeqD_self,qeqI_self,qeq_len,show qcmp BinOp.eql 0 (qlen (D.list []))=true from qeq_len [],show∀a,qcmp BinOp.eql 1 (qlen (D.list [a]))=true from fun a=>qeq_len [a],show∀a b,qcmp BinOp.eql 2 (qlen (D.list [a,b]))=true from fun a b=>qeq_len [a,b],show∀a b c,qcmp BinOp.eql 3 (qlen (D.list [a,b,c]))=true from fun a b c=>qeq_len [a,b,c],show∀a b c d,qcmp BinOp.eql 4 (qlen (D.list [a,b,c,d]))=true from fun a b c d=>qeq_len [a,b,c,d],cond_true]
noncomputable def l43_20_2:List D→List D→Option (List D):=veil fun p s=>loW (st43_20_2 p) s
theorem l43_20_2_eq:l43_20_2=fun p s=>loW (st43_20_2 p) s:=veil_eq _
noncomputable def tbl43_20_2:Tb:=Tb.addL tb42 43 2 S43_20_2.n0 (mkLp S43_20_2 (l43_20_2))
theorem ok_tbl43_20_2:TbOk env (tbl43_20_2):=addLoopQ ok_tb42 43 2 (by kernel_rfl) _ (l43_20_2_eq)
def S43_20:FunS:=⟨[⟨true, .str⟩,⟨true,(.int .i64)⟩,⟨true,(.func 20 [] [])⟩],[],[⟨true,(.int .i64)⟩],[]⟩
noncomputable def F43_20:List D→Option (List D):=liftX env tbl43_20_2 60 12 43 S43_20
theorem F43_20_eq (ss0:ByteArray) (sn1:Int):F43_20 [(D.str ss0),(D.int sn1)] =
 bif (qsome (l43_20_2 [(D.str ss0),(D.int sn1)] [(D.int 0)]))then
 bif (qcmp BinOp.eql (qint (qnth (l43_20_2 [(D.str ss0),(D.int sn1)] [(D.int 0)]) 0)) 0)then
 some [(D.int (-1))]
 else
 some [(D.int (qint (qnth (l43_20_2 [(D.str ss0),(D.int sn1)] [(D.int 0)]) 1)))]
 else
 none:=by kernel_rfl
noncomputable def q43_20:List D→Option (List D):=veil (F43_20)
theorem q43_20_eq:q43_20=F43_20:=veil_eq _
noncomputable def tb43_20:Tb:=Tb.addF tbl43_20_2 43 S43_20 (q43_20)
theorem ok_tb43_20:TbOk env (tb43_20):=addFunF ok_tbl43_20_2 43 (by kernel_rfl) _ (q43_20_eq)
def S44_20:FunS:=⟨[⟨true,(.int .i64)⟩],[],[⟨true, .str⟩],[]⟩
noncomputable def F44_20:List D→Option (List D):=liftX env tb43_20 60 12 44 S44_20
theorem F44_20_eq (sn0:Int):F44_20 [(D.int sn0)] =
 bif (qsome (q34 [(D.int (qbin BinOp.add IntKind.i64 5 sn0))]))then
 some [(D.str (qstr (qnth (q34 [(D.int (qbin BinOp.add IntKind.i64 5 sn0))]) 0)))]
 else
 none:=by kernel_rfl
noncomputable def q44_20:List D→Option (List D):=veil (F44_20)
theorem q44_20_eq:q44_20=F44_20:=veil_eq _
noncomputable def tb44_20:Tb:=Tb.addF tb43_20 44 S44_20 (q44_20)
theorem ok_tb44_20:TbOk env (tb44_20):=addFunF ok_tb43_20 44 (by kernel_rfl) _ (q44_20_eq)
def S43_44_2:LoopS:=⟨0,[⟨false, .str⟩,uF,⟨false,(.func 44 [] [])⟩,uF,uF,uF,⟨false,(.lit (.int .i64 0))⟩,uF,⟨false,(.int .i64)⟩,⟨true,(.int .i64)⟩,uF,uF,uF,uF,uF,uF,uF,uF,uF],[],[⟨0,0,[⟨false, .str⟩,uT,uT,uT,uT,uT,⟨true,(.lit (.int .i64 0))⟩,uT,⟨false,(.int .i64)⟩,uT,uT,uT,uT,uT,uT,uT,uT,uT,uT],[]⟩,⟨1,0,[⟨false, .str⟩,uT,uT,uT,uT,uT,⟨true,(.int .i64)⟩,uT,⟨false,(.int .i64)⟩,uT,uT,uT,uT,uT,uT,uT,uT,uT,uT],[]⟩]⟩
noncomputable def st43_44_2 (p s:List D):Option (Sum (List D) (List D)):=stepQX env tb44_20 60 12 43 (loopC 43 2) S43_44_2 p s
theorem st43_44_2_eq (ps0:ByteArray) (pn1:Int) (sn0:Int):st43_44_2 [(D.str ps0),(D.int pn1)] [(D.int sn0)] =
 bif (qcmp BinOp.lss sn0 pn1)then
 bif (qsome (q44_20 [(D.int sn0)]))then
 bif (qcmpS BinOp.eql (qstr (qnth (q44_20 [(D.int sn0)]) 0)) ps0)then
 some (Sum.inr [(D.int 1),(D.int sn0)])
 else
 some (Sum.inl [(D.int (qbin BinOp.add IntKind.i64 sn0 1))])
 else
 none
 else
 some (Sum.inr [(D.int 0)]):=by
 have h:st43_44_2 [(D.str ps0),(D.int pn1)] [(D.int sn0)] =
  bif (qcmp BinOp.lss sn0 pn1)then
  bif (qsome (q44_20 [(D.int sn0)]))then
  bif (qcmpS BinOp.eql (qstr (qnth (q44_20 [(D.int sn0)]) 0)) ps0)then
  bif (qeqD (D.str ps0) (D.str ps0))then
  bif (qeqD (D.int pn1) (D.int pn1))then
  some (Sum.inr [(D.int 1),(D.int sn0)])
  else
  none
  else
  none
  else
  bif (qeqD (D.str ps0) (D.str ps0))then
  bif (qeqD (D.int pn1) (D.int pn1))then
  some (Sum.inl [(D.int (qbin BinOp.add IntKind.i64 sn0 1))])
  else
  none
  else
  none
  else
  none
  else
  bif (qeqD (D.str ps0) (D.str ps0))then
  bif (qeqD (D.int pn1) (D.int pn1))then
  some (Sum.inr [(D.int 0)])
  else
  none
  else
  none:=by kernel_rfl
 rw[h];simp only[qeqD_self,qeqI_self,qeq_len,show qcmp BinOp.eql 0 (qlen (D.list []))=true from qeq_len [],show∀a,qcmp BinOp.eql 1 (qlen (D.list [a]))=true from fun a=>qeq_len [a],show∀a b,qcmp BinOp.eql 2 (qlen (D.list [a,b]))=true from fun a b=>qeq_len [a,b],show∀a b c,qcmp BinOp.eql 3 (qlen (D.list [a,b,c]))=true from fun a b c=>qeq_len [a,b,c],show∀a b c d,qcmp BinOp.eql 4 (qlen (D.list [a,b,c,d]))=true from fun a b c d=>qeq_len [a,b,c,d],cond_true]
noncomputable def l43_44_2:List D→List D→Option (List D):=veil fun p s=>loW (st43_44_2 p) s
theorem l43_44_2_eq:l43_44_2=fun p s=>loW (st43_44_2 p) s:=veil_eq _
noncomputable def tbl43_44_2:Tb:=Tb.addL tb44_20 43 2 S43_44_2.n0 (mkLp S43_44_2 (l43_44_2))
theorem ok_tbl43_44_2:TbOk env (tbl43_44_2):=addLoopQ ok_tb44_20 43 2 (by kernel_rfl) _ (l43_44_2_eq)
def S43_44:FunS:=⟨[⟨true, .str⟩,⟨true,(.int .i64)⟩,⟨true,(.func 44 [] [])⟩],[],[⟨true,(.int .i64)⟩],[]⟩
noncomputable def F43_44:List D→Option (List D):=liftX env tbl43_44_2 60 12 43 S43_44
theorem F43_44_eq (ss0:ByteArray) (sn1:Int):F43_44 [(D.str ss0),(D.int sn1)] =
 bif (qsome (l43_44_2 [(D.str ss0),(D.int sn1)] [(D.int 0)]))then
 bif (qcmp BinOp.eql (qint (qnth (l43_44_2 [(D.str ss0),(D.int sn1)] [(D.int 0)]) 0)) 0)then
 some [(D.int (-1))]
 else
 some [(D.int (qint (qnth (l43_44_2 [(D.str ss0),(D.int sn1)] [(D.int 0)]) 1)))]
 else
 none:=by kernel_rfl
noncomputable def q43_44:List D→Option (List D):=veil (F43_44)
theorem q43_44_eq:q43_44=F43_44:=veil_eq _
noncomputable def tb43_44:Tb:=Tb.addF tbl43_44_2 43 S43_44 (q43_44)
theorem ok_tb43_44:TbOk env (tb43_44):=addFunF ok_tbl43_44_2 43 (by kernel_rfl) _ (q43_44_eq)
end Go.Proofs.YtobhhfbdelnhfaaDoor
open Go Go.AM
namespace Go.Proofs.YtobhhfbdelnhfaaDoor
set_option maxRecDepth 100000
set_option linter.unusedSimpArgs false
set_option linter.unusedVariables false
def S60:FunS:=⟨[⟨true,(.ptr 0 0)⟩,⟨true,(.int .i64)⟩],[(.cells [⟨false,(.rows 9)⟩,⟨false,(.func 25 [] [])⟩,⟨true, .bool⟩,⟨false, .bool⟩,⟨false, .bool⟩,⟨false, .bool⟩])],[⟨true, .bool⟩],[(.cells [⟨false,(.rows 9)⟩,⟨true,(.func 25 [] [])⟩,⟨true, .bool⟩,⟨false, .bool⟩,⟨false, .bool⟩,⟨false, .bool⟩])]⟩
noncomputable def F60:List D→Option (List D):=liftX env tb43_44 60 12 60 S60
theorem F60_eq (pd0:D) (pb1:Bool) (pb2:Bool) (pb3:Bool) (sn0:Int) (sb1:Bool):F60 [pd0,(D.bool pb1),(D.bool pb2),(D.bool pb3),(D.int sn0),(D.bool sb1)] =
 bif (qcmp BinOp.neq (qlen pd0) sn0)then
 some [(D.bool Bool.false),(D.bool Bool.true)]
 else
 some [(D.bool (qnot sb1)),(D.bool sb1)]:=by
 have h:F60 [pd0,(D.bool pb1),(D.bool pb2),(D.bool pb3),(D.int sn0),(D.bool sb1)] =
  bif (qcmp BinOp.neq (qlen pd0) sn0)then
  bif (qeqD pd0 pd0)then
  bif (qeqD (D.bool pb1) (D.bool pb1))then
  bif (qeqD (D.bool pb2) (D.bool pb2))then
  bif (qeqD (D.bool pb3) (D.bool pb3))then
  some [(D.bool Bool.false),(D.bool Bool.true)]
  else
  none
  else
  none
  else
  none
  else
  none
  else
  bif (qeqD pd0 pd0)then
  bif (qeqD (D.bool pb1) (D.bool pb1))then
  bif (qeqD (D.bool pb2) (D.bool pb2))then
  bif (qeqD (D.bool pb3) (D.bool pb3))then
  some [(D.bool (qnot sb1)),(D.bool sb1)]
  else
  none
  else
  none
  else
  none
  else
  none:=by kernel_rfl
 rw[h];simp only[qeqD_self,qeqI_self,qeq_len,show qcmp BinOp.eql 0 (qlen (D.list []))=true from qeq_len [],show∀a,qcmp BinOp.eql 1 (qlen (D.list [a]))=true from fun a=>qeq_len [a],show∀a b,qcmp BinOp.eql 2 (qlen (D.list [a,b]))=true from fun a b=>qeq_len [a,b],show∀a b c,qcmp BinOp.eql 3 (qlen (D.list [a,b,c]))=true from fun a b c=>qeq_len [a,b,c],show∀a b c d,qcmp BinOp.eql 4 (qlen (D.list [a,b,c,d]))=true from fun a b c d=>qeq_len [a,b,c,d],cond_true]
noncomputable def q60:List D→Option (List D):=veil (F60)
theorem q60_eq:q60=F60:=veil_eq _
noncomputable def tb60:Tb:=Tb.addF tb43_44 60 S60 (q60)
theorem ok_tb60:TbOk env (tb60):=addFunF ok_tb43_44 60 (by kernel_rfl) _ (q60_eq)
def S62:FunS:=⟨[⟨true,(.ptr 0 0)⟩,⟨true,(.int .i64)⟩],[(.cells [⟨false,(.rows 9)⟩,⟨false,(.func 25 [] [])⟩,⟨true, .bool⟩,⟨false, .bool⟩,⟨false, .bool⟩,⟨false, .bool⟩])],[⟨true,(.int .i64)⟩],[(.cells [⟨false,(.rows 9)⟩,⟨true,(.func 25 [] [])⟩,⟨true, .bool⟩,⟨false, .bool⟩,⟨false, .bool⟩,⟨false, .bool⟩])]⟩
noncomputable def F62:List D→Option (List D):=liftX env tb60 60 12 62 S62
theorem F62_eq (pd0:D) (pb1:Bool) (pb2:Bool) (pb3:Bool) (sn0:Int) (sb1:Bool):F62 [pd0,(D.bool pb1),(D.bool pb2),(D.bool pb3),(D.int sn0),(D.bool sb1)] =
 bif (qinb pd0 sn0)then
 bif (qsome (q13 [(D.str (qstr (qget pd0 sn0)))]))then
 bif (qnot (qbool (qnth (q13 [(D.str (qstr (qget pd0 sn0)))]) 1)))then
 some [(D.int (qint (qnth (q13 [(D.str (qstr (qget pd0 sn0)))]) 0))),(D.bool Bool.true)]
 else
 some [(D.int (qint (qnth (q13 [(D.str (qstr (qget pd0 sn0)))]) 0))),(D.bool sb1)]
 else
 none
 else
 none:=by
 have h:F62 [pd0,(D.bool pb1),(D.bool pb2),(D.bool pb3),(D.int sn0),(D.bool sb1)] =
  bif (qinb pd0 sn0)then
  bif (qsome (q13 [(D.str (qstr (qget pd0 sn0)))]))then
  bif (qnot (qbool (qnth (q13 [(D.str (qstr (qget pd0 sn0)))]) 1)))then
  bif (qeqD pd0 pd0)then
  bif (qeqD (D.bool pb1) (D.bool pb1))then
  bif (qeqD (D.bool pb2) (D.bool pb2))then
  bif (qeqD (D.bool pb3) (D.bool pb3))then
  some [(D.int (qint (qnth (q13 [(D.str (qstr (qget pd0 sn0)))]) 0))),(D.bool Bool.true)]
  else
  none
  else
  none
  else
  none
  else
  none
  else
  bif (qeqD pd0 pd0)then
  bif (qeqD (D.bool pb1) (D.bool pb1))then
  bif (qeqD (D.bool pb2) (D.bool pb2))then
  bif (qeqD (D.bool pb3) (D.bool pb3))then
  some [(D.int (qint (qnth (q13 [(D.str (qstr (qget pd0 sn0)))]) 0))),(D.bool sb1)]
  else
  none
  else
  none
  else
  none
  else
  none
  else
  none
  else
  none:=by kernel_rfl
 rw[h];simp only[qeqD_self,qeqI_self,qeq_len,show qcmp BinOp.eql 0 (qlen (D.list []))=true from qeq_len [],show∀a,qcmp BinOp.eql 1 (qlen (D.list [a]))=true from fun a=>qeq_len [a],show∀a b,qcmp BinOp.eql 2 (qlen (D.list [a,b]))=true from fun a b=>qeq_len [a,b],show∀a b c,qcmp BinOp.eql 3 (qlen (D.list [a,b,c]))=true from fun a b c=>qeq_len [a,b,c],show∀a b c d,qcmp BinOp.eql 4 (qlen (D.list [a,b,c,d]))=true from fun a b c d=>qeq_len [a,b,c,d],cond_true]
noncomputable def q62:List D→Option (List D):=veil (F62)
theorem q62_eq:q62=F62:=veil_eq _
noncomputable def tb62:Tb:=Tb.addF tb60 62 S62 (q62)
theorem ok_tb62:TbOk env (tb62):=addFunF ok_tb60 62 (by kernel_rfl) _ (q62_eq)
def S61:FunS:=⟨[⟨true,(.ptr 0 0)⟩,⟨true,(.int .i64)⟩],[(.cells [⟨false,(.rows 9)⟩,⟨false,(.func 25 [] [])⟩,⟨true, .bool⟩,⟨false, .bool⟩,⟨false, .bool⟩,⟨false, .bool⟩])],[⟨true,(.tup [(.int .u32), .bool])⟩],[(.cells [⟨false,(.rows 9)⟩,⟨true,(.func 25 [] [])⟩,⟨true, .bool⟩,⟨false, .bool⟩,⟨false, .bool⟩,⟨false, .bool⟩])]⟩
noncomputable def F61:List D→Option (List D):=liftX env tb62 60 12 61 S61
theorem F61_eq (pd0:D) (pb1:Bool) (pb2:Bool) (pb3:Bool) (sn0:Int) (sb1:Bool):F61 [pd0,(D.bool pb1),(D.bool pb2),(D.bool pb3),(D.int sn0),(D.bool sb1)] =
 bif (qinb pd0 sn0)then
 bif (qsome (q11 [(D.str (qstr (qget pd0 sn0)))]))then
 bif (qbool (qnth (q11 [(D.str (qstr (qget pd0 sn0)))]) 1))then
 some [(D.int (qint (qnth (q11 [(D.str (qstr (qget pd0 sn0)))]) 0))),(D.bool Bool.false),(D.bool sb1)]
 else
 some [(D.int 0),(D.bool Bool.false),(D.bool Bool.true)]
 else
 none
 else
 none:=by
 have h:F61 [pd0,(D.bool pb1),(D.bool pb2),(D.bool pb3),(D.int sn0),(D.bool sb1)] =
  bif (qinb pd0 sn0)then
  bif (qsome (q11 [(D.str (qstr (qget pd0 sn0)))]))then
  bif (qbool (qnth (q11 [(D.str (qstr (qget pd0 sn0)))]) 1))then
  bif (qeqD pd0 pd0)then
  bif (qeqD (D.bool pb1) (D.bool pb1))then
  bif (qeqD (D.bool pb2) (D.bool pb2))then
  bif (qeqD (D.bool pb3) (D.bool pb3))then
  some [(D.int (qint (qnth (q11 [(D.str (qstr (qget pd0 sn0)))]) 0))),(D.bool Bool.false),(D.bool sb1)]
  else
  none
  else
  none
  else
  none
  else
  none
  else
  bif (qeqD pd0 pd0)then
  bif (qeqD (D.bool pb1) (D.bool pb1))then
  bif (qeqD (D.bool pb2) (D.bool pb2))then
  bif (qeqD (D.bool pb3) (D.bool pb3))then
  some [(D.int 0),(D.bool Bool.false),(D.bool Bool.true)]
  else
  none
  else
  none
  else
  none
  else
  none
  else
  none
  else
  none:=by kernel_rfl
 rw[h];simp only[qeqD_self,qeqI_self,qeq_len,show qcmp BinOp.eql 0 (qlen (D.list []))=true from qeq_len [],show∀a,qcmp BinOp.eql 1 (qlen (D.list [a]))=true from fun a=>qeq_len [a],show∀a b,qcmp BinOp.eql 2 (qlen (D.list [a,b]))=true from fun a b=>qeq_len [a,b],show∀a b c,qcmp BinOp.eql 3 (qlen (D.list [a,b,c]))=true from fun a b c=>qeq_len [a,b,c],show∀a b c d,qcmp BinOp.eql 4 (qlen (D.list [a,b,c,d]))=true from fun a b c d=>qeq_len [a,b,c,d],cond_true]
noncomputable def q61:List D→Option (List D):=veil (F61)
theorem q61_eq:q61=F61:=veil_eq _
noncomputable def tb61:Tb:=Tb.addF tb62 61 S61 (q61)
theorem ok_tb61:TbOk env (tb61):=addFunF ok_tb62 61 (by kernel_rfl) _ (q61_eq)
def S80:FunS:=⟨[⟨true,(.ptr 0 0)⟩,⟨true,(.int .i64)⟩],[(.cells [⟨false,(.rows 9)⟩,⟨false,(.func 25 [] [])⟩,⟨true, .bool⟩,⟨true, .bool⟩,⟨false, .bool⟩,⟨false, .bool⟩])],[⟨true,(.tup [(.int .i64),(.int .u32)])⟩],[(.cells [⟨false,(.rows 9)⟩,⟨true,(.func 25 [] [])⟩,⟨true, .bool⟩,⟨true, .bool⟩,⟨false, .bool⟩,⟨false, .bool⟩])]⟩
noncomputable def F80:List D→Option (List D):=liftX env tb61 60 12 80 S80
theorem F80_eq (pd0:D) (pb1:Bool) (pb2:Bool) (sn0:Int) (sb1:Bool) (sb2:Bool):F80 [pd0,(D.bool pb1),(D.bool pb2),(D.int sn0),(D.bool sb1),(D.bool sb2)] =
 bif (qinb pd0 sn0)then
 bif (qsome (q27 [(D.str (qstr (qget pd0 sn0))),(D.str (ByteArray.mk #[91]))]))then
 bif (qsome (q42 [(D.str (qstr (qnth (q27 [(D.str (qstr (qget pd0 sn0))),(D.str (ByteArray.mk #[91]))]) 0))),(D.str (ByteArray.mk #[93]))]))then
 bif (qiteB (qiteB (qnot (qbool (qnth (q27 [(D.str (qstr (qget pd0 sn0))),(D.str (ByteArray.mk #[91]))]) 1))) Bool.true (qnot (qbool (qnth (q42 [(D.str (qstr (qnth (q27 [(D.str (qstr (qget pd0 sn0))),(D.str (ByteArray.mk #[91]))]) 0))),(D.str (ByteArray.mk #[93]))]) 1)))) Bool.true (qcmp BinOp.lss (qlenS (qstr (qnth (q42 [(D.str (qstr (qnth (q27 [(D.str (qstr (qget pd0 sn0))),(D.str (ByteArray.mk #[91]))]) 0))),(D.str (ByteArray.mk #[93]))]) 0))) 2))then
 some [(D.int 0),(D.int 0),(D.bool Bool.true),(D.bool sb2)]
 else
 bif (qcmp BinOp.leq 0 0)then
 bif (qcmp BinOp.leq 0 2)then
 bif (qcmp BinOp.leq 2 (qlenS (qstr (qnth (q42 [(D.str (qstr (qnth (q27 [(D.str (qstr (qget pd0 sn0))),(D.str (ByteArray.mk #[91]))]) 0))),(D.str (ByteArray.mk #[93]))]) 0))))then
 bif (qsome (q13 [(D.str (qsubS (qstr (qnth (q42 [(D.str (qstr (qnth (q27 [(D.str (qstr (qget pd0 sn0))),(D.str (ByteArray.mk #[91]))]) 0))),(D.str (ByteArray.mk #[93]))]) 0)) 0 2))]))then
 bif (qcmp BinOp.leq 0 2)then
 bif (qcmp BinOp.leq 2 (qlenS (qstr (qnth (q42 [(D.str (qstr (qnth (q27 [(D.str (qstr (qget pd0 sn0))),(D.str (ByteArray.mk #[91]))]) 0))),(D.str (ByteArray.mk #[93]))]) 0))))then
 bif (qcmp BinOp.leq (qlenS (qstr (qnth (q42 [(D.str (qstr (qnth (q27 [(D.str (qstr (qget pd0 sn0))),(D.str (ByteArray.mk #[91]))]) 0))),(D.str (ByteArray.mk #[93]))]) 0))) (qlenS (qstr (qnth (q42 [(D.str (qstr (qnth (q27 [(D.str (qstr (qget pd0 sn0))),(D.str (ByteArray.mk #[91]))]) 0))),(D.str (ByteArray.mk #[93]))]) 0))))then
 bif (qiteB (qcmpS BinOp.eql (qsubS (qstr (qnth (q42 [(D.str (qstr (qnth (q27 [(D.str (qstr (qget pd0 sn0))),(D.str (ByteArray.mk #[91]))]) 0))),(D.str (ByteArray.mk #[93]))]) 0)) 2 (qlenS (qstr (qnth (q42 [(D.str (qstr (qnth (q27 [(D.str (qstr (qget pd0 sn0))),(D.str (ByteArray.mk #[91]))]) 0))),(D.str (ByteArray.mk #[93]))]) 0)))) (ByteArray.mk #[])) (qbool (qnth (q13 [(D.str (qsubS (qstr (qnth (q42 [(D.str (qstr (qnth (q27 [(D.str (qstr (qget pd0 sn0))),(D.str (ByteArray.mk #[91]))]) 0))),(D.str (ByteArray.mk #[93]))]) 0)) 0 2))]) 1)) Bool.false)then
 some [(D.int (qint (qnth (q13 [(D.str (qsubS (qstr (qnth (q42 [(D.str (qstr (qnth (q27 [(D.str (qstr (qget pd0 sn0))),(D.str (ByteArray.mk #[91]))]) 0))),(D.str (ByteArray.mk #[93]))]) 0)) 0 2))]) 0))),(D.int 0),(D.bool sb1),(D.bool sb2)]
 else
 bif (qcmp BinOp.leq 0 2)then
 bif (qcmp BinOp.leq 2 (qlenS (qstr (qnth (q42 [(D.str (qstr (qnth (q27 [(D.str (qstr (qget pd0 sn0))),(D.str (ByteArray.mk #[91]))]) 0))),(D.str (ByteArray.mk #[93]))]) 0))))then
 bif (qcmp BinOp.leq (qlenS (qstr (qnth (q42 [(D.str (qstr (qnth (q27 [(D.str (qstr (qget pd0 sn0))),(D.str (ByteArray.mk #[91]))]) 0))),(D.str (ByteArray.mk #[93]))]) 0))) (qlenS (qstr (qnth (q42 [(D.str (qstr (qnth (q27 [(D.str (qstr (qget pd0 sn0))),(D.str (ByteArray.mk #[91]))]) 0))),(D.str (ByteArray.mk #[93]))]) 0))))then
 bif (qiteB (qiteB (qnot (qbool (qnth (q13 [(D.str (qsubS (qstr (qnth (q42 [(D.str (qstr (qnth (q27 [(D.str (qstr (qget pd0 sn0))),(D.str (ByteArray.mk #[91]))]) 0))),(D.str (ByteArray.mk #[93]))]) 0)) 0 2))]) 1))) Bool.true (qcmp BinOp.lss (qlenS (qsubS (qstr (qnth (q42 [(D.str (qstr (qnth (q27 [(D.str (qstr (qget pd0 sn0))),(D.str (ByteArray.mk #[91]))]) 0))),(D.str (ByteArray.mk #[93]))]) 0)) 2 (qlenS (qstr (qnth (q42 [(D.str (qstr (qnth (q27 [(D.str (qstr (qget pd0 sn0))),(D.str (ByteArray.mk #[91]))]) 0))),(D.str (ByteArray.mk #[93]))]) 0))))) 2)) Bool.true (qand (qinbS (qsubS (qstr (qnth (q42 [(D.str (qstr (qnth (q27 [(D.str (qstr (qget pd0 sn0))),(D.str (ByteArray.mk #[91]))]) 0))),(D.str (ByteArray.mk #[93]))]) 0)) 2 (qlenS (qstr (qnth (q42 [(D.str (qstr (qnth (q27 [(D.str (qstr (qget pd0 sn0))),(D.str (ByteArray.mk #[91]))]) 0))),(D.str (ByteArray.mk #[93]))]) 0)))) 0) (qiteB (qcmp BinOp.neq (qidxS (qsubS (qstr (qnth (q42 [(D.str (qstr (qnth (q27 [(D.str (qstr (qget pd0 sn0))),(D.str (ByteArray.mk #[91]))]) 0))),(D.str (ByteArray.mk #[93]))]) 0)) 2 (qlenS (qstr (qnth (q42 [(D.str (qstr (qnth (q27 [(D.str (qstr (qget pd0 sn0))),(D.str (ByteArray.mk #[91]))]) 0))),(D.str (ByteArray.mk #[93]))]) 0)))) 0) 43) (qinbS (qsubS (qstr (qnth (q42 [(D.str (qstr (qnth (q27 [(D.str (qstr (qget pd0 sn0))),(D.str (ByteArray.mk #[91]))]) 0))),(D.str (ByteArray.mk #[93]))]) 0)) 2 (qlenS (qstr (qnth (q42 [(D.str (qstr (qnth (q27 [(D.str (qstr (qget pd0 sn0))),(D.str (ByteArray.mk #[91]))]) 0))),(D.str (ByteArray.mk #[93]))]) 0)))) 0) Bool.true)))then
 bif (qiteB (qiteB (qiteB (qnot (qbool (qnth (q13 [(D.str (qsubS (qstr (qnth (q42 [(D.str (qstr (qnth (q27 [(D.str (qstr (qget pd0 sn0))),(D.str (ByteArray.mk #[91]))]) 0))),(D.str (ByteArray.mk #[93]))]) 0)) 0 2))]) 1))) Bool.true (qcmp BinOp.lss (qlenS (qsubS (qstr (qnth (q42 [(D.str (qstr (qnth (q27 [(D.str (qstr (qget pd0 sn0))),(D.str (ByteArray.mk #[91]))]) 0))),(D.str (ByteArray.mk #[93]))]) 0)) 2 (qlenS (qstr (qnth (q42 [(D.str (qstr (qnth (q27 [(D.str (qstr (qget pd0 sn0))),(D.str (ByteArray.mk #[91]))]) 0))),(D.str (ByteArray.mk #[93]))]) 0))))) 2)) Bool.true (qiteB (qcmp BinOp.neq (qidxS (qsubS (qstr (qnth (q42 [(D.str (qstr (qnth (q27 [(D.str (qstr (qget pd0 sn0))),(D.str (ByteArray.mk #[91]))]) 0))),(D.str (ByteArray.mk #[93]))]) 0)) 2 (qlenS (qstr (qnth (q42 [(D.str (qstr (qnth (q27 [(D.str (qstr (qget pd0 sn0))),(D.str (ByteArray.mk #[91]))]) 0))),(D.str (ByteArray.mk #[93]))]) 0)))) 0) 43) (qcmp BinOp.neq (qidxS (qsubS (qstr (qnth (q42 [(D.str (qstr (qnth (q27 [(D.str (qstr (qget pd0 sn0))),(D.str (ByteArray.mk #[91]))]) 0))),(D.str (ByteArray.mk #[93]))]) 0)) 2 (qlenS (qstr (qnth (q42 [(D.str (qstr (qnth (q27 [(D.str (qstr (qget pd0 sn0))),(D.str (ByteArray.mk #[91]))]) 0))),(D.str (ByteArray.mk #[93]))]) 0)))) 0) 45) Bool.false)) Bool.true (qinbS (qsubS (qstr (qnth (q42 [(D.str (qstr (qnth (q27 [(D.str (qstr (qget pd0 sn0))),(D.str (ByteArray.mk #[91]))]) 0))),(D.str (ByteArray.mk #[93]))]) 0)) 2 (qlenS (qstr (qnth (q42 [(D.str (qstr (qnth (q27 [(D.str (qstr (qget pd0 sn0))),(D.str (ByteArray.mk #[91]))]) 0))),(D.str (ByteArray.mk #[93]))]) 0)))) 1))then
 bif (qiteB (qiteB (qiteB (qnot (qbool (qnth (q13 [(D.str (qsubS (qstr (qnth (q42 [(D.str (qstr (qnth (q27 [(D.str (qstr (qget pd0 sn0))),(D.str (ByteArray.mk #[91]))]) 0))),(D.str (ByteArray.mk #[93]))]) 0)) 0 2))]) 1))) Bool.true (qcmp BinOp.lss (qlenS (qsubS (qstr (qnth (q42 [(D.str (qstr (qnth (q27 [(D.str (qstr (qget pd0 sn0))),(D.str (ByteArray.mk #[91]))]) 0))),(D.str (ByteArray.mk #[93]))]) 0)) 2 (qlenS (qstr (qnth (q42 [(D.str (qstr (qnth (q27 [(D.str (qstr (qget pd0 sn0))),(D.str (ByteArray.mk #[91]))]) 0))),(D.str (ByteArray.mk #[93]))]) 0))))) 2)) Bool.true (qiteB (qcmp BinOp.neq (qidxS (qsubS (qstr (qnth (q42 [(D.str (qstr (qnth (q27 [(D.str (qstr (qget pd0 sn0))),(D.str (ByteArray.mk #[91]))]) 0))),(D.str (ByteArray.mk #[93]))]) 0)) 2 (qlenS (qstr (qnth (q42 [(D.str (qstr (qnth (q27 [(D.str (qstr (qget pd0 sn0))),(D.str (ByteArray.mk #[91]))]) 0))),(D.str (ByteArray.mk #[93]))]) 0)))) 0) 43) (qcmp BinOp.neq (qidxS (qsubS (qstr (qnth (q42 [(D.str (qstr (qnth (q27 [(D.str (qstr (qget pd0 sn0))),(D.str (ByteArray.mk #[91]))]) 0))),(D.str (ByteArray.mk #[93]))]) 0)) 2 (qlenS (qstr (qnth (q42 [(D.str (qstr (qnth (q27 [(D.str (qstr (qget pd0 sn0))),(D.str (ByteArray.mk #[91]))]) 0))),(D.str (ByteArray.mk #[93]))]) 0)))) 0) 45) Bool.false)) Bool.true (qcmp BinOp.eql (qidxS (qsubS (qstr (qnth (q42 [(D.str (qstr (qnth (q27 [(D.str (qstr (qget pd0 sn0))),(D.str (ByteArray.mk #[91]))]) 0))),(D.str (ByteArray.mk #[93]))]) 0)) 2 (qlenS (qstr (qnth (q42 [(D.str (qstr (qnth (q27 [(D.str (qstr (qget pd0 sn0))),(D.str (ByteArray.mk #[91]))]) 0))),(D.str (ByteArray.mk #[93]))]) 0)))) 1) 45))then
 some [(D.int 0),(D.int 0),(D.bool Bool.true),(D.bool sb2)]
 else
 bif (qcmp BinOp.leq 0 1)then
 bif (qcmp BinOp.leq 1 (qlenS (qsubS (qstr (qnth (q42 [(D.str (qstr (qnth (q27 [(D.str (qstr (qget pd0 sn0))),(D.str (ByteArray.mk #[91]))]) 0))),(D.str (ByteArray.mk #[93]))]) 0)) 2 (qlenS (qstr (qnth (q42 [(D.str (qstr (qnth (q27 [(D.str (qstr (qget pd0 sn0))),(D.str (ByteArray.mk #[91]))]) 0))),(D.str (ByteArray.mk #[93]))]) 0))))))then
 bif (qcmp BinOp.leq (qlenS (qsubS (qstr (qnth (q42 [(D.str (qstr (qnth (q27 [(D.str (qstr (qget pd0 sn0))),(D.str (ByteArray.mk #[91]))]) 0))),(D.str (ByteArray.mk #[93]))]) 0)) 2 (qlenS (qstr (qnth (q42 [(D.str (qstr (qnth (q27 [(D.str (qstr (qget pd0 sn0))),(D.str (ByteArray.mk #[91]))]) 0))),(D.str (ByteArray.mk #[93]))]) 0))))) (qlenS (qsubS (qstr (qnth (q42 [(D.str (qstr (qnth (q27 [(D.str (qstr (qget pd0 sn0))),(D.str (ByteArray.mk #[91]))]) 0))),(D.str (ByteArray.mk #[93]))]) 0)) 2 (qlenS (qstr (qnth (q42 [(D.str (qstr (qnth (q27 [(D.str (qstr (qget pd0 sn0))),(D.str (ByteArray.mk #[91]))]) 0))),(D.str (ByteArray.mk #[93]))]) 0))))))then
 bif (qsome (q11 [(D.str (qsubS (qsubS (qstr (qnth (q42 [(D.str (qstr (qnth (q27 [(D.str (qstr (qget pd0 sn0))),(D.str (ByteArray.mk #[91]))]) 0))),(D.str (ByteArray.mk #[93]))]) 0)) 2 (qlenS (qstr (qnth (q42 [(D.str (qstr (qnth (q27 [(D.str (qstr (qget pd0 sn0))),(D.str (ByteArray.mk #[91]))]) 0))),(D.str (ByteArray.mk #[93]))]) 0)))) 1 (qlenS (qsubS (qstr (qnth (q42 [(D.str (qstr (qnth (q27 [(D.str (qstr (qget pd0 sn0))),(D.str (ByteArray.mk #[91]))]) 0))),(D.str (ByteArray.mk #[93]))]) 0)) 2 (qlenS (qstr (qnth (q42 [(D.str (qstr (qnth (q27 [(D.str (qstr (qget pd0 sn0))),(D.str (ByteArray.mk #[91]))]) 0))),(D.str (ByteArray.mk #[93]))]) 0)))))))]))then
 bif (qnot (qbool (qnth (q11 [(D.str (qsubS (qsubS (qstr (qnth (q42 [(D.str (qstr (qnth (q27 [(D.str (qstr (qget pd0 sn0))),(D.str (ByteArray.mk #[91]))]) 0))),(D.str (ByteArray.mk #[93]))]) 0)) 2 (qlenS (qstr (qnth (q42 [(D.str (qstr (qnth (q27 [(D.str (qstr (qget pd0 sn0))),(D.str (ByteArray.mk #[91]))]) 0))),(D.str (ByteArray.mk #[93]))]) 0)))) 1 (qlenS (qsubS (qstr (qnth (q42 [(D.str (qstr (qnth (q27 [(D.str (qstr (qget pd0 sn0))),(D.str (ByteArray.mk #[91]))]) 0))),(D.str (ByteArray.mk #[93]))]) 0)) 2 (qlenS (qstr (qnth (q42 [(D.str (qstr (qnth (q27 [(D.str (qstr (qget pd0 sn0))),(D.str (ByteArray.mk #[91]))]) 0))),(D.str (ByteArray.mk #[93]))]) 0)))))))]) 1)))then
 some [(D.int 0),(D.int 0),(D.bool Bool.true),(D.bool sb2)]
 else
 bif (qinbS (qsubS (qstr (qnth (q42 [(D.str (qstr (qnth (q27 [(D.str (qstr (qget pd0 sn0))),(D.str (ByteArray.mk #[91]))]) 0))),(D.str (ByteArray.mk #[93]))]) 0)) 2 (qlenS (qstr (qnth (q42 [(D.str (qstr (qnth (q27 [(D.str (qstr (qget pd0 sn0))),(D.str (ByteArray.mk #[91]))]) 0))),(D.str (ByteArray.mk #[93]))]) 0)))) 0)then
 bif (qcmp BinOp.eql (qidxS (qsubS (qstr (qnth (q42 [(D.str (qstr (qnth (q27 [(D.str (qstr (qget pd0 sn0))),(D.str (ByteArray.mk #[91]))]) 0))),(D.str (ByteArray.mk #[93]))]) 0)) 2 (qlenS (qstr (qnth (q42 [(D.str (qstr (qnth (q27 [(D.str (qstr (qget pd0 sn0))),(D.str (ByteArray.mk #[91]))]) 0))),(D.str (ByteArray.mk #[93]))]) 0)))) 0) 43)then
 bif sb2 then
 some [(D.int (qint (qnth (q13 [(D.str (qsubS (qstr (qnth (q42 [(D.str (qstr (qnth (q27 [(D.str (qstr (qget pd0 sn0))),(D.str (ByteArray.mk #[91]))]) 0))),(D.str (ByteArray.mk #[93]))]) 0)) 0 2))]) 0))),(D.int (qint (qnth (q11 [(D.str (qsubS (qsubS (qstr (qnth (q42 [(D.str (qstr (qnth (q27 [(D.str (qstr (qget pd0 sn0))),(D.str (ByteArray.mk #[91]))]) 0))),(D.str (ByteArray.mk #[93]))]) 0)) 2 (qlenS (qstr (qnth (q42 [(D.str (qstr (qnth (q27 [(D.str (qstr (qget pd0 sn0))),(D.str (ByteArray.mk #[91]))]) 0))),(D.str (ByteArray.mk #[93]))]) 0)))) 1 (qlenS (qsubS (qstr (qnth (q42 [(D.str (qstr (qnth (q27 [(D.str (qstr (qget pd0 sn0))),(D.str (ByteArray.mk #[91]))]) 0))),(D.str (ByteArray.mk #[93]))]) 0)) 2 (qlenS (qstr (qnth (q42 [(D.str (qstr (qnth (q27 [(D.str (qstr (qget pd0 sn0))),(D.str (ByteArray.mk #[91]))]) 0))),(D.str (ByteArray.mk #[93]))]) 0)))))))]) 0))),(D.bool sb1),(D.bool Bool.true)]
 else
 some [(D.int (qint (qnth (q13 [(D.str (qsubS (qstr (qnth (q42 [(D.str (qstr (qnth (q27 [(D.str (qstr (qget pd0 sn0))),(D.str (ByteArray.mk #[91]))]) 0))),(D.str (ByteArray.mk #[93]))]) 0)) 0 2))]) 0))),(D.int (qint (qnth (q11 [(D.str (qsubS (qsubS (qstr (qnth (q42 [(D.str (qstr (qnth (q27 [(D.str (qstr (qget pd0 sn0))),(D.str (ByteArray.mk #[91]))]) 0))),(D.str (ByteArray.mk #[93]))]) 0)) 2 (qlenS (qstr (qnth (q42 [(D.str (qstr (qnth (q27 [(D.str (qstr (qget pd0 sn0))),(D.str (ByteArray.mk #[91]))]) 0))),(D.str (ByteArray.mk #[93]))]) 0)))) 1 (qlenS (qsubS (qstr (qnth (q42 [(D.str (qstr (qnth (q27 [(D.str (qstr (qget pd0 sn0))),(D.str (ByteArray.mk #[91]))]) 0))),(D.str (ByteArray.mk #[93]))]) 0)) 2 (qlenS (qstr (qnth (q42 [(D.str (qstr (qnth (q27 [(D.str (qstr (qget pd0 sn0))),(D.str (ByteArray.mk #[91]))]) 0))),(D.str (ByteArray.mk #[93]))]) 0)))))))]) 0))),(D.bool sb1),(D.bool (qcmp BinOp.gtr (qint (qnth (q11 [(D.str (qsubS (qsubS (qstr (qnth (q42 [(D.str (qstr (qnth (q27 [(D.str (qstr (qget pd0 sn0))),(D.str (ByteArray.mk #[91]))]) 0))),(D.str (ByteArray.mk #[93]))]) 0)) 2 (qlenS (qstr (qnth (q42 [(D.str (qstr (qnth (q27 [(D.str (qstr (qget pd0 sn0))),(D.str (ByteArray.mk #[91]))]) 0))),(D.str (ByteArray.mk #[93]))]) 0)))) 1 (qlenS (qsubS (qstr (qnth (q42 [(D.str (qstr (qnth (q27 [(D.str (qstr (qget pd0 sn0))),(D.str (ByteArray.mk #[91]))]) 0))),(D.str (ByteArray.mk #[93]))]) 0)) 2 (qlenS (qstr (qnth (q42 [(D.str (qstr (qnth (q27 [(D.str (qstr (qget pd0 sn0))),(D.str (ByteArray.mk #[91]))]) 0))),(D.str (ByteArray.mk #[93]))]) 0)))))))]) 0)) 127))]
 else
 bif sb2 then
 some [(D.int (qint (qnth (q13 [(D.str (qsubS (qstr (qnth (q42 [(D.str (qstr (qnth (q27 [(D.str (qstr (qget pd0 sn0))),(D.str (ByteArray.mk #[91]))]) 0))),(D.str (ByteArray.mk #[93]))]) 0)) 0 2))]) 0))),(D.int (qun UnOp.neg IntKind.u32 (qint (qnth (q11 [(D.str (qsubS (qsubS (qstr (qnth (q42 [(D.str (qstr (qnth (q27 [(D.str (qstr (qget pd0 sn0))),(D.str (ByteArray.mk #[91]))]) 0))),(D.str (ByteArray.mk #[93]))]) 0)) 2 (qlenS (qstr (qnth (q42 [(D.str (qstr (qnth (q27 [(D.str (qstr (qget pd0 sn0))),(D.str (ByteArray.mk #[91]))]) 0))),(D.str (ByteArray.mk #[93]))]) 0)))) 1 (qlenS (qsubS (qstr (qnth (q42 [(D.str (qstr (qnth (q27 [(D.str (qstr (qget pd0 sn0))),(D.str (ByteArray.mk #[91]))]) 0))),(D.str (ByteArray.mk #[93]))]) 0)) 2 (qlenS (qstr (qnth (q42 [(D.str (qstr (qnth (q27 [(D.str (qstr (qget pd0 sn0))),(D.str (ByteArray.mk #[91]))]) 0))),(D.str (ByteArray.mk #[93]))]) 0)))))))]) 0)))),(D.bool sb1),(D.bool Bool.true)]
 else
 some [(D.int (qint (qnth (q13 [(D.str (qsubS (qstr (qnth (q42 [(D.str (qstr (qnth (q27 [(D.str (qstr (qget pd0 sn0))),(D.str (ByteArray.mk #[91]))]) 0))),(D.str (ByteArray.mk #[93]))]) 0)) 0 2))]) 0))),(D.int (qun UnOp.neg IntKind.u32 (qint (qnth (q11 [(D.str (qsubS (qsubS (qstr (qnth (q42 [(D.str (qstr (qnth (q27 [(D.str (qstr (qget pd0 sn0))),(D.str (ByteArray.mk #[91]))]) 0))),(D.str (ByteArray.mk #[93]))]) 0)) 2 (qlenS (qstr (qnth (q42 [(D.str (qstr (qnth (q27 [(D.str (qstr (qget pd0 sn0))),(D.str (ByteArray.mk #[91]))]) 0))),(D.str (ByteArray.mk #[93]))]) 0)))) 1 (qlenS (qsubS (qstr (qnth (q42 [(D.str (qstr (qnth (q27 [(D.str (qstr (qget pd0 sn0))),(D.str (ByteArray.mk #[91]))]) 0))),(D.str (ByteArray.mk #[93]))]) 0)) 2 (qlenS (qstr (qnth (q42 [(D.str (qstr (qnth (q27 [(D.str (qstr (qget pd0 sn0))),(D.str (ByteArray.mk #[91]))]) 0))),(D.str (ByteArray.mk #[93]))]) 0)))))))]) 0)))),(D.bool sb1),(D.bool (qcmp BinOp.gtr (qint (qnth (q11 [(D.str (qsubS (qsubS (qstr (qnth (q42 [(D.str (qstr (qnth (q27 [(D.str (qstr (qget pd0 sn0))),(D.str (ByteArray.mk #[91]))]) 0))),(D.str (ByteArray.mk #[93]))]) 0)) 2 (qlenS (qstr (qnth (q42 [(D.str (qstr (qnth (q27 [(D.str (qstr (qget pd0 sn0))),(D.str (ByteArray.mk #[91]))]) 0))),(D.str (ByteArray.mk #[93]))]) 0)))) 1 (qlenS (qsubS (qstr (qnth (q42 [(D.str (qstr (qnth (q27 [(D.str (qstr (qget pd0 sn0))),(D.str (ByteArray.mk #[91]))]) 0))),(D.str (ByteArray.mk #[93]))]) 0)) 2 (qlenS (qstr (qnth (q42 [(D.str (qstr (qnth (q27 [(D.str (qstr (qget pd0 sn0))),(D.str (ByteArray.mk #[91]))]) 0))),(D.str (ByteArray.mk #[93]))]) 0)))))))]) 0)) 128))]
 else
 none
 else
 none
 else
 none
 else
 none
 else
 none
 else
 none
 else
 none
 else
 none
 else
 none
 else
 none
 else
 none
 else
 none
 else
 none
 else
 none
 else
 none
 else
 none
 else
 none
 else
 none
 else
 none
 else
 none:=by
 have h:F80 [pd0,(D.bool pb1),(D.bool pb2),(D.int sn0),(D.bool sb1),(D.bool sb2)] =
  bif (qinb pd0 sn0)then
  bif (qsome (q27 [(D.str (qstr (qget pd0 sn0))),(D.str (ByteArray.mk #[91]))]))then
  bif (qsome (q42 [(D.str (qstr (qnth (q27 [(D.str (qstr (qget pd0 sn0))),(D.str (ByteArray.mk #[91]))]) 0))),(D.str (ByteArray.mk #[93]))]))then
  bif (qiteB (qiteB (qnot (qbool (qnth (q27 [(D.str (qstr (qget pd0 sn0))),(D.str (ByteArray.mk #[91]))]) 1))) Bool.true (qnot (qbool (qnth (q42 [(D.str (qstr (qnth (q27 [(D.str (qstr (qget pd0 sn0))),(D.str (ByteArray.mk #[91]))]) 0))),(D.str (ByteArray.mk #[93]))]) 1)))) Bool.true (qcmp BinOp.lss (qlenS (qstr (qnth (q42 [(D.str (qstr (qnth (q27 [(D.str (qstr (qget pd0 sn0))),(D.str (ByteArray.mk #[91]))]) 0))),(D.str (ByteArray.mk #[93]))]) 0))) 2))then
  bif (qeqD pd0 pd0)then
  bif (qeqD (D.bool pb1) (D.bool pb1))then
  bif (qeqD (D.bool pb2) (D.bool pb2))then
  some [(D.int 0),(D.int 0),(D.bool Bool.true),(D.bool sb2)]
  else
  none
  else
  none
  else
  none
  else
  bif (qcmp BinOp.leq 0 0)then
  bif (qcmp BinOp.leq 0 2)then
  bif (qcmp BinOp.leq 2 (qlenS (qstr (qnth (q42 [(D.str (qstr (qnth (q27 [(D.str (qstr (qget pd0 sn0))),(D.str (ByteArray.mk #[91]))]) 0))),(D.str (ByteArray.mk #[93]))]) 0))))then
  bif (qsome (q13 [(D.str (qsubS (qstr (qnth (q42 [(D.str (qstr (qnth (q27 [(D.str (qstr (qget pd0 sn0))),(D.str (ByteArray.mk #[91]))]) 0))),(D.str (ByteArray.mk #[93]))]) 0)) 0 2))]))then
  bif (qcmp BinOp.leq 0 2)then
  bif (qcmp BinOp.leq 2 (qlenS (qstr (qnth (q42 [(D.str (qstr (qnth (q27 [(D.str (qstr (qget pd0 sn0))),(D.str (ByteArray.mk #[91]))]) 0))),(D.str (ByteArray.mk #[93]))]) 0))))then
  bif (qcmp BinOp.leq (qlenS (qstr (qnth (q42 [(D.str (qstr (qnth (q27 [(D.str (qstr (qget pd0 sn0))),(D.str (ByteArray.mk #[91]))]) 0))),(D.str (ByteArray.mk #[93]))]) 0))) (qlenS (qstr (qnth (q42 [(D.str (qstr (qnth (q27 [(D.str (qstr (qget pd0 sn0))),(D.str (ByteArray.mk #[91]))]) 0))),(D.str (ByteArray.mk #[93]))]) 0))))then
  bif (qiteB (qcmpS BinOp.eql (qsubS (qstr (qnth (q42 [(D.str (qstr (qnth (q27 [(D.str (qstr (qget pd0 sn0))),(D.str (ByteArray.mk #[91]))]) 0))),(D.str (ByteArray.mk #[93]))]) 0)) 2 (qlenS (qstr (qnth (q42 [(D.str (qstr (qnth (q27 [(D.str (qstr (qget pd0 sn0))),(D.str (ByteArray.mk #[91]))]) 0))),(D.str (ByteArray.mk #[93]))]) 0)))) (ByteArray.mk #[])) (qbool (qnth (q13 [(D.str (qsubS (qstr (qnth (q42 [(D.str (qstr (qnth (q27 [(D.str (qstr (qget pd0 sn0))),(D.str (ByteArray.mk #[91]))]) 0))),(D.str (ByteArray.mk #[93]))]) 0)) 0 2))]) 1)) Bool.false)then
  bif (qeqD pd0 pd0)then
  bif (qeqD (D.bool pb1) (D.bool pb1))then
  bif (qeqD (D.bool pb2) (D.bool pb2))then
  some [(D.int (qint (qnth (q13 [(D.str (qsubS (qstr (qnth (q42 [(D.str (qstr (qnth (q27 [(D.str (qstr (qget pd0 sn0))),(D.str (ByteArray.mk #[91]))]) 0))),(D.str (ByteArray.mk #[93]))]) 0)) 0 2))]) 0))),(D.int 0),(D.bool sb1),(D.bool sb2)]
  else
  none
  else
  none
  else
  none
  else
  bif (qcmp BinOp.leq 0 2)then
  bif (qcmp BinOp.leq 2 (qlenS (qstr (qnth (q42 [(D.str (qstr (qnth (q27 [(D.str (qstr (qget pd0 sn0))),(D.str (ByteArray.mk #[91]))]) 0))),(D.str (ByteArray.mk #[93]))]) 0))))then
  bif (qcmp BinOp.leq (qlenS (qstr (qnth (q42 [(D.str (qstr (qnth (q27 [(D.str (qstr (qget pd0 sn0))),(D.str (ByteArray.mk #[91]))]) 0))),(D.str (ByteArray.mk #[93]))]) 0))) (qlenS (qstr (qnth (q42 [(D.str (qstr (qnth (q27 [(D.str (qstr (qget pd0 sn0))),(D.str (ByteArray.mk #[91]))]) 0))),(D.str (ByteArray.mk #[93]))]) 0))))then
  bif (qiteB (qiteB (qnot (qbool (qnth (q13 [(D.str (qsubS (qstr (qnth (q42 [(D.str (qstr (qnth (q27 [(D.str (qstr (qget pd0 sn0))),(D.str (ByteArray.mk #[91]))]) 0))),(D.str (ByteArray.mk #[93]))]) 0)) 0 2))]) 1))) Bool.true (qcmp BinOp.lss (qlenS (qsubS (qstr (qnth (q42 [(D.str (qstr (qnth (q27 [(D.str (qstr (qget pd0 sn0))),(D.str (ByteArray.mk #[91]))]) 0))),(D.str (ByteArray.mk #[93]))]) 0)) 2 (qlenS (qstr (qnth (q42 [(D.str (qstr (qnth (q27 [(D.str (qstr (qget pd0 sn0))),(D.str (ByteArray.mk #[91]))]) 0))),(D.str (ByteArray.mk #[93]))]) 0))))) 2)) Bool.true (qand (qinbS (qsubS (qstr (qnth (q42 [(D.str (qstr (qnth (q27 [(D.str (qstr (qget pd0 sn0))),(D.str (ByteArray.mk #[91]))]) 0))),(D.str (ByteArray.mk #[93]))]) 0)) 2 (qlenS (qstr (qnth (q42 [(D.str (qstr (qnth (q27 [(D.str (qstr (qget pd0 sn0))),(D.str (ByteArray.mk #[91]))]) 0))),(D.str (ByteArray.mk #[93]))]) 0)))) 0) (qiteB (qcmp BinOp.neq (qidxS (qsubS (qstr (qnth (q42 [(D.str (qstr (qnth (q27 [(D.str (qstr (qget pd0 sn0))),(D.str (ByteArray.mk #[91]))]) 0))),(D.str (ByteArray.mk #[93]))]) 0)) 2 (qlenS (qstr (qnth (q42 [(D.str (qstr (qnth (q27 [(D.str (qstr (qget pd0 sn0))),(D.str (ByteArray.mk #[91]))]) 0))),(D.str (ByteArray.mk #[93]))]) 0)))) 0) 43) (qinbS (qsubS (qstr (qnth (q42 [(D.str (qstr (qnth (q27 [(D.str (qstr (qget pd0 sn0))),(D.str (ByteArray.mk #[91]))]) 0))),(D.str (ByteArray.mk #[93]))]) 0)) 2 (qlenS (qstr (qnth (q42 [(D.str (qstr (qnth (q27 [(D.str (qstr (qget pd0 sn0))),(D.str (ByteArray.mk #[91]))]) 0))),(D.str (ByteArray.mk #[93]))]) 0)))) 0) Bool.true)))then
  bif (qiteB (qiteB (qiteB (qnot (qbool (qnth (q13 [(D.str (qsubS (qstr (qnth (q42 [(D.str (qstr (qnth (q27 [(D.str (qstr (qget pd0 sn0))),(D.str (ByteArray.mk #[91]))]) 0))),(D.str (ByteArray.mk #[93]))]) 0)) 0 2))]) 1))) Bool.true (qcmp BinOp.lss (qlenS (qsubS (qstr (qnth (q42 [(D.str (qstr (qnth (q27 [(D.str (qstr (qget pd0 sn0))),(D.str (ByteArray.mk #[91]))]) 0))),(D.str (ByteArray.mk #[93]))]) 0)) 2 (qlenS (qstr (qnth (q42 [(D.str (qstr (qnth (q27 [(D.str (qstr (qget pd0 sn0))),(D.str (ByteArray.mk #[91]))]) 0))),(D.str (ByteArray.mk #[93]))]) 0))))) 2)) Bool.true (qiteB (qcmp BinOp.neq (qidxS (qsubS (qstr (qnth (q42 [(D.str (qstr (qnth (q27 [(D.str (qstr (qget pd0 sn0))),(D.str (ByteArray.mk #[91]))]) 0))),(D.str (ByteArray.mk #[93]))]) 0)) 2 (qlenS (qstr (qnth (q42 [(D.str (qstr (qnth (q27 [(D.str (qstr (qget pd0 sn0))),(D.str (ByteArray.mk #[91]))]) 0))),(D.str (ByteArray.mk #[93]))]) 0)))) 0) 43) (qcmp BinOp.neq (qidxS (qsubS (qstr (qnth (q42 [(D.str (qstr (qnth (q27 [(D.str (qstr (qget pd0 sn0))),(D.str (ByteArray.mk #[91]))]) 0))),(D.str (ByteArray.mk #[93]))]) 0)) 2 (qlenS (qstr (qnth (q42 [(D.str (qstr (qnth (q27 [(D.str (qstr (qget pd0 sn0))),(D.str (ByteArray.mk #[91]))]) 0))),(D.str (ByteArray.mk #[93]))]) 0)))) 0) 45) Bool.false)) Bool.true (qinbS (qsubS (qstr (qnth (q42 [(D.str (qstr (qnth (q27 [(D.str (qstr (qget pd0 sn0))),(D.str (ByteArray.mk #[91]))]) 0))),(D.str (ByteArray.mk #[93]))]) 0)) 2 (qlenS (qstr (qnth (q42 [(D.str (qstr (qnth (q27 [(D.str (qstr (qget pd0 sn0))),(D.str (ByteArray.mk #[91]))]) 0))),(D.str (ByteArray.mk #[93]))]) 0)))) 1))then
  bif (qiteB (qiteB (qiteB (qnot (qbool (qnth (q13 [(D.str (qsubS (qstr (qnth (q42 [(D.str (qstr (qnth (q27 [(D.str (qstr (qget pd0 sn0))),(D.str (ByteArray.mk #[91]))]) 0))),(D.str (ByteArray.mk #[93]))]) 0)) 0 2))]) 1))) Bool.true (qcmp BinOp.lss (qlenS (qsubS (qstr (qnth (q42 [(D.str (qstr (qnth (q27 [(D.str (qstr (qget pd0 sn0))),(D.str (ByteArray.mk #[91]))]) 0))),(D.str (ByteArray.mk #[93]))]) 0)) 2 (qlenS (qstr (qnth (q42 [(D.str (qstr (qnth (q27 [(D.str (qstr (qget pd0 sn0))),(D.str (ByteArray.mk #[91]))]) 0))),(D.str (ByteArray.mk #[93]))]) 0))))) 2)) Bool.true (qiteB (qcmp BinOp.neq (qidxS (qsubS (qstr (qnth (q42 [(D.str (qstr (qnth (q27 [(D.str (qstr (qget pd0 sn0))),(D.str (ByteArray.mk #[91]))]) 0))),(D.str (ByteArray.mk #[93]))]) 0)) 2 (qlenS (qstr (qnth (q42 [(D.str (qstr (qnth (q27 [(D.str (qstr (qget pd0 sn0))),(D.str (ByteArray.mk #[91]))]) 0))),(D.str (ByteArray.mk #[93]))]) 0)))) 0) 43) (qcmp BinOp.neq (qidxS (qsubS (qstr (qnth (q42 [(D.str (qstr (qnth (q27 [(D.str (qstr (qget pd0 sn0))),(D.str (ByteArray.mk #[91]))]) 0))),(D.str (ByteArray.mk #[93]))]) 0)) 2 (qlenS (qstr (qnth (q42 [(D.str (qstr (qnth (q27 [(D.str (qstr (qget pd0 sn0))),(D.str (ByteArray.mk #[91]))]) 0))),(D.str (ByteArray.mk #[93]))]) 0)))) 0) 45) Bool.false)) Bool.true (qcmp BinOp.eql (qidxS (qsubS (qstr (qnth (q42 [(D.str (qstr (qnth (q27 [(D.str (qstr (qget pd0 sn0))),(D.str (ByteArray.mk #[91]))]) 0))),(D.str (ByteArray.mk #[93]))]) 0)) 2 (qlenS (qstr (qnth (q42 [(D.str (qstr (qnth (q27 [(D.str (qstr (qget pd0 sn0))),(D.str (ByteArray.mk #[91]))]) 0))),(D.str (ByteArray.mk #[93]))]) 0)))) 1) 45))then
  bif (qeqD pd0 pd0)then
  bif (qeqD (D.bool pb1) (D.bool pb1))then
  bif (qeqD (D.bool pb2) (D.bool pb2))then
  some [(D.int 0),(D.int 0),(D.bool Bool.true),(D.bool sb2)]
  else
  none
  else
  none
  else
  none
  else
  bif (qcmp BinOp.leq 0 1)then
  bif (qcmp BinOp.leq 1 (qlenS (qsubS (qstr (qnth (q42 [(D.str (qstr (qnth (q27 [(D.str (qstr (qget pd0 sn0))),(D.str (ByteArray.mk #[91]))]) 0))),(D.str (ByteArray.mk #[93]))]) 0)) 2 (qlenS (qstr (qnth (q42 [(D.str (qstr (qnth (q27 [(D.str (qstr (qget pd0 sn0))),(D.str (ByteArray.mk #[91]))]) 0))),(D.str (ByteArray.mk #[93]))]) 0))))))then
  bif (qcmp BinOp.leq (qlenS (qsubS (qstr (qnth (q42 [(D.str (qstr (qnth (q27 [(D.str (qstr (qget pd0 sn0))),(D.str (ByteArray.mk #[91]))]) 0))),(D.str (ByteArray.mk #[93]))]) 0)) 2 (qlenS (qstr (qnth (q42 [(D.str (qstr (qnth (q27 [(D.str (qstr (qget pd0 sn0))),(D.str (ByteArray.mk #[91]))]) 0))),(D.str (ByteArray.mk #[93]))]) 0))))) (qlenS (qsubS (qstr (qnth (q42 [(D.str (qstr (qnth (q27 [(D.str (qstr (qget pd0 sn0))),(D.str (ByteArray.mk #[91]))]) 0))),(D.str (ByteArray.mk #[93]))]) 0)) 2 (qlenS (qstr (qnth (q42 [(D.str (qstr (qnth (q27 [(D.str (qstr (qget pd0 sn0))),(D.str (ByteArray.mk #[91]))]) 0))),(D.str (ByteArray.mk #[93]))]) 0))))))then
  bif (qsome (q11 [(D.str (qsubS (qsubS (qstr (qnth (q42 [(D.str (qstr (qnth (q27 [(D.str (qstr (qget pd0 sn0))),(D.str (ByteArray.mk #[91]))]) 0))),(D.str (ByteArray.mk #[93]))]) 0)) 2 (qlenS (qstr (qnth (q42 [(D.str (qstr (qnth (q27 [(D.str (qstr (qget pd0 sn0))),(D.str (ByteArray.mk #[91]))]) 0))),(D.str (ByteArray.mk #[93]))]) 0)))) 1 (qlenS (qsubS (qstr (qnth (q42 [(D.str (qstr (qnth (q27 [(D.str (qstr (qget pd0 sn0))),(D.str (ByteArray.mk #[91]))]) 0))),(D.str (ByteArray.mk #[93]))]) 0)) 2 (qlenS (qstr (qnth (q42 [(D.str (qstr (qnth (q27 [(D.str (qstr (qget pd0 sn0))),(D.str (ByteArray.mk #[91]))]) 0))),(D.str (ByteArray.mk #[93]))]) 0)))))))]))then
  bif (qnot (qbool (qnth (q11 [(D.str (qsubS (qsubS (qstr (qnth (q42 [(D.str (qstr (qnth (q27 [(D.str (qstr (qget pd0 sn0))),(D.str (ByteArray.mk #[91]))]) 0))),(D.str (ByteArray.mk #[93]))]) 0)) 2 (qlenS (qstr (qnth (q42 [(D.str (qstr (qnth (q27 [(D.str (qstr (qget pd0 sn0))),(D.str (ByteArray.mk #[91]))]) 0))),(D.str (ByteArray.mk #[93]))]) 0)))) 1 (qlenS (qsubS (qstr (qnth (q42 [(D.str (qstr (qnth (q27 [(D.str (qstr (qget pd0 sn0))),(D.str (ByteArray.mk #[91]))]) 0))),(D.str (ByteArray.mk #[93]))]) 0)) 2 (qlenS (qstr (qnth (q42 [(D.str (qstr (qnth (q27 [(D.str (qstr (qget pd0 sn0))),(D.str (ByteArray.mk #[91]))]) 0))),(D.str (ByteArray.mk #[93]))]) 0)))))))]) 1)))then
  bif (qeqD pd0 pd0)then
  bif (qeqD (D.bool pb1) (D.bool pb1))then
  bif (qeqD (D.bool pb2) (D.bool pb2))then
  some [(D.int 0),(D.int 0),(D.bool Bool.true),(D.bool sb2)]
  else
  none
  else
  none
  else
  none
  else
  bif (qinbS (qsubS (qstr (qnth (q42 [(D.str (qstr (qnth (q27 [(D.str (qstr (qget pd0 sn0))),(D.str (ByteArray.mk #[91]))]) 0))),(D.str (ByteArray.mk #[93]))]) 0)) 2 (qlenS (qstr (qnth (q42 [(D.str (qstr (qnth (q27 [(D.str (qstr (qget pd0 sn0))),(D.str (ByteArray.mk #[91]))]) 0))),(D.str (ByteArray.mk #[93]))]) 0)))) 0)then
  bif (qcmp BinOp.eql (qidxS (qsubS (qstr (qnth (q42 [(D.str (qstr (qnth (q27 [(D.str (qstr (qget pd0 sn0))),(D.str (ByteArray.mk #[91]))]) 0))),(D.str (ByteArray.mk #[93]))]) 0)) 2 (qlenS (qstr (qnth (q42 [(D.str (qstr (qnth (q27 [(D.str (qstr (qget pd0 sn0))),(D.str (ByteArray.mk #[91]))]) 0))),(D.str (ByteArray.mk #[93]))]) 0)))) 0) 43)then
  bif sb2 then
  bif (qeqD pd0 pd0)then
  bif (qeqD (D.bool pb1) (D.bool pb1))then
  bif (qeqD (D.bool pb2) (D.bool pb2))then
  some [(D.int (qint (qnth (q13 [(D.str (qsubS (qstr (qnth (q42 [(D.str (qstr (qnth (q27 [(D.str (qstr (qget pd0 sn0))),(D.str (ByteArray.mk #[91]))]) 0))),(D.str (ByteArray.mk #[93]))]) 0)) 0 2))]) 0))),(D.int (qint (qnth (q11 [(D.str (qsubS (qsubS (qstr (qnth (q42 [(D.str (qstr (qnth (q27 [(D.str (qstr (qget pd0 sn0))),(D.str (ByteArray.mk #[91]))]) 0))),(D.str (ByteArray.mk #[93]))]) 0)) 2 (qlenS (qstr (qnth (q42 [(D.str (qstr (qnth (q27 [(D.str (qstr (qget pd0 sn0))),(D.str (ByteArray.mk #[91]))]) 0))),(D.str (ByteArray.mk #[93]))]) 0)))) 1 (qlenS (qsubS (qstr (qnth (q42 [(D.str (qstr (qnth (q27 [(D.str (qstr (qget pd0 sn0))),(D.str (ByteArray.mk #[91]))]) 0))),(D.str (ByteArray.mk #[93]))]) 0)) 2 (qlenS (qstr (qnth (q42 [(D.str (qstr (qnth (q27 [(D.str (qstr (qget pd0 sn0))),(D.str (ByteArray.mk #[91]))]) 0))),(D.str (ByteArray.mk #[93]))]) 0)))))))]) 0))),(D.bool sb1),(D.bool Bool.true)]
  else
  none
  else
  none
  else
  none
  else
  bif (qeqD pd0 pd0)then
  bif (qeqD (D.bool pb1) (D.bool pb1))then
  bif (qeqD (D.bool pb2) (D.bool pb2))then
  some [(D.int (qint (qnth (q13 [(D.str (qsubS (qstr (qnth (q42 [(D.str (qstr (qnth (q27 [(D.str (qstr (qget pd0 sn0))),(D.str (ByteArray.mk #[91]))]) 0))),(D.str (ByteArray.mk #[93]))]) 0)) 0 2))]) 0))),(D.int (qint (qnth (q11 [(D.str (qsubS (qsubS (qstr (qnth (q42 [(D.str (qstr (qnth (q27 [(D.str (qstr (qget pd0 sn0))),(D.str (ByteArray.mk #[91]))]) 0))),(D.str (ByteArray.mk #[93]))]) 0)) 2 (qlenS (qstr (qnth (q42 [(D.str (qstr (qnth (q27 [(D.str (qstr (qget pd0 sn0))),(D.str (ByteArray.mk #[91]))]) 0))),(D.str (ByteArray.mk #[93]))]) 0)))) 1 (qlenS (qsubS (qstr (qnth (q42 [(D.str (qstr (qnth (q27 [(D.str (qstr (qget pd0 sn0))),(D.str (ByteArray.mk #[91]))]) 0))),(D.str (ByteArray.mk #[93]))]) 0)) 2 (qlenS (qstr (qnth (q42 [(D.str (qstr (qnth (q27 [(D.str (qstr (qget pd0 sn0))),(D.str (ByteArray.mk #[91]))]) 0))),(D.str (ByteArray.mk #[93]))]) 0)))))))]) 0))),(D.bool sb1),(D.bool (qcmp BinOp.gtr (qint (qnth (q11 [(D.str (qsubS (qsubS (qstr (qnth (q42 [(D.str (qstr (qnth (q27 [(D.str (qstr (qget pd0 sn0))),(D.str (ByteArray.mk #[91]))]) 0))),(D.str (ByteArray.mk #[93]))]) 0)) 2 (qlenS (qstr (qnth (q42 [(D.str (qstr (qnth (q27 [(D.str (qstr (qget pd0 sn0))),(D.str (ByteArray.mk #[91]))]) 0))),(D.str (ByteArray.mk #[93]))]) 0)))) 1 (qlenS (qsubS (qstr (qnth (q42 [(D.str (qstr (qnth (q27 [(D.str (qstr (qget pd0 sn0))),(D.str (ByteArray.mk #[91]))]) 0))),(D.str (ByteArray.mk #[93]))]) 0)) 2 (qlenS (qstr (qnth (q42 [(D.str (qstr (qnth (q27 [(D.str (qstr (qget pd0 sn0))),(D.str (ByteArray.mk #[91]))]) 0))),(D.str (ByteArray.mk #[93]))]) 0)))))))]) 0)) 127))]
  else
  none
  else
  none
  else
  none
  else
  bif sb2 then
  bif (qeqD pd0 pd0)then
  bif (qeqD (D.bool pb1) (D.bool pb1))then
  bif (qeqD (D.bool pb2) (D.bool pb2))then
  some [(D.int (qint (qnth (q13 [(D.str (qsubS (qstr (qnth (q42 [(D.str (qstr (qnth (q27 [(D.str (qstr (qget pd0 sn0))),(D.str (ByteArray.mk #[91]))]) 0))),(D.str (ByteArray.mk #[93]))]) 0)) 0 2))]) 0))),(D.int (qun UnOp.neg IntKind.u32 (qint (qnth (q11 [(D.str (qsubS (qsubS (qstr (qnth (q42 [(D.str (qstr (qnth (q27 [(D.str (qstr (qget pd0 sn0))),(D.str (ByteArray.mk #[91]))]) 0))),(D.str (ByteArray.mk #[93]))]) 0)) 2 (qlenS (qstr (qnth (q42 [(D.str (qstr (qnth (q27 [(D.str (qstr (qget pd0 sn0))),(D.str (ByteArray.mk #[91]))]) 0))),(D.str (ByteArray.mk #[93]))]) 0)))) 1 (qlenS (qsubS (qstr (qnth (q42 [(D.str (qstr (qnth (q27 [(D.str (qstr (qget pd0 sn0))),(D.str (ByteArray.mk #[91]))]) 0))),(D.str (ByteArray.mk #[93]))]) 0)) 2 (qlenS (qstr (qnth (q42 [(D.str (qstr (qnth (q27 [(D.str (qstr (qget pd0 sn0))),(D.str (ByteArray.mk #[91]))]) 0))),(D.str (ByteArray.mk #[93]))]) 0)))))))]) 0)))),(D.bool sb1),(D.bool Bool.true)]
  else
  none
  else
  none
  else
  none
  else
  bif (qeqD pd0 pd0)then
  bif (qeqD (D.bool pb1) (D.bool pb1))then
  bif (qeqD (D.bool pb2) (D.bool pb2))then
  some [(D.int (qint (qnth (q13 [(D.str (qsubS (qstr (qnth (q42 [(D.str (qstr (qnth (q27 [(D.str (qstr (qget pd0 sn0))),(D.str (ByteArray.mk #[91]))]) 0))),(D.str (ByteArray.mk #[93]))]) 0)) 0 2))]) 0))),(D.int (qun UnOp.neg IntKind.u32 (qint (qnth (q11 [(D.str (qsubS (qsubS (qstr (qnth (q42 [(D.str (qstr (qnth (q27 [(D.str (qstr (qget pd0 sn0))),(D.str (ByteArray.mk #[91]))]) 0))),(D.str (ByteArray.mk #[93]))]) 0)) 2 (qlenS (qstr (qnth (q42 [(D.str (qstr (qnth (q27 [(D.str (qstr (qget pd0 sn0))),(D.str (ByteArray.mk #[91]))]) 0))),(D.str (ByteArray.mk #[93]))]) 0)))) 1 (qlenS (qsubS (qstr (qnth (q42 [(D.str (qstr (qnth (q27 [(D.str (qstr (qget pd0 sn0))),(D.str (ByteArray.mk #[91]))]) 0))),(D.str (ByteArray.mk #[93]))]) 0)) 2 (qlenS (qstr (qnth (q42 [(D.str (qstr (qnth (q27 [(D.str (qstr (qget pd0 sn0))),(D.str (ByteArray.mk #[91]))]) 0))),(D.str (ByteArray.mk #[93]))]) 0)))))))]) 0)))),(D.bool sb1),(D.bool (qcmp BinOp.gtr (qint (qnth (q11 [(D.str (qsubS (qsubS (qstr (qnth (q42 [(D.str (qstr (qnth (q27 [(D.str (qstr (qget pd0 sn0))),(D.str (ByteArray.mk #[91]))]) 0))),(D.str (ByteArray.mk #[93]))]) 0)) 2 (qlenS (qstr (qnth (q42 [(D.str (qstr (qnth (q27 [(D.str (qstr (qget pd0 sn0))),(D.str (ByteArray.mk #[91]))]) 0))),(D.str (ByteArray.mk #[93]))]) 0)))) 1 (qlenS (qsubS (qstr (qnth (q42 [(D.str (qstr (qnth (q27 [(D.str (qstr (qget pd0 sn0))),(D.str (ByteArray.mk #[91]))]) 0))),(D.str (ByteArray.mk #[93]))]) 0)) 2 (qlenS (qstr (qnth (q42 [(D.str (qstr (qnth (q27 [(D.str (qstr (qget pd0 sn0))),(D.str (ByteArray.mk #[91]))]) 0))),(D.str (ByteArray.mk #[93]))]) 0)))))))]) 0)) 128))]
  else
  none
  else
  none
  else
  none
  else
  none
  else
  none
  else
  none
  else
  none
  else
  none
  else
  none
  else
  none
  else
  none
  else
  none
  else
  none
  else
  none
  else
  none
  else
  none
  else
  none
  else
  none
  else
  none
  else
  none
  else
  none
  else
  none
  else
  none:=by kernel_rfl
 rw[h];simp only[qeqD_self,qeqI_self,qeq_len,show qcmp BinOp.eql 0 (qlen (D.list []))=true from qeq_len [],show∀a,qcmp BinOp.eql 1 (qlen (D.list [a]))=true from fun a=>qeq_len [a],show∀a b,qcmp BinOp.eql 2 (qlen (D.list [a,b]))=true from fun a b=>qeq_len [a,b],show∀a b c,qcmp BinOp.eql 3 (qlen (D.list [a,b,c]))=true from fun a b c=>qeq_len [a,b,c],show∀a b c d,qcmp BinOp.eql 4 (qlen (D.list [a,b,c,d]))=true from fun a b c d=>qeq_len [a,b,c,d],cond_true]
noncomputable def q80:List D→Option (List D):=veil (F80)
theorem q80_eq:q80=F80:=veil_eq _
noncomputable def tb80:Tb:=Tb.addF tb61 80 S80 (q80)
theorem ok_tb80:TbOk env (tb80):=addFunF ok_tb61 80 (by kernel_rfl) _ (q80_eq)
def S46:FunS:=⟨[⟨true,(.ptr 0 0)⟩,⟨true,(.dat 24)⟩],[(.cells [⟨false,(.rows 9)⟩,⟨false,(.func 25 [] [])⟩,⟨true, .bool⟩,⟨false, .bool⟩,⟨false, .bool⟩,⟨false, .bool⟩])],[⟨true,(.dat 24)⟩],[(.cells [⟨false,(.rows 9)⟩,⟨true,(.func 25 [] [])⟩,⟨true, .bool⟩,⟨false, .bool⟩,⟨false, .bool⟩,⟨false, .bool⟩])]⟩
noncomputable def F46:List D→Option (List D):=liftX env tb80 60 12 46 S46
theorem F46_eq (pd0:D) (pb1:Bool) (pb2:Bool) (pb3:Bool) (sd0:D) (sb1:Bool):F46 [pd0,(D.bool pb1),(D.bool pb2),(D.bool pb3),sd0,(D.bool sb1)] =
 bif (qsome (q60 [pd0,(D.bool pb1),(D.bool pb2),(D.bool pb3),(D.int 1),(D.bool sb1)]))then
 bif (qbool (qnth (q60 [pd0,(D.bool pb1),(D.bool pb2),(D.bool pb3),(D.int 1),(D.bool sb1)]) 0))then
 bif (qsome (q62 [pd0,(D.bool pb1),(D.bool pb2),(D.bool pb3),(D.int 0),(D.bool (qbool (qnth (q60 [pd0,(D.bool pb1),(D.bool pb2),(D.bool pb3),(D.int 1),(D.bool sb1)]) 1)))]))then
 some [(D.agg [(D.int (qint (qfld sd0 0))),(D.int (qint (qfld sd0 1))),(D.int (qint (qfld sd0 2))),(D.int (qint (qfld sd0 3))),(D.int (qint (qfld sd0 4))),(D.int (qint (qfld sd0 5))),(D.int (qint (qnth (q62 [pd0,(D.bool pb1),(D.bool pb2),(D.bool pb3),(D.int 0),(D.bool (qbool (qnth (q60 [pd0,(D.bool pb1),(D.bool pb2),(D.bool pb3),(D.int 1),(D.bool sb1)]) 1)))]) 0))),(D.int (qint (qfld sd0 7))),(D.int (qint (qfld sd0 8)))]),(D.bool (qbool (qnth (q62 [pd0,(D.bool pb1),(D.bool pb2),(D.bool pb3),(D.int 0),(D.bool (qbool (qnth (q60 [pd0,(D.bool pb1),(D.bool pb2),(D.bool pb3),(D.int 1),(D.bool sb1)]) 1)))]) 1)))]
 else
 none
 else
 some [sd0,(D.bool (qbool (qnth (q60 [pd0,(D.bool pb1),(D.bool pb2),(D.bool pb3),(D.int 1),(D.bool sb1)]) 1)))]
 else
 none:=by
 have h:F46 [pd0,(D.bool pb1),(D.bool pb2),(D.bool pb3),sd0,(D.bool sb1)] =
  bif (qsome (q60 [pd0,(D.bool pb1),(D.bool pb2),(D.bool pb3),(D.int 1),(D.bool sb1)]))then
  bif (qbool (qnth (q60 [pd0,(D.bool pb1),(D.bool pb2),(D.bool pb3),(D.int 1),(D.bool sb1)]) 0))then
  bif (qsome (q62 [pd0,(D.bool pb1),(D.bool pb2),(D.bool pb3),(D.int 0),(D.bool (qbool (qnth (q60 [pd0,(D.bool pb1),(D.bool pb2),(D.bool pb3),(D.int 1),(D.bool sb1)]) 1)))]))then
  bif (qeqD pd0 pd0)then
  bif (qeqD (D.bool pb1) (D.bool pb1))then
  bif (qeqD (D.bool pb2) (D.bool pb2))then
  bif (qeqD (D.bool pb3) (D.bool pb3))then
  some [(D.agg [(D.int (qint (qfld sd0 0))),(D.int (qint (qfld sd0 1))),(D.int (qint (qfld sd0 2))),(D.int (qint (qfld sd0 3))),(D.int (qint (qfld sd0 4))),(D.int (qint (qfld sd0 5))),(D.int (qint (qnth (q62 [pd0,(D.bool pb1),(D.bool pb2),(D.bool pb3),(D.int 0),(D.bool (qbool (qnth (q60 [pd0,(D.bool pb1),(D.bool pb2),(D.bool pb3),(D.int 1),(D.bool sb1)]) 1)))]) 0))),(D.int (qint (qfld sd0 7))),(D.int (qint (qfld sd0 8)))]),(D.bool (qbool (qnth (q62 [pd0,(D.bool pb1),(D.bool pb2),(D.bool pb3),(D.int 0),(D.bool (qbool (qnth (q60 [pd0,(D.bool pb1),(D.bool pb2),(D.bool pb3),(D.int 1),(D.bool sb1)]) 1)))]) 1)))]
  else
  none
  else
  none
  else
  none
  else
  none
  else
  none
  else
  bif (qeqD pd0 pd0)then
  bif (qeqD (D.bool pb1) (D.bool pb1))then
  bif (qeqD (D.bool pb2) (D.bool pb2))then
  bif (qeqD (D.bool pb3) (D.bool pb3))then
  some [sd0,(D.bool (qbool (qnth (q60 [pd0,(D.bool pb1),(D.bool pb2),(D.bool pb3),(D.int 1),(D.bool sb1)]) 1)))]
  else
  none
  else
  none
  else
  none
  else
  none
  else
  none:=by kernel_rfl
 rw[h];simp only[qeqD_self,qeqI_self,qeq_len,show qcmp BinOp.eql 0 (qlen (D.list []))=true from qeq_len [],show∀a,qcmp BinOp.eql 1 (qlen (D.list [a]))=true from fun a=>qeq_len [a],show∀a b,qcmp BinOp.eql 2 (qlen (D.list [a,b]))=true from fun a b=>qeq_len [a,b],show∀a b c,qcmp BinOp.eql 3 (qlen (D.list [a,b,c]))=true from fun a b c=>qeq_len [a,b,c],show∀a b c d,qcmp BinOp.eql 4 (qlen (D.list [a,b,c,d]))=true from fun a b c d=>qeq_len [a,b,c,d],cond_true]
noncomputable def q46:List D→Option (List D):=veil (F46)
theorem q46_eq:q46=F46:=veil_eq _
noncomputable def tb46:Tb:=Tb.addF tb80 46 S46 (q46)
theorem ok_tb46:TbOk env (tb46):=addFunF ok_tb80 46 (by kernel_rfl) _ (q46_eq)
def S64:FunS:=⟨[⟨true,(.ptr 0 0)⟩,⟨true,(.dat 24)⟩,⟨true, .bool⟩],[(.cells [⟨false,(.rows 9)⟩,⟨false,(.func 25 [] [])⟩,⟨true, .bool⟩,⟨true, .bool⟩,⟨false, .bool⟩,⟨false, .bool⟩])],[⟨true,(.dat 24)⟩],[(.cells [⟨false,(.rows 9)⟩,⟨true,(.func 25 [] [])⟩,⟨true, .bool⟩,⟨true, .bool⟩,⟨false, .bool⟩,⟨false, .bool⟩])]⟩
noncomputable def F64:List D→Option (List D):=liftX env tb46 60 12 64 S64
theorem F64_eq (pd0:D) (pb1:Bool) (pb2:Bool) (sd0:D) (sb1:Bool) (sb2:Bool) (sb3:Bool):F64 [pd0,(D.bool pb1),(D.bool pb2),sd0,(D.bool sb1),(D.bool sb2),(D.bool sb3)] =
 bif (qsome (q60 [pd0,(D.bool sb3),(D.bool pb1),(D.bool pb2),(D.int 2),(D.bool sb2)]))then
 bif (qnot (qbool (qnth (q60 [pd0,(D.bool sb3),(D.bool pb1),(D.bool pb2),(D.int 2),(D.bool sb2)]) 0)))then
 some [sd0,(D.bool (qbool (qnth (q60 [pd0,(D.bool sb3),(D.bool pb1),(D.bool pb2),(D.int 2),(D.bool sb2)]) 1))),(D.bool sb3)]
 else
 bif sb1 then
 bif (qsome (q80 [pd0,(D.bool pb1),(D.bool pb2),(D.int 0),(D.bool (qbool (qnth (q60 [pd0,(D.bool sb3),(D.bool pb1),(D.bool pb2),(D.int 2),(D.bool sb2)]) 1))),(D.bool sb3)]))then
 bif (qsome (q62 [pd0,(D.bool (qbool (qnth (q80 [pd0,(D.bool pb1),(D.bool pb2),(D.int 0),(D.bool (qbool (qnth (q60 [pd0,(D.bool sb3),(D.bool pb1),(D.bool pb2),(D.int 2),(D.bool sb2)]) 1))),(D.bool sb3)]) 3))),(D.bool pb1),(D.bool pb2),(D.int 1),(D.bool (qbool (qnth (q80 [pd0,(D.bool pb1),(D.bool pb2),(D.int 0),(D.bool (qbool (qnth (q60 [pd0,(D.bool sb3),(D.bool pb1),(D.bool pb2),(D.int 2),(D.bool sb2)]) 1))),(D.bool sb3)]) 2)))]))then
 some [(D.agg [(D.int (qint (qfld sd0 0))),(D.int (qint (qnth (q80 [pd0,(D.bool pb1),(D.bool pb2),(D.int 0),(D.bool (qbool (qnth (q60 [pd0,(D.bool sb3),(D.bool pb1),(D.bool pb2),(D.int 2),(D.bool sb2)]) 1))),(D.bool sb3)]) 1))),(D.int (qint (qfld sd0 2))),(D.int (qint (qfld sd0 3))),(D.int (qint (qfld sd0 4))),(D.int (qint (qfld sd0 5))),(D.int (qint (qnth (q62 [pd0,(D.bool (qbool (qnth (q80 [pd0,(D.bool pb1),(D.bool pb2),(D.int 0),(D.bool (qbool (qnth (q60 [pd0,(D.bool sb3),(D.bool pb1),(D.bool pb2),(D.int 2),(D.bool sb2)]) 1))),(D.bool sb3)]) 3))),(D.bool pb1),(D.bool pb2),(D.int 1),(D.bool (qbool (qnth (q80 [pd0,(D.bool pb1),(D.bool pb2),(D.int 0),(D.bool (qbool (qnth (q60 [pd0,(D.bool sb3),(D.bool pb1),(D.bool pb2),(D.int 2),(D.bool sb2)]) 1))),(D.bool sb3)]) 2)))]) 0))),(D.int (qint (qnth (q80 [pd0,(D.bool pb1),(D.bool pb2),(D.int 0),(D.bool (qbool (qnth (q60 [pd0,(D.bool sb3),(D.bool pb1),(D.bool pb2),(D.int 2),(D.bool sb2)]) 1))),(D.bool sb3)]) 0))),(D.int (qint (qfld sd0 8)))]),(D.bool (qbool (qnth (q62 [pd0,(D.bool (qbool (qnth (q80 [pd0,(D.bool pb1),(D.bool pb2),(D.int 0),(D.bool (qbool (qnth (q60 [pd0,(D.bool sb3),(D.bool pb1),(D.bool pb2),(D.int 2),(D.bool sb2)]) 1))),(D.bool sb3)]) 3))),(D.bool pb1),(D.bool pb2),(D.int 1),(D.bool (qbool (qnth (q80 [pd0,(D.bool pb1),(D.bool pb2),(D.int 0),(D.bool (qbool (qnth (q60 [pd0,(D.bool sb3),(D.bool pb1),(D.bool pb2),(D.int 2),(D.bool sb2)]) 1))),(D.bool sb3)]) 2)))]) 1))),(D.bool (qbool (qnth (q80 [pd0,(D.bool pb1),(D.bool pb2),(D.int 0),(D.bool (qbool (qnth (q60 [pd0,(D.bool sb3),(D.bool pb1),(D.bool pb2),(D.int 2),(D.bool sb2)]) 1))),(D.bool sb3)]) 3)))]
 else
 none
 else
 none
 else
 bif (qsome (q62 [pd0,(D.bool sb3),(D.bool pb1),(D.bool pb2),(D.int 0),(D.bool (qbool (qnth (q60 [pd0,(D.bool sb3),(D.bool pb1),(D.bool pb2),(D.int 2),(D.bool sb2)]) 1)))]))then
 bif (qsome (q80 [pd0,(D.bool pb1),(D.bool pb2),(D.int 1),(D.bool (qbool (qnth (q62 [pd0,(D.bool sb3),(D.bool pb1),(D.bool pb2),(D.int 0),(D.bool (qbool (qnth (q60 [pd0,(D.bool sb3),(D.bool pb1),(D.bool pb2),(D.int 2),(D.bool sb2)]) 1)))]) 1))),(D.bool sb3)]))then
 some [(D.agg [(D.int (qint (qfld sd0 0))),(D.int (qint (qnth (q80 [pd0,(D.bool pb1),(D.bool pb2),(D.int 1),(D.bool (qbool (qnth (q62 [pd0,(D.bool sb3),(D.bool pb1),(D.bool pb2),(D.int 0),(D.bool (qbool (qnth (q60 [pd0,(D.bool sb3),(D.bool pb1),(D.bool pb2),(D.int 2),(D.bool sb2)]) 1)))]) 1))),(D.bool sb3)]) 1))),(D.int (qint (qfld sd0 2))),(D.int (qint (qfld sd0 3))),(D.int (qint (qfld sd0 4))),(D.int (qint (qfld sd0 5))),(D.int (qint (qnth (q62 [pd0,(D.bool sb3),(D.bool pb1),(D.bool pb2),(D.int 0),(D.bool (qbool (qnth (q60 [pd0,(D.bool sb3),(D.bool pb1),(D.bool pb2),(D.int 2),(D.bool sb2)]) 1)))]) 0))),(D.int (qint (qnth (q80 [pd0,(D.bool pb1),(D.bool pb2),(D.int 1),(D.bool (qbool (qnth (q62 [pd0,(D.bool sb3),(D.bool pb1),(D.bool pb2),(D.int 0),(D.bool (qbool (qnth (q60 [pd0,(D.bool sb3),(D.bool pb1),(D.bool pb2),(D.int 2),(D.bool sb2)]) 1)))]) 1))),(D.bool sb3)]) 0))),(D.int (qint (qfld sd0 8)))]),(D.bool (qbool (qnth (q80 [pd0,(D.bool pb1),(D.bool pb2),(D.int 1),(D.bool (qbool (qnth (q62 [pd0,(D.bool sb3),(D.bool pb1),(D.bool pb2),(D.int 0),(D.bool (qbool (qnth (q60 [pd0,(D.bool sb3),(D.bool pb1),(D.bool pb2),(D.int 2),(D.bool sb2)]) 1)))]) 1))),(D.bool sb3)]) 2))),(D.bool (qbool (qnth (q80 [pd0,(D.bool pb1),(D.bool pb2),(D.int 1),(D.bool (qbool (qnth (q62 [pd0,(D.bool sb3),(D.bool pb1),(D.bool pb2),(D.int 0),(D.bool (qbool (qnth (q60 [pd0,(D.bool sb3),(D.bool pb1),(D.bool pb2),(D.int 2),(D.bool sb2)]) 1)))]) 1))),(D.bool sb3)]) 3)))]
 else
 none
 else
 none
 else
 none:=by
 have h:F64 [pd0,(D.bool pb1),(D.bool pb2),sd0,(D.bool sb1),(D.bool sb2),(D.bool sb3)] =
  bif (qsome (q60 [pd0,(D.bool sb3),(D.bool pb1),(D.bool pb2),(D.int 2),(D.bool sb2)]))then
  bif (qnot (qbool (qnth (q60 [pd0,(D.bool sb3),(D.bool pb1),(D.bool pb2),(D.int 2),(D.bool sb2)]) 0)))then
  bif (qeqD pd0 pd0)then
  bif (qeqD (D.bool pb1) (D.bool pb1))then
  bif (qeqD (D.bool pb2) (D.bool pb2))then
  some [sd0,(D.bool (qbool (qnth (q60 [pd0,(D.bool sb3),(D.bool pb1),(D.bool pb2),(D.int 2),(D.bool sb2)]) 1))),(D.bool sb3)]
  else
  none
  else
  none
  else
  none
  else
  bif sb1 then
  bif (qsome (q80 [pd0,(D.bool pb1),(D.bool pb2),(D.int 0),(D.bool (qbool (qnth (q60 [pd0,(D.bool sb3),(D.bool pb1),(D.bool pb2),(D.int 2),(D.bool sb2)]) 1))),(D.bool sb3)]))then
  bif (qsome (q62 [pd0,(D.bool (qbool (qnth (q80 [pd0,(D.bool pb1),(D.bool pb2),(D.int 0),(D.bool (qbool (qnth (q60 [pd0,(D.bool sb3),(D.bool pb1),(D.bool pb2),(D.int 2),(D.bool sb2)]) 1))),(D.bool sb3)]) 3))),(D.bool pb1),(D.bool pb2),(D.int 1),(D.bool (qbool (qnth (q80 [pd0,(D.bool pb1),(D.bool pb2),(D.int 0),(D.bool (qbool (qnth (q60 [pd0,(D.bool sb3),(D.bool pb1),(D.bool pb2),(D.int 2),(D.bool sb2)]) 1))),(D.bool sb3)]) 2)))]))then
  bif (qeqD pd0 pd0)then
  bif (qeqD (D.bool pb1) (D.bool pb1))then
  bif (qeqD (D.bool pb2) (D.bool pb2))then
  some [(D.agg [(D.int (qint (qfld sd0 0))),(D.int (qint (qnth (q80 [pd0,(D.bool pb1),(D.bool pb2),(D.int 0),(D.bool (qbool (qnth (q60 [pd0,(D.bool sb3),(D.bool pb1),(D.bool pb2),(D.int 2),(D.bool sb2)]) 1))),(D.bool sb3)]) 1))),(D.int (qint (qfld sd0 2))),(D.int (qint (qfld sd0 3))),(D.int (qint (qfld sd0 4))),(D.int (qint (qfld sd0 5))),(D.int (qint (qnth (q62 [pd0,(D.bool (qbool (qnth (q80 [pd0,(D.bool pb1),(D.bool pb2),(D.int 0),(D.bool (qbool (qnth (q60 [pd0,(D.bool sb3),(D.bool pb1),(D.bool pb2),(D.int 2),(D.bool sb2)]) 1))),(D.bool sb3)]) 3))),(D.bool pb1),(D.bool pb2),(D.int 1),(D.bool (qbool (qnth (q80 [pd0,(D.bool pb1),(D.bool pb2),(D.int 0),(D.bool (qbool (qnth (q60 [pd0,(D.bool sb3),(D.bool pb1),(D.bool pb2),(D.int 2),(D.bool sb2)]) 1))),(D.bool sb3)]) 2)))]) 0))),(D.int (qint (qnth (q80 [pd0,(D.bool pb1),(D.bool pb2),(D.int 0),(D.bool (qbool (qnth (q60 [pd0,(D.bool sb3),(D.bool pb1),(D.bool pb2),(D.int 2),(D.bool sb2)]) 1))),(D.bool sb3)]) 0))),(D.int (qint (qfld sd0 8)))]),(D.bool (qbool (qnth (q62 [pd0,(D.bool (qbool (qnth (q80 [pd0,(D.bool pb1),(D.bool pb2),(D.int 0),(D.bool (qbool (qnth (q60 [pd0,(D.bool sb3),(D.bool pb1),(D.bool pb2),(D.int 2),(D.bool sb2)]) 1))),(D.bool sb3)]) 3))),(D.bool pb1),(D.bool pb2),(D.int 1),(D.bool (qbool (qnth (q80 [pd0,(D.bool pb1),(D.bool pb2),(D.int 0),(D.bool (qbool (qnth (q60 [pd0,(D.bool sb3),(D.bool pb1),(D.bool pb2),(D.int 2),(D.bool sb2)]) 1))),(D.bool sb3)]) 2)))]) 1))),(D.bool (qbool (qnth (q80 [pd0,(D.bool pb1),(D.bool pb2),(D.int 0),(D.bool (qbool (qnth (q60 [pd0,(D.bool sb3),(D.bool pb1),(D.bool pb2),(D.int 2),(D.bool sb2)]) 1))),(D.bool sb3)]) 3)))]
  else
  none
  else
  none
  else
  none
  else
  none
  else
  none
  else
  bif (qsome (q62 [pd0,(D.bool sb3),(D.bool pb1),(D.bool pb2),(D.int 0),(D.bool (qbool (qnth (q60 [pd0,(D.bool sb3),(D.bool pb1),(D.bool pb2),(D.int 2),(D.bool sb2)]) 1)))]))then
  bif (qsome (q80 [pd0,(D.bool pb1),(D.bool pb2),(D.int 1),(D.bool (qbool (qnth (q62 [pd0,(D.bool sb3),(D.bool pb1),(D.bool pb2),(D.int 0),(D.bool (qbool (qnth (q60 [pd0,(D.bool sb3),(D.bool pb1),(D.bool pb2),(D.int 2),(D.bool sb2)]) 1)))]) 1))),(D.bool sb3)]))then
  bif (qeqD pd0 pd0)then
  bif (qeqD (D.bool pb1) (D.bool pb1))then
  bif (qeqD (D.bool pb2) (D.bool pb2))then
  some [(D.agg [(D.int (qint (qfld sd0 0))),(D.int (qint (qnth (q80 [pd0,(D.bool pb1),(D.bool pb2),(D.int 1),(D.bool (qbool (qnth (q62 [pd0,(D.bool sb3),(D.bool pb1),(D.bool pb2),(D.int 0),(D.bool (qbool (qnth (q60 [pd0,(D.bool sb3),(D.bool pb1),(D.bool pb2),(D.int 2),(D.bool sb2)]) 1)))]) 1))),(D.bool sb3)]) 1))),(D.int (qint (qfld sd0 2))),(D.int (qint (qfld sd0 3))),(D.int (qint (qfld sd0 4))),(D.int (qint (qfld sd0 5))),(D.int (qint (qnth (q62 [pd0,(D.bool sb3),(D.bool pb1),(D.bool pb2),(D.int 0),(D.bool (qbool (qnth (q60 [pd0,(D.bool sb3),(D.bool pb1),(D.bool pb2),(D.int 2),(D.bool sb2)]) 1)))]) 0))),(D.int (qint (qnth (q80 [pd0,(D.bool pb1),(D.bool pb2),(D.int 1),(D.bool (qbool (qnth (q62 [pd0,(D.bool sb3),(D.bool pb1),(D.bool pb2),(D.int 0),(D.bool (qbool (qnth (q60 [pd0,(D.bool sb3),(D.bool pb1),(D.bool pb2),(D.int 2),(D.bool sb2)]) 1)))]) 1))),(D.bool sb3)]) 0))),(D.int (qint (qfld sd0 8)))]),(D.bool (qbool (qnth (q80 [pd0,(D.bool pb1),(D.bool pb2),(D.int 1),(D.bool (qbool (qnth (q62 [pd0,(D.bool sb3),(D.bool pb1),(D.bool pb2),(D.int 0),(D.bool (qbool (qnth (q60 [pd0,(D.bool sb3),(D.bool pb1),(D.bool pb2),(D.int 2),(D.bool sb2)]) 1)))]) 1))),(D.bool sb3)]) 2))),(D.bool (qbool (qnth (q80 [pd0,(D.bool pb1),(D.bool pb2),(D.int 1),(D.bool (qbool (qnth (q62 [pd0,(D.bool sb3),(D.bool pb1),(D.bool pb2),(D.int 0),(D.bool (qbool (qnth (q60 [pd0,(D.bool sb3),(D.bool pb1),(D.bool pb2),(D.int 2),(D.bool sb2)]) 1)))]) 1))),(D.bool sb3)]) 3)))]
  else
  none
  else
  none
  else
  none
  else
  none
  else
  none
  else
  none:=by kernel_rfl
 rw[h];simp only[qeqD_self,qeqI_self,qeq_len,show qcmp BinOp.eql 0 (qlen (D.list []))=true from qeq_len [],show∀a,qcmp BinOp.eql 1 (qlen (D.list [a]))=true from fun a=>qeq_len [a],show∀a b,qcmp BinOp.eql 2 (qlen (D.list [a,b]))=true from fun a b=>qeq_len [a,b],show∀a b c,qcmp BinOp.eql 3 (qlen (D.list [a,b,c]))=true from fun a b c=>qeq_len [a,b,c],show∀a b c d,qcmp BinOp.eql 4 (qlen (D.list [a,b,c,d]))=true from fun a b c d=>qeq_len [a,b,c,d],cond_true]
noncomputable def q64:List D→Option (List D):=veil (F64)
theorem q64_eq:q64=F64:=veil_eq _
noncomputable def tb64:Tb:=Tb.addF tb46 64 S64 (q64)
theorem ok_tb64:TbOk env (tb64):=addFunF ok_tb46 64 (by kernel_rfl) _ (q64_eq)
def S65:FunS:=⟨[⟨true,(.ptr 0 0)⟩,⟨true, .str⟩],[(.cells [⟨false,(.rows 9)⟩,⟨false,(.func 25 [] [])⟩,⟨true, .bool⟩,⟨false, .bool⟩,⟨false, .bool⟩,⟨false, .bool⟩])],[⟨true,(.dat 24)⟩],[(.cells [⟨false,(.rows 9)⟩,⟨true,(.func 25 [] [])⟩,⟨true, .bool⟩,⟨false, .bool⟩,⟨false, .bool⟩,⟨false, .bool⟩])]⟩
noncomputable def F65:List D→Option (List D):=liftX env tb64 60 12 65 S65
theorem F65_eq (pd0:D) (pb1:Bool) (pb2:Bool) (pb3:Bool) (ss0:ByteArray) (sb1:Bool):F65 [pd0,(D.bool pb1),(D.bool pb2),(D.bool pb3),(D.str ss0),(D.bool sb1)] =
 bif (qcmpS BinOp.eql ss0 (ByteArray.mk #[99,97,108,108]))then
 bif (qsome (q60 [pd0,(D.bool pb1),(D.bool pb2),(D.bool pb3),(D.int 1),(D.bool sb1)]))then
 bif (qbool (qnth (q60 [pd0,(D.bool pb1),(D.bool pb2),(D.bool pb3),(D.int 1),(D.bool sb1)]) 0))then
 bif (qsome (q61 [pd0,(D.bool pb1),(D.bool pb2),(D.bool pb3),(D.int 0),(D.bool (qbool (qnth (q60 [pd0,(D.bool pb1),(D.bool pb2),(D.bool pb3),(D.int 1),(D.bool sb1)]) 1)))]))then
 some [(D.agg [(D.int 0),(D.int (qint (qnth (q61 [pd0,(D.bool pb1),(D.bool pb2),(D.bool pb3),(D.int 0),(D.bool (qbool (qnth (q60 [pd0,(D.bool pb1),(D.bool pb2),(D.bool pb3),(D.int 1),(D.bool sb1)]) 1)))]) 0))),(D.int 23),(D.int 0),(D.int 0),(D.int 0),(D.int 0),(D.int 0),(D.int 0)]),(D.bool (qbool (qnth (q61 [pd0,(D.bool pb1),(D.bool pb2),(D.bool pb3),(D.int 0),(D.bool (qbool (qnth (q60 [pd0,(D.bool pb1),(D.bool pb2),(D.bool pb3),(D.int 1),(D.bool sb1)]) 1)))]) 2)))]
 else
 none
 else
 some [(D.agg [(D.int 0),(D.int 0),(D.int 23),(D.int 0),(D.int 0),(D.int 0),(D.int 0),(D.int 0),(D.int 0)]),(D.bool (qbool (qnth (q60 [pd0,(D.bool pb1),(D.bool pb2),(D.bool pb3),(D.int 1),(D.bool sb1)]) 1)))]
 else
 none
 else
 bif (qcmpS BinOp.eql ss0 (ByteArray.mk #[106,117,109,112,116]))then
 bif (qsome (q60 [pd0,(D.bool pb1),(D.bool pb2),(D.bool pb3),(D.int 2),(D.bool sb1)]))then
 bif (qbool (qnth (q60 [pd0,(D.bool pb1),(D.bool pb2),(D.bool pb3),(D.int 2),(D.bool sb1)]) 0))then
 bif (qsome (q62 [pd0,(D.bool pb1),(D.bool pb2),(D.bool pb3),(D.int 0),(D.bool (qbool (qnth (q60 [pd0,(D.bool pb1),(D.bool pb2),(D.bool pb3),(D.int 2),(D.bool sb1)]) 1)))]))then
 bif (qsome (q61 [pd0,(D.bool pb1),(D.bool pb2),(D.bool pb3),(D.int 1),(D.bool (qbool (qnth (q62 [pd0,(D.bool pb1),(D.bool pb2),(D.bool pb3),(D.int 0),(D.bool (qbool (qnth (q60 [pd0,(D.bool pb1),(D.bool pb2),(D.bool pb3),(D.int 2),(D.bool sb1)]) 1)))]) 1)))]))then
 some [(D.agg [(D.int 0),(D.int (qint (qnth (q61 [pd0,(D.bool pb1),(D.bool pb2),(D.bool pb3),(D.int 1),(D.bool (qbool (qnth (q62 [pd0,(D.bool pb1),(D.bool pb2),(D.bool pb3),(D.int 0),(D.bool (qbool (qnth (q60 [pd0,(D.bool pb1),(D.bool pb2),(D.bool pb3),(D.int 2),(D.bool sb1)]) 1)))]) 1)))]) 0))),(D.int 22),(D.int 0),(D.int 0),(D.int 0),(D.int (qint (qnth (q62 [pd0,(D.bool pb1),(D.bool pb2),(D.bool pb3),(D.int 0),(D.bool (qbool (qnth (q60 [pd0,(D.bool pb1),(D.bool pb2),(D.bool pb3),(D.int 2),(D.bool sb1)]) 1)))]) 0))),(D.int 0),(D.int 0)]),(D.bool (qbool (qnth (q61 [pd0,(D.bool pb1),(D.bool pb2),(D.bool pb3),(D.int 1),(D.bool (qbool (qnth (q62 [pd0,(D.bool pb1),(D.bool pb2),(D.bool pb3),(D.int 0),(D.bool (qbool (qnth (q60 [pd0,(D.bool pb1),(D.bool pb2),(D.bool pb3),(D.int 2),(D.bool sb1)]) 1)))]) 1)))]) 2)))]
 else
 none
 else
 none
 else
 some [(D.agg [(D.int 0),(D.int 0),(D.int 22),(D.int 0),(D.int 0),(D.int 0),(D.int 0),(D.int 0),(D.int 0)]),(D.bool (qbool (qnth (q60 [pd0,(D.bool pb1),(D.bool pb2),(D.bool pb3),(D.int 2),(D.bool sb1)]) 1)))]
 else
 none
 else
 some [(D.agg [(D.int 0),(D.int 0),(D.int 0),(D.int 0),(D.int 0),(D.int 0),(D.int 0),(D.int 0),(D.int 0)]),(D.bool Bool.true)]:=by
 have h:F65 [pd0,(D.bool pb1),(D.bool pb2),(D.bool pb3),(D.str ss0),(D.bool sb1)] =
  bif (qcmpS BinOp.eql ss0 (ByteArray.mk #[99,97,108,108]))then
  bif (qsome (q60 [pd0,(D.bool pb1),(D.bool pb2),(D.bool pb3),(D.int 1),(D.bool sb1)]))then
  bif (qbool (qnth (q60 [pd0,(D.bool pb1),(D.bool pb2),(D.bool pb3),(D.int 1),(D.bool sb1)]) 0))then
  bif (qsome (q61 [pd0,(D.bool pb1),(D.bool pb2),(D.bool pb3),(D.int 0),(D.bool (qbool (qnth (q60 [pd0,(D.bool pb1),(D.bool pb2),(D.bool pb3),(D.int 1),(D.bool sb1)]) 1)))]))then
  bif (qeqD pd0 pd0)then
  bif (qeqD (D.bool pb1) (D.bool pb1))then
  bif (qeqD (D.bool pb2) (D.bool pb2))then
  bif (qeqD (D.bool pb3) (D.bool pb3))then
  some [(D.agg [(D.int 0),(D.int (qint (qnth (q61 [pd0,(D.bool pb1),(D.bool pb2),(D.bool pb3),(D.int 0),(D.bool (qbool (qnth (q60 [pd0,(D.bool pb1),(D.bool pb2),(D.bool pb3),(D.int 1),(D.bool sb1)]) 1)))]) 0))),(D.int 23),(D.int 0),(D.int 0),(D.int 0),(D.int 0),(D.int 0),(D.int 0)]),(D.bool (qbool (qnth (q61 [pd0,(D.bool pb1),(D.bool pb2),(D.bool pb3),(D.int 0),(D.bool (qbool (qnth (q60 [pd0,(D.bool pb1),(D.bool pb2),(D.bool pb3),(D.int 1),(D.bool sb1)]) 1)))]) 2)))]
  else
  none
  else
  none
  else
  none
  else
  none
  else
  none
  else
  bif (qeqD pd0 pd0)then
  bif (qeqD (D.bool pb1) (D.bool pb1))then
  bif (qeqD (D.bool pb2) (D.bool pb2))then
  bif (qeqD (D.bool pb3) (D.bool pb3))then
  some [(D.agg [(D.int 0),(D.int 0),(D.int 23),(D.int 0),(D.int 0),(D.int 0),(D.int 0),(D.int 0),(D.int 0)]),(D.bool (qbool (qnth (q60 [pd0,(D.bool pb1),(D.bool pb2),(D.bool pb3),(D.int 1),(D.bool sb1)]) 1)))]
  else
  none
  else
  none
  else
  none
  else
  none
  else
  none
  else
  bif (qcmpS BinOp.eql ss0 (ByteArray.mk #[106,117,109,112,116]))then
  bif (qsome (q60 [pd0,(D.bool pb1),(D.bool pb2),(D.bool pb3),(D.int 2),(D.bool sb1)]))then
  bif (qbool (qnth (q60 [pd0,(D.bool pb1),(D.bool pb2),(D.bool pb3),(D.int 2),(D.bool sb1)]) 0))then
  bif (qsome (q62 [pd0,(D.bool pb1),(D.bool pb2),(D.bool pb3),(D.int 0),(D.bool (qbool (qnth (q60 [pd0,(D.bool pb1),(D.bool pb2),(D.bool pb3),(D.int 2),(D.bool sb1)]) 1)))]))then
  bif (qsome (q61 [pd0,(D.bool pb1),(D.bool pb2),(D.bool pb3),(D.int 1),(D.bool (qbool (qnth (q62 [pd0,(D.bool pb1),(D.bool pb2),(D.bool pb3),(D.int 0),(D.bool (qbool (qnth (q60 [pd0,(D.bool pb1),(D.bool pb2),(D.bool pb3),(D.int 2),(D.bool sb1)]) 1)))]) 1)))]))then
  bif (qeqD pd0 pd0)then
  bif (qeqD (D.bool pb1) (D.bool pb1))then
  bif (qeqD (D.bool pb2) (D.bool pb2))then
  bif (qeqD (D.bool pb3) (D.bool pb3))then
  some [(D.agg [(D.int 0),(D.int (qint (qnth (q61 [pd0,(D.bool pb1),(D.bool pb2),(D.bool pb3),(D.int 1),(D.bool (qbool (qnth (q62 [pd0,(D.bool pb1),(D.bool pb2),(D.bool pb3),(D.int 0),(D.bool (qbool (qnth (q60 [pd0,(D.bool pb1),(D.bool pb2),(D.bool pb3),(D.int 2),(D.bool sb1)]) 1)))]) 1)))]) 0))),(D.int 22),(D.int 0),(D.int 0),(D.int 0),(D.int (qint (qnth (q62 [pd0,(D.bool pb1),(D.bool pb2),(D.bool pb3),(D.int 0),(D.bool (qbool (qnth (q60 [pd0,(D.bool pb1),(D.bool pb2),(D.bool pb3),(D.int 2),(D.bool sb1)]) 1)))]) 0))),(D.int 0),(D.int 0)]),(D.bool (qbool (qnth (q61 [pd0,(D.bool pb1),(D.bool pb2),(D.bool pb3),(D.int 1),(D.bool (qbool (qnth (q62 [pd0,(D.bool pb1),(D.bool pb2),(D.bool pb3),(D.int 0),(D.bool (qbool (qnth (q60 [pd0,(D.bool pb1),(D.bool pb2),(D.bool pb3),(D.int 2),(D.bool sb1)]) 1)))]) 1)))]) 2)))]
  else
  none
  else
  none
  else
  none
  else
  none
  else
  none
  else
  none
  else
  bif (qeqD pd0 pd0)then
  bif (qeqD (D.bool pb1) (D.bool pb1))then
  bif (qeqD (D.bool pb2) (D.bool pb2))then
  bif (qeqD (D.bool pb3) (D.bool pb3))then
  some [(D.agg [(D.int 0),(D.int 0),(D.int 22),(D.int 0),(D.int 0),(D.int 0),(D.int 0),(D.int 0),(D.int 0)]),(D.bool (qbool (qnth (q60 [pd0,(D.bool pb1),(D.bool pb2),(D.bool pb3),(D.int 2),(D.bool sb1)]) 1)))]
  else
  none
  else
  none
  else
  none
  else
  none
  else
  none
  else
  bif (qeqD pd0 pd0)then
  bif (qeqD (D.bool pb1) (D.bool pb1))then
  bif (qeqD (D.bool pb2) (D.bool pb2))then
  bif (qeqD (D.bool pb3) (D.bool pb3))then
  some [(D.agg [(D.int 0),(D.int 0),(D.int 0),(D.int 0),(D.int 0),(D.int 0),(D.int 0),(D.int 0),(D.int 0)]),(D.bool Bool.true)]
  else
  none
  else
  none
  else
  none
  else
  none:=by kernel_rfl
 rw[h];simp only[qeqD_self,qeqI_self,qeq_len,show qcmp BinOp.eql 0 (qlen (D.list []))=true from qeq_len [],show∀a,qcmp BinOp.eql 1 (qlen (D.list [a]))=true from fun a=>qeq_len [a],show∀a b,qcmp BinOp.eql 2 (qlen (D.list [a,b]))=true from fun a b=>qeq_len [a,b],show∀a b c,qcmp BinOp.eql 3 (qlen (D.list [a,b,c]))=true from fun a b c=>qeq_len [a,b,c],show∀a b c d,qcmp BinOp.eql 4 (qlen (D.list [a,b,c,d]))=true from fun a b c d=>qeq_len [a,b,c,d],cond_true]
noncomputable def q65:List D→Option (List D):=veil (F65)
theorem q65_eq:q65=F65:=veil_eq _
noncomputable def tb65:Tb:=Tb.addF tb64 65 S65 (q65)
theorem ok_tb65:TbOk env (tb65):=addFunF ok_tb64 65 (by kernel_rfl) _ (q65_eq)
def S48:FunS:=⟨[⟨true,(.ptr 0 0)⟩,⟨true, .str⟩],[(.cells [⟨false,(.rows 9)⟩,⟨false,(.func 25 [] [])⟩,⟨true, .bool⟩,⟨true, .bool⟩,⟨false, .bool⟩,⟨false, .bool⟩])],[⟨true,(.dat 24)⟩],[(.cells [⟨false,(.rows 9)⟩,⟨true,(.func 25 [] [])⟩,⟨true, .bool⟩,⟨true, .bool⟩,⟨false, .bool⟩,⟨false, .bool⟩])]⟩
noncomputable def F48:List D→Option (List D):=liftX env tb65 60 12 48 S48
noncomputable def F48_a0 (pd0:D) (pb1:Bool) (pb2:Bool) (ss0:ByteArray) (sb1:Bool) (sb2:Bool):D:=(D.agg [(D.int 0),(D.int 0),(D.int 27),(D.int 0),(D.int 0),(D.int 0),(D.int 0),(D.int 0),(D.int 0)])
noncomputable def F48_a1 (pd0:D) (pb1:Bool) (pb2:Bool) (ss0:ByteArray) (sb1:Bool) (sb2:Bool):D:=(D.agg [(D.int 0),(D.int 0),(D.int 26),(D.int 0),(D.int 0),(D.int 0),(D.int 0),(D.int 0),(D.int 0)])
noncomputable def F48_a2 (pd0:D) (pb1:Bool) (pb2:Bool) (ss0:ByteArray) (sb1:Bool) (sb2:Bool):D:=(D.agg [(D.int 0),(D.int 0),(D.int 24),(D.int 0),(D.int 0),(D.int 0),(D.int 0),(D.int 0),(D.int 0)])
noncomputable def F48_a3 (pd0:D) (pb1:Bool) (pb2:Bool) (ss0:ByteArray) (sb1:Bool) (sb2:Bool):D:=(D.agg [(D.int 0),(D.int 0),(D.int 21),(D.int 0),(D.int 0),(D.int 0),(D.int 0),(D.int 0),(D.int 0)])
noncomputable def F48_a4 (pd0:D) (pb1:Bool) (pb2:Bool) (ss0:ByteArray) (sb1:Bool) (sb2:Bool):D:=(D.agg [(D.int 0),(D.int 0),(D.int 19),(D.int 0),(D.int 0),(D.int 0),(D.int 0),(D.int 0),(D.int 0)])
noncomputable def F48_a5 (pd0:D) (pb1:Bool) (pb2:Bool) (ss0:ByteArray) (sb1:Bool) (sb2:Bool):D:=(D.agg [(D.int 0),(D.int 0),(D.int 18),(D.int 0),(D.int (qwrap IntKind.i64 (qbin BinOp.sub IntKind.u8 (qidxS ss0 5) 48))),(D.int 0),(D.int 0),(D.int 0),(D.int 0)])
noncomputable def F48_a6 (pd0:D) (pb1:Bool) (pb2:Bool) (ss0:ByteArray) (sb1:Bool) (sb2:Bool):D:=(D.agg [(D.int 0),(D.int 0),(D.int 17),(D.int 0),(D.int (qwrap IntKind.i64 (qbin BinOp.sub IntKind.u8 (qidxS ss0 4) 48))),(D.int 0),(D.int 0),(D.int 0),(D.int 0)])
noncomputable def F48_a7 (pd0:D) (pb1:Bool) (pb2:Bool) (ss0:ByteArray) (sb1:Bool) (sb2:Bool):D:=(D.agg [(D.int 0),(D.int 0),(D.int 16),(D.int 0),(D.int (qwrap IntKind.i64 (qbin BinOp.sub IntKind.u8 (qidxS ss0 4) 48))),(D.int 0),(D.int 0),(D.int 0),(D.int 0)])
noncomputable def F48_a8 (pd0:D) (pb1:Bool) (pb2:Bool) (ss0:ByteArray) (sb1:Bool) (sb2:Bool):D:=(D.agg [(D.int 0),(D.int 0),(D.int 4),(D.int 0),(D.int 0),(D.int 0),(D.int 0),(D.int 0),(D.int 0)])
noncomputable def F48_a9 (pd0:D) (pb1:Bool) (pb2:Bool) (ss0:ByteArray) (sb1:Bool) (sb2:Bool):D:=(D.agg [(D.int 0),(D.int 0),(D.int 3),(D.int 0),(D.int 0),(D.int 0),(D.int 0),(D.int 0),(D.int 0)])
noncomputable def F48_a10 (pd0:D) (pb1:Bool) (pb2:Bool) (ss0:ByteArray) (sb1:Bool) (sb2:Bool):D:=(D.agg [(D.int 0),(D.int 0),(D.int (qidxT (ByteArray.mk #[110,104,114]) (qsubS ss0 0 1))),(D.int 0),(D.int 0),(D.int 0),(D.int 0),(D.int 0),(D.int 0)])
theorem F48_eq (pd0:D) (pb1:Bool) (pb2:Bool) (ss0:ByteArray) (sb1:Bool) (sb2:Bool):F48 [pd0,(D.bool pb1),(D.bool pb2),(D.str ss0),(D.bool sb1),(D.bool sb2)] =
 bif (qiteB (qcmpS BinOp.eql ss0 (ByteArray.mk #[110,111,112])) (qcmpS BinOp.eql ss0 (ByteArray.mk #[110,111,112])) (qiteB (qcmpS BinOp.eql ss0 (ByteArray.mk #[104,97,108,116])) (qcmpS BinOp.eql ss0 (ByteArray.mk #[104,97,108,116])) (qcmpS BinOp.eql ss0 (ByteArray.mk #[114,101,116]))))then
 bif (qsome (q60 [pd0,(D.bool sb2),(D.bool pb1),(D.bool pb2),(D.int 0),(D.bool sb1)]))then
 bif (qcmp BinOp.leq 0 0)then
 bif (qcmp BinOp.leq 0 1)then
 bif (qcmp BinOp.leq 1 (qlenS ss0))then
 some [(F48_a10 pd0 pb1 pb2 ss0 sb1 sb2),(D.bool (qbool (qnth (q60 [pd0,(D.bool sb2),(D.bool pb1),(D.bool pb2),(D.int 0),(D.bool sb1)]) 1))),(D.bool sb2)]
 else
 none
 else
 none
 else
 none
 else
 none
 else
 bif (qcmpS BinOp.eql ss0 (ByteArray.mk #[112,117,115,104]))then
 bif (qsome (q46 [pd0,(D.bool sb2),(D.bool pb1),(D.bool pb2),(F48_a9 pd0 pb1 pb2 ss0 sb1 sb2),(D.bool sb1)]))then
 some [(qnth (q46 [pd0,(D.bool sb2),(D.bool pb1),(D.bool pb2),(F48_a9 pd0 pb1 pb2 ss0 sb1 sb2),(D.bool sb1)]) 0),(D.bool (qbool (qnth (q46 [pd0,(D.bool sb2),(D.bool pb1),(D.bool pb2),(F48_a9 pd0 pb1 pb2 ss0 sb1 sb2),(D.bool sb1)]) 1))),(D.bool sb2)]
 else
 none
 else
 bif (qcmpS BinOp.eql ss0 (ByteArray.mk #[112,111,112]))then
 bif (qsome (q46 [pd0,(D.bool sb2),(D.bool pb1),(D.bool pb2),(F48_a8 pd0 pb1 pb2 ss0 sb1 sb2),(D.bool sb1)]))then
 some [(qnth (q46 [pd0,(D.bool sb2),(D.bool pb1),(D.bool pb2),(F48_a8 pd0 pb1 pb2 ss0 sb1 sb2),(D.bool sb1)]) 0),(D.bool (qbool (qnth (q46 [pd0,(D.bool sb2),(D.bool pb1),(D.bool pb2),(F48_a8 pd0 pb1 pb2 ss0 sb1 sb2),(D.bool sb1)]) 1))),(D.bool sb2)]
 else
 none
 else
 bif (qiteB (qcmpS BinOp.eql ss0 (ByteArray.mk #[108,111,97,100,49])) (qcmpS BinOp.eql ss0 (ByteArray.mk #[108,111,97,100,49])) (qiteB (qcmpS BinOp.eql ss0 (ByteArray.mk #[108,111,97,100,50])) (qcmpS BinOp.eql ss0 (ByteArray.mk #[108,111,97,100,50])) (qcmpS BinOp.eql ss0 (ByteArray.mk #[108,111,97,100,52]))))then
 bif (qinbS ss0 4)then
 bif (qsome (q64 [pd0,(D.bool pb1),(D.bool pb2),(F48_a7 pd0 pb1 pb2 ss0 sb1 sb2),(D.bool Bool.false),(D.bool sb1),(D.bool sb2)]))then
 some [(qnth (q64 [pd0,(D.bool pb1),(D.bool pb2),(F48_a7 pd0 pb1 pb2 ss0 sb1 sb2),(D.bool Bool.false),(D.bool sb1),(D.bool sb2)]) 0),(D.bool (qbool (qnth (q64 [pd0,(D.bool pb1),(D.bool pb2),(F48_a7 pd0 pb1 pb2 ss0 sb1 sb2),(D.bool Bool.false),(D.bool sb1),(D.bool sb2)]) 1))),(D.bool (qbool (qnth (q64 [pd0,(D.bool pb1),(D.bool pb2),(F48_a7 pd0 pb1 pb2 ss0 sb1 sb2),(D.bool Bool.false),(D.bool sb1),(D.bool sb2)]) 2)))]
 else
 none
 else
 none
 else
 bif (qiteB (qcmpS BinOp.eql ss0 (ByteArray.mk #[108,111,97,100,49,115])) (qcmpS BinOp.eql ss0 (ByteArray.mk #[108,111,97,100,49,115])) (qcmpS BinOp.eql ss0 (ByteArray.mk #[108,111,97,100,50,115])))then
 bif (qinbS ss0 4)then
 bif (qsome (q64 [pd0,(D.bool pb1),(D.bool pb2),(F48_a6 pd0 pb1 pb2 ss0 sb1 sb2),(D.bool Bool.false),(D.bool sb1),(D.bool sb2)]))then
 some [(qnth (q64 [pd0,(D.bool pb1),(D.bool pb2),(F48_a6 pd0 pb1 pb2 ss0 sb1 sb2),(D.bool Bool.false),(D.bool sb1),(D.bool sb2)]) 0),(D.bool (qbool (qnth (q64 [pd0,(D.bool pb1),(D.bool pb2),(F48_a6 pd0 pb1 pb2 ss0 sb1 sb2),(D.bool Bool.false),(D.bool sb1),(D.bool sb2)]) 1))),(D.bool (qbool (qnth (q64 [pd0,(D.bool pb1),(D.bool pb2),(F48_a6 pd0 pb1 pb2 ss0 sb1 sb2),(D.bool Bool.false),(D.bool sb1),(D.bool sb2)]) 2)))]
 else
 none
 else
 none
 else
 bif (qiteB (qcmpS BinOp.eql ss0 (ByteArray.mk #[115,116,111,114,101,49])) (qcmpS BinOp.eql ss0 (ByteArray.mk #[115,116,111,114,101,49])) (qiteB (qcmpS BinOp.eql ss0 (ByteArray.mk #[115,116,111,114,101,50])) (qcmpS BinOp.eql ss0 (ByteArray.mk #[115,116,111,114,101,50])) (qcmpS BinOp.eql ss0 (ByteArray.mk #[115,116,111,114,101,52]))))then
 bif (qinbS ss0 5)then
 bif (qsome (q64 [pd0,(D.bool pb1),(D.bool pb2),(F48_a5 pd0 pb1 pb2 ss0 sb1 sb2),(D.bool Bool.true),(D.bool sb1),(D.bool sb2)]))then
 some [(qnth (q64 [pd0,(D.bool pb1),(D.bool pb2),(F48_a5 pd0 pb1 pb2 ss0 sb1 sb2),(D.bool Bool.true),(D.bool sb1),(D.bool sb2)]) 0),(D.bool (qbool (qnth (q64 [pd0,(D.bool pb1),(D.bool pb2),(F48_a5 pd0 pb1 pb2 ss0 sb1 sb2),(D.bool Bool.true),(D.bool sb1),(D.bool sb2)]) 1))),(D.bool (qbool (qnth (q64 [pd0,(D.bool pb1),(D.bool pb2),(F48_a5 pd0 pb1 pb2 ss0 sb1 sb2),(D.bool Bool.true),(D.bool sb1),(D.bool sb2)]) 2)))]
 else
 none
 else
 none
 else
 bif (qcmpS BinOp.eql ss0 (ByteArray.mk #[108,101,97]))then
 bif (qsome (q64 [pd0,(D.bool pb1),(D.bool pb2),(F48_a4 pd0 pb1 pb2 ss0 sb1 sb2),(D.bool Bool.false),(D.bool sb1),(D.bool sb2)]))then
 some [(qnth (q64 [pd0,(D.bool pb1),(D.bool pb2),(F48_a4 pd0 pb1 pb2 ss0 sb1 sb2),(D.bool Bool.false),(D.bool sb1),(D.bool sb2)]) 0),(D.bool (qbool (qnth (q64 [pd0,(D.bool pb1),(D.bool pb2),(F48_a4 pd0 pb1 pb2 ss0 sb1 sb2),(D.bool Bool.false),(D.bool sb1),(D.bool sb2)]) 1))),(D.bool (qbool (qnth (q64 [pd0,(D.bool pb1),(D.bool pb2),(F48_a4 pd0 pb1 pb2 ss0 sb1 sb2),(D.bool Bool.false),(D.bool sb1),(D.bool sb2)]) 2)))]
 else
 none
 else
 bif (qcmpS BinOp.eql ss0 (ByteArray.mk #[106,117,109,112,114]))then
 bif (qsome (q46 [pd0,(D.bool sb2),(D.bool pb1),(D.bool pb2),(F48_a3 pd0 pb1 pb2 ss0 sb1 sb2),(D.bool sb1)]))then
 some [(qnth (q46 [pd0,(D.bool sb2),(D.bool pb1),(D.bool pb2),(F48_a3 pd0 pb1 pb2 ss0 sb1 sb2),(D.bool sb1)]) 0),(D.bool (qbool (qnth (q46 [pd0,(D.bool sb2),(D.bool pb1),(D.bool pb2),(F48_a3 pd0 pb1 pb2 ss0 sb1 sb2),(D.bool sb1)]) 1))),(D.bool sb2)]
 else
 none
 else
 bif (qcmpS BinOp.eql ss0 (ByteArray.mk #[99,97,108,108,114]))then
 bif (qsome (q46 [pd0,(D.bool sb2),(D.bool pb1),(D.bool pb2),(F48_a2 pd0 pb1 pb2 ss0 sb1 sb2),(D.bool sb1)]))then
 some [(qnth (q46 [pd0,(D.bool sb2),(D.bool pb1),(D.bool pb2),(F48_a2 pd0 pb1 pb2 ss0 sb1 sb2),(D.bool sb1)]) 0),(D.bool (qbool (qnth (q46 [pd0,(D.bool sb2),(D.bool pb1),(D.bool pb2),(F48_a2 pd0 pb1 pb2 ss0 sb1 sb2),(D.bool sb1)]) 1))),(D.bool sb2)]
 else
 none
 else
 bif (qcmpS BinOp.eql ss0 (ByteArray.mk #[105,110]))then
 bif (qsome (q46 [pd0,(D.bool sb2),(D.bool pb1),(D.bool pb2),(F48_a1 pd0 pb1 pb2 ss0 sb1 sb2),(D.bool sb1)]))then
 some [(qnth (q46 [pd0,(D.bool sb2),(D.bool pb1),(D.bool pb2),(F48_a1 pd0 pb1 pb2 ss0 sb1 sb2),(D.bool sb1)]) 0),(D.bool (qbool (qnth (q46 [pd0,(D.bool sb2),(D.bool pb1),(D.bool pb2),(F48_a1 pd0 pb1 pb2 ss0 sb1 sb2),(D.bool sb1)]) 1))),(D.bool sb2)]
 else
 none
 else
 bif (qcmpS BinOp.eql ss0 (ByteArray.mk #[111,117,116]))then
 bif (qsome (q46 [pd0,(D.bool sb2),(D.bool pb1),(D.bool pb2),(F48_a0 pd0 pb1 pb2 ss0 sb1 sb2),(D.bool sb1)]))then
 some [(qnth (q46 [pd0,(D.bool sb2),(D.bool pb1),(D.bool pb2),(F48_a0 pd0 pb1 pb2 ss0 sb1 sb2),(D.bool sb1)]) 0),(D.bool (qbool (qnth (q46 [pd0,(D.bool sb2),(D.bool pb1),(D.bool pb2),(F48_a0 pd0 pb1 pb2 ss0 sb1 sb2),(D.bool sb1)]) 1))),(D.bool sb2)]
 else
 none
 else
 bif (qsome (q65 [pd0,(D.bool sb2),(D.bool pb1),(D.bool pb2),(D.str ss0),(D.bool sb1)]))then
 some [(qnth (q65 [pd0,(D.bool sb2),(D.bool pb1),(D.bool pb2),(D.str ss0),(D.bool sb1)]) 0),(D.bool (qbool (qnth (q65 [pd0,(D.bool sb2),(D.bool pb1),(D.bool pb2),(D.str ss0),(D.bool sb1)]) 1))),(D.bool sb2)]
 else
 none:=by
 have h:F48 [pd0,(D.bool pb1),(D.bool pb2),(D.str ss0),(D.bool sb1),(D.bool sb2)] =
  bif (qiteB (qcmpS BinOp.eql ss0 (ByteArray.mk #[110,111,112])) (qcmpS BinOp.eql ss0 (ByteArray.mk #[110,111,112])) (qiteB (qcmpS BinOp.eql ss0 (ByteArray.mk #[104,97,108,116])) (qcmpS BinOp.eql ss0 (ByteArray.mk #[104,97,108,116])) (qcmpS BinOp.eql ss0 (ByteArray.mk #[114,101,116]))))then
  bif (qsome (q60 [pd0,(D.bool sb2),(D.bool pb1),(D.bool pb2),(D.int 0),(D.bool sb1)]))then
  bif (qcmp BinOp.leq 0 0)then
  bif (qcmp BinOp.leq 0 1)then
  bif (qcmp BinOp.leq 1 (qlenS ss0))then
  bif (qeqD pd0 pd0)then
  bif (qeqD (D.bool pb1) (D.bool pb1))then
  bif (qeqD (D.bool pb2) (D.bool pb2))then
  some [(F48_a10 pd0 pb1 pb2 ss0 sb1 sb2),(D.bool (qbool (qnth (q60 [pd0,(D.bool sb2),(D.bool pb1),(D.bool pb2),(D.int 0),(D.bool sb1)]) 1))),(D.bool sb2)]
  else
  none
  else
  none
  else
  none
  else
  none
  else
  none
  else
  none
  else
  none
  else
  bif (qcmpS BinOp.eql ss0 (ByteArray.mk #[112,117,115,104]))then
  bif (qsome (q46 [pd0,(D.bool sb2),(D.bool pb1),(D.bool pb2),(F48_a9 pd0 pb1 pb2 ss0 sb1 sb2),(D.bool sb1)]))then
  bif (qeqD pd0 pd0)then
  bif (qeqD (D.bool pb1) (D.bool pb1))then
  bif (qeqD (D.bool pb2) (D.bool pb2))then
  some [(qnth (q46 [pd0,(D.bool sb2),(D.bool pb1),(D.bool pb2),(F48_a9 pd0 pb1 pb2 ss0 sb1 sb2),(D.bool sb1)]) 0),(D.bool (qbool (qnth (q46 [pd0,(D.bool sb2),(D.bool pb1),(D.bool pb2),(F48_a9 pd0 pb1 pb2 ss0 sb1 sb2),(D.bool sb1)]) 1))),(D.bool sb2)]
  else
  none
  else
  none
  else
  none
  else
  none
  else
  bif (qcmpS BinOp.eql ss0 (ByteArray.mk #[112,111,112]))then
  bif (qsome (q46 [pd0,(D.bool sb2),(D.bool pb1),(D.bool pb2),(F48_a8 pd0 pb1 pb2 ss0 sb1 sb2),(D.bool sb1)]))then
  bif (qeqD pd0 pd0)then
  bif (qeqD (D.bool pb1) (D.bool pb1))then
  bif (qeqD (D.bool pb2) (D.bool pb2))then
  some [(qnth (q46 [pd0,(D.bool sb2),(D.bool pb1),(D.bool pb2),(F48_a8 pd0 pb1 pb2 ss0 sb1 sb2),(D.bool sb1)]) 0),(D.bool (qbool (qnth (q46 [pd0,(D.bool sb2),(D.bool pb1),(D.bool pb2),(F48_a8 pd0 pb1 pb2 ss0 sb1 sb2),(D.bool sb1)]) 1))),(D.bool sb2)]
  else
  none
  else
  none
  else
  none
  else
  none
  else
  bif (qiteB (qcmpS BinOp.eql ss0 (ByteArray.mk #[108,111,97,100,49])) (qcmpS BinOp.eql ss0 (ByteArray.mk #[108,111,97,100,49])) (qiteB (qcmpS BinOp.eql ss0 (ByteArray.mk #[108,111,97,100,50])) (qcmpS BinOp.eql ss0 (ByteArray.mk #[108,111,97,100,50])) (qcmpS BinOp.eql ss0 (ByteArray.mk #[108,111,97,100,52]))))then
  bif (qinbS ss0 4)then
  bif (qsome (q64 [pd0,(D.bool pb1),(D.bool pb2),(F48_a7 pd0 pb1 pb2 ss0 sb1 sb2),(D.bool Bool.false),(D.bool sb1),(D.bool sb2)]))then
  bif (qeqD pd0 pd0)then
  bif (qeqD (D.bool pb1) (D.bool pb1))then
  bif (qeqD (D.bool pb2) (D.bool pb2))then
  some [(qnth (q64 [pd0,(D.bool pb1),(D.bool pb2),(F48_a7 pd0 pb1 pb2 ss0 sb1 sb2),(D.bool Bool.false),(D.bool sb1),(D.bool sb2)]) 0),(D.bool (qbool (qnth (q64 [pd0,(D.bool pb1),(D.bool pb2),(F48_a7 pd0 pb1 pb2 ss0 sb1 sb2),(D.bool Bool.false),(D.bool sb1),(D.bool sb2)]) 1))),(D.bool (qbool (qnth (q64 [pd0,(D.bool pb1),(D.bool pb2),(F48_a7 pd0 pb1 pb2 ss0 sb1 sb2),(D.bool Bool.false),(D.bool sb1),(D.bool sb2)]) 2)))]
  else
  none
  else
  none
  else
  none
  else
  none
  else
  none
  else
  bif (qiteB (qcmpS BinOp.eql ss0 (ByteArray.mk #[108,111,97,100,49,115])) (qcmpS BinOp.eql ss0 (ByteArray.mk #[108,111,97,100,49,115])) (qcmpS BinOp.eql ss0 (ByteArray.mk #[108,111,97,100,50,115])))then
  bif (qinbS ss0 4)then
  bif (qsome (q64 [pd0,(D.bool pb1),(D.bool pb2),(F48_a6 pd0 pb1 pb2 ss0 sb1 sb2),(D.bool Bool.false),(D.bool sb1),(D.bool sb2)]))then
  bif (qeqD pd0 pd0)then
  bif (qeqD (D.bool pb1) (D.bool pb1))then
  bif (qeqD (D.bool pb2) (D.bool pb2))then
  some [(qnth (q64 [pd0,(D.bool pb1),(D.bool pb2),(F48_a6 pd0 pb1 pb2 ss0 sb1 sb2),(D.bool Bool.false),(D.bool sb1),(D.bool sb2)]) 0),(D.bool (qbool (qnth (q64 [pd0,(D.bool pb1),(D.bool pb2),(F48_a6 pd0 pb1 pb2 ss0 sb1 sb2),(D.bool Bool.false),(D.bool sb1),(D.bool sb2)]) 1))),(D.bool (qbool (qnth (q64 [pd0,(D.bool pb1),(D.bool pb2),(F48_a6 pd0 pb1 pb2 ss0 sb1 sb2),(D.bool Bool.false),(D.bool sb1),(D.bool sb2)]) 2)))]
  else
  none
  else
  none
  else
  none
  else
  none
  else
  none
  else
  bif (qiteB (qcmpS BinOp.eql ss0 (ByteArray.mk #[115,116,111,114,101,49])) (qcmpS BinOp.eql ss0 (ByteArray.mk #[115,116,111,114,101,49])) (qiteB (qcmpS BinOp.eql ss0 (ByteArray.mk #[115,116,111,114,101,50])) (qcmpS BinOp.eql ss0 (ByteArray.mk #[115,116,111,114,101,50])) (qcmpS BinOp.eql ss0 (ByteArray.mk #[115,116,111,114,101,52]))))then
  bif (qinbS ss0 5)then
  bif (qsome (q64 [pd0,(D.bool pb1),(D.bool pb2),(F48_a5 pd0 pb1 pb2 ss0 sb1 sb2),(D.bool Bool.true),(D.bool sb1),(D.bool sb2)]))then
  bif (qeqD pd0 pd0)then
  bif (qeqD (D.bool pb1) (D.bool pb1))then
  bif (qeqD (D.bool pb2) (D.bool pb2))then
  some [(qnth (q64 [pd0,(D.bool pb1),(D.bool pb2),(F48_a5 pd0 pb1 pb2 ss0 sb1 sb2),(D.bool Bool.true),(D.bool sb1),(D.bool sb2)]) 0),(D.bool (qbool (qnth (q64 [pd0,(D.bool pb1),(D.bool pb2),(F48_a5 pd0 pb1 pb2 ss0 sb1 sb2),(D.bool Bool.true),(D.bool sb1),(D.bool sb2)]) 1))),(D.bool (qbool (qnth (q64 [pd0,(D.bool pb1),(D.bool pb2),(F48_a5 pd0 pb1 pb2 ss0 sb1 sb2),(D.bool Bool.true),(D.bool sb1),(D.bool sb2)]) 2)))]
  else
  none
  else
  none
  else
  none
  else
  none
  else
  none
  else
  bif (qcmpS BinOp.eql ss0 (ByteArray.mk #[108,101,97]))then
  bif (qsome (q64 [pd0,(D.bool pb1),(D.bool pb2),(F48_a4 pd0 pb1 pb2 ss0 sb1 sb2),(D.bool Bool.false),(D.bool sb1),(D.bool sb2)]))then
  bif (qeqD pd0 pd0)then
  bif (qeqD (D.bool pb1) (D.bool pb1))then
  bif (qeqD (D.bool pb2) (D.bool pb2))then
  some [(qnth (q64 [pd0,(D.bool pb1),(D.bool pb2),(F48_a4 pd0 pb1 pb2 ss0 sb1 sb2),(D.bool Bool.false),(D.bool sb1),(D.bool sb2)]) 0),(D.bool (qbool (qnth (q64 [pd0,(D.bool pb1),(D.bool pb2),(F48_a4 pd0 pb1 pb2 ss0 sb1 sb2),(D.bool Bool.false),(D.bool sb1),(D.bool sb2)]) 1))),(D.bool (qbool (qnth (q64 [pd0,(D.bool pb1),(D.bool pb2),(F48_a4 pd0 pb1 pb2 ss0 sb1 sb2),(D.bool Bool.false),(D.bool sb1),(D.bool sb2)]) 2)))]
  else
  none
  else
  none
  else
  none
  else
  none
  else
  bif (qcmpS BinOp.eql ss0 (ByteArray.mk #[106,117,109,112,114]))then
  bif (qsome (q46 [pd0,(D.bool sb2),(D.bool pb1),(D.bool pb2),(F48_a3 pd0 pb1 pb2 ss0 sb1 sb2),(D.bool sb1)]))then
  bif (qeqD pd0 pd0)then
  bif (qeqD (D.bool pb1) (D.bool pb1))then
  bif (qeqD (D.bool pb2) (D.bool pb2))then
  some [(qnth (q46 [pd0,(D.bool sb2),(D.bool pb1),(D.bool pb2),(F48_a3 pd0 pb1 pb2 ss0 sb1 sb2),(D.bool sb1)]) 0),(D.bool (qbool (qnth (q46 [pd0,(D.bool sb2),(D.bool pb1),(D.bool pb2),(F48_a3 pd0 pb1 pb2 ss0 sb1 sb2),(D.bool sb1)]) 1))),(D.bool sb2)]
  else
  none
  else
  none
  else
  none
  else
  none
  else
  bif (qcmpS BinOp.eql ss0 (ByteArray.mk #[99,97,108,108,114]))then
  bif (qsome (q46 [pd0,(D.bool sb2),(D.bool pb1),(D.bool pb2),(F48_a2 pd0 pb1 pb2 ss0 sb1 sb2),(D.bool sb1)]))then
  bif (qeqD pd0 pd0)then
  bif (qeqD (D.bool pb1) (D.bool pb1))then
  bif (qeqD (D.bool pb2) (D.bool pb2))then
  some [(qnth (q46 [pd0,(D.bool sb2),(D.bool pb1),(D.bool pb2),(F48_a2 pd0 pb1 pb2 ss0 sb1 sb2),(D.bool sb1)]) 0),(D.bool (qbool (qnth (q46 [pd0,(D.bool sb2),(D.bool pb1),(D.bool pb2),(F48_a2 pd0 pb1 pb2 ss0 sb1 sb2),(D.bool sb1)]) 1))),(D.bool sb2)]
  else
  none
  else
  none
  else
  none
  else
  none
  else
  bif (qcmpS BinOp.eql ss0 (ByteArray.mk #[105,110]))then
  bif (qsome (q46 [pd0,(D.bool sb2),(D.bool pb1),(D.bool pb2),(F48_a1 pd0 pb1 pb2 ss0 sb1 sb2),(D.bool sb1)]))then
  bif (qeqD pd0 pd0)then
  bif (qeqD (D.bool pb1) (D.bool pb1))then
  bif (qeqD (D.bool pb2) (D.bool pb2))then
  some [(qnth (q46 [pd0,(D.bool sb2),(D.bool pb1),(D.bool pb2),(F48_a1 pd0 pb1 pb2 ss0 sb1 sb2),(D.bool sb1)]) 0),(D.bool (qbool (qnth (q46 [pd0,(D.bool sb2),(D.bool pb1),(D.bool pb2),(F48_a1 pd0 pb1 pb2 ss0 sb1 sb2),(D.bool sb1)]) 1))),(D.bool sb2)]
  else
  none
  else
  none
  else
  none
  else
  none
  else
  bif (qcmpS BinOp.eql ss0 (ByteArray.mk #[111,117,116]))then
  bif (qsome (q46 [pd0,(D.bool sb2),(D.bool pb1),(D.bool pb2),(F48_a0 pd0 pb1 pb2 ss0 sb1 sb2),(D.bool sb1)]))then
  bif (qeqD pd0 pd0)then
  bif (qeqD (D.bool pb1) (D.bool pb1))then
  bif (qeqD (D.bool pb2) (D.bool pb2))then
  some [(qnth (q46 [pd0,(D.bool sb2),(D.bool pb1),(D.bool pb2),(F48_a0 pd0 pb1 pb2 ss0 sb1 sb2),(D.bool sb1)]) 0),(D.bool (qbool (qnth (q46 [pd0,(D.bool sb2),(D.bool pb1),(D.bool pb2),(F48_a0 pd0 pb1 pb2 ss0 sb1 sb2),(D.bool sb1)]) 1))),(D.bool sb2)]
  else
  none
  else
  none
  else
  none
  else
  none
  else
  bif (qsome (q65 [pd0,(D.bool sb2),(D.bool pb1),(D.bool pb2),(D.str ss0),(D.bool sb1)]))then
  bif (qeqD pd0 pd0)then
  bif (qeqD (D.bool pb1) (D.bool pb1))then
  bif (qeqD (D.bool pb2) (D.bool pb2))then
  some [(qnth (q65 [pd0,(D.bool sb2),(D.bool pb1),(D.bool pb2),(D.str ss0),(D.bool sb1)]) 0),(D.bool (qbool (qnth (q65 [pd0,(D.bool sb2),(D.bool pb1),(D.bool pb2),(D.str ss0),(D.bool sb1)]) 1))),(D.bool sb2)]
  else
  none
  else
  none
  else
  none
  else
  none:=by kernel_rfl
 rw[h];simp only[qeqD_self,qeqI_self,qeq_len,show qcmp BinOp.eql 0 (qlen (D.list []))=true from qeq_len [],show∀a,qcmp BinOp.eql 1 (qlen (D.list [a]))=true from fun a=>qeq_len [a],show∀a b,qcmp BinOp.eql 2 (qlen (D.list [a,b]))=true from fun a b=>qeq_len [a,b],show∀a b c,qcmp BinOp.eql 3 (qlen (D.list [a,b,c]))=true from fun a b c=>qeq_len [a,b,c],show∀a b c d,qcmp BinOp.eql 4 (qlen (D.list [a,b,c,d]))=true from fun a b c d=>qeq_len [a,b,c,d],cond_true]
noncomputable def q48:List D→Option (List D):=veil (F48)
theorem q48_eq:q48=F48:=veil_eq _
noncomputable def tb48:Tb:=Tb.addF tb65 48 S48 (q48)
theorem ok_tb48:TbOk env (tb48):=addFunF ok_tb65 48 (by kernel_rfl) _ (q48_eq)
def S45:FunS:=⟨[⟨true,(.ptr 0 0)⟩,⟨true,(.int .i64)⟩,⟨true,(.int .u32)⟩],[(.cells [⟨false,(.rows 9)⟩,⟨false,(.func 25 [] [])⟩,⟨true, .bool⟩,⟨false, .bool⟩,⟨false, .bool⟩,⟨true, .bool⟩])],[⟨true,(.dat 24)⟩],[(.cells [⟨false,(.rows 9)⟩,⟨true,(.func 25 [] [])⟩,⟨true, .bool⟩,⟨false, .bool⟩,⟨false, .bool⟩,⟨true, .bool⟩])]⟩
noncomputable def F45:List D→Option (List D):=liftX env tb48 60 12 45 S45
theorem F45_eq (pd0:D) (pb1:Bool) (pb2:Bool) (sn0:Int) (sn1:Int) (sb2:Bool) (sb3:Bool):F45 [pd0,(D.bool pb1),(D.bool pb2),(D.int sn0),(D.int sn1),(D.bool sb2),(D.bool sb3)] =
 bif (qsome (q60 [pd0,(D.bool pb1),(D.bool pb2),(D.bool Bool.true),(D.int 1),(D.bool sb2)]))then
 bif (qnot (qbool (qnth (q60 [pd0,(D.bool pb1),(D.bool pb2),(D.bool Bool.true),(D.int 1),(D.bool sb2)]) 0)))then
 some [(D.agg [(D.int 0),(D.int 0),(D.int 20),(D.int 2),(D.int 0),(D.int sn0),(D.int 0),(D.int 0),(D.int 0)]),(D.bool (qbool (qnth (q60 [pd0,(D.bool pb1),(D.bool pb2),(D.bool Bool.true),(D.int 1),(D.bool sb2)]) 1))),(D.bool Bool.true)]
 else
 bif (qsome (q61 [pd0,(D.bool pb1),(D.bool pb2),(D.bool Bool.true),(D.int 0),(D.bool (qbool (qnth (q60 [pd0,(D.bool pb1),(D.bool pb2),(D.bool Bool.true),(D.int 1),(D.bool sb2)]) 1)))]))then
 bif (qiteB (qiteB (qnot (qbool (qnth (q61 [pd0,(D.bool pb1),(D.bool pb2),(D.bool Bool.true),(D.int 0),(D.bool (qbool (qnth (q60 [pd0,(D.bool pb1),(D.bool pb2),(D.bool Bool.true),(D.int 1),(D.bool sb2)]) 1)))]) 1))) (qcmp BinOp.eql (qwrap IntKind.u32 (qwrap IntKind.i8 (qbin BinOp.sub IntKind.u32 (qbin BinOp.sub IntKind.u32 (qint (qnth (q61 [pd0,(D.bool pb1),(D.bool pb2),(D.bool Bool.true),(D.int 0),(D.bool (qbool (qnth (q60 [pd0,(D.bool pb1),(D.bool pb2),(D.bool Bool.true),(D.int 1),(D.bool sb2)]) 1)))]) 0)) sn1) 2))) (qbin BinOp.sub IntKind.u32 (qbin BinOp.sub IntKind.u32 (qint (qnth (q61 [pd0,(D.bool pb1),(D.bool pb2),(D.bool Bool.true),(D.int 0),(D.bool (qbool (qnth (q60 [pd0,(D.bool pb1),(D.bool pb2),(D.bool Bool.true),(D.int 1),(D.bool sb2)]) 1)))]) 0)) sn1) 2)) Bool.false) (qnot pb2) Bool.false)then
 some [(D.agg [(D.int 0),(D.int (qint (qnth (q61 [pd0,(D.bool pb1),(D.bool pb2),(D.bool Bool.true),(D.int 0),(D.bool (qbool (qnth (q60 [pd0,(D.bool pb1),(D.bool pb2),(D.bool Bool.true),(D.int 1),(D.bool sb2)]) 1)))]) 0))),(D.int 20),(D.int 1),(D.int 0),(D.int sn0),(D.int 0),(D.int 0),(D.int 0)]),(D.bool (qbool (qnth (q61 [pd0,(D.bool pb1),(D.bool pb2),(D.bool Bool.true),(D.int 0),(D.bool (qbool (qnth (q60 [pd0,(D.bool pb1),(D.bool pb2),(D.bool Bool.true),(D.int 1),(D.bool sb2)]) 1)))]) 2))),(D.bool Bool.true)]
 else
 some [(D.agg [(D.int 0),(D.int (qint (qnth (q61 [pd0,(D.bool pb1),(D.bool pb2),(D.bool Bool.true),(D.int 0),(D.bool (qbool (qnth (q60 [pd0,(D.bool pb1),(D.bool pb2),(D.bool Bool.true),(D.int 1),(D.bool sb2)]) 1)))]) 0))),(D.int 20),(D.int 2),(D.int 0),(D.int sn0),(D.int 0),(D.int 0),(D.int 0)]),(D.bool (qbool (qnth (q61 [pd0,(D.bool pb1),(D.bool pb2),(D.bool Bool.true),(D.int 0),(D.bool (qbool (qnth (q60 [pd0,(D.bool pb1),(D.bool pb2),(D.bool Bool.true),(D.int 1),(D.bool sb2)]) 1)))]) 2))),(D.bool Bool.true)]
 else
 none
 else
 none:=by
 have h:F45 [pd0,(D.bool pb1),(D.bool pb2),(D.int sn0),(D.int sn1),(D.bool sb2),(D.bool sb3)] =
  bif (qsome (q60 [pd0,(D.bool pb1),(D.bool pb2),(D.bool Bool.true),(D.int 1),(D.bool sb2)]))then
  bif (qnot (qbool (qnth (q60 [pd0,(D.bool pb1),(D.bool pb2),(D.bool Bool.true),(D.int 1),(D.bool sb2)]) 0)))then
  bif (qeqD pd0 pd0)then
  bif (qeqD (D.bool pb1) (D.bool pb1))then
  bif (qeqD (D.bool pb2) (D.bool pb2))then
  some [(D.agg [(D.int 0),(D.int 0),(D.int 20),(D.int 2),(D.int 0),(D.int sn0),(D.int 0),(D.int 0),(D.int 0)]),(D.bool (qbool (qnth (q60 [pd0,(D.bool pb1),(D.bool pb2),(D.bool Bool.true),(D.int 1),(D.bool sb2)]) 1))),(D.bool Bool.true)]
  else
  none
  else
  none
  else
  none
  else
  bif (qsome (q61 [pd0,(D.bool pb1),(D.bool pb2),(D.bool Bool.true),(D.int 0),(D.bool (qbool (qnth (q60 [pd0,(D.bool pb1),(D.bool pb2),(D.bool Bool.true),(D.int 1),(D.bool sb2)]) 1)))]))then
  bif (qiteB (qiteB (qnot (qbool (qnth (q61 [pd0,(D.bool pb1),(D.bool pb2),(D.bool Bool.true),(D.int 0),(D.bool (qbool (qnth (q60 [pd0,(D.bool pb1),(D.bool pb2),(D.bool Bool.true),(D.int 1),(D.bool sb2)]) 1)))]) 1))) (qcmp BinOp.eql (qwrap IntKind.u32 (qwrap IntKind.i8 (qbin BinOp.sub IntKind.u32 (qbin BinOp.sub IntKind.u32 (qint (qnth (q61 [pd0,(D.bool pb1),(D.bool pb2),(D.bool Bool.true),(D.int 0),(D.bool (qbool (qnth (q60 [pd0,(D.bool pb1),(D.bool pb2),(D.bool Bool.true),(D.int 1),(D.bool sb2)]) 1)))]) 0)) sn1) 2))) (qbin BinOp.sub IntKind.u32 (qbin BinOp.sub IntKind.u32 (qint (qnth (q61 [pd0,(D.bool pb1),(D.bool pb2),(D.bool Bool.true),(D.int 0),(D.bool (qbool (qnth (q60 [pd0,(D.bool pb1),(D.bool pb2),(D.bool Bool.true),(D.int 1),(D.bool sb2)]) 1)))]) 0)) sn1) 2)) Bool.false) (qnot pb2) Bool.false)then
  bif (qeqD pd0 pd0)then
  bif (qeqD (D.bool pb1) (D.bool pb1))then
  bif (qeqD (D.bool pb2) (D.bool pb2))then
  some [(D.agg [(D.int 0),(D.int (qint (qnth (q61 [pd0,(D.bool pb1),(D.bool pb2),(D.bool Bool.true),(D.int 0),(D.bool (qbool (qnth (q60 [pd0,(D.bool pb1),(D.bool pb2),(D.bool Bool.true),(D.int 1),(D.bool sb2)]) 1)))]) 0))),(D.int 20),(D.int 1),(D.int 0),(D.int sn0),(D.int 0),(D.int 0),(D.int 0)]),(D.bool (qbool (qnth (q61 [pd0,(D.bool pb1),(D.bool pb2),(D.bool Bool.true),(D.int 0),(D.bool (qbool (qnth (q60 [pd0,(D.bool pb1),(D.bool pb2),(D.bool Bool.true),(D.int 1),(D.bool sb2)]) 1)))]) 2))),(D.bool Bool.true)]
  else
  none
  else
  none
  else
  none
  else
  bif (qeqD pd0 pd0)then
  bif (qeqD (D.bool pb1) (D.bool pb1))then
  bif (qeqD (D.bool pb2) (D.bool pb2))then
  some [(D.agg [(D.int 0),(D.int (qint (qnth (q61 [pd0,(D.bool pb1),(D.bool pb2),(D.bool Bool.true),(D.int 0),(D.bool (qbool (qnth (q60 [pd0,(D.bool pb1),(D.bool pb2),(D.bool Bool.true),(D.int 1),(D.bool sb2)]) 1)))]) 0))),(D.int 20),(D.int 2),(D.int 0),(D.int sn0),(D.int 0),(D.int 0),(D.int 0)]),(D.bool (qbool (qnth (q61 [pd0,(D.bool pb1),(D.bool pb2),(D.bool Bool.true),(D.int 0),(D.bool (qbool (qnth (q60 [pd0,(D.bool pb1),(D.bool pb2),(D.bool Bool.true),(D.int 1),(D.bool sb2)]) 1)))]) 2))),(D.bool Bool.true)]
  else
  none
  else
  none
  else
  none
  else
  none
  else
  none:=by kernel_rfl
 rw[h];simp only[qeqD_self,qeqI_self,qeq_len,show qcmp BinOp.eql 0 (qlen (D.list []))=true from qeq_len [],show∀a,qcmp BinOp.eql 1 (qlen (D.list [a]))=true from fun a=>qeq_len [a],show∀a b,qcmp BinOp.eql 2 (qlen (D.list [a,b]))=true from fun a b=>qeq_len [a,b],show∀a b c,qcmp BinOp.eql 3 (qlen (D.list [a,b,c]))=true from fun a b c=>qeq_len [a,b,c],show∀a b c d,qcmp BinOp.eql 4 (qlen (D.list [a,b,c,d]))=true from fun a b c d=>qeq_len [a,b,c,d],cond_true]
noncomputable def q45:List D→Option (List D):=veil (F45)
theorem q45_eq:q45=F45:=veil_eq _
noncomputable def tb45:Tb:=Tb.addF tb48 45 S45 (q45)
theorem ok_tb45:TbOk env (tb45):=addFunF ok_tb48 45 (by kernel_rfl) _ (q45_eq)
def S47:FunS:=⟨[⟨true,(.ptr 0 0)⟩,⟨true,(.int .i64)⟩],[(.cells [⟨false,(.rows 9)⟩,⟨false,(.func 25 [] [])⟩,⟨true, .bool⟩,⟨false, .bool⟩,⟨false, .bool⟩,⟨true, .bool⟩])],[⟨true,(.dat 24)⟩],[(.cells [⟨false,(.rows 9)⟩,⟨true,(.func 25 [] [])⟩,⟨true, .bool⟩,⟨false, .bool⟩,⟨false, .bool⟩,⟨true, .bool⟩])]⟩
noncomputable def F47:List D→Option (List D):=liftX env tb45 60 12 47 S47
theorem F47_eq (pd0:D) (pb1:Bool) (pb2:Bool) (sn0:Int) (sb1:Bool) (sb2:Bool):F47 [pd0,(D.bool pb1),(D.bool pb2),(D.int sn0),(D.bool sb1),(D.bool sb2)] =
 bif (qsome (q60 [pd0,(D.bool pb1),(D.bool pb2),(D.bool sb2),(D.int 2),(D.bool sb1)]))then
 bif (qnot (qbool (qnth (q60 [pd0,(D.bool pb1),(D.bool pb2),(D.bool sb2),(D.int 2),(D.bool sb1)]) 0)))then
 some [(D.agg [(D.int 0),(D.int 0),(D.int sn0),(D.int 0),(D.int 0),(D.int 0),(D.int 0),(D.int 0),(D.int 0)]),(D.bool (qbool (qnth (q60 [pd0,(D.bool pb1),(D.bool pb2),(D.bool sb2),(D.int 2),(D.bool sb1)]) 1))),(D.bool sb2)]
 else
 bif (qsome (q62 [pd0,(D.bool pb1),(D.bool pb2),(D.bool sb2),(D.int 0),(D.bool (qbool (qnth (q60 [pd0,(D.bool pb1),(D.bool pb2),(D.bool sb2),(D.int 2),(D.bool sb1)]) 1)))]))then
 bif (qinb pd0 1)then
 bif (qsome (q13 [(D.str (qstr (qget pd0 1)))]))then
 bif (qbool (qnth (q13 [(D.str (qstr (qget pd0 1)))]) 1))then
 some [(D.agg [(D.int 0),(D.int 0),(D.int sn0),(D.int 0),(D.int 0),(D.int 0),(D.int (qint (qnth (q62 [pd0,(D.bool pb1),(D.bool pb2),(D.bool sb2),(D.int 0),(D.bool (qbool (qnth (q60 [pd0,(D.bool pb1),(D.bool pb2),(D.bool sb2),(D.int 2),(D.bool sb1)]) 1)))]) 0))),(D.int (qint (qnth (q13 [(D.str (qstr (qget pd0 1)))]) 0))),(D.int 0)]),(D.bool (qbool (qnth (q62 [pd0,(D.bool pb1),(D.bool pb2),(D.bool sb2),(D.int 0),(D.bool (qbool (qnth (q60 [pd0,(D.bool pb1),(D.bool pb2),(D.bool sb2),(D.int 2),(D.bool sb1)]) 1)))]) 1))),(D.bool sb2)]
 else
 bif (qsome (q61 [pd0,(D.bool pb1),(D.bool pb2),(D.bool Bool.true),(D.int 1),(D.bool (qbool (qnth (q62 [pd0,(D.bool pb1),(D.bool pb2),(D.bool sb2),(D.int 0),(D.bool (qbool (qnth (q60 [pd0,(D.bool pb1),(D.bool pb2),(D.bool sb2),(D.int 2),(D.bool sb1)]) 1)))]) 1)))]))then
 bif (qiteB (qiteB (qnot (qbool (qnth (q61 [pd0,(D.bool pb1),(D.bool pb2),(D.bool Bool.true),(D.int 1),(D.bool (qbool (qnth (q62 [pd0,(D.bool pb1),(D.bool pb2),(D.bool sb2),(D.int 0),(D.bool (qbool (qnth (q60 [pd0,(D.bool pb1),(D.bool pb2),(D.bool sb2),(D.int 2),(D.bool sb1)]) 1)))]) 1)))]) 1))) (qcmp BinOp.eql (qwrap IntKind.u32 (qwrap IntKind.i8 (qint (qnth (q61 [pd0,(D.bool pb1),(D.bool pb2),(D.bool Bool.true),(D.int 1),(D.bool (qbool (qnth (q62 [pd0,(D.bool pb1),(D.bool pb2),(D.bool sb2),(D.int 0),(D.bool (qbool (qnth (q60 [pd0,(D.bool pb1),(D.bool pb2),(D.bool sb2),(D.int 2),(D.bool sb1)]) 1)))]) 1)))]) 0)))) (qint (qnth (q61 [pd0,(D.bool pb1),(D.bool pb2),(D.bool Bool.true),(D.int 1),(D.bool (qbool (qnth (q62 [pd0,(D.bool pb1),(D.bool pb2),(D.bool sb2),(D.int 0),(D.bool (qbool (qnth (q60 [pd0,(D.bool pb1),(D.bool pb2),(D.bool sb2),(D.int 2),(D.bool sb1)]) 1)))]) 1)))]) 0))) Bool.false) (qnot pb2) Bool.false)then
 some [(D.agg [(D.int 0),(D.int (qint (qnth (q61 [pd0,(D.bool pb1),(D.bool pb2),(D.bool Bool.true),(D.int 1),(D.bool (qbool (qnth (q62 [pd0,(D.bool pb1),(D.bool pb2),(D.bool sb2),(D.int 0),(D.bool (qbool (qnth (q60 [pd0,(D.bool pb1),(D.bool pb2),(D.bool sb2),(D.int 2),(D.bool sb1)]) 1)))]) 1)))]) 0))),(D.int sn0),(D.int 1),(D.int 0),(D.int 0),(D.int (qint (qnth (q62 [pd0,(D.bool pb1),(D.bool pb2),(D.bool sb2),(D.int 0),(D.bool (qbool (qnth (q60 [pd0,(D.bool pb1),(D.bool pb2),(D.bool sb2),(D.int 2),(D.bool sb1)]) 1)))]) 0))),(D.int 0),(D.int 0)]),(D.bool (qbool (qnth (q61 [pd0,(D.bool pb1),(D.bool pb2),(D.bool Bool.true),(D.int 1),(D.bool (qbool (qnth (q62 [pd0,(D.bool pb1),(D.bool pb2),(D.bool sb2),(D.int 0),(D.bool (qbool (qnth (q60 [pd0,(D.bool pb1),(D.bool pb2),(D.bool sb2),(D.int 2),(D.bool sb1)]) 1)))]) 1)))]) 2))),(D.bool Bool.true)]
 else
 some [(D.agg [(D.int 0),(D.int (qint (qnth (q61 [pd0,(D.bool pb1),(D.bool pb2),(D.bool Bool.true),(D.int 1),(D.bool (qbool (qnth (q62 [pd0,(D.bool pb1),(D.bool pb2),(D.bool sb2),(D.int 0),(D.bool (qbool (qnth (q60 [pd0,(D.bool pb1),(D.bool pb2),(D.bool sb2),(D.int 2),(D.bool sb1)]) 1)))]) 1)))]) 0))),(D.int sn0),(D.int 2),(D.int 0),(D.int 0),(D.int (qint (qnth (q62 [pd0,(D.bool pb1),(D.bool pb2),(D.bool sb2),(D.int 0),(D.bool (qbool (qnth (q60 [pd0,(D.bool pb1),(D.bool pb2),(D.bool sb2),(D.int 2),(D.bool sb1)]) 1)))]) 0))),(D.int 0),(D.int 0)]),(D.bool (qbool (qnth (q61 [pd0,(D.bool pb1),(D.bool pb2),(D.bool Bool.true),(D.int 1),(D.bool (qbool (qnth (q62 [pd0,(D.bool pb1),(D.bool pb2),(D.bool sb2),(D.int 0),(D.bool (qbool (qnth (q60 [pd0,(D.bool pb1),(D.bool pb2),(D.bool sb2),(D.int 2),(D.bool sb1)]) 1)))]) 1)))]) 2))),(D.bool Bool.true)]
 else
 none
 else
 none
 else
 none
 else
 none
 else
 none:=by
 have h:F47 [pd0,(D.bool pb1),(D.bool pb2),(D.int sn0),(D.bool sb1),(D.bool sb2)] =
  bif (qsome (q60 [pd0,(D.bool pb1),(D.bool pb2),(D.bool sb2),(D.int 2),(D.bool sb1)]))then
  bif (qnot (qbool (qnth (q60 [pd0,(D.bool pb1),(D.bool pb2),(D.bool sb2),(D.int 2),(D.bool sb1)]) 0)))then
  bif (qeqD pd0 pd0)then
  bif (qeqD (D.bool pb1) (D.bool pb1))then
  bif (qeqD (D.bool pb2) (D.bool pb2))then
  some [(D.agg [(D.int 0),(D.int 0),(D.int sn0),(D.int 0),(D.int 0),(D.int 0),(D.int 0),(D.int 0),(D.int 0)]),(D.bool (qbool (qnth (q60 [pd0,(D.bool pb1),(D.bool pb2),(D.bool sb2),(D.int 2),(D.bool sb1)]) 1))),(D.bool sb2)]
  else
  none
  else
  none
  else
  none
  else
  bif (qsome (q62 [pd0,(D.bool pb1),(D.bool pb2),(D.bool sb2),(D.int 0),(D.bool (qbool (qnth (q60 [pd0,(D.bool pb1),(D.bool pb2),(D.bool sb2),(D.int 2),(D.bool sb1)]) 1)))]))then
  bif (qinb pd0 1)then
  bif (qsome (q13 [(D.str (qstr (qget pd0 1)))]))then
  bif (qbool (qnth (q13 [(D.str (qstr (qget pd0 1)))]) 1))then
  bif (qeqD pd0 pd0)then
  bif (qeqD (D.bool pb1) (D.bool pb1))then
  bif (qeqD (D.bool pb2) (D.bool pb2))then
  some [(D.agg [(D.int 0),(D.int 0),(D.int sn0),(D.int 0),(D.int 0),(D.int 0),(D.int (qint (qnth (q62 [pd0,(D.bool pb1),(D.bool pb2),(D.bool sb2),(D.int 0),(D.bool (qbool (qnth (q60 [pd0,(D.bool pb1),(D.bool pb2),(D.bool sb2),(D.int 2),(D.bool sb1)]) 1)))]) 0))),(D.int (qint (qnth (q13 [(D.str (qstr (qget pd0 1)))]) 0))),(D.int 0)]),(D.bool (qbool (qnth (q62 [pd0,(D.bool pb1),(D.bool pb2),(D.bool sb2),(D.int 0),(D.bool (qbool (qnth (q60 [pd0,(D.bool pb1),(D.bool pb2),(D.bool sb2),(D.int 2),(D.bool sb1)]) 1)))]) 1))),(D.bool sb2)]
  else
  none
  else
  none
  else
  none
  else
  bif (qsome (q61 [pd0,(D.bool pb1),(D.bool pb2),(D.bool Bool.true),(D.int 1),(D.bool (qbool (qnth (q62 [pd0,(D.bool pb1),(D.bool pb2),(D.bool sb2),(D.int 0),(D.bool (qbool (qnth (q60 [pd0,(D.bool pb1),(D.bool pb2),(D.bool sb2),(D.int 2),(D.bool sb1)]) 1)))]) 1)))]))then
  bif (qiteB (qiteB (qnot (qbool (qnth (q61 [pd0,(D.bool pb1),(D.bool pb2),(D.bool Bool.true),(D.int 1),(D.bool (qbool (qnth (q62 [pd0,(D.bool pb1),(D.bool pb2),(D.bool sb2),(D.int 0),(D.bool (qbool (qnth (q60 [pd0,(D.bool pb1),(D.bool pb2),(D.bool sb2),(D.int 2),(D.bool sb1)]) 1)))]) 1)))]) 1))) (qcmp BinOp.eql (qwrap IntKind.u32 (qwrap IntKind.i8 (qint (qnth (q61 [pd0,(D.bool pb1),(D.bool pb2),(D.bool Bool.true),(D.int 1),(D.bool (qbool (qnth (q62 [pd0,(D.bool pb1),(D.bool pb2),(D.bool sb2),(D.int 0),(D.bool (qbool (qnth (q60 [pd0,(D.bool pb1),(D.bool pb2),(D.bool sb2),(D.int 2),(D.bool sb1)]) 1)))]) 1)))]) 0)))) (qint (qnth (q61 [pd0,(D.bool pb1),(D.bool pb2),(D.bool Bool.true),(D.int 1),(D.bool (qbool (qnth (q62 [pd0,(D.bool pb1),(D.bool pb2),(D.bool sb2),(D.int 0),(D.bool (qbool (qnth (q60 [pd0,(D.bool pb1),(D.bool pb2),(D.bool sb2),(D.int 2),(D.bool sb1)]) 1)))]) 1)))]) 0))) Bool.false) (qnot pb2) Bool.false)then
  bif (qeqD pd0 pd0)then
  bif (qeqD (D.bool pb1) (D.bool pb1))then
  bif (qeqD (D.bool pb2) (D.bool pb2))then
  some [(D.agg [(D.int 0),(D.int (qint (qnth (q61 [pd0,(D.bool pb1),(D.bool pb2),(D.bool Bool.true),(D.int 1),(D.bool (qbool (qnth (q62 [pd0,(D.bool pb1),(D.bool pb2),(D.bool sb2),(D.int 0),(D.bool (qbool (qnth (q60 [pd0,(D.bool pb1),(D.bool pb2),(D.bool sb2),(D.int 2),(D.bool sb1)]) 1)))]) 1)))]) 0))),(D.int sn0),(D.int 1),(D.int 0),(D.int 0),(D.int (qint (qnth (q62 [pd0,(D.bool pb1),(D.bool pb2),(D.bool sb2),(D.int 0),(D.bool (qbool (qnth (q60 [pd0,(D.bool pb1),(D.bool pb2),(D.bool sb2),(D.int 2),(D.bool sb1)]) 1)))]) 0))),(D.int 0),(D.int 0)]),(D.bool (qbool (qnth (q61 [pd0,(D.bool pb1),(D.bool pb2),(D.bool Bool.true),(D.int 1),(D.bool (qbool (qnth (q62 [pd0,(D.bool pb1),(D.bool pb2),(D.bool sb2),(D.int 0),(D.bool (qbool (qnth (q60 [pd0,(D.bool pb1),(D.bool pb2),(D.bool sb2),(D.int 2),(D.bool sb1)]) 1)))]) 1)))]) 2))),(D.bool Bool.true)]
  else
  none
  else
  none
  else
  none
  else
  bif (qeqD pd0 pd0)then
  bif (qeqD (D.bool pb1) (D.bool pb1))then
  bif (qeqD (D.bool pb2) (D.bool pb2))then
  some [(D.agg [(D.int 0),(D.int (qint (qnth (q61 [pd0,(D.bool pb1),(D.bool pb2),(D.bool Bool.true),(D.int 1),(D.bool (qbool (qnth (q62 [pd0,(D.bool pb1),(D.bool pb2),(D.bool sb2),(D.int 0),(D.bool (qbool (qnth (q60 [pd0,(D.bool pb1),(D.bool pb2),(D.bool sb2),(D.int 2),(D.bool sb1)]) 1)))]) 1)))]) 0))),(D.int sn0),(D.int 2),(D.int 0),(D.int 0),(D.int (qint (qnth (q62 [pd0,(D.bool pb1),(D.bool pb2),(D.bool sb2),(D.int 0),(D.bool (qbool (qnth (q60 [pd0,(D.bool pb1),(D.bool pb2),(D.bool sb2),(D.int 2),(D.bool sb1)]) 1)))]) 0))),(D.int 0),(D.int 0)]),(D.bool (qbool (qnth (q61 [pd0,(D.bool pb1),(D.bool pb2),(D.bool Bool.true),(D.int 1),(D.bool (qbool (qnth (q62 [pd0,(D.bool pb1),(D.bool pb2),(D.bool sb2),(D.int 0),(D.bool (qbool (qnth (q60 [pd0,(D.bool pb1),(D.bool pb2),(D.bool sb2),(D.int 2),(D.bool sb1)]) 1)))]) 1)))]) 2))),(D.bool Bool.true)]
  else
  none
  else
  none
  else
  none
  else
  none
  else
  none
  else
  none
  else
  none
  else
  none:=by kernel_rfl
 rw[h];simp only[qeqD_self,qeqI_self,qeq_len,show qcmp BinOp.eql 0 (qlen (D.list []))=true from qeq_len [],show∀a,qcmp BinOp.eql 1 (qlen (D.list [a]))=true from fun a=>qeq_len [a],show∀a b,qcmp BinOp.eql 2 (qlen (D.list [a,b]))=true from fun a b=>qeq_len [a,b],show∀a b c,qcmp BinOp.eql 3 (qlen (D.list [a,b,c]))=true from fun a b c=>qeq_len [a,b,c],show∀a b c d,qcmp BinOp.eql 4 (qlen (D.list [a,b,c,d]))=true from fun a b c d=>qeq_len [a,b,c,d],cond_true]
noncomputable def q47:List D→Option (List D):=veil (F47)
theorem q47_eq:q47=F47:=veil_eq _
noncomputable def tb47:Tb:=Tb.addF tb45 47 S47 (q47)
theorem ok_tb47:TbOk env (tb47):=addFunF ok_tb45 47 (by kernel_rfl) _ (q47_eq)
end Go.Proofs.YtobhhfbdelnhfaaDoor
