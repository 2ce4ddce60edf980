/-
  DERIVED: THE SHELF's CONTRACTS AT THIS DUMP, IN PLAIN WORDS (tools/lay-plain.mjs out of 'TryzShelf.lean', which tools/lay-shelf.mjs wrote): THE SAME DECLARATIONS UNDER THE SAME NAMES: 'import', 'namespace', 'open', 'def', 'theorem' AND NOTHING ELSE: no command of the shelf's: FOR A HAND-IN. Each laying: the table of numbers ('.._ren') and one theorem, a field a fact of the dump's own or the kernel's comparison; each contract: ONE APPLICATION.
-/
import Derived.Shelf.Strings.Builder1
import Derived.Shelf.Strings.Builder2
import Derived.Shelf.Strings.OnBuilder
import Derived.Shelf.LaysM
import Derived.Ground.Names2Prog
import Derived.Test.YtfdedgmlafelaaaGreatDoorProg
import Derived.Test.YtfdedgmlafelaaaGreatDoorC1
import Derived.Below
import Derived.RowKit3
import Derived.Test.YtfdedgmlafelaaaGreatDoorAmW
import Derived.Test.YtfdedgmlafelaaaGreatDoorSp
import Derived.KernelRfl
set_option linter.unusedVariables false
set_option linter.unusedSimpArgs false
namespace Go.Proofs
open Go.Shelf
def Tryz.lays156_ren:Go.Shelf.Ren:=⟨fun|156=>132|165=>151|166=>152|169=>153|240=>164|241=>165|276=>171|277=>172|n=>n,fun|31=>159|9=>9|3=>3|4=>4|0=>0|20=>20|72=>176|76=>179|70=>173|37=>174|75=>178|127=>193|164=>200|5=>5|80=>181|n=>n,fun|n=>n⟩
theorem Tryz.lays156:Go.Proofs.Lays.n156 Tryz.prog Tryz.lays156_ren:={
 mixed:=by kernel_rfl
 f156:=Tryz.func132.trans (congrArg some (by kernel_rfl))
 f165:=Tryz.func151.trans (congrArg some (by kernel_rfl))
 f166:=Tryz.func152.trans (congrArg some (by kernel_rfl))
 f169:=Tryz.func153.trans (congrArg some (by kernel_rfl))
 f240:=Tryz.func164.trans (congrArg some (by kernel_rfl))
 f241:=Tryz.func165.trans (congrArg some (by kernel_rfl))
 f276:=Tryz.func171.trans (congrArg some (by kernel_rfl))
 f277:=Tryz.func172.trans (congrArg some (by kernel_rfl))
 t0:=Tryz.underlying0
 a0:=Tryz.isAgg0
 z0:=Tryz.sizeOf0
 v0:=Tryz.zeroValue0
 t3:=Tryz.underlying3
 a3:=Tryz.isAgg3
 z3:=Tryz.sizeOf3
 v3:=Tryz.zeroValue3
 t4:=Tryz.underlying4
 a4:=Tryz.isAgg4
 z4:=Tryz.sizeOf4
 v4:=Tryz.zeroValue4
 t9:=Tryz.underlying9
 a9:=Tryz.isAgg9
 z9:=Tryz.sizeOf9
 v9:=Tryz.zeroValue9
 t20:=Tryz.underlying20
 a20:=Tryz.isAgg20
 z20:=Tryz.sizeOf20
 v20:=Tryz.zeroValue20
 t31:=Tryz.underlying159
 a31:=Tryz.isAgg159
 z31:=Tryz.sizeOf159
 v31:=Tryz.zeroValue159
 t37:=Tryz.underlying174
 a37:=Tryz.isAgg174
 z37:=Tryz.sizeOf174
 v37:=Tryz.zeroValue174
 t70:=Tryz.underlying173
 a70:=Tryz.isAgg173
 z70:=Tryz.sizeOf173
 v70:=Tryz.zeroValue173
 t72:=Tryz.underlying176
 a72:=Tryz.isAgg176
 z72:=Tryz.sizeOf176
 v72:=Tryz.zeroValue176
 t75:=Tryz.underlying178
 a75:=Tryz.isAgg178
 z75:=Tryz.sizeOf178
 v75:=Tryz.zeroValue178
 t76:=Tryz.underlying179
 a76:=Tryz.isAgg179
 z76:=Tryz.sizeOf179
 v76:=Tryz.zeroValue179
 t127:=Tryz.underlying193
 a127:=Tryz.isAgg193
 z127:=Tryz.sizeOf193
 v127:=Tryz.zeroValue193
 t164:=Tryz.underlying200
 a164:=Tryz.isAgg200
 z164:=Tryz.sizeOf200
 v164:=Tryz.zeroValue200}
theorem Tryz.Builder_Extra_156:Builder.Extra Tryz.prog Tryz.lays156_ren:={
 sizeBuilder:=by kernel_rfl
 liesBuilder:=by kernel_rfl
 t5:=Tryz.underlying5
 a5:=Tryz.isAgg5
 z5:=Tryz.sizeOf5
 v5:=Tryz.zeroValue5
 infoByte:=by kernel_rfl
 cellsByte:=by kernel_rfl
 sizeByte:=by kernel_rfl
 neB5:=by decide}
open Go.RowKit in
theorem Tryz.strings_Join (bk o c:Nat) (xs:List ByteArray) (sep:ByteArray) (w:World) (hcells:∀(j:Nat) x,xs[j]? = some x→w.cell? ⟨bk,o+j,none⟩=some (.string x)) (hbk:bk<w.heap.size) (hN:xs.length≤140737488355328) (hcap:xs.length≤c) (hlen:(Lib.join (xs.map (·.data.toList)) sep.data.toList).length≤140737488355328):
 Calls Tryz.prog 132 #[.slice (some ⟨bk,o,none⟩) xs.length c, .string sep] w fun e w'=>e = .returned (.string ⟨(Lib.join (xs.map (·.data.toList)) sep.data.toList).toArray⟩)∧Below w.heap.size w w':=Any.strings_Join Tryz.lays156 Tryz.Builder_Extra_156 bk o c xs sep w hcells hbk hN hcap hlen
end Go.Proofs
namespace Go.AM
section
variable {P:Program}
theorem ok_of_below {f:FuncId} {args:List AV} {H:Hp} {x:Value} (h:∀(lo:Nat→Prop) (w0:World) (ρ:Nat→Option Nat) (E:Nat→Prop) (w:World) (vs:Array Value),Inv lo w0 ρ E H w→RepL ρ E w args vs.toList→
 Calls P f vs w fun e w'=>e = .returned x∧RowKit.Below w.heap.size w w'):Ok P f args H (.sc x) H:=by
 intro lo w0 ρ E w vs inv ra
 refine(h lo w0 ρ E w vs inv ra).mono ?_
 rintro e w' ⟨rfl,hb⟩
 obtain⟨b1,b2,b3,hsz,hold⟩:=hb
 have ext:Ext ρ E w ρ E w':=Ext.grow (fun _ _ h=>h) (fun _ h=>h) (fun i b hb=>(inv.bd i b hb).2) inv.ebd hold hsz
 refine⟨x,ρ,E,rfl,?_,⟨ext,fun _ h=> .inl h⟩,by simp only[Rep]⟩
 exact{len:=inv.len,dom:=inv.dom,blk:=fun i k b hk hb=>(inv.blk i k b hk hb).mono ext (hold b (inv.bd i b hb).2),inj:=inv.inj,notE:=inv.notE,
       bd:=fun i b hb=>⟨(inv.bd i b hb).1,Nat.lt_of_lt_of_le (inv.bd i b hb).2 hsz⟩
       ebd:=fun b he=>Nat.lt_of_lt_of_le (inv.ebd b he) hsz
       lole:=fun b hb=>Nat.lt_of_lt_of_le (inv.lole b hb) hsz
       old:=fun b hb=>(hold b (inv.lole b hb)).trans (inv.old b hb)
       io:=inv.io.trans ⟨b1,b2,b3⟩,gl:=gl_mono rfl ext inv.gl}
def str1:List AV→Option ByteArray
 | [.sc (.string s)]=>some s
 |_=>none
theorem rows_strs {E:Nat→Prop} {w:World} {b z:Nat}:∀{xs:List (List AV)} {ss:List ByteArray} {off:Nat},mapO str1 xs=some ss→RepRows nowhere E w b off z xs→∀(j:Nat) x,ss[j]? = some x→w.cell? ⟨b,off+j,none⟩=some (.string x)
 | [],ss,off,h,_,j,x,hx=>by simp[mapO]at h;subst h;simp at hx
 |c::cs,ss,off,h,hr,j,x,hx=>by
  simp only[RepRows]at hr
  obtain⟨hz,h1,h2⟩:=hr
  simp only[mapO]at h
  cases hc:str1 c with
  |none=>simp[hc]at h
  |some s=>
   cases hm:mapO str1 cs with
   |none=>simp[hc,hm]at h
   |some ss'=>
    simp[hc,hm]at h
    subst h
    have he:c = [.sc (.string s)]:=by
     unfold str1 at hc
     split at hc
     ·cases hc;rfl
     ·cases hc
    subst he
    simp only[List.length_cons,List.length_nil]at hz
    subst hz
    cases j with
    |zero=>
     simp at hx;subst hx
     simp only[RepAt,Rep]at h1
     obtain⟨⟨u,hu,rfl⟩,_⟩:=h1
     exact hu
    |succ j=>
     have:=rows_strs hm h2 j x (by simpa using hx)
     rw[show off+(j+1)=off+(0+1)+j by omega];exact this
def JoinSaid (P:Program) (f:FuncId):Prop:=
 ∀(bk o c:Nat) (xs:List ByteArray) (sep:ByteArray) (w:World),(∀(j:Nat) x,xs[j]? = some x→w.cell? ⟨bk,o+j,none⟩=some (.string x))→bk<w.heap.size→xs.length≤140737488355328→xs.length≤c→
  (Lib.join (xs.map (·.data.toList)) sep.data.toList).length≤140737488355328→
  Calls P f #[.slice (some ⟨bk,o,none⟩) xs.length c, .string sep] w fun e w'=>e = .returned (.string ⟨(Lib.join (xs.map (·.data.toList)) sep.data.toList).toArray⟩)∧RowKit.Below w.heap.size w w'
def joinC (args:List AV) (H:Hp):Option (AV×Hp):=
 match args with
 | [.esl (x::xs), .sc (.string sep)]=>(mapO str1 (x::xs)).bind fun ss=>
   bif Nat.ble ss.length 1048576&&Nat.ble (Lib.join (ss.map (·.data.toList)) sep.data.toList).length 1048576 then some (.sc (.string ⟨(Lib.join (ss.map (·.data.toList)) sep.data.toList).toArray⟩),H)else none
 |_=>none
theorem joinC_ok {f:FuncId} (hJ:JoinSaid P f) (args:List AV) (H:Hp) (v:AV) (H':Hp) (h:joinC args H=some (v,H')):Ok P f args H v H':=by
 unfold joinC at h
 split at h
 case h_2=>cases h
 case h_1 x xs sep=>
  obtain⟨ss,hs,h⟩:=Option.bind_eq_some_iff.1 h
  cases hb:(Nat.ble ss.length 1048576&&Nat.ble (Lib.join (ss.map (·.data.toList)) sep.data.toList).length 1048576)with
  |false=>rw[hb]at h;cases h
  |true=>
   rw[hb]at h
   cases h
   simp only[Bool.and_eq_true,Nat.ble_eq]at hb
   refine ok_of_below fun lo w0 ρ E w vs inv ra=> ?_
   generalize hvs:vs.toList=l at ra
   simp only[RepL]at ra
   obtain⟨u1,l1,rfl,r1,u2,l2,rfl,r2,rfl⟩:=ra
   simp only[Rep]at r1 r2
   subst r2
   obtain⟨a,cap,rfl,hcap,hr⟩:=r1
   rcases hr with hr|⟨b,off,z,rfl,he,hr⟩
   ·cases hr
   ·have hlen:=mapO_len hs
    have hv:vs = #[.slice (some ⟨b,off,none⟩) ss.length cap, .string sep]:=by
     rw[← Array.toList_inj,hvs,hlen]
    rw[hv]
    exact hJ b off cap ss sep w (rows_strs hs hr) (inv.ebd b he) (by omega) (by omega) (by omega)
end
end Go.AM
namespace Go.Proofs.YtfdedgmlafelaaaGreatDoor
open Go Go.AM
set_option maxRecDepth 100000
theorem joinSaid132:JoinSaid Tryz.prog 132:=fun bk o c xs sep w h h1 h2 h3 h4=>Tryz.strings_Join bk o c xs sep w h h1 h2 h3 h4
noncomputable def tbX:Tb:=Tb.nil.add 132 joinC (fun _ _=>[])
noncomputable def envX:Env:={P:=Tryz.prog,fn:=fun f=>(Tryz.prog.funcs[f]?).bind fun fn=>fn.body.map fun c=>⟨c,fn.ntmps,fn.results.toList⟩,isPure:=fun _=>false,isFrz:=fun _=>false,clr:=false,pre:=tbX.O,lp:=fun _ _=>none,n0:=0}
theorem envXOk:EnvOk envX:=by
 intro f F h
 refine envOk f F ?_
 rw[envFn]
 exact h
theorem tbXOk:TbOk envX tbX:=TbOk.nil.add (by kernel_rfl) fun args H v H' h _=>joinC_ok joinSaid132 args H v H' h
def S9:FunS:=⟨[],[],[⟨true, .bool⟩],[]⟩
noncomputable def psX:List (Nat×Nat):=[(102,132),(26,55),(26,56),(26,57),(26,58)]
theorem ex9:liftC envX tbX (runP envX psX [] tbX 5000 5000).d 9 S9 []=some [.bool true]:=by kernel_rfl
noncomputable def q9:List D→Option (List D):=veil fun ds=>liftC envX tbX (runP envX psX [] tbX 5000 5000).d 9 S9 ds
theorem q9_eq:q9 []=some [.bool true]:=by unfold q9;rw[veil_eq];exact ex9
theorem sound9:SoundF env.P 9 S9 q9:=by
 unfold q9;rw[veil_eq]
 exact liftC_sound envX tbX (runP_sound envXOk (fun _ _=>rfl) rfl psX [] tbXOk 5000 5000)
end Go.Proofs.YtfdedgmlafelaaaGreatDoor
open Go Go.AM
namespace Go.Proofs.YtfdedgmlafelaaaGreatDoor
set_option maxRecDepth 100000
set_option linter.unusedSimpArgs false
set_option linter.unusedVariables false
def S113:FunS:=⟨[⟨true,(.int .i64)⟩],[],[⟨true, .bool⟩],[]⟩
noncomputable def F113:List D→Option (List D):=liftX env Tb.nil 60 12 113 S113
theorem F113_eq (sn0:Int):F113 [(D.int sn0)] =
 some [(D.bool (qiteB (qcmp BinOp.geq sn0 0) (qcmp BinOp.lss sn0 65536) Bool.false))]:=by kernel_rfl
noncomputable def q113:List D→Option (List D):=veil (F113)
theorem q113_eq:q113=F113:=veil_eq _
noncomputable def tb113:Tb:=Tb.addF Tb.nil 113 S113 (q113)
theorem ok_tb113:TbOk env (tb113):=addFunF ok_nil 113 (by kernel_rfl) _ (q113_eq)
def S90:FunS:=⟨[⟨true,(.dat 57)⟩],[],[⟨true, .bool⟩],[]⟩
noncomputable def F90:List D→Option (List D):=liftX env tb113 60 12 90 S90
theorem F90_eq (sd0:D):F90 [sd0] =
 some [(D.bool (qiteB (qcmp BinOp.geq (qint (qfld sd0 0)) 6) (qcmp BinOp.leq (qint (qfld sd0 0)) 10) Bool.false))]:=by kernel_rfl
noncomputable def q90:List D→Option (List D):=veil (F90)
theorem q90_eq:q90=F90:=veil_eq _
noncomputable def tb90:Tb:=Tb.addF tb113 90 S90 (q90)
theorem ok_tb90:TbOk env (tb90):=addFunF ok_tb113 90 (by kernel_rfl) _ (q90_eq)
def S109:FunS:=⟨[⟨true,(.dat 57)⟩],[],[⟨true, .bool⟩],[]⟩
noncomputable def F109:List D→Option (List D):=liftX env tb90 60 12 109 S109
theorem F109_eq (sd0:D):F109 [sd0] =
 some [(D.bool (qiteB (qcmp BinOp.geq (qint (qfld sd0 0)) 6) (qcmp BinOp.leq (qint (qfld sd0 0)) 10) Bool.false))]:=by kernel_rfl
noncomputable def q109:List D→Option (List D):=veil (F109)
theorem q109_eq:q109=F109:=veil_eq _
noncomputable def tb109:Tb:=Tb.addF tb90 109 S109 (q109)
theorem ok_tb109:TbOk env (tb109):=addFunF ok_tb90 109 (by kernel_rfl) _ (q109_eq)
def S123:FunS:=⟨[⟨true,(.int .i64)⟩],[],[⟨true, .bool⟩],[]⟩
noncomputable def F123:List D→Option (List D):=liftX env tb109 60 12 123 S123
theorem F123_eq (sn0:Int):F123 [(D.int sn0)] =
 some [(D.bool (qiteB (qcmp BinOp.geq sn0 0) (qcmp BinOp.lss sn0 65536) Bool.false))]:=by kernel_rfl
noncomputable def q123:List D→Option (List D):=veil (F123)
theorem q123_eq:q123=F123:=veil_eq _
noncomputable def tb123:Tb:=Tb.addF tb109 123 S123 (q123)
theorem ok_tb123:TbOk env (tb123):=addFunF ok_tb109 123 (by kernel_rfl) _ (q123_eq)
def S124:FunS:=⟨[⟨true,(.int .i64)⟩],[],[⟨true, .bool⟩],[]⟩
noncomputable def F124:List D→Option (List D):=liftX env tb123 60 12 124 S124
theorem F124_eq (sn0:Int):F124 [(D.int sn0)] =
 some [(D.bool (qiteB (qiteB (qcmp BinOp.eql sn0 1) Bool.true (qcmp BinOp.eql sn0 2)) Bool.true (qcmp BinOp.eql sn0 4)))]:=by kernel_rfl
noncomputable def q124:List D→Option (List D):=veil (F124)
theorem q124_eq:q124=F124:=veil_eq _
noncomputable def tb124:Tb:=Tb.addF tb123 124 S124 (q124)
theorem ok_tb124:TbOk env (tb124):=addFunF ok_tb123 124 (by kernel_rfl) _ (q124_eq)
def S93:FunS:=⟨[⟨true,(.int .i64)⟩],[],[⟨true,(.int .i64)⟩],[]⟩
noncomputable def F93:List D→Option (List D):=liftX env tb124 60 12 93 S93
theorem F93_eq (sn0:Int):F93 [(D.int sn0)] =
 bif (qiteB (qcmp BinOp.eql sn0 1) (qcmp BinOp.eql sn0 1) (qiteB (qcmp BinOp.eql sn0 4) (qcmp BinOp.eql sn0 4) (qiteB (qcmp BinOp.eql sn0 7) (qcmp BinOp.eql sn0 7) (qcmp BinOp.eql sn0 8))))then
 some [(D.int 1)]
 else
 bif (qcmp BinOp.eql sn0 2)then
 some [(D.int 2)]
 else
 bif (qiteB (qcmp BinOp.eql sn0 3) (qcmp BinOp.eql sn0 3) (qiteB (qcmp BinOp.eql sn0 5) (qcmp BinOp.eql sn0 5) (qiteB (qcmp BinOp.eql sn0 6) (qcmp BinOp.eql sn0 6) (qiteB (qcmp BinOp.eql sn0 9) (qcmp BinOp.eql sn0 9) (qcmp BinOp.eql sn0 10)))))then
 some [(D.int 0)]
 else
 some [(D.int (-1))]:=by kernel_rfl
noncomputable def q93:List D→Option (List D):=veil (F93)
theorem q93_eq:q93=F93:=veil_eq _
noncomputable def tb93:Tb:=Tb.addF tb124 93 S93 (q93)
theorem ok_tb93:TbOk env (tb93):=addFunF ok_tb124 93 (by kernel_rfl) _ (q93_eq)
def S110:FunS:=⟨[⟨true,(.int .i64)⟩],[],[⟨true,(.int .i64)⟩],[]⟩
noncomputable def F110:List D→Option (List D):=liftX env tb93 60 12 110 S110
theorem F110_eq (sn0:Int):F110 [(D.int sn0)] =
 bif (qcmp BinOp.eql sn0 2)then
 some [(D.int 2)]
 else
 bif (qiteB (qcmp BinOp.eql sn0 1) (qcmp BinOp.eql sn0 1) (qiteB (qcmp BinOp.eql sn0 4) (qcmp BinOp.eql sn0 4) (qiteB (qcmp BinOp.eql sn0 7) (qcmp BinOp.eql sn0 7) (qcmp BinOp.eql sn0 8))))then
 some [(D.int 1)]
 else
 some [(D.int 0)]:=by kernel_rfl
noncomputable def q110:List D→Option (List D):=veil (F110)
theorem q110_eq:q110=F110:=veil_eq _
noncomputable def tb110:Tb:=Tb.addF tb93 110 S110 (q110)
theorem ok_tb110:TbOk env (tb110):=addFunF ok_tb93 110 (by kernel_rfl) _ (q110_eq)
def S94:FunS:=⟨[⟨true,(.dat 57)⟩],[],[⟨true, .bool⟩],[]⟩
noncomputable def F94:List D→Option (List D):=liftX env tb110 60 12 94 S94
theorem F94_eq (sd0:D):F94 [sd0] =
 bif (qiteB (qcmp BinOp.eql (qint (qfld sd0 0)) 1) (qcmp BinOp.eql (qint (qfld sd0 0)) 1) (qcmp BinOp.eql (qint (qfld sd0 0)) 3))then
 bif (qsome (q123 [(D.int (qint (qfld sd0 1)))]))then
 bif (qnot (qbool (qnth (q123 [(D.int (qint (qfld sd0 1)))]) 0)))then
 some [(D.bool Bool.false)]
 else
 some [(D.bool (qiteB (qiteB (qiteB (qiteB (qiteB (qcmp BinOp.eql (qint (qfld sd0 1)) (qint (qfld sd0 1))) (qcmp BinOp.eql (qint (qfld sd0 2)) 0) Bool.false) (qcmp BinOp.eql (qint (qfld sd0 5)) 0) Bool.false) (qcmp BinOp.eql (qint (qfld sd0 3)) 0) Bool.false) (qcmp BinOp.eql (qint (qfld sd0 4)) 0) Bool.false) (qcmp BinOp.eql (qlen (qfld sd0 7)) 0) Bool.false))]
 else
 none
 else
 bif (qcmp BinOp.eql (qint (qfld sd0 0)) 2)then
 bif (qsome (q124 [(D.int (qint (qfld sd0 2)))]))then
 bif (qnot (qbool (qnth (q124 [(D.int (qint (qfld sd0 2)))]) 0)))then
 some [(D.bool Bool.false)]
 else
 some [(D.bool (qiteB (qiteB (qiteB (qiteB (qiteB (qcmp BinOp.eql (qint (qfld sd0 1)) 0) (qcmp BinOp.eql (qint (qfld sd0 2)) (qint (qfld sd0 2))) Bool.false) (qcmp BinOp.eql (qint (qfld sd0 5)) 0) Bool.false) (qcmp BinOp.eql (qint (qfld sd0 3)) 0) Bool.false) (qcmp BinOp.eql (qint (qfld sd0 4)) 0) Bool.false) (qcmp BinOp.eql (qlen (qfld sd0 7)) 0) Bool.false))]
 else
 none
 else
 bif (qcmp BinOp.eql (qint (qfld sd0 0)) 5)then
 some [(D.bool (qiteB (qiteB (qiteB (qiteB (qiteB (qcmp BinOp.eql (qint (qfld sd0 1)) 0) (qcmp BinOp.eql (qint (qfld sd0 2)) 0) Bool.false) (qcmp BinOp.eql (qint (qfld sd0 5)) (qint (qfld sd0 5))) Bool.false) (qcmp BinOp.eql (qint (qfld sd0 3)) 0) Bool.false) (qcmp BinOp.eql (qint (qfld sd0 4)) 0) Bool.false) (qcmp BinOp.eql (qlen (qfld sd0 7)) 0) Bool.false))]
 else
 bif (qcmp BinOp.eql (qint (qfld sd0 0)) 6)then
 some [(D.bool (qiteB (qiteB (qiteB (qiteB (qiteB (qcmp BinOp.eql (qint (qfld sd0 1)) 0) (qcmp BinOp.eql (qint (qfld sd0 2)) 0) Bool.false) (qcmp BinOp.eql (qint (qfld sd0 5)) 0) Bool.false) (qcmp BinOp.eql (qint (qfld sd0 3)) (qint (qfld sd0 3))) Bool.false) (qcmp BinOp.eql (qint (qfld sd0 4)) 0) Bool.false) (qcmp BinOp.eql (qlen (qfld sd0 7)) 0) Bool.false))]
 else
 bif (qcmp BinOp.eql (qint (qfld sd0 0)) 7)then
 some [(D.bool (qiteB (qiteB (qiteB (qiteB (qiteB (qcmp BinOp.eql (qint (qfld sd0 1)) 0) (qcmp BinOp.eql (qint (qfld sd0 2)) 0) Bool.false) (qcmp BinOp.eql (qint (qfld sd0 5)) 0) Bool.false) (qcmp BinOp.eql (qint (qfld sd0 3)) (qint (qfld sd0 3))) Bool.false) (qcmp BinOp.eql (qint (qfld sd0 4)) (qint (qfld sd0 4))) Bool.false) (qcmp BinOp.eql (qlen (qfld sd0 7)) 0) Bool.false))]
 else
 bif (qcmp BinOp.eql (qint (qfld sd0 0)) 8)then
 bif (qiteB (qcmp BinOp.lss (qlen (qfld sd0 7)) 1) Bool.true (qcmp BinOp.gtr (qlen (qfld sd0 7)) 64))then
 some [(D.bool Bool.false)]
 else
 some [(D.bool (qiteB (qiteB (qiteB (qiteB (qiteB (qcmp BinOp.eql (qint (qfld sd0 1)) 0) (qcmp BinOp.eql (qint (qfld sd0 2)) 0) Bool.false) (qcmp BinOp.eql (qint (qfld sd0 5)) 0) Bool.false) (qcmp BinOp.eql (qint (qfld sd0 3)) 0) Bool.false) (qcmp BinOp.eql (qint (qfld sd0 4)) 0) Bool.false) (qcmp BinOp.eql (qlen (qfld sd0 7)) (qlen (qfld sd0 7))) Bool.false))]
 else
 some [(D.bool (qiteB (qiteB (qiteB (qiteB (qiteB (qcmp BinOp.eql (qint (qfld sd0 1)) 0) (qcmp BinOp.eql (qint (qfld sd0 2)) 0) Bool.false) (qcmp BinOp.eql (qint (qfld sd0 5)) 0) Bool.false) (qcmp BinOp.eql (qint (qfld sd0 3)) 0) Bool.false) (qcmp BinOp.eql (qint (qfld sd0 4)) 0) Bool.false) (qcmp BinOp.eql (qlen (qfld sd0 7)) 0) Bool.false))]:=by kernel_rfl
noncomputable def q94:List D→Option (List D):=veil (F94)
theorem q94_eq:q94=F94:=veil_eq _
noncomputable def tb94:Tb:=Tb.addF tb110 94 S94 (q94)
theorem ok_tb94:TbOk env (tb94):=addFunF ok_tb110 94 (by kernel_rfl) _ (q94_eq)
def S112:FunS:=⟨[⟨true,(.dat 57)⟩],[],[⟨true, .bool⟩],[]⟩
noncomputable def F112:List D→Option (List D):=liftX env tb94 60 12 112 S112
theorem F112_eq (sd0:D):F112 [sd0] =
 some [(D.bool (qiteB (qiteB (qiteB (qiteB (qiteB (qiteB (qiteB (qcmp BinOp.eql (qint (qfld sd0 0)) 1) Bool.true (qcmp BinOp.eql (qint (qfld sd0 0)) 3)) Bool.true (qcmp BinOp.eql (qint (qfld sd0 1)) 0)) (qiteB (qcmp BinOp.eql (qint (qfld sd0 0)) 2) Bool.true (qcmp BinOp.eql (qint (qfld sd0 2)) 0)) Bool.false) (qiteB (qiteB (qcmp BinOp.eql (qint (qfld sd0 0)) 6) Bool.true (qcmp BinOp.eql (qint (qfld sd0 0)) 7)) Bool.true (qcmp BinOp.eql (qint (qfld sd0 3)) 0)) Bool.false) (qiteB (qcmp BinOp.eql (qint (qfld sd0 0)) 7) Bool.true (qcmp BinOp.eql (qint (qfld sd0 4)) 0)) Bool.false) (qiteB (qcmp BinOp.eql (qint (qfld sd0 0)) 5) Bool.true (qcmp BinOp.eql (qint (qfld sd0 5)) 0)) Bool.false) (qiteB (qcmp BinOp.eql (qint (qfld sd0 0)) 8) Bool.true (qcmp BinOp.eql (qlen (qfld sd0 7)) 0)) Bool.false))]:=by kernel_rfl
noncomputable def q112:List D→Option (List D):=veil (F112)
theorem q112_eq:q112=F112:=veil_eq _
noncomputable def tb112:Tb:=Tb.addF tb94 112 S112 (q112)
theorem ok_tb112:TbOk env (tb112):=addFunF ok_tb94 112 (by kernel_rfl) _ (q112_eq)
end Go.Proofs.YtfdedgmlafelaaaGreatDoor
open Go Go.AM
namespace Go.Proofs.YtfdedgmlafelaaaGreatDoor
set_option maxRecDepth 100000
set_option linter.unusedSimpArgs false
set_option linter.unusedVariables false
def S98:FunS:=⟨[⟨true,(.dat 61)⟩,⟨true,(.int .i64)⟩],[],[⟨true, .bool⟩],[]⟩
noncomputable def tbR98 (Q:List D→Option (List D)):Tb:=Tb.addF tb112 98 S98 Q
theorem ok_tbR98 (Q:List D→Option (List D)) (hQ:SoundF env.P 98 S98 Q):TbOk env (tbR98 Q):=TbOk.addF ok_tb112 (by kernel_rfl) hQ
def S129:FunS:=⟨[⟨true,(.dat 61)⟩,⟨true,(.eptr [(.int .i64)])⟩],[],[⟨true, .bool⟩],[]⟩
noncomputable def F129 (Q:List D→Option (List D)):List D→Option (List D):=liftX env (tbR98 Q) 60 12 129 S129
theorem F129_eq (Q:List D→Option (List D)) (sd0:D) (sn1:Int):F129 Q [sd0,(D.int sn1)] =
 bif (qsome (Q [sd0,(D.int (qbin BinOp.sub IntKind.i64 sn1 1))]))then
 some [(D.bool (qnot (qbool (qnth (Q [sd0,(D.int (qbin BinOp.sub IntKind.i64 sn1 1))]) 0))))]
 else
 none:=by kernel_rfl
noncomputable def q129 (Q:List D→Option (List D)):List D→Option (List D):=veil (F129 Q)
theorem q129_eq (Q:List D→Option (List D)):q129 Q=F129 Q:=veil_eq _
noncomputable def tb129 (Q:List D→Option (List D)):Tb:=Tb.addF (tbR98 Q) 129 S129 (q129 Q)
theorem ok_tb129 (Q:List D→Option (List D)) (hQ:SoundF env.P 98 S98 Q):TbOk env (tb129 Q):=addFunF (ok_tbR98 Q hQ) 129 (by kernel_rfl) _ (q129_eq Q)
def S149_129_2:LoopS:=⟨0,[⟨false,(.rows 61)⟩,⟨false,(.func 129 [] [(.eptr [(.int .i64)])])⟩,uF,uF,⟨false,(.lit (.int .i64 0))⟩,uF,uF,⟨false,(.int .i64)⟩,⟨true,(.int .i64)⟩,uF,uF,uF,uF,uF,uF,uF,uF,uF,uF],[],[⟨0,0,[⟨false,(.rows 61)⟩,⟨false,(.func 129 [] [(.eptr [(.int .i64)])])⟩,uT,uT,⟨true,(.lit (.int .i64 0))⟩,uT,uT,⟨false,(.int .i64)⟩,uT,uT,uT,uT,uT,uT,uT,uT,uT,uT,uT],[]⟩,⟨1,0,[⟨false,(.rows 61)⟩,⟨false,(.func 129 [] [(.eptr [(.int .i64)])])⟩,uT,uT,⟨true,(.int .i64)⟩,uT,uT,⟨false,(.int .i64)⟩,uT,uT,uT,uT,uT,uT,uT,uT,uT,uT,uT],[]⟩]⟩
noncomputable def st149_129_2 (Q:List D→Option (List D)) (p s:List D):Option (Sum (List D) (List D)):=stepQX env (tb129 Q) 60 12 149 (loopC 149 2) S149_129_2 p s
theorem st149_129_2_eq (Q:List D→Option (List D)) (pd0:D) (pn1:Int) (pn2:Int) (sn0:Int):st149_129_2 Q [pd0,(D.int pn1),(D.int pn2)] [(D.int sn0)] =
 bif (qcmp BinOp.lss sn0 pn2)then
 bif (qinb pd0 sn0)then
 bif (qsome (q129 Q [(qget pd0 sn0),(D.int pn1)]))then
 bif (qbool (qnth (q129 Q [(qget pd0 sn0),(D.int pn1)]) 0))then
 some (Sum.inr [(D.int 1),(D.int sn0)])
 else
 some (Sum.inl [(D.int (qbin BinOp.add IntKind.i64 sn0 1))])
 else
 none
 else
 none
 else
 some (Sum.inr [(D.int 0)]):=by
 have h:st149_129_2 Q [pd0,(D.int pn1),(D.int pn2)] [(D.int sn0)] =
  bif (qcmp BinOp.lss sn0 pn2)then
  bif (qinb pd0 sn0)then
  bif (qsome (q129 Q [(qget pd0 sn0),(D.int pn1)]))then
  bif (qbool (qnth (q129 Q [(qget pd0 sn0),(D.int pn1)]) 0))then
  bif (qeqD pd0 pd0)then
  bif (qeqD (D.int pn1) (D.int pn1))then
  bif (qeqD (D.int pn2) (D.int pn2))then
  some (Sum.inr [(D.int 1),(D.int sn0)])
  else
  none
  else
  none
  else
  none
  else
  bif (qeqD pd0 pd0)then
  bif (qeqD (D.int pn1) (D.int pn1))then
  bif (qeqD (D.int pn2) (D.int pn2))then
  some (Sum.inl [(D.int (qbin BinOp.add IntKind.i64 sn0 1))])
  else
  none
  else
  none
  else
  none
  else
  none
  else
  none
  else
  bif (qeqD pd0 pd0)then
  bif (qeqD (D.int pn1) (D.int pn1))then
  bif (qeqD (D.int pn2) (D.int pn2))then
  some (Sum.inr [(D.int 0)])
  else
  none
  else
  none
  else
  none:=by kernel_rfl
 rw[h];simp only[qeqD_self,qeqI_self,qeq_len,show qcmp BinOp.eql 0 (qlen (D.list []))=true from qeq_len [],show∀a,qcmp BinOp.eql 1 (qlen (D.list [a]))=true from fun a=>qeq_len [a],show∀a b,qcmp BinOp.eql 2 (qlen (D.list [a,b]))=true from fun a b=>qeq_len [a,b],show∀a b c,qcmp BinOp.eql 3 (qlen (D.list [a,b,c]))=true from fun a b c=>qeq_len [a,b,c],show∀a b c d,qcmp BinOp.eql 4 (qlen (D.list [a,b,c,d]))=true from fun a b c d=>qeq_len [a,b,c,d],cond_true]
noncomputable def l149_129_2 (Q:List D→Option (List D)):List D→List D→Option (List D):=veil fun p s=>loW (st149_129_2 Q p) s
theorem l149_129_2_eq (Q:List D→Option (List D)):l149_129_2 Q=fun p s=>loW (st149_129_2 Q p) s:=veil_eq _
noncomputable def tbl149_129_2 (Q:List D→Option (List D)):Tb:=Tb.addL (tb129 Q) 149 2 S149_129_2.n0 (mkLp S149_129_2 (l149_129_2 Q))
theorem ok_tbl149_129_2 (Q:List D→Option (List D)) (hQ:SoundF env.P 98 S98 Q):TbOk env (tbl149_129_2 Q):=addLoopQ (ok_tb129 Q hQ) 149 2 (by kernel_rfl) _ (l149_129_2_eq Q)
def S149_129:FunS:=⟨[⟨true,(.rows 61)⟩,⟨true,(.func 129 [] [(.eptr [(.int .i64)])])⟩],[],[⟨true,(.int .i64)⟩],[]⟩
noncomputable def F149_129 (Q:List D→Option (List D)):List D→Option (List D):=liftX env (tbl149_129_2 Q) 60 12 149 S149_129
theorem F149_129_eq (Q:List D→Option (List D)) (sd0:D) (sn1:Int):F149_129 Q [sd0,(D.int sn1)] =
 bif (qsome (l149_129_2 Q [sd0,(D.int sn1),(D.int (qlen sd0))] [(D.int 0)]))then
 bif (qcmp BinOp.eql (qint (qnth (l149_129_2 Q [sd0,(D.int sn1),(D.int (qlen sd0))] [(D.int 0)]) 0)) 0)then
 some [(D.int (-1))]
 else
 some [(D.int (qint (qnth (l149_129_2 Q [sd0,(D.int sn1),(D.int (qlen sd0))] [(D.int 0)]) 1)))]
 else
 none:=by kernel_rfl
noncomputable def q149_129 (Q:List D→Option (List D)):List D→Option (List D):=veil (F149_129 Q)
theorem q149_129_eq (Q:List D→Option (List D)):q149_129 Q=F149_129 Q:=veil_eq _
noncomputable def tb149_129 (Q:List D→Option (List D)):Tb:=Tb.addF (tbl149_129_2 Q) 149 S149_129 (q149_129 Q)
theorem ok_tb149_129 (Q:List D→Option (List D)) (hQ:SoundF env.P 98 S98 Q):TbOk env (tb149_129 Q):=addFunF (ok_tbl149_129_2 Q hQ) 149 (by kernel_rfl) _ (q149_129_eq Q)
def S128_129:FunS:=⟨[⟨true,(.rows 61)⟩,⟨true,(.func 129 [] [(.eptr [(.int .i64)])])⟩],[],[⟨true, .bool⟩],[]⟩
noncomputable def F128_129 (Q:List D→Option (List D)):List D→Option (List D):=liftX env (tb149_129 Q) 60 12 128 S128_129
theorem F128_129_eq (Q:List D→Option (List D)) (sd0:D) (sn1:Int):F128_129 Q [sd0,(D.int sn1)] =
 bif (qsome (q149_129 Q [sd0,(D.int sn1)]))then
 some [(D.bool (qcmp BinOp.geq (qint (qnth (q149_129 Q [sd0,(D.int sn1)]) 0)) 0))]
 else
 none:=by kernel_rfl
noncomputable def q128_129 (Q:List D→Option (List D)):List D→Option (List D):=veil (F128_129 Q)
theorem q128_129_eq (Q:List D→Option (List D)):q128_129 Q=F128_129 Q:=veil_eq _
noncomputable def tb128_129 (Q:List D→Option (List D)):Tb:=Tb.addF (tb149_129 Q) 128 S128_129 (q128_129 Q)
theorem ok_tb128_129 (Q:List D→Option (List D)) (hQ:SoundF env.P 98 S98 Q):TbOk env (tb128_129 Q):=addFunF (ok_tb149_129 Q hQ) 128 (by kernel_rfl) _ (q128_129_eq Q)
noncomputable def Fb98 (Q:List D→Option (List D)):List D→Option (List D):=liftX env (tb128_129 Q) 60 12 98 S98
theorem Fb98_eq (Q:List D→Option (List D)) (sd0:D) (sn1:Int):Fb98 Q [sd0,(D.int sn1)] =
 bif (qiteB (qcmp BinOp.geq sn1 1) (qsome (q128_129 Q [(qfld sd0 4),(D.int sn1)])) Bool.true)then
 some [(D.bool (qiteB (qcmp BinOp.geq sn1 1) (qnot (qbool (qnth (q128_129 Q [(qfld sd0 4),(D.int sn1)]) 0))) Bool.false))]
 else
 none:=by kernel_rfl
noncomputable def F98:Nat→List D→Option (List D):=levels Fb98
theorem F98_s (n:Nat):F98 (n+1)=Fb98 (F98 n):=rfl
noncomputable def q98:List D→Option (List D):=veil fun ds=>F98 (fuelL ds) ds
theorem q98_eq:q98=fun ds=>F98 (fuelL ds) ds:=veil_eq _
theorem sound98:SoundF env.P 98 S98 q98:=recF (fun q=>tb128_129 q) (fun q hq=>ok_tb128_129 q hq) q98_eq
noncomputable def tb98:Tb:=Tb.addF tb112 98 S98 q98
theorem ok_tb98:TbOk env tb98:=TbOk.addF ok_tb112 (by kernel_rfl) sound98
end Go.Proofs.YtfdedgmlafelaaaGreatDoor
open Go Go.AM
namespace Go.Proofs.YtfdedgmlafelaaaGreatDoor
set_option maxRecDepth 100000
set_option linter.unusedSimpArgs false
set_option linter.unusedVariables false
def S99:FunS:=⟨[⟨true,(.dat 61)⟩],[],[⟨true, .bool⟩],[]⟩
noncomputable def tbR99 (Q:List D→Option (List D)):Tb:=Tb.addF tb98 99 S99 Q
theorem ok_tbR99 (Q:List D→Option (List D)) (hQ:SoundF env.P 99 S99 Q):TbOk env (tbR99 Q):=TbOk.addF ok_tb98 (by kernel_rfl) hQ
def S130:FunS:=⟨[⟨true,(.dat 61)⟩],[],[⟨true, .bool⟩],[]⟩
noncomputable def F130 (Q:List D→Option (List D)):List D→Option (List D):=liftX env (tbR99 Q) 60 12 130 S130
theorem F130_eq (Q:List D→Option (List D)) (sd0:D):F130 Q [sd0] =
 bif (qsome (Q [sd0]))then
 some [(D.bool (qnot (qbool (qnth (Q [sd0]) 0))))]
 else
 none:=by kernel_rfl
noncomputable def q130 (Q:List D→Option (List D)):List D→Option (List D):=veil (F130 Q)
theorem q130_eq (Q:List D→Option (List D)):q130 Q=F130 Q:=veil_eq _
noncomputable def tb130 (Q:List D→Option (List D)):Tb:=Tb.addF (tbR99 Q) 130 S130 (q130 Q)
theorem ok_tb130 (Q:List D→Option (List D)) (hQ:SoundF env.P 99 S99 Q):TbOk env (tb130 Q):=addFunF (ok_tbR99 Q hQ) 130 (by kernel_rfl) _ (q130_eq Q)
def S149_130_2:LoopS:=⟨0,[⟨false,(.rows 61)⟩,⟨false,(.func 130 [] [])⟩,uF,uF,⟨false,(.lit (.int .i64 0))⟩,uF,uF,⟨false,(.int .i64)⟩,⟨true,(.int .i64)⟩,uF,uF,uF,uF,uF,uF,uF,uF,uF,uF],[],[⟨0,0,[⟨false,(.rows 61)⟩,uT,uT,uT,⟨true,(.lit (.int .i64 0))⟩,uT,uT,⟨false,(.int .i64)⟩,uT,uT,uT,uT,uT,uT,uT,uT,uT,uT,uT],[]⟩,⟨1,0,[⟨false,(.rows 61)⟩,uT,uT,uT,⟨true,(.int .i64)⟩,uT,uT,⟨false,(.int .i64)⟩,uT,uT,uT,uT,uT,uT,uT,uT,uT,uT,uT],[]⟩]⟩
noncomputable def st149_130_2 (Q:List D→Option (List D)) (p s:List D):Option (Sum (List D) (List D)):=stepQX env (tb130 Q) 60 12 149 (loopC 149 2) S149_130_2 p s
theorem st149_130_2_eq (Q:List D→Option (List D)) (pd0:D) (pn1:Int) (sn0:Int):st149_130_2 Q [pd0,(D.int pn1)] [(D.int sn0)] =
 bif (qcmp BinOp.lss sn0 pn1)then
 bif (qinb pd0 sn0)then
 bif (qsome (q130 Q [(qget pd0 sn0)]))then
 bif (qbool (qnth (q130 Q [(qget pd0 sn0)]) 0))then
 some (Sum.inr [(D.int 1),(D.int sn0)])
 else
 some (Sum.inl [(D.int (qbin BinOp.add IntKind.i64 sn0 1))])
 else
 none
 else
 none
 else
 some (Sum.inr [(D.int 0)]):=by
 have h:st149_130_2 Q [pd0,(D.int pn1)] [(D.int sn0)] =
  bif (qcmp BinOp.lss sn0 pn1)then
  bif (qinb pd0 sn0)then
  bif (qsome (q130 Q [(qget pd0 sn0)]))then
  bif (qbool (qnth (q130 Q [(qget pd0 sn0)]) 0))then
  bif (qeqD pd0 pd0)then
  bif (qeqD (D.int pn1) (D.int pn1))then
  some (Sum.inr [(D.int 1),(D.int sn0)])
  else
  none
  else
  none
  else
  bif (qeqD pd0 pd0)then
  bif (qeqD (D.int pn1) (D.int pn1))then
  some (Sum.inl [(D.int (qbin BinOp.add IntKind.i64 sn0 1))])
  else
  none
  else
  none
  else
  none
  else
  none
  else
  bif (qeqD pd0 pd0)then
  bif (qeqD (D.int pn1) (D.int pn1))then
  some (Sum.inr [(D.int 0)])
  else
  none
  else
  none:=by kernel_rfl
 rw[h];simp only[qeqD_self,qeqI_self,qeq_len,show qcmp BinOp.eql 0 (qlen (D.list []))=true from qeq_len [],show∀a,qcmp BinOp.eql 1 (qlen (D.list [a]))=true from fun a=>qeq_len [a],show∀a b,qcmp BinOp.eql 2 (qlen (D.list [a,b]))=true from fun a b=>qeq_len [a,b],show∀a b c,qcmp BinOp.eql 3 (qlen (D.list [a,b,c]))=true from fun a b c=>qeq_len [a,b,c],show∀a b c d,qcmp BinOp.eql 4 (qlen (D.list [a,b,c,d]))=true from fun a b c d=>qeq_len [a,b,c,d],cond_true]
noncomputable def l149_130_2 (Q:List D→Option (List D)):List D→List D→Option (List D):=veil fun p s=>loW (st149_130_2 Q p) s
theorem l149_130_2_eq (Q:List D→Option (List D)):l149_130_2 Q=fun p s=>loW (st149_130_2 Q p) s:=veil_eq _
noncomputable def tbl149_130_2 (Q:List D→Option (List D)):Tb:=Tb.addL (tb130 Q) 149 2 S149_130_2.n0 (mkLp S149_130_2 (l149_130_2 Q))
theorem ok_tbl149_130_2 (Q:List D→Option (List D)) (hQ:SoundF env.P 99 S99 Q):TbOk env (tbl149_130_2 Q):=addLoopQ (ok_tb130 Q hQ) 149 2 (by kernel_rfl) _ (l149_130_2_eq Q)
def S149_130:FunS:=⟨[⟨true,(.rows 61)⟩,⟨true,(.func 130 [] [])⟩],[],[⟨true,(.int .i64)⟩],[]⟩
noncomputable def F149_130 (Q:List D→Option (List D)):List D→Option (List D):=liftX env (tbl149_130_2 Q) 60 12 149 S149_130
theorem F149_130_eq (Q:List D→Option (List D)) (sd0:D):F149_130 Q [sd0] =
 bif (qsome (l149_130_2 Q [sd0,(D.int (qlen sd0))] [(D.int 0)]))then
 bif (qcmp BinOp.eql (qint (qnth (l149_130_2 Q [sd0,(D.int (qlen sd0))] [(D.int 0)]) 0)) 0)then
 some [(D.int (-1))]
 else
 some [(D.int (qint (qnth (l149_130_2 Q [sd0,(D.int (qlen sd0))] [(D.int 0)]) 1)))]
 else
 none:=by kernel_rfl
noncomputable def q149_130 (Q:List D→Option (List D)):List D→Option (List D):=veil (F149_130 Q)
theorem q149_130_eq (Q:List D→Option (List D)):q149_130 Q=F149_130 Q:=veil_eq _
noncomputable def tb149_130 (Q:List D→Option (List D)):Tb:=Tb.addF (tbl149_130_2 Q) 149 S149_130 (q149_130 Q)
theorem ok_tb149_130 (Q:List D→Option (List D)) (hQ:SoundF env.P 99 S99 Q):TbOk env (tb149_130 Q):=addFunF (ok_tbl149_130_2 Q hQ) 149 (by kernel_rfl) _ (q149_130_eq Q)
def S128_130:FunS:=⟨[⟨true,(.rows 61)⟩,⟨true,(.func 130 [] [])⟩],[],[⟨true, .bool⟩],[]⟩
noncomputable def F128_130 (Q:List D→Option (List D)):List D→Option (List D):=liftX env (tb149_130 Q) 60 12 128 S128_130
theorem F128_130_eq (Q:List D→Option (List D)) (sd0:D):F128_130 Q [sd0] =
 bif (qsome (q149_130 Q [sd0]))then
 some [(D.bool (qcmp BinOp.geq (qint (qnth (q149_130 Q [sd0]) 0)) 0))]
 else
 none:=by kernel_rfl
noncomputable def q128_130 (Q:List D→Option (List D)):List D→Option (List D):=veil (F128_130 Q)
theorem q128_130_eq (Q:List D→Option (List D)):q128_130 Q=F128_130 Q:=veil_eq _
noncomputable def tb128_130 (Q:List D→Option (List D)):Tb:=Tb.addF (tb149_130 Q) 128 S128_130 (q128_130 Q)
theorem ok_tb128_130 (Q:List D→Option (List D)) (hQ:SoundF env.P 99 S99 Q):TbOk env (tb128_130 Q):=addFunF (ok_tb149_130 Q hQ) 128 (by kernel_rfl) _ (q128_130_eq Q)
noncomputable def Fb99 (Q:List D→Option (List D)):List D→Option (List D):=liftX env (tb128_130 Q) 60 12 99 S99
theorem Fb99_eq (Q:List D→Option (List D)) (sd0:D):Fb99 Q [sd0] =
 bif (qcmp BinOp.eql (qint (qfld sd0 0)) 1)then
 bif (qiteB (qiteB (qiteB (qiteB (qcmp BinOp.eql (qint (qfld sd0 1)) (qint (qfld sd0 1))) (qcmp BinOp.eql (qint (qfld sd0 2)) 0) Bool.false) (qcmp BinOp.eql (qint (qfld sd0 3)) 0) Bool.false) (qcmp BinOp.eql (qlen (qfld sd0 4)) 0) Bool.false) (qsome (q128_130 Q [(qfld sd0 4)])) Bool.true)then
 some [(D.bool (qiteB (qiteB (qiteB (qiteB (qcmp BinOp.eql (qint (qfld sd0 1)) (qint (qfld sd0 1))) (qcmp BinOp.eql (qint (qfld sd0 2)) 0) Bool.false) (qcmp BinOp.eql (qint (qfld sd0 3)) 0) Bool.false) (qcmp BinOp.eql (qlen (qfld sd0 4)) 0) Bool.false) (qnot (qbool (qnth (q128_130 Q [(qfld sd0 4)]) 0))) Bool.false))]
 else
 none
 else
 bif (qiteB (qcmp BinOp.eql (qint (qfld sd0 0)) 2) (qsome (q123 [(D.int (qint (qfld sd0 2)))])) Bool.true)then
 bif (qiteB (qcmp BinOp.eql (qint (qfld sd0 0)) 2) (qbool (qnth (q123 [(D.int (qint (qfld sd0 2)))]) 0)) Bool.false)then
 bif (qiteB (qiteB (qiteB (qiteB (qcmp BinOp.eql (qint (qfld sd0 1)) 0) (qcmp BinOp.eql (qint (qfld sd0 2)) (qint (qfld sd0 2))) Bool.false) (qcmp BinOp.eql (qint (qfld sd0 3)) 0) Bool.false) (qcmp BinOp.eql (qlen (qfld sd0 4)) 0) Bool.false) (qsome (q128_130 Q [(qfld sd0 4)])) Bool.true)then
 some [(D.bool (qiteB (qiteB (qiteB (qiteB (qcmp BinOp.eql (qint (qfld sd0 1)) 0) (qcmp BinOp.eql (qint (qfld sd0 2)) (qint (qfld sd0 2))) Bool.false) (qcmp BinOp.eql (qint (qfld sd0 3)) 0) Bool.false) (qcmp BinOp.eql (qlen (qfld sd0 4)) 0) Bool.false) (qnot (qbool (qnth (q128_130 Q [(qfld sd0 4)]) 0))) Bool.false))]
 else
 none
 else
 bif (qiteB (qcmp BinOp.geq (qint (qfld sd0 0)) 3) (qcmp BinOp.leq (qint (qfld sd0 0)) 15) Bool.false)then
 bif (qiteB (qiteB (qiteB (qiteB (qcmp BinOp.eql (qint (qfld sd0 1)) 0) (qcmp BinOp.eql (qint (qfld sd0 2)) 0) Bool.false) (qcmp BinOp.eql (qint (qfld sd0 3)) 0) Bool.false) (qcmp BinOp.eql (qlen (qfld sd0 4)) 2) Bool.false) (qsome (q128_130 Q [(qfld sd0 4)])) Bool.true)then
 some [(D.bool (qiteB (qiteB (qiteB (qiteB (qcmp BinOp.eql (qint (qfld sd0 1)) 0) (qcmp BinOp.eql (qint (qfld sd0 2)) 0) Bool.false) (qcmp BinOp.eql (qint (qfld sd0 3)) 0) Bool.false) (qcmp BinOp.eql (qlen (qfld sd0 4)) 2) Bool.false) (qnot (qbool (qnth (q128_130 Q [(qfld sd0 4)]) 0))) Bool.false))]
 else
 none
 else
 bif (qiteB (qcmp BinOp.eql (qint (qfld sd0 0)) 16) (qcmp BinOp.eql (qint (qfld sd0 0)) 16) (qcmp BinOp.eql (qint (qfld sd0 0)) 17))then
 bif (qiteB (qiteB (qiteB (qiteB (qcmp BinOp.eql (qint (qfld sd0 1)) 0) (qcmp BinOp.eql (qint (qfld sd0 2)) 0) Bool.false) (qcmp BinOp.eql (qint (qfld sd0 3)) 0) Bool.false) (qcmp BinOp.eql (qlen (qfld sd0 4)) 1) Bool.false) (qsome (q128_130 Q [(qfld sd0 4)])) Bool.true)then
 some [(D.bool (qiteB (qiteB (qiteB (qiteB (qcmp BinOp.eql (qint (qfld sd0 1)) 0) (qcmp BinOp.eql (qint (qfld sd0 2)) 0) Bool.false) (qcmp BinOp.eql (qint (qfld sd0 3)) 0) Bool.false) (qcmp BinOp.eql (qlen (qfld sd0 4)) 1) Bool.false) (qnot (qbool (qnth (q128_130 Q [(qfld sd0 4)]) 0))) Bool.false))]
 else
 none
 else
 bif (qiteB (qcmp BinOp.eql (qint (qfld sd0 0)) 18) (qsome (q124 [(D.int (qint (qfld sd0 3)))])) Bool.true)then
 bif (qiteB (qiteB (qcmp BinOp.eql (qint (qfld sd0 0)) 18) (qbool (qnth (q124 [(D.int (qint (qfld sd0 3)))]) 0)) Bool.false) (qiteB (qcmp BinOp.eql (qint (qfld sd0 0)) 18) (qbool (qnth (q124 [(D.int (qint (qfld sd0 3)))]) 0)) Bool.false) (qiteB (qcmp BinOp.eql (qint (qfld sd0 0)) 19) (qiteB (qcmp BinOp.eql (qint (qfld sd0 3)) 1) Bool.true (qcmp BinOp.eql (qint (qfld sd0 3)) 2)) Bool.false))then
 bif (qiteB (qiteB (qiteB (qiteB (qcmp BinOp.eql (qint (qfld sd0 1)) 0) (qcmp BinOp.eql (qint (qfld sd0 2)) 0) Bool.false) (qcmp BinOp.eql (qint (qfld sd0 3)) (qint (qfld sd0 3))) Bool.false) (qcmp BinOp.eql (qlen (qfld sd0 4)) 1) Bool.false) (qsome (q128_130 Q [(qfld sd0 4)])) Bool.true)then
 some [(D.bool (qiteB (qiteB (qiteB (qiteB (qcmp BinOp.eql (qint (qfld sd0 1)) 0) (qcmp BinOp.eql (qint (qfld sd0 2)) 0) Bool.false) (qcmp BinOp.eql (qint (qfld sd0 3)) (qint (qfld sd0 3))) Bool.false) (qcmp BinOp.eql (qlen (qfld sd0 4)) 1) Bool.false) (qnot (qbool (qnth (q128_130 Q [(qfld sd0 4)]) 0))) Bool.false))]
 else
 none
 else
 some [(D.bool Bool.false)]
 else
 none
 else
 none:=by kernel_rfl
noncomputable def F99:Nat→List D→Option (List D):=levels Fb99
theorem F99_s (n:Nat):F99 (n+1)=Fb99 (F99 n):=rfl
noncomputable def q99:List D→Option (List D):=veil fun ds=>F99 (fuelL ds) ds
theorem q99_eq:q99=fun ds=>F99 (fuelL ds) ds:=veil_eq _
theorem sound99:SoundF env.P 99 S99 q99:=recF (fun q=>tb128_130 q) (fun q hq=>ok_tb128_130 q hq) q99_eq
noncomputable def tb99:Tb:=Tb.addF tb98 99 S99 q99
theorem ok_tb99:TbOk env tb99:=TbOk.addF ok_tb98 (by kernel_rfl) sound99
end Go.Proofs.YtfdedgmlafelaaaGreatDoor
open Go Go.AM
namespace Go.Proofs.YtfdedgmlafelaaaGreatDoor
set_option maxRecDepth 100000
set_option linter.unusedSimpArgs false
set_option linter.unusedVariables false
def S144:FunS:=⟨[⟨true,(.dat 61)⟩,⟨true,(.int .i64)⟩],[],[⟨true, .bool⟩],[]⟩
noncomputable def tbR144 (Q:List D→Option (List D)):Tb:=Tb.addF tb99 144 S144 Q
theorem ok_tbR144 (Q:List D→Option (List D)) (hQ:SoundF env.P 144 S144 Q):TbOk env (tbR144 Q):=TbOk.addF ok_tb99 (by kernel_rfl) hQ
def S144_4:LoopS:=⟨0,[uF,⟨false,(.int .i64)⟩,⟨false,(.ptr 0 0)⟩,uF,⟨false,(.lit (.bool false))⟩,⟨true,(.int .i64)⟩,uF,uF,uF,uF,uF,uF,uF,uF,uF,uF,uF,uF,uF,uF,uF,uF,uF],[(.dat false 61)],[⟨0,0,[uT,⟨false,(.int .i64)⟩,uT,uT,⟨true,(.lit (.bool false))⟩,uT,uT,uT,uT,uT,uT,uT,uT,uT,uT,uT,uT,uT,uT,uT,uT,uT,uT],[(.dat false 61)]⟩,⟨1,0,[uT,⟨false,(.int .i64)⟩,uT,uT,⟨true,(.lit (.bool true))⟩,uT,uT,uT,uT,uT,uT,uT,uT,uT,uT,uT,uT,uT,uT,uT,uT,uT,uT],[(.dat false 61)]⟩]⟩
noncomputable def st144_4 (Q:List D→Option (List D)) (p s:List D):Option (Sum (List D) (List D)):=stepQX env (tbR144 Q) 60 12 144 (loopC 144 4) S144_4 p s
theorem st144_4_eq (Q:List D→Option (List D)) (pn0:Int) (pd1:D) (sn0:Int):st144_4 Q [(D.int pn0),pd1] [(D.int sn0)] =
 bif (qcmp BinOp.lss sn0 (qlen (qfld pd1 4)))then
 bif (qinb (qfld pd1 4) sn0)then
 bif (qsome (Q [(qget (qfld pd1 4) sn0),(D.int (qbin BinOp.sub IntKind.i64 pn0 1))]))then
 bif (qbool (qnth (Q [(qget (qfld pd1 4) sn0),(D.int (qbin BinOp.sub IntKind.i64 pn0 1))]) 0))then
 some (Sum.inr [(D.int 1)])
 else
 some (Sum.inl [(D.int (qbin BinOp.add IntKind.i64 sn0 1))])
 else
 none
 else
 none
 else
 some (Sum.inr [(D.int 0)]):=by
 have h:st144_4 Q [(D.int pn0),pd1] [(D.int sn0)] =
  bif (qcmp BinOp.lss sn0 (qlen (qfld pd1 4)))then
  bif (qinb (qfld pd1 4) sn0)then
  bif (qsome (Q [(qget (qfld pd1 4) sn0),(D.int (qbin BinOp.sub IntKind.i64 pn0 1))]))then
  bif (qbool (qnth (Q [(qget (qfld pd1 4) sn0),(D.int (qbin BinOp.sub IntKind.i64 pn0 1))]) 0))then
  bif (qeqD (D.int pn0) (D.int pn0))then
  bif (qeqD pd1 pd1)then
  some (Sum.inr [(D.int 1)])
  else
  none
  else
  none
  else
  bif (qeqD (D.int pn0) (D.int pn0))then
  bif (qeqD pd1 pd1)then
  some (Sum.inl [(D.int (qbin BinOp.add IntKind.i64 sn0 1))])
  else
  none
  else
  none
  else
  none
  else
  none
  else
  bif (qeqD (D.int pn0) (D.int pn0))then
  bif (qeqD pd1 pd1)then
  some (Sum.inr [(D.int 0)])
  else
  none
  else
  none:=by kernel_rfl
 rw[h];simp only[qeqD_self,qeqI_self,qeq_len,show qcmp BinOp.eql 0 (qlen (D.list []))=true from qeq_len [],show∀a,qcmp BinOp.eql 1 (qlen (D.list [a]))=true from fun a=>qeq_len [a],show∀a b,qcmp BinOp.eql 2 (qlen (D.list [a,b]))=true from fun a b=>qeq_len [a,b],show∀a b c,qcmp BinOp.eql 3 (qlen (D.list [a,b,c]))=true from fun a b c=>qeq_len [a,b,c],show∀a b c d,qcmp BinOp.eql 4 (qlen (D.list [a,b,c,d]))=true from fun a b c d=>qeq_len [a,b,c,d],cond_true]
noncomputable def l144_4 (Q:List D→Option (List D)):List D→List D→Option (List D):=veil fun p s=>loW (st144_4 Q p) s
theorem l144_4_eq (Q:List D→Option (List D)):l144_4 Q=fun p s=>loW (st144_4 Q p) s:=veil_eq _
noncomputable def tbl144_4 (Q:List D→Option (List D)):Tb:=Tb.addL (tbR144 Q) 144 4 S144_4.n0 (mkLp S144_4 (l144_4 Q))
theorem ok_tbl144_4 (Q:List D→Option (List D)) (hQ:SoundF env.P 144 S144 Q):TbOk env (tbl144_4 Q):=addLoopQ (ok_tbR144 Q hQ) 144 4 (by kernel_rfl) _ (l144_4_eq Q)
noncomputable def Fb144 (Q:List D→Option (List D)):List D→Option (List D):=liftX env (tbl144_4 Q) 60 12 144 S144
theorem Fb144_eq (Q:List D→Option (List D)) (sd0:D) (sn1:Int):Fb144 Q [sd0,(D.int sn1)] =
 bif (qcmp BinOp.lss sn1 1)then
 some [(D.bool Bool.true)]
 else
 bif (qsome (l144_4 Q [(D.int sn1),sd0] [(D.int 0)]))then
 bif (qcmp BinOp.eql (qint (qnth (l144_4 Q [(D.int sn1),sd0] [(D.int 0)]) 0)) 0)then
 some [(D.bool Bool.false)]
 else
 some [(D.bool Bool.true)]
 else
 none:=by kernel_rfl
noncomputable def F144:Nat→List D→Option (List D):=levels Fb144
theorem F144_s (n:Nat):F144 (n+1)=Fb144 (F144 n):=rfl
noncomputable def q144:List D→Option (List D):=veil fun ds=>F144 (fuelL ds) ds
theorem q144_eq:q144=fun ds=>F144 (fuelL ds) ds:=veil_eq _
theorem sound144:SoundF env.P 144 S144 q144:=recF (fun q=>tbl144_4 q) (fun q hq=>ok_tbl144_4 q hq) q144_eq
noncomputable def tb144:Tb:=Tb.addF tb99 144 S144 q144
theorem ok_tb144:TbOk env tb144:=TbOk.addF ok_tb99 (by kernel_rfl) sound144
def S145:FunS:=⟨[⟨true,(.dat 61)⟩],[],[⟨true, .bool⟩],[]⟩
noncomputable def tbR145 (Q:List D→Option (List D)):Tb:=Tb.addF tb144 145 S145 Q
theorem ok_tbR145 (Q:List D→Option (List D)) (hQ:SoundF env.P 145 S145 Q):TbOk env (tbR145 Q):=TbOk.addF ok_tb144 (by kernel_rfl) hQ
def S145_2:LoopS:=⟨0,[uF,⟨false,(.ptr 0 0)⟩,⟨false,(.lit (.bool false))⟩,⟨true,(.int .i64)⟩,uF,uF,uF,uF,uF,uF,uF,uF,uF,uF,uF,uF,uF,uF,uF,uF,uF,uF,uF,uF,uF,uF,uF,uF,uF,uF,uF,uF,uF,uF,uF,uF,uF,uF,uF,uF,uF,uF,uF,uF,uF,uF,uF,uF,uF,uF,uF,uF,uF,uF,uF,uF,uF,uF,uF,uF,uF,uF,uF,uF,uF,uF,uF,uF,uF,uF,uF,uF,uF,uF,uF,uF,uF,uF,uF,uF,uF,uF,uF,uF,uF,uF,uF,uF,uF,uF,uF,uF,uF,uF,uF,uF,uF,uF,uF,uF,uF,uF,uF,uF,uF,uF,uF,uF,uF,uF,uF,uF,uF,uF,uF,uF,uF,uF,uF,uF,uF,uF,uF,uF,uF,uF,uF,uF,uF,uF,uF,uF,uF,uF,uF,uF,uF,uF,uF,uF,uF,uF,uF,uF,uF,uF,uF,uF,uF,uF,uF,uF,uF,uF,uF,uF,uF,uF,uF,uF,uF,uF,uF,uF,uF],[(.dat false 61)],[⟨0,0,[uT,⟨true,(.ptr 0 0)⟩,⟨true,(.lit (.bool false))⟩,uT,uT,uT,uT,uT,uT,uT,uT,uT,uT,uT,uT,uT,uT,uT,uT,uT,uT,uT,uT,uT,uT,uT,uT,uT,uT,uT,uT,uT,uT,uT,uT,uT,uT,uT,uT,uT,uT,uT,uT,uT,uT,uT,uT,uT,uT,uT,uT,uT,uT,uT,uT,uT,uT,uT,uT,uT,uT,uT,uT,uT,uT,uT,uT,uT,uT,uT,uT,uT,uT,uT,uT,uT,uT,uT,uT,uT,uT,uT,uT,uT,uT,uT,uT,uT,uT,uT,uT,uT,uT,uT,uT,uT,uT,uT,uT,uT,uT,uT,uT,uT,uT,uT,uT,uT,uT,uT,uT,uT,uT,uT,uT,uT,uT,uT,uT,uT,uT,uT,uT,uT,uT,uT,uT,uT,uT,uT,uT,uT,uT,uT,uT,uT,uT,uT,uT,uT,uT,uT,uT,uT,uT,uT,uT,uT,uT,uT,uT,uT,uT,uT,uT,uT,uT,uT,uT,uT,uT,uT,uT,uT,uT],[(.dat false 61)]⟩,⟨1,0,[uT,uT,⟨true,(.lit (.bool false))⟩,uT,uT,uT,uT,uT,uT,uT,uT,uT,uT,uT,uT,uT,uT,uT,uT,uT,uT,uT,uT,uT,uT,uT,uT,uT,uT,uT,uT,uT,uT,uT,uT,uT,uT,uT,uT,uT,uT,uT,uT,uT,uT,uT,uT,uT,uT,uT,uT,uT,uT,uT,uT,uT,uT,uT,uT,uT,uT,uT,uT,uT,uT,uT,uT,uT,uT,uT,uT,uT,uT,uT,uT,uT,uT,uT,uT,uT,uT,uT,uT,uT,uT,uT,uT,uT,uT,uT,uT,uT,uT,uT,uT,uT,uT,uT,uT,uT,uT,uT,uT,uT,uT,uT,uT,uT,uT,uT,uT,uT,uT,uT,uT,uT,uT,uT,uT,uT,uT,uT,uT,uT,uT,uT,uT,uT,uT,uT,uT,uT,uT,uT,uT,uT,uT,uT,uT,uT,uT,uT,uT,uT,uT,uT,uT,uT,uT,uT,uT,uT,uT,uT,uT,uT,uT,uT,uT,uT,uT,uT,uT,uT,uT],[(.dat false 61)]⟩]⟩
noncomputable def st145_2 (Q:List D→Option (List D)) (p s:List D):Option (Sum (List D) (List D)):=stepQX env (tbR145 Q) 60 12 145 (loopC 145 2) S145_2 p s
theorem st145_2_eq (Q:List D→Option (List D)) (pd0:D) (sn0:Int):st145_2 Q [pd0] [(D.int sn0)] =
 bif (qcmp BinOp.lss sn0 (qlen (qfld pd0 4)))then
 bif (qinb (qfld pd0 4) sn0)then
 bif (qsome (Q [(qget (qfld pd0 4) sn0)]))then
 bif (qnot (qbool (qnth (Q [(qget (qfld pd0 4) sn0)]) 0)))then
 some (Sum.inr [(D.int 1)])
 else
 some (Sum.inl [(D.int (qbin BinOp.add IntKind.i64 sn0 1))])
 else
 none
 else
 none
 else
 some (Sum.inr [(D.int 0)]):=by
 have h:st145_2 Q [pd0] [(D.int sn0)] =
  bif (qcmp BinOp.lss sn0 (qlen (qfld pd0 4)))then
  bif (qinb (qfld pd0 4) sn0)then
  bif (qsome (Q [(qget (qfld pd0 4) sn0)]))then
  bif (qnot (qbool (qnth (Q [(qget (qfld pd0 4) sn0)]) 0)))then
  bif (qeqD pd0 pd0)then
  some (Sum.inr [(D.int 1)])
  else
  none
  else
  bif (qeqD pd0 pd0)then
  some (Sum.inl [(D.int (qbin BinOp.add IntKind.i64 sn0 1))])
  else
  none
  else
  none
  else
  none
  else
  bif (qeqD pd0 pd0)then
  some (Sum.inr [(D.int 0)])
  else
  none:=by kernel_rfl
 rw[h];simp only[qeqD_self,qeqI_self,qeq_len,show qcmp BinOp.eql 0 (qlen (D.list []))=true from qeq_len [],show∀a,qcmp BinOp.eql 1 (qlen (D.list [a]))=true from fun a=>qeq_len [a],show∀a b,qcmp BinOp.eql 2 (qlen (D.list [a,b]))=true from fun a b=>qeq_len [a,b],show∀a b c,qcmp BinOp.eql 3 (qlen (D.list [a,b,c]))=true from fun a b c=>qeq_len [a,b,c],show∀a b c d,qcmp BinOp.eql 4 (qlen (D.list [a,b,c,d]))=true from fun a b c d=>qeq_len [a,b,c,d],cond_true]
noncomputable def l145_2 (Q:List D→Option (List D)):List D→List D→Option (List D):=veil fun p s=>loW (st145_2 Q p) s
theorem l145_2_eq (Q:List D→Option (List D)):l145_2 Q=fun p s=>loW (st145_2 Q p) s:=veil_eq _
noncomputable def tbl145_2 (Q:List D→Option (List D)):Tb:=Tb.addL (tbR145 Q) 145 2 S145_2.n0 (mkLp S145_2 (l145_2 Q))
theorem ok_tbl145_2 (Q:List D→Option (List D)) (hQ:SoundF env.P 145 S145 Q):TbOk env (tbl145_2 Q):=addLoopQ (ok_tbR145 Q hQ) 145 2 (by kernel_rfl) _ (l145_2_eq Q)
noncomputable def Fb145 (Q:List D→Option (List D)):List D→Option (List D):=liftX env (tbl145_2 Q) 60 12 145 S145
theorem Fb145_eq (Q:List D→Option (List D)) (sd0:D):Fb145 Q [sd0] =
 bif (qsome (l145_2 Q [sd0] [(D.int 0)]))then
 bif (qcmp BinOp.eql (qint (qnth (l145_2 Q [sd0] [(D.int 0)]) 0)) 0)then
 bif (qcmp BinOp.eql (qint (qfld sd0 0)) 1)then
 some [(D.bool (qiteB (qiteB (qcmp BinOp.eql (qint (qfld sd0 2)) 0) (qcmp BinOp.eql (qint (qfld sd0 3)) 0) Bool.false) (qcmp BinOp.eql (qlen (qfld sd0 4)) 0) Bool.false))]
 else
 bif (qcmp BinOp.eql (qint (qfld sd0 0)) 2)then
 bif (qiteB (qiteB (qiteB (qcmp BinOp.eql (qint (qfld sd0 1)) 0) (qcmp BinOp.eql (qint (qfld sd0 3)) 0) Bool.false) (qcmp BinOp.eql (qlen (qfld sd0 4)) 0) Bool.false) (qsome (q113 [(D.int (qint (qfld sd0 2)))])) Bool.true)then
 some [(D.bool (qiteB (qiteB (qiteB (qcmp BinOp.eql (qint (qfld sd0 1)) 0) (qcmp BinOp.eql (qint (qfld sd0 3)) 0) Bool.false) (qcmp BinOp.eql (qlen (qfld sd0 4)) 0) Bool.false) (qbool (qnth (q113 [(D.int (qint (qfld sd0 2)))]) 0)) Bool.false))]
 else
 none
 else
 bif (qiteB (qcmp BinOp.eql (qint (qfld sd0 0)) 16) (qcmp BinOp.eql (qint (qfld sd0 0)) 16) (qcmp BinOp.eql (qint (qfld sd0 0)) 17))then
 some [(D.bool (qiteB (qiteB (qiteB (qcmp BinOp.eql (qint (qfld sd0 1)) 0) (qcmp BinOp.eql (qint (qfld sd0 2)) 0) Bool.false) (qcmp BinOp.eql (qint (qfld sd0 3)) 0) Bool.false) (qcmp BinOp.eql (qlen (qfld sd0 4)) 1) Bool.false))]
 else
 bif (qcmp BinOp.eql (qint (qfld sd0 0)) 18)then
 some [(D.bool (qiteB (qiteB (qiteB (qcmp BinOp.eql (qint (qfld sd0 1)) 0) (qcmp BinOp.eql (qint (qfld sd0 2)) 0) Bool.false) (qiteB (qiteB (qcmp BinOp.eql (qint (qfld sd0 3)) 1) Bool.true (qcmp BinOp.eql (qint (qfld sd0 3)) 2)) Bool.true (qcmp BinOp.eql (qint (qfld sd0 3)) 4)) Bool.false) (qcmp BinOp.eql (qlen (qfld sd0 4)) 1) Bool.false))]
 else
 bif (qcmp BinOp.eql (qint (qfld sd0 0)) 19)then
 some [(D.bool (qiteB (qiteB (qiteB (qcmp BinOp.eql (qint (qfld sd0 1)) 0) (qcmp BinOp.eql (qint (qfld sd0 2)) 0) Bool.false) (qiteB (qcmp BinOp.eql (qint (qfld sd0 3)) 1) Bool.true (qcmp BinOp.eql (qint (qfld sd0 3)) 2)) Bool.false) (qcmp BinOp.eql (qlen (qfld sd0 4)) 1) Bool.false))]
 else
 some [(D.bool (qiteB (qiteB (qiteB (qiteB (qiteB (qcmp BinOp.geq (qint (qfld sd0 0)) 3) (qcmp BinOp.leq (qint (qfld sd0 0)) 15) Bool.false) (qcmp BinOp.eql (qint (qfld sd0 1)) 0) Bool.false) (qcmp BinOp.eql (qint (qfld sd0 2)) 0) Bool.false) (qcmp BinOp.eql (qint (qfld sd0 3)) 0) Bool.false) (qcmp BinOp.eql (qlen (qfld sd0 4)) 2) Bool.false))]
 else
 some [(D.bool Bool.false)]
 else
 none:=by kernel_rfl
noncomputable def F145:Nat→List D→Option (List D):=levels Fb145
theorem F145_s (n:Nat):F145 (n+1)=Fb145 (F145 n):=rfl
noncomputable def q145:List D→Option (List D):=veil fun ds=>F145 (fuelL ds) ds
theorem q145_eq:q145=fun ds=>F145 (fuelL ds) ds:=veil_eq _
theorem sound145:SoundF env.P 145 S145 q145:=recF (fun q=>tbl145_2 q) (fun q hq=>ok_tbl145_2 q hq) q145_eq
noncomputable def tb145:Tb:=Tb.addF tb144 145 S145 q145
theorem ok_tb145:TbOk env tb145:=TbOk.addF ok_tb144 (by kernel_rfl) sound145
def S59:FunS:=⟨[⟨true,(.dat 61)⟩],[],[⟨true,(.int .i64)⟩],[]⟩
noncomputable def F59:List D→Option (List D):=liftX env tb145 60 12 59 S59
theorem F59_eq (sd0:D):F59 [sd0] =
 bif (qsome (q98 [sd0,(D.int 64)]))then
 bif (qnot (qbool (qnth (q98 [sd0,(D.int 64)]) 0)))then
 some [(D.int 20)]
 else
 bif (qsome (q99 [sd0]))then
 bif (qnot (qbool (qnth (q99 [sd0]) 0)))then
 some [(D.int 2)]
 else
 some [(D.int 0)]
 else
 none
 else
 none:=by kernel_rfl
noncomputable def q59:List D→Option (List D):=veil (F59)
theorem q59_eq:q59=F59:=veil_eq _
noncomputable def tb59:Tb:=Tb.addF tb145 59 S59 (q59)
theorem ok_tb59:TbOk env (tb59):=addFunF ok_tb145 59 (by kernel_rfl) _ (q59_eq)
def S111:FunS:=⟨[⟨true,(.dat 61)⟩],[],[⟨true,(.int .i64)⟩],[]⟩
noncomputable def F111:List D→Option (List D):=liftX env tb59 60 12 111 S111
theorem F111_eq (sd0:D):F111 [sd0] =
 bif (qsome (q144 [sd0,(D.int 64)]))then
 bif (qbool (qnth (q144 [sd0,(D.int 64)]) 0))then
 some [(D.int 20)]
 else
 bif (qsome (q145 [sd0]))then
 bif (qnot (qbool (qnth (q145 [sd0]) 0)))then
 some [(D.int 2)]
 else
 some [(D.int 0)]
 else
 none
 else
 none:=by kernel_rfl
noncomputable def q111:List D→Option (List D):=veil (F111)
theorem q111_eq:q111=F111:=veil_eq _
noncomputable def tb111:Tb:=Tb.addF tb59 111 S111 (q111)
theorem ok_tb111:TbOk env (tb111):=addFunF ok_tb59 111 (by kernel_rfl) _ (q111_eq)
def S50_5:LoopS:=⟨0,[uF,⟨false,(.ptr 0 0)⟩,⟨false,(.lit (.int .i64 0))⟩,uF,uF,uF,uF,uF,uF,uF,uF,uF,uF,uF,uF,uF,uF,uF,uF,uF,⟨false,(.rows 61)⟩,⟨false,(.int .i64)⟩,⟨true,(.int .i64)⟩,uF,uF,uF,uF,uF,uF,uF,uF,uF,uF,uF,uF],[(.dat false 57)],[⟨0,0,[uT,⟨true,(.ptr 0 0)⟩,⟨true,(.lit (.int .i64 0))⟩,uT,uT,uT,uT,uT,uT,uT,uT,uT,uT,uT,uT,uT,uT,uT,uT,uT,⟨false,(.rows 61)⟩,⟨false,(.int .i64)⟩,uT,uT,uT,uT,uT,uT,uT,uT,uT,uT,uT,uT,uT],[(.dat false 57)]⟩,⟨1,0,[uT,uT,⟨true,(.int .i64)⟩,uT,uT,uT,uT,uT,uT,uT,uT,uT,uT,uT,uT,uT,uT,uT,uT,uT,⟨false,(.rows 61)⟩,⟨false,(.int .i64)⟩,uT,uT,uT,uT,uT,uT,uT,uT,uT,uT,uT,uT,uT],[(.dat false 57)]⟩]⟩
noncomputable def st50_5 (p s:List D):Option (Sum (List D) (List D)):=stepQX env tb111 60 12 50 (loopC 50 5) S50_5 p s
theorem st50_5_eq (pd0:D) (pn1:Int) (pd2:D) (sn0:Int):st50_5 [pd0,(D.int pn1),pd2] [(D.int sn0)] =
 bif (qcmp BinOp.lss sn0 pn1)then
 bif (qinb pd0 sn0)then
 bif (qsome (q59 [(qget pd0 sn0)]))then
 bif (qcmp BinOp.neq (qint (qnth (q59 [(qget pd0 sn0)]) 0)) 0)then
 some (Sum.inr [(D.int 1),(D.int (qint (qnth (q59 [(qget pd0 sn0)]) 0)))])
 else
 some (Sum.inl [(D.int (qbin BinOp.add IntKind.i64 sn0 1))])
 else
 none
 else
 none
 else
 some (Sum.inr [(D.int 0)]):=by
 have h:st50_5 [pd0,(D.int pn1),pd2] [(D.int sn0)] =
  bif (qcmp BinOp.lss sn0 pn1)then
  bif (qinb pd0 sn0)then
  bif (qsome (q59 [(qget pd0 sn0)]))then
  bif (qcmp BinOp.neq (qint (qnth (q59 [(qget pd0 sn0)]) 0)) 0)then
  bif (qeqD pd0 pd0)then
  bif (qeqD (D.int pn1) (D.int pn1))then
  bif (qeqD pd2 pd2)then
  some (Sum.inr [(D.int 1),(D.int (qint (qnth (q59 [(qget pd0 sn0)]) 0)))])
  else
  none
  else
  none
  else
  none
  else
  bif (qeqD pd0 pd0)then
  bif (qeqD (D.int pn1) (D.int pn1))then
  bif (qeqD pd2 pd2)then
  some (Sum.inl [(D.int (qbin BinOp.add IntKind.i64 sn0 1))])
  else
  none
  else
  none
  else
  none
  else
  none
  else
  none
  else
  bif (qeqD pd0 pd0)then
  bif (qeqD (D.int pn1) (D.int pn1))then
  bif (qeqD pd2 pd2)then
  some (Sum.inr [(D.int 0)])
  else
  none
  else
  none
  else
  none:=by kernel_rfl
 rw[h];simp only[qeqD_self,qeqI_self,qeq_len,show qcmp BinOp.eql 0 (qlen (D.list []))=true from qeq_len [],show∀a,qcmp BinOp.eql 1 (qlen (D.list [a]))=true from fun a=>qeq_len [a],show∀a b,qcmp BinOp.eql 2 (qlen (D.list [a,b]))=true from fun a b=>qeq_len [a,b],show∀a b c,qcmp BinOp.eql 3 (qlen (D.list [a,b,c]))=true from fun a b c=>qeq_len [a,b,c],show∀a b c d,qcmp BinOp.eql 4 (qlen (D.list [a,b,c,d]))=true from fun a b c d=>qeq_len [a,b,c,d],cond_true]
noncomputable def l50_5:List D→List D→Option (List D):=veil fun p s=>loW (st50_5 p) s
theorem l50_5_eq:l50_5=fun p s=>loW (st50_5 p) s:=veil_eq _
noncomputable def tbl50_5:Tb:=Tb.addL tb111 50 5 S50_5.n0 (mkLp S50_5 (l50_5))
theorem ok_tbl50_5:TbOk env (tbl50_5):=addLoopQ ok_tb111 50 5 (by kernel_rfl) _ (l50_5_eq)
def S50:FunS:=⟨[⟨true,(.dat 57)⟩],[],[⟨true,(.int .i64)⟩],[]⟩
noncomputable def F50:List D→Option (List D):=liftX env tbl50_5 60 12 50 S50
theorem F50_eq (sd0:D):F50 [sd0] =
 bif (qsome (q93 [(D.int (qint (qfld sd0 0)))]))then
 bif (qiteB (qcmp BinOp.lss (qint (qnth (q93 [(D.int (qint (qfld sd0 0)))]) 0)) 0) Bool.true (qcmp BinOp.neq (qint (qnth (q93 [(D.int (qint (qfld sd0 0)))]) 0)) (qlen (qfld sd0 6))))then
 some [(D.int 2)]
 else
 bif (qsome (l50_5 [(qfld sd0 6),(D.int (qlen (qfld sd0 6))),sd0] [(D.int 0)]))then
 bif (qcmp BinOp.eql (qint (qnth (l50_5 [(qfld sd0 6),(D.int (qlen (qfld sd0 6))),sd0] [(D.int 0)]) 0)) 0)then
 bif (qsome (q94 [sd0]))then
 bif (qnot (qbool (qnth (q94 [sd0]) 0)))then
 some [(D.int 2)]
 else
 some [(D.int 0)]
 else
 none
 else
 some [(D.int (qint (qnth (l50_5 [(qfld sd0 6),(D.int (qlen (qfld sd0 6))),sd0] [(D.int 0)]) 1)))]
 else
 none
 else
 none:=by kernel_rfl
noncomputable def q50:List D→Option (List D):=veil (F50)
theorem q50_eq:q50=F50:=veil_eq _
noncomputable def tb50:Tb:=Tb.addF tbl50_5 50 S50 (q50)
theorem ok_tb50:TbOk env (tb50):=addFunF ok_tbl50_5 50 (by kernel_rfl) _ (q50_eq)
def S72_4:LoopS:=⟨0,[uF,⟨false,(.ptr 0 0)⟩,⟨false,(.lit (.int .i64 0))⟩,⟨true,(.int .i64)⟩,uF,uF,uF,uF,uF,uF,uF,uF,uF,uF,uF,uF,uF,uF,uF,uF,uF,uF,uF,uF,uF,uF,uF,uF,uF,uF,uF,uF,uF,uF,uF,uF,uF,uF,uF,uF,uF,uF,uF,uF,uF,uF,uF,uF,uF,uF,uF,uF,uF,uF,uF,uF,uF,uF,uF,uF,uF,uF,uF,uF,uF,uF,uF,uF,uF,uF,uF,uF,uF,uF,uF,uF,uF,uF,uF,uF,uF,uF],[(.dat false 57)],[⟨0,0,[uT,⟨true,(.ptr 0 0)⟩,⟨true,(.lit (.int .i64 0))⟩,uT,uT,uT,uT,uT,uT,uT,uT,uT,uT,uT,uT,uT,uT,uT,uT,uT,uT,uT,uT,uT,uT,uT,uT,uT,uT,uT,uT,uT,uT,uT,uT,uT,uT,uT,uT,uT,uT,uT,uT,uT,uT,uT,uT,uT,uT,uT,uT,uT,uT,uT,uT,uT,uT,uT,uT,uT,uT,uT,uT,uT,uT,uT,uT,uT,uT,uT,uT,uT,uT,uT,uT,uT,uT,uT,uT,uT,uT,uT],[(.dat false 57)]⟩,⟨1,0,[uT,uT,⟨true,(.int .i64)⟩,uT,uT,uT,uT,uT,uT,uT,uT,uT,uT,uT,uT,uT,uT,uT,uT,uT,uT,uT,uT,uT,uT,uT,uT,uT,uT,uT,uT,uT,uT,uT,uT,uT,uT,uT,uT,uT,uT,uT,uT,uT,uT,uT,uT,uT,uT,uT,uT,uT,uT,uT,uT,uT,uT,uT,uT,uT,uT,uT,uT,uT,uT,uT,uT,uT,uT,uT,uT,uT,uT,uT,uT,uT,uT,uT,uT,uT,uT,uT],[(.dat false 57)]⟩]⟩
noncomputable def st72_4 (p s:List D):Option (Sum (List D) (List D)):=stepQX env tb50 60 12 72 (loopC 72 4) S72_4 p s
theorem st72_4_eq (pd0:D) (sn0:Int):st72_4 [pd0] [(D.int sn0)] =
 bif (qcmp BinOp.lss sn0 (qlen (qfld pd0 6)))then
 bif (qinb (qfld pd0 6) sn0)then
 bif (qsome (q111 [(qget (qfld pd0 6) sn0)]))then
 bif (qcmp BinOp.neq (qint (qnth (q111 [(qget (qfld pd0 6) sn0)]) 0)) 0)then
 some (Sum.inr [(D.int 1),(D.int (qint (qnth (q111 [(qget (qfld pd0 6) sn0)]) 0)))])
 else
 some (Sum.inl [(D.int (qbin BinOp.add IntKind.i64 sn0 1))])
 else
 none
 else
 none
 else
 some (Sum.inr [(D.int 0)]):=by
 have h:st72_4 [pd0] [(D.int sn0)] =
  bif (qcmp BinOp.lss sn0 (qlen (qfld pd0 6)))then
  bif (qinb (qfld pd0 6) sn0)then
  bif (qsome (q111 [(qget (qfld pd0 6) sn0)]))then
  bif (qcmp BinOp.neq (qint (qnth (q111 [(qget (qfld pd0 6) sn0)]) 0)) 0)then
  bif (qeqD pd0 pd0)then
  some (Sum.inr [(D.int 1),(D.int (qint (qnth (q111 [(qget (qfld pd0 6) sn0)]) 0)))])
  else
  none
  else
  bif (qeqD pd0 pd0)then
  some (Sum.inl [(D.int (qbin BinOp.add IntKind.i64 sn0 1))])
  else
  none
  else
  none
  else
  none
  else
  bif (qeqD pd0 pd0)then
  some (Sum.inr [(D.int 0)])
  else
  none:=by kernel_rfl
 rw[h];simp only[qeqD_self,qeqI_self,qeq_len,show qcmp BinOp.eql 0 (qlen (D.list []))=true from qeq_len [],show∀a,qcmp BinOp.eql 1 (qlen (D.list [a]))=true from fun a=>qeq_len [a],show∀a b,qcmp BinOp.eql 2 (qlen (D.list [a,b]))=true from fun a b=>qeq_len [a,b],show∀a b c,qcmp BinOp.eql 3 (qlen (D.list [a,b,c]))=true from fun a b c=>qeq_len [a,b,c],show∀a b c d,qcmp BinOp.eql 4 (qlen (D.list [a,b,c,d]))=true from fun a b c d=>qeq_len [a,b,c,d],cond_true]
noncomputable def l72_4:List D→List D→Option (List D):=veil fun p s=>loW (st72_4 p) s
theorem l72_4_eq:l72_4=fun p s=>loW (st72_4 p) s:=veil_eq _
noncomputable def tbl72_4:Tb:=Tb.addL tb50 72 4 S72_4.n0 (mkLp S72_4 (l72_4))
theorem ok_tbl72_4:TbOk env (tbl72_4):=addLoopQ ok_tb50 72 4 (by kernel_rfl) _ (l72_4_eq)
def S72:FunS:=⟨[⟨true,(.dat 57)⟩],[],[⟨true,(.int .i64)⟩],[]⟩
noncomputable def F72:List D→Option (List D):=liftX env tbl72_4 60 12 72 S72
theorem F72_eq (sd0:D):F72 [sd0] =
 bif (qcmp BinOp.lss (qint (qfld sd0 0)) 1)then
 some [(D.int 2)]
 else
 bif (qcmp BinOp.gtr (qint (qfld sd0 0)) 10)then
 some [(D.int 2)]
 else
 bif (qsome (q110 [(D.int (qint (qfld sd0 0)))]))then
 bif (qcmp BinOp.neq (qlen (qfld sd0 6)) (qint (qnth (q110 [(D.int (qint (qfld sd0 0)))]) 0)))then
 some [(D.int 2)]
 else
 bif (qsome (l72_4 [sd0] [(D.int 0)]))then
 bif (qcmp BinOp.eql (qint (qnth (l72_4 [sd0] [(D.int 0)]) 0)) 0)then
 bif (qsome (q112 [sd0]))then
 bif (qiteB (qnot (qbool (qnth (q112 [sd0]) 0))) Bool.true (qsome (q113 [(D.int (qint (qfld sd0 1)))])))then
 bif (qiteB (qiteB (qnot (qbool (qnth (q112 [sd0]) 0))) Bool.true (qnot (qbool (qnth (q113 [(D.int (qint (qfld sd0 1)))]) 0)))) Bool.true (qiteB (qiteB (qiteB (qcmp BinOp.eql (qint (qfld sd0 0)) 2) (qcmp BinOp.neq (qint (qfld sd0 2)) 1) Bool.false) (qcmp BinOp.neq (qint (qfld sd0 2)) 2) Bool.false) (qcmp BinOp.neq (qint (qfld sd0 2)) 4) Bool.false))then
 some [(D.int 2)]
 else
 bif (qiteB (qcmp BinOp.eql (qint (qfld sd0 0)) 8) (qiteB (qcmp BinOp.lss (qlen (qfld sd0 7)) 1) Bool.true (qcmp BinOp.gtr (qlen (qfld sd0 7)) 64)) Bool.false)then
 some [(D.int 2)]
 else
 some [(D.int 0)]
 else
 none
 else
 none
 else
 some [(D.int (qint (qnth (l72_4 [sd0] [(D.int 0)]) 1)))]
 else
 none
 else
 none:=by kernel_rfl
noncomputable def q72:List D→Option (List D):=veil (F72)
theorem q72_eq:q72=F72:=veil_eq _
noncomputable def tb72:Tb:=Tb.addF tbl72_4 72 S72 (q72)
theorem ok_tb72:TbOk env (tb72):=addFunF ok_tbl72_4 72 (by kernel_rfl) _ (q72_eq)
end Go.Proofs.YtfdedgmlafelaaaGreatDoor
open Go Go.AM
namespace Go.Proofs.YtfdedgmlafelaaaGreatDoor
set_option maxRecDepth 100000
set_option linter.unusedSimpArgs false
set_option linter.unusedVariables false
def S116_90_2:LoopS:=⟨0,[⟨false,(.rows 57)⟩,⟨false,(.func 90 [] [])⟩,uF,uF,⟨false,(.lit (.int .i64 0))⟩,uF,uF,⟨false,(.int .i64)⟩,⟨true,(.int .i64)⟩,uF,uF,uF,uF,uF,uF,uF,uF,uF,uF],[],[⟨0,0,[⟨false,(.rows 57)⟩,uT,uT,uT,⟨true,(.lit (.int .i64 0))⟩,uT,uT,⟨false,(.int .i64)⟩,uT,uT,uT,uT,uT,uT,uT,uT,uT,uT,uT],[]⟩,⟨1,0,[⟨false,(.rows 57)⟩,uT,uT,uT,⟨true,(.int .i64)⟩,uT,uT,⟨false,(.int .i64)⟩,uT,uT,uT,uT,uT,uT,uT,uT,uT,uT,uT],[]⟩]⟩
noncomputable def st116_90_2 (p s:List D):Option (Sum (List D) (List D)):=stepQX env tb72 60 12 116 (loopC 116 2) S116_90_2 p s
theorem st116_90_2_eq (pd0:D) (pn1:Int) (sn0:Int):st116_90_2 [pd0,(D.int pn1)] [(D.int sn0)] =
 bif (qcmp BinOp.lss sn0 pn1)then
 bif (qinb pd0 sn0)then
 bif (qsome (q90 [(qget pd0 sn0)]))then
 bif (qbool (qnth (q90 [(qget pd0 sn0)]) 0))then
 some (Sum.inr [(D.int 1),(D.int sn0)])
 else
 some (Sum.inl [(D.int (qbin BinOp.add IntKind.i64 sn0 1))])
 else
 none
 else
 none
 else
 some (Sum.inr [(D.int 0)]):=by
 have h:st116_90_2 [pd0,(D.int pn1)] [(D.int sn0)] =
  bif (qcmp BinOp.lss sn0 pn1)then
  bif (qinb pd0 sn0)then
  bif (qsome (q90 [(qget pd0 sn0)]))then
  bif (qbool (qnth (q90 [(qget pd0 sn0)]) 0))then
  bif (qeqD pd0 pd0)then
  bif (qeqD (D.int pn1) (D.int pn1))then
  some (Sum.inr [(D.int 1),(D.int sn0)])
  else
  none
  else
  none
  else
  bif (qeqD pd0 pd0)then
  bif (qeqD (D.int pn1) (D.int pn1))then
  some (Sum.inl [(D.int (qbin BinOp.add IntKind.i64 sn0 1))])
  else
  none
  else
  none
  else
  none
  else
  none
  else
  bif (qeqD pd0 pd0)then
  bif (qeqD (D.int pn1) (D.int pn1))then
  some (Sum.inr [(D.int 0)])
  else
  none
  else
  none:=by kernel_rfl
 rw[h];simp only[qeqD_self,qeqI_self,qeq_len,show qcmp BinOp.eql 0 (qlen (D.list []))=true from qeq_len [],show∀a,qcmp BinOp.eql 1 (qlen (D.list [a]))=true from fun a=>qeq_len [a],show∀a b,qcmp BinOp.eql 2 (qlen (D.list [a,b]))=true from fun a b=>qeq_len [a,b],show∀a b c,qcmp BinOp.eql 3 (qlen (D.list [a,b,c]))=true from fun a b c=>qeq_len [a,b,c],show∀a b c d,qcmp BinOp.eql 4 (qlen (D.list [a,b,c,d]))=true from fun a b c d=>qeq_len [a,b,c,d],cond_true]
noncomputable def l116_90_2:List D→List D→Option (List D):=veil fun p s=>loW (st116_90_2 p) s
theorem l116_90_2_eq:l116_90_2=fun p s=>loW (st116_90_2 p) s:=veil_eq _
noncomputable def tbl116_90_2:Tb:=Tb.addL tb72 116 2 S116_90_2.n0 (mkLp S116_90_2 (l116_90_2))
theorem ok_tbl116_90_2:TbOk env (tbl116_90_2):=addLoopQ ok_tb72 116 2 (by kernel_rfl) _ (l116_90_2_eq)
def S116_90:FunS:=⟨[⟨true,(.rows 57)⟩,⟨true,(.func 90 [] [])⟩],[],[⟨true,(.int .i64)⟩],[]⟩
noncomputable def F116_90:List D→Option (List D):=liftX env tbl116_90_2 60 12 116 S116_90
theorem F116_90_eq (sd0:D):F116_90 [sd0] =
 bif (qsome (l116_90_2 [sd0,(D.int (qlen sd0))] [(D.int 0)]))then
 bif (qcmp BinOp.eql (qint (qnth (l116_90_2 [sd0,(D.int (qlen sd0))] [(D.int 0)]) 0)) 0)then
 some [(D.int (-1))]
 else
 some [(D.int (qint (qnth (l116_90_2 [sd0,(D.int (qlen sd0))] [(D.int 0)]) 1)))]
 else
 none:=by kernel_rfl
noncomputable def q116_90:List D→Option (List D):=veil (F116_90)
theorem q116_90_eq:q116_90=F116_90:=veil_eq _
noncomputable def tb116_90:Tb:=Tb.addF tbl116_90_2 116 S116_90 (q116_90)
theorem ok_tb116_90:TbOk env (tb116_90):=addFunF ok_tbl116_90_2 116 (by kernel_rfl) _ (q116_90_eq)
def S79_90:FunS:=⟨[⟨true,(.rows 57)⟩,⟨true,(.func 90 [] [])⟩],[],[⟨true, .bool⟩],[]⟩
noncomputable def F79_90:List D→Option (List D):=liftX env tb116_90 60 12 79 S79_90
theorem F79_90_eq (sd0:D):F79_90 [sd0] =
 bif (qsome (q116_90 [sd0]))then
 some [(D.bool (qcmp BinOp.geq (qint (qnth (q116_90 [sd0]) 0)) 0))]
 else
 none:=by kernel_rfl
noncomputable def q79_90:List D→Option (List D):=veil (F79_90)
theorem q79_90_eq:q79_90=F79_90:=veil_eq _
noncomputable def tb79_90:Tb:=Tb.addF tb116_90 79 S79_90 (q79_90)
theorem ok_tb79_90:TbOk env (tb79_90):=addFunF ok_tb116_90 79 (by kernel_rfl) _ (q79_90_eq)
def S92:FunS:=⟨[⟨true,(.int .i64)⟩,⟨true,(.edat 25)⟩],[],[⟨true, .bool⟩],[]⟩
noncomputable def F92:List D→Option (List D):=liftX env tb79_90 60 12 92 S92
theorem F92_eq (sn0:Int) (sd1:D):F92 [(D.int sn0),sd1] =
 some [(D.bool (qiteB (qcmp BinOp.lss sn0 0) Bool.true (qcmp BinOp.geq sn0 (qlen (qfld sd1 1)))))]:=by kernel_rfl
noncomputable def q92:List D→Option (List D):=veil (F92)
theorem q92_eq:q92=F92:=veil_eq _
noncomputable def tb92:Tb:=Tb.addF tb79_90 92 S92 (q92)
theorem ok_tb92:TbOk env (tb92):=addFunF ok_tb79_90 92 (by kernel_rfl) _ (q92_eq)
def S122_92_2:LoopS:=⟨0,[⟨false,(.rows 3)⟩,⟨false,(.func 92 [] [(.edat 25)])⟩,uF,uF,⟨false,(.lit (.int .i64 0))⟩,uF,uF,⟨false,(.int .i64)⟩,⟨true,(.int .i64)⟩,uF,uF,uF,uF,uF,uF,uF,uF,uF,uF],[],[⟨0,0,[⟨false,(.rows 3)⟩,⟨false,(.func 92 [] [(.edat 25)])⟩,uT,uT,⟨true,(.lit (.int .i64 0))⟩,uT,uT,⟨false,(.int .i64)⟩,uT,uT,uT,uT,uT,uT,uT,uT,uT,uT,uT],[]⟩,⟨1,0,[⟨false,(.rows 3)⟩,⟨false,(.func 92 [] [(.edat 25)])⟩,uT,uT,⟨true,(.int .i64)⟩,uT,uT,⟨false,(.int .i64)⟩,uT,uT,uT,uT,uT,uT,uT,uT,uT,uT,uT],[]⟩]⟩
noncomputable def st122_92_2 (p s:List D):Option (Sum (List D) (List D)):=stepQX env tb92 60 12 122 (loopC 122 2) S122_92_2 p s
theorem st122_92_2_eq (pd0:D) (pd1:D) (pn2:Int) (sn0:Int):st122_92_2 [pd0,pd1,(D.int pn2)] [(D.int sn0)] =
 bif (qcmp BinOp.lss sn0 pn2)then
 bif (qinb pd0 sn0)then
 bif (qsome (q92 [(D.int (qint (qget pd0 sn0))),pd1]))then
 bif (qbool (qnth (q92 [(D.int (qint (qget pd0 sn0))),pd1]) 0))then
 some (Sum.inr [(D.int 1),(D.int sn0)])
 else
 some (Sum.inl [(D.int (qbin BinOp.add IntKind.i64 sn0 1))])
 else
 none
 else
 none
 else
 some (Sum.inr [(D.int 0)]):=by
 have h:st122_92_2 [pd0,pd1,(D.int pn2)] [(D.int sn0)] =
  bif (qcmp BinOp.lss sn0 pn2)then
  bif (qinb pd0 sn0)then
  bif (qsome (q92 [(D.int (qint (qget pd0 sn0))),pd1]))then
  bif (qbool (qnth (q92 [(D.int (qint (qget pd0 sn0))),pd1]) 0))then
  bif (qeqD pd0 pd0)then
  bif (qeqD pd1 pd1)then
  bif (qeqD (D.int pn2) (D.int pn2))then
  some (Sum.inr [(D.int 1),(D.int sn0)])
  else
  none
  else
  none
  else
  none
  else
  bif (qeqD pd0 pd0)then
  bif (qeqD pd1 pd1)then
  bif (qeqD (D.int pn2) (D.int pn2))then
  some (Sum.inl [(D.int (qbin BinOp.add IntKind.i64 sn0 1))])
  else
  none
  else
  none
  else
  none
  else
  none
  else
  none
  else
  bif (qeqD pd0 pd0)then
  bif (qeqD pd1 pd1)then
  bif (qeqD (D.int pn2) (D.int pn2))then
  some (Sum.inr [(D.int 0)])
  else
  none
  else
  none
  else
  none:=by kernel_rfl
 rw[h];simp only[qeqD_self,qeqI_self,qeq_len,show qcmp BinOp.eql 0 (qlen (D.list []))=true from qeq_len [],show∀a,qcmp BinOp.eql 1 (qlen (D.list [a]))=true from fun a=>qeq_len [a],show∀a b,qcmp BinOp.eql 2 (qlen (D.list [a,b]))=true from fun a b=>qeq_len [a,b],show∀a b c,qcmp BinOp.eql 3 (qlen (D.list [a,b,c]))=true from fun a b c=>qeq_len [a,b,c],show∀a b c d,qcmp BinOp.eql 4 (qlen (D.list [a,b,c,d]))=true from fun a b c d=>qeq_len [a,b,c,d],cond_true]
noncomputable def l122_92_2:List D→List D→Option (List D):=veil fun p s=>loW (st122_92_2 p) s
theorem l122_92_2_eq:l122_92_2=fun p s=>loW (st122_92_2 p) s:=veil_eq _
noncomputable def tbl122_92_2:Tb:=Tb.addL tb92 122 2 S122_92_2.n0 (mkLp S122_92_2 (l122_92_2))
theorem ok_tbl122_92_2:TbOk env (tbl122_92_2):=addLoopQ ok_tb92 122 2 (by kernel_rfl) _ (l122_92_2_eq)
def S122_92:FunS:=⟨[⟨true,(.rows 3)⟩,⟨true,(.func 92 [] [(.edat 25)])⟩],[],[⟨true,(.int .i64)⟩],[]⟩
noncomputable def F122_92:List D→Option (List D):=liftX env tbl122_92_2 60 12 122 S122_92
theorem F122_92_eq (sd0:D) (sd1:D):F122_92 [sd0,sd1] =
 bif (qsome (l122_92_2 [sd0,sd1,(D.int (qlen sd0))] [(D.int 0)]))then
 bif (qcmp BinOp.eql (qint (qnth (l122_92_2 [sd0,sd1,(D.int (qlen sd0))] [(D.int 0)]) 0)) 0)then
 some [(D.int (-1))]
 else
 some [(D.int (qint (qnth (l122_92_2 [sd0,sd1,(D.int (qlen sd0))] [(D.int 0)]) 1)))]
 else
 none:=by kernel_rfl
noncomputable def q122_92:List D→Option (List D):=veil (F122_92)
theorem q122_92_eq:q122_92=F122_92:=veil_eq _
noncomputable def tb122_92:Tb:=Tb.addF tbl122_92_2 122 S122_92 (q122_92)
theorem ok_tb122_92:TbOk env (tb122_92):=addFunF ok_tbl122_92_2 122 (by kernel_rfl) _ (q122_92_eq)
def S91_92:FunS:=⟨[⟨true,(.rows 3)⟩,⟨true,(.func 92 [] [(.edat 25)])⟩],[],[⟨true, .bool⟩],[]⟩
noncomputable def F91_92:List D→Option (List D):=liftX env tb122_92 60 12 91 S91_92
theorem F91_92_eq (sd0:D) (sd1:D):F91_92 [sd0,sd1] =
 bif (qsome (q122_92 [sd0,sd1]))then
 some [(D.bool (qcmp BinOp.geq (qint (qnth (q122_92 [sd0,sd1]) 0)) 0))]
 else
 none:=by kernel_rfl
noncomputable def q91_92:List D→Option (List D):=veil (F91_92)
theorem q91_92_eq:q91_92=F91_92:=veil_eq _
noncomputable def tb91_92:Tb:=Tb.addF tb122_92 91 S91_92 (q91_92)
theorem ok_tb91_92:TbOk env (tb91_92):=addFunF ok_tb122_92 91 (by kernel_rfl) _ (q91_92_eq)
end Go.Proofs.YtfdedgmlafelaaaGreatDoor
