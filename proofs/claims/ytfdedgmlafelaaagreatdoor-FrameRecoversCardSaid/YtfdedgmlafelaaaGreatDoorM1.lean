/-
  DERIVED: THE SHELF's CONTRACTS AT THIS DUMP, IN PLAIN WORDS (tools/lay-plain.mjs out of 'TryzShelf.lean', which tools/lay-shelf.mjs wrote): THE SAME DECLARATIONS UNDER THE SAME NAMES: 'import', 'namespace', 'open', 'def', 'theorem' AND NOTHING ELSE: no command of the shelf's: FOR A HAND-IN. Each laying: the table of numbers ('.._ren') and one theorem, a field a fact of the dump's own or the kernel's comparison; each contract: ONE APPLICATION.
-/
import Derived.Shelf.Strings.Builder1
import Derived.Shelf.Strings.Builder2
import Derived.Shelf.Strings.OnBuilder
import Derived.Shelf.LaysM
import Derived.Ground.Names2Prog
import Derived.Test.YtfdedgmlafelaaaGreatDoorProg
import Derived.Test.YtfdedgmlafelaaaGreatDoorC1
import Derived.Below
import Derived.RowKit3
import Derived.Test.YtfdedgmlafelaaaGreatDoorAmW
import Derived.Test.YtfdedgmlafelaaaGreatDoorSp
import Derived.KernelRfl
set_option linter.unusedVariables false
set_option linter.unusedSimpArgs false
namespace Go.Proofs
open Go.Shelf
def Tryz.lays156_ren:Go.Shelf.Ren:=⟨fun|156=>132|165=>151|166=>152|169=>153|240=>164|241=>165|276=>171|277=>172|n=>n,fun|31=>159|9=>9|3=>3|4=>4|0=>0|20=>20|72=>176|76=>179|70=>173|37=>174|75=>178|127=>193|164=>200|5=>5|80=>181|n=>n,fun|n=>n⟩
theorem Tryz.lays156:Go.Proofs.Lays.n156 Tryz.prog Tryz.lays156_ren:={
 mixed:=by kernel_rfl
 f156:=Tryz.func132.trans (congrArg some (by kernel_rfl))
 f165:=Tryz.func151.trans (congrArg some (by kernel_rfl))
 f166:=Tryz.func152.trans (congrArg some (by kernel_rfl))
 f169:=Tryz.func153.trans (congrArg some (by kernel_rfl))
 f240:=Tryz.func164.trans (congrArg some (by kernel_rfl))
 f241:=Tryz.func165.trans (congrArg some (by kernel_rfl))
 f276:=Tryz.func171.trans (congrArg some (by kernel_rfl))
 f277:=Tryz.func172.trans (congrArg some (by kernel_rfl))
 t0:=Tryz.underlying0
 a0:=Tryz.isAgg0
 z0:=Tryz.sizeOf0
 v0:=Tryz.zeroValue0
 t3:=Tryz.underlying3
 a3:=Tryz.isAgg3
 z3:=Tryz.sizeOf3
 v3:=Tryz.zeroValue3
 t4:=Tryz.underlying4
 a4:=Tryz.isAgg4
 z4:=Tryz.sizeOf4
 v4:=Tryz.zeroValue4
 t9:=Tryz.underlying9
 a9:=Tryz.isAgg9
 z9:=Tryz.sizeOf9
 v9:=Tryz.zeroValue9
 t20:=Tryz.underlying20
 a20:=Tryz.isAgg20
 z20:=Tryz.sizeOf20
 v20:=Tryz.zeroValue20
 t31:=Tryz.underlying159
 a31:=Tryz.isAgg159
 z31:=Tryz.sizeOf159
 v31:=Tryz.zeroValue159
 t37:=Tryz.underlying174
 a37:=Tryz.isAgg174
 z37:=Tryz.sizeOf174
 v37:=Tryz.zeroValue174
 t70:=Tryz.underlying173
 a70:=Tryz.isAgg173
 z70:=Tryz.sizeOf173
 v70:=Tryz.zeroValue173
 t72:=Tryz.underlying176
 a72:=Tryz.isAgg176
 z72:=Tryz.sizeOf176
 v72:=Tryz.zeroValue176
 t75:=Tryz.underlying178
 a75:=Tryz.isAgg178
 z75:=Tryz.sizeOf178
 v75:=Tryz.zeroValue178
 t76:=Tryz.underlying179
 a76:=Tryz.isAgg179
 z76:=Tryz.sizeOf179
 v76:=Tryz.zeroValue179
 t127:=Tryz.underlying193
 a127:=Tryz.isAgg193
 z127:=Tryz.sizeOf193
 v127:=Tryz.zeroValue193
 t164:=Tryz.underlying200
 a164:=Tryz.isAgg200
 z164:=Tryz.sizeOf200
 v164:=Tryz.zeroValue200}
theorem Tryz.Builder_Extra_156:Builder.Extra Tryz.prog Tryz.lays156_ren:={
 sizeBuilder:=by kernel_rfl
 liesBuilder:=by kernel_rfl
 t5:=Tryz.underlying5
 a5:=Tryz.isAgg5
 z5:=Tryz.sizeOf5
 v5:=Tryz.zeroValue5
 infoByte:=by kernel_rfl
 cellsByte:=by kernel_rfl
 sizeByte:=by kernel_rfl
 neB5:=by decide}
open Go.RowKit in
theorem Tryz.strings_Join (bk o c:Nat) (xs:List ByteArray) (sep:ByteArray) (w:World) (hcells:∀(j:Nat) x,xs[j]? = some x→w.cell? ⟨bk,o+j,none⟩=some (.string x)) (hbk:bk<w.heap.size) (hN:xs.length≤140737488355328) (hcap:xs.length≤c) (hlen:(Lib.join (xs.map (·.data.toList)) sep.data.toList).length≤140737488355328):
 Calls Tryz.prog 132 #[.slice (some ⟨bk,o,none⟩) xs.length c, .string sep] w fun e w'=>e = .returned (.string ⟨(Lib.join (xs.map (·.data.toList)) sep.data.toList).toArray⟩)∧Below w.heap.size w w':=Any.strings_Join Tryz.lays156 Tryz.Builder_Extra_156 bk o c xs sep w hcells hbk hN hcap hlen
end Go.Proofs
namespace Go.AM
section
variable {P:Program}
theorem ok_of_below {f:FuncId} {args:List AV} {H:Hp} {x:Value} (h:∀(lo:Nat→Prop) (w0:World) (ρ:Nat→Option Nat) (E:Nat→Prop) (w:World) (vs:Array Value),Inv lo w0 ρ E H w→RepL ρ E w args vs.toList→
 Calls P f vs w fun e w'=>e = .returned x∧RowKit.Below w.heap.size w w'):Ok P f args H (.sc x) H:=by
 intro lo w0 ρ E w vs inv ra
 refine(h lo w0 ρ E w vs inv ra).mono ?_
 rintro e w' ⟨rfl,hb⟩
 obtain⟨b1,b2,b3,hsz,hold⟩:=hb
 have ext:Ext ρ E w ρ E w':=Ext.grow (fun _ _ h=>h) (fun _ h=>h) (fun i b hb=>(inv.bd i b hb).2) inv.ebd hold hsz
 refine⟨x,ρ,E,rfl,?_,⟨ext,fun _ h=> .inl h⟩,by simp only[Rep]⟩
 exact{len:=inv.len,dom:=inv.dom,blk:=fun i k b hk hb=>(inv.blk i k b hk hb).mono ext (hold b (inv.bd i b hb).2),inj:=inv.inj,notE:=inv.notE,
       bd:=fun i b hb=>⟨(inv.bd i b hb).1,Nat.lt_of_lt_of_le (inv.bd i b hb).2 hsz⟩
       ebd:=fun b he=>Nat.lt_of_lt_of_le (inv.ebd b he) hsz
       lole:=fun b hb=>Nat.lt_of_lt_of_le (inv.lole b hb) hsz
       old:=fun b hb=>(hold b (inv.lole b hb)).trans (inv.old b hb)
       io:=inv.io.trans ⟨b1,b2,b3⟩,gl:=gl_mono rfl ext inv.gl}
def str1:List AV→Option ByteArray
 | [.sc (.string s)]=>some s
 |_=>none
theorem rows_strs {E:Nat→Prop} {w:World} {b z:Nat}:∀{xs:List (List AV)} {ss:List ByteArray} {off:Nat},mapO str1 xs=some ss→RepRows nowhere E w b off z xs→∀(j:Nat) x,ss[j]? = some x→w.cell? ⟨b,off+j,none⟩=some (.string x)
 | [],ss,off,h,_,j,x,hx=>by simp[mapO]at h;subst h;simp at hx
 |c::cs,ss,off,h,hr,j,x,hx=>by
  simp only[RepRows]at hr
  obtain⟨hz,h1,h2⟩:=hr
  simp only[mapO]at h
  cases hc:str1 c with
  |none=>simp[hc]at h
  |some s=>
   cases hm:mapO str1 cs with
   |none=>simp[hc,hm]at h
   |some ss'=>
    simp[hc,hm]at h
    subst h
    have he:c = [.sc (.string s)]:=by
     unfold str1 at hc
     split at hc
     ·cases hc;rfl
     ·cases hc
    subst he
    simp only[List.length_cons,List.length_nil]at hz
    subst hz
    cases j with
    |zero=>
     simp at hx;subst hx
     simp only[RepAt,Rep]at h1
     obtain⟨⟨u,hu,rfl⟩,_⟩:=h1
     exact hu
    |succ j=>
     have:=rows_strs hm h2 j x (by simpa using hx)
     rw[show off+(j+1)=off+(0+1)+j by omega];exact this
def JoinSaid (P:Program) (f:FuncId):Prop:=
 ∀(bk o c:Nat) (xs:List ByteArray) (sep:ByteArray) (w:World),(∀(j:Nat) x,xs[j]? = some x→w.cell? ⟨bk,o+j,none⟩=some (.string x))→bk<w.heap.size→xs.length≤140737488355328→xs.length≤c→
  (Lib.join (xs.map (·.data.toList)) sep.data.toList).length≤140737488355328→
  Calls P f #[.slice (some ⟨bk,o,none⟩) xs.length c, .string sep] w fun e w'=>e = .returned (.string ⟨(Lib.join (xs.map (·.data.toList)) sep.data.toList).toArray⟩)∧RowKit.Below w.heap.size w w'
def joinC (args:List AV) (H:Hp):Option (AV×Hp):=
 match args with
 | [.esl (x::xs), .sc (.string sep)]=>(mapO str1 (x::xs)).bind fun ss=>
   bif Nat.ble ss.length 1048576&&Nat.ble (Lib.join (ss.map (·.data.toList)) sep.data.toList).length 1048576 then some (.sc (.string ⟨(Lib.join (ss.map (·.data.toList)) sep.data.toList).toArray⟩),H)else none
 |_=>none
theorem joinC_ok {f:FuncId} (hJ:JoinSaid P f) (args:List AV) (H:Hp) (v:AV) (H':Hp) (h:joinC args H=some (v,H')):Ok P f args H v H':=by
 unfold joinC at h
 split at h
 case h_2=>cases h
 case h_1 x xs sep=>
  obtain⟨ss,hs,h⟩:=Option.bind_eq_some_iff.1 h
  cases hb:(Nat.ble ss.length 1048576&&Nat.ble (Lib.join (ss.map (·.data.toList)) sep.data.toList).length 1048576)with
  |false=>rw[hb]at h;cases h
  |true=>
   rw[hb]at h
   cases h
   simp only[Bool.and_eq_true,Nat.ble_eq]at hb
   refine ok_of_below fun lo w0 ρ E w vs inv ra=> ?_
   generalize hvs:vs.toList=l at ra
   simp only[RepL]at ra
   obtain⟨u1,l1,rfl,r1,u2,l2,rfl,r2,rfl⟩:=ra
   simp only[Rep]at r1 r2
   subst r2
   obtain⟨a,cap,rfl,hcap,hr⟩:=r1
   rcases hr with hr|⟨b,off,z,rfl,he,hr⟩
   ·cases hr
   ·have hlen:=mapO_len hs
    have hv:vs = #[.slice (some ⟨b,off,none⟩) ss.length cap, .string sep]:=by
     rw[← Array.toList_inj,hvs,hlen]
    rw[hv]
    exact hJ b off cap ss sep w (rows_strs hs hr) (inv.ebd b he) (by omega) (by omega) (by omega)
end
end Go.AM
namespace Go.Proofs.YtfdedgmlafelaaaGreatDoor
noncomputable section
open Go Go.AM
set_option maxRecDepth 100000
theorem joinSaid132:JoinSaid Tryz.prog 132:=fun bk o c xs sep w h h1 h2 h3 h4=>Tryz.strings_Join bk o c xs sep w h h1 h2 h3 h4
def tbX:Tb:=Tb.nil.add 132 joinC (fun _ _=>[])
def envX:Env:={P:=Tryz.prog,fn:=fun f=>(Tryz.prog.funcs[f]?).bind fun fn=>fn.body.map fun c=>⟨c,fn.ntmps,fn.results.toList⟩,isPure:=fun _=>false,isFrz:=fun _=>false,clr:=false,pre:=tbX.O,lp:=fun _ _=>none,n0:=0}
theorem envXOk:EnvOk envX:=by
 intro f F h
 refine envOk f F ?_
 rw[envFn]
 exact h
theorem tbXOk:TbOk envX tbX:=TbOk.nil.add (by kernel_rfl) fun args H v H' h _=>joinC_ok joinSaid132 args H v H' h
def S9:FunS:=⟨[],[],[⟨true, .bool⟩],[]⟩
def psX:List (Nat×Nat):=[(102,132),(26,55),(26,56),(26,57),(26,58)]
theorem ex9:liftC envX tbX (runP envX psX [] tbX 5000 5000).d 9 S9 []=some [.bool true]:=by kernel_rfl
def q9:List D→Option (List D):=veil fun ds=>liftC envX tbX (runP envX psX [] tbX 5000 5000).d 9 S9 ds
theorem q9_eq:q9 []=some [.bool true]:=by unfold q9;rw[veil_eq];exact ex9
theorem sound9:SoundF env.P 9 S9 q9:=by
 unfold q9;rw[veil_eq]
 exact liftC_sound envX tbX (runP_sound envXOk (fun _ _=>rfl) rfl psX [] tbXOk 5000 5000)
end
end Go.Proofs.YtfdedgmlafelaaaGreatDoor
open Go Go.AM
namespace Go.Proofs.YtfdedgmlafelaaaGreatDoor
noncomputable section
set_option maxRecDepth 100000
set_option linter.unusedSimpArgs false
set_option linter.unusedVariables false
set_option linter.defProp false
def S113:FunS:=⟨[⟨true,(.int .i64)⟩],[],[⟨true, .bool⟩],[]⟩
def F113:List D→Option (List D):=liftX env Tb.nil 60 12 113 S113
theorem F113_eq (sn0:Int):F113 [(D.int sn0)] =
 some [(D.bool (qiteB (qcmp BinOp.geq sn0 0) (qcmp BinOp.lss sn0 65536) Bool.false))]:=by kernel_rfl
def q113:List D→Option (List D):=veil (F113)
theorem q113_eq:q113=F113:=veil_eq _
def tb113:Tb:=Tb.addF Tb.nil 113 S113 (q113)
theorem ok_tb113:TbOk env (tb113):=addFunF ok_nil 113 (by kernel_rfl) _ (q113_eq)
def S90:FunS:=⟨[⟨true,(.dat 57)⟩],[],[⟨true, .bool⟩],[]⟩
def F90:List D→Option (List D):=liftX env tb113 60 12 90 S90
theorem F90_eq (sd0:D):F90 [sd0] =
 some [(D.bool (qiteB (qcmp BinOp.geq (qint (qfld sd0 0)) 6) (qcmp BinOp.leq (qint (qfld sd0 0)) 10) Bool.false))]:=by kernel_rfl
def q90:List D→Option (List D):=veil (F90)
theorem q90_eq:q90=F90:=veil_eq _
def tb90:Tb:=Tb.addF tb113 90 S90 (q90)
theorem ok_tb90:TbOk env (tb90):=addFunF ok_tb113 90 (by kernel_rfl) _ (q90_eq)
def S109:FunS:=⟨[⟨true,(.dat 57)⟩],[],[⟨true, .bool⟩],[]⟩
def F109:List D→Option (List D):=liftX env tb90 60 12 109 S109
theorem F109_eq (sd0:D):F109 [sd0] =
 some [(D.bool (qiteB (qcmp BinOp.geq (qint (qfld sd0 0)) 6) (qcmp BinOp.leq (qint (qfld sd0 0)) 10) Bool.false))]:=by kernel_rfl
def q109:List D→Option (List D):=veil (F109)
theorem q109_eq:q109=F109:=veil_eq _
def tb109:Tb:=Tb.addF tb90 109 S109 (q109)
theorem ok_tb109:TbOk env (tb109):=addFunF ok_tb90 109 (by kernel_rfl) _ (q109_eq)
def S123:FunS:=⟨[⟨true,(.int .i64)⟩],[],[⟨true, .bool⟩],[]⟩
def F123:List D→Option (List D):=liftX env tb109 60 12 123 S123
theorem F123_eq (sn0:Int):F123 [(D.int sn0)] =
 some [(D.bool (qiteB (qcmp BinOp.geq sn0 0) (qcmp BinOp.lss sn0 65536) Bool.false))]:=by kernel_rfl
def q123:List D→Option (List D):=veil (F123)
theorem q123_eq:q123=F123:=veil_eq _
def tb123:Tb:=Tb.addF tb109 123 S123 (q123)
theorem ok_tb123:TbOk env (tb123):=addFunF ok_tb109 123 (by kernel_rfl) _ (q123_eq)
def S124:FunS:=⟨[⟨true,(.int .i64)⟩],[],[⟨true, .bool⟩],[]⟩
def F124:List D→Option (List D):=liftX env tb123 60 12 124 S124
theorem F124_eq (sn0:Int):F124 [(D.int sn0)] =
 some [(D.bool (qiteB (qiteB (qcmp BinOp.eql sn0 1) Bool.true (qcmp BinOp.eql sn0 2)) Bool.true (qcmp BinOp.eql sn0 4)))]:=by kernel_rfl
def q124:List D→Option (List D):=veil (F124)
theorem q124_eq:q124=F124:=veil_eq _
def tb124:Tb:=Tb.addF tb123 124 S124 (q124)
theorem ok_tb124:TbOk env (tb124):=addFunF ok_tb123 124 (by kernel_rfl) _ (q124_eq)
def S93:FunS:=⟨[⟨true,(.int .i64)⟩],[],[⟨true,(.int .i64)⟩],[]⟩
def F93:List D→Option (List D):=liftX env tb124 60 12 93 S93
theorem F93_eq (sn0:Int):F93 [(D.int sn0)] =
 bif (qiteB (qcmp BinOp.eql sn0 1) (qcmp BinOp.eql sn0 1) (qiteB (qcmp BinOp.eql sn0 4) (qcmp BinOp.eql sn0 4) (qiteB (qcmp BinOp.eql sn0 7) (qcmp BinOp.eql sn0 7) (qcmp BinOp.eql sn0 8))))then
 some [(D.int 1)]
 else
 bif (qcmp BinOp.eql sn0 2)then
 some [(D.int 2)]
 else
 bif (qiteB (qcmp BinOp.eql sn0 3) (qcmp BinOp.eql sn0 3) (qiteB (qcmp BinOp.eql sn0 5) (qcmp BinOp.eql sn0 5) (qiteB (qcmp BinOp.eql sn0 6) (qcmp BinOp.eql sn0 6) (qiteB (qcmp BinOp.eql sn0 9) (qcmp BinOp.eql sn0 9) (qcmp BinOp.eql sn0 10)))))then
 some [(D.int 0)]
 else
 some [(D.int (-1))]:=by kernel_rfl
def q93:List D→Option (List D):=veil (F93)
theorem q93_eq:q93=F93:=veil_eq _
def tb93:Tb:=Tb.addF tb124 93 S93 (q93)
theorem ok_tb93:TbOk env (tb93):=addFunF ok_tb124 93 (by kernel_rfl) _ (q93_eq)
def S110:FunS:=⟨[⟨true,(.int .i64)⟩],[],[⟨true,(.int .i64)⟩],[]⟩
def F110:List D→Option (List D):=liftX env tb93 60 12 110 S110
theorem F110_eq (sn0:Int):F110 [(D.int sn0)] =
 bif (qcmp BinOp.eql sn0 2)then
 some [(D.int 2)]
 else
 bif (qiteB (qcmp BinOp.eql sn0 1) (qcmp BinOp.eql sn0 1) (qiteB (qcmp BinOp.eql sn0 4) (qcmp BinOp.eql sn0 4) (qiteB (qcmp BinOp.eql sn0 7) (qcmp BinOp.eql sn0 7) (qcmp BinOp.eql sn0 8))))then
 some [(D.int 1)]
 else
 some [(D.int 0)]:=by kernel_rfl
def q110:List D→Option (List D):=veil (F110)
theorem q110_eq:q110=F110:=veil_eq _
def tb110:Tb:=Tb.addF tb93 110 S110 (q110)
theorem ok_tb110:TbOk env (tb110):=addFunF ok_tb93 110 (by kernel_rfl) _ (q110_eq)
def S94:FunS:=⟨[⟨true,(.dat 57)⟩],[],[⟨true, .bool⟩],[]⟩
def F94:List D→Option (List D):=liftX env tb110 60 12 94 S94
theorem F94_e (sd0:D):F94 [sd0] =
 let x0:=qint (qfld sd0 0)
 let x1:=qcmp .eql x0 1
 let x2:=qint (qfld sd0 1)
 let x3:=q123 [.int x2]
 let x4:Option (List D):=some [.bool false]
 let x5:=qint (qfld sd0 2)
 let x6:=qcmp .eql x5 0
 let x7:=qint (qfld sd0 5)
 let x8:=qcmp .eql x7 0
 let x9:=qint (qfld sd0 3)
 let x10:=qcmp .eql x9 0
 let x11:=qint (qfld sd0 4)
 let x12:=qcmp .eql x11 0
 let x13:=qlen (qfld sd0 7)
 let x14:=qcmp .eql x13 0
 let x15:=q124 [.int x5]
 let x16:=qcmp .eql x2 0
 let x17:=qiteB x16 x6 false
 let x18:=qiteB x17 x8 false
 let x19:=qiteB x18 (qcmp .eql x9 x9) false
 let x20:=qiteB (qiteB x18 x10 false) x12 false
 bif qiteB x1 x1 (qcmp .eql x0 3)then gd (qsome x3)<|bif qnot (qbool (qnth x3 0))then x4 else some [.bool (qiteB (qiteB (qiteB (qiteB (qiteB (qcmp .eql x2 x2) x6 false) x8 false) x10 false) x12 false) x14 false)]else bif qcmp .eql x0 2 then gd (qsome x15)<|bif qnot (qbool (qnth x15 0))then x4 else some [.bool (qiteB (qiteB (qiteB (qiteB (qiteB x16 (qcmp .eql x5 x5) false) x8 false) x10 false) x12 false) x14 false)]else bif qcmp .eql x0 5 then some [.bool (qiteB (qiteB (qiteB (qiteB x17 (qcmp .eql x7 x7) false) x10 false) x12 false) x14 false)]else bif qcmp .eql x0 6 then some [.bool (qiteB (qiteB x19 x12 false) x14 false)]else bif qcmp .eql x0 7 then some [.bool (qiteB (qiteB x19 (qcmp .eql x11 x11) false) x14 false)]else bif qcmp .eql x0 8 then bif qiteB (qcmp .lss x13 1) true (qcmp .gtr x13 64)then x4 else some [.bool (qiteB x20 (qcmp .eql x13 x13) false)]else some [.bool (qiteB x20 x14 false)]:=by kernel_rfl
def F94_eq:=by have h:= @F94_e;simp only[ge_id,gd,qeqD_self,qeqI_self,qeq_len,qeq_l,cond_true]at h;exact h
def q94:List D→Option (List D):=veil (F94)
theorem q94_eq:q94=F94:=veil_eq _
def tb94:Tb:=Tb.addF tb110 94 S94 (q94)
theorem ok_tb94:TbOk env (tb94):=addFunF ok_tb110 94 (by kernel_rfl) _ (q94_eq)
def S112:FunS:=⟨[⟨true,(.dat 57)⟩],[],[⟨true, .bool⟩],[]⟩
def F112:List D→Option (List D):=liftX env tb94 60 12 112 S112
theorem F112_e (sd0:D):F112 [sd0] =
 let x0:=qint (qfld sd0 0)
 let x1:=qcmp .eql x0 7
 some [.bool (qiteB (qiteB (qiteB (qiteB (qiteB (qiteB (qiteB (qcmp .eql x0 1) true (qcmp .eql x0 3)) true (qcmp .eql (qint (qfld sd0 1)) 0)) (qiteB (qcmp .eql x0 2) true (qcmp .eql (qint (qfld sd0 2)) 0)) false) (qiteB (qiteB (qcmp .eql x0 6) true x1) true (qcmp .eql (qint (qfld sd0 3)) 0)) false) (qiteB x1 true (qcmp .eql (qint (qfld sd0 4)) 0)) false) (qiteB (qcmp .eql x0 5) true (qcmp .eql (qint (qfld sd0 5)) 0)) false) (qiteB (qcmp .eql x0 8) true (qcmp .eql (qlen (qfld sd0 7)) 0)) false)]:=by kernel_rfl
def F112_eq:=by have h:= @F112_e;simp only[ge_id,gd,qeqD_self,qeqI_self,qeq_len,qeq_l,cond_true]at h;exact h
def q112:List D→Option (List D):=veil (F112)
theorem q112_eq:q112=F112:=veil_eq _
def tb112:Tb:=Tb.addF tb94 112 S112 (q112)
theorem ok_tb112:TbOk env (tb112):=addFunF ok_tb94 112 (by kernel_rfl) _ (q112_eq)
end
end Go.Proofs.YtfdedgmlafelaaaGreatDoor
open Go Go.AM
namespace Go.Proofs.YtfdedgmlafelaaaGreatDoor
noncomputable section
set_option maxRecDepth 100000
set_option linter.unusedSimpArgs false
set_option linter.unusedVariables false
set_option linter.defProp false
def S98:FunS:=⟨[⟨true,(.dat 61)⟩,⟨true,(.int .i64)⟩],[],[⟨true, .bool⟩],[]⟩
def tbR98 (Q:List D→Option (List D)):Tb:=Tb.addF tb112 98 S98 Q
theorem ok_tbR98 (Q:List D→Option (List D)) (hQ:SoundF env.P 98 S98 Q):TbOk env (tbR98 Q):=TbOk.addF ok_tb112 (by kernel_rfl) hQ
def S129:FunS:=⟨[⟨true,(.dat 61)⟩,⟨true,(.eptr [(.int .i64)])⟩],[],[⟨true, .bool⟩],[]⟩
def F129 (Q:List D→Option (List D)):List D→Option (List D):=liftX env (tbR98 Q) 60 12 129 S129
theorem F129_eq (Q:List D→Option (List D)) (sd0:D) (sn1:Int):F129 Q [sd0,(D.int sn1)] =
 bif (qsome (Q [sd0,(D.int (qbin BinOp.sub IntKind.i64 sn1 1))]))then
 some [(D.bool (qnot (qbool (qnth (Q [sd0,(D.int (qbin BinOp.sub IntKind.i64 sn1 1))]) 0))))]
 else
 none:=by kernel_rfl
def q129 (Q:List D→Option (List D)):List D→Option (List D):=veil (F129 Q)
theorem q129_eq (Q:List D→Option (List D)):q129 Q=F129 Q:=veil_eq _
def tb129 (Q:List D→Option (List D)):Tb:=Tb.addF (tbR98 Q) 129 S129 (q129 Q)
theorem ok_tb129 (Q:List D→Option (List D)) (hQ:SoundF env.P 98 S98 Q):TbOk env (tb129 Q):=addFunF (ok_tbR98 Q hQ) 129 (by kernel_rfl) _ (q129_eq Q)
def S149_129_2:LoopS:=⟨0,[⟨false,(.rows 61)⟩,⟨false,(.func 129 [] [(.eptr [(.int .i64)])])⟩,uF,uF,⟨false,(.lit (.int .i64 0))⟩,uF,uF,⟨false,(.int .i64)⟩,⟨true,(.int .i64)⟩,uF,uF,uF,uF,uF,uF,uF,uF,uF,uF],[],[⟨0,0,[⟨false,(.rows 61)⟩,⟨false,(.func 129 [] [(.eptr [(.int .i64)])])⟩,uT,uT,⟨true,(.lit (.int .i64 0))⟩,uT,uT,⟨false,(.int .i64)⟩,uT,uT,uT,uT,uT,uT,uT,uT,uT,uT,uT],[]⟩,⟨1,0,[⟨false,(.rows 61)⟩,⟨false,(.func 129 [] [(.eptr [(.int .i64)])])⟩,uT,uT,⟨true,(.int .i64)⟩,uT,uT,⟨false,(.int .i64)⟩,uT,uT,uT,uT,uT,uT,uT,uT,uT,uT,uT],[]⟩]⟩
def st149_129_2 (Q:List D→Option (List D)) (p s:List D):Option (Sum (List D) (List D)):=stepQX env (tb129 Q) 60 12 149 (loopC 149 2) S149_129_2 p s
theorem st149_129_2_e (Q:List D→Option (List D)) (pd0:D) (pn1:Int) (pn2:Int) (sn0:Int):st149_129_2 Q [pd0,(D.int pn1),(D.int pn2)] [(D.int sn0)] =
 let x0:=D.int pn1
 let x1:=q129 Q [qget pd0 sn0,x0]
 let x2:=D.int pn2
 bif qcmp .lss sn0 pn2 then gd (qinb pd0 sn0)<|gd (qsome x1)<|bif qbool (qnth x1 0)then ge pd0<|ge x0<|ge x2<|some (Sum.inr [.int 1,.int sn0])else ge pd0<|ge x0<|ge x2<|some (Sum.inl [.int (qbin .add .i64 sn0 1)])else ge pd0<|ge x0<|ge x2<|some (Sum.inr [.int 0]):=by kernel_rfl
def st149_129_2_eq:=by have h:= @st149_129_2_e;simp only[ge_id,gd,qeqD_self,qeqI_self,qeq_len,qeq_l,cond_true]at h;exact h
def l149_129_2 (Q:List D→Option (List D)):List D→List D→Option (List D):=veil fun p s=>loW (st149_129_2 Q p) s
theorem l149_129_2_eq (Q:List D→Option (List D)):l149_129_2 Q=fun p s=>loW (st149_129_2 Q p) s:=veil_eq _
def tbl149_129_2 (Q:List D→Option (List D)):Tb:=Tb.addL (tb129 Q) 149 2 S149_129_2.n0 (mkLp S149_129_2 (l149_129_2 Q))
theorem ok_tbl149_129_2 (Q:List D→Option (List D)) (hQ:SoundF env.P 98 S98 Q):TbOk env (tbl149_129_2 Q):=addLoopQ (ok_tb129 Q hQ) 149 2 (by kernel_rfl) _ (l149_129_2_eq Q)
def S149_129:FunS:=⟨[⟨true,(.rows 61)⟩,⟨true,(.func 129 [] [(.eptr [(.int .i64)])])⟩],[],[⟨true,(.int .i64)⟩],[]⟩
def F149_129 (Q:List D→Option (List D)):List D→Option (List D):=liftX env (tbl149_129_2 Q) 60 12 149 S149_129
theorem F149_129_eq (Q:List D→Option (List D)) (sd0:D) (sn1:Int):F149_129 Q [sd0,(D.int sn1)] =
 bif (qsome (l149_129_2 Q [sd0,(D.int sn1),(D.int (qlen sd0))] [(D.int 0)]))then
 bif (qcmp BinOp.eql (qint (qnth (l149_129_2 Q [sd0,(D.int sn1),(D.int (qlen sd0))] [(D.int 0)]) 0)) 0)then
 some [(D.int (-1))]
 else
 some [(D.int (qint (qnth (l149_129_2 Q [sd0,(D.int sn1),(D.int (qlen sd0))] [(D.int 0)]) 1)))]
 else
 none:=by kernel_rfl
def q149_129 (Q:List D→Option (List D)):List D→Option (List D):=veil (F149_129 Q)
theorem q149_129_eq (Q:List D→Option (List D)):q149_129 Q=F149_129 Q:=veil_eq _
def tb149_129 (Q:List D→Option (List D)):Tb:=Tb.addF (tbl149_129_2 Q) 149 S149_129 (q149_129 Q)
theorem ok_tb149_129 (Q:List D→Option (List D)) (hQ:SoundF env.P 98 S98 Q):TbOk env (tb149_129 Q):=addFunF (ok_tbl149_129_2 Q hQ) 149 (by kernel_rfl) _ (q149_129_eq Q)
def S128_129:FunS:=⟨[⟨true,(.rows 61)⟩,⟨true,(.func 129 [] [(.eptr [(.int .i64)])])⟩],[],[⟨true, .bool⟩],[]⟩
def F128_129 (Q:List D→Option (List D)):List D→Option (List D):=liftX env (tb149_129 Q) 60 12 128 S128_129
theorem F128_129_eq (Q:List D→Option (List D)) (sd0:D) (sn1:Int):F128_129 Q [sd0,(D.int sn1)] =
 bif (qsome (q149_129 Q [sd0,(D.int sn1)]))then
 some [(D.bool (qcmp BinOp.geq (qint (qnth (q149_129 Q [sd0,(D.int sn1)]) 0)) 0))]
 else
 none:=by kernel_rfl
def q128_129 (Q:List D→Option (List D)):List D→Option (List D):=veil (F128_129 Q)
theorem q128_129_eq (Q:List D→Option (List D)):q128_129 Q=F128_129 Q:=veil_eq _
def tb128_129 (Q:List D→Option (List D)):Tb:=Tb.addF (tb149_129 Q) 128 S128_129 (q128_129 Q)
theorem ok_tb128_129 (Q:List D→Option (List D)) (hQ:SoundF env.P 98 S98 Q):TbOk env (tb128_129 Q):=addFunF (ok_tb149_129 Q hQ) 128 (by kernel_rfl) _ (q128_129_eq Q)
def Fb98 (Q:List D→Option (List D)):List D→Option (List D):=liftX env (tb128_129 Q) 60 12 98 S98
theorem Fb98_eq (Q:List D→Option (List D)) (sd0:D) (sn1:Int):Fb98 Q [sd0,(D.int sn1)] =
 bif (qiteB (qcmp BinOp.geq sn1 1) (qsome (q128_129 Q [(qfld sd0 4),(D.int sn1)])) Bool.true)then
 some [(D.bool (qiteB (qcmp BinOp.geq sn1 1) (qnot (qbool (qnth (q128_129 Q [(qfld sd0 4),(D.int sn1)]) 0))) Bool.false))]
 else
 none:=by kernel_rfl
def F98:Nat→List D→Option (List D):=levels Fb98
theorem F98_s (n:Nat):F98 (n+1)=Fb98 (F98 n):=rfl
def q98:List D→Option (List D):=veil fun ds=>F98 (fuelL ds) ds
theorem q98_eq:q98=fun ds=>F98 (fuelL ds) ds:=veil_eq _
theorem sound98:SoundF env.P 98 S98 q98:=recF (fun q=>tb128_129 q) (fun q hq=>ok_tb128_129 q hq) q98_eq
def tb98:Tb:=Tb.addF tb112 98 S98 q98
theorem ok_tb98:TbOk env tb98:=TbOk.addF ok_tb112 (by kernel_rfl) sound98
end
end Go.Proofs.YtfdedgmlafelaaaGreatDoor
open Go Go.AM
namespace Go.Proofs.YtfdedgmlafelaaaGreatDoor
noncomputable section
set_option maxRecDepth 100000
set_option linter.unusedSimpArgs false
set_option linter.unusedVariables false
set_option linter.defProp false
def S99:FunS:=⟨[⟨true,(.dat 61)⟩],[],[⟨true, .bool⟩],[]⟩
def tbR99 (Q:List D→Option (List D)):Tb:=Tb.addF tb98 99 S99 Q
theorem ok_tbR99 (Q:List D→Option (List D)) (hQ:SoundF env.P 99 S99 Q):TbOk env (tbR99 Q):=TbOk.addF ok_tb98 (by kernel_rfl) hQ
def S130:FunS:=⟨[⟨true,(.dat 61)⟩],[],[⟨true, .bool⟩],[]⟩
def F130 (Q:List D→Option (List D)):List D→Option (List D):=liftX env (tbR99 Q) 60 12 130 S130
theorem F130_eq (Q:List D→Option (List D)) (sd0:D):F130 Q [sd0] =
 bif (qsome (Q [sd0]))then
 some [(D.bool (qnot (qbool (qnth (Q [sd0]) 0))))]
 else
 none:=by kernel_rfl
def q130 (Q:List D→Option (List D)):List D→Option (List D):=veil (F130 Q)
theorem q130_eq (Q:List D→Option (List D)):q130 Q=F130 Q:=veil_eq _
def tb130 (Q:List D→Option (List D)):Tb:=Tb.addF (tbR99 Q) 130 S130 (q130 Q)
theorem ok_tb130 (Q:List D→Option (List D)) (hQ:SoundF env.P 99 S99 Q):TbOk env (tb130 Q):=addFunF (ok_tbR99 Q hQ) 130 (by kernel_rfl) _ (q130_eq Q)
def S149_130_2:LoopS:=⟨0,[⟨false,(.rows 61)⟩,⟨false,(.func 130 [] [])⟩,uF,uF,⟨false,(.lit (.int .i64 0))⟩,uF,uF,⟨false,(.int .i64)⟩,⟨true,(.int .i64)⟩,uF,uF,uF,uF,uF,uF,uF,uF,uF,uF],[],[⟨0,0,[⟨false,(.rows 61)⟩,uT,uT,uT,⟨true,(.lit (.int .i64 0))⟩,uT,uT,⟨false,(.int .i64)⟩,uT,uT,uT,uT,uT,uT,uT,uT,uT,uT,uT],[]⟩,⟨1,0,[⟨false,(.rows 61)⟩,uT,uT,uT,⟨true,(.int .i64)⟩,uT,uT,⟨false,(.int .i64)⟩,uT,uT,uT,uT,uT,uT,uT,uT,uT,uT,uT],[]⟩]⟩
def st149_130_2 (Q:List D→Option (List D)) (p s:List D):Option (Sum (List D) (List D)):=stepQX env (tb130 Q) 60 12 149 (loopC 149 2) S149_130_2 p s
theorem st149_130_2_e (Q:List D→Option (List D)) (pd0:D) (pn1:Int) (sn0:Int):st149_130_2 Q [pd0,(D.int pn1)] [(D.int sn0)] =
 let x0:=q130 Q [qget pd0 sn0]
 let x1:=D.int pn1
 bif qcmp .lss sn0 pn1 then gd (qinb pd0 sn0)<|gd (qsome x0)<|bif qbool (qnth x0 0)then ge pd0<|ge x1<|some (Sum.inr [.int 1,.int sn0])else ge pd0<|ge x1<|some (Sum.inl [.int (qbin .add .i64 sn0 1)])else ge pd0<|ge x1<|some (Sum.inr [.int 0]):=by kernel_rfl
def st149_130_2_eq:=by have h:= @st149_130_2_e;simp only[ge_id,gd,qeqD_self,qeqI_self,qeq_len,qeq_l,cond_true]at h;exact h
def l149_130_2 (Q:List D→Option (List D)):List D→List D→Option (List D):=veil fun p s=>loW (st149_130_2 Q p) s
theorem l149_130_2_eq (Q:List D→Option (List D)):l149_130_2 Q=fun p s=>loW (st149_130_2 Q p) s:=veil_eq _
def tbl149_130_2 (Q:List D→Option (List D)):Tb:=Tb.addL (tb130 Q) 149 2 S149_130_2.n0 (mkLp S149_130_2 (l149_130_2 Q))
theorem ok_tbl149_130_2 (Q:List D→Option (List D)) (hQ:SoundF env.P 99 S99 Q):TbOk env (tbl149_130_2 Q):=addLoopQ (ok_tb130 Q hQ) 149 2 (by kernel_rfl) _ (l149_130_2_eq Q)
def S149_130:FunS:=⟨[⟨true,(.rows 61)⟩,⟨true,(.func 130 [] [])⟩],[],[⟨true,(.int .i64)⟩],[]⟩
def F149_130 (Q:List D→Option (List D)):List D→Option (List D):=liftX env (tbl149_130_2 Q) 60 12 149 S149_130
theorem F149_130_eq (Q:List D→Option (List D)) (sd0:D):F149_130 Q [sd0] =
 bif (qsome (l149_130_2 Q [sd0,(D.int (qlen sd0))] [(D.int 0)]))then
 bif (qcmp BinOp.eql (qint (qnth (l149_130_2 Q [sd0,(D.int (qlen sd0))] [(D.int 0)]) 0)) 0)then
 some [(D.int (-1))]
 else
 some [(D.int (qint (qnth (l149_130_2 Q [sd0,(D.int (qlen sd0))] [(D.int 0)]) 1)))]
 else
 none:=by kernel_rfl
def q149_130 (Q:List D→Option (List D)):List D→Option (List D):=veil (F149_130 Q)
theorem q149_130_eq (Q:List D→Option (List D)):q149_130 Q=F149_130 Q:=veil_eq _
def tb149_130 (Q:List D→Option (List D)):Tb:=Tb.addF (tbl149_130_2 Q) 149 S149_130 (q149_130 Q)
theorem ok_tb149_130 (Q:List D→Option (List D)) (hQ:SoundF env.P 99 S99 Q):TbOk env (tb149_130 Q):=addFunF (ok_tbl149_130_2 Q hQ) 149 (by kernel_rfl) _ (q149_130_eq Q)
def S128_130:FunS:=⟨[⟨true,(.rows 61)⟩,⟨true,(.func 130 [] [])⟩],[],[⟨true, .bool⟩],[]⟩
def F128_130 (Q:List D→Option (List D)):List D→Option (List D):=liftX env (tb149_130 Q) 60 12 128 S128_130
theorem F128_130_eq (Q:List D→Option (List D)) (sd0:D):F128_130 Q [sd0] =
 bif (qsome (q149_130 Q [sd0]))then
 some [(D.bool (qcmp BinOp.geq (qint (qnth (q149_130 Q [sd0]) 0)) 0))]
 else
 none:=by kernel_rfl
def q128_130 (Q:List D→Option (List D)):List D→Option (List D):=veil (F128_130 Q)
theorem q128_130_eq (Q:List D→Option (List D)):q128_130 Q=F128_130 Q:=veil_eq _
def tb128_130 (Q:List D→Option (List D)):Tb:=Tb.addF (tb149_130 Q) 128 S128_130 (q128_130 Q)
theorem ok_tb128_130 (Q:List D→Option (List D)) (hQ:SoundF env.P 99 S99 Q):TbOk env (tb128_130 Q):=addFunF (ok_tb149_130 Q hQ) 128 (by kernel_rfl) _ (q128_130_eq Q)
def Fb99 (Q:List D→Option (List D)):List D→Option (List D):=liftX env (tb128_130 Q) 60 12 99 S99
theorem Fb99_e (Q:List D→Option (List D)) (sd0:D):Fb99 Q [sd0] =
 let x0:=qint (qfld sd0 0)
 let x1:=qint (qfld sd0 1)
 let x2:=qint (qfld sd0 2)
 let x3:=qcmp .eql x2 0
 let x4:=qint (qfld sd0 3)
 let x5:=qcmp .eql x4 0
 let x6:=qlen (qfld sd0 4)
 let x7:=qcmp .eql x6 0
 let x8:=qiteB (qiteB (qiteB (qcmp .eql x1 x1) x3 false) x5 false) x7 false
 let x9:=q128_130 Q [qfld sd0 4]
 let x10:=qsome x9
 let x11:=qnot (qbool (qnth x9 0))
 let x12:=qcmp .eql x0 2
 let x13:=q123 [.int x2]
 let x14:=qcmp .eql x1 0
 let x15:=qiteB (qiteB (qiteB x14 (qcmp .eql x2 x2) false) x5 false) x7 false
 let x16:=qiteB x14 x3 false
 let x17:=qiteB x16 x5 false
 let x18:=qiteB x17 (qcmp .eql x6 2) false
 let x19:=qcmp .eql x0 16
 let x20:=qcmp .eql x6 1
 let x21:=qiteB x17 x20 false
 let x22:=qcmp .eql x0 18
 let x23:=q124 [.int x4]
 let x24:=qiteB x22 (qbool (qnth x23 0)) false
 let x25:=qiteB (qiteB x16 (qcmp .eql x4 x4) false) x20 false
 bif qcmp .eql x0 1 then gd (qiteB x8 x10 true)<|some [.bool (qiteB x8 x11 false)]else gd (qiteB x12 (qsome x13) true)<|bif qiteB x12 (qbool (qnth x13 0)) false then gd (qiteB x15 x10 true)<|some [.bool (qiteB x15 x11 false)]else bif qiteB (qcmp .geq x0 3) (qcmp .leq x0 15) false then gd (qiteB x18 x10 true)<|some [.bool (qiteB x18 x11 false)]else bif qiteB x19 x19 (qcmp .eql x0 17)then gd (qiteB x21 x10 true)<|some [.bool (qiteB x21 x11 false)]else gd (qiteB x22 (qsome x23) true)<|bif qiteB x24 x24 (qiteB (qcmp .eql x0 19) (qiteB (qcmp .eql x4 1) true (qcmp .eql x4 2)) false)then gd (qiteB x25 x10 true)<|some [.bool (qiteB x25 x11 false)]else some [.bool false]:=by kernel_rfl
def Fb99_eq:=by have h:= @Fb99_e;simp only[ge_id,gd,qeqD_self,qeqI_self,qeq_len,qeq_l,cond_true]at h;exact h
def F99:Nat→List D→Option (List D):=levels Fb99
theorem F99_s (n:Nat):F99 (n+1)=Fb99 (F99 n):=rfl
def q99:List D→Option (List D):=veil fun ds=>F99 (fuelL ds) ds
theorem q99_eq:q99=fun ds=>F99 (fuelL ds) ds:=veil_eq _
theorem sound99:SoundF env.P 99 S99 q99:=recF (fun q=>tb128_130 q) (fun q hq=>ok_tb128_130 q hq) q99_eq
def tb99:Tb:=Tb.addF tb98 99 S99 q99
theorem ok_tb99:TbOk env tb99:=TbOk.addF ok_tb98 (by kernel_rfl) sound99
end
end Go.Proofs.YtfdedgmlafelaaaGreatDoor
open Go Go.AM
namespace Go.Proofs.YtfdedgmlafelaaaGreatDoor
noncomputable section
set_option maxRecDepth 100000
set_option linter.unusedSimpArgs false
set_option linter.unusedVariables false
set_option linter.defProp false
def S144:FunS:=⟨[⟨true,(.dat 61)⟩,⟨true,(.int .i64)⟩],[],[⟨true, .bool⟩],[]⟩
def tbR144 (Q:List D→Option (List D)):Tb:=Tb.addF tb99 144 S144 Q
theorem ok_tbR144 (Q:List D→Option (List D)) (hQ:SoundF env.P 144 S144 Q):TbOk env (tbR144 Q):=TbOk.addF ok_tb99 (by kernel_rfl) hQ
def S144_4:LoopS:=⟨0,[uF,⟨false,(.int .i64)⟩,⟨false,(.ptr 0 0)⟩,uF,⟨false,(.lit (.bool false))⟩,⟨true,(.int .i64)⟩,uF,uF,uF,uF,uF,uF,uF,uF,uF,uF,uF,uF,uF,uF,uF,uF,uF],[(.dat false 61)],[⟨0,0,[uT,⟨false,(.int .i64)⟩,uT,uT,⟨true,(.lit (.bool false))⟩,uT,uT,uT,uT,uT,uT,uT,uT,uT,uT,uT,uT,uT,uT,uT,uT,uT,uT],[(.dat false 61)]⟩,⟨1,0,[uT,⟨false,(.int .i64)⟩,uT,uT,⟨true,(.lit (.bool true))⟩,uT,uT,uT,uT,uT,uT,uT,uT,uT,uT,uT,uT,uT,uT,uT,uT,uT,uT],[(.dat false 61)]⟩]⟩
def st144_4 (Q:List D→Option (List D)) (p s:List D):Option (Sum (List D) (List D)):=stepQX env (tbR144 Q) 60 12 144 (loopC 144 4) S144_4 p s
theorem st144_4_e (Q:List D→Option (List D)) (pn0:Int) (pd1:D) (sn0:Int):st144_4 Q [(D.int pn0),pd1] [(D.int sn0)] =
 let x0:=qfld pd1 4
 let x1:=Q [qget x0 sn0,.int (qbin .sub .i64 pn0 1)]
 let x2:=D.int pn0
 bif qcmp .lss sn0 (qlen x0)then gd (qinb x0 sn0)<|gd (qsome x1)<|bif qbool (qnth x1 0)then ge x2<|ge pd1<|some (Sum.inr [.int 1])else ge x2<|ge pd1<|some (Sum.inl [.int (qbin .add .i64 sn0 1)])else ge x2<|ge pd1<|some (Sum.inr [.int 0]):=by kernel_rfl
def st144_4_eq:=by have h:= @st144_4_e;simp only[ge_id,gd,qeqD_self,qeqI_self,qeq_len,qeq_l,cond_true]at h;exact h
def l144_4 (Q:List D→Option (List D)):List D→List D→Option (List D):=veil fun p s=>loW (st144_4 Q p) s
theorem l144_4_eq (Q:List D→Option (List D)):l144_4 Q=fun p s=>loW (st144_4 Q p) s:=veil_eq _
def tbl144_4 (Q:List D→Option (List D)):Tb:=Tb.addL (tbR144 Q) 144 4 S144_4.n0 (mkLp S144_4 (l144_4 Q))
theorem ok_tbl144_4 (Q:List D→Option (List D)) (hQ:SoundF env.P 144 S144 Q):TbOk env (tbl144_4 Q):=addLoopQ (ok_tbR144 Q hQ) 144 4 (by kernel_rfl) _ (l144_4_eq Q)
def Fb144 (Q:List D→Option (List D)):List D→Option (List D):=liftX env (tbl144_4 Q) 60 12 144 S144
theorem Fb144_eq (Q:List D→Option (List D)) (sd0:D) (sn1:Int):Fb144 Q [sd0,(D.int sn1)] =
 bif (qcmp BinOp.lss sn1 1)then
 some [(D.bool Bool.true)]
 else
 bif (qsome (l144_4 Q [(D.int sn1),sd0] [(D.int 0)]))then
 bif (qcmp BinOp.eql (qint (qnth (l144_4 Q [(D.int sn1),sd0] [(D.int 0)]) 0)) 0)then
 some [(D.bool Bool.false)]
 else
 some [(D.bool Bool.true)]
 else
 none:=by kernel_rfl
def F144:Nat→List D→Option (List D):=levels Fb144
theorem F144_s (n:Nat):F144 (n+1)=Fb144 (F144 n):=rfl
def q144:List D→Option (List D):=veil fun ds=>F144 (fuelL ds) ds
theorem q144_eq:q144=fun ds=>F144 (fuelL ds) ds:=veil_eq _
theorem sound144:SoundF env.P 144 S144 q144:=recF (fun q=>tbl144_4 q) (fun q hq=>ok_tbl144_4 q hq) q144_eq
def tb144:Tb:=Tb.addF tb99 144 S144 q144
theorem ok_tb144:TbOk env tb144:=TbOk.addF ok_tb99 (by kernel_rfl) sound144
def S145:FunS:=⟨[⟨true,(.dat 61)⟩],[],[⟨true, .bool⟩],[]⟩
def tbR145 (Q:List D→Option (List D)):Tb:=Tb.addF tb144 145 S145 Q
theorem ok_tbR145 (Q:List D→Option (List D)) (hQ:SoundF env.P 145 S145 Q):TbOk env (tbR145 Q):=TbOk.addF ok_tb144 (by kernel_rfl) hQ
def S145_2:LoopS:=⟨0,[uF,⟨false,(.ptr 0 0)⟩,⟨false,(.lit (.bool false))⟩,⟨true,(.int .i64)⟩,uF,uF,uF,uF,uF,uF,uF,uF,uF,uF,uF,uF,uF,uF,uF,uF,uF,uF,uF,uF,uF,uF,uF,uF,uF,uF,uF,uF,uF,uF,uF,uF,uF,uF,uF,uF,uF,uF,uF,uF,uF,uF,uF,uF,uF,uF,uF,uF,uF,uF,uF,uF,uF,uF,uF,uF,uF,uF,uF,uF,uF,uF,uF,uF,uF,uF,uF,uF,uF,uF,uF,uF,uF,uF,uF,uF,uF,uF,uF,uF,uF,uF,uF,uF,uF,uF,uF,uF,uF,uF,uF,uF,uF,uF,uF,uF,uF,uF,uF,uF,uF,uF,uF,uF,uF,uF,uF,uF,uF,uF,uF,uF,uF,uF,uF,uF,uF,uF,uF,uF,uF,uF,uF,uF,uF,uF,uF,uF,uF,uF,uF,uF,uF,uF,uF,uF,uF,uF,uF,uF,uF,uF,uF,uF,uF,uF,uF,uF,uF,uF,uF,uF,uF,uF,uF,uF,uF,uF,uF,uF,uF],[(.dat false 61)],[⟨0,0,[uT,⟨true,(.ptr 0 0)⟩,⟨true,(.lit (.bool false))⟩,uT,uT,uT,uT,uT,uT,uT,uT,uT,uT,uT,uT,uT,uT,uT,uT,uT,uT,uT,uT,uT,uT,uT,uT,uT,uT,uT,uT,uT,uT,uT,uT,uT,uT,uT,uT,uT,uT,uT,uT,uT,uT,uT,uT,uT,uT,uT,uT,uT,uT,uT,uT,uT,uT,uT,uT,uT,uT,uT,uT,uT,uT,uT,uT,uT,uT,uT,uT,uT,uT,uT,uT,uT,uT,uT,uT,uT,uT,uT,uT,uT,uT,uT,uT,uT,uT,uT,uT,uT,uT,uT,uT,uT,uT,uT,uT,uT,uT,uT,uT,uT,uT,uT,uT,uT,uT,uT,uT,uT,uT,uT,uT,uT,uT,uT,uT,uT,uT,uT,uT,uT,uT,uT,uT,uT,uT,uT,uT,uT,uT,uT,uT,uT,uT,uT,uT,uT,uT,uT,uT,uT,uT,uT,uT,uT,uT,uT,uT,uT,uT,uT,uT,uT,uT,uT,uT,uT,uT,uT,uT,uT,uT],[(.dat false 61)]⟩,⟨1,0,[uT,uT,⟨true,(.lit (.bool false))⟩,uT,uT,uT,uT,uT,uT,uT,uT,uT,uT,uT,uT,uT,uT,uT,uT,uT,uT,uT,uT,uT,uT,uT,uT,uT,uT,uT,uT,uT,uT,uT,uT,uT,uT,uT,uT,uT,uT,uT,uT,uT,uT,uT,uT,uT,uT,uT,uT,uT,uT,uT,uT,uT,uT,uT,uT,uT,uT,uT,uT,uT,uT,uT,uT,uT,uT,uT,uT,uT,uT,uT,uT,uT,uT,uT,uT,uT,uT,uT,uT,uT,uT,uT,uT,uT,uT,uT,uT,uT,uT,uT,uT,uT,uT,uT,uT,uT,uT,uT,uT,uT,uT,uT,uT,uT,uT,uT,uT,uT,uT,uT,uT,uT,uT,uT,uT,uT,uT,uT,uT,uT,uT,uT,uT,uT,uT,uT,uT,uT,uT,uT,uT,uT,uT,uT,uT,uT,uT,uT,uT,uT,uT,uT,uT,uT,uT,uT,uT,uT,uT,uT,uT,uT,uT,uT,uT,uT,uT,uT,uT,uT,uT],[(.dat false 61)]⟩]⟩
def st145_2 (Q:List D→Option (List D)) (p s:List D):Option (Sum (List D) (List D)):=stepQX env (tbR145 Q) 60 12 145 (loopC 145 2) S145_2 p s
theorem st145_2_e (Q:List D→Option (List D)) (pd0:D) (sn0:Int):st145_2 Q [pd0] [(D.int sn0)] =
 let x0:=qfld pd0 4
 let x1:=Q [qget x0 sn0]
 bif qcmp .lss sn0 (qlen x0)then gd (qinb x0 sn0)<|gd (qsome x1)<|bif qnot (qbool (qnth x1 0))then ge pd0<|some (Sum.inr [.int 1])else ge pd0<|some (Sum.inl [.int (qbin .add .i64 sn0 1)])else ge pd0<|some (Sum.inr [.int 0]):=by kernel_rfl
def st145_2_eq:=by have h:= @st145_2_e;simp only[ge_id,gd,qeqD_self,qeqI_self,qeq_len,qeq_l,cond_true]at h;exact h
def l145_2 (Q:List D→Option (List D)):List D→List D→Option (List D):=veil fun p s=>loW (st145_2 Q p) s
theorem l145_2_eq (Q:List D→Option (List D)):l145_2 Q=fun p s=>loW (st145_2 Q p) s:=veil_eq _
def tbl145_2 (Q:List D→Option (List D)):Tb:=Tb.addL (tbR145 Q) 145 2 S145_2.n0 (mkLp S145_2 (l145_2 Q))
theorem ok_tbl145_2 (Q:List D→Option (List D)) (hQ:SoundF env.P 145 S145 Q):TbOk env (tbl145_2 Q):=addLoopQ (ok_tbR145 Q hQ) 145 2 (by kernel_rfl) _ (l145_2_eq Q)
def Fb145 (Q:List D→Option (List D)):List D→Option (List D):=liftX env (tbl145_2 Q) 60 12 145 S145
theorem Fb145_e (Q:List D→Option (List D)) (sd0:D):Fb145 Q [sd0] =
 let x0:=l145_2 Q [sd0] [.int 0]
 let x1:=qint (qfld sd0 0)
 let x2:=qint (qfld sd0 2)
 let x3:=qcmp .eql x2 0
 let x4:=qint (qfld sd0 3)
 let x5:=qcmp .eql x4 0
 let x6:=qlen (qfld sd0 4)
 let x7:=qcmp .eql x6 0
 let x8:=qcmp .eql (qint (qfld sd0 1)) 0
 let x9:=qiteB (qiteB x8 x5 false) x7 false
 let x10:=q113 [.int x2]
 let x11:=qcmp .eql x1 16
 let x12:=qiteB x8 x3 false
 let x13:=qcmp .eql x6 1
 let x14:=qiteB (qcmp .eql x4 1) true (qcmp .eql x4 2)
 gd (qsome x0)<|bif qcmp .eql (qint (qnth x0 0)) 0 then bif qcmp .eql x1 1 then some [.bool (qiteB (qiteB x3 x5 false) x7 false)]else bif qcmp .eql x1 2 then gd (qiteB x9 (qsome x10) true)<|some [.bool (qiteB x9 (qbool (qnth x10 0)) false)]else bif qiteB x11 x11 (qcmp .eql x1 17)then some [.bool (qiteB (qiteB x12 x5 false) x13 false)]else bif qcmp .eql x1 18 then some [.bool (qiteB (qiteB x12 (qiteB x14 true (qcmp .eql x4 4)) false) x13 false)]else bif qcmp .eql x1 19 then some [.bool (qiteB (qiteB x12 x14 false) x13 false)]else some [.bool (qiteB (qiteB (qiteB (qiteB (qiteB (qcmp .geq x1 3) (qcmp .leq x1 15) false) x8 false) x3 false) x5 false) (qcmp .eql x6 2) false)]else some [.bool false]:=by kernel_rfl
def Fb145_eq:=by have h:= @Fb145_e;simp only[ge_id,gd,qeqD_self,qeqI_self,qeq_len,qeq_l,cond_true]at h;exact h
def F145:Nat→List D→Option (List D):=levels Fb145
theorem F145_s (n:Nat):F145 (n+1)=Fb145 (F145 n):=rfl
def q145:List D→Option (List D):=veil fun ds=>F145 (fuelL ds) ds
theorem q145_eq:q145=fun ds=>F145 (fuelL ds) ds:=veil_eq _
theorem sound145:SoundF env.P 145 S145 q145:=recF (fun q=>tbl145_2 q) (fun q hq=>ok_tbl145_2 q hq) q145_eq
def tb145:Tb:=Tb.addF tb144 145 S145 q145
theorem ok_tb145:TbOk env tb145:=TbOk.addF ok_tb144 (by kernel_rfl) sound145
def S59:FunS:=⟨[⟨true,(.dat 61)⟩],[],[⟨true,(.int .i64)⟩],[]⟩
def F59:List D→Option (List D):=liftX env tb145 60 12 59 S59
theorem F59_eq (sd0:D):F59 [sd0] =
 bif (qsome (q98 [sd0,(D.int 64)]))then
 bif (qnot (qbool (qnth (q98 [sd0,(D.int 64)]) 0)))then
 some [(D.int 20)]
 else
 bif (qsome (q99 [sd0]))then
 bif (qnot (qbool (qnth (q99 [sd0]) 0)))then
 some [(D.int 2)]
 else
 some [(D.int 0)]
 else
 none
 else
 none:=by kernel_rfl
def q59:List D→Option (List D):=veil (F59)
theorem q59_eq:q59=F59:=veil_eq _
def tb59:Tb:=Tb.addF tb145 59 S59 (q59)
theorem ok_tb59:TbOk env (tb59):=addFunF ok_tb145 59 (by kernel_rfl) _ (q59_eq)
def S111:FunS:=⟨[⟨true,(.dat 61)⟩],[],[⟨true,(.int .i64)⟩],[]⟩
def F111:List D→Option (List D):=liftX env tb59 60 12 111 S111
theorem F111_eq (sd0:D):F111 [sd0] =
 bif (qsome (q144 [sd0,(D.int 64)]))then
 bif (qbool (qnth (q144 [sd0,(D.int 64)]) 0))then
 some [(D.int 20)]
 else
 bif (qsome (q145 [sd0]))then
 bif (qnot (qbool (qnth (q145 [sd0]) 0)))then
 some [(D.int 2)]
 else
 some [(D.int 0)]
 else
 none
 else
 none:=by kernel_rfl
def q111:List D→Option (List D):=veil (F111)
theorem q111_eq:q111=F111:=veil_eq _
def tb111:Tb:=Tb.addF tb59 111 S111 (q111)
theorem ok_tb111:TbOk env (tb111):=addFunF ok_tb59 111 (by kernel_rfl) _ (q111_eq)
def S50_5:LoopS:=⟨0,[uF,⟨false,(.ptr 0 0)⟩,⟨false,(.lit (.int .i64 0))⟩,uF,uF,uF,uF,uF,uF,uF,uF,uF,uF,uF,uF,uF,uF,uF,uF,uF,⟨false,(.rows 61)⟩,⟨false,(.int .i64)⟩,⟨true,(.int .i64)⟩,uF,uF,uF,uF,uF,uF,uF,uF,uF,uF,uF,uF],[(.dat false 57)],[⟨0,0,[uT,⟨true,(.ptr 0 0)⟩,⟨true,(.lit (.int .i64 0))⟩,uT,uT,uT,uT,uT,uT,uT,uT,uT,uT,uT,uT,uT,uT,uT,uT,uT,⟨false,(.rows 61)⟩,⟨false,(.int .i64)⟩,uT,uT,uT,uT,uT,uT,uT,uT,uT,uT,uT,uT,uT],[(.dat false 57)]⟩,⟨1,0,[uT,uT,⟨true,(.int .i64)⟩,uT,uT,uT,uT,uT,uT,uT,uT,uT,uT,uT,uT,uT,uT,uT,uT,uT,⟨false,(.rows 61)⟩,⟨false,(.int .i64)⟩,uT,uT,uT,uT,uT,uT,uT,uT,uT,uT,uT,uT,uT],[(.dat false 57)]⟩]⟩
def st50_5 (p s:List D):Option (Sum (List D) (List D)):=stepQX env tb111 60 12 50 (loopC 50 5) S50_5 p s
theorem st50_5_e (pd0:D) (pn1:Int) (pd2:D) (sn0:Int):st50_5 [pd0,(D.int pn1),pd2] [(D.int sn0)] =
 let x0:=q59 [qget pd0 sn0]
 let x1:=qint (qnth x0 0)
 let x2:=D.int pn1
 bif qcmp .lss sn0 pn1 then gd (qinb pd0 sn0)<|gd (qsome x0)<|bif qcmp .neq x1 0 then ge pd0<|ge x2<|ge pd2<|some (Sum.inr [.int 1,.int x1])else ge pd0<|ge x2<|ge pd2<|some (Sum.inl [.int (qbin .add .i64 sn0 1)])else ge pd0<|ge x2<|ge pd2<|some (Sum.inr [.int 0]):=by kernel_rfl
def st50_5_eq:=by have h:= @st50_5_e;simp only[ge_id,gd,qeqD_self,qeqI_self,qeq_len,qeq_l,cond_true]at h;exact h
def l50_5:List D→List D→Option (List D):=veil fun p s=>loW (st50_5 p) s
theorem l50_5_eq:l50_5=fun p s=>loW (st50_5 p) s:=veil_eq _
def tbl50_5:Tb:=Tb.addL tb111 50 5 S50_5.n0 (mkLp S50_5 (l50_5))
theorem ok_tbl50_5:TbOk env (tbl50_5):=addLoopQ ok_tb111 50 5 (by kernel_rfl) _ (l50_5_eq)
def S50:FunS:=⟨[⟨true,(.dat 57)⟩],[],[⟨true,(.int .i64)⟩],[]⟩
def F50:List D→Option (List D):=liftX env tbl50_5 60 12 50 S50
theorem F50_e (sd0:D):F50 [sd0] =
 let x0:=q93 [.int (qint (qfld sd0 0))]
 let x1:=qint (qnth x0 0)
 let x2:Option (List D):=some [.int 2]
 let x3:=l50_5 [qfld sd0 6,.int (qlen (qfld sd0 6)),sd0] [.int 0]
 let x4:=q94 [sd0]
 gd (qsome x0)<|bif qiteB (qcmp .lss x1 0) true (qcmp .neq x1 (qlen (qfld sd0 6)))then x2 else gd (qsome x3)<|bif qcmp .eql (qint (qnth x3 0)) 0 then gd (qsome x4)<|bif qnot (qbool (qnth x4 0))then x2 else some [.int 0]else some [.int (qint (qnth x3 1))]:=by kernel_rfl
def F50_eq:=by have h:= @F50_e;simp only[ge_id,gd,qeqD_self,qeqI_self,qeq_len,qeq_l,cond_true]at h;exact h
def q50:List D→Option (List D):=veil (F50)
theorem q50_eq:q50=F50:=veil_eq _
def tb50:Tb:=Tb.addF tbl50_5 50 S50 (q50)
theorem ok_tb50:TbOk env (tb50):=addFunF ok_tbl50_5 50 (by kernel_rfl) _ (q50_eq)
def S72_4:LoopS:=⟨0,[uF,⟨false,(.ptr 0 0)⟩,⟨false,(.lit (.int .i64 0))⟩,⟨true,(.int .i64)⟩,uF,uF,uF,uF,uF,uF,uF,uF,uF,uF,uF,uF,uF,uF,uF,uF,uF,uF,uF,uF,uF,uF,uF,uF,uF,uF,uF,uF,uF,uF,uF,uF,uF,uF,uF,uF,uF,uF,uF,uF,uF,uF,uF,uF,uF,uF,uF,uF,uF,uF,uF,uF,uF,uF,uF,uF,uF,uF,uF,uF,uF,uF,uF,uF,uF,uF,uF,uF,uF,uF,uF,uF,uF,uF,uF,uF,uF,uF],[(.dat false 57)],[⟨0,0,[uT,⟨true,(.ptr 0 0)⟩,⟨true,(.lit (.int .i64 0))⟩,uT,uT,uT,uT,uT,uT,uT,uT,uT,uT,uT,uT,uT,uT,uT,uT,uT,uT,uT,uT,uT,uT,uT,uT,uT,uT,uT,uT,uT,uT,uT,uT,uT,uT,uT,uT,uT,uT,uT,uT,uT,uT,uT,uT,uT,uT,uT,uT,uT,uT,uT,uT,uT,uT,uT,uT,uT,uT,uT,uT,uT,uT,uT,uT,uT,uT,uT,uT,uT,uT,uT,uT,uT,uT,uT,uT,uT,uT,uT],[(.dat false 57)]⟩,⟨1,0,[uT,uT,⟨true,(.int .i64)⟩,uT,uT,uT,uT,uT,uT,uT,uT,uT,uT,uT,uT,uT,uT,uT,uT,uT,uT,uT,uT,uT,uT,uT,uT,uT,uT,uT,uT,uT,uT,uT,uT,uT,uT,uT,uT,uT,uT,uT,uT,uT,uT,uT,uT,uT,uT,uT,uT,uT,uT,uT,uT,uT,uT,uT,uT,uT,uT,uT,uT,uT,uT,uT,uT,uT,uT,uT,uT,uT,uT,uT,uT,uT,uT,uT,uT,uT,uT,uT],[(.dat false 57)]⟩]⟩
def st72_4 (p s:List D):Option (Sum (List D) (List D)):=stepQX env tb50 60 12 72 (loopC 72 4) S72_4 p s
theorem st72_4_e (pd0:D) (sn0:Int):st72_4 [pd0] [(D.int sn0)] =
 let x0:=qfld pd0 6
 let x1:=q111 [qget x0 sn0]
 let x2:=qint (qnth x1 0)
 bif qcmp .lss sn0 (qlen x0)then gd (qinb x0 sn0)<|gd (qsome x1)<|bif qcmp .neq x2 0 then ge pd0<|some (Sum.inr [.int 1,.int x2])else ge pd0<|some (Sum.inl [.int (qbin .add .i64 sn0 1)])else ge pd0<|some (Sum.inr [.int 0]):=by kernel_rfl
def st72_4_eq:=by have h:= @st72_4_e;simp only[ge_id,gd,qeqD_self,qeqI_self,qeq_len,qeq_l,cond_true]at h;exact h
def l72_4:List D→List D→Option (List D):=veil fun p s=>loW (st72_4 p) s
theorem l72_4_eq:l72_4=fun p s=>loW (st72_4 p) s:=veil_eq _
def tbl72_4:Tb:=Tb.addL tb50 72 4 S72_4.n0 (mkLp S72_4 (l72_4))
theorem ok_tbl72_4:TbOk env (tbl72_4):=addLoopQ ok_tb50 72 4 (by kernel_rfl) _ (l72_4_eq)
def S72:FunS:=⟨[⟨true,(.dat 57)⟩],[],[⟨true,(.int .i64)⟩],[]⟩
def F72:List D→Option (List D):=liftX env tbl72_4 60 12 72 S72
theorem F72_e (sd0:D):F72 [sd0] =
 let x0:=qint (qfld sd0 0)
 let x1:Option (List D):=some [.int 2]
 let x2:=q110 [.int x0]
 let x3:=l72_4 [sd0] [.int 0]
 let x4:=q112 [sd0]
 let x5:=qnot (qbool (qnth x4 0))
 let x6:=q113 [.int (qint (qfld sd0 1))]
 let x7:=qint (qfld sd0 2)
 let x8:=qlen (qfld sd0 7)
 bif qcmp .lss x0 1 then x1 else bif qcmp .gtr x0 10 then x1 else gd (qsome x2)<|bif qcmp .neq (qlen (qfld sd0 6)) (qint (qnth x2 0))then x1 else gd (qsome x3)<|bif qcmp .eql (qint (qnth x3 0)) 0 then gd (qsome x4)<|gd (qiteB x5 true (qsome x6))<|bif qiteB (qiteB x5 true (qnot (qbool (qnth x6 0)))) true (qiteB (qiteB (qiteB (qcmp .eql x0 2) (qcmp .neq x7 1) false) (qcmp .neq x7 2) false) (qcmp .neq x7 4) false)then x1 else bif qiteB (qcmp .eql x0 8) (qiteB (qcmp .lss x8 1) true (qcmp .gtr x8 64)) false then x1 else some [.int 0]else some [.int (qint (qnth x3 1))]:=by kernel_rfl
def F72_eq:=by have h:= @F72_e;simp only[ge_id,gd,qeqD_self,qeqI_self,qeq_len,qeq_l,cond_true]at h;exact h
def q72:List D→Option (List D):=veil (F72)
theorem q72_eq:q72=F72:=veil_eq _
def tb72:Tb:=Tb.addF tbl72_4 72 S72 (q72)
theorem ok_tb72:TbOk env (tb72):=addFunF ok_tbl72_4 72 (by kernel_rfl) _ (q72_eq)
end
end Go.Proofs.YtfdedgmlafelaaaGreatDoor
open Go Go.AM
namespace Go.Proofs.YtfdedgmlafelaaaGreatDoor
noncomputable section
set_option maxRecDepth 100000
set_option linter.unusedSimpArgs false
set_option linter.unusedVariables false
set_option linter.defProp false
def S116_90_2:LoopS:=⟨0,[⟨false,(.rows 57)⟩,⟨false,(.func 90 [] [])⟩,uF,uF,⟨false,(.lit (.int .i64 0))⟩,uF,uF,⟨false,(.int .i64)⟩,⟨true,(.int .i64)⟩,uF,uF,uF,uF,uF,uF,uF,uF,uF,uF],[],[⟨0,0,[⟨false,(.rows 57)⟩,uT,uT,uT,⟨true,(.lit (.int .i64 0))⟩,uT,uT,⟨false,(.int .i64)⟩,uT,uT,uT,uT,uT,uT,uT,uT,uT,uT,uT],[]⟩,⟨1,0,[⟨false,(.rows 57)⟩,uT,uT,uT,⟨true,(.int .i64)⟩,uT,uT,⟨false,(.int .i64)⟩,uT,uT,uT,uT,uT,uT,uT,uT,uT,uT,uT],[]⟩]⟩
def st116_90_2 (p s:List D):Option (Sum (List D) (List D)):=stepQX env tb72 60 12 116 (loopC 116 2) S116_90_2 p s
theorem st116_90_2_e (pd0:D) (pn1:Int) (sn0:Int):st116_90_2 [pd0,(D.int pn1)] [(D.int sn0)] =
 let x0:=q90 [qget pd0 sn0]
 let x1:=D.int pn1
 bif qcmp .lss sn0 pn1 then gd (qinb pd0 sn0)<|gd (qsome x0)<|bif qbool (qnth x0 0)then ge pd0<|ge x1<|some (Sum.inr [.int 1,.int sn0])else ge pd0<|ge x1<|some (Sum.inl [.int (qbin .add .i64 sn0 1)])else ge pd0<|ge x1<|some (Sum.inr [.int 0]):=by kernel_rfl
def st116_90_2_eq:=by have h:= @st116_90_2_e;simp only[ge_id,gd,qeqD_self,qeqI_self,qeq_len,qeq_l,cond_true]at h;exact h
def l116_90_2:List D→List D→Option (List D):=veil fun p s=>loW (st116_90_2 p) s
theorem l116_90_2_eq:l116_90_2=fun p s=>loW (st116_90_2 p) s:=veil_eq _
def tbl116_90_2:Tb:=Tb.addL tb72 116 2 S116_90_2.n0 (mkLp S116_90_2 (l116_90_2))
theorem ok_tbl116_90_2:TbOk env (tbl116_90_2):=addLoopQ ok_tb72 116 2 (by kernel_rfl) _ (l116_90_2_eq)
def S116_90:FunS:=⟨[⟨true,(.rows 57)⟩,⟨true,(.func 90 [] [])⟩],[],[⟨true,(.int .i64)⟩],[]⟩
def F116_90:List D→Option (List D):=liftX env tbl116_90_2 60 12 116 S116_90
theorem F116_90_eq (sd0:D):F116_90 [sd0] =
 bif (qsome (l116_90_2 [sd0,(D.int (qlen sd0))] [(D.int 0)]))then
 bif (qcmp BinOp.eql (qint (qnth (l116_90_2 [sd0,(D.int (qlen sd0))] [(D.int 0)]) 0)) 0)then
 some [(D.int (-1))]
 else
 some [(D.int (qint (qnth (l116_90_2 [sd0,(D.int (qlen sd0))] [(D.int 0)]) 1)))]
 else
 none:=by kernel_rfl
def q116_90:List D→Option (List D):=veil (F116_90)
theorem q116_90_eq:q116_90=F116_90:=veil_eq _
def tb116_90:Tb:=Tb.addF tbl116_90_2 116 S116_90 (q116_90)
theorem ok_tb116_90:TbOk env (tb116_90):=addFunF ok_tbl116_90_2 116 (by kernel_rfl) _ (q116_90_eq)
def S79_90:FunS:=⟨[⟨true,(.rows 57)⟩,⟨true,(.func 90 [] [])⟩],[],[⟨true, .bool⟩],[]⟩
def F79_90:List D→Option (List D):=liftX env tb116_90 60 12 79 S79_90
theorem F79_90_eq (sd0:D):F79_90 [sd0] =
 bif (qsome (q116_90 [sd0]))then
 some [(D.bool (qcmp BinOp.geq (qint (qnth (q116_90 [sd0]) 0)) 0))]
 else
 none:=by kernel_rfl
def q79_90:List D→Option (List D):=veil (F79_90)
theorem q79_90_eq:q79_90=F79_90:=veil_eq _
def tb79_90:Tb:=Tb.addF tb116_90 79 S79_90 (q79_90)
theorem ok_tb79_90:TbOk env (tb79_90):=addFunF ok_tb116_90 79 (by kernel_rfl) _ (q79_90_eq)
def S92:FunS:=⟨[⟨true,(.int .i64)⟩,⟨true,(.edat 25)⟩],[],[⟨true, .bool⟩],[]⟩
def F92:List D→Option (List D):=liftX env tb79_90 60 12 92 S92
theorem F92_eq (sn0:Int) (sd1:D):F92 [(D.int sn0),sd1] =
 some [(D.bool (qiteB (qcmp BinOp.lss sn0 0) Bool.true (qcmp BinOp.geq sn0 (qlen (qfld sd1 1)))))]:=by kernel_rfl
def q92:List D→Option (List D):=veil (F92)
theorem q92_eq:q92=F92:=veil_eq _
def tb92:Tb:=Tb.addF tb79_90 92 S92 (q92)
theorem ok_tb92:TbOk env (tb92):=addFunF ok_tb79_90 92 (by kernel_rfl) _ (q92_eq)
def S122_92_2:LoopS:=⟨0,[⟨false,(.rows 3)⟩,⟨false,(.func 92 [] [(.edat 25)])⟩,uF,uF,⟨false,(.lit (.int .i64 0))⟩,uF,uF,⟨false,(.int .i64)⟩,⟨true,(.int .i64)⟩,uF,uF,uF,uF,uF,uF,uF,uF,uF,uF],[],[⟨0,0,[⟨false,(.rows 3)⟩,⟨false,(.func 92 [] [(.edat 25)])⟩,uT,uT,⟨true,(.lit (.int .i64 0))⟩,uT,uT,⟨false,(.int .i64)⟩,uT,uT,uT,uT,uT,uT,uT,uT,uT,uT,uT],[]⟩,⟨1,0,[⟨false,(.rows 3)⟩,⟨false,(.func 92 [] [(.edat 25)])⟩,uT,uT,⟨true,(.int .i64)⟩,uT,uT,⟨false,(.int .i64)⟩,uT,uT,uT,uT,uT,uT,uT,uT,uT,uT,uT],[]⟩]⟩
def st122_92_2 (p s:List D):Option (Sum (List D) (List D)):=stepQX env tb92 60 12 122 (loopC 122 2) S122_92_2 p s
theorem st122_92_2_e (pd0:D) (pd1:D) (pn2:Int) (sn0:Int):st122_92_2 [pd0,pd1,(D.int pn2)] [(D.int sn0)] =
 let x0:=q92 [.int (qint (qget pd0 sn0)),pd1]
 let x1:=D.int pn2
 bif qcmp .lss sn0 pn2 then gd (qinb pd0 sn0)<|gd (qsome x0)<|bif qbool (qnth x0 0)then ge pd0<|ge pd1<|ge x1<|some (Sum.inr [.int 1,.int sn0])else ge pd0<|ge pd1<|ge x1<|some (Sum.inl [.int (qbin .add .i64 sn0 1)])else ge pd0<|ge pd1<|ge x1<|some (Sum.inr [.int 0]):=by kernel_rfl
def st122_92_2_eq:=by have h:= @st122_92_2_e;simp only[ge_id,gd,qeqD_self,qeqI_self,qeq_len,qeq_l,cond_true]at h;exact h
def l122_92_2:List D→List D→Option (List D):=veil fun p s=>loW (st122_92_2 p) s
theorem l122_92_2_eq:l122_92_2=fun p s=>loW (st122_92_2 p) s:=veil_eq _
def tbl122_92_2:Tb:=Tb.addL tb92 122 2 S122_92_2.n0 (mkLp S122_92_2 (l122_92_2))
theorem ok_tbl122_92_2:TbOk env (tbl122_92_2):=addLoopQ ok_tb92 122 2 (by kernel_rfl) _ (l122_92_2_eq)
def S122_92:FunS:=⟨[⟨true,(.rows 3)⟩,⟨true,(.func 92 [] [(.edat 25)])⟩],[],[⟨true,(.int .i64)⟩],[]⟩
def F122_92:List D→Option (List D):=liftX env tbl122_92_2 60 12 122 S122_92
theorem F122_92_eq (sd0:D) (sd1:D):F122_92 [sd0,sd1] =
 bif (qsome (l122_92_2 [sd0,sd1,(D.int (qlen sd0))] [(D.int 0)]))then
 bif (qcmp BinOp.eql (qint (qnth (l122_92_2 [sd0,sd1,(D.int (qlen sd0))] [(D.int 0)]) 0)) 0)then
 some [(D.int (-1))]
 else
 some [(D.int (qint (qnth (l122_92_2 [sd0,sd1,(D.int (qlen sd0))] [(D.int 0)]) 1)))]
 else
 none:=by kernel_rfl
def q122_92:List D→Option (List D):=veil (F122_92)
theorem q122_92_eq:q122_92=F122_92:=veil_eq _
def tb122_92:Tb:=Tb.addF tbl122_92_2 122 S122_92 (q122_92)
theorem ok_tb122_92:TbOk env (tb122_92):=addFunF ok_tbl122_92_2 122 (by kernel_rfl) _ (q122_92_eq)
def S91_92:FunS:=⟨[⟨true,(.rows 3)⟩,⟨true,(.func 92 [] [(.edat 25)])⟩],[],[⟨true, .bool⟩],[]⟩
def F91_92:List D→Option (List D):=liftX env tb122_92 60 12 91 S91_92
theorem F91_92_eq (sd0:D) (sd1:D):F91_92 [sd0,sd1] =
 bif (qsome (q122_92 [sd0,sd1]))then
 some [(D.bool (qcmp BinOp.geq (qint (qnth (q122_92 [sd0,sd1]) 0)) 0))]
 else
 none:=by kernel_rfl
def q91_92:List D→Option (List D):=veil (F91_92)
theorem q91_92_eq:q91_92=F91_92:=veil_eq _
def tb91_92:Tb:=Tb.addF tb122_92 91 S91_92 (q91_92)
theorem ok_tb91_92:TbOk env (tb91_92):=addFunF ok_tb122_92 91 (by kernel_rfl) _ (q91_92_eq)
end
end Go.Proofs.YtfdedgmlafelaaaGreatDoor
namespace Go.Proofs.YtfdedgmlafelaaaGreatDoor
open Go Go.AM
def S53:FunS:=⟨[⟨true,(.rows 3)⟩],[],[⟨true,(.rows 3)⟩],[]⟩
theorem run53n (c:Nat):bodyK (envF env tb91_92 53) (runTb env tb91_92 60 12) 60 53 [.sc (.slice none 0 c)] (heapF S53 [] []) (retF S53 [])=some [.list []]:=by kernel_rfl
theorem run53z (d:D):bodyK (envF env tb91_92 53) (runTb env tb91_92 60 12) 60 53 [.rowz 3 d] (heapF S53 [] []) (retF S53 []) =
 bif qmem (qlen (qapp (D.list []) d)) 8 then(bif (qcmp BinOp.eql (qlen (qapp (D.list []) d)) (qlen (qapp (D.list []) d)))then some [qapp (D.list []) d]else none)else none:=by kernel_rfl
noncomputable def F53 (ds:List D):Option (List D):=bif qmem (qlen (qapp (D.list []) (ds.headD .other))) 8 then some [qapp (D.list []) (ds.headD .other)]else none
noncomputable def q53:List D→Option (List D):=veil F53
theorem q53_eq:q53=F53:=veil_eq _
theorem sound53:SoundF env.P 53 S53 q53:=by
 intro p s r hp hq lo w0 ρ E w vs inv ra
 obtain rfl:p = []:=List.length_eq_zero_iff.1 hp
 have ha:argF S53 [] s = [.rows 3 (s.headD .other)]:=by
  cases s<;>rfl
 have hh:heapF S53 [] s=heapF S53 [] []:=rfl
 rw[q53_eq]at hq
 unfold F53 at hq
 simp only[List.nil_append]at hq
 rw[ha]at ra
 generalize hd:s.headD .other=d at *
 cases hm:qmem (qlen (qapp (D.list []) d)) 8 with
 |false=>rw[hm]at hq;cases hq
 |true=>
  rw[hm]at hq
  simp only[cond_true,Option.some.injEq]at hq
  subst hq
  rw[hh]at inv
  generalize hvs:vs.toList=vl at ra
  obtain⟨v,vl',rfl,rv,hn⟩:∃v vs',vl=v::vs'∧Rep ρ E w (AV.rows 3 d) v∧vs' = []:=by simpa only[RepL]using ra
  ·subst hn
   simp only[Rep]at rv
   obtain⟨a,cap,rfl,hc,hx⟩:=id rv
   cases a with
   |none=>
    have he:d.toList = []:=by
     rcases hx with h|⟨_,_,h,_⟩
     ·exact h
     ·cases h
    have he':qapp (D.list []) d = .list []:=by rw[qapp_eq];unfold D.app;rw[he];rfl
    rw[he']
    refine lift_ok (av:=[.sc (.slice none 0 cap)]) envOk ok_tb91_92 60 12 (run53n cap) rfl lo w0 ρ E w vs inv ?_
    rw[hvs,he]
    simp[RepL,Rep]
   |some a=>
    refine lift_ok (av:=[.rowz 3 d]) envOk ok_tb91_92 60 12 (p:=[]) (r:=[qapp (D.list []) d]) (S:=S53) (by rw[run53z,hm,qeqI_self];rfl) rfl lo w0 ρ E w vs inv ?_
    rw[hvs]
    simp only[RepL]
    exact⟨_,_,rfl,by simp only[Rep];exact⟨rv,_,_,_,rfl⟩,rfl⟩
noncomputable def tb53:Tb:=Tb.addF tb91_92 53 S53 q53
theorem ok_tb53:TbOk env tb53:=TbOk.addF ok_tb91_92 (by kernel_rfl) sound53
end Go.Proofs.YtfdedgmlafelaaaGreatDoor
open Go Go.AM
namespace Go.Proofs.YtfdedgmlafelaaaGreatDoor
noncomputable section
set_option maxRecDepth 100000
set_option linter.unusedSimpArgs false
set_option linter.unusedVariables false
set_option linter.defProp false
def S22:FunS:=⟨[⟨true,(.dat 54)⟩],[],[⟨true,(.rows 3)⟩],[]⟩
def F22:List D→Option (List D):=liftX env tb53 60 12 22 S22
theorem F22_e (sd0:D):F22 [sd0] =
 let x0:=qfld sd0 1
 let x1:Option (List D):=some [.list []]
 let x2:=qbin .sub .i64 (qlen x0) 1
 let x3:=qget x0 x2
 let x4:=qint (qfld x3 0)
 let x5:=D.int (qint (qfld x3 3))
 let x6:=q53 [qfld x3 7]
 bif qcmp .eql (qlen x0) 0 then x1 else gd (qinb x0 x2)<|bif qcmp .eql x4 6 then some [.list [x5]]else bif qcmp .eql x4 7 then some [.list [x5,.int (qint (qfld x3 4))]]else bif qcmp .eql x4 8 then gd (qsome x6)<|some [qnth x6 0]else x1:=by kernel_rfl
def F22_eq:=by have h:= @F22_e;simp only[ge_id,gd,qeqD_self,qeqI_self,qeq_len,qeq_l,cond_true]at h;exact h
def q22:List D→Option (List D):=veil (F22)
theorem q22_eq:q22=F22:=veil_eq _
def tb22:Tb:=Tb.addF tb53 22 S22 (q22)
theorem ok_tb22:TbOk env (tb22):=addFunF ok_tb53 22 (by kernel_rfl) _ (q22_eq)
def S89:FunS:=⟨[⟨true,(.dat 57)⟩],[],[⟨true,(.rows 3)⟩],[]⟩
def F89:List D→Option (List D):=liftX env tb22 60 12 89 S89
theorem F89_eq (sd0:D):F89 [sd0] =
 bif (qcmp BinOp.eql (qint (qfld sd0 0)) 6)then
 some [(D.list [(D.int (qint (qfld sd0 3)))])]
 else
 bif (qcmp BinOp.eql (qint (qfld sd0 0)) 7)then
 some [(D.list [(D.int (qint (qfld sd0 3))),(D.int (qint (qfld sd0 4)))])]
 else
 bif (qcmp BinOp.eql (qint (qfld sd0 0)) 8)then
 some [(qfld sd0 7)]
 else
 some [(D.list [])]:=by kernel_rfl
def q89:List D→Option (List D):=veil (F89)
theorem q89_eq:q89=F89:=veil_eq _
def tb89:Tb:=Tb.addF tb22 89 S89 (q89)
theorem ok_tb89:TbOk env (tb89):=addFunF ok_tb22 89 (by kernel_rfl) _ (q89_eq)
def S49_4:LoopS:=⟨0,[uF,⟨false,(.ptr 0 0)⟩,⟨false,(.lit (.bool false))⟩,uF,uF,uF,uF,uF,uF,uF,uF,⟨false,(.rows 54)⟩,⟨false,(.int .i64)⟩,⟨true,(.int .i64)⟩,uF,uF,uF,uF,uF,uF,uF,uF,uF,uF,uF,uF,uF,uF,uF,uF,uF,uF,uF,uF,uF,uF,uF,uF,uF,uF,uF,uF,uF,uF,uF],[(.dat false 25)],[⟨0,0,[uT,uT,⟨true,(.lit (.bool false))⟩,uT,uT,uT,uT,uT,uT,uT,uT,⟨false,(.rows 54)⟩,⟨false,(.int .i64)⟩,uT,uT,uT,uT,uT,uT,uT,uT,uT,uT,uT,uT,uT,uT,uT,uT,uT,uT,uT,uT,uT,uT,uT,uT,uT,uT,uT,uT,uT,uT,uT,uT],[(.dat false 25)]⟩,⟨1,0,[uT,uT,⟨true,(.lit (.bool false))⟩,uT,uT,uT,uT,uT,uT,uT,uT,⟨false,(.rows 54)⟩,⟨false,(.int .i64)⟩,uT,uT,uT,uT,uT,uT,uT,uT,uT,uT,uT,uT,uT,uT,uT,uT,uT,uT,uT,uT,uT,uT,uT,uT,uT,uT,uT,uT,uT,uT,uT,uT],[(.dat false 25)]⟩]⟩
def st49_4 (p s:List D):Option (Sum (List D) (List D)):=stepQX env tb89 60 12 49 (loopC 49 4) S49_4 p s
theorem st49_4_e (pd0:D) (pn1:Int) (pd2:D) (sn0:Int):st49_4 [pd0,(D.int pn1),pd2] [(D.int sn0)] =
 let x0:=qget pd0 sn0
 let x1:=qfld x0 1
 let x2:=qlen x1
 let x3:=qcmp .eql x2 0
 let x4:=qbin .sub .i64 x2 1
 let x5:=q90 [qget x1 x4]
 let x6:=qiteB x3 true (qnot (qbool (qnth x5 0)))
 let x7:=q79_90 [qsub x1 0 x4]
 let x8:=D.int pn1
 let x9:Option (List D ⊕ List D):=ge pd0<|ge x8<|ge pd2<|some (Sum.inr [.int 1])
 let x10:=q22 [x0]
 let x11:=q91_92 [qnth x10 0,pd2]
 bif qcmp .lss sn0 pn1 then gd (qinb pd0 sn0)<|gd (qiteB x3 true (qand (qinb x1 x4) (qsome x5)))<|gd (qiteB x6 true (qand (qcmp .leq 0 0) (qand (qcmp .leq 0 x4) (qand (qcmp .leq x4 x2) (qsome x7)))))<|bif qiteB x6 true (qbool (qnth x7 0))then x9 else gd (qsome x10)<|gd (qsome x11)<|bif qbool (qnth x11 0)then x9 else ge pd0<|ge x8<|ge pd2<|some (Sum.inl [.int (qbin .add .i64 sn0 1)])else ge pd0<|ge x8<|ge pd2<|some (Sum.inr [.int 0]):=by kernel_rfl
def st49_4_eq:=by have h:= @st49_4_e;simp only[ge_id,gd,qeqD_self,qeqI_self,qeq_len,qeq_l,cond_true]at h;exact h
def l49_4:List D→List D→Option (List D):=veil fun p s=>loW (st49_4 p) s
theorem l49_4_eq:l49_4=fun p s=>loW (st49_4 p) s:=veil_eq _
def tbl49_4:Tb:=Tb.addL tb89 49 4 S49_4.n0 (mkLp S49_4 (l49_4))
theorem ok_tbl49_4:TbOk env (tbl49_4):=addLoopQ ok_tb89 49 4 (by kernel_rfl) _ (l49_4_eq)
def S49:FunS:=⟨[⟨true,(.dat 25)⟩],[],[⟨true, .bool⟩],[]⟩
def F49:List D→Option (List D):=liftX env tbl49_4 60 12 49 S49
theorem F49_eq (sd0:D):F49 [sd0] =
 bif (qcmp BinOp.eql (qlen (qfld sd0 1)) 0)then
 some [(D.bool Bool.false)]
 else
 bif (qsome (l49_4 [(qfld sd0 1),(D.int (qlen (qfld sd0 1))),sd0] [(D.int 0)]))then
 bif (qcmp BinOp.eql (qint (qnth (l49_4 [(qfld sd0 1),(D.int (qlen (qfld sd0 1))),sd0] [(D.int 0)]) 0)) 0)then
 some [(D.bool Bool.true)]
 else
 some [(D.bool Bool.false)]
 else
 none:=by kernel_rfl
def q49:List D→Option (List D):=veil (F49)
theorem q49_eq:q49=F49:=veil_eq _
def tb49:Tb:=Tb.addF tbl49_4 49 S49 (q49)
theorem ok_tb49:TbOk env (tb49):=addFunF ok_tbl49_4 49 (by kernel_rfl) _ (q49_eq)
def S19_3:LoopS:=⟨0,[uF,⟨false,(.ptr 0 0)⟩,⟨false,(.lit (.int .i64 0))⟩,⟨true,(.int .i64)⟩,uF,uF,uF,uF,uF,uF,uF,uF,⟨false,(.rows 54)⟩,⟨false,(.int .i64)⟩,⟨true,(.int .i64)⟩,uF,uF,uF,uF,uF,uF,uF,uF,uF,uF,uF,uF,uF,uF,uF,uF,uF,uF,uF,uF,uF,uF,uF,uF,uF,uF,uF,uF,uF,uF,uF,uF,uF,uF,uF,uF,uF,uF,uF,uF,uF],[(.dat false 25)],[⟨0,0,[uT,⟨true,(.ptr 0 0)⟩,⟨true,(.lit (.int .i64 0))⟩,⟨true,(.int .i64)⟩,uT,uT,uT,uT,uT,uT,uT,uT,⟨false,(.rows 54)⟩,⟨false,(.int .i64)⟩,uT,uT,uT,uT,uT,uT,uT,uT,uT,uT,uT,uT,uT,uT,uT,uT,uT,uT,uT,uT,uT,uT,uT,uT,uT,uT,uT,uT,uT,uT,uT,uT,uT,uT,uT,uT,uT,uT,uT,uT,uT,uT],[(.dat false 25)]⟩]⟩
def st19_3 (p s:List D):Option (Sum (List D) (List D)):=stepQX env tb49 60 12 19 (loopC 19 3) S19_3 p s
theorem st19_3_e (pd0:D) (pn1:Int) (pd2:D) (sn0:Int) (sn1:Int):st19_3 [pd0,(D.int pn1),pd2] [(D.int sn0),(D.int sn1)] =
 bif qcmp .lss sn1 pn1 then gd (qinb pd0 sn1)<|ge pd0<|ge (.int pn1)<|ge pd2<|some (Sum.inl [.int (qbin .add .i64 sn0 (qlen (qfld (qget pd0 sn1) 1))),.int (qbin .add .i64 sn1 1)])else ge pd0<|ge (.int pn1)<|ge pd2<|some (Sum.inr [.int 0,.int sn0]):=by kernel_rfl
def st19_3_eq:=by have h:= @st19_3_e;simp only[ge_id,gd,qeqD_self,qeqI_self,qeq_len,qeq_l,cond_true]at h;exact h
def l19_3:List D→List D→Option (List D):=veil fun p s=>loW (st19_3 p) s
theorem l19_3_eq:l19_3=fun p s=>loW (st19_3 p) s:=veil_eq _
def tbl19_3:Tb:=Tb.addL tb49 19 3 S19_3.n0 (mkLp S19_3 (l19_3))
theorem ok_tbl19_3:TbOk env (tbl19_3):=addLoopQ ok_tb49 19 3 (by kernel_rfl) _ (l19_3_eq)
def S19_15:LoopS:=⟨0,[uF,uF,⟨false,(.lit (.int .i64 0))⟩,uF,uF,uF,uF,uF,uF,uF,uF,uF,uF,uF,uF,uF,uF,uF,uF,uF,uF,uF,uF,uF,uF,uF,uF,uF,uF,uF,uF,uF,uF,uF,uF,uF,⟨false,(.rows 54)⟩,⟨false,(.int .i64)⟩,⟨false,(.int .i64)⟩,uF,uF,uF,uF,⟨false,(.rows 57)⟩,⟨false,(.int .i64)⟩,⟨true,(.int .i64)⟩,uF,uF,uF,uF,uF,uF,uF,uF,uF,uF],[],[⟨0,4,[uT,uT,⟨true,(.lit (.int .i64 0))⟩,uT,uT,uT,uT,uT,uT,uT,uT,uT,uT,uT,uT,uT,uT,uT,uT,uT,uT,uT,uT,uT,uT,uT,uT,uT,uT,uT,uT,uT,uT,uT,uT,uT,⟨false,(.rows 54)⟩,⟨false,(.int .i64)⟩,⟨false,(.int .i64)⟩,uT,uT,uT,uT,⟨false,(.rows 57)⟩,⟨false,(.int .i64)⟩,uT,uT,uT,uT,uT,uT,uT,uT,uT,uT,uT],[]⟩,⟨1,0,[uT,uT,⟨true,(.int .i64)⟩,uT,uT,uT,uT,uT,uT,uT,uT,uT,uT,uT,uT,uT,uT,uT,uT,uT,uT,uT,uT,uT,uT,uT,uT,uT,uT,uT,uT,uT,uT,uT,uT,uT,⟨false,(.rows 54)⟩,⟨false,(.int .i64)⟩,⟨false,(.int .i64)⟩,uT,uT,uT,uT,⟨false,(.rows 57)⟩,⟨false,(.int .i64)⟩,uT,uT,uT,uT,uT,uT,uT,uT,uT,uT,uT],[]⟩]⟩
def st19_15 (p s:List D):Option (Sum (List D) (List D)):=stepQX env tbl19_3 60 12 19 (loopC 19 15) S19_15 p s
theorem st19_15_e (pd0:D) (pn1:Int) (pn2:Int) (pd3:D) (pn4:Int) (sn0:Int):st19_15 [pd0,(D.int pn1),(D.int pn2),pd3,(D.int pn4)] [(D.int sn0)] =
 let x0:=q50 [qget pd3 sn0]
 let x1:=qint (qnth x0 0)
 let x2:=D.int pn1
 let x3:=D.int pn2
 let x4:=D.int pn4
 bif qcmp .lss sn0 pn4 then gd (qinb pd3 sn0)<|gd (qsome x0)<|bif qcmp .neq x1 0 then ge pd0<|ge x2<|ge x3<|ge pd3<|ge x4<|some (Sum.inr [.int 1,.int x1])else ge pd0<|ge x2<|ge x3<|ge pd3<|ge x4<|some (Sum.inl [.int (qbin .add .i64 sn0 1)])else ge pd0<|ge x2<|ge x3<|ge pd3<|ge x4<|some (Sum.inr [.int 0]):=by kernel_rfl
def st19_15_eq:=by have h:= @st19_15_e;simp only[ge_id,gd,qeqD_self,qeqI_self,qeq_len,qeq_l,cond_true]at h;exact h
def l19_15:List D→List D→Option (List D):=veil fun p s=>loW (st19_15 p) s
theorem l19_15_eq:l19_15=fun p s=>loW (st19_15 p) s:=veil_eq _
def tbl19_15:Tb:=Tb.addL tbl19_3 19 15 S19_15.n0 (mkLp S19_15 (l19_15))
theorem ok_tbl19_15:TbOk env (tbl19_15):=addLoopQ ok_tbl19_3 19 15 (by kernel_rfl) _ (l19_15_eq)
def S19_12:LoopS:=⟨0,[uF,uF,⟨false,(.lit (.int .i64 0))⟩,uF,uF,uF,uF,uF,uF,uF,uF,uF,uF,uF,uF,uF,uF,uF,uF,uF,uF,uF,uF,uF,uF,uF,uF,uF,uF,uF,uF,uF,uF,uF,uF,uF,⟨false,(.rows 54)⟩,⟨false,(.int .i64)⟩,⟨true,(.int .i64)⟩,uF,uF,uF,uF,uF,uF,uF,uF,uF,uF,uF,uF,uF,uF,uF,uF,uF],[],[⟨0,2,[uT,uT,⟨true,(.lit (.int .i64 0))⟩,uT,uT,uT,uT,uT,uT,uT,uT,uT,uT,uT,uT,uT,uT,uT,uT,uT,uT,uT,uT,uT,uT,uT,uT,uT,uT,uT,uT,uT,uT,uT,uT,uT,⟨false,(.rows 54)⟩,⟨false,(.int .i64)⟩,uT,uT,uT,uT,uT,uT,uT,uT,uT,uT,uT,uT,uT,uT,uT,uT,uT,uT],[]⟩,⟨1,0,[uT,uT,⟨true,(.int .i64)⟩,uT,uT,uT,uT,uT,uT,uT,uT,uT,uT,uT,uT,uT,uT,uT,uT,uT,uT,uT,uT,uT,uT,uT,uT,uT,uT,uT,uT,uT,uT,uT,uT,uT,⟨false,(.rows 54)⟩,⟨false,(.int .i64)⟩,uT,uT,uT,uT,uT,uT,uT,uT,uT,uT,uT,uT,uT,uT,uT,uT,uT,uT],[]⟩]⟩
def st19_12 (p s:List D):Option (Sum (List D) (List D)):=stepQX env tbl19_15 60 12 19 (loopC 19 12) S19_12 p s
theorem st19_12_e (pd0:D) (pn1:Int) (sn0:Int):st19_12 [pd0,(D.int pn1)] [(D.int sn0)] =
 let x0:=D.int pn1
 let x1:=qfld (qget pd0 sn0) 1
 let x2:=l19_15 [pd0,x0,.int sn0,x1,.int (qlen x1)] [.int 0]
 bif qcmp .lss sn0 pn1 then gd (qinb pd0 sn0)<|gd (qsome x2)<|bif qcmp .eql (qint (qnth x2 0)) 0 then ge pd0<|ge x0<|some (Sum.inl [.int (qbin .add .i64 sn0 1)])else ge pd0<|ge x0<|some (Sum.inr [.int 1,.int (qint (qnth x2 1))])else ge pd0<|ge x0<|some (Sum.inr [.int 0]):=by kernel_rfl
def st19_12_eq:=by have h:= @st19_12_e;simp only[ge_id,gd,qeqD_self,qeqI_self,qeq_len,qeq_l,cond_true]at h;exact h
def l19_12:List D→List D→Option (List D):=veil fun p s=>loW (st19_12 p) s
theorem l19_12_eq:l19_12=fun p s=>loW (st19_12 p) s:=veil_eq _
def tbl19_12:Tb:=Tb.addL tbl19_15 19 12 S19_12.n0 (mkLp S19_12 (l19_12))
theorem ok_tbl19_12:TbOk env (tbl19_12):=addLoopQ ok_tbl19_15 19 12 (by kernel_rfl) _ (l19_12_eq)
def S19:FunS:=⟨[⟨true,(.dat 25)⟩],[],[⟨true,(.int .i64)⟩],[]⟩
def F19:List D→Option (List D):=liftX env tbl19_12 60 12 19 S19
theorem F19_e (sd0:D):F19 [sd0] =
 let x0:=qfld sd0 1
 let x1:=D.int 0
 let x2:=l19_3 [x0,.int (qlen x0),sd0] [x1,x1]
 let x3:=q49 [sd0]
 let x4:=l19_12 [x0,.int (qlen x0)] [x1]
 gd (qsome x2)<|bif qiteB (qcmp .gtr (qlen x0) 256) true (qcmp .gtr (qint (qnth x2 1)) 1024)then some [.int 6]else gd (qsome x3)<|bif qnot (qbool (qnth x3 0))then some [.int 18]else gd (qsome x4)<|bif qcmp .eql (qint (qnth x4 0)) 0 then some [x1]else some [.int (qint (qnth x4 1))]:=by kernel_rfl
def F19_eq:=by have h:= @F19_e;simp only[ge_id,gd,qeqD_self,qeqI_self,qeq_len,qeq_l,cond_true]at h;exact h
def q19:List D→Option (List D):=veil (F19)
theorem q19_eq:q19=F19:=veil_eq _
def tb19:Tb:=Tb.addF tbl19_12 19 S19 (q19)
theorem ok_tb19:TbOk env (tb19):=addFunF ok_tbl19_12 19 (by kernel_rfl) _ (q19_eq)
def S71_4:LoopS:=⟨0,[uF,⟨false,(.int .i64)⟩,⟨false,(.ptr 0 0)⟩,uF,⟨false,(.lit (.bool false))⟩,⟨true,(.int .i64)⟩,uF,uF,uF,uF,uF,uF,uF,uF,uF,uF,uF,uF,uF,uF,uF,uF,uF,uF,uF,uF,uF,uF,uF,uF,uF,uF,uF,uF,uF,uF,uF,uF,uF,uF,uF,uF,uF,uF,uF,uF,uF,uF,uF,uF,uF,uF,uF,uF,uF,uF,uF,uF,uF,uF],[(.dat false 54)],[⟨0,0,[uT,⟨false,(.int .i64)⟩,⟨true,(.ptr 0 0)⟩,uT,⟨true,(.lit (.bool false))⟩,uT,uT,uT,uT,uT,uT,uT,uT,uT,uT,uT,uT,uT,uT,uT,uT,uT,uT,uT,uT,uT,uT,uT,uT,uT,uT,uT,uT,uT,uT,uT,uT,uT,uT,uT,uT,uT,uT,uT,uT,uT,uT,uT,uT,uT,uT,uT,uT,uT,uT,uT,uT,uT,uT,uT],[(.dat false 54)]⟩,⟨1,0,[uT,⟨false,(.int .i64)⟩,uT,uT,⟨true,(.lit (.bool false))⟩,uT,uT,uT,uT,uT,uT,uT,uT,uT,uT,uT,uT,uT,uT,uT,uT,uT,uT,uT,uT,uT,uT,uT,uT,uT,uT,uT,uT,uT,uT,uT,uT,uT,uT,uT,uT,uT,uT,uT,uT,uT,uT,uT,uT,uT,uT,uT,uT,uT,uT,uT,uT,uT,uT,uT],[(.dat false 54)]⟩]⟩
def st71_4 (p s:List D):Option (Sum (List D) (List D)):=stepQX env tb19 60 12 71 (loopC 71 4) S71_4 p s
theorem st71_4_e (pn0:Int) (pd1:D) (sn0:Int):st71_4 [(D.int pn0),pd1] [(D.int sn0)] =
 let x0:=qfld pd1 1
 let x1:=q109 [qget x0 sn0]
 let x2:=D.int pn0
 bif qcmp .lss sn0 (qlen x0)then gd (qinb x0 sn0)<|gd (qsome x1)<|bif qnot (qeqB (qbool (qnth x1 0)) (qcmp .eql sn0 (qbin .sub .i64 (qlen x0) 1)))then ge x2<|ge pd1<|some (Sum.inr [.int 1])else ge x2<|ge pd1<|some (Sum.inl [.int (qbin .add .i64 sn0 1)])else ge x2<|ge pd1<|some (Sum.inr [.int 0]):=by kernel_rfl
def st71_4_eq:=by have h:= @st71_4_e;simp only[ge_id,gd,qeqD_self,qeqI_self,qeq_len,qeq_l,cond_true]at h;exact h
def l71_4:List D→List D→Option (List D):=veil fun p s=>loW (st71_4 p) s
theorem l71_4_eq:l71_4=fun p s=>loW (st71_4 p) s:=veil_eq _
def tbl71_4:Tb:=Tb.addL tb19 71 4 S71_4.n0 (mkLp S71_4 (l71_4))
theorem ok_tbl71_4:TbOk env (tbl71_4):=addLoopQ ok_tb19 71 4 (by kernel_rfl) _ (l71_4_eq)
def S71_10:LoopS:=⟨0,[uF,⟨false,(.int .i64)⟩,uF,uF,⟨false,(.lit (.bool false))⟩,uF,⟨false,(.rows 3)⟩,⟨true,(.int .i64)⟩,uF,uF,uF,uF,uF,uF,uF,uF,uF,uF,uF,uF,uF,uF,uF,uF,uF,uF,uF,uF,uF,uF,uF,uF,uF,uF,uF,uF,uF,uF,uF,uF,uF,uF,uF,uF,uF,uF,uF,uF,uF,uF,uF,uF,uF,uF,uF,uF,uF,uF,uF,uF],[],[⟨0,2,[uT,⟨false,(.int .i64)⟩,uT,uT,⟨true,(.lit (.bool false))⟩,uT,⟨false,(.rows 3)⟩,uT,uT,uT,uT,uT,uT,uT,uT,uT,uT,uT,uT,uT,uT,uT,uT,uT,uT,uT,uT,uT,uT,uT,uT,uT,uT,uT,uT,uT,uT,uT,uT,uT,uT,uT,uT,uT,uT,uT,uT,uT,uT,uT,uT,uT,uT,uT,uT,uT,uT,uT,uT,uT],[]⟩,⟨1,0,[uT,⟨false,(.int .i64)⟩,uT,uT,⟨true,(.lit (.bool false))⟩,uT,⟨false,(.rows 3)⟩,uT,uT,uT,uT,uT,uT,uT,uT,uT,uT,uT,uT,uT,uT,uT,uT,uT,uT,uT,uT,uT,uT,uT,uT,uT,uT,uT,uT,uT,uT,uT,uT,uT,uT,uT,uT,uT,uT,uT,uT,uT,uT,uT,uT,uT,uT,uT,uT,uT,uT,uT,uT,uT],[]⟩]⟩
def st71_10 (p s:List D):Option (Sum (List D) (List D)):=stepQX env tbl71_4 60 12 71 (loopC 71 10) S71_10 p s
theorem st71_10_e (pn0:Int) (pd1:D) (sn0:Int):st71_10 [(D.int pn0),pd1] [(D.int sn0)] =
 let x0:=qinb pd1 sn0
 let x1:=qint (qget pd1 sn0)
 let x2:=qcmp .lss x1 0
 let x3:=D.int pn0
 bif qcmp .lss sn0 (qlen pd1)then gd x0<|gd (qiteB x2 true x0)<|bif qiteB x2 true (qcmp .geq x1 pn0)then ge x3<|ge pd1<|some (Sum.inr [.int 1])else ge x3<|ge pd1<|some (Sum.inl [.int (qbin .add .i64 sn0 1)])else ge x3<|ge pd1<|some (Sum.inr [.int 0]):=by kernel_rfl
def st71_10_eq:=by have h:= @st71_10_e;simp only[ge_id,gd,qeqD_self,qeqI_self,qeq_len,qeq_l,cond_true]at h;exact h
def l71_10:List D→List D→Option (List D):=veil fun p s=>loW (st71_10 p) s
theorem l71_10_eq:l71_10=fun p s=>loW (st71_10 p) s:=veil_eq _
def tbl71_10:Tb:=Tb.addL tbl71_4 71 10 S71_10.n0 (mkLp S71_10 (l71_10))
theorem ok_tbl71_10:TbOk env (tbl71_10):=addLoopQ ok_tbl71_4 71 10 (by kernel_rfl) _ (l71_10_eq)
def S71:FunS:=⟨[⟨true,(.dat 54)⟩,⟨true,(.int .i64)⟩],[],[⟨true, .bool⟩],[]⟩
def F71:List D→Option (List D):=liftX env tbl71_10 60 12 71 S71
theorem F71_e (sd0:D) (sn1:Int):F71 [sd0,(D.int sn1)] =
 let x0:=qfld sd0 1
 let x1:Option (List D):=some [.bool false]
 let x2:=l71_4 [.int sn1,sd0] [.int 0]
 let x3:=qbin .sub .i64 (qlen x0) 1
 let x4:=q89 [qget x0 x3]
 let x5:=l71_10 [.int sn1,qnth x4 0] [.int 0]
 bif qcmp .eql (qlen x0) 0 then x1 else gd (qsome x2)<|bif qcmp .eql (qint (qnth x2 0)) 0 then gd (qinb x0 x3)<|gd (qsome x4)<|gd (qsome x5)<|bif qcmp .eql (qint (qnth x5 0)) 0 then some [.bool true]else x1 else x1:=by kernel_rfl
def F71_eq:=by have h:= @F71_e;simp only[ge_id,gd,qeqD_self,qeqI_self,qeq_len,qeq_l,cond_true]at h;exact h
def q71:List D→Option (List D):=veil (F71)
theorem q71_eq:q71=F71:=veil_eq _
def tb71:Tb:=Tb.addF tbl71_10 71 S71 (q71)
theorem ok_tb71:TbOk env (tb71):=addFunF ok_tbl71_10 71 (by kernel_rfl) _ (q71_eq)
def S35_5:LoopS:=⟨0,[uF,⟨false,(.ptr 0 0)⟩,⟨false,(.lit (.int .i64 0))⟩,⟨true,(.int .i64)⟩,⟨true,(.int .i64)⟩,uF,uF,uF,uF,uF,uF,uF,uF,uF,uF,uF,uF,uF,uF,uF,uF,uF,uF,uF,uF,uF,uF,uF,uF,uF,uF,uF,uF,uF,uF,uF,uF,uF,uF,uF,uF,uF,uF,uF,uF,uF,uF,uF,uF,uF,uF,uF,uF,uF,uF,uF,uF,uF,uF,uF,uF,uF,uF,uF,uF,uF,uF,uF,uF,uF,uF,uF,uF,uF,uF,uF,uF,uF,uF,uF,uF,uF,uF],[(.dat false 25)],[⟨0,0,[uT,⟨true,(.ptr 0 0)⟩,⟨true,(.lit (.int .i64 0))⟩,⟨true,(.int .i64)⟩,uT,uT,uT,uT,uT,uT,uT,uT,uT,uT,uT,uT,uT,uT,uT,uT,uT,uT,uT,uT,uT,uT,uT,uT,uT,uT,uT,uT,uT,uT,uT,uT,uT,uT,uT,uT,uT,uT,uT,uT,uT,uT,uT,uT,uT,uT,uT,uT,uT,uT,uT,uT,uT,uT,uT,uT,uT,uT,uT,uT,uT,uT,uT,uT,uT,uT,uT,uT,uT,uT,uT,uT,uT,uT,uT,uT,uT,uT,uT],[(.dat false 25)]⟩]⟩
def st35_5 (p s:List D):Option (Sum (List D) (List D)):=stepQX env tb71 60 12 35 (loopC 35 5) S35_5 p s
theorem st35_5_e (pd0:D) (sn0:Int) (sn1:Int):st35_5 [pd0] [(D.int sn0),(D.int sn1)] =
 let x0:=qfld pd0 1
 bif qcmp .lss sn1 (qlen x0)then gd (qinb x0 sn1)<|ge pd0<|some (Sum.inl [.int (qbin .add .i64 sn0 (qlen (qfld (qget x0 sn1) 1))),.int (qbin .add .i64 sn1 1)])else ge pd0<|some (Sum.inr [.int 0,.int sn0]):=by kernel_rfl
def st35_5_eq:=by have h:= @st35_5_e;simp only[ge_id,gd,qeqD_self,qeqI_self,qeq_len,qeq_l,cond_true]at h;exact h
def l35_5:List D→List D→Option (List D):=veil fun p s=>loW (st35_5 p) s
theorem l35_5_eq:l35_5=fun p s=>loW (st35_5 p) s:=veil_eq _
def tbl35_5:Tb:=Tb.addL tb71 35 5 S35_5.n0 (mkLp S35_5 (l35_5))
theorem ok_tbl35_5:TbOk env (tbl35_5):=addLoopQ ok_tb71 35 5 (by kernel_rfl) _ (l35_5_eq)
def S35_13:LoopS:=⟨0,[uF,⟨false,(.ptr 0 0)⟩,⟨false,(.lit (.int .i64 0))⟩,uF,uF,⟨true,(.int .i64)⟩,uF,uF,uF,uF,uF,uF,uF,uF,uF,uF,uF,uF,uF,uF,uF,uF,uF,uF,uF,uF,uF,uF,uF,uF,uF,uF,uF,uF,uF,uF,uF,uF,uF,uF,uF,uF,uF,uF,uF,uF,uF,uF,uF,uF,uF,uF,uF,uF,uF,uF,uF,uF,uF,uF,uF,uF,uF,uF,uF,uF,uF,uF,uF,uF,uF,uF,uF,uF,uF,uF,uF,uF,uF,uF,uF,uF,uF],[(.dat false 25)],[⟨0,2,[uT,⟨true,(.ptr 0 0)⟩,⟨true,(.lit (.int .i64 0))⟩,uT,uT,uT,uT,uT,uT,uT,uT,uT,uT,uT,uT,uT,uT,uT,uT,uT,uT,uT,uT,uT,uT,uT,uT,uT,uT,uT,uT,uT,uT,uT,uT,uT,uT,uT,uT,uT,uT,uT,uT,uT,uT,uT,uT,uT,uT,uT,uT,uT,uT,uT,uT,uT,uT,uT,uT,uT,uT,uT,uT,uT,uT,uT,uT,uT,uT,uT,uT,uT,uT,uT,uT,uT,uT,uT,uT,uT,uT,uT,uT],[(.dat false 25)]⟩,⟨1,0,[uT,uT,⟨true,(.lit (.int .i64 18))⟩,uT,uT,uT,uT,uT,uT,uT,uT,uT,uT,uT,uT,uT,uT,uT,uT,uT,uT,uT,uT,uT,uT,uT,uT,uT,uT,uT,uT,uT,uT,uT,uT,uT,uT,uT,uT,uT,uT,uT,uT,uT,uT,uT,uT,uT,uT,uT,uT,uT,uT,uT,uT,uT,uT,uT,uT,uT,uT,uT,uT,uT,uT,uT,uT,uT,uT,uT,uT,uT,uT,uT,uT,uT,uT,uT,uT,uT,uT,uT,uT],[(.dat false 25)]⟩]⟩
def st35_13 (p s:List D):Option (Sum (List D) (List D)):=stepQX env tbl35_5 60 12 35 (loopC 35 13) S35_13 p s
theorem st35_13_e (pd0:D) (sn0:Int):st35_13 [pd0] [(D.int sn0)] =
 let x0:=qfld pd0 1
 let x1:=q71 [qget x0 sn0,.int (qlen x0)]
 bif qcmp .lss sn0 (qlen x0)then gd (qinb x0 sn0)<|gd (qsome x1)<|bif qnot (qbool (qnth x1 0))then ge pd0<|some (Sum.inr [.int 1])else ge pd0<|some (Sum.inl [.int (qbin .add .i64 sn0 1)])else ge pd0<|some (Sum.inr [.int 0]):=by kernel_rfl
def st35_13_eq:=by have h:= @st35_13_e;simp only[ge_id,gd,qeqD_self,qeqI_self,qeq_len,qeq_l,cond_true]at h;exact h
def l35_13:List D→List D→Option (List D):=veil fun p s=>loW (st35_13 p) s
theorem l35_13_eq:l35_13=fun p s=>loW (st35_13 p) s:=veil_eq _
def tbl35_13:Tb:=Tb.addL tbl35_5 35 13 S35_13.n0 (mkLp S35_13 (l35_13))
theorem ok_tbl35_13:TbOk env (tbl35_13):=addLoopQ ok_tbl35_5 35 13 (by kernel_rfl) _ (l35_13_eq)
def S35_21:LoopS:=⟨0,[uF,⟨false,(.ptr 0 0)⟩,⟨false,(.lit (.int .i64 0))⟩,uF,uF,uF,⟨false,(.int .i64)⟩,⟨true,(.int .i64)⟩,uF,uF,uF,uF,uF,uF,uF,uF,uF,uF,uF,uF,uF,uF,uF,uF,uF,uF,uF,uF,uF,uF,uF,uF,uF,uF,uF,uF,uF,uF,uF,uF,uF,uF,uF,uF,uF,uF,uF,uF,uF,uF,uF,uF,uF,uF,uF,uF,uF,uF,uF,uF,uF,uF,uF,uF,uF,uF,uF,uF,uF,uF,uF,uF,uF,uF,uF,uF,uF,uF,uF,uF,uF,uF,uF],[(.dat false 25)],[⟨0,6,[uT,⟨true,(.ptr 0 0)⟩,⟨true,(.lit (.int .i64 0))⟩,uT,uT,uT,⟨false,(.int .i64)⟩,uT,uT,uT,uT,uT,uT,uT,uT,uT,uT,uT,uT,uT,uT,uT,uT,uT,uT,uT,uT,uT,uT,uT,uT,uT,uT,uT,uT,uT,uT,uT,uT,uT,uT,uT,uT,uT,uT,uT,uT,uT,uT,uT,uT,uT,uT,uT,uT,uT,uT,uT,uT,uT,uT,uT,uT,uT,uT,uT,uT,uT,uT,uT,uT,uT,uT,uT,uT,uT,uT,uT,uT,uT,uT,uT,uT],[(.dat false 25)]⟩,⟨1,0,[uT,uT,⟨true,(.int .i64)⟩,uT,uT,uT,⟨false,(.int .i64)⟩,uT,uT,uT,uT,uT,uT,uT,uT,uT,uT,uT,uT,uT,uT,uT,uT,uT,uT,uT,uT,uT,uT,uT,uT,uT,uT,uT,uT,uT,uT,uT,uT,uT,uT,uT,uT,uT,uT,uT,uT,uT,uT,uT,uT,uT,uT,uT,uT,uT,uT,uT,uT,uT,uT,uT,uT,uT,uT,uT,uT,uT,uT,uT,uT,uT,uT,uT,uT,uT,uT,uT,uT,uT,uT,uT,uT],[(.dat false 25)]⟩]⟩
def st35_21 (p s:List D):Option (Sum (List D) (List D)):=stepQX env tbl35_13 60 12 35 (loopC 35 21) S35_21 p s
theorem st35_21_e (pn0:Int) (pd1:D) (sn0:Int):st35_21 [(D.int pn0),pd1] [(D.int sn0)] =
 let x0:=qinb (qfld pd1 1) pn0
 let x1:=qfld (qget (qfld pd1 1) pn0) 1
 let x2:=q72 [qget x1 sn0]
 let x3:=qint (qnth x2 0)
 let x4:=D.int pn0
 gd x0<|bif qcmp .lss sn0 (qlen x1)then gd x0<|gd (qinb x1 sn0)<|gd (qsome x2)<|bif qcmp .neq x3 0 then ge x4<|ge pd1<|some (Sum.inr [.int 1,.int x3])else ge x4<|ge pd1<|some (Sum.inl [.int (qbin .add .i64 sn0 1)])else ge x4<|ge pd1<|some (Sum.inr [.int 0]):=by kernel_rfl
def st35_21_eq:=by have h:= @st35_21_e;simp only[ge_id,gd,qeqD_self,qeqI_self,qeq_len,qeq_l,cond_true]at h;exact h
def l35_21:List D→List D→Option (List D):=veil fun p s=>loW (st35_21 p) s
theorem l35_21_eq:l35_21=fun p s=>loW (st35_21 p) s:=veil_eq _
def tbl35_21:Tb:=Tb.addL tbl35_13 35 21 S35_21.n0 (mkLp S35_21 (l35_21))
theorem ok_tbl35_21:TbOk env (tbl35_21):=addLoopQ ok_tbl35_13 35 21 (by kernel_rfl) _ (l35_21_eq)
def S35_18:LoopS:=⟨0,[uF,⟨false,(.ptr 0 0)⟩,⟨false,(.lit (.int .i64 0))⟩,uF,uF,uF,⟨true,(.int .i64)⟩,uF,uF,uF,uF,uF,uF,uF,uF,uF,uF,uF,uF,uF,uF,uF,uF,uF,uF,uF,uF,uF,uF,uF,uF,uF,uF,uF,uF,uF,uF,uF,uF,uF,uF,uF,uF,uF,uF,uF,uF,uF,uF,uF,uF,uF,uF,uF,uF,uF,uF,uF,uF,uF,uF,uF,uF,uF,uF,uF,uF,uF,uF,uF,uF,uF,uF,uF,uF,uF,uF,uF,uF,uF,uF,uF,uF],[(.dat false 25)],[⟨0,4,[uT,uT,⟨true,(.lit (.int .i64 0))⟩,uT,uT,uT,uT,uT,uT,uT,uT,uT,uT,uT,uT,uT,uT,uT,uT,uT,uT,uT,uT,uT,uT,uT,uT,uT,uT,uT,uT,uT,uT,uT,uT,uT,uT,uT,uT,uT,uT,uT,uT,uT,uT,uT,uT,uT,uT,uT,uT,uT,uT,uT,uT,uT,uT,uT,uT,uT,uT,uT,uT,uT,uT,uT,uT,uT,uT,uT,uT,uT,uT,uT,uT,uT,uT,uT,uT,uT,uT,uT,uT],[(.dat false 25)]⟩,⟨1,0,[uT,uT,⟨true,(.int .i64)⟩,uT,uT,uT,uT,uT,uT,uT,uT,uT,uT,uT,uT,uT,uT,uT,uT,uT,uT,uT,uT,uT,uT,uT,uT,uT,uT,uT,uT,uT,uT,uT,uT,uT,uT,uT,uT,uT,uT,uT,uT,uT,uT,uT,uT,uT,uT,uT,uT,uT,uT,uT,uT,uT,uT,uT,uT,uT,uT,uT,uT,uT,uT,uT,uT,uT,uT,uT,uT,uT,uT,uT,uT,uT,uT,uT,uT,uT,uT,uT,uT],[(.dat false 25)]⟩]⟩
def st35_18 (p s:List D):Option (Sum (List D) (List D)):=stepQX env tbl35_21 60 12 35 (loopC 35 18) S35_18 p s
theorem st35_18_e (pd0:D) (sn0:Int):st35_18 [pd0] [(D.int sn0)] =
 let x0:=l35_21 [.int sn0,pd0] [.int 0]
 bif qcmp .lss sn0 (qlen (qfld pd0 1))then gd (qsome x0)<|bif qcmp .eql (qint (qnth x0 0)) 0 then ge pd0<|some (Sum.inl [.int (qbin .add .i64 sn0 1)])else ge pd0<|some (Sum.inr [.int 1,.int (qint (qnth x0 1))])else ge pd0<|some (Sum.inr [.int 0]):=by kernel_rfl
def st35_18_eq:=by have h:= @st35_18_e;simp only[ge_id,gd,qeqD_self,qeqI_self,qeq_len,qeq_l,cond_true]at h;exact h
def l35_18:List D→List D→Option (List D):=veil fun p s=>loW (st35_18 p) s
theorem l35_18_eq:l35_18=fun p s=>loW (st35_18 p) s:=veil_eq _
def tbl35_18:Tb:=Tb.addL tbl35_21 35 18 S35_18.n0 (mkLp S35_18 (l35_18))
theorem ok_tbl35_18:TbOk env (tbl35_18):=addLoopQ ok_tbl35_21 35 18 (by kernel_rfl) _ (l35_18_eq)
def S35:FunS:=⟨[⟨true,(.dat 25)⟩],[],[⟨true,(.int .i64)⟩],[]⟩
def F35:List D→Option (List D):=liftX env tbl35_18 60 12 35 S35
theorem F35_e (sd0:D):F35 [sd0] =
 let x0:=qlen (qfld sd0 1)
 let x1:Option (List D):=some [.int 6]
 let x2:=D.int 0
 let x3:=l35_5 [sd0] [x2,x2]
 let x4:Option (List D):=some [.int 18]
 let x5:=l35_13 [sd0] [x2]
 let x6:=l35_18 [sd0] [x2]
 bif qcmp .gtr x0 256 then x1 else gd (qsome x3)<|bif qcmp .gtr (qint (qnth x3 1)) 1024 then x1 else bif qcmp .eql x0 0 then x4 else gd (qsome x5)<|bif qcmp .eql (qint (qnth x5 0)) 0 then gd (qsome x6)<|bif qcmp .eql (qint (qnth x6 0)) 0 then some [x2]else some [.int (qint (qnth x6 1))]else x4:=by kernel_rfl
def F35_eq:=by have h:= @F35_e;simp only[ge_id,gd,qeqD_self,qeqI_self,qeq_len,qeq_l,cond_true]at h;exact h
def q35:List D→Option (List D):=veil (F35)
theorem q35_eq:q35=F35:=veil_eq _
def tb35:Tb:=Tb.addF tbl35_18 35 S35 (q35)
theorem ok_tb35:TbOk env (tb35):=addFunF ok_tbl35_18 35 (by kernel_rfl) _ (q35_eq)
end
end Go.Proofs.YtfdedgmlafelaaaGreatDoor
open Go Go.AM
namespace Go.Proofs.YtfdedgmlafelaaaGreatDoor
noncomputable section
set_option maxRecDepth 100000
set_option linter.unusedSimpArgs false
set_option linter.unusedVariables false
set_option linter.defProp false
def S54:FunS:=⟨[⟨true,(.dat 61)⟩,⟨true,(.int .i64)⟩,⟨true,(.int .i64)⟩],[],[⟨true,(.int .i64)⟩],[]⟩
def tbR54 (Q:List D→Option (List D)):Tb:=Tb.addF tb35 54 S54 Q
theorem ok_tbR54 (Q:List D→Option (List D)) (hQ:SoundF env.P 54 S54 Q):TbOk env (tbR54 Q):=TbOk.addF ok_tb35 (by kernel_rfl) hQ
def S54_5:LoopS:=⟨0,[uF,⟨false,(.int .i64)⟩,uF,⟨false,(.ptr 0 0)⟩,uF,uF,⟨false,(.lit (.int .i64 0))⟩,⟨true,(.int .i64)⟩,⟨true,(.int .i64)⟩,uF,uF,uF,uF,uF,uF,uF,uF,uF,uF,uF,uF,uF,uF,uF,uF,uF,uF,uF,uF,uF,uF,uF,uF,uF,uF,uF,uF,uF,uF,uF,uF,uF,uF,uF],[(.dat false 61)],[⟨0,0,[uT,⟨false,(.int .i64)⟩,uT,uT,uT,uT,⟨true,(.lit (.int .i64 0))⟩,⟨true,(.int .i64)⟩,uT,uT,uT,uT,uT,uT,uT,uT,uT,uT,uT,uT,uT,uT,uT,uT,uT,uT,uT,uT,uT,uT,uT,uT,uT,uT,uT,uT,uT,uT,uT,uT,uT,uT,uT,uT],[(.dat false 61)]⟩]⟩
def st54_5 (Q:List D→Option (List D)) (p s:List D):Option (Sum (List D) (List D)):=stepQX env (tbR54 Q) 60 12 54 (loopC 54 5) S54_5 p s
theorem st54_5_e (Q:List D→Option (List D)) (pn0:Int) (pd1:D) (sn0:Int) (sn1:Int):st54_5 Q [(D.int pn0),pd1] [(D.int sn0),(D.int sn1)] =
 let x0:=qfld pd1 4
 let x1:=Q [qget x0 sn1,.int (qbin .sub .i64 pn0 1),.int sn0]
 bif qiteB (qcmp .lss sn1 (qlen x0)) (qcmp .geq sn0 0) false then gd (qinb x0 sn1)<|gd (qsome x1)<|ge (.int pn0)<|ge pd1<|some (Sum.inl [.int (qint (qnth x1 0)),.int (qbin .add .i64 sn1 1)])else ge (.int pn0)<|ge pd1<|some (Sum.inr [.int 0,.int sn0]):=by kernel_rfl
def st54_5_eq:=by have h:= @st54_5_e;simp only[ge_id,gd,qeqD_self,qeqI_self,qeq_len,qeq_l,cond_true]at h;exact h
def l54_5 (Q:List D→Option (List D)):List D→List D→Option (List D):=veil fun p s=>loW (st54_5 Q p) s
theorem l54_5_eq (Q:List D→Option (List D)):l54_5 Q=fun p s=>loW (st54_5 Q p) s:=veil_eq _
def tbl54_5 (Q:List D→Option (List D)):Tb:=Tb.addL (tbR54 Q) 54 5 S54_5.n0 (mkLp S54_5 (l54_5 Q))
theorem ok_tbl54_5 (Q:List D→Option (List D)) (hQ:SoundF env.P 54 S54 Q):TbOk env (tbl54_5 Q):=addLoopQ (ok_tbR54 Q hQ) 54 5 (by kernel_rfl) _ (l54_5_eq Q)
def Fb54 (Q:List D→Option (List D)):List D→Option (List D):=liftX env (tbl54_5 Q) 60 12 54 S54
theorem Fb54_eq (Q:List D→Option (List D)) (sd0:D) (sn1:Int) (sn2:Int):Fb54 Q [sd0,(D.int sn1),(D.int sn2)] =
 bif (qiteB (qiteB (qcmp BinOp.lss sn1 1) Bool.true (qcmp BinOp.lss sn2 1)) Bool.true (qcmp BinOp.gtr (qlen (qfld sd0 4)) 4))then
 some [(D.int (-1))]
 else
 bif (qsome (l54_5 Q [(D.int sn1),sd0] [(D.int (qbin BinOp.sub IntKind.i64 sn2 1)),(D.int 0)]))then
 some [(D.int (qint (qnth (l54_5 Q [(D.int sn1),sd0] [(D.int (qbin BinOp.sub IntKind.i64 sn2 1)),(D.int 0)]) 1)))]
 else
 none:=by kernel_rfl
def F54:Nat→List D→Option (List D):=levels Fb54
theorem F54_s (n:Nat):F54 (n+1)=Fb54 (F54 n):=rfl
def q54:List D→Option (List D):=veil fun ds=>F54 (fuelL ds) ds
theorem q54_eq:q54=fun ds=>F54 (fuelL ds) ds:=veil_eq _
theorem sound54:SoundF env.P 54 S54 q54:=recF (fun q=>tbl54_5 q) (fun q hq=>ok_tbl54_5 q hq) q54_eq
def tb54:Tb:=Tb.addF tb35 54 S54 q54
theorem ok_tb54:TbOk env tb54:=TbOk.addF ok_tb35 (by kernel_rfl) sound54
def S25_16:LoopS:=⟨0,[uF,⟨false,(.int .i64)⟩,⟨false,(.ptr 0 0)⟩,uF,⟨false,(.lit (.bool false))⟩,⟨true,(.int .i64)⟩,⟨false,(.int .i64)⟩,⟨false,(.int .i64)⟩,⟨false,(.ptr 1 0)⟩,⟨true,(.int .i64)⟩,uF,uF,uF,uF,uF,uF,uF,uF,uF,uF,uF,uF,uF,uF,uF,uF,uF,uF,uF,uF,uF,uF,uF,uF,uF,uF,uF,uF,uF,uF,uF,uF,uF,uF,uF,uF,uF,uF,uF,uF,uF,uF,uF,uF,uF,uF,uF,uF,uF,uF,uF,uF,uF,uF,uF,uF,uF,uF,uF,uF,uF,uF,uF,uF,uF,uF],[(.dat false 57),(.dat false 25)],[⟨0,4,[uT,⟨false,(.int .i64)⟩,⟨true,(.ptr 0 0)⟩,uT,⟨true,(.lit (.bool false))⟩,⟨true,(.int .i64)⟩,⟨false,(.int .i64)⟩,⟨false,(.int .i64)⟩,uT,uT,uT,uT,uT,uT,uT,uT,uT,uT,uT,uT,uT,uT,uT,uT,uT,uT,uT,uT,uT,uT,uT,uT,uT,uT,uT,uT,uT,uT,uT,uT,uT,uT,uT,uT,uT,uT,uT,uT,uT,uT,uT,uT,uT,uT,uT,uT,uT,uT,uT,uT,uT,uT,uT,uT,uT,uT,uT,uT,uT,uT,uT,uT,uT,uT,uT,uT],[(.dat false 57),(.dat false 25)]⟩,⟨1,0,[uT,⟨false,(.int .i64)⟩,uT,uT,⟨true,(.lit (.bool false))⟩,uT,⟨false,(.int .i64)⟩,⟨false,(.int .i64)⟩,uT,uT,uT,uT,uT,uT,uT,uT,uT,uT,uT,uT,uT,uT,uT,uT,uT,uT,uT,uT,uT,uT,uT,uT,uT,uT,uT,uT,uT,uT,uT,uT,uT,uT,uT,uT,uT,uT,uT,uT,uT,uT,uT,uT,uT,uT,uT,uT,uT,uT,uT,uT,uT,uT,uT,uT,uT,uT,uT,uT,uT,uT,uT,uT,uT,uT,uT,uT],[(.dat false 57),(.dat false 25)]⟩]⟩
def st25_16 (p s:List D):Option (Sum (List D) (List D)):=stepQX env tb54 60 12 25 (loopC 25 16) S25_16 p s
theorem st25_16_e (pn0:Int) (pn1:Int) (pn2:Int) (pd3:D) (pd4:D) (sn0:Int) (sn1:Int):st25_16 [(D.int pn0),(D.int pn1),(D.int pn2),pd3,pd4] [(D.int sn0),(D.int sn1)] =
 let x0:=qfld pd3 6
 let x1:=D.int pn0
 let x2:=q54 [qget x0 sn1,x1,.int sn0]
 let x3:=qint (qnth x2 0)
 let x4:=D.int pn1
 let x5:=D.int pn2
 bif qcmp .lss sn1 (qlen x0)then gd (qinb x0 sn1)<|gd (qsome x2)<|bif qcmp .lss x3 0 then ge x1<|ge x4<|ge x5<|ge pd3<|ge pd4<|some (Sum.inr [.int 1])else ge x1<|ge x4<|ge x5<|ge pd3<|ge pd4<|some (Sum.inl [.int x3,.int (qbin .add .i64 sn1 1)])else ge x1<|ge x4<|ge x5<|ge pd3<|ge pd4<|some (Sum.inr [.int 0,.int sn0]):=by kernel_rfl
def st25_16_eq:=by have h:= @st25_16_e;simp only[ge_id,gd,qeqD_self,qeqI_self,qeq_len,qeq_l,cond_true]at h;exact h
def l25_16:List D→List D→Option (List D):=veil fun p s=>loW (st25_16 p) s
theorem l25_16_eq:l25_16=fun p s=>loW (st25_16 p) s:=veil_eq _
def tbl25_16:Tb:=Tb.addL tb54 25 16 S25_16.n0 (mkLp S25_16 (l25_16))
theorem ok_tbl25_16:TbOk env (tbl25_16):=addLoopQ ok_tb54 25 16 (by kernel_rfl) _ (l25_16_eq)
def S25_10:LoopS:=⟨0,[uF,⟨false,(.int .i64)⟩,⟨false,(.ptr 0 0)⟩,uF,⟨false,(.lit (.bool false))⟩,⟨true,(.int .i64)⟩,⟨false,(.int .i64)⟩,⟨true,(.int .i64)⟩,uF,uF,uF,uF,uF,uF,uF,uF,uF,uF,uF,uF,uF,uF,uF,uF,uF,uF,uF,uF,uF,uF,uF,uF,uF,uF,uF,uF,uF,uF,uF,uF,uF,uF,uF,uF,uF,uF,uF,uF,uF,uF,uF,uF,uF,uF,uF,uF,uF,uF,uF,uF,uF,uF,uF,uF,uF,uF,uF,uF,uF,uF,uF,uF,uF,uF,uF,uF],[(.dat false 25)],[⟨0,2,[uT,⟨false,(.int .i64)⟩,⟨true,(.ptr 0 0)⟩,uT,⟨true,(.lit (.bool false))⟩,⟨true,(.int .i64)⟩,⟨false,(.int .i64)⟩,uT,uT,uT,uT,uT,uT,uT,uT,uT,uT,uT,uT,uT,uT,uT,uT,uT,uT,uT,uT,uT,uT,uT,uT,uT,uT,uT,uT,uT,uT,uT,uT,uT,uT,uT,uT,uT,uT,uT,uT,uT,uT,uT,uT,uT,uT,uT,uT,uT,uT,uT,uT,uT,uT,uT,uT,uT,uT,uT,uT,uT,uT,uT,uT,uT,uT,uT,uT,uT],[(.dat false 25)]⟩,⟨1,0,[uT,⟨false,(.int .i64)⟩,uT,uT,⟨true,(.lit (.bool false))⟩,uT,⟨false,(.int .i64)⟩,uT,uT,uT,uT,uT,uT,uT,uT,uT,uT,uT,uT,uT,uT,uT,uT,uT,uT,uT,uT,uT,uT,uT,uT,uT,uT,uT,uT,uT,uT,uT,uT,uT,uT,uT,uT,uT,uT,uT,uT,uT,uT,uT,uT,uT,uT,uT,uT,uT,uT,uT,uT,uT,uT,uT,uT,uT,uT,uT,uT,uT,uT,uT,uT,uT,uT,uT,uT,uT],[(.dat false 25)]⟩]⟩
def st25_10 (p s:List D):Option (Sum (List D) (List D)):=stepQX env tbl25_16 60 12 25 (loopC 25 10) S25_10 p s
theorem st25_10_e (pn0:Int) (pn1:Int) (pd2:D) (sn0:Int) (sn1:Int):st25_10 [(D.int pn0),(D.int pn1),pd2] [(D.int sn0),(D.int sn1)] =
 let x0:=qinb (qfld pd2 1) pn1
 let x1:=qfld (qget (qfld pd2 1) pn1) 1
 let x2:=qget x1 sn1
 let x3:=D.int pn0
 let x4:=D.int pn1
 let x5:Option (List D ⊕ List D):=ge x3<|ge x4<|ge pd2<|some (Sum.inr [.int 1])
 let x6:=l25_16 [x3,x4,.int sn1,x2,pd2] [.int sn0,.int 0]
 gd x0<|bif qcmp .lss sn1 (qlen x1)then gd x0<|gd (qinb x1 sn1)<|bif qiteB (qcmp .gtr (qlen (qfld x2 6)) 4) true (qcmp .gtr (qlen (qfld x2 7)) 100)then x5 else gd (qsome x6)<|bif qcmp .eql (qint (qnth x6 0)) 0 then ge x3<|ge x4<|ge pd2<|some (Sum.inl [.int (qint (qnth x6 1)),.int (qbin .add .i64 sn1 1)])else x5 else ge x3<|ge x4<|ge pd2<|some (Sum.inr [.int 0,.int sn0]):=by kernel_rfl
def st25_10_eq:=by have h:= @st25_10_e;simp only[ge_id,gd,qeqD_self,qeqI_self,qeq_len,qeq_l,cond_true]at h;exact h
def l25_10:List D→List D→Option (List D):=veil fun p s=>loW (st25_10 p) s
theorem l25_10_eq:l25_10=fun p s=>loW (st25_10 p) s:=veil_eq _
def tbl25_10:Tb:=Tb.addL tbl25_16 25 10 S25_10.n0 (mkLp S25_10 (l25_10))
theorem ok_tbl25_10:TbOk env (tbl25_10):=addLoopQ ok_tbl25_16 25 10 (by kernel_rfl) _ (l25_10_eq)
def S25_5:LoopS:=⟨0,[uF,⟨false,(.int .i64)⟩,⟨false,(.ptr 0 0)⟩,uF,⟨false,(.lit (.bool false))⟩,⟨true,(.int .i64)⟩,⟨true,(.int .i64)⟩,uF,uF,uF,uF,uF,uF,uF,uF,uF,uF,uF,uF,uF,uF,uF,uF,uF,uF,uF,uF,uF,uF,uF,uF,uF,uF,uF,uF,uF,uF,uF,uF,uF,uF,uF,uF,uF,uF,uF,uF,uF,uF,uF,uF,uF,uF,uF,uF,uF,uF,uF,uF,uF,uF,uF,uF,uF,uF,uF,uF,uF,uF,uF,uF,uF,uF,uF,uF,uF],[(.dat false 25)],[⟨0,0,[uT,⟨false,(.int .i64)⟩,uT,uT,⟨true,(.lit (.bool false))⟩,uT,uT,uT,uT,uT,uT,uT,uT,uT,uT,uT,uT,uT,uT,uT,uT,uT,uT,uT,uT,uT,uT,uT,uT,uT,uT,uT,uT,uT,uT,uT,uT,uT,uT,uT,uT,uT,uT,uT,uT,uT,uT,uT,uT,uT,uT,uT,uT,uT,uT,uT,uT,uT,uT,uT,uT,uT,uT,uT,uT,uT,uT,uT,uT,uT,uT,uT,uT,uT,uT,uT],[(.dat false 25)]⟩,⟨1,0,[uT,⟨false,(.int .i64)⟩,uT,uT,⟨true,(.lit (.bool false))⟩,uT,uT,uT,uT,uT,uT,uT,uT,uT,uT,uT,uT,uT,uT,uT,uT,uT,uT,uT,uT,uT,uT,uT,uT,uT,uT,uT,uT,uT,uT,uT,uT,uT,uT,uT,uT,uT,uT,uT,uT,uT,uT,uT,uT,uT,uT,uT,uT,uT,uT,uT,uT,uT,uT,uT,uT,uT,uT,uT,uT,uT,uT,uT,uT,uT,uT,uT,uT,uT,uT,uT],[(.dat false 25)]⟩]⟩
def st25_5 (p s:List D):Option (Sum (List D) (List D)):=stepQX env tbl25_10 60 12 25 (loopC 25 5) S25_5 p s
theorem st25_5_e (pn0:Int) (pd1:D) (sn0:Int) (sn1:Int):st25_5 [(D.int pn0),pd1] [(D.int sn0),(D.int sn1)] =
 let x0:=qfld pd1 1
 let x1:=D.int pn0
 let x2:Option (List D ⊕ List D):=ge x1<|ge pd1<|some (Sum.inr [.int 1])
 let x3:=l25_10 [x1,.int sn1,pd1] [.int sn0,.int 0]
 bif qcmp .lss sn1 (qlen x0)then gd (qinb x0 sn1)<|bif qcmp .gtr (qlen (qfld (qget x0 sn1) 1)) 1100 then x2 else gd (qsome x3)<|bif qcmp .eql (qint (qnth x3 0)) 0 then ge x1<|ge pd1<|some (Sum.inl [.int (qint (qnth x3 1)),.int (qbin .add .i64 sn1 1)])else x2 else ge x1<|ge pd1<|some (Sum.inr [.int 0]):=by kernel_rfl
def st25_5_eq:=by have h:= @st25_5_e;simp only[ge_id,gd,qeqD_self,qeqI_self,qeq_len,qeq_l,cond_true]at h;exact h
def l25_5:List D→List D→Option (List D):=veil fun p s=>loW (st25_5 p) s
theorem l25_5_eq:l25_5=fun p s=>loW (st25_5 p) s:=veil_eq _
def tbl25_5:Tb:=Tb.addL tbl25_10 25 5 S25_5.n0 (mkLp S25_5 (l25_5))
theorem ok_tbl25_5:TbOk env (tbl25_5):=addLoopQ ok_tbl25_10 25 5 (by kernel_rfl) _ (l25_5_eq)
def S25:FunS:=⟨[⟨true,(.dat 25)⟩,⟨true,(.int .i64)⟩],[],[⟨true, .bool⟩],[]⟩
def F25:List D→Option (List D):=liftX env tbl25_5 60 12 25 S25
theorem F25_eq (sd0:D) (sn1:Int):F25 [sd0,(D.int sn1)] =
 bif (qcmp BinOp.gtr (qlen (qfld sd0 1)) 300)then
 some [(D.bool Bool.false)]
 else
 bif (qsome (l25_5 [(D.int sn1),sd0] [(D.int 20000),(D.int 0)]))then
 bif (qcmp BinOp.eql (qint (qnth (l25_5 [(D.int sn1),sd0] [(D.int 20000),(D.int 0)]) 0)) 0)then
 some [(D.bool Bool.true)]
 else
 some [(D.bool Bool.false)]
 else
 none:=by kernel_rfl
def q25:List D→Option (List D):=veil (F25)
theorem q25_eq:q25=F25:=veil_eq _
def tb25:Tb:=Tb.addF tbl25_5 25 S25 (q25)
theorem ok_tb25:TbOk env (tb25):=addFunF ok_tbl25_5 25 (by kernel_rfl) _ (q25_eq)
def S8_5:LoopS:=⟨0,[uF,⟨false,(.ptr 0 0)⟩,⟨false,(.lit (.bool false))⟩,⟨true,(.int .i64)⟩,⟨true,(.int .i64)⟩,uF,uF,uF,uF,uF,uF,uF,uF,uF,uF,uF,uF,uF,uF,uF,uF,uF,uF,uF,uF,uF,uF,uF,uF,uF,uF,uF],[(.dat false 25)],[⟨0,0,[uT,uT,⟨true,(.lit (.bool false))⟩,uT,uT,uT,uT,uT,uT,uT,uT,uT,uT,uT,uT,uT,uT,uT,uT,uT,uT,uT,uT,uT,uT,uT,uT,uT,uT,uT,uT,uT],[(.dat false 25)]⟩,⟨1,0,[uT,uT,⟨true,(.lit (.bool true))⟩,uT,uT,uT,uT,uT,uT,uT,uT,uT,uT,uT,uT,uT,uT,uT,uT,uT,uT,uT,uT,uT,uT,uT,uT,uT,uT,uT,uT,uT],[(.dat false 25)]⟩]⟩
def st8_5 (p s:List D):Option (Sum (List D) (List D)):=stepQX env tb25 60 12 8 (loopC 8 5) S8_5 p s
theorem st8_5_e (pd0:D) (sn0:Int) (sn1:Int):st8_5 [pd0] [(D.int sn0),(D.int sn1)] =
 let x0:=qfld pd0 1
 let x1:=qbin .add .i64 sn0 (qlen (qfld (qget x0 sn1) 1))
 bif qcmp .lss sn1 (qlen x0)then gd (qinb x0 sn1)<|bif qcmp .gtr x1 400 then ge pd0<|some (Sum.inr [.int 1])else ge pd0<|some (Sum.inl [.int x1,.int (qbin .add .i64 sn1 1)])else ge pd0<|some (Sum.inr [.int 0]):=by kernel_rfl
def st8_5_eq:=by have h:= @st8_5_e;simp only[ge_id,gd,qeqD_self,qeqI_self,qeq_len,qeq_l,cond_true]at h;exact h
def l8_5:List D→List D→Option (List D):=veil fun p s=>loW (st8_5 p) s
theorem l8_5_eq:l8_5=fun p s=>loW (st8_5 p) s:=veil_eq _
def tbl8_5:Tb:=Tb.addL tb25 8 5 S8_5.n0 (mkLp S8_5 (l8_5))
theorem ok_tbl8_5:TbOk env (tbl8_5):=addLoopQ ok_tb25 8 5 (by kernel_rfl) _ (l8_5_eq)
def S8:FunS:=⟨[⟨true,(.dat 25)⟩],[],[⟨true, .bool⟩],[]⟩
def F8:List D→Option (List D):=liftX env tbl8_5 60 12 8 S8
theorem F8_e (sd0:D):F8 [sd0] =
 let x0:=qcmp .gtr (qlen (qfld sd0 1)) 40
 let x1:=q25 [sd0,.int 70]
 let x2:Option (List D):=some [.bool true]
 let x3:=l8_5 [sd0] [.int 0,.int 0]
 gd (qiteB x0 true (qsome x1))<|bif qiteB x0 true (qnot (qbool (qnth x1 0)))then x2 else gd (qsome x3)<|bif qcmp .eql (qint (qnth x3 0)) 0 then some [.bool false]else x2:=by kernel_rfl
def F8_eq:=by have h:= @F8_e;simp only[ge_id,gd,qeqD_self,qeqI_self,qeq_len,qeq_l,cond_true]at h;exact h
def q8:List D→Option (List D):=veil (F8)
theorem q8_eq:q8=F8:=veil_eq _
def tb8:Tb:=Tb.addF tbl8_5 8 S8 (q8)
theorem ok_tb8:TbOk env (tb8):=addFunF ok_tbl8_5 8 (by kernel_rfl) _ (q8_eq)
end
end Go.Proofs.YtfdedgmlafelaaaGreatDoor
open Go Go.AM
namespace Go.Proofs.YtfdedgmlafelaaaGreatDoor
noncomputable section
set_option maxRecDepth 100000
set_option linter.unusedSimpArgs false
set_option linter.unusedVariables false
set_option linter.defProp false
def S105:FunS:=⟨[⟨true,(.dat 61)⟩],[],[⟨true, .bool⟩],[]⟩
def F105:List D→Option (List D):=liftX env tb8 60 12 105 S105
theorem F105_eq (sd0:D):F105 [sd0] =
 some [(D.bool (qiteB (qcmp BinOp.eql (qint (qfld sd0 0)) 2) (qcmp BinOp.eql (qint (qfld sd0 2)) 7) Bool.false))]:=by kernel_rfl
def q105:List D→Option (List D):=veil (F105)
theorem q105_eq:q105=F105:=veil_eq _
def tb105:Tb:=Tb.addF tb8 105 S105 (q105)
theorem ok_tb105:TbOk env (tb105):=addFunF ok_tb8 105 (by kernel_rfl) _ (q105_eq)
def S64:FunS:=⟨[⟨true,(.int .i64)⟩],[],[⟨true,(.int .i64)⟩],[]⟩
def F64:List D→Option (List D):=liftX env tb105 60 12 64 S64
theorem F64_eq (sn0:Int):F64 [(D.int sn0)] =
 some [(D.int (qwrap IntKind.i64 (qwrap IntKind.i32 (qwrap IntKind.u32 sn0))))]:=by kernel_rfl
def q64:List D→Option (List D):=veil (F64)
theorem q64_eq:q64=F64:=veil_eq _
def tb64:Tb:=Tb.addF tb105 64 S64 (q64)
theorem ok_tb64:TbOk env (tb64):=addFunF ok_tb105 64 (by kernel_rfl) _ (q64_eq)
def S62:FunS:=⟨[⟨true,(.dat 61)⟩],[],[⟨true,(.tup [(.int .i64), .bool])⟩],[]⟩
def F62:List D→Option (List D):=liftX env tb64 60 12 62 S62
theorem F62_e (sd0:D):F62 [sd0] =
 let x0:=q105 [sd0]
 let x1:=D.bool true
 let x2:=qint (qfld sd0 0)
 let x3:=qiteB (qcmp .neq x2 3) (qcmp .neq x2 4) false
 let x4:=qfld sd0 4
 let x5:=q105 [qget x4 0]
 let x6:=qiteB x3 true (qnot (qbool (qnth x5 0)))
 let x7:=qinb x4 1
 let x8:=qwrap .i64 (qint (qfld (qget x4 1) 1))
 let x9:=q64 [.int (qun .neg .i64 x8)]
 let x10:=q64 [.int x8]
 gd (qsome x0)<|bif qbool (qnth x0 0)then some [.int 0,x1]else gd (qiteB x3 true (qand (qinb x4 0) (qsome x5)))<|gd (qiteB x6 true x7)<|bif qiteB x6 true (qcmp .neq (qint (qfld (qget x4 1) 0)) 1)then some [.int 0,.bool false]else bif qcmp .eql x2 4 then gd x7<|gd (qsome x9)<|some [.int (qint (qnth x9 0)),x1]else gd x7<|gd (qsome x10)<|some [.int (qint (qnth x10 0)),x1]:=by kernel_rfl
def F62_eq:=by have h:= @F62_e;simp only[ge_id,gd,qeqD_self,qeqI_self,qeq_len,qeq_l,cond_true]at h;exact h
def q62:List D→Option (List D):=veil (F62)
theorem q62_eq:q62=F62:=veil_eq _
def tb62:Tb:=Tb.addF tb64 62 S62 (q62)
theorem ok_tb62:TbOk env (tb62):=addFunF ok_tb64 62 (by kernel_rfl) _ (q62_eq)
def S30:FunS:=⟨[⟨true,(.dat 57)⟩,⟨true,(.int .i64)⟩],[],[⟨true,(.tup [(.int .i64), .bool])⟩],[]⟩
def F30:List D→Option (List D):=liftX env tb62 60 12 30 S30
theorem F30_e (sd0:D) (sn1:Int):F30 [sd0,(D.int sn1)] =
 let x0:=qint (qfld sd0 0)
 let x1:=q64 [.int (qbin .add .i64 sn1 4)]
 let x2:=D.bool true
 let x3:=qcmp .eql (qint (qfld sd0 1)) 7
 let x4:=q62 [qget (qfld sd0 6) 0]
 let x5:=q64 [.int (qbin .add .i64 sn1 (qint (qnth x4 0)))]
 bif qcmp .eql x0 5 then gd (qsome x1)<|some [.int (qint (qnth x1 0)),x2]else bif qiteB (qcmp .eql x0 3) x3 false then some [.int 0,.bool false]else bif qiteB (qcmp .eql x0 1) x3 false then gd (qinb (qfld sd0 6) 0)<|gd (qsome x4)<|gd (qsome x5)<|some [.int (qint (qnth x5 0)),.bool (qbool (qnth x4 1))]else some [.int sn1,x2]:=by kernel_rfl
def F30_eq:=by have h:= @F30_e;simp only[ge_id,gd,qeqD_self,qeqI_self,qeq_len,qeq_l,cond_true]at h;exact h
def q30:List D→Option (List D):=veil (F30)
theorem q30_eq:q30=F30:=veil_eq _
def tb30:Tb:=Tb.addF tb62 30 S30 (q30)
theorem ok_tb30:TbOk env (tb30):=addFunF ok_tb62 30 (by kernel_rfl) _ (q30_eq)
def S61_2:LoopS:=⟨0,[uF,⟨true,(.int .i64)⟩,uF,uF,⟨false,(.lit (.int .i64 0))⟩,⟨false,(.lit (.bool false))⟩,uF,uF,uF,uF,uF,⟨false,(.rows 57)⟩,⟨false,(.int .i64)⟩,⟨true,(.int .i64)⟩,uF,uF,uF,uF,uF,uF,uF,uF,uF,uF,uF,uF,uF,uF],[],[⟨0,0,[uT,⟨true,(.int .i64)⟩,uT,uT,⟨true,(.lit (.int .i64 0))⟩,⟨true,(.lit (.bool false))⟩,uT,uT,uT,uT,uT,⟨false,(.rows 57)⟩,⟨false,(.int .i64)⟩,uT,uT,uT,uT,uT,uT,uT,uT,uT,uT,uT,uT,uT,uT,uT],[]⟩,⟨1,0,[uT,uT,uT,uT,⟨true,(.lit (.int .i64 0))⟩,⟨true,(.lit (.bool false))⟩,uT,uT,uT,uT,uT,⟨false,(.rows 57)⟩,⟨false,(.int .i64)⟩,uT,uT,uT,uT,uT,uT,uT,uT,uT,uT,uT,uT,uT,uT,uT],[]⟩]⟩
def st61_2 (p s:List D):Option (Sum (List D) (List D)):=stepQX env tb30 60 12 61 (loopC 61 2) S61_2 p s
theorem st61_2_e (pd0:D) (pn1:Int) (sn0:Int) (sn1:Int):st61_2 [pd0,(D.int pn1)] [(D.int sn0),(D.int sn1)] =
 let x0:=q30 [qget pd0 sn1,.int sn0]
 let x1:=D.int pn1
 bif qcmp .lss sn1 pn1 then gd (qinb pd0 sn1)<|gd (qsome x0)<|bif qnot (qbool (qnth x0 1))then ge pd0<|ge x1<|some (Sum.inr [.int 1])else ge pd0<|ge x1<|some (Sum.inl [.int (qint (qnth x0 0)),.int (qbin .add .i64 sn1 1)])else ge pd0<|ge x1<|some (Sum.inr [.int 0,.int sn0]):=by kernel_rfl
def st61_2_eq:=by have h:= @st61_2_e;simp only[ge_id,gd,qeqD_self,qeqI_self,qeq_len,qeq_l,cond_true]at h;exact h
def l61_2:List D→List D→Option (List D):=veil fun p s=>loW (st61_2 p) s
theorem l61_2_eq:l61_2=fun p s=>loW (st61_2 p) s:=veil_eq _
def tbl61_2:Tb:=Tb.addL tb30 61 2 S61_2.n0 (mkLp S61_2 (l61_2))
theorem ok_tbl61_2:TbOk env (tbl61_2):=addLoopQ ok_tb30 61 2 (by kernel_rfl) _ (l61_2_eq)
def S61:FunS:=⟨[⟨true,(.dat 54)⟩,⟨true,(.int .i64)⟩],[],[⟨true,(.tup [(.int .i64), .bool])⟩],[]⟩
def F61:List D→Option (List D):=liftX env tbl61_2 60 12 61 S61
theorem F61_eq (sd0:D) (sn1:Int):F61 [sd0,(D.int sn1)] =
 bif (qsome (l61_2 [(qfld sd0 1),(D.int (qlen (qfld sd0 1)))] [(D.int sn1),(D.int 0)]))then
 bif (qcmp BinOp.eql (qint (qnth (l61_2 [(qfld sd0 1),(D.int (qlen (qfld sd0 1)))] [(D.int sn1),(D.int 0)]) 0)) 0)then
 some [(D.int (qint (qnth (l61_2 [(qfld sd0 1),(D.int (qlen (qfld sd0 1)))] [(D.int sn1),(D.int 0)]) 1))),(D.bool Bool.true)]
 else
 some [(D.int 0),(D.bool Bool.false)]
 else
 none:=by kernel_rfl
def q61:List D→Option (List D):=veil (F61)
theorem q61_eq:q61=F61:=veil_eq _
def tb61:Tb:=Tb.addF tbl61_2 61 S61 (q61)
theorem ok_tb61:TbOk env (tb61):=addFunF ok_tbl61_2 61 (by kernel_rfl) _ (q61_eq)
def S52:FunS:=⟨[⟨true,(.dat 61)⟩],[],[⟨true, .bool⟩],[]⟩
def F52:List D→Option (List D):=liftX env tb61 60 12 52 S52
theorem F52_eq (sd0:D):F52 [sd0] =
 some [(D.bool (qiteB (qcmp BinOp.eql (qint (qfld sd0 0)) 2) (qcmp BinOp.eql (qint (qfld sd0 2)) 7) Bool.false))]:=by kernel_rfl
def q52:List D→Option (List D):=veil (F52)
theorem q52_eq:q52=F52:=veil_eq _
def tb52:Tb:=Tb.addF tb61 52 S52 (q52)
theorem ok_tb52:TbOk env (tb52):=addFunF ok_tb61 52 (by kernel_rfl) _ (q52_eq)
def S75:FunS:=⟨[⟨true,(.int .i64)⟩,⟨true,(.int .i64)⟩],[],[⟨true,(.int .i64)⟩],[]⟩
def F75:List D→Option (List D):=liftX env tb52 60 12 75 S75
theorem F75_eq (sn0:Int) (sn1:Int):F75 [(D.int sn0),(D.int sn1)] =
 some [(D.int (qwrap IntKind.i64 (qwrap IntKind.i32 (qbin BinOp.add IntKind.u32 (qwrap IntKind.u32 sn0) (qwrap IntKind.u32 sn1)))))]:=by kernel_rfl
def q75:List D→Option (List D):=veil (F75)
theorem q75_eq:q75=F75:=veil_eq _
def tb75:Tb:=Tb.addF tb52 75 S75 (q75)
theorem ok_tb75:TbOk env (tb75):=addFunF ok_tb52 75 (by kernel_rfl) _ (q75_eq)
def S21:FunS:=⟨[⟨true,(.dat 61)⟩],[],[⟨true,(.tup [(.int .i64), .bool])⟩],[]⟩
def F21:List D→Option (List D):=liftX env tb75 60 12 21 S21
theorem F21_e (sd0:D):F21 [sd0] =
 let x0:=q52 [sd0]
 let x1:=D.bool true
 let x2:=qint (qfld sd0 0)
 let x3:=qcmp .eql x2 4
 let x4:=qiteB (qcmp .eql x2 3) true x3
 let x5:=qfld sd0 4
 let x6:=q52 [qget x5 0]
 let x7:=qiteB x4 (qbool (qnth x6 0)) false
 let x8:=qint (qfld (qget x5 1) 1)
 gd (qsome x0)<|bif qbool (qnth x0 0)then some [.int 0,x1]else gd (qiteB x4 (qand (qinb x5 0) (qsome x6)) true)<|gd (qiteB x7 (qinb x5 1) true)<|bif qiteB x7 (qcmp .eql (qint (qfld (qget x5 1) 0)) 1) false then gd (qinb x5 1)<|some [.int (qwrap .i64 (qwrap .i32 (qiteI x3 (qbin .sub .u32 0 x8) x8))),x1]else some [.int 0,.bool false]:=by kernel_rfl
def F21_eq:=by have h:= @F21_e;simp only[ge_id,gd,qeqD_self,qeqI_self,qeq_len,qeq_l,cond_true]at h;exact h
def q21:List D→Option (List D):=veil (F21)
theorem q21_eq:q21=F21:=veil_eq _
def tb21:Tb:=Tb.addF tb75 21 S21 (q21)
theorem ok_tb21:TbOk env (tb21):=addFunF ok_tb75 21 (by kernel_rfl) _ (q21_eq)
def S38:FunS:=⟨[⟨true,(.dat 57)⟩,⟨true,(.int .i64)⟩],[],[⟨true,(.tup [(.int .i64), .bool])⟩],[]⟩
def F38:List D→Option (List D):=liftX env tb21 60 12 38 S38
theorem F38_e (sd0:D) (sn1:Int):F38 [sd0,(D.int sn1)] =
 let x0:=qint (qfld sd0 0)
 let x1:=D.int sn1
 let x2:=q75 [x1,.int 4]
 let x3:=D.bool true
 let x4:=qcmp .eql (qint (qfld sd0 1)) 7
 let x5:=q21 [qget (qfld sd0 6) 0]
 let x6:=q75 [x1,.int (qint (qnth x5 0))]
 bif qcmp .eql x0 5 then gd (qsome x2)<|some [.int (qint (qnth x2 0)),x3]else bif qiteB (qcmp .eql x0 3) x4 false then some [.int 0,.bool false]else bif qiteB (qcmp .eql x0 1) x4 false then gd (qinb (qfld sd0 6) 0)<|gd (qsome x5)<|gd (qsome x6)<|some [.int (qint (qnth x6 0)),.bool (qbool (qnth x5 1))]else some [x1,x3]:=by kernel_rfl
def F38_eq:=by have h:= @F38_e;simp only[ge_id,gd,qeqD_self,qeqI_self,qeq_len,qeq_l,cond_true]at h;exact h
def q38:List D→Option (List D):=veil (F38)
theorem q38_eq:q38=F38:=veil_eq _
def tb38:Tb:=Tb.addF tb21 38 S38 (q38)
theorem ok_tb38:TbOk env (tb38):=addFunF ok_tb21 38 (by kernel_rfl) _ (q38_eq)
def S48:FunS:=⟨[⟨true,(.dat 54)⟩],[],[⟨true,(.rows 3)⟩],[]⟩
def F48:List D→Option (List D):=liftX env tb38 60 12 48 S48
theorem F48_eq (sd0:D):F48 [sd0] =
 bif (qcmp BinOp.eql (qlen (qfld sd0 1)) 0)then
 some [(D.list [])]
 else
 bif (qinb (qfld sd0 1) (qbin BinOp.sub IntKind.i64 (qlen (qfld sd0 1)) 1))then
 bif (qsome (q89 [(qget (qfld sd0 1) (qbin BinOp.sub IntKind.i64 (qlen (qfld sd0 1)) 1))]))then
 some [(qnth (q89 [(qget (qfld sd0 1) (qbin BinOp.sub IntKind.i64 (qlen (qfld sd0 1)) 1))]) 0)]
 else
 none
 else
 none:=by kernel_rfl
def q48:List D→Option (List D):=veil (F48)
theorem q48_eq:q48=F48:=veil_eq _
def tb48:Tb:=Tb.addF tb38 48 S48 (q48)
theorem ok_tb48:TbOk env (tb48):=addFunF ok_tb38 48 (by kernel_rfl) _ (q48_eq)
end
end Go.Proofs.YtfdedgmlafelaaaGreatDoor
