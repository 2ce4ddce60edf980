/-
  DERIVED: THE SHELF's CONTRACTS AT THIS DUMP, IN PLAIN WORDS (tools/lay-plain.mjs out of 'TryzShelf.lean', which tools/lay-shelf.mjs wrote): THE SAME DECLARATIONS UNDER THE SAME NAMES: 'import', 'namespace', 'open', 'def', 'theorem' AND NOTHING ELSE: no command of the shelf's: FOR A HAND-IN. Each laying: the table of numbers ('.._ren') and one theorem, a field a fact of the dump's own or the kernel's comparison; each contract: ONE APPLICATION.
-/
import Derived.Shelf.Strings.Builder1
import Derived.Shelf.Strings.Builder2
import Derived.Shelf.Strings.OnBuilder
import Derived.Shelf.LaysM
import Derived.Ground.Names2Prog
import Derived.Test.YtfdedgmlafelaaaGreatDoorProg
import Derived.Test.YtfdedgmlafelaaaGreatDoorC1
import Derived.Below
import Derived.RowKit3
import Derived.Test.YtfdedgmlafelaaaGreatDoorAmW
import Derived.Test.YtfdedgmlafelaaaGreatDoorSp
import Derived.KernelRfl
set_option linter.defProp false
set_option linter.unusedSimpArgs false
set_option linter.unusedVariables false
set_option maxRecDepth 100000
namespace Go.Proofs
open Go.Shelf
def Tryz.lays156_ren:Go.Shelf.Ren:=⟨fun|156=>132|165=>151|166=>152|169=>153|240=>164|241=>165|276=>171|277=>172|n=>n,fun|31=>159|9=>9|3=>3|4=>4|0=>0|20=>20|72=>176|76=>179|70=>173|37=>174|75=>178|127=>193|164=>200|5=>5|80=>181|n=>n,fun|n=>n⟩
theorem Tryz.lays156:Go.Proofs.Lays.n156 Tryz.prog Tryz.lays156_ren:={
 mixed:=by kernel_rfl
 f156:=Tryz.func132.trans (congrArg some (by kernel_rfl))
 f165:=Tryz.func151.trans (congrArg some (by kernel_rfl))
 f166:=Tryz.func152.trans (congrArg some (by kernel_rfl))
 f169:=Tryz.func153.trans (congrArg some (by kernel_rfl))
 f240:=Tryz.func164.trans (congrArg some (by kernel_rfl))
 f241:=Tryz.func165.trans (congrArg some (by kernel_rfl))
 f276:=Tryz.func171.trans (congrArg some (by kernel_rfl))
 f277:=Tryz.func172.trans (congrArg some (by kernel_rfl))
 t0:=Tryz.underlying0
 a0:=Tryz.isAgg0
 z0:=Tryz.sizeOf0
 v0:=Tryz.zeroValue0
 t3:=Tryz.underlying3
 a3:=Tryz.isAgg3
 z3:=Tryz.sizeOf3
 v3:=Tryz.zeroValue3
 t4:=Tryz.underlying4
 a4:=Tryz.isAgg4
 z4:=Tryz.sizeOf4
 v4:=Tryz.zeroValue4
 t9:=Tryz.underlying9
 a9:=Tryz.isAgg9
 z9:=Tryz.sizeOf9
 v9:=Tryz.zeroValue9
 t20:=Tryz.underlying20
 a20:=Tryz.isAgg20
 z20:=Tryz.sizeOf20
 v20:=Tryz.zeroValue20
 t31:=Tryz.underlying159
 a31:=Tryz.isAgg159
 z31:=Tryz.sizeOf159
 v31:=Tryz.zeroValue159
 t37:=Tryz.underlying174
 a37:=Tryz.isAgg174
 z37:=Tryz.sizeOf174
 v37:=Tryz.zeroValue174
 t70:=Tryz.underlying173
 a70:=Tryz.isAgg173
 z70:=Tryz.sizeOf173
 v70:=Tryz.zeroValue173
 t72:=Tryz.underlying176
 a72:=Tryz.isAgg176
 z72:=Tryz.sizeOf176
 v72:=Tryz.zeroValue176
 t75:=Tryz.underlying178
 a75:=Tryz.isAgg178
 z75:=Tryz.sizeOf178
 v75:=Tryz.zeroValue178
 t76:=Tryz.underlying179
 a76:=Tryz.isAgg179
 z76:=Tryz.sizeOf179
 v76:=Tryz.zeroValue179
 t127:=Tryz.underlying193
 a127:=Tryz.isAgg193
 z127:=Tryz.sizeOf193
 v127:=Tryz.zeroValue193
 t164:=Tryz.underlying200
 a164:=Tryz.isAgg200
 z164:=Tryz.sizeOf200
 v164:=Tryz.zeroValue200}
theorem Tryz.Builder_Extra_156:Builder.Extra Tryz.prog Tryz.lays156_ren:={
 sizeBuilder:=by kernel_rfl
 liesBuilder:=by kernel_rfl
 t5:=Tryz.underlying5
 a5:=Tryz.isAgg5
 z5:=Tryz.sizeOf5
 v5:=Tryz.zeroValue5
 infoByte:=by kernel_rfl
 cellsByte:=by kernel_rfl
 sizeByte:=by kernel_rfl
 neB5:=by decide}
open Go.RowKit in
theorem Tryz.strings_Join (bk o c:Nat) (xs:List ByteArray) (sep:ByteArray) (w:World) (hcells:∀(j:Nat) x,xs[j]? = some x->w.cell? ⟨bk,o+j,none⟩=some (.string x)) (hbk:bk<w.heap.size) (hN:xs.length≤140737488355328) (hcap:xs.length≤c) (hlen:(Lib.join (xs.map (·.data.toList)) sep.data.toList).length≤140737488355328):
 Calls Tryz.prog 132 #[.slice (some ⟨bk,o,none⟩) xs.length c, .string sep] w fun e w'=>e = .returned (.string ⟨(Lib.join (xs.map (·.data.toList)) sep.data.toList).toArray⟩)∧Below w.heap.size w w':=Any.strings_Join Tryz.lays156 Tryz.Builder_Extra_156 bk o c xs sep w hcells hbk hN hcap hlen
end Go.Proofs
namespace Go.AM
section
variable {P:Program}
theorem Fa {f:FuncId} {args:List AV} {H:Hp} {x:Value} (h:∀(lo:Nat->Prop) (w0:World) (ρ:Nat->Option Nat) (E:Nat->Prop) (w:World) (vs:Array Value),Inv lo w0 ρ E H w->RepL ρ E w args vs.toList->
 Calls P f vs w fun e w'=>e = .returned x∧RowKit.Below w.heap.size w w'):Ok P f args H (.sc x) H:=by
 intro lo w0 ρ E w vs inv ra;refine(h lo w0 ρ E w vs inv ra).mono ?_
 rintro e w' ⟨rfl,hb⟩;obtain⟨b1,b2,b3,hsz,hold⟩:=hb;have ext:Ext ρ E w ρ E w':=Ext.grow (fun _ _ h=>h) (fun _ h=>h) (fun i b hb=>(inv.bd i b hb).2) inv.ebd hold hsz
 refine⟨x,ρ,E,rfl,?_,⟨ext,fun _ h=> .inl h⟩,by simp only[Rep]⟩
 exact{len:=inv.len,dom:=inv.dom,blk:=fun i k b hk hb=>(inv.blk i k b hk hb).mono ext (hold b (inv.bd i b hb).2),inj:=inv.inj,notE:=inv.notE,
       bd:=fun i b hb=>⟨(inv.bd i b hb).1,Nat.lt_of_lt_of_le (inv.bd i b hb).2 hsz⟩
       ebd:=fun b he=>Nat.lt_of_lt_of_le (inv.ebd b he) hsz
       lole:=fun b hb=>Nat.lt_of_lt_of_le (inv.lole b hb) hsz
       old:=fun b hb=>(hold b (inv.lole b hb)).trans (inv.old b hb)
       io:=inv.io.trans ⟨b1,b2,b3⟩,gl:=cr rfl ext inv.gl}
def Ro:List AV->Option ByteArray
 | [.sc (.string s)]=>some s
 |_=>none
theorem yS {E:Nat->Prop} {w:World} {b z:Nat}:∀{xs:List (List AV)} {ss:List ByteArray} {off:Nat},bi Ro xs=some ss->RepRows bj E w b off z xs->∀(j:Nat) x,ss[j]? = some x->w.cell? ⟨b,off+j,none⟩=some (.string x)
 | [],ss,off,h,_,j,x,hx=>by simp[bi]at h;subst h;simp at hx
 |c::cs,ss,off,h,hr,j,x,hx=>by
  simp only[RepRows]at hr;obtain⟨hz,h1,h2⟩:=hr;simp only[bi]at h;cases hc:Ro c with
  |none=>simp[hc]at h
  |some s=>
   cases hm:bi Ro cs with
   |none=>simp[hc,hm]at h
   |some ss'=>
    simp[hc,hm]at h;subst h;have he:c = [.sc (.string s)]:=by
     unfold Ro at hc;split at hc
     ·cases hc;rfl
     ·cases hc
    subst he;simp only[List.length_cons,List.length_nil]at hz;subst hz;cases j with
    |zero=>
     simp at hx;subst hx;simp only[RepAt,Rep]at h1;obtain⟨⟨u,hu,rfl⟩,_⟩:=h1;exact hu
    |succ j=>
     have:=yS hm h2 j x (by simpa using hx)
     rw[show off+(j+1)=off+(0+1)+j by omega];exact this
def Fb (P:Program) (f:FuncId):Prop:=
 ∀(bk o c:Nat) (xs:List ByteArray) (sep:ByteArray) (w:World),(∀(j:Nat) x,xs[j]? = some x->w.cell? ⟨bk,o+j,none⟩=some (.string x))->bk<w.heap.size->xs.length≤140737488355328->xs.length≤c->
  (Lib.join (xs.map (·.data.toList)) sep.data.toList).length≤140737488355328->
  Calls P f #[.slice (some ⟨bk,o,none⟩) xs.length c, .string sep] w fun e w'=>e = .returned (.string ⟨(Lib.join (xs.map (·.data.toList)) sep.data.toList).toArray⟩)∧RowKit.Below w.heap.size w w'
def Rp (args:List AV) (H:Hp):Option (AV×Hp):=
 match args with
 | [.esl (x::xs), .sc (.string sep)]=>(bi Ro (x::xs)).bind fun ss=>
   bif Nat.ble ss.length 1048576&&Nat.ble (Lib.join (ss.map (·.data.toList)) sep.data.toList).length 1048576 then some (.sc (.string ⟨(Lib.join (ss.map (·.data.toList)) sep.data.toList).toArray⟩),H)else none
 |_=>none
theorem Rq {f:FuncId} (hJ:Fb P f) (args:List AV) (H:Hp) (v:AV) (H':Hp) (h:Rp args H=some (v,H')):Ok P f args H v H':=by
 unfold Rp at h;split at h
 case h_2=>cases h
 case h_1 x xs sep=>
  obtain⟨ss,hs,h⟩:=Option.bind_eq_some_iff.1 h;cases hb:(Nat.ble ss.length 1048576&&Nat.ble (Lib.join (ss.map (·.data.toList)) sep.data.toList).length 1048576)with
  |false=>rw[hb]at h;cases h
  |true=>
   rw[hb]at h;cases h;simp only[Bool.and_eq_true,Nat.ble_eq]at hb;refine Fa fun lo w0 ρ E w vs inv ra=> ?_
   generalize hvs:vs.toList=l at ra;simp only[RepL]at ra;obtain⟨u1,l1,rfl,r1,u2,l2,rfl,r2,rfl⟩:=ra;simp only[Rep]at r1 r2;subst r2;obtain⟨a,cap,rfl,hcap,hr⟩:=r1;rcases hr with hr|⟨b,off,z,rfl,he,hr⟩
   ·cases hr
   ·have hlen:=cm hs;have hv:vs = #[.slice (some ⟨b,off,none⟩) ss.length cap, .string sep]:=by
     rw[<- Array.toList_inj,hvs,hlen]
    rw[hv];exact hJ b off cap ss sep w (yS hs hr) (inv.ebd b he) (by omega) (by omega) (by omega)
end
end Go.AM
namespace Go.Proofs.YtfdedgmlafelaaaGreatDoor
noncomputable section
open Go Go.AM
theorem Fc:Fb Tryz.prog 132:=fun bk o c xs sep w h h1 h2 h3 h4=>Tryz.strings_Join bk o c xs sep w h h1 h2 h3 h4
def tbX:Tb:=Tb.nil.add 132 Rp (fun _ _=>[])
def I2:Env:={P:=Tryz.prog,fn:=fun f=>(Tryz.prog.funcs[f]?).bind fun fn=>fn.body.map fun c=>⟨c,fn.ntmps,fn.results.toList⟩,isPure:=fun _=>false,isFrz:=fun _=>false,clr:=false,pre:=tbX.O,lp:=fun _ _=>none,n0:=0}
theorem envXOk:cP I2:=by
 intro f F h;refine iP f F ?_
 rw[envFn];exact h
theorem tbXOk:TbOk I2 tbX:=TbOk.nil.add (by kernel_rfl) fun args H v H' h _=>Rq Fc args H v H' h
def S9:FunS:=⟨[],[],[utB],[]⟩
def psX:List (Nat×Nat):=[(102,132),(26,55),(26,56),(26,57),(26,58)]
theorem ex9:Lm I2 tbX (A9 I2 psX [] tbX 5000 5000).d 9 S9 []=some [.bool true]:=by kernel_rfl
def q9:uAC:=veil fun ds=>Lm I2 tbX (A9 I2 psX [] tbX 5000 5000).d 9 S9 ds
theorem q9_eq:q9 []=some [.bool true]:=by unfold q9;rw[ak];exact ex9
theorem sound9:aY env.P 9 S9 q9:=by
 unfold q9;rw[ak];exact ES I2 tbX (I1 envXOk (fun _ _=>rfl) rfl psX [] tbXOk 5000 5000)
def S113:FunS:=⟨[utI],[],[utB],[]⟩
def F113:uAC:=aS env Tb.nil 60 12 113 S113
theorem LA (sn0:Int):F113 [(D.int sn0)] =
 some [(D.bool (aA (ae BinOp.geq sn0 0) (ae BinOp.lss sn0 65536) Bool.false))]:=by kernel_rfl
def Rr:uAC:=veil (F113)
theorem Ba:Rr=F113:=ak _
def Rs:Tb:=Tb.addF Tb.nil 113 S113 (Rr)
theorem Rt:TbOk env (Rs):=aG ok_nil 113 (by kernel_rfl) _ (Ba)
def S90:FunS:=⟨[utD 57],[],[utB],[]⟩
def F90:uAC:=aS env Rs 60 12 90 S90
theorem F90_eq (sd0:D):F90 [sd0] =
 some [(D.bool (aA (ae BinOp.geq (ah (aa sd0 0)) 6) (ae BinOp.leq (ah (aa sd0 0)) 10) Bool.false))]:=by kernel_rfl
def q90:uAC:=veil (F90)
theorem Ru:q90=F90:=ak _
def tb90:Tb:=Tb.addF Rs 90 S90 (q90)
theorem ok_tb90:TbOk env (tb90):=aG Rt 90 (by kernel_rfl) _ (Ru)
def S109:FunS:=⟨[utD 57],[],[utB],[]⟩
def F109:uAC:=aS env tb90 60 12 109 S109
theorem F109_eq (sd0:D):F109 [sd0] =
 some [(D.bool (aA (ae BinOp.geq (ah (aa sd0 0)) 6) (ae BinOp.leq (ah (aa sd0 0)) 10) Bool.false))]:=by kernel_rfl
def q109:uAC:=veil (F109)
theorem LB:q109=F109:=ak _
def Rv:Tb:=Tb.addF tb90 109 S109 (q109)
theorem Rw:TbOk env (Rv):=aG ok_tb90 109 (by kernel_rfl) _ (LB)
def S123:FunS:=⟨[utI],[],[utB],[]⟩
def F123:uAC:=aS env Rv 60 12 123 S123
theorem F123_eq (sn0:Int):F123 [(D.int sn0)] =
 some [(D.bool (aA (ae BinOp.geq sn0 0) (ae BinOp.lss sn0 65536) Bool.false))]:=by kernel_rfl
def Rx:uAC:=veil (F123)
theorem LC:Rx=F123:=ak _
def Ry:Tb:=Tb.addF Rv 123 S123 (Rx)
theorem Rz:TbOk env (Ry):=aG Rw 123 (by kernel_rfl) _ (LC)
def S124:FunS:=⟨[utI],[],[utB],[]⟩
def F124:uAC:=aS env Ry 60 12 124 S124
theorem F124_eq (sn0:Int):F124 [(D.int sn0)] =
 some [(D.bool (aA (aA (ae BinOp.eql sn0 1) Bool.true (ae BinOp.eql sn0 2)) Bool.true (ae BinOp.eql sn0 4)))]:=by kernel_rfl
def RA:uAC:=veil (F124)
theorem LD:RA=F124:=ak _
def RB:Tb:=Tb.addF Ry 124 S124 (RA)
theorem RC:TbOk env (RB):=aG Rz 124 (by kernel_rfl) _ (LD)
def S93:FunS:=⟨[utI],[],[utI],[]⟩
def F93:uAC:=aS env RB 60 12 93 S93
theorem F93_eq (sn0:Int):F93 [(D.int sn0)] =
 bif (aA (ae BinOp.eql sn0 1) (ae BinOp.eql sn0 1) (aA (ae BinOp.eql sn0 4) (ae BinOp.eql sn0 4) (aA (ae BinOp.eql sn0 7) (ae BinOp.eql sn0 7) (ae BinOp.eql sn0 8))))then
 some [(D.int 1)]
 else
 bif (ae BinOp.eql sn0 2)then
 some [(D.int 2)]
 else
 bif (aA (ae BinOp.eql sn0 3) (ae BinOp.eql sn0 3) (aA (ae BinOp.eql sn0 5) (ae BinOp.eql sn0 5) (aA (ae BinOp.eql sn0 6) (ae BinOp.eql sn0 6) (aA (ae BinOp.eql sn0 9) (ae BinOp.eql sn0 9) (ae BinOp.eql sn0 10)))))then
 some [(D.int 0)]
 else
 some [(D.int (-1))]:=by kernel_rfl
def q93:uAC:=veil (F93)
theorem RD:q93=F93:=ak _
def tb93:Tb:=Tb.addF RB 93 S93 (q93)
theorem ok_tb93:TbOk env (tb93):=aG RC 93 (by kernel_rfl) _ (RD)
def S110:FunS:=⟨[utI],[],[utI],[]⟩
def F110:uAC:=aS env tb93 60 12 110 S110
theorem Bb (sn0:Int):F110 [(D.int sn0)] =
 bif (ae BinOp.eql sn0 2)then
 some [(D.int 2)]
 else
 bif (aA (ae BinOp.eql sn0 1) (ae BinOp.eql sn0 1) (aA (ae BinOp.eql sn0 4) (ae BinOp.eql sn0 4) (aA (ae BinOp.eql sn0 7) (ae BinOp.eql sn0 7) (ae BinOp.eql sn0 8))))then
 some [(D.int 1)]
 else
 some [(D.int 0)]:=by kernel_rfl
def q110:uAC:=veil (F110)
theorem ro:q110=F110:=ak _
def RE:Tb:=Tb.addF tb93 110 S110 (q110)
theorem RF:TbOk env (RE):=aG ok_tb93 110 (by kernel_rfl) _ (ro)
def S94:FunS:=⟨[utD 57],[],[utB],[]⟩
def F94:uAC:=aS env RE 60 12 94 S94
theorem F94_e (sd0:D):F94 [sd0] =
 let x0:=ah (aa sd0 0)
 let x1:=ae .eql x0 1
 let x2:=ah (aa sd0 1)
 let x3:=Rx [.int x2]
 let x4:Option (List D):=some [.bool false]
 let x5:=ah (aa sd0 2)
 let x6:=ae .eql x5 0
 let x7:=ah (aa sd0 5)
 let x8:=ae .eql x7 0
 let x9:=ah (aa sd0 3)
 let x10:=ae .eql x9 0
 let x11:=ah (aa sd0 4)
 let x12:=ae .eql x11 0
 let x13:=ai (aa sd0 7)
 let x14:=ae .eql x13 0
 let x15:=RA [.int x5]
 let x16:=ae .eql x2 0
 let x17:=aA x16 x6 false
 let x18:=aA x17 x8 false
 let x19:=aA x18 (ae .eql x9 x9) false
 let x20:=aA (aA x18 x10 false) x12 false
 bif aA x1 x1 (ae .eql x0 3)then gd (uZZ x3)<|bif ca (aJ (ar x3 0))then x4 else some [.bool (aA (aA (aA (aA (aA (ae .eql x2 x2) x6 false) x8 false) x10 false) x12 false) x14 false)]else bif ae .eql x0 2 then gd (uZZ x15)<|bif ca (aJ (ar x15 0))then x4 else some [.bool (aA (aA (aA (aA (aA x16 (ae .eql x5 x5) false) x8 false) x10 false) x12 false) x14 false)]else bif ae .eql x0 5 then some [.bool (aA (aA (aA (aA x17 (ae .eql x7 x7) false) x10 false) x12 false) x14 false)]else bif ae .eql x0 6 then some [.bool (aA (aA x19 x12 false) x14 false)]else bif ae .eql x0 7 then some [.bool (aA (aA x19 (ae .eql x11 x11) false) x14 false)]else bif ae .eql x0 8 then bif aA (ae .lss x13 1) true (ae .gtr x13 64)then x4 else some [.bool (aA x20 (ae .eql x13 x13) false)]else some [.bool (aA x20 x14 false)]:=by kernel_rfl
def F94_eq:=by have h:= @F94_e;simp only[aN,gd,aq,aj,az,aM,cond_true]at h;exact h
def q94:uAC:=veil (F94)
theorem RG:q94=F94:=ak _
def tb94:Tb:=Tb.addF RE 94 S94 (q94)
theorem ok_tb94:TbOk env (tb94):=aG RF 94 (by kernel_rfl) _ (RG)
def S112:FunS:=⟨[utD 57],[],[utB],[]⟩
def F112:uAC:=aS env tb94 60 12 112 S112
theorem F112_e (sd0:D):F112 [sd0] =
 let x0:=ah (aa sd0 0)
 let x1:=ae .eql x0 7
 some [.bool (aA (aA (aA (aA (aA (aA (aA (ae .eql x0 1) true (ae .eql x0 3)) true (ae .eql (ah (aa sd0 1)) 0)) (aA (ae .eql x0 2) true (ae .eql (ah (aa sd0 2)) 0)) false) (aA (aA (ae .eql x0 6) true x1) true (ae .eql (ah (aa sd0 3)) 0)) false) (aA x1 true (ae .eql (ah (aa sd0 4)) 0)) false) (aA (ae .eql x0 5) true (ae .eql (ah (aa sd0 5)) 0)) false) (aA (ae .eql x0 8) true (ae .eql (ai (aa sd0 7)) 0)) false)]:=by kernel_rfl
def F112_eq:=by have h:= @F112_e;simp only[aN,gd,aq,aj,az,aM,cond_true]at h;exact h
def q112:uAC:=veil (F112)
theorem LE:q112=F112:=ak _
def RH:Tb:=Tb.addF tb94 112 S112 (q112)
theorem Fd:TbOk env (RH):=aG ok_tb94 112 (by kernel_rfl) _ (LE)
def S98:FunS:=⟨[utD 61,utI],[],[utB],[]⟩
def RI (Q:uAC):Tb:=Tb.addF RH 98 S98 Q
theorem RJ (Q:uAC) (hQ:aY env.P 98 S98 Q):TbOk env (RI Q):=TbOk.addF Fd (by kernel_rfl) hQ
def S129:FunS:=⟨[utD 61,utS (.eptr [(.int .i64)])],[],[utB],[]⟩
def F129 (Q:uAC):uAC:=aS env (RI Q) 60 12 129 S129
theorem F129_eq (Q:uAC) (sd0:D) (sn1:Int):F129 Q [sd0,(D.int sn1)] =
 bif (uZZ (Q [sd0,(D.int (aQ BinOp.sub IntKind.i64 sn1 1))]))then
 some [(D.bool (ca (aJ (ar (Q [sd0,(D.int (aQ BinOp.sub IntKind.i64 sn1 1))]) 0))))]
 else
 none:=by kernel_rfl
def N0 (Q:uAC):uAC:=veil (F129 Q)
theorem LF (Q:uAC):N0 Q=F129 Q:=ak _
def RK (Q:uAC):Tb:=Tb.addF (RI Q) 129 S129 (N0 Q)
theorem RL (Q:uAC) (hQ:aY env.P 98 S98 Q):TbOk env (RK Q):=aG (RJ Q hQ) 129 (by kernel_rfl) _ (LF Q)
def S149_129_2:LoopS:=⟨0,ufR 61::ufS (.func 129 [] [(.eptr [(.int .i64)])])::uF::uF::ufZ::uF::uF::ufI::utI::uAA 10 [],[],[⟨0,0,ufR 61::ufS (.func 129 [] [(.eptr [(.int .i64)])])::uT::uT::utZ::uT::uT::ufI::uAB 11 [],[]⟩,⟨1,0,ufR 61::ufS (.func 129 [] [(.eptr [(.int .i64)])])::uT::uT::utI::uT::uT::ufI::uAB 11 [],[]⟩]⟩
def gX (Q:uAC) (p s:List D):Option (Sum (List D) (List D)):=aR env (RK Q) 60 12 149 (aW 149 2) S149_129_2 p s
theorem xK (Q:uAC) (pd0:D) (pn1:Int) (pn2:Int) (sn0:Int):gX Q [pd0,(D.int pn1),(D.int pn2)] [(D.int sn0)] =
 let x0:=D.int pn1
 let x1:=N0 Q [ay pd0 sn0,x0]
 let x2:=D.int pn2
 bif ae .lss sn0 pn2 then gd (aI pd0 sn0)<|gd (uZZ x1)<|bif aJ (ar x1 0)then ge pd0<|ge x0<|ge x2<|some (Sum.inr [.int 1,.int sn0])else ge pd0<|ge x0<|ge x2<|some (Sum.inl [.int (aQ .add .i64 sn0 1)])else ge pd0<|ge x0<|ge x2<|some (Sum.inr [.int 0]):=by kernel_rfl
def uN:=by have h:= @xK;simp only[aN,gd,aq,aj,az,aM,cond_true]at h;exact h
def gm (Q:uAC):List D->uAC:=veil fun p s=>loW (gX Q p) s
theorem lS (Q:uAC):gm Q=fun p s=>loW (gX Q p) s:=ak _
def ju (Q:uAC):Tb:=Tb.addL (RK Q) 149 2 S149_129_2.n0 (bu S149_129_2 (gm Q))
theorem qO (Q:uAC) (hQ:aY env.P 98 S98 Q):TbOk env (ju Q):=aF (RL Q hQ) 149 2 (by kernel_rfl) _ (lS Q)
def Fe:FunS:=⟨[utR 61,utS (.func 129 [] [(.eptr [(.int .i64)])])],[],[utI],[]⟩
def uO (Q:uAC):uAC:=aS env (ju Q) 60 12 149 Fe
theorem Ff (Q:uAC) (sd0:D) (sn1:Int):uO Q [sd0,(D.int sn1)] =
 bif (uZZ (gm Q [sd0,(D.int sn1),(D.int (ai sd0))] [(D.int 0)]))then
 bif (ae BinOp.eql (ah (ar (gm Q [sd0,(D.int sn1),(D.int (ai sd0))] [(D.int 0)]) 0)) 0)then
 some [(D.int (-1))]
 else
 some [(D.int (ah (ar (gm Q [sd0,(D.int sn1),(D.int (ai sd0))] [(D.int 0)]) 1)))]
 else
 none:=by kernel_rfl
def nM (Q:uAC):uAC:=veil (uO Q)
theorem qr (Q:uAC):nM Q=uO Q:=ak _
def o7 (Q:uAC):Tb:=Tb.addF (ju Q) 149 Fe (nM Q)
theorem Bc (Q:uAC) (hQ:aY env.P 98 S98 Q):TbOk env (o7 Q):=aG (qO Q hQ) 149 (by kernel_rfl) _ (qr Q)
def Fg:FunS:=⟨[utR 61,utS (.func 129 [] [(.eptr [(.int .i64)])])],[],[utB],[]⟩
def uP (Q:uAC):uAC:=aS env (o7 Q) 60 12 128 Fg
theorem Fh (Q:uAC) (sd0:D) (sn1:Int):uP Q [sd0,(D.int sn1)] =
 bif (uZZ (nM Q [sd0,(D.int sn1)]))then
 some [(D.bool (ae BinOp.geq (ah (ar (nM Q [sd0,(D.int sn1)]) 0)) 0))]
 else
 none:=by kernel_rfl
def kE (Q:uAC):uAC:=veil (uP Q)
theorem qs (Q:uAC):kE Q=uP Q:=ak _
def o8 (Q:uAC):Tb:=Tb.addF (o7 Q) 128 Fg (kE Q)
theorem Be (Q:uAC) (hQ:aY env.P 98 S98 Q):TbOk env (o8 Q):=aG (Bc Q hQ) 128 (by kernel_rfl) _ (qs Q)
def Fb98 (Q:uAC):uAC:=aS env (o8 Q) 60 12 98 S98
theorem Fb98_eq (Q:uAC) (sd0:D) (sn1:Int):Fb98 Q [sd0,(D.int sn1)] =
 bif (aA (ae BinOp.geq sn1 1) (uZZ (kE Q [(aa sd0 4),(D.int sn1)])) Bool.true)then
 some [(D.bool (aA (ae BinOp.geq sn1 1) (ca (aJ (ar (kE Q [(aa sd0 4),(D.int sn1)]) 0))) Bool.false))]
 else
 none:=by kernel_rfl
def F98:Nat->uAC:=levels Fb98
theorem F98_s (n:Nat):F98 (n+1)=Fb98 (F98 n):=rfl
def q98:uAC:=veil fun ds=>F98 (bE ds) ds
theorem RM:q98=fun ds=>F98 (bE ds) ds:=ak _
theorem sound98:aY env.P 98 S98 q98:=nK (fun q=>o8 q) (fun q hq=>Be q hq) RM
def tb98:Tb:=Tb.addF RH 98 S98 q98
theorem LG:TbOk env tb98:=TbOk.addF Fd (by kernel_rfl) sound98
def S99:FunS:=⟨[utD 61],[],[utB],[]⟩
def RN (Q:uAC):Tb:=Tb.addF tb98 99 S99 Q
theorem RO (Q:uAC) (hQ:aY env.P 99 S99 Q):TbOk env (RN Q):=TbOk.addF LG (by kernel_rfl) hQ
def S130:FunS:=⟨[utD 61],[],[utB],[]⟩
def F130 (Q:uAC):uAC:=aS env (RN Q) 60 12 130 S130
theorem F130_eq (Q:uAC) (sd0:D):F130 Q [sd0] =
 bif (uZZ (Q [sd0]))then
 some [(D.bool (ca (aJ (ar (Q [sd0]) 0))))]
 else
 none:=by kernel_rfl
def N1 (Q:uAC):uAC:=veil (F130 Q)
theorem LH (Q:uAC):N1 Q=F130 Q:=ak _
def RP (Q:uAC):Tb:=Tb.addF (RN Q) 130 S130 (N1 Q)
theorem RR (Q:uAC) (hQ:aY env.P 99 S99 Q):TbOk env (RP Q):=aG (RO Q hQ) 130 (by kernel_rfl) _ (LH Q)
def S149_130_2:LoopS:=⟨0,ufR 61::ufS (.func 130 [] [])::uF::uF::ufZ::uF::uF::ufI::utI::uAA 10 [],[],[⟨0,0,ufR 61::uT::uT::uT::utZ::uT::uT::ufI::uAB 11 [],[]⟩,⟨1,0,ufR 61::uT::uT::uT::utI::uT::uT::ufI::uAB 11 [],[]⟩]⟩
def gY (Q:uAC) (p s:List D):Option (Sum (List D) (List D)):=aR env (RP Q) 60 12 149 (aW 149 2) S149_130_2 p s
theorem xL (Q:uAC) (pd0:D) (pn1:Int) (sn0:Int):gY Q [pd0,(D.int pn1)] [(D.int sn0)] =
 let x0:=N1 Q [ay pd0 sn0]
 let x1:=D.int pn1
 bif ae .lss sn0 pn1 then gd (aI pd0 sn0)<|gd (uZZ x0)<|bif aJ (ar x0 0)then ge pd0<|ge x1<|some (Sum.inr [.int 1,.int sn0])else ge pd0<|ge x1<|some (Sum.inl [.int (aQ .add .i64 sn0 1)])else ge pd0<|ge x1<|some (Sum.inr [.int 0]):=by kernel_rfl
def uQ:=by have h:= @xL;simp only[aN,gd,aq,aj,az,aM,cond_true]at h;exact h
def gn (Q:uAC):List D->uAC:=veil fun p s=>loW (gY Q p) s
theorem lT (Q:uAC):gn Q=fun p s=>loW (gY Q p) s:=ak _
def jv (Q:uAC):Tb:=Tb.addL (RP Q) 149 2 S149_130_2.n0 (bu S149_130_2 (gn Q))
theorem qP (Q:uAC) (hQ:aY env.P 99 S99 Q):TbOk env (jv Q):=aF (RR Q hQ) 149 2 (by kernel_rfl) _ (lT Q)
def Fi:FunS:=⟨[utR 61,utS (.func 130 [] [])],[],[utI],[]⟩
def uR (Q:uAC):uAC:=aS env (jv Q) 60 12 149 Fi
theorem Fj (Q:uAC) (sd0:D):uR Q [sd0] =
 bif (uZZ (gn Q [sd0,(D.int (ai sd0))] [(D.int 0)]))then
 bif (ae BinOp.eql (ah (ar (gn Q [sd0,(D.int (ai sd0))] [(D.int 0)]) 0)) 0)then
 some [(D.int (-1))]
 else
 some [(D.int (ah (ar (gn Q [sd0,(D.int (ai sd0))] [(D.int 0)]) 1)))]
 else
 none:=by kernel_rfl
def nN (Q:uAC):uAC:=veil (uR Q)
theorem qt (Q:uAC):nN Q=uR Q:=ak _
def o9 (Q:uAC):Tb:=Tb.addF (jv Q) 149 Fi (nN Q)
theorem Bf (Q:uAC) (hQ:aY env.P 99 S99 Q):TbOk env (o9 Q):=aG (qP Q hQ) 149 (by kernel_rfl) _ (qt Q)
def Fk:FunS:=⟨[utR 61,utS (.func 130 [] [])],[],[utB],[]⟩
def uS (Q:uAC):uAC:=aS env (o9 Q) 60 12 128 Fk
theorem Fl (Q:uAC) (sd0:D):uS Q [sd0] =
 bif (uZZ (nN Q [sd0]))then
 some [(D.bool (ae BinOp.geq (ah (ar (nN Q [sd0]) 0)) 0))]
 else
 none:=by kernel_rfl
def nO (Q:uAC):uAC:=veil (uS Q)
theorem qu (Q:uAC):nO Q=uS Q:=ak _
def pa (Q:uAC):Tb:=Tb.addF (o9 Q) 128 Fk (nO Q)
theorem Bg (Q:uAC) (hQ:aY env.P 99 S99 Q):TbOk env (pa Q):=aG (Bf Q hQ) 128 (by kernel_rfl) _ (qu Q)
def Fb99 (Q:uAC):uAC:=aS env (pa Q) 60 12 99 S99
theorem Fb99_e (Q:uAC) (sd0:D):Fb99 Q [sd0] =
 let x0:=ah (aa sd0 0)
 let x1:=ah (aa sd0 1)
 let x2:=ah (aa sd0 2)
 let x3:=ae .eql x2 0
 let x4:=ah (aa sd0 3)
 let x5:=ae .eql x4 0
 let x6:=ai (aa sd0 4)
 let x7:=ae .eql x6 0
 let x8:=aA (aA (aA (ae .eql x1 x1) x3 false) x5 false) x7 false
 let x9:=nO Q [aa sd0 4]
 let x10:=uZZ x9
 let x11:=ca (aJ (ar x9 0))
 let x12:=ae .eql x0 2
 let x13:=Rx [.int x2]
 let x14:=ae .eql x1 0
 let x15:=aA (aA (aA x14 (ae .eql x2 x2) false) x5 false) x7 false
 let x16:=aA x14 x3 false
 let x17:=aA x16 x5 false
 let x18:=aA x17 (ae .eql x6 2) false
 let x19:=ae .eql x0 16
 let x20:=ae .eql x6 1
 let x21:=aA x17 x20 false
 let x22:=ae .eql x0 18
 let x23:=RA [.int x4]
 let x24:=aA x22 (aJ (ar x23 0)) false
 let x25:=aA (aA x16 (ae .eql x4 x4) false) x20 false
 bif ae .eql x0 1 then gd (aA x8 x10 true)<|some [.bool (aA x8 x11 false)]else gd (aA x12 (uZZ x13) true)<|bif aA x12 (aJ (ar x13 0)) false then gd (aA x15 x10 true)<|some [.bool (aA x15 x11 false)]else bif aA (ae .geq x0 3) (ae .leq x0 15) false then gd (aA x18 x10 true)<|some [.bool (aA x18 x11 false)]else bif aA x19 x19 (ae .eql x0 17)then gd (aA x21 x10 true)<|some [.bool (aA x21 x11 false)]else gd (aA x22 (uZZ x23) true)<|bif aA x24 x24 (aA (ae .eql x0 19) (aA (ae .eql x4 1) true (ae .eql x4 2)) false)then gd (aA x25 x10 true)<|some [.bool (aA x25 x11 false)]else some [.bool false]:=by kernel_rfl
def Fb99_eq:=by have h:= @Fb99_e;simp only[aN,gd,aq,aj,az,aM,cond_true]at h;exact h
def F99:Nat->uAC:=levels Fb99
theorem F99_s (n:Nat):F99 (n+1)=Fb99 (F99 n):=rfl
def q99:uAC:=veil fun ds=>F99 (bE ds) ds
theorem RS:q99=fun ds=>F99 (bE ds) ds:=ak _
theorem sound99:aY env.P 99 S99 q99:=nK (fun q=>pa q) (fun q hq=>Bg q hq) RS
def tb99:Tb:=Tb.addF tb98 99 S99 q99
theorem LI:TbOk env tb99:=TbOk.addF LG (by kernel_rfl) sound99
def N2:FunS:=⟨[utD 61,utI],[],[utB],[]⟩
def I3 (Q:uAC):Tb:=Tb.addF tb99 144 N2 Q
theorem N3 (Q:uAC) (hQ:aY env.P 144 N2 Q):TbOk env (I3 Q):=TbOk.addF LI (by kernel_rfl) hQ
def S144_4:LoopS:=⟨0,uF::ufI::ufP 0 0::uF::ufS (.lit (.bool false))::utI::uAA 17 [],[(.dat false 61)],[⟨0,0,uT::ufI::uT::uT::utS (.lit (.bool false))::uAB 18 [],[(.dat false 61)]⟩,⟨1,0,uT::ufI::uT::uT::utS (.lit (.bool true))::uAB 18 [],[(.dat false 61)]⟩]⟩
def rp (Q:uAC) (p s:List D):Option (Sum (List D) (List D)):=aR env (I3 Q) 60 12 144 (aW 144 4) S144_4 p s
theorem N4 (Q:uAC) (pn0:Int) (pd1:D) (sn0:Int):rp Q [(D.int pn0),pd1] [(D.int sn0)] =
 let x0:=aa pd1 4
 let x1:=Q [ay x0 sn0,.int (aQ .sub .i64 pn0 1)]
 let x2:=D.int pn0
 bif ae .lss sn0 (ai x0)then gd (aI x0 sn0)<|gd (uZZ x1)<|bif aJ (ar x1 0)then ge x2<|ge pd1<|some (Sum.inr [.int 1])else ge x2<|ge pd1<|some (Sum.inl [.int (aQ .add .i64 sn0 1)])else ge x2<|ge pd1<|some (Sum.inr [.int 0]):=by kernel_rfl
def I4:=by have h:= @N4;simp only[aN,gd,aq,aj,az,aM,cond_true]at h;exact h
def Bh (Q:uAC):List D->uAC:=veil fun p s=>loW (rp Q p) s
theorem yU (Q:uAC):Bh Q=fun p s=>loW (rp Q p) s:=ak _
def uU (Q:uAC):Tb:=Tb.addL (I3 Q) 144 4 S144_4.n0 (bu S144_4 (Bh Q))
theorem Fo (Q:uAC) (hQ:aY env.P 144 N2 Q):TbOk env (uU Q):=aF (N3 Q hQ) 144 4 (by kernel_rfl) _ (yU Q)
def RT (Q:uAC):uAC:=aS env (uU Q) 60 12 144 N2
theorem RU (Q:uAC) (sd0:D) (sn1:Int):RT Q [sd0,(D.int sn1)] =
 bif (ae BinOp.lss sn1 1)then
 some [(D.bool Bool.true)]
 else
 bif (uZZ (Bh Q [(D.int sn1),sd0] [(D.int 0)]))then
 bif (ae BinOp.eql (ah (ar (Bh Q [(D.int sn1),sd0] [(D.int 0)]) 0)) 0)then
 some [(D.bool Bool.false)]
 else
 some [(D.bool Bool.true)]
 else
 none:=by kernel_rfl
def Fp:Nat->uAC:=levels RT
theorem F144_s (n:Nat):Fp (n+1)=RT (Fp n):=rfl
def RV:uAC:=veil fun ds=>Fp (bE ds) ds
theorem rq:RV=fun ds=>Fp (bE ds) ds:=ak _
theorem RX:aY env.P 144 N2 RV:=nK (fun q=>uU q) (fun q hq=>Fo q hq) rq
def RY:Tb:=Tb.addF tb99 144 N2 RV
theorem Fq:TbOk env RY:=TbOk.addF LI (by kernel_rfl) RX
def N5:FunS:=⟨[utD 61],[],[utB],[]⟩
def I5 (Q:uAC):Tb:=Tb.addF RY 145 N5 Q
theorem N6 (Q:uAC) (hQ:aY env.P 145 N5 Q):TbOk env (I5 Q):=TbOk.addF Fq (by kernel_rfl) hQ
def S145_2:LoopS:=⟨0,uF::ufP 0 0::ufS (.lit (.bool false))::utI::uAA 161 [],[(.dat false 61)],[⟨0,0,uT::utP 0 0::utS (.lit (.bool false))::uAB 162 [],[(.dat false 61)]⟩,⟨1,0,uT::uT::utS (.lit (.bool false))::uAB 162 [],[(.dat false 61)]⟩]⟩
def nP (Q:uAC) (p s:List D):Option (Sum (List D) (List D)):=aR env (I5 Q) 60 12 145 (aW 145 2) S145_2 p s
theorem N7 (Q:uAC) (pd0:D) (sn0:Int):nP Q [pd0] [(D.int sn0)] =
 let x0:=aa pd0 4
 let x1:=Q [ay x0 sn0]
 bif ae .lss sn0 (ai x0)then gd (aI x0 sn0)<|gd (uZZ x1)<|bif ca (aJ (ar x1 0))then ge pd0<|some (Sum.inr [.int 1])else ge pd0<|some (Sum.inl [.int (aQ .add .i64 sn0 1)])else ge pd0<|some (Sum.inr [.int 0]):=by kernel_rfl
def uV:=by have h:= @N7;simp only[aN,gd,aq,aj,az,aM,cond_true]at h;exact h
def Bi (Q:uAC):List D->uAC:=veil fun p s=>loW (nP Q p) s
theorem pb (Q:uAC):Bi Q=fun p s=>loW (nP Q p) s:=ak _
def uW (Q:uAC):Tb:=Tb.addL (I5 Q) 145 2 S145_2.n0 (bu S145_2 (Bi Q))
theorem Fs (Q:uAC) (hQ:aY env.P 145 N5 Q):TbOk env (uW Q):=aF (N6 Q hQ) 145 2 (by kernel_rfl) _ (pb Q)
def RZ (Q:uAC):uAC:=aS env (uW Q) 60 12 145 N5
theorem Fb145_e (Q:uAC) (sd0:D):RZ Q [sd0] =
 let x0:=Bi Q [sd0] [.int 0]
 let x1:=ah (aa sd0 0)
 let x2:=ah (aa sd0 2)
 let x3:=ae .eql x2 0
 let x4:=ah (aa sd0 3)
 let x5:=ae .eql x4 0
 let x6:=ai (aa sd0 4)
 let x7:=ae .eql x6 0
 let x8:=ae .eql (ah (aa sd0 1)) 0
 let x9:=aA (aA x8 x5 false) x7 false
 let x10:=Rr [.int x2]
 let x11:=ae .eql x1 16
 let x12:=aA x8 x3 false
 let x13:=ae .eql x6 1
 let x14:=aA (ae .eql x4 1) true (ae .eql x4 2)
 gd (uZZ x0)<|bif ae .eql (ah (ar x0 0)) 0 then bif ae .eql x1 1 then some [.bool (aA (aA x3 x5 false) x7 false)]else bif ae .eql x1 2 then gd (aA x9 (uZZ x10) true)<|some [.bool (aA x9 (aJ (ar x10 0)) false)]else bif aA x11 x11 (ae .eql x1 17)then some [.bool (aA (aA x12 x5 false) x13 false)]else bif ae .eql x1 18 then some [.bool (aA (aA x12 (aA x14 true (ae .eql x4 4)) false) x13 false)]else bif ae .eql x1 19 then some [.bool (aA (aA x12 x14 false) x13 false)]else some [.bool (aA (aA (aA (aA (aA (ae .geq x1 3) (ae .leq x1 15) false) x8 false) x3 false) x5 false) (ae .eql x6 2) false)]else some [.bool false]:=by kernel_rfl
def uX:=by have h:= @Fb145_e;simp only[aN,gd,aq,aj,az,aM,cond_true]at h;exact h
def lI:Nat->uAC:=levels RZ
theorem I6 (n:Nat):lI (n+1)=RZ (lI n):=rfl
def R0:uAC:=veil fun ds=>lI (bE ds) ds
theorem rt:R0=fun ds=>lI (bE ds) ds:=ak _
theorem R1:aY env.P 145 N5 R0:=nK (fun q=>uW q) (fun q hq=>Fs q hq) rt
def R2:Tb:=Tb.addF RY 145 N5 R0
theorem R3:TbOk env R2:=TbOk.addF Fq (by kernel_rfl) R1
def S59:FunS:=⟨[utD 61],[],[utI],[]⟩
def F59:uAC:=aS env R2 60 12 59 S59
theorem F59_eq (sd0:D):F59 [sd0] =
 bif (uZZ (q98 [sd0,(D.int 64)]))then
 bif (ca (aJ (ar (q98 [sd0,(D.int 64)]) 0)))then
 some [(D.int 20)]
 else
 bif (uZZ (q99 [sd0]))then
 bif (ca (aJ (ar (q99 [sd0]) 0)))then
 some [(D.int 2)]
 else
 some [(D.int 0)]
 else
 none
 else
 none:=by kernel_rfl
def q59:uAC:=veil (F59)
theorem R4:q59=F59:=ak _
def tb59:Tb:=Tb.addF R2 59 S59 (q59)
theorem ok_tb59:TbOk env (tb59):=aG R3 59 (by kernel_rfl) _ (R4)
def S111:FunS:=⟨[utD 61],[],[utI],[]⟩
def R5:uAC:=aS env tb59 60 12 111 S111
theorem Bj (sd0:D):R5 [sd0] =
 bif (uZZ (RV [sd0,(D.int 64)]))then
 bif (aJ (ar (RV [sd0,(D.int 64)]) 0))then
 some [(D.int 20)]
 else
 bif (uZZ (R0 [sd0]))then
 bif (ca (aJ (ar (R0 [sd0]) 0)))then
 some [(D.int 2)]
 else
 some [(D.int 0)]
 else
 none
 else
 none:=by kernel_rfl
def N8:uAC:=veil (R5)
theorem rz:N8=R5:=ak _
def R6:Tb:=Tb.addF tb59 111 S111 (N8)
theorem R7:TbOk env (R6):=aG ok_tb59 111 (by kernel_rfl) _ (rz)
def S50_5:LoopS:=⟨0,uF::ufP 0 0::ufZ::uAA 17 (ufR 61::ufI::utI::uAA 12 []),[(.dat false 57)],[⟨0,0,uT::utP 0 0::utZ::uAB 17 (ufR 61::ufI::uAB 13 []),[(.dat false 57)]⟩,⟨1,0,uT::uT::utI::uAB 17 (ufR 61::ufI::uAB 13 []),[(.dat false 57)]⟩]⟩
def Bk (p s:List D):Option (Sum (List D) (List D)):=aR env R6 60 12 50 (aW 50 5) S50_5 p s
theorem R8 (pd0:D) (pn1:Int) (pd2:D) (sn0:Int):Bk [pd0,(D.int pn1),pd2] [(D.int sn0)] =
 let x0:=q59 [ay pd0 sn0]
 let x1:=ah (ar x0 0)
 let x2:=D.int pn1
 bif ae .lss sn0 pn1 then gd (aI pd0 sn0)<|gd (uZZ x0)<|bif ae .neq x1 0 then ge pd0<|ge x2<|ge pd2<|some (Sum.inr [.int 1,.int x1])else ge pd0<|ge x2<|ge pd2<|some (Sum.inl [.int (aQ .add .i64 sn0 1)])else ge pd0<|ge x2<|ge pd2<|some (Sum.inr [.int 0]):=by kernel_rfl
def N9:=by have h:= @R8;simp only[aN,gd,aq,aj,az,aM,cond_true]at h;exact h
def R9:List D->uAC:=veil fun p s=>loW (Bk p) s
theorem Ft:R9=fun p s=>loW (Bk p) s:=ak _
def Bl:Tb:=Tb.addL R6 50 5 S50_5.n0 (bu S50_5 (R9))
theorem I7:TbOk env (Bl):=aF R7 50 5 (by kernel_rfl) _ (Ft)
def S50:FunS:=⟨[utD 57],[],[utI],[]⟩
def F50:uAC:=aS env Bl 60 12 50 S50
theorem F50_e (sd0:D):F50 [sd0] =
 let x0:=q93 [.int (ah (aa sd0 0))]
 let x1:=ah (ar x0 0)
 let x2:Option (List D):=some [.int 2]
 let x3:=R9 [aa sd0 6,.int (ai (aa sd0 6)),sd0] [.int 0]
 let x4:=q94 [sd0]
 gd (uZZ x0)<|bif aA (ae .lss x1 0) true (ae .neq x1 (ai (aa sd0 6)))then x2 else gd (uZZ x3)<|bif ae .eql (ah (ar x3 0)) 0 then gd (uZZ x4)<|bif ca (aJ (ar x4 0))then x2 else some [.int 0]else some [.int (ah (ar x3 1))]:=by kernel_rfl
def F50_eq:=by have h:= @F50_e;simp only[aN,gd,aq,aj,az,aM,cond_true]at h;exact h
def q50:uAC:=veil (F50)
theorem Sa:q50=F50:=ak _
def tb50:Tb:=Tb.addF Bl 50 S50 (q50)
theorem ok_tb50:TbOk env (tb50):=aG I7 50 (by kernel_rfl) _ (Sa)
def S72_4:LoopS:=⟨0,uF::ufP 0 0::ufZ::utI::uAA 78 [],[(.dat false 57)],[⟨0,0,uT::utP 0 0::utZ::uAB 79 [],[(.dat false 57)]⟩,⟨1,0,uT::uT::utI::uAB 79 [],[(.dat false 57)]⟩]⟩
def pc (p s:List D):Option (Sum (List D) (List D)):=aR env tb50 60 12 72 (aW 72 4) S72_4 p s
theorem Sb (pd0:D) (sn0:Int):pc [pd0] [(D.int sn0)] =
 let x0:=aa pd0 6
 let x1:=N8 [ay x0 sn0]
 let x2:=ah (ar x1 0)
 bif ae .lss sn0 (ai x0)then gd (aI x0 sn0)<|gd (uZZ x1)<|bif ae .neq x2 0 then ge pd0<|some (Sum.inr [.int 1,.int x2])else ge pd0<|some (Sum.inl [.int (aQ .add .i64 sn0 1)])else ge pd0<|some (Sum.inr [.int 0]):=by kernel_rfl
def pd:=by have h:= @Sb;simp only[aN,gd,aq,aj,az,aM,cond_true]at h;exact h
def Sc:List D->uAC:=veil fun p s=>loW (pc p) s
theorem nQ:Sc=fun p s=>loW (pc p) s:=ak _
def Bm:Tb:=Tb.addL tb50 72 4 S72_4.n0 (bu S72_4 (Sc))
theorem I8:TbOk env (Bm):=aF ok_tb50 72 4 (by kernel_rfl) _ (nQ)
def S72:FunS:=⟨[utD 57],[],[utI],[]⟩
def F72:uAC:=aS env Bm 60 12 72 S72
theorem F72_e (sd0:D):F72 [sd0] =
 let x0:=ah (aa sd0 0)
 let x1:Option (List D):=some [.int 2]
 let x2:=q110 [.int x0]
 let x3:=Sc [sd0] [.int 0]
 let x4:=q112 [sd0]
 let x5:=ca (aJ (ar x4 0))
 let x6:=Rr [.int (ah (aa sd0 1))]
 let x7:=ah (aa sd0 2)
 let x8:=ai (aa sd0 7)
 bif ae .lss x0 1 then x1 else bif ae .gtr x0 10 then x1 else gd (uZZ x2)<|bif ae .neq (ai (aa sd0 6)) (ah (ar x2 0))then x1 else gd (uZZ x3)<|bif ae .eql (ah (ar x3 0)) 0 then gd (uZZ x4)<|gd (aA x5 true (uZZ x6))<|bif aA (aA x5 true (ca (aJ (ar x6 0)))) true (aA (aA (aA (ae .eql x0 2) (ae .neq x7 1) false) (ae .neq x7 2) false) (ae .neq x7 4) false)then x1 else bif aA (ae .eql x0 8) (aA (ae .lss x8 1) true (ae .gtr x8 64)) false then x1 else some [.int 0]else some [.int (ah (ar x3 1))]:=by kernel_rfl
def I9:=by have h:= @F72_e;simp only[aN,gd,aq,aj,az,aM,cond_true]at h;exact h
def q72:uAC:=veil (F72)
theorem Sd:q72=F72:=ak _
def tb72:Tb:=Tb.addF Bm 72 S72 (q72)
theorem ok_tb72:TbOk env (tb72):=aG I8 72 (by kernel_rfl) _ (Sd)
def S116_90_2:LoopS:=⟨0,ufR 57::ufS (.func 90 [] [])::uF::uF::ufZ::uF::uF::ufI::utI::uAA 10 [],[],[⟨0,0,ufR 57::uT::uT::uT::utZ::uT::uT::ufI::uAB 11 [],[]⟩,⟨1,0,ufR 57::uT::uT::uT::utI::uT::uT::ufI::uAB 11 [],[]⟩]⟩
def jw (p s:List D):Option (Sum (List D) (List D)):=aR env tb72 60 12 116 (aW 116 2) S116_90_2 p s
theorem Bn (pd0:D) (pn1:Int) (sn0:Int):jw [pd0,(D.int pn1)] [(D.int sn0)] =
 let x0:=q90 [ay pd0 sn0]
 let x1:=D.int pn1
 bif ae .lss sn0 pn1 then gd (aI pd0 sn0)<|gd (uZZ x0)<|bif aJ (ar x0 0)then ge pd0<|ge x1<|some (Sum.inr [.int 1,.int sn0])else ge pd0<|ge x1<|some (Sum.inl [.int (aQ .add .i64 sn0 1)])else ge pd0<|ge x1<|some (Sum.inr [.int 0]):=by kernel_rfl
def xM:=by have h:= @Bn;simp only[aN,gd,aq,aj,az,aM,cond_true]at h;exact h
def iR:List D->uAC:=veil fun p s=>loW (jw p) s
theorem nR:iR=fun p s=>loW (jw p) s:=ak _
def kF:Tb:=Tb.addL tb72 116 2 S116_90_2.n0 (bu S116_90_2 (iR))
theorem uY:TbOk env (kF):=aF ok_tb72 116 2 (by kernel_rfl) _ (nR)
def LJ:FunS:=⟨[utR 57,utS (.func 90 [] [])],[],[utI],[]⟩
def Bo:uAC:=aS env kF 60 12 116 LJ
theorem Ja (sd0:D):Bo [sd0] =
 bif (uZZ (iR [sd0,(D.int (ai sd0))] [(D.int 0)]))then
 bif (ae BinOp.eql (ah (ar (iR [sd0,(D.int (ai sd0))] [(D.int 0)]) 0)) 0)then
 some [(D.int (-1))]
 else
 some [(D.int (ah (ar (iR [sd0,(D.int (ai sd0))] [(D.int 0)]) 1)))]
 else
 none:=by kernel_rfl
def rA:uAC:=veil (Bo)
theorem uZ:rA=Bo:=ak _
def u4:Tb:=Tb.addF kF 116 LJ (rA)
theorem Fu:TbOk env (u4):=aG uY 116 (by kernel_rfl) _ (uZ)
def Se:FunS:=⟨[utR 57,utS (.func 90 [] [])],[],[utB],[]⟩
def Jb:uAC:=aS env u4 60 12 79 Se
theorem Oa (sd0:D):Jb [sd0] =
 bif (uZZ (rA [sd0]))then
 some [(D.bool (ae BinOp.geq (ah (ar (rA [sd0]) 0)) 0))]
 else
 none:=by kernel_rfl
def Bp:uAC:=veil (Jb)
theorem yV:Bp=Jb:=ak _
def Bq:Tb:=Tb.addF u4 79 Se (Bp)
theorem Jc:TbOk env (Bq):=aG Fu 79 (by kernel_rfl) _ (yV)
def S92:FunS:=⟨[utI,utS (.edat 25)],[],[utB],[]⟩
def F92:uAC:=aS env Bq 60 12 92 S92
theorem F92_eq (sn0:Int) (sd1:D):F92 [(D.int sn0),sd1] =
 some [(D.bool (aA (ae BinOp.lss sn0 0) Bool.true (ae BinOp.geq sn0 (ai (aa sd1 1)))))]:=by kernel_rfl
def q92:uAC:=veil (F92)
theorem Sf:q92=F92:=ak _
def tb92:Tb:=Tb.addF Bq 92 S92 (q92)
theorem ok_tb92:TbOk env (tb92):=aG Jc 92 (by kernel_rfl) _ (Sf)
def S122_92_2:LoopS:=⟨0,ufR 3::ufS (.func 92 [] [(.edat 25)])::uF::uF::ufZ::uF::uF::ufI::utI::uAA 10 [],[],[⟨0,0,ufR 3::ufS (.func 92 [] [(.edat 25)])::uT::uT::utZ::uT::uT::ufI::uAB 11 [],[]⟩,⟨1,0,ufR 3::ufS (.func 92 [] [(.edat 25)])::uT::uT::utI::uT::uT::ufI::uAB 11 [],[]⟩]⟩
def jx (p s:List D):Option (Sum (List D) (List D)):=aR env tb92 60 12 122 (aW 122 2) S122_92_2 p s
theorem Br (pd0:D) (pd1:D) (pn2:Int) (sn0:Int):jx [pd0,pd1,(D.int pn2)] [(D.int sn0)] =
 let x0:=q92 [.int (ah (ay pd0 sn0)),pd1]
 let x1:=D.int pn2
 bif ae .lss sn0 pn2 then gd (aI pd0 sn0)<|gd (uZZ x0)<|bif aJ (ar x0 0)then ge pd0<|ge pd1<|ge x1<|some (Sum.inr [.int 1,.int sn0])else ge pd0<|ge pd1<|ge x1<|some (Sum.inl [.int (aQ .add .i64 sn0 1)])else ge pd0<|ge pd1<|ge x1<|some (Sum.inr [.int 0]):=by kernel_rfl
def xN:=by have h:= @Br;simp only[aN,gd,aq,aj,az,aM,cond_true]at h;exact h
def iS:List D->uAC:=veil fun p s=>loW (jx p) s
theorem nS:iS=fun p s=>loW (jx p) s:=ak _
def kG:Tb:=Tb.addL tb92 122 2 S122_92_2.n0 (bu S122_92_2 (iS))
theorem u5:TbOk env (kG):=aF ok_tb92 122 2 (by kernel_rfl) _ (nS)
def LK:FunS:=⟨[utR 3,utS (.func 92 [] [(.edat 25)])],[],[utI],[]⟩
def Bs:uAC:=aS env kG 60 12 122 LK
theorem Jd (sd0:D) (sd1:D):Bs [sd0,sd1] =
 bif (uZZ (iS [sd0,sd1,(D.int (ai sd0))] [(D.int 0)]))then
 bif (ae BinOp.eql (ah (ar (iS [sd0,sd1,(D.int (ai sd0))] [(D.int 0)]) 0)) 0)then
 some [(D.int (-1))]
 else
 some [(D.int (ah (ar (iS [sd0,sd1,(D.int (ai sd0))] [(D.int 0)]) 1)))]
 else
 none:=by kernel_rfl
def rB:uAC:=veil (Bs)
theorem u6:rB=Bs:=ak _
def u7:Tb:=Tb.addF kG 122 LK (rB)
theorem Fv:TbOk env (u7):=aG u5 122 (by kernel_rfl) _ (u6)
def Sg:FunS:=⟨[utR 3,utS (.func 92 [] [(.edat 25)])],[],[utB],[]⟩
def Je:uAC:=aS env u7 60 12 91 Sg
theorem Ob (sd0:D) (sd1:D):Je [sd0,sd1] =
 bif (uZZ (rB [sd0,sd1]))then
 some [(D.bool (ae BinOp.geq (ah (ar (rB [sd0,sd1]) 0)) 0))]
 else
 none:=by kernel_rfl
def Bt:uAC:=veil (Je)
theorem yW:Bt=Je:=ak _
def ll:Tb:=Tb.addF u7 91 Sg (Bt)
theorem my:TbOk env (ll):=aG Fv 91 (by kernel_rfl) _ (yW)
end
end Go.Proofs.YtfdedgmlafelaaaGreatDoor
namespace Go.Proofs.YtfdedgmlafelaaaGreatDoor
open Go Go.AM
def S53:FunS:=⟨[utR 3],[],[utR 3],[]⟩
theorem run53n (c:Nat):jS (gx env ll 53) (fM env ll 60 12) 60 53 [.sc (.slice none 0 c)] (dF S53 [] []) (qN S53 [])=some [.list []]:=by kernel_rfl
theorem run53z (d:D):jS (gx env ll 53) (fM env ll 60 12) 60 53 [.rowz 3 d] (dF S53 [] []) (qN S53 []) =
 bif bF (ai (bN (D.list []) d)) 8 then(bif (ae BinOp.eql (ai (bN (D.list []) d)) (ai (bN (D.list []) d)))then some [bN (D.list []) d]else none)else none:=by kernel_rfl
noncomputable def F53 (ds:List D):Option (List D):=bif bF (ai (bN (D.list []) (ds.headD .other))) 8 then some [bN (D.list []) (ds.headD .other)]else none
noncomputable def q53:uAC:=veil F53
theorem Bu:q53=F53:=ak _
theorem sound53:aY env.P 53 S53 q53:=by
 intro p s r hp hq lo w0 ρ E w vs inv ra;obtain rfl:p = []:=List.length_eq_zero_iff.1 hp;have ha:qM S53 [] s = [.rows 3 (s.headD .other)]:=by
  cases s<;>rfl
 have hh:dF S53 [] s=dF S53 [] []:=rfl;rw[Bu]at hq;unfold F53 at hq;simp only[List.nil_append]at hq;rw[ha]at ra;generalize hd:s.headD .other=d at *;cases hm:bF (ai (bN (D.list []) d)) 8 with
 |false=>rw[hm]at hq;cases hq
 |true=>
  rw[hm]at hq;simp only[cond_true,Option.some.injEq]at hq;subst hq;rw[hh]at inv;generalize hvs:vs.toList=vl at ra;obtain⟨v,vl',rfl,rv,hn⟩:∃v vs',vl=v::vs'∧Rep ρ E w (AV.rows 3 d) v∧vs' = []:=by simpa only[RepL]using ra
  ·subst hn;simp only[Rep]at rv;obtain⟨a,cap,rfl,hc,hx⟩:=id rv;cases a with
   |none=>
    have he:d.toList = []:=by
     rcases hx with h|⟨_,_,h,_⟩
     ·exact h
     ·cases h
    have he':bN (D.list []) d = .list []:=by rw[dj];unfold D.app;rw[he];rfl
    rw[he'];refine rn (av:=[.sc (.slice none 0 cap)]) iP my 60 12 (run53n cap) rfl lo w0 ρ E w vs inv ?_
    rw[hvs,he];simp[RepL,Rep]
   |some a=>
    refine rn (av:=[.rowz 3 d]) iP my 60 12 (p:=[]) (r:=[bN (D.list []) d]) (S:=S53) (by rw[run53z,hm,aj];rfl) rfl lo w0 ρ E w vs inv ?_
    rw[hvs];simp only[RepL];exact⟨_,_,rfl,by simp only[Rep];exact⟨rv,_,_,_,rfl⟩,rfl⟩
noncomputable def tb53:Tb:=Tb.addF ll 53 S53 q53
theorem ok_tb53:TbOk env tb53:=TbOk.addF my (by kernel_rfl) sound53
end Go.Proofs.YtfdedgmlafelaaaGreatDoor
open Go Go.AM
namespace Go.Proofs.YtfdedgmlafelaaaGreatDoor
noncomputable section
def S22:FunS:=⟨[utD 54],[],[utR 3],[]⟩
def F22:uAC:=aS env tb53 60 12 22 S22
theorem F22_e (sd0:D):F22 [sd0] =
 let x0:=aa sd0 1
 let x1:Option (List D):=some [.list []]
 let x2:=aQ .sub .i64 (ai x0) 1
 let x3:=ay x0 x2
 let x4:=ah (aa x3 0)
 let x5:=D.int (ah (aa x3 3))
 let x6:=q53 [aa x3 7]
 bif ae .eql (ai x0) 0 then x1 else gd (aI x0 x2)<|bif ae .eql x4 6 then some [.list [x5]]else bif ae .eql x4 7 then some [.list [x5,.int (ah (aa x3 4))]]else bif ae .eql x4 8 then gd (uZZ x6)<|some [ar x6 0]else x1:=by kernel_rfl
def F22_eq:=by have h:= @F22_e;simp only[aN,gd,aq,aj,az,aM,cond_true]at h;exact h
def q22:uAC:=veil (F22)
theorem Sh:q22=F22:=ak _
def tb22:Tb:=Tb.addF tb53 22 S22 (q22)
theorem ok_tb22:TbOk env (tb22):=aG ok_tb53 22 (by kernel_rfl) _ (Sh)
def S89:FunS:=⟨[utD 57],[],[utR 3],[]⟩
def F89:uAC:=aS env tb22 60 12 89 S89
theorem F89_eq (sd0:D):F89 [sd0] =
 bif (ae BinOp.eql (ah (aa sd0 0)) 6)then
 some [(D.list [(D.int (ah (aa sd0 3)))])]
 else
 bif (ae BinOp.eql (ah (aa sd0 0)) 7)then
 some [(D.list [(D.int (ah (aa sd0 3))),(D.int (ah (aa sd0 4)))])]
 else
 bif (ae BinOp.eql (ah (aa sd0 0)) 8)then
 some [(aa sd0 7)]
 else
 some [(D.list [])]:=by kernel_rfl
def q89:uAC:=veil (F89)
theorem Si:q89=F89:=ak _
def tb89:Tb:=Tb.addF tb22 89 S89 (q89)
theorem ok_tb89:TbOk env (tb89):=aG ok_tb22 89 (by kernel_rfl) _ (Si)
def S49_4:LoopS:=⟨0,uF::ufP 0 0::ufS (.lit (.bool false))::uAA 8 (ufR 54::ufI::utI::uAA 31 []),[(.dat false 25)],[⟨0,0,uT::uT::utS (.lit (.bool false))::uAB 8 (ufR 54::ufI::uAB 32 []),[(.dat false 25)]⟩,⟨1,0,uT::uT::utS (.lit (.bool false))::uAB 8 (ufR 54::ufI::uAB 32 []),[(.dat false 25)]⟩]⟩
def u9 (p s:List D):Option (Sum (List D) (List D)):=aR env tb89 60 12 49 (aW 49 4) S49_4 p s
theorem Sj (pd0:D) (pn1:Int) (pd2:D) (sn0:Int):u9 [pd0,(D.int pn1),pd2] [(D.int sn0)] =
 let x0:=ay pd0 sn0
 let x1:=aa x0 1
 let x2:=ai x1
 let x3:=ae .eql x2 0
 let x4:=aQ .sub .i64 x2 1
 let x5:=q90 [ay x1 x4]
 let x6:=aA x3 true (ca (aJ (ar x5 0)))
 let x7:=Bp [cj x1 0 x4]
 let x8:=D.int pn1
 let x9:Option (List D ⊕ List D):=ge pd0<|ge x8<|ge pd2<|some (Sum.inr [.int 1])
 let x10:=q22 [x0]
 let x11:=Bt [ar x10 0,pd2]
 bif ae .lss sn0 pn1 then gd (aI pd0 sn0)<|gd (aA x3 true (bL (aI x1 x4) (uZZ x5)))<|gd (aA x6 true (bL (ae .leq 0 0) (bL (ae .leq 0 x4) (bL (ae .leq x4 x2) (uZZ x7)))))<|bif aA x6 true (aJ (ar x7 0))then x9 else gd (uZZ x10)<|gd (uZZ x11)<|bif aJ (ar x11 0)then x9 else ge pd0<|ge x8<|ge pd2<|some (Sum.inl [.int (aQ .add .i64 sn0 1)])else ge pd0<|ge x8<|ge pd2<|some (Sum.inr [.int 0]):=by kernel_rfl
def yX:=by have h:= @Sj;simp only[aN,gd,aq,aj,az,aM,cond_true]at h;exact h
def LL:List D->uAC:=veil fun p s=>loW (u9 p) s
theorem Fw:LL=fun p s=>loW (u9 p) s:=ak _
def Bv:Tb:=Tb.addL tb89 49 4 S49_4.n0 (bu S49_4 (LL))
theorem Jf:TbOk env (Bv):=aF ok_tb89 49 4 (by kernel_rfl) _ (Fw)
def S49:FunS:=⟨[utD 25],[],[utB],[]⟩
def F49:uAC:=aS env Bv 60 12 49 S49
theorem F49_eq (sd0:D):F49 [sd0] =
 bif (ae BinOp.eql (ai (aa sd0 1)) 0)then
 some [(D.bool Bool.false)]
 else
 bif (uZZ (LL [(aa sd0 1),(D.int (ai (aa sd0 1))),sd0] [(D.int 0)]))then
 bif (ae BinOp.eql (ah (ar (LL [(aa sd0 1),(D.int (ai (aa sd0 1))),sd0] [(D.int 0)]) 0)) 0)then
 some [(D.bool Bool.true)]
 else
 some [(D.bool Bool.false)]
 else
 none:=by kernel_rfl
def q49:uAC:=veil (F49)
theorem Sk:q49=F49:=ak _
def tb49:Tb:=Tb.addF Bv 49 S49 (q49)
theorem ok_tb49:TbOk env (tb49):=aG Jf 49 (by kernel_rfl) _ (Sk)
def S19_3:LoopS:=⟨0,uF::ufP 0 0::ufZ::utI::uAA 8 (ufR 54::ufI::utI::uAA 41 []),[(.dat false 25)],[⟨0,0,uT::utP 0 0::utZ::utI::uAB 8 (ufR 54::ufI::uAB 42 []),[(.dat false 25)]⟩]⟩
def Bw (p s:List D):Option (Sum (List D) (List D)):=aR env tb49 60 12 19 (aW 19 3) S19_3 p s
theorem Sn (pd0:D) (pn1:Int) (pd2:D) (sn0:Int) (sn1:Int):Bw [pd0,(D.int pn1),pd2] [(D.int sn0),(D.int sn1)] =
 bif ae .lss sn1 pn1 then gd (aI pd0 sn1)<|ge pd0<|ge (.int pn1)<|ge pd2<|some (Sum.inl [.int (aQ .add .i64 sn0 (ai (aa (ay pd0 sn1) 1))),.int (aQ .add .i64 sn1 1)])else ge pd0<|ge (.int pn1)<|ge pd2<|some (Sum.inr [.int 0,.int sn0]):=by kernel_rfl
def Oc:=by have h:= @Sn;simp only[aN,gd,aq,aj,az,aM,cond_true]at h;exact h
def So:List D->uAC:=veil fun p s=>loW (Bw p) s
theorem Fx:So=fun p s=>loW (Bw p) s:=ak _
def By:Tb:=Tb.addL tb49 19 3 S19_3.n0 (bu S19_3 (So))
theorem Jg:TbOk env (By):=aF ok_tb49 19 3 (by kernel_rfl) _ (Fx)
def S19_15:LoopS:=⟨0,uF::uF::ufZ::uAA 33 (ufR 54::ufI::ufI::uF::uF::uF::uF::ufR 57::ufI::utI::uAA 10 []),[],[⟨0,4,uT::uT::utZ::uAB 33 (ufR 54::ufI::ufI::uT::uT::uT::uT::ufR 57::ufI::uAB 11 []),[]⟩,⟨1,0,uT::uT::utI::uAB 33 (ufR 54::ufI::ufI::uT::uT::uT::uT::ufR 57::ufI::uAB 11 []),[]⟩]⟩
def rC (p s:List D):Option (Sum (List D) (List D)):=aR env By 60 12 19 (aW 19 15) S19_15 p s
theorem Od (pd0:D) (pn1:Int) (pn2:Int) (pd3:D) (pn4:Int) (sn0:Int):rC [pd0,(D.int pn1),(D.int pn2),pd3,(D.int pn4)] [(D.int sn0)] =
 let x0:=q50 [ay pd3 sn0]
 let x1:=ah (ar x0 0)
 let x2:=D.int pn1
 let x3:=D.int pn2
 let x4:=D.int pn4
 bif ae .lss sn0 pn4 then gd (aI pd3 sn0)<|gd (uZZ x0)<|bif ae .neq x1 0 then ge pd0<|ge x2<|ge x3<|ge pd3<|ge x4<|some (Sum.inr [.int 1,.int x1])else ge pd0<|ge x2<|ge x3<|ge pd3<|ge x4<|some (Sum.inl [.int (aQ .add .i64 sn0 1)])else ge pd0<|ge x2<|ge x3<|ge pd3<|ge x4<|some (Sum.inr [.int 0]):=by kernel_rfl
def Jh:=by have h:= @Od;simp only[aN,gd,aq,aj,az,aM,cond_true]at h;exact h
def Bz:List D->uAC:=veil fun p s=>loW (rC p) s
theorem yY:Bz=fun p s=>loW (rC p) s:=ak _
def va:Tb:=Tb.addL By 19 15 S19_15.n0 (bu S19_15 (Bz))
theorem Fy:TbOk env (va):=aF Jg 19 15 (by kernel_rfl) _ (yY)
def S19_12:LoopS:=⟨0,uF::uF::ufZ::uAA 33 (ufR 54::ufI::utI::uAA 17 []),[],[⟨0,2,uT::uT::utZ::uAB 33 (ufR 54::ufI::uAB 18 []),[]⟩,⟨1,0,uT::uT::utI::uAB 33 (ufR 54::ufI::uAB 18 []),[]⟩]⟩
def rD (p s:List D):Option (Sum (List D) (List D)):=aR env va 60 12 19 (aW 19 12) S19_12 p s
theorem Oe (pd0:D) (pn1:Int) (sn0:Int):rD [pd0,(D.int pn1)] [(D.int sn0)] =
 let x0:=D.int pn1
 let x1:=aa (ay pd0 sn0) 1
 let x2:=Bz [pd0,x0,.int sn0,x1,.int (ai x1)] [.int 0]
 bif ae .lss sn0 pn1 then gd (aI pd0 sn0)<|gd (uZZ x2)<|bif ae .eql (ah (ar x2 0)) 0 then ge pd0<|ge x0<|some (Sum.inl [.int (aQ .add .i64 sn0 1)])else ge pd0<|ge x0<|some (Sum.inr [.int 1,.int (ah (ar x2 1))])else ge pd0<|ge x0<|some (Sum.inr [.int 0]):=by kernel_rfl
def vb:=by have h:= @Oe;simp only[aN,gd,aq,aj,az,aM,cond_true]at h;exact h
def Ji:List D->uAC:=veil fun p s=>loW (rD p) s
theorem yZ:Ji=fun p s=>loW (rD p) s:=ak _
def vc:Tb:=Tb.addL va 19 12 S19_12.n0 (bu S19_12 (Ji))
theorem Fz:TbOk env (vc):=aF Fy 19 12 (by kernel_rfl) _ (yZ)
def S19:FunS:=⟨[utD 25],[],[utI],[]⟩
def F19:uAC:=aS env vc 60 12 19 S19
theorem F19_e (sd0:D):F19 [sd0] =
 let x0:=aa sd0 1
 let x1:=D.int 0
 let x2:=So [x0,.int (ai x0),sd0] [x1,x1]
 let x3:=q49 [sd0]
 let x4:=Ji [x0,.int (ai x0)] [x1]
 gd (uZZ x2)<|bif aA (ae .gtr (ai x0) 256) true (ae .gtr (ah (ar x2 1)) 1024)then some [.int 6]else gd (uZZ x3)<|bif ca (aJ (ar x3 0))then some [.int 18]else gd (uZZ x4)<|bif ae .eql (ah (ar x4 0)) 0 then some [x1]else some [.int (ah (ar x4 1))]:=by kernel_rfl
def F19_eq:=by have h:= @F19_e;simp only[aN,gd,aq,aj,az,aM,cond_true]at h;exact h
def q19:uAC:=veil (F19)
theorem Sq:q19=F19:=ak _
def tb19:Tb:=Tb.addF vc 19 S19 (q19)
theorem ok_tb19:TbOk env (tb19):=aG Fz 19 (by kernel_rfl) _ (Sq)
def S71_4:LoopS:=⟨0,uF::ufI::ufP 0 0::uF::ufS (.lit (.bool false))::utI::uAA 54 [],[(.dat false 54)],[⟨0,0,uT::ufI::utP 0 0::uT::utS (.lit (.bool false))::uAB 55 [],[(.dat false 54)]⟩,⟨1,0,uT::ufI::uT::uT::utS (.lit (.bool false))::uAB 55 [],[(.dat false 54)]⟩]⟩
def BA (p s:List D):Option (Sum (List D) (List D)):=aR env tb19 60 12 71 (aW 71 4) S71_4 p s
theorem Ss (pn0:Int) (pd1:D) (sn0:Int):BA [(D.int pn0),pd1] [(D.int sn0)] =
 let x0:=aa pd1 1
 let x1:=q109 [ay x0 sn0]
 let x2:=D.int pn0
 bif ae .lss sn0 (ai x0)then gd (aI x0 sn0)<|gd (uZZ x1)<|bif ca (g8 (aJ (ar x1 0)) (ae .eql sn0 (aQ .sub .i64 (ai x0) 1)))then ge x2<|ge pd1<|some (Sum.inr [.int 1])else ge x2<|ge pd1<|some (Sum.inl [.int (aQ .add .i64 sn0 1)])else ge x2<|ge pd1<|some (Sum.inr [.int 0]):=by kernel_rfl
def y0:=by have h:= @Ss;simp only[aN,gd,aq,aj,az,aM,cond_true]at h;exact h
def Su:List D->uAC:=veil fun p s=>loW (BA p) s
theorem FA:Su=fun p s=>loW (BA p) s:=ak _
def BB:Tb:=Tb.addL tb19 71 4 S71_4.n0 (bu S71_4 (Su))
theorem Jj:TbOk env (BB):=aF ok_tb19 71 4 (by kernel_rfl) _ (FA)
def S71_10:LoopS:=⟨0,uF::ufI::uF::uF::ufS (.lit (.bool false))::uF::ufR 3::utI::uAA 52 [],[],[⟨0,2,uT::ufI::uT::uT::utS (.lit (.bool false))::uT::ufR 3::uAB 53 [],[]⟩,⟨1,0,uT::ufI::uT::uT::utS (.lit (.bool false))::uT::ufR 3::uAB 53 [],[]⟩]⟩
def rE (p s:List D):Option (Sum (List D) (List D)):=aR env BB 60 12 71 (aW 71 10) S71_10 p s
theorem Of (pn0:Int) (pd1:D) (sn0:Int):rE [(D.int pn0),pd1] [(D.int sn0)] =
 let x0:=aI pd1 sn0
 let x1:=ah (ay pd1 sn0)
 let x2:=ae .lss x1 0
 let x3:=D.int pn0
 bif ae .lss sn0 (ai pd1)then gd x0<|gd (aA x2 true x0)<|bif aA x2 true (ae .geq x1 pn0)then ge x3<|ge pd1<|some (Sum.inr [.int 1])else ge x3<|ge pd1<|some (Sum.inl [.int (aQ .add .i64 sn0 1)])else ge x3<|ge pd1<|some (Sum.inr [.int 0]):=by kernel_rfl
def ve:=by have h:= @Of;simp only[aN,gd,aq,aj,az,aM,cond_true]at h;exact h
def Jk:List D->uAC:=veil fun p s=>loW (rE p) s
theorem y3:Jk=fun p s=>loW (rE p) s:=ak _
def vf:Tb:=Tb.addL BB 71 10 S71_10.n0 (bu S71_10 (Jk))
theorem FB:TbOk env (vf):=aF Jj 71 10 (by kernel_rfl) _ (y3)
def S71:FunS:=⟨[utD 54,utI],[],[utB],[]⟩
def F71:uAC:=aS env vf 60 12 71 S71
theorem F71_e (sd0:D) (sn1:Int):F71 [sd0,(D.int sn1)] =
 let x0:=aa sd0 1
 let x1:Option (List D):=some [.bool false]
 let x2:=Su [.int sn1,sd0] [.int 0]
 let x3:=aQ .sub .i64 (ai x0) 1
 let x4:=q89 [ay x0 x3]
 let x5:=Jk [.int sn1,ar x4 0] [.int 0]
 bif ae .eql (ai x0) 0 then x1 else gd (uZZ x2)<|bif ae .eql (ah (ar x2 0)) 0 then gd (aI x0 x3)<|gd (uZZ x4)<|gd (uZZ x5)<|bif ae .eql (ah (ar x5 0)) 0 then some [.bool true]else x1 else x1:=by kernel_rfl
def F71_eq:=by have h:= @F71_e;simp only[aN,gd,aq,aj,az,aM,cond_true]at h;exact h
def q71:uAC:=veil (F71)
theorem Sv:q71=F71:=ak _
def tb71:Tb:=Tb.addF vf 71 S71 (q71)
theorem ok_tb71:TbOk env (tb71):=aG FB 71 (by kernel_rfl) _ (Sv)
def S35_5:LoopS:=⟨0,uF::ufP 0 0::ufZ::utI::utI::uAA 78 [],[(.dat false 25)],[⟨0,0,uT::utP 0 0::utZ::utI::uAB 79 [],[(.dat false 25)]⟩]⟩
def vg (p s:List D):Option (Sum (List D) (List D)):=aR env tb71 60 12 35 (aW 35 5) S35_5 p s
theorem Sw (pd0:D) (sn0:Int) (sn1:Int):vg [pd0] [(D.int sn0),(D.int sn1)] =
 let x0:=aa pd0 1
 bif ae .lss sn1 (ai x0)then gd (aI x0 sn1)<|ge pd0<|some (Sum.inl [.int (aQ .add .i64 sn0 (ai (aa (ay x0 sn1) 1))),.int (aQ .add .i64 sn1 1)])else ge pd0<|some (Sum.inr [.int 0,.int sn0]):=by kernel_rfl
def y4:=by have h:= @Sw;simp only[aN,gd,aq,aj,az,aM,cond_true]at h;exact h
def Sx:List D->uAC:=veil fun p s=>loW (vg p) s
theorem vh:Sx=fun p s=>loW (vg p) s:=ak _
def BC:Tb:=Tb.addL tb71 35 5 S35_5.n0 (bu S35_5 (Sx))
theorem Jl:TbOk env (BC):=aF ok_tb71 35 5 (by kernel_rfl) _ (vh)
def S35_13:LoopS:=⟨0,uF::ufP 0 0::ufZ::uF::uF::utI::uAA 77 [],[(.dat false 25)],[⟨0,2,uT::utP 0 0::utZ::uAB 80 [],[(.dat false 25)]⟩,⟨1,0,uT::uT::utS (.lit (.int .i64 18))::uAB 80 [],[(.dat false 25)]⟩]⟩
def jy (p s:List D):Option (Sum (List D) (List D)):=aR env BC 60 12 35 (aW 35 13) S35_13 p s
theorem Og (pd0:D) (sn0:Int):jy [pd0] [(D.int sn0)] =
 let x0:=aa pd0 1
 let x1:=q71 [ay x0 sn0,.int (ai x0)]
 bif ae .lss sn0 (ai x0)then gd (aI x0 sn0)<|gd (uZZ x1)<|bif ca (aJ (ar x1 0))then ge pd0<|some (Sum.inr [.int 1])else ge pd0<|some (Sum.inl [.int (aQ .add .i64 sn0 1)])else ge pd0<|some (Sum.inr [.int 0]):=by kernel_rfl
def jz:=by have h:= @Og;simp only[aN,gd,aq,aj,az,aM,cond_true]at h;exact h
def Jm:List D->uAC:=veil fun p s=>loW (jy p) s
theorem pe:Jm=fun p s=>loW (jy p) s:=ak _
def vi:Tb:=Tb.addL BC 35 13 S35_13.n0 (bu S35_13 (Jm))
theorem FC:TbOk env (vi):=aF Jl 35 13 (by kernel_rfl) _ (pe)
def S35_21:LoopS:=⟨0,uF::ufP 0 0::ufZ::uF::uF::uF::ufI::utI::uAA 75 [],[(.dat false 25)],[⟨0,6,uT::utP 0 0::utZ::uT::uT::uT::ufI::uAB 76 [],[(.dat false 25)]⟩,⟨1,0,uT::uT::utI::uT::uT::uT::ufI::uAB 76 [],[(.dat false 25)]⟩]⟩
def rF (p s:List D):Option (Sum (List D) (List D)):=aR env vi 60 12 35 (aW 35 21) S35_21 p s
theorem Oh (pn0:Int) (pd1:D) (sn0:Int):rF [(D.int pn0),pd1] [(D.int sn0)] =
 let x0:=aI (aa pd1 1) pn0
 let x1:=aa (ay (aa pd1 1) pn0) 1
 let x2:=q72 [ay x1 sn0]
 let x3:=ah (ar x2 0)
 let x4:=D.int pn0
 gd x0<|bif ae .lss sn0 (ai x1)then gd x0<|gd (aI x1 sn0)<|gd (uZZ x2)<|bif ae .neq x3 0 then ge x4<|ge pd1<|some (Sum.inr [.int 1,.int x3])else ge x4<|ge pd1<|some (Sum.inl [.int (aQ .add .i64 sn0 1)])else ge x4<|ge pd1<|some (Sum.inr [.int 0]):=by kernel_rfl
def Jn:=by have h:= @Oh;simp only[aN,gd,aq,aj,az,aM,cond_true]at h;exact h
def BD:List D->uAC:=veil fun p s=>loW (rF p) s
theorem y5:BD=fun p s=>loW (rF p) s:=ak _
def vj:Tb:=Tb.addL vi 35 21 S35_21.n0 (bu S35_21 (BD))
theorem FD:TbOk env (vj):=aF FC 35 21 (by kernel_rfl) _ (y5)
def S35_18:LoopS:=⟨0,uF::ufP 0 0::ufZ::uF::uF::uF::utI::uAA 76 [],[(.dat false 25)],[⟨0,4,uT::uT::utZ::uAB 80 [],[(.dat false 25)]⟩,⟨1,0,uT::uT::utI::uAB 80 [],[(.dat false 25)]⟩]⟩
def nT (p s:List D):Option (Sum (List D) (List D)):=aR env vj 60 12 35 (aW 35 18) S35_18 p s
theorem Oi (pd0:D) (sn0:Int):nT [pd0] [(D.int sn0)] =
 let x0:=BD [.int sn0,pd0] [.int 0]
 bif ae .lss sn0 (ai (aa pd0 1))then gd (uZZ x0)<|bif ae .eql (ah (ar x0 0)) 0 then ge pd0<|some (Sum.inl [.int (aQ .add .i64 sn0 1)])else ge pd0<|some (Sum.inr [.int 1,.int (ah (ar x0 1))])else ge pd0<|some (Sum.inr [.int 0]):=by kernel_rfl
def jA:=by have h:= @Oi;simp only[aN,gd,aq,aj,az,aM,cond_true]at h;exact h
def Jo:List D->uAC:=veil fun p s=>loW (nT p) s
theorem pf:Jo=fun p s=>loW (nT p) s:=ak _
def vk:Tb:=Tb.addL vj 35 18 S35_18.n0 (bu S35_18 (Jo))
theorem FE:TbOk env (vk):=aF FD 35 18 (by kernel_rfl) _ (pf)
def S35:FunS:=⟨[utD 25],[],[utI],[]⟩
def F35:uAC:=aS env vk 60 12 35 S35
theorem F35_e (sd0:D):F35 [sd0] =
 let x0:=ai (aa sd0 1)
 let x1:Option (List D):=some [.int 6]
 let x2:=D.int 0
 let x3:=Sx [sd0] [x2,x2]
 let x4:Option (List D):=some [.int 18]
 let x5:=Jm [sd0] [x2]
 let x6:=Jo [sd0] [x2]
 bif ae .gtr x0 256 then x1 else gd (uZZ x3)<|bif ae .gtr (ah (ar x3 1)) 1024 then x1 else bif ae .eql x0 0 then x4 else gd (uZZ x5)<|bif ae .eql (ah (ar x5 0)) 0 then gd (uZZ x6)<|bif ae .eql (ah (ar x6 0)) 0 then some [x2]else some [.int (ah (ar x6 1))]else x4:=by kernel_rfl
def Sy:=by have h:= @F35_e;simp only[aN,gd,aq,aj,az,aM,cond_true]at h;exact h
def q35:uAC:=veil (F35)
theorem Jp:q35=F35:=ak _
def tb35:Tb:=Tb.addF vk 35 S35 (q35)
theorem LM:TbOk env (tb35):=aG FE 35 (by kernel_rfl) _ (Jp)
def S54:FunS:=⟨[utD 61,utI,utI],[],[utI],[]⟩
def Sz (Q:uAC):Tb:=Tb.addF tb35 54 S54 Q
theorem SA (Q:uAC) (hQ:aY env.P 54 S54 Q):TbOk env (Sz Q):=TbOk.addF LM (by kernel_rfl) hQ
def S54_5:LoopS:=⟨0,uF::ufI::uF::ufP 0 0::uF::uF::ufZ::utI::utI::uAA 35 [],[(.dat false 61)],[⟨0,0,uT::ufI::uT::uT::uT::uT::utZ::utI::uAB 36 [],[(.dat false 61)]⟩]⟩
def vm (Q:uAC) (p s:List D):Option (Sum (List D) (List D)):=aR env (Sz Q) 60 12 54 (aW 54 5) S54_5 p s
theorem SB (Q:uAC) (pn0:Int) (pd1:D) (sn0:Int) (sn1:Int):vm Q [(D.int pn0),pd1] [(D.int sn0),(D.int sn1)] =
 let x0:=aa pd1 4
 let x1:=Q [ay x0 sn1,.int (aQ .sub .i64 pn0 1),.int sn0]
 bif aA (ae .lss sn1 (ai x0)) (ae .geq sn0 0) false then gd (aI x0 sn1)<|gd (uZZ x1)<|ge (.int pn0)<|ge pd1<|some (Sum.inl [.int (ah (ar x1 0)),.int (aQ .add .i64 sn1 1)])else ge (.int pn0)<|ge pd1<|some (Sum.inr [.int 0,.int sn0]):=by kernel_rfl
def y6:=by have h:= @SB;simp only[aN,gd,aq,aj,az,aM,cond_true]at h;exact h
def LN (Q:uAC):List D->uAC:=veil fun p s=>loW (vm Q p) s
theorem FF (Q:uAC):LN Q=fun p s=>loW (vm Q p) s:=ak _
def BE (Q:uAC):Tb:=Tb.addL (Sz Q) 54 5 S54_5.n0 (bu S54_5 (LN Q))
theorem Jq (Q:uAC) (hQ:aY env.P 54 S54 Q):TbOk env (BE Q):=aF (SA Q hQ) 54 5 (by kernel_rfl) _ (FF Q)
def Fb54 (Q:uAC):uAC:=aS env (BE Q) 60 12 54 S54
theorem Fb54_eq (Q:uAC) (sd0:D) (sn1:Int) (sn2:Int):Fb54 Q [sd0,(D.int sn1),(D.int sn2)] =
 bif (aA (aA (ae BinOp.lss sn1 1) Bool.true (ae BinOp.lss sn2 1)) Bool.true (ae BinOp.gtr (ai (aa sd0 4)) 4))then
 some [(D.int (-1))]
 else
 bif (uZZ (LN Q [(D.int sn1),sd0] [(D.int (aQ BinOp.sub IntKind.i64 sn2 1)),(D.int 0)]))then
 some [(D.int (ah (ar (LN Q [(D.int sn1),sd0] [(D.int (aQ BinOp.sub IntKind.i64 sn2 1)),(D.int 0)]) 1)))]
 else
 none:=by kernel_rfl
def F54:Nat->uAC:=levels Fb54
theorem F54_s (n:Nat):F54 (n+1)=Fb54 (F54 n):=rfl
def q54:uAC:=veil fun ds=>F54 (bE ds) ds
theorem SC:q54=fun ds=>F54 (bE ds) ds:=ak _
theorem sound54:aY env.P 54 S54 q54:=nK (fun q=>BE q) (fun q hq=>Jq q hq) SC
def tb54:Tb:=Tb.addF tb35 54 S54 q54
theorem ok_tb54:TbOk env tb54:=TbOk.addF LM (by kernel_rfl) sound54
def S25_16:LoopS:=⟨0,uF::ufI::ufP 0 0::uF::ufS (.lit (.bool false))::utI::ufI::ufI::ufP 1 0::utI::uAA 66 [],[(.dat false 57),(.dat false 25)],[⟨0,4,uT::ufI::utP 0 0::uT::utS (.lit (.bool false))::utI::ufI::ufI::uAB 68 [],[(.dat false 57),(.dat false 25)]⟩,⟨1,0,uT::ufI::uT::uT::utS (.lit (.bool false))::uT::ufI::ufI::uAB 68 [],[(.dat false 57),(.dat false 25)]⟩]⟩
def eF (p s:List D):Option (Sum (List D) (List D)):=aR env tb54 60 12 25 (aW 25 16) S25_16 p s
theorem Oj (pn0:Int) (pn1:Int) (pn2:Int) (pd3:D) (pd4:D) (sn0:Int) (sn1:Int):eF [(D.int pn0),(D.int pn1),(D.int pn2),pd3,pd4] [(D.int sn0),(D.int sn1)] =
 let x0:=aa pd3 6
 let x1:=D.int pn0
 let x2:=q54 [ay x0 sn1,x1,.int sn0]
 let x3:=ah (ar x2 0)
 let x4:=D.int pn1
 let x5:=D.int pn2
 bif ae .lss sn1 (ai x0)then gd (aI x0 sn1)<|gd (uZZ x2)<|bif ae .lss x3 0 then ge x1<|ge x4<|ge x5<|ge pd3<|ge pd4<|some (Sum.inr [.int 1])else ge x1<|ge x4<|ge x5<|ge pd3<|ge pd4<|some (Sum.inl [.int x3,.int (aQ .add .i64 sn1 1)])else ge x1<|ge x4<|ge x5<|ge pd3<|ge pd4<|some (Sum.inr [.int 0,.int sn0]):=by kernel_rfl
def vn:=by have h:= @Oj;simp only[aN,gd,aq,aj,az,aM,cond_true]at h;exact h
def vo:List D->uAC:=veil fun p s=>loW (eF p) s
theorem ph:vo=fun p s=>loW (eF p) s:=ak _
def vp:Tb:=Tb.addL tb54 25 16 S25_16.n0 (bu S25_16 (vo))
theorem FG:TbOk env (vp):=aF ok_tb54 25 16 (by kernel_rfl) _ (ph)
def S25_10:LoopS:=⟨0,uF::ufI::ufP 0 0::uF::ufS (.lit (.bool false))::utI::ufI::utI::uAA 68 [],[(.dat false 25)],[⟨0,2,uT::ufI::utP 0 0::uT::utS (.lit (.bool false))::utI::ufI::uAB 69 [],[(.dat false 25)]⟩,⟨1,0,uT::ufI::uT::uT::utS (.lit (.bool false))::uT::ufI::uAB 69 [],[(.dat false 25)]⟩]⟩
def dT (p s:List D):Option (Sum (List D) (List D)):=aR env vp 60 12 25 (aW 25 10) S25_10 p s
theorem Ol (pn0:Int) (pn1:Int) (pd2:D) (sn0:Int) (sn1:Int):dT [(D.int pn0),(D.int pn1),pd2] [(D.int sn0),(D.int sn1)] =
 let x0:=aI (aa pd2 1) pn1
 let x1:=aa (ay (aa pd2 1) pn1) 1
 let x2:=ay x1 sn1
 let x3:=D.int pn0
 let x4:=D.int pn1
 let x5:Option (List D ⊕ List D):=ge x3<|ge x4<|ge pd2<|some (Sum.inr [.int 1])
 let x6:=vo [x3,x4,.int sn1,x2,pd2] [.int sn0,.int 0]
 gd x0<|bif ae .lss sn1 (ai x1)then gd x0<|gd (aI x1 sn1)<|bif aA (ae .gtr (ai (aa x2 6)) 4) true (ae .gtr (ai (aa x2 7)) 100)then x5 else gd (uZZ x6)<|bif ae .eql (ah (ar x6 0)) 0 then ge x3<|ge x4<|ge pd2<|some (Sum.inl [.int (ah (ar x6 1)),.int (aQ .add .i64 sn1 1)])else x5 else ge x3<|ge x4<|ge pd2<|some (Sum.inr [.int 0,.int sn0]):=by kernel_rfl
def jB:=by have h:= @Ol;simp only[aN,gd,aq,aj,az,aM,cond_true]at h;exact h
def vt:List D->uAC:=veil fun p s=>loW (dT p) s
theorem pj:vt=fun p s=>loW (dT p) s:=ak _
def vv:Tb:=Tb.addL vp 25 10 S25_10.n0 (bu S25_10 (vt))
theorem FH:TbOk env (vv):=aF FG 25 10 (by kernel_rfl) _ (pj)
def S25_5:LoopS:=⟨0,uF::ufI::ufP 0 0::uF::ufS (.lit (.bool false))::utI::utI::uAA 69 [],[(.dat false 25)],[⟨0,0,uT::ufI::uT::uT::utS (.lit (.bool false))::uAB 71 [],[(.dat false 25)]⟩,⟨1,0,uT::ufI::uT::uT::utS (.lit (.bool false))::uAB 71 [],[(.dat false 25)]⟩]⟩
def fK (p s:List D):Option (Sum (List D) (List D)):=aR env vv 60 12 25 (aW 25 5) S25_5 p s
theorem SD (pn0:Int) (pd1:D) (sn0:Int) (sn1:Int):fK [(D.int pn0),pd1] [(D.int sn0),(D.int sn1)] =
 let x0:=aa pd1 1
 let x1:=D.int pn0
 let x2:Option (List D ⊕ List D):=ge x1<|ge pd1<|some (Sum.inr [.int 1])
 let x3:=vt [x1,.int sn1,pd1] [.int sn0,.int 0]
 bif ae .lss sn1 (ai x0)then gd (aI x0 sn1)<|bif ae .gtr (ai (aa (ay x0 sn1) 1)) 1100 then x2 else gd (uZZ x3)<|bif ae .eql (ah (ar x3 0)) 0 then ge x1<|ge pd1<|some (Sum.inl [.int (ah (ar x3 1)),.int (aQ .add .i64 sn1 1)])else x2 else ge x1<|ge pd1<|some (Sum.inr [.int 0]):=by kernel_rfl
def lm:=by have h:= @SD;simp only[aN,gd,aq,aj,az,aM,cond_true]at h;exact h
def y7:List D->uAC:=veil fun p s=>loW (fK p) s
theorem vw:y7=fun p s=>loW (fK p) s:=ak _
def BF:Tb:=Tb.addL vv 25 5 S25_5.n0 (bu S25_5 (y7))
theorem Jr:TbOk env (BF):=aF FH 25 5 (by kernel_rfl) _ (vw)
def S25:FunS:=⟨[utD 25,utI],[],[utB],[]⟩
def F25:uAC:=aS env BF 60 12 25 S25
theorem SE (sd0:D) (sn1:Int):F25 [sd0,(D.int sn1)] =
 bif (ae BinOp.gtr (ai (aa sd0 1)) 300)then
 some [(D.bool Bool.false)]
 else
 bif (uZZ (y7 [(D.int sn1),sd0] [(D.int 20000),(D.int 0)]))then
 bif (ae BinOp.eql (ah (ar (y7 [(D.int sn1),sd0] [(D.int 20000),(D.int 0)]) 0)) 0)then
 some [(D.bool Bool.true)]
 else
 some [(D.bool Bool.false)]
 else
 none:=by kernel_rfl
def q25:uAC:=veil (F25)
theorem Js:q25=F25:=ak _
def tb25:Tb:=Tb.addF BF 25 S25 (q25)
theorem ok_tb25:TbOk env (tb25):=aG Jr 25 (by kernel_rfl) _ (Js)
def S8_5:LoopS:=⟨0,uF::ufP 0 0::ufS (.lit (.bool false))::utI::utI::uAA 27 [],[(.dat false 25)],[⟨0,0,uT::uT::utS (.lit (.bool false))::uAB 29 [],[(.dat false 25)]⟩,⟨1,0,uT::uT::utS (.lit (.bool true))::uAB 29 [],[(.dat false 25)]⟩]⟩
def qv (p s:List D):Option (Sum (List D) (List D)):=aR env tb25 60 12 8 (aW 8 5) S8_5 p s
theorem st8_5_e (pd0:D) (sn0:Int) (sn1:Int):qv [pd0] [(D.int sn0),(D.int sn1)] =
 let x0:=aa pd0 1
 let x1:=aQ .add .i64 sn0 (ai (aa (ay x0 sn1) 1))
 bif ae .lss sn1 (ai x0)then gd (aI x0 sn1)<|bif ae .gtr x1 400 then ge pd0<|some (Sum.inr [.int 1])else ge pd0<|some (Sum.inl [.int x1,.int (aQ .add .i64 sn1 1)])else ge pd0<|some (Sum.inr [.int 0]):=by kernel_rfl
def FI:=by have h:= @st8_5_e;simp only[aN,gd,aq,aj,az,aM,cond_true]at h;exact h
def l8_5:List D->uAC:=veil fun p s=>loW (qv p) s
theorem LO:l8_5=fun p s=>loW (qv p) s:=ak _
def Jt:Tb:=Tb.addL tb25 8 5 S8_5.n0 (bu S8_5 (l8_5))
theorem Om:TbOk env (Jt):=aF ok_tb25 8 5 (by kernel_rfl) _ (LO)
def S8:FunS:=⟨[utD 25],[],[utB],[]⟩
def F8:uAC:=aS env Jt 60 12 8 S8
theorem F8_e (sd0:D):F8 [sd0] =
 let x0:=ae .gtr (ai (aa sd0 1)) 40
 let x1:=q25 [sd0,.int 70]
 let x2:Option (List D):=some [.bool true]
 let x3:=l8_5 [sd0] [.int 0,.int 0]
 gd (aA x0 true (uZZ x1))<|bif aA x0 true (ca (aJ (ar x1 0)))then x2 else gd (uZZ x3)<|bif ae .eql (ah (ar x3 0)) 0 then some [.bool false]else x2:=by kernel_rfl
def F8_eq:=by have h:= @F8_e;simp only[aN,gd,aq,aj,az,aM,cond_true]at h;exact h
def q8:uAC:=veil (F8)
theorem SF:q8=F8:=ak _
def tb8:Tb:=Tb.addF Jt 8 S8 (q8)
theorem ok_tb8:TbOk env (tb8):=aG Om 8 (by kernel_rfl) _ (SF)
def S105:FunS:=⟨[utD 61],[],[utB],[]⟩
def F105:uAC:=aS env tb8 60 12 105 S105
theorem F105_eq (sd0:D):F105 [sd0] =
 some [(D.bool (aA (ae BinOp.eql (ah (aa sd0 0)) 2) (ae BinOp.eql (ah (aa sd0 2)) 7) Bool.false))]:=by kernel_rfl
def On:uAC:=veil (F105)
theorem LP:On=F105:=ak _
def SG:Tb:=Tb.addF tb8 105 S105 (On)
theorem SH:TbOk env (SG):=aG ok_tb8 105 (by kernel_rfl) _ (LP)
def S64:FunS:=⟨[utI],[],[utI],[]⟩
def F64:uAC:=aS env SG 60 12 64 S64
theorem F64_eq (sn0:Int):F64 [(D.int sn0)] =
 some [(D.int (eu IntKind.i64 (eu IntKind.i32 (eu IntKind.u32 sn0))))]:=by kernel_rfl
def q64:uAC:=veil (F64)
theorem SI:q64=F64:=ak _
def tb64:Tb:=Tb.addF SG 64 S64 (q64)
theorem ok_tb64:TbOk env (tb64):=aG SH 64 (by kernel_rfl) _ (SI)
def S62:FunS:=⟨[utD 61],[],[utS (.tup [(.int .i64), .bool])],[]⟩
def F62:uAC:=aS env tb64 60 12 62 S62
theorem F62_e (sd0:D):F62 [sd0] =
 let x0:=On [sd0]
 let x1:=D.bool true
 let x2:=ah (aa sd0 0)
 let x3:=aA (ae .neq x2 3) (ae .neq x2 4) false
 let x4:=aa sd0 4
 let x5:=On [ay x4 0]
 let x6:=aA x3 true (ca (aJ (ar x5 0)))
 let x7:=aI x4 1
 let x8:=eu .i64 (ah (aa (ay x4 1) 1))
 let x9:=q64 [.int (qun .neg .i64 x8)]
 let x10:=q64 [.int x8]
 gd (uZZ x0)<|bif aJ (ar x0 0)then some [.int 0,x1]else gd (aA x3 true (bL (aI x4 0) (uZZ x5)))<|gd (aA x6 true x7)<|bif aA x6 true (ae .neq (ah (aa (ay x4 1) 0)) 1)then some [.int 0,.bool false]else bif ae .eql x2 4 then gd x7<|gd (uZZ x9)<|some [.int (ah (ar x9 0)),x1]else gd x7<|gd (uZZ x10)<|some [.int (ah (ar x10 0)),x1]:=by kernel_rfl
def F62_eq:=by have h:= @F62_e;simp only[aN,gd,aq,aj,az,aM,cond_true]at h;exact h
def q62:uAC:=veil (F62)
theorem SJ:q62=F62:=ak _
def tb62:Tb:=Tb.addF tb64 62 S62 (q62)
theorem ok_tb62:TbOk env (tb62):=aG ok_tb64 62 (by kernel_rfl) _ (SJ)
def S30:FunS:=⟨[utD 57,utI],[],[utS (.tup [(.int .i64), .bool])],[]⟩
def F30:uAC:=aS env tb62 60 12 30 S30
theorem F30_e (sd0:D) (sn1:Int):F30 [sd0,(D.int sn1)] =
 let x0:=ah (aa sd0 0)
 let x1:=q64 [.int (aQ .add .i64 sn1 4)]
 let x2:=D.bool true
 let x3:=ae .eql (ah (aa sd0 1)) 7
 let x4:=q62 [ay (aa sd0 6) 0]
 let x5:=q64 [.int (aQ .add .i64 sn1 (ah (ar x4 0)))]
 bif ae .eql x0 5 then gd (uZZ x1)<|some [.int (ah (ar x1 0)),x2]else bif aA (ae .eql x0 3) x3 false then some [.int 0,.bool false]else bif aA (ae .eql x0 1) x3 false then gd (aI (aa sd0 6) 0)<|gd (uZZ x4)<|gd (uZZ x5)<|some [.int (ah (ar x5 0)),.bool (aJ (ar x4 1))]else some [.int sn1,x2]:=by kernel_rfl
def F30_eq:=by have h:= @F30_e;simp only[aN,gd,aq,aj,az,aM,cond_true]at h;exact h
def q30:uAC:=veil (F30)
theorem SK:q30=F30:=ak _
def tb30:Tb:=Tb.addF tb62 30 S30 (q30)
theorem ok_tb30:TbOk env (tb30):=aG ok_tb62 30 (by kernel_rfl) _ (SK)
def S61_2:LoopS:=⟨0,uF::utI::uF::uF::ufZ::ufS (.lit (.bool false))::uAA 5 (ufR 57::ufI::utI::uAA 14 []),[],[⟨0,0,uT::utI::uT::uT::utZ::utS (.lit (.bool false))::uAB 5 (ufR 57::ufI::uAB 15 []),[]⟩,⟨1,0,uT::uT::uT::uT::utZ::utS (.lit (.bool false))::uAB 5 (ufR 57::ufI::uAB 15 []),[]⟩]⟩
def BG (p s:List D):Option (Sum (List D) (List D)):=aR env tb30 60 12 61 (aW 61 2) S61_2 p s
theorem SL (pd0:D) (pn1:Int) (sn0:Int) (sn1:Int):BG [pd0,(D.int pn1)] [(D.int sn0),(D.int sn1)] =
 let x0:=q30 [ay pd0 sn1,.int sn0]
 let x1:=D.int pn1
 bif ae .lss sn1 pn1 then gd (aI pd0 sn1)<|gd (uZZ x0)<|bif ca (aJ (ar x0 1))then ge pd0<|ge x1<|some (Sum.inr [.int 1])else ge pd0<|ge x1<|some (Sum.inl [.int (ah (ar x0 0)),.int (aQ .add .i64 sn1 1)])else ge pd0<|ge x1<|some (Sum.inr [.int 0,.int sn0]):=by kernel_rfl
def y8:=by have h:= @SL;simp only[aN,gd,aq,aj,az,aM,cond_true]at h;exact h
def y9:List D->uAC:=veil fun p s=>loW (BG p) s
theorem FJ:y9=fun p s=>loW (BG p) s:=ak _
def BH:Tb:=Tb.addL tb30 61 2 S61_2.n0 (bu S61_2 (y9))
theorem Ju:TbOk env (BH):=aF ok_tb30 61 2 (by kernel_rfl) _ (FJ)
def S61:FunS:=⟨[utD 54,utI],[],[utS (.tup [(.int .i64), .bool])],[]⟩
def F61:uAC:=aS env BH 60 12 61 S61
theorem F61_eq (sd0:D) (sn1:Int):F61 [sd0,(D.int sn1)] =
 bif (uZZ (y9 [(aa sd0 1),(D.int (ai (aa sd0 1)))] [(D.int sn1),(D.int 0)]))then
 bif (ae BinOp.eql (ah (ar (y9 [(aa sd0 1),(D.int (ai (aa sd0 1)))] [(D.int sn1),(D.int 0)]) 0)) 0)then
 some [(D.int (ah (ar (y9 [(aa sd0 1),(D.int (ai (aa sd0 1)))] [(D.int sn1),(D.int 0)]) 1))),(D.bool Bool.true)]
 else
 some [(D.int 0),(D.bool Bool.false)]
 else
 none:=by kernel_rfl
def q61:uAC:=veil (F61)
theorem SM:q61=F61:=ak _
def tb61:Tb:=Tb.addF BH 61 S61 (q61)
theorem ok_tb61:TbOk env (tb61):=aG Ju 61 (by kernel_rfl) _ (SM)
def S52:FunS:=⟨[utD 61],[],[utB],[]⟩
def F52:uAC:=aS env tb61 60 12 52 S52
theorem F52_eq (sd0:D):F52 [sd0] =
 some [(D.bool (aA (ae BinOp.eql (ah (aa sd0 0)) 2) (ae BinOp.eql (ah (aa sd0 2)) 7) Bool.false))]:=by kernel_rfl
def q52:uAC:=veil (F52)
theorem SN:q52=F52:=ak _
def tb52:Tb:=Tb.addF tb61 52 S52 (q52)
theorem ok_tb52:TbOk env (tb52):=aG ok_tb61 52 (by kernel_rfl) _ (SN)
def S75:FunS:=⟨[utI,utI],[],[utI],[]⟩
def F75:uAC:=aS env tb52 60 12 75 S75
theorem F75_eq (sn0:Int) (sn1:Int):F75 [(D.int sn0),(D.int sn1)] =
 some [(D.int (eu IntKind.i64 (eu IntKind.i32 (aQ BinOp.add IntKind.u32 (eu IntKind.u32 sn0) (eu IntKind.u32 sn1)))))]:=by kernel_rfl
def q75:uAC:=veil (F75)
theorem SO:q75=F75:=ak _
def tb75:Tb:=Tb.addF tb52 75 S75 (q75)
theorem ok_tb75:TbOk env (tb75):=aG ok_tb52 75 (by kernel_rfl) _ (SO)
def S21:FunS:=⟨[utD 61],[],[utS (.tup [(.int .i64), .bool])],[]⟩
def F21:uAC:=aS env tb75 60 12 21 S21
theorem F21_e (sd0:D):F21 [sd0] =
 let x0:=q52 [sd0]
 let x1:=D.bool true
 let x2:=ah (aa sd0 0)
 let x3:=ae .eql x2 4
 let x4:=aA (ae .eql x2 3) true x3
 let x5:=aa sd0 4
 let x6:=q52 [ay x5 0]
 let x7:=aA x4 (aJ (ar x6 0)) false
 let x8:=ah (aa (ay x5 1) 1)
 gd (uZZ x0)<|bif aJ (ar x0 0)then some [.int 0,x1]else gd (aA x4 (bL (aI x5 0) (uZZ x6)) true)<|gd (aA x7 (aI x5 1) true)<|bif aA x7 (ae .eql (ah (aa (ay x5 1) 0)) 1) false then gd (aI x5 1)<|some [.int (eu .i64 (eu .i32 (iy x3 (aQ .sub .u32 0 x8) x8))),x1]else some [.int 0,.bool false]:=by kernel_rfl
def F21_eq:=by have h:= @F21_e;simp only[aN,gd,aq,aj,az,aM,cond_true]at h;exact h
def q21:uAC:=veil (F21)
theorem SP:q21=F21:=ak _
def tb21:Tb:=Tb.addF tb75 21 S21 (q21)
theorem ok_tb21:TbOk env (tb21):=aG ok_tb75 21 (by kernel_rfl) _ (SP)
def S38:FunS:=⟨[utD 57,utI],[],[utS (.tup [(.int .i64), .bool])],[]⟩
def F38:uAC:=aS env tb21 60 12 38 S38
theorem F38_e (sd0:D) (sn1:Int):F38 [sd0,(D.int sn1)] =
 let x0:=ah (aa sd0 0)
 let x1:=D.int sn1
 let x2:=q75 [x1,.int 4]
 let x3:=D.bool true
 let x4:=ae .eql (ah (aa sd0 1)) 7
 let x5:=q21 [ay (aa sd0 6) 0]
 let x6:=q75 [x1,.int (ah (ar x5 0))]
 bif ae .eql x0 5 then gd (uZZ x2)<|some [.int (ah (ar x2 0)),x3]else bif aA (ae .eql x0 3) x4 false then some [.int 0,.bool false]else bif aA (ae .eql x0 1) x4 false then gd (aI (aa sd0 6) 0)<|gd (uZZ x5)<|gd (uZZ x6)<|some [.int (ah (ar x6 0)),.bool (aJ (ar x5 1))]else some [x1,x3]:=by kernel_rfl
def F38_eq:=by have h:= @F38_e;simp only[aN,gd,aq,aj,az,aM,cond_true]at h;exact h
def q38:uAC:=veil (F38)
theorem SQ:q38=F38:=ak _
def tb38:Tb:=Tb.addF tb21 38 S38 (q38)
theorem ok_tb38:TbOk env (tb38):=aG ok_tb21 38 (by kernel_rfl) _ (SQ)
def S48:FunS:=⟨[utD 54],[],[utR 3],[]⟩
def F48:uAC:=aS env tb38 60 12 48 S48
theorem F48_eq (sd0:D):F48 [sd0] =
 bif (ae BinOp.eql (ai (aa sd0 1)) 0)then
 some [(D.list [])]
 else
 bif (aI (aa sd0 1) (aQ BinOp.sub IntKind.i64 (ai (aa sd0 1)) 1))then
 bif (uZZ (q89 [(ay (aa sd0 1) (aQ BinOp.sub IntKind.i64 (ai (aa sd0 1)) 1))]))then
 some [(ar (q89 [(ay (aa sd0 1) (aQ BinOp.sub IntKind.i64 (ai (aa sd0 1)) 1))]) 0)]
 else
 none
 else
 none:=by kernel_rfl
def q48:uAC:=veil (F48)
theorem SR:q48=F48:=ak _
def tb48:Tb:=Tb.addF tb38 48 S48 (q48)
theorem ok_tb48:TbOk env (tb48):=aG ok_tb38 48 (by kernel_rfl) _ (SR)
end
end Go.Proofs.YtfdedgmlafelaaaGreatDoor
