/-
  DERIVED: THE SHELF's CONTRACTS AT THIS DUMP, IN PLAIN WORDS (tools/lay-plain.mjs out of 'TryzShelf.lean', which tools/lay-shelf.mjs wrote): THE SAME DECLARATIONS UNDER THE SAME NAMES: 'import', 'namespace', 'open', 'def', 'theorem' AND NOTHING ELSE: no command of the shelf's: FOR A HAND-IN. Each laying: the table of numbers ('.._ren') and one theorem, a field a fact of the dump's own or the kernel's comparison; each contract: ONE APPLICATION.
-/
import Derived.Shelf.Strings.Search1
import Derived.Shelf.Strings.Search2
import Derived.Shelf.Strings.Search3
import Derived.Test.YtiojjmlccehpoaaGreatProg
import Derived.Test.YtiojjmlccehpoaaGreatAmZ2
import Derived.Test.YtiojjmlccehpoaaGreatC1
import Derived.Below
import Derived.RowKit3
import Derived.Lib.IndexMore
import Derived.KernelRfl
set_option linter.defProp false
set_option linter.unusedSimpArgs false
set_option linter.unusedVariables false
set_option maxRecDepth 100000
namespace Go.Proofs
open Go.Shelf
def Tryz.lays144_ren:Go.Shelf.Ren:=⟨fun|144=>202|143=>231|219=>250|217=>265|225=>266|224=>267|267=>268|266=>279|314=>280|n=>n,fun|9=>9|4=>4|3=>3|5=>5|46=>152|146=>319|51=>22|n=>n,fun|1=>0|n=>n⟩
theorem Tryz.lays144:Go.Proofs.Lays.n144 Tryz.prog Tryz.lays144_ren:={
 mixed:=by kernel_rfl
 f143:=Tryz.func231.trans (congrArg some (by kernel_rfl))
 f144:=Tryz.func202.trans (congrArg some (by kernel_rfl))
 f217:=Tryz.func265.trans (congrArg some (by kernel_rfl))
 f219:=Tryz.func250.trans (congrArg some (by kernel_rfl))
 f224:=Tryz.func267.trans (congrArg some (by kernel_rfl))
 f225:=Tryz.func266.trans (congrArg some (by kernel_rfl))
 f266:=Tryz.func279.trans (congrArg some (by kernel_rfl))
 f267:=Tryz.func268.trans (congrArg some (by kernel_rfl))
 f314:=Tryz.func280.trans (congrArg some (by kernel_rfl))
 t3:=Tryz.underlying3
 a3:=Tryz.isAgg3
 z3:=Tryz.sizeOf3
 v3:=Tryz.zeroValue3
 t4:=Tryz.underlying4
 a4:=Tryz.isAgg4
 z4:=Tryz.sizeOf4
 v4:=Tryz.zeroValue4
 t5:=Tryz.underlying5
 a5:=Tryz.isAgg5
 z5:=Tryz.sizeOf5
 v5:=Tryz.zeroValue5
 t9:=Tryz.underlying9
 a9:=Tryz.isAgg9
 z9:=Tryz.sizeOf9
 v9:=Tryz.zeroValue9
 t46:=Tryz.underlying152
 a46:=Tryz.isAgg152
 z46:=Tryz.sizeOf152
 v46:=Tryz.zeroValue152
 t51:=Tryz.underlying22
 a51:=Tryz.isAgg22
 z51:=Tryz.sizeOf22
 v51:=Tryz.zeroValue22
 t146:=Tryz.underlying319
 a146:=Tryz.isAgg319
 z146:=Tryz.sizeOf319
 v146:=Tryz.zeroValue319
 g1:=by kernel_rfl}
open Go.RowKit Go.Lib in
theorem Tryz.strings_Contains (s sub:ByteArray) (m:Int) (w:World) (hs:s.size<4294967281) (hm:w.cell? ⟨0,0,none⟩=some (.int .i64 m)):
 Calls Tryz.prog 202 #[.string s, .string sub] w fun e w'=>e = .returned (.bool (Lib.contains s.data.toList sub.data.toList))∧w'=w:=Any.strings_Contains Tryz.lays144 s sub m w hs hm
end Go.Proofs
namespace Go.AM
section
variable {P:Program}
theorem Hd {f:FuncId} {args:List AV} {H:Hp} {x:Value} {y:AV} (hy:∀ρ E w,Rep ρ E w y x) (h:∀(lo:Nat->Prop) (w0:World) (ρ:Nat->Option Nat) (E:Nat->Prop) (w:World) (vs:Array Value),Inv lo w0 ρ E H w->RepL ρ E w args vs.toList->
 Calls P f vs w fun e w'=>e = .returned x∧w'=w):Ok P f args H y H:=by
 intro lo w0 ρ E w vs inv ra;refine(h lo w0 ρ E w vs inv ra).mono ?_
 rintro e w' ⟨rfl,rfl⟩;exact⟨x,ρ,E,rfl,inv,⟨Ext.refl,fun _ h=> .inl h⟩,hy _ _ _⟩
theorem Li {f:FuncId} {args:List AV} {H:Hp} {x:Value} (h:∀(lo:Nat->Prop) (w0:World) (ρ:Nat->Option Nat) (E:Nat->Prop) (w:World) (vs:Array Value),Inv lo w0 ρ E H w->RepL ρ E w args vs.toList->
 Calls P f vs w fun e w'=>e = .returned x∧w'=w):Ok P f args H (.sc x) H:=by
 intro lo w0 ρ E w vs inv ra;refine(h lo w0 ρ E w vs inv ra).mono ?_
 rintro e w' ⟨rfl,rfl⟩;exact⟨x,ρ,E,rfl,inv,⟨Ext.refl,fun _ h=> .inl h⟩,by simp only[Rep]⟩
noncomputable def oj (s t:List UInt8):Bool:=match s with | []=>t.isEmpty|x::r=>t.isPrefixOf (x::r)||oj r t
theorem DO:∀s t:List UInt8,oj s t=Lib.contains s t
 | [],t=>by
   unfold oj Lib.contains Lib.index;cases h:t.isEmpty<;>rfl
 |x::r,t=>by
  have ih:=DO r t;have hg:=Lib.index_ge r t;unfold Lib.contains at ih;unfold oj Lib.contains Lib.index;rw[ih];cases h:t.isPrefixOf (x::r)with
  |true=>simp
  |false=>
   simp only[lm,hR,aV];split
   ·rename_i h1;rw[eq_of_beq h1]
   ·rename_i h1;have:Lib.index r t≠ -1:=fun e=>h1 (by rw[e];rfl)
    rw[fy];simp only[cl];omega
def He (P:Program) (f:FuncId):Prop:=
 ∀(s sub:ByteArray) (m:Int) (w:World),s.size<4294967281->w.cell? ⟨0,0,none⟩=some (.int .i64 m)->
  Calls P f #[.string s, .string sub] w fun e w'=>e = .returned (.bool (Lib.contains s.data.toList sub.data.toList))∧w'=w
noncomputable def qhas:ByteArray->ByteArray->Bool:=veil fun s t=>oj s.data.toList t.data.toList
theorem On:qhas=fun s t=>oj s.data.toList t.data.toList:=ai _
noncomputable def Oo (args:List AV) (H:Hp):Option (AV×Hp):=
 match args with
 | [.sc (.string s), .sc (.string t)]=>(match H.glob 0 with
   |some [.anyI .i64]=>bif Nat.ble s.size 1048576 then some (.sc (.bool (oj s.data.toList t.data.toList)),H)else none
   |_=>none)
 | [.sc (.string s), .us t]=>(match H.glob 0 with
   |some [.anyI .i64]=>bif Nat.ble s.size 1048576 then some (.ub (qhas s t),H)else none
   |_=>none)
 |_=>none
theorem Hf {f:FuncId} (hC:He P f) (args:List AV) (H:Hp) (v:AV) (H':Hp) (h:Oo args H=some (v,H')):Ok P f args H v H':=by
 unfold Oo at h;split at h
 case h_3=>cases h
 case h_1 s t=>
  split at h
  case h_2=>cases h
  case h_1 hg=>
   cases hb:Nat.ble s.size 1048576 with
   |false=>rw[hb]at h;cases h
   |true=>
    rw[hb]at h;cases h;simp only[Nat.ble_eq]at hb;refine Li fun lo w0 ρ E w vs inv ra=> ?_
    generalize hvs:vs.toList=l at ra;simp only[RepL]at ra;obtain⟨u1,l1,rfl,r1,u2,l2,rfl,r2,rfl⟩:=ra;simp only[Rep]at r1 r2;subst r1 r2;have hv:vs = #[.string s, .string t]:=by rw[<- Array.toList_inj,hvs]
    have hr:=(inv.gl 0 _ hg).2.1;simp only[RepAt,Rep]at hr;obtain⟨⟨u,hu,n,rfl⟩,_⟩:=hr;rw[hv,DO];exact hC s t n w (by omega) hu
 case h_2 s t=>
  split at h
  case h_2=>cases h
  case h_1 hg=>
   cases hb:Nat.ble s.size 1048576 with
   |false=>rw[hb]at h;cases h
   |true=>
    rw[hb]at h;cases h;simp only[Nat.ble_eq]at hb;refine Hd (x:= .bool (oj s.data.toList t.data.toList)) (fun _ _ _=>by simp only[Rep,On]) fun lo w0 ρ E w vs inv ra=> ?_
    generalize hvs:vs.toList=l at ra;simp only[RepL]at ra;obtain⟨u1,l1,rfl,r1,u2,l2,rfl,r2,rfl⟩:=ra;simp only[Rep]at r1 r2;subst r1 r2;have hv:vs = #[.string s, .string t]:=by rw[<- Array.toList_inj,hvs]
    have hr:=(inv.gl 0 _ hg).2.1;simp only[RepAt,Rep]at hr;obtain⟨⟨u,hu,n,rfl⟩,_⟩:=hr;rw[hv,DO];exact hC s t n w (by omega) hu
end
end Go.AM
namespace Go.Proofs.YtiojjmlccehpoaaGreat
open Go Go.AM
theorem sY:He Tryz.prog 202:=fun s sub m w hs hm=>Tryz.strings_Contains s sub m w hs hm
noncomputable def tbX:Tb:=Tb.nil.add 202 Oo (fun _ _=>[])
noncomputable def Lj:Env:={P:=Tryz.prog,fn:=fun f=>(Tryz.prog.funcs[f]?).bind fun fn=>fn.body.map fun c=>⟨c,fn.ntmps,fn.results.toList⟩,isPure:=fun f=>[40].elem f,isFrz:=fun _=>false,clr:=false,pre:=tbX.O,lp:=fun _ _=>none,n0:=0}
theorem envXOk:ed Lj:=by
 intro f F h;refine j8 f F ?_
 rw[envFn];exact h
theorem tbXOk:TbOk Lj tbX:=TbOk.nil.add (by kernel_rfl) fun args H v H' h _=>Hf sY args H v H' h
def S12:FunS:=⟨[],[],[utB],[]⟩
theorem ex12:N8 Lj tbX (Q3 Lj tbX 5000 5000).d 12 S12 []=some [.bool true]:=by kernel_rfl
noncomputable def q12:uAC:=veil fun ds=>N8 Lj tbX (Q3 Lj tbX 5000 5000).d 12 S12 ds
theorem q12_eq:q12 []=some [.bool true]:=by unfold q12;rw[ai];exact ex12
theorem sound12:aH env.P 12 S12 q12:=by
 unfold q12;rw[ai];exact G1 Lj tbX (Lh envXOk (fun _ _=>rfl) rfl tbXOk 5000 5000)
theorem uo {e:Env} {tb:Tb} (hok:ed e) (h:TbOk e tb) (K n:Nat) {f:FuncId} {S:FunS} {av:List AV} {p r:List D} {H:Hp}
 (hr:jZ (it e tb f) (gy e tb K n) K f av H (qV S p)=some r) (hH:H.n=S.hs.length):Ok e.P f av H (GW S p (bdL r)) (BN S p (bdL r)):=by
 intro lo w0 ρ E w vs inv ra;refine(sN (env:=it e tb f) (pb hok f) K (mj h K n) (i6 hok h K n) f (fun F hF x hx n0 g hg=>h.l f F x n0 g hF hx hg) hr lo w0 ρ E w vs inv ra).mono ?_
 rintro e' w' ⟨u,ρ',E',v0,Hc,rfl,inv',reach,hrep,hk⟩;unfold qV at hk;split at hk
 ·rename_i q hq;obtain⟨h1,h2⟩:=eU hk;cases h2;obtain⟨o1,o2⟩:=bH h1;have hp:=ph o2
  have st:St lo w0 ρ E w ρ' E' Hc [v0] {tmps:= #[u],defers:=[]} w':=⟨inv',⟨rfl,fun t x ht=>by
   cases t with
   |zero=>simp at ht;subst ht;simpa using hrep
   |succ t=>simp at ht,rfl⟩,reach⟩
  obtain⟨ρ2,E2,st2⟩:=pf hq o1 (σp:=bdL p) (σs:=bdL q.s) (js:=0) (by rw[hp];exact dE p) (dE q.s) lo w0 ρ E w ρ' E' _ w' (by rw[<- hH];exact inv.dom) st
  refine⟨u,ρ2,E2,rfl,st2.inv,st2.reach,?_⟩
  unfold GW;cases hm:mo (bdL p) (bdL q.s) S.rs S.rhs 0 with
  |nil=>simp only[List.headD_nil,Rep]
  |cons x xs=>
   have:=st2.fr.rep 0 x (by rw[hm];rfl)
   simpa using this
 ·cases hk
noncomputable def UL:Tb:=Tb.nil.add 202 Oo (fun _ _=>[])
theorem UM:TbOk env UL:=TbOk.nil.add (by kernel_rfl) fun args H v H' h _=>Hf sY args H v H' h
end Go.Proofs.YtiojjmlccehpoaaGreat
open Go Go.AM
namespace Go.Proofs.YtiojjmlccehpoaaGreat
noncomputable section
def S139_2:LoopS:=⟨0,⟨false, .str⟩::uF::ufS (.lit (.bool false))::uF::uF::uF::uF::ufP 0 0::uAA 54 [],[.sit],[⟨0,0,⟨false, .str⟩::uT::utS (.lit (.bool false))::uAB 59 [],[.sit]⟩,⟨1,0,⟨false, .str⟩::uT::utS (.lit (.bool false))::uAB 59 [],[.sit]⟩]⟩
def uq (p s:List D):Option (Sum (List D) (List D)):=aP env UL 60 12 139 (bb 139 2) S139_2 p s
theorem Q5 (ps0:ByteArray) (ps1:ByteArray) (sn0:Int):uq [(D.str ps0),(D.str ps1)] [(D.int sn0)] =
 let x0:=ab .lss sn0 (fB ps1)
 let x1:=FU ps1 sn0
 let x2:=D.str ps0
 let x3:=D.str ps1
 let x4:=D.int (fC x0 (qrw ps1 sn0) sn0)
 bif x0 then gd x0<|gd x0<|bif aw (bU (aw (aw (aw (aw (ab .geq x1 97) (ab .leq x1 122) false) true (aw (ab .geq x1 65) (ab .leq x1 90) false)) true (ab .eql x1 95)) true (ab .eql x1 46))) (aw (aw (ab .eql sn0 0) true (ab .lss x1 48)) true (ab .gtr x1 57)) false then ge x2<|ge x3<|some (Sum.inr [.int 1,x4])else ge x2<|ge x3<|some (Sum.inl [x4])else ge x2<|ge x3<|some (Sum.inr [.int 0,x4]):=by kernel_rfl
def xF:=by have h:= @Q5;simp only[aF,gd,am,ak,ao,au,ar,aE,aj]at h;exact h
def DP:List D->uAC:=veil fun p s=>loW (uq p) s
theorem BU:DP=fun p s=>loW (uq p) s:=ai _
def xG:Tb:=Tb.addL UL 139 2 S139_2.n0 (bQ S139_2 (DP))
theorem Hg:TbOk env (xG):=aG UM 139 2 (by kernel_rfl) _ (BU)
def S139:FunS:=⟨[⟨true, .str⟩],[],[utB],[]⟩
def F139:uAC:=aO env xG 60 12 139 S139
theorem F139_e (ss0:ByteArray):F139 [(D.str ss0)] =
 let x0:=DP [.str ss0,.str ss0] [.int 0]
 let x1:=aw (cI .neq ss0 (ByteArray.mk #[])) (ab .leq (fB ss0) 32) false
 let x2:=ByteArray.mk #[32]
 let x3:=J8 x2 ss0
 gd (ap x0)<|bif ab .eql (ah (ac x0 0)) 0 then gd (aw x1 (ci (jm x2 ss0) (jm x3 x2)) true)<|some [.bool (aw x1 (bU (qhas (ByteArray.mk #[32,98,114,101,97,107,32,99,97,108,108,32,99,97,115,101,32,99,111,110,116,105,110,117,101,32,100,97,116,97,32,101,108,115,101,32,101,120,101,99,32,102,117,110,99,32,103,111,116,111,32,104,97,108,116,32,105,102,32,105,110,32,108,111,111,112,32,111,117,116,32,114,101,116,117,114,110,32,115,119,105,116,99,104,32,118,97,114,32,119,104,105,108,101,32,119,114,105,116,101,32,108,111,97,100,49,32,108,111,97,100,50,32,108,111,97,100,52,32,115,101,120,116,49,32,115,101,120,116,50,32,115,116,111,114,101,49,32,115,116,111,114,101,50,32,115,116,111,114,101,52,32]) (J8 x3 x2))) false)]else some [.bool false]:=by kernel_rfl
def F139_eq:=by have h:= @F139_e;simp only[aF,gd,am,ak,ao,au,ar,aE,aj]at h;exact h
def AX:uAC:=veil (F139)
theorem Oq:AX=F139:=ai _
def UN:Tb:=Tb.addF xG 139 S139 (AX)
theorem UO:TbOk env (UN):=aJ Hg 139 (by kernel_rfl) _ (Oq)
def S217:FunS:=⟨[],[],[utR 9],[]⟩
def F217:uAC:=aO env UN 60 12 217 S217
theorem F217_eq:F217 [] =
 some [(D.list [(D.str (ByteArray.mk #[98,114,101,97,107])),(D.str (ByteArray.mk #[99,97,108,108])),(D.str (ByteArray.mk #[99,97,115,101])),(D.str (ByteArray.mk #[99,111,110,116,105,110,117,101])),(D.str (ByteArray.mk #[100,97,116,97])),(D.str (ByteArray.mk #[101,108,115,101])),(D.str (ByteArray.mk #[101,120,101,99])),(D.str (ByteArray.mk #[102,117,110,99])),(D.str (ByteArray.mk #[103,111,116,111])),(D.str (ByteArray.mk #[104,97,108,116])),(D.str (ByteArray.mk #[105,102])),(D.str (ByteArray.mk #[105,110])),(D.str (ByteArray.mk #[108,111,111,112])),(D.str (ByteArray.mk #[111,117,116])),(D.str (ByteArray.mk #[114,101,116,117,114,110])),(D.str (ByteArray.mk #[115,119,105,116,99,104])),(D.str (ByteArray.mk #[118,97,114])),(D.str (ByteArray.mk #[119,104,105,108,101])),(D.str (ByteArray.mk #[119,114,105,116,101])),(D.str (ByteArray.mk #[108,111,97,100,49])),(D.str (ByteArray.mk #[108,111,97,100,50])),(D.str (ByteArray.mk #[108,111,97,100,52])),(D.str (ByteArray.mk #[115,101,120,116,49])),(D.str (ByteArray.mk #[115,101,120,116,50])),(D.str (ByteArray.mk #[115,116,111,114,101,49])),(D.str (ByteArray.mk #[115,116,111,114,101,50])),(D.str (ByteArray.mk #[115,116,111,114,101,52]))])]:=by kernel_rfl
def q217:uAC:=veil (F217)
theorem Or:q217=F217:=ai _
def UP:Tb:=Tb.addF UN 217 S217 (q217)
theorem UQ:TbOk env (UP):=aJ UO 217 (by kernel_rfl) _ (Or)
def S164_2:LoopS:=⟨0,⟨false, .str⟩::uF::ufS (.lit (.bool false))::utI::uAA 70 [],[],[⟨0,0,⟨false, .str⟩::uT::utS (.lit (.bool false))::uAB 71 [],[]⟩,⟨1,0,⟨false, .str⟩::uT::utS (.lit (.bool false))::uAB 71 [],[]⟩]⟩
def ur (p s:List D):Option (Sum (List D) (List D)):=aP env UP 60 12 164 (bb 164 2) S164_2 p s
theorem Q6 (ps0:ByteArray) (sn0:Int):ur [(D.str ps0)] [(D.int sn0)] =
 let x0:=vt ps0 sn0
 let x1:=D.str ps0
 bif ab .lss sn0 (fB ps0)then gd (vv ps0 sn0)<|bif aw (bU (aw (aw (aw (aw (ab .geq x0 97) (ab .leq x0 122) false) true (aw (ab .geq x0 65) (ab .leq x0 90) false)) true (ab .eql x0 95)) true (ab .eql x0 46))) (aw (aw (ab .eql sn0 0) true (ab .lss x0 48)) true (ab .gtr x0 57)) false then ge x1<|some (Sum.inr [.int 1])else ge x1<|some (Sum.inl [.int (aM .add .i64 sn0 1)])else ge x1<|some (Sum.inr [.int 0]):=by kernel_rfl
def xH:=by have h:= @Q6;simp only[aF,gd,am,ak,ao,au,ar,aE,aj]at h;exact h
def DQ:List D->uAC:=veil fun p s=>loW (ur p) s
theorem BV:DQ=fun p s=>loW (ur p) s:=ai _
def xI:Tb:=Tb.addL UP 164 2 S164_2.n0 (bQ S164_2 (DQ))
theorem Hh:TbOk env (xI):=aG UQ 164 2 (by kernel_rfl) _ (BV)
def S164_10:LoopS:=⟨0,⟨false, .str⟩::uF::ufS (.lit (.bool false))::uF::uF::uF::ufR 9::utI::uAA 66 [],[],[⟨0,2,⟨false, .str⟩::uT::utS (.lit (.bool false))::uT::uT::uT::ufR 9::uAB 67 [],[]⟩,⟨1,0,⟨false, .str⟩::uT::utS (.lit (.bool false))::uT::uT::uT::ufR 9::uAB 67 [],[]⟩]⟩
def pt (p s:List D):Option (Sum (List D) (List D)):=aP env xI 60 12 164 (bb 164 10) S164_10 p s
theorem Lk (ps0:ByteArray) (pd1:D) (sn0:Int):pt [(D.str ps0),pd1] [(D.int sn0)] =
 let x0:=D.str ps0
 bif ab .lss sn0 (ae pd1)then gd (aS pd1 sn0)<|bif cI .eql (aB (ay pd1 sn0)) ps0 then ge x0<|ge pd1<|some (Sum.inr [.int 1])else ge x0<|ge pd1<|some (Sum.inl [.int (aM .add .i64 sn0 1)])else ge x0<|ge pd1<|some (Sum.inr [.int 0]):=by kernel_rfl
def Hi:=by have h:= @Lk;simp only[aF,gd,am,ak,ao,au,ar,aE,aj]at h;exact h
def ut:List D->uAC:=veil fun p s=>loW (pt p) s
theorem xJ:ut=fun p s=>loW (pt p) s:=ai _
def qZ:Tb:=Tb.addL xI 164 10 S164_10.n0 (bQ S164_10 (ut))
theorem DR:TbOk env (qZ):=aG Hh 164 10 (by kernel_rfl) _ (xJ)
def S164:FunS:=⟨[⟨true, .str⟩],[],[utB],[]⟩
def F164:uAC:=aO env qZ 60 12 164 S164
theorem F164_e (ss0:ByteArray):F164 [(D.str ss0)] =
 let x0:=DQ [.str ss0] [.int 0]
 let x1:=q217 []
 let x2:=ut [.str ss0,ac x1 0] [.int 0]
 let x3:Option (List D):=some [.bool false]
 gd (ap x0)<|bif ab .eql (ah (ac x0 0)) 0 then gd (ap x1)<|gd (ap x2)<|bif ab .eql (ah (ac x2 0)) 0 then some [.bool (aw (ab .gtr (fB ss0) 0) (ab .leq (fB ss0) 32) false)]else x3 else x3:=by kernel_rfl
def F164_eq:=by have h:= @F164_e;simp only[aF,gd,am,ak,ao,au,ar,aE,aj]at h;exact h
def DS:uAC:=veil (F164)
theorem Ou:DS=F164:=ai _
def UR:Tb:=Tb.addF qZ 164 S164 (DS)
theorem US:TbOk env (UR):=aJ DR 164 (by kernel_rfl) _ (Ou)
def S165_2:LoopS:=⟨0,ufR 65::⟨false, .str⟩::uF::uF::ufS (.lit (.bool false))::utI::uAA 13 [],[],[⟨0,0,ufR 65::⟨false, .str⟩::uT::uT::utS (.lit (.bool false))::uAB 14 [],[]⟩,⟨1,0,ufR 65::⟨false, .str⟩::uT::uT::utS (.lit (.bool true))::uAB 14 [],[]⟩]⟩
def uu (p s:List D):Option (Sum (List D) (List D)):=aP env UR 60 12 165 (bb 165 2) S165_2 p s
theorem Q7 (pd0:D) (ps1:ByteArray) (sn0:Int):uu [pd0,(D.str ps1)] [(D.int sn0)] =
 let x0:=D.str ps1
 bif ab .lss sn0 (ae pd0)then gd (aS pd0 sn0)<|bif cI .eql (aB (aa (ay pd0 sn0) 0)) ps1 then ge pd0<|ge x0<|some (Sum.inr [.int 1])else ge pd0<|ge x0<|some (Sum.inl [.int (aM .add .i64 sn0 1)])else ge pd0<|ge x0<|some (Sum.inr [.int 0]):=by kernel_rfl
def Ll:=by have h:= @Q7;simp only[aF,gd,am,ak,ao,au,ar,aE,aj]at h;exact h
def DT:List D->uAC:=veil fun p s=>loW (uu p) s
theorem BW:DT=fun p s=>loW (uu p) s:=ai _
def xK:Tb:=Tb.addL UR 165 2 S165_2.n0 (bQ S165_2 (DT))
theorem Hj:TbOk env (xK):=aG US 165 2 (by kernel_rfl) _ (BW)
def S165:FunS:=⟨[utR 65,⟨true, .str⟩],[],[utB],[]⟩
def F165:uAC:=aO env xK 60 12 165 S165
theorem F165_eq (sd0:D) (ss1:ByteArray):F165 [sd0,(D.str ss1)] =
 bif (ap (DT [sd0,(D.str ss1)] [(D.int 0)]))then
  bif (ab BinOp.eql (ah (ac (DT [sd0,(D.str ss1)] [(D.int 0)]) 0)) 0)then
   some [(D.bool Bool.false)]
  else
   some [(D.bool Bool.true)]
 else
  none:=by kernel_rfl
def Lm:uAC:=veil (F165)
theorem Ov:Lm=F165:=ai _
def UT:Tb:=Tb.addF xK 165 S165 (Lm)
theorem Hk:TbOk env (UT):=aJ Hj 165 (by kernel_rfl) _ (Ov)
def S85:FunS:=⟨[utD 25,utI],[],[utB],[]⟩
def UU (Q:uAC):Tb:=Tb.addF UT 85 S85 Q
theorem UV (Q:uAC) (hQ:aH env.P 85 S85 Q):TbOk env (UU Q):=TbOk.addF Hk (by kernel_rfl) hQ
def S138:FunS:=⟨[utD 25,utS (.eptr [(.int .i64)])],[],[utB],[]⟩
def F138 (Q:uAC):uAC:=aO env (UU Q) 60 12 138 S138
theorem F138_eq (Q:uAC) (sd0:D) (sn1:Int):F138 Q [sd0,(D.int sn1)] =
 bif (ap (Q [sd0,(D.int (aM BinOp.sub IntKind.i64 sn1 1))]))then
  some [(D.bool (bU (aQ (ac (Q [sd0,(D.int (aM BinOp.sub IntKind.i64 sn1 1))]) 0))))]
 else
  none:=by kernel_rfl
def Q8 (Q:uAC):uAC:=veil (F138 Q)
theorem Ow (Q:uAC):Q8 Q=F138 Q:=ai _
def UW (Q:uAC):Tb:=Tb.addF (UU Q) 138 S138 (Q8 Q)
theorem UX (Q:uAC) (hQ:aH env.P 85 S85 Q):TbOk env (UW Q):=aJ (UV Q hQ) 138 (by kernel_rfl) _ (Ow Q)
def S201_138_2:LoopS:=⟨0,ufR 25::ufS (.func 138 [] [(.eptr [(.int .i64)])])::uF::uF::ufZ::uF::uF::ufI::utI::uAA 10 [],[],[⟨0,0,ufR 25::ufS (.func 138 [] [(.eptr [(.int .i64)])])::uT::uT::utZ::uT::uT::ufI::uAB 11 [],[]⟩,⟨1,0,ufR 25::ufS (.func 138 [] [(.eptr [(.int .i64)])])::uT::uT::utI::uT::uT::ufI::uAB 11 [],[]⟩]⟩
def jc (Q:uAC) (p s:List D):Option (Sum (List D) (List D)):=aP env (UW Q) 60 12 201 (bb 201 2) S201_138_2 p s
theorem AY (Q:uAC) (pd0:D) (pn1:Int) (pn2:Int) (sn0:Int):jc Q [pd0,(D.int pn1),(D.int pn2)] [(D.int sn0)] =
 let x0:=D.int pn1
 let x1:=Q8 Q [ay pd0 sn0,x0]
 let x2:=D.int pn2
 bif ab .lss sn0 pn2 then gd (aS pd0 sn0)<|gd (ap x1)<|bif aQ (ac x1 0)then ge pd0<|ge x0<|ge x2<|some (Sum.inr [.int 1,.int sn0])else ge pd0<|ge x0<|ge x2<|some (Sum.inl [.int (aM .add .i64 sn0 1)])else ge pd0<|ge x0<|ge x2<|some (Sum.inr [.int 0]):=by kernel_rfl
def xL:=by have h:= @AY;simp only[aF,gd,am,ak,ao,au,ar,aE,aj]at h;exact h
def iv (Q:uAC):List D->uAC:=veil fun p s=>loW (jc Q p) s
theorem ny (Q:uAC):iv Q=fun p s=>loW (jc Q p) s:=ai _
def kQ (Q:uAC):Tb:=Tb.addL (UW Q) 201 2 S201_138_2.n0 (bQ S201_138_2 (iv Q))
theorem tR (Q:uAC) (hQ:aH env.P 85 S85 Q):TbOk env (kQ Q):=aG (UX Q hQ) 201 2 (by kernel_rfl) _ (ny Q)
def Hl:FunS:=⟨[utR 25,utS (.func 138 [] [(.eptr [(.int .i64)])])],[],[utI],[]⟩
def xM (Q:uAC):uAC:=aO env (kQ Q) 60 12 201 Hl
theorem Hm (Q:uAC) (sd0:D) (sn1:Int):xM Q [sd0,(D.int sn1)] =
 bif (ap (iv Q [sd0,(D.int sn1),(D.int (ae sd0))] [(D.int 0)]))then
  bif (ab BinOp.eql (ah (ac (iv Q [sd0,(D.int sn1),(D.int (ae sd0))] [(D.int 0)]) 0)) 0)then
   some [(D.int (-1))]
  else
   some [(D.int (ah (ac (iv Q [sd0,(D.int sn1),(D.int (ae sd0))] [(D.int 0)]) 1)))]
 else
  none:=by kernel_rfl
def pu (Q:uAC):uAC:=veil (xM Q)
theorem sZ (Q:uAC):pu Q=xM Q:=ai _
def q6 (Q:uAC):Tb:=Tb.addF (kQ Q) 201 Hl (pu Q)
theorem DU (Q:uAC) (hQ:aH env.P 85 S85 Q):TbOk env (q6 Q):=aJ (tR Q hQ) 201 (by kernel_rfl) _ (sZ Q)
def Hn:FunS:=⟨[utR 25,utS (.func 138 [] [(.eptr [(.int .i64)])])],[],[utB],[]⟩
def xN (Q:uAC):uAC:=aO env (q6 Q) 60 12 137 Hn
theorem Ho (Q:uAC) (sd0:D) (sn1:Int):xN Q [sd0,(D.int sn1)] =
 bif (ap (pu Q [sd0,(D.int sn1)]))then
  some [(D.bool (ab BinOp.geq (ah (ac (pu Q [sd0,(D.int sn1)]) 0)) 0))]
 else
  none:=by kernel_rfl
def mt (Q:uAC):uAC:=veil (xN Q)
theorem s3 (Q:uAC):mt Q=xN Q:=ai _
def q7 (Q:uAC):Tb:=Tb.addF (q6 Q) 137 Hn (mt Q)
theorem DV (Q:uAC) (hQ:aH env.P 85 S85 Q):TbOk env (q7 Q):=aJ (DU Q hQ) 137 (by kernel_rfl) _ (s3 Q)
def Fb85 (Q:uAC):uAC:=aO env (q7 Q) 60 12 85 S85
theorem Fb85_eq (Q:uAC) (sd0:D) (sn1:Int):Fb85 Q [sd0,(D.int sn1)] =
 bif (aw (ab BinOp.geq sn1 1) (ap (mt Q [(aa sd0 4),(D.int sn1)])) Bool.true)then
  some [(D.bool (aw (ab BinOp.geq sn1 1) (bU (aQ (ac (mt Q [(aa sd0 4),(D.int sn1)]) 0))) Bool.false))]
 else
  none:=by kernel_rfl
def F85:Nat->uAC:=levels Fb85
theorem F85_s (n:Nat):F85 (n+1)=Fb85 (F85 n):=rfl
def q85:uAC:=veil fun ds=>F85 (aY ds) ds
theorem UY:q85=fun ds=>F85 (aY ds) ds:=ai _
theorem sound85:aH env.P 85 S85 q85:=gM (fun q=>q7 q) (fun q hq=>DV q hq) UY
def tb85:Tb:=Tb.addF UT 85 S85 q85
theorem Ox:TbOk env tb85:=TbOk.addF Hk (by kernel_rfl) sound85
def S86:FunS:=⟨[utD 25],[],[utB],[]⟩
def UZ (Q:uAC):Tb:=Tb.addF tb85 86 S86 Q
theorem U0 (Q:uAC) (hQ:aH env.P 86 S86 Q):TbOk env (UZ Q):=TbOk.addF Ox (by kernel_rfl) hQ
def S140:FunS:=⟨[utD 25],[],[utB],[]⟩
def F140 (Q:uAC):uAC:=aO env (UZ Q) 60 12 140 S140
theorem F140_eq (Q:uAC) (sd0:D):F140 Q [sd0] =
 bif (ap (Q [sd0]))then
  some [(D.bool (bU (aQ (ac (Q [sd0]) 0))))]
 else
  none:=by kernel_rfl
def Q9 (Q:uAC):uAC:=veil (F140 Q)
theorem Oy (Q:uAC):Q9 Q=F140 Q:=ai _
def U1 (Q:uAC):Tb:=Tb.addF (UZ Q) 140 S140 (Q9 Q)
theorem U2 (Q:uAC) (hQ:aH env.P 86 S86 Q):TbOk env (U1 Q):=aJ (U0 Q hQ) 140 (by kernel_rfl) _ (Oy Q)
def S201_140_2:LoopS:=⟨0,ufR 25::ufS (.func 140 [] [])::uF::uF::ufZ::uF::uF::ufI::utI::uAA 10 [],[],[⟨0,0,ufR 25::uT::uT::uT::utZ::uT::uT::ufI::uAB 11 [],[]⟩,⟨1,0,ufR 25::uT::uT::uT::utI::uT::uT::ufI::uAB 11 [],[]⟩]⟩
def jd (Q:uAC) (p s:List D):Option (Sum (List D) (List D)):=aP env (U1 Q) 60 12 201 (bb 201 2) S201_140_2 p s
theorem AZ (Q:uAC) (pd0:D) (pn1:Int) (sn0:Int):jd Q [pd0,(D.int pn1)] [(D.int sn0)] =
 let x0:=Q9 Q [ay pd0 sn0]
 let x1:=D.int pn1
 bif ab .lss sn0 pn1 then gd (aS pd0 sn0)<|gd (ap x0)<|bif aQ (ac x0 0)then ge pd0<|ge x1<|some (Sum.inr [.int 1,.int sn0])else ge pd0<|ge x1<|some (Sum.inl [.int (aM .add .i64 sn0 1)])else ge pd0<|ge x1<|some (Sum.inr [.int 0]):=by kernel_rfl
def xO:=by have h:= @AZ;simp only[aF,gd,am,ak,ao,au,ar,aE,aj]at h;exact h
def iw (Q:uAC):List D->uAC:=veil fun p s=>loW (jd Q p) s
theorem nz (Q:uAC):iw Q=fun p s=>loW (jd Q p) s:=ai _
def kR (Q:uAC):Tb:=Tb.addL (U1 Q) 201 2 S201_140_2.n0 (bQ S201_140_2 (iw Q))
theorem tS (Q:uAC) (hQ:aH env.P 86 S86 Q):TbOk env (kR Q):=aG (U2 Q hQ) 201 2 (by kernel_rfl) _ (nz Q)
def Hq:FunS:=⟨[utR 25,utS (.func 140 [] [])],[],[utI],[]⟩
def xP (Q:uAC):uAC:=aO env (kR Q) 60 12 201 Hq
theorem Hr (Q:uAC) (sd0:D):xP Q [sd0] =
 bif (ap (iw Q [sd0,(D.int (ae sd0))] [(D.int 0)]))then
  bif (ab BinOp.eql (ah (ac (iw Q [sd0,(D.int (ae sd0))] [(D.int 0)]) 0)) 0)then
   some [(D.int (-1))]
  else
   some [(D.int (ah (ac (iw Q [sd0,(D.int (ae sd0))] [(D.int 0)]) 1)))]
 else
  none:=by kernel_rfl
def pv (Q:uAC):uAC:=veil (xP Q)
theorem s5 (Q:uAC):pv Q=xP Q:=ai _
def q8 (Q:uAC):Tb:=Tb.addF (kR Q) 201 Hq (pv Q)
theorem DW (Q:uAC) (hQ:aH env.P 86 S86 Q):TbOk env (q8 Q):=aJ (tS Q hQ) 201 (by kernel_rfl) _ (s5 Q)
def Hs:FunS:=⟨[utR 25,utS (.func 140 [] [])],[],[utB],[]⟩
def xQ (Q:uAC):uAC:=aO env (q8 Q) 60 12 137 Hs
theorem Ht (Q:uAC) (sd0:D):xQ Q [sd0] =
 bif (ap (pv Q [sd0]))then
  some [(D.bool (ab BinOp.geq (ah (ac (pv Q [sd0]) 0)) 0))]
 else
  none:=by kernel_rfl
def pw (Q:uAC):uAC:=veil (xQ Q)
theorem s6 (Q:uAC):pw Q=xQ Q:=ai _
def q9 (Q:uAC):Tb:=Tb.addF (q8 Q) 137 Hs (pw Q)
theorem DX (Q:uAC) (hQ:aH env.P 86 S86 Q):TbOk env (q9 Q):=aJ (DW Q hQ) 137 (by kernel_rfl) _ (s6 Q)
def Fb86 (Q:uAC):uAC:=aO env (q9 Q) 60 12 86 S86
theorem Fb86_e (Q:uAC) (sd0:D):Fb86 Q [sd0] =
 let x0:=ah (aa sd0 0)
 let x1:=ah (aa sd0 1)
 let x2:=aB (aa sd0 2)
 let x3:=cI .eql x2 (ByteArray.mk #[])
 let x4:=ah (aa sd0 3)
 let x5:=ab .eql x4 0
 let x6:=ae (aa sd0 4)
 let x7:=ab .eql x6 0
 let x8:=aw (aw (aw (ab .eql x1 x1) x3 false) x5 false) x7 false
 let x9:=pw Q [aa sd0 4]
 let x10:=ap x9
 let x11:=bU (aQ (ac x9 0))
 let x12:=ab .eql x0 2
 let x13:=AX [.str x2]
 let x14:=ab .eql x1 0
 let x15:=aw (aw (aw x14 (cI .eql x2 x2) false) x5 false) x7 false
 let x16:=aw x14 x3 false
 let x17:=aw x16 x5 false
 let x18:=aw x17 (ab .eql x6 2) false
 let x19:=ab .eql x0 16
 let x20:=ab .eql x6 1
 let x21:=aw x17 x20 false
 let x22:=aw (ab .eql x4 1) true (ab .eql x4 2)
 let x23:=aw (ab .eql x0 18) (aw x22 true (ab .eql x4 4)) false
 let x24:=aw (aw x16 (ab .eql x4 x4) false) x20 false
 bif ab .eql x0 1 then gd (aw x8 x10 true)<|some [.bool (aw x8 x11 false)]else gd (aw x12 (ap x13) true)<|bif aw x12 (aQ (ac x13 0)) false then gd (aw x15 x10 true)<|some [.bool (aw x15 x11 false)]else bif aw (ab .geq x0 3) (ab .leq x0 15) false then gd (aw x18 x10 true)<|some [.bool (aw x18 x11 false)]else bif aw x19 x19 (ab .eql x0 17)then gd (aw x21 x10 true)<|some [.bool (aw x21 x11 false)]else bif aw x23 x23 (aw (ab .eql x0 19) x22 false)then gd (aw x24 x10 true)<|some [.bool (aw x24 x11 false)]else some [.bool false]:=by kernel_rfl
def Fb86_eq:=by have h:= @Fb86_e;simp only[aF,gd,am,ak,ao,au,ar,aE,aj]at h;exact h
def F86:Nat->uAC:=levels Fb86
theorem F86_s (n:Nat):F86 (n+1)=Fb86 (F86 n):=rfl
def q86:uAC:=veil fun ds=>F86 (aY ds) ds
theorem U3:q86=fun ds=>F86 (aY ds) ds:=ai _
theorem sound86:aH env.P 86 S86 q86:=gM (fun q=>q9 q) (fun q hq=>DX q hq) U3
def tb86:Tb:=Tb.addF tb85 86 S86 q86
theorem Oz:TbOk env tb86:=TbOk.addF Ox (by kernel_rfl) sound86
def Ra:FunS:=⟨[utD 25,utI],[],[utB],[]⟩
def Ln (Q:uAC):Tb:=Tb.addF tb86 105 Ra Q
theorem Rb (Q:uAC) (hQ:aH env.P 105 Ra Q):TbOk env (Ln Q):=TbOk.addF Oz (by kernel_rfl) hQ
def S105_4:LoopS:=⟨0,uF::ufI::ufP 0 0::uF::ufS (.lit (.bool false))::utI::uAA 17 [],[(.dat false 25)],[⟨0,0,uT::ufI::uT::uT::utS (.lit (.bool false))::uAB 18 [],[(.dat false 25)]⟩,⟨1,0,uT::ufI::uT::uT::utS (.lit (.bool true))::uAB 18 [],[(.dat false 25)]⟩]⟩
def uw (Q:uAC) (p s:List D):Option (Sum (List D) (List D)):=aP env (Ln Q) 60 12 105 (bb 105 4) S105_4 p s
theorem Rc (Q:uAC) (pn0:Int) (pd1:D) (sn0:Int):uw Q [(D.int pn0),pd1] [(D.int sn0)] =
 let x0:=aa pd1 4
 let x1:=Q [ay x0 sn0,.int (aM .sub .i64 pn0 1)]
 let x2:=D.int pn0
 bif ab .lss sn0 (ae x0)then gd (aS x0 sn0)<|gd (ap x1)<|bif aQ (ac x1 0)then ge x2<|ge pd1<|some (Sum.inr [.int 1])else ge x2<|ge pd1<|some (Sum.inl [.int (aM .add .i64 sn0 1)])else ge x2<|ge pd1<|some (Sum.inr [.int 0]):=by kernel_rfl
def Lo:=by have h:= @Rc;simp only[aF,gd,am,ak,ao,au,ar,aE,aj]at h;exact h
def DY (Q:uAC):List D->uAC:=veil fun p s=>loW (uw Q p) s
theorem BX (Q:uAC):DY Q=fun p s=>loW (uw Q p) s:=ai _
def xR (Q:uAC):Tb:=Tb.addL (Ln Q) 105 4 S105_4.n0 (bQ S105_4 (DY Q))
theorem Hu (Q:uAC) (hQ:aH env.P 105 Ra Q):TbOk env (xR Q):=aG (Rb Q hQ) 105 4 (by kernel_rfl) _ (BX Q)
def U4 (Q:uAC):uAC:=aO env (xR Q) 60 12 105 Ra
theorem U5 (Q:uAC) (sd0:D) (sn1:Int):U4 Q [sd0,(D.int sn1)] =
 bif (ab BinOp.leq sn1 0)then
  some [(D.bool Bool.true)]
 else
  bif (ap (DY Q [(D.int sn1),sd0] [(D.int 0)]))then
   bif (ab BinOp.eql (ah (ac (DY Q [(D.int sn1),sd0] [(D.int 0)]) 0)) 0)then
    some [(D.bool Bool.false)]
   else
    some [(D.bool Bool.true)]
  else
   none:=by kernel_rfl
def Hv:Nat->uAC:=levels U4
theorem F105_s (n:Nat):Hv (n+1)=U4 (Hv n):=rfl
def Rd:uAC:=veil fun ds=>Hv (aY ds) ds
theorem OA:Rd=fun ds=>Hv (aY ds) ds:=ai _
theorem U6:aH env.P 105 Ra Rd:=gM (fun q=>xR q) (fun q hq=>Hu q hq) OA
def U7:Tb:=Tb.addF tb86 105 Ra Rd
theorem Hw:TbOk env U7:=TbOk.addF Oz (by kernel_rfl) U6
def Re:FunS:=⟨[utD 25],[],[utB],[]⟩
def Lp (Q:uAC):Tb:=Tb.addF U7 106 Re Q
theorem Rf (Q:uAC) (hQ:aH env.P 106 Re Q):TbOk env (Lp Q):=TbOk.addF Hw (by kernel_rfl) hQ
def S106_25:LoopS:=⟨0,uF::ufP 0 0::ufS (.lit (.bool false))::uF::uF::utI::uAA 117 [],[(.dat false 25)],[⟨0,1,uT::uT::utS (.lit (.bool false))::uAB 120 [],[(.dat false 25)]⟩,⟨1,0,uT::uT::utS (.lit (.bool false))::uAB 120 [],[(.dat false 25)]⟩]⟩
def py (Q:uAC) (p s:List D):Option (Sum (List D) (List D)):=aP env (Lp Q) 60 12 106 (bb 106 25) S106_25 p s
theorem Lq (Q:uAC) (pd0:D) (sn0:Int):py Q [pd0] [(D.int sn0)] =
 let x0:=aa pd0 4
 let x1:=Q [ay x0 sn0]
 bif ab .lss sn0 (ae x0)then gd (aS x0 sn0)<|gd (ap x1)<|bif bU (aQ (ac x1 0))then ge pd0<|some (Sum.inr [.int 1])else ge pd0<|some (Sum.inl [.int (aM .add .i64 sn0 1)])else ge pd0<|some (Sum.inr [.int 0]):=by kernel_rfl
def Hx:=by have h:= @Lq;simp only[aF,gd,am,ak,ao,au,ar,aE,aj]at h;exact h
def DZ (Q:uAC):List D->uAC:=veil fun p s=>loW (py Q p) s
theorem xS (Q:uAC):DZ Q=fun p s=>loW (py Q p) s:=ai _
def re (Q:uAC):Tb:=Tb.addL (Lp Q) 106 25 S106_25.n0 (bQ S106_25 (DZ Q))
theorem D0 (Q:uAC) (hQ:aH env.P 106 Re Q):TbOk env (re Q):=aG (Rf Q hQ) 106 25 (by kernel_rfl) _ (xS Q)
def U8 (Q:uAC):uAC:=aO env (re Q) 60 12 106 Re
theorem Fb106_e (Q:uAC) (sd0:D):U8 Q [sd0] =
 let x0:=ah (aa sd0 0)
 let x1:=aB (aa sd0 2)
 let x2:=cI .neq x1 (ByteArray.mk #[])
 let x3:Option (List D):=some [.bool false]
 let x4:=ae (aa sd0 4)
 let x5:=ah (aa sd0 3)
 let x6:=ab .eql x0 18
 let x7:=ab .eql x0 19
 let x8:=aw (aw (ab .neq x5 0) true x6) true x7
 let x9:=DZ Q [sd0] [.int 0]
 let x10:Option (List D):=gd (ap x9)<|bif ab .eql (ah (ac x9 0)) 0 then some [.bool true]else x3
 let x11:Option (List D):=bif aw (ab .neq x4 0) true x8 then x3 else x10
 let x12:=DS [.str x1]
 let x13:=ab .neq (ah (aa sd0 1)) 0
 let x14:Option (List D):=bif aw x13 true x2 then x3 else x10
 let x15:=ab .neq x4 1
 let x16:=ab .eql x5 1
 let x17:Option (List D):=bif aw x15 true false then x3 else x14
 let x18:=ab .eql x5 2
 bif ab .eql x0 1 then bif x2 then x3 else x11 else bif ab .eql x0 2 then gd (ap x12)<|bif aw (bU (aQ (ac x12 0))) true x13 then x3 else x11 else bif aw (ab .geq x0 3) (ab .leq x0 15) false then bif aw (ab .neq x4 2) true x8 then x3 else x14 else bif aw (ab .eql x0 16) true (ab .eql x0 17)then bif aw x15 true x8 then x3 else x14 else bif x6 then bif x16 then x17 else bif x18 then x17 else bif aw x15 true (aw (bU (ab .eql x5 4)) x8 false)then x3 else x14 else bif x7 then bif x16 then x17 else bif aw x15 true (aw (bU x18) x8 false)then x3 else x14 else x3:=by kernel_rfl
def U9:=by have h:= @Fb106_e;simp only[aF,gd,am,ak,ao,au,ar,aE,aj]at h;exact h
def D1:Nat->uAC:=levels U8
theorem F106_s (n:Nat):D1 (n+1)=U8 (D1 n):=rfl
def Lr:uAC:=veil fun ds=>D1 (aY ds) ds
theorem OB:Lr=fun ds=>D1 (aY ds) ds:=ai _
theorem Va:aH env.P 106 Re Lr:=gM (fun q=>re q) (fun q hq=>D0 q hq) OB
def Vb:Tb:=Tb.addF U7 106 Re Lr
theorem Hy:TbOk env Vb:=TbOk.addF Hw (by kernel_rfl) Va
def Rg:FunS:=⟨[utD 25,utR 65],[],[utB],[]⟩
def Ls (Q:uAC):Tb:=Tb.addF Vb 107 Rg Q
theorem Rh (Q:uAC) (hQ:aH env.P 107 Rg Q):TbOk env (Ls Q):=TbOk.addF Hy (by kernel_rfl) hQ
def S107_4:LoopS:=⟨0,uF::ufR 65::ufP 0 0::uF::ufS (.lit (.bool false))::utI::uAA 22 [],[(.dat false 25)],[⟨0,0,uT::ufR 65::uT::uT::utS (.lit (.bool false))::uAB 23 [],[(.dat false 25)]⟩,⟨1,0,uT::ufR 65::uT::uT::utS (.lit (.bool false))::uAB 23 [],[(.dat false 25)]⟩]⟩
def ux (Q:uAC) (p s:List D):Option (Sum (List D) (List D)):=aP env (Ls Q) 60 12 107 (bb 107 4) S107_4 p s
theorem Ri (Q:uAC) (pd0:D) (pd1:D) (sn0:Int):ux Q [pd0,pd1] [(D.int sn0)] =
 let x0:=aa pd1 4
 let x1:=Q [ay x0 sn0,pd0]
 bif ab .lss sn0 (ae x0)then gd (aS x0 sn0)<|gd (ap x1)<|bif bU (aQ (ac x1 0))then ge pd0<|ge pd1<|some (Sum.inr [.int 1])else ge pd0<|ge pd1<|some (Sum.inl [.int (aM .add .i64 sn0 1)])else ge pd0<|ge pd1<|some (Sum.inr [.int 0]):=by kernel_rfl
def Lt:=by have h:= @Ri;simp only[aF,gd,am,ak,ao,au,ar,aE,aj]at h;exact h
def Lu (Q:uAC):List D->uAC:=veil fun p s=>loW (ux Q p) s
theorem BY (Q:uAC):Lu Q=fun p s=>loW (ux Q p) s:=ai _
def xU (Q:uAC):Tb:=Tb.addL (Ls Q) 107 4 S107_4.n0 (bQ S107_4 (Lu Q))
theorem Hz (Q:uAC) (hQ:aH env.P 107 Rg Q):TbOk env (xU Q):=aG (Rh Q hQ) 107 4 (by kernel_rfl) _ (BY Q)
def Vc (Q:uAC):uAC:=aO env (xU Q) 60 12 107 Rg
theorem Fb107_e (Q:uAC) (sd0:D) (sd1:D):Vc Q [sd0,sd1] =
 let x0:=Lm [sd1,.str (aB (aa sd0 2))]
 let x1:=Lu Q [sd1,sd0] [.int 0]
 bif ab .eql (ah (aa sd0 0)) 2 then gd (ap x0)<|some [.bool (aQ (ac x0 0))]else gd (ap x1)<|bif ab .eql (ah (ac x1 0)) 0 then some [.bool true]else some [.bool false]:=by kernel_rfl
def Vd:=by have h:= @Fb107_e;simp only[aF,gd,am,ak,ao,au,ar,aE,aj]at h;exact h
def D2:Nat->uAC:=levels Vc
theorem F107_s (n:Nat):D2 (n+1)=Vc (D2 n):=rfl
def Lv:uAC:=veil fun ds=>D2 (aY ds) ds
theorem OC:Lv=fun ds=>D2 (aY ds) ds:=ai _
theorem Ve:aH env.P 107 Rg Lv:=gM (fun q=>xU q) (fun q hq=>Hz q hq) OC
def Vf:Tb:=Tb.addF Vb 107 Rg Lv
theorem Vg:TbOk env Vf:=TbOk.addF Hy (by kernel_rfl) Ve
def S40_3:LoopS:=⟨0,uF::uF::ufN::ufO 0 65::uF::uF::ufR 9::ufI::utI::uAA 10 [],[(.lst true 65)],[⟨0,0,uT::uT::utN::utO 0 65::uT::uT::ufR 9::ufI::uAB 11 [],[(.lst true 65)]⟩]⟩
def D3 (p s:List D):Option (Sum (List D) (List D)):=aP env Vf 60 12 40 (bb 40 3) S40_3 p s
theorem Vh (pd0:D) (pn1:Int) (sn0:Int) (sd1:D):D3 [pd0,(D.int pn1)] [(D.int sn0),sd1] =
 let x0:=ab .eql (ae sd1) (ae sd1)
 let x1:=D.int 0
 let x2:=bG sd1 (.list [.agg [.str (aB (ay pd0 sn0)),.agg [x1,x1,x1,.list [],.list []]]])
 let x3:=ae x2
 bif ab .lss sn0 pn1 then gd (aS pd0 sn0)<|gd x0<|gd (cA x3 88)<|gd (ab .eql x3 x3)<|ge pd0<|ge (.int pn1)<|some (Sum.inl [.int (aM .add .i64 sn0 1),x2])else gd x0<|ge pd0<|ge (.int pn1)<|some (Sum.inr [x1,sd1]):=by kernel_rfl
def BZ:=by have h:= @Vh;simp only[aF,gd,am,ak,ao,au,ar,aE,aj]at h;exact h
def Vi:List D->uAC:=veil fun p s=>loW (D3 p) s
theorem HA:Vi=fun p s=>loW (D3 p) s:=ai _
def D4:Tb:=Tb.addL Vf 40 3 S40_3.n0 (bQ S40_3 (Vi))
theorem Lw:TbOk env (D4):=aG Vg 40 3 (by kernel_rfl) _ (HA)
def S40:FunS:=⟨[utR 9],[],[utR 65],[]⟩
def F40:uAC:=aO env D4 60 12 40 S40
theorem F40_e (sd0:D):F40 [sd0] =
 let x0:=Vi [sd0,.int (ae sd0)] [.int 0,.list []]
 gd (ab .eql 0 (ae (.list [])))<|gd (ap x0)<|gd (ab .eql (ae (ac x0 1)) (ae (ac x0 1)))<|some [ac x0 1]:=by kernel_rfl
def F40_eq:=by have h:= @F40_e;simp only[aF,gd,am,ak,ao,au,ar,aE,aj]at h;exact h
def q40:uAC:=veil (F40)
theorem Vj:q40=F40:=ai _
def tb40:Tb:=Tb.addF D4 40 S40 (q40)
theorem ok_tb40:TbOk env (tb40):=aJ Lw 40 (by kernel_rfl) _ (Vj)
def S44_3:LoopS:=⟨0,ufR 9::uF::ufN::ufO 0 65::utI::uAA 15 [],[(.lst true 65)],[⟨0,0,ufR 9::uT::utN::utO 0 65::uAB 16 [],[(.lst true 65)]⟩]⟩
def D5 (p s:List D):Option (Sum (List D) (List D)):=aP env tb40 60 12 44 (bb 44 3) S44_3 p s
theorem Vk (pd0:D) (sn0:Int) (sd1:D):D5 [pd0] [(D.int sn0),sd1] =
 let x0:=ab .eql (ae sd1) (ae sd1)
 let x1:=D.int 0
 let x2:=bG sd1 (.list [.agg [.str (aB (ay pd0 sn0)),.agg [x1,x1,x1,.list [],.list []]]])
 let x3:=ae x2
 bif ab .lss sn0 (ae pd0)then gd (aS pd0 sn0)<|gd x0<|gd (cA x3 88)<|gd (ab .eql x3 x3)<|ge pd0<|some (Sum.inl [.int (aM .add .i64 sn0 1),x2])else gd x0<|ge pd0<|some (Sum.inr [x1,sd1]):=by kernel_rfl
def B0:=by have h:= @Vk;simp only[aF,gd,am,ak,ao,au,ar,aE,aj]at h;exact h
def Vl:List D->uAC:=veil fun p s=>loW (D5 p) s
theorem HC:Vl=fun p s=>loW (D5 p) s:=ai _
def D6:Tb:=Tb.addL tb40 44 3 S44_3.n0 (bQ S44_3 (Vl))
theorem Lx:TbOk env (D6):=aG ok_tb40 44 3 (by kernel_rfl) _ (HC)
def S44:FunS:=⟨[utR 9],[],[utR 65],[]⟩
def F44:uAC:=aO env D6 60 12 44 S44
theorem F44_e (sd0:D):F44 [sd0] =
 let x0:=Vl [sd0] [.int 0,.list []]
 gd (ab .eql 0 (ae (.list [])))<|gd (ap x0)<|gd (ab .eql (ae (ac x0 1)) (ae (ac x0 1)))<|some [ac x0 1]:=by kernel_rfl
def F44_eq:=by have h:= @F44_e;simp only[aF,gd,am,ak,ao,au,ar,aE,aj]at h;exact h
def q44:uAC:=veil (F44)
theorem Vm:q44=F44:=ai _
def tb44:Tb:=Tb.addF D6 44 S44 (q44)
theorem OD:TbOk env (tb44):=aJ Lx 44 (by kernel_rfl) _ (Vm)
def S38:FunS:=⟨[utD 25,utI,utI],[],[utI],[]⟩
def Vn (Q:uAC):Tb:=Tb.addF tb44 38 S38 Q
theorem Vo (Q:uAC) (hQ:aH env.P 38 S38 Q):TbOk env (Vn Q):=TbOk.addF OD (by kernel_rfl) hQ
def S38_5:LoopS:=⟨0,uF::ufI::uF::ufP 0 0::uF::uF::ufZ::utI::utI::uAA 35 [],[(.dat false 25)],[⟨0,0,uT::ufI::uT::uT::uT::uT::utZ::utI::uAB 36 [],[(.dat false 25)]⟩]⟩
def D7 (Q:uAC) (p s:List D):Option (Sum (List D) (List D)):=aP env (Vn Q) 60 12 38 (bb 38 5) S38_5 p s
theorem Vp (Q:uAC) (pn0:Int) (pd1:D) (sn0:Int) (sn1:Int):D7 Q [(D.int pn0),pd1] [(D.int sn0),(D.int sn1)] =
 let x0:=aa pd1 4
 let x1:=Q [ay x0 sn1,.int (aM .sub .i64 pn0 1),.int sn0]
 bif aw (ab .lss sn1 (ae x0)) (ab .geq sn0 0) false then gd (aS x0 sn1)<|gd (ap x1)<|ge (.int pn0)<|ge pd1<|some (Sum.inl [.int (ah (ac x1 0)),.int (aM .add .i64 sn1 1)])else ge (.int pn0)<|ge pd1<|some (Sum.inr [.int 0,.int sn0]):=by kernel_rfl
def Rj:=by have h:= @Vp;simp only[aF,gd,am,ak,ao,au,ar,aE,aj]at h;exact h
def OE (Q:uAC):List D->uAC:=veil fun p s=>loW (D7 Q p) s
theorem HD (Q:uAC):OE Q=fun p s=>loW (D7 Q p) s:=ai _
def D8 (Q:uAC):Tb:=Tb.addL (Vn Q) 38 5 S38_5.n0 (bQ S38_5 (OE Q))
theorem Ly (Q:uAC) (hQ:aH env.P 38 S38 Q):TbOk env (D8 Q):=aG (Vo Q hQ) 38 5 (by kernel_rfl) _ (HD Q)
def Fb38 (Q:uAC):uAC:=aO env (D8 Q) 60 12 38 S38
theorem Fb38_eq (Q:uAC) (sd0:D) (sn1:Int) (sn2:Int):Fb38 Q [sd0,(D.int sn1),(D.int sn2)] =
 bif (aw (aw (ab BinOp.lss sn1 1) Bool.true (ab BinOp.lss sn2 1)) Bool.true (ab BinOp.gtr (ae (aa sd0 4)) 4))then
  some [(D.int (-1))]
 else
  bif (ap (OE Q [(D.int sn1),sd0] [(D.int (aM BinOp.sub IntKind.i64 sn2 1)),(D.int 0)]))then
   some [(D.int (ah (ac (OE Q [(D.int sn1),sd0] [(D.int (aM BinOp.sub IntKind.i64 sn2 1)),(D.int 0)]) 1)))]
  else
   none:=by kernel_rfl
def F38:Nat->uAC:=levels Fb38
theorem F38_s (n:Nat):F38 (n+1)=Fb38 (F38 n):=rfl
def q38:uAC:=veil fun ds=>F38 (aY ds) ds
theorem Vq:q38=fun ds=>F38 (aY ds) ds:=ai _
theorem sound38:aH env.P 38 S38 q38:=gM (fun q=>D8 q) (fun q hq=>Ly q hq) Vq
def tb38:Tb:=Tb.addF tb44 38 S38 q38
theorem ok_tb38:TbOk env tb38:=TbOk.addF OD (by kernel_rfl) sound38
def HE:FunS:=⟨[utD 65,utS (.eptr [.str])],[],[utB],[]⟩
def xV:uAC:=aO env tb38 60 12 144 HE
theorem HF (sd0:D) (ss1:ByteArray):xV [sd0,(D.str ss1)] =
 some [(D.bool (cI BinOp.eql (aB (aa sd0 0)) ss1))]:=by kernel_rfl
def pz:uAC:=veil (xV)
theorem s7:pz=xV:=ai _
def rf:Tb:=Tb.addF tb38 144 HE (pz)
theorem D9:TbOk env (rf):=aJ ok_tb38 144 (by kernel_rfl) _ (s7)
def S203_144_2:LoopS:=⟨0,ufR 65::ufS (.func 144 [] [(.eptr [.str])])::uF::uF::ufZ::uF::uF::ufI::utI::uAA 10 [],[],[⟨0,0,ufR 65::ufS (.func 144 [] [(.eptr [.str])])::uT::uT::utZ::uT::uT::ufI::uAB 11 [],[]⟩,⟨1,0,ufR 65::ufS (.func 144 [] [(.eptr [.str])])::uT::uT::utI::uT::uT::ufI::uAB 11 [],[]⟩]⟩
def je (p s:List D):Option (Sum (List D) (List D)):=aP env rf 60 12 203 (bb 203 2) S203_144_2 p s
theorem A0 (pd0:D) (ps1:ByteArray) (pn2:Int) (sn0:Int):je [pd0,(D.str ps1),(D.int pn2)] [(D.int sn0)] =
 let x0:=D.str ps1
 let x1:=pz [ay pd0 sn0,x0]
 let x2:=D.int pn2
 bif ab .lss sn0 pn2 then gd (aS pd0 sn0)<|gd (ap x1)<|bif aQ (ac x1 0)then ge pd0<|ge x0<|ge x2<|some (Sum.inr [.int 1,.int sn0])else ge pd0<|ge x0<|ge x2<|some (Sum.inl [.int (aM .add .i64 sn0 1)])else ge pd0<|ge x0<|ge x2<|some (Sum.inr [.int 0]):=by kernel_rfl
def xW:=by have h:= @A0;simp only[aF,gd,am,ak,ao,au,ar,aE,aj]at h;exact h
def iy:List D->uAC:=veil fun p s=>loW (je p) s
theorem nA:iy=fun p s=>loW (je p) s:=ai _
def kS:Tb:=Tb.addL rf 203 2 S203_144_2.n0 (bQ S203_144_2 (iy))
theorem tT:TbOk env (kS):=aG D9 203 2 (by kernel_rfl) _ (nA)
def HG:FunS:=⟨[utR 65,utS (.func 144 [] [(.eptr [.str])])],[],[utI],[]⟩
def xX:uAC:=aO env kS 60 12 203 HG
theorem HH (sd0:D) (ss1:ByteArray):xX [sd0,(D.str ss1)] =
 bif (ap (iy [sd0,(D.str ss1),(D.int (ae sd0))] [(D.int 0)]))then
  bif (ab BinOp.eql (ah (ac (iy [sd0,(D.str ss1),(D.int (ae sd0))] [(D.int 0)]) 0)) 0)then
   some [(D.int (-1))]
  else
   some [(D.int (ah (ac (iy [sd0,(D.str ss1),(D.int (ae sd0))] [(D.int 0)]) 1)))]
 else
  none:=by kernel_rfl
def pA:uAC:=veil (xX)
theorem s8:pA=xX:=ai _
def rg:Tb:=Tb.addF kS 203 HG (pA)
theorem Ea:TbOk env (rg):=aJ tT 203 (by kernel_rfl) _ (s8)
def HI:FunS:=⟨[utR 65,utS (.func 144 [] [(.eptr [.str])])],[],[utB],[]⟩
def xY:uAC:=aO env rg 60 12 143 HI
theorem HJ (sd0:D) (ss1:ByteArray):xY [sd0,(D.str ss1)] =
 bif (ap (pA [sd0,(D.str ss1)]))then
  some [(D.bool (ab BinOp.geq (ah (ac (pA [sd0,(D.str ss1)]) 0)) 0))]
 else
  none:=by kernel_rfl
def pB:uAC:=veil (xY)
theorem s9:pB=xY:=ai _
def rj:Tb:=Tb.addF rg 143 HI (pB)
theorem Eb:TbOk env (rj):=aJ Ea 143 (by kernel_rfl) _ (s9)
def S142:FunS:=⟨[⟨true, .str⟩,utS (.eptr [(.rows 65)])],[],[utB],[]⟩
def F142:uAC:=aO env rj 60 12 142 S142
theorem F142_eq (ss0:ByteArray) (sd1:D):F142 [(D.str ss0),sd1] =
 bif (ap (pB [sd1,(D.str ss0)]))then
  some [(D.bool (aQ (ac (pB [sd1,(D.str ss0)]) 0)))]
 else
  none:=by kernel_rfl
def Rk:uAC:=veil (F142)
theorem OF:Rk=F142:=ai _
def Vr:Tb:=Tb.addF rj 142 S142 (Rk)
theorem HK:TbOk env (Vr):=aJ Eb 142 (by kernel_rfl) _ (OF)
def S87:FunS:=⟨[utD 25,utS (.func 142 [] [(.eptr [(.rows 65)])])],[],[utB],[]⟩
def Vs (Q:uAC):Tb:=Tb.addF Vr 87 S87 Q
theorem Vt (Q:uAC) (hQ:aH env.P 87 S87 Q):TbOk env (Vs Q):=TbOk.addF HK (by kernel_rfl) hQ
def HL:FunS:=⟨[utD 25,utS (.eptr [(.func 142 [] [(.eptr [(.rows 65)])])])],[],[utB],[]⟩
def xZ (Q:uAC):uAC:=aO env (Vs Q) 60 12 141 HL
theorem HM (Q:uAC) (sd0:D) (sd1:D):xZ Q [sd0,sd1] =
 bif (ap (Q [sd0,sd1]))then
  some [(D.bool (bU (aQ (ac (Q [sd0,sd1]) 0))))]
 else
  none:=by kernel_rfl
def j9 (Q:uAC):uAC:=veil (xZ Q)
theorem ta (Q:uAC):j9 Q=xZ Q:=ai _
def rn (Q:uAC):Tb:=Tb.addF (Vs Q) 141 HL (j9 Q)
theorem Ed (Q:uAC) (hQ:aH env.P 87 S87 Q):TbOk env (rn Q):=aJ (Vt Q hQ) 141 (by kernel_rfl) _ (ta Q)
def S201_141_2:LoopS:=⟨0,ufR 25::⟨false,(.func 141 [] [(.eptr [(.func 142 [] [(.eptr [(.rows 65)])])])])⟩::uF::uF::ufZ::uF::uF::ufI::utI::uAA 10 [],[],[⟨0,0,ufR 25::⟨false,(.func 141 [] [(.eptr [(.func 142 [] [(.eptr [(.rows 65)])])])])⟩::uT::uT::utZ::uT::uT::ufI::uAB 11 [],[]⟩,⟨1,0,ufR 25::⟨false,(.func 141 [] [(.eptr [(.func 142 [] [(.eptr [(.rows 65)])])])])⟩::uT::uT::utI::uT::uT::ufI::uAB 11 [],[]⟩]⟩
def jf (Q:uAC) (p s:List D):Option (Sum (List D) (List D)):=aP env (rn Q) 60 12 201 (bb 201 2) S201_141_2 p s
theorem A1 (Q:uAC) (pd0:D) (pd1:D) (pn2:Int) (sn0:Int):jf Q [pd0,pd1,(D.int pn2)] [(D.int sn0)] =
 let x0:=j9 Q [ay pd0 sn0,pd1]
 let x1:=D.int pn2
 bif ab .lss sn0 pn2 then gd (aS pd0 sn0)<|gd (ap x0)<|bif aQ (ac x0 0)then ge pd0<|ge pd1<|ge x1<|some (Sum.inr [.int 1,.int sn0])else ge pd0<|ge pd1<|ge x1<|some (Sum.inl [.int (aM .add .i64 sn0 1)])else ge pd0<|ge pd1<|ge x1<|some (Sum.inr [.int 0]):=by kernel_rfl
def ya:=by have h:= @A1;simp only[aF,gd,am,ak,ao,au,ar,aE,aj]at h;exact h
def iz (Q:uAC):List D->uAC:=veil fun p s=>loW (jf Q p) s
theorem nB (Q:uAC):iz Q=fun p s=>loW (jf Q p) s:=ai _
def kU (Q:uAC):Tb:=Tb.addL (rn Q) 201 2 S201_141_2.n0 (bQ S201_141_2 (iz Q))
theorem tU (Q:uAC) (hQ:aH env.P 87 S87 Q):TbOk env (kU Q):=aG (Ed Q hQ) 201 2 (by kernel_rfl) _ (nB Q)
def HN:FunS:=⟨[utR 25,⟨true,(.func 141 [] [(.eptr [(.func 142 [] [(.eptr [(.rows 65)])])])])⟩],[],[utI],[]⟩
def yb (Q:uAC):uAC:=aO env (kU Q) 60 12 201 HN
theorem HO (Q:uAC) (sd0:D) (sd1:D):yb Q [sd0,sd1] =
 bif (ap (iz Q [sd0,sd1,(D.int (ae sd0))] [(D.int 0)]))then
  bif (ab BinOp.eql (ah (ac (iz Q [sd0,sd1,(D.int (ae sd0))] [(D.int 0)]) 0)) 0)then
   some [(D.int (-1))]
  else
   some [(D.int (ah (ac (iz Q [sd0,sd1,(D.int (ae sd0))] [(D.int 0)]) 1)))]
 else
  none:=by kernel_rfl
def pC (Q:uAC):uAC:=veil (yb Q)
theorem tc (Q:uAC):pC Q=yb Q:=ai _
def ro (Q:uAC):Tb:=Tb.addF (kU Q) 201 HN (pC Q)
theorem Ee (Q:uAC) (hQ:aH env.P 87 S87 Q):TbOk env (ro Q):=aJ (tU Q hQ) 201 (by kernel_rfl) _ (tc Q)
def HP:FunS:=⟨[utR 25,⟨true,(.func 141 [] [(.eptr [(.func 142 [] [(.eptr [(.rows 65)])])])])⟩],[],[utB],[]⟩
def yc (Q:uAC):uAC:=aO env (ro Q) 60 12 137 HP
theorem HQ (Q:uAC) (sd0:D) (sd1:D):yc Q [sd0,sd1] =
 bif (ap (pC Q [sd0,sd1]))then
  some [(D.bool (ab BinOp.geq (ah (ac (pC Q [sd0,sd1]) 0)) 0))]
 else
  none:=by kernel_rfl
def pD (Q:uAC):uAC:=veil (yc Q)
theorem te (Q:uAC):pD Q=yc Q:=ai _
def rp (Q:uAC):Tb:=Tb.addF (ro Q) 137 HP (pD Q)
theorem Ef (Q:uAC) (hQ:aH env.P 87 S87 Q):TbOk env (rp Q):=aJ (Ee Q hQ) 137 (by kernel_rfl) _ (te Q)
def Fb87 (Q:uAC):uAC:=aO env (rp Q) 60 12 87 S87
theorem Fb87_e (Q:uAC) (sd0:D) (sd1:D):Fb87 Q [sd0,sd1] =
 let x0:=Rk [.str (aB (aa sd0 2)),sd1]
 let x1:=pD Q [aa sd0 4,sd1]
 let x2:Option (List D):=gd (ap x1)<|some [.bool (bU (aQ (ac x1 0)))]
 bif ab .eql (ah (aa sd0 0)) 2 then gd (ap x0)<|bif bU (aQ (ac x0 0))then some [.bool false]else x2 else x2:=by kernel_rfl
def Fb87_eq:=by have h:= @Fb87_e;simp only[aF,gd,am,ak,ao,au,ar,aE,aj]at h;exact h
def F87:Nat->uAC:=levels Fb87
theorem F87_s (n:Nat):F87 (n+1)=Fb87 (F87 n):=rfl
def q87:uAC:=veil fun ds=>F87 (aY ds) ds
theorem Vu:q87=fun ds=>F87 (aY ds) ds:=ai _
theorem sound87:aH env.P 87 S87 q87:=gM (fun q=>rp q) (fun q hq=>Ef q hq) Vu
def tb87:Tb:=Tb.addF Vr 87 S87 q87
theorem OG:TbOk env tb87:=TbOk.addF HK (by kernel_rfl) sound87
def Lz:FunS:=⟨[utD 63,utI],[],[utB],[]⟩
def LA (Q:uAC):Tb:=Tb.addF tb87 237 Lz Q
theorem Rl (Q:uAC) (hQ:aH env.P 237 Lz Q):TbOk env (LA Q):=TbOk.addF OG (by kernel_rfl) hQ
def S237_4:LoopS:=⟨0,uF::ufI::ufP 0 0::uF::ufS (.lit (.bool false))::uAA 7 (ufR 63::ufI::utI::uAA 23 []),[(.dat false 63)],[⟨0,0,uT::ufI::utP 0 0::uT::utS (.lit (.bool false))::uAB 7 (ufR 63::ufI::uAB 24 []),[(.dat false 63)]⟩,⟨1,0,uT::ufI::uT::uT::utS (.lit (.bool false))::uAB 7 (ufR 63::ufI::uAB 24 []),[(.dat false 63)]⟩]⟩
def uy (Q:uAC) (p s:List D):Option (Sum (List D) (List D)):=aP env (LA Q) 60 12 237 (bb 237 4) S237_4 p s
theorem Rm (Q:uAC) (pn0:Int) (pd1:D) (pn2:Int) (pd3:D) (sn0:Int):uy Q [(D.int pn0),pd1,(D.int pn2),pd3] [(D.int sn0)] =
 let x0:=Q [ay pd1 sn0,.int (aM .sub .i64 pn0 1)]
 let x1:=D.int pn0
 let x2:=D.int pn2
 bif ab .lss sn0 pn2 then gd (aS pd1 sn0)<|gd (ap x0)<|bif bU (aQ (ac x0 0))then ge x1<|ge pd1<|ge x2<|ge pd3<|some (Sum.inr [.int 1])else ge x1<|ge pd1<|ge x2<|ge pd3<|some (Sum.inl [.int (aM .add .i64 sn0 1)])else ge x1<|ge pd1<|ge x2<|ge pd3<|some (Sum.inr [.int 0]):=by kernel_rfl
def LC:=by have h:= @Rm;simp only[aF,gd,am,ak,ao,au,ar,aE,aj]at h;exact h
def LD (Q:uAC):List D->uAC:=veil fun p s=>loW (uy Q p) s
theorem B1 (Q:uAC):LD Q=fun p s=>loW (uy Q p) s:=ai _
def yd (Q:uAC):Tb:=Tb.addL (LA Q) 237 4 S237_4.n0 (bQ S237_4 (LD Q))
theorem HR (Q:uAC) (hQ:aH env.P 237 Lz Q):TbOk env (yd Q):=aG (Rl Q hQ) 237 4 (by kernel_rfl) _ (B1 Q)
def S237_10:LoopS:=⟨0,uF::ufI::uF::uF::ufS (.lit (.bool false))::uAA 20 (ufR 267::ufI::utI::uAA 10 []),[],[⟨0,2,uT::ufI::uT::uT::utS (.lit (.bool false))::uAB 20 (ufR 267::ufI::uAB 11 []),[]⟩,⟨1,0,uT::ufI::uT::uT::utS (.lit (.bool false))::uAB 20 (ufR 267::ufI::uAB 11 []),[]⟩]⟩
def pE (Q:uAC) (p s:List D):Option (Sum (List D) (List D)):=aP env (yd Q) 60 12 237 (bb 237 10) S237_10 p s
theorem LE (Q:uAC) (pn0:Int) (pd1:D) (pn2:Int) (sn0:Int):pE Q [(D.int pn0),pd1,(D.int pn2)] [(D.int sn0)] =
 let x0:=aa (ay pd1 sn0) 1
 let x1:=Q [.agg [.int (ah (aa x0 0)),.int (ah (aa x0 1)),.int (ah (aa x0 2)),aa x0 3,aa x0 4],.int (aM .sub .i64 pn0 1)]
 let x2:=D.int pn0
 let x3:=D.int pn2
 bif ab .lss sn0 pn2 then gd (aS pd1 sn0)<|gd (ap x1)<|bif bU (aQ (ac x1 0))then ge x2<|ge pd1<|ge x3<|some (Sum.inr [.int 1])else ge x2<|ge pd1<|ge x3<|some (Sum.inl [.int (aM .add .i64 sn0 1)])else ge x2<|ge pd1<|ge x3<|some (Sum.inr [.int 0]):=by kernel_rfl
def HS:=by have h:= @LE;simp only[aF,gd,am,ak,ao,au,ar,aE,aj]at h;exact h
def Eg (Q:uAC):List D->uAC:=veil fun p s=>loW (pE Q p) s
theorem ye (Q:uAC):Eg Q=fun p s=>loW (pE Q p) s:=ai _
def rq (Q:uAC):Tb:=Tb.addL (yd Q) 237 10 S237_10.n0 (bQ S237_10 (Eg Q))
theorem Eh (Q:uAC) (hQ:aH env.P 237 Lz Q):TbOk env (rq Q):=aG (HR Q hQ) 237 10 (by kernel_rfl) _ (ye Q)
def Vv (Q:uAC):uAC:=aO env (rq Q) 60 12 237 Lz
theorem Fb237_e (Q:uAC) (sd0:D) (sn1:Int):Vv Q [sd0,(D.int sn1)] =
 let x0:Option (List D):=some [.bool false]
 let x1:=LD Q [.int sn1,aa sd0 3,.int (ae (aa sd0 3)),sd0] [.int 0]
 let x2:=Eg Q [.int sn1,aa sd0 4,.int (ae (aa sd0 4))] [.int 0]
 bif ab .lss sn1 1 then x0 else gd (ap x1)<|bif ab .eql (ah (ac x1 0)) 0 then gd (ap x2)<|bif ab .eql (ah (ac x2 0)) 0 then some [.bool true]else x0 else x0:=by kernel_rfl
def Vw:=by have h:= @Fb237_e;simp only[aF,gd,am,ak,ao,au,ar,aE,aj]at h;exact h
def yf:Nat->uAC:=levels Vv
theorem F237_s (n:Nat):yf (n+1)=Vv (yf n):=rfl
def q237:uAC:=veil fun ds=>yf (aY ds) ds
theorem OH:q237=fun ds=>yf (aY ds) ds:=ai _
theorem Vx:aH env.P 237 Lz q237:=gM (fun q=>rq q) (fun q hq=>Eh q hq) OH
def Vy:Tb:=Tb.addF tb87 237 Lz q237
theorem HU:TbOk env Vy:=TbOk.addF OG (by kernel_rfl) Vx
def Rn:FunS:=⟨[utD 63],[],[utB],[]⟩
def LF (Q:uAC):Tb:=Tb.addF Vy 238 Rn Q
theorem Ro (Q:uAC) (hQ:aH env.P 238 Rn Q):TbOk env (LF Q):=TbOk.addF HU (by kernel_rfl) hQ
def S238_23:LoopS:=⟨0,uF::ufP 0 0::ufS (.lit (.bool false))::uF::ufI::uAA 79 (ufR 267::ufI::utI::uAA 44 []),[(.dat false 63)],[⟨0,1,uT::utP 0 0::utS (.lit (.bool false))::uT::ufI::uAB 79 (ufR 267::ufI::uAB 45 []),[(.dat false 63)]⟩,⟨1,0,uT::uT::utS (.lit (.bool false))::uT::ufI::uAB 79 (ufR 267::ufI::uAB 45 []),[(.dat false 63)]⟩]⟩
def pF (Q:uAC) (p s:List D):Option (Sum (List D) (List D)):=aP env (LF Q) 60 12 238 (bb 238 23) S238_23 p s
theorem LG (Q:uAC) (pn0:Int) (pd1:D) (pn2:Int) (pd3:D) (sn0:Int):pF Q [(D.int pn0),pd1,(D.int pn2),pd3] [(D.int sn0)] =
 let x0:=ay pd1 sn0
 let x1:=ah (aa x0 0)
 let x2:=D.int pn0
 let x3:=D.int pn2
 let x4:Option (List D ⊕ List D):=ge x2<|ge pd1<|ge x3<|ge pd3<|some (Sum.inr [.int 1])
 let x5:=aM .sub .i64 sn0 1
 let x6:=aa x0 1
 let x7:=Q [.agg [.int (ah (aa x6 0)),.int (ah (aa x6 1)),.int (ah (aa x6 2)),aa x6 3,aa x6 4]]
 let x8:Option (List D ⊕ List D):=gd (ap x7)<|bif bU (aQ (ac x7 0))then x4 else ge x2<|ge pd1<|ge x3<|ge pd3<|some (Sum.inl [.int (aM .add .i64 sn0 1)])
 bif ab .lss sn0 pn2 then gd (aS pd1 sn0)<|bif ab .lss x1 0 then x4 else bif ab .geq x1 65536 then x4 else bif ab .gtr sn0 0 then gd (aS (aa pd3 4) x5)<|bif ab .leq x1 (ah (aa (ay (aa pd3 4) x5) 0))then x4 else x8 else x8 else ge x2<|ge pd1<|ge x3<|ge pd3<|some (Sum.inr [.int 0]):=by kernel_rfl
def tf:=by have h:= @LG;simp only[aF,gd,am,ak,ao,au,ar,aE,aj]at h;exact h
def uz (Q:uAC):List D->uAC:=veil fun p s=>loW (pF Q p) s
theorem yg (Q:uAC):uz Q=fun p s=>loW (pF Q p) s:=ai _
def rt (Q:uAC):Tb:=Tb.addL (LF Q) 238 23 S238_23.n0 (bQ S238_23 (uz Q))
theorem Ei (Q:uAC) (hQ:aH env.P 238 Rn Q):TbOk env (rt Q):=aG (Ro Q hQ) 238 23 (by kernel_rfl) _ (yg Q)
def Vz (Q:uAC):uAC:=aO env (rt Q) 60 12 238 Rn
theorem Fb238_e (Q:uAC) (sd0:D):Vz Q [sd0] =
 let x0:=ah (aa sd0 0)
 let x1:=ab .eql x0 0
 let x2:=ab .eql x0 6
 let x3:=ab .eql x0 5
 let x4:=ah (aa sd0 1)
 let x5:=ab .neq x4 0
 let x6:=ah (aa sd0 2)
 let x7:=ab .neq x6 0
 let x8:=aw x5 true x7
 let x9:=aa sd0 3
 let x10:=ab .neq (ae x9) 0
 let x11:=aa sd0 4
 let x12:=aw (bU x3) (ab .gtr (ae x11) 0) false
 let x13:Option (List D):=some [.bool false]
 let x14:=uz Q [.int 0,x11,.int (ae x11),sd0] [.int 0]
 let x15:=ab .eql 0 0
 let x16:=Q [ay x9 0]
 let x17:=ci (aS x9 0) (ap x16)
 let x18:=aQ (ac x16 0)
 let x19:Option (List D):=gd (ap x14)<|bif ab .eql (ah (ac x14 0)) 0 then gd (aw x15 true x17)<|some [.bool (aw x15 true x18)]else x13
 let x20:=ab .eql x0 1
 let x21:=ab .neq (ae x9) 1
 let x22:=uz Q [.int 1,x11,.int (ae x11),sd0] [.int 0]
 let x23:=ab .eql 1 0
 let x24:Option (List D):=gd (ap x22)<|bif ab .eql (ah (ac x22 0)) 0 then gd (aw x23 true x17)<|some [.bool (aw x23 true x18)]else x13
 bif aw x1 x1 (aw x2 x2 x3)then bif aw (aw x8 true x10) true x12 then x13 else x19 else bif aw x20 x20 (ab .eql x0 2)then bif aw (aw (ab .neq x4 1) (ab .neq x4 2) false) (ab .neq x4 4) false then x13 else bif aw (aw (aw (ab .neq x4 x4) true x7) true x10) true x12 then x13 else x19 else bif ab .eql x0 3 then bif aw (aw x8 true x21) true x12 then x13 else x24 else bif ab .eql x0 4 then bif aw (ab .lss x6 1) true (ab .gtr x6 65536)then x13 else bif aw (aw (aw x5 true (ab .neq x6 x6)) true x21) true x12 then x13 else x24 else x13:=by kernel_rfl
def VA:=by have h:= @Fb238_e;simp only[aF,gd,am,ak,ao,au,ar,aE,aj]at h;exact h
def HV:Nat->uAC:=levels Vz
theorem F238_s (n:Nat):HV (n+1)=Vz (HV n):=rfl
def q238:uAC:=veil fun ds=>HV (aY ds) ds
theorem OI:q238=fun ds=>HV (aY ds) ds:=ai _
theorem VB:aH env.P 238 Rn q238:=gM (fun q=>rt q) (fun q hq=>Ei q hq) OI
def VC:Tb:=Tb.addF Vy 238 Rn q238
theorem HW:TbOk env VC:=TbOk.addF HU (by kernel_rfl) VB
def Rp:FunS:=⟨[utD 63],[],[utI],[]⟩
def LH (Q:uAC):Tb:=Tb.addF VC 259 Rp Q
theorem Rq (Q:uAC) (hQ:aH env.P 259 Rp Q):TbOk env (LH Q):=TbOk.addF HW (by kernel_rfl) hQ
def S259_12:LoopS:=⟨0,uF::uF::ufZ::utI::uAA 24 (ufR 267::ufI::utI::uAA 14 []),[],[⟨0,1,uT::uT::utZ::utI::uAB 24 (ufR 267::ufI::uAB 15 []),[]⟩]⟩
def pG (Q:uAC) (p s:List D):Option (Sum (List D) (List D)):=aP env (LH Q) 60 12 259 (bb 259 12) S259_12 p s
theorem LI (Q:uAC) (pd0:D) (pn1:Int) (sn0:Int) (sn1:Int):pG Q [pd0,(D.int pn1)] [(D.int sn0),(D.int sn1)] =
 let x0:=ay pd0 sn1
 let x1:=aa x0 1
 let x2:=Q [.agg [.int (ah (aa x1 0)),.int (ah (aa x1 1)),.int (ah (aa x1 2)),aa x1 3,aa x1 4]]
 bif ab .lss sn1 pn1 then gd (aS pd0 sn1)<|gd (ap x2)<|ge pd0<|ge (.int pn1)<|some (Sum.inl [.int (qmm .gtr sn0 (aM .add .i64 (ah (aa x0 0)) (ah (ac x2 0)))),.int (aM .add .i64 sn1 1)])else ge pd0<|ge (.int pn1)<|some (Sum.inr [.int 0,.int sn0]):=by kernel_rfl
def tg:=by have h:= @LI;simp only[aF,gd,am,ak,ao,au,ar,aE,aj]at h;exact h
def Ej (Q:uAC):List D->uAC:=veil fun p s=>loW (pG Q p) s
theorem yh (Q:uAC):Ej Q=fun p s=>loW (pG Q p) s:=ai _
def rz (Q:uAC):Tb:=Tb.addL (LH Q) 259 12 S259_12.n0 (bQ S259_12 (Ej Q))
theorem Ek (Q:uAC) (hQ:aH env.P 259 Rp Q):TbOk env (rz Q):=aG (Rq Q hQ) 259 12 (by kernel_rfl) _ (yh Q)
def VD (Q:uAC):uAC:=aO env (rz Q) 60 12 259 Rp
theorem Fb259_e (Q:uAC) (sd0:D):VD Q [sd0] =
 let x0:=ah (aa sd0 0)
 let x1:=ab .eql x0 1
 let x2:=Q [ay (aa sd0 3) 0]
 let x3:=D.int 0
 let x4:=Ej Q [aa sd0 4,.int (ae (aa sd0 4))] [x3,x3]
 bif aw x1 x1 (ab .eql x0 2)then some [.int (qmm .lss (ah (aa sd0 1)) 65537)]else bif ab .eql x0 3 then some [.int 4]else bif ab .eql x0 4 then gd (aS (aa sd0 3) 0)<|gd (ap x2)<|some [.int (qmm .lss (aM .mul .i64 (ah (aa sd0 2)) (ah (ac x2 0))) 65537)]else bif ab .eql x0 5 then gd (ap x4)<|some [.int (qmm .lss (ah (ac x4 1)) 65537)]else some [x3]:=by kernel_rfl
def VE:=by have h:= @Fb259_e;simp only[aF,gd,am,ak,ao,au,ar,aE,aj]at h;exact h
def HX:Nat->uAC:=levels VD
theorem F259_s (n:Nat):HX (n+1)=VD (HX n):=rfl
def VF:uAC:=veil fun ds=>HX (aY ds) ds
theorem OJ:VF=fun ds=>HX (aY ds) ds:=ai _
theorem VG:aH env.P 259 Rp VF:=gM (fun q=>rz q) (fun q hq=>Ek q hq) OJ
def VH:Tb:=Tb.addF VC 259 Rp VF
theorem HY:TbOk env VH:=TbOk.addF HW (by kernel_rfl) VG
def Rr:FunS:=⟨[utD 63],[],[utB],[]⟩
def LJ (Q:uAC):Tb:=Tb.addF VH 239 Rr Q
theorem Rs (Q:uAC) (hQ:aH env.P 239 Rr Q):TbOk env (LJ Q):=TbOk.addF HY (by kernel_rfl) hQ
def S239_4:LoopS:=⟨0,uF::ufP 0 0::ufS (.lit (.bool false))::uAA 12 (ufR 267::ufI::utI::uAA 19 []),[(.dat false 63)],[⟨0,0,uT::utP 0 0::utS (.lit (.bool false))::uAB 12 (ufR 267::ufI::uAB 20 []),[(.dat false 63)]⟩,⟨1,0,uT::uT::utS (.lit (.bool false))::uAB 12 (ufR 267::ufI::uAB 20 []),[(.dat false 63)]⟩]⟩
def pH (Q:uAC) (p s:List D):Option (Sum (List D) (List D)):=aP env (LJ Q) 60 12 239 (bb 239 4) S239_4 p s
theorem Rt (Q:uAC) (pd0:D) (pn1:Int) (pd2:D) (sn0:Int):pH Q [pd0,(D.int pn1),pd2] [(D.int sn0)] =
 let x0:=aa (ay pd0 sn0) 1
 let x1:=Q [.agg [.int (ah (aa x0 0)),.int (ah (aa x0 1)),.int (ah (aa x0 2)),aa x0 3,aa x0 4]]
 let x2:=D.int pn1
 bif ab .lss sn0 pn1 then gd (aS pd0 sn0)<|gd (ap x1)<|bif bU (aQ (ac x1 0))then ge pd0<|ge x2<|ge pd2<|some (Sum.inr [.int 1])else ge pd0<|ge x2<|ge pd2<|some (Sum.inl [.int (aM .add .i64 sn0 1)])else ge pd0<|ge x2<|ge pd2<|some (Sum.inr [.int 0]):=by kernel_rfl
def LK:=by have h:= @Rt;simp only[aF,gd,am,ak,ao,au,ar,aE,aj]at h;exact h
def LL (Q:uAC):List D->uAC:=veil fun p s=>loW (pH Q p) s
theorem B2 (Q:uAC):LL Q=fun p s=>loW (pH Q p) s:=ai _
def yi (Q:uAC):Tb:=Tb.addL (LJ Q) 239 4 S239_4.n0 (bQ S239_4 (LL Q))
theorem HZ (Q:uAC) (hQ:aH env.P 239 Rr Q):TbOk env (yi Q):=aG (Rs Q hQ) 239 4 (by kernel_rfl) _ (B2 Q)
def VI (Q:uAC):uAC:=aO env (yi Q) 60 12 239 Rr
theorem Fb239_e (Q:uAC) (sd0:D):VI Q [sd0] =
 let x0:=ab .gtr (ae (aa sd0 4)) 64
 let x1:=VF [sd0]
 let x2:Option (List D):=some [.bool false]
 let x3:=LL Q [aa sd0 4,.int (ae (aa sd0 4)),sd0] [.int 0]
 let x4:=aa sd0 3
 let x5:=ab .eql (ae x4) 0
 let x6:=Q [ay x4 0]
 gd (aw x0 true (ap x1))<|bif aw x0 true (ab .gtr (ah (ac x1 0)) 65536)then x2 else gd (ap x3)<|bif ab .eql (ah (ac x3 0)) 0 then gd (aw x5 true (ci (aS x4 0) (ap x6)))<|some [.bool (aw x5 true (aQ (ac x6 0)))]else x2:=by kernel_rfl
def VJ:=by have h:= @Fb239_e;simp only[aF,gd,am,ak,ao,au,ar,aE,aj]at h;exact h
def rA:Nat->uAC:=levels VI
theorem F239_s (n:Nat):rA (n+1)=VI (rA n):=rfl
def q239:uAC:=veil fun ds=>rA (aY ds) ds
theorem OK:q239=fun ds=>rA (aY ds) ds:=ai _
theorem VK:aH env.P 239 Rr q239:=gM (fun q=>yi q) (fun q hq=>HZ q hq) OK
def VL:Tb:=Tb.addF VH 239 Rr q239
theorem VM:TbOk env VL:=TbOk.addF HY (by kernel_rfl) VK
def S219:FunS:=⟨[utD 63],[],[utI],[]⟩
def F219:uAC:=aO env VL 60 12 219 S219
theorem F219_e (sd0:D):F219 [sd0] =
 let x0:=q237 [sd0,.int 64]
 let x1:=q238 [sd0]
 let x2:=q239 [sd0]
 gd (ap x0)<|bif bU (aQ (ac x0 0))then some [.int 20]else gd (ap x1)<|bif bU (aQ (ac x1 0))then some [.int 2]else gd (ap x2)<|bif bU (aQ (ac x2 0))then some [.int 6]else some [.int 0]:=by kernel_rfl
def F219_eq:=by have h:= @F219_e;simp only[aF,gd,am,ak,ao,au,ar,aE,aj]at h;exact h
def VN:uAC:=veil (F219)
theorem OL:VN=F219:=ai _
def VO:Tb:=Tb.addF VL 219 S219 (VN)
theorem H4:TbOk env (VO):=aJ VM 219 (by kernel_rfl) _ (OL)
def LM:FunS:=⟨[utD 63,utI],[],[utB],[]⟩
def LN (Q:uAC):Tb:=Tb.addF VO 245 LM Q
theorem Ru (Q:uAC) (hQ:aH env.P 245 LM Q):TbOk env (LN Q):=TbOk.addF H4 (by kernel_rfl) hQ
def S245_4:LoopS:=⟨0,uF::ufI::ufP 0 0::uF::ufS (.lit (.bool false))::utI::uAA 34 [],[(.dat false 63)],[⟨0,0,uT::ufI::utP 0 0::uT::utS (.lit (.bool false))::uAB 35 [],[(.dat false 63)]⟩,⟨1,0,uT::ufI::uT::uT::utS (.lit (.bool true))::uAB 35 [],[(.dat false 63)]⟩]⟩
def uB (Q:uAC) (p s:List D):Option (Sum (List D) (List D)):=aP env (LN Q) 60 12 245 (bb 245 4) S245_4 p s
theorem Rv (Q:uAC) (pn0:Int) (pd1:D) (sn0:Int):uB Q [(D.int pn0),pd1] [(D.int sn0)] =
 let x0:=aa pd1 3
 let x1:=Q [ay x0 sn0,.int (aM .sub .i64 pn0 1)]
 let x2:=D.int pn0
 bif ab .lss sn0 (ae x0)then gd (aS x0 sn0)<|gd (ap x1)<|bif aQ (ac x1 0)then ge x2<|ge pd1<|some (Sum.inr [.int 1])else ge x2<|ge pd1<|some (Sum.inl [.int (aM .add .i64 sn0 1)])else ge x2<|ge pd1<|some (Sum.inr [.int 0]):=by kernel_rfl
def LO:=by have h:= @Rv;simp only[aF,gd,am,ak,ao,au,ar,aE,aj]at h;exact h
def LQ (Q:uAC):List D->uAC:=veil fun p s=>loW (uB Q p) s
theorem B3 (Q:uAC):LQ Q=fun p s=>loW (uB Q p) s:=ai _
def yj (Q:uAC):Tb:=Tb.addL (LN Q) 245 4 S245_4.n0 (bQ S245_4 (LQ Q))
theorem H5 (Q:uAC) (hQ:aH env.P 245 LM Q):TbOk env (yj Q):=aG (Ru Q hQ) 245 4 (by kernel_rfl) _ (B3 Q)
def S245_9:LoopS:=⟨0,uF::ufI::ufP 0 0::uF::ufS (.lit (.bool false))::uF::utI::uAA 33 [],[(.dat false 63)],[⟨0,2,uT::ufI::uT::uT::utS (.lit (.bool false))::uAB 35 [],[(.dat false 63)]⟩,⟨1,0,uT::ufI::uT::uT::utS (.lit (.bool true))::uAB 35 [],[(.dat false 63)]⟩]⟩
def uC (Q:uAC) (p s:List D):Option (Sum (List D) (List D)):=aP env (yj Q) 60 12 245 (bb 245 9) S245_9 p s
theorem Rw (Q:uAC) (pn0:Int) (pd1:D) (sn0:Int):uC Q [(D.int pn0),pd1] [(D.int sn0)] =
 let x0:=aa pd1 4
 let x1:=aa (ay x0 sn0) 1
 let x2:=Q [.agg [.int (ah (aa x1 0)),.int (ah (aa x1 1)),.int (ah (aa x1 2)),aa x1 3,aa x1 4],.int (aM .sub .i64 pn0 1)]
 let x3:=D.int pn0
 bif ab .lss sn0 (ae x0)then gd (aS x0 sn0)<|gd (ap x2)<|bif aQ (ac x2 0)then ge x3<|ge pd1<|some (Sum.inr [.int 1])else ge x3<|ge pd1<|some (Sum.inl [.int (aM .add .i64 sn0 1)])else ge x3<|ge pd1<|some (Sum.inr [.int 0]):=by kernel_rfl
def LS:=by have h:= @Rw;simp only[aF,gd,am,ak,ao,au,ar,aE,aj]at h;exact h
def LT (Q:uAC):List D->uAC:=veil fun p s=>loW (uC Q p) s
theorem B4 (Q:uAC):LT Q=fun p s=>loW (uC Q p) s:=ai _
def yk (Q:uAC):Tb:=Tb.addL (yj Q) 245 9 S245_9.n0 (bQ S245_9 (LT Q))
theorem H6 (Q:uAC) (hQ:aH env.P 245 LM Q):TbOk env (yk Q):=aG (H5 Q hQ) 245 9 (by kernel_rfl) _ (B4 Q)
def VP (Q:uAC):uAC:=aO env (yk Q) 60 12 245 LM
theorem Fb245_e (Q:uAC) (sd0:D) (sn1:Int):VP Q [sd0,(D.int sn1)] =
 let x0:Option (List D):=some [.bool true]
 let x1:List D:=[.int sn1,sd0]
 let x2:=LQ Q x1 [.int 0]
 let x3:=LT Q x1 [.int 0]
 bif ab .lss sn1 1 then x0 else gd (ap x2)<|bif ab .eql (ah (ac x2 0)) 0 then gd (ap x3)<|bif ab .eql (ah (ac x3 0)) 0 then some [.bool false]else x0 else x0:=by kernel_rfl
def VQ:=by have h:= @Fb245_e;simp only[aF,gd,am,ak,ao,au,ar,aE,aj]at h;exact h
def El:Nat->uAC:=levels VP
theorem F245_s (n:Nat):El (n+1)=VP (El n):=rfl
def q245:uAC:=veil fun ds=>El (aY ds) ds
theorem OM:q245=fun ds=>El (aY ds) ds:=ai _
theorem VR:aH env.P 245 LM q245:=gM (fun q=>yk q) (fun q hq=>H6 q hq) OM
def VS:Tb:=Tb.addF VO 245 LM q245
theorem H7:TbOk env VS:=TbOk.addF H4 (by kernel_rfl) VR
def LU:FunS:=⟨[utD 63],[],[utB],[]⟩
def LV (Q:uAC):Tb:=Tb.addF VS 246 LU Q
theorem Rx (Q:uAC) (hQ:aH env.P 246 LU Q):TbOk env (LV Q):=TbOk.addF H7 (by kernel_rfl) hQ
def S262_2:LoopS:=⟨0,ufR 267::uF::ufS (.lit (.bool false))::utI::uAA 47 [],[],[⟨0,0,ufR 267::uT::utS (.lit (.bool false))::uAB 48 [],[]⟩,⟨1,0,ufR 267::uT::utS (.lit (.bool false))::uAB 48 [],[]⟩]⟩
def uD (Q:uAC) (p s:List D):Option (Sum (List D) (List D)):=aP env (LV Q) 60 12 262 (bb 262 2) S262_2 p s
theorem Ry (Q:uAC) (pd0:D) (sn0:Int):uD Q [pd0] [(D.int sn0)] =
 let x0:=aS pd0 sn0
 let x1:=ay pd0 sn0
 let x2:=ah (aa x1 0)
 let x3:Option (List D ⊕ List D):=ge pd0<|some (Sum.inr [.int 1])
 let x4:=aM .sub .i64 sn0 1
 let x5:=aa x1 1
 let x6:=Q [.agg [.int (ah (aa x5 0)),.int (ah (aa x5 1)),.int (ah (aa x5 2)),aa x5 3,aa x5 4]]
 let x7:Option (List D ⊕ List D):=gd x0<|gd (ap x6)<|bif bU (aQ (ac x6 0))then x3 else ge pd0<|some (Sum.inl [.int (aM .add .i64 sn0 1)])
 bif ab .lss sn0 (ae pd0)then gd x0<|bif ab .lss x2 0 then x3 else gd x0<|bif ab .geq x2 65536 then x3 else bif ab .gtr sn0 0 then gd x0<|gd (aS pd0 x4)<|bif ab .leq x2 (ah (aa (ay pd0 x4) 0))then x3 else x7 else x7 else ge pd0<|some (Sum.inr [.int 0]):=by kernel_rfl
def yl:=by have h:= @Ry;simp only[aF,gd,am,ak,ao,au,ar,aE,aj]at h;exact h
def Em (Q:uAC):List D->uAC:=veil fun p s=>loW (uD Q p) s
theorem B5 (Q:uAC):Em Q=fun p s=>loW (uD Q p) s:=ai _
def ym (Q:uAC):Tb:=Tb.addL (LV Q) 262 2 S262_2.n0 (bQ S262_2 (Em Q))
theorem H8 (Q:uAC) (hQ:aH env.P 246 LU Q):TbOk env (ym Q):=aG (Rx Q hQ) 262 2 (by kernel_rfl) _ (B5 Q)
def S262:FunS:=⟨[utR 267],[],[utB],[]⟩
def F262 (Q:uAC):uAC:=aO env (ym Q) 60 12 262 S262
theorem F262_eq (Q:uAC) (sd0:D):F262 Q [sd0] =
 bif (ap (Em Q [sd0] [(D.int 0)]))then
  bif (ab BinOp.eql (ah (ac (Em Q [sd0] [(D.int 0)]) 0)) 0)then
   some [(D.bool Bool.true)]
  else
   some [(D.bool Bool.false)]
 else
  none:=by kernel_rfl
def q262 (Q:uAC):uAC:=veil (F262 Q)
theorem ON (Q:uAC):q262 Q=F262 Q:=ai _
def VT (Q:uAC):Tb:=Tb.addF (ym Q) 262 S262 (q262 Q)
theorem VU (Q:uAC) (hQ:aH env.P 246 LU Q):TbOk env (VT Q):=aJ (H8 Q hQ) 262 (by kernel_rfl) _ (ON Q)
def VV (Q:uAC):uAC:=aO env (VT Q) 60 12 246 LU
theorem Fb246_e (Q:uAC) (sd0:D):VV Q [sd0] =
 let x0:=ah (aa sd0 0)
 let x1:=ab .eql x0 0
 let x2:=ah (aa sd0 2)
 let x3:=ab .eql x2 0
 let x4:=aa sd0 3
 let x5:=ab .eql (ae x4) 0
 let x6:=ab .eql (ae (aa sd0 4)) 0
 let x7:=aw (aw x3 x5 false) x6 false
 let x8:=ah (aa sd0 1)
 let x9:=ab .eql x8 0
 let x10:=ab .eql x0 1
 let x11:=aw x9 x3 false
 let x12:=ab .eql (ae x4) 1
 let x13:=aw (aw x11 x6 false) x12 false
 let x14:=Q [ay x4 0]
 let x15:=ci (aS x4 0) (ap x14)
 let x16:=aQ (ac x14 0)
 let x17:=aw (aw (aw (aw x9 (ab .geq x2 1) false) (ab .leq x2 65536) false) x6 false) x12 false
 let x18:=aw x11 x5 false
 let x19:=q262 Q [aa sd0 4]
 bif aw x1 x1 (ab .eql x0 6)then some [.bool (aw x7 x9 false)]else bif aw x10 x10 (ab .eql x0 2)then some [.bool (aw x7 (aw (aw (ab .eql x8 1) true (ab .eql x8 2)) true (ab .eql x8 4)) false)]else bif ab .eql x0 3 then gd (aw x13 x15 true)<|some [.bool (aw x13 x16 false)]else bif ab .eql x0 4 then gd (aw x17 x15 true)<|some [.bool (aw x17 x16 false)]else bif ab .eql x0 5 then gd (aw x18 (ap x19) true)<|some [.bool (aw x18 (aQ (ac x19 0)) false)]else some [.bool false]:=by kernel_rfl
def VW:=by have h:= @Fb246_e;simp only[aF,gd,am,ak,ao,au,ar,aE,aj]at h;exact h
def H9:Nat->uAC:=levels VV
theorem F246_s (n:Nat):H9 (n+1)=VV (H9 n):=rfl
def q246:uAC:=veil fun ds=>H9 (aY ds) ds
theorem OO:q246=fun ds=>H9 (aY ds) ds:=ai _
theorem VX:aH env.P 246 LU q246:=gM (fun q=>VT q) (fun q hq=>VU q hq) OO
def VY:Tb:=Tb.addF VS 246 LU q246
theorem Ia:TbOk env VY:=TbOk.addF H7 (by kernel_rfl) VX
def Rz:FunS:=⟨[utD 63],[],[utI],[]⟩
def LW (Q:uAC):Tb:=Tb.addF VY 263 Rz Q
theorem RA (Q:uAC) (hQ:aH env.P 263 Rz Q):TbOk env (LW Q):=TbOk.addF Ia (by kernel_rfl) hQ
def S263_12:LoopS:=⟨0,uF::ufP 0 0::ufZ::utI::utI::uAA 46 [],[(.dat false 63)],[⟨0,1,uT::uT::utZ::utI::uAB 47 [],[(.dat false 63)]⟩]⟩
def ke (Q:uAC) (p s:List D):Option (Sum (List D) (List D)):=aP env (LW Q) 60 12 263 (bb 263 12) S263_12 p s
theorem LX (Q:uAC) (pd0:D) (sn0:Int) (sn1:Int):ke Q [pd0] [(D.int sn0),(D.int sn1)] =
 let x0:=aa pd0 4
 let x1:=aS x0 sn1
 let x2:=ay x0 sn1
 let x3:=aa x2 1
 let x4:=Q [.agg [.int (ah (aa x3 0)),.int (ah (aa x3 1)),.int (ah (aa x3 2)),aa x3 3,aa x3 4]]
 bif ab .lss sn1 (ae x0)then gd x1<|gd x1<|gd (ap x4)<|ge pd0<|some (Sum.inl [.int (qmm .gtr sn0 (aM .add .i64 (ah (aa x2 0)) (ah (ac x4 0)))),.int (aM .add .i64 sn1 1)])else ge pd0<|some (Sum.inr [.int 0,.int sn0]):=by kernel_rfl
def mw:=by have h:= @LX;simp only[aF,gd,am,ak,ao,au,ar,aE,aj]at h;exact h
def En (Q:uAC):List D->uAC:=veil fun p s=>loW (ke Q p) s
theorem ol (Q:uAC):En Q=fun p s=>loW (ke Q p) s:=ai _
def rB (Q:uAC):Tb:=Tb.addL (LW Q) 263 12 S263_12.n0 (bQ S263_12 (En Q))
theorem Eo (Q:uAC) (hQ:aH env.P 263 Rz Q):TbOk env (rB Q):=aG (RA Q hQ) 263 12 (by kernel_rfl) _ (ol Q)
def VZ (Q:uAC):uAC:=aO env (rB Q) 60 12 263 Rz
theorem Fb263_e (Q:uAC) (sd0:D):VZ Q [sd0] =
 let x0:=ah (aa sd0 0)
 let x1:=ab .eql x0 1
 let x2:=Q [ay (aa sd0 3) 0]
 let x3:=D.int 0
 let x4:=En Q [sd0] [x3,x3]
 bif aw x1 x1 (ab .eql x0 2)then some [.int (qmm .lss (ah (aa sd0 1)) 65537)]else bif ab .eql x0 3 then some [.int 4]else bif ab .eql x0 4 then gd (aS (aa sd0 3) 0)<|gd (ap x2)<|some [.int (qmm .lss (aM .mul .i64 (ah (aa sd0 2)) (ah (ac x2 0))) 65537)]else bif ab .eql x0 5 then gd (ap x4)<|some [.int (qmm .lss (ah (ac x4 1)) 65537)]else some [x3]:=by kernel_rfl
def Ib:=by have h:= @Fb263_e;simp only[aF,gd,am,ak,ao,au,ar,aE,aj]at h;exact h
def A2:Nat->uAC:=levels VZ
theorem V0 (n:Nat):A2 (n+1)=VZ (A2 n):=rfl
def LY:uAC:=veil fun ds=>A2 (aY ds) ds
theorem Ep:LY=fun ds=>A2 (aY ds) ds:=ai _
theorem V1:aH env.P 263 Rz LY:=gM (fun q=>rB q) (fun q hq=>Eo q hq) Ep
def V2:Tb:=Tb.addF VY 263 Rz LY
theorem Ic:TbOk env V2:=TbOk.addF Ia (by kernel_rfl) V1
def LZ:FunS:=⟨[utD 63],[],[utB],[]⟩
def L0 (Q:uAC):Tb:=Tb.addF V2 247 LZ Q
theorem RB (Q:uAC) (hQ:aH env.P 247 LZ Q):TbOk env (L0 Q):=TbOk.addF Ic (by kernel_rfl) hQ
def S247_4:LoopS:=⟨0,uF::ufP 0 0::ufS (.lit (.bool false))::utI::uAA 37 [],[(.dat false 63)],[⟨0,0,uT::utP 0 0::utS (.lit (.bool false))::uAB 38 [],[(.dat false 63)]⟩,⟨1,0,uT::uT::utS (.lit (.bool true))::uAB 38 [],[(.dat false 63)]⟩]⟩
def pI (Q:uAC) (p s:List D):Option (Sum (List D) (List D)):=aP env (L0 Q) 60 12 247 (bb 247 4) S247_4 p s
theorem RC (Q:uAC) (pd0:D) (sn0:Int):pI Q [pd0] [(D.int sn0)] =
 let x0:=aa pd0 3
 let x1:=Q [ay x0 sn0]
 bif ab .lss sn0 (ae x0)then gd (aS x0 sn0)<|gd (ap x1)<|bif aQ (ac x1 0)then ge pd0<|some (Sum.inr [.int 1])else ge pd0<|some (Sum.inl [.int (aM .add .i64 sn0 1)])else ge pd0<|some (Sum.inr [.int 0]):=by kernel_rfl
def L1:=by have h:= @RC;simp only[aF,gd,am,ak,ao,au,ar,aE,aj]at h;exact h
def L2 (Q:uAC):List D->uAC:=veil fun p s=>loW (pI Q p) s
theorem B6 (Q:uAC):L2 Q=fun p s=>loW (pI Q p) s:=ai _
def yn (Q:uAC):Tb:=Tb.addL (L0 Q) 247 4 S247_4.n0 (bQ S247_4 (L2 Q))
theorem Id (Q:uAC) (hQ:aH env.P 247 LZ Q):TbOk env (yn Q):=aG (RB Q hQ) 247 4 (by kernel_rfl) _ (B6 Q)
def S247_9:LoopS:=⟨0,uF::ufP 0 0::ufS (.lit (.bool false))::uF::utI::uAA 36 [],[(.dat false 63)],[⟨0,2,uT::uT::utS (.lit (.bool false))::uAB 38 [],[(.dat false 63)]⟩,⟨1,0,uT::uT::utS (.lit (.bool true))::uAB 38 [],[(.dat false 63)]⟩]⟩
def pJ (Q:uAC) (p s:List D):Option (Sum (List D) (List D)):=aP env (yn Q) 60 12 247 (bb 247 9) S247_9 p s
theorem RD (Q:uAC) (pd0:D) (sn0:Int):pJ Q [pd0] [(D.int sn0)] =
 let x0:=aa pd0 4
 let x1:=aa (ay x0 sn0) 1
 let x2:=Q [.agg [.int (ah (aa x1 0)),.int (ah (aa x1 1)),.int (ah (aa x1 2)),aa x1 3,aa x1 4]]
 bif ab .lss sn0 (ae x0)then gd (aS x0 sn0)<|gd (ap x2)<|bif aQ (ac x2 0)then ge pd0<|some (Sum.inr [.int 1])else ge pd0<|some (Sum.inl [.int (aM .add .i64 sn0 1)])else ge pd0<|some (Sum.inr [.int 0]):=by kernel_rfl
def L3:=by have h:= @RD;simp only[aF,gd,am,ak,ao,au,ar,aE,aj]at h;exact h
def L4 (Q:uAC):List D->uAC:=veil fun p s=>loW (pJ Q p) s
theorem B7 (Q:uAC):L4 Q=fun p s=>loW (pJ Q p) s:=ai _
def yp (Q:uAC):Tb:=Tb.addL (yn Q) 247 9 S247_9.n0 (bQ S247_9 (L4 Q))
theorem Ie (Q:uAC) (hQ:aH env.P 247 LZ Q):TbOk env (yp Q):=aG (Id Q hQ) 247 9 (by kernel_rfl) _ (B7 Q)
def V3 (Q:uAC):uAC:=aO env (yp Q) 60 12 247 LZ
theorem Fb247_e (Q:uAC) (sd0:D):V3 Q [sd0] =
 let x0:=LY [sd0]
 let x1:Option (List D):=some [.bool true]
 let x2:=L2 Q [sd0] [.int 0]
 let x3:=L4 Q [sd0] [.int 0]
 gd (ap x0)<|bif aw (ab .gtr (ah (ac x0 0)) 65536) true (ab .gtr (ae (aa sd0 4)) 64)then x1 else gd (ap x2)<|bif ab .eql (ah (ac x2 0)) 0 then gd (ap x3)<|bif ab .eql (ah (ac x3 0)) 0 then some [.bool false]else x1 else x1:=by kernel_rfl
def V4:=by have h:= @Fb247_e;simp only[aF,gd,am,ak,ao,au,ar,aE,aj]at h;exact h
def rC:Nat->uAC:=levels V3
theorem F247_s (n:Nat):rC (n+1)=V3 (rC n):=rfl
def q247:uAC:=veil fun ds=>rC (aY ds) ds
theorem OP:q247=fun ds=>rC (aY ds) ds:=ai _
theorem V5:aH env.P 247 LZ q247:=gM (fun q=>yp q) (fun q hq=>Ie q hq) OP
def V6:Tb:=Tb.addF V2 247 LZ q247
theorem V7:TbOk env V6:=TbOk.addF Ic (by kernel_rfl) V5
def S226:FunS:=⟨[utD 63],[],[utI],[]⟩
def F226:uAC:=aO env V6 60 12 226 S226
theorem F226_e (sd0:D):F226 [sd0] =
 let x0:=q245 [sd0,.int 64]
 let x1:=q246 [sd0]
 let x2:=q247 [sd0]
 gd (ap x0)<|bif aQ (ac x0 0)then some [.int 20]else gd (ap x1)<|bif bU (aQ (ac x1 0))then some [.int 2]else gd (ap x2)<|bif aQ (ac x2 0)then some [.int 6]else some [.int 0]:=by kernel_rfl
def F226_eq:=by have h:= @F226_e;simp only[aF,gd,am,ak,ao,au,ar,aE,aj]at h;exact h
def L5:uAC:=veil (F226)
theorem OQ:L5=F226:=ai _
def V8:Tb:=Tb.addF V6 226 S226 (L5)
theorem V9:TbOk env (V8):=aJ V7 226 (by kernel_rfl) _ (OQ)
end
end Go.Proofs.YtiojjmlccehpoaaGreat
