/-
  DERIVED: THE SHELF's CONTRACTS AT THIS DUMP, IN PLAIN WORDS (tools/lay-plain.mjs out of 'TryzShelf.lean', which tools/lay-shelf.mjs wrote): THE SAME DECLARATIONS UNDER THE SAME NAMES: 'import', 'namespace', 'open', 'def', 'theorem' AND NOTHING ELSE: no command of the shelf's: FOR A HAND-IN. Each laying: the table of numbers ('.._ren') and one theorem, a field a fact of the dump's own or the kernel's comparison; each contract: ONE APPLICATION.
-/
import Derived.Shelf.Strings.Search1
import Derived.Shelf.Strings.Search2
import Derived.Shelf.Strings.Search3
import Derived.Shelf.LaysM
import Derived.Ground.Names2Prog
import Derived.Ground.SlgnProg
import Derived.Test.YteccopaonadbeaaGreatDoorProg
import Derived.Test.YteccopaonadbeaaGreatDoorAmZ2
import Derived.Test.YteccopaonadbeaaGreatDoorC1
import Derived.Below
import Derived.RowKit3
import Derived.Lib.IndexMore
import Derived.Test.YteccopaonadbeaaGreatDoorAmW
import Derived.KernelRfl
set_option linter.unusedVariables false
set_option linter.unusedSimpArgs false
namespace Go.Proofs
open Go.Shelf
def Tryz.lays144_ren:Go.Shelf.Ren:=⟨fun|144=>97|143=>159|219=>199|217=>246|225=>247|224=>248|267=>249|266=>266|314=>267|n=>n,fun|9=>9|4=>4|3=>3|5=>5|46=>230|146=>297|51=>24|n=>n,fun|1=>2|n=>n⟩
theorem Tryz.lays144:Go.Proofs.Lays.n144 Tryz.prog Tryz.lays144_ren:={
 mixed:=by kernel_rfl
 f143:=Tryz.func159.trans (congrArg some (by kernel_rfl))
 f144:=Tryz.func97.trans (congrArg some (by kernel_rfl))
 f217:=Tryz.func246.trans (congrArg some (by kernel_rfl))
 f219:=Tryz.func199.trans (congrArg some (by kernel_rfl))
 f224:=Tryz.func248.trans (congrArg some (by kernel_rfl))
 f225:=Tryz.func247.trans (congrArg some (by kernel_rfl))
 f266:=Tryz.func266.trans (congrArg some (by kernel_rfl))
 f267:=Tryz.func249.trans (congrArg some (by kernel_rfl))
 f314:=Tryz.func267.trans (congrArg some (by kernel_rfl))
 t3:=Tryz.underlying3
 a3:=Tryz.isAgg3
 z3:=Tryz.sizeOf3
 v3:=Tryz.zeroValue3
 t4:=Tryz.underlying4
 a4:=Tryz.isAgg4
 z4:=Tryz.sizeOf4
 v4:=Tryz.zeroValue4
 t5:=Tryz.underlying5
 a5:=Tryz.isAgg5
 z5:=Tryz.sizeOf5
 v5:=Tryz.zeroValue5
 t9:=Tryz.underlying9
 a9:=Tryz.isAgg9
 z9:=Tryz.sizeOf9
 v9:=Tryz.zeroValue9
 t46:=Tryz.underlying230
 a46:=Tryz.isAgg230
 z46:=Tryz.sizeOf230
 v46:=Tryz.zeroValue230
 t51:=Tryz.underlying24
 a51:=Tryz.isAgg24
 z51:=Tryz.sizeOf24
 v51:=Tryz.zeroValue24
 t146:=Tryz.underlying297
 a146:=Tryz.isAgg297
 z146:=Tryz.sizeOf297
 v146:=Tryz.zeroValue297
 g1:=by kernel_rfl}
open Go.RowKit Go.Lib in
theorem Tryz.strings_Contains (s sub:ByteArray) (m:Int) (w:World) (hs:s.size<4294967281) (hm:w.cell? ⟨2,0,none⟩=some (.int .i64 m)):
 Calls Tryz.prog 97 #[.string s, .string sub] w fun e w'=>e = .returned (.bool (Lib.contains s.data.toList sub.data.toList))∧w'=w:=Any.strings_Contains Tryz.lays144 s sub m w hs hm
end Go.Proofs
namespace Go.AM
section
variable {P:Program}
theorem ok_of_same' {f:FuncId} {args:List AV} {H:Hp} {x:Value} {y:AV} (hy:∀ρ E w,Rep ρ E w y x) (h:∀(lo:Nat→Prop) (w0:World) (ρ:Nat→Option Nat) (E:Nat→Prop) (w:World) (vs:Array Value),Inv lo w0 ρ E H w→RepL ρ E w args vs.toList→
 Calls P f vs w fun e w'=>e = .returned x∧w'=w):Ok P f args H y H:=by
 intro lo w0 ρ E w vs inv ra
 refine(h lo w0 ρ E w vs inv ra).mono ?_
 rintro e w' ⟨rfl,rfl⟩
 exact⟨x,ρ,E,rfl,inv,⟨Ext.refl,fun _ h=> .inl h⟩,hy _ _ _⟩
theorem ok_of_same {f:FuncId} {args:List AV} {H:Hp} {x:Value} (h:∀(lo:Nat→Prop) (w0:World) (ρ:Nat→Option Nat) (E:Nat→Prop) (w:World) (vs:Array Value),Inv lo w0 ρ E H w→RepL ρ E w args vs.toList→
 Calls P f vs w fun e w'=>e = .returned x∧w'=w):Ok P f args H (.sc x) H:=by
 intro lo w0 ρ E w vs inv ra
 refine(h lo w0 ρ E w vs inv ra).mono ?_
 rintro e w' ⟨rfl,rfl⟩
 exact⟨x,ρ,E,rfl,inv,⟨Ext.refl,fun _ h=> .inl h⟩,by simp only[Rep]⟩
noncomputable def subT (s t:List UInt8):Bool:=match s with | []=>t.isEmpty|x::r=>t.isPrefixOf (x::r)||subT r t
theorem subT_eq:∀s t:List UInt8,subT s t=Lib.contains s t
 | [],t=>by
   unfold subT Lib.contains Lib.index
   cases h:t.isEmpty<;>rfl
 |x::r,t=>by
  have ih:=subT_eq r t
  have hg:=Lib.index_ge r t
  unfold Lib.contains at ih
  unfold subT Lib.contains Lib.index
  rw[ih]
  cases h:t.isPrefixOf (x::r)with
  |true=>simp
  |false=>
   simp only[Bool.false_or,Bool.false_eq_true,if_false]
   split
   ·rename_i h1
    rw[eq_of_beq h1]
   ·rename_i h1
    have:Lib.index r t≠ -1:=fun e=>h1 (by rw[e];rfl)
    rw[Bool.eq_iff_iff];simp only[decide_eq_true_eq];omega
def ContSaid (P:Program) (f:FuncId):Prop:=
 ∀(s sub:ByteArray) (m:Int) (w:World),s.size<4294967281→w.cell? ⟨2,0,none⟩=some (.int .i64 m)→
  Calls P f #[.string s, .string sub] w fun e w'=>e = .returned (.bool (Lib.contains s.data.toList sub.data.toList))∧w'=w
noncomputable def qhas:ByteArray→ByteArray→Bool:=veil fun s t=>subT s.data.toList t.data.toList
theorem qhas_eq:qhas=fun s t=>subT s.data.toList t.data.toList:=veil_eq _
noncomputable def contC (args:List AV) (H:Hp):Option (AV×Hp):=
 match args with
 | [.sc (.string s), .sc (.string t)]=>(match H.glob 2 with
   |some [.anyI .i64]=>bif Nat.ble s.size 1048576 then some (.sc (.bool (subT s.data.toList t.data.toList)),H)else none
   |_=>none)
 | [.sc (.string s), .us t]=>(match H.glob 2 with
   |some [.anyI .i64]=>bif Nat.ble s.size 1048576 then some (.ub (qhas s t),H)else none
   |_=>none)
 |_=>none
theorem contC_ok {f:FuncId} (hC:ContSaid P f) (args:List AV) (H:Hp) (v:AV) (H':Hp) (h:contC args H=some (v,H')):Ok P f args H v H':=by
 unfold contC at h
 split at h
 case h_3=>cases h
 case h_1 s t=>
  split at h
  case h_2=>cases h
  case h_1 hg=>
   cases hb:Nat.ble s.size 1048576 with
   |false=>rw[hb]at h;cases h
   |true=>
    rw[hb]at h
    cases h
    simp only[Nat.ble_eq]at hb
    refine ok_of_same fun lo w0 ρ E w vs inv ra=> ?_
    generalize hvs:vs.toList=l at ra
    simp only[RepL]at ra
    obtain⟨u1,l1,rfl,r1,u2,l2,rfl,r2,rfl⟩:=ra
    simp only[Rep]at r1 r2
    subst r1 r2
    have hv:vs = #[.string s, .string t]:=by rw[← Array.toList_inj,hvs]
    have hr:=(inv.gl 2 _ hg).2.1
    simp only[RepAt,Rep]at hr
    obtain⟨⟨u,hu,n,rfl⟩,_⟩:=hr
    rw[hv,subT_eq]
    exact hC s t n w (by omega) hu
 case h_2 s t=>
  split at h
  case h_2=>cases h
  case h_1 hg=>
   cases hb:Nat.ble s.size 1048576 with
   |false=>rw[hb]at h;cases h
   |true=>
    rw[hb]at h
    cases h
    simp only[Nat.ble_eq]at hb
    refine ok_of_same' (x:= .bool (subT s.data.toList t.data.toList)) (fun _ _ _=>by simp only[Rep,qhas_eq]) fun lo w0 ρ E w vs inv ra=> ?_
    generalize hvs:vs.toList=l at ra
    simp only[RepL]at ra
    obtain⟨u1,l1,rfl,r1,u2,l2,rfl,r2,rfl⟩:=ra
    simp only[Rep]at r1 r2
    subst r1 r2
    have hv:vs = #[.string s, .string t]:=by rw[← Array.toList_inj,hvs]
    have hr:=(inv.gl 2 _ hg).2.1
    simp only[RepAt,Rep]at hr
    obtain⟨⟨u,hu,n,rfl⟩,_⟩:=hr
    rw[hv,subT_eq]
    exact hC s t n w (by omega) hu
end
end Go.AM
namespace Go.AM
noncomputable section
set_option linter.unusedSimpArgs false
def memoC (A:List AV) (v:AV) (args:List AV) (H:Hp):Option (AV×Hp):=bif allEq (avEq 12) args A&&H.gl then some (v,H)else none
theorem memo_ok {e:Env} {tb:Tb} (hok:EnvOk e) (hl:∀n c,e.lp n c=none) (hp:e.pre=tb.O) (ps:List (Nat×Nat)) (ds:List Nat) (h:TbOk e tb) (F n:Nat) {f:FuncId} {A:List AV} {v:AV}
 (hrun:(callPure (runP e ps ds tb F n).d ⟨0,[],true⟩ f A).map (·.1)=some v) (hA:∀H,mapO (expo H expoDepth) A=some A) (hO:∀H,allB ((A.map (expoObl H expoDepth)).flatten++tb.O f A ⟨0,[],true⟩)=true) (hown:A.all (ownFree expoDepth)=true):
 ∀args H v' H',memoC A v args H=some (v',H')→Ok e.P f args H v' H':=by
 intro args H v' H' hm
 unfold memoC at hm
 cases hc:(allEq (avEq 12) args A&&H.gl)with
 |false=>rw[hc]at hm;cases hm
 |true=>
  rw[hc]at hm
  simp only[cond_true,Option.some.injEq,Prod.mk.injEq]at hm
  obtain⟨rfl,rfl⟩:=hm
  simp only[Bool.and_eq_true]at hc
  obtain⟨he,hg⟩:=hc
  have hargs:args=A:=allEq_eq (avEq_eq 12) he
  subst hargs
  have hr:SoundRec e.P ({e with isPure:=fun _=>true}:Env).pre (runP e ps ds tb F n).d:=by
   show SoundRec e.P e.pre _
   rw[hp];exact runP_sound hok hl hp ps ds h F n
  have hfr:H.fresh=⟨0,[],true⟩:=by simp only[Hp.fresh,hg]
  obtain⟨⟨v1,fl⟩,hrun2,rfl⟩:=Option.map_eq_some_iff.1 hrun
  have hcall:callA {e with isPure:=fun _=>true} (runP e ps ds tb F n).d f args H=some (v1,H):=by
   unfold callA
   simp only[cond_true,hA H,Option.bind_some,hfr,hrun2,hown,Bool.true_or,cond_true]
  have hob:allB (callObl {e with isPure:=fun _=>true} f args H)=true:=by
   simp only[callObl,cond_true,hA H,hp,hfr]
   exact hO H
  intro lo w0 ρ E w vs inv ra
  refine(pure_call hr rfl hcall hob inv ra).mono ?_
  rintro e' w' ⟨u,ρ',E',rfl,inv',reach,rep,_⟩
  exact⟨u,ρ',E',rfl,inv',reach,rep⟩
def memoL (ms:List (List AV×AV)) (args:List AV) (H:Hp):Option (AV×Hp):=
 match ms with
 | []=>none
 |m::ms=>orP (memoC m.1 m.2 args H) (memoL ms args H)
theorem memoL_ok {P:Program} {f:FuncId}:∀{ms:List (List AV×AV)},(∀m∈ms,∀args H v' H',memoC m.1 m.2 args H=some (v',H')→Ok P f args H v' H')→∀args H v' H',memoL ms args H=some (v',H')→Ok P f args H v' H'
 | [],_,args,H,v',H',hm=>by simp[memoL]at hm
 |m::ms,h,args,H,v',H',hm=>by
  simp only[memoL]at hm
  cases hc:memoC m.1 m.2 args H with
  |some p=>rw[hc]at hm;simp only[orP,Option.some.injEq]at hm;subst hm;exact h m List.mem_cons_self args H _ _ hc
  |none=>rw[hc]at hm;exact memoL_ok (fun m hm'=>h m (List.mem_cons_of_mem _ hm')) args H v' H' hm
def memoR (A:List AV) (v:AV) (Hc:Hp) (args:List AV) (H:Hp):Option (AV×Hp):=bif allEq (avEq 12) args A&&(H.gl&&(Nat.beq H.n 0&&H.bs.isEmpty))then some (v,Hc)else none
theorem memoR_ok {e:Env} {tb:Tb} (hok:EnvOk e) (hl:∀n c,e.lp n c=none) (hp:e.pre=tb.O) (ps:List (Nat×Nat)) (ds:List Nat) (h:TbOk e tb) (F n:Nat) {f:FuncId} {A:List AV} {v:AV} {Hc:Hp}
 (hrun:(runP e ps ds tb F n).d f A ⟨0,[],true⟩=some (v,Hc)) (hO:allB (tb.O f A ⟨0,[],true⟩)=true):
 ∀args H v' H',memoR A v Hc args H=some (v',H')→Ok e.P f args H v' H':=by
 intro args H v' H' hm
 unfold memoR at hm
 cases hc:(allEq (avEq 12) args A&&(H.gl&&(Nat.beq H.n 0&&H.bs.isEmpty)))with
 |false=>rw[hc]at hm;cases hm
 |true=>
  rw[hc]at hm
  simp only[cond_true,Option.some.injEq,Prod.mk.injEq]at hm
  obtain⟨rfl,rfl⟩:=hm
  simp only[Bool.and_eq_true]at hc
  obtain⟨he,hg,hn,hb⟩:=hc
  have hargs:args=A:=allEq_eq (avEq_eq 12) he
  subst hargs
  have hH:H=⟨0,[],true⟩:=by
   cases H with
   |mk n bs gl=>
    simp only at hg hn hb
    rw[hg,Nat.eq_of_beq_eq_true hn,List.isEmpty_iff.1 hb]
  subst hH
  exact runP_sound hok hl hp ps ds h F n f _ _ v Hc hrun hO
def memoRL (ms:List (List AV×AV×Hp)) (args:List AV) (H:Hp):Option (AV×Hp):=
 match ms with
 | []=>none
 |m::ms=>orP (memoR m.1 m.2.1 m.2.2 args H) (memoRL ms args H)
theorem memoRL_ok {P:Program} {f:FuncId}:∀{ms:List (List AV×AV×Hp)},(∀m∈ms,∀args H v' H',memoR m.1 m.2.1 m.2.2 args H=some (v',H')→Ok P f args H v' H')→∀args H v' H',memoRL ms args H=some (v',H')→Ok P f args H v' H'
 | [],_,args,H,v',H',hm=>by simp[memoRL]at hm
 |m::ms,h,args,H,v',H',hm=>by
  simp only[memoRL]at hm
  cases hc:memoR m.1 m.2.1 m.2.2 args H with
  |some p=>rw[hc]at hm;simp only[orP,Option.some.injEq]at hm;subst hm;exact h m List.mem_cons_self args H _ _ hc
  |none=>rw[hc]at hm;exact memoRL_ok (fun m hm'=>h m (List.mem_cons_of_mem _ hm')) args H v' H' hm
end
end Go.AM
namespace Go.Proofs.YteccopaonadbeaaGreatDoor
noncomputable section
open Go Go.AM
set_option maxRecDepth 100000
theorem contSaidX:ContSaid Tryz.prog 97:=fun s sub m w hs hm=>Tryz.strings_Contains s sub m w hs hm
def tbX:Tb:=Tb.nil.add 97 contC (fun _ _=>[])
def envX:Env:={P:=Tryz.prog,fn:=fun f=>(Tryz.prog.funcs[f]?).bind fun fn=>fn.body.map fun c=>⟨c,fn.ntmps,fn.results.toList⟩,isPure:=fun f=> !([33,34,35,36,37,45,50,52,66,67,102,106,110,111,117,118,121,126,127,153,155,166,171,172,173,175,176,177,221,94,200,250,101,161,128,31,262,268,182,27,8,109,122,218,64,129,15,16,17,43,44,48,51,71].elem f),isFrz:=fun _=>false,clr:=false,pre:=tbX.O,lp:=fun _ _=>none,n0:=0}
theorem envXOk:EnvOk envX:=by
 intro f F h
 refine envOk f F ?_
 rw[envFn]
 exact h
theorem tbXOk:TbOk envX tbX:=TbOk.nil.add (by kernel_rfl) fun args H v H' h _=>contC_ok contSaidX args H v H' h
def psX:List (Nat×Nat):=[]
def dsX:List Nat:=[12]
def rX:Rec:=(runP envX psX dsX tbX 5000 5000).d
def mA26_0:List AV:=[.agg [.esl [[.sc (.string ⟨#[114,48]⟩), .sc (.int .i64 (2)), .sc (.int .i64 (4)), .sc (.int .i64 (0)), .sc (.slice none 0 0), .sc (.slice none 0 0)],[.sc (.string ⟨#[114,49]⟩), .sc (.int .i64 (2)), .sc (.int .i64 (4)), .sc (.int .i64 (0)), .sc (.slice none 0 0), .sc (.slice none 0 0)],[.sc (.string ⟨#[114,50]⟩), .sc (.int .i64 (2)), .sc (.int .i64 (4)), .sc (.int .i64 (0)), .sc (.slice none 0 0), .sc (.slice none 0 0)],[.sc (.string ⟨#[114,51]⟩), .sc (.int .i64 (2)), .sc (.int .i64 (4)), .sc (.int .i64 (0)), .sc (.slice none 0 0), .sc (.slice none 0 0)],[.sc (.string ⟨#[114,52]⟩), .sc (.int .i64 (2)), .sc (.int .i64 (4)), .sc (.int .i64 (0)), .sc (.slice none 0 0), .sc (.slice none 0 0)],[.sc (.string ⟨#[114,53]⟩), .sc (.int .i64 (2)), .sc (.int .i64 (4)), .sc (.int .i64 (0)), .sc (.slice none 0 0), .sc (.slice none 0 0)],[.sc (.string ⟨#[114,54]⟩), .sc (.int .i64 (2)), .sc (.int .i64 (4)), .sc (.int .i64 (0)), .sc (.slice none 0 0), .sc (.slice none 0 0)],[.sc (.string ⟨#[114,55]⟩), .sc (.int .i64 (2)), .sc (.int .i64 (4)), .sc (.int .i64 (0)), .sc (.slice none 0 0), .sc (.slice none 0 0)],[.sc (.string ⟨#[102,122]⟩), .sc (.int .i64 (2)), .sc (.int .i64 (4)), .sc (.int .i64 (0)), .sc (.slice none 0 0), .sc (.slice none 0 0)],[.sc (.string ⟨#[102,110]⟩), .sc (.int .i64 (2)), .sc (.int .i64 (4)), .sc (.int .i64 (0)), .sc (.slice none 0 0), .sc (.slice none 0 0)],[.sc (.string ⟨#[102,99]⟩), .sc (.int .i64 (2)), .sc (.int .i64 (4)), .sc (.int .i64 (0)), .sc (.slice none 0 0), .sc (.slice none 0 0)],[.sc (.string ⟨#[102,118]⟩), .sc (.int .i64 (2)), .sc (.int .i64 (4)), .sc (.int .i64 (0)), .sc (.slice none 0 0), .sc (.slice none 0 0)]], .sc (.slice none 0 0), .esl [[.sc (.string ⟨#[109,97,105,110]⟩), .sc (.slice none 0 0), .esl [[.sc (.int .i64 (15)), .sc (.int .i64 (0)), .sc (.string ⟨#[]⟩), .sc (.slice none 0 0), .sc (.slice none 0 0), .sc (.slice none 0 0), .sc (.slice none 0 0)]]]]]]
def mV26_0:AV:=(.sc (.int .i64 (0)))
theorem mR26_0:(callPure rX ⟨0,[],true⟩ 26 mA26_0).map (·.1)=some mV26_0:=by kernel_rfl
theorem mO26_0:∀args H v' H',memoC mA26_0 mV26_0 args H=some (v',H')→Ok envX.P 26 args H v' H':=
 memo_ok envXOk (fun _ _=>rfl) rfl psX dsX tbXOk 5000 5000 mR26_0 (by intro H;rfl) (by intro H;rfl) (by rfl)
def mA26_1:List AV:=[.agg [.esl [[.sc (.string ⟨#[114,48]⟩), .sc (.int .i64 (0)), .sc (.int .i64 (0)), .sc (.int .i64 (0)), .sc (.slice none 0 0), .sc (.slice none 0 0)],[.sc (.string ⟨#[114,49]⟩), .sc (.int .i64 (0)), .sc (.int .i64 (0)), .sc (.int .i64 (0)), .sc (.slice none 0 0), .sc (.slice none 0 0)],[.sc (.string ⟨#[114,50]⟩), .sc (.int .i64 (0)), .sc (.int .i64 (0)), .sc (.int .i64 (0)), .sc (.slice none 0 0), .sc (.slice none 0 0)],[.sc (.string ⟨#[114,51]⟩), .sc (.int .i64 (0)), .sc (.int .i64 (0)), .sc (.int .i64 (0)), .sc (.slice none 0 0), .sc (.slice none 0 0)],[.sc (.string ⟨#[114,52]⟩), .sc (.int .i64 (0)), .sc (.int .i64 (0)), .sc (.int .i64 (0)), .sc (.slice none 0 0), .sc (.slice none 0 0)],[.sc (.string ⟨#[114,53]⟩), .sc (.int .i64 (0)), .sc (.int .i64 (0)), .sc (.int .i64 (0)), .sc (.slice none 0 0), .sc (.slice none 0 0)],[.sc (.string ⟨#[114,54]⟩), .sc (.int .i64 (0)), .sc (.int .i64 (0)), .sc (.int .i64 (0)), .sc (.slice none 0 0), .sc (.slice none 0 0)],[.sc (.string ⟨#[114,55]⟩), .sc (.int .i64 (0)), .sc (.int .i64 (0)), .sc (.int .i64 (0)), .sc (.slice none 0 0), .sc (.slice none 0 0)],[.sc (.string ⟨#[102,122]⟩), .sc (.int .i64 (0)), .sc (.int .i64 (0)), .sc (.int .i64 (0)), .sc (.slice none 0 0), .sc (.slice none 0 0)],[.sc (.string ⟨#[102,110]⟩), .sc (.int .i64 (0)), .sc (.int .i64 (0)), .sc (.int .i64 (0)), .sc (.slice none 0 0), .sc (.slice none 0 0)],[.sc (.string ⟨#[102,99]⟩), .sc (.int .i64 (0)), .sc (.int .i64 (0)), .sc (.int .i64 (0)), .sc (.slice none 0 0), .sc (.slice none 0 0)],[.sc (.string ⟨#[102,118]⟩), .sc (.int .i64 (0)), .sc (.int .i64 (0)), .sc (.int .i64 (0)), .sc (.slice none 0 0), .sc (.slice none 0 0)]], .sc (.slice none 0 0), .esl [[.sc (.string ⟨#[109,97,105,110]⟩), .sc (.slice none 0 0), .esl [[.sc (.int .i64 (15)), .sc (.int .i64 (0)), .sc (.string ⟨#[]⟩), .sc (.slice none 0 0), .sc (.slice none 0 0), .sc (.slice none 0 0), .sc (.slice none 0 0)]]]]]]
def mV26_1:AV:=(.sc (.int .i64 (0)))
theorem mR26_1:(callPure rX ⟨0,[],true⟩ 26 mA26_1).map (·.1)=some mV26_1:=by kernel_rfl
theorem mO26_1:∀args H v' H',memoC mA26_1 mV26_1 args H=some (v',H')→Ok envX.P 26 args H v' H':=
 memo_ok envXOk (fun _ _=>rfl) rfl psX dsX tbXOk 5000 5000 mR26_1 (by intro H;rfl) (by intro H;rfl) (by rfl)
def memo26:List AV→Hp→Option (AV×Hp):=memoL [(mA26_0,mV26_0),(mA26_1,mV26_1)]
theorem memoOk26:∀args H v' H',memo26 args H=some (v',H')→Ok envX.P 26 args H v' H':=memoL_ok fun m hm=>by
 simp only[List.mem_cons,List.not_mem_nil,or_false]at hm
 rcases hm with rfl|rfl
 ·exact mO26_0
 ·exact mO26_1
def mA103_0:List AV:=[.sc (.string ⟨#[114,48,32,114,49,32,114,50,32,114,51,32,114,52,32,114,53,32,114,54,32,114,55,32,102,122,32,102,110,32,102,99,32,102,118]⟩)]
def mV103_0:AV:=(.esl [[.sc (.string ⟨#[114,48]⟩)],[.sc (.string ⟨#[114,49]⟩)],[.sc (.string ⟨#[114,50]⟩)],[.sc (.string ⟨#[114,51]⟩)],[.sc (.string ⟨#[114,52]⟩)],[.sc (.string ⟨#[114,53]⟩)],[.sc (.string ⟨#[114,54]⟩)],[.sc (.string ⟨#[114,55]⟩)],[.sc (.string ⟨#[102,122]⟩)],[.sc (.string ⟨#[102,110]⟩)],[.sc (.string ⟨#[102,99]⟩)],[.sc (.string ⟨#[102,118]⟩)]])
theorem mR103_0:(callPure rX ⟨0,[],true⟩ 103 mA103_0).map (·.1)=some mV103_0:=by kernel_rfl
theorem mO103_0:∀args H v' H',memoC mA103_0 mV103_0 args H=some (v',H')→Ok envX.P 103 args H v' H':=
 memo_ok envXOk (fun _ _=>rfl) rfl psX dsX tbXOk 5000 5000 mR103_0 (by intro H;rfl) (by intro H;rfl) (by rfl)
def memo103:List AV→Hp→Option (AV×Hp):=memoL [(mA103_0,mV103_0)]
theorem memoOk103:∀args H v' H',memo103 args H=some (v',H')→Ok envX.P 103 args H v' H':=memoL_ok fun m hm=>by
 simp only[List.mem_cons,List.not_mem_nil,or_false]at hm
 subst hm;exact mO103_0
def mA69_0:List AV:=[.esl [[.sc (.int .u32 (0)), .sc (.int .u32 (36912)), .sc (.int .i64 (5)), .sc (.int .i64 (2)), .sc (.int .i64 (0)), .sc (.int .i64 (0)), .sc (.int .i64 (7)), .sc (.int .i64 (0)), .sc (.int .i64 (0))],[.sc (.int .u32 (0)), .sc (.int .u32 (983036)), .sc (.int .i64 (5)), .sc (.int .i64 (2)), .sc (.int .i64 (0)), .sc (.int .i64 (0)), .sc (.int .i64 (0)), .sc (.int .i64 (0)), .sc (.int .i64 (0))],[.sc (.int .u32 (0)), .sc (.int .u32 (4124)), .sc (.int .i64 (5)), .sc (.int .i64 (2)), .sc (.int .i64 (0)), .sc (.int .i64 (0)), .sc (.int .i64 (2)), .sc (.int .i64 (0)), .sc (.int .i64 (0))],[.sc (.int .u32 (0)), .sc (.int .u32 (0)), .sc (.int .i64 (18)), .sc (.int .i64 (0)), .sc (.int .i64 (4)), .sc (.int .i64 (0)), .sc (.int .i64 (0)), .sc (.int .i64 (2)), .sc (.int .i64 (0))],[.sc (.int .u32 (0)), .sc (.int .u32 (0)), .sc (.int .i64 (23)), .sc (.int .i64 (0)), .sc (.int .i64 (0)), .sc (.int .i64 (0)), .sc (.int .i64 (0)), .sc (.int .i64 (0)), .sc (.int .i64 (0))],[.sc (.int .u32 (0)), .sc (.int .u32 (0)), .sc (.int .i64 (1)), .sc (.int .i64 (0)), .sc (.int .i64 (0)), .sc (.int .i64 (0)), .sc (.int .i64 (0)), .sc (.int .i64 (0)), .sc (.int .i64 (0))],[.sc (.int .u32 (0)), .sc (.int .u32 (0)), .sc (.int .i64 (1)), .sc (.int .i64 (0)), .sc (.int .i64 (0)), .sc (.int .i64 (0)), .sc (.int .i64 (0)), .sc (.int .i64 (0)), .sc (.int .i64 (0))],[.sc (.int .u32 (0)), .sc (.int .u32 (0)), .sc (.int .i64 (2)), .sc (.int .i64 (0)), .sc (.int .i64 (0)), .sc (.int .i64 (0)), .sc (.int .i64 (0)), .sc (.int .i64 (0)), .sc (.int .i64 (0))]], .esl [[.sc (.int .i64 (-1))],[.sc (.int .i64 (-1))],[.sc (.int .i64 (-1))],[.sc (.int .i64 (-1))],[.sc (.int .i64 (6))],[.sc (.int .i64 (-1))],[.sc (.int .i64 (-1))],[.sc (.int .i64 (-1))]], .sc (.int .u32 (0))]
def mV69_0:AV:= .tup [.sl 1 9 0 8, .sc (.int .i64 (0))]
def mH69_0:Hp:=⟨21,[some (.cells [.sc (.int .u32 (0)), .sc (.int .u32 (6)), .sc (.int .u32 (12)), .sc (.int .u32 (18)), .sc (.int .u32 (21)), .sc (.int .u32 (26)), .sc (.int .u32 (27)), .sc (.int .u32 (28)), .sc (.int .u32 (29))]),some (.cells [.sc (.int .u32 (29))]),none,some (.cells [.sc (.int .u32 (28))]),none,some (.cells [.sc (.int .u32 (27))]),none,some (.cells [.sc (.int .u32 (26))]),none,some (.cells [.sc (.int .u32 (21))]),none,some (.cells [.sc (.int .u32 (18))]),none,some (.cells [.sc (.int .u32 (12))]),none,some (.cells [.sc (.int .u32 (6))]),none,some (.cells [.sc (.int .u32 (0))]),none,some (.cells [.sc (.int .u32 (0)), .sc (.int .u32 (36912)), .sc (.int .i64 (5)), .sc (.int .i64 (2)), .sc (.int .i64 (0)), .sc (.int .i64 (0)), .sc (.int .i64 (7)), .sc (.int .i64 (0)), .sc (.int .i64 (6)), .sc (.int .u32 (6)), .sc (.int .u32 (983036)), .sc (.int .i64 (5)), .sc (.int .i64 (2)), .sc (.int .i64 (0)), .sc (.int .i64 (0)), .sc (.int .i64 (0)), .sc (.int .i64 (0)), .sc (.int .i64 (6)), .sc (.int .u32 (12)), .sc (.int .u32 (4124)), .sc (.int .i64 (5)), .sc (.int .i64 (2)), .sc (.int .i64 (0)), .sc (.int .i64 (0)), .sc (.int .i64 (2)), .sc (.int .i64 (0)), .sc (.int .i64 (6)), .sc (.int .u32 (18)), .sc (.int .u32 (0)), .sc (.int .i64 (18)), .sc (.int .i64 (0)), .sc (.int .i64 (4)), .sc (.int .i64 (0)), .sc (.int .i64 (0)), .sc (.int .i64 (2)), .sc (.int .i64 (3)), .sc (.int .u32 (21)), .sc (.int .u32 (27)), .sc (.int .i64 (23)), .sc (.int .i64 (0)), .sc (.int .i64 (0)), .sc (.int .i64 (0)), .sc (.int .i64 (0)), .sc (.int .i64 (0)), .sc (.int .i64 (5)), .sc (.int .u32 (26)), .sc (.int .u32 (0)), .sc (.int .i64 (1)), .sc (.int .i64 (0)), .sc (.int .i64 (0)), .sc (.int .i64 (0)), .sc (.int .i64 (0)), .sc (.int .i64 (0)), .sc (.int .i64 (1)), .sc (.int .u32 (27)), .sc (.int .u32 (0)), .sc (.int .i64 (1)), .sc (.int .i64 (0)), .sc (.int .i64 (0)), .sc (.int .i64 (0)), .sc (.int .i64 (0)), .sc (.int .i64 (0)), .sc (.int .i64 (1)), .sc (.int .u32 (28)), .sc (.int .u32 (0)), .sc (.int .i64 (2)), .sc (.int .i64 (0)), .sc (.int .i64 (0)), .sc (.int .i64 (0)), .sc (.int .i64 (0)), .sc (.int .i64 (0)), .sc (.int .i64 (1))]),none],true⟩
theorem mR69_0:rX 69 mA69_0 ⟨0,[],true⟩=some (mV69_0,mH69_0):=by kernel_rfl
theorem mO69_0:∀args H v' H',memoR mA69_0 mV69_0 mH69_0 args H=some (v',H')→Ok envX.P 69 args H v' H':=
 memoR_ok envXOk (fun _ _=>rfl) rfl psX dsX tbXOk 5000 5000 mR69_0 (by rfl)
def mA69_1:List AV:=[.esl [[.sc (.int .u32 (0)), .sc (.int .u32 (36912)), .sc (.int .i64 (5)), .sc (.int .i64 (2)), .sc (.int .i64 (0)), .sc (.int .i64 (0)), .sc (.int .i64 (7)), .sc (.int .i64 (0)), .sc (.int .i64 (0))],[.sc (.int .u32 (0)), .sc (.int .u32 (983036)), .sc (.int .i64 (5)), .sc (.int .i64 (2)), .sc (.int .i64 (0)), .sc (.int .i64 (0)), .sc (.int .i64 (0)), .sc (.int .i64 (0)), .sc (.int .i64 (0))],[.sc (.int .u32 (0)), .sc (.int .u32 (4124)), .sc (.int .i64 (5)), .sc (.int .i64 (2)), .sc (.int .i64 (0)), .sc (.int .i64 (0)), .sc (.int .i64 (2)), .sc (.int .i64 (0)), .sc (.int .i64 (0))],[.sc (.int .u32 (0)), .sc (.int .u32 (0)), .sc (.int .i64 (18)), .sc (.int .i64 (0)), .sc (.int .i64 (4)), .sc (.int .i64 (0)), .sc (.int .i64 (0)), .sc (.int .i64 (2)), .sc (.int .i64 (0))],[.sc (.int .u32 (0)), .sc (.int .u32 (0)), .sc (.int .i64 (23)), .sc (.int .i64 (0)), .sc (.int .i64 (0)), .sc (.int .i64 (0)), .sc (.int .i64 (0)), .sc (.int .i64 (0)), .sc (.int .i64 (0))],[.sc (.int .u32 (0)), .sc (.int .u32 (0)), .sc (.int .i64 (1)), .sc (.int .i64 (0)), .sc (.int .i64 (0)), .sc (.int .i64 (0)), .sc (.int .i64 (0)), .sc (.int .i64 (0)), .sc (.int .i64 (0))],[.sc (.int .u32 (0)), .sc (.int .u32 (0)), .sc (.int .i64 (1)), .sc (.int .i64 (0)), .sc (.int .i64 (0)), .sc (.int .i64 (0)), .sc (.int .i64 (0)), .sc (.int .i64 (0)), .sc (.int .i64 (0))],[.sc (.int .u32 (0)), .sc (.int .u32 (0)), .sc (.int .i64 (2)), .sc (.int .i64 (0)), .sc (.int .i64 (0)), .sc (.int .i64 (0)), .sc (.int .i64 (0)), .sc (.int .i64 (0)), .sc (.int .i64 (0))]], .esl [[.sc (.int .i64 (-1))],[.sc (.int .i64 (-1))],[.sc (.int .i64 (-1))],[.sc (.int .i64 (-1))],[.sc (.int .i64 (6))],[.sc (.int .i64 (-1))],[.sc (.int .i64 (-1))],[.sc (.int .i64 (-1))]], .sc (.int .u32 (36912))]
def mV69_1:AV:= .tup [.sl 1 9 0 8, .sc (.int .i64 (0))]
def mH69_1:Hp:=⟨21,[some (.cells [.sc (.int .u32 (36912)), .sc (.int .u32 (36918)), .sc (.int .u32 (36924)), .sc (.int .u32 (36930)), .sc (.int .u32 (36933)), .sc (.int .u32 (36938)), .sc (.int .u32 (36939)), .sc (.int .u32 (36940)), .sc (.int .u32 (36941))]),some (.cells [.sc (.int .u32 (36941))]),none,some (.cells [.sc (.int .u32 (36940))]),none,some (.cells [.sc (.int .u32 (36939))]),none,some (.cells [.sc (.int .u32 (36938))]),none,some (.cells [.sc (.int .u32 (36933))]),none,some (.cells [.sc (.int .u32 (36930))]),none,some (.cells [.sc (.int .u32 (36924))]),none,some (.cells [.sc (.int .u32 (36918))]),none,some (.cells [.sc (.int .u32 (36912))]),none,some (.cells [.sc (.int .u32 (36912)), .sc (.int .u32 (36912)), .sc (.int .i64 (5)), .sc (.int .i64 (2)), .sc (.int .i64 (0)), .sc (.int .i64 (0)), .sc (.int .i64 (7)), .sc (.int .i64 (0)), .sc (.int .i64 (6)), .sc (.int .u32 (36918)), .sc (.int .u32 (983036)), .sc (.int .i64 (5)), .sc (.int .i64 (2)), .sc (.int .i64 (0)), .sc (.int .i64 (0)), .sc (.int .i64 (0)), .sc (.int .i64 (0)), .sc (.int .i64 (6)), .sc (.int .u32 (36924)), .sc (.int .u32 (4124)), .sc (.int .i64 (5)), .sc (.int .i64 (2)), .sc (.int .i64 (0)), .sc (.int .i64 (0)), .sc (.int .i64 (2)), .sc (.int .i64 (0)), .sc (.int .i64 (6)), .sc (.int .u32 (36930)), .sc (.int .u32 (0)), .sc (.int .i64 (18)), .sc (.int .i64 (0)), .sc (.int .i64 (4)), .sc (.int .i64 (0)), .sc (.int .i64 (0)), .sc (.int .i64 (2)), .sc (.int .i64 (3)), .sc (.int .u32 (36933)), .sc (.int .u32 (36939)), .sc (.int .i64 (23)), .sc (.int .i64 (0)), .sc (.int .i64 (0)), .sc (.int .i64 (0)), .sc (.int .i64 (0)), .sc (.int .i64 (0)), .sc (.int .i64 (5)), .sc (.int .u32 (36938)), .sc (.int .u32 (0)), .sc (.int .i64 (1)), .sc (.int .i64 (0)), .sc (.int .i64 (0)), .sc (.int .i64 (0)), .sc (.int .i64 (0)), .sc (.int .i64 (0)), .sc (.int .i64 (1)), .sc (.int .u32 (36939)), .sc (.int .u32 (0)), .sc (.int .i64 (1)), .sc (.int .i64 (0)), .sc (.int .i64 (0)), .sc (.int .i64 (0)), .sc (.int .i64 (0)), .sc (.int .i64 (0)), .sc (.int .i64 (1)), .sc (.int .u32 (36940)), .sc (.int .u32 (0)), .sc (.int .i64 (2)), .sc (.int .i64 (0)), .sc (.int .i64 (0)), .sc (.int .i64 (0)), .sc (.int .i64 (0)), .sc (.int .i64 (0)), .sc (.int .i64 (1))]),none],true⟩
theorem mR69_1:rX 69 mA69_1 ⟨0,[],true⟩=some (mV69_1,mH69_1):=by kernel_rfl
theorem mO69_1:∀args H v' H',memoR mA69_1 mV69_1 mH69_1 args H=some (v',H')→Ok envX.P 69 args H v' H':=
 memoR_ok envXOk (fun _ _=>rfl) rfl psX dsX tbXOk 5000 5000 mR69_1 (by rfl)
def memo69:List AV→Hp→Option (AV×Hp):=memoRL [(mA69_0,mV69_0,mH69_0),(mA69_1,mV69_1,mH69_1)]
theorem memoOk69:∀args H v' H',memo69 args H=some (v',H')→Ok envX.P 69 args H v' H':=memoRL_ok fun m hm=>by
 simp only[List.mem_cons,List.not_mem_nil,or_false]at hm
 rcases hm with rfl|rfl
 ·exact mO69_0
 ·exact mO69_1
def mA70_0:List AV:=[.esl [[.sc (.int .u32 (0)), .sc (.int .u32 (36912)), .sc (.int .i64 (5)), .sc (.int .i64 (2)), .sc (.int .i64 (0)), .sc (.int .i64 (0)), .sc (.int .i64 (7)), .sc (.int .i64 (0)), .sc (.int .i64 (6))],[.sc (.int .u32 (6)), .sc (.int .u32 (983036)), .sc (.int .i64 (5)), .sc (.int .i64 (2)), .sc (.int .i64 (0)), .sc (.int .i64 (0)), .sc (.int .i64 (0)), .sc (.int .i64 (0)), .sc (.int .i64 (6))],[.sc (.int .u32 (12)), .sc (.int .u32 (4124)), .sc (.int .i64 (5)), .sc (.int .i64 (2)), .sc (.int .i64 (0)), .sc (.int .i64 (0)), .sc (.int .i64 (2)), .sc (.int .i64 (0)), .sc (.int .i64 (6))],[.sc (.int .u32 (18)), .sc (.int .u32 (0)), .sc (.int .i64 (18)), .sc (.int .i64 (0)), .sc (.int .i64 (4)), .sc (.int .i64 (0)), .sc (.int .i64 (0)), .sc (.int .i64 (2)), .sc (.int .i64 (3))],[.sc (.int .u32 (21)), .sc (.int .u32 (27)), .sc (.int .i64 (23)), .sc (.int .i64 (0)), .sc (.int .i64 (0)), .sc (.int .i64 (0)), .sc (.int .i64 (0)), .sc (.int .i64 (0)), .sc (.int .i64 (5))],[.sc (.int .u32 (26)), .sc (.int .u32 (0)), .sc (.int .i64 (1)), .sc (.int .i64 (0)), .sc (.int .i64 (0)), .sc (.int .i64 (0)), .sc (.int .i64 (0)), .sc (.int .i64 (0)), .sc (.int .i64 (1))],[.sc (.int .u32 (27)), .sc (.int .u32 (0)), .sc (.int .i64 (1)), .sc (.int .i64 (0)), .sc (.int .i64 (0)), .sc (.int .i64 (0)), .sc (.int .i64 (0)), .sc (.int .i64 (0)), .sc (.int .i64 (1))],[.sc (.int .u32 (28)), .sc (.int .u32 (0)), .sc (.int .i64 (2)), .sc (.int .i64 (0)), .sc (.int .i64 (0)), .sc (.int .i64 (0)), .sc (.int .i64 (0)), .sc (.int .i64 (0)), .sc (.int .i64 (1))]]]
def mV70_0:AV:= .tup [.sl 16 1 0 29, .sc (.int .i64 (0))]
def mH70_0:Hp:=⟨17,[some (.cells [.sc (.int .u8 (64)), .sc (.int .u8 (7)), .sc (.int .u8 (48)), .sc (.int .u8 (144)), .sc (.int .u8 (0)), .sc (.int .u8 (0)), .sc (.int .u8 (64)), .sc (.int .u8 (0)), .sc (.int .u8 (252)), .sc (.int .u8 (255)), .sc (.int .u8 (14)), .sc (.int .u8 (0)), .sc (.int .u8 (64)), .sc (.int .u8 (2)), .sc (.int .u8 (28)), .sc (.int .u8 (16)), .sc (.int .u8 (0)), .sc (.int .u8 (0)), .sc (.int .u8 (85)), .sc (.int .u8 (2)), .sc (.int .u8 (0)), .sc (.int .u8 (128)), .sc (.int .u8 (1)), .sc (.int .u8 (0)), .sc (.int .u8 (0)), .sc (.int .u8 (0)), .sc (.int .u8 (1)), .sc (.int .u8 (1)), .sc (.int .u8 (2))]),some (.cells [.sc (.int .u32 (28)), .sc (.int .u32 (0)), .sc (.int .i64 (2)), .sc (.int .i64 (0)), .sc (.int .i64 (0)), .sc (.int .i64 (0)), .sc (.int .i64 (0)), .sc (.int .i64 (0)), .sc (.int .i64 (1))]),none,some (.cells [.sc (.int .u32 (27)), .sc (.int .u32 (0)), .sc (.int .i64 (1)), .sc (.int .i64 (0)), .sc (.int .i64 (0)), .sc (.int .i64 (0)), .sc (.int .i64 (0)), .sc (.int .i64 (0)), .sc (.int .i64 (1))]),none,some (.cells [.sc (.int .u32 (26)), .sc (.int .u32 (0)), .sc (.int .i64 (1)), .sc (.int .i64 (0)), .sc (.int .i64 (0)), .sc (.int .i64 (0)), .sc (.int .i64 (0)), .sc (.int .i64 (0)), .sc (.int .i64 (1))]),none,some (.cells [.sc (.int .u32 (21)), .sc (.int .u32 (27)), .sc (.int .i64 (23)), .sc (.int .i64 (0)), .sc (.int .i64 (0)), .sc (.int .i64 (0)), .sc (.int .i64 (0)), .sc (.int .i64 (0)), .sc (.int .i64 (5))]),none,some (.cells [.sc (.int .u32 (18)), .sc (.int .u32 (0)), .sc (.int .i64 (18)), .sc (.int .i64 (0)), .sc (.int .i64 (4)), .sc (.int .i64 (0)), .sc (.int .i64 (0)), .sc (.int .i64 (2)), .sc (.int .i64 (3))]),none,some (.cells [.sc (.int .u32 (12)), .sc (.int .u32 (4124)), .sc (.int .i64 (5)), .sc (.int .i64 (2)), .sc (.int .i64 (0)), .sc (.int .i64 (0)), .sc (.int .i64 (2)), .sc (.int .i64 (0)), .sc (.int .i64 (6))]),none,some (.cells [.sc (.int .u32 (6)), .sc (.int .u32 (983036)), .sc (.int .i64 (5)), .sc (.int .i64 (2)), .sc (.int .i64 (0)), .sc (.int .i64 (0)), .sc (.int .i64 (0)), .sc (.int .i64 (0)), .sc (.int .i64 (6))]),none,some (.cells [.sc (.int .u32 (0)), .sc (.int .u32 (36912)), .sc (.int .i64 (5)), .sc (.int .i64 (2)), .sc (.int .i64 (0)), .sc (.int .i64 (0)), .sc (.int .i64 (7)), .sc (.int .i64 (0)), .sc (.int .i64 (6))]),some (.cells [.sl 16 1 0 29])],true⟩
theorem mR70_0:rX 70 mA70_0 ⟨0,[],true⟩=some (mV70_0,mH70_0):=by kernel_rfl
theorem mO70_0:∀args H v' H',memoR mA70_0 mV70_0 mH70_0 args H=some (v',H')→Ok envX.P 70 args H v' H':=
 memoR_ok envXOk (fun _ _=>rfl) rfl psX dsX tbXOk 5000 5000 mR70_0 (by rfl)
def mA70_1:List AV:=[.esl [[.sc (.int .u32 (36912)), .sc (.int .u32 (36912)), .sc (.int .i64 (5)), .sc (.int .i64 (2)), .sc (.int .i64 (0)), .sc (.int .i64 (0)), .sc (.int .i64 (7)), .sc (.int .i64 (0)), .sc (.int .i64 (6))],[.sc (.int .u32 (36918)), .sc (.int .u32 (983036)), .sc (.int .i64 (5)), .sc (.int .i64 (2)), .sc (.int .i64 (0)), .sc (.int .i64 (0)), .sc (.int .i64 (0)), .sc (.int .i64 (0)), .sc (.int .i64 (6))],[.sc (.int .u32 (36924)), .sc (.int .u32 (4124)), .sc (.int .i64 (5)), .sc (.int .i64 (2)), .sc (.int .i64 (0)), .sc (.int .i64 (0)), .sc (.int .i64 (2)), .sc (.int .i64 (0)), .sc (.int .i64 (6))],[.sc (.int .u32 (36930)), .sc (.int .u32 (0)), .sc (.int .i64 (18)), .sc (.int .i64 (0)), .sc (.int .i64 (4)), .sc (.int .i64 (0)), .sc (.int .i64 (0)), .sc (.int .i64 (2)), .sc (.int .i64 (3))],[.sc (.int .u32 (36933)), .sc (.int .u32 (36939)), .sc (.int .i64 (23)), .sc (.int .i64 (0)), .sc (.int .i64 (0)), .sc (.int .i64 (0)), .sc (.int .i64 (0)), .sc (.int .i64 (0)), .sc (.int .i64 (5))],[.sc (.int .u32 (36938)), .sc (.int .u32 (0)), .sc (.int .i64 (1)), .sc (.int .i64 (0)), .sc (.int .i64 (0)), .sc (.int .i64 (0)), .sc (.int .i64 (0)), .sc (.int .i64 (0)), .sc (.int .i64 (1))],[.sc (.int .u32 (36939)), .sc (.int .u32 (0)), .sc (.int .i64 (1)), .sc (.int .i64 (0)), .sc (.int .i64 (0)), .sc (.int .i64 (0)), .sc (.int .i64 (0)), .sc (.int .i64 (0)), .sc (.int .i64 (1))],[.sc (.int .u32 (36940)), .sc (.int .u32 (0)), .sc (.int .i64 (2)), .sc (.int .i64 (0)), .sc (.int .i64 (0)), .sc (.int .i64 (0)), .sc (.int .i64 (0)), .sc (.int .i64 (0)), .sc (.int .i64 (1))]]]
def mV70_1:AV:= .tup [.sl 16 1 0 29, .sc (.int .i64 (0))]
def mH70_1:Hp:=⟨17,[some (.cells [.sc (.int .u8 (64)), .sc (.int .u8 (7)), .sc (.int .u8 (48)), .sc (.int .u8 (144)), .sc (.int .u8 (0)), .sc (.int .u8 (0)), .sc (.int .u8 (64)), .sc (.int .u8 (0)), .sc (.int .u8 (252)), .sc (.int .u8 (255)), .sc (.int .u8 (14)), .sc (.int .u8 (0)), .sc (.int .u8 (64)), .sc (.int .u8 (2)), .sc (.int .u8 (28)), .sc (.int .u8 (16)), .sc (.int .u8 (0)), .sc (.int .u8 (0)), .sc (.int .u8 (85)), .sc (.int .u8 (2)), .sc (.int .u8 (0)), .sc (.int .u8 (128)), .sc (.int .u8 (1)), .sc (.int .u8 (0)), .sc (.int .u8 (0)), .sc (.int .u8 (0)), .sc (.int .u8 (1)), .sc (.int .u8 (1)), .sc (.int .u8 (2))]),some (.cells [.sc (.int .u32 (36940)), .sc (.int .u32 (0)), .sc (.int .i64 (2)), .sc (.int .i64 (0)), .sc (.int .i64 (0)), .sc (.int .i64 (0)), .sc (.int .i64 (0)), .sc (.int .i64 (0)), .sc (.int .i64 (1))]),none,some (.cells [.sc (.int .u32 (36939)), .sc (.int .u32 (0)), .sc (.int .i64 (1)), .sc (.int .i64 (0)), .sc (.int .i64 (0)), .sc (.int .i64 (0)), .sc (.int .i64 (0)), .sc (.int .i64 (0)), .sc (.int .i64 (1))]),none,some (.cells [.sc (.int .u32 (36938)), .sc (.int .u32 (0)), .sc (.int .i64 (1)), .sc (.int .i64 (0)), .sc (.int .i64 (0)), .sc (.int .i64 (0)), .sc (.int .i64 (0)), .sc (.int .i64 (0)), .sc (.int .i64 (1))]),none,some (.cells [.sc (.int .u32 (36933)), .sc (.int .u32 (36939)), .sc (.int .i64 (23)), .sc (.int .i64 (0)), .sc (.int .i64 (0)), .sc (.int .i64 (0)), .sc (.int .i64 (0)), .sc (.int .i64 (0)), .sc (.int .i64 (5))]),none,some (.cells [.sc (.int .u32 (36930)), .sc (.int .u32 (0)), .sc (.int .i64 (18)), .sc (.int .i64 (0)), .sc (.int .i64 (4)), .sc (.int .i64 (0)), .sc (.int .i64 (0)), .sc (.int .i64 (2)), .sc (.int .i64 (3))]),none,some (.cells [.sc (.int .u32 (36924)), .sc (.int .u32 (4124)), .sc (.int .i64 (5)), .sc (.int .i64 (2)), .sc (.int .i64 (0)), .sc (.int .i64 (0)), .sc (.int .i64 (2)), .sc (.int .i64 (0)), .sc (.int .i64 (6))]),none,some (.cells [.sc (.int .u32 (36918)), .sc (.int .u32 (983036)), .sc (.int .i64 (5)), .sc (.int .i64 (2)), .sc (.int .i64 (0)), .sc (.int .i64 (0)), .sc (.int .i64 (0)), .sc (.int .i64 (0)), .sc (.int .i64 (6))]),none,some (.cells [.sc (.int .u32 (36912)), .sc (.int .u32 (36912)), .sc (.int .i64 (5)), .sc (.int .i64 (2)), .sc (.int .i64 (0)), .sc (.int .i64 (0)), .sc (.int .i64 (7)), .sc (.int .i64 (0)), .sc (.int .i64 (6))]),some (.cells [.sl 16 1 0 29])],true⟩
theorem mR70_1:rX 70 mA70_1 ⟨0,[],true⟩=some (mV70_1,mH70_1):=by kernel_rfl
theorem mO70_1:∀args H v' H',memoR mA70_1 mV70_1 mH70_1 args H=some (v',H')→Ok envX.P 70 args H v' H':=
 memoR_ok envXOk (fun _ _=>rfl) rfl psX dsX tbXOk 5000 5000 mR70_1 (by rfl)
def memo70:List AV→Hp→Option (AV×Hp):=memoRL [(mA70_0,mV70_0,mH70_0),(mA70_1,mV70_1,mH70_1)]
theorem memoOk70:∀args H v' H',memo70 args H=some (v',H')→Ok envX.P 70 args H v' H':=memoRL_ok fun m hm=>by
 simp only[List.mem_cons,List.not_mem_nil,or_false]at hm
 rcases hm with rfl|rfl
 ·exact mO70_0
 ·exact mO70_1
def tbY:Tb:=((((tbX.add 26 memo26 (fun _ _=>[])).add 69 memo69 (fun _ _=>[])).add 70 memo70 (fun _ _=>[])).add 103 memo103 (fun _ _=>[]))
def envY:Env:={envX with pre:=tbY.O}
theorem envYOk:EnvOk envY:=envXOk
theorem tbXOkY:TbOk envY tbX:=TbOk.nil.add (by kernel_rfl) fun args H v H' h _=>contC_ok contSaidX args H v H' h
theorem tbYOk:TbOk envY tbY:=((((tbXOkY.add (by kernel_rfl) fun args H v H' h _=>memoOk26 args H v H' h).add (by kernel_rfl) fun args H v H' h _=>memoOk69 args H v H' h).add (by kernel_rfl) fun args H v H' h _=>memoOk70 args H v H' h).add (by kernel_rfl) fun args H v H' h _=>memoOk103 args H v H' h)
def S10:FunS:=⟨[],[],[⟨true, .bool⟩],[]⟩
theorem ex10:liftC envY tbY (runP envY psX dsX tbY 5000 5000).d 10 S10 []=some [.bool true]:=by kernel_rfl
def q10:List D→Option (List D):=veil fun ds=>liftC envY tbY (runP envY psX dsX tbY 5000 5000).d 10 S10 ds
theorem q10_eq:q10 []=some [.bool true]:=by unfold q10;rw[veil_eq];exact ex10
theorem sound10:SoundF env.P 10 S10 q10:=by
 unfold q10;rw[veil_eq]
 exact liftC_sound envY tbY (runP_sound envYOk (fun _ _=>rfl) rfl psX dsX tbYOk 5000 5000)
end
end Go.Proofs.YteccopaonadbeaaGreatDoor
namespace Go.Proofs.YteccopaonadbeaaGreatDoor
open Go Go.AM
set_option maxRecDepth 100000
theorem lift_ok {e:Env} {tb:Tb} (hok:EnvOk e) (h:TbOk e tb) (K n:Nat) {f:FuncId} {S:FunS} {av:List AV} {p r:List D} {H:Hp}
 (hr:bodyK (envF e tb f) (runTb e tb K n) K f av H (retF S p)=some r) (hH:H.n=S.hs.length):Ok e.P f av H (resF S p (bdL r)) (heapR S p (bdL r)):=by
 intro lo w0 ρ E w vs inv ra
 refine(bodyK_sound (env:=envF e tb f) (envF_ok hok f) K (runTb_fn h K n) (runTb_sound hok h K n) f (fun F hF x hx n0 g hg=>h.l f F x n0 g hF hx hg) hr lo w0 ρ E w vs inv ra).mono ?_
 rintro e' w' ⟨u,ρ',E',v0,Hc,rfl,inv',reach,hrep,hk⟩
 unfold retF at hk
 split at hk
 ·rename_i q hq
  obtain⟨h1,h2⟩:=guardAll_some hk
  cases h2
  obtain⟨o1,o2⟩:=allB_both h1
  have hp:=eqD2_eq o2
  have st:St lo w0 ρ E w ρ' E' Hc [v0] {tmps:= #[u],defers:=[]} w':=⟨inv',⟨rfl,fun t x ht=>by
   cases t with
   |zero=>simp at ht;subst ht;simpa using hrep
   |succ t=>simp at ht,rfl⟩,reach⟩
  obtain⟨ρ2,E2,st2⟩:=nrmC_wk hq o1 (σp:=bdL p) (σs:=bdL q.s) (js:=0) (by rw[hp];exact bdL_ats p) (bdL_ats q.s) lo w0 ρ E w ρ' E' _ w' (by rw[← hH];exact inv.dom) st
  refine⟨u,ρ2,E2,rfl,st2.inv,st2.reach,?_⟩
  unfold resF
  cases hm:mkFr (bdL p) (bdL q.s) S.rs S.rhs 0 with
  |nil=>simp only[List.headD_nil,Rep]
  |cons x xs=>
   have:=st2.fr.rep 0 x (by rw[hm];rfl)
   simpa using this
 ·cases hk
end Go.Proofs.YteccopaonadbeaaGreatDoor
namespace Go.Proofs.YteccopaonadbeaaGreatDoor
open Go Go.AM
noncomputable def tb97:Tb:=Tb.nil.add 97 contC (fun _ _=>[])
theorem ok_tb97:TbOk env tb97:=TbOk.nil.add (by kernel_rfl) fun args H v H' h _=>contC_ok contSaidX args H v H' h
end Go.Proofs.YteccopaonadbeaaGreatDoor
open Go Go.AM
namespace Go.Proofs.YteccopaonadbeaaGreatDoor
noncomputable section
set_option maxRecDepth 100000
set_option linter.unusedSimpArgs false
set_option linter.unusedVariables false
set_option linter.defProp false
def S59_2:LoopS:=⟨0,[⟨false, .str⟩,uF,⟨false,(.lit (.bool false))⟩,uF,uF,uF,uF,⟨false,(.ptr 0 0)⟩,uF,uF,uF,uF,uF,uF,uF,uF,uF,uF,uF,uF,uF,uF,uF,uF,uF,uF,uF,uF,uF,uF,uF,uF,uF,uF,uF,uF,uF,uF,uF,uF,uF,uF,uF,uF,uF,uF,uF,uF,uF,uF,uF,uF,uF,uF,uF,uF,uF,uF,uF,uF,uF,uF],[.sit],[⟨0,0,[⟨false, .str⟩,uT,⟨true,(.lit (.bool false))⟩,uT,uT,uT,uT,uT,uT,uT,uT,uT,uT,uT,uT,uT,uT,uT,uT,uT,uT,uT,uT,uT,uT,uT,uT,uT,uT,uT,uT,uT,uT,uT,uT,uT,uT,uT,uT,uT,uT,uT,uT,uT,uT,uT,uT,uT,uT,uT,uT,uT,uT,uT,uT,uT,uT,uT,uT,uT,uT,uT],[.sit]⟩,⟨1,0,[⟨false, .str⟩,uT,⟨true,(.lit (.bool false))⟩,uT,uT,uT,uT,uT,uT,uT,uT,uT,uT,uT,uT,uT,uT,uT,uT,uT,uT,uT,uT,uT,uT,uT,uT,uT,uT,uT,uT,uT,uT,uT,uT,uT,uT,uT,uT,uT,uT,uT,uT,uT,uT,uT,uT,uT,uT,uT,uT,uT,uT,uT,uT,uT,uT,uT,uT,uT,uT,uT],[.sit]⟩]⟩
def st59_2 (p s:List D):Option (Sum (List D) (List D)):=stepQX env tb97 60 12 59 (loopC 59 2) S59_2 p s
theorem st59_2_e (ps0:ByteArray) (ps1:ByteArray) (sn0:Int):st59_2 [(D.str ps0),(D.str ps1)] [(D.int sn0)] =
 let y0:=qiteB (qcmp .geq (qrune ps1 sn0) 97) (qcmp .leq (qrune ps1 sn0) 122) false
 let y1:=qiteB (qcmp .geq (qrune ps1 sn0) 65) (qcmp .leq (qrune ps1 sn0) 90) false
 let y2:=qiteB (qiteB y0 true y1) true (qcmp .eql (qrune ps1 sn0) 95)
 let y3:=qnot (qiteB y2 true (qcmp .eql (qrune ps1 sn0) 46))
 let y4:=qiteB (qcmp .eql sn0 0) true (qcmp .lss (qrune ps1 sn0) 48)
 let y5:=qiteB y3 (qiteB y4 true (qcmp .gtr (qrune ps1 sn0) 57)) false
 let x0:=qcmp .lss sn0 (qlenS ps1)
 let x1:=D.str ps0
 let x2:=D.str ps1
 let x3:=D.int (qiteI x0 (qrw ps1 sn0) sn0)
 bif x0 then gd x0<|gd x0<|bif y5 then ge x1<|ge x2<|some (Sum.inr [.int 1,x3])else ge x1<|ge x2<|some (Sum.inl [x3])else ge x1<|ge x2<|some (Sum.inr [.int 0,x3]):=by kernel_rfl
def st59_2_eq:=by have h:= @st59_2_e;simp only[ge_id,gd,qeqD_self,qeqI_self,qeqB_self,qand_tt,qeq_len,qeq_l,cond_true]at h;exact h
def l59_2:List D→List D→Option (List D):=veil fun p s=>loW (st59_2 p) s
theorem l59_2_eq:l59_2=fun p s=>loW (st59_2 p) s:=veil_eq _
def tbl59_2:Tb:=Tb.addL tb97 59 2 S59_2.n0 (mkLp S59_2 (l59_2))
theorem ok_tbl59_2:TbOk env (tbl59_2):=addLoopQ ok_tb97 59 2 (by kernel_rfl) _ (l59_2_eq)
def S59:FunS:=⟨[⟨true, .str⟩],[],[⟨true, .bool⟩],[]⟩
def F59:List D→Option (List D):=liftX env tbl59_2 60 12 59 S59
theorem F59_e (ss0:ByteArray):F59 [(D.str ss0)] =
 let y0:=l59_2 [(.str ss0),(.str ss0)] [(.int 0)]
 let y1:=qiteB (qcmpS .neq ss0 (ByteArray.mk #[])) (qcmp .leq (qlenS ss0) 32) false
 let y2:=qcatOk (qcat (ByteArray.mk #[32]) ss0) (ByteArray.mk #[32])
 let y3:=qiteB y1 (qand (qcatOk (ByteArray.mk #[32]) ss0) y2) true
 let y4:=qhas (ByteArray.mk #[32,98,114,101,97,107,32,99,97,108,108,32,99,97,115,101,32,99,111,110,116,105,110,117,101,32,100,97,116,97,32,101,108,115,101,32,101,120,101,99,32,102,117,110,99,32,103,111,116,111,32,104,97,108,116,32,105,102,32,105,110,32,108,111,111,112,32,111,117,116,32,114,101,116,117,114,110,32,115,119,105,116,99,104,32,118,97,114,32,119,104,105,108,101,32,119,114,105,116,101,32,108,111,97,100,49,32,108,111,97,100,50,32,108,111,97,100,52,32,115,101,120,116,49,32,115,101,120,116,50,32,115,116,111,114,101,49,32,115,116,111,114,101,50,32,115,116,111,114,101,52,32]) (qcat (qcat (ByteArray.mk #[32]) ss0) (ByteArray.mk #[32]))
 gd (qsome y0)<|bif qcmp .eql (qint (qnth y0 0)) 0 then gd y3<|some [.bool (qiteB y1 (qnot y4) false)]else some [.bool false]:=by kernel_rfl
def F59_eq:=by have h:= @F59_e;simp only[ge_id,gd,qeqD_self,qeqI_self,qeqB_self,qand_tt,qeq_len,qeq_l,cond_true]at h;exact h
def q59:List D→Option (List D):=veil (F59)
theorem q59_eq:q59=F59:=veil_eq _
def tb59:Tb:=Tb.addF tbl59_2 59 S59 (q59)
theorem ok_tb59:TbOk env (tb59):=addFunF ok_tbl59_2 59 (by kernel_rfl) _ (q59_eq)
def S148:FunS:=⟨[],[],[⟨true,(.rows 9)⟩],[]⟩
def F148:List D→Option (List D):=liftX env tb59 60 12 148 S148
theorem F148_eq:F148 [] =
 some [(D.list [(D.str (ByteArray.mk #[98,114,101,97,107])),(D.str (ByteArray.mk #[99,97,108,108])),(D.str (ByteArray.mk #[99,97,115,101])),(D.str (ByteArray.mk #[99,111,110,116,105,110,117,101])),(D.str (ByteArray.mk #[100,97,116,97])),(D.str (ByteArray.mk #[101,108,115,101])),(D.str (ByteArray.mk #[101,120,101,99])),(D.str (ByteArray.mk #[102,117,110,99])),(D.str (ByteArray.mk #[103,111,116,111])),(D.str (ByteArray.mk #[104,97,108,116])),(D.str (ByteArray.mk #[105,102])),(D.str (ByteArray.mk #[105,110])),(D.str (ByteArray.mk #[108,111,111,112])),(D.str (ByteArray.mk #[111,117,116])),(D.str (ByteArray.mk #[114,101,116,117,114,110])),(D.str (ByteArray.mk #[115,119,105,116,99,104])),(D.str (ByteArray.mk #[118,97,114])),(D.str (ByteArray.mk #[119,104,105,108,101])),(D.str (ByteArray.mk #[119,114,105,116,101])),(D.str (ByteArray.mk #[108,111,97,100,49])),(D.str (ByteArray.mk #[108,111,97,100,50])),(D.str (ByteArray.mk #[108,111,97,100,52])),(D.str (ByteArray.mk #[115,101,120,116,49])),(D.str (ByteArray.mk #[115,101,120,116,50])),(D.str (ByteArray.mk #[115,116,111,114,101,49])),(D.str (ByteArray.mk #[115,116,111,114,101,50])),(D.str (ByteArray.mk #[115,116,111,114,101,52]))])]:=by kernel_rfl
def q148:List D→Option (List D):=veil (F148)
theorem q148_eq:q148=F148:=veil_eq _
def tb148:Tb:=Tb.addF tb59 148 S148 (q148)
theorem ok_tb148:TbOk env (tb148):=addFunF ok_tb59 148 (by kernel_rfl) _ (q148_eq)
def S86_2:LoopS:=⟨0,[⟨false, .str⟩,uF,⟨false,(.lit (.bool false))⟩,⟨true,(.int .i64)⟩,uF,uF,uF,uF,uF,uF,uF,uF,uF,uF,uF,uF,uF,uF,uF,uF,uF,uF,uF,uF,uF,uF,uF,uF,uF,uF,uF,uF,uF,uF,uF,uF,uF,uF,uF,uF,uF,uF,uF,uF,uF,uF,uF,uF,uF,uF,uF,uF,uF,uF,uF,uF,uF,uF,uF,uF,uF,uF,uF,uF,uF,uF,uF,uF,uF,uF,uF,uF,uF,uF],[],[⟨0,0,[⟨false, .str⟩,uT,⟨true,(.lit (.bool false))⟩,uT,uT,uT,uT,uT,uT,uT,uT,uT,uT,uT,uT,uT,uT,uT,uT,uT,uT,uT,uT,uT,uT,uT,uT,uT,uT,uT,uT,uT,uT,uT,uT,uT,uT,uT,uT,uT,uT,uT,uT,uT,uT,uT,uT,uT,uT,uT,uT,uT,uT,uT,uT,uT,uT,uT,uT,uT,uT,uT,uT,uT,uT,uT,uT,uT,uT,uT,uT,uT,uT,uT],[]⟩,⟨1,0,[⟨false, .str⟩,uT,⟨true,(.lit (.bool false))⟩,uT,uT,uT,uT,uT,uT,uT,uT,uT,uT,uT,uT,uT,uT,uT,uT,uT,uT,uT,uT,uT,uT,uT,uT,uT,uT,uT,uT,uT,uT,uT,uT,uT,uT,uT,uT,uT,uT,uT,uT,uT,uT,uT,uT,uT,uT,uT,uT,uT,uT,uT,uT,uT,uT,uT,uT,uT,uT,uT,uT,uT,uT,uT,uT,uT,uT,uT,uT,uT,uT,uT],[]⟩]⟩
def st86_2 (p s:List D):Option (Sum (List D) (List D)):=stepQX env tb148 60 12 86 (loopC 86 2) S86_2 p s
theorem st86_2_e (ps0:ByteArray) (sn0:Int):st86_2 [(D.str ps0)] [(D.int sn0)] =
 let y0:=qiteB (qcmp .geq (qidxS ps0 sn0) 97) (qcmp .leq (qidxS ps0 sn0) 122) false
 let y1:=qiteB (qcmp .geq (qidxS ps0 sn0) 65) (qcmp .leq (qidxS ps0 sn0) 90) false
 let y2:=qiteB (qiteB y0 true y1) true (qcmp .eql (qidxS ps0 sn0) 95)
 let y3:=qnot (qiteB y2 true (qcmp .eql (qidxS ps0 sn0) 46))
 let y4:=qiteB (qcmp .eql sn0 0) true (qcmp .lss (qidxS ps0 sn0) 48)
 let y5:=qiteB y3 (qiteB y4 true (qcmp .gtr (qidxS ps0 sn0) 57)) false
 let x0:=D.str ps0
 bif qcmp .lss sn0 (qlenS ps0)then gd (qinbS ps0 sn0)<|bif y5 then ge x0<|some (Sum.inr [.int 1])else ge x0<|some (Sum.inl [.int (qbin .add .i64 sn0 1)])else ge x0<|some (Sum.inr [.int 0]):=by kernel_rfl
def st86_2_eq:=by have h:= @st86_2_e;simp only[ge_id,gd,qeqD_self,qeqI_self,qeqB_self,qand_tt,qeq_len,qeq_l,cond_true]at h;exact h
def l86_2:List D→List D→Option (List D):=veil fun p s=>loW (st86_2 p) s
theorem l86_2_eq:l86_2=fun p s=>loW (st86_2 p) s:=veil_eq _
def tbl86_2:Tb:=Tb.addL tb148 86 2 S86_2.n0 (mkLp S86_2 (l86_2))
theorem ok_tbl86_2:TbOk env (tbl86_2):=addLoopQ ok_tb148 86 2 (by kernel_rfl) _ (l86_2_eq)
def S86_10:LoopS:=⟨0,[⟨false, .str⟩,uF,⟨false,(.lit (.bool false))⟩,uF,uF,uF,⟨false,(.rows 9)⟩,⟨true,(.int .i64)⟩,uF,uF,uF,uF,uF,uF,uF,uF,uF,uF,uF,uF,uF,uF,uF,uF,uF,uF,uF,uF,uF,uF,uF,uF,uF,uF,uF,uF,uF,uF,uF,uF,uF,uF,uF,uF,uF,uF,uF,uF,uF,uF,uF,uF,uF,uF,uF,uF,uF,uF,uF,uF,uF,uF,uF,uF,uF,uF,uF,uF,uF,uF,uF,uF,uF,uF],[],[⟨0,2,[⟨false, .str⟩,uT,⟨true,(.lit (.bool false))⟩,uT,uT,uT,⟨false,(.rows 9)⟩,uT,uT,uT,uT,uT,uT,uT,uT,uT,uT,uT,uT,uT,uT,uT,uT,uT,uT,uT,uT,uT,uT,uT,uT,uT,uT,uT,uT,uT,uT,uT,uT,uT,uT,uT,uT,uT,uT,uT,uT,uT,uT,uT,uT,uT,uT,uT,uT,uT,uT,uT,uT,uT,uT,uT,uT,uT,uT,uT,uT,uT,uT,uT,uT,uT,uT,uT],[]⟩,⟨1,0,[⟨false, .str⟩,uT,⟨true,(.lit (.bool false))⟩,uT,uT,uT,⟨false,(.rows 9)⟩,uT,uT,uT,uT,uT,uT,uT,uT,uT,uT,uT,uT,uT,uT,uT,uT,uT,uT,uT,uT,uT,uT,uT,uT,uT,uT,uT,uT,uT,uT,uT,uT,uT,uT,uT,uT,uT,uT,uT,uT,uT,uT,uT,uT,uT,uT,uT,uT,uT,uT,uT,uT,uT,uT,uT,uT,uT,uT,uT,uT,uT,uT,uT,uT,uT,uT,uT],[]⟩]⟩
def st86_10 (p s:List D):Option (Sum (List D) (List D)):=stepQX env tbl86_2 60 12 86 (loopC 86 10) S86_10 p s
theorem st86_10_e (ps0:ByteArray) (pd1:D) (sn0:Int):st86_10 [(D.str ps0),pd1] [(D.int sn0)] =
 let x0:=D.str ps0
 bif qcmp .lss sn0 (qlen pd1)then gd (qinb pd1 sn0)<|bif qcmpS .eql (qstr (qget pd1 sn0)) ps0 then ge x0<|ge pd1<|some (Sum.inr [.int 1])else ge x0<|ge pd1<|some (Sum.inl [.int (qbin .add .i64 sn0 1)])else ge x0<|ge pd1<|some (Sum.inr [.int 0]):=by kernel_rfl
def st86_10_eq:=by have h:= @st86_10_e;simp only[ge_id,gd,qeqD_self,qeqI_self,qeqB_self,qand_tt,qeq_len,qeq_l,cond_true]at h;exact h
def l86_10:List D→List D→Option (List D):=veil fun p s=>loW (st86_10 p) s
theorem l86_10_eq:l86_10=fun p s=>loW (st86_10 p) s:=veil_eq _
def tbl86_10:Tb:=Tb.addL tbl86_2 86 10 S86_10.n0 (mkLp S86_10 (l86_10))
theorem ok_tbl86_10:TbOk env (tbl86_10):=addLoopQ ok_tbl86_2 86 10 (by kernel_rfl) _ (l86_10_eq)
def S86:FunS:=⟨[⟨true, .str⟩],[],[⟨true, .bool⟩],[]⟩
def F86:List D→Option (List D):=liftX env tbl86_10 60 12 86 S86
theorem F86_e (ss0:ByteArray):F86 [(D.str ss0)] =
 let y0:=l86_2 [(.str ss0)] [(.int 0)]
 let y1:=l86_10 [(.str ss0),(qnth (q148 []) 0)] [(.int 0)]
 let y2:=qiteB (qcmp .gtr (qlenS ss0) 0) (qcmp .leq (qlenS ss0) 32) false
 let x0:Option (List D):=some [.bool false]
 gd (qsome y0)<|bif qcmp .eql (qint (qnth y0 0)) 0 then gd (qsome (q148 []))<|gd (qsome y1)<|bif qcmp .eql (qint (qnth y1 0)) 0 then some [.bool y2]else x0 else x0:=by kernel_rfl
def F86_eq:=by have h:= @F86_e;simp only[ge_id,gd,qeqD_self,qeqI_self,qeqB_self,qand_tt,qeq_len,qeq_l,cond_true]at h;exact h
def q86:List D→Option (List D):=veil (F86)
theorem q86_eq:q86=F86:=veil_eq _
def tb86:Tb:=Tb.addF tbl86_10 86 S86 (q86)
theorem ok_tb86:TbOk env (tb86):=addFunF ok_tbl86_10 86 (by kernel_rfl) _ (q86_eq)
def S146_2:LoopS:=⟨0,[⟨false,(.rows 133)⟩,⟨false, .str⟩,uF,uF,⟨false,(.lit (.bool false))⟩,⟨true,(.int .i64)⟩,uF,uF,uF,uF,uF,uF,uF,uF,uF,uF,uF,uF,uF],[],[⟨0,0,[⟨false,(.rows 133)⟩,⟨false, .str⟩,uT,uT,⟨true,(.lit (.bool false))⟩,uT,uT,uT,uT,uT,uT,uT,uT,uT,uT,uT,uT,uT,uT],[]⟩,⟨1,0,[⟨false,(.rows 133)⟩,⟨false, .str⟩,uT,uT,⟨true,(.lit (.bool true))⟩,uT,uT,uT,uT,uT,uT,uT,uT,uT,uT,uT,uT,uT,uT],[]⟩]⟩
def st146_2 (p s:List D):Option (Sum (List D) (List D)):=stepQX env tb86 60 12 146 (loopC 146 2) S146_2 p s
theorem st146_2_e (pd0:D) (ps1:ByteArray) (sn0:Int):st146_2 [pd0,(D.str ps1)] [(D.int sn0)] =
 let x0:=D.str ps1
 bif qcmp .lss sn0 (qlen pd0)then gd (qinb pd0 sn0)<|bif qcmpS .eql (qstr (qfld (qget pd0 sn0) 0)) ps1 then ge pd0<|ge x0<|some (Sum.inr [.int 1])else ge pd0<|ge x0<|some (Sum.inl [.int (qbin .add .i64 sn0 1)])else ge pd0<|ge x0<|some (Sum.inr [.int 0]):=by kernel_rfl
def st146_2_eq:=by have h:= @st146_2_e;simp only[ge_id,gd,qeqD_self,qeqI_self,qeqB_self,qand_tt,qeq_len,qeq_l,cond_true]at h;exact h
def l146_2:List D→List D→Option (List D):=veil fun p s=>loW (st146_2 p) s
theorem l146_2_eq:l146_2=fun p s=>loW (st146_2 p) s:=veil_eq _
def tbl146_2:Tb:=Tb.addL tb86 146 2 S146_2.n0 (mkLp S146_2 (l146_2))
theorem ok_tbl146_2:TbOk env (tbl146_2):=addLoopQ ok_tb86 146 2 (by kernel_rfl) _ (l146_2_eq)
def S146:FunS:=⟨[⟨true,(.rows 133)⟩,⟨true, .str⟩],[],[⟨true, .bool⟩],[]⟩
def F146:List D→Option (List D):=liftX env tbl146_2 60 12 146 S146
theorem F146_e (sd0:D) (ss1:ByteArray):F146 [sd0,(D.str ss1)] =
 let y0:=l146_2 [sd0,(.str ss1)] [(.int 0)]
 gd (qsome y0)<|bif qcmp .eql (qint (qnth y0 0)) 0 then some [.bool false]else some [.bool true]:=by kernel_rfl
def F146_eq:=by have h:= @F146_e;simp only[ge_id,gd,qeqD_self,qeqI_self,qeqB_self,qand_tt,qeq_len,qeq_l,cond_true]at h;exact h
def q146:List D→Option (List D):=veil (F146)
theorem q146_eq:q146=F146:=veil_eq _
def tb146:Tb:=Tb.addF tbl146_2 146 S146 (q146)
theorem ok_tb146:TbOk env (tb146):=addFunF ok_tbl146_2 146 (by kernel_rfl) _ (q146_eq)
end
end Go.Proofs.YteccopaonadbeaaGreatDoor
open Go Go.AM
namespace Go.Proofs.YteccopaonadbeaaGreatDoor
noncomputable section
set_option maxRecDepth 100000
set_option linter.unusedSimpArgs false
set_option linter.unusedVariables false
set_option linter.defProp false
def S164:FunS:=⟨[⟨true,(.dat 105)⟩,⟨true,(.int .i64)⟩],[],[⟨true, .bool⟩],[]⟩
def tbR164 (Q:List D→Option (List D)):Tb:=Tb.addF tb146 164 S164 Q
theorem ok_tbR164 (Q:List D→Option (List D)) (hQ:SoundF env.P 164 S164 Q):TbOk env (tbR164 Q):=TbOk.addF ok_tb146 (by kernel_rfl) hQ
def S202:FunS:=⟨[⟨true,(.dat 105)⟩,⟨true,(.eptr [(.int .i64)])⟩],[],[⟨true, .bool⟩],[]⟩
def F202 (Q:List D→Option (List D)):List D→Option (List D):=liftX env (tbR164 Q) 60 12 202 S202
theorem F202_e (Q:List D→Option (List D)) (sd0:D) (sn1:Int):F202 Q [sd0,(D.int sn1)] =
 let y0:=qsome (Q [sd0,(.int (qbin .sub .i64 sn1 1))])
 let y1:=qnth (Q [sd0,(.int (qbin .sub .i64 sn1 1))]) 0
 gd y0<|some [.bool (qnot (qbool y1))]:=by kernel_rfl
def F202_eq:=by have h:= @F202_e;simp only[ge_id,gd,qeqD_self,qeqI_self,qeqB_self,qand_tt,qeq_len,qeq_l,cond_true]at h;exact h
def q202 (Q:List D→Option (List D)):List D→Option (List D):=veil (F202 Q)
theorem q202_eq (Q:List D→Option (List D)):q202 Q=F202 Q:=veil_eq _
def tb202 (Q:List D→Option (List D)):Tb:=Tb.addF (tbR164 Q) 202 S202 (q202 Q)
theorem ok_tb202 (Q:List D→Option (List D)) (hQ:SoundF env.P 164 S164 Q):TbOk env (tb202 Q):=addFunF (ok_tbR164 Q hQ) 202 (by kernel_rfl) _ (q202_eq Q)
def S201_202_2:LoopS:=⟨0,[⟨false,(.rows 105)⟩,⟨false,(.func 202 [] [(.eptr [(.int .i64)])])⟩,uF,uF,⟨false,(.lit (.int .i64 0))⟩,uF,uF,⟨false,(.int .i64)⟩,⟨true,(.int .i64)⟩,uF,uF,uF,uF,uF,uF,uF,uF,uF,uF],[],[⟨0,0,[⟨false,(.rows 105)⟩,⟨false,(.func 202 [] [(.eptr [(.int .i64)])])⟩,uT,uT,⟨true,(.lit (.int .i64 0))⟩,uT,uT,⟨false,(.int .i64)⟩,uT,uT,uT,uT,uT,uT,uT,uT,uT,uT,uT],[]⟩,⟨1,0,[⟨false,(.rows 105)⟩,⟨false,(.func 202 [] [(.eptr [(.int .i64)])])⟩,uT,uT,⟨true,(.int .i64)⟩,uT,uT,⟨false,(.int .i64)⟩,uT,uT,uT,uT,uT,uT,uT,uT,uT,uT,uT],[]⟩]⟩
def st201_202_2 (Q:List D→Option (List D)) (p s:List D):Option (Sum (List D) (List D)):=stepQX env (tb202 Q) 60 12 201 (loopC 201 2) S201_202_2 p s
theorem st201_202_2_e (Q:List D→Option (List D)) (pd0:D) (pn1:Int) (pn2:Int) (sn0:Int):st201_202_2 Q [pd0,(D.int pn1),(D.int pn2)] [(D.int sn0)] =
 let y0:=q202 Q [(qget pd0 sn0),(.int pn1)]
 let x0:=D.int pn1
 let x1:=D.int pn2
 bif qcmp .lss sn0 pn2 then gd (qinb pd0 sn0)<|gd (qsome y0)<|bif qbool (qnth y0 0)then ge pd0<|ge x0<|ge x1<|some (Sum.inr [.int 1,.int sn0])else ge pd0<|ge x0<|ge x1<|some (Sum.inl [.int (qbin .add .i64 sn0 1)])else ge pd0<|ge x0<|ge x1<|some (Sum.inr [.int 0]):=by kernel_rfl
def st201_202_2_eq:=by have h:= @st201_202_2_e;simp only[ge_id,gd,qeqD_self,qeqI_self,qeqB_self,qand_tt,qeq_len,qeq_l,cond_true]at h;exact h
def l201_202_2 (Q:List D→Option (List D)):List D→List D→Option (List D):=veil fun p s=>loW (st201_202_2 Q p) s
theorem l201_202_2_eq (Q:List D→Option (List D)):l201_202_2 Q=fun p s=>loW (st201_202_2 Q p) s:=veil_eq _
def tbl201_202_2 (Q:List D→Option (List D)):Tb:=Tb.addL (tb202 Q) 201 2 S201_202_2.n0 (mkLp S201_202_2 (l201_202_2 Q))
theorem ok_tbl201_202_2 (Q:List D→Option (List D)) (hQ:SoundF env.P 164 S164 Q):TbOk env (tbl201_202_2 Q):=addLoopQ (ok_tb202 Q hQ) 201 2 (by kernel_rfl) _ (l201_202_2_eq Q)
def S201_202:FunS:=⟨[⟨true,(.rows 105)⟩,⟨true,(.func 202 [] [(.eptr [(.int .i64)])])⟩],[],[⟨true,(.int .i64)⟩],[]⟩
def F201_202 (Q:List D→Option (List D)):List D→Option (List D):=liftX env (tbl201_202_2 Q) 60 12 201 S201_202
theorem F201_202_e (Q:List D→Option (List D)) (sd0:D) (sn1:Int):F201_202 Q [sd0,(D.int sn1)] =
 let y0:=l201_202_2 Q [sd0,(.int sn1),(.int (qlen sd0))] [(.int 0)]
 gd (qsome y0)<|bif qcmp .eql (qint (qnth y0 0)) 0 then some [.int (-1)]else some [.int (qint (qnth y0 1))]:=by kernel_rfl
def F201_202_eq:=by have h:= @F201_202_e;simp only[ge_id,gd,qeqD_self,qeqI_self,qeqB_self,qand_tt,qeq_len,qeq_l,cond_true]at h;exact h
def q201_202 (Q:List D→Option (List D)):List D→Option (List D):=veil (F201_202 Q)
theorem q201_202_eq (Q:List D→Option (List D)):q201_202 Q=F201_202 Q:=veil_eq _
def tb201_202 (Q:List D→Option (List D)):Tb:=Tb.addF (tbl201_202_2 Q) 201 S201_202 (q201_202 Q)
theorem ok_tb201_202 (Q:List D→Option (List D)) (hQ:SoundF env.P 164 S164 Q):TbOk env (tb201_202 Q):=addFunF (ok_tbl201_202_2 Q hQ) 201 (by kernel_rfl) _ (q201_202_eq Q)
def S162_202:FunS:=⟨[⟨true,(.rows 105)⟩,⟨true,(.func 202 [] [(.eptr [(.int .i64)])])⟩],[],[⟨true, .bool⟩],[]⟩
def F162_202 (Q:List D→Option (List D)):List D→Option (List D):=liftX env (tb201_202 Q) 60 12 162 S162_202
theorem F162_202_e (Q:List D→Option (List D)) (sd0:D) (sn1:Int):F162_202 Q [sd0,(D.int sn1)] =
 let y0:=q201_202 Q [sd0,(.int sn1)]
 gd (qsome y0)<|some [.bool (qcmp .geq (qint (qnth y0 0)) 0)]:=by kernel_rfl
def F162_202_eq:=by have h:= @F162_202_e;simp only[ge_id,gd,qeqD_self,qeqI_self,qeqB_self,qand_tt,qeq_len,qeq_l,cond_true]at h;exact h
def q162_202 (Q:List D→Option (List D)):List D→Option (List D):=veil (F162_202 Q)
theorem q162_202_eq (Q:List D→Option (List D)):q162_202 Q=F162_202 Q:=veil_eq _
def tb162_202 (Q:List D→Option (List D)):Tb:=Tb.addF (tb201_202 Q) 162 S162_202 (q162_202 Q)
theorem ok_tb162_202 (Q:List D→Option (List D)) (hQ:SoundF env.P 164 S164 Q):TbOk env (tb162_202 Q):=addFunF (ok_tb201_202 Q hQ) 162 (by kernel_rfl) _ (q162_202_eq Q)
def Fb164 (Q:List D→Option (List D)):List D→Option (List D):=liftX env (tb162_202 Q) 60 12 164 S164
theorem Fb164_e (Q:List D→Option (List D)) (sd0:D) (sn1:Int):Fb164 Q [sd0,(D.int sn1)] =
 let y0:=q162_202 Q [(qfld sd0 4),(.int sn1)]
 let y1:=qiteB (qcmp .geq sn1 1) (qnot (qbool (qnth y0 0))) false
 gd (qiteB (qcmp .geq sn1 1) (qsome y0) true)<|some [.bool y1]:=by kernel_rfl
def Fb164_eq:=by have h:= @Fb164_e;simp only[ge_id,gd,qeqD_self,qeqI_self,qeqB_self,qand_tt,qeq_len,qeq_l,cond_true]at h;exact h
def F164:Nat→List D→Option (List D):=levels Fb164
theorem F164_s (n:Nat):F164 (n+1)=Fb164 (F164 n):=rfl
def q164:List D→Option (List D):=veil fun ds=>F164 (fuelL ds) ds
theorem q164_eq:q164=fun ds=>F164 (fuelL ds) ds:=veil_eq _
theorem sound164:SoundF env.P 164 S164 q164:=recF (fun q=>tb162_202 q) (fun q hq=>ok_tb162_202 q hq) q164_eq
def tb164:Tb:=Tb.addF tb146 164 S164 q164
theorem ok_tb164:TbOk env tb164:=TbOk.addF ok_tb146 (by kernel_rfl) sound164
end
end Go.Proofs.YteccopaonadbeaaGreatDoor
open Go Go.AM
namespace Go.Proofs.YteccopaonadbeaaGreatDoor
noncomputable section
set_option maxRecDepth 100000
set_option linter.unusedSimpArgs false
set_option linter.unusedVariables false
set_option linter.defProp false
def S204:FunS:=⟨[⟨true,(.dat 105)⟩],[],[⟨true, .bool⟩],[]⟩
def tbR204 (Q:List D→Option (List D)):Tb:=Tb.addF tb164 204 S204 Q
theorem ok_tbR204 (Q:List D→Option (List D)) (hQ:SoundF env.P 204 S204 Q):TbOk env (tbR204 Q):=TbOk.addF ok_tb164 (by kernel_rfl) hQ
def S251:FunS:=⟨[⟨true,(.dat 105)⟩],[],[⟨true, .bool⟩],[]⟩
def F251 (Q:List D→Option (List D)):List D→Option (List D):=liftX env (tbR204 Q) 60 12 251 S251
theorem F251_eq (Q:List D→Option (List D)) (sd0:D):F251 Q [sd0] =
 bif (qsome (Q [sd0]))then
  some [(D.bool (qnot (qbool (qnth (Q [sd0]) 0))))]
 else
  none:=by kernel_rfl
def q251 (Q:List D→Option (List D)):List D→Option (List D):=veil (F251 Q)
theorem q251_eq (Q:List D→Option (List D)):q251 Q=F251 Q:=veil_eq _
def tb251 (Q:List D→Option (List D)):Tb:=Tb.addF (tbR204 Q) 251 S251 (q251 Q)
theorem ok_tb251 (Q:List D→Option (List D)) (hQ:SoundF env.P 204 S204 Q):TbOk env (tb251 Q):=addFunF (ok_tbR204 Q hQ) 251 (by kernel_rfl) _ (q251_eq Q)
def S201_251_2:LoopS:=⟨0,[⟨false,(.rows 105)⟩,⟨false,(.func 251 [] [])⟩,uF,uF,⟨false,(.lit (.int .i64 0))⟩,uF,uF,⟨false,(.int .i64)⟩,⟨true,(.int .i64)⟩,uF,uF,uF,uF,uF,uF,uF,uF,uF,uF],[],[⟨0,0,[⟨false,(.rows 105)⟩,uT,uT,uT,⟨true,(.lit (.int .i64 0))⟩,uT,uT,⟨false,(.int .i64)⟩,uT,uT,uT,uT,uT,uT,uT,uT,uT,uT,uT],[]⟩,⟨1,0,[⟨false,(.rows 105)⟩,uT,uT,uT,⟨true,(.int .i64)⟩,uT,uT,⟨false,(.int .i64)⟩,uT,uT,uT,uT,uT,uT,uT,uT,uT,uT,uT],[]⟩]⟩
def st201_251_2 (Q:List D→Option (List D)) (p s:List D):Option (Sum (List D) (List D)):=stepQX env (tb251 Q) 60 12 201 (loopC 201 2) S201_251_2 p s
theorem st201_251_2_e (Q:List D→Option (List D)) (pd0:D) (pn1:Int) (sn0:Int):st201_251_2 Q [pd0,(D.int pn1)] [(D.int sn0)] =
 let y0:=qsome (q251 Q [(qget pd0 sn0)])
 let y1:=qnth (q251 Q [(qget pd0 sn0)]) 0
 let x0:=D.int pn1
 bif qcmp .lss sn0 pn1 then gd (qinb pd0 sn0)<|gd y0<|bif qbool y1 then ge pd0<|ge x0<|some (Sum.inr [.int 1,.int sn0])else ge pd0<|ge x0<|some (Sum.inl [.int (qbin .add .i64 sn0 1)])else ge pd0<|ge x0<|some (Sum.inr [.int 0]):=by kernel_rfl
def st201_251_2_eq:=by have h:= @st201_251_2_e;simp only[ge_id,gd,qeqD_self,qeqI_self,qeqB_self,qand_tt,qeq_len,qeq_l,cond_true]at h;exact h
def l201_251_2 (Q:List D→Option (List D)):List D→List D→Option (List D):=veil fun p s=>loW (st201_251_2 Q p) s
theorem l201_251_2_eq (Q:List D→Option (List D)):l201_251_2 Q=fun p s=>loW (st201_251_2 Q p) s:=veil_eq _
def tbl201_251_2 (Q:List D→Option (List D)):Tb:=Tb.addL (tb251 Q) 201 2 S201_251_2.n0 (mkLp S201_251_2 (l201_251_2 Q))
theorem ok_tbl201_251_2 (Q:List D→Option (List D)) (hQ:SoundF env.P 204 S204 Q):TbOk env (tbl201_251_2 Q):=addLoopQ (ok_tb251 Q hQ) 201 2 (by kernel_rfl) _ (l201_251_2_eq Q)
def S201_251:FunS:=⟨[⟨true,(.rows 105)⟩,⟨true,(.func 251 [] [])⟩],[],[⟨true,(.int .i64)⟩],[]⟩
def F201_251 (Q:List D→Option (List D)):List D→Option (List D):=liftX env (tbl201_251_2 Q) 60 12 201 S201_251
theorem F201_251_e (Q:List D→Option (List D)) (sd0:D):F201_251 Q [sd0] =
 let y0:=l201_251_2 Q [sd0,(.int (qlen sd0))] [(.int 0)]
 gd (qsome y0)<|bif qcmp .eql (qint (qnth y0 0)) 0 then some [.int (-1)]else some [.int (qint (qnth y0 1))]:=by kernel_rfl
def F201_251_eq:=by have h:= @F201_251_e;simp only[ge_id,gd,qeqD_self,qeqI_self,qeqB_self,qand_tt,qeq_len,qeq_l,cond_true]at h;exact h
def q201_251 (Q:List D→Option (List D)):List D→Option (List D):=veil (F201_251 Q)
theorem q201_251_eq (Q:List D→Option (List D)):q201_251 Q=F201_251 Q:=veil_eq _
def tb201_251 (Q:List D→Option (List D)):Tb:=Tb.addF (tbl201_251_2 Q) 201 S201_251 (q201_251 Q)
theorem ok_tb201_251 (Q:List D→Option (List D)) (hQ:SoundF env.P 204 S204 Q):TbOk env (tb201_251 Q):=addFunF (ok_tbl201_251_2 Q hQ) 201 (by kernel_rfl) _ (q201_251_eq Q)
def S162_251:FunS:=⟨[⟨true,(.rows 105)⟩,⟨true,(.func 251 [] [])⟩],[],[⟨true, .bool⟩],[]⟩
def F162_251 (Q:List D→Option (List D)):List D→Option (List D):=liftX env (tb201_251 Q) 60 12 162 S162_251
theorem F162_251_e (Q:List D→Option (List D)) (sd0:D):F162_251 Q [sd0] =
 let y0:=qint (qnth (q201_251 Q [sd0]) 0)
 gd (qsome (q201_251 Q [sd0]))<|some [.bool (qcmp .geq y0 0)]:=by kernel_rfl
def F162_251_eq:=by have h:= @F162_251_e;simp only[ge_id,gd,qeqD_self,qeqI_self,qeqB_self,qand_tt,qeq_len,qeq_l,cond_true]at h;exact h
def q162_251 (Q:List D→Option (List D)):List D→Option (List D):=veil (F162_251 Q)
theorem q162_251_eq (Q:List D→Option (List D)):q162_251 Q=F162_251 Q:=veil_eq _
def tb162_251 (Q:List D→Option (List D)):Tb:=Tb.addF (tb201_251 Q) 162 S162_251 (q162_251 Q)
theorem ok_tb162_251 (Q:List D→Option (List D)) (hQ:SoundF env.P 204 S204 Q):TbOk env (tb162_251 Q):=addFunF (ok_tb201_251 Q hQ) 162 (by kernel_rfl) _ (q162_251_eq Q)
def Fb204 (Q:List D→Option (List D)):List D→Option (List D):=liftX env (tb162_251 Q) 60 12 204 S204
theorem Fb204_e (Q:List D→Option (List D)) (sd0:D):Fb204 Q [sd0] =
 let y0:=qiteB (qcmp .eql (qint (qfld sd0 1)) (qint (qfld sd0 1))) (qcmpS .eql (qstr (qfld sd0 2)) (ByteArray.mk #[])) false
 let y1:=qiteB (qiteB y0 (qcmp .eql (qint (qfld sd0 3)) 0) false) (qcmp .eql (qlen (qfld sd0 4)) 0) false
 let y2:=qsome (q162_251 Q [(qfld sd0 4)])
 let y3:=qnth (q162_251 Q [(qfld sd0 4)]) 0
 let y4:=q59 [(.str (qstr (qfld sd0 2)))]
 let y5:=qiteB (qcmp .eql (qint (qfld sd0 0)) 2) (qsome y4) true
 let y6:=qiteB (qcmp .eql (qint (qfld sd0 0)) 2) (qbool (qnth y4 0)) false
 let y7:=qiteB (qcmp .eql (qint (qfld sd0 1)) 0) (qcmpS .eql (qstr (qfld sd0 2)) (qstr (qfld sd0 2))) false
 let y8:=qiteB (qiteB y7 (qcmp .eql (qint (qfld sd0 3)) 0) false) (qcmp .eql (qlen (qfld sd0 4)) 0) false
 let y9:=qiteB (qcmp .geq (qint (qfld sd0 0)) 3) (qcmp .leq (qint (qfld sd0 0)) 15) false
 let y10:=qiteB (qcmp .eql (qint (qfld sd0 1)) 0) (qcmpS .eql (qstr (qfld sd0 2)) (ByteArray.mk #[])) false
 let y11:=qiteB y10 (qcmp .eql (qint (qfld sd0 3)) 0) false
 let y12:=qiteB y11 (qcmp .eql (qlen (qfld sd0 4)) 2) false
 let y13:=qiteB (qcmp .eql (qint (qfld sd0 0)) 16) (qcmp .eql (qint (qfld sd0 0)) 16) (qcmp .eql (qint (qfld sd0 0)) 17)
 let y14:=qiteB y11 (qcmp .eql (qlen (qfld sd0 4)) 1) false
 let y15:=qiteB (qcmp .eql (qint (qfld sd0 3)) 1) true (qcmp .eql (qint (qfld sd0 3)) 2)
 let y16:=qiteB (qcmp .eql (qint (qfld sd0 0)) 18) (qiteB y15 true (qcmp .eql (qint (qfld sd0 3)) 4)) false
 let y17:=qiteB (qcmp .eql (qint (qfld sd0 0)) 19) y15 false
 let y18:=qiteB y10 (qcmp .eql (qint (qfld sd0 3)) (qint (qfld sd0 3))) false
 let y19:=qiteB y18 (qcmp .eql (qlen (qfld sd0 4)) 1) false
 let x0:=qnot (qbool y3)
 bif qcmp .eql (qint (qfld sd0 0)) 1 then gd (qiteB y1 y2 true)<|some [.bool (qiteB y1 x0 false)]else gd y5<|bif y6 then gd (qiteB y8 y2 true)<|some [.bool (qiteB y8 x0 false)]else bif y9 then gd (qiteB y12 y2 true)<|some [.bool (qiteB y12 x0 false)]else bif y13 then gd (qiteB y14 y2 true)<|some [.bool (qiteB y14 x0 false)]else bif qiteB y16 y16 y17 then gd (qiteB y19 y2 true)<|some [.bool (qiteB y19 x0 false)]else some [.bool false]:=by kernel_rfl
def Fb204_eq:=by have h:= @Fb204_e;simp only[ge_id,gd,qeqD_self,qeqI_self,qeqB_self,qand_tt,qeq_len,qeq_l,cond_true]at h;exact h
def F204:Nat→List D→Option (List D):=levels Fb204
theorem F204_s (n:Nat):F204 (n+1)=Fb204 (F204 n):=rfl
def q204:List D→Option (List D):=veil fun ds=>F204 (fuelL ds) ds
theorem q204_eq:q204=fun ds=>F204 (fuelL ds) ds:=veil_eq _
theorem sound204:SoundF env.P 204 S204 q204:=recF (fun q=>tb162_251 q) (fun q hq=>ok_tb162_251 q hq) q204_eq
def tb204:Tb:=Tb.addF tb164 204 S204 q204
theorem ok_tb204:TbOk env tb204:=TbOk.addF ok_tb164 (by kernel_rfl) sound204
end
end Go.Proofs.YteccopaonadbeaaGreatDoor
open Go Go.AM
namespace Go.Proofs.YteccopaonadbeaaGreatDoor
noncomputable section
set_option maxRecDepth 100000
set_option linter.unusedSimpArgs false
set_option linter.unusedVariables false
set_option linter.defProp false
def S194:FunS:=⟨[⟨true,(.dat 105)⟩,⟨true,(.int .i64)⟩],[],[⟨true, .bool⟩],[]⟩
def tbR194 (Q:List D→Option (List D)):Tb:=Tb.addF tb204 194 S194 Q
theorem ok_tbR194 (Q:List D→Option (List D)) (hQ:SoundF env.P 194 S194 Q):TbOk env (tbR194 Q):=TbOk.addF ok_tb204 (by kernel_rfl) hQ
def S194_4:LoopS:=⟨0,[uF,⟨false,(.int .i64)⟩,⟨false,(.ptr 0 0)⟩,uF,⟨false,(.lit (.bool false))⟩,⟨true,(.int .i64)⟩,uF,uF,uF,uF,uF,uF,uF,uF,uF,uF,uF,uF,uF,uF,uF,uF,uF],[(.dat false 105)],[⟨0,0,[uT,⟨false,(.int .i64)⟩,uT,uT,⟨true,(.lit (.bool false))⟩,uT,uT,uT,uT,uT,uT,uT,uT,uT,uT,uT,uT,uT,uT,uT,uT,uT,uT],[(.dat false 105)]⟩,⟨1,0,[uT,⟨false,(.int .i64)⟩,uT,uT,⟨true,(.lit (.bool true))⟩,uT,uT,uT,uT,uT,uT,uT,uT,uT,uT,uT,uT,uT,uT,uT,uT,uT,uT],[(.dat false 105)]⟩]⟩
def st194_4 (Q:List D→Option (List D)) (p s:List D):Option (Sum (List D) (List D)):=stepQX env (tbR194 Q) 60 12 194 (loopC 194 4) S194_4 p s
theorem st194_4_e (Q:List D→Option (List D)) (pn0:Int) (pd1:D) (sn0:Int):st194_4 Q [(D.int pn0),pd1] [(D.int sn0)] =
 let y0:=qsome (Q [(qget (qfld pd1 4) sn0),(.int (qbin .sub .i64 pn0 1))])
 let y1:=qnth (Q [(qget (qfld pd1 4) sn0),(.int (qbin .sub .i64 pn0 1))]) 0
 let x0:=D.int pn0
 bif qcmp .lss sn0 (qlen (qfld pd1 4))then gd (qinb (qfld pd1 4) sn0)<|gd y0<|bif qbool y1 then ge x0<|ge pd1<|some (Sum.inr [.int 1])else ge x0<|ge pd1<|some (Sum.inl [.int (qbin .add .i64 sn0 1)])else ge x0<|ge pd1<|some (Sum.inr [.int 0]):=by kernel_rfl
def st194_4_eq:=by have h:= @st194_4_e;simp only[ge_id,gd,qeqD_self,qeqI_self,qeqB_self,qand_tt,qeq_len,qeq_l,cond_true]at h;exact h
def l194_4 (Q:List D→Option (List D)):List D→List D→Option (List D):=veil fun p s=>loW (st194_4 Q p) s
theorem l194_4_eq (Q:List D→Option (List D)):l194_4 Q=fun p s=>loW (st194_4 Q p) s:=veil_eq _
def tbl194_4 (Q:List D→Option (List D)):Tb:=Tb.addL (tbR194 Q) 194 4 S194_4.n0 (mkLp S194_4 (l194_4 Q))
theorem ok_tbl194_4 (Q:List D→Option (List D)) (hQ:SoundF env.P 194 S194 Q):TbOk env (tbl194_4 Q):=addLoopQ (ok_tbR194 Q hQ) 194 4 (by kernel_rfl) _ (l194_4_eq Q)
def Fb194 (Q:List D→Option (List D)):List D→Option (List D):=liftX env (tbl194_4 Q) 60 12 194 S194
theorem Fb194_e (Q:List D→Option (List D)) (sd0:D) (sn1:Int):Fb194 Q [sd0,(D.int sn1)] =
 let y0:=l194_4 Q [(.int sn1),sd0] [(.int 0)]
 let x0:Option (List D):=some [.bool true]
 bif qcmp .leq sn1 0 then x0 else gd (qsome y0)<|bif qcmp .eql (qint (qnth y0 0)) 0 then some [.bool false]else x0:=by kernel_rfl
def Fb194_eq:=by have h:= @Fb194_e;simp only[ge_id,gd,qeqD_self,qeqI_self,qeqB_self,qand_tt,qeq_len,qeq_l,cond_true]at h;exact h
def F194:Nat→List D→Option (List D):=levels Fb194
theorem F194_s (n:Nat):F194 (n+1)=Fb194 (F194 n):=rfl
def q194:List D→Option (List D):=veil fun ds=>F194 (fuelL ds) ds
theorem q194_eq:q194=fun ds=>F194 (fuelL ds) ds:=veil_eq _
theorem sound194:SoundF env.P 194 S194 q194:=recF (fun q=>tbl194_4 q) (fun q hq=>ok_tbl194_4 q hq) q194_eq
def tb194:Tb:=Tb.addF tb204 194 S194 q194
theorem ok_tb194:TbOk env tb194:=TbOk.addF ok_tb204 (by kernel_rfl) sound194
def S245:FunS:=⟨[⟨true,(.dat 105)⟩],[],[⟨true, .bool⟩],[]⟩
def tbR245 (Q:List D→Option (List D)):Tb:=Tb.addF tb194 245 S245 Q
theorem ok_tbR245 (Q:List D→Option (List D)) (hQ:SoundF env.P 245 S245 Q):TbOk env (tbR245 Q):=TbOk.addF ok_tb194 (by kernel_rfl) hQ
def S245_25:LoopS:=⟨0,[uF,⟨false,(.ptr 0 0)⟩,⟨false,(.lit (.bool false))⟩,uF,uF,⟨true,(.int .i64)⟩,uF,uF,uF,uF,uF,uF,uF,uF,uF,uF,uF,uF,uF,uF,uF,uF,uF,uF,uF,uF,uF,uF,uF,uF,uF,uF,uF,uF,uF,uF,uF,uF,uF,uF,uF,uF,uF,uF,uF,uF,uF,uF,uF,uF,uF,uF,uF,uF,uF,uF,uF,uF,uF,uF,uF,uF,uF,uF,uF,uF,uF,uF,uF,uF,uF,uF,uF,uF,uF,uF,uF,uF,uF,uF,uF,uF,uF,uF,uF,uF,uF,uF,uF,uF,uF,uF,uF,uF,uF,uF,uF,uF,uF,uF,uF,uF,uF,uF,uF,uF,uF,uF,uF,uF,uF,uF,uF,uF,uF,uF,uF,uF,uF,uF,uF,uF,uF],[(.dat false 105)],[⟨0,1,[uT,uT,⟨true,(.lit (.bool false))⟩,uT,uT,uT,uT,uT,uT,uT,uT,uT,uT,uT,uT,uT,uT,uT,uT,uT,uT,uT,uT,uT,uT,uT,uT,uT,uT,uT,uT,uT,uT,uT,uT,uT,uT,uT,uT,uT,uT,uT,uT,uT,uT,uT,uT,uT,uT,uT,uT,uT,uT,uT,uT,uT,uT,uT,uT,uT,uT,uT,uT,uT,uT,uT,uT,uT,uT,uT,uT,uT,uT,uT,uT,uT,uT,uT,uT,uT,uT,uT,uT,uT,uT,uT,uT,uT,uT,uT,uT,uT,uT,uT,uT,uT,uT,uT,uT,uT,uT,uT,uT,uT,uT,uT,uT,uT,uT,uT,uT,uT,uT,uT,uT,uT,uT,uT,uT,uT,uT,uT,uT],[(.dat false 105)]⟩,⟨1,0,[uT,uT,⟨true,(.lit (.bool false))⟩,uT,uT,uT,uT,uT,uT,uT,uT,uT,uT,uT,uT,uT,uT,uT,uT,uT,uT,uT,uT,uT,uT,uT,uT,uT,uT,uT,uT,uT,uT,uT,uT,uT,uT,uT,uT,uT,uT,uT,uT,uT,uT,uT,uT,uT,uT,uT,uT,uT,uT,uT,uT,uT,uT,uT,uT,uT,uT,uT,uT,uT,uT,uT,uT,uT,uT,uT,uT,uT,uT,uT,uT,uT,uT,uT,uT,uT,uT,uT,uT,uT,uT,uT,uT,uT,uT,uT,uT,uT,uT,uT,uT,uT,uT,uT,uT,uT,uT,uT,uT,uT,uT,uT,uT,uT,uT,uT,uT,uT,uT,uT,uT,uT,uT,uT,uT,uT,uT,uT,uT],[(.dat false 105)]⟩]⟩
def st245_25 (Q:List D→Option (List D)) (p s:List D):Option (Sum (List D) (List D)):=stepQX env (tbR245 Q) 60 12 245 (loopC 245 25) S245_25 p s
theorem st245_25_e (Q:List D→Option (List D)) (pd0:D) (sn0:Int):st245_25 Q [pd0] [(D.int sn0)] =
 let x0:=qfld pd0 4
 let x1:=Q [qget x0 sn0]
 bif qcmp .lss sn0 (qlen x0)then gd (qinb x0 sn0)<|gd (qsome x1)<|bif qnot (qbool (qnth x1 0))then ge pd0<|some (Sum.inr [.int 1])else ge pd0<|some (Sum.inl [.int (qbin .add .i64 sn0 1)])else ge pd0<|some (Sum.inr [.int 0]):=by kernel_rfl
def st245_25_eq:=by have h:= @st245_25_e;simp only[ge_id,gd,qeqD_self,qeqI_self,qeqB_self,qand_tt,qeq_len,qeq_l,cond_true]at h;exact h
def l245_25 (Q:List D→Option (List D)):List D→List D→Option (List D):=veil fun p s=>loW (st245_25 Q p) s
theorem l245_25_eq (Q:List D→Option (List D)):l245_25 Q=fun p s=>loW (st245_25 Q p) s:=veil_eq _
def tbl245_25 (Q:List D→Option (List D)):Tb:=Tb.addL (tbR245 Q) 245 25 S245_25.n0 (mkLp S245_25 (l245_25 Q))
theorem ok_tbl245_25 (Q:List D→Option (List D)) (hQ:SoundF env.P 245 S245 Q):TbOk env (tbl245_25 Q):=addLoopQ (ok_tbR245 Q hQ) 245 25 (by kernel_rfl) _ (l245_25_eq Q)
def Fb245 (Q:List D→Option (List D)):List D→Option (List D):=liftX env (tbl245_25 Q) 60 12 245 S245
theorem Fb245_e (Q:List D→Option (List D)) (sd0:D):Fb245 Q [sd0] =
 let y0:=qiteB (qcmp .neq (qint (qfld sd0 3)) 0) true (qcmp .eql (qint (qfld sd0 0)) 18)
 let y1:=qiteB (qcmp .neq (qlen (qfld sd0 4)) 0) true (qiteB y0 true (qcmp .eql (qint (qfld sd0 0)) 19))
 let y2:=l245_25 Q [sd0] [(.int 0)]
 let y3:=q86 [(.str (qstr (qfld sd0 2)))]
 let y4:=qiteB (qnot (qbool (qnth y3 0))) true (qcmp .neq (qint (qfld sd0 1)) 0)
 let y5:=qiteB (qcmp .geq (qint (qfld sd0 0)) 3) (qcmp .leq (qint (qfld sd0 0)) 15) false
 let y6:=qiteB (qcmp .neq (qlen (qfld sd0 4)) 2) true (qiteB y0 true (qcmp .eql (qint (qfld sd0 0)) 19))
 let y7:=qiteB (qcmp .neq (qint (qfld sd0 1)) 0) true (qcmpS .neq (qstr (qfld sd0 2)) (ByteArray.mk #[]))
 let y8:=qiteB (qcmp .eql (qint (qfld sd0 0)) 16) true (qcmp .eql (qint (qfld sd0 0)) 17)
 let y9:=qiteB (qcmp .neq (qlen (qfld sd0 4)) 1) true (qiteB y0 true (qcmp .eql (qint (qfld sd0 0)) 19))
 let y10:=qiteB (qcmp .neq (qlen (qfld sd0 4)) 1) true false
 let y11:=qiteB (qnot (qcmp .eql (qint (qfld sd0 3)) 4)) (qiteB y0 true (qcmp .eql (qint (qfld sd0 0)) 19)) false
 let y12:=qiteB (qnot (qcmp .eql (qint (qfld sd0 3)) 2)) (qiteB y0 true (qcmp .eql (qint (qfld sd0 0)) 19)) false
 let x0:=qint (qfld sd0 0)
 let x1:Option (List D):=some [.bool false]
 let x2:Option (List D):=gd (qsome y2)<|bif qcmp .eql (qint (qnth y2 0)) 0 then some [.bool true]else x1
 let x3:Option (List D):=bif y7 then x1 else x2
 let x4:=qint (qfld sd0 3)
 let x5:=qcmp .eql x4 1
 let x6:Option (List D):=bif y10 then x1 else x3
 let x7:=qcmp .neq (qlen (qfld sd0 4)) 1
 bif qcmp .eql x0 1 then bif qcmpS .neq (qstr (qfld sd0 2)) (ByteArray.mk #[])then x1 else bif y1 then x1 else x2 else bif qcmp .eql x0 2 then gd (qsome y3)<|bif y4 then x1 else bif y1 then x1 else x2 else bif y5 then bif y6 then x1 else x3 else bif y8 then bif y9 then x1 else x3 else bif qcmp .eql x0 18 then bif x5 then x6 else bif qcmp .eql x4 2 then x6 else bif qiteB x7 true y11 then x1 else x3 else bif qcmp .eql x0 19 then bif x5 then x6 else bif qiteB x7 true y12 then x1 else x3 else x1:=by kernel_rfl
def Fb245_eq:=by have h:= @Fb245_e;simp only[ge_id,gd,qeqD_self,qeqI_self,qeqB_self,qand_tt,qeq_len,qeq_l,cond_true]at h;exact h
def F245:Nat→List D→Option (List D):=levels Fb245
theorem F245_s (n:Nat):F245 (n+1)=Fb245 (F245 n):=rfl
def q245:List D→Option (List D):=veil fun ds=>F245 (fuelL ds) ds
theorem q245_eq:q245=fun ds=>F245 (fuelL ds) ds:=veil_eq _
theorem sound245:SoundF env.P 245 S245 q245:=recF (fun q=>tbl245_25 q) (fun q hq=>ok_tbl245_25 q hq) q245_eq
def tb245:Tb:=Tb.addF tb194 245 S245 q245
theorem ok_tb245:TbOk env tb245:=TbOk.addF ok_tb194 (by kernel_rfl) sound245
def S196:FunS:=⟨[⟨true,(.dat 105)⟩,⟨true,(.rows 133)⟩],[],[⟨true, .bool⟩],[]⟩
def tbR196 (Q:List D→Option (List D)):Tb:=Tb.addF tb245 196 S196 Q
theorem ok_tbR196 (Q:List D→Option (List D)) (hQ:SoundF env.P 196 S196 Q):TbOk env (tbR196 Q):=TbOk.addF ok_tb245 (by kernel_rfl) hQ
def S196_4:LoopS:=⟨0,[uF,⟨false,(.rows 133)⟩,⟨false,(.ptr 0 0)⟩,uF,⟨false,(.lit (.bool false))⟩,⟨true,(.int .i64)⟩,uF,uF,uF,uF,uF,uF,uF,uF,uF,uF,uF,uF,uF,uF,uF,uF,uF,uF,uF,uF,uF,uF],[(.dat false 105)],[⟨0,0,[uT,⟨false,(.rows 133)⟩,uT,uT,⟨true,(.lit (.bool false))⟩,uT,uT,uT,uT,uT,uT,uT,uT,uT,uT,uT,uT,uT,uT,uT,uT,uT,uT,uT,uT,uT,uT,uT],[(.dat false 105)]⟩,⟨1,0,[uT,⟨false,(.rows 133)⟩,uT,uT,⟨true,(.lit (.bool false))⟩,uT,uT,uT,uT,uT,uT,uT,uT,uT,uT,uT,uT,uT,uT,uT,uT,uT,uT,uT,uT,uT,uT,uT],[(.dat false 105)]⟩]⟩
def st196_4 (Q:List D→Option (List D)) (p s:List D):Option (Sum (List D) (List D)):=stepQX env (tbR196 Q) 60 12 196 (loopC 196 4) S196_4 p s
theorem st196_4_e (Q:List D→Option (List D)) (pd0:D) (pd1:D) (sn0:Int):st196_4 Q [pd0,pd1] [(D.int sn0)] =
 let x0:=qfld pd1 4
 let x1:=Q [qget x0 sn0,pd0]
 bif qcmp .lss sn0 (qlen x0)then gd (qinb x0 sn0)<|gd (qsome x1)<|bif qnot (qbool (qnth x1 0))then ge pd0<|ge pd1<|some (Sum.inr [.int 1])else ge pd0<|ge pd1<|some (Sum.inl [.int (qbin .add .i64 sn0 1)])else ge pd0<|ge pd1<|some (Sum.inr [.int 0]):=by kernel_rfl
def st196_4_eq:=by have h:= @st196_4_e;simp only[ge_id,gd,qeqD_self,qeqI_self,qeqB_self,qand_tt,qeq_len,qeq_l,cond_true]at h;exact h
def l196_4 (Q:List D→Option (List D)):List D→List D→Option (List D):=veil fun p s=>loW (st196_4 Q p) s
theorem l196_4_eq (Q:List D→Option (List D)):l196_4 Q=fun p s=>loW (st196_4 Q p) s:=veil_eq _
def tbl196_4 (Q:List D→Option (List D)):Tb:=Tb.addL (tbR196 Q) 196 4 S196_4.n0 (mkLp S196_4 (l196_4 Q))
theorem ok_tbl196_4 (Q:List D→Option (List D)) (hQ:SoundF env.P 196 S196 Q):TbOk env (tbl196_4 Q):=addLoopQ (ok_tbR196 Q hQ) 196 4 (by kernel_rfl) _ (l196_4_eq Q)
def Fb196 (Q:List D→Option (List D)):List D→Option (List D):=liftX env (tbl196_4 Q) 60 12 196 S196
theorem Fb196_e (Q:List D→Option (List D)) (sd0:D) (sd1:D):Fb196 Q [sd0,sd1] =
 let y0:=q146 [sd1,(.str (qstr (qfld sd0 2)))]
 let y1:=l196_4 Q [sd1,sd0] [(.int 0)]
 bif qcmp .eql (qint (qfld sd0 0)) 2 then gd (qsome y0)<|some [.bool (qbool (qnth y0 0))]else gd (qsome y1)<|bif qcmp .eql (qint (qnth y1 0)) 0 then some [.bool true]else some [.bool false]:=by kernel_rfl
def Fb196_eq:=by have h:= @Fb196_e;simp only[ge_id,gd,qeqD_self,qeqI_self,qeqB_self,qand_tt,qeq_len,qeq_l,cond_true]at h;exact h
def F196:Nat→List D→Option (List D):=levels Fb196
theorem F196_s (n:Nat):F196 (n+1)=Fb196 (F196 n):=rfl
def q196:List D→Option (List D):=veil fun ds=>F196 (fuelL ds) ds
theorem q196_eq:q196=fun ds=>F196 (fuelL ds) ds:=veil_eq _
theorem sound196:SoundF env.P 196 S196 q196:=recF (fun q=>tbl196_4 q) (fun q hq=>ok_tbl196_4 q hq) q196_eq
def tb196:Tb:=Tb.addF tb245 196 S196 q196
theorem ok_tb196:TbOk env tb196:=TbOk.addF ok_tb245 (by kernel_rfl) sound196
end
end Go.Proofs.YteccopaonadbeaaGreatDoor
open Go Go.AM
namespace Go.Proofs.YteccopaonadbeaaGreatDoor
noncomputable section
set_option maxRecDepth 100000
set_option linter.unusedSimpArgs false
set_option linter.unusedVariables false
set_option linter.defProp false
def S155_155:FunS:=⟨[⟨true,(.dat 133)⟩,⟨true,(.eptr [.str])⟩],[],[⟨true, .bool⟩],[]⟩
def F155_155:List D→Option (List D):=liftX env tb196 60 12 155 S155_155
theorem F155_155_eq (sd0:D) (ss1:ByteArray):F155_155 [sd0,(D.str ss1)] =
 some [(D.bool (qcmpS BinOp.eql (qstr (qfld sd0 0)) ss1))]:=by kernel_rfl
def q155_155:List D→Option (List D):=veil (F155_155)
theorem q155_155_eq:q155_155=F155_155:=veil_eq _
def tb155_155:Tb:=Tb.addF tb196 155 S155_155 (q155_155)
theorem ok_tb155_155:TbOk env (tb155_155):=addFunF ok_tb196 155 (by kernel_rfl) _ (q155_155_eq)
def S105_155_2:LoopS:=⟨0,[⟨false,(.rows 133)⟩,⟨false,(.func 155 [] [(.eptr [.str])])⟩,uF,uF,⟨false,(.lit (.int .i64 0))⟩,uF,uF,⟨false,(.int .i64)⟩,⟨true,(.int .i64)⟩,uF,uF,uF,uF,uF,uF,uF,uF,uF,uF],[],[⟨0,0,[⟨false,(.rows 133)⟩,⟨false,(.func 155 [] [(.eptr [.str])])⟩,uT,uT,⟨true,(.lit (.int .i64 0))⟩,uT,uT,⟨false,(.int .i64)⟩,uT,uT,uT,uT,uT,uT,uT,uT,uT,uT,uT],[]⟩,⟨1,0,[⟨false,(.rows 133)⟩,⟨false,(.func 155 [] [(.eptr [.str])])⟩,uT,uT,⟨true,(.int .i64)⟩,uT,uT,⟨false,(.int .i64)⟩,uT,uT,uT,uT,uT,uT,uT,uT,uT,uT,uT],[]⟩]⟩
def st105_155_2 (p s:List D):Option (Sum (List D) (List D)):=stepQX env tb155_155 60 12 105 (loopC 105 2) S105_155_2 p s
theorem st105_155_2_e (pd0:D) (ps1:ByteArray) (pn2:Int) (sn0:Int):st105_155_2 [pd0,(D.str ps1),(D.int pn2)] [(D.int sn0)] =
 let y0:=q155_155 [(qget pd0 sn0),(.str ps1)]
 let x0:=D.str ps1
 let x1:=D.int pn2
 bif qcmp .lss sn0 pn2 then gd (qinb pd0 sn0)<|gd (qsome y0)<|bif qbool (qnth y0 0)then ge pd0<|ge x0<|ge x1<|some (Sum.inr [.int 1,.int sn0])else ge pd0<|ge x0<|ge x1<|some (Sum.inl [.int (qbin .add .i64 sn0 1)])else ge pd0<|ge x0<|ge x1<|some (Sum.inr [.int 0]):=by kernel_rfl
def st105_155_2_eq:=by have h:= @st105_155_2_e;simp only[ge_id,gd,qeqD_self,qeqI_self,qeqB_self,qand_tt,qeq_len,qeq_l,cond_true]at h;exact h
def l105_155_2:List D→List D→Option (List D):=veil fun p s=>loW (st105_155_2 p) s
theorem l105_155_2_eq:l105_155_2=fun p s=>loW (st105_155_2 p) s:=veil_eq _
def tbl105_155_2:Tb:=Tb.addL tb155_155 105 2 S105_155_2.n0 (mkLp S105_155_2 (l105_155_2))
theorem ok_tbl105_155_2:TbOk env (tbl105_155_2):=addLoopQ ok_tb155_155 105 2 (by kernel_rfl) _ (l105_155_2_eq)
def S105_155:FunS:=⟨[⟨true,(.rows 133)⟩,⟨true,(.func 155 [] [(.eptr [.str])])⟩],[],[⟨true,(.int .i64)⟩],[]⟩
def F105_155:List D→Option (List D):=liftX env tbl105_155_2 60 12 105 S105_155
theorem F105_155_e (sd0:D) (ss1:ByteArray):F105_155 [sd0,(D.str ss1)] =
 let y0:=l105_155_2 [sd0,(.str ss1),(.int (qlen sd0))] [(.int 0)]
 gd (qsome y0)<|bif qcmp .eql (qint (qnth y0 0)) 0 then some [.int (-1)]else some [.int (qint (qnth y0 1))]:=by kernel_rfl
def F105_155_eq:=by have h:= @F105_155_e;simp only[ge_id,gd,qeqD_self,qeqI_self,qeqB_self,qand_tt,qeq_len,qeq_l,cond_true]at h;exact h
def q105_155:List D→Option (List D):=veil (F105_155)
theorem q105_155_eq:q105_155=F105_155:=veil_eq _
def tb105_155:Tb:=Tb.addF tbl105_155_2 105 S105_155 (q105_155)
theorem ok_tb105_155:TbOk env (tb105_155):=addFunF ok_tbl105_155_2 105 (by kernel_rfl) _ (q105_155_eq)
def S154_155:FunS:=⟨[⟨true,(.rows 133)⟩,⟨true,(.func 155 [] [(.eptr [.str])])⟩],[],[⟨true, .bool⟩],[]⟩
def F154_155:List D→Option (List D):=liftX env tb105_155 60 12 154 S154_155
theorem F154_155_e (sd0:D) (ss1:ByteArray):F154_155 [sd0,(D.str ss1)] =
 let y0:=q105_155 [sd0,(.str ss1)]
 gd (qsome y0)<|some [.bool (qcmp .geq (qint (qnth y0 0)) 0)]:=by kernel_rfl
def F154_155_eq:=by have h:= @F154_155_e;simp only[ge_id,gd,qeqD_self,qeqI_self,qeqB_self,qand_tt,qeq_len,qeq_l,cond_true]at h;exact h
def q154_155:List D→Option (List D):=veil (F154_155)
theorem q154_155_eq:q154_155=F154_155:=veil_eq _
def tb154_155:Tb:=Tb.addF tb105_155 154 S154_155 (q154_155)
theorem ok_tb154_155:TbOk env (tb154_155):=addFunF ok_tb105_155 154 (by kernel_rfl) _ (q154_155_eq)
def S153:FunS:=⟨[⟨true, .str⟩,⟨true,(.eptr [(.rows 133)])⟩],[],[⟨true, .bool⟩],[]⟩
def F153:List D→Option (List D):=liftX env tb154_155 60 12 153 S153
theorem F153_e (ss0:ByteArray) (sd1:D):F153 [(D.str ss0),sd1] =
 let y0:=q154_155 [sd1,(.str ss0)]
 gd (qsome y0)<|some [.bool (qbool (qnth y0 0))]:=by kernel_rfl
def F153_eq:=by have h:= @F153_e;simp only[ge_id,gd,qeqD_self,qeqI_self,qeqB_self,qand_tt,qeq_len,qeq_l,cond_true]at h;exact h
def q153:List D→Option (List D):=veil (F153)
theorem q153_eq:q153=F153:=veil_eq _
def tb153:Tb:=Tb.addF tb154_155 153 S153 (q153)
theorem ok_tb153:TbOk env (tb153):=addFunF ok_tb154_155 153 (by kernel_rfl) _ (q153_eq)
def S205:FunS:=⟨[⟨true,(.dat 105)⟩,⟨true,(.func 153 [] [(.eptr [(.rows 133)])])⟩],[],[⟨true, .bool⟩],[]⟩
def tbR205 (Q:List D→Option (List D)):Tb:=Tb.addF tb153 205 S205 Q
theorem ok_tbR205 (Q:List D→Option (List D)) (hQ:SoundF env.P 205 S205 Q):TbOk env (tbR205 Q):=TbOk.addF ok_tb153 (by kernel_rfl) hQ
def S252_252:FunS:=⟨[⟨true,(.dat 105)⟩,⟨true,(.eptr [(.func 153 [] [(.eptr [(.rows 133)])])])⟩],[],[⟨true, .bool⟩],[]⟩
def F252_252 (Q:List D→Option (List D)):List D→Option (List D):=liftX env (tbR205 Q) 60 12 252 S252_252
theorem F252_252_eq (Q:List D→Option (List D)) (sd0:D) (sd1:D):F252_252 Q [sd0,sd1] =
 bif (qsome (Q [sd0,sd1]))then
  some [(D.bool (qnot (qbool (qnth (Q [sd0,sd1]) 0))))]
 else
  none:=by kernel_rfl
def q252_252 (Q:List D→Option (List D)):List D→Option (List D):=veil (F252_252 Q)
theorem q252_252_eq (Q:List D→Option (List D)):q252_252 Q=F252_252 Q:=veil_eq _
def tb252_252 (Q:List D→Option (List D)):Tb:=Tb.addF (tbR205 Q) 252 S252_252 (q252_252 Q)
theorem ok_tb252_252 (Q:List D→Option (List D)) (hQ:SoundF env.P 205 S205 Q):TbOk env (tb252_252 Q):=addFunF (ok_tbR205 Q hQ) 252 (by kernel_rfl) _ (q252_252_eq Q)
def S201_252_2:LoopS:=⟨0,[⟨false,(.rows 105)⟩,⟨false,(.func 252 [] [(.eptr [(.func 153 [] [(.eptr [(.rows 133)])])])])⟩,uF,uF,⟨false,(.lit (.int .i64 0))⟩,uF,uF,⟨false,(.int .i64)⟩,⟨true,(.int .i64)⟩,uF,uF,uF,uF,uF,uF,uF,uF,uF,uF],[],[⟨0,0,[⟨false,(.rows 105)⟩,⟨false,(.func 252 [] [(.eptr [(.func 153 [] [(.eptr [(.rows 133)])])])])⟩,uT,uT,⟨true,(.lit (.int .i64 0))⟩,uT,uT,⟨false,(.int .i64)⟩,uT,uT,uT,uT,uT,uT,uT,uT,uT,uT,uT],[]⟩,⟨1,0,[⟨false,(.rows 105)⟩,⟨false,(.func 252 [] [(.eptr [(.func 153 [] [(.eptr [(.rows 133)])])])])⟩,uT,uT,⟨true,(.int .i64)⟩,uT,uT,⟨false,(.int .i64)⟩,uT,uT,uT,uT,uT,uT,uT,uT,uT,uT,uT],[]⟩]⟩
def st201_252_2 (Q:List D→Option (List D)) (p s:List D):Option (Sum (List D) (List D)):=stepQX env (tb252_252 Q) 60 12 201 (loopC 201 2) S201_252_2 p s
theorem st201_252_2_e (Q:List D→Option (List D)) (pd0:D) (pd1:D) (pn2:Int) (sn0:Int):st201_252_2 Q [pd0,pd1,(D.int pn2)] [(D.int sn0)] =
 let y0:=q252_252 Q [(qget pd0 sn0),pd1]
 let x0:=D.int pn2
 bif qcmp .lss sn0 pn2 then gd (qinb pd0 sn0)<|gd (qsome y0)<|bif qbool (qnth y0 0)then ge pd0<|ge pd1<|ge x0<|some (Sum.inr [.int 1,.int sn0])else ge pd0<|ge pd1<|ge x0<|some (Sum.inl [.int (qbin .add .i64 sn0 1)])else ge pd0<|ge pd1<|ge x0<|some (Sum.inr [.int 0]):=by kernel_rfl
def st201_252_2_eq:=by have h:= @st201_252_2_e;simp only[ge_id,gd,qeqD_self,qeqI_self,qeqB_self,qand_tt,qeq_len,qeq_l,cond_true]at h;exact h
def l201_252_2 (Q:List D→Option (List D)):List D→List D→Option (List D):=veil fun p s=>loW (st201_252_2 Q p) s
theorem l201_252_2_eq (Q:List D→Option (List D)):l201_252_2 Q=fun p s=>loW (st201_252_2 Q p) s:=veil_eq _
def tbl201_252_2 (Q:List D→Option (List D)):Tb:=Tb.addL (tb252_252 Q) 201 2 S201_252_2.n0 (mkLp S201_252_2 (l201_252_2 Q))
theorem ok_tbl201_252_2 (Q:List D→Option (List D)) (hQ:SoundF env.P 205 S205 Q):TbOk env (tbl201_252_2 Q):=addLoopQ (ok_tb252_252 Q hQ) 201 2 (by kernel_rfl) _ (l201_252_2_eq Q)
def S201_252:FunS:=⟨[⟨true,(.rows 105)⟩,⟨true,(.func 252 [] [(.eptr [(.func 153 [] [(.eptr [(.rows 133)])])])])⟩],[],[⟨true,(.int .i64)⟩],[]⟩
def F201_252 (Q:List D→Option (List D)):List D→Option (List D):=liftX env (tbl201_252_2 Q) 60 12 201 S201_252
theorem F201_252_e (Q:List D→Option (List D)) (sd0:D) (sd1:D):F201_252 Q [sd0,sd1] =
 let y0:=l201_252_2 Q [sd0,sd1,(.int (qlen sd0))] [(.int 0)]
 gd (qsome y0)<|bif qcmp .eql (qint (qnth y0 0)) 0 then some [.int (-1)]else some [.int (qint (qnth y0 1))]:=by kernel_rfl
def F201_252_eq:=by have h:= @F201_252_e;simp only[ge_id,gd,qeqD_self,qeqI_self,qeqB_self,qand_tt,qeq_len,qeq_l,cond_true]at h;exact h
def q201_252 (Q:List D→Option (List D)):List D→Option (List D):=veil (F201_252 Q)
theorem q201_252_eq (Q:List D→Option (List D)):q201_252 Q=F201_252 Q:=veil_eq _
def tb201_252 (Q:List D→Option (List D)):Tb:=Tb.addF (tbl201_252_2 Q) 201 S201_252 (q201_252 Q)
theorem ok_tb201_252 (Q:List D→Option (List D)) (hQ:SoundF env.P 205 S205 Q):TbOk env (tb201_252 Q):=addFunF (ok_tbl201_252_2 Q hQ) 201 (by kernel_rfl) _ (q201_252_eq Q)
def S162_252:FunS:=⟨[⟨true,(.rows 105)⟩,⟨true,(.func 252 [] [(.eptr [(.func 153 [] [(.eptr [(.rows 133)])])])])⟩],[],[⟨true, .bool⟩],[]⟩
def F162_252 (Q:List D→Option (List D)):List D→Option (List D):=liftX env (tb201_252 Q) 60 12 162 S162_252
theorem F162_252_e (Q:List D→Option (List D)) (sd0:D) (sd1:D):F162_252 Q [sd0,sd1] =
 let y0:=qsome (q201_252 Q [sd0,sd1])
 let y1:=qnth (q201_252 Q [sd0,sd1]) 0
 gd y0<|some [.bool (qcmp .geq (qint y1) 0)]:=by kernel_rfl
def F162_252_eq:=by have h:= @F162_252_e;simp only[ge_id,gd,qeqD_self,qeqI_self,qeqB_self,qand_tt,qeq_len,qeq_l,cond_true]at h;exact h
def q162_252 (Q:List D→Option (List D)):List D→Option (List D):=veil (F162_252 Q)
theorem q162_252_eq (Q:List D→Option (List D)):q162_252 Q=F162_252 Q:=veil_eq _
def tb162_252 (Q:List D→Option (List D)):Tb:=Tb.addF (tb201_252 Q) 162 S162_252 (q162_252 Q)
theorem ok_tb162_252 (Q:List D→Option (List D)) (hQ:SoundF env.P 205 S205 Q):TbOk env (tb162_252 Q):=addFunF (ok_tb201_252 Q hQ) 162 (by kernel_rfl) _ (q162_252_eq Q)
def Fb205 (Q:List D→Option (List D)):List D→Option (List D):=liftX env (tb162_252 Q) 60 12 205 S205
theorem Fb205_e (Q:List D→Option (List D)) (sd0:D) (sd1:D):Fb205 Q [sd0,sd1] =
 let y0:=q153 [(.str (qstr (qfld sd0 2))),sd1]
 let y1:=q162_252 Q [(qfld sd0 4),sd1]
 let x0:Option (List D):=gd (qsome y1)<|some [.bool (qnot (qbool (qnth y1 0)))]
 bif qcmp .eql (qint (qfld sd0 0)) 2 then gd (qsome y0)<|bif qnot (qbool (qnth y0 0))then some [.bool false]else x0 else x0:=by kernel_rfl
def Fb205_eq:=by have h:= @Fb205_e;simp only[ge_id,gd,qeqD_self,qeqI_self,qeqB_self,qand_tt,qeq_len,qeq_l,cond_true]at h;exact h
def F205:Nat→List D→Option (List D):=levels Fb205
theorem F205_s (n:Nat):F205 (n+1)=Fb205 (F205 n):=rfl
def q205:List D→Option (List D):=veil fun ds=>F205 (fuelL ds) ds
theorem q205_eq:q205=fun ds=>F205 (fuelL ds) ds:=veil_eq _
theorem sound205:SoundF env.P 205 S205 q205:=recF (fun q=>tb162_252 q) (fun q hq=>ok_tb162_252 q hq) q205_eq
def tb205:Tb:=Tb.addF tb153 205 S205 q205
theorem ok_tb205:TbOk env tb205:=TbOk.addF ok_tb153 (by kernel_rfl) sound205
end
end Go.Proofs.YteccopaonadbeaaGreatDoor
open Go Go.AM
namespace Go.Proofs.YteccopaonadbeaaGreatDoor
noncomputable section
set_option maxRecDepth 100000
set_option linter.unusedSimpArgs false
set_option linter.unusedVariables false
set_option linter.defProp false
def S156:FunS:=⟨[⟨true,(.dat 131)⟩,⟨true,(.int .i64)⟩],[],[⟨true, .bool⟩],[]⟩
def tbR156 (Q:List D→Option (List D)):Tb:=Tb.addF tb205 156 S156 Q
theorem ok_tbR156 (Q:List D→Option (List D)) (hQ:SoundF env.P 156 S156 Q):TbOk env (tbR156 Q):=TbOk.addF ok_tb205 (by kernel_rfl) hQ
def S156_4:LoopS:=⟨0,[uF,⟨false,(.int .i64)⟩,⟨false,(.ptr 0 0)⟩,uF,⟨false,(.lit (.bool false))⟩,uF,uF,uF,uF,uF,uF,uF,⟨false,(.rows 131)⟩,⟨false,(.int .i64)⟩,⟨true,(.int .i64)⟩,uF,uF,uF,uF,uF,uF,uF,uF,uF,uF,uF,uF,uF,uF,uF,uF,uF,uF,uF,uF,uF,uF,uF],[(.dat false 131)],[⟨0,0,[uT,⟨false,(.int .i64)⟩,⟨true,(.ptr 0 0)⟩,uT,⟨true,(.lit (.bool false))⟩,uT,uT,uT,uT,uT,uT,uT,⟨false,(.rows 131)⟩,⟨false,(.int .i64)⟩,uT,uT,uT,uT,uT,uT,uT,uT,uT,uT,uT,uT,uT,uT,uT,uT,uT,uT,uT,uT,uT,uT,uT,uT],[(.dat false 131)]⟩,⟨1,0,[uT,⟨false,(.int .i64)⟩,uT,uT,⟨true,(.lit (.bool false))⟩,uT,uT,uT,uT,uT,uT,uT,⟨false,(.rows 131)⟩,⟨false,(.int .i64)⟩,uT,uT,uT,uT,uT,uT,uT,uT,uT,uT,uT,uT,uT,uT,uT,uT,uT,uT,uT,uT,uT,uT,uT,uT],[(.dat false 131)]⟩]⟩
def st156_4 (Q:List D→Option (List D)) (p s:List D):Option (Sum (List D) (List D)):=stepQX env (tbR156 Q) 60 12 156 (loopC 156 4) S156_4 p s
theorem st156_4_e (Q:List D→Option (List D)) (pn0:Int) (pd1:D) (pn2:Int) (pd3:D) (sn0:Int):st156_4 Q [(D.int pn0),pd1,(D.int pn2),pd3] [(D.int sn0)] =
 let y0:=qsome (Q [(qget pd1 sn0),(.int (qbin .sub .i64 pn0 1))])
 let y1:=qnth (Q [(qget pd1 sn0),(.int (qbin .sub .i64 pn0 1))]) 0
 let x0:=D.int pn0
 let x1:=D.int pn2
 bif qcmp .lss sn0 pn2 then gd (qinb pd1 sn0)<|gd y0<|bif qnot (qbool y1)then ge x0<|ge pd1<|ge x1<|ge pd3<|some (Sum.inr [.int 1])else ge x0<|ge pd1<|ge x1<|ge pd3<|some (Sum.inl [.int (qbin .add .i64 sn0 1)])else ge x0<|ge pd1<|ge x1<|ge pd3<|some (Sum.inr [.int 0]):=by kernel_rfl
def st156_4_eq:=by have h:= @st156_4_e;simp only[ge_id,gd,qeqD_self,qeqI_self,qeqB_self,qand_tt,qeq_len,qeq_l,cond_true]at h;exact h
def l156_4 (Q:List D→Option (List D)):List D→List D→Option (List D):=veil fun p s=>loW (st156_4 Q p) s
theorem l156_4_eq (Q:List D→Option (List D)):l156_4 Q=fun p s=>loW (st156_4 Q p) s:=veil_eq _
def tbl156_4 (Q:List D→Option (List D)):Tb:=Tb.addL (tbR156 Q) 156 4 S156_4.n0 (mkLp S156_4 (l156_4 Q))
theorem ok_tbl156_4 (Q:List D→Option (List D)) (hQ:SoundF env.P 156 S156 Q):TbOk env (tbl156_4 Q):=addLoopQ (ok_tbR156 Q hQ) 156 4 (by kernel_rfl) _ (l156_4_eq Q)
def S156_10:LoopS:=⟨0,[uF,⟨false,(.int .i64)⟩,uF,uF,⟨false,(.lit (.bool false))⟩,uF,uF,uF,uF,uF,uF,uF,uF,uF,uF,uF,uF,uF,uF,uF,uF,uF,uF,uF,uF,⟨false,(.rows 245)⟩,⟨false,(.int .i64)⟩,⟨true,(.int .i64)⟩,uF,uF,uF,uF,uF,uF,uF,uF,uF,uF],[],[⟨0,2,[uT,⟨false,(.int .i64)⟩,uT,uT,⟨true,(.lit (.bool false))⟩,uT,uT,uT,uT,uT,uT,uT,uT,uT,uT,uT,uT,uT,uT,uT,uT,uT,uT,uT,uT,⟨false,(.rows 245)⟩,⟨false,(.int .i64)⟩,uT,uT,uT,uT,uT,uT,uT,uT,uT,uT,uT],[]⟩,⟨1,0,[uT,⟨false,(.int .i64)⟩,uT,uT,⟨true,(.lit (.bool false))⟩,uT,uT,uT,uT,uT,uT,uT,uT,uT,uT,uT,uT,uT,uT,uT,uT,uT,uT,uT,uT,⟨false,(.rows 245)⟩,⟨false,(.int .i64)⟩,uT,uT,uT,uT,uT,uT,uT,uT,uT,uT,uT],[]⟩]⟩
def st156_10 (Q:List D→Option (List D)) (p s:List D):Option (Sum (List D) (List D)):=stepQX env (tbl156_4 Q) 60 12 156 (loopC 156 10) S156_10 p s
theorem st156_10_e (Q:List D→Option (List D)) (pn0:Int) (pd1:D) (pn2:Int) (sn0:Int):st156_10 Q [(D.int pn0),pd1,(D.int pn2)] [(D.int sn0)] =
 let y0:=qsome (Q [(.agg [(.int (qint (qfld (qfld (qget pd1 sn0) 1) 0))),(.int (qint (qfld (qfld (qget pd1 sn0) 1) 1))),(.int (qint (qfld (qfld (qget pd1 sn0) 1) 2))),(qfld (qfld (qget pd1 sn0) 1) 3),(qfld (qfld (qget pd1 sn0) 1) 4)]),(.int (qbin .sub .i64 pn0 1))])
 let y1:=qnth (Q [(.agg [(.int (qint (qfld (qfld (qget pd1 sn0) 1) 0))),(.int (qint (qfld (qfld (qget pd1 sn0) 1) 1))),(.int (qint (qfld (qfld (qget pd1 sn0) 1) 2))),(qfld (qfld (qget pd1 sn0) 1) 3),(qfld (qfld (qget pd1 sn0) 1) 4)]),(.int (qbin .sub .i64 pn0 1))]) 0
 let x0:=D.int pn0
 let x1:=D.int pn2
 bif qcmp .lss sn0 pn2 then gd (qinb pd1 sn0)<|gd y0<|bif qnot (qbool y1)then ge x0<|ge pd1<|ge x1<|some (Sum.inr [.int 1])else ge x0<|ge pd1<|ge x1<|some (Sum.inl [.int (qbin .add .i64 sn0 1)])else ge x0<|ge pd1<|ge x1<|some (Sum.inr [.int 0]):=by kernel_rfl
def st156_10_eq:=by have h:= @st156_10_e;simp only[ge_id,gd,qeqD_self,qeqI_self,qeqB_self,qand_tt,qeq_len,qeq_l,cond_true]at h;exact h
def l156_10 (Q:List D→Option (List D)):List D→List D→Option (List D):=veil fun p s=>loW (st156_10 Q p) s
theorem l156_10_eq (Q:List D→Option (List D)):l156_10 Q=fun p s=>loW (st156_10 Q p) s:=veil_eq _
def tbl156_10 (Q:List D→Option (List D)):Tb:=Tb.addL (tbl156_4 Q) 156 10 S156_10.n0 (mkLp S156_10 (l156_10 Q))
theorem ok_tbl156_10 (Q:List D→Option (List D)) (hQ:SoundF env.P 156 S156 Q):TbOk env (tbl156_10 Q):=addLoopQ (ok_tbl156_4 Q hQ) 156 10 (by kernel_rfl) _ (l156_10_eq Q)
def Fb156 (Q:List D→Option (List D)):List D→Option (List D):=liftX env (tbl156_10 Q) 60 12 156 S156
theorem Fb156_e (Q:List D→Option (List D)) (sd0:D) (sn1:Int):Fb156 Q [sd0,(D.int sn1)] =
 let y0:=l156_4 Q [(.int sn1),(qfld sd0 3),(.int (qlen (qfld sd0 3))),sd0] [(.int 0)]
 let y1:=l156_10 Q [(.int sn1),(qfld sd0 4),(.int (qlen (qfld sd0 4)))] [(.int 0)]
 let x0:Option (List D):=some [.bool false]
 bif qcmp .lss sn1 1 then x0 else gd (qsome y0)<|bif qcmp .eql (qint (qnth y0 0)) 0 then gd (qsome y1)<|bif qcmp .eql (qint (qnth y1 0)) 0 then some [.bool true]else x0 else x0:=by kernel_rfl
def Fb156_eq:=by have h:= @Fb156_e;simp only[ge_id,gd,qeqD_self,qeqI_self,qeqB_self,qand_tt,qeq_len,qeq_l,cond_true]at h;exact h
def F156:Nat→List D→Option (List D):=levels Fb156
theorem F156_s (n:Nat):F156 (n+1)=Fb156 (F156 n):=rfl
def q156:List D→Option (List D):=veil fun ds=>F156 (fuelL ds) ds
theorem q156_eq:q156=fun ds=>F156 (fuelL ds) ds:=veil_eq _
theorem sound156:SoundF env.P 156 S156 q156:=recF (fun q=>tbl156_10 q) (fun q hq=>ok_tbl156_10 q hq) q156_eq
def tb156:Tb:=Tb.addF tb205 156 S156 q156
theorem ok_tb156:TbOk env tb156:=TbOk.addF ok_tb205 (by kernel_rfl) sound156
def S157:FunS:=⟨[⟨true,(.dat 131)⟩],[],[⟨true, .bool⟩],[]⟩
def tbR157 (Q:List D→Option (List D)):Tb:=Tb.addF tb156 157 S157 Q
theorem ok_tbR157 (Q:List D→Option (List D)) (hQ:SoundF env.P 157 S157 Q):TbOk env (tbR157 Q):=TbOk.addF ok_tb156 (by kernel_rfl) hQ
def S157_23:LoopS:=⟨0,[uF,⟨false,(.ptr 0 0)⟩,⟨false,(.lit (.bool false))⟩,uF,⟨false,(.int .i64)⟩,uF,uF,uF,uF,uF,uF,uF,uF,uF,uF,uF,uF,uF,uF,uF,uF,uF,uF,uF,uF,uF,uF,uF,uF,uF,uF,uF,uF,uF,uF,uF,uF,uF,uF,uF,uF,uF,uF,uF,uF,uF,uF,uF,uF,uF,uF,uF,uF,uF,uF,uF,uF,uF,uF,uF,uF,uF,uF,uF,uF,uF,uF,uF,uF,uF,uF,uF,uF,uF,uF,uF,uF,uF,uF,uF,uF,uF,uF,uF,⟨false,(.rows 245)⟩,⟨false,(.int .i64)⟩,⟨true,(.int .i64)⟩,uF,uF,uF,uF,uF,uF,uF,uF,uF,uF,uF,uF,uF,uF,uF,uF,uF,uF,uF,uF,uF,uF,uF,uF,uF,uF,uF,uF,uF,uF,uF,uF,uF,uF,uF,uF,uF,uF,uF,uF,uF,uF,uF,uF],[(.dat false 131)],[⟨0,1,[uT,⟨true,(.ptr 0 0)⟩,⟨true,(.lit (.bool false))⟩,uT,⟨false,(.int .i64)⟩,uT,uT,uT,uT,uT,uT,uT,uT,uT,uT,uT,uT,uT,uT,uT,uT,uT,uT,uT,uT,uT,uT,uT,uT,uT,uT,uT,uT,uT,uT,uT,uT,uT,uT,uT,uT,uT,uT,uT,uT,uT,uT,uT,uT,uT,uT,uT,uT,uT,uT,uT,uT,uT,uT,uT,uT,uT,uT,uT,uT,uT,uT,uT,uT,uT,uT,uT,uT,uT,uT,uT,uT,uT,uT,uT,uT,uT,uT,uT,⟨false,(.rows 245)⟩,⟨false,(.int .i64)⟩,uT,uT,uT,uT,uT,uT,uT,uT,uT,uT,uT,uT,uT,uT,uT,uT,uT,uT,uT,uT,uT,uT,uT,uT,uT,uT,uT,uT,uT,uT,uT,uT,uT,uT,uT,uT,uT,uT,uT,uT,uT,uT,uT,uT,uT],[(.dat false 131)]⟩,⟨1,0,[uT,uT,⟨true,(.lit (.bool false))⟩,uT,⟨false,(.int .i64)⟩,uT,uT,uT,uT,uT,uT,uT,uT,uT,uT,uT,uT,uT,uT,uT,uT,uT,uT,uT,uT,uT,uT,uT,uT,uT,uT,uT,uT,uT,uT,uT,uT,uT,uT,uT,uT,uT,uT,uT,uT,uT,uT,uT,uT,uT,uT,uT,uT,uT,uT,uT,uT,uT,uT,uT,uT,uT,uT,uT,uT,uT,uT,uT,uT,uT,uT,uT,uT,uT,uT,uT,uT,uT,uT,uT,uT,uT,uT,uT,⟨false,(.rows 245)⟩,⟨false,(.int .i64)⟩,uT,uT,uT,uT,uT,uT,uT,uT,uT,uT,uT,uT,uT,uT,uT,uT,uT,uT,uT,uT,uT,uT,uT,uT,uT,uT,uT,uT,uT,uT,uT,uT,uT,uT,uT,uT,uT,uT,uT,uT,uT,uT,uT,uT,uT],[(.dat false 131)]⟩]⟩
def st157_23 (Q:List D→Option (List D)) (p s:List D):Option (Sum (List D) (List D)):=stepQX env (tbR157 Q) 60 12 157 (loopC 157 23) S157_23 p s
theorem st157_23_e (Q:List D→Option (List D)) (pn0:Int) (pd1:D) (pn2:Int) (pd3:D) (sn0:Int):st157_23 Q [(D.int pn0),pd1,(D.int pn2),pd3] [(D.int sn0)] =
 let y0:=qfld (qget (qfld pd3 4) (qbin .sub .i64 sn0 1)) 0
 let y1:=qsome (Q [(.agg [(.int (qint (qfld (qfld (qget pd1 sn0) 1) 0))),(.int (qint (qfld (qfld (qget pd1 sn0) 1) 1))),(.int (qint (qfld (qfld (qget pd1 sn0) 1) 2))),(qfld (qfld (qget pd1 sn0) 1) 3),(qfld (qfld (qget pd1 sn0) 1) 4)])])
 let y2:=qnth (Q [(.agg [(.int (qint (qfld (qfld (qget pd1 sn0) 1) 0))),(.int (qint (qfld (qfld (qget pd1 sn0) 1) 1))),(.int (qint (qfld (qfld (qget pd1 sn0) 1) 2))),(qfld (qfld (qget pd1 sn0) 1) 3),(qfld (qfld (qget pd1 sn0) 1) 4)])]) 0
 let x0:=qint (qfld (qget pd1 sn0) 0)
 let x1:=D.int pn0
 let x2:=D.int pn2
 let x3:Option (List D ⊕ List D):=ge x1<|ge pd1<|ge x2<|ge pd3<|some (Sum.inr [.int 1])
 let x4:Option (List D ⊕ List D):=gd y1<|bif qnot (qbool y2)then x3 else ge x1<|ge pd1<|ge x2<|ge pd3<|some (Sum.inl [.int (qbin .add .i64 sn0 1)])
 bif qcmp .lss sn0 pn2 then gd (qinb pd1 sn0)<|bif qcmp .lss x0 0 then x3 else bif qcmp .geq x0 65536 then x3 else bif qcmp .gtr sn0 0 then gd (qinb (qfld pd3 4) (qbin .sub .i64 sn0 1))<|bif qcmp .leq x0 (qint y0)then x3 else x4 else x4 else ge x1<|ge pd1<|ge x2<|ge pd3<|some (Sum.inr [.int 0]):=by kernel_rfl
def st157_23_eq:=by have h:= @st157_23_e;simp only[ge_id,gd,qeqD_self,qeqI_self,qeqB_self,qand_tt,qeq_len,qeq_l,cond_true]at h;exact h
def l157_23 (Q:List D→Option (List D)):List D→List D→Option (List D):=veil fun p s=>loW (st157_23 Q p) s
theorem l157_23_eq (Q:List D→Option (List D)):l157_23 Q=fun p s=>loW (st157_23 Q p) s:=veil_eq _
def tbl157_23 (Q:List D→Option (List D)):Tb:=Tb.addL (tbR157 Q) 157 23 S157_23.n0 (mkLp S157_23 (l157_23 Q))
theorem ok_tbl157_23 (Q:List D→Option (List D)) (hQ:SoundF env.P 157 S157 Q):TbOk env (tbl157_23 Q):=addLoopQ (ok_tbR157 Q hQ) 157 23 (by kernel_rfl) _ (l157_23_eq Q)
def Fb157 (Q:List D→Option (List D)):List D→Option (List D):=liftX env (tbl157_23 Q) 60 12 157 S157
theorem Fb157_e (Q:List D→Option (List D)) (sd0:D):Fb157 Q [sd0] =
 let y0:=qiteB (qcmp .eql (qint (qfld sd0 0)) 6) (qcmp .eql (qint (qfld sd0 0)) 6) (qcmp .eql (qint (qfld sd0 0)) 5)
 let y1:=qiteB (qcmp .eql (qint (qfld sd0 0)) 0) (qcmp .eql (qint (qfld sd0 0)) 0) y0
 let y2:=qiteB (qcmp .neq (qint (qfld sd0 1)) 0) true (qcmp .neq (qint (qfld sd0 2)) 0)
 let y3:=qiteB (qnot (qcmp .eql (qint (qfld sd0 0)) 5)) (qcmp .gtr (qlen (qfld sd0 4)) 0) false
 let y4:=qiteB (qiteB y2 true (qcmp .neq (qlen (qfld sd0 3)) 0)) true y3
 let y5:=l157_23 Q [(.int 0),(qfld sd0 4),(.int (qlen (qfld sd0 4))),sd0] [(.int 0)]
 let y6:=qand (qinb (qfld sd0 3) 0) (qsome (Q [(qget (qfld sd0 3) 0)]))
 let y7:=qiteB (qcmp .eql 0 0) true (qbool (qnth (Q [(qget (qfld sd0 3) 0)]) 0))
 let y8:=qiteB (qcmp .eql (qint (qfld sd0 0)) 1) (qcmp .eql (qint (qfld sd0 0)) 1) (qcmp .eql (qint (qfld sd0 0)) 2)
 let y9:=qiteB (qcmp .neq (qint (qfld sd0 1)) 1) (qcmp .neq (qint (qfld sd0 1)) 2) false
 let y10:=qiteB (qcmp .neq (qint (qfld sd0 1)) (qint (qfld sd0 1))) true (qcmp .neq (qint (qfld sd0 2)) 0)
 let y11:=qiteB (qiteB y10 true (qcmp .neq (qlen (qfld sd0 3)) 0)) true y3
 let y12:=qiteB (qiteB y2 true (qcmp .neq (qlen (qfld sd0 3)) 1)) true y3
 let y13:=l157_23 Q [(.int 1),(qfld sd0 4),(.int (qlen (qfld sd0 4))),sd0] [(.int 0)]
 let y14:=qiteB (qcmp .eql 1 0) true (qbool (qnth (Q [(qget (qfld sd0 3) 0)]) 0))
 let y15:=qiteB (qcmp .lss (qint (qfld sd0 2)) 1) true (qcmp .gtr (qint (qfld sd0 2)) 65536)
 let y16:=qiteB (qcmp .neq (qint (qfld sd0 1)) 0) true (qcmp .neq (qint (qfld sd0 2)) (qint (qfld sd0 2)))
 let y17:=qiteB (qiteB y16 true (qcmp .neq (qlen (qfld sd0 3)) 1)) true y3
 let x0:Option (List D):=some [.bool false]
 let x1:Option (List D):=gd (qsome y5)<|bif qcmp .eql (qint (qnth y5 0)) 0 then gd (qiteB (qcmp .eql 0 0) true y6)<|some [.bool y7]else x0
 let x2:=qint (qfld sd0 0)
 let x3:Option (List D):=gd (qsome y13)<|bif qcmp .eql (qint (qnth y13 0)) 0 then gd (qiteB (qcmp .eql 1 0) true y6)<|some [.bool y14]else x0
 bif y1 then bif y4 then x0 else x1 else bif y8 then bif qiteB y9 (qcmp .neq (qint (qfld sd0 1)) 4) false then x0 else bif y11 then x0 else x1 else bif qcmp .eql x2 3 then bif y12 then x0 else x3 else bif qcmp .eql x2 4 then bif y15 then x0 else bif y17 then x0 else x3 else x0:=by kernel_rfl
def Fb157_eq:=by have h:= @Fb157_e;simp only[ge_id,gd,qeqD_self,qeqI_self,qeqB_self,qand_tt,qeq_len,qeq_l,cond_true]at h;exact h
def F157:Nat→List D→Option (List D):=levels Fb157
theorem F157_s (n:Nat):F157 (n+1)=Fb157 (F157 n):=rfl
def q157:List D→Option (List D):=veil fun ds=>F157 (fuelL ds) ds
theorem q157_eq:q157=fun ds=>F157 (fuelL ds) ds:=veil_eq _
theorem sound157:SoundF env.P 157 S157 q157:=recF (fun q=>tbl157_23 q) (fun q hq=>ok_tbl157_23 q hq) q157_eq
def tb157:Tb:=Tb.addF tb156 157 S157 q157
theorem ok_tb157:TbOk env tb157:=TbOk.addF ok_tb156 (by kernel_rfl) sound157
def S198:FunS:=⟨[⟨true,(.dat 131)⟩],[],[⟨true,(.int .i64)⟩],[]⟩
def tbR198 (Q:List D→Option (List D)):Tb:=Tb.addF tb157 198 S198 Q
theorem ok_tbR198 (Q:List D→Option (List D)) (hQ:SoundF env.P 198 S198 Q):TbOk env (tbR198 Q):=TbOk.addF ok_tb157 (by kernel_rfl) hQ
def S198_12:LoopS:=⟨0,[uF,uF,⟨false,(.lit (.int .i64 0))⟩,⟨true,(.int .i64)⟩,uF,uF,uF,uF,uF,uF,uF,uF,uF,uF,uF,uF,uF,uF,uF,uF,uF,uF,uF,uF,uF,uF,uF,uF,⟨false,(.rows 245)⟩,⟨false,(.int .i64)⟩,⟨true,(.int .i64)⟩,uF,uF,uF,uF,uF,uF,uF,uF,uF,uF,uF,uF,uF,uF],[],[⟨0,1,[uT,uT,⟨true,(.lit (.int .i64 0))⟩,⟨true,(.int .i64)⟩,uT,uT,uT,uT,uT,uT,uT,uT,uT,uT,uT,uT,uT,uT,uT,uT,uT,uT,uT,uT,uT,uT,uT,uT,⟨false,(.rows 245)⟩,⟨false,(.int .i64)⟩,uT,uT,uT,uT,uT,uT,uT,uT,uT,uT,uT,uT,uT,uT,uT],[]⟩]⟩
def st198_12 (Q:List D→Option (List D)) (p s:List D):Option (Sum (List D) (List D)):=stepQX env (tbR198 Q) 60 12 198 (loopC 198 12) S198_12 p s
theorem st198_12_e (Q:List D→Option (List D)) (pd0:D) (pn1:Int) (sn0:Int) (sn1:Int):st198_12 Q [pd0,(D.int pn1)] [(D.int sn0),(D.int sn1)] =
 let y0:=qsome (Q [(.agg [(.int (qint (qfld (qfld (qget pd0 sn1) 1) 0))),(.int (qint (qfld (qfld (qget pd0 sn1) 1) 1))),(.int (qint (qfld (qfld (qget pd0 sn1) 1) 2))),(qfld (qfld (qget pd0 sn1) 1) 3),(qfld (qfld (qget pd0 sn1) 1) 4)])])
 let y1:=qnth (Q [(.agg [(.int (qint (qfld (qfld (qget pd0 sn1) 1) 0))),(.int (qint (qfld (qfld (qget pd0 sn1) 1) 1))),(.int (qint (qfld (qfld (qget pd0 sn1) 1) 2))),(qfld (qfld (qget pd0 sn1) 1) 3),(qfld (qfld (qget pd0 sn1) 1) 4)])]) 0
 let y2:=qbin .add .i64 (qint (qfld (qget pd0 sn1) 0)) (qint y1)
 bif qcmp .lss sn1 pn1 then gd (qinb pd0 sn1)<|gd y0<|ge pd0<|ge (.int pn1)<|some (Sum.inl [.int (qmm .gtr sn0 y2),.int (qbin .add .i64 sn1 1)])else ge pd0<|ge (.int pn1)<|some (Sum.inr [.int 0,.int sn0]):=by kernel_rfl
def st198_12_eq:=by have h:= @st198_12_e;simp only[ge_id,gd,qeqD_self,qeqI_self,qeqB_self,qand_tt,qeq_len,qeq_l,cond_true]at h;exact h
def l198_12 (Q:List D→Option (List D)):List D→List D→Option (List D):=veil fun p s=>loW (st198_12 Q p) s
theorem l198_12_eq (Q:List D→Option (List D)):l198_12 Q=fun p s=>loW (st198_12 Q p) s:=veil_eq _
def tbl198_12 (Q:List D→Option (List D)):Tb:=Tb.addL (tbR198 Q) 198 12 S198_12.n0 (mkLp S198_12 (l198_12 Q))
theorem ok_tbl198_12 (Q:List D→Option (List D)) (hQ:SoundF env.P 198 S198 Q):TbOk env (tbl198_12 Q):=addLoopQ (ok_tbR198 Q hQ) 198 12 (by kernel_rfl) _ (l198_12_eq Q)
def Fb198 (Q:List D→Option (List D)):List D→Option (List D):=liftX env (tbl198_12 Q) 60 12 198 S198
theorem Fb198_e (Q:List D→Option (List D)) (sd0:D):Fb198 Q [sd0] =
 let y0:=qiteB (qcmp .eql (qint (qfld sd0 0)) 1) (qcmp .eql (qint (qfld sd0 0)) 1) (qcmp .eql (qint (qfld sd0 0)) 2)
 let y1:=qbin .mul .i64 (qint (qfld sd0 2)) (qint (qnth (Q [(qget (qfld sd0 3) 0)]) 0))
 let y2:=l198_12 Q [(qfld sd0 4),(.int (qlen (qfld sd0 4)))] [(.int 0),(.int 0)]
 let x0:=qint (qfld sd0 0)
 bif y0 then some [.int (qmm .lss (qint (qfld sd0 1)) 65537)]else bif qcmp .eql x0 3 then some [.int 4]else bif qcmp .eql x0 4 then gd (qinb (qfld sd0 3) 0)<|gd (qsome (Q [qget (qfld sd0 3) 0]))<|some [.int (qmm .lss y1 65537)]else bif qcmp .eql x0 5 then gd (qsome y2)<|some [.int (qmm .lss (qint (qnth y2 1)) 65537)]else some [.int 0]:=by kernel_rfl
def Fb198_eq:=by have h:= @Fb198_e;simp only[ge_id,gd,qeqD_self,qeqI_self,qeqB_self,qand_tt,qeq_len,qeq_l,cond_true]at h;exact h
def F198:Nat→List D→Option (List D):=levels Fb198
theorem F198_s (n:Nat):F198 (n+1)=Fb198 (F198 n):=rfl
def q198:List D→Option (List D):=veil fun ds=>F198 (fuelL ds) ds
theorem q198_eq:q198=fun ds=>F198 (fuelL ds) ds:=veil_eq _
theorem sound198:SoundF env.P 198 S198 q198:=recF (fun q=>tbl198_12 q) (fun q hq=>ok_tbl198_12 q hq) q198_eq
def tb198:Tb:=Tb.addF tb157 198 S198 q198
theorem ok_tb198:TbOk env tb198:=TbOk.addF ok_tb157 (by kernel_rfl) sound198
def S158:FunS:=⟨[⟨true,(.dat 131)⟩],[],[⟨true, .bool⟩],[]⟩
def tbR158 (Q:List D→Option (List D)):Tb:=Tb.addF tb198 158 S158 Q
theorem ok_tbR158 (Q:List D→Option (List D)) (hQ:SoundF env.P 158 S158 Q):TbOk env (tbR158 Q):=TbOk.addF ok_tb198 (by kernel_rfl) hQ
def S158_4:LoopS:=⟨0,[uF,⟨false,(.ptr 0 0)⟩,⟨false,(.lit (.bool false))⟩,uF,uF,uF,uF,uF,uF,uF,uF,uF,uF,uF,uF,⟨false,(.rows 245)⟩,⟨false,(.int .i64)⟩,⟨true,(.int .i64)⟩,uF,uF,uF,uF,uF,uF,uF,uF,uF,uF,uF,uF,uF,uF,uF,uF,uF,uF,uF],[(.dat false 131)],[⟨0,0,[uT,⟨true,(.ptr 0 0)⟩,⟨true,(.lit (.bool false))⟩,uT,uT,uT,uT,uT,uT,uT,uT,uT,uT,uT,uT,⟨false,(.rows 245)⟩,⟨false,(.int .i64)⟩,uT,uT,uT,uT,uT,uT,uT,uT,uT,uT,uT,uT,uT,uT,uT,uT,uT,uT,uT,uT],[(.dat false 131)]⟩,⟨1,0,[uT,uT,⟨true,(.lit (.bool false))⟩,uT,uT,uT,uT,uT,uT,uT,uT,uT,uT,uT,uT,⟨false,(.rows 245)⟩,⟨false,(.int .i64)⟩,uT,uT,uT,uT,uT,uT,uT,uT,uT,uT,uT,uT,uT,uT,uT,uT,uT,uT,uT,uT],[(.dat false 131)]⟩]⟩
def st158_4 (Q:List D→Option (List D)) (p s:List D):Option (Sum (List D) (List D)):=stepQX env (tbR158 Q) 60 12 158 (loopC 158 4) S158_4 p s
theorem st158_4_e (Q:List D→Option (List D)) (pd0:D) (pn1:Int) (pd2:D) (sn0:Int):st158_4 Q [pd0,(D.int pn1),pd2] [(D.int sn0)] =
 let y0:=qsome (Q [(.agg [(.int (qint (qfld (qfld (qget pd0 sn0) 1) 0))),(.int (qint (qfld (qfld (qget pd0 sn0) 1) 1))),(.int (qint (qfld (qfld (qget pd0 sn0) 1) 2))),(qfld (qfld (qget pd0 sn0) 1) 3),(qfld (qfld (qget pd0 sn0) 1) 4)])])
 let y1:=qnth (Q [(.agg [(.int (qint (qfld (qfld (qget pd0 sn0) 1) 0))),(.int (qint (qfld (qfld (qget pd0 sn0) 1) 1))),(.int (qint (qfld (qfld (qget pd0 sn0) 1) 2))),(qfld (qfld (qget pd0 sn0) 1) 3),(qfld (qfld (qget pd0 sn0) 1) 4)])]) 0
 let x0:=D.int pn1
 bif qcmp .lss sn0 pn1 then gd (qinb pd0 sn0)<|gd y0<|bif qnot (qbool y1)then ge pd0<|ge x0<|ge pd2<|some (Sum.inr [.int 1])else ge pd0<|ge x0<|ge pd2<|some (Sum.inl [.int (qbin .add .i64 sn0 1)])else ge pd0<|ge x0<|ge pd2<|some (Sum.inr [.int 0]):=by kernel_rfl
def st158_4_eq:=by have h:= @st158_4_e;simp only[ge_id,gd,qeqD_self,qeqI_self,qeqB_self,qand_tt,qeq_len,qeq_l,cond_true]at h;exact h
def l158_4 (Q:List D→Option (List D)):List D→List D→Option (List D):=veil fun p s=>loW (st158_4 Q p) s
theorem l158_4_eq (Q:List D→Option (List D)):l158_4 Q=fun p s=>loW (st158_4 Q p) s:=veil_eq _
def tbl158_4 (Q:List D→Option (List D)):Tb:=Tb.addL (tbR158 Q) 158 4 S158_4.n0 (mkLp S158_4 (l158_4 Q))
theorem ok_tbl158_4 (Q:List D→Option (List D)) (hQ:SoundF env.P 158 S158 Q):TbOk env (tbl158_4 Q):=addLoopQ (ok_tbR158 Q hQ) 158 4 (by kernel_rfl) _ (l158_4_eq Q)
def Fb158 (Q:List D→Option (List D)):List D→Option (List D):=liftX env (tbl158_4 Q) 60 12 158 S158
theorem Fb158_e (Q:List D→Option (List D)) (sd0:D):Fb158 Q [sd0] =
 let y0:=qiteB (qcmp .gtr (qlen (qfld sd0 4)) 64) true (qsome (q198 [sd0]))
 let y1:=qint (qnth (q198 [sd0]) 0)
 let y2:=qiteB (qcmp .gtr (qlen (qfld sd0 4)) 64) true (qcmp .gtr y1 65536)
 let y3:=l158_4 Q [(qfld sd0 4),(.int (qlen (qfld sd0 4))),sd0] [(.int 0)]
 let y4:=qand (qinb (qfld sd0 3) 0) (qsome (Q [(qget (qfld sd0 3) 0)]))
 let y5:=qiteB (qcmp .eql (qlen (qfld sd0 3)) 0) true (qbool (qnth (Q [(qget (qfld sd0 3) 0)]) 0))
 let x0:Option (List D):=some [.bool false]
 gd y0<|bif y2 then x0 else gd (qsome y3)<|bif qcmp .eql (qint (qnth y3 0)) 0 then gd (qiteB (qcmp .eql (qlen (qfld sd0 3)) 0) true y4)<|some [.bool y5]else x0:=by kernel_rfl
def Fb158_eq:=by have h:= @Fb158_e;simp only[ge_id,gd,qeqD_self,qeqI_self,qeqB_self,qand_tt,qeq_len,qeq_l,cond_true]at h;exact h
def F158:Nat→List D→Option (List D):=levels Fb158
theorem F158_s (n:Nat):F158 (n+1)=Fb158 (F158 n):=rfl
def q158:List D→Option (List D):=veil fun ds=>F158 (fuelL ds) ds
theorem q158_eq:q158=fun ds=>F158 (fuelL ds) ds:=veil_eq _
theorem sound158:SoundF env.P 158 S158 q158:=recF (fun q=>tbl158_4 q) (fun q hq=>ok_tbl158_4 q hq) q158_eq
def tb158:Tb:=Tb.addF tb198 158 S158 q158
theorem ok_tb158:TbOk env tb158:=TbOk.addF ok_tb198 (by kernel_rfl) sound158
def S95:FunS:=⟨[⟨true,(.dat 131)⟩],[],[⟨true,(.int .i64)⟩],[]⟩
def F95:List D→Option (List D):=liftX env tb158 60 12 95 S95
theorem F95_e (sd0:D):F95 [sd0] =
 let y0:=qsome (q156 [sd0,(.int 64)])
 let y1:=qnth (q156 [sd0,(.int 64)]) 0
 let y2:=qbool (qnth (q157 [sd0]) 0)
 let y3:=qbool (qnth (q158 [sd0]) 0)
 gd y0<|bif qnot (qbool y1)then some [.int 20]else gd (qsome (q157 [sd0]))<|bif qnot y2 then some [.int 2]else gd (qsome (q158 [sd0]))<|bif qnot y3 then some [.int 6]else some [.int 0]:=by kernel_rfl
def F95_eq:=by have h:= @F95_e;simp only[ge_id,gd,qeqD_self,qeqI_self,qeqB_self,qand_tt,qeq_len,qeq_l,cond_true]at h;exact h
def q95:List D→Option (List D):=veil (F95)
theorem q95_eq:q95=F95:=veil_eq _
def tb95:Tb:=Tb.addF tb158 95 S95 (q95)
theorem ok_tb95:TbOk env (tb95):=addFunF ok_tb158 95 (by kernel_rfl) _ (q95_eq)
end
end Go.Proofs.YteccopaonadbeaaGreatDoor
open Go Go.AM
namespace Go.Proofs.YteccopaonadbeaaGreatDoor
noncomputable section
set_option maxRecDepth 100000
set_option linter.unusedSimpArgs false
set_option linter.unusedVariables false
set_option linter.defProp false
def S191:FunS:=⟨[⟨true,(.dat 131)⟩,⟨true,(.int .i64)⟩],[],[⟨true, .bool⟩],[]⟩
def tbR191 (Q:List D→Option (List D)):Tb:=Tb.addF tb95 191 S191 Q
theorem ok_tbR191 (Q:List D→Option (List D)) (hQ:SoundF env.P 191 S191 Q):TbOk env (tbR191 Q):=TbOk.addF ok_tb95 (by kernel_rfl) hQ
def S191_4:LoopS:=⟨0,[uF,⟨false,(.int .i64)⟩,⟨false,(.ptr 0 0)⟩,uF,⟨false,(.lit (.bool false))⟩,⟨true,(.int .i64)⟩,uF,uF,uF,uF,uF,uF,uF,uF,uF,uF,uF,uF,uF,uF,uF,uF,uF,uF,uF,uF,uF,uF,uF,uF,uF,uF,uF,uF,uF,uF,uF,uF,uF,uF],[(.dat false 131)],[⟨0,0,[uT,⟨false,(.int .i64)⟩,⟨true,(.ptr 0 0)⟩,uT,⟨true,(.lit (.bool false))⟩,uT,uT,uT,uT,uT,uT,uT,uT,uT,uT,uT,uT,uT,uT,uT,uT,uT,uT,uT,uT,uT,uT,uT,uT,uT,uT,uT,uT,uT,uT,uT,uT,uT,uT,uT],[(.dat false 131)]⟩,⟨1,0,[uT,⟨false,(.int .i64)⟩,uT,uT,⟨true,(.lit (.bool true))⟩,uT,uT,uT,uT,uT,uT,uT,uT,uT,uT,uT,uT,uT,uT,uT,uT,uT,uT,uT,uT,uT,uT,uT,uT,uT,uT,uT,uT,uT,uT,uT,uT,uT,uT,uT],[(.dat false 131)]⟩]⟩
def st191_4 (Q:List D→Option (List D)) (p s:List D):Option (Sum (List D) (List D)):=stepQX env (tbR191 Q) 60 12 191 (loopC 191 4) S191_4 p s
theorem st191_4_e (Q:List D→Option (List D)) (pn0:Int) (pd1:D) (sn0:Int):st191_4 Q [(D.int pn0),pd1] [(D.int sn0)] =
 let y0:=qsome (Q [(qget (qfld pd1 3) sn0),(.int (qbin .sub .i64 pn0 1))])
 let y1:=qnth (Q [(qget (qfld pd1 3) sn0),(.int (qbin .sub .i64 pn0 1))]) 0
 let x0:=D.int pn0
 bif qcmp .lss sn0 (qlen (qfld pd1 3))then gd (qinb (qfld pd1 3) sn0)<|gd y0<|bif qbool y1 then ge x0<|ge pd1<|some (Sum.inr [.int 1])else ge x0<|ge pd1<|some (Sum.inl [.int (qbin .add .i64 sn0 1)])else ge x0<|ge pd1<|some (Sum.inr [.int 0]):=by kernel_rfl
def st191_4_eq:=by have h:= @st191_4_e;simp only[ge_id,gd,qeqD_self,qeqI_self,qeqB_self,qand_tt,qeq_len,qeq_l,cond_true]at h;exact h
def l191_4 (Q:List D→Option (List D)):List D→List D→Option (List D):=veil fun p s=>loW (st191_4 Q p) s
theorem l191_4_eq (Q:List D→Option (List D)):l191_4 Q=fun p s=>loW (st191_4 Q p) s:=veil_eq _
def tbl191_4 (Q:List D→Option (List D)):Tb:=Tb.addL (tbR191 Q) 191 4 S191_4.n0 (mkLp S191_4 (l191_4 Q))
theorem ok_tbl191_4 (Q:List D→Option (List D)) (hQ:SoundF env.P 191 S191 Q):TbOk env (tbl191_4 Q):=addLoopQ (ok_tbR191 Q hQ) 191 4 (by kernel_rfl) _ (l191_4_eq Q)
def S191_9:LoopS:=⟨0,[uF,⟨false,(.int .i64)⟩,⟨false,(.ptr 0 0)⟩,uF,⟨false,(.lit (.bool false))⟩,uF,⟨true,(.int .i64)⟩,uF,uF,uF,uF,uF,uF,uF,uF,uF,uF,uF,uF,uF,uF,uF,uF,uF,uF,uF,uF,uF,uF,uF,uF,uF,uF,uF,uF,uF,uF,uF,uF,uF],[(.dat false 131)],[⟨0,2,[uT,⟨false,(.int .i64)⟩,uT,uT,⟨true,(.lit (.bool false))⟩,uT,uT,uT,uT,uT,uT,uT,uT,uT,uT,uT,uT,uT,uT,uT,uT,uT,uT,uT,uT,uT,uT,uT,uT,uT,uT,uT,uT,uT,uT,uT,uT,uT,uT,uT],[(.dat false 131)]⟩,⟨1,0,[uT,⟨false,(.int .i64)⟩,uT,uT,⟨true,(.lit (.bool true))⟩,uT,uT,uT,uT,uT,uT,uT,uT,uT,uT,uT,uT,uT,uT,uT,uT,uT,uT,uT,uT,uT,uT,uT,uT,uT,uT,uT,uT,uT,uT,uT,uT,uT,uT,uT],[(.dat false 131)]⟩]⟩
def st191_9 (Q:List D→Option (List D)) (p s:List D):Option (Sum (List D) (List D)):=stepQX env (tbl191_4 Q) 60 12 191 (loopC 191 9) S191_9 p s
theorem st191_9_e (Q:List D→Option (List D)) (pn0:Int) (pd1:D) (sn0:Int):st191_9 Q [(D.int pn0),pd1] [(D.int sn0)] =
 let y0:=qsome (Q [(.agg [(.int (qint (qfld (qfld (qget (qfld pd1 4) sn0) 1) 0))),(.int (qint (qfld (qfld (qget (qfld pd1 4) sn0) 1) 1))),(.int (qint (qfld (qfld (qget (qfld pd1 4) sn0) 1) 2))),(qfld (qfld (qget (qfld pd1 4) sn0) 1) 3),(qfld (qfld (qget (qfld pd1 4) sn0) 1) 4)]),(.int (qbin .sub .i64 pn0 1))])
 let y1:=qnth (Q [(.agg [(.int (qint (qfld (qfld (qget (qfld pd1 4) sn0) 1) 0))),(.int (qint (qfld (qfld (qget (qfld pd1 4) sn0) 1) 1))),(.int (qint (qfld (qfld (qget (qfld pd1 4) sn0) 1) 2))),(qfld (qfld (qget (qfld pd1 4) sn0) 1) 3),(qfld (qfld (qget (qfld pd1 4) sn0) 1) 4)]),(.int (qbin .sub .i64 pn0 1))]) 0
 let x0:=D.int pn0
 bif qcmp .lss sn0 (qlen (qfld pd1 4))then gd (qinb (qfld pd1 4) sn0)<|gd y0<|bif qbool y1 then ge x0<|ge pd1<|some (Sum.inr [.int 1])else ge x0<|ge pd1<|some (Sum.inl [.int (qbin .add .i64 sn0 1)])else ge x0<|ge pd1<|some (Sum.inr [.int 0]):=by kernel_rfl
def st191_9_eq:=by have h:= @st191_9_e;simp only[ge_id,gd,qeqD_self,qeqI_self,qeqB_self,qand_tt,qeq_len,qeq_l,cond_true]at h;exact h
def l191_9 (Q:List D→Option (List D)):List D→List D→Option (List D):=veil fun p s=>loW (st191_9 Q p) s
theorem l191_9_eq (Q:List D→Option (List D)):l191_9 Q=fun p s=>loW (st191_9 Q p) s:=veil_eq _
def tbl191_9 (Q:List D→Option (List D)):Tb:=Tb.addL (tbl191_4 Q) 191 9 S191_9.n0 (mkLp S191_9 (l191_9 Q))
theorem ok_tbl191_9 (Q:List D→Option (List D)) (hQ:SoundF env.P 191 S191 Q):TbOk env (tbl191_9 Q):=addLoopQ (ok_tbl191_4 Q hQ) 191 9 (by kernel_rfl) _ (l191_9_eq Q)
def Fb191 (Q:List D→Option (List D)):List D→Option (List D):=liftX env (tbl191_9 Q) 60 12 191 S191
theorem Fb191_e (Q:List D→Option (List D)) (sd0:D) (sn1:Int):Fb191 Q [sd0,(D.int sn1)] =
 let y0:=l191_4 Q [(.int sn1),sd0] [(.int 0)]
 let y1:=l191_9 Q [(.int sn1),sd0] [(.int 0)]
 let x0:Option (List D):=some [.bool true]
 bif qcmp .lss sn1 1 then x0 else gd (qsome y0)<|bif qcmp .eql (qint (qnth y0 0)) 0 then gd (qsome y1)<|bif qcmp .eql (qint (qnth y1 0)) 0 then some [.bool false]else x0 else x0:=by kernel_rfl
def Fb191_eq:=by have h:= @Fb191_e;simp only[ge_id,gd,qeqD_self,qeqI_self,qeqB_self,qand_tt,qeq_len,qeq_l,cond_true]at h;exact h
def F191:Nat→List D→Option (List D):=levels Fb191
theorem F191_s (n:Nat):F191 (n+1)=Fb191 (F191 n):=rfl
def q191:List D→Option (List D):=veil fun ds=>F191 (fuelL ds) ds
theorem q191_eq:q191=fun ds=>F191 (fuelL ds) ds:=veil_eq _
theorem sound191:SoundF env.P 191 S191 q191:=recF (fun q=>tbl191_9 q) (fun q hq=>ok_tbl191_9 q hq) q191_eq
def tb191:Tb:=Tb.addF tb95 191 S191 q191
theorem ok_tb191:TbOk env tb191:=TbOk.addF ok_tb95 (by kernel_rfl) sound191
def S192:FunS:=⟨[⟨true,(.dat 131)⟩],[],[⟨true, .bool⟩],[]⟩
def tbR192 (Q:List D→Option (List D)):Tb:=Tb.addF tb191 192 S192 Q
theorem ok_tbR192 (Q:List D→Option (List D)) (hQ:SoundF env.P 192 S192 Q):TbOk env (tbR192 Q):=TbOk.addF ok_tb191 (by kernel_rfl) hQ
def S242_2:LoopS:=⟨0,[⟨false,(.rows 245)⟩,uF,⟨false,(.lit (.bool false))⟩,⟨true,(.int .i64)⟩,uF,uF,uF,uF,uF,uF,uF,uF,uF,uF,uF,uF,uF,uF,uF,uF,uF,uF,uF,uF,uF,uF,uF,uF,uF,uF,uF,uF,uF,uF,uF,uF,uF,uF,uF,uF,uF,uF,uF,uF,uF,uF,uF,uF,uF,uF,uF],[],[⟨0,0,[⟨false,(.rows 245)⟩,uT,⟨true,(.lit (.bool false))⟩,uT,uT,uT,uT,uT,uT,uT,uT,uT,uT,uT,uT,uT,uT,uT,uT,uT,uT,uT,uT,uT,uT,uT,uT,uT,uT,uT,uT,uT,uT,uT,uT,uT,uT,uT,uT,uT,uT,uT,uT,uT,uT,uT,uT,uT,uT,uT,uT],[]⟩,⟨1,0,[⟨false,(.rows 245)⟩,uT,⟨true,(.lit (.bool false))⟩,uT,uT,uT,uT,uT,uT,uT,uT,uT,uT,uT,uT,uT,uT,uT,uT,uT,uT,uT,uT,uT,uT,uT,uT,uT,uT,uT,uT,uT,uT,uT,uT,uT,uT,uT,uT,uT,uT,uT,uT,uT,uT,uT,uT,uT,uT,uT,uT],[]⟩]⟩
def st242_2 (Q:List D→Option (List D)) (p s:List D):Option (Sum (List D) (List D)):=stepQX env (tbR192 Q) 60 12 242 (loopC 242 2) S242_2 p s
theorem st242_2_e (Q:List D→Option (List D)) (pd0:D) (sn0:Int):st242_2 Q [pd0] [(D.int sn0)] =
 let y0:=qint (qfld (qget pd0 (qbin .sub .i64 sn0 1)) 0)
 let y1:=qsome (Q [(.agg [(.int (qint (qfld (qfld (qget pd0 sn0) 1) 0))),(.int (qint (qfld (qfld (qget pd0 sn0) 1) 1))),(.int (qint (qfld (qfld (qget pd0 sn0) 1) 2))),(qfld (qfld (qget pd0 sn0) 1) 3),(qfld (qfld (qget pd0 sn0) 1) 4)])])
 let y2:=qnth (Q [(.agg [(.int (qint (qfld (qfld (qget pd0 sn0) 1) 0))),(.int (qint (qfld (qfld (qget pd0 sn0) 1) 1))),(.int (qint (qfld (qfld (qget pd0 sn0) 1) 2))),(qfld (qfld (qget pd0 sn0) 1) 3),(qfld (qfld (qget pd0 sn0) 1) 4)])]) 0
 let x0:=qinb pd0 sn0
 let x1:=qint (qfld (qget pd0 sn0) 0)
 let x2:Option (List D ⊕ List D):=ge pd0<|some (Sum.inr [.int 1])
 let x3:Option (List D ⊕ List D):=gd x0<|gd y1<|bif qnot (qbool y2)then x2 else ge pd0<|some (Sum.inl [.int (qbin .add .i64 sn0 1)])
 bif qcmp .lss sn0 (qlen pd0)then gd x0<|bif qcmp .lss x1 0 then x2 else gd x0<|bif qcmp .geq x1 65536 then x2 else bif qcmp .gtr sn0 0 then gd x0<|gd (qinb pd0 (qbin .sub .i64 sn0 1))<|bif qcmp .leq x1 y0 then x2 else x3 else x3 else ge pd0<|some (Sum.inr [.int 0]):=by kernel_rfl
def st242_2_eq:=by have h:= @st242_2_e;simp only[ge_id,gd,qeqD_self,qeqI_self,qeqB_self,qand_tt,qeq_len,qeq_l,cond_true]at h;exact h
def l242_2 (Q:List D→Option (List D)):List D→List D→Option (List D):=veil fun p s=>loW (st242_2 Q p) s
theorem l242_2_eq (Q:List D→Option (List D)):l242_2 Q=fun p s=>loW (st242_2 Q p) s:=veil_eq _
def tbl242_2 (Q:List D→Option (List D)):Tb:=Tb.addL (tbR192 Q) 242 2 S242_2.n0 (mkLp S242_2 (l242_2 Q))
theorem ok_tbl242_2 (Q:List D→Option (List D)) (hQ:SoundF env.P 192 S192 Q):TbOk env (tbl242_2 Q):=addLoopQ (ok_tbR192 Q hQ) 242 2 (by kernel_rfl) _ (l242_2_eq Q)
def S242:FunS:=⟨[⟨true,(.rows 245)⟩],[],[⟨true, .bool⟩],[]⟩
def F242 (Q:List D→Option (List D)):List D→Option (List D):=liftX env (tbl242_2 Q) 60 12 242 S242
theorem F242_e (Q:List D→Option (List D)) (sd0:D):F242 Q [sd0] =
 let y0:=l242_2 Q [sd0] [(.int 0)]
 gd (qsome y0)<|bif qcmp .eql (qint (qnth y0 0)) 0 then some [.bool true]else some [.bool false]:=by kernel_rfl
def F242_eq:=by have h:= @F242_e;simp only[ge_id,gd,qeqD_self,qeqI_self,qeqB_self,qand_tt,qeq_len,qeq_l,cond_true]at h;exact h
def q242 (Q:List D→Option (List D)):List D→Option (List D):=veil (F242 Q)
theorem q242_eq (Q:List D→Option (List D)):q242 Q=F242 Q:=veil_eq _
def tb242 (Q:List D→Option (List D)):Tb:=Tb.addF (tbl242_2 Q) 242 S242 (q242 Q)
theorem ok_tb242 (Q:List D→Option (List D)) (hQ:SoundF env.P 192 S192 Q):TbOk env (tb242 Q):=addFunF (ok_tbl242_2 Q hQ) 242 (by kernel_rfl) _ (q242_eq Q)
def Fb192 (Q:List D→Option (List D)):List D→Option (List D):=liftX env (tb242 Q) 60 12 192 S192
theorem Fb192_e (Q:List D→Option (List D)) (sd0:D):Fb192 Q [sd0] =
 let y0:=qiteB (qcmp .eql (qint (qfld sd0 0)) 0) (qcmp .eql (qint (qfld sd0 0)) 0) (qcmp .eql (qint (qfld sd0 0)) 6)
 let y1:=qiteB (qcmp .eql (qint (qfld sd0 2)) 0) (qcmp .eql (qlen (qfld sd0 3)) 0) false
 let y2:=qiteB (qiteB y1 (qcmp .eql (qlen (qfld sd0 4)) 0) false) (qcmp .eql (qint (qfld sd0 1)) 0) false
 let y3:=qiteB (qcmp .eql (qint (qfld sd0 0)) 1) (qcmp .eql (qint (qfld sd0 0)) 1) (qcmp .eql (qint (qfld sd0 0)) 2)
 let y4:=qiteB (qcmp .eql (qint (qfld sd0 1)) 1) true (qcmp .eql (qint (qfld sd0 1)) 2)
 let y5:=qiteB (qiteB y1 (qcmp .eql (qlen (qfld sd0 4)) 0) false) (qiteB y4 true (qcmp .eql (qint (qfld sd0 1)) 4)) false
 let y6:=qiteB (qcmp .eql (qint (qfld sd0 1)) 0) (qcmp .eql (qint (qfld sd0 2)) 0) false
 let y7:=qiteB (qiteB y6 (qcmp .eql (qlen (qfld sd0 4)) 0) false) (qcmp .eql (qlen (qfld sd0 3)) 1) false
 let y8:=qand (qinb (qfld sd0 3) 0) (qsome (Q [(qget (qfld sd0 3) 0)]))
 let y9:=qiteB y7 (qbool (qnth (Q [(qget (qfld sd0 3) 0)]) 0)) false
 let y10:=qiteB (qcmp .eql (qint (qfld sd0 1)) 0) (qcmp .geq (qint (qfld sd0 2)) 1) false
 let y11:=qiteB y10 (qcmp .leq (qint (qfld sd0 2)) 65536) false
 let y12:=qiteB y11 (qcmp .eql (qlen (qfld sd0 4)) 0) false
 let y13:=qiteB y12 (qcmp .eql (qlen (qfld sd0 3)) 1) false
 let y14:=qiteB y13 (qbool (qnth (Q [(qget (qfld sd0 3) 0)]) 0)) false
 let y15:=qsome (q242 Q [(qfld sd0 4)])
 let y16:=qiteB (qiteB y6 (qcmp .eql (qlen (qfld sd0 3)) 0) false) y15 true
 let y17:=qnth (q242 Q [(qfld sd0 4)]) 0
 let y18:=qiteB (qiteB y6 (qcmp .eql (qlen (qfld sd0 3)) 0) false) (qbool y17) false
 let x0:=qint (qfld sd0 0)
 bif y0 then some [.bool y2]else bif y3 then some [.bool y5]else bif qcmp .eql x0 3 then gd (qiteB y7 y8 true)<|some [.bool y9]else bif qcmp .eql x0 4 then gd (qiteB y13 y8 true)<|some [.bool y14]else bif qcmp .eql x0 5 then gd y16<|some [.bool y18]else some [.bool false]:=by kernel_rfl
def Fb192_eq:=by have h:= @Fb192_e;simp only[ge_id,gd,qeqD_self,qeqI_self,qeqB_self,qand_tt,qeq_len,qeq_l,cond_true]at h;exact h
def F192:Nat→List D→Option (List D):=levels Fb192
theorem F192_s (n:Nat):F192 (n+1)=Fb192 (F192 n):=rfl
def q192:List D→Option (List D):=veil fun ds=>F192 (fuelL ds) ds
theorem q192_eq:q192=fun ds=>F192 (fuelL ds) ds:=veil_eq _
theorem sound192:SoundF env.P 192 S192 q192:=recF (fun q=>tb242 q) (fun q hq=>ok_tb242 q hq) q192_eq
def tb192:Tb:=Tb.addF tb191 192 S192 q192
theorem ok_tb192:TbOk env tb192:=TbOk.addF ok_tb191 (by kernel_rfl) sound192
def S243:FunS:=⟨[⟨true,(.dat 131)⟩],[],[⟨true,(.int .i64)⟩],[]⟩
def tbR243 (Q:List D→Option (List D)):Tb:=Tb.addF tb192 243 S243 Q
theorem ok_tbR243 (Q:List D→Option (List D)) (hQ:SoundF env.P 243 S243 Q):TbOk env (tbR243 Q):=TbOk.addF ok_tb192 (by kernel_rfl) hQ
def S243_12:LoopS:=⟨0,[uF,⟨false,(.ptr 0 0)⟩,⟨false,(.lit (.int .i64 0))⟩,⟨true,(.int .i64)⟩,⟨true,(.int .i64)⟩,uF,uF,uF,uF,uF,uF,uF,uF,uF,uF,uF,uF,uF,uF,uF,uF,uF,uF,uF,uF,uF,uF,uF,uF,uF,uF,uF,uF,uF,uF,uF,uF,uF,uF,uF,uF,uF,uF,uF,uF,uF,uF,uF,uF,uF,uF],[(.dat false 131)],[⟨0,1,[uT,uT,⟨true,(.lit (.int .i64 0))⟩,⟨true,(.int .i64)⟩,uT,uT,uT,uT,uT,uT,uT,uT,uT,uT,uT,uT,uT,uT,uT,uT,uT,uT,uT,uT,uT,uT,uT,uT,uT,uT,uT,uT,uT,uT,uT,uT,uT,uT,uT,uT,uT,uT,uT,uT,uT,uT,uT,uT,uT,uT,uT],[(.dat false 131)]⟩]⟩
def st243_12 (Q:List D→Option (List D)) (p s:List D):Option (Sum (List D) (List D)):=stepQX env (tbR243 Q) 60 12 243 (loopC 243 12) S243_12 p s
theorem st243_12_e (Q:List D→Option (List D)) (pd0:D) (sn0:Int) (sn1:Int):st243_12 Q [pd0] [(D.int sn0),(D.int sn1)] =
 let y0:=qsome (Q [(.agg [(.int (qint (qfld (qfld (qget (qfld pd0 4) sn1) 1) 0))),(.int (qint (qfld (qfld (qget (qfld pd0 4) sn1) 1) 1))),(.int (qint (qfld (qfld (qget (qfld pd0 4) sn1) 1) 2))),(qfld (qfld (qget (qfld pd0 4) sn1) 1) 3),(qfld (qfld (qget (qfld pd0 4) sn1) 1) 4)])])
 let y1:=qnth (Q [(.agg [(.int (qint (qfld (qfld (qget (qfld pd0 4) sn1) 1) 0))),(.int (qint (qfld (qfld (qget (qfld pd0 4) sn1) 1) 1))),(.int (qint (qfld (qfld (qget (qfld pd0 4) sn1) 1) 2))),(qfld (qfld (qget (qfld pd0 4) sn1) 1) 3),(qfld (qfld (qget (qfld pd0 4) sn1) 1) 4)])]) 0
 let y2:=qbin .add .i64 (qint (qfld (qget (qfld pd0 4) sn1) 0)) (qint y1)
 let x0:=qinb (qfld pd0 4) sn1
 bif qcmp .lss sn1 (qlen (qfld pd0 4))then gd x0<|gd x0<|gd y0<|ge pd0<|some (Sum.inl [.int (qmm .gtr sn0 y2),.int (qbin .add .i64 sn1 1)])else ge pd0<|some (Sum.inr [.int 0,.int sn0]):=by kernel_rfl
def st243_12_eq:=by have h:= @st243_12_e;simp only[ge_id,gd,qeqD_self,qeqI_self,qeqB_self,qand_tt,qeq_len,qeq_l,cond_true]at h;exact h
def l243_12 (Q:List D→Option (List D)):List D→List D→Option (List D):=veil fun p s=>loW (st243_12 Q p) s
theorem l243_12_eq (Q:List D→Option (List D)):l243_12 Q=fun p s=>loW (st243_12 Q p) s:=veil_eq _
def tbl243_12 (Q:List D→Option (List D)):Tb:=Tb.addL (tbR243 Q) 243 12 S243_12.n0 (mkLp S243_12 (l243_12 Q))
theorem ok_tbl243_12 (Q:List D→Option (List D)) (hQ:SoundF env.P 243 S243 Q):TbOk env (tbl243_12 Q):=addLoopQ (ok_tbR243 Q hQ) 243 12 (by kernel_rfl) _ (l243_12_eq Q)
def Fb243 (Q:List D→Option (List D)):List D→Option (List D):=liftX env (tbl243_12 Q) 60 12 243 S243
theorem Fb243_e (Q:List D→Option (List D)) (sd0:D):Fb243 Q [sd0] =
 let y0:=qiteB (qcmp .eql (qint (qfld sd0 0)) 1) (qcmp .eql (qint (qfld sd0 0)) 1) (qcmp .eql (qint (qfld sd0 0)) 2)
 let y1:=qbin .mul .i64 (qint (qfld sd0 2)) (qint (qnth (Q [(qget (qfld sd0 3) 0)]) 0))
 let y2:=l243_12 Q [sd0] [(.int 0),(.int 0)]
 let x0:=qint (qfld sd0 0)
 bif y0 then some [.int (qmm .lss (qint (qfld sd0 1)) 65537)]else bif qcmp .eql x0 3 then some [.int 4]else bif qcmp .eql x0 4 then gd (qinb (qfld sd0 3) 0)<|gd (qsome (Q [qget (qfld sd0 3) 0]))<|some [.int (qmm .lss y1 65537)]else bif qcmp .eql x0 5 then gd (qsome y2)<|some [.int (qmm .lss (qint (qnth y2 1)) 65537)]else some [.int 0]:=by kernel_rfl
def Fb243_eq:=by have h:= @Fb243_e;simp only[ge_id,gd,qeqD_self,qeqI_self,qeqB_self,qand_tt,qeq_len,qeq_l,cond_true]at h;exact h
def F243:Nat→List D→Option (List D):=levels Fb243
theorem F243_s (n:Nat):F243 (n+1)=Fb243 (F243 n):=rfl
def q243:List D→Option (List D):=veil fun ds=>F243 (fuelL ds) ds
theorem q243_eq:q243=fun ds=>F243 (fuelL ds) ds:=veil_eq _
theorem sound243:SoundF env.P 243 S243 q243:=recF (fun q=>tbl243_12 q) (fun q hq=>ok_tbl243_12 q hq) q243_eq
def tb243:Tb:=Tb.addF tb192 243 S243 q243
theorem ok_tb243:TbOk env tb243:=TbOk.addF ok_tb192 (by kernel_rfl) sound243
def S193:FunS:=⟨[⟨true,(.dat 131)⟩],[],[⟨true, .bool⟩],[]⟩
def tbR193 (Q:List D→Option (List D)):Tb:=Tb.addF tb243 193 S193 Q
theorem ok_tbR193 (Q:List D→Option (List D)) (hQ:SoundF env.P 193 S193 Q):TbOk env (tbR193 Q):=TbOk.addF ok_tb243 (by kernel_rfl) hQ
def S193_4:LoopS:=⟨0,[uF,⟨false,(.ptr 0 0)⟩,⟨false,(.lit (.bool false))⟩,⟨true,(.int .i64)⟩,uF,uF,uF,uF,uF,uF,uF,uF,uF,uF,uF,uF,uF,uF,uF,uF,uF,uF,uF,uF,uF,uF,uF,uF,uF,uF,uF,uF,uF,uF,uF,uF,uF,uF,uF,uF,uF],[(.dat false 131)],[⟨0,0,[uT,⟨true,(.ptr 0 0)⟩,⟨true,(.lit (.bool false))⟩,uT,uT,uT,uT,uT,uT,uT,uT,uT,uT,uT,uT,uT,uT,uT,uT,uT,uT,uT,uT,uT,uT,uT,uT,uT,uT,uT,uT,uT,uT,uT,uT,uT,uT,uT,uT,uT,uT],[(.dat false 131)]⟩,⟨1,0,[uT,uT,⟨true,(.lit (.bool true))⟩,uT,uT,uT,uT,uT,uT,uT,uT,uT,uT,uT,uT,uT,uT,uT,uT,uT,uT,uT,uT,uT,uT,uT,uT,uT,uT,uT,uT,uT,uT,uT,uT,uT,uT,uT,uT,uT,uT],[(.dat false 131)]⟩]⟩
def st193_4 (Q:List D→Option (List D)) (p s:List D):Option (Sum (List D) (List D)):=stepQX env (tbR193 Q) 60 12 193 (loopC 193 4) S193_4 p s
theorem st193_4_e (Q:List D→Option (List D)) (pd0:D) (sn0:Int):st193_4 Q [pd0] [(D.int sn0)] =
 let x0:=qfld pd0 3
 let x1:=Q [qget x0 sn0]
 bif qcmp .lss sn0 (qlen x0)then gd (qinb x0 sn0)<|gd (qsome x1)<|bif qbool (qnth x1 0)then ge pd0<|some (Sum.inr [.int 1])else ge pd0<|some (Sum.inl [.int (qbin .add .i64 sn0 1)])else ge pd0<|some (Sum.inr [.int 0]):=by kernel_rfl
def st193_4_eq:=by have h:= @st193_4_e;simp only[ge_id,gd,qeqD_self,qeqI_self,qeqB_self,qand_tt,qeq_len,qeq_l,cond_true]at h;exact h
def l193_4 (Q:List D→Option (List D)):List D→List D→Option (List D):=veil fun p s=>loW (st193_4 Q p) s
theorem l193_4_eq (Q:List D→Option (List D)):l193_4 Q=fun p s=>loW (st193_4 Q p) s:=veil_eq _
def tbl193_4 (Q:List D→Option (List D)):Tb:=Tb.addL (tbR193 Q) 193 4 S193_4.n0 (mkLp S193_4 (l193_4 Q))
theorem ok_tbl193_4 (Q:List D→Option (List D)) (hQ:SoundF env.P 193 S193 Q):TbOk env (tbl193_4 Q):=addLoopQ (ok_tbR193 Q hQ) 193 4 (by kernel_rfl) _ (l193_4_eq Q)
def S193_9:LoopS:=⟨0,[uF,⟨false,(.ptr 0 0)⟩,⟨false,(.lit (.bool false))⟩,uF,⟨true,(.int .i64)⟩,uF,uF,uF,uF,uF,uF,uF,uF,uF,uF,uF,uF,uF,uF,uF,uF,uF,uF,uF,uF,uF,uF,uF,uF,uF,uF,uF,uF,uF,uF,uF,uF,uF,uF,uF,uF],[(.dat false 131)],[⟨0,2,[uT,uT,⟨true,(.lit (.bool false))⟩,uT,uT,uT,uT,uT,uT,uT,uT,uT,uT,uT,uT,uT,uT,uT,uT,uT,uT,uT,uT,uT,uT,uT,uT,uT,uT,uT,uT,uT,uT,uT,uT,uT,uT,uT,uT,uT,uT],[(.dat false 131)]⟩,⟨1,0,[uT,uT,⟨true,(.lit (.bool true))⟩,uT,uT,uT,uT,uT,uT,uT,uT,uT,uT,uT,uT,uT,uT,uT,uT,uT,uT,uT,uT,uT,uT,uT,uT,uT,uT,uT,uT,uT,uT,uT,uT,uT,uT,uT,uT,uT,uT],[(.dat false 131)]⟩]⟩
def st193_9 (Q:List D→Option (List D)) (p s:List D):Option (Sum (List D) (List D)):=stepQX env (tbl193_4 Q) 60 12 193 (loopC 193 9) S193_9 p s
theorem st193_9_e (Q:List D→Option (List D)) (pd0:D) (sn0:Int):st193_9 Q [pd0] [(D.int sn0)] =
 let y0:=qsome (Q [(.agg [(.int (qint (qfld (qfld (qget (qfld pd0 4) sn0) 1) 0))),(.int (qint (qfld (qfld (qget (qfld pd0 4) sn0) 1) 1))),(.int (qint (qfld (qfld (qget (qfld pd0 4) sn0) 1) 2))),(qfld (qfld (qget (qfld pd0 4) sn0) 1) 3),(qfld (qfld (qget (qfld pd0 4) sn0) 1) 4)])])
 let y1:=qnth (Q [(.agg [(.int (qint (qfld (qfld (qget (qfld pd0 4) sn0) 1) 0))),(.int (qint (qfld (qfld (qget (qfld pd0 4) sn0) 1) 1))),(.int (qint (qfld (qfld (qget (qfld pd0 4) sn0) 1) 2))),(qfld (qfld (qget (qfld pd0 4) sn0) 1) 3),(qfld (qfld (qget (qfld pd0 4) sn0) 1) 4)])]) 0
 bif qcmp .lss sn0 (qlen (qfld pd0 4))then gd (qinb (qfld pd0 4) sn0)<|gd y0<|bif qbool y1 then ge pd0<|some (Sum.inr [.int 1])else ge pd0<|some (Sum.inl [.int (qbin .add .i64 sn0 1)])else ge pd0<|some (Sum.inr [.int 0]):=by kernel_rfl
def st193_9_eq:=by have h:= @st193_9_e;simp only[ge_id,gd,qeqD_self,qeqI_self,qeqB_self,qand_tt,qeq_len,qeq_l,cond_true]at h;exact h
def l193_9 (Q:List D→Option (List D)):List D→List D→Option (List D):=veil fun p s=>loW (st193_9 Q p) s
theorem l193_9_eq (Q:List D→Option (List D)):l193_9 Q=fun p s=>loW (st193_9 Q p) s:=veil_eq _
def tbl193_9 (Q:List D→Option (List D)):Tb:=Tb.addL (tbl193_4 Q) 193 9 S193_9.n0 (mkLp S193_9 (l193_9 Q))
theorem ok_tbl193_9 (Q:List D→Option (List D)) (hQ:SoundF env.P 193 S193 Q):TbOk env (tbl193_9 Q):=addLoopQ (ok_tbl193_4 Q hQ) 193 9 (by kernel_rfl) _ (l193_9_eq Q)
def Fb193 (Q:List D→Option (List D)):List D→Option (List D):=liftX env (tbl193_9 Q) 60 12 193 S193
theorem Fb193_e (Q:List D→Option (List D)) (sd0:D):Fb193 Q [sd0] =
 let y0:=qint (qnth (q243 [sd0]) 0)
 let y1:=qiteB (qcmp .gtr y0 65536) true (qcmp .gtr (qlen (qfld sd0 4)) 64)
 let y2:=l193_4 Q [sd0] [(.int 0)]
 let y3:=l193_9 Q [sd0] [(.int 0)]
 let x0:Option (List D):=some [.bool true]
 gd (qsome (q243 [sd0]))<|bif y1 then x0 else gd (qsome y2)<|bif qcmp .eql (qint (qnth y2 0)) 0 then gd (qsome y3)<|bif qcmp .eql (qint (qnth y3 0)) 0 then some [.bool false]else x0 else x0:=by kernel_rfl
def Fb193_eq:=by have h:= @Fb193_e;simp only[ge_id,gd,qeqD_self,qeqI_self,qeqB_self,qand_tt,qeq_len,qeq_l,cond_true]at h;exact h
def F193:Nat→List D→Option (List D):=levels Fb193
theorem F193_s (n:Nat):F193 (n+1)=Fb193 (F193 n):=rfl
def q193:List D→Option (List D):=veil fun ds=>F193 (fuelL ds) ds
theorem q193_eq:q193=fun ds=>F193 (fuelL ds) ds:=veil_eq _
theorem sound193:SoundF env.P 193 S193 q193:=recF (fun q=>tbl193_9 q) (fun q hq=>ok_tbl193_9 q hq) q193_eq
def tb193:Tb:=Tb.addF tb243 193 S193 q193
theorem ok_tb193:TbOk env tb193:=TbOk.addF ok_tb243 (by kernel_rfl) sound193
def S147:FunS:=⟨[⟨true,(.dat 131)⟩],[],[⟨true,(.int .i64)⟩],[]⟩
def F147:List D→Option (List D):=liftX env tb193 60 12 147 S147
theorem F147_e (sd0:D):F147 [sd0] =
 let y0:=qsome (q191 [sd0,(.int 64)])
 let y1:=qnth (q191 [sd0,(.int 64)]) 0
 let y2:=qbool (qnth (q192 [sd0]) 0)
 let y3:=qbool (qnth (q193 [sd0]) 0)
 gd y0<|bif qbool y1 then some [.int 20]else gd (qsome (q192 [sd0]))<|bif qnot y2 then some [.int 2]else gd (qsome (q193 [sd0]))<|bif y3 then some [.int 6]else some [.int 0]:=by kernel_rfl
def F147_eq:=by have h:= @F147_e;simp only[ge_id,gd,qeqD_self,qeqI_self,qeqB_self,qand_tt,qeq_len,qeq_l,cond_true]at h;exact h
def q147:List D→Option (List D):=veil (F147)
theorem q147_eq:q147=F147:=veil_eq _
def tb147:Tb:=Tb.addF tb193 147 S147 (q147)
theorem ok_tb147:TbOk env (tb147):=addFunF ok_tb193 147 (by kernel_rfl) _ (q147_eq)
end
end Go.Proofs.YteccopaonadbeaaGreatDoor
