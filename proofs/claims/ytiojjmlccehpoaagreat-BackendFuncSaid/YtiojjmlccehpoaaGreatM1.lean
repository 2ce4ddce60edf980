/-
  DERIVED: THE SHELF's CONTRACTS AT THIS DUMP, IN PLAIN WORDS (tools/lay-plain.mjs out of 'TryzShelf.lean', which tools/lay-shelf.mjs wrote): THE SAME DECLARATIONS UNDER THE SAME NAMES: 'import', 'namespace', 'open', 'def', 'theorem' AND NOTHING ELSE: no command of the shelf's: FOR A HAND-IN. Each laying: the table of numbers ('.._ren') and one theorem, a field a fact of the dump's own or the kernel's comparison; each contract: ONE APPLICATION.
-/
import Derived.Shelf.Strings.Search1
import Derived.Shelf.Strings.Search2
import Derived.Shelf.Strings.Search3
import Derived.Test.YtiojjmlccehpoaaGreatProg
import Derived.Test.YtiojjmlccehpoaaGreatAmZ2
import Derived.Test.YtiojjmlccehpoaaGreatC1
import Derived.Below
import Derived.RowKit3
import Derived.Lib.IndexMore
import Derived.KernelRfl
set_option linter.defProp false
set_option linter.unusedSimpArgs false
set_option linter.unusedVariables false
set_option maxRecDepth 100000
namespace Go.Proofs
open Go.Shelf
def Tryz.lays144_ren:Go.Shelf.Ren:=⟨fun|144=>202|143=>231|219=>250|217=>265|225=>266|224=>267|267=>268|266=>279|314=>280|n=>n,fun|9=>9|4=>4|3=>3|5=>5|46=>152|146=>319|51=>22|n=>n,fun|1=>0|n=>n⟩
theorem Tryz.lays144:Go.Proofs.Lays.n144 Tryz.prog Tryz.lays144_ren:={
 mixed:=by kernel_rfl
 f143:=Tryz.func231.trans (congrArg some (by kernel_rfl))
 f144:=Tryz.func202.trans (congrArg some (by kernel_rfl))
 f217:=Tryz.func265.trans (congrArg some (by kernel_rfl))
 f219:=Tryz.func250.trans (congrArg some (by kernel_rfl))
 f224:=Tryz.func267.trans (congrArg some (by kernel_rfl))
 f225:=Tryz.func266.trans (congrArg some (by kernel_rfl))
 f266:=Tryz.func279.trans (congrArg some (by kernel_rfl))
 f267:=Tryz.func268.trans (congrArg some (by kernel_rfl))
 f314:=Tryz.func280.trans (congrArg some (by kernel_rfl))
 t3:=Tryz.underlying3
 a3:=Tryz.isAgg3
 z3:=Tryz.sizeOf3
 v3:=Tryz.zeroValue3
 t4:=Tryz.underlying4
 a4:=Tryz.isAgg4
 z4:=Tryz.sizeOf4
 v4:=Tryz.zeroValue4
 t5:=Tryz.underlying5
 a5:=Tryz.isAgg5
 z5:=Tryz.sizeOf5
 v5:=Tryz.zeroValue5
 t9:=Tryz.underlying9
 a9:=Tryz.isAgg9
 z9:=Tryz.sizeOf9
 v9:=Tryz.zeroValue9
 t46:=Tryz.underlying152
 a46:=Tryz.isAgg152
 z46:=Tryz.sizeOf152
 v46:=Tryz.zeroValue152
 t51:=Tryz.underlying22
 a51:=Tryz.isAgg22
 z51:=Tryz.sizeOf22
 v51:=Tryz.zeroValue22
 t146:=Tryz.underlying319
 a146:=Tryz.isAgg319
 z146:=Tryz.sizeOf319
 v146:=Tryz.zeroValue319
 g1:=by kernel_rfl}
open Go.RowKit Go.Lib in
theorem Tryz.strings_Contains (s sub:ByteArray) (m:Int) (w:World) (hs:s.size<4294967281) (hm:w.cell? ⟨0,0,none⟩=some (.int .i64 m)):
 Calls Tryz.prog 202 #[.string s, .string sub] w fun e w'=>e = .returned (.bool (Lib.contains s.data.toList sub.data.toList))∧w'=w:=Any.strings_Contains Tryz.lays144 s sub m w hs hm
end Go.Proofs
namespace Go.AM
section
variable {P:Program}
theorem Ip {f:FuncId} {args:List AV} {H:Hp} {x:Value} {y:AV} (hy:∀ρ E w,Rep ρ E w y x) (h:∀(lo:Nat->Prop) (w0:World) (ρ:Nat->Option Nat) (E:Nat->Prop) (w:World) (vs:Array Value),Inv lo w0 ρ E H w->RepL ρ E w args vs.toList->
 Calls P f vs w fun e w'=>e = .returned x∧w'=w):Ok P f args H y H:=by
 intro lo w0 ρ E w vs inv ra;refine(h lo w0 ρ E w vs inv ra).mono ?_
 rintro e w' ⟨rfl,rfl⟩;exact⟨x,ρ,E,rfl,inv,⟨Ext.refl,fun _ h=> .inl h⟩,hy _ _ _⟩
theorem MF {f:FuncId} {args:List AV} {H:Hp} {x:Value} (h:∀(lo:Nat->Prop) (w0:World) (ρ:Nat->Option Nat) (E:Nat->Prop) (w:World) (vs:Array Value),Inv lo w0 ρ E H w->RepL ρ E w args vs.toList->
 Calls P f vs w fun e w'=>e = .returned x∧w'=w):Ok P f args H (.sc x) H:=by
 intro lo w0 ρ E w vs inv ra;refine(h lo w0 ρ E w vs inv ra).mono ?_
 rintro e w' ⟨rfl,rfl⟩;exact⟨x,ρ,E,rfl,inv,⟨Ext.refl,fun _ h=> .inl h⟩,by simp only[Rep]⟩
noncomputable def oF (s t:List UInt8):Bool:=match s with | []=>t.isEmpty|x::r=>t.isPrefixOf (x::r)||oF r t
theorem EH:∀s t:List UInt8,oF s t=Lib.contains s t
 | [],t=>by
   unfold oF Lib.contains Lib.index;cases h:t.isEmpty<;>rfl
 |x::r,t=>by
  have ih:=EH r t;have hg:=Lib.index_ge r t;unfold Lib.contains at ih;unfold oF Lib.contains Lib.index;rw[ih];cases h:t.isPrefixOf (x::r)with
  |true=>simp
  |false=>
   simp only[lP,ip,bb];split
   ·rename_i h1;rw[eq_of_beq h1]
   ·rename_i h1;have:Lib.index r t≠ -1:=fun e=>h1 (by rw[e];rfl)
    rw[fx];simp only[cn];omega
def Iq (P:Program) (f:FuncId):Prop:=
 ∀(s sub:ByteArray) (m:Int) (w:World),s.size<4294967281->w.cell? ⟨0,0,none⟩=some (.int .i64 m)->
  Calls P f #[.string s, .string sub] w fun e w'=>e = .returned (.bool (Lib.contains s.data.toList sub.data.toList))∧w'=w
noncomputable def qhas:ByteArray->ByteArray->Bool:=veil fun s t=>oF s.data.toList t.data.toList
theorem Qe:qhas=fun s t=>oF s.data.toList t.data.toList:=am _
noncomputable def Qf (args:List AV) (H:Hp):Option (AV×Hp):=
 match args with
 | [.sc (.string s), .sc (.string t)]=>(match H.glob 0 with
   |some [.anyI .i64]=>bif Nat.ble s.size 1048576 then some (.sc (.bool (oF s.data.toList t.data.toList)),H)else none
   |_=>none)
 | [.sc (.string s), .us t]=>(match H.glob 0 with
   |some [.anyI .i64]=>bif Nat.ble s.size 1048576 then some (.ub (qhas s t),H)else none
   |_=>none)
 |_=>none
theorem Ir {f:FuncId} (hC:Iq P f) (args:List AV) (H:Hp) (v:AV) (H':Hp) (h:Qf args H=some (v,H')):Ok P f args H v H':=by
 unfold Qf at h;split at h
 case h_3=>cases h
 case h_1 s t=>
  split at h
  case h_2=>cases h
  case h_1 hg=>
   cases hb:Nat.ble s.size 1048576 with
   |false=>rw[hb]at h;cases h
   |true=>
    rw[hb]at h;cases h;simp only[Nat.ble_eq]at hb;refine MF fun lo w0 ρ E w vs inv ra=> ?_
    generalize hvs:vs.toList=l at ra;simp only[RepL]at ra;obtain⟨u1,l1,rfl,r1,u2,l2,rfl,r2,rfl⟩:=ra;simp only[Rep]at r1 r2;subst r1 r2;have hv:vs = #[.string s, .string t]:=by rw[<- Array.toList_inj,hvs]
    have hr:=(inv.gl 0 _ hg).2.1;simp only[RepAt,Rep]at hr;obtain⟨⟨u,hu,n,rfl⟩,_⟩:=hr;rw[hv,EH];exact hC s t n w (by omega) hu
 case h_2 s t=>
  split at h
  case h_2=>cases h
  case h_1 hg=>
   cases hb:Nat.ble s.size 1048576 with
   |false=>rw[hb]at h;cases h
   |true=>
    rw[hb]at h;cases h;simp only[Nat.ble_eq]at hb;refine Ip (x:= .bool (oF s.data.toList t.data.toList)) (fun _ _ _=>by simp only[Rep,Qe]) fun lo w0 ρ E w vs inv ra=> ?_
    generalize hvs:vs.toList=l at ra;simp only[RepL]at ra;obtain⟨u1,l1,rfl,r1,u2,l2,rfl,r2,rfl⟩:=ra;simp only[Rep]at r1 r2;subst r1 r2;have hv:vs = #[.string s, .string t]:=by rw[<- Array.toList_inj,hvs]
    have hr:=(inv.gl 0 _ hg).2.1;simp only[RepAt,Rep]at hr;obtain⟨⟨u,hu,n,rfl⟩,_⟩:=hr;rw[hv,EH];exact hC s t n w (by omega) hu
end
end Go.AM
namespace Go.Proofs.YtiojjmlccehpoaaGreat
open Go Go.AM
theorem tL:Iq Tryz.prog 202:=fun s sub m w hs hm=>Tryz.strings_Contains s sub m w hs hm
noncomputable def tbX:Tb:=Tb.nil.add 202 Qf (fun _ _=>[])
noncomputable def MG:Env:={P:=Tryz.prog,fn:=fun f=>(Tryz.prog.funcs[f]?).bind fun fn=>fn.body.map fun c=>⟨c,fn.ntmps,fn.results.toList⟩,isPure:=fun f=>[40].elem f,isFrz:=fun _=>false,clr:=false,pre:=tbX.O,lp:=fun _ _=>none,n0:=0}
theorem envXOk:eh MG:=by
 intro f F h;refine jt f F ?_
 rw[envFn];exact h
theorem tbXOk:TbOk MG tbX:=TbOk.nil.add (by kernel_rfl) fun args H v H' h _=>Ir tL args H v H' h
def S12:FunS:=⟨[],[],[utB],[]⟩
theorem ex12:PR MG tbX (Ta MG tbX 5000 5000).d 12 S12 []=some [.bool true]:=by kernel_rfl
noncomputable def q12:uAC:=veil fun ds=>PR MG tbX (Ta MG tbX 5000 5000).d 12 S12 ds
theorem q12_eq:q12 []=some [.bool true]:=by unfold q12;rw[am];exact ex12
theorem sound12:aH env.P 12 S12 q12:=by
 unfold q12;rw[am];exact Ie MG tbX (ME envXOk (fun _ _=>rfl) rfl tbXOk 5000 5000)
theorem pO {e:Env} {tb:Tb} (hok:eh e) (h:TbOk e tb) (K n:Nat) {f:FuncId} {S:FunS} {av:List AV} {p r:List D} {H:Hp}
 (hr:jn (gT e tb f) (f6 e tb K n) K f av H (oz S p)=some r) (hH:H.n=S.hs.length):Ok e.P f av H (H9 S p (bdL r)) (CC S p (bdL r)):=by
 intro lo w0 ρ E w vs inv ra;refine(tA (env:=gT e tb f) (pD hok f) K (mH h K n) (jl hok h K n) f (fun F hF x hx n0 g hg=>h.l f F x n0 g hF hx hg) hr lo w0 ρ E w vs inv ra).mono ?_
 rintro e' w' ⟨u,ρ',E',v0,Hc,rfl,inv',reach,hrep,hk⟩;unfold oz at hk;split at hk
 ·rename_i q hq;obtain⟨h1,h2⟩:=fc hk;cases h2;obtain⟨o1,o2⟩:=bJ h1;have hp:=pH o2
  have st:St lo w0 ρ E w ρ' E' Hc [v0] {tmps:= #[u],defers:=[]} w':=⟨inv',⟨rfl,fun t x ht=>by
   cases t with
   |zero=>simp at ht;subst ht;simpa using hrep
   |succ t=>simp at ht,rfl⟩,reach⟩
  obtain⟨ρ2,E2,st2⟩:=pG hq o1 (σp:=bdL p) (σs:=bdL q.s) (js:=0) (by rw[hp];exact dK p) (dK q.s) lo w0 ρ E w ρ' E' _ w' (by rw[<- hH];exact inv.dom) st
  refine⟨u,ρ2,E2,rfl,st2.inv,st2.reach,?_⟩
  unfold H9;cases hm:mK (bdL p) (bdL q.s) S.rs S.rhs 0 with
  |nil=>simp only[List.headD_nil,Rep]
  |cons x xs=>
   have:=st2.fr.rep 0 x (by rw[hm];rfl)
   simpa using this
 ·cases hk
theorem ok_args {P:Program} {f:FuncId} {av av':List AV} {H H':Hp} {v:AV} (h:Ok P f av H v H') (hle:∀ρ E w l,RepL ρ E w av' l->RepL ρ E w av l):Ok P f av' H v H':=
 fun lo w0 ρ E w vs inv ra=>h lo w0 ρ E w vs inv (hle _ _ _ _ ra)
theorem Is {ρ:Nat->Option Nat} {E:Nat->Prop} {w:World} {y:AV}:∀{cs:List AV} {l:List Value} {j:Nat} {x:AV},cs[j]? = some x->(∀v,Rep ρ E w x v->Rep ρ E w y v)->RepL ρ E w cs l->RepL ρ E w (cs.set j y) l
 | [],_,_,_,h,_,_=>by simp at h
 |c::cs,l,0,x,h,hxy,r=>by
  simp at h;subst h;simp only[RepL,List.set_cons_zero]at r ⊢;obtain⟨v,vs,rfl,h1,h2⟩:=r;exact⟨v,vs,rfl,hxy v h1,h2⟩
 |c::cs,l,j+1,x,h,hxy,r=>by
  simp only[RepL,List.set_cons_succ]at r ⊢;obtain⟨v,vs,rfl,h1,h2⟩:=r;exact⟨v,vs,rfl,h1,Is (by simpa using h) hxy h2⟩
noncomputable def mM (tb:Tb) (f:FuncId) (S:FunS) (j:Nat) (k:Int) (p s:List D):Option (List D):=
 (fnC {gT env tb f with n0:=S.hs.length} 60 f).a (Tc env tb 60 12) ((uE S p s).set j (.sc (.int .i64 k))) (eD S p s) (oz S p)
noncomputable def yA (tb:Tb) (f:FuncId) (S:FunS) (j i m:Nat) (ds:List D):Option (List D):=
 if 0≤((ds.drop S.np).getD i .other).toInt∧((ds.drop S.np).getD i .other).toInt<m then mM tb f S j ((ds.drop S.np).getD i .other).toInt (ds.take S.np) (ds.drop S.np)else none
theorem EI {tb:Tb} (h:TbOk env tb) {f:FuncId} {S:FunS} {j i m:Nat} (hc:∀p s,(uE S p s)[j]? = some (.ui .i64 (s.getD i .other).toInt)):aH env.P f S (yA tb f S j i m):=by
 intro p s r hp hq;unfold yA at hq;rw[<- hp,List.take_left,List.drop_left]at hq;split at hq
 ·unfold mM at hq;have hq':jn (gT env tb f) (f6 env tb 60 12) 60 f ((uE S p s).set j (.sc (.int .i64 (s.getD i .other).toInt))) (eD S p s) (oz S p)=some r:=by
   rw[<- hq,MD _ _ _ _ _ _ _ rfl,vc];rfl
  refine ok_args (pO jt h 60 12 hq' rfl) ?_
  intro ρ E w l hr;exact Is (hc p s) (fun v hv=>by simp only[Rep]at hv ⊢;exact hv) hr
 ·cases hq
theorem Te {tb:Tb} {f:FuncId} {S:FunS} {j i m:Nat} {ds:List D} (k:Nat) (hk:((ds.drop S.np).getD i .other).toInt=k) (hm:k<m):yA tb f S j i m ds=mM tb f S j k (ds.take S.np) (ds.drop S.np):=by
 unfold yA;rw[hk];exact if_pos ⟨by omega,by omega⟩
noncomputable def WX:Tb:=Tb.nil.add 202 Qf (fun _ _=>[])
theorem WY:TbOk env WX:=TbOk.nil.add (by kernel_rfl) fun args H v H' h _=>Ir tL args H v H' h
end Go.Proofs.YtiojjmlccehpoaaGreat
open Go Go.AM
namespace Go.Proofs.YtiojjmlccehpoaaGreat
noncomputable section
def S139_2:LoopS:=⟨0,⟨false, .str⟩::uF::ufS (.lit (.bool false))::uF::uF::uF::uF::ufP 0 0::uAA 54 [],[.sit],[⟨0,0,⟨false, .str⟩::uT::utS (.lit (.bool false))::uAB 59 [],[.sit]⟩,⟨1,0,⟨false, .str⟩::uT::utS (.lit (.bool false))::uAB 59 [],[.sit]⟩]⟩
def ve (p s:List D):Option (Sum (List D) (List D)):=aO env WX 60 12 139 (bc 139 2) S139_2 p s
theorem Tf (ps0:ByteArray) (ps1:ByteArray) (sn0:Int):ve [(D.str ps0),(D.str ps1)] [(D.int sn0)] =
 let x0:=ae .lss sn0 (fF ps1)
 let x1:=G3 ps1 sn0
 let x2:=D.str ps0
 let x3:=D.str ps1
 let x4:=D.int (fG x0 (qrw ps1 sn0) sn0)
 bif x0 then gd x0<|gd x0<|bif az (b8 (az (az (az (az (ae .geq x1 97) (ae .leq x1 122) false) true (az (ae .geq x1 65) (ae .leq x1 90) false)) true (ae .eql x1 95)) true (ae .eql x1 46))) (az (az (ae .eql sn0 0) true (ae .lss x1 48)) true (ae .gtr x1 57)) false then ge x2<|ge x3<|some (Sum.inr [.int 1,x4])else ge x2<|ge x3<|some (Sum.inl [x4])else ge x2<|ge x3<|some (Sum.inr [.int 0,x4]):=by kernel_rfl
def yB:=by have h:= @Tf;simp only[aE,gd,aj,ai,ak,au,ar,aD,ap]at h;exact h
def EJ:List D->uAC:=veil fun p s=>loW (ve p) s
theorem CJ:EJ=fun p s=>loW (ve p) s:=am _
def yC:Tb:=Tb.addL WX 139 2 S139_2.n0 (bL S139_2 (EJ))
theorem It:TbOk env (yC):=aG WY 139 2 (by kernel_rfl) _ (CJ)
def S139:FunS:=⟨[⟨true, .str⟩],[],[utB],[]⟩
def F139:uAC:=aN env yC 60 12 139 S139
theorem F139_e (ss0:ByteArray):F139 [(D.str ss0)] =
 let x0:=EJ [.str ss0,.str ss0] [.int 0]
 let x1:=az (cD .neq ss0 (ByteArray.mk #[])) (ae .leq (fF ss0) 32) false
 let x2:=ByteArray.mk #[32]
 let x3:=Lz x2 ss0
 gd (ao x0)<|bif ae .eql (ah (ab x0 0)) 0 then gd (az x1 (cz (jE x2 ss0) (jE x3 x2)) true)<|some [.bool (az x1 (b8 (qhas (ByteArray.mk #[32,98,114,101,97,107,32,99,97,108,108,32,99,97,115,101,32,99,111,110,116,105,110,117,101,32,100,97,116,97,32,101,108,115,101,32,101,120,101,99,32,102,117,110,99,32,103,111,116,111,32,104,97,108,116,32,105,102,32,105,110,32,108,111,111,112,32,111,117,116,32,114,101,116,117,114,110,32,115,119,105,116,99,104,32,118,97,114,32,119,104,105,108,101,32,119,114,105,116,101,32,108,111,97,100,49,32,108,111,97,100,50,32,108,111,97,100,52,32,115,101,120,116,49,32,115,101,120,116,50,32,115,116,111,114,101,49,32,115,116,111,114,101,50,32,115,116,111,114,101,52,32]) (Lz x3 x2))) false)]else some [.bool false]:=by kernel_rfl
def F139_eq:=by have h:= @F139_e;simp only[aE,gd,aj,ai,ak,au,ar,aD,ap]at h;exact h
def BO:uAC:=veil (F139)
theorem Qg:BO=F139:=am _
def WZ:Tb:=Tb.addF yC 139 S139 (BO)
theorem W0:TbOk env (WZ):=aI It 139 (by kernel_rfl) _ (Qg)
def S217:FunS:=⟨[],[],[utR 9],[]⟩
def F217:uAC:=aN env WZ 60 12 217 S217
theorem F217_eq:F217 [] =
 some [(D.list [(D.str (ByteArray.mk #[98,114,101,97,107])),(D.str (ByteArray.mk #[99,97,108,108])),(D.str (ByteArray.mk #[99,97,115,101])),(D.str (ByteArray.mk #[99,111,110,116,105,110,117,101])),(D.str (ByteArray.mk #[100,97,116,97])),(D.str (ByteArray.mk #[101,108,115,101])),(D.str (ByteArray.mk #[101,120,101,99])),(D.str (ByteArray.mk #[102,117,110,99])),(D.str (ByteArray.mk #[103,111,116,111])),(D.str (ByteArray.mk #[104,97,108,116])),(D.str (ByteArray.mk #[105,102])),(D.str (ByteArray.mk #[105,110])),(D.str (ByteArray.mk #[108,111,111,112])),(D.str (ByteArray.mk #[111,117,116])),(D.str (ByteArray.mk #[114,101,116,117,114,110])),(D.str (ByteArray.mk #[115,119,105,116,99,104])),(D.str (ByteArray.mk #[118,97,114])),(D.str (ByteArray.mk #[119,104,105,108,101])),(D.str (ByteArray.mk #[119,114,105,116,101])),(D.str (ByteArray.mk #[108,111,97,100,49])),(D.str (ByteArray.mk #[108,111,97,100,50])),(D.str (ByteArray.mk #[108,111,97,100,52])),(D.str (ByteArray.mk #[115,101,120,116,49])),(D.str (ByteArray.mk #[115,101,120,116,50])),(D.str (ByteArray.mk #[115,116,111,114,101,49])),(D.str (ByteArray.mk #[115,116,111,114,101,50])),(D.str (ByteArray.mk #[115,116,111,114,101,52]))])]:=by kernel_rfl
def q217:uAC:=veil (F217)
theorem Qh:q217=F217:=am _
def W1:Tb:=Tb.addF WZ 217 S217 (q217)
theorem W2:TbOk env (W1):=aI W0 217 (by kernel_rfl) _ (Qh)
def S164_2:LoopS:=⟨0,⟨false, .str⟩::uF::ufS (.lit (.bool false))::utI::uAA 70 [],[],[⟨0,0,⟨false, .str⟩::uT::utS (.lit (.bool false))::uAB 71 [],[]⟩,⟨1,0,⟨false, .str⟩::uT::utS (.lit (.bool false))::uAB 71 [],[]⟩]⟩
def vf (p s:List D):Option (Sum (List D) (List D)):=aO env W1 60 12 164 (bc 164 2) S164_2 p s
theorem Tg (ps0:ByteArray) (sn0:Int):vf [(D.str ps0)] [(D.int sn0)] =
 let x0:=wm ps0 sn0
 let x1:=D.str ps0
 bif ae .lss sn0 (fF ps0)then gd (wn ps0 sn0)<|bif az (b8 (az (az (az (az (ae .geq x0 97) (ae .leq x0 122) false) true (az (ae .geq x0 65) (ae .leq x0 90) false)) true (ae .eql x0 95)) true (ae .eql x0 46))) (az (az (ae .eql sn0 0) true (ae .lss x0 48)) true (ae .gtr x0 57)) false then ge x1<|some (Sum.inr [.int 1])else ge x1<|some (Sum.inl [.int (aM .add .i64 sn0 1)])else ge x1<|some (Sum.inr [.int 0]):=by kernel_rfl
def yD:=by have h:= @Tg;simp only[aE,gd,aj,ai,ak,au,ar,aD,ap]at h;exact h
def EK:List D->uAC:=veil fun p s=>loW (vf p) s
theorem CK:EK=fun p s=>loW (vf p) s:=am _
def yE:Tb:=Tb.addL W1 164 2 S164_2.n0 (bL S164_2 (EK))
theorem Iu:TbOk env (yE):=aG W2 164 2 (by kernel_rfl) _ (CK)
def S164_10:LoopS:=⟨0,⟨false, .str⟩::uF::ufS (.lit (.bool false))::uF::uF::uF::ufR 9::utI::uAA 66 [],[],[⟨0,2,⟨false, .str⟩::uT::utS (.lit (.bool false))::uT::uT::uT::ufR 9::uAB 67 [],[]⟩,⟨1,0,⟨false, .str⟩::uT::utS (.lit (.bool false))::uT::uT::uT::ufR 9::uAB 67 [],[]⟩]⟩
def pP (p s:List D):Option (Sum (List D) (List D)):=aO env yE 60 12 164 (bc 164 10) S164_10 p s
theorem MH (ps0:ByteArray) (pd1:D) (sn0:Int):pP [(D.str ps0),pd1] [(D.int sn0)] =
 let x0:=D.str ps0
 bif ae .lss sn0 (ac pd1)then gd (aS pd1 sn0)<|bif cD .eql (aC (ax pd1 sn0)) ps0 then ge x0<|ge pd1<|some (Sum.inr [.int 1])else ge x0<|ge pd1<|some (Sum.inl [.int (aM .add .i64 sn0 1)])else ge x0<|ge pd1<|some (Sum.inr [.int 0]):=by kernel_rfl
def Iv:=by have h:= @MH;simp only[aE,gd,aj,ai,ak,au,ar,aD,ap]at h;exact h
def vg:List D->uAC:=veil fun p s=>loW (pP p) s
theorem yF:vg=fun p s=>loW (pP p) s:=am _
def rJ:Tb:=Tb.addL yE 164 10 S164_10.n0 (bL S164_10 (vg))
theorem EL:TbOk env (rJ):=aG Iu 164 10 (by kernel_rfl) _ (yF)
def S164:FunS:=⟨[⟨true, .str⟩],[],[utB],[]⟩
def F164:uAC:=aN env rJ 60 12 164 S164
theorem F164_e (ss0:ByteArray):F164 [(D.str ss0)] =
 let x0:=EK [.str ss0] [.int 0]
 let x1:=q217 []
 let x2:=vg [.str ss0,ab x1 0] [.int 0]
 let x3:Option (List D):=some [.bool false]
 gd (ao x0)<|bif ae .eql (ah (ab x0 0)) 0 then gd (ao x1)<|gd (ao x2)<|bif ae .eql (ah (ab x2 0)) 0 then some [.bool (az (ae .gtr (fF ss0) 0) (ae .leq (fF ss0) 32) false)]else x3 else x3:=by kernel_rfl
def F164_eq:=by have h:= @F164_e;simp only[aE,gd,aj,ai,ak,au,ar,aD,ap]at h;exact h
def EM:uAC:=veil (F164)
theorem Qi:EM=F164:=am _
def W3:Tb:=Tb.addF rJ 164 S164 (EM)
theorem W4:TbOk env (W3):=aI EL 164 (by kernel_rfl) _ (Qi)
def S165_2:LoopS:=⟨0,ufR 65::⟨false, .str⟩::uF::uF::ufS (.lit (.bool false))::utI::uAA 13 [],[],[⟨0,0,ufR 65::⟨false, .str⟩::uT::uT::utS (.lit (.bool false))::uAB 14 [],[]⟩,⟨1,0,ufR 65::⟨false, .str⟩::uT::uT::utS (.lit (.bool true))::uAB 14 [],[]⟩]⟩
def vh (p s:List D):Option (Sum (List D) (List D)):=aO env W3 60 12 165 (bc 165 2) S165_2 p s
theorem Th (pd0:D) (ps1:ByteArray) (sn0:Int):vh [pd0,(D.str ps1)] [(D.int sn0)] =
 let x0:=D.str ps1
 bif ae .lss sn0 (ac pd0)then gd (aS pd0 sn0)<|bif cD .eql (aC (aa (ax pd0 sn0) 0)) ps1 then ge pd0<|ge x0<|some (Sum.inr [.int 1])else ge pd0<|ge x0<|some (Sum.inl [.int (aM .add .i64 sn0 1)])else ge pd0<|ge x0<|some (Sum.inr [.int 0]):=by kernel_rfl
def MI:=by have h:= @Th;simp only[aE,gd,aj,ai,ak,au,ar,aD,ap]at h;exact h
def EN:List D->uAC:=veil fun p s=>loW (vh p) s
theorem CL:EN=fun p s=>loW (vh p) s:=am _
def yG:Tb:=Tb.addL W3 165 2 S165_2.n0 (bL S165_2 (EN))
theorem Iw:TbOk env (yG):=aG W4 165 2 (by kernel_rfl) _ (CL)
def S165:FunS:=⟨[utR 65,⟨true, .str⟩],[],[utB],[]⟩
def F165:uAC:=aN env yG 60 12 165 S165
theorem F165_eq (sd0:D) (ss1:ByteArray):F165 [sd0,(D.str ss1)] =
 bif (ao (EN [sd0,(D.str ss1)] [(D.int 0)]))then
  bif (ae BinOp.eql (ah (ab (EN [sd0,(D.str ss1)] [(D.int 0)]) 0)) 0)then
   some [(D.bool Bool.false)]
  else
   some [(D.bool Bool.true)]
 else
  none:=by kernel_rfl
def MJ:uAC:=veil (F165)
theorem Qj:MJ=F165:=am _
def W5:Tb:=Tb.addF yG 165 S165 (MJ)
theorem Ix:TbOk env (W5):=aI Iw 165 (by kernel_rfl) _ (Qj)
def S85:FunS:=⟨[utD 25,utI],[],[utB],[]⟩
def W6 (Q:uAC):Tb:=Tb.addF W5 85 S85 Q
theorem W7 (Q:uAC) (hQ:aH env.P 85 S85 Q):TbOk env (W6 Q):=TbOk.addF Ix (by kernel_rfl) hQ
def S138:FunS:=⟨[utD 25,utS (.eptr [(.int .i64)])],[],[utB],[]⟩
def F138 (Q:uAC):uAC:=aN env (W6 Q) 60 12 138 S138
theorem F138_eq (Q:uAC) (sd0:D) (sn1:Int):F138 Q [sd0,(D.int sn1)] =
 bif (ao (Q [sd0,(D.int (aM BinOp.sub IntKind.i64 sn1 1))]))then
  some [(D.bool (b8 (aT (ab (Q [sd0,(D.int (aM BinOp.sub IntKind.i64 sn1 1))]) 0))))]
 else
  none:=by kernel_rfl
def Ti (Q:uAC):uAC:=veil (F138 Q)
theorem Qk (Q:uAC):Ti Q=F138 Q:=am _
def W8 (Q:uAC):Tb:=Tb.addF (W6 Q) 138 S138 (Ti Q)
theorem W9 (Q:uAC) (hQ:aH env.P 85 S85 Q):TbOk env (W8 Q):=aI (W7 Q hQ) 138 (by kernel_rfl) _ (Qk Q)
def S201_138_2:LoopS:=⟨0,ufR 25::ufS (.func 138 [] [(.eptr [(.int .i64)])])::uF::uF::ufZ::uF::uF::ufI::utI::uAA 10 [],[],[⟨0,0,ufR 25::ufS (.func 138 [] [(.eptr [(.int .i64)])])::uT::uT::utZ::uT::uT::ufI::uAB 11 [],[]⟩,⟨1,0,ufR 25::ufS (.func 138 [] [(.eptr [(.int .i64)])])::uT::uT::utI::uT::uT::ufI::uAB 11 [],[]⟩]⟩
def ju (Q:uAC) (p s:List D):Option (Sum (List D) (List D)):=aO env (W8 Q) 60 12 201 (bc 201 2) S201_138_2 p s
theorem BP (Q:uAC) (pd0:D) (pn1:Int) (pn2:Int) (sn0:Int):ju Q [pd0,(D.int pn1),(D.int pn2)] [(D.int sn0)] =
 let x0:=D.int pn1
 let x1:=Ti Q [ax pd0 sn0,x0]
 let x2:=D.int pn2
 bif ae .lss sn0 pn2 then gd (aS pd0 sn0)<|gd (ao x1)<|bif aT (ab x1 0)then ge pd0<|ge x0<|ge x2<|some (Sum.inr [.int 1,.int sn0])else ge pd0<|ge x0<|ge x2<|some (Sum.inl [.int (aM .add .i64 sn0 1)])else ge pd0<|ge x0<|ge x2<|some (Sum.inr [.int 0]):=by kernel_rfl
def yH:=by have h:= @BP;simp only[aE,gd,aj,ai,ak,au,ar,aD,ap]at h;exact h
def iG (Q:uAC):List D->uAC:=veil fun p s=>loW (ju Q p) s
theorem nN (Q:uAC):iG Q=fun p s=>loW (ju Q p) s:=am _
def lq (Q:uAC):Tb:=Tb.addL (W8 Q) 201 2 S201_138_2.n0 (bL S201_138_2 (iG Q))
theorem uG (Q:uAC) (hQ:aH env.P 85 S85 Q):TbOk env (lq Q):=aG (W9 Q hQ) 201 2 (by kernel_rfl) _ (nN Q)
def Iy:FunS:=⟨[utR 25,utS (.func 138 [] [(.eptr [(.int .i64)])])],[],[utI],[]⟩
def yI (Q:uAC):uAC:=aN env (lq Q) 60 12 201 Iy
theorem Iz (Q:uAC) (sd0:D) (sn1:Int):yI Q [sd0,(D.int sn1)] =
 bif (ao (iG Q [sd0,(D.int sn1),(D.int (ac sd0))] [(D.int 0)]))then
  bif (ae BinOp.eql (ah (ab (iG Q [sd0,(D.int sn1),(D.int (ac sd0))] [(D.int 0)]) 0)) 0)then
   some [(D.int (-1))]
  else
   some [(D.int (ah (ab (iG Q [sd0,(D.int sn1),(D.int (ac sd0))] [(D.int 0)]) 1)))]
 else
  none:=by kernel_rfl
def pQ (Q:uAC):uAC:=veil (yI Q)
theorem tM (Q:uAC):pQ Q=yI Q:=am _
def rK (Q:uAC):Tb:=Tb.addF (lq Q) 201 Iy (pQ Q)
theorem EO (Q:uAC) (hQ:aH env.P 85 S85 Q):TbOk env (rK Q):=aI (uG Q hQ) 201 (by kernel_rfl) _ (tM Q)
def IA:FunS:=⟨[utR 25,utS (.func 138 [] [(.eptr [(.int .i64)])])],[],[utB],[]⟩
def yJ (Q:uAC):uAC:=aN env (rK Q) 60 12 137 IA
theorem IB (Q:uAC) (sd0:D) (sn1:Int):yJ Q [sd0,(D.int sn1)] =
 bif (ao (pQ Q [sd0,(D.int sn1)]))then
  some [(D.bool (ae BinOp.geq (ah (ab (pQ Q [sd0,(D.int sn1)]) 0)) 0))]
 else
  none:=by kernel_rfl
def mN (Q:uAC):uAC:=veil (yJ Q)
theorem tO (Q:uAC):mN Q=yJ Q:=am _
def rL (Q:uAC):Tb:=Tb.addF (rK Q) 137 IA (mN Q)
theorem EP (Q:uAC) (hQ:aH env.P 85 S85 Q):TbOk env (rL Q):=aI (EO Q hQ) 137 (by kernel_rfl) _ (tO Q)
def Fb85 (Q:uAC):uAC:=aN env (rL Q) 60 12 85 S85
theorem Fb85_eq (Q:uAC) (sd0:D) (sn1:Int):Fb85 Q [sd0,(D.int sn1)] =
 bif (az (ae BinOp.geq sn1 1) (ao (mN Q [(aa sd0 4),(D.int sn1)])) Bool.true)then
  some [(D.bool (az (ae BinOp.geq sn1 1) (b8 (aT (ab (mN Q [(aa sd0 4),(D.int sn1)]) 0))) Bool.false))]
 else
  none:=by kernel_rfl
def F85:Nat->uAC:=levels Fb85
theorem F85_s (n:Nat):F85 (n+1)=Fb85 (F85 n):=rfl
def q85:uAC:=veil fun ds=>F85 (aW ds) ds
theorem Xa:q85=fun ds=>F85 (aW ds) ds:=am _
theorem sound85:aH env.P 85 S85 q85:=gj (fun q=>rL q) (fun q hq=>EP q hq) Xa
def tb85:Tb:=Tb.addF W5 85 S85 q85
theorem Ql:TbOk env tb85:=TbOk.addF Ix (by kernel_rfl) sound85
def S86:FunS:=⟨[utD 25],[],[utB],[]⟩
def Xb (Q:uAC):Tb:=Tb.addF tb85 86 S86 Q
theorem Xc (Q:uAC) (hQ:aH env.P 86 S86 Q):TbOk env (Xb Q):=TbOk.addF Ql (by kernel_rfl) hQ
def S140:FunS:=⟨[utD 25],[],[utB],[]⟩
def F140 (Q:uAC):uAC:=aN env (Xb Q) 60 12 140 S140
theorem F140_eq (Q:uAC) (sd0:D):F140 Q [sd0] =
 bif (ao (Q [sd0]))then
  some [(D.bool (b8 (aT (ab (Q [sd0]) 0))))]
 else
  none:=by kernel_rfl
def Tj (Q:uAC):uAC:=veil (F140 Q)
theorem Qm (Q:uAC):Tj Q=F140 Q:=am _
def Xd (Q:uAC):Tb:=Tb.addF (Xb Q) 140 S140 (Tj Q)
theorem Xe (Q:uAC) (hQ:aH env.P 86 S86 Q):TbOk env (Xd Q):=aI (Xc Q hQ) 140 (by kernel_rfl) _ (Qm Q)
def S201_140_2:LoopS:=⟨0,ufR 25::ufS (.func 140 [] [])::uF::uF::ufZ::uF::uF::ufI::utI::uAA 10 [],[],[⟨0,0,ufR 25::uT::uT::uT::utZ::uT::uT::ufI::uAB 11 [],[]⟩,⟨1,0,ufR 25::uT::uT::uT::utI::uT::uT::ufI::uAB 11 [],[]⟩]⟩
def jv (Q:uAC) (p s:List D):Option (Sum (List D) (List D)):=aO env (Xd Q) 60 12 201 (bc 201 2) S201_140_2 p s
theorem BQ (Q:uAC) (pd0:D) (pn1:Int) (sn0:Int):jv Q [pd0,(D.int pn1)] [(D.int sn0)] =
 let x0:=Tj Q [ax pd0 sn0]
 let x1:=D.int pn1
 bif ae .lss sn0 pn1 then gd (aS pd0 sn0)<|gd (ao x0)<|bif aT (ab x0 0)then ge pd0<|ge x1<|some (Sum.inr [.int 1,.int sn0])else ge pd0<|ge x1<|some (Sum.inl [.int (aM .add .i64 sn0 1)])else ge pd0<|ge x1<|some (Sum.inr [.int 0]):=by kernel_rfl
def yK:=by have h:= @BQ;simp only[aE,gd,aj,ai,ak,au,ar,aD,ap]at h;exact h
def iH (Q:uAC):List D->uAC:=veil fun p s=>loW (jv Q p) s
theorem nO (Q:uAC):iH Q=fun p s=>loW (jv Q p) s:=am _
def lr (Q:uAC):Tb:=Tb.addL (Xd Q) 201 2 S201_140_2.n0 (bL S201_140_2 (iH Q))
theorem uH (Q:uAC) (hQ:aH env.P 86 S86 Q):TbOk env (lr Q):=aG (Xe Q hQ) 201 2 (by kernel_rfl) _ (nO Q)
def IC:FunS:=⟨[utR 25,utS (.func 140 [] [])],[],[utI],[]⟩
def yL (Q:uAC):uAC:=aN env (lr Q) 60 12 201 IC
theorem ID (Q:uAC) (sd0:D):yL Q [sd0] =
 bif (ao (iH Q [sd0,(D.int (ac sd0))] [(D.int 0)]))then
  bif (ae BinOp.eql (ah (ab (iH Q [sd0,(D.int (ac sd0))] [(D.int 0)]) 0)) 0)then
   some [(D.int (-1))]
  else
   some [(D.int (ah (ab (iH Q [sd0,(D.int (ac sd0))] [(D.int 0)]) 1)))]
 else
  none:=by kernel_rfl
def pR (Q:uAC):uAC:=veil (yL Q)
theorem tP (Q:uAC):pR Q=yL Q:=am _
def rM (Q:uAC):Tb:=Tb.addF (lr Q) 201 IC (pR Q)
theorem EQ (Q:uAC) (hQ:aH env.P 86 S86 Q):TbOk env (rM Q):=aI (uH Q hQ) 201 (by kernel_rfl) _ (tP Q)
def IE:FunS:=⟨[utR 25,utS (.func 140 [] [])],[],[utB],[]⟩
def yM (Q:uAC):uAC:=aN env (rM Q) 60 12 137 IE
theorem IF (Q:uAC) (sd0:D):yM Q [sd0] =
 bif (ao (pR Q [sd0]))then
  some [(D.bool (ae BinOp.geq (ah (ab (pR Q [sd0]) 0)) 0))]
 else
  none:=by kernel_rfl
def pS (Q:uAC):uAC:=veil (yM Q)
theorem tQ (Q:uAC):pS Q=yM Q:=am _
def rN (Q:uAC):Tb:=Tb.addF (rM Q) 137 IE (pS Q)
theorem ER (Q:uAC) (hQ:aH env.P 86 S86 Q):TbOk env (rN Q):=aI (EQ Q hQ) 137 (by kernel_rfl) _ (tQ Q)
def Fb86 (Q:uAC):uAC:=aN env (rN Q) 60 12 86 S86
theorem Fb86_e (Q:uAC) (sd0:D):Fb86 Q [sd0] =
 let x0:=ah (aa sd0 0)
 let x1:=ah (aa sd0 1)
 let x2:=aC (aa sd0 2)
 let x3:=cD .eql x2 (ByteArray.mk #[])
 let x4:=ah (aa sd0 3)
 let x5:=ae .eql x4 0
 let x6:=ac (aa sd0 4)
 let x7:=ae .eql x6 0
 let x8:=az (az (az (ae .eql x1 x1) x3 false) x5 false) x7 false
 let x9:=pS Q [aa sd0 4]
 let x10:=ao x9
 let x11:=b8 (aT (ab x9 0))
 let x12:=ae .eql x0 2
 let x13:=BO [.str x2]
 let x14:=ae .eql x1 0
 let x15:=az (az (az x14 (cD .eql x2 x2) false) x5 false) x7 false
 let x16:=az x14 x3 false
 let x17:=az x16 x5 false
 let x18:=az x17 (ae .eql x6 2) false
 let x19:=ae .eql x0 16
 let x20:=ae .eql x6 1
 let x21:=az x17 x20 false
 let x22:=az (ae .eql x4 1) true (ae .eql x4 2)
 let x23:=az (ae .eql x0 18) (az x22 true (ae .eql x4 4)) false
 let x24:=az (az x16 (ae .eql x4 x4) false) x20 false
 bif ae .eql x0 1 then gd (az x8 x10 true)<|some [.bool (az x8 x11 false)]else gd (az x12 (ao x13) true)<|bif az x12 (aT (ab x13 0)) false then gd (az x15 x10 true)<|some [.bool (az x15 x11 false)]else bif az (ae .geq x0 3) (ae .leq x0 15) false then gd (az x18 x10 true)<|some [.bool (az x18 x11 false)]else bif az x19 x19 (ae .eql x0 17)then gd (az x21 x10 true)<|some [.bool (az x21 x11 false)]else bif az x23 x23 (az (ae .eql x0 19) x22 false)then gd (az x24 x10 true)<|some [.bool (az x24 x11 false)]else some [.bool false]:=by kernel_rfl
def Fb86_eq:=by have h:= @Fb86_e;simp only[aE,gd,aj,ai,ak,au,ar,aD,ap]at h;exact h
def F86:Nat->uAC:=levels Fb86
theorem F86_s (n:Nat):F86 (n+1)=Fb86 (F86 n):=rfl
def q86:uAC:=veil fun ds=>F86 (aW ds) ds
theorem Xf:q86=fun ds=>F86 (aW ds) ds:=am _
theorem sound86:aH env.P 86 S86 q86:=gj (fun q=>rN q) (fun q hq=>ER q hq) Xf
def tb86:Tb:=Tb.addF tb85 86 S86 q86
theorem Qn:TbOk env tb86:=TbOk.addF Ql (by kernel_rfl) sound86
def Tk:FunS:=⟨[utD 25,utI],[],[utB],[]⟩
def MK (Q:uAC):Tb:=Tb.addF tb86 105 Tk Q
theorem Tl (Q:uAC) (hQ:aH env.P 105 Tk Q):TbOk env (MK Q):=TbOk.addF Qn (by kernel_rfl) hQ
def S105_4:LoopS:=⟨0,uF::ufI::ufP 0 0::uF::ufS (.lit (.bool false))::utI::uAA 17 [],[(.dat false 25)],[⟨0,0,uT::ufI::uT::uT::utS (.lit (.bool false))::uAB 18 [],[(.dat false 25)]⟩,⟨1,0,uT::ufI::uT::uT::utS (.lit (.bool true))::uAB 18 [],[(.dat false 25)]⟩]⟩
def vi (Q:uAC) (p s:List D):Option (Sum (List D) (List D)):=aO env (MK Q) 60 12 105 (bc 105 4) S105_4 p s
theorem Tm (Q:uAC) (pn0:Int) (pd1:D) (sn0:Int):vi Q [(D.int pn0),pd1] [(D.int sn0)] =
 let x0:=aa pd1 4
 let x1:=Q [ax x0 sn0,.int (aM .sub .i64 pn0 1)]
 let x2:=D.int pn0
 bif ae .lss sn0 (ac x0)then gd (aS x0 sn0)<|gd (ao x1)<|bif aT (ab x1 0)then ge x2<|ge pd1<|some (Sum.inr [.int 1])else ge x2<|ge pd1<|some (Sum.inl [.int (aM .add .i64 sn0 1)])else ge x2<|ge pd1<|some (Sum.inr [.int 0]):=by kernel_rfl
def ML:=by have h:= @Tm;simp only[aE,gd,aj,ai,ak,au,ar,aD,ap]at h;exact h
def ES (Q:uAC):List D->uAC:=veil fun p s=>loW (vi Q p) s
theorem CM (Q:uAC):ES Q=fun p s=>loW (vi Q p) s:=am _
def yN (Q:uAC):Tb:=Tb.addL (MK Q) 105 4 S105_4.n0 (bL S105_4 (ES Q))
theorem IG (Q:uAC) (hQ:aH env.P 105 Tk Q):TbOk env (yN Q):=aG (Tl Q hQ) 105 4 (by kernel_rfl) _ (CM Q)
def Xg (Q:uAC):uAC:=aN env (yN Q) 60 12 105 Tk
theorem Xh (Q:uAC) (sd0:D) (sn1:Int):Xg Q [sd0,(D.int sn1)] =
 bif (ae BinOp.leq sn1 0)then
  some [(D.bool Bool.true)]
 else
  bif (ao (ES Q [(D.int sn1),sd0] [(D.int 0)]))then
   bif (ae BinOp.eql (ah (ab (ES Q [(D.int sn1),sd0] [(D.int 0)]) 0)) 0)then
    some [(D.bool Bool.false)]
   else
    some [(D.bool Bool.true)]
  else
   none:=by kernel_rfl
def IH:Nat->uAC:=levels Xg
theorem F105_s (n:Nat):IH (n+1)=Xg (IH n):=rfl
def Tn:uAC:=veil fun ds=>IH (aW ds) ds
theorem Qo:Tn=fun ds=>IH (aW ds) ds:=am _
theorem Xi:aH env.P 105 Tk Tn:=gj (fun q=>yN q) (fun q hq=>IG q hq) Qo
def Xj:Tb:=Tb.addF tb86 105 Tk Tn
theorem II:TbOk env Xj:=TbOk.addF Qn (by kernel_rfl) Xi
def To:FunS:=⟨[utD 25],[],[utB],[]⟩
def MM (Q:uAC):Tb:=Tb.addF Xj 106 To Q
theorem Tp (Q:uAC) (hQ:aH env.P 106 To Q):TbOk env (MM Q):=TbOk.addF II (by kernel_rfl) hQ
def S106_25:LoopS:=⟨0,uF::ufP 0 0::ufS (.lit (.bool false))::uF::uF::utI::uAA 117 [],[(.dat false 25)],[⟨0,1,uT::uT::utS (.lit (.bool false))::uAB 120 [],[(.dat false 25)]⟩,⟨1,0,uT::uT::utS (.lit (.bool false))::uAB 120 [],[(.dat false 25)]⟩]⟩
def pT (Q:uAC) (p s:List D):Option (Sum (List D) (List D)):=aO env (MM Q) 60 12 106 (bc 106 25) S106_25 p s
theorem MN (Q:uAC) (pd0:D) (sn0:Int):pT Q [pd0] [(D.int sn0)] =
 let x0:=aa pd0 4
 let x1:=Q [ax x0 sn0]
 bif ae .lss sn0 (ac x0)then gd (aS x0 sn0)<|gd (ao x1)<|bif b8 (aT (ab x1 0))then ge pd0<|some (Sum.inr [.int 1])else ge pd0<|some (Sum.inl [.int (aM .add .i64 sn0 1)])else ge pd0<|some (Sum.inr [.int 0]):=by kernel_rfl
def IJ:=by have h:= @MN;simp only[aE,gd,aj,ai,ak,au,ar,aD,ap]at h;exact h
def ET (Q:uAC):List D->uAC:=veil fun p s=>loW (pT Q p) s
theorem yO (Q:uAC):ET Q=fun p s=>loW (pT Q p) s:=am _
def rO (Q:uAC):Tb:=Tb.addL (MM Q) 106 25 S106_25.n0 (bL S106_25 (ET Q))
theorem EU (Q:uAC) (hQ:aH env.P 106 To Q):TbOk env (rO Q):=aG (Tp Q hQ) 106 25 (by kernel_rfl) _ (yO Q)
def Xk (Q:uAC):uAC:=aN env (rO Q) 60 12 106 To
theorem Fb106_e (Q:uAC) (sd0:D):Xk Q [sd0] =
 let x0:=ah (aa sd0 0)
 let x1:=aC (aa sd0 2)
 let x2:=cD .neq x1 (ByteArray.mk #[])
 let x3:Option (List D):=some [.bool false]
 let x4:=ac (aa sd0 4)
 let x5:=ah (aa sd0 3)
 let x6:=ae .eql x0 18
 let x7:=ae .eql x0 19
 let x8:=az (az (ae .neq x5 0) true x6) true x7
 let x9:=ET Q [sd0] [.int 0]
 let x10:Option (List D):=gd (ao x9)<|bif ae .eql (ah (ab x9 0)) 0 then some [.bool true]else x3
 let x11:Option (List D):=bif az (ae .neq x4 0) true x8 then x3 else x10
 let x12:=EM [.str x1]
 let x13:=ae .neq (ah (aa sd0 1)) 0
 let x14:Option (List D):=bif az x13 true x2 then x3 else x10
 let x15:=ae .neq x4 1
 let x16:=ae .eql x5 1
 let x17:Option (List D):=bif az x15 true false then x3 else x14
 let x18:=ae .eql x5 2
 bif ae .eql x0 1 then bif x2 then x3 else x11 else bif ae .eql x0 2 then gd (ao x12)<|bif az (b8 (aT (ab x12 0))) true x13 then x3 else x11 else bif az (ae .geq x0 3) (ae .leq x0 15) false then bif az (ae .neq x4 2) true x8 then x3 else x14 else bif az (ae .eql x0 16) true (ae .eql x0 17)then bif az x15 true x8 then x3 else x14 else bif x6 then bif x16 then x17 else bif x18 then x17 else bif az x15 true (az (b8 (ae .eql x5 4)) x8 false)then x3 else x14 else bif x7 then bif x16 then x17 else bif az x15 true (az (b8 x18) x8 false)then x3 else x14 else x3:=by kernel_rfl
def Xl:=by have h:= @Fb106_e;simp only[aE,gd,aj,ai,ak,au,ar,aD,ap]at h;exact h
def EV:Nat->uAC:=levels Xk
theorem F106_s (n:Nat):EV (n+1)=Xk (EV n):=rfl
def MO:uAC:=veil fun ds=>EV (aW ds) ds
theorem Qp:MO=fun ds=>EV (aW ds) ds:=am _
theorem Xm:aH env.P 106 To MO:=gj (fun q=>rO q) (fun q hq=>EU q hq) Qp
def Xn:Tb:=Tb.addF Xj 106 To MO
theorem IK:TbOk env Xn:=TbOk.addF II (by kernel_rfl) Xm
def Tr:FunS:=⟨[utD 25,utR 65],[],[utB],[]⟩
def MP (Q:uAC):Tb:=Tb.addF Xn 107 Tr Q
theorem Ts (Q:uAC) (hQ:aH env.P 107 Tr Q):TbOk env (MP Q):=TbOk.addF IK (by kernel_rfl) hQ
def S107_4:LoopS:=⟨0,uF::ufR 65::ufP 0 0::uF::ufS (.lit (.bool false))::utI::uAA 22 [],[(.dat false 25)],[⟨0,0,uT::ufR 65::uT::uT::utS (.lit (.bool false))::uAB 23 [],[(.dat false 25)]⟩,⟨1,0,uT::ufR 65::uT::uT::utS (.lit (.bool false))::uAB 23 [],[(.dat false 25)]⟩]⟩
def vj (Q:uAC) (p s:List D):Option (Sum (List D) (List D)):=aO env (MP Q) 60 12 107 (bc 107 4) S107_4 p s
theorem Tt (Q:uAC) (pd0:D) (pd1:D) (sn0:Int):vj Q [pd0,pd1] [(D.int sn0)] =
 let x0:=aa pd1 4
 let x1:=Q [ax x0 sn0,pd0]
 bif ae .lss sn0 (ac x0)then gd (aS x0 sn0)<|gd (ao x1)<|bif b8 (aT (ab x1 0))then ge pd0<|ge pd1<|some (Sum.inr [.int 1])else ge pd0<|ge pd1<|some (Sum.inl [.int (aM .add .i64 sn0 1)])else ge pd0<|ge pd1<|some (Sum.inr [.int 0]):=by kernel_rfl
def MQ:=by have h:= @Tt;simp only[aE,gd,aj,ai,ak,au,ar,aD,ap]at h;exact h
def MR (Q:uAC):List D->uAC:=veil fun p s=>loW (vj Q p) s
theorem CN (Q:uAC):MR Q=fun p s=>loW (vj Q p) s:=am _
def yP (Q:uAC):Tb:=Tb.addL (MP Q) 107 4 S107_4.n0 (bL S107_4 (MR Q))
theorem IL (Q:uAC) (hQ:aH env.P 107 Tr Q):TbOk env (yP Q):=aG (Ts Q hQ) 107 4 (by kernel_rfl) _ (CN Q)
def Xo (Q:uAC):uAC:=aN env (yP Q) 60 12 107 Tr
theorem Fb107_e (Q:uAC) (sd0:D) (sd1:D):Xo Q [sd0,sd1] =
 let x0:=MJ [sd1,.str (aC (aa sd0 2))]
 let x1:=MR Q [sd1,sd0] [.int 0]
 bif ae .eql (ah (aa sd0 0)) 2 then gd (ao x0)<|some [.bool (aT (ab x0 0))]else gd (ao x1)<|bif ae .eql (ah (ab x1 0)) 0 then some [.bool true]else some [.bool false]:=by kernel_rfl
def Xp:=by have h:= @Fb107_e;simp only[aE,gd,aj,ai,ak,au,ar,aD,ap]at h;exact h
def EW:Nat->uAC:=levels Xo
theorem F107_s (n:Nat):EW (n+1)=Xo (EW n):=rfl
def MS:uAC:=veil fun ds=>EW (aW ds) ds
theorem Qq:MS=fun ds=>EW (aW ds) ds:=am _
theorem Xq:aH env.P 107 Tr MS:=gj (fun q=>yP q) (fun q hq=>IL q hq) Qq
def Xr:Tb:=Tb.addF Xn 107 Tr MS
theorem Xs:TbOk env Xr:=TbOk.addF IK (by kernel_rfl) Xq
def S40_3:LoopS:=⟨0,uF::uF::ufN::ufO 0 65::uF::uF::ufR 9::ufI::utI::uAA 10 [],[(.lst true 65)],[⟨0,0,uT::uT::utN::utO 0 65::uT::uT::ufR 9::ufI::uAB 11 [],[(.lst true 65)]⟩]⟩
def EX (p s:List D):Option (Sum (List D) (List D)):=aO env Xr 60 12 40 (bc 40 3) S40_3 p s
theorem Xt (pd0:D) (pn1:Int) (sn0:Int) (sd1:D):EX [pd0,(D.int pn1)] [(D.int sn0),sd1] =
 let x0:=ae .eql (ac sd1) (ac sd1)
 let x1:=D.int 0
 let x2:=bt sd1 (.list [.agg [.str (aC (ax pd0 sn0)),.agg [x1,x1,x1,.list [],.list []]]])
 let x3:=ac x2
 bif ae .lss sn0 pn1 then gd (aS pd0 sn0)<|gd x0<|gd (ci x3 88)<|gd (ae .eql x3 x3)<|ge pd0<|ge (.int pn1)<|some (Sum.inl [.int (aM .add .i64 sn0 1),x2])else gd x0<|ge pd0<|ge (.int pn1)<|some (Sum.inr [x1,sd1]):=by kernel_rfl
def CO:=by have h:= @Xt;simp only[aE,gd,aj,ai,ak,au,ar,aD,ap]at h;exact h
def Xu:List D->uAC:=veil fun p s=>loW (EX p) s
theorem IM:Xu=fun p s=>loW (EX p) s:=am _
def EY:Tb:=Tb.addL Xr 40 3 S40_3.n0 (bL S40_3 (Xu))
theorem MT:TbOk env (EY):=aG Xs 40 3 (by kernel_rfl) _ (IM)
def S40:FunS:=⟨[utR 9],[],[utR 65],[]⟩
def F40:uAC:=aN env EY 60 12 40 S40
theorem F40_e (sd0:D):F40 [sd0] =
 let x0:=Xu [sd0,.int (ac sd0)] [.int 0,.list []]
 gd (ae .eql 0 (ac (.list [])))<|gd (ao x0)<|gd (ae .eql (ac (ab x0 1)) (ac (ab x0 1)))<|some [ab x0 1]:=by kernel_rfl
def F40_eq:=by have h:= @F40_e;simp only[aE,gd,aj,ai,ak,au,ar,aD,ap]at h;exact h
def q40:uAC:=veil (F40)
theorem Xv:q40=F40:=am _
def tb40:Tb:=Tb.addF EY 40 S40 (q40)
theorem ok_tb40:TbOk env (tb40):=aI MT 40 (by kernel_rfl) _ (Xv)
def S44_3:LoopS:=⟨0,ufR 9::uF::ufN::ufO 0 65::utI::uAA 15 [],[(.lst true 65)],[⟨0,0,ufR 9::uT::utN::utO 0 65::uAB 16 [],[(.lst true 65)]⟩]⟩
def EZ (p s:List D):Option (Sum (List D) (List D)):=aO env tb40 60 12 44 (bc 44 3) S44_3 p s
theorem Xw (pd0:D) (sn0:Int) (sd1:D):EZ [pd0] [(D.int sn0),sd1] =
 let x0:=ae .eql (ac sd1) (ac sd1)
 let x1:=D.int 0
 let x2:=bt sd1 (.list [.agg [.str (aC (ax pd0 sn0)),.agg [x1,x1,x1,.list [],.list []]]])
 let x3:=ac x2
 bif ae .lss sn0 (ac pd0)then gd (aS pd0 sn0)<|gd x0<|gd (ci x3 88)<|gd (ae .eql x3 x3)<|ge pd0<|some (Sum.inl [.int (aM .add .i64 sn0 1),x2])else gd x0<|ge pd0<|some (Sum.inr [x1,sd1]):=by kernel_rfl
def CP:=by have h:= @Xw;simp only[aE,gd,aj,ai,ak,au,ar,aD,ap]at h;exact h
def Xx:List D->uAC:=veil fun p s=>loW (EZ p) s
theorem IN:Xx=fun p s=>loW (EZ p) s:=am _
def E4:Tb:=Tb.addL tb40 44 3 S44_3.n0 (bL S44_3 (Xx))
theorem MU:TbOk env (E4):=aG ok_tb40 44 3 (by kernel_rfl) _ (IN)
def S44:FunS:=⟨[utR 9],[],[utR 65],[]⟩
def F44:uAC:=aN env E4 60 12 44 S44
theorem F44_e (sd0:D):F44 [sd0] =
 let x0:=Xx [sd0] [.int 0,.list []]
 gd (ae .eql 0 (ac (.list [])))<|gd (ao x0)<|gd (ae .eql (ac (ab x0 1)) (ac (ab x0 1)))<|some [ab x0 1]:=by kernel_rfl
def F44_eq:=by have h:= @F44_e;simp only[aE,gd,aj,ai,ak,au,ar,aD,ap]at h;exact h
def q44:uAC:=veil (F44)
theorem Xy:q44=F44:=am _
def tb44:Tb:=Tb.addF E4 44 S44 (q44)
theorem Qr:TbOk env (tb44):=aI MU 44 (by kernel_rfl) _ (Xy)
def S38:FunS:=⟨[utD 25,utI,utI],[],[utI],[]⟩
def Xz (Q:uAC):Tb:=Tb.addF tb44 38 S38 Q
theorem XA (Q:uAC) (hQ:aH env.P 38 S38 Q):TbOk env (Xz Q):=TbOk.addF Qr (by kernel_rfl) hQ
def S38_5:LoopS:=⟨0,uF::ufI::uF::ufP 0 0::uF::uF::ufZ::utI::utI::uAA 35 [],[(.dat false 25)],[⟨0,0,uT::ufI::uT::uT::uT::uT::utZ::utI::uAB 36 [],[(.dat false 25)]⟩]⟩
def E5 (Q:uAC) (p s:List D):Option (Sum (List D) (List D)):=aO env (Xz Q) 60 12 38 (bc 38 5) S38_5 p s
theorem XB (Q:uAC) (pn0:Int) (pd1:D) (sn0:Int) (sn1:Int):E5 Q [(D.int pn0),pd1] [(D.int sn0),(D.int sn1)] =
 let x0:=aa pd1 4
 let x1:=Q [ax x0 sn1,.int (aM .sub .i64 pn0 1),.int sn0]
 bif az (ae .lss sn1 (ac x0)) (ae .geq sn0 0) false then gd (aS x0 sn1)<|gd (ao x1)<|ge (.int pn0)<|ge pd1<|some (Sum.inl [.int (ah (ab x1 0)),.int (aM .add .i64 sn1 1)])else ge (.int pn0)<|ge pd1<|some (Sum.inr [.int 0,.int sn0]):=by kernel_rfl
def Tu:=by have h:= @XB;simp only[aE,gd,aj,ai,ak,au,ar,aD,ap]at h;exact h
def Qs (Q:uAC):List D->uAC:=veil fun p s=>loW (E5 Q p) s
theorem IP (Q:uAC):Qs Q=fun p s=>loW (E5 Q p) s:=am _
def E6 (Q:uAC):Tb:=Tb.addL (Xz Q) 38 5 S38_5.n0 (bL S38_5 (Qs Q))
theorem MV (Q:uAC) (hQ:aH env.P 38 S38 Q):TbOk env (E6 Q):=aG (XA Q hQ) 38 5 (by kernel_rfl) _ (IP Q)
def Fb38 (Q:uAC):uAC:=aN env (E6 Q) 60 12 38 S38
theorem Fb38_eq (Q:uAC) (sd0:D) (sn1:Int) (sn2:Int):Fb38 Q [sd0,(D.int sn1),(D.int sn2)] =
 bif (az (az (ae BinOp.lss sn1 1) Bool.true (ae BinOp.lss sn2 1)) Bool.true (ae BinOp.gtr (ac (aa sd0 4)) 4))then
  some [(D.int (-1))]
 else
  bif (ao (Qs Q [(D.int sn1),sd0] [(D.int (aM BinOp.sub IntKind.i64 sn2 1)),(D.int 0)]))then
   some [(D.int (ah (ab (Qs Q [(D.int sn1),sd0] [(D.int (aM BinOp.sub IntKind.i64 sn2 1)),(D.int 0)]) 1)))]
  else
   none:=by kernel_rfl
def F38:Nat->uAC:=levels Fb38
theorem F38_s (n:Nat):F38 (n+1)=Fb38 (F38 n):=rfl
def q38:uAC:=veil fun ds=>F38 (aW ds) ds
theorem XC:q38=fun ds=>F38 (aW ds) ds:=am _
theorem sound38:aH env.P 38 S38 q38:=gj (fun q=>E6 q) (fun q hq=>MV q hq) XC
def tb38:Tb:=Tb.addF tb44 38 S38 q38
theorem ok_tb38:TbOk env tb38:=TbOk.addF Qr (by kernel_rfl) sound38
def IQ:FunS:=⟨[utD 65,utS (.eptr [.str])],[],[utB],[]⟩
def yQ:uAC:=aN env tb38 60 12 144 IQ
theorem IR (sd0:D) (ss1:ByteArray):yQ [sd0,(D.str ss1)] =
 some [(D.bool (cD BinOp.eql (aC (aa sd0 0)) ss1))]:=by kernel_rfl
def pU:uAC:=veil (yQ)
theorem tR:pU=yQ:=am _
def rP:Tb:=Tb.addF tb38 144 IQ (pU)
theorem E7:TbOk env (rP):=aI ok_tb38 144 (by kernel_rfl) _ (tR)
def S203_144_2:LoopS:=⟨0,ufR 65::ufS (.func 144 [] [(.eptr [.str])])::uF::uF::ufZ::uF::uF::ufI::utI::uAA 10 [],[],[⟨0,0,ufR 65::ufS (.func 144 [] [(.eptr [.str])])::uT::uT::utZ::uT::uT::ufI::uAB 11 [],[]⟩,⟨1,0,ufR 65::ufS (.func 144 [] [(.eptr [.str])])::uT::uT::utI::uT::uT::ufI::uAB 11 [],[]⟩]⟩
def jw (p s:List D):Option (Sum (List D) (List D)):=aO env rP 60 12 203 (bc 203 2) S203_144_2 p s
theorem BR (pd0:D) (ps1:ByteArray) (pn2:Int) (sn0:Int):jw [pd0,(D.str ps1),(D.int pn2)] [(D.int sn0)] =
 let x0:=D.str ps1
 let x1:=pU [ax pd0 sn0,x0]
 let x2:=D.int pn2
 bif ae .lss sn0 pn2 then gd (aS pd0 sn0)<|gd (ao x1)<|bif aT (ab x1 0)then ge pd0<|ge x0<|ge x2<|some (Sum.inr [.int 1,.int sn0])else ge pd0<|ge x0<|ge x2<|some (Sum.inl [.int (aM .add .i64 sn0 1)])else ge pd0<|ge x0<|ge x2<|some (Sum.inr [.int 0]):=by kernel_rfl
def yR:=by have h:= @BR;simp only[aE,gd,aj,ai,ak,au,ar,aD,ap]at h;exact h
def iI:List D->uAC:=veil fun p s=>loW (jw p) s
theorem nP:iI=fun p s=>loW (jw p) s:=am _
def lu:Tb:=Tb.addL rP 203 2 S203_144_2.n0 (bL S203_144_2 (iI))
theorem uI:TbOk env (lu):=aG E7 203 2 (by kernel_rfl) _ (nP)
def IS:FunS:=⟨[utR 65,utS (.func 144 [] [(.eptr [.str])])],[],[utI],[]⟩
def yS:uAC:=aN env lu 60 12 203 IS
theorem IT (sd0:D) (ss1:ByteArray):yS [sd0,(D.str ss1)] =
 bif (ao (iI [sd0,(D.str ss1),(D.int (ac sd0))] [(D.int 0)]))then
  bif (ae BinOp.eql (ah (ab (iI [sd0,(D.str ss1),(D.int (ac sd0))] [(D.int 0)]) 0)) 0)then
   some [(D.int (-1))]
  else
   some [(D.int (ah (ab (iI [sd0,(D.str ss1),(D.int (ac sd0))] [(D.int 0)]) 1)))]
 else
  none:=by kernel_rfl
def pV:uAC:=veil (yS)
theorem tS:pV=yS:=am _
def rQ:Tb:=Tb.addF lu 203 IS (pV)
theorem E8:TbOk env (rQ):=aI uI 203 (by kernel_rfl) _ (tS)
def IU:FunS:=⟨[utR 65,utS (.func 144 [] [(.eptr [.str])])],[],[utB],[]⟩
def yU:uAC:=aN env rQ 60 12 143 IU
theorem IV (sd0:D) (ss1:ByteArray):yU [sd0,(D.str ss1)] =
 bif (ao (pV [sd0,(D.str ss1)]))then
  some [(D.bool (ae BinOp.geq (ah (ab (pV [sd0,(D.str ss1)]) 0)) 0))]
 else
  none:=by kernel_rfl
def pW:uAC:=veil (yU)
theorem tT:pW=yU:=am _
def rR:Tb:=Tb.addF rQ 143 IU (pW)
theorem E9:TbOk env (rR):=aI E8 143 (by kernel_rfl) _ (tT)
def S142:FunS:=⟨[⟨true, .str⟩,utS (.eptr [(.rows 65)])],[],[utB],[]⟩
def F142:uAC:=aN env rR 60 12 142 S142
theorem F142_eq (ss0:ByteArray) (sd1:D):F142 [(D.str ss0),sd1] =
 bif (ao (pW [sd1,(D.str ss0)]))then
  some [(D.bool (aT (ab (pW [sd1,(D.str ss0)]) 0)))]
 else
  none:=by kernel_rfl
def Tv:uAC:=veil (F142)
theorem Qt:Tv=F142:=am _
def XD:Tb:=Tb.addF rR 142 S142 (Tv)
theorem IW:TbOk env (XD):=aI E9 142 (by kernel_rfl) _ (Qt)
def S87:FunS:=⟨[utD 25,utS (.func 142 [] [(.eptr [(.rows 65)])])],[],[utB],[]⟩
def XE (Q:uAC):Tb:=Tb.addF XD 87 S87 Q
theorem XF (Q:uAC) (hQ:aH env.P 87 S87 Q):TbOk env (XE Q):=TbOk.addF IW (by kernel_rfl) hQ
def IX:FunS:=⟨[utD 25,utS (.eptr [(.func 142 [] [(.eptr [(.rows 65)])])])],[],[utB],[]⟩
def yV (Q:uAC):uAC:=aN env (XE Q) 60 12 141 IX
theorem IY (Q:uAC) (sd0:D) (sd1:D):yV Q [sd0,sd1] =
 bif (ao (Q [sd0,sd1]))then
  some [(D.bool (b8 (aT (ab (Q [sd0,sd1]) 0))))]
 else
  none:=by kernel_rfl
def kI (Q:uAC):uAC:=veil (yV Q)
theorem tU (Q:uAC):kI Q=yV Q:=am _
def rS (Q:uAC):Tb:=Tb.addF (XE Q) 141 IX (kI Q)
theorem Fa (Q:uAC) (hQ:aH env.P 87 S87 Q):TbOk env (rS Q):=aI (XF Q hQ) 141 (by kernel_rfl) _ (tU Q)
def S201_141_2:LoopS:=⟨0,ufR 25::⟨false,(.func 141 [] [(.eptr [(.func 142 [] [(.eptr [(.rows 65)])])])])⟩::uF::uF::ufZ::uF::uF::ufI::utI::uAA 10 [],[],[⟨0,0,ufR 25::⟨false,(.func 141 [] [(.eptr [(.func 142 [] [(.eptr [(.rows 65)])])])])⟩::uT::uT::utZ::uT::uT::ufI::uAB 11 [],[]⟩,⟨1,0,ufR 25::⟨false,(.func 141 [] [(.eptr [(.func 142 [] [(.eptr [(.rows 65)])])])])⟩::uT::uT::utI::uT::uT::ufI::uAB 11 [],[]⟩]⟩
def jx (Q:uAC) (p s:List D):Option (Sum (List D) (List D)):=aO env (rS Q) 60 12 201 (bc 201 2) S201_141_2 p s
theorem BS (Q:uAC) (pd0:D) (pd1:D) (pn2:Int) (sn0:Int):jx Q [pd0,pd1,(D.int pn2)] [(D.int sn0)] =
 let x0:=kI Q [ax pd0 sn0,pd1]
 let x1:=D.int pn2
 bif ae .lss sn0 pn2 then gd (aS pd0 sn0)<|gd (ao x0)<|bif aT (ab x0 0)then ge pd0<|ge pd1<|ge x1<|some (Sum.inr [.int 1,.int sn0])else ge pd0<|ge pd1<|ge x1<|some (Sum.inl [.int (aM .add .i64 sn0 1)])else ge pd0<|ge pd1<|ge x1<|some (Sum.inr [.int 0]):=by kernel_rfl
def yW:=by have h:= @BS;simp only[aE,gd,aj,ai,ak,au,ar,aD,ap]at h;exact h
def iJ (Q:uAC):List D->uAC:=veil fun p s=>loW (jx Q p) s
theorem nQ (Q:uAC):iJ Q=fun p s=>loW (jx Q p) s:=am _
def lw (Q:uAC):Tb:=Tb.addL (rS Q) 201 2 S201_141_2.n0 (bL S201_141_2 (iJ Q))
theorem uJ (Q:uAC) (hQ:aH env.P 87 S87 Q):TbOk env (lw Q):=aG (Fa Q hQ) 201 2 (by kernel_rfl) _ (nQ Q)
def IZ:FunS:=⟨[utR 25,⟨true,(.func 141 [] [(.eptr [(.func 142 [] [(.eptr [(.rows 65)])])])])⟩],[],[utI],[]⟩
def yX (Q:uAC):uAC:=aN env (lw Q) 60 12 201 IZ
theorem I0 (Q:uAC) (sd0:D) (sd1:D):yX Q [sd0,sd1] =
 bif (ao (iJ Q [sd0,sd1,(D.int (ac sd0))] [(D.int 0)]))then
  bif (ae BinOp.eql (ah (ab (iJ Q [sd0,sd1,(D.int (ac sd0))] [(D.int 0)]) 0)) 0)then
   some [(D.int (-1))]
  else
   some [(D.int (ah (ab (iJ Q [sd0,sd1,(D.int (ac sd0))] [(D.int 0)]) 1)))]
 else
  none:=by kernel_rfl
def pX (Q:uAC):uAC:=veil (yX Q)
theorem tV (Q:uAC):pX Q=yX Q:=am _
def rT (Q:uAC):Tb:=Tb.addF (lw Q) 201 IZ (pX Q)
theorem Fb (Q:uAC) (hQ:aH env.P 87 S87 Q):TbOk env (rT Q):=aI (uJ Q hQ) 201 (by kernel_rfl) _ (tV Q)
def I1:FunS:=⟨[utR 25,⟨true,(.func 141 [] [(.eptr [(.func 142 [] [(.eptr [(.rows 65)])])])])⟩],[],[utB],[]⟩
def yY (Q:uAC):uAC:=aN env (rT Q) 60 12 137 I1
theorem I2 (Q:uAC) (sd0:D) (sd1:D):yY Q [sd0,sd1] =
 bif (ao (pX Q [sd0,sd1]))then
  some [(D.bool (ae BinOp.geq (ah (ab (pX Q [sd0,sd1]) 0)) 0))]
 else
  none:=by kernel_rfl
def pY (Q:uAC):uAC:=veil (yY Q)
theorem tW (Q:uAC):pY Q=yY Q:=am _
def rU (Q:uAC):Tb:=Tb.addF (rT Q) 137 I1 (pY Q)
theorem Fc (Q:uAC) (hQ:aH env.P 87 S87 Q):TbOk env (rU Q):=aI (Fb Q hQ) 137 (by kernel_rfl) _ (tW Q)
def Fb87 (Q:uAC):uAC:=aN env (rU Q) 60 12 87 S87
theorem Fb87_e (Q:uAC) (sd0:D) (sd1:D):Fb87 Q [sd0,sd1] =
 let x0:=Tv [.str (aC (aa sd0 2)),sd1]
 let x1:=pY Q [aa sd0 4,sd1]
 let x2:Option (List D):=gd (ao x1)<|some [.bool (b8 (aT (ab x1 0)))]
 bif ae .eql (ah (aa sd0 0)) 2 then gd (ao x0)<|bif b8 (aT (ab x0 0))then some [.bool false]else x2 else x2:=by kernel_rfl
def Fb87_eq:=by have h:= @Fb87_e;simp only[aE,gd,aj,ai,ak,au,ar,aD,ap]at h;exact h
def F87:Nat->uAC:=levels Fb87
theorem F87_s (n:Nat):F87 (n+1)=Fb87 (F87 n):=rfl
def q87:uAC:=veil fun ds=>F87 (aW ds) ds
theorem XG:q87=fun ds=>F87 (aW ds) ds:=am _
theorem sound87:aH env.P 87 S87 q87:=gj (fun q=>rU q) (fun q hq=>Fc q hq) XG
def tb87:Tb:=Tb.addF XD 87 S87 q87
theorem Qu:TbOk env tb87:=TbOk.addF IW (by kernel_rfl) sound87
def MW:FunS:=⟨[utD 63,utI],[],[utB],[]⟩
def MX (Q:uAC):Tb:=Tb.addF tb87 237 MW Q
theorem Tx (Q:uAC) (hQ:aH env.P 237 MW Q):TbOk env (MX Q):=TbOk.addF Qu (by kernel_rfl) hQ
def S237_4:LoopS:=⟨0,uF::ufI::ufP 0 0::uF::ufS (.lit (.bool false))::uAA 7 (ufR 63::ufI::utI::uAA 23 []),[(.dat false 63)],[⟨0,0,uT::ufI::utP 0 0::uT::utS (.lit (.bool false))::uAB 7 (ufR 63::ufI::uAB 24 []),[(.dat false 63)]⟩,⟨1,0,uT::ufI::uT::uT::utS (.lit (.bool false))::uAB 7 (ufR 63::ufI::uAB 24 []),[(.dat false 63)]⟩]⟩
def vk (Q:uAC) (p s:List D):Option (Sum (List D) (List D)):=aO env (MX Q) 60 12 237 (bc 237 4) S237_4 p s
theorem Tz (Q:uAC) (pn0:Int) (pd1:D) (pn2:Int) (pd3:D) (sn0:Int):vk Q [(D.int pn0),pd1,(D.int pn2),pd3] [(D.int sn0)] =
 let x0:=Q [ax pd1 sn0,.int (aM .sub .i64 pn0 1)]
 let x1:=D.int pn0
 let x2:=D.int pn2
 bif ae .lss sn0 pn2 then gd (aS pd1 sn0)<|gd (ao x0)<|bif b8 (aT (ab x0 0))then ge x1<|ge pd1<|ge x2<|ge pd3<|some (Sum.inr [.int 1])else ge x1<|ge pd1<|ge x2<|ge pd3<|some (Sum.inl [.int (aM .add .i64 sn0 1)])else ge x1<|ge pd1<|ge x2<|ge pd3<|some (Sum.inr [.int 0]):=by kernel_rfl
def MY:=by have h:= @Tz;simp only[aE,gd,aj,ai,ak,au,ar,aD,ap]at h;exact h
def MZ (Q:uAC):List D->uAC:=veil fun p s=>loW (vk Q p) s
theorem CQ (Q:uAC):MZ Q=fun p s=>loW (vk Q p) s:=am _
def yZ (Q:uAC):Tb:=Tb.addL (MX Q) 237 4 S237_4.n0 (bL S237_4 (MZ Q))
theorem I3 (Q:uAC) (hQ:aH env.P 237 MW Q):TbOk env (yZ Q):=aG (Tx Q hQ) 237 4 (by kernel_rfl) _ (CQ Q)
def S237_10:LoopS:=⟨0,uF::ufI::uF::uF::ufS (.lit (.bool false))::uAA 20 (ufR 267::ufI::utI::uAA 10 []),[],[⟨0,2,uT::ufI::uT::uT::utS (.lit (.bool false))::uAB 20 (ufR 267::ufI::uAB 11 []),[]⟩,⟨1,0,uT::ufI::uT::uT::utS (.lit (.bool false))::uAB 20 (ufR 267::ufI::uAB 11 []),[]⟩]⟩
def pZ (Q:uAC) (p s:List D):Option (Sum (List D) (List D)):=aO env (yZ Q) 60 12 237 (bc 237 10) S237_10 p s
theorem M0 (Q:uAC) (pn0:Int) (pd1:D) (pn2:Int) (sn0:Int):pZ Q [(D.int pn0),pd1,(D.int pn2)] [(D.int sn0)] =
 let x0:=aa (ax pd1 sn0) 1
 let x1:=Q [.agg [.int (ah (aa x0 0)),.int (ah (aa x0 1)),.int (ah (aa x0 2)),aa x0 3,aa x0 4],.int (aM .sub .i64 pn0 1)]
 let x2:=D.int pn0
 let x3:=D.int pn2
 bif ae .lss sn0 pn2 then gd (aS pd1 sn0)<|gd (ao x1)<|bif b8 (aT (ab x1 0))then ge x2<|ge pd1<|ge x3<|some (Sum.inr [.int 1])else ge x2<|ge pd1<|ge x3<|some (Sum.inl [.int (aM .add .i64 sn0 1)])else ge x2<|ge pd1<|ge x3<|some (Sum.inr [.int 0]):=by kernel_rfl
def I4:=by have h:= @M0;simp only[aE,gd,aj,ai,ak,au,ar,aD,ap]at h;exact h
def Fd (Q:uAC):List D->uAC:=veil fun p s=>loW (pZ Q p) s
theorem za (Q:uAC):Fd Q=fun p s=>loW (pZ Q p) s:=am _
def rV (Q:uAC):Tb:=Tb.addL (yZ Q) 237 10 S237_10.n0 (bL S237_10 (Fd Q))
theorem Fe (Q:uAC) (hQ:aH env.P 237 MW Q):TbOk env (rV Q):=aG (I3 Q hQ) 237 10 (by kernel_rfl) _ (za Q)
def XH (Q:uAC):uAC:=aN env (rV Q) 60 12 237 MW
theorem Fb237_e (Q:uAC) (sd0:D) (sn1:Int):XH Q [sd0,(D.int sn1)] =
 let x0:Option (List D):=some [.bool false]
 let x1:=MZ Q [.int sn1,aa sd0 3,.int (ac (aa sd0 3)),sd0] [.int 0]
 let x2:=Fd Q [.int sn1,aa sd0 4,.int (ac (aa sd0 4))] [.int 0]
 bif ae .lss sn1 1 then x0 else gd (ao x1)<|bif ae .eql (ah (ab x1 0)) 0 then gd (ao x2)<|bif ae .eql (ah (ab x2 0)) 0 then some [.bool true]else x0 else x0:=by kernel_rfl
def XI:=by have h:= @Fb237_e;simp only[aE,gd,aj,ai,ak,au,ar,aD,ap]at h;exact h
def zb:Nat->uAC:=levels XH
theorem F237_s (n:Nat):zb (n+1)=XH (zb n):=rfl
def q237:uAC:=veil fun ds=>zb (aW ds) ds
theorem Qv:q237=fun ds=>zb (aW ds) ds:=am _
theorem XJ:aH env.P 237 MW q237:=gj (fun q=>rV q) (fun q hq=>Fe q hq) Qv
def XK:Tb:=Tb.addF tb87 237 MW q237
theorem I5:TbOk env XK:=TbOk.addF Qu (by kernel_rfl) XJ
def TA:FunS:=⟨[utD 63],[],[utB],[]⟩
def M1 (Q:uAC):Tb:=Tb.addF XK 238 TA Q
theorem TB (Q:uAC) (hQ:aH env.P 238 TA Q):TbOk env (M1 Q):=TbOk.addF I5 (by kernel_rfl) hQ
def S238_23:LoopS:=⟨0,uF::ufP 0 0::ufS (.lit (.bool false))::uF::ufI::uAA 79 (ufR 267::ufI::utI::uAA 44 []),[(.dat false 63)],[⟨0,1,uT::utP 0 0::utS (.lit (.bool false))::uT::ufI::uAB 79 (ufR 267::ufI::uAB 45 []),[(.dat false 63)]⟩,⟨1,0,uT::uT::utS (.lit (.bool false))::uT::ufI::uAB 79 (ufR 267::ufI::uAB 45 []),[(.dat false 63)]⟩]⟩
def p5 (Q:uAC) (p s:List D):Option (Sum (List D) (List D)):=aO env (M1 Q) 60 12 238 (bc 238 23) S238_23 p s
theorem M2 (Q:uAC) (pn0:Int) (pd1:D) (pn2:Int) (pd3:D) (sn0:Int):p5 Q [(D.int pn0),pd1,(D.int pn2),pd3] [(D.int sn0)] =
 let x0:=ax pd1 sn0
 let x1:=ah (aa x0 0)
 let x2:=D.int pn0
 let x3:=D.int pn2
 let x4:Option (List D ⊕ List D):=ge x2<|ge pd1<|ge x3<|ge pd3<|some (Sum.inr [.int 1])
 let x5:=aM .sub .i64 sn0 1
 let x6:=aa x0 1
 let x7:=Q [.agg [.int (ah (aa x6 0)),.int (ah (aa x6 1)),.int (ah (aa x6 2)),aa x6 3,aa x6 4]]
 let x8:Option (List D ⊕ List D):=gd (ao x7)<|bif b8 (aT (ab x7 0))then x4 else ge x2<|ge pd1<|ge x3<|ge pd3<|some (Sum.inl [.int (aM .add .i64 sn0 1)])
 bif ae .lss sn0 pn2 then gd (aS pd1 sn0)<|bif ae .lss x1 0 then x4 else bif ae .geq x1 65536 then x4 else bif ae .gtr sn0 0 then gd (aS (aa pd3 4) x5)<|bif ae .leq x1 (ah (aa (ax (aa pd3 4) x5) 0))then x4 else x8 else x8 else ge x2<|ge pd1<|ge x3<|ge pd3<|some (Sum.inr [.int 0]):=by kernel_rfl
def tX:=by have h:= @M2;simp only[aE,gd,aj,ai,ak,au,ar,aD,ap]at h;exact h
def vm (Q:uAC):List D->uAC:=veil fun p s=>loW (p5 Q p) s
theorem zc (Q:uAC):vm Q=fun p s=>loW (p5 Q p) s:=am _
def rW (Q:uAC):Tb:=Tb.addL (M1 Q) 238 23 S238_23.n0 (bL S238_23 (vm Q))
theorem Ff (Q:uAC) (hQ:aH env.P 238 TA Q):TbOk env (rW Q):=aG (TB Q hQ) 238 23 (by kernel_rfl) _ (zc Q)
def XL (Q:uAC):uAC:=aN env (rW Q) 60 12 238 TA
theorem Fb238_e (Q:uAC) (sd0:D):XL Q [sd0] =
 let x0:=ah (aa sd0 0)
 let x1:=ae .eql x0 0
 let x2:=ae .eql x0 6
 let x3:=ae .eql x0 5
 let x4:=ah (aa sd0 1)
 let x5:=ae .neq x4 0
 let x6:=ah (aa sd0 2)
 let x7:=ae .neq x6 0
 let x8:=az x5 true x7
 let x9:=aa sd0 3
 let x10:=ae .neq (ac x9) 0
 let x11:=aa sd0 4
 let x12:=az (b8 x3) (ae .gtr (ac x11) 0) false
 let x13:Option (List D):=some [.bool false]
 let x14:=vm Q [.int 0,x11,.int (ac x11),sd0] [.int 0]
 let x15:=ae .eql 0 0
 let x16:=Q [ax x9 0]
 let x17:=cz (aS x9 0) (ao x16)
 let x18:=aT (ab x16 0)
 let x19:Option (List D):=gd (ao x14)<|bif ae .eql (ah (ab x14 0)) 0 then gd (az x15 true x17)<|some [.bool (az x15 true x18)]else x13
 let x20:=ae .eql x0 1
 let x21:=ae .neq (ac x9) 1
 let x22:=vm Q [.int 1,x11,.int (ac x11),sd0] [.int 0]
 let x23:=ae .eql 1 0
 let x24:Option (List D):=gd (ao x22)<|bif ae .eql (ah (ab x22 0)) 0 then gd (az x23 true x17)<|some [.bool (az x23 true x18)]else x13
 bif az x1 x1 (az x2 x2 x3)then bif az (az x8 true x10) true x12 then x13 else x19 else bif az x20 x20 (ae .eql x0 2)then bif az (az (ae .neq x4 1) (ae .neq x4 2) false) (ae .neq x4 4) false then x13 else bif az (az (az (ae .neq x4 x4) true x7) true x10) true x12 then x13 else x19 else bif ae .eql x0 3 then bif az (az x8 true x21) true x12 then x13 else x24 else bif ae .eql x0 4 then bif az (ae .lss x6 1) true (ae .gtr x6 65536)then x13 else bif az (az (az x5 true (ae .neq x6 x6)) true x21) true x12 then x13 else x24 else x13:=by kernel_rfl
def XM:=by have h:= @Fb238_e;simp only[aE,gd,aj,ai,ak,au,ar,aD,ap]at h;exact h
def I6:Nat->uAC:=levels XL
theorem F238_s (n:Nat):I6 (n+1)=XL (I6 n):=rfl
def q238:uAC:=veil fun ds=>I6 (aW ds) ds
theorem Qw:q238=fun ds=>I6 (aW ds) ds:=am _
theorem XN:aH env.P 238 TA q238:=gj (fun q=>rW q) (fun q hq=>Ff q hq) Qw
def XO:Tb:=Tb.addF XK 238 TA q238
theorem I7:TbOk env XO:=TbOk.addF I5 (by kernel_rfl) XN
def TC:FunS:=⟨[utD 63],[],[utI],[]⟩
def M3 (Q:uAC):Tb:=Tb.addF XO 259 TC Q
theorem TD (Q:uAC) (hQ:aH env.P 259 TC Q):TbOk env (M3 Q):=TbOk.addF I7 (by kernel_rfl) hQ
def S259_12:LoopS:=⟨0,uF::uF::ufZ::utI::uAA 24 (ufR 267::ufI::utI::uAA 14 []),[],[⟨0,1,uT::uT::utZ::utI::uAB 24 (ufR 267::ufI::uAB 15 []),[]⟩]⟩
def p6 (Q:uAC) (p s:List D):Option (Sum (List D) (List D)):=aO env (M3 Q) 60 12 259 (bc 259 12) S259_12 p s
theorem M4 (Q:uAC) (pd0:D) (pn1:Int) (sn0:Int) (sn1:Int):p6 Q [pd0,(D.int pn1)] [(D.int sn0),(D.int sn1)] =
 let x0:=ax pd0 sn1
 let x1:=aa x0 1
 let x2:=Q [.agg [.int (ah (aa x1 0)),.int (ah (aa x1 1)),.int (ah (aa x1 2)),aa x1 3,aa x1 4]]
 bif ae .lss sn1 pn1 then gd (aS pd0 sn1)<|gd (ao x2)<|ge pd0<|ge (.int pn1)<|some (Sum.inl [.int (qmm .gtr sn0 (aM .add .i64 (ah (aa x0 0)) (ah (ab x2 0)))),.int (aM .add .i64 sn1 1)])else ge pd0<|ge (.int pn1)<|some (Sum.inr [.int 0,.int sn0]):=by kernel_rfl
def tY:=by have h:= @M4;simp only[aE,gd,aj,ai,ak,au,ar,aD,ap]at h;exact h
def Fg (Q:uAC):List D->uAC:=veil fun p s=>loW (p6 Q p) s
theorem ze (Q:uAC):Fg Q=fun p s=>loW (p6 Q p) s:=am _
def rX (Q:uAC):Tb:=Tb.addL (M3 Q) 259 12 S259_12.n0 (bL S259_12 (Fg Q))
theorem Fh (Q:uAC) (hQ:aH env.P 259 TC Q):TbOk env (rX Q):=aG (TD Q hQ) 259 12 (by kernel_rfl) _ (ze Q)
def XP (Q:uAC):uAC:=aN env (rX Q) 60 12 259 TC
theorem Fb259_e (Q:uAC) (sd0:D):XP Q [sd0] =
 let x0:=ah (aa sd0 0)
 let x1:=ae .eql x0 1
 let x2:=Q [ax (aa sd0 3) 0]
 let x3:=D.int 0
 let x4:=Fg Q [aa sd0 4,.int (ac (aa sd0 4))] [x3,x3]
 bif az x1 x1 (ae .eql x0 2)then some [.int (qmm .lss (ah (aa sd0 1)) 65537)]else bif ae .eql x0 3 then some [.int 4]else bif ae .eql x0 4 then gd (aS (aa sd0 3) 0)<|gd (ao x2)<|some [.int (qmm .lss (aM .mul .i64 (ah (aa sd0 2)) (ah (ab x2 0))) 65537)]else bif ae .eql x0 5 then gd (ao x4)<|some [.int (qmm .lss (ah (ab x4 1)) 65537)]else some [x3]:=by kernel_rfl
def XQ:=by have h:= @Fb259_e;simp only[aE,gd,aj,ai,ak,au,ar,aD,ap]at h;exact h
def I8:Nat->uAC:=levels XP
theorem F259_s (n:Nat):I8 (n+1)=XP (I8 n):=rfl
def XR:uAC:=veil fun ds=>I8 (aW ds) ds
theorem Qx:XR=fun ds=>I8 (aW ds) ds:=am _
theorem XS:aH env.P 259 TC XR:=gj (fun q=>rX q) (fun q hq=>Fh q hq) Qx
def XT:Tb:=Tb.addF XO 259 TC XR
theorem I9:TbOk env XT:=TbOk.addF I7 (by kernel_rfl) XS
def TE:FunS:=⟨[utD 63],[],[utB],[]⟩
def M5 (Q:uAC):Tb:=Tb.addF XT 239 TE Q
theorem TG (Q:uAC) (hQ:aH env.P 239 TE Q):TbOk env (M5 Q):=TbOk.addF I9 (by kernel_rfl) hQ
def S239_4:LoopS:=⟨0,uF::ufP 0 0::ufS (.lit (.bool false))::uAA 12 (ufR 267::ufI::utI::uAA 19 []),[(.dat false 63)],[⟨0,0,uT::utP 0 0::utS (.lit (.bool false))::uAB 12 (ufR 267::ufI::uAB 20 []),[(.dat false 63)]⟩,⟨1,0,uT::uT::utS (.lit (.bool false))::uAB 12 (ufR 267::ufI::uAB 20 []),[(.dat false 63)]⟩]⟩
def p7 (Q:uAC) (p s:List D):Option (Sum (List D) (List D)):=aO env (M5 Q) 60 12 239 (bc 239 4) S239_4 p s
theorem TH (Q:uAC) (pd0:D) (pn1:Int) (pd2:D) (sn0:Int):p7 Q [pd0,(D.int pn1),pd2] [(D.int sn0)] =
 let x0:=aa (ax pd0 sn0) 1
 let x1:=Q [.agg [.int (ah (aa x0 0)),.int (ah (aa x0 1)),.int (ah (aa x0 2)),aa x0 3,aa x0 4]]
 let x2:=D.int pn1
 bif ae .lss sn0 pn1 then gd (aS pd0 sn0)<|gd (ao x1)<|bif b8 (aT (ab x1 0))then ge pd0<|ge x2<|ge pd2<|some (Sum.inr [.int 1])else ge pd0<|ge x2<|ge pd2<|some (Sum.inl [.int (aM .add .i64 sn0 1)])else ge pd0<|ge x2<|ge pd2<|some (Sum.inr [.int 0]):=by kernel_rfl
def M6:=by have h:= @TH;simp only[aE,gd,aj,ai,ak,au,ar,aD,ap]at h;exact h
def M7 (Q:uAC):List D->uAC:=veil fun p s=>loW (p7 Q p) s
theorem CR (Q:uAC):M7 Q=fun p s=>loW (p7 Q p) s:=am _
def zf (Q:uAC):Tb:=Tb.addL (M5 Q) 239 4 S239_4.n0 (bL S239_4 (M7 Q))
theorem Ja (Q:uAC) (hQ:aH env.P 239 TE Q):TbOk env (zf Q):=aG (TG Q hQ) 239 4 (by kernel_rfl) _ (CR Q)
def XU (Q:uAC):uAC:=aN env (zf Q) 60 12 239 TE
theorem Fb239_e (Q:uAC) (sd0:D):XU Q [sd0] =
 let x0:=ae .gtr (ac (aa sd0 4)) 64
 let x1:=XR [sd0]
 let x2:Option (List D):=some [.bool false]
 let x3:=M7 Q [aa sd0 4,.int (ac (aa sd0 4)),sd0] [.int 0]
 let x4:=aa sd0 3
 let x5:=ae .eql (ac x4) 0
 let x6:=Q [ax x4 0]
 gd (az x0 true (ao x1))<|bif az x0 true (ae .gtr (ah (ab x1 0)) 65536)then x2 else gd (ao x3)<|bif ae .eql (ah (ab x3 0)) 0 then gd (az x5 true (cz (aS x4 0) (ao x6)))<|some [.bool (az x5 true (aT (ab x6 0)))]else x2:=by kernel_rfl
def XV:=by have h:= @Fb239_e;simp only[aE,gd,aj,ai,ak,au,ar,aD,ap]at h;exact h
def rY:Nat->uAC:=levels XU
theorem F239_s (n:Nat):rY (n+1)=XU (rY n):=rfl
def q239:uAC:=veil fun ds=>rY (aW ds) ds
theorem Qy:q239=fun ds=>rY (aW ds) ds:=am _
theorem XW:aH env.P 239 TE q239:=gj (fun q=>zf q) (fun q hq=>Ja q hq) Qy
def XX:Tb:=Tb.addF XT 239 TE q239
theorem XY:TbOk env XX:=TbOk.addF I9 (by kernel_rfl) XW
def S219:FunS:=⟨[utD 63],[],[utI],[]⟩
def F219:uAC:=aN env XX 60 12 219 S219
theorem F219_e (sd0:D):F219 [sd0] =
 let x0:=q237 [sd0,.int 64]
 let x1:=q238 [sd0]
 let x2:=q239 [sd0]
 gd (ao x0)<|bif b8 (aT (ab x0 0))then some [.int 20]else gd (ao x1)<|bif b8 (aT (ab x1 0))then some [.int 2]else gd (ao x2)<|bif b8 (aT (ab x2 0))then some [.int 6]else some [.int 0]:=by kernel_rfl
def F219_eq:=by have h:= @F219_e;simp only[aE,gd,aj,ai,ak,au,ar,aD,ap]at h;exact h
def XZ:uAC:=veil (F219)
theorem Qz:XZ=F219:=am _
def X0:Tb:=Tb.addF XX 219 S219 (XZ)
theorem Jb:TbOk env (X0):=aI XY 219 (by kernel_rfl) _ (Qz)
def M8:FunS:=⟨[utD 63,utI],[],[utB],[]⟩
def M9 (Q:uAC):Tb:=Tb.addF X0 245 M8 Q
theorem TI (Q:uAC) (hQ:aH env.P 245 M8 Q):TbOk env (M9 Q):=TbOk.addF Jb (by kernel_rfl) hQ
def S245_4:LoopS:=⟨0,uF::ufI::ufP 0 0::uF::ufS (.lit (.bool false))::utI::uAA 34 [],[(.dat false 63)],[⟨0,0,uT::ufI::utP 0 0::uT::utS (.lit (.bool false))::uAB 35 [],[(.dat false 63)]⟩,⟨1,0,uT::ufI::uT::uT::utS (.lit (.bool true))::uAB 35 [],[(.dat false 63)]⟩]⟩
def vn (Q:uAC) (p s:List D):Option (Sum (List D) (List D)):=aO env (M9 Q) 60 12 245 (bc 245 4) S245_4 p s
theorem TJ (Q:uAC) (pn0:Int) (pd1:D) (sn0:Int):vn Q [(D.int pn0),pd1] [(D.int sn0)] =
 let x0:=aa pd1 3
 let x1:=Q [ax x0 sn0,.int (aM .sub .i64 pn0 1)]
 let x2:=D.int pn0
 bif ae .lss sn0 (ac x0)then gd (aS x0 sn0)<|gd (ao x1)<|bif aT (ab x1 0)then ge x2<|ge pd1<|some (Sum.inr [.int 1])else ge x2<|ge pd1<|some (Sum.inl [.int (aM .add .i64 sn0 1)])else ge x2<|ge pd1<|some (Sum.inr [.int 0]):=by kernel_rfl
def Na:=by have h:= @TJ;simp only[aE,gd,aj,ai,ak,au,ar,aD,ap]at h;exact h
def Nb (Q:uAC):List D->uAC:=veil fun p s=>loW (vn Q p) s
theorem CS (Q:uAC):Nb Q=fun p s=>loW (vn Q p) s:=am _
def zg (Q:uAC):Tb:=Tb.addL (M9 Q) 245 4 S245_4.n0 (bL S245_4 (Nb Q))
theorem Jc (Q:uAC) (hQ:aH env.P 245 M8 Q):TbOk env (zg Q):=aG (TI Q hQ) 245 4 (by kernel_rfl) _ (CS Q)
def S245_9:LoopS:=⟨0,uF::ufI::ufP 0 0::uF::ufS (.lit (.bool false))::uF::utI::uAA 33 [],[(.dat false 63)],[⟨0,2,uT::ufI::uT::uT::utS (.lit (.bool false))::uAB 35 [],[(.dat false 63)]⟩,⟨1,0,uT::ufI::uT::uT::utS (.lit (.bool true))::uAB 35 [],[(.dat false 63)]⟩]⟩
def vo (Q:uAC) (p s:List D):Option (Sum (List D) (List D)):=aO env (zg Q) 60 12 245 (bc 245 9) S245_9 p s
theorem TK (Q:uAC) (pn0:Int) (pd1:D) (sn0:Int):vo Q [(D.int pn0),pd1] [(D.int sn0)] =
 let x0:=aa pd1 4
 let x1:=aa (ax x0 sn0) 1
 let x2:=Q [.agg [.int (ah (aa x1 0)),.int (ah (aa x1 1)),.int (ah (aa x1 2)),aa x1 3,aa x1 4],.int (aM .sub .i64 pn0 1)]
 let x3:=D.int pn0
 bif ae .lss sn0 (ac x0)then gd (aS x0 sn0)<|gd (ao x2)<|bif aT (ab x2 0)then ge x3<|ge pd1<|some (Sum.inr [.int 1])else ge x3<|ge pd1<|some (Sum.inl [.int (aM .add .i64 sn0 1)])else ge x3<|ge pd1<|some (Sum.inr [.int 0]):=by kernel_rfl
def Nc:=by have h:= @TK;simp only[aE,gd,aj,ai,ak,au,ar,aD,ap]at h;exact h
def Nd (Q:uAC):List D->uAC:=veil fun p s=>loW (vo Q p) s
theorem CT (Q:uAC):Nd Q=fun p s=>loW (vo Q p) s:=am _
def zh (Q:uAC):Tb:=Tb.addL (zg Q) 245 9 S245_9.n0 (bL S245_9 (Nd Q))
theorem Jd (Q:uAC) (hQ:aH env.P 245 M8 Q):TbOk env (zh Q):=aG (Jc Q hQ) 245 9 (by kernel_rfl) _ (CT Q)
def X1 (Q:uAC):uAC:=aN env (zh Q) 60 12 245 M8
theorem Fb245_e (Q:uAC) (sd0:D) (sn1:Int):X1 Q [sd0,(D.int sn1)] =
 let x0:Option (List D):=some [.bool true]
 let x1:List D:=[.int sn1,sd0]
 let x2:=Nb Q x1 [.int 0]
 let x3:=Nd Q x1 [.int 0]
 bif ae .lss sn1 1 then x0 else gd (ao x2)<|bif ae .eql (ah (ab x2 0)) 0 then gd (ao x3)<|bif ae .eql (ah (ab x3 0)) 0 then some [.bool false]else x0 else x0:=by kernel_rfl
def X2:=by have h:= @Fb245_e;simp only[aE,gd,aj,ai,ak,au,ar,aD,ap]at h;exact h
def Fi:Nat->uAC:=levels X1
theorem F245_s (n:Nat):Fi (n+1)=X1 (Fi n):=rfl
def q245:uAC:=veil fun ds=>Fi (aW ds) ds
theorem QA:q245=fun ds=>Fi (aW ds) ds:=am _
theorem X3:aH env.P 245 M8 q245:=gj (fun q=>zh q) (fun q hq=>Jd q hq) QA
def X4:Tb:=Tb.addF X0 245 M8 q245
theorem Je:TbOk env X4:=TbOk.addF Jb (by kernel_rfl) X3
def Nf:FunS:=⟨[utD 63],[],[utB],[]⟩
def Ng (Q:uAC):Tb:=Tb.addF X4 246 Nf Q
theorem TL (Q:uAC) (hQ:aH env.P 246 Nf Q):TbOk env (Ng Q):=TbOk.addF Je (by kernel_rfl) hQ
def S262_2:LoopS:=⟨0,ufR 267::uF::ufS (.lit (.bool false))::utI::uAA 47 [],[],[⟨0,0,ufR 267::uT::utS (.lit (.bool false))::uAB 48 [],[]⟩,⟨1,0,ufR 267::uT::utS (.lit (.bool false))::uAB 48 [],[]⟩]⟩
def vp (Q:uAC) (p s:List D):Option (Sum (List D) (List D)):=aO env (Ng Q) 60 12 262 (bc 262 2) S262_2 p s
theorem TM (Q:uAC) (pd0:D) (sn0:Int):vp Q [pd0] [(D.int sn0)] =
 let x0:=aS pd0 sn0
 let x1:=ax pd0 sn0
 let x2:=ah (aa x1 0)
 let x3:Option (List D ⊕ List D):=ge pd0<|some (Sum.inr [.int 1])
 let x4:=aM .sub .i64 sn0 1
 let x5:=aa x1 1
 let x6:=Q [.agg [.int (ah (aa x5 0)),.int (ah (aa x5 1)),.int (ah (aa x5 2)),aa x5 3,aa x5 4]]
 let x7:Option (List D ⊕ List D):=gd x0<|gd (ao x6)<|bif b8 (aT (ab x6 0))then x3 else ge pd0<|some (Sum.inl [.int (aM .add .i64 sn0 1)])
 bif ae .lss sn0 (ac pd0)then gd x0<|bif ae .lss x2 0 then x3 else gd x0<|bif ae .geq x2 65536 then x3 else bif ae .gtr sn0 0 then gd x0<|gd (aS pd0 x4)<|bif ae .leq x2 (ah (aa (ax pd0 x4) 0))then x3 else x7 else x7 else ge pd0<|some (Sum.inr [.int 0]):=by kernel_rfl
def zi:=by have h:= @TM;simp only[aE,gd,aj,ai,ak,au,ar,aD,ap]at h;exact h
def Fj (Q:uAC):List D->uAC:=veil fun p s=>loW (vp Q p) s
theorem CU (Q:uAC):Fj Q=fun p s=>loW (vp Q p) s:=am _
def zj (Q:uAC):Tb:=Tb.addL (Ng Q) 262 2 S262_2.n0 (bL S262_2 (Fj Q))
theorem Jf (Q:uAC) (hQ:aH env.P 246 Nf Q):TbOk env (zj Q):=aG (TL Q hQ) 262 2 (by kernel_rfl) _ (CU Q)
def S262:FunS:=⟨[utR 267],[],[utB],[]⟩
def F262 (Q:uAC):uAC:=aN env (zj Q) 60 12 262 S262
theorem F262_eq (Q:uAC) (sd0:D):F262 Q [sd0] =
 bif (ao (Fj Q [sd0] [(D.int 0)]))then
  bif (ae BinOp.eql (ah (ab (Fj Q [sd0] [(D.int 0)]) 0)) 0)then
   some [(D.bool Bool.true)]
  else
   some [(D.bool Bool.false)]
 else
  none:=by kernel_rfl
def q262 (Q:uAC):uAC:=veil (F262 Q)
theorem QB (Q:uAC):q262 Q=F262 Q:=am _
def X5 (Q:uAC):Tb:=Tb.addF (zj Q) 262 S262 (q262 Q)
theorem X6 (Q:uAC) (hQ:aH env.P 246 Nf Q):TbOk env (X5 Q):=aI (Jf Q hQ) 262 (by kernel_rfl) _ (QB Q)
def X7 (Q:uAC):uAC:=aN env (X5 Q) 60 12 246 Nf
theorem Fb246_e (Q:uAC) (sd0:D):X7 Q [sd0] =
 let x0:=ah (aa sd0 0)
 let x1:=ae .eql x0 0
 let x2:=ah (aa sd0 2)
 let x3:=ae .eql x2 0
 let x4:=aa sd0 3
 let x5:=ae .eql (ac x4) 0
 let x6:=ae .eql (ac (aa sd0 4)) 0
 let x7:=az (az x3 x5 false) x6 false
 let x8:=ah (aa sd0 1)
 let x9:=ae .eql x8 0
 let x10:=ae .eql x0 1
 let x11:=az x9 x3 false
 let x12:=ae .eql (ac x4) 1
 let x13:=az (az x11 x6 false) x12 false
 let x14:=Q [ax x4 0]
 let x15:=cz (aS x4 0) (ao x14)
 let x16:=aT (ab x14 0)
 let x17:=az (az (az (az x9 (ae .geq x2 1) false) (ae .leq x2 65536) false) x6 false) x12 false
 let x18:=az x11 x5 false
 let x19:=q262 Q [aa sd0 4]
 bif az x1 x1 (ae .eql x0 6)then some [.bool (az x7 x9 false)]else bif az x10 x10 (ae .eql x0 2)then some [.bool (az x7 (az (az (ae .eql x8 1) true (ae .eql x8 2)) true (ae .eql x8 4)) false)]else bif ae .eql x0 3 then gd (az x13 x15 true)<|some [.bool (az x13 x16 false)]else bif ae .eql x0 4 then gd (az x17 x15 true)<|some [.bool (az x17 x16 false)]else bif ae .eql x0 5 then gd (az x18 (ao x19) true)<|some [.bool (az x18 (aT (ab x19 0)) false)]else some [.bool false]:=by kernel_rfl
def X8:=by have h:= @Fb246_e;simp only[aE,gd,aj,ai,ak,au,ar,aD,ap]at h;exact h
def Jg:Nat->uAC:=levels X7
theorem F246_s (n:Nat):Jg (n+1)=X7 (Jg n):=rfl
def q246:uAC:=veil fun ds=>Jg (aW ds) ds
theorem QC:q246=fun ds=>Jg (aW ds) ds:=am _
theorem X9:aH env.P 246 Nf q246:=gj (fun q=>X5 q) (fun q hq=>X6 q hq) QC
def Ya:Tb:=Tb.addF X4 246 Nf q246
theorem Jh:TbOk env Ya:=TbOk.addF Je (by kernel_rfl) X9
def TN:FunS:=⟨[utD 63],[],[utI],[]⟩
def Nh (Q:uAC):Tb:=Tb.addF Ya 263 TN Q
theorem TO (Q:uAC) (hQ:aH env.P 263 TN Q):TbOk env (Nh Q):=TbOk.addF Jh (by kernel_rfl) hQ
def S263_12:LoopS:=⟨0,uF::ufP 0 0::ufZ::utI::utI::uAA 46 [],[(.dat false 63)],[⟨0,1,uT::uT::utZ::utI::uAB 47 [],[(.dat false 63)]⟩]⟩
def kJ (Q:uAC) (p s:List D):Option (Sum (List D) (List D)):=aO env (Nh Q) 60 12 263 (bc 263 12) S263_12 p s
theorem Ni (Q:uAC) (pd0:D) (sn0:Int) (sn1:Int):kJ Q [pd0] [(D.int sn0),(D.int sn1)] =
 let x0:=aa pd0 4
 let x1:=aS x0 sn1
 let x2:=ax x0 sn1
 let x3:=aa x2 1
 let x4:=Q [.agg [.int (ah (aa x3 0)),.int (ah (aa x3 1)),.int (ah (aa x3 2)),aa x3 3,aa x3 4]]
 bif ae .lss sn1 (ac x0)then gd x1<|gd x1<|gd (ao x4)<|ge pd0<|some (Sum.inl [.int (qmm .gtr sn0 (aM .add .i64 (ah (aa x2 0)) (ah (ab x4 0)))),.int (aM .add .i64 sn1 1)])else ge pd0<|some (Sum.inr [.int 0,.int sn0]):=by kernel_rfl
def mO:=by have h:= @Ni;simp only[aE,gd,aj,ai,ak,au,ar,aD,ap]at h;exact h
def Fk (Q:uAC):List D->uAC:=veil fun p s=>loW (kJ Q p) s
theorem oG (Q:uAC):Fk Q=fun p s=>loW (kJ Q p) s:=am _
def rZ (Q:uAC):Tb:=Tb.addL (Nh Q) 263 12 S263_12.n0 (bL S263_12 (Fk Q))
theorem Fl (Q:uAC) (hQ:aH env.P 263 TN Q):TbOk env (rZ Q):=aG (TO Q hQ) 263 12 (by kernel_rfl) _ (oG Q)
def Yb (Q:uAC):uAC:=aN env (rZ Q) 60 12 263 TN
theorem Fb263_e (Q:uAC) (sd0:D):Yb Q [sd0] =
 let x0:=ah (aa sd0 0)
 let x1:=ae .eql x0 1
 let x2:=Q [ax (aa sd0 3) 0]
 let x3:=D.int 0
 let x4:=Fk Q [sd0] [x3,x3]
 bif az x1 x1 (ae .eql x0 2)then some [.int (qmm .lss (ah (aa sd0 1)) 65537)]else bif ae .eql x0 3 then some [.int 4]else bif ae .eql x0 4 then gd (aS (aa sd0 3) 0)<|gd (ao x2)<|some [.int (qmm .lss (aM .mul .i64 (ah (aa sd0 2)) (ah (ab x2 0))) 65537)]else bif ae .eql x0 5 then gd (ao x4)<|some [.int (qmm .lss (ah (ab x4 1)) 65537)]else some [x3]:=by kernel_rfl
def Ji:=by have h:= @Fb263_e;simp only[aE,gd,aj,ai,ak,au,ar,aD,ap]at h;exact h
def BT:Nat->uAC:=levels Yb
theorem Yc (n:Nat):BT (n+1)=Yb (BT n):=rfl
def Nj:uAC:=veil fun ds=>BT (aW ds) ds
theorem Fm:Nj=fun ds=>BT (aW ds) ds:=am _
theorem Yd:aH env.P 263 TN Nj:=gj (fun q=>rZ q) (fun q hq=>Fl q hq) Fm
def Ye:Tb:=Tb.addF Ya 263 TN Nj
theorem Jj:TbOk env Ye:=TbOk.addF Jh (by kernel_rfl) Yd
def Nk:FunS:=⟨[utD 63],[],[utB],[]⟩
def Nl (Q:uAC):Tb:=Tb.addF Ye 247 Nk Q
theorem TP (Q:uAC) (hQ:aH env.P 247 Nk Q):TbOk env (Nl Q):=TbOk.addF Jj (by kernel_rfl) hQ
def S247_4:LoopS:=⟨0,uF::ufP 0 0::ufS (.lit (.bool false))::utI::uAA 37 [],[(.dat false 63)],[⟨0,0,uT::utP 0 0::utS (.lit (.bool false))::uAB 38 [],[(.dat false 63)]⟩,⟨1,0,uT::uT::utS (.lit (.bool true))::uAB 38 [],[(.dat false 63)]⟩]⟩
def p8 (Q:uAC) (p s:List D):Option (Sum (List D) (List D)):=aO env (Nl Q) 60 12 247 (bc 247 4) S247_4 p s
theorem TQ (Q:uAC) (pd0:D) (sn0:Int):p8 Q [pd0] [(D.int sn0)] =
 let x0:=aa pd0 3
 let x1:=Q [ax x0 sn0]
 bif ae .lss sn0 (ac x0)then gd (aS x0 sn0)<|gd (ao x1)<|bif aT (ab x1 0)then ge pd0<|some (Sum.inr [.int 1])else ge pd0<|some (Sum.inl [.int (aM .add .i64 sn0 1)])else ge pd0<|some (Sum.inr [.int 0]):=by kernel_rfl
def Nm:=by have h:= @TQ;simp only[aE,gd,aj,ai,ak,au,ar,aD,ap]at h;exact h
def Nn (Q:uAC):List D->uAC:=veil fun p s=>loW (p8 Q p) s
theorem CV (Q:uAC):Nn Q=fun p s=>loW (p8 Q p) s:=am _
def zk (Q:uAC):Tb:=Tb.addL (Nl Q) 247 4 S247_4.n0 (bL S247_4 (Nn Q))
theorem Jk (Q:uAC) (hQ:aH env.P 247 Nk Q):TbOk env (zk Q):=aG (TP Q hQ) 247 4 (by kernel_rfl) _ (CV Q)
def S247_9:LoopS:=⟨0,uF::ufP 0 0::ufS (.lit (.bool false))::uF::utI::uAA 36 [],[(.dat false 63)],[⟨0,2,uT::uT::utS (.lit (.bool false))::uAB 38 [],[(.dat false 63)]⟩,⟨1,0,uT::uT::utS (.lit (.bool true))::uAB 38 [],[(.dat false 63)]⟩]⟩
def p9 (Q:uAC) (p s:List D):Option (Sum (List D) (List D)):=aO env (zk Q) 60 12 247 (bc 247 9) S247_9 p s
theorem TR (Q:uAC) (pd0:D) (sn0:Int):p9 Q [pd0] [(D.int sn0)] =
 let x0:=aa pd0 4
 let x1:=aa (ax x0 sn0) 1
 let x2:=Q [.agg [.int (ah (aa x1 0)),.int (ah (aa x1 1)),.int (ah (aa x1 2)),aa x1 3,aa x1 4]]
 bif ae .lss sn0 (ac x0)then gd (aS x0 sn0)<|gd (ao x2)<|bif aT (ab x2 0)then ge pd0<|some (Sum.inr [.int 1])else ge pd0<|some (Sum.inl [.int (aM .add .i64 sn0 1)])else ge pd0<|some (Sum.inr [.int 0]):=by kernel_rfl
def No:=by have h:= @TR;simp only[aE,gd,aj,ai,ak,au,ar,aD,ap]at h;exact h
def Np (Q:uAC):List D->uAC:=veil fun p s=>loW (p9 Q p) s
theorem CW (Q:uAC):Np Q=fun p s=>loW (p9 Q p) s:=am _
def zl (Q:uAC):Tb:=Tb.addL (zk Q) 247 9 S247_9.n0 (bL S247_9 (Np Q))
theorem Jl (Q:uAC) (hQ:aH env.P 247 Nk Q):TbOk env (zl Q):=aG (Jk Q hQ) 247 9 (by kernel_rfl) _ (CW Q)
def Yf (Q:uAC):uAC:=aN env (zl Q) 60 12 247 Nk
theorem Fb247_e (Q:uAC) (sd0:D):Yf Q [sd0] =
 let x0:=Nj [sd0]
 let x1:Option (List D):=some [.bool true]
 let x2:=Nn Q [sd0] [.int 0]
 let x3:=Np Q [sd0] [.int 0]
 gd (ao x0)<|bif az (ae .gtr (ah (ab x0 0)) 65536) true (ae .gtr (ac (aa sd0 4)) 64)then x1 else gd (ao x2)<|bif ae .eql (ah (ab x2 0)) 0 then gd (ao x3)<|bif ae .eql (ah (ab x3 0)) 0 then some [.bool false]else x1 else x1:=by kernel_rfl
def Yg:=by have h:= @Fb247_e;simp only[aE,gd,aj,ai,ak,au,ar,aD,ap]at h;exact h
def r6:Nat->uAC:=levels Yf
theorem F247_s (n:Nat):r6 (n+1)=Yf (r6 n):=rfl
def q247:uAC:=veil fun ds=>r6 (aW ds) ds
theorem QD:q247=fun ds=>r6 (aW ds) ds:=am _
theorem Yh:aH env.P 247 Nk q247:=gj (fun q=>zl q) (fun q hq=>Jl q hq) QD
def Yi:Tb:=Tb.addF Ye 247 Nk q247
theorem Yj:TbOk env Yi:=TbOk.addF Jj (by kernel_rfl) Yh
def S226:FunS:=⟨[utD 63],[],[utI],[]⟩
def F226:uAC:=aN env Yi 60 12 226 S226
theorem F226_e (sd0:D):F226 [sd0] =
 let x0:=q245 [sd0,.int 64]
 let x1:=q246 [sd0]
 let x2:=q247 [sd0]
 gd (ao x0)<|bif aT (ab x0 0)then some [.int 20]else gd (ao x1)<|bif b8 (aT (ab x1 0))then some [.int 2]else gd (ao x2)<|bif aT (ab x2 0)then some [.int 6]else some [.int 0]:=by kernel_rfl
def F226_eq:=by have h:= @F226_e;simp only[aE,gd,aj,ai,ak,au,ar,aD,ap]at h;exact h
def Nq:uAC:=veil (F226)
theorem QE:Nq=F226:=am _
def Yk:Tb:=Tb.addF Yi 226 S226 (Nq)
theorem Yl:TbOk env (Yk):=aI Yj 226 (by kernel_rfl) _ (QE)
end
end Go.Proofs.YtiojjmlccehpoaaGreat
