/-
  The abstract heap behind a call that lays blocks and turns none of the old.
-/
import Derived.Test.YtfdedgmlafelaaaGreatDoorAmS
import Derived.Test.YtfdedgmlafelaaaGreatDoorM5
import Derived.Test.YtfdedgmlafelaaaGreatDoorSp
import Derived.Test.YtfdedgmlafelaaaGreatDoorM2
import Derived.KernelRfl
import Derived.Test.YtfdedgmlafelaaaGreatDoorM1
set_option linter.defProp false
set_option linter.unusedSimpArgs false
set_option linter.unusedVariables false
set_option maxRecDepth 100000
namespace Go.AM
section
variable {lo:Nat->Prop} {w0:World} {ρ:Nat->Option Nat} {E:Nat->Prop} {H:Hp} {w:World}
theorem Inv.grown {w':World} (inv:Inv lo w0 ρ E H w) (hold:∀b,b<w.heap.size->w'.heap[b]? = w.heap[b]?) (hsz:w.heap.size≤w'.heap.size) (hio:SameIO w w'):Inv lo w0 ρ E H w'∧Ext ρ E w ρ E w':=by
 have ext:Ext ρ E w ρ E w':=Ext.grow (fun _ _ h=>h) (fun _ h=>h) (fun i b hb=>(inv.bd i b hb).2) inv.ebd hold hsz
 exact⟨{len:=inv.len,dom:=inv.dom,blk:=fun i k b hk hb=>(inv.blk i k b hk hb).mono ext (hold b (inv.bd i b hb).2),inj:=inv.inj,notE:=inv.notE,
        bd:=fun i b hb=>⟨(inv.bd i b hb).1,Nat.lt_of_lt_of_le (inv.bd i b hb).2 hsz⟩,ebd:=fun b hb=>Nat.lt_of_lt_of_le (inv.ebd b hb) hsz,lole:=fun b hb=>Nat.lt_of_lt_of_le (inv.lole b hb) hsz,
        old:=fun b hb=>(hold b (inv.lole b hb)).trans (inv.old b hb),io:=inv.io.trans hio,gl:=cr rfl ext inv.gl},ext⟩
theorem Inv.pushAt {w':World} (inv:Inv lo w0 ρ E H w) (hold:∀b,b<w.heap.size->w'.heap[b]? = w.heap[b]?) (hsz:w.heap.size≤w'.heap.size) (hio:SameIO w w') (g:Nat) (hg:w.heap.size≤g) (hg':g<w'.heap.size) (k:Blk)
 (hk:∀ρ',Ext ρ E w ρ' E w'->BlkRep ρ' E w' k g):
 Inv lo w0 (upd ρ H.n g) E (H.push k) w'∧Ext ρ E w (upd ρ H.n g) E w':=by
 have hmap:∀i b,ρ i=some b->upd ρ H.n g i=some b:=fun i b hb=>by
  have:=inv.dom i b hb;simp only[upd];rw[if_neg (by omega)];exact hb
 have ext:Ext ρ E w (upd ρ H.n g) E w':=Ext.grow hmap (fun _ h=>h) (fun i b hb=>(inv.bd i b hb).2) inv.ebd hold hsz
 have hcase:∀i b,upd ρ H.n g i=some b->(i=H.n∧b=g)∨(i<H.n∧ρ i=some b):=fun i b hb=>by
  simp only[upd]at hb;split at hb
  ·rename_i hi;exact .inl ⟨hi,by simpa using hb.symm⟩
  ·exact .inr ⟨inv.dom i b hb,hb⟩
 refine⟨{len:=Hp.push_len k inv.len,dom:= ?_,blk:= ?_,inj:= ?_,notE:= ?_,bd:= ?_,ebd:= ?_,lole:= ?_,old:= ?_,io:=inv.io.trans hio,gl:=cr rfl ext inv.gl},ext⟩
 ·intro i b hb
  show i<H.n+1
  rcases hcase i b hb with⟨h,_⟩|⟨h,_⟩<;>omega
 ·intro i k' b hk' hb;rcases hcase i b hb with⟨rfl,rfl⟩|⟨hi,hb'⟩
  ·rw[Hp.get_push_eq k]at hk';cases hk';exact hk _ ext
  ·rw[Hp.get_push_lt k hi]at hk';exact(inv.blk i k' b hk' hb').mono ext (hold b (inv.bd i b hb').2)
 ·intro i j k1 k2 b h1 h2 hb1 hb2;rcases hcase i b hb1 with⟨rfl,rfl⟩|⟨hi,hb1'⟩<;>rcases hcase j _ hb2 with⟨rfl,e⟩|⟨hj,hb2'⟩
  ·rfl
  ·have:=(inv.bd j _ hb2').2;omega
  ·have:=(inv.bd i _ hb1').2;omega
  ·rw[Hp.get_push_lt k hi]at h1;rw[Hp.get_push_lt k hj]at h2;exact inv.inj i j k1 k2 b h1 h2 hb1' hb2'
 ·intro i k1 b h1 hb1 he;rcases hcase i b hb1 with⟨rfl,rfl⟩|⟨hi,hb1'⟩
  ·have:=inv.ebd _ he;omega
  ·rw[Hp.get_push_lt k hi]at h1;exact inv.notE i k1 b h1 hb1' he
 ·intro i b hb;rcases hcase i b hb with⟨rfl,rfl⟩|⟨hi,hb'⟩
  ·exact⟨fun h=>by have:=inv.lole _ h;omega,hg'⟩
  ·have:=inv.bd i b hb';exact⟨this.1,by omega⟩
 ·intro b hb;have:=inv.ebd b hb;omega
 ·intro b hb;have:=inv.lole b hb;omega
 ·intro b hb;rw[hold b (inv.lole b hb)];exact inv.old b hb
end
end Go.AM
namespace Go.Proofs.YtfdedgmlafelaaaGreatDoor
noncomputable section
open Go Go.AM Go.RowKit Go.Proofs.YtfdedgmlafelaaaGreatDoor.Sr
theorem cells69 (x:D):bn rowDepth 69 x = [.ui .i64 (ah (aa x 0)), .ui .i64 (ah (aa x 1)), .ui .i64 (ah (aa x 2)), .ui .i64 (ah (aa x 3)), .ub (aJ (aa x 4))]:=by kernel_rfl
theorem lay69:layOk PG rowDepth 69=true:=by kernel_rfl
theorem rM:PG.cellsOf 69=5:=by kernel_rfl
theorem valA69 (x:D):gw 69 x = .dat 69 x:=by kernel_rfl
def slD (x:D):Sl:=⟨ah (aa x 0),ah (aa x 1),ah (aa x 2),ah (aa x 3),aJ (aa x 4)⟩
def sDl (s:Sl):D:= .agg [.int s.a, .int s.b, .int s.c, .int s.d, .bool s.e]
theorem val_of {ρ:Nat->Option Nat} {E:Nat->Prop} {w:World} {x:D} {v:Value} (h:Rep ρ E w (.dat 69 x) v):v = .agg (encS (slD x)).toArray:=by
 simp only[Rep]at h;obtain⟨xs,rfl,_,hr⟩:=h;have:=cB (ρ:=bj) rowDepth 69 x xs.toList lay69 hr;rw[cells69]at this;simp only[RepL,Rep]at this;obtain⟨_,_,h1,rfl,_,_,rfl,rfl,_,_,rfl,rfl,_,_,rfl,rfl,_,_,rfl,rfl,rfl⟩:=this;exact congrArg Value.agg (Array.toList_inj.1 h1)
theorem pgS:PG=Tryz.prog:=by unfold PG;rfl
theorem size3c:PG.cellsOf 3=1:=by kernel_rfl
theorem size4c:PG.cellsOf 4=1:=by kernel_rfl
theorem TQ {E:Nat->Prop} {w:World} (s:Sl):RepD PG E w 69 (sDl s) (encS s):=by
 have hc:=rM;have h3:=size3c;have h4:=size4c;rw[pgS]at hc h3 h4 ⊢;refine RepD.struct Tryz.underlying69 (by rw[hc];rfl) fun j f hj=> ?_
 rcases j with _|_|_|_|_|j
 all_goals simp only[List.getElem?_cons_zero,List.getElem?_cons_succ,Option.some.injEq]at hj
 ·subst hj;rw[h3];exact .int Tryz.underlying3
 ·subst hj;rw[h3];exact .int Tryz.underlying3
 ·subst hj;rw[h3];exact .int Tryz.underlying3
 ·subst hj;rw[h3];exact .int Tryz.underlying3
 ·subst hj;rw[h4];exact .bool Tryz.underlying4
 ·simp at hj
def nY (d:D):List Sl:=d.toList.map fun x=>slD (x.fld 1)
def vI:Value->Int
 | .int _ n=>n
 |_=>0
def vB:Value->Bool
 | .bool b=>b
 |_=>false
def slV:Value->Sl
 | .agg cs=>⟨(cs[0]?).elim 0 vI,(cs[1]?).elim 0 vI,(cs[2]?).elim 0 vI,(cs[3]?).elim 0 vI,(cs[4]?).elim false vB⟩
 |_=>default
theorem Mc (s:Sl):slV (.agg (encS s).toArray)=s:=rfl
theorem Md {ρ:Nat->Option Nat} {E:Nat->Prop} {w:World}:∀(l:List D) (es:List MapEntry),RepM ρ E w (l.map fun x=>(kvD 115 (x.fld 0),gw 69 (x.fld 1))) es->
 (∀e∈es,e.val = .agg (encS (slV e.val)).toArray)∧es.map (fun e=>slV e.val)=l.map fun x=>slD (x.fld 1)
 | [],es,h=>by simp only[List.map_nil,RepM]at h;subst h;exact⟨fun e he=>(by cases he),rfl⟩
 |x::l,es,h=>by
  simp only[List.map_cons,RepM]at h;obtain⟨e,es',rfl,_,hv,hr⟩:=h;rw[valA69]at hv;have hv':=val_of hv;obtain⟨i1,i2⟩:=Md l es' hr;refine⟨fun y hy=> ?_,?_⟩
  ·rcases List.mem_cons.1 hy with rfl|hy
   ·rw[hv',Mc]
   ·exact i1 y hy
  ·rw[List.map_cons,List.map_cons,i2,hv',Mc]
def S31:FunS:=⟨[⟨true, .ptr 0 0⟩],[.mp false 115 69, .cells [⟨false, .map 1⟩,ufB,⟨false, .int .i64⟩]],[⟨true, .osl 2 69⟩],[.lst true 69, .mp false 115 69, .cells [⟨false, .map 1⟩,ufB,⟨false, .int .i64⟩]]⟩
open Classical in
def F31 (ds:List D):Option (List D):=
 if(ds.headD .other).toList.length≤1000000∧(nY (ds.headD .other)).Pairwise (fun a b=>¬(a.a=b.a∧a.b=b.b))then some [.list ((qD (nY (ds.headD .other))).map sDl)]else none
def q31:uAC:=veil F31
theorem TR:q31=F31:=ak _
theorem sound31:aY env.P 31 S31 q31:=by
 have hN:=TP;intro p s r hp hq;have hp3:p.length=3:=hp;obtain⟨d,b,n,rfl⟩:∃d b n,p = [d,b,n]:=by
  match p,hp3 with
  | [d,b,n],_=>exact⟨d,b,n,rfl⟩
 rw[TR]at hq;unfold F31 at hq;rw[List.cons_append,List.headD_cons]at hq;split at hq
 case isFalse=>cases hq
 case isTrue hc=>
  obtain⟨hl,hd⟩:=hc;cases hq;have ha:qM S31 [d,b,n] s = [.ptr 0 0]:=rfl;have hh:dF S31 [d,b,n] s=⟨2,[some (.mp 115 69 d),some (.cells [.map 1, .ub ((bdL [d,b,n]).b 1), .ui .i64 ((bdL [d,b,n]).n 2)])],true⟩:=rfl;have hr:AZ S31 [d,b,n] (bdL [.list ((qD (nY d)).map sDl)]) = .osl 2 69 (ai (.list ((qD (nY d)).map sDl))):=rfl;have hh':ue S31 [d,b,n] (bdL [.list ((qD (nY d)).map sDl)])=(⟨2,[some (.mp 115 69 d),some (.cells [.map 1, .ub ((bdL [d,b,n]).b 1), .ui .i64 ((bdL [d,b,n]).n 2)])],true⟩:Hp).push (.lst 69 (.list ((qD (nY d)).map sDl))):=rfl;rw[ha,hh,hr,hh'];intro lo w0 ρ E w vs inv ra;obtain⟨vl⟩:=vs;obtain⟨v,vl',rfl,rv,hn⟩:∃v vs',vl=v::vs'∧Rep ρ E w (AV.ptr 0 0) v∧vs' = []:=by simpa only[RepL]using ra
  subst hn;simp only[Rep]at rv;obtain⟨bw,hbw,rfl⟩:=rv;obtain⟨c,T,hcw,hlen,hrl⟩:=inv.blk 0 (.cells [.map 1, .ub ((bdL [d,b,n]).b 1), .ui .i64 ((bdL [d,b,n]).n 2)]) bw rfl hbw;simp only[RepL,Rep]at hrl;obtain⟨u0,r0,h1,⟨bm,hbm,rfl⟩,_⟩:=hrl;have c0:w.cell? ⟨bw,0,none⟩=some (.map (some bm)):=by
   have:c.toList[0]? = some (.map (some bm)):=by
    have h2:=congrArg (fun l=>l[0]?) h1
    simpa using h2
   simp only[World.cell?,hcw]
   simpa using this
  obtain⟨es,clk,hb,hrm,hborn⟩:=inv.blk 1 (.mp 115 69 d) bm rfl hbm;obtain⟨v1,v2⟩:=Md d.toList es.toList hrm;have hes:es.size≤1000000:=by
   have:=congrArg List.length v2;simp only[List.length_map,Array.length_toList]at this;omega
  refine(TN hN bw bm clk es (fun e=>slV e.val) w c0 hb hborn.1 hborn.2 v1 hes).mono ?_
  rintro e w' ⟨v,L,rfl,p1,p2,p3,p4⟩;rw[v2]at p1;have hL:L=qD (nY d):=Gi p1 p2 hd;rw[<- hL];have hold:∀k,k<w.heap.size->w'.heap[k]? = w.heap[k]? :=fun k hk=>p4.block k hk
  have hio:SameIO w w':=⟨p4.os,p4.tape,p4.output⟩;have hq:ai (.list (L.map sDl))=(L.length:Int):=by rw[dw];simp[D.len,D.toList]
  rcases p3.2 with⟨rfl,h0⟩|⟨g,cap,cur,rfl,hg,hgc,k1,k2,k3,k4⟩
  ·obtain⟨inv',ext⟩:=inv.grown hold p4.size hio;refine⟨_,ρ,E,rfl,inv'.ghost _,⟨ext,fun _ h=> .inl h⟩,?_⟩
   simp only[Rep,hq,h0];exact⟨by omega,none,0,rfl,by omega, .inl ⟨rfl,rfl⟩⟩
  ·have hgl:g<w'.heap.size:=(Array.getElem?_eq_some_iff.1 hgc).1
   obtain⟨inv',ext⟩:=inv.pushAt hold p4.size hio g (by omega) hgl (.lst 69 (.list (L.map sDl))) fun ρ' _=>by
    refine⟨cur,69,hgc,lay69,?_,fun i x hx=> ?_⟩
    ·rw[rM];simp only[D.toList,List.length_map];rw[k3];exact Nat.mul_le_mul_right 5 k1
    ·simp only[D.toList,List.getElem?_map]at hx
     obtain⟨y,hy,rfl⟩:=Option.map_eq_some_iff.1 hx;rw[rM,TO k4 hy];exact TQ y
   refine⟨_,upd ρ 2 g,E,rfl,inv',⟨ext,fun _ h=> .inl h⟩,?_⟩
   simp only[Rep,hq];refine⟨by omega,some ⟨g,0,none⟩,cap,by simp,by simpa using k1, .inr ⟨g,by simp[upd],rfl,cur,69,(0,0),hgc,by rw[rM,k3];exact Nat.le_refl _⟩⟩
end
end Go.Proofs.YtfdedgmlafelaaaGreatDoor
open Go Go.AM
namespace Go.Proofs.YtfdedgmlafelaaaGreatDoor
noncomputable section
def tbz18:Tb:=Tb.addF tb20 18 S18 q18
theorem TS:TbOk env tbz18:=TbOk.addF ok_tb20 (by kernel_rfl) (by rw[SW];exact dG iP Jw 60 12)
def tb31:Tb:=Tb.addF tbz18 31 S31 q31
theorem ok_tb31:TbOk env tb31:=TbOk.addF TS (by kernel_rfl) sound31
def S63:FunS:=⟨[utP 0 0,utI,utI,utB],[(.mp true 115 69),(.cells [ufS (.map 1),ufB,utI])],[utS (.tup [])],[(.mp true 115 69),(.cells [utS (.map 1),ufB,utI])]⟩
def F63:uAC:=aS env tb31 60 12 63 S63
theorem F63_e (pb0:Bool) (sn0:Int) (sn1:Int) (sb2:Bool) (sd3:D) (sn4:Int):F63 [(D.bool pb0),(D.int sn0),(D.int sn1),(D.bool sb2),sd3,(D.int sn4)] =
 let x0:=D.bool pb0
 let x1:=D.int sn0
 let x2:=D.int sn1
 let x3:=D.agg [x1,x2]
 let x4:=D.int 0
 let x5:=jQ 115 (.agg [x4,x4,x4,x4,.bool false]) sd3 x3
 let x6:=ah (aa x5 2)
 let x7:=ah (aa x5 3)
 let x8:=D.bool (aJ (aa x5 4))
 let x9:=D.int (qmm .gtr sn4 (qun .neg .i64 sn0))
 bif ae .geq sn0 0 then ge x0<|some [sd3,.int sn4]else bif sb2 then ge x0<|some [lK 115 sd3 x3 (.agg [x1,x2,.int x6,.int (aQ .add .i64 x7 1),x8]),x9]else ge x0<|some [lK 115 sd3 x3 (.agg [x1,x2,.int (aQ .add .i64 x6 1),.int x7,x8]),x9]:=by kernel_rfl
def F63_eq:=by have h:= @F63_e;simp only[aN,gd,aq,aj,az,aM,cond_true]at h;exact h
def q63:uAC:=veil (F63)
theorem TT:q63=F63:=ak _
def tb63:Tb:=Tb.addF tb31 63 S63 (q63)
theorem Me:TbOk env (tb63):=aG ok_tb31 63 (by kernel_rfl) _ (TT)
def S65:FunS:=⟨[utP 0 0,utD 61,utI],[(.mp true 115 69),(.cells [ufS (.map 1),utB,utI])],[utS (.tup [])],[(.mp true 115 69),(.cells [utS (.map 1),utB,utI])]⟩
def TU (Q:uAC):Tb:=Tb.addF tb63 65 S65 Q
theorem TV (Q:uAC) (hQ:aY env.P 65 S65 Q):TbOk env (TU Q):=TbOk.addF Me (by kernel_rfl) hQ
def S65_8:LoopS:=⟨2,ufP 0 0::uF::ufI::uAA 33 (ufR 61::ufI::utI::uAA 8 []),[(.mp true 115 69),(.cells [ufS (.map 1),utB,utI])],[⟨0,0,uT::uT::ufI::uAB 33 (ufR 61::ufI::uAB 9 []),[(.mp true 115 69),(.cells [utS (.map 1),utB,utI])]⟩]⟩
def B3 (Q:uAC) (p s:List D):Option (Sum (List D) (List D)):=aR env (TU Q) 60 12 65 (aW 65 8) S65_8 p s
theorem TW (Q:uAC) (pn0:Int) (pd1:D) (pn2:Int) (sn0:Int) (sd1:D) (sb2:Bool) (sn3:Int):B3 Q [(D.int pn0),pd1,(D.int pn2)] [(D.int sn0),sd1,(D.bool sb2),(D.int sn3)] =
 let x0:=D.int pn0
 let x1:=Q [ay pd1 sn0,x0,sd1,.bool sb2,.int sn3]
 bif ae .lss sn0 pn2 then gd (aI pd1 sn0)<|gd (uZZ x1)<|ge x0<|ge pd1<|ge (.int pn2)<|some (Sum.inl [.int (aQ .add .i64 sn0 1),ar x1 0,.bool (aJ (ar x1 1)),.int (ah (ar x1 2))])else ge x0<|ge pd1<|ge (.int pn2)<|some (Sum.inr [.int 0,sd1,.bool sb2,.int sn3]):=by kernel_rfl
def ON:=by have h:= @TW;simp only[aN,gd,aq,aj,az,aM,cond_true]at h;exact h
def Gj (Q:uAC):List D->uAC:=veil fun p s=>loW (B3 Q p) s
theorem Gk (Q:uAC):Gj Q=fun p s=>loW (B3 Q p) s:=ak _
def B4 (Q:uAC):Tb:=Tb.addL (TU Q) 65 8 S65_8.n0 (bu S65_8 (Gj Q))
theorem JH (Q:uAC) (hQ:aY env.P 65 S65 Q):TbOk env (B4 Q):=aF (TV Q hQ) 65 8 (by kernel_rfl) _ (Gk Q)
def Fb65 (Q:uAC):uAC:=aS env (B4 Q) 60 12 65 S65
theorem Fb65_e (Q:uAC) (sd0:D) (sn1:Int) (sd2:D) (sb3:Bool) (sn4:Int):Fb65 Q [sd0,(D.int sn1),sd2,(D.bool sb3),(D.int sn4)] =
 let x0:=On [sd0]
 let x1:=ae .eql (ah (aa sd0 0)) 18
 let x2:=aa sd0 4
 let x3:=q62 [ay x2 0]
 let x4:=aJ (ar x3 1)
 let x5:=q64 [.int (aQ .add .i64 sn1 (ah (ar x3 0)))]
 let x6:=D.bool true
 let x7:=D.int (ah (ar x5 0))
 let x8:=D.int (ah (aa sd0 3))
 let x9:=D.bool false
 let x10:=D.int sn4
 let x11:=q63 [x6,x7,x8,x9,sd2,x10]
 let x12:List D:=[.int sn1,x2,.int (ai x2)]
 let x13:=Gj Q x12 [.int 0,sd2,x6,x10]
 let x14:Option (List D):=gd (uZZ x13)<|some [ar x13 1,.bool (aJ (ar x13 2)),.int (ah (ar x13 3))]
 let x15:=D.bool sb3
 let x16:=q63 [x15,x7,x8,x9,sd2,x10]
 let x17:=Gj Q x12 [.int 0,sd2,x15,x10]
 let x18:Option (List D):=gd (uZZ x17)<|some [ar x17 1,.bool (aJ (ar x17 2)),.int (ah (ar x17 3))]
 gd (uZZ x0)<|bif aJ (ar x0 0)then bif x1 then gd (aI x2 0)<|gd (uZZ x3)<|bif x4 then gd (uZZ x5)<|gd (uZZ x11)<|some [ar x11 0,x6,.int (ah (ar x11 1))]else x14 else x14 else bif x1 then gd (aI x2 0)<|gd (uZZ x3)<|bif x4 then gd (uZZ x5)<|gd (uZZ x16)<|some [ar x16 0,x15,.int (ah (ar x16 1))]else x18 else x18:=by kernel_rfl
def Fb65_eq:=by have h:= @Fb65_e;simp only[aN,gd,aq,aj,az,aM,cond_true]at h;exact h
def F65:Nat->uAC:=levels Fb65
theorem F65_s (n:Nat):F65 (n+1)=Fb65 (F65 n):=rfl
def q65:uAC:=veil fun ds=>F65 (bE ds) ds
theorem TX:q65=fun ds=>F65 (bE ds) ds:=ak _
theorem sound65:aY env.P 65 S65 q65:=nK (fun q=>B4 q) (fun q hq=>JH q hq) TX
def tb65:Tb:=Tb.addF tb63 65 S65 q65
theorem ok_tb65:TbOk env tb65:=TbOk.addF Me (by kernel_rfl) sound65
def S29_10:LoopS:=⟨2,ufP 0 0::uF::ufI::uAA 51 (ufR 61::ufI::utI::uAA 8 []),[(.mp true 115 69),(.cells [ufS (.map 1),utB,utI])],[⟨0,0,uT::uT::ufI::uAB 51 (ufR 61::ufI::uAB 9 []),[(.mp true 115 69),(.cells [utS (.map 1),utB,utI])]⟩]⟩
def rN (p s:List D):Option (Sum (List D) (List D)):=aR env tb65 60 12 29 (aW 29 10) S29_10 p s
theorem OO (pn0:Int) (pd1:D) (pn2:Int) (sn0:Int) (sd1:D) (sb2:Bool) (sn3:Int):rN [(D.int pn0),pd1,(D.int pn2)] [(D.int sn0),sd1,(D.bool sb2),(D.int sn3)] =
 let x0:=D.int pn0
 let x1:=q65 [ay pd1 sn0,x0,sd1,.bool sb2,.int sn3]
 bif ae .lss sn0 pn2 then gd (aI pd1 sn0)<|gd (uZZ x1)<|ge x0<|ge pd1<|ge (.int pn2)<|some (Sum.inl [.int (aQ .add .i64 sn0 1),ar x1 0,.bool (aJ (ar x1 1)),.int (ah (ar x1 2))])else ge x0<|ge pd1<|ge (.int pn2)<|some (Sum.inr [.int 0,sd1,.bool sb2,.int sn3]):=by kernel_rfl
def JI:=by have h:= @OO;simp only[aN,gd,aq,aj,az,aM,cond_true]at h;exact h
def vX:List D->uAC:=veil fun p s=>loW (rN p) s
theorem zo:vX=fun p s=>loW (rN p) s:=ak _
def vY:Tb:=Tb.addL tb65 29 10 S29_10.n0 (bu S29_10 (vX))
theorem Gl:TbOk env (vY):=aF ok_tb65 29 10 (by kernel_rfl) _ (zo)
def S29:FunS:=⟨[utP 0 0,utD 57,utI],[(.mp true 115 69),(.cells [ufS (.map 1),utB,utI])],[utS (.tup [])],[(.mp true 115 69),(.cells [utS (.map 1),utB,utI])]⟩
def F29:uAC:=aS env vY 60 12 29 S29
theorem F29_e (sd0:D) (sn1:Int) (sd2:D) (sb3:Bool) (sn4:Int):F29 [sd0,(D.int sn1),sd2,(D.bool sb3),(D.int sn4)] =
 let x0:=ah (aa sd0 0)
 let x1:=D.bool sb3
 let x2:=D.int (qmm .gtr sn4 (qun .neg .i64 sn1))
 let x3:=aa sd0 6
 let x4:=q62 [ay x3 0]
 let x5:=q64 [.int (aQ .add .i64 sn1 (ah (ar x4 0)))]
 let x6:=q63 [x1,.int (ah (ar x5 0)),.int (ah (aa sd0 2)),.bool true,sd2,x2]
 let x7:=ai x3
 let x8:=cj x3 1 x7
 let x9:=vX [.int sn1,x8,.int (ai x8)] [.int 0,ar x6 0,x1,.int (ah (ar x6 1))]
 let x10:=vX [.int sn1,x3,.int x7] [.int 0,sd2,x1,x2]
 let x11:Option (List D):=gd (uZZ x10)<|some [ar x10 1,.bool (aJ (ar x10 2)),.int (ah (ar x10 3))]
 bif aA (ae .eql x0 1) (ae .eql (ah (aa sd0 1)) 7) false then some [sd2,x1,x2]else bif ae .eql x0 2 then gd (aI x3 0)<|gd (uZZ x4)<|bif aJ (ar x4 1)then gd (uZZ x5)<|gd (uZZ x6)<|gd (ae .leq 0 1)<|gd (ae .leq 1 x7)<|gd (ae .leq x7 x7)<|gd (uZZ x9)<|some [ar x9 1,.bool (aJ (ar x9 2)),.int (ah (ar x9 3))]else x11 else x11:=by kernel_rfl
def F29_eq:=by have h:= @F29_e;simp only[aN,gd,aq,aj,az,aM,cond_true]at h;exact h
def q29:uAC:=veil (F29)
theorem TY:q29=F29:=ak _
def tb29:Tb:=Tb.addF vY 29 S29 (q29)
theorem ok_tb29:TbOk env (tb29):=aG Gl 29 (by kernel_rfl) _ (TY)
def S34:FunS:=⟨[utD 69,utD 69],[],[utB],[]⟩
def F34:uAC:=aS env tb29 60 12 34 S34
theorem F34_eq (sd0:D) (sd1:D):F34 [sd0,sd1] =
 some [(D.bool (aA (ae BinOp.lss (ah (aa sd0 0)) (aQ BinOp.add IntKind.i64 (ah (aa sd1 0)) (ah (aa sd1 1)))) (ae BinOp.lss (ah (aa sd1 0)) (aQ BinOp.add IntKind.i64 (ah (aa sd0 0)) (ah (aa sd0 1)))) Bool.false))]:=by kernel_rfl
def q34:uAC:=veil (F34)
theorem TZ:q34=F34:=ak _
def tb34:Tb:=Tb.addF tb29 34 S34 (q34)
theorem ok_tb34:TbOk env (tb34):=aG ok_tb29 34 (by kernel_rfl) _ (TZ)
def S33:FunS:=⟨[utD 69,utS (.edat 69)],[],[utB],[]⟩
def F33:uAC:=aS env tb34 60 12 33 S33
theorem F33_eq (sd0:D) (sd1:D):F33 [sd0,sd1] =
 bif (aA (aA (ae BinOp.neq (ah (aa sd0 0)) (ah (aa sd1 0))) Bool.true (ae BinOp.neq (ah (aa sd0 1)) (ah (aa sd1 1)))) (uZZ (q34 [sd1,sd0])) Bool.true)then
 some [(D.bool (aA (aA (ae BinOp.neq (ah (aa sd0 0)) (ah (aa sd1 0))) Bool.true (ae BinOp.neq (ah (aa sd0 1)) (ah (aa sd1 1)))) (aJ (ar (q34 [sd1,sd0]) 0)) Bool.false))]
 else
 none:=by kernel_rfl
def q33:uAC:=veil (F33)
theorem T3:q33=F33:=ak _
def tb33:Tb:=Tb.addF tb34 33 S33 (q33)
theorem ok_tb33:TbOk env (tb33):=aG ok_tb34 33 (by kernel_rfl) _ (T3)
def S70_33_2:LoopS:=⟨0,ufR 69::ufS (.func 33 [] [(.edat 69)])::uF::uF::ufZ::uF::uF::ufI::utI::uAA 10 [],[],[⟨0,0,ufR 69::ufS (.func 33 [] [(.edat 69)])::uT::uT::utZ::uT::uT::ufI::uAB 11 [],[]⟩,⟨1,0,ufR 69::ufS (.func 33 [] [(.edat 69)])::uT::uT::utI::uT::uT::ufI::uAB 11 [],[]⟩]⟩
def lA (p s:List D):Option (Sum (List D) (List D)):=aR env tb33 60 12 70 (aW 70 2) S70_33_2 p s
theorem Gm (pd0:D) (pd1:D) (pn2:Int) (sn0:Int):lA [pd0,pd1,(D.int pn2)] [(D.int sn0)] =
 let x0:=q33 [ay pd0 sn0,pd1]
 let x1:=D.int pn2
 bif ae .lss sn0 pn2 then gd (aI pd0 sn0)<|gd (uZZ x0)<|bif aJ (ar x0 0)then ge pd0<|ge pd1<|ge x1<|some (Sum.inr [.int 1,.int sn0])else ge pd0<|ge pd1<|ge x1<|some (Sum.inl [.int (aQ .add .i64 sn0 1)])else ge pd0<|ge pd1<|ge x1<|some (Sum.inr [.int 0]):=by kernel_rfl
def B5:=by have h:= @Gm;simp only[aN,gd,aq,aj,aE,aK,az,aM,cond_true]at h;exact h
def kM:List D->uAC:=veil fun p s=>loW (lA p) s
theorem qE:kM=fun p s=>loW (lA p) s:=ak _
def mF:Tb:=Tb.addL tb33 70 2 S70_33_2.n0 (bu S70_33_2 (kM))
theorem xU:TbOk env (mF):=aF ok_tb33 70 2 (by kernel_rfl) _ (qE)
def T4:FunS:=⟨[utR 69,utS (.func 33 [] [(.edat 69)])],[],[utI],[]⟩
def JJ:uAC:=aS env mF 60 12 70 T4
theorem OP (sd0:D) (sd1:D):JJ [sd0,sd1] =
 bif (uZZ (kM [sd0,sd1,(D.int (ai sd0))] [(D.int 0)]))then
 bif (ae BinOp.eql (ah (ar (kM [sd0,sd1,(D.int (ai sd0))] [(D.int 0)]) 0)) 0)then
 some [(D.int (-1))]
 else
 some [(D.int (ah (ar (kM [sd0,sd1,(D.int (ai sd0))] [(D.int 0)]) 1)))]
 else
 none:=by kernel_rfl
def B6:uAC:=veil (JJ)
theorem zp:B6=JJ:=ak _
def B7:Tb:=Tb.addF mF 70 T4 (B6)
theorem JK:TbOk env (B7):=aG xU 70 (by kernel_rfl) _ (zp)
def T5:FunS:=⟨[utR 69,utS (.func 33 [] [(.edat 69)])],[],[utB],[]⟩
def JL:uAC:=aS env B7 60 12 32 T5
theorem OQ (sd0:D) (sd1:D):JL [sd0,sd1] =
 bif (uZZ (B6 [sd0,sd1]))then
 some [(D.bool (ae BinOp.geq (ah (ar (B6 [sd0,sd1]) 0)) 0))]
 else
 none:=by kernel_rfl
def vZ:uAC:=veil (JL)
theorem zq:vZ=JL:=ak _
def B8:Tb:=Tb.addF B7 32 T5 (vZ)
theorem JM:TbOk env (B8):=aG JK 32 (by kernel_rfl) _ (zq)
def S10_14:LoopS:=⟨0,uF::ufP 0 0::ufP 1 0::ufZ::uF::ufR 3::uF::ufP 2 0::ufP 4 0::uF::ufB::utI::uAA 24 (ufR 4::ufI::ufI::uAA 13 (ufR 57::ufI::utI::uAA 76 [])),[(.cells [ufZ,ufN,utB]),(.mp true 115 69),(.cells [ufS (.map 3),utB,utI]),(.cells [ufZ,ufN,ufS (.lit (.bool false))]),(.dat false 25)],[⟨0,2,uT::utP 0 0::utP 1 0::utZ::uT::ufR 3::uT::utP 2 0::utP 4 0::uT::ufB::uAB 25 (ufR 4::ufI::ufI::uAB 13 (ufR 57::ufI::uAB 77 [])),[(.cells [utZ,utN,utB]),(.mp true 115 69),(.cells [utS (.map 3),utB,utI]),(.cells [utZ,utN,utS (.lit (.bool false))]),(.dat false 25)]⟩]⟩
def jJ (p s:List D):Option (Sum (List D) (List D)):=aR env B8 60 12 10 (aW 10 14) S10_14 p s
theorem OR (pd0:D) (pb1:Bool) (pd2:D) (pn3:Int) (pn4:Int) (pd5:D) (pn6:Int) (pd7:D) (sn0:Int) (sn1:Int) (sb2:Bool) (sd3:D) (sb4:Bool) (sn5:Int):jJ [pd0,(D.bool pb1),pd2,(D.int pn3),(D.int pn4),pd5,(D.int pn6),pd7] [(D.int sn0),(D.int sn1),(D.bool sb2),sd3,(D.bool sb4),(D.int sn5)] =
 let x0:=D.bool pb1
 let x1:=D.int pn3
 let x2:=D.int pn4
 let x3:=D.int pn6
 let x4:Option (List D ⊕ List D):=ge pd0<|ge x0<|ge pd2<|ge x1<|ge x2<|ge pd5<|ge x3<|ge pd7<|some (Sum.inr [.int 0,.bool sb2,sd3,.bool sb4,.int sn5])
 let x5:=ay pd5 sn1
 let x6:=q29 [x5,.int sn0,sd3,.bool sb4,.int sn5]
 let x7:=q30 [x5,.int sn0]
 let x8:=uZZ x7
 let x9:=D.int (ah (ar x7 0))
 let x10:=D.int (aQ .add .i64 sn1 1)
 let x11:=ar x6 0
 let x12:=D.bool (aJ (ar x6 1))
 let x13:=D.int (ah (ar x6 2))
 bif ae .lss sn1 pn6 then gd (aI pd5 sn1)<|bif ca pb1 then x4 else gd (uZZ x6)<|bif sb2 then bif ae .neq (ah (aa x5 0)) 9 then gd x8<|ge pd0<|ge x0<|ge pd2<|ge x1<|ge x2<|ge pd5<|ge x3<|ge pd7<|some (Sum.inl [x9,x10,.bool true,x11,x12,x13])else gd x8<|ge pd0<|ge x0<|ge pd2<|ge x1<|ge x2<|ge pd5<|ge x3<|ge pd7<|some (Sum.inl [x9,x10,.bool (ae .eql sn0 4),x11,x12,x13])else gd x8<|ge pd0<|ge x0<|ge pd2<|ge x1<|ge x2<|ge pd5<|ge x3<|ge pd7<|some (Sum.inl [x9,x10,.bool false,x11,x12,x13])else x4:=by kernel_rfl
def mG:=by have h:= @OR;simp only[aN,gd,aq,aj,aE,aK,az,aM,cond_true]at h;exact h
def B9:List D->uAC:=veil fun p s=>loW (jJ p) s
theorem zr:B9=fun p s=>loW (jJ p) s:=ak _
def v6:Tb:=Tb.addL B8 10 14 S10_14.n0 (bu S10_14 (B9))
theorem Gn:TbOk env (v6):=aF JM 10 14 (by kernel_rfl) _ (zr)
def S10_10:LoopS:=⟨0,uF::ufP 0 0::ufP 1 0::ufZ::uF::ufR 3::uF::ufP 2 0::ufP 4 0::uAA 27 (ufR 4::ufI::utI::uAA 92 []),[(.cells [ufZ,ufN,utB]),(.mp true 115 69),(.cells [ufS (.map 3),utB,utI]),(.cells [ufZ,ufN,ufS (.lit (.bool false))]),(.dat false 25)],[⟨0,0,uT::uT::utP 1 0::utZ::uT::ufR 3::uT::utP 2 0::utP 4 0::uAB 27 (ufR 4::ufI::uAB 93 []),[(.cells [utZ,utN,utB]),(.mp true 115 69),(.cells [utS (.map 3),utB,utI]),(.cells [utZ,utN,utS (.lit (.bool false))]),(.dat false 25)]⟩]⟩
def rO (p s:List D):Option (Sum (List D) (List D)):=aR env v6 60 12 10 (aW 10 10) S10_10 p s
theorem OS (pd0:D) (pd1:D) (pn2:Int) (pd3:D) (sn0:Int) (sb1:Bool) (sd2:D) (sb3:Bool) (sn4:Int):rO [pd0,pd1,(D.int pn2),pd3] [(D.int sn0),(D.bool sb1),sd2,(D.bool sb3),(D.int sn4)] =
 let x0:=D.int pn2
 let x1:=aa (ay (aa pd3 1) sn0) 1
 let x2:=B9 [pd0,.bool (aJ (ay pd1 sn0)),pd1,x0,.int sn0,x1,.int (ai x1),pd3] [.int (ah (ay pd0 sn0)),.int 0,.bool sb1,sd2,.bool sb3,.int sn4]
 bif ae .lss sn0 pn2 then gd (aI pd1 sn0)<|gd (aI pd0 sn0)<|gd (aI (aa pd3 1) sn0)<|gd (uZZ x2)<|ge pd0<|ge pd1<|ge x0<|ge pd3<|some (Sum.inl [.int (aQ .add .i64 sn0 1),.bool (aJ (ar x2 1)),ar x2 2,.bool (aJ (ar x2 3)),.int (ah (ar x2 4))])else ge pd0<|ge pd1<|ge x0<|ge pd3<|some (Sum.inr [.int 0,.bool sb1,sd2,.bool sb3,.int sn4]):=by kernel_rfl
def v7:=by have h:= @OS;simp only[aN,gd,aq,aj,aE,aK,az,aM,cond_true]at h;exact h
def Ca:List D->uAC:=veil fun p s=>loW (rO p) s
theorem zt:Ca=fun p s=>loW (rO p) s:=ak _
def v8:Tb:=Tb.addL v6 10 10 S10_10.n0 (bu S10_10 (Ca))
theorem Gp:TbOk env (v8):=aF Gn 10 10 (by kernel_rfl) _ (zt)
def S10_24:LoopS:=⟨0,uF::uF::ufP 0 0::ufZ::uF::uF::uF::ufP 1 0::ufP 3 0::uAA 84 (ufO 4 69::ufI::utI::uAA 35 []),[(.lst true 69),(.cells [ufI,ufO 4 69,ufB]),(.mp false 115 69),(.cells [ufS (.map 2),ufB,ufI]),(.cells [ufZ,ufN,ufS (.lit (.bool false))])],[⟨0,4,uT::uT::utP 0 0::utZ::uT::uT::uT::uT::utP 3 0::uAB 85 (ufI::uAB 36 []),[(.lst true 69),(.cells [ufI,utO 4 69,ufB]),(.mp false 115 69),(.cells [uT,ufB,ufI]),(.cells [utZ,utN,utS (.lit (.bool false))])]⟩]⟩
def rP (p s:List D):Option (Sum (List D) (List D)):=aR env v8 60 12 10 (aW 10 24) S10_24 p s
theorem OT (pn0:Int) (pn1:Int) (pb2:Bool) (pd3:D) (pb4:Bool) (pn5:Int) (sn0:Int) (sd1:D):rP [(D.int pn0),(D.int pn1),(D.bool pb2),pd3,(D.bool pb4),(D.int pn5)] [(D.int sn0),sd1] =
 let x0:=ae .leq 0 sn0
 let x1:=ai sd1
 let x2:=ae .lss sn0 x1
 let x3:=aI sd1 sn0
 let x4:=ae .eql x1 x1
 let x5:=ay sd1 sn0
 let x6:=vZ [sd1,x5]
 let x7:=ah (aa x5 0)
 let x8:=ah (aa x5 1)
 let x9:=D.int (ah (aa x5 2))
 let x10:=D.int (ah (aa x5 3))
 let x11:=cz sd1 sn0 (.agg [.int x7,.int x8,x9,x10,.bool true])
 let x12:=ae .eql x1 (ai x11)
 let x13:=D.int pn0
 let x14:=D.int pn1
 let x15:=D.bool pb2
 let x16:=D.bool pb4
 let x17:=D.int pn5
 let x18:=D.int (aQ .add .i64 sn0 1)
 let x19:Option (List D ⊕ List D):=gd x0<|gd x2<|gd x3<|gd x12<|gd x12<|ge x13<|ge x14<|ge x15<|ge pd3<|ge x16<|ge x17<|some (Sum.inl [x18,x11])
 let x20:=cz sd1 sn0 (.agg [.int x7,.int x8,x9,x10,.bool (aJ (ar x6 0))])
 let x21:=ae .eql x1 (ai x20)
 bif ae .lss sn0 pn0 then gd x0<|gd x2<|gd x3<|gd x4<|gd (uZZ x6)<|bif pb4 then x19 else bif ae .gtr (aQ .add .i64 x7 x8) 0 then x19 else bif ae .lss x7 (-4092)then x19 else gd x0<|gd x2<|gd x3<|gd x21<|gd x21<|ge x13<|ge x14<|ge x15<|ge pd3<|ge x16<|ge x17<|some (Sum.inl [x18,x20])else gd x4<|ge x13<|ge x14<|ge x15<|ge pd3<|ge x16<|ge x17<|some (Sum.inr [.int 0,sd1]):=by kernel_rfl
def wa:=by have h:= @OT;simp only[aN,gd,aq,aj,aE,aK,az,aM,cond_true]at h;exact h
def Cb:List D->uAC:=veil fun p s=>loW (rP p) s
theorem zu:Cb=fun p s=>loW (rP p) s:=ak _
def wb:Tb:=Tb.addL v8 10 24 S10_24.n0 (bu S10_24 (Cb))
theorem Gq:TbOk env (wb):=aF Gp 10 24 (by kernel_rfl) _ (zu)
def S10:FunS:=⟨[utD 25],[],[utS (.tup [(.dat 30),(.int .i64)])],[]⟩
def F10:uAC:=aS env wb 60 12 10 S10
theorem F10_e (sd0:D):F10 [sd0] =
 let x0:=q19 [sd0]
 let x1:=ah (ar x0 0)
 let x2:=D.int 0
 let x3:=D.bool false
 let x4:=D.agg [x2,.list [],x3]
 let x5:=q28 [sd0]
 let x6:=q20 [sd0]
 let x7:=Ca [ar x5 0,ar x6 0,.int (ai (ar x6 0)),sd0] [x2,.bool true,.list [],x3,x2]
 let x8:=aJ (ar x7 3)
 let x9:=ah (ar x7 4)
 let x10:=D.int x9
 let x11:=q31 [ar x7 2,.bool x8,x10]
 let x12:=ai (ar x11 0)
 let x13:=ae .eql x12 x12
 let x14:=D.bool (aJ (ar x7 1))
 let x15:=Cb [.int x12,x10,x14,ar x7 2,.bool x8,x10] [x2,ar x11 0]
 gd (uZZ x0)<|bif ae .neq x1 0 then some [x4,.int x1]else gd (uZZ x5)<|bif ca (aJ (ar x5 1))then some [x4,.int 19]else gd (uZZ x6)<|gd (uZZ x7)<|gd (uZZ x11)<|gd (bL (g8 x8 x8) (ae .eql x9 x9))<|gd x13<|gd x13<|gd (uZZ x15)<|gd (ae .eql (ai (ar x15 1)) (ai (ar x15 1)))<|some [.agg [x10,ar x15 1,x14],x2]:=by kernel_rfl
def JN:=by have h:= @F10_e;simp only[aN,gd,aq,aj,aE,aK,az,aM,cond_true]at h;exact h
def q10:uAC:=veil (F10)
theorem Cc:q10=F10:=ak _
def tb10:Tb:=Tb.addF wb 10 S10 (q10)
theorem ok_tb10:TbOk env (tb10):=aG Gq 10 (by kernel_rfl) _ (Cc)
def S74_2:LoopS:=⟨0,ufR 3::ufI::uF::uF::ufS (.lit (.bool false))::utI::uAA 12 [],[],[⟨0,0,ufR 3::ufI::uT::uT::utS (.lit (.bool false))::uAB 13 [],[]⟩,⟨1,0,ufR 3::ufI::uT::uT::utS (.lit (.bool true))::uAB 13 [],[]⟩]⟩
def Cd (p s:List D):Option (Sum (List D) (List D)):=aR env tb10 60 12 74 (aW 74 2) S74_2 p s
theorem T6 (pd0:D) (pn1:Int) (sn0:Int):Cd [pd0,(D.int pn1)] [(D.int sn0)] =
 let x0:=D.int pn1
 bif ae .lss sn0 (ai pd0)then gd (aI pd0 sn0)<|bif ae .eql (ah (ay pd0 sn0)) pn1 then ge pd0<|ge x0<|some (Sum.inr [.int 1])else ge pd0<|ge x0<|some (Sum.inl [.int (aQ .add .i64 sn0 1)])else ge pd0<|ge x0<|some (Sum.inr [.int 0]):=by kernel_rfl
def zw:=by have h:= @T6;simp only[aN,gd,aq,aj,aE,aK,az,aM,cond_true]at h;exact h
def Gr:List D->uAC:=veil fun p s=>loW (Cd p) s
theorem Gs:Gr=fun p s=>loW (Cd p) s:=ak _
def Ce:Tb:=Tb.addL tb10 74 2 S74_2.n0 (bu S74_2 (Gr))
theorem JO:TbOk env (Ce):=aF ok_tb10 74 2 (by kernel_rfl) _ (Gs)
def S74:FunS:=⟨[utR 3,utI],[],[utB],[]⟩
def F74:uAC:=aS env Ce 60 12 74 S74
theorem F74_eq (sd0:D) (sn1:Int):F74 [sd0,(D.int sn1)] =
 bif (uZZ (Gr [sd0,(D.int sn1)] [(D.int 0)]))then
 bif (ae BinOp.eql (ah (ar (Gr [sd0,(D.int sn1)] [(D.int 0)]) 0)) 0)then
 some [(D.bool Bool.false)]
 else
 some [(D.bool Bool.true)]
 else
 none:=by kernel_rfl
def q74:uAC:=veil (F74)
theorem T7:q74=F74:=ak _
def tb74:Tb:=Tb.addF Ce 74 S74 (q74)
theorem ok_tb74:TbOk env (tb74):=aG JO 74 (by kernel_rfl) _ (T7)
def S146:FunS:=⟨[utD 54],[],[utR 3],[]⟩
def F146:uAC:=aS env tb74 60 12 146 S146
theorem F146_e (sd0:D):F146 [sd0] =
 let x0:=aa sd0 1
 let x1:Option (List D):=some [.list []]
 let x2:=aQ .sub .i64 (ai x0) 1
 let x3:=ay x0 x2
 let x4:=ah (aa x3 0)
 let x5:=D.int (ah (aa x3 3))
 bif ae .eql (ai x0) 0 then x1 else gd (aI x0 x2)<|bif ae .eql x4 6 then some [.list [x5]]else bif ae .eql x4 7 then some [.list [x5,.int (ah (aa x3 4))]]else bif ae .eql x4 8 then some [aa x3 7]else x1:=by kernel_rfl
def F146_eq:=by have h:= @F146_e;simp only[aN,gd,aq,aj,aE,aK,az,aM,cond_true]at h;exact h
def q146:uAC:=veil (F146)
theorem Mf:q146=F146:=ak _
def T8:Tb:=Tb.addF tb74 146 S146 (q146)
theorem Ua:TbOk env (T8):=aG ok_tb74 146 (by kernel_rfl) _ (Mf)
def S114_4:LoopS:=⟨0,uF::uF::ufP 0 0::uF::ufN::ufO 1 3::ufR 3::utI::uAA 35 [],[(.lst true 3),(.dat false 25)],[⟨0,0,uT::uT::uT::uT::utN::utO 1 3::ufR 3::uAB 36 [],[(.lst true 3),(.dat false 25)]⟩]⟩
def rQ (p s:List D):Option (Sum (List D) (List D)):=aR env T8 60 12 114 (aW 114 4) S114_4 p s
theorem OU (pd0:D) (pd1:D) (sn0:Int) (sd1:D):rQ [pd0,pd1] [(D.int sn0),sd1] =
 let x0:=aI pd0 sn0
 let x1:=ah (ay pd0 sn0)
 let x2:=ae .eql (ai sd1) (ai sd1)
 let x3:=bN sd1 (.list [.int x1])
 let x4:=ai x3
 let x5:=D.int (aQ .add .i64 sn0 1)
 let x6:Option (List D ⊕ List D):=gd x2<|ge pd0<|ge pd1<|some (Sum.inl [x5,sd1])
 bif ae .lss sn0 (ai pd0)then gd x0<|bif ae .geq x1 0 then gd x0<|bif ae .lss x1 (ai (aa pd1 1))then gd x0<|gd x2<|gd (bF x4 8)<|gd (ae .eql x4 x4)<|ge pd0<|ge pd1<|some (Sum.inl [x5,x3])else x6 else x6 else gd x2<|ge pd0<|ge pd1<|some (Sum.inr [.int 0,sd1]):=by kernel_rfl
def wc:=by have h:= @OU;simp only[aN,gd,aq,aj,aE,aK,az,aM,cond_true]at h;exact h
def Cf:List D->uAC:=veil fun p s=>loW (rQ p) s
theorem zx:Cf=fun p s=>loW (rQ p) s:=ak _
def we:Tb:=Tb.addL T8 114 4 S114_4.n0 (bu S114_4 (Cf))
theorem Gt:TbOk env (we):=aF Ua 114 4 (by kernel_rfl) _ (zx)
def S114:FunS:=⟨[utD 25,utI],[],[utR 3],[]⟩
def F114:uAC:=aS env we 60 12 114 S114
theorem F114_e (sd0:D) (sn1:Int):F114 [sd0,(D.int sn1)] =
 let x0:=q146 [ay (aa sd0 1) sn1]
 let x1:=Cf [ar x0 0,sd0] [.int 0,.list []]
 gd (aI (aa sd0 1) sn1)<|gd (uZZ x0)<|gd (ae .eql 0 (ai (.list [])))<|gd (uZZ x1)<|gd (ae .eql (ai (ar x1 1)) (ai (ar x1 1)))<|some [ar x1 1]:=by kernel_rfl
def F114_eq:=by have h:= @F114_e;simp only[aN,gd,aq,aj,aE,aK,az,aM,cond_true]at h;exact h
def q114:uAC:=veil (F114)
theorem Mg:q114=F114:=ak _
def Ub:Tb:=Tb.addF we 114 S114 (q114)
theorem Uc:TbOk env (Ub):=aG Gt 114 (by kernel_rfl) _ (Mg)
def S73_10:LoopS:=⟨0,uF::uF::ufI::ufP 0 0::uF::uF::ufN::ufO 1 3::ufI::ufR 3::utI::uAA 60 [],[(.lst true 3),(.dat false 25)],[⟨0,2,uT::uT::ufI::utP 0 0::uT::uT::utN::utO 1 3::ufI::ufR 3::uAB 61 [],[(.lst true 3),(.dat false 25)]⟩]⟩
def rR (p s:List D):Option (Sum (List D) (List D)):=aR env Ub 60 12 73 (aW 73 10) S73_10 p s
theorem OV (pn0:Int) (pn1:Int) (pd2:D) (pd3:D) (sn0:Int) (sd1:D):rR [(D.int pn0),(D.int pn1),pd2,pd3] [(D.int sn0),sd1] =
 let x0:=aI pd2 sn0
 let x1:=ah (ay pd2 sn0)
 let x2:=ae .neq x1 pn0
 let x3:=ae .eql (ai sd1) (ai sd1)
 let x4:=q74 [sd1,.int x1]
 let x5:=bN sd1 (.list [.int x1])
 let x6:=ai x5
 let x7:=D.int pn0
 let x8:=D.int pn1
 let x9:=D.int (aQ .add .i64 sn0 1)
 bif ae .lss sn0 (ai pd2)then gd x0<|gd (aA x2 (bL x0 (bL x3 (uZZ x4))) true)<|bif aA x2 (ca (aJ (ar x4 0))) false then gd x0<|gd x3<|gd (bF x6 8)<|gd (ae .eql x6 x6)<|ge x7<|ge x8<|ge pd2<|ge pd3<|some (Sum.inl [x9,x5])else gd x3<|ge x7<|ge x8<|ge pd2<|ge pd3<|some (Sum.inl [x9,sd1])else gd x3<|ge x7<|ge x8<|ge pd2<|ge pd3<|some (Sum.inr [.int 0,sd1]):=by kernel_rfl
def wg:=by have h:= @OV;simp only[aN,gd,aq,aj,aE,aK,az,aM,cond_true]at h;exact h
def Cg:List D->uAC:=veil fun p s=>loW (rR p) s
theorem zy:Cg=fun p s=>loW (rR p) s:=ak _
def wh:Tb:=Tb.addL Ub 73 10 S73_10.n0 (bu S73_10 (Cg))
theorem Gu:TbOk env (wh):=aF Uc 73 10 (by kernel_rfl) _ (zy)
def S73_6:LoopS:=⟨0,uF::uF::ufI::ufP 0 0::uF::uF::ufN::ufO 1 3::utI::uAA 62 [],[(.lst true 3),(.dat false 25)],[⟨0,0,uT::uT::ufI::uT::uT::uT::utN::utO 1 3::uAB 63 [],[(.lst true 3),(.dat false 25)]⟩]⟩
def wi (p s:List D):Option (Sum (List D) (List D)):=aR env wh 60 12 73 (aW 73 6) S73_6 p s
theorem Ud (pn0:Int) (pd1:D) (sn0:Int) (sd1:D):wi [(D.int pn0),pd1] [(D.int sn0),sd1] =
 let x0:=ai sd1
 let x1:=ae .lss sn0 x0
 let x2:=q114 [pd1,.int (ah (ay sd1 sn0))]
 let x3:=ae .eql x0 x0
 let x4:=D.int pn0
 let x5:List D:=[.int 0,sd1]
 let x6:=Cg [x4,.int sn0,ar x2 0,pd1] x5
 bif x1 then gd (ae .leq 0 sn0)<|gd x1<|gd (aI sd1 sn0)<|gd (uZZ x2)<|gd x3<|gd (uZZ x6)<|gd (ae .eql (ai (ar x6 1)) (ai (ar x6 1)))<|ge x4<|ge pd1<|some (Sum.inl [.int (aQ .add .i64 sn0 1),ar x6 1])else gd x3<|ge x4<|ge pd1<|some (Sum.inr x5):=by kernel_rfl
def zz:=by have h:= @Ud;simp only[aN,gd,aq,aj,aE,aK,az,aM,cond_true]at h;exact h
def Mh:List D->uAC:=veil fun p s=>loW (wi p) s
theorem Gv:Mh=fun p s=>loW (wi p) s:=ak _
def Ch:Tb:=Tb.addL wh 73 6 S73_6.n0 (bu S73_6 (Mh))
theorem JP:TbOk env (Ch):=aF Gu 73 6 (by kernel_rfl) _ (Gv)
def S73:FunS:=⟨[utD 25,utI,utI],[],[utR 3],[]⟩
def F73:uAC:=aS env Ch 60 12 73 S73
theorem F73_e (sd0:D) (sn1:Int) (sn2:Int):F73 [sd0,(D.int sn1),(D.int sn2)] =
 let x0:=D.list [.int sn1]
 let x1:=Mh [.int sn2,sd0] [.int 0,x0]
 bif aA (aA (ae .eql sn1 sn2) true (ae .lss sn1 0)) true (ae .geq sn1 (ai (aa sd0 1)))then some [.list []]else gd (ae .eql 1 (ai x0))<|gd (uZZ x1)<|gd (ae .eql (ai (ar x1 1)) (ai (ar x1 1)))<|some [ar x1 1]:=by kernel_rfl
def F73_eq:=by have h:= @F73_e;simp only[aN,gd,aq,aj,aE,aK,az,aM,cond_true]at h;exact h
def q73:uAC:=veil (F73)
theorem Ue:q73=F73:=ak _
def tb73:Tb:=Tb.addF Ch 73 S73 (q73)
theorem ok_tb73:TbOk env (tb73):=aG JP 73 (by kernel_rfl) _ (Ue)
def S36_4:LoopS:=⟨0,uF::ufP 0 0::ufN::ufR 3::ufO 1 4::utI::uAA 16 [],[(.lst true 4),(.dat false 25)],[⟨0,0,uT::uT::utN::ufR 3::utO 1 4::uAB 17 [],[(.lst true 4),(.dat false 25)]⟩]⟩
def Ci (p s:List D):Option (Sum (List D) (List D)):=aR env tb73 60 12 36 (aW 36 4) S36_4 p s
theorem Uf (pd0:D) (pd1:D) (sn0:Int) (sd1:D):Ci [pd0,pd1] [(D.int sn0),sd1] =
 let x0:=q74 [pd0,.int sn0]
 let x1:=ae .eql (ai sd1) (ai sd1)
 let x2:=bN sd1 (.list [.bool (aJ (ar x0 0))])
 let x3:=ai x2
 bif ae .lss sn0 (ai (aa pd1 1))then gd (uZZ x0)<|gd x1<|gd (bF x3 1)<|gd (ae .eql x3 x3)<|ge pd0<|ge pd1<|some (Sum.inl [.int (aQ .add .i64 sn0 1),x2])else gd x1<|ge pd0<|ge pd1<|some (Sum.inr [.int 0,sd1]):=by kernel_rfl
def zA:=by have h:= @Uf;simp only[aN,gd,aq,aj,aE,aK,az,aM,cond_true]at h;exact h
def Mi:List D->uAC:=veil fun p s=>loW (Ci p) s
theorem Gw:Mi=fun p s=>loW (Ci p) s:=ak _
def Cj:Tb:=Tb.addL tb73 36 4 S36_4.n0 (bu S36_4 (Mi))
theorem JQ:TbOk env (Cj):=aF ok_tb73 36 4 (by kernel_rfl) _ (Gw)
def S36:FunS:=⟨[utD 25],[],[utR 4],[]⟩
def F36:uAC:=aS env Cj 60 12 36 S36
theorem F36_e (sd0:D):F36 [sd0] =
 let x0:=q73 [sd0,.int 0,.int (-1)]
 let x1:=Mi [ar x0 0,sd0] [.int 0,.list []]
 gd (uZZ x0)<|gd (ae .eql 0 (ai (.list [])))<|gd (uZZ x1)<|gd (ae .eql (ai (ar x1 1)) (ai (ar x1 1)))<|some [ar x1 1]:=by kernel_rfl
def F36_eq:=by have h:= @F36_e;simp only[aN,gd,aq,aj,aE,aK,az,aM,cond_true]at h;exact h
def q36:uAC:=veil (F36)
theorem Ug:q36=F36:=ak _
def tb36:Tb:=Tb.addF Cj 36 S36 (q36)
theorem Mj:TbOk env (tb36):=aG JQ 36 (by kernel_rfl) _ (Ug)
def S76:FunS:=⟨[utP 0 0,utD 61,utI],[(.lst true 86),(.cells [ufO 1 86,utB])],[utS (.tup [])],[(.lst true 86), .skip,(.cells [utO 2 86,utB])]⟩
def Uh (Q:uAC):Tb:=Tb.addF tb36 76 S76 Q
theorem Ui (Q:uAC) (hQ:aY env.P 76 S76 Q):TbOk env (Uh Q):=TbOk.addF Mj (by kernel_rfl) hQ
def S76_8:LoopS:=⟨2,ufP 0 0::uF::ufI::uF::ufP 3 0::uF::uF::uF::utI::uAA 47 [],[(.dat false 61),(.lst true 86), .skip,(.cells [ufO 2 86,utB])],[⟨0,0,uT::uT::ufI::uAB 53 [],[(.dat false 61),(.lst true 86), .skip,(.cells [utO 2 86,utB])]⟩]⟩
def Ck (Q:uAC) (p s:List D):Option (Sum (List D) (List D)):=aR env (Uh Q) 60 12 76 (aW 76 8) S76_8 p s
theorem Uj (Q:uAC) (pn0:Int) (pd1:D) (sn0:Int) (sd1:D) (sb2:Bool):Ck Q [(D.int pn0),pd1] [(D.int sn0),sd1,(D.bool sb2)] =
 let x0:=aa pd1 4
 let x1:=ae .eql (ai sd1) (ai sd1)
 let x2:=D.int pn0
 let x3:=Q [ay x0 sn0,x2,sd1,.bool sb2]
 bif ae .lss sn0 (ai x0)then gd (aI x0 sn0)<|gd x1<|gd (uZZ x3)<|gd (ae .eql (ai (ar x3 0)) (ai (ar x3 0)))<|ge x2<|ge pd1<|some (Sum.inl [.int (aQ .add .i64 sn0 1),ar x3 0,.bool (aJ (ar x3 1))])else gd x1<|ge x2<|ge pd1<|some (Sum.inr [.int 0,sd1,.bool sb2]):=by kernel_rfl
def OW:=by have h:= @Uj;simp only[aN,gd,aq,aj,aE,aK,az,aM,cond_true]at h;exact h
def Gx (Q:uAC):List D->uAC:=veil fun p s=>loW (Ck Q p) s
theorem Gy (Q:uAC):Gx Q=fun p s=>loW (Ck Q p) s:=ak _
def Cl (Q:uAC):Tb:=Tb.addL (Uh Q) 76 8 S76_8.n0 (bu S76_8 (Gx Q))
theorem JR (Q:uAC) (hQ:aY env.P 76 S76 Q):TbOk env (Cl Q):=aF (Ui Q hQ) 76 8 (by kernel_rfl) _ (Gy Q)
def Fb76 (Q:uAC):uAC:=aS env (Cl Q) 60 12 76 S76
theorem Fb76_e (Q:uAC) (sd0:D) (sn1:Int) (sd2:D) (sb3:Bool):Fb76 Q [sd0,(D.int sn1),sd2,(D.bool sb3)] =
 let x0:=q21 [ay (aa sd0 4) 0]
 let x1:=q75 [.int sn1,.int (ah (ar x0 0))]
 let x2:=ae .eql (ai sd2) (ai sd2)
 let x3:=bN sd2 (.list [.agg [.int (ah (ar x1 0)),.int (ah (aa sd0 3)),.bool false]])
 let x4:=ai x3
 let x5:=q52 [sd0]
 let x6:=Gx Q [.int sn1,sd0] [.int 0,sd2,.bool true]
 let x7:=Gx Q [.int sn1,sd0] [.int 0,sd2,.bool sb3]
 let x8:Option (List D):=gd (uZZ x5)<|bif aJ (ar x5 0)then gd x2<|gd (uZZ x6)<|gd (ae .eql (ai (ar x6 1)) (ai (ar x6 1)))<|some [ar x6 1,.bool (aJ (ar x6 2))]else gd x2<|gd (uZZ x7)<|gd (ae .eql (ai (ar x7 1)) (ai (ar x7 1)))<|some [ar x7 1,.bool (aJ (ar x7 2))]
 bif ae .eql (ah (aa sd0 0)) 18 then gd (aI (aa sd0 4) 0)<|gd (uZZ x0)<|bif aJ (ar x0 1)then gd (uZZ x1)<|gd x2<|gd (bF x4 24)<|gd (ae .eql x4 x4)<|some [x3,.bool sb3]else x8 else x8:=by kernel_rfl
def Fb76_eq:=by have h:= @Fb76_e;simp only[aN,gd,aq,aj,aE,aK,az,aM,cond_true]at h;exact h
def F76:Nat->uAC:=levels Fb76
theorem F76_s (n:Nat):F76 (n+1)=Fb76 (F76 n):=rfl
def q76:uAC:=veil fun ds=>F76 (bE ds) ds
theorem Uk:q76=fun ds=>F76 (bE ds) ds:=ak _
theorem sound76:aY env.P 76 S76 q76:=nK (fun q=>Cl q) (fun q hq=>JR q hq) Uk
def tb76:Tb:=Tb.addF tb36 76 S76 q76
theorem ok_tb76:TbOk env tb76:=TbOk.addF Mj (by kernel_rfl) sound76
def S37_3:LoopS:=⟨2,ufP 0 0::uF::ufI::uF::ufP 3 0::uF::utI::uAA 56 [],[(.dat false 57),(.lst true 86), .skip,(.cells [ufO 2 86,utB])],[⟨0,0,uT::uT::ufI::uAB 60 [],[(.dat false 57),(.lst true 86), .skip,(.cells [utO 2 86,utB])]⟩]⟩
def jK (p s:List D):Option (Sum (List D) (List D)):=aR env tb76 60 12 37 (aW 37 3) S37_3 p s
theorem Ul (pn0:Int) (pd1:D) (sn0:Int) (sd1:D) (sb2:Bool):jK [(D.int pn0),pd1] [(D.int sn0),sd1,(D.bool sb2)] =
 let x0:=aa pd1 6
 let x1:=q21 [ay x0 0]
 let x2:=D.int pn0
 let x3:=q75 [x2,.int (ah (ar x1 0))]
 let x4:=ae .eql (ai sd1) (ai sd1)
 let x5:=bN sd1 (.list [.agg [.int (ah (ar x3 0)),.int (ah (aa pd1 2)),.bool true]])
 let x6:=ai x5
 let x7:=D.int (aQ .add .i64 sn0 1)
 let x8:=D.bool sb2
 let x9:=q76 [ay x0 sn0,x2,sd1,x8]
 let x10:Option (List D ⊕ List D):=gd (aI x0 sn0)<|gd x4<|gd (uZZ x9)<|gd (ae .eql (ai (ar x9 0)) (ai (ar x9 0)))<|ge x2<|ge pd1<|some (Sum.inl [x7,ar x9 0,.bool (aJ (ar x9 1))])
 bif ae .lss sn0 (ai x0)then bif aA (ae .eql (ah (aa pd1 0)) 2) (ae .eql sn0 0) false then gd (aI x0 0)<|gd (uZZ x1)<|bif aJ (ar x1 1)then gd (uZZ x3)<|gd x4<|gd (bF x6 24)<|gd (ae .eql x6 x6)<|ge x2<|ge pd1<|some (Sum.inl [x7,x5,x8])else x10 else x10 else gd x4<|ge x2<|ge pd1<|some (Sum.inr [.int 0,sd1,x8]):=by kernel_rfl
def zB:=by have h:= @Ul;simp only[aN,gd,aq,aj,aE,aK,az,aM,cond_true]at h;exact h
def Mk:List D->uAC:=veil fun p s=>loW (jK p) s
theorem Gz:Mk=fun p s=>loW (jK p) s:=ak _
def Cm:Tb:=Tb.addL tb76 37 3 S37_3.n0 (bu S37_3 (Mk))
theorem JS:TbOk env (Cm):=aF ok_tb76 37 3 (by kernel_rfl) _ (Gz)
def S37:FunS:=⟨[utP 0 0,utD 57,utI],[(.lst true 86),(.cells [ufO 1 86,utB])],[utS (.tup [])],[(.lst true 86), .skip,(.cells [utO 2 86,utB])]⟩
def F37:uAC:=aS env Cm 60 12 37 S37
theorem F37_e (sd0:D) (sn1:Int) (sd2:D) (sb3:Bool):F37 [sd0,(D.int sn1),sd2,(D.bool sb3)] =
 let x0:=ae .eql (ai sd2) (ai sd2)
 let x1:=Mk [.int sn1,sd0] [.int 0,sd2,.bool sb3]
 bif aA (ae .eql (ah (aa sd0 0)) 1) (ae .eql (ah (aa sd0 1)) 7) false then gd x0<|some [sd2,.bool sb3]else gd x0<|gd (uZZ x1)<|gd (ae .eql (ai (ar x1 1)) (ai (ar x1 1)))<|some [ar x1 1,.bool (aJ (ar x1 2))]:=by kernel_rfl
def F37_eq:=by have h:= @F37_e;simp only[aN,gd,aq,aj,aE,aK,az,aM,cond_true]at h;exact h
def q37:uAC:=veil (F37)
theorem Um:q37=F37:=ak _
def tb37:Tb:=Tb.addF Cm 37 S37 (q37)
theorem Ml:TbOk env (tb37):=aG JS 37 (by kernel_rfl) _ (Um)
def S39_o_2:LoopS:=⟨1,ufO 0 88::uF::uF::ufP 1 0::ufN::utI::uAA 99 [],[(.dat false 86),(.lst false 88)],[⟨0,0,utO 0 88::uT::uT::utP 1 0::utN::utI::uAB 99 [],[(.dat false 86),(.lst false 88)]⟩]⟩
def nZ (p s:List D):Option (Sum (List D) (List D)):=aR env tb37 60 12 39 (aW 39 2) S39_o_2 p s
theorem JT (pd0:D) (pd1:D) (sn0:Int):nZ [pd0,pd1] [(D.int sn0)] =
 let x0:=ai pd1
 let x1:=ae .lss sn0 x0
 let x2:=ae .leq 0 sn0
 let x3:=aI pd1 sn0
 let x4:=ay pd1 sn0
 let x5:=ah (aa x4 0)
 let x6:=ah (aa pd0 0)
 let x7:=ae .eql x0 x0
 let x8:Option (List D ⊕ List D):=gd x7<|ge pd0<|ge pd1<|some (Sum.inl [.int (aQ .add .i64 sn0 1)])
 let x9:Option (List D ⊕ List D):=gd x7<|ge pd0<|ge pd1<|some (Sum.inr [.int 0,.int sn0])
 bif x1 then gd x2<|gd x1<|gd x3<|bif ae .lss x5 x6 then x8 else gd x2<|gd x1<|gd x3<|bif ae .eql x5 x6 then gd x2<|gd x1<|gd x3<|bif ae .lss (ah (aa x4 1)) (ah (aa pd0 1))then x8 else x9 else x9 else x9:=by kernel_rfl
def GA:=by have h:= @JT;simp only[aN,gd,aq,aj,aE,aK,az,aM,cond_true]at h;exact h
def rS:List D->uAC:=veil fun p s=>loW (nZ p) s
theorem wj:rS=fun p s=>loW (nZ p) s:=ak _
def pC:Tb:=Tb.addL tb37 39 2 S39_o_2.n0 (bu S39_o_2 (rS))
theorem n5:TbOk env (pC):=aF Ml 39 2 (by kernel_rfl) _ (wj)
def Un:FunS:=⟨[utO 0 88,utD 86],[(.lst true 88)],[utO 1 88],[(.lst true 88), .skip]⟩
def wk:uAC:=aS env pC 60 12 39 Un
theorem F39_o_e (sd0:D) (sd1:D):wk [sd0,sd1] =
 let x0:=ai sd1
 let x1:=ae .eql x0 x0
 let x2:=D.int 0
 let x3:=rS [sd0,sd1] [x2]
 let x4:=ah (ar x3 1)
 let x5:=ae .eql x4 x0
 let x6:=ae .leq 0 x4
 let x7:=ah (aa sd0 0)
 let x8:=ah (aa sd0 1)
 let x9:Option (List D):=gd x6<|gd (ae .leq x4 x0)<|gd x5<|gd (bF x0 40)<|gd x1<|gd (bF (ai (bN sd1 (.list [.agg [.int x7,.int x8,x2,x2,.bool false]]))) 40) none
 let x10:=ae .lss x4 x0
 let x11:=aI sd1 x4
 let x12:=ay sd1 x4
 let x13:=ah (aa x12 0)
 let x14:=ah (aa x12 1)
 let x15:=ah (aa x12 2)
 let x16:=ah (aa x12 3)
 let x17:=D.bool (aJ (aa x12 4))
 let x18:=cz sd1 x4 (.agg [.int x13,.int x14,.int x15,.int (aQ .add .i64 x16 1),x17])
 let x19:=cz sd1 x4 (.agg [.int x13,.int x14,.int (aQ .add .i64 x15 1),.int x16,x17])
 gd x1<|gd (uZZ x3)<|bif x5 then x9 else gd x6<|gd x10<|gd x11<|bif ae .neq x13 x7 then x9 else gd x6<|gd x10<|gd x11<|bif ae .neq x14 x8 then x9 else bif aJ (aa sd0 2)then gd x6<|gd x10<|gd x11<|gd x6<|gd x10<|gd x11<|gd (ae .eql x0 (ai x18))<|some [x18]else gd x6<|gd x10<|gd x11<|gd x6<|gd x10<|gd x11<|gd (ae .eql x0 (ai x19))<|some [x19]:=by kernel_rfl
def GB:=by have h:= @F39_o_e;simp only[aN,gd,aq,aj,aE,aK,az,aM,cond_true]at h;exact h
def q39_o:uAC:=veil (wk)
theorem Uo:q39_o=wk:=ak _
def JU:Tb:=Tb.addF pC 39 Un (q39_o)
theorem OX:TbOk env (JU):=aG n5 39 (by kernel_rfl) _ (Uo)
def S39_r_2:LoopS:=⟨1,ufR 88::uF::uF::ufP 1 0::ufN::utI::uAA 99 [],[(.dat false 86), .skip],[⟨0,0,ufR 88::uT::uT::utP 1 0::utN::utI::uAB 99 [],[(.dat false 86), .skip]⟩]⟩
def n7 (p s:List D):Option (Sum (List D) (List D)):=aR env JU 60 12 39 (aW 39 2) S39_r_2 p s
theorem JV (pd0:D) (pd1:D) (sn0:Int):n7 [pd0,pd1] [(D.int sn0)] =
 let x0:=aI pd0 sn0
 let x1:=ay pd0 sn0
 let x2:=ah (aa x1 0)
 let x3:=ah (aa pd1 0)
 let x4:Option (List D ⊕ List D):=ge pd0<|ge pd1<|some (Sum.inl [.int (aQ .add .i64 sn0 1)])
 let x5:Option (List D ⊕ List D):=ge pd0<|ge pd1<|some (Sum.inr [.int 0,.int sn0])
 bif ae .lss sn0 (ai pd0)then gd x0<|bif ae .lss x2 x3 then x4 else gd x0<|bif ae .eql x2 x3 then gd x0<|bif ae .lss (ah (aa x1 1)) (ah (aa pd1 1))then x4 else x5 else x5 else x5:=by kernel_rfl
def GC:=by have h:= @JV;simp only[aN,gd,aq,aj,aE,aK,az,aM,cond_true]at h;exact h
def rT:List D->uAC:=veil fun p s=>loW (n7 p) s
theorem wl:rT=fun p s=>loW (n7 p) s:=ak _
def zC:Tb:=Tb.addL JU 39 2 S39_r_2.n0 (bu S39_r_2 (rT))
theorem Cn:TbOk env (zC):=aF OX 39 2 (by kernel_rfl) _ (wl)
def Mm:FunS:=⟨[utR 88,utD 86],[.skip],[utO 1 88],[(.lst true 88), .skip]⟩
def Up:uAC:=aS env zC 60 12 39 Mm
theorem F39_r_e (sd0:D) (sd1:D):Up [sd0,sd1] =
 let x0:=D.int 0
 let x1:=rT [sd0,sd1] [x0]
 let x2:=ah (ar x1 1)
 let x3:=ai sd0
 let x4:=ae .leq 0 x2
 let x5:=ae .leq x2 x3
 let x6:=cj sd0 0 x2
 let x7:=ai x6
 let x8:=ah (aa sd1 0)
 let x9:=ah (aa sd1 1)
 let x10:=bN x6 (.list [.agg [.int x8,.int x9,x0,x0,.bool false]])
 let x11:=ai x10
 let x12:=bN x10 (cj sd0 x2 x3)
 let x13:=ai x12
 let x14:=aJ (aa sd1 2)
 let x15:=ae .lss x2 x13
 let x16:=aI x12 x2
 let x17:=ay x12 x2
 let x18:=D.int (ah (aa x17 0))
 let x19:=D.int (ah (aa x17 1))
 let x20:=ah (aa x17 2)
 let x21:=ah (aa x17 3)
 let x22:=D.bool (aJ (aa x17 4))
 let x23:=cz x12 x2 (.agg [x18,x19,.int x20,.int (aQ .add .i64 x21 1),x22])
 let x24:=cz x12 x2 (.agg [x18,x19,.int (aQ .add .i64 x20 1),.int x21,x22])
 let x25:Option (List D):=gd (ae .leq 0 0)<|gd x4<|gd x5<|gd (bF x7 40)<|gd (ae .eql x7 x7)<|gd (bF x11 40)<|gd x4<|gd x5<|gd (ae .leq x3 x3)<|gd (ae .eql x11 x11)<|gd (bF x13 40)<|bif x14 then gd x4<|gd x15<|gd x16<|gd x4<|gd x15<|gd x16<|gd (ae .eql x13 (ai x23))<|some [x23]else gd x4<|gd x15<|gd x16<|gd x4<|gd x15<|gd x16<|gd (ae .eql x13 (ai x24))<|some [x24]
 let x26:=aI sd0 x2
 let x27:=ay sd0 x2
 let x28:Option (List D):=gd x26<|gd x26 none
 gd (uZZ x1)<|bif ae .eql x2 x3 then x25 else gd x26<|bif ae .neq (ah (aa x27 0)) x8 then x25 else gd x26<|bif ae .neq (ah (aa x27 1)) x9 then x25 else bif x14 then x28 else x28:=by kernel_rfl
def Uq:=by have h:= @F39_r_e;simp only[aN,gd,aq,aj,aE,aK,az,aM,cond_true]at h;exact h
end
end Go.Proofs.YtfdedgmlafelaaaGreatDoor
namespace Go.Proofs.YtfdedgmlafelaaaGreatDoor
open Go Go.AM
def S39:FunS:=⟨[utO 0 88,utD 86],[(.lst true 88)],[utO 1 88],[(.lst true 88), .skip]⟩
noncomputable def F39 (ds:List D):Option (List D):=match wk ds with
 |some r=>some r
 |none=>Up [ds.getD 1 .other,ds.getD 0 .other]
noncomputable def q39:uAC:=veil F39
theorem Ur:q39=F39:=ak _
theorem sound39:aY env.P 39 S39 q39:=by
 intro p s r hp hq;obtain rfl:p = []:=List.length_eq_zero_iff.1 hp;rw[Ur]at hq;unfold F39 at hq;rw[List.nil_append]at hq;cases ho:wk s with
 |some r'=>
  rw[ho]at hq;cases hq;exact dG iP n5 60 12 (f:=39) (S:=Un) [] s r rfl ho
 |none=>
  rw[ho]at hq;have ha:qM S39 [] s = [.osl 0 88 (ai (s.getD 1 .other)), .dat 86 (s.getD 0 .other)]:=by
   cases s with
   |nil=>rfl
   |cons x t=>cases t<;>rfl
  have hh:dF S39 [] s=⟨1,[some (.lst 88 (s.getD 1 .other))],true⟩:=by
   cases s with
   |nil=>rfl
   |cons x t=>cases t<;>rfl
  rw[ha,hh];generalize s.getD 1 .other=d at *;generalize s.getD 0 .other=x at *;have snd:=dG iP Cn 60 12 (f:=39) (S:=Mm) [] [d,x] r rfl hq;intro lo w0 ρ E w vs inv ra;obtain⟨inv1,hnew⟩:=inv.freeze [0];have hk:kill [0] (⟨1,[some (.lst 88 d)],true⟩:Hp)=dF Mm [] [d,x]:=rfl;rw[hk]at inv1;have ra1:RepL ρ (Efz ρ E ⟨1,[some (.lst 88 d)],true⟩ [0]) w (qM Mm [] [d,x]) vs.toList:=by
   show RepL ρ (Efz ρ E ⟨1,[some (.lst 88 d)],true⟩ [0]) w [.rows 88 d, .dat 86 x] vs.toList
   obtain⟨vl⟩:=vs;simp only[RepL]at ra ⊢;obtain⟨v,vs',rfl,h1,v2,vs2,rfl,h2,rfl⟩:=ra;refine⟨v,_,rfl,?_,v2,_,rfl,h2.mono Efz.ext,rfl⟩
   have:=iG inv aB (.osl 0 88 (ai d)) (.rows 88 d) v rfl (by
    show aX [ae .eql (ai d) (ai d)]=true
    rw[aj];rfl) h1 (E1:=Efz ρ E ⟨1,[some (.lst 88 d)],true⟩ [0]) Efz.tin (.inr fun b hb=> .inl hb)
   simp only[Rep]at this ⊢;exact this
  refine(snd lo w0 ρ _ w vs inv1 ra1).mono ?_
  rintro e w' ⟨u,ρ',E',he,i2,rch,rep⟩;exact⟨u,ρ',E',he,i2,Reach.trans ⟨Efz.ext,hnew⟩ rch,rep⟩
noncomputable def tb39:Tb:=Tb.addF tb37 39 S39 q39
theorem ok_tb39:TbOk env tb39:=TbOk.addF Ml (by kernel_rfl) sound39
end Go.Proofs.YtfdedgmlafelaaaGreatDoor
open Go Go.AM
namespace Go.Proofs.YtfdedgmlafelaaaGreatDoor
noncomputable section
def S11_16:LoopS:=⟨0,uF::ufP 0 0::ufP 1 0::ufZ::uF::ufR 3::uF::ufR 4::ufP 2 0::ufP 4 0::ufI::utI::utI::uAA 204 [],[(.cells [utI,ufN,utB]),(.lst true 86),(.cells [ufO 3 86,utB]),(.cells [ufZ,ufN,ufS (.lit (.bool false))]),(.dat false 25)],[⟨0,2,uT::utP 0 0::utP 1 0::utZ::uT::ufR 3::uT::ufR 4::utP 2 0::utP 4 0::ufI::uAB 206 [],[(.cells [utI,utN,utB]),(.lst true 86),(.cells [utO 3 86,utB]),(.cells [utZ,utN,utS (.lit (.bool false))]),(.dat false 25)]⟩]⟩
def lB (p s:List D):Option (Sum (List D) (List D)):=aR env tb39 60 12 11 (aW 11 16) S11_16 p s
theorem OY (pd0:D) (pd1:D) (pn2:Int) (pd3:D) (sn0:Int) (sn1:Int) (sn2:Int) (sb3:Bool) (sd4:D) (sb5:Bool):lB [pd0,pd1,(D.int pn2),pd3] [(D.int sn0),(D.int sn1),(D.int sn2),(D.bool sb3),sd4,(D.bool sb5)] =
 let x0:=aI (aa pd3 1) pn2
 let x1:=aa (ay (aa pd3 1) pn2) 1
 let x2:=qun .neg .i64 sn0
 let x3:=ay x1 sn1
 let x4:=aA (ae .eql (ah (aa x3 0)) 9) (ae .neq sn0 4) false
 let x5:=ae .eql (ai sd4) (ai sd4)
 let x6:=q37 [x3,.int sn0,sd4,.bool sb5]
 let x7:=uZZ x6
 let x8:=q38 [x3,.int sn0]
 let x9:=uZZ x8
 let x10:=ar x6 0
 let x11:=ae .eql (ai x10) (ai x10)
 let x12:=D.int pn2
 let x13:=D.int (ah (ar x8 0))
 let x14:=D.int (aQ .add .i64 sn1 1)
 let x15:=D.bool false
 let x16:=D.bool (aJ (ar x6 1))
 let x17:=D.bool sb3
 let x18:=D.int sn2
 gd x0<|bif ae .lss sn1 (ai x1)then gd x0<|gd (aI x1 sn1)<|bif ae .gtr x2 sn2 then bif x4 then gd x5<|gd x7<|gd x9<|gd x11<|ge pd0<|ge pd1<|ge x12<|ge pd3<|some (Sum.inl [x13,x14,.int x2,x15,x10,x16])else gd x5<|gd x7<|gd x9<|gd x11<|ge pd0<|ge pd1<|ge x12<|ge pd3<|some (Sum.inl [x13,x14,.int x2,x17,x10,x16])else bif x4 then gd x5<|gd x7<|gd x9<|gd x11<|ge pd0<|ge pd1<|ge x12<|ge pd3<|some (Sum.inl [x13,x14,x18,x15,x10,x16])else gd x5<|gd x7<|gd x9<|gd x11<|ge pd0<|ge pd1<|ge x12<|ge pd3<|some (Sum.inl [x13,x14,x18,x17,x10,x16])else gd x5<|ge pd0<|ge pd1<|ge x12<|ge pd3<|some (Sum.inr [.int 0,x18,x17,sd4,.bool sb5]):=by kernel_rfl
def wm:=by have h:= @OY;simp only[aN,gd,aq,aj,aE,aK,az,aM,cond_true]at h;exact h
def Co:List D->uAC:=veil fun p s=>loW (lB p) s
theorem zD:Co=fun p s=>loW (lB p) s:=ak _
def wn:Tb:=Tb.addL tb39 11 16 S11_16.n0 (bu S11_16 (Co))
theorem GD:TbOk env (wn):=aF ok_tb39 11 16 (by kernel_rfl) _ (zD)
def S11_11:LoopS:=⟨0,uF::ufP 0 0::ufP 1 0::ufZ::uF::ufR 3::uF::ufR 4::ufP 2 0::ufP 4 0::utI::uAA 206 [],[(.cells [utI,ufN,utB]),(.lst true 86),(.cells [ufO 3 86,utB]),(.cells [ufZ,ufN,ufS (.lit (.bool false))]),(.dat false 25)],[⟨0,0,uT::uT::utP 1 0::utZ::uT::ufR 3::uT::ufR 4::utP 2 0::utP 4 0::uAB 207 [],[(.cells [utI,utN,utB]),(.lst true 86),(.cells [utO 3 86,utB]),(.cells [utZ,utN,utS (.lit (.bool false))]),(.dat false 25)]⟩]⟩
def rU (p s:List D):Option (Sum (List D) (List D)):=aR env wn 60 12 11 (aW 11 11) S11_11 p s
theorem OZ (pd0:D) (pd1:D) (pd2:D) (sn0:Int) (sn1:Int) (sb2:Bool) (sd3:D) (sb4:Bool):rU [pd0,pd1,pd2] [(D.int sn0),(D.int sn1),(D.bool sb2),sd3,(D.bool sb4)] =
 let x0:=ae .eql (ai sd3) (ai sd3)
 let x1:=D.int (aQ .add .i64 sn0 1)
 let x2:=D.int sn1
 let x3:=D.bool sb2
 let x4:=D.bool sb4
 let x5:=Co [pd0,pd1,.int sn0,pd2] [.int (ah (ay pd0 sn0)),.int 0,x2,x3,sd3,x4]
 bif ae .lss sn0 (ai (aa pd2 1))then gd (aI pd1 sn0)<|bif ca (aJ (ay pd1 sn0))then gd x0<|ge pd0<|ge pd1<|ge pd2<|some (Sum.inl [x1,x2,x3,sd3,x4])else gd (aI pd0 sn0)<|gd x0<|gd (uZZ x5)<|gd (ae .eql (ai (ar x5 3)) (ai (ar x5 3)))<|ge pd0<|ge pd1<|ge pd2<|some (Sum.inl [x1,.int (ah (ar x5 1)),.bool (aJ (ar x5 2)),ar x5 3,.bool (aJ (ar x5 4))])else gd x0<|ge pd0<|ge pd1<|ge pd2<|some (Sum.inr [.int 0,x2,x3,sd3,x4]):=by kernel_rfl
def wo:=by have h:= @OZ;simp only[aN,gd,aq,aj,aE,aK,az,aM,cond_true]at h;exact h
def Cp:List D->uAC:=veil fun p s=>loW (rU p) s
theorem zE:Cp=fun p s=>loW (rU p) s:=ak _
def wq:Tb:=Tb.addL wn 11 11 S11_11.n0 (bu S11_11 (Cp))
theorem GE:TbOk env (wq):=aF GD 11 11 (by kernel_rfl) _ (zE)
def S11_27:LoopS:=⟨0,uF::uF::ufP 0 0::ufZ::uF::uF::uF::uF::ufP 1 0::ufP 3 0::uAA 6 (utI::uAA 200 []),[(.lst true 88),(.cells [ufI,ufO 4 88,ufB]),(.lst false 86),(.cells [ufO 2 86,ufB]),(.cells [ufZ,ufN,ufS (.lit (.bool false))])],[⟨0,4,uT::uT::utP 0 0::utZ::uT::uT::uT::uT::utP 1 0::utP 3 0::uAB 207 [],[(.lst true 88),(.cells [ufI,utO 4 88,ufB]),(.lst false 86),(.cells [utO 2 86,ufB]),(.cells [utZ,utN,utS (.lit (.bool false))])]⟩]⟩
def rV (p s:List D):Option (Sum (List D) (List D)):=aR env wq 60 12 11 (aW 11 27) S11_27 p s
theorem O0 (pn0:Int) (pb1:Bool) (pd2:D) (pb3:Bool) (sn0:Int) (sd1:D):rV [(D.int pn0),(D.bool pb1),pd2,(D.bool pb3)] [(D.int sn0),sd1] =
 let x0:=ai pd2
 let x1:=ae .lss sn0 x0
 let x2:=ae .leq 0 sn0
 let x3:=aI pd2 sn0
 let x4:=ay pd2 sn0
 let x5:=ae .eql (ai sd1) (ai sd1)
 let x6:=q39 [x4,sd1]
 let x7:=ae .eql x0 x0
 let x8:=D.int pn0
 let x9:=D.bool pb1
 let x10:=D.bool pb3
 let x11:=D.int (aQ .add .i64 sn0 1)
 bif x1 then gd x2<|gd x1<|gd x3<|bif ae .lss (ah (aa x4 0)) 0 then gd x2<|gd x1<|gd x3<|gd x5<|gd (uZZ x6)<|gd (ae .eql (ai (ar x6 0)) (ai (ar x6 0)))<|gd x7<|ge x8<|ge x9<|ge pd2<|ge x10<|some (Sum.inl [x11,ar x6 0])else gd x5<|gd x7<|ge x8<|ge x9<|ge pd2<|ge x10<|some (Sum.inl [x11,sd1])else gd x5<|gd x7<|ge x8<|ge x9<|ge pd2<|ge x10<|some (Sum.inr [.int 0,sd1]):=by kernel_rfl
def ws:=by have h:= @O0;simp only[aN,gd,aq,aj,aE,aK,az,aM,cond_true]at h;exact h
def Cq:List D->uAC:=veil fun p s=>loW (rV p) s
theorem zF:Cq=fun p s=>loW (rV p) s:=ak _
def wu:Tb:=Tb.addL wq 11 27 S11_27.n0 (bu S11_27 (Cq))
theorem GF:TbOk env (wu):=aF GE 11 27 (by kernel_rfl) _ (zF)
def S11_39:LoopS:=⟨0,uF::uF::ufP 0 0::ufZ::uF::uF::uF::uF::ufP 1 0::ufP 3 0::uAA 7 (ufI::ufP 5 0::utB::utI::uAA 196 []),[(.dat false 88),(.lst false 88),(.cells [ufI,ufO 4 88,ufB]),(.lst false 86),(.cells [ufO 2 86,ufB]),(.cells [ufZ,ufN,ufS (.lit (.bool false))])],[⟨0,8,uT::uT::utP 0 0::utZ::uT::uT::uT::uT::utP 1 0::utP 3 0::uAB 7 (ufI::uT::utB::uAB 197 []),[(.dat false 88),(.lst false 88),(.cells [ufI,utO 4 88,ufB]),(.lst false 86),(.cells [utO 2 86,ufB]),(.cells [utZ,utN,utS (.lit (.bool false))])]⟩]⟩
def rW (p s:List D):Option (Sum (List D) (List D)):=aR env wu 60 12 11 (aW 11 39) S11_39 p s
theorem O1 (pn0:Int) (pd1:D) (pd2:D) (pn3:Int) (pb4:Bool) (pd5:D) (pb6:Bool) (sb0:Bool) (sn1:Int):rW [(D.int pn0),pd1,pd2,(D.int pn3),(D.bool pb4),pd5,(D.bool pb6)] [(D.bool sb0),(D.int sn1)] =
 let x0:=ai pd2
 let x1:=ae .lss sn1 x0
 let x2:=ae .eql x0 x0
 let x3:=ae .eql (ai pd5) (ai pd5)
 let x4:=D.int pn0
 let x5:=D.int pn3
 let x6:=D.bool pb4
 let x7:=D.bool pb6
 let x8:=D.int (aQ .add .i64 sn1 1)
 let x9:=ay pd2 sn1
 let x10:=ah (aa x9 0)
 let x11:=ah (aa pd1 0)
 let x12:Option (List D ⊕ List D):=gd x2<|gd x3<|ge x4<|ge pd1<|ge pd2<|ge x5<|ge x6<|ge pd5<|ge x7<|some (Sum.inl [.bool false,x8])
 bif x1 then gd (ae .leq 0 sn1)<|gd x1<|gd (aI pd2 sn1)<|bif sb0 then gd x2<|gd x3<|ge x4<|ge pd1<|ge pd2<|ge x5<|ge x6<|ge pd5<|ge x7<|some (Sum.inl [.bool true,x8])else bif ae .neq sn1 pn0 then bif ae .lss x10 (aQ .add .i64 x11 (ah (aa pd1 1)))then gd x2<|gd x3<|ge x4<|ge pd1<|ge pd2<|ge x5<|ge x6<|ge pd5<|ge x7<|some (Sum.inl [.bool (ae .lss x11 (aQ .add .i64 x10 (ah (aa x9 1)))),x8])else x12 else x12 else gd x2<|gd x3<|ge x4<|ge pd1<|ge pd2<|ge x5<|ge x6<|ge pd5<|ge x7<|some (Sum.inr [.int 0,.bool sb0]):=by kernel_rfl
def wv:=by have h:= @O1;simp only[aN,gd,aq,aj,aE,aK,az,aM,cond_true]at h;exact h
def ww:List D->uAC:=veil fun p s=>loW (rW p) s
theorem zG:ww=fun p s=>loW (rW p) s:=ak _
def wx:Tb:=Tb.addL wu 11 39 S11_39.n0 (bu S11_39 (ww))
theorem GG:TbOk env (wx):=aF GF 11 39 (by kernel_rfl) _ (zG)
def S11_32:LoopS:=⟨0,uF::uF::ufP 0 0::ufZ::uF::uF::uF::uF::ufP 1 0::ufP 3 0::uAA 7 (utI::uAA 199 []),[(.lst true 88),(.cells [utI,ufO 4 88,ufB]),(.lst false 86),(.cells [ufO 2 86,ufB]),(.cells [ufZ,ufN,ufS (.lit (.bool false))])],[⟨0,6,uT::uT::utP 0 0::utZ::uAB 5 (utP 3 0::uAB 207 []),[(.lst true 88),(.cells [utI,utO 4 88,ufB]),(.lst false 86),(.cells [uT,ufB]),(.cells [utZ,utN,utS (.lit (.bool false))])]⟩]⟩
def rX (p s:List D):Option (Sum (List D) (List D)):=aR env wx 60 12 11 (aW 11 32) S11_32 p s
theorem O2 (pb0:Bool) (pd1:D) (pb2:Bool) (sn0:Int) (sd1:D) (sn2:Int):rX [(D.bool pb0),pd1,(D.bool pb2)] [(D.int sn0),sd1,(D.int sn2)] =
 let x0:=ai sd1
 let x1:=ae .lss sn0 x0
 let x2:=ae .leq 0 sn0
 let x3:=aI sd1 sn0
 let x4:=ay sd1 sn0
 let x5:=ah (aa x4 0)
 let x6:=qun .neg .i64 x5
 let x7:=ae .eql x0 x0
 let x8:=ae .eql (ai pd1) (ai pd1)
 let x9:=D.bool pb0
 let x10:=D.bool pb2
 let x11:=ah (aa x4 1)
 let x12:List D:=[.bool (aA (aA pb2 true (ae .gtr (aQ .add .i64 x5 x11) 0)) true (ae .lss x5 (-4092))),.int 0]
 let x13:=ww [.int sn0,x4,sd1,.int x6,x9,pd1,x10] x12
 let x14:=D.int (ah (aa x4 2))
 let x15:=D.int (ah (aa x4 3))
 let x16:=cz sd1 sn0 (.agg [.int x5,.int x11,x14,x15,.bool (aJ (ar x13 1))])
 let x17:=D.int (aQ .add .i64 sn0 1)
 let x18:=D.int sn2
 let x19:=ww [.int sn0,x4,sd1,x18,x9,pd1,x10] x12
 let x20:=cz sd1 sn0 (.agg [.int x5,.int x11,x14,x15,.bool (aJ (ar x19 1))])
 bif x1 then gd x2<|gd x1<|gd x3<|bif ae .gtr x6 sn2 then gd x7<|gd x8<|gd (uZZ x13)<|gd x2<|gd x1<|gd x3<|gd (ae .eql x0 (ai x16))<|gd x8<|ge x9<|ge pd1<|ge x10<|some (Sum.inl [x17,x16,.int x6])else gd x7<|gd x8<|gd (uZZ x19)<|gd x2<|gd x1<|gd x3<|gd (ae .eql x0 (ai x20))<|gd x8<|ge x9<|ge pd1<|ge x10<|some (Sum.inl [x17,x20,x18])else gd x7<|ge x9<|ge pd1<|ge x10<|some (Sum.inr [.int 0,sd1,x18]):=by kernel_rfl
def wy:=by have h:= @O2;simp only[aN,gd,aq,aj,aE,aK,az,aM,cond_true]at h;exact h
def Cr:List D->uAC:=veil fun p s=>loW (rX p) s
theorem zH:Cr=fun p s=>loW (rX p) s:=ak _
def wz:Tb:=Tb.addL wx 11 32 S11_32.n0 (bu S11_32 (Cr))
theorem GH:TbOk env (wz):=aF GG 11 32 (by kernel_rfl) _ (zH)
def S11:FunS:=⟨[utD 25],[],[utS (.tup [(.dat 36),(.int .i64)])],[]⟩
def F11:uAC:=aS env wz 60 12 11 S11
theorem F11_e (sd0:D):F11 [sd0] =
 let x0:=q35 [sd0]
 let x1:=ah (ar x0 0)
 let x2:=D.int 0
 let x3:=D.list []
 let x4:=D.bool false
 let x5:=D.agg [x2,x3,x4]
 let x6:=q18 [sd0]
 let x7:=q36 [sd0]
 let x8:=ae .eql 0 (ai x3)
 let x9:=Cp [ar x6 0,ar x7 0,sd0] [x2,x2,.bool true,x3,x4]
 let x10:=ar x9 3
 let x11:=ae .eql (ai x10) (ai x10)
 let x12:=D.int (ah (ar x9 1))
 let x13:=D.bool (aJ (ar x9 2))
 let x14:=D.bool (aJ (ar x9 4))
 let x15:=Cq [x12,x13,x10,x14] [x2,x3]
 let x16:=Cr [x13,x10,x14] [x2,ar x15 1,x12]
 gd (uZZ x0)<|bif ae .neq x1 0 then some [x5,.int x1]else gd (uZZ x6)<|bif ca (aJ (ar x6 1))then some [x5,.int 19]else gd (uZZ x7)<|gd x8<|gd (uZZ x9)<|gd x8<|gd x11<|gd (uZZ x15)<|gd (ae .eql (ai (ar x15 1)) (ai (ar x15 1)))<|gd x11<|gd (uZZ x16)<|gd (ae .eql (ai (ar x16 1)) (ai (ar x16 1)))<|some [.agg [.int (ah (ar x16 2)),ar x16 1,x13],x2]:=by kernel_rfl
def JW:=by have h:= @F11_e;simp only[aN,gd,aq,aj,aE,aK,az,aM,cond_true]at h;exact h
def q11:uAC:=veil (F11)
theorem Cs:q11=F11:=ak _
def tb11:Tb:=Tb.addF wz 11 S11 (q11)
theorem ok_tb11:TbOk env (tb11):=aG GH 11 (by kernel_rfl) _ (Cs)
def S12_4:LoopS:=⟨0,uF::uF::ufP 0 0::ufP 1 0::ufS (.lit (.bool false))::utI::uAA 39 [],[(.dat false 36),(.dat false 36)],[⟨0,0,uT::uT::uT::uT::utS (.lit (.bool false))::uAB 40 [],[(.dat false 36),(.dat false 36)]⟩,⟨1,0,uT::uT::uT::uT::utS (.lit (.bool false))::uAB 40 [],[(.dat false 36),(.dat false 36)]⟩]⟩
def Ct (p s:List D):Option (Sum (List D) (List D)):=aR env tb11 60 12 12 (aW 12 4) S12_4 p s
theorem Us (pd0:D) (pd1:D) (sn0:Int):Ct [pd0,pd1] [(D.int sn0)] =
 let x0:=aa pd1 1
 let x1:=ay x0 sn0
 let x2:=ay (aa pd0 1) sn0
 bif ae .lss sn0 (ai x0)then gd (aI x0 sn0)<|gd (aI (aa pd0 1) sn0)<|bif ca (bL (ae .eql (ah (aa x1 0)) (ah (aa x2 0))) (bL (ae .eql (ah (aa x1 1)) (ah (aa x2 1))) (bL (ae .eql (ah (aa x1 2)) (ah (aa x2 2))) (bL (ae .eql (ah (aa x1 3)) (ah (aa x2 3))) (g8 (aJ (aa x1 4)) (aJ (aa x2 4)))))))then ge pd0<|ge pd1<|some (Sum.inr [.int 1])else ge pd0<|ge pd1<|some (Sum.inl [.int (aQ .add .i64 sn0 1)])else ge pd0<|ge pd1<|some (Sum.inr [.int 0]):=by kernel_rfl
def zI:=by have h:= @Us;simp only[aN,gd,aq,aj,aE,aK,az,aM,cond_true]at h;exact h
def GI:List D->uAC:=veil fun p s=>loW (Ct p) s
theorem GJ:GI=fun p s=>loW (Ct p) s:=ak _
def Cu:Tb:=Tb.addL tb11 12 4 S12_4.n0 (bu S12_4 (GI))
theorem JX:TbOk env (Cu):=aF ok_tb11 12 4 (by kernel_rfl) _ (GJ)
def S12:FunS:=⟨[utD 36,utD 36],[],[utB],[]⟩
def F12:uAC:=aS env Cu 60 12 12 S12
theorem F12_eq (sd0:D) (sd1:D):F12 [sd0,sd1] =
 bif (aA (aA (ae BinOp.neq (ah (aa sd0 0)) (ah (aa sd1 0))) Bool.true (ca (g8 (aJ (aa sd0 2)) (aJ (aa sd1 2))))) Bool.true (ae BinOp.neq (ai (aa sd0 1)) (ai (aa sd1 1))))then
 some [(D.bool Bool.false)]
 else
 bif (uZZ (GI [sd1,sd0] [(D.int 0)]))then
 bif (ae BinOp.eql (ah (ar (GI [sd1,sd0] [(D.int 0)]) 0)) 0)then
 some [(D.bool Bool.true)]
 else
 some [(D.bool Bool.false)]
 else
 none:=by kernel_rfl
def q12:uAC:=veil (F12)
theorem Ut:q12=F12:=ak _
def tb12:Tb:=Tb.addF Cu 12 S12 (q12)
theorem ok_tb12:TbOk env (tb12):=aG JX 12 (by kernel_rfl) _ (Ut)
def S13_3:LoopS:=⟨0,uF::ufP 0 0::ufP 1 0::ufP 2 0::utI::uAA 35 [],[(.lst true 88),(.cells [ufI,ufO 3 88,ufB]),(.cells [ufZ,ufN,ufS (.lit (.bool false))]),(.dat false 30)],[⟨0,0,uT::uT::utP 1 0::utP 2 0::uAB 36 [],[(.lst true 88),(.cells [ufI,utO 3 88,ufB]),(.cells [utZ,utN,utS (.lit (.bool false))]),(.dat false 30)]⟩]⟩
def Cv (p s:List D):Option (Sum (List D) (List D)):=aR env tb12 60 12 13 (aW 13 3) S13_3 p s
theorem Uu (pn0:Int) (pb1:Bool) (pd2:D) (sn0:Int) (sd1:D):Cv [(D.int pn0),(D.bool pb1),pd2] [(D.int sn0),sd1] =
 let x0:=aa pd2 1
 let x1:=ae .eql (ai sd1) (ai sd1)
 let x2:=ay x0 sn0
 let x3:=bN sd1 (.list [.agg [.int (ah (aa x2 0)),.int (ah (aa x2 1)),.int (ah (aa x2 2)),.int (ah (aa x2 3)),.bool (aJ (aa x2 4))]])
 let x4:=ai x3
 bif ae .lss sn0 (ai x0)then gd (aI x0 sn0)<|gd x1<|gd (bF x4 40)<|gd (ae .eql x4 x4)<|ge (.int pn0)<|ge (.bool pb1)<|ge pd2<|some (Sum.inl [.int (aQ .add .i64 sn0 1),x3])else gd x1<|ge (.int pn0)<|ge (.bool pb1)<|ge pd2<|some (Sum.inr [.int 0,sd1]):=by kernel_rfl
def zJ:=by have h:= @Uu;simp only[aN,gd,aq,aj,aE,aK,az,aM,cond_true]at h;exact h
def Mn:List D->uAC:=veil fun p s=>loW (Cv p) s
theorem GK:Mn=fun p s=>loW (Cv p) s:=ak _
def Cw:Tb:=Tb.addL tb12 13 3 S13_3.n0 (bu S13_3 (Mn))
theorem JY:TbOk env (Cw):=aF ok_tb12 13 3 (by kernel_rfl) _ (GK)
def S13:FunS:=⟨[utD 30],[],[utD 36],[]⟩
def F13:uAC:=aS env Cw 60 12 13 S13
theorem F13_e (sd0:D):F13 [sd0] =
 let x0:=D.int (ah (aa sd0 0))
 let x1:=D.bool (aJ (aa sd0 2))
 let x2:=Mn [x0,x1,sd0] [.int 0,.list []]
 gd (ae .eql 0 (ai (.list [])))<|gd (uZZ x2)<|gd (ae .eql (ai (ar x2 1)) (ai (ar x2 1)))<|some [.agg [x0,ar x2 1,x1]]:=by kernel_rfl
def F13_eq:=by have h:= @F13_e;simp only[aN,gd,aq,aj,aE,aK,az,aM,cond_true]at h;exact h
def q13:uAC:=veil (F13)
theorem Uv:q13=F13:=ak _
def tb13:Tb:=Tb.addF Cw 13 S13 (q13)
theorem ok_tb13:TbOk env (tb13):=aG JY 13 (by kernel_rfl) _ (Uv)
end
end Go.Proofs.YtfdedgmlafelaaaGreatDoor
open Go Go.AM
namespace Go.Proofs.YtfdedgmlafelaaaGreatDoor
end Go.Proofs.YtfdedgmlafelaaaGreatDoor
open Go Go.AM
namespace Go.Proofs.YtfdedgmlafelaaaGreatDoor
noncomputable section
def S40_4:LoopS:=⟨0,uF::uF::ufP 0 0::ufP 1 0::ufS (.lit (.bool false))::uAA 24 (ufI::utI::uAA 14 []),[(.dat false 30),(.dat false 30)],[⟨0,0,uT::uT::uT::uT::utS (.lit (.bool false))::uAB 24 (ufI::uAB 15 []),[(.dat false 30),(.dat false 30)]⟩,⟨1,0,uT::uT::uT::uT::utS (.lit (.bool false))::uAB 24 (ufI::uAB 15 []),[(.dat false 30),(.dat false 30)]⟩]⟩
def Cx (p s:List D):Option (Sum (List D) (List D)):=aR env tb13 60 12 40 (aW 40 4) S40_4 p s
theorem Uw (pn0:Int) (pd1:D) (pd2:D) (sn0:Int):Cx [(D.int pn0),pd1,pd2] [(D.int sn0)] =
 let x0:=ay (aa pd2 1) sn0
 let x1:=ay (aa pd1 1) sn0
 let x2:=D.int pn0
 bif ae .lss sn0 pn0 then gd (aI (aa pd2 1) sn0)<|gd (aI (aa pd1 1) sn0)<|bif ca (bL (ae .eql (ah (aa x0 0)) (ah (aa x1 0))) (bL (ae .eql (ah (aa x0 1)) (ah (aa x1 1))) (bL (ae .eql (ah (aa x0 2)) (ah (aa x1 2))) (bL (ae .eql (ah (aa x0 3)) (ah (aa x1 3))) (g8 (aJ (aa x0 4)) (aJ (aa x1 4)))))))then ge x2<|ge pd1<|ge pd2<|some (Sum.inr [.int 1])else ge x2<|ge pd1<|ge pd2<|some (Sum.inl [.int (aQ .add .i64 sn0 1)])else ge x2<|ge pd1<|ge pd2<|some (Sum.inr [.int 0]):=by kernel_rfl
def zK:=by have h:= @Uw;simp only[aN,gd,aq,aj,aE,aK,az,aM,cond_true]at h;exact h
def Mo:List D->uAC:=veil fun p s=>loW (Cx p) s
theorem GL:Mo=fun p s=>loW (Cx p) s:=ak _
def Cy:Tb:=Tb.addL tb13 40 4 S40_4.n0 (bu S40_4 (Mo))
theorem JZ:TbOk env (Cy):=aF ok_tb13 40 4 (by kernel_rfl) _ (GL)
def S40:FunS:=⟨[utD 30,utD 30],[],[utB],[]⟩
def F40:uAC:=aS env Cy 60 12 40 S40
theorem F40_e (sd0:D) (sd1:D):F40 [sd0,sd1] =
 let x0:=ai (aa sd0 1)
 let x1:Option (List D):=some [.bool false]
 let x2:=Mo [.int x0,sd1,sd0] [.int 0]
 bif aA (aA (ae .neq (ah (aa sd0 0)) (ah (aa sd1 0))) true (ca (g8 (aJ (aa sd0 2)) (aJ (aa sd1 2))))) true (ae .neq x0 (ai (aa sd1 1)))then x1 else gd (uZZ x2)<|bif ae .eql (ah (ar x2 0)) 0 then some [.bool true]else x1:=by kernel_rfl
def F40_eq:=by have h:= @F40_e;simp only[aN,gd,aq,aj,aE,aK,az,aM,cond_true]at h;exact h
def q40:uAC:=veil (F40)
theorem Ux:q40=F40:=ak _
def tb40:Tb:=Tb.addF Cy 40 S40 (q40)
theorem ok_tb40:TbOk env (tb40):=aG JZ 40 (by kernel_rfl) _ (Ux)
def S80:FunS:=⟨[utD 57],[],[utB],[]⟩
def F80:uAC:=aS env tb40 60 12 80 S80
theorem F80_eq (sd0:D):F80 [sd0] =
 some [(D.bool (ae BinOp.eql (ah (aa sd0 0)) 5))]:=by kernel_rfl
def q80:uAC:=veil (F80)
theorem Uy:q80=F80:=ak _
def tb80:Tb:=Tb.addF tb40 80 S80 (q80)
theorem ok_tb80:TbOk env (tb80):=aG ok_tb40 80 (by kernel_rfl) _ (Uy)
def S116_80_2:LoopS:=⟨0,ufR 57::ufS (.func 80 [] [])::uF::uF::ufZ::uF::uF::ufI::utI::uAA 10 [],[],[⟨0,0,ufR 57::uT::uT::uT::utZ::uT::uT::ufI::uAB 11 [],[]⟩,⟨1,0,ufR 57::uT::uT::uT::utI::uT::uT::ufI::uAB 11 [],[]⟩]⟩
def jL (p s:List D):Option (Sum (List D) (List D)):=aR env tb80 60 12 116 (aW 116 2) S116_80_2 p s
theorem Cz (pd0:D) (pn1:Int) (sn0:Int):jL [pd0,(D.int pn1)] [(D.int sn0)] =
 let x0:=q80 [ay pd0 sn0]
 let x1:=D.int pn1
 bif ae .lss sn0 pn1 then gd (aI pd0 sn0)<|gd (uZZ x0)<|bif aJ (ar x0 0)then ge pd0<|ge x1<|some (Sum.inr [.int 1,.int sn0])else ge pd0<|ge x1<|some (Sum.inl [.int (aQ .add .i64 sn0 1)])else ge pd0<|ge x1<|some (Sum.inr [.int 0]):=by kernel_rfl
def xV:=by have h:= @Cz;simp only[aN,gd,aq,aj,aE,aK,az,aM,cond_true]at h;exact h
def iX:List D->uAC:=veil fun p s=>loW (jL p) s
theorem n8:iX=fun p s=>loW (jL p) s:=ak _
def kN:Tb:=Tb.addL tb80 116 2 S116_80_2.n0 (bu S116_80_2 (iX))
theorem wA:TbOk env (kN):=aF ok_tb80 116 2 (by kernel_rfl) _ (n8)
def Mp:FunS:=⟨[utR 57,utS (.func 80 [] [])],[],[utI],[]⟩
def CA:uAC:=aS env kN 60 12 116 Mp
theorem J0 (sd0:D):CA [sd0] =
 bif (uZZ (iX [sd0,(D.int (ai sd0))] [(D.int 0)]))then
 bif (ae BinOp.eql (ah (ar (iX [sd0,(D.int (ai sd0))] [(D.int 0)]) 0)) 0)then
 some [(D.int (-1))]
 else
 some [(D.int (ah (ar (iX [sd0,(D.int (ai sd0))] [(D.int 0)]) 1)))]
 else
 none:=by kernel_rfl
def rY:uAC:=veil (CA)
theorem wB:rY=CA:=ak _
def wC:Tb:=Tb.addF kN 116 Mp (rY)
theorem GM:TbOk env (wC):=aG wA 116 (by kernel_rfl) _ (wB)
def Uz:FunS:=⟨[utR 57,utS (.func 80 [] [])],[],[utB],[]⟩
def J1:uAC:=aS env wC 60 12 79 Uz
theorem O3 (sd0:D):J1 [sd0] =
 bif (uZZ (rY [sd0]))then
 some [(D.bool (ae BinOp.geq (ah (ar (rY [sd0]) 0)) 0))]
 else
 none:=by kernel_rfl
def wD:uAC:=veil (J1)
theorem zL:wD=J1:=ak _
def CB:Tb:=Tb.addF wC 79 Uz (wD)
theorem J2:TbOk env (CB):=aG GM 79 (by kernel_rfl) _ (zL)
def S78:FunS:=⟨[utD 54],[],[utB],[]⟩
def F78:uAC:=aS env CB 60 12 78 S78
theorem F78_eq (sd0:D):F78 [sd0] =
 bif (uZZ (wD [(aa sd0 1)]))then
 some [(D.bool (aJ (ar (wD [(aa sd0 1)]) 0)))]
 else
 none:=by kernel_rfl
def q78:uAC:=veil (F78)
theorem UA:q78=F78:=ak _
def tb78:Tb:=Tb.addF CB 78 S78 (q78)
theorem ok_tb78:TbOk env (tb78):=aG J2 78 (by kernel_rfl) _ (UA)
def S115_78_2:LoopS:=⟨0,ufR 54::ufS (.func 78 [] [])::uF::uF::ufZ::uF::uF::ufI::utI::uAA 10 [],[],[⟨0,0,ufR 54::uT::uT::uT::utZ::uT::uT::ufI::uAB 11 [],[]⟩,⟨1,0,ufR 54::uT::uT::uT::utI::uT::uT::ufI::uAB 11 [],[]⟩]⟩
def jM (p s:List D):Option (Sum (List D) (List D)):=aR env tb78 60 12 115 (aW 115 2) S115_78_2 p s
theorem CC (pd0:D) (pn1:Int) (sn0:Int):jM [pd0,(D.int pn1)] [(D.int sn0)] =
 let x0:=q78 [ay pd0 sn0]
 let x1:=D.int pn1
 bif ae .lss sn0 pn1 then gd (aI pd0 sn0)<|gd (uZZ x0)<|bif aJ (ar x0 0)then ge pd0<|ge x1<|some (Sum.inr [.int 1,.int sn0])else ge pd0<|ge x1<|some (Sum.inl [.int (aQ .add .i64 sn0 1)])else ge pd0<|ge x1<|some (Sum.inr [.int 0]):=by kernel_rfl
def xW:=by have h:= @CC;simp only[aN,gd,aq,aj,aE,aK,az,aM,cond_true]at h;exact h
def iY:List D->uAC:=veil fun p s=>loW (jM p) s
theorem n9:iY=fun p s=>loW (jM p) s:=ak _
def kO:Tb:=Tb.addL tb78 115 2 S115_78_2.n0 (bu S115_78_2 (iY))
theorem wF:TbOk env (kO):=aF ok_tb78 115 2 (by kernel_rfl) _ (n9)
def Mq:FunS:=⟨[utR 54,utS (.func 78 [] [])],[],[utI],[]⟩
def CD:uAC:=aS env kO 60 12 115 Mq
theorem J3 (sd0:D):CD [sd0] =
 bif (uZZ (iY [sd0,(D.int (ai sd0))] [(D.int 0)]))then
 bif (ae BinOp.eql (ah (ar (iY [sd0,(D.int (ai sd0))] [(D.int 0)]) 0)) 0)then
 some [(D.int (-1))]
 else
 some [(D.int (ah (ar (iY [sd0,(D.int (ai sd0))] [(D.int 0)]) 1)))]
 else
 none:=by kernel_rfl
def rZ:uAC:=veil (CD)
theorem wG:rZ=CD:=ak _
def wH:Tb:=Tb.addF kO 115 Mq (rZ)
theorem GN:TbOk env (wH):=aG wF 115 (by kernel_rfl) _ (wG)
def UB:FunS:=⟨[utR 54,utS (.func 78 [] [])],[],[utB],[]⟩
def J4:uAC:=aS env wH 60 12 77 UB
theorem O4 (sd0:D):J4 [sd0] =
 bif (uZZ (rZ [sd0]))then
 some [(D.bool (ae BinOp.geq (ah (ar (rZ [sd0]) 0)) 0))]
 else
 none:=by kernel_rfl
def CE:uAC:=veil (J4)
theorem zM:CE=J4:=ak _
def CF:Tb:=Tb.addF wH 77 UB (CE)
theorem J5:TbOk env (CF):=aG GN 77 (by kernel_rfl) _ (zM)
def S41:FunS:=⟨[utD 25],[],[utB],[]⟩
def F41:uAC:=aS env CF 60 12 41 S41
theorem F41_eq (sd0:D):F41 [sd0] =
 bif (uZZ (CE [(aa sd0 1)]))then
 some [(D.bool (aJ (ar (CE [(aa sd0 1)]) 0)))]
 else
 none:=by kernel_rfl
def q41:uAC:=veil (F41)
theorem UC:q41=F41:=ak _
def tb41:Tb:=Tb.addF CF 41 S41 (q41)
theorem ok_tb41:TbOk env (tb41):=aG J5 41 (by kernel_rfl) _ (UC)
def GO:Tb:=tb41
theorem CG:TbOk env GO:=ok_tb41
end
end Go.Proofs.YtfdedgmlafelaaaGreatDoor
namespace Go.Proofs.YtfdedgmlafelaaaGreatDoor
open Go Go.AM
def qU:FunS:=⟨[utR 61],[],[utO 0 61],[(.lst true 61)]⟩
theorem run117n (c:Nat):jS (gx env GO 117) (fM env GO 60 12) 60 117 [.sc (.slice none 0 c)] (dF qU [] []) (qN qU [])=some [.list []]:=by
 have h:jS (gx env GO 117) (fM env GO 60 12) 60 117 [.sc (.slice none 0 c)] (dF qU [] []) (qN qU [])=bif ae BinOp.eql 0 (ai (D.list []))then some [.list []]else none:=by kernel_rfl
 rw[h,show ae BinOp.eql 0 (ai (D.list []))=true from az []];rfl
theorem run117z (d:D):jS (gx env GO 117) (fM env GO 60 12) 60 117 [.rowz 61 d] (dF qU [] []) (qN qU []) =
 bif bF (ai (bN (D.list []) d)) 56 then(bif (ae BinOp.eql (ai (bN (D.list []) d)) (ai (bN (D.list []) d)))then some [bN (D.list []) d]else none)else none:=by kernel_rfl
noncomputable def F117 (ds:List D):Option (List D):=bif bF (ai (bN (D.list []) (ds.headD .other))) 56 then some [bN (D.list []) (ds.headD .other)]else none
noncomputable def GP:uAC:=veil F117
theorem Mr:GP=F117:=ak _
theorem UD:aY env.P 117 qU GP:=by
 intro p s r hp hq lo w0 ρ E w vs inv ra;obtain rfl:p = []:=List.length_eq_zero_iff.1 hp;have ha:qM qU [] s = [.rows 61 (s.headD .other)]:=by
  cases s<;>rfl
 have hh:dF qU [] s=dF qU [] []:=rfl;rw[Mr]at hq;unfold F117 at hq;simp only[List.nil_append]at hq;rw[ha]at ra;generalize hd:s.headD .other=d at *;cases hm:bF (ai (bN (D.list []) d)) 56 with
 |false=>rw[hm]at hq;cases hq
 |true=>
  rw[hm]at hq;simp only[cond_true,Option.some.injEq]at hq;subst hq;rw[hh]at inv;generalize hvs:vs.toList=vl at ra;obtain⟨v,vl',rfl,rv,hn⟩:∃v vs',vl=v::vs'∧Rep ρ E w (AV.rows 61 d) v∧vs' = []:=by simpa only[RepL]using ra
  ·subst hn;simp only[Rep]at rv;obtain⟨a,cap,rfl,hc,hx⟩:=id rv;cases a with
   |none=>
    have he:d.toList = []:=by
     rcases hx with h|⟨_,_,h,_⟩
     ·exact h
     ·cases h
    have he':bN (D.list []) d = .list []:=by rw[dj];unfold D.app;rw[he];rfl
    rw[he'];refine rn (av:=[.sc (.slice none 0 cap)]) iP CG 60 12 (run117n cap) rfl lo w0 ρ E w vs inv ?_
    rw[hvs,he];simp[RepL,Rep]
   |some a=>
    refine rn (av:=[.rowz 61 d]) iP CG 60 12 (p:=[]) (r:=[bN (D.list []) d]) (S:=qU) (by rw[run117z,hm,aj];rfl) rfl lo w0 ρ E w vs inv ?_
    rw[hvs];simp only[RepL];exact⟨_,_,rfl,by simp only[Rep];exact⟨rv,_,_,_,rfl⟩,rfl⟩
noncomputable def UE:Tb:=Tb.addF GO 117 qU GP
theorem UF:TbOk env UE:=TbOk.addF CG (by kernel_rfl) UD
end Go.Proofs.YtfdedgmlafelaaaGreatDoor
open Go Go.AM
namespace Go.Proofs.YtfdedgmlafelaaaGreatDoor
noncomputable section
def S56:FunS:=⟨[utI],[],[utD 61],[]⟩
def F56:uAC:=aS env UE 60 12 56 S56
theorem F56_eq (sn0:Int):F56 [(D.int sn0)] =
 some [(D.agg [(D.int 2),(D.int 0),(D.int sn0),(D.int 0),(D.list [])])]:=by kernel_rfl
def q56:uAC:=veil (F56)
theorem UG:q56=F56:=ak _
def tb56:Tb:=Tb.addF UE 56 S56 (q56)
theorem ok_tb56:TbOk env (tb56):=aG UF 56 (by kernel_rfl) _ (UG)
def S119:FunS:=⟨[utS (.agg [(.map 0)]),utD 61,utI,utI],[(.mp false 3 3)],[utS (.tup [(.int .i64), .bool])],[(.mp false 3 3)]⟩
def F119:uAC:=aS env tb56 60 12 119 S119
theorem F119_e (pd0:D) (sd0:D) (sn1:Int) (sn2:Int):F119 [pd0,sd0,(D.int sn1),(D.int sn2)] =
 let x0:=q62 [sd0]
 let x1:=q64 [.int (aQ .add .i64 sn2 (ah (ar x0 0)))]
 let x2:=D.int (ah (ar x1 0))
 gd (uZZ x0)<|bif aA (ca (aJ (ar x0 1))) true (ae .neq sn1 4)then ge pd0<|some [.int 0,.bool false]else gd (uZZ x1)<|ge pd0<|some [.int (ah (jQ 3 (.int 0) pd0 x2)),.bool (pU 3 pd0 x2)]:=by kernel_rfl
def F119_eq:=by have h:= @F119_e;simp only[aN,gd,aq,aj,aE,aK,az,aM,cond_true]at h;exact h
def UH:uAC:=veil (F119)
theorem Ms:UH=F119:=ak _
def UI:Tb:=Tb.addF tb56 119 S119 (UH)
theorem UJ:TbOk env (UI):=aG ok_tb56 119 (by kernel_rfl) _ (Ms)
def UK:FunS:=⟨[utS (.agg [(.lit (.map none))]),utD 61,utI,utI],[],[utS (.tup [(.int .i64), .bool])],[]⟩
def J6:uAC:=aS env UI 60 12 119 UK
theorem O5 (sd0:D) (sn1:Int) (sn2:Int):J6 [sd0,(D.int sn1),(D.int sn2)] =
 bif (uZZ (q62 [sd0]))then
 bif (aA (ca (aJ (ar (q62 [sd0]) 1))) Bool.true (ae BinOp.neq sn1 4))then
 some [(D.int 0),(D.bool Bool.false)]
 else
 bif (uZZ (q64 [(D.int (aQ BinOp.add IntKind.i64 sn2 (ah (ar (q62 [sd0]) 0))))]))then
 some [(D.int 0),(D.bool Bool.false)]
 else
 none
 else
 none:=by kernel_rfl
def wI:uAC:=veil (J6)
theorem zN:wI=J6:=ak _
def CH:Tb:=Tb.addF UI 119 UK (wI)
theorem wJ:TbOk env (CH):=aG UJ 119 (by kernel_rfl) _ (zN)
def O6:FunS:=⟨[utS (.agg [(.map 0)]),utD 61,utI],[(.mp false 3 3)],[utD 61],[(.mp false 3 3)]⟩
def J7 (Q:uAC):Tb:=Tb.addF CH 118 O6 Q
theorem O7 (Q:uAC) (hQ:aY env.P 118 O6 Q):TbOk env (J7 Q):=TbOk.addF wJ (by kernel_rfl) hQ
def S118_7:LoopS:=⟨1,uF::uF::ufI::ufP 1 0::ufP 2 0::uF::ufP 4 0::uAA 27 (ufO 3 61::ufI::utI::uAA 14 []),[(.cells [ufZ,ufS (.lit (.int .u32 0)),ufZ,ufZ,ufN]),(.lst true 61),(.cells [ufI,ufS (.int .u32),ufI,ufI,ufO 3 61]),(.cells [ufS (.map 0)]),(.mp false 3 3)],[⟨0,0,uT::uT::ufI::uT::utP 2 0::uT::utP 4 0::uAB 28 (ufI::uAB 15 []),[(.cells [utZ,utS (.lit (.int .u32 0)),utZ,utZ,utN]),(.lst true 61),(.cells [ufI,ufS (.int .u32),ufI,ufI,utO 3 61]),(.cells [uT]),(.mp false 3 3)]⟩]⟩
def r5 (Q:uAC) (p s:List D):Option (Sum (List D) (List D)):=aR env (J7 Q) 60 12 118 (aW 118 7) S118_7 p s
theorem O8 (Q:uAC) (pn0:Int) (pn1:Int) (pn2:Int) (pn3:Int) (pn4:Int) (pn5:Int) (pd6:D) (sn0:Int) (sd1:D):r5 Q [(D.int pn0),(D.int pn1),(D.int pn2),(D.int pn3),(D.int pn4),(D.int pn5),pd6] [(D.int sn0),sd1] =
 let x0:=ae .leq 0 sn0
 let x1:=ai sd1
 let x2:=ae .lss sn0 x1
 let x3:=aI sd1 sn0
 let x4:=D.int pn0
 let x5:=Q [pd6,ay sd1 sn0,x4]
 let x6:=ae .eql x1 x1
 let x7:=cz sd1 sn0 (ar x5 0)
 let x8:=ae .eql x1 (ai x7)
 bif ae .lss sn0 pn1 then gd x0<|gd x2<|gd x3<|gd (uZZ x5)<|gd x0<|gd x2<|gd x3<|gd (bL (ae .eql pn2 pn2) (bL (ae .eql pn3 pn3) (bL (ae .eql pn4 pn4) (bL (ae .eql pn5 pn5) x6))))<|gd x8<|gd x8<|ge x4<|ge (.int pn1)<|ge (.int pn2)<|ge (.int pn3)<|ge (.int pn4)<|ge (.int pn5)<|ge pd6<|some (Sum.inl [.int (aQ .add .i64 sn0 1),x7])else gd x6<|ge x4<|ge (.int pn1)<|ge (.int pn2)<|ge (.int pn3)<|ge (.int pn4)<|ge (.int pn5)<|ge pd6<|some (Sum.inr [.int 0,sd1]):=by kernel_rfl
def J8:=by have h:= @O8;simp only[aN,gd,aq,aj,aE,aK,az,aM,cond_true]at h;exact h
def CI (Q:uAC):List D->uAC:=veil fun p s=>loW (r5 Q p) s
theorem zO (Q:uAC):CI Q=fun p s=>loW (r5 Q p) s:=ak _
def wK (Q:uAC):Tb:=Tb.addL (J7 Q) 118 7 S118_7.n0 (bu S118_7 (CI Q))
theorem GQ (Q:uAC) (hQ:aY env.P 118 O6 Q):TbOk env (wK Q):=aF (O7 Q hQ) 118 7 (by kernel_rfl) _ (zO Q)
def UL (Q:uAC):uAC:=aS env (wK Q) 60 12 118 O6
theorem Fb118_e (Q:uAC) (pd0:D) (sd0:D) (sn1:Int):UL Q [pd0,sd0,(D.int sn1)] =
 let x0:=ah (aa sd0 0)
 let x1:=aa sd0 4
 let x2:=D.int (ah (aa sd0 3))
 let x3:=UH [pd0,ay x1 0,x2,.int sn1]
 let x4:=q56 [.int (ah (ar x3 0))]
 let x5:=GP [x1]
 let x6:=ai (ar x5 0)
 let x7:=ae .eql x6 x6
 let x8:=D.int (ah (aa sd0 1))
 let x9:=D.int (ah (aa sd0 2))
 let x10:=CI Q [.int sn1,.int x6,.int x0,x8,x9,x2,pd0] [.int 0,ar x5 0]
 let x11:Option (List D):=gd (uZZ x5)<|gd x7<|gd x7<|gd (uZZ x10)<|gd (ae .eql (ai (ar x10 1)) (ai (ar x10 1)))<|ge pd0<|some [.agg [.int x0,x8,x9,x2,ar x10 1]]
 bif ae .eql x0 18 then gd (aI x1 0)<|gd (uZZ x3)<|bif aJ (ar x3 1)then gd (uZZ x4)<|ge pd0<|some [ar x4 0]else x11 else x11:=by kernel_rfl
def UM:=by have h:= @Fb118_e;simp only[aN,gd,aq,aj,aE,aK,az,aM,cond_true]at h;exact h
def xX:Nat->uAC:=levels UL
theorem F118_s (n:Nat):xX (n+1)=UL (xX n):=rfl
def GS:uAC:=veil fun ds=>xX (bE ds) ds
theorem Mt:GS=fun ds=>xX (bE ds) ds:=ak _
theorem UN:aY env.P 118 O6 GS:=nK (fun q=>wK q) (fun q hq=>GQ q hq) Mt
def UO:Tb:=Tb.addF CH 118 O6 GS
theorem GT:TbOk env UO:=TbOk.addF wJ (by kernel_rfl) UN
def pD:FunS:=⟨[utS (.agg [(.lit (.map none))]),utD 61,utI],[],[utD 61],[]⟩
def wL (Q:uAC):Tb:=Tb.addF UO 118 pD Q
theorem GU (Q:uAC) (hQ:aY env.P 118 pD Q):TbOk env (wL Q):=TbOk.addF GT (by kernel_rfl) hQ
def S118_n_7:LoopS:=⟨0,uF::uF::ufI::ufP 0 0::ufP 1 0::uF::ufP 3 0::uAA 27 (ufO 2 61::ufI::utI::uAA 14 []),[(.cells [ufZ,ufS (.lit (.int .u32 0)),ufZ,ufZ,ufN]),(.lst true 61),(.cells [ufI,ufS (.int .u32),ufI,ufI,ufO 2 61]),(.cells [ufS (.lit (.map none))])],[⟨0,0,uT::uT::ufI::uT::utP 1 0::uT::utP 3 0::uAB 28 (ufI::uAB 15 []),[(.cells [utZ,utS (.lit (.int .u32 0)),utZ,utZ,utN]),(.lst true 61),(.cells [ufI,ufS (.int .u32),ufI,ufI,utO 2 61]),(.cells [uT])]⟩]⟩
def lC (Q:uAC) (p s:List D):Option (Sum (List D) (List D)):=aR env (wL Q) 60 12 118 (aW 118 7) S118_n_7 p s
theorem GV (Q:uAC) (pn0:Int) (pn1:Int) (pn2:Int) (pn3:Int) (pn4:Int) (pn5:Int) (sn0:Int) (sd1:D):lC Q [(D.int pn0),(D.int pn1),(D.int pn2),(D.int pn3),(D.int pn4),(D.int pn5)] [(D.int sn0),sd1] =
 let x0:=ae .leq 0 sn0
 let x1:=ai sd1
 let x2:=ae .lss sn0 x1
 let x3:=aI sd1 sn0
 let x4:=D.int pn0
 let x5:=Q [ay sd1 sn0,x4]
 let x6:=ae .eql x1 x1
 let x7:=cz sd1 sn0 (ar x5 0)
 let x8:=ae .eql x1 (ai x7)
 bif ae .lss sn0 pn1 then gd x0<|gd x2<|gd x3<|gd (uZZ x5)<|gd x0<|gd x2<|gd x3<|gd (bL (ae .eql pn2 pn2) (bL (ae .eql pn3 pn3) (bL (ae .eql pn4 pn4) (bL (ae .eql pn5 pn5) x6))))<|gd x8<|gd x8<|ge x4<|ge (.int pn1)<|ge (.int pn2)<|ge (.int pn3)<|ge (.int pn4)<|ge (.int pn5)<|some (Sum.inl [.int (aQ .add .i64 sn0 1),x7])else gd x6<|ge x4<|ge (.int pn1)<|ge (.int pn2)<|ge (.int pn3)<|ge (.int pn4)<|ge (.int pn5)<|some (Sum.inr [.int 0,sd1]):=by kernel_rfl
def CJ:=by have h:= @GV;simp only[aN,gd,aq,aj,aE,aK,az,aM,cond_true]at h;exact h
def oa (Q:uAC):List D->uAC:=veil fun p s=>loW (lC Q p) s
theorem qF (Q:uAC):oa Q=fun p s=>loW (lC Q p) s:=ak _
def mH (Q:uAC):Tb:=Tb.addL (wL Q) 118 7 S118_n_7.n0 (bu S118_n_7 (oa Q))
theorem xY (Q:uAC) (hQ:aY env.P 118 pD Q):TbOk env (mH Q):=aF (GU Q hQ) 118 7 (by kernel_rfl) _ (qF Q)
def CK (Q:uAC):uAC:=aS env (mH Q) 60 12 118 pD
theorem O9 (Q:uAC) (sd0:D) (sn1:Int):CK Q [sd0,(D.int sn1)] =
 let x0:=ah (aa sd0 0)
 let x1:=aa sd0 4
 let x2:=D.int (ah (aa sd0 3))
 let x3:=wI [ay x1 0,x2,.int sn1]
 let x4:=q56 [.int (ah (ar x3 0))]
 let x5:=GP [x1]
 let x6:=ai (ar x5 0)
 let x7:=ae .eql x6 x6
 let x8:=D.int (ah (aa sd0 1))
 let x9:=D.int (ah (aa sd0 2))
 let x10:=oa Q [.int sn1,.int x6,.int x0,x8,x9,x2] [.int 0,ar x5 0]
 let x11:Option (List D):=gd (uZZ x5)<|gd x7<|gd x7<|gd (uZZ x10)<|gd (ae .eql (ai (ar x10 1)) (ai (ar x10 1)))<|some [.agg [.int x0,x8,x9,x2,ar x10 1]]
 bif ae .eql x0 18 then gd (aI x1 0)<|gd (uZZ x3)<|bif aJ (ar x3 1)then gd (uZZ x4)<|some [ar x4 0]else x11 else x11:=by kernel_rfl
def J9:=by have h:= @O9;simp only[aN,gd,aq,aj,aE,aK,az,aM,cond_true]at h;exact h
def iv:Nat->uAC:=levels CK
theorem UP (n:Nat):iv (n+1)=CK (iv n):=rfl
def kP:uAC:=veil fun ds=>iv (bE ds) ds
theorem zP:kP=fun ds=>iv (bE ds) ds:=ak _
theorem Ka:aY env.P 118 pD kP:=nK (fun q=>mH q) (fun q hq=>xY q hq) zP
def CL:Tb:=Tb.addF UO 118 pD kP
theorem Kb:TbOk env CL:=TbOk.addF GT (by kernel_rfl) Ka
def S81_4:LoopS:=⟨1,uF::uF::ufI::ufP 1 0::ufP 2 0::uF::ufP 4 0::uAA 13 (ufO 3 61::ufI::utI::uAA 37 []),[(.cells [ufZ,ufZ,ufZ,ufZ,ufZ,ufS (.lit (.int .u32 0)),ufN,ufN]),(.lst true 61),(.cells [ufI,ufI,ufI,ufI,ufI,ufS (.int .u32),ufO 3 61,ufR 3]),(.cells [ufS (.map 0)]),(.mp false 3 3)],[⟨0,0,uT::uT::ufI::utP 1 0::utP 2 0::uT::utP 4 0::uAB 14 (ufI::uAB 38 []),[(.cells [utZ,utZ,utZ,utZ,utZ,utS (.lit (.int .u32 0)),utN,utN]),(.lst true 61),(.cells [ufI,ufI,ufI,ufI,ufI,ufS (.int .u32),utO 3 61,ufR 3]),(.cells [utS (.map 0)]),(.mp false 3 3)]⟩]⟩
def CM (p s:List D):Option (Sum (List D) (List D)):=aR env CL 60 12 81 (aW 81 4) S81_4 p s
theorem UQ (pn0:Int) (pn1:Int) (pn2:Int) (pn3:Int) (pn4:Int) (pn5:Int) (pn6:Int) (pn7:Int) (pd8:D) (pd9:D) (sn0:Int) (sd1:D):CM [(D.int pn0),(D.int pn1),(D.int pn2),(D.int pn3),(D.int pn4),(D.int pn5),(D.int pn6),(D.int pn7),pd8,pd9] [(D.int sn0),sd1] =
 let x0:=ae .leq 0 sn0
 let x1:=ai sd1
 let x2:=ae .lss sn0 x1
 let x3:=aI sd1 sn0
 let x4:=D.int pn0
 let x5:=GS [pd9,ay sd1 sn0,x4]
 let x6:=ae .eql x1 x1
 let x7:=cz sd1 sn0 (ar x5 0)
 let x8:=ae .eql x1 (ai x7)
 bif ae .lss sn0 pn1 then gd x0<|gd x2<|gd x3<|gd (uZZ x5)<|gd x0<|gd x2<|gd x3<|gd (bL (ae .eql pn2 pn2) (bL (ae .eql pn3 pn3) (bL (ae .eql pn4 pn4) (bL (ae .eql pn5 pn5) (bL (ae .eql pn6 pn6) (bL (ae .eql pn7 pn7) (bL x6 (jY pd8 pd8))))))))<|gd x8<|gd x8<|ge x4<|ge (.int pn1)<|ge (.int pn2)<|ge (.int pn3)<|ge (.int pn4)<|ge (.int pn5)<|ge (.int pn6)<|ge (.int pn7)<|ge pd8<|ge pd9<|some (Sum.inl [.int (aQ .add .i64 sn0 1),x7])else gd x6<|ge x4<|ge (.int pn1)<|ge (.int pn2)<|ge (.int pn3)<|ge (.int pn4)<|ge (.int pn5)<|ge (.int pn6)<|ge (.int pn7)<|ge pd8<|ge pd9<|some (Sum.inr [.int 0,sd1]):=by kernel_rfl
def Pa:=by have h:= @UQ;simp only[aN,gd,aq,aj,aE,aK,az,aM,cond_true]at h;exact h
def Mu:List D->uAC:=veil fun p s=>loW (CM p) s
theorem GW:Mu=fun p s=>loW (CM p) s:=ak _
def CN:Tb:=Tb.addL CL 81 4 S81_4.n0 (bu S81_4 (Mu))
theorem Kc:TbOk env (CN):=aF Kb 81 4 (by kernel_rfl) _ (GW)
def S81:FunS:=⟨[utS (.agg [(.map 0)]),utD 57,utI],[(.mp false 3 3)],[utD 57],[(.mp false 3 3)]⟩
def F81:uAC:=aS env CN 60 12 81 S81
theorem F81_e (pd0:D) (sd0:D) (sn1:Int):F81 [pd0,sd0,(D.int sn1)] =
 let x0:=q53 [aa sd0 7]
 let x1:=GP [aa sd0 6]
 let x2:=ai (ar x1 0)
 let x3:=ae .eql x2 x2
 let x4:=ah (aa sd0 0)
 let x5:=D.int (ah (aa sd0 1))
 let x6:=D.int (ah (aa sd0 2))
 let x7:=D.int (ah (aa sd0 3))
 let x8:=D.int (ah (aa sd0 4))
 let x9:=D.int (ah (aa sd0 5))
 let x10:=D.int 0
 let x11:=Mu [.int sn1,.int x2,.int x4,x5,x6,x7,x8,x9,ar x0 0,pd0] [x10,ar x1 0]
 let x12:=ar x11 1
 let x13:=ai x12
 let x14:=UH [pd0,ay x12 0,x6,.int sn1]
 let x15:=ay x12 1
 let x16:Option (List D):=gd (ae .eql x13 x13)<|ge pd0<|some [.agg [.int x4,x5,x6,x7,x8,x9,x12,ar x0 0]]
 gd (uZZ x0)<|gd (uZZ x1)<|gd x3<|gd x3<|gd (uZZ x11)<|bif ae .eql x4 2 then gd (ae .leq 0 0)<|gd (ae .lss 0 x13)<|gd (aI x12 0)<|gd (uZZ x14)<|bif aJ (ar x14 1)then gd (ae .leq 0 1)<|gd (ae .lss 1 x13)<|gd (aI x12 1)<|ge pd0<|some [.agg [.int 1,.int (ah (ar x14 0)),x10,x10,x10,x10,.list [.agg [.int (ah (aa x15 0)),.int (ah (aa x15 1)),.int (ah (aa x15 2)),.int (ah (aa x15 3)),aa x15 4]],.list []]]else x16 else x16:=by kernel_rfl
def F81_eq:=by have h:= @F81_e;simp only[aN,gd,aq,aj,aE,aK,az,aM,cond_true]at h;exact h
def q81:uAC:=veil (F81)
theorem UR:q81=F81:=ak _
def tb81:Tb:=Tb.addF CN 81 S81 (q81)
theorem ok_tb81:TbOk env (tb81):=aG Kc 81 (by kernel_rfl) _ (UR)
def S81_n_4:LoopS:=⟨0,uF::uF::ufI::ufP 0 0::ufP 1 0::uF::ufP 3 0::uAA 13 (ufO 2 61::ufI::utI::uAA 37 []),[(.cells [ufZ,ufZ,ufZ,ufZ,ufZ,ufS (.lit (.int .u32 0)),ufN,ufN]),(.lst true 61),(.cells [ufI,ufI,ufI,ufI,ufI,ufS (.int .u32),ufO 2 61,ufR 3]),(.cells [ufS (.lit (.map none))])],[⟨0,0,uT::uT::ufI::utP 0 0::utP 1 0::uT::utP 3 0::uAB 14 (ufI::uAB 38 []),[(.cells [utZ,utZ,utZ,utZ,utZ,utS (.lit (.int .u32 0)),utN,utN]),(.lst true 61),(.cells [ufI,ufI,ufI,ufI,ufI,ufS (.int .u32),utO 2 61,ufR 3]),(.cells [utS (.lit (.map none))])]⟩]⟩
def oc (p s:List D):Option (Sum (List D) (List D)):=aR env tb81 60 12 81 (aW 81 4) S81_n_4 p s
theorem Kd (pn0:Int) (pn1:Int) (pn2:Int) (pn3:Int) (pn4:Int) (pn5:Int) (pn6:Int) (pn7:Int) (pd8:D) (sn0:Int) (sd1:D):oc [(D.int pn0),(D.int pn1),(D.int pn2),(D.int pn3),(D.int pn4),(D.int pn5),(D.int pn6),(D.int pn7),pd8] [(D.int sn0),sd1] =
 let x0:=ae .leq 0 sn0
 let x1:=ai sd1
 let x2:=ae .lss sn0 x1
 let x3:=aI sd1 sn0
 let x4:=D.int pn0
 let x5:=kP [ay sd1 sn0,x4]
 let x6:=ae .eql x1 x1
 let x7:=cz sd1 sn0 (ar x5 0)
 let x8:=ae .eql x1 (ai x7)
 bif ae .lss sn0 pn1 then gd x0<|gd x2<|gd x3<|gd (uZZ x5)<|gd x0<|gd x2<|gd x3<|gd (bL (ae .eql pn2 pn2) (bL (ae .eql pn3 pn3) (bL (ae .eql pn4 pn4) (bL (ae .eql pn5 pn5) (bL (ae .eql pn6 pn6) (bL (ae .eql pn7 pn7) (bL x6 (jY pd8 pd8))))))))<|gd x8<|gd x8<|ge x4<|ge (.int pn1)<|ge (.int pn2)<|ge (.int pn3)<|ge (.int pn4)<|ge (.int pn5)<|ge (.int pn6)<|ge (.int pn7)<|ge pd8<|some (Sum.inl [.int (aQ .add .i64 sn0 1),x7])else gd x6<|ge x4<|ge (.int pn1)<|ge (.int pn2)<|ge (.int pn3)<|ge (.int pn4)<|ge (.int pn5)<|ge (.int pn6)<|ge (.int pn7)<|ge pd8<|some (Sum.inr [.int 0,sd1]):=by kernel_rfl
def GX:=by have h:= @Kd;simp only[aN,gd,aq,aj,aE,aK,az,aM,cond_true]at h;exact h
def r6:List D->uAC:=veil fun p s=>loW (oc p) s
theorem wM:r6=fun p s=>loW (oc p) s:=ak _
def pF:Tb:=Tb.addL tb81 81 4 S81_n_4.n0 (bu S81_n_4 (r6))
theorem CO:TbOk env (pF):=aF ok_tb81 81 4 (by kernel_rfl) _ (wM)
def S81_n:FunS:=⟨[utS (.agg [(.lit (.map none))]),utD 57,utI],[],[utD 57],[]⟩
def US:uAC:=aS env pF 60 12 81 S81_n
theorem F81_n_e (sd0:D) (sn1:Int):US [sd0,(D.int sn1)] =
 let x0:=q53 [aa sd0 7]
 let x1:=GP [aa sd0 6]
 let x2:=ai (ar x1 0)
 let x3:=ae .eql x2 x2
 let x4:=ah (aa sd0 0)
 let x5:=D.int (ah (aa sd0 1))
 let x6:=D.int (ah (aa sd0 2))
 let x7:=D.int (ah (aa sd0 3))
 let x8:=D.int (ah (aa sd0 4))
 let x9:=D.int (ah (aa sd0 5))
 let x10:=D.int 0
 let x11:=r6 [.int sn1,.int x2,.int x4,x5,x6,x7,x8,x9,ar x0 0] [x10,ar x1 0]
 let x12:=ar x11 1
 let x13:=ai x12
 let x14:=wI [ay x12 0,x6,.int sn1]
 let x15:=ay x12 1
 let x16:Option (List D):=gd (ae .eql x13 x13)<|some [.agg [.int x4,x5,x6,x7,x8,x9,x12,ar x0 0]]
 gd (uZZ x0)<|gd (uZZ x1)<|gd x3<|gd x3<|gd (uZZ x11)<|bif ae .eql x4 2 then gd (ae .leq 0 0)<|gd (ae .lss 0 x13)<|gd (aI x12 0)<|gd (uZZ x14)<|bif aJ (ar x14 1)then gd (ae .leq 0 1)<|gd (ae .lss 1 x13)<|gd (aI x12 1)<|some [.agg [.int 1,.int (ah (ar x14 0)),x10,x10,x10,x10,.list [.agg [.int (ah (aa x15 0)),.int (ah (aa x15 1)),.int (ah (aa x15 2)),.int (ah (aa x15 3)),aa x15 4]],.list []]]else x16 else x16:=by kernel_rfl
def UT:=by have h:= @F81_n_e;simp only[aN,gd,aq,aj,aE,aK,az,aM,cond_true]at h;exact h
def Mv:uAC:=veil (US)
theorem GY:Mv=US:=ak _
def Ke:Tb:=Tb.addF pF 81 S81_n (Mv)
theorem Pb:TbOk env (Ke):=aG CO 81 (by kernel_rfl) _ (GY)
def S42_10:LoopS:=⟨1,uF::uF::ufR 3::ufP 1 0::ufP 2 0::uF::ufP 3 0::ufP 4 0::uF::ufB::ufP 6 0::utI::ufP 8 0::uAA 6 (ufR 4::ufI::ufI::uAA 24 (ufR 57::ufI::utI::uAA 28 [])),[(.cells [ufS (.map 0)]),(.lst true 57),(.cells [ufS (.int .u32),ufO 7 57]),(.lst false 54),(.cells [ufS (.int .u32),ufO 5 54]),(.cells [ufS (.lit (.int .u32 0)),ufN]),(.dat false 25),(.cells [ufS (.map 0)]),(.mp false 3 3)],[⟨0,2,uT::uT::ufR 3::utP 1 0::utP 2 0::uT::utP 3 0::utP 4 0::uT::ufB::utP 6 0::uAB 8 (ufR 4::ufI::ufI::uAB 24 (ufR 57::ufI::uAB 29 [])),[(.cells [uT]),(.lst true 57),(.cells [ufS (.int .u32),utO 7 57]),(.lst false 54),(.cells [ufS (.int .u32),utO 5 54]),(.cells [utS (.lit (.int .u32 0)),utN]),(.dat false 25),(.cells [utS (.map 0)]),(.mp false 3 3)]⟩]⟩
def lD (p s:List D):Option (Sum (List D) (List D)):=aR env Ke 60 12 42 (aW 42 10) S42_10 p s
theorem Pc (pd0:D) (pb1:Bool) (pd2:D) (pn3:Int) (pn4:Int) (pd5:D) (pn6:Int) (pn7:Int) (pd8:D) (pn9:Int) (pd10:D) (pd11:D) (sn0:Int) (sn1:Int) (sd2:D):lD [pd0,(D.bool pb1),pd2,(D.int pn3),(D.int pn4),pd5,(D.int pn6),(D.int pn7),pd8,(D.int pn9),pd10,pd11] [(D.int sn0),(D.int sn1),sd2] =
 let x0:=ay pd5 sn1
 let x1:=D.int sn0
 let x2:=q81 [pd11,x0,x1]
 let x3:=ae .eql (ai sd2) (ai sd2)
 let x4:=ar x2 0
 let x5:=bN sd2 (.list [.agg [.int (ah (aa x4 0)),.int (ah (aa x4 1)),.int (ah (aa x4 2)),.int (ah (aa x4 3)),.int (ah (aa x4 4)),.int (ah (aa x4 5)),aa x4 6,aa x4 7]])
 let x6:=ai x5
 let x7:=q30 [x0,x1]
 let x8:=ae .eql x6 x6
 let x9:=ae .eql (ai pd8) (ai pd8)
 let x10:=D.bool pb1
 let x11:=D.int pn3
 let x12:=D.int pn4
 let x13:=D.int pn6
 let x14:=D.int pn7
 let x15:=D.int pn9
 let x16:=D.int (aQ .add .i64 sn1 1)
 bif ae .lss sn1 pn6 then gd (aI pd5 sn1)<|gd (uZZ x2)<|gd x3<|gd (bF x6 96)<|gd (bL (ae .eql pn7 pn7) x3)<|bif pb1 then gd (uZZ x7)<|gd x8<|gd x9<|ge pd0<|ge x10<|ge pd2<|ge x11<|ge x12<|ge pd5<|ge x13<|ge x14<|ge pd8<|ge x15<|ge pd10<|ge pd11<|some (Sum.inl [.int (ah (ar x7 0)),x16,x5])else gd x8<|gd x9<|ge pd0<|ge x10<|ge pd2<|ge x11<|ge x12<|ge pd5<|ge x13<|ge x14<|ge pd8<|ge x15<|ge pd10<|ge pd11<|some (Sum.inl [x1,x16,x5])else gd x3<|gd x9<|ge pd0<|ge x10<|ge pd2<|ge x11<|ge x12<|ge pd5<|ge x13<|ge x14<|ge pd8<|ge x15<|ge pd10<|ge pd11<|some (Sum.inr [.int 0,sd2]):=by kernel_rfl
def wN:=by have h:= @Pc;simp only[aN,gd,aq,aj,aE,aK,az,aM,cond_true]at h;exact h
def CP:List D->uAC:=veil fun p s=>loW (lD p) s
theorem zQ:CP=fun p s=>loW (lD p) s:=ak _
def wO:Tb:=Tb.addL Ke 42 10 S42_10.n0 (bu S42_10 (CP))
theorem GZ:TbOk env (wO):=aF Pb 42 10 (by kernel_rfl) _ (zQ)
def S42_10n:LoopS:=⟨1,uF::uF::ufR 3::ufP 1 0::ufP 2 0::uF::ufP 3 0::ufP 4 0::uF::ufB::ufP 6 0::utI::ufP 8 0::uAA 6 (ufR 4::ufI::ufI::uAA 24 (ufR 57::ufI::utI::uAA 28 [])),[(.cells [ufS (.lit (.map none))]),(.lst true 57),(.cells [ufS (.int .u32),ufO 7 57]),(.lst false 54),(.cells [ufS (.int .u32),ufO 5 54]),(.cells [ufS (.lit (.int .u32 0)),ufN]),(.dat false 25),(.cells [ufS (.map 0)]),(.mp false 3 3)],[⟨0,2,uT::uT::ufR 3::utP 1 0::utP 2 0::uT::utP 3 0::utP 4 0::uT::ufB::utP 6 0::uAB 8 (ufR 4::ufI::ufI::uAB 24 (ufR 57::ufI::uAB 29 [])),[(.cells [uT]),(.lst true 57),(.cells [ufS (.int .u32),utO 7 57]),(.lst false 54),(.cells [ufS (.int .u32),utO 5 54]),(.cells [utS (.lit (.int .u32 0)),utN]),(.dat false 25),(.cells [utS (.map 0)]),(.mp false 3 3)]⟩]⟩
def iZ (p s:List D):Option (Sum (List D) (List D)):=aR env wO 60 12 42 (aW 42 10) S42_10n p s
theorem Kf (pd0:D) (pb1:Bool) (pd2:D) (pn3:Int) (pn4:Int) (pd5:D) (pn6:Int) (pn7:Int) (pd8:D) (pn9:Int) (pd10:D) (pd11:D) (sn0:Int) (sn1:Int) (sd2:D):iZ [pd0,(D.bool pb1),pd2,(D.int pn3),(D.int pn4),pd5,(D.int pn6),(D.int pn7),pd8,(D.int pn9),pd10,pd11] [(D.int sn0),(D.int sn1),sd2] =
 let x0:List D:=[ay pd5 sn1,.int sn0]
 let x1:=Mv x0
 let x2:=ae .eql (ai sd2) (ai sd2)
 let x3:=ar x1 0
 let x4:=bN sd2 (.list [.agg [.int (ah (aa x3 0)),.int (ah (aa x3 1)),.int (ah (aa x3 2)),.int (ah (aa x3 3)),.int (ah (aa x3 4)),.int (ah (aa x3 5)),aa x3 6,aa x3 7]])
 let x5:=ai x4
 let x6:=q30 x0
 let x7:=ae .eql x5 x5
 let x8:=ae .eql (ai pd8) (ai pd8)
 let x9:=D.bool pb1
 let x10:=D.int pn3
 let x11:=D.int pn4
 let x12:=D.int pn6
 let x13:=D.int pn7
 let x14:=D.int pn9
 let x15:=D.int (aQ .add .i64 sn1 1)
 bif ae .lss sn1 pn6 then gd (aI pd5 sn1)<|gd (uZZ x1)<|gd x2<|gd (bF x5 96)<|gd (bL (ae .eql pn7 pn7) x2)<|bif pb1 then gd (uZZ x6)<|gd x7<|gd x8<|ge pd0<|ge x9<|ge pd2<|ge x10<|ge x11<|ge pd5<|ge x12<|ge x13<|ge pd8<|ge x14<|ge pd10<|ge pd11<|some (Sum.inl [.int (ah (ar x6 0)),x15,x4])else gd x7<|gd x8<|ge pd0<|ge x9<|ge pd2<|ge x10<|ge x11<|ge pd5<|ge x12<|ge x13<|ge pd8<|ge x14<|ge pd10<|ge pd11<|some (Sum.inl [.int sn0,x15,x4])else gd x2<|gd x8<|ge pd0<|ge x9<|ge pd2<|ge x10<|ge x11<|ge pd5<|ge x12<|ge x13<|ge pd8<|ge x14<|ge pd10<|ge pd11<|some (Sum.inr [.int 0,sd2]):=by kernel_rfl
def qG:=by have h:= @Kf;simp only[aN,gd,aq,aj,aE,aK,az,aM,cond_true]at h;exact h
def r7:List D->uAC:=veil fun p s=>loW (iZ p) s
theorem wP:r7=fun p s=>loW (iZ p) s:=ak _
def pG:Tb:=Tb.addL wO 42 10 S42_10n.n0 (bu S42_10n (r7))
theorem CQ:TbOk env (pG):=aF GZ 42 10 (by kernel_rfl) _ (wP)
def S42_3:LoopS:=⟨1,uF::uF::ufR 3::ufP 1 0::ufP 2 0::uF::ufP 3 0::ufP 4 0::uAA 11 (ufR 4::ufI::utI::uAA 55 []),[(.lst true 54),(.cells [ufS (.int .u32),ufO 5 54]),(.cells [ufS (.lit (.int .u32 0)),ufN]),(.dat false 25),(.cells [ufS (.map 0)]),(.mp false 3 3)],[⟨0,0,uT::uT::ufR 3::uT::uT::uT::utP 3 0::utP 4 0::uAB 11 (ufR 4::ufI::uAB 56 []),[(.lst true 54),(.cells [ufS (.int .u32),utO 5 54]),(.cells [utS (.lit (.int .u32 0)),utN]),(.dat false 25),(.cells [uT]),(.mp false 3 3)]⟩]⟩
def CR (p s:List D):Option (Sum (List D) (List D)):=aR env pG 60 12 42 (aW 42 3) S42_3 p s
theorem UU (pd0:D) (pd1:D) (pn2:Int) (pn3:Int) (pd4:D) (pd5:D) (sn0:Int) (sd1:D):CR [pd0,pd1,(D.int pn2),(D.int pn3),pd4,pd5] [(D.int sn0),sd1] =
 let x0:=aI (aa pd4 1) sn0
 let x1:=aJ (ay pd1 sn0)
 let x2:=ae .eql 0 (ai (.list []))
 let x3:=ae .eql (ai sd1) (ai sd1)
 let x4:=D.int pn2
 let x5:=ay (aa pd4 1) sn0
 let x6:=D.int (ah (aa x5 0))
 let x7:=D.int pn3
 let x8:List D:=[pd0,.bool x1,pd1,x4,.int sn0,aa x5 1,.int (ai (aa x5 1)),x6,sd1,x7,pd4,pd5]
 let x9:List D:=[.int (ah (ay pd0 sn0)),.int 0,.list []]
 let x10:=r7 x8 x9
 let x11:=bN sd1 (.list [.agg [x6,ar x10 1]])
 let x12:=ai x11
 let x13:=D.int (aQ .add .i64 sn0 1)
 let x14:=CP x8 x9
 let x15:=bN sd1 (.list [.agg [x6,ar x14 1]])
 let x16:=ai x15
 bif ae .lss sn0 pn2 then gd (aI pd1 sn0)<|gd x0<|gd (aI pd0 sn0)<|bif ca x1 then gd x0<|gd x2<|gd x3<|gd (uZZ x10)<|gd x3<|gd (ae .eql (ai (ar x10 1)) (ai (ar x10 1)))<|gd (bF x12 32)<|gd (ae .eql x12 x12)<|ge pd0<|ge pd1<|ge x4<|ge x7<|ge pd4<|ge pd5<|some (Sum.inl [x13,x11])else gd x0<|gd x2<|gd x3<|gd (uZZ x14)<|gd x3<|gd (ae .eql (ai (ar x14 1)) (ai (ar x14 1)))<|gd (bF x16 32)<|gd (ae .eql x16 x16)<|ge pd0<|ge pd1<|ge x4<|ge x7<|ge pd4<|ge pd5<|some (Sum.inl [x13,x15])else gd x3<|ge pd0<|ge pd1<|ge x4<|ge x7<|ge pd4<|ge pd5<|some (Sum.inr [.int 0,sd1]):=by kernel_rfl
def zR:=by have h:= @UU;simp only[aN,gd,aq,aj,aE,aK,az,aM,cond_true]at h;exact h
def Mw:List D->uAC:=veil fun p s=>loW (CR p) s
theorem G1:Mw=fun p s=>loW (CR p) s:=ak _
def CS:Tb:=Tb.addL pG 42 3 S42_3.n0 (bu S42_3 (Mw))
theorem Kg:TbOk env (CS):=aF CQ 42 3 (by kernel_rfl) _ (G1)
def S42:FunS:=⟨[utS (.agg [(.map 0)]),utD 25,utR 3],[(.mp false 3 3)],[utD 25],[(.mp false 3 3)]⟩
def F42:uAC:=aS env CS 60 12 42 S42
theorem F42_e (pd0:D) (sd0:D) (sd1:D):F42 [pd0,sd0,sd1] =
 let x0:=q20 [sd0]
 let x1:=D.int (ah (aa sd0 0))
 let x2:=Mw [sd1,ar x0 0,.int (ai (ar x0 0)),x1,sd0,pd0] [.int 0,.list []]
 gd (uZZ x0)<|gd (ae .eql 0 (ai (.list [])))<|gd (uZZ x2)<|gd (ae .eql (ai (ar x2 1)) (ai (ar x2 1)))<|ge pd0<|some [.agg [x1,ar x2 1]]:=by kernel_rfl
def F42_eq:=by have h:= @F42_e;simp only[aN,gd,aq,aj,aE,aK,az,aM,cond_true]at h;exact h
def q42:uAC:=veil (F42)
theorem UV:q42=F42:=ak _
def tb42:Tb:=Tb.addF CS 42 S42 (q42)
theorem ok_tb42:TbOk env (tb42):=aG Kg 42 (by kernel_rfl) _ (UV)
def S82:FunS:=⟨[utI,utP 0 0],[(.cells [utI])],[utS (.tup [])],[(.cells [utI])]⟩
def F82:uAC:=aS env tb42 60 12 82 S82
theorem F82_eq (sn0:Int) (sn1:Int):F82 [(D.int sn0),(D.int sn1)] =
 bif (ae BinOp.geq sn0 sn1)then
 some [(D.int (aQ BinOp.add IntKind.i64 (qmm BinOp.lss sn0 65535) 1))]
 else
 some [(D.int sn1)]:=by kernel_rfl
def q82:uAC:=veil (F82)
theorem UW:q82=F82:=ak _
def tb82:Tb:=Tb.addF tb42 82 S82 (q82)
theorem ok_tb82:TbOk env (tb82):=aG ok_tb42 82 (by kernel_rfl) _ (UW)
def S84:FunS:=⟨[utD 61,utP 0 0],[(.cells [utI]),(.cells [ufS (.func 82 [] [(.ptr 1 0)])])],[utS (.tup [])],[(.cells [utI]),(.cells [utS (.func 82 [] [(.ptr 1 0)])])]⟩
def F84:uAC:=aS env tb82 60 12 84 S84
theorem F84_eq (sd0:D) (sn1:Int):F84 [sd0,(D.int sn1)] =
 bif (ae BinOp.eql (ah (aa sd0 0)) 2)then
 bif (uZZ (q82 [(D.int (ah (aa sd0 2))),(D.int sn1)]))then
 some [(D.int (ah (ar (q82 [(D.int (ah (aa sd0 2))),(D.int sn1)]) 0)))]
 else
 none
 else
 some [(D.int sn1)]:=by kernel_rfl
def q84:uAC:=veil (F84)
theorem UX:q84=F84:=ak _
def tb84:Tb:=Tb.addF tb82 84 S84 (q84)
theorem Mx:TbOk env (tb84):=aG ok_tb82 84 (by kernel_rfl) _ (UX)
def S83:FunS:=⟨[utD 61,utS (.func 84 [] [(.ptr 0 0)])],[(.cells [utI]),(.cells [ufS (.func 82 [] [(.ptr 1 0)])])],[utS (.tup [])],[(.cells [utI]),(.cells [ufS (.func 82 [] [(.ptr 1 0)])])]⟩
def UY (Q:uAC):Tb:=Tb.addF tb84 83 S83 Q
theorem UZ (Q:uAC) (hQ:aY env.P 83 S83 Q):TbOk env (UY Q):=TbOk.addF Mx (by kernel_rfl) hQ
def S83_3:LoopS:=⟨2,uF::ufS (.func 84 [] [(.ptr 0 0)])::uAA 8 (ufR 61::ufI::utI::uAA 7 []),[(.cells [utI]),(.cells [ufS (.func 82 [] [(.ptr 1 0)])])],[⟨0,0,uAB 10 (ufR 61::ufI::uAB 8 []),[(.cells [utI]),(.cells [utS (.func 82 [] [(.ptr 1 0)])])]⟩]⟩
def CT (Q:uAC) (p s:List D):Option (Sum (List D) (List D)):=aR env (UY Q) 60 12 83 (aW 83 3) S83_3 p s
theorem U0 (Q:uAC) (pd0:D) (pn1:Int) (sn0:Int) (sn1:Int):CT Q [pd0,(D.int pn1)] [(D.int sn0),(D.int sn1)] =
 let x0:=Q [ay pd0 sn0,.int sn1]
 bif ae .lss sn0 pn1 then gd (aI pd0 sn0)<|gd (uZZ x0)<|ge pd0<|ge (.int pn1)<|some (Sum.inl [.int (aQ .add .i64 sn0 1),.int (ah (ar x0 0))])else ge pd0<|ge (.int pn1)<|some (Sum.inr [.int 0,.int sn1]):=by kernel_rfl
def zS:=by have h:= @U0;simp only[aN,gd,aq,aj,aE,aK,az,aM,cond_true]at h;exact h
def G2 (Q:uAC):List D->uAC:=veil fun p s=>loW (CT Q p) s
theorem G3 (Q:uAC):G2 Q=fun p s=>loW (CT Q p) s:=ak _
def CU (Q:uAC):Tb:=Tb.addL (UY Q) 83 3 S83_3.n0 (bu S83_3 (G2 Q))
theorem Kh (Q:uAC) (hQ:aY env.P 83 S83 Q):TbOk env (CU Q):=aF (UZ Q hQ) 83 3 (by kernel_rfl) _ (G3 Q)
def Fb83 (Q:uAC):uAC:=aS env (CU Q) 60 12 83 S83
theorem Fb83_eq (Q:uAC) (sd0:D) (sn1:Int):Fb83 Q [sd0,(D.int sn1)] =
 bif (uZZ (q84 [sd0,(D.int sn1)]))then
 bif (uZZ (G2 Q [(aa sd0 4),(D.int (ai (aa sd0 4)))] [(D.int 0),(D.int (ah (ar (q84 [sd0,(D.int sn1)]) 0)))]))then
 some [(D.int (ah (ar (G2 Q [(aa sd0 4),(D.int (ai (aa sd0 4)))] [(D.int 0),(D.int (ah (ar (q84 [sd0,(D.int sn1)]) 0)))]) 1)))]
 else
 none
 else
 none:=by kernel_rfl
def F83:Nat->uAC:=levels Fb83
theorem F83_s (n:Nat):F83 (n+1)=Fb83 (F83 n):=rfl
def q83:uAC:=veil fun ds=>F83 (bE ds) ds
theorem U1:q83=fun ds=>F83 (bE ds) ds:=ak _
theorem sound83:aY env.P 83 S83 q83:=nK (fun q=>CU q) (fun q hq=>Kh q hq) U1
def tb83:Tb:=Tb.addF tb84 83 S83 q83
theorem ok_tb83:TbOk env tb83:=TbOk.addF Mx (by kernel_rfl) sound83
def S43_12:LoopS:=⟨0,uF::uF::ufZ::ufP 0 0::ufP 1 0::uAA 8 (ufR 54::ufI::ufI::uF::uF::uF::uF::ufR 57::ufI::ufI::uAA 16 (ufR 61::ufI::utI::uAA 10 [])),[(.cells [ufS (.func 82 [] [(.ptr 0 0)])]),(.cells [utI])],[⟨0,4,uT::uT::utZ::utP 0 0::utP 1 0::uAB 8 (ufR 54::ufI::ufI::uT::uT::uT::uT::ufR 57::ufI::ufI::uAB 16 (ufR 61::ufI::uAB 11 [])),[(.cells [utS (.func 82 [] [(.ptr 0 0)])]),(.cells [utI])]⟩]⟩
def r8 (p s:List D):Option (Sum (List D) (List D)):=aR env tb83 60 12 43 (aW 43 12) S43_12 p s
theorem Pd (pd0:D) (pn1:Int) (pn2:Int) (pd3:D) (pn4:Int) (pn5:Int) (pd6:D) (pn7:Int) (sn0:Int) (sn1:Int):r8 [pd0,(D.int pn1),(D.int pn2),pd3,(D.int pn4),(D.int pn5),pd6,(D.int pn7)] [(D.int sn0),(D.int sn1)] =
 let x0:=q83 [ay pd6 sn0,.int sn1]
 bif ae .lss sn0 pn7 then gd (aI pd6 sn0)<|gd (uZZ x0)<|ge pd0<|ge (.int pn1)<|ge (.int pn2)<|ge pd3<|ge (.int pn4)<|ge (.int pn5)<|ge pd6<|ge (.int pn7)<|some (Sum.inl [.int (aQ .add .i64 sn0 1),.int (ah (ar x0 0))])else ge pd0<|ge (.int pn1)<|ge (.int pn2)<|ge pd3<|ge (.int pn4)<|ge (.int pn5)<|ge pd6<|ge (.int pn7)<|some (Sum.inr [.int 0,.int sn1]):=by kernel_rfl
def wQ:=by have h:= @Pd;simp only[aN,gd,aq,aj,aE,aK,az,aM,cond_true]at h;exact h
def wR:List D->uAC:=veil fun p s=>loW (r8 p) s
theorem zT:wR=fun p s=>loW (r8 p) s:=ak _
def wS:Tb:=Tb.addL tb83 43 12 S43_12.n0 (bu S43_12 (wR))
theorem G4:TbOk env (wS):=aF ok_tb83 43 12 (by kernel_rfl) _ (zT)
def S43_7:LoopS:=⟨0,uF::uF::ufZ::ufP 0 0::ufP 1 0::uAA 8 (ufR 54::ufI::ufI::uF::uF::uF::uF::ufR 57::ufI::utI::uAA 29 []),[(.cells [ufS (.func 82 [] [(.ptr 0 0)])]),(.cells [utI])],[⟨0,2,uT::uT::utZ::utP 0 0::utP 1 0::uAB 8 (ufR 54::ufI::ufI::uT::uT::uT::uT::ufR 57::ufI::uAB 30 []),[(.cells [utS (.func 82 [] [(.ptr 0 0)])]),(.cells [utI])]⟩]⟩
def CV (p s:List D):Option (Sum (List D) (List D)):=aR env wS 60 12 43 (aW 43 7) S43_7 p s
theorem U2 (pd0:D) (pn1:Int) (pn2:Int) (pd3:D) (pn4:Int) (sn0:Int) (sn1:Int):CV [pd0,(D.int pn1),(D.int pn2),pd3,(D.int pn4)] [(D.int sn0),(D.int sn1)] =
 let x0:=ay pd3 sn0
 let x1:=ah (aa x0 0)
 let x2:=q82 [.int (ah (aa x0 1)),.int sn1]
 let x3:=D.int pn1
 let x4:=D.int pn2
 let x5:=D.int pn4
 let x6:List D:=[pd0,x3,x4,pd3,x5,.int sn0,aa x0 6,.int (ai (aa x0 6))]
 let x7:=wR x6 [.int 0,.int (ah (ar x2 0))]
 let x8:=D.int (aQ .add .i64 sn0 1)
 let x9:=wR x6 [.int 0,.int sn1]
 bif ae .lss sn0 pn4 then gd (aI pd3 sn0)<|bif aA (ae .eql x1 1) true (ae .eql x1 3)then gd (uZZ x2)<|gd (uZZ x7)<|ge pd0<|ge x3<|ge x4<|ge pd3<|ge x5<|some (Sum.inl [x8,.int (ah (ar x7 1))])else gd (uZZ x9)<|ge pd0<|ge x3<|ge x4<|ge pd3<|ge x5<|some (Sum.inl [x8,.int (ah (ar x9 1))])else ge pd0<|ge x3<|ge x4<|ge pd3<|ge x5<|some (Sum.inr [.int 0,.int sn1]):=by kernel_rfl
def zU:=by have h:= @U2;simp only[aN,gd,aq,aj,aE,aK,az,aM,cond_true]at h;exact h
def My:List D->uAC:=veil fun p s=>loW (CV p) s
theorem G5:My=fun p s=>loW (CV p) s:=ak _
def CW:Tb:=Tb.addL wS 43 7 S43_7.n0 (bu S43_7 (My))
theorem Ki:TbOk env (CW):=aF G4 43 7 (by kernel_rfl) _ (G5)
def S43_4:LoopS:=⟨0,uF::uF::ufZ::ufP 0 0::ufP 1 0::uAA 8 (ufR 54::ufI::utI::uAA 36 []),[(.cells [ufS (.func 82 [] [(.ptr 0 0)])]),(.cells [utI])],[⟨0,0,uT::uT::utZ::utP 0 0::uAB 9 (ufR 54::ufI::uAB 37 []),[(.cells [uT]),(.cells [utI])]⟩]⟩
def CX (p s:List D):Option (Sum (List D) (List D)):=aR env CW 60 12 43 (aW 43 4) S43_4 p s
theorem U3 (pd0:D) (pn1:Int) (sn0:Int) (sn1:Int):CX [pd0,(D.int pn1)] [(D.int sn0),(D.int sn1)] =
 let x0:=D.int pn1
 let x1:=aa (ay pd0 sn0) 1
 let x2:List D:=[.int 0,.int sn1]
 let x3:=My [pd0,x0,.int sn0,x1,.int (ai x1)] x2
 bif ae .lss sn0 pn1 then gd (aI pd0 sn0)<|gd (uZZ x3)<|ge pd0<|ge x0<|some (Sum.inl [.int (aQ .add .i64 sn0 1),.int (ah (ar x3 1))])else ge pd0<|ge x0<|some (Sum.inr x2):=by kernel_rfl
def zV:=by have h:= @U3;simp only[aN,gd,aq,aj,aE,aK,az,aM,cond_true]at h;exact h
def G6:List D->uAC:=veil fun p s=>loW (CX p) s
theorem G7:G6=fun p s=>loW (CX p) s:=ak _
def CY:Tb:=Tb.addL CW 43 4 S43_4.n0 (bu S43_4 (G6))
theorem Kj:TbOk env (CY):=aF Ki 43 4 (by kernel_rfl) _ (G7)
def S43:FunS:=⟨[utD 25],[],[utI],[]⟩
def F43:uAC:=aS env CY 60 12 43 S43
theorem F43_eq (sd0:D):F43 [sd0] =
 bif (uZZ (G6 [(aa sd0 1),(D.int (ai (aa sd0 1)))] [(D.int 0),(D.int 12)]))then
 some [(D.int (ah (ar (G6 [(aa sd0 1),(D.int (ai (aa sd0 1)))] [(D.int 0),(D.int 12)]) 1)))]
 else
 none:=by kernel_rfl
def q43:uAC:=veil (F43)
theorem U4:q43=F43:=ak _
def tb43:Tb:=Tb.addF CY 43 S43 (q43)
theorem ok_tb43:TbOk env (tb43):=aG Kj 43 (by kernel_rfl) _ (U4)
def S14_12:LoopS:=⟨0,uF::uF::ufP 0 0::uF::ufP 1 0::ufZ::ufZ::uF::uF::ufR 3::uF::ufP 2 0::ufI::uAA 32 (ufR 69::ufI::utI::uAA 41 []),[(.mp true 3 3),(.cells [ufS (.map 3)]),(.cells [ufS (.lit (.int .u32 0)),ufN]),(.dat false 25)],[⟨0,0,uT::uT::utP 0 0::uT::utP 1 0::utZ::utZ::uT::uT::ufR 3::uT::utP 2 0::ufI::uAB 32 (ufR 69::ufI::uAB 42 []),[(.mp true 3 3),(.cells [utS (.map 3)]),(.cells [utS (.lit (.int .u32 0)),utN]),(.dat false 25)]⟩]⟩
def od (p s:List D):Option (Sum (List D) (List D)):=aR env tb43 60 12 14 (aW 14 12) S14_12 p s
theorem Pe (pd0:D) (pn1:Int) (pd2:D) (pn3:Int) (pd4:D) (sn0:Int) (sd1:D):od [pd0,(D.int pn1),pd2,(D.int pn3),pd4] [(D.int sn0),sd1] =
 let x0:=ay pd2 sn0
 let x1:=D.int pn1
 let x2:=D.int pn3
 let x3:=D.int (aQ .add .i64 sn0 1)
 bif ae .lss sn0 pn3 then gd (aI pd2 sn0)<|bif aA (ae .eql (ah (aa x0 1)) 4) (ca (aJ (aa x0 4))) false then ge pd0<|ge x1<|ge pd2<|ge x2<|ge pd4<|some (Sum.inl [x3,lK 3 sd1 (.int (ah (aa x0 0))) (.int (aQ .add .i64 pn1 (ai sd1)))])else ge pd0<|ge x1<|ge pd2<|ge x2<|ge pd4<|some (Sum.inl [x3,sd1])else ge pd0<|ge x1<|ge pd2<|ge x2<|ge pd4<|some (Sum.inr [.int 0,sd1]):=by kernel_rfl
def wT:=by have h:= @Pe;simp only[aN,gd,aq,aj,aE,aK,az,aM,cond_true]at h;exact h
def CZ:List D->uAC:=veil fun p s=>loW (od p) s
theorem zW:CZ=fun p s=>loW (od p) s:=ak _
def wU:Tb:=Tb.addL tb43 14 12 S14_12.n0 (bu S14_12 (CZ))
theorem G8:TbOk env (wU):=aF ok_tb43 14 12 (by kernel_rfl) _ (zW)
def S14:FunS:=⟨[utD 25,utD 30],[],[utS (.tup [(.dat 25),(.int .i64),(.int .i64)])],[]⟩
def F14:uAC:=aS env wU 60 12 14 S14
theorem F14_e (sd0:D) (sd1:D):F14 [sd0,sd1] =
 let x0:=q10 [sd0]
 let x1:=ah (ar x0 1)
 let x2:=D.int 0
 let x3:=D.agg [x2,.list []]
 let x4:=q40 [ar x0 0,sd1]
 let x5:=q28 [sd0]
 let x6:=q41 [sd0]
 let x7:=ar x5 0
 let x8:=q42 [.list [],sd0,x7]
 let x9:=q43 [sd0]
 let x10:=ah (ar x9 0)
 let x11:=CZ [x7,.int x10,aa (ar x0 0) 1,.int (ai (aa (ar x0 0) 1)),sd0] [x2,.list []]
 let x12:=ai (ar x11 1)
 let x13:=q42 [ar x11 1,sd0,x7]
 gd (uZZ x0)<|bif ae .neq x1 0 then some [x3,x2,.int x1]else gd (uZZ x4)<|bif ca (aJ (ar x4 0))then some [x3,x2,.int 2]else gd (uZZ x5)<|gd (uZZ x6)<|bif aJ (ar x6 0)then gd (uZZ x8)<|some [ar x8 0,x2,x2]else gd (uZZ x9)<|gd (uZZ x11)<|bif aA (ae .gtr x12 0) (ae .gtr (aQ .add .i64 x10 x12) 65536) false then some [x3,x2,.int 6]else gd (uZZ x13)<|some [ar x13 0,.int x12,x2]:=by kernel_rfl
def F14_eq:=by have h:= @F14_e;simp only[aN,gd,aq,aj,aE,aK,az,aM,cond_true]at h;exact h
def q14:uAC:=veil (F14)
theorem U5:q14=F14:=ak _
def tb14:Tb:=Tb.addF wU 14 S14 (q14)
theorem ok_tb14:TbOk env (tb14):=aG G8 14 (by kernel_rfl) _ (U5)
def S44_5:LoopS:=⟨0,uF::ufP 0 0::ufS (.lit (.bool false))::ufI::utI::uAA 29 [],[(.dat false 25)],[⟨0,2,uT::utP 0 0::utS (.lit (.bool false))::ufI::uAB 30 [],[(.dat false 25)]⟩,⟨1,0,uT::uT::utS (.lit (.bool true))::ufI::uAB 30 [],[(.dat false 25)]⟩]⟩
def C0 (p s:List D):Option (Sum (List D) (List D)):=aR env tb14 60 12 44 (aW 44 5) S44_5 p s
theorem U6 (pn0:Int) (pd1:D) (sn0:Int):C0 [(D.int pn0),pd1] [(D.int sn0)] =
 let x0:=aI (aa pd1 1) pn0
 let x1:=aa (ay (aa pd1 1) pn0) 1
 let x2:=D.int pn0
 gd x0<|bif ae .lss sn0 (ai x1)then gd x0<|gd (aI x1 sn0)<|bif ae .eql (ah (aa (ay x1 sn0) 0)) 5 then ge x2<|ge pd1<|some (Sum.inr [.int 1])else ge x2<|ge pd1<|some (Sum.inl [.int (aQ .add .i64 sn0 1)])else ge x2<|ge pd1<|some (Sum.inr [.int 0]):=by kernel_rfl
def zX:=by have h:= @U6;simp only[aN,gd,aq,aj,aE,aK,az,aM,cond_true]at h;exact h
def Mz:List D->uAC:=veil fun p s=>loW (C0 p) s
theorem G9:Mz=fun p s=>loW (C0 p) s:=ak _
def C1:Tb:=Tb.addL tb14 44 5 S44_5.n0 (bu S44_5 (Mz))
theorem Kk:TbOk env (C1):=aF ok_tb14 44 5 (by kernel_rfl) _ (G9)
def S44_2:LoopS:=⟨0,uF::ufP 0 0::ufS (.lit (.bool false))::utI::uAA 30 [],[(.dat false 25)],[⟨0,0,uT::uT::utS (.lit (.bool false))::uAB 31 [],[(.dat false 25)]⟩,⟨1,0,uT::uT::utS (.lit (.bool true))::uAB 31 [],[(.dat false 25)]⟩]⟩
def C2 (p s:List D):Option (Sum (List D) (List D)):=aR env C1 60 12 44 (aW 44 2) S44_2 p s
theorem U7 (pd0:D) (sn0:Int):C2 [pd0] [(D.int sn0)] =
 let x0:=Mz [.int sn0,pd0] [.int 0]
 bif ae .lss sn0 (ai (aa pd0 1))then gd (uZZ x0)<|bif ae .eql (ah (ar x0 0)) 0 then ge pd0<|some (Sum.inl [.int (aQ .add .i64 sn0 1)])else ge pd0<|some (Sum.inr [.int 1])else ge pd0<|some (Sum.inr [.int 0]):=by kernel_rfl
def zY:=by have h:= @U7;simp only[aN,gd,aq,aj,aE,aK,az,aM,cond_true]at h;exact h
def Ha:List D->uAC:=veil fun p s=>loW (C2 p) s
theorem Hb:Ha=fun p s=>loW (C2 p) s:=ak _
def C3:Tb:=Tb.addL C1 44 2 S44_2.n0 (bu S44_2 (Ha))
theorem Kl:TbOk env (C3):=aF Kk 44 2 (by kernel_rfl) _ (Hb)
def S44:FunS:=⟨[utD 25],[],[utB],[]⟩
def F44:uAC:=aS env C3 60 12 44 S44
theorem F44_eq (sd0:D):F44 [sd0] =
 bif (uZZ (Ha [sd0] [(D.int 0)]))then
 bif (ae BinOp.eql (ah (ar (Ha [sd0] [(D.int 0)]) 0)) 0)then
 some [(D.bool Bool.false)]
 else
 some [(D.bool Bool.true)]
 else
 none:=by kernel_rfl
def q44:uAC:=veil (F44)
theorem U8:q44=F44:=ak _
def tb44:Tb:=Tb.addF C3 44 S44 (q44)
theorem ok_tb44:TbOk env (tb44):=aG Kl 44 (by kernel_rfl) _ (U8)
def S120_2:LoopS:=⟨0,ufR 3::ufI::uF::uF::ufN::utI::uAA 42 [],[],[⟨0,0,ufR 3::ufI::uT::uT::utN::utI::uAB 42 [],[]⟩]⟩
def r9 (p s:List D):Option (Sum (List D) (List D)):=aR env tb44 60 12 120 (aW 120 2) S120_2 p s
theorem Pf (pd0:D) (pn1:Int) (sn0:Int):r9 [pd0,(D.int pn1)] [(D.int sn0)] =
 let x0:=ae .lss sn0 (ai pd0)
 gd (aA x0 (aI pd0 sn0) true)<|bif aA x0 (ae .lss (ah (ay pd0 sn0)) pn1) false then ge pd0<|ge (.int pn1)<|some (Sum.inl [.int (aQ .add .i64 sn0 1)])else ge pd0<|ge (.int pn1)<|some (Sum.inr [.int 0,.int sn0]):=by kernel_rfl
def wV:=by have h:= @Pf;simp only[aN,gd,aq,aj,aE,aK,az,aM,cond_true]at h;exact h
def C4:List D->uAC:=veil fun p s=>loW (r9 p) s
theorem zZ:C4=fun p s=>loW (r9 p) s:=ak _
def wW:Tb:=Tb.addL tb44 120 2 S120_2.n0 (bu S120_2 (C4))
theorem Hd:TbOk env (wW):=aF ok_tb44 120 2 (by kernel_rfl) _ (zZ)
def S120:FunS:=⟨[utR 3,utI],[],[utR 3],[]⟩
def F120:uAC:=aS env wW 60 12 120 S120
theorem F120_e (sd0:D) (sn1:Int):F120 [sd0,(D.int sn1)] =
 let x0:=C4 [sd0,.int sn1] [.int 0]
 let x1:=ah (ar x0 1)
 let x2:=ai sd0
 let x3:=ae .lss x1 x2
 let x4:=ae .leq 0 x1
 let x5:=ae .leq x1 x2
 let x6:=cj sd0 0 x1
 let x7:=ai x6
 let x8:=bN x6 (.list [.int sn1])
 let x9:=ai x8
 let x10:=bN x8 (cj sd0 x1 x2)
 let x11:=ai x10
 gd (uZZ x0)<|gd (aA x3 (aI sd0 x1) true)<|bif aA x3 (ae .eql (ah (ay sd0 x1)) sn1) false then some [sd0]else gd (ae .leq 0 0)<|gd x4<|gd x5<|gd (bF x7 8)<|gd (ae .eql x7 x7)<|gd (bF x9 8)<|gd x4<|gd x5<|gd (ae .leq x2 x2)<|gd (ae .eql x9 x9)<|gd (bF x11 8)<|gd (ae .eql x11 x11)<|some [x10]:=by kernel_rfl
def F120_eq:=by have h:= @F120_e;simp only[aN,gd,aq,aj,aE,aK,az,aM,cond_true]at h;exact h
def q120:uAC:=veil (F120)
theorem MA:q120=F120:=ak _
def U9:Tb:=Tb.addF wW 120 S120 (q120)
theorem He:TbOk env (U9):=aG Hd 120 (by kernel_rfl) _ (MA)
def S85:FunS:=⟨[utD 61],[],[utR 3],[]⟩
def Va (Q:uAC):Tb:=Tb.addF U9 85 S85 Q
theorem Vb (Q:uAC) (hQ:aY env.P 85 S85 Q):TbOk env (Va Q):=TbOk.addF He (by kernel_rfl) hQ
def S85_9:LoopS:=⟨0,uF::ufP 0 0::ufN::utR 3::ufI::ufR 3::utI::uAA 34 [],[(.dat false 61)],[⟨0,2,uT::utP 0 0::utN::utR 3::ufI::ufR 3::uAB 35 [],[(.dat false 61)]⟩]⟩
def wX (Q:uAC) (p s:List D):Option (Sum (List D) (List D)):=aR env (Va Q) 60 12 85 (aW 85 9) S85_9 p s
theorem Vc (Q:uAC) (pn0:Int) (pd1:D) (pd2:D) (sd0:D) (sn1:Int):wX Q [(D.int pn0),pd1,pd2] [sd0,(D.int sn1)] =
 let x0:=q120 [sd0,.int (ah (ay pd1 sn1))]
 bif ae .lss sn1 (ai pd1)then gd (aI pd1 sn1)<|gd (uZZ x0)<|ge (.int pn0)<|ge pd1<|ge pd2<|some (Sum.inl [ar x0 0,.int (aQ .add .i64 sn1 1)])else ge (.int pn0)<|ge pd1<|ge pd2<|some (Sum.inr [.int 0,sd0]):=by kernel_rfl
def pH:=by have h:= @Vc;simp only[aN,gd,aq,aj,aE,aK,az,aM,cond_true]at h;exact h
def MB (Q:uAC):List D->uAC:=veil fun p s=>loW (wX Q p) s
theorem Hf (Q:uAC):MB Q=fun p s=>loW (wX Q p) s:=ak _
def C5 (Q:uAC):Tb:=Tb.addL (Va Q) 85 9 S85_9.n0 (bu S85_9 (MB Q))
theorem Km (Q:uAC) (hQ:aY env.P 85 S85 Q):TbOk env (C5 Q):=aF (Vb Q hQ) 85 9 (by kernel_rfl) _ (Hf Q)
def S85_5:LoopS:=⟨0,uF::ufP 0 0::ufN::utR 3::utI::uAA 36 [],[(.dat false 61)],[⟨0,0,uT::uT::utN::utR 3::uAB 37 [],[(.dat false 61)]⟩]⟩
def mI (Q:uAC) (p s:List D):Option (Sum (List D) (List D)):=aR env (C5 Q) 60 12 85 (aW 85 5) S85_5 p s
theorem Vd (Q:uAC) (pd0:D) (sd0:D) (sn1:Int):mI Q [pd0] [sd0,(D.int sn1)] =
 let x0:=aa pd0 4
 let x1:=Q [ay x0 sn1]
 let x2:=MB Q [.int sn1,ar x1 0,pd0] [sd0,.int 0]
 bif ae .lss sn1 (ai x0)then gd (aI x0 sn1)<|gd (uZZ x1)<|gd (uZZ x2)<|ge pd0<|some (Sum.inl [ar x2 1,.int (aQ .add .i64 sn1 1)])else ge pd0<|some (Sum.inr [.int 0,sd0]):=by kernel_rfl
def z6:=by have h:= @Vd;simp only[aN,gd,aq,aj,aE,aK,az,aM,cond_true]at h;exact h
def wY (Q:uAC):List D->uAC:=veil fun p s=>loW (mI Q p) s
theorem Hg (Q:uAC):wY Q=fun p s=>loW (mI Q p) s:=ak _
def C6 (Q:uAC):Tb:=Tb.addL (C5 Q) 85 5 S85_5.n0 (bu S85_5 (wY Q))
theorem Kn (Q:uAC) (hQ:aY env.P 85 S85 Q):TbOk env (C6 Q):=aF (Km Q hQ) 85 5 (by kernel_rfl) _ (Hg Q)
def Fb85 (Q:uAC):uAC:=aS env (C6 Q) 60 12 85 S85
theorem Fb85_eq (Q:uAC) (sd0:D):Fb85 Q [sd0] =
 bif (ae BinOp.eql (ah (aa sd0 0)) 2)then
 bif (uZZ (wY Q [sd0] [(D.list [(D.int (ah (aa sd0 2)))]),(D.int 0)]))then
 some [(ar (wY Q [sd0] [(D.list [(D.int (ah (aa sd0 2)))]),(D.int 0)]) 1)]
 else
 none
 else
 bif (uZZ (wY Q [sd0] [(D.list []),(D.int 0)]))then
 some [(ar (wY Q [sd0] [(D.list []),(D.int 0)]) 1)]
 else
 none:=by kernel_rfl
def F85:Nat->uAC:=levels Fb85
theorem F85_s (n:Nat):F85 (n+1)=Fb85 (F85 n):=rfl
def q85:uAC:=veil fun ds=>F85 (bE ds) ds
theorem Ve:q85=fun ds=>F85 (bE ds) ds:=ak _
theorem sound85:aY env.P 85 S85 q85:=nK (fun q=>C6 q) (fun q hq=>Kn q hq) Ve
def tb85:Tb:=Tb.addF U9 85 S85 q85
theorem ok_tb85:TbOk env tb85:=TbOk.addF He (by kernel_rfl) sound85
def S45_12:LoopS:=⟨0,uF::ufP 0 0::ufZ::utI::ufI::ufI::ufP 1 0::utI::uAA 81 [],[(.dat false 57),(.dat false 25)],[⟨0,4,uT::utP 0 0::utZ::utI::ufI::ufI::uAB 83 [],[(.dat false 57),(.dat false 25)]⟩]⟩
def sd (p s:List D):Option (Sum (List D) (List D)):=aR env tb85 60 12 45 (aW 45 12) S45_12 p s
theorem Pg (pn0:Int) (pn1:Int) (pd2:D) (pd3:D) (sn0:Int) (sn1:Int):sd [(D.int pn0),(D.int pn1),pd2,pd3] [(D.int sn0),(D.int sn1)] =
 let x0:=aa pd2 6
 let x1:=q85 [ay x0 sn1]
 let x2:=ar x1 0
 let x3:=ae .gtr (ai x2) 0
 let x4:=aQ .sub .i64 (ai x2) 1
 let x5:=aI x2 x4
 let x6:=ah (ay x2 x4)
 let x7:=D.int pn0
 let x8:=D.int pn1
 let x9:=D.int (aQ .add .i64 sn1 1)
 bif ae .lss sn1 (ai x0)then gd (aI x0 sn1)<|gd (uZZ x1)<|gd (aA x3 x5 true)<|bif aA x3 (ae .geq x6 sn0) false then gd x5<|ge x7<|ge x8<|ge pd2<|ge pd3<|some (Sum.inl [.int (aQ .add .i64 (qmm .lss x6 65535) 1),x9])else ge x7<|ge x8<|ge pd2<|ge pd3<|some (Sum.inl [.int sn0,x9])else ge x7<|ge x8<|ge pd2<|ge pd3<|some (Sum.inr [.int 0,.int sn0]):=by kernel_rfl
def wZ:=by have h:= @Pg;simp only[aN,gd,aq,aj,aE,aK,az,aM,cond_true]at h;exact h
def C7:List D->uAC:=veil fun p s=>loW (sd p) s
theorem z7:C7=fun p s=>loW (sd p) s:=ak _
def w4:Tb:=Tb.addL tb85 45 12 S45_12.n0 (bu S45_12 (C7))
theorem Hh:TbOk env (w4):=aF ok_tb85 45 12 (by kernel_rfl) _ (z7)
def S45_6:LoopS:=⟨0,uF::ufP 0 0::ufZ::utI::ufI::utI::uAA 83 [],[(.dat false 25)],[⟨0,2,uT::utP 0 0::utZ::utI::ufI::uAB 84 [],[(.dat false 25)]⟩]⟩
def C8 (p s:List D):Option (Sum (List D) (List D)):=aR env w4 60 12 45 (aW 45 6) S45_6 p s
theorem Vf (pn0:Int) (pd1:D) (sn0:Int) (sn1:Int):C8 [(D.int pn0),pd1] [(D.int sn0),(D.int sn1)] =
 let x0:=aI (aa pd1 1) pn0
 let x1:=aa (ay (aa pd1 1) pn0) 1
 let x2:=D.int pn0
 let x3:=ay x1 sn1
 let x4:=ah (aa x3 0)
 let x5:=ah (aa x3 1)
 let x6:=C7 [x2,.int sn1,x3,pd1] [.int (iy (aA (aA (ae .eql x4 1) true (ae .eql x4 3)) (ae .geq x5 sn0) false) (aQ .add .i64 (qmm .lss x5 65535) 1) sn0),.int 0]
 gd x0<|bif ae .lss sn1 (ai x1)then gd x0<|gd (aI x1 sn1)<|gd (uZZ x6)<|ge x2<|ge pd1<|some (Sum.inl [.int (ah (ar x6 1)),.int (aQ .add .i64 sn1 1)])else ge x2<|ge pd1<|some (Sum.inr [.int 0,.int sn0]):=by kernel_rfl
def z8:=by have h:= @Vf;simp only[aN,gd,aq,aj,aE,aK,az,aM,cond_true]at h;exact h
def MC:List D->uAC:=veil fun p s=>loW (C8 p) s
theorem Hi:MC=fun p s=>loW (C8 p) s:=ak _
def C9:Tb:=Tb.addL w4 45 6 S45_6.n0 (bu S45_6 (MC))
theorem Ko:TbOk env (C9):=aF Hh 45 6 (by kernel_rfl) _ (Hi)
def S45_3:LoopS:=⟨0,uF::ufP 0 0::ufZ::utI::utI::uAA 84 [],[(.dat false 25)],[⟨0,0,uT::uT::utZ::utI::uAB 85 [],[(.dat false 25)]⟩]⟩
def Da (p s:List D):Option (Sum (List D) (List D)):=aR env C9 60 12 45 (aW 45 3) S45_3 p s
theorem Vg (pd0:D) (sn0:Int) (sn1:Int):Da [pd0] [(D.int sn0),(D.int sn1)] =
 let x0:=MC [.int sn1,pd0] [.int sn0,.int 0]
 bif ae .lss sn1 (ai (aa pd0 1))then gd (uZZ x0)<|ge pd0<|some (Sum.inl [.int (ah (ar x0 1)),.int (aQ .add .i64 sn1 1)])else ge pd0<|some (Sum.inr [.int 0,.int sn0]):=by kernel_rfl
def Aa:=by have h:= @Vg;simp only[aN,gd,aq,aj,aE,aK,az,aM,cond_true]at h;exact h
def Hj:List D->uAC:=veil fun p s=>loW (Da p) s
theorem Hk:Hj=fun p s=>loW (Da p) s:=ak _
def Db:Tb:=Tb.addL C9 45 3 S45_3.n0 (bu S45_3 (Hj))
theorem Kp:TbOk env (Db):=aF Ko 45 3 (by kernel_rfl) _ (Hk)
def S45:FunS:=⟨[utD 25],[],[utI],[]⟩
def F45:uAC:=aS env Db 60 12 45 S45
theorem F45_eq (sd0:D):F45 [sd0] =
 bif (uZZ (Hj [sd0] [(D.int 12),(D.int 0)]))then
 some [(D.int (ah (ar (Hj [sd0] [(D.int 12),(D.int 0)]) 1)))]
 else
 none:=by kernel_rfl
def q45:uAC:=veil (F45)
theorem Vh:q45=F45:=ak _
def tb45:Tb:=Tb.addF Db 45 S45 (q45)
theorem ok_tb45:TbOk env (tb45):=aG Kp 45 (by kernel_rfl) _ (Vh)
def S87_3:LoopS:=⟨1,ufP 0 0::ufI::ufI::uF::uF::uF::ufZ::utI::utI::uAA 41 [],[(.cells [ufI,ufR 88,ufB,ufI])],[⟨0,0,uT::ufI::ufI::uT::uT::uT::utZ::uAB 43 [],[(.cells [ufI,ufR 88,ufB,ufI])]⟩,⟨1,0,uT::ufI::ufI::uT::uT::uT::utI::uAB 43 [],[(.cells [ufI,ufR 88,ufB,ufI])]⟩]⟩
def Dc (p s:List D):Option (Sum (List D) (List D)):=aR env tb45 60 12 87 (aW 87 3) S87_3 p s
theorem Vi (pn0:Int) (pn1:Int) (pn2:Int) (pd3:D) (pb4:Bool) (pn5:Int) (sn0:Int) (sn1:Int):Dc [(D.int pn0),(D.int pn1),(D.int pn2),pd3,(D.bool pb4),(D.int pn5)] [(D.int sn0),(D.int sn1)] =
 let x0:=ay pd3 sn1
 let x1:=D.int pn0
 let x2:=D.int pn1
 let x3:=D.int pn2
 let x4:=D.bool pb4
 let x5:=D.int pn5
 let x6:=D.int (aQ .add .i64 sn1 1)
 bif ae .lss sn1 (ai pd3)then gd (aI pd3 sn1)<|bif aA (aJ (aa x0 4)) true (ae .neq (ah (aa x0 1)) 4)then ge x1<|ge x2<|ge x3<|ge pd3<|ge x4<|ge x5<|some (Sum.inl [.int sn0,x6])else bif aA (ae .eql (ah (aa x0 0)) pn0) (ae .eql pn1 4) false then ge x1<|ge x2<|ge x3<|ge pd3<|ge x4<|ge x5<|some (Sum.inr [.int 1,.int sn0])else ge x1<|ge x2<|ge x3<|ge pd3<|ge x4<|ge x5<|some (Sum.inl [.int (aQ .add .i64 sn0 1),x6])else ge x1<|ge x2<|ge x3<|ge pd3<|ge x4<|ge x5<|some (Sum.inr [.int 0]):=by kernel_rfl
def Ab:=by have h:= @Vi;simp only[aN,gd,aq,aj,aE,aK,az,aM,cond_true]at h;exact h
def MD:List D->uAC:=veil fun p s=>loW (Dc p) s
theorem Hl:MD=fun p s=>loW (Dc p) s:=ak _
def Dd:Tb:=Tb.addL tb45 87 3 S87_3.n0 (bu S87_3 (MD))
theorem Kq:TbOk env (Dd):=aF ok_tb45 87 3 (by kernel_rfl) _ (Hl)
def S87:FunS:=⟨[utP 0 0,utI,utI],[(.cells [ufI,ufR 88,ufB,ufI])],[utI],[(.cells [ufI,ufR 88,ufB,ufI])]⟩
def F87:uAC:=aS env Dd 60 12 87 S87
theorem F87_e (pn0:Int) (pd1:D) (pb2:Bool) (pn3:Int) (sn0:Int) (sn1:Int):F87 [(D.int pn0),pd1,(D.bool pb2),(D.int pn3),(D.int sn0),(D.int sn1)] =
 let x0:=D.int pn0
 let x1:=D.bool pb2
 let x2:=D.int pn3
 let x3:=MD [.int sn0,.int sn1,x0,pd1,x1,x2] [x2,.int 0]
 gd (uZZ x3)<|bif ae .eql (ah (ar x3 0)) 0 then ge x0<|ge pd1<|ge x1<|ge x2<|some [.int (-1)]else ge x0<|ge pd1<|ge x1<|ge x2<|some [.int (ah (ar x3 1))]:=by kernel_rfl
def F87_eq:=by have h:= @F87_e;simp only[aN,gd,aq,aj,aE,aK,az,aM,cond_true]at h;exact h
def q87:uAC:=veil (F87)
theorem Vj:q87=F87:=ak _
def tb87:Tb:=Tb.addF Dd 87 S87 (q87)
theorem ME:TbOk env (tb87):=aG Kq 87 (by kernel_rfl) _ (Vj)
def S86:FunS:=⟨[utP 0 0,utD 61,utI],[(.cells [ufI,ufR 88,ufB,ufI])],[utD 61],[(.cells [ufI,ufR 88,ufB,ufI])]⟩
def Vk (Q:uAC):Tb:=Tb.addF tb87 86 S86 Q
theorem Vl (Q:uAC) (hQ:aY env.P 86 S86 Q):TbOk env (Vk Q):=TbOk.addF ME (by kernel_rfl) hQ
def S86_10:LoopS:=⟨1,ufP 0 0::uF::ufI::uF::ufP 1 0::uF::ufP 2 0::uF::uF::uF::ufO 3 61::utI::uAA 44 [],[(.lst true 61),(.cells [ufZ,ufS (.lit (.int .u32 0)),ufZ,ufZ,ufN]),(.dat false 61),(.cells [ufI,ufR 88,ufB,ufI])],[⟨0,0,uT::uT::ufI::uT::utP 1 0::uT::utP 2 0::uT::uT::uT::utO 3 61::uAB 45 [],[(.lst true 61),(.cells [utZ,utS (.lit (.int .u32 0)),utZ,utZ,utN]),(.dat false 61),(.cells [ufI,ufR 88,ufB,ufI])]⟩]⟩
def se (Q:uAC) (p s:List D):Option (Sum (List D) (List D)):=aR env (Vk Q) 60 12 86 (aW 86 10) S86_10 p s
theorem Ph (Q:uAC) (pn0:Int) (pd1:D) (pn2:Int) (pd3:D) (pb4:Bool) (pn5:Int) (sn0:Int) (sd1:D):se Q [(D.int pn0),pd1,(D.int pn2),pd3,(D.bool pb4),(D.int pn5)] [(D.int sn0),sd1] =
 let x0:=aa pd1 4
 let x1:=D.int pn2
 let x2:=D.bool pb4
 let x3:=D.int pn5
 let x4:=D.int pn0
 let x5:=Q [x1,pd3,x2,x3,ay x0 sn0,x4]
 let x6:=ae .eql (ai sd1) (ai sd1)
 let x7:=ar x5 0
 let x8:=bN sd1 (.list [.agg [.int (ah (aa x7 0)),.int (ah (aa x7 1)),.int (ah (aa x7 2)),.int (ah (aa x7 3)),aa x7 4]])
 let x9:=ai x8
 bif ae .lss sn0 (ai x0)then gd (aI x0 sn0)<|gd (uZZ x5)<|gd x6<|gd (bF x9 56)<|gd (ae .eql x9 x9)<|ge x4<|ge pd1<|ge x1<|ge pd3<|ge x2<|ge x3<|some (Sum.inl [.int (aQ .add .i64 sn0 1),x8])else gd x6<|ge x4<|ge pd1<|ge x1<|ge pd3<|ge x2<|ge x3<|some (Sum.inr [.int 0,sd1]):=by kernel_rfl
def Kr:=by have h:= @Ph;simp only[aN,gd,aq,aj,aE,aK,az,aM,cond_true]at h;exact h
def De (Q:uAC):List D->uAC:=veil fun p s=>loW (se Q p) s
theorem Ad (Q:uAC):De Q=fun p s=>loW (se Q p) s:=ak _
def w5 (Q:uAC):Tb:=Tb.addL (Vk Q) 86 10 S86_10.n0 (bu S86_10 (De Q))
theorem Hm (Q:uAC) (hQ:aY env.P 86 S86 Q):TbOk env (w5 Q):=aF (Vl Q hQ) 86 10 (by kernel_rfl) _ (Ad Q)
def Fb86 (Q:uAC):uAC:=aS env (w5 Q) 60 12 86 S86
theorem Fb86_e (Q:uAC) (pn0:Int) (pd1:D) (pb2:Bool) (pn3:Int) (sd0:D) (sn1:Int):Fb86 Q [(D.int pn0),pd1,(D.bool pb2),(D.int pn3),sd0,(D.int sn1)] =
 let x0:=ah (aa sd0 0)
 let x1:=q21 [ay (aa sd0 4) 0]
 let x2:=q75 [.int sn1,.int (ah (ar x1 0))]
 let x3:=D.int pn0
 let x4:=D.bool pb2
 let x5:=D.int pn3
 let x6:=D.int (ah (aa sd0 3))
 let x7:=q87 [x3,pd1,x4,x5,.int (ah (ar x2 0)),x6]
 let x8:=ah (ar x7 0)
 let x9:=D.int 0
 let x10:=D.list []
 let x11:=De Q [.int sn1,sd0,x3,pd1,x4,x5] [x9,x10]
 let x12:Option (List D):=gd (ae .eql 0 (ai x10))<|gd (uZZ x11)<|gd (ae .eql (ai (ar x11 1)) (ai (ar x11 1)))<|ge x3<|ge pd1<|ge x4<|ge x5<|some [.agg [.int x0,.int (ah (aa sd0 1)),.int (ah (aa sd0 2)),x6,ar x11 1]]
 bif ae .eql x0 18 then gd (aI (aa sd0 4) 0)<|gd (uZZ x1)<|bif aJ (ar x1 1)then gd (uZZ x2)<|gd (uZZ x7)<|bif ae .geq x8 0 then ge x3<|ge pd1<|ge x4<|ge x5<|some [.agg [.int 2,x9,.int x8,x9,x10]]else x12 else x12 else x12:=by kernel_rfl
def Fb86_eq:=by have h:= @Fb86_e;simp only[aN,gd,aq,aj,aE,aK,az,aM,cond_true]at h;exact h
def F86:Nat->uAC:=levels Fb86
theorem F86_s (n:Nat):F86 (n+1)=Fb86 (F86 n):=rfl
def q86:uAC:=veil fun ds=>F86 (bE ds) ds
theorem Vm:q86=fun ds=>F86 (bE ds) ds:=ak _
theorem sound86:aY env.P 86 S86 q86:=nK (fun q=>w5 q) (fun q hq=>Hm q hq) Vm
def tb86:Tb:=Tb.addF tb87 86 S86 q86
theorem ok_tb86:TbOk env tb86:=TbOk.addF ME (by kernel_rfl) sound86
def S46_3:LoopS:=⟨1,ufP 0 0::uF::ufI::uF::ufP 1 0::uF::ufP 2 0::ufO 3 61::utI::uAA 51 [],[(.lst true 61),(.cells [ufZ,ufZ,ufZ,ufZ,ufZ,ufS (.lit (.int .u32 0)),ufN,ufN]),(.dat false 57),(.cells [ufI,ufR 88,ufB,ufI])],[⟨0,0,utP 0 0::uT::ufI::uT::utP 1 0::uT::utP 2 0::utO 3 61::uAB 52 [],[(.lst true 61),(.cells [utZ,utZ,utZ,utZ,utZ,utS (.lit (.int .u32 0)),utN,utN]),(.dat false 57),(.cells [ufI,ufR 88,ufB,ufI])]⟩]⟩
def Df (p s:List D):Option (Sum (List D) (List D)):=aR env tb86 60 12 46 (aW 46 3) S46_3 p s
theorem Vn (pn0:Int) (pd1:D) (pn2:Int) (pd3:D) (pb4:Bool) (pn5:Int) (sn0:Int) (sd1:D):Df [(D.int pn0),pd1,(D.int pn2),pd3,(D.bool pb4),(D.int pn5)] [(D.int sn0),sd1] =
 let x0:=aa pd1 6
 let x1:=D.int pn2
 let x2:=D.bool pb4
 let x3:=D.int pn5
 let x4:=D.int pn0
 let x5:=q86 [x1,pd3,x2,x3,ay x0 sn0,x4]
 let x6:=ae .eql (ai sd1) (ai sd1)
 let x7:=ar x5 0
 let x8:=bN sd1 (.list [.agg [.int (ah (aa x7 0)),.int (ah (aa x7 1)),.int (ah (aa x7 2)),.int (ah (aa x7 3)),aa x7 4]])
 let x9:=ai x8
 bif ae .lss sn0 (ai x0)then gd (aI x0 sn0)<|gd (uZZ x5)<|gd x6<|gd (bF x9 56)<|gd (ae .eql x9 x9)<|ge x4<|ge pd1<|ge x1<|ge pd3<|ge x2<|ge x3<|some (Sum.inl [.int (aQ .add .i64 sn0 1),x8])else gd x6<|ge x4<|ge pd1<|ge x1<|ge pd3<|ge x2<|ge x3<|some (Sum.inr [.int 0,sd1]):=by kernel_rfl
def Pi:=by have h:= @Vn;simp only[aN,gd,aq,aj,aE,aK,az,aM,cond_true]at h;exact h
def MF:List D->uAC:=veil fun p s=>loW (Df p) s
theorem Hn:MF=fun p s=>loW (Df p) s:=ak _
def Dg:Tb:=Tb.addL tb86 46 3 S46_3.n0 (bu S46_3 (MF))
theorem Ks:TbOk env (Dg):=aF ok_tb86 46 3 (by kernel_rfl) _ (Hn)
def S46:FunS:=⟨[utP 0 0,utD 57,utI],[(.cells [ufI,ufR 88,ufB,ufI])],[utD 57],[(.cells [ufI,ufR 88,ufB,ufI])]⟩
def F46:uAC:=aS env Dg 60 12 46 S46
theorem F46_e (pn0:Int) (pd1:D) (pb2:Bool) (pn3:Int) (sd0:D) (sn1:Int):F46 [(D.int pn0),pd1,(D.bool pb2),(D.int pn3),sd0,(D.int sn1)] =
 let x0:=D.list []
 let x1:=D.int pn0
 let x2:=D.bool pb2
 let x3:=D.int pn3
 let x4:=D.int 0
 let x5:=MF [.int sn1,sd0,x1,pd1,x2,x3] [x4,x0]
 let x6:=ah (aa sd0 0)
 let x7:=q21 [ay (aa sd0 6) 0]
 let x8:=q75 [.int sn1,.int (ah (ar x7 0))]
 let x9:=D.int (ah (aa sd0 2))
 let x10:=q87 [x1,pd1,x2,x3,.int (ah (ar x8 0)),x9]
 let x11:=ah (ar x10 0)
 let x12:=ar x5 1
 let x13:=ai x12
 let x14:=ay x12 1
 let x15:Option (List D):=gd (ae .eql x13 x13)<|ge x1<|ge pd1<|ge x2<|ge x3<|some [.agg [.int x6,.int (ah (aa sd0 1)),x9,.int (ah (aa sd0 3)),.int (ah (aa sd0 4)),.int (ah (aa sd0 5)),x12,aa sd0 7]]
 gd (ae .eql 0 (ai x0))<|gd (uZZ x5)<|bif ae .eql x6 2 then gd (aI (aa sd0 6) 0)<|gd (uZZ x7)<|bif aJ (ar x7 1)then gd (uZZ x8)<|gd (uZZ x10)<|bif ae .geq x11 0 then gd (ae .leq 0 1)<|gd (ae .lss 1 x13)<|gd (aI x12 1)<|ge x1<|ge pd1<|ge x2<|ge x3<|some [.agg [.int 1,.int x11,x4,x4,x4,x4,.list [.agg [.int (ah (aa x14 0)),.int (ah (aa x14 1)),.int (ah (aa x14 2)),.int (ah (aa x14 3)),aa x14 4]],x0]]else x15 else x15 else x15:=by kernel_rfl
def F46_eq:=by have h:= @F46_e;simp only[aN,gd,aq,aj,aE,aK,az,aM,cond_true]at h;exact h
def q46:uAC:=veil (F46)
theorem Vo:q46=F46:=ak _
def tb46:Tb:=Tb.addF Dg 46 S46 (q46)
theorem ok_tb46:TbOk env (tb46):=aG Ks 46 (by kernel_rfl) _ (Vo)
def S15_10:LoopS:=⟨0,uF::uF::ufP 0 0::ufP 1 0::ufP 2 0::ufZ::ufZ::uF::uF::utI::utI::uAA 154 [],[(.cells [ufS (.lit (.int .u32 0)),ufN]),(.dat false 36),(.dat false 25)],[⟨0,0,uT::uT::utP 0 0::utP 1 0::utP 2 0::utZ::utZ::uT::uT::utI::uAB 155 [],[(.cells [utS (.lit (.int .u32 0)),utN]),(.dat false 36),(.dat false 25)]⟩]⟩
def og (p s:List D):Option (Sum (List D) (List D)):=aR env tb46 60 12 15 (aW 15 10) S15_10 p s
theorem Pj (pd0:D) (pd1:D) (sn0:Int) (sn1:Int):og [pd0,pd1] [(D.int sn0),(D.int sn1)] =
 let x0:=aa pd0 1
 let x1:=aI x0 sn1
 let x2:=ay x0 sn1
 let x3:=ca (aJ (aa x2 4))
 let x4:=D.int (aQ .add .i64 sn1 1)
 bif ae .lss sn1 (ai x0)then gd x1<|gd (aA x3 x1 true)<|bif aA x3 (ae .eql (ah (aa x2 1)) 4) false then ge pd0<|ge pd1<|some (Sum.inl [.int (aQ .add .i64 sn0 1),x4])else ge pd0<|ge pd1<|some (Sum.inl [.int sn0,x4])else ge pd0<|ge pd1<|some (Sum.inr [.int 0,.int sn0]):=by kernel_rfl
def w6:=by have h:= @Pj;simp only[aN,gd,aq,aj,aE,aK,az,aM,cond_true]at h;exact h
def Dh:List D->uAC:=veil fun p s=>loW (og p) s
theorem Ae:Dh=fun p s=>loW (og p) s:=ak _
def w7:Tb:=Tb.addL tb46 15 10 S15_10.n0 (bu S15_10 (Dh))
theorem Ho:TbOk env (w7):=aF ok_tb46 15 10 (by kernel_rfl) _ (Ae)
def S15_26:LoopS:=⟨0,uF::uF::ufP 0 0::uF::ufP 1 0::ufZ::ufZ::uF::uF::ufI::uF::ufP 2 0::ufR 3::uF::ufR 4::ufP 3 0::ufI::ufP 5 0::utI::utI::uAA 145 [],[(.lst true 57),(.cells [ufS (.int .u32),ufO 6 57]),(.lst false 54),(.cells [ufS (.int .u32),ufO 4 54]),(.cells [ufI,ufR 88,ufB,ufI]),(.cells [ufS (.lit (.int .u32 0)),ufN]),(.dat false 25)],[⟨0,4,uT::uT::utP 0 0::uT::utP 1 0::utZ::utZ::uT::uT::ufI::uT::utP 2 0::ufR 3::uT::ufR 4::utP 3 0::ufI::utP 5 0::uAB 147 [],[(.lst true 57),(.cells [ufS (.int .u32),utO 6 57]),(.lst false 54),(.cells [ufS (.int .u32),utO 4 54]),(.cells [ufI,ufR 88,ufB,ufI]),(.cells [utS (.lit (.int .u32 0)),utN]),(.dat false 25)]⟩]⟩
def g6 (p s:List D):Option (Sum (List D) (List D)):=aR env w7 60 12 15 (aW 15 26) S15_26 p s
theorem Pk (pn0:Int) (pd1:D) (pd2:D) (pn3:Int) (pn4:Int) (pd5:D) (pn6:Int) (pn7:Int) (pd8:D) (pb9:Bool) (pn10:Int) (pd11:D) (sn0:Int) (sn1:Int) (sd2:D):g6 [(D.int pn0),pd1,pd2,(D.int pn3),(D.int pn4),pd5,(D.int pn6),(D.int pn7),pd8,(D.bool pb9),(D.int pn10),pd11] [(D.int sn0),(D.int sn1),sd2] =
 let x0:=aI (aa pd11 1) pn3
 let x1:=aa (ay (aa pd11 1) pn3) 1
 let x2:=ae .eql (ai sd2) (ai sd2)
 let x3:=ay x1 sn1
 let x4:=bN sd2 (.list [.agg [.int (ah (aa x3 0)),.int (ah (aa x3 1)),.int (ah (aa x3 2)),.int (ah (aa x3 3)),.int (ah (aa x3 4)),.int (ah (aa x3 5)),aa x3 6,aa x3 7]])
 let x5:=ai x4
 let x6:=ae .eql (ai pd5) (ai pd5)
 let x7:=D.int pn0
 let x8:=D.int pn3
 let x9:=D.int pn4
 let x10:=D.int pn6
 let x11:=D.int pn7
 let x12:=D.bool pb9
 let x13:=D.int pn10
 let x14:=D.int sn0
 let x15:=D.int (aQ .add .i64 sn1 1)
 let x16:=q46 [x11,pd8,x12,x13,x3,x14]
 let x17:=ar x16 0
 let x18:=bN sd2 (.list [.agg [.int (ah (aa x17 0)),.int (ah (aa x17 1)),.int (ah (aa x17 2)),.int (ah (aa x17 3)),.int (ah (aa x17 4)),.int (ah (aa x17 5)),aa x17 6,aa x17 7]])
 let x19:=ai x18
 let x20:=q38 [x3,x14]
 gd x0<|bif ae .lss sn1 (ai x1)then gd x0<|gd (aI x1 sn1)<|gd (aI pd2 pn3)<|bif ca (aJ (ay pd2 pn3))then gd x2<|gd (bF x5 96)<|gd (ae .eql x5 x5)<|gd x6<|ge x7<|ge pd1<|ge pd2<|ge x8<|ge x9<|ge pd5<|ge x10<|ge x11<|ge pd8<|ge x12<|ge x13<|ge pd11<|some (Sum.inl [x14,x15,x4])else gd (uZZ x16)<|gd x2<|gd (bF x19 96)<|gd (bL (ae .eql pn4 pn4) x2)<|gd (uZZ x20)<|gd (ae .eql x19 x19)<|gd x6<|ge x7<|ge pd1<|ge pd2<|ge x8<|ge x9<|ge pd5<|ge x10<|ge x11<|ge pd8<|ge x12<|ge x13<|ge pd11<|some (Sum.inl [.int (ah (ar x20 0)),x15,x18])else gd x2<|gd x6<|ge x7<|ge pd1<|ge pd2<|ge x8<|ge x9<|ge pd5<|ge x10<|ge x11<|ge pd8<|ge x12<|ge x13<|ge pd11<|some (Sum.inr [.int 0,sd2]):=by kernel_rfl
def jN:=by have h:= @Pk;simp only[aN,gd,aq,aj,aE,aK,az,aM,cond_true]at h;exact h
def Di:List D->uAC:=veil fun p s=>loW (g6 p) s
theorem Af:Di=fun p s=>loW (g6 p) s:=ak _
def w8:Tb:=Tb.addL w7 15 26 S15_26.n0 (bu S15_26 (Di))
theorem Hq:TbOk env (w8):=aF Ho 15 26 (by kernel_rfl) _ (Af)
def S15_21:LoopS:=⟨0,uF::uF::ufP 0 0::uF::ufP 1 0::ufZ::ufZ::uF::uF::ufI::uF::ufP 2 0::ufR 3::uF::ufR 4::ufP 3 0::utI::uAA 148 [],[(.lst true 54),(.cells [ufS (.int .u32),ufO 4 54]),(.cells [ufI,ufR 88,ufB,ufI]),(.cells [ufS (.lit (.int .u32 0)),ufN]),(.dat false 25)],[⟨0,2,uT::uT::uT::uT::utP 1 0::utZ::utZ::uT::uT::ufI::uT::uT::ufR 3::uT::ufR 4::utP 3 0::uAB 149 [],[(.lst true 54),(.cells [ufS (.int .u32),utO 4 54]),(.cells [ufI,ufR 88,ufB,ufI]),(.cells [utS (.lit (.int .u32 0)),utN]),(.dat false 25)]⟩]⟩
def sf (p s:List D):Option (Sum (List D) (List D)):=aR env w8 60 12 15 (aW 15 21) S15_21 p s
theorem Pl (pn0:Int) (pd1:D) (pd2:D) (pn3:Int) (pn4:Int) (pd5:D) (pb6:Bool) (pn7:Int) (pd8:D) (sn0:Int) (sd1:D):sf [(D.int pn0),pd1,pd2,(D.int pn3),(D.int pn4),pd5,(D.bool pb6),(D.int pn7),pd8] [(D.int sn0),sd1] =
 let x0:=aa pd8 1
 let x1:=ae .eql (ai sd1) (ai sd1)
 let x2:=D.int pn0
 let x3:=D.int (ah (aa (ay x0 sn0) 0))
 let x4:=D.int pn3
 let x5:=D.int pn4
 let x6:=D.bool pb6
 let x7:=D.int pn7
 let x8:=Di [x2,pd1,pd2,.int sn0,x3,sd1,x4,x5,pd5,x6,x7,pd8] [.int (ah (ay pd1 sn0)),.int 0,.list []]
 let x9:=bN sd1 (.list [.agg [x3,ar x8 1]])
 let x10:=ai x9
 bif ae .lss sn0 (ai x0)then gd (aI x0 sn0)<|gd (aI pd1 sn0)<|gd (ae .eql 0 (ai (.list [])))<|gd x1<|gd (uZZ x8)<|gd x1<|gd (ae .eql (ai (ar x8 1)) (ai (ar x8 1)))<|gd (bF x10 32)<|gd (ae .eql x10 x10)<|ge x2<|ge pd1<|ge pd2<|ge x4<|ge x5<|ge pd5<|ge x6<|ge x7<|ge pd8<|some (Sum.inl [.int (aQ .add .i64 sn0 1),x9])else gd x1<|ge x2<|ge pd1<|ge pd2<|ge x4<|ge x5<|ge pd5<|ge x6<|ge x7<|ge pd8<|some (Sum.inr [.int 0,sd1]):=by kernel_rfl
def w9:=by have h:= @Pl;simp only[aN,gd,aq,aj,aE,aK,az,aM,cond_true]at h;exact h
def Dj:List D->uAC:=veil fun p s=>loW (sf p) s
theorem Ag:Dj=fun p s=>loW (sf p) s:=ak _
def xc:Tb:=Tb.addL w8 15 21 S15_21.n0 (bu S15_21 (Dj))
theorem Hr:TbOk env (xc):=aF Hq 15 21 (by kernel_rfl) _ (Ag)
def S15:FunS:=⟨[utD 25,utD 36],[],[utS (.tup [(.dat 25),(.int .i64),(.int .i64)])],[]⟩
def F15:uAC:=aS env xc 60 12 15 S15
theorem F15_e (sd0:D) (sd1:D):F15 [sd0,sd1] =
 let x0:=[sd0]
 let x1:=q11 x0
 let x2:=ah (ar x1 1)
 let x3:=D.int 0
 let x4:=D.agg [x3,.list []]
 let x5:=q12 [ar x1 0,sd1]
 let x6:=q44 x0
 let x7:=Dh [sd1,sd0] [x3,x3]
 let x8:=q45 x0
 let x9:=ah (ar x7 1)
 let x10:=ah (ar x8 0)
 let x11:=q18 x0
 let x12:=q36 x0
 let x13:=D.int (ah (aa sd0 0))
 let x14:=Dj [.int x9,ar x11 0,ar x12 0,x13,.int (ah (aa sd1 0)),aa sd1 1,.bool (aJ (aa sd1 2)),.int x10,sd0] [x3,.list []]
 gd (uZZ x1)<|bif ae .neq x2 0 then some [x4,x3,.int x2]else gd (uZZ x5)<|bif ca (aJ (ar x5 0))then some [x4,x3,.int 2]else gd (uZZ x6)<|bif aJ (ar x6 0)then some [sd0,x3,x3]else gd (uZZ x7)<|gd (uZZ x8)<|bif aA (ae .gtr x9 0) (ae .gtr (aQ .add .i64 x10 x9) 65536) false then some [x4,x3,.int 6]else gd (uZZ x11)<|gd (uZZ x12)<|gd (ae .eql 0 (ai (.list [])))<|gd (uZZ x14)<|gd (ae .eql (ai (ar x14 1)) (ai (ar x14 1)))<|some [.agg [x13,ar x14 1],.int x9,x3]:=by kernel_rfl
def F15_eq:=by have h:= @F15_e;simp only[aN,gd,aq,aj,aE,aK,az,aM,cond_true]at h;exact h
def q15:uAC:=veil (F15)
theorem Vp:q15=F15:=ak _
def tb15:Tb:=Tb.addF xc 15 S15 (q15)
theorem MG:TbOk env (tb15):=aG Hr 15 (by kernel_rfl) _ (Vp)
def Pm:FunS:=⟨[utD 61,utD 61],[],[utB],[]⟩
def Kt (Q:uAC):Tb:=Tb.addF tb15 121 Pm Q
theorem Pn (Q:uAC) (hQ:aY env.P 121 Pm Q):TbOk env (Kt Q):=TbOk.addF MG (by kernel_rfl) hQ
def S121_4:LoopS:=⟨0,uF::uF::ufP 0 0::ufP 1 0::ufS (.lit (.bool false))::utI::uAA 54 [],[(.dat false 61),(.dat false 61)],[⟨0,0,uT::uT::uT::uT::utS (.lit (.bool false))::uAB 55 [],[(.dat false 61),(.dat false 61)]⟩,⟨1,0,uT::uT::uT::uT::utS (.lit (.bool false))::uAB 55 [],[(.dat false 61),(.dat false 61)]⟩]⟩
def si (Q:uAC) (p s:List D):Option (Sum (List D) (List D)):=aR env (Kt Q) 60 12 121 (aW 121 4) S121_4 p s
theorem Po (Q:uAC) (pd0:D) (pd1:D) (sn0:Int):si Q [pd0,pd1] [(D.int sn0)] =
 let x0:=aa pd1 4
 let x1:=Q [ay x0 sn0,ay (aa pd0 4) sn0]
 bif ae .lss sn0 (ai x0)then gd (aI x0 sn0)<|gd (aI (aa pd0 4) sn0)<|gd (uZZ x1)<|bif ca (aJ (ar x1 0))then ge pd0<|ge pd1<|some (Sum.inr [.int 1])else ge pd0<|ge pd1<|some (Sum.inl [.int (aQ .add .i64 sn0 1)])else ge pd0<|ge pd1<|some (Sum.inr [.int 0]):=by kernel_rfl
def Ku:=by have h:= @Po;simp only[aN,gd,aq,aj,aE,aK,az,aM,cond_true]at h;exact h
def Dk (Q:uAC):List D->uAC:=veil fun p s=>loW (si Q p) s
theorem Ah (Q:uAC):Dk Q=fun p s=>loW (si Q p) s:=ak _
def xd (Q:uAC):Tb:=Tb.addL (Kt Q) 121 4 S121_4.n0 (bu S121_4 (Dk Q))
theorem Hs (Q:uAC) (hQ:aY env.P 121 Pm Q):TbOk env (xd Q):=aF (Pn Q hQ) 121 4 (by kernel_rfl) _ (Ah Q)
def Vq (Q:uAC):uAC:=aS env (xd Q) 60 12 121 Pm
theorem Fb121_e (Q:uAC) (sd0:D) (sd1:D):Vq Q [sd0,sd1] =
 let x0:Option (List D):=some [.bool false]
 let x1:=Dk Q [sd1,sd0] [.int 0]
 bif aA (aA (aA (aA (ae .neq (ah (aa sd0 0)) (ah (aa sd1 0))) true (ae .neq (ah (aa sd0 1)) (ah (aa sd1 1)))) true (ae .neq (ah (aa sd0 2)) (ah (aa sd1 2)))) true (ae .neq (ah (aa sd0 3)) (ah (aa sd1 3)))) true (ae .neq (ai (aa sd0 4)) (ai (aa sd1 4)))then x0 else gd (uZZ x1)<|bif ae .eql (ah (ar x1 0)) 0 then some [.bool true]else x0:=by kernel_rfl
def Vr:=by have h:= @Fb121_e;simp only[aN,gd,aq,aj,aE,aK,az,aM,cond_true]at h;exact h
def Ht:Nat->uAC:=levels Vq
theorem F121_s (n:Nat):Ht (n+1)=Vq (Ht n):=rfl
def Pp:uAC:=veil fun ds=>Ht (bE ds) ds
theorem MH:Pp=fun ds=>Ht (bE ds) ds:=ak _
theorem Vs:aY env.P 121 Pm Pp:=nK (fun q=>xd q) (fun q hq=>Hs q hq) MH
def Vt:Tb:=Tb.addF tb15 121 Pm Pp
theorem Vu:TbOk env Vt:=TbOk.addF MG (by kernel_rfl) Vs
def S88_4:LoopS:=⟨0,uF::uF::ufP 0 0::ufP 1 0::ufS (.lit (.bool false))::utI::uAA 96 [],[(.dat false 57),(.dat false 57)],[⟨0,0,uT::uT::utP 0 0::utP 1 0::utS (.lit (.bool false))::uAB 97 [],[(.dat false 57),(.dat false 57)]⟩,⟨1,0,uT::uT::uT::uT::utS (.lit (.bool false))::uAB 97 [],[(.dat false 57),(.dat false 57)]⟩]⟩
def Dl (p s:List D):Option (Sum (List D) (List D)):=aR env Vt 60 12 88 (aW 88 4) S88_4 p s
theorem Vv (pd0:D) (pd1:D) (sn0:Int):Dl [pd0,pd1] [(D.int sn0)] =
 let x0:=aa pd1 6
 let x1:=Pp [ay x0 sn0,ay (aa pd0 6) sn0]
 bif ae .lss sn0 (ai x0)then gd (aI x0 sn0)<|gd (aI (aa pd0 6) sn0)<|gd (uZZ x1)<|bif ca (aJ (ar x1 0))then ge pd0<|ge pd1<|some (Sum.inr [.int 1])else ge pd0<|ge pd1<|some (Sum.inl [.int (aQ .add .i64 sn0 1)])else ge pd0<|ge pd1<|some (Sum.inr [.int 0]):=by kernel_rfl
def Pq:=by have h:= @Vv;simp only[aN,gd,aq,aj,aE,aK,az,aM,cond_true]at h;exact h
def MI:List D->uAC:=veil fun p s=>loW (Dl p) s
theorem Hu:MI=fun p s=>loW (Dl p) s:=ak _
def Dm:Tb:=Tb.addL Vt 88 4 S88_4.n0 (bu S88_4 (MI))
theorem Kv:TbOk env (Dm):=aF Vu 88 4 (by kernel_rfl) _ (Hu)
def S88_9:LoopS:=⟨0,uF::uF::ufP 0 0::ufP 1 0::ufS (.lit (.bool false))::uF::utI::uAA 95 [],[(.dat false 57),(.dat false 57)],[⟨0,2,uT::uT::uT::uT::utS (.lit (.bool false))::uAB 97 [],[(.dat false 57),(.dat false 57)]⟩,⟨1,0,uT::uT::uT::uT::utS (.lit (.bool false))::uAB 97 [],[(.dat false 57),(.dat false 57)]⟩]⟩
def Dn (p s:List D):Option (Sum (List D) (List D)):=aR env Dm 60 12 88 (aW 88 9) S88_9 p s
theorem Vw (pd0:D) (pd1:D) (sn0:Int):Dn [pd0,pd1] [(D.int sn0)] =
 let x0:=aa pd1 7
 bif ae .lss sn0 (ai x0)then gd (aI x0 sn0)<|gd (aI (aa pd0 7) sn0)<|bif ae .neq (ah (ay x0 sn0)) (ah (ay (aa pd0 7) sn0))then ge pd0<|ge pd1<|some (Sum.inr [.int 1])else ge pd0<|ge pd1<|some (Sum.inl [.int (aQ .add .i64 sn0 1)])else ge pd0<|ge pd1<|some (Sum.inr [.int 0]):=by kernel_rfl
def Pr:=by have h:= @Vw;simp only[aN,gd,aq,aj,aE,aK,az,aM,cond_true]at h;exact h
def MJ:List D->uAC:=veil fun p s=>loW (Dn p) s
theorem Hv:MJ=fun p s=>loW (Dn p) s:=ak _
def Do:Tb:=Tb.addL Dm 88 9 S88_9.n0 (bu S88_9 (MJ))
theorem Kw:TbOk env (Do):=aF Kv 88 9 (by kernel_rfl) _ (Hv)
def S88:FunS:=⟨[utD 57,utD 57],[],[utB],[]⟩
def F88:uAC:=aS env Do 60 12 88 S88
theorem F88_e (sd0:D) (sd1:D):F88 [sd0,sd1] =
 let x0:Option (List D):=some [.bool false]
 let x1:=MI [sd1,sd0] [.int 0]
 let x2:=MJ [sd1,sd0] [.int 0]
 bif aA (aA (aA (aA (aA (aA (aA (ae .neq (ah (aa sd0 0)) (ah (aa sd1 0))) true (ae .neq (ah (aa sd0 1)) (ah (aa sd1 1)))) true (ae .neq (ah (aa sd0 2)) (ah (aa sd1 2)))) true (ae .neq (ah (aa sd0 3)) (ah (aa sd1 3)))) true (ae .neq (ah (aa sd0 4)) (ah (aa sd1 4)))) true (ae .neq (ah (aa sd0 5)) (ah (aa sd1 5)))) true (ae .neq (ai (aa sd0 6)) (ai (aa sd1 6)))) true (ae .neq (ai (aa sd0 7)) (ai (aa sd1 7)))then x0 else gd (uZZ x1)<|bif ae .eql (ah (ar x1 0)) 0 then gd (uZZ x2)<|bif ae .eql (ah (ar x2 0)) 0 then some [.bool true]else x0 else x0:=by kernel_rfl
def F88_eq:=by have h:= @F88_e;simp only[aN,gd,aq,aj,aE,aK,az,aM,cond_true]at h;exact h
def q88:uAC:=veil (F88)
theorem Vx:q88=F88:=ak _
def tb88:Tb:=Tb.addF Do 88 S88 (q88)
theorem ok_tb88:TbOk env (tb88):=aG Kw 88 (by kernel_rfl) _ (Vx)
def S47_4:LoopS:=⟨0,uF::uF::ufP 0 0::ufP 1 0::ufS (.lit (.bool false))::utI::uAA 33 [],[(.dat false 54),(.dat false 54)],[⟨0,0,uT::uT::uT::uT::utS (.lit (.bool false))::uAB 34 [],[(.dat false 54),(.dat false 54)]⟩,⟨1,0,uT::uT::uT::uT::utS (.lit (.bool false))::uAB 34 [],[(.dat false 54),(.dat false 54)]⟩]⟩
def Dp (p s:List D):Option (Sum (List D) (List D)):=aR env tb88 60 12 47 (aW 47 4) S47_4 p s
theorem Vy (pd0:D) (pd1:D) (sn0:Int):Dp [pd0,pd1] [(D.int sn0)] =
 let x0:=aa pd1 1
 let x1:=q88 [ay x0 sn0,ay (aa pd0 1) sn0]
 bif ae .lss sn0 (ai x0)then gd (aI x0 sn0)<|gd (aI (aa pd0 1) sn0)<|gd (uZZ x1)<|bif ca (aJ (ar x1 0))then ge pd0<|ge pd1<|some (Sum.inr [.int 1])else ge pd0<|ge pd1<|some (Sum.inl [.int (aQ .add .i64 sn0 1)])else ge pd0<|ge pd1<|some (Sum.inr [.int 0]):=by kernel_rfl
def Ps:=by have h:= @Vy;simp only[aN,gd,aq,aj,aE,aK,az,aM,cond_true]at h;exact h
def Hw:List D->uAC:=veil fun p s=>loW (Dp p) s
theorem Hx:Hw=fun p s=>loW (Dp p) s:=ak _
def Dq:Tb:=Tb.addL tb88 47 4 S47_4.n0 (bu S47_4 (Hw))
theorem Kx:TbOk env (Dq):=aF ok_tb88 47 4 (by kernel_rfl) _ (Hx)
def S47:FunS:=⟨[utD 54,utD 54],[],[utB],[]⟩
def F47:uAC:=aS env Dq 60 12 47 S47
theorem F47_eq (sd0:D) (sd1:D):F47 [sd0,sd1] =
 bif (aA (ae BinOp.neq (ah (aa sd0 0)) (ah (aa sd1 0))) Bool.true (ae BinOp.neq (ai (aa sd0 1)) (ai (aa sd1 1))))then
 some [(D.bool Bool.false)]
 else
 bif (uZZ (Hw [sd1,sd0] [(D.int 0)]))then
 bif (ae BinOp.eql (ah (ar (Hw [sd1,sd0] [(D.int 0)]) 0)) 0)then
 some [(D.bool Bool.true)]
 else
 some [(D.bool Bool.false)]
 else
 none:=by kernel_rfl
def q47:uAC:=veil (F47)
theorem Vz:q47=F47:=ak _
def tb47:Tb:=Tb.addF Dq 47 S47 (q47)
theorem ok_tb47:TbOk env (tb47):=aG Kx 47 (by kernel_rfl) _ (Vz)
def S16_4:LoopS:=⟨0,uF::uF::ufP 0 0::ufP 1 0::ufS (.lit (.bool false))::utI::uAA 33 [],[(.dat false 25),(.dat false 25)],[⟨0,0,uT::uT::uT::uT::utS (.lit (.bool false))::uAB 34 [],[(.dat false 25),(.dat false 25)]⟩,⟨1,0,uT::uT::uT::uT::utS (.lit (.bool false))::uAB 34 [],[(.dat false 25),(.dat false 25)]⟩]⟩
def Dr (p s:List D):Option (Sum (List D) (List D)):=aR env tb47 60 12 16 (aW 16 4) S16_4 p s
theorem VA (pd0:D) (pd1:D) (sn0:Int):Dr [pd0,pd1] [(D.int sn0)] =
 let x0:=aa pd1 1
 let x1:=q47 [ay x0 sn0,ay (aa pd0 1) sn0]
 bif ae .lss sn0 (ai x0)then gd (aI x0 sn0)<|gd (aI (aa pd0 1) sn0)<|gd (uZZ x1)<|bif ca (aJ (ar x1 0))then ge pd0<|ge pd1<|some (Sum.inr [.int 1])else ge pd0<|ge pd1<|some (Sum.inl [.int (aQ .add .i64 sn0 1)])else ge pd0<|ge pd1<|some (Sum.inr [.int 0]):=by kernel_rfl
def Pt:=by have h:= @VA;simp only[aN,gd,aq,aj,aE,aK,az,aM,cond_true]at h;exact h
def Hy:List D->uAC:=veil fun p s=>loW (Dr p) s
theorem Hz:Hy=fun p s=>loW (Dr p) s:=ak _
def Dt:Tb:=Tb.addL tb47 16 4 S16_4.n0 (bu S16_4 (Hy))
theorem Ky:TbOk env (Dt):=aF ok_tb47 16 4 (by kernel_rfl) _ (Hz)
def S16:FunS:=⟨[utD 25,utD 25],[],[utB],[]⟩
def F16:uAC:=aS env Dt 60 12 16 S16
theorem F16_eq (sd0:D) (sd1:D):F16 [sd0,sd1] =
 bif (aA (ae BinOp.neq (ah (aa sd0 0)) (ah (aa sd1 0))) Bool.true (ae BinOp.neq (ai (aa sd0 1)) (ai (aa sd1 1))))then
 some [(D.bool Bool.false)]
 else
 bif (uZZ (Hy [sd1,sd0] [(D.int 0)]))then
 bif (ae BinOp.eql (ah (ar (Hy [sd1,sd0] [(D.int 0)]) 0)) 0)then
 some [(D.bool Bool.true)]
 else
 some [(D.bool Bool.false)]
 else
 none:=by kernel_rfl
def q16:uAC:=veil (F16)
theorem VB:q16=F16:=ak _
def tb16:Tb:=Tb.addF Dt 16 S16 (q16)
theorem ok_tb16:TbOk env (tb16):=aG Ky 16 (by kernel_rfl) _ (VB)
end
end Go.Proofs.YtfdedgmlafelaaaGreatDoor
open Go Go.AM
namespace Go.Proofs.YtfdedgmlafelaaaGreatDoor
noncomputable def tb9p:Tb:=Tb.addF tb16 9 S9 q9
theorem ok_tb9p:TbOk env tb9p:=TbOk.addF ok_tb16 (by kernel_rfl) sound9
def S4:FunS:=⟨[utD 25,utD 30],[],[utB],[]⟩
noncomputable def F4:uAC:=aS env tb9p 60 12 4 S4
theorem F4_e (sd0:D) (sd1:D):F4 [sd0,sd1] =
 let x0:=q8 [sd0]
 let x1:=q9 []
 let x2:=aJ (ar x1 0)
 let x3:=q14 [sd0,sd1]
 let x4:=q13 [sd1]
 let x5:=q15 [sd0,ar x4 0]
 let x6:=aA (ae .eql (ah (ar x3 1)) (ah (ar x5 1))) (ae .eql (ah (ar x3 2)) (ah (ar x5 2))) false
 let x7:=q16 [ar x3 0,ar x5 0]
 let x8:=aA x6 (aJ (ar x7 0)) false
 gd (uZZ x0)<|bif aA (aJ (ar x0 0)) true (ae .gtr (ai (aa sd1 1)) 500)then gd (uZZ x1)<|some [.bool x2]else gd (uZZ x3)<|gd (uZZ x4)<|gd (uZZ x5)<|gd (aA x6 (uZZ x7) true)<|gd (aA x8 (uZZ x1) true)<|some [.bool (aA x8 x2 false)]:=by kernel_rfl
def F4_eq:=by have h:= @F4_e;simp only[aN,gd,aq,aj,aE,aK,az,aM,cond_true]at h;exact h
noncomputable def q4:uAC:=veil (F4)
theorem q4_eq:q4=F4:=ak _
end Go.Proofs.YtfdedgmlafelaaaGreatDoor
