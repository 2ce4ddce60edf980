/-
  The abstract heap behind a call that lays blocks and turns none of the old.
-/
import Derived.Test.YtfdedgmlafelaaaGreatDoorAmS
import Derived.Test.YtfdedgmlafelaaaGreatDoorM5
import Derived.Test.YtfdedgmlafelaaaGreatDoorSp
import Derived.Test.YtfdedgmlafelaaaGreatDoorM2
import Derived.KernelRfl
import Derived.Test.YtfdedgmlafelaaaGreatDoorM1
set_option linter.unusedVariables false
set_option linter.unusedSimpArgs false
namespace Go.AM
section
variable {lo:Nat→Prop} {w0:World} {ρ:Nat→Option Nat} {E:Nat→Prop} {H:Hp} {w:World}
theorem Inv.grown {w':World} (inv:Inv lo w0 ρ E H w) (hold:∀b,b<w.heap.size→w'.heap[b]? = w.heap[b]?) (hsz:w.heap.size≤w'.heap.size) (hio:SameIO w w'):Inv lo w0 ρ E H w'∧Ext ρ E w ρ E w':=by
 have ext:Ext ρ E w ρ E w':=Ext.grow (fun _ _ h=>h) (fun _ h=>h) (fun i b hb=>(inv.bd i b hb).2) inv.ebd hold hsz
 exact⟨{len:=inv.len,dom:=inv.dom,blk:=fun i k b hk hb=>(inv.blk i k b hk hb).mono ext (hold b (inv.bd i b hb).2),inj:=inv.inj,notE:=inv.notE,
        bd:=fun i b hb=>⟨(inv.bd i b hb).1,Nat.lt_of_lt_of_le (inv.bd i b hb).2 hsz⟩,ebd:=fun b hb=>Nat.lt_of_lt_of_le (inv.ebd b hb) hsz,lole:=fun b hb=>Nat.lt_of_lt_of_le (inv.lole b hb) hsz,
        old:=fun b hb=>(hold b (inv.lole b hb)).trans (inv.old b hb),io:=inv.io.trans hio,gl:=gl_mono rfl ext inv.gl},ext⟩
theorem Inv.pushAt {w':World} (inv:Inv lo w0 ρ E H w) (hold:∀b,b<w.heap.size→w'.heap[b]? = w.heap[b]?) (hsz:w.heap.size≤w'.heap.size) (hio:SameIO w w') (g:Nat) (hg:w.heap.size≤g) (hg':g<w'.heap.size) (k:Blk)
 (hk:∀ρ',Ext ρ E w ρ' E w'→BlkRep ρ' E w' k g):
 Inv lo w0 (upd ρ H.n g) E (H.push k) w'∧Ext ρ E w (upd ρ H.n g) E w':=by
 have hmap:∀i b,ρ i=some b→upd ρ H.n g i=some b:=fun i b hb=>by
  have:=inv.dom i b hb
  simp only[upd];rw[if_neg (by omega)];exact hb
 have ext:Ext ρ E w (upd ρ H.n g) E w':=Ext.grow hmap (fun _ h=>h) (fun i b hb=>(inv.bd i b hb).2) inv.ebd hold hsz
 have hcase:∀i b,upd ρ H.n g i=some b→(i=H.n∧b=g)∨(i<H.n∧ρ i=some b):=fun i b hb=>by
  simp only[upd]at hb
  split at hb
  ·rename_i hi;exact .inl ⟨hi,by simpa using hb.symm⟩
  ·exact .inr ⟨inv.dom i b hb,hb⟩
 refine⟨{len:=Hp.push_len k inv.len,dom:= ?_,blk:= ?_,inj:= ?_,notE:= ?_,bd:= ?_,ebd:= ?_,lole:= ?_,old:= ?_,io:=inv.io.trans hio,gl:=gl_mono rfl ext inv.gl},ext⟩
 ·intro i b hb
  show i<H.n+1
  rcases hcase i b hb with⟨h,_⟩|⟨h,_⟩<;>omega
 ·intro i k' b hk' hb
  rcases hcase i b hb with⟨rfl,rfl⟩|⟨hi,hb'⟩
  ·rw[Hp.get_push_eq k]at hk'
   cases hk'
   exact hk _ ext
  ·rw[Hp.get_push_lt k hi]at hk'
   exact(inv.blk i k' b hk' hb').mono ext (hold b (inv.bd i b hb').2)
 ·intro i j k1 k2 b h1 h2 hb1 hb2
  rcases hcase i b hb1 with⟨rfl,rfl⟩|⟨hi,hb1'⟩<;>rcases hcase j _ hb2 with⟨rfl,e⟩|⟨hj,hb2'⟩
  ·rfl
  ·have:=(inv.bd j _ hb2').2;omega
  ·have:=(inv.bd i _ hb1').2;omega
  ·rw[Hp.get_push_lt k hi]at h1
   rw[Hp.get_push_lt k hj]at h2
   exact inv.inj i j k1 k2 b h1 h2 hb1' hb2'
 ·intro i k1 b h1 hb1 he
  rcases hcase i b hb1 with⟨rfl,rfl⟩|⟨hi,hb1'⟩
  ·have:=inv.ebd _ he;omega
  ·rw[Hp.get_push_lt k hi]at h1
   exact inv.notE i k1 b h1 hb1' he
 ·intro i b hb
  rcases hcase i b hb with⟨rfl,rfl⟩|⟨hi,hb'⟩
  ·exact⟨fun h=>by have:=inv.lole _ h;omega,hg'⟩
  ·have:=inv.bd i b hb';exact⟨this.1,by omega⟩
 ·intro b hb;have:=inv.ebd b hb;omega
 ·intro b hb;have:=inv.lole b hb;omega
 ·intro b hb;rw[hold b (inv.lole b hb)];exact inv.old b hb
end
end Go.AM
namespace Go.Proofs.YtfdedgmlafelaaaGreatDoor
noncomputable section
set_option maxRecDepth 100000
open Go Go.AM Go.RowKit Go.Proofs.YtfdedgmlafelaaaGreatDoor.Sr
theorem cells69 (x:D):cellsT rowDepth 69 x = [.ui .i64 (qint (qfld x 0)), .ui .i64 (qint (qfld x 1)), .ui .i64 (qint (qfld x 2)), .ui .i64 (qint (qfld x 3)), .ub (qbool (qfld x 4))]:=by kernel_rfl
theorem lay69:layOk PG rowDepth 69=true:=by kernel_rfl
theorem size69c:PG.cellsOf 69=5:=by kernel_rfl
theorem valA69 (x:D):valA 69 x = .dat 69 x:=by kernel_rfl
def slD (x:D):Sl:=⟨qint (qfld x 0),qint (qfld x 1),qint (qfld x 2),qint (qfld x 3),qbool (qfld x 4)⟩
def sDl (s:Sl):D:= .agg [.int s.a, .int s.b, .int s.c, .int s.d, .bool s.e]
theorem val_of {ρ:Nat→Option Nat} {E:Nat→Prop} {w:World} {x:D} {v:Value} (h:Rep ρ E w (.dat 69 x) v):v = .agg (encS (slD x)).toArray:=by
 simp only[Rep]at h
 obtain⟨xs,rfl,_,hr⟩:=h
 have:=cellsT_rep (ρ:=nowhere) rowDepth 69 x xs.toList lay69 hr
 rw[cells69]at this
 simp only[RepL,Rep]at this
 obtain⟨_,_,h1,rfl,_,_,rfl,rfl,_,_,rfl,rfl,_,_,rfl,rfl,_,_,rfl,rfl,rfl⟩:=this
 exact congrArg Value.agg (Array.toList_inj.1 h1)
theorem pgS:PG=Tryz.prog:=by unfold PG;rfl
theorem size3c:PG.cellsOf 3=1:=by kernel_rfl
theorem size4c:PG.cellsOf 4=1:=by kernel_rfl
theorem slot_rep {E:Nat→Prop} {w:World} (s:Sl):RepD PG E w 69 (sDl s) (encS s):=by
 have hc:=size69c
 have h3:=size3c
 have h4:=size4c
 rw[pgS]at hc h3 h4 ⊢
 refine RepD.struct Tryz.underlying69 (by rw[hc];rfl) fun j f hj=> ?_
 rcases j with _|_|_|_|_|j
 all_goals simp only[List.getElem?_cons_zero,List.getElem?_cons_succ,Option.some.injEq]at hj
 ·subst hj;rw[h3];exact .int Tryz.underlying3
 ·subst hj;rw[h3];exact .int Tryz.underlying3
 ·subst hj;rw[h3];exact .int Tryz.underlying3
 ·subst hj;rw[h3];exact .int Tryz.underlying3
 ·subst hj;rw[h4];exact .bool Tryz.underlying4
 ·simp at hj
def slots (d:D):List Sl:=d.toList.map fun x=>slD (x.fld 1)
def vI:Value→Int
 | .int _ n=>n
 |_=>0
def vB:Value→Bool
 | .bool b=>b
 |_=>false
def slV:Value→Sl
 | .agg cs=>⟨(cs[0]?).elim 0 vI,(cs[1]?).elim 0 vI,(cs[2]?).elim 0 vI,(cs[3]?).elim 0 vI,(cs[4]?).elim false vB⟩
 |_=>default
theorem slV_enc (s:Sl):slV (.agg (encS s).toArray)=s:=rfl
theorem ents_sl {ρ:Nat→Option Nat} {E:Nat→Prop} {w:World}:∀(l:List D) (es:List MapEntry),RepM ρ E w (l.map fun x=>(kvD 115 (x.fld 0),valA 69 (x.fld 1))) es→
 (∀e∈es,e.val = .agg (encS (slV e.val)).toArray)∧es.map (fun e=>slV e.val)=l.map fun x=>slD (x.fld 1)
 | [],es,h=>by simp only[List.map_nil,RepM]at h;subst h;exact⟨fun e he=>(by cases he),rfl⟩
 |x::l,es,h=>by
  simp only[List.map_cons,RepM]at h
  obtain⟨e,es',rfl,_,hv,hr⟩:=h
  rw[valA69]at hv
  have hv':=val_of hv
  obtain⟨i1,i2⟩:=ents_sl l es' hr
  refine⟨fun y hy=> ?_,?_⟩
  ·rcases List.mem_cons.1 hy with rfl|hy
   ·rw[hv',slV_enc]
   ·exact i1 y hy
  ·rw[List.map_cons,List.map_cons,i2,hv',slV_enc]
def S31:FunS:=⟨[⟨true, .ptr 0 0⟩],[.mp false 115 69, .cells [⟨false, .map 1⟩,⟨false, .bool⟩,⟨false, .int .i64⟩]],[⟨true, .osl 2 69⟩],[.lst true 69, .mp false 115 69, .cells [⟨false, .map 1⟩,⟨false, .bool⟩,⟨false, .int .i64⟩]]⟩
open Classical in
def F31 (ds:List D):Option (List D):=
 if(ds.headD .other).toList.length≤1000000∧(slots (ds.headD .other)).Pairwise (fun a b=>¬(a.a=b.a∧a.b=b.b))then some [.list ((sortS (slots (ds.headD .other))).map sDl)]else none
def q31:List D→Option (List D):=veil F31
theorem q31_eq:q31=F31:=veil_eq _
theorem sound31:SoundF env.P 31 S31 q31:=by
 have hN:=sort_nil
 intro p s r hp hq
 have hp3:p.length=3:=hp
 obtain⟨d,b,n,rfl⟩:∃d b n,p = [d,b,n]:=by
  match p,hp3 with
  | [d,b,n],_=>exact⟨d,b,n,rfl⟩
 rw[q31_eq]at hq
 unfold F31 at hq
 rw[List.cons_append,List.headD_cons]at hq
 split at hq
 case isFalse=>cases hq
 case isTrue hc=>
  obtain⟨hl,hd⟩:=hc
  cases hq
  have ha:argF S31 [d,b,n] s = [.ptr 0 0]:=rfl
  have hh:heapF S31 [d,b,n] s=⟨2,[some (.mp 115 69 d),some (.cells [.map 1, .ub ((bdL [d,b,n]).b 1), .ui .i64 ((bdL [d,b,n]).n 2)])],true⟩:=rfl
  have hr:resF S31 [d,b,n] (bdL [.list ((sortS (slots d)).map sDl)]) = .osl 2 69 (qlen (.list ((sortS (slots d)).map sDl))):=rfl
  have hh':heapR S31 [d,b,n] (bdL [.list ((sortS (slots d)).map sDl)])=(⟨2,[some (.mp 115 69 d),some (.cells [.map 1, .ub ((bdL [d,b,n]).b 1), .ui .i64 ((bdL [d,b,n]).n 2)])],true⟩:Hp).push (.lst 69 (.list ((sortS (slots d)).map sDl))):=rfl
  rw[ha,hh,hr,hh']
  intro lo w0 ρ E w vs inv ra
  obtain⟨vl⟩:=vs
  obtain⟨v,vl',rfl,rv,hn⟩:∃v vs',vl=v::vs'∧Rep ρ E w (AV.ptr 0 0) v∧vs' = []:=by simpa only[RepL]using ra
  subst hn
  simp only[Rep]at rv
  obtain⟨bw,hbw,rfl⟩:=rv
  obtain⟨c,T,hcw,hlen,hrl⟩:=inv.blk 0 (.cells [.map 1, .ub ((bdL [d,b,n]).b 1), .ui .i64 ((bdL [d,b,n]).n 2)]) bw rfl hbw
  simp only[RepL,Rep]at hrl
  obtain⟨u0,r0,h1,⟨bm,hbm,rfl⟩,_⟩:=hrl
  have c0:w.cell? ⟨bw,0,none⟩=some (.map (some bm)):=by
   have:c.toList[0]? = some (.map (some bm)):=by
    have h2:=congrArg (fun l=>l[0]?) h1
    simpa using h2
   simp only[World.cell?,hcw]
   simpa using this
  obtain⟨es,clk,hb,hrm,hborn⟩:=inv.blk 1 (.mp 115 69 d) bm rfl hbm
  obtain⟨v1,v2⟩:=ents_sl d.toList es.toList hrm
  have hes:es.size≤1000000:=by
   have:=congrArg List.length v2
   simp only[List.length_map,Array.length_toList]at this
   omega
  refine(sorted31 hN bw bm clk es (fun e=>slV e.val) w c0 hb hborn.1 hborn.2 v1 hes).mono ?_
  rintro e w' ⟨v,L,rfl,p1,p2,p3,p4⟩
  rw[v2]at p1
  have hL:L=sortS (slots d):=sortS_eq p1 p2 hd
  rw[← hL]
  have hold:∀k,k<w.heap.size→w'.heap[k]? = w.heap[k]? :=fun k hk=>p4.block k hk
  have hio:SameIO w w':=⟨p4.os,p4.tape,p4.output⟩
  have hq:qlen (.list (L.map sDl))=(L.length:Int):=by rw[qlen_eq];simp[D.len,D.toList]
  rcases p3.2 with⟨rfl,h0⟩|⟨g,cap,cur,rfl,hg,hgc,k1,k2,k3,k4⟩
  ·obtain⟨inv',ext⟩:=inv.grown hold p4.size hio
   refine⟨_,ρ,E,rfl,inv'.ghost _,⟨ext,fun _ h=> .inl h⟩,?_⟩
   simp only[Rep,hq,h0]
   exact⟨by omega,none,0,rfl,by omega, .inl ⟨rfl,rfl⟩⟩
  ·have hgl:g<w'.heap.size:=(Array.getElem?_eq_some_iff.1 hgc).1
   obtain⟨inv',ext⟩:=inv.pushAt hold p4.size hio g (by omega) hgl (.lst 69 (.list (L.map sDl))) fun ρ' _=>by
    refine⟨cur,69,hgc,lay69,?_,fun i x hx=> ?_⟩
    ·rw[size69c];simp only[D.toList,List.length_map];rw[k3];exact Nat.mul_le_mul_right 5 k1
    ·simp only[D.toList,List.getElem?_map]at hx
     obtain⟨y,hy,rfl⟩:=Option.map_eq_some_iff.1 hx
     rw[size69c,cut_drop k4 hy]
     exact slot_rep y
   refine⟨_,upd ρ 2 g,E,rfl,inv',⟨ext,fun _ h=> .inl h⟩,?_⟩
   simp only[Rep,hq]
   refine⟨by omega,some ⟨g,0,none⟩,cap,by simp,by simpa using k1, .inr ⟨g,by simp[upd],rfl,cur,69,(0,0),hgc,by rw[size69c,k3];exact Nat.le_refl _⟩⟩
end
end Go.Proofs.YtfdedgmlafelaaaGreatDoor
open Go Go.AM
namespace Go.Proofs.YtfdedgmlafelaaaGreatDoor
noncomputable section
set_option maxRecDepth 100000
set_option linter.unusedSimpArgs false
set_option linter.unusedVariables false
set_option linter.defProp false
def tbz18:Tb:=Tb.addF tb20 18 S18 q18
theorem ok_tbz18:TbOk env tbz18:=TbOk.addF ok_tb20 (by kernel_rfl) (by rw[q18_eq];exact liftX_sound envOk ok_tbl18_8 60 12)
def tb31:Tb:=Tb.addF tbz18 31 S31 q31
theorem ok_tb31:TbOk env tb31:=TbOk.addF ok_tbz18 (by kernel_rfl) sound31
def S63:FunS:=⟨[⟨true,(.ptr 0 0)⟩,⟨true,(.int .i64)⟩,⟨true,(.int .i64)⟩,⟨true, .bool⟩],[(.mp true 115 69),(.cells [⟨false,(.map 1)⟩,⟨false, .bool⟩,⟨true,(.int .i64)⟩])],[⟨true,(.tup [])⟩],[(.mp true 115 69),(.cells [⟨true,(.map 1)⟩,⟨false, .bool⟩,⟨true,(.int .i64)⟩])]⟩
def F63:List D→Option (List D):=liftX env tb31 60 12 63 S63
theorem F63_e (pb0:Bool) (sn0:Int) (sn1:Int) (sb2:Bool) (sd3:D) (sn4:Int):F63 [(D.bool pb0),(D.int sn0),(D.int sn1),(D.bool sb2),sd3,(D.int sn4)] =
 let x0:=D.bool pb0
 let x1:=D.int sn0
 let x2:=D.int sn1
 let x3:=D.agg [x1,x2]
 let x4:=D.int 0
 let x5:=qmget 115 (.agg [x4,x4,x4,x4,.bool false]) sd3 x3
 let x6:=qint (qfld x5 2)
 let x7:=qint (qfld x5 3)
 let x8:=D.bool (qbool (qfld x5 4))
 let x9:=D.int (qmm .gtr sn4 (qun .neg .i64 sn0))
 bif qcmp .geq sn0 0 then ge x0<|some [sd3,.int sn4]else bif sb2 then ge x0<|some [qmput 115 sd3 x3 (.agg [x1,x2,.int x6,.int (qbin .add .i64 x7 1),x8]),x9]else ge x0<|some [qmput 115 sd3 x3 (.agg [x1,x2,.int (qbin .add .i64 x6 1),.int x7,x8]),x9]:=by kernel_rfl
def F63_eq:=by have h:= @F63_e;simp only[ge_id,gd,qeqD_self,qeqI_self,qeq_len,qeq_l,cond_true]at h;exact h
def q63:List D→Option (List D):=veil (F63)
theorem q63_eq:q63=F63:=veil_eq _
def tb63:Tb:=Tb.addF tb31 63 S63 (q63)
theorem ok_tb63:TbOk env (tb63):=addFunF ok_tb31 63 (by kernel_rfl) _ (q63_eq)
end
end Go.Proofs.YtfdedgmlafelaaaGreatDoor
open Go Go.AM
namespace Go.Proofs.YtfdedgmlafelaaaGreatDoor
noncomputable section
set_option maxRecDepth 100000
set_option linter.unusedSimpArgs false
set_option linter.unusedVariables false
set_option linter.defProp false
def S65:FunS:=⟨[⟨true,(.ptr 0 0)⟩,⟨true,(.dat 61)⟩,⟨true,(.int .i64)⟩],[(.mp true 115 69),(.cells [⟨false,(.map 1)⟩,⟨true, .bool⟩,⟨true,(.int .i64)⟩])],[⟨true,(.tup [])⟩],[(.mp true 115 69),(.cells [⟨true,(.map 1)⟩,⟨true, .bool⟩,⟨true,(.int .i64)⟩])]⟩
def tbR65 (Q:List D→Option (List D)):Tb:=Tb.addF tb63 65 S65 Q
theorem ok_tbR65 (Q:List D→Option (List D)) (hQ:SoundF env.P 65 S65 Q):TbOk env (tbR65 Q):=TbOk.addF ok_tb63 (by kernel_rfl) hQ
def S65_8:LoopS:=⟨2,[⟨false,(.ptr 0 0)⟩,uF,⟨false,(.int .i64)⟩,uF,uF,uF,uF,uF,uF,uF,uF,uF,uF,uF,uF,uF,uF,uF,uF,uF,uF,uF,uF,uF,uF,uF,uF,uF,uF,uF,uF,uF,uF,uF,uF,uF,⟨false,(.rows 61)⟩,⟨false,(.int .i64)⟩,⟨true,(.int .i64)⟩,uF,uF,uF,uF,uF,uF,uF,uF],[(.mp true 115 69),(.cells [⟨false,(.map 1)⟩,⟨true, .bool⟩,⟨true,(.int .i64)⟩])],[⟨0,0,[uT,uT,⟨false,(.int .i64)⟩,uT,uT,uT,uT,uT,uT,uT,uT,uT,uT,uT,uT,uT,uT,uT,uT,uT,uT,uT,uT,uT,uT,uT,uT,uT,uT,uT,uT,uT,uT,uT,uT,uT,⟨false,(.rows 61)⟩,⟨false,(.int .i64)⟩,uT,uT,uT,uT,uT,uT,uT,uT,uT],[(.mp true 115 69),(.cells [⟨true,(.map 1)⟩,⟨true, .bool⟩,⟨true,(.int .i64)⟩])]⟩]⟩
def st65_8 (Q:List D→Option (List D)) (p s:List D):Option (Sum (List D) (List D)):=stepQX env (tbR65 Q) 60 12 65 (loopC 65 8) S65_8 p s
theorem st65_8_e (Q:List D→Option (List D)) (pn0:Int) (pd1:D) (pn2:Int) (sn0:Int) (sd1:D) (sb2:Bool) (sn3:Int):st65_8 Q [(D.int pn0),pd1,(D.int pn2)] [(D.int sn0),sd1,(D.bool sb2),(D.int sn3)] =
 let x0:=D.int pn0
 let x1:=Q [qget pd1 sn0,x0,sd1,.bool sb2,.int sn3]
 bif qcmp .lss sn0 pn2 then gd (qinb pd1 sn0)<|gd (qsome x1)<|ge x0<|ge pd1<|ge (.int pn2)<|some (Sum.inl [.int (qbin .add .i64 sn0 1),qnth x1 0,.bool (qbool (qnth x1 1)),.int (qint (qnth x1 2))])else ge x0<|ge pd1<|ge (.int pn2)<|some (Sum.inr [.int 0,sd1,.bool sb2,.int sn3]):=by kernel_rfl
def st65_8_eq:=by have h:= @st65_8_e;simp only[ge_id,gd,qeqD_self,qeqI_self,qeq_len,qeq_l,cond_true]at h;exact h
def l65_8 (Q:List D→Option (List D)):List D→List D→Option (List D):=veil fun p s=>loW (st65_8 Q p) s
theorem l65_8_eq (Q:List D→Option (List D)):l65_8 Q=fun p s=>loW (st65_8 Q p) s:=veil_eq _
def tbl65_8 (Q:List D→Option (List D)):Tb:=Tb.addL (tbR65 Q) 65 8 S65_8.n0 (mkLp S65_8 (l65_8 Q))
theorem ok_tbl65_8 (Q:List D→Option (List D)) (hQ:SoundF env.P 65 S65 Q):TbOk env (tbl65_8 Q):=addLoopQ (ok_tbR65 Q hQ) 65 8 (by kernel_rfl) _ (l65_8_eq Q)
def Fb65 (Q:List D→Option (List D)):List D→Option (List D):=liftX env (tbl65_8 Q) 60 12 65 S65
theorem Fb65_e (Q:List D→Option (List D)) (sd0:D) (sn1:Int) (sd2:D) (sb3:Bool) (sn4:Int):Fb65 Q [sd0,(D.int sn1),sd2,(D.bool sb3),(D.int sn4)] =
 let x0:=q105 [sd0]
 let x1:=qcmp .eql (qint (qfld sd0 0)) 18
 let x2:=qfld sd0 4
 let x3:=q62 [qget x2 0]
 let x4:=qbool (qnth x3 1)
 let x5:=q64 [.int (qbin .add .i64 sn1 (qint (qnth x3 0)))]
 let x6:=D.bool true
 let x7:=D.int (qint (qnth x5 0))
 let x8:=D.int (qint (qfld sd0 3))
 let x9:=D.bool false
 let x10:=D.int sn4
 let x11:=q63 [x6,x7,x8,x9,sd2,x10]
 let x12:List D:=[.int sn1,x2,.int (qlen x2)]
 let x13:=l65_8 Q x12 [.int 0,sd2,x6,x10]
 let x14:Option (List D):=gd (qsome x13)<|some [qnth x13 1,.bool (qbool (qnth x13 2)),.int (qint (qnth x13 3))]
 let x15:=D.bool sb3
 let x16:=q63 [x15,x7,x8,x9,sd2,x10]
 let x17:=l65_8 Q x12 [.int 0,sd2,x15,x10]
 let x18:Option (List D):=gd (qsome x17)<|some [qnth x17 1,.bool (qbool (qnth x17 2)),.int (qint (qnth x17 3))]
 gd (qsome x0)<|bif qbool (qnth x0 0)then bif x1 then gd (qinb x2 0)<|gd (qsome x3)<|bif x4 then gd (qsome x5)<|gd (qsome x11)<|some [qnth x11 0,x6,.int (qint (qnth x11 1))]else x14 else x14 else bif x1 then gd (qinb x2 0)<|gd (qsome x3)<|bif x4 then gd (qsome x5)<|gd (qsome x16)<|some [qnth x16 0,x15,.int (qint (qnth x16 1))]else x18 else x18:=by kernel_rfl
def Fb65_eq:=by have h:= @Fb65_e;simp only[ge_id,gd,qeqD_self,qeqI_self,qeq_len,qeq_l,cond_true]at h;exact h
def F65:Nat→List D→Option (List D):=levels Fb65
theorem F65_s (n:Nat):F65 (n+1)=Fb65 (F65 n):=rfl
def q65:List D→Option (List D):=veil fun ds=>F65 (fuelL ds) ds
theorem q65_eq:q65=fun ds=>F65 (fuelL ds) ds:=veil_eq _
theorem sound65:SoundF env.P 65 S65 q65:=recF (fun q=>tbl65_8 q) (fun q hq=>ok_tbl65_8 q hq) q65_eq
def tb65:Tb:=Tb.addF tb63 65 S65 q65
theorem ok_tb65:TbOk env tb65:=TbOk.addF ok_tb63 (by kernel_rfl) sound65
def S29_10:LoopS:=⟨2,[⟨false,(.ptr 0 0)⟩,uF,⟨false,(.int .i64)⟩,uF,uF,uF,uF,uF,uF,uF,uF,uF,uF,uF,uF,uF,uF,uF,uF,uF,uF,uF,uF,uF,uF,uF,uF,uF,uF,uF,uF,uF,uF,uF,uF,uF,uF,uF,uF,uF,uF,uF,uF,uF,uF,uF,uF,uF,uF,uF,uF,uF,uF,uF,⟨false,(.rows 61)⟩,⟨false,(.int .i64)⟩,⟨true,(.int .i64)⟩,uF,uF,uF,uF,uF,uF,uF,uF],[(.mp true 115 69),(.cells [⟨false,(.map 1)⟩,⟨true, .bool⟩,⟨true,(.int .i64)⟩])],[⟨0,0,[uT,uT,⟨false,(.int .i64)⟩,uT,uT,uT,uT,uT,uT,uT,uT,uT,uT,uT,uT,uT,uT,uT,uT,uT,uT,uT,uT,uT,uT,uT,uT,uT,uT,uT,uT,uT,uT,uT,uT,uT,uT,uT,uT,uT,uT,uT,uT,uT,uT,uT,uT,uT,uT,uT,uT,uT,uT,uT,⟨false,(.rows 61)⟩,⟨false,(.int .i64)⟩,uT,uT,uT,uT,uT,uT,uT,uT,uT],[(.mp true 115 69),(.cells [⟨true,(.map 1)⟩,⟨true, .bool⟩,⟨true,(.int .i64)⟩])]⟩]⟩
def st29_10 (p s:List D):Option (Sum (List D) (List D)):=stepQX env tb65 60 12 29 (loopC 29 10) S29_10 p s
theorem st29_10_e (pn0:Int) (pd1:D) (pn2:Int) (sn0:Int) (sd1:D) (sb2:Bool) (sn3:Int):st29_10 [(D.int pn0),pd1,(D.int pn2)] [(D.int sn0),sd1,(D.bool sb2),(D.int sn3)] =
 let x0:=D.int pn0
 let x1:=q65 [qget pd1 sn0,x0,sd1,.bool sb2,.int sn3]
 bif qcmp .lss sn0 pn2 then gd (qinb pd1 sn0)<|gd (qsome x1)<|ge x0<|ge pd1<|ge (.int pn2)<|some (Sum.inl [.int (qbin .add .i64 sn0 1),qnth x1 0,.bool (qbool (qnth x1 1)),.int (qint (qnth x1 2))])else ge x0<|ge pd1<|ge (.int pn2)<|some (Sum.inr [.int 0,sd1,.bool sb2,.int sn3]):=by kernel_rfl
def st29_10_eq:=by have h:= @st29_10_e;simp only[ge_id,gd,qeqD_self,qeqI_self,qeq_len,qeq_l,cond_true]at h;exact h
def l29_10:List D→List D→Option (List D):=veil fun p s=>loW (st29_10 p) s
theorem l29_10_eq:l29_10=fun p s=>loW (st29_10 p) s:=veil_eq _
def tbl29_10:Tb:=Tb.addL tb65 29 10 S29_10.n0 (mkLp S29_10 (l29_10))
theorem ok_tbl29_10:TbOk env (tbl29_10):=addLoopQ ok_tb65 29 10 (by kernel_rfl) _ (l29_10_eq)
def S29:FunS:=⟨[⟨true,(.ptr 0 0)⟩,⟨true,(.dat 57)⟩,⟨true,(.int .i64)⟩],[(.mp true 115 69),(.cells [⟨false,(.map 1)⟩,⟨true, .bool⟩,⟨true,(.int .i64)⟩])],[⟨true,(.tup [])⟩],[(.mp true 115 69),(.cells [⟨true,(.map 1)⟩,⟨true, .bool⟩,⟨true,(.int .i64)⟩])]⟩
def F29:List D→Option (List D):=liftX env tbl29_10 60 12 29 S29
theorem F29_e (sd0:D) (sn1:Int) (sd2:D) (sb3:Bool) (sn4:Int):F29 [sd0,(D.int sn1),sd2,(D.bool sb3),(D.int sn4)] =
 let x0:=qint (qfld sd0 0)
 let x1:=D.bool sb3
 let x2:=D.int (qmm .gtr sn4 (qun .neg .i64 sn1))
 let x3:=qfld sd0 6
 let x4:=q62 [qget x3 0]
 let x5:=q64 [.int (qbin .add .i64 sn1 (qint (qnth x4 0)))]
 let x6:=q63 [x1,.int (qint (qnth x5 0)),.int (qint (qfld sd0 2)),.bool true,sd2,x2]
 let x7:=qlen x3
 let x8:=qsub x3 1 x7
 let x9:=l29_10 [.int sn1,x8,.int (qlen x8)] [.int 0,qnth x6 0,x1,.int (qint (qnth x6 1))]
 let x10:=l29_10 [.int sn1,x3,.int x7] [.int 0,sd2,x1,x2]
 let x11:Option (List D):=gd (qsome x10)<|some [qnth x10 1,.bool (qbool (qnth x10 2)),.int (qint (qnth x10 3))]
 bif qiteB (qcmp .eql x0 1) (qcmp .eql (qint (qfld sd0 1)) 7) false then some [sd2,x1,x2]else bif qcmp .eql x0 2 then gd (qinb x3 0)<|gd (qsome x4)<|bif qbool (qnth x4 1)then gd (qsome x5)<|gd (qsome x6)<|gd (qcmp .leq 0 1)<|gd (qcmp .leq 1 x7)<|gd (qcmp .leq x7 x7)<|gd (qsome x9)<|some [qnth x9 1,.bool (qbool (qnth x9 2)),.int (qint (qnth x9 3))]else x11 else x11:=by kernel_rfl
def F29_eq:=by have h:= @F29_e;simp only[ge_id,gd,qeqD_self,qeqI_self,qeq_len,qeq_l,cond_true]at h;exact h
def q29:List D→Option (List D):=veil (F29)
theorem q29_eq:q29=F29:=veil_eq _
def tb29:Tb:=Tb.addF tbl29_10 29 S29 (q29)
theorem ok_tb29:TbOk env (tb29):=addFunF ok_tbl29_10 29 (by kernel_rfl) _ (q29_eq)
end
end Go.Proofs.YtfdedgmlafelaaaGreatDoor
open Go Go.AM
namespace Go.Proofs.YtfdedgmlafelaaaGreatDoor
noncomputable section
set_option maxRecDepth 100000
set_option linter.unusedSimpArgs false
set_option linter.unusedVariables false
set_option linter.defProp false
def S34:FunS:=⟨[⟨true,(.dat 69)⟩,⟨true,(.dat 69)⟩],[],[⟨true, .bool⟩],[]⟩
def F34:List D→Option (List D):=liftX env tb29 60 12 34 S34
theorem F34_eq (sd0:D) (sd1:D):F34 [sd0,sd1] =
 some [(D.bool (qiteB (qcmp BinOp.lss (qint (qfld sd0 0)) (qbin BinOp.add IntKind.i64 (qint (qfld sd1 0)) (qint (qfld sd1 1)))) (qcmp BinOp.lss (qint (qfld sd1 0)) (qbin BinOp.add IntKind.i64 (qint (qfld sd0 0)) (qint (qfld sd0 1)))) Bool.false))]:=by kernel_rfl
def q34:List D→Option (List D):=veil (F34)
theorem q34_eq:q34=F34:=veil_eq _
def tb34:Tb:=Tb.addF tb29 34 S34 (q34)
theorem ok_tb34:TbOk env (tb34):=addFunF ok_tb29 34 (by kernel_rfl) _ (q34_eq)
def S33:FunS:=⟨[⟨true,(.dat 69)⟩,⟨true,(.edat 69)⟩],[],[⟨true, .bool⟩],[]⟩
def F33:List D→Option (List D):=liftX env tb34 60 12 33 S33
theorem F33_eq (sd0:D) (sd1:D):F33 [sd0,sd1] =
 bif (qiteB (qiteB (qcmp BinOp.neq (qint (qfld sd0 0)) (qint (qfld sd1 0))) Bool.true (qcmp BinOp.neq (qint (qfld sd0 1)) (qint (qfld sd1 1)))) (qsome (q34 [sd1,sd0])) Bool.true)then
 some [(D.bool (qiteB (qiteB (qcmp BinOp.neq (qint (qfld sd0 0)) (qint (qfld sd1 0))) Bool.true (qcmp BinOp.neq (qint (qfld sd0 1)) (qint (qfld sd1 1)))) (qbool (qnth (q34 [sd1,sd0]) 0)) Bool.false))]
 else
 none:=by kernel_rfl
def q33:List D→Option (List D):=veil (F33)
theorem q33_eq:q33=F33:=veil_eq _
def tb33:Tb:=Tb.addF tb34 33 S33 (q33)
theorem ok_tb33:TbOk env (tb33):=addFunF ok_tb34 33 (by kernel_rfl) _ (q33_eq)
def S70_33_2:LoopS:=⟨0,[⟨false,(.rows 69)⟩,⟨false,(.func 33 [] [(.edat 69)])⟩,uF,uF,⟨false,(.lit (.int .i64 0))⟩,uF,uF,⟨false,(.int .i64)⟩,⟨true,(.int .i64)⟩,uF,uF,uF,uF,uF,uF,uF,uF,uF,uF],[],[⟨0,0,[⟨false,(.rows 69)⟩,⟨false,(.func 33 [] [(.edat 69)])⟩,uT,uT,⟨true,(.lit (.int .i64 0))⟩,uT,uT,⟨false,(.int .i64)⟩,uT,uT,uT,uT,uT,uT,uT,uT,uT,uT,uT],[]⟩,⟨1,0,[⟨false,(.rows 69)⟩,⟨false,(.func 33 [] [(.edat 69)])⟩,uT,uT,⟨true,(.int .i64)⟩,uT,uT,⟨false,(.int .i64)⟩,uT,uT,uT,uT,uT,uT,uT,uT,uT,uT,uT],[]⟩]⟩
def st70_33_2 (p s:List D):Option (Sum (List D) (List D)):=stepQX env tb33 60 12 70 (loopC 70 2) S70_33_2 p s
theorem st70_33_2_e (pd0:D) (pd1:D) (pn2:Int) (sn0:Int):st70_33_2 [pd0,pd1,(D.int pn2)] [(D.int sn0)] =
 let x0:=q33 [qget pd0 sn0,pd1]
 let x1:=D.int pn2
 bif qcmp .lss sn0 pn2 then gd (qinb pd0 sn0)<|gd (qsome x0)<|bif qbool (qnth x0 0)then ge pd0<|ge pd1<|ge x1<|some (Sum.inr [.int 1,.int sn0])else ge pd0<|ge pd1<|ge x1<|some (Sum.inl [.int (qbin .add .i64 sn0 1)])else ge pd0<|ge pd1<|ge x1<|some (Sum.inr [.int 0]):=by kernel_rfl
def st70_33_2_eq:=by have h:= @st70_33_2_e;simp only[ge_id,gd,qeqD_self,qeqI_self,qeqB_self,qand_tt,qeq_len,qeq_l,cond_true]at h;exact h
def l70_33_2:List D→List D→Option (List D):=veil fun p s=>loW (st70_33_2 p) s
theorem l70_33_2_eq:l70_33_2=fun p s=>loW (st70_33_2 p) s:=veil_eq _
def tbl70_33_2:Tb:=Tb.addL tb33 70 2 S70_33_2.n0 (mkLp S70_33_2 (l70_33_2))
theorem ok_tbl70_33_2:TbOk env (tbl70_33_2):=addLoopQ ok_tb33 70 2 (by kernel_rfl) _ (l70_33_2_eq)
def S70_33:FunS:=⟨[⟨true,(.rows 69)⟩,⟨true,(.func 33 [] [(.edat 69)])⟩],[],[⟨true,(.int .i64)⟩],[]⟩
def F70_33:List D→Option (List D):=liftX env tbl70_33_2 60 12 70 S70_33
theorem F70_33_eq (sd0:D) (sd1:D):F70_33 [sd0,sd1] =
 bif (qsome (l70_33_2 [sd0,sd1,(D.int (qlen sd0))] [(D.int 0)]))then
 bif (qcmp BinOp.eql (qint (qnth (l70_33_2 [sd0,sd1,(D.int (qlen sd0))] [(D.int 0)]) 0)) 0)then
 some [(D.int (-1))]
 else
 some [(D.int (qint (qnth (l70_33_2 [sd0,sd1,(D.int (qlen sd0))] [(D.int 0)]) 1)))]
 else
 none:=by kernel_rfl
def q70_33:List D→Option (List D):=veil (F70_33)
theorem q70_33_eq:q70_33=F70_33:=veil_eq _
def tb70_33:Tb:=Tb.addF tbl70_33_2 70 S70_33 (q70_33)
theorem ok_tb70_33:TbOk env (tb70_33):=addFunF ok_tbl70_33_2 70 (by kernel_rfl) _ (q70_33_eq)
def S32_33:FunS:=⟨[⟨true,(.rows 69)⟩,⟨true,(.func 33 [] [(.edat 69)])⟩],[],[⟨true, .bool⟩],[]⟩
def F32_33:List D→Option (List D):=liftX env tb70_33 60 12 32 S32_33
theorem F32_33_eq (sd0:D) (sd1:D):F32_33 [sd0,sd1] =
 bif (qsome (q70_33 [sd0,sd1]))then
 some [(D.bool (qcmp BinOp.geq (qint (qnth (q70_33 [sd0,sd1]) 0)) 0))]
 else
 none:=by kernel_rfl
def q32_33:List D→Option (List D):=veil (F32_33)
theorem q32_33_eq:q32_33=F32_33:=veil_eq _
def tb32_33:Tb:=Tb.addF tb70_33 32 S32_33 (q32_33)
theorem ok_tb32_33:TbOk env (tb32_33):=addFunF ok_tb70_33 32 (by kernel_rfl) _ (q32_33_eq)
end
end Go.Proofs.YtfdedgmlafelaaaGreatDoor
open Go Go.AM
namespace Go.Proofs.YtfdedgmlafelaaaGreatDoor
noncomputable section
set_option maxRecDepth 100000
set_option linter.unusedSimpArgs false
set_option linter.unusedVariables false
set_option linter.defProp false
def S10_14:LoopS:=⟨0,[uF,⟨false,(.ptr 0 0)⟩,⟨false,(.ptr 1 0)⟩,⟨false,(.lit (.int .i64 0))⟩,uF,⟨false,(.rows 3)⟩,uF,⟨false,(.ptr 2 0)⟩,⟨false,(.ptr 4 0)⟩,uF,⟨false, .bool⟩,⟨true,(.int .i64)⟩,uF,uF,uF,uF,uF,uF,uF,uF,uF,uF,uF,uF,uF,uF,uF,uF,uF,uF,uF,uF,uF,uF,uF,uF,⟨false,(.rows 4)⟩,⟨false,(.int .i64)⟩,⟨false,(.int .i64)⟩,uF,uF,uF,uF,uF,uF,uF,uF,uF,uF,uF,uF,uF,⟨false,(.rows 57)⟩,⟨false,(.int .i64)⟩,⟨true,(.int .i64)⟩,uF,uF,uF,uF,uF,uF,uF,uF,uF,uF,uF,uF,uF,uF,uF,uF,uF,uF,uF,uF,uF,uF,uF,uF,uF,uF,uF,uF,uF,uF,uF,uF,uF,uF,uF,uF,uF,uF,uF,uF,uF,uF,uF,uF,uF,uF,uF,uF,uF,uF,uF,uF,uF,uF,uF,uF,uF,uF,uF,uF,uF,uF,uF,uF,uF,uF,uF,uF,uF,uF,uF,uF,uF,uF,uF,uF],[(.cells [⟨false,(.lit (.int .i64 0))⟩,⟨false,(.lit (.slice none 0 0))⟩,⟨true, .bool⟩]),(.mp true 115 69),(.cells [⟨false,(.map 3)⟩,⟨true, .bool⟩,⟨true,(.int .i64)⟩]),(.cells [⟨false,(.lit (.int .i64 0))⟩,⟨false,(.lit (.slice none 0 0))⟩,⟨false,(.lit (.bool false))⟩]),(.dat false 25)],[⟨0,2,[uT,⟨true,(.ptr 0 0)⟩,⟨true,(.ptr 1 0)⟩,⟨true,(.lit (.int .i64 0))⟩,uT,⟨false,(.rows 3)⟩,uT,⟨true,(.ptr 2 0)⟩,⟨true,(.ptr 4 0)⟩,uT,⟨false, .bool⟩,uT,uT,uT,uT,uT,uT,uT,uT,uT,uT,uT,uT,uT,uT,uT,uT,uT,uT,uT,uT,uT,uT,uT,uT,uT,⟨false,(.rows 4)⟩,⟨false,(.int .i64)⟩,⟨false,(.int .i64)⟩,uT,uT,uT,uT,uT,uT,uT,uT,uT,uT,uT,uT,uT,⟨false,(.rows 57)⟩,⟨false,(.int .i64)⟩,uT,uT,uT,uT,uT,uT,uT,uT,uT,uT,uT,uT,uT,uT,uT,uT,uT,uT,uT,uT,uT,uT,uT,uT,uT,uT,uT,uT,uT,uT,uT,uT,uT,uT,uT,uT,uT,uT,uT,uT,uT,uT,uT,uT,uT,uT,uT,uT,uT,uT,uT,uT,uT,uT,uT,uT,uT,uT,uT,uT,uT,uT,uT,uT,uT,uT,uT,uT,uT,uT,uT,uT,uT,uT,uT,uT,uT],[(.cells [⟨true,(.lit (.int .i64 0))⟩,⟨true,(.lit (.slice none 0 0))⟩,⟨true, .bool⟩]),(.mp true 115 69),(.cells [⟨true,(.map 3)⟩,⟨true, .bool⟩,⟨true,(.int .i64)⟩]),(.cells [⟨true,(.lit (.int .i64 0))⟩,⟨true,(.lit (.slice none 0 0))⟩,⟨true,(.lit (.bool false))⟩]),(.dat false 25)]⟩]⟩
def st10_14 (p s:List D):Option (Sum (List D) (List D)):=stepQX env tb32_33 60 12 10 (loopC 10 14) S10_14 p s
theorem st10_14_e (pd0:D) (pb1:Bool) (pd2:D) (pn3:Int) (pn4:Int) (pd5:D) (pn6:Int) (pd7:D) (sn0:Int) (sn1:Int) (sb2:Bool) (sd3:D) (sb4:Bool) (sn5:Int):st10_14 [pd0,(D.bool pb1),pd2,(D.int pn3),(D.int pn4),pd5,(D.int pn6),pd7] [(D.int sn0),(D.int sn1),(D.bool sb2),sd3,(D.bool sb4),(D.int sn5)] =
 let x0:=D.bool pb1
 let x1:=D.int pn3
 let x2:=D.int pn4
 let x3:=D.int pn6
 let x4:Option (List D ⊕ List D):=ge pd0<|ge x0<|ge pd2<|ge x1<|ge x2<|ge pd5<|ge x3<|ge pd7<|some (Sum.inr [.int 0,.bool sb2,sd3,.bool sb4,.int sn5])
 let x5:=qget pd5 sn1
 let x6:=q29 [x5,.int sn0,sd3,.bool sb4,.int sn5]
 let x7:=q30 [x5,.int sn0]
 let x8:=qsome x7
 let x9:=D.int (qint (qnth x7 0))
 let x10:=D.int (qbin .add .i64 sn1 1)
 let x11:=qnth x6 0
 let x12:=D.bool (qbool (qnth x6 1))
 let x13:=D.int (qint (qnth x6 2))
 bif qcmp .lss sn1 pn6 then gd (qinb pd5 sn1)<|bif qnot pb1 then x4 else gd (qsome x6)<|bif sb2 then bif qcmp .neq (qint (qfld x5 0)) 9 then gd x8<|ge pd0<|ge x0<|ge pd2<|ge x1<|ge x2<|ge pd5<|ge x3<|ge pd7<|some (Sum.inl [x9,x10,.bool true,x11,x12,x13])else gd x8<|ge pd0<|ge x0<|ge pd2<|ge x1<|ge x2<|ge pd5<|ge x3<|ge pd7<|some (Sum.inl [x9,x10,.bool (qcmp .eql sn0 4),x11,x12,x13])else gd x8<|ge pd0<|ge x0<|ge pd2<|ge x1<|ge x2<|ge pd5<|ge x3<|ge pd7<|some (Sum.inl [x9,x10,.bool false,x11,x12,x13])else x4:=by kernel_rfl
def st10_14_eq:=by have h:= @st10_14_e;simp only[ge_id,gd,qeqD_self,qeqI_self,qeqB_self,qand_tt,qeq_len,qeq_l,cond_true]at h;exact h
def l10_14:List D→List D→Option (List D):=veil fun p s=>loW (st10_14 p) s
theorem l10_14_eq:l10_14=fun p s=>loW (st10_14 p) s:=veil_eq _
def tbl10_14:Tb:=Tb.addL tb32_33 10 14 S10_14.n0 (mkLp S10_14 (l10_14))
theorem ok_tbl10_14:TbOk env (tbl10_14):=addLoopQ ok_tb32_33 10 14 (by kernel_rfl) _ (l10_14_eq)
def S10_10:LoopS:=⟨0,[uF,⟨false,(.ptr 0 0)⟩,⟨false,(.ptr 1 0)⟩,⟨false,(.lit (.int .i64 0))⟩,uF,⟨false,(.rows 3)⟩,uF,⟨false,(.ptr 2 0)⟩,⟨false,(.ptr 4 0)⟩,uF,uF,uF,uF,uF,uF,uF,uF,uF,uF,uF,uF,uF,uF,uF,uF,uF,uF,uF,uF,uF,uF,uF,uF,uF,uF,uF,⟨false,(.rows 4)⟩,⟨false,(.int .i64)⟩,⟨true,(.int .i64)⟩,uF,uF,uF,uF,uF,uF,uF,uF,uF,uF,uF,uF,uF,uF,uF,uF,uF,uF,uF,uF,uF,uF,uF,uF,uF,uF,uF,uF,uF,uF,uF,uF,uF,uF,uF,uF,uF,uF,uF,uF,uF,uF,uF,uF,uF,uF,uF,uF,uF,uF,uF,uF,uF,uF,uF,uF,uF,uF,uF,uF,uF,uF,uF,uF,uF,uF,uF,uF,uF,uF,uF,uF,uF,uF,uF,uF,uF,uF,uF,uF,uF,uF,uF,uF,uF,uF,uF,uF,uF,uF,uF,uF],[(.cells [⟨false,(.lit (.int .i64 0))⟩,⟨false,(.lit (.slice none 0 0))⟩,⟨true, .bool⟩]),(.mp true 115 69),(.cells [⟨false,(.map 3)⟩,⟨true, .bool⟩,⟨true,(.int .i64)⟩]),(.cells [⟨false,(.lit (.int .i64 0))⟩,⟨false,(.lit (.slice none 0 0))⟩,⟨false,(.lit (.bool false))⟩]),(.dat false 25)],[⟨0,0,[uT,uT,⟨true,(.ptr 1 0)⟩,⟨true,(.lit (.int .i64 0))⟩,uT,⟨false,(.rows 3)⟩,uT,⟨true,(.ptr 2 0)⟩,⟨true,(.ptr 4 0)⟩,uT,uT,uT,uT,uT,uT,uT,uT,uT,uT,uT,uT,uT,uT,uT,uT,uT,uT,uT,uT,uT,uT,uT,uT,uT,uT,uT,⟨false,(.rows 4)⟩,⟨false,(.int .i64)⟩,uT,uT,uT,uT,uT,uT,uT,uT,uT,uT,uT,uT,uT,uT,uT,uT,uT,uT,uT,uT,uT,uT,uT,uT,uT,uT,uT,uT,uT,uT,uT,uT,uT,uT,uT,uT,uT,uT,uT,uT,uT,uT,uT,uT,uT,uT,uT,uT,uT,uT,uT,uT,uT,uT,uT,uT,uT,uT,uT,uT,uT,uT,uT,uT,uT,uT,uT,uT,uT,uT,uT,uT,uT,uT,uT,uT,uT,uT,uT,uT,uT,uT,uT,uT,uT,uT,uT,uT,uT,uT,uT,uT,uT],[(.cells [⟨true,(.lit (.int .i64 0))⟩,⟨true,(.lit (.slice none 0 0))⟩,⟨true, .bool⟩]),(.mp true 115 69),(.cells [⟨true,(.map 3)⟩,⟨true, .bool⟩,⟨true,(.int .i64)⟩]),(.cells [⟨true,(.lit (.int .i64 0))⟩,⟨true,(.lit (.slice none 0 0))⟩,⟨true,(.lit (.bool false))⟩]),(.dat false 25)]⟩]⟩
def st10_10 (p s:List D):Option (Sum (List D) (List D)):=stepQX env tbl10_14 60 12 10 (loopC 10 10) S10_10 p s
theorem st10_10_e (pd0:D) (pd1:D) (pn2:Int) (pd3:D) (sn0:Int) (sb1:Bool) (sd2:D) (sb3:Bool) (sn4:Int):st10_10 [pd0,pd1,(D.int pn2),pd3] [(D.int sn0),(D.bool sb1),sd2,(D.bool sb3),(D.int sn4)] =
 let x0:=D.int pn2
 let x1:=qfld (qget (qfld pd3 1) sn0) 1
 let x2:=l10_14 [pd0,.bool (qbool (qget pd1 sn0)),pd1,x0,.int sn0,x1,.int (qlen x1),pd3] [.int (qint (qget pd0 sn0)),.int 0,.bool sb1,sd2,.bool sb3,.int sn4]
 bif qcmp .lss sn0 pn2 then gd (qinb pd1 sn0)<|gd (qinb pd0 sn0)<|gd (qinb (qfld pd3 1) sn0)<|gd (qsome x2)<|ge pd0<|ge pd1<|ge x0<|ge pd3<|some (Sum.inl [.int (qbin .add .i64 sn0 1),.bool (qbool (qnth x2 1)),qnth x2 2,.bool (qbool (qnth x2 3)),.int (qint (qnth x2 4))])else ge pd0<|ge pd1<|ge x0<|ge pd3<|some (Sum.inr [.int 0,.bool sb1,sd2,.bool sb3,.int sn4]):=by kernel_rfl
def st10_10_eq:=by have h:= @st10_10_e;simp only[ge_id,gd,qeqD_self,qeqI_self,qeqB_self,qand_tt,qeq_len,qeq_l,cond_true]at h;exact h
def l10_10:List D→List D→Option (List D):=veil fun p s=>loW (st10_10 p) s
theorem l10_10_eq:l10_10=fun p s=>loW (st10_10 p) s:=veil_eq _
def tbl10_10:Tb:=Tb.addL tbl10_14 10 10 S10_10.n0 (mkLp S10_10 (l10_10))
theorem ok_tbl10_10:TbOk env (tbl10_10):=addLoopQ ok_tbl10_14 10 10 (by kernel_rfl) _ (l10_10_eq)
def S10_24:LoopS:=⟨0,[uF,uF,⟨false,(.ptr 0 0)⟩,⟨false,(.lit (.int .i64 0))⟩,uF,uF,uF,⟨false,(.ptr 1 0)⟩,⟨false,(.ptr 3 0)⟩,uF,uF,uF,uF,uF,uF,uF,uF,uF,uF,uF,uF,uF,uF,uF,uF,uF,uF,uF,uF,uF,uF,uF,uF,uF,uF,uF,uF,uF,uF,uF,uF,uF,uF,uF,uF,uF,uF,uF,uF,uF,uF,uF,uF,uF,uF,uF,uF,uF,uF,uF,uF,uF,uF,uF,uF,uF,uF,uF,uF,uF,uF,uF,uF,uF,uF,uF,uF,uF,uF,uF,uF,uF,uF,uF,uF,uF,uF,uF,uF,uF,uF,uF,uF,⟨false,(.osl 4 69)⟩,⟨false,(.int .i64)⟩,⟨true,(.int .i64)⟩,uF,uF,uF,uF,uF,uF,uF,uF,uF,uF,uF,uF,uF,uF,uF,uF,uF,uF,uF,uF,uF,uF,uF,uF,uF,uF,uF,uF,uF,uF,uF,uF,uF,uF,uF],[(.lst true 69),(.cells [⟨false,(.int .i64)⟩,⟨false,(.osl 4 69)⟩,⟨false, .bool⟩]),(.mp false 115 69),(.cells [⟨false,(.map 2)⟩,⟨false, .bool⟩,⟨false,(.int .i64)⟩]),(.cells [⟨false,(.lit (.int .i64 0))⟩,⟨false,(.lit (.slice none 0 0))⟩,⟨false,(.lit (.bool false))⟩])],[⟨0,4,[uT,uT,⟨true,(.ptr 0 0)⟩,⟨true,(.lit (.int .i64 0))⟩,uT,uT,uT,uT,⟨true,(.ptr 3 0)⟩,uT,uT,uT,uT,uT,uT,uT,uT,uT,uT,uT,uT,uT,uT,uT,uT,uT,uT,uT,uT,uT,uT,uT,uT,uT,uT,uT,uT,uT,uT,uT,uT,uT,uT,uT,uT,uT,uT,uT,uT,uT,uT,uT,uT,uT,uT,uT,uT,uT,uT,uT,uT,uT,uT,uT,uT,uT,uT,uT,uT,uT,uT,uT,uT,uT,uT,uT,uT,uT,uT,uT,uT,uT,uT,uT,uT,uT,uT,uT,uT,uT,uT,uT,uT,uT,⟨false,(.int .i64)⟩,uT,uT,uT,uT,uT,uT,uT,uT,uT,uT,uT,uT,uT,uT,uT,uT,uT,uT,uT,uT,uT,uT,uT,uT,uT,uT,uT,uT,uT,uT,uT,uT,uT,uT,uT,uT],[(.lst true 69),(.cells [⟨false,(.int .i64)⟩,⟨true,(.osl 4 69)⟩,⟨false, .bool⟩]),(.mp false 115 69),(.cells [uT,⟨false, .bool⟩,⟨false,(.int .i64)⟩]),(.cells [⟨true,(.lit (.int .i64 0))⟩,⟨true,(.lit (.slice none 0 0))⟩,⟨true,(.lit (.bool false))⟩])]⟩]⟩
def st10_24 (p s:List D):Option (Sum (List D) (List D)):=stepQX env tbl10_10 60 12 10 (loopC 10 24) S10_24 p s
theorem st10_24_e (pn0:Int) (pn1:Int) (pb2:Bool) (pd3:D) (pb4:Bool) (pn5:Int) (sn0:Int) (sd1:D):st10_24 [(D.int pn0),(D.int pn1),(D.bool pb2),pd3,(D.bool pb4),(D.int pn5)] [(D.int sn0),sd1] =
 let x0:=qcmp .leq 0 sn0
 let x1:=qlen sd1
 let x2:=qcmp .lss sn0 x1
 let x3:=qinb sd1 sn0
 let x4:=qcmp .eql x1 x1
 let x5:=qget sd1 sn0
 let x6:=q32_33 [sd1,x5]
 let x7:=qint (qfld x5 0)
 let x8:=qint (qfld x5 1)
 let x9:=D.int (qint (qfld x5 2))
 let x10:=D.int (qint (qfld x5 3))
 let x11:=qset sd1 sn0 (.agg [.int x7,.int x8,x9,x10,.bool true])
 let x12:=qcmp .eql x1 (qlen x11)
 let x13:=D.int pn0
 let x14:=D.int pn1
 let x15:=D.bool pb2
 let x16:=D.bool pb4
 let x17:=D.int pn5
 let x18:=D.int (qbin .add .i64 sn0 1)
 let x19:Option (List D ⊕ List D):=gd x0<|gd x2<|gd x3<|gd x12<|gd x12<|ge x13<|ge x14<|ge x15<|ge pd3<|ge x16<|ge x17<|some (Sum.inl [x18,x11])
 let x20:=qset sd1 sn0 (.agg [.int x7,.int x8,x9,x10,.bool (qbool (qnth x6 0))])
 let x21:=qcmp .eql x1 (qlen x20)
 bif qcmp .lss sn0 pn0 then gd x0<|gd x2<|gd x3<|gd x4<|gd (qsome x6)<|bif pb4 then x19 else bif qcmp .gtr (qbin .add .i64 x7 x8) 0 then x19 else bif qcmp .lss x7 (-4092)then x19 else gd x0<|gd x2<|gd x3<|gd x21<|gd x21<|ge x13<|ge x14<|ge x15<|ge pd3<|ge x16<|ge x17<|some (Sum.inl [x18,x20])else gd x4<|ge x13<|ge x14<|ge x15<|ge pd3<|ge x16<|ge x17<|some (Sum.inr [.int 0,sd1]):=by kernel_rfl
def st10_24_eq:=by have h:= @st10_24_e;simp only[ge_id,gd,qeqD_self,qeqI_self,qeqB_self,qand_tt,qeq_len,qeq_l,cond_true]at h;exact h
def l10_24:List D→List D→Option (List D):=veil fun p s=>loW (st10_24 p) s
theorem l10_24_eq:l10_24=fun p s=>loW (st10_24 p) s:=veil_eq _
def tbl10_24:Tb:=Tb.addL tbl10_10 10 24 S10_24.n0 (mkLp S10_24 (l10_24))
theorem ok_tbl10_24:TbOk env (tbl10_24):=addLoopQ ok_tbl10_10 10 24 (by kernel_rfl) _ (l10_24_eq)
def S10:FunS:=⟨[⟨true,(.dat 25)⟩],[],[⟨true,(.tup [(.dat 30),(.int .i64)])⟩],[]⟩
def F10:List D→Option (List D):=liftX env tbl10_24 60 12 10 S10
theorem F10_e (sd0:D):F10 [sd0] =
 let x0:=q19 [sd0]
 let x1:=qint (qnth x0 0)
 let x2:=D.int 0
 let x3:=D.bool false
 let x4:=D.agg [x2,.list [],x3]
 let x5:=q28 [sd0]
 let x6:=q20 [sd0]
 let x7:=l10_10 [qnth x5 0,qnth x6 0,.int (qlen (qnth x6 0)),sd0] [x2,.bool true,.list [],x3,x2]
 let x8:=qbool (qnth x7 3)
 let x9:=qint (qnth x7 4)
 let x10:=D.int x9
 let x11:=q31 [qnth x7 2,.bool x8,x10]
 let x12:=qlen (qnth x11 0)
 let x13:=qcmp .eql x12 x12
 let x14:=D.bool (qbool (qnth x7 1))
 let x15:=l10_24 [.int x12,x10,x14,qnth x7 2,.bool x8,x10] [x2,qnth x11 0]
 gd (qsome x0)<|bif qcmp .neq x1 0 then some [x4,.int x1]else gd (qsome x5)<|bif qnot (qbool (qnth x5 1))then some [x4,.int 19]else gd (qsome x6)<|gd (qsome x7)<|gd (qsome x11)<|gd (qand (qeqB x8 x8) (qcmp .eql x9 x9))<|gd x13<|gd x13<|gd (qsome x15)<|gd (qcmp .eql (qlen (qnth x15 1)) (qlen (qnth x15 1)))<|some [.agg [x10,qnth x15 1,x14],x2]:=by kernel_rfl
def F10_eq:=by have h:= @F10_e;simp only[ge_id,gd,qeqD_self,qeqI_self,qeqB_self,qand_tt,qeq_len,qeq_l,cond_true]at h;exact h
def q10:List D→Option (List D):=veil (F10)
theorem q10_eq:q10=F10:=veil_eq _
def tb10:Tb:=Tb.addF tbl10_24 10 S10 (q10)
theorem ok_tb10:TbOk env (tb10):=addFunF ok_tbl10_24 10 (by kernel_rfl) _ (q10_eq)
end
end Go.Proofs.YtfdedgmlafelaaaGreatDoor
open Go Go.AM
namespace Go.Proofs.YtfdedgmlafelaaaGreatDoor
noncomputable section
set_option maxRecDepth 100000
set_option linter.unusedSimpArgs false
set_option linter.unusedVariables false
set_option linter.defProp false
def S74_2:LoopS:=⟨0,[⟨false,(.rows 3)⟩,⟨false,(.int .i64)⟩,uF,uF,⟨false,(.lit (.bool false))⟩,⟨true,(.int .i64)⟩,uF,uF,uF,uF,uF,uF,uF,uF,uF,uF,uF,uF],[],[⟨0,0,[⟨false,(.rows 3)⟩,⟨false,(.int .i64)⟩,uT,uT,⟨true,(.lit (.bool false))⟩,uT,uT,uT,uT,uT,uT,uT,uT,uT,uT,uT,uT,uT],[]⟩,⟨1,0,[⟨false,(.rows 3)⟩,⟨false,(.int .i64)⟩,uT,uT,⟨true,(.lit (.bool true))⟩,uT,uT,uT,uT,uT,uT,uT,uT,uT,uT,uT,uT,uT],[]⟩]⟩
def st74_2 (p s:List D):Option (Sum (List D) (List D)):=stepQX env tb10 60 12 74 (loopC 74 2) S74_2 p s
theorem st74_2_e (pd0:D) (pn1:Int) (sn0:Int):st74_2 [pd0,(D.int pn1)] [(D.int sn0)] =
 let x0:=D.int pn1
 bif qcmp .lss sn0 (qlen pd0)then gd (qinb pd0 sn0)<|bif qcmp .eql (qint (qget pd0 sn0)) pn1 then ge pd0<|ge x0<|some (Sum.inr [.int 1])else ge pd0<|ge x0<|some (Sum.inl [.int (qbin .add .i64 sn0 1)])else ge pd0<|ge x0<|some (Sum.inr [.int 0]):=by kernel_rfl
def st74_2_eq:=by have h:= @st74_2_e;simp only[ge_id,gd,qeqD_self,qeqI_self,qeqB_self,qand_tt,qeq_len,qeq_l,cond_true]at h;exact h
def l74_2:List D→List D→Option (List D):=veil fun p s=>loW (st74_2 p) s
theorem l74_2_eq:l74_2=fun p s=>loW (st74_2 p) s:=veil_eq _
def tbl74_2:Tb:=Tb.addL tb10 74 2 S74_2.n0 (mkLp S74_2 (l74_2))
theorem ok_tbl74_2:TbOk env (tbl74_2):=addLoopQ ok_tb10 74 2 (by kernel_rfl) _ (l74_2_eq)
def S74:FunS:=⟨[⟨true,(.rows 3)⟩,⟨true,(.int .i64)⟩],[],[⟨true, .bool⟩],[]⟩
def F74:List D→Option (List D):=liftX env tbl74_2 60 12 74 S74
theorem F74_eq (sd0:D) (sn1:Int):F74 [sd0,(D.int sn1)] =
 bif (qsome (l74_2 [sd0,(D.int sn1)] [(D.int 0)]))then
 bif (qcmp BinOp.eql (qint (qnth (l74_2 [sd0,(D.int sn1)] [(D.int 0)]) 0)) 0)then
 some [(D.bool Bool.false)]
 else
 some [(D.bool Bool.true)]
 else
 none:=by kernel_rfl
def q74:List D→Option (List D):=veil (F74)
theorem q74_eq:q74=F74:=veil_eq _
def tb74:Tb:=Tb.addF tbl74_2 74 S74 (q74)
theorem ok_tb74:TbOk env (tb74):=addFunF ok_tbl74_2 74 (by kernel_rfl) _ (q74_eq)
def S146:FunS:=⟨[⟨true,(.dat 54)⟩],[],[⟨true,(.rows 3)⟩],[]⟩
def F146:List D→Option (List D):=liftX env tb74 60 12 146 S146
theorem F146_e (sd0:D):F146 [sd0] =
 let x0:=qfld sd0 1
 let x1:Option (List D):=some [.list []]
 let x2:=qbin .sub .i64 (qlen x0) 1
 let x3:=qget x0 x2
 let x4:=qint (qfld x3 0)
 let x5:=D.int (qint (qfld x3 3))
 bif qcmp .eql (qlen x0) 0 then x1 else gd (qinb x0 x2)<|bif qcmp .eql x4 6 then some [.list [x5]]else bif qcmp .eql x4 7 then some [.list [x5,.int (qint (qfld x3 4))]]else bif qcmp .eql x4 8 then some [qfld x3 7]else x1:=by kernel_rfl
def F146_eq:=by have h:= @F146_e;simp only[ge_id,gd,qeqD_self,qeqI_self,qeqB_self,qand_tt,qeq_len,qeq_l,cond_true]at h;exact h
def q146:List D→Option (List D):=veil (F146)
theorem q146_eq:q146=F146:=veil_eq _
def tb146:Tb:=Tb.addF tb74 146 S146 (q146)
theorem ok_tb146:TbOk env (tb146):=addFunF ok_tb74 146 (by kernel_rfl) _ (q146_eq)
def S114_4:LoopS:=⟨0,[uF,uF,⟨false,(.ptr 0 0)⟩,uF,⟨false,(.lit (.slice none 0 0))⟩,⟨false,(.osl 1 3)⟩,⟨false,(.rows 3)⟩,⟨true,(.int .i64)⟩,uF,uF,uF,uF,uF,uF,uF,uF,uF,uF,uF,uF,uF,uF,uF,uF,uF,uF,uF,uF,uF,uF,uF,uF,uF,uF,uF,uF,uF,uF,uF,uF,uF,uF,uF],[(.lst true 3),(.dat false 25)],[⟨0,0,[uT,uT,uT,uT,⟨true,(.lit (.slice none 0 0))⟩,⟨true,(.osl 1 3)⟩,⟨false,(.rows 3)⟩,uT,uT,uT,uT,uT,uT,uT,uT,uT,uT,uT,uT,uT,uT,uT,uT,uT,uT,uT,uT,uT,uT,uT,uT,uT,uT,uT,uT,uT,uT,uT,uT,uT,uT,uT,uT],[(.lst true 3),(.dat false 25)]⟩]⟩
def st114_4 (p s:List D):Option (Sum (List D) (List D)):=stepQX env tb146 60 12 114 (loopC 114 4) S114_4 p s
theorem st114_4_e (pd0:D) (pd1:D) (sn0:Int) (sd1:D):st114_4 [pd0,pd1] [(D.int sn0),sd1] =
 let x0:=qinb pd0 sn0
 let x1:=qint (qget pd0 sn0)
 let x2:=qcmp .eql (qlen sd1) (qlen sd1)
 let x3:=qapp sd1 (.list [.int x1])
 let x4:=qlen x3
 let x5:=D.int (qbin .add .i64 sn0 1)
 let x6:Option (List D ⊕ List D):=gd x2<|ge pd0<|ge pd1<|some (Sum.inl [x5,sd1])
 bif qcmp .lss sn0 (qlen pd0)then gd x0<|bif qcmp .geq x1 0 then gd x0<|bif qcmp .lss x1 (qlen (qfld pd1 1))then gd x0<|gd x2<|gd (qmem x4 8)<|gd (qcmp .eql x4 x4)<|ge pd0<|ge pd1<|some (Sum.inl [x5,x3])else x6 else x6 else gd x2<|ge pd0<|ge pd1<|some (Sum.inr [.int 0,sd1]):=by kernel_rfl
def st114_4_eq:=by have h:= @st114_4_e;simp only[ge_id,gd,qeqD_self,qeqI_self,qeqB_self,qand_tt,qeq_len,qeq_l,cond_true]at h;exact h
def l114_4:List D→List D→Option (List D):=veil fun p s=>loW (st114_4 p) s
theorem l114_4_eq:l114_4=fun p s=>loW (st114_4 p) s:=veil_eq _
def tbl114_4:Tb:=Tb.addL tb146 114 4 S114_4.n0 (mkLp S114_4 (l114_4))
theorem ok_tbl114_4:TbOk env (tbl114_4):=addLoopQ ok_tb146 114 4 (by kernel_rfl) _ (l114_4_eq)
def S114:FunS:=⟨[⟨true,(.dat 25)⟩,⟨true,(.int .i64)⟩],[],[⟨true,(.rows 3)⟩],[]⟩
def F114:List D→Option (List D):=liftX env tbl114_4 60 12 114 S114
theorem F114_e (sd0:D) (sn1:Int):F114 [sd0,(D.int sn1)] =
 let x0:=q146 [qget (qfld sd0 1) sn1]
 let x1:=l114_4 [qnth x0 0,sd0] [.int 0,.list []]
 gd (qinb (qfld sd0 1) sn1)<|gd (qsome x0)<|gd (qcmp .eql 0 (qlen (.list [])))<|gd (qsome x1)<|gd (qcmp .eql (qlen (qnth x1 1)) (qlen (qnth x1 1)))<|some [qnth x1 1]:=by kernel_rfl
def F114_eq:=by have h:= @F114_e;simp only[ge_id,gd,qeqD_self,qeqI_self,qeqB_self,qand_tt,qeq_len,qeq_l,cond_true]at h;exact h
def q114:List D→Option (List D):=veil (F114)
theorem q114_eq:q114=F114:=veil_eq _
def tb114:Tb:=Tb.addF tbl114_4 114 S114 (q114)
theorem ok_tb114:TbOk env (tb114):=addFunF ok_tbl114_4 114 (by kernel_rfl) _ (q114_eq)
def S73_10:LoopS:=⟨0,[uF,uF,⟨false,(.int .i64)⟩,⟨false,(.ptr 0 0)⟩,uF,uF,⟨false,(.lit (.slice none 0 0))⟩,⟨false,(.osl 1 3)⟩,⟨false,(.int .i64)⟩,⟨false,(.rows 3)⟩,⟨true,(.int .i64)⟩,uF,uF,uF,uF,uF,uF,uF,uF,uF,uF,uF,uF,uF,uF,uF,uF,uF,uF,uF,uF,uF,uF,uF,uF,uF,uF,uF,uF,uF,uF,uF,uF,uF,uF,uF,uF,uF,uF,uF,uF,uF,uF,uF,uF,uF,uF,uF,uF,uF,uF,uF,uF,uF,uF,uF,uF,uF,uF,uF,uF],[(.lst true 3),(.dat false 25)],[⟨0,2,[uT,uT,⟨false,(.int .i64)⟩,⟨true,(.ptr 0 0)⟩,uT,uT,⟨true,(.lit (.slice none 0 0))⟩,⟨true,(.osl 1 3)⟩,⟨false,(.int .i64)⟩,⟨false,(.rows 3)⟩,uT,uT,uT,uT,uT,uT,uT,uT,uT,uT,uT,uT,uT,uT,uT,uT,uT,uT,uT,uT,uT,uT,uT,uT,uT,uT,uT,uT,uT,uT,uT,uT,uT,uT,uT,uT,uT,uT,uT,uT,uT,uT,uT,uT,uT,uT,uT,uT,uT,uT,uT,uT,uT,uT,uT,uT,uT,uT,uT,uT,uT],[(.lst true 3),(.dat false 25)]⟩]⟩
def st73_10 (p s:List D):Option (Sum (List D) (List D)):=stepQX env tb114 60 12 73 (loopC 73 10) S73_10 p s
theorem st73_10_e (pn0:Int) (pn1:Int) (pd2:D) (pd3:D) (sn0:Int) (sd1:D):st73_10 [(D.int pn0),(D.int pn1),pd2,pd3] [(D.int sn0),sd1] =
 let x0:=qinb pd2 sn0
 let x1:=qint (qget pd2 sn0)
 let x2:=qcmp .neq x1 pn0
 let x3:=qcmp .eql (qlen sd1) (qlen sd1)
 let x4:=q74 [sd1,.int x1]
 let x5:=qapp sd1 (.list [.int x1])
 let x6:=qlen x5
 let x7:=D.int pn0
 let x8:=D.int pn1
 let x9:=D.int (qbin .add .i64 sn0 1)
 bif qcmp .lss sn0 (qlen pd2)then gd x0<|gd (qiteB x2 (qand x0 (qand x3 (qsome x4))) true)<|bif qiteB x2 (qnot (qbool (qnth x4 0))) false then gd x0<|gd x3<|gd (qmem x6 8)<|gd (qcmp .eql x6 x6)<|ge x7<|ge x8<|ge pd2<|ge pd3<|some (Sum.inl [x9,x5])else gd x3<|ge x7<|ge x8<|ge pd2<|ge pd3<|some (Sum.inl [x9,sd1])else gd x3<|ge x7<|ge x8<|ge pd2<|ge pd3<|some (Sum.inr [.int 0,sd1]):=by kernel_rfl
def st73_10_eq:=by have h:= @st73_10_e;simp only[ge_id,gd,qeqD_self,qeqI_self,qeqB_self,qand_tt,qeq_len,qeq_l,cond_true]at h;exact h
def l73_10:List D→List D→Option (List D):=veil fun p s=>loW (st73_10 p) s
theorem l73_10_eq:l73_10=fun p s=>loW (st73_10 p) s:=veil_eq _
def tbl73_10:Tb:=Tb.addL tb114 73 10 S73_10.n0 (mkLp S73_10 (l73_10))
theorem ok_tbl73_10:TbOk env (tbl73_10):=addLoopQ ok_tb114 73 10 (by kernel_rfl) _ (l73_10_eq)
def S73_6:LoopS:=⟨0,[uF,uF,⟨false,(.int .i64)⟩,⟨false,(.ptr 0 0)⟩,uF,uF,⟨false,(.lit (.slice none 0 0))⟩,⟨false,(.osl 1 3)⟩,⟨true,(.int .i64)⟩,uF,uF,uF,uF,uF,uF,uF,uF,uF,uF,uF,uF,uF,uF,uF,uF,uF,uF,uF,uF,uF,uF,uF,uF,uF,uF,uF,uF,uF,uF,uF,uF,uF,uF,uF,uF,uF,uF,uF,uF,uF,uF,uF,uF,uF,uF,uF,uF,uF,uF,uF,uF,uF,uF,uF,uF,uF,uF,uF,uF,uF,uF],[(.lst true 3),(.dat false 25)],[⟨0,0,[uT,uT,⟨false,(.int .i64)⟩,uT,uT,uT,⟨true,(.lit (.slice none 0 0))⟩,⟨true,(.osl 1 3)⟩,uT,uT,uT,uT,uT,uT,uT,uT,uT,uT,uT,uT,uT,uT,uT,uT,uT,uT,uT,uT,uT,uT,uT,uT,uT,uT,uT,uT,uT,uT,uT,uT,uT,uT,uT,uT,uT,uT,uT,uT,uT,uT,uT,uT,uT,uT,uT,uT,uT,uT,uT,uT,uT,uT,uT,uT,uT,uT,uT,uT,uT,uT,uT],[(.lst true 3),(.dat false 25)]⟩]⟩
def st73_6 (p s:List D):Option (Sum (List D) (List D)):=stepQX env tbl73_10 60 12 73 (loopC 73 6) S73_6 p s
theorem st73_6_e (pn0:Int) (pd1:D) (sn0:Int) (sd1:D):st73_6 [(D.int pn0),pd1] [(D.int sn0),sd1] =
 let x0:=qlen sd1
 let x1:=qcmp .lss sn0 x0
 let x2:=q114 [pd1,.int (qint (qget sd1 sn0))]
 let x3:=qcmp .eql x0 x0
 let x4:=D.int pn0
 let x5:List D:=[.int 0,sd1]
 let x6:=l73_10 [x4,.int sn0,qnth x2 0,pd1] x5
 bif x1 then gd (qcmp .leq 0 sn0)<|gd x1<|gd (qinb sd1 sn0)<|gd (qsome x2)<|gd x3<|gd (qsome x6)<|gd (qcmp .eql (qlen (qnth x6 1)) (qlen (qnth x6 1)))<|ge x4<|ge pd1<|some (Sum.inl [.int (qbin .add .i64 sn0 1),qnth x6 1])else gd x3<|ge x4<|ge pd1<|some (Sum.inr x5):=by kernel_rfl
def st73_6_eq:=by have h:= @st73_6_e;simp only[ge_id,gd,qeqD_self,qeqI_self,qeqB_self,qand_tt,qeq_len,qeq_l,cond_true]at h;exact h
def l73_6:List D→List D→Option (List D):=veil fun p s=>loW (st73_6 p) s
theorem l73_6_eq:l73_6=fun p s=>loW (st73_6 p) s:=veil_eq _
def tbl73_6:Tb:=Tb.addL tbl73_10 73 6 S73_6.n0 (mkLp S73_6 (l73_6))
theorem ok_tbl73_6:TbOk env (tbl73_6):=addLoopQ ok_tbl73_10 73 6 (by kernel_rfl) _ (l73_6_eq)
def S73:FunS:=⟨[⟨true,(.dat 25)⟩,⟨true,(.int .i64)⟩,⟨true,(.int .i64)⟩],[],[⟨true,(.rows 3)⟩],[]⟩
def F73:List D→Option (List D):=liftX env tbl73_6 60 12 73 S73
theorem F73_e (sd0:D) (sn1:Int) (sn2:Int):F73 [sd0,(D.int sn1),(D.int sn2)] =
 let x0:=D.list [.int sn1]
 let x1:=l73_6 [.int sn2,sd0] [.int 0,x0]
 bif qiteB (qiteB (qcmp .eql sn1 sn2) true (qcmp .lss sn1 0)) true (qcmp .geq sn1 (qlen (qfld sd0 1)))then some [.list []]else gd (qcmp .eql 1 (qlen x0))<|gd (qsome x1)<|gd (qcmp .eql (qlen (qnth x1 1)) (qlen (qnth x1 1)))<|some [qnth x1 1]:=by kernel_rfl
def F73_eq:=by have h:= @F73_e;simp only[ge_id,gd,qeqD_self,qeqI_self,qeqB_self,qand_tt,qeq_len,qeq_l,cond_true]at h;exact h
def q73:List D→Option (List D):=veil (F73)
theorem q73_eq:q73=F73:=veil_eq _
def tb73:Tb:=Tb.addF tbl73_6 73 S73 (q73)
theorem ok_tb73:TbOk env (tb73):=addFunF ok_tbl73_6 73 (by kernel_rfl) _ (q73_eq)
def S36_4:LoopS:=⟨0,[uF,⟨false,(.ptr 0 0)⟩,⟨false,(.lit (.slice none 0 0))⟩,⟨false,(.rows 3)⟩,⟨false,(.osl 1 4)⟩,⟨true,(.int .i64)⟩,uF,uF,uF,uF,uF,uF,uF,uF,uF,uF,uF,uF,uF,uF,uF,uF],[(.lst true 4),(.dat false 25)],[⟨0,0,[uT,uT,⟨true,(.lit (.slice none 0 0))⟩,⟨false,(.rows 3)⟩,⟨true,(.osl 1 4)⟩,uT,uT,uT,uT,uT,uT,uT,uT,uT,uT,uT,uT,uT,uT,uT,uT,uT],[(.lst true 4),(.dat false 25)]⟩]⟩
def st36_4 (p s:List D):Option (Sum (List D) (List D)):=stepQX env tb73 60 12 36 (loopC 36 4) S36_4 p s
theorem st36_4_e (pd0:D) (pd1:D) (sn0:Int) (sd1:D):st36_4 [pd0,pd1] [(D.int sn0),sd1] =
 let x0:=q74 [pd0,.int sn0]
 let x1:=qcmp .eql (qlen sd1) (qlen sd1)
 let x2:=qapp sd1 (.list [.bool (qbool (qnth x0 0))])
 let x3:=qlen x2
 bif qcmp .lss sn0 (qlen (qfld pd1 1))then gd (qsome x0)<|gd x1<|gd (qmem x3 1)<|gd (qcmp .eql x3 x3)<|ge pd0<|ge pd1<|some (Sum.inl [.int (qbin .add .i64 sn0 1),x2])else gd x1<|ge pd0<|ge pd1<|some (Sum.inr [.int 0,sd1]):=by kernel_rfl
def st36_4_eq:=by have h:= @st36_4_e;simp only[ge_id,gd,qeqD_self,qeqI_self,qeqB_self,qand_tt,qeq_len,qeq_l,cond_true]at h;exact h
def l36_4:List D→List D→Option (List D):=veil fun p s=>loW (st36_4 p) s
theorem l36_4_eq:l36_4=fun p s=>loW (st36_4 p) s:=veil_eq _
def tbl36_4:Tb:=Tb.addL tb73 36 4 S36_4.n0 (mkLp S36_4 (l36_4))
theorem ok_tbl36_4:TbOk env (tbl36_4):=addLoopQ ok_tb73 36 4 (by kernel_rfl) _ (l36_4_eq)
def S36:FunS:=⟨[⟨true,(.dat 25)⟩],[],[⟨true,(.rows 4)⟩],[]⟩
def F36:List D→Option (List D):=liftX env tbl36_4 60 12 36 S36
theorem F36_e (sd0:D):F36 [sd0] =
 let x0:=q73 [sd0,.int 0,.int (-1)]
 let x1:=l36_4 [qnth x0 0,sd0] [.int 0,.list []]
 gd (qsome x0)<|gd (qcmp .eql 0 (qlen (.list [])))<|gd (qsome x1)<|gd (qcmp .eql (qlen (qnth x1 1)) (qlen (qnth x1 1)))<|some [qnth x1 1]:=by kernel_rfl
def F36_eq:=by have h:= @F36_e;simp only[ge_id,gd,qeqD_self,qeqI_self,qeqB_self,qand_tt,qeq_len,qeq_l,cond_true]at h;exact h
def q36:List D→Option (List D):=veil (F36)
theorem q36_eq:q36=F36:=veil_eq _
def tb36:Tb:=Tb.addF tbl36_4 36 S36 (q36)
theorem ok_tb36:TbOk env (tb36):=addFunF ok_tbl36_4 36 (by kernel_rfl) _ (q36_eq)
end
end Go.Proofs.YtfdedgmlafelaaaGreatDoor
open Go Go.AM
namespace Go.Proofs.YtfdedgmlafelaaaGreatDoor
noncomputable section
set_option maxRecDepth 100000
set_option linter.unusedSimpArgs false
set_option linter.unusedVariables false
set_option linter.defProp false
def S76:FunS:=⟨[⟨true,(.ptr 0 0)⟩,⟨true,(.dat 61)⟩,⟨true,(.int .i64)⟩],[(.lst true 86),(.cells [⟨false,(.osl 1 86)⟩,⟨true, .bool⟩])],[⟨true,(.tup [])⟩],[(.lst true 86), .skip,(.cells [⟨true,(.osl 2 86)⟩,⟨true, .bool⟩])]⟩
def tbR76 (Q:List D→Option (List D)):Tb:=Tb.addF tb36 76 S76 Q
theorem ok_tbR76 (Q:List D→Option (List D)) (hQ:SoundF env.P 76 S76 Q):TbOk env (tbR76 Q):=TbOk.addF ok_tb36 (by kernel_rfl) hQ
def S76_8:LoopS:=⟨2,[⟨false,(.ptr 0 0)⟩,uF,⟨false,(.int .i64)⟩,uF,⟨false,(.ptr 3 0)⟩,uF,uF,uF,⟨true,(.int .i64)⟩,uF,uF,uF,uF,uF,uF,uF,uF,uF,uF,uF,uF,uF,uF,uF,uF,uF,uF,uF,uF,uF,uF,uF,uF,uF,uF,uF,uF,uF,uF,uF,uF,uF,uF,uF,uF,uF,uF,uF,uF,uF,uF,uF,uF,uF,uF,uF],[(.dat false 61),(.lst true 86), .skip,(.cells [⟨false,(.osl 2 86)⟩,⟨true, .bool⟩])],[⟨0,0,[uT,uT,⟨false,(.int .i64)⟩,uT,uT,uT,uT,uT,uT,uT,uT,uT,uT,uT,uT,uT,uT,uT,uT,uT,uT,uT,uT,uT,uT,uT,uT,uT,uT,uT,uT,uT,uT,uT,uT,uT,uT,uT,uT,uT,uT,uT,uT,uT,uT,uT,uT,uT,uT,uT,uT,uT,uT,uT,uT,uT],[(.dat false 61),(.lst true 86), .skip,(.cells [⟨true,(.osl 2 86)⟩,⟨true, .bool⟩])]⟩]⟩
def st76_8 (Q:List D→Option (List D)) (p s:List D):Option (Sum (List D) (List D)):=stepQX env (tbR76 Q) 60 12 76 (loopC 76 8) S76_8 p s
theorem st76_8_e (Q:List D→Option (List D)) (pn0:Int) (pd1:D) (sn0:Int) (sd1:D) (sb2:Bool):st76_8 Q [(D.int pn0),pd1] [(D.int sn0),sd1,(D.bool sb2)] =
 let x0:=qfld pd1 4
 let x1:=qcmp .eql (qlen sd1) (qlen sd1)
 let x2:=D.int pn0
 let x3:=Q [qget x0 sn0,x2,sd1,.bool sb2]
 bif qcmp .lss sn0 (qlen x0)then gd (qinb x0 sn0)<|gd x1<|gd (qsome x3)<|gd (qcmp .eql (qlen (qnth x3 0)) (qlen (qnth x3 0)))<|ge x2<|ge pd1<|some (Sum.inl [.int (qbin .add .i64 sn0 1),qnth x3 0,.bool (qbool (qnth x3 1))])else gd x1<|ge x2<|ge pd1<|some (Sum.inr [.int 0,sd1,.bool sb2]):=by kernel_rfl
def st76_8_eq:=by have h:= @st76_8_e;simp only[ge_id,gd,qeqD_self,qeqI_self,qeqB_self,qand_tt,qeq_len,qeq_l,cond_true]at h;exact h
def l76_8 (Q:List D→Option (List D)):List D→List D→Option (List D):=veil fun p s=>loW (st76_8 Q p) s
theorem l76_8_eq (Q:List D→Option (List D)):l76_8 Q=fun p s=>loW (st76_8 Q p) s:=veil_eq _
def tbl76_8 (Q:List D→Option (List D)):Tb:=Tb.addL (tbR76 Q) 76 8 S76_8.n0 (mkLp S76_8 (l76_8 Q))
theorem ok_tbl76_8 (Q:List D→Option (List D)) (hQ:SoundF env.P 76 S76 Q):TbOk env (tbl76_8 Q):=addLoopQ (ok_tbR76 Q hQ) 76 8 (by kernel_rfl) _ (l76_8_eq Q)
def Fb76 (Q:List D→Option (List D)):List D→Option (List D):=liftX env (tbl76_8 Q) 60 12 76 S76
theorem Fb76_e (Q:List D→Option (List D)) (sd0:D) (sn1:Int) (sd2:D) (sb3:Bool):Fb76 Q [sd0,(D.int sn1),sd2,(D.bool sb3)] =
 let x0:=q21 [qget (qfld sd0 4) 0]
 let x1:=q75 [.int sn1,.int (qint (qnth x0 0))]
 let x2:=qcmp .eql (qlen sd2) (qlen sd2)
 let x3:=qapp sd2 (.list [.agg [.int (qint (qnth x1 0)),.int (qint (qfld sd0 3)),.bool false]])
 let x4:=qlen x3
 let x5:=q52 [sd0]
 let x6:=l76_8 Q [.int sn1,sd0] [.int 0,sd2,.bool true]
 let x7:=l76_8 Q [.int sn1,sd0] [.int 0,sd2,.bool sb3]
 let x8:Option (List D):=gd (qsome x5)<|bif qbool (qnth x5 0)then gd x2<|gd (qsome x6)<|gd (qcmp .eql (qlen (qnth x6 1)) (qlen (qnth x6 1)))<|some [qnth x6 1,.bool (qbool (qnth x6 2))]else gd x2<|gd (qsome x7)<|gd (qcmp .eql (qlen (qnth x7 1)) (qlen (qnth x7 1)))<|some [qnth x7 1,.bool (qbool (qnth x7 2))]
 bif qcmp .eql (qint (qfld sd0 0)) 18 then gd (qinb (qfld sd0 4) 0)<|gd (qsome x0)<|bif qbool (qnth x0 1)then gd (qsome x1)<|gd x2<|gd (qmem x4 24)<|gd (qcmp .eql x4 x4)<|some [x3,.bool sb3]else x8 else x8:=by kernel_rfl
def Fb76_eq:=by have h:= @Fb76_e;simp only[ge_id,gd,qeqD_self,qeqI_self,qeqB_self,qand_tt,qeq_len,qeq_l,cond_true]at h;exact h
def F76:Nat→List D→Option (List D):=levels Fb76
theorem F76_s (n:Nat):F76 (n+1)=Fb76 (F76 n):=rfl
def q76:List D→Option (List D):=veil fun ds=>F76 (fuelL ds) ds
theorem q76_eq:q76=fun ds=>F76 (fuelL ds) ds:=veil_eq _
theorem sound76:SoundF env.P 76 S76 q76:=recF (fun q=>tbl76_8 q) (fun q hq=>ok_tbl76_8 q hq) q76_eq
def tb76:Tb:=Tb.addF tb36 76 S76 q76
theorem ok_tb76:TbOk env tb76:=TbOk.addF ok_tb36 (by kernel_rfl) sound76
def S37_3:LoopS:=⟨2,[⟨false,(.ptr 0 0)⟩,uF,⟨false,(.int .i64)⟩,uF,⟨false,(.ptr 3 0)⟩,uF,⟨true,(.int .i64)⟩,uF,uF,uF,uF,uF,uF,uF,uF,uF,uF,uF,uF,uF,uF,uF,uF,uF,uF,uF,uF,uF,uF,uF,uF,uF,uF,uF,uF,uF,uF,uF,uF,uF,uF,uF,uF,uF,uF,uF,uF,uF,uF,uF,uF,uF,uF,uF,uF,uF,uF,uF,uF,uF,uF,uF,uF],[(.dat false 57),(.lst true 86), .skip,(.cells [⟨false,(.osl 2 86)⟩,⟨true, .bool⟩])],[⟨0,0,[uT,uT,⟨false,(.int .i64)⟩,uT,uT,uT,uT,uT,uT,uT,uT,uT,uT,uT,uT,uT,uT,uT,uT,uT,uT,uT,uT,uT,uT,uT,uT,uT,uT,uT,uT,uT,uT,uT,uT,uT,uT,uT,uT,uT,uT,uT,uT,uT,uT,uT,uT,uT,uT,uT,uT,uT,uT,uT,uT,uT,uT,uT,uT,uT,uT,uT,uT],[(.dat false 57),(.lst true 86), .skip,(.cells [⟨true,(.osl 2 86)⟩,⟨true, .bool⟩])]⟩]⟩
def st37_3 (p s:List D):Option (Sum (List D) (List D)):=stepQX env tb76 60 12 37 (loopC 37 3) S37_3 p s
theorem st37_3_e (pn0:Int) (pd1:D) (sn0:Int) (sd1:D) (sb2:Bool):st37_3 [(D.int pn0),pd1] [(D.int sn0),sd1,(D.bool sb2)] =
 let x0:=qfld pd1 6
 let x1:=q21 [qget x0 0]
 let x2:=D.int pn0
 let x3:=q75 [x2,.int (qint (qnth x1 0))]
 let x4:=qcmp .eql (qlen sd1) (qlen sd1)
 let x5:=qapp sd1 (.list [.agg [.int (qint (qnth x3 0)),.int (qint (qfld pd1 2)),.bool true]])
 let x6:=qlen x5
 let x7:=D.int (qbin .add .i64 sn0 1)
 let x8:=D.bool sb2
 let x9:=q76 [qget x0 sn0,x2,sd1,x8]
 let x10:Option (List D ⊕ List D):=gd (qinb x0 sn0)<|gd x4<|gd (qsome x9)<|gd (qcmp .eql (qlen (qnth x9 0)) (qlen (qnth x9 0)))<|ge x2<|ge pd1<|some (Sum.inl [x7,qnth x9 0,.bool (qbool (qnth x9 1))])
 bif qcmp .lss sn0 (qlen x0)then bif qiteB (qcmp .eql (qint (qfld pd1 0)) 2) (qcmp .eql sn0 0) false then gd (qinb x0 0)<|gd (qsome x1)<|bif qbool (qnth x1 1)then gd (qsome x3)<|gd x4<|gd (qmem x6 24)<|gd (qcmp .eql x6 x6)<|ge x2<|ge pd1<|some (Sum.inl [x7,x5,x8])else x10 else x10 else gd x4<|ge x2<|ge pd1<|some (Sum.inr [.int 0,sd1,x8]):=by kernel_rfl
def st37_3_eq:=by have h:= @st37_3_e;simp only[ge_id,gd,qeqD_self,qeqI_self,qeqB_self,qand_tt,qeq_len,qeq_l,cond_true]at h;exact h
def l37_3:List D→List D→Option (List D):=veil fun p s=>loW (st37_3 p) s
theorem l37_3_eq:l37_3=fun p s=>loW (st37_3 p) s:=veil_eq _
def tbl37_3:Tb:=Tb.addL tb76 37 3 S37_3.n0 (mkLp S37_3 (l37_3))
theorem ok_tbl37_3:TbOk env (tbl37_3):=addLoopQ ok_tb76 37 3 (by kernel_rfl) _ (l37_3_eq)
def S37:FunS:=⟨[⟨true,(.ptr 0 0)⟩,⟨true,(.dat 57)⟩,⟨true,(.int .i64)⟩],[(.lst true 86),(.cells [⟨false,(.osl 1 86)⟩,⟨true, .bool⟩])],[⟨true,(.tup [])⟩],[(.lst true 86), .skip,(.cells [⟨true,(.osl 2 86)⟩,⟨true, .bool⟩])]⟩
def F37:List D→Option (List D):=liftX env tbl37_3 60 12 37 S37
theorem F37_e (sd0:D) (sn1:Int) (sd2:D) (sb3:Bool):F37 [sd0,(D.int sn1),sd2,(D.bool sb3)] =
 let x0:=qcmp .eql (qlen sd2) (qlen sd2)
 let x1:=l37_3 [.int sn1,sd0] [.int 0,sd2,.bool sb3]
 bif qiteB (qcmp .eql (qint (qfld sd0 0)) 1) (qcmp .eql (qint (qfld sd0 1)) 7) false then gd x0<|some [sd2,.bool sb3]else gd x0<|gd (qsome x1)<|gd (qcmp .eql (qlen (qnth x1 1)) (qlen (qnth x1 1)))<|some [qnth x1 1,.bool (qbool (qnth x1 2))]:=by kernel_rfl
def F37_eq:=by have h:= @F37_e;simp only[ge_id,gd,qeqD_self,qeqI_self,qeqB_self,qand_tt,qeq_len,qeq_l,cond_true]at h;exact h
def q37:List D→Option (List D):=veil (F37)
theorem q37_eq:q37=F37:=veil_eq _
def tb37:Tb:=Tb.addF tbl37_3 37 S37 (q37)
theorem ok_tb37:TbOk env (tb37):=addFunF ok_tbl37_3 37 (by kernel_rfl) _ (q37_eq)
end
end Go.Proofs.YtfdedgmlafelaaaGreatDoor
open Go Go.AM
namespace Go.Proofs.YtfdedgmlafelaaaGreatDoor
noncomputable section
set_option maxRecDepth 100000
set_option linter.unusedSimpArgs false
set_option linter.unusedVariables false
set_option linter.defProp false
def S39_o_2:LoopS:=⟨1,[⟨false,(.osl 0 88)⟩,uF,uF,⟨false,(.ptr 1 0)⟩,⟨false,(.lit (.slice none 0 0))⟩,⟨true,(.int .i64)⟩,uF,uF,uF,uF,uF,uF,uF,uF,uF,uF,uF,uF,uF,uF,uF,uF,uF,uF,uF,uF,uF,uF,uF,uF,uF,uF,uF,uF,uF,uF,uF,uF,uF,uF,uF,uF,uF,uF,uF,uF,uF,uF,uF,uF,uF,uF,uF,uF,uF,uF,uF,uF,uF,uF,uF,uF,uF,uF,uF,uF,uF,uF,uF,uF,uF,uF,uF,uF,uF,uF,uF,uF,uF,uF,uF,uF,uF,uF,uF,uF,uF,uF,uF,uF,uF,uF,uF,uF,uF,uF,uF,uF,uF,uF,uF,uF,uF,uF,uF],[(.dat false 86),(.lst false 88)],[⟨0,0,[⟨true,(.osl 0 88)⟩,uT,uT,⟨true,(.ptr 1 0)⟩,⟨true,(.lit (.slice none 0 0))⟩,⟨true,(.int .i64)⟩,uT,uT,uT,uT,uT,uT,uT,uT,uT,uT,uT,uT,uT,uT,uT,uT,uT,uT,uT,uT,uT,uT,uT,uT,uT,uT,uT,uT,uT,uT,uT,uT,uT,uT,uT,uT,uT,uT,uT,uT,uT,uT,uT,uT,uT,uT,uT,uT,uT,uT,uT,uT,uT,uT,uT,uT,uT,uT,uT,uT,uT,uT,uT,uT,uT,uT,uT,uT,uT,uT,uT,uT,uT,uT,uT,uT,uT,uT,uT,uT,uT,uT,uT,uT,uT,uT,uT,uT,uT,uT,uT,uT,uT,uT,uT,uT,uT,uT,uT],[(.dat false 86),(.lst false 88)]⟩]⟩
def st39_o_2 (p s:List D):Option (Sum (List D) (List D)):=stepQX env tb37 60 12 39 (loopC 39 2) S39_o_2 p s
theorem st39_o_2_e (pd0:D) (pd1:D) (sn0:Int):st39_o_2 [pd0,pd1] [(D.int sn0)] =
 let x0:=qlen pd1
 let x1:=qcmp .lss sn0 x0
 let x2:=qcmp .leq 0 sn0
 let x3:=qinb pd1 sn0
 let x4:=qget pd1 sn0
 let x5:=qint (qfld x4 0)
 let x6:=qint (qfld pd0 0)
 let x7:=qcmp .eql x0 x0
 let x8:Option (List D ⊕ List D):=gd x7<|ge pd0<|ge pd1<|some (Sum.inl [.int (qbin .add .i64 sn0 1)])
 let x9:Option (List D ⊕ List D):=gd x7<|ge pd0<|ge pd1<|some (Sum.inr [.int 0,.int sn0])
 bif x1 then gd x2<|gd x1<|gd x3<|bif qcmp .lss x5 x6 then x8 else gd x2<|gd x1<|gd x3<|bif qcmp .eql x5 x6 then gd x2<|gd x1<|gd x3<|bif qcmp .lss (qint (qfld x4 1)) (qint (qfld pd0 1))then x8 else x9 else x9 else x9:=by kernel_rfl
def st39_o_2_eq:=by have h:= @st39_o_2_e;simp only[ge_id,gd,qeqD_self,qeqI_self,qeqB_self,qand_tt,qeq_len,qeq_l,cond_true]at h;exact h
def l39_o_2:List D→List D→Option (List D):=veil fun p s=>loW (st39_o_2 p) s
theorem l39_o_2_eq:l39_o_2=fun p s=>loW (st39_o_2 p) s:=veil_eq _
def tbl39_o_2:Tb:=Tb.addL tb37 39 2 S39_o_2.n0 (mkLp S39_o_2 (l39_o_2))
theorem ok_tbl39_o_2:TbOk env (tbl39_o_2):=addLoopQ ok_tb37 39 2 (by kernel_rfl) _ (l39_o_2_eq)
def S39_o:FunS:=⟨[⟨true,(.osl 0 88)⟩,⟨true,(.dat 86)⟩],[(.lst true 88)],[⟨true,(.osl 1 88)⟩],[(.lst true 88), .skip]⟩
def F39_o:List D→Option (List D):=liftX env tbl39_o_2 60 12 39 S39_o
theorem F39_o_e (sd0:D) (sd1:D):F39_o [sd0,sd1] =
 let x0:=qlen sd1
 let x1:=qcmp .eql x0 x0
 let x2:=D.int 0
 let x3:=l39_o_2 [sd0,sd1] [x2]
 let x4:=qint (qnth x3 1)
 let x5:=qcmp .eql x4 x0
 let x6:=qcmp .leq 0 x4
 let x7:=qint (qfld sd0 0)
 let x8:=qint (qfld sd0 1)
 let x9:Option (List D):=gd x6<|gd (qcmp .leq x4 x0)<|gd x5<|gd (qmem x0 40)<|gd x1<|gd (qmem (qlen (qapp sd1 (.list [.agg [.int x7,.int x8,x2,x2,.bool false]]))) 40) none
 let x10:=qcmp .lss x4 x0
 let x11:=qinb sd1 x4
 let x12:=qget sd1 x4
 let x13:=qint (qfld x12 0)
 let x14:=qint (qfld x12 1)
 let x15:=qint (qfld x12 2)
 let x16:=qint (qfld x12 3)
 let x17:=D.bool (qbool (qfld x12 4))
 let x18:=qset sd1 x4 (.agg [.int x13,.int x14,.int x15,.int (qbin .add .i64 x16 1),x17])
 let x19:=qset sd1 x4 (.agg [.int x13,.int x14,.int (qbin .add .i64 x15 1),.int x16,x17])
 gd x1<|gd (qsome x3)<|bif x5 then x9 else gd x6<|gd x10<|gd x11<|bif qcmp .neq x13 x7 then x9 else gd x6<|gd x10<|gd x11<|bif qcmp .neq x14 x8 then x9 else bif qbool (qfld sd0 2)then gd x6<|gd x10<|gd x11<|gd x6<|gd x10<|gd x11<|gd (qcmp .eql x0 (qlen x18))<|some [x18]else gd x6<|gd x10<|gd x11<|gd x6<|gd x10<|gd x11<|gd (qcmp .eql x0 (qlen x19))<|some [x19]:=by kernel_rfl
def F39_o_eq:=by have h:= @F39_o_e;simp only[ge_id,gd,qeqD_self,qeqI_self,qeqB_self,qand_tt,qeq_len,qeq_l,cond_true]at h;exact h
def q39_o:List D→Option (List D):=veil (F39_o)
theorem q39_o_eq:q39_o=F39_o:=veil_eq _
def tb39_o:Tb:=Tb.addF tbl39_o_2 39 S39_o (q39_o)
theorem ok_tb39_o:TbOk env (tb39_o):=addFunF ok_tbl39_o_2 39 (by kernel_rfl) _ (q39_o_eq)
def S39_r_2:LoopS:=⟨1,[⟨false,(.rows 88)⟩,uF,uF,⟨false,(.ptr 1 0)⟩,⟨false,(.lit (.slice none 0 0))⟩,⟨true,(.int .i64)⟩,uF,uF,uF,uF,uF,uF,uF,uF,uF,uF,uF,uF,uF,uF,uF,uF,uF,uF,uF,uF,uF,uF,uF,uF,uF,uF,uF,uF,uF,uF,uF,uF,uF,uF,uF,uF,uF,uF,uF,uF,uF,uF,uF,uF,uF,uF,uF,uF,uF,uF,uF,uF,uF,uF,uF,uF,uF,uF,uF,uF,uF,uF,uF,uF,uF,uF,uF,uF,uF,uF,uF,uF,uF,uF,uF,uF,uF,uF,uF,uF,uF,uF,uF,uF,uF,uF,uF,uF,uF,uF,uF,uF,uF,uF,uF,uF,uF,uF,uF],[(.dat false 86), .skip],[⟨0,0,[⟨false,(.rows 88)⟩,uT,uT,⟨true,(.ptr 1 0)⟩,⟨true,(.lit (.slice none 0 0))⟩,⟨true,(.int .i64)⟩,uT,uT,uT,uT,uT,uT,uT,uT,uT,uT,uT,uT,uT,uT,uT,uT,uT,uT,uT,uT,uT,uT,uT,uT,uT,uT,uT,uT,uT,uT,uT,uT,uT,uT,uT,uT,uT,uT,uT,uT,uT,uT,uT,uT,uT,uT,uT,uT,uT,uT,uT,uT,uT,uT,uT,uT,uT,uT,uT,uT,uT,uT,uT,uT,uT,uT,uT,uT,uT,uT,uT,uT,uT,uT,uT,uT,uT,uT,uT,uT,uT,uT,uT,uT,uT,uT,uT,uT,uT,uT,uT,uT,uT,uT,uT,uT,uT,uT,uT],[(.dat false 86), .skip]⟩]⟩
def st39_r_2 (p s:List D):Option (Sum (List D) (List D)):=stepQX env tb39_o 60 12 39 (loopC 39 2) S39_r_2 p s
theorem st39_r_2_e (pd0:D) (pd1:D) (sn0:Int):st39_r_2 [pd0,pd1] [(D.int sn0)] =
 let x0:=qinb pd0 sn0
 let x1:=qget pd0 sn0
 let x2:=qint (qfld x1 0)
 let x3:=qint (qfld pd1 0)
 let x4:Option (List D ⊕ List D):=ge pd0<|ge pd1<|some (Sum.inl [.int (qbin .add .i64 sn0 1)])
 let x5:Option (List D ⊕ List D):=ge pd0<|ge pd1<|some (Sum.inr [.int 0,.int sn0])
 bif qcmp .lss sn0 (qlen pd0)then gd x0<|bif qcmp .lss x2 x3 then x4 else gd x0<|bif qcmp .eql x2 x3 then gd x0<|bif qcmp .lss (qint (qfld x1 1)) (qint (qfld pd1 1))then x4 else x5 else x5 else x5:=by kernel_rfl
def st39_r_2_eq:=by have h:= @st39_r_2_e;simp only[ge_id,gd,qeqD_self,qeqI_self,qeqB_self,qand_tt,qeq_len,qeq_l,cond_true]at h;exact h
def l39_r_2:List D→List D→Option (List D):=veil fun p s=>loW (st39_r_2 p) s
theorem l39_r_2_eq:l39_r_2=fun p s=>loW (st39_r_2 p) s:=veil_eq _
def tbl39_r_2:Tb:=Tb.addL tb39_o 39 2 S39_r_2.n0 (mkLp S39_r_2 (l39_r_2))
theorem ok_tbl39_r_2:TbOk env (tbl39_r_2):=addLoopQ ok_tb39_o 39 2 (by kernel_rfl) _ (l39_r_2_eq)
def S39_r:FunS:=⟨[⟨true,(.rows 88)⟩,⟨true,(.dat 86)⟩],[.skip],[⟨true,(.osl 1 88)⟩],[(.lst true 88), .skip]⟩
def F39_r:List D→Option (List D):=liftX env tbl39_r_2 60 12 39 S39_r
theorem F39_r_e (sd0:D) (sd1:D):F39_r [sd0,sd1] =
 let x0:=D.int 0
 let x1:=l39_r_2 [sd0,sd1] [x0]
 let x2:=qint (qnth x1 1)
 let x3:=qlen sd0
 let x4:=qcmp .leq 0 x2
 let x5:=qcmp .leq x2 x3
 let x6:=qsub sd0 0 x2
 let x7:=qlen x6
 let x8:=qint (qfld sd1 0)
 let x9:=qint (qfld sd1 1)
 let x10:=qapp x6 (.list [.agg [.int x8,.int x9,x0,x0,.bool false]])
 let x11:=qlen x10
 let x12:=qapp x10 (qsub sd0 x2 x3)
 let x13:=qlen x12
 let x14:=qbool (qfld sd1 2)
 let x15:=qcmp .lss x2 x13
 let x16:=qinb x12 x2
 let x17:=qget x12 x2
 let x18:=D.int (qint (qfld x17 0))
 let x19:=D.int (qint (qfld x17 1))
 let x20:=qint (qfld x17 2)
 let x21:=qint (qfld x17 3)
 let x22:=D.bool (qbool (qfld x17 4))
 let x23:=qset x12 x2 (.agg [x18,x19,.int x20,.int (qbin .add .i64 x21 1),x22])
 let x24:=qset x12 x2 (.agg [x18,x19,.int (qbin .add .i64 x20 1),.int x21,x22])
 let x25:Option (List D):=gd (qcmp .leq 0 0)<|gd x4<|gd x5<|gd (qmem x7 40)<|gd (qcmp .eql x7 x7)<|gd (qmem x11 40)<|gd x4<|gd x5<|gd (qcmp .leq x3 x3)<|gd (qcmp .eql x11 x11)<|gd (qmem x13 40)<|bif x14 then gd x4<|gd x15<|gd x16<|gd x4<|gd x15<|gd x16<|gd (qcmp .eql x13 (qlen x23))<|some [x23]else gd x4<|gd x15<|gd x16<|gd x4<|gd x15<|gd x16<|gd (qcmp .eql x13 (qlen x24))<|some [x24]
 let x26:=qinb sd0 x2
 let x27:=qget sd0 x2
 let x28:Option (List D):=gd x26<|gd x26 none
 gd (qsome x1)<|bif qcmp .eql x2 x3 then x25 else gd x26<|bif qcmp .neq (qint (qfld x27 0)) x8 then x25 else gd x26<|bif qcmp .neq (qint (qfld x27 1)) x9 then x25 else bif x14 then x28 else x28:=by kernel_rfl
def F39_r_eq:=by have h:= @F39_r_e;simp only[ge_id,gd,qeqD_self,qeqI_self,qeqB_self,qand_tt,qeq_len,qeq_l,cond_true]at h;exact h
end
end Go.Proofs.YtfdedgmlafelaaaGreatDoor
namespace Go.Proofs.YtfdedgmlafelaaaGreatDoor
set_option maxRecDepth 100000
open Go Go.AM
def S39:FunS:=⟨[⟨true,(.osl 0 88)⟩,⟨true,(.dat 86)⟩],[(.lst true 88)],[⟨true,(.osl 1 88)⟩],[(.lst true 88), .skip]⟩
noncomputable def F39 (ds:List D):Option (List D):=match F39_o ds with
 |some r=>some r
 |none=>F39_r [ds.getD 1 .other,ds.getD 0 .other]
noncomputable def q39:List D→Option (List D):=veil F39
theorem q39_eq:q39=F39:=veil_eq _
theorem sound39:SoundF env.P 39 S39 q39:=by
 intro p s r hp hq
 obtain rfl:p = []:=List.length_eq_zero_iff.1 hp
 rw[q39_eq]at hq
 unfold F39 at hq
 rw[List.nil_append]at hq
 cases ho:F39_o s with
 |some r'=>
  rw[ho]at hq
  cases hq
  exact liftX_sound envOk ok_tbl39_o_2 60 12 (f:=39) (S:=S39_o) [] s r rfl ho
 |none=>
  rw[ho]at hq
  have ha:argF S39 [] s = [.osl 0 88 (qlen (s.getD 1 .other)), .dat 86 (s.getD 0 .other)]:=by
   cases s with
   |nil=>rfl
   |cons x t=>cases t<;>rfl
  have hh:heapF S39 [] s=⟨1,[some (.lst 88 (s.getD 1 .other))],true⟩:=by
   cases s with
   |nil=>rfl
   |cons x t=>cases t<;>rfl
  rw[ha,hh]
  generalize s.getD 1 .other=d at *
  generalize s.getD 0 .other=x at *
  have snd:=liftX_sound envOk ok_tbl39_r_2 60 12 (f:=39) (S:=S39_r) [] [d,x] r rfl hq
  intro lo w0 ρ E w vs inv ra
  obtain⟨inv1,hnew⟩:=inv.freeze [0]
  have hk:kill [0] (⟨1,[some (.lst 88 d)],true⟩:Hp)=heapF S39_r [] [d,x]:=rfl
  rw[hk]at inv1
  have ra1:RepL ρ (Efz ρ E ⟨1,[some (.lst 88 d)],true⟩ [0]) w (argF S39_r [] [d,x]) vs.toList:=by
   show RepL ρ (Efz ρ E ⟨1,[some (.lst 88 d)],true⟩ [0]) w [.rows 88 d, .dat 86 x] vs.toList
   obtain⟨vl⟩:=vs
   simp only[RepL]at ra ⊢
   obtain⟨v,vs',rfl,h1,v2,vs2,rfl,h2,rfl⟩:=ra
   refine⟨v,_,rfl,?_,v2,_,rfl,h2.mono Efz.ext,rfl⟩
   have:=expo_rep inv expoDepth (.osl 0 88 (qlen d)) (.rows 88 d) v rfl (by
    show allB [qcmp .eql (qlen d) (qlen d)]=true
    rw[qeqI_self];rfl) h1 (E1:=Efz ρ E ⟨1,[some (.lst 88 d)],true⟩ [0]) Efz.tin (.inr fun b hb=> .inl hb)
   simp only[Rep]at this ⊢
   exact this
  refine(snd lo w0 ρ _ w vs inv1 ra1).mono ?_
  rintro e w' ⟨u,ρ',E',he,i2,rch,rep⟩
  exact⟨u,ρ',E',he,i2,Reach.trans ⟨Efz.ext,hnew⟩ rch,rep⟩
noncomputable def tb39:Tb:=Tb.addF tb37 39 S39 q39
theorem ok_tb39:TbOk env tb39:=TbOk.addF ok_tb37 (by kernel_rfl) sound39
end Go.Proofs.YtfdedgmlafelaaaGreatDoor
open Go Go.AM
namespace Go.Proofs.YtfdedgmlafelaaaGreatDoor
noncomputable section
set_option maxRecDepth 100000
set_option linter.unusedSimpArgs false
set_option linter.unusedVariables false
set_option linter.defProp false
def S11_16:LoopS:=⟨0,[uF,⟨false,(.ptr 0 0)⟩,⟨false,(.ptr 1 0)⟩,⟨false,(.lit (.int .i64 0))⟩,uF,⟨false,(.rows 3)⟩,uF,⟨false,(.rows 4)⟩,⟨false,(.ptr 2 0)⟩,⟨false,(.ptr 4 0)⟩,⟨false,(.int .i64)⟩,⟨true,(.int .i64)⟩,⟨true,(.int .i64)⟩,uF,uF,uF,uF,uF,uF,uF,uF,uF,uF,uF,uF,uF,uF,uF,uF,uF,uF,uF,uF,uF,uF,uF,uF,uF,uF,uF,uF,uF,uF,uF,uF,uF,uF,uF,uF,uF,uF,uF,uF,uF,uF,uF,uF,uF,uF,uF,uF,uF,uF,uF,uF,uF,uF,uF,uF,uF,uF,uF,uF,uF,uF,uF,uF,uF,uF,uF,uF,uF,uF,uF,uF,uF,uF,uF,uF,uF,uF,uF,uF,uF,uF,uF,uF,uF,uF,uF,uF,uF,uF,uF,uF,uF,uF,uF,uF,uF,uF,uF,uF,uF,uF,uF,uF,uF,uF,uF,uF,uF,uF,uF,uF,uF,uF,uF,uF,uF,uF,uF,uF,uF,uF,uF,uF,uF,uF,uF,uF,uF,uF,uF,uF,uF,uF,uF,uF,uF,uF,uF,uF,uF,uF,uF,uF,uF,uF,uF,uF,uF,uF,uF,uF,uF,uF,uF,uF,uF,uF,uF,uF,uF,uF,uF,uF,uF,uF,uF,uF,uF,uF,uF,uF,uF,uF,uF,uF,uF,uF,uF,uF,uF,uF,uF,uF,uF,uF,uF,uF,uF,uF,uF,uF,uF,uF,uF,uF,uF,uF,uF,uF,uF,uF,uF,uF],[(.cells [⟨true,(.int .i64)⟩,⟨false,(.lit (.slice none 0 0))⟩,⟨true, .bool⟩]),(.lst true 86),(.cells [⟨false,(.osl 3 86)⟩,⟨true, .bool⟩]),(.cells [⟨false,(.lit (.int .i64 0))⟩,⟨false,(.lit (.slice none 0 0))⟩,⟨false,(.lit (.bool false))⟩]),(.dat false 25)],[⟨0,2,[uT,⟨true,(.ptr 0 0)⟩,⟨true,(.ptr 1 0)⟩,⟨true,(.lit (.int .i64 0))⟩,uT,⟨false,(.rows 3)⟩,uT,⟨false,(.rows 4)⟩,⟨true,(.ptr 2 0)⟩,⟨true,(.ptr 4 0)⟩,⟨false,(.int .i64)⟩,uT,uT,uT,uT,uT,uT,uT,uT,uT,uT,uT,uT,uT,uT,uT,uT,uT,uT,uT,uT,uT,uT,uT,uT,uT,uT,uT,uT,uT,uT,uT,uT,uT,uT,uT,uT,uT,uT,uT,uT,uT,uT,uT,uT,uT,uT,uT,uT,uT,uT,uT,uT,uT,uT,uT,uT,uT,uT,uT,uT,uT,uT,uT,uT,uT,uT,uT,uT,uT,uT,uT,uT,uT,uT,uT,uT,uT,uT,uT,uT,uT,uT,uT,uT,uT,uT,uT,uT,uT,uT,uT,uT,uT,uT,uT,uT,uT,uT,uT,uT,uT,uT,uT,uT,uT,uT,uT,uT,uT,uT,uT,uT,uT,uT,uT,uT,uT,uT,uT,uT,uT,uT,uT,uT,uT,uT,uT,uT,uT,uT,uT,uT,uT,uT,uT,uT,uT,uT,uT,uT,uT,uT,uT,uT,uT,uT,uT,uT,uT,uT,uT,uT,uT,uT,uT,uT,uT,uT,uT,uT,uT,uT,uT,uT,uT,uT,uT,uT,uT,uT,uT,uT,uT,uT,uT,uT,uT,uT,uT,uT,uT,uT,uT,uT,uT,uT,uT,uT,uT,uT,uT,uT,uT,uT,uT,uT,uT,uT,uT,uT,uT,uT,uT,uT,uT,uT],[(.cells [⟨true,(.int .i64)⟩,⟨true,(.lit (.slice none 0 0))⟩,⟨true, .bool⟩]),(.lst true 86),(.cells [⟨true,(.osl 3 86)⟩,⟨true, .bool⟩]),(.cells [⟨true,(.lit (.int .i64 0))⟩,⟨true,(.lit (.slice none 0 0))⟩,⟨true,(.lit (.bool false))⟩]),(.dat false 25)]⟩]⟩
def st11_16 (p s:List D):Option (Sum (List D) (List D)):=stepQX env tb39 60 12 11 (loopC 11 16) S11_16 p s
theorem st11_16_e (pd0:D) (pd1:D) (pn2:Int) (pd3:D) (sn0:Int) (sn1:Int) (sn2:Int) (sb3:Bool) (sd4:D) (sb5:Bool):st11_16 [pd0,pd1,(D.int pn2),pd3] [(D.int sn0),(D.int sn1),(D.int sn2),(D.bool sb3),sd4,(D.bool sb5)] =
 let x0:=qinb (qfld pd3 1) pn2
 let x1:=qfld (qget (qfld pd3 1) pn2) 1
 let x2:=qun .neg .i64 sn0
 let x3:=qget x1 sn1
 let x4:=qiteB (qcmp .eql (qint (qfld x3 0)) 9) (qcmp .neq sn0 4) false
 let x5:=qcmp .eql (qlen sd4) (qlen sd4)
 let x6:=q37 [x3,.int sn0,sd4,.bool sb5]
 let x7:=qsome x6
 let x8:=q38 [x3,.int sn0]
 let x9:=qsome x8
 let x10:=qnth x6 0
 let x11:=qcmp .eql (qlen x10) (qlen x10)
 let x12:=D.int pn2
 let x13:=D.int (qint (qnth x8 0))
 let x14:=D.int (qbin .add .i64 sn1 1)
 let x15:=D.bool false
 let x16:=D.bool (qbool (qnth x6 1))
 let x17:=D.bool sb3
 let x18:=D.int sn2
 gd x0<|bif qcmp .lss sn1 (qlen x1)then gd x0<|gd (qinb x1 sn1)<|bif qcmp .gtr x2 sn2 then bif x4 then gd x5<|gd x7<|gd x9<|gd x11<|ge pd0<|ge pd1<|ge x12<|ge pd3<|some (Sum.inl [x13,x14,.int x2,x15,x10,x16])else gd x5<|gd x7<|gd x9<|gd x11<|ge pd0<|ge pd1<|ge x12<|ge pd3<|some (Sum.inl [x13,x14,.int x2,x17,x10,x16])else bif x4 then gd x5<|gd x7<|gd x9<|gd x11<|ge pd0<|ge pd1<|ge x12<|ge pd3<|some (Sum.inl [x13,x14,x18,x15,x10,x16])else gd x5<|gd x7<|gd x9<|gd x11<|ge pd0<|ge pd1<|ge x12<|ge pd3<|some (Sum.inl [x13,x14,x18,x17,x10,x16])else gd x5<|ge pd0<|ge pd1<|ge x12<|ge pd3<|some (Sum.inr [.int 0,x18,x17,sd4,.bool sb5]):=by kernel_rfl
def st11_16_eq:=by have h:= @st11_16_e;simp only[ge_id,gd,qeqD_self,qeqI_self,qeqB_self,qand_tt,qeq_len,qeq_l,cond_true]at h;exact h
def l11_16:List D→List D→Option (List D):=veil fun p s=>loW (st11_16 p) s
theorem l11_16_eq:l11_16=fun p s=>loW (st11_16 p) s:=veil_eq _
def tbl11_16:Tb:=Tb.addL tb39 11 16 S11_16.n0 (mkLp S11_16 (l11_16))
theorem ok_tbl11_16:TbOk env (tbl11_16):=addLoopQ ok_tb39 11 16 (by kernel_rfl) _ (l11_16_eq)
def S11_11:LoopS:=⟨0,[uF,⟨false,(.ptr 0 0)⟩,⟨false,(.ptr 1 0)⟩,⟨false,(.lit (.int .i64 0))⟩,uF,⟨false,(.rows 3)⟩,uF,⟨false,(.rows 4)⟩,⟨false,(.ptr 2 0)⟩,⟨false,(.ptr 4 0)⟩,⟨true,(.int .i64)⟩,uF,uF,uF,uF,uF,uF,uF,uF,uF,uF,uF,uF,uF,uF,uF,uF,uF,uF,uF,uF,uF,uF,uF,uF,uF,uF,uF,uF,uF,uF,uF,uF,uF,uF,uF,uF,uF,uF,uF,uF,uF,uF,uF,uF,uF,uF,uF,uF,uF,uF,uF,uF,uF,uF,uF,uF,uF,uF,uF,uF,uF,uF,uF,uF,uF,uF,uF,uF,uF,uF,uF,uF,uF,uF,uF,uF,uF,uF,uF,uF,uF,uF,uF,uF,uF,uF,uF,uF,uF,uF,uF,uF,uF,uF,uF,uF,uF,uF,uF,uF,uF,uF,uF,uF,uF,uF,uF,uF,uF,uF,uF,uF,uF,uF,uF,uF,uF,uF,uF,uF,uF,uF,uF,uF,uF,uF,uF,uF,uF,uF,uF,uF,uF,uF,uF,uF,uF,uF,uF,uF,uF,uF,uF,uF,uF,uF,uF,uF,uF,uF,uF,uF,uF,uF,uF,uF,uF,uF,uF,uF,uF,uF,uF,uF,uF,uF,uF,uF,uF,uF,uF,uF,uF,uF,uF,uF,uF,uF,uF,uF,uF,uF,uF,uF,uF,uF,uF,uF,uF,uF,uF,uF,uF,uF,uF,uF,uF,uF,uF,uF,uF,uF,uF,uF,uF,uF],[(.cells [⟨true,(.int .i64)⟩,⟨false,(.lit (.slice none 0 0))⟩,⟨true, .bool⟩]),(.lst true 86),(.cells [⟨false,(.osl 3 86)⟩,⟨true, .bool⟩]),(.cells [⟨false,(.lit (.int .i64 0))⟩,⟨false,(.lit (.slice none 0 0))⟩,⟨false,(.lit (.bool false))⟩]),(.dat false 25)],[⟨0,0,[uT,uT,⟨true,(.ptr 1 0)⟩,⟨true,(.lit (.int .i64 0))⟩,uT,⟨false,(.rows 3)⟩,uT,⟨false,(.rows 4)⟩,⟨true,(.ptr 2 0)⟩,⟨true,(.ptr 4 0)⟩,uT,uT,uT,uT,uT,uT,uT,uT,uT,uT,uT,uT,uT,uT,uT,uT,uT,uT,uT,uT,uT,uT,uT,uT,uT,uT,uT,uT,uT,uT,uT,uT,uT,uT,uT,uT,uT,uT,uT,uT,uT,uT,uT,uT,uT,uT,uT,uT,uT,uT,uT,uT,uT,uT,uT,uT,uT,uT,uT,uT,uT,uT,uT,uT,uT,uT,uT,uT,uT,uT,uT,uT,uT,uT,uT,uT,uT,uT,uT,uT,uT,uT,uT,uT,uT,uT,uT,uT,uT,uT,uT,uT,uT,uT,uT,uT,uT,uT,uT,uT,uT,uT,uT,uT,uT,uT,uT,uT,uT,uT,uT,uT,uT,uT,uT,uT,uT,uT,uT,uT,uT,uT,uT,uT,uT,uT,uT,uT,uT,uT,uT,uT,uT,uT,uT,uT,uT,uT,uT,uT,uT,uT,uT,uT,uT,uT,uT,uT,uT,uT,uT,uT,uT,uT,uT,uT,uT,uT,uT,uT,uT,uT,uT,uT,uT,uT,uT,uT,uT,uT,uT,uT,uT,uT,uT,uT,uT,uT,uT,uT,uT,uT,uT,uT,uT,uT,uT,uT,uT,uT,uT,uT,uT,uT,uT,uT,uT,uT,uT,uT,uT,uT,uT,uT,uT,uT,uT],[(.cells [⟨true,(.int .i64)⟩,⟨true,(.lit (.slice none 0 0))⟩,⟨true, .bool⟩]),(.lst true 86),(.cells [⟨true,(.osl 3 86)⟩,⟨true, .bool⟩]),(.cells [⟨true,(.lit (.int .i64 0))⟩,⟨true,(.lit (.slice none 0 0))⟩,⟨true,(.lit (.bool false))⟩]),(.dat false 25)]⟩]⟩
def st11_11 (p s:List D):Option (Sum (List D) (List D)):=stepQX env tbl11_16 60 12 11 (loopC 11 11) S11_11 p s
theorem st11_11_e (pd0:D) (pd1:D) (pd2:D) (sn0:Int) (sn1:Int) (sb2:Bool) (sd3:D) (sb4:Bool):st11_11 [pd0,pd1,pd2] [(D.int sn0),(D.int sn1),(D.bool sb2),sd3,(D.bool sb4)] =
 let x0:=qcmp .eql (qlen sd3) (qlen sd3)
 let x1:=D.int (qbin .add .i64 sn0 1)
 let x2:=D.int sn1
 let x3:=D.bool sb2
 let x4:=D.bool sb4
 let x5:=l11_16 [pd0,pd1,.int sn0,pd2] [.int (qint (qget pd0 sn0)),.int 0,x2,x3,sd3,x4]
 bif qcmp .lss sn0 (qlen (qfld pd2 1))then gd (qinb pd1 sn0)<|bif qnot (qbool (qget pd1 sn0))then gd x0<|ge pd0<|ge pd1<|ge pd2<|some (Sum.inl [x1,x2,x3,sd3,x4])else gd (qinb pd0 sn0)<|gd x0<|gd (qsome x5)<|gd (qcmp .eql (qlen (qnth x5 3)) (qlen (qnth x5 3)))<|ge pd0<|ge pd1<|ge pd2<|some (Sum.inl [x1,.int (qint (qnth x5 1)),.bool (qbool (qnth x5 2)),qnth x5 3,.bool (qbool (qnth x5 4))])else gd x0<|ge pd0<|ge pd1<|ge pd2<|some (Sum.inr [.int 0,x2,x3,sd3,x4]):=by kernel_rfl
def st11_11_eq:=by have h:= @st11_11_e;simp only[ge_id,gd,qeqD_self,qeqI_self,qeqB_self,qand_tt,qeq_len,qeq_l,cond_true]at h;exact h
def l11_11:List D→List D→Option (List D):=veil fun p s=>loW (st11_11 p) s
theorem l11_11_eq:l11_11=fun p s=>loW (st11_11 p) s:=veil_eq _
def tbl11_11:Tb:=Tb.addL tbl11_16 11 11 S11_11.n0 (mkLp S11_11 (l11_11))
theorem ok_tbl11_11:TbOk env (tbl11_11):=addLoopQ ok_tbl11_16 11 11 (by kernel_rfl) _ (l11_11_eq)
def S11_27:LoopS:=⟨0,[uF,uF,⟨false,(.ptr 0 0)⟩,⟨false,(.lit (.int .i64 0))⟩,uF,uF,uF,uF,⟨false,(.ptr 1 0)⟩,⟨false,(.ptr 3 0)⟩,uF,uF,uF,uF,uF,uF,⟨true,(.int .i64)⟩,uF,uF,uF,uF,uF,uF,uF,uF,uF,uF,uF,uF,uF,uF,uF,uF,uF,uF,uF,uF,uF,uF,uF,uF,uF,uF,uF,uF,uF,uF,uF,uF,uF,uF,uF,uF,uF,uF,uF,uF,uF,uF,uF,uF,uF,uF,uF,uF,uF,uF,uF,uF,uF,uF,uF,uF,uF,uF,uF,uF,uF,uF,uF,uF,uF,uF,uF,uF,uF,uF,uF,uF,uF,uF,uF,uF,uF,uF,uF,uF,uF,uF,uF,uF,uF,uF,uF,uF,uF,uF,uF,uF,uF,uF,uF,uF,uF,uF,uF,uF,uF,uF,uF,uF,uF,uF,uF,uF,uF,uF,uF,uF,uF,uF,uF,uF,uF,uF,uF,uF,uF,uF,uF,uF,uF,uF,uF,uF,uF,uF,uF,uF,uF,uF,uF,uF,uF,uF,uF,uF,uF,uF,uF,uF,uF,uF,uF,uF,uF,uF,uF,uF,uF,uF,uF,uF,uF,uF,uF,uF,uF,uF,uF,uF,uF,uF,uF,uF,uF,uF,uF,uF,uF,uF,uF,uF,uF,uF,uF,uF,uF,uF,uF,uF,uF,uF,uF,uF,uF,uF,uF,uF,uF,uF,uF,uF,uF,uF,uF,uF],[(.lst true 88),(.cells [⟨false,(.int .i64)⟩,⟨false,(.osl 4 88)⟩,⟨false, .bool⟩]),(.lst false 86),(.cells [⟨false,(.osl 2 86)⟩,⟨false, .bool⟩]),(.cells [⟨false,(.lit (.int .i64 0))⟩,⟨false,(.lit (.slice none 0 0))⟩,⟨false,(.lit (.bool false))⟩])],[⟨0,4,[uT,uT,⟨true,(.ptr 0 0)⟩,⟨true,(.lit (.int .i64 0))⟩,uT,uT,uT,uT,⟨true,(.ptr 1 0)⟩,⟨true,(.ptr 3 0)⟩,uT,uT,uT,uT,uT,uT,uT,uT,uT,uT,uT,uT,uT,uT,uT,uT,uT,uT,uT,uT,uT,uT,uT,uT,uT,uT,uT,uT,uT,uT,uT,uT,uT,uT,uT,uT,uT,uT,uT,uT,uT,uT,uT,uT,uT,uT,uT,uT,uT,uT,uT,uT,uT,uT,uT,uT,uT,uT,uT,uT,uT,uT,uT,uT,uT,uT,uT,uT,uT,uT,uT,uT,uT,uT,uT,uT,uT,uT,uT,uT,uT,uT,uT,uT,uT,uT,uT,uT,uT,uT,uT,uT,uT,uT,uT,uT,uT,uT,uT,uT,uT,uT,uT,uT,uT,uT,uT,uT,uT,uT,uT,uT,uT,uT,uT,uT,uT,uT,uT,uT,uT,uT,uT,uT,uT,uT,uT,uT,uT,uT,uT,uT,uT,uT,uT,uT,uT,uT,uT,uT,uT,uT,uT,uT,uT,uT,uT,uT,uT,uT,uT,uT,uT,uT,uT,uT,uT,uT,uT,uT,uT,uT,uT,uT,uT,uT,uT,uT,uT,uT,uT,uT,uT,uT,uT,uT,uT,uT,uT,uT,uT,uT,uT,uT,uT,uT,uT,uT,uT,uT,uT,uT,uT,uT,uT,uT,uT,uT,uT,uT,uT,uT,uT,uT,uT,uT,uT],[(.lst true 88),(.cells [⟨false,(.int .i64)⟩,⟨true,(.osl 4 88)⟩,⟨false, .bool⟩]),(.lst false 86),(.cells [⟨true,(.osl 2 86)⟩,⟨false, .bool⟩]),(.cells [⟨true,(.lit (.int .i64 0))⟩,⟨true,(.lit (.slice none 0 0))⟩,⟨true,(.lit (.bool false))⟩])]⟩]⟩
def st11_27 (p s:List D):Option (Sum (List D) (List D)):=stepQX env tbl11_11 60 12 11 (loopC 11 27) S11_27 p s
theorem st11_27_e (pn0:Int) (pb1:Bool) (pd2:D) (pb3:Bool) (sn0:Int) (sd1:D):st11_27 [(D.int pn0),(D.bool pb1),pd2,(D.bool pb3)] [(D.int sn0),sd1] =
 let x0:=qlen pd2
 let x1:=qcmp .lss sn0 x0
 let x2:=qcmp .leq 0 sn0
 let x3:=qinb pd2 sn0
 let x4:=qget pd2 sn0
 let x5:=qcmp .eql (qlen sd1) (qlen sd1)
 let x6:=q39 [x4,sd1]
 let x7:=qcmp .eql x0 x0
 let x8:=D.int pn0
 let x9:=D.bool pb1
 let x10:=D.bool pb3
 let x11:=D.int (qbin .add .i64 sn0 1)
 bif x1 then gd x2<|gd x1<|gd x3<|bif qcmp .lss (qint (qfld x4 0)) 0 then gd x2<|gd x1<|gd x3<|gd x5<|gd (qsome x6)<|gd (qcmp .eql (qlen (qnth x6 0)) (qlen (qnth x6 0)))<|gd x7<|ge x8<|ge x9<|ge pd2<|ge x10<|some (Sum.inl [x11,qnth x6 0])else gd x5<|gd x7<|ge x8<|ge x9<|ge pd2<|ge x10<|some (Sum.inl [x11,sd1])else gd x5<|gd x7<|ge x8<|ge x9<|ge pd2<|ge x10<|some (Sum.inr [.int 0,sd1]):=by kernel_rfl
def st11_27_eq:=by have h:= @st11_27_e;simp only[ge_id,gd,qeqD_self,qeqI_self,qeqB_self,qand_tt,qeq_len,qeq_l,cond_true]at h;exact h
def l11_27:List D→List D→Option (List D):=veil fun p s=>loW (st11_27 p) s
theorem l11_27_eq:l11_27=fun p s=>loW (st11_27 p) s:=veil_eq _
def tbl11_27:Tb:=Tb.addL tbl11_11 11 27 S11_27.n0 (mkLp S11_27 (l11_27))
theorem ok_tbl11_27:TbOk env (tbl11_27):=addLoopQ ok_tbl11_11 11 27 (by kernel_rfl) _ (l11_27_eq)
def S11_39:LoopS:=⟨0,[uF,uF,⟨false,(.ptr 0 0)⟩,⟨false,(.lit (.int .i64 0))⟩,uF,uF,uF,uF,⟨false,(.ptr 1 0)⟩,⟨false,(.ptr 3 0)⟩,uF,uF,uF,uF,uF,uF,uF,⟨false,(.int .i64)⟩,⟨false,(.ptr 5 0)⟩,⟨true, .bool⟩,⟨true,(.int .i64)⟩,uF,uF,uF,uF,uF,uF,uF,uF,uF,uF,uF,uF,uF,uF,uF,uF,uF,uF,uF,uF,uF,uF,uF,uF,uF,uF,uF,uF,uF,uF,uF,uF,uF,uF,uF,uF,uF,uF,uF,uF,uF,uF,uF,uF,uF,uF,uF,uF,uF,uF,uF,uF,uF,uF,uF,uF,uF,uF,uF,uF,uF,uF,uF,uF,uF,uF,uF,uF,uF,uF,uF,uF,uF,uF,uF,uF,uF,uF,uF,uF,uF,uF,uF,uF,uF,uF,uF,uF,uF,uF,uF,uF,uF,uF,uF,uF,uF,uF,uF,uF,uF,uF,uF,uF,uF,uF,uF,uF,uF,uF,uF,uF,uF,uF,uF,uF,uF,uF,uF,uF,uF,uF,uF,uF,uF,uF,uF,uF,uF,uF,uF,uF,uF,uF,uF,uF,uF,uF,uF,uF,uF,uF,uF,uF,uF,uF,uF,uF,uF,uF,uF,uF,uF,uF,uF,uF,uF,uF,uF,uF,uF,uF,uF,uF,uF,uF,uF,uF,uF,uF,uF,uF,uF,uF,uF,uF,uF,uF,uF,uF,uF,uF,uF,uF,uF,uF,uF,uF,uF,uF,uF,uF,uF,uF,uF,uF],[(.dat false 88),(.lst false 88),(.cells [⟨false,(.int .i64)⟩,⟨false,(.osl 4 88)⟩,⟨false, .bool⟩]),(.lst false 86),(.cells [⟨false,(.osl 2 86)⟩,⟨false, .bool⟩]),(.cells [⟨false,(.lit (.int .i64 0))⟩,⟨false,(.lit (.slice none 0 0))⟩,⟨false,(.lit (.bool false))⟩])],[⟨0,8,[uT,uT,⟨true,(.ptr 0 0)⟩,⟨true,(.lit (.int .i64 0))⟩,uT,uT,uT,uT,⟨true,(.ptr 1 0)⟩,⟨true,(.ptr 3 0)⟩,uT,uT,uT,uT,uT,uT,uT,⟨false,(.int .i64)⟩,uT,⟨true, .bool⟩,uT,uT,uT,uT,uT,uT,uT,uT,uT,uT,uT,uT,uT,uT,uT,uT,uT,uT,uT,uT,uT,uT,uT,uT,uT,uT,uT,uT,uT,uT,uT,uT,uT,uT,uT,uT,uT,uT,uT,uT,uT,uT,uT,uT,uT,uT,uT,uT,uT,uT,uT,uT,uT,uT,uT,uT,uT,uT,uT,uT,uT,uT,uT,uT,uT,uT,uT,uT,uT,uT,uT,uT,uT,uT,uT,uT,uT,uT,uT,uT,uT,uT,uT,uT,uT,uT,uT,uT,uT,uT,uT,uT,uT,uT,uT,uT,uT,uT,uT,uT,uT,uT,uT,uT,uT,uT,uT,uT,uT,uT,uT,uT,uT,uT,uT,uT,uT,uT,uT,uT,uT,uT,uT,uT,uT,uT,uT,uT,uT,uT,uT,uT,uT,uT,uT,uT,uT,uT,uT,uT,uT,uT,uT,uT,uT,uT,uT,uT,uT,uT,uT,uT,uT,uT,uT,uT,uT,uT,uT,uT,uT,uT,uT,uT,uT,uT,uT,uT,uT,uT,uT,uT,uT,uT,uT,uT,uT,uT,uT,uT,uT,uT,uT,uT,uT,uT,uT,uT,uT,uT,uT,uT,uT,uT,uT,uT,uT],[(.dat false 88),(.lst false 88),(.cells [⟨false,(.int .i64)⟩,⟨true,(.osl 4 88)⟩,⟨false, .bool⟩]),(.lst false 86),(.cells [⟨true,(.osl 2 86)⟩,⟨false, .bool⟩]),(.cells [⟨true,(.lit (.int .i64 0))⟩,⟨true,(.lit (.slice none 0 0))⟩,⟨true,(.lit (.bool false))⟩])]⟩]⟩
def st11_39 (p s:List D):Option (Sum (List D) (List D)):=stepQX env tbl11_27 60 12 11 (loopC 11 39) S11_39 p s
theorem st11_39_e (pn0:Int) (pd1:D) (pd2:D) (pn3:Int) (pb4:Bool) (pd5:D) (pb6:Bool) (sb0:Bool) (sn1:Int):st11_39 [(D.int pn0),pd1,pd2,(D.int pn3),(D.bool pb4),pd5,(D.bool pb6)] [(D.bool sb0),(D.int sn1)] =
 let x0:=qlen pd2
 let x1:=qcmp .lss sn1 x0
 let x2:=qcmp .eql x0 x0
 let x3:=qcmp .eql (qlen pd5) (qlen pd5)
 let x4:=D.int pn0
 let x5:=D.int pn3
 let x6:=D.bool pb4
 let x7:=D.bool pb6
 let x8:=D.int (qbin .add .i64 sn1 1)
 let x9:=qget pd2 sn1
 let x10:=qint (qfld x9 0)
 let x11:=qint (qfld pd1 0)
 let x12:Option (List D ⊕ List D):=gd x2<|gd x3<|ge x4<|ge pd1<|ge pd2<|ge x5<|ge x6<|ge pd5<|ge x7<|some (Sum.inl [.bool false,x8])
 bif x1 then gd (qcmp .leq 0 sn1)<|gd x1<|gd (qinb pd2 sn1)<|bif sb0 then gd x2<|gd x3<|ge x4<|ge pd1<|ge pd2<|ge x5<|ge x6<|ge pd5<|ge x7<|some (Sum.inl [.bool true,x8])else bif qcmp .neq sn1 pn0 then bif qcmp .lss x10 (qbin .add .i64 x11 (qint (qfld pd1 1)))then gd x2<|gd x3<|ge x4<|ge pd1<|ge pd2<|ge x5<|ge x6<|ge pd5<|ge x7<|some (Sum.inl [.bool (qcmp .lss x11 (qbin .add .i64 x10 (qint (qfld x9 1)))),x8])else x12 else x12 else gd x2<|gd x3<|ge x4<|ge pd1<|ge pd2<|ge x5<|ge x6<|ge pd5<|ge x7<|some (Sum.inr [.int 0,.bool sb0]):=by kernel_rfl
def st11_39_eq:=by have h:= @st11_39_e;simp only[ge_id,gd,qeqD_self,qeqI_self,qeqB_self,qand_tt,qeq_len,qeq_l,cond_true]at h;exact h
def l11_39:List D→List D→Option (List D):=veil fun p s=>loW (st11_39 p) s
theorem l11_39_eq:l11_39=fun p s=>loW (st11_39 p) s:=veil_eq _
def tbl11_39:Tb:=Tb.addL tbl11_27 11 39 S11_39.n0 (mkLp S11_39 (l11_39))
theorem ok_tbl11_39:TbOk env (tbl11_39):=addLoopQ ok_tbl11_27 11 39 (by kernel_rfl) _ (l11_39_eq)
def S11_32:LoopS:=⟨0,[uF,uF,⟨false,(.ptr 0 0)⟩,⟨false,(.lit (.int .i64 0))⟩,uF,uF,uF,uF,⟨false,(.ptr 1 0)⟩,⟨false,(.ptr 3 0)⟩,uF,uF,uF,uF,uF,uF,uF,⟨true,(.int .i64)⟩,uF,uF,uF,uF,uF,uF,uF,uF,uF,uF,uF,uF,uF,uF,uF,uF,uF,uF,uF,uF,uF,uF,uF,uF,uF,uF,uF,uF,uF,uF,uF,uF,uF,uF,uF,uF,uF,uF,uF,uF,uF,uF,uF,uF,uF,uF,uF,uF,uF,uF,uF,uF,uF,uF,uF,uF,uF,uF,uF,uF,uF,uF,uF,uF,uF,uF,uF,uF,uF,uF,uF,uF,uF,uF,uF,uF,uF,uF,uF,uF,uF,uF,uF,uF,uF,uF,uF,uF,uF,uF,uF,uF,uF,uF,uF,uF,uF,uF,uF,uF,uF,uF,uF,uF,uF,uF,uF,uF,uF,uF,uF,uF,uF,uF,uF,uF,uF,uF,uF,uF,uF,uF,uF,uF,uF,uF,uF,uF,uF,uF,uF,uF,uF,uF,uF,uF,uF,uF,uF,uF,uF,uF,uF,uF,uF,uF,uF,uF,uF,uF,uF,uF,uF,uF,uF,uF,uF,uF,uF,uF,uF,uF,uF,uF,uF,uF,uF,uF,uF,uF,uF,uF,uF,uF,uF,uF,uF,uF,uF,uF,uF,uF,uF,uF,uF,uF,uF,uF,uF,uF,uF,uF,uF,uF,uF,uF,uF,uF,uF],[(.lst true 88),(.cells [⟨true,(.int .i64)⟩,⟨false,(.osl 4 88)⟩,⟨false, .bool⟩]),(.lst false 86),(.cells [⟨false,(.osl 2 86)⟩,⟨false, .bool⟩]),(.cells [⟨false,(.lit (.int .i64 0))⟩,⟨false,(.lit (.slice none 0 0))⟩,⟨false,(.lit (.bool false))⟩])],[⟨0,6,[uT,uT,⟨true,(.ptr 0 0)⟩,⟨true,(.lit (.int .i64 0))⟩,uT,uT,uT,uT,uT,⟨true,(.ptr 3 0)⟩,uT,uT,uT,uT,uT,uT,uT,uT,uT,uT,uT,uT,uT,uT,uT,uT,uT,uT,uT,uT,uT,uT,uT,uT,uT,uT,uT,uT,uT,uT,uT,uT,uT,uT,uT,uT,uT,uT,uT,uT,uT,uT,uT,uT,uT,uT,uT,uT,uT,uT,uT,uT,uT,uT,uT,uT,uT,uT,uT,uT,uT,uT,uT,uT,uT,uT,uT,uT,uT,uT,uT,uT,uT,uT,uT,uT,uT,uT,uT,uT,uT,uT,uT,uT,uT,uT,uT,uT,uT,uT,uT,uT,uT,uT,uT,uT,uT,uT,uT,uT,uT,uT,uT,uT,uT,uT,uT,uT,uT,uT,uT,uT,uT,uT,uT,uT,uT,uT,uT,uT,uT,uT,uT,uT,uT,uT,uT,uT,uT,uT,uT,uT,uT,uT,uT,uT,uT,uT,uT,uT,uT,uT,uT,uT,uT,uT,uT,uT,uT,uT,uT,uT,uT,uT,uT,uT,uT,uT,uT,uT,uT,uT,uT,uT,uT,uT,uT,uT,uT,uT,uT,uT,uT,uT,uT,uT,uT,uT,uT,uT,uT,uT,uT,uT,uT,uT,uT,uT,uT,uT,uT,uT,uT,uT,uT,uT,uT,uT,uT,uT,uT,uT,uT,uT,uT,uT,uT],[(.lst true 88),(.cells [⟨true,(.int .i64)⟩,⟨true,(.osl 4 88)⟩,⟨false, .bool⟩]),(.lst false 86),(.cells [uT,⟨false, .bool⟩]),(.cells [⟨true,(.lit (.int .i64 0))⟩,⟨true,(.lit (.slice none 0 0))⟩,⟨true,(.lit (.bool false))⟩])]⟩]⟩
def st11_32 (p s:List D):Option (Sum (List D) (List D)):=stepQX env tbl11_39 60 12 11 (loopC 11 32) S11_32 p s
theorem st11_32_e (pb0:Bool) (pd1:D) (pb2:Bool) (sn0:Int) (sd1:D) (sn2:Int):st11_32 [(D.bool pb0),pd1,(D.bool pb2)] [(D.int sn0),sd1,(D.int sn2)] =
 let x0:=qlen sd1
 let x1:=qcmp .lss sn0 x0
 let x2:=qcmp .leq 0 sn0
 let x3:=qinb sd1 sn0
 let x4:=qget sd1 sn0
 let x5:=qint (qfld x4 0)
 let x6:=qun .neg .i64 x5
 let x7:=qcmp .eql x0 x0
 let x8:=qcmp .eql (qlen pd1) (qlen pd1)
 let x9:=D.bool pb0
 let x10:=D.bool pb2
 let x11:=qint (qfld x4 1)
 let x12:List D:=[.bool (qiteB (qiteB pb2 true (qcmp .gtr (qbin .add .i64 x5 x11) 0)) true (qcmp .lss x5 (-4092))),.int 0]
 let x13:=l11_39 [.int sn0,x4,sd1,.int x6,x9,pd1,x10] x12
 let x14:=D.int (qint (qfld x4 2))
 let x15:=D.int (qint (qfld x4 3))
 let x16:=qset sd1 sn0 (.agg [.int x5,.int x11,x14,x15,.bool (qbool (qnth x13 1))])
 let x17:=D.int (qbin .add .i64 sn0 1)
 let x18:=D.int sn2
 let x19:=l11_39 [.int sn0,x4,sd1,x18,x9,pd1,x10] x12
 let x20:=qset sd1 sn0 (.agg [.int x5,.int x11,x14,x15,.bool (qbool (qnth x19 1))])
 bif x1 then gd x2<|gd x1<|gd x3<|bif qcmp .gtr x6 sn2 then gd x7<|gd x8<|gd (qsome x13)<|gd x2<|gd x1<|gd x3<|gd (qcmp .eql x0 (qlen x16))<|gd x8<|ge x9<|ge pd1<|ge x10<|some (Sum.inl [x17,x16,.int x6])else gd x7<|gd x8<|gd (qsome x19)<|gd x2<|gd x1<|gd x3<|gd (qcmp .eql x0 (qlen x20))<|gd x8<|ge x9<|ge pd1<|ge x10<|some (Sum.inl [x17,x20,x18])else gd x7<|ge x9<|ge pd1<|ge x10<|some (Sum.inr [.int 0,sd1,x18]):=by kernel_rfl
def st11_32_eq:=by have h:= @st11_32_e;simp only[ge_id,gd,qeqD_self,qeqI_self,qeqB_self,qand_tt,qeq_len,qeq_l,cond_true]at h;exact h
def l11_32:List D→List D→Option (List D):=veil fun p s=>loW (st11_32 p) s
theorem l11_32_eq:l11_32=fun p s=>loW (st11_32 p) s:=veil_eq _
def tbl11_32:Tb:=Tb.addL tbl11_39 11 32 S11_32.n0 (mkLp S11_32 (l11_32))
theorem ok_tbl11_32:TbOk env (tbl11_32):=addLoopQ ok_tbl11_39 11 32 (by kernel_rfl) _ (l11_32_eq)
def S11:FunS:=⟨[⟨true,(.dat 25)⟩],[],[⟨true,(.tup [(.dat 36),(.int .i64)])⟩],[]⟩
def F11:List D→Option (List D):=liftX env tbl11_32 60 12 11 S11
theorem F11_e (sd0:D):F11 [sd0] =
 let x0:=q35 [sd0]
 let x1:=qint (qnth x0 0)
 let x2:=D.int 0
 let x3:=D.list []
 let x4:=D.bool false
 let x5:=D.agg [x2,x3,x4]
 let x6:=q18 [sd0]
 let x7:=q36 [sd0]
 let x8:=qcmp .eql 0 (qlen x3)
 let x9:=l11_11 [qnth x6 0,qnth x7 0,sd0] [x2,x2,.bool true,x3,x4]
 let x10:=qnth x9 3
 let x11:=qcmp .eql (qlen x10) (qlen x10)
 let x12:=D.int (qint (qnth x9 1))
 let x13:=D.bool (qbool (qnth x9 2))
 let x14:=D.bool (qbool (qnth x9 4))
 let x15:=l11_27 [x12,x13,x10,x14] [x2,x3]
 let x16:=l11_32 [x13,x10,x14] [x2,qnth x15 1,x12]
 gd (qsome x0)<|bif qcmp .neq x1 0 then some [x5,.int x1]else gd (qsome x6)<|bif qnot (qbool (qnth x6 1))then some [x5,.int 19]else gd (qsome x7)<|gd x8<|gd (qsome x9)<|gd x8<|gd x11<|gd (qsome x15)<|gd (qcmp .eql (qlen (qnth x15 1)) (qlen (qnth x15 1)))<|gd x11<|gd (qsome x16)<|gd (qcmp .eql (qlen (qnth x16 1)) (qlen (qnth x16 1)))<|some [.agg [.int (qint (qnth x16 2)),qnth x16 1,x13],x2]:=by kernel_rfl
def F11_eq:=by have h:= @F11_e;simp only[ge_id,gd,qeqD_self,qeqI_self,qeqB_self,qand_tt,qeq_len,qeq_l,cond_true]at h;exact h
def q11:List D→Option (List D):=veil (F11)
theorem q11_eq:q11=F11:=veil_eq _
def tb11:Tb:=Tb.addF tbl11_32 11 S11 (q11)
theorem ok_tb11:TbOk env (tb11):=addFunF ok_tbl11_32 11 (by kernel_rfl) _ (q11_eq)
end
end Go.Proofs.YtfdedgmlafelaaaGreatDoor
open Go Go.AM
namespace Go.Proofs.YtfdedgmlafelaaaGreatDoor
noncomputable section
set_option maxRecDepth 100000
set_option linter.unusedSimpArgs false
set_option linter.unusedVariables false
set_option linter.defProp false
def S12_4:LoopS:=⟨0,[uF,uF,⟨false,(.ptr 0 0)⟩,⟨false,(.ptr 1 0)⟩,⟨false,(.lit (.bool false))⟩,⟨true,(.int .i64)⟩,uF,uF,uF,uF,uF,uF,uF,uF,uF,uF,uF,uF,uF,uF,uF,uF,uF,uF,uF,uF,uF,uF,uF,uF,uF,uF,uF,uF,uF,uF,uF,uF,uF,uF,uF,uF,uF,uF,uF],[(.dat false 36),(.dat false 36)],[⟨0,0,[uT,uT,uT,uT,⟨true,(.lit (.bool false))⟩,uT,uT,uT,uT,uT,uT,uT,uT,uT,uT,uT,uT,uT,uT,uT,uT,uT,uT,uT,uT,uT,uT,uT,uT,uT,uT,uT,uT,uT,uT,uT,uT,uT,uT,uT,uT,uT,uT,uT,uT],[(.dat false 36),(.dat false 36)]⟩,⟨1,0,[uT,uT,uT,uT,⟨true,(.lit (.bool false))⟩,uT,uT,uT,uT,uT,uT,uT,uT,uT,uT,uT,uT,uT,uT,uT,uT,uT,uT,uT,uT,uT,uT,uT,uT,uT,uT,uT,uT,uT,uT,uT,uT,uT,uT,uT,uT,uT,uT,uT,uT],[(.dat false 36),(.dat false 36)]⟩]⟩
def st12_4 (p s:List D):Option (Sum (List D) (List D)):=stepQX env tb11 60 12 12 (loopC 12 4) S12_4 p s
theorem st12_4_e (pd0:D) (pd1:D) (sn0:Int):st12_4 [pd0,pd1] [(D.int sn0)] =
 let x0:=qfld pd1 1
 let x1:=qget x0 sn0
 let x2:=qget (qfld pd0 1) sn0
 bif qcmp .lss sn0 (qlen x0)then gd (qinb x0 sn0)<|gd (qinb (qfld pd0 1) sn0)<|bif qnot (qand (qcmp .eql (qint (qfld x1 0)) (qint (qfld x2 0))) (qand (qcmp .eql (qint (qfld x1 1)) (qint (qfld x2 1))) (qand (qcmp .eql (qint (qfld x1 2)) (qint (qfld x2 2))) (qand (qcmp .eql (qint (qfld x1 3)) (qint (qfld x2 3))) (qeqB (qbool (qfld x1 4)) (qbool (qfld x2 4)))))))then ge pd0<|ge pd1<|some (Sum.inr [.int 1])else ge pd0<|ge pd1<|some (Sum.inl [.int (qbin .add .i64 sn0 1)])else ge pd0<|ge pd1<|some (Sum.inr [.int 0]):=by kernel_rfl
def st12_4_eq:=by have h:= @st12_4_e;simp only[ge_id,gd,qeqD_self,qeqI_self,qeqB_self,qand_tt,qeq_len,qeq_l,cond_true]at h;exact h
def l12_4:List D→List D→Option (List D):=veil fun p s=>loW (st12_4 p) s
theorem l12_4_eq:l12_4=fun p s=>loW (st12_4 p) s:=veil_eq _
def tbl12_4:Tb:=Tb.addL tb11 12 4 S12_4.n0 (mkLp S12_4 (l12_4))
theorem ok_tbl12_4:TbOk env (tbl12_4):=addLoopQ ok_tb11 12 4 (by kernel_rfl) _ (l12_4_eq)
def S12:FunS:=⟨[⟨true,(.dat 36)⟩,⟨true,(.dat 36)⟩],[],[⟨true, .bool⟩],[]⟩
def F12:List D→Option (List D):=liftX env tbl12_4 60 12 12 S12
theorem F12_eq (sd0:D) (sd1:D):F12 [sd0,sd1] =
 bif (qiteB (qiteB (qcmp BinOp.neq (qint (qfld sd0 0)) (qint (qfld sd1 0))) Bool.true (qnot (qeqB (qbool (qfld sd0 2)) (qbool (qfld sd1 2))))) Bool.true (qcmp BinOp.neq (qlen (qfld sd0 1)) (qlen (qfld sd1 1))))then
 some [(D.bool Bool.false)]
 else
 bif (qsome (l12_4 [sd1,sd0] [(D.int 0)]))then
 bif (qcmp BinOp.eql (qint (qnth (l12_4 [sd1,sd0] [(D.int 0)]) 0)) 0)then
 some [(D.bool Bool.true)]
 else
 some [(D.bool Bool.false)]
 else
 none:=by kernel_rfl
def q12:List D→Option (List D):=veil (F12)
theorem q12_eq:q12=F12:=veil_eq _
def tb12:Tb:=Tb.addF tbl12_4 12 S12 (q12)
theorem ok_tb12:TbOk env (tb12):=addFunF ok_tbl12_4 12 (by kernel_rfl) _ (q12_eq)
def S13_3:LoopS:=⟨0,[uF,⟨false,(.ptr 0 0)⟩,⟨false,(.ptr 1 0)⟩,⟨false,(.ptr 2 0)⟩,⟨true,(.int .i64)⟩,uF,uF,uF,uF,uF,uF,uF,uF,uF,uF,uF,uF,uF,uF,uF,uF,uF,uF,uF,uF,uF,uF,uF,uF,uF,uF,uF,uF,uF,uF,uF,uF,uF,uF,uF],[(.lst true 88),(.cells [⟨false,(.int .i64)⟩,⟨false,(.osl 3 88)⟩,⟨false, .bool⟩]),(.cells [⟨false,(.lit (.int .i64 0))⟩,⟨false,(.lit (.slice none 0 0))⟩,⟨false,(.lit (.bool false))⟩]),(.dat false 30)],[⟨0,0,[uT,uT,⟨true,(.ptr 1 0)⟩,⟨true,(.ptr 2 0)⟩,uT,uT,uT,uT,uT,uT,uT,uT,uT,uT,uT,uT,uT,uT,uT,uT,uT,uT,uT,uT,uT,uT,uT,uT,uT,uT,uT,uT,uT,uT,uT,uT,uT,uT,uT,uT],[(.lst true 88),(.cells [⟨false,(.int .i64)⟩,⟨true,(.osl 3 88)⟩,⟨false, .bool⟩]),(.cells [⟨true,(.lit (.int .i64 0))⟩,⟨true,(.lit (.slice none 0 0))⟩,⟨true,(.lit (.bool false))⟩]),(.dat false 30)]⟩]⟩
def st13_3 (p s:List D):Option (Sum (List D) (List D)):=stepQX env tb12 60 12 13 (loopC 13 3) S13_3 p s
theorem st13_3_e (pn0:Int) (pb1:Bool) (pd2:D) (sn0:Int) (sd1:D):st13_3 [(D.int pn0),(D.bool pb1),pd2] [(D.int sn0),sd1] =
 let x0:=qfld pd2 1
 let x1:=qcmp .eql (qlen sd1) (qlen sd1)
 let x2:=qget x0 sn0
 let x3:=qapp sd1 (.list [.agg [.int (qint (qfld x2 0)),.int (qint (qfld x2 1)),.int (qint (qfld x2 2)),.int (qint (qfld x2 3)),.bool (qbool (qfld x2 4))]])
 let x4:=qlen x3
 bif qcmp .lss sn0 (qlen x0)then gd (qinb x0 sn0)<|gd x1<|gd (qmem x4 40)<|gd (qcmp .eql x4 x4)<|ge (.int pn0)<|ge (.bool pb1)<|ge pd2<|some (Sum.inl [.int (qbin .add .i64 sn0 1),x3])else gd x1<|ge (.int pn0)<|ge (.bool pb1)<|ge pd2<|some (Sum.inr [.int 0,sd1]):=by kernel_rfl
def st13_3_eq:=by have h:= @st13_3_e;simp only[ge_id,gd,qeqD_self,qeqI_self,qeqB_self,qand_tt,qeq_len,qeq_l,cond_true]at h;exact h
def l13_3:List D→List D→Option (List D):=veil fun p s=>loW (st13_3 p) s
theorem l13_3_eq:l13_3=fun p s=>loW (st13_3 p) s:=veil_eq _
def tbl13_3:Tb:=Tb.addL tb12 13 3 S13_3.n0 (mkLp S13_3 (l13_3))
theorem ok_tbl13_3:TbOk env (tbl13_3):=addLoopQ ok_tb12 13 3 (by kernel_rfl) _ (l13_3_eq)
def S13:FunS:=⟨[⟨true,(.dat 30)⟩],[],[⟨true,(.dat 36)⟩],[]⟩
def F13:List D→Option (List D):=liftX env tbl13_3 60 12 13 S13
theorem F13_e (sd0:D):F13 [sd0] =
 let x0:=D.int (qint (qfld sd0 0))
 let x1:=D.bool (qbool (qfld sd0 2))
 let x2:=l13_3 [x0,x1,sd0] [.int 0,.list []]
 gd (qcmp .eql 0 (qlen (.list [])))<|gd (qsome x2)<|gd (qcmp .eql (qlen (qnth x2 1)) (qlen (qnth x2 1)))<|some [.agg [x0,qnth x2 1,x1]]:=by kernel_rfl
def F13_eq:=by have h:= @F13_e;simp only[ge_id,gd,qeqD_self,qeqI_self,qeqB_self,qand_tt,qeq_len,qeq_l,cond_true]at h;exact h
def q13:List D→Option (List D):=veil (F13)
theorem q13_eq:q13=F13:=veil_eq _
def tb13:Tb:=Tb.addF tbl13_3 13 S13 (q13)
theorem ok_tb13:TbOk env (tb13):=addFunF ok_tbl13_3 13 (by kernel_rfl) _ (q13_eq)
end
end Go.Proofs.YtfdedgmlafelaaaGreatDoor
open Go Go.AM
namespace Go.Proofs.YtfdedgmlafelaaaGreatDoor
set_option maxRecDepth 100000
set_option linter.unusedSimpArgs false
set_option linter.unusedVariables false
set_option linter.defProp false
noncomputable def tb9r:Tb:=Tb.addF tb13 9 S9 q9
theorem ok_tb9r:TbOk env tb9r:=TbOk.addF ok_tb13 (by kernel_rfl) sound9
def S3:FunS:=⟨[⟨true,(.dat 25)⟩],[],[⟨true, .bool⟩],[]⟩
noncomputable def F3:List D→Option (List D):=liftX env tb9r 60 12 3 S3
theorem F3_e (sd0:D):F3 [sd0] =
 let x0:=q8 [sd0]
 let x1:=q9 []
 let x2:Option (List D):=gd (qsome x1)<|some [.bool (qbool (qnth x1 0))]
 let x3:=q10 [sd0]
 let x4:=q11 [sd0]
 let x5:=q13 [qnth x3 0]
 let x6:=q12 [qnth x5 0,qnth x4 0]
 let x7:Option (List D):=some [.bool false]
 gd (qsome x0)<|bif qbool (qnth x0 0)then x2 else gd (qsome x3)<|gd (qsome x4)<|bif qcmp .eql (qint (qnth x3 1)) (qint (qnth x4 1))then gd (qsome x5)<|gd (qsome x6)<|bif qbool (qnth x6 0)then x2 else x7 else x7:=by kernel_rfl
def F3_eq:=by have h:= @F3_e;simp only[ge_id,gd,qeqD_self,qeqI_self,qeqB_self,qand_tt,qeq_len,qeq_l,cond_true]at h;exact h
noncomputable def q3:List D→Option (List D):=veil (F3)
theorem q3_eq:q3=F3:=veil_eq _
end Go.Proofs.YtfdedgmlafelaaaGreatDoor
namespace Go.AM
theorem qsome_s (r:List D):qsome (some r)=true:=by rw[qsome_eq];rfl
theorem qsome_n:qsome none=false:=by rw[qsome_eq];rfl
theorem qnth_s (r:List D) (j:Nat):qnth (some r) j=r.getD j .other:=by rw[qnth_eq];rfl
theorem qint_i (n:Int):qint (.int n)=n:=by rw[qint_eq];rfl
theorem qbool_b (b:Bool):qbool (.bool b)=b:=by rw[qbool_eq];rfl
theorem qcmp_lss (a b:Int):qcmp .lss a b=decide (a<b):=by rw[qcmp_eq];rfl
theorem qcmp_leq (a b:Int):qcmp .leq a b=decide (a≤b):=by rw[qcmp_eq];rfl
theorem qcmp_gtr (a b:Int):qcmp .gtr a b=decide (b<a):=by rw[qcmp_eq];rfl
theorem qcmp_geq (a b:Int):qcmp .geq a b=decide (b≤a):=by rw[qcmp_eq];rfl
theorem qcmp_eql (a b:Int):qcmp .eql a b=decide (a=b):=by rw[qcmp_eq];simp only[rcmp];cases h:decide (a=b)<;>simp_all
theorem qcmp_neq (a b:Int):qcmp .neq a b = !decide (a=b):=by rw[qcmp_eq];simp only[rcmp,bne];cases h:decide (a=b)<;>simp_all
theorem qiteB_c (c a b:Bool):qiteB c a b=bif c then a else b:=by rw[qiteB_eq]
theorem qnot_c (a:Bool):qnot a = !a:=by rw[qnot_eq]
theorem qlen_c (d:D):qlen d=(d.toList.length:Int):=by rw[qlen_eq];rfl
theorem qinb_c (d:D) (i:Int):qinb d i=(decide (0≤i)&&decide (i<d.toList.length)):=by rw[qinb_eq];rfl
theorem qget_n (d:D) (i:Nat):qget d (i:Int)=d.toList.getD i .other:=by rw[qget_eq];simp[D.get]
theorem qinb_n {d:D} {i:Nat} (h:i<d.toList.length):qinb d (i:Int)=true:=by rw[qinb_c];simp;omega
def srch {R:Type} (f:Nat→Option R) (r0:R):Nat→Nat→R
 |_,0=>r0
 |i,k+1=>match f i with
  |none=>srch f r0 (i+1) k
  |some r=>r
theorem getD_lt {xs:List D} {i:Nat} (h:i<xs.length):xs.getD i .other=xs[i]:=by simp[List.getD,h]
theorem add_nat {i:Nat} (h:i<9223372036854775807):qbin .add .i64 (i:Int) 1=((i+1:Nat):Int):=by
 rw[add64 (by omega) (by omega)];omega
theorem idxLoop {st:List D→Option (Sum (List D) (List D))} {l:D} {c:D→Option (List D)} {p:D→Bool} {r1:Int→List D} {r0:List D}
 (hst:∀i:Int,st [.int i]=bif qcmp .lss i (qlen l)then bif qinb l i then bif qsome (c (qget l i))then bif qbool (qnth (c (qget l i)) 0)then some (.inr (r1 i))else some (.inl [.int (qbin .add .i64 i 1)])else none else none else some (.inr r0))
 (hl:l.toList.length≤maxLen) (hc:∀x∈l.toList,c x=some [.bool (p x)]):
 (loW st [.int 0]=some r0∧l.toList.any p=false)∨∃i:Nat,loW st [.int 0]=some (r1 i)∧l.toList.any p=true:=by
 unfold maxLen at hl
 have key:∀k i:Nat,i+k=l.toList.length→(loW st [.int i]=some r0∧(l.toList.drop i).any p=false)∨∃j:Nat,loW st [.int i]=some (r1 j)∧(l.toList.drop i).any p=true:=by
  intro k
  induction k with
  |zero=>
   intro i hi
   left
   rw[loW_eq,hst,qcmp_lss,qlen_c,List.drop_of_length_le (by omega)]
   simp[show¬((i:Int)<l.toList.length)by omega]
  |succ k ih=>
   intro i hi
   have hlt:i<l.toList.length:=by omega
   rw[loW_eq,hst,qcmp_lss,qlen_c,qinb_n hlt,qget_n,getD_lt hlt,hc _ (List.getElem_mem hlt),List.drop_eq_getElem_cons hlt]
   simp only[show((i:Int)<l.toList.length)by omega,decide_true,cond_true,qsome_s,qnth_s,List.getD_cons_zero,qbool_b,List.any_cons]
   cases hp:p l.toList[i]with
   |true=>exact .inr ⟨i,rfl,by simp⟩
   |false=>
    simp only[cond_false,Bool.false_or]
    rw[add_nat (by omega)]
    exact ih (i+1) (by omega)
 have:=key l.toList.length 0 (by omega)
 simpa using this
theorem size_elem {d:D} {j:Nat} {x:D} (h:x∈(d.fld j).toList):x.size<d.size:=by
 cases d with
 |agg xs=>
  simp only[D.fld,List.getD]at h
  cases hx:xs[j]? with
  |none=>rw[hx]at h;simp[D.toList]at h
  |some y=>
   rw[hx]at h
   simp only[Option.getD_some]at h
   have h1:=sizes_get hx
   cases y with
   |list ys=>
    simp only[D.toList]at h
    obtain⟨i,hi⟩:=List.getElem?_of_mem h
    have h2:=sizes_get hi
    simp only[D.size]at h1 ⊢
    omega
   |_=>simp[D.toList]at h
 |_=>simp[D.fld,D.toList]at h
end Go.AM
namespace Go.Proofs.YtfdedgmlafelaaaGreatDoor
open Go Go.AM
theorem qlen_l (xs:List D):qlen (.list xs)=(xs.length:Int):=by rw[qlen_c];rfl
theorem qmem_ok {n z:Nat} (hn:n≤100000) (hz:z≤100):qmem (n:Int) z=true:=by
 rw[qmem_eq]
 unfold rmem
 have h:(n:Int)*z≤100000*100:=by
  have h1:n*z≤100000*100:=Nat.mul_le_mul hn hz
  have h2:((n*z:Nat):Int)=(n:Int)*(z:Int):=by simp
  omega
 simp
 omega
theorem sizes_len:∀xs:List D,xs.length≤D.sizes xs
 | []=>by simp[D.sizes]
 |x::xs=>by
  have:=sizes_len xs
  have:=D.size_pos x
  simp only[D.sizes,List.length_cons];omega
theorem len_size (d:D):d.toList.length≤d.size:=by
 cases d<;>simp only[D.toList,D.size,List.length_nil]<;>first|omega|skip
 all_goals (rename_i xs;have:=sizes_len xs;omega)
theorem fld_size (d:D) (j:Nat):(d.fld j).size≤d.size:=by
 cases d with
 |agg xs=>
  simp only[D.fld,List.getD]
  cases hx:xs[j]? with
  |none=>simp[D.size]
  |some x=>have:=sizes_get hx;simp only[Option.getD_some,D.size];omega
 |_=>simp[D.fld,D.size]
theorem elem_size {d x:D} (h:x∈d.toList):x.size≤d.size:=by
 cases d<;>simp only[D.toList]at h<;>first|(cases h;done)|skip
 all_goals (obtain⟨i,hi⟩:=List.getElem?_of_mem h;have:=sizes_get hi;simp only[D.size];omega)
theorem fuel_two (l:List D):2≤fuelL l:=by
 induction l with
 |nil=>simp[fuelL]
 |cons x l ih=>simp only[fuelL];omega
theorem wt_ge (d:D):d.size≤d.wt∨∃m,d = .int m:=by
 cases d<;>simp[D.wt]
theorem fuel_in {d:D} {l:List D} (h:d∈l):d.size<fuelL l:=by
 induction l with
 |nil=>cases h
 |cons x l ih=>
  simp only[fuelL]
  rcases List.mem_cons.1 h with rfl|h
  ·have:=fuel_two l
   rcases wt_ge d with h|⟨m,rfl⟩
   ·omega
   ·simp[D.size];omega
  ·have:=ih h;omega
end Go.Proofs.YtfdedgmlafelaaaGreatDoor
namespace Go.Proofs.YtfdedgmlafelaaaGreatDoor
open Go Go.AM
def lim:Nat:=100000000
theorem sz_elems {j:Nat} {d:D} (h:d.size≤lim):(d.fld j).toList.length≤maxLen∧∀x∈(d.fld j).toList,x.size≤lim:=by
 have h1:=fld_size d j
 have h2:=len_size (d.fld j)
 refine⟨by unfold maxLen;unfold lim at h;omega,fun x hx=> ?_⟩
 have:=elem_size hx
 omega
theorem contains167 {Q:List D→Option (List D)} {l:D} {n:Int} {p:D→Bool} (hl:l.toList.length≤maxLen) (hc:∀x∈l.toList,q129 Q [x, .int n]=some [.bool (p x)]):q128_129 Q [l, .int n]=some [.bool (l.toList.any p)]:=by
 rw[q128_129_eq,F128_129_eq,q149_129_eq,F149_129_eq,l149_129_2_eq]
 rcases idxLoop (st:=st149_129_2 Q [l, .int n, .int (qlen l)]) (c:=fun x=>q129 Q [x, .int n]) (r1:=fun i=>[.int 1, .int i]) (r0:=[.int 0]) (fun i=>st149_129_2_eq Q l n (qlen l) i) hl hc with⟨h1,h2⟩|⟨i,h1,h2⟩
 ·simp[h1,h2,qsome_s,qnth_s,qint_i,qcmp_eql,qcmp_geq]
 ·simp[h1,h2,qsome_s,qnth_s,qint_i,qcmp_eql,qcmp_geq]
def deepS:Nat→D→Int→Bool
 |0,_,_=>false
 |N+1,d,n=>decide (n<1)||(d.fld 4).toList.any fun x=>deepS N x (n-1)
theorem deep_spec:∀(N:Nat) (d:D) (n:Int),d.size≤lim→d.size<N→ -9223372036854775808≤n→n≤9223372036854775807→F144 N [d, .int n]=some [.bool (deepS N d n)]∧F98 N [d, .int n]=some [.bool (!deepS N d n)]:=by
 intro N
 induction N with
 |zero=>intro d n _ h;omega
 |succ N ih=>
  intro d n hd hs h0 h1
  obtain⟨hl,hx⟩:=sz_elems hd
  rw[F144_s,F98_s,Fb144_eq,Fb98_eq]
  by_cases hn:n<1
  ·simp[qcmp_lss,qcmp_geq,hn,qiteB_c,deepS,show¬1≤n by omega]
  ·have hsub:qbin .sub .i64 n 1=n-1:=sub64 (by omega) (by omega)
   have hel:∀x∈(d.fld 4).toList,F144 N [x, .int (n-1)]=some [.bool (deepS N x (n-1))]∧F98 N [x, .int (n-1)]=some [.bool (!deepS N x (n-1))]:=
    fun x hm=>ih x (n-1) (hx x hm) (by have:=size_elem hm;omega) (by omega) (by omega)
   have h82:∀x∈(d.fld 4).toList,q129 (F98 N) [x, .int n]=some [.bool (deepS N x (n-1))]:=fun x hm=>by
    rw[q129_eq,F129_eq,hsub,(hel x hm).2]
    simp[qsome_s,qnth_s,qbool_b,qnot_c]
   have hcon:=contains167 (n:=n) hl h82
   rw[l144_4_eq,qfld_eq,hcon]
   have hloop:=idxLoop (st:=st144_4 (F144 N) [.int n,d]) (l:=d.fld 4) (c:=fun x=>F144 N [x, .int (n-1)]) (p:=fun x=>deepS N x (n-1)) (r1:=fun _=>[.int 1]) (r0:=[.int 0])
    (fun i=>by rw[st144_4_eq,hsub,qfld_eq]) hl (fun x hm=>(hel x hm).1)
   rcases hloop with⟨h3,h4⟩|⟨i,h3,h4⟩
   ·simp[h3,h4,qcmp_lss,qcmp_geq,hn,show 1≤n by omega,qsome_s,qnth_s,qint_i,qbool_b,qnot_c,qcmp_eql,qiteB_c,deepS]
   ·simp[h3,h4,qcmp_lss,qcmp_geq,hn,show 1≤n by omega,qsome_s,qnth_s,qint_i,qbool_b,qnot_c,qcmp_eql,qiteB_c,deepS]
theorem contains168 {Q:List D→Option (List D)} {l:D} {p:D→Bool} (hl:l.toList.length≤maxLen) (hc:∀x∈l.toList,q130 Q [x]=some [.bool (p x)]):q128_130 Q [l]=some [.bool (l.toList.any p)]:=by
 rw[q128_130_eq,F128_130_eq,q149_130_eq,F149_130_eq,l149_130_2_eq]
 rcases idxLoop (st:=st149_130_2 Q [l, .int (qlen l)]) (c:=fun x=>q130 Q [x]) (r1:=fun i=>[.int 1, .int i]) (r0:=[.int 0]) (fun i=>st149_130_2_eq Q l (qlen l) i) hl hc with⟨h1,h2⟩|⟨i,h1,h2⟩
 ·simp[h1,h2,qsome_s,qnth_s,qint_i,qcmp_eql,qcmp_geq]
 ·simp[h1,h2,qsome_s,qnth_s,qint_i,qcmp_eql,qcmp_geq]
theorem var_spec (v:Int):q123 [.int v]=some [.bool (decide (0≤v)&&decide (v<65536))]:=by
 rw[q123_eq,F123_eq];simp only[qiteB_c,qcmp_geq,qcmp_lss];cases h:decide (0≤v)<;>simp
theorem isVar_spec (v:Int):q113 [.int v]=some [.bool (decide (0≤v)&&decide (v<65536))]:=by
 rw[q113_eq,F113_eq];simp only[qiteB_c,qcmp_geq,qcmp_lss];cases h:decide (0≤v)<;>simp
theorem access_spec (v:Int):q124 [.int v]=some [.bool (decide (v=1)||decide (v=2)||decide (v=4))]:=by
 rw[q124_eq,F124_eq];simp only[qiteB_c,qcmp_eql];cases h:decide (v=1)<;>cases h2:decide (v=2)<;>simp
theorem formed_eq:∀(N:Nat) (d:D),d.size≤lim→d.size<N→∃b,F99 N [d]=some [.bool b]∧F145 N [d]=some [.bool b]:=by
 intro N
 induction N with
 |zero=>intro d _ h;omega
 |succ N ih=>
  intro d hd hs
  obtain⟨hl,hx⟩:=sz_elems hd
  have hel:∀x∈(d.fld 4).toList,∃b,F99 N [x]=some [.bool b]∧F145 N [x]=some [.bool b]:=fun x hm=>ih x (hx x hm) (by have:=size_elem hm;omega)
  let p:D→Bool:=fun x=>match F99 N [x]with|some [.bool b]=> !b|_=>false
  have h85:∀x∈(d.fld 4).toList,q130 (F99 N) [x]=some [.bool (p x)]:=fun x hm=>by
   obtain⟨b,h1,h2⟩:=hel x hm
   rw[q130_eq,F130_eq]
   simp[p,h1,qsome_s,qnth_s,qbool_b,qnot_c]
  have hcon:=contains168 hl h85
  rw[F99_s,F145_s,Fb99_eq,Fb145_eq]
  rw[l145_2_eq,qfld_eq,hcon]
  have hloop:=idxLoop (st:=st145_2 (F145 N) [d]) (l:=d.fld 4) (c:=fun x=>(F145 N [x]).map fun r=>[.bool (qnot (qbool (r.getD 0 .other)))]) (p:=p) (r1:=fun _=>[.int 1]) (r0:=[.int 0])
   (fun i=>by
    rw[st145_2_eq,qfld_eq]
    cases hq:F145 N [qget (d.fld 4) i]with
    |none=>simp[qsome_n]
    |some r=>simp[qsome_s,qnth_s,qbool_b]) hl (fun x hm=>by
    obtain⟨b,h1,h2⟩:=hel x hm
    simp[h1,h2,p,qbool_b,qnot_c])
  generalize (d.fld 4).toList.any p=an at *
  simp only[var_spec,isVar_spec,access_spec,qsome_s,qnth_s,List.getD_cons_zero,qbool_b,qnot_c,qcmp_eql,qcmp_geq,qcmp_leq,qiteB_c,decide_true,cond_true]
  generalize qint (d.fld 0)=o
  generalize qint (d.fld 1)=n
  generalize qint (d.fld 2)=v
  generalize qint (d.fld 3)=w
  generalize qlen (d.fld 4)=z
  rcases hloop with⟨h3,rfl⟩|⟨i,h3,rfl⟩
  ·simp only[h3,qsome_s,qnth_s,List.getD_cons_zero,qint_i,decide_true,cond_true,Bool.cond_self]
   by_cases e1:o=1
   ·subst e1;simp<;>grind
   by_cases e2:o=2
   ·subst e2;simp<;>grind
   by_cases e16:o=16
   ·subst e16;simp<;>grind
   by_cases e17:o=17
   ·subst e17;simp<;>grind
   by_cases e18:o=18
   ·subst e18;simp<;>grind
   by_cases e19:o=19
   ·subst e19;simp<;>grind
   simp[e1,e2,e16,e17,e18,e19]<;>grind
  ·simp only[h3,qsome_s,qnth_s,List.getD_cons_zero,qint_i,decide_true,cond_true,Bool.cond_self]
   by_cases e1:o=1
   ·subst e1;simp
   by_cases e2:o=2
   ·subst e2;simp<;>grind
   by_cases e16:o=16
   ·subst e16;simp
   by_cases e17:o=17
   ·subst e17;simp
   by_cases e18:o=18
   ·subst e18;simp<;>grind
   by_cases e19:o=19
   ·subst e19;simp<;>grind
   simp[e1,e2,e16,e17,e18,e19]<;>grind
end Go.Proofs.YtfdedgmlafelaaaGreatDoor
namespace Go.Proofs.YtfdedgmlafelaaaGreatDoor
open Go Go.AM
def firstErr (e:D→Int):List D→Int
 | []=>0
 |x::xs=>if e x=0 then firstErr e xs else e x
def errOut (n:Int):List D:=if n=0 then[.int 0]else[.int 1, .int n]
theorem errLoop {st:List D→Option (Sum (List D) (List D))} {l:D} {c:D→Option (List D)} {e:D→Int}
 (hst:∀i:Int,st [.int i]=bif qcmp .lss i (qlen l)then bif qinb l i then bif qsome (c (qget l i))then bif qcmp .neq (qint (qnth (c (qget l i)) 0)) 0 then some (.inr [.int 1, .int (qint (qnth (c (qget l i)) 0))])else some (.inl [.int (qbin .add .i64 i 1)])else none else none else some (.inr [.int 0]))
 (hl:l.toList.length≤maxLen) (hc:∀x∈l.toList,c x=some [.int (e x)]):loW st [.int 0]=some (errOut (firstErr e l.toList)):=by
 unfold maxLen at hl
 have key:∀k i:Nat,i+k=l.toList.length→loW st [.int i]=some (errOut (firstErr e (l.toList.drop i))):=by
  intro k
  induction k with
  |zero=>
   intro i hi
   rw[loW_eq,hst,qcmp_lss,qlen_c,List.drop_of_length_le (by omega)]
   simp[show¬((i:Int)<l.toList.length)by omega,firstErr,errOut]
  |succ k ih=>
   intro i hi
   have hlt:i<l.toList.length:=by omega
   rw[loW_eq,hst,qcmp_lss,qlen_c,qinb_n hlt,qget_n,getD_lt hlt,hc _ (List.getElem_mem hlt),List.drop_eq_getElem_cons hlt]
   simp only[show((i:Int)<l.toList.length)by omega,decide_true,cond_true,qsome_s,qnth_s,List.getD_cons_zero,qint_i,qcmp_neq,firstErr]
   by_cases he:e l.toList[i]=0
   ·simp only[he,decide_true,Bool.not_true,cond_false,if_true]
    rw[add_nat (by omega)]
    exact ih (i+1) (by omega)
   ·simp only[he,decide_false,Bool.not_false,cond_true,if_false]
    rw[errOut,if_neg he]
 have:=key l.toList.length 0 (by omega)
 simpa using this
theorem errOut_0 {n:Int}:qcmp .eql (qint (qnth (some (errOut n)) 0)) 0=decide (n=0):=by
 unfold errOut
 split<;>simp[qnth_s,qint_i,qcmp_eql, *]
theorem errOut_1 {n:Int} (h:n≠0):qint (qnth (some (errOut n)) 1)=n:=by
 unfold errOut
 rw[if_neg h];simp[qnth_s,qint_i]
theorem qsome_bif (c:Bool) (x y:Option (List D)):qsome (bif c then x else y)=bif c then qsome x else qsome y:=by cases c<;>rfl
theorem qnth_bif (c:Bool) (x y:Option (List D)) (j:Nat):qnth (bif c then x else y) j=bif c then qnth x j else qnth y j:=by cases c<;>rfl
theorem qint_bif (c:Bool) (x y:D):qint (bif c then x else y)=bif c then qint x else qint y:=by cases c<;>rfl
theorem qbool_bif (c:Bool) (x y:D):qbool (bif c then x else y)=bif c then qbool x else qbool y:=by cases c<;>rfl
theorem int_bif (c:Bool) (x y:Int):(bif c then some [D.int x]else some [D.int y])=some [D.int (bif c then x else y)]:=by cases c<;>rfl
noncomputable def eExpr (d:D):Int:=qint (qnth (F59 [d]) 0)
theorem fuel2 (d:D) (n:Int):d.size<fuelL [d, .int n]∧d.size<fuelL [d]:=by
 simp only[fuelL]
 have:d.size≤d.wt∨∃m,d = .int m:=by
  cases d<;>simp[D.wt]
 rcases this with h|⟨m,rfl⟩
 ·omega
 ·simp[D.size];omega
theorem expr_eq {d:D} (hd:d.size≤lim):F59 [d]=some [.int (eExpr d)]∧F111 [d]=some [.int (eExpr d)]:=by
 obtain⟨h1,h2⟩:=fuel2 d 64
 obtain⟨a,b⟩:=deep_spec (fuelL [d, .int 64]) d 64 hd h1 (by omega) (by omega)
 obtain⟨c,f1,f2⟩:=formed_eq (fuelL [d]) d hd h2
 have key:∃e,F59 [d]=some [.int e]∧F111 [d]=some [.int e]:=by
  rw[F59_eq,F111_eq,q98_eq,q144_eq,q99_eq,q145_eq]
  simp only[a,b,f1,f2,qsome_s,qnth_s,List.getD_cons_zero,qbool_b,qnot_c,cond_true]
  cases deepS (fuelL [d, .int 64]) d 64<;>cases c<;>simp
 obtain⟨e,h1,h2⟩:=key
 have:eExpr d=e:=by unfold eExpr;rw[h1];simp[qnth_s,qint_i]
 rw[this];exact⟨h1,h2⟩
noncomputable def eStmt (d:D):Int:=qint (qnth (F50 [d]) 0)
theorem exprsOf (d:D) (hd:d.size≤lim):(d.fld 6).toList.length≤maxLen∧∀x∈(d.fld 6).toList,x.size≤lim:=sz_elems hd
theorem stmt_eq {d:D} (hd:d.size≤lim):F50 [d]=some [.int (eStmt d)]∧F72 [d]=some [.int (eStmt d)]:=by
 obtain⟨hl,hx⟩:=exprsOf d hd
 have key:∃e,F50 [d]=some [.int e]∧F72 [d]=some [.int e]:=by
  have h1:=errLoop (st:=st50_5 [qfld d 6, .int (qlen (qfld d 6)),d]) (l:=d.fld 6) (c:=fun x=>q59 [x]) (e:=eExpr) (fun i=>by rw[st50_5_eq,qfld_eq]) hl (fun x hm=>by rw[q59_eq];exact(expr_eq (hx x hm)).1)
  have h2:=errLoop (st:=st72_4 [d]) (l:=d.fld 6) (c:=fun x=>q111 [x]) (e:=eExpr) (fun i=>by rw[st72_4_eq,qfld_eq]) hl (fun x hm=>by rw[q111_eq];exact(expr_eq (hx x hm)).2)
  rw[F50_eq,F72_eq,l50_5_eq,l72_4_eq]
  simp only[h1,h2]
  generalize firstErr eExpr (d.fld 6).toList=fe
  simp only[q93_eq,q110_eq,q94_eq,q112_eq,q113_eq,F93_eq,F110_eq,F94_eq,F112_eq,var_spec,isVar_spec,access_spec,F113_eq,errOut_0,qsome_bif,qnth_bif,qint_bif,qbool_bif,qsome_s,qnth_s,List.getD_cons_zero,qint_i,qbool_b,qnot_c,qiteB_c,qcmp_eql,qcmp_neq,qcmp_lss,qcmp_gtr,qcmp_geq,qcmp_leq,Bool.cond_self,cond_true]
  generalize qint (qnth (some (errOut fe)) 1)=fe1
  simp only[int_bif]
  refine⟨_,rfl,?_⟩
  congr 3
  generalize qint (qfld d 0)=o
  generalize qint (qfld d 1)=v
  generalize qint (qfld d 2)=w
  generalize qint (qfld d 3)=nx
  generalize qint (qfld d 4)=el
  generalize qint (qfld d 5)=tg
  generalize qlen (qfld d 6)=ne
  generalize qlen (qfld d 7)=nc
  by_cases a1:o=1
  ·subst a1;simp;grind
  by_cases a2:o=2
  ·subst a2;simp;grind
  by_cases a3:o=3
  ·subst a3;simp;grind
  by_cases a4:o=4
  ·subst a4;simp;grind
  by_cases a5:o=5
  ·subst a5;simp;grind
  by_cases a6:o=6
  ·subst a6;simp;grind
  by_cases a7:o=7
  ·subst a7;simp;grind
  by_cases a8:o=8
  ·subst a8;simp;grind
  by_cases a9:o=9
  ·subst a9;simp;grind
  by_cases a10:o=10
  ·subst a10;simp;grind
  simp[a1,a2,a3,a4,a5,a6,a7,a8,a9,a10];grind
 obtain⟨e,h1,h2⟩:=key
 have:eStmt d=e:=by unfold eStmt;rw[h1];simp[qnth_s,qint_i]
 rw[this];exact⟨h1,h2⟩
end Go.Proofs.YtfdedgmlafelaaaGreatDoor
namespace Go.Proofs.YtfdedgmlafelaaaGreatDoor
noncomputable section
open Go Go.AM
theorem tl_list (xs:List D):(D.list xs).toList=xs:=rfl
theorem qand_c (a b:Bool):qand a b=(a&&b):=by rw[qand_eq]
theorem anyFor {st:List D→Option (Sum (List D) (List D))} {n:Nat} {p:Nat→Bool} {r1:Nat→List D} {r0:List D} (hn:n≤maxLen)
 (h1:∀i:Nat,i<n→st [.int i]=bif p i then some (.inr (r1 i))else some (.inl [.int (qbin .add .i64 i 1)])) (h0:st [.int n]=some (.inr r0)):
 (loW st [.int 0]=some r0∧∀i,i<n→p i=false)∨∃i,i<n∧p i=true∧(∀j,j<i→p j=false)∧loW st [.int 0]=some (r1 i):=by
 unfold maxLen at hn
 have key:∀k i:Nat,i+k=n→(∀j,j<i→p j=false)→(loW st [.int i]=some r0∧∀i,i<n→p i=false)∨∃i',i'<n∧p i'=true∧(∀j,j<i'→p j=false)∧loW st [.int i]=some (r1 i'):=by
  intro k
  induction k with
  |zero=>
   intro i hi hp
   obtain rfl:i=n:=by omega
   exact .inl ⟨by rw[loW_eq,h0],hp⟩
  |succ k ih=>
   intro i hi hp
   have hlt:i<n:=by omega
   rw[loW_eq,h1 i hlt]
   cases hc:p i with
   |true=>exact .inr ⟨i,hlt,hc,hp,rfl⟩
   |false=>
    simp only[cond_false]
    rw[add_nat (by omega)]
    exact ih (i+1) (by omega) fun j hj=>by
     by_cases h:j=i
     ·subst h;exact hc
     ·exact hp j (by omega)
 exact key n 0 (by omega) (fun j hj=>absurd hj (Nat.not_lt_zero _))
def fErr (e:Nat→Int):Nat→Nat→Int
 |_,0=>0
 |i,k+1=>if e i=0 then fErr e (i+1) k else e i
theorem errFor {st:List D→Option (Sum (List D) (List D))} {n:Nat} {e:Nat→Int} (hn:n≤maxLen)
 (h1:∀i:Nat,i<n→st [.int i]=if e i=0 then some (.inl [.int (qbin .add .i64 i 1)])else some (.inr [.int 1, .int (e i)]))
 (h0:st [.int n]=some (.inr [.int 0])):loW st [.int 0]=some (errOut (fErr e 0 n)):=by
 unfold maxLen at hn
 have key:∀k i:Nat,i+k=n→loW st [.int i]=some (errOut (fErr e i k)):=by
  intro k
  induction k with
  |zero=>
   intro i hi
   obtain rfl:i=n:=by omega
   rw[loW_eq,h0];simp[fErr,errOut]
  |succ k ih=>
   intro i hi
   have hlt:i<n:=by omega
   rw[loW_eq,h1 i hlt]
   by_cases he:e i=0
   ·simp only[he,if_true,fErr]
    rw[add_nat (by omega)]
    exact ih (i+1) (by omega)
   ·simp only[he,if_false,fErr]
    rw[errOut,if_neg he]
 exact key n 0 (by omega)
theorem contG {st:List D→Option (Sum (List D) (List D))} {l:D} {c:D→Option (List D)} {p:D→Bool}
 (hst:∀i:Int,st [.int i]=bif qcmp .lss i (qlen l)then bif qinb l i then bif qsome (c (qget l i))then bif qbool (qnth (c (qget l i)) 0)then some (.inr [.int 1, .int i])else some (.inl [.int (qbin .add .i64 i 1)])else none else none else some (.inr [.int 0]))
 (hl:l.toList.length≤maxLen) (hc:∀x∈l.toList,c x=some [.bool (p x)]):
 ∃k:Int,(bif qsome (loW st [.int 0])then bif qcmp .eql (qint (qnth (loW st [.int 0]) 0)) 0 then some [D.int (-1)]else some [.int (qint (qnth (loW st [.int 0]) 1))]else none)=some [.int k]∧decide (0≤k)=l.toList.any p:=by
 rcases idxLoop (r1:=fun i=>[.int 1, .int i]) hst hl hc with⟨h1,h2⟩|⟨i,h1,h2⟩
 ·exact⟨-1,by simp[h1,qsome_s,qnth_s,qint_i,qcmp_eql],by rw[h2];rfl⟩
 ·exact⟨i,by simp[h1,qsome_s,qnth_s,qint_i,qcmp_eql],by rw[h2];simp⟩
theorem take_any {p:D→Bool} {xs:List D} {i:Nat} (hi:i≤xs.length):(xs.take i).any p=true↔∃k,k<i∧p (xs.getD k .other)=true:=by
 rw[List.any_eq_true]
 constructor
 ·rintro⟨x,hx,hp⟩
  obtain⟨k,hk,rfl⟩:=List.getElem_of_mem hx
  simp only[List.length_take]at hk
  refine⟨k,by omega,?_⟩
  rw[List.getElem_take]at hp
  rw[getD_lt (by omega)];exact hp
 ·rintro⟨k,hk,hp⟩
  rw[getD_lt (by omega)]at hp
  exact⟨_,List.mem_take_iff_getElem.2 ⟨k,by omega,rfl⟩,hp⟩
theorem qsub_l (d:D) (i:Nat):(qsub d 0 (i:Int)).toList=d.toList.take i:=by rw[qsub_eq];simp[D.sub,D.toList]
def term (d:D):Bool:=decide (6≤qint (qfld d 0))&&decide (qint (qfld d 0)≤10)
theorem term_p (d:D):q90 [d]=some [.bool (term d)]:=by
 rw[q90_eq,F90_eq];simp only[qiteB_c,qcmp_geq,qcmp_leq,term];cases decide (6≤qint (qfld d 0))<;>simp
theorem term_r (d:D):q109 [d]=some [.bool (term d)]:=by
 rw[q109_eq,F109_eq];simp only[qiteB_c,qcmp_geq,qcmp_leq,term];cases decide (6≤qint (qfld d 0))<;>simp
theorem contains101 {l:D} (hl:l.toList.length≤maxLen):q79_90 [l]=some [.bool (l.toList.any term)]:=by
 obtain⟨k,h1,h2⟩:=contG (st:=st116_90_2 [l, .int (qlen l)]) (c:=fun x=>q90 [x]) (p:=term) (fun i=>by rw[st116_90_2_eq]) hl (fun x _=>term_p x)
 rw[q79_90_eq,F79_90_eq,q116_90_eq,F116_90_eq,l116_90_2_eq,h1]
 simp only[qsome_s,cond_true,qnth_s,List.getD_cons_zero,qint_i,qcmp_geq,h2]
def outside (n:Int) (x:D):Bool:=decide (qint x<0)||decide (n≤qint x)
theorem outside_p (x g:D):q92 [.int (qint x),g]=some [.bool (outside (qlen (qfld g 1)) x)]:=by
 rw[q92_eq,F92_eq];simp only[qiteB_c,qcmp_lss,qcmp_geq,outside];cases decide (qint x<0)<;>simp
theorem contains105 {l g:D} (hl:l.toList.length≤maxLen):q91_92 [l,g]=some [.bool (l.toList.any (outside (qlen (qfld g 1))))]:=by
 obtain⟨k,h1,h2⟩:=contG (st:=st122_92_2 [l,g, .int (qlen l)]) (c:=fun x=>q92 [.int (qint x),g]) (p:=outside (qlen (qfld g 1))) (fun i=>by rw[st122_92_2_eq]) hl (fun x _=>outside_p x g)
 rw[q91_92_eq,F91_92_eq,q122_92_eq,F122_92_eq,l122_92_2_eq,h1]
 simp only[qsome_s,cond_true,qnth_s,List.getD_cons_zero,qint_i,qcmp_geq,h2]
def tgts (s:D):List D:=
 if qint (qfld s 0)=6 then[.int (qint (qfld s 3))]else if qint (qfld s 0)=7 then[.int (qint (qfld s 3)), .int (qint (qfld s 4))]else if qint (qfld s 0)=8 then(qfld s 7).toList else[]
theorem tgts_r (s:D):∃X,q89 [s]=some [X]∧X.toList=tgts s:=by
 rw[q89_eq,F89_eq]
 simp only[qcmp_eql,tgts]
 by_cases h6:qint (qfld s 0)=6
 ·simp[h6,tl_list]
 by_cases h7:qint (qfld s 0)=7
 ·simp[h7,tl_list]
 by_cases h8:qint (qfld s 0)=8
 ·simp[h8]
 simp[h6,h7,h8,tl_list]
def lastS (b:D):D:=qget (qfld b 1) (((qfld b 1).toList.length-1:Nat):Int)
theorem last_ixO {l:D} (h:l.toList.length≠0) (hl:l.toList.length≤maxLen):qbin .sub .i64 (qlen l) 1=((l.toList.length-1:Nat):Int):=by
 unfold maxLen at hl
 rw[qlen_c,sub64 (by omega) (by omega)];omega
theorem tgts_p {b:D} (h:(qfld b 1).toList.length≠0) (hl:(qfld b 1).toList.length≤maxLen) (hm:(qfld (lastS b) 7).toList.length≤lim):∃X,q22 [b]=some [X]∧X.toList=tgts (lastS b):=by
 rw[q22_eq,F22_eq,last_ixO h hl,qinb_n (by omega)]
 simp only[qcmp_eql,tgts,qlen_c]
 rw[show qget (qfld b 1) (((qfld b 1).toList.length-1:Nat):Int)=lastS b from rfl]
 have h0:¬(((qfld b 1).toList.length:Int)=0):=by omega
 simp only[h0,decide_false,cond_false,cond_true]
 by_cases h6:qint (qfld (lastS b) 0)=6
 ·simp[h6,tl_list]
 by_cases h7:qint (qfld (lastS b) 0)=7
 ·simp[h7,tl_list]
 by_cases h8:qint (qfld (lastS b) 0)=8
 ·have hq:q53 [qfld (lastS b) 7]=some [qapp (.list []) (qfld (lastS b) 7)]:=by
   rw[q53_eq]
   unfold F53
   have:qapp (.list []) (qfld (lastS b) 7) = .list (qfld (lastS b) 7).toList:=by rw[qapp_eq];simp[D.app,tl_list]
   simp only[List.headD_cons,this,qlen_c,tl_list]
   rw[qmem_eq]
   have hr:rmem ((qfld (lastS b) 7).toList.length:Int) 8=true:=by
    simp[rmem];have hlim:lim=100000000:=rfl;omega
   rw[hr];rfl
  have ha:(qapp (.list []) (qfld (lastS b) 7)).toList=(qfld (lastS b) 7).toList:=by rw[qapp_eq];simp[D.app,tl_list]
  simp[h8,hq,qsome_s,qnth_s,ha]
 simp[h6,h7,h8,tl_list]
end
end Go.Proofs.YtfdedgmlafelaaaGreatDoor
namespace Go.Proofs.YtfdedgmlafelaaaGreatDoor
noncomputable section
open Go Go.AM
theorem len_lt (d:D):d.toList.length<d.size:=by
 cases d with
 |list xs=>have:=sizes_len xs;simp only[D.toList,D.size];omega
 |_=>simp only[D.toList,D.size,List.length_nil];omega
theorem fld_le (d:D) (j:Nat):(qfld d j).size≤d.size:=by
 rw[qfld_eq]
 cases d with
 |agg xs=>
  simp only[D.fld,List.getD]
  cases h:xs[j]? with
  |none=>simp[D.size]
  |some y=>have:=sizes_get h;simp only[Option.getD_some,D.size];omega
 |_=>simp[D.fld,D.size]
theorem elem_le {l x:D} (h:x∈l.toList):x.size≤l.size:=by
 cases l with
 |list xs=>
  simp only[D.toList]at h
  obtain⟨i,hi⟩:=List.getElem?_of_mem h
  have:=sizes_get hi
  simp only[D.size];omega
 |_=>simp[D.toList]at h
theorem get_mem {l:D} {i:Nat} (h:i<l.toList.length):qget l i∈l.toList:=by
 rw[qget_n,getD_lt h];exact List.getElem_mem h
theorem sz_el {j:Nat} {d:D} (h:d.size≤lim):(qfld d j).toList.length≤maxLen∧∀x∈(qfld d j).toList,x.size≤lim:=by rw[qfld_eq];exact sz_elems h
theorem qeqB_c (a b:Bool):qeqB a b=(a==b):=by rw[qeqB_eq]
def sumK:List D→Int→Int
 | [],s=>s
 |x::xs,s=>sumK xs (qbin .add .i64 s (qlen (qfld x 1)))
theorem sumLoop {st:List D→Option (Sum (List D) (List D))} {l:D}
 (hst:∀s i:Int,st [.int s, .int i]=bif qcmp .lss i (qlen l)then bif qinb l i then some (.inl [.int (qbin .add .i64 s (qlen (qfld (qget l i) 1))), .int (qbin .add .i64 i 1)])else none else some (.inr [.int 0, .int s]))
 (hl:l.toList.length≤maxLen):loW st [.int 0, .int 0]=some [.int 0, .int (sumK l.toList 0)]:=by
 unfold maxLen at hl
 have key:∀k i:Nat,∀s:Int,i+k=l.toList.length→loW st [.int s, .int i]=some [.int 0, .int (sumK (l.toList.drop i) s)]:=by
  intro k
  induction k with
  |zero=>
   intro i s hi
   rw[loW_eq,hst,qcmp_lss,qlen_c,List.drop_of_length_le (by omega)]
   simp[show¬((i:Int)<l.toList.length)by omega,sumK]
  |succ k ih=>
   intro i s hi
   have hlt:i<l.toList.length:=by omega
   rw[loW_eq,hst,qcmp_lss,qinb_n hlt,qget_n,getD_lt hlt,List.drop_eq_getElem_cons hlt,show decide ((i:Int)<qlen l)=true by rw[qlen_c];simp;omega]
   simp only[cond_true,sumK]
   rw[add_nat (by omega)]
   exact ih (i+1) _ (by omega)
 exact key l.toList.length 0 0 (by omega)
def badB (n:Int) (b:D):Bool:=
 decide ((qfld b 1).toList.length=0)||(!term (lastS b)||((qfld b 1).toList.take ((qfld b 1).toList.length-1)).any term||(tgts (lastS b)).any (outside n))
theorem last_mem {b:D} (h:(qfld b 1).toList.length≠0):lastS b∈(qfld b 1).toList:=get_mem (by omega)
theorem tgts_len {s:D} (hs:s.size≤lim):(tgts s).length≤maxLen:=by
 unfold tgts
 split
 ·simp[maxLen]
 ·split
  ·simp[maxLen]
  ·split
   ·exact(sz_el hs).1
   ·simp[maxLen]
theorem closed_r {b:D} {n:Int} (hb:b.size≤lim):q71 [b, .int n]=some [.bool (!badB n b)]:=by
 obtain⟨hl,hx⟩:=sz_el hb
 rw[q71_eq,F71_eq]
 unfold badB
 by_cases h0:(qfld b 1).toList.length=0
 ·simp[qcmp_eql,qlen_c,h0]
 have hi:=last_ixO h0 hl
 have hloop:=anyFor (st:=st71_4 [.int n,b]) (n:=(qfld b 1).toList.length) (p:=fun i=> !(term (qget (qfld b 1) i)==decide (i=(qfld b 1).toList.length-1))) (r1:=fun _=>[.int 1]) (r0:=[.int 0]) hl
  (fun i hlt=>by
   rw[st71_4_eq,hi,qinb_n hlt,term_r,show qcmp .lss (i:Int) (qlen (qfld b 1))=true by rw[qcmp_lss,qlen_c];simp;omega]
   simp only[cond_true,qsome_s,qnth_s,List.getD_cons_zero,qbool_b,qnot_c,qcmp_eql,qeqB_c]
   congr 3
   simp only[Int.natCast_inj])
  (by rw[st71_4_eq,show qcmp .lss ((qfld b 1).toList.length:Int) (qlen (qfld b 1))=false by rw[qcmp_lss,qlen_c];simp];rfl)
 obtain⟨X,hX,hXl⟩:=tgts_r (lastS b)
 have hT:=tgts_len (hx _ (last_mem h0))
 have hloop2:=anyFor (st:=st71_10 [.int n,X]) (n:=X.toList.length) (p:=fun i=>outside n (X.toList.getD i .other)) (r1:=fun _=>[.int 1]) (r0:=[.int 0]) (by rw[hXl];exact hT)
  (fun i hlt=>by
   rw[st71_10_eq,qinb_n hlt,show qcmp .lss (i:Int) (qlen X)=true by rw[qcmp_lss,qlen_c];simp;omega,qget_n]
   simp only[cond_true,qcmp_lss,qcmp_geq,qiteB_c,outside]
   cases decide (qint (X.toList.getD i .other)<0)<;>simp)
  (by rw[st71_10_eq,show qcmp .lss (X.toList.length:Int) (qlen X)=false by rw[qcmp_lss,qlen_c];simp];rfl)
 rw[l71_4_eq,l71_10_eq,hi,qinb_n (by omega)]
 rw[show qget (qfld b 1) (((qfld b 1).toList.length-1:Nat):Int)=lastS b from rfl,hX]
 have hn0:qcmp .eql (qlen (qfld b 1)) 0=false:=by rw[qcmp_eql,qlen_c];simp;intro h;exact h0 (by rw[h];rfl)
 simp only[hn0,cond_false,cond_true,qsome_s,qnth_s,List.getD_cons_zero,decide_eq_false h0,Bool.false_or]
 have hlast:qget (qfld b 1) (((qfld b 1).toList.length-1:Nat):Int)=lastS b:=rfl
 rcases hloop with⟨h1,h2⟩|⟨i,hlt,hp,_,h1⟩
 ·have ht:term (lastS b)=true:=by
   have:=h2 ((qfld b 1).toList.length-1) (by omega)
   simp only[hlast,decide_true,Bool.not_eq_false',beq_iff_eq]at this
   exact this
  have ha:((qfld b 1).toList.take ((qfld b 1).toList.length-1)).any term=false:=by
   rw[← Bool.not_eq_true,take_any (by omega)]
   rintro⟨k,hk,hp⟩
   have:=h2 k (by omega)
   rw[qget_n,hp]at this
   simp[show¬k=(qfld b 1).toList.length-1 by omega]at this
  simp only[h1,qsome_s,qnth_s,List.getD_cons_zero,qint_i,qcmp_eql,decide_true,cond_true,ht,ha,Bool.not_true,Bool.false_or]
  rw[← hXl]
  rcases hloop2 with⟨h3,h4⟩|⟨i,hlt,hp,_,h3⟩
  ·have:X.toList.any (outside n)=false:=by
    rw[← Bool.not_eq_true]
    intro h
    obtain⟨x,hx,hp⟩:=List.any_eq_true.1 h
    obtain⟨k,hk,rfl⟩:=List.getElem_of_mem hx
    have:=h4 k hk
    rw[getD_lt hk,hp]at this;cases this
   simp[h3,qsome_s,qnth_s,qint_i,this]
  ·have:X.toList.any (outside n)=true:=by
    rw[getD_lt hlt]at hp
    exact List.any_eq_true.2 ⟨_,List.getElem_mem hlt,hp⟩
   simp[h3,qsome_s,qnth_s,qint_i,this]
 ·have hbad:(!term (lastS b)||((qfld b 1).toList.take ((qfld b 1).toList.length-1)).any term)=true:=by
   by_cases he:i=(qfld b 1).toList.length-1
   ·subst he
    simp only[hlast,decide_true]at hp
    have:term (lastS b)=false:=by simpa using hp
    rw[this];rfl
   ·have ht:term (qget (qfld b 1) i)=true:=by simpa[he]using hp
    have:((qfld b 1).toList.take ((qfld b 1).toList.length-1)).any term=true:=(take_any (by omega)).2 ⟨i,by omega,by rw[← qget_n];exact ht⟩
    rw[this];simp
  simp only[h1,qsome_s,qnth_s,List.getD_cons_zero,qint_i,qcmp_eql,cond_true,hbad,Bool.true_or,Bool.not_true]
  rfl
theorem closed_p {g:D} {i:Nat} {n:Int} (hi:i<(qfld g 1).toList.length) (hb:(qget (qfld g 1) i).size≤lim) (hg:(qget (qfld g 1) i).size≤lim) (hn:n=qlen (qfld g 1)):
 st49_4 [qfld g 1, .int n,g] [.int i]=bif badB n (qget (qfld g 1) i)then some (.inr [.int 1])else some (.inl [.int (qbin .add .i64 i 1)]):=by
 subst hn
 rw[st49_4_eq,show qcmp .lss (i:Int) (qlen (qfld g 1))=true by(rw[qcmp_lss,qlen_c];simp;omega),qinb_n hi]
 generalize qget (qfld g 1) i=b at *
 obtain⟨hl,hx⟩:=sz_el hb
 unfold badB
 by_cases h0:(qfld b 1).toList.length=0
 ·simp[qcmp_eql,qlen_c,h0,qiteB_c]
 have hix:=last_ixO h0 hl
 have hn0:qcmp .eql (qlen (qfld b 1)) 0=false:=by rw[qcmp_eql,qlen_c];simp;intro h;exact h0 (by rw[h];rfl)
 have hm:(qfld (lastS b) 7).toList.length≤lim:=by
  have h1:=len_lt (qfld (lastS b) 7)
  have h2:=fld_le (lastS b) 7
  have h3:=elem_le (last_mem h0)
  have h4:=fld_le b 1
  unfold lim at hg
  omega
 obtain⟨X,hX,hXl⟩:=tgts_p h0 hl hm
 have hT:=tgts_len (hx _ (last_mem h0))
 rw[hix,qinb_n (by omega),show qget (qfld b 1) (((qfld b 1).toList.length-1:Nat):Int)=lastS b from rfl,hn0,term_p,contains101 (by rw[qsub_l];simp only[List.length_take];omega),qsub_l,hX]
 simp only[qsome_s,qnth_s,List.getD_cons_zero,qbool_b,contains105 (l:=X) (g:=g) (by rw[hXl];exact hT),hXl,qcmp_leq,qlen_c,qiteB_c,qand_c,qnot_c,cond_true,cond_false,decide_eq_false h0,Bool.false_or,Bool.and_true]
 have e1:decide ((0:Int)≤(((qfld b 1).toList.length-1:Nat):Int))=true:=by simp
 have e2:decide ((((qfld b 1).toList.length-1:Nat):Int)≤((qfld b 1).toList.length:Int))=true:=by rw[decide_eq_true_iff];omega
 simp only[e1,e2,Int.le_refl,decide_true,Bool.and_self,Bool.cond_self,cond_true]
 cases term (lastS b)<;>cases ((qfld b 1).toList.take ((qfld b 1).toList.length-1)).any term<;>simp
theorem blocksOf {g:D} (hg:g.size≤lim):(qfld g 1).toList.length≤maxLen∧∀x∈(qfld g 1).toList,x.size≤lim:=sz_el hg
theorem shaped_eq {g:D} (hg:g.size≤lim) (hs:g.size≤lim):∃b:Bool,q49 [g]=some [.bool b]∧((qfld g 1).toList.length=0→b=false)∧
 ((qfld g 1).toList.length≠0→((loW (st35_13 [g]) [.int 0]=some [.int 0]∧b=true)∨(loW (st35_13 [g]) [.int 0]=some [.int 1]∧b=false))):=by
 obtain⟨hl,hx⟩:=blocksOf hg
 rw[q49_eq,F49_eq,l49_4_eq]
 by_cases h0:(qfld g 1).toList.length=0
 ·exact⟨false,by simp[qcmp_eql,qlen_c,h0],fun _=>rfl,fun h=>absurd h0 h⟩
 have hn0:qcmp .eql (qlen (qfld g 1)) 0=false:=by rw[qcmp_eql,qlen_c];simp;intro h;exact h0 (by rw[h];rfl)
 have hsz:∀i:Nat,i<(qfld g 1).toList.length→(qget (qfld g 1) i).size≤lim:=fun i hi=>by
  have h1:=elem_le (get_mem hi)
  have h2:=fld_le g 1
  omega
 have hp:=anyFor (st:=st49_4 [qfld g 1, .int (qlen (qfld g 1)),g]) (n:=(qfld g 1).toList.length) (p:=fun i=>badB (qlen (qfld g 1)) (qget (qfld g 1) i)) (r1:=fun _=>[.int 1]) (r0:=[.int 0]) hl
  (fun i hi=>closed_p hi (hx _ (get_mem hi)) (hsz i hi) rfl)
  (by rw[st49_4_eq,show qcmp .lss ((qfld g 1).toList.length:Int) (qlen (qfld g 1))=false by rw[qcmp_lss,qlen_c];simp];rfl)
 have hr:=anyFor (st:=st35_13 [g]) (n:=(qfld g 1).toList.length) (p:=fun i=>badB (qlen (qfld g 1)) (qget (qfld g 1) i)) (r1:=fun _=>[.int 1]) (r0:=[.int 0]) hl
  (fun i hi=>by
   rw[st35_13_eq,show qcmp .lss (i:Int) (qlen (qfld g 1))=true by rw[qcmp_lss,qlen_c];simp;omega,qinb_n hi,closed_r (hx _ (get_mem hi))]
   simp only[cond_true,qsome_s,qnth_s,List.getD_cons_zero,qbool_b,qnot_c,Bool.not_not])
  (by rw[st35_13_eq,show qcmp .lss ((qfld g 1).toList.length:Int) (qlen (qfld g 1))=false by rw[qcmp_lss,qlen_c];simp];rfl)
 simp only[hn0,cond_false]
 rcases hp with⟨h1,h2⟩|⟨i,hlt,hpi,_,h1⟩
 ·refine⟨true,by simp[h1,qsome_s,qnth_s,qint_i,qcmp_eql],fun h=>absurd h h0,fun _=> .inl ⟨?_,rfl⟩⟩
  rcases hr with⟨h3,_⟩|⟨j,hj,hpj,_,_⟩
  ·exact h3
  ·rw[h2 j hj]at hpj;cases hpj
 ·refine⟨false,by simp[h1,qsome_s,qnth_s,qint_i,qcmp_eql],fun h=>rfl,fun _=> .inr ⟨?_,rfl⟩⟩
  rcases hr with⟨_,h4⟩|⟨j,hj,hpj,_,h3⟩
  ·rw[h4 i hlt]at hpi;cases hpi
  ·exact h3
def eBlock (b:D):Int:=firstErr eStmt (qfld b 1).toList
theorem block_p {b a0:D} {a1 a2:Int} (hb:b.size≤lim):l19_15 [a0, .int a1, .int a2,qfld b 1, .int (qlen (qfld b 1))] [.int 0]=some (errOut (eBlock b)):=by
 obtain⟨hl,hx⟩:=sz_el hb
 rw[l19_15_eq]
 exact errLoop (st:=st19_15 [a0, .int a1, .int a2,qfld b 1, .int (qlen (qfld b 1))]) (l:=qfld b 1) (c:=fun x=>q50 [x]) (e:=eStmt) (fun i=>by rw[st19_15_eq]) hl (fun x hm=>by rw[q50_eq];exact(stmt_eq (hx x hm)).1)
theorem block_r {g:D} {i:Nat} (hi:i<(qfld g 1).toList.length) (hb:(qget (qfld g 1) i).size≤lim):l35_21 [.int i,g] [.int 0]=some (errOut (eBlock (qget (qfld g 1) i))):=by
 obtain⟨hl,hx⟩:=sz_el hb
 rw[l35_21_eq]
 exact errLoop (st:=st35_21 [.int i,g]) (l:=qfld (qget (qfld g 1) i) 1) (c:=fun x=>q72 [x]) (e:=eStmt) (fun k=>by rw[st35_21_eq,qinb_n hi];simp only[cond_true]) hl (fun x hm=>by rw[q72_eq];exact(stmt_eq (hx x hm)).2)
theorem errOut_2 (e:Int):qcmp .eql (qint (qnth (some (errOut e)) 0)) 0=decide (e=0):=errOut_0
def eGraph (g:D):Int:=qint (qnth (F19 [g]) 0)
theorem graph_eq {g:D} (hg:g.size≤lim) (hs:g.size≤lim):q19 [g]=some [.int (eGraph g)]∧q35 [g]=some [.int (eGraph g)]:=by
 obtain⟨hl,hx⟩:=blocksOf hg
 have key:∃e,F19 [g]=some [.int e]∧F35 [g]=some [.int e]:=by
  obtain⟨b,hb,hb0,hb1⟩:=shaped_eq hg hs
  have s1:=sumLoop (st:=st19_3 [qfld g 1, .int (qlen (qfld g 1)),g]) (l:=qfld g 1) (fun s i=>by rw[st19_3_eq]) hl
  have s2:=sumLoop (st:=st35_5 [g]) (l:=qfld g 1) (fun s i=>by rw[st35_5_eq]) hl
  have e1:=errFor (st:=st19_12 [qfld g 1, .int (qlen (qfld g 1))]) (n:=(qfld g 1).toList.length) (e:=fun i=>eBlock (qget (qfld g 1) i)) hl
   (fun i hi=>by
    rw[st19_12_eq,show qcmp .lss (i:Int) (qlen (qfld g 1))=true by rw[qcmp_lss,qlen_c];simp;omega,qinb_n hi,block_p (hx _ (get_mem hi)),errOut_0]
    simp only[cond_true,qsome_s]
    by_cases he:eBlock (qget (qfld g 1) i)=0
    ·simp[he]
    ·simp[he,errOut_1 he])
   (by rw[st19_12_eq,show qcmp .lss ((qfld g 1).toList.length:Int) (qlen (qfld g 1))=false by rw[qcmp_lss,qlen_c];simp];rfl)
  have e2:=errFor (st:=st35_18 [g]) (n:=(qfld g 1).toList.length) (e:=fun i=>eBlock (qget (qfld g 1) i)) hl
   (fun i hi=>by
    rw[st35_18_eq,show qcmp .lss (i:Int) (qlen (qfld g 1))=true by rw[qcmp_lss,qlen_c];simp;omega,block_r hi (hx _ (get_mem hi)),errOut_0]
    simp only[cond_true,qsome_s]
    by_cases he:eBlock (qget (qfld g 1) i)=0
    ·simp[he]
    ·simp[he,errOut_1 he])
   (by rw[st35_18_eq,show qcmp .lss ((qfld g 1).toList.length:Int) (qlen (qfld g 1))=false by rw[qcmp_lss,qlen_c];simp];rfl)
  rw[F19_eq,F35_eq,l19_3_eq,l35_5_eq,l19_12_eq,l35_13_eq,l35_18_eq]
  simp only[s1,s2,e1,e2,hb]
  simp only[qsome_s,qnth_s,List.getD_cons_zero,List.getD_cons_succ,qint_i,qbool_b,qnot_c,qcmp_gtr,qcmp_eql,qiteB_c,cond_true,qlen_c]
  generalize sumK (qfld g 1).toList 0=sm
  generalize fErr (fun i=>eBlock (qget (qfld g 1) i)) 0 (qfld g 1).toList.length=fe
  have hz:∀m:Int,decide (qint (qnth (some (errOut m)) 0)=0)=decide (m=0):=fun m=>by rw[← qcmp_eql];exact errOut_0
  have hL:((qfld g 1).toList.length=0)↔(((qfld g 1).toList.length:Int)=0):=by omega
  simp only[ne_eq,hL]at hb0 hb1
  generalize ((qfld g 1).toList.length:Int)=L at *
  by_cases hmx:256<L
  ·refine⟨6,?_,?_⟩<;>simp[hmx]
  by_cases hsm:1024<sm
  ·refine⟨6,?_,?_⟩<;>simp[hmx,hsm]
  by_cases h0:L=0
  ·refine⟨18,?_,?_⟩<;>simp[hsm,h0,hb0 h0]
  ·rcases hb1 h0 with⟨h1,rfl⟩|⟨h1,rfl⟩
   ·by_cases hf:fe=0
    ·refine⟨0,?_,?_⟩<;>simp[hmx,hsm,h0,h1,hf,qsome_s,qnth_s,qint_i,errOut]
    ·refine⟨fe,?_,?_⟩<;>simp[hmx,hsm,h0,h1,hf,qsome_s,qnth_s,qint_i,errOut]
   ·refine⟨18,?_,?_⟩<;>simp[hmx,hsm,h0,h1,qsome_s,qnth_s,qint_i]
 obtain⟨e,h1,h2⟩:=key
 have:eGraph g=e:=by unfold eGraph;rw[h1];simp[qnth_s,qint_i]
 rw[this,q19_eq,q35_eq];exact⟨h1,h2⟩
end
end Go.Proofs.YtfdedgmlafelaaaGreatDoor
namespace Go.Proofs.YtfdedgmlafelaaaGreatDoor
set_option linter.unusedSimpArgs false
open Go Go.AM
def gB (s:List Bool) (b:Nat):Bool:=s.getD b false
def gI (o:List Int) (b:Nat):Int:=o.getD b 0
def visit (e:Int):List Nat→List Nat→List Bool→List Int→Option (List Nat×List Bool×List Int)
 | [],w,s,o=>some (w,s,o)
 |t::ts,w,s,o=>if gB s t=true then(if gI o t=e then visit e ts w s o else none)else visit e ts (w ++ [t]) (s.set t true) (o.set t e)
def Sub (s:List Bool) (o:List Int) (A:Nat→Option Int):Prop:=∀b,gB s b=true→A b=some (gI o b)
theorem gB_set {s:List Bool} {t b:Nat} (h:t<s.length):gB (s.set t true) b=(decide (b=t)||gB s b):=by
 unfold gB
 simp only[List.getD,List.getElem?_set]
 by_cases e:t=b
 ·subst e;simp[h]
 ·simp[e,show¬b=t from fun x=>e x.symm]
theorem gI_set {o:List Int} {t b:Nat} {e:Int} (h:t<o.length):gI (o.set t e) b=if b=t then e else gI o b:=by
 unfold gI
 simp only[List.getD,List.getElem?_set]
 by_cases e:t=b
 ·subst e;simp[h]
 ·simp[e,show¬b=t from fun x=>e x.symm]
theorem cnt_set:∀(s:List Bool) (t:Nat),gB s t=false→t<s.length→(s.set t true).count false+1=s.count false
 | [],t,_,h=>by simp at h
 |x::s,0,h,_=>by
  have:x=false:=by simpa[gB]using h
  subst this
  simp
 |x::s,t+1,h,hl=>by
  have ih:=cnt_set s t (by simpa[gB]using h) (by simpa using hl)
  simp only[List.set_cons_succ,List.count_cons]
  omega
theorem cnt_le (s:List Bool):s.count false≤s.length:=List.count_le_length
structure Vis (n:Nat) (e:Int) (ts w:List Nat) (s:List Bool) (o:List Int) (w':List Nat) (s':List Bool) (o':List Int):Prop where
 ls:s'.length=n
 lo:o'.length=n
 new:∃ne,w'=w++ne∧(∀b∈ne,b<n∧gB s' b=true)∧ne.length+s'.count false=s.count false∧∀b,gB s' b=true→gB s b=true∨b∈ne
 old:∀b,gB s b=true→gB s' b=true∧gI o' b=gI o b
 at':∀t∈ts,gB s' t=true∧gI o' t=e
 zero:(∀b,gB s b=false→gI o b=0)→∀b,gB s' b=false→gI o' b=0
 sub:∀A,Sub s o A→(∀t∈ts,A t=some e)→Sub s' o' A
theorem visit_some {n:Nat} {e:Int}:∀(ts w:List Nat) (s:List Bool) (o:List Int) {w':List Nat} {s':List Bool} {o':List Int},visit e ts w s o=some (w',s',o')→s.length=n→o.length=n→(∀t∈ts,t<n)→Vis n e ts w s o w' s' o'
 | [],w,s,o,w',s',o',h,hs,ho,_=>by
   simp only[visit,Option.some.injEq,Prod.mk.injEq]at h
   obtain⟨rfl,rfl,rfl⟩:=h
   exact⟨hs,ho,⟨[],by simp,by simp,by simp,fun b h=> .inl h⟩,fun b h=>⟨h,rfl⟩,by simp,fun h=>h,fun _ h _=>h⟩
 |t::ts,w,s,o,w',s',o',h,hs,ho,ht=>by
  have htn:=ht t (by simp)
  unfold visit at h
  by_cases hg:gB s t=true
  ·rw[if_pos hg]at h
   by_cases he:gI o t=e
   ·rw[if_pos he]at h
    have v:=visit_some ts w s o h hs ho (fun x hx=>ht x (by simp[hx]))
    refine⟨v.ls,v.lo,v.new,v.old,fun x hx=> ?_,v.zero,fun A a1 a2=>v.sub A a1 fun x hx=>a2 x (by simp[hx])⟩
    rcases List.mem_cons.1 hx with rfl|hx
    ·have:=v.old x hg;exact⟨this.1,by rw[this.2,he]⟩
    ·exact v.at' x hx
   ·rw[if_neg he]at h;cases h
  ·rw[if_neg hg]at h
   have hg':gB s t=false:=by simpa using hg
   have v:=visit_some ts (w ++ [t]) (s.set t true) (o.set t e) h (by simpa using hs) (by simpa using ho) (fun x hx=>ht x (by simp[hx]))
   have k1:∀b,gB (s.set t true) b=(decide (b=t)||gB s b):=fun b=>gB_set (by omega)
   have k2:∀b,gI (o.set t e) b=if b=t then e else gI o b:=fun b=>gI_set (by omega)
   have kt:=v.old t (by rw[k1];simp)
   rw[k2,if_pos rfl]at kt
   obtain⟨ne,n1,n2,n3,n4⟩:=v.new
   have hc:=cnt_set s t hg' (by omega)
   refine⟨v.ls,v.lo,⟨t::ne,by rw[n1];simp,fun b hb=> ?_,by simp only[List.length_cons];omega,fun b hb=> ?_⟩,fun b hb=> ?_,fun x hx=> ?_,fun h0 b hb=> ?_,fun A a1 a2=> ?_⟩
   ·rcases List.mem_cons.1 hb with rfl|hb
    ·exact⟨htn,kt.1⟩
    ·exact n2 b hb
   ·rcases n4 b hb with h1|h1
    ·rw[k1,Bool.or_eq_true,decide_eq_true_eq]at h1
     rcases h1 with rfl|h1
     ·exact .inr (by simp)
     ·exact .inl h1
    ·exact .inr (by simp[h1])
   ·have hbt:b≠t:=fun x=>by rw[x,hg']at hb;cases hb
    have:=v.old b (by rw[k1,hb];simp)
    rw[k2,if_neg hbt]at this
    exact this
   ·rcases List.mem_cons.1 hx with rfl|hx
    ·exact kt
    ·exact v.at' x hx
   ·refine v.zero (fun b hb=> ?_) b hb
    rw[k1,Bool.or_eq_false_iff,decide_eq_false_iff_not]at hb
    rw[k2,if_neg hb.1]
    exact h0 b hb.2
   ·refine v.sub A (fun b hb=> ?_) (fun x hx=>a2 x (by simp[hx]))
    rw[k2]
    by_cases hbt:b=t
    ·subst hbt;rw[if_pos rfl];exact a2 b (by simp)
    ·rw[if_neg hbt]
     rw[k1,Bool.or_eq_true,decide_eq_true_eq]at hb
     exact a1 b (hb.resolve_left hbt)
theorem visit_none {n:Nat} {e:Int} {A:Nat→Option Int}:∀(ts w:List Nat) (s:List Bool) (o:List Int),visit e ts w s o=none→s.length=n→o.length=n→(∀t∈ts,t<n)→Sub s o A→(∀t∈ts,A t=some e)→False
 | [],w,s,o,h,_,_,_,_,_=>by cases h
 |t::ts,w,s,o,h,hs,ho,ht,a1,a2=>by
  have htn:=ht t (by simp)
  unfold visit at h
  by_cases hg:gB s t=true
  ·rw[if_pos hg]at h
   by_cases he:gI o t=e
   ·rw[if_pos he]at h
    exact visit_none ts w s o h hs ho (fun x hx=>ht x (by simp[hx])) a1 (fun x hx=>a2 x (by simp[hx]))
   ·have h1:=a1 t hg
    rw[a2 t (by simp)]at h1
    cases h1
    exact he rfl
  ·rw[if_neg hg]at h
   refine visit_none ts _ _ _ h (by simpa using hs) (by simpa using ho) (fun x hx=>ht x (by simp[hx])) (fun b hb=> ?_) (fun x hx=>a2 x (by simp[hx]))
   rw[gB_set (by omega),Bool.or_eq_true,decide_eq_true_eq]at hb
   rw[gI_set (by omega)]
   by_cases hbt:b=t
   ·subst hbt;rw[if_pos rfl];exact a2 b (by simp)
   ·rw[if_neg hbt];exact a1 b (hb.resolve_left hbt)
section
variable (fin:Nat→Int→Option Int) (succ:Nat→List Nat) (n:Nat)
def Cons (A:Nat→Option Int):Prop:=A 0=some 0∧∀b d,A b=some d→∃e,fin b d=some e∧∀t∈succ b,A t=some e
def asg (s:List Bool) (o:List Int):Nat→Option Int:=fun b=>if gB s b=true then some (gI o b)else none
def Good:Option (List Bool×List Int)→Prop
 |some (s,o)=>s.length=n∧o.length=n∧Cons fin succ (asg s o)∧(∀A,Cons fin succ A→Sub s o A)∧∀b,gB s b=false→gI o b=0
 |none=>∀A,¬Cons fin succ A
theorem good_eq {r r':Option (List Bool×List Int)} (h:Good fin succ n r) (h':Good fin succ n r'):r.map Prod.snd=r'.map Prod.snd:=by
 cases r with
 |none=>
  cases r' with
  |none=>rfl
  |some p=>exact absurd h'.2.2.1 (h _)
 |some p=>
  cases r' with
  |none=>exact absurd h.2.2.1 (h' _)
  |some p'=>
   obtain⟨s,o⟩:=p
   obtain⟨s',o'⟩:=p'
   obtain⟨l1,l2,c,m,z⟩:=h
   obtain⟨l1',l2',c',m',z'⟩:=h'
   have h1:=m _ c'
   have h2:=m' _ c
   simp only[Option.map_some,Option.some.injEq]
   have key:∀b,gI o b=gI o' b:=fun b=>by
    cases hb:gB s b with
    |true=>
     have:=h1 b hb
     unfold asg at this
     split at this
     ·exact(Option.some.inj this).symm
     ·cases this
    |false=>
     cases hb':gB s' b with
     |true=>
      have:=h2 b hb'
      unfold asg at this
      split at this
      ·exact Option.some.inj this
      ·cases this
     |false=>rw[z b hb,z' b hb']
   refine List.ext_getElem? fun b=> ?_
   by_cases hb:b<n
   ·have:=key b
    unfold gI at this
    rw[List.getElem?_eq_getElem (by omega:b<o.length),List.getElem?_eq_getElem (by omega:b<o'.length)]
    rw[List.getD_eq_getElem?_getD,List.getD_eq_getElem?_getD,List.getElem?_eq_getElem (by omega:b<o.length),List.getElem?_eq_getElem (by omega:b<o'.length)]at this
    simpa using this
   ·rw[List.getElem?_eq_none (by omega),List.getElem?_eq_none (by omega)]
structure SInv (P:List Nat) (s:List Bool) (o:List Int):Prop where
 ls:s.length=n
 lo:o.length=n
 s0:gB s 0=true
 o0:gI o 0=0
 clo:∀b,gB s b=true→b∈P∨∃e,fin b (gI o b)=some e∧∀t∈succ b,gB s t=true∧gI o t=e
 pen:∀b∈P,b<n∧gB s b=true
 zero:∀b,gB s b=false→gI o b=0
 sub:∀A,Cons fin succ A→Sub s o A
theorem SInv.done {s:List Bool} {o:List Int} (h:SInv fin succ n [] s o):Good fin succ n (some (s,o)):=by
 refine⟨h.ls,h.lo,⟨by unfold asg;rw[if_pos h.s0,h.o0],fun b d hb=> ?_⟩,h.sub,h.zero⟩
 unfold asg at hb
 split at hb
 ·rename_i hs
  cases hb
  rcases h.clo b hs with h1|⟨e,h1,h2⟩
  ·cases h1
  ·exact⟨e,h1,fun t ht=>by unfold asg;rw[if_pos (h2 t ht).1,(h2 t ht).2]⟩
 ·cases hb
theorem SInv.bad {P:List Nat} {s:List Bool} {o:List Int} (h:SInv fin succ n P s o) {b:Nat} (hb:b∈P) (hf:fin b (gI o b)=none):Good fin succ n none:=fun A hA=>by
 obtain⟨e,he,_⟩:=hA.2 b _ (h.sub A hA b (h.pen b hb).2)
 rw[hf]at he;cases he
theorem SInv.bad2 {P:List Nat} {s:List Bool} {o:List Int} (h:SInv fin succ n P s o) {b:Nat} {e:Int} {w:List Nat} (hb:b∈P) (hf:fin b (gI o b)=some e) (ht:∀t∈succ b,t<n) (hv:visit e (succ b) w s o=none):Good fin succ n none:=fun A hA=>by
 obtain⟨e',he,h2⟩:=hA.2 b _ (h.sub A hA b (h.pen b hb).2)
 rw[hf]at he;cases he
 exact visit_none (succ b) w s o hv h.ls h.lo ht (h.sub A hA) h2
theorem SInv.step {P P':List Nat} {s s':List Bool} {o o':List Int} (h:SInv fin succ n P s o) {b:Nat} {e:Int} {w w':List Nat} (hb:b∈P) (hP:∀x∈P,x=b∨x∈P') (hP':∀x∈P',x∈P) (hf:fin b (gI o b)=some e) (ht:∀t∈succ b,t<n) (hv:visit e (succ b) w s o=some (w',s',o')):
 ∃ne,w'=w++ne∧ne.length+s'.count false=s.count false∧SInv fin succ n (P'++ne) s' o':=by
 have v:=visit_some (succ b) w s o hv h.ls h.lo ht
 obtain⟨ne,n1,n2,n3,n4⟩:=v.new
 refine⟨ne,n1,n3,⟨v.ls,v.lo,(v.old 0 h.s0).1,by rw[(v.old 0 h.s0).2,h.o0],fun x hx=> ?_,fun x hx=> ?_,v.zero h.zero,fun A hA=> ?_⟩⟩
 ·rcases n4 x hx with h1|h1
  ·have ov:=(v.old x h1).2
   rcases h.clo x h1 with h2|⟨e',h2,h3⟩
   ·rcases hP x h2 with rfl|h2
    ·exact .inr ⟨e,by rw[ov,hf],v.at'⟩
    ·exact .inl (by simp[h2])
   ·exact .inr ⟨e',by rw[ov,h2],fun t ht=>by have:=v.old t (h3 t ht).1;exact⟨this.1,by rw[this.2,(h3 t ht).2]⟩⟩
  ·exact .inl (by simp[h1])
 ·rcases List.mem_append.1 hx with hx|hx
  ·have:=h.pen x (hP' x hx);exact⟨this.1,(v.old x this.2).1⟩
  ·exact n2 x hx
 ·obtain⟨e',he,h2⟩:=hA.2 b _ (h.sub A hA b (h.pen b hb).2)
  rw[hf]at he;cases he
  exact v.sub A (h.sub A hA) h2
end
theorem SInv.start {fin:Nat→Int→Option Int} {succ:Nat→List Nat} {n:Nat} (hn:0<n):SInv fin succ n [0] ((List.replicate n false).set 0 true) (List.replicate n 0):=by
 have h1:∀b,gB ((List.replicate n false).set 0 true) b=decide (b=0):=fun b=>by
  rw[gB_set (by simpa using hn)]
  have:gB (List.replicate n false) b=false:=by
   unfold gB
   simp only[List.getD,List.getElem?_replicate]
   split<;>rfl
  rw[this,Bool.or_false]
 have h2:∀b,gI (List.replicate n 0) b=0:=fun b=>by
  unfold gI
  simp only[List.getD,List.getElem?_replicate]
  split<;>rfl
 refine⟨by simp,by simp,by rw[h1];rfl,h2 0,fun b hb=> ?_,fun b hb=> ?_,fun b _=>h2 b,fun A hA b hb=> ?_⟩
 ·rw[h1,decide_eq_true_eq]at hb;exact .inl (by simp[hb])
 ·simp only[List.mem_singleton]at hb;subst hb;exact⟨hn,by rw[h1];rfl⟩
 ·rw[h1,decide_eq_true_eq]at hb;subst hb;rw[h2];exact hA.1
end Go.Proofs.YtfdedgmlafelaaaGreatDoor
