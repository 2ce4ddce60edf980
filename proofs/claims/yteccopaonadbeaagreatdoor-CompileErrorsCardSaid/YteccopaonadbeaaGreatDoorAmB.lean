/-
  Calls by contents: what is handed over and what is handed back, seen by its contents.
-/
import Derived.Test.YteccopaonadbeaaGreatDoorAmA
set_option linter.unusedVariables false
set_option linter.unusedSimpArgs false
namespace Go.AM
section
variable {P:Program} {lo:Nat→Prop} {w0:World} {ρ:Nat→Option Nat} {E:Nat→Prop} {H:Hp} {w:World}
structure Reach (lo:Nat→Prop) (ρ:Nat→Option Nat) (E:Nat→Prop) (w:World) (ρ':Nat→Option Nat) (E':Nat→Prop) (w':World):Prop where
 ext:Ext ρ E w ρ' E' w'
 new:∀b,E' b→E b∨¬lo b
theorem Reach.size {ρ':Nat→Option Nat} {E':Nat→Prop} {w':World} (h:Reach lo ρ E w ρ' E' w'):w.heap.size≤w'.heap.size:=h.ext.bigger
theorem Reach.refl:Reach lo ρ E w ρ E w:=⟨Ext.refl,fun _ h=> .inl h⟩
theorem Reach.trans {ρ' ρ'':Nat→Option Nat} {E' E'':Nat→Prop} {w' w'':World} (h:Reach lo ρ E w ρ' E' w') (h':Reach lo ρ' E' w' ρ'' E'' w''):Reach lo ρ E w ρ'' E'' w'':=
 ⟨h.ext.trans h'.ext,fun b hb=>by
  rcases h'.new b hb with e|e
  ·exact h.new b e
  ·exact .inr e⟩
def SoundAt (P:Program) (pre:FuncId→List AV→Hp→List Bool) (r:Rec) (f:FuncId):Prop:=
 ∀args H v H',r f args H=some (v,H')→allB (pre f args H)=true→∀lo w0 ρ E w (vs:Array Value),Inv lo w0 ρ E H w→RepL ρ E w args vs.toList→
  Calls P f vs w fun e w'=>∃u ρ' E',e = .returned u∧Inv lo w0 ρ' E' H' w'∧Reach lo ρ E w ρ' E' w'∧Rep ρ' E' w' v u
def SoundRec (P:Program) (pre:FuncId→List AV→Hp→List Bool) (r:Rec):Prop:=∀f,SoundAt P pre r f
theorem Inv.empty (w:World) (E:Nat→Prop) (hE:∀b,E b→b<w.heap.size) {H0:Hp} (hn:H0.n=0) (hb:H0.bs = []) (hg:∀g cs,H0.glob g=some cs→E g∧GlRep E w g cs):Inv (fun b=>b<w.heap.size) w nowhere E H0 w:=
 {gl:=hg,len:=by rw[hn,hb];rfl,dom:=fun _ _ e=>(by cases e),blk:=fun _ _ _ _ e=>(by cases e),inj:=fun _ _ _ _ _ _ _ e=>(by cases e),notE:=fun _ _ _ _ e=>(by cases e),bd:=fun _ _ e=>(by cases e),ebd:=hE,lole:=fun _ h=>h,old:=fun _ _=>rfl,io:=⟨rfl,rfl,rfl⟩}
theorem pure_call {r:Rec} {env:Env} (hr:SoundRec P env.pre r) {f:FuncId} {args:List AV} {v:AV} {H':Hp} (hp:env.isPure f=true) (h:callA env r f args H=some (v,H')) (hob:allB (callObl env f args H)=true)
 (inv:Inv lo w0 ρ E H w) {vs:Array Value} (ra:RepL ρ E w args vs.toList):
 Calls P f vs w fun e w'=>∃u ρ' E',e = .returned u∧Inv lo w0 ρ' E' H' w'∧Reach lo ρ E w ρ' E' w'∧Rep ρ' E' w' v u∧ρ'=ρ:=by
 unfold callA at h
 simp only[hp,cond_true]at h
 cases ha:mapO (expo H expoDepth) args with
 |none=>simp[ha]at h
 |some args'=>
  simp only[ha,Option.bind_some]at h
  have hob':allB ((args.map (expoObl H expoDepth)).flatten++env.pre f args' H.fresh)=true:=by simpa only[callObl,hp,cond_true,ha]using hob
  obtain⟨hox,hpre⟩:=allB_both hob'
  unfold callPure at h
  cases hrun:r f args' H.fresh with
  |none=>simp[hrun]at h
  |some p=>
   obtain⟨raw,Hc⟩:=p
   simp only[hrun,Option.bind_some]at h
   cases hem:(expoObl Hc expoDepth raw).isEmpty with
   |false=>simp[hem]at h
   |true=>
   simp only[hem,cond_true]at h
   have hxo:allB (expoObl Hc expoDepth raw)=true:=by rw[List.isEmpty_iff.1 hem];rfl
   cases hx:expo Hc expoDepth raw with
   |none=>simp[hx]at h
   |some v'=>
    simp only[hx,Option.bind_some,Option.map_some]at h
    cases hfl:(args.all (ownFree expoDepth)||extFree Hc expoDepth raw)with
    |false=>simp[hfl]at h
    |true=>
     simp only[hfl,cond_true,Option.some.injEq,Prod.mk.injEq]at h
     obtain⟨rfl,rfl⟩:=h
     have hEc:∃Ec:Nat→Prop,(∀b,Ec b→b<w.heap.size)∧RepL nowhere Ec w args' vs.toList∧((∀b,Ec b→E b)∨extFree Hc expoDepth raw=true)∧(∀g cs,H.fresh.glob g=some cs→Ec g∧GlRep Ec w g cs):=by
      cases ho:args.all (ownFree expoDepth)with
      |true=>exact⟨E,inv.ebd,expoL_rep inv ha hox ra (ownFree_tchL ho) (fun _ h=>h), .inl fun _ h=>h,inv.gl⟩
      |false=>
       refine⟨fun b=>b<w.heap.size,fun _ h=>h,expoL_rep inv ha hox ra (fun i _ _ b _ hb=>(inv.bd i b hb).2) inv.ebd, .inr ?_,fun g cs hg=> ?_⟩
       ·simpa[ho]using hfl
       ·obtain⟨h1,h2⟩:=inv.gl g cs hg
        exact⟨inv.ebd g h1,RepAt.mono (ρ:=nowhere) (ρ':=nowhere) ⟨fun _ _ e=>e,inv.ebd,fun _ _=>rfl,fun _ _ _ _ _ e=>(by cases e),Nat.le_refl _⟩ g h1 cs 0 h2.1,h2.2⟩
     obtain⟨Ec,hEcb,hra,hback,hgc⟩:=hEc
     refine(hr f args' H.fresh raw Hc hrun hpre (fun b=>b<w.heap.size) w nowhere Ec w vs (Inv.empty w Ec hEcb rfl rfl hgc) hra).mono ?_
     rintro e w' ⟨u,ρ',E',rfl,inv',reach,hrep⟩
     have hold:∀b,b<w.heap.size→w'.heap[b]? = w.heap[b]? :=inv'.old
     refine⟨u,ρ,fun b=>E b∨(w.heap.size≤b∧b<w'.heap.size),rfl,?_,⟨?_,?_⟩,?_,rfl⟩
     ·have ext:Ext ρ E w ρ (fun b=>E b∨(w.heap.size≤b∧b<w'.heap.size)) w':=Ext.grow (fun _ _ h=>h) (fun _ h=> .inl h) (fun i b hb=>(inv.bd i b hb).2) inv.ebd hold reach.size
      exact{len:=inv.len,dom:=inv.dom,blk:=fun i k b hk hb=>(inv.blk i k b hk hb).mono ext (hold b (inv.bd i b hb).2),inj:=inv.inj,
            notE:=fun i k b hk hb he=>by
             rcases he with he|he
             ·exact inv.notE i k b hk hb he
             ·have:=(inv.bd i b hb).2;omega
            bd:=fun i b hb=>⟨(inv.bd i b hb).1,Nat.lt_of_lt_of_le (inv.bd i b hb).2 reach.size⟩
            ebd:=fun b he=>by
             rcases he with he|he
             ·exact Nat.lt_of_lt_of_le (inv.ebd b he) reach.size
             ·exact he.2
            lole:=fun b hb=>Nat.lt_of_lt_of_le (inv.lole b hb) reach.size
            old:=fun b hb=>(hold b (inv.lole b hb)).trans (inv.old b hb)
            io:=inv.io.trans inv'.io,gl:=gl_mono rfl ext inv.gl}
     ·exact Ext.grow (fun _ _ h=>h) (fun _ h=> .inl h) (fun i b hb=>(inv.bd i b hb).2) inv.ebd hold reach.size
     ·intro b hb
      rcases hb with hb|hb
      ·exact .inl hb
      ·exact .inr fun h=>by have:=inv.lole b h;omega
     ·refine Rep.up (expo_rep inv' expoDepth raw v' u hx hxo hrep (fun i _ _ b _ hb=> .inr ⟨Nat.le_of_not_lt (inv'.bd i b hb).1,(inv'.bd i b hb).2⟩) ?_)
      rcases hback with hback|hback
      ·refine .inr fun b hb=> ?_
       rcases reach.new b hb with e|e
       ·exact .inl (hback b e)
       ·exact .inr ⟨Nat.le_of_not_lt e,inv'.ebd b hb⟩
      ·exact .inl hback
theorem frz_call {r:Rec} {env:Env} (hr:SoundRec P env.pre r) {f:FuncId} {args:List AV} {v:AV} {H':Hp} (hp:env.isPure f=false) (hz:env.isFrz f=true) (h:callA env r f args H=some (v,H')) (hob:allB (callObl env f args H)=true)
 (inv:Inv lo w0 ρ E H w) {vs:Array Value} (ra:RepL ρ E w args vs.toList):
 Calls P f vs w fun e w'=>∃u ρ' E',e = .returned u∧Inv lo w0 ρ' E' H' w'∧Reach lo ρ E w ρ' E' w'∧Rep ρ' E' w' v u:=by
 unfold callA at h
 simp only[hp,hz,cond_true,cond_false]at h
 cases ha:mapO (expo H expoDepth) args with
 |none=>simp[ha]at h
 |some args'=>
  simp only[ha,Option.bind_some]at h
  have hob':allB ((args.map (expoObl H expoDepth)).flatten++env.pre f args' H.fresh)=true:=by simpa only[callObl,hp,hz,cond_true,cond_false,ha]using hob
  obtain⟨hox,hpre⟩:=allB_both hob'
  unfold callPure at h
  cases hrun:r f args' H.fresh with
  |none=>simp[hrun]at h
  |some p=>
   obtain⟨raw,Hc⟩:=p
   simp only[hrun,Option.bind_some]at h
   cases hem:(expoObl Hc expoDepth raw).isEmpty with
   |false=>simp[hem]at h
   |true=>
   simp only[hem,cond_true]at h
   have hxo:allB (expoObl Hc expoDepth raw)=true:=by rw[List.isEmpty_iff.1 hem];rfl
   cases hx:expo Hc expoDepth raw with
   |none=>simp[hx]at h
   |some v'=>
    simp only[hx,Option.bind_some,Option.map_some,Option.some.injEq,Prod.mk.injEq]at h
    obtain⟨rfl,rfl⟩:=h
    obtain⟨inv1,hE1⟩:=inv.freeze (tchL H expoDepth args)
    have hra:RepL nowhere (Efz ρ E H (tchL H expoDepth args)) w args' vs.toList:=expoL_rep inv ha hox ra Efz.tin (fun _ h=> .inl h)
    have hgc:∀g cs,H.fresh.glob g=some cs→Efz ρ E H (tchL H expoDepth args) g∧GlRep (Efz ρ E H (tchL H expoDepth args)) w g cs:=fun g cs hg=>by
     obtain⟨_,_,hgl⟩:=kill_len (tchL H expoDepth args) H
     refine inv1.gl g cs ?_
     simp only[Hp.glob,Hp.fresh]at hg ⊢
     rw[hgl];exact hg
    refine(hr f args' H.fresh raw Hc hrun hpre (fun b=>b<w.heap.size) w nowhere _ w vs (Inv.empty w _ inv1.ebd rfl rfl hgc) hra).mono ?_
    rintro e w' ⟨u,ρ',E',rfl,inv',reach,hrep⟩
    have hold:∀b,b<w.heap.size→w'.heap[b]? = w.heap[b]? :=inv'.old
    have ext1:Ext ρ (Efz ρ E H (tchL H expoDepth args)) w ρ (fun b=>Efz ρ E H (tchL H expoDepth args) b∨(w.heap.size≤b∧b<w'.heap.size)) w':=Ext.grow (fun _ _ h=>h) (fun _ h=> .inl h) (fun i b hb=>(inv.bd i b hb).2) inv1.ebd hold reach.size
    refine⟨u,ρ,fun b=>Efz ρ E H (tchL H expoDepth args) b∨(w.heap.size≤b∧b<w'.heap.size),rfl,?_,⟨Efz.ext.trans ext1,?_⟩,?_⟩
    ·exact{len:=inv1.len,dom:=inv1.dom,blk:=fun i k b hk hb=>(inv1.blk i k b hk hb).mono ext1 (hold b (inv.bd i b hb).2),inj:=inv1.inj,
           notE:=fun i k b hk hb he=>by
            rcases he with he|he
            ·exact inv1.notE i k b hk hb he
            ·have:=(inv.bd i b hb).2;omega
           bd:=fun i b hb=>⟨(inv.bd i b hb).1,Nat.lt_of_lt_of_le (inv.bd i b hb).2 reach.size⟩
           ebd:=fun b he=>by
            rcases he with he|he
            ·exact Nat.lt_of_lt_of_le (inv1.ebd b he) reach.size
            ·exact he.2
           lole:=fun b hb=>Nat.lt_of_lt_of_le (inv.lole b hb) reach.size
           old:=fun b hb=>(hold b (inv.lole b hb)).trans (inv.old b hb)
           io:=inv.io.trans inv'.io,gl:=gl_mono rfl ext1 inv1.gl}
    ·intro b hb
     rcases hb with hb|hb
     ·exact hE1 b hb
     ·exact .inr fun h=>by have:=inv.lole b h;omega
    ·refine Rep.up (expo_rep inv' expoDepth raw v' u hx hxo hrep (fun i _ _ b _ hb=> .inr ⟨Nat.le_of_not_lt (inv'.bd i b hb).1,(inv'.bd i b hb).2⟩) ?_)
     refine .inr fun b hb=> ?_
     rcases reach.new b hb with e|e
     ·exact .inl e
     ·exact .inr ⟨Nat.le_of_not_lt e,inv'.ebd b hb⟩
theorem any_call {r:Rec} {env:Env} (hr:SoundRec P env.pre r) {f:FuncId} {args:List AV} {v:AV} {H':Hp} (h:callA env r f args H=some (v,H')) (hob:allB (callObl env f args H)=true)
 (inv:Inv lo w0 ρ E H w) {vs:Array Value} (ra:RepL ρ E w args vs.toList):
 Calls P f vs w fun e w'=>∃u ρ' E',e = .returned u∧Inv lo w0 ρ' E' H' w'∧Reach lo ρ E w ρ' E' w'∧Rep ρ' E' w' v u∧(env.isPure f=true→ρ'=ρ):=by
 cases hp:env.isPure f with
 |true=>
  refine(pure_call hr hp h hob inv ra).mono ?_
  rintro e w' ⟨u,ρ',E',he,h1,h2,h3,h4⟩
  exact⟨u,ρ',E',he,h1,h2,h3,fun _=>h4⟩
 |false=>
  cases hz:env.isFrz f with
  |true=>
   refine(frz_call hr hp hz h hob inv ra).mono ?_
   rintro e w' ⟨u,ρ',E',he,h1,h2,h3⟩
   exact⟨u,ρ',E',he,h1,h2,h3,fun e=>by cases e⟩
  |false=>
   unfold callA at h
   simp only[hp,hz,cond_false]at h
   refine(hr f args H v H' h (by simpa only[callObl,hp,hz,cond_false]using hob) lo w0 ρ E w vs inv ra).mono ?_
   rintro e w' ⟨u,ρ',E',he,h1,h2,h3⟩
   exact⟨u,ρ',E',he,h1,h2,h3,fun e=>by cases e⟩
end
end Go.AM
