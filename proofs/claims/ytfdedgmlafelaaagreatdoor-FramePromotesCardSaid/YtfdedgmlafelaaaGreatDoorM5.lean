/-
  The entries of a map that a range has handed out: what is collected is a permutation of all.
-/
import Derived.Test.YtfdedgmlafelaaaGreatDoorProg
import Derived.Maps.RangeRun
import Derived.Maps.RangeWalk
import Derived.Maps.AppendAt
import Derived.WalkKit
import Derived.Below
import Derived.Lib.Hide
import Derived.OwnWalk
import Derived.WalkSpells
import Derived.StillTactics
import Derived.Deep.Draws
import Derived.Sort.Grow
import Derived.Orders
import Derived.Shelf.SlSortCmp.WholeK
import Derived.Shelf.SlSortCmp.NoneTotal
set_option linter.unusedSimpArgs false
set_option linter.unusedVariables false
set_option maxRecDepth 100000
namespace Go.Proofs.YtfdedgmlafelaaaGreatDoor.Sr
open Go.RowKit Go.Maps Go.ChangeMaps
structure Sl where
 a:Int
 b:Int
 c:Int
 d:Int
 e:Bool
def encS (x:Sl):List Value:=[.int .i64 x.a, .int .i64 x.b, .int .i64 x.c, .int .i64 x.d, .bool x.e]
structure Col (es:Array MapEntry) (g:MapEntry->Sl) (seen:Array Nat) (L:List Sl) (M:List MapEntry):Prop where
 b:M.map (·.born)=seen.toList
 m:∀e∈M,e∈es.toList
 n:(M.map (·.born)).Nodup
 l:L=M.map g
theorem Col.start (es:Array MapEntry) (g:MapEntry->Sl):Col es g #[] [] []:=⟨rfl,fun e h=>(by cases h),List.nodup_nil,rfl⟩
theorem Col.step {es:Array MapEntry} {g:MapEntry->Sl} {seen:Array Nat} {L:List Sl} {M:List MapEntry} (h:Col es g seen L M) {e:MapEntry} (he:e∈(leftOf es seen).toList):Col es g (seen.push e.born) (L ++ [g e]) (M ++ [e]):=by
 obtain⟨h1,h2⟩:=mem_left he;refine⟨by rw[List.map_append,h.b,Array.toList_push];rfl,?_,?_,by rw[List.map_append,h.l];rfl⟩
 ·intro x hx;rcases List.mem_append.1 hx with hx|hx
  ·exact h.m x hx
  ·rw[List.mem_singleton.1 hx];exact h1
 ·rw[List.map_append];refine List.nodup_append.2 ⟨h.n,by simp,?_⟩
  intro x hx y hy e2;simp only[List.map_cons,List.map_nil,List.mem_singleton]at hy;rw[h.b]at hx;have:seen.contains e.born=true:=by rw[<- hy, <- e2];simpa using hx
  rw[h2]at this;cases this
theorem Col.perm {es:Array MapEntry} {g:MapEntry->Sl} {seen:Array Nat} {L:List Sl} {M:List MapEntry} (h:Col es g seen L M) (hn:(es.toList.map (·.born)).Nodup) (h0:(leftOf es seen).size=0):L.Perm (es.toList.map g):=by
 rw[h.l];refine List.Perm.map g ?_
 have nd:∀{l:List MapEntry},(l.map (·.born)).Nodup->l.Nodup:=fun{l} h=>(List.pairwise_map.1 h).imp fun hne e=>hne (by rw[e])
 refine(List.perm_ext_iff_of_nodup (nd h.n) (nd hn)).2 fun e=>⟨h.m e,fun he=> ?_⟩
 have hs:seen.contains e.born=true:=by
  cases hc:seen.contains e.born with
  |true=>rfl
  |false=>
   have hm:e∈leftOf es seen:=Array.mem_filter.2 ⟨Array.mem_toList_iff.1 he,by rw[hc];rfl⟩
   have:=Array.size_pos_of_mem hm;omega
 have hb:e.born∈M.map (·.born):=by rw[h.b];simpa using hs
 obtain⟨e',he',hbe⟩:=List.mem_map.1 hb;have:∀(l:List MapEntry),(l.map (·.born)).Nodup->∀x∈l,∀y∈l,x.born=y.born->x=y:=by
  intro l hl x hx y hy hxy
  induction l with
  |nil=>cases hx
  |cons z l ih=>
   rw[List.map_cons,List.nodup_cons]at hl;rcases List.mem_cons.1 hx with h1|h1<;>rcases List.mem_cons.1 hy with h2|h2
   ·rw[h1,h2]
   ·exact absurd (by rw[<- h1,hxy];exact List.mem_map.2 ⟨y,h2,rfl⟩) hl.1
   ·exact absurd (by rw[<- h2, <- hxy];exact List.mem_map.2 ⟨x,h1,rfl⟩) hl.1
   ·exact ih hl.2 h1 h2
 rw[<- this es.toList hn e' (h.m e' he') e he hbe];exact he'
theorem Col.le {es:Array MapEntry} {g:MapEntry->Sl} {seen:Array Nat} {L:List Sl} {M:List MapEntry} (h:Col es g seen L M):L.length≤es.size:=by
 have nd:∀{l:List MapEntry},(l.map (·.born)).Nodup->l.Nodup:=fun{l} h=>(List.pairwise_map.1 h).imp fun hne e=>hne (by rw[e])
 rw[h.l,List.length_map, <- Array.length_toList];exact(nd h.n).length_le_of_subset h.m
theorem vW {w w1:World} (hw:w1=w∨w1=w.drew) (r:Nat) (o:Obj):w.grownBy (setBlock w1 r o) (some r)∧(setBlock w1 r o).heap.size=w.heap.size∧(r<w.heap.size->(setBlock w1 r o).heap[r]? = some o):=by
 have hh:w1.heap=w.heap:=by rcases hw with rfl|rfl<;>rfl
 have hs:(setBlock w1 r o).heap=w.heap.setIfInBounds r o:=by unfold setBlock;rw[hh]
 refine⟨⟨by rcases hw with rfl|rfl<;>rfl,by rcases hw with rfl|rfl<;>rfl,by rcases hw with rfl|rfl<;>rfl,by rw[hs];simp,fun k hk hne=> ?_⟩,by rw[hs];simp,fun hr=>by rw[hs];simp[hr]⟩
 rw[hs,Array.getElem?_setIfInBounds_ne]
 exact fun e=>hne (by rw[e])
theorem qS {P:Program} {ops:Array Oper} {rest:List Oper} {o:Oper} {a:Act} {Q:Exit->Act->World->Prop} {w:World} (hg:o.guard=none) (it:Operand) (hop:o.op=Op.next it false)
 (r bm since c0:Nat) (seen:Array Nat) (es:Array MapEntry) (clock:Nat) (hit:a.eval it = .pointer (some ⟨r,0,none⟩))
 (hr:w.heap[r]? = some (.mapIter (some bm) since seen c0)) (hb:w.heap[bm]? = some (.map es clock)) (hold:∀x∈es.toList,x.born<since) (hsc:since≤c0) (hn:(es.toList.map (·.born)).Nodup)
 (hDone:(leftOf es seen).size=0->wpList P ops Q rest (a.put o.dst (.tuple #[.bool false])) w)
 (hMore:∀(e:MapEntry) (w':World),e∈(leftOf es seen).toList->w.grownBy w' (some r)->w'.heap.size=w.heap.size->w'.heap[r]? = some (.mapIter (some bm) since (seen.push e.born) clock)->w'.heap[bm]? = some (.map es clock)->
  (Instr.entry (.pointer (some ⟨r,0,none⟩))).run P w' = .ok (.tuple #[e.key,e.val]) w'->wpList P ops Q rest (a.put o.dst (.tuple #[.bool true,e.key,e.val])) w'):
 wpList P ops Q (o::rest) a w:=by
 refine wpList_plain hg fun K hK=> ?_
 unfold Oper.wp;rcases run_next_at (P:=P) w o.type r bm since c0 seen es clock hr hb hold hsc with⟨h0,hrun⟩|⟨e,he,w1,h1,hrun⟩
 ·simp[execOp,hop,hit,hrun,Result.andThen];exact hK _ _ (hDone h0)
 ·obtain⟨g1,g2,g3⟩:=vW h1 r (.mapIter (some bm) since (seen.push e.born) clock);have hrl:r<w.heap.size:=(Array.getElem?_eq_some_iff.1 hr).1
  have hbl:bm<w.heap.size:=(Array.getElem?_eq_some_iff.1 hb).1
  have hne:bm≠r:=fun e=>by rw[e,hr]at hb;cases hb
  have hb':=(g1.block bm hbl (fun e=>hne (Option.some.inj e))).trans hb
  generalize setBlock w1 r (.mapIter (some bm) since (seen.push e.born) clock)=w' at *;simp[execOp,hop,hit,hrun,Result.andThen];exact hK _ _ (hMore e w' he g1 g2 (g3 hrl) hb' (run_entry_at w' r bm since seen es clock e (g3 hrl) hb' (mem_left he).1 hn))
theorem info69:Tryz.prog.info? 69=some (Tryz.prog.types[69]!):=by kernel_rfl
theorem size69:(Tryz.prog.types[69]!).size=5:=by kernel_rfl
theorem bytes69:(Tryz.prog.types[69]!).bytes=40:=by kernel_rfl
theorem zero69:(Tryz.prog.types[69]!).zero=some (.agg #[.int .i64 0, .int .i64 0, .int .i64 0, .int .i64 0, .bool false]):=by kernel_rfl
set_option maxRecDepth 100000 in
set_option maxHeartbeats 2000000 in
theorem collect (sb bm clk:Nat) (es:Array MapEntry) (g:MapEntry->Sl) (w:World) (c0:w.cell? ⟨sb,0,none⟩=some (.map (some bm))) (hb:w.heap[bm]? = some (.map es clk)) (hold:∀x∈es.toList,x.born<clk) (hn:(es.toList.map (·.born)).Nodup)
 (hv:∀e∈es.toList,e.val = .agg (encS (g e)).toArray) (hsz:es.size≤1000000) (R:Ending->World->Prop)
 (hS:∀(W:World) (v:Value) (L:List Sl),L.Perm (es.toList.map g)->W.ownsRow (w.heap.size+1) 69 5 v L.length (L.flatMap encS)->Below w.heap.size w W->
  Calls Tryz.prog 66 #[v, .func (.func 67) #[] #[]] W fun e w'=>e = .returned (.tuple #[])∧R (.returned v) w'):
 Calls Tryz.prog 31 #[.pointer (some ⟨sb,0,none⟩)] w R:=by
 have hrg:=run_range_map (P:=Tryz.prog) w 72 115 69 bm es clk Tryz.underlying72 hb;have hbl:bm<w.heap.size:=(Array.getElem?_eq_some_iff.1 hb).1
 go_enter Tryz.func31,Tryz.ntmps31
 go_wp2
 go_loopw [3] (fun v wr=>∃(seen:Array Nat) (c1:Nat) (L:List Sl) (M:List MapEntry),wr.heap[w.heap.size]? = some (.mapIter (some bm) clk seen c1)∧clk≤c1∧wr.heap[bm]? = some (.map es clk)∧Col es g seen L M∧
  wr.ownsRow (w.heap.size+1) 69 5 v L.length (L.flatMap encS)∧Below w.heap.size w wr)
  (fun _ wr=>(leftOf es (wr.iterSeen w.heap.size)).size)
 case atStart=>
  refine⟨#[],clk,[],[],heap_alloc_new _ _,Nat.le_refl _,(heap_alloc_old w _ bm hbl).trans hb,Col.start es g,⟨rfl, .inl ⟨rfl,rfl⟩⟩,(Below.refl _ w).alloc (Nat.le_refl _) _⟩
 case round=>
  obtain⟨seen,c1,L,M,h1,h2,h3,h4,h5,h6⟩:=hrel;clear hrg;have H4:Hid (Col es g seen L M):=h4;have H5:Hid (wr.ownsRow (w.heap.size+1) 69 5 u3 L.length (L.flatMap encS)):=h5;have H6:Hid (Below w.heap.size w wr):=h6
  go_wp2_with (first
   | (at_next;refine qS rfl _ rfl w.heap.size bm clk c1 seen es clk rfl h1 h3 hold h2 hn ?_ ?_)
   |go_in)
  ·intro h0;have hc:=hS wr u3 L (H4.out.perm hn (by rw[h0];rfl)) H5.out H6.out
   clear hS h4 h5 h6
   go_wp2_with (go_at_call 66;refine hc.mono ?_;rintro e w' ⟨rfl,hR⟩)
   exact hR
  ·intro e w2 he0 hg2 hs2 hr2 hb2 hen;have he:e∈(leftOf es seen).toList:=Array.mem_toList_iff.2 he0;have hve:=hv e (mem_left he).1;rw[hve]at hen ⊢;have hrow2:=h5.kept hg2 (Or.inr (fun e=>by have:=h5.lt _ e;omega))
   have hs2':Hid (w2.heap.size=wr.heap.size):=hs2;clear hs2 hS;have hrow3:=(hrow2.alloc (.cells (encS (g e)).toArray 69)).alloc (.cells (encS (g e)).toArray 69);have hnews:∀j u,(encS (g e))[j]? = some u->((w2.alloc (.cells (encS (g e)).toArray 69)).alloc (.cells (encS (g e)).toArray 69)).cell? ((⟨w2.heap.size+1,0,none⟩:Addr).add j)=some u:=by
    intro j u hu;have e1:((w2.alloc (.cells (encS (g e)).toArray 69)).alloc (.cells (encS (g e)).toArray 69)).heap[w2.heap.size+1]? = some (.cells (encS (g e)).toArray 69):=by
     have:=heap_alloc_new (w2.alloc (.cells (encS (g e)).toArray 69)) (.cells (encS (g e)).toArray 69);simpa using this
    have e2:((⟨w2.heap.size+1,0,none⟩:Addr).add j)=⟨w2.heap.size+1,j,none⟩:=by unfold Addr.add;by_cases h:j=0<;>simp[h]
    rw[e2];simp only[World.cell?,e1]
    simpa using hu
   have hold2:∀k,k<w2.heap.size->((w2.alloc (.cells (encS (g e)).toArray 69)).alloc (.cells (encS (g e)).toArray 69)).heap[k]? = w2.heap[k]? :=fun k hk=>by
    have e1:=heap_alloc_old w2 (.cells (encS (g e)).toArray 69) k hk;have e2:=heap_alloc_old (w2.alloc (.cells (encS (g e)).toArray 69)) (.cells (encS (g e)).toArray 69) k (by simp;omega)
    exact e2.trans e1
   have hle:=h4.le;have hrl:w.heap.size<w2.heap.size:=(Array.getElem?_eq_some_iff.1 hr2).1
   have hbel:=h6.grown hg2 h6.size (fun j hj=>by cases hj;exact Nat.le_refl _)
   have hbel3:=(hbel.alloc (by omega) (.cells (encS (g e)).toArray 69)).alloc (by simp;omega) (.cells (encS (g e)).toArray 69)
   have Hold2:Hid (∀k,k<w2.heap.size->((w2.alloc (.cells (encS (g e)).toArray 69)).alloc (.cells (encS (g e)).toArray 69)).heap[k]? = w2.heap[k]?):=hold2
   have Hb3:Hid (Below w.heap.size w ((w2.alloc (.cells (encS (g e)).toArray 69)).alloc (.cells (encS (g e)).toArray 69))):=hbel3;have Hrow3:Hid (((w2.alloc (.cells (encS (g e)).toArray 69)).alloc (.cells (encS (g e)).toArray 69)).ownsRow (w.heap.size+1) 69 5 u3 L.length (L.flatMap encS)):=hrow3;have Hmore:Hid (Col es g (seen.push e.born) (L ++ [g e]) (M ++ [e])):=h4.step he;have Hsh:Hid ((leftOf es (seen.push e.born)).size<(leftOf es seen).size):=left_shrinks es seen e he;clear hold2 hbel hbel3 h4 h5 h6;unfold encS at hen hrow3 hnews ⊢
   go_wp2_with (first
    | (at_builtin;refine wpList_append_own_at _ rfl _ _ 28 rfl (w.heap.size+1) 69 _ _ 5 40 Tryz.underlying28 info69 zero69 size69 bytes69 rfl (by decide) u3 _ _ rfl hrow3 ⟨w2.heap.size+1,0,none⟩ 1 1 _ rfl rfl hnews (by intro u hu;simp at hu;rcases hu with rfl|rfl|rfl|rfl|rfl<;>rfl) (by unfold maxLen;omega) (by omega) (by simp;omega) ?_;intro v' w3 hown' hg3 hnil3 hblk3;clear hnil3 hblk3;go_frame)
    |go_in)
   have hk:∀k,k≤w.heap.size->w3.heap[k]? = w2.heap[k]? :=fun k hk=>by
    refine(hg3.block k (by simp;omega) (fun e'=> ?_)).trans (Hold2.out k (by omega))
    have:=(Hrow3.out.lt k e'.symm).1;omega
   have hit3:=(hk w.heap.size (Nat.le_refl _)).trans hr2;refine⟨⟨seen.push e.born,clk,L ++ [g e],M ++ [e],hit3,Nat.le_refl _,(hk bm (by omega)).trans hb2,Hmore.out,?_,?_⟩,?_⟩
   ·rw[List.length_append,List.flatMap_append];exact hown'
   ·exact Below.grown Hb3.out hg3 (by simp;omega) (fun j hj=>by have:=(Hrow3.out.lt j hj).1;omega)
   ·have i1:w3.iterSeen w.heap.size=seen.push e.born:=by unfold World.iterSeen;rw[hit3]
    have i2:wr.iterSeen w.heap.size=seen:=by unfold World.iterSeen;rw[h1]
    rw[i1,i2];exact Hsh.out
def cI (x y:Int):Int:=if x<y then -1 else if y<x then 1 else 0
theorem cmp69 (x y:Int) (W:World):Calls Tryz.prog 69 #[.int .i64 x, .int .i64 y] W fun e w'=>e = .returned (.int .i64 (cI x y))∧w'=W:=by
 have h108:∀(z:Int) (W:World),Calls Tryz.prog 108 #[.int .i64 z] W fun e w'=>e = .returned (.bool false)∧w'=W:=by
  intro z W
  go_enter Tryz.func108,Tryz.ntmps108
  go_wp2
  go_ret
  exact⟨by simp,rfl⟩
 unfold cI
 go_enter Tryz.func69,Tryz.ntmps69
 go_wp2_with (go_at_call 108;refine(h108 _ _).mono ?_;rintro e w' ⟨rfl,rfl⟩)
 all_goals (go_ret;exact⟨rfl,rfl⟩)
def orI (x y:Int):Int:=if x≠0 then x else y
theorem or68 (b:Nat) (x y:Int) (W:World) (h0:W.cell? ⟨b,0,none⟩=some (.int .i64 x)) (h1:W.cell? ⟨b,1,none⟩=some (.int .i64 y)):
 Calls Tryz.prog 68 #[.slice (some ⟨b,0,none⟩) 2 2] W fun e w'=>e = .returned (.int .i64 (orI x y))∧w'=W:=by
 unfold orI;by_cases hx:x=0
 ·subst hx;rw[if_neg (by simp)]
  by_cases hy:y=0
  ·subst hy
   go_enter Tryz.func68,Tryz.ntmps68
   go_wp2
   refine wp_loop_rounds 3 ?_
   rw[rounds_succ]
   go_wp2
   rw[rounds_succ]
   go_wp2
   rw[rounds_succ]
   go_wp2
   go_ret
   exact⟨rfl,rfl⟩
  ·have hy':(y != 0)=true:=by simpa using hy
   go_enter Tryz.func68,Tryz.ntmps68
   go_wp2
   refine wp_loop_rounds 3 ?_
   rw[rounds_succ]
   go_wp2
   rw[rounds_succ]
   go_wp2
   go_ret
   exact⟨rfl,rfl⟩
 ·have hx':(x != 0)=true:=by simpa using hx
  rw[if_pos hx]
  go_enter Tryz.func68,Tryz.ntmps68
  go_wp2
  refine wp_loop_rounds 3 ?_
  rw[rounds_succ]
  go_wp2
  go_ret
  exact⟨rfl,rfl⟩
def cfS (x y:Sl):Int:=orI (cI x.a y.a) (cI x.b y.b)
end Go.Proofs.YtfdedgmlafelaaaGreatDoor.Sr
namespace Go.Proofs.YtfdedgmlafelaaaGreatDoor.Sr
open Go.RowKit
noncomputable def ops67:Array Oper:=match Tryz.f67.body with
 |some (.seq _ (.seq (.region _ ops _) _))=>ops
 |_=> #[]
theorem cg:ops67.size=13:=by kernel_rfl
def qT:List (List Nat):=[[],[0],[],[2],[1,3],[],[5],[],[7],[6,8,4],[4,9],[10,9],[11,11,0,1,2,3,4,5,6,7,8,9,10,11]]
theorem eh:(ops67.toList.map fun o=>o.after.toList.filterMap fun e=>if Region.binds .any e then some e.on else none)=qT:=by kernel_rfl
theorem ready_iff {ops:Array Oper} {D:List (List Nat)} (hd:(ops.toList.map fun o=>o.after.toList.filterMap fun e=>if Region.binds .any e then some e.on else none)=D) {listed:Array Bool} {i:Nat} (h:i∈Region.ready .any ops listed):
 i<ops.size∧listed.getD i true=false∧∀j∈D.getD i [],listed.getD j false=true:=by
 unfold Region.ready at h;obtain⟨h1,h2⟩:=List.mem_filter.1 h;have hi:i<ops.size:=List.mem_range.1 h1;rw[Bool.and_eq_true]at h2;obtain⟨h2,h3⟩:=h2;refine⟨hi,by simpa using h2,?_⟩
 have e:D.getD i []=ops[i].after.toList.filterMap fun e=>if Region.binds .any e then some e.on else none:=by
  rw[<- hd];simp[List.getD,hi]
 rw[e];intro j hj;obtain⟨x,hx,hx2⟩:=List.mem_filterMap.1 hj;rw[Array.getElem?_eq_getElem hi]at h3
 simp only[Option.map_some,Option.getD_some]at h3;have h4:=Array.all_eq_true_iff_forall_mem.1 h3 x (Array.mem_toList_iff.1 hx);cases hb:Region.binds .any x with
 |false=>rw[hb]at hx2;simp at hx2
 |true=>
  rw[hb]at hx2;simp only[hb,Bool.not_true,Bool.false_or]at h4;simp at hx2;rw[<- hx2];exact h4
theorem pA (i:Nat) (h:i<13):ops67[i]? = some (ops67[i]!):=by
 have:i<ops67.size:=by rw[cg];exact h
 simp[this]
theorem lit0:∃p af,ops67[0]! = ⟨some 5, .fieldAddr 69 (.tmp 2) 0,0,p,af,none⟩:=⟨(ops67[0]!).pos,(ops67[0]!).after,by kernel_rfl⟩
theorem lit1:∃p af,ops67[1]! = ⟨some 6, .load 3 (.tmp 5),3,p,af,none⟩:=⟨(ops67[1]!).pos,(ops67[1]!).after,by kernel_rfl⟩
theorem lit2:∃p af,ops67[2]! = ⟨some 7, .fieldAddr 69 (.tmp 3) 0,0,p,af,none⟩:=⟨(ops67[2]!).pos,(ops67[2]!).after,by kernel_rfl⟩
theorem lit3:∃p af,ops67[3]! = ⟨some 8, .load 3 (.tmp 7),3,p,af,none⟩:=⟨(ops67[3]!).pos,(ops67[3]!).after,by kernel_rfl⟩
theorem lit4:∃p af,ops67[4]! = ⟨some 9, .call {callee:= .value (.func 69),args:= #[.tmp 6, .tmp 8],argTypes:= #[3,3]},3,p,af,none⟩:=⟨(ops67[4]!).pos,(ops67[4]!).after,by kernel_rfl⟩
theorem lit5:∃p af,ops67[5]! = ⟨some 10, .fieldAddr 69 (.tmp 2) 1,0,p,af,none⟩:=⟨(ops67[5]!).pos,(ops67[5]!).after,by kernel_rfl⟩
theorem lit6:∃p af,ops67[6]! = ⟨some 11, .load 3 (.tmp 10),3,p,af,none⟩:=⟨(ops67[6]!).pos,(ops67[6]!).after,by kernel_rfl⟩
theorem lit7:∃p af,ops67[7]! = ⟨some 12, .fieldAddr 69 (.tmp 3) 1,0,p,af,none⟩:=⟨(ops67[7]!).pos,(ops67[7]!).after,by kernel_rfl⟩
theorem lit8:∃p af,ops67[8]! = ⟨some 13, .load 3 (.tmp 12),3,p,af,none⟩:=⟨(ops67[8]!).pos,(ops67[8]!).after,by kernel_rfl⟩
theorem lit9:∃p af,ops67[9]! = ⟨some 14, .call {callee:= .value (.func 69),args:= #[.tmp 11, .tmp 13],argTypes:= #[3,3]},3,p,af,none⟩:=⟨(ops67[9]!).pos,(ops67[9]!).after,by kernel_rfl⟩
theorem lit10:∃p af,ops67[10]! = ⟨some 15, .buildSlice 46 2 #[(0, .tmp 9),(1, .tmp 14)],46,p,af,none⟩:=⟨(ops67[10]!).pos,(ops67[10]!).after,by kernel_rfl⟩
theorem lit11:∃p af,ops67[11]! = ⟨some 16, .call {callee:= .value (.func 68),args:= #[.tmp 15],argTypes:= #[46]},3,p,af,none⟩:=⟨(ops67[11]!).pos,(ops67[11]!).after,by kernel_rfl⟩
theorem lit12:∃p af,ops67[12]! = ⟨some 4, .assign (.tmp 16),3,p,af,none⟩:=⟨(ops67[12]!).pos,(ops67[12]!).after,by kernel_rfl⟩
theorem dU {P:Program} {ops:Array Oper} {Q:Exit->Act->World->Prop} {i:Nat} {K:Act->World->Prop} {a:Act} {w:World} {o:Oper} (ho:ops[i]? = some o) (hg:o.guard=none) (h:o.wp P a w K Q):wpOp P ops Q i K a w:=by
 unfold wpOp;rw[ho];simp only[Region.wanted,hg];exact .inl h
section
variable (x y:Sl) (W:World) (n:Nat)
def iu (b:Bool) (v:Value):Value:=if b then v else undef
def F (b0 b1 b2 b3 b4 b5 b6 b7 b8 b9:Bool):Act:={tmps:= #[.agg (encS x).toArray, .agg (encS y).toArray, .pointer (some ⟨n,0,none⟩), .pointer (some ⟨n+1,0,none⟩), .int .i64 0,
 iu b0 (.pointer (some ⟨n,0,none⟩)),iu b1 (.int .i64 x.a),iu b2 (.pointer (some ⟨n+1,0,none⟩)),iu b3 (.int .i64 y.a),iu b4 (.int .i64 (cI x.a y.a)),
 iu b5 (.pointer (some ⟨n,1,none⟩)),iu b6 (.int .i64 x.b),iu b7 (.pointer (some ⟨n+1,1,none⟩)),iu b8 (.int .i64 y.b),iu b9 (.int .i64 (cI x.b y.b)),undef,undef],defers:=[]}
variable {Q:Exit->Act->World->Prop} {K:Act->World->Prop} {w:World}
theorem s0 {b1 b2 b3 b4 b5 b6 b7 b8 b9:Bool} (h:K (F x y n true b1 b2 b3 b4 b5 b6 b7 b8 b9) w):wpOp Tryz.prog ops67 Q 0 K (F x y n false b1 b2 b3 b4 b5 b6 b7 b8 b9) w:=by
 refine dU (pA 0 (by decide)) (by obtain⟨p,af,e⟩:=lit0;rw[e]) ?_
 obtain⟨p,af,e⟩:=lit0;rw[e];unfold F at h ⊢;simp only[iu,if_true,if_false,Bool.false_eq_true]at h ⊢;have hm:=Tryz.underlying69;unfold Oper.wp
 go_simp
 exact h
theorem s1 {b2 b3 b4 b5 b6 b7 b8 b9:Bool} (hc:w.cell? ⟨n,0,none⟩=some (.int .i64 x.a)) (h:K (F x y n true true b2 b3 b4 b5 b6 b7 b8 b9) w):wpOp Tryz.prog ops67 Q 1 K (F x y n true false b2 b3 b4 b5 b6 b7 b8 b9) w:=by
 refine dU (pA 1 (by decide)) (by obtain⟨p,af,e⟩:=lit1;rw[e]) ?_
 obtain⟨p,af,e⟩:=lit1;rw[e];unfold F at h ⊢;simp only[iu,if_true,if_false,Bool.false_eq_true]at h ⊢;have hm:=Tryz.underlying69;unfold Oper.wp
 go_simp
 exact h
theorem s2 {b0 b1 b3 b4 b5 b6 b7 b8 b9:Bool} (h:K (F x y n b0 b1 true b3 b4 b5 b6 b7 b8 b9) w):wpOp Tryz.prog ops67 Q 2 K (F x y n b0 b1 false b3 b4 b5 b6 b7 b8 b9) w:=by
 refine dU (pA 2 (by decide)) (by obtain⟨p,af,e⟩:=lit2;rw[e]) ?_
 obtain⟨p,af,e⟩:=lit2;rw[e];unfold F at h ⊢;simp only[iu,if_true,if_false,Bool.false_eq_true]at h ⊢;have hm:=Tryz.underlying69;unfold Oper.wp
 go_simp
 exact h
theorem s3 {b0 b1 b4 b5 b6 b7 b8 b9:Bool} (hc:w.cell? ⟨n+1,0,none⟩=some (.int .i64 y.a)) (h:K (F x y n b0 b1 true true b4 b5 b6 b7 b8 b9) w):wpOp Tryz.prog ops67 Q 3 K (F x y n b0 b1 true false b4 b5 b6 b7 b8 b9) w:=by
 refine dU (pA 3 (by decide)) (by obtain⟨p,af,e⟩:=lit3;rw[e]) ?_
 obtain⟨p,af,e⟩:=lit3;rw[e];unfold F at h ⊢;simp only[iu,if_true,if_false,Bool.false_eq_true]at h ⊢;have hm:=Tryz.underlying69;unfold Oper.wp
 go_simp
 exact h
theorem s4 {b0 b2 b5 b6 b7 b8 b9:Bool} (h:K (F x y n b0 true b2 true true b5 b6 b7 b8 b9) w):wpOp Tryz.prog ops67 Q 4 K (F x y n b0 true b2 true false b5 b6 b7 b8 b9) w:=by
 refine dU (pA 4 (by decide)) (by obtain⟨p,af,e⟩:=lit4;rw[e]) ?_
 obtain⟨p,af,e⟩:=lit4;rw[e];unfold F at h ⊢;simp only[iu,if_true,if_false,Bool.false_eq_true]at h ⊢;have hm:=Tryz.underlying69;unfold Oper.wp
 go_simp
 refine(cmp69 _ _ _).mono ?_
 rintro e w' ⟨rfl,rfl⟩;exact h
theorem s5 {b0 b1 b2 b3 b4 b6 b7 b8 b9:Bool} (h:K (F x y n b0 b1 b2 b3 b4 true b6 b7 b8 b9) w):wpOp Tryz.prog ops67 Q 5 K (F x y n b0 b1 b2 b3 b4 false b6 b7 b8 b9) w:=by
 refine dU (pA 5 (by decide)) (by obtain⟨p,af,e⟩:=lit5;rw[e]) ?_
 obtain⟨p,af,e⟩:=lit5;rw[e];unfold F at h ⊢;simp only[iu,if_true,if_false,Bool.false_eq_true]at h ⊢;have hm:=Tryz.underlying69;unfold Oper.wp
 go_simp
 exact h
theorem s6 {b0 b1 b2 b3 b4 b7 b8 b9:Bool} (hc:w.cell? ⟨n,1,none⟩=some (.int .i64 x.b)) (h:K (F x y n b0 b1 b2 b3 b4 true true b7 b8 b9) w):wpOp Tryz.prog ops67 Q 6 K (F x y n b0 b1 b2 b3 b4 true false b7 b8 b9) w:=by
 refine dU (pA 6 (by decide)) (by obtain⟨p,af,e⟩:=lit6;rw[e]) ?_
 obtain⟨p,af,e⟩:=lit6;rw[e];unfold F at h ⊢;simp only[iu,if_true,if_false,Bool.false_eq_true]at h ⊢;have hm:=Tryz.underlying69;unfold Oper.wp
 go_simp
 exact h
theorem s7 {b0 b1 b2 b3 b4 b5 b6 b8 b9:Bool} (h:K (F x y n b0 b1 b2 b3 b4 b5 b6 true b8 b9) w):wpOp Tryz.prog ops67 Q 7 K (F x y n b0 b1 b2 b3 b4 b5 b6 false b8 b9) w:=by
 refine dU (pA 7 (by decide)) (by obtain⟨p,af,e⟩:=lit7;rw[e]) ?_
 obtain⟨p,af,e⟩:=lit7;rw[e];unfold F at h ⊢;simp only[iu,if_true,if_false,Bool.false_eq_true]at h ⊢;have hm:=Tryz.underlying69;unfold Oper.wp
 go_simp
 exact h
theorem s8 {b0 b1 b2 b3 b4 b5 b6 b9:Bool} (hc:w.cell? ⟨n+1,1,none⟩=some (.int .i64 y.b)) (h:K (F x y n b0 b1 b2 b3 b4 b5 b6 true true b9) w):wpOp Tryz.prog ops67 Q 8 K (F x y n b0 b1 b2 b3 b4 b5 b6 true false b9) w:=by
 refine dU (pA 8 (by decide)) (by obtain⟨p,af,e⟩:=lit8;rw[e]) ?_
 obtain⟨p,af,e⟩:=lit8;rw[e];unfold F at h ⊢;simp only[iu,if_true,if_false,Bool.false_eq_true]at h ⊢;have hm:=Tryz.underlying69;unfold Oper.wp
 go_simp
 exact h
theorem s9 {b0 b1 b2 b3 b5 b7:Bool} (h:K (F x y n b0 b1 b2 b3 true b5 true b7 true true) w):wpOp Tryz.prog ops67 Q 9 K (F x y n b0 b1 b2 b3 true b5 true b7 true false) w:=by
 refine dU (pA 9 (by decide)) (by obtain⟨p,af,e⟩:=lit9;rw[e]) ?_
 obtain⟨p,af,e⟩:=lit9;rw[e];unfold F at h ⊢;simp only[iu,if_true,if_false,Bool.false_eq_true]at h ⊢;have hm:=Tryz.underlying69;unfold Oper.wp
 go_simp
 refine(cmp69 _ _ _).mono ?_
 rintro e w' ⟨rfl,rfl⟩;exact h
end
end Go.Proofs.YtfdedgmlafelaaaGreatDoor.Sr
namespace Go.Proofs.YtfdedgmlafelaaaGreatDoor.Sr
open Go.RowKit
theorem dJ {ops:Array Oper} {D:List (List Nat)} (hd:(ops.toList.map fun o=>o.after.toList.filterMap fun e=>if Region.binds .any e then some e.on else none)=D) {listed:Array Bool} {i:Nat}
 (hi:i<ops.size) (h1:listed.getD i true=false) (h2:∀j∈D.getD i [],listed.getD j false=true):i∈Region.ready .any ops listed:=by
 unfold Region.ready;refine List.mem_filter.2 ⟨List.mem_range.2 hi,?_⟩
 have e:D.getD i []=ops[i].after.toList.filterMap fun e=>if Region.binds .any e then some e.on else none:=by
  rw[<- hd];simp[List.getD,hi]
 rw[e]at h2;rw[h1,Array.getElem?_eq_getElem hi]
 simp only[Bool.not_false,Bool.true_and,Option.map_some,Option.getD_some];refine Array.all_eq_true_iff_forall_mem.2 fun x hx=> ?_
 cases hb:Region.binds .any x with
 |false=>rfl
 |true=>
  simp only[Bool.not_true,Bool.false_or];exact h2 x.on (List.mem_filterMap.2 ⟨x,Array.mem_toList_iff.2 hx,by rw[hb];rfl⟩)
section
variable (x y:Sl) (n:Nat)
def G (v15 v16 t4:Value):Act:={tmps:= #[.agg (encS x).toArray, .agg (encS y).toArray, .pointer (some ⟨n,0,none⟩), .pointer (some ⟨n+1,0,none⟩),t4,
 .pointer (some ⟨n,0,none⟩), .int .i64 x.a, .pointer (some ⟨n+1,0,none⟩), .int .i64 y.a, .int .i64 (cI x.a y.a),
 .pointer (some ⟨n,1,none⟩), .int .i64 x.b, .pointer (some ⟨n+1,1,none⟩), .int .i64 y.b, .int .i64 (cI x.b y.b),v15,v16],defers:=[]}
variable {Q:Exit->Act->World->Prop} {K:Act->World->Prop} {w:World}
theorem s10 (h:K (G x y n (.slice (some ⟨w.heap.size,0,none⟩) 2 2) undef (.int .i64 0)) (w.alloc (.cells #[.int .i64 (cI x.a y.a), .int .i64 (cI x.b y.b)] 3))):wpOp Tryz.prog ops67 Q 10 K (F x y n true true true true true true true true true true) w:=by
 refine dU (pA 10 (by decide)) (by obtain⟨p,af,e⟩:=lit10;rw[e]) ?_
 obtain⟨p,af,e⟩:=lit10;rw[e];unfold G at h;unfold F;simp only[iu,if_true];have hm:=Tryz.underlying46;unfold Oper.wp
 go_simp
 exact h
theorem s11 {b:Nat} (c0:w.cell? ⟨b,0,none⟩=some (.int .i64 (cI x.a y.a))) (c1:w.cell? ⟨b,1,none⟩=some (.int .i64 (cI x.b y.b)))
 (h:K (G x y n (.slice (some ⟨b,0,none⟩) 2 2) (.int .i64 (cfS x y)) (.int .i64 0)) w):wpOp Tryz.prog ops67 Q 11 K (G x y n (.slice (some ⟨b,0,none⟩) 2 2) undef (.int .i64 0)) w:=by
 refine dU (pA 11 (by decide)) (by obtain⟨p,af,e⟩:=lit11;rw[e]) ?_
 obtain⟨p,af,e⟩:=lit11;rw[e];unfold G at h ⊢;unfold Oper.wp
 go_simp
 refine(or68 b _ _ _ c0 c1).mono ?_
 rintro e w' ⟨rfl,rfl⟩;exact h
theorem s12 {v:Value} {r:Int} (h:K (G x y n v (.int .i64 r) (.int .i64 r)) w):wpOp Tryz.prog ops67 Q 12 K (G x y n v (.int .i64 r) (.int .i64 0)) w:=by
 refine dU (pA 12 (by decide)) (by obtain⟨p,af,e⟩:=lit12;rw[e]) ?_
 obtain⟨p,af,e⟩:=lit12;rw[e];unfold G at h ⊢;unfold Oper.wp
 go_simp
 exact h
theorem tail67 (f:Nat) (hQ:Q .normal (G x y n (.slice (some ⟨w.heap.size,0,none⟩) 2 2) (.int .i64 (cfS x y)) (.int .i64 (cfS x y))) (w.alloc (.cells #[.int .i64 (cI x.a y.a), .int .i64 (cI x.b y.b)] 3))):
 wpAny Tryz.prog .any ops67 Q (f+3) #[true,true,true,true,true,true,true,true,true,true,false,false,false] (F x y n true true true true true true true true true true) w:=by
 have r10:Region.ready .any ops67 #[true,true,true,true,true,true,true,true,true,true,false,false,false] = [10]:=by kernel_rfl
 have r11:Region.ready .any ops67 #[true,true,true,true,true,true,true,true,true,true,true,false,false] = [11]:=by kernel_rfl
 have r12:Region.ready .any ops67 #[true,true,true,true,true,true,true,true,true,true,true,true,false] = [12]:=by kernel_rfl
 have r13:Region.ready .any ops67 #[true,true,true,true,true,true,true,true,true,true,true,true,true] = []:=by kernel_rfl
 have e:=heap_alloc_new w (.cells #[.int .i64 (cI x.a y.a), .int .i64 (cI x.b y.b)] 3);refine⟨fun h=>(by rw[r10]at h;cases h),fun i hi=> ?_⟩
 rw[r10,List.mem_singleton]at hi;subst hi;refine s10 x y n ?_
 refine⟨fun h=>(by rw[show(#[true,true,true,true,true,true,true,true,true,true,false,false,false]:Array Bool).setIfInBounds 10 true = #[true,true,true,true,true,true,true,true,true,true,true,false,false]from rfl,r11]at h;cases h),fun i hi=> ?_⟩
 rw[show(#[true,true,true,true,true,true,true,true,true,true,false,false,false]:Array Bool).setIfInBounds 10 true = #[true,true,true,true,true,true,true,true,true,true,true,false,false]from rfl,r11,List.mem_singleton]at hi
 subst hi;refine s11 x y n (by unfold World.cell?;rw[e];rfl) (by unfold World.cell?;rw[e];rfl) ?_
 refine⟨fun h=>(by rw[show((#[true,true,true,true,true,true,true,true,true,true,false,false,false]:Array Bool).setIfInBounds 10 true).setIfInBounds 11 true = #[true,true,true,true,true,true,true,true,true,true,true,true,false]from rfl,r12]at h;cases h),fun i hi=> ?_⟩
 rw[show((#[true,true,true,true,true,true,true,true,true,true,false,false,false]:Array Bool).setIfInBounds 10 true).setIfInBounds 11 true = #[true,true,true,true,true,true,true,true,true,true,true,true,false]from rfl,r12,List.mem_singleton]at hi
 subst hi;refine s12 x y n ?_
 have e13:(((#[true,true,true,true,true,true,true,true,true,true,false,false,false]:Array Bool).setIfInBounds 10 true).setIfInBounds 11 true).setIfInBounds 12 true = #[true,true,true,true,true,true,true,true,true,true,true,true,true]:=rfl;rw[e13];cases f with
 |zero=>exact⟨r13,hQ⟩
 |succ f=>exact⟨fun _=>hQ,fun i hi=>by rw[r13]at hi;cases hi⟩
end
theorem inv0:∀b1 b2 b3 b4 b5 b6 b7 b8 b9:Bool,((b1=true->false=true)∧(b3=true->b2=true)∧(b4=true->b1=true∧b3=true)∧(b6=true->b5=true)∧(b8=true->b7=true)∧(b9=true->b6=true∧b8=true∧b4=true))->((b1=true->true=true)∧(b3=true->b2=true)∧(b4=true->b1=true∧b3=true)∧(b6=true->b5=true)∧(b8=true->b7=true)∧(b9=true->b6=true∧b8=true∧b4=true)):=by
 intro b1 b2 b3 b4 b5 b6 b7 b8 b9 h;obtain⟨i1,i3,i4,i6,i8,i9⟩:=h;refine⟨?_,?_,?_,?_,?_,?_⟩<;>intro h<;>simp_all
theorem inv1:∀b2 b3 b4 b5 b6 b7 b8 b9:Bool,((false=true->true=true)∧(b3=true->b2=true)∧(b4=true->false=true∧b3=true)∧(b6=true->b5=true)∧(b8=true->b7=true)∧(b9=true->b6=true∧b8=true∧b4=true))->((true=true->true=true)∧(b3=true->b2=true)∧(b4=true->true=true∧b3=true)∧(b6=true->b5=true)∧(b8=true->b7=true)∧(b9=true->b6=true∧b8=true∧b4=true)):=by
 intro b2 b3 b4 b5 b6 b7 b8 b9 h;obtain⟨i1,i3,i4,i6,i8,i9⟩:=h;refine⟨?_,?_,?_,?_,?_,?_⟩<;>intro h<;>simp_all
theorem inv2:∀b0 b1 b3 b4 b5 b6 b7 b8 b9:Bool,((b1=true->b0=true)∧(b3=true->false=true)∧(b4=true->b1=true∧b3=true)∧(b6=true->b5=true)∧(b8=true->b7=true)∧(b9=true->b6=true∧b8=true∧b4=true))->((b1=true->b0=true)∧(b3=true->true=true)∧(b4=true->b1=true∧b3=true)∧(b6=true->b5=true)∧(b8=true->b7=true)∧(b9=true->b6=true∧b8=true∧b4=true)):=by
 intro b0 b1 b3 b4 b5 b6 b7 b8 b9 h;obtain⟨i1,i3,i4,i6,i8,i9⟩:=h;refine⟨?_,?_,?_,?_,?_,?_⟩<;>intro h<;>simp_all
theorem inv3:∀b0 b1 b4 b5 b6 b7 b8 b9:Bool,((b1=true->b0=true)∧(false=true->true=true)∧(b4=true->b1=true∧false=true)∧(b6=true->b5=true)∧(b8=true->b7=true)∧(b9=true->b6=true∧b8=true∧b4=true))->((b1=true->b0=true)∧(true=true->true=true)∧(b4=true->b1=true∧true=true)∧(b6=true->b5=true)∧(b8=true->b7=true)∧(b9=true->b6=true∧b8=true∧b4=true)):=by
 intro b0 b1 b4 b5 b6 b7 b8 b9 h;obtain⟨i1,i3,i4,i6,i8,i9⟩:=h;refine⟨?_,?_,?_,?_,?_,?_⟩<;>intro h<;>simp_all
theorem inv4:∀b0 b2 b5 b6 b7 b8 b9:Bool,((true=true->b0=true)∧(true=true->b2=true)∧(false=true->true=true∧true=true)∧(b6=true->b5=true)∧(b8=true->b7=true)∧(b9=true->b6=true∧b8=true∧false=true))->((true=true->b0=true)∧(true=true->b2=true)∧(true=true->true=true∧true=true)∧(b6=true->b5=true)∧(b8=true->b7=true)∧(b9=true->b6=true∧b8=true∧true=true)):=by
 intro b0 b2 b5 b6 b7 b8 b9 h;obtain⟨i1,i3,i4,i6,i8,i9⟩:=h;refine⟨?_,?_,?_,?_,?_,?_⟩<;>intro h<;>simp_all
theorem inv5:∀b0 b1 b2 b3 b4 b6 b7 b8 b9:Bool,((b1=true->b0=true)∧(b3=true->b2=true)∧(b4=true->b1=true∧b3=true)∧(b6=true->false=true)∧(b8=true->b7=true)∧(b9=true->b6=true∧b8=true∧b4=true))->((b1=true->b0=true)∧(b3=true->b2=true)∧(b4=true->b1=true∧b3=true)∧(b6=true->true=true)∧(b8=true->b7=true)∧(b9=true->b6=true∧b8=true∧b4=true)):=by
 intro b0 b1 b2 b3 b4 b6 b7 b8 b9 h;obtain⟨i1,i3,i4,i6,i8,i9⟩:=h;refine⟨?_,?_,?_,?_,?_,?_⟩<;>intro h<;>simp_all
theorem inv6:∀b0 b1 b2 b3 b4 b7 b8 b9:Bool,((b1=true->b0=true)∧(b3=true->b2=true)∧(b4=true->b1=true∧b3=true)∧(false=true->true=true)∧(b8=true->b7=true)∧(b9=true->false=true∧b8=true∧b4=true))->((b1=true->b0=true)∧(b3=true->b2=true)∧(b4=true->b1=true∧b3=true)∧(true=true->true=true)∧(b8=true->b7=true)∧(b9=true->true=true∧b8=true∧b4=true)):=by
 intro b0 b1 b2 b3 b4 b7 b8 b9 h;obtain⟨i1,i3,i4,i6,i8,i9⟩:=h;refine⟨?_,?_,?_,?_,?_,?_⟩<;>intro h<;>simp_all
theorem inv7:∀b0 b1 b2 b3 b4 b5 b6 b8 b9:Bool,((b1=true->b0=true)∧(b3=true->b2=true)∧(b4=true->b1=true∧b3=true)∧(b6=true->b5=true)∧(b8=true->false=true)∧(b9=true->b6=true∧b8=true∧b4=true))->((b1=true->b0=true)∧(b3=true->b2=true)∧(b4=true->b1=true∧b3=true)∧(b6=true->b5=true)∧(b8=true->true=true)∧(b9=true->b6=true∧b8=true∧b4=true)):=by
 intro b0 b1 b2 b3 b4 b5 b6 b8 b9 h;obtain⟨i1,i3,i4,i6,i8,i9⟩:=h;refine⟨?_,?_,?_,?_,?_,?_⟩<;>intro h<;>simp_all
theorem inv8:∀b0 b1 b2 b3 b4 b5 b6 b9:Bool,((b1=true->b0=true)∧(b3=true->b2=true)∧(b4=true->b1=true∧b3=true)∧(b6=true->b5=true)∧(false=true->true=true)∧(b9=true->b6=true∧false=true∧b4=true))->((b1=true->b0=true)∧(b3=true->b2=true)∧(b4=true->b1=true∧b3=true)∧(b6=true->b5=true)∧(true=true->true=true)∧(b9=true->b6=true∧true=true∧b4=true)):=by
 intro b0 b1 b2 b3 b4 b5 b6 b9 h;obtain⟨i1,i3,i4,i6,i8,i9⟩:=h;refine⟨?_,?_,?_,?_,?_,?_⟩<;>intro h<;>simp_all
theorem inv9:∀b0 b1 b2 b3 b5 b7:Bool,((b1=true->b0=true)∧(b3=true->b2=true)∧(true=true->b1=true∧b3=true)∧(true=true->b5=true)∧(true=true->b7=true)∧(false=true->true=true∧true=true∧true=true))->((b1=true->b0=true)∧(b3=true->b2=true)∧(true=true->b1=true∧b3=true)∧(true=true->b5=true)∧(true=true->b7=true)∧(true=true->true=true∧true=true∧true=true)):=by
 intro b0 b1 b2 b3 b5 b7 h;obtain⟨i1,i3,i4,i6,i8,i9⟩:=h;refine⟨?_,?_,?_,?_,?_,?_⟩<;>intro h<;>simp_all
theorem inv_all:∀b0 b1 b2 b3 b5 b6 b7 b8:Bool,((b1=true->b0=true)∧(b3=true->b2=true)∧(true=true->b1=true∧b3=true)∧(b6=true->b5=true)∧(b8=true->b7=true)∧(true=true->b6=true∧b8=true∧true=true))->b0=true∧b1=true∧b2=true∧b3=true∧b5=true∧b6=true∧b7=true∧b8=true:=by
 intro b0 b1 b2 b3 b5 b6 b7 b8 h;obtain⟨i1,i3,i4,i6,i8,i9⟩:=h;simp_all
theorem key67:∀b0 b1 b2 b3 b4 b5 b6 b7 b8 b9:Bool,∃i,i∈Region.ready .any ops67 #[b0,b1,b2,b3,b4,b5,b6,b7,b8,b9,false,false,false]:=by
 intro b0 b1 b2 b3 b4 b5 b6 b7 b8 b9;cases b0 with
 |false=>exact⟨0,dJ eh (by rw[cg];decide) rfl (by intro j hj;simp[qT]at hj)⟩
 |true=>
  cases b1 with
  |false=>exact⟨1,dJ eh (by rw[cg];decide) rfl (by intro j hj;simp only[qT,List.getD_cons_zero,List.getD_cons_succ,List.mem_cons,List.not_mem_nil,or_false]at hj;subst hj;rfl)⟩
  |true=>
   cases b2 with
   |false=>exact⟨2,dJ eh (by rw[cg];decide) rfl (by intro j hj;simp[qT]at hj)⟩
   |true=>
    cases b3 with
    |false=>exact⟨3,dJ eh (by rw[cg];decide) rfl (by intro j hj;simp only[qT,List.getD_cons_zero,List.getD_cons_succ,List.mem_cons,List.not_mem_nil,or_false]at hj;subst hj;rfl)⟩
    |true=>
     cases b4 with
     |false=>exact⟨4,dJ eh (by rw[cg];decide) rfl (by intro j hj;simp only[qT,List.getD_cons_zero,List.getD_cons_succ,List.mem_cons,List.not_mem_nil,or_false]at hj;rcases hj with rfl|rfl<;>rfl)⟩
     |true=>
      cases b5 with
      |false=>exact⟨5,dJ eh (by rw[cg];decide) rfl (by intro j hj;simp[qT]at hj)⟩
      |true=>
       cases b6 with
       |false=>exact⟨6,dJ eh (by rw[cg];decide) rfl (by intro j hj;simp only[qT,List.getD_cons_zero,List.getD_cons_succ,List.mem_cons,List.not_mem_nil,or_false]at hj;subst hj;rfl)⟩
       |true=>
        cases b7 with
        |false=>exact⟨7,dJ eh (by rw[cg];decide) rfl (by intro j hj;simp[qT]at hj)⟩
        |true=>
         cases b8 with
         |false=>exact⟨8,dJ eh (by rw[cg];decide) rfl (by intro j hj;simp only[qT,List.getD_cons_zero,List.getD_cons_succ,List.mem_cons,List.not_mem_nil,or_false]at hj;subst hj;rfl)⟩
         |true=>
          cases b9 with
          |false=>exact⟨9,dJ eh (by rw[cg];decide) rfl (by intro j hj;simp only[qT,List.getD_cons_zero,List.getD_cons_succ,List.mem_cons,List.not_mem_nil,or_false]at hj;rcases hj with rfl|rfl|rfl<;>rfl)⟩
          |true=>
           exact⟨10,dJ eh (by rw[cg];decide) rfl (by intro j hj;simp only[qT,List.getD_cons_zero,List.getD_cons_succ,List.mem_cons,List.not_mem_nil,or_false]at hj;rcases hj with rfl|rfl<;>rfl)⟩
section
set_option maxHeartbeats 4000000
variable (x y:Sl) (n:Nat) {Q:Exit->Act->World->Prop} {w:World}
theorem any67 (h0:w.cell? ⟨n,0,none⟩=some (.int .i64 x.a)) (h1:w.cell? ⟨n,1,none⟩=some (.int .i64 x.b)) (h2:w.cell? ⟨n+1,0,none⟩=some (.int .i64 y.a)) (h3:w.cell? ⟨n+1,1,none⟩=some (.int .i64 y.b))
 (hQ:Q .normal (G x y n (.slice (some ⟨w.heap.size,0,none⟩) 2 2) (.int .i64 (cfS x y)) (.int .i64 (cfS x y))) (w.alloc (.cells #[.int .i64 (cI x.a y.a), .int .i64 (cI x.b y.b)] 3))):
 ∀(fuel:Nat) (b0 b1 b2 b3 b4 b5 b6 b7 b8 b9:Bool),((b1=true->b0=true)∧(b3=true->b2=true)∧(b4=true->b1=true∧b3=true)∧(b6=true->b5=true)∧(b8=true->b7=true)∧(b9=true->b6=true∧b8=true∧b4=true))->13≤fuel+(b0.toNat+b1.toNat+b2.toNat+b3.toNat+b4.toNat+b5.toNat+b6.toNat+b7.toNat+b8.toNat+b9.toNat)->
  wpAny Tryz.prog .any ops67 Q fuel #[b0,b1,b2,b3,b4,b5,b6,b7,b8,b9,false,false,false] (F x y n b0 b1 b2 b3 b4 b5 b6 b7 b8 b9) w:=by
 have bl:∀b:Bool,b.toNat≤1:=fun b=>by cases b<;>decide
 intro fuel
 induction fuel with
 |zero=>
  intro b0 b1 b2 b3 b4 b5 b6 b7 b8 b9 _ hf;have k0:=bl b0;have k1:=bl b1;have k2:=bl b2;have k3:=bl b3;have k4:=bl b4;have k5:=bl b5;have k6:=bl b6;have k7:=bl b7;have k8:=bl b8;have k9:=bl b9;omega
 |succ fuel ih=>
 intro b0 b1 b2 b3 b4 b5 b6 b7 b8 b9 hi hf;by_cases hall:b4=true∧b9=true
 ·obtain⟨rfl,rfl⟩:=hall;obtain⟨rfl,rfl,rfl,rfl,rfl,rfl,rfl,rfl⟩:=inv_all _ _ _ _ _ _ _ _ hi;obtain⟨f,hf'⟩:∃f,fuel+1=f+3:=⟨fuel-2,by simp only[Bool.toNat_true]at hf;omega⟩
  rw[hf'];exact tail67 x y n f hQ
 refine⟨fun he=> ?_,fun i hm=> ?_⟩
 ·exfalso
  obtain⟨i,h⟩:=key67 b0 b1 b2 b3 b4 b5 b6 b7 b8 b9;rw[he]at h;cases h
 obtain⟨hs,hb,hr⟩:=ready_iff eh hm;rw[cg]at hs;have hc:i=0∨i=1∨i=2∨i=3∨i=4∨i=5∨i=6∨i=7∨i=8∨i=9∨i=10∨i=11∨i=12:=by omega
 clear hs hm;rcases hc with rfl|rfl|rfl|rfl|rfl|rfl|rfl|rfl|rfl|rfl|rfl|rfl|rfl
 ·
  have d:b0=false:=hb;subst d;refine s0 x y n ?_
  exact ih true b1 b2 b3 b4 b5 b6 b7 b8 b9 (inv0 b1 b2 b3 b4 b5 b6 b7 b8 b9 hi) (by simp only[Bool.toNat_true,Bool.toNat_false]at hf ⊢;omega)
 ·
  have d0:b0=true:=hr 0 (by decide)
  have d:b1=false:=hb;subst d d0;refine s1 x y n h0 ?_
  exact ih true true b2 b3 b4 b5 b6 b7 b8 b9 (inv1 b2 b3 b4 b5 b6 b7 b8 b9 hi) (by simp only[Bool.toNat_true,Bool.toNat_false]at hf ⊢;omega)
 ·
  have d:b2=false:=hb;subst d;refine s2 x y n ?_
  exact ih b0 b1 true b3 b4 b5 b6 b7 b8 b9 (inv2 b0 b1 b3 b4 b5 b6 b7 b8 b9 hi) (by simp only[Bool.toNat_true,Bool.toNat_false]at hf ⊢;omega)
 ·
  have d2:b2=true:=hr 2 (by decide)
  have d:b3=false:=hb;subst d d2;refine s3 x y n h2 ?_
  exact ih b0 b1 true true b4 b5 b6 b7 b8 b9 (inv3 b0 b1 b4 b5 b6 b7 b8 b9 hi) (by simp only[Bool.toNat_true,Bool.toNat_false]at hf ⊢;omega)
 ·
  have d1:b1=true:=hr 1 (by decide)
  have d3:b3=true:=hr 3 (by decide)
  have d:b4=false:=hb;subst d d1 d3;refine s4 x y n ?_
  exact ih b0 true b2 true true b5 b6 b7 b8 b9 (inv4 b0 b2 b5 b6 b7 b8 b9 hi) (by simp only[Bool.toNat_true,Bool.toNat_false]at hf ⊢;omega)
 ·
  have d:b5=false:=hb;subst d;refine s5 x y n ?_
  exact ih b0 b1 b2 b3 b4 true b6 b7 b8 b9 (inv5 b0 b1 b2 b3 b4 b6 b7 b8 b9 hi) (by simp only[Bool.toNat_true,Bool.toNat_false]at hf ⊢;omega)
 ·
  have d5:b5=true:=hr 5 (by decide)
  have d:b6=false:=hb;subst d d5;refine s6 x y n h1 ?_
  exact ih b0 b1 b2 b3 b4 true true b7 b8 b9 (inv6 b0 b1 b2 b3 b4 b7 b8 b9 hi) (by simp only[Bool.toNat_true,Bool.toNat_false]at hf ⊢;omega)
 ·
  have d:b7=false:=hb;subst d;refine s7 x y n ?_
  exact ih b0 b1 b2 b3 b4 b5 b6 true b8 b9 (inv7 b0 b1 b2 b3 b4 b5 b6 b8 b9 hi) (by simp only[Bool.toNat_true,Bool.toNat_false]at hf ⊢;omega)
 ·
  have d7:b7=true:=hr 7 (by decide)
  have d:b8=false:=hb;subst d d7;refine s8 x y n h3 ?_
  exact ih b0 b1 b2 b3 b4 b5 b6 true true b9 (inv8 b0 b1 b2 b3 b4 b5 b6 b9 hi) (by simp only[Bool.toNat_true,Bool.toNat_false]at hf ⊢;omega)
 ·
  have d6:b6=true:=hr 6 (by decide)
  have d8:b8=true:=hr 8 (by decide)
  have d4:b4=true:=hr 4 (by decide)
  have d:b9=false:=hb;subst d d6 d8 d4;refine s9 x y n ?_
  exact ih b0 b1 b2 b3 true b5 true b7 true true (inv9 b0 b1 b2 b3 b5 b7 hi) (by simp only[Bool.toNat_true,Bool.toNat_false]at hf ⊢;omega)
 ·exact absurd ⟨hr 4 (by decide),hr 9 (by decide)⟩ hall
 ·exact absurd (show false=true from hr 10 (by decide)) (by decide)
 ·exact absurd (show false=true from hr 11 (by decide)) (by decide)
end
end Go.Proofs.YtfdedgmlafelaaaGreatDoor.Sr
namespace Go.Proofs.YtfdedgmlafelaaaGreatDoor.Sr
open Go.RowKit
set_option maxRecDepth 100000 in
set_option maxHeartbeats 2000000 in
theorem OJ (x y:Sl) (W:World):Calls Tryz.prog 67 #[.agg (encS x).toArray, .agg (encS y).toArray] W fun e w'=>e = .returned (.int .i64 (cfS x y))∧∃q os',w'=Go.Sort.grow (W.drewN q) os':=by
 have hm:Tryz.prog.follows .mixedOrders=true:=by kernel_rfl
 have key:= @any67 x y W.heap.size;unfold encS
 go_enter Tryz.func67,Tryz.ntmps67
 go_wp2
 refine wp_region_any hm ?_
 have e1:=heap_alloc_new W (.cells (encS x).toArray 69);have e2:=heap_alloc_new (W.alloc (.cells (encS x).toArray 69)) (.cells (encS y).toArray 69);have e3:=heap_alloc_old (W.alloc (.cells (encS x).toArray 69)) (.cells (encS y).toArray 69) W.heap.size (by simp)
 have e4:(W.alloc (.cells (encS x).toArray 69)).heap.size=W.heap.size+1:=by simp
 rw[e4]at e2;have e5:=e3.trans e1;refine key (by unfold World.cell?;simp only[];erw [e5];rfl) (by unfold World.cell?;simp only[];erw [e5];rfl) (by unfold World.cell?;simp only[];erw [e2];rfl) (by unfold World.cell?;simp only[];erw [e2];rfl) ?_ 13 false false false false false false false false false false (by simp) (by simp)
 rename_i hK;refine hK _ _ ?_
 unfold G
 go_wp2
 go_ret
 refine⟨rfl,1, #[.cells (encS x).toArray 69, .cells (encS y).toArray 69, .cells #[.int .i64 (cI x.a y.a), .int .i64 (cI x.b y.b)] 3],?_⟩
 show(((W.drewN 1).alloc (.cells (encS x).toArray 69)).alloc (.cells (encS y).toArray 69)).alloc (.cells #[.int .i64 (cI x.a y.a), .int .i64 (cI x.b y.b)] 3)=_
 rw[Go.Sort.alloc_eq_grow,Go.Sort.alloc_eq_grow,Go.Sort.alloc_eq_grow,Go.Sort.grow_grow,Go.Sort.grow_grow]
 rfl
end Go.Proofs.YtfdedgmlafelaaaGreatDoor.Sr
namespace Go.Proofs.YtfdedgmlafelaaaGreatDoor.Sr
open Go.Shelf Go.RowKit Go.Lib Go.Sort
def B2:Go.Shelf.Ren:=⟨fun|6=>66|15=>107|14=>106|28=>142|29=>143|20=>134|21=>135|22=>136|23=>137|24=>138|25=>139|26=>140|27=>141|46=>155|47=>156|48=>157|49=>158|50=>159|57=>166|n=>n,fun|22=>28|24=>69|25=>119|3=>3|39=>147|0=>0|53=>22|55=>104|4=>4|46=>164|45=>163|50=>58|5=>5|9=>9|66=>183|70=>187|76=>194|77=>195|n=>n,fun|n=>n⟩
theorem Gg:Go.Proofs.SlLaysF0.n6 Tryz.prog B2:={
 mixed:=by kernel_rfl
 f6:=⟨Tryz.f66.name,by decide,Tryz.func66.trans (congrArg some (by kernel_rfl))⟩
 f14:=⟨Tryz.f106.name,by decide,Tryz.func106.trans (congrArg some (by kernel_rfl))⟩
 f15:=Tryz.func107.trans (congrArg some (by kernel_rfl))
 f20:=⟨Tryz.f134.name,by decide,Tryz.func134.trans (congrArg some (by kernel_rfl))⟩
 f21:=⟨Tryz.f135.name,by decide,Tryz.func135.trans (congrArg some (by kernel_rfl))⟩
 f22:=⟨Tryz.f136.name,by decide,Tryz.func136.trans (congrArg some (by kernel_rfl))⟩
 f23:=⟨Tryz.f137.name,by decide,Tryz.func137.trans (congrArg some (by kernel_rfl))⟩
 f24:=⟨Tryz.f138.name,by decide,Tryz.func138.trans (congrArg some (by kernel_rfl))⟩
 f25:=⟨Tryz.f139.name,by decide,Tryz.func139.trans (congrArg some (by kernel_rfl))⟩
 f26:=⟨Tryz.f140.name,by decide,Tryz.func140.trans (congrArg some (by kernel_rfl))⟩
 f27:=⟨Tryz.f141.name,by decide,Tryz.func141.trans (congrArg some (by kernel_rfl))⟩
 f28:=Tryz.func142.trans (congrArg some (by kernel_rfl))
 f29:=Tryz.func143.trans (congrArg some (by kernel_rfl))
 f46:=⟨Tryz.f155.name,by decide,Tryz.func155.trans (congrArg some (by kernel_rfl))⟩
 f47:=Tryz.func156.trans (congrArg some (by kernel_rfl))
 f48:=Tryz.func157.trans (congrArg some (by kernel_rfl))
 f49:=⟨Tryz.f158.name,by decide,Tryz.func158.trans (congrArg some (by kernel_rfl))⟩
 f50:=⟨Tryz.f159.name,by decide,Tryz.func159.trans (congrArg some (by kernel_rfl))⟩
 f57:=⟨Tryz.f166.name,by decide,Tryz.func166.trans (congrArg some (by kernel_rfl))⟩
 t0:=Tryz.underlying0
 a0:=Tryz.isAgg0
 z0:=Tryz.sizeOf0
 v0:=Tryz.zeroValue0
 t3:=Tryz.underlying3
 a3:=Tryz.isAgg3
 z3:=Tryz.sizeOf3
 v3:=Tryz.zeroValue3
 t4:=Tryz.underlying4
 a4:=Tryz.isAgg4
 z4:=Tryz.sizeOf4
 v4:=Tryz.zeroValue4
 t5:=Tryz.underlying5
 a5:=Tryz.isAgg5
 z5:=Tryz.sizeOf5
 v5:=Tryz.zeroValue5
 t9:=Tryz.underlying9
 a9:=Tryz.isAgg9
 z9:=Tryz.sizeOf9
 v9:=Tryz.zeroValue9
 t22:=Tryz.underlying28
 a22:=Tryz.isAgg28
 z22:=Tryz.sizeOf28
 v22:=Tryz.zeroValue28
 t25:=Tryz.underlying119
 a25:=Tryz.isAgg119
 z25:=Tryz.sizeOf119
 v25:=Tryz.zeroValue119
 t39:=Tryz.underlying147
 a39:=Tryz.isAgg147
 z39:=Tryz.sizeOf147
 v39:=Tryz.zeroValue147
 t45:=Tryz.underlying163
 a45:=Tryz.isAgg163
 z45:=Tryz.sizeOf163
 v45:=Tryz.zeroValue163
 t46:=Tryz.underlying164
 a46:=Tryz.isAgg164
 z46:=Tryz.sizeOf164
 v46:=Tryz.zeroValue164
 t50:=Tryz.underlying58
 a50:=Tryz.isAgg58
 z50:=Tryz.sizeOf58
 v50:=Tryz.zeroValue58
 t53:=Tryz.underlying22
 a53:=Tryz.isAgg22
 z53:=Tryz.sizeOf22
 v53:=Tryz.zeroValue22
 t55:=Tryz.underlying104
 a55:=Tryz.isAgg104
 z55:=Tryz.sizeOf104
 v55:=Tryz.zeroValue104
 t66:=Tryz.underlying183
 a66:=Tryz.isAgg183
 z66:=Tryz.sizeOf183
 v66:=Tryz.zeroValue183
 t70:=Tryz.underlying187
 a70:=Tryz.isAgg187
 z70:=Tryz.sizeOf187
 v70:=Tryz.zeroValue187
 t76:=Tryz.underlying194
 a76:=Tryz.isAgg194
 z76:=Tryz.sizeOf194
 v76:=Tryz.zeroValue194
 t77:=Tryz.underlying195
 a77:=Tryz.isAgg195
 z77:=Tryz.sizeOf195
 v77:=Tryz.zeroValue195}
instance:Inhabited Sl:=⟨⟨0,0,0,0,false⟩⟩
theorem jI (x:Sl):(encS x).length=5:=rfl
theorem Gh (L:List Sl):(L.flatMap encS).length=L.length*5:=by
 induction L with
 |nil=>rfl
 |cons x L ih=>simp only[List.flatMap_cons,List.length_append,ih,jI,List.length_cons];omega
theorem flat_get:∀(L:List Sl) (j:Nat),j<L.length*5->(L.flatMap encS)[j]? = some ((encS (L.toArray[j/5]!))[j%5]!)
 | [],j,h=>by simp at h
 |x::L,j,h=>by
  rw[List.flatMap_cons];by_cases hj:j<5
  ·rw[List.getElem?_append_left (by rw[jI];exact hj),Nat.div_eq_of_lt hj,Nat.mod_eq_of_lt hj]
   have:j<(encS x).length:=by rw[jI];exact hj
   simp[this]
  ·rw[List.getElem?_append_right (by rw[jI];omega),jI,flat_get L (j-5) (by simp at h;omega)]
   have e1:j/5=(j-5)/5+1:=by omega
   have e2:j%5=(j-5)%5:=by omega
   rw[e1,e2];simp
theorem OK {w:World} {g:Nat} {cur:Array Value} {e:TypeId} {L:List Sl} (hb:w.heap[g]? = some (.cells cur e (0,0))) (ht:cur.toList.take (L.length*5)=L.flatMap encS):HoldsK encS 5 w g 0 L.toArray:=by
 intro j hj;rw[size_flatK]at hj;have hj':j<L.length*5:=by simpa using hj
 refine⟨?_,by simp[World.frozen?,hb]⟩
 have h1:(cur.toList.take (L.length*5))[j]? = (L.flatMap encS)[j]? :=by rw[ht]
 rw[List.getElem?_take_of_lt hj',flat_get L j hj']at h1
 rw[get_flatK encS 5 L.toArray j hj];simp only[World.cell?,hb,Nat.zero_add]
 simp only[Option.isSome_none,Bool.false_eq_true,if_false];rw[<- Array.getElem?_toList,h1]
 rfl
theorem JG {w:World} {g n:Nat} {os:Array Obj} {cur:Array Value} {e:TypeId} {fr:Nat×Nat} (F:Array Value) (hb:w.heap[g]? = some (.cells cur e fr)):
 (grow (putRow id (Sort.ahead w n) g 0 F) os).heap[g]? = some (.cells (putCells id 0 F cur) e fr):=by
 have hlt:g<w.heap.size:=(Array.getElem?_eq_some_iff.1 hb).1
 rw[heap_grow_old _ _ (by simpa using hlt)]
 simp[putRow,mapBlock,Sort.ahead,Array.getElem?_modify,hb]
 rfl
theorem xS {w:World} {g n:Nat} {os:Array Obj} (F:Array Value):w.grownBy (grow (putRow id (Sort.ahead w n) g 0 F) os) (some g):=by
 refine⟨rfl,rfl,rfl,by simp,fun k hk hne=> ?_⟩
 rw[heap_grow_old _ _ (by simpa using hk)]
 have:g≠k:=fun e=>hne (by rw[e])
 simp[putRow,mapBlock,Sort.ahead,Array.getElem?_modify,this]
theorem OL (cur:Array Value) (L:List Sl) (h:L.length*5≤cur.size):(putCells id 0 (flatK encS 5 L.toArray) cur).toList.take (L.length*5)=L.flatMap encS:=by
 apply List.ext_getElem?
 intro j;by_cases hj:j<L.length*5
 ·rw[List.getElem?_take_of_lt hj,flat_get L j hj, <- get_flatK encS 5 L.toArray j (by simpa using hj),Array.getElem?_toList]
  simp[putCells,hj,show j<cur.size by omega]
 ·rw[List.getElem?_take_eq_none (by omega),List.getElem?_eq_none (by rw[Gh];omega)]
def ltS (x y:Sl):Bool:=decide (x.a<y.a∨(x.a=y.a∧x.b<y.b))
theorem Mb (x y:Sl):ltOf cfS x y=ltS x y:=by
 unfold ltOf cfS orI cI ltS
 repeat' split
 all_goals (simp;omega)
theorem swo:SWO (ltOf cfS) where
 irrefl x:=by rw[Mb];simp[ltS]
 trans x y z h1 h2:=by rw[Mb]at *;simp[ltS]at *;omega
 ntrans x y z h1 h2:=by rw[Mb]at *;simp[ltS]at *;omega
theorem OM (blk off size:Nat) (w:World):CmpLays Tryz.prog 67 #[] encS 5 cfS blk off size w:=fun _ _ _ _ x y=>OJ x y _
theorem eg67 (args:Array Value) (w:World):(callFunc 67 args).run Tryz.prog w = .ok (.enter 67 args) w:=enters_of Tryz.func67 (by kernel_rfl) rfl _ _
theorem TM (g cap:Nat) (L:List Sl) (W:World) (cur:Array Value) (hb:W.heap[g]? = some (.cells cur 69 (0,0))) (ht:cur.toList.take (L.length*5)=L.flatMap encS) (hl:L.length≤1000000) (hs:L.length*5≤cur.size):
 Calls Tryz.prog 66 #[.slice (some ⟨g,0,none⟩) L.length cap, .func (.func 67) #[] #[]] W fun e w'=>e = .returned (.tuple #[])∧∃L':List Sl,L'.Perm L∧L'.Pairwise (fun a b=>ltS b a=false)∧
  W.grownBy w' (some g)∧∃cur',w'.heap[g]? = some (.cells cur' 69 (0,0))∧cur'.size=cur.size∧cur'.toList.take (L.length*5)=L'.flatMap encS:=by
 have hgl:g<W.heap.size:=(Array.getElem?_eq_some_iff.1 hb).1
 have hcon:=AnyQ.slices_SortFunc Gg 5 Tryz.isAgg69 Tryz.sizeOf69 encS (fun _=>rfl) (fun x v hv=>by simp[encS]at hv;rcases hv with rfl|rfl|rfl|rfl|rfl<;>rfl) cfS swo 67 #[] g 0 cap L.toArray W eg67 (OM g 0 _ W) (OK hb ht) hgl (by simp;omega)
 change Calls Tryz.prog 66 _ _ _ at hcon
 simp only[List.size_toArray]at hcon;refine hcon.mono ?_
 rintro e w' ⟨rfl,d',n,os,hp,hso,rfl⟩;obtain⟨p1,p2,p3⟩:=hp;have hsz:d'.size=L.length:=by simpa using p1
 have hd:d'.toList.length=L.length:=by simpa using hsz
 refine⟨rfl,d'.toList,?_,?_,xS _,_,JG _ hb,by simp[putCells],?_⟩
 ·have q:(d'.extract 0 L.length).toList.Perm (L.toArray.extract 0 L.length).toList:=by simpa using p3
  have e1:d'.extract 0 L.length=d':=by rw[<- hsz,Array.extract_size]
  have e2:L.toArray.extract 0 L.length=L.toArray:=by
   simp
  rw[e1,e2]at q;simpa using q
 ·refine List.pairwise_iff_getElem.2 fun i j hi hj hij=> ?_
  have:=hso i j (Nat.zero_le _) hij (by simpa[hsz]using hj)
  rw[Mb]at this;have hi':i<d'.size:=by simpa using hi
  have hj':j<d'.size:=by simpa using hj
  simpa[hi',hj']using this
 ·rw[<- hd];have:=OL cur d'.toList (by omega)
  simpa using this
theorem TN (hN:∀W,Calls Tryz.prog 66 #[.slice none 0 0, .func (.func 67) #[] #[]] W fun e w'=>e = .returned (.tuple #[])∧w'=W)
 (sb bm clk:Nat) (es:Array MapEntry) (g:MapEntry->Sl) (w:World) (c0:w.cell? ⟨sb,0,none⟩=some (.map (some bm))) (hb:w.heap[bm]? = some (.map es clk)) (hold:∀x∈es.toList,x.born<clk) (hn:(es.toList.map (·.born)).Nodup)
 (hv:∀e∈es.toList,e.val = .agg (encS (g e)).toArray) (hsz:es.size≤1000000):
 Calls Tryz.prog 31 #[.pointer (some ⟨sb,0,none⟩)] w fun e w'=>∃(v:Value) (L:List Sl),e = .returned v∧L.Perm (es.toList.map g)∧L.Pairwise (fun a b=>ltS b a=false)∧
  w'.ownsRow (w.heap.size+1) 69 5 v L.length (L.flatMap encS)∧RowKit.Below w.heap.size w w':=by
 refine collect sb bm clk es g w c0 hb hold hn hv hsz _ fun W v L hp hrow hbel=> ?_
 have hl:L.length≤1000000:=by rw[hp.length_eq,List.length_map,Array.length_toList];exact hsz
 rcases hrow.2 with⟨rfl,h0⟩|⟨gb,cap,cur,rfl,hbase,hh,k1,k2,k3,k4⟩
 ·have hL:L = []:=List.length_eq_zero_iff.1 h0;subst hL;refine(hN W).mono ?_
  rintro e w' ⟨rfl,rfl⟩;exact⟨rfl,_,[],rfl,hp,List.Pairwise.nil,hrow,hbel⟩
 ·refine(TM gb cap L W cur hh k4 hl (by rw[k3];exact Nat.mul_le_mul_right 5 k1)).mono ?_
  rintro e w' ⟨rfl,L',p1,p2,p3,cur',p4,p5,p6⟩;have hlen:=p1.length_eq;refine⟨rfl,_,L',rfl,p1.trans hp,p2,?_,hbel.grown p3 (by have:=hbel.size;omega) (fun j hj=>by cases hj;omega)⟩
  rw[hlen];exact⟨by rw[Gh,hlen], .inr ⟨gb,cap,cur',rfl,hbase,p4,k1,k2,by rw[p5,k3],p6⟩⟩
end Go.Proofs.YtfdedgmlafelaaaGreatDoor.Sr
namespace Go.Proofs.YtfdedgmlafelaaaGreatDoor.Sr
def leS (x y:Sl):Bool:= !ltS y x
def qD (M:List Sl):List Sl:=M.mergeSort leS
theorem leS_tr (a b c:Sl) (h1:leS a b=true) (h2:leS b c=true):leS a c=true:=by
 simp[leS,ltS]at *;omega
theorem leS_to (a b:Sl):(leS a b||leS b a)=true:=by
 simp[leS,ltS];omega
theorem Gi {L M:List Sl} (hp:L.Perm M) (hs:L.Pairwise (fun a b=>ltS b a=false)) (hd:M.Pairwise (fun a b=>¬(a.a=b.a∧a.b=b.b))):L=qD M:=by
 refine List.Perm.eq_of_pairwise (le:=fun a b=>leS a b=true) (fun a b ha hb h1 h2=> ?_) (hs.imp fun h=>by simp[leS,h]) (List.pairwise_mergeSort leS_tr leS_to M) (hp.trans (List.mergeSort_perm M leS).symm)
 have ha':a∈M:=hp.mem_iff.1 ha;have hb':b∈M:=(List.mergeSort_perm M leS).mem_iff.1 hb;have hk:a.a=b.a∧a.b=b.b:=by simp[leS,ltS]at h1 h2;omega
 have key:∀l:List Sl,l.Pairwise (fun a b=>¬(a.a=b.a∧a.b=b.b))->a∈l->b∈l->a=b:=by
  intro l hl h1 h2
  induction l with
  |nil=>cases h1
  |cons z l ih=>
   obtain⟨h3,h4⟩:=List.pairwise_cons.1 hl;rcases List.mem_cons.1 h1 with e1|h1<;>rcases List.mem_cons.1 h2 with e2|h2
   ·rw[e1,e2]
   ·exact absurd (by rw[<- e1];exact hk) (h3 b h2)
   ·exact absurd (by rw[<- e2];exact⟨hk.1.symm,hk.2.symm⟩) (h3 a h1)
   ·exact ih h4 h1 h2
 exact key M hd ha' hb'
theorem zn:∀(L:List Sl) (i:Nat) (s:Sl),L[i]? = some s->((L.flatMap encS).drop (i*5)).take 5=encS s
 | [],i,s,h=>by simp at h
 |x::L,0,s,h=>by
  simp only[List.getElem?_cons_zero,Option.some.injEq]at h
  subst h;rw[Nat.zero_mul,List.drop_zero,List.flatMap_cons];exact List.take_left' (jI x)
 |x::L,i+1,s,h=>by
  simp only[List.getElem?_cons_succ]at h
  rw[List.flatMap_cons,show(i+1)*5=(encS x).length+i*5 by rw[jI];omega, <- List.drop_drop,List.drop_left]
  exact zn L i s h
theorem TO {cur:List Value} {L:List Sl} (h:cur.take (L.length*5)=L.flatMap encS) {i:Nat} {s:Sl} (hs:L[i]? = some s):(cur.drop (i*5)).take 5=encS s:=by
 have hi:i<L.length:=(List.getElem?_eq_some_iff.1 hs).1
 rw[<- zn L i s hs, <- h,List.drop_take,List.take_take,Nat.min_eq_left (by omega)]
theorem TP (W:World):Calls Tryz.prog 66 #[.slice none 0 0, .func (.func 67) #[] #[]] W fun e w'=>e = .returned (.tuple #[])∧w'=W:=
 AnyF.slices_SortFunc_none Gg none 0 (.func (.func 67) #[] #[]) W
end Go.Proofs.YtfdedgmlafelaaaGreatDoor.Sr
