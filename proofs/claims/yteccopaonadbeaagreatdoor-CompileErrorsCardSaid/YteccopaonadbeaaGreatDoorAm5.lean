/-
  Single operations: what makes blocks, arithmetic, slices.
-/
import Derived.Test.YteccopaonadbeaaGreatDoorAm4
set_option linter.unusedVariables false
set_option linter.unusedSimpArgs false
namespace Go.AM
section
variable {P:Program} {lo:Nat→Prop} {w0:World} {ρ:Nat→Option Nat} {E:Nat→Prop} {H:Hp} {w:World}
theorem upd_self (ρ:Nat→Option Nat) (i b:Nat):upd ρ i b i=some b:=by simp[upd]
theorem Inv.pushCells {w':World} (inv:Inv lo w0 ρ E H w) {c:Array Value} {T:TypeId} (hw:w'.heap=w.heap.push (.cells c T (0,0))) {cs:List AV} (hr:RepL ρ E w cs (c.toList.take cs.length)) (hl:cs.length≤c.size) (hio:SameIO w w':=by exact⟨rfl,rfl,rfl⟩):
 Inv lo w0 (upd ρ H.n w.heap.size) E (H.push (.cells cs)) w'∧Ext ρ E w (upd ρ H.n w.heap.size) E w':=
 inv.push hw hio (.cells cs) fun _ _ _ ext hb=>⟨c,T,hb,hl,RepL.mono ext _ _ hr⟩
def OkA (P:Program) (ρ:Nat→Option Nat) (E:Nat→Prop) (w:World) (s:Sem Value) (mk:Nat→AV) (k:Blk):Prop:=
 ∃u w' o,s.run P w = .ok u w'∧(w'.heap=w.heap.push o∧SameIO w w')∧
  (∀ρ' E' w'',Ext ρ E w ρ' E' w''→w''.heap[w.heap.size]? = some o→BlkRep ρ' E' w'' k w.heap.size)∧
  (∀ρ' E' w'' i,ρ' i=some w.heap.size→w''.heap[w.heap.size]? = some o→Rep ρ' E' w'' (mk i) u)
theorem OkA.okH {s:Sem Value} {mk:Nat→AV} {k:Blk} (inv:Inv lo w0 ρ E H w) (h:OkA P ρ E w s mk k):OkH P lo w0 ρ E w s (mk H.n) (H.push k):=by
 obtain⟨u,w',o,hr,⟨hw,hio⟩,hk,hm⟩:=h
 obtain⟨inv',ext⟩:=inv.push hw hio k hk
 exact⟨u,w',_,hr,inv',ext,hm _ _ _ _ (upd_self _ _ _) (by rw[hw];simp)⟩
theorem okA_box {T:TypeId} {x:AV} {u:Value} {cs:List AV} (hc:cellsOf x=some cs) (r:Rep ρ E w x u):OkA P ρ E w (Instr.box T u) (fun i=> .ptr i 0) (.cells cs):=by
 have hr:=cellsOf_rep hc r
 have hlen:cs.length=u.cells.size:=by rw[hr.length,Array.length_toList]
 refine⟨.pointer (some ⟨w.heap.size,0,none⟩),w.alloc (.cells u.cells T (0,0)),_,by simp[Instr.box,newVar,newRow],⟨rfl,rfl,rfl,rfl⟩,fun ρ' E' w'' ext hb=> ?_,fun ρ' E' w'' i hi _=> ?_⟩
 ·exact⟨u.cells,T,hb,by omega,by rw[hlen, ← Array.length_toList,List.take_length];exact RepL.mono ext _ _ hr⟩
 ·simp only[Rep];exact⟨_,hi,rfl⟩
theorem okA_boxB {T:TypeId} {x:AV} {u:Value} {cs:List AV} (hc:cellsOf x=some cs) (r:Rep ρ E w x u):OkA P ρ E w (Instr.box T u) (fun i=> .ptr i 0) (blkOf x cs):=by
 by_cases hx:∃T' d,x = .dat T' d
 ·obtain⟨T',d,rfl⟩:=hx
  simp only[Rep]at r
  obtain⟨xs,rfl,hl,hr⟩:=r
  have hlen:=hr.len hl
  have hs:xs.size=PG.cellsOf T':=by rw[← Array.length_toList];exact hlen
  refine⟨.pointer (some ⟨w.heap.size,0,none⟩),w.alloc (.cells (Value.agg xs).cells T (0,0)),_,by simp[Instr.box,newVar,newRow],⟨rfl,rfl,rfl,rfl⟩,fun ρ' E' w'' ext hb=> ?_,fun ρ' E' w'' i hi _=> ?_⟩
  ·have hx:(Value.agg xs).cells=xs:=rfl
   rw[hx]at hb
   refine⟨xs,T,hb,hl,by omega,?_⟩
   rw[← hlen,List.take_length]
   exact hr.mono ext
  ·simp only[Rep];exact⟨_,hi,rfl⟩
 ·have:blkOf x cs = .cells cs:=by cases x<;>first|rfl|exact(hx ⟨_,_,rfl⟩).elim
  rw[this]
  exact okA_box hc r
theorem boxA_some {x v:AV} {H':Hp} (h:boxA H x=some (v,H')):∃cs,cellsOf x=some cs∧v = .ptr H.n 0∧H'=H.push (blkOf x cs):=by
 unfold boxA at h
 cases hc:cellsOf x with
 |none=>simp[hc]at h
 |some cs=>
  simp only[hc,Option.bind_some,Option.some.injEq,Prod.mk.injEq]at h
  exact⟨cs,rfl,h.1.symm,h.2.symm⟩
theorem ok_box (inv:Inv lo w0 ρ E H w) {T:TypeId} {x v:AV} {u:Value} {H':Hp} (h:boxA H x=some (v,H')) (r:Rep ρ E w x u):OkH P lo w0 ρ E w (Instr.box T u) v H':=by
 obtain⟨cs,hc,rfl,rfl⟩:=boxA_some h
 exact(okA_boxB hc r).okH inv
theorem zeroA_rep {T:TypeId} {z:AV} (h:zeroA P T=some z):∃i zv,P.info? T=some i∧i.zero=some zv∧(∀w,(zeroValue T).run P w = .ok zv w)∧∀ρ E w,Rep ρ E w z zv:=by
 unfold zeroA at h
 cases hi:P.info? T with
 |none=>simp[hi]at h
 |some i=>
  cases hz:i.zero with
  |none=>simp[hi,hz]at h
  |some zv=>
   simp[hi,hz]at h
   subst h
   exact⟨i,zv,rfl,hz,fun w=>by simp[zeroValue,typeInfo,hi,hz],fun ρ E w=>Rep.ofV zv⟩
theorem okA_alloc {T:TypeId} {z:AV} {cs:List AV} (hz:zeroA P T=some z) (hc:cellsOf z=some cs):OkA P ρ E w (Instr.alloc T true (.tuple #[])) (fun i=> .ptr i 0) (.cells cs):=by
 obtain⟨_,zv,_,_,hrun,hrep⟩:=zeroA_rep hz
 obtain⟨u,w',o,hr,rest⟩:=okA_box (P:=P) (T:=T) hc (hrep ρ E w)
 exact⟨u,w',o,by simpa[Instr.alloc,hrun,Instr.box]using hr,rest⟩
theorem allocA_some {T:TypeId} {v:AV} {H':Hp} (h:allocA P H T=some (v,H')):∃z cs,zeroA P T=some z∧cellsOf z=some cs∧v = .ptr H.n 0∧H'=H.push (.cells cs):=by
 unfold allocA at h
 cases hz:zeroA P T with
 |none=>simp[hz]at h
 |some z=>
  simp only[hz,Option.bind_some]at h
  cases hc:cellsOf z with
  |none=>simp[hc]at h
  |some cs=>
   simp only[hc,Option.bind_some,Option.some.injEq,Prod.mk.injEq]at h
   exact⟨z,cs,rfl,hc,h.1.symm,h.2.symm⟩
theorem ok_alloc (inv:Inv lo w0 ρ E H w) {T:TypeId} {v:AV} {H':Hp} (h:allocA P H T=some (v,H')):OkH P lo w0 ρ E w (Instr.alloc T true (.tuple #[])) v H':=by
 obtain⟨z,cs,hz,hc,rfl,rfl⟩:=allocA_some h
 exact(okA_alloc hz hc).okH inv
theorem okA_makeMap {T:TypeId}:OkA P ρ E w (Instr.makeMap T none) (fun i=> .map i) (.map []):=
 ⟨.map (some w.heap.size),w.alloc (.map #[] 0),_,by simp[Instr.makeMap],⟨rfl,rfl,rfl,rfl⟩,fun _ _ _ _ hb=>⟨#[],0,hb,by simp[RepM],by simp[Born]⟩,fun _ _ _ i hi _=>by simp only[Rep];exact⟨_,hi,rfl⟩⟩
theorem ok_makeMap (inv:Inv lo w0 ρ E H w) {T:TypeId}:OkH P lo w0 ρ E w (Instr.makeMap T none) (.map H.n) (H.push (.map [])):=okA_makeMap.okH inv
theorem fill_rep {place:Nat→Option (Nat×Nat)}:∀{parts:List (Nat×AV)} {vparts:List (Nat×Value)} {cells:List AV} {vcells:Array Value} {out:List AV},
 fillA place cells parts=some out→RepL ρ E w cells vcells.toList→vparts.map (·.1)=parts.map (·.1)→RepL ρ E w (parts.map (·.2)) (vparts.map (·.2))→
 ∃vout,Instr.fill place vcells vparts=some vout∧RepL ρ E w out vout.toList
 | [],vparts,cells,vcells,out,h,hr,h1,_=>by
   cases vparts with
   |nil=>simp only[fillA,Option.some.injEq]at h;subst h;exact⟨vcells,rfl,hr⟩
   |cons _ _=>simp at h1
 | (i,x)::rest,vparts,cells,vcells,out,h,hr,h1,h2=>by
   cases vparts with
   |nil=>simp at h1
   |cons p vrest=>
    obtain⟨i',u⟩:=p
    simp only[List.map_cons,List.cons.injEq]at h1
    obtain⟨rfl,h1⟩:=h1
    simp only[List.map_cons,RepL]at h2
    obtain⟨v0,vs0,e,rx,rrest⟩:=h2
    simp only[List.cons.injEq]at e
    obtain⟨rfl,rfl⟩:=e
    simp only[fillA]at h
    cases hp:place i' with
    |none=>simp[hp]at h
    |some os=>
     obtain⟨off,size⟩:=os
     cases hc:cellsOf x with
     |none=>simp[hp,hc]at h
     |some vs=>
      simp only[hp,hc,Option.bind_some]at h
      split at h
      case isFalse=>cases h
      case isTrue hh=>
       obtain⟨hl,hfit⟩:=hh
       have hrv:=cellsOf_rep hc rx
       have hvs:u.cells.size=size:=by rw[← Array.length_toList, ← hrv.length,hl]
       have hcl:vcells.size=cells.length:=by rw[← Array.length_toList,hr.length]
       have hfold:(u.cells.zipIdx.foldl (fun cs (c,j)=>cs.setIfInBounds (off+j) c) vcells).toList=vcells.toList.take off++u.cells.toList++vcells.toList.drop (off+u.cells.toList.length):=by
        rw[← Array.foldl_toList,Array.toList_zipIdx]
        have key:∀(l:List Value) (k:Nat) (a:Array Value),off+k+l.length≤a.size→
         ((l.zipIdx k).foldl (fun(cs:Array Value) (p:Value×Nat)=>cs.setIfInBounds (off+p.2) p.1) a).toList=a.toList.take (off+k)++l++a.toList.drop (off+k+l.length):=by
         intro l
         induction l with
         |nil=>intro k a _;simp
         |cons c l ih=>
          intro k a ha
          simp only[List.zipIdx_cons,List.foldl_cons]
          rw[ih (k+1) _ (by simp at ha ⊢;omega)]
          have e:=list_seg_step a.toList (off+k) c l (by simp at ha ⊢;omega)
          simpa[Array.toList_setIfInBounds,Nat.add_assoc]using e
        have:=key u.cells.toList 0 vcells (by simp;omega)
        simpa using this
       have hr':RepL ρ E w (setCells cells off vs) (u.cells.zipIdx.foldl (fun cs (c,j)=>cs.setIfInBounds (off+j) c) vcells).toList:=by
        rw[hfold];exact RepL.setCells hr hrv
       obtain⟨vout,hf,ho⟩:=fill_rep h hr' h1 rrest
       refine⟨vout,?_,ho⟩
       simp only[Instr.fill,hp]
       rw[if_neg]
       ·exact hf
       ·simp;omega
end
end Go.AM
