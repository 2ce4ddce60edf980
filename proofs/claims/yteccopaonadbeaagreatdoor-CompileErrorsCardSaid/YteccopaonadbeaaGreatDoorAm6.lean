/-
  Single operations: literals, arithmetic, slices, lengths.
-/
import Derived.Test.YteccopaonadbeaaGreatDoorAm5
set_option linter.unusedVariables false
set_option linter.unusedSimpArgs false
namespace Go.AM
section
variable {P:Program} {lo:Nat→Prop} {w0:World} {ρ:Nat→Option Nat} {E:Nat→Prop} {H:Hp} {w:World}
theorem structPlaces_run {fs:Array Field} {pl:List (Nat×Nat)} (h:structPlaces P fs.toList=some pl) (w:World):
 (fs.mapM fun f=>do pure (f.offset, ← sizeOf f.type):Sem (Array (Nat×Nat))).run P w = .ok pl.toArray w:=by
 have key:∀(l:List Field) (pl:List (Nat×Nat)),structPlaces P l=some pl→∀w,(l.mapM fun f=>(do pure (f.offset, ← sizeOf f.type):Sem (Nat×Nat))).run P w = .ok pl w:=by
  intro l
  induction l with
  |nil=>intro pl h w;simp only[structPlaces,mapO,Option.some.injEq]at h;subst h;simp
  |cons f l ih=>
   intro pl h w
   simp only[structPlaces,mapO]at h
   cases hs:sz P f.type with
   |none=>simp[hs]at h
   |some s=>
    cases hr:mapO (fun f=>(sz P f.type).map fun s=>(f.offset,s)) l with
    |none=>simp[hs,hr]at h
    |some zs=>
     simp[hs,hr]at h
     subst h
     have:=ih zs (by simpa[structPlaces]using hr) w
     simp[List.mapM_cons,run_sz hs]at this ⊢
     simp[this]
 rw[Array.mapM_eq_mapM_toList]
 have:=key fs.toList pl h w
 simp at this ⊢
 simp[this]
theorem ok_build {T:TypeId} {parts:List (Nat×AV)} {vparts:Array (Nat×Value)} {v:AV} (h:buildA P T parts=some v)
 (h1:vparts.toList.map (·.1)=parts.map (·.1)) (h2:RepL ρ E w (parts.map (·.2)) (vparts.toList.map (·.2))):OkP P ρ E w (Instr.build T vparts) v:=by
 unfold buildA at h
 cases hz:zeroA P T with
 |none=>simp[hz]at h
 |some z=>
  obtain⟨_,zv,_,_,hrun,hrep⟩:=zeroA_rep hz
  cases hc:cellsOf z with
  |none=>simp[hz,hc]at h
  |some zs=>
   simp only[hz,hc,Option.bind_some]at h
   have hzr:=cellsOf_rep hc (hrep ρ E w)
   split at h
   case h_3=>cases h
   case h_1 fs hu=>
    cases hp:structPlaces P fs.toList with
    |none=>simp[hp]at h
    |some pl=>
     simp only[hp,Option.bind_some]at h
     cases hf:fillA (fun x=>pl[x]?) zs parts with
     |none=>simp[hf]at h
     |some out=>
      simp[hf]at h
      subst h
      obtain⟨vout,hfv,hro⟩:=fill_rep hf hzr h1 h2
      refine⟨.agg vout,?_,by simp only[Rep];exact⟨vout,rfl,hro⟩⟩
      have hpl:=structPlaces_run hp w
      simp only[Instr.build,Sem.run_bind,hrun,Result.andThen_ok,run_underlying hu,hpl]
      simp[hfv]
   case h_2 n e hu=>
    cases hs:sz P e with
    |none=>simp[hs]at h
    |some s=>
     simp only[hs,Option.bind_some]at h
     cases hf:fillA (fun i=>some (i*s,s)) zs parts with
     |none=>simp[hf]at h
     |some out=>
      simp[hf]at h
      subst h
      obtain⟨vout,hfv,hro⟩:=fill_rep hf hzr h1 h2
      refine⟨.agg vout,?_,by simp only[Rep];exact⟨vout,rfl,hro⟩⟩
      simp[Instr.build,hrun,run_underlying hu,run_sz hs,hfv]
theorem repl_length {α:Type} (xs:List α):∀n,(repl xs n).length=n*xs.length
 |0=>by simp[repl]
 |n+1=>by simp[repl,repl_length xs n,Nat.succ_mul,Nat.add_comm]
theorem RepL.repl {xs:List AV} {vs:List Value} (h:RepL ρ E w xs vs):∀n,RepL ρ E w (AM.repl xs n) (AM.repl vs n)
 |0=>RepL.nil
 |n+1=>h.app (RepL.repl h n)
theorem range_repl (z:Array Value) (n:Nat):((Array.range (n*z.size)).map (z[· % z.size]!)).toList=repl z.toList n:=by
 apply List.ext_getElem?
 intro j
 have key:∀n j,j<n*z.size→(repl z.toList n)[j]? = some (z[j%z.size]!):=by
  intro n
  induction n with
  |zero=>intro j hj;simp at hj
  |succ n ih=>
   intro j hj
   simp only[repl]
   by_cases hlt:j<z.size
   ·rw[List.getElem?_append_left (by simpa using hlt)]
    simp[Nat.mod_eq_of_lt hlt,hlt]
   ·rw[List.getElem?_append_right (by simp;omega)]
    rw[Nat.succ_mul]at hj
    have:=ih (j-z.toList.length) (by simp;omega)
    rw[this]
    congr 2
    simp only[Array.length_toList]
    rw[Nat.mod_eq_sub_mod (by omega:j≥z.size)]
 by_cases hj:j<n*z.size
 ·rw[key n j hj]
  simp[hj]
 ·rw[List.getElem?_eq_none (by simp;omega),List.getElem?_eq_none (by rw[repl_length];simp;omega)]
theorem okA_buildSlice {T:TypeId} {len:Nat} {parts:List (Nat×AV)} {v:AV} {H':Hp} (h:buildSliceA P T len parts H=some (v,H')):
 ∃s cs,v = .sl H.n s 0 len∧H'=H.push (.cells cs)∧(∀H2,buildSliceA P T len parts H2=some (.sl H2.n s 0 len,H2.push (.cells cs)))∧∀(ρ:Nat→Option Nat) (E:Nat→Prop) (w:World) (vparts:Array (Nat×Value))
 (_:vparts.toList.map (·.1)=parts.map (·.1)) (_:RepL ρ E w (parts.map (·.2)) (vparts.toList.map (·.2))),OkA P ρ E w (Instr.buildSlice T len vparts) (fun i=> .sl i s 0 len) (.cells cs):=by
 unfold buildSliceA at h
 split at h
 case h_2=>cases h
 case h_1 e hu=>
  cases hs:sz P e with
  |none=>simp[hs]at h
  |some s=>
   cases hz:zeroA P e with
   |none=>simp[hs,hz]at h
   |some z=>
    obtain⟨_,zv,_,_,hrun,hrep⟩:=zeroA_rep hz
    cases hc:cellsOf z with
    |none=>simp[hs,hz,hc]at h
    |some zs=>
     simp only[hs,hz,hc,Option.bind_some]at h
     split at h
     case isFalse=>cases h
     case isTrue hh=>
      have hh':=hh
      obtain⟨hzl,hs0,hbig⟩:=hh
      cases hf:fillA (fun i=>some (i*s,s)) (repl zs len) parts with
      |none=>simp[hf]at h
      |some out=>
       simp[hf]at h
       refine⟨s,out,h.1.symm,h.2.symm,fun H2=> ?_,fun ρ E w vparts h1 h2=> ?_⟩
       ·simp only[buildSliceA,hu,hs,hz,hc,Option.bind_some]
        rw[if_pos hh',hf];rfl
       have hzr:=cellsOf_rep hc (hrep ρ E w)
       have hzsz:zv.cells.size=s:=by rw[← Array.length_toList, ← hzr.length,hzl]
       have hrr:RepL ρ E w (repl zs len) ((Array.range (len*s)).map (zv.cells[· % zv.cells.size]!)).toList:=by
        have:=range_repl zv.cells len
        rw[hzsz]at this ⊢
        rw[this]
        exact hzr.repl len
       obtain⟨vout,hfv,hro⟩:=fill_rep hf hrr h1 h2
       have hol:vout.size=len*s:=by
        have e1:=hro.length
        have e2:out.length=(repl zs len).length:=by
         have key:∀(parts:List (Nat×AV)) (cells out:List AV),fillA (fun i=>some (i*s,s)) cells parts=some out→out.length=cells.length:=by
          intro parts
          induction parts with
          |nil=>intro cells out h;simp only[fillA,Option.some.injEq]at h;rw[h]
          |cons p rest ih=>
           intro cells out h
           obtain⟨i,x⟩:=p
           simp only[fillA,Option.bind_some]at h
           cases hc:cellsOf x with
           |none=>simp[hc]at h
           |some vs=>
            simp only[hc,Option.bind_some]at h
            split at h
            ·rename_i hh
             rw[ih _ _ h]
             simp only[setCells,List.length_append,List.length_take,List.length_drop];omega
            ·cases h
         exact key parts _ out hf
        rw[← Array.length_toList, ← e1,e2,repl_length,hzl]
       have hlen:out.length=vout.size:=by rw[hro.length,Array.length_toList]
       refine⟨.slice (some ⟨w.heap.size,0,none⟩) len len,w.alloc (.cells vout e (0,0)),_,?_,⟨rfl,rfl,rfl,rfl⟩,fun ρ' E' w'' ext hb=>⟨vout,e,hb,by omega,by rw[hlen, ← Array.length_toList,List.take_length];exact RepL.mono ext _ _ hro⟩,fun ρ' E' w'' i hi hb=> ?_⟩
       ·have hb:¬16777216<len*s:=by omega
        by_cases hl0:len=0
        ·subst hl0
         have r0:Array.range 0 = #[]:=by rfl
         have e0:Instr.fill (fun i=>some (i*s,s)) #[] vparts.toList=some vout:=by
          rw[Nat.zero_mul,r0]at hfv;simpa using hfv
         simp[Instr.buildSlice,run_underlying hu,run_sz hs,newRow,r0,e0]
        ·have hne:¬len*s=0:=by
          intro e;rcases Nat.mul_eq_zero.1 e with e|e<;>omega
         simp[Instr.buildSlice,run_underlying hu,run_sz hs,hb,hrun,hne,newRow,hfv]
       ·simp only[Rep]
        exact⟨_,len,hi,rfl,Nat.le_refl _,vout,e,(0,0),hb,by omega⟩
theorem ok_buildSlice (inv:Inv lo w0 ρ E H w) {T:TypeId} {len:Nat} {parts:List (Nat×AV)} {vparts:Array (Nat×Value)} {v:AV} {H':Hp} (h:buildSliceA P T len parts H=some (v,H'))
 (h1:vparts.toList.map (·.1)=parts.map (·.1)) (h2:RepL ρ E w (parts.map (·.2)) (vparts.toList.map (·.2))):OkH P lo w0 ρ E w (Instr.buildSlice T len vparts) v H':=by
 obtain⟨s,cs,rfl,rfl,_,ho⟩:=okA_buildSlice h
 exact(ho ρ E w vparts h1 h2).okH inv
theorem madeCells_repl (z:Array Value) (n s:Nat) (hs:z.size=s):(madeCells z (n*s)).toList=repl z.toList n:=by
 subst hs
 exact range_repl z n
theorem okA_makeSlice {T:TypeId} {l c v:AV} {H':Hp} (h:makeSliceA P T l c H=some (v,H')):
 ∃s n cs,v = .sl H.n s 0 n∧H'=H.push (.cells cs)∧(∀H2,makeSliceA P T l c H2=some (.sl H2.n s 0 n,H2.push (.cells cs)))∧∀(ρ:Nat→Option Nat) (E:Nat→Prop) (w:World) (lv cv:Value) (_:Rep ρ E w l lv) (_:Rep ρ E w c cv),
  OkA P ρ E w (Instr.makeSlice T lv cv) (fun i=> .sl i s 0 n) (.cells cs):=by
 unfold makeSliceA at h
 split at h
 case h_2=>cases h
 case h_1 e k n k' m hu=>
  cases hi:P.info? e with
  |none=>simp[hi]at h
  |some info=>
   cases hz:zeroA P e with
   |none=>simp[hi,hz]at h
   |some z=>
    obtain⟨i0,zv,hi0,hz0,hrun,hrep⟩:=zeroA_rep hz
    rw[hi]at hi0;cases hi0
    cases hc:cellsOf z with
    |none=>simp[hi,hz,hc]at h
    |some zs=>
     simp only[hi,hz,hc,Option.bind_some]at h
     split at h
     case isFalse=>cases h
     case isTrue hh=>
      obtain⟨hzl,hs0,h0,hnm,hbig,hby⟩:=hh
      simp only[Option.some.injEq,Prod.mk.injEq]at h
      refine⟨info.size,n.toNat,repl zs m.toNat,h.1.symm,h.2.symm,fun H2=> ?_,fun ρ E w lv cv rl rc=> ?_⟩
      ·simp only[makeSliceA,hu,hi,hz,hc,Option.bind_some]
       rw[if_pos ⟨hzl,hs0,h0,hnm,hbig,hby⟩]
      simp only[Rep]at rl rc
      subst rl;subst rc
      have hzr:=cellsOf_rep hc (hrep ρ E w)
      have hzsz:zv.cells.size=info.size:=by rw[← Array.length_toList, ← hzr.length,hzl]
      have hm:=madeCells_repl zv.cells m.toNat info.size hzsz
      have hro:RepL ρ E w (repl zs m.toNat) (madeCells zv.cells (m.toNat*info.size)).toList:=by rw[hm];exact hzr.repl _
      have hsize:(madeCells zv.cells (m.toNat*info.size)).size=m.toNat*info.size:=by
       rw[← Array.length_toList,hm,repl_length,Array.length_toList,hzsz]
      have hlen:(repl zs m.toNat).length=(madeCells zv.cells (m.toNat*info.size)).size:=by rw[hro.length,Array.length_toList]
      refine⟨.slice (some ⟨w.heap.size,0,none⟩) n.toNat m.toNat,w.alloc (.cells (madeCells zv.cells (m.toNat*info.size)) e (0,0)),_,?_,⟨rfl,rfl,rfl,rfl⟩,fun ρ' E' w'' ext hb=>⟨_,e,hb,by omega,by rw[hlen, ← Array.length_toList,List.take_length];exact RepL.mono ext _ _ hro⟩,fun ρ' E' w'' i hi hb=> ?_⟩
      ·exact run_make w T e info zv hu hi hz0 k k' n m h0 hnm hby (by omega)
      ·simp only[Rep]
       exact⟨_,m.toNat,hi,rfl,by omega,_,e,(0,0),hb,by omega⟩
end
end Go.AM
