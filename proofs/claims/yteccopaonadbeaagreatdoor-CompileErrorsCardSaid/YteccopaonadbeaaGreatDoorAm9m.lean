/-
  'make' of a slice, where the length is not known.
-/
import Derived.Test.YteccopaonadbeaaGreatDoorAm9l
set_option linter.unusedVariables false
set_option linter.unusedSimpArgs false
namespace Go.AM
section
variable {P:Program} {lo:Nat→Prop} {w0:World} {ρ:Nat→Option Nat} {E:Nat→Prop} {H:Hp} {w:World}
theorem repl_cut {α:Type} {xs:List α} {z:Nat} (hz:xs.length=z):∀(n i:Nat),i<n→((repl xs n).drop (i*z)).take z=xs
 |0,i,h=>by omega
 |n+1,0,_=>by simp[repl, ← hz]
 |n+1,i+1,h=>by
  have ih:=repl_cut hz n i (by omega)
  simp only[repl]
  rw[Nat.succ_mul,Nat.add_comm, ← List.drop_drop,show List.drop z (xs++repl xs n)=repl xs n by rw[← hz,List.drop_left]]
  exact ih
theorem repl_take {α:Type} {xs:List α} {z:Nat} (hz:xs.length=z):∀(n m:Nat),n≤m→(repl xs m).take (n*z)=repl xs n
 |0,m,_=>by simp[repl]
 |n+1,0,h=>by omega
 |n+1,m+1,h=>by
  have ih:=repl_take hz n m (by omega)
  simp only[repl]
  rw[Nat.succ_mul,Nat.add_comm, ← hz,List.take_append,List.take_of_length_le (by omega),Nat.add_sub_cancel_left,hz,ih]
theorem okA_makeOp {clr:Bool} {T:TypeId} {l c v:AV} {H':Hp} (h:makeOp clr P T l c H=some (v,H')) (ho:allB (makeObl clr P T l c H)=true):
 ∃(mk:Nat→AV) (k:Blk),v=mk H.n∧H'=H.push k∧∀(ρ:Nat→Option Nat) (E:Nat→Prop) (w:World) (lv cv:Value) (_:Rep ρ E w l lv) (_:Rep ρ E w c cv),OkA P ρ E w (Instr.makeSlice T lv cv) mk k:=by
 unfold makeOp at h
 unfold makeObl at ho
 cases hx:(bif clr&&bigN l then none else makeSliceA P T l c H)with
 |some p=>
  rw[hx]at h
  obtain⟨v',H1⟩:=p
  simp only[orMk,Option.some.injEq,Prod.mk.injEq]at h
  obtain⟨rfl,rfl⟩:=h
  have hm:makeSliceA P T l c H=some (v',H1):=by
   cases hb:(clr&&bigN l)with
   |true=>simp[hb]at hx
   |false=>simpa[hb]using hx
  obtain⟨s,n,cs,h1,h2,_,h3⟩:=okA_makeSlice hm
  exact⟨fun i=> .sl i s 0 n, .cells cs,h1,h2,h3⟩
 |none=>
  rw[hx]at h ho
  replace h:makeSliceL P T l c H=some (v,H'):=h
  unfold makeSliceL at h
  split at h
  case h_2=>cases h
  case h_1 e hu=>
   obtain⟨n,hn,h1⟩:=Option.bind_eq_some_iff.1 h
   obtain⟨m,hm,h2⟩:=Option.bind_eq_some_iff.1 h1
   obtain⟨info,hi,h3⟩:=Option.bind_eq_some_iff.1 h2
   obtain⟨z,hz,h4⟩:=Option.bind_eq_some_iff.1 h3
   obtain⟨zs,hc,h5⟩:=Option.bind_eq_some_iff.1 h4
   clear h h1 h2 h3 h4
   cases hb:(Nat.beq info.size (PG.cellsOf e)&&Nat.blt 0 info.size&&Nat.beq zs.length info.size&&layOk PG rowDepth e)with
   |false=>simp[hb]at h5
   |true=>
    simp only[hb,cond_true]at h5
    simp only[Bool.and_eq_true]at hb
    obtain⟨⟨⟨hsz,hpos⟩,hzl⟩,hlay⟩:=hb
    have hsz:=Nat.eq_of_beq_eq_true hsz
    have hpos:=blt_pos hpos
    have hzl:=Nat.eq_of_beq_eq_true hzl
    obtain⟨d,hd,h6⟩:=Option.bind_eq_some_iff.1 h5
    simp only[Option.some.injEq,Prod.mk.injEq]at h6
    obtain⟨rfl,rfl⟩:=h6
    obtain⟨i0,zv,hi0,hz0,hrun,hrep⟩:=zeroA_rep hz
    rw[hi]at hi0;cases hi0
    rw[hn,hm]at ho
    simp only[hu,hi]at ho
    have o1:=allB_mem ho (qcmp .leq 0 n) (by simp)
    have o2:=allB_mem ho (qcmp .leq n m) (by simp)
    have o3:=allB_mem ho (qmem m info.bytes) (by simp)
    rw[qcmp_eq]at o1 o2
    simp only[rcmp,decide_eq_true_eq]at o1 o2
    rw[qmem_eq]at o3
    unfold rmem at o3
    rw[Bool.and_eq_true,Bool.and_eq_true,decide_eq_true_eq,decide_eq_true_eq,decide_eq_true_eq]at o3
    obtain⟨p1,p2,p3⟩:=o3
    refine⟨fun i=> .osl i e n, .lst e (qrep n d),rfl,rfl,fun ρ E w lv cv rl rc=> ?_⟩
    obtain⟨k,rfl⟩:=numOf_rep hn rl
    obtain⟨k',rfl⟩:=numOf_rep hm rc
    have hzr:=cellsOf_rep hc (hrep ρ E w)
    have hzsz:zv.cells.size=info.size:=by rw[← Array.length_toList, ← hzr.length,hzl]
    have hmk:=madeCells_repl zv.cells m.toNat info.size hzsz
    have hsize:(madeCells zv.cells (m.toNat*info.size)).size=m.toNat*info.size:=by rw[← Array.length_toList,hmk,repl_length,Array.length_toList,hzsz]
    have hrun:=run_make (P:=P) w T e info zv hu hi hz0 k k' n m o1 o2 (by rw[Int.mul_comm];omega) (by omega)
    have hnm:n.toNat≤m.toNat:=by omega
    have hle:n.toNat*info.size≤m.toNat*info.size:=Nat.mul_le_mul_right _ hnm
    have hzd:∀(ρ':Nat→Option Nat) (E':Nat→Prop) (w':World),RepD PG E' w' e d zv.cells.toList:=fun ρ' E' w'=>
     uncell_rep (cellsOf_rep hc (hrep ρ' E' w')) hd fun v hv=>avD_rep _ _ _ _ v _ hd hv
    refine⟨_,_,_,hrun,⟨rfl,⟨rfl,rfl,rfl⟩⟩,fun ρ' E' w' ext hb=> ?_,fun ρ' E' w' i hi' hb=> ?_⟩
    ·refine LRep.blk hlay hb (by rw[qrep_eq];simp only[D.toList,List.length_replicate];rw[← hsz,hsize];exact hle) ?_
     rw[qrep_eq]
     simp only[D.toList,List.length_replicate]
     rw[hmk, ← hsz,repl_take (by rw[Array.length_toList,hzsz]) _ _ hnm]
     refine⟨by simp only[D.toList,List.length_replicate];rw[repl_length,Array.length_toList,hzsz,hsz],fun i x hx=> ?_⟩
     simp only[D.toList]at hx
     have hi2:i<n.toNat:=by have:=(List.getElem?_eq_some_iff.1 hx).1;simpa using this
     rw[List.getElem?_replicate,if_pos hi2]at hx
     cases hx
     rw[← hsz,repl_cut (by rw[Array.length_toList,hzsz]) _ _ hi2]
     exact hzd ρ' E' w'
    ·simp only[Rep]
     exact⟨o1,_,m.toNat,rfl,hnm, .inr ⟨_,hi',rfl,_,_,_,hb,by rw[hsize,hsz];exact Nat.le_refl _⟩⟩
theorem ok_makeOp {clr:Bool} (inv:Inv lo w0 ρ E H w) {T:TypeId} {l c v:AV} {lv cv:Value} {H':Hp} (h:makeOp clr P T l c H=some (v,H')) (ho:allB (makeObl clr P T l c H)=true) (rl:Rep ρ E w l lv) (rc:Rep ρ E w c cv):
 OkH P lo w0 ρ E w (Instr.makeSlice T lv cv) v H':=by
 obtain⟨mk,k,rfl,rfl,hok⟩:=okA_makeOp h ho
 exact(hok ρ E w lv cv rl rc).okH inv
theorem ok_appendZL (inv:Inv lo w0 ρ E H w) {T T' ty:TypeId} {s x v:AV} {su xu:Value} {H':Hp} (h:orP (appendZ P T T' s x H) (appendZL P T T' s x H)=some (v,H')) (hne:¬T'=T) (ho:allB (appendOblZ P T T' s x H)=true)
 (rs:Rep ρ E w s su) (rx:Rep ρ E w x xu):OkH P lo w0 ρ E w (Builtin.append_ #[T,T'] ty #[su,xu]) v H':=by
 cases hx:appendZ P T T' s x H with
 |some p=>rw[hx]at h;simp only[orP,Option.some.injEq]at h;subst h;exact ok_appendZ inv hx rs rx
 |none=>
  rw[hx]at h
  replace h:appendZL P T T' s x H=some (v,H'):=h
  unfold appendOblZ at ho
  rw[if_neg hne,hx]at ho
  unfold appendZL at h
  split at h
  case h_2=>cases h
  case h_1 e k' hu hu'=>
   obtain⟨n,hn,h1⟩:=Option.bind_eq_some_iff.1 h
   obtain⟨info,hi,h3⟩:=Option.bind_eq_some_iff.1 h1
   obtain⟨z,hz,h4⟩:=Option.bind_eq_some_iff.1 h3
   obtain⟨zs,hc,h5⟩:=Option.bind_eq_some_iff.1 h4
   clear h h1 h3 h4
   cases hb:(noRoomS s&&Nat.beq info.size (PG.cellsOf e)&&Nat.blt 0 info.size&&Nat.beq zs.length info.size&&layOk PG rowDepth e)with
   |false=>simp[hb]at h5
   |true=>
    simp only[hb,cond_true]at h5
    simp only[Bool.and_eq_true]at hb
    obtain⟨⟨⟨⟨hroom,hsz⟩,hpos⟩,hzl⟩,hlay⟩:=hb
    have hsz:=Nat.eq_of_beq_eq_true hsz
    have hpos:=blt_pos hpos
    have hzl:=Nat.eq_of_beq_eq_true hzl
    obtain⟨d,hd,h6⟩:=Option.bind_eq_some_iff.1 h5
    simp only[Option.some.injEq,Prod.mk.injEq]at h6
    obtain⟨rfl,rfl⟩:=h6
    obtain⟨i0,zv,hi0,hz0,hrun,hrep⟩:=zeroA_rep hz
    rw[hi]at hi0;cases hi0
    simp only[hn,hu,hi]at ho
    have o1:=allB_mem ho (qcmp .lss 0 n) (by simp)
    have o3:=allB_mem ho (qmem n info.bytes) (by simp)
    rw[qcmp_eq]at o1
    simp only[rcmp,decide_eq_true_eq]at o1
    rw[qmem_eq]at o3
    unfold rmem at o3
    rw[Bool.and_eq_true,Bool.and_eq_true,decide_eq_true_eq,decide_eq_true_eq,decide_eq_true_eq]at o3
    obtain⟨p1,p2,p3⟩:=o3
    obtain⟨m,rfl⟩:∃m:Nat,n=(m:Int):=⟨n.toNat,by omega⟩
    obtain⟨k,rfl⟩:=numOf_rep hn rx
    have hbase:∃base,su = .slice base 0 0:=by
     unfold noRoomS at hroom
     split at hroom
     ·simp only[Rep]at rs;exact⟨none,rs⟩
     ·simp only[Rep]at rs;exact rs
     ·cases hroom
    obtain⟨base,rfl⟩:=hbase
    have p2':m*info.bytes≤140737488355328:=by
     have:((m*info.bytes:Nat):Int)≤140737488355328:=by rw[Int.natCast_mul];exact p2
     omega
    have hr:=run_append_zeros (P:=P) w T T' ty e info zv k k' hu hu' hi hz0 base m (by omega) (by omega) (by omega) p2'
    have hge:=grownCap_ge w m 0 e
    have hzr:=cellsOf_rep hc (hrep ρ E w)
    have hzsz:zv.cells.size=info.size:=by rw[← Array.length_toList, ← hzr.length,hzl]
    have hzc:∀m,(Builtin.zeroCells zv.cells m).toList=repl zv.cells.toList m:=fun m=>range_repl zv.cells m
    have hsize:(Builtin.zeroCells zv.cells m++Builtin.zeroCells zv.cells (grownCap w m 0 e-m)).size=grownCap w m 0 e*info.size:=by
     simp only[Array.size_append,size_zc,hzsz, ← Nat.add_mul];congr 1;omega
    have hle:m*info.size≤grownCap w m 0 e*info.size:=Nat.mul_le_mul_right _ hge
    have htk:(Builtin.zeroCells zv.cells m++Builtin.zeroCells zv.cells (grownCap w m 0 e-m)).toList.take (m*info.size)=repl zv.cells.toList m:=by
     rw[Array.toList_append,List.take_append_of_le_length (by rw[Array.length_toList,size_zc,hzsz];exact Nat.le_refl _),List.take_of_length_le (by rw[Array.length_toList,size_zc,hzsz];exact Nat.le_refl _),hzc]
    have hzd:∀(ρ':Nat→Option Nat) (E':Nat→Prop) (w':World),RepD PG E' w' e d zv.cells.toList:=fun ρ' E' w'=>
     uncell_rep (cellsOf_rep hc (hrep ρ' E' w')) hd fun v hv=>avD_rep _ _ _ _ v _ hd hv
    refine OkA.okH (mk:=fun i=> .osl i e (m:Int)) (k:= .lst e (qrep (m:Int) d)) inv ⟨_,_,_,hr,⟨rfl,⟨rfl,rfl,rfl⟩⟩,fun ρ' E' w' ext hb=> ?_,fun ρ' E' w' i hi' hb=> ?_⟩
    ·refine LRep.blk hlay hb (by rw[qrep_eq];simp only[D.toList,List.length_replicate,Int.toNat_natCast];rw[← hsz,hsize];exact hle) ?_
     rw[qrep_eq]
     simp only[D.toList,List.length_replicate,Int.toNat_natCast]
     rw[← hsz,htk]
     refine⟨by simp only[D.toList,List.length_replicate];rw[repl_length,Array.length_toList,hzsz,hsz],fun i x hx=> ?_⟩
     simp only[D.toList]at hx
     have hi2:i<m:=by have:=(List.getElem?_eq_some_iff.1 hx).1;simpa using this
     rw[List.getElem?_replicate,if_pos hi2]at hx
     cases hx
     rw[← hsz,repl_cut (by rw[Array.length_toList,hzsz]) _ _ hi2]
     exact hzd ρ' E' w'
    ·simp only[Rep]
     exact⟨by omega,_,_,rfl,hge, .inr ⟨_,hi',rfl,_,_,_,hb,by rw[hsize,hsz];exact Nat.le_refl _⟩⟩
end
end Go.AM
