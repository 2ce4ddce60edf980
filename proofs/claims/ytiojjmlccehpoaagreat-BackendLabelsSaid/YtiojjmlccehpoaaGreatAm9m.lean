/-
  'make' of a slice, where the length is not known.
-/
import Derived.Test.YtiojjmlccehpoaaGreatAm9l
set_option linter.unusedSimpArgs false
set_option linter.unusedVariables false
namespace Go.AM
section
variable {P:Program} {lo:Nat->Prop} {w0:World} {ρ:Nat->Option Nat} {E:Nat->Prop} {H:Hp} {w:World}
theorem we {α:Type} {xs:List α} {z:Nat} (hz:xs.length=z):∀(n i:Nat),i<n->((repl xs n).drop (i*z)).take z=xs
 |0,i,h=>by omega
 |n+1,0,_=>by simp[repl, <- hz]
 |n+1,i+1,h=>by
  have ih:=we hz n i (by omega)
  simp only[repl];rw[fS,Nat.add_comm, <- List.drop_drop,show List.drop z (xs++repl xs n)=repl xs n by rw[<- hz,List.drop_left]]
  exact ih
theorem Bv {α:Type} {xs:List α} {z:Nat} (hz:xs.length=z):∀(n m:Nat),n≤m->(repl xs m).take (n*z)=repl xs n
 |0,m,_=>by simp[repl]
 |n+1,0,h=>by omega
 |n+1,m+1,h=>by
  have ih:=Bv hz n m (by omega)
  simp only[repl];rw[fS,Nat.add_comm, <- hz,List.take_append,eP (by omega),Nat.add_sub_cancel_left,hz,ih]
theorem wg {clr:Bool} {T:TypeId} {l c v:AV} {H':Hp} (h:Db clr P T l c H=some (v,H')) (ho:aU (t6 clr P T l c H)=true):
 ∃(mk:Nat->AV) (k:Blk),v=mk H.n∧H'=H.push k∧∀(ρ:Nat->Option Nat) (E:Nat->Prop) (w:World) (lv cv:Value) (_:Rep ρ E w l lv) (_:Rep ρ E w c cv),OkA P ρ E w (Instr.makeSlice T lv cv) mk k:=by
 unfold Db at h;unfold t6 at ho;cases hx:(bif clr&&bigN l then none else eq P T l c H)with
 |some p=>
  rw[hx]at h;obtain⟨v',H1⟩:=p;simp only[orMk,aN,cO]at h;obtain⟨rfl,rfl⟩:=h;have hm:eq P T l c H=some (v',H1):=by
   cases hb:(clr&&bigN l)with
   |true=>simp[hb]at hx
   |false=>simpa[hb]using hx
  obtain⟨s,n,cs,h1,h2,_,h3⟩:=AE hm;exact⟨fun i=> .sl i s 0 n, .cells cs,h1,h2,h3⟩
 |none=>
  rw[hx]at h ho
  replace h:nO P T l c H=some (v,H'):=h
  unfold nO at h;split at h
  case h_2=>cases h
  case h_1 e hu=>
   obtain⟨n,hn,h1⟩:=aT.1 h;obtain⟨m,hm,h2⟩:=aT.1 h1;obtain⟨info,hi,h3⟩:=aT.1 h2;obtain⟨z,hz,h4⟩:=aT.1 h3;obtain⟨zs,hc,h5⟩:=aT.1 h4;clear h h1 h2 h3 h4;cases hb:(Nat.beq info.size (PG.cellsOf e)&&Nat.blt 0 info.size&&Nat.beq zs.length info.size&&layOk PG rowDepth e)with
   |false=>simp[hb]at h5
   |true=>
    simp only[hb,aj]at h5;simp only[bn]at hb;obtain⟨⟨⟨hsz,hpos⟩,hzl⟩,hlay⟩:=hb;have hsz:=aR hsz;have hpos:=Dp hpos;have hzl:=aR hzl;obtain⟨d,hd,h6⟩:=aT.1 h5;simp only[aN,cO]at h6;obtain⟨rfl,rfl⟩:=h6;obtain⟨i0,zv,hi0,hz0,hrun,hrep⟩:=dn hz;rw[hi]at hi0;cases hi0;rw[hn,hm]at ho;simp only[hu,hi]at ho;have o1:=bo ho (ab .leq 0 n) (by simp)
    have o2:=bo ho (ab .leq n m) (by simp)
    have o3:=bo ho (cA m info.bytes) (by simp)
    rw[bY]at o1 o2;simp only[ef,cl]at o1 o2;rw[ue]at o3;unfold Qg at o3;rw[bn,bn,cl,cl,cl]at o3;obtain⟨p1,p2,p3⟩:=o3;refine⟨fun i=> .osl i e n, .lst e (J9 n d),rfl,rfl,fun ρ E w lv cv rl rc=> ?_⟩
    obtain⟨k,rfl⟩:=fo hn rl;obtain⟨k',rfl⟩:=fo hm rc;have hzr:=cj hc (hrep ρ E w);have hzsz:zv.cells.size=info.size:=by rw[<- Array.length_toList, <- hzr.length,hzl]
    have hmk:=lV zv.cells m.toNat info.size hzsz;have hsize:(madeCells zv.cells (m.toNat*info.size)).size=m.toNat*info.size:=by rw[<- Array.length_toList,hmk,eu,cN,hzsz]
    have hrun:=run_make (P:=P) w T e info zv hu hi hz0 k k' n m o1 o2 (by rw[Int.mul_comm];omega) (by omega)
    have hnm:n.toNat≤m.toNat:=by omega
    have hle:n.toNat*info.size≤m.toNat*info.size:=eQ _ hnm;have hzd:∀(ρ':Nat->Option Nat) (E':Nat->Prop) (w':World),RepD PG E' w' e d zv.cells.toList:=fun ρ' E' w'=>
     cT (cj hc (hrep ρ' E' w')) hd fun v hv=>fa _ _ _ _ v _ hd hv
    refine⟨_,_,_,hrun,⟨rfl,⟨rfl,rfl,rfl⟩⟩,fun ρ' E' w' ext hb=> ?_,fun ρ' E' w' i hi' hb=> ?_⟩
    ·refine LRep.blk hlay hb (by rw[ud];simp only[D.toList,qk];rw[<- hsz,hsize];exact hle) ?_
     rw[ud];simp only[D.toList,qk];rw[hmk, <- hsz,Bv (by rw[cN,hzsz]) _ _ hnm]
     refine⟨by simp only[D.toList,qk];rw[eu,cN,hzsz,hsz],fun i x hx=> ?_⟩
     simp only[D.toList]at hx;have hi2:i<n.toNat:=by have:=(cU.1 hx).1;simpa using this
     rw[List.getElem?_replicate,if_pos hi2]at hx
     cases hx;rw[<- hsz,we (by rw[cN,hzsz]) _ _ hi2]
     exact hzd ρ' E' w'
    ·simp only[Rep];exact⟨o1,_,m.toNat,rfl,hnm, .inr ⟨_,hi',rfl,_,_,_,hb,by rw[hsize,hsz];exact bj _⟩⟩
theorem Qv {clr:Bool} (inv:Inv lo w0 ρ E H w) {T:TypeId} {l c v:AV} {lv cv:Value} {H':Hp} (h:Db clr P T l c H=some (v,H')) (ho:aU (t6 clr P T l c H)=true) (rl:Rep ρ E w l lv) (rc:Rep ρ E w c cv):
 OkH P lo w0 ρ E w (Instr.makeSlice T lv cv) v H':=by
 obtain⟨mk,k,rfl,rfl,hok⟩:=wg h ho;exact(hok ρ E w lv cv rl rc).okH inv
theorem Gp (inv:Inv lo w0 ρ E H w) {T T' ty:TypeId} {s x v:AV} {su xu:Value} {H':Hp} (h:orP (iL P T T' s x H) (jM P T T' s x H)=some (v,H')) (hne:¬T'=T) (ho:aU (nR P T T' s x H)=true)
 (rs:Rep ρ E w s su) (rx:Rep ρ E w x xu):OkH P lo w0 ρ E w (Builtin.append_ #[T,T'] ty #[su,xu]) v H':=by
 cases hx:iL P T T' s x H with
 |some p=>rw[hx]at h;simp only[orP,aN]at h;subst h;exact Kr inv hx rs rx
 |none=>
  rw[hx]at h
  replace h:jM P T T' s x H=some (v,H'):=h
  unfold nR at ho;rw[if_neg hne,hx]at ho;unfold jM at h;split at h
  case h_2=>cases h
  case h_1 e k' hu hu'=>
   obtain⟨n,hn,h1⟩:=aT.1 h;obtain⟨info,hi,h3⟩:=aT.1 h1;obtain⟨z,hz,h4⟩:=aT.1 h3;obtain⟨zs,hc,h5⟩:=aT.1 h4;clear h h1 h3 h4;cases hb:(kF s&&Nat.beq info.size (PG.cellsOf e)&&Nat.blt 0 info.size&&Nat.beq zs.length info.size&&layOk PG rowDepth e)with
   |false=>simp[hb]at h5
   |true=>
    simp only[hb,aj]at h5;simp only[bn]at hb;obtain⟨⟨⟨⟨hroom,hsz⟩,hpos⟩,hzl⟩,hlay⟩:=hb;have hsz:=aR hsz;have hpos:=Dp hpos;have hzl:=aR hzl;obtain⟨d,hd,h6⟩:=aT.1 h5;simp only[aN,cO]at h6;obtain⟨rfl,rfl⟩:=h6;obtain⟨i0,zv,hi0,hz0,hrun,hrep⟩:=dn hz;rw[hi]at hi0;cases hi0;simp only[hn,hu,hi]at ho;have o1:=bo ho (ab .lss 0 n) (by simp)
    have o3:=bo ho (cA n info.bytes) (by simp)
    rw[bY]at o1;simp only[ef,cl]at o1;rw[ue]at o3;unfold Qg at o3;rw[bn,bn,cl,cl,cl]at o3;obtain⟨p1,p2,p3⟩:=o3;obtain⟨m,rfl⟩:∃m:Nat,n=(m:Int):=⟨n.toNat,by omega⟩
    obtain⟨k,rfl⟩:=fo hn rx;have hbase:∃base,su = .slice base 0 0:=by
     unfold kF at hroom;split at hroom
     ·simp only[Rep]at rs;exact⟨none,rs⟩
     ·simp only[Rep]at rs;exact rs
     ·cases hroom
    obtain⟨base,rfl⟩:=hbase;have p2':m*info.bytes≤140737488355328:=by
     have:((m*info.bytes:Nat):Int)≤140737488355328:=by rw[Int.natCast_mul];exact p2
     omega
    have hr:=jR (P:=P) w T T' ty e info zv k k' hu hu' hi hz0 base m (by omega) (by omega) (by omega) p2'
    have hge:=grownCap_ge w m 0 e;have hzr:=cj hc (hrep ρ E w);have hzsz:zv.cells.size=info.size:=by rw[<- Array.length_toList, <- hzr.length,hzl]
    have hzc:∀m,(Builtin.zeroCells zv.cells m).toList=repl zv.cells.toList m:=fun m=>kH zv.cells m
    have hsize:(Builtin.zeroCells zv.cells m++Builtin.zeroCells zv.cells (grownCap w m 0 e-m)).size=grownCap w m 0 e*info.size:=by
     simp only[oA,fH,hzsz, <- Nat.add_mul];congr 1;omega
    have hle:m*info.size≤grownCap w m 0 e*info.size:=eQ _ hge;have htk:(Builtin.zeroCells zv.cells m++Builtin.zeroCells zv.cells (grownCap w m 0 e-m)).toList.take (m*info.size)=repl zv.cells.toList m:=by
     rw[sf,A7 (by rw[cN,fH,hzsz];exact bj _),eP (by rw[cN,fH,hzsz];exact bj _),hzc]
    have hzd:∀(ρ':Nat->Option Nat) (E':Nat->Prop) (w':World),RepD PG E' w' e d zv.cells.toList:=fun ρ' E' w'=>
     cT (cj hc (hrep ρ' E' w')) hd fun v hv=>fa _ _ _ _ v _ hd hv
    refine OkA.okH (mk:=fun i=> .osl i e (m:Int)) (k:= .lst e (J9 (m:Int) d)) inv ⟨_,_,_,hr,⟨rfl,⟨rfl,rfl,rfl⟩⟩,fun ρ' E' w' ext hb=> ?_,fun ρ' E' w' i hi' hb=> ?_⟩
    ·refine LRep.blk hlay hb (by rw[ud];simp only[D.toList,qk,fP];rw[<- hsz,hsize];exact hle) ?_
     rw[ud];simp only[D.toList,qk,fP];rw[<- hsz,htk];refine⟨by simp only[D.toList,qk];rw[eu,cN,hzsz,hsz],fun i x hx=> ?_⟩
     simp only[D.toList]at hx;have hi2:i<m:=by have:=(cU.1 hx).1;simpa using this
     rw[List.getElem?_replicate,if_pos hi2]at hx
     cases hx;rw[<- hsz,we (by rw[cN,hzsz]) _ _ hi2]
     exact hzd ρ' E' w'
    ·simp only[Rep];exact⟨by omega,_,_,rfl,hge, .inr ⟨_,hi',rfl,_,_,_,hb,by rw[hsize,hsz];exact bj _⟩⟩
end
end Go.AM
