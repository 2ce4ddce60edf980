/-
  Blocks of the running call by other names: a state seen with its blocks numbered anew.
-/
import Derived.Test.YteccopaonadbeaaGreatDoorAmQ
set_option linter.unusedVariables false
set_option linter.unusedSimpArgs false
namespace Go.AM
def renA (m:Nat→Option Nat):Nat→AV→AV
 |0,_=> .undef
 |n+1,x=>
  match x with
  | .ptr i off=>(match m i with|some j=> .ptr j off|none=> .undef)
  | .sl i z off len=>(match m i with|some j=> .sl j z off len|none=> .undef)
  | .map i=>(match m i with|some j=> .map j|none=> .undef)
  | .osl i T k=>(match m i with|some j=> .osl j T k|none=> .undef)
  | .oel i T k off=>(match m i with|some j=> .oel j T k off|none=> .undef)
  | .func f a b=> .func f (a.map (renA m n)) (b.map (renA m n))
  | .agg cs=> .agg (cs.map (renA m n))
  | .tup cs=> .tup (cs.map (renA m n))
  | .nx _ _ _=> .undef
  |x=>x
def renD:Nat:=6
def renB (m:Nat→Option Nat):Blk→Blk
 | .cells cs=> .cells (cs.map (renA m renD))
 | .map es=> .map (es.map fun e=>(e.1,renA m renD e.2))
 | .dat T d=> .dat T d
 | .lst T d=> .lst T d
 | .siter s p kn=> .siter s p kn
 | .miter es n=> .miter es n
 | .mp kT vT d=> .mp kT vT d
def fw:List (Nat×Nat)→Nat→Option Nat
 | [],_=>none
 |p::ps,j=>bif Nat.beq p.1 j then some p.2 else fw ps j
def bw:List (Nat×Nat)→Nat→Option Nat
 | [],_=>none
 |p::ps,i=>bif Nat.beq p.2 i then some p.1 else bw ps i
def isN (x:Option Nat) (n:Nat):Bool:=match x with|some m=>Nat.beq m n|none=>false
def piOk (n0 K:Nat) (pi:List (Nat×Nat)):Bool:=
 Nat.ble n0 K&&pi.all fun p=>isN (fw pi p.1) p.2&&isN (bw pi p.2) p.1&&Nat.blt p.1 K&&(!(Nat.blt p.1 n0)||Nat.beq p.1 p.2)
def renM (pi:List (Nat×Nat)) (H:Hp) (i:Nat):Option Nat:=bif (H.get i).isSome then bw pi i else none
def renAt (m:Nat→Option Nat) (pi:List (Nat×Nat)) (H:Hp) (j:Nat):Option Blk:=(fw pi j).bind fun i=>(H.get i).map (renB m)
def renBs (m:Nat→Option Nat) (pi:List (Nat×Nat)) (H:Hp):Nat→List (Option Blk)
 |0=>[]
 |K+1=>renAt m pi H K::renBs m pi H K
theorem renBs_len (m:Nat→Option Nat) (pi:List (Nat×Nat)) (H:Hp):∀K,(renBs m pi H K).length=K
 |0=>rfl
 |K+1=>by simp[renBs,renBs_len m pi H K]
theorem renBs_get (m:Nat→Option Nat) (pi:List (Nat×Nat)) (H:Hp):∀K j,j<K→(renBs m pi H K)[K-1-j]? = some (renAt m pi H j)
 |0,j,h=>by omega
 |K+1,j,h=>by
  by_cases e:j=K
  ·subst e
   simp[renBs]
  ·have ih:=renBs_get m pi H K j (by omega)
   rw[show K+1-1-j=(K-1-j)+1 by omega]
   simpa[renBs]using ih
theorem fw_mem:∀{pi:List (Nat×Nat)} {j i:Nat},fw pi j=some i→(j,i)∈pi
 | [],_,_,h=>by simp[fw]at h
 |p::ps,j,i,h=>by
  simp only[fw]at h
  cases hb:Nat.beq p.1 j with
  |true=>
   simp only[hb,cond_true,Option.some.injEq]at h
   obtain rfl:=Nat.eq_of_beq_eq_true hb
   subst h
   exact List.mem_cons_self
  |false=>simp only[hb,cond_false]at h;exact List.mem_cons_of_mem _ (fw_mem h)
theorem bw_mem:∀{pi:List (Nat×Nat)} {j i:Nat},bw pi i=some j→(j,i)∈pi
 | [],_,_,h=>by simp[bw]at h
 |p::ps,j,i,h=>by
  simp only[bw]at h
  cases hb:Nat.beq p.2 i with
  |true=>
   simp only[hb,cond_true,Option.some.injEq]at h
   obtain rfl:=Nat.eq_of_beq_eq_true hb
   subst h
   exact List.mem_cons_self
  |false=>simp only[hb,cond_false]at h;exact List.mem_cons_of_mem _ (bw_mem h)
theorem isN_eq {x:Option Nat} {n:Nat} (h:isN x n=true):x=some n:=by
 unfold isN at h
 split at h
 ·rw[Nat.eq_of_beq_eq_true h]
 ·cases h
structure PiOk (n0 K:Nat) (pi:List (Nat×Nat)):Prop where
 le:n0≤K
 fix:∀j i,(j,i)∈pi→j<n0→j=i
 fw:∀j i,(j,i)∈pi→AM.fw pi j=some i
 bw:∀j i,(j,i)∈pi→AM.bw pi i=some j
 lt:∀j i,(j,i)∈pi→j<K
theorem piOk_ok {n0 K:Nat} {pi:List (Nat×Nat)} (h:piOk n0 K pi=true):PiOk n0 K pi:=by
 unfold piOk at h
 simp only[Bool.and_eq_true]at h
 obtain⟨h1,h2⟩:=h
 have key:∀j i,(j,i)∈pi→AM.fw pi j=some i∧AM.bw pi i=some j∧j<K∧(j<n0→j=i):=by
  intro j i hm
  have:=List.all_eq_true.1 h2 _ hm
  simp only[Bool.and_eq_true,Bool.or_eq_true,Bool.not_eq_true']at this
  refine⟨isN_eq this.1.1.1,isN_eq this.1.1.2,by have:=this.1.2;rwa [Nat.blt_eq]at this,fun hj=> ?_⟩
  rcases this.2 with h|h
  ·have:Nat.blt j n0=true:=by rw[Nat.blt_eq];exact hj
   rw[this]at h;cases h
  ·exact Nat.eq_of_beq_eq_true h
 exact⟨Nat.le_of_ble_eq_true h1,fun j i h=>(key j i h).2.2.2,fun j i h=>(key j i h).1,fun j i h=>(key j i h).2.1,fun j i h=>(key j i h).2.2.1⟩
noncomputable def renRho (n0:Nat) (pi:List (Nat×Nat)) (H:Hp) (ρ:Nat→Option Nat) (j:Nat):Option Nat:=
 if j<n0 then ρ j else(fw pi j).bind fun i=>bif (H.get i).isSome then ρ i else none
section
variable {lo:Nat→Prop} {w0:World} {ρ:Nat→Option Nat} {E:Nat→Prop} {H:Hp} {w:World} {n0 K:Nat} {pi:List (Nat×Nat)}
theorem renRho_some (j b:Nat) (h:renRho n0 pi H ρ j=some b):(j<n0∧ρ j=some b)∨(n0≤j∧∃i,fw pi j=some i∧(H.get i).isSome=true∧ρ i=some b):=by
 unfold renRho at h
 split at h
 ·rename_i hj;exact .inl ⟨hj,h⟩
 ·rename_i hj
  obtain⟨i,h1,h2⟩:=Option.bind_eq_some_iff.1 h
  cases hl:(H.get i).isSome with
  |false=>simp[hl]at h2
  |true=>rw[hl,cond_true]at h2;exact .inr ⟨by omega,i,h1,hl,h2⟩
theorem renM_rho (ok:PiOk n0 K pi) {i j:Nat} (h:renM pi H i=some j):renRho n0 pi H ρ j=ρ i:=by
 unfold renM at h
 cases hl:(H.get i).isSome with
 |false=>simp[hl]at h
 |true=>
  simp only[hl,cond_true]at h
  have hm:=bw_mem h
  have:=ok.fw j i hm
  unfold renRho
  split
  ·rename_i hj;rw[ok.fix j i hm hj]
  ·simp only[this,Option.bind_some,hl,cond_true]
theorem renA_repG {ρ':Nat→Option Nat} {m:Nat→Option Nat} (hm:∀i j,m i=some j→ρ' j=ρ i):∀(n:Nat) (x:AV) (v:Value),Rep ρ E w x v→Rep ρ' E w (renA m n x) v:=by
 intro n
 induction n with
 |zero=>intro x v _;simp only[renA,Rep]
 |succ n ih=>
  have ihL:∀(xs:List AV) (vs:List Value),RepL ρ E w xs vs→RepL ρ' E w (xs.map (renA m n)) vs:=by
   intro xs
   induction xs with
   |nil=>intro vs h;simpa only[RepL,List.map_nil]using h
   |cons x xs ihx=>
    intro vs h
    simp only[RepL,List.map_cons]at h ⊢
    obtain⟨v,vs',hv,h1,h2⟩:=h
    exact⟨v,vs',hv,ih x v h1,ihx vs' h2⟩
  intro x v r
  simp only[renA]
  cases x with
  |ptr i off=>
   cases hmi:m i with
   |none=>simp only[hmi,Rep]
   |some j=>
    simp only[hmi,Rep]at r ⊢
    obtain⟨b,hb,hv⟩:=r
    exact⟨b,(hm _ _ hmi).trans hb,hv⟩
  |sl i z off len=>
   cases hmi:m i with
   |none=>simp only[hmi,Rep]
   |some j=>
    simp only[hmi,Rep]at r ⊢
    obtain⟨b,cap,hb,hv⟩:=r
    exact⟨b,cap,(hm _ _ hmi).trans hb,hv⟩
  |map i=>
   cases hmi:m i with
   |none=>simp only[hmi,Rep]
   |some j=>
    simp only[hmi,Rep]at r ⊢
    obtain⟨b,hb,hv⟩:=r
    exact⟨b,(hm _ _ hmi).trans hb,hv⟩
  |osl i T k=>
   cases hmi:m i with
   |none=>simp only[hmi,Rep]
   |some j=>
    simp only[hmi,Rep]at r ⊢
    obtain⟨h0,a,cap,hv,hl,hr⟩:=r
    refine⟨h0,a,cap,hv,hl,hr.imp id ?_⟩
    rintro⟨b,hb,hr⟩
    exact⟨b,(hm _ _ hmi).trans hb,hr⟩
  |oel i T k off=>
   cases hmi:m i with
   |none=>simp only[hmi,Rep]
   |some j=>
    simp only[hmi,Rep]at r ⊢
    obtain⟨h0,b,hb,hv⟩:=r
    exact⟨h0,b,(hm _ _ hmi).trans hb,hv⟩
  |func f a b=>
   simp only[Rep]at r ⊢
   obtain⟨xs,ys,hv,h1,h2⟩:=r
   exact⟨xs,ys,hv,ihL _ _ h1,ihL _ _ h2⟩
  |agg cs=>
   simp only[Rep]at r ⊢
   obtain⟨xs,hv,h1⟩:=r
   exact⟨xs,hv,ihL _ _ h1⟩
  |tup cs=>
   simp only[Rep]at r ⊢
   obtain⟨xs,hv,h1⟩:=r
   exact⟨xs,hv,ihL _ _ h1⟩
  |undef=>simp only[Rep]
  |sc u=>simp only[Rep]at r ⊢;exact r
  |eptr cs=>simp only[Rep]at r ⊢;exact r
  |esl xs=>simp only[Rep]at r ⊢;exact r
  |emap es=>simp only[Rep]at r ⊢;exact r
  |ui k m=>simp only[Rep]at r ⊢;exact r
  |ub b=>simp only[Rep]at r ⊢;exact r
  |us s=>simp only[Rep]at r ⊢;exact r
  |rows T d=>simp only[Rep]at r ⊢;exact r
  |dat T d=>simp only[Rep]at r ⊢;exact r
  |edat T d=>simp only[Rep]at r ⊢;exact r
  |rowz T d=>simp only[Rep]at r ⊢;exact r
  |e0=>simp only[Rep]at r ⊢;exact r
  |anyI k=>simp only[Rep]at r ⊢;exact r
  |nx b x y=>simp only[Rep]
theorem renL_repG {ρ':Nat→Option Nat} {m:Nat→Option Nat} (hm:∀i j,m i=some j→ρ' j=ρ i) {n:Nat}:∀{xs:List AV} {vs:List Value},RepL ρ E w xs vs→RepL ρ' E w (xs.map (renA m n)) vs
 | [],vs,h=>by simpa only[RepL,List.map_nil]using h
 |x::xs,vs,h=>by
  simp only[RepL,List.map_cons]at h ⊢
  obtain⟨v,vs',hv,h1,h2⟩:=h
  exact⟨v,vs',hv,renA_repG hm n x v h1,renL_repG hm h2⟩
theorem renMap_repG {ρ':Nat→Option Nat} {m:Nat→Option Nat} (hm:∀i j,m i=some j→ρ' j=ρ i) {n:Nat}:∀{xs:List (Value×AV)} {es:List MapEntry},RepM ρ E w xs es→RepM ρ' E w (xs.map fun e=>(e.1,renA m n e.2)) es
 | [],es,h=>by simpa only[RepM,List.map_nil]using h
 | (k,v)::xs,es,h=>by
   simp only[RepM,List.map_cons]at h ⊢
   obtain⟨e,es',he,hk,h1,h2⟩:=h
   exact⟨e,es',he,hk,renA_repG hm n v _ h1,renMap_repG hm h2⟩
theorem renB_repG {ρ':Nat→Option Nat} {m:Nat→Option Nat} (hm:∀i j,m i=some j→ρ' j=ρ i) {k:Blk} {b:Nat} (h:BlkRep ρ E w k b):BlkRep ρ' E w (renB m k) b:=by
 cases k with
 |cells cs=>
  obtain⟨c,T,hc,hl,hr⟩:=h
  exact⟨c,T,hc,by simpa using hl,by simpa using renL_repG hm hr⟩
 |map es=>
  obtain⟨arr,clk,hc,hr⟩:=h
  exact⟨arr,clk,hc,renMap_repG hm hr.1,hr.2⟩
 |dat T d=>exact h
 |lst T d=>exact h
 |siter s p kn=>exact h
 |miter es n=>exact h
 |mp kT vT d=>
  obtain⟨arr,clk,hc,hr⟩:=h
  exact⟨arr,clk,hc,entsD_rho hr.1,hr.2⟩
theorem renA_rep (ok:PiOk n0 K pi) (n:Nat) (x:AV) (v:Value) (r:Rep ρ E w x v):Rep (renRho n0 pi H ρ) E w (renA (renM pi H) n x) v:=renA_repG (fun _ _ h=>renM_rho ok h) n x v r
theorem renB_rep (ok:PiOk n0 K pi) {k:Blk} {b:Nat} (h:BlkRep ρ E w k b):BlkRep (renRho n0 pi H ρ) E w (renB (renM pi H) k) b:=renB_repG (fun _ _ h=>renM_rho ok h) h
def BsG (n0:Nat):List (Option Blk)→List (Option Blk)→Prop
 | [],[]=>True
 |x::xs,y::ys=>(y=none∨(∃k' k,x=some k'∧y=some k∧BLe k' k)∨(x=none∧n0≤xs.length))∧BsG n0 xs ys
 |_,_=>False
theorem BsG.len:∀{xs ys:List (Option Blk)},BsG n0 xs ys→xs.length=ys.length
 | [],[],_=>rfl
 |_::_,_::_,h=>by simp[BsG.len h.2]
 | [],_::_,h=>h.elim
 |_::_,[],h=>h.elim
theorem BsG.get:∀{xs ys:List (Option Blk)},BsG n0 xs ys→∀(j:Nat),j<ys.length→∀k,(ys[ys.length-1-j]?).join=some k→
 (∃k',(xs[xs.length-1-j]?).join=some k'∧BLe k' k)∨((xs[xs.length-1-j]?).join=none∧n0≤j)
 | [],[],_,j,hj,k,h=>by simp at hj
 |x::xs,y::ys,h,j,hj,k,hk=>by
  have hl:=h.2.len
  by_cases e:j=ys.length
  ·subst e
   simp only[List.length_cons,Nat.add_sub_cancel,Nat.sub_self,List.getElem?_cons_zero,Option.join_some,hl]at hk ⊢
   rcases h.1 with h1|⟨k1,k2,h1,h2,h3⟩|⟨h1,h2⟩
   ·rw[h1]at hk;cases hk
   ·rw[h2]at hk;cases hk;exact .inl ⟨k1,h1,h3⟩
   ·exact .inr ⟨h1,by omega⟩
  ·have hj':j<ys.length:=by simp only[List.length_cons]at hj;omega
   have ih:=BsG.get h.2 j hj' k
   rw[List.length_cons,show ys.length+1-1-j=(ys.length-1-j)+1 by omega,List.getElem?_cons_succ]at hk
   rw[List.length_cons,show xs.length+1-1-j=(xs.length-1-j)+1 by omega,List.getElem?_cons_succ]
   exact ih hk
 | [],_::_,h,_,_,_,_=>h.elim
 |_::_,[],h,_,_,_,_=>h.elim
theorem Inv.ren (inv:Inv lo w0 ρ E H w) (ok:PiOk n0 K pi) {bs:List (Option Blk)} (h:BsG n0 (renBs (renM pi H) pi H K) bs):Inv lo w0 (renRho n0 pi H ρ) E ⟨K,bs,H.gl⟩ w:=by
 have hbl:bs.length=K:=by rw[← h.len,renBs_len]
 have hrl:=renBs_len (renM pi H) pi H K
 have key:∀j k,Hp.get ⟨K,bs,H.gl⟩ j=some k→j<K∧((∃i k0,fw pi j=some i∧H.get i=some k0∧BLe (renB (renM pi H) k0) k)∨(renAt (renM pi H) pi H j=none∧n0≤j)):=by
  intro j k hk
  have hj:j<K:=Hp.get_lt hk
  have hj2:Nat.blt j K=true:=by rw[Nat.blt_eq];exact hj
  simp only[Hp.get,hj2,cond_true]at hk
  refine⟨hj,?_⟩
  have:=h.get j (by omega) k (by rw[hbl];exact hk)
  rw[hrl,renBs_get _ _ _ K j hj,Option.join_some]at this
  rcases this with⟨k',h1,h2⟩|h1
  ·left
   unfold renAt at h1
   obtain⟨i,h3,h4⟩:=Option.bind_eq_some_iff.1 h1
   obtain⟨k0,h5,rfl⟩:=Option.map_eq_some_iff.1 h4
   exact⟨i,k0,h3,h5,h2⟩
  ·exact .inr h1
 have key2:∀j k b,Hp.get ⟨K,bs,H.gl⟩ j=some k→renRho n0 pi H ρ j=some b→∃i k0,fw pi j=some i∧H.get i=some k0∧BLe (renB (renM pi H) k0) k∧ρ i=some b:=by
  intro j k b hk hb
  rcases(key j k hk).2 with⟨i,k0,h4,h5,h6⟩|⟨h4,h5⟩
  ·refine⟨i,k0,h4,h5,h6,?_⟩
   rcases renRho_some j b hb with⟨h1,h2⟩|⟨_,i',h1,_,h3⟩
   ·rw[← ok.fix j i (fw_mem h4) h1];exact h2
   ·rw[h1]at h4;cases h4;exact h3
  ·exfalso
   rcases renRho_some j b hb with⟨h1,h2⟩|⟨_,i',h1,h2,h3⟩
   ·omega
   ·unfold renAt at h4
    rw[h1]at h4
    simp only[Option.bind_some,Option.map_eq_none_iff]at h4
    rw[h4]at h2;cases h2
 refine{len:=by simp only;omega,dom:= ?_,blk:= ?_,inj:= ?_,notE:= ?_,bd:= ?_,ebd:=inv.ebd,lole:=inv.lole,old:=inv.old,io:=inv.io,gl:=inv.gl}
 ·intro j b hb
  rcases renRho_some j b hb with⟨h1,_⟩|⟨_,i,h1,_⟩
  ·exact Nat.lt_of_lt_of_le h1 ok.le
  ·exact ok.lt j i (fw_mem h1)
 ·intro j k b hk hb
  obtain⟨i,k0,h1,h2,h3,h4⟩:=key2 j k b hk hb
  exact h3 _ _ _ _ (renB_rep ok (inv.blk i k0 b h2 h4))
 ·intro j j' k k' b hk hk' hb hb'
  obtain⟨i,k0,h1,h2,_,h4⟩:=key2 j k b hk hb
  obtain⟨i',k0',h1',h2',_,h4'⟩:=key2 j' k' b hk' hb'
  have:=inv.inj i i' k0 k0' b h2 h2' h4 h4'
  subst this
  have e1:=ok.bw j i (fw_mem h1)
  have e2:=ok.bw j' i (fw_mem h1')
  rw[e1]at e2;cases e2;rfl
 ·intro j k b hk hb
  obtain⟨i,k0,h1,h2,_,h4⟩:=key2 j k b hk hb
  exact inv.notE i k0 b h2 h4
 ·intro j b hb
  rcases renRho_some j b hb with⟨_,h1⟩|⟨_,i,_,_,h1⟩
  ·exact inv.bd j b h1
  ·exact inv.bd i b h1
theorem ren_wk {fr:Fr} (ok:PiOk n0 K pi) {fr2:Fr} {bs:List (Option Blk)} (hf:FrLe (fr.map (renA (renM pi H) renD)) fr2) (h:BsG n0 (renBs (renM pi H) pi H K) bs):Wk n0 fr H fr2 ⟨K,bs,H.gl⟩:=by
 intro lo w0 ρ0 E0 wE ρ E a w hL st
 refine⟨renRho n0 pi H ρ,E,st.inv.ren ok h,?_,?_⟩
 ·refine FrRep.le (fr:=fr.map (renA (renM pi H) renD)) ⟨by rw[st.fr.size];simp,fun t x ht=> ?_,st.fr.defers⟩ hf
  rw[List.getElem?_map]at ht
  obtain⟨y,hy,rfl⟩:=Option.map_eq_some_iff.1 ht
  exact renA_rep ok _ _ _ (st.fr.rep t y hy)
 ·refine⟨⟨fun j b hb=> ?_,st.reach.ext.ext,st.reach.ext.same,st.reach.ext.size,st.reach.ext.bigger⟩,st.reach.new⟩
  have hj:=hL j b hb
  have:=st.reach.ext.map j b hb
  unfold renRho
  rw[if_pos hj];exact this
end
end Go.AM
