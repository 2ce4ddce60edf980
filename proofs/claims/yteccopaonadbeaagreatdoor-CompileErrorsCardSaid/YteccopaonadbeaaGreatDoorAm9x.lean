/-
  Memory of the running call, seen by its contents; blocks that are seen so from now on.
-/
import Derived.Test.YteccopaonadbeaaGreatDoorAm9
set_option linter.unusedVariables false
set_option linter.unusedSimpArgs false
namespace Go.AM
set_option linter.unusedSimpArgs false
section
variable {P:Program} {lo:Nat→Prop} {w0:World} {ρ:Nat→Option Nat} {E:Nat→Prop} {H:Hp} {w:World}
def Tin (ρ:Nat→Option Nat) (H:Hp) (E1:Nat→Prop) (ts:List Nat):Prop:=∀i∈ts,∀k b,H.get i=some k→ρ i=some b→E1 b
theorem Tin.flat {α:Type} {E1:Nat→Prop} {f:α→List Nat} {xs:List α} (h:Tin ρ H E1 (xs.map f).flatten):∀x∈xs,Tin ρ H E1 (f x):=
 fun x hx i hi=>h i (List.mem_flatten.2 ⟨f x,List.mem_map.2 ⟨x,hx,rfl⟩,hi⟩)
theorem Tin.left {E1:Nat→Prop} {xs ys:List Nat} (h:Tin ρ H E1 (xs++ys)):Tin ρ H E1 xs:=fun i hi=>h i (List.mem_append.2 (.inl hi))
theorem Tin.right {E1:Nat→Prop} {xs ys:List Nat} (h:Tin ρ H E1 (xs++ys)):Tin ρ H E1 ys:=fun i hi=>h i (List.mem_append.2 (.inr hi))
theorem Tin.tail {E1:Nat→Prop} {x:Nat} {ys:List Nat} (h:Tin ρ H E1 (x::ys)):Tin ρ H E1 ys:=fun i hi=>h i (List.mem_cons_of_mem _ hi)
theorem Tin.head {E1:Nat→Prop} {x:Nat} {ys:List Nat} (h:Tin ρ H E1 (x::ys)) {k:Blk} {b:Nat} (hk:H.get x=some k) (hb:ρ x=some b):E1 b:=h x List.mem_cons_self k b hk hb
theorem RepAt.of {b:Nat} {E:Nat→Prop}:∀{ys:List AV} {off:Nat},(∀j c,ys[j]? = some c→∃v,w.cell? ⟨b,off+j,none⟩=some v∧Rep ρ E w c v)→RepAt ρ E w b off ys
 | [],_,_=>by simp only[RepAt]
 |c::cs,off,h=>by
  simp only[RepAt]
  refine⟨h 0 c (by simp),RepAt.of fun j x hj=> ?_⟩
  have:=h (j+1) x (by simpa using hj)
  rwa [show off+(j+1)=off+1+j from by omega]at this
theorem RepAt.take {b:Nat} {E:Nat→Prop} {ys:List AV} {off:Nat} (n:Nat) (h:RepAt ρ E w b off ys):RepAt ρ E w b off (ys.take n):=
 RepAt.of fun j c hj=>h.get (by rw[List.getElem?_take]at hj;split at hj;exact hj;cases hj)
theorem chunks_length (z:Nat):∀(n:Nat) (cs:List AV),(chunks z n cs).length=n
 |0,_=>rfl
 |n+1,cs=>by simp[chunks,chunks_length z n]
theorem chunks_rows {b z:Nat} {E:Nat→Prop}:∀{n:Nat} {ys:List AV} {off:Nat},RepAt ρ E w b off ys→ys.length=n*z→RepRows ρ E w b off z (chunks z n ys)
 |0,_,_,_,_=>by simp only[chunks,RepRows]
 |n+1,ys,off,h,hl=>by
  rw[Nat.succ_mul]at hl
  simp only[chunks,RepRows]
  exact⟨by simp;omega,h.take z,chunks_rows (h.drop z) (by simp;omega)⟩
theorem allB_both {xs ys:List Bool} (h:allB (xs++ys)=true):allB xs=true∧allB ys=true:=by
 induction xs with
 |nil=>exact⟨rfl,h⟩
 |cons b bs ih=>
  cases b with
  |true=>simpa only[List.cons_append,allB,cond_true]using ih (by simpa only[List.cons_append,allB,cond_true]using h)
  |false=>simp[allB]at h
theorem allB_flat {α:Type} {f:α→List Bool}:∀{xs:List α},allB (xs.map f).flatten=true→∀x∈xs,allB (f x)=true
 | [],_,x,hx=>by cases hx
 |y::ys,h,x,hx=>by
  simp only[List.map_cons,List.flatten_cons]at h
  obtain⟨h1,h2⟩:=allB_both h
  rcases List.mem_cons.1 hx with rfl|hx
  ·exact h1
  ·exact allB_flat h2 x hx
theorem expo_rep (inv:Inv lo w0 ρ E H w) {E1:Nat→Prop}:∀(n:Nat) (x y:AV) (u:Value),expo H n x=some y→allB (expoObl H n x)=true→Rep ρ E w x u→Tin ρ H E1 (tch H n x)→(extFree H n x=true∨∀b,E b→E1 b)→Rep nowhere E1 w y u:=by
 intro n
 induction n with
 |zero=>intro x y u h;simp[expo]at h
 |succ n ih=>
  have ihL:∀(xs ys:List AV) (us:List Value),mapO (expo H n) xs=some ys→allB (xs.map (expoObl H n)).flatten=true→RepL ρ E w xs us→Tin ρ H E1 (xs.map (tch H n)).flatten→(xs.all (extFree H n)=true∨∀b,E b→E1 b)→RepL nowhere E1 w ys us:=by
   intro xs ys us hm hob hr ho he
   refine RepL.of ?_ fun j y v hy hv=> ?_
   ·rw[← mapO_len hm,hr.length]
   ·have hjl:j<xs.length:=by rw[mapO_len hm];exact(List.getElem?_eq_some_iff.1 hy).1
    obtain⟨y',hy',hf⟩:=mapO_get hm (List.getElem?_eq_getElem hjl)
    rw[hy]at hy';cases hy'
    obtain⟨v',hv',hrv⟩:=hr.get (List.getElem?_eq_getElem hjl)
    rw[hv]at hv';cases hv'
    exact ih _ _ _ hf (allB_flat hob _ (List.getElem_mem hjl)) hrv (ho.flat _ (List.getElem_mem hjl)) (he.imp (fun h=>List.all_eq_true.1 h _ (List.getElem_mem hjl)) id)
  have ihC:∀(xs ys:List AV) (b off:Nat),mapO (expo H n) xs=some ys→allB (xs.map (expoObl H n)).flatten=true→(∀j c,xs[j]? = some c→∃v,w.cell? ⟨b,off+j,none⟩=some v∧Rep ρ E w c v)→Tin ρ H E1 (xs.map (tch H n)).flatten→(xs.all (extFree H n)=true∨∀b,E b→E1 b)→RepAt nowhere E1 w b off ys:=by
   intro xs ys b off hm hob hc ho he
   refine RepAt.of fun j y hy=> ?_
   have hjl:j<xs.length:=by rw[mapO_len hm];exact(List.getElem?_eq_some_iff.1 hy).1
   obtain⟨y',hy',hf⟩:=mapO_get hm (List.getElem?_eq_getElem hjl)
   rw[hy]at hy';cases hy'
   obtain⟨v,hv,hrv⟩:=hc j _ (List.getElem?_eq_getElem hjl)
   exact⟨v,hv,ih _ _ _ hf (allB_flat hob _ (List.getElem_mem hjl)) hrv (ho.flat _ (List.getElem_mem hjl)) (he.imp (fun h=>List.all_eq_true.1 h _ (List.getElem_mem hjl)) id)⟩
  intro x y u h hob r ho he
  simp only[expo]at h
  simp only[expoObl]at hob
  cases x with
  |undef=>cases h;simp only[Rep]
  |sc v=>
   simp only[Rep]at r
   subst r
   have h':expoS u=some y:=h
   unfold expoS at h'
   cases h';simp only[Rep]
  |ptr i off=>
   replace h:orAV (datP H i off) ((getB H i).bind fun cs=>(mapO (expo H n) (cs.drop off)).map .eptr)=some y:=h
   cases hdp:datP H i off with
   |some v=>
    rw[hdp]at h
    simp only[orAV,Option.some.injEq]at h
    subst h
    unfold datP at hdp
    cases hdb:datB H i with
    |none=>rw[hdb]at hdp;cases hdp
    |some p=>
     obtain⟨T,d⟩:=p
     rw[hdb]at hdp
     have hk:H.get i=some (.dat T d):=by
      unfold datB at hdb
      split at hdb
      ·rename_i T' d' hk;cases hdb;exact hk
      ·cases hdb
     cases hb:Nat.beq off 0 with
     |false=>simp[hb]at hdp
     |true=>
      simp only[hb,cond_true,Option.some.injEq]at hdp
      subst hdp
      obtain rfl:off=0:=Nat.eq_of_beq_eq_true hb
      have he':∀b,E b→E1 b:=he.resolve_left (by simp[extFree,hdb])
      simp only[Rep]at r ⊢
      obtain⟨b,hρb,rfl⟩:=r
      obtain⟨c,Ty,hc,hlay,hz,hrd⟩:=inv.blk i _ b hk hρb
      have hn:=hrd.len hlay
      refine⟨b,0,_,rfl,ho.head hk hρb,hlay,?_,hrd.mono (ρ:=nowhere) (ρ':=nowhere) ⟨fun _ _ e=>e,he',fun _ _=>rfl,fun _ _ _ _ _ e=>(by cases e),Nat.le_refl _⟩⟩
      intro j v hv
      have hj:j<PG.cellsOf T:=by have:=(List.getElem?_eq_some_iff.1 hv).1;rw[hn]at this;exact this
      rw[List.getElem?_take_of_lt hj]at hv
      simp only[World.cell?,hc,Nat.zero_add]
      simpa using hv
   |none=>
   rw[hdp]at h
   simp only[orAV]at h
   cases hg:getB H i with
   |none=>simp[hg]at h
   |some cs=>
    cases hm:mapO (expo H n) (cs.drop off)with
    |none=>simp[hg,hm]at h
    |some ys=>
     simp[hg,hm]at h
     subst h
     have ho':Tin ρ H E1 ((cs.drop off).map (tch H n)).flatten:=by have:=ho.tail;simpa only[hg]using this
     have he':(cs.drop off).all (extFree H n)=true∨∀b,E b→E1 b:=he.imp (fun h=>by
      simp only[extFree,hg]at h
      cases hdb:(datB H i).isSome with
      |true=>rw[hdb]at h;cases h
      |false=>rw[hdb]at h;exact h) id
     obtain⟨b,off',rfl,hcell⟩:=contents_at inv (x:= .ptr i off) (cs:=cs.drop off) (by simp[contents,hg]) rfl r
     simp only[Rep]at r ⊢
     obtain⟨b0,hb0,e⟩:=r
     simp only[Value.pointer.injEq,Option.some.injEq,Addr.mk.injEq,and_true]at e
     obtain⟨rfl,rfl⟩:=e
     exact⟨b,off',rfl,ho.head (getB_get hg).choose_spec.1 hb0,ihC _ _ _ _ hm (by simpa only[hg]using hob) hcell ho' he'⟩
  |eptr cs=>
   cases h
   have he':∀b,E b→E1 b:=he.resolve_left (by simp[extFree])
   exact Rep.mono ⟨fun _ _ e=>e,he',fun _ _=>rfl,fun _ _ _ _ _ e=>(by cases e),Nat.le_refl _⟩ _ _ (by simp only[Rep]at r ⊢;exact r)
  |sl i z off len=>
   cases hg:getB H i with
   |none=>simp[hg]at h
   |some cs=>
    simp only[hg,Option.bind_some]at h
    split at h
    case isFalse=>cases h
    case isTrue hfit=>
     cases hm:mapO (expo H n) ((cs.drop off).take (len*z))with
     |none=>simp[hm]at h
     |some ys=>
      simp[hm]at h
      subst h
      have ho':Tin ρ H E1 (((cs.drop off).take (len*z)).map (tch H n)).flatten:=by have:=ho.tail;simpa only[hg]using this
      have he':((cs.drop off).take (len*z)).all (extFree H n)=true∨∀b,E b→E1 b:=he.imp (fun h=>by simpa only[extFree,hg]using h) id
      simp only[Rep]at r ⊢
      obtain⟨b,cap,hb,rfl,hcap,_⟩:=r
      obtain⟨b',off',e,hcell⟩:=contents_at inv (x:= .ptr i off) (u:= .pointer (some ⟨b,off,none⟩)) (cs:=cs.drop off) (by simp[contents,hg]) rfl (by simp only[Rep];exact⟨b,hb,rfl⟩)
      simp only[Value.pointer.injEq,Option.some.injEq,Addr.mk.injEq,and_true]at e
      obtain⟨rfl,rfl⟩:=e
      have hat:=ihC _ _ b off hm (by simpa only[hg]using hob) (fun j c hj=>hcell j c (by rw[List.getElem?_take]at hj;split at hj;exact hj;cases hj)) ho' he'
      have hyl:ys.length=len*z:=by rw[← mapO_len hm];simp;omega
      refine⟨some ⟨b,off,none⟩,cap,by rw[chunks_length],by rw[chunks_length];exact hcap, .inr ⟨b,off,z,rfl,ho.head (getB_get hg).choose_spec.1 hb,chunks_rows hat hyl⟩⟩
  |esl xs=>
   cases h
   rcases he with he|he
   ·simp only[extFree,List.isEmpty_iff]at he
    subst he
    simp only[Rep]at r ⊢
    obtain⟨a,cap,hv,hl,_⟩:=r
    exact⟨a,cap,hv,hl, .inl trivial⟩
   ·exact Rep.mono ⟨fun _ _ e=>e,he,fun _ _=>rfl,fun _ _ _ _ _ e=>(by cases e),Nat.le_refl _⟩ _ _ (by simp only[Rep]at r ⊢;exact r)
  |map i=>
   cases hg:getM H i with
   |none=>simp[hg]at h
   |some es=>
    cases hm:mapO (fun e=>(expo H n e.2).map fun v=>(e.1,v)) es with
    |none=>simp[hg,hm]at h
    |some ys=>
     simp[hg,hm]at h
     subst h
     have ho':Tin ρ H E1 (es.map fun e=>tch H n e.2).flatten:=by have:=ho.tail;simpa only[hg]using this
     have he':es.all (fun e=>extFree H n e.2)=true∨∀b,E b→E1 b:=he.imp (fun h=>by simpa only[extFree,hg]using h) id
     simp only[Rep]at r ⊢
     obtain⟨b,hb,rfl⟩:=r
     obtain⟨arr,clk,hmm,hrm,hbo⟩:=inv.mapAt hg hb
     refine⟨b,arr,clk,rfl,ho.head (getM_get hg) hb,hmm,?_,hbo⟩
     have key:∀(es:List (Value×AV)) (ys:List (Value×AV)) (ms:List MapEntry),mapO (fun e=>(expo H n e.2).map fun v=>(e.1,v)) es=some ys→allB (es.map fun e=>expoObl H n e.2).flatten=true→RepM ρ E w es ms→Tin ρ H E1 (es.map fun e=>tch H n e.2).flatten→
      (es.all (fun e=>extFree H n e.2)=true∨∀b,E b→E1 b)→RepM nowhere E1 w ys ms:=by
      intro es
      induction es with
      |nil=>intro ys ms h _ hr _ _;simp only[mapO,Option.some.injEq]at h;subst h;simpa only[RepM]using hr
      |cons p es ihe=>
       intro ys ms h hob hr ho he
       have hob1:=allB_flat hob _ List.mem_cons_self
       have hob2:allB (es.map fun e=>expoObl H n e.2).flatten=true:=by simp only[List.map_cons,List.flatten_cons]at hob;exact(allB_both hob).2
       obtain⟨k,v⟩:=p
       simp only[mapO]at h
       cases hx:expo H n v with
       |none=>simp[hx]at h
       |some v'=>
        cases hr':mapO (fun e=>(expo H n e.2).map fun v=>(e.1,v)) es with
        |none=>simp[hx,hr']at h
        |some zs=>
         simp[hx,hr']at h
         subst h
         simp only[RepM]at hr ⊢
         obtain⟨e,es',rfl,hk,hv,hrest⟩:=hr
         refine⟨e,es',rfl,hk,ih _ _ _ hx hob1 hv (ho.flat _ List.mem_cons_self) (he.imp (fun h=> ?_) id),ihe zs es' hr' hob2 hrest (by simp only[List.map_cons,List.flatten_cons]at ho;exact ho.right) (he.imp (fun h=> ?_) id)⟩
         ·simp only[List.all_cons,Bool.and_eq_true]at h;exact h.1
         ·simp only[List.all_cons,Bool.and_eq_true]at h;exact h.2
     exact key es ys _ hm (by simpa only[hg]using hob) hrm ho' he'
  |emap es=>
   cases h
   have he':∀b,E b→E1 b:=he.resolve_left (by simp[extFree])
   exact Rep.mono ⟨fun _ _ e=>e,he',fun _ _=>rfl,fun _ _ _ _ _ e=>(by cases e),Nat.le_refl _⟩ _ _ (by simp only[Rep]at r ⊢;exact r)
  |ui k m=>cases h;simp only[Rep]at r ⊢;exact r
  |ub b=>cases h;simp only[Rep]at r ⊢;exact r
  |us b=>cases h;simp only[Rep]at r ⊢;exact r
  |rows T d=>
   cases h
   have he':∀b,E b→E1 b:=he.resolve_left (by simp[extFree])
   exact Rep.mono ⟨fun _ _ e=>e,he',fun _ _=>rfl,fun _ _ _ _ _ e=>(by cases e),Nat.le_refl _⟩ _ _ (by simp only[Rep]at r ⊢;exact r)
  |dat T d=>
   cases h
   have he':∀b,E b→E1 b:=he.resolve_left (by simp[extFree])
   exact Rep.mono ⟨fun _ _ e=>e,he',fun _ _=>rfl,fun _ _ _ _ _ e=>(by cases e),Nat.le_refl _⟩ _ _ (by simp only[Rep]at r ⊢;exact r)
  |edat T d=>
   cases h
   have he':∀b,E b→E1 b:=he.resolve_left (by simp[extFree])
   exact Rep.mono ⟨fun _ _ e=>e,he',fun _ _=>rfl,fun _ _ _ _ _ e=>(by cases e),Nat.le_refl _⟩ _ _ (by simp only[Rep]at r ⊢;exact r)
  |rowz T d=>
   cases h
   have he':∀b,E b→E1 b:=he.resolve_left (by simp[extFree])
   exact Rep.mono ⟨fun _ _ e=>e,he',fun _ _=>rfl,fun _ _ _ _ _ e=>(by cases e),Nat.le_refl _⟩ _ _ (by simp only[Rep]at r ⊢;exact r)
  |oel i T m off=>cases h
  |e0=>cases h;simp only[Rep]at r ⊢;exact r
  |anyI k=>cases h;simp only[Rep]at r ⊢;exact r
  |nx b x y=>cases h
  |osl i T m=>
   obtain⟨⟨T',d⟩,hg,h'⟩:=Option.bind_eq_some_iff.1 h
   cases hb:Nat.beq T' T with
   |false=>simp[hb]at h'
   |true=>
    simp only[hb,cond_true,Option.some.injEq]at h'
    subst h'
    obtain rfl:=Nat.eq_of_beq_eq_true hb
    have he':∀b,E b→E1 b:=he.resolve_left (by simp[extFree])
    simp only[oslObl,hg]at hob
    have hm:qcmp .eql m (qlen d)=true:=allB_mem hob _ (by simp)
    rw[qcmp_eq,qlen_eq]at hm
    simp only[rcmp,D.len,beq_iff_eq]at hm
    have hmn:m.toNat=d.toList.length:=by rw[hm];exact Int.toNat_natCast _
    simp only[Rep]at r ⊢
    obtain⟨h0,a,cap,rfl,hcap,hr⟩:=r
    rw[hmn]at hcap ⊢
    refine⟨a,cap,rfl,hcap,?_⟩
    rcases hr with⟨hm0,_⟩|⟨b,hρ,rfl,_⟩
    ·exact .inl (List.length_eq_zero_iff.1 (by rw[← hmn,hm0];rfl))
    ·obtain⟨c,Ty,hc,hlay,hs,hre⟩:=inv.blk i _ b (getL_get hg) hρ
     refine .inr ⟨b,0,rfl,ho.head (getL_get hg) hρ,fun j x hx=> ?_⟩
     have hrd:=hre j x hx
     have hl:=hrd.len hlay
     refine⟨_,hl,fun p v hv=> ?_,hrd.mono (ρ:=nowhere) (ρ':=nowhere) ⟨fun _ _ e=>e,he',fun _ _=>rfl,fun _ _ _ _ _ e=>(by cases e),Nat.le_refl _⟩⟩
     rw[cut_get]at hv
     split at hv
     ·simp only[World.cell?,hc,Nat.zero_add];simpa using hv
     ·cases hv
  |func f a b=>
   cases ha:mapO (expo H n) a with
   |none=>simp[ha]at h
   |some a'=>
    cases hb:mapO (expo H n) b with
    |none=>simp[ha,hb]at h
    |some b'=>
     simp[ha,hb]at h
     subst h
     simp only[Rep]at r ⊢
     obtain⟨xs,ys,rfl,hra,hrb⟩:=r
     have he1:(a.all (extFree H n)=true∨∀b,E b→E1 b)∧(b.all (extFree H n)=true∨∀b,E b→E1 b):=by
      rcases he with h|h
      ·simp only[extFree,Bool.and_eq_true]at h;exact⟨.inl h.1, .inl h.2⟩
      ·exact⟨.inr h, .inr h⟩
     exact⟨xs,ys,rfl,ihL _ _ _ ha (allB_both hob).1 hra ho.left he1.1,ihL _ _ _ hb (allB_both hob).2 hrb ho.right he1.2⟩
  |agg cs=>
   cases ha:mapO (expo H n) cs with
   |none=>simp[ha]at h
   |some a'=>
    simp[ha]at h
    subst h
    simp only[Rep]at r ⊢
    obtain⟨xs,rfl,hra⟩:=r
    exact⟨xs,rfl,ihL _ _ _ ha hob hra ho (he.imp (fun h=>by simpa only[extFree]using h) id)⟩
  |tup cs=>
   cases ha:mapO (expo H n) cs with
   |none=>simp[ha]at h
   |some a'=>
    simp[ha]at h
    subst h
    simp only[Rep]at r ⊢
    obtain⟨xs,rfl,hra⟩:=r
    exact⟨xs,rfl,ihL _ _ _ ha hob hra ho (he.imp (fun h=>by simpa only[extFree]using h) id)⟩
theorem expoL_rep (inv:Inv lo w0 ρ E H w) {E1:Nat→Prop} {xs ys:List AV} {us:List Value} {n:Nat} (hm:mapO (expo H n) xs=some ys) (hob:allB (xs.map (expoObl H n)).flatten=true) (hr:RepL ρ E w xs us) (ho:Tin ρ H E1 (tchL H n xs)) (he:∀b,E b→E1 b):RepL nowhere E1 w ys us:=by
 refine RepL.of ?_ fun j y v hy hv=> ?_
 ·rw[← mapO_len hm,hr.length]
 ·have hjl:j<xs.length:=by rw[mapO_len hm];exact(List.getElem?_eq_some_iff.1 hy).1
  obtain⟨y',hy',hf⟩:=mapO_get hm (List.getElem?_eq_getElem hjl)
  rw[hy]at hy';cases hy'
  obtain⟨v',hv',hrv⟩:=hr.get (List.getElem?_eq_getElem hjl)
  rw[hv]at hv';cases hv'
  exact expo_rep inv n _ _ _ hf (allB_flat hob _ (List.getElem_mem hjl)) hrv (Tin.flat ho _ (List.getElem_mem hjl)) (.inr he)
theorem ownFree_tch {E1:Nat→Prop}:∀(n:Nat) (x:AV),ownFree n x=true→Tin ρ H E1 (tch H n x):=by
 intro n
 induction n with
 |zero=>intro x h;simp[ownFree]at h
 |succ n ih=>
  have ihL:∀xs:List AV,xs.all (ownFree n)=true→Tin ρ H E1 (xs.map (tch H n)).flatten:=by
   intro xs h i hi k b hk hb
   obtain⟨l,hl,hil⟩:=List.mem_flatten.1 hi
   obtain⟨x,hx,rfl⟩:=List.mem_map.1 hl
   exact ih x (List.all_eq_true.1 h x hx) i hil k b hk hb
  intro x h
  cases x<;>simp only[ownFree]at h<;>simp only[tch]
  case ptr=>cases h
  case sl=>cases h
  case map=>cases h
  case osl=>cases h
  case oel=>cases h
  case func f a b=>
   simp only[Bool.and_eq_true]at h
   intro i hi
   rcases List.mem_append.1 hi with hi|hi
   ·exact ihL a h.1 i hi
   ·exact ihL b h.2 i hi
  case agg cs=>exact ihL cs h
  case tup cs=>exact ihL cs h
  all_goals (intro i hi;cases hi)
theorem ownFree_tchL {E1:Nat→Prop} {n:Nat} {xs:List AV} (h:xs.all (ownFree n)=true):Tin ρ H E1 (tchL H n xs):=by
 intro i hi k b hk hb
 obtain⟨l,hl,hil⟩:=List.mem_flatten.1 hi
 obtain⟨x,hx,rfl⟩:=List.mem_map.1 hl
 exact ownFree_tch n x (List.all_eq_true.1 h x hx) i hil k b hk hb
theorem put_none_some {H:Hp} {i j:Nat} {k:Blk} (hl:H.n=H.bs.length) (h:(H.put i none).get j=some k):H.get j=some k∧j≠i:=by
 have hjn:j<H.n:=Hp.get_lt (H:=H.put i none) h
 have h1:Nat.blt j H.n=true:=by rw[Nat.blt_eq];exact hjn
 simp only[Hp.get,Hp.put,h1,cond_true]at h ⊢
 by_cases hz:H.n-1-i=H.n-1-j
 ·rw[hz,List.getElem?_set_self (by omega)]at h
  simp at h
 ·rw[List.getElem?_set_ne hz]at h
  exact⟨h,fun e=>hz (by rw[e])⟩
theorem kill_len:∀(ts:List Nat) (H:Hp),(kill ts H).n=H.n∧(kill ts H).bs.length=H.bs.length∧(kill ts H).gl=H.gl
 | [],_=>⟨rfl,rfl,rfl⟩
 |i::ts,H=>by
  obtain⟨h1,h2,h3⟩:=kill_len ts (H.put i none)
  exact⟨h1,by simp only[kill,h2];simp[Hp.put],h3⟩
theorem kill_get:∀(ts:List Nat) {H:Hp} {j:Nat} {k:Blk},H.n=H.bs.length→(kill ts H).get j=some k→H.get j=some k∧¬j∈ts
 | [],_,_,_,_,h=>⟨h,by simp⟩
 |i::ts,H,j,k,hl,h=>by
  obtain⟨h1,h2⟩:=kill_get ts (Hp.put_len _ _ hl) h
  obtain⟨h3,h4⟩:=put_none_some hl h1
  exact⟨h3,by simp[h4,h2]⟩
def Efz (ρ:Nat→Option Nat) (E:Nat→Prop) (H:Hp) (ts:List Nat):Nat→Prop:=fun b=>E b∨∃i∈ts,∃k,H.get i=some k∧ρ i=some b
theorem Efz.tin {ts:List Nat}:Tin ρ H (Efz ρ E H ts) ts:=fun i hi k b hk hb=> .inr ⟨i,hi,k,hk,hb⟩
theorem Efz.ext {ts:List Nat}:Ext ρ E w ρ (Efz ρ E H ts) w:=⟨fun _ _ h=>h,fun _ h=> .inl h,fun b hb=>rfl,fun _ _ c _ _ _ h=>⟨c,h,rfl⟩,Nat.le_refl _⟩
theorem Inv.freeze (inv:Inv lo w0 ρ E H w) (ts:List Nat):Inv lo w0 ρ (Efz ρ E H ts) (kill ts H) w∧(∀b,Efz ρ E H ts b→E b∨¬lo b):=by
 have key:∀j k,(kill ts H).get j=some k→H.get j=some k∧¬j∈ts:=fun j k h=>kill_get ts inv.len h
 obtain⟨hn,hbl,hgl⟩:=kill_len ts H
 refine⟨{len:=by rw[hn,hbl];exact inv.len
         dom:=fun i b hb=>by rw[hn];exact inv.dom i b hb
         blk:=fun i k b hk hb=>(inv.blk i k b (key i k hk).1 hb).mono Efz.ext rfl
         inj:=fun i j k k' b h1 h2 hb hb'=>inv.inj i j k k' b (key i k h1).1 (key j k' h2).1 hb hb'
         notE:=fun i k b hk hb he=>by
          rcases he with he|⟨j,hj,k',hk',hb'⟩
          ·exact inv.notE i k b (key i k hk).1 hb he
          ·have:=inv.inj i j k k' b (key i k hk).1 hk' hb hb'
           subst this
           exact(key i k hk).2 hj
         bd:=inv.bd
         ebd:=fun b he=>by
          rcases he with he|⟨j,_,k',_,hb'⟩
          ·exact inv.ebd b he
          ·exact(inv.bd j b hb').2
         lole:=inv.lole,old:=inv.old,io:=inv.io,gl:=gl_mono hgl Efz.ext inv.gl},fun b he=> ?_⟩
 rcases he with he|⟨j,_,k',_,hb'⟩
 ·exact .inl he
 ·exact .inr (inv.bd j b hb').1
end
end Go.AM
