/-
  Values as data.
-/
import Derived.Test.YteccopaonadbeaaGreatDoorAm3
set_option linter.unusedVariables false
set_option linter.unusedSimpArgs false
namespace Go.AM
theorem mapO_len {α β:Type} {f:α→Option β}:∀{xs:List α} {ys:List β},mapO f xs=some ys→xs.length=ys.length
 | [],ys,h=>by simp only[mapO,Option.some.injEq]at h;subst h;rfl
 |x::xs,ys,h=>by
  simp only[mapO]at h
  cases hx:f x with
  |none=>simp[hx]at h
  |some y=>
   cases hr:mapO f xs with
   |none=>simp[hx,hr]at h
   |some zs=>simp[hx,hr]at h;subst h;simp[mapO_len hr]
theorem mapO_get {α β:Type} {f:α→Option β}:∀{xs:List α} {ys:List β},mapO f xs=some ys→∀{i:Nat} {x:α},xs[i]? = some x→∃y,ys[i]? = some y∧f x=some y
 | [],_,_,i,x,hi=>by simp at hi
 |a::xs,ys,h,i,x,hi=>by
  simp only[mapO]at h
  cases hx:f a with
  |none=>simp[hx]at h
  |some y=>
   cases hr:mapO f xs with
   |none=>simp[hx,hr]at h
   |some zs=>
    simp[hx,hr]at h
    subst h
    cases i with
    |zero=>simp at hi;subst hi;exact⟨y,by simp,hx⟩
    |succ i=>simp at hi;obtain⟨z,hz,hf⟩:=mapO_get hr hi;exact⟨z,by simpa using hz,hf⟩
theorem chunks_get {z:Nat}:∀(n:Nat) (cs:List AV) (i:Nat) (c:List AV),(chunks z n cs)[i]? = some c→c=(cs.drop (i*z)).take z
 |0,_,i,c,h=>by simp[chunks]at h
 |n+1,cs,i,c,h=>by
  simp only[chunks]at h
  cases i with
  |zero=>simp at h;simp[h]
  |succ i=>
   simp only[List.getElem?_cons_succ]at h
   have:=chunks_get n _ i c h
   rw[this,List.drop_drop,Nat.succ_mul,Nat.add_comm]
theorem chunks_len {z:Nat}:∀(n:Nat) (cs:List AV),(chunks z n cs).length=n
 |0,_=>rfl
 |n+1,cs=>by simp[chunks,chunks_len n]
section
variable {E:Nat→Prop} {w:World}
theorem cells_scal {x:AV} {v:Value} {ρ:Nat→Option Nat} (h:one x=true) (r:Rep ρ E w x v):v.cells.toList = [v]:=by rw[cells_of_one (one_cell h r)]
theorem uncell_rep {T:TypeId} {cs:List AV} {us:List Value} {ρ:Nat→Option Nat} (r:RepL ρ E w cs us) {n:Nat} {d:D} (h:avD n T (uncell T cs)=some d)
 (k:∀v,Rep ρ E w (uncell T cs) v→RepD PG E w T d v.cells.toList):RepD PG E w T d us:=by
 cases ha:isAggT PG T with
 |true=>
  have e:uncell T cs = .agg cs:=by simp[uncell,ha]
  have:=k (.agg us.toArray) (by rw[e];simp only[Rep];exact⟨us.toArray,rfl,by simpa using r⟩)
  simpa[Value.cells]using this
 |false=>
  match cs,r with
  | [x],r=>
    simp only[RepL]at r
    obtain⟨v,vs,rfl,h1,rfl⟩:=r
    have e:uncell T [x]=x:=by simp[uncell,ha]
    have:=k v (by rw[e];exact h1)
    rw[e]at h
    cases n with
    |zero=>simp[avD]at h
    |succ n=>
     have hone:v.cells.toList = [v]:=by
      unfold avD at h
      unfold isAggT aggB at ha
      split at h
      ·split at h
       ·exact cells_scal rfl h1
       ·exact cells_scal rfl h1
       ·cases h
      ·split at h
       ·exact cells_scal rfl h1
       ·exact cells_scal rfl h1
       ·cases h
      ·split at h
       ·exact cells_scal rfl h1
       ·exact cells_scal rfl h1
       ·cases h
      ·split at h
       ·exact cells_scal rfl h1
       ·exact cells_scal rfl h1
       ·exact cells_scal rfl h1
       ·cases h
      ·rename_i hu;rw[hu]at ha;simp at ha
      ·rename_i hu;rw[hu]at ha;simp at ha
      ·cases h
     rw[hone]at this
     exact this
  | [],r=>
    have e:uncell T [] = .undef:=by simp[uncell,ha]
    rw[e]at h
    cases n with
    |zero=>simp[avD]at h
    |succ n=>
     unfold avD at h
     split at h<;>(first|cases h|(split at h<;>first|cases h|contradiction))
  |x::y::zs,r=>
   have e:uncell T (x::y::zs) = .undef:=by simp[uncell,ha]
   rw[e]at h
   cases n with
   |zero=>simp[avD]at h
   |succ n=>
    unfold avD at h
    split at h<;>(first|cases h|(split at h<;>first|cases h|contradiction))
theorem mapO_some {α β:Type} {f:α→Option β} {xs:List α} {ys:List β} (h:mapO f xs=some ys) {i:Nat} {y:β} (hy:ys[i]? = some y):∃x,xs[i]? = some x∧f x=some y:=by
 have hl:=mapO_len h
 have hi:i<xs.length:=by rw[hl];exact(List.getElem?_eq_some_iff.1 hy).1
 obtain⟨y',h1,h2⟩:=mapO_get h (List.getElem?_eq_getElem hi)
 rw[hy]at h1
 cases h1
 exact⟨_,List.getElem?_eq_getElem hi,h2⟩
theorem RepL.toAt {b:Nat} {ρ:Nat→Option Nat}:∀{cs:List AV} {off:Nat},RepAt ρ E w b off cs→∃us,RepL ρ E w cs us∧∀(j:Nat) u,us[j]? = some u→w.cell? ⟨b,off+j,none⟩=some u
 | [],_,_=>⟨[],RepL.nil,fun j u h=>by simp at h⟩
 |c::cs,off,h=>by
  simp only[RepAt]at h
  obtain⟨⟨u,hu,h1⟩,h2⟩:=h
  obtain⟨us,h3,h4⟩:=RepL.toAt h2
  refine⟨u::us,RepL.cons h1 h3,fun j v hv=> ?_⟩
  cases j with
  |zero=>simp at hv;subst hv;exact hu
  |succ j=>simp at hv;have:=h4 j v hv;rw[show off+(j+1)=off+1+j from by omega];exact this
theorem avD_rep:∀(n:Nat) (T:TypeId) (x:AV) (d:D) (v:Value) (ρ:Nat→Option Nat),avD n T x=some d→Rep ρ E w x v→RepD PG E w T d v.cells.toList
 |0,_,_,_,_,_,h,_=>by simp[avD]at h
 |n+1,T,x,d,v,ρ,h,r=>by
  have ih:=avD_rep n
  unfold avD at h
  split at h
  ·rename_i k hu
   split at h
   ·split at h
    ·rename_i hk;cases h;simp only[Rep]at r;subst r;subst hk;exact .int hu
    ·cases h
   ·split at h
    ·rename_i hk;cases h;simp only[Rep]at r;subst r;subst hk;exact .int hu
    ·cases h
   ·cases h
  ·rename_i hu
   split at h
   ·cases h;simp only[Rep]at r;subst r;exact .bool hu
   ·cases h;simp only[Rep]at r;subst r;exact .bool hu
   ·cases h
  ·rename_i hu
   split at h
   ·cases h;simp only[Rep]at r;subst r;exact .str hu
   ·cases h;simp only[Rep]at r;subst r;exact .str hu
   ·cases h
  ·rename_i e hu
   split at h
   ·rename_i T' d'
    cases hb:Nat.beq T' e with
    |false=>simp[hb]at h
    |true=>
     simp only[hb,cond_true,Option.some.injEq]at h
     subst h
     obtain rfl:=Nat.eq_of_beq_eq_true hb
     simp only[Rep]at r
     obtain⟨a,cap,rfl,hcap,hr⟩:=r
     generalize hxs:d'.toList=xs at hcap hr
     have hr':∀i,∃row:List Value,i<xs.length→∃b off,a=some ⟨b,off,none⟩∧E b∧row.length=PG.cellsOf T'∧(∀j u,row[j]? = some u→w.cell? ⟨b,off+i*PG.cellsOf T'+j,none⟩=some u)∧∀x,xs[i]? = some x→RepD PG E w T' x row:=by
      intro i
      by_cases hi:i<xs.length
      ·rcases hr with hr|⟨b,off,ha,hE,hr⟩
       ·rw[hr]at hi;simp at hi
       ·obtain⟨row,h1,h2,h3⟩:=hr i xs[i] (List.getElem?_eq_getElem hi)
        exact⟨row,fun _=>⟨b,off,ha,hE,h1,h2,fun x hx=>by rw[List.getElem?_eq_getElem hi]at hx;cases hx;exact h3⟩⟩
      ·exact⟨[],fun h=>absurd h hi⟩
     subst hxs
     show RepD PG E w T d' [.slice a d'.toList.length cap]
     refine .slice (fun i=>(hr' i).choose) hu hcap ?_ ?_
     ·by_cases h0:d'.toList = []
      ·exact .inl h0
      ·right
       rcases hr with hr|⟨b,off,ha,hE,hr⟩
       ·exact absurd hr h0
       ·refine⟨b,off,ha,hE,fun i hi=> ?_⟩
        obtain⟨b',off',ha',_,h1,h2,_⟩:=(hr' i).choose_spec hi
        rw[ha]at ha'
        simp only[Option.some.injEq,Addr.mk.injEq,and_true]at ha'
        obtain⟨rfl,rfl⟩:=ha'
        exact⟨h1,h2⟩
     ·intro i x hx
      have hi:i<d'.toList.length:=(List.getElem?_eq_some_iff.1 hx).1
      obtain⟨_,_,_,_,_,_,h3⟩:=(hr' i).choose_spec hi
      exact h3 x hx
   ·rename_i xs
    cases hb:(xs.all fun c=>Nat.beq c.length (PG.cellsOf e))with
    |false=>simp[hb]at h
    |true=>
     simp only[hb,cond_true]at h
     cases hm:mapO (fun cs=>avD n e (uncell e cs)) xs with
     |none=>simp[hm]at h
     |some ys=>
      simp only[hm,Option.map_some,Option.some.injEq]at h
      subst h
      have hl:=mapO_len hm
      simp only[Rep]at r
      obtain⟨a,cap,rfl,hcap,hr⟩:=r
      have hz:∀(i:Nat) (c:List AV),xs[i]? = some c→c.length=PG.cellsOf e:=fun i c hc=>Nat.eq_of_beq_eq_true (List.all_eq_true.1 hb c (List.mem_of_getElem? hc))
      have hr':∀i,∃row:List Value,i<xs.length→∃b off,a=some ⟨b,off,none⟩∧E b∧row.length=PG.cellsOf e∧(∀j u,row[j]? = some u→w.cell? ⟨b,off+i*PG.cellsOf e+j,none⟩=some u)∧∀c,xs[i]? = some c→RepL nowhere E w c row:=by
       intro i
       by_cases hi:i<xs.length
       ·rcases hr with hr|⟨b,off,z,ha,hE,hr⟩
        ·rw[hr]at hi;simp at hi
        ·obtain⟨h1,h2⟩:=hr.get (List.getElem?_eq_getElem hi)
         have hz':=hz i _ (List.getElem?_eq_getElem hi)
         obtain rfl:z=PG.cellsOf e:=by rw[← h1,hz']
         obtain⟨us,h3,h4⟩:=RepL.toAt h2
         exact⟨us,fun _=>⟨b,off,ha,hE,by rw[← h3.length,hz'],h4,fun c hc=>by rw[List.getElem?_eq_getElem hi]at hc;cases hc;exact h3⟩⟩
       ·exact⟨[],fun h=>absurd h hi⟩
      show RepD PG E w T (.list ys) [.slice a xs.length cap]
      rw[hl]
      refine .slice (d:= .list ys) (fun i=>(hr' i).choose) hu (by show ys.length≤cap;omega) ?_ ?_
      all_goals show _
      all_goals simp only[D.toList]
      ·by_cases h0:ys = []
       ·exact .inl h0
       ·right
        rcases hr with hr|⟨b,off,z,ha,hE,hr⟩
        ·rw[hr]at hl;simp at hl;exact absurd (List.length_eq_zero_iff.1 hl.symm) h0
        ·refine⟨b,off,ha,hE,fun i hi=> ?_⟩
         obtain⟨b',off',ha',_,h1,h2,_⟩:=(hr' i).choose_spec (by omega)
         rw[ha]at ha'
         simp only[Option.some.injEq,Addr.mk.injEq,and_true]at ha'
         obtain⟨rfl,rfl⟩:=ha'
         exact⟨h1,h2⟩
      ·intro i x hx
       have hi:i<ys.length:=(List.getElem?_eq_some_iff.1 hx).1
       obtain⟨_,_,_,_,_,_,h3⟩:=(hr' i).choose_spec (by omega)
       obtain⟨c,hc,hcx⟩:=mapO_some hm hx
       exact uncell_rep (h3 c hc) hcx fun v hv=>ih e _ x v _ hcx hv
   ·cases h;simp only[Rep]at r;subst r
    exact .slice (d:= .list []) (fun _=>[]) hu (Nat.le_refl _) (.inl rfl) (fun i x hx=>by simp[D.toList]at hx)
   ·cases h
  ·rename_i fs hu
   split at h
   ·rename_i T' d'
    cases hb:Nat.beq T' T with
    |false=>simp[hb]at h
    |true=>
     simp only[hb,cond_true,Option.some.injEq]at h
     subst h
     obtain rfl:=Nat.eq_of_beq_eq_true hb
     simp only[Rep]at r
     obtain⟨xs,rfl,_,hr⟩:=r
     simpa[Value.cells]using hr
   ·rename_i cs
    cases hb:Nat.beq cs.length (PG.cellsOf T)with
    |false=>simp[hb]at h
    |true=>
     simp only[hb,cond_true]at h
     cases hm:mapO (fun(f:Field)=>avD n f.type (uncell f.type ((cs.drop f.offset).take (PG.cellsOf f.type)))) fs.toList with
     |none=>simp[hm]at h
     |some ys=>
      simp only[hm,Option.map_some,Option.some.injEq]at h
      subst h
      simp only[Rep]at r
      obtain⟨us,rfl,hr⟩:=r
      refine .struct hu (by simp only[Value.cells];rw[← hr.length];exact Nat.eq_of_beq_eq_true hb) ?_
      intro j f hf
      obtain⟨y,h1,h2⟩:=mapO_get hm hf
      have e1:ys.getD j .other=y:=by simp[List.getD,h1]
      rw[e1]
      exact uncell_rep ((hr.drop f.offset).take _) h2 fun v hv=>ih f.type _ y v _ h2 hv
   ·cases h
  ·rename_i m e hu
   split at h
   ·rename_i T' d'
    cases hb:Nat.beq T' T with
    |false=>simp[hb]at h
    |true=>
     simp only[hb,cond_true,Option.some.injEq]at h
     subst h
     obtain rfl:=Nat.eq_of_beq_eq_true hb
     simp only[Rep]at r
     obtain⟨xs,rfl,_,hr⟩:=r
     simpa[Value.cells]using hr
   ·rename_i cs
    cases hb:Nat.beq cs.length (PG.cellsOf T)with
    |false=>simp[hb]at h
    |true=>
     simp only[hb,cond_true]at h
     cases hm:mapO (fun j=>avD n e (uncell e ((cs.drop (j*PG.cellsOf e)).take (PG.cellsOf e)))) (List.range m)with
     |none=>simp[hm]at h
     |some ys=>
      simp only[hm,Option.map_some,Option.some.injEq]at h
      subst h
      simp only[Rep]at r
      obtain⟨us,rfl,hr⟩:=r
      refine .array hu (by simp only[Value.cells];rw[← hr.length];exact Nat.eq_of_beq_eq_true hb) ?_
      intro j hj
      obtain⟨y,h1,h2⟩:=mapO_get hm (i:=j) (x:=j) (by simp[hj])
      have e1:ys.getD j .other=y:=by simp[List.getD,h1]
      rw[e1]
      exact uncell_rep ((hr.drop _).take _) h2 fun v hv=>ih e _ y v _ h2 hv
   ·cases h
  ·cases h
end
end Go.AM
