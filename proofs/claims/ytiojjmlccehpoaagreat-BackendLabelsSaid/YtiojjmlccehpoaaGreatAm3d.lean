/-
  Values as data.
-/
import Derived.Test.YtiojjmlccehpoaaGreatAm3
set_option linter.unusedSimpArgs false
set_option linter.unusedVariables false
namespace Go.AM
theorem cW {α β:Type} {f:α->Option β}:∀{xs:List α} {ys:List β},bE f xs=some ys->xs.length=ys.length
 | [],ys,h=>by simp only[bE,aN]at h;subst h;rfl
 |x::xs,ys,h=>by
  simp only[bE]at h;cases hx:f x with
  |none=>simp[hx]at h
  |some y=>
   cases hr:bE f xs with
   |none=>simp[hx,hr]at h
   |some zs=>simp[hx,hr]at h;subst h;simp[cW hr]
theorem ig {α β:Type} {f:α->Option β}:∀{xs:List α} {ys:List β},bE f xs=some ys->∀{i:Nat} {x:α},xs[i]? = some x->∃y,ys[i]? = some y∧f x=some y
 | [],_,_,i,x,hi=>by simp at hi
 |a::xs,ys,h,i,x,hi=>by
  simp only[bE]at h;cases hx:f a with
  |none=>simp[hx]at h
  |some y=>
   cases hr:bE f xs with
   |none=>simp[hx,hr]at h
   |some zs=>
    simp[hx,hr]at h;subst h;cases i with
    |zero=>simp at hi;subst hi;exact⟨y,by simp,hx⟩
    |succ i=>simp at hi;obtain⟨z,hz,hf⟩:=ig hr hi;exact⟨z,by simpa using hz,hf⟩
theorem ij {z:Nat}:∀(n:Nat) (cs:List AV) (i:Nat) (c:List AV),(chunks z n cs)[i]? = some c->c=(cs.drop (i*z)).take z
 |0,_,i,c,h=>by simp[chunks]at h
 |n+1,cs,i,c,h=>by
  simp only[chunks]at h;cases i with
  |zero=>simp at h;simp[h]
  |succ i=>
   simp only[sd]at h;have:=ij n _ i c h;rw[this,List.drop_drop,fS,Nat.add_comm]
theorem ik {z:Nat}:∀(n:Nat) (cs:List AV),(chunks z n cs).length=n
 |0,_=>rfl
 |n+1,cs=>by simp[chunks,ik n]
section
variable {E:Nat->Prop} {w:World}
theorem dR {x:AV} {v:Value} {ρ:Nat->Option Nat} (h:one x=true) (r:Rep ρ E w x v):v.cells.toList = [v]:=by rw[oP (one_cell h r)]
theorem cT {T:TypeId} {cs:List AV} {us:List Value} {ρ:Nat->Option Nat} (r:RepL ρ E w cs us) {n:Nat} {d:D} (h:avD n T (cD T cs)=some d)
 (k:∀v,Rep ρ E w (cD T cs) v->RepD PG E w T d v.cells.toList):RepD PG E w T d us:=by
 cases ha:nN PG T with
 |true=>
  have e:cD T cs = .agg cs:=by simp[cD,ha]
  have:=k (.agg us.toArray) (by rw[e];simp only[Rep];exact⟨us.toArray,rfl,by simpa using r⟩)
  simpa[Value.cells]using this
 |false=>
  match cs,r with
  | [x],r=>
    simp only[RepL]at r;obtain⟨v,vs,rfl,h1,rfl⟩:=r;have e:cD T [x]=x:=by simp[cD,ha]
    have:=k v (by rw[e];exact h1)
    rw[e]at h;cases n with
    |zero=>simp[avD]at h
    |succ n=>
     have hone:v.cells.toList = [v]:=by
      unfold avD at h;unfold nN kt at ha;split at h
      ·split at h
       ·exact dR rfl h1
       ·exact dR rfl h1
       ·cases h
      ·split at h
       ·exact dR rfl h1
       ·exact dR rfl h1
       ·cases h
      ·split at h
       ·exact dR rfl h1
       ·exact dR rfl h1
       ·cases h
      ·split at h
       ·exact dR rfl h1
       ·exact dR rfl h1
       ·exact dR rfl h1
       ·cases h
      ·rename_i hu;rw[hu]at ha;simp at ha
      ·rename_i hu;rw[hu]at ha;simp at ha
      ·cases h
     rw[hone]at this;exact this
  | [],r=>
    have e:cD T [] = .undef:=by simp[cD,ha]
    rw[e]at h;cases n with
    |zero=>simp[avD]at h
    |succ n=>
     unfold avD at h;split at h<;>(first|cases h|(split at h<;>first|cases h|contradiction))
  |x::y::zs,r=>
   have e:cD T (x::y::zs) = .undef:=by simp[cD,ha]
   rw[e]at h;cases n with
   |zero=>simp[avD]at h
   |succ n=>
    unfold avD at h;split at h<;>(first|cases h|(split at h<;>first|cases h|contradiction))
theorem g8 {α β:Type} {f:α->Option β} {xs:List α} {ys:List β} (h:bE f xs=some ys) {i:Nat} {y:β} (hy:ys[i]? = some y):∃x,xs[i]? = some x∧f x=some y:=by
 have hl:=cW h;have hi:i<xs.length:=by rw[hl];exact(cU.1 hy).1
 obtain⟨y',h1,h2⟩:=ig h (cq hi);rw[hy]at h1;cases h1;exact⟨_,cq hi,h2⟩
theorem RepL.toAt {b:Nat} {ρ:Nat->Option Nat}:∀{cs:List AV} {off:Nat},RepAt ρ E w b off cs->∃us,RepL ρ E w cs us∧∀(j:Nat) u,us[j]? = some u->w.cell? ⟨b,off+j,none⟩=some u
 | [],_,_=>⟨[],RepL.nil,fun j u h=>by simp at h⟩
 |c::cs,off,h=>by
  simp only[RepAt]at h;obtain⟨⟨u,hu,h1⟩,h2⟩:=h;obtain⟨us,h3,h4⟩:=RepL.toAt h2;refine⟨u::us,RepL.cons h1 h3,fun j v hv=> ?_⟩
  cases j with
  |zero=>simp at hv;subst hv;exact hu
  |succ j=>simp at hv;have:=h4 j v hv;rw[show off+(j+1)=off+1+j from by omega];exact this
theorem fa:∀(n:Nat) (T:TypeId) (x:AV) (d:D) (v:Value) (ρ:Nat->Option Nat),avD n T x=some d->Rep ρ E w x v->RepD PG E w T d v.cells.toList
 |0,_,_,_,_,_,h,_=>by simp[avD]at h
 |n+1,T,x,d,v,ρ,h,r=>by
  have ih:=fa n;unfold avD at h;split at h
  ·rename_i k hu;split at h
   ·split at h
    ·rename_i hk;cases h;simp only[Rep]at r;subst r;subst hk;exact .int hu
    ·cases h
   ·split at h
    ·rename_i hk;cases h;simp only[Rep]at r;subst r;subst hk;exact .int hu
    ·cases h
   ·cases h
  ·rename_i hu;split at h
   ·cases h;simp only[Rep]at r;subst r;exact .bool hu
   ·cases h;simp only[Rep]at r;subst r;exact .bool hu
   ·cases h
  ·rename_i hu;split at h
   ·cases h;simp only[Rep]at r;subst r;exact .str hu
   ·cases h;simp only[Rep]at r;subst r;exact .str hu
   ·cases h
  ·rename_i e hu;split at h
   ·rename_i T' d';cases hb:Nat.beq T' e with
    |false=>simp[hb]at h
    |true=>
     simp only[hb,aj,aN]at h;subst h;obtain rfl:=aR hb;simp only[Rep]at r;obtain⟨a,cap,rfl,hcap,hr⟩:=r;generalize hxs:d'.toList=xs at hcap hr;have hr':∀i,∃row:List Value,i<xs.length->∃b off,a=some ⟨b,off,none⟩∧E b∧row.length=PG.cellsOf T'∧(∀j u,row[j]? = some u->w.cell? ⟨b,off+i*PG.cellsOf T'+j,none⟩=some u)∧∀x,xs[i]? = some x->RepD PG E w T' x row:=by
      intro i;by_cases hi:i<xs.length
      ·rcases hr with hr|⟨b,off,ha,hE,hr⟩
       ·rw[hr]at hi;simp at hi
       ·obtain⟨row,h1,h2,h3⟩:=hr i xs[i] (cq hi);exact⟨row,fun _=>⟨b,off,ha,hE,h1,h2,fun x hx=>by rw[cq hi]at hx;cases hx;exact h3⟩⟩
      ·exact⟨[],fun h=>absurd h hi⟩
     subst hxs
     show RepD PG E w T d' [.slice a d'.toList.length cap]
     refine .slice (fun i=>(hr' i).choose) hu hcap ?_ ?_
     ·by_cases h0:d'.toList = []
      ·exact .inl h0
      ·right
       rcases hr with hr|⟨b,off,ha,hE,hr⟩
       ·exact absurd hr h0
       ·refine⟨b,off,ha,hE,fun i hi=> ?_⟩
        obtain⟨b',off',ha',_,h1,h2,_⟩:=(hr' i).choose_spec hi;rw[ha]at ha';simp only[aN,nL,and_true]at ha';obtain⟨rfl,rfl⟩:=ha';exact⟨h1,h2⟩
     ·intro i x hx;have hi:i<d'.toList.length:=(cU.1 hx).1;obtain⟨_,_,_,_,_,_,h3⟩:=(hr' i).choose_spec hi;exact h3 x hx
   ·rename_i xs;cases hb:(xs.all fun c=>Nat.beq c.length (PG.cellsOf e))with
    |false=>simp[hb]at h
    |true=>
     simp only[hb,aj]at h;cases hm:bE (fun cs=>avD n e (cD e cs)) xs with
     |none=>simp[hm]at h
     |some ys=>
      simp only[hm,cH,aN]at h;subst h;have hl:=cW hm;simp only[Rep]at r;obtain⟨a,cap,rfl,hcap,hr⟩:=r;have hz:∀(i:Nat) (c:List AV),xs[i]? = some c->c.length=PG.cellsOf e:=fun i c hc=>aR (bV.1 hb c (iH hc))
      have hr':∀i,∃row:List Value,i<xs.length->∃b off,a=some ⟨b,off,none⟩∧E b∧row.length=PG.cellsOf e∧(∀j u,row[j]? = some u->w.cell? ⟨b,off+i*PG.cellsOf e+j,none⟩=some u)∧∀c,xs[i]? = some c->RepL bA E w c row:=by
       intro i;by_cases hi:i<xs.length
       ·rcases hr with hr|⟨b,off,z,ha,hE,hr⟩
        ·rw[hr]at hi;simp at hi
        ·obtain⟨h1,h2⟩:=hr.get (cq hi);have hz':=hz i _ (cq hi);obtain rfl:z=PG.cellsOf e:=by rw[<- h1,hz']
         obtain⟨us,h3,h4⟩:=RepL.toAt h2;exact⟨us,fun _=>⟨b,off,ha,hE,by rw[<- h3.length,hz'],h4,fun c hc=>by rw[cq hi]at hc;cases hc;exact h3⟩⟩
       ·exact⟨[],fun h=>absurd h hi⟩
      show RepD PG E w T (.list ys) [.slice a xs.length cap]
      rw[hl];refine .slice (d:= .list ys) (fun i=>(hr' i).choose) hu (by show ys.length≤cap;omega) ?_ ?_
      all_goals show _
      all_goals simp only[D.toList]
      ·by_cases h0:ys = []
       ·exact .inl h0
       ·right
        rcases hr with hr|⟨b,off,z,ha,hE,hr⟩
        ·rw[hr]at hl;simp at hl;exact absurd (gh.1 hl.symm) h0
        ·refine⟨b,off,ha,hE,fun i hi=> ?_⟩
         obtain⟨b',off',ha',_,h1,h2,_⟩:=(hr' i).choose_spec (by omega)
         rw[ha]at ha';simp only[aN,nL,and_true]at ha';obtain⟨rfl,rfl⟩:=ha';exact⟨h1,h2⟩
      ·intro i x hx;have hi:i<ys.length:=(cU.1 hx).1;obtain⟨_,_,_,_,_,_,h3⟩:=(hr' i).choose_spec (by omega)
       obtain⟨c,hc,hcx⟩:=g8 hm hx;exact cT (h3 c hc) hcx fun v hv=>ih e _ x v _ hcx hv
   ·cases h;simp only[Rep]at r;subst r;exact .slice (d:= .list []) (fun _=>[]) hu (bj _) (.inl rfl) (fun i x hx=>by simp[D.toList]at hx)
   ·cases h
  ·rename_i fs hu;split at h
   ·rename_i T' d';cases hb:Nat.beq T' T with
    |false=>simp[hb]at h
    |true=>
     simp only[hb,aj,aN]at h;subst h;obtain rfl:=aR hb;simp only[Rep]at r;obtain⟨xs,rfl,_,hr⟩:=r;simpa[Value.cells]using hr
   ·rename_i cs;cases hb:Nat.beq cs.length (PG.cellsOf T)with
    |false=>simp[hb]at h
    |true=>
     simp only[hb,aj]at h;cases hm:bE (fun(f:Field)=>avD n f.type (cD f.type ((cs.drop f.offset).take (PG.cellsOf f.type)))) fs.toList with
     |none=>simp[hm]at h
     |some ys=>
      simp only[hm,cH,aN]at h;subst h;simp only[Rep]at r;obtain⟨us,rfl,hr⟩:=r;refine .struct hu (by simp only[Value.cells];rw[<- hr.length];exact aR hb) ?_
      intro j f hf;obtain⟨y,h1,h2⟩:=ig hm hf;have e1:ys.getD j .other=y:=by simp[List.getD,h1]
      rw[e1];exact cT ((hr.drop f.offset).take _) h2 fun v hv=>ih f.type _ y v _ h2 hv
   ·cases h
  ·rename_i m e hu;split at h
   ·rename_i T' d';cases hb:Nat.beq T' T with
    |false=>simp[hb]at h
    |true=>
     simp only[hb,aj,aN]at h;subst h;obtain rfl:=aR hb;simp only[Rep]at r;obtain⟨xs,rfl,_,hr⟩:=r;simpa[Value.cells]using hr
   ·rename_i cs;cases hb:Nat.beq cs.length (PG.cellsOf T)with
    |false=>simp[hb]at h
    |true=>
     simp only[hb,aj]at h;cases hm:bE (fun j=>avD n e (cD e ((cs.drop (j*PG.cellsOf e)).take (PG.cellsOf e)))) (List.range m)with
     |none=>simp[hm]at h
     |some ys=>
      simp only[hm,cH,aN]at h;subst h;simp only[Rep]at r;obtain⟨us,rfl,hr⟩:=r;refine .array hu (by simp only[Value.cells];rw[<- hr.length];exact aR hb) ?_
      intro j hj;obtain⟨y,h1,h2⟩:=ig hm (i:=j) (x:=j) (by simp[hj])
      have e1:ys.getD j .other=y:=by simp[List.getD,h1]
      rw[e1];exact cT ((hr.drop _).take _) h2 fun v hv=>ih e _ y v _ h2 hv
   ·cases h
  ·cases h
end
end Go.AM
