/-
  Code that only looks at the heap, joined again behind its branches: that it goes so.
-/
import Derived.Test.YtiojjmlccehpoaaGreatAmD
set_option linter.unusedSectionVars false
set_option linter.unusedSimpArgs false
set_option linter.unusedVariables false
namespace Go.AM
theorem oZ:aw=fun c a b:Bool=>bif c then a else b:=ai _
theorem ew:fC=fun(c:Bool) (a b:Int)=>bif c then a else b:=ai _
theorem TH:FT=fun(c:Bool) (a b:ByteArray)=>bif c then a else b:=ai _
theorem ww:NI=fun(c:Bool) (a b:D)=>bif c then a else b:=ai _
section
variable {ρ:Nat->Option Nat} {E:Nat->Prop} {w:World}
theorem TI {b:Bool} {x y:AV} {v:Value} (h:Rep ρ E w (bif b then x else y) v):Rep ρ E w (Dh b x y) v:=by
 unfold Dh;split
 all_goals first
  | (simp only[Rep];done)
  | (cases b<;>simp_all only[Rep,oZ,ew,TH,aj,aI];done)
  |skip
 ·rename_i p q;cases hpq:(p==q)with
  |true=>
   have:p=q:=by simpa using hpq
   subst this;cases b<;>simpa using h
  |false=>cases b<;>simp_all only[Rep,oZ,aj,aI]
 ·split
  ·rename_i hk;subst hk;cases b<;>simp_all only[Rep,ew,aj,aI]
  ·simp only[Rep]
 ·split
  ·rename_i hk;subst hk;cases b<;>simp_all only[Rep,ew,aj,aI]
  ·simp only[Rep]
 ·split
  ·rename_i hk;subst hk;cases b<;>simp_all only[Rep,ew,aj,aI]
  ·simp only[Rep]
 ·split
  ·rename_i hk;subst hk;split
   ·rename_i hn;subst hn;cases b<;>simpa using h
   ·cases b<;>simp_all only[Rep,ew,aj,aI]
  ·simp only[Rep]
 ·rename_i T d T' d';cases hb:Nat.beq T T' with
  |false=>simp only[aI,Rep]
  |true=>obtain rfl:=aR hb;cases b<;>simp_all only[Rep,ww,aj,aI]
 ·rename_i T d T' d';cases hb:Nat.beq T T' with
  |false=>simp only[aI,Rep]
  |true=>obtain rfl:=aR hb;cases b<;>simp_all only[Rep,ww,aj,aI]
 ·rename_i T d T' d';cases hb:Nat.beq T T' with
  |false=>simp only[aI,Rep]
  |true=>obtain rfl:=aR hb;cases b<;>simp_all only[Rep,ww,aj,aI]
 ·rename_i i o i' o';cases hb:(Nat.beq i i'&&Nat.beq o o')with
  |false=>simp only[aI,Rep]
  |true=>
   simp only[bn]at hb;obtain rfl:=aR hb.1;obtain rfl:=aR hb.2;cases b<;>simpa using h
end
theorem ma {ds:List Nat} {b:Bool}:∀{i:Nat} {ps xs ys:List AV},xs.length=ps.length->ys.length=ps.length->(jw ds b i ps xs ys).length=ps.length
 |_,[],[],[],_,_=>rfl
 |i,p::ps,x::xs,y::ys,h1,h2=>by simp only[jw,cn];rw[ma (by simpa using h1) (by simpa using h2)]
 |_,[],_::_,_,h,_=>by simp at h
 |_,[],[],_::_,_,h=>by simp at h
 |_,_::_,[],_,h,_=>by simp at h
 |_,_::_,_::_,[],_,h=>by simp at h
theorem wx {ds:List Nat} {b:Bool}:∀{i:Nat} {ps xs ys:List AV} {t:Nat} {z:AV},(jw ds b i ps xs ys)[t]? = some z->
 ∃p x y,ps[t]? = some p∧xs[t]? = some x∧ys[t]? = some y∧z=(bif ds.elem (i+t)then Dh b x y else p)
 |_,[],_,_,t,z,h=>by simp[jw]at h
 |_,_::_,[],_,t,z,h=>by simp[jw]at h
 |_,_::_,_::_,[],t,z,h=>by simp[jw]at h
 |i,p::ps,x::xs,y::ys,t,z,h=>by
  simp only[jw]at h;cases t with
  |zero=>simp at h;exact⟨p,x,y,rfl,rfl,rfl,by simpa using h.symm⟩
  |succ t=>
   simp only[sd]at h ⊢;obtain⟨p',x',y',h1,h2,h3,h4⟩:=wx h;exact⟨p',x',y',h1,h2,h3,by rw[h4,show i+1+t=i+(t+1)from by omega]⟩
theorem BB {ds:List Nat} {b:Bool} {ps xs ys:List AV} (h1:xs.length=ps.length) (h2:ys.length=ps.length) {t:Nat} (ht:ds.elem t=false):(jw ds b 0 ps xs ys)[t]? = ps[t]? :=by
 cases hz:(jw ds b 0 ps xs ys)[t]? with
 |none=>
  have:=List.getElem?_eq_none_iff.1 hz
  rw[ma h1 h2]at this;exact(List.getElem?_eq_none_iff.2 this).symm
 |some z=>
  obtain⟨p,x,y,hp,_,_,e⟩:=wx hz;rw[d9,ht,aI]at e;rw[e,hp]
theorem wy:∀{bs:List Bool},tP bs=true->aU bs=true
 | [],_=>rfl
 | [b],h=>by simp only[tP]at h;simp[aU,h]
 |b::c::bs,h=>by
  simp only[tP,iV,bn]at h;simp only[aU,h.1,aj];have:=wy (bs:=c::bs) h.2;simpa only[aU]using this
theorem Gu {b:Bool} {x y:List Bool} (h:aU (vV b x y)=true):aU (bif b then x else y)=true:=by
 unfold vV at h;split at h
 ·cases b<;>rfl
 ·have h':aw b (tP x) (tP y)=true:=bo h _ (by simp)
  rw[oZ]at h';cases b
  ·exact wy h'
  ·exact wy h'
theorem wz {xs ys:List Bool} (h:aU (xs++ys)=true):aU xs=true∧aU ys=true:=by
 induction xs with
 |nil=>exact⟨rfl,h⟩
 |cons b bs ih=>
  cases b with
  |true=>simpa only[lH,aU,aj]using ih (by simpa only[lH,aU,aj]using h)
  |false=>simp[aU]at h
theorem jz:∀{s:Nat} {os:List Oper} {c:List Oper×List Oper},g7 s os=some c->os=c.1++c.2
 |s,[],c,h=>by simp[g7]at h
 |s,o::os,c,h=>by
  simp only[g7]at h;cases hp:F3 s o.op with
  |true=>simp only[hp,aj,aN]at h;subst h;rfl
  |false=>
   simp only[hp,aI]at h;cases hs:g7 s os with
   |none=>simp[hs]at h
   |some q=>
    simp only[hs,cH,aN]at h;subst h;simp[jz hs]
theorem BC:∀(xs ys:List Oper),iS (xs++ys)=iS xs++iS ys
 | [],_=>rfl
 |o::os,ys=>by simp only[lH,iS,BC os ys,dH]
theorem gw {xs ys:List Nat} {t:Nat} (h:(xs++ys).elem t=false):xs.elem t=false∧ys.elem t=false:=by
 simp only[List.elem_eq_contains,List.contains_eq_mem,cV,decide_eq_false_iff_not,not_or]at h ⊢;exact h
section
variable {env:Env} {r:Rec} {H:Hp}
theorem QC {fr:Fr} {o:Oper} {os:List Oper} {v:AV} {t:Nat} (h:(iS (o::os)).elem t=false):(dB fr o.dst v)[t]? = fr[t]? :=by
 unfold dB;cases hd:o.dst with
 |none=>rfl
 |some d=>
  simp only[iS,hd]at h;have:=(gw h).1;have hne:d≠t:=by
   rintro rfl;simp at this
  exact vp hne
theorem Gv (fr:Fr) (d:Option Tmp) (v:AV):(dB fr d v).length=fr.length:=by cases d<;>simp[dB]
theorem qH {ops:Array Oper}:∀(n:Nat) (os:List Oper) (fr:Fr) (q:Fr×List Bool),gJ env r ops H n os fr=some q->q.1.length=fr.length∧∀t,(iS os).elem t=false->q.1[t]? = fr[t]? :=by
 intro n
 induction n with
 |zero=>intro os fr q h;simp[gJ]at h
 |succ n ih=>
  intro os fr q h;cases os with
  |nil=>simp only[gJ,aN]at h;subst h;exact⟨rfl,fun _ _=>rfl⟩
  |cons o os=>
   have hput:∀(v:AV) (q':Fr×List Bool),gJ env r ops H n os (dB fr o.dst v)=some q'->q'.1.length=fr.length∧∀t,(iS (o::os)).elem t=false->q'.1[t]? = fr[t]? :=by
    intro v q' h';obtain⟨h1,h2⟩:=ih _ _ _ h';refine⟨by rw[h1,Gv],fun t ht=> ?_⟩
    have ht':(iS os).elem t=false:=by simp only[iS]at ht;exact(gw ht).2
    rw[h2 t ht',QC ht]
   have hrun:((bS env r fr H o.type o.op).bind fun p=>(gJ env r ops H n os (dB fr o.dst p.1)).bind fun q=>some (q.1,obl env fr H o.op++q.2))=some q->q.1.length=fr.length∧∀t,(iS (o::os)).elem t=false->q.1[t]? = fr[t]? :=by
    intro h';obtain⟨p,_,h2⟩:=aT.1 h';obtain⟨q',h3,h4⟩:=aT.1 h2;cases h4;exact hput p.1 q' h3
   simp only[gJ]at h;split at h
   ·exact hrun h
   ·rename_i j want hg;split at h
    ·cases h
    ·rename_i s hs;split at h
     ·rename_i b hb;cases hbw:(b==want)with
      |true=>rw[hbw,aj]at h;exact hrun h
      |false=>rw[hbw,aI]at h;exact hput _ _ h
     ·exact hput _ _ h
     ·rename_i b hb;obtain⟨c,hc,h⟩:=aT.1 h;obtain⟨x,hx,h⟩:=aT.1 h;obtain⟨y,hy,h⟩:=aT.1 h;obtain⟨z,hz,h⟩:=aT.1 h;cases h;obtain⟨lx,kx⟩:=ih _ _ _ hx;obtain⟨ly,ky⟩:=ih _ _ _ hy;obtain⟨lz,kz⟩:=ih _ _ _ hz;rw[List.length_set]at lx ly;have e:=jz hc;refine⟨by rw[lz,ma lx ly],fun t ht=> ?_⟩
      rw[e,BC]at ht;obtain⟨h1,h2⟩:=gw ht;rw[kz t h2,BB lx ly h1]
     ·cases h
theorem iY {H H':Hp} {x:Option AV} {v:AV} (h:vA H x=some (v,H')):H'=H:=(cG h).2.symm▸rfl
theorem KE {fr:Fr} {H H':Hp} {ty:TypeId} {op:Op} {v:AV} (hc:cls env op≤1) (h:bS env r fr H ty op=some (v,H')):H'=H:=by
 cases op<;>simp only[cls]at hc<;>(try (exact absurd hc (by decide)))<;>simp only[bS]at h
 case move=>cases h;rfl
 case assign=>cases h;rfl
 case makeFunc f a b=>
  unfold mO at h;cases f<;>simp only at h<;>first|cases h
  rfl
 case call c=>
  unfold ju at h;cases hcal:c.callee with
  |value g=>
   simp only[hcal]at hc h;cases g<;>simp only at hc<;>first|(exact absurd hc (by decide))|skip
   rename_i f;cases hp:env.isPure f with
   |false=>simp[hp]at hc
   |true=>
    simp only[opd,vL,iM,hp,aj,gj,fQ]at h;cases ha:bE (ck H aA) (c.args.toList.map (opd fr))with
    |none=>simp[ha]at h
    |some args'=>
     simp only[ha,bc]at h;cases hcp:gr r H.fresh f args' with
     |none=>simp[hcp]at h
     |some p=>
      simp only[hcp,bc]at h;cases hfl:(List.all (c.args.toList.map (opd fr)) (df aA)||p.2)with
      |false=>simp only[hfl,aI]at h;cases h
      |true=>
       simp only[hfl,aj,aN,cO]at h;exact h.2.symm
  |invoke x m=>simp only[hcal]at hc;exact absurd hc (by decide)
  |builtin b=>
   simp only[hcal]at hc h;cases b<;>simp only at hc<;>first|(exact absurd hc (by decide))|skip
   ·simp only[dY,NP]at h;split at h
    ·exact iY h
    ·cases h
   ·simp only[dY,F1]at h;split at h
    ·exact iY h
    ·cases h
   ·simp only[dY,NR]at h;split at h
    ·exact iY h
    ·exact iY h
    ·cases h
   ·simp only[dY,NQ]at h;split at h
    ·exact iY h
    ·exact iY h
    ·cases h
 case convert S T x=>
  unfold qu at h;split at h
  ·cases h;rfl
  ·exact iY h
 case range T x=>cases hm:gH env.P T<;>rw[hm]at hc<;>exact absurd hc (by decide)
 all_goals exact iY h
theorem evOp_of {fr:Fr} {H:Hp} {ty:TypeId} {op:Op} {p:AV×Hp} (h1:aU (obl env fr H op)=true) (h2:bS env r fr H ty op=some p):eF env r fr H ty op=some p:=by
 unfold eF;rw[h1,aj];exact h2
variable [HasDef] {lo:Nat->Prop} {w0:World} {ρ0:Nat->Option Nat} {E0:Nat->Prop} {wE:World}
theorem mW {ρ:Nat->Option Nat} {E:Nat->Prop} {w:World} {ds:List Nat} {b:Bool} {fr x y:Fr} {a:Act} (lx:x.length=fr.length) (ly:y.length=fr.length)
 (hk:∀t p q,ds.elem t=false->fr[t]? = some p->(bif b then x else y)[t]? = some q->∀v,Rep ρ E w q v->Rep ρ E w p v) (h:FrRep ρ E w (bif b then x else y) a):FrRep ρ E w (jw ds b 0 fr x y) a:=by
 refine⟨?_,fun t z hz=> ?_,h.defers⟩
 ·rw[h.size,ma lx ly];cases b
  ·exact ly
  ·exact lx
 ·obtain⟨p,x',y',hp,hx,hy,rfl⟩:=wx hz;rw[d9];cases hd:ds.elem t with
  |true=>
   rw[aj];refine TI ?_
   cases b
   ·exact h.rep t y' hy
   ·exact h.rep t x' hx
  |false=>
   rw[aI];cases b
   ·exact hk t p y' hd hp hy _ (h.rep t y' hy)
   ·exact hk t p x' hd hp hx _ (h.rep t x' hx)
theorem Gw {fr:Fr} {s t:Nat} {b:Bool} (hb:fr.getD s .undef = .ub b) {x:Fr} (hx:x[t]? = (fr.set s (.sc (.bool b)))[t]?) {p q:AV} (hp:fr[t]? = some p) (hq:x[t]? = some q) {ρ:Nat->Option Nat} {E:Nat->Prop} {w:World} (v:Value) (h:Rep ρ E w q v):Rep ρ E w p v:=by
 rw[hx,hZ]at hq;by_cases hs:s=t
 ·subst hs;have hl:s<fr.length:=(cU.1 hp).1;simp only[hl,aX,aN]at hq;subst hq;have:p = .ub b:=by rw[List.getD,hp]at hb;simpa using hb
  subst this;simpa only[Rep]using h
 ·simp only[hs,aV]at hq;rw[hp]at hq;cases hq;exact h
theorem KF (hok:ed env) (hf:gS env r) (hr:cB env.P env.pre r) {ops:Array Oper} {Q:Exit->Act->World->Prop}:
 ∀(n:Nat) (os:List Oper) (fr:Fr) (q:Fr×List Bool),gJ env r ops H n os fr=some q->aU q.2=true->(∀o∈os,cls env o.op≤1)->∀ys:List Oper,
  (∀ρ E a w,St lo w0 ρ0 E0 wE ρ E H q.1 a w->wpList env.P ops Q ys a w)->∀ρ E a w,St lo w0 ρ0 E0 wE ρ E H fr a w->wpList env.P ops Q (os++ys) a w:=by
 intro n
 induction n with
 |zero=>intro os fr q h;simp[gJ]at h
 |succ n ih=>
  intro os fr q h hq hcl ys hys ρ E a w st;cases os with
  |nil=>simp only[gJ,aN]at h;subst h;exact hys ρ E a w st
  |cons o os=>
   have hcl':∀o∈os,cls env o.op≤1:=fun x hx=>hcl x (nh _ hx)
   have run:∀fr',FrRep ρ E w fr' a->∀q',((bS env r fr' H o.type o.op).bind fun p=>(gJ env r ops H n os (dB fr' o.dst p.1)).bind fun q=>some (q.1,obl env fr' H o.op++q.2))=some q'->aU q'.2=true->
    (∀ρ E a w,St lo w0 ρ0 E0 wE ρ E H q'.1 a w->wpList env.P ops Q ys a w)->o.wp env.P a w (wpList env.P ops Q (os++ys)) Q:=by
    intro fr' hfr' q' h' hq' hys';obtain⟨p,h1,h2⟩:=aT.1 h';obtain⟨q2,h3,h4⟩:=aT.1 h2;cases h4;obtain⟨o1,o2⟩:=wz hq';obtain⟨v,H'⟩:=p;have hH:=KE (hcl o li) h1;subst hH;refine l8 hok hf hr (evOp_of o1 h1) st.inv hfr' fun u ρ' E' w' inv' reach rv _=> ?_
    exact ih os _ q2 h3 o2 hcl' ys hys' ρ' E' _ w' ⟨inv',(hfr'.mono reach.ext).put rv o.dst,st.reach.trans reach⟩
   have skip:∀fr',FrRep ρ E w fr' a->∀q',gJ env r ops H n os (dB fr' o.dst uv)=some q'->aU q'.2=true->
    (∀ρ E a w,St lo w0 ρ0 E0 wE ρ E H q'.1 a w->wpList env.P ops Q ys a w)->wpList env.P ops Q (os++ys) (a.put o.dst undef) w:=by
    intro fr' hfr' q' h' hq' hys';exact ih os _ q' h' hq' hcl' ys hys' ρ E _ w ⟨st.inv,hfr'.put (by simp only[uv,Rep]) o.dst,st.reach⟩
   simp only[gJ]at h;split at h
   ·rename_i hg
    show wpList env.P ops Q (o::(os++ys)) a w
    unfold wpList;rw[if_pos (by simp[Region.wanted,hg])]
    exact .inl (run fr st.fr q h hq hys)
   ·rename_i j want hg;split at h
    ·cases h
    ·rename_i s hs;split at h
     ·rename_i b hb;have ht:a.tmps[s]? = some (.bool b):=st.fr.at hb
      have hw:=gX hg hs ht
      show wpList env.P ops Q (o::(os++ys)) a w
      unfold wpList;rw[hw];cases hbw:(b==want)with
      |true=>rw[hbw,aj]at h;rw[if_pos rfl];exact .inl (run fr st.fr q h hq hys)
      |false=>rw[hbw,aI]at h;rw[if_neg (by simp)];exact skip fr st.fr q h hq hys
     ·rename_i vs hb;have ht:=st.fr.at hb;have hw:=l9 hg hs ht
      show wpList env.P ops Q (o::(os++ys)) a w
      unfold wpList;rw[hw,if_neg (by simp)]
      exact skip fr st.fr q h hq hys
     ·rename_i b hb;obtain⟨c,hc,h⟩:=aT.1 h;obtain⟨x,hx,h⟩:=aT.1 h;obtain⟨y,hy,h⟩:=aT.1 h;obtain⟨z,hz,h⟩:=aT.1 h;cases h;obtain⟨o1,o2⟩:=wz hq;have o1':=Gu o1;obtain⟨lx,kx⟩:=qH _ _ _ _ hx;obtain⟨ly,ky⟩:=qH _ _ _ _ hy;rw[List.length_set]at lx ly;have e:=jz hc;have hb':Rep ρ E w (.sc (.bool b)) (a.tmps.getD s undef):=by
       have:=st.fr.getD s;rw[hb]at this;simpa only[Rep]using this
      have hset:FrRep ρ E w (fr.set s (.sc (.bool b))) a:=st.fr.setRep hb';have hc1:∀o∈c.1,cls env o.op≤1:=fun x hx=>hcl x (by rw[e];exact List.mem_append_left _ hx)
      have hc2:∀o∈c.2,cls env o.op≤1:=fun x hx=>hcl x (by rw[e];exact List.mem_append_right _ hx)
      rw[e,dH];cases b with
      |true=>
       refine ih c.1 _ x hx o1' hc1 (c.2++ys) (fun ρ1 E1 a1 w1 st1=> ?_) ρ E a w ⟨st.inv,hset,st.reach⟩
       refine ih c.2 _ z hz o2 hc2 ys hys ρ1 E1 a1 w1 ⟨st1.inv,?_,st1.reach⟩
       exact mW lx ly (fun t p q hd hp hq v hv=>Gw hb (kx t hd) hp hq v hv) st1.fr
      |false=>
       refine ih c.1 _ y hy o1' hc1 (c.2++ys) (fun ρ1 E1 a1 w1 st1=> ?_) ρ E a w ⟨st.inv,hset,st.reach⟩
       refine ih c.2 _ z hz o2 hc2 ys hys ρ1 E1 a1 w1 ⟨st1.inv,?_,st1.reach⟩
       exact mW lx ly (fun t p q hd hp hq v hv=>Gw hb (ky t hd) hp hq v hv) st1.fr
     ·cases h
theorem Gx {fuel:Nat}:∀(c:Code) (fr:Fr) (q:Fr×List Bool),evQ env r fuel H c fr=some q->q.1.length=fr.length∧∀t,(er c).elem t=false->q.1[t]? = fr[t]? :=by
 intro c
 induction c with
 |skip=>intro fr q h;simp only[evQ,aN]at h;subst h;exact⟨rfl,fun _ _=>rfl⟩
 |region i ops d=>intro fr q h;simp only[evQ]at h;exact qH _ _ _ _ h
 |seq a b iha ihb=>
  intro fr q h;simp only[evQ]at h;obtain⟨x,hx,h⟩:=aT.1 h;obtain⟨y,hy,h⟩:=aT.1 h;cases h;obtain⟨lx,kx⟩:=iha _ _ hx;obtain⟨ly,ky⟩:=ihb _ _ hy;refine⟨by rw[ly,lx],fun t ht=> ?_⟩
  simp only[er]at ht;obtain⟨h1,h2⟩:=gw ht;rw[ky t h2,kx t h1]
 |cond c a b iha ihb=>
  intro fr q h;simp only[evQ]at h;split at h
  ·rename_i t ht;cases t with
   |true=>
    rw[aj]at h;obtain⟨l,k⟩:=iha _ _ h;exact⟨l,fun u hu=>k u (gw (by simpa only[er]using hu)).1⟩
   |false=>
    rw[aI]at h;obtain⟨l,k⟩:=ihb _ _ h;exact⟨l,fun u hu=>k u (gw (by simpa only[er]using hu)).2⟩
  ·obtain⟨x,hx,h⟩:=aT.1 h;obtain⟨y,hy,h⟩:=aT.1 h;cases h;obtain⟨lx,kx⟩:=iha _ _ hx;obtain⟨ly,ky⟩:=ihb _ _ hy;exact⟨ma lx ly,fun u hu=>BB lx ly (by simpa only[er]using hu)⟩
  ·cases h
 |_=>intro fr q h;simp[evQ]at h
theorem QD (hok:ed env) (hf:gS env r) (hr:cB env.P env.pre r) {fuel:Nat}:∀(c:Code) (Q:Exit->Act->World->Prop) (fr:Fr) (q:Fr×List Bool),quiet env c=true->evQ env r fuel H c fr=some q->aU q.2=true->
 (∀ρ E a w,St lo w0 ρ0 E0 wE ρ E H q.1 a w->Q .normal a w)->∀ρ E a w,St lo w0 ρ0 E0 wE ρ E H fr a w->c.wp env.P Q a w:=by
 intro c
 induction c with
 |skip=>intro Q fr q _ h _ hk ρ E a w st;simp only[evQ,aN]at h;subst h;exact wp_skip (hk ρ E a w st)
 |region i ops d=>
  intro Q fr q hq h ho hk ρ E a w st;simp only[quiet,bn,lj]at hq;obtain⟨rfl,hq⟩:=hq;simp only[evQ]at h
  have hcl:∀o∈ops.toList,cls env o.op≤1:=fun o ho=>by
   have:=bV.1 hq o ho;simpa using this
  have:=KF hok hf hr (Q:=Q) fuel ops.toList fr q h ho hcl [] (fun ρ E a w st=>by simp only[wpList];exact hk ρ E a w st) ρ E a w st
  rw[fQ]at this;exact wp_region_list this
 |seq x y ihx ihy=>
  intro Q fr q hq h ho hk ρ E a w st;simp only[quiet,bn]at hq;simp only[evQ]at h;obtain⟨p,hp,h⟩:=aT.1 h;obtain⟨p',hp',h⟩:=aT.1 h;cases h;obtain⟨o1,o2⟩:=wz ho;exact wp_seq (ihx (Exit.then (y.wp env.P Q) Q) fr p hq.1 hp o1 (fun ρ1 E1 a1 w1 st1=>ihy Q p.1 p' hq.2 hp' o2 hk ρ1 E1 a1 w1 st1) ρ E a w st)
 |cond c x y ihx ihy=>
  intro Q fr q hq h ho hk ρ E a w st;simp only[quiet,bn]at hq;simp only[evQ]at h;split at h
  ·rename_i t ht;have hc:a.eval c = .bool t:=by
    have:=st.fr.opd c;rw[ht]at this;simpa only[Rep]using this
   cases t with
   |true=>simp only[aj]at h;exact wp_cond_true hc (ihx Q fr q hq.1 h ho hk ρ E a w st)
   |false=>simp only[aI]at h;exact wp_cond_false hc (ihy Q fr q hq.2 h ho hk ρ E a w st)
  ·rename_i t ht;have hc:a.eval c = .bool t:=by
    have:=st.fr.opd c;rw[ht]at this;simpa only[Rep]using this
   obtain⟨p,hp,h⟩:=aT.1 h;obtain⟨p',hp',h⟩:=aT.1 h;cases h;have o1':=Gu ho;obtain⟨lx,kx⟩:=Gx _ _ _ hp;obtain⟨ly,ky⟩:=Gx _ _ _ hp';cases t with
   |true=>
    refine wp_cond_true hc (ihx Q fr p hq.1 hp o1' (fun ρ1 E1 a1 w1 st1=>hk ρ1 E1 a1 w1 ⟨st1.inv,?_,st1.reach⟩) ρ E a w st)
    refine mW lx ly (fun t u v hd hu hv z hz=> ?_) st1.fr
    rw[aj,kx t (gw hd).1,hu]at hv;cases hv;exact hz
   |false=>
    refine wp_cond_false hc (ihy Q fr p' hq.2 hp' o1' (fun ρ1 E1 a1 w1 st1=>hk ρ1 E1 a1 w1 ⟨st1.inv,?_,st1.reach⟩) ρ E a w st)
    refine mW lx ly (fun t u v hd hu hv z hz=> ?_) st1.fr
    rw[aI,ky t (gw hd).2,hu]at hv;cases hv;exact hz
  ·cases h
 |_=>intro Q fr q hq;simp[quiet]at hq
end
end Go.AM
