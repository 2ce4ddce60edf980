/-
  Single operations: copy, maps.
-/
import Derived.Test.YtiojjmlccehpoaaGreatAm9c
set_option linter.unusedSimpArgs false
set_option linter.unusedVariables false
namespace Go.AM
section
variable {P:Program} {lo:Nat->Prop} {w0:World} {ρ:Nat->Option Nat} {E:Nat->Prop} {H:Hp} {w:World}
theorem ok_copy (inv:Inv lo w0 ρ E H w) {T T2 ty:TypeId} {d x v:AV} {du xu:Value} {H':Hp} (h:SQ P T d x H=some (v,H')) (rd:Rep ρ E w d du) (rx:Rep ρ E w x xu):
 OkH P lo w0 ρ E w (Builtin.copy_ #[T,T2] ty #[du,xu]) v H':=by
 unfold SQ at h;split at h
 case h_2=>cases h
 case h_1 e i z off len hu=>
  cases hs:sz P e with
  |none=>simp[hs]at h
  |some s=>
   cases hro:rowsOf s H x with
   |none=>simp[hs,hro]at h
   |some p=>
    obtain⟨src,n⟩:=p;cases hg:getB H i with
    |none=>simp[hs,hg]at h
    |some cs=>
     simp only[hs,hro,hg,bc]at h;split at h
     case isFalse=>cases h
     case isTrue hc=>
      obtain⟨hzs,hfit,hone,_⟩:=hc;subst hzs;obtain⟨s,rfl⟩:∃s,s=z:=⟨_,rfl⟩;simp only[aN,cO]at h;obtain⟨rfl,rfl⟩:=h;obtain⟨xa,xcap,vs,rfl,hlen,hrl,hcells⟩:=kI inv hro rx;simp only[Rep]at rd;obtain⟨b,cap,hρ,rfl,hcap,c0,T0,f0,hc0,hfit0⟩:=rd;obtain⟨c,T',hcell,hlc,hrc⟩:=inv.cells hg hρ;have hvl:vs.length=n*s:=by rw[<- hrl.length,hlen]
      have hmin:min n len*s≤n*s:=eQ _ (Nat.min_le_left _ _);have hvt:(vs.take (min n len*s)).length=min n len*s:=by simp;omega
      have hst:stN H (min n len*s) (.ptr i off) (src.take (min n len*s))=some (H.put i (some (.cells (setCells cs off (src.take (min n len*s)))))):=by
       simp only[stN,hg,bc];rw[if_pos ⟨by simp;omega,hfit,hone⟩]
      obtain⟨a,w',e',_,hrun,inv',ext⟩:=Dm (P:=P) inv hst (u:= .pointer (some ⟨b,off,none⟩)) (by simp only[Rep];exact⟨b,hρ,rfl⟩) (hrl.take (min n len*s))
      simp only[Value.pointer.injEq,aN]at e';subst e';refine⟨.int .i64 (min n len:Nat),w',ρ,?_,inv',ext,by simp only[Rep]⟩
      have hfirst:(Builtin.firstCells s (min n len) (.slice xa n xcap)).run P w = .ok (vs.take (min n len*s)).toArray w:=by
       rcases hcells with rfl|⟨xb,xoff,rfl,hcs⟩
       ·have hz:min n len*s=0:=by simp at hvl;omega
        cases xa with
        |none=>simp[Builtin.firstCells]
        |some xa=>simp[Builtin.firstCells,hz,loadCells,loadCellsFrom]
       ·have:=run_loadCells_list (P:=P) w ⟨xb,xoff,none⟩ (vs.take (min n len*s)) (fun j v hv=>by
         rw[Addr.add_none];rw[gO]at hv;split at hv
         ·exact hcs j v hv
         ·cases hv)
        rw[hvt]at this;simpa[Builtin.firstCells]using this
      have hm:Nat.min n len=min n len:=rfl;simp[Builtin.copy_,bp hu,Builtin.lenOf,cL hs,hm,hfirst,hrun,goInt]
theorem c8 {kd:TypeDesc} {v:Value} (h:gp kd v=true):(∃k n,kd = .int k∧v = .int k n)∨(∃s,kd = .string∧v = .string s)∨(∃b,kd = .bool∧v = .bool b):=by
 unfold gp at h;split at h
 ·rename_i k k' n;obtain rfl:k=k':=by simpa using h
  exact .inl ⟨_,_,rfl,rfl⟩
 ·exact .inr (.inl ⟨_,rfl,rfl⟩)
 ·exact .inr (.inr ⟨_,rfl,rfl⟩)
 ·cases h
theorem run_checkKey {kT:TypeId} {kd:TypeDesc} {v:Value} (em:Bool) (hu:P.underlying kT=some kd) (h:gp kd v=true) (w:World):(Instr.checkKey em 10000 kT v).run P w = .ok () w:=by
 have key:∀n,(Instr.checkKey em (n+1) kT v).run P w = .ok () w:=by
  intro n;rcases c8 h with⟨k,n,rfl,rfl⟩|⟨s,rfl,rfl⟩|⟨b,rfl,rfl⟩<;>simp[Instr.checkKey,bp hu]
 exact key 9999
theorem Gq {kd:TypeDesc} {a b:Value} (ha:gp kd a=true) (hb:gp kd b=true):Instr.sameNow kd a b=some (c6 a b):=by
 rcases c8 ha with⟨k,n,rfl,rfl⟩|⟨s,rfl,rfl⟩|⟨x,rfl,rfl⟩
 ·rcases c8 hb with⟨k',n',e,rfl⟩|⟨s,e,rfl⟩|⟨x,e,rfl⟩<;>cases e
  simp[Instr.sameNow,c6]
 ·rcases c8 hb with⟨k',n',e,rfl⟩|⟨s,e,rfl⟩|⟨x,e,rfl⟩<;>cases e
  simp[Instr.sameNow,c6]
 ·rcases c8 hb with⟨k',n',e,rfl⟩|⟨s,e,rfl⟩|⟨x,e,rfl⟩<;>cases e
  simp[Instr.sameNow,c6]
theorem ba_eq {a b:ByteArray} (h:(a==b)=true):a=b:=by
 have h':(a.data==b.data)=true:=h;cases a;cases b;simpa using h'
theorem ba_refl (a:ByteArray):(a==a)=true:=by
 show(a.data==a.data)=true
 simp
theorem Dq {kd:TypeDesc} {a b:Value} (ha:gp kd a=true) (hb:gp kd b=true) (h:c6 a b=true):Instr.sameBits 10000 b a=true:=by
 rcases c8 ha with⟨k,n,rfl,rfl⟩|⟨s,rfl,rfl⟩|⟨x,rfl,rfl⟩
 ·rcases c8 hb with⟨k',n',e,rfl⟩|⟨s,e,rfl⟩|⟨x,e,rfl⟩<;>cases e
  simp only[c6,gk]at h;subst h;simp[Instr.sameBits]
 ·rcases c8 hb with⟨k',n',e,rfl⟩|⟨s,e,rfl⟩|⟨x,e,rfl⟩<;>cases e
  simp only[c6]at h;obtain rfl:=ba_eq h;simp[Instr.sameBits,ba_refl]
 ·rcases c8 hb with⟨k',n',e,rfl⟩|⟨s,e,rfl⟩|⟨x,e,rfl⟩<;>cases e
  simp only[c6,gk]at h;subst h;simp[Instr.sameBits]
theorem sE {kd:TypeDesc} {k:Value} (hk:gp kd k=true):∀{xs:List (Value×AV)} {es:List MapEntry} (n:Nat),RepM ρ E w xs es->xs.all (fun e=>gp kd e.1)=true->
 (∃v,gq k xs=some v∧∃j u,Instr.findNow kd k es n=some (some (n+j,u))∧Rep ρ E w v u∧∃e,es[j]? = some e∧c6 k e.key=true∧gp kd e.key=true∧
  ∀v' u',Rep ρ E w v' u'->RepM ρ E w (jq k v' xs) (es.set j {e with key:=k,val:=u'}))∨
 (gq k xs=none∧Instr.findNow kd k es n=some none∧∀v' u' born,Rep ρ E w v' u'->RepM ρ E w (jq k v' xs) (es ++ [{key:=k,val:=u',born:=born}]))
 | [],es,n,h,_=>by
   simp only[RepM]at h;subst h;refine .inr ⟨rfl,rfl,fun v' u' born hr=> ?_⟩
   simp only[jq,gj,RepM];exact⟨_,[],rfl,rfl,hr,rfl⟩
 | (k',v0)::xs,es,n,h,hall=>by
   simp only[RepM]at h;obtain⟨e,es',rfl,hke,hv0,hr⟩:=h;simp only[nk,bn]at hall;obtain⟨hk',hall'⟩:=hall;subst hke;have hs:=Gq hk hk';cases hq:c6 k e.key with
   |true=>
    refine .inl ⟨v0,by simp[gq,hq],0,e.val,by simp[Instr.findNow,hs,hq],hv0,e,by simp,hq,hk',fun v' u' hr'=> ?_⟩
    simp only[jq,hq,aj,List.set_cons_zero,RepM];exact⟨_,es',rfl,rfl,hr',hr⟩
   |false=>
    rcases sE hk (n+1) hr hall' with⟨v,hf,j,u,hfn,hrv,e',he',hke',hkk',hset⟩|⟨hf,hfn,hset⟩
    ·refine .inl ⟨v,by simp[gq,hq,hf],j+1,u,by simp[Instr.findNow,hs,hq,hfn];omega,hrv,e',by simpa using he',hke',hkk',fun v' u' hr'=> ?_⟩
     simp only[jq,hq,aI,List.set_cons_succ,RepM];exact⟨e,_,rfl,rfl,hv0,hset v' u' hr'⟩
    ·refine .inr ⟨by simp[gq,hq,hf],by simp[Instr.findNow,hs,hq,hfn],fun v' u' born hr'=> ?_⟩
     simp only[jq,hq,aI,lH,RepM];exact⟨e,_,rfl,rfl,hv0,hset v' u' born hr'⟩
theorem c7 {kd:TypeDesc} {v:Value} (h:gG P kd v=true):∃m e k cs,kd = .array m e∧v = .agg cs∧P.underlying e=some (.int k)∧sz P e=some 1∧cs.size=m∧∀x∈cs.toList,∃n,x = .int k n:=by
 unfold gG at h;split at h
 ·rename_i m e cs;split at h
  ·rename_i k hu hz;simp only[bn,bV]at h;refine⟨m,e,k,cs,rfl,rfl,hu,hz,aR h.1,fun x hx=> ?_⟩
   have:=h.2 x hx;unfold Kh at this;split at this
   ·rename_i k' n;have hk:k=k':=by simpa using this
    exact⟨n,by rw[hk]⟩
   ·cases this
  ·cases h
 ·cases h
theorem NW {e:TypeId} {d:TypeDesc} (hu:P.underlying e=some d) (h:∀fs,d≠ .struct fs) (h':∀m t,d≠ .array m t):kt P e=some false:=by
 unfold kt;rw[hu];cases d<;>first|rfl|exact absurd rfl (h _)|exact absurd rfl (h' _ _)
theorem qz {kT:TypeId} {kd:TypeDesc} {v:Value} (em:Bool) (hu:P.underlying kT=some kd) (h:gG P kd v=true) (w:World):(Instr.checkKey em 10000 kT v).run P w = .ok () w:=by
 obtain⟨m,e,k,cs,rfl,rfl,he,hz,hs,hall⟩:=c7 h;have ha:kt P e=some false:=NW he (by intro fs hc;cases hc) (by intro m t hc;cases hc)
 have key:∀N,(∀q,(Instr.checkKey em N e (.int k q)).run P w = .ok () w)->(Instr.checkKey em (N+1) kT (.agg cs)).run P w = .ok () w:=by
  intro N hN;simp only[Instr.checkKey,dq,bp hu,dL];simp only[Std.Legacy.Range.forIn_eq_forIn_range',Std.Legacy.Range.size,Nat.sub_zero,Nat.add_sub_cancel,Nat.div_one, <- List.range_eq_range']
  have go:∀js:List Nat,(∀j∈js,j<m)->(forIn js PUnit.unit (fun i (_:PUnit)=>do
   let __do_lift <- sizeOf e
   let __do_lift <- part e cs (i*__do_lift)
   Instr.checkKey em N e __do_lift
   pure (ForInStep.yield PUnit.unit)):Sem PUnit).run P w = .ok PUnit.unit w:=by
   intro js
   induction js with
   |nil=>intro _;simp
   |cons j js ih=>
    intro hj;have hjm:j<cs.size:=by rw[hs];exact hj j li
    obtain⟨x,hx⟩:∃x,cs[j]? = some x:=⟨cs[j],by simp[hjm]⟩
    obtain⟨q,rfl⟩:=hall x (iH (by simpa using hx))
    have h1:=fX ha (cs:=cs) (off:=j*1) (u:= .int k q) (by simpa using hx) w
    rw[List.forIn_cons];simp only[dq,cL hz,dL,h1,hN,fT];exact ih fun j hj'=>hj j (nh _ hj')
  rw[go (List.range m) fun j hj=>iI.1 hj]
  simp only[dL,fT]
 have inner:∀N q,(Instr.checkKey em (N+1) e (.int k q)).run P w = .ok () w:=fun N q=>by simp[Instr.checkKey,bp he]
 exact key 9999 (inner 9998)
theorem oW {e:TypeId} {k:IntKind} (d:Nat) (he:P.underlying e=some (.int k)) {us vs:Array Value} (hu:∀x∈us.toList,∃n,x = .int k n) (hv:∀x∈vs.toList,∃n,x = .int k n) (hs:us.size=vs.size):∀(c i:Nat),i+c=us.size->
 (ga (d+1) e 1 us vs (List.range' i c)).run P w = .ok (kC (us.toList.drop i) (vs.toList.drop i)) w
 |0,i,hi=>by
  have h1:us.toList.drop i = []:=List.drop_eq_nil_of_le (by rw[cN];omega)
  have h2:vs.toList.drop i = []:=List.drop_eq_nil_of_le (by rw[cN];omega)
  rw[h1,h2];simp[ga,kC]
 |c+1,i,hi=>by
  have ha:kt P e=some false:=NW he (by intro fs hc;cases hc) (by intro m t hc;cases hc)
  have hil:i<us.size:=by omega
  have hil':i<vs.size:=by omega
  obtain⟨a,ea⟩:=hu us[i] (by simp)
  obtain⟨b,eb⟩:=hv vs[i] (by simp)
  have h1:=fX ha (cs:=us) (off:=i*1) (u:= .int k a) (by simp[hil,ea]) w
  have h2:=fX ha (cs:=vs) (off:=i*1) (u:= .int k b) (by simp[hil',eb]) w
  have h3:(Op.equalIn (d+1) e (.int k a) (.int k b)).run P w = .ok (a==b) w:=by simp[Op.equalIn,bp he]
  have d1:us.toList.drop i = .int k a::us.toList.drop (i+1):=by rw[lC (by simpa using hil)];congr 1
  have d2:vs.toList.drop i = .int k b::vs.toList.drop (i+1):=by rw[lC (by simpa using hil')];congr 1
  rw[List.range'_succ,d1,d2];simp only[ga,dq,h1,h2,h3,dL,kC];cases hab:(a==b)with
  |true=>simpa using oW d he hu hv hs c (i+1) (by omega)
  |false=>simp
theorem AI {kT:TypeId} {kd:TypeDesc} {a b:Value} (hu:P.underlying kT=some kd) (ha:gG P kd a=true) (hb:gG P kd b=true) (w:World):(Op.equal kT a b).run P w = .ok (c6 a b) w:=by
 obtain⟨m,e,k,cs,rfl,rfl,he,hz,hs,hall⟩:=c7 ha;obtain⟨m',e',k',cs',hkd,rfl,he',hz',hs',hall'⟩:=c7 hb;cases hkd;obtain rfl:k=k':=by rw[he]at he';cases he';rfl
 have h1:=run_equalIn_array (P:=P) (w:=w) 9999 kT e m 1 cs cs' hu hz;have h2:=oW (w:=w) 9998 he hall hall' (hs.trans hs'.symm) m 0 (by omega)
 rw[<- List.range_eq_range']at h2;simp only[lL]at h2;exact h1.trans h2
theorem Bw {k:IntKind}:∀{us vs:List Value},(∀x∈us,∃n,x = .int k n)->(∀x∈vs,∃n,x = .int k n)->kC us vs=true->us=vs
 | [],[],_,_,_=>rfl
 | [],_::_,_,_,h=>by simp[kC]at h
 |_::_,[],_,_,h=>by simp[kC]at h
 |x::us,y::vs,hu,hv,h=>by
  obtain⟨a,rfl⟩:=hu x li;obtain⟨b,rfl⟩:=hv y li;simp only[kC,bn,gk]at h;rw[h.1,Bw (fun x hx=>hu x (nh _ hx)) (fun x hx=>hv x (nh _ hx)) h.2]
theorem wi {α:Type} {p:α×α}:∀{l:List α},p∈l.zip l->p.1=p.2∧p.1∈l
 | [],h=>by simp at h
 |x::l,h=>by
  simp only[List.zip_cons_cons,cy]at h;rcases h with rfl|h
  ·exact⟨rfl,li⟩
  ·exact⟨(wi h).1,nh _ (wi h).2⟩
theorem gv {kd:TypeDesc} {a b:Value} (ha:dM P kd a=true) (hb:dM P kd b=true):(gp kd a=true∧gp kd b=true)∨(gG P kd a=true∧gG P kd b=true):=by
 simp only[dM,lI]at ha hb;rcases ha with ha|ha
 ·rcases hb with hb|hb
  ·exact .inl ⟨ha,hb⟩
  ·obtain⟨m,e,k,cs,rfl,_⟩:=c7 hb;rcases c8 ha with⟨_,_,e,_⟩|⟨_,e,_⟩|⟨_,e,_⟩<;>cases e
 ·rcases hb with hb|hb
  ·obtain⟨m,e,k,cs,rfl,_⟩:=c7 ha;rcases c8 hb with⟨_,_,e,_⟩|⟨_,e,_⟩|⟨_,e,_⟩<;>cases e
  ·exact .inr ⟨ha,hb⟩
theorem cr {kT:TypeId} {kd:TypeDesc} {v:Value} (em:Bool) (hu:P.underlying kT=some kd) (h:dM P kd v=true) (w:World):(Instr.checkKey em 10000 kT v).run P w = .ok () w:=by
 rcases gv h h with⟨h,_⟩|⟨h,_⟩
 ·exact run_checkKey em hu h w
 ·exact qz em hu h w
theorem Gr {kd:TypeDesc} {a b:Value} (ha:dM P kd a=true) (hb:dM P kd b=true) (h:c6 a b=true):Instr.sameBits 10000 b a=true:=by
 rcases gv ha hb with⟨ha,hb⟩|⟨ha,hb⟩
 ·exact Dq ha hb h
 ·obtain⟨m,e,k,cs,rfl,rfl,he,hz,hs,hall⟩:=c7 ha;obtain⟨m',e',k',cs',hkd,rfl,he',hz',hs',hall'⟩:=c7 hb;cases hkd;obtain rfl:k=k':=by rw[he]at he';cases he';rfl
  simp only[c6]at h;have hcs:cs=cs':=by
   have:=Bw hall hall' h;cases cs;cases cs';simpa using this
  subst hcs;have key:∀n,Instr.sameBits (n+1) (.agg cs) (.agg cs)=true:=by
   intro n;simp only[Instr.sameBits,beq_self_eq_true,lM,bV];intro p hp;obtain⟨e1,hx⟩:=wi hp;obtain⟨q,hq⟩:=hall _ hx;rw[<- e1,hq];simp[Instr.sameBits]
  exact key 9999
theorem l5 {kT:TypeId} {kd:TypeDesc} {k:Value} (hu:P.underlying kT=some kd) (hk:gG P kd k=true):∀{xs:List (Value×AV)} {es:List MapEntry} (n:Nat),RepM ρ E w xs es->xs.all (fun e=>dM P kd e.1)=true->
 (∃v,gq k xs=some v∧∃j u,(Instr.findAsking kT k es n).run P w = .ok (some (n+j,u)) w∧Rep ρ E w v u∧∃e,es[j]? = some e∧c6 k e.key=true∧dM P kd e.key=true∧
  ∀v' u',Rep ρ E w v' u'->RepM ρ E w (jq k v' xs) (es.set j {e with key:=k,val:=u'}))∨
 (gq k xs=none∧(Instr.findAsking kT k es n).run P w = .ok none w∧∀v' u' born,Rep ρ E w v' u'->RepM ρ E w (jq k v' xs) (es ++ [{key:=k,val:=u',born:=born}]))
 | [],es,n,h,_=>by
   simp only[RepM]at h;subst h;refine .inr ⟨rfl,by simp[Instr.findAsking],fun v' u' born hr=> ?_⟩
   simp only[jq,gj,RepM];exact⟨_,[],rfl,rfl,hr,rfl⟩
 | (k',v0)::xs,es,n,h,hall=>by
   simp only[RepM]at h;obtain⟨e,es',rfl,hke,hv0,hr⟩:=h;simp only[nk,bn]at hall;obtain⟨hk',hall'⟩:=hall;subst hke;have hk2:gG P kd e.key=true:=by
    rcases gv (by simp only[dM,hk,Bool.or_true]:dM P kd k=true) hk' with⟨h1,_⟩|⟨_,h2⟩
    ·obtain⟨m,e,k,cs,rfl,_⟩:=c7 hk;rcases c8 h1 with⟨_,_,e,_⟩|⟨_,e,_⟩|⟨_,e,_⟩<;>cases e
    ·exact h2
   have hs:=AI hu hk hk2 w;cases hq:c6 k e.key with
   |true=>
    rw[hq]at hs;refine .inl ⟨v0,by simp[gq,hq],0,e.val,by simp[Instr.findAsking,hs],hv0,e,by simp,hq,hk',fun v' u' hr'=> ?_⟩
    simp only[jq,hq,aj,List.set_cons_zero,RepM];exact⟨_,es',rfl,rfl,hr',hr⟩
   |false=>
    rw[hq]at hs;rcases l5 hu hk (n+1) hr hall' with⟨v,hf,j,u,hfn,hrv,e',he',hke',hkk',hset⟩|⟨hf,hfn,hset⟩
    ·refine .inl ⟨v,by simp[gq,hq,hf],j+1,u,by simp[Instr.findAsking,hs,hfn];omega,hrv,e',by simpa using he',hke',hkk',fun v' u' hr'=> ?_⟩
     simp only[jq,hq,aI,List.set_cons_succ,RepM];exact⟨e,_,rfl,rfl,hv0,hset v' u' hr'⟩
    ·refine .inr ⟨by simp[gq,hq,hf],by simp[Instr.findAsking,hs,hfn],fun v' u' born hr'=> ?_⟩
     simp only[jq,hq,aI,lH,RepM];exact⟨e,_,rfl,rfl,hv0,hset v' u' born hr'⟩
theorem iW {kT:TypeId} {kd:TypeDesc} {k:Value} (hu:P.underlying kT=some kd) (hk:dM P kd k=true) {xs:List (Value×AV)} {es:List MapEntry} (hr:RepM ρ E w xs es) (hall:xs.all (fun e=>dM P kd e.1)=true):
 (∃v,gq k xs=some v∧∃j u,(Instr.findKey kT k es).run P w = .ok (some (j,u)) w∧Rep ρ E w v u∧∃e,es[j]? = some e∧c6 k e.key=true∧dM P kd e.key=true∧
  ∀v' u',Rep ρ E w v' u'->RepM ρ E w (jq k v' xs) (es.set j {e with key:=k,val:=u'}))∨
 (gq k xs=none∧(Instr.findKey kT k es).run P w = .ok none w∧∀v' u' born,Rep ρ E w v' u'->RepM ρ E w (jq k v' xs) (es ++ [{key:=k,val:=u',born:=born}])):=by
 rcases gv hk hk with⟨h,_⟩|⟨h,_⟩
 ·have hall':xs.all (fun e=>gp kd e.1)=true:=by
   rw[bV]at hall ⊢;intro x hx;rcases gv hk (hall x hx)with⟨_,h2⟩|⟨h1,_⟩
   ·exact h2
   ·obtain⟨m,e,k,cs,rfl,_⟩:=c7 h1;rcases c8 h with⟨_,_,e,_⟩|⟨_,e,_⟩|⟨_,e,_⟩<;>cases e
  rcases sE h 0 hr hall' with⟨v1,hf,j,u1,hfn,hrv,e,he,hke,hkk,hst⟩|⟨hf,hfn,hst⟩
  ·exact .inl ⟨v1,hf,j,u1,by simp[Instr.findKey,bp hu,hfn],hrv,e,he,hke,by simp only[dM,hkk,lN],hst⟩
  ·exact .inr ⟨hf,by simp[Instr.findKey,bp hu,hfn],hst⟩
 ·have hfk:(Instr.findKey kT k es).run P w=(Instr.findAsking kT k es 0).run P w:=by
   obtain⟨m,e,k',cs,rfl,rfl,_⟩:=c7 h;cases es with
   |nil=>simp[Instr.findKey,bp hu,Instr.findNow,Instr.findAsking]
   |cons x es=>simp[Instr.findKey,bp hu,Instr.findNow,Instr.sameNow]
  rw[hfk];have:=l5 hu h 0 hr hall;simpa only[d9]using this
theorem wj:∀{cs:List AV} {vs us:List Value},vH cs=some vs->RepL ρ E w cs us->us=vs
 | [],vs,us,h,r=>by simp only[vH,aN]at h;simp only[RepL]at r;rw[<- h,r]
 |c::cs,vs,us,h,r=>by
  cases c<;>simp only[vH]at h<;>try (cases h;done)
  rename_i v;simp only[RepL]at r;obtain⟨u,us',rfl,h1,h2⟩:=r;obtain⟨vs',hv,rfl⟩:=dj.1 h;simp only[Rep]at h1;rw[h1,wj hv h2]
theorem Gs {x:AV} {k u:Value} (h:keyV x=some k) (r:Rep ρ E w x u):u=k:=by
 unfold keyV at h;split at h
 ·cases h;simpa only[Rep]using r
 ·obtain⟨vs,hv,rfl⟩:=dj.1 h;simp only[Rep]at r;obtain⟨xs,rfl,hr⟩:=r;have:=wj hv hr;rw[<- this]
 ·cases h
theorem AJ (inv:Inv lo w0 ρ E H w) {x:AV} {u:Value} {xs:List (Value×AV)} (h:entriesOf H x=some xs) (r:Rep ρ E w x u):
 ∃m arr,u = .map m∧RepM ρ E w xs arr.toList∧(match m with|none=>arr = #[]|some b=>∃clk,w.heap[b]? = some (.map arr clk)):=by
 unfold entriesOf at h;split at h
 ·simp only[Rep]at r;obtain⟨b,hb,rfl⟩:=r;obtain⟨arr,clk,hm,hr,_⟩:=inv.mapAt h hb;exact⟨some b,arr,rfl,hr,clk,hm⟩
 ·unfold FZ at h;split at h
  ·cases h;simp only[Rep]at r;obtain⟨b,arr,clk,rfl,_,hm,hr,_⟩:=r;exact⟨some b,arr,rfl,RepM.mono Ext.up _ _ hr,clk,hm⟩
  ·cases h;simp only[Rep]at r;subst r;exact⟨none, #[],rfl,by simp[RepM],rfl⟩
  ·cases h
theorem Ku (inv:Inv lo w0 ρ E H w) {T:TypeId} {ok:Bool} {x k v:AV} {u ku:Value} (h:eZ P T ok x k H=some v) (r:Rep ρ E w x u) (rk:Rep ρ E w k ku):
 OkP P ρ E w (Instr.lookup T u ku ok) v:=by
 unfold eZ at h;split at h
 case h_2=>cases h
 case h_1 kT eT kv hu hkv=>
  obtain rfl:=Gs hkv rk;cases hkd:P.underlying kT with
  |none=>simp[hkd]at h
  |some kd=>
   cases he:entriesOf H x with
   |none=>simp[hkd,he]at h
   |some xs=>
    simp only[hkd,he,bc]at h;split at h
    case isFalse=>cases h
    case isTrue hc=>
     obtain⟨hkey,hall⟩:=hc;cases hz:ek P eT with
     |none=>simp[hz]at h
     |some z=>
      simp only[hz,bc]at h;obtain⟨_,zv,_,_,hrun,hrep⟩:=dn hz;obtain⟨m,arr,rfl,hrm,hm⟩:=AJ inv he r;rcases iW hkd hkey hrm hall with⟨v1,hf,j,u1,hfn,hrv,_⟩|⟨hf,hfn,_⟩
      ·simp only[hf,aN]at h;subst h;refine⟨if ok then .tuple #[u1, .bool true]else u1,?_,?_⟩
       ·cases m with
        |none=>
         simp only at hm;subst hm;have hfn:=hfn;simp only[Array.toList_empty]at hfn;simp[Instr.lookup,bp hu,cr _ hkd hkey,hfn]
        |some b=>obtain⟨clk,hb⟩:=hm;simp[Instr.lookup,bp hu,run_getObj_map hb,cr _ hkd hkey,hfn]
       ·cases ok
        ·simpa using hrv
        ·simp only[aj,aX,Rep];exact⟨_,rfl,RepL.cons hrv (RepL.cons (by simp only[Rep]) RepL.nil)⟩
      ·simp only[hf,aN]at h;subst h;refine⟨if ok then .tuple #[zv, .bool false]else zv,?_,?_⟩
       ·cases m with
        |none=>
         simp only at hm;subst hm;have hfn:=hfn;simp only[Array.toList_empty]at hfn;simp[Instr.lookup,bp hu,cr _ hkd hkey,hfn,hrun]
        |some b=>obtain⟨clk,hb⟩:=hm;simp[Instr.lookup,bp hu,run_getObj_map hb,cr _ hkd hkey,hfn,hrun]
       ·cases ok
        ·simpa using hrep ρ E w
        ·simp only[aj,aX,Rep];exact⟨_,rfl,RepL.cons (hrep ρ E w) (RepL.cons (by simp only[Rep]) RepL.nil)⟩
theorem NX (inv:Inv lo w0 ρ E H w) {T kT eT:TypeId} {kd:TypeDesc} {i b:Nat} {kb k':Blk} {xs:List (Value×AV)} {v:AV} {ku vu:Value} (hu:P.underlying T=some (.map kT eT)) (hkd:P.underlying kT=some kd)
 (hk:H.get i=some kb) (hb:ρ i=some b) (hv:∀ρ' E' w',BlkRep ρ' E' w' kb b->BlkRep ρ' E' w' (.map xs) b) (hkey:dM P kd ku=true) (hall:xs.all (fun e=>dM P kd e.1)=true) (rv:Rep ρ E w v vu)
 (hto:∀ρ' E' w',BlkRep ρ' E' w' (.map (jq ku v xs)) b->BlkRep ρ' E' w' k' b):
 ∃w',(Instr.mapUpdate T (.map (some b)) ku vu).run P w = .ok () w'∧Inv lo w0 ρ E (H.put i (some k')) w'∧Ext ρ E w ρ E w':=by
 obtain⟨arr,clk,hm,hrm,hbo⟩:=hv _ _ _ (inv.blk i kb b hk hb);have hlt:b<w.heap.size:=(inv.bd i b hb).2;have hset:∀o,(setObj b o).run P w = .ok () {w with heap:=w.heap.setIfInBounds b o}:=fun o=>by simp[setObj,Sem.run,hm]
 have hchange:∀(arr':Array MapEntry) (clk':Nat),(∀ρ' E' w',Ext ρ E w ρ' E' w'->RepM ρ' E' w' (jq ku v xs) arr'.toList)->F4 arr' clk'->
  Inv lo w0 ρ E (H.put i (some k')) {w with heap:=w.heap.setIfInBounds b (.map arr' clk')}∧Ext ρ E w ρ E {w with heap:=w.heap.setIfInBounds b (.map arr' clk')}:=by
  intro arr' clk' hr' hbo';have hnew:({w with heap:=w.heap.setIfInBounds b (.map arr' clk')}:World).heap[b]? = some (.map arr' clk'):=by simp[hlt]
  exact inv.change i b kb k' hk hb (fun j hj=>by simp[C5 (Ne.symm hj)]) (by simp) (fun c T f hcc=>by rw[hm]at hcc;cases hcc)
   (fun ext=>hto _ _ _ ⟨arr',clk',hnew,hr' _ _ _ ext,hbo'⟩)
 rcases iW hkd hkey hrm hall with⟨v1,hf,j,u1,hfn,_,e,he,hke,hkk,hst⟩|⟨hf,hfn,hst⟩
 ·have he':arr[j]? = some e:=by simpa using he
  obtain⟨inv',ext⟩:=hchange (arr.modify j fun e=>{e with key:=ku,val:=vu}) clk (fun ρ' E' w' ext=>by
   have:=(hst v vu rv).mono ext;have e1:(arr.modify j fun e=>{e with key:=ku,val:=vu}).toList=arr.toList.set j {e with key:=ku,val:=vu}:=by
    apply gi;intro q;rw[ql,Array.getElem?_modify,hZ]
    by_cases hq:j=q
    ·subst hq;obtain⟨hjl,hje⟩:=lf.1 he';simp[hjl,hje]
    ·simp[hq]
   rw[e1];exact this) ⟨fun x hx=>by
    obtain⟨q,hq⟩:=List.mem_iff_getElem?.1 hx
    rw[ql,Array.getElem?_modify]at hq
    by_cases hjq:j=q
    ·subst hjq;rw[if_pos rfl,he']at hq;cases hq;exact hbo.1 e (iH he)
    ·rw[if_neg hjq]at hq;exact hbo.1 x (iH (by rw[ql];exact hq)),by
    have e2:(arr.modify j fun e=>{e with key:=ku,val:=vu}).toList.map (·.born)=arr.toList.map (·.born):=by
     apply gi;intro q;rw[ia,ia,ql,ql,Array.getElem?_modify]
     by_cases hq:j=q
     ·subst hq;rw[if_pos rfl,he'];rfl
     ·rw[if_neg hq]
    rw[e2];exact hbo.2⟩
  refine⟨_,?_,inv',ext⟩
  have hsb:=Gr hkey hkk hke;simp[Instr.mapUpdate,bp hu,run_getObj_map hm,cr _ hkd hkey,hfn,Instr.keyThatStays,he',hsb,hset]
 ·obtain⟨inv',ext⟩:=hchange (arr.push {key:=ku,val:=vu,born:=clk}) (clk+1) (fun ρ' E' w' ext=>by
   have:=(hst v vu clk rv).mono ext
   simpa using this) ⟨fun x hx=>by
    rw[Array.toList_push,cV]at hx;rcases hx with hx|hx
    ·have:=hbo.1 x hx;omega
    ·simp only[List.mem_singleton]at hx;subst hx;exact Nat.lt_succ_self _,by
    rw[Array.toList_push,ll];refine List.nodup_append.2 ⟨hbo.2,by simp,fun x hx y hy e=> ?_⟩
    simp only[bW,jH,List.mem_singleton]at hy;obtain⟨z,hz,rfl⟩:=ic.1 hx;have:=hbo.1 z hz
    omega⟩
  refine⟨_,?_,inv',ext⟩
  simp[Instr.mapUpdate,bp hu,run_getObj_map hm,cr _ hkd hkey,hfn,hset]
theorem AK (inv:Inv lo w0 ρ E H w) {T:TypeId} {x k v:AV} {u ku vu:Value} {H':Hp} (h:kD P T x k v H=some H') (r:Rep ρ E w x u) (rk:Rep ρ E w k ku) (rv:Rep ρ E w v vu):
 ∃w',(Instr.mapUpdate T u ku vu).run P w = .ok () w'∧Inv lo w0 ρ E H' w'∧Ext ρ E w ρ E w':=by
 unfold kD at h;split at h
 case h_2=>cases h
 case h_1 kT eT kv i hu hkv=>
  obtain rfl:=Gs hkv rk;cases hkd:P.underlying kT with
  |none=>simp[hkd]at h
  |some kd=>
   cases hg:getM H i with
   |none=>simp[hkd,hg]at h
   |some xs=>
    simp only[hkd,hg,bc]at h;split at h
    case isFalse=>cases h
    case isTrue hc=>
     obtain⟨hkey,hall⟩:=hc;cases h;simp only[Rep]at r;obtain⟨b,hb,rfl⟩:=r;exact NX inv hu hkd (oO hg) hb (fun _ _ _ r=>r) hkey hall rv (fun _ _ _ r=>r)
theorem Tr {ρ':Nat->Option Nat} {T:TypeId} {d:D} {v:Value} (h:Rep ρ E w (jK T d) v):Rep ρ' E w (jK T d) v:=by
 unfold jK at h ⊢;split at h<;>simp only[Rep]at h ⊢ <;>exact h
theorem By {ρ':Nat->Option Nat} {kT vT:TypeId} {d:D} {es:List MapEntry} (h:RepM ρ E w (gR kT vT d) es):RepM ρ' E w (gR kT vT d) es:=by
 unfold gR at h ⊢;generalize d.toList=xs at *
 induction xs generalizing es with
 |nil=>simpa only[jH,RepM]using h
 |cons x xs ih=>
  simp only[bW,RepM]at h ⊢;obtain⟨e,es',he,hk,h1,h2⟩:=h;exact⟨e,es',he,hk,Tr h1,ih h2⟩
theorem ip {T:TypeId} {x:AV} {d:D} {v:Value} (h:Dc T x=some d) (r:Rep ρ E w x v):Rep ρ E w (jK T d) v:=by
 have h0:(bif layOk PG rowDepth T&&fE PG rowDepth T then avD dm T x else none)=some d∧∀xs,x≠ .esl xs:=by
  unfold Dc at h;split at h
  ·cases h
  ·rename_i hx;exact⟨h,hx⟩
 obtain⟨h1,hne⟩:=h0;cases hc:(layOk PG rowDepth T&&fE PG rowDepth T)with
 |false=>simp[hc]at h1
 |true=>
  rw[hc,aj]at h1;rw[bn]at hc;obtain⟨hl,hp⟩:=hc;have hagg:∀cs,x = .agg cs->Rep ρ E w (.dat T d) v:=by
   rintro cs rfl;have hd:=fa dm T _ d v ρ h1 r;simp only[Rep]at r ⊢;obtain⟨us,rfl,_⟩:=r;exact⟨us,rfl,hl,by simpa[Value.cells]using hd⟩
  unfold jK;unfold rowDepth fE at hp;unfold dm avD at h1;split at h1
  ·rename_i k hk;split at h1
   ·split at h1
    ·rename_i hkk;subst hkk;cases h1;rw[iU];exact r
    ·cases h1
   ·split at h1
    ·rename_i hkk;subst hkk;cases h1;rw[iU];simp only[Rep]at r ⊢;exact r
    ·cases h1
   ·cases h1
  ·rename_i hk;split at h1
   ·cases h1;rw[jP];exact r
   ·cases h1;rw[jP];simp only[Rep]at r ⊢;exact r
   ·cases h1
  ·rename_i hk;split at h1
   ·cases h1;rw[mP];exact r
   ·cases h1;rw[mP];simp only[Rep]at r ⊢;exact r
   ·cases h1
  ·rename_i e hk;split at h1
   ·rename_i T' d';cases hb:Nat.beq T' e with
    |false=>simp[hb]at h1
    |true=>
     obtain rfl:=aR hb;simp only[hb,aj,aN]at h1;subst h1;exact r
   ·rename_i xs;exact absurd rfl (hne xs)
   ·cases h1;simp only[Rep]at r ⊢;subst r;exact⟨none,0,rfl,bj _, .inl rfl⟩
   ·cases h1
  ·rename_i fs hk;split at h1
   ·rename_i T' d';cases hb:Nat.beq T' T with
    |false=>simp[hb]at h1
    |true=>
     obtain rfl:=aR hb;simp only[hb,aj,aN]at h1;subst h1;exact r
   ·exact hagg _ rfl
   ·cases h1
  ·rename_i m e hk;split at h1
   ·rename_i T' d';cases hb:Nat.beq T' T with
    |false=>simp[hb]at h1
    |true=>
     obtain rfl:=aR hb;simp only[hb,aj,aN]at h1;subst h1;exact r
   ·exact hagg _ rfl
   ·cases h1
  ·cases h1
theorem key_arr {kT e:TypeId} {m:Nat} {k:IntKind} {d:D} {u:Value} (hk:PG.underlying kT=some (.array m e)) (he:PG.underlying e=some (.int k)) (h1:PG.cellsOf e=1) (r:RepDat PG E w kT d u):
 u = .agg ((List.range m).map fun j=>Value.int k (d.fld j).toInt).toArray:=by
 obtain⟨xs,rfl,hl,hr⟩:=r
 congr 1
 have hsz:PG.cellsOf kT=m:=by
  unfold rowDepth layOk at hl;rw[hk]at hl;simp only[bn]at hl;have:=aR hl.2;rw[h1,Nat.mul_one]at this;exact this.symm
 generalize hcs:xs.toList=cs at hr;have key:cs=(List.range m).map fun j=>Value.int k (d.fld j).toInt:=by
  cases hr with
  |int h=>rw[hk]at h;cases h
  |bool h=>rw[hk]at h;cases h
  |str h=>rw[hk]at h;cases h
  |slice row h=>rw[hk]at h;cases h
  |struct h=>rw[hk]at h;cases h
  |other h=>simp[dg,hk]at h
  |array h hlen hd=>
   rw[hk]at h;cases h;rename_i ds;apply gi;intro j;by_cases hj:j<m
   ·have h2:=hd j hj;rw[h1,Nat.mul_one]at h2;have hjl:j<cs.length:=by omega
    have h3:(cs.drop j).take 1 = [cs[j]]:=by rw[lC hjl];rfl
    rw[h3]at h2;have h4:∃n,ds.getD j .other = .int n∧cs[j] = .int k n:=by
     generalize ds.getD j .other=y at h2;generalize cs[j]=z at h2;cases h2 with
     |int h=>rw[he]at h;cases h;exact⟨_,rfl,rfl⟩
     |slice row h=>rw[he]at h;cases h
     |bool h=>rw[he]at h;cases h
     |str h=>rw[he]at h;cases h
     |struct h=>rw[he]at h;cases h
     |array h=>rw[he]at h;cases h
     |other h=>simp[dg,he]at h
    obtain⟨n,h5,h6⟩:=h4;rw[cq hjl,h6,ia,List.getElem?_range hj]
    simp only[cH,D.fld,h5,D.toInt]
   ·rw[iG (by omega),iG (by simp;omega)]
 apply Array.toList_inj.1;rw[hcs,key]
theorem Dr {kT:TypeId} {d:D} {u:Value} (hk:oF P kT=true) (r:Rep ρ E w (jK kT d) u):u=kvD kT d:=by
 unfold oF at hk;split at hk
 ·rename_i k k' h1 h2;unfold jK at r;unfold kvD;rw[h2]at r ⊢;simp only[Rep]at r ⊢;rw[r,iU]
 ·rename_i h1 h2;unfold jK at r;unfold kvD;rw[h2]at r ⊢;simp only[Rep]at r ⊢;rw[r,mP]
 ·rename_i h1 h2;unfold jK at r;unfold kvD;rw[h2]at r ⊢;simp only[Rep]at r ⊢;rw[r,jP]
 ·rename_i m e m' e' h1 h2;simp only[bn]at hk;obtain⟨hm,hk⟩:=hk;split at hk
  ·rename_i k k' hp hq hs;simp only[bn]at hk;unfold jK at r;unfold kvD;rw[h2]at r ⊢;simp only[Rep]at r;simp only[hq];exact key_arr h2 hq (aR hk.2) r
  ·cases hk
 ·cases hk
theorem key_ok {kT:TypeId} {kd:TypeDesc} (hk:oF P kT=true) (hu:P.underlying kT=some kd) (d:D):dM P kd (kvD kT d)=true:=by
 unfold oF at hk;split at hk
 ·rename_i k k' h1 h2;rw[hu]at h1;cases h1;unfold kvD;rw[h2];simp only[dM,gp,hk,lN]
 ·rename_i h1 h2;rw[hu]at h1;cases h1;unfold kvD;rw[h2];simp only[dM,gp,lN]
 ·rename_i h1 h2;rw[hu]at h1;cases h1;unfold kvD;rw[h2];simp only[dM,gp,lN]
 ·rename_i m e m' e' h1 h2;rw[hu]at h1;cases h1;simp only[bn]at hk;obtain⟨hm,hk⟩:=hk;split at hk
  ·rename_i k k' hp hq hs;simp only[bn,gk]at hk;obtain rfl:=hk.1;obtain rfl:=aR hm;unfold kvD;rw[h2];simp only[hq];have:gG P (.array m e) (.agg ((List.range m).map fun j=>Value.int k (d.fld j).toInt).toArray)=true:=by
    simp[gG,hp,hs,Kh]
   simp only[dM,this,Bool.or_true]
  ·cases hk
 ·cases hk
theorem wk {kT vT:TypeId} {kd:TypeDesc} (hk:oF P kT=true) (hu:P.underlying kT=some kd) (d:D):(gR kT vT d).all (fun e=>dM P kd e.1)=true:=by
 unfold gR;rw[bV];intro x hx;obtain⟨y,_,rfl⟩:=ic.1 hx;exact key_ok hk hu _
theorem wl {kT vT:TypeId} (k:D):∀xs:List D,gq (kvD kT k) (xs.map fun x=>(kvD kT (x.fld 0),jK vT (x.fld 1)))=(nl kT k xs).map (jK vT)
 | []=>rfl
 |x::xs=>by
  have ih:=wl (kT:=kT) (vT:=vT) k xs;unfold nl at ih ⊢;simp only[bW,gq,ni];cases h:c6 (kvD kT k) (kvD kT (x.fld 0))with
  |true=>simp
  |false=>simpa using ih
theorem Bz {kT vT:TypeId} (k v:D):∀xs:List D,jq (kvD kT k) (jK vT v) (xs.map fun x=>(kvD kT (x.fld 0),jK vT (x.fld 1)))=(AB kT k v xs).map fun x=>(kvD kT (x.fld 0),jK vT (x.fld 1))
 | []=>rfl
 |x::xs=>by
  have ih:=Bz (kT:=kT) (vT:=vT) k v xs;simp only[bW,jq,AB];cases h:c6 (kvD kT k) (kvD kT (x.fld 0))with
  |true=>rfl
  |false=>simp only[aI,bW,ih]
theorem Ts {kT:TypeId} {v:Value} {d:D} (h:NN kT v=some d):kvD kT d=v:=by
 unfold NN at h;unfold kvD;split at h
 ·rename_i k k' n hk;rw[hk];cases hb:k==k' with
  |false=>simp[hb]at h
  |true=>
   rw[hb]at h;cases h;simp only[gk]at hb;subst hb;rfl
 ·rename_i s hk;rw[hk];cases h;rfl
 ·rename_i b hk;rw[hk];cases h;rfl
 ·cases h
theorem nY {kT vT:TypeId}:∀{es:List (Value×AV)} {ds:List D},bE (fun e=>(NN kT e.1).bind fun k=>(Dc vT e.2).map fun v=>D.agg [k,v]) es=some ds->∀{ρ':Nat->Option Nat} {E':Nat->Prop} {w':World} {ms:List MapEntry},RepM ρ' E' w' es ms->RepM ρ' E' w' (ds.map fun x=>(kvD kT (x.fld 0),jK vT (x.fld 1))) ms
 | [],ds,h,_,_,_,ms,r=>by
   simp only[bE,aN]at h;subst h;simpa only[jH,RepM]using r
 | (k,v)::es,ds,h,_,_,_,ms,r=>by
   simp only[bE]at h;obtain⟨y,hy,h⟩:=aT.1 h;obtain⟨ys,hys,h⟩:=aT.1 h;cases h;obtain⟨kd,hkd,hy⟩:=aT.1 hy;obtain⟨vd,hvd,rfl⟩:=dj.1 hy;simp only[RepM]at r;obtain⟨e,es',rfl,hk,h1,h2⟩:=r;simp only[bW,RepM];exact⟨e,es',rfl,by rw[hk];exact(Ts hkd).symm,ip hvd h1,nY hys h2⟩
theorem wm {i:Nat} {kT vT:TypeId} {d:D} (h:Ki H i kT vT=some d):∃kb,H.get i=some kb∧∀ρ' E' w' b,BlkRep ρ' E' w' kb b->BlkRep ρ' E' w' (.map (gR kT vT d)) b:=by
 unfold Ki at h;split at h
 ·rename_i k v d' hg;cases hb:(Nat.beq k kT&&Nat.beq v vT)with
  |false=>simp[hb]at h
  |true=>
   simp only[hb,aj,aN]at h;subst h;rw[bn]at hb;obtain rfl:=aR hb.1;obtain rfl:=aR hb.2;exact⟨_,hg,fun _ _ _ _ r=>r⟩
 ·rename_i es hg;unfold vI at h;obtain⟨ds,hd,rfl⟩:=dj.1 h;refine⟨_,hg,fun _ _ _ _ r=> ?_⟩
  obtain⟨arr,clk,hc,hr,hbo⟩:=r;exact⟨arr,clk,hc,nY hd hr,hbo⟩
 ·cases h
theorem Kv (inv:Inv lo w0 ρ E H w) {T:TypeId} {ok:Bool} {x k v:AV} {u ku:Value} (h:iK P T ok x k H=some v) (r:Rep ρ E w x u) (rk:Rep ρ E w k ku):
 OkP P ρ E w (Instr.lookup T u ku ok) v:=by
 unfold iK at h;split at h
 case h_3=>cases h
 case h_2 kT eT hu=>
  cases hkt:oF P kT with
  |false=>simp[hkt]at h
  |true=>
   rw[hkt,aj]at h;obtain⟨kd',hkd',h⟩:=aT.1 h;obtain⟨z,hz,h⟩:=aT.1 h;cases h;obtain⟨kd,hkd⟩:∃kd,P.underlying kT=some kd:=by
    unfold oF at hkt;cases hx:P.underlying kT with
    |none=>simp[hx]at hkt
    |some kd=>exact⟨kd,rfl⟩
   obtain⟨_,zv,_,_,hrun,hrep⟩:=dn hz;obtain rfl:=Dr hkt (ip hkd' rk);have hkey:=key_ok hkt hkd kd';simp only[Rep]at r;subst r;have hrm:RepM ρ E w (gR kT eT (.list [])) []:=by simp[gR,RepM,D.toList]
   have hfn:Sem.run P (Instr.findKey kT (kvD kT kd') []) w = .ok none w:=by
    rcases iW hkd hkey hrm (wk hkt hkd (.list []))with⟨v1,hf,_⟩|⟨_,hfn,_⟩
    ·simp[gR,D.toList,gq]at hf
    ·exact hfn
   refine⟨if ok then .tuple #[zv, .bool false]else zv,?_,?_⟩
   ·simp[Instr.lookup,bp hu,cr _ hkd hkey,hrun,hfn]
   ·cases ok
    ·simpa using hrep ρ E w
    ·simp only[aj,aX,Rep];exact⟨_,rfl,RepL.cons (hrep ρ E w) (RepL.cons (by simp only[Rep]) RepL.nil)⟩
 case h_1 kT eT i hu=>
  obtain⟨d,hd,h⟩:=aT.1 h;cases hkt:oF P kT with
  |false=>simp[hkt]at h
  |true=>
   rw[hkt,aj]at h;obtain⟨kd',hkd',h⟩:=aT.1 h;obtain⟨z,hz,h⟩:=aT.1 h;obtain⟨zd,hzd,h⟩:=aT.1 h;cases h;obtain⟨kd,hkd⟩:∃kd,P.underlying kT=some kd:=by
    unfold oF at hkt;cases hx:P.underlying kT with
    |none=>simp[hx]at hkt
    |some kd=>exact⟨kd,rfl⟩
   obtain⟨_,zv,_,_,hrun,hrep⟩:=dn hz;obtain rfl:=Dr hkt (ip hkd' rk);have hkey:=key_ok hkt hkd kd';obtain⟨kb,hg,hmap⟩:=wm hd;simp only[Rep]at r;obtain⟨b,hb,rfl⟩:=r;obtain⟨arr,clk,hm,hrm,_⟩:=hmap _ _ _ _ (inv.blk i kb b hg hb);have hfe:=wl (kT:=kT) (vT:=eT) kd' d.toList;rcases iW hkd hkey hrm (wk hkt hkd d)with⟨v1,hf,j,u1,hfn,hrv,_⟩|⟨hf,hfn,_⟩
   ·unfold gR at hf;rw[hfe]at hf;obtain⟨dv,hdv,rfl⟩:=dj.1 hf;have e1:lr kT zd d kd'=dv:=by unfold lr;rw[ai];unfold vJ;rw[hdv];rfl
    have e2:sw kT d kd'=true:=by unfold sw;rw[ai];unfold F0;rw[hdv];rfl
    rw[e1,e2];refine⟨if ok then .tuple #[u1, .bool true]else u1,?_,?_⟩
    ·simp[Instr.lookup,bp hu,run_getObj_map hm,cr _ hkd hkey,hfn]
    ·cases ok
     ·simpa using hrv
     ·simp only[aj,aX,Rep];exact⟨_,rfl,RepL.cons hrv (RepL.cons (by simp only[Rep]) RepL.nil)⟩
   ·unfold gR at hf;rw[hfe]at hf;have hdv:nl kT kd' d.toList=none:=by
     cases hx:nl kT kd' d.toList with
     |none=>rfl
     |some y=>rw[hx]at hf;cases hf
    have e1:lr kT zd d kd'=zd:=by unfold lr;rw[ai];unfold vJ;rw[hdv];rfl
    have e2:sw kT d kd'=false:=by unfold sw;rw[ai];unfold F0;rw[hdv];rfl
    rw[e1,e2];refine⟨if ok then .tuple #[zv, .bool false]else zv,?_,?_⟩
    ·simp[Instr.lookup,bp hu,run_getObj_map hm,cr _ hkd hkey,hfn,hrun]
    ·cases ok
     ·simpa using ip hzd (hrep ρ E w)
     ·simp only[aj,aX,Rep];exact⟨_,rfl,RepL.cons (ip hzd (hrep ρ E w)) (RepL.cons (by simp only[Rep]) RepL.nil)⟩
theorem Qx (inv:Inv lo w0 ρ E H w) {T:TypeId} {ok:Bool} {x k v:AV} {u ku:Value} (h:kE P T ok x k H=some v) (r:Rep ρ E w x u) (rk:Rep ρ E w k ku):
 OkP P ρ E w (Instr.lookup T u ku ok) v:=by
 unfold kE at h;cases hc:eZ P T ok x k H with
 |some v'=>
  rw[hc]at h;simp only[gm,aN]at h;subst h;exact Ku inv hc r rk
 |none=>
  rw[hc]at h;simp only[gm]at h;exact Kv inv h r rk
theorem AL (inv:Inv lo w0 ρ E H w) {T:TypeId} {x k v:AV} {u ku vu:Value} {H':Hp} (h:nP P T x k v H=some H') (r:Rep ρ E w x u) (rk:Rep ρ E w k ku) (rv:Rep ρ E w v vu):
 ∃w',(Instr.mapUpdate T u ku vu).run P w = .ok () w'∧Inv lo w0 ρ E H' w'∧Ext ρ E w ρ E w':=by
 unfold nP at h;split at h
 case h_2=>cases h
 case h_1 kT eT i hu=>
  obtain⟨d,hd,h⟩:=aT.1 h;cases hkt:oF P kT with
  |false=>simp[hkt]at h
  |true=>
   rw[hkt,aj]at h;obtain⟨kd',hkd',h⟩:=aT.1 h;obtain⟨vd,hvd,h⟩:=aT.1 h;cases h;obtain⟨kd,hkd⟩:∃kd,P.underlying kT=some kd:=by
    unfold oF at hkt;cases hx:P.underlying kT with
    |none=>simp[hx]at hkt
    |some kd=>exact⟨kd,rfl⟩
   obtain rfl:=Dr hkt (ip hkd' rk);obtain⟨kb,hg,hmap⟩:=wm hd;simp only[Rep]at r;obtain⟨b,hb,rfl⟩:=r;refine NX inv hu hkd hg hb (fun ρ' E' w' r=>hmap ρ' E' w' b r) (key_ok hkt hkd kd') (wk hkt hkd d) (ip hvd rv) (fun ρ' E' w' r=> ?_)
   have e:jq (kvD kT kd') (jK eT vd) (gR kT eT d)=gR kT eT (dN kT d kd' vd):=by
    unfold gR dN;rw[ai];exact Bz kd' vd d.toList
   rw[e]at r;exact r
theorem Ds (inv:Inv lo w0 ρ E H w) {T:TypeId} {x k v:AV} {u ku vu:Value} {H':Hp} (h:nQ P T x k v H=some H') (r:Rep ρ E w x u) (rk:Rep ρ E w k ku) (rv:Rep ρ E w v vu):
 ∃w',(Instr.mapUpdate T u ku vu).run P w = .ok () w'∧Inv lo w0 ρ E H' w'∧Ext ρ E w ρ E w':=by
 unfold nQ at h;cases hc:kD P T x k v H with
 |some v'=>
  rw[hc]at h;simp only[aN]at h;subst h;exact AK inv hc r rk rv
 |none=>
  rw[hc]at h;simp only at h;exact AL inv h r rk rv
theorem wn:∀{cs:List AV} {ns:List Int} {vs:List Value},qs cs=some ns->RepL ρ E w cs vs->vs=ns.map (Value.int .u8)
 | [],ns,vs,h,r=>by
   simp only[qs,aN]at h;simp only[RepL]at r;subst h r;rfl
 |c::cs,ns,vs,h,r=>by
  unfold qs at h;split at h
  ·rename_i e;cases e
  ·rename_i n rr e;cases e;obtain⟨ms,hm,rfl⟩:=dj.1 h;simp only[RepL]at r;obtain⟨v,vs',rfl,h1,h2⟩:=r;simp only[Rep]at h1;subst h1;rw[wn hm h2];rfl
  ·cases h
theorem nZ:∀{l:List AV} {ds:List D} {vs:List Value},qt l=some ds->RepL ρ E w l vs->vs=ds.map fun d=> .int .u8 d.toInt
 | [],ds,vs,h,r=>by
   simp only[qt,aN]at h;subst h;simp only[RepL]at r;exact r
 |x::l,ds,vs,h,r=>by
  simp only[RepL]at r;obtain⟨v,vs',rfl,h1,h2⟩:=r;unfold qt at h;split at h
  ·rename_i e;cases e
  ·rename_i n rr e;cases e;obtain⟨ms,hm,rfl⟩:=dj.1 h;simp only[Rep]at h1;subst h1;rw[nZ hm h2];rfl
  ·rename_i n rr e;cases e;obtain⟨ms,hm,rfl⟩:=dj.1 h;simp only[Rep]at h1;subst h1;rw[nZ hm h2];rfl
  ·cases h
theorem Qy (ds:List D):D.text (.list ds)=(ds.map D.toInt).foldl (fun r n=>r.push (UInt8.ofNat n.toNat)) ByteArray.empty:=by
 unfold D.text;rw[List.foldl_map]
 rfl
theorem Tt (inv:Inv lo w0 ρ E H w) {s d:TypeId} {x v:AV} {u:Value} (h:sv P H s d x=some v) (r:Rep ρ E w x u):OkP P ρ E w (convert s d u) v:=by
 unfold sv at h;split at h
 ·rename_i e e1 e2;split at h
  ·rename_i i z off len he;obtain⟨p,hp,h⟩:=aT.1 h;obtain⟨cs,n⟩:=p;obtain⟨a,cap,vs,rfl,hlen,hrl,hcells⟩:=kI inv hp r;obtain⟨ns,hvs,hv⟩:∃ns:List Int,vs=ns.map (Value.int .u8)∧Rep ρ E w v (.string (ns.foldl (fun r n=>r.push (UInt8.ofNat n.toNat)) ByteArray.empty)):=by
    cases hc:qs cs with
    |some ns=>
     simp only[hc,cH,gm,aN]at h;subst h;exact⟨ns,wn hc hrl,by simp only[Rep]⟩
    |none=>
     simp only[hc,Option.map_none,gm]at h;obtain⟨ds,hd,rfl⟩:=dj.1 h;refine⟨ds.map D.toInt,?_,?_⟩
     ·rw[nZ hd hrl,List.map_map];rfl
     ·simp only[Rep];rw[F9,Qy]
   subst hvs;have hnl:ns.length=n:=by have:=hrl.length;simp only[gP]at this;omega
   refine⟨.string (ns.foldl (fun r n=>r.push (UInt8.ofNat n.toNat)) ByteArray.empty),?_,hv⟩
   rw[run_convert_bytes_string w s d e a _ cap e1 he e2];cases a with
   |none=>
    have hl:ns = []:=by
     rcases hcells with h|⟨_,_,h,_⟩
     ·simpa using h
     ·cases h
    subst hl;simp at hnl;subst hnl;simp[Conv.bytesToString]
   |some a=>
    have hcell:∀(j:Nat) (m:Int),ns[j]? = some m->w.cell? (a.add j)=some (.int .u8 m):=by
     intro j m hj;rcases hcells with h|⟨b,off,ha,hb⟩
     ·have:ns = []:=by simpa using h
      rw[this]at hj;simp at hj
     ·cases ha;have:=hb j (.int .u8 m) (by rw[ia,hj];rfl)
      unfold Addr.add;by_cases h0:j=0
      ·rw[if_pos h0];subst h0;exact this
      ·rw[if_neg h0];exact this
    have hl:=run_loadCells_list (P:=P) (w:=w) a (ns.map (Value.int .u8)) (fun j v hj=>by
     rw[ia]at hj;cases hd':ns[j]? with
     |none=>rw[hd']at hj;cases hj
     |some m=>
      rw[hd']at hj;simp only[cH,aN]at hj
      rw[hcell j m hd',hj])
    simp only[gP]at hl;rw[hnl]at hl;rw[run_bytesToString w a n cap _ hl]
  ·cases h
 ·cases h
theorem Tu (inv:Inv lo w0 ρ E H w) {s d:TypeId} {x v:AV} {u:Value} (h:oE P H s d x=some v) (r:Rep ρ E w x u):OkP P ρ E w (convert s d u) v:=by
 unfold oE at h;cases hc:Bk P s d x with
 |some v'=>
  rw[hc]at h;simp only[gm,aN]at h;subst h;exact Ko hc r
 |none=>
  rw[hc]at h;simp only[gm]at h;exact Tt inv h r
end
end Go.AM
