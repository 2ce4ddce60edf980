/-
  Single operations: copy, maps.
-/
import Derived.Test.YtiojjmlccehpoaaGreatAm9c
set_option linter.unusedSimpArgs false
set_option linter.unusedVariables false
namespace Go.AM
section
variable {P:Program} {lo:Nat->Prop} {w0:World} {ρ:Nat->Option Nat} {E:Nat->Prop} {H:Hp} {w:World}
theorem ok_copy (inv:Inv lo w0 ρ E H w) {T T2 ty:TypeId} {d x v:AV} {du xu:Value} {H':Hp} (h:Vh P T d x H=some (v,H')) (rd:Rep ρ E w d du) (rx:Rep ρ E w x xu):
 OkH P lo w0 ρ E w (Builtin.copy_ #[T,T2] ty #[du,xu]) v H':=by
 unfold Vh at h;split at h
 case h_2=>cases h
 case h_1 e i z off len hu=>
  cases hs:sz P e with
  |none=>simp[hs]at h
  |some s=>
   cases hro:rowsOf s H x with
   |none=>simp[hs,hro]at h
   |some p=>
    obtain⟨src,n⟩:=p;cases hg:getB H i with
    |none=>simp[hs,hg]at h
    |some cs=>
     simp only[hs,hro,hg,bo]at h;split at h
     case isFalse=>cases h
     case isTrue hc=>
      obtain⟨hzs,hfit,hone,_⟩:=hc;subst hzs;obtain⟨s,rfl⟩:∃s,s=z:=⟨_,rfl⟩;simp only[aQ,cS]at h;obtain⟨rfl,rfl⟩:=h;obtain⟨xa,xcap,vs,rfl,hlen,hrl,hcells⟩:=ld inv hro rx;simp only[Rep]at rd;obtain⟨b,cap,hρ,rfl,hcap,c0,T0,f0,hc0,hfit0⟩:=rd;obtain⟨c,T',hcell,hlc,hrc⟩:=inv.cells hg hρ;have hvl:vs.length=n*s:=by rw[<- hrl.length,hlen]
      have hmin:min n len*s≤n*s:=eX _ (Nat.min_le_left _ _);have hvt:(vs.take (min n len*s)).length=min n len*s:=by simp;omega
      have hst:stN H (min n len*s) (.ptr i off) (src.take (min n len*s))=some (H.put i (some (.cells (setCells cs off (src.take (min n len*s)))))):=by
       simp only[stN,hg,bo];rw[if_pos ⟨by simp;omega,hfit,hone⟩]
      obtain⟨a,w',e',_,hrun,inv',ext⟩:=Eh (P:=P) inv hst (u:= .pointer (some ⟨b,off,none⟩)) (by simp only[Rep];exact⟨b,hρ,rfl⟩) (hrl.take (min n len*s))
      simp only[Value.pointer.injEq,aQ]at e';subst e';refine⟨.int .i64 (min n len:Nat),w',ρ,?_,inv',ext,by simp only[Rep]⟩
      have hfirst:(Builtin.firstCells s (min n len) (.slice xa n xcap)).run P w = .ok (vs.take (min n len*s)).toArray w:=by
       rcases hcells with rfl|⟨xb,xoff,rfl,hcs⟩
       ·have hz:min n len*s=0:=by simp at hvl;omega
        cases xa with
        |none=>simp[Builtin.firstCells]
        |some xa=>simp[Builtin.firstCells,hz,loadCells,loadCellsFrom]
       ·have:=run_loadCells_list (P:=P) w ⟨xb,xoff,none⟩ (vs.take (min n len*s)) (fun j v hv=>by
         rw[Addr.add_none];rw[gW]at hv;split at hv
         ·exact hcs j v hv
         ·cases hv)
        rw[hvt]at this;simpa[Builtin.firstCells]using this
      have hm:Nat.min n len=min n len:=rfl;simp[Builtin.copy_,bz hu,Builtin.lenOf,cL hs,hm,hfirst,hrun,goInt]
theorem de {kd:TypeDesc} {v:Value} (h:gz kd v=true):(∃k n,kd = .int k∧v = .int k n)∨(∃s,kd = .string∧v = .string s)∨(∃b,kd = .bool∧v = .bool b):=by
 unfold gz at h;split at h
 ·rename_i k k' n;obtain rfl:k=k':=by simpa using h
  exact .inl ⟨_,_,rfl,rfl⟩
 ·exact .inr (.inl ⟨_,rfl,rfl⟩)
 ·exact .inr (.inr ⟨_,rfl,rfl⟩)
 ·cases h
theorem run_checkKey {kT:TypeId} {kd:TypeDesc} {v:Value} (em:Bool) (hu:P.underlying kT=some kd) (h:gz kd v=true) (w:World):(Instr.checkKey em 10000 kT v).run P w = .ok () w:=by
 have key:∀n,(Instr.checkKey em (n+1) kT v).run P w = .ok () w:=by
  intro n;rcases de h with⟨k,n,rfl,rfl⟩|⟨s,rfl,rfl⟩|⟨b,rfl,rfl⟩<;>simp[Instr.checkKey,bz hu]
 exact key 9999
theorem Hy {kd:TypeDesc} {a b:Value} (ha:gz kd a=true) (hb:gz kd b=true):Instr.sameNow kd a b=some (dc a b):=by
 rcases de ha with⟨k,n,rfl,rfl⟩|⟨s,rfl,rfl⟩|⟨x,rfl,rfl⟩
 ·rcases de hb with⟨k',n',e,rfl⟩|⟨s,e,rfl⟩|⟨x,e,rfl⟩<;>cases e
  simp[Instr.sameNow,dc]
 ·rcases de hb with⟨k',n',e,rfl⟩|⟨s,e,rfl⟩|⟨x,e,rfl⟩<;>cases e
  simp[Instr.sameNow,dc]
 ·rcases de hb with⟨k',n',e,rfl⟩|⟨s,e,rfl⟩|⟨x,e,rfl⟩<;>cases e
  simp[Instr.sameNow,dc]
theorem ba_eq {a b:ByteArray} (h:(a==b)=true):a=b:=by
 have h':(a.data==b.data)=true:=h;cases a;cases b;simpa using h'
theorem ba_refl (a:ByteArray):(a==a)=true:=by
 show(a.data==a.data)=true
 simp
theorem El {kd:TypeDesc} {a b:Value} (ha:gz kd a=true) (hb:gz kd b=true) (h:dc a b=true):Instr.sameBits 10000 b a=true:=by
 rcases de ha with⟨k,n,rfl,rfl⟩|⟨s,rfl,rfl⟩|⟨x,rfl,rfl⟩
 ·rcases de hb with⟨k',n',e,rfl⟩|⟨s,e,rfl⟩|⟨x,e,rfl⟩<;>cases e
  simp only[dc,fZ]at h;subst h;simp[Instr.sameBits]
 ·rcases de hb with⟨k',n',e,rfl⟩|⟨s,e,rfl⟩|⟨x,e,rfl⟩<;>cases e
  simp only[dc]at h;obtain rfl:=ba_eq h;simp[Instr.sameBits,ba_refl]
 ·rcases de hb with⟨k',n',e,rfl⟩|⟨s,e,rfl⟩|⟨x,e,rfl⟩<;>cases e
  simp only[dc,fZ]at h;subst h;simp[Instr.sameBits]
theorem tn {kd:TypeDesc} {k:Value} (hk:gz kd k=true):∀{xs:List (Value×AV)} {es:List MapEntry} (n:Nat),RepM ρ E w xs es->xs.all (fun e=>gz kd e.1)=true->
 (∃v,gA k xs=some v∧∃j u,Instr.findNow kd k es n=some (some (n+j,u))∧Rep ρ E w v u∧∃e,es[j]? = some e∧dc k e.key=true∧gz kd e.key=true∧
  ∀v' u',Rep ρ E w v' u'->RepM ρ E w (jH k v' xs) (es.set j {e with key:=k,val:=u'}))∨
 (gA k xs=none∧Instr.findNow kd k es n=some none∧∀v' u' born,Rep ρ E w v' u'->RepM ρ E w (jH k v' xs) (es ++ [{key:=k,val:=u',born:=born}]))
 | [],es,n,h,_=>by
   simp only[RepM]at h;subst h;refine .inr ⟨rfl,rfl,fun v' u' born hr=> ?_⟩
   simp only[jH,dY,RepM];exact⟨_,[],rfl,rfl,hr,rfl⟩
 | (k',v0)::xs,es,n,h,hall=>by
   simp only[RepM]at h;obtain⟨e,es',rfl,hke,hv0,hr⟩:=h;simp only[nE,bu]at hall;obtain⟨hk',hall'⟩:=hall;subst hke;have hs:=Hy hk hk';cases hq:dc k e.key with
   |true=>
    refine .inl ⟨v0,by simp[gA,hq],0,e.val,by simp[Instr.findNow,hs,hq],hv0,e,by simp,hq,hk',fun v' u' hr'=> ?_⟩
    simp only[jH,hq,ap,List.set_cons_zero,RepM];exact⟨_,es',rfl,rfl,hr',hr⟩
   |false=>
    rcases tn hk (n+1) hr hall' with⟨v,hf,j,u,hfn,hrv,e',he',hke',hkk',hset⟩|⟨hf,hfn,hset⟩
    ·refine .inl ⟨v,by simp[gA,hq,hf],j+1,u,by simp[Instr.findNow,hs,hq,hfn];omega,hrv,e',by simpa using he',hke',hkk',fun v' u' hr'=> ?_⟩
     simp only[jH,hq,aJ,List.set_cons_succ,RepM];exact⟨e,_,rfl,rfl,hv0,hset v' u' hr'⟩
    ·refine .inr ⟨by simp[gA,hq,hf],by simp[Instr.findNow,hs,hq,hfn],fun v' u' born hr'=> ?_⟩
     simp only[jH,hq,aJ,fV,RepM];exact⟨e,_,rfl,rfl,hv0,hset v' u' born hr'⟩
theorem dd {kd:TypeDesc} {v:Value} (h:gO P kd v=true):∃m e k cs,kd = .array m e∧v = .agg cs∧P.underlying e=some (.int k)∧sz P e=some 1∧cs.size=m∧∀x∈cs.toList,∃n,x = .int k n:=by
 unfold gO at h;split at h
 ·rename_i m e cs;split at h
  ·rename_i k hu hz;simp only[bu,bX]at h;refine⟨m,e,k,cs,rfl,rfl,hu,hz,aV h.1,fun x hx=> ?_⟩
   have:=h.2 x hx;unfold LJ at this;split at this
   ·rename_i k' n;have hk:k=k':=by simpa using this
    exact⟨n,by rw[hk]⟩
   ·cases this
  ·cases h
 ·cases h
theorem PD {e:TypeId} {d:TypeDesc} (hu:P.underlying e=some d) (h:∀fs,d≠ .struct fs) (h':∀m t,d≠ .array m t):kQ P e=some false:=by
 unfold kQ;rw[hu];cases d<;>first|rfl|exact absurd rfl (h _)|exact absurd rfl (h' _ _)
theorem qZ {kT:TypeId} {kd:TypeDesc} {v:Value} (em:Bool) (hu:P.underlying kT=some kd) (h:gO P kd v=true) (w:World):(Instr.checkKey em 10000 kT v).run P w = .ok () w:=by
 obtain⟨m,e,k,cs,rfl,rfl,he,hz,hs,hall⟩:=dd h;have ha:kQ P e=some false:=PD he (by intro fs hc;cases hc) (by intro m t hc;cases hc)
 have key:∀N,(∀q,(Instr.checkKey em N e (.int k q)).run P w = .ok () w)->(Instr.checkKey em (N+1) kT (.agg cs)).run P w = .ok () w:=by
  intro N hN;simp only[Instr.checkKey,dz,bz hu,dP];simp only[Std.Legacy.Range.forIn_eq_forIn_range',Std.Legacy.Range.size,Nat.sub_zero,Nat.add_sub_cancel,Nat.div_one, <- List.range_eq_range']
  have go:∀js:List Nat,(∀j∈js,j<m)->(forIn js PUnit.unit (fun i (_:PUnit)=>do
   let __do_lift <- sizeOf e
   let __do_lift <- part e cs (i*__do_lift)
   Instr.checkKey em N e __do_lift
   pure (ForInStep.yield PUnit.unit)):Sem PUnit).run P w = .ok PUnit.unit w:=by
   intro js
   induction js with
   |nil=>intro _;simp
   |cons j js ih=>
    intro hj;have hjm:j<cs.size:=by rw[hs];exact hj j lM
    obtain⟨x,hx⟩:∃x,cs[j]? = some x:=⟨cs[j],by simp[hjm]⟩
    obtain⟨q,rfl⟩:=hall x (iW (by simpa using hx))
    have h1:=ga ha (cs:=cs) (off:=j*1) (u:= .int k q) (by simpa using hx) w
    rw[List.forIn_cons];simp only[dz,cL hz,dP,h1,hN,fY];exact ih fun j hj'=>hj j (nC _ hj')
  rw[go (List.range m) fun j hj=>iX.1 hj]
  simp only[dP,fY]
 have inner:∀N q,(Instr.checkKey em (N+1) e (.int k q)).run P w = .ok () w:=fun N q=>by simp[Instr.checkKey,bz he]
 exact key 9999 (inner 9998)
theorem pp {e:TypeId} {k:IntKind} (d:Nat) (he:P.underlying e=some (.int k)) {us vs:Array Value} (hu:∀x∈us.toList,∃n,x = .int k n) (hv:∀x∈vs.toList,∃n,x = .int k n) (hs:us.size=vs.size):∀(c i:Nat),i+c=us.size->
 (gq (d+1) e 1 us vs (List.range' i c)).run P w = .ok (kV (us.toList.drop i) (vs.toList.drop i)) w
 |0,i,hi=>by
  have h1:us.toList.drop i = []:=List.drop_eq_nil_of_le (by rw[cQ];omega)
  have h2:vs.toList.drop i = []:=List.drop_eq_nil_of_le (by rw[cQ];omega)
  rw[h1,h2];simp[gq,kV]
 |c+1,i,hi=>by
  have ha:kQ P e=some false:=PD he (by intro fs hc;cases hc) (by intro m t hc;cases hc)
  have hil:i<us.size:=by omega
  have hil':i<vs.size:=by omega
  obtain⟨a,ea⟩:=hu us[i] (by simp)
  obtain⟨b,eb⟩:=hv vs[i] (by simp)
  have h1:=ga ha (cs:=us) (off:=i*1) (u:= .int k a) (by simp[hil,ea]) w
  have h2:=ga ha (cs:=vs) (off:=i*1) (u:= .int k b) (by simp[hil',eb]) w
  have h3:(Op.equalIn (d+1) e (.int k a) (.int k b)).run P w = .ok (a==b) w:=by simp[Op.equalIn,bz he]
  have d1:us.toList.drop i = .int k a::us.toList.drop (i+1):=by rw[iT (by simpa using hil)];congr 1
  have d2:vs.toList.drop i = .int k b::vs.toList.drop (i+1):=by rw[iT (by simpa using hil')];congr 1
  rw[List.range'_succ,d1,d2];simp only[gq,dz,h1,h2,h3,dP,kV];cases hab:(a==b)with
  |true=>simpa using pp d he hu hv hs c (i+1) (by omega)
  |false=>simp
theorem BB {kT:TypeId} {kd:TypeDesc} {a b:Value} (hu:P.underlying kT=some kd) (ha:gO P kd a=true) (hb:gO P kd b=true) (w:World):(Op.equal kT a b).run P w = .ok (dc a b) w:=by
 obtain⟨m,e,k,cs,rfl,rfl,he,hz,hs,hall⟩:=dd ha;obtain⟨m',e',k',cs',hkd,rfl,he',hz',hs',hall'⟩:=dd hb;cases hkd;obtain rfl:k=k':=by rw[he]at he';cases he';rfl
 have h1:=run_equalIn_array (P:=P) (w:=w) 9999 kT e m 1 cs cs' hu hz;have h2:=pp (w:=w) 9998 he hall hall' (hs.trans hs'.symm) m 0 (by omega)
 rw[<- List.range_eq_range']at h2;simp only[l5]at h2;exact h1.trans h2
theorem Cm {k:IntKind}:∀{us vs:List Value},(∀x∈us,∃n,x = .int k n)->(∀x∈vs,∃n,x = .int k n)->kV us vs=true->us=vs
 | [],[],_,_,_=>rfl
 | [],_::_,_,_,h=>by simp[kV]at h
 |_::_,[],_,_,h=>by simp[kV]at h
 |x::us,y::vs,hu,hv,h=>by
  obtain⟨a,rfl⟩:=hu x lM;obtain⟨b,rfl⟩:=hv y lM;simp only[kV,bu,fZ]at h;rw[h.1,Cm (fun x hx=>hu x (nC _ hx)) (fun x hx=>hv x (nC _ hx)) h.2]
theorem w9 {α:Type} {p:α×α}:∀{l:List α},p∈l.zip l->p.1=p.2∧p.1∈l
 | [],h=>by simp at h
 |x::l,h=>by
  simp only[List.zip_cons_cons,cU]at h;rcases h with rfl|h
  ·exact⟨rfl,lM⟩
  ·exact⟨(w9 h).1,nC _ (w9 h).2⟩
theorem gF {kd:TypeDesc} {a b:Value} (ha:dQ P kd a=true) (hb:dQ P kd b=true):(gz kd a=true∧gz kd b=true)∨(gO P kd a=true∧gO P kd b=true):=by
 simp only[dQ,oU]at ha hb;rcases ha with ha|ha
 ·rcases hb with hb|hb
  ·exact .inl ⟨ha,hb⟩
  ·obtain⟨m,e,k,cs,rfl,_⟩:=dd hb;rcases de ha with⟨_,_,e,_⟩|⟨_,e,_⟩|⟨_,e,_⟩<;>cases e
 ·rcases hb with hb|hb
  ·obtain⟨m,e,k,cs,rfl,_⟩:=dd ha;rcases de hb with⟨_,_,e,_⟩|⟨_,e,_⟩|⟨_,e,_⟩<;>cases e
  ·exact .inr ⟨ha,hb⟩
theorem cr {kT:TypeId} {kd:TypeDesc} {v:Value} (em:Bool) (hu:P.underlying kT=some kd) (h:dQ P kd v=true) (w:World):(Instr.checkKey em 10000 kT v).run P w = .ok () w:=by
 rcases gF h h with⟨h,_⟩|⟨h,_⟩
 ·exact run_checkKey em hu h w
 ·exact qZ em hu h w
theorem Hz {kd:TypeDesc} {a b:Value} (ha:dQ P kd a=true) (hb:dQ P kd b=true) (h:dc a b=true):Instr.sameBits 10000 b a=true:=by
 rcases gF ha hb with⟨ha,hb⟩|⟨ha,hb⟩
 ·exact El ha hb h
 ·obtain⟨m,e,k,cs,rfl,rfl,he,hz,hs,hall⟩:=dd ha;obtain⟨m',e',k',cs',hkd,rfl,he',hz',hs',hall'⟩:=dd hb;cases hkd;obtain rfl:k=k':=by rw[he]at he';cases he';rfl
  simp only[dc]at h;have hcs:cs=cs':=by
   have:=Cm hall hall' h;cases cs;cases cs';simpa using this
  subst hcs;have key:∀n,Instr.sameBits (n+1) (.agg cs) (.agg cs)=true:=by
   intro n;simp only[Instr.sameBits,beq_self_eq_true,l6,bX];intro p hp;obtain⟨e1,hx⟩:=w9 hp;obtain⟨q,hq⟩:=hall _ hx;rw[<- e1,hq];simp[Instr.sameBits]
  exact key 9999
theorem ml {kT:TypeId} {kd:TypeDesc} {k:Value} (hu:P.underlying kT=some kd) (hk:gO P kd k=true):∀{xs:List (Value×AV)} {es:List MapEntry} (n:Nat),RepM ρ E w xs es->xs.all (fun e=>dQ P kd e.1)=true->
 (∃v,gA k xs=some v∧∃j u,(Instr.findAsking kT k es n).run P w = .ok (some (n+j,u)) w∧Rep ρ E w v u∧∃e,es[j]? = some e∧dc k e.key=true∧dQ P kd e.key=true∧
  ∀v' u',Rep ρ E w v' u'->RepM ρ E w (jH k v' xs) (es.set j {e with key:=k,val:=u'}))∨
 (gA k xs=none∧(Instr.findAsking kT k es n).run P w = .ok none w∧∀v' u' born,Rep ρ E w v' u'->RepM ρ E w (jH k v' xs) (es ++ [{key:=k,val:=u',born:=born}]))
 | [],es,n,h,_=>by
   simp only[RepM]at h;subst h;refine .inr ⟨rfl,by simp[Instr.findAsking],fun v' u' born hr=> ?_⟩
   simp only[jH,dY,RepM];exact⟨_,[],rfl,rfl,hr,rfl⟩
 | (k',v0)::xs,es,n,h,hall=>by
   simp only[RepM]at h;obtain⟨e,es',rfl,hke,hv0,hr⟩:=h;simp only[nE,bu]at hall;obtain⟨hk',hall'⟩:=hall;subst hke;have hk2:gO P kd e.key=true:=by
    rcases gF (by simp only[dQ,hk,Bool.or_true]:dQ P kd k=true) hk' with⟨h1,_⟩|⟨_,h2⟩
    ·obtain⟨m,e,k,cs,rfl,_⟩:=dd hk;rcases de h1 with⟨_,_,e,_⟩|⟨_,e,_⟩|⟨_,e,_⟩<;>cases e
    ·exact h2
   have hs:=BB hu hk hk2 w;cases hq:dc k e.key with
   |true=>
    rw[hq]at hs;refine .inl ⟨v0,by simp[gA,hq],0,e.val,by simp[Instr.findAsking,hs],hv0,e,by simp,hq,hk',fun v' u' hr'=> ?_⟩
    simp only[jH,hq,ap,List.set_cons_zero,RepM];exact⟨_,es',rfl,rfl,hr',hr⟩
   |false=>
    rw[hq]at hs;rcases ml hu hk (n+1) hr hall' with⟨v,hf,j,u,hfn,hrv,e',he',hke',hkk',hset⟩|⟨hf,hfn,hset⟩
    ·refine .inl ⟨v,by simp[gA,hq,hf],j+1,u,by simp[Instr.findAsking,hs,hfn];omega,hrv,e',by simpa using he',hke',hkk',fun v' u' hr'=> ?_⟩
     simp only[jH,hq,aJ,List.set_cons_succ,RepM];exact⟨e,_,rfl,rfl,hv0,hset v' u' hr'⟩
    ·refine .inr ⟨by simp[gA,hq,hf],by simp[Instr.findAsking,hs,hfn],fun v' u' born hr'=> ?_⟩
     simp only[jH,hq,aJ,fV,RepM];exact⟨e,_,rfl,rfl,hv0,hset v' u' born hr'⟩
theorem jh {kT:TypeId} {kd:TypeDesc} {k:Value} (hu:P.underlying kT=some kd) (hk:dQ P kd k=true) {xs:List (Value×AV)} {es:List MapEntry} (hr:RepM ρ E w xs es) (hall:xs.all (fun e=>dQ P kd e.1)=true):
 (∃v,gA k xs=some v∧∃j u,(Instr.findKey kT k es).run P w = .ok (some (j,u)) w∧Rep ρ E w v u∧∃e,es[j]? = some e∧dc k e.key=true∧dQ P kd e.key=true∧
  ∀v' u',Rep ρ E w v' u'->RepM ρ E w (jH k v' xs) (es.set j {e with key:=k,val:=u'}))∨
 (gA k xs=none∧(Instr.findKey kT k es).run P w = .ok none w∧∀v' u' born,Rep ρ E w v' u'->RepM ρ E w (jH k v' xs) (es ++ [{key:=k,val:=u',born:=born}])):=by
 rcases gF hk hk with⟨h,_⟩|⟨h,_⟩
 ·have hall':xs.all (fun e=>gz kd e.1)=true:=by
   rw[bX]at hall ⊢;intro x hx;rcases gF hk (hall x hx)with⟨_,h2⟩|⟨h1,_⟩
   ·exact h2
   ·obtain⟨m,e,k,cs,rfl,_⟩:=dd h1;rcases de h with⟨_,_,e,_⟩|⟨_,e,_⟩|⟨_,e,_⟩<;>cases e
  rcases tn h 0 hr hall' with⟨v1,hf,j,u1,hfn,hrv,e,he,hke,hkk,hst⟩|⟨hf,hfn,hst⟩
  ·exact .inl ⟨v1,hf,j,u1,by simp[Instr.findKey,bz hu,hfn],hrv,e,he,hke,by simp only[dQ,hkk,l7],hst⟩
  ·exact .inr ⟨hf,by simp[Instr.findKey,bz hu,hfn],hst⟩
 ·have hfk:(Instr.findKey kT k es).run P w=(Instr.findAsking kT k es 0).run P w:=by
   obtain⟨m,e,k',cs,rfl,rfl,_⟩:=dd h;cases es with
   |nil=>simp[Instr.findKey,bz hu,Instr.findNow,Instr.findAsking]
   |cons x es=>simp[Instr.findKey,bz hu,Instr.findNow,Instr.sameNow]
  rw[hfk];have:=ml hu h 0 hr hall;simpa only[dZ]using this
theorem xc:∀{cs:List AV} {vs us:List Value},wC cs=some vs->RepL ρ E w cs us->us=vs
 | [],vs,us,h,r=>by simp only[wC,aQ]at h;simp only[RepL]at r;rw[<- h,r]
 |c::cs,vs,us,h,r=>by
  cases c<;>simp only[wC]at h<;>try (cases h;done)
  rename_i v;simp only[RepL]at r;obtain⟨u,us',rfl,h1,h2⟩:=r;obtain⟨vs',hv,rfl⟩:=dq.1 h;simp only[Rep]at h1;rw[h1,xc hv h2]
theorem HA {x:AV} {k u:Value} (h:keyV x=some k) (r:Rep ρ E w x u):u=k:=by
 unfold keyV at h;split at h
 ·cases h;simpa only[Rep]using r
 ·obtain⟨vs,hv,rfl⟩:=dq.1 h;simp only[Rep]at r;obtain⟨xs,rfl,hr⟩:=r;have:=xc hv hr;rw[<- this]
 ·cases h
theorem BC (inv:Inv lo w0 ρ E H w) {x:AV} {u:Value} {xs:List (Value×AV)} (h:entriesOf H x=some xs) (r:Rep ρ E w x u):
 ∃m arr,u = .map m∧RepM ρ E w xs arr.toList∧(match m with|none=>arr = #[]|some b=>∃clk,w.heap[b]? = some (.map arr clk)):=by
 unfold entriesOf at h;split at h
 ·simp only[Rep]at r;obtain⟨b,hb,rfl⟩:=r;obtain⟨arr,clk,hm,hr,_⟩:=inv.mapAt h hb;exact⟨some b,arr,rfl,hr,clk,hm⟩
 ·unfold G8 at h;split at h
  ·cases h;simp only[Rep]at r;obtain⟨b,arr,clk,rfl,_,hm,hr,_⟩:=r;exact⟨some b,arr,rfl,RepM.mono Ext.up _ _ hr,clk,hm⟩
  ·cases h;simp only[Rep]at r;subst r;exact⟨none, #[],rfl,by simp[RepM],rfl⟩
  ·cases h
theorem LY (inv:Inv lo w0 ρ E H w) {T:TypeId} {ok:Bool} {x k v:AV} {u ku:Value} (h:fh P T ok x k H=some v) (r:Rep ρ E w x u) (rk:Rep ρ E w k ku):
 OkP P ρ E w (Instr.lookup T u ku ok) v:=by
 unfold fh at h;split at h
 case h_2=>cases h
 case h_1 kT eT kv hu hkv=>
  obtain rfl:=HA hkv rk;cases hkd:P.underlying kT with
  |none=>simp[hkd]at h
  |some kd=>
   cases he:entriesOf H x with
   |none=>simp[hkd,he]at h
   |some xs=>
    simp only[hkd,he,bo]at h;split at h
    case isFalse=>cases h
    case isTrue hc=>
     obtain⟨hkey,hall⟩:=hc;cases hz:ew P eT with
     |none=>simp[hz]at h
     |some z=>
      simp only[hz,bo]at h;obtain⟨_,zv,_,_,hrun,hrep⟩:=dw hz;obtain⟨m,arr,rfl,hrm,hm⟩:=BC inv he r;rcases jh hkd hkey hrm hall with⟨v1,hf,j,u1,hfn,hrv,_⟩|⟨hf,hfn,_⟩
      ·simp only[hf,aQ]at h;subst h;refine⟨if ok then .tuple #[u1, .bool true]else u1,?_,?_⟩
       ·cases m with
        |none=>
         simp only at hm;subst hm;have hfn:=hfn;simp only[Array.toList_empty]at hfn;simp[Instr.lookup,bz hu,cr _ hkd hkey,hfn]
        |some b=>obtain⟨clk,hb⟩:=hm;simp[Instr.lookup,bz hu,run_getObj_map hb,cr _ hkd hkey,hfn]
       ·cases ok
        ·simpa using hrv
        ·simp only[ap,be,Rep];exact⟨_,rfl,RepL.cons hrv (RepL.cons (by simp only[Rep]) RepL.nil)⟩
      ·simp only[hf,aQ]at h;subst h;refine⟨if ok then .tuple #[zv, .bool false]else zv,?_,?_⟩
       ·cases m with
        |none=>
         simp only at hm;subst hm;have hfn:=hfn;simp only[Array.toList_empty]at hfn;simp[Instr.lookup,bz hu,cr _ hkd hkey,hfn,hrun]
        |some b=>obtain⟨clk,hb⟩:=hm;simp[Instr.lookup,bz hu,run_getObj_map hb,cr _ hkd hkey,hfn,hrun]
       ·cases ok
        ·simpa using hrep ρ E w
        ·simp only[ap,be,Rep];exact⟨_,rfl,RepL.cons (hrep ρ E w) (RepL.cons (by simp only[Rep]) RepL.nil)⟩
theorem PE (inv:Inv lo w0 ρ E H w) {T kT eT:TypeId} {kd:TypeDesc} {i b:Nat} {kb k':Blk} {xs:List (Value×AV)} {v:AV} {ku vu:Value} (hu:P.underlying T=some (.map kT eT)) (hkd:P.underlying kT=some kd)
 (hk:H.get i=some kb) (hb:ρ i=some b) (hv:∀ρ' E' w',BlkRep ρ' E' w' kb b->BlkRep ρ' E' w' (.map xs) b) (hkey:dQ P kd ku=true) (hall:xs.all (fun e=>dQ P kd e.1)=true) (rv:Rep ρ E w v vu)
 (hto:∀ρ' E' w',BlkRep ρ' E' w' (.map (jH ku v xs)) b->BlkRep ρ' E' w' k' b):
 ∃w',(Instr.mapUpdate T (.map (some b)) ku vu).run P w = .ok () w'∧Inv lo w0 ρ E (H.put i (some k')) w'∧Ext ρ E w ρ E w':=by
 obtain⟨arr,clk,hm,hrm,hbo⟩:=hv _ _ _ (inv.blk i kb b hk hb);have hlt:b<w.heap.size:=(inv.bd i b hb).2;have hset:∀o,(setObj b o).run P w = .ok () {w with heap:=w.heap.setIfInBounds b o}:=fun o=>by simp[setObj,Sem.run,hm]
 have hchange:∀(arr':Array MapEntry) (clk':Nat),(∀ρ' E' w',Ext ρ E w ρ' E' w'->RepM ρ' E' w' (jH ku v xs) arr'.toList)->He arr' clk'->
  Inv lo w0 ρ E (H.put i (some k')) {w with heap:=w.heap.setIfInBounds b (.map arr' clk')}∧Ext ρ E w ρ E {w with heap:=w.heap.setIfInBounds b (.map arr' clk')}:=by
  intro arr' clk' hr' hbo';have hnew:({w with heap:=w.heap.setIfInBounds b (.map arr' clk')}:World).heap[b]? = some (.map arr' clk'):=by simp[hlt]
  exact inv.change i b kb k' hk hb (fun j hj=>by simp[DZ (Ne.symm hj)]) (by simp) (fun c T f hcc=>by rw[hm]at hcc;cases hcc)
   (fun ext=>hto _ _ _ ⟨arr',clk',hnew,hr' _ _ _ ext,hbo'⟩)
 rcases jh hkd hkey hrm hall with⟨v1,hf,j,u1,hfn,_,e,he,hke,hkk,hst⟩|⟨hf,hfn,hst⟩
 ·have he':arr[j]? = some e:=by simpa using he
  obtain⟨inv',ext⟩:=hchange (arr.modify j fun e=>{e with key:=ku,val:=vu}) clk (fun ρ' E' w' ext=>by
   have:=(hst v vu rv).mono ext;have e1:(arr.modify j fun e=>{e with key:=ku,val:=vu}).toList=arr.toList.set j {e with key:=ku,val:=vu}:=by
    apply gw;intro q;rw[qL,Array.getElem?_modify,gX]
    by_cases hq:j=q
    ·subst hq;obtain⟨hjl,hje⟩:=lK.1 he';simp[hjl,hje]
    ·simp[hq]
   rw[e1];exact this) ⟨fun x hx=>by
    obtain⟨q,hq⟩:=List.mem_iff_getElem?.1 hx
    rw[qL,Array.getElem?_modify]at hq
    by_cases hjq:j=q
    ·subst hjq;rw[if_pos rfl,he']at hq;cases hq;exact hbo.1 e (iW he)
    ·rw[if_neg hjq]at hq;exact hbo.1 x (iW (by rw[qL];exact hq)),by
    have e2:(arr.modify j fun e=>{e with key:=ku,val:=vu}).toList.map (·.born)=arr.toList.map (·.born):=by
     apply gw;intro q;rw[it,it,qL,qL,Array.getElem?_modify]
     by_cases hq:j=q
     ·subst hq;rw[if_pos rfl,he'];rfl
     ·rw[if_neg hq]
    rw[e2];exact hbo.2⟩
  refine⟨_,?_,inv',ext⟩
  have hsb:=Hz hkey hkk hke;simp[Instr.mapUpdate,bz hu,run_getObj_map hm,cr _ hkd hkey,hfn,Instr.keyThatStays,he',hsb,hset]
 ·obtain⟨inv',ext⟩:=hchange (arr.push {key:=ku,val:=vu,born:=clk}) (clk+1) (fun ρ' E' w' ext=>by
   have:=(hst v vu clk rv).mono ext
   simpa using this) ⟨fun x hx=>by
    rw[Array.toList_push,eS]at hx;rcases hx with hx|hx
    ·have:=hbo.1 x hx;omega
    ·simp only[List.mem_singleton]at hx;subst hx;exact Nat.lt_succ_self _,by
    rw[Array.toList_push,lO];refine List.nodup_append.2 ⟨hbo.2,by simp,fun x hx y hy e=> ?_⟩
    simp only[bW,gZ,List.mem_singleton]at hy;obtain⟨z,hz,rfl⟩:=iv.1 hx;have:=hbo.1 z hz
    omega⟩
  refine⟨_,?_,inv',ext⟩
  simp[Instr.mapUpdate,bz hu,run_getObj_map hm,cr _ hkd hkey,hfn,hset]
theorem BD (inv:Inv lo w0 ρ E H w) {T:TypeId} {x k v:AV} {u ku vu:Value} {H':Hp} (h:kW P T x k v H=some H') (r:Rep ρ E w x u) (rk:Rep ρ E w k ku) (rv:Rep ρ E w v vu):
 ∃w',(Instr.mapUpdate T u ku vu).run P w = .ok () w'∧Inv lo w0 ρ E H' w'∧Ext ρ E w ρ E w':=by
 unfold kW at h;split at h
 case h_2=>cases h
 case h_1 kT eT kv i hu hkv=>
  obtain rfl:=HA hkv rk;cases hkd:P.underlying kT with
  |none=>simp[hkd]at h
  |some kd=>
   cases hg:getM H i with
   |none=>simp[hkd,hg]at h
   |some xs=>
    simp only[hkd,hg,bo]at h;split at h
    case isFalse=>cases h
    case isTrue hc=>
     obtain⟨hkey,hall⟩:=hc;cases h;simp only[Rep]at r;obtain⟨b,hb,rfl⟩:=r;exact PE inv hu hkd (pc hg) hb (fun _ _ _ r=>r) hkey hall rv (fun _ _ _ r=>r)
theorem VL {ρ':Nat->Option Nat} {T:TypeId} {d:D} {v:Value} (h:Rep ρ E w (ke T d) v):Rep ρ' E w (ke T d) v:=by
 unfold ke at h ⊢;split at h<;>simp only[Rep]at h ⊢ <;>exact h
theorem Cn {ρ':Nat->Option Nat} {kT vT:TypeId} {d:D} {es:List MapEntry} (h:RepM ρ E w (g7 kT vT d) es):RepM ρ' E w (g7 kT vT d) es:=by
 unfold g7 at h ⊢;generalize d.toList=xs at *
 induction xs generalizing es with
 |nil=>simpa only[gZ,RepM]using h
 |cons x xs ih=>
  simp only[bW,RepM]at h ⊢;obtain⟨e,es',he,hk,h1,h2⟩:=h;exact⟨e,es',he,hk,VL h1,ih h2⟩
theorem iD {T:TypeId} {x:AV} {d:D} {v:Value} (h:D6 T x=some d) (r:Rep ρ E w x v):Rep ρ E w (ke T d) v:=by
 have h0:(bif layOk PG rowDepth T&&fI PG rowDepth T then avD dt T x else none)=some d∧∀xs,x≠ .esl xs:=by
  unfold D6 at h;split at h
  ·cases h
  ·rename_i hx;exact⟨h,hx⟩
 obtain⟨h1,hne⟩:=h0;cases hc:(layOk PG rowDepth T&&fI PG rowDepth T)with
 |false=>simp[hc]at h1
 |true=>
  rw[hc,ap]at h1;rw[bu]at hc;obtain⟨hl,hp⟩:=hc;have hagg:∀cs,x = .agg cs->Rep ρ E w (.dat T d) v:=by
   rintro cs rfl;have hd:=fj dt T _ d v ρ h1 r;simp only[Rep]at r ⊢;obtain⟨us,rfl,_⟩:=r;exact⟨us,rfl,hl,by simpa[Value.cells]using hd⟩
  unfold ke;unfold rowDepth fI at hp;unfold dt avD at h1;split at h1
  ·rename_i k hk;split at h1
   ·split at h1
    ·rename_i hkk;subst hkk;cases h1;rw[jg];exact r
    ·cases h1
   ·split at h1
    ·rename_i hkk;subst hkk;cases h1;rw[jg];simp only[Rep]at r ⊢;exact r
    ·cases h1
   ·cases h1
  ·rename_i hk;split at h1
   ·cases h1;rw[kp];exact r
   ·cases h1;rw[kp];simp only[Rep]at r ⊢;exact r
   ·cases h1
  ·rename_i hk;split at h1
   ·cases h1;rw[nh];exact r
   ·cases h1;rw[nh];simp only[Rep]at r ⊢;exact r
   ·cases h1
  ·rename_i e hk;split at h1
   ·rename_i T' d';cases hb:Nat.beq T' e with
    |false=>simp[hb]at h1
    |true=>
     obtain rfl:=aV hb;simp only[hb,ap,aQ]at h1;subst h1;exact r
   ·rename_i xs;exact absurd rfl (hne xs)
   ·cases h1;simp only[Rep]at r ⊢;subst r;exact⟨none,0,rfl,aP _, .inl rfl⟩
   ·cases h1
  ·rename_i fs hk;split at h1
   ·rename_i T' d';cases hb:Nat.beq T' T with
    |false=>simp[hb]at h1
    |true=>
     obtain rfl:=aV hb;simp only[hb,ap,aQ]at h1;subst h1;exact r
   ·exact hagg _ rfl
   ·cases h1
  ·rename_i m e hk;split at h1
   ·rename_i T' d';cases hb:Nat.beq T' T with
    |false=>simp[hb]at h1
    |true=>
     obtain rfl:=aV hb;simp only[hb,ap,aQ]at h1;subst h1;exact r
   ·exact hagg _ rfl
   ·cases h1
  ·cases h1
theorem key_arr {kT e:TypeId} {m:Nat} {k:IntKind} {d:D} {u:Value} (hk:PG.underlying kT=some (.array m e)) (he:PG.underlying e=some (.int k)) (h1:PG.cellsOf e=1) (r:RepDat PG E w kT d u):
 u = .agg ((List.range m).map fun j=>Value.int k (d.fld j).toInt).toArray:=by
 obtain⟨xs,rfl,hl,hr⟩:=r
 congr 1
 have hsz:PG.cellsOf kT=m:=by
  unfold rowDepth layOk at hl;rw[hk]at hl;simp only[bu]at hl;have:=aV hl.2;rw[h1,Nat.mul_one]at this;exact this.symm
 generalize hcs:xs.toList=cs at hr;have key:cs=(List.range m).map fun j=>Value.int k (d.fld j).toInt:=by
  cases hr with
  |int h=>rw[hk]at h;cases h
  |bool h=>rw[hk]at h;cases h
  |str h=>rw[hk]at h;cases h
  |slice row h=>rw[hk]at h;cases h
  |struct h=>rw[hk]at h;cases h
  |other h=>simp[dn,hk]at h
  |array h hlen hd=>
   rw[hk]at h;cases h;rename_i ds;apply gw;intro j;by_cases hj:j<m
   ·have h2:=hd j hj;rw[h1,Nat.mul_one]at h2;have hjl:j<cs.length:=by omega
    have h3:(cs.drop j).take 1 = [cs[j]]:=by rw[iT hjl];rfl
    rw[h3]at h2;have h4:∃n,ds.getD j .other = .int n∧cs[j] = .int k n:=by
     generalize ds.getD j .other=y at h2;generalize cs[j]=z at h2;cases h2 with
     |int h=>rw[he]at h;cases h;exact⟨_,rfl,rfl⟩
     |slice row h=>rw[he]at h;cases h
     |bool h=>rw[he]at h;cases h
     |str h=>rw[he]at h;cases h
     |struct h=>rw[he]at h;cases h
     |array h=>rw[he]at h;cases h
     |other h=>simp[dn,he]at h
    obtain⟨n,h5,h6⟩:=h4;rw[cq hjl,h6,it,List.getElem?_range hj]
    simp only[cI,D.fld,h5,D.toInt]
   ·rw[iV (by omega),iV (by simp;omega)]
 apply Array.toList_inj.1;rw[hcs,key]
theorem Em {kT:TypeId} {d:D} {u:Value} (hk:oZ P kT=true) (r:Rep ρ E w (ke kT d) u):u=kvD kT d:=by
 unfold oZ at hk;split at hk
 ·rename_i k k' h1 h2;unfold ke at r;unfold kvD;rw[h2]at r ⊢;simp only[Rep]at r ⊢;rw[r,jg]
 ·rename_i h1 h2;unfold ke at r;unfold kvD;rw[h2]at r ⊢;simp only[Rep]at r ⊢;rw[r,nh]
 ·rename_i h1 h2;unfold ke at r;unfold kvD;rw[h2]at r ⊢;simp only[Rep]at r ⊢;rw[r,kp]
 ·rename_i m e m' e' h1 h2;simp only[bu]at hk;obtain⟨hm,hk⟩:=hk;split at hk
  ·rename_i k k' hp hq hs;simp only[bu]at hk;unfold ke at r;unfold kvD;rw[h2]at r ⊢;simp only[Rep]at r;simp only[hq];exact key_arr h2 hq (aV hk.2) r
  ·cases hk
 ·cases hk
theorem key_ok {kT:TypeId} {kd:TypeDesc} (hk:oZ P kT=true) (hu:P.underlying kT=some kd) (d:D):dQ P kd (kvD kT d)=true:=by
 unfold oZ at hk;split at hk
 ·rename_i k k' h1 h2;rw[hu]at h1;cases h1;unfold kvD;rw[h2];simp only[dQ,gz,hk,l7]
 ·rename_i h1 h2;rw[hu]at h1;cases h1;unfold kvD;rw[h2];simp only[dQ,gz,l7]
 ·rename_i h1 h2;rw[hu]at h1;cases h1;unfold kvD;rw[h2];simp only[dQ,gz,l7]
 ·rename_i m e m' e' h1 h2;rw[hu]at h1;cases h1;simp only[bu]at hk;obtain⟨hm,hk⟩:=hk;split at hk
  ·rename_i k k' hp hq hs;simp only[bu,fZ]at hk;obtain rfl:=hk.1;obtain rfl:=aV hm;unfold kvD;rw[h2];simp only[hq];have:gO P (.array m e) (.agg ((List.range m).map fun j=>Value.int k (d.fld j).toInt).toArray)=true:=by
    simp[gO,hp,hs,LJ]
   simp only[dQ,this,Bool.or_true]
  ·cases hk
 ·cases hk
theorem xd {kT vT:TypeId} {kd:TypeDesc} (hk:oZ P kT=true) (hu:P.underlying kT=some kd) (d:D):(g7 kT vT d).all (fun e=>dQ P kd e.1)=true:=by
 unfold g7;rw[bX];intro x hx;obtain⟨y,_,rfl⟩:=iv.1 hx;exact key_ok hk hu _
theorem xe {kT vT:TypeId} (k:D):∀xs:List D,gA (kvD kT k) (xs.map fun x=>(kvD kT (x.fld 0),ke vT (x.fld 1)))=(nF kT k xs).map (ke vT)
 | []=>rfl
 |x::xs=>by
  have ih:=xe (kT:=kT) (vT:=vT) k xs;unfold nF at ih ⊢;simp only[bW,gA,j7];cases h:dc (kvD kT k) (kvD kT (x.fld 0))with
  |true=>simp
  |false=>simpa using ih
theorem Co {kT vT:TypeId} (k v:D):∀xs:List D,jH (kvD kT k) (ke vT v) (xs.map fun x=>(kvD kT (x.fld 0),ke vT (x.fld 1)))=(Bt kT k v xs).map fun x=>(kvD kT (x.fld 0),ke vT (x.fld 1))
 | []=>rfl
 |x::xs=>by
  have ih:=Co (kT:=kT) (vT:=vT) k v xs;simp only[bW,jH,Bt];cases h:dc (kvD kT k) (kvD kT (x.fld 0))with
  |true=>rfl
  |false=>simp only[aJ,bW,ih]
theorem VM {kT:TypeId} {v:Value} {d:D} (h:Pt kT v=some d):kvD kT d=v:=by
 unfold Pt at h;unfold kvD;split at h
 ·rename_i k k' n hk;rw[hk];cases hb:k==k' with
  |false=>simp[hb]at h
  |true=>
   rw[hb]at h;cases h;simp only[fZ]at hb;subst hb;rfl
 ·rename_i s hk;rw[hk];cases h;rfl
 ·rename_i b hk;rw[hk];cases h;rfl
 ·cases h
theorem ot {kT vT:TypeId}:∀{es:List (Value×AV)} {ds:List D},bG (fun e=>(Pt kT e.1).bind fun k=>(D6 vT e.2).map fun v=>D.agg [k,v]) es=some ds->∀{ρ':Nat->Option Nat} {E':Nat->Prop} {w':World} {ms:List MapEntry},RepM ρ' E' w' es ms->RepM ρ' E' w' (ds.map fun x=>(kvD kT (x.fld 0),ke vT (x.fld 1))) ms
 | [],ds,h,_,_,_,ms,r=>by
   simp only[bG,aQ]at h;subst h;simpa only[gZ,RepM]using r
 | (k,v)::es,ds,h,_,_,_,ms,r=>by
   simp only[bG]at h;obtain⟨y,hy,h⟩:=aZ.1 h;obtain⟨ys,hys,h⟩:=aZ.1 h;cases h;obtain⟨kd,hkd,hy⟩:=aZ.1 hy;obtain⟨vd,hvd,rfl⟩:=dq.1 hy;simp only[RepM]at r;obtain⟨e,es',rfl,hk,h1,h2⟩:=r;simp only[bW,RepM];exact⟨e,es',rfl,by rw[hk];exact(VM hkd).symm,iD hvd h1,ot hys h2⟩
theorem xf {i:Nat} {kT vT:TypeId} {d:D} (h:LK H i kT vT=some d):∃kb,H.get i=some kb∧∀ρ' E' w' b,BlkRep ρ' E' w' kb b->BlkRep ρ' E' w' (.map (g7 kT vT d)) b:=by
 unfold LK at h;split at h
 ·rename_i k v d' hg;cases hb:(Nat.beq k kT&&Nat.beq v vT)with
  |false=>simp[hb]at h
  |true=>
   simp only[hb,ap,aQ]at h;subst h;rw[bu]at hb;obtain rfl:=aV hb.1;obtain rfl:=aV hb.2;exact⟨_,hg,fun _ _ _ _ r=>r⟩
 ·rename_i es hg;unfold wD at h;obtain⟨ds,hd,rfl⟩:=dq.1 h;refine⟨_,hg,fun _ _ _ _ r=> ?_⟩
  obtain⟨arr,clk,hc,hr,hbo⟩:=r;exact⟨arr,clk,hc,ot hd hr,hbo⟩
 ·cases h
theorem LZ (inv:Inv lo w0 ρ E H w) {T:TypeId} {ok:Bool} {x k v:AV} {u ku:Value} (h:iZ P T ok x k H=some v) (r:Rep ρ E w x u) (rk:Rep ρ E w k ku):
 OkP P ρ E w (Instr.lookup T u ku ok) v:=by
 unfold iZ at h;split at h
 case h_3=>cases h
 case h_2 kT eT hu=>
  cases hkt:oZ P kT with
  |false=>simp[hkt]at h
  |true=>
   rw[hkt,ap]at h;obtain⟨kd',hkd',h⟩:=aZ.1 h;obtain⟨z,hz,h⟩:=aZ.1 h;cases h;obtain⟨kd,hkd⟩:∃kd,P.underlying kT=some kd:=by
    unfold oZ at hkt;cases hx:P.underlying kT with
    |none=>simp[hx]at hkt
    |some kd=>exact⟨kd,rfl⟩
   obtain⟨_,zv,_,_,hrun,hrep⟩:=dw hz;obtain rfl:=Em hkt (iD hkd' rk);have hkey:=key_ok hkt hkd kd';simp only[Rep]at r;subst r;have hrm:RepM ρ E w (g7 kT eT (.list [])) []:=by simp[g7,RepM,D.toList]
   have hfn:Sem.run P (Instr.findKey kT (kvD kT kd') []) w = .ok none w:=by
    rcases jh hkd hkey hrm (xd hkt hkd (.list []))with⟨v1,hf,_⟩|⟨_,hfn,_⟩
    ·simp[g7,D.toList,gA]at hf
    ·exact hfn
   refine⟨if ok then .tuple #[zv, .bool false]else zv,?_,?_⟩
   ·simp[Instr.lookup,bz hu,cr _ hkd hkey,hrun,hfn]
   ·cases ok
    ·simpa using hrep ρ E w
    ·simp only[ap,be,Rep];exact⟨_,rfl,RepL.cons (hrep ρ E w) (RepL.cons (by simp only[Rep]) RepL.nil)⟩
 case h_1 kT eT i hu=>
  obtain⟨d,hd,h⟩:=aZ.1 h;cases hkt:oZ P kT with
  |false=>simp[hkt]at h
  |true=>
   rw[hkt,ap]at h;obtain⟨kd',hkd',h⟩:=aZ.1 h;obtain⟨z,hz,h⟩:=aZ.1 h;obtain⟨zd,hzd,h⟩:=aZ.1 h;cases h;obtain⟨kd,hkd⟩:∃kd,P.underlying kT=some kd:=by
    unfold oZ at hkt;cases hx:P.underlying kT with
    |none=>simp[hx]at hkt
    |some kd=>exact⟨kd,rfl⟩
   obtain⟨_,zv,_,_,hrun,hrep⟩:=dw hz;obtain rfl:=Em hkt (iD hkd' rk);have hkey:=key_ok hkt hkd kd';obtain⟨kb,hg,hmap⟩:=xf hd;simp only[Rep]at r;obtain⟨b,hb,rfl⟩:=r;obtain⟨arr,clk,hm,hrm,_⟩:=hmap _ _ _ _ (inv.blk i kb b hg hb);have hfe:=xe (kT:=kT) (vT:=eT) kd' d.toList;rcases jh hkd hkey hrm (xd hkt hkd d)with⟨v1,hf,j,u1,hfn,hrv,_⟩|⟨hf,hfn,_⟩
   ·unfold g7 at hf;rw[hfe]at hf;obtain⟨dv,hdv,rfl⟩:=dq.1 hf;have e1:lS kT zd d kd'=dv:=by unfold lS;rw[am];unfold wF;rw[hdv];rfl
    have e2:te kT d kd'=true:=by unfold te;rw[am];unfold G9;rw[hdv];rfl
    rw[e1,e2];refine⟨if ok then .tuple #[u1, .bool true]else u1,?_,?_⟩
    ·simp[Instr.lookup,bz hu,run_getObj_map hm,cr _ hkd hkey,hfn]
    ·cases ok
     ·simpa using hrv
     ·simp only[ap,be,Rep];exact⟨_,rfl,RepL.cons hrv (RepL.cons (by simp only[Rep]) RepL.nil)⟩
   ·unfold g7 at hf;rw[hfe]at hf;have hdv:nF kT kd' d.toList=none:=by
     cases hx:nF kT kd' d.toList with
     |none=>rfl
     |some y=>rw[hx]at hf;cases hf
    have e1:lS kT zd d kd'=zd:=by unfold lS;rw[am];unfold wF;rw[hdv];rfl
    have e2:te kT d kd'=false:=by unfold te;rw[am];unfold G9;rw[hdv];rfl
    rw[e1,e2];refine⟨if ok then .tuple #[zv, .bool false]else zv,?_,?_⟩
    ·simp[Instr.lookup,bz hu,run_getObj_map hm,cr _ hkd hkey,hfn,hrun]
    ·cases ok
     ·simpa using iD hzd (hrep ρ E w)
     ·simp only[ap,be,Rep];exact⟨_,rfl,RepL.cons (iD hzd (hrep ρ E w)) (RepL.cons (by simp only[Rep]) RepL.nil)⟩
theorem Sz (inv:Inv lo w0 ρ E H w) {T:TypeId} {ok:Bool} {x k v:AV} {u ku:Value} (h:kX P T ok x k H=some v) (r:Rep ρ E w x u) (rk:Rep ρ E w k ku):
 OkP P ρ E w (Instr.lookup T u ku ok) v:=by
 unfold kX at h;cases hc:fh P T ok x k H with
 |some v'=>
  rw[hc]at h;simp only[gx,aQ]at h;subst h;exact LY inv hc r rk
 |none=>
  rw[hc]at h;simp only[gx]at h;exact LZ inv h r rk
theorem BE (inv:Inv lo w0 ρ E H w) {T:TypeId} {x k v:AV} {u ku vu:Value} {H':Hp} (h:oc P T x k v H=some H') (r:Rep ρ E w x u) (rk:Rep ρ E w k ku) (rv:Rep ρ E w v vu):
 ∃w',(Instr.mapUpdate T u ku vu).run P w = .ok () w'∧Inv lo w0 ρ E H' w'∧Ext ρ E w ρ E w':=by
 unfold oc at h;split at h
 case h_2=>cases h
 case h_1 kT eT i hu=>
  obtain⟨d,hd,h⟩:=aZ.1 h;cases hkt:oZ P kT with
  |false=>simp[hkt]at h
  |true=>
   rw[hkt,ap]at h;obtain⟨kd',hkd',h⟩:=aZ.1 h;obtain⟨vd,hvd,h⟩:=aZ.1 h;cases h;obtain⟨kd,hkd⟩:∃kd,P.underlying kT=some kd:=by
    unfold oZ at hkt;cases hx:P.underlying kT with
    |none=>simp[hx]at hkt
    |some kd=>exact⟨kd,rfl⟩
   obtain rfl:=Em hkt (iD hkd' rk);obtain⟨kb,hg,hmap⟩:=xf hd;simp only[Rep]at r;obtain⟨b,hb,rfl⟩:=r;refine PE inv hu hkd hg hb (fun ρ' E' w' r=>hmap ρ' E' w' b r) (key_ok hkt hkd kd') (xd hkt hkd d) (iD hvd rv) (fun ρ' E' w' r=> ?_)
   have e:jH (kvD kT kd') (ke eT vd) (g7 kT eT d)=g7 kT eT (dB kT d kd' vd):=by
    unfold g7 dB;rw[am];exact Co kd' vd d.toList
   rw[e]at r;exact r
theorem En (inv:Inv lo w0 ρ E H w) {T:TypeId} {x k v:AV} {u ku vu:Value} {H':Hp} (h:od P T x k v H=some H') (r:Rep ρ E w x u) (rk:Rep ρ E w k ku) (rv:Rep ρ E w v vu):
 ∃w',(Instr.mapUpdate T u ku vu).run P w = .ok () w'∧Inv lo w0 ρ E H' w'∧Ext ρ E w ρ E w':=by
 unfold od at h;cases hc:kW P T x k v H with
 |some v'=>
  rw[hc]at h;simp only[aQ]at h;subst h;exact BD inv hc r rk rv
 |none=>
  rw[hc]at h;simp only at h;exact BE inv h r rk rv
theorem xg:∀{cs:List AV} {ns:List Int} {vs:List Value},qS cs=some ns->RepL ρ E w cs vs->vs=ns.map (Value.int .u8)
 | [],ns,vs,h,r=>by
   simp only[qS,aQ]at h;simp only[RepL]at r;subst h r;rfl
 |c::cs,ns,vs,h,r=>by
  unfold qS at h;split at h
  ·rename_i e;cases e
  ·rename_i n rr e;cases e;obtain⟨ms,hm,rfl⟩:=dq.1 h;simp only[RepL]at r;obtain⟨v,vs',rfl,h1,h2⟩:=r;simp only[Rep]at h1;subst h1;rw[xg hm h2];rfl
  ·cases h
theorem ou:∀{l:List AV} {ds:List D} {vs:List Value},qT l=some ds->RepL ρ E w l vs->vs=ds.map fun d=> .int .u8 d.toInt
 | [],ds,vs,h,r=>by
   simp only[qT,aQ]at h;subst h;simp only[RepL]at r;exact r
 |x::l,ds,vs,h,r=>by
  simp only[RepL]at r;obtain⟨v,vs',rfl,h1,h2⟩:=r;unfold qT at h;split at h
  ·rename_i e;cases e
  ·rename_i n rr e;cases e;obtain⟨ms,hm,rfl⟩:=dq.1 h;simp only[Rep]at h1;subst h1;rw[ou hm h2];rfl
  ·rename_i n rr e;cases e;obtain⟨ms,hm,rfl⟩:=dq.1 h;simp only[Rep]at h1;subst h1;rw[ou hm h2];rfl
  ·cases h
theorem SA (ds:List D):D.text (.list ds)=(ds.map D.toInt).foldl (fun r n=>r.push (UInt8.ofNat n.toNat)) ByteArray.empty:=by
 unfold D.text;rw[List.foldl_map]
 rfl
theorem VN (inv:Inv lo w0 ρ E H w) {s d:TypeId} {x v:AV} {u:Value} (h:tc P H s d x=some v) (r:Rep ρ E w x u):OkP P ρ E w (convert s d u) v:=by
 unfold tc at h;split at h
 ·rename_i e e1 e2;split at h
  ·rename_i i z off len he;obtain⟨p,hp,h⟩:=aZ.1 h;obtain⟨cs,n⟩:=p;obtain⟨a,cap,vs,rfl,hlen,hrl,hcells⟩:=ld inv hp r;obtain⟨ns,hvs,hv⟩:∃ns:List Int,vs=ns.map (Value.int .u8)∧Rep ρ E w v (.string (ns.foldl (fun r n=>r.push (UInt8.ofNat n.toNat)) ByteArray.empty)):=by
    cases hc:qS cs with
    |some ns=>
     simp only[hc,cI,gx,aQ]at h;subst h;exact⟨ns,xg hc hrl,by simp only[Rep]⟩
    |none=>
     simp only[hc,Option.map_none,gx]at h;obtain⟨ds,hd,rfl⟩:=dq.1 h;refine⟨ds.map D.toInt,?_,?_⟩
     ·rw[ou hd hrl,List.map_map];rfl
     ·simp only[Rep];rw[Hh,SA]
   subst hvs;have hnl:ns.length=n:=by have:=hrl.length;simp only[gY]at this;omega
   refine⟨.string (ns.foldl (fun r n=>r.push (UInt8.ofNat n.toNat)) ByteArray.empty),?_,hv⟩
   rw[run_convert_bytes_string w s d e a _ cap e1 he e2];cases a with
   |none=>
    have hl:ns = []:=by
     rcases hcells with h|⟨_,_,h,_⟩
     ·simpa using h
     ·cases h
    subst hl;simp at hnl;subst hnl;simp[Conv.bytesToString]
   |some a=>
    have hcell:∀(j:Nat) (m:Int),ns[j]? = some m->w.cell? (a.add j)=some (.int .u8 m):=by
     intro j m hj;rcases hcells with h|⟨b,off,ha,hb⟩
     ·have:ns = []:=by simpa using h
      rw[this]at hj;simp at hj
     ·cases ha;have:=hb j (.int .u8 m) (by rw[it,hj];rfl)
      unfold Addr.add;by_cases h0:j=0
      ·rw[if_pos h0];subst h0;exact this
      ·rw[if_neg h0];exact this
    have hl:=run_loadCells_list (P:=P) (w:=w) a (ns.map (Value.int .u8)) (fun j v hj=>by
     rw[it]at hj;cases hd':ns[j]? with
     |none=>rw[hd']at hj;cases hj
     |some m=>
      rw[hd']at hj;simp only[cI,aQ]at hj
      rw[hcell j m hd',hj])
    simp only[gY]at hl;rw[hnl]at hl;rw[run_bytesToString w a n cap _ hl]
  ·cases h
 ·cases h
theorem VO (inv:Inv lo w0 ρ E H w) {s d:TypeId} {x v:AV} {u:Value} (h:oY P H s d x=some v) (r:Rep ρ E w x u):OkP P ρ E w (convert s d u) v:=by
 unfold oY at h;cases hc:Ca P s d x with
 |some v'=>
  rw[hc]at h;simp only[gx,aQ]at h;subst h;exact LS hc r
 |none=>
  rw[hc]at h;simp only[gx]at h;exact VN inv h r
end
end Go.AM
