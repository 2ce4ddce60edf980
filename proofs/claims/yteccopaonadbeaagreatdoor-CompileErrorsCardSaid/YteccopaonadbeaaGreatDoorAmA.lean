/-
  Single operations: copy, maps.
-/
import Derived.Test.YteccopaonadbeaaGreatDoorAm9c
set_option linter.unusedVariables false
set_option linter.unusedSimpArgs false
namespace Go.AM
section
variable {P:Program} {lo:Nat→Prop} {w0:World} {ρ:Nat→Option Nat} {E:Nat→Prop} {H:Hp} {w:World}
theorem ok_copy (inv:Inv lo w0 ρ E H w) {T T2 ty:TypeId} {d x v:AV} {du xu:Value} {H':Hp} (h:copyA P T d x H=some (v,H')) (rd:Rep ρ E w d du) (rx:Rep ρ E w x xu):
 OkH P lo w0 ρ E w (Builtin.copy_ #[T,T2] ty #[du,xu]) v H':=by
 unfold copyA at h
 split at h
 case h_2=>cases h
 case h_1 e i z off len hu=>
  cases hs:sz P e with
  |none=>simp[hs]at h
  |some s=>
   cases hro:rowsOf s H x with
   |none=>simp[hs,hro]at h
   |some p=>
    obtain⟨src,n⟩:=p
    cases hg:getB H i with
    |none=>simp[hs,hg]at h
    |some cs=>
     simp only[hs,hro,hg,Option.bind_some]at h
     split at h
     case isFalse=>cases h
     case isTrue hc=>
      obtain⟨hzs,hfit,hone,_⟩:=hc
      subst hzs
      obtain⟨s,rfl⟩:∃s,s=z:=⟨_,rfl⟩
      simp only[Option.some.injEq,Prod.mk.injEq]at h
      obtain⟨rfl,rfl⟩:=h
      obtain⟨xa,xcap,vs,rfl,hlen,hrl,hcells⟩:=rowsOf_rep inv hro rx
      simp only[Rep]at rd
      obtain⟨b,cap,hρ,rfl,hcap,c0,T0,f0,hc0,hfit0⟩:=rd
      obtain⟨c,T',hcell,hlc,hrc⟩:=inv.cells hg hρ
      have hvl:vs.length=n*s:=by rw[← hrl.length,hlen]
      have hmin:min n len*s≤n*s:=Nat.mul_le_mul_right _ (Nat.min_le_left _ _)
      have hvt:(vs.take (min n len*s)).length=min n len*s:=by simp;omega
      have hst:stN H (min n len*s) (.ptr i off) (src.take (min n len*s))=some (H.put i (some (.cells (setCells cs off (src.take (min n len*s)))))):=by
       simp only[stN,hg,Option.bind_some]
       rw[if_pos ⟨by simp;omega,hfit,hone⟩]
      obtain⟨a,w',e',_,hrun,inv',ext⟩:=ok_stN (P:=P) inv hst (u:= .pointer (some ⟨b,off,none⟩)) (by simp only[Rep];exact⟨b,hρ,rfl⟩) (hrl.take (min n len*s))
      simp only[Value.pointer.injEq,Option.some.injEq]at e'
      subst e'
      refine⟨.int .i64 (min n len:Nat),w',ρ,?_,inv',ext,by simp only[Rep]⟩
      have hfirst:(Builtin.firstCells s (min n len) (.slice xa n xcap)).run P w = .ok (vs.take (min n len*s)).toArray w:=by
       rcases hcells with rfl|⟨xb,xoff,rfl,hcs⟩
       ·have hz:min n len*s=0:=by simp at hvl;omega
        cases xa with
        |none=>simp[Builtin.firstCells]
        |some xa=>simp[Builtin.firstCells,hz,loadCells,loadCellsFrom]
       ·have:=run_loadCells_list (P:=P) w ⟨xb,xoff,none⟩ (vs.take (min n len*s)) (fun j v hv=>by
         rw[Addr.add_none]
         rw[List.getElem?_take]at hv
         split at hv
         ·exact hcs j v hv
         ·cases hv)
        rw[hvt]at this
        simpa[Builtin.firstCells]using this
      have hm:Nat.min n len=min n len:=rfl
      simp[Builtin.copy_,run_underlying hu,Builtin.lenOf,run_sz hs,hm,hfirst,hrun,goInt]
theorem keyIs_int {kd:TypeDesc} {v:Value} (h:keyIs kd v=true):(∃k n,kd = .int k∧v = .int k n)∨(∃s,kd = .string∧v = .string s)∨(∃b,kd = .bool∧v = .bool b):=by
 unfold keyIs at h
 split at h
 ·rename_i k k' n
  obtain rfl:k=k':=by simpa using h
  exact .inl ⟨_,_,rfl,rfl⟩
 ·exact .inr (.inl ⟨_,rfl,rfl⟩)
 ·exact .inr (.inr ⟨_,rfl,rfl⟩)
 ·cases h
theorem run_checkKey {kT:TypeId} {kd:TypeDesc} {v:Value} (em:Bool) (hu:P.underlying kT=some kd) (h:keyIs kd v=true) (w:World):(Instr.checkKey em 10000 kT v).run P w = .ok () w:=by
 have key:∀n,(Instr.checkKey em (n+1) kT v).run P w = .ok () w:=by
  intro n
  rcases keyIs_int h with⟨k,n,rfl,rfl⟩|⟨s,rfl,rfl⟩|⟨b,rfl,rfl⟩<;>simp[Instr.checkKey,run_underlying hu]
 exact key 9999
theorem sameNow_key {kd:TypeDesc} {a b:Value} (ha:keyIs kd a=true) (hb:keyIs kd b=true):Instr.sameNow kd a b=some (keyEq a b):=by
 rcases keyIs_int ha with⟨k,n,rfl,rfl⟩|⟨s,rfl,rfl⟩|⟨x,rfl,rfl⟩
 ·rcases keyIs_int hb with⟨k',n',e,rfl⟩|⟨s,e,rfl⟩|⟨x,e,rfl⟩<;>cases e
  simp[Instr.sameNow,keyEq]
 ·rcases keyIs_int hb with⟨k',n',e,rfl⟩|⟨s,e,rfl⟩|⟨x,e,rfl⟩<;>cases e
  simp[Instr.sameNow,keyEq]
 ·rcases keyIs_int hb with⟨k',n',e,rfl⟩|⟨s,e,rfl⟩|⟨x,e,rfl⟩<;>cases e
  simp[Instr.sameNow,keyEq]
theorem ba_eq {a b:ByteArray} (h:(a==b)=true):a=b:=by
 have h':(a.data==b.data)=true:=h
 cases a;cases b
 simpa using h'
theorem ba_refl (a:ByteArray):(a==a)=true:=by
 show(a.data==a.data)=true
 simp
theorem sameBits_key {kd:TypeDesc} {a b:Value} (ha:keyIs kd a=true) (hb:keyIs kd b=true) (h:keyEq a b=true):Instr.sameBits 10000 b a=true:=by
 rcases keyIs_int ha with⟨k,n,rfl,rfl⟩|⟨s,rfl,rfl⟩|⟨x,rfl,rfl⟩
 ·rcases keyIs_int hb with⟨k',n',e,rfl⟩|⟨s,e,rfl⟩|⟨x,e,rfl⟩<;>cases e
  simp only[keyEq,beq_iff_eq]at h;subst h;simp[Instr.sameBits]
 ·rcases keyIs_int hb with⟨k',n',e,rfl⟩|⟨s,e,rfl⟩|⟨x,e,rfl⟩<;>cases e
  simp only[keyEq]at h;obtain rfl:=ba_eq h;simp[Instr.sameBits,ba_refl]
 ·rcases keyIs_int hb with⟨k',n',e,rfl⟩|⟨s,e,rfl⟩|⟨x,e,rfl⟩<;>cases e
  simp only[keyEq,beq_iff_eq]at h;subst h;simp[Instr.sameBits]
theorem findNow_rep {kd:TypeDesc} {k:Value} (hk:keyIs kd k=true):∀{xs:List (Value×AV)} {es:List MapEntry} (n:Nat),RepM ρ E w xs es→xs.all (fun e=>keyIs kd e.1)=true→
 (∃v,findA k xs=some v∧∃j u,Instr.findNow kd k es n=some (some (n+j,u))∧Rep ρ E w v u∧∃e,es[j]? = some e∧keyEq k e.key=true∧keyIs kd e.key=true∧
  ∀v' u',Rep ρ E w v' u'→RepM ρ E w (updA k v' xs) (es.set j {e with key:=k,val:=u'}))∨
 (findA k xs=none∧Instr.findNow kd k es n=some none∧∀v' u' born,Rep ρ E w v' u'→RepM ρ E w (updA k v' xs) (es ++ [{key:=k,val:=u',born:=born}]))
 | [],es,n,h,_=>by
   simp only[RepM]at h
   subst h
   refine .inr ⟨rfl,rfl,fun v' u' born hr=> ?_⟩
   simp only[updA,List.nil_append,RepM]
   exact⟨_,[],rfl,rfl,hr,rfl⟩
 | (k',v0)::xs,es,n,h,hall=>by
   simp only[RepM]at h
   obtain⟨e,es',rfl,hke,hv0,hr⟩:=h
   simp only[List.all_cons,Bool.and_eq_true]at hall
   obtain⟨hk',hall'⟩:=hall
   subst hke
   have hs:=sameNow_key hk hk'
   cases hq:keyEq k e.key with
   |true=>
    refine .inl ⟨v0,by simp[findA,hq],0,e.val,by simp[Instr.findNow,hs,hq],hv0,e,by simp,hq,hk',fun v' u' hr'=> ?_⟩
    simp only[updA,hq,cond_true,List.set_cons_zero,RepM]
    exact⟨_,es',rfl,rfl,hr',hr⟩
   |false=>
    rcases findNow_rep hk (n+1) hr hall' with⟨v,hf,j,u,hfn,hrv,e',he',hke',hkk',hset⟩|⟨hf,hfn,hset⟩
    ·refine .inl ⟨v,by simp[findA,hq,hf],j+1,u,by simp[Instr.findNow,hs,hq,hfn];omega,hrv,e',by simpa using he',hke',hkk',fun v' u' hr'=> ?_⟩
     simp only[updA,hq,cond_false,List.set_cons_succ,RepM]
     exact⟨e,_,rfl,rfl,hv0,hset v' u' hr'⟩
    ·refine .inr ⟨by simp[findA,hq,hf],by simp[Instr.findNow,hs,hq,hfn],fun v' u' born hr'=> ?_⟩
     simp only[updA,hq,cond_false,List.cons_append,RepM]
     exact⟨e,_,rfl,rfl,hv0,hset v' u' born hr'⟩
theorem keyArr_some {kd:TypeDesc} {v:Value} (h:keyArr P kd v=true):∃m e k cs,kd = .array m e∧v = .agg cs∧P.underlying e=some (.int k)∧sz P e=some 1∧cs.size=m∧∀x∈cs.toList,∃n,x = .int k n:=by
 unfold keyArr at h
 split at h
 ·rename_i m e cs
  split at h
  ·rename_i k hu hz
   simp only[Bool.and_eq_true,List.all_eq_true]at h
   refine⟨m,e,k,cs,rfl,rfl,hu,hz,Nat.eq_of_beq_eq_true h.1,fun x hx=> ?_⟩
   have:=h.2 x hx
   unfold isIntK at this
   split at this
   ·rename_i k' n
    have hk:k=k':=by simpa using this
    exact⟨n,by rw[hk]⟩
   ·cases this
  ·cases h
 ·cases h
theorem scal_of {e:TypeId} {d:TypeDesc} (hu:P.underlying e=some d) (h:∀fs,d≠ .struct fs) (h':∀m t,d≠ .array m t):aggB P e=some false:=by
 unfold aggB
 rw[hu]
 cases d<;>first|rfl|exact absurd rfl (h _)|exact absurd rfl (h' _ _)
theorem run_checkKey_arr {kT:TypeId} {kd:TypeDesc} {v:Value} (em:Bool) (hu:P.underlying kT=some kd) (h:keyArr P kd v=true) (w:World):(Instr.checkKey em 10000 kT v).run P w = .ok () w:=by
 obtain⟨m,e,k,cs,rfl,rfl,he,hz,hs,hall⟩:=keyArr_some h
 have ha:aggB P e=some false:=scal_of he (by intro fs hc;cases hc) (by intro m t hc;cases hc)
 have key:∀N,(∀q,(Instr.checkKey em N e (.int k q)).run P w = .ok () w)→(Instr.checkKey em (N+1) kT (.agg cs)).run P w = .ok () w:=by
  intro N hN
  simp only[Instr.checkKey,Sem.run_bind,run_underlying hu,Result.andThen_ok]
  simp only[Std.Legacy.Range.forIn_eq_forIn_range',Std.Legacy.Range.size,Nat.sub_zero,Nat.add_sub_cancel,Nat.div_one, ← List.range_eq_range']
  have go:∀js:List Nat,(∀j∈js,j<m)→(forIn js PUnit.unit (fun i (_:PUnit)=>do
   let __do_lift ← sizeOf e
   let __do_lift ← part e cs (i*__do_lift)
   Instr.checkKey em N e __do_lift
   pure (ForInStep.yield PUnit.unit)):Sem PUnit).run P w = .ok PUnit.unit w:=by
   intro js
   induction js with
   |nil=>intro _;simp
   |cons j js ih=>
    intro hj
    have hjm:j<cs.size:=by rw[hs];exact hj j List.mem_cons_self
    obtain⟨x,hx⟩:∃x,cs[j]? = some x:=⟨cs[j],by simp[hjm]⟩
    obtain⟨q,rfl⟩:=hall x (List.mem_of_getElem? (by simpa using hx))
    have h1:=run_part1 ha (cs:=cs) (off:=j*1) (u:= .int k q) (by simpa using hx) w
    rw[List.forIn_cons]
    simp only[Sem.run_bind,run_sz hz,Result.andThen_ok,h1,hN,Sem.run_pure]
    exact ih fun j hj'=>hj j (List.mem_cons_of_mem _ hj')
  rw[go (List.range m) fun j hj=>List.mem_range.1 hj]
  simp only[Result.andThen_ok,Sem.run_pure]
 have inner:∀N q,(Instr.checkKey em (N+1) e (.int k q)).run P w = .ok () w:=fun N q=>by simp[Instr.checkKey,run_underlying he]
 exact key 9999 (inner 9998)
theorem eqElems_ints {e:TypeId} {k:IntKind} (d:Nat) (he:P.underlying e=some (.int k)) {us vs:Array Value} (hu:∀x∈us.toList,∃n,x = .int k n) (hv:∀x∈vs.toList,∃n,x = .int k n) (hs:us.size=vs.size):∀(c i:Nat),i+c=us.size→
 (eqElems (d+1) e 1 us vs (List.range' i c)).run P w = .ok (eqInts (us.toList.drop i) (vs.toList.drop i)) w
 |0,i,hi=>by
  have h1:us.toList.drop i = []:=List.drop_eq_nil_of_le (by rw[Array.length_toList];omega)
  have h2:vs.toList.drop i = []:=List.drop_eq_nil_of_le (by rw[Array.length_toList];omega)
  rw[h1,h2]
  simp[eqElems,eqInts]
 |c+1,i,hi=>by
  have ha:aggB P e=some false:=scal_of he (by intro fs hc;cases hc) (by intro m t hc;cases hc)
  have hil:i<us.size:=by omega
  have hil':i<vs.size:=by omega
  obtain⟨a,ea⟩:=hu us[i] (by simp)
  obtain⟨b,eb⟩:=hv vs[i] (by simp)
  have h1:=run_part1 ha (cs:=us) (off:=i*1) (u:= .int k a) (by simp[hil,ea]) w
  have h2:=run_part1 ha (cs:=vs) (off:=i*1) (u:= .int k b) (by simp[hil',eb]) w
  have h3:(Op.equalIn (d+1) e (.int k a) (.int k b)).run P w = .ok (a==b) w:=by simp[Op.equalIn,run_underlying he]
  have d1:us.toList.drop i = .int k a::us.toList.drop (i+1):=by rw[List.drop_eq_getElem_cons (by simpa using hil)];congr 1
  have d2:vs.toList.drop i = .int k b::vs.toList.drop (i+1):=by rw[List.drop_eq_getElem_cons (by simpa using hil')];congr 1
  rw[List.range'_succ,d1,d2]
  simp only[eqElems,Sem.run_bind,h1,h2,h3,Result.andThen_ok,eqInts]
  cases hab:(a==b)with
  |true=>simpa using eqElems_ints d he hu hv hs c (i+1) (by omega)
  |false=>simp
theorem run_equal_arr {kT:TypeId} {kd:TypeDesc} {a b:Value} (hu:P.underlying kT=some kd) (ha:keyArr P kd a=true) (hb:keyArr P kd b=true) (w:World):(Op.equal kT a b).run P w = .ok (keyEq a b) w:=by
 obtain⟨m,e,k,cs,rfl,rfl,he,hz,hs,hall⟩:=keyArr_some ha
 obtain⟨m',e',k',cs',hkd,rfl,he',hz',hs',hall'⟩:=keyArr_some hb
 cases hkd
 obtain rfl:k=k':=by rw[he]at he';cases he';rfl
 have h1:=run_equalIn_array (P:=P) (w:=w) 9999 kT e m 1 cs cs' hu hz
 have h2:=eqElems_ints (w:=w) 9998 he hall hall' (hs.trans hs'.symm) m 0 (by omega)
 rw[← List.range_eq_range']at h2
 simp only[List.drop_zero]at h2
 exact h1.trans h2
theorem eqInts_eq {k:IntKind}:∀{us vs:List Value},(∀x∈us,∃n,x = .int k n)→(∀x∈vs,∃n,x = .int k n)→eqInts us vs=true→us=vs
 | [],[],_,_,_=>rfl
 | [],_::_,_,_,h=>by simp[eqInts]at h
 |_::_,[],_,_,h=>by simp[eqInts]at h
 |x::us,y::vs,hu,hv,h=>by
  obtain⟨a,rfl⟩:=hu x List.mem_cons_self
  obtain⟨b,rfl⟩:=hv y List.mem_cons_self
  simp only[eqInts,Bool.and_eq_true,beq_iff_eq]at h
  rw[h.1,eqInts_eq (fun x hx=>hu x (List.mem_cons_of_mem _ hx)) (fun x hx=>hv x (List.mem_cons_of_mem _ hx)) h.2]
theorem zip_self {α:Type} {p:α×α}:∀{l:List α},p∈l.zip l→p.1=p.2∧p.1∈l
 | [],h=>by simp at h
 |x::l,h=>by
  simp only[List.zip_cons_cons,List.mem_cons]at h
  rcases h with rfl|h
  ·exact⟨rfl,List.mem_cons_self⟩
  ·exact⟨(zip_self h).1,List.mem_cons_of_mem _ (zip_self h).2⟩
theorem keyOk_kinds {kd:TypeDesc} {a b:Value} (ha:keyOk P kd a=true) (hb:keyOk P kd b=true):(keyIs kd a=true∧keyIs kd b=true)∨(keyArr P kd a=true∧keyArr P kd b=true):=by
 simp only[keyOk,Bool.or_eq_true]at ha hb
 rcases ha with ha|ha
 ·rcases hb with hb|hb
  ·exact .inl ⟨ha,hb⟩
  ·obtain⟨m,e,k,cs,rfl,_⟩:=keyArr_some hb
   rcases keyIs_int ha with⟨_,_,e,_⟩|⟨_,e,_⟩|⟨_,e,_⟩<;>cases e
 ·rcases hb with hb|hb
  ·obtain⟨m,e,k,cs,rfl,_⟩:=keyArr_some ha
   rcases keyIs_int hb with⟨_,_,e,_⟩|⟨_,e,_⟩|⟨_,e,_⟩<;>cases e
  ·exact .inr ⟨ha,hb⟩
theorem run_checkKey_ok {kT:TypeId} {kd:TypeDesc} {v:Value} (em:Bool) (hu:P.underlying kT=some kd) (h:keyOk P kd v=true) (w:World):(Instr.checkKey em 10000 kT v).run P w = .ok () w:=by
 rcases keyOk_kinds h h with⟨h,_⟩|⟨h,_⟩
 ·exact run_checkKey em hu h w
 ·exact run_checkKey_arr em hu h w
theorem sameBits_ok {kd:TypeDesc} {a b:Value} (ha:keyOk P kd a=true) (hb:keyOk P kd b=true) (h:keyEq a b=true):Instr.sameBits 10000 b a=true:=by
 rcases keyOk_kinds ha hb with⟨ha,hb⟩|⟨ha,hb⟩
 ·exact sameBits_key ha hb h
 ·obtain⟨m,e,k,cs,rfl,rfl,he,hz,hs,hall⟩:=keyArr_some ha
  obtain⟨m',e',k',cs',hkd,rfl,he',hz',hs',hall'⟩:=keyArr_some hb
  cases hkd
  obtain rfl:k=k':=by rw[he]at he';cases he';rfl
  simp only[keyEq]at h
  have hcs:cs=cs':=by
   have:=eqInts_eq hall hall' h
   cases cs;cases cs';simpa using this
  subst hcs
  have key:∀n,Instr.sameBits (n+1) (.agg cs) (.agg cs)=true:=by
   intro n
   simp only[Instr.sameBits,beq_self_eq_true,Bool.true_and,List.all_eq_true]
   intro p hp
   obtain⟨e1,hx⟩:=zip_self hp
   obtain⟨q,hq⟩:=hall _ hx
   rw[← e1,hq]
   simp[Instr.sameBits]
  exact key 9999
theorem findAsking_rep {kT:TypeId} {kd:TypeDesc} {k:Value} (hu:P.underlying kT=some kd) (hk:keyArr P kd k=true):∀{xs:List (Value×AV)} {es:List MapEntry} (n:Nat),RepM ρ E w xs es→xs.all (fun e=>keyOk P kd e.1)=true→
 (∃v,findA k xs=some v∧∃j u,(Instr.findAsking kT k es n).run P w = .ok (some (n+j,u)) w∧Rep ρ E w v u∧∃e,es[j]? = some e∧keyEq k e.key=true∧keyOk P kd e.key=true∧
  ∀v' u',Rep ρ E w v' u'→RepM ρ E w (updA k v' xs) (es.set j {e with key:=k,val:=u'}))∨
 (findA k xs=none∧(Instr.findAsking kT k es n).run P w = .ok none w∧∀v' u' born,Rep ρ E w v' u'→RepM ρ E w (updA k v' xs) (es ++ [{key:=k,val:=u',born:=born}]))
 | [],es,n,h,_=>by
   simp only[RepM]at h
   subst h
   refine .inr ⟨rfl,by simp[Instr.findAsking],fun v' u' born hr=> ?_⟩
   simp only[updA,List.nil_append,RepM]
   exact⟨_,[],rfl,rfl,hr,rfl⟩
 | (k',v0)::xs,es,n,h,hall=>by
   simp only[RepM]at h
   obtain⟨e,es',rfl,hke,hv0,hr⟩:=h
   simp only[List.all_cons,Bool.and_eq_true]at hall
   obtain⟨hk',hall'⟩:=hall
   subst hke
   have hk2:keyArr P kd e.key=true:=by
    rcases keyOk_kinds (by simp only[keyOk,hk,Bool.or_true]:keyOk P kd k=true) hk' with⟨h1,_⟩|⟨_,h2⟩
    ·obtain⟨m,e,k,cs,rfl,_⟩:=keyArr_some hk
     rcases keyIs_int h1 with⟨_,_,e,_⟩|⟨_,e,_⟩|⟨_,e,_⟩<;>cases e
    ·exact h2
   have hs:=run_equal_arr hu hk hk2 w
   cases hq:keyEq k e.key with
   |true=>
    rw[hq]at hs
    refine .inl ⟨v0,by simp[findA,hq],0,e.val,by simp[Instr.findAsking,hs],hv0,e,by simp,hq,hk',fun v' u' hr'=> ?_⟩
    simp only[updA,hq,cond_true,List.set_cons_zero,RepM]
    exact⟨_,es',rfl,rfl,hr',hr⟩
   |false=>
    rw[hq]at hs
    rcases findAsking_rep hu hk (n+1) hr hall' with⟨v,hf,j,u,hfn,hrv,e',he',hke',hkk',hset⟩|⟨hf,hfn,hset⟩
    ·refine .inl ⟨v,by simp[findA,hq,hf],j+1,u,by simp[Instr.findAsking,hs,hfn];omega,hrv,e',by simpa using he',hke',hkk',fun v' u' hr'=> ?_⟩
     simp only[updA,hq,cond_false,List.set_cons_succ,RepM]
     exact⟨e,_,rfl,rfl,hv0,hset v' u' hr'⟩
    ·refine .inr ⟨by simp[findA,hq,hf],by simp[Instr.findAsking,hs,hfn],fun v' u' born hr'=> ?_⟩
     simp only[updA,hq,cond_false,List.cons_append,RepM]
     exact⟨e,_,rfl,rfl,hv0,hset v' u' born hr'⟩
theorem findKey_rep {kT:TypeId} {kd:TypeDesc} {k:Value} (hu:P.underlying kT=some kd) (hk:keyOk P kd k=true) {xs:List (Value×AV)} {es:List MapEntry} (hr:RepM ρ E w xs es) (hall:xs.all (fun e=>keyOk P kd e.1)=true):
 (∃v,findA k xs=some v∧∃j u,(Instr.findKey kT k es).run P w = .ok (some (j,u)) w∧Rep ρ E w v u∧∃e,es[j]? = some e∧keyEq k e.key=true∧keyOk P kd e.key=true∧
  ∀v' u',Rep ρ E w v' u'→RepM ρ E w (updA k v' xs) (es.set j {e with key:=k,val:=u'}))∨
 (findA k xs=none∧(Instr.findKey kT k es).run P w = .ok none w∧∀v' u' born,Rep ρ E w v' u'→RepM ρ E w (updA k v' xs) (es ++ [{key:=k,val:=u',born:=born}])):=by
 rcases keyOk_kinds hk hk with⟨h,_⟩|⟨h,_⟩
 ·have hall':xs.all (fun e=>keyIs kd e.1)=true:=by
   rw[List.all_eq_true]at hall ⊢
   intro x hx
   rcases keyOk_kinds hk (hall x hx)with⟨_,h2⟩|⟨h1,_⟩
   ·exact h2
   ·obtain⟨m,e,k,cs,rfl,_⟩:=keyArr_some h1
    rcases keyIs_int h with⟨_,_,e,_⟩|⟨_,e,_⟩|⟨_,e,_⟩<;>cases e
  rcases findNow_rep h 0 hr hall' with⟨v1,hf,j,u1,hfn,hrv,e,he,hke,hkk,hst⟩|⟨hf,hfn,hst⟩
  ·exact .inl ⟨v1,hf,j,u1,by simp[Instr.findKey,run_underlying hu,hfn],hrv,e,he,hke,by simp only[keyOk,hkk,Bool.true_or],hst⟩
  ·exact .inr ⟨hf,by simp[Instr.findKey,run_underlying hu,hfn],hst⟩
 ·have hfk:(Instr.findKey kT k es).run P w=(Instr.findAsking kT k es 0).run P w:=by
   obtain⟨m,e,k',cs,rfl,rfl,_⟩:=keyArr_some h
   cases es with
   |nil=>simp[Instr.findKey,run_underlying hu,Instr.findNow,Instr.findAsking]
   |cons x es=>simp[Instr.findKey,run_underlying hu,Instr.findNow,Instr.sameNow]
  rw[hfk]
  have:=findAsking_rep hu h 0 hr hall
  simpa only[Nat.zero_add]using this
theorem scalsV_rep:∀{cs:List AV} {vs us:List Value},scalsV cs=some vs→RepL ρ E w cs us→us=vs
 | [],vs,us,h,r=>by simp only[scalsV,Option.some.injEq]at h;simp only[RepL]at r;rw[← h,r]
 |c::cs,vs,us,h,r=>by
  cases c<;>simp only[scalsV]at h<;>try (cases h;done)
  rename_i v
  simp only[RepL]at r
  obtain⟨u,us',rfl,h1,h2⟩:=r
  obtain⟨vs',hv,rfl⟩:=Option.map_eq_some_iff.1 h
  simp only[Rep]at h1
  rw[h1,scalsV_rep hv h2]
theorem keyV_rep {x:AV} {k u:Value} (h:keyV x=some k) (r:Rep ρ E w x u):u=k:=by
 unfold keyV at h
 split at h
 ·cases h;simpa only[Rep]using r
 ·obtain⟨vs,hv,rfl⟩:=Option.map_eq_some_iff.1 h
  simp only[Rep]at r
  obtain⟨xs,rfl,hr⟩:=r
  have:=scalsV_rep hv hr
  rw[← this]
 ·cases h
theorem entriesOf_rep (inv:Inv lo w0 ρ E H w) {x:AV} {u:Value} {xs:List (Value×AV)} (h:entriesOf H x=some xs) (r:Rep ρ E w x u):
 ∃m arr,u = .map m∧RepM ρ E w xs arr.toList∧(match m with|none=>arr = #[]|some b=>∃clk,w.heap[b]? = some (.map arr clk)):=by
 unfold entriesOf at h
 split at h
 ·simp only[Rep]at r
  obtain⟨b,hb,rfl⟩:=r
  obtain⟨arr,clk,hm,hr,_⟩:=inv.mapAt h hb
  exact⟨some b,arr,rfl,hr,clk,hm⟩
 ·unfold entriesP at h
  split at h
  ·cases h
   simp only[Rep]at r
   obtain⟨b,arr,clk,rfl,_,hm,hr,_⟩:=r
   exact⟨some b,arr,rfl,RepM.mono Ext.up _ _ hr,clk,hm⟩
  ·cases h
   simp only[Rep]at r
   subst r
   exact⟨none, #[],rfl,by simp[RepM],rfl⟩
  ·cases h
theorem ok_lookupK (inv:Inv lo w0 ρ E H w) {T:TypeId} {ok:Bool} {x k v:AV} {u ku:Value} (h:lookupK P T ok x k H=some v) (r:Rep ρ E w x u) (rk:Rep ρ E w k ku):
 OkP P ρ E w (Instr.lookup T u ku ok) v:=by
 unfold lookupK at h
 split at h
 case h_2=>cases h
 case h_1 kT eT kv hu hkv=>
  obtain rfl:=keyV_rep hkv rk
  cases hkd:P.underlying kT with
  |none=>simp[hkd]at h
  |some kd=>
   cases he:entriesOf H x with
   |none=>simp[hkd,he]at h
   |some xs=>
    simp only[hkd,he,Option.bind_some]at h
    split at h
    case isFalse=>cases h
    case isTrue hc=>
     obtain⟨hkey,hall⟩:=hc
     cases hz:zeroA P eT with
     |none=>simp[hz]at h
     |some z=>
      simp only[hz,Option.bind_some]at h
      obtain⟨_,zv,_,_,hrun,hrep⟩:=zeroA_rep hz
      obtain⟨m,arr,rfl,hrm,hm⟩:=entriesOf_rep inv he r
      rcases findKey_rep hkd hkey hrm hall with⟨v1,hf,j,u1,hfn,hrv,_⟩|⟨hf,hfn,_⟩
      ·simp only[hf,Option.some.injEq]at h
       subst h
       refine⟨if ok then .tuple #[u1, .bool true]else u1,?_,?_⟩
       ·cases m with
        |none=>
         simp only at hm
         subst hm
         have hfn:=hfn;simp only[Array.toList_empty]at hfn
         simp[Instr.lookup,run_underlying hu,run_checkKey_ok _ hkd hkey,hfn]
        |some b=>obtain⟨clk,hb⟩:=hm;simp[Instr.lookup,run_underlying hu,run_getObj_map hb,run_checkKey_ok _ hkd hkey,hfn]
       ·cases ok
        ·simpa using hrv
        ·simp only[cond_true,if_true,Rep]
         exact⟨_,rfl,RepL.cons hrv (RepL.cons (by simp only[Rep]) RepL.nil)⟩
      ·simp only[hf,Option.some.injEq]at h
       subst h
       refine⟨if ok then .tuple #[zv, .bool false]else zv,?_,?_⟩
       ·cases m with
        |none=>
         simp only at hm
         subst hm
         have hfn:=hfn;simp only[Array.toList_empty]at hfn
         simp[Instr.lookup,run_underlying hu,run_checkKey_ok _ hkd hkey,hfn,hrun]
        |some b=>obtain⟨clk,hb⟩:=hm;simp[Instr.lookup,run_underlying hu,run_getObj_map hb,run_checkKey_ok _ hkd hkey,hfn,hrun]
       ·cases ok
        ·simpa using hrep ρ E w
        ·simp only[cond_true,if_true,Rep]
         exact⟨_,rfl,RepL.cons (hrep ρ E w) (RepL.cons (by simp only[Rep]) RepL.nil)⟩
theorem upd_map (inv:Inv lo w0 ρ E H w) {T kT eT:TypeId} {kd:TypeDesc} {i b:Nat} {kb k':Blk} {xs:List (Value×AV)} {v:AV} {ku vu:Value} (hu:P.underlying T=some (.map kT eT)) (hkd:P.underlying kT=some kd)
 (hk:H.get i=some kb) (hb:ρ i=some b) (hv:∀ρ' E' w',BlkRep ρ' E' w' kb b→BlkRep ρ' E' w' (.map xs) b) (hkey:keyOk P kd ku=true) (hall:xs.all (fun e=>keyOk P kd e.1)=true) (rv:Rep ρ E w v vu)
 (hto:∀ρ' E' w',BlkRep ρ' E' w' (.map (updA ku v xs)) b→BlkRep ρ' E' w' k' b):
 ∃w',(Instr.mapUpdate T (.map (some b)) ku vu).run P w = .ok () w'∧Inv lo w0 ρ E (H.put i (some k')) w'∧Ext ρ E w ρ E w':=by
 obtain⟨arr,clk,hm,hrm,hbo⟩:=hv _ _ _ (inv.blk i kb b hk hb)
 have hlt:b<w.heap.size:=(inv.bd i b hb).2
 have hset:∀o,(setObj b o).run P w = .ok () {w with heap:=w.heap.setIfInBounds b o}:=fun o=>by simp[setObj,Sem.run,hm]
 have hchange:∀(arr':Array MapEntry) (clk':Nat),(∀ρ' E' w',Ext ρ E w ρ' E' w'→RepM ρ' E' w' (updA ku v xs) arr'.toList)→Born arr' clk'→
  Inv lo w0 ρ E (H.put i (some k')) {w with heap:=w.heap.setIfInBounds b (.map arr' clk')}∧Ext ρ E w ρ E {w with heap:=w.heap.setIfInBounds b (.map arr' clk')}:=by
  intro arr' clk' hr' hbo'
  have hnew:({w with heap:=w.heap.setIfInBounds b (.map arr' clk')}:World).heap[b]? = some (.map arr' clk'):=by simp[hlt]
  exact inv.change i b kb k' hk hb (fun j hj=>by simp[Array.getElem?_setIfInBounds_ne (Ne.symm hj)]) (by simp) (fun c T f hcc=>by rw[hm]at hcc;cases hcc)
   (fun ext=>hto _ _ _ ⟨arr',clk',hnew,hr' _ _ _ ext,hbo'⟩)
 rcases findKey_rep hkd hkey hrm hall with⟨v1,hf,j,u1,hfn,_,e,he,hke,hkk,hst⟩|⟨hf,hfn,hst⟩
 ·have he':arr[j]? = some e:=by simpa using he
  obtain⟨inv',ext⟩:=hchange (arr.modify j fun e=>{e with key:=ku,val:=vu}) clk (fun ρ' E' w' ext=>by
   have:=(hst v vu rv).mono ext
   have e1:(arr.modify j fun e=>{e with key:=ku,val:=vu}).toList=arr.toList.set j {e with key:=ku,val:=vu}:=by
    apply List.ext_getElem?
    intro q
    rw[Array.getElem?_toList,Array.getElem?_modify,List.getElem?_set]
    by_cases hq:j=q
    ·subst hq
     obtain⟨hjl,hje⟩:=Array.getElem?_eq_some_iff.1 he'
     simp[hjl,hje]
    ·simp[hq]
   rw[e1];exact this) ⟨fun x hx=>by
    obtain⟨q,hq⟩:=List.mem_iff_getElem?.1 hx
    rw[Array.getElem?_toList,Array.getElem?_modify]at hq
    by_cases hjq:j=q
    ·subst hjq
     rw[if_pos rfl,he']at hq
     cases hq
     exact hbo.1 e (List.mem_of_getElem? he)
    ·rw[if_neg hjq]at hq
     exact hbo.1 x (List.mem_of_getElem? (by rw[Array.getElem?_toList];exact hq)),by
    have e2:(arr.modify j fun e=>{e with key:=ku,val:=vu}).toList.map (·.born)=arr.toList.map (·.born):=by
     apply List.ext_getElem?
     intro q
     rw[List.getElem?_map,List.getElem?_map,Array.getElem?_toList,Array.getElem?_toList,Array.getElem?_modify]
     by_cases hq:j=q
     ·subst hq;rw[if_pos rfl,he'];rfl
     ·rw[if_neg hq]
    rw[e2];exact hbo.2⟩
  refine⟨_,?_,inv',ext⟩
  have hsb:=sameBits_ok hkey hkk hke
  simp[Instr.mapUpdate,run_underlying hu,run_getObj_map hm,run_checkKey_ok _ hkd hkey,hfn,Instr.keyThatStays,he',hsb,hset]
 ·obtain⟨inv',ext⟩:=hchange (arr.push {key:=ku,val:=vu,born:=clk}) (clk+1) (fun ρ' E' w' ext=>by
   have:=(hst v vu clk rv).mono ext
   simpa using this) ⟨fun x hx=>by
    rw[Array.toList_push,List.mem_append]at hx
    rcases hx with hx|hx
    ·have:=hbo.1 x hx;omega
    ·simp only[List.mem_singleton]at hx;subst hx;exact Nat.lt_succ_self _,by
    rw[Array.toList_push,List.map_append]
    refine List.nodup_append.2 ⟨hbo.2,by simp,fun x hx y hy e=> ?_⟩
    simp only[List.map_cons,List.map_nil,List.mem_singleton]at hy
    obtain⟨z,hz,rfl⟩:=List.mem_map.1 hx
    have:=hbo.1 z hz
    omega⟩
  refine⟨_,?_,inv',ext⟩
  simp[Instr.mapUpdate,run_underlying hu,run_getObj_map hm,run_checkKey_ok _ hkd hkey,hfn,hset]
theorem ok_mapUpdateK (inv:Inv lo w0 ρ E H w) {T:TypeId} {x k v:AV} {u ku vu:Value} {H':Hp} (h:mapUpdateK P T x k v H=some H') (r:Rep ρ E w x u) (rk:Rep ρ E w k ku) (rv:Rep ρ E w v vu):
 ∃w',(Instr.mapUpdate T u ku vu).run P w = .ok () w'∧Inv lo w0 ρ E H' w'∧Ext ρ E w ρ E w':=by
 unfold mapUpdateK at h
 split at h
 case h_2=>cases h
 case h_1 kT eT kv i hu hkv=>
  obtain rfl:=keyV_rep hkv rk
  cases hkd:P.underlying kT with
  |none=>simp[hkd]at h
  |some kd=>
   cases hg:getM H i with
   |none=>simp[hkd,hg]at h
   |some xs=>
    simp only[hkd,hg,Option.bind_some]at h
    split at h
    case isFalse=>cases h
    case isTrue hc=>
     obtain⟨hkey,hall⟩:=hc
     cases h
     simp only[Rep]at r
     obtain⟨b,hb,rfl⟩:=r
     exact upd_map inv hu hkd (getM_get hg) hb (fun _ _ _ r=>r) hkey hall rv (fun _ _ _ r=>r)
theorem valA_rho {ρ':Nat→Option Nat} {T:TypeId} {d:D} {v:Value} (h:Rep ρ E w (valA T d) v):Rep ρ' E w (valA T d) v:=by
 unfold valA at h ⊢
 split at h<;>simp only[Rep]at h ⊢ <;>exact h
theorem entsD_rho {ρ':Nat→Option Nat} {kT vT:TypeId} {d:D} {es:List MapEntry} (h:RepM ρ E w (entsD kT vT d) es):RepM ρ' E w (entsD kT vT d) es:=by
 unfold entsD at h ⊢
 generalize d.toList=xs at *
 induction xs generalizing es with
 |nil=>simpa only[List.map_nil,RepM]using h
 |cons x xs ih=>
  simp only[List.map_cons,RepM]at h ⊢
  obtain⟨e,es',he,hk,h1,h2⟩:=h
  exact⟨e,es',he,hk,valA_rho h1,ih h2⟩
theorem valD_rep {T:TypeId} {x:AV} {d:D} {v:Value} (h:valD T x=some d) (r:Rep ρ E w x v):Rep ρ E w (valA T d) v:=by
 have h0:(bif layOk PG rowDepth T&&plainT PG rowDepth T then avD dDepth T x else none)=some d∧∀xs,x≠ .esl xs:=by
  unfold valD at h
  split at h
  ·cases h
  ·rename_i hx;exact⟨h,hx⟩
 obtain⟨h1,hne⟩:=h0
 cases hc:(layOk PG rowDepth T&&plainT PG rowDepth T)with
 |false=>simp[hc]at h1
 |true=>
  rw[hc,cond_true]at h1
  rw[Bool.and_eq_true]at hc
  obtain⟨hl,hp⟩:=hc
  have hagg:∀cs,x = .agg cs→Rep ρ E w (.dat T d) v:=by
   rintro cs rfl
   have hd:=avD_rep dDepth T _ d v ρ h1 r
   simp only[Rep]at r ⊢
   obtain⟨us,rfl,_⟩:=r
   exact⟨us,rfl,hl,by simpa[Value.cells]using hd⟩
  unfold valA
  unfold rowDepth plainT at hp
  unfold dDepth avD at h1
  split at h1
  ·rename_i k hk
   split at h1
   ·split at h1
    ·rename_i hkk;subst hkk;cases h1;rw[qint_eq];exact r
    ·cases h1
   ·split at h1
    ·rename_i hkk;subst hkk;cases h1;rw[qint_eq];simp only[Rep]at r ⊢;exact r
    ·cases h1
   ·cases h1
  ·rename_i hk
   split at h1
   ·cases h1;rw[qbool_eq];exact r
   ·cases h1;rw[qbool_eq];simp only[Rep]at r ⊢;exact r
   ·cases h1
  ·rename_i hk
   split at h1
   ·cases h1;rw[qstr_eq];exact r
   ·cases h1;rw[qstr_eq];simp only[Rep]at r ⊢;exact r
   ·cases h1
  ·rename_i e hk
   split at h1
   ·rename_i T' d'
    cases hb:Nat.beq T' e with
    |false=>simp[hb]at h1
    |true=>
     obtain rfl:=Nat.eq_of_beq_eq_true hb
     simp only[hb,cond_true,Option.some.injEq]at h1
     subst h1;exact r
   ·rename_i xs;exact absurd rfl (hne xs)
   ·cases h1
    simp only[Rep]at r ⊢
    subst r
    exact⟨none,0,rfl,Nat.le_refl _, .inl rfl⟩
   ·cases h1
  ·rename_i fs hk
   split at h1
   ·rename_i T' d'
    cases hb:Nat.beq T' T with
    |false=>simp[hb]at h1
    |true=>
     obtain rfl:=Nat.eq_of_beq_eq_true hb
     simp only[hb,cond_true,Option.some.injEq]at h1
     subst h1;exact r
   ·exact hagg _ rfl
   ·cases h1
  ·rename_i m e hk
   split at h1
   ·rename_i T' d'
    cases hb:Nat.beq T' T with
    |false=>simp[hb]at h1
    |true=>
     obtain rfl:=Nat.eq_of_beq_eq_true hb
     simp only[hb,cond_true,Option.some.injEq]at h1
     subst h1;exact r
   ·exact hagg _ rfl
   ·cases h1
  ·cases h1
theorem key_arr {kT e:TypeId} {m:Nat} {k:IntKind} {d:D} {u:Value} (hk:PG.underlying kT=some (.array m e)) (he:PG.underlying e=some (.int k)) (h1:PG.cellsOf e=1) (r:RepDat PG E w kT d u):
 u = .agg ((List.range m).map fun j=>Value.int k (d.fld j).toInt).toArray:=by
 obtain⟨xs,rfl,hl,hr⟩:=r
 congr 1
 have hsz:PG.cellsOf kT=m:=by
  unfold rowDepth layOk at hl
  rw[hk]at hl
  simp only[Bool.and_eq_true]at hl
  have:=Nat.eq_of_beq_eq_true hl.2
  rw[h1,Nat.mul_one]at this
  exact this.symm
 generalize hcs:xs.toList=cs at hr
 have key:cs=(List.range m).map fun j=>Value.int k (d.fld j).toInt:=by
  cases hr with
  |int h=>rw[hk]at h;cases h
  |bool h=>rw[hk]at h;cases h
  |str h=>rw[hk]at h;cases h
  |slice row h=>rw[hk]at h;cases h
  |struct h=>rw[hk]at h;cases h
  |other h=>simp[isOther,hk]at h
  |array h hlen hd=>
   rw[hk]at h
   cases h
   rename_i ds
   apply List.ext_getElem?
   intro j
   by_cases hj:j<m
   ·have h2:=hd j hj
    rw[h1,Nat.mul_one]at h2
    have hjl:j<cs.length:=by omega
    have h3:(cs.drop j).take 1 = [cs[j]]:=by rw[List.drop_eq_getElem_cons hjl];rfl
    rw[h3]at h2
    have h4:∃n,ds.getD j .other = .int n∧cs[j] = .int k n:=by
     generalize ds.getD j .other=y at h2
     generalize cs[j]=z at h2
     cases h2 with
     |int h=>rw[he]at h;cases h;exact⟨_,rfl,rfl⟩
     |slice row h=>rw[he]at h;cases h
     |bool h=>rw[he]at h;cases h
     |str h=>rw[he]at h;cases h
     |struct h=>rw[he]at h;cases h
     |array h=>rw[he]at h;cases h
     |other h=>simp[isOther,he]at h
    obtain⟨n,h5,h6⟩:=h4
    rw[List.getElem?_eq_getElem hjl,h6,List.getElem?_map,List.getElem?_range hj]
    simp only[Option.map_some,D.fld,h5,D.toInt]
   ·rw[List.getElem?_eq_none (by omega),List.getElem?_eq_none (by simp;omega)]
 apply Array.toList_inj.1
 rw[hcs,key]
theorem key_val {kT:TypeId} {d:D} {u:Value} (hk:keyT P kT=true) (r:Rep ρ E w (valA kT d) u):u=kvD kT d:=by
 unfold keyT at hk
 split at hk
 ·rename_i k k' h1 h2
  unfold valA at r
  unfold kvD
  rw[h2]at r ⊢
  simp only[Rep]at r ⊢
  rw[r,qint_eq]
 ·rename_i h1 h2
  unfold valA at r
  unfold kvD
  rw[h2]at r ⊢
  simp only[Rep]at r ⊢
  rw[r,qstr_eq]
 ·rename_i h1 h2
  unfold valA at r
  unfold kvD
  rw[h2]at r ⊢
  simp only[Rep]at r ⊢
  rw[r,qbool_eq]
 ·rename_i m e m' e' h1 h2
  simp only[Bool.and_eq_true]at hk
  obtain⟨hm,hk⟩:=hk
  split at hk
  ·rename_i k k' hp hq hs
   simp only[Bool.and_eq_true]at hk
   unfold valA at r
   unfold kvD
   rw[h2]at r ⊢
   simp only[Rep]at r
   simp only[hq]
   exact key_arr h2 hq (Nat.eq_of_beq_eq_true hk.2) r
  ·cases hk
 ·cases hk
theorem key_ok {kT:TypeId} {kd:TypeDesc} (hk:keyT P kT=true) (hu:P.underlying kT=some kd) (d:D):keyOk P kd (kvD kT d)=true:=by
 unfold keyT at hk
 split at hk
 ·rename_i k k' h1 h2
  rw[hu]at h1;cases h1
  unfold kvD;rw[h2]
  simp only[keyOk,keyIs,hk,Bool.true_or]
 ·rename_i h1 h2
  rw[hu]at h1;cases h1
  unfold kvD;rw[h2]
  simp only[keyOk,keyIs,Bool.true_or]
 ·rename_i h1 h2
  rw[hu]at h1;cases h1
  unfold kvD;rw[h2]
  simp only[keyOk,keyIs,Bool.true_or]
 ·rename_i m e m' e' h1 h2
  rw[hu]at h1;cases h1
  simp only[Bool.and_eq_true]at hk
  obtain⟨hm,hk⟩:=hk
  split at hk
  ·rename_i k k' hp hq hs
   simp only[Bool.and_eq_true,beq_iff_eq]at hk
   obtain rfl:=hk.1
   obtain rfl:=Nat.eq_of_beq_eq_true hm
   unfold kvD;rw[h2];simp only[hq]
   have:keyArr P (.array m e) (.agg ((List.range m).map fun j=>Value.int k (d.fld j).toInt).toArray)=true:=by
    simp[keyArr,hp,hs,isIntK]
   simp only[keyOk,this,Bool.or_true]
  ·cases hk
 ·cases hk
theorem ents_all {kT vT:TypeId} {kd:TypeDesc} (hk:keyT P kT=true) (hu:P.underlying kT=some kd) (d:D):(entsD kT vT d).all (fun e=>keyOk P kd e.1)=true:=by
 unfold entsD
 rw[List.all_eq_true]
 intro x hx
 obtain⟨y,_,rfl⟩:=List.mem_map.1 hx
 exact key_ok hk hu _
theorem findA_ents {kT vT:TypeId} (k:D):∀xs:List D,findA (kvD kT k) (xs.map fun x=>(kvD kT (x.fld 0),valA vT (x.fld 1)))=(findD kT k xs).map (valA vT)
 | []=>rfl
 |x::xs=>by
  have ih:=findA_ents (kT:=kT) (vT:=vT) k xs
  unfold findD at ih ⊢
  simp only[List.map_cons,findA,List.find?_cons]
  cases h:keyEq (kvD kT k) (kvD kT (x.fld 0))with
  |true=>simp
  |false=>simpa using ih
theorem updA_ents {kT vT:TypeId} (k v:D):∀xs:List D,updA (kvD kT k) (valA vT v) (xs.map fun x=>(kvD kT (x.fld 0),valA vT (x.fld 1)))=(putD kT k v xs).map fun x=>(kvD kT (x.fld 0),valA vT (x.fld 1))
 | []=>rfl
 |x::xs=>by
  have ih:=updA_ents (kT:=kT) (vT:=vT) k v xs
  simp only[List.map_cons,updA,putD]
  cases h:keyEq (kvD kT k) (kvD kT (x.fld 0))with
  |true=>rfl
  |false=>simp only[cond_false,List.map_cons,ih]
theorem keyDV_eq {kT:TypeId} {v:Value} {d:D} (h:keyDV kT v=some d):kvD kT d=v:=by
 unfold keyDV at h
 unfold kvD
 split at h
 ·rename_i k k' n hk
  rw[hk]
  cases hb:k==k' with
  |false=>simp[hb]at h
  |true=>
   rw[hb]at h
   cases h
   simp only[beq_iff_eq]at hb
   subst hb;rfl
 ·rename_i s hk;rw[hk];cases h;rfl
 ·rename_i b hk;rw[hk];cases h;rfl
 ·cases h
theorem entsOf_rep {kT vT:TypeId}:∀{es:List (Value×AV)} {ds:List D},mapO (fun e=>(keyDV kT e.1).bind fun k=>(valD vT e.2).map fun v=>D.agg [k,v]) es=some ds→∀{ρ':Nat→Option Nat} {E':Nat→Prop} {w':World} {ms:List MapEntry},RepM ρ' E' w' es ms→RepM ρ' E' w' (ds.map fun x=>(kvD kT (x.fld 0),valA vT (x.fld 1))) ms
 | [],ds,h,_,_,_,ms,r=>by
   simp only[mapO,Option.some.injEq]at h
   subst h;simpa only[List.map_nil,RepM]using r
 | (k,v)::es,ds,h,_,_,_,ms,r=>by
   simp only[mapO]at h
   obtain⟨y,hy,h⟩:=Option.bind_eq_some_iff.1 h
   obtain⟨ys,hys,h⟩:=Option.bind_eq_some_iff.1 h
   cases h
   obtain⟨kd,hkd,hy⟩:=Option.bind_eq_some_iff.1 hy
   obtain⟨vd,hvd,rfl⟩:=Option.map_eq_some_iff.1 hy
   simp only[RepM]at r
   obtain⟨e,es',rfl,hk,h1,h2⟩:=r
   simp only[List.map_cons,RepM]
   exact⟨e,es',rfl,by rw[hk];exact(keyDV_eq hkd).symm,valD_rep hvd h1,entsOf_rep hys h2⟩
theorem mpOf_map {i:Nat} {kT vT:TypeId} {d:D} (h:mpOf H i kT vT=some d):∃kb,H.get i=some kb∧∀ρ' E' w' b,BlkRep ρ' E' w' kb b→BlkRep ρ' E' w' (.map (entsD kT vT d)) b:=by
 unfold mpOf at h
 split at h
 ·rename_i k v d' hg
  cases hb:(Nat.beq k kT&&Nat.beq v vT)with
  |false=>simp[hb]at h
  |true=>
   simp only[hb,cond_true,Option.some.injEq]at h
   subst h
   rw[Bool.and_eq_true]at hb
   obtain rfl:=Nat.eq_of_beq_eq_true hb.1
   obtain rfl:=Nat.eq_of_beq_eq_true hb.2
   exact⟨_,hg,fun _ _ _ _ r=>r⟩
 ·rename_i es hg
  unfold entsOf at h
  obtain⟨ds,hd,rfl⟩:=Option.map_eq_some_iff.1 h
  refine⟨_,hg,fun _ _ _ _ r=> ?_⟩
  obtain⟨arr,clk,hc,hr,hbo⟩:=r
  exact⟨arr,clk,hc,entsOf_rep hd hr,hbo⟩
 ·cases h
theorem ok_lookupU (inv:Inv lo w0 ρ E H w) {T:TypeId} {ok:Bool} {x k v:AV} {u ku:Value} (h:lookupU P T ok x k H=some v) (r:Rep ρ E w x u) (rk:Rep ρ E w k ku):
 OkP P ρ E w (Instr.lookup T u ku ok) v:=by
 unfold lookupU at h
 split at h
 case h_3=>cases h
 case h_2 kT eT hu=>
  cases hkt:keyT P kT with
  |false=>simp[hkt]at h
  |true=>
   rw[hkt,cond_true]at h
   obtain⟨kd',hkd',h⟩:=Option.bind_eq_some_iff.1 h
   obtain⟨z,hz,h⟩:=Option.bind_eq_some_iff.1 h
   cases h
   obtain⟨kd,hkd⟩:∃kd,P.underlying kT=some kd:=by
    unfold keyT at hkt
    cases hx:P.underlying kT with
    |none=>simp[hx]at hkt
    |some kd=>exact⟨kd,rfl⟩
   obtain⟨_,zv,_,_,hrun,hrep⟩:=zeroA_rep hz
   obtain rfl:=key_val hkt (valD_rep hkd' rk)
   have hkey:=key_ok hkt hkd kd'
   simp only[Rep]at r
   subst r
   have hrm:RepM ρ E w (entsD kT eT (.list [])) []:=by simp[entsD,RepM,D.toList]
   have hfn:Sem.run P (Instr.findKey kT (kvD kT kd') []) w = .ok none w:=by
    rcases findKey_rep hkd hkey hrm (ents_all hkt hkd (.list []))with⟨v1,hf,_⟩|⟨_,hfn,_⟩
    ·simp[entsD,D.toList,findA]at hf
    ·exact hfn
   refine⟨if ok then .tuple #[zv, .bool false]else zv,?_,?_⟩
   ·simp[Instr.lookup,run_underlying hu,run_checkKey_ok _ hkd hkey,hrun,hfn]
   ·cases ok
    ·simpa using hrep ρ E w
    ·simp only[cond_true,if_true,Rep]
     exact⟨_,rfl,RepL.cons (hrep ρ E w) (RepL.cons (by simp only[Rep]) RepL.nil)⟩
 case h_1 kT eT i hu=>
  obtain⟨d,hd,h⟩:=Option.bind_eq_some_iff.1 h
  cases hkt:keyT P kT with
  |false=>simp[hkt]at h
  |true=>
   rw[hkt,cond_true]at h
   obtain⟨kd',hkd',h⟩:=Option.bind_eq_some_iff.1 h
   obtain⟨z,hz,h⟩:=Option.bind_eq_some_iff.1 h
   obtain⟨zd,hzd,h⟩:=Option.bind_eq_some_iff.1 h
   cases h
   obtain⟨kd,hkd⟩:∃kd,P.underlying kT=some kd:=by
    unfold keyT at hkt
    cases hx:P.underlying kT with
    |none=>simp[hx]at hkt
    |some kd=>exact⟨kd,rfl⟩
   obtain⟨_,zv,_,_,hrun,hrep⟩:=zeroA_rep hz
   obtain rfl:=key_val hkt (valD_rep hkd' rk)
   have hkey:=key_ok hkt hkd kd'
   obtain⟨kb,hg,hmap⟩:=mpOf_map hd
   simp only[Rep]at r
   obtain⟨b,hb,rfl⟩:=r
   obtain⟨arr,clk,hm,hrm,_⟩:=hmap _ _ _ _ (inv.blk i kb b hg hb)
   have hfe:=findA_ents (kT:=kT) (vT:=eT) kd' d.toList
   rcases findKey_rep hkd hkey hrm (ents_all hkt hkd d)with⟨v1,hf,j,u1,hfn,hrv,_⟩|⟨hf,hfn,_⟩
   ·unfold entsD at hf
    rw[hfe]at hf
    obtain⟨dv,hdv,rfl⟩:=Option.map_eq_some_iff.1 hf
    have e1:qmget kT zd d kd'=dv:=by unfold qmget;rw[veil_eq];unfold rmget;rw[hdv];rfl
    have e2:qmhas kT d kd'=true:=by unfold qmhas;rw[veil_eq];unfold rmhas;rw[hdv];rfl
    rw[e1,e2]
    refine⟨if ok then .tuple #[u1, .bool true]else u1,?_,?_⟩
    ·simp[Instr.lookup,run_underlying hu,run_getObj_map hm,run_checkKey_ok _ hkd hkey,hfn]
    ·cases ok
     ·simpa using hrv
     ·simp only[cond_true,if_true,Rep]
      exact⟨_,rfl,RepL.cons hrv (RepL.cons (by simp only[Rep]) RepL.nil)⟩
   ·unfold entsD at hf
    rw[hfe]at hf
    have hdv:findD kT kd' d.toList=none:=by
     cases hx:findD kT kd' d.toList with
     |none=>rfl
     |some y=>rw[hx]at hf;cases hf
    have e1:qmget kT zd d kd'=zd:=by unfold qmget;rw[veil_eq];unfold rmget;rw[hdv];rfl
    have e2:qmhas kT d kd'=false:=by unfold qmhas;rw[veil_eq];unfold rmhas;rw[hdv];rfl
    rw[e1,e2]
    refine⟨if ok then .tuple #[zv, .bool false]else zv,?_,?_⟩
    ·simp[Instr.lookup,run_underlying hu,run_getObj_map hm,run_checkKey_ok _ hkd hkey,hfn,hrun]
    ·cases ok
     ·simpa using valD_rep hzd (hrep ρ E w)
     ·simp only[cond_true,if_true,Rep]
      exact⟨_,rfl,RepL.cons (valD_rep hzd (hrep ρ E w)) (RepL.cons (by simp only[Rep]) RepL.nil)⟩
theorem ok_lookup (inv:Inv lo w0 ρ E H w) {T:TypeId} {ok:Bool} {x k v:AV} {u ku:Value} (h:lookupA P T ok x k H=some v) (r:Rep ρ E w x u) (rk:Rep ρ E w k ku):
 OkP P ρ E w (Instr.lookup T u ku ok) v:=by
 unfold lookupA at h
 cases hc:lookupK P T ok x k H with
 |some v'=>
  rw[hc]at h
  simp only[orAV,Option.some.injEq]at h
  subst h
  exact ok_lookupK inv hc r rk
 |none=>
  rw[hc]at h
  simp only[orAV]at h
  exact ok_lookupU inv h r rk
theorem ok_mapUpdateU (inv:Inv lo w0 ρ E H w) {T:TypeId} {x k v:AV} {u ku vu:Value} {H':Hp} (h:mapUpdateU P T x k v H=some H') (r:Rep ρ E w x u) (rk:Rep ρ E w k ku) (rv:Rep ρ E w v vu):
 ∃w',(Instr.mapUpdate T u ku vu).run P w = .ok () w'∧Inv lo w0 ρ E H' w'∧Ext ρ E w ρ E w':=by
 unfold mapUpdateU at h
 split at h
 case h_2=>cases h
 case h_1 kT eT i hu=>
  obtain⟨d,hd,h⟩:=Option.bind_eq_some_iff.1 h
  cases hkt:keyT P kT with
  |false=>simp[hkt]at h
  |true=>
   rw[hkt,cond_true]at h
   obtain⟨kd',hkd',h⟩:=Option.bind_eq_some_iff.1 h
   obtain⟨vd,hvd,h⟩:=Option.bind_eq_some_iff.1 h
   cases h
   obtain⟨kd,hkd⟩:∃kd,P.underlying kT=some kd:=by
    unfold keyT at hkt
    cases hx:P.underlying kT with
    |none=>simp[hx]at hkt
    |some kd=>exact⟨kd,rfl⟩
   obtain rfl:=key_val hkt (valD_rep hkd' rk)
   obtain⟨kb,hg,hmap⟩:=mpOf_map hd
   simp only[Rep]at r
   obtain⟨b,hb,rfl⟩:=r
   refine upd_map inv hu hkd hg hb (fun ρ' E' w' r=>hmap ρ' E' w' b r) (key_ok hkt hkd kd') (ents_all hkt hkd d) (valD_rep hvd rv) (fun ρ' E' w' r=> ?_)
   have e:updA (kvD kT kd') (valA eT vd) (entsD kT eT d)=entsD kT eT (qmput kT d kd' vd):=by
    unfold entsD qmput
    rw[veil_eq]
    exact updA_ents kd' vd d.toList
   rw[e]at r
   exact r
theorem ok_mapUpdate (inv:Inv lo w0 ρ E H w) {T:TypeId} {x k v:AV} {u ku vu:Value} {H':Hp} (h:mapUpdateA P T x k v H=some H') (r:Rep ρ E w x u) (rk:Rep ρ E w k ku) (rv:Rep ρ E w v vu):
 ∃w',(Instr.mapUpdate T u ku vu).run P w = .ok () w'∧Inv lo w0 ρ E H' w'∧Ext ρ E w ρ E w':=by
 unfold mapUpdateA at h
 cases hc:mapUpdateK P T x k v H with
 |some v'=>
  rw[hc]at h
  simp only[Option.some.injEq]at h
  subst h
  exact ok_mapUpdateK inv hc r rk rv
 |none=>
  rw[hc]at h
  simp only at h
  exact ok_mapUpdateU inv h r rk rv
theorem bytesC_rep:∀{cs:List AV} {ns:List Int} {vs:List Value},bytesC cs=some ns→RepL ρ E w cs vs→vs=ns.map (Value.int .u8)
 | [],ns,vs,h,r=>by
   simp only[bytesC,Option.some.injEq]at h
   simp only[RepL]at r
   subst h r;rfl
 |c::cs,ns,vs,h,r=>by
  unfold bytesC at h
  split at h
  ·rename_i e;cases e
  ·rename_i n rr e
   cases e
   obtain⟨ms,hm,rfl⟩:=Option.map_eq_some_iff.1 h
   simp only[RepL]at r
   obtain⟨v,vs',rfl,h1,h2⟩:=r
   simp only[Rep]at h1
   subst h1
   rw[bytesC_rep hm h2];rfl
  ·cases h
theorem bytesU_rep:∀{l:List AV} {ds:List D} {vs:List Value},bytesU l=some ds→RepL ρ E w l vs→vs=ds.map fun d=> .int .u8 d.toInt
 | [],ds,vs,h,r=>by
   simp only[bytesU,Option.some.injEq]at h
   subst h
   simp only[RepL]at r
   exact r
 |x::l,ds,vs,h,r=>by
  simp only[RepL]at r
  obtain⟨v,vs',rfl,h1,h2⟩:=r
  unfold bytesU at h
  split at h
  ·rename_i e;cases e
  ·rename_i n rr e
   cases e
   obtain⟨ms,hm,rfl⟩:=Option.map_eq_some_iff.1 h
   simp only[Rep]at h1
   subst h1
   rw[bytesU_rep hm h2];rfl
  ·rename_i n rr e
   cases e
   obtain⟨ms,hm,rfl⟩:=Option.map_eq_some_iff.1 h
   simp only[Rep]at h1
   subst h1
   rw[bytesU_rep hm h2];rfl
  ·cases h
theorem text_ints (ds:List D):D.text (.list ds)=(ds.map D.toInt).foldl (fun r n=>r.push (UInt8.ofNat n.toNat)) ByteArray.empty:=by
 unfold D.text
 rw[List.foldl_map]
 rfl
theorem ok_textH (inv:Inv lo w0 ρ E H w) {s d:TypeId} {x v:AV} {u:Value} (h:textH P H s d x=some v) (r:Rep ρ E w x u):OkP P ρ E w (convert s d u) v:=by
 unfold textH at h
 split at h
 ·rename_i e e1 e2
  split at h
  ·rename_i i z off len he
   obtain⟨p,hp,h⟩:=Option.bind_eq_some_iff.1 h
   obtain⟨cs,n⟩:=p
   obtain⟨a,cap,vs,rfl,hlen,hrl,hcells⟩:=rowsOf_rep inv hp r
   obtain⟨ns,hvs,hv⟩:∃ns:List Int,vs=ns.map (Value.int .u8)∧Rep ρ E w v (.string (ns.foldl (fun r n=>r.push (UInt8.ofNat n.toNat)) ByteArray.empty)):=by
    cases hc:bytesC cs with
    |some ns=>
     simp only[hc,Option.map_some,orAV,Option.some.injEq]at h
     subst h
     exact⟨ns,bytesC_rep hc hrl,by simp only[Rep]⟩
    |none=>
     simp only[hc,Option.map_none,orAV]at h
     obtain⟨ds,hd,rfl⟩:=Option.map_eq_some_iff.1 h
     refine⟨ds.map D.toInt,?_,?_⟩
     ·rw[bytesU_rep hd hrl,List.map_map];rfl
     ·simp only[Rep];rw[qtext_eq,text_ints]
   subst hvs
   have hnl:ns.length=n:=by have:=hrl.length;simp only[List.length_map]at this;omega
   refine⟨.string (ns.foldl (fun r n=>r.push (UInt8.ofNat n.toNat)) ByteArray.empty),?_,hv⟩
   rw[run_convert_bytes_string w s d e a _ cap e1 he e2]
   cases a with
   |none=>
    have hl:ns = []:=by
     rcases hcells with h|⟨_,_,h,_⟩
     ·simpa using h
     ·cases h
    subst hl
    simp at hnl
    subst hnl
    simp[Conv.bytesToString]
   |some a=>
    have hcell:∀(j:Nat) (m:Int),ns[j]? = some m→w.cell? (a.add j)=some (.int .u8 m):=by
     intro j m hj
     rcases hcells with h|⟨b,off,ha,hb⟩
     ·have:ns = []:=by simpa using h
      rw[this]at hj;simp at hj
     ·cases ha
      have:=hb j (.int .u8 m) (by rw[List.getElem?_map,hj];rfl)
      unfold Addr.add
      by_cases h0:j=0
      ·rw[if_pos h0];subst h0;exact this
      ·rw[if_neg h0];exact this
    have hl:=run_loadCells_list (P:=P) (w:=w) a (ns.map (Value.int .u8)) (fun j v hj=>by
     rw[List.getElem?_map]at hj
     cases hd':ns[j]? with
     |none=>rw[hd']at hj;cases hj
     |some m=>
      rw[hd']at hj
      simp only[Option.map_some,Option.some.injEq]at hj
      rw[hcell j m hd',hj])
    simp only[List.length_map]at hl
    rw[hnl]at hl
    rw[run_bytesToString w a n cap _ hl]
  ·cases h
 ·cases h
theorem ok_convH (inv:Inv lo w0 ρ E H w) {s d:TypeId} {x v:AV} {u:Value} (h:convH P H s d x=some v) (r:Rep ρ E w x u):OkP P ρ E w (convert s d u) v:=by
 unfold convH at h
 cases hc:convA P s d x with
 |some v'=>
  rw[hc]at h
  simp only[orAV,Option.some.injEq]at h
  subst h
  exact ok_convert hc r
 |none=>
  rw[hc]at h
  simp only[orAV]at h
  exact ok_textH inv h r
end
end Go.AM
