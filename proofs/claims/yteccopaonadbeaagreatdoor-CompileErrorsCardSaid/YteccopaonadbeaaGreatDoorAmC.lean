/-
  Operations one after the other.
-/
import Derived.Test.YteccopaonadbeaaGreatDoorAmB
import Derived.Test.YteccopaonadbeaaGreatDoorAmX
import Derived.Laws.Small
set_option linter.unusedVariables false
set_option linter.unusedSimpArgs false
namespace Go.AM
set_option linter.unusedSectionVars false
class HasDef where
 ds:List Deferred
instance noDef:HasDef:=⟨[]⟩
section
variable [HasDef] {lo:Nat→Prop} {w0:World} {ρ:Nat→Option Nat} {E:Nat→Prop} {H:Hp} {w:World} {fr:Fr} {a:Act} {env:Env} {r:Rec}
structure FrRep (ρ:Nat→Option Nat) (E:Nat→Prop) (w:World) (fr:Fr) (a:Act):Prop where
 size:a.tmps.size=fr.length
 rep:∀t x,fr[t]? = some x→Rep ρ E w x (a.tmps.getD t undef)
 defers:a.defers=HasDef.ds
theorem FrRep.getD (h:FrRep ρ E w fr a) (t:Nat):Rep ρ E w (fr.getD t .undef) (a.tmps.getD t undef):=by
 cases ht:fr[t]? with
 |none=>simp only[List.getD,ht,Option.getD_none,Rep]
 |some x=>simp only[List.getD,ht,Option.getD_some];exact h.rep t x ht
theorem FrRep.opd (h:FrRep ρ E w fr a) (x:Operand):Rep ρ E w (opd fr x) (a.eval x):=by
 cases x with
 |tmp t=>exact h.getD t
 |const v=>exact Rep.ofV v
 |global g=>simp only[AM.opd,Act.eval,Rep]
 |func f=>simp only[AM.opd,Act.eval,Rep];exact⟨#[], #[],rfl,RepL.nil,RepL.nil⟩
theorem FrRep.opds (h:FrRep ρ E w fr a):∀(xs:List Operand),RepL ρ E w (xs.map (AM.opd fr)) (xs.map a.eval)
 | []=>RepL.nil
 |x::xs=>RepL.cons (h.opd x) (FrRep.opds h xs)
theorem FrRep.mono {ρ':Nat→Option Nat} {E':Nat→Prop} {w':World} (h:FrRep ρ E w fr a) (e:Ext ρ E w ρ' E' w'):FrRep ρ' E' w' fr a:=
 ⟨h.size,fun t x ht=>Rep.mono e _ _ (h.rep t x ht),h.defers⟩
theorem FrRep.put (h:FrRep ρ E w fr a) {v:AV} {u:Value} (hv:Rep ρ E w v u) (dst:Option Tmp):FrRep ρ E w (putA fr dst v) (a.put dst u):=by
 cases dst with
 |none=>exact h
 |some d=>
  refine⟨by simp[Act.put,putA,h.size],fun t x ht=> ?_,h.defers⟩
  simp only[putA,List.getElem?_set]at ht
  by_cases hd:d=t
  ·subst hd
   by_cases hl:d<fr.length
   ·simp[hl]at ht
    subst ht
    simp[Act.put,h.size,hl,hv]
   ·simp[hl]at ht
  ·simp[hd]at ht
   have:=h.rep t x ht
   simpa[Act.put,Array.getD_eq_getD_getElem?,Array.getElem?_setIfInBounds_ne hd]using this
theorem FrRep.set (h:FrRep ρ E w fr a) {s:Nat} {v:AV} (hs:fr.getD s .undef=v):FrRep ρ E w (fr.set s v) a:=by
 refine⟨by simp[h.size],fun t x ht=> ?_,h.defers⟩
 rw[List.getElem?_set]at ht
 by_cases hd:s=t
 ·subst hd
  by_cases hl:s<fr.length
  ·simp[hl]at ht
   subst ht
   rw[← hs];exact h.getD s
  ·simp[hl]at ht
 ·simp[hd]at ht;exact h.rep t x ht
theorem Ext.reach {ρ':Nat→Option Nat} {w':World} (h:Ext ρ E w ρ' E w'):Reach lo ρ E w ρ' E w':=⟨h,fun _ h=> .inl h⟩
theorem wp_okE {P:Program} {o:Oper} {s:Sem Value} {v:AV} {H':Hp} {next:Act→World→Prop} {Q:Exit→Act→World→Prop} {C:Prop} (hC:C→False) (he:execOp a.eval o=(do pure (.value (← s))))
 (h:OkE P lo w0 ρ E w s v H') (hn:∀u ρ' E' w',Inv lo w0 ρ' E' H' w'→Reach lo ρ E w ρ' E' w'→Rep ρ' E' w' v u→(C→ρ'=ρ)→next (a.put o.dst u) w'):o.wp P a w next Q:=by
 obtain⟨u,w',ρ',E',hr,inv',ext,hE,rv⟩:=h
 unfold Oper.wp
 rw[he]
 simp only[Sem.run_bind,hr,Result.andThen_ok,Sem.run_pure,Oper.upon]
 exact hn u ρ' E' w' inv' ⟨ext,hE⟩ rv fun c=>(hC c).elim
theorem wp_okH {P:Program} {o:Oper} {s:Sem Value} {v:AV} {H':Hp} {next:Act→World→Prop} {Q:Exit→Act→World→Prop} {C:Prop} (hC:¬C) (he:execOp a.eval o=(do pure (.value (← s))))
 (h:OkH P lo w0 ρ E w s v H') (hn:∀u ρ' E' w',Inv lo w0 ρ' E' H' w'→Reach lo ρ E w ρ' E' w'→Rep ρ' E' w' v u→(C→ρ'=ρ)→next (a.put o.dst u) w'):o.wp P a w next Q:=by
 obtain⟨u,w',ρ',hr,inv',ext,rv⟩:=h
 unfold Oper.wp
 rw[he]
 simp only[Sem.run_bind,hr,Result.andThen_ok,Sem.run_pure,Oper.upon]
 exact hn u ρ' E w' inv' ext.reach rv fun c=>(hC c).elim
theorem wp_okP {P:Program} {o:Oper} {s:Sem Value} {v:AV} {next:Act→World→Prop} {Q:Exit→Act→World→Prop} {C:Prop} (he:execOp a.eval o=(do pure (.value (← s)))) (inv:Inv lo w0 ρ E H w)
 (h:OkP P ρ E w s v) (hn:∀u ρ' E' w',Inv lo w0 ρ' E' H w'→Reach lo ρ E w ρ' E' w'→Rep ρ' E' w' v u→(C→ρ'=ρ)→next (a.put o.dst u) w'):o.wp P a w next Q:=by
 obtain⟨u,hr,rv⟩:=h
 unfold Oper.wp
 rw[he]
 simp only[Sem.run_bind,hr,Result.andThen_ok,Sem.run_pure,Oper.upon]
 exact hn u ρ E w inv Reach.refl rv fun _=>rfl
theorem wp_okU {P:Program} {o:Oper} {s:Sem Unit} {H':Hp} {next:Act→World→Prop} {Q:Exit→Act→World→Prop} {C:Prop} (he:execOp a.eval o=(do s;pure .skip))
 (h:∃w',s.run P w = .ok () w'∧Inv lo w0 ρ E H' w'∧Ext ρ E w ρ E w') (hn:∀u ρ' E' w',Inv lo w0 ρ' E' H' w'→Reach lo ρ E w ρ' E' w'→Rep ρ' E' w' uv u→(C→ρ'=ρ)→next (a.put o.dst u) w'):o.wp P a w next Q:=by
 obtain⟨w',hr,inv',ext⟩:=h
 unfold Oper.wp
 rw[he]
 simp only[Sem.run_bind,hr,Result.andThen_ok,Sem.run_pure,Oper.upon]
 exact hn undef ρ E w' inv' ext.reach (by simp only[uv,Rep]) fun _=>rfl
theorem vA_some {H H':Hp} {x:Option AV} {v:AV} (h:vA H x=some (v,H')):x=some v∧H'=H:=by
 unfold vA at h
 cases x with
 |none=>simp at h
 |some y=>simp at h;exact⟨by rw[h.1],h.2.symm⟩
theorem uA_some {H':Hp} {x:Option Hp} {v:AV} (h:uA x=some (v,H')):x=some H'∧v=uv:=by
 unfold uA at h
 cases x with
 |none=>simp at h
 |some y=>simp at h;exact⟨by rw[h.2],h.1.symm⟩
theorem RepO.opd (h:FrRep ρ E w fr a) (x:Option Operand):RepO ρ E w (x.map (AM.opd fr)) (x.map a.eval):=by
 cases x with
 |none=>simp[RepO]
 |some x=>simp only[Option.map_some,RepO];exact⟨_,rfl,h.opd x⟩
theorem parts_rep (h:FrRep ρ E w fr a) (parts:Array (Nat×Operand)):
 ((parts.map fun(i,x)=>(i,a.eval x)).toList).map (·.1)=(partsA fr parts).map (·.1)∧RepL ρ E w ((partsA fr parts).map (·.2)) (((parts.map fun(i,x)=>(i,a.eval x)).toList).map (·.2)):=by
 refine⟨by simp[partsA],?_⟩
 have:=h.opds (parts.toList.map (·.2))
 simpa[partsA,Function.comp_def]using this
def EnvOk (env:Env):Prop:=
 ∀f F,env.fn f=some F→∃fn,env.P.funcs[f]? = some fn∧fn.body=some F.code∧fn.ntmps=F.ntmps∧fn.results.toList=F.results∧(fn.name == "runtime.NumGoroutine")=false
theorem run_callFunc (hok:EnvOk env) {f:FuncId} {F:FnA} (hf:env.fn f=some F) (args:Array Value) (w:World):(callFunc f args).run env.P w = .ok (.enter f args) w:=by
 obtain⟨fn,h1,h2,_,_,h5⟩:=hok f F hf
 have h5':¬fn.name = "runtime.NumGoroutine" :=by simpa using h5
 simp[callFunc,h1,h2,h5']
theorem call_op {P:Program} {o:Oper} {f:FuncId} {args:Array Value} {v:AV} {H':Hp} {next:Act→World→Prop} {Q:Exit→Act→World→Prop} {C:Prop}
 (hrun:(execOp a.eval o).run P w = .ok (.enter f args) w)
 (hc:Calls P f args w fun e w'=>∃u ρ' E',e = .returned u∧Inv lo w0 ρ' E' H' w'∧Reach lo ρ E w ρ' E' w'∧Rep ρ' E' w' v u∧(C→ρ'=ρ))
 (hn:∀u ρ' E' w',Inv lo w0 ρ' E' H' w'→Reach lo ρ E w ρ' E' w'→Rep ρ' E' w' v u→(C→ρ'=ρ)→next (a.put o.dst u) w'):o.wp P a w next Q:=by
 unfold Oper.wp
 rw[hrun]
 simp only[Oper.upon]
 refine hc.mono ?_
 rintro e w' ⟨u,ρ',E',rfl,inv',reach,rv,hC⟩
 exact hn u ρ' E' w' inv' reach rv hC
def HasFn (env:Env) (r:Rec):Prop:=∀f args H p,r f args H=some p→∃F,env.fn f=some F
theorem callA_fn (hf:HasFn env r) {f:FuncId} {args:List AV} {p:AV×Hp} (h:callA env r f args H=some p):∃F,env.fn f=some F:=by
 unfold callA at h
 cases hp:env.isPure f with
 |true=>
  simp only[hp,cond_true]at h
  cases ha:mapO (expo H expoDepth) args with
  |none=>simp[ha]at h
  |some args'=>
   simp only[ha,Option.bind_some,callPure]at h
   cases hr:r f args' H.fresh with
   |none=>simp[hr]at h
   |some q=>exact hf f args' H.fresh q hr
 |false=>
  simp only[hp,cond_false]at h
  cases hz:env.isFrz f with
  |true=>
   simp only[hz,cond_true]at h
   cases ha:mapO (expo H expoDepth) args with
   |none=>simp[ha]at h
   |some args'=>
    simp only[ha,Option.bind_some,callPure]at h
    cases hr:r f args' H.fresh with
    |none=>simp[hr]at h
    |some q=>exact hf f args' H.fresh q hr
  |false=>simp only[hz,cond_false]at h;exact hf f args H p h
theorem ok_min {P:Program} {ts:Array TypeId} {ty:TypeId} {x y v:AV} {u s:Value} (h:mmA .lss x y=some v) (r:Rep ρ E w x u) (ry:Rep ρ E w y s):OkP P ρ E w (Builtin.min_ ts ty #[u,s]) v:=by
 unfold mmA at h
 split at h<;>first|cases h|skip
 all_goals (split at h<;>first|cases h|skip)
 all_goals (rename_i hk;subst hk;simp only[Rep]at r ry;subst r;subst ry;exact⟨_,run_min_int2 w ts ty _ _ _ _,by simp only[Rep,qmm_eq,rmm]⟩)
theorem ok_max {P:Program} {ts:Array TypeId} {ty:TypeId} {x y v:AV} {u s:Value} (h:mmA .gtr x y=some v) (r:Rep ρ E w x u) (ry:Rep ρ E w y s):OkP P ρ E w (Builtin.max_ ts ty #[u,s]) v:=by
 unfold mmA at h
 split at h<;>first|cases h|skip
 all_goals (split at h<;>first|cases h|skip)
 all_goals (rename_i hk;subst hk;simp only[Rep]at r ry;subst r;subst ry;exact⟨_,run_max_int2 w ts ty _ _ _ _,by simp only[Rep,qmm_eq,rmm,gt_iff_lt]⟩)
theorem evOp_some {o:Op} {ty:TypeId} {p:AV×Hp} (h:evOp env r fr H ty o=some p):allB (obl env fr H o)=true∧evOp0 env r fr H ty o=some p:=by
 unfold evOp at h
 cases hb:allB (obl env fr H o)with
 |false=>simp[hb]at h
 |true=>simp only[hb,cond_true]at h;exact⟨rfl,h⟩
theorem guardAll_eq {R:Type} (x:Option R):∀bs:List Bool,guardAll x bs=bif allB bs then x else none
 | []=>rfl
 |b::bs=>by cases b<;>simp[guardAll,allB,guardAll_eq x bs]
theorem opK_eq {R:Type} (o:Op) (ty:TypeId) (k:AV×Hp→Option R):opK env r fr H ty o k=(evOp env r fr H ty o).bind k:=by
 unfold opK evOp
 rw[guardAll_eq]
 cases allB (obl env fr H o)<;>rfl
theorem appendL1_shape {e:TypeId} {src:D} {d0:Option D} {s v:AV} {H1 H':Hp} (h:appendL1 e src d0 s H1=some (v,H')):∃i m,v = .osl i e m:=by
 unfold appendL1 at h
 split at h
 ·cases h;exact⟨_,_,rfl⟩
 ·cases h;exact⟨_,_,rfl⟩
 ·rename_i i z' off len
  cases hb2:(Nat.beq off 0&&Nat.beq z' (PG.cellsOf e))with
  |false=>simp[hb2]at h
  |true=>
   simp only[hb2,cond_true]at h
   obtain⟨_,_,h5⟩:=Option.bind_eq_some_iff.1 h
   obtain⟨_,_,h6⟩:=Option.bind_eq_some_iff.1 h5
   cases h6;exact⟨_,_,rfl⟩
 ·rename_i i Tq mq
  obtain⟨q,_,h5⟩:=Option.bind_eq_some_iff.1 h
  cases hb2:(Nat.beq Tq e&&Nat.beq q.1 e)with
  |false=>simp[hb2]at h5
  |true=>
   simp only[hb2,cond_true,Option.some.injEq,Prod.mk.injEq]at h5
   exact⟨_,_,h5.1.symm⟩
 ·cases h
theorem appendL_shape {P:Program} {T:TypeId} {s x v:AV} {H':Hp} (h:appendL P T s x H=some (v,H')):∃e i m,P.underlying T=some (.slice e)∧v = .osl i e m:=by
 unfold appendL at h
 split at h
 case h_2=>cases h
 case h_1 e hu=>
  obtain⟨info,_,h1⟩:=Option.bind_eq_some_iff.1 h
  obtain⟨z,_,h2⟩:=Option.bind_eq_some_iff.1 h1
  obtain⟨zs,_,h3⟩:=Option.bind_eq_some_iff.1 h2
  clear h h1 h2
  cases hb:(Nat.beq info.size (PG.cellsOf e)&&Nat.blt 0 info.size&&Nat.beq zs.length info.size&&layOk PG rowDepth e&&plainT PG rowDepth e)with
  |false=>simp[hb]at h3
  |true=>
   simp only[hb,cond_true]at h3
   obtain⟨src,_,h4⟩:=Option.bind_eq_some_iff.1 h3
   obtain⟨i,m,rfl⟩:=appendL1_shape h4
   exact⟨e,i,m,hu,rfl⟩
theorem ok_appendB {P:Program} (inv:Inv lo w0 ρ E H w) {T ty:TypeId} {s x v:AV} {su xu:Value} {H':Hp} (h:orP (appendA P T s x H) (appendL P T s x H)=some (v,H')) (ho:allB (appendObl P H [s,x] [T,T])=true) (rs:Rep ρ E w s su) (rx:Rep ρ E w x xu):
 OkE P lo w0 ρ E w (Builtin.append_ #[T,T] ty #[su,xu]) v H':=by
 cases ha:appendA P T s x H with
 |some p=>rw[ha]at h;simp only[orP,Option.some.injEq]at h;subst h;exact(ok_append inv ha rs rx).toE
 |none=>
  rw[ha]at h
  replace h:appendL P T s x H=some (v,H'):=h
  obtain⟨e,i,m,hu,rfl⟩:=appendL_shape h
  unfold appendObl at ho
  simp only[ha,h,hu]at ho
  replace ho:=(allB_both ho).1
  obtain⟨ho123,ho4⟩:=allB_both ho
  obtain⟨ho12,ho3⟩:=allB_both ho123
  obtain⟨ho1,ho2⟩:=allB_both ho12
  refine ok_appendL inv h ho1 ho2 (fun e' he'=> ?_) (fun i' e' m' info hv hi=> ?_) rs rx
  ·rw[hu]at he';cases he';exact ho3
  ·cases hv
   rw[hi]at ho4
   exact allB_mem ho4 _ (by simp)
theorem op_sound (hok:EnvOk env) (hf:HasFn env r) (hr:SoundRec env.P env.pre r) {o:Oper} {v:AV} {H':Hp} {next:Act→World→Prop} {Q:Exit→Act→World→Prop}
 (h:evOp env r fr H o.type o.op=some (v,H')) (inv:Inv lo w0 ρ E H w) (hfr:FrRep ρ E w fr a)
 (hn:∀u ρ' E' w',Inv lo w0 ρ' E' H' w'→Reach lo ρ E w ρ' E' w'→Rep ρ' E' w' v u→(cls env o.op≤1→ρ'=ρ)→next (a.put o.dst u) w'):o.wp env.P a w next Q:=by
 have pur:∀{s:Sem Value} {x:Option AV},vA H x=some (v,H')→execOp a.eval o=(do pure (.value (← s)))→(∀v,x=some v→OkP env.P ρ E w s v)→o.wp env.P a w next Q:=by
  intro s x hx he hs
  obtain⟨hy,rfl⟩:=vA_some hx
  exact wp_okP he inv (hs v hy) hn
 obtain⟨hob,h⟩:=evOp_some h
 cases hop:o.op<;>simp only[hop,evOp0]at h<;>simp only[hop]at hob
 case move x=>
  cases h
  exact wp_okP (s:=pure (a.eval x)) (by simp[execOp,hop]) inv ⟨a.eval x,by simp,hfr.opd x⟩ hn
 case assign x=>
  cases h
  exact wp_okP (s:=pure (a.eval x)) (by simp[execOp,hop]) inv ⟨a.eval x,by simp,hfr.opd x⟩ hn
 case pick c x y=>
  obtain⟨hx,rfl⟩:=vA_some h
  obtain⟨t,ht,hv⟩:=ok_pick hx (hfr.opd c) (hfr.opd x) (hfr.opd y)
  exact wp_okP (s:=do pure (if ← asBool (a.eval c)then a.eval x else a.eval y)) (by simp[execOp,hop]) inv ⟨_,by simp[ht,asBool],hv⟩ hn
 case alloc T=>exact wp_okH (by simp[hop,cls]) (s:=Instr.alloc T true (.tuple #[])) (by simp[execOp,hop]) (ok_alloc inv h) hn
 case box T x=>exact wp_okH (by simp[hop,cls]) (s:=Instr.box T (a.eval x)) (by simp[execOp,hop]) (ok_box inv h (hfr.opd x)) hn
 case build T parts=>
  obtain⟨h1,h2⟩:=parts_rep hfr parts
  exact pur (s:=Instr.build T (parts.map fun(i,x)=>(i,a.eval x))) h (by simp[execOp,hop]) fun v hv=>ok_build hv h1 h2
 case buildSlice T len parts=>
  obtain⟨h1,h2⟩:=parts_rep hfr parts
  exact wp_okH (by simp[hop,cls]) (s:=Instr.buildSlice T len (parts.map fun(i,x)=>(i,a.eval x))) (by simp[execOp,hop]) (ok_buildSlice inv h h1 h2) hn
 case load T x=>exact pur (s:=Instr.loadAt T (a.eval x)) h (by simp[execOp,hop]) fun v hv=>ok_load inv hv (by simpa only[hop,obl]using hob) (hfr.opd x)
 case store T x y=>
  obtain⟨hx,rfl⟩:=uA_some h
  exact wp_okU (s:=Instr.storeAt T (a.eval x) (a.eval y)) (by simp[execOp,hop]) (ok_store inv hx (by simpa only[hop,obl]using hob) (hfr.opd x) (hfr.opd y)) hn
 case nilCheck x=>
  obtain⟨hx,rfl⟩:=vA_some h
  have hrx:=hfr.opd x
  have key:∃u,execOp a.eval o=pure (.value u)∧Rep ρ E w v u:=by
   unfold nilCheckA at hx
   split at hx
   ·rename_i e;cases hx;rw[e]at hrx
    have hrx':=hrx
    simp only[Rep]at hrx;obtain⟨b,hb,e2⟩:=hrx
    exact⟨a.eval x,by simp[execOp,hop,e2],hrx'⟩
   ·rename_i e;cases hx;rw[e]at hrx
    have hrx':=hrx
    simp only[Rep]at hrx;obtain⟨b,off,e2,_⟩:=hrx
    exact⟨a.eval x,by simp[execOp,hop,e2],hrx'⟩
   ·rename_i e;cases hx;rw[e]at hrx
    have hrx':=hrx
    simp only[Rep]at hrx;obtain⟨b,off,row,e2,_⟩:=hrx
    exact⟨a.eval x,by simp[execOp,hop,e2],hrx'⟩
   ·rename_i e;cases hx;rw[e]at hrx
    have hrx':=hrx
    simp only[Rep]at hrx;obtain⟨_,b,_,e2⟩:=hrx
    exact⟨a.eval x,by simp[execOp,hop,e2],hrx'⟩
   ·rename_i e;cases hx;rw[e]at hrx
    have hrx':=hrx
    simp only[Rep]at hrx
    exact⟨a.eval x,by simp[execOp,hop,hrx],hrx'⟩
   ·rename_i e;cases hx;rw[e]at hrx
    have hrx':=hrx
    simp only[Rep]at hrx;obtain⟨xs,ys,e2,_⟩:=hrx
    exact⟨a.eval x,by simp[execOp,hop,e2],hrx'⟩
   ·cases hx
  obtain⟨u,he,hv⟩:=key
  exact wp_okP (s:=pure u) (by simp[he]) inv ⟨u,by simp,hv⟩ hn
 case binOp op T x y yT=>exact pur (s:=do eqGuard op T x y (a.eval x) (a.eval y);binOp op T (a.eval x) (a.eval y)) h (by simp[execOp,hop]) fun v hv=>ok_binOp hv hob (hfr.opd x) (hfr.opd y)
 case unOp op T x=>exact pur (s:=Op.unary op (a.eval x)) h (by simp[execOp,hop]) fun v hv=>ok_unary hv (hfr.opd x)
 case convert S T x=>
  unfold convOp at h
  split at h
  ·rename_i v' hv
   cases h
   obtain⟨u,w',ρ',E',hr,inv',ext,hE,rv,e⟩:=ok_bytes' inv hv (hfr.opd x)
   unfold Oper.wp
   rw[show execOp a.eval o=(do pure (.value (← convert S T (a.eval x))))by simp[execOp,hop]]
   simp only[Sem.run_bind,hr,Result.andThen_ok,Sem.run_pure,Oper.upon]
   exact hn u ρ' E' w' inv' ⟨ext,hE⟩ rv fun _=>e
  ·exact pur (s:=convert S T (a.eval x)) h (by simp[execOp,hop]) fun v hv=>ok_convH inv hv (hfr.opd x)
 case makeFunc f first cap=>
  unfold makeFuncA at h
  split at h
  ·rename_i f'
   cases h
   refine wp_okP (s:=Instr.makeFunc (.func f') (first.map a.eval) (cap.map a.eval)) (by simp[execOp,hop]) inv ⟨.func (.func f') (first.map a.eval) (cap.map a.eval),by simp[Instr.makeFunc],?_⟩ hn
   simp only[Rep]
   exact⟨_,_,rfl,by simpa using hfr.opds first.toList,by simpa using hfr.opds cap.toList⟩
  ·cases h
 case makeMap T m=>
  unfold makeMapA at h
  split at h
  ·cases h
   exact wp_okH (by simp[hop,cls]) (s:=Instr.makeMap T none) (by simp[execOp,hop]) (ok_makeMap inv) hn
  ·cases h
 case makeSlice T l c=>exact wp_okH (by simp[hop,cls]) (s:=Instr.makeSlice T (a.eval l) (a.eval c)) (by simp[execOp,hop]) (ok_makeOp inv h (by simpa only[hop,obl]using hob) (hfr.opd l) (hfr.opd c)) hn
 case slice T x l h' m=>
  exact pur (s:=Instr.sliceAt T (a.eval x) (l.map a.eval) (h'.map a.eval) (m.map a.eval)) h (by simp[execOp,hop]) fun v hv=>ok_slice inv (RepO.opd hfr l) (RepO.opd hfr h') (RepO.opd hfr m) (by cases m<;>exact hob) hv (hfr.opd x)
 case fieldAddr s x f=>exact pur (s:=Instr.fieldAt s (a.eval x) f) h (by simp[execOp,hop]) fun v hv=>ok_fieldAddr hv (hfr.opd x)
 case field s x f=>exact pur (s:=Instr.field s (a.eval x) f) h (by simp[execOp,hop]) fun v hv=>ok_field hv (hfr.opd x)
 case indexAddr T x i=>exact pur (s:=Instr.indexAt T (a.eval x) (a.eval i)) h (by simp[execOp,hop]) fun v hv=>ok_idxOp inv hv hob (hfr.opd x) (hfr.opd i) (fun c hc=>by rw[hc];rfl)
 case index T x i=>exact pur (s:=Instr.index T (a.eval x) (a.eval i)) h (by simp[execOp,hop]) fun v hv=>ok_index hv hob (hfr.opd x) (hfr.opd i)
 case lookup T x k ok=>exact pur (s:=Instr.lookup T (a.eval x) (a.eval k) ok) h (by simp[execOp,hop]) fun v hv=>ok_lookup inv hv (hfr.opd x) (hfr.opd k)
 case mapUpdate T m k x=>
  obtain⟨hx,rfl⟩:=uA_some h
  exact wp_okU (s:=Instr.mapUpdate T (a.eval m) (a.eval k) (a.eval x)) (by simp[execOp,hop]) (ok_mapUpdate inv hx (hfr.opd m) (hfr.opd k) (hfr.opd x)) hn
 case extract x i=>exact pur (s:=Instr.extract (a.eval x) i) h (by simp[execOp,hop]) fun v hv=>ok_extract hv hob (hfr.opd x)
 case range T x=>
  exact wp_okE (fun hc=>by simp only[hop,cls]at hc;cases hm:isMapT env.P T<;>rw[hm]at hc<;>exact absurd hc (by decide)) (s:=Instr.range T (a.eval x)) (by simp[execOp,hop]) (ok_rangeA inv h (hfr.opd x)) hn
 case entry x=>exact pur (s:=Instr.entry (a.eval x)) h (by simp[execOp,hop]) fun v hv=>ok_entry inv hv (hfr.opd x)
 case next x b=>exact wp_okH (by simp[hop,cls]) (s:=Instr.next (a.eval x) b o.type) (by simp[execOp,hop]) (ok_next inv o.type h (hfr.opd x)) hn
 case call c=>
  unfold callOp at h
  split at h
  ·rename_i g hg
   unfold callV at h
   split at h
   ·rename_i f xs ys hgf
    have hrg:=hfr.opd g
    rw[hgf]at hrg
    simp only[Rep]at hrg
    obtain⟨vxs,vys,hge,hrx,hry⟩:=hrg
    obtain⟨F,hF⟩:=callA_fn hf h
    have hra:RepL ρ E w (xs++c.args.toList.map (AM.opd fr)++ys) (vxs++c.args.map a.eval++vys).toList:=by
     have:=(hrx.app (hfr.opds c.args.toList)).app hry
     simpa using this
    refine call_op ?_ ((any_call hr h (by simpa only[obl,hg,hgf,callVObl]using hob) inv hra).mono ?_) hn
    ·simp[execOp,hop,resolve,hg,hge,Deferred.ofValue,invoke,run_callFunc hok hF]
    ·rintro e w' ⟨u,ρ',E',he,h1,h2,h3,h4⟩
     refine⟨u,ρ',E',he,h1,h2,h3,fun hc=>h4 ?_⟩
     simp only[hop,cls,hg]at hc
     cases g with
     |func f'=>
      simp only[AM.opd,AV.func.injEq]at hgf
      obtain⟨rfl,_,_⟩:=hgf
      cases hp:env.isPure f' with
      |true=>rfl
      |false=>simp[hp]at hc
     |tmp _=>simp at hc
     |const _=>simp at hc
     |global _=>simp at hc
   ·cases h
  ·rename_i b hb
   unfold builtinA at h
   have hargs:=hfr.opds c.args.toList
   have hsem:∀s:Sem Value,builtin b c.argTypes o.type (c.args.map fun | .const _=>true|_=>false) (c.args.map a.eval)=(do pure (.value (← s)))→execOp a.eval o=(do pure (.value (← s))):=by
    intro s hs
    simp only[execOp,hop,resolve,hb,pure_bind,invoke]
    exact hs
   split at h
   ·
    unfold lenOp at h
    split at h
    ·rename_i x T h1 h2
     have hx:∃xo,c.args.toList = [xo]∧AM.opd fr xo=x:=by
      cases hc:c.args.toList with
      |nil=>simp[hc]at h1
      |cons xo rest=>cases rest with
       |nil=>simp[hc]at h1;exact⟨xo,rfl,h1⟩
       |cons _ _=>simp[hc]at h1
     obtain⟨xo,hc,rfl⟩:=hx
     have hc':c.args.map a.eval = #[a.eval xo]:=by apply Array.ext';simp[hc]
     have ht:c.argTypes = #[T]:=by apply Array.ext';simp[h2]
     exact pur (s:=Builtin.len_ #[T] o.type #[a.eval xo]) h (hsem _ (by simp[builtin,hc',ht])) fun v hv=>ok_len inv hv (hfr.opd xo)
    ·cases h
   ·
    unfold capOp at h
    split at h
    ·rename_i x T h1 h2
     have hx:∃xo,c.args.toList = [xo]∧AM.opd fr xo=x:=by
      cases hc:c.args.toList with
      |nil=>simp[hc]at h1
      |cons xo rest=>cases rest with
       |nil=>simp[hc]at h1;exact⟨xo,rfl,h1⟩
       |cons _ _=>simp[hc]at h1
     obtain⟨xo,hc,rfl⟩:=hx
     have hc':c.args.map a.eval = #[a.eval xo]:=by apply Array.ext';simp[hc]
     have ht:c.argTypes = #[T]:=by apply Array.ext';simp[h2]
     exact pur (s:=Builtin.cap_ #[T] o.type #[a.eval xo]) h (hsem _ (by simp[builtin,hc',ht])) fun v hv=>ok_cap hv (hfr.opd xo)
    ·cases h
   ·
    unfold appendOp at h
    split at h
    ·rename_i s x T T' h1 h2
     split at h
     ·rename_i hTT
      subst hTT
      have hx:∃so xo,c.args.toList = [so,xo]∧AM.opd fr so=s∧AM.opd fr xo=x:=by
       cases hc:c.args.toList with
       |nil=>simp[hc]at h1
       |cons so rest=>cases rest with
        |nil=>simp[hc]at h1
        |cons xo rest=>cases rest with
         |nil=>simp[hc]at h1;exact⟨so,xo,rfl,h1.1,h1.2⟩
         |cons _ _=>simp[hc]at h1
      obtain⟨so,xo,hc,rfl,rfl⟩:=hx
      have hc':c.args.map a.eval = #[a.eval so,a.eval xo]:=by apply Array.ext';simp[hc]
      have ht:c.argTypes = #[T',T']:=by apply Array.ext';simp[h2]
      have hob':allB (appendObl env.P H [AM.opd fr so,AM.opd fr xo] [T',T'])=true:=by
       have:c.argTypes.toList = [T',T']:=h2
       simpa only[obl,hb,hc,this,List.map_cons,List.map_nil]using hob
      exact wp_okE (by simp[hop,cls,hb]) (s:=Builtin.append_ #[T',T'] o.type #[a.eval so,a.eval xo]) (hsem _ (by simp[builtin,hc',ht])) (ok_appendB inv h hob' (hfr.opd so) (hfr.opd xo)) hn
     ·rename_i hTT
      have hx:∃so xo,c.args.toList = [so,xo]∧AM.opd fr so=s∧AM.opd fr xo=x:=by
       cases hc:c.args.toList with
       |nil=>simp[hc]at h1
       |cons so rest=>cases rest with
        |nil=>simp[hc]at h1
        |cons xo rest=>cases rest with
         |nil=>simp[hc]at h1;exact⟨so,xo,rfl,h1.1,h1.2⟩
         |cons _ _=>simp[hc]at h1
      obtain⟨so,xo,hc,rfl,rfl⟩:=hx
      have hc':c.args.map a.eval = #[a.eval so,a.eval xo]:=by apply Array.ext';simp[hc]
      have ht:c.argTypes = #[T,T']:=by apply Array.ext';simp[h2]
      have hob':allB (appendObl env.P H [AM.opd fr so,AM.opd fr xo] [T,T'])=true:=by
       have:c.argTypes.toList = [T,T']:=h2
       simpa only[obl,hb,hc,this,List.map_cons,List.map_nil]using hob
      exact wp_okH (by simp[hop,cls,hb]) (s:=Builtin.append_ #[T,T'] o.type #[a.eval so,a.eval xo]) (hsem _ (by simp[builtin,hc',ht])) (ok_appendZL inv h hTT (by unfold appendObl at hob';exact(allB_both hob').2) (hfr.opd so) (hfr.opd xo)) hn
    ·cases h
   ·
    unfold copyOp at h
    split at h
    ·rename_i d x T T' h1 h2
     have hx:∃so xo,c.args.toList = [so,xo]∧AM.opd fr so=d∧AM.opd fr xo=x:=by
      cases hc:c.args.toList with
      |nil=>simp[hc]at h1
      |cons so rest=>cases rest with
       |nil=>simp[hc]at h1
       |cons xo rest=>cases rest with
        |nil=>simp[hc]at h1;exact⟨so,xo,rfl,h1.1,h1.2⟩
        |cons _ _=>simp[hc]at h1
     obtain⟨so,xo,hc,rfl,rfl⟩:=hx
     have hc':c.args.map a.eval = #[a.eval so,a.eval xo]:=by apply Array.ext';simp[hc]
     have ht:c.argTypes = #[T,T']:=by apply Array.ext';simp[h2]
     exact wp_okH (by simp[hop,cls,hb]) (s:=Builtin.copy_ #[T,T'] o.type #[a.eval so,a.eval xo]) (hsem _ (by simp[builtin,hc',ht])) (ok_copy inv h (hfr.opd so) (hfr.opd xo)) hn
    ·cases h
   ·
    unfold minOp at h
    split at h
    ·rename_i x y h1
     have hx:c.args.map a.eval = #[x,y]:=by
      rw[h1]at hargs
      simp only[RepL,Rep]at hargs
      obtain⟨v1,vs1,e1,rfl,v2,vs2,rfl,rfl,rfl⟩:=hargs
      apply Array.ext';simpa using e1
     exact pur (s:=Builtin.min_ c.argTypes o.type #[x,y]) h (hsem _ (by simp[builtin,hx])) fun v hv=>ok_pure_map hv
    ·rename_i x y _ h1
     rw[h1]at hargs
     simp only[RepL]at hargs
     obtain⟨v1,vs1,e1,r1,v2,vs2,rfl,r2,rfl⟩:=hargs
     have hx:c.args.map a.eval = #[v1,v2]:=by apply Array.ext';simpa using e1
     exact pur (s:=Builtin.min_ c.argTypes o.type #[v1,v2]) h (hsem _ (by simp[builtin,hx])) fun v hv=>ok_min hv r1 r2
    ·cases h
   ·
    unfold maxOp at h
    split at h
    ·rename_i x y h1
     have hx:c.args.map a.eval = #[x,y]:=by
      rw[h1]at hargs
      simp only[RepL,Rep]at hargs
      obtain⟨v1,vs1,e1,rfl,v2,vs2,rfl,rfl,rfl⟩:=hargs
      apply Array.ext';simpa using e1
     exact pur (s:=Builtin.max_ c.argTypes o.type #[x,y]) h (hsem _ (by simp[builtin,hx])) fun v hv=>ok_pure_map hv
    ·rename_i x y _ h1
     rw[h1]at hargs
     simp only[RepL]at hargs
     obtain⟨v1,vs1,e1,r1,v2,vs2,rfl,r2,rfl⟩:=hargs
     have hx:c.args.map a.eval = #[v1,v2]:=by apply Array.ext';simpa using e1
     exact pur (s:=Builtin.max_ c.argTypes o.type #[v1,v2]) h (hsem _ (by simp[builtin,hx])) fun v hv=>ok_max hv r1 r2
    ·cases h
   ·cases h
  ·cases h
 all_goals cases h
end
end Go.AM
