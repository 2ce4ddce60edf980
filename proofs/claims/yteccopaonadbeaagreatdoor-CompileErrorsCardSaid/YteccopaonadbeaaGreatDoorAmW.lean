/-
  Closed runs where each function has surroundings of its own; functions that defer one call.
-/
import Derived.Test.YteccopaonadbeaaGreatDoorAmZ2
import Derived.Defers
set_option linter.unusedVariables false
set_option linter.unusedSimpArgs false
namespace Go.AM
set_option linter.unusedSimpArgs false
noncomputable section
def isDfr:Op→Bool
 | .defer _=>true
 |_=>false
def hasDfr:Code→Bool
 | .region _ ops _=>ops.toList.any fun o=>isDfr o.op
 | .seq a b=>hasDfr a||hasDfr b
 | .cond _ a b=>hasDfr a||hasDfr b
 | .block _ c=>hasDfr c
 | .loop c=>hasDfr c
 | .scope c=>hasDfr c
 |_=>false
def lastDfr:List Oper→Option (List Oper×Oper×Operand×List Operand)
 | []=>none
 | [o]=>(match o.op,o.guard with
   | .defer c,none=>(match c.callee with | .value g=>some ([],o,g,c.args.toList)|_=>none)
   |_,_=>none)
 |o::os=>(lastDfr os).map fun q=>(o::q.1,q.2)
def evD {R:Type} (e:Env) (r:Rec) (F:Nat):Code→Fr→Hp→(AV→List AV→Fr→Hp→Option R)→(Fr→Hp→Option R)→(AV→List AV→Fr→Hp→Option R)→Option R
 | .seq a b,fr,H,kd,kr,krd=>
   bif hasDfr a then evD e r F a fr H (fun g zs fr H=>ev e r F none b fr H (kd g zs) (fun _ _ _=>none) (krd g zs) (fun _ _ _=>none)) kr krd
   else ev e r F none a fr H (fun fr H=>evD e r F b fr H kd kr krd) (fun _ _ _=>none) kr (fun _ _ _=>none)
 | .region _ ops draw,fr,H,kd,_,_=>
   bif draw then none else
   match lastDfr ops.toList with
   |some (pre,o,g,zs)=>evOps true e r ops (fun fr H=>(match opd fr g with | .func f x y=>kd (.func f x y) (zs.map (opd fr)) (putA fr o.dst uv) H|_=>none)) pre fr H
   |none=>none
 |_,_,_,_,_,_=>none
def callB (e:Env) (r:Rec) (F:Nat) (g:AV) (zs:List AV) (H:Hp):Option (AV×Hp):=
 match g with
 | .func f a b=>(e.fn f).bind fun fn=>ev e r F none fn.code (frame0 (a++zs++b) fn.ntmps) H (retA e.P fn.results) (fun _ _ _=>none) (retA e.P fn.results) (fun _ _ _=>none)
 |_=>none
def endD (e:Env) (r:Rec) (F:Nat) (fn:FnA) (g:AV) (zs:List AV) (fr:Fr) (H:Hp):Option (AV×Hp):=
 (callB e r F g zs H).bind fun p=>retA e.P fn.results fr p.2
def bodyD (e:Env) (r:Rec) (F:Nat):Rec:=fun f args H=>(e.fn f).bind fun fn=>
 evD e r F fn.code (frame0 args fn.ntmps) H (endD e r F fn) (retA e.P fn.results) (endD e r F fn)
section
variable [HasDef] {lo:Nat→Prop} {w0:World} {ρ0:Nat→Option Nat} {E0:Nat→Prop} {wE:World} {env:Env} {r:Rec}
set_option linter.unusedSectionVars false
theorem opsP_sound (hok:EnvOk env) (hf:HasFn env r) (hr:SoundRec env.P env.pre r) {R:Type} {res:R} {ops:Array Oper} {k:Fr→Hp→Option R} {Q:Exit→Act→World→Prop} (post:List Oper) (hk:After lo w0 ρ0 E0 wE res k (wpList env.P ops Q post)):
 ∀(u:Bool) (os:List Oper) (fr:Fr) (H:Hp),evOps u env r ops k os fr H=some res→∀ρ E a w,St lo w0 ρ0 E0 wE ρ E H fr a w→wpList env.P ops Q (os++post) a w
 |_,[],fr,H,h,ρ,E,a,w,st=>by
  simp only[evOps]at h
  exact hk ρ E fr H a w h st
 |ub,o::os,fr,H,h,ρ,E,a,w,st=>by
  have run:∀fr',FrRep ρ E w fr' a→opK env r fr' H o.type o.op (fun p=>refA (!ub&&isGuard ops o.dst) p.1 fun v=>putK env.clr fr' o.dst v p.2 (evOps ub env r ops k os))=some res→o.wp env.P a w (wpList env.P ops Q (os++post)) Q:=by
   intro fr' hfr' h'
   rw[opK_eq]at h'
   cases he:evOp env r fr' H o.type o.op with
   |none=>simp[he]at h'
   |some p=>
    obtain⟨v0,H'⟩:=p
    simp only[he,Option.bind_some]at h'
    obtain⟨v,hre,h'⟩:=refA_some h'
    simp only[putK_eq]at h'
    refine op_sound hok hf hr he st.inv hfr' fun u ρ' E' w' inv' reach rv _=> ?_
    exact opsP_sound hok hf hr post hk ub os _ H' h' ρ' E' _ w' ⟨inv',(hfr'.mono reach.ext).put (hre.rep rv) o.dst,st.reach.trans reach⟩
  have skip:∀fr',FrRep ρ E w fr' a→putK env.clr fr' o.dst uv H (evOps ub env r ops k os)=some res→wpList env.P ops Q (os++post) (a.put o.dst undef) w:=by
   intro fr' hfr' h'
   rw[putK_eq]at h'
   exact opsP_sound hok hf hr post hk ub os _ H h' ρ E _ w ⟨st.inv,hfr'.put (by simp only[uv,Rep]) o.dst,st.reach⟩
  simp only[evOps]at h
  rw[List.cons_append]
  unfold wpList
  split at h
  ·rename_i hg
   rw[if_pos (by simp[Region.wanted,hg])]
   exact .inl (run fr st.fr h)
  ·rename_i j want hg
   split at h
   ·cases h
   ·rename_i s hs
    unfold guardK at h
    split at h
    ·rename_i b hb
     cases hu:ub with
     |false=>simp[hu]at h
     |true=>
      simp only[hu,cond_true]at h
      have hb':Rep ρ E w (.sc (.bool b)) (a.tmps.getD s undef):=by
       have:=st.fr.getD s
       rw[hb]at this
       simpa only[Rep]using this
      have hl:s<fr.length:=by
       by_cases hl:s<fr.length
       ·exact hl
       ·rw[List.getD,List.getElem?_eq_none (Nat.le_of_not_lt hl)]at hb;simp at hb
      have ht:a.tmps[s]? = some (.bool b):=by
       simp only[Rep]at hb'
       have hl':s<a.tmps.size:=by rw[st.fr.size];exact hl
       simp[Array.getD,hl']at hb'
       simp[hl',hb']
      have hw:=wanted_guard hg hs ht
      have hset:FrRep ρ E w (fr.set s (.sc (.bool b))) a:=st.fr.setRep hb'
      rw[hu]at run skip
      cases b with
      |true=>
       simp only[cond_true]at h
       cases want with
       |true=>rw[hw,if_pos (by rfl)];exact .inl (run _ hset h)
       |false=>rw[hw,if_neg (by simp)];exact skip _ hset h
      |false=>
       simp only[cond_false]at h
       cases want with
       |true=>rw[hw,if_neg (by simp)];exact skip _ hset h
       |false=>rw[hw,if_pos (by rfl)];exact .inl (run _ hset h)
    ·rename_i b hb
     have ht:=st.fr.at hb
     have hw:=wanted_guard hg hs ht
     have hset:FrRep ρ E w (fr.set s (.sc (.bool b))) a:=st.fr.set hb
     cases b with
     |true=>
      simp only[cond_true]at h
      cases want with
      |true=>rw[hw,if_pos (by rfl)];exact .inl (run _ hset h)
      |false=>rw[hw,if_neg (by simp)];exact skip _ hset h
     |false=>
      simp only[cond_false]at h
      cases want with
      |true=>rw[hw,if_neg (by simp)];exact skip _ hset h
      |false=>rw[hw,if_pos (by rfl)];exact .inl (run _ hset h)
    ·rename_i vs hb
     have ht:=st.fr.at hb
     rw[wanted_skip hg hs ht,if_neg (by simp)]
     exact skip fr st.fr h
    ·cases h
end
theorem lastDfr_some:∀{os pre:List Oper} {o:Oper} {g:Operand} {zs:List Operand},lastDfr os=some (pre,o,g,zs)→os=pre ++ [o]∧∃c,o.op = .defer c∧o.guard=none∧c.callee = .value g∧c.args.toList=zs
 | [],pre,o,g,zs,h=>by simp[lastDfr]at h
 | [x],pre,o,g,zs,h=>by
   simp only[lastDfr]at h
   split at h
   ·rename_i c h1 h2
    split at h
    ·rename_i g' hg
     cases h
     exact⟨rfl,c,h1,h2,hg,rfl⟩
    ·cases h
   ·cases h
 |x::y::os,pre,o,g,zs,h=>by
  simp only[lastDfr]at h
  obtain⟨⟨p,q⟩,hq,he⟩:=Option.map_eq_some_iff.1 h
  obtain⟨h1,h2⟩:=lastDfr_some hq
  cases he
  exact⟨by rw[h1];rfl,h2⟩
section
variable {lo:Nat→Prop} {w0:World} {ρ0:Nat→Option Nat} {E0:Nat→Prop} {wE:World} {env:Env} {r:Rec}
theorem evD_sound (hok:EnvOk env) (hf:HasFn env r) (hr:SoundRec env.P env.pre r) (hd:∀i:HasDef,@DrawSound i env r) (hl:∀n c,env.lp n c=none) (F:Nat) {R:Type} {res:R} {Q:Exit→Act→World→Prop} {kr:Fr→Hp→Option R} {krd:AV→List AV→Fr→Hp→Option R}
 (hret:After lo w0 ρ0 E0 wE res kr (Q .ret))
 (hretd:∀(g:AV) (zs:List AV) (f:FuncId) (xs ys vs:Array Value) (ρ1:Nat→Option Nat) (E1:Nat→Prop) (w1:World),Rep ρ1 E1 w1 g (.func (.func f) xs ys)→RepL ρ1 E1 w1 zs vs.toList→Reach lo ρ0 E0 wE ρ1 E1 w1→
  @After ⟨[{target:= .fn (.func f) ys,args:=xs++vs}]⟩ lo w0 ρ1 E1 w1 _ res (krd g zs) (Q .ret)):
 ∀(c:Code) (fr:Fr) (H:Hp) (kd:AV→List AV→Fr→Hp→Option R) (K:Exit→Act→World→Prop),evD env r F c fr H kd kr krd=some res→(K .ret=Q .ret)→
  (∀(g:AV) (zs:List AV) (f:FuncId) (xs ys vs:Array Value) (ρ1:Nat→Option Nat) (E1:Nat→Prop) (w1:World),Rep ρ1 E1 w1 g (.func (.func f) xs ys)→RepL ρ1 E1 w1 zs vs.toList→Reach lo ρ0 E0 wE ρ1 E1 w1→
   @After ⟨[{target:= .fn (.func f) ys,args:=xs++vs}]⟩ lo w0 ρ1 E1 w1 _ res (kd g zs) (K .normal))→
  ∀ρ E a w,St lo w0 ρ0 E0 wE ρ E H fr a w→c.wp env.P K a w:=by
 intro c
 induction c with
 |seq x y ihx ihy=>
  intro fr H kd K h hK hn ρ E a w st
  simp only[evD]at h
  cases hb:hasDfr x with
  |true=>
   simp only[hb,cond_true]at h
   refine wp_seq (ihx fr H _ (Exit.then (y.wp env.P K) K) h hK (fun g zs f xs ys vs ρ1 E1 w1 hg has hre=> ?_) ρ E a w st)
   intro ρ2 E2 fr2 H2 a2 w2 h2 st2
   refine @ev_sound ⟨_⟩ lo w0 ρ1 E1 w1 env r hok hf hr (hd _) (.inr hl) F R res y (fun x _ g hg=>by rw[hl]at hg;cases hg) none fr2 H2 _ _ _ _ K h2 (hn g zs f xs ys vs ρ1 E1 w1 hg has hre) (fun i ρ' E' fr' H1 a' w' hk=>by cases hk) (by rw[hK];exact hretd g zs f xs ys vs ρ1 E1 w1 hg has hre) (fun l ρ' E' fr' H1 a' w' hk=>by cases hk) ρ2 E2 a2 w2 st2
  |false=>
   simp only[hb,cond_false]at h
   refine wp_seq (ev_sound hok hf hr (hd _) (.inr hl) F x (fun x _ g hg=>by rw[hl]at hg;cases hg) none fr H _ _ _ _ (Exit.then (y.wp env.P K) K) h ?_ (fun i ρ' E' fr' H1 a' w' hk=>by cases hk) (by show After lo w0 ρ0 E0 wE res kr (K .ret);rw[hK];exact hret) (fun l ρ' E' fr' H1 a' w' hk=>by cases hk) ρ E a w st)
   intro ρ1 E1 fr1 H1 a1 w1 h1 st1
   exact ihy fr1 H1 kd K h1 hK hn ρ1 E1 a1 w1 st1
 |region id ops draw=>
  intro fr H kd K h hK hn ρ E a w st
  simp only[evD]at h
  cases draw with
  |true=>simp at h
  |false=>
   simp only[cond_false]at h
   split at h
   ·rename_i pre o g zs hlast
    obtain⟨hops,c,hop,hgu,hcal,has⟩:=lastDfr_some hlast
    refine wp_region_list ?_
    rw[hops]
    refine opsP_sound hok hf hr [o] ?_ true pre fr H h ρ E a w st
    intro ρ1 E1 fr1 H1 a1 w1 h1 st1
    simp only[wpList]
    rw[if_pos (by simp[Region.wanted,hgu])]
    left
    simp only at h1
    split at h1
    ·rename_i f x y hgf
     have hg:Rep ρ1 E1 w1 (.func f x y) (a1.eval g):=by rw[← hgf];exact st1.fr.opd g
     have hg':=hg
     simp only[Rep]at hg'
     obtain⟨xs,ys,hev,hx,hy⟩:=hg'
     rw[hev]at hg
     have hz:RepL ρ1 E1 w1 (zs.map (AM.opd fr1)) (c.args.map a1.eval).toList:=by
      rw[← has]
      simpa using st1.fr.opds c.args.toList
     have hrun:(execOp a1.eval o).run env.P w1 = .ok (.defer {target:= .fn (.func f) ys,args:=xs++c.args.map a1.eval}) w1:=by
      unfold execOp
      simp[hop,resolve,hcal,hev,Deferred.ofValue]
     unfold Oper.wp
     rw[hrun,Oper.upon_defer]
     refine hn _ _ f xs ys (c.args.map a1.eval) ρ1 E1 w1 hg hz st1.reach ρ1 E1 _ H1 _ w1 h1 ?_
     have hfr:FrRep ρ1 E1 w1 (putA fr1 o.dst uv) (a1.put o.dst undef):=st1.fr.put (by simp only[uv,Rep]) o.dst
     refine @St.mk ⟨_⟩ _ _ _ _ _ _ _ _ _ _ _ st1.inv ?_ Reach.refl
     have hds:a1.defers = []:=st1.fr.defers
     cases hdst:o.dst with
     |none=>
      rw[hdst]at hfr
      exact @FrRep.mk ⟨_⟩ _ _ _ _ _ hfr.size hfr.rep (by show _::a1.defers=_;rw[hds];rfl)
     |some s=>
      rw[hdst]at hfr
      exact @FrRep.mk ⟨_⟩ _ _ _ _ _ hfr.size hfr.rep (by show _::a1.defers=_;rw[hds];rfl)
    ·cases h1
   ·cases h
 |_=>intro fr H kd K h;simp[evD]at h
theorem callB_wp (hok:EnvOk env) (hf:HasFn env r) (hr:SoundRec env.P env.pre r) (hd:DrawSound env r) (hl:∀n c,env.lp n c=none) (F:Nat) {f:FuncId} {fn:Func} {G:FnA} {args:List AV} {H:Hp} {p:AV×Hp} (hF:env.fn f=some G)
 (h3:fn.ntmps=G.ntmps) (h4:fn.results.toList=G.results)
 (h:ev env r F none G.code (frame0 args G.ntmps) H (retA env.P G.results) (fun _ _ _=>none) (retA env.P G.results) (fun _ _ _=>none)=some p)
 {ρ:Nat→Option Nat} {E:Nat→Prop} {w:World} {vs:Array Value} (inv:Inv lo w0 ρ E H w) (ra:RepL ρ E w args vs.toList):
 G.code.wp env.P (bodyPost env.P fn fun e w'=>∃u ρ' E',e = .returned u∧Inv lo w0 ρ' E' p.2 w'∧Reach lo ρ E w ρ' E' w') {tmps:=vs++Array.replicate (fn.ntmps-vs.size) undef,defers:=[]} w:=by
 rw[h3]
 have st:St lo w0 ρ E w ρ E H (frame0 args G.ntmps) {tmps:=vs++Array.replicate (G.ntmps-vs.size) undef,defers:=[]} w:=⟨inv,frame0_rep G.ntmps ra,Reach.refl⟩
 have fin:∀(ex:Exit),(ex = .normal∨ex = .ret)→After lo w0 ρ E w p (retA env.P G.results) (bodyPost env.P fn (fun e w'=>∃u ρ' E',e = .returned u∧Inv lo w0 ρ' E' p.2 w'∧Reach lo ρ E w ρ' E' w') ex):=by
  intro ex hex ρ' E' fr' H1 a' w' hk st'
  rw[← h4]at hk
  obtain⟨e,u,hru,hv⟩:=ret_sound (v:=p.1) (H':=p.2) st'.inv st'.fr hk
  have:a'.defers = []∧∃v0,(results fn a'.tmps).run env.P w' = .ok v0 w'∧∃u ρ'' E'',Ending.returned v0 = .returned u∧Inv lo w0 ρ'' E'' p.2 w'∧Reach lo ρ E w ρ'' E'' w':=
   ⟨st'.fr.defers,u,hru,u,ρ',E',rfl,by rw[e];exact st'.inv,st'.reach⟩
  rcases hex with rfl|rfl<;>exact this
 exact ev_sound hok hf hr hd (.inr hl) F G.code (fun x _ g hg=>by rw[hl]at hg;cases hg) none _ H _ _ _ _ _ h (fin .normal (.inl rfl)) (fun i ρ' E' fr' H1 a' w' hk=>by cases hk) (fin .ret (.inr rfl)) (fun l ρ' E' fr' H1 a' w' hk=>by cases hk) ρ E _ w st
theorem bodyD_sound (hok:EnvOk env) (hf:HasFn env r) (hr:SoundRec env.P env.pre r) (hd:∀i:HasDef,@DrawSound i env r) (hl:∀n c,env.lp n c=none) (F:Nat) (f:FuncId) (pre:FuncId→List AV→Hp→List Bool):
 SoundAt env.P pre (bodyD env r F) f:=by
 intro args H v H' h _ lo w0 ρ E w vs inv ra
 simp only[bodyD]at h
 cases hF:env.fn f with
 |none=>simp[hF]at h
 |some G=>
  simp only[hF,Option.bind_some]at h
  obtain⟨fn,h1,h2,h3,h4,_⟩:=hok f G hF
  refine calls_of_wp_defers h1 h2 ?_
  rw[h3]
  have st:St lo w0 ρ E w ρ E H (frame0 args G.ntmps) {tmps:=vs++Array.replicate (G.ntmps-vs.size) undef,defers:=[]} w:=⟨inv,frame0_rep G.ntmps ra,Reach.refl⟩
  have late:∀(ex:Exit),(ex = .normal∨ex = .ret)→∀(g:AV) (zs:List AV) (fd:FuncId) (xs ys vd:Array Value) (ρ1:Nat→Option Nat) (E1:Nat→Prop) (w1:World),Rep ρ1 E1 w1 g (.func (.func fd) xs ys)→RepL ρ1 E1 w1 zs vd.toList→Reach lo ρ E w ρ1 E1 w1→
   @After ⟨[{target:= .fn (.func fd) ys,args:=xs++vd}]⟩ lo w0 ρ1 E1 w1 _ (v,H') (endD env r F G g zs) (bodyPostD env.P fn (fun e w'=>∃u ρ' E',e = .returned u∧Inv lo w0 ρ' E' H' w'∧Reach lo ρ E w ρ' E' w'∧Rep ρ' E' w' v u) ex):=by
   intro ex hex g zs fd xs ys vd ρ1 E1 w1 hg hz hre ρ2 E2 fr2 H2 a2 w2 hk st2
   obtain⟨sinv,sfr,srch⟩:=st2
   obtain⟨fsz,frp,hds⟩:=sfr
   have hds:a2.defers = [{target:= .fn (.func fd) ys,args:=xs++vd}]:=hds
   have goal:Leaves env.P fn a2.tmps (fun e w'=>∃u ρ' E',e = .returned u∧Inv lo w0 ρ' E' H' w'∧Reach lo ρ E w ρ' E' w'∧Rep ρ' E' w' v u) a2.defers .returning w2:=by
    simp only[endD]at hk
    obtain⟨p,hp,hk2⟩:=Option.bind_eq_some_iff.1 hk
    unfold callB at hp
    split at hp
    ·rename_i fc x y
     simp only[Rep]at hg
     obtain⟨xs',ys',he,hx,hy⟩:=hg
     cases he
     obtain⟨Gc,hGc,hp⟩:=Option.bind_eq_some_iff.1 hp
     obtain⟨fnc,c1,c2,c3,c4,_⟩:=hok fd Gc hGc
     have hargs:RepL ρ2 E2 w2 (x++zs++y) ((xs++vd)++ys).toList:=by
      have e:=srch.ext
      have:=((RepL.mono e _ _ hx).app (RepL.mono e _ _ hz)).app (RepL.mono e _ _ hy)
      simpa using this
     have hw:=callB_wp hok hf hr (hd _) hl F hGc c3 c4 hp sinv hargs
     rw[hds]
     refine leaves_cons (by simp) (f:=fd) (args:=(xs++vd)++ys) (by simp only[invoke];exact run_callFunc hok hGc _ _) ?_
     refine(callsD_of_wp c1 c2 hw).mono ?_
     rintro e' u' w' ⟨rfl,u0,ρ3,E3,rfl,inv3,reach3⟩
     rw[← h4]at hk2
     have hfr:FrRep ρ3 E3 w' fr2 {tmps:=a2.tmps,defers:=[]}:=⟨fsz,fun t x ht=>Rep.mono reach3.ext _ _ (frp t x ht),rfl⟩
     obtain⟨e3,u3,hru,hv⟩:=ret_sound (v:=v) (H':=H') inv3 hfr hk2
     exact⟨u3,hru,u3,ρ3,E3,rfl,by rw[e3];exact inv3,hre.trans (srch.trans reach3),hv⟩
    ·cases hp
   rcases hex with rfl|rfl<;>exact goal
  refine evD_sound hok hf hr hd hl F (Q:=bodyPostD env.P fn fun e w'=>∃u ρ' E',e = .returned u∧Inv lo w0 ρ' E' H' w'∧Reach lo ρ E w ρ' E' w'∧Rep ρ' E' w' v u) (kr:=retA env.P G.results) (krd:=endD env r F G) ?_ (fun g zs fd xs ys vd ρ1 E1 w1 hg hz hre=>late .ret (.inr rfl) g zs fd xs ys vd ρ1 E1 w1 hg hz hre) G.code _ H _ _ h rfl (fun g zs fd xs ys vd ρ1 E1 w1 hg hz hre=>late .normal (.inl rfl) g zs fd xs ys vd ρ1 E1 w1 hg hz hre) ρ E _ w st
  intro ρ' E' fr' H1 a' w' hk st'
  rw[← h4]at hk
  obtain⟨e,u,hru,hv⟩:=ret_sound (v:=v) (H':=H') st'.inv st'.fr hk
  have hds:a'.defers = []:=st'.fr.defers
  show Leaves env.P fn a'.tmps _ a'.defers .returning w'
  rw[hds]
  exact⟨u,hru,u,ρ',E',rfl,by rw[e];exact st'.inv,st'.reach,hv⟩
end
def envP (e:Env) (ps:List (Nat×Nat)) (f:FuncId):Env:={e with isPure:=fun g=>e.isPure g||inP f g ps}
def runP (e:Env) (ps:List (Nat×Nat)) (ds:List Nat) (tb:Tb) (F:Nat):Nat→RQ
 |0=>RQ.of tb.T
 |n+1=>RQ.of fun f args H=>orRun (tb.T f args H) (bif ds.elem f then bodyD (envP e ps f) (runP e ps ds tb F n).d F f args H else(fnC (envP e ps f) F f).a (runP e ps ds tb F n) args H fun v H=>some (v,H))
section
variable {e:Env} {tb:Tb}
theorem fnC_body (e:Env) (F:Nat) (f:FuncId) (r:RQ) (args:List AV) (H:Hp):((fnC e F f).a r args H fun v H=>some (v,H))=(e.fn f).bind fun fn=>ev e r.d F none fn.code (frame0 args fn.ntmps) H (retA e.P fn.results) (fun _ _ _=>none) (retA e.P fn.results) (fun _ _ _=>none):=by
 unfold fnC
 cases e.fn f with
 |none=>rfl
 |some fn=>
  simp only[bodyC,frS_eq,Option.bind_some]
  rw[comp_eq e F fn.code _ (TF.of (frame0 args fn.ntmps)) H _ _ _ _ (retA e.P fn.results) (fun _ _ _=>none) (retA e.P fn.results) (fun _ _ _=>none) (fun y H'=>by cases retA e.P fn.results y.fr H'<;>rfl) (fun _ _ _=>rfl) (fun y H'=>by cases retA e.P fn.results y.fr H'<;>rfl) (fun _ _ _=>rfl),fr_of]
theorem runP_fn (ps:List (Nat×Nat)) (ds:List Nat) (h:TbOk e tb) (F:Nat) (g:FuncId):∀n,HasFn (envP e ps g) (runP e ps ds tb F n).d
 |0=>h.h
 |n+1=>by
  intro f args H p hp
  simp only[runP,RQ.of]at hp
  cases ht:tb.T f args H with
  |some q=>exact h.h f args H q ht
  |none=>
   rw[ht]at hp
   simp only[orRun]at hp
   cases hF:e.fn f with
   |some G=>exact⟨G,hF⟩
   |none=>
    cases hd:ds.elem f with
    |true=>rw[hd]at hp;simp only[cond_true,bodyD,envP,hF,Option.bind_none]at hp;cases hp
    |false=>rw[hd]at hp;simp only[cond_false,fnC_body,envP,hF,Option.bind_none]at hp;cases hp
theorem runP_sound (hok:EnvOk e) (hl:∀n c,e.lp n c=none) (hp:e.pre=tb.O) (ps:List (Nat×Nat)) (ds:List Nat) (h:TbOk e tb) (F:Nat):∀n,SoundRec e.P tb.O (runP e ps ds tb F n).d:=by
 intro n
 induction n with
 |zero=>intro f args H v H' hv hp;exact h.t f args H v H' hv hp
 |succ n ih=>
  intro f args H v H' hv hpr
  simp only[runP,RQ.of]at hv
  cases ht:tb.T f args H with
  |some q=>rw[ht]at hv;exact h.t f args H v H' (by rw[ht];exact hv) hpr
  |none=>
   rw[ht]at hv
   simp only[orRun]at hv
   have hok':EnvOk (envP e ps f):=hok
   have hf':=runP_fn ps ds h F f n
   have hr':SoundRec (envP e ps f).P (envP e ps f).pre (runP e ps ds tb F n).d:=by show SoundRec e.P e.pre _;rw[hp];exact ih
   cases hd:ds.elem f with
   |true=>
    rw[hd]at hv
    simp only[cond_true]at hv
    exact bodyD_sound hok' hf' hr' (fun i=> @draw_sound i _ _ hok' hf' hr') hl F f tb.O args H v H' hv hpr
   |false=>
    rw[hd]at hv
    simp only[cond_false,fnC_body]at hv
    exact runC_step hok' hl F hf' hr' (draw_sound hok' hf' hr') f tb.O args H v H' hv hpr
end
end
end Go.AM
