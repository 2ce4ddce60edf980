/-
  FrameRecovers: what is formed; the accesses of expressions and statements.
-/
import Derived.Test.YtfdedgmlafelaaaGreatDoorM4
import Derived.Test.YtfdedgmlafelaaaGreatDoorM3
set_option linter.unusedSimpArgs false
set_option linter.unusedVariables false
namespace Go.Proofs.YtfdedgmlafelaaaGreatDoor
noncomputable section
open Go Go.AM
inductive Fm:D->Prop
 |mk (d:D) (h2:3≤ah (aa d 0)->ah (aa d 0)≤15->(aa d 4).toList.length=2) (h1:ah (aa d 0)=18->(aa d 4).toList.length=1) (hx:∀x∈(aa d 4).toList,Fm x):Fm d
theorem Fm.two {d:D} (h:Fm d):3≤ah (aa d 0)->ah (aa d 0)≤15->(aa d 4).toList.length=2:=by cases h;assumption
theorem Fm.one {d:D} (h:Fm d):ah (aa d 0)=18->(aa d 4).toList.length=1:=by cases h;assumption
theorem Fm.el {d:D} (h:Fm d):∀x∈(aa d 4).toList,Fm x:=by cases h;assumption
theorem fm_of:∀(N:Nat) (d:D),d.size≤lim->d.size<N->lI N [d]=some [.bool true]->Fm d:=by
 intro N
 induction N with
 |zero=>intro d _ h;omega
 |succ N ih=>
  intro d hd hs hf;obtain⟨hl,hx⟩:=kI (j:=4) hd
  have hel:∀x∈(d.fld 4).toList,∃b,lI N [x]=some [.bool b]:=fun x hm=>by
   obtain⟨b,_,h⟩:=lq N x (hx x hm) (by have:=iT hm;omega)
   exact⟨b,h⟩
  let p:D->Bool:=fun x=>match lI N [x]with|some [.bool b]=> !b|_=>false
  have hloop:=eZ (st:=nP (lI N) [d]) (l:=d.fld 4) (c:=fun x=>(lI N [x]).map fun r=>[.bool (ca (aJ (r.getD 0 .other)))]) (p:=p) (r1:=fun _=>[.int 1]) (r0:=[.int 0])
   (fun i=>by
    rw[uV,aZ];cases hq:lI N [ay (d.fld 4) i]with
    |none=>simp[L1]
    |some r=>simp[am,ax,aO]) hl (fun x hm=>by
    obtain⟨b,h2⟩:=hel x hm
    simp[h2,p,aO,bt])
  rw[I6,uX,pb]at hf;have hlen:ai (aa d 4)=((aa d 4).toList.length:Int):=aD _;rcases hloop with⟨h3,h4⟩|⟨i,h3,h4⟩
  ·simp only[h3,am,ax,List.getD_cons_zero,aC,hlen,au,be,aV,aU,decide_true,cond_true]at hf;refine .mk d (fun a b=> ?_) (fun a=> ?_) fun x hm=> ?_
   ·generalize ah (aa d 0)=o at *;simp only[show¬o=1 by omega,show¬o=2 by omega,show¬o=16 by omega,show¬o=17 by omega,show¬o=18 by omega,show¬o=19 by omega,a,b,decide_true,decide_false,cond_true,cond_false]at hf
    revert hf;cases decide (ah (aa d 1)=0)<;>cases decide (ah (aa d 2)=0)<;>cases decide (ah (aa d 3)=0)<;>simp
    intro h;omega
   ·rw[a]at hf;simp only[show¬(18:Int)=1 by omega,show¬(18:Int)=2 by omega,show¬(18:Int)=16 by omega,show¬(18:Int)=17 by omega,decide_true,decide_false,cond_true,cond_false,Option.some.injEq,List.cons.injEq,D.bool.injEq,and_true]at hf
    by_cases hz:((aa d 4).toList.length:Int)=1
    ·omega
    ·rw[decide_eq_false hz]at hf;simp at hf
   ·rw[aZ]at hm;obtain⟨b,hb⟩:=hel x hm;have:=List.any_eq_false.1 h4 x hm;simp only[p,hb]at this;cases b with
    |false=>simp at this
    |true=>exact ih x (hx x hm) (by have:=iT hm;omega) hb
  ·simp[h3,am,ax,aC,au]at hf
theorem fm_expr {d:D} (hd:d.size≤lim) (h:dH d=0):Fm d:=by
 obtain⟨h1,h2⟩:=Tl d 64;obtain⟨a,b⟩:=pu (bE [d, .int 64]) d 64 hd h1 (by omega) (by omega)
 obtain⟨c,f1,f2⟩:=lq (bE [d]) d hd h2;have e2:=(lw hd).2;rw[h,Bj,rq,rt]at e2;simp only[a,b,f1,f2,am,ax,List.getD_cons_zero,aO,bt,cond_true]at e2;cases c with
 |false=>cases hh:kJ (bE [d, .int 64]) d 64<;>simp[hh]at e2
 |true=>exact fm_of _ d hd h2 f2
structure Sok (s:D):Prop where
 st:TA s
 two:ah (aa s 0)=2->(aa s 6).toList.length=2
 len:(aa s 6).toList.length≤maxLen
 el:∀x∈(aa s 6).toList,x.size≤lim∧Fm x
theorem sok {s:D} (hs:s.size≤lim) (h:kK s=0):Sok s:=by
 obtain⟨hl,hx⟩:=rJ s hs;have e2:=(rK hs).2;have hh:=lu (st:=pc [s]) (l:=s.fld 6) (c:=fun x=>N8 [x]) (e:=dH) (fun i=>by rw[pd,aZ]) hl (fun x hm=>by rw[rz];exact(lw (hx x hm)).2)
 have hq:∃k,q110 [.int (ah (aa s 0))]=some [.int k]∧(ah (aa s 0)=2->k=2):=by
  rw[ro,Bb];simp only[au,aU];by_cases h2:ah (aa s 0)=2
  ·exact⟨2,by simp[h2],fun _=>rfl⟩
  ·rw[decide_eq_false h2,cond_false];cases (bif decide (ah (aa s 0)=1)then decide (ah (aa s 0)=1)else bif decide (ah (aa s 0)=4)then decide (ah (aa s 0)=4)else bif decide (ah (aa s 0)=7)then decide (ah (aa s 0)=7)else decide (ah (aa s 0)=8))with
   |true=>exact⟨1,rfl,fun h=>absurd h h2⟩
   |false=>exact⟨0,rfl,fun h=>absurd h h2⟩
 obtain⟨k,hk,hk2⟩:=hq;rw[h,I9,nQ]at e2;simp only[hh,hk,au,bo,al,bP,am,ax,List.getD_cons_zero,aC,cond_true]at e2;by_cases c1:ah (aa s 0)<1
 ·simp[c1]at e2
 by_cases c2:10<ah (aa s 0)
 ·simp[c1,c2]at e2
 by_cases c3:ai (aa s 6)=k
 ·simp only[c1,c2,c3,decide_true,decide_false,Bool.not_true,cond_false]at e2;have hz:decide (ah ((cf (bV dH (s.fld 6).toList)).getD 0 .other)=0)=decide (bV dH (s.fld 6).toList=0):=by rw[<- ax, <- au];exact eG
  by_cases hf:bV dH (s.fld 6).toList=0
  ·have he:=e9 hf;refine⟨stok hs h,fun h2=> ?_,by rw[aZ];exact hl,fun x hm=> ?_⟩
   ·have:=hk2 h2;rw[aD]at c3;omega
   ·rw[aZ]at hm;exact⟨hx x hm,fm_expr (hx x hm) (he x hm)⟩
  ·have e1:ah ((cf (bV dH (s.fld 6).toList)).getD 1 .other)=bV dH (s.fld 6).toList:=by rw[<- ax];exact iU hf
   rw[hz,decide_eq_false hf,cond_false,e1]at e2;simp only[Option.some.injEq,List.cons.injEq,D.int.injEq,and_true]at e2;exact absurd e2 hf
 ·simp[c1,c2,c3]at e2
structure Ac where
 ao:Int
 aw:Int
 ab:Bool
def xe (e:D):Bool:=decide (ah (aa e 0)=18)&&isSt (ay (aa e 4) 0)
def pI:Nat->D->Int->List Ac
 |0,_,_=>[]
 |N+1,e,d=>if xe e=true then[⟨w (d+stN (ay (aa e 4) 0)),ah (aa e 3),false⟩]else(aa e 4).toList.flatMap fun x=>pI N x d
def lkN:Nat->D->Bool
 |0,_=>false
 |N+1,e=>spV e||(!xe e&&(aa e 4).toList.any (lkN N))
theorem gq {α β:Type} {f g:α->List β}:∀{l:List α},(∀x∈l,f x=g x)->l.flatMap f=l.flatMap g
 | [],_=>rfl
 |x::l,h=>by simp only[List.flatMap_cons];rw[h x (by simp),gq (fun y hy=>h y (by simp[hy]))]
theorem pJ {α:Type} {f g:α->Bool}:∀{l:List α},(∀x∈l,f x=g x)->l.any f=l.any g
 | [],_=>rfl
 |x::l,h=>by simp only[List.any_cons];rw[h x (by simp),pJ (fun y hy=>h y (by simp[hy]))]
theorem bX {e x:D} (h:x∈(aa e 4).toList):x.size<e.size:=by rw[aZ]at h;exact iT h
theorem HA:∀(N M:Nat) (e:D) (d:Int),e.size<N->e.size<M->pI N e d=pI M e d
 |0,_,_,_,h,_=>by omega
 |_+1,0,_,_,_,h=>by omega
 |N+1,M+1,e,d,h1,h2=>by
  simp only[pI];rw[gq fun x hx=>HA N M x d (by have:=bX hx;omega) (by have:=bX hx;omega)]
theorem MK:∀(N M:Nat) (e:D),e.size<N->e.size<M->lkN N e=lkN M e
 |0,_,_,h,_=>by omega
 |_+1,0,_,_,h=>by omega
 |N+1,M+1,e,h1,h2=>by
  simp only[lkN];rw[pJ fun x hx=>MK N M x (by have:=bX hx;omega) (by have:=bX hx;omega)]
def acc (e:D) (d:Int):List Ac:=pI (e.size+1) e d
def lkk (e:D):Bool:=lkN (e.size+1) e
theorem Du (e:D) (d:Int):acc e d=if xe e=true then[⟨w (d+stN (ay (aa e 4) 0)),ah (aa e 3),false⟩]else(aa e 4).toList.flatMap fun x=>acc x d:=by
 rw[acc,pI];rw[gq fun x hx=>HA e.size (x.size+1) x d (bX hx) (by omega)]
 rfl
theorem VC (e:D):lkk e=(spV e||(!xe e&&(aa e 4).toList.any lkk)):=by
 rw[lkk,lkN];rw[pJ fun x hx=>MK e.size (x.size+1) x (bX hx) (by omega)]
 rfl
def mJ (s:D) (d:Int):List Ac:=
 if ah (aa s 0)=1∧ah (aa s 1)=7 then[]else
 if ah (aa s 0)=2∧isSt (ay (aa s 6) 0)=true then⟨w (d+stN (ay (aa s 6) 0)),ah (aa s 2),true⟩::((aa s 6).toList.drop 1).flatMap fun x=>acc x d else(aa s 6).toList.flatMap fun x=>acc x d
def lkS (s:D):Bool:=
 if ah (aa s 0)=1∧ah (aa s 1)=7 then false else
 if ah (aa s 0)=2∧isSt (ay (aa s 6) 0)=true then((aa s 6).toList.drop 1).any lkk else(aa s 6).toList.any lkk
theorem Ai (n:Int): -2147483648≤w n∧w n<2147483648:=by unfold w;omega
end
end Go.Proofs.YtfdedgmlafelaaaGreatDoor
namespace Go.Proofs.YtfdedgmlafelaaaGreatDoor
open Go Go.AM Go.Proofs.YtfdedgmlafelaaaGreatDoor.Sr
noncomputable section
theorem ML (a b:Int):kvD 115 (.agg [.int a, .int b]) = .agg #[.int .i64 a, .int .i64 b]:=by kernel_rfl
theorem VD (a b c d:Int):co (.agg #[.int .i64 a, .int .i64 b]) (.agg #[.int .i64 c, .int .i64 d])=(decide (a=c)&&decide (b=d)):=by
 simp only[co,hM];rw[Bool.eq_iff_iff];simp
def mE (s:Sl):D:= .agg [.agg [.int s.a, .int s.b],sDl s]
def mW (L:List Sl):D:= .list (L.map mE)
theorem Dv (s:Sl):slD (sDl s)=s:=by
 unfold slD sDl;simp only[aZ,D.fld,List.getD_cons_zero,List.getD_cons_succ,aC,aO]
theorem VE (L:List Sl):nY (mW L)=L:=by
 unfold nY mW;simp only[D.toList,List.map_map];have:((fun x=>slD (x.fld 1))∘mE)=fun s=>s:=by funext s;exact Dv s
 rw[this,List.map_id']
def xf (n:Int):Int:=aQ .add .i64 n 1
def bump (s:Sl) (wr:Bool):Sl:=if wr=true then⟨s.a,s.b,s.c,xf s.d,s.e⟩else⟨s.a,s.b,xf s.c,s.d,s.e⟩
def isA (s:Sl) (a:Ac):Bool:=decide (a.ao=s.a)&&decide (a.aw=s.b)
def i5:List Sl->Ac->List Sl
 | [],a=>[bump ⟨a.ao,a.aw,0,0,false⟩ a.ab]
 |s::L,a=>if isA s a=true then bump s a.ab::L else s::i5 L a
def z69:D:= .agg [.int 0, .int 0, .int 0, .int 0, .bool false]
def oh:List Sl->Ac->Sl
 | [],_=>⟨0,0,0,0,false⟩
 |s::L,a=>if isA s a=true then s else oh L a
theorem VF (a:Ac):∀L:List Sl,((L.map mE).find? fun x=>co (kvD 115 (.agg [.int a.ao, .int a.aw])) (kvD 115 (x.fld 0)))=(L.find? fun s=>isA s a).map mE
 | []=>rfl
 |s::L=>by
  have h:co (kvD 115 (.agg [.int a.ao, .int a.aw])) (kvD 115 ((mE s).fld 0))=isA s a:=by
   show co (kvD 115 (.agg [.int a.ao, .int a.aw])) (kvD 115 (.agg [.int s.a, .int s.b]))=_
   rw[ML,ML,VD];rfl
  rw[List.map_cons,List.find?_cons,List.find?_cons,h,VF a L]
  cases isA s a<;>rfl
theorem HC (a:Ac):∀L:List Sl,oh L a=((L.find? fun s=>isA s a).getD ⟨0,0,0,0,false⟩)
 | []=>rfl
 |s::L=>by
  rw[List.find?_cons]
  unfold oh;cases h:isA s a with
  |true=>simp
  |false=>simpa using HC a L
theorem get115 (a:Ac) (L:List Sl):jQ 115 z69 (mW L) (.agg [.int a.ao, .int a.aw])=sDl (oh L a):=by
 have:jQ=sM:=ak _;rw[this,HC];unfold sM mR mW;simp only[D.toList];rw[VF];cases L.find? fun s=>isA s a<;>rfl
theorem VG (a:Ac) (v:D):∀L:List Sl,sN 115 (.agg [.int a.ao, .int a.aw]) (sDl (bump ⟨a.ao,a.aw,(oh L a).c,(oh L a).d,(oh L a).e⟩ a.ab)) (L.map mE)=(i5 L a).map mE
 | []=>by cases a with|mk o wd b=>cases b<;>rfl
 |s::L=>by
  have h:co (kvD 115 (.agg [.int a.ao, .int a.aw])) (kvD 115 ((mE s).fld 0))=isA s a:=by
   show co (kvD 115 (.agg [.int a.ao, .int a.aw])) (kvD 115 (.agg [.int s.a, .int s.b]))=_
   rw[ML,ML,VD];rfl
  rw[List.map_cons,sN,h];unfold oh i5;cases hA:isA s a with
  |true=>
   have:=hA;simp only[isA,Bool.and_eq_true,decide_eq_true_eq]at this;simp only[if_true,cond_true,List.map_cons,this.1,this.2];cases a.ab<;>rfl
  |false=>
   have ih:=VG a v L;simp only[Bool.false_eq_true,if_false,cond_false,List.map_cons];rw[ih]
def neg (a:Ac):Bool:=decide (a.ao<0)
def mapOf (A:List Ac):List Sl:=(A.filter neg).foldl i5 []
def mx (l:List Int):Int:=l.foldl max 0
def Kz (A:List Ac):List Int:=(A.filter neg).map fun a=> -a.ao
def lowOf (Ds:List Int) (A:List Ac):Int:=max (mx Ds) (mx (Kz A))
theorem Dw (l:List Int) (x:Int):mx (l ++ [x])=max (mx l) x:=by unfold mx;rw[List.foldl_append];rfl
theorem KA (A:List Ac) (a:Ac):mapOf (A ++ [a])=if a.ao<0 then i5 (mapOf A) a else mapOf A:=by
 unfold mapOf;rw[List.filter_append,List.foldl_append];by_cases h:a.ao<0<;>simp[neg,h]
theorem KB (Ds:List Int) (A:List Ac) (a:Ac):lowOf Ds (A ++ [a])=if a.ao<0 then max (lowOf Ds A) (-a.ao)else lowOf Ds A:=by
 unfold lowOf Kz;rw[List.filter_append,List.map_append];by_cases h:a.ao<0
 ·simp only[neg,h,decide_true,List.filter_cons_of_pos,List.filter_nil,List.map_cons,List.map_nil,if_true];rw[Dw];omega
 ·simp[neg,h]
theorem lowOf_d (Ds:List Int) (A:List Ac) (d:Int):lowOf (Ds ++ [d]) A=max (lowOf Ds A) d:=by
 unfold lowOf;rw[Dw];omega
theorem MM (a b:Int):qmm .gtr a b=max a b:=by
 rw[AC]
 show(if a<b then b else a)=max a b
 split<;>omega
theorem MN {n:Int} (h1: -2147483648≤n) (h2:n<2147483648):qun .neg .i64 n = -n:=by rw[Tx];omega
def pSt (A:List Ac) (Ds:List Int) (lk:Bool):List D:=[mW (mapOf A), .bool lk, .int (lowOf Ds A)]
theorem acc_p (A:List Ac) (Ds:List Int) (lk:Bool) (a:Ac) (h1: -2147483648≤a.ao) (h2:a.ao<2147483648):
 q63 [.bool lk, .int a.ao, .int a.aw, .bool a.ab,mW (mapOf A), .int (lowOf Ds A)]=some [mW (mapOf (A ++ [a])), .int (lowOf Ds (A ++ [a]))]:=by
 have hp:∀v,lK 115 (mW (mapOf A)) (.agg [.int a.ao, .int a.aw]) v = .list (sN 115 (.agg [.int a.ao, .int a.aw]) v ((mapOf A).map mE)):=fun v=>by
  have:lK=fun kT m k v=> .list (sN kT k v m.toList):=ak _
  rw[this];rfl
 have hg:=get115 a (mapOf A);unfold z69 at hg;rw[TT,F63_eq,hg,KA,KB,be,MN h1 h2,MM];simp only[hp];have f2:ah (aa (sDl (oh (mapOf A) a)) 2)=(oh (mapOf A) a).c:=by rw[aZ];exact aC _
 have f3:ah (aa (sDl (oh (mapOf A) a)) 3)=(oh (mapOf A) a).d:=by rw[aZ];exact aC _
 have f4:aJ (aa (sDl (oh (mapOf A) a)) 4)=(oh (mapOf A) a).e:=by rw[aZ];exact aO _
 simp only[f2,f3,f4];have h:=VG a .other (mapOf A);by_cases h0:a.ao<0
 ·rw[decide_eq_false (by omega),if_pos h0,if_pos h0]
  unfold mW;rw[<- h];unfold bump sDl xf;cases a.ab<;>rfl
 ·rw[decide_eq_true (by omega),if_neg h0,if_neg h0];rfl
theorem KD {st:List D->Option (Sum (List D) (List D))} {X:D} {d:Int} {Q:uAC} (hl:X.toList.length≤maxLen)
 (hQ:∀x∈X.toList,∀A Ds lk,Q [x, .int d,mW (mapOf A), .bool lk, .int (lowOf Ds A)]=some (pSt (A++acc x d) Ds (lk||lkk x)))
 (hst:∀(i:Int) m lk low,st [.int i,m, .bool lk, .int low]=bif ae .lss i (ai X)then bif aI X i then bif uZZ (Q [ay X i, .int d,m, .bool lk, .int low])then
 some (.inl [.int (aQ .add .i64 i 1),ar (Q [ay X i, .int d,m, .bool lk, .int low]) 0, .bool (aJ (ar (Q [ay X i, .int d,m, .bool lk, .int low]) 1)), .int (ah (ar (Q [ay X i, .int d,m, .bool lk, .int low]) 2))])else none else none else some (.inr [.int 0,m, .bool lk, .int low])):
 ∀(k i:Nat) A Ds lk,i+k=X.toList.length->loW st [.int i,mW (mapOf A), .bool lk, .int (lowOf Ds A)]=some (.int 0::pSt (A++(X.toList.drop i).flatMap fun x=>acc x d) Ds (lk||(X.toList.drop i).any lkk))
 |0,i,A,Ds,lk,hi=>by
  rw[aH,hst,al,aD,decide_eq_false (by omega),List.drop_of_length_le (by omega)]
  simp[pSt]
 |k+1,i,A,Ds,lk,hi=>by
  unfold maxLen at hl;have hlt:i<X.toList.length:=by omega
  have hg:ay X (i:Int)=X.toList[i]:=by rw[bf,getD_lt hlt]
  have ih:=KD (by unfold maxLen;omega) hQ hst k (i+1) (A++acc X.toList[i] d) Ds (lk||lkk X.toList[i]) (by omega)
  rw[aH,hst,al,aD,decide_eq_true (by omega),aP hlt,hg,hQ _ (List.getElem_mem hlt),List.drop_eq_getElem_cons hlt]
  simp only[pSt,am,ax,List.getD_cons_zero,List.getD_cons_succ,aO,aC,cond_true,aT (show i<9223372036854775807 by omega),List.flatMap_cons,List.any_cons]
  rw[ih];simp[pSt,List.append_assoc,Bool.or_assoc]
theorem VH (d n:Int):w (aQ .add .i64 d n)=w (d+n):=by rw[Tv];unfold w;omega
theorem ex_p:∀(N:Nat) (e:D) (d:Int),Fm e->e.size≤lim->e.size<N->∀A Ds lk,F65 N [e, .int d,mW (mapOf A), .bool lk, .int (lowOf Ds A)]=some (pSt (A++acc e d) Ds (lk||lkk e))
 |0,_,_,_,_,h=>by omega
 |N+1,e,d,hf,hs,hN=>fun A Ds lk=>by
  obtain⟨hl,hx⟩:=cb (j:=4) hs
  have hQ:∀x∈(aa e 4).toList,∀A Ds lk,F65 N [x, .int d,mW (mapOf A), .bool lk, .int (lowOf Ds A)]=some (pSt (A++acc x d) Ds (lk||lkk x)):=
   fun x hm=>ex_p N x d (hf.el x hm) (hx x hm) (by have:=bX hm;omega)
  have hL:∀lk,Gj (F65 N) [.int d,aa e 4, .int (ai (aa e 4))] [.int 0,mW (mapOf A), .bool lk, .int (lowOf Ds A)]=some (.int 0::pSt (A++(aa e 4).toList.flatMap fun x=>acc x d) Ds (lk||(aa e 4).toList.any lkk)):=fun lk=>by
   rw[Gk];exact KD (st:=B3 (F65 N) [.int d,aa e 4, .int (ai (aa e 4))]) hl hQ (fun i m lk low=>by rw[ON]) (aa e 4).toList.length 0 A Ds lk (by omega)
  rw[F65_s,Fb65_eq,sp_p,Du,VC];simp only[hL,am,ax,List.getD_cons_zero,List.getD_cons_succ,aO,aC,cond_true,au,pSt];by_cases h18:ah (aa e 0)=18
  ·have hsp:spV e=false:=by unfold spV;rw[h18];rfl
   have h1:=hf.one h18;have hm:ay (aa e 4) 0∈(aa e 4).toList:=get_mem (i:=0) (by omega)
   have i0:aI (aa e 4) 0=true:=aP (i:=0) (by omega)
   have hst:=Tz (hf.el _ hm).two;rw[hsp,decide_eq_true h18,i0,hst];simp only[am,ax,List.getD_cons_zero,List.getD_cons_succ,aO,aC,cond_true,cond_false,Bool.false_or,pw,VH];have hld:xe e=isSt (ay (aa e 4) 0):=by unfold xe;rw[h18];rfl
   rw[hld];cases hS:isSt (ay (aa e 4) 0)with
   |true=>
    have hr:=Ai (d+stN (ay (aa e 4) 0));have hp:=acc_p A Ds lk ⟨w (d+stN (ay (aa e 4) 0)),ah (aa e 3),false⟩ hr.1 hr.2;simp only at hp;simp only[hp,am,ax,List.getD_cons_zero,List.getD_cons_succ,aC,cond_true,if_true,Bool.not_true,Bool.false_and,Bool.or_false]
   |false=>simp
  ·have hld:xe e=false:=by unfold xe;rw[decide_eq_false h18];rfl
   rw[decide_eq_false h18,hld];cases spV e<;>simp
theorem ex_q {e:D} (d:Int) (hf:Fm e) (hs:e.size≤lim) (A:List Ac) (Ds:List Int) (lk:Bool):q65 [e, .int d,mW (mapOf A), .bool lk, .int (lowOf Ds A)]=some (pSt (A++acc e d) Ds (lk||lkk e)):=by
 rw[TX];exact ex_p _ e d hf hs (e8 (by simp)) A Ds lk
theorem sub_one {X:D} {n:Nat} (h:X.toList.length=n):cj X 1 (n:Int) = .list (X.toList.drop 1):=by
 rw[ji];simp only[D.sub,Int.toNat_natCast,Int.toNat_one];rw[List.take_of_length_le (by rw[List.length_drop];omega)]
theorem stm_p {s:D} (hs:Sok s) {d:Int} (hd: -2147483648≤d∧d<2147483648) (A:List Ac) (Ds:List Int) (lk:Bool):
 q29 [s, .int d,mW (mapOf A), .bool lk, .int (lowOf Ds A)]=some (pSt (A++mJ s d) (Ds ++ [-d]) (lk||lkS s)):=by
 have hL:∀X:D,X.toList.length≤maxLen->(∀x∈X.toList,x.size≤lim∧Fm x)->∀A Ds lk,vX [.int d,X, .int (ai X)] [.int 0,mW (mapOf A), .bool lk, .int (lowOf Ds A)]=some (.int 0::pSt (A++X.toList.flatMap fun x=>acc x d) Ds (lk||X.toList.any lkk)):=fun X hl hx A Ds lk=>by
  rw[zo];exact KD (st:=rN [.int d,X, .int (ai X)]) hl (fun x hm A Ds lk=>ex_q d (hx x hm).2 (hx x hm).1 A Ds lk) (fun i m lk low=>by rw[JI]) X.toList.length 0 A Ds lk (by omega)
 rw[TY,F29_eq,MN hd.1 hd.2,MM, <- lowOf_d];have hLE:=hL (aa s 6) hs.len hs.el A (Ds ++ [-d]) lk;simp only[hLE,aU,au,am,ax,List.getD_cons_zero,List.getD_cons_succ,aO,aC,cond_true,pSt];unfold mJ lkS;by_cases h1:ah (aa s 0)=1∧ah (aa s 1)=7
 ·simp[h1.1,h1.2]
 have h1':(bif decide (ah (aa s 0)=1)then decide (ah (aa s 1)=7)else false)=false:=by
  cases h:decide (ah (aa s 0)=1)<;>simp_all
 rw[h1',if_neg h1,if_neg h1];simp only[cond_false];by_cases h2:ah (aa s 0)=2
 ·have hn:=hs.two h2;have hm:ay (aa s 6) 0∈(aa s 6).toList:=get_mem (i:=0) (by omega)
  have i0:aI (aa s 6) 0=true:=aP (i:=0) (by omega)
  have hst:=Tz (hs.el _ hm).2.two;have hq2:ai (aa s 6)=((2:Nat):Int):=by rw[aD,hn]
  rw[decide_eq_true h2,i0,hst];simp only[am,ax,List.getD_cons_zero,List.getD_cons_succ,aO,aC,cond_true,pw,VH,h2,true_and];cases hS:isSt (ay (aa s 6) 0)with
  |false=>simp
  |true=>
   have hr:=Ai (d+stN (ay (aa s 6) 0));have hp:=acc_p A (Ds ++ [-d]) lk ⟨w (d+stN (ay (aa s 6) 0)),ah (aa s 2),true⟩ hr.1 hr.2;simp only at hp;have hsub:cj (aa s 6) 1 (ai (aa s 6)) = .list ((aa s 6).toList.drop 1):=by rw[hq2];exact sub_one hn
   have hL1:=hL (.list ((aa s 6).toList.drop 1)) (by show((aa s 6).toList.drop 1).length≤maxLen;rw[List.length_drop];have:=hs.len;omega) (fun x hx=>hs.el x (List.mem_of_mem_drop hx)) (A ++ [⟨w (d+stN (ay (aa s 6) 0)),ah (aa s 2),true⟩]) (Ds ++ [-d]) lk
   have c1:ae .leq 0 1=true:=by rw[aV];rfl
   have c2:ae .leq 1 (ai (aa s 6))=true:=by rw[aV,hq2];rfl
   have c3:ae .leq (ai (aa s 6)) (ai (aa s 6))=true:=by rw[aV];simp
   simp only[hp,hsub,c1,c2,c3,am,ax,List.getD_cons_zero,List.getD_cons_succ,aO,aC,cond_true,if_true,hL1,pSt];simp[D.toList,List.append_assoc]
 ·simp[h2]
def acD (a:Ac):D:= .agg [.int a.ao, .int a.aw, .bool a.ab]
def aL (A:List Ac):D:= .list (A.map acD)
theorem MO (A:List Ac):ai (aL A)=(A.length:Int):=by rw[aD];simp[aL,D.toList]
theorem app_A (A:List Ac) (a:Ac):bN (aL A) (.list [acD a])=aL (A ++ [a]):=by rw[dj];unfold aL;simp[D.app,D.toList]
theorem HD {n z:Nat} (hn:n≤1000000) (hz:z≤1000):bF (n:Int) z=true:=by
 rw[gK];unfold qI;have:n*z≤1000000*1000:=Nat.mul_le_mul hn hz;simp only[Bool.and_eq_true,decide_eq_true_eq,Int.toNat_natCast];omega
theorem sj {st:List D->Option (Sum (List D) (List D))} {X:D} {d:Int} {Q:uAC} (hl:X.toList.length≤maxLen)
 (hQ:∀x∈X.toList,∀A lk,A.length+(acc x d).length≤1000000->Q [x, .int d,aL A, .bool lk]=some [aL (A++acc x d), .bool (lk||lkk x)])
 (i0:Nat) (hst:∀(i:Nat) A lk,i0≤i->st [.int i,aL A, .bool lk]=bif ae .lss i (ai X)then bif aI X i then bif uZZ (Q [ay X i, .int d,aL A, .bool lk])then
 some (.inl [.int (aQ .add .i64 i 1),ar (Q [ay X i, .int d,aL A, .bool lk]) 0, .bool (aJ (ar (Q [ay X i, .int d,aL A, .bool lk]) 1))])else none else none else some (.inr [.int 0,aL A, .bool lk])):
 ∀(k i:Nat) A lk,i0≤i->i+k=X.toList.length->A.length+((X.toList.drop i).flatMap fun x=>acc x d).length≤1000000->loW st [.int i,aL A, .bool lk]=some [.int 0,aL (A++(X.toList.drop i).flatMap fun x=>acc x d), .bool (lk||(X.toList.drop i).any lkk)]
 |0,i,A,lk,h0,hi,_=>by
  rw[aH,hst i A lk h0,al,aD,decide_eq_false (by omega),List.drop_of_length_le (by omega)]
  simp
 |k+1,i,A,lk,h0,hi,hb=>by
  unfold maxLen at hl;have hlt:i<X.toList.length:=by omega
  have hg:ay X (i:Int)=X.toList[i]:=by rw[bf,getD_lt hlt]
  rw[List.drop_eq_getElem_cons hlt,List.flatMap_cons,List.length_append]at hb;have ih:=sj (by unfold maxLen;omega) hQ i0 hst k (i+1) (A++acc X.toList[i] d) (lk||lkk X.toList[i]) (by omega) (by omega) (by rw[List.length_append];omega)
  rw[aH,hst i A lk h0,al,aD,decide_eq_true (by omega),aP hlt,hg,hQ _ (List.getElem_mem hlt) A lk (by omega),List.drop_eq_getElem_cons hlt]
  simp only[am,ax,List.getD_cons_zero,List.getD_cons_succ,aO,aC,cond_true,aT (show i<9223372036854775807 by omega),List.flatMap_cons,List.any_cons]
  rw[ih];simp[List.append_assoc,Bool.or_assoc]
theorem ex_r:∀(N:Nat) (e:D) (d:Int),Fm e->e.size≤lim->e.size<N->∀A lk,A.length+(acc e d).length≤1000000->F76 N [e, .int d,aL A, .bool lk]=some [aL (A++acc e d), .bool (lk||lkk e)]
 |0,_,_,_,_,h=>by omega
 |N+1,e,d,hf,hs,hN=>fun A lk hb=>by
  obtain⟨hl,hx⟩:=cb (j:=4) hs
  have hQ:∀x∈(aa e 4).toList,∀A lk,A.length+(acc x d).length≤1000000->F76 N [x, .int d,aL A, .bool lk]=some [aL (A++acc x d), .bool (lk||lkk x)]:=
   fun x hm=>ex_r N x d (hf.el x hm) (hx x hm) (by have:=bX hm;omega)
  have hL:xe e=false->∀lk,Gx (F76 N) [.int d,e] [.int 0,aL A, .bool lk]=some [.int 0,aL (A++(aa e 4).toList.flatMap fun x=>acc x d), .bool (lk||(aa e 4).toList.any lkk)]:=fun hld lk=>by
   rw[Gy];refine sj (st:=Ck (F76 N) [.int d,e]) hl hQ 0 (fun i A lk _=>by rw[OW]) (aa e 4).toList.length 0 A lk (by omega) (by omega) ?_
   rw[Du,hld]at hb;simpa using hb
  rw[F76_s,Fb76_eq,sp_r,Du,VC];simp only[am,ax,List.getD_cons_zero,List.getD_cons_succ,aO,aC,cond_true,au,decide_true];by_cases h18:ah (aa e 0)=18
  ·have hsp:spV e=false:=by unfold spV;rw[h18];rfl
   have h1:=hf.one h18;have hm:ay (aa e 4) 0∈(aa e 4).toList:=get_mem (i:=0) (by omega)
   have i0:aI (aa e 4) 0=true:=aP (i:=0) (by omega)
   have hst:=OG (hf.el _ hm).two;rw[hsp,decide_eq_true h18,i0,hst];simp only[am,ax,List.getD_cons_zero,List.getD_cons_succ,aO,aC,cond_true,cond_false,Bool.false_or,Ga];have hld:xe e=isSt (ay (aa e 4) 0):=by unfold xe;rw[h18];rfl
   cases hS:isSt (ay (aa e 4) 0)with
   |true=>
    rw[Du,hld,hS]at hb;have hp:=app_A A ⟨w (d+stN (ay (aa e 4) 0)),ah (aa e 3),false⟩;unfold acD at hp;simp only at hp;have hmem:bF (ai (aL (A ++ [⟨w (d+stN (ay (aa e 4) 0)),ah (aa e 3),false⟩]))) 24=true:=by rw[MO];exact HD (by simpa using hb) (by omega)
    rw[hld,hS];simp only[hp,hmem,cond_true,if_true,Bool.not_true,Bool.false_and,Bool.or_false]
   |false=>
    rw[hS]at hld;simp[hL hld,hld,am,ax,aO]
  ·have hld:xe e=false:=by unfold xe;rw[decide_eq_false h18];rfl
   rw[decide_eq_false h18,hld];cases spV e<;>simp[hL hld,am,ax,aO]
theorem ex_rq {e:D} (d:Int) (hf:Fm e) (hs:e.size≤lim) (A:List Ac) (lk:Bool) (hb:A.length+(acc e d).length≤1000000):q76 [e, .int d,aL A, .bool lk]=some [aL (A++acc e d), .bool (lk||lkk e)]:=by
 rw[Uk];exact ex_r _ e d hf hs (e8 (by simp)) A lk hb
theorem stm_r {s:D} (hs:Sok s) (d:Int) (A:List Ac) (lk:Bool) (hb:A.length+(mJ s d).length≤1000000):
 q37 [s, .int d,aL A, .bool lk]=some [aL (A++mJ s d), .bool (lk||lkS s)]:=by
 rw[Um,F37_eq];simp only[aU,au,decide_true,cond_true];have hE:=hs.el;have hle:=hs.len;unfold mJ lkS;unfold mJ at hb;by_cases h1:ah (aa s 0)=1∧ah (aa s 1)=7
 ·simp[h1.1,h1.2]
 have h1':(bif decide (ah (aa s 0)=1)then decide (ah (aa s 1)=7)else false)=false:=by
  cases h:decide (ah (aa s 0)=1)<;>simp_all
 rw[if_neg h1]at hb;rw[h1',if_neg h1,if_neg h1];simp only[cond_false]
 have step:∀(i:Nat) A lk,(ah (aa s 0)=2->isSt (ay (aa s 6) 0)=true->1≤i)->jK [.int d,s] [.int i,aL A, .bool lk]=bif ae .lss i (ai (aa s 6))then bif aI (aa s 6) i then bif uZZ (q76 [ay (aa s 6) i, .int d,aL A, .bool lk])then
  some (.inl [.int (aQ .add .i64 i 1),ar (q76 [ay (aa s 6) i, .int d,aL A, .bool lk]) 0, .bool (aJ (ar (q76 [ay (aa s 6) i, .int d,aL A, .bool lk]) 1))])else none else none else some (.inr [.int 0,aL A, .bool lk]):=fun i A lk hi=>by
  rw[zB];simp only[aU,au,decide_true,cond_true];cases hlt:ae .lss (i:Int) (ai (aa s 6))with
  |false=>rfl
  |true=>
   simp only[cond_true];by_cases h2:ah (aa s 0)=2∧(i:Int)=0
   ·have hi0:i=0:=by omega
    subst hi0;have hn:=hs.two h2.1;have hm:ay (aa s 6) 0∈(aa s 6).toList:=get_mem (i:=0) (by omega)
    have i0:aI (aa s 6) 0=true:=aP (i:=0) (by omega)
    have hS:isSt (ay (aa s 6) 0)=false:=by
     cases h:isSt (ay (aa s 6) 0)with
     |false=>rfl
     |true=>have:=hi h2.1 h;omega
    have hst:=OG (hE _ hm).2.two;rw[hS]at hst;simp[h2.1,i0,hst,am,ax,aO]
   ·have:(bif decide (ah (aa s 0)=2)then decide ((i:Int)=0)else false)=false:=by
     cases h:decide (ah (aa s 0)=2)<;>simp_all
    rw[this,cond_false]
 have hQ:∀x∈(aa s 6).toList,∀A lk,A.length+(acc x d).length≤1000000->q76 [x, .int d,aL A, .bool lk]=some [aL (A++acc x d), .bool (lk||lkk x)]:=fun x hm A lk h=>ex_rq d (hE x hm).2 (hE x hm).1 A lk h
 have hl3:∀p s,Mk p s=loW (jK p) s:=fun p s=>by rw[Gz]
 simp only[hl3];by_cases h2:ah (aa s 0)=2∧isSt (ay (aa s 6) 0)=true
 ·have hn:=hs.two h2.1;have hm:ay (aa s 6) 0∈(aa s 6).toList:=get_mem (i:=0) (by omega)
  have i0:aI (aa s 6) 0=true:=aP (i:=0) (by omega)
  have hst:=OG (hE _ hm).2.two;rw[if_pos h2,List.length_cons]at hb;rw[if_pos h2,if_pos h2];have c0:ae .lss 0 (ai (aa s 6))=true:=by rw[al,aD,hn];rfl
  have hp:=app_A A ⟨w (d+stN (ay (aa s 6) 0)),ah (aa s 2),true⟩;unfold acD at hp;simp only at hp;have hmem:bF (ai (aL (A ++ [⟨w (d+stN (ay (aa s 6) 0)),ah (aa s 2),true⟩]))) 24=true:=by rw[MO];exact HD (by simp only[List.length_append,List.length_cons,List.length_nil];omega) (by omega)
  have hfirst:jK [.int d,s] [.int 0,aL A, .bool lk]=some (.inl [.int ((1:Nat):Int),aL (A ++ [⟨w (d+stN (ay (aa s 6) 0)),ah (aa s 2),true⟩]), .bool lk]):=by
   rw[zB,c0,i0,hst];simp only[aU,au,h2.1,h2.2,am,ax,List.getD_cons_zero,List.getD_cons_succ,aO,aC,Ga,hp,hmem,decide_true,cond_true,show aQ .add .i64 0 1=((1:Nat):Int)from aT (i:=0) (by omega)]
  have hr:=sj (st:=jK [.int d,s]) hle hQ 1 (fun i A lk hi=>step i A lk (fun _ _=>hi)) 1 1 (A ++ [⟨w (d+stN (ay (aa s 6) 0)),ah (aa s 2),true⟩]) lk (by omega) (by omega) (by simp only[List.length_append,List.length_cons,List.length_nil];omega)
  rw[aH,hfirst];simp only;rw[hr];simp[am,ax,aO,List.append_assoc]
 ·rw[if_neg h2]at hb;rw[if_neg h2,if_neg h2];have hr:=sj (st:=jK [.int d,s]) hle hQ 0 (fun i A lk _=>step i A lk (fun a b=>absurd ⟨a,b⟩ h2)) (aa s 6).toList.length 0 A lk (by omega) (by omega) (by simpa using hb)
  rw[List.drop_zero]at hr;have hr':loW (jK [.int d,s]) [.int 0,aL A, .bool lk]=_:=hr;rw[hr'];simp[am,ax,aO]
def dS (Q:List Sl):D:= .list (Q.map sDl)
theorem bR (Q:List Sl):ai (dS Q)=(Q.length:Int):=by rw[aD];simp[dS,D.toList]
theorem gr {Q:List Sl} {i:Nat} (h:i<Q.length):aI (dS Q) (i:Int)=true:=aP (by simpa[dS,D.toList]using h)
theorem gt {Q:List Sl} {i:Nat} (h:i<Q.length):ay (dS Q) (i:Int)=sDl Q[i]:=by
 rw[bf];unfold dS;simp only[D.toList,List.getD,List.getElem?_map,List.getElem?_eq_getElem h];rfl
theorem Aj (Q:List Sl) (i:Nat) (s:Sl):cz (dS Q) (i:Int) (sDl s)=dS (Q.set i s):=by
 rw[jj];unfold dS;simp[D.upd,D.toList,List.map_set]
theorem VI (Q R:List Sl):bN (dS Q) (dS R)=dS (Q++R):=by rw[dj];unfold dS;simp[D.app,D.toList]
theorem sub_S (Q:List Sl) (i j:Nat):cj (dS Q) (i:Int) (j:Int)=dS ((Q.drop i).take (j-i)):=by
 rw[ji];unfold dS;simp only[D.sub,D.toList,Int.toNat_natCast];rw[show((j:Int)-(i:Int)).toNat=j-i by omega,List.map_take,List.map_drop]
theorem f0 (s:Sl):ah (aa (sDl s) 0)=s.a:=by rw[aZ];exact aC _
theorem f1 (s:Sl):ah (aa (sDl s) 1)=s.b:=by rw[aZ];exact aC _
theorem f2 (s:Sl):ah (aa (sDl s) 2)=s.c:=by rw[aZ];exact aC _
theorem f3 (s:Sl):ah (aa (sDl s) 3)=s.d:=by rw[aZ];exact aC _
theorem f4 (s:Sl):aJ (aa (sDl s) 4)=s.e:=by rw[aZ];exact aO _
theorem a0 (a:Ac):ah (aa (acD a) 0)=a.ao:=by rw[aZ];exact aC _
theorem a1 (a:Ac):ah (aa (acD a) 1)=a.aw:=by rw[aZ];exact aC _
theorem a2 (a:Ac):aJ (aa (acD a) 2)=a.ab:=by rw[aZ];exact aO _
def ltA (s:Sl) (a:Ac):Bool:=decide (s.a<a.ao)||(decide (s.a=a.ao)&&decide (s.b<a.aw))
def bc:List Sl->Ac->Nat
 | [],_=>0
 |s::L,a=>if ltA s a=true then bc L a+1 else 0
def fr (a:Ac):Sl:=⟨a.ao,a.aw,0,0,false⟩
def jO:List Sl->Ac->List Sl
 | [],a=>[bump (fr a) a.ab]
 |s::L,a=>if ltA s a=true then s::jO L a else if isA s a=true then bump s a.ab::L else bump (fr a) a.ab::s::L
theorem VJ:∀(Q:List Sl) (a:Ac),bc Q a≤Q.length
 | [],_=>Nat.le_refl _
 |s::L,a=>by
  unfold bc;split
  ·have:=VJ L a;simp only[List.length_cons];omega
  ·omega
theorem MP:∀(Q:List Sl) (a:Ac) (h:bc Q a<Q.length),isA Q[bc Q a] a=true->jO Q a=Q.set (bc Q a) (bump Q[bc Q a] a.ab)
 | [],_,h,_=>by simp at h
 |s::L,a,h,hA=>by
  unfold jO;by_cases hl:ltA s a=true
  ·have e:bc (s::L) a=bc L a+1:=by rw[bc,if_pos hl]
   simp only[e,List.getElem_cons_succ,List.length_cons]at h hA ⊢;rw[if_pos hl,MP L a (by omega) hA];rfl
  ·have e:bc (s::L) a=0:=by rw[bc,if_neg hl]
   simp only[e,List.getElem_cons_zero]at hA ⊢;rw[if_neg hl,if_pos hA];rfl
theorem HE:∀(Q:List Sl) (a:Ac),(∀h:bc Q a<Q.length,isA Q[bc Q a] a=false)->jO Q a=Q.take (bc Q a)++bump (fr a) a.ab::Q.drop (bc Q a)
 | [],_,_=>rfl
 |s::L,a,hA=>by
  unfold jO;by_cases hl:ltA s a=true
  ·have e:bc (s::L) a=bc L a+1:=by rw[bc,if_pos hl]
   simp only[e,List.getElem_cons_succ,List.length_cons]at hA ⊢;rw[if_pos hl,HE L a (fun h=>hA (by omega))];rfl
  ·have e:bc (s::L) a=0:=by rw[bc,if_neg hl]
   simp only[e,List.getElem_cons_zero]at hA ⊢;have:=hA (by simp)
   rw[if_neg hl,this];rfl
theorem HF {st:List D->Option (Sum (List D) (List D))} {Q:List Sl} {a:Ac} (hl:Q.length≤1000000)
 (hst:∀i:Nat,st [.int i]=if h:i<Q.length then(if ltA Q[i] a=true then some (.inl [.int ((i+1:Nat):Int)])else some (.inr [.int 0, .int i]))else some (.inr [.int 0, .int i])):
 loW st [.int 0]=some [.int 0, .int (bc Q a:Int)]:=by
 have key:∀(k i:Nat),i+k=Q.length->loW st [.int i]=some [.int 0, .int ((i+bc (Q.drop i) a:Nat):Int)]:=by
  intro k
  induction k with
  |zero=>
   intro i hi;rw[aH,hst,dif_neg (by omega),List.drop_of_length_le (by omega)];rfl
  |succ k ih=>
   intro i hi;have hlt:i<Q.length:=by omega
   rw[aH,hst,dif_pos hlt,List.drop_eq_getElem_cons hlt];unfold bc;by_cases h:ltA Q[i] a=true
   ·rw[if_pos h,if_pos h];simp only;rw[ih (i+1) (by omega)]
    congr 4;omega
   ·rw[if_neg h,if_neg h];rfl
 have:=key Q.length 0 (by omega)
 simpa using this
theorem cnt_o {Q:List Sl} {a:Ac} (hl:Q.length≤1000000):rS [acD a,dS Q] [.int 0]=some [.int 0, .int (bc Q a:Int)]:=by
 rw[wj];refine HF (st:=nZ [acD a,dS Q]) hl fun i=> ?_
 rw[GA,bR,al];by_cases h:i<Q.length
 ·rw[dif_pos h,decide_eq_true (by omega),gr h,gt h,f0,f1,a0,a1,show ae .leq 0 (i:Int)=true by rw[aV];simp]
  simp only[al,au,cond_true,aT (show i<9223372036854775807 by omega),ltA]
  by_cases h1:Q[i].a<a.ao
  ·simp[h1]
  ·by_cases h2:Q[i].a=a.ao
   ·by_cases h3:Q[i].b<a.aw<;>simp[h2,h3]
   ·simp[h1,h2]
 ·rw[dif_neg h,decide_eq_false (by omega)]
  simp[aj]
theorem cnt_r {Q:List Sl} {a:Ac} (hl:Q.length≤1000000):rT [dS Q,acD a] [.int 0]=some [.int 0, .int (bc Q a:Int)]:=by
 rw[wl];refine HF (st:=n7 [dS Q,acD a]) hl fun i=> ?_
 rw[GC,bR,al];by_cases h:i<Q.length
 ·rw[dif_pos h,decide_eq_true (by omega),gr h,gt h,f0,f1,a0,a1]
  simp only[al,au,cond_true,aT (show i<9223372036854775807 by omega),ltA]
  by_cases h1:Q[i].a<a.ao
  ·simp[h1]
  ·by_cases h2:Q[i].a=a.ao
   ·by_cases h3:Q[i].b<a.aw<;>simp[h2,h3]
   ·simp[h1,h2]
 ·rw[dif_neg h,decide_eq_false (by omega)]
  simp
theorem count_r {Q:List Sl} {a:Ac} (hl:Q.length<1000000):q39 [acD a,dS Q]=some [dS (jO Q a)]:=by
 rw[Ur];unfold F39;have hk:=VJ Q a;have ho:=cnt_o (a:=a) (Nat.le_of_lt hl);have hr:=cnt_r (a:=a) (Nat.le_of_lt hl);have k0:ae .leq 0 (bc Q a:Int)=true:=by rw[aV];simp
 by_cases hhit:∃h:bc Q a<Q.length,isA Q[bc Q a] a=true
 ·obtain⟨h,hA⟩:=hhit;have hA':=hA;simp only[isA,Bool.and_eq_true,decide_eq_true_eq]at hA';have e1:ae .eql (bc Q a:Int) (ai (dS Q))=false:=by rw[au,bR,decide_eq_false_iff_not];omega
  have e2:ae .lss (bc Q a:Int) (ai (dS Q))=true:=by rw[al,bR,decide_eq_true_eq];omega
  have:wk [acD a,dS Q]=some [dS (jO Q a)]:=by
   rw[GB,ho];simp only[am,ax,List.getD_cons_zero,List.getD_cons_succ,aC,aj,e1,e2,k0,gr h,gt h,f0,f1,f2,f3,f4,a0,a1,a2,bo,hA'.1,hA'.2,decide_true,Bool.not_true,cond_true,cond_false];have s1:=Aj Q (bc Q a) ⟨Q[bc Q a].a,Q[bc Q a].b,Q[bc Q a].c,xf Q[bc Q a].d,Q[bc Q a].e⟩;have s2:=Aj Q (bc Q a) ⟨Q[bc Q a].a,Q[bc Q a].b,xf Q[bc Q a].c,Q[bc Q a].d,Q[bc Q a].e⟩;unfold sDl xf at s1 s2;simp only at s1 s2;rw[s1,s2,MP Q a h hA];have l1:∀s,ae .eql (ai (dS Q)) (ai (dS (Q.set (bc Q a) s)))=true:=fun s=>by rw[bR,bR,List.length_set];exact aj _
   simp only[l1,cond_true];unfold bump xf;cases a.ab<;>rfl
  rw[this]
 ·have hmiss:∀h:bc Q a<Q.length,isA Q[bc Q a] a=false:=fun h=>by
   cases hA:isA Q[bc Q a] a with
   |false=>rfl
   |true=>exact absurd ⟨h,hA⟩ hhit
  have e2:ae .leq (bc Q a:Int) (ai (dS Q))=true:=by rw[aV,bR,decide_eq_true_eq];omega
  have hno:wk [acD a,dS Q]=none:=by
   rw[GB,ho];simp only[am,ax,List.getD_cons_zero,List.getD_cons_succ,aC,aj,k0,cond_true];by_cases h:bc Q a<Q.length
   ·have e1:ae .eql (bc Q a:Int) (ai (dS Q))=false:=by rw[au,bR,decide_eq_false_iff_not];omega
    have e3:ae .lss (bc Q a:Int) (ai (dS Q))=true:=by rw[al,bR,decide_eq_true_eq];omega
    have hA:=hmiss h;simp only[e1,e2,e3,gr h,gt h,f0,f1,a0,a1,bo,cond_true,cond_false];by_cases h1:Q[bc Q a].a=a.ao
    ·by_cases h2:Q[bc Q a].b=a.aw
     ·simp[isA,h1,h2]at hA
     ·simp[h1,h2]
    ·simp[h1]
   ·have e1:ae .eql (bc Q a:Int) (ai (dS Q))=true:=by rw[au,bR,decide_eq_true_eq];omega
    simp[e1,e2]
  rw[hno]
  show Up [dS Q,acD a]=_
  have sa:cj (dS Q) 0 (bc Q a:Int)=dS (Q.take (bc Q a)):=by have:=sub_S Q 0 (bc Q a);simpa using this
  have sb:cj (dS Q) (bc Q a:Int) (ai (dS Q))=dS (Q.drop (bc Q a)):=by
   rw[bR,sub_S,List.take_of_length_le (by rw[List.length_drop];omega)]
  have ap1:=VI (Q.take (bc Q a)) [fr a];have hfr:dS [fr a] = .list [.agg [.int a.ao, .int a.aw, .int 0, .int 0, .bool false]]:=rfl;rw[hfr]at ap1;have lt:(Q.take (bc Q a)).length=bc Q a:=by rw[List.length_take];omega
  have ld:(Q.drop (bc Q a)).length=Q.length-bc Q a:=List.length_drop;have m1:bF (ai (dS (Q.take (bc Q a)))) 40=true:=by rw[bR];exact HD (by omega) (by omega)
  have m2:bF (ai (dS (Q.take (bc Q a) ++ [fr a]))) 40=true:=by rw[bR];exact HD (by simp only[List.length_append,List.length_cons,List.length_nil];omega) (by omega)
  have m3:bF (ai (dS (Q.take (bc Q a) ++ [fr a]++Q.drop (bc Q a)))) 40=true:=by rw[bR];exact HD (by simp only[List.length_append,List.length_cons,List.length_nil];omega) (by omega)
  have lk:bc Q a<(Q.take (bc Q a) ++ [fr a]++Q.drop (bc Q a)).length:=by simp only[List.length_append,List.length_cons,List.length_nil];omega
  have c1:ae .lss (bc Q a:Int) (ai (dS (Q.take (bc Q a) ++ [fr a]++Q.drop (bc Q a))))=true:=by rw[al,bR,decide_eq_true_eq];omega
  have gk:ay (dS (Q.take (bc Q a) ++ [fr a]++Q.drop (bc Q a))) (bc Q a:Int)=sDl (fr a):=by
   have ge:(Q.take (bc Q a) ++ [fr a]++Q.drop (bc Q a))[bc Q a]'lk=fr a:=by
    rw[List.getElem_append_left (by simp only[List.length_append,List.length_cons,List.length_nil];omega),List.getElem_append_right (by omega)]
    simp[lt]
   rw[gt lk,ge]
  have key:∀s,(Q.take (bc Q a) ++ [fr a]++Q.drop (bc Q a)).set (bc Q a) s=Q.take (bc Q a)++s::Q.drop (bc Q a):=fun s=>by
   rw[List.append_assoc,List.set_append_right _ _ (by omega)]
   simp[lt]
  have s1:=Aj (Q.take (bc Q a) ++ [fr a]++Q.drop (bc Q a)) (bc Q a) ⟨(fr a).a,(fr a).b,(fr a).c,xf (fr a).d,(fr a).e⟩;have s2:=Aj (Q.take (bc Q a) ++ [fr a]++Q.drop (bc Q a)) (bc Q a) ⟨(fr a).a,(fr a).b,xf (fr a).c,(fr a).d,(fr a).e⟩;have l1:∀s,ae .eql (ai (dS (Q.take (bc Q a) ++ [fr a]++Q.drop (bc Q a)))) (ai (dS ((Q.take (bc Q a) ++ [fr a]++Q.drop (bc Q a)).set (bc Q a) s)))=true:=fun s=>by rw[bR,bR,List.length_set];exact aj _
  have l1':∀s,ae .eql (ai (dS (Q.take (bc Q a) ++ [fr a]++Q.drop (bc Q a)))) (ai (dS (Q.take (bc Q a)++s::Q.drop (bc Q a))))=true:=fun s=>by rw[<- key];exact l1 s
  rw[key]at s1 s2;unfold sDl xf at s1 s2;simp only at s1 s2;have k1:ae .leq 0 0=true:=by rw[aV];rfl
  have k2:ae .leq (ai (dS Q)) (ai (dS Q))=true:=by rw[aV];simp
  rw[Uq,hr,HE Q a hmiss];simp only[am,ax,List.getD_cons_zero,List.getD_cons_succ,aC,aj,a0,a1,a2,sa,sb,ap1,VI,m1,m2,m3,e2,c1,k0,k1,k2,gr lk,gk,f0,f1,f2,f3,f4,s1,s2,l1',cond_true];have hfin:(bif a.ab then some [dS (Q.take (bc Q a)++⟨(fr a).a,(fr a).b,(fr a).c,aQ .add .i64 (fr a).d 1,(fr a).e⟩::Q.drop (bc Q a))]else some [dS (Q.take (bc Q a)++⟨(fr a).a,(fr a).b,aQ .add .i64 (fr a).c 1,(fr a).d,(fr a).e⟩::Q.drop (bc Q a))])=some [dS (Q.take (bc Q a)++bump (fr a) a.ab::Q.drop (bc Q a))]:=by
   unfold bump xf;cases a.ab<;>rfl
  rw[<- hfin];by_cases h:bc Q a<Q.length
  ·have e1:ae .eql (bc Q a:Int) (ai (dS Q))=false:=by rw[au,bR,decide_eq_false_iff_not];omega
   have hA:=hmiss h;simp only[e1,gr h,gt h,f0,f1,bo,cond_true,cond_false];by_cases h1:Q[bc Q a].a=a.ao
   ·by_cases h2:Q[bc Q a].b=a.aw
    ·simp[isA,h1,h2]at hA
    ·simp[h1,h2]
   ·simp[h1]
  ·have e1:ae .eql (bc Q a:Int) (ai (dS Q))=true:=by rw[au,bR,decide_eq_true_eq];omega
   simp only[e1,cond_true]
def lt2 (s t:Sl):Prop:=s.a<t.a∨(s.a=t.a∧s.b<t.b)
def upA (a:Ac) (s:Sl):Sl:=if isA s a=true then bump s a.ab else s
theorem Dx (s:Sl) (b:Bool):(bump s b).a=s.a∧(bump s b).b=s.b:=by unfold bump;cases b<;>exact⟨rfl,rfl⟩
theorem up_k (a:Ac) (s:Sl):(upA a s).a=s.a∧(upA a s).b=s.b:=by
 unfold upA;split
 ·exact Dx s a.ab
 ·exact⟨rfl,rfl⟩
theorem isA_k {s t:Sl} {a:Ac} (h1:isA s a=true) (h2:isA t a=true):s.a=t.a∧s.b=t.b:=by
 simp only[isA,Bool.and_eq_true,decide_eq_true_eq]at h1 h2;omega
theorem MQ (a:Ac):∀{P:List Sl},P.Pairwise (fun s t=>¬(s.a=t.a∧s.b=t.b))->P.any (fun s=>isA s a)=true->i5 P a=P.map (upA a)
 | [],_,h=>by simp at h
 |s::P,hd,h=>by
  obtain⟨h1,h2⟩:=List.pairwise_cons.1 hd;unfold i5;by_cases hA:isA s a=true
  ·rw[if_pos hA,List.map_cons];have:P.map (upA a)=P:=by
    refine(List.map_congr_left fun t ht=> ?_).trans (List.map_id' P)
    unfold upA;rw[if_neg fun hB=>h1 t ht (isA_k hA hB)]
   rw[this];unfold upA;rw[if_pos hA]
  ·have hA':isA s a=false:=by simpa using hA
   rw[List.any_cons,hA',Bool.false_or]at h;rw[if_neg hA,List.map_cons,MQ a h2 h];unfold upA;rw[if_neg hA]
theorem HG (a:Ac):∀{P:List Sl},P.any (fun s=>isA s a)=false->i5 P a=P ++ [bump (fr a) a.ab]
 | [],_=>rfl
 |s::P,h=>by
  rw[List.any_cons,Bool.or_eq_false_iff]at h;unfold i5;rw[h.1,HG a h.2];rfl
theorem lt2_isA {s t:Sl} {a:Ac} (h1:lt2 s t) (h2:isA t a=true):ltA s a=true:=by
 simp only[isA,Bool.and_eq_true,decide_eq_true_eq]at h2;unfold lt2 at h1;simp only[ltA,Bool.or_eq_true,Bool.and_eq_true,decide_eq_true_eq];omega
theorem xg (a:Ac):∀{Q:List Sl},Q.Pairwise lt2->Q.any (fun s=>isA s a)=true->jO Q a=Q.map (upA a)
 | [],_,h=>by simp at h
 |s::Q,hd,h=>by
  obtain⟨h1,h2⟩:=List.pairwise_cons.1 hd;unfold jO;by_cases hA:isA s a=true
  ·have hl:ltA s a=false:=by
    simp only[isA,Bool.and_eq_true,decide_eq_true_eq]at hA;simp only[ltA,Bool.or_eq_false_iff,Bool.and_eq_false_iff,decide_eq_false_iff_not];omega
   rw[hl,if_neg (by simp),if_pos hA,List.map_cons]
   have:Q.map (upA a)=Q:=by
    refine(List.map_congr_left fun t ht=> ?_).trans (List.map_id' Q)
    unfold upA
    rw[if_neg fun hB=>by
     have:=isA_k hA hB;have:=h1 t ht
     unfold lt2 at this;omega]
   rw[this];unfold upA;rw[if_pos hA]
  ·have hA':isA s a=false:=by simpa using hA
   rw[List.any_cons,hA',Bool.false_or]at h;obtain⟨t,ht,hB⟩:=List.any_eq_true.1 h;rw[if_pos (lt2_isA (h1 t ht) hB),List.map_cons,xg a h2 h];unfold upA;rw[if_neg hA]
theorem Ak (a:Ac):∀{Q:List Sl},Q.Pairwise lt2->Q.any (fun s=>isA s a)=false->(jO Q a).Perm (bump (fr a) a.ab::Q)∧(jO Q a).Pairwise lt2
 | [],_,_=>⟨.refl _,by simp[jO]⟩
 |s::Q,hd,h=>by
  obtain⟨h1,h2⟩:=List.pairwise_cons.1 hd;rw[List.any_cons,Bool.or_eq_false_iff]at h;obtain⟨i1,i2⟩:=Ak a h2 h.2;have hk:=Dx (fr a) a.ab;unfold jO;by_cases hl:ltA s a=true
  ·rw[if_pos hl];refine⟨(List.Perm.cons s i1).trans (.swap _ _ _),List.pairwise_cons.2 ⟨fun t ht=> ?_,i2⟩⟩
   rcases List.mem_cons.1 (i1.mem_iff.1 ht)with rfl|ht
   ·unfold lt2;rw[hk.1,hk.2];simp only[ltA,Bool.or_eq_true,Bool.and_eq_true,decide_eq_true_eq]at hl;exact hl
   ·exact h1 t ht
  ·rw[if_neg hl,h.1,if_neg (by simp)]
   have hs:lt2 (bump (fr a) a.ab) s:=by
    unfold lt2;rw[hk.1,hk.2];have h9:=h.1;simp only[isA,Bool.and_eq_false_iff,decide_eq_false_iff_not]at h9;have h8:ltA s a=false:=by simpa using hl
    simp only[ltA,Bool.or_eq_false_iff,Bool.and_eq_false_iff,decide_eq_false_iff_not]at h8
    show a.ao<s.a∨a.ao=s.a∧a.aw<s.b
    omega
   refine⟨.refl _,List.pairwise_cons.2 ⟨fun t ht=> ?_,hd⟩⟩
   rcases List.mem_cons.1 ht with rfl|ht
   ·exact hs
   ·have:=h1 t ht;unfold lt2 at *;omega
theorem Dy {P Q:List Sl} (hp:Q.Perm P) (hs:Q.Pairwise lt2):P.Pairwise (fun s t=>¬(s.a=t.a∧s.b=t.b)):=by
 refine(hp.pairwise_iff (fun{x y} h e=>h ⟨e.1.symm,e.2.symm⟩)).1 (hs.imp fun h e=> ?_)
 unfold lt2 at h;omega
theorem both (B:List Ac):(B.foldl jO []).Perm (B.foldl i5 [])∧(B.foldl jO []).Pairwise lt2:=by
 have key:∀(B:List Ac) (P Q:List Sl),Q.Perm P->Q.Pairwise lt2->(B.foldl jO Q).Perm (B.foldl i5 P)∧(B.foldl jO Q).Pairwise lt2:=by
  intro B
  induction B with
  |nil=>intro P Q h1 h2;exact⟨h1,h2⟩
  |cons a B ih=>
   intro P Q hp hs;rw[List.foldl_cons,List.foldl_cons];have hany:Q.any (fun s=>isA s a)=P.any (fun s=>isA s a):=by
    rw[Bool.eq_iff_iff];simp only[List.any_eq_true];exact⟨fun⟨x,hx,h⟩=>⟨x,hp.mem_iff.1 hx,h⟩,fun⟨x,hx,h⟩=>⟨x,hp.mem_iff.2 hx,h⟩⟩
   cases hA:Q.any (fun s=>isA s a)with
   |true=>
    refine ih _ _ ?_ ?_
    ·rw[xg a hs hA,MQ a (Dy hp hs) (by rw[<- hany,hA])]
     exact hp.map _
    ·rw[xg a hs hA,List.pairwise_map];refine hs.imp fun{x y} h=> ?_
     unfold lt2 at *;rw[(up_k a x).1,(up_k a x).2,(up_k a y).1,(up_k a y).2];exact h
   |false=>
    obtain⟨i1,i2⟩:=Ak a hs hA;refine ih _ _ ?_ i2
    rw[HG a (by rw[<- hany,hA])]
    exact i1.trans ((List.Perm.cons _ hp).trans (List.perm_append_singleton _ _).symm)
 exact key B [] [] (.refl _) .nil
def insOf (A:List Ac):List Sl:=(A.filter neg).foldl jO []
theorem VK (A:List Ac):insOf A=qD (mapOf A):=by
 obtain⟨h1,h2⟩:=both (A.filter neg);refine Gi h1 (h2.imp fun{x y} h=> ?_) (Dy h1 h2)
 unfold lt2 at h;simp only[ltS,Bool.or_eq_false_iff,Bool.and_eq_false_iff,decide_eq_false_iff_not];omega
theorem VL (A:List Ac):(mapOf A).Pairwise (fun s t=>¬(s.a=t.a∧s.b=t.b)):=Dy (both (A.filter neg)).1 (both (A.filter neg)).2
theorem VM (A:List Ac):(insOf A).Pairwise lt2:=(both (A.filter neg)).2
theorem put_len (a:Ac):∀P:List Sl,(i5 P a).length≤P.length+1
 | []=>by simp[i5]
 |s::P=>by
  have:=put_len a P;unfold i5;split<;>simp only[List.length_cons]<;>omega
theorem MR (A:List Ac):(mapOf A).length≤A.length:=by
 have key:∀(B:List Ac) (P:List Sl),(B.foldl i5 P).length≤P.length+B.length:=by
  intro B
  induction B with
  |nil=>intro P;simp
  |cons a B ih=>
   intro P;have h1:=ih (i5 P a);have h2:=put_len a P;rw[List.foldl_cons,List.length_cons];omega
 have h1:=key (A.filter neg) [];have h2:(A.filter neg).length≤A.length:=List.length_filter_le _ _;unfold mapOf;simp only[List.length_nil]at h1;omega
theorem MS (A:List Ac):(insOf A).length≤A.length:=by
 have:=(both (A.filter neg)).1.length_eq;have h:=MR A;unfold insOf;unfold mapOf at h;omega
theorem put_mem (a:Ac):∀(P:List Sl) (o:Int),(∃s∈i5 P a,s.a=o)↔(a.ao=o∨∃s∈P,s.a=o)
 | [],o=>by
   have:=(Dx ⟨a.ao,a.aw,0,0,false⟩ a.ab).1;simp only[i5,List.mem_singleton,exists_eq_left,List.not_mem_nil,false_and,exists_false,or_false];rw[this]
 |s::P,o=>by
  have ih:=put_mem a P o;unfold i5;by_cases hA:isA s a=true
  ·rw[if_pos hA];have hb:=(Dx s a.ab).1;simp only[isA,Bool.and_eq_true,decide_eq_true_eq]at hA;simp only[List.mem_cons,exists_eq_or_imp,hb];rw[hA.1];constructor
   ·rintro(h|h)
    ·exact .inl h
    ·exact .inr (.inr h)
   ·rintro(h|h|h)
    ·exact .inl h
    ·exact .inl h
    ·exact .inr h
  ·rw[if_neg hA];simp only[List.mem_cons,exists_eq_or_imp];rw[ih];constructor
   ·rintro(h|h|h)
    ·exact .inr (.inl h)
    ·exact .inl h
    ·exact .inr (.inr h)
   ·rintro(h|h|h)
    ·exact .inr (.inl h)
    ·exact .inl h
    ·exact .inr (.inr h)
theorem map_mem (A:List Ac) (o:Int):(∃s∈mapOf A,s.a=o)↔∃a∈A.filter neg,a.ao=o:=by
 have key:∀(B:List Ac) (P:List Sl),(∃s∈B.foldl i5 P,s.a=o)↔((∃a∈B,a.ao=o)∨∃s∈P,s.a=o):=by
  intro B
  induction B with
  |nil=>intro P;simp
  |cons a B ih=>
   intro P;rw[List.foldl_cons,ih,put_mem];simp only[List.mem_cons,exists_eq_or_imp];constructor
   ·rintro(h|h|h)
    ·exact .inl (.inr h)
    ·exact .inl (.inl h)
    ·exact .inr h
   ·rintro((h|h)|h)
    ·exact .inr (.inl h)
    ·exact .inl h
    ·exact .inr (.inr h)
 have:=key (A.filter neg) [];simpa[mapOf]using this
theorem Dz (A:List Ac) (o:Int):(∃s∈insOf A,s.a=o)↔∃a∈A.filter neg,a.ao=o:=by
 rw[<- map_mem];have hp:=(both (A.filter neg)).1;exact⟨fun⟨s,hs,h⟩=>⟨s,hp.mem_iff.1 hs,h⟩,fun⟨s,hs,h⟩=>⟨s,hp.mem_iff.2 hs,h⟩⟩
theorem oi:∀(l:List Int) (x y:Int),l.foldl max x≤y↔x≤y∧∀z∈l,z≤y
 | [],x,y=>by simp
 |z::l,x,y=>by
  rw[List.foldl_cons,oi l];simp only[List.mem_cons,forall_eq_or_imp];exact⟨fun⟨h1,h2⟩=>⟨by omega,by omega,h2⟩,fun⟨h1,h2,h3⟩=>⟨by omega,h3⟩⟩
theorem VN (A:List Ac) (Ds:List Int):((insOf A).map fun s=> -s.a).foldl max (mx Ds)=lowOf Ds A:=by
 have h0:0≤mx Ds:=((oi Ds 0 (mx Ds)).1 (Int.le_refl _)).1
 have h:∀y,((insOf A).map fun s=> -s.a).foldl max (mx Ds)≤y↔lowOf Ds A≤y:=fun y=>by
  rw[oi];unfold lowOf;have h1:mx (Kz A)≤y↔0≤y∧∀z∈Kz A,z≤y:=oi _ _ _;have h2:(∀z∈(insOf A).map (fun s=> -s.a),z≤y)↔∀z∈Kz A,z≤y:=by
   unfold Kz;simp only[List.mem_map,forall_exists_index,and_imp,forall_apply_eq_imp_iff₂];constructor
   ·intro h a ha;obtain⟨s,hs,e⟩:=(Dz A a.ao).2 ⟨a,ha,rfl⟩;have:=h s hs;omega
   ·intro h s hs;obtain⟨a,ha,e⟩:=(Dz A s.a).1 ⟨s,hs,rfl⟩;have:=h a ha;omega
  rw[h2];constructor
  ·rintro⟨a1,a2⟩;have:=h1.2 ⟨by omega,a2⟩
   omega
  ·intro h3;have h4:mx Ds≤y∧mx (Kz A)≤y:=by omega
   exact⟨h4.1,(h1.1 h4.2).2⟩
 have a1:=(h (lowOf Ds A)).2 (Int.le_refl _);have a2:=(h _).1 (Int.le_refl (((insOf A).map fun s=> -s.a).foldl max (mx Ds)))
 omega
def mK (a b:Int):Int:=aQ .add .i64 a b
def ov (s o:Sl):Bool:=decide (s.a<mK o.a o.b)&&decide (o.a<mK s.a s.b)
def ne2 (s o:Sl):Bool:= !decide (o.a=s.a) || !decide (o.b=s.b)
def xh (Q:List Sl) (s:Sl):Bool:=Q.any fun o=>ne2 s o&&ov s o
def esc (Q:List Sl) (lk:Bool) (s:Sl):Sl:=⟨s.a,s.b,s.c,s.d,lk||decide (0<mK s.a s.b)||decide (s.a < -4092)||xh Q s⟩
def half (Q:List Sl) (lk:Bool) (i:Nat):List Sl:=(Q.take i).map (esc Q lk)++Q.drop i
theorem ed (Q:List Sl) (lk:Bool) (i:Nat):(half Q lk i).length=Q.length:=by
 unfold half;simp only[List.length_append,List.length_map,List.length_take,List.length_drop];omega
theorem xi {Q:List Sl} {lk:Bool} {i:Nat} (h:i<Q.length):(half Q lk i)[i]'(by rw[ed];exact h)=Q[i]:=by
 unfold half;rw[List.getElem_append_right (by simp only[List.length_map,List.length_take];omega)]
 simp[List.length_take,Nat.min_eq_left (Nat.le_of_lt h)]
theorem HH {Q:List Sl} {lk:Bool} {i:Nat} (h:i<Q.length):(half Q lk i).set i (esc Q lk Q[i])=half Q lk (i+1):=by
 unfold half;have h1:((Q.take i).map (esc Q lk)).length=i:=by rw[List.length_map,List.length_take];omega
 rw[List.set_append_right _ _ (by omega),h1,Nat.sub_self,List.drop_eq_getElem_cons h,List.set_cons_zero,List.take_add_one,List.getElem?_eq_getElem h,List.map_append]
 simp only[Option.toList,List.map_cons,List.map_nil,List.append_assoc,List.cons_append,List.nil_append]
theorem pK (Q:List Sl) (lk:Bool) (i:Nat):(half Q lk i).map (fun s=>(s.a,s.b))=Q.map fun s=>(s.a,s.b):=by
 unfold half;rw[List.map_append,List.map_map];have:((fun s:Sl=>(s.a,s.b))∘esc Q lk)=fun s=>(s.a,s.b):=by funext s;rfl
 rw[this, <- List.map_append,List.take_append_drop]
theorem Al {Q R:List Sl} (h:Q.map (fun s=>(s.a,s.b))=R.map fun s=>(s.a,s.b)) (s:Sl):xh Q s=xh R s:=by
 have key:∀Q:List Sl,xh Q s=(Q.map fun s=>(s.a,s.b)).any fun p=>(!decide (p.1=s.a) || !decide (p.2=s.b))&&(decide (s.a<mK p.1 p.2)&&decide (p.1<mK s.a s.b)):=fun Q=>by
  rw[List.any_map];rfl
 rw[key,key,h]
theorem pL (Q:List Sl) (lk:Bool):half Q lk Q.length=Q.map (esc Q lk):=by
 unfold half;rw[List.take_length,List.drop_length,List.append_nil]
theorem Pu (Q:List Sl) (lk:Bool):half Q lk 0=Q:=by unfold half;simp
theorem cl33 (o s:Sl):q33 [sDl o,sDl s]=some [.bool (ne2 s o&&ov s o)]:=by
 have h34:q34 [sDl s,sDl o]=some [.bool (ov s o)]:=by
  rw[TZ,F34_eq];simp only[f0,f1,al,aU];unfold ov mK;cases decide (s.a<aQ .add .i64 o.a o.b)<;>rfl
 rw[T3,F33_eq,h34];simp only[f0,f1,bo,aU,am,ax,List.getD_cons_zero,aO,Bool.cond_self,cond_true];unfold ne2;cases decide (o.a=s.a)<;>cases decide (o.b=s.b)<;>simp
theorem VO {Q:List Sl} (hl:Q.length≤1000000) (s:Sl):vZ [dS Q,sDl s]=some [.bool (xh Q s)]:=by
 have hd:∀x∈(dS Q).toList,∃o,x=sDl o:=fun x hx=>by
  unfold dS at hx;simp only[D.toList,List.mem_map]at hx;obtain⟨o,_,rfl⟩:=hx;exact⟨o,rfl⟩
 have h1:=eZ (st:=lA [dS Q,sDl s, .int (ai (dS Q))]) (l:=dS Q) (c:=fun x=>q33 [x,sDl s]) (p:=fun x=>ne2 s (slD x)&&ov s (slD x)) (r1:=fun i=>[.int 1, .int i]) (r0:=[.int 0])
  (fun i=>by rw[B5]) (by unfold maxLen;simp only[dS,D.toList,List.length_map];omega) (fun x hx=>by
   obtain⟨o,rfl⟩:=hd x hx
   rw[cl33,Dv])
 have hany:(dS Q).toList.any (fun x=>ne2 s (slD x)&&ov s (slD x))=xh Q s:=by
  unfold dS xh;simp only[D.toList,List.any_map]
  congr 1
  funext o
  simp only[Function.comp,Dv]
 rw[hany]at h1;rw[zq,OQ,zp,OP,qE];rcases h1 with⟨h1,h2⟩|⟨i,h1,h2⟩
 ·simp[h1,h2,am,ax,aC,au,be]
 ·simp[h1,h2,am,ax,aC,au,be]
theorem esc_p {Q:List Sl} (hl:Q.length≤1000000) {low:Int} {bal lk:Bool} {m:D} {low2:Int}:∀(k i:Nat),i+k=Q.length->
 loW (rP [.int (Q.length:Int), .int low, .bool bal,m, .bool lk, .int low2]) [.int i,dS (half Q lk i)]=some [.int 0,dS (Q.map (esc Q lk))]
 |0,i,hi=>by
  obtain rfl:i=Q.length:=by omega
  rw[aH,wa,al,decide_eq_false (by omega),pL]
  simp[aj]
 |k+1,i,hi=>by
  have hlt:i<Q.length:=by omega
  have hlh:i<(half Q lk i).length:=by rw[ed];exact hlt
  have ih:=esc_p hl (low:=low) (bal:=bal) (lk:=lk) (m:=m) (low2:=low2) k (i+1) (by omega)
  have c0:ae .leq 0 (i:Int)=true:=by rw[aV];simp
  have c1:ae .lss (i:Int) (ai (dS (half Q lk i)))=true:=by rw[al,bR,ed,decide_eq_true_eq];omega
  have hsh:vZ [dS (half Q lk i),sDl Q[i]]=some [.bool (xh Q Q[i])]:=by
   rw[VO (by rw[ed];exact hl),Al (pK Q lk i)]
  have hl1:∀s,ae .eql (ai (dS (half Q lk i))) (ai (dS ((half Q lk i).set i s)))=true:=fun s=>by rw[bR,bR,List.length_set];exact aj _
  have s0:∀b,cz (dS (half Q lk i)) (i:Int) (.agg [.int Q[i].a, .int Q[i].b, .int Q[i].c, .int Q[i].d, .bool b])=dS ((half Q lk i).set i ⟨Q[i].a,Q[i].b,Q[i].c,Q[i].d,b⟩):=fun b=>Aj (half Q lk i) i ⟨Q[i].a,Q[i].b,Q[i].c,Q[i].d,b⟩
  rw[aH,wa,al,decide_eq_true (by omega)]
  simp only[c0,c1,gr hlh,gt hlh,xi hlt,hsh,f0,f1,f2,f3,s0,hl1,am,ax,List.getD_cons_zero,aO,aj,bP,al,cond_true,aT (show i<9223372036854775807 by omega)]
  have hset:=HH (lk:=lk) hlt;unfold esc at hset;rw[<- hset]at ih;unfold mK at ih;cases hlk:lk with
  |true=>simp only[hlk,Bool.true_or,cond_true]at ih ⊢;exact ih
  |false=>
   simp only[hlk,Bool.false_or,cond_false]at ih ⊢;cases h2:decide (0<aQ .add .i64 Q[i].a Q[i].b)with
   |true=>simp only[h2,Bool.true_or,cond_true]at ih ⊢;exact ih
   |false=>
    simp only[h2,Bool.false_or,cond_false]at ih ⊢;cases h3:decide (Q[i].a < -4092)with
    |true=>simp only[h3,Bool.true_or,cond_true]at ih ⊢;exact ih
    |false=>simp only[h3,Bool.false_or,cond_false]at ih ⊢;exact ih
theorem VP {Q:List Sl} (hl:Q.length≤1000000) {s:Sl} {i:Nat} {a3:Int} {bal lk:Bool} {A:D}:∀(k j:Nat) (b:Bool),j+k=Q.length->
 loW (rW [.int i,sDl s,dS Q, .int a3, .bool bal,A, .bool lk]) [.bool b, .int j]=some [.int 0, .bool (b||(List.range' j k).any fun m=>(!decide (m=i))&&ov s (Q.getD m s))]
 |0,j,b,hj=>by
  rw[aH,wv,al,bR,decide_eq_false (by omega)]
  simp[aj]
 |k+1,j,b,hj=>by
  have hlt:j<Q.length:=by omega
  have hg:Q.getD j s=Q[j]:=by simp[List.getD,hlt]
  have c0:ae .leq 0 (j:Int)=true:=by rw[aV];simp
  rw[aH,wv,al,bR,decide_eq_true (by omega)]
  simp only[c0,gr hlt,gt hlt,f0,f1,aj,cond_true,al,bo,aT (show j<9223372036854775807 by omega)]
  rw[List.range'_succ,List.any_cons,hg];cases b with
  |true=>
   simp only[cond_true];rw[VP hl k (j+1) true (by omega)];simp
  |false=>
   simp only[cond_false];unfold ov mK;by_cases h1:j=i
   ·subst h1;simp only[decide_true,Bool.not_true,cond_false,Bool.false_and,Bool.false_or];rw[VP hl k (j+1) false (by omega)];simp[ov,mK]
   ·have h1':decide ((j:Int)=(i:Int))=false:=by rw[decide_eq_false_iff_not];omega
    rw[h1'];simp only[Bool.not_false,cond_true,decide_eq_false h1,Bool.true_and];by_cases h2:Q[j].a<aQ .add .i64 s.a s.b
    ·rw[decide_eq_true h2];simp only[cond_true,Bool.and_true];rw[VP hl k (j+1) _ (by omega)];simp[ov,mK]
    ·rw[decide_eq_false h2];simp only[cond_false,Bool.and_false];rw[VP hl k (j+1) _ (by omega)];simp[ov,mK]
theorem VQ {Q:List Sl} (hd:Q.Pairwise lt2) {i:Nat} (hi:i<Q.length):((List.range' 0 Q.length).any fun m=>(!decide (m=i))&&ov Q[i] (Q.getD m Q[i]))=xh Q Q[i]:=by
 rw[Bool.eq_iff_iff];unfold xh;simp only[List.any_eq_true,Bool.and_eq_true];constructor
 ·rintro⟨m,hm,h1,h2⟩;have hm':m<Q.length:=by simpa using hm
  have hg:Q.getD m Q[i]=Q[m]:=by simp[List.getD,hm']
  rw[hg]at h2;refine⟨Q[m],List.getElem_mem _,?_,h2⟩
  have hne:m≠i:=by simpa using h1
  unfold ne2;have:¬(Q[m].a=Q[i].a∧Q[m].b=Q[i].b):=by
   rw[List.pairwise_iff_getElem]at hd;rcases Nat.lt_or_gt_of_ne hne with h|h
   ·have:=hd m i hm' hi h;unfold lt2 at this;omega
   ·have:=hd i m hi hm' h;unfold lt2 at this;omega
  simp only[Bool.or_eq_true,Bool.not_eq_true',decide_eq_false_iff_not];omega
 ·rintro⟨o,ho,h1,h2⟩;obtain⟨m,hm,rfl⟩:=List.getElem_of_mem ho;refine⟨m,by simpa using hm,?_,?_⟩
  ·simp only[Bool.not_eq_true',decide_eq_false_iff_not];rintro rfl;unfold ne2 at h1;simp at h1
  ·have hg:Q.getD m Q[i]=Q[m]:=by simp[List.getD,hm]
   rw[hg];exact h2
theorem Am {Q:List Sl} (hd:Q.Pairwise lt2) (lk:Bool) (i:Nat):(half Q lk i).Pairwise lt2:=by
 have h1:(Q.map fun s=>(s.a,s.b)).Pairwise (fun p q=>p.1<q.1∨(p.1=q.1∧p.2<q.2)):=by rw[List.pairwise_map];exact hd
 rw[<- pK Q lk i,List.pairwise_map]at h1;exact h1
theorem esc_r {Q:List Sl} (hl:Q.length≤1000000) (hd:Q.Pairwise lt2) (hr:∀s∈Q, -2147483648≤s.a∧s.a<2147483648) {bal lk:Bool} {A:D}:∀(k i:Nat) (z:Int),i+k=Q.length->
 loW (rX [.bool bal,A, .bool lk]) [.int i,dS (half Q lk i), .int z]=some [.int 0,dS (Q.map (esc Q lk)), .int (((Q.drop i).map fun s=> -s.a).foldl max z)]
 |0,i,z,hi=>by
  obtain rfl:i=Q.length:=by omega
  rw[aH,wy,al,bR,ed,decide_eq_false (by omega),pL,List.drop_length]
  simp[aj]
 |k+1,i,z,hi=>by
  have hlt:i<Q.length:=by omega
  have hlh:i<(half Q lk i).length:=by rw[ed];exact hlt
  have ih:=fun z=>esc_r hl hd hr (bal:=bal) (lk:=lk) (A:=A) k (i+1) z (by omega)
  have c0:ae .leq 0 (i:Int)=true:=by rw[aV];simp
  have c1:ae .lss (i:Int) (ai (dS (half Q lk i)))=true:=by rw[al,bR,ed,decide_eq_true_eq];omega
  have hin:∀a3 b,ww [.int i,sDl Q[i],dS (half Q lk i), .int a3, .bool bal,A, .bool lk] [.bool b, .int 0]=some [.int 0, .bool (b||xh Q Q[i])]:=fun a3 b=>by
   have h1:=VP (Q:=half Q lk i) (by rw[ed];exact hl) (s:=Q[i]) (i:=i) (a3:=a3) (bal:=bal) (lk:=lk) (A:=A) (half Q lk i).length 0 b (by omega)
   have h2:=VQ (Am hd lk i) hlh;rw[xi hlt,Al (pK Q lk i)]at h2;rw[h2]at h1;rw[zG];exact h1
  have hl1:∀s,ae .eql (ai (dS (half Q lk i))) (ai (dS ((half Q lk i).set i s)))=true:=fun s=>by rw[bR,bR,List.length_set];exact aj _
  have s0:∀b,cz (dS (half Q lk i)) (i:Int) (.agg [.int Q[i].a, .int Q[i].b, .int Q[i].c, .int Q[i].d, .bool b])=dS ((half Q lk i).set i ⟨Q[i].a,Q[i].b,Q[i].c,Q[i].d,b⟩):=fun b=>Aj (half Q lk i) i ⟨Q[i].a,Q[i].b,Q[i].c,Q[i].d,b⟩
  have hneg:qun .neg .i64 Q[i].a = -Q[i].a:=MN (hr _ (List.getElem_mem hlt)).1 (hr _ (List.getElem_mem hlt)).2;have hset:=HH (lk:=lk) hlt;unfold esc at hset;have he:(bif bif lk then true else decide (0<mK Q[i].a Q[i].b)then true else decide (Q[i].a < -4092))=(lk||decide (0<mK Q[i].a Q[i].b)||decide (Q[i].a < -4092)):=by
   cases lk<;>cases decide (0<mK Q[i].a Q[i].b)<;>rfl
  unfold mK at he hset;have hl2:ae .eql (ai (dS (half Q lk i))) (ai (dS (half Q lk (i+1))))=true:=by rw[bR,bR,ed,ed];exact aj _
  rw[aH,wy,c1,List.drop_eq_getElem_cons hlt,List.map_cons,List.foldl_cons];simp only[c0,c1,gr hlh,gt hlh,xi hlt,f0,f1,f2,f3,hneg,aU,bP,al,he,hin,s0,hl1,am,ax,List.getD_cons_zero,List.getD_cons_succ,aO,aj,cond_true,aT (show i<9223372036854775807 by omega),hset,hl2]
  by_cases hz:z < -Q[i].a
  ·rw[decide_eq_true hz];simp only[cond_true];rw[ih,Int.max_eq_right (by omega)]
  ·rw[decide_eq_false hz];simp only[cond_false];rw[ih,Int.max_eq_left (by omega)]
def i7:List D->Int->List Ac
 | [],_=>[]
 |s::ss,d=>mJ s d++(match aft s d with|some e=>i7 ss e|none=>[])
def dsB:List D->Int->List Int
 | [],_=>[]
 |s::ss,d=> -d::(match aft s d with|some e=>dsB ss e|none=>[])
def xZ:List D->Int->Bool
 | [],_=>true
 |s::ss,d=>(!decide (ah (aa s 0)=9)||decide (d=4))&&(match aft s d with|some e=>xZ ss e|none=>true)
def rng (d:Int):Prop:= -2147483648≤d∧d<2147483648
theorem DA {s:D} {d e:Int} (h:aft s d=some e) (hd:rng d):rng e:=by
 unfold aft at h;split at h
 ·cases h;exact Ai _
 ·split at h
  ·cases h
  ·split at h
   ·split at h
    ·cases h;exact Ai _
    ·cases h
   ·cases h;exact hd
theorem MT:∀{ss:List D} {d e:Int},acr ss d=some e->rng d->rng e
 | [],d,e,h,hd=>by simp only[acr,Option.some.injEq]at h;subst h;exact hd
 |s::ss,d,e,h,hd=>by
  simp only[acr]at h;cases ha:aft s d with
  |none=>rw[ha]at h;cases h
  |some x=>rw[ha]at h;exact MT h (DA ha hd)
theorem oj {r:Option (List D)} {a:Option Int} {x:Int} (h:Ans r a) (ha:a=some x):r=some [.int x, .bool true]:=by
 obtain⟨y,b,h1,h2⟩:=h;rw[ha]at h2;cases b with
 |false=>simp at h2
 |true=>simp only[if_true,Option.some.injEq]at h2;rw[h1,h2]
theorem blk_p {X pd0 pd2 pd7:D} {pn3 pn4:Int} (hl:X.toList.length≤maxLen) (hs:∀s∈X.toList,Sok s):∀(k i:Nat) (d e:Int) (bal:Bool) A Ds lk,i+k=X.toList.length->rng d->acr (X.toList.drop i) d=some e->
 loW (jJ [pd0, .bool true,pd2, .int pn3, .int pn4,X, .int (ai X),pd7]) [.int d, .int i, .bool bal,mW (mapOf A), .bool lk, .int (lowOf Ds A)] =
 some (.int 0 :: .bool (bal&&xZ (X.toList.drop i) d)::pSt (A++i7 (X.toList.drop i) d) (Ds++dsB (X.toList.drop i) d) (lk||(X.toList.drop i).any lkS))
 |0,i,d,e,bal,A,Ds,lk,hi,_,_=>by
  rw[aH,mG,al,aD,decide_eq_false (by omega),List.drop_of_length_le (by omega)]
  simp[pSt,i7,dsB,xZ]
 |k+1,i,d,e,bal,A,Ds,lk,hi,hd,ha=>by
  have hl':=hl;unfold maxLen at hl';have hlt:i<X.toList.length:=by omega
  have hg:ay X (i:Int)=X.toList[i]:=by rw[bf,getD_lt hlt]
  have hsk:=hs _ (List.getElem_mem hlt);rw[List.drop_eq_getElem_cons hlt]at ha ⊢;generalize X.toList[i]=s at *;simp only[acr]at ha;cases hd':aft s d with
  |none=>rw[hd']at ha;cases ha
  |some d'=>
   rw[hd']at ha;have ih:=fun bal=>blk_p (pd0:=pd0) (pd2:=pd2) (pd7:=pd7) (pn3:=pn3) (pn4:=pn4) hl hs k (i+1) d' e bal (A++mJ s d) (Ds ++ [-d]) (lk||lkS s) (by omega) (DA hd' hd) ha
   have hq:=oj (TB hsk.st d) hd';have hm:=stm_p hsk hd A Ds lk;have c0:ae .lss (i:Int) (ai X)=true:=by rw[al,aD,decide_eq_true_eq];omega
   rw[aH,mG,c0,aP hlt,hg,hm,hq];simp only[i7,dsB,xZ,hd',pSt,am,ax,List.getD_cons_zero,List.getD_cons_succ,aO,aC,bt,Bool.not_true,cond_true,cond_false,bo,au,aT (show i<9223372036854775807 by omega),List.any_cons]
   simp only[pSt]at ih;cases bal with
   |false=>
    simp only[cond_false];rw[ih];simp[List.append_assoc,Bool.or_assoc]
   |true=>
    simp only[cond_true];by_cases h9:ah (aa s 0)=9
    ·rw[decide_eq_true h9];simp only[Bool.not_true,cond_false];rw[ih];simp[List.append_assoc,Bool.or_assoc]
    ·rw[decide_eq_false h9];simp only[Bool.not_false,cond_true];rw[ih];simp[List.append_assoc,Bool.or_assoc]
theorem blk_no {X pd0 pd2 pd7:D} {pn3 pn4:Int} {d:Int} {bal lk:Bool} {m:D} {low:Int}:
 loW (jJ [pd0, .bool false,pd2, .int pn3, .int pn4,X, .int (ai X),pd7]) [.int d, .int 0, .bool bal,m, .bool lk, .int low]=some [.int 0, .bool bal,m, .bool lk, .int low]:=by
 rw[aH,mG,al];cases h:decide (0<ai X)with
 |false=>rfl
 |true=>
  have:aI X 0=true:=aP (i:=0) (by have:=of_decide_eq_true h;rw[aD]at this;omega)
  rw[this];simp[bt]
theorem blk_r {g pd0 pd1:D} {b:Nat} (hb:b<(aa g 1).toList.length) (hl:(aa (blk g b) 1).toList.length≤maxLen) (hs:∀s∈(aa (blk g b) 1).toList,Sok s):∀(k i:Nat) (d e:Int) (bal:Bool) A Ds lk,i+k=(aa (blk g b) 1).toList.length->rng d->acr ((aa (blk g b) 1).toList.drop i) d=some e->
 A.length+(i7 ((aa (blk g b) 1).toList.drop i) d).length≤1000000->
 loW (lB [pd0,pd1, .int b,g]) [.int d, .int i, .int (mx Ds), .bool bal,aL A, .bool lk] =
 some [.int 0, .int (mx (Ds++dsB ((aa (blk g b) 1).toList.drop i) d)), .bool (bal&&xZ ((aa (blk g b) 1).toList.drop i) d),aL (A++i7 ((aa (blk g b) 1).toList.drop i) d), .bool (lk||((aa (blk g b) 1).toList.drop i).any lkS)]
 |0,i,d,e,bal,A,Ds,lk,hi,_,_,_=>by
  rw[aH,wm,aP hb,show ay (aa g 1) (b:Int)=blk g b from rfl,al,aD,decide_eq_false (by omega),List.drop_of_length_le (by omega)]
  simp[i7,dsB,xZ]
 |k+1,i,d,e,bal,A,Ds,lk,hi,hd,ha,hbd=>by
  have hl':=hl;unfold maxLen at hl';have hlt:i<(aa (blk g b) 1).toList.length:=by omega
  have hg:ay (aa (blk g b) 1) (i:Int)=(aa (blk g b) 1).toList[i]:=by rw[bf,getD_lt hlt]
  have hsk:=hs _ (List.getElem_mem hlt);rw[List.drop_eq_getElem_cons hlt]at ha hbd ⊢;generalize (aa (blk g b) 1).toList[i]=s at *;simp only[acr]at ha;cases hd':aft s d with
  |none=>rw[hd']at ha;cases ha
  |some d'=>
   rw[hd']at ha;simp only[i7,hd',List.length_append]at hbd;have ih:=fun bal=>blk_r (pd0:=pd0) (pd1:=pd1) hb hl hs k (i+1) d' e bal (A++mJ s d) (Ds ++ [-d]) (lk||lkS s) (by omega) (DA hd' hd) ha (by rw[List.length_append];omega)
   have hq:=oj (TC hsk.st d) hd';have hm:=stm_r hsk d A lk (by omega)
   rw[Dw]at ih;rw[aH,wm,aP hb,show ay (aa g 1) (b:Int)=blk g b from rfl,al,aD,decide_eq_true (by omega),aP hlt,hg,hm,hq,MN hd.1 hd.2]
   simp only[i7,dsB,xZ,hd',am,ax,List.getD_cons_zero,List.getD_cons_succ,aO,aC,aU,cond_true,bo,au,bP,aT (show i<9223372036854775807 by omega),List.any_cons]
   have hbal:(bif (bif decide (ah (aa s 0)=9)then !decide (d=4)else false)then false else bal)=(bal&&(!decide (ah (aa s 0)=9)||decide (d=4))):=by
    cases decide (ah (aa s 0)=9)<;>cases decide (d=4)<;>cases bal<;>rfl
   have hfin:=ih (bif (bif decide (ah (aa s 0)=9)then !decide (d=4)else false)then false else bal);rw[hbal]at hfin;have hz:max (mx Ds) (-d)=if mx Ds < -d then -d else mx Ds:=by split<;>omega
   rw[hz]at hfin;have e1:Ds ++ [-d]++dsB (List.drop (i+1) (aa (blk g b) 1).toList) d'=Ds ++ -d::dsB (List.drop (i+1) (aa (blk g b) 1).toList) d':=by simp
   have e2:A++mJ s d++i7 (List.drop (i+1) (aa (blk g b) 1).toList) d'=A++(mJ s d++i7 (List.drop (i+1) (aa (blk g b) 1).toList) d'):=by simp
   rw[e1,e2,Bool.or_assoc,Bool.and_assoc]at hfin;rw[<- hfin, <- hbal];by_cases hc:mx Ds < -d
   ·rw[decide_eq_true hc,if_pos hc];cases decide (ah (aa s 0)=9)<;>cases decide (d=4)<;>rfl
   ·rw[decide_eq_false hc,if_neg hc];cases decide (ah (aa s 0)=9)<;>cases decide (d=4)<;>rfl
def jX (g:D) (R:List Bool) (o:List Int) (b:Nat):List Ac:=if gB R b=true then i7 (aa (blk g b) 1).toList (gI o b)else[]
def KE (g:D) (R:List Bool) (o:List Int) (b:Nat):List Int:=if gB R b=true then dsB (aa (blk g b) 1).toList (gI o b)else[]
def KF (g:D) (R:List Bool) (o:List Int) (b:Nat):Bool:=if gB R b=true then xZ (aa (blk g b) 1).toList (gI o b)else true
def KG (g:D) (R:List Bool) (b:Nat):Bool:=if gB R b=true then(aa (blk g b) 1).toList.any lkS else false
structure Rec (g:D) (R:List Bool) (o:List Int) (n:Nat):Prop where
 len:(aa g 1).toList.length=n
 n256:n≤256
 lr:R.length=n
 lo:o.length=n
 bl:∀b,b<n->(aa (blk g b) 1).toList.length≤maxLen∧∀s∈(aa (blk g b) 1).toList,Sok s
 ac:∀b,gB R b=true->rng (gI o b)∧∃e,acr (aa (blk g b) 1).toList (gI o b)=some e
theorem KH {g:D} {R:List Bool} {o:List Int} {n:Nat} (G:Rec g R o n):∀(k i:Nat) (bal:Bool) A Ds lk,i+k=n->
 loW (rO [dI o,dB R, .int (ai (dB R)),g]) [.int i, .bool bal,mW (mapOf A), .bool lk, .int (lowOf Ds A)] =
 some (.int 0 :: .bool (bal&&(List.range' i k).all (KF g R o))::pSt (A++(List.range' i k).flatMap (jX g R o)) (Ds++(List.range' i k).flatMap (KE g R o)) (lk||(List.range' i k).any (KG g R)))
 |0,i,bal,A,Ds,lk,hi=>by
  rw[aH,v7,al,dz,G.lr,decide_eq_false (by omega)]
  simp[pSt]
 |k+1,i,bal,A,Ds,lk,hi=>by
  have hlt:i<n:=by omega
  have h256:=G.n256;have hbi:i<(aa g 1).toList.length:=by rw[G.len];exact hlt
  have i1:aI (dB R) (i:Int)=true:=jU (by rw[G.lr];exact hlt)
  have i2:aI (dI o) (i:Int)=true:=jT (by rw[G.lo];exact hlt)
  rw[aH,v7,al,dz,G.lr,decide_eq_true (by omega),i1,i2,aP hbi,qB,nX,show ay (aa g 1) (i:Int)=blk g i from rfl,List.range'_succ]
  have hl14:∀p s,B9 p s=loW (jJ p) s:=fun p s=>by rw[zr]
  simp only[hl14,List.all_cons,List.flatMap_cons,List.any_cons,cond_true];have ln:(n:Int)=ai (dB R):=by rw[dz,G.lr]
  cases hr:gB R i with
  |false=>
   have ih:=KH G k (i+1) bal A Ds lk (by omega)
   rw[blk_no];simp only[am,ax,List.getD_cons_zero,List.getD_cons_succ,aO,aC,cond_true,aT (show i<9223372036854775807 by omega)]
   rw[ln,ih];simp[jX,KE,KF,KG,hr]
  |true=>
   obtain⟨h1,e,h2⟩:=G.ac i hr;obtain⟨hl,hs⟩:=G.bl i hlt;have hb:=blk_p (pd0:=dI o) (pd2:=dB R) (pd7:=g) (pn3:=(n:Int)) (pn4:=(i:Int)) hl hs (aa (blk g i) 1).toList.length 0 (gI o i) e bal A Ds lk (by omega) h1 h2
   rw[List.drop_zero]at hb;have hb':loW (jJ [dI o, .bool true,dB R, .int (n:Int), .int (i:Int),aa (blk g i) 1, .int (ai (aa (blk g i) 1)),g]) [.int (gI o i), .int 0, .bool bal,mW (mapOf A), .bool lk, .int (lowOf Ds A)]=_:=hb;have ih:=KH G k (i+1) (bal&&xZ (aa (blk g i) 1).toList (gI o i)) (A++i7 (aa (blk g i) 1).toList (gI o i)) (Ds++dsB (aa (blk g i) 1).toList (gI o i)) (lk||(aa (blk g i) 1).toList.any lkS) (by omega)
   rw[hb'];simp only[pSt,am,ax,List.getD_cons_zero,List.getD_cons_succ,aO,aC,cond_true,aT (show i<9223372036854775807 by omega)]
   rw[ln,ih];simp[pSt,jX,KE,KF,KG,hr,List.append_assoc,Bool.or_assoc,Bool.and_assoc]
theorem KJ {g:D} {R:List Bool} {o:List Int} {n:Nat} (G:Rec g R o n):∀(k i:Nat) (bal:Bool) A Ds lk,i+k=n->A.length+((List.range' i k).flatMap (jX g R o)).length≤1000000->
 loW (rU [dI o,dB R,g]) [.int i, .int (mx Ds), .bool bal,aL A, .bool lk] =
 some [.int 0, .int (mx (Ds++(List.range' i k).flatMap (KE g R o))), .bool (bal&&(List.range' i k).all (KF g R o)),aL (A++(List.range' i k).flatMap (jX g R o)), .bool (lk||(List.range' i k).any (KG g R))]
 |0,i,bal,A,Ds,lk,hi,_=>by
  rw[aH,wo,al,aD,G.len,decide_eq_false (by omega)]
  simp
 |k+1,i,bal,A,Ds,lk,hi,hbd=>by
  have hlt:i<n:=by omega
  have h256:=G.n256;have hbi:i<(aa g 1).toList.length:=by rw[G.len];exact hlt
  have i1:aI (dB R) (i:Int)=true:=jU (by rw[G.lr];exact hlt)
  have i2:aI (dI o) (i:Int)=true:=jT (by rw[G.lo];exact hlt)
  rw[List.range'_succ,List.flatMap_cons,List.length_append]at hbd;rw[aH,wo,al,aD,G.len,decide_eq_true (by omega),i1,i2,qB,nX,List.range'_succ]
  have hl16:∀p s,Co p s=loW (lB p) s:=fun p s=>by rw[zD]
  simp only[hl16,List.all_cons,List.flatMap_cons,List.any_cons,cond_true,bt];cases hr:gB R i with
  |false=>
   have hA:jX g R o i = []:=by unfold jX;rw[hr];rfl
   have ih:=KJ G k (i+1) bal A Ds lk (by omega) (by rw[hA]at hbd;simpa using hbd)
   simp only[Bool.not_false,cond_true,aT (show i<9223372036854775807 by omega)]
   rw[ih];simp[jX,KE,KF,KG,hr]
  |true=>
   obtain⟨h1,e,h2⟩:=G.ac i hr;obtain⟨hl,hs⟩:=G.bl i hlt;have hA:jX g R o i=i7 (aa (blk g i) 1).toList (gI o i):=by unfold jX;rw[hr];rfl
   rw[hA]at hbd;have hb:=blk_r (pd0:=dI o) (pd1:=dB R) hbi hl hs (aa (blk g i) 1).toList.length 0 (gI o i) e bal A Ds lk (by omega) h1 h2 (by rw[List.drop_zero];omega)
   rw[List.drop_zero]at hb;have hb':loW (lB [dI o,dB R, .int (i:Int),g]) [.int (gI o i), .int 0, .int (mx Ds), .bool bal,aL A, .bool lk]=_:=hb;have ih:=KJ G k (i+1) (bal&&xZ (aa (blk g i) 1).toList (gI o i)) (A++i7 (aa (blk g i) 1).toList (gI o i)) (Ds++dsB (aa (blk g i) 1).toList (gI o i)) (lk||(aa (blk g i) 1).toList.any lkS) (by omega) (by rw[List.length_append];omega)
   simp only[Bool.not_true,cond_false];rw[hb'];simp only[am,ax,List.getD_cons_zero,List.getD_cons_succ,aO,aC,cond_true,aT (show i<9223372036854775807 by omega)]
   rw[ih];simp[jX,KE,KF,KG,hr,List.append_assoc,Bool.or_assoc,Bool.and_assoc]
theorem MU {A:List Ac} {pn0:Int} {pb1 pb3:Bool} (hl:A.length<1000000):∀(k i:Nat),i+k=A.length->
 loW (rV [.int pn0, .bool pb1,aL A, .bool pb3]) [.int i,dS (insOf (A.take i))]=some [.int 0,dS (insOf A)]
 |0,i,hi=>by
  obtain rfl:i=A.length:=by omega
  rw[aH,ws,al,MO,decide_eq_false (by omega),List.take_length]
  simp[aj]
 |k+1,i,hi=>by
  have hlt:i<A.length:=by omega
  have ih:=MU hl (pn0:=pn0) (pb1:=pb1) (pb3:=pb3) k (i+1) (by omega)
  have c0:ae .leq 0 (i:Int)=true:=by rw[aV];simp
  have i1:aI (aL A) (i:Int)=true:=aP (by simpa[aL,D.toList]using hlt)
  have hg:ay (aL A) (i:Int)=acD A[i]:=by
   rw[bf];unfold aL;simp only[D.toList,List.getD,List.getElem?_map,List.getElem?_eq_getElem hlt];rfl
  have htk:A.take (i+1)=A.take i ++ [A[i]]:=by rw[List.take_add_one,List.getElem?_eq_getElem hlt];rfl
  have hins:insOf (A.take (i+1))=if A[i].ao<0 then jO (insOf (A.take i)) A[i]else insOf (A.take i):=by
   unfold insOf;rw[htk,List.filter_append,List.foldl_append];by_cases h:A[i].ao<0<;>simp[neg,h]
  have hlen:(insOf (A.take i)).length<1000000:=by
   have:=MS (A.take i);rw[List.length_take]at this;omega
  rw[aH,ws,al,MO,decide_eq_true (by omega)]
  simp only[c0,i1,hg,a0,count_r hlen,al,am,ax,List.getD_cons_zero,aj,cond_true,aT (show i<9223372036854775807 by omega)]
  rw[hins]at ih;by_cases h:A[i].ao<0
  ·rw[if_pos h]at ih;rw[decide_eq_true h];simp only[cond_true];exact ih
  ·rw[if_neg h]at ih;rw[decide_eq_false h];simp only[cond_false];exact ih
def addN:List Nat->List Nat->List Nat
 |l,[]=>l
 |l,t::ts=>if t∈l then addN l ts else addN (l ++ [t]) ts
structure Add (n:Nat) (l ts l':List Nat):Prop where
 pre:∃ne,l'=l++ne
 all:∀t∈ts,t∈l'
 mem:∀x∈l',x∈l∨x∈ts
 nod:l.Nodup->l'.Nodup
theorem DB (n:Nat):∀(ts l:List Nat),Add n l ts (addN l ts)
 | [],l=>⟨⟨[],by simp[addN]⟩,by simp,fun x hx=> .inl hx,fun h=>h⟩
 |t::ts,l=>by
  unfold addN;split
  ·rename_i h;have a:=DB n ts l;obtain⟨ne,e⟩:=a.pre;refine⟨⟨ne,e⟩,fun x hx=> ?_,fun x hx=>(a.mem x hx).imp id (List.mem_cons_of_mem _),a.nod⟩
   rcases List.mem_cons.1 hx with rfl|hx
   ·rw[e];exact List.mem_append_left _ h
   ·exact a.all x hx
  ·rename_i h;have a:=DB n ts (l ++ [t]);obtain⟨ne,e⟩:=a.pre;refine⟨⟨t::ne,by rw[e];simp⟩,fun x hx=> ?_,fun x hx=> ?_,fun hn=>a.nod ?_⟩
   ·rcases List.mem_cons.1 hx with rfl|hx
    ·rw[e];simp
    ·exact a.all x hx
   ·rcases a.mem x hx with h'|h'
    ·rcases List.mem_append.1 h' with h'|h'
     ·exact .inl h'
     ·exact .inr (by simp only[List.mem_singleton]at h';simp[h'])
    ·exact .inr (List.mem_cons_of_mem _ h')
   ·rw[List.nodup_append];exact⟨hn,by simp,fun x hx y hy e=>by simp only[List.mem_singleton]at hy;rw[e,hy]at hx;exact h hx⟩
theorem sq {l:List Nat} {n:Nat} (h:l.Nodup) (hn:∀x∈l,x<n):l.length≤n:=by
 have:=h.length_le_of_subset (l₂:=List.range n) (fun x hx=>List.mem_range.2 (hn x hx))
 simpa using this
theorem has_r {l:List Nat} (hl:l.length≤1000000) (t:Nat):q74 [dN l, .int (t:Int)]=some [.bool (decide (t∈l))]:=by
 have key:∀(k i:Nat),i+k=l.length->loW (Cd [dN l, .int (t:Int)]) [.int i]=some [.int (if t∈l.drop i then 1 else 0)]:=by
  intro k
  induction k with
  |zero=>
   intro i hi;rw[aH,zw,al,cM,decide_eq_false (by omega),List.drop_of_length_le (by omega)];rfl
  |succ k ih=>
   intro i hi;have hlt:i<l.length:=by omega
   rw[aH,zw,al,cM,decide_eq_true (by omega),nW hlt,qC hlt,au,List.drop_eq_getElem_cons hlt]
   simp only[cond_true,List.mem_cons,aT (show i<9223372036854775807 by omega)]
   by_cases h:l[i]=t
   ·rw[decide_eq_true (by omega),if_pos (.inl h.symm)];rfl
   ·rw[decide_eq_false (by omega)]
    simp only[cond_false];rw[ih (i+1) (by omega)]
    have:(t=l[i]∨t∈l.drop (i+1))↔t∈l.drop (i+1):=⟨fun h'=>h'.resolve_left fun e=>h e.symm, .inr⟩
    simp only[this]
 have h:=key l.length 0 (by omega)
 rw[List.drop_zero]at h;have h':Gr [dN l, .int (t:Int)] [.int 0]=some [.int (if t∈l then 1 else 0)]:=by rw[Gs];exact h
 rw[T7,F74_eq,h'];by_cases hm:t∈l<;>simp[hm,am,ax,aC,au]
theorem edge_r {g:D} (hg:g.size≤lim) (h:eI g=0) {b:Nat} (hb:b<(aa g 1).toList.length):q114 [g, .int (b:Int)]=some [dN (cx g b)]:=by
 obtain⟨h0,h256,hbad,_⟩:=gp hg h;obtain⟨_,hx⟩:=cX hg;have hsz:(blk g b).size≤lim:=hx _ (get_mem hb);have b1:(aa (blk g b) 1).toList.length≠0:=(pz (hbad b hb)).1;have b2:∀x∈iV (bp (blk g b)),0≤ah x∧ah x<ai (aa g 1):=(pz (hbad b hb)).2;have hlm:=(cb (j:=1) hsz).1;have hy:∃Y,q146 [blk g b]=some [Y]∧Y.toList=iV (bp (blk g b)):=by
  have hz:ae .eql (ai (aa (blk g b) 1)) 0=false:=by rw[au,aD,decide_eq_false_iff_not];omega
  rw[Mf,F146_eq,hz,iW b1 hlm,aP (by omega),show ay (aa (blk g b) 1) (((aa (blk g b) 1).toList.length-1:Nat):Int)=bp (blk g b)from rfl]
  simp only[au,iV,cond_true,cond_false];by_cases h6:ah (aa (bp (blk g b)) 0)=6
  ·simp[h6,bW]
  by_cases h7:ah (aa (bp (blk g b)) 0)=7
  ·simp[h7,bW]
  by_cases h8:ah (aa (bp (blk g b)) 0)=8
  ·simp[h8]
  simp[h6,h7,h8,bW]
 obtain⟨Y,y1,y2⟩:=hy
 have hT:Tg (aa g 1).toList.length Y:=⟨by rw[y2];exact kL ((cb hsz).2 _ (d9 b1)),fun x hm=>by
  rw[y2]at hm;have:=b2 x hm
  rw[aD]at this;exact this⟩
 have hlen:=hT.len;have hle:Y.toList.length≤100000000:=by
  have h1:=y2;have hss:=(cb hsz).2 _ (d9 b1);have h2:=jF (aa (bp (blk g b)) 7);have h3:=eH (bp (blk g b)) 7;unfold lim at hss;rw[h1];unfold iV;split
  ·simp
  ·split
   ·simp
   ·split
    ·omega
    ·simp
 have key:∀(k i:Nat) (l:List Nat),i+k=Y.toList.length->l.length≤i->loW (rQ [Y,g]) [.int i,dN l]=some [.int 0,dN (l++(Y.toList.drop i).map nat)]:=by
  unfold maxLen at hlen;intro k
  induction k with
  |zero=>
   intro i l hi _;rw[aH,wc,al,aD,decide_eq_false (by omega),List.drop_of_length_le (by omega)]
   simp[aj]
  |succ k ih=>
   intro i l hi hli;have hlt:i<Y.toList.length:=by omega
   obtain⟨ht,hr⟩:=hT.get hlt;have ih:=ih (i+1) (l ++ [nat Y.toList[i]]) (by omega) (by simp only[List.length_append,List.length_cons,List.length_nil];omega)
   have c0:ae .lss (i:Int) (ai Y)=true:=by rw[al,aD,decide_eq_true_eq];omega
   have c1:ae .geq (nat Y.toList[i]:Int) 0=true:=by rw[be];simp
   have c2:ae .lss (nat Y.toList[i]:Int) (ai (aa g 1))=true:=by rw[al,aD,decide_eq_true_eq];omega
   have m:bF (ai (dN (l ++ [nat Y.toList[i]]))) 8=true:=by
    rw[cM,gK];unfold qI;simp only[List.length_append,List.length_cons,List.length_nil,Bool.and_eq_true,decide_eq_true_eq];omega
   rw[aH,wc,c0,aP hlt,ht];simp only[c1,c2,Gb,m,aj,cond_true,aT (show i<9223372036854775807 by omega)]
   rw[ih,List.drop_eq_getElem_cons hlt,List.map_cons,List.append_assoc]
   rfl
 have hk:=key Y.toList.length 0 [] (by omega) (by simp)
 have hk':Cf [Y,g] [.int 0, .list []]=some [.int 0,dN ([]++Y.toList.map nat)]:=by
  rw[zx];rw[List.drop_zero]at hk;exact hk
 have hsuc:Y.toList.map nat=cx g b:=by rw[y2];rfl
 rw[List.nil_append,hsuc]at hk';rw[Mg,F114_eq,aP hb,show ay (aa g 1) (b:Int)=blk g b from rfl,y1]
 simp only[am,ax,List.getD_cons_zero,cond_true];rw[hk'];simp[am,ax,aj,au,bQ]
theorem in73 {g:D} {n:Nat} {a:Int} (h256:n≤256) {S:List Nat}:∀(k i:Nat) (l:List Nat),i+k=S.length->S.length≤100000000->(∀x∈S,x<n)->l.Nodup->(∀x∈l,x<n)->
 loW (rR [.int (-1), .int a,dN S,g]) [.int i,dN l]=some [.int 0,dN (addN l (S.drop i))]
 |0,i,l,hi,_,_,_,_=>by
  rw[aH,wg,al,cM,decide_eq_false (by omega),List.drop_of_length_le (by omega)]
  simp[aj,addN]
 |k+1,i,l,hi,hS,hr,hn,hl=>by
  have hlt:i<S.length:=by omega
  have hll:=sq hn hl;have c0:ae .lss (i:Int) (ai (dN S))=true:=by rw[al,cM,decide_eq_true_eq];omega
  have c1:(!decide ((S[i]:Int) = -1))=true:=by simp
  rw[aH,wg,c0,nW hlt,qC hlt,has_r (by omega) S[i],List.drop_eq_getElem_cons hlt]
  simp only[bo,c1,aU,am,ax,List.getD_cons_zero,aO,bt,aj,mB,Bool.and_self,cond_true,Gb,aT (show i<9223372036854775807 by omega)]
  unfold addN;by_cases h:S[i]∈l
  ·rw[decide_eq_true h,if_pos h];simp only[Bool.not_true,cond_false];exact in73 h256 k (i+1) l (by omega) hS hr hn hl
  ·rw[decide_eq_false h,if_neg h];have m:bF (ai (dN (l ++ [S[i]]))) 8=true:=by rw[cM];exact HD (by simp only[List.length_append,List.length_cons,List.length_nil];omega) (by omega)
   simp only[Bool.not_false,cond_true,m];refine in73 h256 k (i+1) (l ++ [S[i]]) (by omega) hS hr ?_ ?_
   ·rw[List.nodup_append];exact⟨hn,by simp,fun x hx y hy e=>by simp only[List.mem_singleton]at hy;rw[e,hy]at hx;exact h hx⟩
   ·intro x hx;rcases List.mem_append.1 hx with hx|hx
    ·exact hl x hx
    ·simp only[List.mem_singleton]at hx;subst hx;exact hr _ (List.getElem_mem hlt)
structure Fnd (suc:Nat->List Nat) (n i:Nat) (l:List Nat):Prop where
 nod:l.Nodup
 lt:∀x∈l,x<n
 z:0∈l
 clo:∀j (h:j<l.length),j<i->∀t∈suc l[j],t∈l
 min:∀A:Nat->Prop,(∀b,A b->∀t∈suc b,A t)->A 0->∀x∈l,A x
theorem out73 {g:D} (hg:g.size≤lim) (h:eI g=0) {n:Nat} (hn:(aa g 1).toList.length=n) (hs:∀b,b<n->(cx g b).length≤100000000∧∀t∈cx g b,t<n) (h256:n≤256):∀(m i:Nat) (l:List Nat),n≤m+i->i≤l.length->Fnd (cx g) n i l->
 ∃l',loW (wi [.int (-1),g]) [.int i,dN l]=some [.int 0,dN l']∧Fnd (cx g) n l'.length l':=by
 have stop:∀l:List Nat,Fnd (cx g) n l.length l->∃l',loW (wi [.int (-1),g]) [.int l.length,dN l]=some [.int 0,dN l']∧Fnd (cx g) n l'.length l':=fun l hF=>by
  refine⟨l,?_,hF⟩
  have c0:ae .lss (l.length:Int) (ai (dN l))=false:=by rw[al,cM,decide_eq_false_iff_not];omega
  rw[aH,zz,c0];simp[aj]
 intro m
 induction m with
 |zero=>
  intro i l hm hi hF;have:=sq hF.nod hF.lt;obtain rfl:i=l.length:=by omega
  exact stop l hF
 |succ m ih=>
  intro i l hm hi hF;by_cases hlt:i<l.length
  ·have hb:=hF.lt _ (List.getElem_mem hlt);have hbg:l[i]<(aa g 1).toList.length:=by rw[hn];exact hb
   obtain⟨s1,s2⟩:=hs _ hb;have hll:=sq hF.nod hF.lt;have c0:ae .lss (i:Int) (ai (dN l))=true:=by rw[al,cM,decide_eq_true_eq];omega
   have c1:ae .leq 0 (i:Int)=true:=by rw[aV];simp
   have hin:=in73 (g:=g) (a:=(i:Int)) h256 (S:=cx g l[i]) (cx g l[i]).length 0 l (by omega) s1 s2 hF.nod hF.lt
   rw[List.drop_zero]at hin;have hin':Cg [.int (-1), .int (i:Int),dN (cx g l[i]),g] [.int 0,dN l]=some [.int 0,dN (addN l (cx g l[i]))]:=by rw[zy];exact hin
   have a:=DB n (cx g l[i]) l;obtain⟨ne,e⟩:=a.pre
   obtain⟨l',r1,r2⟩:=ih (i+1) (addN l (cx g l[i])) (by omega) (by rw[e,List.length_append];omega) ⟨a.nod hF.nod,fun x hx=>(a.mem x hx).elim (hF.lt x) (s2 x),by rw[e];exact List.mem_append_left _ hF.z,fun j hj hji t ht=>by
    by_cases hjl:j<l.length
    ·have hg2:(addN l (cx g l[i]))[j]=l[j]:=by simp only[e];rw[List.getElem_append_left hjl]
     rw[hg2]at ht;by_cases hj2:j=i
     ·subst hj2;exact a.all t ht
     ·have:=hF.clo j hjl (by omega) t ht
      rw[e];exact List.mem_append_left _ this
    ·omega,fun A a1 a2 x hx=>(a.mem x hx).elim (hF.min A a1 a2 x) (a1 _ (hF.min A a1 a2 _ (List.getElem_mem hlt)) x)⟩
   refine⟨l',?_,r2⟩
   rw[aH,zz,c0,c1,nW hlt,qC hlt,edge_r hg h hbg];simp only[am,ax,List.getD_cons_zero,List.getD_cons_succ,aj,hin',cond_true,aT (show i<9223372036854775807 by omega)]
   exact r1
  ·obtain rfl:i=l.length:=by omega
   exact stop l hF
theorem reach_r {g:D} (hg:g.size≤lim) (h:eI g=0) {R:List Bool} (hl:R.length=(aa g 1).toList.length) (r0:gB R 0=true) (rc:∀b,gB R b=true->b<(aa g 1).toList.length∧∀t∈cx g b,gB R t=true)
 (rm:∀A:Nat->Prop,(∀b,A b->∀t∈cx g b,A t)->A 0->∀b,gB R b=true->A b):q36 [g]=some [dB R]:=by
 obtain⟨h0,h256,hbad,_⟩:=gp hg h;obtain⟨_,hx⟩:=cX hg;generalize hn:(aa g 1).toList.length=n at *;have G:=gok hg h;rw[hn]at G
 have hs:∀b,b<n->(cx g b).length≤100000000∧∀t∈cx g b,t<n:=fun b hb=>by
  refine⟨?_,G.suc hb⟩
  have hsz:(blk g b).size≤lim:=hx _ (get_mem (by rw[hn];exact hb))
  have b1:(aa (blk g b) 1).toList.length≠0:=(pz (hbad b hb)).1;have hss:=(cb hsz).2 _ (d9 b1);have h2:=jF (aa (bp (blk g b)) 7);have h3:=eH (bp (blk g b)) 7;unfold lim at hss;unfold cx iV;rw[List.length_map];split
  ·simp
  ·split
   ·simp
   ·split
    ·omega
    ·simp
 obtain⟨l,r1,hF⟩:=out73 hg h hn hs h256 n 0 [0] (by omega) (by simp) ⟨by simp,fun x hx=>by simp only[List.mem_singleton]at hx;omega,by simp,fun j _ hj=>by omega,fun A _ a2 x hx=>by simp only[List.mem_singleton]at hx;subst hx;exact a2⟩
 have hll:=sq hF.nod hF.lt
 have clo:∀b,b∈l->∀t∈cx g b,t∈l:=fun b hb t ht=>by
  obtain⟨j,hj,rfl⟩:=List.getElem_of_mem hb;exact hF.clo j hj hj t ht
 have hR:∀b,gB R b=decide (b∈l):=fun b=>by
  rw[Bool.eq_iff_iff,decide_eq_true_eq];exact⟨fun hb=>rm (fun b=>b∈l) clo hF.z b hb,fun hb=>hF.min (fun b=>gB R b=true) (fun b hb=>(rc b hb).2) r0 b hb⟩
 have h73:q73 [g, .int 0, .int (-1)]=some [dN l]:=by
  have r1':Mh [.int (-1),g] [.int 0, .list [.int 0]]=some [.int 0,dN l]:=by rw[Gv];exact r1
  have c1:decide ((n:Int)≤0)=false:=by rw[decide_eq_false_iff_not];omega
  rw[Ue,F73_eq];simp only[aD (aa g 1),hn,au,al,be,aU,c1,r1',am,ax,List.getD_cons_zero,List.getD_cons_succ,bQ];simp
 have hk:∀(k i:Nat) (S:List Bool),i+k=n->S.length=i->(∀b,b<i->gB S b=gB R b)->∃S',loW (Ci [dN l,g]) [.int i,dB S]=some [.int 0,dB S']∧S'.length=n∧∀b,b<n->gB S' b=gB R b:=by
  intro k
  induction k with
  |zero=>
   intro i S hi hSl hS;have c0:ae .lss (i:Int) (ai (aa g 1))=false:=by rw[al,aD,hn,decide_eq_false_iff_not];omega
   refine⟨S,?_,by omega,fun b hb=>hS b (by omega)⟩
   rw[aH,zA,c0];simp[aj]
  |succ k ih=>
   intro i S hi hSl hS;have c0:ae .lss (i:Int) (ai (aa g 1))=true:=by rw[al,aD,hn,decide_eq_true_eq];omega
   have ap:bN (dB S) (.list [.bool (decide (i∈l))])=dB (S ++ [decide (i∈l)]):=by rw[dj];unfold dB;simp[D.app,D.toList]
   have m:bF (ai (dB (S ++ [decide (i∈l)]))) 1=true:=by rw[dz];exact HD (by simp only[List.length_append,List.length_cons,List.length_nil];omega) (by omega)
   obtain⟨S',e1,e2,e3⟩:=ih (i+1) (S ++ [decide (i∈l)]) (by omega) (by simp[hSl]) (fun b hb=>by
    by_cases hbi:b<i
    ·rw[<- hS b hbi];unfold gB;rw[List.getD_eq_getElem?_getD,List.getD_eq_getElem?_getD,List.getElem?_append_left (by omega)]
    ·obtain rfl:b=i:=by omega
     rw[hR];unfold gB
     rw[List.getD_eq_getElem?_getD,List.getElem?_append_right (by omega),hSl];simp)
   refine⟨S',?_,e2,e3⟩
   rw[aH,zA,c0,has_r (by omega) i]
   simp only[am,ax,List.getD_cons_zero,aO,ap,m,aj,cond_true,aT (show i<9223372036854775807 by omega)]
   exact e1
 obtain⟨S',e1,e2,e3⟩:=hk n 0 [] (by omega) rfl (fun b hb=>by omega)
 have hSR:S'=R:=by
  refine List.ext_getElem? fun b=> ?_
  by_cases hb:b<n
  ·have:=e3 b hb;unfold gB at this;rw[List.getD_eq_getElem?_getD,List.getD_eq_getElem?_getD,List.getElem?_eq_getElem (by omega:b<S'.length),List.getElem?_eq_getElem (by omega:b<R.length)]at this
   rw[List.getElem?_eq_getElem (by omega:b<S'.length),List.getElem?_eq_getElem (by omega:b<R.length)]
   simpa using this
  ·rw[List.getElem?_eq_none (by omega),List.getElem?_eq_none (by omega)]
 subst hSR;have e1':Mi [dN l,g] [.int 0, .list []]=some [.int 0,dB S']:=by rw[Gw];exact e1
 rw[Ug,F36_eq,h73];simp only[am,ax,List.getD_cons_zero,List.getD_cons_succ,e1',aj,cond_true]
def sE (s:D):Nat:=1+D.sizes (aa s 6).toList
def sEs:List D->Nat
 | []=>0
 |s::l=>sE s+sEs l
def sBs:List D->Nat
 | []=>0
 |b::l=>sEs (aa b 1).toList+sBs l
theorem lE {f:D->List Ac}:∀{l:List D},(∀x∈l,(f x).length≤x.size)->(l.flatMap f).length≤D.sizes l
 | [],_=>by simp
 |x::l,h=>by
  have h1:=h x (by simp)
  have h2:=lE (l:=l) (fun y hy=>h y (by simp[hy]))
  rw[List.flatMap_cons,List.length_append];simp only[D.sizes];omega
theorem size_pos (d:D):1≤d.size:=by cases d<;>simp only[D.size]<;>omega
theorem MV (X:D):D.sizes X.toList+1≤X.size:=by
 cases X<;>simp only[D.toList,D.sizes,D.size]<;>omega
theorem DC:∀(N:Nat) (e:D) (d:Int),(pI N e d).length≤e.size
 |0,e,d=>by simp[pI]
 |N+1,e,d=>by
  unfold pI;split
  ·have:=size_pos e;simpa using this
  ·have h1:=lE (f:=fun x=>pI N x d) (l:=(aa e 4).toList) (fun x _=>DC N x d)
   have h2:=MV (aa e 4);have h3:=eH e 4;omega
theorem VR (s:D) (d:Int):(mJ s d).length≤sE s:=by
 unfold mJ sE;split
 ·simp
 ·split
  ·have h1:=lE (f:=fun x=>acc x d) (l:=(aa s 6).toList.drop 1) (fun x _=>DC _ x d)
   have h2:D.sizes ((aa s 6).toList.drop 1)≤D.sizes (aa s 6).toList:=by
    cases (aa s 6).toList with
    |nil=>simp
    |cons x l=>simp only[List.drop_one,List.tail_cons,D.sizes];omega
   rw[List.length_cons];omega
  ·have h1:=lE (f:=fun x=>acc x d) (l:=(aa s 6).toList) (fun x _=>DC _ x d)
   omega
theorem HI:∀(l:List D) (d:Int),(i7 l d).length≤sEs l
 | [],d=>by simp[i7,sEs]
 |s::l,d=>by
  have h1:=VR s d;unfold i7 sEs;rw[List.length_append];cases aft s d with
  |none=>simp only[List.length_nil];omega
  |some e=>have:=HI l e;simp only;omega
theorem HJ {g:D} {R:List Bool} {o:List Int} {n:Nat} (hn:(aa g 1).toList.length=n):∀(k i:Nat),i+k=n->((List.range' i k).flatMap (jX g R o)).length≤sBs ((aa g 1).toList.drop i)
 |0,i,hi=>by simp
 |k+1,i,hi=>by
  have hlt:i<(aa g 1).toList.length:=by omega
  have ih:=HJ (R:=R) (o:=o) hn k (i+1) (by omega)
  have hg:blk g i=(aa g 1).toList[i]:=by unfold blk;rw[bf,getD_lt hlt]
  rw[List.range'_succ,List.flatMap_cons,List.length_append,List.drop_eq_getElem_cons hlt, <- hg];unfold sBs;have:(jX g R o i).length≤sEs (aa (blk g i) 1).toList:=by
   unfold jX;split
   ·exact HI _ _
   ·simp
  omega
theorem loopS2 {g:D} {b:Nat} (hb:b<(aa g 1).toList.length) (hc:Conf PG 54 (blk g b)) (hlen:(aa (blk g b) 1).toList.length≤1100):∀(k i:Nat) (left:Int),i+k=(aa (blk g b) 1).toList.length->0≤left->left≤20000->
 loW (dT [.int 70, .int b,g]) [.int left, .int i]=some [.int 1]∨∃r,loW (dT [.int 70, .int b,g]) [.int left, .int i]=some [.int 0, .int r]∧0≤r∧r≤left∧(sEs ((aa (blk g b) 1).toList.drop i):Int)≤(k:Int)+6*(left-r):=by
 intro k;have hq:ay (aa g 1) (b:Int)=blk g b:=rfl
 induction k with
 |zero=>
  intro i left hi h0 hl;have c0:ae .lss (i:Int) (ai (aa (blk g b) 1))=false:=by rw[al,aD,decide_eq_false_iff_not];omega
  rw[aH,jB,aP hb,hq,c0,List.drop_of_length_le (by omega)]
  exact .inr ⟨left,rfl,h0,Int.le_refl _,by simp only[sEs];omega⟩
 |succ k ih=>
  intro i left hi h0 hl;have hlt:i<(aa (blk g b) 1).toList.length:=by omega
  have c0:ae .lss (i:Int) (ai (aa (blk g b) 1))=true:=by rw[al,aD,decide_eq_true_eq];omega
  obtain⟨_,_,hx⟩:=cn s52 (cG Gf hc);have hge:ay (aa (blk g b) 1) (i:Int)=(aa (blk g b) 1).toList[i]:=by rw[bf,getD_lt hlt]
  have hs:=hx _ (get_mem hlt);rw[aH,jB,aP hb,hq,c0,aP hlt];generalize ay (aa (blk g b) 1) (i:Int)=s at *;simp only[aD,bP,aU,cond_true];by_cases h4:(4:Int)<((aa s 6).toList.length:Int)
  ·exact .inl (by simp[h4])
  by_cases h100:(100:Int)<((aa s 7).toList.length:Int)
  ·exact .inl (by simp[h4,h100])
  simp only[h4,h100,decide_false,cond_false];have hE:=loopE (g:=g) (a:=(b:Int)) (b:=(i:Int)) hs (by omega) (aa s 6).toList.length 0 left (by omega) h0 hl
  have e0:∀ds,vo [.int 70, .int b, .int i,s,g] ds=loW (eF [.int 70, .int b, .int i,s,g]) ds:=fun ds=>by rw[ph]
  rw[e0];rcases hE with h|⟨r,h,e1,e2,e3⟩
  ·have h':loW (eF [.int 70, .int b, .int i,s,g]) [.int left, .int 0]=some [.int 1]:=h;rw[h'];exact .inl (by simp[am,ax,aC,au])
  ·have h':loW (eF [.int 70, .int b, .int i,s,g]) [.int left, .int 0]=some [.int 0, .int r]:=h;rw[h'];simp only[am,ax,List.getD_cons_zero,List.getD_cons_succ,aC,au,decide_true,cond_true,aT (show i<9223372036854775807 by omega)]
   rcases ih (i+1) r (by omega) e1 (by omega)with h|⟨r',h,f1,f2,f3⟩
   ·exact .inl h
   ·refine .inr ⟨r',h,f1,by omega,?_⟩
    rw[List.drop_eq_getElem_cons hlt, <- hge];rw[List.drop_zero]at e3;simp only[sEs,sE];omega
theorem loopB2 {g:D} (hc:Conf PG 25 g) (hlen:(aa g 1).toList.length≤300):∀(k i:Nat) (left:Int),i+k=(aa g 1).toList.length->0≤left->left≤20000->
 loW (fK [.int 70,g]) [.int left, .int i]=some [.int 1]∨(loW (fK [.int 70,g]) [.int left, .int i]=some [.int 0]∧(sBs ((aa g 1).toList.drop i):Int)≤1100*(k:Int)+6*left):=by
 intro k
 induction k with
 |zero=>
  intro i left hi h0 hl;have c0:ae .lss (i:Int) (ai (aa g 1))=false:=by rw[al,aD,decide_eq_false_iff_not];omega
  rw[aH,lm,c0,List.drop_of_length_le (by omega)]
  exact .inr ⟨rfl,by simp only[sBs];omega⟩
 |succ k ih=>
  intro i left hi h0 hl;have hlt:i<(aa g 1).toList.length:=by omega
  have c0:ae .lss (i:Int) (ai (aa g 1))=true:=by rw[al,aD,decide_eq_true_eq];omega
  obtain⟨_,_,hx⟩:=cn s23 (cG zm hc);have hq:ay (aa g 1) (i:Int)=blk g i:=rfl;have hge:ay (aa g 1) (i:Int)=(aa g 1).toList[i]:=by rw[bf,getD_lt hlt]
  have hs:Conf PG 54 (blk g i):=hx _ (get_mem hlt);rw[aH,lm,c0,aP hlt,hq];simp only[aD,bP,cond_true];by_cases h4:(1100:Int)<((aa (blk g i) 1).toList.length:Int)
  ·exact .inl (by simp[h4])
  simp only[h4,decide_false,cond_false];have hS:=loopS2 hlt hs (by omega) (aa (blk g i) 1).toList.length 0 left (by omega) h0 hl
  have e0:∀ds,vt [.int 70, .int i,g] ds=loW (dT [.int 70, .int i,g]) ds:=fun ds=>by rw[pj]
  rw[e0];rcases hS with h|⟨r,h,e1,e2,e3⟩
  ·have h':loW (dT [.int 70, .int i,g]) [.int left, .int 0]=some [.int 1]:=h;rw[h'];exact .inl (by simp[am,ax,aC,au])
  ·have h':loW (dT [.int 70, .int i,g]) [.int left, .int 0]=some [.int 0, .int r]:=h;rw[h'];simp only[am,ax,List.getD_cons_zero,List.getD_cons_succ,aC,au,decide_true,cond_true,aT (show i<9223372036854775807 by omega)]
   rcases ih (i+1) r (by omega) e1 (by omega)with h|⟨h,f3⟩
   ·exact .inl h
   ·refine .inr ⟨h,?_⟩
    rw[List.drop_eq_getElem_cons hlt, <- hge,hq];rw[List.drop_zero]at e3;simp only[sBs];omega
theorem few {g:D} (hc:Conf PG 25 g) (h:q8 [g]=some [.bool false]):sBs (aa g 1).toList≤450000:=by
 obtain⟨b,h1,_⟩:=small hc;have hb:b=true:=by
  cases b with
  |true=>rfl
  |false=>
   rw[SF,F8_eq,h1]at h;simp only[am,ax,List.getD_cons_zero,aO,aU,bt,Bool.cond_self,cond_true]at h;cases hg:ae .gtr (ai (aa g 1)) 40<;>simp[hg]at h
 subst hb;rw[Js,SE]at h1;simp only[aD,bP]at h1;by_cases h3:(300:Int)<((aa g 1).toList.length:Int)
 ·simp[h3]at h1
 have hB:=loopB2 hc (by omega) (aa g 1).toList.length 0 20000 (by omega) (by omega) (by omega)
 have e0:∀ds,y7 [.int 70,g] ds=loW (fK [.int 70,g]) ds:=fun ds=>by rw[vw]
 simp only[h3,decide_false,cond_false,e0]at h1;rcases hB with h|⟨h,e⟩
 ·have h':loW (fK [.int 70,g]) [.int 20000, .int 0]=some [.int 1]:=h;rw[h']at h1;simp[am,ax,aC,au]at h1
 ·rw[List.drop_zero]at e;omega
theorem KK:∀(N:Nat) (e:D) (d:Int),∀a∈pI N e d,rng a.ao
 |0,e,d,a,h=>by simp[pI]at h
 |N+1,e,d,a,h=>by
  unfold pI at h;split at h
  ·simp only[List.mem_singleton]at h;subst h;exact Ai _
  ·obtain⟨x,_,hx⟩:=List.mem_flatMap.1 h;exact KK N x d a hx
theorem accS_rg (s:D) (d:Int):∀a∈mJ s d,rng a.ao:=fun a h=>by
 unfold mJ at h;split at h
 ·cases h
 ·split at h
  ·rcases List.mem_cons.1 h with rfl|h
   ·exact Ai _
   ·obtain⟨x,_,hx⟩:=List.mem_flatMap.1 h;exact KK _ x d a hx
  ·obtain⟨x,_,hx⟩:=List.mem_flatMap.1 h;exact KK _ x d a hx
theorem MW:∀(l:List D) (d:Int),∀a∈i7 l d,rng a.ao
 | [],d,a,h=>by cases h
 |s::l,d,a,h=>by
  unfold i7 at h;rcases List.mem_append.1 h with h|h
  ·exact accS_rg s d a h
  ·cases ha:aft s d with
   |none=>rw[ha]at h;cases h
   |some e=>rw[ha]at h;exact MW l e a h
theorem blkA_rg {g:D} {R:List Bool} {o:List Int} {l:List Nat}:∀a∈l.flatMap (jX g R o),rng a.ao:=fun a h=>by
 obtain⟨b,_,hb⟩:=List.mem_flatMap.1 h;unfold jX at hb;split at hb
 ·exact MW _ _ a hb
 ·cases hb
open Classical in
theorem VS {g:D} {s:List Bool} {o:List Int} (hc:xR (jW g) (cx g) (asg s o)) (hm:∀A,xR (jW g) (cx g) A->Sub s o A):∀b,gB s b=true->rng (gI o b):=by
 have asg_some:∀b d,asg s o b=some d->gB s b=true∧gI o b=d:=fun b d h=>by
  unfold asg at h;split at h
  ·rename_i hs;exact⟨hs,Option.some.inj h⟩
  ·cases h
 have h0:=asg_some 0 0 hc.1;have hA:xR (jW g) (cx g) (fun b=>if gB s b=true∧rng (gI o b)then some (gI o b)else none):=by
  refine⟨?_,fun b d h=> ?_⟩
  ·simp only[h0.1,h0.2,true_and];rw[if_pos (by unfold rng;omega)]
  ·simp only at h;split at h
   ·rename_i hs;cases h;obtain⟨e,e1,e2⟩:=hc.2 b (gI o b) (by unfold asg;rw[if_pos hs.1])
    refine⟨e,e1,fun t ht=> ?_⟩
    obtain⟨t1,t2⟩:=asg_some t e (e2 t ht);simp only[t1,t2,true_and];rw[if_pos (MT e1 hs.2)]
   ·cases h
 intro b hb;have:=hm _ hA b hb;split at this
 ·rename_i h;exact h.2
 ·cases this
theorem q31_v (A:List Ac) (hA:A.length≤1000000) (b:Bool) (n:Int):q31 [mW (mapOf A), .bool b, .int n]=some [dS (insOf A)]:=by
 have h1:(mW (mapOf A)).toList.length≤1000000:=by
  have:=MR A;simp only[mW,D.toList,List.length_map];omega
 rw[TR];unfold F31;rw[List.headD_cons,VE,if_pos ⟨h1,VL A⟩,VK]
 rfl
def fD (z:Int) (Q:List Sl) (b:Bool):D:= .agg [.int z,dS Q, .bool b]
theorem recov {g:D} (hg:g.size≤lim) (hfew:sBs (aa g 1).toList≤450000):∃z Q b e,Q.length≤1000000∧q10 [g]=some [fD z Q b, .int e]∧q11 [g]=some [fD z Q b, .int e]∧Q.Pairwise lt2∧(e=0->∃o R n,q28 [g]=some [dI o, .bool true]∧q18 [g]=some [dI o, .bool true]∧q20 [g]=some [dB R]∧q36 [g]=some [dB R]∧Rec g R o n):=by
 obtain⟨e1,e2⟩:=F9 hg hg;by_cases h0:eI g=0
 ·have G:=gok hg h0;obtain⟨_,h256,_,hst⟩:=gp hg h0;obtain⟨_,hx⟩:=cX hg;rw[h0]at e1 e2;obtain⟨r,r1,r2⟩:=Gd G;obtain⟨r',r3,r4,_⟩:=Ge G e2;rw[<- Option.some.inj (r2.symm.trans r3)]at r4;obtain⟨R,p1,p2,p3,p4,p5⟩:=reach_p hg h0;have p6:=reach_r hg h0 p2 p3 p4 p5;cases r with
  |none=>
   refine⟨0,[],false,19,by simp,?_,?_, .nil,fun h=>by omega⟩
   ·rw[Cc,JN,e1,r2];simp[py,am,ax,aC,aO,bo,bt,fD,dS]
   ·rw[Cs,JW,e2,r4];simp[py,am,ax,aC,aO,bo,bt,fD,dS]
  |some p=>
   obtain⟨s,o⟩:=p;obtain⟨_,ho,hc,hm,_⟩:=r1;have hs:=JF hc hm p3 (fun b hb=>(p4 b hb).2) p5
   have hrg:=VS hc hm;generalize hn:(aa g 1).toList.length=n at *
   have GR:Rec g R o n:=⟨hn,h256,p2,ho,fun b hb=>by
    have hsz:(blk g b).size≤lim:=hx _ (get_mem (by rw[hn];exact hb))
    exact⟨(cb hsz).1,fun s hs=>sok ((cb hsz).2 s hs) (hst b hb s hs)⟩,fun b hb=>by
    rw[hs]at hb;obtain⟨e,e1,_⟩:=hc.2 b (gI o b) (by unfold asg;rw[if_pos hb])
    exact⟨hrg b hb,e,e1⟩⟩
   have hlen:=HJ (R:=R) (o:=o) hn n 0 (by omega)
   rw[List.drop_zero]at hlen;have hA:((List.range' 0 n).flatMap (jX g R o)).length≤450000:=by omega
   have hp:=KH GR n 0 true [] [] false (by omega)
   have hr:=KJ GR n 0 true [] [] false (by omega) (by simp only[List.length_nil];omega)
   simp only[List.nil_append,Bool.true_and,Bool.false_or]at hp hr;have hrga:=blkA_rg (g:=g) (R:=R) (o:=o) (l:=List.range' 0 n);generalize (List.range' 0 n).flatMap (jX g R o)=A at *;generalize (List.range' 0 n).flatMap (KE g R o)=Ds at *;generalize (List.range' 0 n).all (KF g R o)=bal at *;generalize (List.range' 0 n).any (KG g R)=lk at *;have hil:=MS A;have hpe:=esc_p (Q:=insOf A) (by omega) (low:=lowOf Ds A) (bal:=bal) (lk:=lk) (m:=mW (mapOf A)) (low2:=lowOf Ds A) (insOf A).length 0 (by omega)
   have hre:=esc_r (Q:=insOf A) (by omega) (VM A) (fun s hs=>by
    obtain⟨a,ha,e⟩:=(Dz A s.a).1 ⟨s,hs,rfl⟩
    rw[<- e];exact hrga a (List.mem_filter.1 ha).1) (bal:=bal) (lk:=lk) (A:=aL A) (insOf A).length 0 (mx Ds) (by omega)
   rw[Pu]at hpe hre;rw[List.drop_zero,VN]at hre;have hcn:=MU (A:=A) (pn0:=mx Ds) (pb1:=bal) (pb3:=lk) (by omega) A.length 0 (by omega)
   rw[List.take_zero]at hcn;have z1:dS (insOf []) = .list []:=rfl;rw[z1]at hcn;refine⟨lowOf Ds A,(insOf A).map (esc (insOf A) lk),bal,0,by rw[List.length_map];omega,?_,?_,by rw[<- pL];exact Am (VM A) lk _,fun _=>⟨o,R,n,r2,r4,p1,p6,GR⟩⟩
   ·have hp':Ca [dI o,dB R, .int (ai (dB R)),g] [.int 0, .bool true, .list [], .bool false, .int 0]=some (.int 0 :: .bool bal::pSt A Ds lk):=by
     rw[zt];exact hp
    have hpe':Cb [.int (ai (dS (insOf A))), .int (lowOf Ds A), .bool bal,mW (mapOf A), .bool lk, .int (lowOf Ds A)] [.int 0,dS (insOf A)]=some [.int 0,dS ((insOf A).map (esc (insOf A) lk))]:=by
     rw[zu,bR];exact hpe
    rw[Cc,JN,e1,r2,p1];simp only[py,pSt,am,ax,List.getD_cons_zero,List.getD_cons_succ,aC,aO,bo,decide_true,Bool.not_true,bt,cond_true,cond_false,hp',q31_v A (by omega),hpe',aj,aE,aK]
    rfl
   ·have hr':Cp [dI o,dB R,g] [.int 0, .int 0, .bool true, .list [], .bool false]=some [.int 0, .int (mx Ds), .bool bal,aL A, .bool lk]:=by
     rw[zE];exact hr
    have hcn':Cq [.int (mx Ds), .bool bal,aL A, .bool lk] [.int 0, .list []]=some [.int 0,dS (insOf A)]:=by
     rw[zF];exact hcn
    have hre':Cr [.bool bal,aL A, .bool lk] [.int 0,dS (insOf A), .int (mx Ds)]=some [.int 0,dS ((insOf A).map (esc (insOf A) lk)), .int (lowOf Ds A)]:=by
     rw[zH];exact hre
    rw[Cs,JW,e2,r4,p6];have z0:ae .eql 0 (ai (D.list []))=true:=by rw[au,bQ];rfl
    simp only[py,am,ax,List.getD_cons_zero,List.getD_cons_succ,aC,aO,bo,decide_true,Bool.not_true,bt,cond_true,cond_false,hr',hcn',hre',aj,z0]
    rfl
 ·refine⟨0,[],false,eI g,by simp,?_,?_, .nil,fun h=>absurd h h0⟩
  ·rw[Cc,JN,e1];simp[am,ax,aC,bo,h0,fD,dS]
  ·rw[Cs,JW,e2];simp[am,ax,aC,bo,h0,fD,dS]
theorem fz (z:Int) (Q:List Sl) (b:Bool):ah (aa (fD z Q b) 0)=z:=by rw[aZ];exact aC _
theorem fq (z:Int) (Q:List Sl) (b:Bool):aa (fD z Q b) 1=dS Q:=by rw[aZ];rfl
theorem fb (z:Int) (Q:List Sl) (b:Bool):aJ (aa (fD z Q b) 2)=b:=by rw[aZ];exact aO _
end
end Go.Proofs.YtfdedgmlafelaaaGreatDoor
