/-
  The heap of the running call against the world; what single operations do.
-/
import Derived.Test.YteccopaonadbeaaGreatDoorAm2
import Derived.Laws.CopyRow
import Derived.Laws.AppendOwn
import Derived.Laws.MakeOwn
set_option linter.unusedVariables false
set_option linter.unusedSimpArgs false
namespace Go.AM
noncomputable def entsD (kT vT:TypeId) (d:D):List (Value×AV):=d.toList.map fun x=>(kvD kT (x.fld 0),valA vT (x.fld 1))
def BlkRep (ρ:Nat→Option Nat) (E:Nat→Prop) (w:World):Blk→Nat→Prop
 | .cells cs,b=>∃c T,w.heap[b]? = some (.cells c T (0,0))∧cs.length≤c.size∧RepL ρ E w cs (c.toList.take cs.length)
 | .map es,b=>∃arr clk,w.heap[b]? = some (.map arr clk)∧RepM ρ E w es arr.toList∧Born arr clk
 | .dat T d,b=>∃c Ty,w.heap[b]? = some (.cells c Ty (0,0))∧layOk PG rowDepth T=true∧PG.cellsOf T≤c.size∧RepD PG E w T d (c.toList.take (PG.cellsOf T))
 | .lst T d,b=>∃c Ty,w.heap[b]? = some (.cells c Ty (0,0))∧layOk PG rowDepth T=true∧d.toList.length*PG.cellsOf T≤c.size∧∀i x,d.toList[i]? = some x→RepD PG E w T x ((c.toList.drop (i*PG.cellsOf T)).take (PG.cellsOf T))
 | .siter s pos _,b=>∃p:Nat,pos=(p:Int)∧w.heap[b]? = some (.stringIter s p)
 | .miter es n,b=>(es = []∧n=0∧w.heap[b]? = some (.mapIter none 0 #[] 0))∨
    ∃b' arr clk,E b'∧w.heap[b']? = some (.map arr clk)∧RepM nowhere E w es arr.toList∧Born arr clk∧w.heap[b]? = some (.mapIter (some b') clk ((arr.toList.take n).map (·.born)).toArray clk)
 | .mp kT vT d,b=>∃arr clk,w.heap[b]? = some (.map arr clk)∧RepM ρ E w (entsD kT vT d) arr.toList∧Born arr clk
theorem BlkRep.toCells {ρ:Nat→Option Nat} {E:Nat→Prop} {w:World} {T:TypeId} {d:D} {b:Nat} (r:BlkRep ρ E w (.dat T d) b):BlkRep ρ E w (.cells (cellsT rowDepth T d)) b:=by
 obtain⟨c,Ty,hc,hl,hz,hr⟩:=r
 have h1:=cellsT_rep (ρ:=ρ) rowDepth T d _ hl hr
 have h2:=h1.length
 rw[List.length_take]at h2
 have h3:c.toList.length=c.size:=Array.length_toList
 have h4:(cellsT rowDepth T d).length=PG.cellsOf T:=by omega
 exact⟨c,Ty,hc,by omega,by rw[h4];exact h1⟩
def SameIO (w w':World):Prop:=w'.os=w.os∧w'.tape=w.tape∧w'.output=w.output
theorem SameIO.trans {a b c:World} (h:SameIO a b) (k:SameIO b c):SameIO a c:=⟨k.1.trans h.1,k.2.1.trans h.2.1,k.2.2.trans h.2.2⟩
def allSc:List AV→Bool
 | []=>true
 | .sc _::r=>allSc r
 |_=>false
def GlRep (E:Nat→Prop) (w:World) (g:Nat) (cs:List AV):Prop:=RepAt nowhere E w g 0 cs∧(allSc cs=true→∃c T f,w.heap[g]? = some (.cells c T f)∧c.size=cs.length)
structure Inv (lo:Nat→Prop) (w0:World) (ρ:Nat→Option Nat) (E:Nat→Prop) (H:Hp) (w:World):Prop where
 len:H.n=H.bs.length
 dom:∀i b,ρ i=some b→i<H.n
 blk:∀i k b,H.get i=some k→ρ i=some b→BlkRep ρ E w k b
 inj:∀i j k k' b,H.get i=some k→H.get j=some k'→ρ i=some b→ρ j=some b→i=j
 notE:∀i k b,H.get i=some k→ρ i=some b→¬E b
 bd:∀i b,ρ i=some b→¬lo b∧b<w.heap.size
 ebd:∀b,E b→b<w.heap.size
 lole:∀b,lo b→b<w.heap.size
 old:∀b,lo b→w.heap[b]? = w0.heap[b]?
 io:SameIO w0 w
 gl:∀g cs,H.glob g=some cs→E g∧GlRep E w g cs
theorem gl_mono {H H':Hp} {ρ ρ':Nat→Option Nat} {E E':Nat→Prop} {w w':World} (e:H'.gl=H.gl) (h:Ext ρ E w ρ' E' w') (g:∀g cs,H.glob g=some cs→E g∧GlRep E w g cs):∀g cs,H'.glob g=some cs→E' g∧GlRep E' w' g cs:=by
 intro b cs hb
 have hb':H.glob b=some cs:=by unfold Hp.glob at hb ⊢;rw[← e];exact hb
 obtain⟨h1,h2⟩:=g b cs hb'
 exact⟨h.ext b h1,RepAt.mono h.none b h1 cs 0 h2.1,fun hs=>by rw[h.same b h1];exact h2.2 hs⟩
section
variable {lo:Nat→Prop} {w0:World} {ρ:Nat→Option Nat} {E:Nat→Prop} {H:Hp} {w:World}
theorem BlkRep.mono {ρ':Nat→Option Nat} {E':Nat→Prop} {w':World} (h:Ext ρ E w ρ' E' w') {k:Blk} {b:Nat} (hb:w'.heap[b]? = w.heap[b]?) (r:BlkRep ρ E w k b):BlkRep ρ' E' w' k b:=by
 cases k with
 |cells cs=>
  obtain⟨c,T,hc,hl,hr⟩:=r
  exact⟨c,T,hb.trans hc,hl,RepL.mono h _ _ hr⟩
 |map es=>
  obtain⟨arr,clk,hc,hr⟩:=r
  exact⟨arr,clk,hb.trans hc,RepM.mono h _ _ hr.1,hr.2⟩
 |dat T d=>
  obtain⟨c,Ty,hc,hl,hz,hr⟩:=r
  exact⟨c,Ty,hb.trans hc,hl,hz,hr.mono h⟩
 |lst T d=>
  obtain⟨c,Ty,hc,hl,hz,hr⟩:=r
  exact⟨c,Ty,hb.trans hc,hl,hz,fun i x hx=>(hr i x hx).mono h⟩
 |siter s p kn=>
  obtain⟨q,hp,hc⟩:=r
  exact⟨q,hp,hb.trans hc⟩
 |miter es n=>
  rcases r with⟨h1,h2,hc⟩|⟨b',arr,clk,he,hm,hr,hbo,hc⟩
  ·exact .inl ⟨h1,h2,hb.trans hc⟩
  ·exact .inr ⟨b',arr,clk,h.ext _ he,(h.same _ he).trans hm,RepM.mono h.none _ _ hr,hbo,hb.trans hc⟩
 |mp kT vT d=>
  obtain⟨arr,clk,hc,hr⟩:=r
  exact⟨arr,clk,hb.trans hc,RepM.mono h _ _ hr.1,hr.2⟩
theorem Hp.get_push_eq (k:Blk):(H.push k).get H.n=some k:=by
 have h1:Nat.blt H.n (H.n+1)=true:=by rw[Nat.blt_eq];omega
 simp[Hp.get,Hp.push,h1]
theorem Hp.get_push_lt (k:Blk) {i:Nat} (h:i<H.n):(H.push k).get i=H.get i:=by
 have h1:Nat.blt i (H.n+1)=true:=by rw[Nat.blt_eq];omega
 have h2:Nat.blt i H.n=true:=by rw[Nat.blt_eq];omega
 simp only[Hp.get,Hp.push,h1,h2,cond_true]
 rw[show H.n+1-1-i=(H.n-1-i)+1 from by omega]
 simp
theorem Hp.get_ge {i:Nat} (h:H.n≤i):H.get i=none:=by
 have h2:Nat.blt i H.n=false:=by
  cases hb:Nat.blt i H.n with
  |false=>rfl
  |true=>rw[Nat.blt_eq]at hb;omega
 simp[Hp.get,h2]
theorem Hp.get_lt {i:Nat} {k:Blk} (h:H.get i=some k):i<H.n:=by
 by_cases hi:i<H.n
 ·exact hi
 ·rw[Hp.get_ge (by omega)]at h;cases h
theorem Hp.get_put_eq (x:Option Blk) {i:Nat} (h:i<H.n) (hl:H.n=H.bs.length):(H.put i x).get i=x:=by
 have h2:Nat.blt i H.n=true:=by rw[Nat.blt_eq];omega
 have h3:H.n-1-i<H.bs.length:=by omega
 simp[Hp.get,Hp.put,h2,h3]
theorem Hp.get_put_ne (x:Option Blk) {i j:Nat} (h:i≠j) (hi:i<H.n):(H.put i x).get j=H.get j:=by
 by_cases hj:j<H.n
 ·have h2:Nat.blt j H.n=true:=by rw[Nat.blt_eq];omega
  simp only[Hp.get,Hp.put,h2,cond_true]
  rw[List.getElem?_set_ne (by omega)]
 ·rw[Hp.get_ge (H:=H) (by omega),Hp.get_ge (H:=H.put i x) (by show H.n≤j;omega)]
theorem Hp.put_n (x:Option Blk) (i:Nat):(H.put i x).n=H.n:=rfl
theorem Hp.put_len (x:Option Blk) (i:Nat) (hl:H.n=H.bs.length):(H.put i x).n=(H.put i x).bs.length:=by simp[Hp.put,hl]
theorem Hp.push_len (k:Blk) (hl:H.n=H.bs.length):(H.push k).n=(H.push k).bs.length:=by simp[Hp.push,hl]
theorem Ext.heap {w':World} (h:w'.heap=w.heap):Ext ρ E w ρ E w':=
 ⟨fun _ _ h=>h,fun _ h=>h,fun _ _=>by rw[h],fun _ _ c _ _ _ hc=>⟨c,by rw[h];exact hc,rfl⟩,by rw[h];exact Nat.le_refl _⟩
theorem Inv.heap {w':World} (inv:Inv lo w0 ρ E H w) (h:w'.heap=w.heap) (hio:SameIO w w':=by exact⟨rfl,rfl,rfl⟩):Inv lo w0 ρ E H w':=
 {len:=inv.len,dom:=inv.dom,blk:=fun i k b hk hb=>(inv.blk i k b hk hb).mono (Ext.heap h) (by rw[h]),inj:=inv.inj,notE:=inv.notE,
  bd:=fun i b hb=>by rw[h];exact inv.bd i b hb,ebd:=fun b hb=>by rw[h];exact inv.ebd b hb,lole:=by rw[h];exact inv.lole,old:=fun b hb=>by rw[h];exact inv.old b hb,io:=inv.io.trans hio,gl:=gl_mono (ρ:=ρ) rfl (Ext.heap h) inv.gl}
def upd (ρ:Nat→Option Nat) (i b:Nat):Nat→Option Nat:=fun j=>if j=i then some b else ρ j
theorem Ext.grow {w':World} {ρ':Nat→Option Nat} {E':Nat→Prop} (hmap:∀i b,ρ i=some b→ρ' i=some b) (hext:∀b,E b→E' b)
 (hbd:∀i b,ρ i=some b→b<w.heap.size) (hebd:∀b,E b→b<w.heap.size) (hk:∀b,b<w.heap.size→w'.heap[b]? = w.heap[b]?) (hsz:w.heap.size≤w'.heap.size):Ext ρ E w ρ' E' w':=
 ⟨hmap,hext,fun b hb=>hk b (hebd b hb),fun i b c _ _ hb hc=>⟨c,(hk b (hbd i b hb)).trans hc,rfl⟩,hsz⟩
theorem Inv.push {w':World} {o:Obj} (inv:Inv lo w0 ρ E H w) (hw:w'.heap=w.heap.push o) (hio:SameIO w w') (k:Blk)
 (hk:∀ρ' E' w',Ext ρ E w ρ' E' w'→w'.heap[w.heap.size]? = some o→BlkRep ρ' E' w' k w.heap.size):
 Inv lo w0 (upd ρ H.n w.heap.size) E (H.push k) w'∧Ext ρ E w (upd ρ H.n w.heap.size) E w':=by
 have hold:∀b,b<w.heap.size→w'.heap[b]? = w.heap[b]? :=fun b hb=>by rw[hw,Array.getElem?_push_lt (by omega)];simp[hb]
 have hnew:w'.heap[w.heap.size]? = some o:=by rw[hw];simp
 have hsz:w'.heap.size=w.heap.size+1:=by rw[hw];simp
 have hmap:∀i b,ρ i=some b→upd ρ H.n w.heap.size i=some b:=fun i b hb=>by
  have:=inv.dom i b hb
  simp only[upd];rw[if_neg (by omega)];exact hb
 have ext:Ext ρ E w (upd ρ H.n w.heap.size) E w':=Ext.grow hmap (fun _ h=>h) (fun i b hb=>(inv.bd i b hb).2) inv.ebd hold (by omega)
 have hcase:∀i b,upd ρ H.n w.heap.size i=some b→(i=H.n∧b=w.heap.size)∨(i<H.n∧ρ i=some b):=fun i b hb=>by
  simp only[upd]at hb
  split at hb
  ·rename_i hi;exact .inl ⟨hi,by simpa using hb.symm⟩
  ·exact .inr ⟨inv.dom i b hb,hb⟩
 refine⟨{len:=Hp.push_len k inv.len,dom:= ?_,blk:= ?_,inj:= ?_,notE:= ?_,bd:= ?_,ebd:= ?_,lole:= ?_,old:= ?_,io:=inv.io.trans hio,gl:=gl_mono rfl ext inv.gl},ext⟩
 ·intro i b hb
  show i<H.n+1
  rcases hcase i b hb with⟨h,_⟩|⟨h,_⟩<;>omega
 ·intro i k' b hk' hb
  rcases hcase i b hb with⟨rfl,rfl⟩|⟨hi,hb'⟩
  ·rw[Hp.get_push_eq k]at hk'
   cases hk'
   exact hk _ _ _ ext hnew
  ·rw[Hp.get_push_lt k hi]at hk'
   exact(inv.blk i k' b hk' hb').mono ext (hold b (inv.bd i b hb').2)
 ·intro i j k1 k2 b h1 h2 hb1 hb2
  rcases hcase i b hb1 with⟨rfl,rfl⟩|⟨hi,hb1'⟩<;>rcases hcase j _ hb2 with⟨rfl,e⟩|⟨hj,hb2'⟩
  ·rfl
  ·have:=(inv.bd j _ hb2').2;omega
  ·have:=(inv.bd i _ hb1').2;omega
  ·rw[Hp.get_push_lt k hi]at h1
   rw[Hp.get_push_lt k hj]at h2
   exact inv.inj i j k1 k2 b h1 h2 hb1' hb2'
 ·intro i k1 b h1 hb1 he
  rcases hcase i b hb1 with⟨rfl,rfl⟩|⟨hi,hb1'⟩
  ·have:=inv.ebd _ he;omega
  ·rw[Hp.get_push_lt k hi]at h1
   exact inv.notE i k1 b h1 hb1' he
 ·intro i b hb
  rcases hcase i b hb with⟨rfl,rfl⟩|⟨hi,hb'⟩
  ·exact⟨fun h=>by have:=inv.lole _ h;omega,by omega⟩
  ·have:=inv.bd i b hb';exact⟨this.1,by omega⟩
 ·intro b hb;have:=inv.ebd b hb;omega
 ·intro b hb;have:=inv.lole b hb;omega
 ·intro b hb;rw[hold b (inv.lole b hb)];exact inv.old b hb
theorem Inv.change {w':World} (inv:Inv lo w0 ρ E H w) (i b:Nat) (k k':Blk) (hk:H.get i=some k) (hb:ρ i=some b)
 (hold:∀j,j≠b→w'.heap[j]? = w.heap[j]?) (hsz:w'.heap.size=w.heap.size)
 (hcs:∀c T f,w.heap[b]? = some (.cells c T f)→∃c',w'.heap[b]? = some (.cells c' T f)∧c'.size=c.size)
 (hnew:Ext ρ E w ρ E w'→BlkRep ρ E w' k' b) (hio:SameIO w w':=by exact⟨rfl,rfl,rfl⟩):
 Inv lo w0 ρ E (H.put i (some k')) w'∧Ext ρ E w ρ E w':=by
 have hne:∀b',E b'→b'≠b:=fun b' he e=>inv.notE i k b hk hb (e▸he)
 have ext:Ext ρ E w ρ E w':=by
  refine⟨fun _ _ h=>h,fun _ h=>h,fun b' he=>hold b' (hne b' he),fun j b' c T f _ hc=> ?_,by omega⟩
  by_cases e:b'=b
  ·subst e;exact hcs c T f hc
  ·exact⟨c,(hold b' e).trans hc,rfl⟩
 have hi:=Hp.get_lt hk
 refine⟨{len:=Hp.put_len _ _ inv.len,dom:=inv.dom,blk:= ?_,inj:= ?_,notE:= ?_,bd:= ?_,ebd:= ?_,lole:= ?_,old:= ?_,io:=inv.io.trans hio,gl:=gl_mono rfl ext inv.gl},ext⟩
 ·intro j k1 b' h1 hb'
  by_cases e:i=j
  ·subst e
   rw[Hp.get_put_eq _ hi inv.len]at h1
   cases h1
   rw[hb]at hb';cases hb'
   exact hnew ext
  ·rw[Hp.get_put_ne _ e hi]at h1
   have hbb:b'≠b:=fun e'=>e (inv.inj i j k k1 b hk h1 hb (e'▸hb'))
   exact(inv.blk j k1 b' h1 hb').mono ext (hold b' hbb)
 ·intro j j' k1 k2 b' h1 h2 hb1 hb2
  have g:∀j k1,(H.put i (some k')).get j=some k1→∃k0,H.get j=some k0:=fun j k1 h=>by
   by_cases e:i=j
   ·subst e;exact⟨k,hk⟩
   ·rw[Hp.get_put_ne _ e hi]at h;exact⟨k1,h⟩
  obtain⟨a1,ha1⟩:=g j k1 h1
  obtain⟨a2,ha2⟩:=g j' k2 h2
  exact inv.inj j j' a1 a2 b' ha1 ha2 hb1 hb2
 ·intro j k1 b' h1 hb1
  by_cases e:i=j
  ·subst e;exact inv.notE i k b' hk hb1
  ·rw[Hp.get_put_ne _ e hi]at h1;exact inv.notE j k1 b' h1 hb1
 ·intro j b' hb';rw[hsz];exact inv.bd j b' hb'
 ·intro b' he;rw[hsz];exact inv.ebd b' he
 ·rw[hsz];exact inv.lole
 ·intro b' hb'
  have:=(inv.bd i b hb).1
  rw[hold b' (fun e=>this (e▸hb'))];exact inv.old b' hb'
theorem Inv.drop (inv:Inv lo w0 ρ E H w) (i:Nat) (hi:i<H.n):Inv lo w0 ρ E (H.put i none) w:=by
 have g:∀j k1,(H.put i none).get j=some k1→H.get j=some k1:=fun j k1 h=>by
  by_cases e:i=j
  ·subst e;rw[Hp.get_put_eq _ hi inv.len]at h;cases h
  ·rw[Hp.get_put_ne _ e hi]at h;exact h
 exact{len:=Hp.put_len _ _ inv.len,dom:=inv.dom,blk:=fun j k b h hb=>inv.blk j k b (g j k h) hb,inj:=fun j j' k k' b h h'=>inv.inj j j' k k' b (g j k h) (g j' k' h'),
       notE:=fun j k b h=>inv.notE j k b (g j k h),bd:=inv.bd,ebd:=inv.ebd,lole:=inv.lole,old:=inv.old,io:=inv.io,gl:=gl_mono (ρ:=ρ) (H:=H) rfl Ext.refl inv.gl}
theorem getB_get {i:Nat} {cs:List AV} (h:getB H i=some cs):∃k,H.get i=some k∧∀ρ E w b,BlkRep ρ E w k b→BlkRep ρ E w (.cells cs) b:=by
 unfold getB at h
 split at h
 ·rename_i cs' he;cases h;exact⟨_,he,fun _ _ _ _ r=>r⟩
 ·rename_i T d he;cases h;exact⟨_,he,fun _ _ _ _ r=>r.toCells⟩
 ·cases h
theorem getB_lt {i:Nat} {cs:List AV} (h:getB H i=some cs):i<H.n:=by
 obtain⟨k,hk,_⟩:=getB_get h
 exact Hp.get_lt hk
theorem getM_get {i:Nat} {es:List (Value×AV)} (h:getM H i=some es):H.get i=some (.map es):=by
 unfold getM at h
 split at h
 ·rename_i cs' he;cases h;exact he
 ·cases h
theorem Inv.cells (inv:Inv lo w0 ρ E H w) {i b:Nat} {cs:List AV} (h:getB H i=some cs) (hb:ρ i=some b):
 ∃c T,w.heap[b]? = some (.cells c T (0,0))∧cs.length≤c.size∧RepL ρ E w cs (c.toList.take cs.length):=by
 obtain⟨k,hk,hk'⟩:=getB_get h
 exact hk' _ _ _ _ (inv.blk i k b hk hb)
theorem one_cell {x:AV} {v:Value} (h:one x=true) (r:Rep ρ E w x v):v.oneCell'=true:=by
 cases x<;>simp only[Rep]at r
 case undef=>simp[one]at h
 case sc u=>subst r;cases v<;>first|rfl|simp[one]at h
 case ptr=>obtain⟨_,_,rfl⟩:=r;rfl
 case eptr=>obtain⟨_,_,rfl,_⟩:=r;rfl
 case sl=>obtain⟨_,_,_,rfl,_⟩:=r;rfl
 case esl=>obtain⟨_,_,rfl,_⟩:=r;rfl
 case map=>obtain⟨_,_,rfl⟩:=r;rfl
 case emap=>obtain⟨_,_,_,rfl,_⟩:=r;rfl
 case func=>obtain⟨_,_,rfl,_⟩:=r;rfl
 case agg=>simp[one]at h
 case tup=>simp[one]at h
 case ui=>subst r;rfl
 case ub=>subst r;rfl
 case us=>subst r;rfl
 case rows=>obtain⟨_,_,rfl,_⟩:=r;rfl
 case dat=>simp[one]at h
 case edat=>obtain⟨_,_,_,rfl,_⟩:=r;rfl
 case rowz=>obtain⟨_,_,_,_,rfl⟩:=r;rfl
 case osl=>obtain⟨_,_,_,rfl,_⟩:=r;rfl
 case oel=>obtain⟨_,_,_,rfl⟩:=r;rfl
 case anyI=>obtain⟨_,rfl⟩:=r;rfl
 case nx=>simp[one]at h
 case e0=>obtain⟨_,rfl⟩:=r;rfl
theorem cells_of_one {v:Value} (h:v.oneCell'=true):v.cells = #[v]:=by
 cases v<;>first|rfl|simp[Value.oneCell']at h
theorem cellsOf_rep {x:AV} {v:Value} {cs:List AV} (h:cellsOf x=some cs) (r:Rep ρ E w x v):RepL ρ E w cs v.cells.toList:=by
 by_cases hy:∃T d,x = .dat T d
 ·obtain⟨T,d,rfl⟩:=hy
  simp only[cellsOf,Option.some.injEq]at h
  subst h
  have r':=dat_agg r
  simp only[Rep]at r'
  obtain⟨xs,rfl,hr⟩:=r'
  exact hr
 by_cases hx:∃es,x = .agg es
 ·obtain⟨es,rfl⟩:=hx
  simp only[cellsOf,Option.some.injEq]at h
  subst h
  simp only[Rep]at r
  obtain⟨xs,rfl,hr⟩:=r
  exact hr
 ·have h':(if one x=true then some [x]else none)=some cs:=by
   cases x<;>first|exact h|exact(hx ⟨_,rfl⟩).elim|exact(hy ⟨_,_,rfl⟩).elim
  by_cases ho:one x=true
  ·rw[if_pos ho]at h'
   cases h'
   rw[cells_of_one (one_cell ho r)]
   exact RepL.cons r RepL.nil
  ·rw[if_neg ho]at h';cases h'
end
end Go.AM
