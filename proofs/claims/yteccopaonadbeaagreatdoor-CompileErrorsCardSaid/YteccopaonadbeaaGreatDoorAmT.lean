/-
  Calls by contract: the callee has the blocks that it is handed; all other blocks of the caller stay as they are.
-/
import Derived.Test.YteccopaonadbeaaGreatDoorAmS
set_option linter.unusedVariables false
set_option linter.unusedSimpArgs false
namespace Go.AM
def bkM (K n:Nat) (pi:List (Nat×Nat)) (H1:Hp) (j:Nat):Option Nat:=
 bif Nat.blt j K then(fw pi j).bind fun i=>bif (H1.get i).isSome then some i else none else some (n+(j-K))
def outAt (K:Nat) (pi:List (Nat×Nat)) (H1 Hc:Hp) (i:Nat):Option Blk:=
 bif Nat.blt i H1.n then(match bw pi i with
  |some j=>bif (H1.get i).isSome then(Hc.get j).map (renB (bkM K H1.n pi H1))else none
  |none=>H1.get i)
 else(Hc.get (K+(i-H1.n))).map (renB (bkM K H1.n pi H1))
def outBs (K:Nat) (pi:List (Nat×Nat)) (H1 Hc:Hp):Nat→List (Option Blk)
 |0=>[]
 |t+1=>outAt K pi H1 Hc t::outBs K pi H1 Hc t
def outHp (K:Nat) (pi:List (Nat×Nat)) (H1 Hc:Hp):Hp:=⟨H1.n+(Hc.n-K),outBs K pi H1 Hc (H1.n+(Hc.n-K)),H1.gl⟩
theorem outBs_len (K:Nat) (pi:List (Nat×Nat)) (H1 Hc:Hp):∀t,(outBs K pi H1 Hc t).length=t
 |0=>rfl
 |t+1=>by simp[outBs,outBs_len K pi H1 Hc t]
theorem outBs_get (K:Nat) (pi:List (Nat×Nat)) (H1 Hc:Hp):∀t j,j<t→(outBs K pi H1 Hc t)[t-1-j]? = some (outAt K pi H1 Hc j)
 |0,j,h=>by omega
 |t+1,j,h=>by
  by_cases e:j=t
  ·subst e;simp[outBs]
  ·have ih:=outBs_get K pi H1 Hc t j (by omega)
   rw[show t+1-1-j=(t-1-j)+1 by omega]
   simpa[outBs]using ih
theorem outHp_get {K:Nat} {pi:List (Nat×Nat)} {H1 Hc:Hp} {i:Nat} {k:Blk} (h:(outHp K pi H1 Hc).get i=some k):i<H1.n+(Hc.n-K)∧outAt K pi H1 Hc i=some k:=by
 have hi:i<H1.n+(Hc.n-K):=Hp.get_lt h
 have hb:Nat.blt i (H1.n+(Hc.n-K))=true:=by rw[Nat.blt_eq];exact hi
 simp only[Hp.get,outHp,hb,cond_true]at h
 rw[outBs_get _ _ _ _ _ i hi,Option.join_some]at h
 exact⟨hi,h⟩
noncomputable def bkRho (pi:List (Nat×Nat)) (H1:Hp) (K:Nat) (ρ ρ2:Nat→Option Nat) (i:Nat):Option Nat:=
 if i<H1.n then(match ρ i with
  |some b=>some b
  |none=>(bw pi i).bind fun j=>bif (H1.get i).isSome then ρ2 j else none)
 else ρ2 (K+(i-H1.n))
theorem frame_call {P:Program} {f:FuncId} {S:FunS} {q:List D→Option (List D)} (hq:SoundF P f S q) {args:List AV} {H:Hp} {n:Nrm} (hn:nrm 0 0 S.fs S.hs args H=some n) (ho:allB n.ob=true) {r:List D} (hr:q (n.p++n.s)=some r):
 Ok P f args H (renA (bkM S.hs.length n.H.n n.pi n.H) renD (resF S n.p (bdL r))) (outHp S.hs.length n.pi n.H (heapR S n.p (bdL r))):=by
 intro lo w0 ρ E w vs inv ra
 obtain⟨hg,fr1,hz,hzo,hH,ok,hle⟩:=nrm_some hn ho
 obtain⟨inv1,hE1⟩:=inv.freeze (tchFs H S.fs (maskT S.fs args))
 rw[← hH]at inv1
 obtain⟨E1,hE1e⟩:∃E1,E1=Efz ρ E H (tchFs H S.fs (maskT S.fs args)):=⟨_,rfl⟩
 have hE1i:∀b,E b→E1 b:=fun b h=>by rw[hE1e];exact .inl h
 have hEx:Ext ρ E w ρ E1 w:=by rw[hE1e];exact Efz.ext
 have ra1:RepL ρ E1 w fr1 vs.toList:=by
  have ram:=(maskT_le S.fs args).repL ra
  obtain⟨hl,hrep⟩:=frzFs_rep inv hE1i S.fs (maskT S.fs args) fr1 hz (by rw[hE1e];exact Efz.tin) hzo
  refine RepL.of (by rw[← hl,ram.length]) fun t y v hy hv=> ?_
  obtain⟨x,hx,h1⟩:=hrep t y hy
  obtain⟨v',hv',h2⟩:=ram.get hx
  rw[hv]at hv';cases hv'
  exact h1 v h2
 rw[← hE1e]at inv1 hE1
 obtain⟨H1,hH1⟩:∃H1,H1=n.H:=⟨_,rfl⟩
 obtain⟨pi,hpi⟩:∃pi,pi=n.pi:=⟨_,rfl⟩
 obtain⟨K,hK⟩:∃K,K=S.hs.length:=⟨_,rfl⟩
 have hgl:H1.gl=true:=by rw[hH1,hH,kill_gl,hg]
 obtain⟨f1,f2⟩:=hle (σp:=bdL n.p) (σs:=bdL n.s) (js:=0) (bdL_ats n.p) (bdL_ats n.s)
 rw[← hH1, ← hpi]at f1 f2
 rw[← hH1]at inv1
 rw[← hpi, ← hK]at ok
 rw[← hK]at f2
 have inv2:Inv lo w0 (renRho 0 pi H1 ρ) E1 (heapF S n.p n.s) w:=by
  have:=inv1.ren ok f2
  rw[hgl]at this
  unfold heapF mkHp
  rw[← hK];exact this
 have ra2:RepL (renRho 0 pi H1 ρ) E1 w (argF S n.p n.s) vs.toList:=by
  refine f1.repL ?_
  exact renL_repG (fun _ _ h=>renM_rho ok h) ra1
 rw[← hH1, ← hpi, ← hK]
 have h1some:∀j b,renRho 0 pi H1 ρ j=some b→∃i,(j,i)∈pi∧(H1.get i).isSome=true∧ρ i=some b:=by
  intro j b h
  rcases renRho_some j b h with⟨h,_⟩|⟨_,i,h1,h2,h3⟩
  ·omega
  ·exact⟨i,fw_mem h1,h2,h3⟩
 have inv3:Inv (fun b=>b<w.heap.size∧¬∃j,renRho 0 pi H1 ρ j=some b) w (renRho 0 pi H1 ρ) E1 (heapF S n.p n.s) w:=
  {len:=inv2.len,dom:=inv2.dom,blk:=inv2.blk,inj:=inv2.inj,notE:=inv2.notE
   bd:=fun j b hb=>⟨fun h=>h.2 ⟨j,hb⟩,(inv2.bd j b hb).2⟩
   ebd:=inv2.ebd,lole:=fun b h=>h.1,old:=fun _ _=>rfl,io:=⟨rfl,rfl,rfl⟩,gl:=inv2.gl}
 refine(hq n.p n.s r (nrm_len hn) hr _ w _ E1 w vs inv3 ra2).mono ?_
 rintro e w' ⟨u,ρ2,E2,rfl,inv4,reach,rep⟩
 have hlo:∀b,lo b→b<w.heap.size∧¬∃j,renRho 0 pi H1 ρ j=some b:=fun b hb=>⟨inv1.lole b hb,fun⟨j,hj⟩=>by
  obtain⟨i,_,_,h3⟩:=h1some j b hj
  exact(inv1.bd i b h3).1 hb⟩
 have hbound:∀i j,(j,i)∈pi→(H1.get i).isSome=true→bkRho pi H1 K ρ ρ2 i=ρ2 j:=by
  intro i j hm hl
  have hi:i<H1.n:=by
   cases hgi:H1.get i with
   |none=>rw[hgi]at hl;cases hl
   |some k=>exact Hp.get_lt hgi
  unfold bkRho
  rw[if_pos hi]
  cases hρ:ρ i with
  |some b=>
   have:renRho 0 pi H1 ρ j=some b:=by
    unfold renRho
    rw[if_neg (Nat.not_lt_zero _),ok.fw j i hm]
    simp only[Option.bind_some,hl,cond_true,hρ]
   exact(reach.ext.map j b this).symm
  |none=>simp only[ok.bw j i hm,Option.bind_some,hl,cond_true]
 have hm':∀j i,bkM K H1.n pi H1 j=some i→bkRho pi H1 K ρ ρ2 i=ρ2 j:=by
  intro j i h
  unfold bkM at h
  cases hj:Nat.blt j K with
  |true=>
   simp only[hj,cond_true]at h
   obtain⟨i',h1,h2⟩:=Option.bind_eq_some_iff.1 h
   cases hl:(H1.get i').isSome with
   |false=>simp[hl]at h2
   |true=>
    simp only[hl,cond_true,Option.some.injEq]at h2
    subst h2
    exact hbound i' j (fw_mem h1) hl
  |false=>
   simp only[hj,cond_false,Option.some.injEq]at h
   subst h
   have hjK:K≤j:=by
    have:¬j<K:=by rw[← Nat.blt_eq,hj];simp
    omega
   unfold bkRho
   rw[if_neg (by omega)]
   congr 1;omega
 have hmap:∀i b,ρ i=some b→bkRho pi H1 K ρ ρ2 i=some b:=by
  intro i b hb
  unfold bkRho
  rw[if_pos (inv1.dom i b hb),hb]
 have hsome:∀i b,bkRho pi H1 K ρ ρ2 i=some b→(i<H1.n∧ρ i=some b)∨∃j,ρ2 j=some b∧(n=n→(i<H1.n∨j=K+(i-H1.n))):=by
  intro i b hb
  unfold bkRho at hb
  split at hb
  ·rename_i hi
   split at hb
   ·rename_i b' hb';cases hb;exact .inl ⟨hi,hb'⟩
   ·obtain⟨j,_,h2⟩:=Option.bind_eq_some_iff.1 hb
    cases hl:(H1.get i).isSome with
    |false=>simp[hl]at h2
    |true=>simp only[hl,cond_true]at h2;exact .inr ⟨j,h2,fun _=> .inl hi⟩
  ·exact .inr ⟨_,hb,fun _=> .inr rfl⟩
 have hbd2:∀j b,ρ2 j=some b→¬lo b:=by
  intro j b hb h
  exact(inv4.bd j b hb).1 (hlo b h)
 have hcase:∀i k,(outHp K pi H1 (heapR S n.p (bdL r))).get i=some k→
  (bw pi i=none∧H1.get i=some k∧i<H1.n)∨(∃j k2,(heapR S n.p (bdL r)).get j=some k2∧k=renB (bkM K H1.n pi H1) k2∧bkRho pi H1 K ρ ρ2 i=ρ2 j∧((i<H1.n∧(j,i)∈pi)∨(H1.n≤i∧j=K+(i-H1.n)))):=by
  intro i k hk
  obtain⟨_,hk⟩:=outHp_get hk
  unfold outAt at hk
  cases hi:Nat.blt i H1.n with
  |true=>
   simp only[hi,cond_true]at hk
   rw[Nat.blt_eq]at hi
   split at hk
   ·rename_i j hj
    cases hl:(H1.get i).isSome with
    |false=>simp[hl]at hk
    |true=>
     simp only[hl,cond_true]at hk
     obtain⟨k2,h1,h2⟩:=Option.map_eq_some_iff.1 hk
     exact .inr ⟨j,k2,h1,h2.symm,hbound i j (bw_mem hj) hl, .inl ⟨hi,bw_mem hj⟩⟩
   ·rename_i hj;exact .inl ⟨hj,hk,hi⟩
  |false=>
   simp only[hi,cond_false]at hk
   have hi':H1.n≤i:=by
    have:¬i<H1.n:=by rw[← Nat.blt_eq,hi];simp
    omega
   obtain⟨k2,h1,h2⟩:=Option.map_eq_some_iff.1 hk
   refine .inr ⟨_,k2,h1,h2.symm,?_, .inr ⟨hi',rfl⟩⟩
   unfold bkRho
   rw[if_neg (by omega)]
 have hkeep:∀i k b,bw pi i=none→H1.get i=some k→i<H1.n→bkRho pi H1 K ρ ρ2 i=some b→ρ i=some b∧(b<w.heap.size∧¬∃j,renRho 0 pi H1 ρ j=some b):=by
  intro i k b hb hk hi hρ
  have h1:ρ i=some b:=by
   unfold bkRho at hρ
   rw[if_pos hi]at hρ
   split at hρ
   ·rename_i b' hb';cases hρ;exact hb'
   ·rw[hb]at hρ;simp at hρ
  refine⟨h1,(inv1.bd i b h1).2,fun⟨j,hj⟩=> ?_⟩
  obtain⟨i',h2,h3,h4⟩:=h1some j b hj
  cases hgi:H1.get i' with
  |none=>rw[hgi]at h3;cases h3
  |some k'=>
   have:=inv1.inj i i' k k' b hk hgi h1 h4
   subst this
   rw[ok.bw j i h2]at hb;cases hb
 have ext3:Ext ρ E1 w (bkRho pi H1 K ρ ρ2) E2 w':=⟨hmap,reach.ext.ext,reach.ext.same,fun i b c T f hb hc=>by
  by_cases hh:∃j,renRho 0 pi H1 ρ j=some b
  ·obtain⟨j,hj⟩:=hh;exact reach.ext.size j b c T f hj hc
  ·exact⟨c,(inv4.old b ⟨(inv1.bd i b hb).2,hh⟩).trans hc,rfl⟩,reach.ext.bigger⟩
 refine⟨u,bkRho pi H1 K ρ ρ2,E2,rfl,?_,⟨hEx.trans ext3,fun b hb=> ?_⟩,renA_repG hm' _ _ _ rep⟩
 ·exact{len:=by show H1.n+_=(outBs _ _ _ _ _).length;rw[outBs_len]
        dom:=fun i b hb=>by
         show i<H1.n+_
         unfold bkRho at hb
         split at hb
         ·omega
         ·have:=inv4.dom _ b hb
          omega
        blk:=fun i k b hk hb=>by
         rcases hcase i k hk with⟨h1,h2,h3⟩|⟨j,k2,h1,rfl,h3,_⟩
         ·obtain⟨h4,h5⟩:=hkeep i k b h1 h2 h3 hb
          exact(inv1.blk i k b h2 h4).mono ext3 (inv4.old b h5)
         ·exact renB_repG hm' (inv4.blk j k2 b h1 (h3▸hb))
        inj:=fun i i' k k' b hk hk' hb hb'=>by
         rcases hcase i k hk with⟨h1,h2,h3⟩|⟨j,k2,h1,_,h3,h4⟩<;>rcases hcase i' k' hk' with⟨h1',h2',h3'⟩|⟨j',k2',h1',_,h3',h4'⟩
         ·exact inv1.inj i i' k k' b h2 h2' (hkeep i k b h1 h2 h3 hb).1 (hkeep i' k' b h1' h2' h3' hb').1
         ·exact absurd (hkeep i k b h1 h2 h3 hb).2 (inv4.bd j' b (h3'▸hb')).1
         ·exact absurd (hkeep i' k' b h1' h2' h3' hb').2 (inv4.bd j b (h3▸hb)).1
         ·have:=inv4.inj j j' k2 k2' b h1 h1' (h3▸hb) (h3'▸hb')
          subst this
          rcases h4 with⟨_,h4⟩|⟨h4,h5⟩<;>rcases h4' with⟨_,h4'⟩|⟨h4',h5'⟩
          ·have e1:=ok.fw j i h4
           have e2:=ok.fw j i' h4'
           rw[e1]at e2;cases e2;rfl
          ·have:=ok.lt j i h4;omega
          ·have:=ok.lt j i' h4';omega
          ·omega
        notE:=fun i k b hk hb he=>by
         rcases hcase i k hk with⟨h1,h2,h3⟩|⟨j,k2,h1,_,h3,_⟩
         ·obtain⟨h4,h5⟩:=hkeep i k b h1 h2 h3 hb
          rcases reach.new b he with h|h
          ·exact inv1.notE i k b h2 h4 h
          ·exact h h5
         ·exact inv4.notE j k2 b h1 (h3▸hb) he
        bd:=fun i b hb=>by
         rcases hsome i b hb with⟨_,h⟩|⟨j,h,_⟩
         ·exact⟨(inv1.bd i b h).1,Nat.lt_of_lt_of_le (inv1.bd i b h).2 reach.ext.bigger⟩
         ·exact⟨hbd2 j b h,(inv4.bd j b h).2⟩
        ebd:=inv4.ebd
        lole:=fun b hb=>Nat.lt_of_lt_of_le (inv1.lole b hb) reach.ext.bigger
        old:=fun b hb=>(inv4.old b (hlo b hb)).trans (inv1.old b hb)
        io:=inv1.io.trans inv4.io,gl:=gl_mono rfl ext3 inv1.gl}
 ·rcases reach.new b hb with h|h
  ·exact hE1 b h
  ·exact .inr fun hl=>h (hlo b hl)
noncomputable def ctF (S:FunS) (q:List D→Option (List D)) (args:List AV) (H:Hp):Option (AV×Hp):=
 match nrm 0 0 S.fs S.hs args H with
 |some n=>some (renA (bkM S.hs.length n.H.n n.pi n.H) renD (resF S n.p (bdQ (q (n.p++n.s)))),outHp S.hs.length n.pi n.H (heapR S n.p (bdQ (q (n.p++n.s)))))
 |none=>none
noncomputable def ctO (S:FunS) (q:List D→Option (List D)) (args:List AV) (H:Hp):List Bool:=
 match nrm 0 0 S.fs S.hs args H with
 |some n=>n.ob ++ [qsome (q (n.p++n.s))]
 |none=>[]
noncomputable def Tb.addF (tb:Tb) (f:FuncId) (S:FunS) (q:List D→Option (List D)):Tb:=tb.add f (ctF S q) (ctO S q)
section
variable {e:Env} {tb:Tb}
theorem TbOk.addF (h:TbOk e tb) {f:FuncId} {S:FunS} {q:List D→Option (List D)} (hf:(e.fn f).isSome=true) (hq:SoundF e.P f S q):TbOk e (tb.addF f S q):=by
 refine h.add hf fun args H v H' hv ho=> ?_
 unfold ctF at hv
 unfold ctO at ho
 split at hv
 ·rename_i n hn
  rw[hn]at ho
  simp only[Option.some.injEq,Prod.mk.injEq]at hv
  obtain⟨rfl,rfl⟩:=hv
  obtain⟨o1,o3⟩:=allB_both ho
  obtain⟨r,hr⟩:=qsome_some (allB_one o3)
  rw[hr,bdQ_some]
  exact frame_call hq hn o1 hr
 ·cases hv
end
end Go.AM
