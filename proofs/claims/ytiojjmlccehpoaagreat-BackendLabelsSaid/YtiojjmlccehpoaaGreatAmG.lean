/-
  Regions that draw their order: operations that make a block; heaps that differ by new blocks; operands.
-/
import Derived.Test.YtiojjmlccehpoaaGreatAmF
set_option linter.unusedSimpArgs false
set_option linter.unusedVariables false
namespace Go.AM
def HLe (H H':Hp):Prop:=(∀i k,H.get i=some k->H'.get i=some k)∧H'.gl=H.gl
theorem HLe.glob {H H':Hp} (h:HLe H H') (g:Nat):H'.glob g=H.glob g:=by unfold Hp.glob;rw[h.2]
theorem HLe.fresh {H H':Hp} (h:HLe H H'):H'.fresh=H.fresh:=by unfold Hp.fresh;rw[h.2]
theorem HLe.getB {H H':Hp} (h:HLe H H') {i:Nat} {cs:List AV} (hg:getB H i=some cs):AM.getB H' i=some cs:=by
 obtain⟨k,hk,_⟩:=dZ hg;have:=h.1 i k hk;simp only[AM.getB,this];simpa only[AM.getB,hk]using hg
theorem qJ {H:Hp} {i:Nat} (hg:getB H i=none):datB H i=none:=by
 unfold AM.getB at hg;unfold datB;split
 ·rename_i T d hk;rw[hk]at hg;cases hg
 ·rfl
theorem HLe.datB {H H':Hp} (h:HLe H H') {i:Nat} {cs:List AV} (hg:AM.getB H i=some cs):AM.datB H' i=AM.datB H i:=by
 obtain⟨k,hk,_⟩:=dZ hg;have:=h.1 i k hk;simp only[AM.datB,this,hk]
theorem HLe.getM {H H':Hp} (h:HLe H H') {i:Nat} {es:List (Value×AV)} (hg:getM H i=some es):AM.getM H' i=some es:=by
 have:=h.1 i _ (oO hg);simp[AM.getM,this]
theorem HLe.getL {H H':Hp} (h:HLe H H') {i:Nat} {q:TypeId×D} (hg:AM.getL H i=some q):AM.getL H' i=some q:=by
 have:=h.1 i _ (dI hg);simp[AM.getL,this]
theorem HLe.getV {H H':Hp} (h:HLe H H') {i:Nat} {T:TypeId} {q:TypeId×D} (hg:AM.getV H i T=some q):AM.getV H' i T=some q:=by
 unfold AM.getV at hg ⊢;cases hk:H.get i with
 |none=>rw[hk]at hg;cases hg
 |some k=>rw[h.1 i _ hk];rw[hk]at hg;exact hg
theorem ld1_le {H H':Hp} (h:HLe H H') {x v:AV} (hl:ld1 H x=some v):ld1 H' x=some v:=by
 cases x with
 |ptr i off=>
  simp only[ld1]at hl ⊢;cases hg:getB H i with
  |none=>simp[hg]at hl
  |some cs=>rw[h.getB hg];simpa[hg]using hl
 |oel i T n off=>
  simp only[ld1,Bb]at hl ⊢;cases hg:getV H i T with
  |none=>simp[hg]at hl
  |some q=>rw[h.getV hg];simpa[hg]using hl
 |sc v=>
  cases v with
  |pointer a=>
   cases a with
   |none=>exact hl
   |some a=>
    obtain⟨g,off,spot⟩:=a;cases spot with
    |some s=>exact hl
    |none=>simp only[ld1,h.glob]at hl ⊢;exact hl
  |_=>exact hl
 |_=>exact hl
theorem ldN_le {H H':Hp} (h:HLe H H') {n:Nat} {x v:AV} (hl:ldN H n x=some v):ldN H' n x=some v:=by
 cases x with
 |ptr i off=>
  simp only[ldN]at hl ⊢;cases hg:getB H i with
  |none=>simp[hg,sj,qJ hg,gm]at hl
  |some cs=>
   rw[h.getB hg];simp only[sj,h.datB hg];simpa[hg,sj]using hl
 |oel i T m off=>
  simp only[ldN]at hl ⊢;cases hg:getV H i T with
  |none=>simp[hg]at hl
  |some q=>rw[h.getV hg];simpa[hg]using hl
 |sc v=>
  cases v with
  |pointer a=>
   cases a with
   |none=>exact hl
   |some a=>
    obtain⟨g,off,spot⟩:=a;cases spot with
    |some s=>exact hl
    |none=>simp only[ldN,h.glob]at hl ⊢;exact hl
  |_=>exact hl
 |_=>exact hl
theorem TK {P:Program} {H H':Hp} (h:HLe H H') {T:TypeId} {x v:AV} (hl:eR P H T x=some v):eR P H' T x=some v:=by
 unfold eR at hl ⊢;cases ha:kt P T with
 |none=>simp[ha]at hl
 |some b=>
  cases b with
  |false=>simp only[ha]at hl ⊢;exact ld1_le h hl
  |true=>
   simp only[ha]at hl ⊢;cases hs:sz P T with
   |none=>simp[hs]at hl
   |some n=>simp only[hs,bc]at hl ⊢;exact ldN_le h hl
theorem gb {α β:Type} {f g:α->Option β} (h:∀x y,f x=some y->g x=some y):∀{xs:List α} {ys:List β},bE f xs=some ys->bE g xs=some ys
 | [],_,hm=>hm
 |x::xs,ys,hm=>by
  simp only[bE]at hm ⊢;cases hx:f x with
  |none=>simp[hx]at hm
  |some y=>
   cases hr:bE f xs with
   |none=>simp[hx,hr]at hm
   |some zs=>rw[h x y hx];simp[hx,hr]at hm;simp[gb h hr,hm]
theorem NY {H H':Hp} (h:HLe H H'):∀(n:Nat) (x y:AV),ck H n x=some y->ck H' n x=some y:=by
 intro n
 induction n with
 |zero=>intro x y hx;simp[ck]at hx
 |succ n ih=>
  intro x y hx;simp only[ck]at hx ⊢;cases x with
  |ptr i off=>
   replace hx:gm (nM H i off) ((getB H i).bind fun cs=>(bE (ck H n) (cs.drop off)).map .eptr)=some y:=hx
   show gm (nM H' i off) ((getB H' i).bind fun cs=>(bE (ck H' n) (cs.drop off)).map .eptr)=some y
   cases hg:getB H i with
   |none=>simp[hg,nM,qJ hg,gm]at hx
   |some cs=>
    have hd:nM H' i off=nM H i off:=by simp only[nM,h.datB hg]
    rw[hd];cases hdp:nM H i off with
    |some v=>rw[hdp]at hx;exact hx
    |none=>
     rw[hdp]at hx;simp only[gm]at hx ⊢;cases hm:bE (ck H n) (cs.drop off)with
     |none=>simp[hg,hm]at hx
     |some ys=>simp only[h.getB hg,bc,gb ih hm];simpa[hg,hm]using hx
  |sl i z off len=>
   cases hg:getB H i with
   |none=>simp[hg]at hx
   |some cs=>
    simp only[hg,h.getB hg,bc]at hx ⊢;split at hx
    ·rename_i hf;rw[if_pos hf];cases hm:bE (ck H n) ((cs.drop off).take (len*z))with
     |none=>simp[hm]at hx
     |some ys=>rw[gb ih hm];simpa[hm]using hx
    ·cases hx
  |map i=>
   cases hg:getM H i with
   |none=>simp[hg]at hx
   |some es=>
    cases hm:bE (fun e=>(ck H n e.2).map fun v=>(e.1,v)) es with
    |none=>simp[hg,hm]at hx
    |some ys=>
     have hm':bE (fun e=>(ck H' n e.2).map fun v=>(e.1,v)) es=some ys:=gb (fun e y he=>by
      cases hv:ck H n e.2 with
      |none=>simp[hv]at he
      |some v=>rw[ih _ _ hv];simpa[hv]using he) hm
     simp only[h.getM hg,bc,hm'];simpa[hg,hm]using hx
  |func f a b=>
   cases ha:bE (ck H n) a with
   |none=>simp[ha]at hx
   |some a'=>
    cases hb:bE (ck H n) b with
    |none=>simp[ha,hb]at hx
    |some b'=>simp only[gb ih ha,gb ih hb,bc];simpa[ha,hb]using hx
  |agg cs=>
   cases ha:bE (ck H n) cs with
   |none=>simp[ha]at hx
   |some a'=>simp only[gb ih ha];simpa[ha]using hx
  |tup cs=>
   cases ha:bE (ck H n) cs with
   |none=>simp[ha]at hx
   |some a'=>simp only[gb ih ha];simpa[ha]using hx
  |osl i T m=>
   cases hg:getL H i with
   |none=>simp[hg]at hx
   |some q=>simp only[h.getL hg];simpa[hg]using hx
  |_=>exact hx
theorem fJ {α β:Type} {f:α->Option β} {g g':α->List Bool} (h:∀x y,f x=some y->g' x=g x):∀{xs:List α} {ys:List β},bE f xs=some ys->xs.map g'=xs.map g
 | [],_,_=>rfl
 |x::xs,ys,hm=>by
  simp only[bE]at hm;cases hx:f x with
  |none=>simp[hx]at hm
  |some y=>
   cases hr:bE f xs with
   |none=>simp[hx,hr]at hm
   |some zs=>simp only[bW,h x y hx,fJ h hr]
def n8:AV->Bool
 | .undef=>true
 | .ui _ _=>true
 | .ub _=>true
 | .us _=>true
 | .rows _ _=>true
 |_=>false
theorem jU {c:TypeId->D->List AV} (hc:∀T d,∀z∈c T d,n8 z=true):∀(fs:List Field) (d:D) (j:Nat),∀z∈dO c d j fs,n8 z=true
 | [],_,_,z,hz=>by cases hz
 |f::fs,d,j,z,hz=>by
  simp only[dO,cV]at hz;exact hz.elim (hc _ _ z) (jU hc fs d (j+1) z)
theorem mb {c:D->List AV} (hc:∀d,∀z∈c d,n8 z=true):∀(m:Nat) (d:D) (j:Nat),∀z∈fD c d j m,n8 z=true
 |0,_,_,z,hz=>by cases hz
 |m+1,d,j,z,hz=>by
  simp only[fD,cV]at hz;exact hz.elim (hc _ z) (mb hc m d (j+1) z)
theorem kK:∀(n:Nat) (T:TypeId) (d:D),∀z∈bC n T d,n8 z=true
 |0,_,_,z,hz=>by cases hz
 |n+1,T,d,z,hz=>by
  simp only[bC]at hz;split at hz
  ·simp at hz;subst hz;rfl
  ·simp at hz;subst hz;rfl
  ·simp at hz;subst hz;rfl
  ·simp at hz;subst hz;rfl
  ·exact jU (kK n) _ _ _ z hz
  ·exact mb (fun d=>kK n _ d) _ _ _ z hz
  ·simp at hz;subst hz;rfl
theorem Gz {H H':Hp} (n:Nat) (z:AV) (h:n8 z=true):bu H' n z=bu H n z:=by
 cases n with
 |zero=>rfl
 |succ n=>cases z<;>simp only[n8]at h<;>first|rfl|(cases h;done)
theorem KG {H H':Hp} (h:HLe H H'):∀(n:Nat) (x y:AV),ck H n x=some y->bu H' n x=bu H n x:=by
 intro n
 induction n with
 |zero=>intro x y hx;simp[ck]at hx
 |succ n ih=>
  intro x y hx;simp only[ck]at hx;simp only[bu];cases x with
  |ptr i off=>
   replace hx:gm (nM H i off) ((getB H i).bind fun cs=>(bE (ck H n) (cs.drop off)).map .eptr)=some y:=hx
   cases hg:getB H i with
   |none=>simp[hg,nM,qJ hg,gm]at hx
   |some cs=>
    simp only[h.getB hg,hg];cases hm:bE (ck H n) (cs.drop off)with
    |some ys=>rw[fJ ih hm]
    |none=>
     have hd:∃T d,datB H i=some (T,d):=by
      cases hdp:nM H i off with
      |none=>rw[hdp,hg]at hx;simp[gm,hm]at hx
      |some v=>
       unfold nM at hdp;cases hdb:datB H i with
       |none=>rw[hdb]at hdp;cases hdp
       |some p=>exact⟨p.1,p.2,rfl⟩
     obtain⟨T,d,hd⟩:=hd;have hcs:cs=bC rowDepth T d:=by
      unfold datB at hd;split at hd
      ·rename_i T' d' hk;cases hd;simp[AM.getB,hk]at hg;exact hg.symm
      ·cases hd
     subst hcs;have key:∀z,z∈(bC rowDepth T d).drop off->bu H' n z=bu H n z:=fun z hz=>Gz n z (kK _ _ _ z (List.mem_of_mem_drop hz))
     exact congrArg List.flatten (lF key)
  |sl i z off len=>
   cases hg:getB H i with
   |none=>simp[hg]at hx
   |some cs=>
    simp only[hg,h.getB hg,bc]at hx ⊢;split at hx
    ·cases hm:bE (ck H n) ((cs.drop off).take (len*z))with
     |none=>simp[hm]at hx
     |some ys=>rw[fJ ih hm]
    ·cases hx
  |map i=>
   cases hg:getM H i with
   |none=>simp[hg]at hx
   |some es=>
    simp only[hg,h.getM hg,bc]at hx ⊢;cases hm:bE (fun e=>(ck H n e.2).map fun v=>(e.1,v)) es with
    |none=>simp[hm]at hx
    |some ys=>
     rw[fJ (g:=fun e=>bu H n e.2) (g':=fun e=>bu H' n e.2) (fun e y he=>by
      cases hv:ck H n e.2 with
      |none=>simp[hv]at he
      |some v=>exact ih _ _ hv) hm]
  |func f a b=>
   cases ha:bE (ck H n) a with
   |none=>simp[ha]at hx
   |some a'=>
    cases hb:bE (ck H n) b with
    |none=>simp[ha,hb]at hx
    |some b'=>simp only[fJ ih ha,fJ ih hb]
  |agg cs=>
   cases ha:bE (ck H n) cs with
   |none=>simp[ha]at hx
   |some a'=>simp only[fJ ih ha]
  |tup cs=>
   cases ha:bE (ck H n) cs with
   |none=>simp[ha]at hx
   |some a'=>simp only[fJ ih ha]
  |osl i T m=>
   cases hg:getL H i with
   |none=>simp[hg]at hx
   |some q=>simp only[jr,h.getL hg,hg]
  |_=>rfl
theorem QH {P:Program} {H H':Hp} (h:HLe H H') {T:TypeId} {x v:AV} {lo hi mx:Option AV} (hs:kB P H T x lo hi mx=some v):kB P H' T x lo hi mx=some v:=by
 cases mx with
 |some m=>exact hs
 |none=>
  cases x with
  |ptr i off=>
   simp only[kB]at hs ⊢;cases hlo:gQ lo with
   |none=>simp[hlo]at hs
   |some l=>
    simp only[hlo,bc]at hs ⊢;unfold C7 at hs ⊢;cases hu:P.underlying T with
    |none=>simp[hu]at hs
    |some d=>
     cases d<;>simp only[hu]at hs ⊢ <;>(try (cases hs;done))
     rename_i n e';cases hz:sz P e' with
     |none=>simp[hz]at hs
     |some s=>
      cases hh:gD n hi with
      |none=>simp[hz,hh]at hs
      |some hi'=>
       cases hg:getB H i with
       |none=>simp[hz,hh,hg]at hs
       |some cs=>simp only[hz,hh,hg,h.getB hg,bc]at hs ⊢;exact hs
  |_=>exact hs
theorem Dv {H H':Hp} (h:HLe H H') {x:AV} {es:List (Value×AV)} (he:entriesOf H x=some es):entriesOf H' x=some es:=by
 cases x with
 |map i=>exact h.getM he
 |_=>exact he
theorem KH {P:Program} {H H':Hp} (h:HLe H H') {T:TypeId} {ok:Bool} {x k v:AV} (hl:eZ P T ok x k H=some v):eZ P T ok x k H'=some v:=by
 unfold eZ at hl ⊢;split at hl
 ·rename_i kT eT kv hu hkv;cases hkd:P.underlying kT with
  |none=>simp[hkd]at hl
  |some kd=>
   cases he:entriesOf H x with
   |none=>simp[hkd,he]at hl
   |some es=>
    simp only[hkd,he,bc]at hl;simp only[Dv h he,bc];exact hl
 ·cases hl
theorem mpOf_le {H H':Hp} (h:HLe H H') {i:Nat} {kT vT:TypeId} {d:D} (hd:Ki H i kT vT=some d):Ki H' i kT vT=some d:=by
 unfold Ki at hd ⊢;cases hg:H.get i with
 |none=>rw[hg]at hd;cases hd
 |some k=>rw[h.1 i k hg];rw[hg]at hd;exact hd
theorem KJ {P:Program} {H H':Hp} (h:HLe H H') {T:TypeId} {ok:Bool} {x k v:AV} (hl:iK P T ok x k H=some v):iK P T ok x k H'=some v:=by
 unfold iK at hl ⊢;split at hl
 ·rename_i kT eT i hu;obtain⟨d,hd,hl⟩:=aT.1 hl;simp only[mpOf_le h hd,bc];exact hl
 ·exact hl
 ·cases hl
theorem KK {P:Program} {H H':Hp} (h:HLe H H') {T:TypeId} {ok:Bool} {x k v:AV} (hl:kE P T ok x k H=some v):kE P T ok x k H'=some v:=by
 unfold kE at hl ⊢;cases hc:eZ P T ok x k H with
 |some v'=>rw[hc]at hl;rw[KH h hc];exact hl
 |none=>
  rw[hc]at hl;have hU:iK P T ok x k H=some v:=hl;have e:eZ P T ok x k H'=eZ P T ok x k H:=by
   unfold iK at hU;split at hU
   ·rename_i kT eT i hu;obtain⟨d,hd,_⟩:=aT.1 hU;obtain⟨kb,hg,_⟩:=wm hd;have:entriesOf H' (.map i)=entriesOf H (.map i):=by simp only[entriesOf,getM,h.1 _ _ hg,hg]
    unfold eZ;simp only[this]
   ·unfold eZ;rfl
   ·cases hU
  rw[e,hc];exact KJ h hU
theorem lenA_le {P:Program} {H H':Hp} (h:HLe H H') {T:TypeId} {x v:AV} (hl:vG P T H x=some v):vG P T H' x=some v:=by
 cases x with
 |map i=>
  simp only[vG]at hl ⊢;cases hg:H.get i with
  |none=>rw[hg]at hl;cases hl
  |some k=>rw[h.1 i k hg];rw[hg]at hl;exact hl
 |_=>exact hl
section
variable {env:Env} {r:Rec}
theorem wC {P:Program} {H:Hp} {S T:TypeId} {x:AV} (h:vF P S=false):sv P H S T x=none:=by
 unfold vF at h;unfold sv;split
 ·rename_i e _ e1 _;rw[e1]at h;cases h
 ·rfl
theorem TL {P:Program} {H H':Hp} (hl:HLe H H') {S T:TypeId} {x v:AV} (h:sv P H S T x=some v):sv P H' S T x=some v:=by
 unfold sv at h ⊢;split at h
 ·rename_i e e1 e2;split at h
  ·rename_i i z off len he;obtain⟨p,hp,h⟩:=aT.1 h;simp only[rowsOf]at hp ⊢;obtain⟨cs,hg,hp⟩:=aT.1 hp;rw[hl.getB hg];simp only[bc];rw[hp];exact h
  ·cases h
 ·cases h
theorem TM {P:Program} {H H':Hp} (hl:HLe H H') {S T:TypeId} {x v:AV} (h:oE P H S T x=some v):oE P H' S T x=some v:=by
 unfold oE at h ⊢;cases hc:Bk P S T x with
 |some v'=>rw[hc]at h;exact h
 |none=>rw[hc]at h;exact TL hl h
theorem TN {P:Program} {T:TypeId} {H H2:Hp} {x v:AV} (hn:nS P [T]=true) (h:vG P T H x=some v):vG P T H2 x=some v:=by
 unfold vG at h ⊢;split at h
 ·rename_i i;simp only[nS]at hn;split at h
  ·unfold lenM at h;split at h
   ·rename_i hu;rw[hu]at hn;cases hn
   ·cases h
  ·unfold lenU at h;split at h
   ·rename_i hu;rw[hu]at hn;cases hn
   ·cases h
  ·cases h
 ·exact h
theorem QI {fr:Fr} {H H':Hp} {ty:TypeId} {op:Op} {v:AV} (hc:cls env op=0) (h:bS env r fr H ty op=some (v,H')):H'=H∧∀H2,bS env r fr H2 ty op=some (v,H2):=by
 cases op<;>simp only[cls]at hc<;>(try (exact absurd hc (by decide)))<;>simp only[bS]at h ⊢
 case move=>cases h;exact⟨rfl,fun _=>rfl⟩
 case assign=>cases h;exact⟨rfl,fun _=>rfl⟩
 case makeFunc f a b=>
  unfold mO at h ⊢;cases f<;>simp only at h<;>first|cases h
  exact⟨rfl,fun _=>rfl⟩
 case call c=>
  unfold ju at h ⊢;cases hcal:c.callee with
  |value g=>
   simp only[hcal]at hc;cases g<;>simp only at hc<;>first|(exact absurd hc (by decide))|skip
   rename_i f;cases hp:env.isPure f<;>simp[hp]at hc
  |invoke x m=>simp only[hcal]at hc;exact absurd hc (by decide)
  |builtin b=>
   simp only[hcal]at hc h ⊢;cases b<;>simp only at hc<;>first|(exact absurd hc (by decide))|skip
   ·simp only[dY,NP]at h ⊢;split at h
    ·obtain⟨hx,rfl⟩:=cG h;exact⟨rfl,fun H2=>by simp[vA,hx]⟩
    ·cases h
   ·simp only[dY,F1]at h ⊢;split at h
    ·rename_i x T e1 e2;obtain⟨hx,rfl⟩:=cG h;refine⟨rfl,fun H2=> ?_⟩
     have hn:nS env.P [T]=true:=by
      rw[e2]at hc;cases hn:nS env.P [T]with
      |true=>rfl
      |false=>rw[hn]at hc;cases hc
     have:vG env.P T H2 x=some v:=TN hn hx;simp[vA,this]
    ·cases h
   ·simp only[dY,NR]at h ⊢;split at h
    ·obtain⟨hx,rfl⟩:=cG h;exact⟨rfl,fun H2=>by simp[vA,hx]⟩
    ·obtain⟨hx,rfl⟩:=cG h;exact⟨rfl,fun H2=>by simp[vA,hx]⟩
    ·cases h
   ·simp only[dY,NQ]at h ⊢;split at h
    ·obtain⟨hx,rfl⟩:=cG h;exact⟨rfl,fun H2=>by simp[vA,hx]⟩
    ·obtain⟨hx,rfl⟩:=cG h;exact⟨rfl,fun H2=>by simp[vA,hx]⟩
    ·cases h
 case convert S T x=>
  have hs:vF env.P S=false:=by
   cases hs:vF env.P S with
   |false=>rfl
   |true=>rw[hs]at hc;cases hc
  unfold qu at h ⊢;split at h
  ·rename_i v' hv;cases h;exact⟨rfl,fun H2=>rfl⟩
  ·rename_i hv;obtain⟨hx,rfl⟩:=cG h;refine⟨rfl,fun H2=> ?_⟩
   have:oE env.P H2 S T (opd fr x)=some v:=by
    rw[<- hx];unfold oE;rw[wC hs,wC hs]
   simp only[this,bc]
 case indexAddr T x i=>
  obtain⟨hx,rfl⟩:=cG h;refine⟨rfl,fun H2=> ?_⟩
  cases x with
  |global g=>cases hc
  |_=>simp only[oB]at hx ⊢;simp only[vA,hx,bc]
 case range T x=>cases hm:gH env.P T<;>rw[hm]at hc<;>exact absurd hc (by decide)
 all_goals (obtain⟨hx,rfl⟩:=cG h;exact⟨rfl,fun H2=>by simp[vA,hx]⟩)
theorem TO {P:Program} {H H2:Hp} (hl:HLe H H2) {T:TypeId} {o:Operand} {x ix:AV}:oB P H2 T o x ix=oB P H T o x ix:=by
 unfold oB idxG;simp only[hl.glob]
theorem GA {P:Program} {H H2:Hp} (hl:HLe H H2) {T:TypeId} {o:Operand} {x ix:AV}:gn P H2 T o x ix=gn P H T o x ix:=by
 unfold gn t0;simp only[hl.glob]
theorem TP {fr:Fr} {H H':Hp} {ty:TypeId} {op:Op} {v:AV} (hc:cls env op=1) (h:bS env r fr H ty op=some (v,H')):H'=H∧∀H2,HLe H H2->bS env r fr H2 ty op=some (v,H2):=by
 cases op<;>simp only[cls]at hc<;>(try (exact absurd hc (by decide)))<;>simp only[bS]at h ⊢
 case range T x=>cases hm:gH env.P T<;>rw[hm]at hc<;>exact absurd hc (by decide)
 case load T x=>
  obtain⟨hx,rfl⟩:=cG h;exact⟨rfl,fun H2 hl=>by simp[vA,TK hl hx]⟩
 case indexAddr T x i=>
  obtain⟨hx,rfl⟩:=cG h;refine⟨rfl,fun H2 hl=> ?_⟩
  rw[TO hl];simp only[vA,hx,bc]
 case slice T x lo hi mx=>
  obtain⟨hx,rfl⟩:=cG h;refine⟨rfl,fun H2 hl=> ?_⟩
  have:t7 env.P fr H2 T x lo hi mx=some v:=QH hl hx;simp[vA,this]
 case convert S T x=>
  unfold qu at h ⊢;split at h
  ·rename_i v' hv;cases h;exact⟨rfl,fun H2 _=>rfl⟩
  ·rename_i hv;obtain⟨hx,rfl⟩:=cG h;exact⟨rfl,fun H2 hl=>by simp only[TM hl hx,bc]⟩
 case lookup T x k ok=>
  obtain⟨hx,rfl⟩:=cG h;refine⟨rfl,fun H2 hl=> ?_⟩
  have:kE env.P T ok (opd fr x) (opd fr k) H2=some v:=KK hl hx;simp[vA,this]
 case call c=>
  unfold ju at h ⊢;cases hcal:c.callee with
  |value g=>
   simp only[hcal]at hc h ⊢;cases g<;>simp only at hc<;>first|(exact absurd hc (by decide))|skip
   rename_i f;cases hp:env.isPure f with
   |false=>simp[hp]at hc
   |true=>
    simp only[opd,vL,iM,hp,aj,gj,fQ]at h ⊢;cases ha:bE (ck H aA) (c.args.toList.map (opd fr))with
    |none=>simp[ha]at h
    |some args'=>
     simp only[ha,bc]at h;cases hcp:gr r H.fresh f args' with
     |none=>simp[hcp]at h
     |some p=>
      simp only[hcp,bc]at h;cases hfl:(List.all (c.args.toList.map (opd fr)) (df aA)||p.2)with
      |false=>simp only[hfl,aI]at h;cases h
      |true=>
       simp only[hfl,aj,aN,cO]at h;obtain⟨rfl,rfl⟩:=h;refine⟨rfl,fun H2 hl=> ?_⟩
       simp only[gb (NY hl aA) ha,hl.fresh,hcp,bc,hfl,aj]
  |invoke x m=>simp only[hcal]at hc;exact absurd hc (by decide)
  |builtin b=>
   simp only[hcal]at hc h ⊢;cases b<;>simp only at hc<;>first|(exact absurd hc (by decide))|skip
   simp only[dY,F1]at h ⊢;split at h
   ·rename_i x T e1 e2;obtain⟨hx,rfl⟩:=cG h;refine⟨rfl,fun H2 hl=> ?_⟩
    have:vG env.P T H2 x=some v:=lenA_le hl hx;simp[vA,this]
   ·cases h
theorem TQ {fr:Fr} {op:Op} (hc:cls env op=0) (H H2:Hp):obl env fr H2 op=obl env fr H op:=by
 cases op<;>simp only[cls]at hc<;>(try (exact absurd hc (by decide)))<;>simp only[obl]
 case indexAddr T x i=>
  cases x with
  |global g=>cases hc
  |_=>rfl
 case call c=>
  cases hcal:c.callee with
  |value g=>
   simp only[hcal]at hc;cases g<;>simp only at hc<;>first|(exact absurd hc (by decide))|skip
   rename_i f;cases hp:env.isPure f<;>simp[hp]at hc
  |invoke x m=>rfl
  |builtin b=>
   simp only[hcal]at hc;cases b<;>simp only at hc<;>first|rfl|(exact absurd hc (by decide))
theorem o7 {fr:Fr} {H:Hp} {ty:TypeId} {op:Op} {p:AV×Hp} (h1:aU (obl env fr H op)=true) (h2:bS env r fr H ty op=some p):eF env r fr H ty op=some p:=by
 simp only[eF,h1,aj,h2]
theorem wD {fr:Fr} {H H':Hp} {ty:TypeId} {op:Op} {v:AV} (hc:cls env op=0) (h:eF env r fr H ty op=some (v,H')):H'=H∧∀H2,eF env r fr H2 ty op=some (v,H2):=by
 obtain⟨hob,h0⟩:=eJ h;obtain⟨h1,h2⟩:=QI hc h0;exact⟨h1,fun H2=>o7 (by rw[TQ hc H H2];exact hob) (h2 H2)⟩
theorem TR {P:Program} {H H2:Hp} (hl:HLe H H2) {T:TypeId} {x v:AV} (h:eR P H T x=some v):fF H2 x=fF H x:=by
 cases x with
 |oel i T' n off=>
  have hg:∃q,getV H i T'=some q:=by
   cases hg:getV H i T' with
   |some q=>exact⟨q,rfl⟩
   |none=>
    unfold eR at h;split at h
    ·obtain⟨z,_,h⟩:=aT.1 h;simp[ldN,hg]at h
    ·simp[ld1,Bb,hg]at h
    ·cases h
  obtain⟨q,hg⟩:=hg;simp only[fF,hg,hl.getV hg]
 |_=>rfl
theorem GB {H H':Hp} (h:HLe H H') {n:Nat} {xs ys:List AV} (hm:bE (ck H n) xs=some ys):(xs.map (bu H' n)).flatten=(xs.map (bu H n)).flatten:=by
 rw[fJ (KG h n) hm]
theorem TS {fr:Fr} {H H':Hp} {ty:TypeId} {op:Op} {v:AV} (hc:cls env op=1) (h:bS env r fr H ty op=some (v,H')) (H2:Hp) (hl:HLe H H2):obl env fr H2 op=obl env fr H op:=by
 cases op<;>simp only[cls]at hc<;>(try (exact absurd hc (by decide)))<;>simp only[bS]at h<;>simp only[obl]
 case load T x=>exact TR hl (cG h).1
 case indexAddr T x i=>exact GA hl
 case call c=>
  unfold ju at h;cases hcal:c.callee with
  |value g=>
   simp only[hcal]at hc h ⊢;cases g<;>simp only at hc<;>first|(exact absurd hc (by decide))|skip
   rename_i f;cases hp:env.isPure f with
   |false=>simp[hp]at hc
   |true=>
    simp only[opd,vL,iM,hp,aj,gj,fQ]at h;simp only[opd,oG,gV,hp,aj,gj,fQ];cases ha:bE (ck H aA) (c.args.toList.map (opd fr))with
    |none=>simp[ha]at h
    |some args'=>rw[gb (NY hl aA) ha,hl.fresh,GB hl ha]
  |invoke x m=>rfl
  |builtin b=>
   simp only[hcal]at hc ⊢;cases b<;>simp only at hc<;>first|rfl|(exact absurd hc (by decide))
theorem uf {fr:Fr} {H H':Hp} {ty:TypeId} {op:Op} {v:AV} (hc:cls env op=1) (h:eF env r fr H ty op=some (v,H')):H'=H∧∀H2,HLe H H2->eF env r fr H2 ty op=some (v,H2):=by
 obtain⟨hob,h0⟩:=eJ h;obtain⟨h1,h2⟩:=TP hc h0;exact⟨h1,fun H2 hl=>o7 (by rw[TS hc h0 H2 hl];exact hob) (h2 H2 hl)⟩
end
end Go.AM
