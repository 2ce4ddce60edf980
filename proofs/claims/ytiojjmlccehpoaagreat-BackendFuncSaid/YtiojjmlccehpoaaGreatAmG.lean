/-
  Regions that draw their order: operations that make a block; heaps that differ by new blocks; operands.
-/
import Derived.Test.YtiojjmlccehpoaaGreatAmF
set_option linter.unusedSimpArgs false
set_option linter.unusedVariables false
namespace Go.AM
def HLe (H H':Hp):Prop:=(∀i k,H.get i=some k->H'.get i=some k)∧H'.gl=H.gl
theorem HLe.glob {H H':Hp} (h:HLe H H') (g:Nat):H'.glob g=H.glob g:=by unfold Hp.glob;rw[h.2]
theorem HLe.fresh {H H':Hp} (h:HLe H H'):H'.fresh=H.fresh:=by unfold Hp.fresh;rw[h.2]
theorem HLe.getB {H H':Hp} (h:HLe H H') {i:Nat} {cs:List AV} (hg:getB H i=some cs):AM.getB H' i=some cs:=by
 obtain⟨k,hk,_⟩:=d7 hg;have:=h.1 i k hk;simp only[AM.getB,this];simpa only[AM.getB,hk]using hg
theorem rn {H:Hp} {i:Nat} (hg:getB H i=none):datB H i=none:=by
 unfold AM.getB at hg;unfold datB;split
 ·rename_i T d hk;rw[hk]at hg;cases hg
 ·rfl
theorem HLe.datB {H H':Hp} (h:HLe H H') {i:Nat} {cs:List AV} (hg:AM.getB H i=some cs):AM.datB H' i=AM.datB H i:=by
 obtain⟨k,hk,_⟩:=d7 hg;have:=h.1 i k hk;simp only[AM.datB,this,hk]
theorem HLe.getM {H H':Hp} (h:HLe H H') {i:Nat} {es:List (Value×AV)} (hg:getM H i=some es):AM.getM H' i=some es:=by
 have:=h.1 i _ (pc hg);simp[AM.getM,this]
theorem HLe.getL {H H':Hp} (h:HLe H H') {i:Nat} {q:TypeId×D} (hg:AM.getL H i=some q):AM.getL H' i=some q:=by
 have:=h.1 i _ (dM hg);simp[AM.getL,this]
theorem HLe.getV {H H':Hp} (h:HLe H H') {i:Nat} {T:TypeId} {q:TypeId×D} (hg:AM.getV H i T=some q):AM.getV H' i T=some q:=by
 unfold AM.getV at hg ⊢;cases hk:H.get i with
 |none=>rw[hk]at hg;cases hg
 |some k=>rw[h.1 i _ hk];rw[hk]at hg;exact hg
theorem ld1_le {H H':Hp} (h:HLe H H') {x v:AV} (hl:ld1 H x=some v):ld1 H' x=some v:=by
 cases x with
 |ptr i off=>
  simp only[ld1]at hl ⊢;cases hg:getB H i with
  |none=>simp[hg]at hl
  |some cs=>rw[h.getB hg];simpa[hg]using hl
 |oel i T n off=>
  simp only[ld1,B2]at hl ⊢;cases hg:getV H i T with
  |none=>simp[hg]at hl
  |some q=>rw[h.getV hg];simpa[hg]using hl
 |sc v=>
  cases v with
  |pointer a=>
   cases a with
   |none=>exact hl
   |some a=>
    obtain⟨g,off,spot⟩:=a;cases spot with
    |some s=>exact hl
    |none=>simp only[ld1,h.glob]at hl ⊢;exact hl
  |_=>exact hl
 |_=>exact hl
theorem ldN_le {H H':Hp} (h:HLe H H') {n:Nat} {x v:AV} (hl:ldN H n x=some v):ldN H' n x=some v:=by
 cases x with
 |ptr i off=>
  simp only[ldN]at hl ⊢;cases hg:getB H i with
  |none=>simp[hg,sZ,rn hg,gx]at hl
  |some cs=>
   rw[h.getB hg];simp only[sZ,h.datB hg];simpa[hg,sZ]using hl
 |oel i T m off=>
  simp only[ldN]at hl ⊢;cases hg:getV H i T with
  |none=>simp[hg]at hl
  |some q=>rw[h.getV hg];simpa[hg]using hl
 |sc v=>
  cases v with
  |pointer a=>
   cases a with
   |none=>exact hl
   |some a=>
    obtain⟨g,off,spot⟩:=a;cases spot with
    |some s=>exact hl
    |none=>simp only[ldN,h.glob]at hl ⊢;exact hl
  |_=>exact hl
 |_=>exact hl
theorem V1 {P:Program} {H H':Hp} (h:HLe H H') {T:TypeId} {x v:AV} (hl:eZ P H T x=some v):eZ P H' T x=some v:=by
 unfold eZ at hl ⊢;cases ha:kQ P T with
 |none=>simp[ha]at hl
 |some b=>
  cases b with
  |false=>simp only[ha]at hl ⊢;exact ld1_le h hl
  |true=>
   simp only[ha]at hl ⊢;cases hs:sz P T with
   |none=>simp[hs]at hl
   |some n=>simp only[hs,bo]at hl ⊢;exact ldN_le h hl
theorem gr {α β:Type} {f g:α->Option β} (h:∀x y,f x=some y->g x=some y):∀{xs:List α} {ys:List β},bG f xs=some ys->bG g xs=some ys
 | [],_,hm=>hm
 |x::xs,ys,hm=>by
  simp only[bG]at hm ⊢;cases hx:f x with
  |none=>simp[hx]at hm
  |some y=>
   cases hr:bG f xs with
   |none=>simp[hx,hr]at hm
   |some zs=>rw[h x y hx];simp[hx,hr]at hm;simp[gr h hr,hm]
theorem PF {H H':Hp} (h:HLe H H'):∀(n:Nat) (x y:AV),cl H n x=some y->cl H' n x=some y:=by
 intro n
 induction n with
 |zero=>intro x y hx;simp[cl]at hx
 |succ n ih=>
  intro x y hx;simp only[cl]at hx ⊢;cases x with
  |ptr i off=>
   replace hx:gx (n8 H i off) ((getB H i).bind fun cs=>(bG (cl H n) (cs.drop off)).map .eptr)=some y:=hx
   show gx (n8 H' i off) ((getB H' i).bind fun cs=>(bG (cl H' n) (cs.drop off)).map .eptr)=some y
   cases hg:getB H i with
   |none=>simp[hg,n8,rn hg,gx]at hx
   |some cs=>
    have hd:n8 H' i off=n8 H i off:=by simp only[n8,h.datB hg]
    rw[hd];cases hdp:n8 H i off with
    |some v=>rw[hdp]at hx;exact hx
    |none=>
     rw[hdp]at hx;simp only[gx]at hx ⊢;cases hm:bG (cl H n) (cs.drop off)with
     |none=>simp[hg,hm]at hx
     |some ys=>simp only[h.getB hg,bo,gr ih hm];simpa[hg,hm]using hx
  |sl i z off len=>
   cases hg:getB H i with
   |none=>simp[hg]at hx
   |some cs=>
    simp only[hg,h.getB hg,bo]at hx ⊢;split at hx
    ·rename_i hf;rw[if_pos hf];cases hm:bG (cl H n) ((cs.drop off).take (len*z))with
     |none=>simp[hm]at hx
     |some ys=>rw[gr ih hm];simpa[hm]using hx
    ·cases hx
  |map i=>
   cases hg:getM H i with
   |none=>simp[hg]at hx
   |some es=>
    cases hm:bG (fun e=>(cl H n e.2).map fun v=>(e.1,v)) es with
    |none=>simp[hg,hm]at hx
    |some ys=>
     have hm':bG (fun e=>(cl H' n e.2).map fun v=>(e.1,v)) es=some ys:=gr (fun e y he=>by
      cases hv:cl H n e.2 with
      |none=>simp[hv]at he
      |some v=>rw[ih _ _ hv];simpa[hv]using he) hm
     simp only[h.getM hg,bo,hm'];simpa[hg,hm]using hx
  |func f a b=>
   cases ha:bG (cl H n) a with
   |none=>simp[ha]at hx
   |some a'=>
    cases hb:bG (cl H n) b with
    |none=>simp[ha,hb]at hx
    |some b'=>simp only[gr ih ha,gr ih hb,bo];simpa[ha,hb]using hx
  |agg cs=>
   cases ha:bG (cl H n) cs with
   |none=>simp[ha]at hx
   |some a'=>simp only[gr ih ha];simpa[ha]using hx
  |tup cs=>
   cases ha:bG (cl H n) cs with
   |none=>simp[ha]at hx
   |some a'=>simp only[gr ih ha];simpa[ha]using hx
  |osl i T m=>
   cases hg:getL H i with
   |none=>simp[hg]at hx
   |some q=>simp only[h.getL hg];simpa[hg]using hx
  |_=>exact hx
theorem fN {α β:Type} {f:α->Option β} {g g':α->List Bool} (h:∀x y,f x=some y->g' x=g x):∀{xs:List α} {ys:List β},bG f xs=some ys->xs.map g'=xs.map g
 | [],_,_=>rfl
 |x::xs,ys,hm=>by
  simp only[bG]at hm;cases hx:f x with
  |none=>simp[hx]at hm
  |some y=>
   cases hr:bG f xs with
   |none=>simp[hx,hr]at hm
   |some zs=>simp only[bW,h x y hx,fN h hr]
def ow:AV->Bool
 | .undef=>true
 | .ui _ _=>true
 | .ub _=>true
 | .us _=>true
 | .rows _ _=>true
 |_=>false
theorem kB {c:TypeId->D->List AV} (hc:∀T d,∀z∈c T d,ow z=true):∀(fs:List Field) (d:D) (j:Nat),∀z∈dR c d j fs,ow z=true
 | [],_,_,z,hz=>by cases hz
 |f::fs,d,j,z,hz=>by
  simp only[dR,eS]at hz;exact hz.elim (hc _ _ z) (kB hc fs d (j+1) z)
theorem mz {c:D->List AV} (hc:∀d,∀z∈c d,ow z=true):∀(m:Nat) (d:D) (j:Nat),∀z∈fH c d j m,ow z=true
 |0,_,_,z,hz=>by cases hz
 |m+1,d,j,z,hz=>by
  simp only[fH,eS]at hz;exact hz.elim (hc _ z) (mz hc m d (j+1) z)
theorem lh:∀(n:Nat) (T:TypeId) (d:D),∀z∈bE n T d,ow z=true
 |0,_,_,z,hz=>by cases hz
 |n+1,T,d,z,hz=>by
  simp only[bE]at hz;split at hz
  ·simp at hz;subst hz;rfl
  ·simp at hz;subst hz;rfl
  ·simp at hz;subst hz;rfl
  ·simp at hz;subst hz;rfl
  ·exact kB (lh n) _ _ _ z hz
  ·exact mz (fun d=>lh n _ d) _ _ _ z hz
  ·simp at hz;subst hz;rfl
theorem HI {H H':Hp} (n:Nat) (z:AV) (h:ow z=true):bC H' n z=bC H n z:=by
 cases n with
 |zero=>rfl
 |succ n=>cases z<;>simp only[ow]at h<;>first|rfl|(cases h;done)
theorem L9 {H H':Hp} (h:HLe H H'):∀(n:Nat) (x y:AV),cl H n x=some y->bC H' n x=bC H n x:=by
 intro n
 induction n with
 |zero=>intro x y hx;simp[cl]at hx
 |succ n ih=>
  intro x y hx;simp only[cl]at hx;simp only[bC];cases x with
  |ptr i off=>
   replace hx:gx (n8 H i off) ((getB H i).bind fun cs=>(bG (cl H n) (cs.drop off)).map .eptr)=some y:=hx
   cases hg:getB H i with
   |none=>simp[hg,n8,rn hg,gx]at hx
   |some cs=>
    simp only[h.getB hg,hg];cases hm:bG (cl H n) (cs.drop off)with
    |some ys=>rw[fN ih hm]
    |none=>
     have hd:∃T d,datB H i=some (T,d):=by
      cases hdp:n8 H i off with
      |none=>rw[hdp,hg]at hx;simp[gx,hm]at hx
      |some v=>
       unfold n8 at hdp;cases hdb:datB H i with
       |none=>rw[hdb]at hdp;cases hdp
       |some p=>exact⟨p.1,p.2,rfl⟩
     obtain⟨T,d,hd⟩:=hd;have hcs:cs=bE rowDepth T d:=by
      unfold datB at hd;split at hd
      ·rename_i T' d' hk;cases hd;simp[AM.getB,hk]at hg;exact hg.symm
      ·cases hd
     subst hcs;have key:∀z,z∈(bE rowDepth T d).drop off->bC H' n z=bC H n z:=fun z hz=>HI n z (lh _ _ _ z (List.mem_of_mem_drop hz))
     exact congrArg List.flatten (im key)
  |sl i z off len=>
   cases hg:getB H i with
   |none=>simp[hg]at hx
   |some cs=>
    simp only[hg,h.getB hg,bo]at hx ⊢;split at hx
    ·cases hm:bG (cl H n) ((cs.drop off).take (len*z))with
     |none=>simp[hm]at hx
     |some ys=>rw[fN ih hm]
    ·cases hx
  |map i=>
   cases hg:getM H i with
   |none=>simp[hg]at hx
   |some es=>
    simp only[hg,h.getM hg,bo]at hx ⊢;cases hm:bG (fun e=>(cl H n e.2).map fun v=>(e.1,v)) es with
    |none=>simp[hm]at hx
    |some ys=>
     rw[fN (g:=fun e=>bC H n e.2) (g':=fun e=>bC H' n e.2) (fun e y he=>by
      cases hv:cl H n e.2 with
      |none=>simp[hv]at he
      |some v=>exact ih _ _ hv) hm]
  |func f a b=>
   cases ha:bG (cl H n) a with
   |none=>simp[ha]at hx
   |some a'=>
    cases hb:bG (cl H n) b with
    |none=>simp[ha,hb]at hx
    |some b'=>simp only[fN ih ha,fN ih hb]
  |agg cs=>
   cases ha:bG (cl H n) cs with
   |none=>simp[ha]at hx
   |some a'=>simp only[fN ih ha]
  |tup cs=>
   cases ha:bG (cl H n) cs with
   |none=>simp[ha]at hx
   |some a'=>simp only[fN ih ha]
  |osl i T m=>
   cases hg:getL H i with
   |none=>simp[hg]at hx
   |some q=>simp only[jI,h.getL hg,hg]
  |_=>rfl
theorem SJ {P:Program} {H H':Hp} (h:HLe H H') {T:TypeId} {x v:AV} {lo hi mx:Option AV} (hs:kU P H T x lo hi mx=some v):kU P H' T x lo hi mx=some v:=by
 cases mx with
 |some m=>exact hs
 |none=>
  cases x with
  |ptr i off=>
   simp only[kU]at hs ⊢;cases hlo:g6 lo with
   |none=>simp[hlo]at hs
   |some l=>
    simp only[hlo,bo]at hs ⊢;unfold D1 at hs ⊢;cases hu:P.underlying T with
    |none=>simp[hu]at hs
    |some d=>
     cases d<;>simp only[hu]at hs ⊢ <;>(try (cases hs;done))
     rename_i n e';cases hz:sz P e' with
     |none=>simp[hz]at hs
     |some s=>
      cases hh:gM n hi with
      |none=>simp[hz,hh]at hs
      |some hi'=>
       cases hg:getB H i with
       |none=>simp[hz,hh,hg]at hs
       |some cs=>simp only[hz,hh,hg,h.getB hg,bo]at hs ⊢;exact hs
  |_=>exact hs
theorem Er {H H':Hp} (h:HLe H H') {x:AV} {es:List (Value×AV)} (he:entriesOf H x=some es):entriesOf H' x=some es:=by
 cases x with
 |map i=>exact h.getM he
 |_=>exact he
theorem Ma {P:Program} {H H':Hp} (h:HLe H H') {T:TypeId} {ok:Bool} {x k v:AV} (hl:fh P T ok x k H=some v):fh P T ok x k H'=some v:=by
 unfold fh at hl ⊢;split at hl
 ·rename_i kT eT kv hu hkv;cases hkd:P.underlying kT with
  |none=>simp[hkd]at hl
  |some kd=>
   cases he:entriesOf H x with
   |none=>simp[hkd,he]at hl
   |some es=>
    simp only[hkd,he,bo]at hl;simp only[Er h he,bo];exact hl
 ·cases hl
theorem mpOf_le {H H':Hp} (h:HLe H H') {i:Nat} {kT vT:TypeId} {d:D} (hd:LK H i kT vT=some d):LK H' i kT vT=some d:=by
 unfold LK at hd ⊢;cases hg:H.get i with
 |none=>rw[hg]at hd;cases hd
 |some k=>rw[h.1 i k hg];rw[hg]at hd;exact hd
theorem Mb {P:Program} {H H':Hp} (h:HLe H H') {T:TypeId} {ok:Bool} {x k v:AV} (hl:iZ P T ok x k H=some v):iZ P T ok x k H'=some v:=by
 unfold iZ at hl ⊢;split at hl
 ·rename_i kT eT i hu;obtain⟨d,hd,hl⟩:=aZ.1 hl;simp only[mpOf_le h hd,bo];exact hl
 ·exact hl
 ·cases hl
theorem Mc {P:Program} {H H':Hp} (h:HLe H H') {T:TypeId} {ok:Bool} {x k v:AV} (hl:kX P T ok x k H=some v):kX P T ok x k H'=some v:=by
 unfold kX at hl ⊢;cases hc:fh P T ok x k H with
 |some v'=>rw[hc]at hl;rw[Ma h hc];exact hl
 |none=>
  rw[hc]at hl;have hU:iZ P T ok x k H=some v:=hl;have e:fh P T ok x k H'=fh P T ok x k H:=by
   unfold iZ at hU;split at hU
   ·rename_i kT eT i hu;obtain⟨d,hd,_⟩:=aZ.1 hU;obtain⟨kb,hg,_⟩:=xf hd;have:entriesOf H' (.map i)=entriesOf H (.map i):=by simp only[entriesOf,getM,h.1 _ _ hg,hg]
    unfold fh;simp only[this]
   ·unfold fh;rfl
   ·cases hU
  rw[e,hc];exact Mb h hU
theorem lenA_le {P:Program} {H H':Hp} (h:HLe H H') {T:TypeId} {x v:AV} (hl:wB P T H x=some v):wB P T H' x=some v:=by
 cases x with
 |map i=>
  simp only[wB]at hl ⊢;cases hg:H.get i with
  |none=>rw[hg]at hl;cases hl
  |some k=>rw[h.1 i k hg];rw[hg]at hl;exact hl
 |_=>exact hl
section
variable {env:Env} {r:Rec}
theorem xt {P:Program} {H:Hp} {S T:TypeId} {x:AV} (h:wA P S=false):tc P H S T x=none:=by
 unfold wA at h;unfold tc;split
 ·rename_i e _ e1 _;rw[e1]at h;cases h
 ·rfl
theorem V2 {P:Program} {H H':Hp} (hl:HLe H H') {S T:TypeId} {x v:AV} (h:tc P H S T x=some v):tc P H' S T x=some v:=by
 unfold tc at h ⊢;split at h
 ·rename_i e e1 e2;split at h
  ·rename_i i z off len he;obtain⟨p,hp,h⟩:=aZ.1 h;simp only[rowsOf]at hp ⊢;obtain⟨cs,hg,hp⟩:=aZ.1 hp;rw[hl.getB hg];simp only[bo];rw[hp];exact h
  ·cases h
 ·cases h
theorem V3 {P:Program} {H H':Hp} (hl:HLe H H') {S T:TypeId} {x v:AV} (h:oY P H S T x=some v):oY P H' S T x=some v:=by
 unfold oY at h ⊢;cases hc:Ca P S T x with
 |some v'=>rw[hc]at h;exact h
 |none=>rw[hc]at h;exact V2 hl h
theorem V4 {P:Program} {T:TypeId} {H H2:Hp} {x v:AV} (hn:oh P [T]=true) (h:wB P T H x=some v):wB P T H2 x=some v:=by
 unfold wB at h ⊢;split at h
 ·rename_i i;simp only[oh]at hn;split at h
  ·unfold lenM at h;split at h
   ·rename_i hu;rw[hu]at hn;cases hn
   ·cases h
  ·unfold lenU at h;split at h
   ·rename_i hu;rw[hu]at hn;cases hn
   ·cases h
  ·cases h
 ·exact h
theorem SK {fr:Fr} {H H':Hp} {ty:TypeId} {op:Op} {v:AV} (hc:cls env op=0) (h:bT env r fr H ty op=some (v,H')):H'=H∧∀H2,bT env r fr H2 ty op=some (v,H2):=by
 cases op<;>simp only[cls]at hc<;>(try (exact absurd hc (by decide)))<;>simp only[bT]at h ⊢
 case move=>cases h;exact⟨rfl,fun _=>rfl⟩
 case assign=>cases h;exact⟨rfl,fun _=>rfl⟩
 case makeFunc f a b=>
  unfold ng at h ⊢;cases f<;>simp only at h<;>first|cases h
  exact⟨rfl,fun _=>rfl⟩
 case call c=>
  unfold jK at h ⊢;cases hcal:c.callee with
  |value g=>
   simp only[hcal]at hc;cases g<;>simp only at hc<;>first|(exact absurd hc (by decide))|skip
   rename_i f;cases hp:env.isPure f<;>simp[hp]at hc
  |invoke x m=>simp only[hcal]at hc;exact absurd hc (by decide)
  |builtin b=>
   simp only[hcal]at hc h ⊢;cases b<;>simp only at hc<;>first|(exact absurd hc (by decide))|skip
   ·simp only[d6,Pv]at h ⊢;split at h
    ·obtain⟨hx,rfl⟩:=cH h;exact⟨rfl,fun H2=>by simp[vA,hx]⟩
    ·cases h
   ·simp only[d6,Ha]at h ⊢;split at h
    ·rename_i x T e1 e2;obtain⟨hx,rfl⟩:=cH h;refine⟨rfl,fun H2=> ?_⟩
     have hn:oh env.P [T]=true:=by
      rw[e2]at hc;cases hn:oh env.P [T]with
      |true=>rfl
      |false=>rw[hn]at hc;cases hc
     have:wB env.P T H2 x=some v:=V4 hn hx;simp[vA,this]
    ·cases h
   ·simp only[d6,Px]at h ⊢;split at h
    ·obtain⟨hx,rfl⟩:=cH h;exact⟨rfl,fun H2=>by simp[vA,hx]⟩
    ·obtain⟨hx,rfl⟩:=cH h;exact⟨rfl,fun H2=>by simp[vA,hx]⟩
    ·cases h
   ·simp only[d6,Pw]at h ⊢;split at h
    ·obtain⟨hx,rfl⟩:=cH h;exact⟨rfl,fun H2=>by simp[vA,hx]⟩
    ·obtain⟨hx,rfl⟩:=cH h;exact⟨rfl,fun H2=>by simp[vA,hx]⟩
    ·cases h
 case convert S T x=>
  have hs:wA env.P S=false:=by
   cases hs:wA env.P S with
   |false=>rfl
   |true=>rw[hs]at hc;cases hc
  unfold qU at h ⊢;split at h
  ·rename_i v' hv;cases h;exact⟨rfl,fun H2=>rfl⟩
  ·rename_i hv;obtain⟨hx,rfl⟩:=cH h;refine⟨rfl,fun H2=> ?_⟩
   have:oY env.P H2 S T (opd fr x)=some v:=by
    rw[<- hx];unfold oY;rw[xt hs,xt hs]
   simp only[this,bo]
 case indexAddr T x i=>
  obtain⟨hx,rfl⟩:=cH h;refine⟨rfl,fun H2=> ?_⟩
  cases x with
  |global g=>cases hc
  |_=>simp only[oV]at hx ⊢;simp only[vA,hx,bo]
 case range T x=>cases hm:gP env.P T<;>rw[hm]at hc<;>exact absurd hc (by decide)
 all_goals (obtain⟨hx,rfl⟩:=cH h;exact⟨rfl,fun H2=>by simp[vA,hx]⟩)
theorem V5 {P:Program} {H H2:Hp} (hl:HLe H H2) {T:TypeId} {o:Operand} {x ix:AV}:oV P H2 T o x ix=oV P H T o x ix:=by
 unfold oV idxG;simp only[hl.glob]
theorem HJ {P:Program} {H H2:Hp} (hl:HLe H H2) {T:TypeId} {o:Operand} {x ix:AV}:gy P H2 T o x ix=gy P H T o x ix:=by
 unfold gy uP;simp only[hl.glob]
theorem V6 {fr:Fr} {H H':Hp} {ty:TypeId} {op:Op} {v:AV} (hc:cls env op=1) (h:bT env r fr H ty op=some (v,H')):H'=H∧∀H2,HLe H H2->bT env r fr H2 ty op=some (v,H2):=by
 cases op<;>simp only[cls]at hc<;>(try (exact absurd hc (by decide)))<;>simp only[bT]at h ⊢
 case range T x=>cases hm:gP env.P T<;>rw[hm]at hc<;>exact absurd hc (by decide)
 case load T x=>
  obtain⟨hx,rfl⟩:=cH h;exact⟨rfl,fun H2 hl=>by simp[vA,V1 hl hx]⟩
 case indexAddr T x i=>
  obtain⟨hx,rfl⟩:=cH h;refine⟨rfl,fun H2 hl=> ?_⟩
  rw[V5 hl];simp only[vA,hx,bo]
 case slice T x lo hi mx=>
  obtain⟨hx,rfl⟩:=cH h;refine⟨rfl,fun H2 hl=> ?_⟩
  have:uR env.P fr H2 T x lo hi mx=some v:=SJ hl hx;simp[vA,this]
 case convert S T x=>
  unfold qU at h ⊢;split at h
  ·rename_i v' hv;cases h;exact⟨rfl,fun H2 _=>rfl⟩
  ·rename_i hv;obtain⟨hx,rfl⟩:=cH h;exact⟨rfl,fun H2 hl=>by simp only[V3 hl hx,bo]⟩
 case lookup T x k ok=>
  obtain⟨hx,rfl⟩:=cH h;refine⟨rfl,fun H2 hl=> ?_⟩
  have:kX env.P T ok (opd fr x) (opd fr k) H2=some v:=Mc hl hx;simp[vA,this]
 case call c=>
  unfold jK at h ⊢;cases hcal:c.callee with
  |value g=>
   simp only[hcal]at hc h ⊢;cases g<;>simp only at hc<;>first|(exact absurd hc (by decide))|skip
   rename_i f;cases hp:env.isPure f with
   |false=>simp[hp]at hc
   |true=>
    simp only[opd,wH,i7,hp,ap,dY,fy]at h ⊢;cases ha:bG (cl H aA) (c.args.toList.map (opd fr))with
    |none=>simp[ha]at h
    |some args'=>
     simp only[ha,bo]at h;cases hcp:gB r H.fresh f args' with
     |none=>simp[hcp]at h
     |some p=>
      simp only[hcp,bo]at h;cases hfl:(List.all (c.args.toList.map (opd fr)) (dm aA)||p.2)with
      |false=>simp only[hfl,aJ]at h;cases h
      |true=>
       simp only[hfl,ap,aQ,cS]at h;obtain⟨rfl,rfl⟩:=h;refine⟨rfl,fun H2 hl=> ?_⟩
       simp only[gr (PF hl aA) ha,hl.fresh,hcp,bo,hfl,ap]
  |invoke x m=>simp only[hcal]at hc;exact absurd hc (by decide)
  |builtin b=>
   simp only[hcal]at hc h ⊢;cases b<;>simp only at hc<;>first|(exact absurd hc (by decide))|skip
   simp only[d6,Ha]at h ⊢;split at h
   ·rename_i x T e1 e2;obtain⟨hx,rfl⟩:=cH h;refine⟨rfl,fun H2 hl=> ?_⟩
    have:wB env.P T H2 x=some v:=lenA_le hl hx;simp[vA,this]
   ·cases h
theorem V7 {fr:Fr} {op:Op} (hc:cls env op=0) (H H2:Hp):obl env fr H2 op=obl env fr H op:=by
 cases op<;>simp only[cls]at hc<;>(try (exact absurd hc (by decide)))<;>simp only[obl]
 case indexAddr T x i=>
  cases x with
  |global g=>cases hc
  |_=>rfl
 case call c=>
  cases hcal:c.callee with
  |value g=>
   simp only[hcal]at hc;cases g<;>simp only at hc<;>first|(exact absurd hc (by decide))|skip
   rename_i f;cases hp:env.isPure f<;>simp[hp]at hc
  |invoke x m=>rfl
  |builtin b=>
   simp only[hcal]at hc;cases b<;>simp only at hc<;>first|rfl|(exact absurd hc (by decide))
theorem pz {fr:Fr} {H:Hp} {ty:TypeId} {op:Op} {p:AV×Hp} (h1:bf (obl env fr H op)=true) (h2:bT env r fr H ty op=some p):eL env r fr H ty op=some p:=by
 simp only[eL,h1,ap,h2]
theorem xv {fr:Fr} {H H':Hp} {ty:TypeId} {op:Op} {v:AV} (hc:cls env op=0) (h:eL env r fr H ty op=some (v,H')):H'=H∧∀H2,eL env r fr H2 ty op=some (v,H2):=by
 obtain⟨hob,h0⟩:=eO h;obtain⟨h1,h2⟩:=SK hc h0;exact⟨h1,fun H2=>pz (by rw[V7 hc H H2];exact hob) (h2 H2)⟩
theorem V8 {P:Program} {H H2:Hp} (hl:HLe H H2) {T:TypeId} {x v:AV} (h:eZ P H T x=some v):fJ H2 x=fJ H x:=by
 cases x with
 |oel i T' n off=>
  have hg:∃q,getV H i T'=some q:=by
   cases hg:getV H i T' with
   |some q=>exact⟨q,rfl⟩
   |none=>
    unfold eZ at h;split at h
    ·obtain⟨z,_,h⟩:=aZ.1 h;simp[ldN,hg]at h
    ·simp[ld1,B2,hg]at h
    ·cases h
  obtain⟨q,hg⟩:=hg;simp only[fJ,hg,hl.getV hg]
 |_=>rfl
theorem HK {H H':Hp} (h:HLe H H') {n:Nat} {xs ys:List AV} (hm:bG (cl H n) xs=some ys):(xs.map (bC H' n)).flatten=(xs.map (bC H n)).flatten:=by
 rw[fN (L9 h n) hm]
theorem V9 {fr:Fr} {H H':Hp} {ty:TypeId} {op:Op} {v:AV} (hc:cls env op=1) (h:bT env r fr H ty op=some (v,H')) (H2:Hp) (hl:HLe H H2):obl env fr H2 op=obl env fr H op:=by
 cases op<;>simp only[cls]at hc<;>(try (exact absurd hc (by decide)))<;>simp only[bT]at h<;>simp only[obl]
 case load T x=>exact V8 hl (cH h).1
 case indexAddr T x i=>exact HJ hl
 case call c=>
  unfold jK at h;cases hcal:c.callee with
  |value g=>
   simp only[hcal]at hc h ⊢;cases g<;>simp only at hc<;>first|(exact absurd hc (by decide))|skip
   rename_i f;cases hp:env.isPure f with
   |false=>simp[hp]at hc
   |true=>
    simp only[opd,wH,i7,hp,ap,dY,fy]at h;simp only[opd,o4,hO,hp,ap,dY,fy];cases ha:bG (cl H aA) (c.args.toList.map (opd fr))with
    |none=>simp[ha]at h
    |some args'=>rw[gr (PF hl aA) ha,hl.fresh,HK hl ha]
  |invoke x m=>rfl
  |builtin b=>
   simp only[hcal]at hc ⊢;cases b<;>simp only at hc<;>first|rfl|(exact absurd hc (by decide))
theorem uY {fr:Fr} {H H':Hp} {ty:TypeId} {op:Op} {v:AV} (hc:cls env op=1) (h:eL env r fr H ty op=some (v,H')):H'=H∧∀H2,HLe H H2->eL env r fr H2 ty op=some (v,H2):=by
 obtain⟨hob,h0⟩:=eO h;obtain⟨h1,h2⟩:=V6 hc h0;exact⟨h1,fun H2 hl=>pz (by rw[V9 hc h0 H2 hl];exact hob) (h2 H2 hl)⟩
end
end Go.AM
