/-
  Regions that draw their order: operations that make a block; heaps that differ by new blocks; operands.
-/
import Derived.Test.YtfdedgmlafelaaaGreatDoorAmF
set_option linter.unusedSimpArgs false
set_option linter.unusedVariables false
namespace Go.AM
def HLe (H H':Hp):Prop:=(∀i k,H.get i=some k->H'.get i=some k)∧H'.gl=H.gl
theorem HLe.glob {H H':Hp} (h:HLe H H') (g:Nat):H'.glob g=H.glob g:=by unfold Hp.glob;rw[h.2]
theorem HLe.fresh {H H':Hp} (h:HLe H H'):H'.fresh=H.fresh:=by unfold Hp.fresh;rw[h.2]
theorem HLe.getB {H H':Hp} (h:HLe H H') {i:Nat} {cs:List AV} (hg:getB H i=some cs):AM.getB H' i=some cs:=by
 obtain⟨k,hk,_⟩:=dr hg;have:=h.1 i k hk;simp only[AM.getB,this];simpa only[AM.getB,hk]using hg
theorem oO {H:Hp} {i:Nat} (hg:getB H i=none):datB H i=none:=by
 unfold AM.getB at hg;unfold datB;split
 ·rename_i T d hk;rw[hk]at hg;cases hg
 ·rfl
theorem HLe.datB {H H':Hp} (h:HLe H H') {i:Nat} {cs:List AV} (hg:AM.getB H i=some cs):AM.datB H' i=AM.datB H i:=by
 obtain⟨k,hk,_⟩:=dr hg;have:=h.1 i k hk;simp only[AM.datB,this,hk]
theorem HLe.getM {H H':Hp} (h:HLe H H') {i:Nat} {es:List (Value×AV)} (hg:getM H i=some es):AM.getM H' i=some es:=by
 have:=h.1 i _ (m6 hg);simp[AM.getM,this]
theorem HLe.getL {H H':Hp} (h:HLe H H') {i:Nat} {q:TypeId×D} (hg:AM.getL H i=some q):AM.getL H' i=some q:=by
 have:=h.1 i _ (cU hg);simp[AM.getL,this]
theorem HLe.getV {H H':Hp} (h:HLe H H') {i:Nat} {T:TypeId} {q:TypeId×D} (hg:AM.getV H i T=some q):AM.getV H' i T=some q:=by
 unfold AM.getV at hg ⊢;cases hk:H.get i with
 |none=>rw[hk]at hg;cases hg
 |some k=>rw[h.1 i _ hk];rw[hk]at hg;exact hg
theorem ld1_le {H H':Hp} (h:HLe H H') {x v:AV} (hl:ld1 H x=some v):ld1 H' x=some v:=by
 cases x with
 |ptr i off=>
  simp only[ld1]at hl ⊢;cases hg:getB H i with
  |none=>simp[hg]at hl
  |some cs=>rw[h.getB hg];simpa[hg]using hl
 |oel i T n off=>
  simp only[ld1,yb]at hl ⊢;cases hg:getV H i T with
  |none=>simp[hg]at hl
  |some q=>rw[h.getV hg];simpa[hg]using hl
 |sc v=>
  cases v with
  |pointer a=>
   cases a with
   |none=>exact hl
   |some a=>
    obtain⟨g,off,spot⟩:=a;cases spot with
    |some s=>exact hl
    |none=>simp only[ld1,h.glob]at hl ⊢;exact hl
  |_=>exact hl
 |_=>exact hl
theorem ldN_le {H H':Hp} (h:HLe H H') {n:Nat} {x v:AV} (hl:ldN H n x=some v):ldN H' n x=some v:=by
 cases x with
 |ptr i off=>
  simp only[ldN]at hl ⊢;cases hg:getB H i with
  |none=>simp[hg,pP,oO hg,fa]at hl
  |some cs=>
   rw[h.getB hg];simp only[pP,h.datB hg];simpa[hg,pP]using hl
 |oel i T m off=>
  simp only[ldN]at hl ⊢;cases hg:getV H i T with
  |none=>simp[hg]at hl
  |some q=>rw[h.getV hg];simpa[hg]using hl
 |sc v=>
  cases v with
  |pointer a=>
   cases a with
   |none=>exact hl
   |some a=>
    obtain⟨g,off,spot⟩:=a;cases spot with
    |some s=>exact hl
    |none=>simp only[ldN,h.glob]at hl ⊢;exact hl
  |_=>exact hl
 |_=>exact hl
theorem Qp {P:Program} {H H':Hp} (h:HLe H H') {T:TypeId} {x v:AV} (hl:dW P H T x=some v):dW P H' T x=some v:=by
 unfold dW at hl ⊢;cases ha:ja P T with
 |none=>simp[ha]at hl
 |some b=>
  cases b with
  |false=>simp only[ha]at hl ⊢;exact ld1_le h hl
  |true=>
   simp only[ha]at hl ⊢;cases hs:sz P T with
   |none=>simp[hs]at hl
   |some n=>simp only[hs,Option.bind_some]at hl ⊢;exact ldN_le h hl
theorem eX {α β:Type} {f g:α->Option β} (h:∀x y,f x=some y->g x=some y):∀{xs:List α} {ys:List β},bi f xs=some ys->bi g xs=some ys
 | [],_,hm=>hm
 |x::xs,ys,hm=>by
  simp only[bi]at hm ⊢;cases hx:f x with
  |none=>simp[hx]at hm
  |some y=>
   cases hr:bi f xs with
   |none=>simp[hx,hr]at hm
   |some zs=>rw[h x y hx];simp[hx,hr]at hm;simp[eX h hr,hm]
theorem Lb {H H':Hp} (h:HLe H H'):∀(n:Nat) (x y:AV),bJ H n x=some y->bJ H' n x=some y:=by
 intro n
 induction n with
 |zero=>intro x y hx;simp[bJ]at hx
 |succ n ih=>
  intro x y hx;simp only[bJ]at hx ⊢;cases x with
  |ptr i off=>
   replace hx:fa (lW H i off) ((getB H i).bind fun cs=>(bi (bJ H n) (cs.drop off)).map .eptr)=some y:=hx
   show fa (lW H' i off) ((getB H' i).bind fun cs=>(bi (bJ H' n) (cs.drop off)).map .eptr)=some y
   cases hg:getB H i with
   |none=>simp[hg,lW,oO hg,fa]at hx
   |some cs=>
    have hd:lW H' i off=lW H i off:=by simp only[lW,h.datB hg]
    rw[hd];cases hdp:lW H i off with
    |some v=>rw[hdp]at hx;exact hx
    |none=>
     rw[hdp]at hx;simp only[fa]at hx ⊢;cases hm:bi (bJ H n) (cs.drop off)with
     |none=>simp[hg,hm]at hx
     |some ys=>simp only[h.getB hg,Option.bind_some,eX ih hm];simpa[hg,hm]using hx
  |sl i z off len=>
   cases hg:getB H i with
   |none=>simp[hg]at hx
   |some cs=>
    simp only[hg,h.getB hg,Option.bind_some]at hx ⊢;split at hx
    ·rename_i hf;rw[if_pos hf];cases hm:bi (bJ H n) ((cs.drop off).take (len*z))with
     |none=>simp[hm]at hx
     |some ys=>rw[eX ih hm];simpa[hm]using hx
    ·cases hx
  |map i=>
   cases hg:getM H i with
   |none=>simp[hg]at hx
   |some es=>
    cases hm:bi (fun e=>(bJ H n e.2).map fun v=>(e.1,v)) es with
    |none=>simp[hg,hm]at hx
    |some ys=>
     have hm':bi (fun e=>(bJ H' n e.2).map fun v=>(e.1,v)) es=some ys:=eX (fun e y he=>by
      cases hv:bJ H n e.2 with
      |none=>simp[hv]at he
      |some v=>rw[ih _ _ hv];simpa[hv]using he) hm
     simp only[h.getM hg,Option.bind_some,hm'];simpa[hg,hm]using hx
  |func f a b=>
   cases ha:bi (bJ H n) a with
   |none=>simp[ha]at hx
   |some a'=>
    cases hb:bi (bJ H n) b with
    |none=>simp[ha,hb]at hx
    |some b'=>simp only[eX ih ha,eX ih hb,Option.bind_some];simpa[ha,hb]using hx
  |agg cs=>
   cases ha:bi (bJ H n) cs with
   |none=>simp[ha]at hx
   |some a'=>simp only[eX ih ha];simpa[ha]using hx
  |tup cs=>
   cases ha:bi (bJ H n) cs with
   |none=>simp[ha]at hx
   |some a'=>simp only[eX ih ha];simpa[ha]using hx
  |osl i T m=>
   cases hg:getL H i with
   |none=>simp[hg]at hx
   |some q=>simp only[h.getL hg];simpa[hg]using hx
  |_=>exact hx
theorem eC {α β:Type} {f:α->Option β} {g g':α->List Bool} (h:∀x y,f x=some y->g' x=g x):∀{xs:List α} {ys:List β},bi f xs=some ys->xs.map g'=xs.map g
 | [],_,_=>rfl
 |x::xs,ys,hm=>by
  simp only[bi]at hm;cases hx:f x with
  |none=>simp[hx]at hm
  |some y=>
   cases hr:bi f xs with
   |none=>simp[hx,hr]at hm
   |some zs=>simp only[List.map_cons,h x y hx,eC h hr]
def mg:AV->Bool
 | .undef=>true
 | .ui _ _=>true
 | .ub _=>true
 | .us _=>true
 | .rows _ _=>true
 |_=>false
theorem iK {c:TypeId->D->List AV} (hc:∀T d,∀z∈c T d,mg z=true):∀(fs:List Field) (d:D) (j:Nat),∀z∈de c d j fs,mg z=true
 | [],_,_,z,hz=>by cases hz
 |f::fs,d,j,z,hz=>by
  simp only[de,List.mem_append]at hz;exact hz.elim (hc _ _ z) (iK hc fs d (j+1) z)
theorem kj {c:D->List AV} (hc:∀d,∀z∈c d,mg z=true):∀(m:Nat) (d:D) (j:Nat),∀z∈ew c d j m,mg z=true
 |0,_,_,z,hz=>by cases hz
 |m+1,d,j,z,hz=>by
  simp only[ew,List.mem_append]at hz;exact hz.elim (hc _ z) (kj hc m d (j+1) z)
theorem jm:∀(n:Nat) (T:TypeId) (d:D),∀z∈bn n T d,mg z=true
 |0,_,_,z,hz=>by cases hz
 |n+1,T,d,z,hz=>by
  simp only[bn]at hz;split at hz
  ·simp at hz;subst hz;rfl
  ·simp at hz;subst hz;rfl
  ·simp at hz;subst hz;rfl
  ·simp at hz;subst hz;rfl
  ·exact iK (jm n) _ _ _ z hz
  ·exact kj (fun d=>jm n _ d) _ _ _ z hz
  ·simp at hz;subst hz;rfl
theorem Es {H H':Hp} (n:Nat) (z:AV) (h:mg z=true):bg H' n z=bg H n z:=by
 cases n with
 |zero=>rfl
 |succ n=>cases z<;>simp only[mg]at h<;>first|rfl|(cases h;done)
theorem Iw {H H':Hp} (h:HLe H H'):∀(n:Nat) (x y:AV),bJ H n x=some y->bg H' n x=bg H n x:=by
 intro n
 induction n with
 |zero=>intro x y hx;simp[bJ]at hx
 |succ n ih=>
  intro x y hx;simp only[bJ]at hx;simp only[bg];cases x with
  |ptr i off=>
   replace hx:fa (lW H i off) ((getB H i).bind fun cs=>(bi (bJ H n) (cs.drop off)).map .eptr)=some y:=hx
   cases hg:getB H i with
   |none=>simp[hg,lW,oO hg,fa]at hx
   |some cs=>
    simp only[h.getB hg,hg];cases hm:bi (bJ H n) (cs.drop off)with
    |some ys=>rw[eC ih hm]
    |none=>
     have hd:∃T d,datB H i=some (T,d):=by
      cases hdp:lW H i off with
      |none=>rw[hdp,hg]at hx;simp[fa,hm]at hx
      |some v=>
       unfold lW at hdp;cases hdb:datB H i with
       |none=>rw[hdb]at hdp;cases hdp
       |some p=>exact⟨p.1,p.2,rfl⟩
     obtain⟨T,d,hd⟩:=hd;have hcs:cs=bn rowDepth T d:=by
      unfold datB at hd;split at hd
      ·rename_i T' d' hk;cases hd;simp[AM.getB,hk]at hg;exact hg.symm
      ·cases hd
     subst hcs;have key:∀z,z∈(bn rowDepth T d).drop off->bg H' n z=bg H n z:=fun z hz=>Es n z (jm _ _ _ z (List.mem_of_mem_drop hz))
     exact congrArg List.flatten (List.map_congr_left key)
  |sl i z off len=>
   cases hg:getB H i with
   |none=>simp[hg]at hx
   |some cs=>
    simp only[hg,h.getB hg,Option.bind_some]at hx ⊢;split at hx
    ·cases hm:bi (bJ H n) ((cs.drop off).take (len*z))with
     |none=>simp[hm]at hx
     |some ys=>rw[eC ih hm]
    ·cases hx
  |map i=>
   cases hg:getM H i with
   |none=>simp[hg]at hx
   |some es=>
    simp only[hg,h.getM hg,Option.bind_some]at hx ⊢;cases hm:bi (fun e=>(bJ H n e.2).map fun v=>(e.1,v)) es with
    |none=>simp[hm]at hx
    |some ys=>
     rw[eC (g:=fun e=>bg H n e.2) (g':=fun e=>bg H' n e.2) (fun e y he=>by
      cases hv:bJ H n e.2 with
      |none=>simp[hv]at he
      |some v=>exact ih _ _ hv) hm]
  |func f a b=>
   cases ha:bi (bJ H n) a with
   |none=>simp[ha]at hx
   |some a'=>
    cases hb:bi (bJ H n) b with
    |none=>simp[ha,hb]at hx
    |some b'=>simp only[eC ih ha,eC ih hb]
  |agg cs=>
   cases ha:bi (bJ H n) cs with
   |none=>simp[ha]at hx
   |some a'=>simp only[eC ih ha]
  |tup cs=>
   cases ha:bi (bJ H n) cs with
   |none=>simp[ha]at hx
   |some a'=>simp only[eC ih ha]
  |osl i T m=>
   cases hg:getL H i with
   |none=>simp[hg]at hx
   |some q=>simp only[hZ,h.getL hg,hg]
  |_=>rfl
theorem NC {P:Program} {H H':Hp} (h:HLe H H') {T:TypeId} {x v:AV} {lo hi mx:Option AV} (hs:jd P H T x lo hi mx=some v):jd P H' T x lo hi mx=some v:=by
 cases mx with
 |some m=>exact hs
 |none=>
  cases x with
  |ptr i off=>
   simp only[jd]at hs ⊢;cases hlo:lowOf lo with
   |none=>simp[hlo]at hs
   |some l=>
    simp only[hlo,Option.bind_some]at hs ⊢;unfold Aq at hs ⊢;cases hu:P.underlying T with
    |none=>simp[hu]at hs
    |some d=>
     cases d<;>simp only[hu]at hs ⊢ <;>(try (cases hs;done))
     rename_i n e';cases hz:sz P e' with
     |none=>simp[hz]at hs
     |some s=>
      cases hh:fB n hi with
      |none=>simp[hz,hh]at hs
      |some hi'=>
       cases hg:getB H i with
       |none=>simp[hz,hh,hg]at hs
       |some cs=>simp only[hz,hh,hg,h.getB hg,Option.bind_some]at hs ⊢;exact hs
  |_=>exact hs
theorem AO {H H':Hp} (h:HLe H H') {x:AV} {es:List (Value×AV)} (he:entriesOf H x=some es):entriesOf H' x=some es:=by
 cases x with
 |map i=>exact h.getM he
 |_=>exact he
theorem Ix {P:Program} {H H':Hp} (h:HLe H H') {T:TypeId} {ok:Bool} {x k v:AV} (hl:ef P T ok x k H=some v):ef P T ok x k H'=some v:=by
 unfold ef at hl ⊢;split at hl
 ·rename_i kT eT kv hu hkv;cases hkd:P.underlying kT with
  |none=>simp[hkd]at hl
  |some kd=>
   cases he:entriesOf H x with
   |none=>simp[hkd,he]at hl
   |some es=>
    simp only[hkd,he,Option.bind_some]at hl;simp only[AO h he,Option.bind_some];exact hl
 ·cases hl
theorem mpOf_le {H H':Hp} (h:HLe H H') {i:Nat} {kT vT:TypeId} {d:D} (hd:H9 H i kT vT=some d):H9 H' i kT vT=some d:=by
 unfold H9 at hd ⊢;cases hg:H.get i with
 |none=>rw[hg]at hd;cases hd
 |some k=>rw[h.1 i k hg];rw[hg]at hd;exact hd
theorem Iy {P:Program} {H H':Hp} (h:HLe H H') {T:TypeId} {ok:Bool} {x k v:AV} (hl:gz P T ok x k H=some v):gz P T ok x k H'=some v:=by
 unfold gz at hl ⊢;split at hl
 ·rename_i kT eT i hu;obtain⟨d,hd,hl⟩:=Option.bind_eq_some_iff.1 hl;simp only[mpOf_le h hd,Option.bind_some];exact hl
 ·exact hl
 ·cases hl
theorem Iz {P:Program} {H H':Hp} (h:HLe H H') {T:TypeId} {ok:Bool} {x k v:AV} (hl:jf P T ok x k H=some v):jf P T ok x k H'=some v:=by
 unfold jf at hl ⊢;cases hc:ef P T ok x k H with
 |some v'=>rw[hc]at hl;rw[Ix h hc];exact hl
 |none=>
  rw[hc]at hl;have hU:gz P T ok x k H=some v:=hl;have e:ef P T ok x k H'=ef P T ok x k H:=by
   unfold gz at hU;split at hU
   ·rename_i kT eT i hu;obtain⟨d,hd,_⟩:=Option.bind_eq_some_iff.1 hU;obtain⟨kb,hg,_⟩:=tw hd;have:entriesOf H' (.map i)=entriesOf H (.map i):=by simp only[entriesOf,getM,h.1 _ _ hg,hg]
    unfold ef;simp only[this]
   ·unfold ef;rfl
   ·cases hU
  rw[e,hc];exact Iy h hU
theorem lenA_le {P:Program} {H H':Hp} (h:HLe H H') {T:TypeId} {x v:AV} (hl:sJ P T H x=some v):sJ P T H' x=some v:=by
 cases x with
 |map i=>
  simp only[sJ]at hl ⊢;cases hg:H.get i with
  |none=>rw[hg]at hl;cases hl
  |some k=>rw[h.1 i k hg];rw[hg]at hl;exact hl
 |_=>exact hl
section
variable {env:Env} {r:Rec}
theorem tJ {P:Program} {H:Hp} {S T:TypeId} {x:AV} (h:sI P S=false):pT P H S T x=none:=by
 unfold sI at h;unfold pT;split
 ·rename_i e _ e1 _;rw[e1]at h;cases h
 ·rfl
theorem Qq {P:Program} {H H':Hp} (hl:HLe H H') {S T:TypeId} {x v:AV} (h:pT P H S T x=some v):pT P H' S T x=some v:=by
 unfold pT at h ⊢;split at h
 ·rename_i e e1 e2;split at h
  ·rename_i i z off len he;obtain⟨p,hp,h⟩:=Option.bind_eq_some_iff.1 h;simp only[rowsOf]at hp ⊢;obtain⟨cs,hg,hp⟩:=Option.bind_eq_some_iff.1 hp;rw[hl.getB hg];simp only[Option.bind_some];rw[hp];exact h
  ·cases h
 ·cases h
theorem Qr {P:Program} {H H':Hp} (hl:HLe H H') {S T:TypeId} {x v:AV} (h:mO P H S T x=some v):mO P H' S T x=some v:=by
 unfold mO at h ⊢;cases hc:yi P S T x with
 |some v'=>rw[hc]at h;exact h
 |none=>rw[hc]at h;exact Qq hl h
theorem Qs {P:Program} {T:TypeId} {H H2:Hp} {x v:AV} (hn:l6 P [T]=true) (h:sJ P T H x=some v):sJ P T H2 x=some v:=by
 unfold sJ at h ⊢;split at h
 ·rename_i i;simp only[l6]at hn;split at h
  ·unfold lenM at h;split at h
   ·rename_i hu;rw[hu]at hn;cases hn
   ·cases h
  ·unfold lenU at h;split at h
   ·rename_i hu;rw[hu]at hn;cases hn
   ·cases h
  ·cases h
 ·exact h
theorem ND {fr:Fr} {H H':Hp} {ty:TypeId} {op:Op} {v:AV} (hc:cls env op=0) (h:bD env r fr H ty op=some (v,H')):H'=H∧∀H2,bD env r fr H2 ty op=some (v,H2):=by
 cases op<;>simp only[cls]at hc<;>(try (exact absurd hc (by decide)))<;>simp only[bD]at h ⊢
 case move=>cases h;exact⟨rfl,fun _=>rfl⟩
 case assign=>cases h;exact⟨rfl,fun _=>rfl⟩
 case makeFunc f a b=>
  unfold kU at h ⊢;cases f<;>simp only at h<;>first|cases h
  exact⟨rfl,fun _=>rfl⟩
 case call c=>
  unfold ib at h ⊢;cases hcal:c.callee with
  |value g=>
   simp only[hcal]at hc;cases g<;>simp only at hc<;>first|(exact absurd hc (by decide))|skip
   rename_i f;cases hp:env.isPure f<;>simp[hp]at hc
  |invoke x m=>simp only[hcal]at hc;exact absurd hc (by decide)
  |builtin b=>
   simp only[hcal]at hc h ⊢;cases b<;>simp only at hc<;>first|(exact absurd hc (by decide))|skip
   ·simp only[dq,K0]at h ⊢;split at h
    ·obtain⟨hx,rfl⟩:=bZ h;exact⟨rfl,fun H2=>by simp[vA,hx]⟩
    ·cases h
   ·simp only[dq,DW]at h ⊢;split at h
    ·rename_i x T e1 e2;obtain⟨hx,rfl⟩:=bZ h;refine⟨rfl,fun H2=> ?_⟩
     have hn:l6 env.P [T]=true:=by
      rw[e2]at hc;cases hn:l6 env.P [T]with
      |true=>rfl
      |false=>rw[hn]at hc;cases hc
     have:sJ env.P T H2 x=some v:=Qs hn hx;simp[vA,this]
    ·cases h
   ·simp only[dq,K2]at h ⊢;split at h
    ·obtain⟨hx,rfl⟩:=bZ h;exact⟨rfl,fun H2=>by simp[vA,hx]⟩
    ·obtain⟨hx,rfl⟩:=bZ h;exact⟨rfl,fun H2=>by simp[vA,hx]⟩
    ·cases h
   ·simp only[dq,K1]at h ⊢;split at h
    ·obtain⟨hx,rfl⟩:=bZ h;exact⟨rfl,fun H2=>by simp[vA,hx]⟩
    ·obtain⟨hx,rfl⟩:=bZ h;exact⟨rfl,fun H2=>by simp[vA,hx]⟩
    ·cases h
 case convert S T x=>
  have hs:sI env.P S=false:=by
   cases hs:sI env.P S with
   |false=>rfl
   |true=>rw[hs]at hc;cases hc
  unfold oA at h ⊢;split at h
  ·rename_i v' hv;cases h;exact⟨rfl,fun H2=>rfl⟩
  ·rename_i hv;obtain⟨hx,rfl⟩:=bZ h;refine⟨rfl,fun H2=> ?_⟩
   have:mO env.P H2 S T (opd fr x)=some v:=by
    rw[<- hx];unfold mO;rw[tJ hs,tJ hs]
   simp only[this,Option.bind_some]
 case indexAddr T x i=>
  obtain⟨hx,rfl⟩:=bZ h;refine⟨rfl,fun H2=> ?_⟩
  cases x with
  |global g=>cases hc
  |_=>simp only[mL]at hx ⊢;simp only[vA,hx,Option.bind_some]
 case range T x=>cases hm:fF env.P T<;>rw[hm]at hc<;>exact absurd hc (by decide)
 all_goals (obtain⟨hx,rfl⟩:=bZ h;exact⟨rfl,fun H2=>by simp[vA,hx]⟩)
theorem Qt {P:Program} {H H2:Hp} (hl:HLe H H2) {T:TypeId} {o:Operand} {x ix:AV}:mL P H2 T o x ix=mL P H T o x ix:=by
 unfold mL idxG;simp only[hl.glob]
theorem Et {P:Program} {H H2:Hp} (hl:HLe H H2) {T:TypeId} {o:Operand} {x ix:AV}:ff P H2 T o x ix=ff P H T o x ix:=by
 unfold ff qW;simp only[hl.glob]
theorem Qu {fr:Fr} {H H':Hp} {ty:TypeId} {op:Op} {v:AV} (hc:cls env op=1) (h:bD env r fr H ty op=some (v,H')):H'=H∧∀H2,HLe H H2->bD env r fr H2 ty op=some (v,H2):=by
 cases op<;>simp only[cls]at hc<;>(try (exact absurd hc (by decide)))<;>simp only[bD]at h ⊢
 case range T x=>cases hm:fF env.P T<;>rw[hm]at hc<;>exact absurd hc (by decide)
 case load T x=>
  obtain⟨hx,rfl⟩:=bZ h;exact⟨rfl,fun H2 hl=>by simp[vA,Qp hl hx]⟩
 case indexAddr T x i=>
  obtain⟨hx,rfl⟩:=bZ h;refine⟨rfl,fun H2 hl=> ?_⟩
  rw[Qt hl];simp only[vA,hx,Option.bind_some]
 case slice T x lo hi mx=>
  obtain⟨hx,rfl⟩:=bZ h;refine⟨rfl,fun H2 hl=> ?_⟩
  have:qY env.P fr H2 T x lo hi mx=some v:=NC hl hx;simp[vA,this]
 case convert S T x=>
  unfold oA at h ⊢;split at h
  ·rename_i v' hv;cases h;exact⟨rfl,fun H2 _=>rfl⟩
  ·rename_i hv;obtain⟨hx,rfl⟩:=bZ h;exact⟨rfl,fun H2 hl=>by simp only[Qr hl hx,Option.bind_some]⟩
 case lookup T x k ok=>
  obtain⟨hx,rfl⟩:=bZ h;refine⟨rfl,fun H2 hl=> ?_⟩
  have:jf env.P T ok (opd fr x) (opd fr k) H2=some v:=Iz hl hx;simp[vA,this]
 case call c=>
  unfold ib at h ⊢;cases hcal:c.callee with
  |value g=>
   simp only[hcal]at hc h ⊢;cases g<;>simp only at hc<;>first|(exact absurd hc (by decide))|skip
   rename_i f;cases hp:env.isPure f with
   |false=>simp[hp]at hc
   |true=>
    simp only[opd,sP,gA,hp,cond_true,List.nil_append,List.append_nil]at h ⊢;cases ha:bi (bJ H aB) (c.args.toList.map (opd fr))with
    |none=>simp[ha]at h
    |some args'=>
     simp only[ha,Option.bind_some]at h;cases hcp:fi r H.fresh f args' with
     |none=>simp[hcp]at h
     |some p=>
      simp only[hcp,Option.bind_some]at h;cases hfl:(List.all (c.args.toList.map (opd fr)) (cE aB)||p.2)with
      |false=>simp only[hfl,cond_false]at h;cases h
      |true=>
       simp only[hfl,cond_true,Option.some.injEq,Prod.mk.injEq]at h;obtain⟨rfl,rfl⟩:=h;refine⟨rfl,fun H2 hl=> ?_⟩
       simp only[eX (Lb hl aB) ha,hl.fresh,hcp,Option.bind_some,hfl,cond_true]
  |invoke x m=>simp only[hcal]at hc;exact absurd hc (by decide)
  |builtin b=>
   simp only[hcal]at hc h ⊢;cases b<;>simp only at hc<;>first|(exact absurd hc (by decide))|skip
   simp only[dq,DW]at h ⊢;split at h
   ·rename_i x T e1 e2;obtain⟨hx,rfl⟩:=bZ h;refine⟨rfl,fun H2 hl=> ?_⟩
    have:sJ env.P T H2 x=some v:=lenA_le hl hx;simp[vA,this]
   ·cases h
theorem Qv {fr:Fr} {op:Op} (hc:cls env op=0) (H H2:Hp):obl env fr H2 op=obl env fr H op:=by
 cases op<;>simp only[cls]at hc<;>(try (exact absurd hc (by decide)))<;>simp only[obl]
 case indexAddr T x i=>
  cases x with
  |global g=>cases hc
  |_=>rfl
 case call c=>
  cases hcal:c.callee with
  |value g=>
   simp only[hcal]at hc;cases g<;>simp only at hc<;>first|(exact absurd hc (by decide))|skip
   rename_i f;cases hp:env.isPure f<;>simp[hp]at hc
  |invoke x m=>rfl
  |builtin b=>
   simp only[hcal]at hc;cases b<;>simp only at hc<;>first|rfl|(exact absurd hc (by decide))
theorem nr {fr:Fr} {H:Hp} {ty:TypeId} {op:Op} {p:AV×Hp} (h1:aX (obl env fr H op)=true) (h2:bD env r fr H ty op=some p):dD env r fr H ty op=some p:=by
 simp only[dD,h1,cond_true,h2]
theorem tK {fr:Fr} {H H':Hp} {ty:TypeId} {op:Op} {v:AV} (hc:cls env op=0) (h:dD env r fr H ty op=some (v,H')):H'=H∧∀H2,dD env r fr H2 ty op=some (v,H2):=by
 obtain⟨hob,h0⟩:=dO h;obtain⟨h1,h2⟩:=ND hc h0;exact⟨h1,fun H2=>nr (by rw[Qv hc H H2];exact hob) (h2 H2)⟩
theorem Qw {P:Program} {H H2:Hp} (hl:HLe H H2) {T:TypeId} {x v:AV} (h:dW P H T x=some v):ez H2 x=ez H x:=by
 cases x with
 |oel i T' n off=>
  have hg:∃q,getV H i T'=some q:=by
   cases hg:getV H i T' with
   |some q=>exact⟨q,rfl⟩
   |none=>
    unfold dW at h;split at h
    ·obtain⟨z,_,h⟩:=Option.bind_eq_some_iff.1 h;simp[ldN,hg]at h
    ·simp[ld1,yb,hg]at h
    ·cases h
  obtain⟨q,hg⟩:=hg;simp only[ez,hg,hl.getV hg]
 |_=>rfl
theorem Eu {H H':Hp} (h:HLe H H') {n:Nat} {xs ys:List AV} (hm:bi (bJ H n) xs=some ys):(xs.map (bg H' n)).flatten=(xs.map (bg H n)).flatten:=by
 rw[eC (Iw h n) hm]
theorem Qx {fr:Fr} {H H':Hp} {ty:TypeId} {op:Op} {v:AV} (hc:cls env op=1) (h:bD env r fr H ty op=some (v,H')) (H2:Hp) (hl:HLe H H2):obl env fr H2 op=obl env fr H op:=by
 cases op<;>simp only[cls]at hc<;>(try (exact absurd hc (by decide)))<;>simp only[bD]at h<;>simp only[obl]
 case load T x=>exact Qw hl (bZ h).1
 case indexAddr T x i=>exact Et hl
 case call c=>
  unfold ib at h;cases hcal:c.callee with
  |value g=>
   simp only[hcal]at hc h ⊢;cases g<;>simp only at hc<;>first|(exact absurd hc (by decide))|skip
   rename_i f;cases hp:env.isPure f with
   |false=>simp[hp]at hc
   |true=>
    simp only[opd,sP,gA,hp,cond_true,List.nil_append,List.append_nil]at h;simp only[opd,mS,fO,hp,cond_true,List.nil_append,List.append_nil];cases ha:bi (bJ H aB) (c.args.toList.map (opd fr))with
    |none=>simp[ha]at h
    |some args'=>rw[eX (Lb hl aB) ha,hl.fresh,Eu hl ha]
  |invoke x m=>rfl
  |builtin b=>
   simp only[hcal]at hc ⊢;cases b<;>simp only at hc<;>first|rfl|(exact absurd hc (by decide))
theorem q5 {fr:Fr} {H H':Hp} {ty:TypeId} {op:Op} {v:AV} (hc:cls env op=1) (h:dD env r fr H ty op=some (v,H')):H'=H∧∀H2,HLe H H2->dD env r fr H2 ty op=some (v,H2):=by
 obtain⟨hob,h0⟩:=dO h;obtain⟨h1,h2⟩:=Qu hc h0;exact⟨h1,fun H2 hl=>nr (by rw[Qx hc h0 H2 hl];exact hob) (h2 H2 hl)⟩
end
end Go.AM
