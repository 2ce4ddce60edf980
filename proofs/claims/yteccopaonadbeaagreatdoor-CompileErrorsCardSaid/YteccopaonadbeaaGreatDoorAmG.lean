/-
  Regions that draw their order: operations that make a block; heaps that differ by new blocks; operands.
-/
import Derived.Test.YteccopaonadbeaaGreatDoorAmF
set_option linter.unusedVariables false
set_option linter.unusedSimpArgs false
namespace Go.AM
def HLe (H H':Hp):Prop:=(∀i k,H.get i=some k→H'.get i=some k)∧H'.gl=H.gl
theorem HLe.glob {H H':Hp} (h:HLe H H') (g:Nat):H'.glob g=H.glob g:=by unfold Hp.glob;rw[h.2]
theorem HLe.fresh {H H':Hp} (h:HLe H H'):H'.fresh=H.fresh:=by unfold Hp.fresh;rw[h.2]
theorem HLe.getB {H H':Hp} (h:HLe H H') {i:Nat} {cs:List AV} (hg:getB H i=some cs):AM.getB H' i=some cs:=by
 obtain⟨k,hk,_⟩:=getB_get hg
 have:=h.1 i k hk
 simp only[AM.getB,this]
 simpa only[AM.getB,hk]using hg
theorem datB_getB {H:Hp} {i:Nat} (hg:getB H i=none):datB H i=none:=by
 unfold AM.getB at hg
 unfold datB
 split
 ·rename_i T d hk;rw[hk]at hg;cases hg
 ·rfl
theorem HLe.datB {H H':Hp} (h:HLe H H') {i:Nat} {cs:List AV} (hg:AM.getB H i=some cs):AM.datB H' i=AM.datB H i:=by
 obtain⟨k,hk,_⟩:=getB_get hg
 have:=h.1 i k hk
 simp only[AM.datB,this,hk]
theorem HLe.getM {H H':Hp} (h:HLe H H') {i:Nat} {es:List (Value×AV)} (hg:getM H i=some es):AM.getM H' i=some es:=by
 have:=h.1 i _ (getM_get hg)
 simp[AM.getM,this]
theorem HLe.getL {H H':Hp} (h:HLe H H') {i:Nat} {q:TypeId×D} (hg:AM.getL H i=some q):AM.getL H' i=some q:=by
 have:=h.1 i _ (getL_get hg)
 simp[AM.getL,this]
theorem HLe.getV {H H':Hp} (h:HLe H H') {i:Nat} {T:TypeId} {q:TypeId×D} (hg:AM.getV H i T=some q):AM.getV H' i T=some q:=by
 unfold AM.getV at hg ⊢
 cases hk:H.get i with
 |none=>rw[hk]at hg;cases hg
 |some k=>rw[h.1 i _ hk];rw[hk]at hg;exact hg
theorem ld1_le {H H':Hp} (h:HLe H H') {x v:AV} (hl:ld1 H x=some v):ld1 H' x=some v:=by
 cases x with
 |ptr i off=>
  simp only[ld1]at hl ⊢
  cases hg:getB H i with
  |none=>simp[hg]at hl
  |some cs=>rw[h.getB hg];simpa[hg]using hl
 |oel i T n off=>
  simp only[ld1,elemL]at hl ⊢
  cases hg:getV H i T with
  |none=>simp[hg]at hl
  |some q=>rw[h.getV hg];simpa[hg]using hl
 |sc v=>
  cases v with
  |pointer a=>
   cases a with
   |none=>exact hl
   |some a=>
    obtain⟨g,off,spot⟩:=a
    cases spot with
    |some s=>exact hl
    |none=>simp only[ld1,h.glob]at hl ⊢;exact hl
  |_=>exact hl
 |_=>exact hl
theorem ldN_le {H H':Hp} (h:HLe H H') {n:Nat} {x v:AV} (hl:ldN H n x=some v):ldN H' n x=some v:=by
 cases x with
 |ptr i off=>
  simp only[ldN]at hl ⊢
  cases hg:getB H i with
  |none=>simp[hg,datAt,datB_getB hg,orAV]at hl
  |some cs=>
   rw[h.getB hg]
   simp only[datAt,h.datB hg]
   simpa[hg,datAt]using hl
 |oel i T m off=>
  simp only[ldN]at hl ⊢
  cases hg:getV H i T with
  |none=>simp[hg]at hl
  |some q=>rw[h.getV hg];simpa[hg]using hl
 |sc v=>
  cases v with
  |pointer a=>
   cases a with
   |none=>exact hl
   |some a=>
    obtain⟨g,off,spot⟩:=a
    cases spot with
    |some s=>exact hl
    |none=>simp only[ldN,h.glob]at hl ⊢;exact hl
  |_=>exact hl
 |_=>exact hl
theorem loadA_le {P:Program} {H H':Hp} (h:HLe H H') {T:TypeId} {x v:AV} (hl:loadA P H T x=some v):loadA P H' T x=some v:=by
 unfold loadA at hl ⊢
 cases ha:aggB P T with
 |none=>simp[ha]at hl
 |some b=>
  cases b with
  |false=>simp only[ha]at hl ⊢;exact ld1_le h hl
  |true=>
   simp only[ha]at hl ⊢
   cases hs:sz P T with
   |none=>simp[hs]at hl
   |some n=>simp only[hs,Option.bind_some]at hl ⊢;exact ldN_le h hl
theorem mapO_le {α β:Type} {f g:α→Option β} (h:∀x y,f x=some y→g x=some y):∀{xs:List α} {ys:List β},mapO f xs=some ys→mapO g xs=some ys
 | [],_,hm=>hm
 |x::xs,ys,hm=>by
  simp only[mapO]at hm ⊢
  cases hx:f x with
  |none=>simp[hx]at hm
  |some y=>
   cases hr:mapO f xs with
   |none=>simp[hx,hr]at hm
   |some zs=>rw[h x y hx];simp[hx,hr]at hm;simp[mapO_le h hr,hm]
theorem expo_le {H H':Hp} (h:HLe H H'):∀(n:Nat) (x y:AV),expo H n x=some y→expo H' n x=some y:=by
 intro n
 induction n with
 |zero=>intro x y hx;simp[expo]at hx
 |succ n ih=>
  intro x y hx
  simp only[expo]at hx ⊢
  cases x with
  |ptr i off=>
   replace hx:orAV (datP H i off) ((getB H i).bind fun cs=>(mapO (expo H n) (cs.drop off)).map .eptr)=some y:=hx
   show orAV (datP H' i off) ((getB H' i).bind fun cs=>(mapO (expo H' n) (cs.drop off)).map .eptr)=some y
   cases hg:getB H i with
   |none=>simp[hg,datP,datB_getB hg,orAV]at hx
   |some cs=>
    have hd:datP H' i off=datP H i off:=by simp only[datP,h.datB hg]
    rw[hd]
    cases hdp:datP H i off with
    |some v=>rw[hdp]at hx;exact hx
    |none=>
     rw[hdp]at hx
     simp only[orAV]at hx ⊢
     cases hm:mapO (expo H n) (cs.drop off)with
     |none=>simp[hg,hm]at hx
     |some ys=>simp only[h.getB hg,Option.bind_some,mapO_le ih hm];simpa[hg,hm]using hx
  |sl i z off len=>
   cases hg:getB H i with
   |none=>simp[hg]at hx
   |some cs=>
    simp only[hg,h.getB hg,Option.bind_some]at hx ⊢
    split at hx
    ·rename_i hf
     rw[if_pos hf]
     cases hm:mapO (expo H n) ((cs.drop off).take (len*z))with
     |none=>simp[hm]at hx
     |some ys=>rw[mapO_le ih hm];simpa[hm]using hx
    ·cases hx
  |map i=>
   cases hg:getM H i with
   |none=>simp[hg]at hx
   |some es=>
    cases hm:mapO (fun e=>(expo H n e.2).map fun v=>(e.1,v)) es with
    |none=>simp[hg,hm]at hx
    |some ys=>
     have hm':mapO (fun e=>(expo H' n e.2).map fun v=>(e.1,v)) es=some ys:=mapO_le (fun e y he=>by
      cases hv:expo H n e.2 with
      |none=>simp[hv]at he
      |some v=>rw[ih _ _ hv];simpa[hv]using he) hm
     simp only[h.getM hg,Option.bind_some,hm'];simpa[hg,hm]using hx
  |func f a b=>
   cases ha:mapO (expo H n) a with
   |none=>simp[ha]at hx
   |some a'=>
    cases hb:mapO (expo H n) b with
    |none=>simp[ha,hb]at hx
    |some b'=>simp only[mapO_le ih ha,mapO_le ih hb,Option.bind_some];simpa[ha,hb]using hx
  |agg cs=>
   cases ha:mapO (expo H n) cs with
   |none=>simp[ha]at hx
   |some a'=>simp only[mapO_le ih ha];simpa[ha]using hx
  |tup cs=>
   cases ha:mapO (expo H n) cs with
   |none=>simp[ha]at hx
   |some a'=>simp only[mapO_le ih ha];simpa[ha]using hx
  |osl i T m=>
   cases hg:getL H i with
   |none=>simp[hg]at hx
   |some q=>simp only[h.getL hg];simpa[hg]using hx
  |_=>exact hx
theorem mapO_all {α β:Type} {f:α→Option β} {g g':α→List Bool} (h:∀x y,f x=some y→g' x=g x):∀{xs:List α} {ys:List β},mapO f xs=some ys→xs.map g'=xs.map g
 | [],_,_=>rfl
 |x::xs,ys,hm=>by
  simp only[mapO]at hm
  cases hx:f x with
  |none=>simp[hx]at hm
  |some y=>
   cases hr:mapO f xs with
   |none=>simp[hx,hr]at hm
   |some zs=>simp only[List.map_cons,h x y hx,mapO_all h hr]
def plainA:AV→Bool
 | .undef=>true
 | .ui _ _=>true
 | .ub _=>true
 | .us _=>true
 | .rows _ _=>true
 |_=>false
theorem fieldCells_plain {c:TypeId→D→List AV} (hc:∀T d,∀z∈c T d,plainA z=true):∀(fs:List Field) (d:D) (j:Nat),∀z∈fieldCells c d j fs,plainA z=true
 | [],_,_,z,hz=>by cases hz
 |f::fs,d,j,z,hz=>by
  simp only[fieldCells,List.mem_append]at hz
  exact hz.elim (hc _ _ z) (fieldCells_plain hc fs d (j+1) z)
theorem arrCells_plain {c:D→List AV} (hc:∀d,∀z∈c d,plainA z=true):∀(m:Nat) (d:D) (j:Nat),∀z∈arrCells c d j m,plainA z=true
 |0,_,_,z,hz=>by cases hz
 |m+1,d,j,z,hz=>by
  simp only[arrCells,List.mem_append]at hz
  exact hz.elim (hc _ z) (arrCells_plain hc m d (j+1) z)
theorem cellsT_plain:∀(n:Nat) (T:TypeId) (d:D),∀z∈cellsT n T d,plainA z=true
 |0,_,_,z,hz=>by cases hz
 |n+1,T,d,z,hz=>by
  simp only[cellsT]at hz
  split at hz
  ·simp at hz;subst hz;rfl
  ·simp at hz;subst hz;rfl
  ·simp at hz;subst hz;rfl
  ·simp at hz;subst hz;rfl
  ·exact fieldCells_plain (cellsT_plain n) _ _ _ z hz
  ·exact arrCells_plain (fun d=>cellsT_plain n _ d) _ _ _ z hz
  ·simp at hz;subst hz;rfl
theorem expoObl_dat {H H':Hp} (n:Nat) (z:AV) (h:plainA z=true):expoObl H' n z=expoObl H n z:=by
 cases n with
 |zero=>rfl
 |succ n=>cases z<;>simp only[plainA]at h<;>first|rfl|(cases h;done)
theorem expoObl_le {H H':Hp} (h:HLe H H'):∀(n:Nat) (x y:AV),expo H n x=some y→expoObl H' n x=expoObl H n x:=by
 intro n
 induction n with
 |zero=>intro x y hx;simp[expo]at hx
 |succ n ih=>
  intro x y hx
  simp only[expo]at hx
  simp only[expoObl]
  cases x with
  |ptr i off=>
   replace hx:orAV (datP H i off) ((getB H i).bind fun cs=>(mapO (expo H n) (cs.drop off)).map .eptr)=some y:=hx
   cases hg:getB H i with
   |none=>simp[hg,datP,datB_getB hg,orAV]at hx
   |some cs=>
    simp only[h.getB hg,hg]
    cases hm:mapO (expo H n) (cs.drop off)with
    |some ys=>rw[mapO_all ih hm]
    |none=>
     have hd:∃T d,datB H i=some (T,d):=by
      cases hdp:datP H i off with
      |none=>rw[hdp,hg]at hx;simp[orAV,hm]at hx
      |some v=>
       unfold datP at hdp
       cases hdb:datB H i with
       |none=>rw[hdb]at hdp;cases hdp
       |some p=>exact⟨p.1,p.2,rfl⟩
     obtain⟨T,d,hd⟩:=hd
     have hcs:cs=cellsT rowDepth T d:=by
      unfold datB at hd
      split at hd
      ·rename_i T' d' hk;cases hd;simp[AM.getB,hk]at hg;exact hg.symm
      ·cases hd
     subst hcs
     have key:∀z,z∈(cellsT rowDepth T d).drop off→expoObl H' n z=expoObl H n z:=fun z hz=>expoObl_dat n z (cellsT_plain _ _ _ z (List.mem_of_mem_drop hz))
     exact congrArg List.flatten (List.map_congr_left key)
  |sl i z off len=>
   cases hg:getB H i with
   |none=>simp[hg]at hx
   |some cs=>
    simp only[hg,h.getB hg,Option.bind_some]at hx ⊢
    split at hx
    ·cases hm:mapO (expo H n) ((cs.drop off).take (len*z))with
     |none=>simp[hm]at hx
     |some ys=>rw[mapO_all ih hm]
    ·cases hx
  |map i=>
   cases hg:getM H i with
   |none=>simp[hg]at hx
   |some es=>
    simp only[hg,h.getM hg,Option.bind_some]at hx ⊢
    cases hm:mapO (fun e=>(expo H n e.2).map fun v=>(e.1,v)) es with
    |none=>simp[hm]at hx
    |some ys=>
     rw[mapO_all (g:=fun e=>expoObl H n e.2) (g':=fun e=>expoObl H' n e.2) (fun e y he=>by
      cases hv:expo H n e.2 with
      |none=>simp[hv]at he
      |some v=>exact ih _ _ hv) hm]
  |func f a b=>
   cases ha:mapO (expo H n) a with
   |none=>simp[ha]at hx
   |some a'=>
    cases hb:mapO (expo H n) b with
    |none=>simp[ha,hb]at hx
    |some b'=>simp only[mapO_all ih ha,mapO_all ih hb]
  |agg cs=>
   cases ha:mapO (expo H n) cs with
   |none=>simp[ha]at hx
   |some a'=>simp only[mapO_all ih ha]
  |tup cs=>
   cases ha:mapO (expo H n) cs with
   |none=>simp[ha]at hx
   |some a'=>simp only[mapO_all ih ha]
  |osl i T m=>
   cases hg:getL H i with
   |none=>simp[hg]at hx
   |some q=>simp only[oslObl,h.getL hg,hg]
  |_=>rfl
theorem sliceA_le {P:Program} {H H':Hp} (h:HLe H H') {T:TypeId} {x v:AV} {lo hi mx:Option AV} (hs:sliceA P H T x lo hi mx=some v):sliceA P H' T x lo hi mx=some v:=by
 cases mx with
 |some m=>exact hs
 |none=>
  cases x with
  |ptr i off=>
   simp only[sliceA]at hs ⊢
   cases hlo:lowOf lo with
   |none=>simp[hlo]at hs
   |some l=>
    simp only[hlo,Option.bind_some]at hs ⊢
    unfold sliceP at hs ⊢
    cases hu:P.underlying T with
    |none=>simp[hu]at hs
    |some d=>
     cases d<;>simp only[hu]at hs ⊢ <;>(try (cases hs;done))
     rename_i n e'
     cases hz:sz P e' with
     |none=>simp[hz]at hs
     |some s=>
      cases hh:highOf n hi with
      |none=>simp[hz,hh]at hs
      |some hi'=>
       cases hg:getB H i with
       |none=>simp[hz,hh,hg]at hs
       |some cs=>simp only[hz,hh,hg,h.getB hg,Option.bind_some]at hs ⊢;exact hs
  |_=>exact hs
theorem entriesOf_le {H H':Hp} (h:HLe H H') {x:AV} {es:List (Value×AV)} (he:entriesOf H x=some es):entriesOf H' x=some es:=by
 cases x with
 |map i=>exact h.getM he
 |_=>exact he
theorem lookupK_le {P:Program} {H H':Hp} (h:HLe H H') {T:TypeId} {ok:Bool} {x k v:AV} (hl:lookupK P T ok x k H=some v):lookupK P T ok x k H'=some v:=by
 unfold lookupK at hl ⊢
 split at hl
 ·rename_i kT eT kv hu hkv
  cases hkd:P.underlying kT with
  |none=>simp[hkd]at hl
  |some kd=>
   cases he:entriesOf H x with
   |none=>simp[hkd,he]at hl
   |some es=>
    simp only[hkd,he,Option.bind_some]at hl
    simp only[entriesOf_le h he,Option.bind_some]
    exact hl
 ·cases hl
theorem mpOf_le {H H':Hp} (h:HLe H H') {i:Nat} {kT vT:TypeId} {d:D} (hd:mpOf H i kT vT=some d):mpOf H' i kT vT=some d:=by
 unfold mpOf at hd ⊢
 cases hg:H.get i with
 |none=>rw[hg]at hd;cases hd
 |some k=>rw[h.1 i k hg];rw[hg]at hd;exact hd
theorem lookupU_le {P:Program} {H H':Hp} (h:HLe H H') {T:TypeId} {ok:Bool} {x k v:AV} (hl:lookupU P T ok x k H=some v):lookupU P T ok x k H'=some v:=by
 unfold lookupU at hl ⊢
 split at hl
 ·rename_i kT eT i hu
  obtain⟨d,hd,hl⟩:=Option.bind_eq_some_iff.1 hl
  simp only[mpOf_le h hd,Option.bind_some]
  exact hl
 ·exact hl
 ·cases hl
theorem lookupA_le {P:Program} {H H':Hp} (h:HLe H H') {T:TypeId} {ok:Bool} {x k v:AV} (hl:lookupA P T ok x k H=some v):lookupA P T ok x k H'=some v:=by
 unfold lookupA at hl ⊢
 cases hc:lookupK P T ok x k H with
 |some v'=>rw[hc]at hl;rw[lookupK_le h hc];exact hl
 |none=>
  rw[hc]at hl
  have hU:lookupU P T ok x k H=some v:=hl
  have e:lookupK P T ok x k H'=lookupK P T ok x k H:=by
   unfold lookupU at hU
   split at hU
   ·rename_i kT eT i hu
    obtain⟨d,hd,_⟩:=Option.bind_eq_some_iff.1 hU
    obtain⟨kb,hg,_⟩:=mpOf_map hd
    have:entriesOf H' (.map i)=entriesOf H (.map i):=by simp only[entriesOf,getM,h.1 _ _ hg,hg]
    unfold lookupK
    simp only[this]
   ·unfold lookupK;rfl
   ·cases hU
  rw[e,hc];exact lookupU_le h hU
theorem lenA_le {P:Program} {H H':Hp} (h:HLe H H') {T:TypeId} {x v:AV} (hl:lenA P T H x=some v):lenA P T H' x=some v:=by
 cases x with
 |map i=>
  simp only[lenA]at hl ⊢
  cases hg:H.get i with
  |none=>rw[hg]at hl;cases hl
  |some k=>rw[h.1 i k hg];rw[hg]at hl;exact hl
 |_=>exact hl
section
variable {env:Env} {r:Rec}
theorem textH_none {P:Program} {H:Hp} {S T:TypeId} {x:AV} (h:isSlT P S=false):textH P H S T x=none:=by
 unfold isSlT at h
 unfold textH
 split
 ·rename_i e _ e1 _
  rw[e1]at h;cases h
 ·rfl
theorem textH_le {P:Program} {H H':Hp} (hl:HLe H H') {S T:TypeId} {x v:AV} (h:textH P H S T x=some v):textH P H' S T x=some v:=by
 unfold textH at h ⊢
 split at h
 ·rename_i e e1 e2
  split at h
  ·rename_i i z off len he
   obtain⟨p,hp,h⟩:=Option.bind_eq_some_iff.1 h
   simp only[rowsOf]at hp ⊢
   obtain⟨cs,hg,hp⟩:=Option.bind_eq_some_iff.1 hp
   rw[hl.getB hg]
   simp only[Option.bind_some]
   rw[hp]
   exact h
  ·cases h
 ·cases h
theorem convH_le {P:Program} {H H':Hp} (hl:HLe H H') {S T:TypeId} {x v:AV} (h:convH P H S T x=some v):convH P H' S T x=some v:=by
 unfold convH at h ⊢
 cases hc:convA P S T x with
 |some v'=>rw[hc]at h;exact h
 |none=>rw[hc]at h;exact textH_le hl h
theorem lenA_any {P:Program} {T:TypeId} {H H2:Hp} {x v:AV} (hn:noMapT P [T]=true) (h:lenA P T H x=some v):lenA P T H2 x=some v:=by
 unfold lenA at h ⊢
 split at h
 ·rename_i i
  simp only[noMapT]at hn
  split at h
  ·unfold lenM at h
   split at h
   ·rename_i hu
    rw[hu]at hn;cases hn
   ·cases h
  ·unfold lenU at h
   split at h
   ·rename_i hu
    rw[hu]at hn;cases hn
   ·cases h
  ·cases h
 ·exact h
theorem cls0_any0 {fr:Fr} {H H':Hp} {ty:TypeId} {op:Op} {v:AV} (hc:cls env op=0) (h:evOp0 env r fr H ty op=some (v,H')):H'=H∧∀H2,evOp0 env r fr H2 ty op=some (v,H2):=by
 cases op<;>simp only[cls]at hc<;>(try (exact absurd hc (by decide)))<;>simp only[evOp0]at h ⊢
 case move=>cases h;exact⟨rfl,fun _=>rfl⟩
 case assign=>cases h;exact⟨rfl,fun _=>rfl⟩
 case makeFunc f a b=>
  unfold makeFuncA at h ⊢
  cases f<;>simp only at h<;>first|cases h
  exact⟨rfl,fun _=>rfl⟩
 case call c=>
  unfold callOp at h ⊢
  cases hcal:c.callee with
  |value g=>
   simp only[hcal]at hc
   cases g<;>simp only at hc<;>first|(exact absurd hc (by decide))|skip
   rename_i f
   cases hp:env.isPure f<;>simp[hp]at hc
  |invoke x m=>simp only[hcal]at hc;exact absurd hc (by decide)
  |builtin b=>
   simp only[hcal]at hc h ⊢
   cases b<;>simp only at hc<;>first|(exact absurd hc (by decide))|skip
   ·simp only[builtinA,capOp]at h ⊢
    split at h
    ·obtain⟨hx,rfl⟩:=vA_some h;exact⟨rfl,fun H2=>by simp[vA,hx]⟩
    ·cases h
   ·simp only[builtinA,lenOp]at h ⊢
    split at h
    ·rename_i x T e1 e2
     obtain⟨hx,rfl⟩:=vA_some h
     refine⟨rfl,fun H2=> ?_⟩
     have hn:noMapT env.P [T]=true:=by
      rw[e2]at hc
      cases hn:noMapT env.P [T]with
      |true=>rfl
      |false=>rw[hn]at hc;cases hc
     have:lenA env.P T H2 x=some v:=lenA_any hn hx
     simp[vA,this]
    ·cases h
   ·simp only[builtinA,maxOp]at h ⊢
    split at h
    ·obtain⟨hx,rfl⟩:=vA_some h;exact⟨rfl,fun H2=>by simp[vA,hx]⟩
    ·obtain⟨hx,rfl⟩:=vA_some h;exact⟨rfl,fun H2=>by simp[vA,hx]⟩
    ·cases h
   ·simp only[builtinA,minOp]at h ⊢
    split at h
    ·obtain⟨hx,rfl⟩:=vA_some h;exact⟨rfl,fun H2=>by simp[vA,hx]⟩
    ·obtain⟨hx,rfl⟩:=vA_some h;exact⟨rfl,fun H2=>by simp[vA,hx]⟩
    ·cases h
 case convert S T x=>
  have hs:isSlT env.P S=false:=by
   cases hs:isSlT env.P S with
   |false=>rfl
   |true=>rw[hs]at hc;cases hc
  unfold convOp at h ⊢
  split at h
  ·rename_i v' hv
   cases h
   exact⟨rfl,fun H2=>rfl⟩
  ·rename_i hv
   obtain⟨hx,rfl⟩:=vA_some h
   refine⟨rfl,fun H2=> ?_⟩
   have:convH env.P H2 S T (opd fr x)=some v:=by
    rw[← hx];unfold convH;rw[textH_none hs,textH_none hs]
   simp only[this,Option.bind_some]
 case indexAddr T x i=>
  obtain⟨hx,rfl⟩:=vA_some h
  refine⟨rfl,fun H2=> ?_⟩
  cases x with
  |global g=>cases hc
  |_=>simp only[idxOp]at hx ⊢;simp only[vA,hx,Option.bind_some]
 case range T x=>cases hm:isMapT env.P T<;>rw[hm]at hc<;>exact absurd hc (by decide)
 all_goals (obtain⟨hx,rfl⟩:=vA_some h;exact⟨rfl,fun H2=>by simp[vA,hx]⟩)
theorem idxOp_le {P:Program} {H H2:Hp} (hl:HLe H H2) {T:TypeId} {o:Operand} {x ix:AV}:idxOp P H2 T o x ix=idxOp P H T o x ix:=by
 unfold idxOp idxG
 simp only[hl.glob]
theorem idxOpObl_le {P:Program} {H H2:Hp} (hl:HLe H H2) {T:TypeId} {o:Operand} {x ix:AV}:idxOpObl P H2 T o x ix=idxOpObl P H T o x ix:=by
 unfold idxOpObl idxGObl
 simp only[hl.glob]
theorem cls1_le0 {fr:Fr} {H H':Hp} {ty:TypeId} {op:Op} {v:AV} (hc:cls env op=1) (h:evOp0 env r fr H ty op=some (v,H')):H'=H∧∀H2,HLe H H2→evOp0 env r fr H2 ty op=some (v,H2):=by
 cases op<;>simp only[cls]at hc<;>(try (exact absurd hc (by decide)))<;>simp only[evOp0]at h ⊢
 case range T x=>cases hm:isMapT env.P T<;>rw[hm]at hc<;>exact absurd hc (by decide)
 case load T x=>
  obtain⟨hx,rfl⟩:=vA_some h
  exact⟨rfl,fun H2 hl=>by simp[vA,loadA_le hl hx]⟩
 case indexAddr T x i=>
  obtain⟨hx,rfl⟩:=vA_some h
  refine⟨rfl,fun H2 hl=> ?_⟩
  rw[idxOp_le hl];simp only[vA,hx,Option.bind_some]
 case slice T x lo hi mx=>
  obtain⟨hx,rfl⟩:=vA_some h
  refine⟨rfl,fun H2 hl=> ?_⟩
  have:sliceOp env.P fr H2 T x lo hi mx=some v:=sliceA_le hl hx
  simp[vA,this]
 case convert S T x=>
  unfold convOp at h ⊢
  split at h
  ·rename_i v' hv
   cases h
   exact⟨rfl,fun H2 _=>rfl⟩
  ·rename_i hv
   obtain⟨hx,rfl⟩:=vA_some h
   exact⟨rfl,fun H2 hl=>by simp only[convH_le hl hx,Option.bind_some]⟩
 case lookup T x k ok=>
  obtain⟨hx,rfl⟩:=vA_some h
  refine⟨rfl,fun H2 hl=> ?_⟩
  have:lookupA env.P T ok (opd fr x) (opd fr k) H2=some v:=lookupA_le hl hx
  simp[vA,this]
 case call c=>
  unfold callOp at h ⊢
  cases hcal:c.callee with
  |value g=>
   simp only[hcal]at hc h ⊢
   cases g<;>simp only at hc<;>first|(exact absurd hc (by decide))|skip
   rename_i f
   cases hp:env.isPure f with
   |false=>simp[hp]at hc
   |true=>
    simp only[opd,callV,callA,hp,cond_true,List.nil_append,List.append_nil]at h ⊢
    cases ha:mapO (expo H expoDepth) (c.args.toList.map (opd fr))with
    |none=>simp[ha]at h
    |some args'=>
     simp only[ha,Option.bind_some]at h
     cases hcp:callPure r H.fresh f args' with
     |none=>simp[hcp]at h
     |some p=>
      simp only[hcp,Option.bind_some]at h
      cases hfl:(List.all (c.args.toList.map (opd fr)) (ownFree expoDepth)||p.2)with
      |false=>simp only[hfl,cond_false]at h;cases h
      |true=>
       simp only[hfl,cond_true,Option.some.injEq,Prod.mk.injEq]at h
       obtain⟨rfl,rfl⟩:=h
       refine⟨rfl,fun H2 hl=> ?_⟩
       simp only[mapO_le (expo_le hl expoDepth) ha,hl.fresh,hcp,Option.bind_some,hfl,cond_true]
  |invoke x m=>simp only[hcal]at hc;exact absurd hc (by decide)
  |builtin b=>
   simp only[hcal]at hc h ⊢
   cases b<;>simp only at hc<;>first|(exact absurd hc (by decide))|skip
   simp only[builtinA,lenOp]at h ⊢
   split at h
   ·rename_i x T e1 e2
    obtain⟨hx,rfl⟩:=vA_some h
    refine⟨rfl,fun H2 hl=> ?_⟩
    have:lenA env.P T H2 x=some v:=lenA_le hl hx
    simp[vA,this]
   ·cases h
theorem obl_cls0 {fr:Fr} {op:Op} (hc:cls env op=0) (H H2:Hp):obl env fr H2 op=obl env fr H op:=by
 cases op<;>simp only[cls]at hc<;>(try (exact absurd hc (by decide)))<;>simp only[obl]
 case indexAddr T x i=>
  cases x with
  |global g=>cases hc
  |_=>rfl
 case call c=>
  cases hcal:c.callee with
  |value g=>
   simp only[hcal]at hc
   cases g<;>simp only at hc<;>first|(exact absurd hc (by decide))|skip
   rename_i f
   cases hp:env.isPure f<;>simp[hp]at hc
  |invoke x m=>rfl
  |builtin b=>
   simp only[hcal]at hc
   cases b<;>simp only at hc<;>first|rfl|(exact absurd hc (by decide))
theorem evOp_mk {fr:Fr} {H:Hp} {ty:TypeId} {op:Op} {p:AV×Hp} (h1:allB (obl env fr H op)=true) (h2:evOp0 env r fr H ty op=some p):evOp env r fr H ty op=some p:=by
 simp only[evOp,h1,cond_true,h2]
theorem cls0_any {fr:Fr} {H H':Hp} {ty:TypeId} {op:Op} {v:AV} (hc:cls env op=0) (h:evOp env r fr H ty op=some (v,H')):H'=H∧∀H2,evOp env r fr H2 ty op=some (v,H2):=by
 obtain⟨hob,h0⟩:=evOp_some h
 obtain⟨h1,h2⟩:=cls0_any0 hc h0
 exact⟨h1,fun H2=>evOp_mk (by rw[obl_cls0 hc H H2];exact hob) (h2 H2)⟩
theorem atObl_le {P:Program} {H H2:Hp} (hl:HLe H H2) {T:TypeId} {x v:AV} (h:loadA P H T x=some v):atObl H2 x=atObl H x:=by
 cases x with
 |oel i T' n off=>
  have hg:∃q,getV H i T'=some q:=by
   cases hg:getV H i T' with
   |some q=>exact⟨q,rfl⟩
   |none=>
    unfold loadA at h
    split at h
    ·obtain⟨z,_,h⟩:=Option.bind_eq_some_iff.1 h;simp[ldN,hg]at h
    ·simp[ld1,elemL,hg]at h
    ·cases h
  obtain⟨q,hg⟩:=hg
  simp only[atObl,hg,hl.getV hg]
 |_=>rfl
theorem expoOblL_le {H H':Hp} (h:HLe H H') {n:Nat} {xs ys:List AV} (hm:mapO (expo H n) xs=some ys):(xs.map (expoObl H' n)).flatten=(xs.map (expoObl H n)).flatten:=by
 rw[mapO_all (expoObl_le h n) hm]
theorem obl_cls1 {fr:Fr} {H H':Hp} {ty:TypeId} {op:Op} {v:AV} (hc:cls env op=1) (h:evOp0 env r fr H ty op=some (v,H')) (H2:Hp) (hl:HLe H H2):obl env fr H2 op=obl env fr H op:=by
 cases op<;>simp only[cls]at hc<;>(try (exact absurd hc (by decide)))<;>simp only[evOp0]at h<;>simp only[obl]
 case load T x=>exact atObl_le hl (vA_some h).1
 case indexAddr T x i=>exact idxOpObl_le hl
 case call c=>
  unfold callOp at h
  cases hcal:c.callee with
  |value g=>
   simp only[hcal]at hc h ⊢
   cases g<;>simp only at hc<;>first|(exact absurd hc (by decide))|skip
   rename_i f
   cases hp:env.isPure f with
   |false=>simp[hp]at hc
   |true=>
    simp only[opd,callV,callA,hp,cond_true,List.nil_append,List.append_nil]at h
    simp only[opd,callVObl,callObl,hp,cond_true,List.nil_append,List.append_nil]
    cases ha:mapO (expo H expoDepth) (c.args.toList.map (opd fr))with
    |none=>simp[ha]at h
    |some args'=>rw[mapO_le (expo_le hl expoDepth) ha,hl.fresh,expoOblL_le hl ha]
  |invoke x m=>rfl
  |builtin b=>
   simp only[hcal]at hc ⊢
   cases b<;>simp only at hc<;>first|rfl|(exact absurd hc (by decide))
theorem cls1_le {fr:Fr} {H H':Hp} {ty:TypeId} {op:Op} {v:AV} (hc:cls env op=1) (h:evOp env r fr H ty op=some (v,H')):H'=H∧∀H2,HLe H H2→evOp env r fr H2 ty op=some (v,H2):=by
 obtain⟨hob,h0⟩:=evOp_some h
 obtain⟨h1,h2⟩:=cls1_le0 hc h0
 exact⟨h1,fun H2 hl=>evOp_mk (by rw[obl_cls1 hc h0 H2 hl];exact hob) (h2 H2 hl)⟩
end
end Go.AM
