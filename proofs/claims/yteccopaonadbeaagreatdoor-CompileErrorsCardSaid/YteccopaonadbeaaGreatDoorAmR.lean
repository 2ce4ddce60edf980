/-
  Frames and heaps by shapes: how a state is read as data, and made of it; what bodies compute.
-/
import Derived.Test.YteccopaonadbeaaGreatDoorAmR1
set_option linter.unusedVariables false
set_option linter.unusedSimpArgs false
namespace Go.AM
set_option linter.unusedSimpArgs false
section
variable {env:Env} {r:Rec}
noncomputable def bodyK {R:Type} (env:Env) (r:Rec) (fuel:Nat) (f:FuncId) (args:List AV) (H:Hp) (k:AV→Hp→Option R):Option R:=
 (env.fn f).bind fun fn=>ev {env with n0:=H.n} r fuel none fn.code (frame0 args fn.ntmps) H (fun fr H=>(retA env.P fn.results fr H).bind fun p=>k p.1 p.2) (fun _ _ _=>none) (fun fr H=>(retA env.P fn.results fr H).bind fun p=>k p.1 p.2) (fun _ _ _=>none)
theorem bodyK_sound (hok:EnvOk env) (n:Nat) (hf:HasFn env r) (hr:SoundRec env.P env.pre r) (f:FuncId) (hlp:∀F,env.fn f=some F→∀x∈loopsOf F.code,∀n0 g,env.lp n0 x=some g→SoundLp env.P n0 x g)
 {R:Type} {k:AV→Hp→Option R} {res:R} {args:List AV} {H:Hp} (h:bodyK env r n f args H k=some res):
 ∀lo w0 ρ E w (vs:Array Value),Inv lo w0 ρ E H w→RepL ρ E w args vs.toList→
  Calls env.P f vs w fun e w'=>∃u ρ' E' v Hc,e = .returned u∧Inv lo w0 ρ' E' Hc w'∧Reach lo ρ E w ρ' E' w'∧Rep ρ' E' w' v u∧k v Hc=some res:=by
 intro lo w0 ρ E w vs inv ra
 simp only[bodyK]at h
 cases hF:env.fn f with
 |none=>simp[hF]at h
 |some F=>
  simp only[hF,Option.bind_some]at h
  obtain⟨fn,h1,h2,h3,h4,_⟩:=hok f F hF
  refine calls_of_wp h1 h2 ?_
  rw[h3]
  have st:St lo w0 ρ E w ρ E H (frame0 args F.ntmps) {tmps:=vs++Array.replicate (F.ntmps-vs.size) undef,defers:=[]} w:=⟨inv,frame0_rep F.ntmps ra,Reach.refl⟩
  have fin:∀(ex:Exit),(ex = .normal∨ex = .ret)→After lo w0 ρ E w res (fun fr H=>(retA env.P F.results fr H).bind fun p=>k p.1 p.2) (bodyPost env.P fn (fun e w'=>∃u ρ' E' v Hc,e = .returned u∧Inv lo w0 ρ' E' Hc w'∧Reach lo ρ E w ρ' E' w'∧Rep ρ' E' w' v u∧k v Hc=some res) ex):=by
   intro ex hex ρ' E' fr' H1 a' w' hk st'
   rw[← h4]at hk
   obtain⟨⟨v,Hc⟩,hret,hk2⟩:=Option.bind_eq_some_iff.1 hk
   obtain⟨rfl,u,hru,hv⟩:=ret_sound st'.inv st'.fr hret
   have:a'.defers = []∧∃v0,(results fn a'.tmps).run env.P w' = .ok v0 w'∧∃u ρ'' E'' v Hc,Ending.returned v0 = .returned u∧Inv lo w0 ρ'' E'' Hc w'∧Reach lo ρ E w ρ'' E'' w'∧Rep ρ'' E'' w' v u∧k v Hc=some res:=
    ⟨st'.fr.defers,u,hru,u,ρ',E',v,Hc,rfl,st'.inv,st'.reach,hv,hk2⟩
   rcases hex with rfl|rfl<;>exact this
  exact ev_sound (env:={env with n0:=H.n}) hok hf hr (draw_sound (env:={env with n0:=H.n}) hok hf hr) (.inl inv.dom) n F.code (fun x hx g hg=>hlp F hF x hx H.n g hg) none _ H _ _ _ _ _ h (fin .normal (.inl rfl)) (fun i ρ' E' fr' H1 a' w' hk=>by cases hk) (fin .ret (.inr rfl)) (fun l ρ' E' fr' H1 a' w' hk=>by cases hk) ρ E _ w st
end
def levels {α β:Type} (Φ:(α→Option β)→α→Option β):Nat→α→Option β
 |0=>fun _=>none
 |n+1=>Φ (levels Φ n)
noncomputable def someLevel {α β:Type} (F:Nat→α→Option β) (a:α):Option β:=
 match Classical.propDecidable (∃n b,F n a=some b)with
 | .isTrue h=>some h.choose_spec.choose
 | .isFalse _=>none
theorem someLevel_some {α β:Type} {F:Nat→α→Option β} {a:α} {b:β} (h:someLevel F a=some b):∃n,F n a=some b:=by
 unfold someLevel at h
 split at h
 ·rename_i hx _;cases h;exact⟨_,hx.choose_spec.choose_spec⟩
 ·cases h
theorem someLevel_of {α β:Type} {F:Nat→α→Option β} {a:α} {b:β} (hm:∀n m b c,F n a=some b→F m a=some c→b=c) {n:Nat} (h:F n a=some b):someLevel F a=some b:=by
 unfold someLevel
 split
 ·rename_i hx _;exact congrArg some (hm _ _ _ _ hx.choose_spec.choose_spec h)
 ·rename_i hx _;exact absurd ⟨n,b,h⟩ hx
def D.wt:D→Nat
 | .int n=>n.natAbs
 |d=>d.size
def fuelL:List D→Nat
 | []=>2
 |d::ds=>d.wt+fuelL ds
def loF {S R:Type} (step:S→Option (Sum S R)):Nat→S→Option R
 |0,_=>none
 |n+1,s=>match step s with
  |none=>none
  |some (.inl s')=>loF step n s'
  |some (.inr d)=>some d
theorem loF_mono {S R:Type} {step:S→Option (Sum S R)}:∀{n m:Nat} {s:S} {d:R},loF step n s=some d→n≤m→loF step m s=some d
 |0,_,_,_,h,_=>by cases h
 |n+1,0,_,_,_,hm=>by omega
 |n+1,m+1,s,d,h,hm=>by
  simp only[loF]at h ⊢
  split at h
  ·cases h
  ·exact loF_mono h (by omega)
  ·exact h
theorem loF_det {S R:Type} {step:S→Option (Sum S R)} {s:S} {n m:Nat} {b c:R} (h:loF step n s=some b) (h':loF step m s=some c):b=c:=by
 have h1:=loF_mono h (Nat.le_max_left n m)
 have h2:=loF_mono h' (Nat.le_max_right n m)
 rw[h1]at h2;cases h2;rfl
noncomputable def loW {S R:Type} (step:S→Option (Sum S R)) (s:S):Option R:=someLevel (fun n=>loF step n) s
theorem loW_iff {S R:Type} {step:S→Option (Sum S R)} {s:S} {d:R}:loW step s=some d↔∃n,loF step n s=some d:=
 ⟨someLevel_some,fun⟨n,h⟩=>someLevel_of (fun _ _ _ _ h h'=>loF_det h h') h⟩
theorem loW_eq {S R:Type} (step:S→Option (Sum S R)) (s:S):loW step s=match step s with
 |none=>none
 |some (.inl s')=>loW step s'
 |some (.inr d)=>some d:=by
 cases hs:step s with
 |none=>
  cases h:loW step s with
  |none=>rfl
  |some d=>
   obtain⟨n,hn⟩:=loW_iff.1 h
   cases n with
   |zero=>cases hn
   |succ n=>simp[loF,hs]at hn
 |some x=>
  cases x with
  |inr d=>exact loW_iff.2 ⟨1,by simp[loF,hs]⟩
  |inl s'=>
   show loW step s=loW step s'
   cases h:loW step s' with
   |some d=>
    obtain⟨n,hn⟩:=loW_iff.1 h
    exact loW_iff.2 ⟨n+1,by simp[loF,hs,hn]⟩
   |none=>
    cases h':loW step s with
    |none=>rfl
    |some d=>
     obtain⟨n,hn⟩:=loW_iff.1 h'
     cases n with
     |zero=>cases hn
     |succ n=>
      simp only[loF,hs]at hn
      rw[loW_iff.2 ⟨n,hn⟩]at h;cases h
structure Slot where
 st:Bool
 sh:Shp
abbrev uF : Slot := ⟨false, .any⟩
abbrev uT : Slot := ⟨true, .any⟩
noncomputable def mkFs (σp σs:Bd) (hd:Nat→D):List Slot→Nat→Nat→List AV
 | [],_,_=>[]
 |⟨st,sh⟩::fs,jp,js=>bif st then mkS σs hd shD sh js::mkFs σp σs hd fs jp (js+lv shD sh)else mkS σp hd shD sh jp::mkFs σp σs hd fs (jp+lv shD sh) js
noncomputable def rdFs:List Slot→List AV→Option (List D×List D)
 | [],[]=>some ([],[])
 |⟨st,sh⟩::fs,x::xs=>(rdS shD sh x).bind fun a=>(rdFs fs xs).map fun q=>bif st then(q.1,a++q.2)else(a++q.1,q.2)
 |_,_=>none
noncomputable def obFs (hd:Nat→D):List Slot→List AV→List Bool
 |⟨_,sh⟩::fs,x::xs=>obS hd shD sh x++obFs hd fs xs
 |_,_=>[]
def npF:List Slot→Nat
 | []=>0
 |⟨st,sh⟩::fs=>(bif st then 0 else lv shD sh)+npF fs
def nsF:List Slot→Nat
 | []=>0
 |⟨st,sh⟩::fs=>(bif st then lv shD sh else 0)+nsF fs
theorem rdFs_le {hd:Nat→D}:∀(fs:List Slot) (xs:List AV) (p s:List D),rdFs fs xs=some (p,s)→p.length=npF fs∧s.length=nsF fs∧(allB (obFs hd fs xs)=true→∀σp σs jp js,Bd.ats σp jp p→Bd.ats σs js s→FrLe xs (mkFs σp σs hd fs jp js))
 | [],[],p,s,h=>by
   simp only[rdFs,Option.some.injEq,Prod.mk.injEq]at h
   obtain⟨rfl,rfl⟩:=h
   exact⟨rfl,rfl,fun _ _ _ _ _ _ _=>trivial⟩
 |⟨st,sh⟩::fs,x::xs,p,s,h=>by
  simp only[rdFs]at h
  cases ha:rdS shD sh x with
  |none=>simp[ha]at h
  |some a=>
   cases hb:rdFs fs xs with
   |none=>simp[ha,hb]at h
   |some q=>
    obtain⟨p1,s1⟩:=q
    simp only[ha,hb,Option.bind_some,Option.map_some,Option.some.injEq]at h
    obtain⟨l1,h1⟩:=rdS_le (hd:=hd) shD sh x a ha
    obtain⟨l2,l3,h2⟩:=rdFs_le (hd:=hd) fs xs p1 s1 hb
    cases st with
    |true=>
     simp only[cond_true,Prod.mk.injEq]at h
     obtain⟨rfl,rfl⟩:=h
     refine⟨by simp[npF,l2],by simp[nsF,l1,l3],fun ho σp σs jp js hp hs=> ?_⟩
     simp only[obFs]at ho
     obtain⟨o1,o2⟩:=allB_both ho
     obtain⟨q1,q2⟩:=Bd.ats_app hs
     rw[l1]at q2
     exact⟨h1 o1 σs js q1,h2 o2 σp σs jp _ hp q2⟩
    |false=>
     simp only[cond_false,Prod.mk.injEq]at h
     obtain⟨rfl,rfl⟩:=h
     refine⟨by simp[npF,l1,l2],by simp[nsF,l3],fun ho σp σs jp js hp hs=> ?_⟩
     simp only[obFs]at ho
     obtain⟨o1,o2⟩:=allB_both ho
     obtain⟨q1,q2⟩:=Bd.ats_app hp
     rw[l1]at q2
     exact⟨h1 o1 σp jp q1,h2 o2 σp σs _ js q2 hs⟩
 | [],_::_,_,_,h=>by simp[rdFs]at h
 |_::_,[],_,_,h=>by simp[rdFs]at h
inductive HB where
 |skip
 |cells (fs:List Slot)
 |dat (st:Bool) (T:TypeId)
 |lst (st:Bool) (T:TypeId)
 |sit
 |mp (st:Bool) (kT vT:TypeId)
def npB:HB→Nat
 | .skip=>0
 | .cells fs=>npF fs
 | .dat st _=>bif st then 0 else 1
 | .lst st _=>bif st then 0 else 1
 | .sit=>1
 | .mp st _ _=>bif st then 0 else 1
def nsB:HB→Nat
 | .skip=>0
 | .cells fs=>nsF fs
 | .dat st _=>bif st then 1 else 0
 | .lst st _=>bif st then 1 else 0
 | .sit=>1
 | .mp st _ _=>bif st then 1 else 0
noncomputable def mkB (σp σs:Bd) (hd:Nat→D) (h:HB) (jp js:Nat):Option Blk:=
 match h with
 | .skip=>none
 | .cells fs=>some (.cells (mkFs σp σs hd fs jp js))
 | .dat st T=>bif st then some (.dat T (σs.d js))else some (.dat T (σp.d jp))
 | .lst st T=>bif st then some (.lst T (σs.d js))else some (.lst T (σp.d jp))
 | .sit=>some (.siter (σp.s jp) (σs.n js) false)
 | .mp st kT vT=>bif st then some (.mp kT vT (σs.d js))else some (.mp kT vT (σp.d jp))
noncomputable def mkHs (σp σs:Bd) (hd:Nat→D):List HB→Nat→Nat→List (Option Blk)
 | [],_,_=>[]
 |h::hs,jp,js=>mkB σp σs hd h jp js::mkHs σp σs hd hs (jp+npB h) (js+nsB h)
def hdHs (σp σs:Bd):List HB→Nat→Nat→Nat→D
 | [],_,_,_=> .list []
 |h::hs,jp,js,j=>bif Nat.beq j hs.length then(match h with
   | .lst st _=>bif st then σs.d js else σp.d jp
   |_=> .list [])else hdHs σp σs hs (jp+npB h) (js+nsB h) j
noncomputable def cellsD (T:TypeId) (cs:List AV):Option D:=
 bif layOk PG rowDepth T&&(Nat.blt 0 (PG.cellsOf T)&&Nat.beq (cs.length/PG.cellsOf T*PG.cellsOf T) cs.length)then(mapO (fun c=>avD dDepth T (uncell T c)) (chunks (PG.cellsOf T) (cs.length/PG.cellsOf T) cs)).map .list else none
noncomputable def rdB (n0 idx:Nat):HB→Option Blk→Option (List D×List D)
 | .skip,_=>some ([],[])
 | .cells fs,some (.cells cs)=>rdFs fs cs
 | .cells fs,some (.dat T d)=>rdFs fs (cellsT rowDepth T d)
 | .dat st T,some (.dat T' d)=>bif Nat.beq T' T then(bif st then some ([],[d])else some ([d],[]))else none
 | .dat st T,some (.cells cs)=>bif layOk PG rowDepth T&&Nat.beq cs.length (PG.cellsOf T)then(avD dDepth T (uncell T cs)).map fun d=>bif st then([],[d])else([d],[])else none
 | .lst st T,some (.lst T' d)=>bif Nat.beq T' T then(bif st then some ([],[d])else some ([d],[]))else none
 | .lst st T,some (.cells cs)=>(cellsD T cs).map fun d=>bif st then([],[d])else([d],[])
 | .lst st _,none=>bif Nat.ble n0 idx then(bif st then some ([],[.list []])else some ([.list []],[]))else none
 | .sit,some (.siter s p _)=>some ([.str s],[.int p])
 | .mp st kT vT,some (.mp k v d)=>bif Nat.beq k kT&&Nat.beq v vT then(bif st then some ([],[d])else some ([d],[]))else none
 | .mp st kT vT,some (.map es)=>(entsOf kT vT es).map fun d=>bif st then([],[d])else([d],[])
 | .mp st _ _,none=>bif Nat.ble n0 idx then(bif st then some ([],[.list []])else some ([.list []],[]))else none
 |_,_=>none
noncomputable def obB (hd:Nat→D):HB→Option Blk→List Bool
 | .cells fs,some (.cells cs)=>obFs hd fs cs
 | .cells fs,some (.dat T d)=>obFs hd fs (cellsT rowDepth T d)
 |_,_=>[]
noncomputable def rdHs (n0:Nat):List HB→List (Option Blk)→Option (List D×List D)
 | [],[]=>some ([],[])
 |h::hs,b::bs=>(rdB n0 bs.length h b).bind fun a=>(rdHs n0 hs bs).map fun q=>(a.1++q.1,a.2++q.2)
 |_,_=>none
noncomputable def obHs (hd:Nat→D):List HB→List (Option Blk)→List Bool
 |h::hs,b::bs=>obB hd h b++obHs hd hs bs
 |_,_=>[]
theorem BLe.mp {kT vT:TypeId} {es:List (Value×AV)} {d:D} (h:entsOf kT vT es=some d):BLe (.map es) (.mp kT vT d):=by
 intro ρ E w b r
 obtain⟨arr,clk,hc,hr,hbo⟩:=r
 unfold entsOf at h
 obtain⟨ds,hd,rfl⟩:=Option.map_eq_some_iff.1 h
 exact⟨arr,clk,hc,entsOf_rep hd hr,hbo⟩
theorem BLe.dat {cs:List AV} {T:TypeId} {d:D} (hl:layOk PG rowDepth T=true) (hz:cs.length=PG.cellsOf T) (h:avD dDepth T (uncell T cs)=some d):BLe (.cells cs) (.dat T d):=by
 intro ρ E w b r
 obtain⟨c,Ty,hc,hn,hr⟩:=r
 refine⟨c,Ty,hc,hl,by omega,?_⟩
 rw[← hz]
 exact uncell_rep hr h fun v hv=>avD_rep _ _ _ _ v _ h hv
theorem BLe.lst {cs:List AV} {T:TypeId} {d:D} (h:cellsD T cs=some d):BLe (.cells cs) (.lst T d):=by
 unfold cellsD at h
 cases hb:(layOk PG rowDepth T&&(Nat.blt 0 (PG.cellsOf T)&&Nat.beq (cs.length/PG.cellsOf T*PG.cellsOf T) cs.length))with
 |false=>simp[hb]at h
 |true=>
  simp only[hb,cond_true]at h
  simp only[Bool.and_eq_true]at hb
  obtain⟨hlay,hpos,hlen⟩:=hb
  have hlen:=Nat.eq_of_beq_eq_true hlen
  obtain⟨ys,hm,rfl⟩:=Option.map_eq_some_iff.1 h
  intro ρ E w b r
  obtain⟨c,Ty,hc,hn,hr⟩:=r
  have hl:=mapO_len hm
  rw[chunks_len]at hl
  refine LRep.blk hlay hc (by simp only[D.toList];rw[← hl,hlen];exact hn) ?_
  simp only[D.toList]
  rw[← hl,hlen]
  refine⟨by simp only[D.toList];rw[← hl,hlen, ← hr.length],fun i x hx=> ?_⟩
  obtain⟨cc,hc1,hc2⟩:=mapO_some hm (show ys[i]? = some x from hx)
  have:=chunks_get _ _ _ _ hc1
  subst this
  exact uncell_rep ((hr.drop _).take _) hc2 fun v hv=>avD_rep _ _ _ _ v _ hc2 hv
theorem rdB_le {hd:Nat→D} {n0 idx:Nat} (h:HB) (b:Option Blk) (p s:List D) (hr:rdB n0 idx h b=some (p,s)):p.length=npB h∧s.length=nsB h∧(allB (obB hd h b)=true→∀σp σs jp js,Bd.ats σp jp p→Bd.ats σs js s→
 (mkB σp σs hd h jp js=none∨(∃k' k,b=some k'∧mkB σp σs hd h jp js=some k∧BLe k' k)∨(b=none∧n0≤idx))):=by
 have two:∀{st:Bool} {d:D} {p s:List D},(bif st then(([]:List D),[d])else([d],[]))=(p,s)→p.length=(bif st then 0 else 1)∧s.length=(bif st then 1 else 0)∧∀σp σs jp js,Bd.ats σp jp p→Bd.ats σs js s→(bif st then σs.d js else σp.d jp)=d:=by
  intro st d p s h
  cases st with
  |true=>
   simp only[cond_true,Prod.mk.injEq]at h
   obtain⟨rfl,rfl⟩:=h
   exact⟨rfl,rfl,fun σp σs jp js _ hs=>(Bd.ats_one hs).d⟩
  |false=>
   simp only[cond_false,Prod.mk.injEq]at h
   obtain⟨rfl,rfl⟩:=h
   exact⟨rfl,rfl,fun σp σs jp js hp _=>(Bd.ats_one hp).d⟩
 have mkdat:∀(st:Bool) (T:TypeId) (σp σs:Bd) (jp js:Nat),mkB σp σs hd (.dat st T) jp js=some (.dat T (bif st then σs.d js else σp.d jp)):=by intro st T σp σs jp js;cases st<;>rfl
 have mklst:∀(st:Bool) (T:TypeId) (σp σs:Bd) (jp js:Nat),mkB σp σs hd (.lst st T) jp js=some (.lst T (bif st then σs.d js else σp.d jp)):=by intro st T σp σs jp js;cases st<;>rfl
 have mkmp:∀(st:Bool) (kT vT:TypeId) (σp σs:Bd) (jp js:Nat),mkB σp σs hd (.mp st kT vT) jp js=some (.mp kT vT (bif st then σs.d js else σp.d jp)):=by intro st kT vT σp σs jp js;cases st<;>rfl
 have wrap:∀{st:Bool} {d:D},(bif st then some (([]:List D),[d])else some ([d],[]))=some (bif st then([],[d])else([d],[])):=by intro st d;cases st<;>rfl
 unfold rdB at hr
 split at hr
 ·cases hr;exact⟨rfl,rfl,fun _ _ _ _ _ _ _=> .inl rfl⟩
 ·rename_i fs cs
  obtain⟨l1,l2,h1⟩:=rdFs_le (hd:=hd) fs cs p s hr
  exact⟨l1,l2,fun ho σp σs jp js hp hσ=> .inr (.inl ⟨_,_,rfl,rfl,BLe.cells (h1 ho σp σs jp js hp hσ)⟩)⟩
 ·rename_i fs T d
  obtain⟨l1,l2,h1⟩:=rdFs_le (hd:=hd) fs _ p s hr
  exact⟨l1,l2,fun ho σp σs jp js hp hσ=> .inr (.inl ⟨_,_,rfl,rfl,fun ρ E w b r=>BLe.cells (h1 ho σp σs jp js hp hσ) ρ E w b r.toCells⟩)⟩
 ·rename_i st T T' d
  cases hb:Nat.beq T' T with
  |false=>simp[hb]at hr
  |true=>
   obtain rfl:=Nat.eq_of_beq_eq_true hb
   rw[hb,cond_true,wrap,Option.some.injEq]at hr
   obtain⟨l1,l2,h1⟩:=two hr
   refine⟨l1,l2,fun _ σp σs jp js hp hσ=> .inr (.inl ⟨_,_,rfl,mkdat _ _ _ _ _ _,?_⟩)⟩
   rw[h1 σp σs jp js hp hσ];exact fun _ _ _ _ r=>r
 ·rename_i st T cs
  cases hb:(layOk PG rowDepth T&&Nat.beq cs.length (PG.cellsOf T))with
  |false=>simp[hb]at hr
  |true=>
   simp only[hb,cond_true]at hr
   simp only[Bool.and_eq_true]at hb
   obtain⟨d,hd',hr⟩:=Option.map_eq_some_iff.1 hr
   obtain⟨l1,l2,h1⟩:=two hr
   refine⟨l1,l2,fun _ σp σs jp js hp hσ=> .inr (.inl ⟨_,_,rfl,mkdat _ _ _ _ _ _,?_⟩)⟩
   rw[h1 σp σs jp js hp hσ];exact BLe.dat hb.1 (Nat.eq_of_beq_eq_true hb.2) hd'
 ·rename_i st T T' d
  cases hb:Nat.beq T' T with
  |false=>simp[hb]at hr
  |true=>
   obtain rfl:=Nat.eq_of_beq_eq_true hb
   rw[hb,cond_true,wrap,Option.some.injEq]at hr
   obtain⟨l1,l2,h1⟩:=two hr
   refine⟨l1,l2,fun _ σp σs jp js hp hσ=> .inr (.inl ⟨_,_,rfl,mklst _ _ _ _ _ _,?_⟩)⟩
   rw[h1 σp σs jp js hp hσ];exact fun _ _ _ _ r=>r
 ·rename_i st T cs
  obtain⟨d,hd',hr⟩:=Option.map_eq_some_iff.1 hr
  obtain⟨l1,l2,h1⟩:=two hr
  refine⟨l1,l2,fun _ σp σs jp js hp hσ=> .inr (.inl ⟨_,_,rfl,mklst _ _ _ _ _ _,?_⟩)⟩
  rw[h1 σp σs jp js hp hσ];exact BLe.lst hd'
 ·rename_i st T
  cases hb:Nat.ble n0 idx with
  |false=>simp[hb]at hr
  |true=>
   rw[hb,cond_true,wrap,Option.some.injEq]at hr
   obtain⟨l1,l2,_⟩:=two hr
   exact⟨l1,l2,fun _ _ _ _ _ _ _=> .inr (.inr ⟨rfl,Nat.le_of_ble_eq_true hb⟩)⟩
 ·rename_i s0 p0 kn
  cases hr
  refine⟨rfl,rfl,fun _ σp σs jp js hp hσ=> .inr (.inl ⟨_,_,rfl,rfl,?_⟩)⟩
  have e1:σp.s jp=s0:=(Bd.ats_one hp).s
  have e2:σs.n js=p0:=(Bd.ats_one hσ).n
  rw[e1,e2]
  exact fun _ _ _ _ r=>r
 ·rename_i st kT vT k v d
  cases hb:(Nat.beq k kT&&Nat.beq v vT)with
  |false=>simp[hb]at hr
  |true=>
   rw[hb,cond_true,wrap,Option.some.injEq]at hr
   rw[Bool.and_eq_true]at hb
   obtain rfl:=Nat.eq_of_beq_eq_true hb.1
   obtain rfl:=Nat.eq_of_beq_eq_true hb.2
   obtain⟨l1,l2,h1⟩:=two hr
   refine⟨l1,l2,fun _ σp σs jp js hp hσ=> .inr (.inl ⟨_,_,rfl,mkmp _ _ _ _ _ _ _,?_⟩)⟩
   rw[h1 σp σs jp js hp hσ];exact fun _ _ _ _ r=>r
 ·rename_i st kT vT es
  obtain⟨d,hd',hr⟩:=Option.map_eq_some_iff.1 hr
  obtain⟨l1,l2,h1⟩:=two hr
  refine⟨l1,l2,fun _ σp σs jp js hp hσ=> .inr (.inl ⟨_,_,rfl,mkmp _ _ _ _ _ _ _,?_⟩)⟩
  rw[h1 σp σs jp js hp hσ];exact BLe.mp hd'
 ·rename_i st kT vT
  cases hb:Nat.ble n0 idx with
  |false=>simp[hb]at hr
  |true=>
   rw[hb,cond_true,wrap,Option.some.injEq]at hr
   obtain⟨l1,l2,_⟩:=two hr
   exact⟨l1,l2,fun _ _ _ _ _ _ _=> .inr (.inr ⟨rfl,Nat.le_of_ble_eq_true hb⟩)⟩
 ·cases hr
theorem rdHs_le {hd:Nat→D} {n0:Nat}:∀(hs:List HB) (bs:List (Option Blk)) (p s:List D),rdHs n0 hs bs=some (p,s)→p.length=(hs.map npB).sum∧s.length=(hs.map nsB).sum∧(allB (obHs hd hs bs)=true→∀σp σs jp js,Bd.ats σp jp p→Bd.ats σs js s→BsG n0 bs (mkHs σp σs hd hs jp js))
 | [],[],p,s,h=>by
   simp only[rdHs,Option.some.injEq,Prod.mk.injEq]at h
   obtain⟨rfl,rfl⟩:=h
   exact⟨rfl,rfl,fun _ _ _ _ _ _ _=>trivial⟩
 |h::hs,b::bs,p,s,hr=>by
  simp only[rdHs]at hr
  cases ha:rdB n0 bs.length h b with
  |none=>simp[ha]at hr
  |some a=>
   obtain⟨p1,s1⟩:=a
   cases hb:rdHs n0 hs bs with
   |none=>simp[ha,hb]at hr
   |some q=>
    obtain⟨p2,s2⟩:=q
    simp only[ha,hb,Option.bind_some,Option.map_some,Option.some.injEq,Prod.mk.injEq]at hr
    obtain⟨rfl,rfl⟩:=hr
    obtain⟨l1,l2,h1⟩:=rdB_le (hd:=hd) h b p1 s1 ha
    obtain⟨m1,m2,h2⟩:=rdHs_le (hd:=hd) hs bs p2 s2 hb
    refine⟨by simp[l1,m1],by simp[l2,m2],fun ho σp σs jp js hp hσ=> ?_⟩
    simp only[obHs]at ho
    obtain⟨o1,o2⟩:=allB_both ho
    obtain⟨a1,a2⟩:=Bd.ats_app hp
    obtain⟨b1,b2⟩:=Bd.ats_app hσ
    rw[l1]at a2
    rw[l2]at b2
    exact⟨h1 o1 σp σs jp js a1 b1,h2 o2 σp σs _ _ a2 b2⟩
 | [],_::_,_,_,h=>by simp[rdHs]at h
 |_::_,[],_,_,h=>by simp[rdHs]at h
theorem hdHs_congr {σp σs σp' σs':Bd}:∀(hs:List HB) (jp js jp' js':Nat),(∀i,i<(hs.map npB).sum→σp.d (jp+i)=σp'.d (jp'+i))→(∀i,i<(hs.map nsB).sum→σs.d (js+i)=σs'.d (js'+i))→∀j,hdHs σp σs hs jp js j=hdHs σp' σs' hs jp' js' j
 | [],_,_,_,_,_,_,_=>rfl
 |h::hs,jp,js,jp',js',hp,hq,j=>by
  have ih:=hdHs_congr hs (jp+npB h) (js+nsB h) (jp'+npB h) (js'+nsB h) (fun i hi=>by
   have:=hp (npB h+i) (by simp only[List.map_cons,List.sum_cons];omega)
   rw[Nat.add_assoc,Nat.add_assoc];exact this) (fun i hi=>by
   have:=hq (nsB h+i) (by simp only[List.map_cons,List.sum_cons];omega)
   rw[Nat.add_assoc,Nat.add_assoc];exact this) j
  simp only[hdHs,ih]
  cases hb:Nat.beq j hs.length with
  |false=>rfl
  |true=>
   simp only[cond_true]
   cases h with
   |lst st T=>
    cases st with
    |true=>simpa using hq 0 (by simp[nsB];omega)
    |false=>simpa using hp 0 (by simp[npB];omega)
   |_=>rfl
def leafy:Shp→Bool
 | .int _=>true
 | .bool=>true
 | .str=>true
 | .rows _=>true
 | .dat _=>true
 | .edat _=>true
 | .eptr _=>true
 |_=>false
def frzSL (f:Shp→AV→Option AV):List Shp→List AV→Option (List AV)
 |s::ss,x::xs=>(f s x).bind fun y=>(frzSL f ss xs).bind fun ys=>some (y::ys)
 |_,xs=>some xs
def tchSL (f:Shp→AV→List Nat):List Shp→List AV→List Nat
 |s::ss,x::xs=>f s x++tchSL f ss xs
 |_,_=>[]
noncomputable def frzS (H:Hp):Nat→Shp→AV→Option AV
 |0,_,x=>some x
 |n+1,s,x=>
  bif leafy s then(bif ownFree expoDepth x then some x else expo H expoDepth x)else
  match s,x with
  | .agg ss, .agg cs=>(frzSL (frzS H n) ss cs).bind fun cs=>some (.agg cs)
  | .tup ss, .tup cs=>(frzSL (frzS H n) ss cs).bind fun cs=>some (.tup cs)
  |_,x=>some x
noncomputable def tchS (H:Hp):Nat→Shp→AV→List Nat
 |0,_,_=>[]
 |n+1,s,x=>
  bif leafy s then(bif ownFree expoDepth x then[]else tch H expoDepth x)else
  match s,x with
  | .agg ss, .agg cs=>tchSL (tchS H n) ss cs
  | .tup ss, .tup cs=>tchSL (tchS H n) ss cs
  |_,_=>[]
noncomputable def obfS (H:Hp):Nat→Shp→AV→List Bool
 |0,_,_=>[]
 |n+1,s,x=>
  bif leafy s then(bif ownFree expoDepth x then[]else expoObl H expoDepth x)else
  match s,x with
  | .agg ss, .agg cs=>obSL (obfS H n) ss cs
  | .tup ss, .tup cs=>obSL (obfS H n) ss cs
  |_,_=>[]
section
variable {lo:Nat→Prop} {w0:World} {ρ:Nat→Option Nat} {E:Nat→Prop} {H:Hp} {w:World}
theorem frzSL_rep {E1:Nat→Prop} {n:Nat} (ih:∀s x y v,frzS H n s x=some y→Tin ρ H E1 (tchS H n s x)→allB (obfS H n s x)=true→Rep ρ E w x v→Rep ρ E1 w y v) (he:∀b,E b→E1 b):
 ∀(ss:List Shp) (xs ys:List AV) (vs:List Value),frzSL (frzS H n) ss xs=some ys→Tin ρ H E1 (tchSL (tchS H n) ss xs)→allB (obSL (obfS H n) ss xs)=true→RepL ρ E w xs vs→RepL ρ E1 w ys vs
 | [],xs,ys,vs,h,_,_,r=>by
   have:some xs=some ys:=by cases xs<;>exact h
   cases this
   exact RepL.mono ⟨fun _ _ h=>h,he,fun _ _=>rfl,fun _ _ c _ _ _ h=>⟨c,h,rfl⟩,Nat.le_refl _⟩ _ _ r
 |s::ss,[],ys,vs,h,_,_,r=>by
  simp only[frzSL,Option.some.injEq]at h
  subst h
  simp only[RepL]at r ⊢;exact r
 |s::ss,x::xs,ys,vs,h,ht,ho,r=>by
  simp only[frzSL]at h
  obtain⟨y,h1,h2⟩:=Option.bind_eq_some_iff.1 h
  obtain⟨zs,h3,h4⟩:=Option.bind_eq_some_iff.1 h2
  cases h4
  simp only[obSL]at ho
  simp only[tchSL]at ht
  obtain⟨o1,o2⟩:=allB_both ho
  simp only[RepL]at r ⊢
  obtain⟨v,vs',hv,r1,r2⟩:=r
  exact⟨v,vs',hv,ih s x y v h1 ht.left o1 r1,frzSL_rep ih he ss xs zs vs' h3 ht.right o2 r2⟩
theorem frzS_rep (inv:Inv lo w0 ρ E H w) {E1:Nat→Prop} (he:∀b,E b→E1 b):∀(n:Nat) (s:Shp) (x y:AV) (v:Value),frzS H n s x=some y→Tin ρ H E1 (tchS H n s x)→allB (obfS H n s x)=true→Rep ρ E w x v→Rep ρ E1 w y v:=by
 have ext:Ext ρ E w ρ E1 w:=⟨fun _ _ h=>h,he,fun _ _=>rfl,fun _ _ c _ _ _ h=>⟨c,h,rfl⟩,Nat.le_refl _⟩
 intro n
 induction n with
 |zero=>intro s x y v h _ _ r;cases h;exact Rep.mono ext _ _ r
 |succ n ih=>
  intro s x y v h ht ho r
  simp only[frzS]at h
  simp only[tchS]at ht
  simp only[obfS]at ho
  cases hl:leafy s with
  |true=>
   simp only[hl,cond_true]at h ht ho
   cases hof:ownFree expoDepth x with
   |true=>simp only[hof,cond_true,Option.some.injEq]at h;subst h;exact Rep.mono ext _ _ r
   |false=>
    simp only[hof,cond_false]at h ht ho
    exact Rep.up (expo_rep inv expoDepth x y v h ho r ht (.inr he))
  |false=>
   simp only[hl,cond_false]at h ht ho
   split at h
   ·rename_i ss cs
    obtain⟨ys,h1,h2⟩:=Option.bind_eq_some_iff.1 h
    cases h2
    simp only[Rep]at r ⊢
    obtain⟨us,hv,r⟩:=r
    exact⟨us,hv,frzSL_rep ih he ss cs ys _ h1 ht ho r⟩
   ·rename_i ss cs
    obtain⟨ys,h1,h2⟩:=Option.bind_eq_some_iff.1 h
    cases h2
    simp only[Rep]at r ⊢
    obtain⟨us,hv,r⟩:=r
    exact⟨us,hv,frzSL_rep ih he ss cs ys _ h1 ht ho r⟩
   ·cases h;exact Rep.mono ext _ _ r
end
noncomputable def frzFs (H:Hp):List Slot→List AV→Option (List AV)
 |⟨_,sh⟩::fs,x::xs=>(frzS H shD sh x).bind fun y=>(frzFs H fs xs).bind fun ys=>some (y::ys)
 |_,xs=>some xs
noncomputable def tchFs (H:Hp):List Slot→List AV→List Nat
 |⟨_,sh⟩::fs,x::xs=>tchS H shD sh x++tchFs H fs xs
 |_,_=>[]
noncomputable def obfFs (H:Hp):List Slot→List AV→List Bool
 |⟨_,sh⟩::fs,x::xs=>obfS H shD sh x++obfFs H fs xs
 |_,_=>[]
theorem frzFs_rep {lo:Nat→Prop} {w0:World} {ρ:Nat→Option Nat} {E:Nat→Prop} {H:Hp} {w:World} (inv:Inv lo w0 ρ E H w) {E1:Nat→Prop} (he:∀b,E b→E1 b):∀(fs:List Slot) (xs ys:List AV),frzFs H fs xs=some ys→Tin ρ H E1 (tchFs H fs xs)→allB (obfFs H fs xs)=true→
 xs.length=ys.length∧∀(t:Nat) (y:AV),ys[t]? = some y→∃x,xs[t]? = some x∧∀v,Rep ρ E w x v→Rep ρ E1 w y v
 | [],xs,ys,h,_,_=>by
   have:some xs=some ys:=by cases xs<;>exact h
   cases this
   exact⟨rfl,fun t y hy=>⟨y,hy,fun v r=>Rep.mono ⟨fun _ _ h=>h,he,fun _ _=>rfl,fun _ _ c _ _ _ h=>⟨c,h,rfl⟩,Nat.le_refl _⟩ _ _ r⟩⟩
 |⟨_,sh⟩::fs,[],ys,h,_,_=>by
  simp only[frzFs,Option.some.injEq]at h
  subst h
  exact⟨rfl,fun t y hy=>by simp at hy⟩
 |⟨_,sh⟩::fs,x::xs,ys,h,ht,ho=>by
  simp only[frzFs]at h
  obtain⟨y,h1,h2⟩:=Option.bind_eq_some_iff.1 h
  obtain⟨zs,h3,h4⟩:=Option.bind_eq_some_iff.1 h2
  cases h4
  simp only[obfFs]at ho
  simp only[tchFs]at ht
  obtain⟨o1,o2⟩:=allB_both ho
  obtain⟨l,ih⟩:=frzFs_rep inv he fs xs zs h3 ht.right o2
  refine⟨by simp[l],fun t y' hy=> ?_⟩
  cases t with
  |zero=>simp at hy;subst hy;exact⟨x,rfl,fun v r=>frzS_rep inv he shD sh x y v h1 ht.left o1 r⟩
  |succ t=>simp at hy;simpa using ih t y' hy
theorem frz_wk {n0:Nat} {fs:List Slot} {fr fr':Fr} {H:Hp} (h:frzFs H fs fr=some fr') (ho:allB (obfFs H fs fr)=true):Wk n0 fr H fr' (kill (tchFs H fs fr) H):=by
 intro lo w0 ρ0 E0 wE ρ E a w hL st
 obtain⟨inv1,hnew⟩:=st.inv.freeze (tchFs H fs fr)
 obtain⟨hl,hr⟩:=frzFs_rep st.inv (E1:=Efz ρ E H (tchFs H fs fr)) (fun _ h=> .inl h) fs fr fr' h Efz.tin ho
 refine⟨ρ,_,inv1,⟨by rw[st.fr.size,hl],fun t y hy=> ?_,st.fr.defers⟩,⟨st.reach.ext.trans Efz.ext,fun b hb=> ?_⟩⟩
 ·obtain⟨x,hx,hrep⟩:=hr t y hy
  exact hrep _ (st.fr.rep t x hx)
 ·rcases hnew b hb with h|h
  ·exact st.reach.new b h
  ·exact .inr h
def bindSL (f:Shp→AV→List (Nat×Nat)):List Shp→List AV→List (Nat×Nat)
 |s::ss,x::xs=>f s x++bindSL f ss xs
 |_,_=>[]
def bindS:Nat→Shp→AV→List (Nat×Nat)
 |0,_,_=>[]
 |n+1,s,x=>
  match s,x with
  | .ptr j _, .ptr i _=>[(j,i)]
  | .osl j _, .osl i _ _=>[(j,i)]
  | .osl j _, .sl i _ _ _=>[(j,i)]
  | .oslc j _, .osl i _ _=>[(j,i)]
  | .oslc j _, .sl i _ _ _=>[(j,i)]
  | .sl j _ _ _, .sl i _ _ _=>[(j,i)]
  | .map j, .map i=>[(j,i)]
  | .agg ss, .agg cs=>bindSL (bindS n) ss cs
  | .tup ss, .tup cs=>bindSL (bindS n) ss cs
  | .func _ a b, .func _ a' b'=>bindSL (bindS n) a a'++bindSL (bindS n) b b'
  |_,_=>[]
def bindFs:List Slot→List AV→List (Nat×Nat)
 |⟨_,sh⟩::fs,x::xs=>bindS shD sh x++bindFs fs xs
 |_,_=>[]
def bindB:HB→Option Blk→List (Nat×Nat)
 | .cells fs,some (.cells cs)=>bindFs fs cs
 |_,_=>[]
def pi0 (n0:Nat):List HB→List (Nat×Nat)
 | []=>[]
 | .skip::hs=>pi0 n0 hs
 |_::hs=>bif Nat.blt hs.length n0 then(hs.length,hs.length)::pi0 n0 hs else pi0 n0 hs
def growPi (H:Hp) (pi:List (Nat×Nat)):List HB→List (Nat×Nat)
 | []=>[]
 |h::hs=>(match fw pi hs.length with
  |some i=>bindB h (H.get i)
  |none=>[])++growPi H pi hs
def addPi:List (Nat×Nat)→List (Nat×Nat)→List (Nat×Nat)
 |pi,[]=>pi
 |pi,p::ps=>addPi (bif isN (fw pi p.1) p.2 then pi else pi ++ [p]) ps
def findPi (hs:List HB) (H:Hp):Nat→List (Nat×Nat)→List (Nat×Nat)
 |0,pi=>pi
 |n+1,pi=>findPi hs H n (addPi pi (growPi H pi hs))
def isAny:Shp→Bool
 | .any=>true
 |_=>false
def maskT:List Slot→Fr→Fr
 |s::fs,x::xs=>(bif isAny s.sh then .undef else x)::maskT fs xs
 |_,xs=>xs
theorem maskT_le:∀(fs:List Slot) (fr:Fr),FrLe fr (maskT fs fr)
 | [],xs=>by cases xs<;>exact FrLe.refl _
 |_::_,[]=>trivial
 |s::fs,x::xs=>by
  refine⟨?_,maskT_le fs xs⟩
  cases isAny s.sh with
  |true=>exact AVle.undef x
  |false=>exact AVle.refl x
structure Nrm where
 pi:List (Nat×Nat)
 H:Hp
 p:List D
 s:List D
 ob:List Bool
noncomputable def nrm2 (n0:Nat) (fs:List Slot) (hs:List HB) (pi:List (Nat×Nat)) (fr1:Fr) (H1:Hp) (ob:List Bool):Option Nrm:=
 bif piOk n0 hs.length pi then
  (rdFs fs (fr1.map (renA (renM pi H1) renD))).bind fun a=>(rdHs n0 hs (renBs (renM pi H1) pi H1 hs.length)).bind fun b=>
   some ⟨pi,H1,a.1++b.1,a.2++b.2,ob++(obFs (hdHs (bdL (a.1++b.1)) (bdL (a.2++b.2)) hs (npF fs) (nsF fs)) fs (fr1.map (renA (renM pi H1) renD)) ++
    obHs (hdHs (bdL (a.1++b.1)) (bdL (a.2++b.2)) hs (npF fs) (nsF fs)) hs (renBs (renM pi H1) pi H1 hs.length))⟩
 else none
noncomputable def nrm1 (n0 m0:Nat) (fs:List Slot) (hs:List HB) (fr1:Fr) (H1:Hp) (ob:List Bool):Option Nrm:=
 nrm2 n0 fs hs (findPi hs H1 hs.length (addPi (pi0 m0 hs) (bindFs fs fr1))) fr1 H1 ob
noncomputable def nrm0 (n0 m0:Nat) (fs:List Slot) (hs:List HB) (fr0:Fr) (H:Hp):Option Nrm:=
 (frzFs H fs fr0).bind fun fr1=>nrm1 n0 m0 fs hs fr1 (kill (tchFs H fs fr0) H) (obfFs H fs fr0)
noncomputable def nrm (n0 m0:Nat) (fs:List Slot) (hs:List HB) (fr:Fr) (H:Hp):Option Nrm:=bif H.gl then nrm0 n0 m0 fs hs (maskT fs fr) H else none
noncomputable def mkHd (σp σs:Bd) (fs:List Slot) (hs:List HB) (js:Nat):Nat→D:=hdHs σp σs hs (npF fs) (js+nsF fs)
noncomputable def mkFr (σp σs:Bd) (fs:List Slot) (hs:List HB) (js:Nat):Fr:=mkFs σp σs (mkHd σp σs fs hs js) fs 0 js
noncomputable def mkHp (σp σs:Bd) (fs:List Slot) (hs:List HB) (js:Nat):Hp:=⟨hs.length,mkHs σp σs (mkHd σp σs fs hs js) hs (npF fs) (js+nsF fs),true⟩
theorem kill_gl (ts:List Nat) (H:Hp):(kill ts H).gl=H.gl:=(kill_len ts H).2.2
theorem nrm2_some {n0:Nat} {fs:List Slot} {hs:List HB} {pi:List (Nat×Nat)} {fr1:Fr} {H1:Hp} {ob:List Bool} {q:Nrm} (h:nrm2 n0 fs hs pi fr1 H1 ob=some q) (ho:allB q.ob=true):
 q.pi=pi∧q.H=H1∧allB ob=true∧PiOk n0 hs.length pi∧∀{σp σs:Bd} {js:Nat},Bd.ats σp 0 q.p→Bd.ats σs js q.s→
  FrLe (fr1.map (renA (renM pi H1) renD)) (mkFr σp σs fs hs js)∧BsG n0 (renBs (renM pi H1) pi H1 hs.length) (mkHs σp σs (mkHd σp σs fs hs js) hs (npF fs) (js+nsF fs)):=by
 unfold nrm2 at h
 cases hok:piOk n0 hs.length pi with
 |false=>simp[hok]at h
 |true=>
  simp only[hok,cond_true]at h
  obtain⟨a,ha,h⟩:=Option.bind_eq_some_iff.1 h
  obtain⟨b,hb,h⟩:=Option.bind_eq_some_iff.1 h
  obtain⟨p1,s1⟩:=a
  obtain⟨p2,s2⟩:=b
  simp only[Option.some.injEq]at h
  subst h
  simp only at ho ⊢
  obtain⟨o0,o12⟩:=allB_both ho
  obtain⟨o1,o2⟩:=allB_both o12
  refine⟨trivial,trivial,o0,piOk_ok hok,fun{σp σs js} hp hσ=> ?_⟩
  obtain⟨a1,a2⟩:=Bd.ats_app hp
  obtain⟨b1,b2⟩:=Bd.ats_app hσ
  have key:hdHs (bdL (p1++p2)) (bdL (s1++s2)) hs (npF fs) (nsF fs)=mkHd σp σs fs hs js:=by
   funext j
   obtain⟨l1,l2,_⟩:=rdFs_le (hd:=fun _=> .other) fs _ p1 s1 ha
   obtain⟨m1,m2,_⟩:=rdHs_le (hd:=fun _=> .other) hs _ p2 s2 hb
   refine hdHs_congr hs _ _ _ _ (fun i hi=> ?_) (fun i hi=> ?_) j
   ·have h1:(p1++p2)[npF fs+i]? = some (p2[i]'(by omega)):=by rw[List.getElem?_append_right (by omega),l1,Nat.add_sub_cancel_left];exact List.getElem?_eq_getElem _
    rw[((bdL_ats (p1++p2)) _ _ h1 |> fun x=>by simpa using x.d:(bdL (p1++p2)).d (npF fs+i)=_)]
    have h2:=(hp _ _ h1).d
    rw[Nat.zero_add]at h2
    exact h2.symm
   ·have h1:(s1++s2)[nsF fs+i]? = some (s2[i]'(by omega)):=by rw[List.getElem?_append_right (by omega),l2,Nat.add_sub_cancel_left];exact List.getElem?_eq_getElem _
    rw[((bdL_ats (s1++s2)) _ _ h1 |> fun x=>by simpa using x.d:(bdL (s1++s2)).d (nsF fs+i)=_)]
    have h2:=(hσ _ _ h1).d
    rw[← Nat.add_assoc]at h2
    exact h2.symm
  rw[key]at o1 o2
  obtain⟨l1,l2,h1⟩:=rdFs_le (hd:=mkHd σp σs fs hs js) fs _ p1 s1 ha
  obtain⟨m1,m2,h2⟩:=rdHs_le (hd:=mkHd σp σs fs hs js) hs _ p2 s2 hb
  rw[l1,Nat.zero_add]at a2
  rw[l2]at b2
  exact⟨h1 o1 σp σs 0 js a1 b1,h2 o2 σp σs (npF fs) (js+nsF fs) a2 b2⟩
theorem nrm_some {n0 m0:Nat} {fs:List Slot} {hs:List HB} {fr:Fr} {H:Hp} {q:Nrm} (h:nrm n0 m0 fs hs fr H=some q) (ho:allB q.ob=true):
 H.gl=true∧∃fr1,frzFs H fs (maskT fs fr)=some fr1∧allB (obfFs H fs (maskT fs fr))=true∧q.H=kill (tchFs H fs (maskT fs fr)) H∧PiOk n0 hs.length q.pi∧∀{σp σs:Bd} {js:Nat},Bd.ats σp 0 q.p→Bd.ats σs js q.s→
  FrLe (fr1.map (renA (renM q.pi q.H) renD)) (mkFr σp σs fs hs js)∧BsG n0 (renBs (renM q.pi q.H) q.pi q.H hs.length) (mkHs σp σs (mkHd σp σs fs hs js) hs (npF fs) (js+nsF fs)):=by
 unfold nrm at h
 cases hg:H.gl with
 |false=>simp[hg]at h
 |true=>
  simp only[hg,cond_true]at h
  unfold nrm0 nrm1 at h
  obtain⟨fr1,h1,h2⟩:=Option.bind_eq_some_iff.1 h
  obtain⟨e1,e2,h3,h4,h5⟩:=nrm2_some h2 ho
  rw[← e1]at h4 h5
  rw[← e2]at h5
  exact⟨rfl,fr1,h1,h3,e2,h4,h5⟩
theorem nrm_len {n0 m0:Nat} {fs:List Slot} {hs:List HB} {fr:Fr} {H:Hp} {q:Nrm} (h:nrm n0 m0 fs hs fr H=some q):q.p.length=npF fs+(hs.map npB).sum:=by
 unfold nrm at h
 cases hg:H.gl with
 |false=>simp[hg]at h
 |true=>
  simp only[hg,cond_true]at h
  unfold nrm0 nrm1 nrm2 at h
  obtain⟨fr1,_,h2⟩:=Option.bind_eq_some_iff.1 h
  generalize findPi _ _ _ _=pi at h2
  cases hok:piOk n0 hs.length pi with
  |false=>simp[hok]at h2
  |true=>
   simp only[hok,cond_true]at h2
   obtain⟨a,ha,h3⟩:=Option.bind_eq_some_iff.1 h2
   obtain⟨b,hb,h4⟩:=Option.bind_eq_some_iff.1 h3
   obtain⟨p1,s1⟩:=a
   obtain⟨p2,s2⟩:=b
   simp only[Option.some.injEq]at h4
   subst h4
   obtain⟨l1,_,_⟩:=rdFs_le (hd:=fun _=> .other) fs _ p1 s1 ha
   obtain⟨m1,_,_⟩:=rdHs_le (hd:=fun _=> .other) hs _ p2 s2 hb
   simp[l1,m1]
theorem nrm_wk {n0 m0:Nat} {fs:List Slot} {hs:List HB} {fr:Fr} {H:Hp} {q:Nrm} (h:nrm n0 m0 fs hs fr H=some q) (ho:allB q.ob=true) {σp σs:Bd} {js:Nat} (hp:Bd.ats σp 0 q.p) (hσ:Bd.ats σs js q.s):
 Wk n0 fr H (mkFr σp σs fs hs js) (mkHp σp σs fs hs js):=by
 obtain⟨hg,fr1,h1,h2,h3,h4,h5⟩:=nrm_some h ho
 obtain⟨f1,f2⟩:=h5 hp hσ
 refine((Wk.le (maskT_le fs fr)).trans (frz_wk h1 h2)).trans ?_
 rw[← h3]
 have:=ren_wk h4 f1 f2
 rw[show q.H.gl=true by rw[h3,kill_gl,hg]]at this
 exact this
theorem BLe.cut {T:TypeId} {d:D} {m:Int}:BLe (.lst T d) (.lst T (qsub d 0 m)):=fun ρ E w b r=>by
 obtain⟨c,Ty,hc,hl,hz,hr⟩:=r
 have hq:(qsub d 0 m).toList=d.toList.take m.toNat:=by
  rw[show qsub=D.sub from veil_eq _];simp[D.sub,D.toList]
 have hle:(qsub d 0 m).toList.length≤d.toList.length:=by rw[hq,List.length_take];omega
 refine⟨c,Ty,hc,hl,Nat.le_trans (Nat.mul_le_mul_right _ hle) hz,fun i x hx=>hr i x ?_⟩
 rw[hq,List.getElem?_take]at hx
 split at hx
 ·exact hx
 ·cases hx
theorem Inv.less {lo:Nat→Prop} {w0:World} {ρ:Nat→Option Nat} {E:Nat→Prop} {H:Hp} {w:World} (inv:Inv lo w0 ρ E H w) {i:Nat} {k k':Blk} (hk:H.get i=some k) (hle:BLe k k'):Inv lo w0 ρ E (H.put i (some k')) w:=by
 have hi:i<H.n:=Hp.get_lt hk
 have g:∀j k1,(H.put i (some k')).get j=some k1→∃k0,H.get j=some k0∧BLe k0 k1:=fun j k1 h=>by
  by_cases e:i=j
  ·subst e;rw[Hp.get_put_eq _ hi inv.len]at h;cases h;exact⟨k,hk,hle⟩
  ·rw[Hp.get_put_ne _ e hi]at h;exact⟨k1,h,fun _ _ _ _ r=>r⟩
 exact{len:=Hp.put_len _ _ inv.len,dom:=inv.dom,
       blk:=fun j k1 b h hb=>by obtain⟨k0,h0,l0⟩:=g j k1 h;exact l0 _ _ _ _ (inv.blk j k0 b h0 hb),
       inj:=fun j j' k1 k2 b h h'=>by obtain⟨k0,h0,_⟩:=g j k1 h;obtain⟨k3,h3,_⟩:=g j' k2 h';exact inv.inj j j' k0 k3 b h0 h3,
       notE:=fun j k1 b h=>by obtain⟨k0,h0,_⟩:=g j k1 h;exact inv.notE j k0 b h0,
       bd:=inv.bd,ebd:=inv.ebd,lole:=inv.lole,old:=inv.old,io:=inv.io,gl:=gl_mono (ρ:=ρ) (H:=H) rfl Ext.refl inv.gl}
noncomputable def cut1 (H:Hp) (i:Nat) (m:Int):Hp:=
 match H.get i with
 |some (.lst T d)=>H.put i (some (.lst T (qsub d 0 m)))
 |_=>H
def isCut:Shp→Bool
 | .oslc _ _=>true
 |_=>false
noncomputable def cutA (b:Bool) (x:AV) (H:Hp):Hp:=bif b then(match x with | .osl i _ m=>cut1 H i m|_=>H)else H
noncomputable def cutFs:List Slot→Fr→Hp→Hp
 |s::fs,x::xs,H=>cutFs fs xs (cutA (isCut s.sh) x H)
 | [],_,H=>H
 |_::_,[],H=>H
theorem cut1_wk {n0:Nat} {fr:Fr} {H:Hp} {i:Nat} {m:Int}:Wk n0 fr H fr (cut1 H i m):=fun lo w0 ρ0 E0 wE ρ E a w hL st=>by
 unfold cut1
 split
 ·rename_i T d hg
  exact⟨ρ,E,st.inv.less hg BLe.cut,st.fr,st.reach⟩
 ·exact⟨ρ,E,st.inv,st.fr,st.reach⟩
theorem cutA_wk {n0:Nat} {fr:Fr} {H:Hp} {b:Bool} {x:AV}:Wk n0 fr H fr (cutA b x H):=by
 unfold cutA
 cases b with
 |false=>exact Wk.refl
 |true=>
  simp only[cond_true]
  split
  ·exact cut1_wk
  ·exact Wk.refl
theorem cutFs_wk {n0:Nat} {fr:Fr}:∀(fs:List Slot) (xs:Fr) (H:Hp),Wk n0 fr H fr (cutFs fs xs H)
 |s::fs,x::xs,H=>cutA_wk.trans (cutFs_wk fs xs _)
 | [],_,H=>by unfold cutFs;exact Wk.refl
 |_::_,[],H=>by unfold cutFs;exact Wk.refl
noncomputable def cutHs:List HB→Hp→Hp
 | [],H=>H
 |h::hs,H=>cutHs hs (match h,H.get hs.length with | .cells fs,some (.cells cs)=>cutFs fs cs H|_,_=>H)
theorem cutHs_wk {n0:Nat} {fr:Fr}:∀(hs:List HB) (H:Hp),Wk n0 fr H fr (cutHs hs H)
 | [],H=>by unfold cutHs;exact Wk.refl
 |h::hs,H=>by
  unfold cutHs
  split
  ·exact(cutFs_wk _ _ H).trans (cutHs_wk hs _)
  ·exact cutHs_wk hs H
noncomputable def nrmC (n0 m0:Nat) (fs:List Slot) (hs:List HB) (fr:Fr) (H:Hp):Option Nrm:=nrm n0 m0 fs hs fr (cutHs hs (cutFs fs fr H))
theorem nrmC_wk {n0 m0:Nat} {fs:List Slot} {hs:List HB} {fr:Fr} {H:Hp} {q:Nrm} (h:nrmC n0 m0 fs hs fr H=some q) (ho:allB q.ob=true) {σp σs:Bd} {js:Nat} (hp:Bd.ats σp 0 q.p) (hσ:Bd.ats σs js q.s):
 Wk n0 fr H (mkFr σp σs fs hs js) (mkHp σp σs fs hs js):=((cutFs_wk fs fr H).trans (cutHs_wk hs _)).trans (nrm_wk h ho hp hσ)
end Go.AM
