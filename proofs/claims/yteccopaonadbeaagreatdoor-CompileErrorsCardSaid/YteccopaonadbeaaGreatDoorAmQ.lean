/-
  Shapes of values: how a value is read by a shape, and made by one.
-/
import Derived.Test.YteccopaonadbeaaGreatDoorAmO
set_option linter.unusedVariables false
set_option linter.unusedSimpArgs false
namespace Go.AM
inductive Shp where
 |any
 |lit (v:Value)
 |int (k:IntKind)
 |bool
 |str
 |rows (T:TypeId)
 |dat (T:TypeId)
 |edat (T:TypeId)
 |ptr (i off:Nat)
 |agg (ss:List Shp)
 |tup (ss:List Shp)
 |eptr (ss:List Shp)
 |func (f:FuncId) (a b:List Shp)
 |osl (j:Nat) (T:TypeId)
 |oslc (j:Nat) (T:TypeId)
 |sl (j z off len:Nat)
 |map (j:Nat)
def lv:Nat→Shp→Nat
 |0,_=>0
 |n+1,s=>
  match s with
  | .int _=>1
  | .bool=>1
  | .str=>1
  | .rows _=>1
  | .dat _=>1
  | .edat _=>1
  | .agg ss=>(ss.map (lv n)).sum
  | .tup ss=>(ss.map (lv n)).sum
  | .eptr ss=>(ss.map (lv n)).sum
  | .func _ a b=>(a.map (lv n)).sum+(b.map (lv n)).sum
  |_=>0
def lvs (n:Nat) (ss:List Shp):Nat:=(ss.map (lv n)).sum
def mkSL (mk:Shp→Nat→AV) (lv:Shp→Nat):List Shp→Nat→List AV
 | [],_=>[]
 |s::ss,j=>mk s j::mkSL mk lv ss (j+lv s)
noncomputable def mkS (σ:Bd) (hd:Nat→D):Nat→Shp→Nat→AV
 |0,_,_=> .undef
 |n+1,s,j=>
  match s with
  | .any=> .undef
  | .lit v=> .sc v
  | .int k=> .ui k (σ.n j)
  | .bool=> .ub (σ.b j)
  | .str=> .us (σ.s j)
  | .rows T=> .rows T (σ.d j)
  | .dat T=> .dat T (σ.d j)
  | .edat T=> .edat T (σ.d j)
  | .ptr i off=> .ptr i off
  | .agg ss=> .agg (mkSL (mkS σ hd n) (lv n) ss j)
  | .tup ss=> .tup (mkSL (mkS σ hd n) (lv n) ss j)
  | .eptr ss=> .eptr (mkSL (mkS σ hd n) (lv n) ss j)
  | .osl j T=> .osl j T (qlen (hd j))
  | .oslc j T=> .osl j T (qlen (hd j))
  | .sl j z off len=> .sl j z off len
  | .map j=> .map j
  | .func f a b=> .func f (mkSL (mkS σ hd n) (lv n) a j) (mkSL (mkS σ hd n) (lv n) b (j+lvs n a))
def litEq:Value→AV→Bool
 | .int k n, .sc (.int k' m)=>decide (k=k')&&decide (n=m)
 | .bool a, .sc (.bool b)=>a==b
 | .pointer none, .sc (.pointer none)=>true
 | .slice none 0 0, .sc (.slice none 0 0)=>true
 | .map none, .sc (.map none)=>true
 | .nilFunc, .sc .nilFunc=>true
 |_,_=>false
theorem litEq_eq {v:Value} {x:AV} (h:litEq v x=true):x = .sc v:=by
 unfold litEq at h
 split at h
 ·simp only[Bool.and_eq_true,decide_eq_true_eq]at h;rw[h.1,h.2]
 ·simp only[beq_iff_eq]at h;rw[h]
 ·rfl
 ·rfl
 ·rfl
 ·rfl
 ·cases h
def rdSL (rd:Shp→AV→Option (List D)):List Shp→List AV→Option (List D)
 | [],[]=>some []
 |s::ss,x::xs=>(rd s x).bind fun a=>(rdSL rd ss xs).map fun b=>a++b
 |_,_=>none
noncomputable def rdS:Nat→Shp→AV→Option (List D)
 |0,_,_=>none
 |n+1,s,x=>
  match s with
  | .any=>some []
  | .lit v=>bif litEq v x then some []else none
  | .int k=>(match x with
    | .ui k' m=>if k=k' then some [.int m]else none
    | .sc (.int k' m)=>if k=k' then some [.int m]else none
    |_=>none)
  | .bool=>(match x with
    | .ub b=>some [.bool b]
    | .sc (.bool b)=>some [.bool b]
    |_=>none)
  | .str=>(match x with
    | .us b=>some [.str b]
    | .sc (.string b)=>some [.str b]
    |_=>none)
  | .rows T=>(match x with
    | .rows T' d=>bif Nat.beq T' T then some [d]else none
    | .esl xs=>bif layOk PG rowDepth T&&xs.all (fun c=>Nat.beq c.length (PG.cellsOf T))then(mapO (fun cs=>avD dDepth T (uncell T cs)) xs).map fun ys=>[.list ys]else none
    | .sc (.slice none 0 0)=>some [.list []]
    |_=>none)
  | .dat T=>(match x with
    | .dat T' d=>bif Nat.beq T' T then some [d]else none
    | .agg cs=>bif layOk PG rowDepth T then(avD dDepth T (.agg cs)).map fun d=>[d]else none
    |_=>none)
  | .edat T=>(match x with
    | .edat T' d=>bif Nat.beq T' T then some [d]else none
    |_=>none)
  | .ptr i off=>(match x with
    | .ptr i' off'=>bif Nat.beq i i'&&Nat.beq off off' then some []else none
    |_=>none)
  | .agg ss=>(match x with
    | .agg cs=>rdSL (rdS n) ss cs
    | .dat T d=>rdSL (rdS n) ss (cellsT rowDepth T d)
    |_=>none)
  | .tup ss=>(match x with
    | .tup cs=>rdSL (rdS n) ss cs
    |_=>none)
  | .eptr ss=>(match x with
    | .eptr cs=>rdSL (rdS n) ss cs
    | .edat T d=>rdSL (rdS n) ss (cellsT rowDepth T d)
    |_=>none)
  | .osl j T=>(match x with
    | .osl i T' _=>bif Nat.beq i j&&Nat.beq T' T then some []else none
    | .sl i z off _=>bif Nat.beq i j&&Nat.beq z (PG.cellsOf T)&&Nat.beq off 0 then some []else none
    | .sc (.slice none 0 0)=>some []
    | .e0=>some []
    |_=>none)
  | .oslc j T=>(match x with
    | .osl i T' _=>bif Nat.beq i j&&Nat.beq T' T then some []else none
    | .sl i z off _=>bif Nat.beq i j&&Nat.beq z (PG.cellsOf T)&&Nat.beq off 0 then some []else none
    | .sc (.slice none 0 0)=>some []
    | .e0=>some []
    |_=>none)
  | .sl j z off len=>(match x with
    | .sl i z' off' len'=>bif Nat.beq i j&&Nat.beq z' z&&Nat.beq off' off&&Nat.beq len' len then some []else none
    |_=>none)
  | .map j=>(match x with
    | .map i=>bif Nat.beq i j then some []else none
    |_=>none)
  | .func f a b=>(match x with
    | .func f' a' b'=>bif Nat.beq f f' then(rdSL (rdS n) a a').bind fun p=>(rdSL (rdS n) b b').map fun q=>p++q else none
    |_=>none)
def obSL (ob:Shp→AV→List Bool):List Shp→List AV→List Bool
 |s::ss,x::xs=>ob s x++obSL ob ss xs
 |_,_=>[]
noncomputable def obS (hd:Nat→D):Nat→Shp→AV→List Bool
 |0,_,_=>[]
 |n+1,s,x=>
  match s with
  | .osl j _=>(match x with
    | .osl _ _ m=>[qcmp .eql m (qlen (hd j))]
    | .sl _ _ _ len=>[qcmp .eql len (qlen (hd j))]
    |_=>[qcmp .eql 0 (qlen (hd j))])
  | .oslc j _=>(match x with
    | .osl _ _ m=>[qcmp .eql m (qlen (hd j))]
    | .sl _ _ _ len=>[qcmp .eql len (qlen (hd j))]
    |_=>[qcmp .eql 0 (qlen (hd j))])
  | .agg ss=>(match x with
    | .agg cs=>obSL (obS hd n) ss cs
    | .dat T d=>obSL (obS hd n) ss (cellsT rowDepth T d)
    |_=>[])
  | .tup ss=>(match x with
    | .tup cs=>obSL (obS hd n) ss cs
    |_=>[])
  | .eptr ss=>(match x with
    | .eptr cs=>obSL (obS hd n) ss cs
    | .edat T d=>obSL (obS hd n) ss (cellsT rowDepth T d)
    |_=>[])
  | .func _ a b=>(match x with
    | .func _ a' b'=>obSL (obS hd n) a a'++obSL (obS hd n) b b'
    |_=>[])
  |_=>[]
structure Bd.at (σ:Bd) (i:Nat) (d:D):Prop where
 n:σ.n i=d.toInt
 b:σ.b i=d.toBool
 s:σ.s i=d.toStr
 d:σ.d i=d
def Bd.ats (σ:Bd) (j:Nat) (ds:List D):Prop:=∀i d,ds[i]? = some d→σ.at (j+i) d
theorem Bd.ats_app {σ:Bd} {j:Nat} {xs ys:List D} (h:σ.ats j (xs++ys)):σ.ats j xs∧σ.ats (j+xs.length) ys:=by
 refine⟨fun i d hd=>h i d (by rw[List.getElem?_append_left (List.getElem?_eq_some_iff.1 hd).1];exact hd),fun i d hd=> ?_⟩
 have:=h (xs.length+i) d (by rw[List.getElem?_append_right (by omega)];simpa using hd)
 rw[Nat.add_assoc];exact this
theorem Bd.ats_one {σ:Bd} {j:Nat} {d:D} (h:σ.ats j [d]):σ.at j d:=h 0 d rfl
theorem rdSL_le {hd:Nat→D} {n:Nat} (ih:∀s x ds,rdS n s x=some ds→ds.length=lv n s∧(allB (obS hd n s x)=true→∀σ j,Bd.ats σ j ds→AVle x (mkS σ hd n s j))):∀(ss:List Shp) (xs:List AV) (ds:List D),rdSL (rdS n) ss xs=some ds→
 ds.length=(ss.map (lv n)).sum∧(allB (obSL (obS hd n) ss xs)=true→∀σ j,Bd.ats σ j ds→FrLe xs (mkSL (mkS σ hd n) (lv n) ss j))
 | [],[],ds,h=>by
   simp only[rdSL,Option.some.injEq]at h
   subst h
   exact⟨rfl,fun _ _ _ _=>trivial⟩
 |s::ss,x::xs,ds,h=>by
  simp only[rdSL]at h
  cases ha:rdS n s x with
  |none=>simp[ha]at h
  |some a=>
   cases hb:rdSL (rdS n) ss xs with
   |none=>simp[ha,hb]at h
   |some b=>
    simp only[ha,hb,Option.bind_some,Option.map_some,Option.some.injEq]at h
    subst h
    obtain⟨l1,h1⟩:=ih s x a ha
    obtain⟨l2,h2⟩:=rdSL_le ih ss xs b hb
    refine⟨by simp[l1,l2],fun ho σ j hσ=> ?_⟩
    simp only[obSL]at ho
    obtain⟨o1,o2⟩:=allB_both ho
    obtain⟨q1,q2⟩:=Bd.ats_app hσ
    rw[l1]at q2
    exact⟨h1 o1 σ j q1,h2 o2 σ _ q2⟩
 | [],_::_,_,h=>by simp[rdSL]at h
 |_::_,[],_,h=>by simp[rdSL]at h
theorem esl_rows {T:TypeId} {xs:List (List AV)} {ys:List D} (hb:(xs.all fun c=>Nat.beq c.length (PG.cellsOf T))=true) (hm:mapO (fun cs=>avD dDepth T (uncell T cs)) xs=some ys):AVle (.esl xs) (.rows T (.list ys)):=by
 intro ρ E w v r
 simp only[Rep]at r ⊢
 have hl:=mapO_len hm
 obtain⟨a,cap,rfl,hcap,hr⟩:=r
 refine⟨a,cap,by simp only[D.toList,hl],by simp only[D.toList];omega,?_⟩
 rcases hr with hr|⟨b,off,z,ha,hE,hr⟩
 ·left;subst hr;simp[mapO]at hm;subst hm;rfl
 ·refine .inr ⟨b,off,ha,hE,fun i x hx=> ?_⟩
  obtain⟨c,hc,hcx⟩:=mapO_some hm (show ys[i]? = some x from hx)
  obtain⟨h1,h2⟩:=hr.get hc
  have hz:c.length=PG.cellsOf T:=Nat.eq_of_beq_eq_true (List.all_eq_true.1 hb c (List.mem_of_getElem? hc))
  obtain rfl:z=PG.cellsOf T:=by rw[← h1,hz]
  obtain⟨us,h3,h4⟩:=RepL.toAt h2
  exact⟨us,by rw[← h3.length,hz],h4,uncell_rep h3 hcx fun v hv=>avD_rep _ _ _ _ v _ hcx hv⟩
theorem nil_rows {T:TypeId}:AVle (.sc (.slice none 0 0)) (.rows T (.list [])):=by
 intro ρ E w v r
 simp only[Rep]at r ⊢
 subst r
 exact⟨none,0,rfl,Nat.le_refl _, .inl rfl⟩
theorem agg_dat {T:TypeId} {cs:List AV} {d:D} (hl:layOk PG rowDepth T=true) (h:avD dDepth T (.agg cs)=some d):AVle (.agg cs) (.dat T d):=by
 intro ρ E w v r
 have hd:=avD_rep dDepth T _ d v ρ h r
 simp only[Rep]at r ⊢
 obtain⟨us,rfl,_⟩:=r
 exact⟨us,rfl,hl,by simpa[Value.cells]using hd⟩
theorem rdS_le {hd:Nat→D}:∀n s x ds,rdS n s x=some ds→ds.length=lv n s∧(allB (obS hd n s x)=true→∀σ j,Bd.ats σ j ds→AVle x (mkS σ hd n s j)):=by
 intro n
 induction n with
 |zero=>intro s x ds h;simp[rdS]at h
 |succ n ih=>
  intro s x ds h
  cases s<;>simp only[rdS]at h
  case any=>cases h;exact⟨rfl,fun _ σ j _=>AVle.undef x⟩
  case lit v=>
   cases hb:litEq v x with
   |false=>simp[hb]at h
   |true=>
    simp only[hb,cond_true,Option.some.injEq]at h
    subst h
    obtain rfl:=litEq_eq hb
    exact⟨rfl,fun _ σ j _=>AVle.refl _⟩
  case int k=>
   split at h
   ·split at h
    ·rename_i hk;subst hk;cases h
     exact⟨rfl,fun _ σ j hσ=>by simp only[mkS];rw[(Bd.ats_one hσ).n];exact AVle.refl _⟩
    ·cases h
   ·split at h
    ·rename_i hk;subst hk;cases h
     exact⟨rfl,fun _ σ j hσ=>by simp only[mkS];rw[(Bd.ats_one hσ).n];exact AVle.int _ _⟩
    ·cases h
   ·cases h
  case bool=>
   split at h
   ·cases h;exact⟨rfl,fun _ σ j hσ=>by simp only[mkS];rw[(Bd.ats_one hσ).b];exact AVle.refl _⟩
   ·cases h;exact⟨rfl,fun _ σ j hσ=>by simp only[mkS];rw[(Bd.ats_one hσ).b];exact AVle.bool _⟩
   ·cases h
  case str=>
   split at h
   ·cases h;exact⟨rfl,fun _ σ j hσ=>by simp only[mkS];rw[(Bd.ats_one hσ).s];exact AVle.refl _⟩
   ·cases h;exact⟨rfl,fun _ σ j hσ=>by simp only[mkS];rw[(Bd.ats_one hσ).s];exact AVle.str _⟩
   ·cases h
  case rows T=>
   split at h
   ·rename_i T' d
    cases hb:Nat.beq T' T with
    |false=>simp[hb]at h
    |true=>
     simp only[hb,cond_true,Option.some.injEq]at h
     subst h
     obtain rfl:=Nat.eq_of_beq_eq_true hb
     exact⟨rfl,fun _ σ j hσ=>by simp only[mkS];rw[(Bd.ats_one hσ).d];exact AVle.refl _⟩
   ·rename_i xs
    cases hb:(layOk PG rowDepth T&&xs.all (fun c=>Nat.beq c.length (PG.cellsOf T)))with
    |false=>simp[hb]at h
    |true=>
     simp only[hb,cond_true]at h
     cases hm:mapO (fun cs=>avD dDepth T (uncell T cs)) xs with
     |none=>simp[hm]at h
     |some ys=>
      simp only[hm,Option.map_some,Option.some.injEq]at h
      subst h
      simp only[Bool.and_eq_true]at hb
      exact⟨rfl,fun _ σ j hσ=>by simp only[mkS];rw[(Bd.ats_one hσ).d];exact esl_rows hb.2 hm⟩
   ·cases h;exact⟨rfl,fun _ σ j hσ=>by simp only[mkS];rw[(Bd.ats_one hσ).d];exact nil_rows⟩
   ·cases h
  case dat T=>
   split at h
   ·rename_i T' d
    cases hb:Nat.beq T' T with
    |false=>simp[hb]at h
    |true=>
     simp only[hb,cond_true,Option.some.injEq]at h
     subst h
     obtain rfl:=Nat.eq_of_beq_eq_true hb
     exact⟨rfl,fun _ σ j hσ=>by simp only[mkS];rw[(Bd.ats_one hσ).d];exact AVle.refl _⟩
   ·rename_i cs
    cases hb:layOk PG rowDepth T with
    |false=>simp[hb]at h
    |true=>
     simp only[hb,cond_true]at h
     cases hm:avD dDepth T (.agg cs)with
     |none=>simp[hm]at h
     |some d=>
      simp only[hm,Option.map_some,Option.some.injEq]at h
      subst h
      exact⟨rfl,fun _ σ j hσ=>by simp only[mkS];rw[(Bd.ats_one hσ).d];exact agg_dat hb hm⟩
   ·cases h
  case edat T=>
   split at h
   ·rename_i T' d
    cases hb:Nat.beq T' T with
    |false=>simp[hb]at h
    |true=>
     simp only[hb,cond_true,Option.some.injEq]at h
     subst h
     obtain rfl:=Nat.eq_of_beq_eq_true hb
     exact⟨rfl,fun _ σ j hσ=>by simp only[mkS];rw[(Bd.ats_one hσ).d];exact AVle.refl _⟩
   ·cases h
  case ptr i off=>
   split at h
   ·rename_i i' off'
    cases hb:(Nat.beq i i'&&Nat.beq off off')with
    |false=>simp[hb]at h
    |true=>
     simp only[hb,cond_true,Option.some.injEq]at h
     subst h
     simp only[Bool.and_eq_true]at hb
     obtain rfl:i=i':=Nat.eq_of_beq_eq_true hb.1
     obtain rfl:off=off':=Nat.eq_of_beq_eq_true hb.2
     exact⟨rfl,fun _ σ j _=>AVle.refl _⟩
   ·cases h
  case agg ss=>
   split at h
   ·obtain⟨h1,h2⟩:=rdSL_le ih _ _ _ h
    exact⟨h1,fun ho σ j hσ=>AVle.agg (h2 (by simpa only[obS]using ho) σ j hσ)⟩
   ·obtain⟨h1,h2⟩:=rdSL_le ih _ _ _ h
    exact⟨h1,fun ho σ j hσ=>(AVle.dat _ _).trans (AVle.agg (h2 (by simpa only[obS]using ho) σ j hσ))⟩
   ·cases h
  case tup ss=>
   split at h
   ·obtain⟨h1,h2⟩:=rdSL_le ih _ _ _ h
    exact⟨h1,fun ho σ j hσ=>AVle.tup (h2 (by simpa only[obS]using ho) σ j hσ)⟩
   ·cases h
  case eptr ss=>
   split at h
   ·obtain⟨h1,h2⟩:=rdSL_le ih _ _ _ h
    exact⟨h1,fun ho σ j hσ=>AVle.eptr (h2 (by simpa only[obS]using ho) σ j hσ)⟩
   ·obtain⟨h1,h2⟩:=rdSL_le ih _ _ _ h
    exact⟨h1,fun ho σ j hσ=>(AVle.edat _ _).trans (AVle.eptr (h2 (by simpa only[obS]using ho) σ j hσ))⟩
   ·cases h
  case func f a b=>
   split at h
   ·rename_i f' a' b'
    cases hb:Nat.beq f f' with
    |false=>simp[hb]at h
    |true=>
     obtain rfl:f=f':=Nat.eq_of_beq_eq_true hb
     simp only[hb,cond_true]at h
     cases h1:rdSL (rdS n) a a' with
     |none=>simp[h1]at h
     |some p=>
      cases h2:rdSL (rdS n) b b' with
      |none=>simp[h1,h2]at h
      |some q=>
       simp only[h1,h2,Option.bind_some,Option.map_some,Option.some.injEq]at h
       subst h
       obtain⟨l1,k1⟩:=rdSL_le ih _ _ _ h1
       obtain⟨l2,k2⟩:=rdSL_le ih _ _ _ h2
       refine⟨by simp only[List.length_append,l1,l2,lv],fun ho σ j hσ=> ?_⟩
       simp only[obS]at ho
       obtain⟨o1,o2⟩:=allB_both ho
       obtain⟨q1,q2⟩:=Bd.ats_app hσ
       rw[l1]at q2
       exact AVle.func (k1 o1 σ j q1) (k2 o2 σ _ q2)
   ·cases h
  case osl j T=>
   split at h
   ·rename_i i T' m
    cases hb:(Nat.beq i j&&Nat.beq T' T)with
    |false=>simp[hb]at h
    |true=>
     simp only[hb,cond_true,Option.some.injEq]at h
     subst h
     simp only[Bool.and_eq_true]at hb
     obtain rfl:i=j:=Nat.eq_of_beq_eq_true hb.1
     obtain rfl:T'=T:=Nat.eq_of_beq_eq_true hb.2
     refine⟨rfl,fun ho σ k _=> ?_⟩
     have hm:=allB_mem ho (qcmp .eql m (qlen (hd i))) (by simp[obS])
     rw[qeqI_iff]at hm
     simp only[mkS, ← hm]
     exact AVle.refl _
   ·rename_i i z off len
    cases hb:(Nat.beq i j&&Nat.beq z (PG.cellsOf T)&&Nat.beq off 0)with
    |false=>simp[hb]at h
    |true=>
     simp only[hb,cond_true,Option.some.injEq]at h
     subst h
     simp only[Bool.and_eq_true]at hb
     obtain rfl:i=j:=Nat.eq_of_beq_eq_true hb.1.1
     obtain rfl:z=PG.cellsOf T:=Nat.eq_of_beq_eq_true hb.1.2
     obtain rfl:off=0:=Nat.eq_of_beq_eq_true hb.2
     refine⟨rfl,fun ho σ k _=> ?_⟩
     have hm:=allB_mem ho (qcmp .eql (len:Int) (qlen (hd i))) (by simp[obS])
     rw[qeqI_iff]at hm
     simp only[mkS, ← hm]
     intro ρ E w v r
     simp only[Rep]at r ⊢
     obtain⟨b,cap,hρ,rfl,hcap,c,Ty,f,hc,hs⟩:=r
     exact⟨by omega,_,cap,by simp,by simpa using hcap, .inr ⟨b,hρ,rfl,c,Ty,f,hc,by omega⟩⟩
   ·cases h
    refine⟨rfl,fun ho σ k _=> ?_⟩
    have hm:=allB_mem ho (qcmp .eql 0 (qlen (hd j))) (by simp[obS])
    rw[qeqI_iff]at hm
    simp only[mkS, ← hm]
    intro ρ E w v r
    simp only[Rep]at r ⊢
    subst r
    exact⟨Int.le_refl _,none,0,rfl,Nat.le_refl _, .inl ⟨trivial,rfl⟩⟩
   ·cases h
    refine⟨rfl,fun ho σ k _=> ?_⟩
    have hm:=allB_mem ho (qcmp .eql 0 (qlen (hd j))) (by simp[obS])
    rw[qeqI_iff]at hm
    simp only[mkS, ← hm]
    intro ρ E w v r
    simp only[Rep]at r ⊢
    obtain⟨a,rfl⟩:=r
    exact⟨Int.le_refl _,a,0,rfl,Nat.le_refl _, .inl ⟨trivial,rfl⟩⟩
   ·cases h
  case oslc j T=>
   split at h
   ·rename_i i T' m
    cases hb:(Nat.beq i j&&Nat.beq T' T)with
    |false=>simp[hb]at h
    |true=>
     simp only[hb,cond_true,Option.some.injEq]at h
     subst h
     simp only[Bool.and_eq_true]at hb
     obtain rfl:i=j:=Nat.eq_of_beq_eq_true hb.1
     obtain rfl:T'=T:=Nat.eq_of_beq_eq_true hb.2
     refine⟨rfl,fun ho σ k _=> ?_⟩
     have hm:=allB_mem ho (qcmp .eql m (qlen (hd i))) (by simp[obS])
     rw[qeqI_iff]at hm
     simp only[mkS, ← hm]
     exact AVle.refl _
   ·rename_i i z off len
    cases hb:(Nat.beq i j&&Nat.beq z (PG.cellsOf T)&&Nat.beq off 0)with
    |false=>simp[hb]at h
    |true=>
     simp only[hb,cond_true,Option.some.injEq]at h
     subst h
     simp only[Bool.and_eq_true]at hb
     obtain rfl:i=j:=Nat.eq_of_beq_eq_true hb.1.1
     obtain rfl:z=PG.cellsOf T:=Nat.eq_of_beq_eq_true hb.1.2
     obtain rfl:off=0:=Nat.eq_of_beq_eq_true hb.2
     refine⟨rfl,fun ho σ k _=> ?_⟩
     have hm:=allB_mem ho (qcmp .eql (len:Int) (qlen (hd i))) (by simp[obS])
     rw[qeqI_iff]at hm
     simp only[mkS, ← hm]
     intro ρ E w v r
     simp only[Rep]at r ⊢
     obtain⟨b,cap,hρ,rfl,hcap,c,Ty,f,hc,hs⟩:=r
     exact⟨by omega,_,cap,by simp,by simpa using hcap, .inr ⟨b,hρ,rfl,c,Ty,f,hc,by omega⟩⟩
   ·cases h
    refine⟨rfl,fun ho σ k _=> ?_⟩
    have hm:=allB_mem ho (qcmp .eql 0 (qlen (hd j))) (by simp[obS])
    rw[qeqI_iff]at hm
    simp only[mkS, ← hm]
    intro ρ E w v r
    simp only[Rep]at r ⊢
    subst r
    exact⟨Int.le_refl _,none,0,rfl,Nat.le_refl _, .inl ⟨trivial,rfl⟩⟩
   ·cases h
    refine⟨rfl,fun ho σ k _=> ?_⟩
    have hm:=allB_mem ho (qcmp .eql 0 (qlen (hd j))) (by simp[obS])
    rw[qeqI_iff]at hm
    simp only[mkS, ← hm]
    intro ρ E w v r
    simp only[Rep]at r ⊢
    obtain⟨a,rfl⟩:=r
    exact⟨Int.le_refl _,a,0,rfl,Nat.le_refl _, .inl ⟨trivial,rfl⟩⟩
   ·cases h
  case sl j z off len=>
   split at h
   ·rename_i i z' off' len'
    cases hb:(Nat.beq i j&&Nat.beq z' z&&Nat.beq off' off&&Nat.beq len' len)with
    |false=>simp[hb]at h
    |true=>
     simp only[hb,cond_true,Option.some.injEq]at h
     subst h
     simp only[Bool.and_eq_true]at hb
     obtain rfl:i=j:=Nat.eq_of_beq_eq_true hb.1.1.1
     obtain rfl:z'=z:=Nat.eq_of_beq_eq_true hb.1.1.2
     obtain rfl:off'=off:=Nat.eq_of_beq_eq_true hb.1.2
     obtain rfl:len'=len:=Nat.eq_of_beq_eq_true hb.2
     exact⟨rfl,fun _ σ k _=>AVle.refl _⟩
   ·cases h
  case map j=>
   split at h
   ·rename_i i
    cases hb:Nat.beq i j with
    |false=>simp[hb]at h
    |true=>
     simp only[hb,cond_true,Option.some.injEq]at h
     subst h
     obtain rfl:i=j:=Nat.eq_of_beq_eq_true hb
     exact⟨rfl,fun _ σ k _=>AVle.refl _⟩
   ·cases h
def shD:Nat:=6
def bdL (ds:List D):Bd:=⟨fun j=>(ds.getD j .other).toInt,fun j=>(ds.getD j .other).toBool,fun j=>(ds.getD j .other).toStr,fun j=>ds.getD j .other⟩
theorem bdL_ats (ds:List D):Bd.ats (bdL ds) 0 ds:=by
 intro i d hd
 have e:ds.getD (0+i) .other=d:=by simp[List.getD,hd]
 constructor<;>simp only[bdL,e]
noncomputable def qsome:Option (List D)→Bool:=veil Option.isSome
noncomputable def qnth:Option (List D)→Nat→D:=veil fun o j=>(o.getD []).getD j .other
theorem qsome_eq:qsome=Option.isSome:=veil_eq _
theorem qnth_eq:qnth=fun o j=>(o.getD []).getD j .other:=veil_eq _
noncomputable def bdQ (o:Option (List D)):Bd:=⟨fun j=>qint (qnth o j),fun j=>qbool (qnth o j),fun j=>qstr (qnth o j),fun j=>qnth o j⟩
theorem bdQ_some (r:List D):bdQ (some r)=bdL r:=by
 simp only[bdQ,bdL,qint_eq,qbool_eq,qstr_eq,qnth_eq,Option.getD_some]
theorem qsome_some {o:Option (List D)} (h:qsome o=true):∃r,o=some r:=by
 rw[qsome_eq]at h;exact Option.isSome_iff_exists.1 h
end Go.AM
