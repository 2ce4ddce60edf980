/-
  What abstract values stand for, and that this stands when the world goes on.
-/
import Derived.Test.YtiojjmlccehpoaaGreatAm1
set_option linter.unusedSimpArgs false
set_option linter.unusedVariables false
namespace Go.AM
def bA:Nat->Option Nat:=fun _=>none
def dg (P:Program) (T:TypeId):Bool:=
 match P.underlying T with
 |some (.int _)=>false
 |some .bool=>false
 |some .string=>false
 |some (.slice _)=>false
 |some (.struct _)=>false
 |some (.array _ _)=>false
 |_=>true
inductive RepD (P:Program) (E:Nat->Prop) (w:World):TypeId->D->List Value->Prop
 |int {T:TypeId} {k:IntKind} {n:Int} (h:P.underlying T=some (.int k)):RepD P E w T (.int n) [.int k n]
 |bool {T:TypeId} {b:Bool} (h:P.underlying T=some .bool):RepD P E w T (.bool b) [.bool b]
 |str {T:TypeId} {s:ByteArray} (h:P.underlying T=some .string):RepD P E w T (.str s) [.string s]
 |slice {T e:TypeId} {d:D} {a:Option Addr} {cap:Nat} (row:Nat->List Value) (h:P.underlying T=some (.slice e)) (hc:d.toList.length≤cap)
   (hr:d.toList = []∨∃b off,a=some ⟨b,off,none⟩∧E b∧∀i,i<d.toList.length->(row i).length=P.cellsOf e∧∀j u,(row i)[j]? = some u->w.cell? ⟨b,off+i*P.cellsOf e+j,none⟩=some u)
   (hd:∀i x,d.toList[i]? = some x->RepD P E w e x (row i)):RepD P E w T d [.slice a d.toList.length cap]
 |struct {T:TypeId} {fs:Array Field} {ds:List D} {cs:List Value} (h:P.underlying T=some (.struct fs)) (hl:cs.length=P.cellsOf T)
   (hd:∀j f,fs.toList[j]? = some f->RepD P E w f.type (ds.getD j .other) ((cs.drop f.offset).take (P.cellsOf f.type))):RepD P E w T (.agg ds) cs
 |array {T e:TypeId} {m:Nat} {ds:List D} {cs:List Value} (h:P.underlying T=some (.array m e)) (hl:cs.length=P.cellsOf T)
   (hd:∀j,j<m->RepD P E w e (ds.getD j .other) ((cs.drop (j*P.cellsOf e)).take (P.cellsOf e))):RepD P E w T (.agg ds) cs
 |other {T:TypeId} {d:D} {cs:List Value} (h:dg P T=true) (hl:cs.length=P.cellsOf T):RepD P E w T d cs
def RepSl (P:Program) (E:Nat->Prop) (w:World) (T:TypeId) (d:D) (v:Value):Prop:=
 ∃a cap,v = .slice a d.toList.length cap∧d.toList.length≤cap∧(d.toList = []∨∃b off,a=some ⟨b,off,none⟩∧E b∧
  ∀i x,d.toList[i]? = some x->∃row:List Value,row.length=P.cellsOf T∧(∀j u,row[j]? = some u->w.cell? ⟨b,off+i*P.cellsOf T+j,none⟩=some u)∧RepD P E w T x row)
def RepDat (P:Program) (E:Nat->Prop) (w:World) (T:TypeId) (d:D) (v:Value):Prop:=∃xs:Array Value,v = .agg xs∧layOk P rowDepth T=true∧RepD P E w T d xs.toList
def RepEd (P:Program) (E:Nat->Prop) (w:World) (T:TypeId) (d:D) (v:Value):Prop:=
 ∃(b off:Nat) (row:List Value),v = .pointer (some ⟨b,off,none⟩)∧E b∧layOk P rowDepth T=true∧(∀j u,row[j]? = some u->w.cell? ⟨b,off+j,none⟩=some u)∧RepD P E w T d row
def F4 (arr:Array MapEntry) (clk:Nat):Prop:=(∀e∈arr.toList,e.born<clk)∧(arr.toList.map (·.born)).Nodup
mutual
def Rep (ρ:Nat->Option Nat) (E:Nat->Prop) (w:World):AV->Value->Prop
 | .undef,_=>True
 | .sc x,v=>v=x
 | .ptr i off,v=>∃b,ρ i=some b∧v = .pointer (some ⟨b,off,none⟩)
 | .eptr cs,v=>∃b off,v = .pointer (some ⟨b,off,none⟩)∧E b∧RepAt bA E w b off cs
 | .sl i z off len,v=>∃b cap,ρ i=some b∧v = .slice (some ⟨b,off,none⟩) len cap∧len≤cap∧∃c T f,w.heap[b]? = some (.cells c T f)∧off+cap*z≤c.size
 | .esl xs,v=>∃a cap,v = .slice a xs.length cap∧xs.length≤cap∧(xs = []∨∃b off z,a=some ⟨b,off,none⟩∧E b∧RepRows bA E w b off z xs)
 | .map i,v=>∃b,ρ i=some b∧v = .map (some b)
 | .emap es,v=>∃b arr clk,v = .map (some b)∧E b∧w.heap[b]? = some (.map arr clk)∧RepM bA E w es arr.toList∧F4 arr clk
 | .func f a b,v=>∃xs ys,v = .func (.func f) xs ys∧RepL ρ E w a xs.toList∧RepL ρ E w b ys.toList
 | .agg cs,v=>∃xs,v = .agg xs∧RepL ρ E w cs xs.toList
 | .tup cs,v=>∃xs,v = .tuple xs∧RepL ρ E w cs xs.toList
 | .ui k n,v=>v = .int k n
 | .ub b,v=>v = .bool b
 | .us s,v=>v = .string s
 | .rows T d,v=>RepSl PG E w T d v
 | .dat T d,v=>RepDat PG E w T d v
 | .edat T d,v=>RepEd PG E w T d v
 | .rowz T d,v=>RepSl PG E w T d v∧∃a l c,v = .slice (some a) l c
 | .osl i T m,v=>0≤m∧∃a cap,v = .slice a m.toNat cap∧m.toNat≤cap∧((m=0∧cap=0)∨∃b,ρ i=some b∧a=some ⟨b,0,none⟩∧∃c T' f,w.heap[b]? = some (.cells c T' f)∧cap*PG.cellsOf T≤c.size)
 | .oel i T n off,v=>0≤n∧∃b,ρ i=some b∧v = .pointer (some ⟨b,n.toNat*PG.cellsOf T+off,none⟩)
 | .e0,v=>∃a,v = .slice a 0 0
 | .anyI k,v=>∃n,v = .int k n
 | .nx b x y,v=>(b=true∧∃xs u1 u2,v = .tuple xs∧xs.toList = [.bool true,u1,u2]∧Rep ρ E w x u1∧Rep ρ E w y u2)∨(b=false∧v = .tuple #[.bool false])
def RepL (ρ:Nat->Option Nat) (E:Nat->Prop) (w:World):List AV->List Value->Prop
 | [],vs=>vs = []
 |c::cs,vs=>∃v vs',vs=v::vs'∧Rep ρ E w c v∧RepL ρ E w cs vs'
def RepAt (ρ:Nat->Option Nat) (E:Nat->Prop) (w:World) (b off:Nat):List AV->Prop
 | []=>True
 |c::cs=>(∃u,w.cell? ⟨b,off,none⟩=some u∧Rep ρ E w c u)∧RepAt ρ E w b (off+1) cs
def RepRows (ρ:Nat->Option Nat) (E:Nat->Prop) (w:World) (b off z:Nat):List (List AV)->Prop
 | []=>True
 |x::xs=>x.length=z∧RepAt ρ E w b off x∧RepRows ρ E w b (off+z) z xs
def RepM (ρ:Nat->Option Nat) (E:Nat->Prop) (w:World):List (Value×AV)->List MapEntry->Prop
 | [],es=>es = []
 | (k,v)::r,es=>∃e es',es=e::es'∧e.key=k∧Rep ρ E w v e.val∧RepM ρ E w r es'
end
structure Ext (ρ:Nat->Option Nat) (E:Nat->Prop) (w:World) (ρ':Nat->Option Nat) (E':Nat->Prop) (w':World):Prop where
 map:∀i b,ρ i=some b->ρ' i=some b
 ext:∀b,E b->E' b
 same:∀b,E b->w'.heap[b]? = w.heap[b]?
 size:∀i b c T f,ρ i=some b->w.heap[b]? = some (.cells c T f)->∃c',w'.heap[b]? = some (.cells c' T f)∧c'.size=c.size
 bigger:w.heap.size≤w'.heap.size
theorem kG {w w':World} {b off:Nat} (h:w'.heap[b]? = w.heap[b]?):w'.cell? ⟨b,off,none⟩=w.cell? ⟨b,off,none⟩:=by
 simp only[World.cell?,h]
section
variable {ρ:Nat->Option Nat} {E:Nat->Prop} {w:World} {ρ':Nat->Option Nat} {E':Nat->Prop} {w':World}
theorem Ext.refl:Ext ρ E w ρ E w:=⟨fun _ _ h=>h,fun _ h=>h,fun _ _=>rfl,fun _ _ c _ _ _ h=>⟨c,h,rfl⟩,bj _⟩
theorem Ext.trans {ρ'':Nat->Option Nat} {E'':Nat->Prop} {w'':World} (h:Ext ρ E w ρ' E' w') (h':Ext ρ' E' w' ρ'' E'' w''):Ext ρ E w ρ'' E'' w'':=
 ⟨fun i b e=>h'.map i b (h.map i b e),fun b e=>h'.ext b (h.ext b e),fun b e=>(h'.same b (h.ext b e)).trans (h.same b e),
  fun i b c T f e hc=>let⟨c',hc',hs⟩:=h.size i b c T f e hc;let⟨c'',hc'',hs'⟩:=h'.size i b c' T f (h.map i b e) hc';⟨c'',hc'',hs'.trans hs⟩,Nat.le_trans h.bigger h'.bigger⟩
theorem Ext.none (h:Ext ρ E w ρ' E' w'):Ext bA E w bA E' w':=
 ⟨fun _ _ e=>e,h.ext,h.same,fun _ _ _ _ _ e=>(by cases e),h.bigger⟩
theorem RepD.mono {P:Program} (h:Ext ρ E w ρ' E' w') {T:TypeId} {d:D} {cs:List Value} (r:RepD P E w T d cs):RepD P E' w' T d cs:=by
 induction r with
 |int h=>exact .int h
 |bool h=>exact .bool h
 |str h=>exact .str h
 |slice row hT hc hr _ ih=>
  refine .slice row hT hc ?_ ih
  rcases hr with hr|⟨b,off,ha,hb,hr⟩
  ·exact .inl hr
  ·exact .inr ⟨b,off,ha,h.ext b hb,fun i hi=>⟨(hr i hi).1,fun j u hu=>(kG (h.same b hb)).trans ((hr i hi).2 j u hu)⟩⟩
 |struct hT hl _ ih=>exact .struct hT hl ih
 |array hT hl _ ih=>exact .array hT hl ih
 |other hT hl=>exact .other hT hl
theorem RepSl.mono {P:Program} (h:Ext ρ E w ρ' E' w') {T:TypeId} {d:D} {v:Value} (r:RepSl P E w T d v):RepSl P E' w' T d v:=by
 obtain⟨a,cap,hv,hl,hr⟩:=r;refine⟨a,cap,hv,hl,?_⟩
 rcases hr with hr|⟨b,off,ha,hb,hr⟩
 ·exact .inl hr
 ·refine .inr ⟨b,off,ha,h.ext b hb,fun i x hx=> ?_⟩
  obtain⟨row,h1,h2,h3⟩:=hr i x hx;exact⟨row,h1,fun j u hu=>(kG (h.same b hb)).trans (h2 j u hu),h3.mono h⟩
theorem RepDat.mono {P:Program} (h:Ext ρ E w ρ' E' w') {T:TypeId} {d:D} {v:Value} (r:RepDat P E w T d v):RepDat P E' w' T d v:=by
 obtain⟨xs,hv,hl,hr⟩:=r;exact⟨xs,hv,hl,hr.mono h⟩
theorem RepEd.mono {P:Program} (h:Ext ρ E w ρ' E' w') {T:TypeId} {d:D} {v:Value} (r:RepEd P E w T d v):RepEd P E' w' T d v:=by
 obtain⟨b,off,row,hv,hb,hl,hc,hr⟩:=r;exact⟨b,off,row,hv,h.ext b hb,hl,fun j u hu=>(kG (h.same b hb)).trans (hc j u hu),hr.mono h⟩
theorem RepD.len {P:Program} {T:TypeId} {n:Nat} (hl:layOk P n T=true) {d:D} {cs:List Value} (r:RepD P E w T d cs):cs.length=P.cellsOf T:=by
 cases n with
 |zero=>simp[layOk]at hl
 |succ n=>
  cases r with
  |int h=>simp only[layOk,h]at hl;simpa using(aR hl).symm
  |bool h=>simp only[layOk,h]at hl;simpa using(aR hl).symm
  |str h=>simp only[layOk,h]at hl;simpa using(aR hl).symm
  |slice row h=>simp only[layOk,h]at hl;simpa using(aR hl).symm
  |struct h hl'=>exact hl'
  |array h hl'=>exact hl'
  |other h hl'=>exact hl'
mutual
theorem Rep.mono {ρ:Nat->Option Nat} {E:Nat->Prop} {w:World} {ρ':Nat->Option Nat} {E':Nat->Prop} {w':World} (h:Ext ρ E w ρ' E' w'):∀(x:AV) (v:Value),Rep ρ E w x v->Rep ρ' E' w' x v
 | .undef,_,_=>by simp only[Rep]
 | .sc _,_,r=>by simp only[Rep]at r ⊢;exact r
 | .ptr i off,_,r=>by
   simp only[Rep]at r ⊢;obtain⟨b,hb,hv⟩:=r;exact⟨b,h.map _ _ hb,hv⟩
 | .eptr cs,_,r=>by
   simp only[Rep]at r ⊢;obtain⟨b,off,hv,hb,hr⟩:=r;exact⟨b,off,hv,h.ext b hb,RepAt.mono h.none b hb cs off hr⟩
 | .sl i z off len,_,r=>by
   simp only[Rep]at r ⊢;obtain⟨b,cap,hb,hv,hl,c,T,f,hc,hs⟩:=r;obtain⟨c',hc',hs'⟩:=h.size i b c T f hb hc;exact⟨b,cap,h.map _ _ hb,hv,hl,c',T,f,hc',by omega⟩
 | .esl xs,_,r=>by
   simp only[Rep]at r ⊢;obtain⟨a,cap,hv,hl,hr⟩:=r;refine⟨a,cap,hv,hl,?_⟩
   rcases hr with hr|⟨b,off,z,ha,hb,hr⟩
   ·exact .inl hr
   ·exact .inr ⟨b,off,z,ha,h.ext b hb,RepRows.mono h.none b hb xs off z hr⟩
 | .map i,_,r=>by
   simp only[Rep]at r ⊢;obtain⟨b,hb,hv⟩:=r;exact⟨b,h.map _ _ hb,hv⟩
 | .emap es,_,r=>by
   simp only[Rep]at r ⊢;obtain⟨b,arr,clk,hv,hb,hm,hr⟩:=r;exact⟨b,arr,clk,hv,h.ext b hb,(h.same b hb).trans hm,RepM.mono h.none es _ hr.1,hr.2⟩
 | .func f a b,_,r=>by
   simp only[Rep]at r ⊢;obtain⟨xs,ys,hv,ha,hb⟩:=r;exact⟨xs,ys,hv,RepL.mono h a _ ha,RepL.mono h b _ hb⟩
 | .agg cs,_,r=>by
   simp only[Rep]at r ⊢;obtain⟨xs,hv,ha⟩:=r;exact⟨xs,hv,RepL.mono h cs _ ha⟩
 | .tup cs,_,r=>by
   simp only[Rep]at r ⊢;obtain⟨xs,hv,ha⟩:=r;exact⟨xs,hv,RepL.mono h cs _ ha⟩
 | .ui _ _,_,r=>by simp only[Rep]at r ⊢;exact r
 | .ub _,_,r=>by simp only[Rep]at r ⊢;exact r
 | .us _,_,r=>by simp only[Rep]at r ⊢;exact r
 | .rows _ _,_,r=>by simp only[Rep]at r ⊢;exact RepSl.mono h r
 | .dat _ _,_,r=>by simp only[Rep]at r ⊢;exact RepDat.mono h r
 | .edat _ _,_,r=>by simp only[Rep]at r ⊢;exact RepEd.mono h r
 | .rowz _ _,_,r=>by simp only[Rep]at r ⊢;exact⟨RepSl.mono h r.1,r.2⟩
 | .osl i T m,_,r=>by
   simp only[Rep]at r ⊢;obtain⟨h0,a,cap,hv,hl,hr⟩:=r;refine⟨h0,a,cap,hv,hl,?_⟩
   rcases hr with hr|⟨b,hb,ha,c,T',f,hc,hs⟩
   ·exact .inl hr
   ·obtain⟨c',hc',hs'⟩:=h.size i b c T' f hb hc;exact .inr ⟨b,h.map _ _ hb,ha,c',T',f,hc',by omega⟩
 | .oel i T n off,_,r=>by
   simp only[Rep]at r ⊢;obtain⟨h0,b,hb,hv⟩:=r;exact⟨h0,b,h.map _ _ hb,hv⟩
 | .e0,_,r=>by simp only[Rep]at r ⊢;exact r
 | .anyI _,_,r=>by simp only[Rep]at r ⊢;exact r
 | .nx b x y,_,r=>by
   simp only[Rep]at r ⊢;rcases r with⟨hb,xs,u1,u2,hv,hl,h1,h2⟩|r
   ·exact .inl ⟨hb,xs,u1,u2,hv,hl,Rep.mono h x _ h1,Rep.mono h y _ h2⟩
   ·exact .inr r
theorem RepL.mono {ρ:Nat->Option Nat} {E:Nat->Prop} {w:World} {ρ':Nat->Option Nat} {E':Nat->Prop} {w':World} (h:Ext ρ E w ρ' E' w'):∀(xs:List AV) (vs:List Value),RepL ρ E w xs vs->RepL ρ' E' w' xs vs
 | [],_,r=>by simp only[RepL]at r ⊢;exact r
 |c::cs,_,r=>by
  simp only[RepL]at r ⊢;obtain⟨v,vs',hv,h1,h2⟩:=r;exact⟨v,vs',hv,Rep.mono h c v h1,RepL.mono h cs vs' h2⟩
theorem RepAt.mono {ρ:Nat->Option Nat} {E:Nat->Prop} {w:World} {ρ':Nat->Option Nat} {E':Nat->Prop} {w':World} (h:Ext ρ E w ρ' E' w') (b:Nat) (hb:E b):∀(xs:List AV) (off:Nat),RepAt ρ E w b off xs->RepAt ρ' E' w' b off xs
 | [],_,_=>by simp only[RepAt]
 |c::cs,off,r=>by
  simp only[RepAt]at r ⊢;obtain⟨⟨u,hu,h1⟩,h2⟩:=r;exact⟨⟨u,(kG (h.same b hb)).trans hu,Rep.mono h c u h1⟩,RepAt.mono h b hb cs (off+1) h2⟩
theorem RepRows.mono {ρ:Nat->Option Nat} {E:Nat->Prop} {w:World} {ρ':Nat->Option Nat} {E':Nat->Prop} {w':World} (h:Ext ρ E w ρ' E' w') (b:Nat) (hb:E b):∀(xs:List (List AV)) (off z:Nat),RepRows ρ E w b off z xs->RepRows ρ' E' w' b off z xs
 | [],_,_,_=>by simp only[RepRows]
 |x::xs,off,z,r=>by
  simp only[RepRows]at r ⊢;obtain⟨h1,h2,h3⟩:=r;exact⟨h1,RepAt.mono h b hb x off h2,RepRows.mono h b hb xs (off+z) z h3⟩
theorem RepM.mono {ρ:Nat->Option Nat} {E:Nat->Prop} {w:World} {ρ':Nat->Option Nat} {E':Nat->Prop} {w':World} (h:Ext ρ E w ρ' E' w'):∀(xs:List (Value×AV)) (es:List MapEntry),RepM ρ E w xs es->RepM ρ' E' w' xs es
 | [],_,r=>by simp only[RepM]at r ⊢;exact r
 | (k,v)::xs,_,r=>by
   simp only[RepM]at r ⊢;obtain⟨e,es',he,hk,h1,h2⟩:=r;exact⟨e,es',he,hk,Rep.mono h v e.val h1,RepM.mono h xs es' h2⟩
end
theorem Ext.up:Ext bA E w ρ E w:=⟨fun _ _ e=>(by cases e),fun _ h=>h,fun _ _=>rfl,fun _ _ _ _ _ e=>(by cases e),bj _⟩
theorem Rep.up {x:AV} {v:Value} (h:Rep bA E w x v):Rep ρ E w x v:=Rep.mono Ext.up x v h
theorem RepL.length:∀{xs:List AV} {vs:List Value},RepL ρ E w xs vs->xs.length=vs.length
 | [],vs,h=>by simp only[RepL]at h;simp[h]
 |c::cs,vs,h=>by
  simp only[RepL]at h;obtain⟨v,vs',rfl,_,h2⟩:=h;simp[RepL.length h2]
theorem RepL.cons {x:AV} {xs:List AV} {v:Value} {vs:List Value} (h:Rep ρ E w x v) (h':RepL ρ E w xs vs):RepL ρ E w (x::xs) (v::vs):=by
 simp only[RepL];exact⟨v,vs,rfl,h,h'⟩
theorem RepL.nil:RepL ρ E w [] []:=by simp only[RepL]
theorem RepL.get:∀{xs:List AV} {vs:List Value},RepL ρ E w xs vs->∀{i:Nat} {x:AV},xs[i]? = some x->∃v,vs[i]? = some v∧Rep ρ E w x v
 | [],_,_,i,x,hi=>by simp at hi
 |c::cs,vs,h,i,x,hi=>by
  simp only[RepL]at h;obtain⟨v,vs',rfl,h1,h2⟩:=h;cases i with
  |zero=>simp at hi;subst hi;exact⟨v,by simp,h1⟩
  |succ i=>simp at hi;obtain⟨u,hu,hr⟩:=RepL.get h2 hi;exact⟨u,by simpa using hu,hr⟩
theorem RepL.of:∀{xs:List AV} {vs:List Value},xs.length=vs.length->(∀(i:Nat) (x:AV) (v:Value),xs[i]? = some x->vs[i]? = some v->Rep ρ E w x v)->RepL ρ E w xs vs
 | [],vs,h,_=>by cases vs with|nil=>exact RepL.nil|cons _ _=>simp at h
 |c::cs,vs,h,hh=>by
  cases vs with
  |nil=>simp at h
  |cons v vs=>exact RepL.cons (hh 0 c v (by simp) (by simp)) (RepL.of (by simpa using h) fun i x u h1 h2=>hh (i+1) x u (by simpa using h1) (by simpa using h2))
theorem RepL.app:∀{xs ys:List AV} {vs us:List Value},RepL ρ E w xs vs->RepL ρ E w ys us->RepL ρ E w (xs++ys) (vs++us)
 | [],_,_,_,h,h'=>by simp only[RepL]at h;subst h;simpa using h'
 |c::cs,_,_,_,h,h'=>by
  simp only[RepL]at h;obtain⟨v,vs',rfl,h1,h2⟩:=h;exact RepL.cons h1 (RepL.app h2 h')
theorem RepL.take:∀{xs:List AV} {vs:List Value} (n:Nat),RepL ρ E w xs vs->RepL ρ E w (xs.take n) (vs.take n)
 |_,_,0,_=>by simpa using RepL.nil
 | [],_,n+1,h=>by simp only[RepL]at h;subst h;simpa using RepL.nil
 |c::cs,_,n+1,h=>by
  simp only[RepL]at h;obtain⟨v,vs',rfl,h1,h2⟩:=h;exact RepL.cons h1 (RepL.take n h2)
theorem RepL.drop:∀{xs:List AV} {vs:List Value} (n:Nat),RepL ρ E w xs vs->RepL ρ E w (xs.drop n) (vs.drop n)
 |_,_,0,h=>by simpa using h
 | [],_,n+1,h=>by simp only[RepL]at h;subst h;simpa using RepL.nil
 |c::cs,_,n+1,h=>by
  simp only[RepL]at h;obtain⟨v,vs',rfl,h1,h2⟩:=h;simpa using RepL.drop n h2
theorem RepL.sc (vs:List Value):RepL ρ E w (vs.map .sc) vs:=by
 induction vs with
 |nil=>exact RepL.nil
 |cons v vs ih=>exact RepL.cons (by simp only[Rep]) ih
theorem RepAt.get {b:Nat}:∀{xs:List AV} {off:Nat},RepAt ρ E w b off xs->∀{i:Nat} {x:AV},xs[i]? = some x->∃v,w.cell? ⟨b,off+i,none⟩=some v∧Rep ρ E w x v
 | [],_,_,i,x,hi=>by simp at hi
 |c::cs,off,h,i,x,hi=>by
  simp only[RepAt]at h;obtain⟨⟨u,hu,h1⟩,h2⟩:=h;cases i with
  |zero=>simp at hi;subst hi;exact⟨u,by simpa using hu,h1⟩
  |succ i=>simp at hi;obtain⟨u,hu,hr⟩:=RepAt.get h2 hi;exact⟨u,by rw[show off+(i+1)=off+1+i from by omega];exact hu,hr⟩
theorem RepAt.drop {b:Nat}:∀{xs:List AV} {off:Nat} (n:Nat),RepAt ρ E w b off xs->RepAt ρ E w b (off+n) (xs.drop n)
 |_,_,0,h=>by simpa using h
 | [],_,n+1,_=>by simp only[List.drop_nil,RepAt]
 |c::cs,off,n+1,h=>by
  simp only[RepAt]at h;have:=RepAt.drop n h.2;rw[show off+(n+1)=off+1+n from by omega]
  simpa using this
theorem RepRows.get {b z:Nat}:∀{xs:List (List AV)} {off:Nat},RepRows ρ E w b off z xs->∀{i:Nat} {x:List AV},xs[i]? = some x->x.length=z∧RepAt ρ E w b (off+i*z) x
 | [],_,_,i,x,hi=>by simp at hi
 |c::cs,off,h,i,x,hi=>by
  simp only[RepRows]at h;obtain⟨h1,h2,h3⟩:=h;cases i with
  |zero=>simp at hi;subst hi;exact⟨h1,by simpa using h2⟩
  |succ i=>
   simp at hi;obtain⟨k1,k2⟩:=RepRows.get h3 hi;exact⟨k1,by rw[show off+(i+1)*z=off+z+i*z from by rw[fS];omega];exact k2⟩
theorem RepRows.drop {b z:Nat}:∀{xs:List (List AV)} {off:Nat} (n:Nat),RepRows ρ E w b off z xs->n≤xs.length->RepRows ρ E w b (off+n*z) z (xs.drop n)
 |_,_,0,h,_=>by simpa using h
 | [],_,n+1,_,hn=>by simp at hn
 |c::cs,off,n+1,h,hn=>by
  simp only[RepRows]at h;have:=RepRows.drop n h.2.2 (by simpa using hn)
  rw[show off+(n+1)*z=off+z+n*z from by rw[fS];omega]
  simpa using this
theorem RepRows.take {b z:Nat}:∀{xs:List (List AV)} {off:Nat} (n:Nat),RepRows ρ E w b off z xs->RepRows ρ E w b off z (xs.take n)
 |_,_,0,_=>by simp only[nJ,RepRows]
 | [],_,n+1,_=>by simp only[List.take_nil,RepRows]
 |c::cs,off,n+1,h=>by
  simp only[RepRows]at h;simp only[List.take_succ_cons,RepRows];exact⟨h.1,h.2.1,RepRows.take n h.2.2⟩
theorem Rep.ofV (v:Value):Rep ρ E w (ofV v) v:=by
 cases v<;>simp only[AM.ofV,Rep]
 case agg cs=>exact⟨cs,rfl,RepL.sc _⟩
 case tuple cs=>exact⟨cs,rfl,RepL.sc _⟩
theorem lS {α:Type} {P:Program}:∀{s:Sem α} {a:α},bR P s=some a->∀w,s.run P w = .ok a w
 | .pure _,_,h,w=>by simp only[bR,aN]at h;subst h;simp[Sem.run]
 | .program k,_,h,w=>by simp only[bR]at h;simp only[Sem.run];exact lS h w
 | .load ..,_,h,_=>by simp[bR]at h
 | .store ..,_,h,_=>by simp[bR]at h
 | .new ..,_,h,_=>by simp[bR]at h
 | .shape ..,_,h,_=>by simp[bR]at h
 | .freeze ..,_,h,_=>by simp[bR]at h
 | .frozen ..,_,h,_=>by simp[bR]at h
 | .getObj ..,_,h,_=>by simp[bR]at h
 | .setObj ..,_,h,_=>by simp[bR]at h
 | .choose ..,_,h,_=>by simp[bR]at h
 | .sys ..,_,h,_=>by simp[bR]at h
 | .mark ..,_,h,_=>by simp[bR]at h
 | .halt ..,_,h,_=>by simp[bR]at h
theorem RepAt.ofL {b:Nat}:∀{cs:List AV} {row:List Value} {off:Nat},RepL ρ E w cs row->(∀(j:Nat) u,row[j]? = some u->w.cell? ⟨b,off+j,none⟩=some u)->RepAt ρ E w b off cs
 | [],_,_,_,_=>by simp only[RepAt]
 |c::cs,row,off,h,hc=>by
  simp only[RepL]at h;obtain⟨v,vs',rfl,h1,h2⟩:=h;simp only[RepAt];exact⟨⟨v,hc 0 v rfl,h1⟩,RepAt.ofL h2 fun j u hu=>by rw[show off+1+j=off+(j+1)from by omega];exact hc (j+1) u (by simpa using hu)⟩
theorem bo:∀{bs:List Bool},aU bs=true->∀b∈bs,b=true
 | [],_,_,h=>by cases h
 |b::bs,h,c,hc=>by
  simp only[aU]at h;cases b with
  |false=>simp at h
  |true=>
   simp only[aj]at h;rcases cy.1 hc with rfl|hc
   ·rfl
   ·exact bo h c hc
theorem iU:ah=D.toInt:=ai _
theorem jP:aQ=D.toBool:=ai _
theorem mP:aB=D.toStr:=ai _
theorem bx:aa=D.fld:=ai _
theorem mR:ay=D.get:=ai _
theorem oI:dr=D.sub:=ai _
theorem eH:ae=D.len:=ai _
theorem mS:aS=D.inb:=ai _
theorem eI:aM=gU:=ai _
theorem bY:ab=ef:=ai _
theorem oJ:cI=vq:=ai _
theorem S8:qun=run1:=ai _
theorem uc:bU=Bool.not:=ai _
theorem F6:fA=IntKind.wrap:=ai _
theorem oK:fB=fun s:ByteArray=>(s.size:Int):=ai _
theorem S9:qsubS=fun(s:ByteArray) (lo hi:Int)=>s.extract lo.toNat hi.toNat:=ai _
theorem Kk:qmm=rmm:=ai _
theorem iV:ci=fun a b:Bool=>a&&b:=ai _
theorem F7:vt=Ba:=ai _
theorem F8:vv=NH:=ai _
theorem oL:AA=fun a b:Bool=>a==b:=ai _
theorem mT:bG=D.app:=ai _
theorem qset_eq:Qf=D.upd:=ai _
theorem ud:J9=fun(n:Int) (d:D)=>D.list (List.replicate n.toNat d):=ai _
theorem Qj:J7=D.bytes:=ai _
theorem F9:SL=D.text:=ai _
theorem Di:J8=fun a b:ByteArray=>a++b:=ai _
theorem Bm:jm=fun a b:ByteArray=>decide (((a.size+b.size:Nat):Int)≤9223372036854775807):=ai _
theorem ue:cA=Qg:=ai _
theorem lT {n:Nat} (ih:∀T d cs,layOk PG n T=true->RepD PG E w T d cs->RepL ρ E w (bC n T d) cs) {ds:List D} {cs:List Value} {all:List Field} {z:Nat}
 (hd:∀j f,all[j]? = some f->RepD PG E w f.type (ds.getD j .other) ((cs.drop f.offset).take (PG.cellsOf f.type))):
 ∀(fs:List Field) (j off:Nat),all.drop j=fs->jI PG (layOk PG n) off fs=some z->off≤z∧RepL ρ E w (dO (bC n) (.agg ds) j fs) ((cs.drop off).take (z-off))
 | [],j,off,_,h=>by
   simp only[jI,aN]at h;subst h;simp only[dO,bj,Nat.sub_self,nJ,true_and];exact RepL.nil
 |f::fs,j,off,he,h=>by
  simp only[jI]at h;cases hb:(Nat.beq f.offset off&&layOk PG n f.type)with
  |false=>simp[hb]at h
  |true=>
   simp only[hb,aj]at h;simp only[bn]at hb;have ho:f.offset=off:=aR hb.1;have hj:all[j]? = some f:=by
    have:=congrArg (·[0]?) he
    simpa[jF]using this
   have hn:all.drop (j+1)=fs:=by
    have:=congrArg (List.drop 1) he;simpa[List.drop_drop,Nat.add_comm]using this
   obtain⟨h1,h2⟩:=lT ih hd fs (j+1) (off+PG.cellsOf f.type) hn h;have hr:=hd j f hj;have hlen:=hr.len hb.2;rw[ho]at hr hlen;refine⟨by omega,?_⟩
   simp only[dO,bx];have h3:(cs.drop off).take (z-off)=(cs.drop off).take (PG.cellsOf f.type)++(cs.drop (off+PG.cellsOf f.type)).take (z-(off+PG.cellsOf f.type)):=by
    rw[show z-off=PG.cellsOf f.type+(z-(off+PG.cellsOf f.type))from by omega,List.take_add,List.drop_drop]
   rw[h3];exact RepL.app (ih _ _ _ hb.2 hr) h2
theorem oM {n:Nat} (ih:∀T d cs,layOk PG n T=true->RepD PG E w T d cs->RepL ρ E w (bC n T d) cs) {ds:List D} {cs:List Value} {e:TypeId} (hl:layOk PG n e=true):
 ∀(m j:Nat),(∀i,j≤i->i<j+m->RepD PG E w e (ds.getD i .other) ((cs.drop (i*PG.cellsOf e)).take (PG.cellsOf e)))->RepL ρ E w (fD (bC n e) (.agg ds) j m) ((cs.drop (j*PG.cellsOf e)).take (m*PG.cellsOf e))
 |0,j,_=>by simp only[fD,Nat.zero_mul,nJ];exact RepL.nil
 |m+1,j,hd=>by
  have h1:=oM ih hl m (j+1) fun i h1 h2=>hd i (by omega) (by omega)
  simp only[fD];rw[show(m+1)*PG.cellsOf e=PG.cellsOf e+m*PG.cellsOf e from by rw[fS];omega,List.take_add,List.drop_drop,show j*PG.cellsOf e+PG.cellsOf e=(j+1)*PG.cellsOf e from by rw[fS]]
  have h0:=hd j (bj _) (by omega)
  rw[bx];exact RepL.app (ih _ _ _ hl h0) h1
theorem dc:∀(n:Nat) (T:TypeId) (d:D) (cs:List Value),layOk PG n T=true->RepD PG E w T d cs->RepL ρ E w (bC n T d) cs
 |0,_,_,_,h,_=>by simp[layOk]at h
 |n+1,T,d,cs,h,r=>by
  cases r with
  |int hT=>simp only[bC,hT,iU,D.toInt];exact RepL.cons (by simp only[Rep]) RepL.nil
  |bool hT=>simp only[bC,hT,jP,D.toBool];exact RepL.cons (by simp only[Rep]) RepL.nil
  |str hT=>simp only[bC,hT,mP,D.toStr];exact RepL.cons (by simp only[Rep]) RepL.nil
  |slice row hT hc hr hd=>
   simp only[bC,hT];refine RepL.cons ?_ RepL.nil
   simp only[Rep];refine⟨_,_,rfl,hc,?_⟩
   rcases hr with hr|⟨b,off,ha,hb,hr⟩
   ·exact .inl hr
   ·refine .inr ⟨b,off,ha,hb,fun i x hx=> ?_⟩
    have hi:=(cU.1 hx).1;exact⟨row i,(hr i hi).1,(hr i hi).2,hd i x hx⟩
  |struct hT hl hd=>
   simp only[layOk,hT]at h;split at h
   ·rename_i z hz;have hz':=aR h;simp only[bC,hT];obtain⟨_,h2⟩:=lT (dc n) hd _ 0 0 (by simp) hz
    have:(cs.drop 0).take (z-0)=cs:=by simp[hz', <- hl]
    rw[this]at h2;exact h2
   ·cases h
  | @array _ e m ds _ hT hl hd=>
    simp only[layOk,hT,bn]at h;have hz':=aR h.2;simp only[bC,hT];have h2:=oM (ρ:=ρ) (dc n) h.1 m 0 fun i _ hi=>hd i (by omega)
    rw[Nat.zero_mul,lL,hz', <- hl,List.take_length]at h2;exact h2
  |other hT hl=>
   have h1:cs.length=1:=by
    rw[hl];unfold layOk at h;unfold dg at hT;split at h<;>simp_all
   have h2:bC (n+1) T d = [.undef]:=by
    unfold bC;unfold dg at hT;split<;>simp_all
   rw[h2]
   match cs,h1 with
   | [v],_=>exact RepL.cons (by simp only[Rep]) RepL.nil
theorem oN {T:TypeId} {d:D} {v:Value} (h:Rep ρ E w (.dat T d) v):Rep ρ E w (.agg (bC rowDepth T d)) v:=by
 simp only[Rep]at h ⊢;obtain⟨xs,hv,hl,hr⟩:=h;exact⟨xs,hv,dc _ _ _ _ hl hr⟩
theorem qw {T:TypeId} {d:D} {v:Value} (h:Rep ρ E w (.edat T d) v):Rep ρ E w (.eptr (bC rowDepth T d)) v:=by
 simp only[Rep]at h ⊢;obtain⟨b,off,row,hv,hb,hl,hc,hr⟩:=h;exact⟨b,off,hv,hb,RepAt.ofL (dc _ _ _ _ hl hr) hc⟩
end
end Go.AM
