/-
  What abstract values stand for, and that this stands when the world goes on.
-/
import Derived.Test.YteccopaonadbeaaGreatDoorAm1
set_option linter.unusedVariables false
set_option linter.unusedSimpArgs false
namespace Go.AM
def nowhere:Nat→Option Nat:=fun _=>none
def isOther (P:Program) (T:TypeId):Bool:=
 match P.underlying T with
 |some (.int _)=>false
 |some .bool=>false
 |some .string=>false
 |some (.slice _)=>false
 |some (.struct _)=>false
 |some (.array _ _)=>false
 |_=>true
inductive RepD (P:Program) (E:Nat→Prop) (w:World):TypeId→D→List Value→Prop
 |int {T:TypeId} {k:IntKind} {n:Int} (h:P.underlying T=some (.int k)):RepD P E w T (.int n) [.int k n]
 |bool {T:TypeId} {b:Bool} (h:P.underlying T=some .bool):RepD P E w T (.bool b) [.bool b]
 |str {T:TypeId} {s:ByteArray} (h:P.underlying T=some .string):RepD P E w T (.str s) [.string s]
 |slice {T e:TypeId} {d:D} {a:Option Addr} {cap:Nat} (row:Nat→List Value) (h:P.underlying T=some (.slice e)) (hc:d.toList.length≤cap)
   (hr:d.toList = []∨∃b off,a=some ⟨b,off,none⟩∧E b∧∀i,i<d.toList.length→(row i).length=P.cellsOf e∧∀j u,(row i)[j]? = some u→w.cell? ⟨b,off+i*P.cellsOf e+j,none⟩=some u)
   (hd:∀i x,d.toList[i]? = some x→RepD P E w e x (row i)):RepD P E w T d [.slice a d.toList.length cap]
 |struct {T:TypeId} {fs:Array Field} {ds:List D} {cs:List Value} (h:P.underlying T=some (.struct fs)) (hl:cs.length=P.cellsOf T)
   (hd:∀j f,fs.toList[j]? = some f→RepD P E w f.type (ds.getD j .other) ((cs.drop f.offset).take (P.cellsOf f.type))):RepD P E w T (.agg ds) cs
 |array {T e:TypeId} {m:Nat} {ds:List D} {cs:List Value} (h:P.underlying T=some (.array m e)) (hl:cs.length=P.cellsOf T)
   (hd:∀j,j<m→RepD P E w e (ds.getD j .other) ((cs.drop (j*P.cellsOf e)).take (P.cellsOf e))):RepD P E w T (.agg ds) cs
 |other {T:TypeId} {d:D} {cs:List Value} (h:isOther P T=true) (hl:cs.length=P.cellsOf T):RepD P E w T d cs
def RepSl (P:Program) (E:Nat→Prop) (w:World) (T:TypeId) (d:D) (v:Value):Prop:=
 ∃a cap,v = .slice a d.toList.length cap∧d.toList.length≤cap∧(d.toList = []∨∃b off,a=some ⟨b,off,none⟩∧E b∧
  ∀i x,d.toList[i]? = some x→∃row:List Value,row.length=P.cellsOf T∧(∀j u,row[j]? = some u→w.cell? ⟨b,off+i*P.cellsOf T+j,none⟩=some u)∧RepD P E w T x row)
def RepDat (P:Program) (E:Nat→Prop) (w:World) (T:TypeId) (d:D) (v:Value):Prop:=∃xs:Array Value,v = .agg xs∧layOk P rowDepth T=true∧RepD P E w T d xs.toList
def RepEd (P:Program) (E:Nat→Prop) (w:World) (T:TypeId) (d:D) (v:Value):Prop:=
 ∃(b off:Nat) (row:List Value),v = .pointer (some ⟨b,off,none⟩)∧E b∧layOk P rowDepth T=true∧(∀j u,row[j]? = some u→w.cell? ⟨b,off+j,none⟩=some u)∧RepD P E w T d row
def Born (arr:Array MapEntry) (clk:Nat):Prop:=(∀e∈arr.toList,e.born<clk)∧(arr.toList.map (·.born)).Nodup
mutual
def Rep (ρ:Nat→Option Nat) (E:Nat→Prop) (w:World):AV→Value→Prop
 | .undef,_=>True
 | .sc x,v=>v=x
 | .ptr i off,v=>∃b,ρ i=some b∧v = .pointer (some ⟨b,off,none⟩)
 | .eptr cs,v=>∃b off,v = .pointer (some ⟨b,off,none⟩)∧E b∧RepAt nowhere E w b off cs
 | .sl i z off len,v=>∃b cap,ρ i=some b∧v = .slice (some ⟨b,off,none⟩) len cap∧len≤cap∧∃c T f,w.heap[b]? = some (.cells c T f)∧off+cap*z≤c.size
 | .esl xs,v=>∃a cap,v = .slice a xs.length cap∧xs.length≤cap∧(xs = []∨∃b off z,a=some ⟨b,off,none⟩∧E b∧RepRows nowhere E w b off z xs)
 | .map i,v=>∃b,ρ i=some b∧v = .map (some b)
 | .emap es,v=>∃b arr clk,v = .map (some b)∧E b∧w.heap[b]? = some (.map arr clk)∧RepM nowhere E w es arr.toList∧Born arr clk
 | .func f a b,v=>∃xs ys,v = .func (.func f) xs ys∧RepL ρ E w a xs.toList∧RepL ρ E w b ys.toList
 | .agg cs,v=>∃xs,v = .agg xs∧RepL ρ E w cs xs.toList
 | .tup cs,v=>∃xs,v = .tuple xs∧RepL ρ E w cs xs.toList
 | .ui k n,v=>v = .int k n
 | .ub b,v=>v = .bool b
 | .us s,v=>v = .string s
 | .rows T d,v=>RepSl PG E w T d v
 | .dat T d,v=>RepDat PG E w T d v
 | .edat T d,v=>RepEd PG E w T d v
 | .rowz T d,v=>RepSl PG E w T d v∧∃a l c,v = .slice (some a) l c
 | .osl i T m,v=>0≤m∧∃a cap,v = .slice a m.toNat cap∧m.toNat≤cap∧((m=0∧cap=0)∨∃b,ρ i=some b∧a=some ⟨b,0,none⟩∧∃c T' f,w.heap[b]? = some (.cells c T' f)∧cap*PG.cellsOf T≤c.size)
 | .oel i T n off,v=>0≤n∧∃b,ρ i=some b∧v = .pointer (some ⟨b,n.toNat*PG.cellsOf T+off,none⟩)
 | .e0,v=>∃a,v = .slice a 0 0
 | .anyI k,v=>∃n,v = .int k n
 | .nx b x y,v=>(b=true∧∃xs u1 u2,v = .tuple xs∧xs.toList = [.bool true,u1,u2]∧Rep ρ E w x u1∧Rep ρ E w y u2)∨(b=false∧v = .tuple #[.bool false])
def RepL (ρ:Nat→Option Nat) (E:Nat→Prop) (w:World):List AV→List Value→Prop
 | [],vs=>vs = []
 |c::cs,vs=>∃v vs',vs=v::vs'∧Rep ρ E w c v∧RepL ρ E w cs vs'
def RepAt (ρ:Nat→Option Nat) (E:Nat→Prop) (w:World) (b off:Nat):List AV→Prop
 | []=>True
 |c::cs=>(∃u,w.cell? ⟨b,off,none⟩=some u∧Rep ρ E w c u)∧RepAt ρ E w b (off+1) cs
def RepRows (ρ:Nat→Option Nat) (E:Nat→Prop) (w:World) (b off z:Nat):List (List AV)→Prop
 | []=>True
 |x::xs=>x.length=z∧RepAt ρ E w b off x∧RepRows ρ E w b (off+z) z xs
def RepM (ρ:Nat→Option Nat) (E:Nat→Prop) (w:World):List (Value×AV)→List MapEntry→Prop
 | [],es=>es = []
 | (k,v)::r,es=>∃e es',es=e::es'∧e.key=k∧Rep ρ E w v e.val∧RepM ρ E w r es'
end
structure Ext (ρ:Nat→Option Nat) (E:Nat→Prop) (w:World) (ρ':Nat→Option Nat) (E':Nat→Prop) (w':World):Prop where
 map:∀i b,ρ i=some b→ρ' i=some b
 ext:∀b,E b→E' b
 same:∀b,E b→w'.heap[b]? = w.heap[b]?
 size:∀i b c T f,ρ i=some b→w.heap[b]? = some (.cells c T f)→∃c',w'.heap[b]? = some (.cells c' T f)∧c'.size=c.size
 bigger:w.heap.size≤w'.heap.size
theorem cell?_same {w w':World} {b off:Nat} (h:w'.heap[b]? = w.heap[b]?):w'.cell? ⟨b,off,none⟩=w.cell? ⟨b,off,none⟩:=by
 simp only[World.cell?,h]
section
variable {ρ:Nat→Option Nat} {E:Nat→Prop} {w:World} {ρ':Nat→Option Nat} {E':Nat→Prop} {w':World}
theorem Ext.refl:Ext ρ E w ρ E w:=⟨fun _ _ h=>h,fun _ h=>h,fun _ _=>rfl,fun _ _ c _ _ _ h=>⟨c,h,rfl⟩,Nat.le_refl _⟩
theorem Ext.trans {ρ'':Nat→Option Nat} {E'':Nat→Prop} {w'':World} (h:Ext ρ E w ρ' E' w') (h':Ext ρ' E' w' ρ'' E'' w''):Ext ρ E w ρ'' E'' w'':=
 ⟨fun i b e=>h'.map i b (h.map i b e),fun b e=>h'.ext b (h.ext b e),fun b e=>(h'.same b (h.ext b e)).trans (h.same b e),
  fun i b c T f e hc=>let⟨c',hc',hs⟩:=h.size i b c T f e hc;let⟨c'',hc'',hs'⟩:=h'.size i b c' T f (h.map i b e) hc';⟨c'',hc'',hs'.trans hs⟩,Nat.le_trans h.bigger h'.bigger⟩
theorem Ext.none (h:Ext ρ E w ρ' E' w'):Ext nowhere E w nowhere E' w':=
 ⟨fun _ _ e=>e,h.ext,h.same,fun _ _ _ _ _ e=>(by cases e),h.bigger⟩
theorem RepD.mono {P:Program} (h:Ext ρ E w ρ' E' w') {T:TypeId} {d:D} {cs:List Value} (r:RepD P E w T d cs):RepD P E' w' T d cs:=by
 induction r with
 |int h=>exact .int h
 |bool h=>exact .bool h
 |str h=>exact .str h
 |slice row hT hc hr _ ih=>
  refine .slice row hT hc ?_ ih
  rcases hr with hr|⟨b,off,ha,hb,hr⟩
  ·exact .inl hr
  ·exact .inr ⟨b,off,ha,h.ext b hb,fun i hi=>⟨(hr i hi).1,fun j u hu=>(cell?_same (h.same b hb)).trans ((hr i hi).2 j u hu)⟩⟩
 |struct hT hl _ ih=>exact .struct hT hl ih
 |array hT hl _ ih=>exact .array hT hl ih
 |other hT hl=>exact .other hT hl
theorem RepSl.mono {P:Program} (h:Ext ρ E w ρ' E' w') {T:TypeId} {d:D} {v:Value} (r:RepSl P E w T d v):RepSl P E' w' T d v:=by
 obtain⟨a,cap,hv,hl,hr⟩:=r
 refine⟨a,cap,hv,hl,?_⟩
 rcases hr with hr|⟨b,off,ha,hb,hr⟩
 ·exact .inl hr
 ·refine .inr ⟨b,off,ha,h.ext b hb,fun i x hx=> ?_⟩
  obtain⟨row,h1,h2,h3⟩:=hr i x hx
  exact⟨row,h1,fun j u hu=>(cell?_same (h.same b hb)).trans (h2 j u hu),h3.mono h⟩
theorem RepDat.mono {P:Program} (h:Ext ρ E w ρ' E' w') {T:TypeId} {d:D} {v:Value} (r:RepDat P E w T d v):RepDat P E' w' T d v:=by
 obtain⟨xs,hv,hl,hr⟩:=r
 exact⟨xs,hv,hl,hr.mono h⟩
theorem RepEd.mono {P:Program} (h:Ext ρ E w ρ' E' w') {T:TypeId} {d:D} {v:Value} (r:RepEd P E w T d v):RepEd P E' w' T d v:=by
 obtain⟨b,off,row,hv,hb,hl,hc,hr⟩:=r
 exact⟨b,off,row,hv,h.ext b hb,hl,fun j u hu=>(cell?_same (h.same b hb)).trans (hc j u hu),hr.mono h⟩
theorem RepD.len {P:Program} {T:TypeId} {n:Nat} (hl:layOk P n T=true) {d:D} {cs:List Value} (r:RepD P E w T d cs):cs.length=P.cellsOf T:=by
 cases n with
 |zero=>simp[layOk]at hl
 |succ n=>
  cases r with
  |int h=>simp only[layOk,h]at hl;simpa using(Nat.eq_of_beq_eq_true hl).symm
  |bool h=>simp only[layOk,h]at hl;simpa using(Nat.eq_of_beq_eq_true hl).symm
  |str h=>simp only[layOk,h]at hl;simpa using(Nat.eq_of_beq_eq_true hl).symm
  |slice row h=>simp only[layOk,h]at hl;simpa using(Nat.eq_of_beq_eq_true hl).symm
  |struct h hl'=>exact hl'
  |array h hl'=>exact hl'
  |other h hl'=>exact hl'
mutual
theorem Rep.mono {ρ:Nat→Option Nat} {E:Nat→Prop} {w:World} {ρ':Nat→Option Nat} {E':Nat→Prop} {w':World} (h:Ext ρ E w ρ' E' w'):∀(x:AV) (v:Value),Rep ρ E w x v→Rep ρ' E' w' x v
 | .undef,_,_=>by simp only[Rep]
 | .sc _,_,r=>by simp only[Rep]at r ⊢;exact r
 | .ptr i off,_,r=>by
   simp only[Rep]at r ⊢
   obtain⟨b,hb,hv⟩:=r
   exact⟨b,h.map _ _ hb,hv⟩
 | .eptr cs,_,r=>by
   simp only[Rep]at r ⊢
   obtain⟨b,off,hv,hb,hr⟩:=r
   exact⟨b,off,hv,h.ext b hb,RepAt.mono h.none b hb cs off hr⟩
 | .sl i z off len,_,r=>by
   simp only[Rep]at r ⊢
   obtain⟨b,cap,hb,hv,hl,c,T,f,hc,hs⟩:=r
   obtain⟨c',hc',hs'⟩:=h.size i b c T f hb hc
   exact⟨b,cap,h.map _ _ hb,hv,hl,c',T,f,hc',by omega⟩
 | .esl xs,_,r=>by
   simp only[Rep]at r ⊢
   obtain⟨a,cap,hv,hl,hr⟩:=r
   refine⟨a,cap,hv,hl,?_⟩
   rcases hr with hr|⟨b,off,z,ha,hb,hr⟩
   ·exact .inl hr
   ·exact .inr ⟨b,off,z,ha,h.ext b hb,RepRows.mono h.none b hb xs off z hr⟩
 | .map i,_,r=>by
   simp only[Rep]at r ⊢
   obtain⟨b,hb,hv⟩:=r
   exact⟨b,h.map _ _ hb,hv⟩
 | .emap es,_,r=>by
   simp only[Rep]at r ⊢
   obtain⟨b,arr,clk,hv,hb,hm,hr⟩:=r
   exact⟨b,arr,clk,hv,h.ext b hb,(h.same b hb).trans hm,RepM.mono h.none es _ hr.1,hr.2⟩
 | .func f a b,_,r=>by
   simp only[Rep]at r ⊢
   obtain⟨xs,ys,hv,ha,hb⟩:=r
   exact⟨xs,ys,hv,RepL.mono h a _ ha,RepL.mono h b _ hb⟩
 | .agg cs,_,r=>by
   simp only[Rep]at r ⊢
   obtain⟨xs,hv,ha⟩:=r
   exact⟨xs,hv,RepL.mono h cs _ ha⟩
 | .tup cs,_,r=>by
   simp only[Rep]at r ⊢
   obtain⟨xs,hv,ha⟩:=r
   exact⟨xs,hv,RepL.mono h cs _ ha⟩
 | .ui _ _,_,r=>by simp only[Rep]at r ⊢;exact r
 | .ub _,_,r=>by simp only[Rep]at r ⊢;exact r
 | .us _,_,r=>by simp only[Rep]at r ⊢;exact r
 | .rows _ _,_,r=>by simp only[Rep]at r ⊢;exact RepSl.mono h r
 | .dat _ _,_,r=>by simp only[Rep]at r ⊢;exact RepDat.mono h r
 | .edat _ _,_,r=>by simp only[Rep]at r ⊢;exact RepEd.mono h r
 | .rowz _ _,_,r=>by simp only[Rep]at r ⊢;exact⟨RepSl.mono h r.1,r.2⟩
 | .osl i T m,_,r=>by
   simp only[Rep]at r ⊢
   obtain⟨h0,a,cap,hv,hl,hr⟩:=r
   refine⟨h0,a,cap,hv,hl,?_⟩
   rcases hr with hr|⟨b,hb,ha,c,T',f,hc,hs⟩
   ·exact .inl hr
   ·obtain⟨c',hc',hs'⟩:=h.size i b c T' f hb hc
    exact .inr ⟨b,h.map _ _ hb,ha,c',T',f,hc',by omega⟩
 | .oel i T n off,_,r=>by
   simp only[Rep]at r ⊢
   obtain⟨h0,b,hb,hv⟩:=r
   exact⟨h0,b,h.map _ _ hb,hv⟩
 | .e0,_,r=>by simp only[Rep]at r ⊢;exact r
 | .anyI _,_,r=>by simp only[Rep]at r ⊢;exact r
 | .nx b x y,_,r=>by
   simp only[Rep]at r ⊢
   rcases r with⟨hb,xs,u1,u2,hv,hl,h1,h2⟩|r
   ·exact .inl ⟨hb,xs,u1,u2,hv,hl,Rep.mono h x _ h1,Rep.mono h y _ h2⟩
   ·exact .inr r
theorem RepL.mono {ρ:Nat→Option Nat} {E:Nat→Prop} {w:World} {ρ':Nat→Option Nat} {E':Nat→Prop} {w':World} (h:Ext ρ E w ρ' E' w'):∀(xs:List AV) (vs:List Value),RepL ρ E w xs vs→RepL ρ' E' w' xs vs
 | [],_,r=>by simp only[RepL]at r ⊢;exact r
 |c::cs,_,r=>by
  simp only[RepL]at r ⊢
  obtain⟨v,vs',hv,h1,h2⟩:=r
  exact⟨v,vs',hv,Rep.mono h c v h1,RepL.mono h cs vs' h2⟩
theorem RepAt.mono {ρ:Nat→Option Nat} {E:Nat→Prop} {w:World} {ρ':Nat→Option Nat} {E':Nat→Prop} {w':World} (h:Ext ρ E w ρ' E' w') (b:Nat) (hb:E b):∀(xs:List AV) (off:Nat),RepAt ρ E w b off xs→RepAt ρ' E' w' b off xs
 | [],_,_=>by simp only[RepAt]
 |c::cs,off,r=>by
  simp only[RepAt]at r ⊢
  obtain⟨⟨u,hu,h1⟩,h2⟩:=r
  exact⟨⟨u,(cell?_same (h.same b hb)).trans hu,Rep.mono h c u h1⟩,RepAt.mono h b hb cs (off+1) h2⟩
theorem RepRows.mono {ρ:Nat→Option Nat} {E:Nat→Prop} {w:World} {ρ':Nat→Option Nat} {E':Nat→Prop} {w':World} (h:Ext ρ E w ρ' E' w') (b:Nat) (hb:E b):∀(xs:List (List AV)) (off z:Nat),RepRows ρ E w b off z xs→RepRows ρ' E' w' b off z xs
 | [],_,_,_=>by simp only[RepRows]
 |x::xs,off,z,r=>by
  simp only[RepRows]at r ⊢
  obtain⟨h1,h2,h3⟩:=r
  exact⟨h1,RepAt.mono h b hb x off h2,RepRows.mono h b hb xs (off+z) z h3⟩
theorem RepM.mono {ρ:Nat→Option Nat} {E:Nat→Prop} {w:World} {ρ':Nat→Option Nat} {E':Nat→Prop} {w':World} (h:Ext ρ E w ρ' E' w'):∀(xs:List (Value×AV)) (es:List MapEntry),RepM ρ E w xs es→RepM ρ' E' w' xs es
 | [],_,r=>by simp only[RepM]at r ⊢;exact r
 | (k,v)::xs,_,r=>by
   simp only[RepM]at r ⊢
   obtain⟨e,es',he,hk,h1,h2⟩:=r
   exact⟨e,es',he,hk,Rep.mono h v e.val h1,RepM.mono h xs es' h2⟩
end
theorem Ext.up:Ext nowhere E w ρ E w:=⟨fun _ _ e=>(by cases e),fun _ h=>h,fun _ _=>rfl,fun _ _ _ _ _ e=>(by cases e),Nat.le_refl _⟩
theorem Rep.up {x:AV} {v:Value} (h:Rep nowhere E w x v):Rep ρ E w x v:=Rep.mono Ext.up x v h
theorem RepL.length:∀{xs:List AV} {vs:List Value},RepL ρ E w xs vs→xs.length=vs.length
 | [],vs,h=>by simp only[RepL]at h;simp[h]
 |c::cs,vs,h=>by
  simp only[RepL]at h
  obtain⟨v,vs',rfl,_,h2⟩:=h
  simp[RepL.length h2]
theorem RepL.cons {x:AV} {xs:List AV} {v:Value} {vs:List Value} (h:Rep ρ E w x v) (h':RepL ρ E w xs vs):RepL ρ E w (x::xs) (v::vs):=by
 simp only[RepL];exact⟨v,vs,rfl,h,h'⟩
theorem RepL.nil:RepL ρ E w [] []:=by simp only[RepL]
theorem RepL.get:∀{xs:List AV} {vs:List Value},RepL ρ E w xs vs→∀{i:Nat} {x:AV},xs[i]? = some x→∃v,vs[i]? = some v∧Rep ρ E w x v
 | [],_,_,i,x,hi=>by simp at hi
 |c::cs,vs,h,i,x,hi=>by
  simp only[RepL]at h
  obtain⟨v,vs',rfl,h1,h2⟩:=h
  cases i with
  |zero=>simp at hi;subst hi;exact⟨v,by simp,h1⟩
  |succ i=>simp at hi;obtain⟨u,hu,hr⟩:=RepL.get h2 hi;exact⟨u,by simpa using hu,hr⟩
theorem RepL.of:∀{xs:List AV} {vs:List Value},xs.length=vs.length→(∀(i:Nat) (x:AV) (v:Value),xs[i]? = some x→vs[i]? = some v→Rep ρ E w x v)→RepL ρ E w xs vs
 | [],vs,h,_=>by cases vs with|nil=>exact RepL.nil|cons _ _=>simp at h
 |c::cs,vs,h,hh=>by
  cases vs with
  |nil=>simp at h
  |cons v vs=>exact RepL.cons (hh 0 c v (by simp) (by simp)) (RepL.of (by simpa using h) fun i x u h1 h2=>hh (i+1) x u (by simpa using h1) (by simpa using h2))
theorem RepL.app:∀{xs ys:List AV} {vs us:List Value},RepL ρ E w xs vs→RepL ρ E w ys us→RepL ρ E w (xs++ys) (vs++us)
 | [],_,_,_,h,h'=>by simp only[RepL]at h;subst h;simpa using h'
 |c::cs,_,_,_,h,h'=>by
  simp only[RepL]at h
  obtain⟨v,vs',rfl,h1,h2⟩:=h
  exact RepL.cons h1 (RepL.app h2 h')
theorem RepL.take:∀{xs:List AV} {vs:List Value} (n:Nat),RepL ρ E w xs vs→RepL ρ E w (xs.take n) (vs.take n)
 |_,_,0,_=>by simpa using RepL.nil
 | [],_,n+1,h=>by simp only[RepL]at h;subst h;simpa using RepL.nil
 |c::cs,_,n+1,h=>by
  simp only[RepL]at h
  obtain⟨v,vs',rfl,h1,h2⟩:=h
  exact RepL.cons h1 (RepL.take n h2)
theorem RepL.drop:∀{xs:List AV} {vs:List Value} (n:Nat),RepL ρ E w xs vs→RepL ρ E w (xs.drop n) (vs.drop n)
 |_,_,0,h=>by simpa using h
 | [],_,n+1,h=>by simp only[RepL]at h;subst h;simpa using RepL.nil
 |c::cs,_,n+1,h=>by
  simp only[RepL]at h
  obtain⟨v,vs',rfl,h1,h2⟩:=h
  simpa using RepL.drop n h2
theorem RepL.sc (vs:List Value):RepL ρ E w (vs.map .sc) vs:=by
 induction vs with
 |nil=>exact RepL.nil
 |cons v vs ih=>exact RepL.cons (by simp only[Rep]) ih
theorem RepAt.get {b:Nat}:∀{xs:List AV} {off:Nat},RepAt ρ E w b off xs→∀{i:Nat} {x:AV},xs[i]? = some x→∃v,w.cell? ⟨b,off+i,none⟩=some v∧Rep ρ E w x v
 | [],_,_,i,x,hi=>by simp at hi
 |c::cs,off,h,i,x,hi=>by
  simp only[RepAt]at h
  obtain⟨⟨u,hu,h1⟩,h2⟩:=h
  cases i with
  |zero=>simp at hi;subst hi;exact⟨u,by simpa using hu,h1⟩
  |succ i=>simp at hi;obtain⟨u,hu,hr⟩:=RepAt.get h2 hi;exact⟨u,by rw[show off+(i+1)=off+1+i from by omega];exact hu,hr⟩
theorem RepAt.drop {b:Nat}:∀{xs:List AV} {off:Nat} (n:Nat),RepAt ρ E w b off xs→RepAt ρ E w b (off+n) (xs.drop n)
 |_,_,0,h=>by simpa using h
 | [],_,n+1,_=>by simp only[List.drop_nil,RepAt]
 |c::cs,off,n+1,h=>by
  simp only[RepAt]at h
  have:=RepAt.drop n h.2
  rw[show off+(n+1)=off+1+n from by omega]
  simpa using this
theorem RepRows.get {b z:Nat}:∀{xs:List (List AV)} {off:Nat},RepRows ρ E w b off z xs→∀{i:Nat} {x:List AV},xs[i]? = some x→x.length=z∧RepAt ρ E w b (off+i*z) x
 | [],_,_,i,x,hi=>by simp at hi
 |c::cs,off,h,i,x,hi=>by
  simp only[RepRows]at h
  obtain⟨h1,h2,h3⟩:=h
  cases i with
  |zero=>simp at hi;subst hi;exact⟨h1,by simpa using h2⟩
  |succ i=>
   simp at hi
   obtain⟨k1,k2⟩:=RepRows.get h3 hi
   exact⟨k1,by rw[show off+(i+1)*z=off+z+i*z from by rw[Nat.succ_mul];omega];exact k2⟩
theorem RepRows.drop {b z:Nat}:∀{xs:List (List AV)} {off:Nat} (n:Nat),RepRows ρ E w b off z xs→n≤xs.length→RepRows ρ E w b (off+n*z) z (xs.drop n)
 |_,_,0,h,_=>by simpa using h
 | [],_,n+1,_,hn=>by simp at hn
 |c::cs,off,n+1,h,hn=>by
  simp only[RepRows]at h
  have:=RepRows.drop n h.2.2 (by simpa using hn)
  rw[show off+(n+1)*z=off+z+n*z from by rw[Nat.succ_mul];omega]
  simpa using this
theorem RepRows.take {b z:Nat}:∀{xs:List (List AV)} {off:Nat} (n:Nat),RepRows ρ E w b off z xs→RepRows ρ E w b off z (xs.take n)
 |_,_,0,_=>by simp only[List.take_zero,RepRows]
 | [],_,n+1,_=>by simp only[List.take_nil,RepRows]
 |c::cs,off,n+1,h=>by
  simp only[RepRows]at h
  simp only[List.take_succ_cons,RepRows]
  exact⟨h.1,h.2.1,RepRows.take n h.2.2⟩
theorem Rep.ofV (v:Value):Rep ρ E w (ofV v) v:=by
 cases v<;>simp only[AM.ofV,Rep]
 case agg cs=>exact⟨cs,rfl,RepL.sc _⟩
 case tuple cs=>exact⟨cs,rfl,RepL.sc _⟩
theorem pureRun_run {α:Type} {P:Program}:∀{s:Sem α} {a:α},pureRun P s=some a→∀w,s.run P w = .ok a w
 | .pure _,_,h,w=>by simp only[pureRun,Option.some.injEq]at h;subst h;simp[Sem.run]
 | .program k,_,h,w=>by simp only[pureRun]at h;simp only[Sem.run];exact pureRun_run h w
 | .load ..,_,h,_=>by simp[pureRun]at h
 | .store ..,_,h,_=>by simp[pureRun]at h
 | .new ..,_,h,_=>by simp[pureRun]at h
 | .shape ..,_,h,_=>by simp[pureRun]at h
 | .freeze ..,_,h,_=>by simp[pureRun]at h
 | .frozen ..,_,h,_=>by simp[pureRun]at h
 | .getObj ..,_,h,_=>by simp[pureRun]at h
 | .setObj ..,_,h,_=>by simp[pureRun]at h
 | .choose ..,_,h,_=>by simp[pureRun]at h
 | .sys ..,_,h,_=>by simp[pureRun]at h
 | .mark ..,_,h,_=>by simp[pureRun]at h
 | .halt ..,_,h,_=>by simp[pureRun]at h
theorem RepAt.ofL {b:Nat}:∀{cs:List AV} {row:List Value} {off:Nat},RepL ρ E w cs row→(∀(j:Nat) u,row[j]? = some u→w.cell? ⟨b,off+j,none⟩=some u)→RepAt ρ E w b off cs
 | [],_,_,_,_=>by simp only[RepAt]
 |c::cs,row,off,h,hc=>by
  simp only[RepL]at h
  obtain⟨v,vs',rfl,h1,h2⟩:=h
  simp only[RepAt]
  exact⟨⟨v,hc 0 v rfl,h1⟩,RepAt.ofL h2 fun j u hu=>by rw[show off+1+j=off+(j+1)from by omega];exact hc (j+1) u (by simpa using hu)⟩
theorem allB_mem:∀{bs:List Bool},allB bs=true→∀b∈bs,b=true
 | [],_,_,h=>by cases h
 |b::bs,h,c,hc=>by
  simp only[allB]at h
  cases b with
  |false=>simp at h
  |true=>
   simp only[cond_true]at h
   rcases List.mem_cons.1 hc with rfl|hc
   ·rfl
   ·exact allB_mem h c hc
theorem qint_eq:qint=D.toInt:=veil_eq _
theorem qbool_eq:qbool=D.toBool:=veil_eq _
theorem qstr_eq:qstr=D.toStr:=veil_eq _
theorem qfld_eq:qfld=D.fld:=veil_eq _
theorem qget_eq:qget=D.get:=veil_eq _
theorem qsub_eq:qsub=D.sub:=veil_eq _
theorem qlen_eq:qlen=D.len:=veil_eq _
theorem qinb_eq:qinb=D.inb:=veil_eq _
theorem qbin_eq:qbin=rbin:=veil_eq _
theorem qcmp_eq:qcmp=rcmp:=veil_eq _
theorem qcmpS_eq:qcmpS=rcmpS:=veil_eq _
theorem qun_eq:qun=run1:=veil_eq _
theorem qnot_eq:qnot=Bool.not:=veil_eq _
theorem qwrap_eq:qwrap=IntKind.wrap:=veil_eq _
theorem qlenS_eq:qlenS=fun s:ByteArray=>(s.size:Int):=veil_eq _
theorem qsubS_eq:qsubS=fun(s:ByteArray) (lo hi:Int)=>s.extract lo.toNat hi.toNat:=veil_eq _
theorem qmm_eq:qmm=rmm:=veil_eq _
theorem qand_eq:qand=fun a b:Bool=>a&&b:=veil_eq _
theorem qidxS_eq:qidxS=ridxS:=veil_eq _
theorem qinbS_eq:qinbS=rinbS:=veil_eq _
theorem qeqB_eq:qeqB=fun a b:Bool=>a==b:=veil_eq _
theorem qapp_eq:qapp=D.app:=veil_eq _
theorem qset_eq:qset=D.upd:=veil_eq _
theorem qrep_eq:qrep=fun(n:Int) (d:D)=>D.list (List.replicate n.toNat d):=veil_eq _
theorem qbytes_eq:qbytes=D.bytes:=veil_eq _
theorem qtext_eq:qtext=D.text:=veil_eq _
theorem qcat_eq:qcat=fun a b:ByteArray=>a++b:=veil_eq _
theorem qcatOk_eq:qcatOk=fun a b:ByteArray=>decide (((a.size+b.size:Nat):Int)≤9223372036854775807):=veil_eq _
theorem qmem_eq:qmem=rmem:=veil_eq _
theorem fieldCells_rep {n:Nat} (ih:∀T d cs,layOk PG n T=true→RepD PG E w T d cs→RepL ρ E w (cellsT n T d) cs) {ds:List D} {cs:List Value} {all:List Field} {z:Nat}
 (hd:∀j f,all[j]? = some f→RepD PG E w f.type (ds.getD j .other) ((cs.drop f.offset).take (PG.cellsOf f.type))):
 ∀(fs:List Field) (j off:Nat),all.drop j=fs→fieldsLay PG (layOk PG n) off fs=some z→off≤z∧RepL ρ E w (fieldCells (cellsT n) (.agg ds) j fs) ((cs.drop off).take (z-off))
 | [],j,off,_,h=>by
   simp only[fieldsLay,Option.some.injEq]at h
   subst h
   simp only[fieldCells,Nat.le_refl,Nat.sub_self,List.take_zero,true_and]
   exact RepL.nil
 |f::fs,j,off,he,h=>by
  simp only[fieldsLay]at h
  cases hb:(Nat.beq f.offset off&&layOk PG n f.type)with
  |false=>simp[hb]at h
  |true=>
   simp only[hb,cond_true]at h
   simp only[Bool.and_eq_true]at hb
   have ho:f.offset=off:=Nat.eq_of_beq_eq_true hb.1
   have hj:all[j]? = some f:=by
    have:=congrArg (·[0]?) he
    simpa[List.getElem?_drop]using this
   have hn:all.drop (j+1)=fs:=by
    have:=congrArg (List.drop 1) he
    simpa[List.drop_drop,Nat.add_comm]using this
   obtain⟨h1,h2⟩:=fieldCells_rep ih hd fs (j+1) (off+PG.cellsOf f.type) hn h
   have hr:=hd j f hj
   have hlen:=hr.len hb.2
   rw[ho]at hr hlen
   refine⟨by omega,?_⟩
   simp only[fieldCells,qfld_eq]
   have h3:(cs.drop off).take (z-off)=(cs.drop off).take (PG.cellsOf f.type)++(cs.drop (off+PG.cellsOf f.type)).take (z-(off+PG.cellsOf f.type)):=by
    rw[show z-off=PG.cellsOf f.type+(z-(off+PG.cellsOf f.type))from by omega,List.take_add,List.drop_drop]
   rw[h3]
   exact RepL.app (ih _ _ _ hb.2 hr) h2
theorem arrCells_rep {n:Nat} (ih:∀T d cs,layOk PG n T=true→RepD PG E w T d cs→RepL ρ E w (cellsT n T d) cs) {ds:List D} {cs:List Value} {e:TypeId} (hl:layOk PG n e=true):
 ∀(m j:Nat),(∀i,j≤i→i<j+m→RepD PG E w e (ds.getD i .other) ((cs.drop (i*PG.cellsOf e)).take (PG.cellsOf e)))→RepL ρ E w (arrCells (cellsT n e) (.agg ds) j m) ((cs.drop (j*PG.cellsOf e)).take (m*PG.cellsOf e))
 |0,j,_=>by simp only[arrCells,Nat.zero_mul,List.take_zero];exact RepL.nil
 |m+1,j,hd=>by
  have h1:=arrCells_rep ih hl m (j+1) fun i h1 h2=>hd i (by omega) (by omega)
  simp only[arrCells]
  rw[show(m+1)*PG.cellsOf e=PG.cellsOf e+m*PG.cellsOf e from by rw[Nat.succ_mul];omega,List.take_add,List.drop_drop,show j*PG.cellsOf e+PG.cellsOf e=(j+1)*PG.cellsOf e from by rw[Nat.succ_mul]]
  have h0:=hd j (Nat.le_refl _) (by omega)
  rw[qfld_eq]
  exact RepL.app (ih _ _ _ hl h0) h1
theorem cellsT_rep:∀(n:Nat) (T:TypeId) (d:D) (cs:List Value),layOk PG n T=true→RepD PG E w T d cs→RepL ρ E w (cellsT n T d) cs
 |0,_,_,_,h,_=>by simp[layOk]at h
 |n+1,T,d,cs,h,r=>by
  cases r with
  |int hT=>simp only[cellsT,hT,qint_eq,D.toInt];exact RepL.cons (by simp only[Rep]) RepL.nil
  |bool hT=>simp only[cellsT,hT,qbool_eq,D.toBool];exact RepL.cons (by simp only[Rep]) RepL.nil
  |str hT=>simp only[cellsT,hT,qstr_eq,D.toStr];exact RepL.cons (by simp only[Rep]) RepL.nil
  |slice row hT hc hr hd=>
   simp only[cellsT,hT]
   refine RepL.cons ?_ RepL.nil
   simp only[Rep]
   refine⟨_,_,rfl,hc,?_⟩
   rcases hr with hr|⟨b,off,ha,hb,hr⟩
   ·exact .inl hr
   ·refine .inr ⟨b,off,ha,hb,fun i x hx=> ?_⟩
    have hi:=(List.getElem?_eq_some_iff.1 hx).1
    exact⟨row i,(hr i hi).1,(hr i hi).2,hd i x hx⟩
  |struct hT hl hd=>
   simp only[layOk,hT]at h
   split at h
   ·rename_i z hz
    have hz':=Nat.eq_of_beq_eq_true h
    simp only[cellsT,hT]
    obtain⟨_,h2⟩:=fieldCells_rep (cellsT_rep n) hd _ 0 0 (by simp) hz
    have:(cs.drop 0).take (z-0)=cs:=by simp[hz', ← hl]
    rw[this]at h2
    exact h2
   ·cases h
  | @array _ e m ds _ hT hl hd=>
    simp only[layOk,hT,Bool.and_eq_true]at h
    have hz':=Nat.eq_of_beq_eq_true h.2
    simp only[cellsT,hT]
    have h2:=arrCells_rep (ρ:=ρ) (cellsT_rep n) h.1 m 0 fun i _ hi=>hd i (by omega)
    rw[Nat.zero_mul,List.drop_zero,hz', ← hl,List.take_length]at h2
    exact h2
  |other hT hl=>
   have h1:cs.length=1:=by
    rw[hl]
    unfold layOk at h
    unfold isOther at hT
    split at h<;>simp_all
   have h2:cellsT (n+1) T d = [.undef]:=by
    unfold cellsT
    unfold isOther at hT
    split<;>simp_all
   rw[h2]
   match cs,h1 with
   | [v],_=>exact RepL.cons (by simp only[Rep]) RepL.nil
theorem dat_agg {T:TypeId} {d:D} {v:Value} (h:Rep ρ E w (.dat T d) v):Rep ρ E w (.agg (cellsT rowDepth T d)) v:=by
 simp only[Rep]at h ⊢
 obtain⟨xs,hv,hl,hr⟩:=h
 exact⟨xs,hv,cellsT_rep _ _ _ _ hl hr⟩
theorem edat_eptr {T:TypeId} {d:D} {v:Value} (h:Rep ρ E w (.edat T d) v):Rep ρ E w (.eptr (cellsT rowDepth T d)) v:=by
 simp only[Rep]at h ⊢
 obtain⟨b,off,row,hv,hb,hl,hc,hr⟩:=h
 exact⟨b,off,hv,hb,RepAt.ofL (cellsT_rep _ _ _ _ hl hr) hc⟩
end
end Go.AM
