/-
  Single operations: arithmetic, parts of values, slices of slices, lengths.
-/
import Derived.Test.YtiojjmlccehpoaaGreatAm6
import Derived.Laws.StructEq
import Derived.Laws.BytesString
import Derived.Laws.Cells
set_option linter.unusedSimpArgs false
set_option linter.unusedVariables false
namespace Go.AM
section
variable {P:Program} {lo:Nat->Prop} {w0:World} {ρ:Nat->Option Nat} {E:Nat->Prop} {H:Hp} {w:World}
theorem gu {s:Sem Value} {v:AV} (h:(bR P s).map ofV=some v):OkP P ρ E w s v:=by
 cases hp:bR P s with
 |none=>simp[hp]at h
 |some u=>simp[hp]at h;subst h;exact⟨u,lS hp w,Rep.ofV u⟩
theorem Kn {s:Sem Value} {v:AV} (h:(bR P s).map .sc=some v):OkP P ρ E w s v:=by
 cases hp:bR P s with
 |none=>simp[hp]at h
 |some u=>simp[hp]at h;subst h;exact⟨u,lS hp w,by simp only[Rep]⟩
theorem Tf {op:UnOp} {x v:AV} {u:Value} (h:unA P op x=some v) (r:Rep ρ E w x u):OkP P ρ E w (Op.unary op u) v:=by
 unfold unA at h;split at h
 ·simp only[Rep]at r;subst r;exact gu h
 ·simp only[Rep]at r;subst r;split at h
  ·cases h;refine⟨_,?_,by simp only[Rep];rfl⟩
   rw[S8];simp[Op.unary,Op.intArith,run1]
  ·cases h;refine⟨_,?_,by simp only[Rep];rfl⟩
   rw[S8];simp[Op.unary,Op.intBits,run1]
  ·cases h
 ·simp only[Rep]at r;subst r;split at h
  ·cases h;refine⟨_,?_,by simp only[Rep];rfl⟩
   rw[uc];simp[Op.unary]
  ·cases h
 ·cases h
theorem repD_u8 {e:TypeId} {x:D} {row:List Value} (he:PG.underlying e=some (.int .u8)) (h:RepD PG E w e x row):∃n,x = .int n∧row = [.int .u8 n]:=by
 cases h with
 |int hT=>rw[he]at hT;cases hT;exact⟨_,rfl,rfl⟩
 |bool hT=>rw[he]at hT;cases hT
 |str hT=>rw[he]at hT;cases hT
 |slice row hT=>rw[he]at hT;cases hT
 |struct hT=>rw[he]at hT;cases hT
 |array hT=>rw[he]at hT;cases hT
 |other h hl=>unfold dg at h;rw[he]at h;cases h
theorem Tg {src dst e:TypeId} {d:D} {u:Value} (hs:P.underlying src=some (.slice e)) (he:P.underlying e=some (.int .u8)) (hd:P.underlying dst=some .string) (hpe:PG.underlying e=some (.int .u8)) (hz:PG.cellsOf e=1)
 (r:RepSl PG E w e d u):(convert src dst u).run P w = .ok (.string (D.text d)) w:=by
 obtain⟨a,cap,rfl,hc,hx⟩:=r;rw[run_convert_bytes_string w src dst e a _ cap hs he hd];cases a with
 |none=>
  have hl:d.toList = []:=by
   rcases hx with h|⟨_,_,h,_⟩
   ·exact h
   ·cases h
  simp[Conv.bytesToString,D.text,hl]
 |some a=>
  have hcell:∀(i:Nat) (x:D),d.toList[i]? = some x->w.cell? (a.add i)=some (.int .u8 x.toInt):=by
   intro i x hi;rcases hx with h|⟨b,off,ha,hb,hx⟩
   ·rw[h]at hi;simp at hi
   ·cases ha;obtain⟨row,hr1,hr2,hr3⟩:=hx i x hi;obtain⟨n,rfl,rfl⟩:=repD_u8 hpe hr3;have:=hr2 0 _ rfl;rw[hz,Nat.mul_one,lq]at this;unfold Addr.add;by_cases h0:i=0
    ·rw[if_pos h0];subst h0;exact this
    ·rw[if_neg h0];exact this
  have hl:=run_loadCells_list (P:=P) (w:=w) a ((d.toList.map D.toInt).map (Value.int .u8)) (fun j v hj=>by
   rw[ia,ia]at hj;cases hd':d.toList[j]? with
   |none=>rw[hd']at hj;cases hj
   |some x=>
    rw[hd']at hj;simp only[cH,aN]at hj
    rw[hcell j x hd',hj])
  simp only[gP]at hl;rw[run_bytesToString w a d.toList.length cap _ hl,List.foldl_map]
  rfl
theorem vZ:∀{xs:List (List AV)} {ns:List Int},jo xs=some ns->ns.length=xs.length
 | [],ns,h=>by simp only[jo,aN]at h;subst h;rfl
 |x::xs,ns,h=>by
  unfold jo at h;split at h
  ·rename_i e;cases e
  ·rename_i n r e;cases e;obtain⟨ms,hm,rfl⟩:=dj.1 h;simp[vZ hm]
  ·cases h
theorem oS {b z:Nat}:∀{xs:List (List AV)} {ns:List Int} {off:Nat},jo xs=some ns->RepRows bA E w b off z xs->∀j n,ns[j]? = some n->w.cell? ⟨b,off+j,none⟩=some (.int .u8 n)
 | [],ns,off,h,_,j,n,hj=>by simp only[jo,aN]at h;subst h;simp at hj
 |x::xs,ns,off,h,r,j,n,hj=>by
  unfold jo at h;split at h
  ·rename_i e;cases e
  ·rename_i m rr e;cases e;obtain⟨ms,hm,rfl⟩:=dj.1 h;simp only[RepRows]at r;obtain⟨hz,hx,hr⟩:=r;cases j with
   |zero=>
    simp only[vn,aN]at hj;subst hj;simp only[RepAt]at hx;obtain⟨⟨v,hv,h1⟩,_⟩:=hx;simp only[Rep]at h1;subst h1;exact hv
   |succ j=>
    simp only[sd]at hj;have:=oS hm hr j n hj;simp only[cn,cZ]at hz;rw[show off+(j+1)=off+z+j from by omega];exact this
  ·cases h
theorem Qm {src dst e:TypeId} {xs:List (List AV)} {ns:List Int} {u:Value} (hs:P.underlying src=some (.slice e)) (he:P.underlying e=some (.int .u8)) (hd:P.underlying dst=some .string) (hn:jo xs=some ns) (r:Rep ρ E w (.esl xs) u):
 (convert src dst u).run P w = .ok (.string (ns.foldl (fun r n=>r.push (UInt8.ofNat n.toNat)) ByteArray.empty)) w:=by
 simp only[Rep]at r;obtain⟨a,cap,rfl,hc,hx⟩:=r;rw[run_convert_bytes_string w src dst e a _ cap hs he hd];have hlen:=vZ hn;cases a with
 |none=>
  have hl:xs = []:=by
   rcases hx with h|⟨_,_,_,h,_⟩
   ·exact h
   ·cases h
  subst hl;simp only[jo,aN]at hn;subst hn;simp[Conv.bytesToString]
 |some a=>
  have hcell:∀(i:Nat) (n:Int),ns[i]? = some n->w.cell? (a.add i)=some (.int .u8 n):=by
   intro i n hi;rcases hx with h|⟨b,off,z,ha,hb,hx⟩
   ·rw[h]at hlen;rw[List.eq_nil_of_length_eq_zero hlen]at hi;simp at hi
   ·cases ha;have:=oS hn hx i n hi;unfold Addr.add;by_cases h0:i=0
    ·rw[if_pos h0];subst h0;exact this
    ·rw[if_neg h0];exact this
  have hl:=run_loadCells_list (P:=P) (w:=w) a (ns.map (Value.int .u8)) (fun j v hj=>by
   rw[ia]at hj;cases hd':ns[j]? with
   |none=>rw[hd']at hj;cases hj
   |some x=>
    rw[hd']at hj;simp only[cH,aN]at hj
    rw[hcell j x hd',hj])
  simp only[gP]at hl;rw[hlen]at hl;rw[run_bytesToString w a xs.length cap _ hl]
theorem Ko {s d:TypeId} {x v:AV} {u:Value} (h:Bk P s d x=some v) (r:Rep ρ E w x u):OkP P ρ E w (convert s d u) v:=by
 unfold Bk at h;split at h
 ·simp only[Rep]at r;subst r;exact gu h
 ·simp only[Rep]at r;subst r;split at h
  ·rename_i e1 e2;cases h;refine⟨_,?_,by simp only[Rep];rfl⟩
   rw[F6];simp[convert,bp e1,bp e2,Conv.intToInt]
  ·cases h
 ·simp only[Rep]at r;subst r;split at h
  ·rename_i e1 e2;cases h;refine⟨_,?_,by simp only[Rep];rfl⟩
   simp[convert,bp e1,bp e2]
  ·cases h
 ·simp only[Rep]at r;split at h
  ·rename_i e e1 e2;split at h
   ·rename_i he hpe;cases hz:(Nat.beq (PG.cellsOf e) 1&&Nat.beq _ e)with
    |false=>rw[hz]at h;cases h
    |true=>
     rw[hz]at h;cases h;simp only[bn]at hz;have hz2:=aR hz.2;subst hz2;exact⟨_,Tg e1 he e2 hpe (aR hz.1) r,by simp only[Rep,F9]⟩
   ·cases h
  ·cases h
 ·split at h
  ·rename_i e e1 e2;split at h
   ·rename_i he;obtain⟨ns,hn,rfl⟩:=dj.1 h;exact⟨_,Qm e1 he e2 hn r,by simp only[Rep]⟩
   ·cases h
  ·cases h
 ·cases h
theorem gK (op:BinOp) (T:TypeId) (x y:Operand) (k k':IntKind) (a b:Int) (w:World):(eqGuard op T x y (.int k a) (.int k' b)).run P w = .ok () w:=by
 cases op<;>simp[eqGuard]
theorem cR (op:BinOp) (T:TypeId) (x y:Operand) (a b:Value) (ha:∀cs,a≠ .agg cs) (hi:a≠ .nilIface) (w:World):(eqGuard op T x y a b).run P w = .ok () w:=by
 cases op<;>simp only[eqGuard]<;>(try simp)<;>(cases a<;>first|(exact(ha _ rfl).elim)|(exact(hi rfl).elim)|simp)
theorem dS {s:Sem Value} {u:Value} (h:s.run P w = .ok u w):OkP P ρ E w s (.sc u):=⟨u,h,by simp only[Rep]⟩
theorem v6 (a b:Int):leI a b=decide (a≤b):=by
 cases a with
 |ofNat a=>
  cases b with
  |ofNat b=>
   rw[fy];simp only[leI,Nat.ble_eq,cl,Int.ofNat_eq_natCast];omega
  |negSucc b=>
   rw[fy];simp only[leI,cl,Int.ofNat_eq_natCast,hR,false_iff];omega
 |negSucc a=>
  cases b with
  |ofNat b=>
   rw[fy];simp only[leI,cl,Int.ofNat_eq_natCast,true_iff];omega
  |negSucc b=>
   rw[fy];simp only[leI,Nat.ble_eq,cl];omega
theorem not_leI (a b:Int):(!leI a b)=decide (b<a):=by
 rw[v6,fy];simp only[lj,decide_eq_false_iff_not,cl];omega
theorem Qn {op:BinOp} {k:IntKind} {a b:Int} {v:AV} (T:TypeId) (h:gF op k a b=some v):OkP P ρ E w (binOp op T (.int k a) (.int k b)) v:=by
 cases op<;>simp only[gF,not_leI]at h<;>(try simp only[v6]at h)
 case quo=>
  split at h
  ·cases h
  ·rename_i hb;cases h;exact dS (by simp[binOp,Op.intDiv,hb])
 case rem=>
  split at h
  ·cases h
  ·rename_i hb;cases h;exact dS (by simp[binOp,Op.intDiv,hb])
 all_goals first|(cases h;exact dS (by simp[binOp,Op.intArith,Op.intCmp,Op.intBits]))|cases h
theorem Gd {op:BinOp} {k k':IntKind} {a b:Int} {v:AV} (T:TypeId) (hs:cF op=true) (h:vC op k a b=some v):OkP P ρ E w (binOp op T (.int k a) (.int k' b)) v:=by
 unfold vC at h;split at h
 ·cases h
 ·rename_i hb;cases op
  case shl=>simp only[aN]at h;subst h;exact dS (by simp[binOp,Op.shift,hb])
  case shr=>simp only[aN]at h;subst h;exact dS (by simp[binOp,Op.shift,hb])
  all_goals simp[cF]at hs
theorem Bp {op:BinOp} {a b:ByteArray} {v:AV} (T:TypeId) (h:vD op a b=some v):OkP P ρ E w (binOp op T (.string a) (.string b)) v:=by
 cases op<;>simp only[vD]at h
 case add=>
  split at h
  ·cases h
  ·rename_i hb;cases h
   exact dS (by
    have hb':¬(IntKind.i64.max<((a.size+b.size:Nat):Int)):=by simp only[IntKind.max,IntKind.bits,IntKind.signed];simpa using hb
    simp only[binOp,Op.stringOp];rw[if_neg (by simpa using hb')]
    simp)
 all_goals first|(cases h;exact dS (by simp[binOp,Op.stringOp]))|cases h
theorem run_equal_bool {T:TypeId} (hu:P.underlying T=some .bool) (a b:Bool) (w:World):(Op.equal T (.bool a) (.bool b)).run P w = .ok (a==b) w:=by
 have key:∀d,(Op.equalIn (d+1) T (.bool a) (.bool b)).run P w = .ok (a==b) w:=fun d=>by simp[Op.equalIn,bp hu]
 exact key 9999
theorem AF {T e:TypeId} (hu:P.underlying T=some (.pointer e)) (a:Option Addr) (w:World):(Op.equal T (.pointer a) (.pointer none)).run P w = .ok a.isNone w:=by
 have key:∀d,(Op.equalIn (d+1) T (.pointer a) (.pointer none)).run P w = .ok a.isNone w:=fun d=>by cases a<;>simp[Op.equalIn,bp hu]
 exact key 9999
theorem tQ {T e:TypeId} (hu:P.underlying T=some (.slice e)) (a:Option Addr) (l c l' c':Nat) (w:World):(Op.equal T (.slice a l c) (.slice none l' c')).run P w = .ok a.isNone w:=by
 have key:∀d,(Op.equalIn (d+1) T (.slice a l c) (.slice none l' c')).run P w = .ok a.isNone w:=fun d=>by cases a<;>simp[Op.equalIn,bp hu]
 exact key 9999
theorem AG {T k e:TypeId} (hu:P.underlying T=some (.map k e)) (a:Option Nat) (w:World):(Op.equal T (.map a) (.map none)).run P w = .ok a.isNone w:=by
 have key:∀d,(Op.equalIn (d+1) T (.map a) (.map none)).run P w = .ok a.isNone w:=fun d=>by cases a<;>simp[Op.equalIn,bp hu]
 exact key 9999
theorem v7 {T:TypeId} {ps rs:Array TypeId} {vr:Bool} (hu:P.underlying T=some (.func ps rs vr)) (f:Fn) (a b:Array Value) (w:World):(Op.equal T (.func f a b) .nilFunc).run P w = .ok false w:=by
 have key:∀d,(Op.equalIn (d+1) T (.func f a b) .nilFunc).run P w = .ok false w:=fun d=>by simp[Op.equalIn,bp hu]
 exact key 9999
theorem oT {T:TypeId} {ps rs:Array TypeId} {vr:Bool} (hu:P.underlying T=some (.func ps rs vr)) (w:World):(Op.equal T .nilFunc .nilFunc).run P w = .ok true w:=by
 have key:∀d,(Op.equalIn (d+1) T .nilFunc .nilFunc).run P w = .ok true w:=fun d=>by simp[Op.equalIn,bp hu]
 exact key 9999
theorem Kp {op:BinOp} {a b:Bool} {v:AV} {T:TypeId} (hu:P.underlying T=some .bool) (h:C9 op a b=some v):OkP P ρ E w (binOp op T (.bool a) (.bool b)) v:=by
 cases op<;>simp only[C9]at h
 case eql=>cases h;exact dS (by simp[binOp,run_equal_bool hu])
 case neq=>
  cases h;exact dS (by simp[binOp,run_equal_bool hu,bne])
 all_goals cases h
theorem Bq {T:TypeId} {x:AV} {u b:Value} {t:Bool} (h:Bf P T x b=some t) (r:Rep ρ E w x u):
 (∀cs,u≠ .agg cs)∧u≠ .nilIface∧(binOp .eql T u b).run P w = .ok (.bool t) w∧(binOp .neq T u b).run P w = .ok (.bool (!t)) w:=by
 unfold Bf at h;split at h
 case h_5=>cases h
 case h_1 e hu=>
  have k:=fun a=>AF hu a w
  split at h
  ·cases h;simp only[Rep]at r;obtain⟨_,_,rfl⟩:=r;refine⟨by simp,by simp,?_,?_⟩<;>simp[binOp,k]
  ·cases h;simp only[Rep]at r;obtain⟨_,_,rfl,_⟩:=r;refine⟨by simp,by simp,?_,?_⟩<;>simp[binOp,k]
  ·cases h;simp only[Rep]at r;obtain⟨_,_,_,rfl,_⟩:=r;refine⟨by simp,by simp,?_,?_⟩<;>simp[binOp,k]
  ·cases h;simp only[Rep]at r;subst r;refine⟨by simp,by simp,?_,?_⟩<;>simp[binOp,k]
  ·cases h
 case h_2 e hu=>
  have k:=fun a l c l' c'=>tQ hu a l c l' c' w
  split at h
  ·cases h;simp only[Rep]at r;obtain⟨_,_,_,rfl,_⟩:=r;refine⟨by simp,by simp,?_,?_⟩<;>simp[binOp,k]
  ·cases h;simp only[Rep]at r;obtain⟨_,_,_,_,rfl⟩:=r;refine⟨by simp,by simp,?_,?_⟩<;>simp[binOp,k]
  ·cases h;simp only[Rep]at r;obtain⟨_,_,rfl,_,hr⟩:=r;rcases hr with hr|⟨_,_,_,rfl,_⟩
   ·cases hr
   ·refine⟨by simp,by simp,?_,?_⟩<;>simp[binOp,k]
  ·cases h;simp only[Rep]at r;subst r;refine⟨by simp,by simp,?_,?_⟩<;>simp[binOp,k]
  ·cases h
 case h_3 k e hu=>
  have k:=fun a=>AG hu a w
  split at h
  ·cases h;simp only[Rep]at r;obtain⟨_,_,rfl⟩:=r;refine⟨by simp,by simp,?_,?_⟩<;>simp[binOp,k]
  ·cases h;simp only[Rep]at r;obtain⟨_,_,_,rfl,_⟩:=r;refine⟨by simp,by simp,?_,?_⟩<;>simp[binOp,k]
  ·cases h;simp only[Rep]at r;subst r;refine⟨by simp,by simp,?_,?_⟩<;>simp[binOp,k]
  ·cases h
 case h_4 k e hu=>
  have k1:=fun f a b=>v7 hu f a b w
  have k2:=oT hu w;split at h
  ·cases h;simp only[Rep]at r;obtain⟨_,_,rfl,_⟩:=r;refine⟨by simp,by simp,?_,?_⟩<;>simp[binOp,k1]
  ·cases h;simp only[Rep]at r;subst r;refine⟨by simp,by simp,?_,?_⟩<;>simp[binOp,k2]
  ·cases h
theorem Th {op:BinOp} {k k':IntKind} {a b:Int} {v:AV} (T:TypeId) (h:Bh op k a k' b=some v) (hq:op = .quo∨op = .rem->b≠0) (hs:cF op=true->0≤b):OkP P ρ E w (binOp op T (.int k a) (.int k' b)) v:=by
 unfold Bh at h;cases hsh:cF op with
 |true=>
  have hb:¬b<0:=by have:=hs hsh;omega
  simp only[hsh,aj,aN]at h;subst h;rw[eI];cases op
  case shl=>exact⟨_,by simp[binOp,Op.shift,hb,gU];rfl,by simp only[Rep,gU]⟩
  case shr=>exact⟨_,by simp[binOp,Op.shift,hb,gU];rfl,by simp only[Rep,gU]⟩
  all_goals simp[cF]at hsh
 |false=>
  simp only[hsh,aI]at h;split at h
  ·rename_i hk;subst hk;cases op<;>simp only[Bg,NL,aj,aI,aN]at h<;>first|(cases h;done)|skip
   case quo=>
    subst h;have hb:=hq (.inl rfl);exact⟨.int k (gU .quo k a b),by simp[binOp,Op.intDiv,hb,gU],by simp only[Rep,eI]⟩
   case rem=>
    subst h;have hb:=hq (.inr rfl);exact⟨.int k (gU .rem k a b),by simp[binOp,Op.intDiv,hb,gU],by simp only[Rep,eI]⟩
   case eql=>subst h;exact⟨.bool (ef .eql a b),by simp[binOp,Op.intCmp,ef],by simp only[Rep,bY]⟩
   case neq=>subst h;exact⟨.bool (ef .neq a b),by simp[binOp,Op.intCmp,ef],by simp only[Rep,bY]⟩
   case lss=>subst h;exact⟨.bool (ef .lss a b),by simp[binOp,Op.intCmp,ef],by simp only[Rep,bY]⟩
   case leq=>subst h;exact⟨.bool (ef .leq a b),by simp[binOp,Op.intCmp,ef],by simp only[Rep,bY]⟩
   case gtr=>subst h;exact⟨.bool (ef .gtr a b),by simp[binOp,Op.intCmp,ef],by simp only[Rep,bY]⟩
   case geq=>subst h;exact⟨.bool (ef .geq a b),by simp[binOp,Op.intCmp,ef],by simp only[Rep,bY]⟩
   case add=>subst h;exact⟨.int k (gU .add k a b),by simp[binOp,Op.intArith,gU],by simp only[Rep,eI]⟩
   case sub=>subst h;exact⟨.int k (gU .sub k a b),by simp[binOp,Op.intArith,gU],by simp only[Rep,eI]⟩
   case mul=>subst h;exact⟨.int k (gU .mul k a b),by simp[binOp,Op.intArith,gU],by simp only[Rep,eI]⟩
   case and=>subst h;exact⟨.int k (gU .and k a b),by simp[binOp,Op.intBits,gU],by simp only[Rep,eI]⟩
   case or=>subst h;exact⟨.int k (gU .or k a b),by simp[binOp,Op.intBits,gU],by simp only[Rep,eI]⟩
   case xor=>subst h;exact⟨.int k (gU .xor k a b),by simp[binOp,Op.intBits,gU],by simp only[Rep,eI]⟩
   case andNot=>subst h;exact⟨.int k (gU .andNot k a b),by simp[binOp,Op.intBits,gU],by simp only[Rep,eI]⟩
  ·cases h
theorem Ti {op:BinOp} {a b:ByteArray} {v:AV} (T:TypeId) (h:Bi op a b=some v) (ho:op = .add->jm a b=true):OkP P ρ E w (binOp op T (.string a) (.string b)) v:=by
 unfold Bi at h;split at h
 ·cases h;have h1:=ho rfl;rw[Bm]at h1;have hle:=of_decide_eq_true h1;have hs:vD .add a b=some (.sc (.string (a++b))):=by
   unfold vD;exact if_neg (by omega)
  obtain⟨u,hr,hv⟩:=Bp (P:=P) (ρ:=ρ) (E:=E) (w:=w) T hs;simp only[Rep]at hv;subst hv;exact⟨_,hr,by simp only[Rep,Di]⟩
 ·have hcm:Bg op=true∧v = .ub (cI op a b):=by
   revert h;cases op<;>simp[Bg]<;>exact fun h=>h.symm
  obtain⟨hc,rfl⟩:=hcm;refine⟨.bool (vq op a b),?_,by simp only[Rep,oJ]⟩
  cases op<;>simp[Bg]at hc<;>simp[binOp,Op.stringOp,vq]
theorem Tj {op:BinOp} {a b:Bool} {v:AV} {T:TypeId} (h:Bj P op T a b=some v):OkP P ρ E w (binOp op T (.bool a) (.bool b)) v:=by
 unfold Bj at h;split at h
 ·rename_i hu;split at h
  ·cases h;exact⟨.bool (a==b),by simp[binOp,run_equal_bool hu],by simp only[Rep,oL]⟩
  ·cases h;exact⟨.bool (!(a==b)),by simp[binOp,run_equal_bool hu,bne],by simp only[Rep,oL,uc]⟩
  ·cases h
 ·cases h
theorem Tk {T:TypeId} {x y r:AV} {u v:Value} (d:Nat) (h:eq1 P T x y=some r) (rx:Rep ρ E w x u) (ry:Rep ρ E w y v):∃t,(Op.equalIn (d+1) T u v).run P w = .ok t w∧Rep ρ E w r (.bool t):=by
 unfold eq1 at h;split at h
 ·rename_i k0 hu;split at h<;>first|cases h|skip
  all_goals (split at h<;>first|cases h|skip)
  all_goals (rename_i hk;subst hk;simp only[Rep]at rx ry;subst rx;subst ry;refine⟨_,run_equalIn_int w d T _ k0 _ _ hu,?_⟩;simp only[Rep,bY,ef])
 ·rename_i hu;split at h<;>first|cases h|skip
  all_goals (simp only[Rep]at rx ry;subst rx;subst ry;refine⟨_,run_equalIn_bool' w d T _ _ hu,?_⟩;simp only[Rep,oL])
 ·rename_i hu;split at h<;>first|cases h|skip
  all_goals (simp only[Rep]at rx ry;subst rx;subst ry;refine⟨_,run_equalIn_string w d T _ _ hu,?_⟩;simp only[Rep,oJ,vq])
 ·cases h
theorem NU {x y:AV} {a b:Bool} (rx:Rep ρ E w x (.bool a)) (ry:Rep ρ E w y (.bool b)):Rep ρ E w (andA x y) (.bool (a&&b)):=by
 unfold andA;split
 ·simp only[Rep,lJ]at rx ⊢;subst rx;rfl
 ·simp only[Rep,lJ]at rx;subst rx;simpa using ry
 ·simp only[Rep,lJ]at rx;subst rx;split
  ·simp only[Rep,lJ]at ry ⊢;subst ry;simp
  ·simp only[Rep,lJ]at ry ⊢;subst ry;simp
  ·simp only[Rep,lJ]at ry ⊢;subst ry;rw[iV]
  ·simp only[Rep]
 ·simp only[Rep]
theorem ok_notA {x:AV} {a:Bool} (rx:Rep ρ E w x (.bool a)):Rep ρ E w (SN x) (.bool !a):=by
 unfold SN;split
 ·simp only[Rep,lJ]at rx ⊢;subst rx;rfl
 ·simp only[Rep,lJ]at rx ⊢;subst rx;rw[uc]
 ·simp only[Rep]
theorem Ge {T:TypeId} {x y r:AV} (h:eq1 P T x y=some r):kt P T=some false:=by
 unfold eq1 at h;unfold kt;split at h
 ·rename_i hu;simp[hu]
 ·rename_i hu;simp[hu]
 ·rename_i hu;simp[hu]
 ·cases h
theorem fX {T:TypeId} (ha:kt P T=some false) {cs:Array Value} {off:Nat} {u:Value} (hu:cs[off]? = some u) (w:World):(part T cs off).run P w = .ok u w:=by
 simp[part,eS ha,hu]
theorem Tl (d:Nat) {xs ys:List AV} {us vs:Array Value} (rx:RepL ρ E w xs us.toList) (ry:RepL ρ E w ys vs.toList):∀{fs:List Field} {r:AV},eqF P xs ys fs=some r->∃t,(Op.eqFields (d+1) us vs fs).run P w = .ok t w∧Rep ρ E w r (.bool t)
 | [],r,h=>by
   simp only[eqF,aN]at h;subst h;exact⟨true,by simp[Op.eqFields],by simp only[Rep]⟩
 |f::fs,r,h=>by
  simp only[eqF]at h;cases hn:(f.name == "_")with
  |true=>simp[hn]at h
  |false=>
   simp only[hn,aI]at h;have hn':f.name≠ "_" :=by simpa using hn
   obtain⟨x,hx,h⟩:=aT.1 h;obtain⟨y,hy,h⟩:=aT.1 h;obtain⟨e,he,h⟩:=aT.1 h;obtain⟨r',hr',rfl⟩:=dj.1 h;obtain⟨u,hu,hru⟩:=rx.get hx;obtain⟨v,hv,hrv⟩:=ry.get hy;obtain⟨t,ht,hrt⟩:=Tk (P:=P) d he hru hrv;obtain⟨t',ht',hrt'⟩:=Tl d rx ry hr';have ha:=Ge he;refine⟨t&&t',?_,NU hrt hrt'⟩
   have h1:=fX ha (cs:=us) (off:=f.offset) (u:=u) (by simpa using hu) w
   have h2:=fX ha (cs:=vs) (off:=f.offset) (u:=v) (by simpa using hv) w
   simp only[Op.eqFields,Sem.run_ite,if_pos hn',dq,h1,h2,ht,dL];cases t with
   |true=>simpa using ht'
   |false=>simp
def ga (d:Nat) (T:TypeId) (n:Nat) (us vs:Array Value):List Nat->Sem Bool
 | []=>pure true
 |i::is=>do
  let a <- part T us (i*n)
  let b <- part T vs (i*n)
  let r <- Op.equalIn d T a b
  if(!r)=true then pure false else ga d T n us vs is
theorem run_equalIn_array (d:Nat) (t e:TypeId) (m n:Nat) (us vs:Array Value) (ht:P.underlying t=some (.array m e)) (hn:sz P e=some n):
 (Op.equalIn (d+1) t (.agg us) (.agg vs)).run P w=(ga d e n us vs (List.range m)).run P w:=by
 simp only[Op.equalIn,dq,bp ht,dL,cL hn];simp only[Std.Legacy.Range.forIn_eq_forIn_range',Std.Legacy.Range.size,Nat.sub_zero,Nat.add_sub_cancel,Nat.div_one, <- List.range_eq_range'];generalize List.range m=js;clear ht
 induction js generalizing w with
 |nil=>simp[ga]
 |cons j js ih=>
  simp only[List.forIn_cons,ga,dq,Sem.run_ite];generalize (part e us (j*n)).run P w=r1;cases r1 with
  |ok a w1=>
   simp only[dL];generalize (part e vs (j*n)).run P w1=r2;cases r2 with
   |ok b w2=>
    simp only[dL];generalize (Op.equalIn d e a b).run P w2=r3;cases r3 with
    |ok r w3=>
     cases r
     ·simp only[dL,dk,aX,fT]
     ·simp only[dL,bX,hR,aV,fT];exact ih (w:=w3)
    |halt x w3=>simp[Result.andThen]
   |halt x w2=>simp[Result.andThen]
  |halt x w1=>simp[Result.andThen]
theorem Tm (d:Nat) {T:TypeId} {xs ys:List AV} {us vs:Array Value} (rx:RepL ρ E w xs us.toList) (ry:RepL ρ E w ys vs.toList):∀{js:List Nat} {r:AV},eqE P T xs ys js=some r->∃t,(ga (d+1) T 1 us vs js).run P w = .ok t w∧Rep ρ E w r (.bool t)
 | [],r,h=>by
   simp only[eqE,aN]at h;subst h;exact⟨true,by simp[ga],by simp only[Rep]⟩
 |j::js,r,h=>by
  simp only[eqE]at h;obtain⟨x,hx,h⟩:=aT.1 h;obtain⟨y,hy,h⟩:=aT.1 h;obtain⟨e,he,h⟩:=aT.1 h;obtain⟨r',hr',rfl⟩:=dj.1 h;obtain⟨u,hu,hru⟩:=rx.get hx;obtain⟨v,hv,hrv⟩:=ry.get hy;obtain⟨t,ht,hrt⟩:=Tk (P:=P) d he hru hrv;obtain⟨t',ht',hrt'⟩:=Tm d rx ry hr';have ha:=Ge he;refine⟨t&&t',?_,NU hrt hrt'⟩
  have h1:=fX ha (cs:=us) (off:=j*1) (u:=u) (by simpa using hu) w
  have h2:=fX ha (cs:=vs) (off:=j*1) (u:=v) (by simpa using hv) w
  simp only[ga,dq,h1,h2,ht,dL];cases t with
  |true=>simpa using ht'
  |false=>simp
theorem Gf {T:TypeId} {xs ys:List AV} {r:AV} {u v:Value} {xo yo:Operand} (op:BinOp) (h:sr P T xs ys=some r) (rx:Rep ρ E w (.agg xs) u) (ry:Rep ρ E w (.agg ys) v):
 ∃us vs t,u = .agg us∧v = .agg vs∧(eqGuard op T xo yo u v).run P w = .ok () w∧(Op.equalIn 10000 T u v).run P w = .ok t w∧Rep ρ E w r (.bool t):=by
 simp only[Rep]at rx ry;obtain⟨us,rfl,hx⟩:=rx;obtain⟨vs,rfl,hy⟩:=ry;unfold sr at h;split at h
 ·rename_i fs hu;cases hb:(P.stoodInHeld T||P.eqGuardType P.depth T)with
  |true=>simp[hb]at h
  |false=>
   simp only[hb,aI]at h;simp only[Bool.or_eq_false_iff]at hb;obtain⟨t,ht,hr⟩:=Tl (P:=P) 9998 hx hy h;have hf:P.fieldsOf T=fs:=by simp[Program.fieldsOf,hu]
   refine⟨us,vs,t,rfl,rfl,run_eqGuard_agg w op T xo yo us vs hb.2,?_,hr⟩
   have:=run_equalIn_struct w 9999 T us vs (by rw[hf];exact hu) hb.1
   rw[hf]at this;exact this.trans ht
 ·rename_i m e hu;cases hb:(P.eqGuardType P.depth T)with
  |true=>simp[hb]at h
  |false=>
   simp only[hb,aI]at h;split at h
   ·rename_i hz;obtain⟨t,ht,hr⟩:=Tm (P:=P) 9998 hx hy h;exact⟨us,vs,t,rfl,rfl,run_eqGuard_agg w op T xo yo us vs hb,(run_equalIn_array 9999 T e m 1 us vs hu hz).trans ht,hr⟩
   ·cases h
 ·cases h
theorem Br {op:BinOp} {T:TypeId} {xs:List AV} {y v:AV} {u s:Value} {xo yo:Operand} (h:Da P op T xs y=some v) (r:Rep ρ E w (.agg xs) u) (ry:Rep ρ E w y s):OkP P ρ E w (do eqGuard op T xo yo u s;binOp op T u s) v:=by
 have go:∀ys,(match op with | .eql=>sr P T xs ys | .neq=>(sr P T xs ys).map SN|_=>none)=some v->Rep ρ E w (.agg ys) s->OkP P ρ E w (do eqGuard op T xo yo u s;binOp op T u s) v:=by
  intro ys h ry;split at h
  ·obtain⟨us,vs,t,rfl,rfl,h1,h2,h3⟩:=Gf (P:=P) (xo:=xo) (yo:=yo) .eql h r ry;exact⟨.bool t,by simp only[dq,h1,dL,run_eql_struct,h2],h3⟩
  ·obtain⟨r',hr',rfl⟩:=dj.1 h;obtain⟨us,vs,t,rfl,rfl,h1,h2,h3⟩:=Gf (P:=P) (xo:=xo) (yo:=yo) .neq hr' r ry;exact⟨.bool !t,by simp only[dq,h1,dL,run_neq_struct,h2],ok_notA h3⟩
  ·cases h
 unfold Da at h;split at h
 ·exact go _ h ry
 ·exact go _ h (oN ry)
 ·cases h
theorem nV {op:BinOp} {x:AV} {y:AV} {k k':IntKind} {a b:Int} (ho:aU (jn op x y)=true) (hx:(∃k a,x = .ui k a)∨(∃k b,y = .ui k b)) (hy:y = .sc (.int k' b)∨y = .ui k' b) (hx':x = .sc (.int k a)∨x = .ui k a):
 (op = .quo∨op = .rem->b≠0)∧(cF op=true->0≤b):=by
 have z:∀b:Int,(leI b 0&&leI 0 b)=false->b≠0:=fun b h e=>by subst e;simp[v6]at h
 rcases hx' with rfl|rfl<;>rcases hy with rfl|rfl
 ·rcases hx with⟨_,_,h⟩|⟨_,_,h⟩<;>cases h
 ·cases op<;>simp[cF,jn,aU,bY,ef]at ho ⊢ <;>exact ho
 ·cases op<;>simp only[cF,jn]at ho ⊢
  case quo=>cases hz:(leI b 0&&leI 0 b)with
   |true=>simp[hz,aU]at ho
   |false=>exact⟨fun _=>z b hz,by simp⟩
  case rem=>cases hz:(leI b 0&&leI 0 b)with
   |true=>simp[hz,aU]at ho
   |false=>exact⟨fun _=>z b hz,by simp⟩
  case shl=>cases hz:leI 0 b with
   |true=>exact⟨by simp,fun _=>by simpa[v6]using hz⟩
   |false=>simp[hz,aU]at ho
  case shr=>cases hz:leI 0 b with
   |true=>exact⟨by simp,fun _=>by simpa[v6]using hz⟩
   |false=>simp[hz,aU]at ho
  all_goals simp
 ·cases op<;>simp[cF,jn,aU,bY,ef]at ho ⊢ <;>exact ho
theorem Tn {op:BinOp} {T:TypeId} {x y v:AV} {u s:Value} {xo yo:Operand} (h:binA P op T x y=some v) (ho:aU (jn op x y)=true) (r:Rep ρ E w x u) (ry:Rep ρ E w y s):
 OkP P ρ E w (do eqGuard op T xo yo u s;binOp op T u s) v:=by
 have num:∀{k k':IntKind} {a b:Int} {v:AV},Bh op k a k' b=some v->(op = .quo∨op = .rem->b≠0)∧(cF op=true->0≤b)->u = .int k a->s = .int k' b->OkP P ρ E w (do eqGuard op T xo yo u s;binOp op T u s) v:=by
  rintro k k' a b v h ho rfl rfl;obtain⟨v',hr,hv⟩:=Th (P:=P) (ρ:=ρ) (E:=E) (w:=w) T h ho.1 ho.2;exact⟨v',by simp[gK,hr],hv⟩
 have txt:∀{a b:ByteArray} {v:AV},Bi op a b=some v->(op = .add->jm a b=true)->u = .string a->s = .string b->OkP P ρ E w (do eqGuard op T xo yo u s;binOp op T u s) v:=by
  rintro a b v h ho rfl rfl;obtain⟨v',hr,hv⟩:=Ti (P:=P) (ρ:=ρ) (E:=E) (w:=w) T h ho;exact⟨v',by simp[cR,hr],hv⟩
 have tru:∀{a b:Bool} {v:AV},Bj P op T a b=some v->u = .bool a->s = .bool b->OkP P ρ E w (do eqGuard op T xo yo u s;binOp op T u s) v:=by
  rintro a b v h rfl rfl;obtain⟨v',hr,hv⟩:=Tj (P:=P) (ρ:=ρ) (E:=E) (w:=w) h;exact⟨v',by simp[cR,hr],hv⟩
 unfold binA at h;split at h
 ·split at h
  ·rename_i k a k' b;simp only[Rep]at r ry;subst r;subst ry;unfold eY at h;cases hs:cF op with
   |true=>
    simp only[hs,aj]at h;obtain⟨v',hr,hv⟩:=Gd (P:=P) (ρ:=ρ) (E:=E) (w:=w) (k':=k') T hs h;exact⟨v',by simp[gK,hr],hv⟩
   |false=>
    simp only[hs,aI]at h;split at h
    ·rename_i hk;subst hk;obtain⟨v',hr,hv⟩:=Qn (P:=P) (ρ:=ρ) (E:=E) (w:=w) T h;exact⟨v',by simp[gK,hr],hv⟩
    ·cases h
  ·simp only[Rep]at r ry;exact num h (nV ho (.inr ⟨_,_,rfl⟩) (.inr rfl) (.inl rfl)) r ry
  ·cases h
 ·split at h
  ·simp only[Rep]at r ry;exact num h (nV ho (.inl ⟨_,_,rfl⟩) (.inl rfl) (.inr rfl)) r ry
  ·simp only[Rep]at r ry;exact num h (nV ho (.inl ⟨_,_,rfl⟩) (.inr rfl) (.inr rfl)) r ry
  ·cases h
 ·split at h
  ·simp only[Rep]at r ry;subst r;subst ry;obtain⟨v',hr,hv⟩:=Bp (P:=P) (ρ:=ρ) (E:=E) (w:=w) T h;exact⟨v',by simp[cR,hr],hv⟩
  ·simp only[Rep]at r ry;exact txt h (fun e=>by subst e;simpa[jn,aU]using ho) r ry
  ·cases h
 ·split at h
  ·simp only[Rep]at r ry;exact txt h (fun e=>by subst e;simpa[jn,aU]using ho) r ry
  ·simp only[Rep]at r ry;exact txt h (fun e=>by subst e;simpa[jn,aU]using ho) r ry
  ·cases h
 ·split at h
  ·split at h
   ·rename_i hu;simp only[Rep]at r ry;subst r;subst ry;obtain⟨v',hr,hv⟩:=Kp (P:=P) (ρ:=ρ) (E:=E) (w:=w) hu h;exact⟨v',by simp[cR,hr],hv⟩
   ·cases h
  ·simp only[Rep]at r ry;exact tru h r ry
  ·cases h
 ·split at h
  ·simp only[Rep]at r ry;exact tru h r ry
  ·simp only[Rep]at r ry;exact tru h r ry
  ·cases h
 ·exact Br h r ry
 ·exact Br h (oN r) ry
 ·split at h
  ·simp only[Rep]at ry;subst ry;unfold SM at h;split at h
   ·cases hn:Bf P T x s with
    |none=>simp[hn]at h
    |some t=>
     simp[hn]at h;subst h;obtain⟨h1,h2,h3,_⟩:=Bq hn r;exact dS (by simp[cR _ T xo yo u s h1 h2,h3])
   ·cases hn:Bf P T x s with
    |none=>simp[hn]at h
    |some t=>
     simp[hn]at h;subst h;obtain⟨h1,h2,_,h4⟩:=Bq hn r;exact dS (by simp[cR _ T xo yo u s h1 h2,h4])
   ·cases h
  ·cases h
theorem ok_pick {c a b v:AV} {cv av bv:Value} (h:FY c a b=some v) (rc:Rep ρ E w c cv) (ra:Rep ρ E w a av) (rb:Rep ρ E w b bv):
 ∃t,cv = .bool t∧Rep ρ E w v (if t then av else bv):=by
 unfold FY at h;split at h
 ·cases h;simp only[Rep]at rc;exact⟨true,rc,by simpa using ra⟩
 ·cases h;simp only[Rep]at rc;exact⟨false,rc,by simpa using rb⟩
 ·cases h
theorem Kq {i:Nat} {x v:AV} {u:Value} (h:oD i x=some v) (ho:aU (ie i x)=true) (r:Rep ρ E w x u):OkP P ρ E w (Instr.extract u i) v:=by
 unfold oD at h;split at h
 ·rename_i vs;simp only[Rep]at r;obtain⟨xs,rfl,hr⟩:=r;obtain⟨u,hu,hv⟩:=hr.get h;have hu':xs[i]? = some u:=by rw[<- Array.getElem?_toList];exact hu
  exact⟨u,by simp[Instr.extract,hu'],hv⟩
 ·rename_i b x y;simp only[Rep]at r;rcases r with⟨hb,xs,u1,u2,rfl,hl,h1,h2⟩|⟨hb,rfl⟩
  ·have hx:∀j:Nat,xs[j]? = ([.bool true,u1,u2]:List Value)[j]? :=fun j=>by rw[<- Array.getElem?_toList,hl]
   split at h
   ·cases h;exact⟨.bool true,by simp[Instr.extract,hx],by simp only[Rep,hb]⟩
   ·cases h;exact⟨u1,by simp[Instr.extract,hx],h1⟩
   ·cases h;exact⟨u2,by simp[Instr.extract,hx],h2⟩
   ·cases h
  ·subst hb;split at h
   ·cases h;exact⟨.bool false,by simp[Instr.extract],by simp only[Rep]⟩
   ·simp[ie,aU]at ho
   ·simp[ie,aU]at ho
   ·cases h
 ·cases h
theorem Bs {T:TypeId} {f:Nat} {cs:List AV} {v:AV} {u:Value} (h:qp P T f cs=some v) (r:Rep ρ E w (.agg cs) u):OkP P ρ E w (Instr.field T u f) v:=by
 unfold qp at h;simp only[Rep]at r;obtain⟨xs,rfl,hr⟩:=r;split at h
 case h_2=>cases h
 case h_1 fs hu=>
  cases hf:fs[f]? with
  |none=>simp[hf]at h
  |some fd=>
   cases hs:sz P fd.type with
   |none=>simp[hf,hs]at h
   |some s=>
    simp only[hf,hs,bc]at h;split at h
    case h_3=>cases h
    case h_1 ha=>
     split at h
     ·rename_i hl;cases h;refine⟨.agg (xs.extract fd.offset (fd.offset+s)),?_,?_⟩
      ·simp[Instr.field,bp hu,hf,asAgg,part,eS ha,cL hs]
      ·simp only[Rep];refine⟨_,rfl,?_⟩
       have:=(hr.drop fd.offset).take s;simpa[Array.toList_extract,List.extract]using this
     ·cases h
    case h_2 ha=>
     obtain⟨u',hu',hv⟩:=hr.get h;refine⟨u',?_,hv⟩
     have e:xs[fd.offset]? = some u':=by simpa using hu'
     simp[Instr.field,bp hu,hf,asAgg,part,eS ha,e]
theorem To {T:TypeId} {f:Nat} {x v:AV} {u:Value} (h:vx P T f x=some v) (r:Rep ρ E w x u):OkP P ρ E w (Instr.field T u f) v:=by
 unfold vx at h;split at h
 ·exact Bs h r
 ·exact Bs h (oN r)
 ·cases h
theorem Dn {T:TypeId} {s:ByteArray} {k:IntKind} {n:Int} {v:AV} (h:(bif Bc P T then some (AV.ui .u8 (vt s n))else none)=some v) (ho:vv s n=true):OkP P ρ E w (Instr.index T (.string s) (.int k n)) v:=by
 cases hs:Bc P T with
 |false=>simp[hs]at h
 |true=>
  simp only[hs,aj,aN]at h;subst h;unfold Bc at hs;split at hs
  ·rename_i hu;rw[F8]at ho;simp only[NH,bn,cl]at ho;have hlt:n.toNat<s.size:=by omega
   refine⟨.int .u8 (Ba s n),?_,by simp only[Rep,F7]⟩
   have e1:s[n.toNat]? = some s[n.toNat]:=by simp[hlt]
   have e2:Ba s n=((s[n.toNat]).toNat:Int):=by
    simp only[Ba,ByteArray.toList_eq];have hl:n.toNat<s.data.toList.length:=by simpa using hlt
    rw[List.getD,cq hl]
    rfl
   simp only[Instr.index,asIntOf,pure_bind,dq,bp hu,dL,if_pos ho.1,e1,fT,e2]
  ·cases hs
theorem Tp {T:TypeId} {x ix v:AV} {u i:Value} (h:Ka P T x ix=some v) (ho:aU (oC x ix)=true) (r:Rep ρ E w x u) (ri:Rep ρ E w ix i):OkP P ρ E w (Instr.index T u i) v:=by
 unfold Ka at h;split at h
 case h_6=>cases h
 case h_1=>simp only[Rep]at r ri;subst r;subst ri;exact Dn h (bo ho _ (by simp[oC]))
 case h_2=>simp only[Rep]at r ri;subst r;subst ri;exact Dn h (bo ho _ (by simp[oC]))
 case h_3=>simp only[Rep]at r ri;subst r;subst ri;exact Dn h (bo ho _ (by simp[oC]))
 case h_4=>
  simp only[Rep]at r ri;subst r;subst ri;exact gu h
 case h_5 cs k n=>
  simp only[Rep]at r ri;subst ri;obtain⟨xs,rfl,hr⟩:=r;split at h
  case h_2=>cases h
  case h_1 len e hu=>
   cases hs:sz P e with
   |none=>simp[hs]at h
   |some s=>
    simp only[hs,bc]at h;split at h
    case isFalse=>cases h
    case isTrue hn=>
     split at h
     case h_3=>cases h
     case h_1 ha=>
      split at h
      ·cases h;refine⟨.agg (xs.extract (n.toNat*s) (n.toNat*s+s)),?_,?_⟩
       ·simp[Instr.index,asIntOf,bp hu,hn,part,eS ha,cL hs]
       ·simp only[Rep];refine⟨_,rfl,?_⟩
        have:=(hr.drop (n.toNat*s)).take s;simpa[Array.toList_extract,List.extract]using this
      ·cases h
     case h_2 ha=>
      obtain⟨u',hu',hv⟩:=hr.get h;refine⟨u',?_,hv⟩
      have e':xs[n.toNat*s]? = some u':=by simpa using hu'
      simp[Instr.index,asIntOf,bp hu,hn,part,eS ha,cL hs,e']
end
end Go.AM
