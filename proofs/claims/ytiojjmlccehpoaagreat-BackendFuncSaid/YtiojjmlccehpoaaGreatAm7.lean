/-
  Single operations: arithmetic, parts of values, slices of slices, lengths.
-/
import Derived.Test.YtiojjmlccehpoaaGreatAm6
import Derived.Laws.StructEq
import Derived.Laws.BytesString
import Derived.Laws.Cells
set_option linter.unusedSimpArgs false
set_option linter.unusedVariables false
namespace Go.AM
section
variable {P:Program} {lo:Nat->Prop} {w0:World} {ρ:Nat->Option Nat} {E:Nat->Prop} {H:Hp} {w:World}
theorem gD {s:Sem Value} {v:AV} (h:(bQ P s).map ofV=some v):OkP P ρ E w s v:=by
 cases hp:bQ P s with
 |none=>simp[hp]at h
 |some u=>simp[hp]at h;subst h;exact⟨u,mb hp w,Rep.ofV u⟩
theorem LQ {s:Sem Value} {v:AV} (h:(bQ P s).map .sc=some v):OkP P ρ E w s v:=by
 cases hp:bQ P s with
 |none=>simp[hp]at h
 |some u=>simp[hp]at h;subst h;exact⟨u,mb hp w,by simp only[Rep]⟩
theorem VA {op:UnOp} {x v:AV} {u:Value} (h:unA P op x=some v) (r:Rep ρ E w x u):OkP P ρ E w (Op.unary op u) v:=by
 unfold unA at h;split at h
 ·simp only[Rep]at r;subst r;exact gD h
 ·simp only[Rep]at r;subst r;split at h
  ·cases h;refine⟨_,?_,by simp only[Rep];rfl⟩
   rw[Vt];simp[Op.unary,Op.intArith,run1]
  ·cases h;refine⟨_,?_,by simp only[Rep];rfl⟩
   rw[Vt];simp[Op.unary,Op.intBits,run1]
  ·cases h
 ·simp only[Rep]at r;subst r;split at h
  ·cases h;refine⟨_,?_,by simp only[Rep];rfl⟩
   rw[uV];simp[Op.unary]
  ·cases h
 ·cases h
theorem repD_u8 {e:TypeId} {x:D} {row:List Value} (he:PG.underlying e=some (.int .u8)) (h:RepD PG E w e x row):∃n,x = .int n∧row = [.int .u8 n]:=by
 cases h with
 |int hT=>rw[he]at hT;cases hT;exact⟨_,rfl,rfl⟩
 |bool hT=>rw[he]at hT;cases hT
 |str hT=>rw[he]at hT;cases hT
 |slice row hT=>rw[he]at hT;cases hT
 |struct hT=>rw[he]at hT;cases hT
 |array hT=>rw[he]at hT;cases hT
 |other h hl=>unfold dn at h;rw[he]at h;cases h
theorem VB {src dst e:TypeId} {d:D} {u:Value} (hs:P.underlying src=some (.slice e)) (he:P.underlying e=some (.int .u8)) (hd:P.underlying dst=some .string) (hpe:PG.underlying e=some (.int .u8)) (hz:PG.cellsOf e=1)
 (r:RepSl PG E w e d u):(convert src dst u).run P w = .ok (.string (D.text d)) w:=by
 obtain⟨a,cap,rfl,hc,hx⟩:=r;rw[run_convert_bytes_string w src dst e a _ cap hs he hd];cases a with
 |none=>
  have hl:d.toList = []:=by
   rcases hx with h|⟨_,_,h,_⟩
   ·exact h
   ·cases h
  simp[Conv.bytesToString,D.text,hl]
 |some a=>
  have hcell:∀(i:Nat) (x:D),d.toList[i]? = some x->w.cell? (a.add i)=some (.int .u8 x.toInt):=by
   intro i x hi;rcases hx with h|⟨b,off,ha,hb,hx⟩
   ·rw[h]at hi;simp at hi
   ·cases ha;obtain⟨row,hr1,hr2,hr3⟩:=hx i x hi;obtain⟨n,rfl,rfl⟩:=repD_u8 hpe hr3;have:=hr2 0 _ rfl;rw[hz,Nat.mul_one,lQ]at this;unfold Addr.add;by_cases h0:i=0
    ·rw[if_pos h0];subst h0;exact this
    ·rw[if_neg h0];exact this
  have hl:=run_loadCells_list (P:=P) (w:=w) a ((d.toList.map D.toInt).map (Value.int .u8)) (fun j v hj=>by
   rw[it,it]at hj;cases hd':d.toList[j]? with
   |none=>rw[hd']at hj;cases hj
   |some x=>
    rw[hd']at hj;simp only[cI,aQ]at hj
    rw[hcell j x hd',hj])
  simp only[gY]at hl;rw[run_bytesToString w a d.toList.length cap _ hl,List.foldl_map]
  rfl
theorem wU:∀{xs:List (List AV)} {ns:List Int},jG xs=some ns->ns.length=xs.length
 | [],ns,h=>by simp only[jG,aQ]at h;subst h;rfl
 |x::xs,ns,h=>by
  unfold jG at h;split at h
  ·rename_i e;cases e
  ·rename_i n r e;cases e;obtain⟨ms,hm,rfl⟩:=dq.1 h;simp[wU hm]
  ·cases h
theorem pj {b z:Nat}:∀{xs:List (List AV)} {ns:List Int} {off:Nat},jG xs=some ns->RepRows bD E w b off z xs->∀j n,ns[j]? = some n->w.cell? ⟨b,off+j,none⟩=some (.int .u8 n)
 | [],ns,off,h,_,j,n,hj=>by simp only[jG,aQ]at h;subst h;simp at hj
 |x::xs,ns,off,h,r,j,n,hj=>by
  unfold jG at h;split at h
  ·rename_i e;cases e
  ·rename_i m rr e;cases e;obtain⟨ms,hm,rfl⟩:=dq.1 h;simp only[RepRows]at r;obtain⟨hz,hx,hr⟩:=r;cases j with
   |zero=>
    simp only[wi,aQ]at hj;subst hj;simp only[RepAt]at hx;obtain⟨⟨v,hv,h1⟩,_⟩:=hx;simp only[Rep]at h1;subst h1;exact hv
   |succ j=>
    simp only[sV]at hj;have:=pj hm hr j n hj;simp only[ce,cZ]at hz;rw[show off+(j+1)=off+z+j from by omega];exact this
  ·cases h
theorem Sl {src dst e:TypeId} {xs:List (List AV)} {ns:List Int} {u:Value} (hs:P.underlying src=some (.slice e)) (he:P.underlying e=some (.int .u8)) (hd:P.underlying dst=some .string) (hn:jG xs=some ns) (r:Rep ρ E w (.esl xs) u):
 (convert src dst u).run P w = .ok (.string (ns.foldl (fun r n=>r.push (UInt8.ofNat n.toNat)) ByteArray.empty)) w:=by
 simp only[Rep]at r;obtain⟨a,cap,rfl,hc,hx⟩:=r;rw[run_convert_bytes_string w src dst e a _ cap hs he hd];have hlen:=wU hn;cases a with
 |none=>
  have hl:xs = []:=by
   rcases hx with h|⟨_,_,_,h,_⟩
   ·exact h
   ·cases h
  subst hl;simp only[jG,aQ]at hn;subst hn;simp[Conv.bytesToString]
 |some a=>
  have hcell:∀(i:Nat) (n:Int),ns[i]? = some n->w.cell? (a.add i)=some (.int .u8 n):=by
   intro i n hi;rcases hx with h|⟨b,off,z,ha,hb,hx⟩
   ·rw[h]at hlen;rw[List.eq_nil_of_length_eq_zero hlen]at hi;simp at hi
   ·cases ha;have:=pj hn hx i n hi;unfold Addr.add;by_cases h0:i=0
    ·rw[if_pos h0];subst h0;exact this
    ·rw[if_neg h0];exact this
  have hl:=run_loadCells_list (P:=P) (w:=w) a (ns.map (Value.int .u8)) (fun j v hj=>by
   rw[it]at hj;cases hd':ns[j]? with
   |none=>rw[hd']at hj;cases hj
   |some x=>
    rw[hd']at hj;simp only[cI,aQ]at hj
    rw[hcell j x hd',hj])
  simp only[gY]at hl;rw[hlen]at hl;rw[run_bytesToString w a xs.length cap _ hl]
theorem LS {s d:TypeId} {x v:AV} {u:Value} (h:Ca P s d x=some v) (r:Rep ρ E w x u):OkP P ρ E w (convert s d u) v:=by
 unfold Ca at h;split at h
 ·simp only[Rep]at r;subst r;exact gD h
 ·simp only[Rep]at r;subst r;split at h
  ·rename_i e1 e2;cases h;refine⟨_,?_,by simp only[Rep];rfl⟩
   rw[Vu];simp[convert,bz e1,bz e2,Conv.intToInt]
  ·cases h
 ·simp only[Rep]at r;subst r;split at h
  ·rename_i e1 e2;cases h;refine⟨_,?_,by simp only[Rep];rfl⟩
   simp[convert,bz e1,bz e2]
  ·cases h
 ·simp only[Rep]at r;split at h
  ·rename_i e e1 e2;split at h
   ·rename_i he hpe;cases hz:(Nat.beq (PG.cellsOf e) 1&&Nat.beq _ e)with
    |false=>rw[hz]at h;cases h
    |true=>
     rw[hz]at h;cases h;simp only[bu]at hz;have hz2:=aV hz.2;subst hz2;exact⟨_,VB e1 he e2 hpe (aV hz.1) r,by simp only[Rep,Hh]⟩
   ·cases h
  ·cases h
 ·split at h
  ·rename_i e e1 e2;split at h
   ·rename_i he;obtain⟨ns,hn,rfl⟩:=dq.1 h;exact⟨_,Sl e1 he e2 hn r,by simp only[Rep]⟩
   ·cases h
  ·cases h
 ·cases h
theorem gS (op:BinOp) (T:TypeId) (x y:Operand) (k k':IntKind) (a b:Int) (w:World):(eqGuard op T x y (.int k a) (.int k' b)).run P w = .ok () w:=by
 cases op<;>simp[eqGuard]
theorem cV (op:BinOp) (T:TypeId) (x y:Operand) (a b:Value) (ha:∀cs,a≠ .agg cs) (hi:a≠ .nilIface) (w:World):(eqGuard op T x y a b).run P w = .ok () w:=by
 cases op<;>simp only[eqGuard]<;>(try simp)<;>(cases a<;>first|(exact(ha _ rfl).elim)|(exact(hi rfl).elim)|simp)
theorem dV {s:Sem Value} {u:Value} (h:s.run P w = .ok u w):OkP P ρ E w s (.sc u):=⟨u,h,by simp only[Rep]⟩
theorem wV (a b:Int):leI a b=decide (a≤b):=by
 cases a with
 |ofNat a=>
  cases b with
  |ofNat b=>
   rw[fx];simp only[leI,Nat.ble_eq,cn,Int.ofNat_eq_natCast];omega
  |negSucc b=>
   rw[fx];simp only[leI,cn,Int.ofNat_eq_natCast,ip,false_iff];omega
 |negSucc a=>
  cases b with
  |ofNat b=>
   rw[fx];simp only[leI,cn,Int.ofNat_eq_natCast,true_iff];omega
  |negSucc b=>
   rw[fx];simp only[leI,Nat.ble_eq,cn];omega
theorem not_leI (a b:Int):(!leI a b)=decide (b<a):=by
 rw[wV,fx];simp only[lN,decide_eq_false_iff_not,cn];omega
theorem Sn {op:BinOp} {k:IntKind} {a b:Int} {v:AV} (T:TypeId) (h:gN op k a b=some v):OkP P ρ E w (binOp op T (.int k a) (.int k b)) v:=by
 cases op<;>simp only[gN,not_leI]at h<;>(try simp only[wV]at h)
 case quo=>
  split at h
  ·cases h
  ·rename_i hb;cases h;exact dV (by simp[binOp,Op.intDiv,hb])
 case rem=>
  split at h
  ·cases h
  ·rename_i hb;cases h;exact dV (by simp[binOp,Op.intDiv,hb])
 all_goals first|(cases h;exact dV (by simp[binOp,Op.intArith,Op.intCmp,Op.intBits]))|cases h
theorem Hl {op:BinOp} {k k':IntKind} {a b:Int} {v:AV} (T:TypeId) (hs:cG op=true) (h:wx op k a b=some v):OkP P ρ E w (binOp op T (.int k a) (.int k' b)) v:=by
 unfold wx at h;split at h
 ·cases h
 ·rename_i hb;cases op
  case shl=>simp only[aQ]at h;subst h;exact dV (by simp[binOp,Op.shift,hb])
  case shr=>simp only[aQ]at h;subst h;exact dV (by simp[binOp,Op.shift,hb])
  all_goals simp[cG]at hs
theorem Cf {op:BinOp} {a b:ByteArray} {v:AV} (T:TypeId) (h:wy op a b=some v):OkP P ρ E w (binOp op T (.string a) (.string b)) v:=by
 cases op<;>simp only[wy]at h
 case add=>
  split at h
  ·cases h
  ·rename_i hb;cases h
   exact dV (by
    have hb':¬(IntKind.i64.max<((a.size+b.size:Nat):Int)):=by simp only[IntKind.max,IntKind.bits,IntKind.signed];simpa using hb
    simp only[binOp,Op.stringOp];rw[if_neg (by simpa using hb')]
    simp)
 all_goals first|(cases h;exact dV (by simp[binOp,Op.stringOp]))|cases h
theorem run_equal_bool {T:TypeId} (hu:P.underlying T=some .bool) (a b:Bool) (w:World):(Op.equal T (.bool a) (.bool b)).run P w = .ok (a==b) w:=by
 have key:∀d,(Op.equalIn (d+1) T (.bool a) (.bool b)).run P w = .ok (a==b) w:=fun d=>by simp[Op.equalIn,bz hu]
 exact key 9999
theorem By {T e:TypeId} (hu:P.underlying T=some (.pointer e)) (a:Option Addr) (w:World):(Op.equal T (.pointer a) (.pointer none)).run P w = .ok a.isNone w:=by
 have key:∀d,(Op.equalIn (d+1) T (.pointer a) (.pointer none)).run P w = .ok a.isNone w:=fun d=>by cases a<;>simp[Op.equalIn,bz hu]
 exact key 9999
theorem uD {T e:TypeId} (hu:P.underlying T=some (.slice e)) (a:Option Addr) (l c l' c':Nat) (w:World):(Op.equal T (.slice a l c) (.slice none l' c')).run P w = .ok a.isNone w:=by
 have key:∀d,(Op.equalIn (d+1) T (.slice a l c) (.slice none l' c')).run P w = .ok a.isNone w:=fun d=>by cases a<;>simp[Op.equalIn,bz hu]
 exact key 9999
theorem Bz {T k e:TypeId} (hu:P.underlying T=some (.map k e)) (a:Option Nat) (w:World):(Op.equal T (.map a) (.map none)).run P w = .ok a.isNone w:=by
 have key:∀d,(Op.equalIn (d+1) T (.map a) (.map none)).run P w = .ok a.isNone w:=fun d=>by cases a<;>simp[Op.equalIn,bz hu]
 exact key 9999
theorem wW {T:TypeId} {ps rs:Array TypeId} {vr:Bool} (hu:P.underlying T=some (.func ps rs vr)) (f:Fn) (a b:Array Value) (w:World):(Op.equal T (.func f a b) .nilFunc).run P w = .ok false w:=by
 have key:∀d,(Op.equalIn (d+1) T (.func f a b) .nilFunc).run P w = .ok false w:=fun d=>by simp[Op.equalIn,bz hu]
 exact key 9999
theorem pk {T:TypeId} {ps rs:Array TypeId} {vr:Bool} (hu:P.underlying T=some (.func ps rs vr)) (w:World):(Op.equal T .nilFunc .nilFunc).run P w = .ok true w:=by
 have key:∀d,(Op.equalIn (d+1) T .nilFunc .nilFunc).run P w = .ok true w:=fun d=>by simp[Op.equalIn,bz hu]
 exact key 9999
theorem LT {op:BinOp} {a b:Bool} {v:AV} {T:TypeId} (hu:P.underlying T=some .bool) (h:D3 op a b=some v):OkP P ρ E w (binOp op T (.bool a) (.bool b)) v:=by
 cases op<;>simp only[D3]at h
 case eql=>cases h;exact dV (by simp[binOp,run_equal_bool hu])
 case neq=>
  cases h;exact dV (by simp[binOp,run_equal_bool hu,bne])
 all_goals cases h
theorem Cg {T:TypeId} {x:AV} {u b:Value} {t:Bool} (h:B5 P T x b=some t) (r:Rep ρ E w x u):
 (∀cs,u≠ .agg cs)∧u≠ .nilIface∧(binOp .eql T u b).run P w = .ok (.bool t) w∧(binOp .neq T u b).run P w = .ok (.bool (!t)) w:=by
 unfold B5 at h;split at h
 case h_5=>cases h
 case h_1 e hu=>
  have k:=fun a=>By hu a w
  split at h
  ·cases h;simp only[Rep]at r;obtain⟨_,_,rfl⟩:=r;refine⟨by simp,by simp,?_,?_⟩<;>simp[binOp,k]
  ·cases h;simp only[Rep]at r;obtain⟨_,_,rfl,_⟩:=r;refine⟨by simp,by simp,?_,?_⟩<;>simp[binOp,k]
  ·cases h;simp only[Rep]at r;obtain⟨_,_,_,rfl,_⟩:=r;refine⟨by simp,by simp,?_,?_⟩<;>simp[binOp,k]
  ·cases h;simp only[Rep]at r;subst r;refine⟨by simp,by simp,?_,?_⟩<;>simp[binOp,k]
  ·cases h
 case h_2 e hu=>
  have k:=fun a l c l' c'=>uD hu a l c l' c' w
  split at h
  ·cases h;simp only[Rep]at r;obtain⟨_,_,_,rfl,_⟩:=r;refine⟨by simp,by simp,?_,?_⟩<;>simp[binOp,k]
  ·cases h;simp only[Rep]at r;obtain⟨_,_,_,_,rfl⟩:=r;refine⟨by simp,by simp,?_,?_⟩<;>simp[binOp,k]
  ·cases h;simp only[Rep]at r;obtain⟨_,_,rfl,_,hr⟩:=r;rcases hr with hr|⟨_,_,_,rfl,_⟩
   ·cases hr
   ·refine⟨by simp,by simp,?_,?_⟩<;>simp[binOp,k]
  ·cases h;simp only[Rep]at r;subst r;refine⟨by simp,by simp,?_,?_⟩<;>simp[binOp,k]
  ·cases h
 case h_3 k e hu=>
  have k:=fun a=>Bz hu a w
  split at h
  ·cases h;simp only[Rep]at r;obtain⟨_,_,rfl⟩:=r;refine⟨by simp,by simp,?_,?_⟩<;>simp[binOp,k]
  ·cases h;simp only[Rep]at r;obtain⟨_,_,_,rfl,_⟩:=r;refine⟨by simp,by simp,?_,?_⟩<;>simp[binOp,k]
  ·cases h;simp only[Rep]at r;subst r;refine⟨by simp,by simp,?_,?_⟩<;>simp[binOp,k]
  ·cases h
 case h_4 k e hu=>
  have k1:=fun f a b=>wW hu f a b w
  have k2:=pk hu w;split at h
  ·cases h;simp only[Rep]at r;obtain⟨_,_,rfl,_⟩:=r;refine⟨by simp,by simp,?_,?_⟩<;>simp[binOp,k1]
  ·cases h;simp only[Rep]at r;subst r;refine⟨by simp,by simp,?_,?_⟩<;>simp[binOp,k2]
  ·cases h
theorem VC {op:BinOp} {k k':IntKind} {a b:Int} {v:AV} (T:TypeId) (h:B7 op k a k' b=some v) (hq:op = .quo∨op = .rem->b≠0) (hs:cG op=true->0≤b):OkP P ρ E w (binOp op T (.int k a) (.int k' b)) v:=by
 unfold B7 at h;cases hsh:cG op with
 |true=>
  have hb:¬b<0:=by have:=hs hsh;omega
  simp only[hsh,ap,aQ]at h;subst h;rw[fi];cases op
  case shl=>exact⟨_,by simp[binOp,Op.shift,hb,hJ];rfl,by simp only[Rep,hJ]⟩
  case shr=>exact⟨_,by simp[binOp,Op.shift,hb,hJ];rfl,by simp only[Rep,hJ]⟩
  all_goals simp[cG]at hsh
 |false=>
  simp only[hsh,aJ]at h;split at h
  ·rename_i hk;subst hk;cases op<;>simp only[B6,Pr,ap,aJ,aQ]at h<;>first|(cases h;done)|skip
   case quo=>
    subst h;have hb:=hq (.inl rfl);exact⟨.int k (hJ .quo k a b),by simp[binOp,Op.intDiv,hb,hJ],by simp only[Rep,fi]⟩
   case rem=>
    subst h;have hb:=hq (.inr rfl);exact⟨.int k (hJ .rem k a b),by simp[binOp,Op.intDiv,hb,hJ],by simp only[Rep,fi]⟩
   case eql=>subst h;exact⟨.bool (eo .eql a b),by simp[binOp,Op.intCmp,eo],by simp only[Rep,bY]⟩
   case neq=>subst h;exact⟨.bool (eo .neq a b),by simp[binOp,Op.intCmp,eo],by simp only[Rep,bY]⟩
   case lss=>subst h;exact⟨.bool (eo .lss a b),by simp[binOp,Op.intCmp,eo],by simp only[Rep,bY]⟩
   case leq=>subst h;exact⟨.bool (eo .leq a b),by simp[binOp,Op.intCmp,eo],by simp only[Rep,bY]⟩
   case gtr=>subst h;exact⟨.bool (eo .gtr a b),by simp[binOp,Op.intCmp,eo],by simp only[Rep,bY]⟩
   case geq=>subst h;exact⟨.bool (eo .geq a b),by simp[binOp,Op.intCmp,eo],by simp only[Rep,bY]⟩
   case add=>subst h;exact⟨.int k (hJ .add k a b),by simp[binOp,Op.intArith,hJ],by simp only[Rep,fi]⟩
   case sub=>subst h;exact⟨.int k (hJ .sub k a b),by simp[binOp,Op.intArith,hJ],by simp only[Rep,fi]⟩
   case mul=>subst h;exact⟨.int k (hJ .mul k a b),by simp[binOp,Op.intArith,hJ],by simp only[Rep,fi]⟩
   case and=>subst h;exact⟨.int k (hJ .and k a b),by simp[binOp,Op.intBits,hJ],by simp only[Rep,fi]⟩
   case or=>subst h;exact⟨.int k (hJ .or k a b),by simp[binOp,Op.intBits,hJ],by simp only[Rep,fi]⟩
   case xor=>subst h;exact⟨.int k (hJ .xor k a b),by simp[binOp,Op.intBits,hJ],by simp only[Rep,fi]⟩
   case andNot=>subst h;exact⟨.int k (hJ .andNot k a b),by simp[binOp,Op.intBits,hJ],by simp only[Rep,fi]⟩
  ·cases h
theorem VD {op:BinOp} {a b:ByteArray} {v:AV} (T:TypeId) (h:B8 op a b=some v) (ho:op = .add->jE a b=true):OkP P ρ E w (binOp op T (.string a) (.string b)) v:=by
 unfold B8 at h;split at h
 ·cases h;have h1:=ho rfl;rw[Cc]at h1;have hle:=of_decide_eq_true h1;have hs:wy .add a b=some (.sc (.string (a++b))):=by
   unfold wy;exact if_neg (by omega)
  obtain⟨u,hr,hv⟩:=Cf (P:=P) (ρ:=ρ) (E:=E) (w:=w) T hs;simp only[Rep]at hv;subst hv;exact⟨_,hr,by simp only[Rep,Ed]⟩
 ·have hcm:B6 op=true∧v = .ub (cD op a b):=by
   revert h;cases op<;>simp[B6]<;>exact fun h=>h.symm
  obtain⟨hc,rfl⟩:=hcm;refine⟨.bool (wl op a b),?_,by simp only[Rep,o7]⟩
  cases op<;>simp[B6]at hc<;>simp[binOp,Op.stringOp,wl]
theorem VE {op:BinOp} {a b:Bool} {v:AV} {T:TypeId} (h:B9 P op T a b=some v):OkP P ρ E w (binOp op T (.bool a) (.bool b)) v:=by
 unfold B9 at h;split at h
 ·rename_i hu;split at h
  ·cases h;exact⟨.bool (a==b),by simp[binOp,run_equal_bool hu],by simp only[Rep,o9]⟩
  ·cases h;exact⟨.bool (!(a==b)),by simp[binOp,run_equal_bool hu,bne],by simp only[Rep,o9,uV]⟩
  ·cases h
 ·cases h
theorem VF {T:TypeId} {x y r:AV} {u v:Value} (d:Nat) (h:eq1 P T x y=some r) (rx:Rep ρ E w x u) (ry:Rep ρ E w y v):∃t,(Op.equalIn (d+1) T u v).run P w = .ok t w∧Rep ρ E w r (.bool t):=by
 unfold eq1 at h;split at h
 ·rename_i k0 hu;split at h<;>first|cases h|skip
  all_goals (split at h<;>first|cases h|skip)
  all_goals (rename_i hk;subst hk;simp only[Rep]at rx ry;subst rx;subst ry;refine⟨_,run_equalIn_int w d T _ k0 _ _ hu,?_⟩;simp only[Rep,bY,eo])
 ·rename_i hu;split at h<;>first|cases h|skip
  all_goals (simp only[Rep]at rx ry;subst rx;subst ry;refine⟨_,run_equalIn_bool' w d T _ _ hu,?_⟩;simp only[Rep,o9])
 ·rename_i hu;split at h<;>first|cases h|skip
  all_goals (simp only[Rep]at rx ry;subst rx;subst ry;refine⟨_,run_equalIn_string w d T _ _ hu,?_⟩;simp only[Rep,o7,wl])
 ·cases h
theorem PB {x y:AV} {a b:Bool} (rx:Rep ρ E w x (.bool a)) (ry:Rep ρ E w y (.bool b)):Rep ρ E w (andA x y) (.bool (a&&b)):=by
 unfold andA;split
 ·simp only[Rep,lY]at rx ⊢;subst rx;rfl
 ·simp only[Rep,lY]at rx;subst rx;simpa using ry
 ·simp only[Rep,lY]at rx;subst rx;split
  ·simp only[Rep,lY]at ry ⊢;subst ry;simp
  ·simp only[Rep,lY]at ry ⊢;subst ry;simp
  ·simp only[Rep,lY]at ry ⊢;subst ry;rw[la]
  ·simp only[Rep]
 ·simp only[Rep]
theorem ok_notA {x:AV} {a:Bool} (rx:Rep ρ E w x (.bool a)):Rep ρ E w (Ve x) (.bool !a):=by
 unfold Ve;split
 ·simp only[Rep,lY]at rx ⊢;subst rx;rfl
 ·simp only[Rep,lY]at rx ⊢;subst rx;rw[uV]
 ·simp only[Rep]
theorem Hm {T:TypeId} {x y r:AV} (h:eq1 P T x y=some r):kQ P T=some false:=by
 unfold eq1 at h;unfold kQ;split at h
 ·rename_i hu;simp[hu]
 ·rename_i hu;simp[hu]
 ·rename_i hu;simp[hu]
 ·cases h
theorem ga {T:TypeId} (ha:kQ P T=some false) {cs:Array Value} {off:Nat} {u:Value} (hu:cs[off]? = some u) (w:World):(part T cs off).run P w = .ok u w:=by
 simp[part,fa ha,hu]
theorem VG (d:Nat) {xs ys:List AV} {us vs:Array Value} (rx:RepL ρ E w xs us.toList) (ry:RepL ρ E w ys vs.toList):∀{fs:List Field} {r:AV},eqF P xs ys fs=some r->∃t,(Op.eqFields (d+1) us vs fs).run P w = .ok t w∧Rep ρ E w r (.bool t)
 | [],r,h=>by
   simp only[eqF,aQ]at h;subst h;exact⟨true,by simp[Op.eqFields],by simp only[Rep]⟩
 |f::fs,r,h=>by
  simp only[eqF]at h;cases hn:(f.name == "_")with
  |true=>simp[hn]at h
  |false=>
   simp only[hn,aJ]at h;have hn':f.name≠ "_" :=by simpa using hn
   obtain⟨x,hx,h⟩:=aZ.1 h;obtain⟨y,hy,h⟩:=aZ.1 h;obtain⟨e,he,h⟩:=aZ.1 h;obtain⟨r',hr',rfl⟩:=dq.1 h;obtain⟨u,hu,hru⟩:=rx.get hx;obtain⟨v,hv,hrv⟩:=ry.get hy;obtain⟨t,ht,hrt⟩:=VF (P:=P) d he hru hrv;obtain⟨t',ht',hrt'⟩:=VG d rx ry hr';have ha:=Hm he;refine⟨t&&t',?_,PB hrt hrt'⟩
   have h1:=ga ha (cs:=us) (off:=f.offset) (u:=u) (by simpa using hu) w
   have h2:=ga ha (cs:=vs) (off:=f.offset) (u:=v) (by simpa using hv) w
   simp only[Op.eqFields,Sem.run_ite,if_pos hn',dz,h1,h2,ht,dP];cases t with
   |true=>simpa using ht'
   |false=>simp
def gq (d:Nat) (T:TypeId) (n:Nat) (us vs:Array Value):List Nat->Sem Bool
 | []=>pure true
 |i::is=>do
  let a <- part T us (i*n)
  let b <- part T vs (i*n)
  let r <- Op.equalIn d T a b
  if(!r)=true then pure false else gq d T n us vs is
theorem run_equalIn_array (d:Nat) (t e:TypeId) (m n:Nat) (us vs:Array Value) (ht:P.underlying t=some (.array m e)) (hn:sz P e=some n):
 (Op.equalIn (d+1) t (.agg us) (.agg vs)).run P w=(gq d e n us vs (List.range m)).run P w:=by
 simp only[Op.equalIn,dz,bz ht,dP,cL hn];simp only[Std.Legacy.Range.forIn_eq_forIn_range',Std.Legacy.Range.size,Nat.sub_zero,Nat.add_sub_cancel,Nat.div_one, <- List.range_eq_range'];generalize List.range m=js;clear ht
 induction js generalizing w with
 |nil=>simp[gq]
 |cons j js ih=>
  simp only[List.forIn_cons,gq,dz,Sem.run_ite];generalize (part e us (j*n)).run P w=r1;cases r1 with
  |ok a w1=>
   simp only[dP];generalize (part e vs (j*n)).run P w1=r2;cases r2 with
   |ok b w2=>
    simp only[dP];generalize (Op.equalIn d e a b).run P w2=r3;cases r3 with
    |ok r w3=>
     cases r
     ·simp only[dP,df,be,fY]
     ·simp only[dP,bS,ip,bb,fY];exact ih (w:=w3)
    |halt x w3=>simp[Result.andThen]
   |halt x w2=>simp[Result.andThen]
  |halt x w1=>simp[Result.andThen]
theorem VH (d:Nat) {T:TypeId} {xs ys:List AV} {us vs:Array Value} (rx:RepL ρ E w xs us.toList) (ry:RepL ρ E w ys vs.toList):∀{js:List Nat} {r:AV},eqE P T xs ys js=some r->∃t,(gq (d+1) T 1 us vs js).run P w = .ok t w∧Rep ρ E w r (.bool t)
 | [],r,h=>by
   simp only[eqE,aQ]at h;subst h;exact⟨true,by simp[gq],by simp only[Rep]⟩
 |j::js,r,h=>by
  simp only[eqE]at h;obtain⟨x,hx,h⟩:=aZ.1 h;obtain⟨y,hy,h⟩:=aZ.1 h;obtain⟨e,he,h⟩:=aZ.1 h;obtain⟨r',hr',rfl⟩:=dq.1 h;obtain⟨u,hu,hru⟩:=rx.get hx;obtain⟨v,hv,hrv⟩:=ry.get hy;obtain⟨t,ht,hrt⟩:=VF (P:=P) d he hru hrv;obtain⟨t',ht',hrt'⟩:=VH d rx ry hr';have ha:=Hm he;refine⟨t&&t',?_,PB hrt hrt'⟩
  have h1:=ga ha (cs:=us) (off:=j*1) (u:=u) (by simpa using hu) w
  have h2:=ga ha (cs:=vs) (off:=j*1) (u:=v) (by simpa using hv) w
  simp only[gq,dz,h1,h2,ht,dP];cases t with
  |true=>simpa using ht'
  |false=>simp
theorem Hn {T:TypeId} {xs ys:List AV} {r:AV} {u v:Value} {xo yo:Operand} (op:BinOp) (h:ta P T xs ys=some r) (rx:Rep ρ E w (.agg xs) u) (ry:Rep ρ E w (.agg ys) v):
 ∃us vs t,u = .agg us∧v = .agg vs∧(eqGuard op T xo yo u v).run P w = .ok () w∧(Op.equalIn 10000 T u v).run P w = .ok t w∧Rep ρ E w r (.bool t):=by
 simp only[Rep]at rx ry;obtain⟨us,rfl,hx⟩:=rx;obtain⟨vs,rfl,hy⟩:=ry;unfold ta at h;split at h
 ·rename_i fs hu;cases hb:(P.stoodInHeld T||P.eqGuardType P.depth T)with
  |true=>simp[hb]at h
  |false=>
   simp only[hb,aJ]at h;simp only[Bool.or_eq_false_iff]at hb;obtain⟨t,ht,hr⟩:=VG (P:=P) 9998 hx hy h;have hf:P.fieldsOf T=fs:=by simp[Program.fieldsOf,hu]
   refine⟨us,vs,t,rfl,rfl,run_eqGuard_agg w op T xo yo us vs hb.2,?_,hr⟩
   have:=run_equalIn_struct w 9999 T us vs (by rw[hf];exact hu) hb.1
   rw[hf]at this;exact this.trans ht
 ·rename_i m e hu;cases hb:(P.eqGuardType P.depth T)with
  |true=>simp[hb]at h
  |false=>
   simp only[hb,aJ]at h;split at h
   ·rename_i hz;obtain⟨t,ht,hr⟩:=VH (P:=P) 9998 hx hy h;exact⟨us,vs,t,rfl,rfl,run_eqGuard_agg w op T xo yo us vs hb,(run_equalIn_array 9999 T e m 1 us vs hu hz).trans ht,hr⟩
   ·cases h
 ·cases h
theorem Ch {op:BinOp} {T:TypeId} {xs:List AV} {y v:AV} {u s:Value} {xo yo:Operand} (h:D4 P op T xs y=some v) (r:Rep ρ E w (.agg xs) u) (ry:Rep ρ E w y s):OkP P ρ E w (do eqGuard op T xo yo u s;binOp op T u s) v:=by
 have go:∀ys,(match op with | .eql=>ta P T xs ys | .neq=>(ta P T xs ys).map Ve|_=>none)=some v->Rep ρ E w (.agg ys) s->OkP P ρ E w (do eqGuard op T xo yo u s;binOp op T u s) v:=by
  intro ys h ry;split at h
  ·obtain⟨us,vs,t,rfl,rfl,h1,h2,h3⟩:=Hn (P:=P) (xo:=xo) (yo:=yo) .eql h r ry;exact⟨.bool t,by simp only[dz,h1,dP,run_eql_struct,h2],h3⟩
  ·obtain⟨r',hr',rfl⟩:=dq.1 h;obtain⟨us,vs,t,rfl,rfl,h1,h2,h3⟩:=Hn (P:=P) (xo:=xo) (yo:=yo) .neq hr' r ry;exact⟨.bool !t,by simp only[dz,h1,dP,run_neq_struct,h2],ok_notA h3⟩
  ·cases h
 unfold D4 at h;split at h
 ·exact go _ h ry
 ·exact go _ h (pb ry)
 ·cases h
theorem ol {op:BinOp} {x:AV} {y:AV} {k k':IntKind} {a b:Int} (ho:bf (jF op x y)=true) (hx:(∃k a,x = .ui k a)∨(∃k b,y = .ui k b)) (hy:y = .sc (.int k' b)∨y = .ui k' b) (hx':x = .sc (.int k a)∨x = .ui k a):
 (op = .quo∨op = .rem->b≠0)∧(cG op=true->0≤b):=by
 have z:∀b:Int,(leI b 0&&leI 0 b)=false->b≠0:=fun b h e=>by subst e;simp[wV]at h
 rcases hx' with rfl|rfl<;>rcases hy with rfl|rfl
 ·rcases hx with⟨_,_,h⟩|⟨_,_,h⟩<;>cases h
 ·cases op<;>simp[cG,jF,bf,bY,eo]at ho ⊢ <;>exact ho
 ·cases op<;>simp only[cG,jF]at ho ⊢
  case quo=>cases hz:(leI b 0&&leI 0 b)with
   |true=>simp[hz,bf]at ho
   |false=>exact⟨fun _=>z b hz,by simp⟩
  case rem=>cases hz:(leI b 0&&leI 0 b)with
   |true=>simp[hz,bf]at ho
   |false=>exact⟨fun _=>z b hz,by simp⟩
  case shl=>cases hz:leI 0 b with
   |true=>exact⟨by simp,fun _=>by simpa[wV]using hz⟩
   |false=>simp[hz,bf]at ho
  case shr=>cases hz:leI 0 b with
   |true=>exact⟨by simp,fun _=>by simpa[wV]using hz⟩
   |false=>simp[hz,bf]at ho
  all_goals simp
 ·cases op<;>simp[cG,jF,bf,bY,eo]at ho ⊢ <;>exact ho
theorem VI {op:BinOp} {T:TypeId} {x y v:AV} {u s:Value} {xo yo:Operand} (h:binA P op T x y=some v) (ho:bf (jF op x y)=true) (r:Rep ρ E w x u) (ry:Rep ρ E w y s):
 OkP P ρ E w (do eqGuard op T xo yo u s;binOp op T u s) v:=by
 have num:∀{k k':IntKind} {a b:Int} {v:AV},B7 op k a k' b=some v->(op = .quo∨op = .rem->b≠0)∧(cG op=true->0≤b)->u = .int k a->s = .int k' b->OkP P ρ E w (do eqGuard op T xo yo u s;binOp op T u s) v:=by
  rintro k k' a b v h ho rfl rfl;obtain⟨v',hr,hv⟩:=VC (P:=P) (ρ:=ρ) (E:=E) (w:=w) T h ho.1 ho.2;exact⟨v',by simp[gS,hr],hv⟩
 have txt:∀{a b:ByteArray} {v:AV},B8 op a b=some v->(op = .add->jE a b=true)->u = .string a->s = .string b->OkP P ρ E w (do eqGuard op T xo yo u s;binOp op T u s) v:=by
  rintro a b v h ho rfl rfl;obtain⟨v',hr,hv⟩:=VD (P:=P) (ρ:=ρ) (E:=E) (w:=w) T h ho;exact⟨v',by simp[cV,hr],hv⟩
 have tru:∀{a b:Bool} {v:AV},B9 P op T a b=some v->u = .bool a->s = .bool b->OkP P ρ E w (do eqGuard op T xo yo u s;binOp op T u s) v:=by
  rintro a b v h rfl rfl;obtain⟨v',hr,hv⟩:=VE (P:=P) (ρ:=ρ) (E:=E) (w:=w) h;exact⟨v',by simp[cV,hr],hv⟩
 unfold binA at h;split at h
 ·split at h
  ·rename_i k a k' b;simp only[Rep]at r ry;subst r;subst ry;unfold fg at h;cases hs:cG op with
   |true=>
    simp only[hs,ap]at h;obtain⟨v',hr,hv⟩:=Hl (P:=P) (ρ:=ρ) (E:=E) (w:=w) (k':=k') T hs h;exact⟨v',by simp[gS,hr],hv⟩
   |false=>
    simp only[hs,aJ]at h;split at h
    ·rename_i hk;subst hk;obtain⟨v',hr,hv⟩:=Sn (P:=P) (ρ:=ρ) (E:=E) (w:=w) T h;exact⟨v',by simp[gS,hr],hv⟩
    ·cases h
  ·simp only[Rep]at r ry;exact num h (ol ho (.inr ⟨_,_,rfl⟩) (.inr rfl) (.inl rfl)) r ry
  ·cases h
 ·split at h
  ·simp only[Rep]at r ry;exact num h (ol ho (.inl ⟨_,_,rfl⟩) (.inl rfl) (.inr rfl)) r ry
  ·simp only[Rep]at r ry;exact num h (ol ho (.inl ⟨_,_,rfl⟩) (.inr rfl) (.inr rfl)) r ry
  ·cases h
 ·split at h
  ·simp only[Rep]at r ry;subst r;subst ry;obtain⟨v',hr,hv⟩:=Cf (P:=P) (ρ:=ρ) (E:=E) (w:=w) T h;exact⟨v',by simp[cV,hr],hv⟩
  ·simp only[Rep]at r ry;exact txt h (fun e=>by subst e;simpa[jF,bf]using ho) r ry
  ·cases h
 ·split at h
  ·simp only[Rep]at r ry;exact txt h (fun e=>by subst e;simpa[jF,bf]using ho) r ry
  ·simp only[Rep]at r ry;exact txt h (fun e=>by subst e;simpa[jF,bf]using ho) r ry
  ·cases h
 ·split at h
  ·split at h
   ·rename_i hu;simp only[Rep]at r ry;subst r;subst ry;obtain⟨v',hr,hv⟩:=LT (P:=P) (ρ:=ρ) (E:=E) (w:=w) hu h;exact⟨v',by simp[cV,hr],hv⟩
   ·cases h
  ·simp only[Rep]at r ry;exact tru h r ry
  ·cases h
 ·split at h
  ·simp only[Rep]at r ry;exact tru h r ry
  ·simp only[Rep]at r ry;exact tru h r ry
  ·cases h
 ·exact Ch h r ry
 ·exact Ch h (pb r) ry
 ·split at h
  ·simp only[Rep]at ry;subst ry;unfold Vd at h;split at h
   ·cases hn:B5 P T x s with
    |none=>simp[hn]at h
    |some t=>
     simp[hn]at h;subst h;obtain⟨h1,h2,h3,_⟩:=Cg hn r;exact dV (by simp[cV _ T xo yo u s h1 h2,h3])
   ·cases hn:B5 P T x s with
    |none=>simp[hn]at h
    |some t=>
     simp[hn]at h;subst h;obtain⟨h1,h2,_,h4⟩:=Cg hn r;exact dV (by simp[cV _ T xo yo u s h1 h2,h4])
   ·cases h
  ·cases h
theorem ok_pick {c a b v:AV} {cv av bv:Value} (h:G7 c a b=some v) (rc:Rep ρ E w c cv) (ra:Rep ρ E w a av) (rb:Rep ρ E w b bv):
 ∃t,cv = .bool t∧Rep ρ E w v (if t then av else bv):=by
 unfold G7 at h;split at h
 ·cases h;simp only[Rep]at rc;exact⟨true,rc,by simpa using ra⟩
 ·cases h;simp only[Rep]at rc;exact⟨false,rc,by simpa using rb⟩
 ·cases h
theorem LU {i:Nat} {x v:AV} {u:Value} (h:oX i x=some v) (ho:bf (iw i x)=true) (r:Rep ρ E w x u):OkP P ρ E w (Instr.extract u i) v:=by
 unfold oX at h;split at h
 ·rename_i vs;simp only[Rep]at r;obtain⟨xs,rfl,hr⟩:=r;obtain⟨u,hu,hv⟩:=hr.get h;have hu':xs[i]? = some u:=by rw[<- Array.getElem?_toList];exact hu
  exact⟨u,by simp[Instr.extract,hu'],hv⟩
 ·rename_i b x y;simp only[Rep]at r;rcases r with⟨hb,xs,u1,u2,rfl,hl,h1,h2⟩|⟨hb,rfl⟩
  ·have hx:∀j:Nat,xs[j]? = ([.bool true,u1,u2]:List Value)[j]? :=fun j=>by rw[<- Array.getElem?_toList,hl]
   split at h
   ·cases h;exact⟨.bool true,by simp[Instr.extract,hx],by simp only[Rep,hb]⟩
   ·cases h;exact⟨u1,by simp[Instr.extract,hx],h1⟩
   ·cases h;exact⟨u2,by simp[Instr.extract,hx],h2⟩
   ·cases h
  ·subst hb;split at h
   ·cases h;exact⟨.bool false,by simp[Instr.extract],by simp only[Rep]⟩
   ·simp[iw,bf]at ho
   ·simp[iw,bf]at ho
   ·cases h
 ·cases h
theorem Ci {T:TypeId} {f:Nat} {cs:List AV} {v:AV} {u:Value} (h:qP P T f cs=some v) (r:Rep ρ E w (.agg cs) u):OkP P ρ E w (Instr.field T u f) v:=by
 unfold qP at h;simp only[Rep]at r;obtain⟨xs,rfl,hr⟩:=r;split at h
 case h_2=>cases h
 case h_1 fs hu=>
  cases hf:fs[f]? with
  |none=>simp[hf]at h
  |some fd=>
   cases hs:sz P fd.type with
   |none=>simp[hf,hs]at h
   |some s=>
    simp only[hf,hs,bo]at h;split at h
    case h_3=>cases h
    case h_1 ha=>
     split at h
     ·rename_i hl;cases h;refine⟨.agg (xs.extract fd.offset (fd.offset+s)),?_,?_⟩
      ·simp[Instr.field,bz hu,hf,asAgg,part,fa ha,cL hs]
      ·simp only[Rep];refine⟨_,rfl,?_⟩
       have:=(hr.drop fd.offset).take s;simpa[Array.toList_extract,List.extract]using this
     ·cases h
    case h_2 ha=>
     obtain⟨u',hu',hv⟩:=hr.get h;refine⟨u',?_,hv⟩
     have e:xs[fd.offset]? = some u':=by simpa using hu'
     simp[Instr.field,bz hu,hf,asAgg,part,fa ha,e]
theorem VJ {T:TypeId} {f:Nat} {x v:AV} {u:Value} (h:wq P T f x=some v) (r:Rep ρ E w x u):OkP P ρ E w (Instr.field T u f) v:=by
 unfold wq at h;split at h
 ·exact Ci h r
 ·exact Ci h (pb r)
 ·cases h
theorem Ei {T:TypeId} {s:ByteArray} {k:IntKind} {n:Int} {v:AV} (h:(bif B3 P T then some (AV.ui .u8 (wm s n))else none)=some v) (ho:wn s n=true):OkP P ρ E w (Instr.index T (.string s) (.int k n)) v:=by
 cases hs:B3 P T with
 |false=>simp[hs]at h
 |true=>
  simp only[hs,ap,aQ]at h;subst h;unfold B3 at hs;split at hs
  ·rename_i hu;rw[Hg]at ho;simp only[Pn,bu,cn]at ho;have hlt:n.toNat<s.size:=by omega
   refine⟨.int .u8 (B1 s n),?_,by simp only[Rep,Hf]⟩
   have e1:s[n.toNat]? = some s[n.toNat]:=by simp[hlt]
   have e2:B1 s n=((s[n.toNat]).toNat:Int):=by
    simp only[B1,ByteArray.toList_eq];have hl:n.toNat<s.data.toList.length:=by simpa using hlt
    rw[List.getD,cq hl]
    rfl
   simp only[Instr.index,asIntOf,pure_bind,dz,bz hu,dP,if_pos ho.1,e1,fY,e2]
  ·cases hs
theorem VK {T:TypeId} {x ix v:AV} {u i:Value} (h:LC P T x ix=some v) (ho:bf (oW x ix)=true) (r:Rep ρ E w x u) (ri:Rep ρ E w ix i):OkP P ρ E w (Instr.index T u i) v:=by
 unfold LC at h;split at h
 case h_6=>cases h
 case h_1=>simp only[Rep]at r ri;subst r;subst ri;exact Ei h (bx ho _ (by simp[oW]))
 case h_2=>simp only[Rep]at r ri;subst r;subst ri;exact Ei h (bx ho _ (by simp[oW]))
 case h_3=>simp only[Rep]at r ri;subst r;subst ri;exact Ei h (bx ho _ (by simp[oW]))
 case h_4=>
  simp only[Rep]at r ri;subst r;subst ri;exact gD h
 case h_5 cs k n=>
  simp only[Rep]at r ri;subst ri;obtain⟨xs,rfl,hr⟩:=r;split at h
  case h_2=>cases h
  case h_1 len e hu=>
   cases hs:sz P e with
   |none=>simp[hs]at h
   |some s=>
    simp only[hs,bo]at h;split at h
    case isFalse=>cases h
    case isTrue hn=>
     split at h
     case h_3=>cases h
     case h_1 ha=>
      split at h
      ·cases h;refine⟨.agg (xs.extract (n.toNat*s) (n.toNat*s+s)),?_,?_⟩
       ·simp[Instr.index,asIntOf,bz hu,hn,part,fa ha,cL hs]
       ·simp only[Rep];refine⟨_,rfl,?_⟩
        have:=(hr.drop (n.toNat*s)).take s;simpa[Array.toList_extract,List.extract]using this
      ·cases h
     case h_2 ha=>
      obtain⟨u',hu',hv⟩:=hr.get h;refine⟨u',?_,hv⟩
      have e':xs[n.toNat*s]? = some u':=by simpa using hu'
      simp[Instr.index,asIntOf,bz hu,hn,part,fa ha,cL hs,e']
end
end Go.AM
