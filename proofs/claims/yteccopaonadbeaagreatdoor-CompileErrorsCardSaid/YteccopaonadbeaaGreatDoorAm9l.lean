/-
  Append, where a length is not known.
-/
import Derived.Test.YteccopaonadbeaaGreatDoorAm9x
set_option linter.unusedVariables false
set_option linter.unusedSimpArgs false
namespace Go.AM
set_option linter.unusedSimpArgs false
section
variable {P:Program} {lo:Nat→Prop} {w0:World} {ρ:Nat→Option Nat} {E:Nat→Prop} {H:Hp} {w:World}
theorem fieldCells_one {c:TypeId→D→List AV}:∀(fs:List Field) (d:D) (j:Nat),(∀f∈fs,∀d,(c f.type d).all one=true)→(fieldCells c d j fs).all one=true
 | [],_,_,_=>rfl
 |f::fs,d,j,h=>by
  simp only[fieldCells,List.all_append,Bool.and_eq_true]
  exact⟨h f List.mem_cons_self _,fieldCells_one fs d (j+1) fun g hg=>h g (List.mem_cons_of_mem _ hg)⟩
theorem arrCells_one {c:D→List AV} (h:∀d,(c d).all one=true):∀(m:Nat) (d:D) (j:Nat),(arrCells c d j m).all one=true
 |0,_,_=>rfl
 |m+1,d,j=>by
  simp only[arrCells,List.all_append,Bool.and_eq_true]
  exact⟨h _,arrCells_one h m d (j+1)⟩
theorem plain_one:∀(n:Nat) (T:TypeId) (d:D),plainT PG n T=true→(cellsT n T d).all one=true:=by
 intro n
 induction n with
 |zero=>intro T d h;simp[plainT]at h
 |succ n ih=>
  intro T d h
  simp only[plainT]at h
  simp only[cellsT]
  cases hu:PG.underlying T with
  |none=>rw[hu]at h;cases h
  |some td=>
   rw[hu]at h
   cases td<;>simp only at h ⊢ <;>first|rfl|(cases h;done)|skip
   case struct fs=>exact fieldCells_one _ _ _ fun f hf d=>ih _ _ (List.all_eq_true.1 h f hf)
   case array m e=>exact arrCells_one (fun d=>ih _ _ h) _ _ _
structure LRep (E:Nat→Prop) (w:World) (e:TypeId) (d:D) (vs:List Value):Prop where
 len:vs.length=d.toList.length*PG.cellsOf e
 el:∀i x,d.toList[i]? = some x→RepD PG E w e x ((vs.drop (i*PG.cellsOf e)).take (PG.cellsOf e))
theorem LRep.mono {ρ':Nat→Option Nat} {E':Nat→Prop} {w':World} (h:Ext ρ E w ρ' E' w') {e:TypeId} {d:D} {vs:List Value} (r:LRep E w e d vs):LRep E' w' e d vs:=
 ⟨r.len,fun i x hx=>(r.el i x hx).mono h⟩
theorem cut_take {α:Type} {c:List α} {i n z:Nat} (h:i<n):((c.take (n*z)).drop (i*z)).take z=(c.drop (i*z)).take z:=by
 have:(i+1)*z≤n*z:=Nat.mul_le_mul_right _ h
 rw[Nat.succ_mul]at this
 apply List.ext_getElem?
 intro j
 rw[cut_get,cut_get]
 by_cases hj:j<z
 ·rw[if_pos hj,if_pos hj,List.getElem?_take_of_lt (by omega)]
 ·rw[if_neg hj,if_neg hj]
theorem LRep.blk {e:TypeId} {d:D} {c:Array Value} {Ty:TypeId} {b:Nat} (hl:layOk PG rowDepth e=true) (hc:w.heap[b]? = some (.cells c Ty (0,0))) (hs:d.toList.length*PG.cellsOf e≤c.size) (r:LRep E w e d (c.toList.take (d.toList.length*PG.cellsOf e))):BlkRep ρ E w (.lst e d) b:=
 ⟨c,Ty,hc,hl,hs,fun i x hx=>by
  have hi:i<d.toList.length:=(List.getElem?_eq_some_iff.1 hx).1
  have:=r.el i x hx
  rwa [cut_take hi]at this⟩
theorem LRep.of {e:TypeId} {d:D} {b:Nat} (r:BlkRep ρ E w (.lst e d) b):∃c Ty,w.heap[b]? = some (.cells c Ty (0,0))∧layOk PG rowDepth e=true∧d.toList.length*PG.cellsOf e≤c.size∧LRep E w e d (c.toList.take (d.toList.length*PG.cellsOf e)):=by
 obtain⟨c,Ty,hc,hl,hs,hr⟩:=r
 refine⟨c,Ty,hc,hl,hs,by simp;omega,fun i x hx=> ?_⟩
 have hi:i<d.toList.length:=(List.getElem?_eq_some_iff.1 hx).1
 rw[cut_take hi]
 exact hr i x hx
theorem app_list (d d':D):(qapp d d').toList=d.toList++d'.toList:=by rw[qapp_eq];rfl
theorem LRep.app {e:TypeId} {d d':D} {vs vs':List Value} (r:LRep E w e d vs) (r':LRep E w e d' vs'):LRep E w e (qapp d d') (vs++vs'):=by
 refine⟨by rw[app_list,List.length_append,List.length_append,r.len,r'.len,Nat.add_mul],fun i x hx=> ?_⟩
 rw[app_list]at hx
 by_cases hi:i<d.toList.length
 ·rw[List.getElem?_append_left hi]at hx
  have:=r.el i x hx
  have hle:(i+1)*PG.cellsOf e≤d.toList.length*PG.cellsOf e:=Nat.mul_le_mul_right _ hi
  rw[Nat.succ_mul]at hle
  have e1:((vs++vs').drop (i*PG.cellsOf e)).take (PG.cellsOf e)=(vs.drop (i*PG.cellsOf e)).take (PG.cellsOf e):=by
   apply List.ext_getElem?
   intro j
   rw[cut_get,cut_get]
   by_cases hj:j<PG.cellsOf e
   ·rw[if_pos hj,if_pos hj,List.getElem?_append_left (by rw[r.len];omega)]
   ·rw[if_neg hj,if_neg hj]
  rw[e1];exact this
 ·rw[List.getElem?_append_right (by omega)]at hx
  have:=r'.el _ x hx
  have e1:((vs++vs').drop (i*PG.cellsOf e)).take (PG.cellsOf e)=(vs'.drop ((i-d.toList.length)*PG.cellsOf e)).take (PG.cellsOf e):=by
   apply List.ext_getElem?
   intro j
   have hle:d.toList.length*PG.cellsOf e≤i*PG.cellsOf e:=Nat.mul_le_mul_right _ (by omega)
   rw[cut_get,cut_get]
   by_cases hj:j<PG.cellsOf e
   ·rw[if_pos hj,if_pos hj,List.getElem?_append_right (by rw[r.len];omega),r.len,Nat.sub_mul]
    congr 1;omega
   ·rw[if_neg hj,if_neg hj]
  rw[e1];exact this
theorem LRep.ones {e:TypeId} {d:D} {vs:List Value} (hp:plainT PG rowDepth e=true) (hl:layOk PG rowDepth e=true) (r:LRep E w e d vs):∀v∈vs,v.oneCell'=true:=by
 intro v hv
 obtain⟨p,hp'⟩:=List.getElem?_of_mem hv
 have hlt:p<d.toList.length*PG.cellsOf e:=by rw[← r.len];exact(List.getElem?_eq_some_iff.1 hp').1
 have hz:0<PG.cellsOf e:=by
  rcases Nat.eq_zero_or_pos (PG.cellsOf e)with h|h
  ·rw[h]at hlt;simp at hlt
  ·exact h
 have hi:p/PG.cellsOf e<d.toList.length:=(Nat.div_lt_iff_lt_mul hz).2 hlt
 have hrd:=r.el _ _ (List.getElem?_eq_getElem hi)
 have hrl:=cellsT_rep (ρ:=nowhere) rowDepth e _ _ hl hrd
 refine RepL.ones (plain_one rowDepth e _ hp) hrl v ?_
 refine List.mem_of_getElem? (i:=p%PG.cellsOf e) ?_
 rw[cut_get,if_pos (Nat.mod_lt _ hz),Nat.mul_comm,Nat.div_add_mod]
 exact hp'
theorem flat_cut {z:Nat}:∀{rs:List (List Value)},(∀r∈rs,r.length=z)→rs.flatten.length=rs.length*z∧∀(i j:Nat) (u:Value),j<z→(rs.flatten[i*z+j]? = some u↔∃r,rs[i]? = some r∧r[j]? = some u)
 | [],_=>⟨by simp,fun i j u _=>by simp⟩
 |r::rs,h=>by
  obtain⟨h1,h2⟩:=flat_cut (rs:=rs) fun r hr=>h r (List.mem_cons_of_mem _ hr)
  have hr:=h r List.mem_cons_self
  refine⟨by simp only[List.flatten_cons,List.length_append,List.length_cons,h1,hr,Nat.succ_mul];omega,fun i j u hj=> ?_⟩
  cases i with
  |zero=>
   rw[List.flatten_cons,Nat.zero_mul,Nat.zero_add,List.getElem?_append_left (by omega)]
   simp
  |succ i=>
   rw[List.flatten_cons,Nat.succ_mul,List.getElem?_append_right (by omega),show i*z+z+j-r.length=i*z+j from by omega,h2 i j u hj]
   simp
def Src (E:Nat→Prop) (w:World) (e:TypeId) (src:D) (xu:Value):Prop:=
 ∃xa xcap vs,xu = .slice xa src.toList.length xcap∧LRep E w e src vs∧(src.toList = []∨∃b off,xa=some ⟨b,off,none⟩∧∀j v,vs[j]? = some v→w.cell? ⟨b,off+j,none⟩=some v)
theorem src_rows {e:TypeId} {d:D} {xu:Value} (hz:0<PG.cellsOf e) (r:RepSl PG E w e d xu):Src E w e d xu:=by
 obtain⟨a,cap,rfl,hcap,hr⟩:=r
 have hex:∀i,∃row:List Value,∀x,d.toList[i]? = some x→row.length=PG.cellsOf e∧RepD PG E w e x row∧∀b off,a=some ⟨b,off,none⟩→∀j u,row[j]? = some u→w.cell? ⟨b,off+i*PG.cellsOf e+j,none⟩=some u:=by
  intro i
  by_cases hi:i<d.toList.length
  ·rcases hr with hr|⟨b,off,ha,_,hr⟩
   ·rw[hr]at hi;simp at hi
   ·obtain⟨row,h1,h2,h3⟩:=hr i _ (List.getElem?_eq_getElem hi)
    refine⟨row,fun x hx=> ?_⟩
    rw[List.getElem?_eq_getElem hi]at hx
    cases hx
    refine⟨h1,h3,fun b' off' ha'=> ?_⟩
    rw[ha]at ha'
    simp only[Option.some.injEq,Addr.mk.injEq,and_true]at ha'
    obtain⟨rfl,rfl⟩:=ha'
    exact h2
  ·exact⟨[],fun x hx=>absurd (List.getElem?_eq_some_iff.1 hx).1 hi⟩
 let rs:=(List.range d.toList.length).map fun i=>(hex i).choose
 have hsp:∀i x,d.toList[i]? = some x→rs[i]? = some (hex i).choose:=fun i x hx=>by
  have hi:i<d.toList.length:=(List.getElem?_eq_some_iff.1 hx).1
  simp[rs,hi]
 have hall:∀r∈rs,r.length=PG.cellsOf e:=fun r hr=>by
  simp only[rs,List.mem_map,List.mem_range]at hr
  obtain⟨i,hi,rfl⟩:=hr
  exact((hex i).choose_spec _ (List.getElem?_eq_getElem hi)).1
 obtain⟨hl,hc⟩:=flat_cut hall
 have hrl:rs.length=d.toList.length:=by simp[rs]
 refine⟨a,cap,rs.flatten,rfl,⟨by rw[hl,hrl],fun i x hx=> ?_⟩,?_⟩
 ·have hrow:=(hex i).choose_spec x hx
  have e1:(rs.flatten.drop (i*PG.cellsOf e)).take (PG.cellsOf e)=(hex i).choose:=by
   apply List.ext_getElem?
   intro j
   rw[cut_get]
   by_cases hj:j<PG.cellsOf e
   ·rw[if_pos hj]
    apply Option.ext
    intro u
    rw[hc i j u hj,hsp i x hx]
    simp
   ·rw[if_neg hj,List.getElem?_eq_none (by rw[hrow.1];omega)]
  rw[e1];exact hrow.2.1
 ·rcases hr with hr|⟨b,off,ha,_,hr⟩
  ·exact .inl hr
  ·refine .inr ⟨b,off,ha,fun j v hv=> ?_⟩
   have hj:j<rs.flatten.length:=(List.getElem?_eq_some_iff.1 hv).1
   rw[hl,hrl]at hj
   have hi:j/PG.cellsOf e<d.toList.length:=(Nat.div_lt_iff_lt_mul hz).2 hj
   have hmod:=Nat.mod_lt j hz
   have hdm:j/PG.cellsOf e*PG.cellsOf e+j%PG.cellsOf e=j:=by rw[Nat.mul_comm];exact Nat.div_add_mod j _
   rw[← hdm]at hv
   obtain⟨row,h1,h2⟩:=(hc _ _ v hmod).1 hv
   have hx:=List.getElem?_eq_getElem hi
   rw[hsp _ _ hx]at h1
   cases h1
   have:=((hex (j/PG.cellsOf e)).choose_spec _ hx).2.2 b off ha _ v h2
   rw[Nat.add_assoc,hdm]at this
   exact this
theorem Src.mono {E1:Nat→Prop} (he:∀b,E b→E1 b) {e:TypeId} {src:D} {xu:Value} (h:Src E w e src xu):Src E1 w e src xu:=by
 obtain⟨xa,xcap,vs,h1,h2,h3⟩:=h
 exact⟨xa,xcap,vs,h1,h2.mono (ρ:=nowhere) (ρ':=nowhere) ⟨fun _ _ e=>e,he,fun _ _=>rfl,fun _ _ _ _ _ e=>(by cases e),Nat.le_refl _⟩,h3⟩
theorem srcD_rep (inv:Inv lo w0 ρ E H w) {E1:Nat→Prop} {e:TypeId} {x:AV} {src:D} {xu:Value} (hz:0<PG.cellsOf e) (h:srcD e H x=some src) (ho:allB (oslObl H x)=true) (ho2:allB ((srcCells e H x).map (expoObl H expoDepth)).flatten=true)
 (ht:Tin ρ H E1 (tchL H expoDepth (srcCells e H x))) (he:∀b,E b→E1 b) (r:Rep ρ E w x xu):Src E1 w e src xu:=by
 have other:∀(y:AV),Rep ρ E w y xu→allB ((match rowsOf (PG.cellsOf e) H y with|some p=>p.1|none=>[]).map (expoObl H expoDepth)).flatten=true→Tin ρ H E1 (tchL H expoDepth (match rowsOf (PG.cellsOf e) H y with|some p=>p.1|none=>[]))→
  ((rowsOf (PG.cellsOf e) H y).bind fun p=>(mapO (expo H expoDepth) p.1).bind fun cs=>(mapO (fun cs=>avD dDepth e (uncell e cs)) (chunks (PG.cellsOf e) p.2 cs)).map .list)=some src→Src E1 w e src xu:=by
  intro y ry hoy hty hy
  obtain⟨⟨cs0,n⟩,hro,hy⟩:=Option.bind_eq_some_iff.1 hy
  obtain⟨cs,hxp,hy⟩:=Option.bind_eq_some_iff.1 hy
  obtain⟨ys,hm,rfl⟩:=Option.map_eq_some_iff.1 hy
  obtain⟨xa,xcap,vs,rfl,hlen0,hrl0,hcells⟩:=rowsOf_rep inv hro ry
  rw[hro]at hoy hty
  have hrl:=expoL_rep inv hxp hoy hrl0 hty he
  have hlen:cs.length=n*PG.cellsOf e:=by rw[← mapO_len hxp];exact hlen0
  have hl:=mapO_len hm
  rw[chunks_len]at hl
  simp only at hl
  have hvl:vs.length=n*PG.cellsOf e:=by rw[← hrl.length,hlen]
  refine⟨xa,xcap,vs,by simp only[D.toList, ← hl],⟨by simp only[D.toList, ← hl];exact hvl,fun i x hx=> ?_⟩,?_⟩
  ·obtain⟨c,hc,hcx⟩:=mapO_some hm (show ys[i]? = some x from hx)
   have:=chunks_get _ _ _ _ hc
   subst this
   exact uncell_rep ((hrl.drop _).take _) hcx fun v hv=>avD_rep _ _ _ _ v _ hcx hv
  ·rcases hcells with rfl|⟨b,off,ha,hcs⟩
   ·left
    simp only[List.length_nil]at hvl
    have:n=0:=by
     rcases Nat.mul_eq_zero.1 hvl.symm with h|h
     ·exact h
     ·omega
    simp only[D.toList]
    exact List.length_eq_zero_iff.1 (by omega)
   ·exact .inr ⟨b,off,ha,hcs⟩
 unfold srcD at h
 split at h
 ·rename_i T d
  cases hb:Nat.beq T e with
  |false=>simp[hb]at h
  |true=>
   simp only[hb,cond_true,Option.some.injEq]at h
   subst h
   obtain rfl:=Nat.eq_of_beq_eq_true hb
   simp only[Rep]at r
   exact(src_rows hz r).mono he
 ·rename_i T d
  cases hb:Nat.beq T e with
  |false=>simp[hb]at h
  |true=>
   simp only[hb,cond_true,Option.some.injEq]at h
   subst h
   obtain rfl:=Nat.eq_of_beq_eq_true hb
   simp only[Rep]at r
   exact(src_rows hz r.1).mono he
 ·rename_i j T m
  obtain⟨⟨T',d⟩,hg,h⟩:=Option.bind_eq_some_iff.1 h
  cases hb:Nat.beq T' e with
  |false=>simp[hb]at h
  |true=>
   simp only[hb,cond_true,Option.some.injEq]at h
   subst h
   obtain rfl:=Nat.eq_of_beq_eq_true hb
   simp only[oslObl,hg]at ho
   have hm:qcmp .eql m (qlen d)=true:=allB_mem ho _ (by simp)
   rw[qcmp_eq,qlen_eq]at hm
   simp only[rcmp,D.len,beq_iff_eq]at hm
   simp only[Rep]at r
   obtain⟨h0,a,cap,rfl,hcap,hr⟩:=r
   rcases hr with⟨hm0,hc0⟩|⟨b,hρ,rfl,_⟩
   ·have hnil:d.toList = []:=List.length_eq_zero_iff.1 (by omega)
    refine Src.mono he ⟨a,cap,[],by rw[show m.toNat=d.toList.length by omega],⟨by rw[hnil];simp,fun i x hx=>by rw[hnil]at hx;simp at hx⟩, .inl hnil⟩
   ·obtain⟨c,Ty,hc,hl,hs,hlr⟩:=LRep.of (inv.blk j _ b (getL_get hg) hρ)
    refine Src.mono he ⟨_,cap,_,by rw[show m.toNat=d.toList.length by omega],hlr, .inr ⟨b,0,rfl,fun p v hv=> ?_⟩⟩
    rw[List.getElem?_take]at hv
    split at hv
    ·simp only[World.cell?,hc,Nat.zero_add];simpa using hv
    ·cases hv
 ·rename_i hn1 hn2 hn3
  have hsc:srcCells e H x=(match rowsOf (PG.cellsOf e) H x with|some p=>p.1|none=>[]):=by
   unfold srcCells
   split
   ·exact absurd rfl (hn1 _ _)
   ·exact absurd rfl (hn2 _ _)
   ·exact absurd rfl (hn3 _ _ _)
   ·rfl
  rw[hsc]at ho2 ht
  exact other _ r ho2 ht h
theorem own_rename {i b:Nat} {k k':Blk} (inv:Inv lo w0 ρ E H w) (hk:H.get i=some k) (hρ:ρ i=some b) (hnew:∀ρ',Ext ρ E w ρ' E w→BlkRep ρ' E w k' b):
 Inv lo w0 (upd ρ H.n b) E ((H.put i none).push k') w∧Ext ρ E w (upd ρ H.n b) E w:=by
 have hi':=Hp.get_lt hk
 have inv2:=inv.drop i hi'
 have hdead:(H.put i none).get i=none:=Hp.get_put_eq _ hi' inv.len
 have hcase:∀j b',upd ρ H.n b j=some b'→(j=H.n∧b'=b)∨(j<H.n∧ρ j=some b'):=fun j b' hb'=>by
  simp only[upd]at hb'
  split at hb'
  ·rename_i hj;exact .inl ⟨hj,by simpa using hb'.symm⟩
  ·exact .inr ⟨inv.dom j b' hb',hb'⟩
 have hmap:∀j b',ρ j=some b'→upd ρ H.n b j=some b':=fun j b' hb'=>by
  have:=inv.dom j b' hb'
  simp only[upd];rw[if_neg (by omega)];exact hb'
 have ext2:Ext ρ E w (upd ρ H.n b) E w:=⟨hmap,fun _ h=>h,fun _ _=>rfl,fun _ _ c _ _ _ h=>⟨c,h,rfl⟩,Nat.le_refl _⟩
 have hother:∀j k b',(H.put i none).get j=some k→ρ j=some b'→b'≠b:=fun j k b' hk1 hb' e'=>by
  have hji:i≠j:=fun e2=>by subst e2;rw[hdead]at hk1;cases hk1
  rw[Hp.get_put_ne _ hji hi']at hk1
  exact hji (inv.inj i j _ _ b hk hk1 hρ (e'▸hb'))
 refine⟨?_,ext2⟩
 exact{gl:=gl_mono rfl ext2 inv.gl,len:=Hp.push_len _ (Hp.put_len _ _ inv.len),
       dom:=fun j b' hb'=>by
        show j<H.n+1
        rcases hcase j b' hb' with⟨h,_⟩|⟨h,_⟩<;>omega
       blk:=fun j k1 b' hk1 hb'=>by
        rcases hcase j b' hb' with⟨rfl,rfl⟩|⟨hj,hb''⟩
        ·rw[show H.n=(H.put i none).n from rfl,Hp.get_push_eq]at hk1
         cases hk1
         exact hnew _ ext2
        ·rw[Hp.get_push_lt (H:=H.put i none) _ hj]at hk1
         exact(inv2.blk j k1 b' hk1 hb'').mono ext2 rfl
       inj:=fun j j' k1 k2 b' hk1 hk2 hb1 hb2=>by
        rcases hcase j b' hb1 with⟨rfl,rfl⟩|⟨hj,hb1'⟩<;>rcases hcase j' _ hb2 with⟨rfl,e2⟩|⟨hj',hb2'⟩
        ·rfl
        ·rw[Hp.get_push_lt (H:=H.put i none) _ hj']at hk2
         exact(hother j' k2 _ hk2 hb2' rfl).elim
        ·rw[Hp.get_push_lt (H:=H.put i none) _ hj]at hk1
         exact(hother j k1 _ hk1 hb1' e2).elim
        ·rw[Hp.get_push_lt (H:=H.put i none) _ hj]at hk1
         rw[Hp.get_push_lt (H:=H.put i none) _ hj']at hk2
         exact inv2.inj j j' k1 k2 b' hk1 hk2 hb1' hb2'
       notE:=fun j k1 b' hk1 hb1=>by
        rcases hcase j b' hb1 with⟨rfl,rfl⟩|⟨hj,hb1'⟩
        ·exact inv.notE i _ b' hk hρ
        ·rw[Hp.get_push_lt (H:=H.put i none) _ hj]at hk1
         exact inv2.notE j k1 b' hk1 hb1'
       bd:=fun j b' hb'=>by
        rcases hcase j b' hb' with⟨rfl,rfl⟩|⟨hj,hb''⟩
        ·exact inv.bd i b' hρ
        ·exact inv.bd j b' hb''
       ebd:=inv.ebd,lole:=inv.lole,old:=inv.old,io:=inv.io}
theorem Inv.ghost (inv:Inv lo w0 ρ E H w) (k:Blk):Inv lo w0 ρ E (H.push k) w:=by
 have hlt:∀j b,ρ j=some b→j<H.n:=inv.dom
 exact{gl:=inv.gl,len:=Hp.push_len _ inv.len,dom:=fun j b hb=>Nat.lt_succ_of_lt (hlt j b hb),
       blk:=fun j k1 b hk hb=>inv.blk j k1 b (by rw[Hp.get_push_lt _ (hlt j b hb)]at hk;exact hk) hb,
       inj:=fun j j' k1 k2 b hk1 hk2 hb1 hb2=>inv.inj j j' k1 k2 b (by rw[Hp.get_push_lt _ (hlt j b hb1)]at hk1;exact hk1) (by rw[Hp.get_push_lt _ (hlt j' b hb2)]at hk2;exact hk2) hb1 hb2,
       notE:=fun j k1 b hk hb=>inv.notE j k1 b (by rw[Hp.get_push_lt _ (hlt j b hb)]at hk;exact hk) hb,
       bd:=inv.bd,ebd:=inv.ebd,lole:=inv.lole,old:=inv.old,io:=inv.io}
theorem own_append (inv:Inv lo w0 ρ E H w) {T ty e:TypeId} {info:TypeInfo} {zv:Value} (hu:P.underlying T=some (.slice e)) (hi:P.info? e=some info) (hz0:info.zero=some zv) (hzsz:zv.cells.size=info.size)
 {i b len cap n xcap:Nat} {k k':Blk} (hk:H.get i=some k) (hρ:ρ i=some b) {c:Array Value} {T':TypeId} (hcell:w.heap[b]? = some (.cells c T' (0,0))) (hcap:len≤cap) (hfit0:cap*info.size≤c.size)
 {xb xoff:Nat} {vs:List Value} (hvl:vs.length=n*info.size) (hcs:∀j v,vs[j]? = some v→w.cell? ⟨xb,xoff+j,none⟩=some v) (h1:∀u∈vs,u.oneCell'=true) (hn:n≠0)
 (hb1:(len+n)*info.bytes≤140737488355328) (hb2:len+n≤4611686018427387904)
 (hnew:∀ρ' E' w' c' Ty b',Ext ρ E w ρ' E' w'→w'.heap[b']? = some (.cells c' Ty (0,0))→(len+n)*info.size≤c'.size→c'.toList.take ((len+n)*info.size)=c.toList.take (len*info.size)++vs→BlkRep ρ' E' w' k' b'):
 ∃u w' ρ',(Builtin.append_ #[T,T] ty #[.slice (some ⟨b,0,none⟩) len cap, .slice (some ⟨xb,xoff,none⟩) n xcap]).run P w = .ok u w'∧Inv lo w0 ρ' E ((H.put i none).push k') w'∧Ext ρ E w ρ' E w'∧
  ∃b' cap',ρ' H.n=some b'∧u = .slice (some ⟨b',0,none⟩) (len+n) cap'∧len+n≤cap'∧∃c T f,w'.heap[b']? = some (.cells c T f)∧cap'*info.size≤c.size:=by
 have hll:len*info.size≤cap*info.size:=Nat.mul_le_mul_right _ hcap
 by_cases hroom:len+n≤cap
 ·have hfit:len*info.size+vs.length≤c.size:=by
   have:(len+n)*info.size≤cap*info.size:=Nat.mul_le_mul_right _ hroom
   rw[Nat.add_mul]at this
   omega
  have hr:=run_append_room' (P:=P) T ty e info hu hi b len cap c T' hcell ⟨xb,xoff,none⟩ n xcap vs hvl (fun j v hv=>by rw[Addr.add_none];exact hcs j v hv) h1 hroom hfit
  generalize hc':(c.toList.take (len*info.size)++vs++c.toList.drop (len*info.size+vs.length)).toArray=c' at hr
  have hc's:c'.size=c.size:=by
   rw[← hc']
   simp only[List.size_toArray,List.length_append,List.length_take,List.length_drop,Array.length_toList];omega
  have hrow:(w.setRow b c').heap[b]? = some (.cells c' T' (0,0)):=setRow_heap w b c _ T' _ hcell
  have htake:c'.toList.take ((len+n)*info.size)=c.toList.take (len*info.size)++vs:=by
   rw[← hc',Nat.add_mul, ← hvl]
   have l1:(c.toList.take (len*info.size)).length=len*info.size:=by simp;omega
   rw[List.take_append_of_le_length (by simp;omega),List.take_of_length_le (by simp;omega)]
  obtain⟨inv1,ext1⟩:=inv.change (w':=w.setRow b c') i b _ k' hk hρ (fun j hj=>setRow_other w b j _ hj) (by simp)
   (fun c1 T1 f1 h1'=>by rw[hcell]at h1';cases h1';exact⟨c',hrow,hc's⟩)
   (fun ext=>hnew ρ _ _ c' T' b ext hrow (by rw[hc's,Nat.add_mul];omega) htake)
  have hi':=Hp.get_lt hk
  obtain⟨inv2,ext2⟩:=own_rename (k':=k') inv1 (Hp.get_put_eq _ hi' inv.len) hρ (fun ρ' ext=>hnew ρ' _ _ c' T' b (ext1.trans ext) hrow (by rw[hc's,Nat.add_mul];omega) htake)
  have hput:((H.put i (some k')).put i none)=H.put i none:=by simp[Hp.put]
  rw[hput]at inv2
  exact⟨_,_,_,hr,inv2,ext1.trans ext2,b,cap,upd_self _ _ _,rfl,hroom,c',T',(0,0),hrow,by omega⟩
 ·have hlen:(c.toList.take (len*info.size)).length=len*info.size:=by simp;omega
  have holds:∀j u,(c.toList.take (len*info.size))[j]? = some u→w.cell? ((⟨b,0,none⟩:Addr).add j)=some u:=fun j u hu'=>by
   rw[List.getElem?_take]at hu'
   split at hu'
   ·rw[Addr.add_none];simpa[World.cell?,hcell]using hu'
   ·cases hu'
  have hr:=run_append_grow (P:=P) w T ty e info zv hu hi hz0 ⟨b,0,none⟩ len cap (c.toList.take (len*info.size)) hlen holds ⟨xb,xoff,none⟩ n xcap vs hvl
   (fun j v hv=>by rw[Addr.add_none];exact hcs j v hv) (by omega) (by omega) (growslice_fits (by omega) hb1)
  have hge:=grownCap_ge w (len+n) cap e
  have hsz:((c.toList.take (len*info.size)).toArray++vs.toArray++Builtin.zeroCells zv.cells (grownCap w (len+n) cap e-(len+n))).size=grownCap w (len+n) cap e*info.size:=by
   simp only[Array.size_append,List.size_toArray,size_zc,hzsz,hvl,hlen, ← Nat.add_mul];congr 1;omega
  have inv1:=inv.drop i (Hp.get_lt hk)
  obtain⟨inv',ext⟩:=inv1.push (w':=w.drew.alloc (.cells ((c.toList.take (len*info.size)).toArray++vs.toArray++Builtin.zeroCells zv.cells (grownCap w (len+n) cap e-(len+n))) e)) rfl ⟨rfl,rfl,rfl⟩ k'
   (fun ρ' E' w' ext hb=>by
    refine hnew ρ' E' w' _ e _ ext hb (by rw[hsz];exact Nat.mul_le_mul_right _ hge) ?_
    simp only[Array.toList_append]
    rw[List.take_append_of_le_length (by simp[Nat.add_mul];omega),List.take_of_length_le (by simp[Nat.add_mul];omega)])
  refine⟨_,_,_,hr,inv',ext,_,_,upd_self _ _ _,rfl,hge,_,e,(0,0),heap_alloc_new w.drew _,by rw[hsz];omega⟩
theorem mem_ok {d:D} {z:Nat} (h:qmem (qlen d) z=true):d.toList.length*z≤140737488355328∧d.toList.length≤4611686018427387904:=by
 rw[qmem_eq,qlen_eq]at h
 unfold rmem D.len at h
 rw[Bool.and_eq_true,Bool.and_eq_true,decide_eq_true_eq,decide_eq_true_eq,decide_eq_true_eq]at h
 obtain⟨_,h1,h2⟩:=h
 have h3:((d.toList.length*z:Nat):Int)≤140737488355328:=by rw[Int.natCast_mul];exact h1
 exact⟨by omega,by omega⟩
theorem osl_rep {i n cap:Nat} {e:TypeId} {d:D} {a:Option Addr} (hn:d.toList.length=n) (hcap:n≤cap) (h:(n=0∧cap=0)∨∃b,ρ i=some b∧a=some ⟨b,0,none⟩∧∃c T' f,w.heap[b]? = some (.cells c T' f)∧cap*PG.cellsOf e≤c.size):Rep ρ E w (.osl i e (qlen d)) (.slice a n cap):=by
 simp only[Rep]
 have hq:qlen d=(n:Int):=by rw[qlen_eq];unfold D.len;rw[hn]
 rw[hq,Int.toNat_natCast]
 refine⟨by omega,a,cap,rfl,hcap,?_⟩
 rcases h with⟨rfl,h⟩|h
 ·exact .inl ⟨rfl,h⟩
 ·exact .inr h
theorem take_app {α:Type} {xs:List α} {zs:Array α} {n:Nat} (h:xs.length=n):(xs.toArray++zs).toList.take n=xs:=by
 rw[Array.toList_append, ← h];exact List.take_left
theorem blt_pos {n:Nat} (h:Nat.blt 0 n=true):0<n:=by rw[Nat.blt_eq]at h;exact h
def OkE (P:Program) (lo:Nat→Prop) (w0:World) (ρ:Nat→Option Nat) (E:Nat→Prop) (w:World) (s:Sem Value) (v:AV) (H':Hp):Prop:=
 ∃u w' ρ' E',s.run P w = .ok u w'∧Inv lo w0 ρ' E' H' w'∧Ext ρ E w ρ' E' w'∧(∀b,E' b→E b∨¬lo b)∧Rep ρ' E' w' v u
theorem OkH.toE {s:Sem Value} {v:AV} {H':Hp} (h:OkH P lo w0 ρ E w s v H'):OkE P lo w0 ρ E w s v H':=by
 obtain⟨u,w',ρ',hr,inv',ext,rep⟩:=h
 exact⟨u,w',ρ',E,hr,inv',ext,fun _ h=> .inl h,rep⟩
theorem ok_appendL (inv:Inv lo w0 ρ E H w) {T ty:TypeId} {s x v:AV} {su xu:Value} {H':Hp} (h:appendL P T s x H=some (v,H')) (ho1:allB (oslObl H s)=true) (ho2:allB (oslObl H x)=true) (ho3:∀e,P.underlying T=some (.slice e)→allB ((srcCells e H x++srcCells e H s).map (expoObl H expoDepth)).flatten=true)
 (hmem:∀i e m info,v = .osl i e m→P.info? e=some info→qmem m info.bytes=true) (rs:Rep ρ E w s su) (rx:Rep ρ E w x xu):
 OkE P lo w0 ρ E w (Builtin.append_ #[T,T] ty #[su,xu]) v H':=by
 unfold appendL at h
 split at h
 case h_2=>cases h
 case h_1 e hu=>
  cases hi:P.info? e with
  |none=>simp[hi]at h
  |some info=>
   cases hz:zeroA P e with
   |none=>simp[hi,hz]at h
   |some z=>
    obtain⟨i0,zv,hi0,hz0,hrun,hrep⟩:=zeroA_rep hz
    rw[hi]at hi0;cases hi0
    cases hc:cellsOf z with
    |none=>simp[hi,hz,hc]at h
    |some zs=>
     simp only[hi,hz,hc,Option.bind_some]at h
     have hzr:=cellsOf_rep hc (hrep ρ E w)
     cases hcond:(Nat.beq info.size (PG.cellsOf e)&&Nat.blt 0 info.size&&Nat.beq zs.length info.size&&layOk PG rowDepth e&&plainT PG rowDepth e)with
     |false=>simp[hcond]at h
     |true=>
      simp only[hcond,cond_true]at h
      simp only[Bool.and_eq_true]at hcond
      obtain⟨⟨⟨⟨hsz,hpos⟩,hzl⟩,hlay⟩,hplain⟩:=hcond
      have hsz:=Nat.eq_of_beq_eq_true hsz
      have hpos:=blt_pos hpos
      have hzl:=Nat.eq_of_beq_eq_true hzl
      have hzsz:zv.cells.size=info.size:=by rw[← Array.length_toList, ← hzr.length,hzl]
      obtain⟨src,hsrc,h'⟩:=Option.bind_eq_some_iff.1 h
      clear h
      have h:=h'
      clear h'
      have ho3:=ho3 e hu
      rw[List.map_append,List.flatten_append]at ho3
      obtain⟨hox,hos⟩:=allB_both ho3
      generalize hts:tchL H expoDepth (srcCells e H x++srcCells e H s)=ts at h
      obtain⟨inv1,hE1⟩:=inv.freeze ts
      have hta:ts=tchL H expoDepth (srcCells e H x)++tchL H expoDepth (srcCells e H s):=by rw[← hts,tchL,List.map_append,List.flatten_append];rfl
      have htall:Tin ρ H (Efz ρ E H ts) (tchL H expoDepth (srcCells e H x)++tchL H expoDepth (srcCells e H s)):=by rw[← hta];exact Efz.tin
      have htx:=htall.left
      have hts':=htall.right
      obtain⟨xa,xcap,vs,rfl,hlr,hloc⟩:=srcD_rep inv (by omega) hsrc ho2 hox htx (fun _ h=> .inl h) rx
      have hsrcS:∀d,srcD e H s=some d→Src (Efz ρ E H ts) w e d su:=fun d hd=>srcD_rep inv (by omega) hd ho1 hos hts' (fun _ h=> .inl h) rs
      replace rs:Rep ρ (Efz ρ E H ts) w s su:=Rep.mono Efz.ext _ _ rs
      suffices hmain:OkH P lo w0 ρ (Efz ρ E H ts) w (Builtin.append_ #[T,T] ty #[su, .slice xa src.toList.length xcap]) v H' by
       obtain⟨u,w',ρ',hr,inv',ext,rep⟩:=hmain
       exact⟨u,w',ρ',_,hr,inv',Efz.ext.trans ext,hE1,rep⟩
      have hgetL:∀i q,getL (kill ts H) i=some q→getL H i=some q:=by
       intro i q hq
       have:=(kill_get ts inv.len (getL_get hq)).1
       simp only[getL,this]
      clear hsrc htx hts' htall hta hts rx hE1 ho2 hox hos ho3
      obtain⟨E',hE'⟩:∃E',E'=Efz ρ E H ts:=⟨_,rfl⟩
      rw[← hE']at inv1 hlr hsrcS rs ⊢
      clear hE'
      have hones:=hlr.ones hplain hlay
      have hvl:vs.length=src.toList.length*info.size:=by rw[hlr.len,hsz]
      generalize hd0:srcD e H s=d0 at h
      rw[hd0]at hsrcS
      have memOk:∀i d,v = .osl i e (qlen d)→d.toList.length*info.bytes≤140737488355328∧d.toList.length≤4611686018427387904:=by
       intro i d hv
       exact mem_ok (hmem i e _ info hv hi)
      have fresh:∀(a:Option Addr) (H1:Hp) (d':D),d'.toList=src.toList→Inv lo w0 ρ E' H1 w→v = .osl H1.n e (qlen d')→H'=H1.push (.lst e d')→su = .slice a 0 0→OkH P lo w0 ρ E' w (Builtin.append_ #[T,T] ty #[su, .slice xa src.toList.length xcap]) v H':=by
       intro a H1 d' hd' inv1 hv hH hsu
       have hlr':LRep E' w e d' vs:=⟨by rw[hd'];exact hlr.len,fun i x hx=>hlr.el i x (by rw[← hd'];exact hx)⟩
       subst hsu
       obtain⟨m1,m2⟩:=memOk _ d' hv
       rw[hd']at m1 m2
       subst hv hH
       by_cases hn:src.toList.length=0
       ·rw[hn]
        refine⟨_,w,ρ,run_append_none T ty e info hu hi a xa 0 0 xcap (Nat.le_refl _),inv1.ghost _,Ext.refl,?_⟩
        exact osl_rep (by rw[hd',hn]) (Nat.le_refl _) (.inl ⟨rfl,rfl⟩)
       ·rcases hloc with hnil|⟨xb,xoff,rfl,hcs⟩
        ·rw[hnil]at hn;simp at hn
        ·have hge:=grownCap_ge w src.toList.length 0 e
         have hblk:∀(ob:Array Value),ob.toList.take (src.toList.length*info.size)=vs→src.toList.length*info.size≤ob.size→∀ρ' E2 w',Ext ρ E' w ρ' E2 w'→w'.heap[w.heap.size]? = some (.cells ob e (0,0))→BlkRep ρ' E2 w' (.lst e d') w.heap.size:=by
          intro ob h1 h2 ρ' E2 w' ext hb
          refine LRep.blk hlay hb (by rw[hd', ← hsz];exact h2) ?_
          rw[hd', ← hsz,h1];exact hlr'.mono ext
         cases a with
         |none=>
          have hr:=run_append_nil (P:=P) w T ty e info zv hu hi hz0 ⟨xb,xoff,none⟩ src.toList.length xcap vs hvl (fun j v hv=>by rw[Addr.add_none];exact hcs j v hv) (by omega) (by omega) (by omega)
          have hs:(vs.toArray++Builtin.zeroCells zv.cells (grownCap w src.toList.length 0 e-src.toList.length)).size=grownCap w src.toList.length 0 e*info.size:=by
           simp only[Array.size_append,List.size_toArray,size_zc,hzsz,hvl, ← Nat.add_mul];congr 1;omega
          obtain⟨inv',ext⟩:=inv1.push (w':=w.drew.alloc (.cells (vs.toArray++Builtin.zeroCells zv.cells (grownCap w src.toList.length 0 e-src.toList.length)) e)) rfl ⟨rfl,rfl,rfl⟩ (.lst e d')
           (hblk _ (take_app hvl) (by rw[hs];exact Nat.mul_le_mul_right _ hge))
          refine⟨_,_,_,hr,inv',ext,?_⟩
          exact osl_rep (by rw[hd']) hge (.inr ⟨_,upd_self _ _ _,rfl,_,e,(0,0),heap_alloc_new w.drew _,by rw[hs,hsz];exact Nat.le_refl _⟩)
         |some a0=>
          have hr:=run_append_grow (P:=P) w T ty e info zv hu hi hz0 a0 0 0 [] (by simp) (fun j v hv=>by simp at hv) ⟨xb,xoff,none⟩ src.toList.length xcap vs hvl
           (fun j v hv=>by rw[Addr.add_none];exact hcs j v hv) (by omega) (by omega) (growslice_fits (by omega) (by rw[Nat.zero_add];exact m1))
          simp only[Nat.zero_add]at hr
          have hs:(([]:List Value).toArray++vs.toArray++Builtin.zeroCells zv.cells (grownCap w src.toList.length 0 e-src.toList.length)).size=grownCap w src.toList.length 0 e*info.size:=by
           simp only[Array.size_append,List.size_toArray,List.length_nil,size_zc,hzsz,hvl,Nat.zero_add, ← Nat.add_mul];congr 1;omega
          obtain⟨inv',ext⟩:=inv1.push (w':=w.drew.alloc (.cells (([]:List Value).toArray++vs.toArray++Builtin.zeroCells zv.cells (grownCap w src.toList.length 0 e-src.toList.length)) e)) rfl ⟨rfl,rfl,rfl⟩ (.lst e d')
           (hblk _ (by rw[show(([]:List Value).toArray++vs.toArray)=vs.toArray by simp];exact take_app hvl) (by rw[hs];exact Nat.mul_le_mul_right _ hge))
          refine⟨_,_,_,hr,inv',ext,?_⟩
          exact osl_rep (by rw[hd']) hge (.inr ⟨_,upd_self _ _ _,rfl,_,e,(0,0),heap_alloc_new w.drew _,by rw[hs,hsz];exact Nat.le_refl _⟩)
      have onto:∀(i b len cap:Nat) (k:Blk) (c:Array Value) (T':TypeId) (d:D),(kill ts H).get i=some k→ρ i=some b→w.heap[b]? = some (.cells c T' (0,0))→len≤cap→cap*info.size≤c.size→d.toList.length=len+src.toList.length→LRep E' w e d (c.toList.take (len*info.size)++vs)→
       v = .osl (kill ts H).n e (qlen d)→H'=((kill ts H).put i none).push (.lst e d)→su = .slice (some ⟨b,0,none⟩) len cap→OkH P lo w0 ρ E' w (Builtin.append_ #[T,T] ty #[su, .slice xa src.toList.length xcap]) v H':=by
       intro i b len cap k c T' d hk hρ hcell hcap hfit hdl hld hv hH hsu
       subst hsu
       obtain⟨m1,m2⟩:=memOk _ d hv
       subst hv hH
       have hcl:len*info.size≤cap*info.size:=Nat.mul_le_mul_right _ hcap
       by_cases hn:src.toList.length=0
       ·have hvs:vs = []:=List.length_eq_zero_iff.1 (by rw[hvl,hn];simp)
        subst hvs
        rw[hn]
        rw[List.append_nil]at hld
        obtain⟨inv',ext⟩:=own_rename (k':= .lst e d) inv1 hk hρ (fun ρ' ext=>LRep.blk (E:=E') hlay hcell (by rw[hdl,hn,Nat.add_zero, ← hsz];omega) (by rw[hdl,hn,Nat.add_zero, ← hsz];exact hld))
        refine⟨_,w,_,run_append_none T ty e info hu hi _ xa len cap xcap hcap,inv',ext,?_⟩
        exact osl_rep (by omega) hcap (.inr ⟨b,upd_self _ _ _,rfl,c,T',(0,0),hcell,by rw[← hsz];exact hfit⟩)
       ·rcases hloc with hnil|⟨xb,xoff,rfl,hcs⟩
        ·rw[hnil]at hn;simp at hn
        ·obtain⟨u,w',ρ',hr,inv',ext,b',cap',hρ',rfl,hcap',c',Ty,f,hc',hfit'⟩:=own_append (k':= .lst e d) (ty:=ty) (xcap:=xcap) inv1 hu hi hz0 hzsz hk hρ hcell hcap hfit hvl hcs hones hn (by rw[← hdl];exact m1) (by rw[← hdl];exact m2)
          (fun ρ' E2 w' c' Ty b' ext hb hs ht=>LRep.blk hlay hb (by rw[hdl, ← hsz];exact hs) (by rw[hdl, ← hsz,ht];exact hld.mono ext))
         refine⟨_,w',ρ',hr,inv',ext,?_⟩
         exact osl_rep hdl hcap' (.inr ⟨b',hρ',rfl,c',Ty,f,hc',by rw[← hsz];exact hfit'⟩)
      unfold appendL1 at h
      split at h
      case h_1=>
       simp only[Rep]at rs
       simp only[Option.some.injEq,Prod.mk.injEq]at h
       exact fresh none (kill ts H) src rfl inv1 h.1.symm h.2.symm rs
      case h_2=>
       simp only[Rep]at rs
       obtain⟨a,hsu⟩:=rs
       simp only[Option.some.injEq,Prod.mk.injEq]at h
       exact fresh a (kill ts H) src rfl inv1 h.1.symm h.2.symm hsu
      case h_3 i z' off len=>
       cases hb:(Nat.beq off 0&&Nat.beq z' (PG.cellsOf e))with
       |false=>simp[hb]at h
       |true=>
        simp only[hb,cond_true]at h
        simp only[Bool.and_eq_true]at hb
        obtain rfl:off=0:=Nat.eq_of_beq_eq_true hb.1
        obtain rfl:z'=PG.cellsOf e:=Nat.eq_of_beq_eq_true hb.2
        obtain⟨d,rfl,h2⟩:=Option.bind_eq_some_iff.1 h
        obtain⟨cs,hg,h3⟩:=Option.bind_eq_some_iff.1 h2
        clear h h2
        simp only[Option.some.injEq,Prod.mk.injEq]at h3
        obtain⟨sa,scap,svs,hsu,hslr,hsloc⟩:=hsrcS d rfl
        simp only[Rep]at rs
        obtain⟨b,cap,hρ,hsu2,hcap,c0,T0,f0,hc0,hfit0⟩:=rs
        rw[hsu2]at hsu
        simp only[Value.slice.injEq]at hsu
        obtain⟨hsa,hdl,rfl⟩:=hsu
        obtain⟨c9,T9,hcell,hlc,hrc⟩:=inv1.cells hg hρ
        rw[hcell]at hc0
        cases hc0
        have hle:len*PG.cellsOf e≤cap*PG.cellsOf e:=Nat.mul_le_mul_right _ hcap
        have hsvl:svs.length=len*PG.cellsOf e:=by rw[hslr.len, ← hdl]
        have hsv:c0.toList.take (len*info.size)=svs:=by
         rw[hsz]
         apply List.ext_getElem?
         intro j
         by_cases hj:j<len*PG.cellsOf e
         ·rw[List.getElem?_take_of_lt hj]
          rcases hsloc with hnil|⟨b2,off2,e2,hcs⟩
          ·rw[hnil]at hdl;simp at hdl;subst hdl;simp at hj
          ·rw[← hsa]at e2
           simp only[Option.some.injEq,Addr.mk.injEq,and_true]at e2
           obtain⟨rfl,rfl⟩:=e2
           have hjs:j<svs.length:=by omega
           have:=hcs j _ (List.getElem?_eq_getElem hjs)
           simp only[World.cell?,hcell,Nat.zero_add]at this
           rw[List.getElem?_eq_getElem hjs, ← this]
           simp
         ·rw[List.getElem?_eq_none (by simp;omega),List.getElem?_eq_none (by omega)]
        refine onto i b len cap _ _ _ (qapp d src) (getB_get hg).choose_spec.1 hρ hcell hcap (by rw[hsz];omega) (by rw[app_list,List.length_append,hdl]) ?_ h3.1.symm h3.2.symm hsu2
        rw[hsv]
        exact hslr.app hlr
      case h_4 i T1 m=>
       obtain⟨⟨T2,d⟩,hg,h'⟩:=Option.bind_eq_some_iff.1 h
       clear h
       have h:=h'
       clear h'
       cases hb:(Nat.beq T1 e&&Nat.beq T2 e)with
       |false=>simp[hb]at h
       |true=>
        simp only[hb,cond_true,Option.some.injEq,Prod.mk.injEq]at h
        simp only[Bool.and_eq_true]at hb
        obtain rfl:T1=e:=Nat.eq_of_beq_eq_true hb.1
        obtain rfl:T2=T1:=Nat.eq_of_beq_eq_true hb.2
        simp only[oslObl,hgetL i _ hg]at ho1
        have hm:qcmp .eql m (qlen d)=true:=allB_mem ho1 _ (by simp)
        rw[qcmp_eq,qlen_eq]at hm
        simp only[rcmp,D.len,beq_iff_eq]at hm
        simp only[Rep]at rs
        obtain⟨h0,a,cap,hsu,hcap,hr⟩:=rs
        have hmn:m.toNat=d.toList.length:=by rw[hm];exact Int.toNat_natCast _
        rw[hmn]at hsu hcap
        rcases hr with⟨hm0,hc0⟩|⟨b,hρ,rfl,c,T',f,hcc,hfit⟩
        ·have hnil:d.toList = []:=List.length_eq_zero_iff.1 (by rw[← hmn,hm0];rfl)
         rw[hnil,hc0]at hsu
         exact fresh a ((kill ts H).put i none) (qapp d src) (by rw[app_list,hnil,List.nil_append]) (inv1.drop i (Hp.get_lt (getL_get hg))) h.1.symm h.2.symm hsu
        ·obtain⟨c1,Ty,hc1,_,hs1,hlr1⟩:=LRep.of (inv1.blk i _ b (getL_get hg) hρ)
         rw[hc1]at hcc
         cases hcc
         exact onto i b d.toList.length cap _ _ _ (qapp d src) (getL_get hg) hρ hc1 hcap (by rw[hsz];exact hfit) (by rw[app_list,List.length_append]) (by rw[hsz];exact hlr1.app hlr) h.1.symm h.2.symm hsu
      case h_5=>cases h
end
end Go.AM
