/-
  Single operations: loads, addresses, stores.
-/
import Derived.Test.YteccopaonadbeaaGreatDoorAm3d
set_option linter.unusedVariables false
set_option linter.unusedSimpArgs false
namespace Go.AM
section
variable {P:Program} {lo:Nat→Prop} {w0:World} {ρ:Nat→Option Nat} {E:Nat→Prop} {H:Hp} {w:World}
def OkP (P:Program) (ρ:Nat→Option Nat) (E:Nat→Prop) (w:World) (s:Sem Value) (v:AV):Prop:=∃u,s.run P w = .ok u w∧Rep ρ E w v u
def OkH (P:Program) (lo:Nat→Prop) (w0:World) (ρ:Nat→Option Nat) (E:Nat→Prop) (w:World) (s:Sem Value) (v:AV) (H':Hp):Prop:=
 ∃u w' ρ',s.run P w = .ok u w'∧Inv lo w0 ρ' E H' w'∧Ext ρ E w ρ' E w'∧Rep ρ' E w' v u
theorem OkP.okH {s:Sem Value} {v:AV} (inv:Inv lo w0 ρ E H w) (h:OkP P ρ E w s v):OkH P lo w0 ρ E w s v H:=
 let⟨u,hr,hv⟩:=h;⟨u,w,ρ,hr,inv,Ext.refl,hv⟩
theorem sz_some {T n:Nat} (h:sz P T=some n):∃i,P.info? T=some i∧i.size=n:=by
 unfold sz at h
 cases hi:P.info? T with
 |none=>simp[hi]at h
 |some i=>simp[hi]at h;exact⟨i,rfl,h⟩
theorem run_sz {T n:Nat} (h:sz P T=some n) (w:World):(sizeOf T).run P w = .ok n w:=by
 obtain⟨i,hi,rfl⟩:=sz_some h
 simp[sizeOf,typeInfo,hi]
theorem run_aggB {T:Nat} {b:Bool} (h:aggB P T=some b) (w:World):(isAgg T).run P w = .ok b w:=by
 unfold aggB at h
 split at h
 case h_1 hu=>cases h;simp[isAgg,run_underlying hu]
 case h_2 hu=>cases h;simp[isAgg,run_underlying hu]
 case h_3 d h1 h2 hu=>
  cases h
  have hu':P.underlying T=some d:=hu
  cases d<;>first|(simp[isAgg,run_underlying hu'];done)|(exact(h1 _ rfl).elim)|(exact(h2 _ _ rfl).elim)
 case h_4=>cases h
noncomputable def contents (H:Hp):AV→Option (List AV)
 | .ptr i off=>(getB H i).map (·.drop off)
 | .eptr cs=>some cs
 | .edat T d=>some (cellsT rowDepth T d)
 | .sc (.pointer (some ⟨g,off,none⟩))=>(H.glob g).map (·.drop off)
 | .oel i T n off=>(elemL H i T n).map (·.drop off)
 |_=>none
theorem getL_get {i:Nat} {T:TypeId} {d:D} (h:getL H i=some (T,d)):H.get i=some (.lst T d):=by
 unfold getL at h
 split at h
 ·rename_i T' d' hk;cases h;exact hk
 ·cases h
theorem getV_get {i:Nat} {T T':TypeId} {d:D} (h:getV H i T=some (T',d)):H.get i=some (.lst T' d)∨∃cs ds,H.get i=some (.cells cs)∧T'=T∧d = .list ds∧layOk PG rowDepth T=true∧arrD T (PG.cellsOf T) (cs.length/PG.cellsOf T) cs=some ds:=by
 unfold getV at h
 split at h
 ·rename_i T2 d2 hk;cases h;exact .inl hk
 ·rename_i cs hk
  cases hl:layOk PG rowDepth T with
  |false=>rw[hl]at h;cases h
  |true=>
   rw[hl]at h
   simp only[cond_true]at h
   obtain⟨ds,hd,h⟩:=Option.map_eq_some_iff.1 h
   cases h
   exact .inr ⟨cs,ds,hk,rfl,rfl,rfl,hd⟩
 ·cases h
theorem getV_of {i:Nat} {T:TypeId} {q:TypeId×D} (h:getL H i=some q):getV H i T=some q:=by
 have:=getL_get (T:=q.1) (d:=q.2) h
 simp only[getV,this]
theorem cells_list {w:World} {b off:Nat}:∀{cs:List AV},(∀j c,cs[j]? = some c→∃v,w.cell? ⟨b,off+j,none⟩=some v∧Rep ρ E w c v)→
 ∃vs:List Value,vs.length=cs.length∧RepL ρ E w cs vs∧∀j v,vs[j]? = some v→w.cell? ⟨b,off+j,none⟩=some v:=by
 intro cs
 induction cs generalizing off with
 |nil=>intro _;exact⟨[],rfl,RepL.nil,fun j v h=>by simp at h⟩
 |cons c cs ih=>
  intro h
  obtain⟨v,hv,hr⟩:=h 0 c (by simp)
  obtain⟨vs,hl,hrl,hcell⟩:=ih (off:=off+1) (fun j x hj=>by
   have:=h (j+1) x (by simpa using hj)
   rwa [show off+(j+1)=off+1+j from by omega]at this)
  refine⟨v::vs,by simp[hl],RepL.cons hr hrl,fun j u hj=> ?_⟩
  cases j with
  |zero=>simp at hj;subst hj;exact hv
  |succ j=>simp at hj;have:=hcell j u hj;rwa [show off+(j+1)=off+1+j from by omega]
theorem lst_elem (inv:Inv lo w0 ρ E H w) {i b:Nat} {T:TypeId} {d:D} {n:Int} (hg:getV H i T=some (T,d)) (hb:ρ i=some b) (hn:qinb d n=true):
 layOk PG rowDepth T=true∧∃row:List Value,row.length=PG.cellsOf T∧(∀j u,row[j]? = some u→w.cell? ⟨b,n.toNat*PG.cellsOf T+j,none⟩=some u)∧RepD PG E w T (qget d n) row:=by
 rcases getV_get hg with hg|⟨cs,ds,hk, -,rfl,hlay,hds⟩
 case inr=>
  refine⟨hlay,?_⟩
  have hi:0≤n∧n<(ds.length:Int):=by
   rw[qinb_eq]at hn
   have h2:(decide (0≤n)&&decide (n<(ds.length:Int)))=true:=hn
   simpa using h2
  unfold arrD at hds
  have hdl:ds.length=cs.length/PG.cellsOf T:=by rw[← mapO_len hds,chunks_len]
  have hlt:n.toNat<ds.length:=by omega
  obtain⟨c,hc,hav⟩:=mapO_some hds (List.getElem?_eq_getElem hlt)
  have hce:=chunks_get _ _ _ _ hc
  obtain⟨cw,Tw,hcw,hlw,hrw⟩:=inv.cells (i:=i) (cs:=cs) (by simp only[getB,hk]) hb
  obtain⟨us,hul,hur,hcell⟩:=cells_list (ρ:=ρ) (E:=E) (w:=w) (b:=b) (off:=n.toNat*PG.cellsOf T) (cs:=c) (fun j x hj=>by
   rw[hce,List.getElem?_take]at hj
   split at hj
   ·rw[List.getElem?_drop]at hj
    obtain⟨v,hv,hr'⟩:=hrw.get hj
    refine⟨v,?_,hr'⟩
    rw[List.getElem?_take]at hv
    split at hv
    ·simpa[World.cell?,hcw]using hv
    ·cases hv
   ·cases hj)
  have hrd:RepD PG E w T ds[n.toNat] us:=uncell_rep hur hav fun v hv=>avD_rep dDepth T _ _ v _ hav hv
  have hq:qget (.list ds) n=ds[n.toNat]:=by rw[qget_eq];simp[D.get,D.toList,List.getD,hlt]
  exact⟨us,hrd.len hlay,hcell,by rw[hq];exact hrd⟩
 obtain⟨c,Ty,hc,hlay,hz,hr⟩:=inv.blk i _ b hg hb
 refine⟨hlay,?_⟩
 rw[qinb_eq]at hn
 simp only[D.inb,Bool.and_eq_true,decide_eq_true_eq]at hn
 have hlt:n.toNat<d.toList.length:=by omega
 have hx:d.toList[n.toNat]? = some (qget d n):=by rw[qget_eq];simp[D.get,List.getD,hlt]
 have hrd:=hr _ _ hx
 have hl:=hrd.len hlay
 refine⟨_,hl,fun j u hu=> ?_,hrd⟩
 have hj:j<PG.cellsOf T:=by have:=(List.getElem?_eq_some_iff.1 hu).1;rw[hl]at this;exact this
 rw[List.getElem?_take_of_lt hj,List.getElem?_drop]at hu
 simp only[World.cell?,hc]
 simpa using hu
theorem contents_at (inv:Inv lo w0 ρ E H w) {x:AV} {u:Value} {cs:List AV} (h:contents H x=some cs) (ho:allB (atObl H x)=true) (r:Rep ρ E w x u):
 ∃b off,u = .pointer (some ⟨b,off,none⟩)∧∀j c,cs[j]? = some c→∃v,w.cell? ⟨b,off+j,none⟩=some v∧Rep ρ E w c v:=by
 cases x with
 |ptr i off=>
  simp only[contents]at h
  cases hg:getB H i with
  |none=>simp[hg]at h
  |some bs=>
   simp[hg]at h
   subst h
   simp only[Rep]at r
   obtain⟨b,hb,rfl⟩:=r
   obtain⟨c,T,hc,hl,hr⟩:=inv.cells hg hb
   refine⟨b,off,rfl,fun j x hj=> ?_⟩
   rw[List.getElem?_drop]at hj
   obtain⟨v,hv,hr'⟩:=hr.get hj
   refine⟨v,?_,hr'⟩
   rw[List.getElem?_take]at hv
   split at hv
   ·simpa[World.cell?,hc]using hv
   ·cases hv
 |eptr es=>
  simp only[contents,Option.some.injEq]at h
  subst h
  simp only[Rep]at r
  obtain⟨b,off,rfl,_,hr⟩:=r
  exact⟨b,off,rfl,fun j c hj=>let⟨v,hv,hr'⟩:=hr.get hj;⟨v,hv,hr'.up⟩⟩
 |edat T d=>
  simp only[contents,Option.some.injEq]at h
  subst h
  have r:=edat_eptr r
  simp only[Rep]at r
  obtain⟨b,off,rfl,_,hr⟩:=r
  exact⟨b,off,rfl,fun j c hj=>let⟨v,hv,hr'⟩:=hr.get hj;⟨v,hv,hr'.up⟩⟩
 |sc v=>
  simp only[Rep]at r
  subst r
  cases u with
  |pointer a=>
   cases a with
   |none=>simp[contents]at h
   |some a=>
    obtain⟨g,off,spot⟩:=a
    cases spot with
    |some s=>simp[contents]at h
    |none=>
     simp only[contents,Option.map_eq_some_iff]at h
     obtain⟨bs,hg,rfl⟩:=h
     obtain⟨_,hr,_⟩:=inv.gl g bs hg
     refine⟨g,off,rfl,fun j c hj=> ?_⟩
     rw[List.getElem?_drop]at hj
     obtain⟨v,hv,hr'⟩:=hr.get hj
     exact⟨v,by simpa using hv,hr'.up⟩
  |_=>simp[contents]at h
 |oel i T n off=>
  simp only[contents,Option.map_eq_some_iff,elemL,Option.bind_eq_some_iff]at h
  obtain⟨cs',⟨⟨T',d⟩,hg,h⟩,rfl⟩:=h
  cases hb:Nat.beq T' T with
  |false=>simp[hb]at h
  |true=>
   obtain rfl:=Nat.eq_of_beq_eq_true hb
   simp only[hb,cond_true,Option.some.injEq]at h
   subst h
   simp only[atObl,hg]at ho
   have hin:qinb d n=true:=by cases hq:qinb d n<;>simp_all[allB]
   simp only[Rep]at r
   obtain⟨h0,b,hb,rfl⟩:=r
   obtain⟨hlay,row,hl,hc,hrd⟩:=lst_elem inv hg hb hin
   have hrl:=cellsT_rep (ρ:=ρ) rowDepth T' (qget d n) row hlay hrd
   refine⟨b,_,rfl,fun j c hj=> ?_⟩
   rw[List.getElem?_drop]at hj
   obtain⟨v,hv,hr⟩:=hrl.get hj
   exact⟨v,by rw[Nat.add_assoc];exact hc _ v hv,hr⟩
 |_=>simp[contents]at h
theorem ld1_contents {x v:AV} (h:ld1 H x=some v):∃cs,contents H x=some cs∧cs[0]? = some v:=by
 cases x with
 |ptr i off=>
  simp only[ld1]at h
  cases hg:getB H i with
  |none=>simp[hg]at h
  |some bs=>simp[hg]at h;exact⟨bs.drop off,by simp[contents,hg],by simpa using h⟩
 |eptr es=>exact⟨es,rfl,by simp only[ld1]at h;cases es<;>simp_all⟩
 |edat T d=>exact⟨_,rfl,by simp only[ld1]at h;rw[← List.head?_eq_getElem?];exact h⟩
 |sc v=>
  cases v with
  |pointer a=>
   cases a with
   |none=>simp[ld1]at h
   |some a=>
    obtain⟨g,off,spot⟩:=a
    cases spot with
    |some s=>simp[ld1]at h
    |none=>
     simp only[ld1,Option.bind_eq_some_iff]at h
     obtain⟨bs,hg,h⟩:=h
     exact⟨bs.drop off,by simp[contents,hg],by simpa using h⟩
  |_=>simp[ld1]at h
 |oel i T n off=>
  simp only[ld1,Option.bind_eq_some_iff]at h
  obtain⟨cs,hg,h⟩:=h
  exact⟨cs.drop off,by simp[contents,hg],by simpa using h⟩
 |_=>simp[ld1]at h
theorem ldN_contents {n:Nat} {x v:AV} (h:ldN H n x=some v):(∃cs,contents H x=some cs∧n≤cs.length∧v = .agg (cs.take n))∨(∃T d,x = .edat T d∧n=PG.cellsOf T∧v = .dat T d)∨(∃i T d,x = .ptr i 0∧H.get i=some (.dat T d)∧n=PG.cellsOf T∧v = .dat T d)∨∃i T d m,x = .oel i T m 0∧getV H i T=some (T,d)∧n=PG.cellsOf T∧v = .dat T (qget d m):=by
 cases x with
 |ptr i off=>
  simp only[ldN]at h
  cases hd:datAt H i off n with
  |some v'=>
   rw[hd]at h
   simp only[orAV,Option.some.injEq]at h
   subst h
   unfold datAt datB at hd
   split at hd
   ·rename_i T d he
    split at he
    ·rename_i T' d' hk
     cases he
     cases hb:(Nat.beq off 0&&Nat.beq n (PG.cellsOf T))with
     |false=>simp[hb]at hd
     |true=>
      simp only[hb,cond_true,Option.some.injEq]at hd
      subst hd
      simp only[Bool.and_eq_true]at hb
      obtain rfl:off=0:=Nat.eq_of_beq_eq_true hb.1
      exact .inr (.inr (.inl ⟨i,T,d,rfl,hk,Nat.eq_of_beq_eq_true hb.2,rfl⟩))
    ·cases he
   ·cases hd
  |none=>
  rw[hd]at h
  simp only[orAV]at h
  cases hg:getB H i with
  |none=>simp[hg]at h
  |some bs=>
   simp only[hg,Option.bind_some]at h
   split at h
   ·rename_i hl
    cases h
    exact .inl ⟨bs.drop off,by simp[contents,hg],by simp;omega,rfl⟩
   ·cases h
 |eptr es=>
  simp only[ldN]at h
  split at h
  ·rename_i hl;cases h;exact .inl ⟨es,rfl,hl,rfl⟩
  ·cases h
 |edat T d=>
  simp only[ldN]at h
  cases hb:Nat.beq n (PG.cellsOf T)with
  |true=>simp only[hb,cond_true,Option.some.injEq]at h;exact .inr (.inl ⟨T,d,rfl,Nat.eq_of_beq_eq_true hb,h.symm⟩)
  |false=>
   simp only[hb,cond_false]at h
   split at h
   ·rename_i hl;cases h;exact .inl ⟨_,rfl,hl,rfl⟩
   ·cases h
 |sc v=>
  cases v with
  |pointer a=>
   cases a with
   |none=>simp[ldN]at h
   |some a=>
    obtain⟨g,off,spot⟩:=a
    cases spot with
    |some s=>simp[ldN]at h
    |none=>
     simp only[ldN,Option.bind_eq_some_iff]at h
     obtain⟨bs,hg,h⟩:=h
     split at h
     ·rename_i hl
      cases h
      exact .inl ⟨bs.drop off,by simp[contents,hg],by simp;omega,rfl⟩
     ·cases h
  |_=>simp[ldN]at h
 |oel i T m off=>
  simp only[ldN,Option.bind_eq_some_iff]at h
  obtain⟨⟨T',d⟩,hg,h⟩:=h
  cases hb:Nat.beq T' T with
  |false=>simp[hb]at h
  |true=>
   obtain rfl:=Nat.eq_of_beq_eq_true hb
   simp only[hb,cond_true]at h
   cases hc:(Nat.beq off 0&&Nat.beq n (PG.cellsOf T'))with
   |true=>
    simp only[hc,cond_true,Option.some.injEq]at h
    simp only[Bool.and_eq_true]at hc
    obtain rfl:off=0:=Nat.eq_of_beq_eq_true hc.1
    exact .inr (.inr (.inr ⟨i,T',d,m,rfl,hg,Nat.eq_of_beq_eq_true hc.2,h.symm⟩))
   |false=>
    simp only[hc,cond_false]at h
    split at h
    ·rename_i hl
     cases h
     exact .inl ⟨_,by simp only[contents,elemL,hg,Option.bind_some,hb,cond_true,Option.map_some],by simp;omega,rfl⟩
    ·cases h
 |_=>simp[ldN]at h
theorem Addr.add_none (b off n:Nat):(⟨b,off,none⟩:Addr).add n=⟨b,off+n,none⟩:=by
 unfold Addr.add
 split
 ·rename_i h;subst h;rfl
 ·rfl
theorem ok_loadVar (inv:Inv lo w0 ρ E H w) {T:TypeId} {x v:AV} {u:Value} (h:loadA P H T x=some v) (ho:allB (atObl H x)=true) (r:Rep ρ E w x u):∃a,u = .pointer (some a)∧OkP P ρ E w (loadVar T a) v:=by
 unfold loadA at h
 split at h
 case h_1 ha=>
  cases hs:sz P T with
  |none=>simp[hs]at h
  |some n=>
   simp only[hs,Option.bind_some]at h
   rcases ldN_contents h with⟨cs,hc,hl,rfl⟩|⟨T',d,rfl,rfl,rfl⟩|⟨i,T',d,rfl,hk,rfl,rfl⟩|⟨i,T',d,m,rfl,hg,rfl,rfl⟩
   case inr.inr.inr=>
    simp only[atObl,hg]at ho
    have hin:qinb d m=true:=by cases hq:qinb d m<;>simp_all[allB]
    simp only[Rep]at r
    obtain⟨_,b,hb,rfl⟩:=r
    obtain⟨hlay,row,hrl,hcell,hrd⟩:=lst_elem inv hg hb hin
    have hld:=run_loadCells_list (P:=P) w ⟨b,m.toNat*PG.cellsOf T'+0,none⟩ row (fun j v hv=>by rw[Addr.add_none];exact hcell j v hv)
    rw[hrl,Nat.add_zero]at hld
    refine⟨_,rfl, .agg row.toArray,?_,by simp only[Rep];exact⟨row.toArray,rfl,hlay,by simpa using hrd⟩⟩
    simp[loadVar,run_aggB ha,run_sz hs,hld]
   case inr.inr.inl=>
    simp only[Rep]at r
    obtain⟨b,hb,rfl⟩:=r
    obtain⟨c,Ty,hc,hlay,hz,hrd⟩:=inv.blk i _ b hk hb
    have hn:=hrd.len hlay
    have hcell:∀j v,(c.toList.take (PG.cellsOf T'))[j]? = some v→w.cell? ⟨b,0+j,none⟩=some v:=by
     intro j v hv
     have hj:j<PG.cellsOf T':=by have:=(List.getElem?_eq_some_iff.1 hv).1;rw[hn]at this;exact this
     rw[List.getElem?_take_of_lt hj]at hv
     simp only[World.cell?,hc,Nat.zero_add]
     simpa using hv
    have hld:=run_loadCells_list (P:=P) w ⟨b,0,none⟩ (c.toList.take (PG.cellsOf T')) (fun j v hv=>by rw[Addr.add_none];exact hcell j v hv)
    rw[hn]at hld
    refine⟨_,rfl, .agg (c.toList.take (PG.cellsOf T')).toArray,?_,by simp only[Rep];exact⟨_,rfl,hlay,by simpa using hrd⟩⟩
    simp[loadVar,run_aggB ha,run_sz hs,hld]
   case inr.inl=>
    simp only[Rep]at r
    obtain⟨b,off,row,rfl,hb,hlay,hcell,hrd⟩:=r
    have hn:=hrd.len hlay
    have hld:=run_loadCells_list (P:=P) w ⟨b,off,none⟩ row (fun j v hv=>by rw[Addr.add_none];exact hcell j v hv)
    rw[hn]at hld
    refine⟨_,rfl, .agg row.toArray,?_,by simp only[Rep];exact⟨row.toArray,rfl,hlay,by simpa using hrd⟩⟩
    simp[loadVar,run_aggB ha,run_sz hs,hld]
   obtain⟨b,off,rfl,hcell⟩:=contents_at inv hc ho r
   obtain⟨vs,hvl,hrl,hcs⟩:=cells_list (cs:=cs.take n) (fun j c hj=>hcell j c (by rw[List.getElem?_take]at hj;split at hj;exact hj;cases hj))
   have hn:vs.length=n:=by rw[hvl];simp;omega
   have hld:=run_loadCells_list (P:=P) w ⟨b,off,none⟩ vs (fun j v hv=>by rw[Addr.add_none];exact hcs j v hv)
   rw[hn]at hld
   refine⟨_,rfl, .agg vs.toArray,?_,by simp only[Rep];exact⟨vs.toArray,rfl,by simpa using hrl⟩⟩
   simp[loadVar,run_aggB ha,run_sz hs,hld]
 case h_2 ha=>
  obtain⟨cs,hc,h0⟩:=ld1_contents h
  obtain⟨b,off,rfl,hcell⟩:=contents_at inv hc ho r
  obtain⟨v',hv',hr'⟩:=hcell 0 v h0
  refine⟨_,rfl,v',?_,hr'⟩
  have hv0:w.cell? ⟨b,off,none⟩=some v':=by simpa using hv'
  simp[loadVar,run_aggB ha,hv0]
 case h_3=>cases h
theorem ok_load (inv:Inv lo w0 ρ E H w) {T:TypeId} {x v:AV} {u:Value} (h:loadA P H T x=some v) (ho:allB (atObl H x)=true) (r:Rep ρ E w x u):OkP P ρ E w (Instr.loadAt T u) v:=by
 obtain⟨a,rfl,v',hr,hv⟩:=ok_loadVar (P:=P) inv h ho r
 exact⟨v',by simpa[Instr.loadAt,Instr.sureAddr]using hr,hv⟩
theorem addrAdd_rep {o:Nat} {x y:AV} {u:Value} (h:addrAdd o x=some y) (r:Rep ρ E w x u):
 ∃b off,u = .pointer (some ⟨b,off,none⟩)∧Rep ρ E w y (.pointer (some ⟨b,off+o,none⟩)):=by
 cases x with
 |ptr i off=>
  simp only[addrAdd,Option.some.injEq]at h
  subst h
  simp only[Rep]at r ⊢
  obtain⟨b,hb,rfl⟩:=r
  exact⟨b,off,rfl,b,hb,rfl⟩
 |eptr cs=>
  simp only[addrAdd,Option.some.injEq]at h
  subst h
  simp only[Rep]at r ⊢
  obtain⟨b,off,rfl,he,hr⟩:=r
  exact⟨b,off,rfl,b,off+o,rfl,he,hr.drop o⟩
 |edat T d=>
  simp only[addrAdd,Option.some.injEq]at h
  subst h
  have r:=edat_eptr r
  simp only[Rep]at r ⊢
  obtain⟨b,off,rfl,he,hr⟩:=r
  exact⟨b,off,rfl,b,off+o,rfl,he,hr.drop o⟩
 |sc v=>
  cases v with
  |pointer a=>
   cases a with
   |none=>simp[addrAdd]at h
   |some a=>
    obtain⟨g,off,spot⟩:=a
    cases spot with
    |some s=>simp[addrAdd]at h
    |none=>
     simp only[addrAdd,Option.some.injEq]at h
     subst h
     simp only[Rep]at r ⊢
     exact⟨g,off,r,rfl⟩
  |_=>simp[addrAdd]at h
 |oel i T n off=>
  simp only[addrAdd,Option.some.injEq]at h
  subst h
  simp only[Rep]at r ⊢
  obtain⟨h0,b,hb,rfl⟩:=r
  exact⟨b,_,rfl,h0,b,hb,by rw[Nat.add_assoc]⟩
 |_=>simp[addrAdd]at h
theorem ok_fieldAddr {s:TypeId} {f:Nat} {x v:AV} {u:Value} (h:fieldAddrA P s f x=some v) (r:Rep ρ E w x u):OkP P ρ E w (Instr.fieldAt s u f) v:=by
 unfold fieldAddrA at h
 cases ho:fieldOff P s f with
 |none=>simp[ho]at h
 |some o=>
  simp only[ho,Option.bind_some]at h
  obtain⟨b,off,rfl,hr⟩:=addrAdd_rep h r
  unfold fieldOff at ho
  split at ho
  case h_2=>cases ho
  case h_1 fs hu=>
   split at ho
   case h_2=>cases ho
   case h_1 fd hf=>
    split at ho
    case h_2=>cases ho
    case h_1 n hn=>
     cases ho
     refine⟨_,?_,hr⟩
     simp[Instr.fieldAt,run_underlying hu,hf,Instr.sureAddr,fieldPlace,run_sz hn,Addr.add_none]
theorem elemAt_rep {s:Nat} {n:Int} {x v:AV} {u:Value} (h:elemAt s n x=some v) (r:Rep ρ E w x u):
 ∃b off len cap,u = .slice (some ⟨b,off,none⟩) len cap∧0≤n∧n<len∧Rep ρ E w v (.pointer (some ⟨b,off+n.toNat*s,none⟩)):=by
 cases x with
 |sl i z off len=>
  simp only[elemAt]at h
  split at h
  ·rename_i hc
   obtain⟨rfl,h0,h1⟩:=hc
   cases h
   simp only[Rep]at r ⊢
   obtain⟨b,cap,hb,rfl,_⟩:=r
   exact⟨b,off,len,cap,rfl,h0,h1,b,hb,rfl⟩
  ·cases h
 |esl xs=>
  simp only[elemAt]at h
  split at h
  ·rename_i h0
   cases hx:xs[n.toNat]? with
   |none=>simp[hx]at h
   |some c=>
    simp only[hx,Option.bind_some]at h
    split at h
    ·rename_i hl
     cases h
     simp only[Rep]at r ⊢
     obtain⟨a,cap,rfl,hcap,hr⟩:=r
     rcases hr with rfl|⟨b,off,z,rfl,he,hr⟩
     ·simp at hx
     ·obtain⟨hz,hat⟩:=hr.get hx
      have hlt:n.toNat<xs.length:=(List.getElem?_eq_some_iff.1 hx).1
      refine⟨b,off,xs.length,cap,rfl,h0,by omega,b,_,rfl,he,?_⟩
      rw[← hl,hz];exact hat
    ·cases h
  ·cases h
 |_=>simp[elemAt]at h
theorem elemD_rep {s:Nat} {n:Int} {x v:AV} {u:Value} (h:elemD s n x=some v) (ho:allB (idxO x n)=true) (r:Rep ρ E w x u):
 ∃b off len cap,u = .slice (some ⟨b,off,none⟩) len cap∧0≤n∧n<(len:Nat)∧Rep ρ E w v (.pointer (some ⟨b,off+n.toNat*s,none⟩)):=by
 unfold elemD at h
 split at h
 ·rename_i i T m
  cases hb:(layOk PG rowDepth T&&Nat.beq (PG.cellsOf T) s)with
  |false=>simp[hb]at h
  |true=>
   simp only[hb,cond_true,Option.some.injEq]at h
   subst h
   simp only[Bool.and_eq_true]at hb
   have hs:=Nat.eq_of_beq_eq_true hb.2
   have ho':=allB_mem ho
   have h1:qcmp .leq 0 n=true:=ho' _ (by simp[idxO])
   have h2:qcmp .lss n m=true:=ho' _ (by simp[idxO])
   rw[qcmp_eq]at h1 h2
   simp only[rcmp,decide_eq_true_eq]at h1 h2
   simp only[Rep]at r
   obtain⟨h0,a,cap,rfl,hcap,hr⟩:=r
   rcases hr with⟨hm,_⟩|⟨b,hρ,rfl,_⟩
   ·omega
   ·refine⟨b,0,m.toNat,cap,rfl,h1,by omega,?_⟩
    simp only[Rep]
    exact⟨h1,b,hρ,by rw[hs];simp⟩
 ·rename_i T d
  cases hb:(layOk PG rowDepth T&&Nat.beq (PG.cellsOf T) s)with
  |false=>simp[hb]at h
  |true=>
   simp only[hb,cond_true]at h
   simp only[Bool.and_eq_true]at hb
   have hs:=Nat.eq_of_beq_eq_true hb.2
   have hi:qinb d n=true:=allB_mem ho _ (by simp[idxO])
   rw[qinb_eq]at hi
   simp only[D.inb,Bool.and_eq_true,decide_eq_true_eq]at hi
   simp only[Rep]at r
   obtain⟨a,cap,rfl,hcap,hr⟩:=r
   have hlt:n.toNat<d.toList.length:=by omega
   rcases hr with hr|⟨b,off,rfl,he,hr⟩
   ·rw[hr]at hlt;simp at hlt
   ·obtain⟨row,h1,h2,h3⟩:=hr n.toNat _ (List.getElem?_eq_getElem hlt)
    have hg:qget d n=d.toList[n.toNat]:=by rw[qget_eq];simp[D.get,List.getD,hlt]
    refine⟨b,off,_,cap,rfl,hi.1,by omega,?_⟩
    cases hag:isAggT PG T with
    |true=>
     simp only[hag,cond_true,Option.some.injEq]at h
     subst h
     simp only[Rep]
     rw[← hs,hg]
     exact⟨b,_,row,rfl,he,hb.1,h2,h3⟩
    |false=>
     simp only[hag,cond_false,Option.some.injEq]at h
     subst h
     simp only[Rep]
     refine⟨b,_,rfl,he,?_⟩
     rw[← hs,hg]
     exact RepAt.ofL (cellsT_rep rowDepth T _ row hb.1 h3) h2
 ·cases h
theorem elemK_rep {s:Nat} {n:Int} {x v:AV} {u:Value} (h:elemK s n x=some v) (ho:allB (idxO x n)=true) (r:Rep ρ E w x u):
 ∃b off len cap,u = .slice (some ⟨b,off,none⟩) len cap∧0≤n∧n<(len:Nat)∧Rep ρ E w v (.pointer (some ⟨b,off+n.toNat*s,none⟩)):=by
 unfold elemK at h
 split at h
 ·exact elemD_rep h ho r
 ·exact elemD_rep h ho r
 ·exact elemAt_rep h r
theorem ok_indexAddr {T:TypeId} {x ix v:AV} {u i:Value} (h:idxA P T x ix=some v) (ho:allB (idxObl x ix)=true) (r:Rep ρ E w x u) (ri:Rep ρ E w ix i):OkP P ρ E w (Instr.indexAt T u i) v:=by
 unfold idxA at h
 split at h
 case h_3=>cases h
 case h_2 k n=>
  simp only[Rep]at ri
  subst ri
  split at h
  case h_2=>cases h
  case h_1 e hu=>
   cases hs:sz P e with
   |none=>simp[hs]at h
   |some s=>
    simp only[hs,Option.bind_some]at h
    obtain⟨b,off,len,cap,rfl,h0,h1,hr⟩:=elemD_rep h ho r
    refine⟨_,?_,hr⟩
    simp[Instr.indexAt,asIntOf,run_underlying hu,h0,h1,run_sz hs,Addr.add_none]
 case h_1 k n=>
  simp only[Rep]at ri
  subst ri
  split at h
  case h_3=>cases h
  case h_1 len e hu=>
   cases hs:sz P e with
   |none=>simp[hs]at h
   |some s=>
    simp only[hs,Option.bind_some,arrAt]at h
    split at h
    ·rename_i hn
     obtain⟨b,off,rfl,hr⟩:=addrAdd_rep h r
     refine⟨_,?_,hr⟩
     simp[Instr.indexAt,asIntOf,run_underlying hu,Instr.sureAddr,hn,run_sz hs,Addr.add_none]
    ·cases h
  case h_2 e hu=>
   cases hs:sz P e with
   |none=>simp[hs]at h
   |some s=>
    simp only[hs,Option.bind_some]at h
    obtain⟨b,off,len,cap,rfl,h0,h1,hr⟩:=elemK_rep h ho r
    refine⟨_,?_,hr⟩
    simp[Instr.indexAt,asIntOf,run_underlying hu,h0,h1,run_sz hs,Addr.add_none]
theorem RepL.setCells {cs vs:List AV} {xs us:List Value} {off:Nat} (h:RepL ρ E w cs xs) (h':RepL ρ E w vs us):
 RepL ρ E w (AM.setCells cs off vs) (xs.take off++us++xs.drop (off+us.length)):=by
 unfold AM.setCells
 rw[h'.length]
 exact((h.take off).app h').app (h.drop _)
theorem ok_stN (inv:Inv lo w0 ρ E H w) {n:Nat} {x:AV} {vs:List AV} {u:Value} {us:List Value} {H':Hp} (h:stN H n x vs=some H') (r:Rep ρ E w x u) (rv:RepL ρ E w vs us):
 ∃a w',u = .pointer (some a)∧vs.length=n∧(storeCells a us).run P w = .ok () w'∧Inv lo w0 ρ E H' w'∧Ext ρ E w ρ E w':=by
 unfold stN at h
 split at h
 case h_2=>cases h
 case h_1 i off=>
  cases hg:getB H i with
  |none=>simp[hg]at h
  |some cs=>
   simp only[hg,Option.bind_some]at h
   split at h
   case isFalse=>cases h
   case isTrue hc=>
    obtain⟨hl,hfit,h1⟩:=hc
    cases h
    simp only[Rep]at r
    obtain⟨b,hb,rfl⟩:=r
    obtain⟨c,T,hcell,hlc,hr⟩:=inv.cells hg hb
    have hul:us.length=n:=by rw[← hl];exact rv.length.symm
    have hone:∀v∈us,v.oneCell'=true:=by
     intro v hv
     obtain⟨j,hj⟩:=List.getElem?_of_mem hv
     have hjl:j<vs.length:=by rw[rv.length];exact(List.getElem?_eq_some_iff.1 hj).1
     obtain⟨v',hv',hrv⟩:=rv.get (List.getElem?_eq_getElem hjl)
     rw[hj]at hv';cases hv'
     exact one_cell (List.all_eq_true.1 h1 _ (List.getElem_mem hjl)) hrv
    have hst:=run_storeCells_at P b off T us 0 c w hcell (by omega) hone
    simp only[Nat.add_zero]at hst
    obtain⟨inv',ext⟩:=inv.change (w':=w.setRow b (c.toList.take off++us++c.toList.drop (off+us.length)).toArray) i b _ (.cells (AM.setCells cs off vs)) (getB_get hg).choose_spec.1 hb
     (fun j hj=>setRow_other w b j _ hj) (by simp)
     (fun c0 T0 f0 h0=>by
      rw[hcell]at h0
      cases h0
      refine⟨_,setRow_heap w b c _ T _ hcell,?_⟩
      simp only[List.size_toArray,List.length_append,List.length_take,List.length_drop,Array.length_toList];omega)
     (fun ext=>by
      refine⟨_,T,setRow_heap w b c _ T _ hcell,?_,?_⟩
      ·simp only[AM.setCells,List.size_toArray,List.length_append,List.length_take,List.length_drop,Array.length_toList];omega
      ·have hlen:(AM.setCells cs off vs).length=cs.length:=by
        simp only[AM.setCells,List.length_append,List.length_take,List.length_drop];omega
       rw[hlen]
       have:=(RepL.setCells (off:=off) hr rv).mono ext
       have e:(c.toList.take off++us++c.toList.drop (off+us.length)).take cs.length=(c.toList.take cs.length).take off++us++(c.toList.take cs.length).drop (off+us.length):=by
        rw[List.take_append,List.take_append]
        have l1:(c.toList.take off).length=off:=by simp;omega
        have l2:(c.toList.take off++us).length=off+us.length:=by simp[l1]
        rw[List.take_take,List.take_take,List.drop_take,l1,l2,List.take_of_length_le (l:=us) (by omega)]
        congr 2
        ·congr 1
         rw[Nat.min_comm]
       show RepL ρ E _ _ (List.take cs.length (c.toList.take off++us++c.toList.drop (off+us.length)))
       rw[e];exact this)
    exact⟨_,_,rfl,hl,hst,inv',ext⟩
theorem splice_get {α:Type} {c us:List α} {a:Nat} (h:a+us.length≤c.length) (p:Nat):(c.take a++us++c.drop (a+us.length))[p]? = if p<a then c[p]? else if p<a+us.length then us[p-a]? else c[p]? :=by
 have l1:(c.take a).length=a:=by simp;omega
 by_cases h1:p<a
 ·rw[if_pos h1,List.append_assoc,List.getElem?_append_left (by omega),List.getElem?_take_of_lt h1]
 ·rw[if_neg h1]
  by_cases h2:p<a+us.length
  ·rw[if_pos h2,List.append_assoc,List.getElem?_append_right (by omega),List.getElem?_append_left (by omega),l1]
  ·rw[if_neg h2,List.getElem?_append_right (by simp;omega),List.getElem?_drop]
   congr 1;simp;omega
theorem cut_get {α:Type} {c:List α} {i z:Nat} (j:Nat):((c.drop (i*z)).take z)[j]? = if j<z then c[i*z+j]? else none:=by
 rw[List.getElem?_take]
 split
 ·rw[List.getElem?_drop]
 ·rfl
theorem cut_other {α:Type} {c us:List α} {k i z off:Nat} (hz:off+us.length≤z) (hc:k*z+z≤c.length) (hi:i≠k):
 ((c.take (k*z+off)++us++c.drop (k*z+off+us.length)).drop (i*z)).take z=(c.drop (i*z)).take z:=by
 apply List.ext_getElem?
 intro j
 rw[cut_get,cut_get]
 by_cases hj:j<z
 ·rw[if_pos hj,if_pos hj,splice_get (by omega)]
  rcases Nat.lt_or_gt_of_ne hi with h|h
  ·have:(i+1)*z≤k*z:=Nat.mul_le_mul_right _ h
   rw[Nat.succ_mul]at this
   rw[if_pos (by omega)]
  ·have:(k+1)*z≤i*z:=Nat.mul_le_mul_right _ h
   rw[Nat.succ_mul]at this
   rw[if_neg (by omega),if_neg (by omega)]
 ·rw[if_neg hj,if_neg hj]
theorem cut_same {α:Type} {c us:List α} {k z off:Nat} (hz:off+us.length≤z) (hc:k*z+z≤c.length):
 ((c.take (k*z+off)++us++c.drop (k*z+off+us.length)).drop (k*z)).take z=((c.drop (k*z)).take z).take off++us++((c.drop (k*z)).take z).drop (off+us.length):=by
 have hl:((c.drop (k*z)).take z).length=z:=by simp;omega
 apply List.ext_getElem?
 intro j
 rw[cut_get,splice_get (by omega)]
 by_cases hj:j<z
 ·rw[if_pos hj,splice_get (by omega)]
  by_cases h1:j<off
  ·rw[if_pos h1,if_pos (by omega),cut_get,if_pos hj]
  ·rw[if_neg h1,if_neg (by omega)]
   by_cases h2:j<off+us.length
   ·rw[if_pos h2,if_pos (by omega)];congr 1;omega
   ·rw[if_neg h2,if_neg (by omega),cut_get,if_pos hj]
 ·rw[if_neg hj];symm;apply List.getElem?_eq_none;simp;omega
theorem ones_of {vs:List AV} {us:List Value} (h1:vs.all one=true) (rv:RepL ρ E w vs us):∀v∈us,v.oneCell'=true:=by
 intro v hv
 obtain⟨j,hj⟩:=List.getElem?_of_mem hv
 have hjl:j<vs.length:=by rw[rv.length];exact(List.getElem?_eq_some_iff.1 hj).1
 obtain⟨v',hv',hrv⟩:=rv.get (List.getElem?_eq_getElem hjl)
 rw[hj]at hv';cases hv'
 exact one_cell (List.all_eq_true.1 h1 _ (List.getElem_mem hjl)) hrv
theorem ok_stB (inv:Inv lo w0 ρ E H w) {n i:Nat} {T:TypeId} {d:D} {u uv:Value} {vs:List AV} (hn:n=PG.cellsOf T) (hB:isB H i n=true) (hc:cellsOf (.dat T d)=some vs) (h1:vs.all one=true) (r:Rep ρ E w (.ptr i 0) u) (rv:Rep ρ E w (.dat T d) uv):
 ∃a w',u = .pointer (some a)∧vs.length=n∧(storeCells a uv.cells.toList).run P w = .ok () w'∧Inv lo w0 ρ E (H.put i (some (.dat T d))) w'∧Ext ρ E w ρ E w':=by
 have rl:=cellsOf_rep hc rv
 unfold isB at hB
 cases hg:getB H i with
 |none=>simp[hg]at hB
 |some cs=>
  simp only[hg]at hB
  have hcs:=Nat.eq_of_beq_eq_true hB
  simp only[Rep]at r rv
  obtain⟨b,hb,rfl⟩:=r
  obtain⟨xs,rfl,hlay,hrd⟩:=rv
  obtain⟨c,Ty,hcell,hlc,hr⟩:=inv.cells hg hb
  have hxl:xs.toList.length=n:=by rw[hn];exact hrd.len hlay
  simp only[Value.cells]at rl ⊢
  have hst:=run_storeCells_at P b 0 Ty xs.toList 0 c w hcell (by omega) (ones_of h1 rl)
  simp only[Nat.add_zero,Nat.zero_add]at hst
  obtain⟨inv',ext⟩:=inv.change (w':=w.setRow b (c.toList.take 0++xs.toList++c.toList.drop xs.toList.length).toArray) i b _ (.dat T d) (getB_get hg).choose_spec.1 hb
   (fun j hj=>setRow_other w b j _ hj) (by simp)
   (fun c0 T0 f0 h0=>by
    rw[hcell]at h0
    cases h0
    refine⟨_,setRow_heap w b c _ Ty _ hcell,?_⟩
    simp only[List.size_toArray,List.length_append,List.length_take,List.length_drop,Array.length_toList];simp only[Array.length_toList]at hxl;omega)
   (fun ext=>by
    refine⟨_,Ty,setRow_heap w b c _ Ty _ hcell,hlay,?_,?_⟩
    ·simp only[List.size_toArray,List.length_append,List.length_take,List.length_drop,Array.length_toList];simp only[Array.length_toList]at hxl;omega
    ·have e:(List.take (PG.cellsOf T) (c.toList.take 0++xs.toList++c.toList.drop xs.toList.length))=xs.toList:=by
      rw[← hn, ← hxl];simp
     show RepD PG E _ T d (List.take (PG.cellsOf T) (c.toList.take 0++xs.toList++c.toList.drop xs.toList.length))
     rw[e];exact hrd.mono ext)
  exact⟨_,_,rfl,by rw[rl.length,hxl],hst,inv',ext⟩
theorem ok_stL (inv:Inv lo w0 ρ E H w) {n i off:Nat} {T:TypeId} {m:Int} {v:AV} {vs:List AV} {u uv:Value} {H':Hp} (h:stL H n i T m off v vs=some H') (ho:allB (atObl H (.oel i T m off))=true) (hc:cellsOf v=some vs) (r:Rep ρ E w (.oel i T m off) u) (rv:Rep ρ E w v uv):
 ∃a w',u = .pointer (some a)∧vs.length=n∧(storeCells a uv.cells.toList).run P w = .ok () w'∧Inv lo w0 ρ E H' w'∧Ext ρ E w ρ E w':=by
 have rl:=cellsOf_rep hc rv
 unfold stL at h
 obtain⟨⟨T',d⟩,hg,h'⟩:=Option.bind_eq_some_iff.1 h
 clear h
 have h:=h'
 clear h'
 cases hb0:(Nat.beq T' T&&layOk PG rowDepth T)with
 |false=>simp[hb0]at h
 |true=>
  simp only[hb0,cond_true]at h
  simp only[Bool.and_eq_true]at hb0
  obtain rfl:T'=T:=Nat.eq_of_beq_eq_true hb0.1
  simp only[atObl,getV_of hg]at ho
  have hin:qinb d m=true:=by cases hq:qinb d m<;>simp_all[allB]
  simp only[Rep]at r
  obtain⟨h0,b,hb,rfl⟩:=r
  obtain⟨c,Ty,hcell,hlay,hz,hr⟩:=inv.blk i _ b (getL_get hg) hb
  have hin':=hin
  rw[qinb_eq]at hin'
  simp only[D.inb,Bool.and_eq_true,decide_eq_true_eq]at hin'
  have hlt:m.toNat<d.toList.length:=by omega
  have hx:d.toList[m.toNat]? = some (qget d m):=by rw[qget_eq];simp[D.get,List.getD,hlt]
  have hrow:=hr _ _ hx
  have hrl:=hrow.len hlay
  have hfit:m.toNat*PG.cellsOf T'+PG.cellsOf T'≤c.toList.length:=by
   have:(m.toNat+1)*PG.cellsOf T'≤d.toList.length*PG.cellsOf T':=Nat.mul_le_mul_right _ hlt
   rw[Nat.succ_mul]at this
   simp only[Array.length_toList];omega
  have ul:uv.cells.toList.length=vs.length:=rl.length.symm
  have fin:∀(x':D),vs.all one=true→off+vs.length≤PG.cellsOf T'→vs.length=n→H'=H.put i (some (.lst T' (qset d m x')))→
   (∀E' w',Ext ρ E w ρ E' w'→RepD PG E' w' T' x' (((c.toList.drop (m.toNat*PG.cellsOf T')).take (PG.cellsOf T')).take off++uv.cells.toList++((c.toList.drop (m.toNat*PG.cellsOf T')).take (PG.cellsOf T')).drop (off+uv.cells.toList.length)))→
   ∃a w',Value.pointer (some ⟨b,m.toNat*PG.cellsOf T'+off,none⟩) = .pointer (some a)∧vs.length=n∧(storeCells a uv.cells.toList).run P w = .ok () w'∧Inv lo w0 ρ E H' w'∧Ext ρ E w ρ E w':=by
   intro x' h1 hoff hvn hH hx'
   subst hH
   have ht:(qset d m x').toList=d.toList.set m.toNat x':=by rw[qset_eq];rfl
   have hst:=run_storeCells_at P b (m.toNat*PG.cellsOf T'+off) Ty uv.cells.toList 0 c w hcell (by simp only[Array.length_toList]at hfit;omega) (ones_of h1 rl)
   simp only[Nat.add_zero]at hst
   obtain⟨inv',ext⟩:=inv.change (w':=w.setRow b (c.toList.take (m.toNat*PG.cellsOf T'+off)++uv.cells.toList++c.toList.drop (m.toNat*PG.cellsOf T'+off+uv.cells.toList.length)).toArray) i b _ (.lst T' (qset d m x')) (getL_get hg) hb
    (fun j hj=>setRow_other w b j _ hj) (by simp)
    (fun c0 T0 f0 h0=>by
     rw[hcell]at h0
     cases h0
     refine⟨_,setRow_heap w b c _ Ty _ hcell,?_⟩
     simp only[List.size_toArray,List.length_append,List.length_take,List.length_drop,Array.length_toList];simp only[Array.length_toList]at hfit ul;omega)
    (fun ext=>by
     refine⟨_,Ty,setRow_heap w b c _ Ty _ hcell,hlay,?_,?_⟩
     ·rw[ht]
      simp only[List.length_set,List.size_toArray,List.length_append,List.length_take,List.length_drop,Array.length_toList];simp only[Array.length_toList]at hfit ul;omega
     ·intro j x hj
      rw[ht,List.getElem?_set]at hj
      show RepD PG E _ T' x (List.take (PG.cellsOf T') (List.drop (j*PG.cellsOf T') (c.toList.take (m.toNat*PG.cellsOf T'+off)++uv.cells.toList++c.toList.drop (m.toNat*PG.cellsOf T'+off+uv.cells.toList.length))))
      by_cases hjk:m.toNat=j
      ·subst hjk
       simp only[if_true,hlt,Option.some.injEq]at hj
       subst hj
       rw[cut_same (by omega) hfit]
       exact hx' _ _ ext
      ·simp only[hjk,if_false]at hj
       rw[cut_other (by omega) hfit (fun e=>hjk e.symm)]
       exact(hr j x hj).mono ext)
   exact⟨_,_,rfl,hvn,hst,inv',ext⟩
  cases v with
  |dat T2 d2=>
   simp only at h
   cases hb2:(Nat.beq off 0&&Nat.beq T2 T'&&Nat.beq n (PG.cellsOf T')&&vs.all one)with
   |false=>simp[hb2]at h
   |true=>
    simp only[hb2,cond_true,Option.some.injEq]at h
    simp only[Bool.and_eq_true]at hb2
    obtain rfl:off=0:=Nat.eq_of_beq_eq_true hb2.1.1.1
    obtain rfl:T2=T':=Nat.eq_of_beq_eq_true hb2.1.1.2
    have hn:=Nat.eq_of_beq_eq_true hb2.1.2
    simp only[Rep]at rv
    obtain⟨ys,rfl,_,hrd⟩:=rv
    have hyl:=hrd.len hlay
    have hvl:vs.length=PG.cellsOf T2:=by rw[← ul];simpa[Value.cells]using hyl
    refine fin d2 hb2.2 (by omega) (by omega) h.symm fun E' w' ext=> ?_
    have e:((c.toList.drop (m.toNat*PG.cellsOf T2)).take (PG.cellsOf T2)).drop (0+(Value.agg ys).cells.toList.length) = []:=by
     apply List.drop_of_length_le
     simp only[Value.cells]
     rw[hrl,hyl];omega
    rw[e]
    simpa[Value.cells]using hrd.mono ext
  |_=>
   simp only at h
   cases hb2:(Nat.beq vs.length n&&Nat.ble (off+n) (cellsT rowDepth T' (qget d m)).length&&vs.all one)with
   |false=>simp[hb2]at h
   |true=>
    simp only[hb2,cond_true]at h
    simp only[Bool.and_eq_true]at hb2
    have hvn:=Nat.eq_of_beq_eq_true hb2.1.1
    have hrep:=cellsT_rep (ρ:=ρ) rowDepth T' (qget d m) _ hlay hrow
    have hle:off+n≤PG.cellsOf T':=by
     have:=Nat.le_of_ble_eq_true hb2.1.2
     rw[hrep.length,hrl]at this;exact this
    obtain⟨x',hx',h⟩:=Option.bind_eq_some_iff.1 h
    cases h
    refine fin x' hb2.2 (by omega) hvn rfl fun E' w' ext=> ?_
    have:=(RepL.setCells (off:=off) hrep rl).mono ext
    exact uncell_rep this hx' fun v hv=>avD_rep _ _ _ _ v _ hx' hv
theorem ok_store (inv:Inv lo w0 ρ E H w) {T:TypeId} {x v:AV} {u uv:Value} {H':Hp} (h:storeA P H T x v=some H') (ho:allB (atObl H x)=true) (r:Rep ρ E w x u) (rv:Rep ρ E w v uv):
 ∃w',(Instr.storeAt T u uv).run P w = .ok () w'∧Inv lo w0 ρ E H' w'∧Ext ρ E w ρ E w':=by
 unfold storeA at h
 cases hs:sz P T with
 |none=>simp[hs]at h
 |some n=>
  cases hc:cellsOf v with
  |none=>simp[hs,hc]at h
  |some vs=>
   simp only[hs,hc,Option.bind_some]at h
   have hrl:=cellsOf_rep hc rv
   have fin:(∃a w',u = .pointer (some a)∧vs.length=n∧(storeCells a uv.cells.toList).run P w = .ok () w'∧Inv lo w0 ρ E H' w'∧Ext ρ E w ρ E w')→∃w',(Instr.storeAt T u uv).run P w = .ok () w'∧Inv lo w0 ρ E H' w'∧Ext ρ E w ρ E w':=by
    rintro⟨a,w',rfl,hl,hst,inv',ext⟩
    refine⟨w',?_,inv',ext⟩
    have hsize:uv.cells.size=n:=by rw[← Array.length_toList, ← hrl.length,hl]
    simp[Instr.storeAt,Instr.sureAddr,storeVar,run_sz hs,hsize,hst]
   apply fin
   split at h
   ·exact ok_stL inv h ho hc r rv
   ·rename_i i off
    cases v with
    |dat T' d=>
     simp only at h
     cases hb:(Nat.beq off 0&&Nat.beq n (PG.cellsOf T')&&isB H i n&&vs.all one)with
     |true=>
      simp only[hb,cond_true,Option.some.injEq]at h
      subst h
      simp only[Bool.and_eq_true]at hb
      obtain rfl:off=0:=Nat.eq_of_beq_eq_true hb.1.1.1
      exact ok_stB inv (Nat.eq_of_beq_eq_true hb.1.1.2) hb.1.2 hc hb.2 r rv
     |false=>
      simp only[hb,cond_false]at h
      exact ok_stN (P:=P) inv h r hrl
    |_=>exact ok_stN (P:=P) inv h r hrl
   ·exact ok_stN (P:=P) inv h r hrl
end
end Go.AM
