/-
  Elements of a package's array, at an index that is not known.
-/
import Derived.Test.YteccopaonadbeaaGreatDoorAm9c
set_option linter.unusedVariables false
set_option linter.unusedSimpArgs false
namespace Go.AM
section
variable {P:Program} {lo:Nat→Prop} {w0:World} {ρ:Nat→Option Nat} {E:Nat→Prop} {H:Hp} {w:World}
theorem RepAt.each {ρ:Nat→Option Nat} {E:Nat→Prop} {w:World} {b:Nat}:∀{cs:List AV} {off:Nat},RepAt ρ E w b off cs→∀j c,cs[j]? = some c→∃v,w.cell? ⟨b,off+j,none⟩=some v∧Rep ρ E w c v
 | [],_,_,j,c,h=>by simp at h
 |x::xs,off,hr,j,c,h=>by
  simp only[RepAt]at hr
  cases j with
  |zero=>simp at h;subst h;exact hr.1
  |succ j=>
   obtain⟨v,h1,h2⟩:=RepAt.each hr.2 j c (by simpa using h)
   exact⟨v,by rw[show off+(j+1)=off+1+j by omega];exact h1,h2⟩
theorem ok_idxG (inv:Inv lo w0 ρ E H w) {T:TypeId} {c:Value} {ix v:AV} {i:Value} (h:idxG P H T c ix=some v) (ho:allB (idxGObl P H T c ix)=true) (ri:Rep ρ E w ix i):OkP P ρ E w (Instr.indexAt T c i) v:=by
 unfold idxG at h
 split at h
 case h_2=>cases h
 case h_1 g off k n=>
  simp only[Rep]at ri
  subst ri
  split at h
  case h_2=>cases h
  case h_1 len e hu=>
   obtain⟨s,hs,h⟩:=Option.bind_eq_some_iff.1 h
   obtain⟨cs,hg,h⟩:=Option.bind_eq_some_iff.1 h
   obtain⟨ds,hd,h⟩:=Option.bind_eq_some_iff.1 h
   have hi:qinb (.list ds) n=true:=allB_mem ho _ (by simp[idxGObl,hu,hs,hg,hd])
   rw[qinb_eq]at hi
   have hi:0≤n∧n<(ds.length:Int):=by
    have h2:(decide (0≤n)&&decide (n<(ds.length:Int)))=true:=hi
    simpa using h2
   cases hb:(layOk PG rowDepth e&&Nat.beq (PG.cellsOf e) s&&Nat.ble (len*s) (cs.drop off).length)with
   |false=>rw[hb]at h;cases h
   |true=>
    rw[hb]at h
    simp only[cond_true,Option.some.injEq]at h
    subst h
    simp only[Bool.and_eq_true]at hb
    obtain⟨⟨hlay,hcs⟩,_⟩:=hb
    have hcs:=Nat.eq_of_beq_eq_true hcs
    unfold arrD at hd
    have hdl:ds.length=len:=by rw[← mapO_len hd,chunks_len]
    have hlt:n.toNat<ds.length:=by omega
    obtain⟨c,hc,hav⟩:=mapO_some hd (List.getElem?_eq_getElem hlt)
    have hce:=chunks_get _ _ _ _ hc
    obtain⟨hE,hrep,_⟩:=inv.gl g cs hg
    obtain⟨us,hul,hur,hcell⟩:=cells_list (ρ:=nowhere) (E:=E) (w:=w) (b:=g) (off:=off+n.toNat*s) (cs:=c) (fun j x hj=>by
     rw[hce,List.getElem?_take]at hj
     split at hj
     ·rw[List.getElem?_drop,List.getElem?_drop]at hj
      obtain⟨v,h1,h2⟩:=RepAt.each hrep _ _ hj
      exact⟨v,by rw[show off+n.toNat*s+j=0+(off+(n.toNat*s+j))by omega];exact h1,h2⟩
     ·cases hj)
    have hrd:RepD PG E w e ds[n.toNat] us:=uncell_rep hur hav fun v hv=>avD_rep dDepth e _ _ v _ hav hv
    have hq:qget (.list ds) n=ds[n.toNat]:=by rw[qget_eq];simp[D.get,D.toList,List.getD,hlt]
    refine⟨.pointer (some ⟨g,off+n.toNat*s,none⟩),?_,?_⟩
    ·simp[Instr.indexAt,asIntOf,run_underlying hu,Instr.sureAddr,show 0≤n∧n<(len:Int)by omega,run_sz hs,Addr.add_none]
    ·rw[hq]
     cases hag:isAggT PG e with
     |true=>
      simp only[cond_true,Rep]
      exact⟨g,_,us,rfl,hE,hlay,hcell,hrd⟩
     |false=>
      simp only[cond_false,Rep]
      exact⟨g,_,rfl,hE,RepAt.ofL (cellsT_rep rowDepth e _ us hlay hrd) hcell⟩
theorem ok_idxP {T:TypeId} {x ix v:AV} {u i:Value} (h:idxP P T x ix=some v) (ho:allB (idxPObl P T x ix)=true) (r:Rep ρ E w x u) (ri:Rep ρ E w ix i):OkP P ρ E w (Instr.indexAt T u i) v:=by
 unfold idxP at h
 split at h
 case h_3=>cases h
 case h_1 b off k n=>
  simp only[Rep]at ri
  subst ri
  split at h
  case h_2=>cases h
  case h_1 len e hu=>
   obtain⟨s,hs,h⟩:=Option.bind_eq_some_iff.1 h
   cases hb:(Nat.beq off 0&&layOk PG rowDepth e&&Nat.beq (PG.cellsOf e) s)with
   |false=>rw[hb]at h;cases h
   |true=>
    rw[hb]at h
    simp only[cond_true,Option.some.injEq]at h
    subst h
    simp only[Bool.and_eq_true]at hb
    obtain rfl:=Nat.eq_of_beq_eq_true hb.1.1
    have hz:=Nat.eq_of_beq_eq_true hb.2
    have o1:=allB_mem ho (qcmp .leq 0 n) (by simp[idxPObl,hu])
    have o2:=allB_mem ho (qcmp .lss n len) (by simp[idxPObl,hu])
    rw[qcmp_eq]at o1 o2
    simp only[rcmp,decide_eq_true_eq]at o1 o2
    simp only[Rep]at r
    obtain⟨b',hb',rfl⟩:=r
    refine⟨.pointer (some ⟨b',n.toNat*s,none⟩),?_,?_⟩
    ·simp[Instr.indexAt,asIntOf,run_underlying hu,Instr.sureAddr,show 0≤n∧n<(len:Int)from⟨o1,o2⟩,run_sz hs,Addr.add_none]
    ·simp only[Rep];exact⟨o1,b',hb',by rw[hz];rfl⟩
 case h_2 b z off len k n=>
  simp only[Rep]at ri
  subst ri
  split at h
  case h_2=>cases h
  case h_1 e hu=>
   obtain⟨s,hs,h⟩:=Option.bind_eq_some_iff.1 h
   cases hb:(Nat.beq off 0&&Nat.beq z s&&layOk PG rowDepth e&&Nat.beq (PG.cellsOf e) s)with
   |false=>rw[hb]at h;cases h
   |true=>
    rw[hb]at h
    simp only[cond_true,Option.some.injEq]at h
    subst h
    simp only[Bool.and_eq_true]at hb
    obtain rfl:=Nat.eq_of_beq_eq_true hb.1.1.1
    have hz:=Nat.eq_of_beq_eq_true hb.2
    have o1:=allB_mem ho (qcmp .leq 0 n) (by simp[idxPObl])
    have o2:=allB_mem ho (qcmp .lss n len) (by simp[idxPObl])
    rw[qcmp_eq]at o1 o2
    simp only[rcmp,decide_eq_true_eq]at o1 o2
    simp only[Rep]at r
    obtain⟨b',cap,hb',rfl,_⟩:=r
    refine⟨.pointer (some ⟨b',n.toNat*s,none⟩),?_,?_⟩
    ·simp[Instr.indexAt,asIntOf,run_underlying hu,show 0≤n∧n<(len:Int)from⟨o1,o2⟩,run_sz hs,Addr.add_none]
    ·simp only[Rep];exact⟨o1,b',hb',by rw[hz];rfl⟩
theorem ok_idxOp (inv:Inv lo w0 ρ E H w) {T:TypeId} {o:Operand} {x ix v:AV} {u i:Value} (h:idxOp P H T o x ix=some v) (ho:allB (idxOpObl P H T o x ix)=true) (r:Rep ρ E w x u) (ri:Rep ρ E w ix i) (hc:∀g,o = .global g→u = .pointer (some ⟨g,0,none⟩)):OkP P ρ E w (Instr.indexAt T u i) v:=by
 unfold idxOp at h
 unfold idxOpObl at ho
 split at h
 ·rename_i c
  cases hx:idxA P T x ix with
  |some v'=>
   rw[hx]at h ho
   cases h
   exact ok_indexAddr hx ho r ri
  |none=>
   rw[hx]at h ho
   rw[hc c rfl]
   exact ok_idxG inv h ho ri
 ·rename_i hn
  cases hx:idxA P T x ix with
  |some v'=>
   cases o with
   |global g=>exact absurd rfl (hn g)
   |_=>
    simp only[hx]at h ho
    cases h
    exact ok_indexAddr hx ho r ri
  |none=>
   cases o with
   |global g=>exact absurd rfl (hn g)
   |_=>
    simp only[hx]at h ho
    exact ok_idxP h ho r ri
theorem okA_range {P:Program} {ρ:Nat→Option Nat} {E:Nat→Prop} {w:World} {T:TypeId} (s:ByteArray) (kn:Bool) (hu:P.underlying T=some .string):OkA P ρ E w (Instr.range T (.string s)) (fun i=> .ptr i 0) (.siter s 0 kn):=by
 refine⟨.pointer (some ⟨w.heap.size,0,none⟩),{w with heap:=w.heap.push (.stringIter s 0)}, .stringIter s 0,?_,⟨rfl,rfl,rfl,rfl⟩,fun ρ' E' w'' _ hb=>⟨0,rfl,hb⟩,fun ρ' E' w'' i hi _=> ?_⟩
 ·simp[Instr.range,run_underlying hu,newObj,Sem.run,Result.andThen]
 ·simp only[Rep];exact⟨_,hi,rfl⟩
theorem okA_rangeM {P:Program} {ρ:Nat→Option Nat} {E:Nat→Prop} {w:World} {T kT eT:TypeId} {es:List (Value×AV)} {u:Value} (hu:P.underlying T=some (.map kT eT)) (r:Rep ρ E w (.emap es) u):OkA P ρ E w (Instr.range T u) (fun i=> .ptr i 0) (.miter es 0):=by
 simp only[Rep]at r
 obtain⟨b,arr,clk,rfl,hb,hm,hr,hbo⟩:=r
 refine⟨.pointer (some ⟨w.heap.size,0,none⟩),{w with heap:=w.heap.push (.mapIter (some b) clk #[] clk)}, .mapIter (some b) clk #[] clk,?_,⟨rfl,rfl,rfl,rfl⟩,fun ρ' E' w'' ext hw=> .inr ⟨b,arr,clk,ext.ext _ hb,(ext.same _ hb).trans hm,RepM.mono ext.none _ _ hr,hbo,by simpa using hw⟩,fun ρ' E' w'' i hi _=> ?_⟩
 ·simp[Instr.range,run_underlying hu,run_getObj_map hm,newObj,Sem.run,Result.andThen]
 ·simp only[Rep];exact⟨_,hi,rfl⟩
theorem okA_rangeN {P:Program} {ρ:Nat→Option Nat} {E:Nat→Prop} {w:World} {T kT eT:TypeId} (hu:P.underlying T=some (.map kT eT)):OkA P ρ E w (Instr.range T (.map none)) (fun i=> .ptr i 0) (.miter [] 0):=by
 refine⟨.pointer (some ⟨w.heap.size,0,none⟩),{w with heap:=w.heap.push (.mapIter none 0 #[] 0)}, .mapIter none 0 #[] 0,?_,⟨rfl,rfl,rfl,rfl⟩,fun ρ' E' w'' ext hw=> .inl ⟨rfl,rfl,hw⟩,fun ρ' E' w'' i hi _=> ?_⟩
 ·simp[Instr.range,run_underlying hu,newObj,Sem.run,Result.andThen]
 ·simp only[Rep];exact⟨_,hi,rfl⟩
theorem rangeA_some {P:Program} {T:TypeId} {x v:AV} {H H':Hp} (hT:isMapT P T=false) (h:rangeA P H T x=some (v,H')):
 ∃k,v = .ptr H.n 0∧H'=H.push k∧∀(ρ:Nat→Option Nat) (E:Nat→Prop) (w:World) u,Rep ρ E w x u→OkA P ρ E w (Instr.range T u) (fun i=> .ptr i 0) k:=by
 unfold rangeA at h
 split at h
 ·rename_i hu
  simp only[isMapT,hu]at hT
  cases hT
 ·rename_i hu
  split at h
  ·rename_i s
   cases h
   exact⟨_,rfl,rfl,fun ρ E w u r=>by simp only[Rep]at r;subst r;exact okA_range s true hu⟩
  ·rename_i s
   cases h
   exact⟨_,rfl,rfl,fun ρ E w u r=>by simp only[Rep]at r;subst r;exact okA_range s false hu⟩
  ·cases h
 ·cases h
theorem OkA.okE {P:Program} {lo:Nat→Prop} {w0:World} {ρ:Nat→Option Nat} {E:Nat→Prop} {H:Hp} {w:World} {s:Sem Value} {mk:Nat→AV} {k:Blk} (inv:Inv lo w0 ρ E H w) (h:OkA P ρ E w s mk k):OkE P lo w0 ρ E w s (mk H.n) (H.push k):=by
 obtain⟨u,w',ρ',hr,inv',ext,rv⟩:=h.okH inv
 exact⟨u,w',ρ',E,hr,inv',ext,fun _ h=> .inl h,rv⟩
theorem ok_rangeA {P:Program} {lo:Nat→Prop} {w0:World} {ρ:Nat→Option Nat} {E:Nat→Prop} {H:Hp} {w:World} (inv:Inv lo w0 ρ E H w) {T:TypeId} {x v:AV} {H':Hp} {u:Value} (h:rangeA P H T x=some (v,H')) (r:Rep ρ E w x u):
 OkE P lo w0 ρ E w (Instr.range T u) v H':=by
 cases hT:isMapT P T with
 |false=>
  obtain⟨k,rfl,rfl,hx⟩:=rangeA_some hT h
  exact(hx ρ E w u r).okE inv
 |true=>
  unfold rangeA at h
  split at h
  ·rename_i hu
   split at h
   ·cases h
    exact(okA_rangeM hu r).okE inv
   ·cases h
    simp only[Rep]at r;subst r
    exact(okA_rangeN hu).okE inv
   ·rename_i i
    unfold rangeF at h
    split at h
    ·rename_i es hx
     cases hem:(expoObl H expoDepth (.map i)).isEmpty with
     |false=>rw[hem]at h;cases h
     |true=>
      rw[hem]at h
      simp only[cond_true,Option.some.injEq,Prod.mk.injEq]at h
      obtain⟨rfl,rfl⟩:=h
      have hxo:allB (expoObl H expoDepth (.map i))=true:=by rw[List.isEmpty_iff.1 hem];rfl
      obtain⟨inv1,hE1⟩:=inv.freeze (tch H expoDepth (.map i))
      have hrep:=expo_rep inv expoDepth (.map i) (.emap es) u hx hxo r Efz.tin (.inr fun _ h=> .inl h)
      obtain⟨u',w',ρ',hr,inv',ext,rv⟩:=(okA_rangeM (P:=P) (ρ:=ρ) hu (Rep.up hrep)).okH inv1
      have hn:=(kill_len (tch H expoDepth (.map i)) H).1
      rw[hn]at rv
      exact⟨u',w',ρ',_,hr,inv',Efz.ext.trans ext,hE1,rv⟩
    ·cases h
   ·cases h
  ·rename_i hu
   simp only[isMapT,hu]at hT
   cases hT
  ·cases h
theorem run_nextM0 {P:Program} {w:World} {b m clk:Nat} (ty:TypeId) (hb:w.heap[b]? = some (.mapIter (some m) clk #[] clk)) (hm:w.heap[m]? = some (.map #[] clk)):
 (Instr.next (.pointer (some ⟨b,0,none⟩)) false ty).run P w = .ok (.tuple #[.bool false]) w:=by
 simp[Instr.next,getObj,Sem.run_bind,Sem.run,hb,hm,Result.andThen,choose,Question.forced]
theorem run_nextM1 {P:Program} {w:World} {b m clk:Nat} {e:MapEntry} (ty:TypeId) (hb:w.heap[b]? = some (.mapIter (some m) clk #[] clk)) (hm:w.heap[m]? = some (.map #[e] clk)) (hc:e.born<clk):
 (Instr.next (.pointer (some ⟨b,0,none⟩)) false ty).run P w = .ok (.tuple #[.bool true,e.key,e.val]) {w with heap:=w.heap.setIfInBounds b (.mapIter (some m) clk #[e.born] clk)}:=by
 have h1:¬clk≤e.born:=by omega
 simp[Instr.next,getObj,setObj,Sem.run_bind,Sem.run,hb,hm,Result.andThen,choose,Question.forced,hc,h1]
theorem run_nextM2 {P:Program} {w:World} {b m clk:Nat} {e:MapEntry} (ty:TypeId) (hb:w.heap[b]? = some (.mapIter (some m) clk #[e.born] clk)) (hm:w.heap[m]? = some (.map #[e] clk)) (hc:e.born<clk):
 (Instr.next (.pointer (some ⟨b,0,none⟩)) false ty).run P w = .ok (.tuple #[.bool false]) w:=by
 have h1:¬clk≤e.born:=by omega
 simp[Instr.next,getObj,Sem.run_bind,Sem.run,hb,hm,Result.andThen,choose,Question.forced,h1]
theorem run_nextN {P:Program} {w:World} {b:Nat} (ty:TypeId) (hb:w.heap[b]? = some (.mapIter none 0 #[] 0)):
 (Instr.next (.pointer (some ⟨b,0,none⟩)) false ty).run P w = .ok (.tuple #[.bool false]) w:=by
 simp[Instr.next,getObj,Sem.run_bind,Sem.run,hb,Result.andThen]
theorem run_entry1 {P:Program} {w:World} {b m clk:Nat} {e:MapEntry} (hb:w.heap[b]? = some (.mapIter (some m) clk #[e.born] clk)) (hm:w.heap[m]? = some (.map #[e] clk)):
 (Instr.entry (.pointer (some ⟨b,0,none⟩))).run P w = .ok (.tuple #[e.key,e.val]) w:=by
 simp[Instr.entry,getObj,Sem.run_bind,Sem.run,hb,hm,Result.andThen]
theorem repM_one {ρ:Nat→Option Nat} {E:Nat→Prop} {w:World} {k:Value} {v:AV} {arr:Array MapEntry} (h:RepM ρ E w [(k,v)] arr.toList):∃e,arr = #[e]∧e.key=k∧Rep ρ E w v e.val:=by
 simp only[RepM]at h
 obtain⟨e,es',ha,hk,hv,rfl⟩:=h
 exact⟨e,by cases arr;simpa using ha,hk,hv⟩
theorem repM_nil {ρ:Nat→Option Nat} {E:Nat→Prop} {w:World} {arr:Array MapEntry} (h:RepM ρ E w [] arr.toList):arr = #[]:=by
 simp only[RepM]at h
 cases arr;simpa using h
theorem miter_change {lo:Nat→Prop} {w0:World} {ρ:Nat→Option Nat} {E:Nat→Prop} {H:Hp} {w:World} (inv:Inv lo w0 ρ E H w) {i b m clk:Nat} {arr:Array MapEntry} {es:List (Value×AV)} {o:Obj} (hk:H.get i=some (.miter es 0)) (hb:ρ i=some b)
 (hw:w.heap[b]? = some (.mapIter (some m) clk #[] clk)) (hE:E m) (hm:w.heap[m]? = some (.map arr clk)) (hr:RepM nowhere E w es arr.toList) (hbo:Born arr clk) (ho:o = .mapIter (some m) clk ((arr.toList.take 1).map (·.born)).toArray clk):
 Inv lo w0 ρ E (H.put i (some (.miter es 1))) {w with heap:=w.heap.setIfInBounds b o}∧Ext ρ E w ρ E {w with heap:=w.heap.setIfInBounds b o}:=by
 have hlt:b<w.heap.size:=(Array.getElem?_eq_some_iff.1 hw).1
 refine inv.change i b _ (.miter es 1) hk hb (fun j hj=> ?_) (by simp) (fun c T f h=>by rw[hw]at h;cases h) (fun ext=> .inr ⟨m,arr,clk,hE,(ext.same _ hE).trans hm,RepM.mono ext.none _ _ hr,hbo,?_⟩)
 ·simp only[Array.getElem?_setIfInBounds];rw[if_neg (fun e=>hj e.symm)]
 ·simp only[Array.getElem?_setIfInBounds];rw[if_pos trivial,if_pos hlt,ho]
theorem ok_nextM {P:Program} {lo:Nat→Prop} {w0:World} {ρ:Nat→Option Nat} {E:Nat→Prop} {H:Hp} {w:World} (inv:Inv lo w0 ρ E H w) {x v:AV} {u:Value} {H':Hp} (ty:TypeId) (h:nextM H x=some (v,H')) (r:Rep ρ E w x u):
 OkH P lo w0 ρ E w (Instr.next u false ty) v H':=by
 unfold nextM at h
 split at h
 ·rename_i i off
  cases ho:Nat.beq off 0 with
  |false=>rw[ho]at h;cases h
  |true=>
   obtain rfl:=Nat.eq_of_beq_eq_true ho
   rw[ho]at h
   simp only[cond_true]at h
   simp only[Rep]at r
   obtain⟨b,hb,rfl⟩:=r
   split at h
   ·rename_i es n hk
    have hblk:=inv.blk i _ b hk hb
    have over:(Instr.next (.pointer (some ⟨b,0,none⟩)) false ty).run P w = .ok (.tuple #[.bool false]) w→OkH P lo w0 ρ E w (Instr.next (.pointer (some ⟨b,0,none⟩)) false ty) (.tup [.sc (.bool false)]) H:=by
     intro hrun
     exact⟨_,w,ρ,hrun,inv,Ext.refl,by simp only[Rep];exact⟨_,rfl,RepL.cons (by simp only[Rep]) RepL.nil⟩⟩
    unfold nextE at h
    split at h
    ·cases hn:Nat.beq n 0 with
     |false=>rw[hn]at h;cases h
     |true=>
      obtain rfl:=Nat.eq_of_beq_eq_true hn
      rw[hn]at h
      cases h
      rcases hblk with⟨_,_,hc⟩|⟨m,arr,clk,he,hm,hr,hbo,hc⟩
      ·exact over (run_nextN ty hc)
      ·obtain rfl:=repM_nil hr
       exact over (run_nextM0 ty (by simpa using hc) hm)
    ·rename_i k v0
     rcases hblk with⟨hnil,_,_⟩|⟨m,arr,clk,he,hm,hr,hbo,hc⟩
     ·cases hnil
     ·obtain⟨e,rfl,hke,hve⟩:=repM_one hr
      have hlt:e.born<clk:=hbo.1 e (by simp)
      cases hn:Nat.beq n 0 with
      |true=>
       obtain rfl:=Nat.eq_of_beq_eq_true hn
       rw[hn]at h
       cases h
       have hc':w.heap[b]? = some (.mapIter (some m) clk #[] clk):=by simpa using hc
       obtain⟨inv',ext⟩:=miter_change (o:= .mapIter (some m) clk #[e.born] clk) inv hk hb hc' he hm hr hbo (by simp)
       refine⟨_,_,ρ,run_nextM1 ty hc' hm hlt,inv',ext,?_⟩
       simp only[Rep]
       exact⟨_,rfl,RepL.cons (by simp only[Rep]) (RepL.cons (by rw[hke];exact Rep.ofV k) (RepL.cons (Rep.mono ext _ _ (Rep.up hve)) RepL.nil))⟩
      |false=>
       rw[hn]at h
       simp only[cond_false]at h
       cases hn1:Nat.beq n 1 with
       |false=>rw[hn1]at h;cases h
       |true=>
        obtain rfl:=Nat.eq_of_beq_eq_true hn1
        rw[hn1]at h
        cases h
        exact over (run_nextM2 ty (by simpa using hc) hm hlt)
    ·cases h
   ·cases h
 ·cases h
theorem ok_entry {P:Program} {lo:Nat→Prop} {w0:World} {ρ:Nat→Option Nat} {E:Nat→Prop} {H:Hp} {w:World} (inv:Inv lo w0 ρ E H w) {x v:AV} {u:Value} (h:entryA H x=some v) (r:Rep ρ E w x u):
 OkP P ρ E w (Instr.entry u) v:=by
 unfold entryA at h
 split at h
 ·rename_i i off
  cases ho:Nat.beq off 0 with
  |false=>rw[ho]at h;cases h
  |true=>
   obtain rfl:=Nat.eq_of_beq_eq_true ho
   rw[ho]at h
   simp only[cond_true]at h
   simp only[Rep]at r
   obtain⟨b,hb,rfl⟩:=r
   split at h
   ·rename_i es n hk
    have hblk:=inv.blk i _ b hk hb
    unfold entryE at h
    split at h
    ·rename_i k v0
     cases hn1:Nat.beq n 1 with
     |false=>rw[hn1]at h;cases h
     |true=>
      obtain rfl:=Nat.eq_of_beq_eq_true hn1
      rw[hn1]at h
      cases h
      rcases hblk with⟨hnil,_,_⟩|⟨m,arr,clk,he,hm,hr,hbo,hc⟩
      ·cases hnil
      ·obtain⟨e,rfl,hke,hve⟩:=repM_one hr
       refine⟨_,run_entry1 (by simpa using hc) hm,?_⟩
       simp only[Rep]
       exact⟨_,rfl,RepL.cons (by rw[hke];exact Rep.ofV k) (RepL.cons (Rep.up hve) RepL.nil)⟩
    ·cases h
   ·cases h
 ·cases h
theorem run_next_some {P:Program} {w:World} {b p:Nat} {s:ByteArray} (ty:TypeId) (hb:w.heap[b]? = some (.stringIter s p)) (hp:p<s.size):
 (Instr.next (.pointer (some ⟨b,0,none⟩)) true ty).run P w = .ok (.tuple #[.bool true, .int .i64 p, .int .i32 ((Utf8.decode s p).1:Nat)]) {w with heap:=w.heap.setIfInBounds b (.stringIter s (p+(Utf8.decode s p).2))}:=by
 simp only[Instr.next,getObj,setObj,Sem.run_bind,Sem.run,hb,Result.andThen,hp,if_true,Sem.run_pure,goInt]
theorem run_next_over {P:Program} {w:World} {b p:Nat} {s:ByteArray} (ty:TypeId) (hb:w.heap[b]? = some (.stringIter s p)) (hp:¬p<s.size):
 (Instr.next (.pointer (some ⟨b,0,none⟩)) true ty).run P w = .ok (.tuple #[.bool false]) w:=by
 simp only[Instr.next,getObj,Sem.run_bind,Sem.run,hb,Result.andThen,hp,if_false,Sem.run_pure]
theorem iter_change {lo:Nat→Prop} {w0:World} {ρ:Nat→Option Nat} {E:Nat→Prop} {H:Hp} {w:World} (inv:Inv lo w0 ρ E H w) {i b p q:Nat} {s:ByteArray} {pos pos':Int} {kn:Bool} (hk:H.get i=some (.siter s pos kn)) (hb:ρ i=some b)
 (hw:w.heap[b]? = some (.stringIter s p)) (hq:pos'=(q:Int)):
 Inv lo w0 ρ E (H.put i (some (.siter s pos' kn))) {w with heap:=w.heap.setIfInBounds b (.stringIter s q)}∧Ext ρ E w ρ E {w with heap:=w.heap.setIfInBounds b (.stringIter s q)}:=by
 have hlt:b<w.heap.size:=(Array.getElem?_eq_some_iff.1 hw).1
 refine inv.change i b _ (.siter s pos' kn) hk hb (fun j hj=> ?_) (by simp) (fun c T f h=>by rw[hw]at h;cases h) (fun _=>⟨q,hq,?_⟩)
 ·simp only[Array.getElem?_setIfInBounds];rw[if_neg (fun e=>hj e.symm)]
 ·simp only[Array.getElem?_setIfInBounds];rw[if_pos trivial,if_pos hlt]
theorem ok_next {P:Program} {lo:Nat→Prop} {w0:World} {ρ:Nat→Option Nat} {E:Nat→Prop} {H:Hp} {w:World} (inv:Inv lo w0 ρ E H w) {x v:AV} {isS:Bool} {u:Value} {H':Hp} (ty:TypeId) (h:nextA H x isS=some (v,H')) (r:Rep ρ E w x u):
 OkH P lo w0 ρ E w (Instr.next u isS ty) v H':=by
 cases isS with
 |false=>exact ok_nextM inv ty (by simpa only[nextA,cond_false]using h) r
 |true=>
  simp only[nextA,cond_true]at h
  split at h
  ·rename_i i off
   cases ho:Nat.beq off 0 with
   |false=>rw[ho]at h;cases h
   |true=>
    obtain rfl:=Nat.eq_of_beq_eq_true ho
    rw[ho]at h
    simp only[cond_true]at h
    simp only[Rep]at r
    obtain⟨b,hb,rfl⟩:=r
    split at h
    ·rename_i s pos kn hk
     obtain⟨p,rfl,hw⟩:=inv.blk i _ b hk hb
     cases kn with
     |true=>
      simp only[cond_true,Option.some.injEq,nextK,Int.toNat_natCast]at h
      cases hp:Nat.blt p s.size with
      |true=>
       rw[hp]at h
       cases h
       obtain⟨inv',ext⟩:=iter_change inv hk hb hw (q:=p+(Utf8.decode s p).2) rfl
       refine⟨_,_,ρ,run_next_some ty hw (by rw[Nat.blt_eq]at hp;exact hp),inv',ext,?_⟩
       simp only[Rep]
       exact⟨_,rfl,RepL.cons (by simp only[Rep]) (RepL.cons (by simp only[Rep]) (RepL.cons (by simp only[Rep]) RepL.nil))⟩
      |false=>
       rw[hp]at h
       cases h
       refine⟨_,w,ρ,run_next_over ty hw (fun e=>by rw[← Nat.blt_eq]at e;rw[e]at hp;cases hp),inv,Ext.refl,?_⟩
       simp only[Rep]
       exact⟨_,rfl,RepL.cons (by simp only[Rep]) RepL.nil⟩
     |false=>
      simp only[cond_false,Option.some.injEq,nextU]at h
      cases h
      have hc:qcmp .lss (p:Int) (qlenS s)=decide (p<s.size):=by
       simp only[qcmp,qlenS,veil_eq,rcmp]
       exact decide_eq_decide.2 (by omega)
      by_cases hp:p<s.size
      ·have e1:qiteI (qcmp .lss (p:Int) (qlenS s)) (qrw s p) p=((p+(Utf8.decode s p).2:Nat):Int):=by
        rw[hc,decide_eq_true hp]
        simp only[qiteI,qrw,veil_eq,cond_true,Int.toNat_natCast]
        omega
       rw[e1]
       obtain⟨inv',ext⟩:=iter_change inv hk hb hw (q:=p+(Utf8.decode s p).2) rfl
       refine⟨_,_,ρ,run_next_some ty hw hp,inv',ext,?_⟩
       simp only[Rep]
       exact .inl ⟨by rw[hc];exact decide_eq_true hp,_,_,_,rfl,rfl,rfl,by simp only[qrune,veil_eq,Int.toNat_natCast]⟩
      ·have e1:qiteI (qcmp .lss (p:Int) (qlenS s)) (qrw s p) p=(p:Int):=by
        rw[hc,decide_eq_false hp]
        simp only[qiteI,veil_eq,cond_false]
       rw[e1]
       have hput:w = {w with heap:=w.heap.setIfInBounds b (.stringIter s p)}:=by
        have:w.heap.setIfInBounds b (.stringIter s p)=w.heap:=by
         apply Array.ext_getElem?
         intro j
         simp only[Array.getElem?_setIfInBounds]
         split
         ·rename_i e
          subst e
          rw[hw,if_pos (Array.getElem?_eq_some_iff.1 hw).1]
         ·rfl
        rw[this]
       obtain⟨inv',ext⟩:=iter_change inv hk hb hw (q:=p) (pos':=(p:Int)) rfl
       rw[← hput]at inv' ext
       refine⟨_,w,ρ,run_next_over ty hw hp,inv',ext,?_⟩
       simp only[Rep]
       exact .inr ⟨by rw[hc];exact decide_eq_false hp,trivial⟩
    ·cases h
  ·cases h
end
end Go.AM
