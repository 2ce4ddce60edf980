/-
  Readings of arguments give data that stands for them.
-/
import Derived.Test.YteccopaonadbeaaGreatDoorAmK
import Derived.ChangeArms
set_option linter.unusedVariables false
set_option linter.unusedSimpArgs false
namespace Go.AM
mutual
def toD {H:Type}:DataW H→D
 | .lit (.int _ n)=> .int n
 | .lit (.bool b)=> .bool b
 | .lit (.string l)=> .str ⟨l.toArray⟩
 | .lit _=> .other
 | .nil=> .list []
 | .slice xs _=> .list (toDs xs)
 | .agg xs=> .agg (toDs xs)
 | .ptr _=> .other
 | .iface _ _=> .other
 | .map _=> .other
 | .held _=> .other
def toDs {H:Type}:List (DataW H)→List D
 | []=>[]
 |x::xs=>toD x::toDs xs
end
theorem toDs_map {H:Type}:∀xs:List (DataW H),toDs xs=xs.map toD
 | []=>rfl
 |x::xs=>by simp only[toDs,List.map_cons,toDs_map xs]
inductive Conf (P:Program):TypeId→D→Prop
 |int {T:TypeId} {k:IntKind} {n:Int} (h:P.underlying T=some (.int k)) (h1:k.min≤n) (h2:n≤k.max):Conf P T (.int n)
 |bool {T:TypeId} {b:Bool} (h:P.underlying T=some .bool):Conf P T (.bool b)
 |str {T:TypeId} {s:ByteArray} (h:P.underlying T=some .string) (hl:s.size≤maxLen):Conf P T (.str s)
 |slice {T e:TypeId} {xs:List D} (h:P.underlying T=some (.slice e)) (hl:xs.length≤maxLen) (hd:∀x∈xs,Conf P e x):Conf P T (.list xs)
 |struct {T:TypeId} {fs:Array Field} {ds:List D} (h:P.underlying T=some (.struct fs)) (hl:ds.length=fs.size) (hd:∀j f,fs.toList[j]? = some f→Conf P f.type (ds.getD j .other)):Conf P T (.agg ds)
 |array {T e:TypeId} {m:Nat} {ds:List D} (h:P.underlying T=some (.array m e)) (hl:ds.length=m) (hd:∀j,j<m→Conf P e (ds.getD j .other)):Conf P T (.agg ds)
 |other {T:TypeId} {d:D} (h:isOther P T=true):Conf P T d
def okType (P:Program) (t:TypeId):Bool:=
 match P.underlying t with
 |some (.struct fs)=>fs.toList.all fun f=>decide (f.offset+P.cellsOf f.type≤P.cellsOf t∧f.type<P.types.size)
 |some (.array m e)=>decide (m*P.cellsOf e≤P.cellsOf t∧e<P.types.size)
 |some (.slice e)=>decide (0<P.cellsOf e∧e<P.types.size)
 |_=>true
def okTypes (P:Program):Bool:=(List.range P.types.size).all (okType P)
theorem okTypes_at {P:Program} (h:okTypes P=true) {t:TypeId} (ht:t<P.types.size):okType P t=true:=
 List.all_eq_true.1 h t (by simpa using ht)
theorem mapM_len {α β:Type} {f:α→Option β}:∀{xs:List α} {ys:List β},xs.mapM f=some ys→ys.length=xs.length
 | [],ys,h=>by simp at h;subst h;rfl
 |x::xs,ys,h=>by
  rw[List.mapM_cons]at h
  cases hx:f x with
  |none=>simp[hx]at h
  |some y=>
   cases hr:xs.mapM f with
   |none=>simp[hx,hr]at h
   |some zs=>simp[hx,hr]at h;subst h;simp[mapM_len hr]
theorem mapM_get {α β:Type} {f:α→Option β}:∀{xs:List α} {ys:List β},xs.mapM f=some ys→∀(i:Nat) (y:β),ys[i]? = some y→∃x,xs[i]? = some x∧f x=some y
 | [],ys,h,i,y,hy=>by simp at h;subst h;simp at hy
 |x::xs,ys,h,i,y,hy=>by
  rw[List.mapM_cons]at h
  cases hx:f x with
  |none=>simp[hx]at h
  |some z=>
   cases hr:xs.mapM f with
   |none=>simp[hx,hr]at h
   |some zs=>
    simp[hx,hr]at h
    subst h
    cases i with
    |zero=>simp at hy;subst hy;exact⟨x,rfl,hx⟩
    |succ i=>simp at hy;simpa using mapM_get hr i y hy
theorem cells?_get {w:World} {a:Addr} {n:Nat} {cs:List Value} (h:w.cells? 0 a n=some cs):cs.length=n∧∀j u,cs[j]? = some u→w.cell? (a.add j)=some u:=by
 simp only[World.cells?,Nat.zero_le,if_true]at h
 refine⟨by simpa using mapM_len h,fun j u hu=> ?_⟩
 obtain⟨x,hx,hf⟩:=mapM_get h j u hu
 have hj:x=j:=by
  rw[List.getElem?_range]at hx
  ·simpa using hx.symm
  ·have:=(List.getElem?_eq_some_iff.1 hx).1;simpa using this
 subst hj
 exact hf
theorem cell?_lt {w:World} {a:Addr} {u:Value} (h:w.cell? a=some u):a.block<w.heap.size∧a.spot=none:=by
 unfold World.cell? at h
 split at h
 ·rename_i c T f hb
  refine⟨(Array.getElem?_eq_some_iff.1 hb).1,?_⟩
  cases hs:a.spot with
  |none=>rfl
  |some x=>simp[hs]at h
 ·cases h
theorem trod_rep {H:Type} {enc:TypeId×Value→H} {P:Program} {w:World} {spare:Nat→Bool} {held:Bool} (hok:okTypes P=true):∀(fuel:Nat) (t:TypeId) (cs:List Value) (d:DataW H) (ps:List MemPlace),
 DataW.trod enc P w 0 spare held fuel t cs=some (d,ps)→cs.length=P.cellsOf t→t<P.types.size→RepD P (fun b=>b<w.heap.size) w t (toD d) cs∧Conf P t (toD d)
 |0,_,_,_,_,h,_,_=>by simp[DataW.trod]at h
 |fuel+1,t,cs,d,ps,h,hl,hts=>by
  have ih:=trod_rep hok fuel (enc:=enc) (w:=w) (spare:=spare) (held:=held)
  have hot:=okTypes_at hok hts
  cases hu:P.underlying t with
  |none=>exact⟨.other (by simp[isOther,hu]) hl, .other (by simp[isOther,hu])⟩
  |some td=>
   cases td with
   |int k=>
    obtain⟨n,rfl,hx,hw⟩:=DataW.trod_int hu h
    cases hx
    simp only[Lit.wf,Bool.and_eq_true,decide_eq_true_eq]at hw
    exact⟨.int hu, .int hu hw.1 hw.2⟩
   |bool=>
    obtain⟨b,rfl,hx⟩:=DataW.trod_bool hu h
    cases hx
    exact⟨.bool hu, .bool hu⟩
   |string=>
    obtain⟨s,rfl,hx,hs⟩:=DataW.trod_string hu h
    cases hx
    have:(⟨s.data.toList.toArray⟩:ByteArray)=s:=by simp
    simp only[toD,this]
    exact⟨.str hu, .str hu hs⟩
   |slice e=>
    simp only[okType,hu,decide_eq_true_eq]at hot
    rcases DataW.trod_slice hu h with⟨rfl,hx⟩|⟨a,len,cap,elems,rest,n,hn,rfl,hx,_,hlc,hcm,hel,hcell,_,_⟩
    ·cases hx
     exact⟨.slice (d:= .list []) (fun _=>[]) hu (Nat.le_refl _) (.inl rfl) (fun i x hx=>by simp[D.toList]at hx), .slice hu (Nat.zero_le _) (fun x hx=>by cases hx)⟩
    ·cases hx
     cases hn
     have hrow:∀i,i<len→∃row dx px,w.cells? 0 (a.add (i*P.cellsOf e)) (P.cellsOf e)=some row∧DataW.trod enc P w 0 spare held fuel e row=some (dx,px)∧elems[i]? = some (dx,px):=by
      intro i hi
      have h1:=hcell i hi
      have h2:elems[i]? = some elems[i]:=List.getElem?_eq_getElem (by omega)
      rw[h2]at h1
      obtain⟨row,hr,ht⟩:=Option.bind_eq_some_iff.1 h1
      exact⟨row,elems[i].1,elems[i].2,hr,ht,h2⟩
     have hlist:toDs (elems.map (·.1))=elems.map (fun x=>toD x.1):=by rw[toDs_map,List.map_map];rfl
     have hlen:(toDs (elems.map (·.1))).length=len:=by rw[hlist,List.length_map,hel]
     have hspot:0<len→a=⟨a.block,a.off,none⟩∧a.block<w.heap.size:=by
      intro h0
      obtain⟨row,dx,px,hr,_,_⟩:=hrow 0 h0
      obtain⟨h1,h2⟩:=cells?_get hr
      have h3:=h2 0 row[0] (List.getElem?_eq_getElem (by omega))
      obtain⟨h4,h5⟩:=cell?_lt h3
      simp only[Nat.zero_mul,Addr.add,if_true]at h4 h5
      exact⟨by cases a;simp_all,h4⟩
     have hrep:RepD P (fun b=>b<w.heap.size) w t (.list (toDs (elems.map (·.1)))) [.slice (some a) (toDs (elems.map (·.1))).length cap]:=by
      refine .slice (d:= .list (toDs (elems.map (·.1)))) (fun i=>((w.cells? 0 (a.add (i*P.cellsOf e)) (P.cellsOf e)).getD [])) hu (by simp only[D.toList];omega) ?_ ?_
      ·by_cases h0:0<len
       ·obtain⟨ha,hb⟩:=hspot h0
        refine .inr ⟨a.block,a.off,congrArg some ha,hb,fun i hi=> ?_⟩
        simp only[D.toList]at hi
        rw[hlen]at hi
        obtain⟨row,dx,px,hr,_,_⟩:=hrow i hi
        obtain⟨h1,h2⟩:=cells?_get hr
        simp only[hr,Option.getD_some]
        refine⟨h1,fun j u hu=> ?_⟩
        have:=h2 j u hu
        rw[ha,Addr.add_none,Addr.add_none]at this
        exact this
       ·left
        simp only[D.toList]
        rw[← List.length_eq_zero_iff,hlen];omega
      ·intro i x hx
       simp only[D.toList]at hx
       have hi:i<len:=by rw[← hlen];exact(List.getElem?_eq_some_iff.1 hx).1
       obtain⟨row,dx,px,hr,ht,he⟩:=hrow i hi
       rw[hlist,List.getElem?_map,he]at hx
       simp only[Option.map_some,Option.some.injEq]at hx
       subst hx
       simp only[hr,Option.getD_some]
       exact(ih e row dx px ht (cells?_get hr).1 hot.2).1
     rw[hlen]at hrep
     refine⟨hrep, .slice hu (by omega) fun x hx=> ?_⟩
     obtain⟨i,hi⟩:=List.getElem?_of_mem hx
     have hi':i<len:=by rw[← hlen];exact(List.getElem?_eq_some_iff.1 hi).1
     obtain⟨row,dx,px,hr,ht,he⟩:=hrow i hi'
     rw[hlist,List.getElem?_map,he]at hi
     simp only[Option.map_some,Option.some.injEq]at hi
     subst hi
     exact(ih e row dx px ht (cells?_get hr).1 hot.2).2
   |struct fs=>
    simp only[okType,hu,List.all_eq_true,decide_eq_true_eq]at hot
    obtain⟨xs,n,hn,hx,_,hxl,hfs⟩:=DataW.trod_struct hu h
    cases hx
    cases hn
    have hlist:toDs (xs.map (·.1))=xs.map (fun x=>toD x.1):=by rw[toDs_map,List.map_map];rfl
    have hf:∀j f,fs.toList[j]? = some f→∃dx px,DataW.trod enc P w 0 spare held fuel f.type ((cs.drop f.offset).take (P.cellsOf f.type))=some (dx,px)∧(toDs (xs.map (·.1))).getD j .other=toD dx∧((cs.drop f.offset).take (P.cellsOf f.type)).length=P.cellsOf f.type:=by
     intro j f hj
     have h1:=hfs j f (by simpa using hj)
     have hjl:j<xs.length:=by rw[hxl];have:=(List.getElem?_eq_some_iff.1 hj).1;simpa using this
     rw[List.getElem?_eq_getElem hjl]at h1
     have ho:=(hot f (List.mem_of_getElem? hj)).1
     refine⟨xs[j].1,xs[j].2,h1,?_,by simp;omega⟩
     rw[hlist,List.getD,List.getElem?_map,List.getElem?_eq_getElem hjl];rfl
    refine⟨.struct hu hl fun j f hj=> ?_, .struct hu (by rw[hlist,List.length_map,hxl]) fun j f hj=> ?_⟩
    ·obtain⟨dx,px,h1,h2,h3⟩:=hf j f hj
     rw[h2];exact(ih _ _ _ _ h1 h3 (hot f (List.mem_of_getElem? hj)).2).1
    ·obtain⟨dx,px,h1,h2,h3⟩:=hf j f hj
     rw[h2];exact(ih _ _ _ _ h1 h3 (hot f (List.mem_of_getElem? hj)).2).2
   |array m e=>
    simp only[okType,hu,decide_eq_true_eq]at hot
    unfold DataW.trod at h
    rw[hu]at h
    simp only[hl,if_true]at h
    cases hm:(List.range m).mapM fun i=>DataW.trod enc P w 0 spare held fuel e ((cs.drop (i*P.cellsOf e)).take (P.cellsOf e))with
    |none=>rw[hm]at h;cases h
    |some xs=>
     rw[hm]at h
     simp only[Option.map_some,Option.some.injEq,Prod.mk.injEq]at h
     obtain⟨rfl,rfl⟩:=h
     have hxl:xs.length=m:=by simpa using mapM_len hm
     have hlist:toDs (xs.map (·.1))=xs.map (fun x=>toD x.1):=by rw[toDs_map,List.map_map];rfl
     have hf:∀j,j<m→∃dx px,DataW.trod enc P w 0 spare held fuel e ((cs.drop (j*P.cellsOf e)).take (P.cellsOf e))=some (dx,px)∧(toDs (xs.map (·.1))).getD j .other=toD dx∧((cs.drop (j*P.cellsOf e)).take (P.cellsOf e)).length=P.cellsOf e:=by
      intro j hj
      have hjl:j<xs.length:=by omega
      obtain⟨i,hi,h1⟩:=mapM_get hm j xs[j] (List.getElem?_eq_getElem hjl)
      have hij:i=j:=by
       rw[List.getElem?_range hj]at hi
       simpa using hi.symm
      subst hij
      have hb:i*P.cellsOf e+P.cellsOf e≤m*P.cellsOf e:=by rw[← Nat.succ_mul];exact Nat.mul_le_mul_right _ hj
      refine⟨xs[i].1,xs[i].2,h1,?_,by simp;omega⟩
      rw[hlist,List.getD,List.getElem?_map,List.getElem?_eq_getElem hjl];rfl
     refine⟨.array hu hl fun j hj=> ?_, .array hu (by rw[hlist,List.length_map,hxl]) fun j hj=> ?_⟩
     ·obtain⟨dx,px,h1,h2,h3⟩:=hf j hj
      rw[h2];exact(ih _ _ _ _ h1 h3 hot.2).1
     ·obtain⟨dx,px,h1,h2,h3⟩:=hf j hj
      rw[h2];exact(ih _ _ _ _ h1 h3 hot.2).2
   |_=>exact⟨.other (by simp[isOther,hu]) hl, .other (by simp[isOther,hu])⟩
end Go.AM
