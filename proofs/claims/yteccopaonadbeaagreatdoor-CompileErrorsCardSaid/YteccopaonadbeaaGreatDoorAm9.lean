/-
  Single operations: append, copy, maps.
-/
import Derived.Test.YteccopaonadbeaaGreatDoorAm8
set_option linter.unusedVariables false
set_option linter.unusedSimpArgs false
namespace Go.AM
set_option linter.unusedSimpArgs false
section
variable {P:Program} {lo:Nat→Prop} {w0:World} {ρ:Nat→Option Nat} {E:Nat→Prop} {H:Hp} {w:World}
theorem RepRows.flat {b z:Nat}:∀{xs:List (List AV)} {off:Nat},RepRows ρ E w b off z xs→∀j c,xs.flatten[j]? = some c→∃v,w.cell? ⟨b,off+j,none⟩=some v∧Rep ρ E w c v
 | [],_,_,j,c,hj=>by simp at hj
 |x::xs,off,h,j,c,hj=>by
  simp only[RepRows]at h
  obtain⟨h1,h2,h3⟩:=h
  simp only[List.flatten_cons]at hj
  by_cases hlt:j<x.length
  ·rw[List.getElem?_append_left hlt]at hj
   exact h2.get hj
  ·rw[List.getElem?_append_right (by omega)]at hj
   obtain⟨v,hv,hr⟩:=RepRows.flat h3 (j-x.length) c hj
   exact⟨v,by rw[show off+j=off+z+(j-x.length)from by omega];exact hv,hr⟩
theorem flatten_len {z:Nat}:∀{xs:List (List AV)},xs.all (fun x=>x.length==z)=true→xs.flatten.length=xs.length*z
 | [],_=>by simp
 |x::xs,h=>by
  simp only[List.all_cons,Bool.and_eq_true,beq_iff_eq]at h
  simp only[List.flatten_cons,List.length_append,List.length_cons,flatten_len h.2,h.1,Nat.succ_mul]
  omega
theorem rowsOf_rep (inv:Inv lo w0 ρ E H w) {z n:Nat} {x:AV} {u:Value} {cs:List AV} (h:rowsOf z H x=some (cs,n)) (r:Rep ρ E w x u):
 ∃a cap vs,u = .slice a n cap∧cs.length=n*z∧RepL ρ E w cs vs∧(vs = []∨∃b off,a=some ⟨b,off,none⟩∧∀j v,vs[j]? = some v→w.cell? ⟨b,off+j,none⟩=some v):=by
 unfold rowsOf at h
 split at h
 ·rename_i i z' off len
  cases hg:getB H i with
  |none=>simp[hg]at h
  |some bs=>
   simp only[hg,Option.bind_some]at h
   split at h
   ·rename_i hc
    obtain⟨rfl,hfit⟩:=hc
    simp only[Option.some.injEq,Prod.mk.injEq]at h
    obtain⟨rfl,rfl⟩:=h
    have hcon:contents H (.ptr i off)=some (bs.drop off):=by simp[contents,hg]
    simp only[Rep]at r
    obtain⟨b,cap,hb,rfl,_⟩:=r
    obtain⟨b',off',e,hcell⟩:=contents_at inv hcon (u:= .pointer (some ⟨b,off,none⟩)) rfl (by simp only[Rep];exact⟨b,hb,rfl⟩)
    simp only[Value.pointer.injEq,Option.some.injEq,Addr.mk.injEq,and_true]at e
    obtain⟨rfl,rfl⟩:=e
    obtain⟨vs,hvl,hrl,hcs⟩:=cells_list (cs:=(bs.drop off).take (len*z')) (fun j c hj=>hcell j c (by rw[List.getElem?_take]at hj;split at hj;exact hj;cases hj))
    exact⟨_,cap,vs,rfl,by simp only[List.length_take,List.length_drop];omega,hrl, .inr ⟨b,off,rfl,hcs⟩⟩
   ·cases h
 ·rename_i xs
  split at h
  ·rename_i hall
   simp only[Option.some.injEq,Prod.mk.injEq]at h
   obtain⟨rfl,rfl⟩:=h
   simp only[Rep]at r
   obtain⟨a,cap,rfl,_,hr⟩:=r
   rcases hr with rfl|⟨b,off,z',rfl,_,hr⟩
   ·exact⟨a,cap,[],rfl,by simp,by simpa using RepL.nil, .inl rfl⟩
   ·obtain⟨vs,hvl,hrl,hcs⟩:=cells_list (cs:=xs.flatten) (fun j c hj=>let⟨v,hv,hr'⟩:=hr.flat j c hj;⟨v,hv,hr'.up⟩)
    exact⟨_,cap,vs,rfl,flatten_len hall,hrl, .inr ⟨b,off,rfl,hcs⟩⟩
  ·cases h
 ·cases h
  simp only[Rep]at r
  subst r
  exact⟨none,0,[],rfl,by simp,RepL.nil, .inl rfl⟩
 ·cases h
  simp only[Rep]at r
  obtain⟨a,rfl⟩:=r
  exact⟨a,0,[],rfl,by simp,RepL.nil, .inl rfl⟩
 ·cases h
theorem RepL.ones {cs:List AV} {vs:List Value} (h:cs.all one=true) (r:RepL ρ E w cs vs):∀v∈vs,v.oneCell'=true:=by
 intro v hv
 obtain⟨j,hj⟩:=List.getElem?_of_mem hv
 have hjl:j<cs.length:=by rw[r.length];exact(List.getElem?_eq_some_iff.1 hj).1
 obtain⟨v',hv',hrv⟩:=r.get (List.getElem?_eq_getElem hjl)
 rw[hj]at hv';cases hv'
 exact one_cell (List.all_eq_true.1 h _ (List.getElem_mem hjl)) hrv
theorem run_append_room' (t ty e:TypeId) (i:TypeInfo) (ht:P.underlying t=some (.slice e)) (hi:P.info? e=some i)
 (g sLen sCap:Nat) (cur:Array Value) (T:TypeId) (hg:w.heap[g]? = some (.cells cur T (0,0)))
 (a:Addr) (m c:Nat) (news:List Value) (hl:news.length=m*i.size) (hnews:∀j u,news[j]? = some u→w.cell? (a.add j)=some u) (h1:∀u∈news,u.oneCell'=true)
 (hroom:sLen+m≤sCap) (hfit:sLen*i.size+news.length≤cur.size):
 (Builtin.append_ #[t,t] ty #[.slice (some ⟨g,0,none⟩) sLen sCap, .slice (some a) m c]).run P w =
  .ok (.slice (some ⟨g,0,none⟩) (sLen+m) sCap) (w.setRow g (cur.toList.take (sLen*i.size)++news++cur.toList.drop (sLen*i.size+news.length)).toArray):=by
 have hf:=run_firstCells_some (P:=P) w i.size m a m c news hl hnews
 have hst:=run_storeCells_at P g (sLen*i.size) T news 0 cur w hg (by simpa using hfit) h1
 simp only[Nat.add_zero]at hst
 simp[Builtin.append_,run_underlying ht,sizeOf,typeInfo,hi,Builtin.lenOf,hroom,hf,Addr.add_lit,hst]
theorem run_append_none (t ty e:TypeId) (i:TypeInfo) (ht:P.underlying t=some (.slice e)) (hi:P.info? e=some i) (base a:Option Addr) (sLen sCap c:Nat) (h:sLen≤sCap):
 (Builtin.append_ #[t,t] ty #[.slice base sLen sCap, .slice a 0 c]).run P w = .ok (.slice base sLen sCap) w:=by
 have hf:(Builtin.firstCells i.size 0 (.slice a 0 c)).run P w = .ok #[] w:=by cases a<;>simp[Builtin.firstCells,loadCells,loadCellsFrom]
 cases base<;>simp[Builtin.append_,run_underlying ht,sizeOf,typeInfo,hi,Builtin.lenOf,h,hf,storeCells]
theorem size_zc (z:Array Value) (n:Nat):(Builtin.zeroCells z n).size=n*z.size:=by simp[Builtin.zeroCells]
theorem ok_append (inv:Inv lo w0 ρ E H w) {T ty:TypeId} {s x v:AV} {su xu:Value} {H':Hp} (h:appendA P T s x H=some (v,H')) (rs:Rep ρ E w s su) (rx:Rep ρ E w x xu):
 OkH P lo w0 ρ E w (Builtin.append_ #[T,T] ty #[su,xu]) v H':=by
 unfold appendA at h
 split at h
 case h_2=>cases h
 case h_1 e hu=>
  cases hi:P.info? e with
  |none=>simp[hi]at h
  |some info=>
   cases hz:zeroA P e with
   |none=>simp[hi,hz]at h
   |some z=>
    obtain⟨i0,zv,hi0,hz0,hrun,hrep⟩:=zeroA_rep hz
    rw[hi]at hi0;cases hi0
    cases hc:cellsOf z with
    |none=>simp[hi,hz,hc]at h
    |some zs=>
     cases hro:rowsOf info.size H x with
     |none=>simp[hi,hz,hc,hro]at h
     |some p=>
      obtain⟨new,n⟩:=p
      simp only[hi,hz,hc,hro,Option.bind_some]at h
      have hzr:=cellsOf_rep hc (hrep ρ E w)
      split at h
      case isTrue=>cases h
      case isFalse hcond=>
       have hs0:info.size≠0:=fun e=>hcond (.inl e)
       have hzl:zs.length=info.size:=Classical.byContradiction fun e=>hcond (.inr (.inl e))
       have hone:new.all one=true:=by
        cases hb:new.all one with
        |true=>rfl
        |false=>exact(hcond (.inr (.inr hb))).elim
       have hzsz:zv.cells.size=info.size:=by rw[← Array.length_toList, ← hzr.length,hzl]
       obtain⟨xa,xcap,vs,rfl,hlen,hrl,hcells⟩:=rowsOf_rep inv hro rx
       have hvl:vs.length=n*info.size:=by rw[← hrl.length,hlen]
       have h1:=hrl.ones hone
       split at h
       case h_4=>cases h
       case h_2=>
        simp only[Rep]at rs
        obtain⟨a,rfl⟩:=rs
        split at h
        ·rename_i hn
         subst hn
         simp only[Option.some.injEq,Prod.mk.injEq]at h
         obtain⟨rfl,rfl⟩:=h
         exact⟨_,w,ρ,run_append_none T ty e info hu hi a xa 0 0 xcap (Nat.le_refl _),inv,Ext.refl,by simp only[Rep];exact⟨a,rfl⟩⟩
        ·rename_i hn
         split at h
         ·rename_i hbd
          simp only[Option.some.injEq,Prod.mk.injEq]at h
          obtain⟨rfl,rfl⟩:=h
          rcases hcells with rfl|⟨b,off,rfl,hcs⟩
          ·simp only[List.length_nil]at hvl
           rcases Nat.mul_eq_zero.1 hvl.symm with e'|e'
           ·exact(hn e').elim
           ·exact(hs0 e').elim
          ·have hge:=grownCap_ge w n 0 e
           have hnl:new.length=vs.length:=hrl.length
           cases a with
           |none=>
            have hr:=run_append_nil (P:=P) w T ty e info zv hu hi hz0 ⟨b,off,none⟩ n xcap vs hvl (fun j v hv=>by rw[Addr.add_none];exact hcs j v hv) (by omega) (by omega) (by omega)
            have hsz:(vs.toArray++Builtin.zeroCells zv.cells (grownCap w n 0 e-n)).size=grownCap w n 0 e*info.size:=by
             simp only[Array.size_append,List.size_toArray,size_zc,hzsz,hvl, ← Nat.add_mul];congr 1;omega
            obtain⟨inv',ext⟩:=inv.pushCells (w':=w.drew.alloc (.cells (vs.toArray++Builtin.zeroCells zv.cells (grownCap w n 0 e-n)) e)) rfl (cs:=new)
             (by rw[hnl];simpa using hrl) (by simp;omega)
            refine⟨_,_,_,hr,inv',ext,?_⟩
            simp only[Rep]
            exact⟨_,_,upd_self _ _ _,rfl,hge,_,e,(0,0),heap_alloc_new w.drew _,by rw[hsz];omega⟩
           |some a0=>
            have hr:=run_append_grow (P:=P) w T ty e info zv hu hi hz0 a0 0 0 [] (by simp) (fun j v hv=>by simp at hv) ⟨b,off,none⟩ n xcap vs hvl
             (fun j v hv=>by rw[Addr.add_none];exact hcs j v hv) (by omega) (by omega) (growslice_fits (by omega) (by rw[Nat.zero_add];omega))
            simp only[Nat.zero_add]at hr
            have hsz:(([]:List Value).toArray++vs.toArray++Builtin.zeroCells zv.cells (grownCap w n 0 e-n)).size=grownCap w n 0 e*info.size:=by
             simp only[Array.size_append,List.size_toArray,List.length_nil,size_zc,hzsz,hvl,Nat.zero_add, ← Nat.add_mul];congr 1;omega
            obtain⟨inv',ext⟩:=inv.pushCells (w':=w.drew.alloc (.cells (([]:List Value).toArray++vs.toArray++Builtin.zeroCells zv.cells (grownCap w n 0 e-n)) e)) rfl (cs:=new)
             (by rw[hnl];simpa using hrl) (by simp;omega)
            refine⟨_,_,_,hr,inv',ext,?_⟩
            simp only[Rep]
            exact⟨_,_,upd_self _ _ _,rfl,hge,_,e,(0,0),heap_alloc_new w.drew _,by rw[hsz];omega⟩
         ·cases h
       case h_1=>
        simp only[Rep]at rs
        subst rs
        split at h
        ·rename_i hn
         subst hn
         simp only[Option.some.injEq,Prod.mk.injEq]at h
         obtain⟨rfl,rfl⟩:=h
         exact⟨_,w,ρ,run_append_none T ty e info hu hi none xa 0 0 xcap (Nat.le_refl _),inv,Ext.refl,by simp only[Rep]⟩
        ·rename_i hn
         split at h
         ·rename_i hbd
          simp only[Option.some.injEq,Prod.mk.injEq]at h
          obtain⟨rfl,rfl⟩:=h
          rcases hcells with rfl|⟨b,off,rfl,hcs⟩
          ·simp only[List.length_nil]at hvl
           rcases Nat.mul_eq_zero.1 hvl.symm with e'|e'
           ·exact(hn e').elim
           ·exact(hs0 e').elim
          ·have hr:=run_append_nil (P:=P) w T ty e info zv hu hi hz0 ⟨b,off,none⟩ n xcap vs hvl (fun j v hv=>by rw[Addr.add_none];exact hcs j v hv) (by omega) (by omega) (by omega)
           have hge:=grownCap_ge w n 0 e
           have hsz:(vs.toArray++Builtin.zeroCells zv.cells (grownCap w n 0 e-n)).size=grownCap w n 0 e*info.size:=by
            simp only[Array.size_append,List.size_toArray,size_zc,hzsz,hvl, ← Nat.add_mul];congr 1;omega
           have hnl:new.length=vs.length:=hrl.length
           obtain⟨inv',ext⟩:=inv.pushCells (w':=w.drew.alloc (.cells (vs.toArray++Builtin.zeroCells zv.cells (grownCap w n 0 e-n)) e)) rfl (cs:=new)
            (by rw[hnl];simpa using hrl) (by simp;omega)
           refine⟨_,_,_,hr,inv',ext,?_⟩
           simp only[Rep]
           exact⟨_,_,upd_self _ _ _,rfl,hge,_,e,(0,0),heap_alloc_new w.drew _,by rw[hsz];omega⟩
         ·cases h
       case h_3 i z' off len=>
        cases hg:getB H i with
        |none=>simp[hg]at h
        |some cs0=>
         simp only[hg,Option.bind_some]at h
         split at h
         case isFalse=>cases h
         case isTrue hcd=>
          obtain⟨rfl,rfl,hll⟩:=hcd
          simp only[Rep]at rs
          obtain⟨b,cap,hρ,rfl,hcap,c0,T0,f0,hc0,hfit0⟩:=rs
          split at h
          ·rename_i hn
           subst hn
           simp only[Option.some.injEq,Prod.mk.injEq]at h
           obtain⟨rfl,rfl⟩:=h
           exact⟨_,w,ρ,run_append_none T ty e info hu hi _ xa len cap xcap hcap,inv,Ext.refl,by simp only[Rep];exact⟨b,cap,hρ,rfl,hcap,c0,T0,f0,hc0,hfit0⟩⟩
          ·rename_i hn
           split at h
           case isFalse=>cases h
           case isTrue hbd=>
            simp only[Option.some.injEq,Prod.mk.injEq]at h
            obtain⟨rfl,rfl⟩:=h
            rcases hcells with rfl|⟨xb,xoff,rfl,hcs⟩
            ·simp only[List.length_nil]at hvl
             rcases Nat.mul_eq_zero.1 hvl.symm with e'|e'
             ·exact(hn e').elim
             ·exact(hs0 e').elim
            ·obtain⟨c9,T9,hcell,hlc0,hrc0⟩:=inv.cells hg hρ
             rw[hcell]at hc0
             cases hc0
             obtain⟨c,rfl⟩:∃c,c=c0:=⟨_,rfl⟩
             obtain⟨T',rfl⟩:∃T',T'=T0:=⟨_,rfl⟩
             obtain⟨cs,hcsd⟩:∃cs,cs=cs0.take (len*info.size):=⟨_,rfl⟩
             have hll0:=hll
             clear hll
             have hll:len*info.size=cs.length:=by rw[hcsd,List.length_take];omega
             have hlc:cs.length≤c.size:=by omega
             have hrc:RepL ρ E w cs (c.toList.take cs.length):=by
              have:=hrc0.take (len*info.size)
              rw[← hcsd,List.take_take,Nat.min_eq_left hll0,hll]at this
              exact this
             rw[← hcsd]
             have hnl:new.length=vs.length:=hrl.length
             have hcsl:=hrc.length
             by_cases hroom:len+n≤cap
             ·have hfit:len*info.size+vs.length≤c.size:=by
               have:(len+n)*info.size≤cap*info.size:=Nat.mul_le_mul_right _ hroom
               rw[Nat.add_mul]at this
               omega
              have hr:=run_append_room' (P:=P) T ty e info hu hi b len cap c T' hcell ⟨xb,xoff,none⟩ n xcap vs hvl (fun j v hv=>by rw[Addr.add_none];exact hcs j v hv) h1 hroom hfit
              have hi':=getB_lt hg
              generalize hc':(c.toList.take (len*info.size)++vs++c.toList.drop (len*info.size+vs.length)).toArray=c' at hr
              have hc's:c'.size=c.size:=by
               rw[← hc']
               simp only[List.size_toArray,List.length_append,List.length_take,List.length_drop,Array.length_toList];omega
              have hrow:(w.setRow b c').heap[b]? = some (.cells c' T' (0,0)):=setRow_heap w b c _ T' _ hcell
              obtain⟨inv1,ext1⟩:=inv.change (w':=w.setRow b c') i b _ (.cells (cs++new)) (getB_get hg).choose_spec.1 hρ (fun j hj=>setRow_other w b j _ hj) (by simp)
               (fun c1 T1 f1 h1'=>by rw[hcell]at h1';cases h1';exact⟨c',hrow,hc's⟩)
               (fun ext=>by
                refine⟨c',T',hrow,by rw[hc's];simp;omega,?_⟩
                have:RepL ρ E (w.setRow b c') (cs++new) (c.toList.take cs.length++vs):=(hrc.mono ext).app (hrl.mono ext)
                have e':c'.toList.take (cs++new).length=c.toList.take cs.length++vs:=by
                 rw[← hc', ← hll]
                 simp only[List.append_assoc]
                 rw[← List.append_assoc]
                 rw[List.take_append_of_le_length (by simp;omega),List.take_of_length_le (by simp;omega)]
                rw[e'];exact this)
              have inv2:=inv1.drop i hi'
              refine⟨_,_,upd ρ H.n b,hr,?_,?_,?_⟩
              ·have hput:((H.put i (some (.cells (cs++new)))).put i none)=H.put i none:=by simp[Hp.put]
               rw[hput]at inv2
               have hdead:(H.put i none).get i=none:=Hp.get_put_eq _ hi' inv.len
               have hcase:∀j b',upd ρ H.n b j=some b'→(j=H.n∧b'=b)∨(j<H.n∧ρ j=some b'):=fun j b' hb'=>by
                simp only[upd]at hb'
                split at hb'
                ·rename_i hj;exact .inl ⟨hj,by simpa using hb'.symm⟩
                ·exact .inr ⟨inv.dom j b' hb',hb'⟩
               have hmap:∀j b',ρ j=some b'→upd ρ H.n b j=some b':=fun j b' hb'=>by
                have:=inv.dom j b' hb'
                simp only[upd];rw[if_neg (by omega)];exact hb'
               have ext2:Ext ρ E (w.setRow b c') (upd ρ H.n b) E (w.setRow b c'):=⟨hmap,fun _ h=>h,fun _ _=>rfl,fun _ _ c _ _ _ h=>⟨c,h,rfl⟩,Nat.le_refl _⟩
               have hother:∀j k b',(H.put i none).get j=some k→ρ j=some b'→b'≠b:=fun j k b' hk hb' e'=>by
                have hji:i≠j:=fun e2=>by subst e2;rw[hdead]at hk;cases hk
                rw[Hp.get_put_ne _ hji hi']at hk
                exact hji (inv.inj i j _ _ b (getB_get hg).choose_spec.1 hk hρ (e'▸hb'))
               exact{gl:=gl_mono rfl ext2 inv1.gl,len:=Hp.push_len _ (Hp.put_len _ _ inv.len),
                     dom:=fun j b' hb'=>by
                      show j<H.n+1
                      rcases hcase j b' hb' with⟨h,_⟩|⟨h,_⟩<;>omega
                     blk:=fun j k b' hk hb'=>by
                      rcases hcase j b' hb' with⟨rfl,rfl⟩|⟨hj,hb''⟩
                      ·rw[show H.n=(H.put i none).n from rfl,Hp.get_push_eq]at hk
                       cases hk
                       have:=inv1.blk i _ b' (Hp.get_put_eq _ hi' inv.len) hρ
                       exact this.mono ext2 rfl
                      ·rw[Hp.get_push_lt (H:=H.put i none) _ hj]at hk
                       exact(inv2.blk j k b' hk hb'').mono ext2 rfl
                     inj:=fun j j' k k' b' hk hk' hb1 hb2=>by
                      rcases hcase j b' hb1 with⟨rfl,rfl⟩|⟨hj,hb1'⟩<;>rcases hcase j' _ hb2 with⟨rfl,e2⟩|⟨hj',hb2'⟩
                      ·rfl
                      ·rw[Hp.get_push_lt (H:=H.put i none) _ hj']at hk'
                       exact(hother j' k' _ hk' hb2' rfl).elim
                      ·rw[Hp.get_push_lt (H:=H.put i none) _ hj]at hk
                       exact(hother j k _ hk hb1' e2).elim
                      ·rw[Hp.get_push_lt (H:=H.put i none) _ hj]at hk
                       rw[Hp.get_push_lt (H:=H.put i none) _ hj']at hk'
                       exact inv2.inj j j' k k' b' hk hk' hb1' hb2'
                     notE:=fun j k b' hk hb1=>by
                      rcases hcase j b' hb1 with⟨rfl,rfl⟩|⟨hj,hb1'⟩
                      ·exact inv.notE i _ b' (getB_get hg).choose_spec.1 hρ
                      ·rw[Hp.get_push_lt (H:=H.put i none) _ hj]at hk
                       exact inv2.notE j k b' hk hb1'
                     bd:=fun j b' hb'=>by
                      rcases hcase j b' hb' with⟨rfl,rfl⟩|⟨hj,hb''⟩
                      ·exact inv1.bd i b' hρ
                      ·exact inv1.bd j b' hb''
                     ebd:=inv1.ebd,lole:=inv1.lole,old:=inv1.old,io:=inv1.io}
              ·refine⟨fun j b' hb'=> ?_,fun _ h=>h,ext1.same,ext1.size,ext1.bigger⟩
               have:=inv.dom j b' hb'
               simp only[upd];rw[if_neg (by omega)];exact hb'
              ·simp only[Rep]
               exact⟨b,cap,upd_self _ _ _,rfl,hroom,c',T',(0,0),hrow,by omega⟩
             ·have holds:∀j u,(c.toList.take cs.length)[j]? = some u→w.cell? ((⟨b,0,none⟩:Addr).add j)=some u:=fun j u hu'=>by
               rw[List.getElem?_take]at hu'
               split at hu'
               ·rw[Addr.add_none];simpa[World.cell?,hcell]using hu'
               ·cases hu'
              have hr:=run_append_grow (P:=P) w T ty e info zv hu hi hz0 ⟨b,0,none⟩ len cap (c.toList.take cs.length) (by rw[← hcsl];omega) holds ⟨xb,xoff,none⟩ n xcap vs hvl
               (fun j v hv=>by rw[Addr.add_none];exact hcs j v hv) (by omega) (by omega) (growslice_fits (by omega) hbd.1)
              have hge:=grownCap_ge w (len+n) cap e
              have hsz:((c.toList.take cs.length).toArray++vs.toArray++Builtin.zeroCells zv.cells (grownCap w (len+n) cap e-(len+n))).size=grownCap w (len+n) cap e*info.size:=by
               have e1:(c.toList.take cs.length).length=len*info.size:=by rw[← hcsl,hll]
               simp only[Array.size_append,List.size_toArray,size_zc,hzsz,hvl,e1, ← Nat.add_mul];congr 1;omega
              have inv1:=inv.drop i (getB_lt hg)
              obtain⟨inv',ext⟩:=inv1.pushCells (w':=w.drew.alloc (.cells ((c.toList.take cs.length).toArray++vs.toArray++Builtin.zeroCells zv.cells (grownCap w (len+n) cap e-(len+n))) e)) rfl (cs:=cs++new)
               (by
                have:=hrc.app hrl
                have e':((c.toList.take cs.length).toArray++vs.toArray++Builtin.zeroCells zv.cells (grownCap w (len+n) cap e-(len+n))).toList.take (cs++new).length=c.toList.take cs.length++vs:=by
                 simp only[Array.toList_append,List.length_append]
                 rw[List.take_append_of_le_length (by simp;omega),List.take_of_length_le (by simp;omega)]
                rw[e'];exact this)
               (by simp;omega)
              refine⟨_,_,_,hr,inv',ext,?_⟩
              simp only[Rep]
              exact⟨_,_,upd_self _ _ _,rfl,hge,_,e,(0,0),heap_alloc_new w.drew _,by rw[hsz];omega⟩
theorem run_append_zeros (w:World) (T T' ty e:TypeId) (i:TypeInfo) (z:Value) (k k':IntKind) (ht:P.underlying T=some (.slice e)) (ht':P.underlying T'=some (.int k')) (hi:P.info? e=some i) (hz:i.zero=some z)
 (base:Option Addr) (n:Nat) (h0:0<n) (hs:i.size≠0) (h62:n≤4611686018427387904) (h47:n*i.bytes≤140737488355328):
 (Builtin.append_ #[T,T'] ty #[.slice base 0 0, .int k (n:Int)]).run P w =
  .ok (.slice (some ⟨w.heap.size,0,none⟩) n (grownCap w n 0 e)) (w.drew.alloc (.cells (Builtin.zeroCells z.cells n++Builtin.zeroCells z.cells (grownCap w n 0 e-n)) e)):=by
 have hn:n≠0:=by omega
 have hw:IntKind.i64.wrap (n:Int)=n:=by rw[IntKind.wrap_i64];omega
 have h1:¬((n:Int)<0):=by omega
 have h2:¬((281474976710656:Int)<(n:Int)*(i.bytes:Int)):=by
  have:((n*i.bytes:Nat):Int)≤140737488355328:=by omega
  rw[Int.natCast_mul]at this;omega
 have h63':¬(9223372036854775807<(n:Int)):=by omega
 have h48':¬(281474976710656<Builtin.nextslicecap n 0*i.bytes):=by rw[nextslicecap_zero h0];omega
 have hb:(Builtin.firstCells i.size 0 (.slice base 0 0)).run P w.drew = .ok #[] w.drew:=by
  cases base with
  |none=>exact run_firstCells_none _ _ _ _ _
  |some a=>exact run_firstCells_some w.drew i.size 0 a 0 0 [] (by simp) (by simp)
 have hm:n*i.size≠0:=Nat.mul_ne_zero hn hs
 simp[Builtin.append_,run_underlying ht,run_underlying ht',sizeOf,typeInfo,zeroValue,hi,hz,asInt,asIntOf,hw,h1,h2,hn,hs,hm,h63',h48',Question.forced,hb,newRow,grownCap]
theorem ok_appendZ (inv:Inv lo w0 ρ E H w) {T T' ty:TypeId} {s x v:AV} {su xu:Value} {H':Hp} (h:appendZ P T T' s x H=some (v,H')) (rs:Rep ρ E w s su) (rx:Rep ρ E w x xu):
 OkH P lo w0 ρ E w (Builtin.append_ #[T,T'] ty #[su,xu]) v H':=by
 unfold appendZ at h
 split at h
 case h_2=>cases h
 case h_1 e k' hu hu'=>
  obtain⟨info,hi,h⟩:=Option.bind_eq_some_iff.1 h
  obtain⟨z,hz,h⟩:=Option.bind_eq_some_iff.1 h
  obtain⟨zs,hc,h⟩:=Option.bind_eq_some_iff.1 h
  obtain⟨n,hn,h⟩:=Option.bind_eq_some_iff.1 h
  obtain⟨i0,zv,hi0,hz0,hrun,hrep⟩:=zeroA_rep hz
  rw[hi]at hi0;cases hi0
  have hzr:=cellsOf_rep hc (hrep ρ E w)
  obtain⟨k,rfl⟩:=natOf_rep hn rx
  split at h
  case isTrue=>cases h
  case isFalse hcond=>
   have hs0:info.size≠0:=fun e=>hcond (.inl e)
   have hzl:zs.length=info.size:=Classical.byContradiction fun e=>hcond (.inr (.inl e))
   have hzsz:zv.cells.size=info.size:=by rw[← Array.length_toList, ← hzr.length,hzl]
   have hbase:∃base,su = .slice base 0 0:=by
    have hb:¬noRoomS s=false:=fun e=>hcond (.inr (.inr e))
    unfold noRoomS at hb
    split at hb
    ·simp only[Rep]at rs;exact⟨none,rs⟩
    ·simp only[Rep]at rs;exact rs
    ·exact(hb rfl).elim
   obtain⟨base,rfl⟩:=hbase
   split at h
   ·rename_i h0
    subst h0
    cases h
    refine⟨.slice base 0 0,w,ρ,?_,inv,Ext.refl,rs⟩
    have hw:IntKind.i64.wrap 0=0:=by rw[IntKind.wrap_i64];omega
    cases base<;>simp[Builtin.append_,run_underlying hu,run_underlying hu',sizeOf,typeInfo,hi,asInt,asIntOf,hw,storeCells]
   ·rename_i h0
    split at h
    ·rename_i hbd
     cases h
     have hr:=run_append_zeros (P:=P) w T T' ty e info zv k k' hu hu' hi hz0 base n (by omega) hs0 hbd.2 hbd.1
     have hge:=grownCap_ge w n 0 e
     have hzc:∀m,(Builtin.zeroCells zv.cells m).toList=repl zv.cells.toList m:=fun m=>range_repl zv.cells m
     have hsz:(Builtin.zeroCells zv.cells n++Builtin.zeroCells zv.cells (grownCap w n 0 e-n)).size=grownCap w n 0 e*info.size:=by
      simp only[Array.size_append,size_zc,hzsz, ← Nat.add_mul];congr 1;omega
     have hcells:RepL ρ E w (repl zs n) (Builtin.zeroCells zv.cells n).toList:=by rw[hzc];exact hzr.repl _
     have hl:(repl zs n).length=(Builtin.zeroCells zv.cells n).size:=by rw[hcells.length,Array.length_toList]
     obtain⟨inv',ext⟩:=inv.pushCells (w':=w.drew.alloc (.cells (Builtin.zeroCells zv.cells n++Builtin.zeroCells zv.cells (grownCap w n 0 e-n)) e)) rfl (cs:=repl zs n)
      (by rw[hl];simpa[List.take_append_of_le_length, ← Array.length_toList]using hcells) (by rw[hl];simp)
     refine⟨_,_,_,hr,inv',ext,?_⟩
     simp only[Rep]
     exact⟨_,_,upd_self _ _ _,rfl,hge,_,e,(0,0),heap_alloc_new w.drew _,by rw[hsz];omega⟩
    ·cases h
end
end Go.AM
