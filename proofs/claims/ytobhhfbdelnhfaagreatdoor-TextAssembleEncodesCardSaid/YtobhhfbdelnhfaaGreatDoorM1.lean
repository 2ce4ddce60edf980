/-
  The place of a known text in a known text, how often a byte stands in a known text: by the library's summaries; the number that the first looks at may be any.
-/
import Derived.Test.YtobhhfbdelnhfaaGreatDoorAmZ2
import Derived.Test.YtobhhfbdelnhfaaGreatDoorC1
import Derived.Below
import Derived.RowKit3
import Derived.Lib.IndexMore
import Derived.Lib.ItoaNum
import Derived.Lib.SplitLaws
import Derived.Lib.LaidTab
import Derived.Sort.Grow
import Derived.Deep.Draws
import Derived.Shelf.Strconv.Itoa0
import Derived.Shelf.Strconv.Itoa1
import Derived.Shelf.LaysM
import Derived.Shelf.Strconv.Itoa2
import Derived.Shelf.Strconv.Itoa3
import Derived.Shelf.Strings.Search1
import Derived.Shelf.Strings.Search2
import Derived.Shelf.Strings.Search3
import Derived.Shelf.Strings.Cut
import Derived.Shelf.Strings.Count
import Derived.Shelf.Strings.Shaped
import Derived.Shelf.Strings.Split
import Derived.Test.YtobhhfbdelnhfaaGreatDoorProg
import Derived.Test.YtobhhfbdelnhfaaGreatDoorSp
import Derived.KernelRfl
set_option linter.unusedVariables false
set_option linter.unusedSimpArgs false
namespace Go.AM
section
variable {P:Program}
theorem ok_of_same {f:FuncId} {args:List AV} {H:Hp} {x:Value} (h:∀(lo:Nat→Prop) (w0:World) (ρ:Nat→Option Nat) (E:Nat→Prop) (w:World) (vs:Array Value),Inv lo w0 ρ E H w→RepL ρ E w args vs.toList→
 Calls P f vs w fun e w'=>e = .returned x∧w'=w):Ok P f args H (.sc x) H:=by
 intro lo w0 ρ E w vs inv ra
 refine(h lo w0 ρ E w vs inv ra).mono ?_
 rintro e w' ⟨rfl,rfl⟩
 exact⟨x,ρ,E,rfl,inv,⟨Ext.refl,fun _ h=> .inl h⟩,by simp only[Rep]⟩
noncomputable def idxT (s t:List UInt8) (i:Nat):Int:=match s with | []=>bif t.isEmpty then(i:Int)else -1|x::r=>bif t.isPrefixOf (x::r)then(i:Int)else idxT r t (i+1)
theorem idxT_eq:∀(s t:List UInt8) (i:Nat),idxT s t i=if Lib.index s t = -1 then -1 else Lib.index s t+i
 | [],t,i=>by
   unfold idxT Lib.index
   cases h:t.isEmpty<;>simp
 |x::r,t,i=>by
  have ih:=idxT_eq r t (i+1)
  have hg:=Lib.index_ge r t
  unfold idxT Lib.index
  rw[ih]
  cases h:t.isPrefixOf (x::r)with
  |true=>simp
  |false=>
   simp only[cond_false,Bool.false_eq_true,if_false,beq_iff_eq]
   by_cases h1:Lib.index r t = -1
   ·simp[h1]
   ·have h2:¬(Lib.index r t+1 = -1):=by omega
    simp only[h1,h2,if_false];omega
def IndexSaid (P:Program) (f g:Nat):Prop:=
 ∀(s sub:ByteArray) (m:Int) (w:World),s.size<4294967281→w.cell? ⟨g,0,none⟩=some (.int .i64 m)→
  Calls P f #[.string s, .string sub] w fun e w'=>e = .returned (.int .i64 (Lib.index s.data.toList sub.data.toList))∧w'=w
noncomputable def idxC (g:Nat) (args:List AV) (H:Hp):Option (AV×Hp):=
 match args with
 | [.sc (.string s), .sc (.string t)]=>(match H.glob g with
   |some [.anyI .i64]=>bif Nat.ble s.size 1048576 then some (.sc (.int .i64 (idxT s.data.toList t.data.toList 0)),H)else none
   |_=>none)
 |_=>none
theorem idxC_ok {f g:Nat} (hC:IndexSaid P f g) (args:List AV) (H:Hp) (v:AV) (H':Hp) (h:idxC g args H=some (v,H')):Ok P f args H v H':=by
 unfold idxC at h
 split at h
 case h_2=>cases h
 case h_1 s t=>
  split at h
  case h_2=>cases h
  case h_1 hg=>
   cases hb:Nat.ble s.size 1048576 with
   |false=>rw[hb]at h;cases h
   |true=>
    rw[hb]at h
    cases h
    simp only[Nat.ble_eq]at hb
    refine ok_of_same fun lo w0 ρ E w vs inv ra=> ?_
    generalize hvs:vs.toList=l at ra
    simp only[RepL]at ra
    obtain⟨u1,l1,rfl,r1,u2,l2,rfl,r2,rfl⟩:=ra
    simp only[Rep]at r1 r2
    subst r1 r2
    have hv:vs = #[.string s, .string t]:=by rw[← Array.toList_inj,hvs]
    have hr:=(inv.gl g _ hg).2.1
    simp only[RepAt,Rep]at hr
    obtain⟨⟨u,hu,n,rfl⟩,_⟩:=hr
    have e:idxT s.data.toList t.data.toList 0=Lib.index s.data.toList t.data.toList:=by
     rw[idxT_eq];split<;>simp_all
    rw[hv,e]
    exact hC s t n w (by omega) hu
def CountSaid (P:Program) (f:Nat):Prop:=
 ∀(s:ByteArray) (c:UInt8) (w:World),Calls P f #[.string s, .string ⟨#[c]⟩] w fun e w'=>e = .returned (.int .i64 (Lib.countByte s.data.toList c))∧w'=w
noncomputable def cntC (args:List AV) (H:Hp):Option (AV×Hp):=
 match args with
 | [.sc (.string s), .sc (.string ⟨⟨[c]⟩⟩)]=>some (.sc (.int .i64 (s.data.toList.count c:Nat)),H)
 |_=>none
theorem cntC_ok {f:Nat} (hC:CountSaid P f) (args:List AV) (H:Hp) (v:AV) (H':Hp) (h:cntC args H=some (v,H')):Ok P f args H v H':=by
 unfold cntC at h
 split at h
 case h_2=>cases h
 case h_1 s c=>
  cases h
  refine ok_of_same fun lo w0 ρ E w vs inv ra=> ?_
  generalize hvs:vs.toList=l at ra
  simp only[RepL]at ra
  obtain⟨u1,l1,rfl,r1,u2,l2,rfl,r2,rfl⟩:=ra
  simp only[Rep]at r1 r2
  subst r1 r2
  have hv:vs = #[.string s, .string ⟨#[c]⟩]:=by rw[← Array.toList_inj,hvs]
  rw[hv]
  exact hC s c w
end
end Go.AM
namespace Go.AM
section
variable {P:Program}
theorem ok_of_belowV {f:FuncId} {args:List AV} {H:Hp} {v:AV} (h:∀(lo:Nat→Prop) (w0:World) (ρ:Nat→Option Nat) (E:Nat→Prop) (w:World) (vs:Array Value),Inv lo w0 ρ E H w→RepL ρ E w args vs.toList→
 Calls P f vs w fun e w'=>∃x,e = .returned x∧RowKit.Below w.heap.size w w'∧Rep ρ (fun b=>E b∨(w.heap.size≤b∧b<w'.heap.size)) w' v x):Ok P f args H v H:=by
 intro lo w0 ρ E w vs inv ra
 refine(h lo w0 ρ E w vs inv ra).mono ?_
 rintro e w' ⟨x,rfl,hb,hrep⟩
 obtain⟨b1,b2,b3,hsz,hold⟩:=hb
 have ext:Ext ρ E w ρ (fun b=>E b∨(w.heap.size≤b∧b<w'.heap.size)) w':=Ext.grow (fun _ _ h=>h) (fun _ h=> .inl h) (fun i b hb=>(inv.bd i b hb).2) inv.ebd hold hsz
 refine⟨x,ρ,_,rfl,?_,⟨ext,?_⟩,hrep⟩
 ·exact{len:=inv.len,dom:=inv.dom,blk:=fun i k b hk hb=>(inv.blk i k b hk hb).mono ext (hold b (inv.bd i b hb).2),inj:=inv.inj
        notE:=fun i k b hk hb he=>by
         rcases he with he|he
         ·exact inv.notE i k b hk hb he
         ·have:=(inv.bd i b hb).2;omega
        bd:=fun i b hb=>⟨(inv.bd i b hb).1,Nat.lt_of_lt_of_le (inv.bd i b hb).2 hsz⟩
        ebd:=fun b he=>by
         rcases he with he|he
         ·exact Nat.lt_of_lt_of_le (inv.ebd b he) hsz
         ·exact he.2
        lole:=fun b hb=>Nat.lt_of_lt_of_le (inv.lole b hb) hsz
        old:=fun b hb=>(hold b (inv.lole b hb)).trans (inv.old b hb)
        io:=inv.io.trans ⟨b1,b2,b3⟩,gl:=gl_mono rfl ext inv.gl}
 ·intro b hb
  rcases hb with hb|hb
  ·exact .inl hb
  ·exact .inr fun h=>by have:=inv.lole b h;omega
theorem bl_drewN (w:World) (n:Nat):RowKit.Below w.heap.size w (w.drewN n):=⟨rfl,rfl,rfl,Nat.le_refl _,fun _ _=>rfl⟩
theorem below_grow (w:World) (k:Nat) (os:Array Obj):RowKit.Below w.heap.size w (Sort.grow (w.drewN k) os):=by
 refine RowKit.Below.trans (bl_drewN w k) ⟨rfl,rfl,rfl,?_,fun b hb=> ?_⟩
 ·simp only[Sort.grow,Array.size_append];omega
 ·have h0:(w.drewN k).heap=w.heap:=rfl
  simp only[Sort.grow,h0]
  rw[Array.getElem?_append_left hb]
noncomputable def qitoa:Int→ByteArray:=veil fun n=>⟨(Lib.itoa n).toArray⟩
noncomputable def qcutA:ByteArray→ByteArray→ByteArray:=veil fun s t=>⟨(Lib.cut s.data.toList t.data.toList).1.toArray⟩
noncomputable def qcutB:ByteArray→ByteArray→ByteArray:=veil fun s t=>⟨(Lib.cut s.data.toList t.data.toList).2.1.toArray⟩
noncomputable def qcutOk:ByteArray→ByteArray→Bool:=veil fun s t=>(Lib.cut s.data.toList t.data.toList).2.2
noncomputable def qsplit:ByteArray→ByteArray→D:=veil fun s t=> .list ((Lib.splitB t 0 (Lib.countB s t) s).map .str)
noncomputable def qidxT:ByteArray→ByteArray→Int:=veil fun s t=>Lib.index s.data.toList t.data.toList
def powC (i:Nat):AV→Bool
 | .sc (.int .u64 (.ofNat m))=>Nat.beq m (10^i)
 |_=>false
def eqPow:Nat→List AV→Bool
 |_,[]=>true
 |i,c::r=>powC i c&&eqPow (i+1) r
theorem powC_eq {i:Nat} {c:AV} (h:powC i c=true):c = .sc (.int .u64 (10^i:Nat)):=by
 unfold powC at h
 split at h
 ·rename_i m
  have hm:m=10^i:=Nat.eq_of_beq_eq_true h
  subst hm;rfl
 ·cases h
theorem eqPow_eq:∀(cs:List AV) (i:Nat),eqPow i cs=true→cs=(List.range cs.length).map fun j=> .sc (.int .u64 (10^(i+j):Nat))
 | [],_,_=>rfl
 |c::cs,i,h=>by
  simp only[eqPow,Bool.and_eq_true]at h
  have ih:=eqPow_eq cs (i+1) h.2
  rw[List.length_cons,List.range_succ_eq_map,List.map_cons,List.map_map,powC_eq h.1]
  congr 1
  refine ih.trans (List.map_congr_left fun j _=> ?_)
  simp only[Function.comp]
  rw[show i+1+j=i+(j+1)by omega]
def ItoaSaid (P:Program) (f:Nat):Prop:=
 ∀(n:Int), -9223372036854775808≤n→n≤9223372036854775807→∀(w:World),Lib.TabIs P w "internal/strconv.uint64pow10" .u64 Lib.pow10Tab→
  Calls P f #[.int .i64 n] w fun e w'=>e = .returned (.string ⟨(Lib.itoa n).toArray⟩)∧∃k os,w'=Sort.grow (w.drewN k) os
noncomputable def itoaC (g:Nat) (args:List AV) (H:Hp):Option (AV×Hp):=
 match args with
 | [.ui .i64 n]=>(match H.glob g with
   |some cs=>bif eqPow 0 cs&&Nat.beq cs.length 20 then some (.us (qitoa n),H)else none
   |none=>none)
 |_=>none
noncomputable def itoaO (args:List AV) (_:Hp):List Bool:=
 match args with
 | [.ui .i64 n]=>[qcmp .leq (-9223372036854775808) n,qcmp .leq n 9223372036854775807]
 |_=>[]
theorem allSc_pow:∀(cs:List AV) (i:Nat),eqPow i cs=true→allSc cs=true
 | [],_,_=>rfl
 |c::cs,i,h=>by
  simp only[eqPow,Bool.and_eq_true]at h
  rw[powC_eq h.1]
  exact allSc_pow cs (i+1) h.2
theorem itoaC_ok {f g:Nat} (hC:ItoaSaid P f) (hg:P.globalNamed "internal/strconv.uint64pow10" = some g) (args:List AV) (H:Hp) (v:AV) (H':Hp) (h:itoaC g args H=some (v,H')) (ho:allB (itoaO args H)=true):Ok P f args H v H':=by
 unfold itoaC at h
 split at h
 case h_2=>cases h
 case h_1 n=>
  split at h
  case h_2=>cases h
  case h_1 cs hgl=>
   cases hb:(eqPow 0 cs&&Nat.beq cs.length 20)with
   |false=>rw[hb]at h;cases h
   |true=>
    rw[hb]at h
    cases h
    simp only[Bool.and_eq_true]at hb
    have hlen:=Nat.eq_of_beq_eq_true hb.2
    have o1:=allB_mem ho (qcmp .leq (-9223372036854775808) n) (by simp[itoaO])
    have o2:=allB_mem ho (qcmp .leq n 9223372036854775807) (by simp[itoaO])
    rw[qcmp_eq]at o1 o2
    simp only[rcmp,decide_eq_true_eq]at o1 o2
    refine ok_of_belowV fun lo w0 ρ E w vs inv ra=> ?_
    generalize hvs:vs.toList=l at ra
    simp only[RepL]at ra
    obtain⟨u1,l1,rfl,r1,rfl⟩:=ra
    simp only[Rep]at r1
    subst r1
    have hv:vs = #[.int .i64 n]:=by rw[← Array.toList_inj,hvs]
    obtain⟨_,hat,hall⟩:=inv.gl g _ hgl
    obtain⟨c,T,fz,hc,hsz⟩:=hall (allSc_pow cs 0 hb.1)
    have htab:Lib.TabIs P w "internal/strconv.uint64pow10" .u64 Lib.pow10Tab:=by
     unfold Lib.TabIs World.var?
     simp only[hg,Option.bind_some,hc,Option.some.injEq]
     rw[← Array.toList_inj]
     apply List.ext_getElem?
     intro i
     simp only[Array.getElem?_toList,Lib.pow10Tab,List.map_map,List.getElem?_map]
     have hcs:=eqPow_eq cs 0 hb.1
     rw[hlen]at hcs hsz
     by_cases hi:i<20
     ·have hx:cs[i]? = some (.sc (.int .u64 (10^i:Nat))):=by
       rw[hcs,List.getElem?_map,List.getElem?_range hi];simp
      obtain⟨u,hu,hr⟩:=hat.each i _ hx
      simp only[Rep]at hr
      subst hr
      simp only[World.cell?,hc,Nat.zero_add]at hu
      rw[List.getElem?_range hi]
      simpa using hu
     ·rw[Array.getElem?_eq_none (by omega),List.getElem?_eq_none (by simpa using hi)];rfl
    rw[hv]
    refine(hC n o1 o2 w htab).mono ?_
    rintro e w' ⟨rfl,k,os,rfl⟩
    refine⟨_,rfl,below_grow w k os,?_⟩
    simp only[Rep,qitoa,veil_eq]
def CutSaid (P:Program) (f g:Nat):Prop:=
 ∀(s sep:ByteArray) (m:Int) (w:World),s.size<4294967281→w.cell? ⟨g,0,none⟩=some (.int .i64 m)→
  Calls P f #[.string s, .string sep] w fun e w'=>e = .returned (.tuple #[.string ⟨(Lib.cut s.data.toList sep.data.toList).1.toArray⟩, .string ⟨(Lib.cut s.data.toList sep.data.toList).2.1.toArray⟩, .bool (Lib.cut s.data.toList sep.data.toList).2.2])∧∃n,w'=w.drewN n
def isAnyG:Option (List AV)→Bool
 |some [.anyI .i64]=>true
 |_=>false
noncomputable def cutC (g:Nat) (args:List AV) (H:Hp):Option (AV×Hp):=
 match args with
 | [.us s, .sc (.string t)]=>bif isAnyG (H.glob g)then some (.tup [.us (qcutA s t), .us (qcutB s t), .ub (qcutOk s t)],H)else none
 |_=>none
noncomputable def sizeO (args:List AV) (_:Hp):List Bool:=
 match args with
 | [.us s, .sc (.string _)]=>[qcmp .lss (qlenS s) 4294967281]
 | [.sc (.string _), .us _]=>[]
 |_=>[]
theorem any_cell {lo:Nat→Prop} {w0:World} {ρ:Nat→Option Nat} {E:Nat→Prop} {H:Hp} {w:World} (inv:Inv lo w0 ρ E H w) {g:Nat} (h:isAnyG (H.glob g)=true):∃m,w.cell? ⟨g,0,none⟩=some (.int .i64 m):=by
 unfold isAnyG at h
 split at h
 ·rename_i hg
  have hr:=(inv.gl g _ hg).2.1
  simp only[RepAt,Rep]at hr
  obtain⟨⟨u,hu,n,rfl⟩,_⟩:=hr
  exact⟨n,hu⟩
 ·cases h
theorem sizeO_lt {s t:ByteArray} {H:Hp} (ho:allB (sizeO [.us s, .sc (.string t)] H)=true):s.size<4294967281:=by
 have o1:=allB_mem ho (qcmp .lss (qlenS s) 4294967281) (by simp[sizeO])
 rw[qcmp_eq,qlenS_eq]at o1
 simp only[rcmp,decide_eq_true_eq]at o1
 omega
theorem cutC_ok {f g:Nat} (hC:CutSaid P f g) (args:List AV) (H:Hp) (v:AV) (H':Hp) (h:cutC g args H=some (v,H')) (ho:allB (sizeO args H)=true):Ok P f args H v H':=by
 unfold cutC at h
 split at h
 case h_2=>cases h
 case h_1 s t=>
  cases hb:isAnyG (H.glob g)with
  |false=>rw[hb]at h;cases h
  |true=>
   rw[hb]at h
   cases h
   refine ok_of_belowV fun lo w0 ρ E w vs inv ra=> ?_
   generalize hvs:vs.toList=l at ra
   simp only[RepL]at ra
   obtain⟨u1,l1,rfl,r1,u2,l2,rfl,r2,rfl⟩:=ra
   simp only[Rep]at r1 r2
   subst r1 r2
   have hv:vs = #[.string s, .string t]:=by rw[← Array.toList_inj,hvs]
   obtain⟨m,hm⟩:=any_cell inv hb
   rw[hv]
   refine(hC s t m w (sizeO_lt ho) hm).mono ?_
   rintro e w' ⟨rfl,n,rfl⟩
   refine⟨_,rfl,bl_drewN w n,?_⟩
   simp only[Rep]
   exact⟨_,rfl,RepL.cons (by simp only[Rep,qcutA,veil_eq]) (RepL.cons (by simp only[Rep,qcutB,veil_eq]) (RepL.cons (by simp only[Rep,qcutOk,veil_eq]) RepL.nil))⟩
noncomputable def idxU (g:Nat) (args:List AV) (H:Hp):Option (AV×Hp):=
 match args with
 | [.us s, .sc (.string t)]=>bif isAnyG (H.glob g)then some (.ui .i64 (qidxT s t),H)else none
 | [.sc (.string s), .us t]=>bif isAnyG (H.glob g)&&Nat.ble s.size 1048576 then some (.ui .i64 (qidxT s t),H)else none
 |args=>idxC g args H
theorem idxU_ok {f g:Nat} (hC:IndexSaid P f g) (args:List AV) (H:Hp) (v:AV) (H':Hp) (h:idxU g args H=some (v,H')) (ho:allB (sizeO args H)=true):Ok P f args H v H':=by
 have core:∀(a b:AV) (s t:ByteArray),s.size<4294967281→isAnyG (H.glob g)=true→(∀ρ E w u,Rep ρ E w a u→u = .string s)→(∀ρ E w u,Rep ρ E w b u→u = .string t)→Ok P f [a,b] H (.ui .i64 (qidxT s t)) H:=by
  intro a b s t hs hb ha hbb
  refine ok_of_belowV fun lo w0 ρ E w vs inv ra=> ?_
  generalize hvs:vs.toList=l at ra
  simp only[RepL]at ra
  obtain⟨u1,l1,rfl,r1,u2,l2,rfl,r2,rfl⟩:=ra
  obtain rfl:=ha _ _ _ _ r1
  obtain rfl:=hbb _ _ _ _ r2
  have hv:vs = #[.string s, .string t]:=by rw[← Array.toList_inj,hvs]
  obtain⟨m,hm⟩:=any_cell inv hb
  rw[hv]
  refine(hC s t m w hs hm).mono ?_
  rintro e w' ⟨rfl,rfl⟩
  exact⟨_,rfl,RowKit.Below.refl _ _,by simp only[Rep,qidxT,veil_eq]⟩
 unfold idxU at h
 split at h
 ·rename_i s t
  cases hb:isAnyG (H.glob g)with
  |false=>rw[hb]at h;cases h
  |true=>
   rw[hb]at h
   cases h
   exact core _ _ s t (sizeO_lt ho) hb (fun ρ E w u r=>by simpa only[Rep]using r) (fun ρ E w u r=>by simpa only[Rep]using r)
 ·rename_i s t
  cases hb:(isAnyG (H.glob g)&&Nat.ble s.size 1048576)with
  |false=>rw[hb]at h;cases h
  |true=>
   rw[hb]at h
   cases h
   simp only[Bool.and_eq_true,Nat.ble_eq]at hb
   exact core _ _ s t (by omega) hb.1 (fun ρ E w u r=>by simpa only[Rep]using r) (fun ρ E w u r=>by simpa only[Rep]using r)
 ·exact idxC_ok hC _ H v H' h
def SplitSaid (P:Program) (f g T:Nat):Prop:=
 ∀(s sep:ByteArray) (m:Int) (w:World),s.size<4294967281→w.cell? ⟨g,0,none⟩=some (.int .i64 m)→1≤sep.size→
  Calls P f #[.string s, .string sep] w fun e w'=>
   e = .returned (.slice (some ⟨w.heap.size,0,none⟩) (Lib.countB s sep+1) (Lib.countB s sep+1))∧w'=w.alloc (.cells ((Lib.splitB sep 0 (Lib.countB s sep) s).map Value.string).toArray T)
noncomputable def splitC (g T:Nat) (args:List AV) (H:Hp):Option (AV×Hp):=
 match args with
 | [.us s, .sc (.string t)]=>bif isAnyG (H.glob g)&&Nat.ble 1 t.size&&Nat.beq (PG.cellsOf T) 1 then some (.rows T (qsplit s t),H)else none
 |_=>none
theorem alloc_get (w:World) (o:Obj):(w.alloc o).heap[w.heap.size]? = some o:=by show(w.heap.push o)[w.heap.size]? = some o;simp
theorem splitC_ok {f g T:Nat} (hC:SplitSaid P f g T) (hT:PG.underlying T=some .string) (args:List AV) (H:Hp) (v:AV) (H':Hp) (h:splitC g T args H=some (v,H')) (ho:allB (sizeO args H)=true):Ok P f args H v H':=by
 unfold splitC at h
 split at h
 case h_2=>cases h
 case h_1 s t=>
  cases hb:(isAnyG (H.glob g)&&Nat.ble 1 t.size&&Nat.beq (PG.cellsOf T) 1)with
  |false=>rw[hb]at h;cases h
  |true=>
   rw[hb]at h
   cases h
   simp only[Bool.and_eq_true,Nat.ble_eq]at hb
   have hz:=Nat.eq_of_beq_eq_true hb.2
   refine ok_of_belowV fun lo w0 ρ E w vs inv ra=> ?_
   generalize hvs:vs.toList=l at ra
   simp only[RepL]at ra
   obtain⟨u1,l1,rfl,r1,u2,l2,rfl,r2,rfl⟩:=ra
   simp only[Rep]at r1 r2
   subst r1 r2
   have hv:vs = #[.string s, .string t]:=by rw[← Array.toList_inj,hvs]
   obtain⟨m,hm⟩:=any_cell inv hb.1.1
   rw[hv]
   refine(hC s t m w (sizeO_lt ho) hm hb.1.2).mono ?_
   rintro e w' ⟨rfl,rfl⟩
   have hlen:=Lib.splitB_all t hb.1.2 0 _ s rfl
   refine⟨_,rfl,(RowKit.Below.refl _ w).alloc (Nat.le_refl _) _,?_⟩
   have hd:(qsplit s t).toList=(Lib.splitB t 0 (Lib.countB s t) s).map D.str:=by simp only[qsplit,veil_eq,D.toList]
   have hdl:(qsplit s t).toList.length=Lib.countB s t+1:=by rw[hd,List.length_map,hlen]
   simp only[Rep]
   refine⟨some ⟨w.heap.size,0,none⟩,Lib.countB s t+1,by rw[hdl],by rw[hdl];exact Nat.le_refl _, .inr ⟨w.heap.size,0,rfl, .inr ⟨Nat.le_refl _,by show w.heap.size<(w.heap.push _).size;simp⟩,fun i x hx=> ?_⟩⟩
   rw[hd,List.getElem?_map]at hx
   obtain⟨y,hy,rfl⟩:=Option.map_eq_some_iff.1 hx
   refine⟨[.string y],by rw[hz];rfl,fun j u hu=> ?_, .str hT⟩
   cases j with
   |succ j=>simp at hu
   |zero=>
    simp only[List.getElem?_cons_zero,Option.some.injEq]at hu
    subst hu
    simp only[World.cell?,alloc_get,hz,Nat.mul_one,Nat.zero_add,Nat.add_zero]
    rw[List.getElem?_toArray,List.getElem?_map,hy];rfl
end
end Go.AM
namespace Go.Proofs
open Go.Shelf
def Tryz.laysM171_ren:Go.Shelf.Ren:=⟨fun|171=>22|243=>52|246=>99|283=>132|284=>133|285=>134|286=>135|129=>149|317=>148|318=>150|319=>151|320=>152|337=>159|338=>160|n=>n,fun|3=>3|9=>9|2=>2|4=>4|171=>135|0=>0|53=>79|37=>32|5=>5|173=>138|212=>151|51=>22|20=>20|213=>152|46=>68|232=>162|233=>163|n=>n,fun|17=>0|18=>4|19=>5|n=>n⟩
theorem Tryz.laysM171:Go.Proofs.LaysM.n171 Tryz.prog Tryz.laysM171_ren:={
 mixed:=by kernel_rfl
 f129:=Tryz.func149.trans (congrArg some (by kernel_rfl))
 f171:=Tryz.func22.trans (congrArg some (by kernel_rfl))
 f243:=Tryz.func52.trans (congrArg some (by kernel_rfl))
 f246:=Tryz.func99.trans (congrArg some (by kernel_rfl))
 f283:=Tryz.func132.trans (congrArg some (by kernel_rfl))
 f284:=Tryz.func133.trans (congrArg some (by kernel_rfl))
 f285:=Tryz.func134.trans (congrArg some (by kernel_rfl))
 f286:=Tryz.func135.trans (congrArg some (by kernel_rfl))
 f317:=Tryz.func148.trans (congrArg some (by kernel_rfl))
 f318:=Tryz.func150.trans (congrArg some (by kernel_rfl))
 f319:=Tryz.func151.trans (congrArg some (by kernel_rfl))
 f320:=Tryz.func152.trans (congrArg some (by kernel_rfl))
 f337:=Tryz.func159.trans (congrArg some (by kernel_rfl))
 f338:=Tryz.func160.trans (congrArg some (by kernel_rfl))
 t0:=Tryz.underlying0
 a0:=Tryz.isAgg0
 z0:=Tryz.sizeOf0
 v0:=Tryz.zeroValue0
 t2:=Tryz.underlying2
 a2:=Tryz.isAgg2
 z2:=Tryz.sizeOf2
 v2:=Tryz.zeroValue2
 t3:=Tryz.underlying3
 a3:=Tryz.isAgg3
 z3:=Tryz.sizeOf3
 v3:=Tryz.zeroValue3
 t4:=Tryz.underlying4
 a4:=Tryz.isAgg4
 z4:=Tryz.sizeOf4
 v4:=Tryz.zeroValue4
 t5:=Tryz.underlying5
 a5:=Tryz.isAgg5
 z5:=Tryz.sizeOf5
 v5:=Tryz.zeroValue5
 t9:=Tryz.underlying9
 a9:=Tryz.isAgg9
 z9:=Tryz.sizeOf9
 v9:=Tryz.zeroValue9
 t20:=Tryz.underlying20
 a20:=Tryz.isAgg20
 z20:=Tryz.sizeOf20
 v20:=Tryz.zeroValue20
 t37:=Tryz.underlying32
 a37:=Tryz.isAgg32
 z37:=Tryz.sizeOf32
 v37:=Tryz.zeroValue32
 t46:=Tryz.underlying68
 a46:=Tryz.isAgg68
 z46:=Tryz.sizeOf68
 v46:=Tryz.zeroValue68
 t51:=Tryz.underlying22
 a51:=Tryz.isAgg22
 z51:=Tryz.sizeOf22
 v51:=Tryz.zeroValue22
 t53:=Tryz.underlying79
 a53:=Tryz.isAgg79
 z53:=Tryz.sizeOf79
 v53:=Tryz.zeroValue79
 t171:=Tryz.underlying135
 a171:=Tryz.isAgg135
 z171:=Tryz.sizeOf135
 v171:=Tryz.zeroValue135
 t173:=Tryz.underlying138
 a173:=Tryz.isAgg138
 z173:=Tryz.sizeOf138
 v173:=Tryz.zeroValue138
 t212:=Tryz.underlying151
 a212:=Tryz.isAgg151
 z212:=Tryz.sizeOf151
 v212:=Tryz.zeroValue151
 t213:=Tryz.underlying152
 a213:=Tryz.isAgg152
 z213:=Tryz.sizeOf152
 t232:=Tryz.underlying162
 a232:=Tryz.isAgg162
 z232:=Tryz.sizeOf162
 v232:=Tryz.zeroValue162
 t233:=Tryz.underlying163
 a233:=Tryz.isAgg163
 z233:=Tryz.sizeOf163
 v233:=Tryz.zeroValue163
 g17:=by kernel_rfl
 g18:=by kernel_rfl
 g19:=by kernel_rfl
 i0:=by kernel_rfl
 i2:=by kernel_rfl
 i3:=by kernel_rfl
 i4:=by kernel_rfl
 i5:=by kernel_rfl
 i9:=by kernel_rfl
 i20:=by kernel_rfl
 i37:=by kernel_rfl
 i46:=by kernel_rfl
 i51:=by kernel_rfl
 i53:=by kernel_rfl
 i171:=by kernel_rfl
 i173:=by kernel_rfl
 i212:=by kernel_rfl
 i232:=by kernel_rfl
 i233:=by kernel_rfl
 m17:=by kernel_rfl
 m18:=by kernel_rfl
 m19:=by kernel_rfl}
open Go.RowKit Go.Sort Go.Lib in
theorem Tryz.strconv_Itoa (n:Int) (h0: -9223372036854775808≤n) (h1:n≤9223372036854775807) (w:World) (htab:Lib.TabIs Tryz.prog w "internal/strconv.uint64pow10" .u64 Lib.pow10Tab):
 Calls Tryz.prog 22 #[.int .i64 n] w fun e w'=>e = .returned (.string ⟨(Lib.itoa n).toArray⟩)∧∃k os,w'=grow (w.drewN k) os:=Any.strconv_Itoa Tryz.laysM171 n h0 h1 w htab
def Tryz.lays219_ren:Go.Shelf.Ren:=⟨fun|219=>137|217=>153|225=>154|224=>155|267=>156|266=>161|314=>162|n=>n,fun|9=>9|3=>3|4=>4|5=>5|46=>68|146=>156|51=>22|n=>n,fun|1=>1|n=>n⟩
theorem Tryz.lays219:Go.Proofs.Lays.n219 Tryz.prog Tryz.lays219_ren:={
 mixed:=by kernel_rfl
 f217:=Tryz.func153.trans (congrArg some (by kernel_rfl))
 f219:=Tryz.func137.trans (congrArg some (by kernel_rfl))
 f224:=Tryz.func155.trans (congrArg some (by kernel_rfl))
 f225:=Tryz.func154.trans (congrArg some (by kernel_rfl))
 f266:=Tryz.func161.trans (congrArg some (by kernel_rfl))
 f267:=Tryz.func156.trans (congrArg some (by kernel_rfl))
 f314:=Tryz.func162.trans (congrArg some (by kernel_rfl))
 t3:=Tryz.underlying3
 a3:=Tryz.isAgg3
 z3:=Tryz.sizeOf3
 v3:=Tryz.zeroValue3
 t4:=Tryz.underlying4
 a4:=Tryz.isAgg4
 z4:=Tryz.sizeOf4
 v4:=Tryz.zeroValue4
 t5:=Tryz.underlying5
 a5:=Tryz.isAgg5
 z5:=Tryz.sizeOf5
 v5:=Tryz.zeroValue5
 t9:=Tryz.underlying9
 a9:=Tryz.isAgg9
 z9:=Tryz.sizeOf9
 v9:=Tryz.zeroValue9
 t46:=Tryz.underlying68
 a46:=Tryz.isAgg68
 z46:=Tryz.sizeOf68
 v46:=Tryz.zeroValue68
 t51:=Tryz.underlying22
 a51:=Tryz.isAgg22
 z51:=Tryz.sizeOf22
 v51:=Tryz.zeroValue22
 t146:=Tryz.underlying156
 a146:=Tryz.isAgg156
 z146:=Tryz.sizeOf156
 v146:=Tryz.zeroValue156
 g1:=by kernel_rfl}
open Go.RowKit Go.Lib in
theorem Tryz.stringslite_Index (s sub:ByteArray) (m:Int) (w:World) (hs:s.size<4294967281) (hm:w.cell? ⟨1,0,none⟩=some (.int .i64 m)):
 Calls Tryz.prog 137 #[.string s, .string sub] w fun e w'=>e = .returned (.int .i64 (Lib.index s.data.toList sub.data.toList))∧w'=w:=Any.stringslite_Index Tryz.lays219 s sub m w hs hm
def Tryz.lays145_ren:Go.Shelf.Ren:=⟨fun|145=>61|220=>103|219=>137|217=>153|225=>154|224=>155|267=>156|266=>161|314=>162|n=>n,fun|9=>9|4=>4|59=>84|3=>3|5=>5|46=>68|146=>156|51=>22|n=>n,fun|1=>1|n=>n⟩
theorem Tryz.lays145:Go.Proofs.Lays.n145 Tryz.prog Tryz.lays145_ren:={
 mixed:=by kernel_rfl
 f145:=Tryz.func61.trans (congrArg some (by kernel_rfl))
 f217:=Tryz.func153.trans (congrArg some (by kernel_rfl))
 f219:=Tryz.func137.trans (congrArg some (by kernel_rfl))
 f220:=Tryz.func103.trans (congrArg some (by kernel_rfl))
 f224:=Tryz.func155.trans (congrArg some (by kernel_rfl))
 f225:=Tryz.func154.trans (congrArg some (by kernel_rfl))
 f266:=Tryz.func161.trans (congrArg some (by kernel_rfl))
 f267:=Tryz.func156.trans (congrArg some (by kernel_rfl))
 f314:=Tryz.func162.trans (congrArg some (by kernel_rfl))
 t3:=Tryz.underlying3
 a3:=Tryz.isAgg3
 z3:=Tryz.sizeOf3
 v3:=Tryz.zeroValue3
 t4:=Tryz.underlying4
 a4:=Tryz.isAgg4
 z4:=Tryz.sizeOf4
 v4:=Tryz.zeroValue4
 t5:=Tryz.underlying5
 a5:=Tryz.isAgg5
 z5:=Tryz.sizeOf5
 v5:=Tryz.zeroValue5
 t9:=Tryz.underlying9
 a9:=Tryz.isAgg9
 z9:=Tryz.sizeOf9
 v9:=Tryz.zeroValue9
 t46:=Tryz.underlying68
 a46:=Tryz.isAgg68
 z46:=Tryz.sizeOf68
 v46:=Tryz.zeroValue68
 t51:=Tryz.underlying22
 a51:=Tryz.isAgg22
 z51:=Tryz.sizeOf22
 v51:=Tryz.zeroValue22
 t59:=Tryz.underlying84
 a59:=Tryz.isAgg84
 z59:=Tryz.sizeOf84
 v59:=Tryz.zeroValue84
 t146:=Tryz.underlying156
 a146:=Tryz.isAgg156
 z146:=Tryz.sizeOf156
 v146:=Tryz.zeroValue156
 g1:=by kernel_rfl}
open Go.RowKit Go.Lib in
theorem Tryz.strings_Cut (s sep:ByteArray) (m:Int) (w:World) (hs:s.size<4294967281) (hm:w.cell? ⟨1,0,none⟩=some (.int .i64 m)):
 Calls Tryz.prog 61 #[.string s, .string sep] w fun e w'=>e = .returned (.tuple #[.string ⟨(Lib.cut s.data.toList sep.data.toList).1.toArray⟩, .string ⟨(Lib.cut s.data.toList sep.data.toList).2.1.toArray⟩, .bool (Lib.cut s.data.toList sep.data.toList).2.2])∧∃n,w'=w.drewN n:=Any.strings_Cut Tryz.lays145 s sep m w hs hm
def Tryz.lays138_ren:Go.Shelf.Ren:=⟨fun|138=>121|195=>143|218=>145|143=>109|219=>137|217=>153|225=>154|224=>155|267=>156|266=>161|314=>162|n=>n,fun|9=>9|3=>3|4=>4|5=>5|0=>0|46=>68|146=>156|51=>22|n=>n,fun|1=>1|n=>n⟩
theorem Tryz.lays138:Go.Proofs.Lays.n138 Tryz.prog Tryz.lays138_ren:={
 mixed:=by kernel_rfl
 f138:=Tryz.func121.trans (congrArg some (by kernel_rfl))
 f143:=Tryz.func109.trans (congrArg some (by kernel_rfl))
 f195:=Tryz.func143.trans (congrArg some (by kernel_rfl))
 f217:=Tryz.func153.trans (congrArg some (by kernel_rfl))
 f218:=Tryz.func145.trans (congrArg some (by kernel_rfl))
 f219:=Tryz.func137.trans (congrArg some (by kernel_rfl))
 f224:=Tryz.func155.trans (congrArg some (by kernel_rfl))
 f225:=Tryz.func154.trans (congrArg some (by kernel_rfl))
 f266:=Tryz.func161.trans (congrArg some (by kernel_rfl))
 f267:=Tryz.func156.trans (congrArg some (by kernel_rfl))
 f314:=Tryz.func162.trans (congrArg some (by kernel_rfl))
 t0:=Tryz.underlying0
 a0:=Tryz.isAgg0
 z0:=Tryz.sizeOf0
 v0:=Tryz.zeroValue0
 t3:=Tryz.underlying3
 a3:=Tryz.isAgg3
 z3:=Tryz.sizeOf3
 v3:=Tryz.zeroValue3
 t4:=Tryz.underlying4
 a4:=Tryz.isAgg4
 z4:=Tryz.sizeOf4
 v4:=Tryz.zeroValue4
 t5:=Tryz.underlying5
 a5:=Tryz.isAgg5
 z5:=Tryz.sizeOf5
 v5:=Tryz.zeroValue5
 t9:=Tryz.underlying9
 a9:=Tryz.isAgg9
 z9:=Tryz.sizeOf9
 v9:=Tryz.zeroValue9
 t46:=Tryz.underlying68
 a46:=Tryz.isAgg68
 z46:=Tryz.sizeOf68
 v46:=Tryz.zeroValue68
 t51:=Tryz.underlying22
 a51:=Tryz.isAgg22
 z51:=Tryz.sizeOf22
 v51:=Tryz.zeroValue22
 t146:=Tryz.underlying156
 a146:=Tryz.isAgg156
 z146:=Tryz.sizeOf156
 v146:=Tryz.zeroValue156
 g1:=by kernel_rfl}
open Go.RowKit Go.Lib in
theorem Tryz.strings_Count_one (s:ByteArray) (c:UInt8) (w:World):
 Calls Tryz.prog 121 #[.string s, .string ⟨#[c]⟩] w fun e w'=>e = .returned (.int .i64 (Lib.countByte s.data.toList c))∧w'=w:=Any.strings_Count_one Tryz.lays138 s c w
def Tryz.lays146_ren:Go.Shelf.Ren:=⟨fun|146=>40|221=>75|268=>120|138=>121|143=>109|195=>143|197=>144|218=>145|219=>137|260=>157|217=>153|225=>154|224=>155|267=>156|266=>161|314=>162|n=>n,fun|9=>9|31=>45|3=>3|4=>4|0=>0|105=>145|21=>21|5=>5|46=>68|119=>158|139=>161|138=>160|146=>156|51=>22|n=>n,fun|1=>1|3=>2|4=>3|n=>n⟩
theorem Tryz.lays146:Go.Proofs.Lays.n146 Tryz.prog Tryz.lays146_ren:={
 mixed:=by kernel_rfl
 f138:=Tryz.func121.trans (congrArg some (by kernel_rfl))
 f143:=Tryz.func109.trans (congrArg some (by kernel_rfl))
 f146:=Tryz.func40.trans (congrArg some (by kernel_rfl))
 f195:=Tryz.func143.trans (congrArg some (by kernel_rfl))
 f197:=Tryz.func144.trans (congrArg some (by kernel_rfl))
 f217:=Tryz.func153.trans (congrArg some (by kernel_rfl))
 f218:=Tryz.func145.trans (congrArg some (by kernel_rfl))
 f219:=Tryz.func137.trans (congrArg some (by kernel_rfl))
 f221:=Tryz.func75.trans (congrArg some (by kernel_rfl))
 f224:=Tryz.func155.trans (congrArg some (by kernel_rfl))
 f225:=Tryz.func154.trans (congrArg some (by kernel_rfl))
 f260:=Tryz.func157.trans (congrArg some (by kernel_rfl))
 f266:=Tryz.func161.trans (congrArg some (by kernel_rfl))
 f267:=Tryz.func156.trans (congrArg some (by kernel_rfl))
 f268:=Tryz.func120.trans (congrArg some (by kernel_rfl))
 f314:=Tryz.func162.trans (congrArg some (by kernel_rfl))
 t0:=Tryz.underlying0
 a0:=Tryz.isAgg0
 z0:=Tryz.sizeOf0
 v0:=Tryz.zeroValue0
 t3:=Tryz.underlying3
 a3:=Tryz.isAgg3
 z3:=Tryz.sizeOf3
 v3:=Tryz.zeroValue3
 t4:=Tryz.underlying4
 a4:=Tryz.isAgg4
 z4:=Tryz.sizeOf4
 v4:=Tryz.zeroValue4
 t5:=Tryz.underlying5
 a5:=Tryz.isAgg5
 z5:=Tryz.sizeOf5
 v5:=Tryz.zeroValue5
 t9:=Tryz.underlying9
 a9:=Tryz.isAgg9
 z9:=Tryz.sizeOf9
 v9:=Tryz.zeroValue9
 t21:=Tryz.underlying21
 a21:=Tryz.isAgg21
 z21:=Tryz.sizeOf21
 v21:=Tryz.zeroValue21
 t31:=Tryz.underlying45
 a31:=Tryz.isAgg45
 z31:=Tryz.sizeOf45
 v31:=Tryz.zeroValue45
 t46:=Tryz.underlying68
 a46:=Tryz.isAgg68
 z46:=Tryz.sizeOf68
 v46:=Tryz.zeroValue68
 t51:=Tryz.underlying22
 a51:=Tryz.isAgg22
 z51:=Tryz.sizeOf22
 v51:=Tryz.zeroValue22
 t105:=Tryz.underlying145
 a105:=Tryz.isAgg145
 z105:=Tryz.sizeOf145
 v105:=Tryz.zeroValue145
 t119:=Tryz.underlying158
 a119:=Tryz.isAgg158
 z119:=Tryz.sizeOf158
 t138:=Tryz.underlying160
 a138:=Tryz.isAgg160
 z138:=Tryz.sizeOf160
 v138:=Tryz.zeroValue160
 t139:=Tryz.underlying161
 a139:=Tryz.isAgg161
 z139:=Tryz.sizeOf161
 v139:=Tryz.zeroValue161
 t146:=Tryz.underlying156
 a146:=Tryz.isAgg156
 z146:=Tryz.sizeOf156
 v146:=Tryz.zeroValue156
 g1:=by kernel_rfl
 g3:=by kernel_rfl
 g4:=by kernel_rfl}
open Go.RowKit Go.Lib in
theorem Tryz.strings_Split (s sep:ByteArray) (m:Int) (w:World) (hs:s.size<4294967281) (hm:w.cell? ⟨1,0,none⟩=some (.int .i64 m)) (h1:1≤sep.size):
 Calls Tryz.prog 40 #[.string s, .string sep] w fun e w'=>
  e = .returned (.slice (some ⟨w.heap.size,0,none⟩) (Lib.countB s sep+1) (Lib.countB s sep+1))∧w'=w.alloc (.cells ((Lib.splitB sep 0 (Lib.countB s sep) s).map Value.string).toArray 9):=Any.strings_Split Tryz.lays146 (by kernel_rfl) s sep m w hs hm h1
end Go.Proofs
namespace Go.Proofs.YtobhhfbdelnhfaaGreatDoor
open Go Go.AM
set_option maxRecDepth 100000
theorem itoaSaid:ItoaSaid Tryz.prog 22:=fun n h0 h1 w ht=>Tryz.strconv_Itoa n h0 h1 w ht
theorem indexSaid:IndexSaid Tryz.prog 137 1:=fun s sub m w hs hm=>Tryz.stringslite_Index s sub m w hs hm
theorem cutSaid:CutSaid Tryz.prog 61 1:=fun s sub m w hs hm=>Tryz.strings_Cut s sub m w hs hm
theorem splitSaid:SplitSaid Tryz.prog 40 1 9:=fun s sub m w hs hm h1=>Tryz.strings_Split s sub m w hs hm h1
noncomputable def tbS:Tb:=(((Tb.nil.add 22 (itoaC 0) itoaO).add 137 (idxU 1) sizeO).add 61 (cutC 1) sizeO).add 40 (splitC 1 9) sizeO
theorem ok_tbS:TbOk env tbS:=
 (((TbOk.nil.add (by kernel_rfl) fun args H v H' h ho=>itoaC_ok itoaSaid (by kernel_rfl) args H v H' h ho).add (by kernel_rfl) fun args H v H' h ho=>idxU_ok indexSaid args H v H' h ho).add (by kernel_rfl) fun args H v H' h ho=>cutC_ok cutSaid args H v H' h ho).add (by kernel_rfl) fun args H v H' h ho=>splitC_ok splitSaid (by unfold PG;exact Tryz.underlying9) args H v H' h ho
end Go.Proofs.YtobhhfbdelnhfaaGreatDoor
open Go Go.AM
namespace Go.Proofs.YtobhhfbdelnhfaaGreatDoor
noncomputable section
set_option maxRecDepth 100000
set_option linter.unusedSimpArgs false
set_option linter.unusedVariables false
set_option linter.defProp false
def S128:FunS:=⟨[⟨true,(.dat 24)⟩],[],[⟨true,(.tup [(.int .u8),(.int .i64), .bool])⟩],[]⟩
def F128:List D→Option (List D):=liftX env tbS 60 12 128 S128
theorem F128_e (sd0:D):F128 [sd0] =
 let x0:=qint (qfld sd0 2)
 let x1:=qcmp .eql x0 16
 let x2:=qint (qfld sd0 4)
 let x3:=qcmp .eql x2 4
 let x4:=D.int 5
 let x5:=D.bool true
 let x6:=qcmp .eql x2 1
 let x7:=qcmp .eql x0 17
 let x8:=qcmp .eql x2 2
 let x9:=qcmp .eql x0 18
 bif qand x1 x3 then some [.int 80,x4,x5]else bif qand x1 x6 then some [.int 81,x4,x5]else bif qand x7 x6 then some [.int 82,x4,x5]else bif qand x1 x8 then some [.int 83,x4,x5]else bif qand x7 x8 then some [.int 84,x4,x5]else bif qand x9 x3 then some [.int 85,x4,x5]else bif qand x9 x6 then some [.int 86,x4,x5]else bif qand x9 x8 then some [.int 87,x4,x5]else some [.int 0,x4,.bool false]:=by kernel_rfl
def F128_eq:=by have h:= @F128_e;simp only[ge_id,gd,qeqD_self,qeqI_self,qeq_len,qeq_l,cond_true]at h;exact h
def q128:List D→Option (List D):=veil (F128)
theorem q128_eq:q128=F128:=veil_eq _
def tb128:Tb:=Tb.addF tbS 128 S128 (q128)
theorem ok_tb128:TbOk env (tb128):=addFunF ok_tbS 128 (by kernel_rfl) _ (q128_eq)
def S129:FunS:=⟨[⟨true,(.dat 24)⟩],[],[⟨true,(.tup [(.int .u8),(.int .i64), .bool])⟩],[]⟩
def F129:List D→Option (List D):=liftX env tb128 60 12 129 S129
theorem F129_e (sd0:D):F129 [sd0] =
 let x0:=qint (qfld sd0 5)
 let x1:Option (List D):=some [.int 0,.int 0,.bool false]
 let x2:=qwrap .u8 x0
 let x3:=D.bool true
 let x4:=qint (qfld sd0 3)
 bif qiteB (qcmp .lss x0 0) true (qcmp .gtr x0 14)then x1 else bif qcmp .eql (qint (qfld sd0 2)) 25 then some [.int (qbin .add .u8 144 x2),.int 2,x3]else bif qcmp .eql x4 1 then some [.int (qbin .add .u8 96 x2),.int 7,x3]else bif qcmp .eql x4 2 then some [.int (qbin .add .u8 112 x2),.int 8,x3]else x1:=by kernel_rfl
def F129_eq:=by have h:= @F129_e;simp only[ge_id,gd,qeqD_self,qeqI_self,qeq_len,qeq_l,cond_true]at h;exact h
def q129:List D→Option (List D):=veil (F129)
theorem q129_eq:q129=F129:=veil_eq _
def tb129:Tb:=Tb.addF tb128 129 S129 (q129)
theorem ok_tb129:TbOk env (tb129):=addFunF ok_tb128 129 (by kernel_rfl) _ (q129_eq)
def S92:FunS:=⟨[⟨true,(.dat 24)⟩],[],[⟨true,(.tup [(.int .u8),(.int .i64), .bool])⟩],[]⟩
def F92:List D→Option (List D):=liftX env tb129 60 12 92 S92
theorem F92_e (sd0:D):F92 [sd0] =
 let x0:=qint (qfld sd0 2)
 let x1:=qcmp .eql x0 0
 let x2:=qcmp .eql x0 1
 let x3:=D.int 0
 let x4:=D.bool true
 let x5:=qwrap .u8 (qbin .and .i64 (qint (qfld sd0 6)) 7)
 let x6:=qint (qfld sd0 3)
 let x7:=qwrap .u8 (qbin .sub .i64 x0 5)
 let x8:Option (List D):=some [x3,x3,.bool false]
 let x9:=qcmp .eql x0 16
 let x10:=qcmp .eql x0 17
 let x11:=Proofs.YtobhhfbdelnhfaaGreatDoor.q128 [sd0]
 let x12:=Proofs.YtobhhfbdelnhfaaGreatDoor.q129 [sd0]
 let x13:=D.int 2
 bif qiteB x1 x1 (qiteB x2 x2 (qcmp .eql x0 2))then some [.int (qwrap .u8 x0),x3,x4]else bif qcmp .eql x0 3 then some [.int (qbin .add .u8 8 x5),.int 1,x4]else bif qcmp .eql x0 4 then some [.int (qbin .add .u8 16 x5),.int 1,x4]else bif qiteB (qcmp .geq x0 5) (qcmp .leq x0 15) false then bif qcmp .eql x6 0 then some [.int (qbin .add .u8 32 x7),.int 3,x4]else bif qcmp .eql x6 1 then some [.int (qbin .add .u8 48 x7),.int 4,x4]else bif qcmp .eql x6 2 then some [.int (qbin .add .u8 64 x7),.int 6,x4]else x8 else bif qiteB x9 x9 (qiteB x10 x10 (qcmp .eql x0 18))then gd (qsome x11)<|some [.int (qint (qnth x11 0)),.int (qint (qnth x11 1)),.bool (qbool (qnth x11 2))]else bif qcmp .eql x0 19 then some [.int 90,.int 5,x4]else bif qiteB (qcmp .eql x0 20) true (qcmp .eql x0 25)then gd (qsome x12)<|some [.int (qint (qnth x12 0)),.int (qint (qnth x12 1)),.bool (qbool (qnth x12 2))]else bif qcmp .eql x0 23 then some [.int 128,.int 8,x4]else bif qcmp .eql x0 24 then some [.int 129,x13,x4]else bif qcmp .eql x0 21 then some [.int 130,x13,x4]else bif qcmp .eql x0 22 then some [.int 131,.int 6,x4]else bif qcmp .eql x0 26 then some [.int 160,x13,x4]else bif qcmp .eql x0 27 then some [.int 161,x13,x4]else x8:=by kernel_rfl
def F92_eq:=by have h:= @F92_e;simp only[ge_id,gd,qeqD_self,qeqI_self,qeq_len,qeq_l,cond_true]at h;exact h
def q92:List D→Option (List D):=veil (F92)
theorem q92_eq:q92=F92:=veil_eq _
def tb92:Tb:=Tb.addF tb129 92 S92 (q92)
theorem ok_tb92:TbOk env (tb92):=addFunF ok_tb129 92 (by kernel_rfl) _ (q92_eq)
def S94:FunS:=⟨[⟨true,(.dat 24)⟩,⟨true,(.int .i64)⟩],[],[⟨true,(.dat 24)⟩],[]⟩
def F94:List D→Option (List D):=liftX env tb92 60 12 94 S94
theorem F94_e (sd0:D) (sn1:Int):F94 [sd0,(D.int sn1)] =
 let x0:=qcmp .eql sn1 1
 let x1:=qint (qfld sd0 2)
 let x2:=qiteB (qcmp .geq x1 5) (qcmp .leq x1 15) false
 let x3:=D.int (qint (qfld sd0 0))
 let x4:=D.int 0
 let x5:=D.int x1
 let x6:=D.int (qint (qfld sd0 3))
 let x7:=D.int (qint (qfld sd0 6))
 let x8:=D.int (qint (qfld sd0 8))
 let x9:=qcmp .eql x1 16
 let x10:=qcmp .eql x1 17
 let x11:=qiteB x9 x9 (qiteB x10 x10 (qcmp .eql x1 18))
 let x12:=D.int (qint (qfld sd0 4))
 let x13:=qcmp .eql x1 20
 let x14:=D.int (qint (qfld sd0 5))
 let x15:=qcmp .eql x1 25
 let x16:=D.int (qint (qfld sd0 7))
 let x17:=qcmp .eql sn1 4
 let x18:=D.int (qint (qfld sd0 1))
 let x19:=qcmp .eql sn1 7
 bif qiteB x0 x0 (qcmp .eql sn1 2)then bif x2 then some [.agg [x3,x4,x5,x6,x4,x4,x7,x4,x8]]else bif x11 then some [.agg [x3,x4,x5,x4,x12,x4,x7,x4,x8]]else bif x13 then some [.agg [x3,x4,x5,x6,x4,x14,x7,x4,x8]]else bif x15 then some [.agg [x3,x4,x5,x4,x4,x14,x7,x4,x8]]else some [.agg [x3,x4,x5,x4,x4,x4,x7,x4,x8]]else bif qcmp .eql sn1 3 then bif x2 then some [.agg [x3,x4,x5,x6,x4,x4,x7,x16,x8]]else bif x11 then some [.agg [x3,x4,x5,x4,x12,x4,x7,x16,x8]]else bif x13 then some [.agg [x3,x4,x5,x6,x4,x14,x7,x16,x8]]else bif x15 then some [.agg [x3,x4,x5,x4,x4,x14,x7,x16,x8]]else some [.agg [x3,x4,x5,x4,x4,x4,x7,x16,x8]]else bif qiteB x17 x17 (qcmp .eql sn1 6)then bif x2 then some [.agg [x3,x18,x5,x6,x4,x4,x7,x4,x8]]else bif x11 then some [.agg [x3,x18,x5,x4,x12,x4,x7,x4,x8]]else bif x13 then some [.agg [x3,x18,x5,x6,x4,x14,x7,x4,x8]]else bif x15 then some [.agg [x3,x18,x5,x4,x4,x14,x7,x4,x8]]else some [.agg [x3,x18,x5,x4,x4,x4,x7,x4,x8]]else bif qcmp .eql sn1 5 then bif x2 then some [.agg [x3,x18,x5,x6,x4,x4,x7,x16,x8]]else bif x11 then some [.agg [x3,x18,x5,x4,x12,x4,x7,x16,x8]]else bif x13 then some [.agg [x3,x18,x5,x6,x4,x14,x7,x16,x8]]else bif x15 then some [.agg [x3,x18,x5,x4,x4,x14,x7,x16,x8]]else some [.agg [x3,x18,x5,x4,x4,x4,x7,x16,x8]]else bif qiteB x19 x19 (qcmp .eql sn1 8)then bif x2 then some [.agg [x3,x18,x5,x6,x4,x4,x4,x4,x8]]else bif x11 then some [.agg [x3,x18,x5,x4,x12,x4,x4,x4,x8]]else bif x13 then some [.agg [x3,x18,x5,x6,x4,x14,x4,x4,x8]]else bif x15 then some [.agg [x3,x18,x5,x4,x4,x14,x4,x4,x8]]else some [.agg [x3,x18,x5,x4,x4,x4,x4,x4,x8]]else bif x2 then some [.agg [x3,x4,x5,x6,x4,x4,x4,x4,x8]]else bif x11 then some [.agg [x3,x4,x5,x4,x12,x4,x4,x4,x8]]else bif x13 then some [.agg [x3,x4,x5,x6,x4,x14,x4,x4,x8]]else bif x15 then some [.agg [x3,x4,x5,x4,x4,x14,x4,x4,x8]]else some [.agg [x3,x4,x5,x4,x4,x4,x4,x4,x8]]:=by kernel_rfl
def F94_eq:=by have h:= @F94_e;simp only[ge_id,gd,qeqD_self,qeqI_self,qeq_len,qeq_l,cond_true]at h;exact h
def q94:List D→Option (List D):=veil (F94)
theorem q94_eq:q94=F94:=veil_eq _
def tb94:Tb:=Tb.addF tb92 94 S94 (q94)
theorem ok_tb94:TbOk env (tb94):=addFunF ok_tb92 94 (by kernel_rfl) _ (q94_eq)
def S47:FunS:=⟨[⟨true,(.dat 24)⟩],[],[⟨true,(.tup [(.int .u8),(.int .i64),(.int .i64)])⟩],[]⟩
def F47:List D→Option (List D):=liftX env tb94 60 12 47 S47
theorem F47_e (sd0:D):F47 [sd0] =
 let x0:=Proofs.YtobhhfbdelnhfaaGreatDoor.q92 [sd0]
 let x1:=D.int 0
 let x2:Option (List D):=some [x1,x1,.int 2]
 let x3:=qint (qfld sd0 6)
 let x4:=qint (qfld sd0 7)
 let x5:=qint (qnth x0 1)
 let x6:=Proofs.YtobhhfbdelnhfaaGreatDoor.q94 [sd0,.int x5]
 let x7:=qnth x6 0
 let x8:=qint (qfld sd0 0)
 let x9:=qint (qfld sd0 1)
 let x10:=qbin .sub .u32 (qbin .sub .u32 x9 x8) 2
 gd (qsome x0)<|bif qnot (qbool (qnth x0 2))then x2 else bif qnot (qiteB (qcmp .geq x3 0) (qcmp .lss x3 8) false)then x2 else bif qnot (qiteB (qcmp .geq x4 0) (qcmp .lss x4 8) false)then x2 else gd (qsome x6)<|bif qnot (qand (qcmp .eql (qint (qfld x7 0)) x8) (qand (qcmp .eql (qint (qfld x7 1)) x9) (qand (qcmp .eql (qint (qfld x7 2)) (qint (qfld sd0 2))) (qand (qcmp .eql (qint (qfld x7 3)) (qint (qfld sd0 3))) (qand (qcmp .eql (qint (qfld x7 4)) (qint (qfld sd0 4))) (qand (qcmp .eql (qint (qfld x7 5)) (qint (qfld sd0 5))) (qand (qcmp .eql (qint (qfld x7 6)) x3) (qand (qcmp .eql (qint (qfld x7 7)) x4) (qcmp .eql (qint (qfld x7 8)) (qint (qfld sd0 8)))))))))))then x2 else bif qiteB (qiteB (qiteB (qcmp .eql x5 4) true (qcmp .eql x5 5)) (qnot (qiteB (qcmp .leq x9 127) true (qcmp .geq x9 4294967168))) false) true (qiteB (qcmp .eql x5 7) (qnot (qiteB (qcmp .leq x10 127) true (qcmp .geq x10 4294967168))) false)then some [x1,x1,.int 7]else some [.int (qint (qnth x0 0)),.int x5,x1]:=by kernel_rfl
def F47_eq:=by have h:= @F47_e;simp only[ge_id,gd,qeqD_self,qeqI_self,qeq_len,qeq_l,cond_true]at h;exact h
def q47:List D→Option (List D):=veil (F47)
theorem q47_eq:q47=F47:=veil_eq _
def tb47:Tb:=Tb.addF tb94 47 S47 (q47)
theorem ok_tb47:TbOk env (tb47):=addFunF ok_tb94 47 (by kernel_rfl) _ (q47_eq)
def S48:FunS:=⟨[⟨true,(.int .i64)⟩],[],[⟨true,(.int .i64)⟩],[]⟩
def F48:List D→Option (List D):=liftX env tb47 60 12 48 S48
theorem F48_eq (sn0:Int):F48 [(D.int sn0)] =
 bif (qinbS (ByteArray.mk #[49,49,50,50,51,51,54,50,53]) sn0)then
 some [(D.int (qwrap IntKind.i64 (qbin BinOp.sub IntKind.u8 (qidxS (ByteArray.mk #[49,49,50,50,51,51,54,50,53]) sn0) 48)))]
 else
 none:=by kernel_rfl
def q48:List D→Option (List D):=veil (F48)
theorem q48_eq:q48=F48:=veil_eq _
def tb48:Tb:=Tb.addF tb47 48 S48 (q48)
theorem ok_tb48:TbOk env (tb48):=addFunF ok_tb47 48 (by kernel_rfl) _ (q48_eq)
def S20:FunS:=⟨[⟨true,(.dat 24)⟩],[],[⟨true, .bool⟩],[]⟩
def F20:List D→Option (List D):=liftX env tb48 60 12 20 S20
theorem F20_eq (sd0:D):F20 [sd0] =
 bif (qsome (q47 [sd0]))then
 some [(D.bool (qcmp BinOp.eql (qint (qnth (q47 [sd0]) 2)) 0))]
 else
 none:=by kernel_rfl
def q20:List D→Option (List D):=veil (F20)
theorem q20_eq:q20=F20:=veil_eq _
def tb20:Tb:=Tb.addF tb48 20 S20 (q20)
theorem ok_tb20:TbOk env (tb20):=addFunF ok_tb48 20 (by kernel_rfl) _ (q20_eq)
def S69:FunS:=⟨[⟨true,(.dat 24)⟩],[],[⟨true,(.int .i64)⟩],[]⟩
def F69:List D→Option (List D):=liftX env tb20 60 12 69 S69
theorem F69_eq (sd0:D):F69 [sd0] =
 bif (qsome (q47 [sd0]))then
 bif (qcmp BinOp.neq (qint (qnth (q47 [sd0]) 2)) 0)then
 some [(D.int 0)]
 else
 bif (qsome (q48 [(D.int (qint (qnth (q47 [sd0]) 1)))]))then
 some [(D.int (qint (qnth (q48 [(D.int (qint (qnth (q47 [sd0]) 1)))]) 0)))]
 else
 none
 else
 none:=by kernel_rfl
def q69:List D→Option (List D):=veil (F69)
theorem q69_eq:q69=F69:=veil_eq _
def tb69:Tb:=Tb.addF tb20 69 S69 (q69)
theorem ok_tb69:TbOk env (tb69):=addFunF ok_tb20 69 (by kernel_rfl) _ (q69_eq)
end
end Go.Proofs.YtobhhfbdelnhfaaGreatDoor
open Go Go.AM
namespace Go.Proofs.YtobhhfbdelnhfaaGreatDoor
noncomputable section
set_option maxRecDepth 100000
set_option linter.unusedSimpArgs false
set_option linter.unusedVariables false
set_option linter.defProp false
def S81:FunS:=⟨[⟨true,(.dat 24)⟩],[],[⟨true, .bool⟩],[]⟩
def F81:List D→Option (List D):=liftX env tb69 60 12 81 S81
theorem F81_eq (sd0:D):F81 [sd0] =
 bif (qiteB (qcmp BinOp.geq (qint (qfld sd0 2)) 5) (qcmp BinOp.leq (qint (qfld sd0 2)) 15) Bool.false)then
 some [(D.bool (qiteB (qcmp BinOp.geq (qint (qfld sd0 3)) 0) (qcmp BinOp.leq (qint (qfld sd0 3)) 2) Bool.false))]
 else
 bif (qcmp BinOp.eql (qint (qfld sd0 2)) 20)then
 some [(D.bool (qiteB (qcmp BinOp.eql (qint (qfld sd0 3)) 1) Bool.true (qcmp BinOp.eql (qint (qfld sd0 3)) 2)))]
 else
 some [(D.bool (qcmp BinOp.eql (qint (qfld sd0 3)) 0))]:=by kernel_rfl
def q81:List D→Option (List D):=veil (F81)
theorem q81_eq:q81=F81:=veil_eq _
def tb81:Tb:=Tb.addF tb69 81 S81 (q81)
theorem ok_tb81:TbOk env (tb81):=addFunF ok_tb69 81 (by kernel_rfl) _ (q81_eq)
def S82:FunS:=⟨[⟨true,(.dat 24)⟩],[],[⟨true, .bool⟩],[]⟩
def F82:List D→Option (List D):=liftX env tb81 60 12 82 S82
theorem F82_eq (sd0:D):F82 [sd0] =
 bif (qcmp BinOp.eql (qint (qfld sd0 2)) 17)then
 some [(D.bool (qiteB (qcmp BinOp.eql (qint (qfld sd0 4)) 1) Bool.true (qcmp BinOp.eql (qint (qfld sd0 4)) 2)))]
 else
 bif (qiteB (qiteB (qcmp BinOp.eql (qint (qfld sd0 2)) 16) Bool.true (qcmp BinOp.eql (qint (qfld sd0 2)) 17)) Bool.true (qcmp BinOp.eql (qint (qfld sd0 2)) 18))then
 some [(D.bool (qiteB (qiteB (qcmp BinOp.eql (qint (qfld sd0 4)) 1) Bool.true (qcmp BinOp.eql (qint (qfld sd0 4)) 2)) Bool.true (qcmp BinOp.eql (qint (qfld sd0 4)) 4)))]
 else
 some [(D.bool (qcmp BinOp.eql (qint (qfld sd0 4)) 0))]:=by kernel_rfl
def q82:List D→Option (List D):=veil (F82)
theorem q82_eq:q82=F82:=veil_eq _
def tb82:Tb:=Tb.addF tb81 82 S82 (q82)
theorem ok_tb82:TbOk env (tb82):=addFunF ok_tb81 82 (by kernel_rfl) _ (q82_eq)
def S46:FunS:=⟨[⟨true,(.dat 24)⟩],[],[⟨true,(.int .i64)⟩],[]⟩
def F46:List D→Option (List D):=liftX env tb82 60 12 46 S46
theorem F46_e (sd0:D):F46 [sd0] =
 let x0:=qint (qfld sd0 2)
 let x1:=qiteB (qcmp .lss x0 0) true (qcmp .gtr x0 27)
 let x2:=Proofs.YtobhhfbdelnhfaaGreatDoor.q81 [sd0]
 let x3:=qiteB x1 true (qnot (qbool (qnth x2 0)))
 let x4:=Proofs.YtobhhfbdelnhfaaGreatDoor.q82 [sd0]
 let x5:Option (List D):=some [.int 2]
 let x6:=qiteB (qiteB (qiteB (qcmp .geq x0 3) (qcmp .leq x0 27) false) (qcmp .neq x0 20) false) (qcmp .neq x0 23) false
 let x7:=qint (qfld sd0 6)
 let x8:=qiteB (qcmp .geq x0 5) (qcmp .leq x0 15) false
 let x9:=qint (qfld sd0 3)
 let x10:=qiteB (qiteB (qcmp .eql x0 16) true (qcmp .eql x0 17)) true (qcmp .eql x0 18)
 let x11:=qcmp .eql x0 19
 let x12:=qiteB (qiteB (qiteB x8 (qcmp .eql x9 0) false) true x10) true x11
 let x13:=qint (qfld sd0 7)
 let x14:=qcmp .eql x0 20
 let x15:=qiteB x14 true (qcmp .eql x0 25)
 let x16:=qint (qfld sd0 5)
 let x17:=qint (qfld sd0 1)
 let x18:=qcmp .eql x9 1
 let x19:Option (List D):=some [.int 7]
 let x20:=qbin .sub .u32 (qbin .sub .u32 x17 (qint (qfld sd0 0))) 2
 let x21:Option (List D):=bif qiteB (qiteB x14 x18 false) (qnot (qiteB (qcmp .leq x20 127) true (qcmp .geq x20 4294967168))) false then x19 else some [.int 0]
 gd (qiteB x1 true (qsome x2))<|gd (qiteB x3 true (qsome x4))<|bif qiteB x3 true (qnot (qbool (qnth x4 0)))then x5 else bif qiteB (qiteB (qiteB (qiteB x6 (qnot (qiteB (qcmp .geq x7 0) (qcmp .lss x7 8) false)) false) true (qiteB (qnot x6) (qcmp .neq x7 0) false)) true (qiteB x12 (qnot (qiteB (qcmp .geq x13 0) (qcmp .lss x13 8) false)) false)) true (qiteB (qnot x12) (qcmp .neq x13 0) false)then x5 else bif qiteB (qiteB (qiteB x15 (qnot (qiteB (qcmp .geq x16 0) (qcmp .leq x16 14) false)) false) true (qiteB (qnot x15) (qcmp .neq x16 0) false)) true (qiteB (qnot (qiteB (qiteB (qiteB (qiteB (qiteB (qiteB x8 (qcmp .neq x9 0) false) true x10) true x11) true x14) true (qcmp .eql x0 22)) true (qcmp .eql x0 23))) (qcmp .neq x17 0) false)then x5 else bif qiteB (qiteB (qiteB x8 x18 false) true x10) true x11 then bif qnot (qiteB (qcmp .leq x17 127) true (qcmp .geq x17 4294967168))then x19 else x21 else x21:=by kernel_rfl
def F46_eq:=by have h:= @F46_e;simp only[ge_id,gd,qeqD_self,qeqI_self,qeq_len,qeq_l,cond_true]at h;exact h
def q46:List D→Option (List D):=veil (F46)
theorem q46_eq:q46=F46:=veil_eq _
def tb46:Tb:=Tb.addF tb82 46 S46 (q46)
theorem ok_tb46:TbOk env (tb46):=addFunF ok_tb82 46 (by kernel_rfl) _ (q46_eq)
def S16:FunS:=⟨[⟨true,(.dat 24)⟩],[],[⟨true, .bool⟩],[]⟩
def F16:List D→Option (List D):=liftX env tb46 60 12 16 S16
theorem F16_eq (sd0:D):F16 [sd0] =
 bif (qsome (q46 [sd0]))then
 some [(D.bool (qcmp BinOp.eql (qint (qnth (q46 [sd0]) 0)) 0))]
 else
 none:=by kernel_rfl
def q16:List D→Option (List D):=veil (F16)
theorem q16_eq:q16=F16:=veil_eq _
def tb16:Tb:=Tb.addF tb46 16 S16 (q16)
theorem ok_tb16:TbOk env (tb16):=addFunF ok_tb46 16 (by kernel_rfl) _ (q16_eq)
def S141:FunS:=⟨[⟨true,(.dat 24)⟩],[],[⟨true,(.int .i64)⟩],[]⟩
def F141:List D→Option (List D):=liftX env tb16 60 12 141 S141
theorem F141_e (sd0:D):F141 [sd0] =
 let x0:=qint (qfld sd0 2)
 let x1:=qint (qfld sd0 4)
 let x2:=qiteI (qcmp .eql x0 18) 85 80
 let x3:=qcmp .eql x1 2
 bif qcmp .eql x0 17 then some [.int (qbin .add .i64 80 (qbin .mul .i64 2 x1))]else bif qcmp .eql x1 1 then some [.int (qbin .add .i64 x2 1)]else bif qiteB x3 (qcmp .eql x0 16) false then some [.int (qbin .add .i64 x2 3)]else bif x3 then some [.int (qbin .add .i64 x2 2)]else some [.int x2]:=by kernel_rfl
def F141_eq:=by have h:= @F141_e;simp only[ge_id,gd,qeqD_self,qeqI_self,qeq_len,qeq_l,cond_true]at h;exact h
def q141:List D→Option (List D):=veil (F141)
theorem q141_eq:q141=F141:=veil_eq _
def tb141:Tb:=Tb.addF tb16 141 S141 (q141)
theorem ok_tb141:TbOk env (tb141):=addFunF ok_tb16 141 (by kernel_rfl) _ (q141_eq)
def S142:FunS:=⟨[⟨true,(.dat 24)⟩],[],[⟨true,(.rows 5)⟩],[]⟩
def F142:List D→Option (List D):=liftX env tb141 60 12 142 S142
theorem F142_e (sd0:D):F142 [sd0] =
 let x0:=qint (qfld sd0 2)
 let x1:=qwrap .u8 (qint (qfld sd0 6))
 let x2:=D.int x1
 bif qcmp .eql x0 3 then some [.list [.int (qbin .add .u8 8 x1)]]else bif qcmp .eql x0 4 then some [.list [.int (qbin .add .u8 16 x1)]]else bif qcmp .eql x0 24 then some [.list [.int 129,x2]]else bif qcmp .eql x0 21 then some [.list [.int 130,x2]]else bif qcmp .eql x0 25 then some [.list [.int (qwrap .u8 (qbin .add .i64 144 (qint (qfld sd0 5)))),x2]]else bif qcmp .eql x0 26 then some [.list [.int 160,x2]]else bif qcmp .eql x0 27 then some [.list [.int 161,x2]]else some [.list [.int (qwrap .u8 x0)]]:=by kernel_rfl
def F142_eq:=by have h:= @F142_e;simp only[ge_id,gd,qeqD_self,qeqI_self,qeq_len,qeq_l,cond_true]at h;exact h
def q142:List D→Option (List D):=veil (F142)
theorem q142_eq:q142=F142:=veil_eq _
def tb142:Tb:=Tb.addF tb141 142 S142 (q142)
theorem ok_tb142:TbOk env (tb142):=addFunF ok_tb141 142 (by kernel_rfl) _ (q142_eq)
def S119:FunS:=⟨[⟨true,(.dat 24)⟩],[],[⟨true,(.rows 5)⟩],[]⟩
def F119:List D→Option (List D):=liftX env tb142 60 12 119 S119
theorem F119_e (sd0:D):F119 [sd0] =
 let x0:=qint (qfld sd0 2)
 let x1:=qint (qfld sd0 3)
 let x2:=qbin .sub .i64 x0 5
 let x3:=qint (qfld sd0 6)
 let x4:=D.int (qwrap .u8 (qbin .add .i64 (qbin .mul .i64 16 x3) (qint (qfld sd0 7))))
 let x5:=qcmp .eql x1 1
 let x6:=D.int (qwrap .u8 x3)
 let x7:=qint (qfld sd0 1)
 let x8:=D.int (qwrap .u8 (qbin .rem .u32 x7 256))
 let x9:=D.int (qwrap .u8 (qbin .rem .u32 (qbin .quo .u32 x7 256) 256))
 let x10:=D.int (qwrap .u8 (qbin .rem .u32 (qbin .quo .u32 x7 65536) 256))
 let x11:=D.int (qwrap .u8 (qbin .quo .u32 x7 16777216))
 let x12:=Proofs.YtobhhfbdelnhfaaGreatDoor.q141 [sd0]
 let x13:=qint (qfld sd0 5)
 let x14:=qbin .sub .u32 x7 (qint (qfld sd0 0))
 let x15:=qbin .sub .u32 x14 5
 let x16:=D.int (qwrap .u8 (qbin .rem .u32 x15 256))
 let x17:=D.int (qwrap .u8 (qbin .rem .u32 (qbin .quo .u32 x15 256) 256))
 let x18:=D.int (qwrap .u8 (qbin .rem .u32 (qbin .quo .u32 x15 65536) 256))
 let x19:=D.int (qwrap .u8 (qbin .quo .u32 x15 16777216))
 let x20:=Proofs.YtobhhfbdelnhfaaGreatDoor.q142 [sd0]
 bif qiteB (qcmp .geq x0 5) (qcmp .leq x0 15) false then bif qcmp .eql x1 0 then some [.list [.int (qwrap .u8 (qbin .add .i64 32 x2)),x4]]else bif x5 then some [.list [.int (qwrap .u8 (qbin .add .i64 48 x2)),x6,x8]]else some [.list [.int (qwrap .u8 (qbin .add .i64 64 x2)),x6,x8,x9,x10,x11]]else bif qiteB (qiteB (qcmp .eql x0 16) true (qcmp .eql x0 17)) true (qcmp .eql x0 18)then gd (qsome x12)<|some [.list [.int (qwrap .u8 (qint (qnth x12 0))),x4,x8]]else bif qcmp .eql x0 19 then some [.list [.int 90,x4,x8]]else bif qcmp .eql x0 20 then bif x5 then some [.list [.int (qwrap .u8 (qbin .add .i64 96 x13)),.int (qwrap .u8 (qbin .rem .u32 (qbin .sub .u32 x14 2) 256))]]else some [.list [.int (qwrap .u8 (qbin .add .i64 112 x13)),x16,x17,x18,x19]]else bif qcmp .eql x0 23 then some [.list [.int 128,x16,x17,x18,x19]]else bif qcmp .eql x0 22 then some [.list [.int 131,x6,x8,x9,x10,x11]]else gd (qsome x20)<|some [qnth x20 0]:=by kernel_rfl
def F119_eq:=by have h:= @F119_e;simp only[ge_id,gd,qeqD_self,qeqI_self,qeq_len,qeq_l,cond_true]at h;exact h
def q119:List D→Option (List D):=veil (F119)
theorem q119_eq:q119=F119:=veil_eq _
def tb119:Tb:=Tb.addF tb142 119 S119 (q119)
theorem ok_tb119:TbOk env (tb119):=addFunF ok_tb142 119 (by kernel_rfl) _ (q119_eq)
def S74:FunS:=⟨[⟨true,(.dat 24)⟩],[],[⟨true,(.int .i64)⟩],[]⟩
def F74:List D→Option (List D):=liftX env tb119 60 12 74 S74
theorem F74_eq (sd0:D):F74 [sd0] =
 bif (qsome (q16 [sd0]))then
 bif (qnot (qbool (qnth (q16 [sd0]) 0)))then
 some [(D.int 0)]
 else
 bif (qsome (q119 [sd0]))then
 some [(D.int (qlen (qnth (q119 [sd0]) 0)))]
 else
 none
 else
 none:=by kernel_rfl
def q74:List D→Option (List D):=veil (F74)
theorem q74_eq:q74=F74:=veil_eq _
def tb74:Tb:=Tb.addF tb119 74 S74 (q74)
theorem ok_tb74:TbOk env (tb74):=addFunF ok_tb119 74 (by kernel_rfl) _ (q74_eq)
end
end Go.Proofs.YtobhhfbdelnhfaaGreatDoor
open Go Go.AM
namespace Go.Proofs.YtobhhfbdelnhfaaGreatDoor
noncomputable section
set_option maxRecDepth 100000
set_option linter.unusedSimpArgs false
set_option linter.unusedVariables false
set_option linter.defProp false
def S26:FunS:=⟨[⟨true,(.int .i64)⟩],[],[⟨true, .str⟩],[]⟩
def F26:List D→Option (List D):=liftX env tb74 60 12 26 S26
theorem F26_e (sn0:Int):F26 [(D.int sn0)] =
 let x0:=D.list [.str (ByteArray.mk #[97,108]),.str (ByteArray.mk #[101,113]),.str (ByteArray.mk #[110,101]),.str (ByteArray.mk #[108,116]),.str (ByteArray.mk #[103,101]),.str (ByteArray.mk #[108,101]),.str (ByteArray.mk #[103,116]),.str (ByteArray.mk #[98]),.str (ByteArray.mk #[97,101]),.str (ByteArray.mk #[98,101]),.str (ByteArray.mk #[97]),.str (ByteArray.mk #[110,101,103]),.str (ByteArray.mk #[112,111,115]),.str (ByteArray.mk #[111,118]),.str (ByteArray.mk #[110,111])]
 gd (qcmp .leq 0 sn0)<|gd (qcmp .lss sn0 15)<|gd (qinb x0 sn0)<|some [.str (qstr (qget x0 sn0))]:=by kernel_rfl
def F26_eq:=by have h:= @F26_e;simp only[ge_id,gd,qeqD_self,qeqI_self,qeq_len,qeq_l,cond_true]at h;exact h
def q26:List D→Option (List D):=veil (F26)
theorem q26_eq:q26=F26:=veil_eq _
def tb26:Tb:=Tb.addF tb74 26 S26 (q26)
theorem ok_tb26:TbOk env (tb26):=addFunF ok_tb74 26 (by kernel_rfl) _ (q26_eq)
def S56:FunS:=⟨[⟨true,(.int .i64)⟩],[],[⟨true, .str⟩],[]⟩
def F56:List D→Option (List D):=liftX env tb26 60 12 56 S56
theorem F56_e (sn0:Int):F56 [(D.int sn0)] =
 let x0:=qbin .sub .i64 sn0 5
 let x1:=D.list [.str (ByteArray.mk #[109,111,118]),.str (ByteArray.mk #[97,100,100]),.str (ByteArray.mk #[115,117,98]),.str (ByteArray.mk #[97,110,100]),.str (ByteArray.mk #[111,114]),.str (ByteArray.mk #[120,111,114]),.str (ByteArray.mk #[109,117,108]),.str (ByteArray.mk #[115,104,108]),.str (ByteArray.mk #[115,104,114]),.str (ByteArray.mk #[115,97,114]),.str (ByteArray.mk #[99,109,112])]
 gd (qcmp .leq 0 x0)<|gd (qcmp .lss x0 11)<|gd (qinb x1 x0)<|some [.str (qstr (qget x1 x0))]:=by kernel_rfl
def F56_eq:=by have h:= @F56_e;simp only[ge_id,gd,qeqD_self,qeqI_self,qeq_len,qeq_l,cond_true]at h;exact h
def q56:List D→Option (List D):=veil (F56)
theorem q56_eq:q56=F56:=veil_eq _
def tb56:Tb:=Tb.addF tb26 56 S56 (q56)
theorem ok_tb56:TbOk env (tb56):=addFunF ok_tb26 56 (by kernel_rfl) _ (q56_eq)
def S25:FunS:=⟨[⟨true,(.int .u32)⟩],[],[⟨true, .str⟩],[]⟩
def F25:List D→Option (List D):=liftX env tb56 9 12 25 S25
theorem F25_e (sn0:Int):F25 [(D.int sn0)] =
 let x0:=qwrap .u64 sn0
 let x1:=ByteArray.mk #[48,49,50,51,52,53,54,55,56,57,97,98,99,100,101,102,103,104,105,106,107,108,109,110,111,112,113,114,115,116,117,118,119,120,121,122]
 let x2:=qbin .and .u64 x0 15
 let x3:=qbin .shr .u64 x0 4
 let x4:=qbin .and .u64 x3 15
 let x5:=qbin .shr .u64 x3 4
 let x6:=qbin .and .u64 x5 15
 let x7:=qbin .shr .u64 x5 4
 let x8:=qbin .and .u64 x7 15
 let x9:=qbin .shr .u64 x7 4
 let x10:=qbin .and .u64 x9 15
 let x11:=qbin .shr .u64 x9 4
 let x12:=qbin .and .u64 x11 15
 let x13:=qbin .shr .u64 x11 4
 let x14:=qbin .and .u64 x13 15
 let x15:=qbin .shr .u64 x13 4
 let x16:=qbin .and .u64 x15 15
 let x17:=qbin .shr .u64 x15 4
 let x18:=ByteArray.mk #[48,120]
 let x19:=D.int (qidxS x1 x14)
 let x20:=D.int (qidxS x1 x12)
 let x21:=D.int (qidxS x1 x10)
 let x22:=D.int (qidxS x1 x8)
 let x23:=D.int (qidxS x1 x6)
 let x24:=D.int (qidxS x1 x4)
 let x25:=D.int (qidxS x1 x2)
 let x26:=qtext (.list [.int (qidxS x1 x17),.int (qidxS x1 x16),x19,x20,x21,x22,x23,x24,x25])
 let x27:=qtext (.list [.int (qidxS x1 x15),x19,x20,x21,x22,x23,x24,x25])
 let x28:=qtext (.list [.int (qidxS x1 x13),x20,x21,x22,x23,x24,x25])
 let x29:=qtext (.list [.int (qidxS x1 x11),x21,x22,x23,x24,x25])
 let x30:=qtext (.list [.int (qidxS x1 x9),x22,x23,x24,x25])
 let x31:=qtext (.list [.int (qidxS x1 x7),x23,x24,x25])
 let x32:=qtext (.list [.int (qidxS x1 x5),x24,x25])
 let x33:=qtext (.list [.int (qidxS x1 x3),x25])
 let x34:=qtext (.list [.int (qidxS x1 x0)])
 bif qcmp .geq x0 16 then gd (qinbS x1 x2)<|bif qcmp .geq x3 16 then gd (qinbS x1 x4)<|bif qcmp .geq x5 16 then gd (qinbS x1 x6)<|bif qcmp .geq x7 16 then gd (qinbS x1 x8)<|bif qcmp .geq x9 16 then gd (qinbS x1 x10)<|bif qcmp .geq x11 16 then gd (qinbS x1 x12)<|bif qcmp .geq x13 16 then gd (qinbS x1 x14)<|bif qcmp .geq x15 16 then gd (qinbS x1 x16)<|bif qcmp .geq x17 16 then gd (qinbS x1 (qbin .and .u64 x17 15)) none else gd (qinbS x1 x17)<|gd (qcatOk x18 x26)<|some [.str (qcat x18 x26)]else gd (qinbS x1 x15)<|gd (qcatOk x18 x27)<|some [.str (qcat x18 x27)]else gd (qinbS x1 x13)<|gd (qcatOk x18 x28)<|some [.str (qcat x18 x28)]else gd (qinbS x1 x11)<|gd (qcatOk x18 x29)<|some [.str (qcat x18 x29)]else gd (qinbS x1 x9)<|gd (qcatOk x18 x30)<|some [.str (qcat x18 x30)]else gd (qinbS x1 x7)<|gd (qcatOk x18 x31)<|some [.str (qcat x18 x31)]else gd (qinbS x1 x5)<|gd (qcatOk x18 x32)<|some [.str (qcat x18 x32)]else gd (qinbS x1 x3)<|gd (qcatOk x18 x33)<|some [.str (qcat x18 x33)]else gd (qinbS x1 x0)<|gd (qcatOk x18 x34)<|some [.str (qcat x18 x34)]:=by kernel_rfl
def F25_eq:=by have h:= @F25_e;simp only[ge_id,gd,qeqD_self,qeqI_self,qeq_len,qeq_l,cond_true]at h;exact h
def q25:List D→Option (List D):=veil (F25)
theorem q25_eq:q25=F25:=veil_eq _
def tb25:Tb:=Tb.addF tb56 25 S25 (q25)
theorem ok_tb25:TbOk env (tb25):=addFunK 9 ok_tb56 25 (by kernel_rfl) _ (q25_eq)
def S53:FunS:=⟨[⟨true,(.int .u32)⟩],[],[⟨true, .str⟩],[]⟩
def F53:List D→Option (List D):=liftX env tb25 60 12 53 S53
theorem F53_eq (sn0:Int):F53 [(D.int sn0)] =
 bif (qcmp BinOp.leq (-9223372036854775808) (qwrap IntKind.i64 (qwrap IntKind.i32 sn0)))then
 bif (qcmp BinOp.leq (qwrap IntKind.i64 (qwrap IntKind.i32 sn0)) 9223372036854775807)then
 some [(D.str (qitoa (qwrap IntKind.i64 (qwrap IntKind.i32 sn0))))]
 else
 none
 else
 none:=by kernel_rfl
def q53:List D→Option (List D):=veil (F53)
theorem q53_eq:q53=F53:=veil_eq _
def tb53:Tb:=Tb.addF tb25 53 S53 (q53)
theorem ok_tb53:TbOk env (tb53):=addFunF ok_tb25 53 (by kernel_rfl) _ (q53_eq)
def S21:FunS:=⟨[⟨true,(.int .i64)⟩],[],[⟨true, .str⟩],[]⟩
def F21:List D→Option (List D):=liftX env tb53 60 12 21 S21
theorem F21_eq (sn0:Int):F21 [(D.int sn0)] =
 bif (qcmp BinOp.leq (-9223372036854775808) sn0)then
 bif (qcmp BinOp.leq sn0 9223372036854775807)then
 bif (qcatOk (ByteArray.mk #[114]) (qitoa sn0))then
 some [(D.str (qcat (ByteArray.mk #[114]) (qitoa sn0)))]
 else
 none
 else
 none
 else
 none:=by kernel_rfl
def q21:List D→Option (List D):=veil (F21)
theorem q21_eq:q21=F21:=veil_eq _
def tb21:Tb:=Tb.addF tb53 21 S21 (q21)
theorem ok_tb21:TbOk env (tb21):=addFunF ok_tb53 21 (by kernel_rfl) _ (q21_eq)
def S23:FunS:=⟨[⟨true,(.dat 24)⟩],[],[⟨true, .str⟩],[]⟩
def F23:List D→Option (List D):=liftX env tb21 60 12 23 S23
theorem F23_e (sd0:D):F23 [sd0] =
 let x0:=qint (qfld sd0 1)
 let x1:=Proofs.YtobhhfbdelnhfaaGreatDoor.q21 [.int (qint (qfld sd0 7))]
 let x2:=qsome x1
 let x3:=ByteArray.mk #[91]
 let x4:=qstr (qnth x1 0)
 let x5:=qcatOk x3 x4
 let x6:=qcat x3 x4
 let x7:=ByteArray.mk #[93]
 let x8:=ByteArray.mk #[43]
 let x9:=Proofs.YtobhhfbdelnhfaaGreatDoor.q53 [.int x0]
 let x10:=qcat x6 x8
 let x11:=qstr (qnth x9 0)
 let x12:=qcat x10 x11
 let x13:=qcat x6 x11
 bif qcmp .eql x0 0 then gd x2<|gd x5<|gd (qcatOk x6 x7)<|some [.str (qcat x6 x7)]else bif qcmp .eql (qbin .shr .u32 x0 31) 0 then gd x2<|gd x5<|gd (qcatOk x6 x8)<|gd (qsome x9)<|gd (qcatOk x10 x11)<|gd (qcatOk x12 x7)<|some [.str (qcat x12 x7)]else gd x2<|gd x5<|gd (qsome x9)<|gd (qcatOk x6 x11)<|gd (qcatOk x13 x7)<|some [.str (qcat x13 x7)]:=by kernel_rfl
def F23_eq:=by have h:= @F23_e;simp only[ge_id,gd,qeqD_self,qeqI_self,qeq_len,qeq_l,cond_true]at h;exact h
def q23:List D→Option (List D):=veil (F23)
theorem q23_eq:q23=F23:=veil_eq _
def tb23:Tb:=Tb.addF tb21 23 S23 (q23)
theorem ok_tb23:TbOk env (tb23):=addFunF ok_tb21 23 (by kernel_rfl) _ (q23_eq)
def S24:FunS:=⟨[⟨true,(.dat 24)⟩],[],[⟨true, .str⟩],[]⟩
def F24:List D→Option (List D):=liftX env tb23 60 12 24 S24
theorem F24_e (sd0:D):F24 [sd0] =
 let x0:=qint (qfld sd0 5)
 let x1:=qcmp .neq x0 0
 let x2:=Proofs.YtobhhfbdelnhfaaGreatDoor.q26 [.int x0]
 let x3:=ByteArray.mk #[106]
 let x4:=qstr (qnth x2 0)
 let x5:=qint (qfld sd0 1)
 let x6:=qbin .sub .u32 (qbin .sub .u32 x5 (qint (qfld sd0 0))) 2
 let x7:=qiteB (qcmp .eql (qint (qfld sd0 3)) 2) (qcmp .eql (qwrap .u32 (qwrap .i8 x6)) x6) false
 let x8:=qiteS x1 (qcat x3 x4) (ByteArray.mk #[106,109,112])
 let x9:=ByteArray.mk #[46,119]
 let x10:=qiteS x7 (qcat x8 x9) x8
 let x11:=ByteArray.mk #[32]
 let x12:=Proofs.YtobhhfbdelnhfaaGreatDoor.q25 [.int x5]
 let x13:=qcat x10 x11
 let x14:=qstr (qnth x12 0)
 gd (qiteB x1 (qand (qsome x2) (qcatOk x3 x4)) true)<|gd (qiteB x7 (qcatOk x8 x9) true)<|gd (qcatOk x10 x11)<|gd (qsome x12)<|gd (qcatOk x13 x14)<|some [.str (qcat x13 x14)]:=by kernel_rfl
def F24_eq:=by have h:= @F24_e;simp only[ge_id,gd,qeqD_self,qeqI_self,qeq_len,qeq_l,cond_true]at h;exact h
def q24:List D→Option (List D):=veil (F24)
theorem q24_eq:q24=F24:=veil_eq _
def tb24:Tb:=Tb.addF tb23 24 S24 (q24)
theorem ok_tb24:TbOk env (tb24):=addFunF ok_tb23 24 (by kernel_rfl) _ (q24_eq)
def S27:FunS:=⟨[⟨true,(.dat 24)⟩],[],[⟨true, .str⟩],[]⟩
def F27:List D→Option (List D):=liftX env tb24 60 12 27 S27
theorem F27_e (sd0:D):F27 [sd0] =
 let x0:=Proofs.YtobhhfbdelnhfaaGreatDoor.q56 [.int (qint (qfld sd0 2))]
 let x1:=Proofs.YtobhhfbdelnhfaaGreatDoor.q21 [.int (qint (qfld sd0 6))]
 let x2:=ByteArray.mk #[32]
 let x3:=qstr (qnth x1 0)
 let x4:=qcat x2 x3
 let x5:=ByteArray.mk #[44,32]
 let x6:=qint (qfld sd0 3)
 let x7:=qstr (qnth x0 0)
 let x8:=qcat x4 x5
 let x9:=qcatOk x7 x8
 let x10:=Proofs.YtobhhfbdelnhfaaGreatDoor.q21 [.int (qint (qfld sd0 7))]
 let x11:=qcat x7 x8
 let x12:=qstr (qnth x10 0)
 let x13:=qint (qfld sd0 1)
 let x14:List D:=[.int x13]
 let x15:=Proofs.YtobhhfbdelnhfaaGreatDoor.q53 x14
 let x16:=qstr (qnth x15 0)
 let x17:=ByteArray.mk #[46,119]
 let x18:=qcat x7 x17
 let x19:=qcat x18 x8
 let x20:=Proofs.YtobhhfbdelnhfaaGreatDoor.q25 x14
 let x21:=qstr (qnth x20 0)
 gd (qsome x0)<|gd (qsome x1)<|gd (qcatOk x2 x3)<|gd (qcatOk x4 x5)<|bif qcmp .eql x6 0 then gd x9<|gd (qsome x10)<|gd (qcatOk x11 x12)<|some [.str (qcat x11 x12)]else bif qcmp .eql x6 1 then gd x9<|gd (qsome x15)<|gd (qcatOk x11 x16)<|some [.str (qcat x11 x16)]else bif qcmp .eql (qwrap .u32 (qwrap .i8 x13)) x13 then gd (qcatOk x7 x17)<|gd (qcatOk x18 x8)<|gd (qsome x15)<|gd (qcatOk x19 x16)<|some [.str (qcat x19 x16)]else gd x9<|gd (qsome x20)<|gd (qcatOk x11 x21)<|some [.str (qcat x11 x21)]:=by kernel_rfl
def F27_eq:=by have h:= @F27_e;simp only[ge_id,gd,qeqD_self,qeqI_self,qeq_len,qeq_l,cond_true]at h;exact h
def q27:List D→Option (List D):=veil (F27)
theorem q27_eq:q27=F27:=veil_eq _
def tb27:Tb:=Tb.addF tb24 27 S27 (q27)
theorem ok_tb27:TbOk env (tb27):=addFunF ok_tb24 27 (by kernel_rfl) _ (q27_eq)
def S8:FunS:=⟨[⟨true,(.dat 24)⟩],[],[⟨true, .str⟩],[]⟩
def F8:List D→Option (List D):=liftX env tb27 60 12 8 S8
theorem F8_e (sd0:D):F8 [sd0] =
 let x0:=Proofs.YtobhhfbdelnhfaaGreatDoor.q20 [sd0]
 let x1:=qint (qfld sd0 2)
 let x2:=qcmp .eql x1 0
 let x3:=qcmp .eql x1 1
 let x4:=qcmp .leq 0 x1
 let x5:=qcmp .lss x1 5
 let x6:=D.list [.str (ByteArray.mk #[110,111,112]),.str (ByteArray.mk #[104,97,108,116]),.str (ByteArray.mk #[114,101,116]),.str (ByteArray.mk #[112,117,115,104,32]),.str (ByteArray.mk #[112,111,112,32])]
 let x7:=qinb x6 x1
 let x8:=qstr (qget x6 x1)
 let x9:=qcmp .eql x1 3
 let x10:=Proofs.YtobhhfbdelnhfaaGreatDoor.q21 [.int (qint (qfld sd0 6))]
 let x11:=qsome x10
 let x12:=qstr (qnth x10 0)
 let x13:=qint (qfld sd0 4)
 let x14:=qcmp .leq (-9223372036854775808) x13
 let x15:=qcmp .leq x13 9223372036854775807
 let x16:=ByteArray.mk #[108,111,97,100]
 let x17:=qitoa x13
 let x18:=qcatOk x16 x17
 let x19:=qcat x16 x17
 let x20:=ByteArray.mk #[32]
 let x21:=qcat x19 x20
 let x22:=qcat x21 x12
 let x23:=ByteArray.mk #[44,32]
 let x24:=Proofs.YtobhhfbdelnhfaaGreatDoor.q23 [sd0]
 let x25:=qsome x24
 let x26:=qcat x22 x23
 let x27:=qstr (qnth x24 0)
 let x28:=ByteArray.mk #[115,32]
 let x29:=qcat x19 x28
 let x30:=qcat x29 x12
 let x31:=qcat x30 x23
 let x32:=ByteArray.mk #[115,116,111,114,101]
 let x33:=qcat x32 x17
 let x34:=qcat x33 x20
 let x35:=qcat x34 x27
 let x36:=qcat x35 x23
 let x37:=ByteArray.mk #[108,101,97,32]
 let x38:=qcat x37 x12
 let x39:=qcat x38 x23
 let x40:=Proofs.YtobhhfbdelnhfaaGreatDoor.q24 [sd0]
 let x41:=ByteArray.mk #[106,117,109,112,114,32]
 let x42:=ByteArray.mk #[99,97,108,108,114,32]
 let x43:=ByteArray.mk #[106,117,109,112,116,32]
 let x44:=qcat x43 x12
 let x45:=Proofs.YtobhhfbdelnhfaaGreatDoor.q25 [.int (qint (qfld sd0 1))]
 let x46:=qcat x44 x23
 let x47:=qstr (qnth x45 0)
 let x48:=ByteArray.mk #[99,97,108,108,32]
 let x49:=Proofs.YtobhhfbdelnhfaaGreatDoor.q26 [.int (qint (qfld sd0 5))]
 let x50:=ByteArray.mk #[115,101,116]
 let x51:=qstr (qnth x49 0)
 let x52:=qcat x50 x51
 let x53:=qcat x52 x20
 let x54:=ByteArray.mk #[105,110,32]
 let x55:=ByteArray.mk #[111,117,116,32]
 let x56:=Proofs.YtobhhfbdelnhfaaGreatDoor.q27 [sd0]
 gd (qsome x0)<|bif qnot (qbool (qnth x0 0))then some [.str (ByteArray.mk #[])]else bif qiteB x2 x2 (qiteB x3 x3 (qcmp .eql x1 2))then gd x4<|gd x5<|gd x7<|some [.str x8]else bif qiteB x9 x9 (qcmp .eql x1 4)then gd x4<|gd x5<|gd x7<|gd x11<|gd (qcatOk x8 x12)<|some [.str (qcat x8 x12)]else bif qcmp .eql x1 16 then gd x14<|gd x15<|gd x18<|gd (qcatOk x19 x20)<|gd x11<|gd (qcatOk x21 x12)<|gd (qcatOk x22 x23)<|gd x25<|gd (qcatOk x26 x27)<|some [.str (qcat x26 x27)]else bif qcmp .eql x1 17 then gd x14<|gd x15<|gd x18<|gd (qcatOk x19 x28)<|gd x11<|gd (qcatOk x29 x12)<|gd (qcatOk x30 x23)<|gd x25<|gd (qcatOk x31 x27)<|some [.str (qcat x31 x27)]else bif qcmp .eql x1 18 then gd x14<|gd x15<|gd (qcatOk x32 x17)<|gd (qcatOk x33 x20)<|gd x25<|gd (qcatOk x34 x27)<|gd (qcatOk x35 x23)<|gd x11<|gd (qcatOk x36 x12)<|some [.str (qcat x36 x12)]else bif qcmp .eql x1 19 then gd x11<|gd (qcatOk x37 x12)<|gd (qcatOk x38 x23)<|gd x25<|gd (qcatOk x39 x27)<|some [.str (qcat x39 x27)]else bif qcmp .eql x1 20 then gd (qsome x40)<|some [.str (qstr (qnth x40 0))]else bif qcmp .eql x1 21 then gd x11<|gd (qcatOk x41 x12)<|some [.str (qcat x41 x12)]else bif qcmp .eql x1 24 then gd x11<|gd (qcatOk x42 x12)<|some [.str (qcat x42 x12)]else bif qcmp .eql x1 22 then gd x11<|gd (qcatOk x43 x12)<|gd (qcatOk x44 x23)<|gd (qsome x45)<|gd (qcatOk x46 x47)<|some [.str (qcat x46 x47)]else bif qcmp .eql x1 23 then gd (qsome x45)<|gd (qcatOk x48 x47)<|some [.str (qcat x48 x47)]else bif qcmp .eql x1 25 then gd (qsome x49)<|gd (qcatOk x50 x51)<|gd (qcatOk x52 x20)<|gd x11<|gd (qcatOk x53 x12)<|some [.str (qcat x53 x12)]else bif qcmp .eql x1 26 then gd x11<|gd (qcatOk x54 x12)<|some [.str (qcat x54 x12)]else bif qcmp .eql x1 27 then gd x11<|gd (qcatOk x55 x12)<|some [.str (qcat x55 x12)]else gd (qsome x56)<|some [.str (qstr (qnth x56 0))]:=by kernel_rfl
def F8_eq:=by have h:= @F8_e;simp only[ge_id,gd,qeqD_self,qeqI_self,qeq_len,qeq_l,cond_true]at h;exact h
def q8:List D→Option (List D):=veil (F8)
theorem q8_eq:q8=F8:=veil_eq _
def tb8:Tb:=Tb.addF tb27 8 S8 (q8)
theorem ok_tb8:TbOk env (tb8):=addFunF ok_tb27 8 (by kernel_rfl) _ (q8_eq)
end
end Go.Proofs.YtobhhfbdelnhfaaGreatDoor
open Go Go.AM
namespace Go.Proofs.YtobhhfbdelnhfaaGreatDoor
noncomputable section
set_option maxRecDepth 100000
set_option linter.unusedSimpArgs false
set_option linter.unusedVariables false
set_option linter.defProp false
def S35:FunS:=⟨[],[],[⟨true,(.rows 9)⟩],[]⟩
def F35:List D→Option (List D):=liftX env tb8 60 12 35 S35
theorem F35_eq:F35 [] =
 some [(D.list [(D.str (ByteArray.mk #[97,108])),(D.str (ByteArray.mk #[101,113])),(D.str (ByteArray.mk #[110,101])),(D.str (ByteArray.mk #[108,116])),(D.str (ByteArray.mk #[103,101])),(D.str (ByteArray.mk #[108,101])),(D.str (ByteArray.mk #[103,116])),(D.str (ByteArray.mk #[98])),(D.str (ByteArray.mk #[97,101])),(D.str (ByteArray.mk #[98,101])),(D.str (ByteArray.mk #[97])),(D.str (ByteArray.mk #[110,101,103])),(D.str (ByteArray.mk #[112,111,115])),(D.str (ByteArray.mk #[111,118])),(D.str (ByteArray.mk #[110,111]))])]:=by kernel_rfl
def q35:List D→Option (List D):=veil (F35)
theorem q35_eq:q35=F35:=veil_eq _
def tb35:Tb:=Tb.addF tb8 35 S35 (q35)
theorem ok_tb35:TbOk env (tb35):=addFunF ok_tb8 35 (by kernel_rfl) _ (q35_eq)
def S57:FunS:=⟨[],[],[⟨true,(.rows 9)⟩],[]⟩
def F57:List D→Option (List D):=liftX env tb35 60 12 57 S57
theorem F57_eq:F57 [] =
 some [(D.list [(D.str (ByteArray.mk #[109,111,118])),(D.str (ByteArray.mk #[97,100,100])),(D.str (ByteArray.mk #[115,117,98])),(D.str (ByteArray.mk #[97,110,100])),(D.str (ByteArray.mk #[111,114])),(D.str (ByteArray.mk #[120,111,114])),(D.str (ByteArray.mk #[109,117,108])),(D.str (ByteArray.mk #[115,104,108])),(D.str (ByteArray.mk #[115,104,114])),(D.str (ByteArray.mk #[115,97,114])),(D.str (ByteArray.mk #[99,109,112]))])]:=by kernel_rfl
def q57:List D→Option (List D):=veil (F57)
theorem q57_eq:q57=F57:=veil_eq _
def tb57:Tb:=Tb.addF tb35 57 S57 (q57)
theorem ok_tb57:TbOk env (tb57):=addFunF ok_tb35 57 (by kernel_rfl) _ (q57_eq)
def S30_2:LoopS:=⟨0,[⟨true,(.int .u32)⟩,uF,⟨false, .str⟩,⟨true, .str⟩,uF,uF,uF,uF,uF,uF,uF,uF,uF,uF,uF,uF,uF,uF,uF,uF,uF,uF,uF],[],[⟨0,0,[uT,uT,⟨false, .str⟩,⟨true, .str⟩,uT,uT,uT,uT,uT,uT,uT,uT,uT,uT,uT,uT,uT,uT,uT,uT,uT,uT,uT],[]⟩]⟩
def st30_2 (p s:List D):Option (Sum (List D) (List D)):=stepQX env tb57 60 12 30 (loopC 30 2) S30_2 p s
theorem st30_2_e (ps0:ByteArray) (sn0:Int) (ss1:ByteArray):st30_2 [(D.str ps0)] [(D.int sn0),(D.str ss1)] =
 let x0:=qbin .quo .u32 sn0 10
 let x1:=qtext (.list [.int (qwrap .u8 (qbin .add .u32 48 (qbin .rem .u32 x0 10)))])
 bif qcmp .geq sn0 10 then gd (qcatOk x1 ss1)<|ge (.str ps0)<|some (Sum.inl [.int x0,.str (qcat x1 ss1)])else ge (.str ps0)<|some (Sum.inr [.int 0,.str ss1]):=by kernel_rfl
def st30_2_eq:=by have h:= @st30_2_e;simp only[ge_id,gd,qeqD_self,qeqI_self,qeq_len,qeq_l,cond_true]at h;exact h
def l30_2:List D→List D→Option (List D):=veil fun p s=>loW (st30_2 p) s
theorem l30_2_eq:l30_2=fun p s=>loW (st30_2 p) s:=veil_eq _
def tbl30_2:Tb:=Tb.addL tb57 30 2 S30_2.n0 (mkLp S30_2 (l30_2))
theorem ok_tbl30_2:TbOk env (tbl30_2):=addLoopQ ok_tb57 30 2 (by kernel_rfl) _ (l30_2_eq)
def S30:FunS:=⟨[⟨true,(.int .u32)⟩],[],[⟨true, .str⟩],[]⟩
def F30:List D→Option (List D):=liftX env tbl30_2 60 12 30 S30
theorem F30_eq (sn0:Int):F30 [(D.int sn0)] =
 bif (qsome (l30_2 [(D.str (ByteArray.mk #[]))] [(D.int sn0),(D.str (qtext (D.list [(D.int (qwrap IntKind.u8 (qbin BinOp.add IntKind.u32 48 (qbin BinOp.rem IntKind.u32 sn0 10))))])))]))then
 some [(D.str (qstr (qnth (l30_2 [(D.str (ByteArray.mk #[]))] [(D.int sn0),(D.str (qtext (D.list [(D.int (qwrap IntKind.u8 (qbin BinOp.add IntKind.u32 48 (qbin BinOp.rem IntKind.u32 sn0 10))))])))]) 1)))]
 else
 none:=by kernel_rfl
def q30:List D→Option (List D):=veil (F30)
theorem q30_eq:q30=F30:=veil_eq _
def tb30:Tb:=Tb.addF tbl30_2 30 S30 (q30)
theorem ok_tb30:TbOk env (tb30):=addFunF ok_tbl30_2 30 (by kernel_rfl) _ (q30_eq)
def S34_3:LoopS:=⟨0,[⟨true,(.int .u32)⟩,uF,⟨false, .str⟩,⟨false, .str⟩,⟨true, .str⟩,uF,uF,uF,uF,uF,uF,uF,uF,uF,uF,uF,uF,uF,uF,uF,uF,uF,uF,uF,uF,uF,uF],[],[⟨0,0,[uT,uT,⟨false, .str⟩,⟨false, .str⟩,⟨true, .str⟩,uT,uT,uT,uT,uT,uT,uT,uT,uT,uT,uT,uT,uT,uT,uT,uT,uT,uT,uT,uT,uT,uT],[]⟩]⟩
def st34_3 (p s:List D):Option (Sum (List D) (List D)):=stepQX env tb30 60 12 34 (loopC 34 3) S34_3 p s
theorem st34_3_e (ps0:ByteArray) (ps1:ByteArray) (sn0:Int) (ss1:ByteArray):st34_3 [(D.str ps0),(D.str ps1)] [(D.int sn0),(D.str ss1)] =
 let x0:=qbin .quo .u32 sn0 16
 let x1:=qbin .rem .u32 x0 16
 let x2:=qbin .add .u32 x1 1
 let x3:=qsubS ps1 x1 x2
 bif qcmp .geq sn0 16 then gd (qcmp .leq 0 x1)<|gd (qcmp .leq x1 x2)<|gd (qcmp .leq x2 (qlenS ps1))<|gd (qcatOk x3 ss1)<|ge (.str ps0)<|ge (.str ps1)<|some (Sum.inl [.int x0,.str (qcat x3 ss1)])else ge (.str ps0)<|ge (.str ps1)<|some (Sum.inr [.int 0,.str ss1]):=by kernel_rfl
def st34_3_eq:=by have h:= @st34_3_e;simp only[ge_id,gd,qeqD_self,qeqI_self,qeq_len,qeq_l,cond_true]at h;exact h
def l34_3:List D→List D→Option (List D):=veil fun p s=>loW (st34_3 p) s
theorem l34_3_eq:l34_3=fun p s=>loW (st34_3 p) s:=veil_eq _
def tbl34_3:Tb:=Tb.addL tb30 34 3 S34_3.n0 (mkLp S34_3 (l34_3))
theorem ok_tbl34_3:TbOk env (tbl34_3):=addLoopQ ok_tb30 34 3 (by kernel_rfl) _ (l34_3_eq)
def S34:FunS:=⟨[⟨true,(.int .u32)⟩],[],[⟨true, .str⟩],[]⟩
def F34:List D→Option (List D):=liftX env tbl34_3 60 12 34 S34
theorem F34_e (sn0:Int):F34 [(D.int sn0)] =
 let x0:=qbin .rem .u32 sn0 16
 let x1:=qbin .add .u32 x0 1
 let x2:=ByteArray.mk #[48,49,50,51,52,53,54,55,56,57,97,98,99,100,101,102]
 let x3:=Proofs.YtobhhfbdelnhfaaGreatDoor.l34_3 [.str (ByteArray.mk #[]),.str x2] [.int sn0,.str (qsubS x2 x0 x1)]
 let x4:=ByteArray.mk #[48,120]
 let x5:=qstr (qnth x3 1)
 gd (qcmp .leq 0 x0)<|gd (qcmp .leq x0 x1)<|gd (qcmp .leq x1 (qlenS x2))<|gd (qsome x3)<|gd (qcatOk x4 x5)<|some [.str (qcat x4 x5)]:=by kernel_rfl
def F34_eq:=by have h:= @F34_e;simp only[ge_id,gd,qeqD_self,qeqI_self,qeq_len,qeq_l,cond_true]at h;exact h
def q34:List D→Option (List D):=veil (F34)
theorem q34_eq:q34=F34:=veil_eq _
def tb34:Tb:=Tb.addF tbl34_3 34 S34 (q34)
theorem ok_tb34:TbOk env (tb34):=addFunF ok_tbl34_3 34 (by kernel_rfl) _ (q34_eq)
def S32:FunS:=⟨[⟨true,(.int .u32)⟩],[],[⟨true, .bool⟩],[]⟩
def F32:List D→Option (List D):=liftX env tb34 60 12 32 S32
theorem F32_eq (sn0:Int):F32 [(D.int sn0)] =
 some [(D.bool (qiteB (qcmp BinOp.leq sn0 127) Bool.true (qcmp BinOp.geq sn0 4294967168)))]:=by kernel_rfl
def q32:List D→Option (List D):=veil (F32)
theorem q32_eq:q32=F32:=veil_eq _
def tb32:Tb:=Tb.addF tb34 32 S32 (q32)
theorem ok_tb32:TbOk env (tb32):=addFunF ok_tb34 32 (by kernel_rfl) _ (q32_eq)
def S58:FunS:=⟨[⟨true,(.int .u32)⟩],[],[⟨true, .str⟩],[]⟩
def F58:List D→Option (List D):=liftX env tb32 60 12 58 S58
theorem F58_e (sn0:Int):F58 [(D.int sn0)] =
 let x0:=Proofs.YtobhhfbdelnhfaaGreatDoor.q30 [.int (qbin .sub .u32 0 sn0)]
 let x1:=ByteArray.mk #[45]
 let x2:=qstr (qnth x0 0)
 let x3:=Proofs.YtobhhfbdelnhfaaGreatDoor.q30 [.int sn0]
 bif qcmp .geq sn0 4294967168 then gd (qsome x0)<|gd (qcatOk x1 x2)<|some [.str (qcat x1 x2)]else gd (qsome x3)<|some [.str (qstr (qnth x3 0))]:=by kernel_rfl
def F58_eq:=by have h:= @F58_e;simp only[ge_id,gd,qeqD_self,qeqI_self,qeq_len,qeq_l,cond_true]at h;exact h
def q58:List D→Option (List D):=veil (F58)
theorem q58_eq:q58=F58:=veil_eq _
def tb58:Tb:=Tb.addF tb32 58 S58 (q58)
theorem ok_tb58:TbOk env (tb58):=addFunF ok_tb32 58 (by kernel_rfl) _ (q58_eq)
def S29:FunS:=⟨[⟨true,(.int .i64)⟩],[],[⟨true, .str⟩],[]⟩
def F29:List D→Option (List D):=liftX env tb58 60 12 29 S29
theorem F29_eq (sn0:Int):F29 [(D.int sn0)] =
 bif (qsome (q30 [(D.int (qwrap IntKind.u32 sn0))]))then
 bif (qcatOk (ByteArray.mk #[114]) (qstr (qnth (q30 [(D.int (qwrap IntKind.u32 sn0))]) 0)))then
 some [(D.str (qcat (ByteArray.mk #[114]) (qstr (qnth (q30 [(D.int (qwrap IntKind.u32 sn0))]) 0))))]
 else
 none
 else
 none:=by kernel_rfl
def q29:List D→Option (List D):=veil (F29)
theorem q29_eq:q29=F29:=veil_eq _
def tb29:Tb:=Tb.addF tb58 29 S29 (q29)
theorem ok_tb29:TbOk env (tb29):=addFunF ok_tb58 29 (by kernel_rfl) _ (q29_eq)
def S31:FunS:=⟨[⟨true,(.dat 24)⟩],[],[⟨true, .str⟩],[]⟩
def F31:List D→Option (List D):=liftX env tb29 60 12 31 S31
theorem F31_e (sd0:D):F31 [sd0] =
 let x0:=qint (qfld sd0 1)
 let x1:=Proofs.YtobhhfbdelnhfaaGreatDoor.q29 [.int (qint (qfld sd0 7))]
 let x2:=qsome x1
 let x3:=ByteArray.mk #[91]
 let x4:=qstr (qnth x1 0)
 let x5:=qcatOk x3 x4
 let x6:=qcat x3 x4
 let x7:=ByteArray.mk #[93]
 let x8:=ByteArray.mk #[43]
 let x9:=Proofs.YtobhhfbdelnhfaaGreatDoor.q30 [.int x0]
 let x10:=qcat x6 x8
 let x11:=qstr (qnth x9 0)
 let x12:=qcat x10 x11
 let x13:=ByteArray.mk #[45]
 let x14:=Proofs.YtobhhfbdelnhfaaGreatDoor.q30 [.int (qbin .sub .u32 0 x0)]
 let x15:=qcat x6 x13
 let x16:=qstr (qnth x14 0)
 let x17:=qcat x15 x16
 bif qcmp .eql x0 0 then gd x2<|gd x5<|gd (qcatOk x6 x7)<|some [.str (qcat x6 x7)]else bif qcmp .leq x0 127 then gd x2<|gd x5<|gd (qcatOk x6 x8)<|gd (qsome x9)<|gd (qcatOk x10 x11)<|gd (qcatOk x12 x7)<|some [.str (qcat x12 x7)]else gd x2<|gd x5<|gd (qcatOk x6 x13)<|gd (qsome x14)<|gd (qcatOk x15 x16)<|gd (qcatOk x17 x7)<|some [.str (qcat x17 x7)]:=by kernel_rfl
def F31_eq:=by have h:= @F31_e;simp only[ge_id,gd,qeqD_self,qeqI_self,qeq_len,qeq_l,cond_true]at h;exact h
def q31:List D→Option (List D):=veil (F31)
theorem q31_eq:q31=F31:=veil_eq _
def tb31:Tb:=Tb.addF tb29 31 S31 (q31)
theorem ok_tb31:TbOk env (tb31):=addFunF ok_tb29 31 (by kernel_rfl) _ (q31_eq)
def S33:FunS:=⟨[⟨true,(.int .i64)⟩],[],[⟨true, .str⟩],[]⟩
def F33:List D→Option (List D):=liftX env tb31 60 12 33 S33
theorem F33_eq (sn0:Int):F33 [(D.int sn0)] =
 bif (qcmp BinOp.eql sn0 0)then
 some [(D.str (ByteArray.mk #[106,109,112]))]
 else
 bif (qsome (q35 []))then
 bif (qinb (qnth (q35 []) 0) sn0)then
 bif (qcatOk (ByteArray.mk #[106]) (qstr (qget (qnth (q35 []) 0) sn0)))then
 some [(D.str (qcat (ByteArray.mk #[106]) (qstr (qget (qnth (q35 []) 0) sn0))))]
 else
 none
 else
 none
 else
 none:=by kernel_rfl
def q33:List D→Option (List D):=veil (F33)
theorem q33_eq:q33=F33:=veil_eq _
def tb33:Tb:=Tb.addF tb31 33 S33 (q33)
theorem ok_tb33:TbOk env (tb33):=addFunF ok_tb31 33 (by kernel_rfl) _ (q33_eq)
def S28:FunS:=⟨[⟨true,(.dat 24)⟩],[],[⟨true, .str⟩],[]⟩
def F28:List D→Option (List D):=liftX env tb33 60 12 28 S28
theorem F28_e (sd0:D):F28 [sd0] =
 let x0:=Proofs.YtobhhfbdelnhfaaGreatDoor.q57 []
 let x1:=qbin .sub .i64 (qint (qfld sd0 2)) 5
 let x2:=qint (qfld sd0 3)
 let x3:=qstr (qget (qnth x0 0) x1)
 let x4:=ByteArray.mk #[32]
 let x5:=qcatOk x3 x4
 let x6:=Proofs.YtobhhfbdelnhfaaGreatDoor.q29 [.int (qint (qfld sd0 6))]
 let x7:=qsome x6
 let x8:=qcat x3 x4
 let x9:=qstr (qnth x6 0)
 let x10:=qcatOk x8 x9
 let x11:=qcat x8 x9
 let x12:=ByteArray.mk #[44,32]
 let x13:=qcatOk x11 x12
 let x14:=Proofs.YtobhhfbdelnhfaaGreatDoor.q29 [.int (qint (qfld sd0 7))]
 let x15:=qcat x11 x12
 let x16:=qstr (qnth x14 0)
 let x17:List D:=[.int (qint (qfld sd0 1))]
 let x18:=Proofs.YtobhhfbdelnhfaaGreatDoor.q58 x17
 let x19:=qstr (qnth x18 0)
 let x20:=Proofs.YtobhhfbdelnhfaaGreatDoor.q32 x17
 let x21:=ByteArray.mk #[46,119,32]
 let x22:=qcat x3 x21
 let x23:=qcat x22 x9
 let x24:=qcat x23 x12
 let x25:=Proofs.YtobhhfbdelnhfaaGreatDoor.q34 x17
 let x26:=qstr (qnth x25 0)
 gd (qsome x0)<|gd (qinb (qnth x0 0) x1)<|bif qcmp .eql x2 0 then gd x5<|gd x7<|gd x10<|gd x13<|gd (qsome x14)<|gd (qcatOk x15 x16)<|some [.str (qcat x15 x16)]else bif qcmp .eql x2 1 then gd x5<|gd x7<|gd x10<|gd x13<|gd (qsome x18)<|gd (qcatOk x15 x19)<|some [.str (qcat x15 x19)]else gd (qsome x20)<|bif qbool (qnth x20 0)then gd (qcatOk x3 x21)<|gd x7<|gd (qcatOk x22 x9)<|gd (qcatOk x23 x12)<|gd (qsome x18)<|gd (qcatOk x24 x19)<|some [.str (qcat x24 x19)]else gd x5<|gd x7<|gd x10<|gd x13<|gd (qsome x25)<|gd (qcatOk x15 x26)<|some [.str (qcat x15 x26)]:=by kernel_rfl
def F28_eq:=by have h:= @F28_e;simp only[ge_id,gd,qeqD_self,qeqI_self,qeq_len,qeq_l,cond_true]at h;exact h
def q28:List D→Option (List D):=veil (F28)
theorem q28_eq:q28=F28:=veil_eq _
def tb28:Tb:=Tb.addF tb33 28 S28 (q28)
theorem ok_tb28:TbOk env (tb28):=addFunF ok_tb33 28 (by kernel_rfl) _ (q28_eq)
def S9:FunS:=⟨[⟨true,(.dat 24)⟩],[],[⟨true, .str⟩],[]⟩
def F9:List D→Option (List D):=liftX env tb28 60 12 9 S9
theorem F9_e (sd0:D):F9 [sd0] =
 let x0:=Proofs.YtobhhfbdelnhfaaGreatDoor.q16 [sd0]
 let x1:=qint (qfld sd0 2)
 let x2:=Proofs.YtobhhfbdelnhfaaGreatDoor.q28 [sd0]
 let x3:=Proofs.YtobhhfbdelnhfaaGreatDoor.q29 [.int (qint (qfld sd0 6))]
 let x4:=qsome x3
 let x5:=ByteArray.mk #[112,117,115,104,32]
 let x6:=qstr (qnth x3 0)
 let x7:=ByteArray.mk #[112,111,112,32]
 let x8:=Proofs.YtobhhfbdelnhfaaGreatDoor.q30 [.int (qwrap .u32 (qint (qfld sd0 4)))]
 let x9:=qsome x8
 let x10:=ByteArray.mk #[108,111,97,100]
 let x11:=qstr (qnth x8 0)
 let x12:=qcatOk x10 x11
 let x13:=qcat x10 x11
 let x14:=ByteArray.mk #[32]
 let x15:=qcat x13 x14
 let x16:=qcat x15 x6
 let x17:=ByteArray.mk #[44,32]
 let x18:=Proofs.YtobhhfbdelnhfaaGreatDoor.q31 [sd0]
 let x19:=qsome x18
 let x20:=qcat x16 x17
 let x21:=qstr (qnth x18 0)
 let x22:=ByteArray.mk #[115,32]
 let x23:=qcat x13 x22
 let x24:=qcat x23 x6
 let x25:=qcat x24 x17
 let x26:=ByteArray.mk #[115,116,111,114,101]
 let x27:=qcat x26 x11
 let x28:=qcat x27 x14
 let x29:=qcat x28 x21
 let x30:=qcat x29 x17
 let x31:=ByteArray.mk #[108,101,97,32]
 let x32:=qcat x31 x6
 let x33:=qcat x32 x17
 let x34:=qcmp .eql (qint (qfld sd0 3)) 2
 let x35:=qint (qfld sd0 1)
 let x36:=Proofs.YtobhhfbdelnhfaaGreatDoor.q32 [.int (qbin .sub .u32 (qbin .sub .u32 x35 (qint (qfld sd0 0))) 2)]
 let x37:=qint (qfld sd0 5)
 let x38:=Proofs.YtobhhfbdelnhfaaGreatDoor.q33 [.int x37]
 let x39:=qstr (qnth x38 0)
 let x40:=ByteArray.mk #[46,119,32]
 let x41:=Proofs.YtobhhfbdelnhfaaGreatDoor.q34 [.int x35]
 let x42:=qsome x41
 let x43:=qcat x39 x40
 let x44:=qstr (qnth x41 0)
 let x45:=qcat x39 x14
 let x46:=ByteArray.mk #[106,117,109,112,114,32]
 let x47:=ByteArray.mk #[99,97,108,108,114,32]
 let x48:=ByteArray.mk #[106,117,109,112,116,32]
 let x49:=qcat x48 x6
 let x50:=qcat x49 x17
 let x51:=ByteArray.mk #[99,97,108,108,32]
 let x52:=Proofs.YtobhhfbdelnhfaaGreatDoor.q35 []
 let x53:=ByteArray.mk #[115,101,116]
 let x54:=qstr (qget (qnth x52 0) x37)
 let x55:=qcat x53 x54
 let x56:=qcat x55 x14
 let x57:=ByteArray.mk #[105,110,32]
 let x58:=ByteArray.mk #[111,117,116,32]
 gd (qsome x0)<|bif qnot (qbool (qnth x0 0))then some [.str (ByteArray.mk #[])]else bif qiteB (qcmp .geq x1 5) (qcmp .leq x1 15) false then gd (qsome x2)<|some [.str (qstr (qnth x2 0))]else bif qcmp .eql x1 0 then some [.str (ByteArray.mk #[110,111,112])]else bif qcmp .eql x1 1 then some [.str (ByteArray.mk #[104,97,108,116])]else bif qcmp .eql x1 2 then some [.str (ByteArray.mk #[114,101,116])]else bif qcmp .eql x1 3 then gd x4<|gd (qcatOk x5 x6)<|some [.str (qcat x5 x6)]else bif qcmp .eql x1 4 then gd x4<|gd (qcatOk x7 x6)<|some [.str (qcat x7 x6)]else bif qcmp .eql x1 16 then gd x9<|gd x12<|gd (qcatOk x13 x14)<|gd x4<|gd (qcatOk x15 x6)<|gd (qcatOk x16 x17)<|gd x19<|gd (qcatOk x20 x21)<|some [.str (qcat x20 x21)]else bif qcmp .eql x1 17 then gd x9<|gd x12<|gd (qcatOk x13 x22)<|gd x4<|gd (qcatOk x23 x6)<|gd (qcatOk x24 x17)<|gd x19<|gd (qcatOk x25 x21)<|some [.str (qcat x25 x21)]else bif qcmp .eql x1 18 then gd x9<|gd (qcatOk x26 x11)<|gd (qcatOk x27 x14)<|gd x19<|gd (qcatOk x28 x21)<|gd (qcatOk x29 x17)<|gd x4<|gd (qcatOk x30 x6)<|some [.str (qcat x30 x6)]else bif qcmp .eql x1 19 then gd x4<|gd (qcatOk x31 x6)<|gd (qcatOk x32 x17)<|gd x19<|gd (qcatOk x33 x21)<|some [.str (qcat x33 x21)]else bif qcmp .eql x1 20 then gd (qiteB x34 (qsome x36) true)<|bif qiteB x34 (qbool (qnth x36 0)) false then gd (qsome x38)<|gd (qcatOk x39 x40)<|gd x42<|gd (qcatOk x43 x44)<|some [.str (qcat x43 x44)]else gd (qsome x38)<|gd (qcatOk x39 x14)<|gd x42<|gd (qcatOk x45 x44)<|some [.str (qcat x45 x44)]else bif qcmp .eql x1 21 then gd x4<|gd (qcatOk x46 x6)<|some [.str (qcat x46 x6)]else bif qcmp .eql x1 24 then gd x4<|gd (qcatOk x47 x6)<|some [.str (qcat x47 x6)]else bif qcmp .eql x1 22 then gd x4<|gd (qcatOk x48 x6)<|gd (qcatOk x49 x17)<|gd x42<|gd (qcatOk x50 x44)<|some [.str (qcat x50 x44)]else bif qcmp .eql x1 23 then gd x42<|gd (qcatOk x51 x44)<|some [.str (qcat x51 x44)]else bif qcmp .eql x1 25 then gd (qsome x52)<|gd (qinb (qnth x52 0) x37)<|gd (qcatOk x53 x54)<|gd (qcatOk x55 x14)<|gd x4<|gd (qcatOk x56 x6)<|some [.str (qcat x56 x6)]else bif qcmp .eql x1 26 then gd x4<|gd (qcatOk x57 x6)<|some [.str (qcat x57 x6)]else gd x4<|gd (qcatOk x58 x6)<|some [.str (qcat x58 x6)]:=by kernel_rfl
def F9_eq:=by have h:= @F9_e;simp only[ge_id,gd,qeqD_self,qeqI_self,qeq_len,qeq_l,cond_true]at h;exact h
def q9:List D→Option (List D):=veil (F9)
theorem q9_eq:q9=F9:=veil_eq _
def tb9:Tb:=Tb.addF tb28 9 S9 (q9)
theorem ok_tb9:TbOk env (tb9):=addFunF ok_tb28 9 (by kernel_rfl) _ (q9_eq)
end
end Go.Proofs.YtobhhfbdelnhfaaGreatDoor
open Go Go.AM
namespace Go.Proofs.YtobhhfbdelnhfaaGreatDoor
noncomputable section
set_option maxRecDepth 100000
set_option linter.unusedSimpArgs false
set_option linter.unusedVariables false
set_option linter.defProp false
def S108:FunS:=⟨[⟨true, .str⟩],[],[⟨true,(.tup [(.int .i64), .bool])⟩],[]⟩
def F108:List D→Option (List D):=liftX env tb9 60 12 108 S108
theorem F108_e (ss0:ByteArray):F108 [(D.str ss0)] =
 let x0:=qcmp .neq (qlenS ss0) 2
 let x1:=qiteB x0 true (qcmp .neq (qidxS ss0 0) 114)
 let x2:=qinbS ss0 1
 let x3:=qidxS ss0 1
 let x4:=qiteB x1 true (qcmp .lss x3 48)
 gd (qiteB x0 true (qinbS ss0 0))<|gd (qiteB x1 true x2)<|gd (qiteB x4 true x2)<|bif qiteB x4 true (qcmp .gtr x3 55)then some [.int 0,.bool false]else gd x2<|some [.int (qwrap .i64 (qbin .sub .u8 x3 48)),.bool true]:=by kernel_rfl
def F108_eq:=by have h:= @F108_e;simp only[ge_id,gd,qeqD_self,qeqI_self,qeq_len,qeq_l,cond_true]at h;exact h
def q108:List D→Option (List D):=veil (F108)
theorem q108_eq:q108=F108:=veil_eq _
def tb108:Tb:=Tb.addF tb9 108 S108 (q108)
theorem ok_tb108:TbOk env (tb108):=addFunF ok_tb9 108 (by kernel_rfl) _ (q108_eq)
def S114:FunS:=⟨[⟨true, .str⟩],[],[⟨true,(.tup [(.int .i64), .bool])⟩],[]⟩
def F114:List D→Option (List D):=liftX env tb108 60 12 114 S114
theorem F114_e (ss0:ByteArray):F114 [(D.str ss0)] =
 let x0:=qcmp .eql (qlenS ss0) 2
 let x1:=qiteB x0 (qcmp .eql (qidxS ss0 0) 114) false
 let x2:=qinbS ss0 1
 let x3:=qidxS ss0 1
 let x4:=qiteB x1 (qcmp .geq x3 48) false
 gd (qiteB x0 (qinbS ss0 0) true)<|gd (qiteB x1 x2 true)<|gd (qiteB x4 x2 true)<|bif qiteB x4 (qcmp .leq x3 55) false then gd x2<|some [.int (qwrap .i64 (qbin .sub .u8 x3 48)),.bool true]else some [.int 0,.bool false]:=by kernel_rfl
def F114_eq:=by have h:= @F114_e;simp only[ge_id,gd,qeqD_self,qeqI_self,qeq_len,qeq_l,cond_true]at h;exact h
def q114:List D→Option (List D):=veil (F114)
theorem q114_eq:q114=F114:=veil_eq _
def tb114:Tb:=Tb.addF tb108 114 S114 (q114)
theorem ok_tb114:TbOk env (tb114):=addFunF ok_tb108 114 (by kernel_rfl) _ (q114_eq)
def S60_3:LoopS:=⟨0,[⟨false, .str⟩,⟨false,(.int .u64)⟩,⟨false,(.int .i64)⟩,uF,uF,uF,⟨false,(.lit (.int .u64 0))⟩,⟨false,(.lit (.bool false))⟩,⟨true,(.int .u64)⟩,uF,uF,uF,uF,⟨false,(.ptr 0 0)⟩,uF,uF,uF,uF,uF,uF,uF,uF,uF,uF,uF,uF,uF,uF,uF,uF,uF,uF,uF,uF,uF,uF,uF,uF,uF,uF,uF,uF,uF,uF,uF,uF,uF,uF,uF,uF,uF,uF,uF,uF,uF,uF,uF,uF,uF],[.sit],[⟨0,0,[⟨false, .str⟩,⟨false,(.int .u64)⟩,⟨false,(.int .i64)⟩,uT,uT,uT,⟨true,(.lit (.int .u64 0))⟩,⟨true,(.lit (.bool false))⟩,⟨true,(.int .u64)⟩,uT,uT,uT,uT,uT,uT,uT,uT,uT,uT,uT,uT,uT,uT,uT,uT,uT,uT,uT,uT,uT,uT,uT,uT,uT,uT,uT,uT,uT,uT,uT,uT,uT,uT,uT,uT,uT,uT,uT,uT,uT,uT,uT,uT,uT,uT,uT,uT,uT,uT],[.sit]⟩,⟨1,0,[⟨false, .str⟩,⟨false,(.int .u64)⟩,⟨false,(.int .i64)⟩,uT,uT,uT,⟨true,(.lit (.int .u64 0))⟩,⟨true,(.lit (.bool false))⟩,uT,uT,uT,uT,uT,uT,uT,uT,uT,uT,uT,uT,uT,uT,uT,uT,uT,uT,uT,uT,uT,uT,uT,uT,uT,uT,uT,uT,uT,uT,uT,uT,uT,uT,uT,uT,uT,uT,uT,uT,uT,uT,uT,uT,uT,uT,uT,uT,uT,uT,uT],[.sit]⟩]⟩
def st60_3 (p s:List D):Option (Sum (List D) (List D)):=stepQX env tb114 60 12 60 (loopC 60 3) S60_3 p s
theorem st60_3_e (ps0:ByteArray) (pn1:Int) (pn2:Int) (ps3:ByteArray) (sn0:Int) (sn1:Int):st60_3 [(D.str ps0),(D.int pn1),(D.int pn2),(D.str ps3)] [(D.int sn0),(D.int sn1)] =
 let x0:=qcmp .lss sn1 (qlenS ps3)
 let x1:=qrune ps3 sn1
 let x2:=qwrap .u64 (qbin .sub .i32 x1 48)
 let x3:=D.str ps0
 let x4:=D.int pn1
 let x5:=D.int pn2
 let x6:=D.str ps3
 let x7:=D.int (qiteI x0 (qrw ps3 sn1) sn1)
 let x8:Option (List D ⊕ List D):=ge x3<|ge x4<|ge x5<|ge x6<|some (Sum.inr [.int 1,x7])
 let x9:=qbin .mul .u64 sn0 pn1
 let x10:=qbin .add .u64 x9 x2
 let x11:=qbin .add .u64 (qwrap .u64 (qbin .sub .i32 x1 97)) 10
 let x12:=qbin .add .u64 x9 x11
 let x13:=qbin .add .u64 x9 pn1
 bif x0 then gd x0<|bif qiteB (qcmp .geq x1 48) (qcmp .leq x1 57) false then bif qcmp .geq x2 pn1 then x8 else bif qcmp .gtr x10 1099511627776 then x8 else ge x3<|ge x4<|ge x5<|ge x6<|some (Sum.inl [.int x10,x7])else bif qiteB (qcmp .geq x1 97) (qcmp .leq x1 102) false then bif qcmp .geq x11 pn1 then x8 else bif qcmp .gtr x12 1099511627776 then x8 else ge x3<|ge x4<|ge x5<|ge x6<|some (Sum.inl [.int x12,x7])else bif qcmp .geq pn1 pn1 then x8 else bif qcmp .gtr x13 1099511627776 then x8 else ge x3<|ge x4<|ge x5<|ge x6<|some (Sum.inl [.int x13,x7])else ge x3<|ge x4<|ge x5<|ge x6<|some (Sum.inr [.int 0,.int sn0,x7]):=by kernel_rfl
def st60_3_eq:=by have h:= @st60_3_e;simp only[ge_id,gd,qeqD_self,qeqI_self,qeq_len,qeq_l,cond_true]at h;exact h
def l60_3:List D→List D→Option (List D):=veil fun p s=>loW (st60_3 p) s
theorem l60_3_eq:l60_3=fun p s=>loW (st60_3 p) s:=veil_eq _
def tbl60_3:Tb:=Tb.addL tb114 60 3 S60_3.n0 (mkLp S60_3 (l60_3))
theorem ok_tbl60_3:TbOk env (tbl60_3):=addLoopQ ok_tb114 60 3 (by kernel_rfl) _ (l60_3_eq)
def S60:FunS:=⟨[⟨true, .str⟩,⟨true,(.int .u64)⟩,⟨true,(.int .i64)⟩],[],[⟨true,(.tup [(.int .u64), .bool])⟩],[]⟩
def F60:List D→Option (List D):=liftX env tbl60_3 60 12 60 S60
theorem F60_e (ss0:ByteArray) (sn1:Int) (sn2:Int):F60 [(D.str ss0),(D.int sn1),(D.int sn2)] =
 let x0:=D.int 0
 let x1:=l60_3 [.str ss0,.int sn1,.int sn2,.str ss0] [x0,x0]
 gd (qsome x1)<|bif qcmp .eql (qint (qnth x1 0)) 0 then some [.int (qint (qnth x1 1)),.bool (qiteB (qcmp .geq (qlenS ss0) 1) (qcmp .leq (qlenS ss0) sn2) false)]else some [x0,.bool false]:=by kernel_rfl
def F60_eq:=by have h:= @F60_e;simp only[ge_id,gd,qeqD_self,qeqI_self,qeq_len,qeq_l,cond_true]at h;exact h
def q60:List D→Option (List D):=veil (F60)
theorem q60_eq:q60=F60:=veil_eq _
def tb60:Tb:=Tb.addF tbl60_3 60 S60 (q60)
theorem ok_tb60:TbOk env (tb60):=addFunF ok_tbl60_3 60 (by kernel_rfl) _ (q60_eq)
def S136:FunS:=⟨[⟨true, .str⟩,⟨true, .str⟩],[],[⟨true, .bool⟩],[]⟩
def F136:List D→Option (List D):=liftX env tb60 60 12 136 S136
theorem F136_eq (ss0:ByteArray) (ss1:ByteArray):F136 [(D.str ss0),(D.str ss1)] =
 bif (qiteB (qcmp BinOp.geq (qlenS ss0) (qlenS ss1)) (qand (qcmp BinOp.leq 0 0) (qand (qcmp BinOp.leq 0 (qlenS ss1)) (qcmp BinOp.leq (qlenS ss1) (qlenS ss0)))) Bool.true)then
 some [(D.bool (qiteB (qcmp BinOp.geq (qlenS ss0) (qlenS ss1)) (qcmpS BinOp.eql (qsubS ss0 0 (qlenS ss1)) ss1) Bool.false))]
 else
 none:=by kernel_rfl
def q136:List D→Option (List D):=veil (F136)
theorem q136_eq:q136=F136:=veil_eq _
def tb136:Tb:=Tb.addF tb60 136 S136 (q136)
theorem ok_tb136:TbOk env (tb136):=addFunF ok_tb60 136 (by kernel_rfl) _ (q136_eq)
def S102:FunS:=⟨[⟨true, .str⟩,⟨true, .str⟩],[],[⟨true,(.tup [.str, .bool])⟩],[]⟩
def F102:List D→Option (List D):=liftX env tb136 60 12 102 S102
theorem F102_e (ss0:ByteArray) (ss1:ByteArray):F102 [(D.str ss0),(D.str ss1)] =
 let x0:=q136 [.str ss0,.str ss1]
 let x1:=qlenS ss1
 let x2:=qlenS ss0
 gd (qsome x0)<|bif qnot (qbool (qnth x0 0))then some [.str ss0,.bool false]else gd (qcmp .leq 0 x1)<|gd (qcmp .leq x1 x2)<|gd (qcmp .leq x2 x2)<|some [.str (qsubS ss0 x1 x2),.bool true]:=by kernel_rfl
def F102_eq:=by have h:= @F102_e;simp only[ge_id,gd,qeqD_self,qeqI_self,qeq_len,qeq_l,cond_true]at h;exact h
def q102:List D→Option (List D):=veil (F102)
theorem q102_eq:q102=F102:=veil_eq _
def tb102:Tb:=Tb.addF tb136 102 S102 (q102)
theorem ok_tb102:TbOk env (tb102):=addFunF ok_tb136 102 (by kernel_rfl) _ (q102_eq)
def S59:FunS:=⟨[⟨true, .str⟩,⟨true, .str⟩],[],[⟨true,(.tup [.str, .bool])⟩],[]⟩
def F59:List D→Option (List D):=liftX env tb102 60 12 59 S59
theorem F59_eq (ss0:ByteArray) (ss1:ByteArray):F59 [(D.str ss0),(D.str ss1)] =
 bif (qsome (q102 [(D.str ss0),(D.str ss1)]))then
 some [(D.str (qstr (qnth (q102 [(D.str ss0),(D.str ss1)]) 0))),(D.bool (qbool (qnth (q102 [(D.str ss0),(D.str ss1)]) 1)))]
 else
 none:=by kernel_rfl
def q59:List D→Option (List D):=veil (F59)
theorem q59_eq:q59=F59:=veil_eq _
def tb59:Tb:=Tb.addF tb102 59 S59 (q59)
theorem ok_tb59:TbOk env (tb59):=addFunF ok_tb102 59 (by kernel_rfl) _ (q59_eq)
def S36:FunS:=⟨[⟨true, .str⟩],[],[⟨true,(.tup [(.int .u32), .bool])⟩],[]⟩
def F36:List D→Option (List D):=liftX env tb59 60 12 36 S36
theorem F36_e (ss0:ByteArray):F36 [(D.str ss0)] =
 let x0:=q59 [.str ss0,.str (ByteArray.mk #[48,120])]
 let x1:=q60 [.str (qstr (qnth x0 0)),.int 16,.int 8]
 let x2:Option (List D):=some [.int 0,.bool false]
 let x3:=D.bool true
 let x4:=q59 [.str ss0,.str (ByteArray.mk #[45])]
 let x5:=qstr (qnth x4 0)
 let x6:=q60 [.str x5,.int 10,.int 10]
 let x7:=qnot (qbool (qnth x6 1))
 let x8:=qint (qnth x6 0)
 let x9:=qbool (qnth x4 1)
 let x10:=qwrap .u32 x8
 gd (qsome x0)<|bif qbool (qnth x0 1)then gd (qsome x1)<|bif qnot (qbool (qnth x1 1))then x2 else some [.int (qwrap .u32 (qint (qnth x1 0))),x3]else bif qcmpS .eql ss0 (ByteArray.mk #[48])then some [.int 0,x3]else gd (qsome x4)<|gd (qsome x6)<|gd (qiteB x7 true (qinbS x5 0))<|bif qiteB (qiteB (qiteB x7 true (qcmp .eql (qidxS x5 0) 48)) true (qcmp .geq x8 4294967296)) true (qiteB x9 (qcmp .gtr x8 2147483648) false)then x2 else bif x9 then some [.int (qun .neg .u32 x10),x3]else some [.int x10,x3]:=by kernel_rfl
def F36_eq:=by have h:= @F36_e;simp only[ge_id,gd,qeqD_self,qeqI_self,qeq_len,qeq_l,cond_true]at h;exact h
def q36:List D→Option (List D):=veil (F36)
theorem q36_eq:q36=F36:=veil_eq _
def tb36:Tb:=Tb.addF tb59 36 S36 (q36)
theorem ok_tb36:TbOk env (tb36):=addFunF ok_tb59 36 (by kernel_rfl) _ (q36_eq)
def S158:FunS:=⟨[⟨true,(.int .u8)⟩],[],[⟨true,(.int .i64)⟩],[]⟩
def F158:List D→Option (List D):=liftX env tb36 60 12 158 S158
theorem F158_eq (sn0:Int):F158 [(D.int sn0)] =
 bif (qiteB (qcmp BinOp.geq sn0 48) (qcmp BinOp.leq sn0 57) Bool.false)then
 some [(D.int (qwrap IntKind.i64 (qbin BinOp.sub IntKind.u8 sn0 48)))]
 else
 bif (qiteB (qcmp BinOp.geq sn0 97) (qcmp BinOp.leq sn0 102) Bool.false)then
 some [(D.int (qbin BinOp.add IntKind.i64 (qwrap IntKind.i64 (qbin BinOp.sub IntKind.u8 sn0 97)) 10))]
 else
 some [(D.int (-1))]:=by kernel_rfl
def q158:List D→Option (List D):=veil (F158)
theorem q158_eq:q158=F158:=veil_eq _
def tb158:Tb:=Tb.addF tb36 158 S158 (q158)
theorem ok_tb158:TbOk env (tb158):=addFunF ok_tb36 158 (by kernel_rfl) _ (q158_eq)
def S147_5:LoopS:=⟨0,[⟨false, .str⟩,⟨false,(.int .i64)⟩,uF,uF,⟨false,(.lit (.int .u64 0))⟩,⟨false,(.lit (.bool false))⟩,⟨true,(.int .u64)⟩,⟨true,(.int .i64)⟩,uF,uF,uF,uF,uF,uF,uF,uF,uF,uF,uF,uF,uF,uF,uF,uF,uF,uF,uF,uF,uF,uF,uF,uF,uF,uF,uF,uF,uF,uF,uF,uF,uF,uF],[],[⟨0,0,[⟨false, .str⟩,⟨false,(.int .i64)⟩,uT,uT,⟨true,(.lit (.int .u64 0))⟩,⟨true,(.lit (.bool false))⟩,⟨true,(.int .u64)⟩,uT,uT,uT,uT,uT,uT,uT,uT,uT,uT,uT,uT,uT,uT,uT,uT,uT,uT,uT,uT,uT,uT,uT,uT,uT,uT,uT,uT,uT,uT,uT,uT,uT,uT,uT],[]⟩,⟨1,0,[⟨false, .str⟩,⟨false,(.int .i64)⟩,uT,uT,⟨true,(.lit (.int .u64 0))⟩,⟨true,(.lit (.bool false))⟩,uT,uT,uT,uT,uT,uT,uT,uT,uT,uT,uT,uT,uT,uT,uT,uT,uT,uT,uT,uT,uT,uT,uT,uT,uT,uT,uT,uT,uT,uT,uT,uT,uT,uT,uT,uT],[]⟩]⟩
def st147_5 (p s:List D):Option (Sum (List D) (List D)):=stepQX env tb158 60 12 147 (loopC 147 5) S147_5 p s
theorem st147_5_e (ps0:ByteArray) (pn1:Int) (sn0:Int) (sn1:Int):st147_5 [(D.str ps0),(D.int pn1)] [(D.int sn0),(D.int sn1)] =
 let x0:=q158 [.int (qidxS ps0 sn1)]
 let x1:=qint (qnth x0 0)
 let x2:=D.str ps0
 let x3:=D.int pn1
 bif qcmp .lss sn1 (qlenS ps0)then gd (qinbS ps0 sn1)<|gd (qsome x0)<|bif qiteB (qcmp .lss x1 0) true (qcmp .geq x1 pn1)then ge x2<|ge x3<|some (Sum.inr [.int 1])else ge x2<|ge x3<|some (Sum.inl [.int (qbin .add .u64 (qbin .mul .u64 sn0 (qwrap .u64 pn1)) (qwrap .u64 x1)),.int (qbin .add .i64 sn1 1)])else ge x2<|ge x3<|some (Sum.inr [.int 0,.int sn0]):=by kernel_rfl
def st147_5_eq:=by have h:= @st147_5_e;simp only[ge_id,gd,qeqD_self,qeqI_self,qeq_len,qeq_l,cond_true]at h;exact h
def l147_5:List D→List D→Option (List D):=veil fun p s=>loW (st147_5 p) s
theorem l147_5_eq:l147_5=fun p s=>loW (st147_5 p) s:=veil_eq _
def tbl147_5:Tb:=Tb.addL tb158 147 5 S147_5.n0 (mkLp S147_5 (l147_5))
theorem ok_tbl147_5:TbOk env (tbl147_5):=addLoopQ ok_tb158 147 5 (by kernel_rfl) _ (l147_5_eq)
def S147:FunS:=⟨[⟨true, .str⟩,⟨true,(.int .i64)⟩],[],[⟨true,(.tup [(.int .u64), .bool])⟩],[]⟩
def F147:List D→Option (List D):=liftX env tbl147_5 60 12 147 S147
theorem F147_e (ss0:ByteArray) (sn1:Int):F147 [(D.str ss0),(D.int sn1)] =
 let x0:=D.int 0
 let x1:Option (List D):=some [x0,.bool false]
 let x2:=l147_5 [.str ss0,.int sn1] [x0,x0]
 bif qiteB (qcmp .lss (qlenS ss0) 1) true (qcmp .gtr (qlenS ss0) 10)then x1 else gd (qsome x2)<|bif qcmp .eql (qint (qnth x2 0)) 0 then some [.int (qint (qnth x2 1)),.bool true]else x1:=by kernel_rfl
def F147_eq:=by have h:= @F147_e;simp only[ge_id,gd,qeqD_self,qeqI_self,qeq_len,qeq_l,cond_true]at h;exact h
def q147:List D→Option (List D):=veil (F147)
theorem q147_eq:q147=F147:=veil_eq _
def tb147:Tb:=Tb.addF tbl147_5 147 S147 (q147)
theorem ok_tb147:TbOk env (tb147):=addFunF ok_tbl147_5 147 (by kernel_rfl) _ (q147_eq)
def S126:FunS:=⟨[⟨true, .str⟩],[],[⟨true,(.tup [(.int .u32), .bool])⟩],[]⟩
def F126:List D→Option (List D):=liftX env tb147 60 12 126 S126
theorem F126_e (ss0:ByteArray):F126 [(D.str ss0)] =
 let x0:=qlenS ss0
 let x1:=qcmp .gtr x0 2
 let x2:=qcmp .leq 0 2
 let x3:=qcmp .leq 2 x0
 let x4:=qcmp .leq x0 x0
 let x5:=q147 [.str (qsubS ss0 2 x0),.int 16]
 let x6:Option (List D):=some [.int 0,.bool false]
 let x7:=D.bool true
 let x8:=qcmp .gtr x0 0
 let x9:=qiteB x8 (qcmp .eql (qidxS ss0 0) 45) false
 let x10:=qiteS x9 (qsubS ss0 1 x0) ss0
 let x11:=q147 [.str x10,.int 10]
 let x12:=qnot (qbool (qnth x11 1))
 let x13:=qint (qnth x11 0)
 gd (qiteB x1 (qand (qcmp .leq 0 0) (qand x2 x3)) true)<|bif qiteB x1 (qcmpS .eql (qsubS ss0 0 2) (ByteArray.mk #[48,120])) false then gd x2<|gd x3<|gd x4<|gd (qsome x5)<|bif qiteB (qnot (qbool (qnth x5 1))) true (qcmp .gtr x0 10)then x6 else some [.int (qwrap .u32 (qint (qnth x5 0))),x7]else gd (qiteB x8 (qinbS ss0 0) true)<|gd (qiteB x9 (qand (qcmp .leq 0 1) (qand (qcmp .leq 1 x0) x4)) true)<|gd (qsome x11)<|gd (qiteB x12 true (qinbS x10 0))<|bif qiteB (qiteB (qiteB x12 true (qiteB (qcmp .eql (qidxS x10 0) 48) (qiteB (qcmp .gtr (qlenS x10) 1) true x9) false)) true (qiteB (qnot x9) (qcmp .gtr x13 4294967295) false)) true (qiteB x9 (qcmp .gtr x13 2147483648) false)then x6 else bif x9 then some [.int (qwrap .u32 (qbin .sub .u64 4294967296 x13)),x7]else some [.int (qwrap .u32 x13),x7]:=by kernel_rfl
def F126_eq:=by have h:= @F126_e;simp only[ge_id,gd,qeqD_self,qeqI_self,qeq_len,qeq_l,cond_true]at h;exact h
def q126:List D→Option (List D):=veil (F126)
theorem q126_eq:q126=F126:=veil_eq _
def tb126:Tb:=Tb.addF tb147 126 S126 (q126)
theorem ok_tb126:TbOk env (tb126):=addFunF ok_tb147 126 (by kernel_rfl) _ (q126_eq)
def S138:FunS:=⟨[⟨true, .str⟩,⟨true, .str⟩],[],[⟨true, .bool⟩],[]⟩
def F138:List D→Option (List D):=liftX env tb126 60 12 138 S138
theorem F138_eq (ss0:ByteArray) (ss1:ByteArray):F138 [(D.str ss0),(D.str ss1)] =
 bif (qiteB (qcmp BinOp.geq (qlenS ss0) (qlenS ss1)) (qand (qcmp BinOp.leq 0 (qbin BinOp.sub IntKind.i64 (qlenS ss0) (qlenS ss1))) (qand (qcmp BinOp.leq (qbin BinOp.sub IntKind.i64 (qlenS ss0) (qlenS ss1)) (qlenS ss0)) (qcmp BinOp.leq (qlenS ss0) (qlenS ss0)))) Bool.true)then
 some [(D.bool (qiteB (qcmp BinOp.geq (qlenS ss0) (qlenS ss1)) (qcmpS BinOp.eql (qsubS ss0 (qbin BinOp.sub IntKind.i64 (qlenS ss0) (qlenS ss1)) (qlenS ss0)) ss1) Bool.false))]
 else
 none:=by kernel_rfl
def q138:List D→Option (List D):=veil (F138)
theorem q138_eq:q138=F138:=veil_eq _
def tb138:Tb:=Tb.addF tb126 138 S138 (q138)
theorem ok_tb138:TbOk env (tb138):=addFunF ok_tb126 138 (by kernel_rfl) _ (q138_eq)
def S104:FunS:=⟨[⟨true, .str⟩,⟨true, .str⟩],[],[⟨true,(.tup [.str, .bool])⟩],[]⟩
def F104:List D→Option (List D):=liftX env tb138 60 12 104 S104
theorem F104_e (ss0:ByteArray) (ss1:ByteArray):F104 [(D.str ss0),(D.str ss1)] =
 let x0:=q138 [.str ss0,.str ss1]
 let x1:=qbin .sub .i64 (qlenS ss0) (qlenS ss1)
 gd (qsome x0)<|bif qnot (qbool (qnth x0 0))then some [.str ss0,.bool false]else gd (qcmp .leq 0 0)<|gd (qcmp .leq 0 x1)<|gd (qcmp .leq x1 (qlenS ss0))<|some [.str (qsubS ss0 0 x1),.bool true]:=by kernel_rfl
def F104_eq:=by have h:= @F104_e;simp only[ge_id,gd,qeqD_self,qeqI_self,qeq_len,qeq_l,cond_true]at h;exact h
def q104:List D→Option (List D):=veil (F104)
theorem q104_eq:q104=F104:=veil_eq _
def tb104:Tb:=Tb.addF tb138 104 S104 (q104)
theorem ok_tb104:TbOk env (tb104):=addFunF ok_tb138 104 (by kernel_rfl) _ (q104_eq)
def S62:FunS:=⟨[⟨true, .str⟩,⟨true, .str⟩],[],[⟨true,(.tup [.str, .bool])⟩],[]⟩
def F62:List D→Option (List D):=liftX env tb104 60 12 62 S62
theorem F62_eq (ss0:ByteArray) (ss1:ByteArray):F62 [(D.str ss0),(D.str ss1)] =
 bif (qsome (q104 [(D.str ss0),(D.str ss1)]))then
 some [(D.str (qstr (qnth (q104 [(D.str ss0),(D.str ss1)]) 0))),(D.bool (qbool (qnth (q104 [(D.str ss0),(D.str ss1)]) 1)))]
 else
 none:=by kernel_rfl
def q62:List D→Option (List D):=veil (F62)
theorem q62_eq:q62=F62:=veil_eq _
def tb62:Tb:=Tb.addF tb104 62 S62 (q62)
theorem ok_tb62:TbOk env (tb62):=addFunF ok_tb104 62 (by kernel_rfl) _ (q62_eq)
def S63_26_2:LoopS:=⟨0,[⟨false, .str⟩,uF,⟨false,(.func 26 [] [])⟩,uF,uF,uF,⟨false,(.lit (.int .i64 0))⟩,uF,⟨false,(.int .i64)⟩,⟨true,(.int .i64)⟩,uF,uF,uF,uF,uF,uF,uF,uF,uF],[],[⟨0,0,[⟨false, .str⟩,uT,uT,uT,uT,uT,⟨true,(.lit (.int .i64 0))⟩,uT,⟨false,(.int .i64)⟩,uT,uT,uT,uT,uT,uT,uT,uT,uT,uT],[]⟩,⟨1,0,[⟨false, .str⟩,uT,uT,uT,uT,uT,⟨true,(.int .i64)⟩,uT,⟨false,(.int .i64)⟩,uT,uT,uT,uT,uT,uT,uT,uT,uT,uT],[]⟩]⟩
def st63_26_2 (p s:List D):Option (Sum (List D) (List D)):=stepQX env tb62 60 12 63 (loopC 63 2) S63_26_2 p s
theorem st63_26_2_e (ps0:ByteArray) (pn1:Int) (sn0:Int):st63_26_2 [(D.str ps0),(D.int pn1)] [(D.int sn0)] =
 let x0:=q26 [.int sn0]
 let x1:=D.str ps0
 let x2:=D.int pn1
 bif qcmp .lss sn0 pn1 then gd (qsome x0)<|bif qcmpS .eql (qstr (qnth x0 0)) ps0 then ge x1<|ge x2<|some (Sum.inr [.int 1,.int sn0])else ge x1<|ge x2<|some (Sum.inl [.int (qbin .add .i64 sn0 1)])else ge x1<|ge x2<|some (Sum.inr [.int 0]):=by kernel_rfl
def st63_26_2_eq:=by have h:= @st63_26_2_e;simp only[ge_id,gd,qeqD_self,qeqI_self,qeq_len,qeq_l,cond_true]at h;exact h
def l63_26_2:List D→List D→Option (List D):=veil fun p s=>loW (st63_26_2 p) s
theorem l63_26_2_eq:l63_26_2=fun p s=>loW (st63_26_2 p) s:=veil_eq _
def tbl63_26_2:Tb:=Tb.addL tb62 63 2 S63_26_2.n0 (mkLp S63_26_2 (l63_26_2))
theorem ok_tbl63_26_2:TbOk env (tbl63_26_2):=addLoopQ ok_tb62 63 2 (by kernel_rfl) _ (l63_26_2_eq)
def S63_26:FunS:=⟨[⟨true, .str⟩,⟨true,(.int .i64)⟩,⟨true,(.func 26 [] [])⟩],[],[⟨true,(.int .i64)⟩],[]⟩
def F63_26:List D→Option (List D):=liftX env tbl63_26_2 60 12 63 S63_26
theorem F63_26_eq (ss0:ByteArray) (sn1:Int):F63_26 [(D.str ss0),(D.int sn1)] =
 bif (qsome (l63_26_2 [(D.str ss0),(D.int sn1)] [(D.int 0)]))then
 bif (qcmp BinOp.eql (qint (qnth (l63_26_2 [(D.str ss0),(D.int sn1)] [(D.int 0)]) 0)) 0)then
 some [(D.int (-1))]
 else
 some [(D.int (qint (qnth (l63_26_2 [(D.str ss0),(D.int sn1)] [(D.int 0)]) 1)))]
 else
 none:=by kernel_rfl
def q63_26:List D→Option (List D):=veil (F63_26)
theorem q63_26_eq:q63_26=F63_26:=veil_eq _
def tb63_26:Tb:=Tb.addF tbl63_26_2 63 S63_26 (q63_26)
theorem ok_tb63_26:TbOk env (tb63_26):=addFunF ok_tbl63_26_2 63 (by kernel_rfl) _ (q63_26_eq)
def S64_26:FunS:=⟨[⟨true,(.int .i64)⟩],[],[⟨true, .str⟩],[]⟩
def F64_26:List D→Option (List D):=liftX env tb63_26 60 12 64 S64_26
theorem F64_26_eq (sn0:Int):F64_26 [(D.int sn0)] =
 bif (qsome (q56 [(D.int (qbin BinOp.add IntKind.i64 5 sn0))]))then
 some [(D.str (qstr (qnth (q56 [(D.int (qbin BinOp.add IntKind.i64 5 sn0))]) 0)))]
 else
 none:=by kernel_rfl
def q64_26:List D→Option (List D):=veil (F64_26)
theorem q64_26_eq:q64_26=F64_26:=veil_eq _
def tb64_26:Tb:=Tb.addF tb63_26 64 S64_26 (q64_26)
theorem ok_tb64_26:TbOk env (tb64_26):=addFunF ok_tb63_26 64 (by kernel_rfl) _ (q64_26_eq)
def S63_64_2:LoopS:=⟨0,[⟨false, .str⟩,uF,⟨false,(.func 64 [] [])⟩,uF,uF,uF,⟨false,(.lit (.int .i64 0))⟩,uF,⟨false,(.int .i64)⟩,⟨true,(.int .i64)⟩,uF,uF,uF,uF,uF,uF,uF,uF,uF],[],[⟨0,0,[⟨false, .str⟩,uT,uT,uT,uT,uT,⟨true,(.lit (.int .i64 0))⟩,uT,⟨false,(.int .i64)⟩,uT,uT,uT,uT,uT,uT,uT,uT,uT,uT],[]⟩,⟨1,0,[⟨false, .str⟩,uT,uT,uT,uT,uT,⟨true,(.int .i64)⟩,uT,⟨false,(.int .i64)⟩,uT,uT,uT,uT,uT,uT,uT,uT,uT,uT],[]⟩]⟩
def st63_64_2 (p s:List D):Option (Sum (List D) (List D)):=stepQX env tb64_26 60 12 63 (loopC 63 2) S63_64_2 p s
theorem st63_64_2_e (ps0:ByteArray) (pn1:Int) (sn0:Int):st63_64_2 [(D.str ps0),(D.int pn1)] [(D.int sn0)] =
 let x0:=q64_26 [.int sn0]
 let x1:=D.str ps0
 let x2:=D.int pn1
 bif qcmp .lss sn0 pn1 then gd (qsome x0)<|bif qcmpS .eql (qstr (qnth x0 0)) ps0 then ge x1<|ge x2<|some (Sum.inr [.int 1,.int sn0])else ge x1<|ge x2<|some (Sum.inl [.int (qbin .add .i64 sn0 1)])else ge x1<|ge x2<|some (Sum.inr [.int 0]):=by kernel_rfl
def st63_64_2_eq:=by have h:= @st63_64_2_e;simp only[ge_id,gd,qeqD_self,qeqI_self,qeq_len,qeq_l,cond_true]at h;exact h
def l63_64_2:List D→List D→Option (List D):=veil fun p s=>loW (st63_64_2 p) s
theorem l63_64_2_eq:l63_64_2=fun p s=>loW (st63_64_2 p) s:=veil_eq _
def tbl63_64_2:Tb:=Tb.addL tb64_26 63 2 S63_64_2.n0 (mkLp S63_64_2 (l63_64_2))
theorem ok_tbl63_64_2:TbOk env (tbl63_64_2):=addLoopQ ok_tb64_26 63 2 (by kernel_rfl) _ (l63_64_2_eq)
def S63_64:FunS:=⟨[⟨true, .str⟩,⟨true,(.int .i64)⟩,⟨true,(.func 64 [] [])⟩],[],[⟨true,(.int .i64)⟩],[]⟩
def F63_64:List D→Option (List D):=liftX env tbl63_64_2 60 12 63 S63_64
theorem F63_64_eq (ss0:ByteArray) (sn1:Int):F63_64 [(D.str ss0),(D.int sn1)] =
 bif (qsome (l63_64_2 [(D.str ss0),(D.int sn1)] [(D.int 0)]))then
 bif (qcmp BinOp.eql (qint (qnth (l63_64_2 [(D.str ss0),(D.int sn1)] [(D.int 0)]) 0)) 0)then
 some [(D.int (-1))]
 else
 some [(D.int (qint (qnth (l63_64_2 [(D.str ss0),(D.int sn1)] [(D.int 0)]) 1)))]
 else
 none:=by kernel_rfl
def q63_64:List D→Option (List D):=veil (F63_64)
theorem q63_64_eq:q63_64=F63_64:=veil_eq _
def tb63_64:Tb:=Tb.addF tbl63_64_2 63 S63_64 (q63_64)
theorem ok_tb63_64:TbOk env (tb63_64):=addFunF ok_tbl63_64_2 63 (by kernel_rfl) _ (q63_64_eq)
end
end Go.Proofs.YtobhhfbdelnhfaaGreatDoor
namespace Go.Proofs.YtobhhfbdelnhfaaGreatDoor
open Go Go.AM
def S130:FunS:=⟨[⟨true,(.rows 5)⟩],[],[⟨true,(.osl 0 5)⟩],[(.lst true 5)]⟩
theorem run130n (c:Nat):bodyK (envF env tb63_64 130) (runTb env tb63_64 60 12) 60 130 [.sc (.slice none 0 c)] (heapF S130 [] []) (retF S130 [])=some [.list []]:=by
 have h:bodyK (envF env tb63_64 130) (runTb env tb63_64 60 12) 60 130 [.sc (.slice none 0 c)] (heapF S130 [] []) (retF S130 [])=bif qcmp BinOp.eql 0 (qlen (D.list []))then some [.list []]else none:=by kernel_rfl
 rw[h,show qcmp BinOp.eql 0 (qlen (D.list []))=true from qeq_len []];rfl
theorem run130z (d:D):bodyK (envF env tb63_64 130) (runTb env tb63_64 60 12) 60 130 [.rowz 5 d] (heapF S130 [] []) (retF S130 []) =
 bif qmem (qlen (qapp (D.list []) d)) 1 then(bif (qcmp BinOp.eql (qlen (qapp (D.list []) d)) (qlen (qapp (D.list []) d)))then some [qapp (D.list []) d]else none)else none:=by kernel_rfl
noncomputable def F130 (ds:List D):Option (List D):=bif qmem (qlen (qapp (D.list []) (ds.headD .other))) 1 then some [qapp (D.list []) (ds.headD .other)]else none
noncomputable def q130:List D→Option (List D):=veil F130
theorem q130_eq:q130=F130:=veil_eq _
theorem sound130:SoundF env.P 130 S130 q130:=by
 intro p s r hp hq lo w0 ρ E w vs inv ra
 obtain rfl:p = []:=List.length_eq_zero_iff.1 hp
 have ha:argF S130 [] s = [.rows 5 (s.headD .other)]:=by
  cases s<;>rfl
 have hh:heapF S130 [] s=heapF S130 [] []:=rfl
 rw[q130_eq]at hq
 unfold F130 at hq
 simp only[List.nil_append]at hq
 rw[ha]at ra
 generalize hd:s.headD .other=d at *
 cases hm:qmem (qlen (qapp (D.list []) d)) 1 with
 |false=>rw[hm]at hq;cases hq
 |true=>
  rw[hm]at hq
  simp only[cond_true,Option.some.injEq]at hq
  subst hq
  rw[hh]at inv
  generalize hvs:vs.toList=vl at ra
  obtain⟨v,vl',rfl,rv,hn⟩:∃v vs',vl=v::vs'∧Rep ρ E w (AV.rows 5 d) v∧vs' = []:=by simpa only[RepL]using ra
  ·subst hn
   simp only[Rep]at rv
   obtain⟨a,cap,rfl,hc,hx⟩:=id rv
   cases a with
   |none=>
    have he:d.toList = []:=by
     rcases hx with h|⟨_,_,h,_⟩
     ·exact h
     ·cases h
    have he':qapp (D.list []) d = .list []:=by rw[qapp_eq];unfold D.app;rw[he];rfl
    rw[he']
    refine lift_ok (av:=[.sc (.slice none 0 cap)]) envOk ok_tb63_64 60 12 (run130n cap) rfl lo w0 ρ E w vs inv ?_
    rw[hvs,he]
    simp[RepL,Rep]
   |some a=>
    refine lift_ok (av:=[.rowz 5 d]) envOk ok_tb63_64 60 12 (p:=[]) (r:=[qapp (D.list []) d]) (S:=S130) (by rw[run130z,hm,qeqI_self];rfl) rfl lo w0 ρ E w vs inv ?_
    rw[hvs]
    simp only[RepL]
    exact⟨_,_,rfl,by simp only[Rep];exact⟨rv,_,_,_,rfl⟩,rfl⟩
noncomputable def tb130:Tb:=Tb.addF tb63_64 130 S130 q130
theorem ok_tb130:TbOk env tb130:=TbOk.addF ok_tb63_64 (by kernel_rfl) sound130
end Go.Proofs.YtobhhfbdelnhfaaGreatDoor
open Go Go.AM
namespace Go.Proofs.YtobhhfbdelnhfaaGreatDoor
noncomputable section
set_option maxRecDepth 100000
set_option linter.unusedSimpArgs false
set_option linter.unusedVariables false
set_option linter.defProp false
def S105:FunS:=⟨[⟨true,(.ptr 0 0)⟩,⟨true,(.int .i64)⟩],[(.cells [⟨false,(.rows 9)⟩,⟨false,(.func 38 [] [])⟩,⟨true, .bool⟩,⟨false, .bool⟩,⟨false, .bool⟩,⟨false, .bool⟩])],[⟨true, .bool⟩],[(.cells [⟨false,(.rows 9)⟩,⟨true,(.func 38 [] [])⟩,⟨true, .bool⟩,⟨false, .bool⟩,⟨false, .bool⟩,⟨false, .bool⟩])]⟩
def F105:List D→Option (List D):=liftX env tb63_64 60 12 105 S105
def q105:List D→Option (List D):=veil (F105)
def tb105:Tb:=Tb.addF tb63_64 105 S105 (q105)
def S107:FunS:=⟨[⟨true,(.ptr 0 0)⟩,⟨true,(.int .i64)⟩],[(.cells [⟨false,(.rows 9)⟩,⟨false,(.func 38 [] [])⟩,⟨true, .bool⟩,⟨false, .bool⟩,⟨false, .bool⟩,⟨false, .bool⟩])],[⟨true,(.int .i64)⟩],[(.cells [⟨false,(.rows 9)⟩,⟨true,(.func 38 [] [])⟩,⟨true, .bool⟩,⟨false, .bool⟩,⟨false, .bool⟩,⟨false, .bool⟩])]⟩
def F107:List D→Option (List D):=liftX env tb105 60 12 107 S107
def q107:List D→Option (List D):=veil (F107)
def tb107:Tb:=Tb.addF tb105 107 S107 (q107)
def S106:FunS:=⟨[⟨true,(.ptr 0 0)⟩,⟨true,(.int .i64)⟩],[(.cells [⟨false,(.rows 9)⟩,⟨false,(.func 38 [] [])⟩,⟨true, .bool⟩,⟨false, .bool⟩,⟨false, .bool⟩,⟨false, .bool⟩])],[⟨true,(.tup [(.int .u32), .bool])⟩],[(.cells [⟨false,(.rows 9)⟩,⟨true,(.func 38 [] [])⟩,⟨true, .bool⟩,⟨false, .bool⟩,⟨false, .bool⟩,⟨false, .bool⟩])]⟩
def F106:List D→Option (List D):=liftX env tb107 60 12 106 S106
def q106:List D→Option (List D):=veil (F106)
def tb106:Tb:=Tb.addF tb107 106 S106 (q106)
def S139:FunS:=⟨[⟨true,(.ptr 0 0)⟩,⟨true,(.int .i64)⟩],[(.cells [⟨false,(.rows 9)⟩,⟨false,(.func 38 [] [])⟩,⟨true, .bool⟩,⟨true, .bool⟩,⟨false, .bool⟩,⟨false, .bool⟩])],[⟨true,(.tup [(.int .i64),(.int .u32)])⟩],[(.cells [⟨false,(.rows 9)⟩,⟨true,(.func 38 [] [])⟩,⟨true, .bool⟩,⟨true, .bool⟩,⟨false, .bool⟩,⟨false, .bool⟩])]⟩
def F139:List D→Option (List D):=liftX env tb106 60 12 139 S139
def q139:List D→Option (List D):=veil (F139)
def tb139:Tb:=Tb.addF tb106 139 S139 (q139)
def S66:FunS:=⟨[⟨true,(.ptr 0 0)⟩,⟨true,(.dat 24)⟩],[(.cells [⟨false,(.rows 9)⟩,⟨false,(.func 38 [] [])⟩,⟨true, .bool⟩,⟨false, .bool⟩,⟨false, .bool⟩,⟨false, .bool⟩])],[⟨true,(.dat 24)⟩],[(.cells [⟨false,(.rows 9)⟩,⟨true,(.func 38 [] [])⟩,⟨true, .bool⟩,⟨false, .bool⟩,⟨false, .bool⟩,⟨false, .bool⟩])]⟩
def F66:List D→Option (List D):=liftX env tb139 60 12 66 S66
def q66:List D→Option (List D):=veil (F66)
def tb66:Tb:=Tb.addF tb139 66 S66 (q66)
def S110:FunS:=⟨[⟨true,(.ptr 0 0)⟩,⟨true,(.dat 24)⟩,⟨true, .bool⟩],[(.cells [⟨false,(.rows 9)⟩,⟨false,(.func 38 [] [])⟩,⟨true, .bool⟩,⟨true, .bool⟩,⟨false, .bool⟩,⟨false, .bool⟩])],[⟨true,(.dat 24)⟩],[(.cells [⟨false,(.rows 9)⟩,⟨true,(.func 38 [] [])⟩,⟨true, .bool⟩,⟨true, .bool⟩,⟨false, .bool⟩,⟨false, .bool⟩])]⟩
def F110:List D→Option (List D):=liftX env tb66 60 12 110 S110
def q110:List D→Option (List D):=veil (F110)
def tb110:Tb:=Tb.addF tb66 110 S110 (q110)
def S111:FunS:=⟨[⟨true,(.ptr 0 0)⟩,⟨true, .str⟩],[(.cells [⟨false,(.rows 9)⟩,⟨false,(.func 38 [] [])⟩,⟨true, .bool⟩,⟨false, .bool⟩,⟨false, .bool⟩,⟨false, .bool⟩])],[⟨true,(.dat 24)⟩],[(.cells [⟨false,(.rows 9)⟩,⟨true,(.func 38 [] [])⟩,⟨true, .bool⟩,⟨false, .bool⟩,⟨false, .bool⟩,⟨false, .bool⟩])]⟩
def F111:List D→Option (List D):=liftX env tb110 60 12 111 S111
def q111:List D→Option (List D):=veil (F111)
def tb111:Tb:=Tb.addF tb110 111 S111 (q111)
def S68:FunS:=⟨[⟨true,(.ptr 0 0)⟩,⟨true, .str⟩],[(.cells [⟨false,(.rows 9)⟩,⟨false,(.func 38 [] [])⟩,⟨true, .bool⟩,⟨true, .bool⟩,⟨false, .bool⟩,⟨false, .bool⟩])],[⟨true,(.dat 24)⟩],[(.cells [⟨false,(.rows 9)⟩,⟨true,(.func 38 [] [])⟩,⟨true, .bool⟩,⟨true, .bool⟩,⟨false, .bool⟩,⟨false, .bool⟩])]⟩
def F68:List D→Option (List D):=liftX env tb111 60 12 68 S68
def q68:List D→Option (List D):=veil (F68)
def tb68:Tb:=Tb.addF tb111 68 S68 (q68)
def S65:FunS:=⟨[⟨true,(.ptr 0 0)⟩,⟨true,(.int .i64)⟩,⟨true,(.int .u32)⟩],[(.cells [⟨false,(.rows 9)⟩,⟨false,(.func 38 [] [])⟩,⟨true, .bool⟩,⟨false, .bool⟩,⟨false, .bool⟩,⟨true, .bool⟩])],[⟨true,(.dat 24)⟩],[(.cells [⟨false,(.rows 9)⟩,⟨true,(.func 38 [] [])⟩,⟨true, .bool⟩,⟨false, .bool⟩,⟨false, .bool⟩,⟨true, .bool⟩])]⟩
def F65:List D→Option (List D):=liftX env tb68 60 12 65 S65
def q65:List D→Option (List D):=veil (F65)
def tb65:Tb:=Tb.addF tb68 65 S65 (q65)
def S67:FunS:=⟨[⟨true,(.ptr 0 0)⟩,⟨true,(.int .i64)⟩],[(.cells [⟨false,(.rows 9)⟩,⟨false,(.func 38 [] [])⟩,⟨true, .bool⟩,⟨false, .bool⟩,⟨false, .bool⟩,⟨true, .bool⟩])],[⟨true,(.dat 24)⟩],[(.cells [⟨false,(.rows 9)⟩,⟨true,(.func 38 [] [])⟩,⟨true, .bool⟩,⟨false, .bool⟩,⟨false, .bool⟩,⟨true, .bool⟩])]⟩
def F67:List D→Option (List D):=liftX env tb65 60 12 67 S67
def q67:List D→Option (List D):=veil (F67)
def tb67:Tb:=Tb.addF tb65 67 S67 (q67)
end
end Go.Proofs.YtobhhfbdelnhfaaGreatDoor
open Go Go.AM
namespace Go.Proofs.YtobhhfbdelnhfaaGreatDoor
noncomputable section
set_option maxRecDepth 100000
set_option linter.unusedSimpArgs false
set_option linter.unusedVariables false
set_option linter.defProp false
def S37:FunS:=⟨[⟨true, .str⟩,⟨true,(.int .u32)⟩,⟨true,(.func 38 [] [])⟩],[],[⟨true,(.tup [(.dat 24),(.int .i64)])⟩],[]⟩
def F37:List D→Option (List D):=liftX env tb67 60 12 37 S37
def q37:List D→Option (List D):=veil (F37)
def tb37:Tb:=Tb.addF tb67 37 S37 (q37)
def S11:FunS:=⟨[⟨true, .str⟩,⟨true,(.int .u32)⟩],[],[⟨true,(.tup [(.dat 24),(.int .i64)])⟩],[]⟩
def F11:List D→Option (List D):=liftX env tb37 60 12 11 S11
def q11:List D→Option (List D):=veil (F11)
def tb11:Tb:=Tb.addF tb37 11 S11 (q11)
end
end Go.Proofs.YtobhhfbdelnhfaaGreatDoor
open Go Go.AM
namespace Go.Proofs.YtobhhfbdelnhfaaGreatDoor
noncomputable section
set_option maxRecDepth 100000
set_option linter.unusedSimpArgs false
set_option linter.unusedVariables false
set_option linter.defProp false
def S113_2:LoopS:=⟨0,[⟨false,(.rows 9)⟩,⟨false, .str⟩,uF,uF,⟨false,(.lit (.int .i64 0))⟩,⟨true,(.int .i64)⟩,uF,uF,uF,uF,uF,uF,uF,uF,uF,uF,uF,uF,uF],[],[⟨0,0,[⟨false,(.rows 9)⟩,⟨false, .str⟩,uT,uT,⟨true,(.lit (.int .i64 0))⟩,uT,uT,uT,uT,uT,uT,uT,uT,uT,uT,uT,uT,uT,uT],[]⟩,⟨1,0,[⟨false,(.rows 9)⟩,⟨false, .str⟩,uT,uT,⟨true,(.int .i64)⟩,uT,uT,uT,uT,uT,uT,uT,uT,uT,uT,uT,uT,uT,uT],[]⟩]⟩
def st113_2 (p s:List D):Option (Sum (List D) (List D)):=stepQX env tb11 60 12 113 (loopC 113 2) S113_2 p s
def l113_2:List D→List D→Option (List D):=veil fun p s=>loW (st113_2 p) s
def tbl113_2:Tb:=Tb.addL tb11 113 2 S113_2.n0 (mkLp S113_2 (l113_2))
def S113:FunS:=⟨[⟨true,(.rows 9)⟩,⟨true, .str⟩],[],[⟨true,(.int .i64)⟩],[]⟩
def F113:List D→Option (List D):=liftX env tbl113_2 60 12 113 S113
def q113:List D→Option (List D):=veil (F113)
def tb113:Tb:=Tb.addF tbl113_2 113 S113 (q113)
def S112_4:LoopS:=⟨0,[⟨false, .str⟩,uF,⟨false,(.lit (.slice none 0 0))⟩,⟨false,(.osl 0 9)⟩,⟨true,(.int .i64)⟩,⟨true,(.int .i64)⟩,uF,uF,uF,uF,uF,uF,uF,uF,uF,uF,uF,uF,uF,uF,uF,uF,uF,uF,uF,uF,uF,uF,uF,uF,uF,uF,uF,uF,uF,uF,uF,uF,uF,uF,uF,uF,uF,uF],[(.lst true 9)],[⟨0,0,[⟨false, .str⟩,uT,⟨true,(.lit (.slice none 0 0))⟩,⟨true,(.osl 0 9)⟩,⟨true,(.int .i64)⟩,uT,uT,uT,uT,uT,uT,uT,uT,uT,uT,uT,uT,uT,uT,uT,uT,uT,uT,uT,uT,uT,uT,uT,uT,uT,uT,uT,uT,uT,uT,uT,uT,uT,uT,uT,uT,uT,uT,uT],[(.lst true 9)]⟩]⟩
def st112_4 (p s:List D):Option (Sum (List D) (List D)):=stepQX env tb113 60 12 112 (loopC 112 4) S112_4 p s
def l112_4:List D→List D→Option (List D):=veil fun p s=>loW (st112_4 p) s
def tbl112_4:Tb:=Tb.addL tb113 112 4 S112_4.n0 (mkLp S112_4 (l112_4))
def S112:FunS:=⟨[⟨true, .str⟩],[],[⟨true,(.rows 9)⟩],[]⟩
def F112:List D→Option (List D):=liftX env tbl112_4 60 12 112 S112
def q112:List D→Option (List D):=veil (F112)
def tb112:Tb:=Tb.addF tbl112_4 112 S112 (q112)
def S70_2:LoopS:=⟨0,[⟨false, .str⟩,uF,⟨false, .str⟩,⟨false,(.lit (.slice none 0 0))⟩,⟨true,(.int .i64)⟩,uF,uF,uF,uF,uF,uF,uF,uF,uF,uF,uF,uF,uF,uF,uF,uF,uF,uF,uF,uF,uF,uF,uF,uF,uF],[],[⟨0,0,[⟨false, .str⟩,uT,⟨false, .str⟩,⟨true,(.lit (.slice none 0 0))⟩,⟨true,(.int .i64)⟩,uT,uT,uT,uT,uT,uT,uT,uT,uT,uT,uT,uT,uT,uT,uT,uT,uT,uT,uT,uT,uT,uT,uT,uT,uT],[]⟩]⟩
def st70_2 (p s:List D):Option (Sum (List D) (List D)):=stepQX env tb112 60 12 70 (loopC 70 2) S70_2 p s
def l70_2:List D→List D→Option (List D):=veil fun p s=>loW (st70_2 p) s
def tbl70_2:Tb:=Tb.addL tb112 70 2 S70_2.n0 (mkLp S70_2 (l70_2))
def S70:FunS:=⟨[⟨true, .str⟩],[],[⟨true,(.tup [.str,(.rows 9)])⟩],[]⟩
def F70:List D→Option (List D):=liftX env tbl70_2 60 12 70 S70
def q70:List D→Option (List D):=veil (F70)
def tb70:Tb:=Tb.addF tbl70_2 70 S70 (q70)
def S115:FunS:=⟨[⟨true, .str⟩],[],[⟨true,(.tup [(.int .i64),(.int .u32),(.int .i64)])⟩],[]⟩
def F115:List D→Option (List D):=liftX env tb70 60 12 115 S115
def q115:List D→Option (List D):=veil (F115)
def tb115:Tb:=Tb.addF tb70 115 S115 (q115)
def S77_n:FunS:=⟨[⟨true, .str⟩,⟨true,(.lit (.slice none 0 0))⟩,⟨true,(.lit (.int .i64 0))⟩],[],[⟨true,(.tup [(.int .u32), .bool,(.int .i64)])⟩],[]⟩
def F77_n:List D→Option (List D):=liftX env tb115 60 12 77 S77_n
def q77_n:List D→Option (List D):=veil (F77_n)
def tb77_n:Tb:=Tb.addF tb115 77 S77_n (q77_n)
def S116_n:FunS:=⟨[⟨true,(.dat 24)⟩,⟨true, .bool⟩,⟨true, .str⟩,⟨true,(.lit (.slice none 0 0))⟩,⟨true,(.lit (.int .i64 0))⟩],[],[⟨true,(.tup [(.dat 24),(.int .i64)])⟩],[]⟩
def F116_n:List D→Option (List D):=liftX env tb77_n 60 12 116 S116_n
def q116_n:List D→Option (List D):=veil (F116_n)
def tb116_n:Tb:=Tb.addF tb77_n 116 S116_n (q116_n)
def S118_n:FunS:=⟨[⟨true,(.dat 24)⟩,⟨true, .bool⟩,⟨true, .str⟩,⟨true,(.lit (.slice none 0 0))⟩,⟨true,(.lit (.int .i64 0))⟩],[],[⟨true,(.tup [(.dat 24),(.int .i64)])⟩],[]⟩
def F118_n:List D→Option (List D):=liftX env tb116_n 60 12 118 S118_n
def q118_n:List D→Option (List D):=veil (F118_n)
def tb118_n:Tb:=Tb.addF tb116_n 118 S118_n (q118_n)
def S72:FunS:=⟨[⟨true,(.dat 24)⟩,⟨true, .str⟩,⟨true,(.rows 9)⟩],[],[⟨true,(.tup [(.dat 24),(.int .i64), .bool])⟩],[]⟩
def F72:List D→Option (List D):=liftX env tb118_n 60 12 72 S72
def q72:List D→Option (List D):=veil (F72)
def tb72:Tb:=Tb.addF tb118_n 72 S72 (q72)
def S71:FunS:=⟨[⟨true,(.dat 24)⟩,⟨true, .str⟩,⟨true,(.rows 9)⟩],[],[⟨true,(.tup [(.dat 24), .bool])⟩],[]⟩
def F71:List D→Option (List D):=liftX env tb72 60 12 71 S71
def q71:List D→Option (List D):=veil (F71)
def tb71:Tb:=Tb.addF tb72 71 S71 (q71)
def S117:FunS:=⟨[⟨true, .str⟩],[],[⟨true,(.int .i64)⟩],[]⟩
def F117:List D→Option (List D):=liftX env tb71 60 12 117 S117
def q117:List D→Option (List D):=veil (F117)
end
end Go.Proofs.YtobhhfbdelnhfaaGreatDoor
