/-
  A text as bytes.
-/
import Derived.Test.YteccopaonadbeaaGreatDoorAm9m
import Derived.Lib.ConvBytes
set_option linter.unusedVariables false
set_option linter.unusedSimpArgs false
namespace Go.AM
section
variable {P:Program} {lo:Nat→Prop} {w0:World} {ρ:Nat→Option Nat} {E:Nat→Prop} {H:Hp} {w:World}
theorem Inv.outer {w':World} (inv:Inv lo w0 ρ E H w) (hold:∀b,b<w.heap.size→w'.heap[b]? = w.heap[b]?) (hsz:w'.heap.size=w.heap.size+1) (hio:SameIO w w'):
 Inv lo w0 ρ (fun b=>E b∨b=w.heap.size) H w'∧Ext ρ E w ρ (fun b=>E b∨b=w.heap.size) w'∧∀b,(E b∨b=w.heap.size)→E b∨¬lo b:=by
 have ext:Ext ρ E w ρ (fun b=>E b∨b=w.heap.size) w':=Ext.grow (fun _ _ h=>h) (fun _ h=> .inl h) (fun i b hb=>(inv.bd i b hb).2) inv.ebd hold (by omega)
 refine⟨{len:=inv.len,dom:=inv.dom,blk:=fun i k b hk hb=>(inv.blk i k b hk hb).mono ext (hold b (inv.bd i b hb).2),inj:=inv.inj
         notE:=fun i k b hk hb he=>by
          rcases he with he|he
          ·exact inv.notE i k b hk hb he
          ·have:=(inv.bd i b hb).2;omega
         bd:=fun i b hb=>⟨(inv.bd i b hb).1,by have:=(inv.bd i b hb).2;omega⟩
         ebd:=fun b he=>by
          rcases he with he|he
          ·have:=inv.ebd b he;omega
          ·omega
         lole:=fun b hb=>by have:=inv.lole b hb;omega
         old:=fun b hb=>(hold b (inv.lole b hb)).trans (inv.old b hb)
         io:=inv.io.trans hio,gl:=gl_mono rfl ext inv.gl},ext,fun b he=> ?_⟩
 rcases he with he|he
 ·exact .inl he
 ·exact .inr fun h=>by have:=inv.lole b h;omega
theorem bytes_list (s:ByteArray):(D.bytes s).toList=s.data.toList.map fun c=>D.int c.toNat:=by
 simp only[D.bytes,D.toList,ByteArray.toList_eq]
theorem bytes_cell (w:World) (e:TypeId) (s:ByteArray) {i:Nat} {c:UInt8} (h:s.data.toList[i]? = some c):(Lib.bytesWorld w e s).cell? ⟨w.heap.size,i,none⟩=some (.int .u8 c.toNat):=by
 have hi:i<s.size:=by have:=(List.getElem?_eq_some_iff.1 h).1;rw[Array.length_toList]at this;exact this
 rw[Lib.bytesWorld_cell w e s i hi]
 simp[List.getD,h]
theorem ok_bytes' (inv:Inv lo w0 ρ E H w) {src dst:TypeId} {x v:AV} {u:Value} (h:bytesA P src dst x=some v) (r:Rep ρ E w x u):
 ∃u' w' ρ' E',(convert src dst u).run P w = .ok u' w'∧Inv lo w0 ρ' E' H w'∧Ext ρ E w ρ' E' w'∧(∀b,E' b→E b∨¬lo b)∧Rep ρ' E' w' v u'∧ρ'=ρ:=by
 unfold bytesA at h
 split at h
 case h_2=>cases h
 case h_1 e hs hd=>
  split at h
  case h_2=>cases h
  case h_1 he hpe=>
   cases hz:Nat.beq (PG.cellsOf e) 1 with
   |false=>simp[hz]at h
   |true=>
    have hz1:=Nat.eq_of_beq_eq_true hz
    simp only[hz,cond_true]at h
    have str:∃s,u = .string s∧(v = .rows e (qbytes s)∨v = .esl (s.toList.map fun c=>[.sc (.int .u8 c.toNat)])):=by
     split at h
     ·rename_i s;cases h;simp only[Rep]at r;exact⟨s,r, .inl rfl⟩
     ·rename_i s;cases h;simp only[Rep]at r;exact⟨s,r, .inr rfl⟩
     ·cases h
    obtain⟨s,rfl,hv⟩:=str
    have hrun:=Lib.run_convert_string_bytes (P:=P) w src dst e s hs hd he
    obtain⟨inv',ext,hnew⟩:=inv.outer (w':=Lib.bytesWorld w e s) (fun b hb=>Lib.bytesWorld_at_old w e s b hb) (Lib.bytesWorld_size w e s) ⟨rfl,rfl,rfl⟩
    refine⟨_,_,ρ,_,hrun,inv',ext,hnew,?_,rfl⟩
    have hcap:=grownCap_ge w s.size 0 e
    have hsl:s.data.toList.length=s.size:=Array.length_toList
    rcases hv with rfl|rfl
    ·simp only[Rep,qbytes_eq]
     refine⟨_,grownCap w s.size 0 e,by rw[bytes_list,List.length_map,hsl],by rw[bytes_list,List.length_map,hsl];exact hcap, .inr ⟨w.heap.size,0,rfl, .inr rfl,fun i x hx=> ?_⟩⟩
     rw[bytes_list,List.getElem?_map]at hx
     obtain⟨c,hc,rfl⟩:=Option.map_eq_some_iff.1 hx
     refine⟨[.int .u8 c.toNat],by rw[hz1];rfl,fun j u hu=> ?_, .int hpe⟩
     cases j with
     |zero=>
      simp only[List.getElem?_cons_zero,Option.some.injEq]at hu
      subst hu
      rw[hz1,Nat.mul_one,Nat.add_zero,Nat.zero_add]
      exact bytes_cell w e s hc
     |succ j=>simp at hu
    ·simp only[Rep]
     refine⟨_,grownCap w s.size 0 e,by rw[List.length_map,ByteArray.toList_eq,hsl],by rw[List.length_map,ByteArray.toList_eq,hsl];exact hcap, .inr ⟨w.heap.size,0,1,rfl, .inr rfl,?_⟩⟩
     have key:∀(l:List UInt8) (k:Nat),(∀i c,l[i]? = some c→s.data.toList[k+i]? = some c)→RepRows nowhere (fun b=>E b∨b=w.heap.size) (Lib.bytesWorld w e s) w.heap.size k 1 (l.map fun c=>[AV.sc (.int .u8 c.toNat)]):=by
      intro l
      induction l with
      |nil=>intro k _;simp only[List.map_nil,RepRows]
      |cons c l ih=>
       intro k hk
       simp only[List.map_cons,RepRows,RepAt,Rep]
       refine⟨rfl,⟨⟨_,bytes_cell w e s (by simpa using hk 0 c rfl),rfl⟩,trivial⟩,ih (k+1) fun i c' hi=> ?_⟩
       rw[show k+1+i=k+(i+1)by omega]
       exact hk (i+1) c' (by simpa using hi)
     exact key _ 0 fun i c hi=>by rw[Nat.zero_add];rw[ByteArray.toList_eq]at hi;exact hi
end
end Go.AM
