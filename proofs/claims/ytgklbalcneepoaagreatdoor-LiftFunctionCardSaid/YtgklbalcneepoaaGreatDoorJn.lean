/-
  A call by a summary of the library's: what it answers is known, and the world is as it was below the heap's end; strings.Join of known texts.
-/
import Derived.Test.YtgklbalcneepoaaGreatDoorC1
import Derived.Below
import Derived.RowKit3
import Derived.Shelf.Strings.OnBuilder
namespace Go.AM
set_option linter.unusedVariables false
set_option linter.unusedSimpArgs false
section
variable {P:Program}
theorem ok_of_below {f:FuncId} {args:List AV} {H:Hp} {x:Value} (h:∀(lo:Nat→Prop) (w0:World) (ρ:Nat→Option Nat) (E:Nat→Prop) (w:World) (vs:Array Value),Inv lo w0 ρ E H w→RepL ρ E w args vs.toList→
 Calls P f vs w fun e w'=>e = .returned x∧RowKit.Below w.heap.size w w'):Ok P f args H (.sc x) H:=by
 intro lo w0 ρ E w vs inv ra
 refine(h lo w0 ρ E w vs inv ra).mono ?_
 rintro e w' ⟨rfl,hb⟩
 obtain⟨b1,b2,b3,hsz,hold⟩:=hb
 have ext:Ext ρ E w ρ E w':=Ext.grow (fun _ _ h=>h) (fun _ h=>h) (fun i b hb=>(inv.bd i b hb).2) inv.ebd hold hsz
 refine⟨x,ρ,E,rfl,?_,⟨ext,fun _ h=> .inl h⟩,by simp only[Rep]⟩
 exact{len:=inv.len,dom:=inv.dom,blk:=fun i k b hk hb=>(inv.blk i k b hk hb).mono ext (hold b (inv.bd i b hb).2),inj:=inv.inj,notE:=inv.notE,
       bd:=fun i b hb=>⟨(inv.bd i b hb).1,Nat.lt_of_lt_of_le (inv.bd i b hb).2 hsz⟩
       ebd:=fun b he=>Nat.lt_of_lt_of_le (inv.ebd b he) hsz
       lole:=fun b hb=>Nat.lt_of_lt_of_le (inv.lole b hb) hsz
       old:=fun b hb=>(hold b (inv.lole b hb)).trans (inv.old b hb)
       io:=inv.io.trans ⟨b1,b2,b3⟩,gl:=gl_mono rfl ext inv.gl}
def str1:List AV→Option ByteArray
 | [.sc (.string s)]=>some s
 |_=>none
theorem rows_strs {E:Nat→Prop} {w:World} {b z:Nat}:∀{xs:List (List AV)} {ss:List ByteArray} {off:Nat},mapO str1 xs=some ss→RepRows nowhere E w b off z xs→∀(j:Nat) x,ss[j]? = some x→w.cell? ⟨b,off+j,none⟩=some (.string x)
 | [],ss,off,h,_,j,x,hx=>by simp[mapO]at h;subst h;simp at hx
 |c::cs,ss,off,h,hr,j,x,hx=>by
  simp only[RepRows]at hr
  obtain⟨hz,h1,h2⟩:=hr
  simp only[mapO]at h
  cases hc:str1 c with
  |none=>simp[hc]at h
  |some s=>
   cases hm:mapO str1 cs with
   |none=>simp[hc,hm]at h
   |some ss'=>
    simp[hc,hm]at h
    subst h
    have he:c = [.sc (.string s)]:=by
     unfold str1 at hc
     split at hc
     ·cases hc;rfl
     ·cases hc
    subst he
    simp only[List.length_cons,List.length_nil]at hz
    subst hz
    cases j with
    |zero=>
     simp at hx;subst hx
     simp only[RepAt,Rep]at h1
     obtain⟨⟨u,hu,rfl⟩,_⟩:=h1
     exact hu
    |succ j=>
     have:=rows_strs hm h2 j x (by simpa using hx)
     rw[show off+(j+1)=off+(0+1)+j by omega];exact this
def JoinSaid (P:Program) (f:FuncId):Prop:=
 ∀(bk o c:Nat) (xs:List ByteArray) (sep:ByteArray) (w:World),(∀(j:Nat) x,xs[j]? = some x→w.cell? ⟨bk,o+j,none⟩=some (.string x))→bk<w.heap.size→xs.length≤140737488355328→xs.length≤c→
  (Lib.join (xs.map (·.data.toList)) sep.data.toList).length≤140737488355328→
  Calls P f #[.slice (some ⟨bk,o,none⟩) xs.length c, .string sep] w fun e w'=>e = .returned (.string ⟨(Lib.join (xs.map (·.data.toList)) sep.data.toList).toArray⟩)∧RowKit.Below w.heap.size w w'
def joinC (args:List AV) (H:Hp):Option (AV×Hp):=
 match args with
 | [.esl (x::xs), .sc (.string sep)]=>(mapO str1 (x::xs)).bind fun ss=>
   bif Nat.ble ss.length 1048576&&Nat.ble (Lib.join (ss.map (·.data.toList)) sep.data.toList).length 1048576 then some (.sc (.string ⟨(Lib.join (ss.map (·.data.toList)) sep.data.toList).toArray⟩),H)else none
 |_=>none
theorem joinC_ok {f:FuncId} (hJ:JoinSaid P f) (args:List AV) (H:Hp) (v:AV) (H':Hp) (h:joinC args H=some (v,H')):Ok P f args H v H':=by
 unfold joinC at h
 split at h
 case h_2=>cases h
 case h_1 x xs sep=>
  obtain⟨ss,hs,h⟩:=Option.bind_eq_some_iff.1 h
  cases hb:(Nat.ble ss.length 1048576&&Nat.ble (Lib.join (ss.map (·.data.toList)) sep.data.toList).length 1048576)with
  |false=>rw[hb]at h;cases h
  |true=>
   rw[hb]at h
   cases h
   simp only[Bool.and_eq_true,Nat.ble_eq]at hb
   refine ok_of_below fun lo w0 ρ E w vs inv ra=> ?_
   generalize hvs:vs.toList=l at ra
   simp only[RepL]at ra
   obtain⟨u1,l1,rfl,r1,u2,l2,rfl,r2,rfl⟩:=ra
   simp only[Rep]at r1 r2
   subst r2
   obtain⟨a,cap,rfl,hcap,hr⟩:=r1
   rcases hr with hr|⟨b,off,z,rfl,he,hr⟩
   ·cases hr
   ·have hlen:=mapO_len hs
    have hv:vs = #[.slice (some ⟨b,off,none⟩) ss.length cap, .string sep]:=by
     rw[← Array.toList_inj,hvs,hlen]
    rw[hv]
    exact hJ b off cap ss sep w (rows_strs hs hr) (inv.ebd b he) (by omega) (by omega) (by omega)
end
end Go.AM
