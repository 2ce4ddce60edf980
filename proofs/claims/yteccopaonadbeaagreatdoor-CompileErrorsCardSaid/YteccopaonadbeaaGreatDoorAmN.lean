/-
  Templates of frames and heaps; loops and pure functions by what their rounds and bodies compute.
-/
import Derived.Test.YteccopaonadbeaaGreatDoorAmM
set_option linter.unusedVariables false
set_option linter.unusedSimpArgs false
namespace Go.AM
structure Bd where
 n:Nat→Int
 b:Nat→Bool
 s:Nat→ByteArray
 d:Nat→D
theorem qeqD_iff {a b:D}:qeqD a b=true↔a=b:=by unfold qeqD;rw[veil_eq];simp
theorem qeqD_self (a:D):qeqD a a=true:=qeqD_iff.2 rfl
theorem qeqB_iff {a b:Bool}:qeqB a b=true↔a=b:=by rw[qeqB_eq];simp
theorem qeqI_iff {a b:Int}:qcmp .eql a b=true↔a=b:=by rw[qcmp_eq];simp[rcmp]
theorem qeqI_self (a:Int):qcmp .eql a a=true:=qeqI_iff.2 rfl
theorem qeqB_self (a:Bool):qeqB a a=true:=qeqB_iff.2 rfl
theorem qand_tt:qand true true=true:=by rw[qand_eq];rfl
theorem allB_one {b:Bool} (h:allB [b]=true):b=true:=by cases b<;>simp_all[allB]
theorem FrLe.repL:∀{xs ys:List AV},FrLe xs ys→∀{ρ:Nat→Option Nat} {E:Nat→Prop} {w:World} {vs:List Value},RepL ρ E w xs vs→RepL ρ E w ys vs
 | [],[],_,_,_,_,_,r=>r
 |x::xs,y::ys,h,_,_,_,_,r=>by
  simp only[RepL]at r ⊢
  obtain⟨v,vs',rfl,h1,h2⟩:=r
  exact⟨v,vs',rfl,h.1 _ _ _ _ h1,FrLe.repL h.2 h2⟩
 | [],_::_,h,_,_,_,_,_=>h.elim
 |_::_,[],h,_,_,_,_,_=>h.elim
theorem FrLe.repAt:∀{xs ys:List AV},FrLe xs ys→∀{ρ:Nat→Option Nat} {E:Nat→Prop} {w:World} {b off:Nat},RepAt ρ E w b off xs→RepAt ρ E w b off ys
 | [],[],_,_,_,_,_,_,r=>r
 |x::xs,y::ys,h,_,_,_,_,_,r=>by
  simp only[RepAt]at r ⊢
  obtain⟨⟨u,hu,h1⟩,h2⟩:=r
  exact⟨⟨u,hu,h.1 _ _ _ _ h1⟩,FrLe.repAt h.2 h2⟩
 | [],_::_,h,_,_,_,_,_,_=>h.elim
 |_::_,[],h,_,_,_,_,_,_=>h.elim
theorem FrLe.len:∀{xs ys:List AV},FrLe xs ys→xs.length=ys.length
 | [],[],_=>rfl
 |_::_,_::_,h=>by simp[FrLe.len h.2]
 | [],_::_,h=>h.elim
 |_::_,[],h=>h.elim
theorem AVle.agg {xs ys:List AV} (h:FrLe xs ys):AVle (.agg xs) (.agg ys):=fun ρ E w v r=>by
 simp only[Rep]at r ⊢
 obtain⟨us,hv,hr⟩:=r
 exact⟨us,hv,h.repL hr⟩
theorem AVle.tup {xs ys:List AV} (h:FrLe xs ys):AVle (.tup xs) (.tup ys):=fun ρ E w v r=>by
 simp only[Rep]at r ⊢
 obtain⟨us,hv,hr⟩:=r
 exact⟨us,hv,h.repL hr⟩
theorem AVle.eptr {xs ys:List AV} (h:FrLe xs ys):AVle (.eptr xs) (.eptr ys):=fun ρ E w v r=>by
 simp only[Rep]at r ⊢
 obtain⟨b,off,hv,hb,hr⟩:=r
 exact⟨b,off,hv,hb,h.repAt hr⟩
theorem AVle.func {f:FuncId} {xs ys xs' ys':List AV} (h:FrLe xs ys) (h':FrLe xs' ys'):AVle (.func f xs xs') (.func f ys ys'):=fun ρ E w v r=>by
 simp only[Rep]at r ⊢
 obtain⟨us,us',hv,hr,hr'⟩:=r
 exact⟨us,us',hv,h.repL hr,h'.repL hr'⟩
theorem AVle.dat (T:TypeId) (d:D):AVle (.dat T d) (.agg (cellsT rowDepth T d)):=fun _ _ _ _ r=>dat_agg r
theorem AVle.edat (T:TypeId) (d:D):AVle (.edat T d) (.eptr (cellsT rowDepth T d)):=fun _ _ _ _ r=>edat_eptr r
def BLe (k' k:Blk):Prop:=∀ρ E w b,BlkRep ρ E w k' b→BlkRep ρ E w k b
theorem BLe.cells {cs cs':List AV} (h:FrLe cs cs'):BLe (.cells cs) (.cells cs'):=fun ρ E w b r=>by
 obtain⟨c,T,hc,hl,hr⟩:=r
 exact⟨c,T,hc,by rw[← h.len];exact hl,by rw[← h.len];exact h.repL hr⟩
theorem Ok.args {P:Program} {f:FuncId} {args args':List AV} {H H':Hp} {v:AV} (h:Ok P f args' H v H') (hle:FrLe args args'):Ok P f args H v H':=
 fun lo w0 ρ E w vs inv ra=>h lo w0 ρ E w vs inv (hle.repL ra)
end Go.AM
