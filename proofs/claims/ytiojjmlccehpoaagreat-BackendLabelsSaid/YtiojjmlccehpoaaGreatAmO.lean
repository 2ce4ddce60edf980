/-
  Data that fits its type: what is asked of arguments, and how it goes down to parts.
-/
import Derived.Test.YtiojjmlccehpoaaGreatAmN
set_option linter.unusedSimpArgs false
set_option linter.unusedVariables false
namespace Go.AM
def ConfL (e:TypeId) (d:D):Prop:=d.toList.length≤maxLen∧(∃xs,d = .list xs)∧∀x∈d.toList,Conf PG e x
noncomputable def BE:TypeId->D->Bool:=veil fun T d=> @decide (Conf PG T d) (Classical.propDecidable _)
noncomputable def KW:TypeId->D->Bool:=veil fun T d=> @decide (ConfL T d) (Classical.propDecidable _)
noncomputable def qrng:IntKind->Int->Bool:=veil fun k n=> @decide (k.min≤n∧n≤k.max) (Classical.propDecidable _)
theorem qconf_iff {T:TypeId} {d:D}:BE T d=true↔Conf PG T d:=by unfold BE;rw[ai];simp
theorem qconfL_iff {T:TypeId} {d:D}:KW T d=true↔ConfL T d:=by unfold KW;rw[ai];simp
theorem T6 {k:IntKind} {n:Int}:qrng k n=true↔k.min≤n∧n≤k.max:=by unfold qrng;rw[ai];simp
noncomputable def isInt (T:TypeId) (k:IntKind):Bool:=match PG.underlying T with|some (.int k')=>k==k'|_=>false
noncomputable def ml (T e:TypeId):Bool:=match PG.underlying T with|some (.slice e')=>Nat.beq e e'|_=>false
noncomputable def dl (T:TypeId) (j:Nat) (F:TypeId):Bool:=match PG.underlying T with|some (.struct fs)=>(match fs.toList[j]? with|some f=>Nat.beq f.type F|none=>false)|_=>false
theorem BF {T e:TypeId} {d:D} (hT:ml T e=true) (h:BE T d=true):KW e d=true:=by
 rw[qconfL_iff];unfold ml at hT;cases hu:PG.underlying T with
 |none=>rw[hu]at hT;cases hT
 |some td=>
  rw[hu]at hT;cases qconf_iff.1 h with
  |slice h1 hl hd=>
   rw[h1]at hu;cases hu;obtain rfl:=aR hT;exact⟨hl,⟨_,rfl⟩,hd⟩
  |int h1=>rw[h1]at hu;cases hu;cases hT
  |bool h1=>rw[h1]at hu;cases hu;cases hT
  |str h1=>rw[h1]at hu;cases hu;cases hT
  |struct h1=>rw[h1]at hu;cases hu;cases hT
  |array h1=>rw[h1]at hu;cases hu;cases hT
  |other h1=>unfold dg at h1;rw[hu]at h1;cases td<;>simp_all
theorem wL {T F:TypeId} {j:Nat} {d:D} (hT:dl T j F=true) (h:BE T d=true):BE F (aa d j)=true:=by
 rw[qconf_iff];unfold dl at hT;cases hu:PG.underlying T with
 |none=>rw[hu]at hT;cases hT
 |some td=>
  rw[hu]at hT;cases qconf_iff.1 h with
  |struct h1 hl hd=>
   rename_i fs ds;rw[h1]at hu;cases hu;simp only at hT;cases hf:fs.toList[j]? with
   |none=>rw[hf]at hT;cases hT
   |some f=>
    rw[hf]at hT;simp only at hT;obtain rfl:=aR hT;rw[bx];exact hd j f hf
  |slice h1 hl hd=>rw[h1]at hu;cases hu;cases hT
  |int h1=>rw[h1]at hu;cases hu;cases hT
  |bool h1=>rw[h1]at hu;cases hu;cases hT
  |str h1=>rw[h1]at hu;cases hu;cases hT
  |array h1=>rw[h1]at hu;cases hu;cases hT
  |other h1=>unfold dg at h1;rw[hu]at h1;cases td<;>simp_all
theorem conf_int {T:TypeId} {k:IntKind} {d:D} (hT:isInt T k=true) (h:BE T d=true):qrng k (ah d)=true:=by
 rw[T6];unfold isInt at hT;cases hu:PG.underlying T with
 |none=>rw[hu]at hT;cases hT
 |some td=>
  rw[hu]at hT;cases qconf_iff.1 h with
  |int h1 h2 h3=>
   rw[h1]at hu;cases hu;simp only[gk]at hT;subst hT;rw[iU];exact⟨h2,h3⟩
  |slice h1 hl hd=>rw[h1]at hu;cases hu;cases hT
  |struct h1=>rw[h1]at hu;cases hu;cases hT
  |bool h1=>rw[h1]at hu;cases hu;cases hT
  |str h1=>rw[h1]at hu;cases hu;cases hT
  |array h1=>rw[h1]at hu;cases hu;cases hT
  |other h1=>unfold dg at h1;rw[hu]at h1;cases td<;>simp_all
theorem wrap64 {n:Int} (h0: -9223372036854775808≤n) (h1:n≤9223372036854775807):IntKind.i64.wrap n=n:=by
 simp only[IntKind.wrap,IntKind.bits,IntKind.signed];simp;omega
theorem wM {a b:Int} (h0: -9223372036854775808≤a+b) (h1:a+b≤9223372036854775807):aM .add .i64 a b=a+b:=by rw[eI];exact wrap64 h0 h1
theorem fp {a b:Int} (h0: -9223372036854775808≤a-b) (h1:a-b≤9223372036854775807):aM .sub .i64 a b=a-b:=by rw[eI];exact wrap64 h0 h1
mutual
def D.size:D->Nat
 | .int _=>1
 | .bool _=>1
 | .str _=>1
 | .list xs=>1+D.sizes xs
 | .agg xs=>1+D.sizes xs
 | .other=>1
def D.sizes:List D->Nat
 | []=>0
 |x::xs=>x.size+D.sizes xs
end
theorem jX:∀{xs:List D} {i:Nat} {x:D},xs[i]? = some x->x.size≤D.sizes xs
 | [],i,x,h=>by simp at h
 |y::ys,i,x,h=>by
  cases i with
  |zero=>simp at h;subst h;simp only[D.sizes];omega
  |succ i=>simp at h;have:=jX h;simp only[D.sizes];omega
end Go.AM
