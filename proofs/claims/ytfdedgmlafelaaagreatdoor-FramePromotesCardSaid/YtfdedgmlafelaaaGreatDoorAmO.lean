/-
  Data that fits its type: what is asked of arguments, and how it goes down to parts.
-/
import Derived.Test.YtfdedgmlafelaaaGreatDoorAmN
set_option linter.unusedSimpArgs false
set_option linter.unusedVariables false
namespace Go.AM
def ConfL (e:TypeId) (d:D):Prop:=d.toList.length≤maxLen∧(∃xs,d = .list xs)∧∀x∈d.toList,Conf PG e x
noncomputable def yD:TypeId->D->Bool:=veil fun T d=> @decide (Conf PG T d) (Classical.propDecidable _)
noncomputable def IH:TypeId->D->Bool:=veil fun T d=> @decide (ConfL T d) (Classical.propDecidable _)
noncomputable def qrng:IntKind->Int->Bool:=veil fun k n=> @decide (k.min≤n∧n≤k.max) (Classical.propDecidable _)
theorem qconf_iff {T:TypeId} {d:D}:yD T d=true↔Conf PG T d:=by unfold yD;rw[ak];simp
theorem qconfL_iff {T:TypeId} {d:D}:IH T d=true↔ConfL T d:=by unfold IH;rw[ak];simp
theorem QH {k:IntKind} {n:Int}:qrng k n=true↔k.min≤n∧n≤k.max:=by unfold qrng;rw[ak];simp
noncomputable def isInt (T:TypeId) (k:IntKind):Bool:=match PG.underlying T with|some (.int k')=>k==k'|_=>false
noncomputable def EC (T e:TypeId):Bool:=match PG.underlying T with|some (.slice e')=>Nat.beq e e'|_=>false
noncomputable def eq (T:TypeId) (j:Nat) (F:TypeId):Bool:=match PG.underlying T with|some (.struct fs)=>(match fs.toList[j]? with|some f=>Nat.beq f.type F|none=>false)|_=>false
theorem yE {T e:TypeId} {d:D} (hT:EC T e=true) (h:yD T d=true):IH e d=true:=by
 rw[qconfL_iff];unfold EC at hT;cases hu:PG.underlying T with
 |none=>rw[hu]at hT;cases hT
 |some td=>
  rw[hu]at hT;cases qconf_iff.1 h with
  |slice h1 hl hd=>
   rw[h1]at hu;cases hu;obtain rfl:=Nat.eq_of_beq_eq_true hT;exact⟨hl,⟨_,rfl⟩,hd⟩
  |int h1=>rw[h1]at hu;cases hu;cases hT
  |bool h1=>rw[h1]at hu;cases hu;cases hT
  |str h1=>rw[h1]at hu;cases hu;cases hT
  |struct h1=>rw[h1]at hu;cases hu;cases hT
  |array h1=>rw[h1]at hu;cases hu;cases hT
  |other h1=>unfold cJ at h1;rw[hu]at h1;cases td<;>simp_all
theorem QI {T F:TypeId} {j:Nat} {d:D} (hT:eq T j F=true) (h:yD T d=true):yD F (aa d j)=true:=by
 rw[qconf_iff];unfold eq at hT;cases hu:PG.underlying T with
 |none=>rw[hu]at hT;cases hT
 |some td=>
  rw[hu]at hT;cases qconf_iff.1 h with
  |struct h1 hl hd=>
   rename_i fs ds;rw[h1]at hu;cases hu;simp only at hT;cases hf:fs.toList[j]? with
   |none=>rw[hf]at hT;cases hT
   |some f=>
    rw[hf]at hT;simp only at hT;obtain rfl:=Nat.eq_of_beq_eq_true hT;rw[aZ];exact hd j f hf
  |slice h1 hl hd=>rw[h1]at hu;cases hu;cases hT
  |int h1=>rw[h1]at hu;cases hu;cases hT
  |bool h1=>rw[h1]at hu;cases hu;cases hT
  |str h1=>rw[h1]at hu;cases hu;cases hT
  |array h1=>rw[h1]at hu;cases hu;cases hT
  |other h1=>unfold cJ at h1;rw[hu]at h1;cases td<;>simp_all
theorem conf_int {T:TypeId} {k:IntKind} {d:D} (hT:isInt T k=true) (h:yD T d=true):qrng k (ah d)=true:=by
 rw[QH];unfold isInt at hT;cases hu:PG.underlying T with
 |none=>rw[hu]at hT;cases hT
 |some td=>
  rw[hu]at hT;cases qconf_iff.1 h with
  |int h1 h2 h3=>
   rw[h1]at hu;cases hu;simp only[beq_iff_eq]at hT;subst hT;rw[dM];exact⟨h2,h3⟩
  |slice h1 hl hd=>rw[h1]at hu;cases hu;cases hT
  |struct h1=>rw[h1]at hu;cases hu;cases hT
  |bool h1=>rw[h1]at hu;cases hu;cases hT
  |str h1=>rw[h1]at hu;cases hu;cases hT
  |array h1=>rw[h1]at hu;cases hu;cases hT
  |other h1=>unfold cJ at h1;rw[hu]at h1;cases td<;>simp_all
theorem wrap64 {n:Int} (h0: -9223372036854775808≤n) (h1:n≤9223372036854775807):IntKind.i64.wrap n=n:=by
 simp only[IntKind.wrap,IntKind.bits,IntKind.signed];simp;omega
theorem yF {a b:Int} (h0: -9223372036854775808≤a+b) (h1:a+b≤9223372036854775807):aQ .add .i64 a b=a+b:=by rw[dh];exact wrap64 h0 h1
theorem qf {a b:Int} (h0: -9223372036854775808≤a-b) (h1:a-b≤9223372036854775807):aQ .sub .i64 a b=a-b:=by rw[dh];exact wrap64 h0 h1
mutual
def D.size:D->Nat
 | .int _=>1
 | .bool _=>1
 | .str _=>1
 | .list xs=>1+D.sizes xs
 | .agg xs=>1+D.sizes xs
 | .other=>1
def D.sizes:List D->Nat
 | []=>0
 |x::xs=>x.size+D.sizes xs
end
theorem D.size_pos (d:D):1≤d.size:=by cases d<;>simp only[D.size]<;>omega
theorem er:∀{xs:List D} {i:Nat} {x:D},xs[i]? = some x->x.size≤D.sizes xs
 | [],i,x,h=>by simp at h
 |y::ys,i,x,h=>by
  cases i with
  |zero=>simp at h;subst h;simp only[D.sizes];omega
  |succ i=>simp at h;have:=er h;simp only[D.sizes];omega
end Go.AM
