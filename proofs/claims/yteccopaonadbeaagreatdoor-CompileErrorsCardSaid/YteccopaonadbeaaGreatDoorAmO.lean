/-
  Data that fits its type: what is asked of arguments, and how it goes down to parts.
-/
import Derived.Test.YteccopaonadbeaaGreatDoorAmN
set_option linter.unusedVariables false
set_option linter.unusedSimpArgs false
namespace Go.AM
def ConfL (e:TypeId) (d:D):Prop:=d.toList.length≤maxLen∧(∃xs,d = .list xs)∧∀x∈d.toList,Conf PG e x
noncomputable def qconf:TypeId→D→Bool:=veil fun T d=> @decide (Conf PG T d) (Classical.propDecidable _)
noncomputable def qconfL:TypeId→D→Bool:=veil fun T d=> @decide (ConfL T d) (Classical.propDecidable _)
noncomputable def qrng:IntKind→Int→Bool:=veil fun k n=> @decide (k.min≤n∧n≤k.max) (Classical.propDecidable _)
theorem qconf_iff {T:TypeId} {d:D}:qconf T d=true↔Conf PG T d:=by unfold qconf;rw[veil_eq];simp
theorem qconfL_iff {T:TypeId} {d:D}:qconfL T d=true↔ConfL T d:=by unfold qconfL;rw[veil_eq];simp
theorem qrng_iff {k:IntKind} {n:Int}:qrng k n=true↔k.min≤n∧n≤k.max:=by unfold qrng;rw[veil_eq];simp
noncomputable def isInt (T:TypeId) (k:IntKind):Bool:=match PG.underlying T with|some (.int k')=>k==k'|_=>false
noncomputable def isSl (T e:TypeId):Bool:=match PG.underlying T with|some (.slice e')=>Nat.beq e e'|_=>false
noncomputable def isFld (T:TypeId) (j:Nat) (F:TypeId):Bool:=match PG.underlying T with|some (.struct fs)=>(match fs.toList[j]? with|some f=>Nat.beq f.type F|none=>false)|_=>false
theorem conf_list {T e:TypeId} {d:D} (hT:isSl T e=true) (h:qconf T d=true):qconfL e d=true:=by
 rw[qconfL_iff]
 unfold isSl at hT
 cases hu:PG.underlying T with
 |none=>rw[hu]at hT;cases hT
 |some td=>
  rw[hu]at hT
  cases qconf_iff.1 h with
  |slice h1 hl hd=>
   rw[h1]at hu;cases hu
   obtain rfl:=Nat.eq_of_beq_eq_true hT
   exact⟨hl,⟨_,rfl⟩,hd⟩
  |int h1=>rw[h1]at hu;cases hu;cases hT
  |bool h1=>rw[h1]at hu;cases hu;cases hT
  |str h1=>rw[h1]at hu;cases hu;cases hT
  |struct h1=>rw[h1]at hu;cases hu;cases hT
  |array h1=>rw[h1]at hu;cases hu;cases hT
  |other h1=>unfold isOther at h1;rw[hu]at h1;cases td<;>simp_all
theorem conf_fld {T F:TypeId} {j:Nat} {d:D} (hT:isFld T j F=true) (h:qconf T d=true):qconf F (qfld d j)=true:=by
 rw[qconf_iff]
 unfold isFld at hT
 cases hu:PG.underlying T with
 |none=>rw[hu]at hT;cases hT
 |some td=>
  rw[hu]at hT
  cases qconf_iff.1 h with
  |struct h1 hl hd=>
   rename_i fs ds
   rw[h1]at hu;cases hu
   simp only at hT
   cases hf:fs.toList[j]? with
   |none=>rw[hf]at hT;cases hT
   |some f=>
    rw[hf]at hT
    simp only at hT
    obtain rfl:=Nat.eq_of_beq_eq_true hT
    rw[qfld_eq]
    exact hd j f hf
  |slice h1 hl hd=>rw[h1]at hu;cases hu;cases hT
  |int h1=>rw[h1]at hu;cases hu;cases hT
  |bool h1=>rw[h1]at hu;cases hu;cases hT
  |str h1=>rw[h1]at hu;cases hu;cases hT
  |array h1=>rw[h1]at hu;cases hu;cases hT
  |other h1=>unfold isOther at h1;rw[hu]at h1;cases td<;>simp_all
theorem conf_int {T:TypeId} {k:IntKind} {d:D} (hT:isInt T k=true) (h:qconf T d=true):qrng k (qint d)=true:=by
 rw[qrng_iff]
 unfold isInt at hT
 cases hu:PG.underlying T with
 |none=>rw[hu]at hT;cases hT
 |some td=>
  rw[hu]at hT
  cases qconf_iff.1 h with
  |int h1 h2 h3=>
   rw[h1]at hu;cases hu
   simp only[beq_iff_eq]at hT
   subst hT
   rw[qint_eq]
   exact⟨h2,h3⟩
  |slice h1 hl hd=>rw[h1]at hu;cases hu;cases hT
  |struct h1=>rw[h1]at hu;cases hu;cases hT
  |bool h1=>rw[h1]at hu;cases hu;cases hT
  |str h1=>rw[h1]at hu;cases hu;cases hT
  |array h1=>rw[h1]at hu;cases hu;cases hT
  |other h1=>unfold isOther at h1;rw[hu]at h1;cases td<;>simp_all
theorem wrap64 {n:Int} (h0: -9223372036854775808≤n) (h1:n≤9223372036854775807):IntKind.i64.wrap n=n:=by
 simp only[IntKind.wrap,IntKind.bits,IntKind.signed]
 simp
 omega
theorem add64 {a b:Int} (h0: -9223372036854775808≤a+b) (h1:a+b≤9223372036854775807):qbin .add .i64 a b=a+b:=by rw[qbin_eq];exact wrap64 h0 h1
theorem sub64 {a b:Int} (h0: -9223372036854775808≤a-b) (h1:a-b≤9223372036854775807):qbin .sub .i64 a b=a-b:=by rw[qbin_eq];exact wrap64 h0 h1
mutual
def D.size:D→Nat
 | .int _=>1
 | .bool _=>1
 | .str _=>1
 | .list xs=>1+D.sizes xs
 | .agg xs=>1+D.sizes xs
 | .other=>1
def D.sizes:List D→Nat
 | []=>0
 |x::xs=>x.size+D.sizes xs
end
theorem sizes_get:∀{xs:List D} {i:Nat} {x:D},xs[i]? = some x→x.size≤D.sizes xs
 | [],i,x,h=>by simp at h
 |y::ys,i,x,h=>by
  cases i with
  |zero=>simp at h;subst h;simp only[D.sizes];omega
  |succ i=>simp at h;have:=sizes_get h;simp only[D.sizes];omega
end Go.AM
