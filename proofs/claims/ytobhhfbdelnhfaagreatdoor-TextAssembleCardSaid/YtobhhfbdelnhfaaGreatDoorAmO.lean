/-
  Data that fits its type: what is asked of arguments, and how it goes down to parts.
-/
import Derived.Test.YtobhhfbdelnhfaaGreatDoorAmN
set_option linter.unusedVariables false
set_option linter.unusedSimpArgs false
namespace Go.AM
theorem wrap64 {n:Int} (h0: -9223372036854775808≤n) (h1:n≤9223372036854775807):IntKind.i64.wrap n=n:=by
 simp only[IntKind.wrap,IntKind.bits,IntKind.signed]
 simp
 omega
theorem add64 {a b:Int} (h0: -9223372036854775808≤a+b) (h1:a+b≤9223372036854775807):qbin .add .i64 a b=a+b:=by rw[qbin_eq];exact wrap64 h0 h1
theorem sub64 {a b:Int} (h0: -9223372036854775808≤a-b) (h1:a-b≤9223372036854775807):qbin .sub .i64 a b=a-b:=by rw[qbin_eq];exact wrap64 h0 h1
mutual
def D.size:D→Nat
 | .int _=>1
 | .bool _=>1
 | .str _=>1
 | .list xs=>1+D.sizes xs
 | .agg xs=>1+D.sizes xs
 | .other=>1
def D.sizes:List D→Nat
 | []=>0
 |x::xs=>x.size+D.sizes xs
end
end Go.AM
