/-
  NARROWER THAN 'FOR EVERY INPUT', by the rows' own cells (each row's printed sentence says how): BackendExprExact: loops · BackendFunc: loops · BackendLabels: loops · BackendSize: loops · BackendExpr: loops.
  DERIVED. THE GIVEN ROWS OF THIS SEAT. 8 by the template 'for every input the law returns true; each argument reads behind the call as it read before'; 0 by the template 'total and deterministic' (their statements: YtiojjmlccehpoaaGreatTotals.lean).
  GIVEN WITH THE SEED: the statements are not yours to turn. If you find one false, say at which input.
  Laid BY PROGRAM, IN A SANDBOX (cutbox-rows.mjs): the forced cells as the released guide's own fill.sh prints them over the translation ff051d550551701d… (all of the seat's roots in one cut). By AI agents, Wed Nov 11 2026. No macro, syntax, notation, axiom, sorry.
-/
import Derived.Test.YtiojjmlccehpoaaGreatChecked
import GoSem.Claim
import GoSem.ClaimJoined
import GoSem.ClaimMapViews
import Derived.JoinedTies
import Derived.KernelRfl
namespace Go.Proofs.YtiojjmlccehpoaaGreat
/- THE CELL 'sum', in the pinned program and in every row, IS THE sha256 OF THE DUMP (.gsa) THAT YtiojjmlccehpoaaGreatProg.lean LOADS. Nothing in Lean hashes anything: it is a label: what it is worth is what the hold of that sum in a sandbox is worth. -/
noncomputable def Tryz.pinned : Pinned := { name := "ytiojjmlccehpoaagreat", sum := "ff051d550551701d8e99d4205afbddc95644e7328b1fdbc718a4d2951a7eb4f4", checked := Tryz.checked }
namespace Rows
def none {H : Type} : Left H := { results := [], args := [] }

/-- 'decompilerlaw43.BackendExprExact': WHATEVER THE INPUT: true; the input reads as it did. -/
def backendExprExactSpec : ChangeSpec := { name := "backendExprExact", fn := fun _ => fun
  | [d1, d2, d3] => { results := [.lit (.bool true)], args := [d1, d2, d3] }
  | _ => none }
def backendExprExactRow : OpenClaim := { program := "ytiojjmlccehpoaagreat", sum := "ff051d550551701d8e99d4205afbddc95644e7328b1fdbc718a4d2951a7eb4f4", func := "decompiler/decompilerlaw43.BackendExprExact", spec := "backendExprExact", inPlace := ["internal/bytealg.IndexByteString", "internal/bytealg.IndexString"], unfollowed := true, recurses := true, named := ["internal/bytealg.MaxLen"], loops := true, apart := false }
def BackendExprExactSaid : Prop := backendExprExactRow.holds Tryz.pinned (OpenSpec.ofChange backendExprExactSpec)

/-- ITS FALSE NEIGHBOUR: 'it returns false'. Refute it at one input. -/
def backendExprExactWrong : ChangeSpec := { name := "backendExprExact", fn := fun _ => fun
  | [d1, d2, d3] => { results := [.lit (.bool false)], args := [d1, d2, d3] }
  | _ => none }
def BackendExprExactWrongFalsely : Prop := backendExprExactRow.holds Tryz.pinned (OpenSpec.ofChange backendExprExactWrong)

/-- 'decompilerlaw43.BackendFunc': WHATEVER THE INPUT: true; the input reads as it did. -/
def backendFuncSpec : ChangeSpec := { name := "backendFunc", fn := fun _ => fun
  | [d1, d2, d3, d4] => { results := [.lit (.bool true)], args := [d1, d2, d3, d4] }
  | _ => none }
def backendFuncRow : OpenClaim := { program := "ytiojjmlccehpoaagreat", sum := "ff051d550551701d8e99d4205afbddc95644e7328b1fdbc718a4d2951a7eb4f4", func := "decompiler/decompilerlaw43.BackendFunc", spec := "backendFunc", inPlace := ["internal/bytealg.IndexByteString", "internal/bytealg.IndexString"], unfollowed := true, recurses := true, named := ["internal/bytealg.MaxLen"], loops := true, apart := false }
def BackendFuncSaid : Prop := backendFuncRow.holds Tryz.pinned (OpenSpec.ofChange backendFuncSpec)

/-- ITS FALSE NEIGHBOUR: 'it returns false'. Refute it at one input. -/
def backendFuncWrong : ChangeSpec := { name := "backendFunc", fn := fun _ => fun
  | [d1, d2, d3, d4] => { results := [.lit (.bool false)], args := [d1, d2, d3, d4] }
  | _ => none }
def BackendFuncWrongFalsely : Prop := backendFuncRow.holds Tryz.pinned (OpenSpec.ofChange backendFuncWrong)

/-- 'decompilerlaw43.BackendLabels': WHATEVER THE INPUT: true; the input reads as it did. -/
def backendLabelsSpec : ChangeSpec := { name := "backendLabels", fn := fun _ => fun
  | [d1, d2, d3, d4] => { results := [.lit (.bool true)], args := [d1, d2, d3, d4] }
  | _ => none }
def backendLabelsRow : OpenClaim := { program := "ytiojjmlccehpoaagreat", sum := "ff051d550551701d8e99d4205afbddc95644e7328b1fdbc718a4d2951a7eb4f4", func := "decompiler/decompilerlaw43.BackendLabels", spec := "backendLabels", inPlace := ["internal/bytealg.IndexByteString", "internal/bytealg.IndexString"], unfollowed := true, recurses := true, named := ["internal/bytealg.MaxLen"], loops := true, apart := false }
def BackendLabelsSaid : Prop := backendLabelsRow.holds Tryz.pinned (OpenSpec.ofChange backendLabelsSpec)

/-- ITS FALSE NEIGHBOUR: 'it returns false'. Refute it at one input. -/
def backendLabelsWrong : ChangeSpec := { name := "backendLabels", fn := fun _ => fun
  | [d1, d2, d3, d4] => { results := [.lit (.bool false)], args := [d1, d2, d3, d4] }
  | _ => none }
def BackendLabelsWrongFalsely : Prop := backendLabelsRow.holds Tryz.pinned (OpenSpec.ofChange backendLabelsWrong)

/-- 'decompilerlaw43.BackendLayout': WHATEVER THE INPUT: true; the input reads as it did. -/
def backendLayoutSpec : ChangeSpec := { name := "backendLayout", fn := fun _ => fun
  | [d1, d2, d3] => { results := [.lit (.bool true)], args := [d1, d2, d3] }
  | _ => none }
def backendLayoutRow : OpenClaim := { program := "ytiojjmlccehpoaagreat", sum := "ff051d550551701d8e99d4205afbddc95644e7328b1fdbc718a4d2951a7eb4f4", func := "decompiler/decompilerlaw43.BackendLayout", spec := "backendLayout", inPlace := ["internal/bytealg.IndexByteString", "internal/bytealg.IndexString"], unfollowed := true, recurses := true, named := ["internal/bytealg.MaxLen"], apart := false }
def BackendLayoutSaid : Prop := backendLayoutRow.holds Tryz.pinned (OpenSpec.ofChange backendLayoutSpec)

/-- ITS FALSE NEIGHBOUR: 'it returns false'. Refute it at one input. -/
def backendLayoutWrong : ChangeSpec := { name := "backendLayout", fn := fun _ => fun
  | [d1, d2, d3] => { results := [.lit (.bool false)], args := [d1, d2, d3] }
  | _ => none }
def BackendLayoutWrongFalsely : Prop := backendLayoutRow.holds Tryz.pinned (OpenSpec.ofChange backendLayoutWrong)

/-- 'decompilerlaw43.BackendLayoutAddresses': WHATEVER THE INPUT: true; the input reads as it did. -/
def backendLayoutAddressesSpec : ChangeSpec := { name := "backendLayoutAddresses", fn := fun _ => fun
  | [d1, d2, d3] => { results := [.lit (.bool true)], args := [d1, d2, d3] }
  | _ => none }
def backendLayoutAddressesRow : OpenClaim := { program := "ytiojjmlccehpoaagreat", sum := "ff051d550551701d8e99d4205afbddc95644e7328b1fdbc718a4d2951a7eb4f4", func := "decompiler/decompilerlaw43.BackendLayoutAddresses", spec := "backendLayoutAddresses", inPlace := ["internal/bytealg.IndexByteString", "internal/bytealg.IndexString"], unfollowed := true, recurses := true, named := ["internal/bytealg.MaxLen"], apart := false }
def BackendLayoutAddressesSaid : Prop := backendLayoutAddressesRow.holds Tryz.pinned (OpenSpec.ofChange backendLayoutAddressesSpec)

/-- ITS FALSE NEIGHBOUR: 'it returns false'. Refute it at one input. -/
def backendLayoutAddressesWrong : ChangeSpec := { name := "backendLayoutAddresses", fn := fun _ => fun
  | [d1, d2, d3] => { results := [.lit (.bool false)], args := [d1, d2, d3] }
  | _ => none }
def BackendLayoutAddressesWrongFalsely : Prop := backendLayoutAddressesRow.holds Tryz.pinned (OpenSpec.ofChange backendLayoutAddressesWrong)

/-- 'decompilerlaw43.BackendSize': WHATEVER THE INPUT: true; the input reads as it did. -/
def backendSizeSpec : ChangeSpec := { name := "backendSize", fn := fun _ => fun
  | [d1, d2, d3, d4] => { results := [.lit (.bool true)], args := [d1, d2, d3, d4] }
  | _ => none }
def backendSizeRow : OpenClaim := { program := "ytiojjmlccehpoaagreat", sum := "ff051d550551701d8e99d4205afbddc95644e7328b1fdbc718a4d2951a7eb4f4", func := "decompiler/decompilerlaw43.BackendSize", spec := "backendSize", inPlace := ["internal/bytealg.IndexByteString", "internal/bytealg.IndexString"], unfollowed := true, recurses := true, named := ["internal/bytealg.MaxLen"], loops := true, apart := false }
def BackendSizeSaid : Prop := backendSizeRow.holds Tryz.pinned (OpenSpec.ofChange backendSizeSpec)

/-- ITS FALSE NEIGHBOUR: 'it returns false'. Refute it at one input. -/
def backendSizeWrong : ChangeSpec := { name := "backendSize", fn := fun _ => fun
  | [d1, d2, d3, d4] => { results := [.lit (.bool false)], args := [d1, d2, d3, d4] }
  | _ => none }
def BackendSizeWrongFalsely : Prop := backendSizeRow.holds Tryz.pinned (OpenSpec.ofChange backendSizeWrong)

/-- 'decompilerlaw43.BackendBytes': WHATEVER THE INPUT: true; the input reads as it did. -/
def backendBytesSpec : ChangeSpec := { name := "backendBytes", fn := fun _ => fun
  | [d1, d2] => { results := [.lit (.bool true)], args := [d1, d2] }
  | _ => none }
def backendBytesRow : OpenClaim := { program := "ytiojjmlccehpoaagreat", sum := "ff051d550551701d8e99d4205afbddc95644e7328b1fdbc718a4d2951a7eb4f4", func := "decompiler/decompilerlaw43.BackendBytes", spec := "backendBytes", inPlace := ["internal/bytealg.IndexByteString", "internal/bytealg.IndexString"], unfollowed := true, recurses := true, named := ["internal/bytealg.MaxLen"], apart := false }
def BackendBytesSaid : Prop := backendBytesRow.holds Tryz.pinned (OpenSpec.ofChange backendBytesSpec)

/-- ITS FALSE NEIGHBOUR: 'it returns false'. Refute it at one input. -/
def backendBytesWrong : ChangeSpec := { name := "backendBytes", fn := fun _ => fun
  | [d1, d2] => { results := [.lit (.bool false)], args := [d1, d2] }
  | _ => none }
def BackendBytesWrongFalsely : Prop := backendBytesRow.holds Tryz.pinned (OpenSpec.ofChange backendBytesWrong)

/-- 'decompilerlaw43.BackendExpr': WHATEVER THE INPUT: true; the input reads as it did. -/
def backendExprSpec : ChangeSpec := { name := "backendExpr", fn := fun _ => fun
  | [d1, d2, d3] => { results := [.lit (.bool true)], args := [d1, d2, d3] }
  | _ => none }
def backendExprRow : OpenClaim := { program := "ytiojjmlccehpoaagreat", sum := "ff051d550551701d8e99d4205afbddc95644e7328b1fdbc718a4d2951a7eb4f4", func := "decompiler/decompilerlaw43.BackendExpr", spec := "backendExpr", inPlace := ["internal/bytealg.IndexByteString", "internal/bytealg.IndexString", "maps.clone"], unfollowed := true, recurses := true, named := ["internal/bytealg.MaxLen"], loops := true, apart := false }
def BackendExprSaid : Prop := backendExprRow.holds Tryz.pinned (OpenSpec.ofChange backendExprSpec)

/-- ITS FALSE NEIGHBOUR: 'it returns false'. Refute it at one input. -/
def backendExprWrong : ChangeSpec := { name := "backendExpr", fn := fun _ => fun
  | [d1, d2, d3] => { results := [.lit (.bool false)], args := [d1, d2, d3] }
  | _ => none }
def BackendExprWrongFalsely : Prop := backendExprRow.holds Tryz.pinned (OpenSpec.ofChange backendExprWrong)

/- THE SECOND FORM. 'bulk': how many values and letters a reading holds, each counted each time it is reached (what is shared counts as often as it is met; a slice's spare places count too). A statement '..UptoSaid' is the law's where the arguments, and the package variables that the reading takes, are together of bulk at most 1048576: NARROWER than '..Said'. Prove '..Said' where nothing that the law and all that it calls make is longer than what came in: it says more and counts as full. Else prove '..UptoSaid'. A law counts once. -/
mutual
def uptoBulk {H : Type} : DataW H → Nat
  | .lit (.string bytes) => bytes.length + 1
  | .lit _ => 1
  | .nil => 1
  | .ptr d => uptoBulk d + 1
  | .slice elems spare => uptoBulkAll elems + uptoBulkAll spare + 1
  | .agg parts => uptoBulkAll parts + 1
  | .iface _ d => uptoBulk d + 1
  | .map entries => uptoBulkEntries entries + 1
  | .held _ => 1
def uptoBulkAll {H : Type} : List (DataW H) → Nat
  | [] => 0
  | d :: r => uptoBulk d + uptoBulkAll r
def uptoBulkEntries {H : Type} : List (Lit × DataW H) → Nat
  | [] => 0
  | x :: r => uptoBulkEntry x + uptoBulkEntries r
def uptoBulkEntry {H : Type} : Lit × DataW H → Nat
  | (.string bytes, d) => bytes.length + uptoBulk d + 1
  | (_, d) => uptoBulk d + 1
 end
def uptoSmall : (H : Type) → List (DataW H) → Bool := fun _ ds => decide (uptoBulkAll ds ≤ 1048576)
def OpenSpec.upto (s : _root_.Go.ChangeSpec) : _root_.Go.OpenSpec := { _root_.Go.OpenSpec.ofChange s with cond := some uptoSmall }

/-- 'decompilerlaw43.BackendExprExact', WHERE WHAT IT READS IS OF BULK AT MOST 1048576: true; the input reads as it did. -/
def backendExprExactUptoRow : OpenClaim := { program := "ytiojjmlccehpoaagreat", sum := "ff051d550551701d8e99d4205afbddc95644e7328b1fdbc718a4d2951a7eb4f4", func := "decompiler/decompilerlaw43.BackendExprExact", spec := "backendExprExact", inPlace := ["internal/bytealg.IndexByteString", "internal/bytealg.IndexString"], unfollowed := true, recurses := true, named := ["internal/bytealg.MaxLen"], loops := true, apart := false, narrowed := true }
def BackendExprExactUptoSaid : Prop := backendExprExactUptoRow.holds Tryz.pinned (OpenSpec.upto backendExprExactSpec)

/-- 'decompilerlaw43.BackendFunc', WHERE WHAT IT READS IS OF BULK AT MOST 1048576: true; the input reads as it did. -/
def backendFuncUptoRow : OpenClaim := { program := "ytiojjmlccehpoaagreat", sum := "ff051d550551701d8e99d4205afbddc95644e7328b1fdbc718a4d2951a7eb4f4", func := "decompiler/decompilerlaw43.BackendFunc", spec := "backendFunc", inPlace := ["internal/bytealg.IndexByteString", "internal/bytealg.IndexString"], unfollowed := true, recurses := true, named := ["internal/bytealg.MaxLen"], loops := true, apart := false, narrowed := true }
def BackendFuncUptoSaid : Prop := backendFuncUptoRow.holds Tryz.pinned (OpenSpec.upto backendFuncSpec)

/-- 'decompilerlaw43.BackendLabels', WHERE WHAT IT READS IS OF BULK AT MOST 1048576: true; the input reads as it did. -/
def backendLabelsUptoRow : OpenClaim := { program := "ytiojjmlccehpoaagreat", sum := "ff051d550551701d8e99d4205afbddc95644e7328b1fdbc718a4d2951a7eb4f4", func := "decompiler/decompilerlaw43.BackendLabels", spec := "backendLabels", inPlace := ["internal/bytealg.IndexByteString", "internal/bytealg.IndexString"], unfollowed := true, recurses := true, named := ["internal/bytealg.MaxLen"], loops := true, apart := false, narrowed := true }
def BackendLabelsUptoSaid : Prop := backendLabelsUptoRow.holds Tryz.pinned (OpenSpec.upto backendLabelsSpec)

/-- 'decompilerlaw43.BackendLayout', WHERE WHAT IT READS IS OF BULK AT MOST 1048576: true; the input reads as it did. -/
def backendLayoutUptoRow : OpenClaim := { program := "ytiojjmlccehpoaagreat", sum := "ff051d550551701d8e99d4205afbddc95644e7328b1fdbc718a4d2951a7eb4f4", func := "decompiler/decompilerlaw43.BackendLayout", spec := "backendLayout", inPlace := ["internal/bytealg.IndexByteString", "internal/bytealg.IndexString"], unfollowed := true, recurses := true, named := ["internal/bytealg.MaxLen"], apart := false, narrowed := true }
def BackendLayoutUptoSaid : Prop := backendLayoutUptoRow.holds Tryz.pinned (OpenSpec.upto backendLayoutSpec)

/-- 'decompilerlaw43.BackendLayoutAddresses', WHERE WHAT IT READS IS OF BULK AT MOST 1048576: true; the input reads as it did. -/
def backendLayoutAddressesUptoRow : OpenClaim := { program := "ytiojjmlccehpoaagreat", sum := "ff051d550551701d8e99d4205afbddc95644e7328b1fdbc718a4d2951a7eb4f4", func := "decompiler/decompilerlaw43.BackendLayoutAddresses", spec := "backendLayoutAddresses", inPlace := ["internal/bytealg.IndexByteString", "internal/bytealg.IndexString"], unfollowed := true, recurses := true, named := ["internal/bytealg.MaxLen"], apart := false, narrowed := true }
def BackendLayoutAddressesUptoSaid : Prop := backendLayoutAddressesUptoRow.holds Tryz.pinned (OpenSpec.upto backendLayoutAddressesSpec)

/-- 'decompilerlaw43.BackendSize', WHERE WHAT IT READS IS OF BULK AT MOST 1048576: true; the input reads as it did. -/
def backendSizeUptoRow : OpenClaim := { program := "ytiojjmlccehpoaagreat", sum := "ff051d550551701d8e99d4205afbddc95644e7328b1fdbc718a4d2951a7eb4f4", func := "decompiler/decompilerlaw43.BackendSize", spec := "backendSize", inPlace := ["internal/bytealg.IndexByteString", "internal/bytealg.IndexString"], unfollowed := true, recurses := true, named := ["internal/bytealg.MaxLen"], loops := true, apart := false, narrowed := true }
def BackendSizeUptoSaid : Prop := backendSizeUptoRow.holds Tryz.pinned (OpenSpec.upto backendSizeSpec)

/-- 'decompilerlaw43.BackendBytes', WHERE WHAT IT READS IS OF BULK AT MOST 1048576: true; the input reads as it did. -/
def backendBytesUptoRow : OpenClaim := { program := "ytiojjmlccehpoaagreat", sum := "ff051d550551701d8e99d4205afbddc95644e7328b1fdbc718a4d2951a7eb4f4", func := "decompiler/decompilerlaw43.BackendBytes", spec := "backendBytes", inPlace := ["internal/bytealg.IndexByteString", "internal/bytealg.IndexString"], unfollowed := true, recurses := true, named := ["internal/bytealg.MaxLen"], apart := false, narrowed := true }
def BackendBytesUptoSaid : Prop := backendBytesUptoRow.holds Tryz.pinned (OpenSpec.upto backendBytesSpec)

/-- 'decompilerlaw43.BackendExpr', WHERE WHAT IT READS IS OF BULK AT MOST 1048576: true; the input reads as it did. -/
def backendExprUptoRow : OpenClaim := { program := "ytiojjmlccehpoaagreat", sum := "ff051d550551701d8e99d4205afbddc95644e7328b1fdbc718a4d2951a7eb4f4", func := "decompiler/decompilerlaw43.BackendExpr", spec := "backendExpr", inPlace := ["internal/bytealg.IndexByteString", "internal/bytealg.IndexString", "maps.clone"], unfollowed := true, recurses := true, named := ["internal/bytealg.MaxLen"], loops := true, apart := false, narrowed := true }
def BackendExprUptoSaid : Prop := backendExprUptoRow.holds Tryz.pinned (OpenSpec.upto backendExprSpec)

end Rows
end Go.Proofs.YtiojjmlccehpoaaGreat
