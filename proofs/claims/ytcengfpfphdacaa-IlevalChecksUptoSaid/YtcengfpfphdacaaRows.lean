/-
  NARROWER THAN 'FOR EVERY INPUT', by the rows' own cells (each row's printed sentence says how): IlevalChecks: loops · IlevalDeterminism: loops · IlevalBlocks: loops.
  DERIVED. THE GIVEN ROWS OF THIS SEAT. 4 by the template 'for every input the law returns true; each argument reads behind the call as it read before'; 0 by the template 'total and deterministic' (their statements: YtcengfpfphdacaaTotals.lean).
  GIVEN WITH THE SEED: the statements are not yours to turn. If you find one false, say at which input.
  Laid BY PROGRAM, IN A SANDBOX (cutbox-rows.mjs): the forced cells as the released guide's own fill.sh prints them over the translation 80d6819014f6a8b3… (all of the seat's roots in one cut). By AI agents, Wed Nov 11 2026. No macro, syntax, notation, axiom, sorry.
-/
import Derived.Test.YtcengfpfphdacaaChecked
import GoSem.Claim
import GoSem.ClaimJoined
import GoSem.ClaimMapViews
import Derived.JoinedTies
import Derived.KernelRfl
namespace Go.Proofs.Ytcengfpfphdacaa
/- THE CELL 'sum', in the pinned program and in every row, IS THE sha256 OF THE DUMP (.gsa) THAT YtcengfpfphdacaaProg.lean LOADS. Nothing in Lean hashes anything: it is a label: what it is worth is what the hold of that sum in a sandbox is worth. -/
noncomputable def Try.pinned : Pinned := { name := "ytcengfpfphdacaa", sum := "80d6819014f6a8b3d7f8d569019ee8c38784e04e491d95761f5288db8257e277", checked := Try.checked }
namespace Rows
def none {H : Type} : Left H := { results := [], args := [] }

/-- 'decompilerlaw20.IlevalChecks': WHATEVER THE INPUT: true; the input reads as it did. -/
def ilevalChecksSpec : ChangeSpec := { name := "ilevalChecks", fn := fun _ => fun
  | [d] => { results := [.lit (.bool true)], args := [d] }
  | _ => none }
def ilevalChecksRow : OpenClaim := { program := "ytcengfpfphdacaa", sum := "80d6819014f6a8b3d7f8d569019ee8c38784e04e491d95761f5288db8257e277", func := "decompiler/decompilerlaw20.IlevalChecks", spec := "ilevalChecks", unfollowed := true, recurses := true, loops := true, apart := false }
def IlevalChecksSaid : Prop := ilevalChecksRow.holds Try.pinned (OpenSpec.ofChange ilevalChecksSpec)

/-- ITS FALSE NEIGHBOUR: 'it returns false'. Refute it at one input. -/
def ilevalChecksWrong : ChangeSpec := { name := "ilevalChecks", fn := fun _ => fun
  | [d] => { results := [.lit (.bool false)], args := [d] }
  | _ => none }
def IlevalChecksWrongFalsely : Prop := ilevalChecksRow.holds Try.pinned (OpenSpec.ofChange ilevalChecksWrong)

/-- 'decompilerlaw20.IlevalInitial': WHATEVER THE INPUT: true; the input reads as it did. -/
def ilevalInitialSpec : ChangeSpec := { name := "ilevalInitial", fn := fun _ => fun
  | [d] => { results := [.lit (.bool true)], args := [d] }
  | _ => none }
def ilevalInitialRow : OpenClaim := { program := "ytcengfpfphdacaa", sum := "80d6819014f6a8b3d7f8d569019ee8c38784e04e491d95761f5288db8257e277", func := "decompiler/decompilerlaw20.IlevalInitial", spec := "ilevalInitial", unfollowed := true, recurses := true, apart := false }
def IlevalInitialSaid : Prop := ilevalInitialRow.holds Try.pinned (OpenSpec.ofChange ilevalInitialSpec)

/-- ITS FALSE NEIGHBOUR: 'it returns false'. Refute it at one input. -/
def ilevalInitialWrong : ChangeSpec := { name := "ilevalInitial", fn := fun _ => fun
  | [d] => { results := [.lit (.bool false)], args := [d] }
  | _ => none }
def IlevalInitialWrongFalsely : Prop := ilevalInitialRow.holds Try.pinned (OpenSpec.ofChange ilevalInitialWrong)

/-- 'decompilerlaw20.IlevalDeterminism': WHATEVER THE INPUT: true; the input reads as it did. -/
def ilevalDeterminismSpec : ChangeSpec := { name := "ilevalDeterminism", fn := fun _ => fun
  | [d1, d2, d3, d4, d5] => { results := [.lit (.bool true)], args := [d1, d2, d3, d4, d5] }
  | _ => none }
def ilevalDeterminismRow : OpenClaim := { program := "ytcengfpfphdacaa", sum := "80d6819014f6a8b3d7f8d569019ee8c38784e04e491d95761f5288db8257e277", func := "decompiler/decompilerlaw20.IlevalDeterminism", spec := "ilevalDeterminism", unfollowed := true, recurses := true, loops := true, apart := false }
def IlevalDeterminismSaid : Prop := ilevalDeterminismRow.holds Try.pinned (OpenSpec.ofChange ilevalDeterminismSpec)

/-- ITS FALSE NEIGHBOUR: 'it returns false'. Refute it at one input. -/
def ilevalDeterminismWrong : ChangeSpec := { name := "ilevalDeterminism", fn := fun _ => fun
  | [d1, d2, d3, d4, d5] => { results := [.lit (.bool false)], args := [d1, d2, d3, d4, d5] }
  | _ => none }
def IlevalDeterminismWrongFalsely : Prop := ilevalDeterminismRow.holds Try.pinned (OpenSpec.ofChange ilevalDeterminismWrong)

/-- 'decompilerlaw20.IlevalBlocks': WHATEVER THE INPUT: true; the input reads as it did. -/
def ilevalBlocksSpec : ChangeSpec := { name := "ilevalBlocks", fn := fun _ => fun
  | [d1, d2, d3] => { results := [.lit (.bool true)], args := [d1, d2, d3] }
  | _ => none }
def ilevalBlocksRow : OpenClaim := { program := "ytcengfpfphdacaa", sum := "80d6819014f6a8b3d7f8d569019ee8c38784e04e491d95761f5288db8257e277", func := "decompiler/decompilerlaw20.IlevalBlocks", spec := "ilevalBlocks", unfollowed := true, recurses := true, loops := true, apart := false }
def IlevalBlocksSaid : Prop := ilevalBlocksRow.holds Try.pinned (OpenSpec.ofChange ilevalBlocksSpec)

/-- ITS FALSE NEIGHBOUR: 'it returns false'. Refute it at one input. -/
def ilevalBlocksWrong : ChangeSpec := { name := "ilevalBlocks", fn := fun _ => fun
  | [d1, d2, d3] => { results := [.lit (.bool false)], args := [d1, d2, d3] }
  | _ => none }
def IlevalBlocksWrongFalsely : Prop := ilevalBlocksRow.holds Try.pinned (OpenSpec.ofChange ilevalBlocksWrong)

/- THE SECOND FORM. 'bulk': how many values and letters a reading holds, each counted each time it is reached (what is shared counts as often as it is met; a slice's spare places count too). A statement '..UptoSaid' is the law's where the arguments, and the package variables that the reading takes, are together of bulk at most 1048576: NARROWER than '..Said'. Prove '..Said' where nothing that the law and all that it calls make is longer than what came in: it says more and counts as full. Else prove '..UptoSaid'. A law counts once. -/
mutual
def uptoBulk {H : Type} : DataW H → Nat
  | .lit (.string bytes) => bytes.length + 1
  | .lit _ => 1
  | .nil => 1
  | .ptr d => uptoBulk d + 1
  | .slice elems spare => uptoBulkAll elems + uptoBulkAll spare + 1
  | .agg parts => uptoBulkAll parts + 1
  | .iface _ d => uptoBulk d + 1
  | .map entries => uptoBulkEntries entries + 1
  | .held _ => 1
def uptoBulkAll {H : Type} : List (DataW H) → Nat
  | [] => 0
  | d :: r => uptoBulk d + uptoBulkAll r
def uptoBulkEntries {H : Type} : List (Lit × DataW H) → Nat
  | [] => 0
  | x :: r => uptoBulkEntry x + uptoBulkEntries r
def uptoBulkEntry {H : Type} : Lit × DataW H → Nat
  | (.string bytes, d) => bytes.length + uptoBulk d + 1
  | (_, d) => uptoBulk d + 1
 end
def uptoSmall : (H : Type) → List (DataW H) → Bool := fun _ ds => decide (uptoBulkAll ds ≤ 1048576)
def OpenSpec.upto (s : _root_.Go.ChangeSpec) : _root_.Go.OpenSpec := { _root_.Go.OpenSpec.ofChange s with cond := some uptoSmall }

/-- 'decompilerlaw20.IlevalChecks', WHERE WHAT IT READS IS OF BULK AT MOST 1048576: true; the input reads as it did. -/
def ilevalChecksUptoRow : OpenClaim := { program := "ytcengfpfphdacaa", sum := "80d6819014f6a8b3d7f8d569019ee8c38784e04e491d95761f5288db8257e277", func := "decompiler/decompilerlaw20.IlevalChecks", spec := "ilevalChecks", unfollowed := true, recurses := true, loops := true, apart := false, narrowed := true }
def IlevalChecksUptoSaid : Prop := ilevalChecksUptoRow.holds Try.pinned (OpenSpec.upto ilevalChecksSpec)

/-- 'decompilerlaw20.IlevalInitial', WHERE WHAT IT READS IS OF BULK AT MOST 1048576: true; the input reads as it did. -/
def ilevalInitialUptoRow : OpenClaim := { program := "ytcengfpfphdacaa", sum := "80d6819014f6a8b3d7f8d569019ee8c38784e04e491d95761f5288db8257e277", func := "decompiler/decompilerlaw20.IlevalInitial", spec := "ilevalInitial", unfollowed := true, recurses := true, apart := false, narrowed := true }
def IlevalInitialUptoSaid : Prop := ilevalInitialUptoRow.holds Try.pinned (OpenSpec.upto ilevalInitialSpec)

/-- 'decompilerlaw20.IlevalDeterminism', WHERE WHAT IT READS IS OF BULK AT MOST 1048576: true; the input reads as it did. -/
def ilevalDeterminismUptoRow : OpenClaim := { program := "ytcengfpfphdacaa", sum := "80d6819014f6a8b3d7f8d569019ee8c38784e04e491d95761f5288db8257e277", func := "decompiler/decompilerlaw20.IlevalDeterminism", spec := "ilevalDeterminism", unfollowed := true, recurses := true, loops := true, apart := false, narrowed := true }
def IlevalDeterminismUptoSaid : Prop := ilevalDeterminismUptoRow.holds Try.pinned (OpenSpec.upto ilevalDeterminismSpec)

/-- 'decompilerlaw20.IlevalBlocks', WHERE WHAT IT READS IS OF BULK AT MOST 1048576: true; the input reads as it did. -/
def ilevalBlocksUptoRow : OpenClaim := { program := "ytcengfpfphdacaa", sum := "80d6819014f6a8b3d7f8d569019ee8c38784e04e491d95761f5288db8257e277", func := "decompiler/decompilerlaw20.IlevalBlocks", spec := "ilevalBlocks", unfollowed := true, recurses := true, loops := true, apart := false, narrowed := true }
def IlevalBlocksUptoSaid : Prop := ilevalBlocksUptoRow.holds Try.pinned (OpenSpec.upto ilevalBlocksSpec)

end Rows
end Go.Proofs.Ytcengfpfphdacaa
