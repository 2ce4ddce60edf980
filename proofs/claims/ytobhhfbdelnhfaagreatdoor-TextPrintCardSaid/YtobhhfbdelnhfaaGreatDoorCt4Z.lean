/-
  The table of the library's contracts at this seat: Itoa, Index, Cut, Split.
-/
import Derived.Test.YtobhhfbdelnhfaaGreatDoorSh4Z
import Derived.Test.YtobhhfbdelnhfaaGreatDoorCs
namespace Go.Proofs.YtobhhfbdelnhfaaGreatDoor
open Go Go.AM
set_option maxRecDepth 100000

theorem itoaSaid : ItoaSaid Tryz.prog 22 := fun n h0 h1 w ht => Tryz.strconv_Itoa n h0 h1 w ht
theorem indexSaid : IndexSaid Tryz.prog 137 1 := fun s sub m w hs hm => Tryz.stringslite_Index s sub m w hs hm
theorem cutSaid : CutSaid Tryz.prog 61 1 := fun s sub m w hs hm => Tryz.strings_Cut s sub m w hs hm
theorem splitSaid : SplitSaid Tryz.prog 40 1 9 := fun s sub m w hs hm h1 => Tryz.strings_Split s sub m w hs hm h1

noncomputable def tbS : Tb := (((Tb.nil.add 22 (itoaC 0) itoaO).add 137 (idxU 1) sizeO).add 61 (cutC 1) sizeO).add 40 (splitC 1 9) sizeO

theorem ok_tbS : TbOk env tbS :=
  (((TbOk.nil.add (by kernel_rfl) fun args H v H' h ho => itoaC_ok itoaSaid (by kernel_rfl) args H v H' h ho).add (by kernel_rfl) fun args H v H' h ho => idxU_ok indexSaid args H v H' h ho).add (by kernel_rfl) fun args H v H' h ho => cutC_ok cutSaid args H v H' h ho).add (by kernel_rfl) fun args H v H' h ho => splitC_ok splitSaid (by unfold PG; exact Tryz.underlying9) args H v H' h ho

end Go.Proofs.YtobhhfbdelnhfaaGreatDoor
