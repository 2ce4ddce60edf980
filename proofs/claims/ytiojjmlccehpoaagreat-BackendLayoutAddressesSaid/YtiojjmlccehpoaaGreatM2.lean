/-
  A slice of instructions is cloned: nil, or not (function 70).
-/
import Derived.Test.YtiojjmlccehpoaaGreatM1
import Derived.Test.YtiojjmlccehpoaaGreatSp
import Derived.KernelRfl
import Derived.Test.YtiojjmlccehpoaaGreatEx43
namespace Go.Proofs.YtiojjmlccehpoaaGreat
open Go Go.AM

def S70 : FunS := ⟨[⟨true, (.rows 46)⟩], [], [⟨true, (.osl 0 46)⟩], [(.lst true 46)]⟩

theorem run70n (c : Nat) : bodyK (envF env tb15 70) (runTb env tb15 60 6) 60 70 [.sc (.slice none 0 c)] (heapF S70 [] []) (retF S70 []) = some [.list []] := by
  have h : bodyK (envF env tb15 70) (runTb env tb15 60 6) 60 70 [.sc (.slice none 0 c)] (heapF S70 [] []) (retF S70 []) = bif qcmp BinOp.eql 0 (qlen (D.list [])) then some [.list []] else none := by kernel_rfl
  rw [h, show qcmp BinOp.eql 0 (qlen (D.list [])) = true from qeq_len []]; rfl
theorem run70z (d : D) : bodyK (envF env tb15 70) (runTb env tb15 60 6) 60 70 [.rowz 46 d] (heapF S70 [] []) (retF S70 []) =
  bif qmem (qlen (qapp (D.list []) d)) 64 then (bif (qcmp BinOp.eql (qlen (qapp (D.list []) d)) (qlen (qapp (D.list []) d))) then some [qapp (D.list []) d] else none) else none := by kernel_rfl

noncomputable def F70 (ds : List D) : Option (List D) := bif qmem (qlen (qapp (D.list []) (ds.headD .other))) 64 then some [qapp (D.list []) (ds.headD .other)] else none

noncomputable def q70 : List D → Option (List D) := veil F70
theorem q70_eq : q70 = F70 := veil_eq _

theorem sound70 : SoundF env.P 70 S70 q70 := by
  intro p s r hp hq lo w0 ρ E w vs inv ra
  obtain rfl : p = [] := List.length_eq_zero_iff.1 hp
  have ha : argF S70 [] s = [.rows 46 (s.headD .other)] := by
    cases s <;> rfl
  have hh : heapF S70 [] s = heapF S70 [] [] := rfl
  rw [q70_eq] at hq
  unfold F70 at hq
  simp only [List.nil_append] at hq
  rw [ha] at ra
  generalize hd : s.headD .other = d at *
  cases hm : qmem (qlen (qapp (D.list []) d)) 64 with
  | false => rw [hm] at hq; cases hq
  | true =>
    rw [hm] at hq
    simp only [cond_true, Option.some.injEq] at hq
    subst hq
    rw [hh] at inv
    generalize hvs : vs.toList = vl at ra
    obtain ⟨v, vl', rfl, rv, hn⟩ : ∃ v vs', vl = v :: vs' ∧ Rep ρ E w (AV.rows 46 d) v ∧ vs' = [] := by simpa only [RepL] using ra
    · subst hn
      simp only [Rep] at rv
      obtain ⟨a, cap, rfl, hc, hx⟩ := id rv
      cases a with
      | none =>
        have he : d.toList = [] := by
          rcases hx with h | ⟨_, _, h, _⟩
          · exact h
          · cases h
        have he' : qapp (D.list []) d = .list [] := by rw [qapp_eq]; unfold D.app; rw [he]; rfl
        rw [he']
        refine lift_ok (av := [.sc (.slice none 0 cap)]) envOk ok_tb15 60 6 (run70n cap) rfl lo w0 ρ E w vs inv ?_
        rw [hvs, he]
        simp [RepL, Rep]
      | some a =>
        refine lift_ok (av := [.rowz 46 d]) envOk ok_tb15 60 6 (p := []) (r := [qapp (D.list []) d]) (S := S70) (by rw [run70z, hm, qeqI_self]; rfl) rfl lo w0 ρ E w vs inv ?_
        rw [hvs]
        simp only [RepL]
        exact ⟨_, _, rfl, by simp only [Rep]; exact ⟨rv, _, _, _, rfl⟩, rfl⟩

noncomputable def tb70 : Tb := Tb.addF tb15 70 S70 q70
theorem ok_tb70 : TbOk env tb70 := TbOk.addF ok_tb15 (by kernel_rfl) sound70

end Go.Proofs.YtiojjmlccehpoaaGreat

open Go Go.AM
namespace Go.Proofs.YtiojjmlccehpoaaGreat
set_option maxRecDepth 100000
set_option linter.unusedSimpArgs false
set_option linter.unusedVariables false
/- function 21  -/

def S21_7 : LoopS := ⟨0, [⟨false, (.rows 46)⟩, ⟨false, (.rows 3)⟩, ⟨false, (.int .u32)⟩, ⟨false, .any⟩, ⟨false, .any⟩, ⟨false, .any⟩, ⟨false, (.lit (.slice none 0 0))⟩, ⟨false, (.lit (.int .i64 0))⟩, ⟨false, (.osl 0 46)⟩, ⟨false, (.osl 1 22)⟩, ⟨true, (.int .i64)⟩, ⟨false, .any⟩, ⟨false, .any⟩, ⟨false, .any⟩, ⟨false, .any⟩, ⟨false, .any⟩, ⟨false, .any⟩, ⟨false, .any⟩, ⟨false, .any⟩, ⟨false, .any⟩, ⟨false, .any⟩, ⟨false, .any⟩, ⟨false, .any⟩, ⟨false, .any⟩, ⟨false, .any⟩, ⟨false, .any⟩, ⟨false, .any⟩, ⟨false, (.int .i64)⟩, ⟨true, (.int .i64)⟩, ⟨false, .any⟩, ⟨false, .any⟩, ⟨false, .any⟩, ⟨false, .any⟩, ⟨false, .any⟩, ⟨false, .any⟩, ⟨false, .any⟩, ⟨false, .any⟩, ⟨false, .any⟩, ⟨false, .any⟩, ⟨false, .any⟩, ⟨false, .any⟩, ⟨false, .any⟩, ⟨false, .any⟩, ⟨false, .any⟩, ⟨false, .any⟩, ⟨false, .any⟩, ⟨false, .any⟩, ⟨false, .any⟩, ⟨false, .any⟩, ⟨false, .any⟩, ⟨false, .any⟩, ⟨false, .any⟩, ⟨false, .any⟩, ⟨false, .any⟩, ⟨false, .any⟩, ⟨false, .any⟩, ⟨false, .any⟩, ⟨false, .any⟩, ⟨false, .any⟩, ⟨false, .any⟩, ⟨false, .any⟩, ⟨false, .any⟩, ⟨false, .any⟩, ⟨false, .any⟩, ⟨false, .any⟩, ⟨false, .any⟩, ⟨false, .any⟩, ⟨false, .any⟩, ⟨false, .any⟩, ⟨false, .any⟩, ⟨false, .any⟩, ⟨false, .any⟩, ⟨false, .any⟩, ⟨false, .any⟩, ⟨false, .any⟩, ⟨false, .any⟩, ⟨false, .any⟩, ⟨false, .any⟩, ⟨false, .any⟩, ⟨false, .any⟩, ⟨false, .any⟩, ⟨false, .any⟩, ⟨false, .any⟩, ⟨false, .any⟩, ⟨false, .any⟩, ⟨false, .any⟩, ⟨false, .any⟩, ⟨false, .any⟩, ⟨false, .any⟩, ⟨false, .any⟩, ⟨false, .any⟩, ⟨false, .any⟩, ⟨false, .any⟩, ⟨false, .any⟩, ⟨false, .any⟩, ⟨false, .any⟩, ⟨false, .any⟩, ⟨false, .any⟩, ⟨false, .any⟩, ⟨false, .any⟩, ⟨false, .any⟩, ⟨false, .any⟩, ⟨false, .any⟩, ⟨false, .any⟩, ⟨false, .any⟩, ⟨false, .any⟩, ⟨false, .any⟩, ⟨false, .any⟩, ⟨false, .any⟩, ⟨false, .any⟩, ⟨false, .any⟩, ⟨false, .any⟩, ⟨false, .any⟩, ⟨false, .any⟩, ⟨false, .any⟩, ⟨false, .any⟩, ⟨false, .any⟩, ⟨false, .any⟩, ⟨false, .any⟩, ⟨false, .any⟩, ⟨false, .any⟩, ⟨false, .any⟩, ⟨false, .any⟩, ⟨false, .any⟩, ⟨false, .any⟩, ⟨false, .any⟩, ⟨false, .any⟩, ⟨false, .any⟩, ⟨false, .any⟩, ⟨false, .any⟩, ⟨false, .any⟩, ⟨false, .any⟩, ⟨false, .any⟩, ⟨false, .any⟩, ⟨false, .any⟩, ⟨false, .any⟩, ⟨false, .any⟩], [(.lst true 22), (.lst true 46)], [⟨0, 0, [⟨false, (.rows 46)⟩, ⟨false, (.rows 3)⟩, ⟨false, (.int .u32)⟩, ⟨true, .any⟩, ⟨true, .any⟩, ⟨true, .any⟩, ⟨true, (.lit (.slice none 0 0))⟩, ⟨true, (.lit (.int .i64 0))⟩, ⟨true, (.osl 0 46)⟩, ⟨true, (.osl 1 22)⟩, ⟨true, (.int .i64)⟩, ⟨true, .any⟩, ⟨true, .any⟩, ⟨true, .any⟩, ⟨true, .any⟩, ⟨true, .any⟩, ⟨true, .any⟩, ⟨true, .any⟩, ⟨true, .any⟩, ⟨true, .any⟩, ⟨true, .any⟩, ⟨true, .any⟩, ⟨true, .any⟩, ⟨true, .any⟩, ⟨true, .any⟩, ⟨true, .any⟩, ⟨true, .any⟩, ⟨false, (.int .i64)⟩, ⟨true, .any⟩, ⟨true, .any⟩, ⟨true, .any⟩, ⟨true, .any⟩, ⟨true, .any⟩, ⟨true, .any⟩, ⟨true, .any⟩, ⟨true, .any⟩, ⟨true, .any⟩, ⟨true, .any⟩, ⟨true, .any⟩, ⟨true, .any⟩, ⟨true, .any⟩, ⟨true, .any⟩, ⟨true, .any⟩, ⟨true, .any⟩, ⟨true, .any⟩, ⟨true, .any⟩, ⟨true, .any⟩, ⟨true, .any⟩, ⟨true, .any⟩, ⟨true, .any⟩, ⟨true, .any⟩, ⟨true, .any⟩, ⟨true, .any⟩, ⟨true, .any⟩, ⟨true, .any⟩, ⟨true, .any⟩, ⟨true, .any⟩, ⟨true, .any⟩, ⟨true, .any⟩, ⟨true, .any⟩, ⟨true, .any⟩, ⟨true, .any⟩, ⟨true, .any⟩, ⟨true, .any⟩, ⟨true, .any⟩, ⟨true, .any⟩, ⟨true, .any⟩, ⟨true, .any⟩, ⟨true, .any⟩, ⟨true, .any⟩, ⟨true, .any⟩, ⟨true, .any⟩, ⟨true, .any⟩, ⟨true, .any⟩, ⟨true, .any⟩, ⟨true, .any⟩, ⟨true, .any⟩, ⟨true, .any⟩, ⟨true, .any⟩, ⟨true, .any⟩, ⟨true, .any⟩, ⟨true, .any⟩, ⟨true, .any⟩, ⟨true, .any⟩, ⟨true, .any⟩, ⟨true, .any⟩, ⟨true, .any⟩, ⟨true, .any⟩, ⟨true, .any⟩, ⟨true, .any⟩, ⟨true, .any⟩, ⟨true, .any⟩, ⟨true, .any⟩, ⟨true, .any⟩, ⟨true, .any⟩, ⟨true, .any⟩, ⟨true, .any⟩, ⟨true, .any⟩, ⟨true, .any⟩, ⟨true, .any⟩, ⟨true, .any⟩, ⟨true, .any⟩, ⟨true, .any⟩, ⟨true, .any⟩, ⟨true, .any⟩, ⟨true, .any⟩, ⟨true, .any⟩, ⟨true, .any⟩, ⟨true, .any⟩, ⟨true, .any⟩, ⟨true, .any⟩, ⟨true, .any⟩, ⟨true, .any⟩, ⟨true, .any⟩, ⟨true, .any⟩, ⟨true, .any⟩, ⟨true, .any⟩, ⟨true, .any⟩, ⟨true, .any⟩, ⟨true, .any⟩, ⟨true, .any⟩, ⟨true, .any⟩, ⟨true, .any⟩, ⟨true, .any⟩, ⟨true, .any⟩, ⟨true, .any⟩, ⟨true, .any⟩, ⟨true, .any⟩, ⟨true, .any⟩, ⟨true, .any⟩, ⟨true, .any⟩, ⟨true, .any⟩, ⟨true, .any⟩, ⟨true, .any⟩, ⟨true, .any⟩, ⟨true, .any⟩, ⟨true, .any⟩], [(.lst true 22), (.lst true 46)]⟩]⟩

noncomputable def st21_7 (p s : List D) : Option (Sum (List D) (List D)) := stepQX env tb70 60 6 21 (loopC 21 7) S21_7 p s

noncomputable def st21_7_a0 (pd0 : D) (pd1 : D) (pn2 : Int) (pn3 : Int) (sn0 : Int) (sn1 : Int) (sd2 : D) (sd3 : D) : D := (D.agg [(D.int (qint (qget (qapp sd2 (D.list [(D.int (qbin BinOp.add IntKind.u32 pn2 (qwrap IntKind.u32 sn0)))])) sn1))), (D.int (qint (qfld (qget sd3 sn1) 1))), (D.int (qint (qfld (qget sd3 sn1) 2))), (D.int (qint (qfld (qget sd3 sn1) 3))), (D.int (qint (qfld (qget sd3 sn1) 4))), (D.int (qint (qfld (qget sd3 sn1) 5))), (D.int (qint (qfld (qget sd3 sn1) 6))), (D.int (qint (qfld (qget sd3 sn1) 7))), (D.int (qint (qfld (qget sd3 sn1) 8)))])

noncomputable def st21_7_a2 (pd0 : D) (pd1 : D) (pn2 : Int) (pn3 : Int) (sn0 : Int) (sn1 : Int) (sd2 : D) (sd3 : D) : D := (D.agg [(D.int (qint (qfld (qget sd3 sn1) 0))), (D.int (qint (qfld (qget sd3 sn1) 1))), (D.int (qint (qfld (qget sd3 sn1) 2))), (D.int 2), (D.int (qint (qfld (qget sd3 sn1) 4))), (D.int (qint (qfld (qget sd3 sn1) 5))), (D.int (qint (qfld (qget sd3 sn1) 6))), (D.int (qint (qfld (qget sd3 sn1) 7))), (D.int (qint (qfld (qget sd3 sn1) 8)))])

noncomputable def st21_7_a5 (pd0 : D) (pd1 : D) (pn2 : Int) (pn3 : Int) (sn0 : Int) (sn1 : Int) (sd2 : D) (sd3 : D) : D := (qset sd3 sn1 (st21_7_a0 pd0 pd1 pn2 pn3 sn0 sn1 sd2 sd3))

noncomputable def st21_7_a1 (pd0 : D) (pd1 : D) (pn2 : Int) (pn3 : Int) (sn0 : Int) (sn1 : Int) (sd2 : D) (sd3 : D) : D := (D.agg [(D.int (qint (qfld (qget (st21_7_a5 pd0 pd1 pn2 pn3 sn0 sn1 sd2 sd3) sn1) 0))), (D.int (qint (qfld (qget (st21_7_a5 pd0 pd1 pn2 pn3 sn0 sn1 sd2 sd3) sn1) 1))), (D.int (qint (qfld (qget (st21_7_a5 pd0 pd1 pn2 pn3 sn0 sn1 sd2 sd3) sn1) 2))), (D.int (qint (qfld (qget (st21_7_a5 pd0 pd1 pn2 pn3 sn0 sn1 sd2 sd3) sn1) 3))), (D.int (qint (qfld (qget (st21_7_a5 pd0 pd1 pn2 pn3 sn0 sn1 sd2 sd3) sn1) 4))), (D.int (qint (qfld (qget (st21_7_a5 pd0 pd1 pn2 pn3 sn0 sn1 sd2 sd3) sn1) 5))), (D.int (qint (qfld (qget (st21_7_a5 pd0 pd1 pn2 pn3 sn0 sn1 sd2 sd3) sn1) 6))), (D.int (qint (qfld (qget (st21_7_a5 pd0 pd1 pn2 pn3 sn0 sn1 sd2 sd3) sn1) 7))), (D.int (qint (qnth (Proofs.YtiojjmlccehpoaaGreat.q23 [(qget (st21_7_a5 pd0 pd1 pn2 pn3 sn0 sn1 sd2 sd3) sn1)]) 0)))])

noncomputable def st21_7_a6 (pd0 : D) (pd1 : D) (pn2 : Int) (pn3 : Int) (sn0 : Int) (sn1 : Int) (sd2 : D) (sd3 : D) : D := (qset (st21_7_a5 pd0 pd1 pn2 pn3 sn0 sn1 sd2 sd3) sn1 (st21_7_a1 pd0 pd1 pn2 pn3 sn0 sn1 sd2 sd3))

noncomputable def st21_7_a7 (pd0 : D) (pd1 : D) (pn2 : Int) (pn3 : Int) (sn0 : Int) (sn1 : Int) (sd2 : D) (sd3 : D) : D := (qset sd3 sn1 (st21_7_a2 pd0 pd1 pn2 pn3 sn0 sn1 sd2 sd3))

noncomputable def st21_7_a3 (pd0 : D) (pd1 : D) (pn2 : Int) (pn3 : Int) (sn0 : Int) (sn1 : Int) (sd2 : D) (sd3 : D) : D := (D.agg [(D.int (qint (qget (qapp sd2 (D.list [(D.int (qbin BinOp.add IntKind.u32 pn2 (qwrap IntKind.u32 sn0)))])) sn1))), (D.int (qint (qfld (qget (st21_7_a7 pd0 pd1 pn2 pn3 sn0 sn1 sd2 sd3) sn1) 1))), (D.int (qint (qfld (qget (st21_7_a7 pd0 pd1 pn2 pn3 sn0 sn1 sd2 sd3) sn1) 2))), (D.int (qint (qfld (qget (st21_7_a7 pd0 pd1 pn2 pn3 sn0 sn1 sd2 sd3) sn1) 3))), (D.int (qint (qfld (qget (st21_7_a7 pd0 pd1 pn2 pn3 sn0 sn1 sd2 sd3) sn1) 4))), (D.int (qint (qfld (qget (st21_7_a7 pd0 pd1 pn2 pn3 sn0 sn1 sd2 sd3) sn1) 5))), (D.int (qint (qfld (qget (st21_7_a7 pd0 pd1 pn2 pn3 sn0 sn1 sd2 sd3) sn1) 6))), (D.int (qint (qfld (qget (st21_7_a7 pd0 pd1 pn2 pn3 sn0 sn1 sd2 sd3) sn1) 7))), (D.int (qint (qfld (qget (st21_7_a7 pd0 pd1 pn2 pn3 sn0 sn1 sd2 sd3) sn1) 8)))])

noncomputable def st21_7_a8 (pd0 : D) (pd1 : D) (pn2 : Int) (pn3 : Int) (sn0 : Int) (sn1 : Int) (sd2 : D) (sd3 : D) : D := (qset (st21_7_a7 pd0 pd1 pn2 pn3 sn0 sn1 sd2 sd3) sn1 (st21_7_a3 pd0 pd1 pn2 pn3 sn0 sn1 sd2 sd3))

noncomputable def st21_7_a4 (pd0 : D) (pd1 : D) (pn2 : Int) (pn3 : Int) (sn0 : Int) (sn1 : Int) (sd2 : D) (sd3 : D) : D := (D.agg [(D.int (qint (qfld (qget (st21_7_a8 pd0 pd1 pn2 pn3 sn0 sn1 sd2 sd3) sn1) 0))), (D.int (qint (qfld (qget (st21_7_a8 pd0 pd1 pn2 pn3 sn0 sn1 sd2 sd3) sn1) 1))), (D.int (qint (qfld (qget (st21_7_a8 pd0 pd1 pn2 pn3 sn0 sn1 sd2 sd3) sn1) 2))), (D.int (qint (qfld (qget (st21_7_a8 pd0 pd1 pn2 pn3 sn0 sn1 sd2 sd3) sn1) 3))), (D.int (qint (qfld (qget (st21_7_a8 pd0 pd1 pn2 pn3 sn0 sn1 sd2 sd3) sn1) 4))), (D.int (qint (qfld (qget (st21_7_a8 pd0 pd1 pn2 pn3 sn0 sn1 sd2 sd3) sn1) 5))), (D.int (qint (qfld (qget (st21_7_a8 pd0 pd1 pn2 pn3 sn0 sn1 sd2 sd3) sn1) 6))), (D.int (qint (qfld (qget (st21_7_a8 pd0 pd1 pn2 pn3 sn0 sn1 sd2 sd3) sn1) 7))), (D.int (qint (qnth (Proofs.YtiojjmlccehpoaaGreat.q23 [(qget (st21_7_a8 pd0 pd1 pn2 pn3 sn0 sn1 sd2 sd3) sn1)]) 0)))])

noncomputable def st21_7_a9 (pd0 : D) (pd1 : D) (pn2 : Int) (pn3 : Int) (sn0 : Int) (sn1 : Int) (sd2 : D) (sd3 : D) : D := (qset (st21_7_a8 pd0 pd1 pn2 pn3 sn0 sn1 sd2 sd3) sn1 (st21_7_a4 pd0 pd1 pn2 pn3 sn0 sn1 sd2 sd3))

theorem st21_7_eq (pd0 : D) (pd1 : D) (pn2 : Int) (pn3 : Int) (sn0 : Int) (sn1 : Int) (sd2 : D) (sd3 : D) : st21_7  [pd0, pd1, (D.int pn2), (D.int pn3)] [(D.int sn0), (D.int sn1), sd2, sd3] =
    bif (qcmp BinOp.lss sn1 pn3) then
      bif (qcmp BinOp.leq 0 sn1) then
        bif (qcmp BinOp.lss sn1 (qlen sd3)) then
          bif (qinb sd3 sn1) then
            bif (qcmp BinOp.eql (qint (qfld (qget sd3 sn1) 2)) 20) then
              bif (qcmp BinOp.leq 0 sn1) then
                bif (qcmp BinOp.lss sn1 (qlen sd3)) then
                  bif (qinb sd3 sn1) then
                    bif (qmem (qlen (qapp sd2 (D.list [(D.int (qbin BinOp.add IntKind.u32 pn2 (qwrap IntKind.u32 sn0)))]))) 4) then
                      bif (qcmp BinOp.leq 0 sn1) then
                        bif (qcmp BinOp.lss sn1 (qlen (qapp sd2 (D.list [(D.int (qbin BinOp.add IntKind.u32 pn2 (qwrap IntKind.u32 sn0)))])))) then
                          bif (qinb (qapp sd2 (D.list [(D.int (qbin BinOp.add IntKind.u32 pn2 (qwrap IntKind.u32 sn0)))])) sn1) then
                            bif (qcmp BinOp.leq 0 sn1) then
                              bif (qcmp BinOp.lss sn1 (qlen sd3)) then
                                bif (qinb (st21_7_a7 pd0 pd1 pn2 pn3 sn0 sn1 sd2 sd3) sn1) then
                                  bif (qcmp BinOp.leq 0 sn1) then
                                    bif (qcmp BinOp.lss sn1 (qlen sd3)) then
                                      bif (qinb (st21_7_a8 pd0 pd1 pn2 pn3 sn0 sn1 sd2 sd3) sn1) then
                                        bif (qsome (Proofs.YtiojjmlccehpoaaGreat.q23 [(qget (st21_7_a8 pd0 pd1 pn2 pn3 sn0 sn1 sd2 sd3) sn1)])) then
                                          bif (qcmp BinOp.leq 0 sn1) then
                                            bif (qcmp BinOp.lss sn1 (qlen sd3)) then
                                              bif (qinb (st21_7_a8 pd0 pd1 pn2 pn3 sn0 sn1 sd2 sd3) sn1) then
                                                bif (qcmp BinOp.leq 0 sn1) then
                                                  bif (qcmp BinOp.lss sn1 (qlen sd3)) then
                                                    bif (qinb (st21_7_a9 pd0 pd1 pn2 pn3 sn0 sn1 sd2 sd3) sn1) then
                                                      bif (qcmp BinOp.eql (qlen sd3) (qlen (st21_7_a9 pd0 pd1 pn2 pn3 sn0 sn1 sd2 sd3))) then
                                                        some (Sum.inl [(D.int (qbin BinOp.add IntKind.i64 sn0 (qint (qfld (qget (st21_7_a9 pd0 pd1 pn2 pn3 sn0 sn1 sd2 sd3) sn1) 8)))), (D.int (qbin BinOp.add IntKind.i64 sn1 1)), (qapp sd2 (D.list [(D.int (qbin BinOp.add IntKind.u32 pn2 (qwrap IntKind.u32 sn0)))])), (st21_7_a9 pd0 pd1 pn2 pn3 sn0 sn1 sd2 sd3)])
                                                      else
                                                        none
                                                    else
                                                      none
                                                  else
                                                    none
                                                else
                                                  none
                                              else
                                                none
                                            else
                                              none
                                          else
                                            none
                                        else
                                          none
                                      else
                                        none
                                    else
                                      none
                                  else
                                    none
                                else
                                  none
                              else
                                none
                            else
                              none
                          else
                            none
                        else
                          none
                      else
                        none
                    else
                      none
                  else
                    none
                else
                  none
              else
                none
            else
              bif (qmem (qlen (qapp sd2 (D.list [(D.int (qbin BinOp.add IntKind.u32 pn2 (qwrap IntKind.u32 sn0)))]))) 4) then
                bif (qcmp BinOp.leq 0 sn1) then
                  bif (qcmp BinOp.lss sn1 (qlen (qapp sd2 (D.list [(D.int (qbin BinOp.add IntKind.u32 pn2 (qwrap IntKind.u32 sn0)))])))) then
                    bif (qinb (qapp sd2 (D.list [(D.int (qbin BinOp.add IntKind.u32 pn2 (qwrap IntKind.u32 sn0)))])) sn1) then
                      bif (qcmp BinOp.leq 0 sn1) then
                        bif (qcmp BinOp.lss sn1 (qlen sd3)) then
                          bif (qinb sd3 sn1) then
                            bif (qcmp BinOp.leq 0 sn1) then
                              bif (qcmp BinOp.lss sn1 (qlen sd3)) then
                                bif (qinb (st21_7_a5 pd0 pd1 pn2 pn3 sn0 sn1 sd2 sd3) sn1) then
                                  bif (qsome (Proofs.YtiojjmlccehpoaaGreat.q23 [(qget (st21_7_a5 pd0 pd1 pn2 pn3 sn0 sn1 sd2 sd3) sn1)])) then
                                    bif (qcmp BinOp.leq 0 sn1) then
                                      bif (qcmp BinOp.lss sn1 (qlen sd3)) then
                                        bif (qinb (st21_7_a5 pd0 pd1 pn2 pn3 sn0 sn1 sd2 sd3) sn1) then
                                          bif (qcmp BinOp.leq 0 sn1) then
                                            bif (qcmp BinOp.lss sn1 (qlen sd3)) then
                                              bif (qinb (st21_7_a6 pd0 pd1 pn2 pn3 sn0 sn1 sd2 sd3) sn1) then
                                                bif (qcmp BinOp.eql (qlen sd3) (qlen (st21_7_a6 pd0 pd1 pn2 pn3 sn0 sn1 sd2 sd3))) then
                                                  some (Sum.inl [(D.int (qbin BinOp.add IntKind.i64 sn0 (qint (qfld (qget (st21_7_a6 pd0 pd1 pn2 pn3 sn0 sn1 sd2 sd3) sn1) 8)))), (D.int (qbin BinOp.add IntKind.i64 sn1 1)), (qapp sd2 (D.list [(D.int (qbin BinOp.add IntKind.u32 pn2 (qwrap IntKind.u32 sn0)))])), (st21_7_a6 pd0 pd1 pn2 pn3 sn0 sn1 sd2 sd3)])
                                                else
                                                  none
                                              else
                                                none
                                            else
                                              none
                                          else
                                            none
                                        else
                                          none
                                      else
                                        none
                                    else
                                      none
                                  else
                                    none
                                else
                                  none
                              else
                                none
                            else
                              none
                          else
                            none
                        else
                          none
                      else
                        none
                    else
                      none
                  else
                    none
                else
                  none
              else
                none
          else
            none
        else
          none
      else
        none
    else
      some (Sum.inr [(D.int 0), (D.int sn0), sd2, sd3]) := by
  have h : st21_7  [pd0, pd1, (D.int pn2), (D.int pn3)] [(D.int sn0), (D.int sn1), sd2, sd3] =
    bif (qcmp BinOp.lss sn1 pn3) then
      bif (qcmp BinOp.leq 0 sn1) then
        bif (qcmp BinOp.lss sn1 (qlen sd3)) then
          bif (qinb sd3 sn1) then
            bif (qcmp BinOp.eql (qint (qfld (qget sd3 sn1) 2)) 20) then
              bif (qcmp BinOp.leq 0 sn1) then
                bif (qcmp BinOp.lss sn1 (qlen sd3)) then
                  bif (qinb sd3 sn1) then
                    bif (qcmp BinOp.eql (qlen sd2) (qlen sd2)) then
                      bif (qmem (qlen (qapp sd2 (D.list [(D.int (qbin BinOp.add IntKind.u32 pn2 (qwrap IntKind.u32 sn0)))]))) 4) then
                        bif (qcmp BinOp.leq 0 sn1) then
                          bif (qcmp BinOp.lss sn1 (qlen (qapp sd2 (D.list [(D.int (qbin BinOp.add IntKind.u32 pn2 (qwrap IntKind.u32 sn0)))])))) then
                            bif (qinb (qapp sd2 (D.list [(D.int (qbin BinOp.add IntKind.u32 pn2 (qwrap IntKind.u32 sn0)))])) sn1) then
                              bif (qcmp BinOp.leq 0 sn1) then
                                bif (qcmp BinOp.lss sn1 (qlen sd3)) then
                                  bif (qinb (st21_7_a7 pd0 pd1 pn2 pn3 sn0 sn1 sd2 sd3) sn1) then
                                    bif (qcmp BinOp.leq 0 sn1) then
                                      bif (qcmp BinOp.lss sn1 (qlen sd3)) then
                                        bif (qinb (st21_7_a8 pd0 pd1 pn2 pn3 sn0 sn1 sd2 sd3) sn1) then
                                          bif (qsome (Proofs.YtiojjmlccehpoaaGreat.q23 [(qget (st21_7_a8 pd0 pd1 pn2 pn3 sn0 sn1 sd2 sd3) sn1)])) then
                                            bif (qcmp BinOp.leq 0 sn1) then
                                              bif (qcmp BinOp.lss sn1 (qlen sd3)) then
                                                bif (qinb (st21_7_a8 pd0 pd1 pn2 pn3 sn0 sn1 sd2 sd3) sn1) then
                                                  bif (qcmp BinOp.leq 0 sn1) then
                                                    bif (qcmp BinOp.lss sn1 (qlen sd3)) then
                                                      bif (qinb (st21_7_a9 pd0 pd1 pn2 pn3 sn0 sn1 sd2 sd3) sn1) then
                                                        bif (qcmp BinOp.eql (qlen sd3) (qlen (st21_7_a9 pd0 pd1 pn2 pn3 sn0 sn1 sd2 sd3))) then
                                                          bif (qcmp BinOp.eql (qlen (qapp sd2 (D.list [(D.int (qbin BinOp.add IntKind.u32 pn2 (qwrap IntKind.u32 sn0)))]))) (qlen (qapp sd2 (D.list [(D.int (qbin BinOp.add IntKind.u32 pn2 (qwrap IntKind.u32 sn0)))])))) then
                                                            bif (qeqD pd0 pd0) then
                                                              bif (qeqD pd1 pd1) then
                                                                bif (qeqD (D.int pn2) (D.int pn2)) then
                                                                  bif (qeqD (D.int pn3) (D.int pn3)) then
                                                                    some (Sum.inl [(D.int (qbin BinOp.add IntKind.i64 sn0 (qint (qfld (qget (st21_7_a9 pd0 pd1 pn2 pn3 sn0 sn1 sd2 sd3) sn1) 8)))), (D.int (qbin BinOp.add IntKind.i64 sn1 1)), (qapp sd2 (D.list [(D.int (qbin BinOp.add IntKind.u32 pn2 (qwrap IntKind.u32 sn0)))])), (st21_7_a9 pd0 pd1 pn2 pn3 sn0 sn1 sd2 sd3)])
                                                                  else
                                                                    none
                                                                else
                                                                  none
                                                              else
                                                                none
                                                            else
                                                              none
                                                          else
                                                            none
                                                        else
                                                          none
                                                      else
                                                        none
                                                    else
                                                      none
                                                  else
                                                    none
                                                else
                                                  none
                                              else
                                                none
                                            else
                                              none
                                          else
                                            none
                                        else
                                          none
                                      else
                                        none
                                    else
                                      none
                                  else
                                    none
                                else
                                  none
                              else
                                none
                            else
                              none
                          else
                            none
                        else
                          none
                      else
                        none
                    else
                      none
                  else
                    none
                else
                  none
              else
                none
            else
              bif (qcmp BinOp.eql (qlen sd2) (qlen sd2)) then
                bif (qmem (qlen (qapp sd2 (D.list [(D.int (qbin BinOp.add IntKind.u32 pn2 (qwrap IntKind.u32 sn0)))]))) 4) then
                  bif (qcmp BinOp.leq 0 sn1) then
                    bif (qcmp BinOp.lss sn1 (qlen (qapp sd2 (D.list [(D.int (qbin BinOp.add IntKind.u32 pn2 (qwrap IntKind.u32 sn0)))])))) then
                      bif (qinb (qapp sd2 (D.list [(D.int (qbin BinOp.add IntKind.u32 pn2 (qwrap IntKind.u32 sn0)))])) sn1) then
                        bif (qcmp BinOp.leq 0 sn1) then
                          bif (qcmp BinOp.lss sn1 (qlen sd3)) then
                            bif (qinb sd3 sn1) then
                              bif (qcmp BinOp.leq 0 sn1) then
                                bif (qcmp BinOp.lss sn1 (qlen sd3)) then
                                  bif (qinb (st21_7_a5 pd0 pd1 pn2 pn3 sn0 sn1 sd2 sd3) sn1) then
                                    bif (qsome (Proofs.YtiojjmlccehpoaaGreat.q23 [(qget (st21_7_a5 pd0 pd1 pn2 pn3 sn0 sn1 sd2 sd3) sn1)])) then
                                      bif (qcmp BinOp.leq 0 sn1) then
                                        bif (qcmp BinOp.lss sn1 (qlen sd3)) then
                                          bif (qinb (st21_7_a5 pd0 pd1 pn2 pn3 sn0 sn1 sd2 sd3) sn1) then
                                            bif (qcmp BinOp.leq 0 sn1) then
                                              bif (qcmp BinOp.lss sn1 (qlen sd3)) then
                                                bif (qinb (st21_7_a6 pd0 pd1 pn2 pn3 sn0 sn1 sd2 sd3) sn1) then
                                                  bif (qcmp BinOp.eql (qlen sd3) (qlen (st21_7_a6 pd0 pd1 pn2 pn3 sn0 sn1 sd2 sd3))) then
                                                    bif (qcmp BinOp.eql (qlen (qapp sd2 (D.list [(D.int (qbin BinOp.add IntKind.u32 pn2 (qwrap IntKind.u32 sn0)))]))) (qlen (qapp sd2 (D.list [(D.int (qbin BinOp.add IntKind.u32 pn2 (qwrap IntKind.u32 sn0)))])))) then
                                                      bif (qeqD pd0 pd0) then
                                                        bif (qeqD pd1 pd1) then
                                                          bif (qeqD (D.int pn2) (D.int pn2)) then
                                                            bif (qeqD (D.int pn3) (D.int pn3)) then
                                                              some (Sum.inl [(D.int (qbin BinOp.add IntKind.i64 sn0 (qint (qfld (qget (st21_7_a6 pd0 pd1 pn2 pn3 sn0 sn1 sd2 sd3) sn1) 8)))), (D.int (qbin BinOp.add IntKind.i64 sn1 1)), (qapp sd2 (D.list [(D.int (qbin BinOp.add IntKind.u32 pn2 (qwrap IntKind.u32 sn0)))])), (st21_7_a6 pd0 pd1 pn2 pn3 sn0 sn1 sd2 sd3)])
                                                            else
                                                              none
                                                          else
                                                            none
                                                        else
                                                          none
                                                      else
                                                        none
                                                    else
                                                      none
                                                  else
                                                    none
                                                else
                                                  none
                                              else
                                                none
                                            else
                                              none
                                          else
                                            none
                                        else
                                          none
                                      else
                                        none
                                    else
                                      none
                                  else
                                    none
                                else
                                  none
                              else
                                none
                            else
                              none
                          else
                            none
                        else
                          none
                      else
                        none
                    else
                      none
                  else
                    none
                else
                  none
              else
                none
          else
            none
        else
          none
      else
        none
    else
      bif (qcmp BinOp.eql (qlen sd3) (qlen sd3)) then
        bif (qcmp BinOp.eql (qlen sd2) (qlen sd2)) then
          bif (qeqD pd0 pd0) then
            bif (qeqD pd1 pd1) then
              bif (qeqD (D.int pn2) (D.int pn2)) then
                bif (qeqD (D.int pn3) (D.int pn3)) then
                  some (Sum.inr [(D.int 0), (D.int sn0), sd2, sd3])
                else
                  none
              else
                none
            else
              none
          else
            none
        else
          none
      else
        none := by kernel_rfl
  rw [h]; simp only [qeqD_self, qeqI_self, qeq_len, show qcmp BinOp.eql 0 (qlen (D.list [])) = true from qeq_len [], show ∀ a, qcmp BinOp.eql 1 (qlen (D.list [a])) = true from fun a => qeq_len [a], show ∀ a b, qcmp BinOp.eql 2 (qlen (D.list [a, b])) = true from fun a b => qeq_len [a, b], cond_true]

noncomputable def l21_7 : List D → List D → Option (List D) := veil fun p s => loW (st21_7  p) s

theorem l21_7_eq : l21_7  = fun p s => loW (st21_7  p) s := veil_eq _

noncomputable def tbl21_7 : Tb := Tb.addL tb70 21 7 S21_7.n0 (mkLp S21_7 (l21_7 ))

theorem ok_tbl21_7 : TbOk env (tbl21_7 ) := addLoopQ ok_tb70 21 7 (by kernel_rfl) _ (l21_7_eq )

def S21_18 : LoopS := ⟨0, [⟨false, (.rows 46)⟩, ⟨false, .any⟩, ⟨false, .any⟩, ⟨false, .any⟩, ⟨false, .any⟩, ⟨false, .any⟩, ⟨false, (.lit (.slice none 0 0))⟩, ⟨false, (.lit (.int .i64 0))⟩, ⟨false, (.osl 0 46)⟩, ⟨false, (.osl 1 22)⟩, ⟨false, (.int .i64)⟩, ⟨false, .any⟩, ⟨false, .any⟩, ⟨false, .any⟩, ⟨false, .any⟩, ⟨false, .any⟩, ⟨false, .any⟩, ⟨false, .any⟩, ⟨false, .any⟩, ⟨false, .any⟩, ⟨false, .any⟩, ⟨false, .any⟩, ⟨false, .any⟩, ⟨false, .any⟩, ⟨false, .any⟩, ⟨false, .any⟩, ⟨false, .any⟩, ⟨false, .any⟩, ⟨false, .any⟩, ⟨false, .any⟩, ⟨false, .any⟩, ⟨false, .any⟩, ⟨false, .any⟩, ⟨false, .any⟩, ⟨false, .any⟩, ⟨false, .any⟩, ⟨false, .any⟩, ⟨false, .any⟩, ⟨false, .any⟩, ⟨false, .any⟩, ⟨false, .any⟩, ⟨false, .any⟩, ⟨false, .any⟩, ⟨false, .any⟩, ⟨false, .any⟩, ⟨false, .any⟩, ⟨false, .any⟩, ⟨false, .any⟩, ⟨false, .any⟩, ⟨false, .any⟩, ⟨false, .any⟩, ⟨false, .any⟩, ⟨false, .any⟩, ⟨false, .any⟩, ⟨false, .any⟩, ⟨false, .any⟩, ⟨false, .any⟩, ⟨false, .any⟩, ⟨false, .any⟩, ⟨false, .any⟩, ⟨false, .any⟩, ⟨false, .any⟩, ⟨false, .any⟩, ⟨false, .any⟩, ⟨false, .any⟩, ⟨false, .any⟩, ⟨false, .any⟩, ⟨false, .any⟩, ⟨false, .any⟩, ⟨false, .any⟩, ⟨false, .any⟩, ⟨false, .any⟩, ⟨false, .any⟩, ⟨false, .any⟩, ⟨false, .any⟩, ⟨false, .any⟩, ⟨false, .any⟩, ⟨false, .any⟩, ⟨false, .any⟩, ⟨false, .any⟩, ⟨false, (.rows 3)⟩, ⟨false, (.int .i64)⟩, ⟨true, (.int .i64)⟩, ⟨false, .any⟩, ⟨false, .any⟩, ⟨false, .any⟩, ⟨false, .any⟩, ⟨false, .any⟩, ⟨false, .any⟩, ⟨false, .any⟩, ⟨false, .any⟩, ⟨false, .any⟩, ⟨false, .any⟩, ⟨false, .any⟩, ⟨false, .any⟩, ⟨false, .any⟩, ⟨false, .any⟩, ⟨false, .any⟩, ⟨false, .any⟩, ⟨false, .any⟩, ⟨false, .any⟩, ⟨false, .any⟩, ⟨false, .any⟩, ⟨false, .any⟩, ⟨false, .any⟩, ⟨false, .any⟩, ⟨false, .any⟩, ⟨false, .any⟩, ⟨false, .any⟩, ⟨false, .any⟩, ⟨false, .any⟩, ⟨false, .any⟩, ⟨false, .any⟩, ⟨false, .any⟩, ⟨false, .any⟩, ⟨false, .any⟩, ⟨false, .any⟩, ⟨false, .any⟩, ⟨false, .any⟩, ⟨false, .any⟩, ⟨false, .any⟩, ⟨false, .any⟩, ⟨false, .any⟩, ⟨false, .any⟩, ⟨false, .any⟩, ⟨false, .any⟩, ⟨false, .any⟩, ⟨false, .any⟩, ⟨false, .any⟩, ⟨false, .any⟩, ⟨false, .any⟩, ⟨false, .any⟩, ⟨false, .any⟩, ⟨false, .any⟩, ⟨false, .any⟩, ⟨false, .any⟩, ⟨false, .any⟩], [(.lst false 22), (.lst true 46)], [⟨0, 2, [⟨false, (.rows 46)⟩, ⟨true, .any⟩, ⟨true, .any⟩, ⟨true, .any⟩, ⟨true, .any⟩, ⟨true, .any⟩, ⟨true, (.lit (.slice none 0 0))⟩, ⟨true, (.lit (.int .i64 0))⟩, ⟨true, (.osl 0 46)⟩, ⟨true, .any⟩, ⟨false, (.int .i64)⟩, ⟨true, .any⟩, ⟨true, .any⟩, ⟨true, .any⟩, ⟨true, .any⟩, ⟨true, .any⟩, ⟨true, .any⟩, ⟨true, .any⟩, ⟨true, .any⟩, ⟨true, .any⟩, ⟨true, .any⟩, ⟨true, .any⟩, ⟨true, .any⟩, ⟨true, .any⟩, ⟨true, .any⟩, ⟨true, .any⟩, ⟨true, .any⟩, ⟨true, .any⟩, ⟨true, .any⟩, ⟨true, .any⟩, ⟨true, .any⟩, ⟨true, .any⟩, ⟨true, .any⟩, ⟨true, .any⟩, ⟨true, .any⟩, ⟨true, .any⟩, ⟨true, .any⟩, ⟨true, .any⟩, ⟨true, .any⟩, ⟨true, .any⟩, ⟨true, .any⟩, ⟨true, .any⟩, ⟨true, .any⟩, ⟨true, .any⟩, ⟨true, .any⟩, ⟨true, .any⟩, ⟨true, .any⟩, ⟨true, .any⟩, ⟨true, .any⟩, ⟨true, .any⟩, ⟨true, .any⟩, ⟨true, .any⟩, ⟨true, .any⟩, ⟨true, .any⟩, ⟨true, .any⟩, ⟨true, .any⟩, ⟨true, .any⟩, ⟨true, .any⟩, ⟨true, .any⟩, ⟨true, .any⟩, ⟨true, .any⟩, ⟨true, .any⟩, ⟨true, .any⟩, ⟨true, .any⟩, ⟨true, .any⟩, ⟨true, .any⟩, ⟨true, .any⟩, ⟨true, .any⟩, ⟨true, .any⟩, ⟨true, .any⟩, ⟨true, .any⟩, ⟨true, .any⟩, ⟨true, .any⟩, ⟨true, .any⟩, ⟨true, .any⟩, ⟨true, .any⟩, ⟨true, .any⟩, ⟨true, .any⟩, ⟨true, .any⟩, ⟨true, .any⟩, ⟨false, (.rows 3)⟩, ⟨false, (.int .i64)⟩, ⟨true, .any⟩, ⟨true, .any⟩, ⟨true, .any⟩, ⟨true, .any⟩, ⟨true, .any⟩, ⟨true, .any⟩, ⟨true, .any⟩, ⟨true, .any⟩, ⟨true, .any⟩, ⟨true, .any⟩, ⟨true, .any⟩, ⟨true, .any⟩, ⟨true, .any⟩, ⟨true, .any⟩, ⟨true, .any⟩, ⟨true, .any⟩, ⟨true, .any⟩, ⟨true, .any⟩, ⟨true, .any⟩, ⟨true, .any⟩, ⟨true, .any⟩, ⟨true, .any⟩, ⟨true, .any⟩, ⟨true, .any⟩, ⟨true, .any⟩, ⟨true, .any⟩, ⟨true, .any⟩, ⟨true, .any⟩, ⟨true, .any⟩, ⟨true, .any⟩, ⟨true, .any⟩, ⟨true, .any⟩, ⟨true, .any⟩, ⟨true, .any⟩, ⟨true, .any⟩, ⟨true, .any⟩, ⟨true, .any⟩, ⟨true, .any⟩, ⟨true, .any⟩, ⟨true, .any⟩, ⟨true, .any⟩, ⟨true, .any⟩, ⟨true, .any⟩, ⟨true, .any⟩, ⟨true, .any⟩, ⟨true, .any⟩, ⟨true, .any⟩, ⟨true, .any⟩, ⟨true, .any⟩, ⟨true, .any⟩, ⟨true, .any⟩, ⟨true, .any⟩, ⟨true, .any⟩, ⟨true, .any⟩, ⟨true, .any⟩], [(.lst false 22), (.lst true 46)]⟩, ⟨1, 0, [⟨false, (.rows 46)⟩, ⟨true, .any⟩, ⟨true, .any⟩, ⟨true, .any⟩, ⟨true, .any⟩, ⟨true, .any⟩, ⟨true, (.lit (.slice none 0 0))⟩, ⟨true, (.lit (.int .i64 2))⟩, ⟨true, .any⟩, ⟨true, .any⟩, ⟨false, (.int .i64)⟩, ⟨true, .any⟩, ⟨true, .any⟩, ⟨true, .any⟩, ⟨true, .any⟩, ⟨true, .any⟩, ⟨true, .any⟩, ⟨true, .any⟩, ⟨true, .any⟩, ⟨true, .any⟩, ⟨true, .any⟩, ⟨true, .any⟩, ⟨true, .any⟩, ⟨true, .any⟩, ⟨true, .any⟩, ⟨true, .any⟩, ⟨true, .any⟩, ⟨true, .any⟩, ⟨true, .any⟩, ⟨true, .any⟩, ⟨true, .any⟩, ⟨true, .any⟩, ⟨true, .any⟩, ⟨true, .any⟩, ⟨true, .any⟩, ⟨true, .any⟩, ⟨true, .any⟩, ⟨true, .any⟩, ⟨true, .any⟩, ⟨true, .any⟩, ⟨true, .any⟩, ⟨true, .any⟩, ⟨true, .any⟩, ⟨true, .any⟩, ⟨true, .any⟩, ⟨true, .any⟩, ⟨true, .any⟩, ⟨true, .any⟩, ⟨true, .any⟩, ⟨true, .any⟩, ⟨true, .any⟩, ⟨true, .any⟩, ⟨true, .any⟩, ⟨true, .any⟩, ⟨true, .any⟩, ⟨true, .any⟩, ⟨true, .any⟩, ⟨true, .any⟩, ⟨true, .any⟩, ⟨true, .any⟩, ⟨true, .any⟩, ⟨true, .any⟩, ⟨true, .any⟩, ⟨true, .any⟩, ⟨true, .any⟩, ⟨true, .any⟩, ⟨true, .any⟩, ⟨true, .any⟩, ⟨true, .any⟩, ⟨true, .any⟩, ⟨true, .any⟩, ⟨true, .any⟩, ⟨true, .any⟩, ⟨true, .any⟩, ⟨true, .any⟩, ⟨true, .any⟩, ⟨true, .any⟩, ⟨true, .any⟩, ⟨true, .any⟩, ⟨true, .any⟩, ⟨false, (.rows 3)⟩, ⟨false, (.int .i64)⟩, ⟨true, .any⟩, ⟨true, .any⟩, ⟨true, .any⟩, ⟨true, .any⟩, ⟨true, .any⟩, ⟨true, .any⟩, ⟨true, .any⟩, ⟨true, .any⟩, ⟨true, .any⟩, ⟨true, .any⟩, ⟨true, .any⟩, ⟨true, .any⟩, ⟨true, .any⟩, ⟨true, .any⟩, ⟨true, .any⟩, ⟨true, .any⟩, ⟨true, .any⟩, ⟨true, .any⟩, ⟨true, .any⟩, ⟨true, .any⟩, ⟨true, .any⟩, ⟨true, .any⟩, ⟨true, .any⟩, ⟨true, .any⟩, ⟨true, .any⟩, ⟨true, .any⟩, ⟨true, .any⟩, ⟨true, .any⟩, ⟨true, .any⟩, ⟨true, .any⟩, ⟨true, .any⟩, ⟨true, .any⟩, ⟨true, .any⟩, ⟨true, .any⟩, ⟨true, .any⟩, ⟨true, .any⟩, ⟨true, .any⟩, ⟨true, .any⟩, ⟨true, .any⟩, ⟨true, .any⟩, ⟨true, .any⟩, ⟨true, .any⟩, ⟨true, .any⟩, ⟨true, .any⟩, ⟨true, .any⟩, ⟨true, .any⟩, ⟨true, .any⟩, ⟨true, .any⟩, ⟨true, .any⟩, ⟨true, .any⟩, ⟨true, .any⟩, ⟨true, .any⟩, ⟨true, .any⟩, ⟨true, .any⟩, ⟨true, .any⟩], [(.lst false 22), .skip]⟩]⟩

noncomputable def st21_18 (p s : List D) : Option (Sum (List D) (List D)) := stepQX env tbl21_7 60 6 21 (loopC 21 18) S21_18 p s

theorem st21_18_eq (pd0 : D) (pn1 : Int) (pd2 : D) (pn3 : Int) (pd4 : D) (sn0 : Int) (sd1 : D) : st21_18  [pd0, (D.int pn1), pd2, (D.int pn3), pd4] [(D.int sn0), sd1] =
    bif (qcmp BinOp.lss sn0 pn3) then
      bif (qinb pd2 sn0) then
        bif (qcmp BinOp.leq 0 sn0) then
          bif (qcmp BinOp.lss sn0 (qlen sd1)) then
            bif (qinb sd1 sn0) then
              bif (qiteB (qcmp BinOp.eql (qint (qfld (qget sd1 sn0) 2)) 20) Bool.true (qand (qcmp BinOp.leq 0 sn0) (qand (qcmp BinOp.lss sn0 (qlen sd1)) (qinb sd1 sn0)))) then
                bif (qiteB (qiteB (qcmp BinOp.lss (qint (qget pd2 sn0)) (-1)) Bool.true (qcmp BinOp.gtr (qint (qget pd2 sn0)) (qlen pd0))) Bool.true (qiteB (qcmp BinOp.neq (qint (qget pd2 sn0)) (-1)) (qnot (qiteB (qcmp BinOp.eql (qint (qfld (qget sd1 sn0) 2)) 20) Bool.true (qcmp BinOp.eql (qint (qfld (qget sd1 sn0) 2)) 23))) Bool.false)) then
                  some (Sum.inr [(D.int 1)])
                else
                  bif (qcmp BinOp.geq (qint (qget pd2 sn0)) 0) then
                    bif (qcmp BinOp.leq 0 (qint (qget pd2 sn0))) then
                      bif (qcmp BinOp.lss (qint (qget pd2 sn0)) (qlen pd4)) then
                        bif (qinb pd4 (qint (qget pd2 sn0))) then
                          bif (qcmp BinOp.leq 0 sn0) then
                            bif (qcmp BinOp.lss sn0 (qlen sd1)) then
                              bif (qinb sd1 sn0) then
                                bif (qcmp BinOp.leq 0 sn0) then
                                  bif (qcmp BinOp.lss sn0 (qlen sd1)) then
                                    bif (qinb (qset sd1 sn0 (D.agg [(D.int (qint (qfld (qget sd1 sn0) 0))), (D.int (qint (qget pd4 (qint (qget pd2 sn0))))), (D.int (qint (qfld (qget sd1 sn0) 2))), (D.int (qint (qfld (qget sd1 sn0) 3))), (D.int (qint (qfld (qget sd1 sn0) 4))), (D.int (qint (qfld (qget sd1 sn0) 5))), (D.int (qint (qfld (qget sd1 sn0) 6))), (D.int (qint (qfld (qget sd1 sn0) 7))), (D.int (qint (qfld (qget sd1 sn0) 8)))])) sn0) then
                                      bif (qsome (Proofs.YtiojjmlccehpoaaGreat.q20 [(qget (qset sd1 sn0 (D.agg [(D.int (qint (qfld (qget sd1 sn0) 0))), (D.int (qint (qget pd4 (qint (qget pd2 sn0))))), (D.int (qint (qfld (qget sd1 sn0) 2))), (D.int (qint (qfld (qget sd1 sn0) 3))), (D.int (qint (qfld (qget sd1 sn0) 4))), (D.int (qint (qfld (qget sd1 sn0) 5))), (D.int (qint (qfld (qget sd1 sn0) 6))), (D.int (qint (qfld (qget sd1 sn0) 7))), (D.int (qint (qfld (qget sd1 sn0) 8)))])) sn0)])) then
                                        bif (qnot (qbool (qnth (Proofs.YtiojjmlccehpoaaGreat.q20 [(qget (qset sd1 sn0 (D.agg [(D.int (qint (qfld (qget sd1 sn0) 0))), (D.int (qint (qget pd4 (qint (qget pd2 sn0))))), (D.int (qint (qfld (qget sd1 sn0) 2))), (D.int (qint (qfld (qget sd1 sn0) 3))), (D.int (qint (qfld (qget sd1 sn0) 4))), (D.int (qint (qfld (qget sd1 sn0) 5))), (D.int (qint (qfld (qget sd1 sn0) 6))), (D.int (qint (qfld (qget sd1 sn0) 7))), (D.int (qint (qfld (qget sd1 sn0) 8)))])) sn0)]) 0))) then
                                          some (Sum.inr [(D.int 1)])
                                        else
                                          bif (qcmp BinOp.eql (qlen sd1) (qlen (qset sd1 sn0 (D.agg [(D.int (qint (qfld (qget sd1 sn0) 0))), (D.int (qint (qget pd4 (qint (qget pd2 sn0))))), (D.int (qint (qfld (qget sd1 sn0) 2))), (D.int (qint (qfld (qget sd1 sn0) 3))), (D.int (qint (qfld (qget sd1 sn0) 4))), (D.int (qint (qfld (qget sd1 sn0) 5))), (D.int (qint (qfld (qget sd1 sn0) 6))), (D.int (qint (qfld (qget sd1 sn0) 7))), (D.int (qint (qfld (qget sd1 sn0) 8)))])))) then
                                            some (Sum.inl [(D.int (qbin BinOp.add IntKind.i64 sn0 1)), (qset sd1 sn0 (D.agg [(D.int (qint (qfld (qget sd1 sn0) 0))), (D.int (qint (qget pd4 (qint (qget pd2 sn0))))), (D.int (qint (qfld (qget sd1 sn0) 2))), (D.int (qint (qfld (qget sd1 sn0) 3))), (D.int (qint (qfld (qget sd1 sn0) 4))), (D.int (qint (qfld (qget sd1 sn0) 5))), (D.int (qint (qfld (qget sd1 sn0) 6))), (D.int (qint (qfld (qget sd1 sn0) 7))), (D.int (qint (qfld (qget sd1 sn0) 8)))]))])
                                          else
                                            none
                                      else
                                        none
                                    else
                                      none
                                  else
                                    none
                                else
                                  none
                              else
                                none
                            else
                              none
                          else
                            none
                        else
                          none
                      else
                        none
                    else
                      none
                  else
                    bif (qcmp BinOp.leq 0 sn0) then
                      bif (qcmp BinOp.lss sn0 (qlen sd1)) then
                        bif (qinb sd1 sn0) then
                          bif (qsome (Proofs.YtiojjmlccehpoaaGreat.q20 [(qget sd1 sn0)])) then
                            bif (qnot (qbool (qnth (Proofs.YtiojjmlccehpoaaGreat.q20 [(qget sd1 sn0)]) 0))) then
                              some (Sum.inr [(D.int 1)])
                            else
                              some (Sum.inl [(D.int (qbin BinOp.add IntKind.i64 sn0 1)), sd1])
                          else
                            none
                        else
                          none
                      else
                        none
                    else
                      none
              else
                none
            else
              none
          else
            none
        else
          none
      else
        none
    else
      some (Sum.inr [(D.int 0), sd1]) := by
  have h : st21_18  [pd0, (D.int pn1), pd2, (D.int pn3), pd4] [(D.int sn0), sd1] =
    bif (qcmp BinOp.lss sn0 pn3) then
      bif (qinb pd2 sn0) then
        bif (qcmp BinOp.leq 0 sn0) then
          bif (qcmp BinOp.lss sn0 (qlen sd1)) then
            bif (qinb sd1 sn0) then
              bif (qiteB (qcmp BinOp.eql (qint (qfld (qget sd1 sn0) 2)) 20) Bool.true (qand (qcmp BinOp.leq 0 sn0) (qand (qcmp BinOp.lss sn0 (qlen sd1)) (qinb sd1 sn0)))) then
                bif (qiteB (qiteB (qcmp BinOp.lss (qint (qget pd2 sn0)) (-1)) Bool.true (qcmp BinOp.gtr (qint (qget pd2 sn0)) (qlen pd0))) Bool.true (qiteB (qcmp BinOp.neq (qint (qget pd2 sn0)) (-1)) (qnot (qiteB (qcmp BinOp.eql (qint (qfld (qget sd1 sn0) 2)) 20) Bool.true (qcmp BinOp.eql (qint (qfld (qget sd1 sn0) 2)) 23))) Bool.false)) then
                  bif (qeqD pd0 pd0) then
                    bif (qeqD (D.int pn1) (D.int pn1)) then
                      bif (qeqD pd2 pd2) then
                        bif (qeqD (D.int pn3) (D.int pn3)) then
                          bif (qeqD pd4 pd4) then
                            some (Sum.inr [(D.int 1)])
                          else
                            none
                        else
                          none
                      else
                        none
                    else
                      none
                  else
                    none
                else
                  bif (qcmp BinOp.geq (qint (qget pd2 sn0)) 0) then
                    bif (qcmp BinOp.leq 0 (qint (qget pd2 sn0))) then
                      bif (qcmp BinOp.lss (qint (qget pd2 sn0)) (qlen pd4)) then
                        bif (qinb pd4 (qint (qget pd2 sn0))) then
                          bif (qcmp BinOp.leq 0 sn0) then
                            bif (qcmp BinOp.lss sn0 (qlen sd1)) then
                              bif (qinb sd1 sn0) then
                                bif (qcmp BinOp.leq 0 sn0) then
                                  bif (qcmp BinOp.lss sn0 (qlen sd1)) then
                                    bif (qinb (qset sd1 sn0 (D.agg [(D.int (qint (qfld (qget sd1 sn0) 0))), (D.int (qint (qget pd4 (qint (qget pd2 sn0))))), (D.int (qint (qfld (qget sd1 sn0) 2))), (D.int (qint (qfld (qget sd1 sn0) 3))), (D.int (qint (qfld (qget sd1 sn0) 4))), (D.int (qint (qfld (qget sd1 sn0) 5))), (D.int (qint (qfld (qget sd1 sn0) 6))), (D.int (qint (qfld (qget sd1 sn0) 7))), (D.int (qint (qfld (qget sd1 sn0) 8)))])) sn0) then
                                      bif (qsome (Proofs.YtiojjmlccehpoaaGreat.q20 [(qget (qset sd1 sn0 (D.agg [(D.int (qint (qfld (qget sd1 sn0) 0))), (D.int (qint (qget pd4 (qint (qget pd2 sn0))))), (D.int (qint (qfld (qget sd1 sn0) 2))), (D.int (qint (qfld (qget sd1 sn0) 3))), (D.int (qint (qfld (qget sd1 sn0) 4))), (D.int (qint (qfld (qget sd1 sn0) 5))), (D.int (qint (qfld (qget sd1 sn0) 6))), (D.int (qint (qfld (qget sd1 sn0) 7))), (D.int (qint (qfld (qget sd1 sn0) 8)))])) sn0)])) then
                                        bif (qnot (qbool (qnth (Proofs.YtiojjmlccehpoaaGreat.q20 [(qget (qset sd1 sn0 (D.agg [(D.int (qint (qfld (qget sd1 sn0) 0))), (D.int (qint (qget pd4 (qint (qget pd2 sn0))))), (D.int (qint (qfld (qget sd1 sn0) 2))), (D.int (qint (qfld (qget sd1 sn0) 3))), (D.int (qint (qfld (qget sd1 sn0) 4))), (D.int (qint (qfld (qget sd1 sn0) 5))), (D.int (qint (qfld (qget sd1 sn0) 6))), (D.int (qint (qfld (qget sd1 sn0) 7))), (D.int (qint (qfld (qget sd1 sn0) 8)))])) sn0)]) 0))) then
                                          bif (qeqD pd0 pd0) then
                                            bif (qeqD (D.int pn1) (D.int pn1)) then
                                              bif (qeqD pd2 pd2) then
                                                bif (qeqD (D.int pn3) (D.int pn3)) then
                                                  bif (qeqD pd4 pd4) then
                                                    some (Sum.inr [(D.int 1)])
                                                  else
                                                    none
                                                else
                                                  none
                                              else
                                                none
                                            else
                                              none
                                          else
                                            none
                                        else
                                          bif (qcmp BinOp.eql (qlen sd1) (qlen (qset sd1 sn0 (D.agg [(D.int (qint (qfld (qget sd1 sn0) 0))), (D.int (qint (qget pd4 (qint (qget pd2 sn0))))), (D.int (qint (qfld (qget sd1 sn0) 2))), (D.int (qint (qfld (qget sd1 sn0) 3))), (D.int (qint (qfld (qget sd1 sn0) 4))), (D.int (qint (qfld (qget sd1 sn0) 5))), (D.int (qint (qfld (qget sd1 sn0) 6))), (D.int (qint (qfld (qget sd1 sn0) 7))), (D.int (qint (qfld (qget sd1 sn0) 8)))])))) then
                                            bif (qcmp BinOp.eql (qlen pd4) (qlen pd4)) then
                                              bif (qeqD pd0 pd0) then
                                                bif (qeqD (D.int pn1) (D.int pn1)) then
                                                  bif (qeqD pd2 pd2) then
                                                    bif (qeqD (D.int pn3) (D.int pn3)) then
                                                      bif (qeqD pd4 pd4) then
                                                        some (Sum.inl [(D.int (qbin BinOp.add IntKind.i64 sn0 1)), (qset sd1 sn0 (D.agg [(D.int (qint (qfld (qget sd1 sn0) 0))), (D.int (qint (qget pd4 (qint (qget pd2 sn0))))), (D.int (qint (qfld (qget sd1 sn0) 2))), (D.int (qint (qfld (qget sd1 sn0) 3))), (D.int (qint (qfld (qget sd1 sn0) 4))), (D.int (qint (qfld (qget sd1 sn0) 5))), (D.int (qint (qfld (qget sd1 sn0) 6))), (D.int (qint (qfld (qget sd1 sn0) 7))), (D.int (qint (qfld (qget sd1 sn0) 8)))]))])
                                                      else
                                                        none
                                                    else
                                                      none
                                                  else
                                                    none
                                                else
                                                  none
                                              else
                                                none
                                            else
                                              none
                                          else
                                            none
                                      else
                                        none
                                    else
                                      none
                                  else
                                    none
                                else
                                  none
                              else
                                none
                            else
                              none
                          else
                            none
                        else
                          none
                      else
                        none
                    else
                      none
                  else
                    bif (qcmp BinOp.leq 0 sn0) then
                      bif (qcmp BinOp.lss sn0 (qlen sd1)) then
                        bif (qinb sd1 sn0) then
                          bif (qsome (Proofs.YtiojjmlccehpoaaGreat.q20 [(qget sd1 sn0)])) then
                            bif (qnot (qbool (qnth (Proofs.YtiojjmlccehpoaaGreat.q20 [(qget sd1 sn0)]) 0))) then
                              bif (qeqD pd0 pd0) then
                                bif (qeqD (D.int pn1) (D.int pn1)) then
                                  bif (qeqD pd2 pd2) then
                                    bif (qeqD (D.int pn3) (D.int pn3)) then
                                      bif (qeqD pd4 pd4) then
                                        some (Sum.inr [(D.int 1)])
                                      else
                                        none
                                    else
                                      none
                                  else
                                    none
                                else
                                  none
                              else
                                none
                            else
                              bif (qcmp BinOp.eql (qlen sd1) (qlen sd1)) then
                                bif (qcmp BinOp.eql (qlen pd4) (qlen pd4)) then
                                  bif (qeqD pd0 pd0) then
                                    bif (qeqD (D.int pn1) (D.int pn1)) then
                                      bif (qeqD pd2 pd2) then
                                        bif (qeqD (D.int pn3) (D.int pn3)) then
                                          bif (qeqD pd4 pd4) then
                                            some (Sum.inl [(D.int (qbin BinOp.add IntKind.i64 sn0 1)), sd1])
                                          else
                                            none
                                        else
                                          none
                                      else
                                        none
                                    else
                                      none
                                  else
                                    none
                                else
                                  none
                              else
                                none
                          else
                            none
                        else
                          none
                      else
                        none
                    else
                      none
              else
                none
            else
              none
          else
            none
        else
          none
      else
        none
    else
      bif (qcmp BinOp.eql (qlen sd1) (qlen sd1)) then
        bif (qeqD pd0 pd0) then
          bif (qeqD (D.int pn1) (D.int pn1)) then
            bif (qeqD pd2 pd2) then
              bif (qeqD (D.int pn3) (D.int pn3)) then
                bif (qeqD pd4 pd4) then
                  some (Sum.inr [(D.int 0), sd1])
                else
                  none
              else
                none
            else
              none
          else
            none
        else
          none
      else
        none := by kernel_rfl
  rw [h]; simp only [qeqD_self, qeqI_self, qeq_len, show qcmp BinOp.eql 0 (qlen (D.list [])) = true from qeq_len [], show ∀ a, qcmp BinOp.eql 1 (qlen (D.list [a])) = true from fun a => qeq_len [a], show ∀ a b, qcmp BinOp.eql 2 (qlen (D.list [a, b])) = true from fun a b => qeq_len [a, b], cond_true]

noncomputable def l21_18 : List D → List D → Option (List D) := veil fun p s => loW (st21_18  p) s

theorem l21_18_eq : l21_18  = fun p s => loW (st21_18  p) s := veil_eq _

noncomputable def tbl21_18 : Tb := Tb.addL tbl21_7 21 18 S21_18.n0 (mkLp S21_18 (l21_18 ))

theorem ok_tbl21_18 : TbOk env (tbl21_18 ) := addLoopQ ok_tbl21_7 21 18 (by kernel_rfl) _ (l21_18_eq )

def S21 : FunS := ⟨[⟨true, (.rows 46)⟩, ⟨true, (.rows 3)⟩, ⟨true, (.int .u32)⟩], [], [⟨true, (.tup [(.rows 46), (.int .i64)])⟩], []⟩

noncomputable def F21 : List D → Option (List D) := liftX env tbl21_18 60 6 21 S21

theorem F21_eq  (sd0 : D) (sd1 : D) (sn2 : Int) : F21  [sd0, sd1, (D.int sn2)] =
    bif (qcmp BinOp.neq (qlen sd0) (qlen sd1)) then
      some [(D.list []), (D.int 2)]
    else
      bif (qsome (Proofs.YtiojjmlccehpoaaGreat.q70 [sd0])) then
        bif (qcmp BinOp.leq 0 0) then
          bif (qcmp BinOp.leq 0 (qbin BinOp.add IntKind.i64 (qlen sd0) 1)) then
            bif (qmem (qbin BinOp.add IntKind.i64 (qlen sd0) 1) 4) then
              bif (qcmp BinOp.eql 0 (qlen (qrep 0 (D.int 0)))) then
                bif (qsome (Proofs.YtiojjmlccehpoaaGreat.l21_7 [sd0, sd1, (D.int sn2), (D.int (qlen (qnth (Proofs.YtiojjmlccehpoaaGreat.q70 [sd0]) 0)))] [(D.int 0), (D.int 0), (qrep 0 (D.int 0)), (qnth (Proofs.YtiojjmlccehpoaaGreat.q70 [sd0]) 0)])) then
                  bif (qmem (qlen (qapp (qnth (Proofs.YtiojjmlccehpoaaGreat.l21_7 [sd0, sd1, (D.int sn2), (D.int (qlen (qnth (Proofs.YtiojjmlccehpoaaGreat.q70 [sd0]) 0)))] [(D.int 0), (D.int 0), (qrep 0 (D.int 0)), (qnth (Proofs.YtiojjmlccehpoaaGreat.q70 [sd0]) 0)]) 2) (D.list [(D.int (qbin BinOp.add IntKind.u32 sn2 (qwrap IntKind.u32 (qint (qnth (Proofs.YtiojjmlccehpoaaGreat.l21_7 [sd0, sd1, (D.int sn2), (D.int (qlen (qnth (Proofs.YtiojjmlccehpoaaGreat.q70 [sd0]) 0)))] [(D.int 0), (D.int 0), (qrep 0 (D.int 0)), (qnth (Proofs.YtiojjmlccehpoaaGreat.q70 [sd0]) 0)]) 1)))))]))) 4) then
                    bif (qsome (Proofs.YtiojjmlccehpoaaGreat.l21_18 [sd0, (D.int (qint (qnth (Proofs.YtiojjmlccehpoaaGreat.l21_7 [sd0, sd1, (D.int sn2), (D.int (qlen (qnth (Proofs.YtiojjmlccehpoaaGreat.q70 [sd0]) 0)))] [(D.int 0), (D.int 0), (qrep 0 (D.int 0)), (qnth (Proofs.YtiojjmlccehpoaaGreat.q70 [sd0]) 0)]) 1))), sd1, (D.int (qlen sd1)), (qapp (qnth (Proofs.YtiojjmlccehpoaaGreat.l21_7 [sd0, sd1, (D.int sn2), (D.int (qlen (qnth (Proofs.YtiojjmlccehpoaaGreat.q70 [sd0]) 0)))] [(D.int 0), (D.int 0), (qrep 0 (D.int 0)), (qnth (Proofs.YtiojjmlccehpoaaGreat.q70 [sd0]) 0)]) 2) (D.list [(D.int (qbin BinOp.add IntKind.u32 sn2 (qwrap IntKind.u32 (qint (qnth (Proofs.YtiojjmlccehpoaaGreat.l21_7 [sd0, sd1, (D.int sn2), (D.int (qlen (qnth (Proofs.YtiojjmlccehpoaaGreat.q70 [sd0]) 0)))] [(D.int 0), (D.int 0), (qrep 0 (D.int 0)), (qnth (Proofs.YtiojjmlccehpoaaGreat.q70 [sd0]) 0)]) 1)))))]))] [(D.int 0), (qnth (Proofs.YtiojjmlccehpoaaGreat.l21_7 [sd0, sd1, (D.int sn2), (D.int (qlen (qnth (Proofs.YtiojjmlccehpoaaGreat.q70 [sd0]) 0)))] [(D.int 0), (D.int 0), (qrep 0 (D.int 0)), (qnth (Proofs.YtiojjmlccehpoaaGreat.q70 [sd0]) 0)]) 3)])) then
                      bif (qcmp BinOp.eql (qint (qnth (Proofs.YtiojjmlccehpoaaGreat.l21_18 [sd0, (D.int (qint (qnth (Proofs.YtiojjmlccehpoaaGreat.l21_7 [sd0, sd1, (D.int sn2), (D.int (qlen (qnth (Proofs.YtiojjmlccehpoaaGreat.q70 [sd0]) 0)))] [(D.int 0), (D.int 0), (qrep 0 (D.int 0)), (qnth (Proofs.YtiojjmlccehpoaaGreat.q70 [sd0]) 0)]) 1))), sd1, (D.int (qlen sd1)), (qapp (qnth (Proofs.YtiojjmlccehpoaaGreat.l21_7 [sd0, sd1, (D.int sn2), (D.int (qlen (qnth (Proofs.YtiojjmlccehpoaaGreat.q70 [sd0]) 0)))] [(D.int 0), (D.int 0), (qrep 0 (D.int 0)), (qnth (Proofs.YtiojjmlccehpoaaGreat.q70 [sd0]) 0)]) 2) (D.list [(D.int (qbin BinOp.add IntKind.u32 sn2 (qwrap IntKind.u32 (qint (qnth (Proofs.YtiojjmlccehpoaaGreat.l21_7 [sd0, sd1, (D.int sn2), (D.int (qlen (qnth (Proofs.YtiojjmlccehpoaaGreat.q70 [sd0]) 0)))] [(D.int 0), (D.int 0), (qrep 0 (D.int 0)), (qnth (Proofs.YtiojjmlccehpoaaGreat.q70 [sd0]) 0)]) 1)))))]))] [(D.int 0), (qnth (Proofs.YtiojjmlccehpoaaGreat.l21_7 [sd0, sd1, (D.int sn2), (D.int (qlen (qnth (Proofs.YtiojjmlccehpoaaGreat.q70 [sd0]) 0)))] [(D.int 0), (D.int 0), (qrep 0 (D.int 0)), (qnth (Proofs.YtiojjmlccehpoaaGreat.q70 [sd0]) 0)]) 3)]) 0)) 0) then
                        bif (qcmp BinOp.gtr (qint (qnth (Proofs.YtiojjmlccehpoaaGreat.l21_7 [sd0, sd1, (D.int sn2), (D.int (qlen (qnth (Proofs.YtiojjmlccehpoaaGreat.q70 [sd0]) 0)))] [(D.int 0), (D.int 0), (qrep 0 (D.int 0)), (qnth (Proofs.YtiojjmlccehpoaaGreat.q70 [sd0]) 0)]) 1)) 65536) then
                          some [(D.list []), (D.int 6)]
                        else
                          some [(qnth (Proofs.YtiojjmlccehpoaaGreat.l21_18 [sd0, (D.int (qint (qnth (Proofs.YtiojjmlccehpoaaGreat.l21_7 [sd0, sd1, (D.int sn2), (D.int (qlen (qnth (Proofs.YtiojjmlccehpoaaGreat.q70 [sd0]) 0)))] [(D.int 0), (D.int 0), (qrep 0 (D.int 0)), (qnth (Proofs.YtiojjmlccehpoaaGreat.q70 [sd0]) 0)]) 1))), sd1, (D.int (qlen sd1)), (qapp (qnth (Proofs.YtiojjmlccehpoaaGreat.l21_7 [sd0, sd1, (D.int sn2), (D.int (qlen (qnth (Proofs.YtiojjmlccehpoaaGreat.q70 [sd0]) 0)))] [(D.int 0), (D.int 0), (qrep 0 (D.int 0)), (qnth (Proofs.YtiojjmlccehpoaaGreat.q70 [sd0]) 0)]) 2) (D.list [(D.int (qbin BinOp.add IntKind.u32 sn2 (qwrap IntKind.u32 (qint (qnth (Proofs.YtiojjmlccehpoaaGreat.l21_7 [sd0, sd1, (D.int sn2), (D.int (qlen (qnth (Proofs.YtiojjmlccehpoaaGreat.q70 [sd0]) 0)))] [(D.int 0), (D.int 0), (qrep 0 (D.int 0)), (qnth (Proofs.YtiojjmlccehpoaaGreat.q70 [sd0]) 0)]) 1)))))]))] [(D.int 0), (qnth (Proofs.YtiojjmlccehpoaaGreat.l21_7 [sd0, sd1, (D.int sn2), (D.int (qlen (qnth (Proofs.YtiojjmlccehpoaaGreat.q70 [sd0]) 0)))] [(D.int 0), (D.int 0), (qrep 0 (D.int 0)), (qnth (Proofs.YtiojjmlccehpoaaGreat.q70 [sd0]) 0)]) 3)]) 1), (D.int 0)]
                      else
                        some [(D.list []), (D.int 2)]
                    else
                      none
                  else
                    none
                else
                  none
              else
                none
            else
              none
          else
            none
        else
          none
      else
        none := by
  have h : F21  [sd0, sd1, (D.int sn2)] =
    bif (qcmp BinOp.neq (qlen sd0) (qlen sd1)) then
      some [(D.list []), (D.int 2)]
    else
      bif (qsome (Proofs.YtiojjmlccehpoaaGreat.q70 [sd0])) then
        bif (qcmp BinOp.leq 0 0) then
          bif (qcmp BinOp.leq 0 (qbin BinOp.add IntKind.i64 (qlen sd0) 1)) then
            bif (qmem (qbin BinOp.add IntKind.i64 (qlen sd0) 1) 4) then
              bif (qcmp BinOp.eql (qlen (qnth (Proofs.YtiojjmlccehpoaaGreat.q70 [sd0]) 0)) (qlen (qnth (Proofs.YtiojjmlccehpoaaGreat.q70 [sd0]) 0))) then
                bif (qcmp BinOp.eql 0 (qlen (qrep 0 (D.int 0)))) then
                  bif (qsome (Proofs.YtiojjmlccehpoaaGreat.l21_7 [sd0, sd1, (D.int sn2), (D.int (qlen (qnth (Proofs.YtiojjmlccehpoaaGreat.q70 [sd0]) 0)))] [(D.int 0), (D.int 0), (qrep 0 (D.int 0)), (qnth (Proofs.YtiojjmlccehpoaaGreat.q70 [sd0]) 0)])) then
                    bif (qcmp BinOp.eql (qlen (qnth (Proofs.YtiojjmlccehpoaaGreat.l21_7 [sd0, sd1, (D.int sn2), (D.int (qlen (qnth (Proofs.YtiojjmlccehpoaaGreat.q70 [sd0]) 0)))] [(D.int 0), (D.int 0), (qrep 0 (D.int 0)), (qnth (Proofs.YtiojjmlccehpoaaGreat.q70 [sd0]) 0)]) 2)) (qlen (qnth (Proofs.YtiojjmlccehpoaaGreat.l21_7 [sd0, sd1, (D.int sn2), (D.int (qlen (qnth (Proofs.YtiojjmlccehpoaaGreat.q70 [sd0]) 0)))] [(D.int 0), (D.int 0), (qrep 0 (D.int 0)), (qnth (Proofs.YtiojjmlccehpoaaGreat.q70 [sd0]) 0)]) 2))) then
                      bif (qmem (qlen (qapp (qnth (Proofs.YtiojjmlccehpoaaGreat.l21_7 [sd0, sd1, (D.int sn2), (D.int (qlen (qnth (Proofs.YtiojjmlccehpoaaGreat.q70 [sd0]) 0)))] [(D.int 0), (D.int 0), (qrep 0 (D.int 0)), (qnth (Proofs.YtiojjmlccehpoaaGreat.q70 [sd0]) 0)]) 2) (D.list [(D.int (qbin BinOp.add IntKind.u32 sn2 (qwrap IntKind.u32 (qint (qnth (Proofs.YtiojjmlccehpoaaGreat.l21_7 [sd0, sd1, (D.int sn2), (D.int (qlen (qnth (Proofs.YtiojjmlccehpoaaGreat.q70 [sd0]) 0)))] [(D.int 0), (D.int 0), (qrep 0 (D.int 0)), (qnth (Proofs.YtiojjmlccehpoaaGreat.q70 [sd0]) 0)]) 1)))))]))) 4) then
                        bif (qcmp BinOp.eql (qlen (qnth (Proofs.YtiojjmlccehpoaaGreat.l21_7 [sd0, sd1, (D.int sn2), (D.int (qlen (qnth (Proofs.YtiojjmlccehpoaaGreat.q70 [sd0]) 0)))] [(D.int 0), (D.int 0), (qrep 0 (D.int 0)), (qnth (Proofs.YtiojjmlccehpoaaGreat.q70 [sd0]) 0)]) 3)) (qlen (qnth (Proofs.YtiojjmlccehpoaaGreat.l21_7 [sd0, sd1, (D.int sn2), (D.int (qlen (qnth (Proofs.YtiojjmlccehpoaaGreat.q70 [sd0]) 0)))] [(D.int 0), (D.int 0), (qrep 0 (D.int 0)), (qnth (Proofs.YtiojjmlccehpoaaGreat.q70 [sd0]) 0)]) 3))) then
                          bif (qcmp BinOp.eql (qlen (qapp (qnth (Proofs.YtiojjmlccehpoaaGreat.l21_7 [sd0, sd1, (D.int sn2), (D.int (qlen (qnth (Proofs.YtiojjmlccehpoaaGreat.q70 [sd0]) 0)))] [(D.int 0), (D.int 0), (qrep 0 (D.int 0)), (qnth (Proofs.YtiojjmlccehpoaaGreat.q70 [sd0]) 0)]) 2) (D.list [(D.int (qbin BinOp.add IntKind.u32 sn2 (qwrap IntKind.u32 (qint (qnth (Proofs.YtiojjmlccehpoaaGreat.l21_7 [sd0, sd1, (D.int sn2), (D.int (qlen (qnth (Proofs.YtiojjmlccehpoaaGreat.q70 [sd0]) 0)))] [(D.int 0), (D.int 0), (qrep 0 (D.int 0)), (qnth (Proofs.YtiojjmlccehpoaaGreat.q70 [sd0]) 0)]) 1)))))]))) (qlen (qapp (qnth (Proofs.YtiojjmlccehpoaaGreat.l21_7 [sd0, sd1, (D.int sn2), (D.int (qlen (qnth (Proofs.YtiojjmlccehpoaaGreat.q70 [sd0]) 0)))] [(D.int 0), (D.int 0), (qrep 0 (D.int 0)), (qnth (Proofs.YtiojjmlccehpoaaGreat.q70 [sd0]) 0)]) 2) (D.list [(D.int (qbin BinOp.add IntKind.u32 sn2 (qwrap IntKind.u32 (qint (qnth (Proofs.YtiojjmlccehpoaaGreat.l21_7 [sd0, sd1, (D.int sn2), (D.int (qlen (qnth (Proofs.YtiojjmlccehpoaaGreat.q70 [sd0]) 0)))] [(D.int 0), (D.int 0), (qrep 0 (D.int 0)), (qnth (Proofs.YtiojjmlccehpoaaGreat.q70 [sd0]) 0)]) 1)))))])))) then
                            bif (qsome (Proofs.YtiojjmlccehpoaaGreat.l21_18 [sd0, (D.int (qint (qnth (Proofs.YtiojjmlccehpoaaGreat.l21_7 [sd0, sd1, (D.int sn2), (D.int (qlen (qnth (Proofs.YtiojjmlccehpoaaGreat.q70 [sd0]) 0)))] [(D.int 0), (D.int 0), (qrep 0 (D.int 0)), (qnth (Proofs.YtiojjmlccehpoaaGreat.q70 [sd0]) 0)]) 1))), sd1, (D.int (qlen sd1)), (qapp (qnth (Proofs.YtiojjmlccehpoaaGreat.l21_7 [sd0, sd1, (D.int sn2), (D.int (qlen (qnth (Proofs.YtiojjmlccehpoaaGreat.q70 [sd0]) 0)))] [(D.int 0), (D.int 0), (qrep 0 (D.int 0)), (qnth (Proofs.YtiojjmlccehpoaaGreat.q70 [sd0]) 0)]) 2) (D.list [(D.int (qbin BinOp.add IntKind.u32 sn2 (qwrap IntKind.u32 (qint (qnth (Proofs.YtiojjmlccehpoaaGreat.l21_7 [sd0, sd1, (D.int sn2), (D.int (qlen (qnth (Proofs.YtiojjmlccehpoaaGreat.q70 [sd0]) 0)))] [(D.int 0), (D.int 0), (qrep 0 (D.int 0)), (qnth (Proofs.YtiojjmlccehpoaaGreat.q70 [sd0]) 0)]) 1)))))]))] [(D.int 0), (qnth (Proofs.YtiojjmlccehpoaaGreat.l21_7 [sd0, sd1, (D.int sn2), (D.int (qlen (qnth (Proofs.YtiojjmlccehpoaaGreat.q70 [sd0]) 0)))] [(D.int 0), (D.int 0), (qrep 0 (D.int 0)), (qnth (Proofs.YtiojjmlccehpoaaGreat.q70 [sd0]) 0)]) 3)])) then
                              bif (qcmp BinOp.eql (qint (qnth (Proofs.YtiojjmlccehpoaaGreat.l21_18 [sd0, (D.int (qint (qnth (Proofs.YtiojjmlccehpoaaGreat.l21_7 [sd0, sd1, (D.int sn2), (D.int (qlen (qnth (Proofs.YtiojjmlccehpoaaGreat.q70 [sd0]) 0)))] [(D.int 0), (D.int 0), (qrep 0 (D.int 0)), (qnth (Proofs.YtiojjmlccehpoaaGreat.q70 [sd0]) 0)]) 1))), sd1, (D.int (qlen sd1)), (qapp (qnth (Proofs.YtiojjmlccehpoaaGreat.l21_7 [sd0, sd1, (D.int sn2), (D.int (qlen (qnth (Proofs.YtiojjmlccehpoaaGreat.q70 [sd0]) 0)))] [(D.int 0), (D.int 0), (qrep 0 (D.int 0)), (qnth (Proofs.YtiojjmlccehpoaaGreat.q70 [sd0]) 0)]) 2) (D.list [(D.int (qbin BinOp.add IntKind.u32 sn2 (qwrap IntKind.u32 (qint (qnth (Proofs.YtiojjmlccehpoaaGreat.l21_7 [sd0, sd1, (D.int sn2), (D.int (qlen (qnth (Proofs.YtiojjmlccehpoaaGreat.q70 [sd0]) 0)))] [(D.int 0), (D.int 0), (qrep 0 (D.int 0)), (qnth (Proofs.YtiojjmlccehpoaaGreat.q70 [sd0]) 0)]) 1)))))]))] [(D.int 0), (qnth (Proofs.YtiojjmlccehpoaaGreat.l21_7 [sd0, sd1, (D.int sn2), (D.int (qlen (qnth (Proofs.YtiojjmlccehpoaaGreat.q70 [sd0]) 0)))] [(D.int 0), (D.int 0), (qrep 0 (D.int 0)), (qnth (Proofs.YtiojjmlccehpoaaGreat.q70 [sd0]) 0)]) 3)]) 0)) 0) then
                                bif (qcmp BinOp.gtr (qint (qnth (Proofs.YtiojjmlccehpoaaGreat.l21_7 [sd0, sd1, (D.int sn2), (D.int (qlen (qnth (Proofs.YtiojjmlccehpoaaGreat.q70 [sd0]) 0)))] [(D.int 0), (D.int 0), (qrep 0 (D.int 0)), (qnth (Proofs.YtiojjmlccehpoaaGreat.q70 [sd0]) 0)]) 1)) 65536) then
                                  some [(D.list []), (D.int 6)]
                                else
                                  bif (qcmp BinOp.eql (qlen (qnth (Proofs.YtiojjmlccehpoaaGreat.l21_18 [sd0, (D.int (qint (qnth (Proofs.YtiojjmlccehpoaaGreat.l21_7 [sd0, sd1, (D.int sn2), (D.int (qlen (qnth (Proofs.YtiojjmlccehpoaaGreat.q70 [sd0]) 0)))] [(D.int 0), (D.int 0), (qrep 0 (D.int 0)), (qnth (Proofs.YtiojjmlccehpoaaGreat.q70 [sd0]) 0)]) 1))), sd1, (D.int (qlen sd1)), (qapp (qnth (Proofs.YtiojjmlccehpoaaGreat.l21_7 [sd0, sd1, (D.int sn2), (D.int (qlen (qnth (Proofs.YtiojjmlccehpoaaGreat.q70 [sd0]) 0)))] [(D.int 0), (D.int 0), (qrep 0 (D.int 0)), (qnth (Proofs.YtiojjmlccehpoaaGreat.q70 [sd0]) 0)]) 2) (D.list [(D.int (qbin BinOp.add IntKind.u32 sn2 (qwrap IntKind.u32 (qint (qnth (Proofs.YtiojjmlccehpoaaGreat.l21_7 [sd0, sd1, (D.int sn2), (D.int (qlen (qnth (Proofs.YtiojjmlccehpoaaGreat.q70 [sd0]) 0)))] [(D.int 0), (D.int 0), (qrep 0 (D.int 0)), (qnth (Proofs.YtiojjmlccehpoaaGreat.q70 [sd0]) 0)]) 1)))))]))] [(D.int 0), (qnth (Proofs.YtiojjmlccehpoaaGreat.l21_7 [sd0, sd1, (D.int sn2), (D.int (qlen (qnth (Proofs.YtiojjmlccehpoaaGreat.q70 [sd0]) 0)))] [(D.int 0), (D.int 0), (qrep 0 (D.int 0)), (qnth (Proofs.YtiojjmlccehpoaaGreat.q70 [sd0]) 0)]) 3)]) 1)) (qlen (qnth (Proofs.YtiojjmlccehpoaaGreat.l21_18 [sd0, (D.int (qint (qnth (Proofs.YtiojjmlccehpoaaGreat.l21_7 [sd0, sd1, (D.int sn2), (D.int (qlen (qnth (Proofs.YtiojjmlccehpoaaGreat.q70 [sd0]) 0)))] [(D.int 0), (D.int 0), (qrep 0 (D.int 0)), (qnth (Proofs.YtiojjmlccehpoaaGreat.q70 [sd0]) 0)]) 1))), sd1, (D.int (qlen sd1)), (qapp (qnth (Proofs.YtiojjmlccehpoaaGreat.l21_7 [sd0, sd1, (D.int sn2), (D.int (qlen (qnth (Proofs.YtiojjmlccehpoaaGreat.q70 [sd0]) 0)))] [(D.int 0), (D.int 0), (qrep 0 (D.int 0)), (qnth (Proofs.YtiojjmlccehpoaaGreat.q70 [sd0]) 0)]) 2) (D.list [(D.int (qbin BinOp.add IntKind.u32 sn2 (qwrap IntKind.u32 (qint (qnth (Proofs.YtiojjmlccehpoaaGreat.l21_7 [sd0, sd1, (D.int sn2), (D.int (qlen (qnth (Proofs.YtiojjmlccehpoaaGreat.q70 [sd0]) 0)))] [(D.int 0), (D.int 0), (qrep 0 (D.int 0)), (qnth (Proofs.YtiojjmlccehpoaaGreat.q70 [sd0]) 0)]) 1)))))]))] [(D.int 0), (qnth (Proofs.YtiojjmlccehpoaaGreat.l21_7 [sd0, sd1, (D.int sn2), (D.int (qlen (qnth (Proofs.YtiojjmlccehpoaaGreat.q70 [sd0]) 0)))] [(D.int 0), (D.int 0), (qrep 0 (D.int 0)), (qnth (Proofs.YtiojjmlccehpoaaGreat.q70 [sd0]) 0)]) 3)]) 1))) then
                                    some [(qnth (Proofs.YtiojjmlccehpoaaGreat.l21_18 [sd0, (D.int (qint (qnth (Proofs.YtiojjmlccehpoaaGreat.l21_7 [sd0, sd1, (D.int sn2), (D.int (qlen (qnth (Proofs.YtiojjmlccehpoaaGreat.q70 [sd0]) 0)))] [(D.int 0), (D.int 0), (qrep 0 (D.int 0)), (qnth (Proofs.YtiojjmlccehpoaaGreat.q70 [sd0]) 0)]) 1))), sd1, (D.int (qlen sd1)), (qapp (qnth (Proofs.YtiojjmlccehpoaaGreat.l21_7 [sd0, sd1, (D.int sn2), (D.int (qlen (qnth (Proofs.YtiojjmlccehpoaaGreat.q70 [sd0]) 0)))] [(D.int 0), (D.int 0), (qrep 0 (D.int 0)), (qnth (Proofs.YtiojjmlccehpoaaGreat.q70 [sd0]) 0)]) 2) (D.list [(D.int (qbin BinOp.add IntKind.u32 sn2 (qwrap IntKind.u32 (qint (qnth (Proofs.YtiojjmlccehpoaaGreat.l21_7 [sd0, sd1, (D.int sn2), (D.int (qlen (qnth (Proofs.YtiojjmlccehpoaaGreat.q70 [sd0]) 0)))] [(D.int 0), (D.int 0), (qrep 0 (D.int 0)), (qnth (Proofs.YtiojjmlccehpoaaGreat.q70 [sd0]) 0)]) 1)))))]))] [(D.int 0), (qnth (Proofs.YtiojjmlccehpoaaGreat.l21_7 [sd0, sd1, (D.int sn2), (D.int (qlen (qnth (Proofs.YtiojjmlccehpoaaGreat.q70 [sd0]) 0)))] [(D.int 0), (D.int 0), (qrep 0 (D.int 0)), (qnth (Proofs.YtiojjmlccehpoaaGreat.q70 [sd0]) 0)]) 3)]) 1), (D.int 0)]
                                  else
                                    none
                              else
                                some [(D.list []), (D.int 2)]
                            else
                              none
                          else
                            none
                        else
                          none
                      else
                        none
                    else
                      none
                  else
                    none
                else
                  none
              else
                none
            else
              none
          else
            none
        else
          none
      else
        none := by kernel_rfl
  rw [h]; simp only [qeqD_self, qeqI_self, qeq_len, show qcmp BinOp.eql 0 (qlen (D.list [])) = true from qeq_len [], show ∀ a, qcmp BinOp.eql 1 (qlen (D.list [a])) = true from fun a => qeq_len [a], show ∀ a b, qcmp BinOp.eql 2 (qlen (D.list [a, b])) = true from fun a b => qeq_len [a, b], cond_true]

noncomputable def q21 : List D → Option (List D) := veil (F21 )

theorem q21_eq : q21  = F21  := veil_eq _

noncomputable def tb21 : Tb := Tb.addF tbl21_18 21 S21 (q21 )

theorem ok_tb21 : TbOk env (tb21 ) := addFunF ok_tbl21_18 21 (by kernel_rfl) _ (q21_eq )

/- function 22  -/

def S22_7 : LoopS := ⟨0, [⟨false, (.rows 46)⟩, ⟨false, (.rows 3)⟩, ⟨false, .any⟩, ⟨false, .any⟩, ⟨false, .any⟩, ⟨false, .any⟩, ⟨false, (.lit (.slice none 0 0))⟩, ⟨false, (.lit (.int .i64 0))⟩, ⟨false, (.osl 0 46)⟩, ⟨false, (.osl 1 22)⟩, ⟨true, (.int .i64)⟩, ⟨true, (.int .i64)⟩, ⟨false, .any⟩, ⟨false, .any⟩, ⟨false, .any⟩, ⟨false, .any⟩, ⟨false, .any⟩, ⟨false, .any⟩, ⟨false, .any⟩, ⟨false, .any⟩, ⟨false, .any⟩, ⟨false, .any⟩, ⟨false, .any⟩, ⟨false, .any⟩, ⟨false, .any⟩, ⟨false, .any⟩, ⟨false, .any⟩, ⟨false, .any⟩, ⟨false, .any⟩, ⟨false, .any⟩, ⟨false, .any⟩, ⟨false, .any⟩, ⟨false, .any⟩, ⟨false, .any⟩, ⟨false, .any⟩, ⟨false, .any⟩, ⟨false, .any⟩, ⟨false, .any⟩, ⟨false, .any⟩, ⟨false, .any⟩, ⟨false, .any⟩, ⟨false, .any⟩, ⟨false, .any⟩, ⟨false, .any⟩, ⟨false, .any⟩, ⟨false, .any⟩, ⟨false, .any⟩, ⟨false, .any⟩, ⟨false, .any⟩, ⟨false, .any⟩, ⟨false, .any⟩, ⟨false, .any⟩, ⟨false, .any⟩, ⟨false, .any⟩, ⟨false, .any⟩, ⟨false, .any⟩, ⟨false, .any⟩, ⟨false, .any⟩, ⟨false, .any⟩, ⟨false, .any⟩, ⟨false, .any⟩, ⟨false, .any⟩, ⟨false, .any⟩, ⟨false, .any⟩, ⟨false, .any⟩, ⟨false, .any⟩, ⟨false, .any⟩, ⟨false, .any⟩, ⟨false, .any⟩, ⟨false, .any⟩, ⟨false, .any⟩, ⟨false, .any⟩, ⟨false, .any⟩, ⟨false, .any⟩, ⟨false, .any⟩, ⟨false, .any⟩, ⟨false, .any⟩, ⟨false, .any⟩, ⟨false, .any⟩, ⟨false, .any⟩, ⟨false, .any⟩, ⟨false, .any⟩, ⟨false, .any⟩, ⟨false, .any⟩, ⟨false, .any⟩, ⟨false, .any⟩, ⟨false, .any⟩, ⟨false, .any⟩, ⟨false, .any⟩, ⟨false, .any⟩, ⟨false, .any⟩, ⟨false, .any⟩, ⟨false, .any⟩, ⟨false, .any⟩, ⟨false, .any⟩, ⟨false, .any⟩, ⟨false, .any⟩, ⟨false, .any⟩, ⟨false, .any⟩, ⟨false, .any⟩, ⟨false, .any⟩, ⟨false, .any⟩, ⟨false, .any⟩, ⟨false, .any⟩, ⟨false, .any⟩, ⟨false, .any⟩, ⟨false, .any⟩, ⟨false, .any⟩, ⟨false, .any⟩, ⟨false, .any⟩, ⟨false, .any⟩, ⟨false, .any⟩, ⟨false, .any⟩, ⟨false, .any⟩, ⟨false, .any⟩, ⟨false, .any⟩, ⟨false, .any⟩, ⟨false, .any⟩, ⟨false, .any⟩, ⟨false, .any⟩, ⟨false, .any⟩, ⟨false, .any⟩, ⟨false, .any⟩, ⟨false, .any⟩], [(.lst true 22), (.lst true 46)], [⟨0, 0, [⟨false, (.rows 46)⟩, ⟨false, (.rows 3)⟩, ⟨true, .any⟩, ⟨true, .any⟩, ⟨true, .any⟩, ⟨true, .any⟩, ⟨true, (.lit (.slice none 0 0))⟩, ⟨true, (.lit (.int .i64 0))⟩, ⟨true, (.osl 0 46)⟩, ⟨true, (.osl 1 22)⟩, ⟨true, (.int .i64)⟩, ⟨true, .any⟩, ⟨true, .any⟩, ⟨true, .any⟩, ⟨true, .any⟩, ⟨true, .any⟩, ⟨true, .any⟩, ⟨true, .any⟩, ⟨true, .any⟩, ⟨true, .any⟩, ⟨true, .any⟩, ⟨true, .any⟩, ⟨true, .any⟩, ⟨true, .any⟩, ⟨true, .any⟩, ⟨true, .any⟩, ⟨true, .any⟩, ⟨true, .any⟩, ⟨true, .any⟩, ⟨true, .any⟩, ⟨true, .any⟩, ⟨true, .any⟩, ⟨true, .any⟩, ⟨true, .any⟩, ⟨true, .any⟩, ⟨true, .any⟩, ⟨true, .any⟩, ⟨true, .any⟩, ⟨true, .any⟩, ⟨true, .any⟩, ⟨true, .any⟩, ⟨true, .any⟩, ⟨true, .any⟩, ⟨true, .any⟩, ⟨true, .any⟩, ⟨true, .any⟩, ⟨true, .any⟩, ⟨true, .any⟩, ⟨true, .any⟩, ⟨true, .any⟩, ⟨true, .any⟩, ⟨true, .any⟩, ⟨true, .any⟩, ⟨true, .any⟩, ⟨true, .any⟩, ⟨true, .any⟩, ⟨true, .any⟩, ⟨true, .any⟩, ⟨true, .any⟩, ⟨true, .any⟩, ⟨true, .any⟩, ⟨true, .any⟩, ⟨true, .any⟩, ⟨true, .any⟩, ⟨true, .any⟩, ⟨true, .any⟩, ⟨true, .any⟩, ⟨true, .any⟩, ⟨true, .any⟩, ⟨true, .any⟩, ⟨true, .any⟩, ⟨true, .any⟩, ⟨true, .any⟩, ⟨true, .any⟩, ⟨true, .any⟩, ⟨true, .any⟩, ⟨true, .any⟩, ⟨true, .any⟩, ⟨true, .any⟩, ⟨true, .any⟩, ⟨true, .any⟩, ⟨true, .any⟩, ⟨true, .any⟩, ⟨true, .any⟩, ⟨true, .any⟩, ⟨true, .any⟩, ⟨true, .any⟩, ⟨true, .any⟩, ⟨true, .any⟩, ⟨true, .any⟩, ⟨true, .any⟩, ⟨true, .any⟩, ⟨true, .any⟩, ⟨true, .any⟩, ⟨true, .any⟩, ⟨true, .any⟩, ⟨true, .any⟩, ⟨true, .any⟩, ⟨true, .any⟩, ⟨true, .any⟩, ⟨true, .any⟩, ⟨true, .any⟩, ⟨true, .any⟩, ⟨true, .any⟩, ⟨true, .any⟩, ⟨true, .any⟩, ⟨true, .any⟩, ⟨true, .any⟩, ⟨true, .any⟩, ⟨true, .any⟩, ⟨true, .any⟩, ⟨true, .any⟩, ⟨true, .any⟩, ⟨true, .any⟩, ⟨true, .any⟩, ⟨true, .any⟩, ⟨true, .any⟩, ⟨true, .any⟩, ⟨true, .any⟩, ⟨true, .any⟩, ⟨true, .any⟩, ⟨true, .any⟩, ⟨true, .any⟩, ⟨true, .any⟩], [(.lst true 22), (.lst true 46)]⟩, ⟨1, 0, [⟨false, (.rows 46)⟩, ⟨false, (.rows 3)⟩, ⟨true, .any⟩, ⟨true, .any⟩, ⟨true, .any⟩, ⟨true, .any⟩, ⟨true, (.lit (.slice none 0 0))⟩, ⟨true, (.lit (.int .i64 2))⟩, ⟨true, .any⟩, ⟨true, .any⟩, ⟨true, .any⟩, ⟨true, .any⟩, ⟨true, .any⟩, ⟨true, .any⟩, ⟨true, .any⟩, ⟨true, .any⟩, ⟨true, .any⟩, ⟨true, .any⟩, ⟨true, .any⟩, ⟨true, .any⟩, ⟨true, .any⟩, ⟨true, .any⟩, ⟨true, .any⟩, ⟨true, .any⟩, ⟨true, .any⟩, ⟨true, .any⟩, ⟨true, .any⟩, ⟨true, .any⟩, ⟨true, .any⟩, ⟨true, .any⟩, ⟨true, .any⟩, ⟨true, .any⟩, ⟨true, .any⟩, ⟨true, .any⟩, ⟨true, .any⟩, ⟨true, .any⟩, ⟨true, .any⟩, ⟨true, .any⟩, ⟨true, .any⟩, ⟨true, .any⟩, ⟨true, .any⟩, ⟨true, .any⟩, ⟨true, .any⟩, ⟨true, .any⟩, ⟨true, .any⟩, ⟨true, .any⟩, ⟨true, .any⟩, ⟨true, .any⟩, ⟨true, .any⟩, ⟨true, .any⟩, ⟨true, .any⟩, ⟨true, .any⟩, ⟨true, .any⟩, ⟨true, .any⟩, ⟨true, .any⟩, ⟨true, .any⟩, ⟨true, .any⟩, ⟨true, .any⟩, ⟨true, .any⟩, ⟨true, .any⟩, ⟨true, .any⟩, ⟨true, .any⟩, ⟨true, .any⟩, ⟨true, .any⟩, ⟨true, .any⟩, ⟨true, .any⟩, ⟨true, .any⟩, ⟨true, .any⟩, ⟨true, .any⟩, ⟨true, .any⟩, ⟨true, .any⟩, ⟨true, .any⟩, ⟨true, .any⟩, ⟨true, .any⟩, ⟨true, .any⟩, ⟨true, .any⟩, ⟨true, .any⟩, ⟨true, .any⟩, ⟨true, .any⟩, ⟨true, .any⟩, ⟨true, .any⟩, ⟨true, .any⟩, ⟨true, .any⟩, ⟨true, .any⟩, ⟨true, .any⟩, ⟨true, .any⟩, ⟨true, .any⟩, ⟨true, .any⟩, ⟨true, .any⟩, ⟨true, .any⟩, ⟨true, .any⟩, ⟨true, .any⟩, ⟨true, .any⟩, ⟨true, .any⟩, ⟨true, .any⟩, ⟨true, .any⟩, ⟨true, .any⟩, ⟨true, .any⟩, ⟨true, .any⟩, ⟨true, .any⟩, ⟨true, .any⟩, ⟨true, .any⟩, ⟨true, .any⟩, ⟨true, .any⟩, ⟨true, .any⟩, ⟨true, .any⟩, ⟨true, .any⟩, ⟨true, .any⟩, ⟨true, .any⟩, ⟨true, .any⟩, ⟨true, .any⟩, ⟨true, .any⟩, ⟨true, .any⟩, ⟨true, .any⟩, ⟨true, .any⟩, ⟨true, .any⟩, ⟨true, .any⟩, ⟨true, .any⟩, ⟨true, .any⟩, ⟨true, .any⟩, ⟨true, .any⟩, ⟨true, .any⟩, ⟨true, .any⟩, ⟨true, .any⟩], [.skip, .skip]⟩]⟩

noncomputable def st22_7 (p s : List D) : Option (Sum (List D) (List D)) := stepQX env tb21 60 6 22 (loopC 22 7) S22_7 p s

noncomputable def st22_7_a0 (pd0 : D) (pd1 : D) (sn0 : Int) (sn1 : Int) (sd2 : D) (sd3 : D) : D := (D.agg [(D.int (qint (qget sd2 sn1))), (D.int (qint (qfld (qget pd0 sn1) 1))), (D.int (qint (qfld (qget pd0 sn1) 2))), (D.int (qint (qfld (qget pd0 sn1) 3))), (D.int (qint (qfld (qget pd0 sn1) 4))), (D.int (qint (qfld (qget pd0 sn1) 5))), (D.int (qint (qfld (qget pd0 sn1) 6))), (D.int (qint (qfld (qget pd0 sn1) 7))), (D.int (qint (qfld (qget pd0 sn1) 8)))])

noncomputable def st22_7_a1 (pd0 : D) (pd1 : D) (sn0 : Int) (sn1 : Int) (sd2 : D) (sd3 : D) : D := (D.agg [(D.int (qint (qget sd2 sn1))), (D.int (qint (qfld (qget pd0 sn1) 1))), (D.int (qint (qfld (qget pd0 sn1) 2))), (D.int (qint (qfld (qget pd0 sn1) 3))), (D.int (qint (qfld (qget pd0 sn1) 4))), (D.int (qint (qfld (qget pd0 sn1) 5))), (D.int (qint (qfld (qget pd0 sn1) 6))), (D.int (qint (qfld (qget pd0 sn1) 7))), (D.int (qint (qnth (Proofs.YtiojjmlccehpoaaGreat.q72 [(st22_7_a0 pd0 pd1 sn0 sn1 sd2 sd3)]) 0)))])

noncomputable def st22_7_a2 (pd0 : D) (pd1 : D) (sn0 : Int) (sn1 : Int) (sd2 : D) (sd3 : D) : D := (D.agg [(D.int (qint (qget sd2 sn1))), (D.int (qint (qfld (qget pd0 sn1) 1))), (D.int (qint (qfld (qget pd0 sn1) 2))), (D.int 2), (D.int (qint (qfld (qget pd0 sn1) 4))), (D.int (qint (qfld (qget pd0 sn1) 5))), (D.int (qint (qfld (qget pd0 sn1) 6))), (D.int (qint (qfld (qget pd0 sn1) 7))), (D.int (qint (qfld (qget pd0 sn1) 8)))])

noncomputable def st22_7_a3 (pd0 : D) (pd1 : D) (sn0 : Int) (sn1 : Int) (sd2 : D) (sd3 : D) : D := (D.agg [(D.int (qint (qget sd2 sn1))), (D.int (qint (qfld (qget pd0 sn1) 1))), (D.int (qint (qfld (qget pd0 sn1) 2))), (D.int 2), (D.int (qint (qfld (qget pd0 sn1) 4))), (D.int (qint (qfld (qget pd0 sn1) 5))), (D.int (qint (qfld (qget pd0 sn1) 6))), (D.int (qint (qfld (qget pd0 sn1) 7))), (D.int (qint (qnth (Proofs.YtiojjmlccehpoaaGreat.q72 [(st22_7_a2 pd0 pd1 sn0 sn1 sd2 sd3)]) 0)))])

theorem st22_7_eq (pd0 : D) (pd1 : D) (sn0 : Int) (sn1 : Int) (sd2 : D) (sd3 : D) : st22_7  [pd0, pd1] [(D.int sn0), (D.int sn1), sd2, sd3] =
    bif (qcmp BinOp.lss sn1 (qlen pd0)) then
      bif (qinb pd0 sn1) then
        bif (qcmp BinOp.leq 0 sn1) then
          bif (qcmp BinOp.lss sn1 (qlen sd2)) then
            bif (qinb sd2 sn1) then
              bif (qcmp BinOp.eql (qint (qfld (qget pd0 sn1) 2)) 20) then
                bif (qinb pd1 sn1) then
                  bif (qiteB (qcmp BinOp.lss (qint (qget pd1 sn1)) (-1)) Bool.true (qinb pd1 sn1)) then
                    bif (qiteB (qiteB (qcmp BinOp.lss (qint (qget pd1 sn1)) (-1)) Bool.true (qcmp BinOp.gtr (qint (qget pd1 sn1)) (qlen pd0))) Bool.true (qinb pd1 sn1)) then
                      bif (qiteB (qiteB (qiteB (qcmp BinOp.lss (qint (qget pd1 sn1)) (-1)) Bool.true (qcmp BinOp.gtr (qint (qget pd1 sn1)) (qlen pd0))) Bool.true (qiteB (qcmp BinOp.geq (qint (qget pd1 sn1)) 0) (qnot (qiteB (qcmp BinOp.eql (qint (qfld (qget pd0 sn1) 2)) 20) Bool.true (qcmp BinOp.eql (qint (qfld (qget pd0 sn1) 2)) 23))) Bool.false)) Bool.true (qsome (Proofs.YtiojjmlccehpoaaGreat.q71 [(st22_7_a2 pd0 pd1 sn0 sn1 sd2 sd3)]))) then
                        bif (qiteB (qiteB (qiteB (qcmp BinOp.lss (qint (qget pd1 sn1)) (-1)) Bool.true (qcmp BinOp.gtr (qint (qget pd1 sn1)) (qlen pd0))) Bool.true (qiteB (qcmp BinOp.geq (qint (qget pd1 sn1)) 0) (qnot (qiteB (qcmp BinOp.eql (qint (qfld (qget pd0 sn1) 2)) 20) Bool.true (qcmp BinOp.eql (qint (qfld (qget pd0 sn1) 2)) 23))) Bool.false)) Bool.true (qnot (qbool (qnth (Proofs.YtiojjmlccehpoaaGreat.q71 [(st22_7_a2 pd0 pd1 sn0 sn1 sd2 sd3)]) 0)))) then
                          some (Sum.inr [(D.int 1)])
                        else
                          bif (qsome (Proofs.YtiojjmlccehpoaaGreat.q72 [(st22_7_a2 pd0 pd1 sn0 sn1 sd2 sd3)])) then
                            bif (qmem (qlen (qapp sd3 (D.list [(st22_7_a3 pd0 pd1 sn0 sn1 sd2 sd3)]))) 64) then
                              bif (qmem (qlen (qapp sd2 (D.list [(D.int (qbin BinOp.add IntKind.u32 (qint (qget sd2 sn1)) (qwrap IntKind.u32 (qint (qnth (Proofs.YtiojjmlccehpoaaGreat.q72 [(st22_7_a2 pd0 pd1 sn0 sn1 sd2 sd3)]) 0)))))]))) 4) then
                                some (Sum.inl [(D.int (qbin BinOp.add IntKind.i64 sn0 (qint (qnth (Proofs.YtiojjmlccehpoaaGreat.q72 [(st22_7_a2 pd0 pd1 sn0 sn1 sd2 sd3)]) 0)))), (D.int (qbin BinOp.add IntKind.i64 sn1 1)), (qapp sd2 (D.list [(D.int (qbin BinOp.add IntKind.u32 (qint (qget sd2 sn1)) (qwrap IntKind.u32 (qint (qnth (Proofs.YtiojjmlccehpoaaGreat.q72 [(st22_7_a2 pd0 pd1 sn0 sn1 sd2 sd3)]) 0)))))])), (qapp sd3 (D.list [(st22_7_a3 pd0 pd1 sn0 sn1 sd2 sd3)]))])
                              else
                                none
                            else
                              none
                          else
                            none
                      else
                        none
                    else
                      none
                  else
                    none
                else
                  none
              else
                bif (qinb pd1 sn1) then
                  bif (qiteB (qcmp BinOp.lss (qint (qget pd1 sn1)) (-1)) Bool.true (qinb pd1 sn1)) then
                    bif (qiteB (qiteB (qcmp BinOp.lss (qint (qget pd1 sn1)) (-1)) Bool.true (qcmp BinOp.gtr (qint (qget pd1 sn1)) (qlen pd0))) Bool.true (qinb pd1 sn1)) then
                      bif (qiteB (qiteB (qiteB (qcmp BinOp.lss (qint (qget pd1 sn1)) (-1)) Bool.true (qcmp BinOp.gtr (qint (qget pd1 sn1)) (qlen pd0))) Bool.true (qiteB (qcmp BinOp.geq (qint (qget pd1 sn1)) 0) (qnot (qiteB (qcmp BinOp.eql (qint (qfld (qget pd0 sn1) 2)) 20) Bool.true (qcmp BinOp.eql (qint (qfld (qget pd0 sn1) 2)) 23))) Bool.false)) Bool.true (qsome (Proofs.YtiojjmlccehpoaaGreat.q71 [(st22_7_a0 pd0 pd1 sn0 sn1 sd2 sd3)]))) then
                        bif (qiteB (qiteB (qiteB (qcmp BinOp.lss (qint (qget pd1 sn1)) (-1)) Bool.true (qcmp BinOp.gtr (qint (qget pd1 sn1)) (qlen pd0))) Bool.true (qiteB (qcmp BinOp.geq (qint (qget pd1 sn1)) 0) (qnot (qiteB (qcmp BinOp.eql (qint (qfld (qget pd0 sn1) 2)) 20) Bool.true (qcmp BinOp.eql (qint (qfld (qget pd0 sn1) 2)) 23))) Bool.false)) Bool.true (qnot (qbool (qnth (Proofs.YtiojjmlccehpoaaGreat.q71 [(st22_7_a0 pd0 pd1 sn0 sn1 sd2 sd3)]) 0)))) then
                          some (Sum.inr [(D.int 1)])
                        else
                          bif (qsome (Proofs.YtiojjmlccehpoaaGreat.q72 [(st22_7_a0 pd0 pd1 sn0 sn1 sd2 sd3)])) then
                            bif (qmem (qlen (qapp sd3 (D.list [(st22_7_a1 pd0 pd1 sn0 sn1 sd2 sd3)]))) 64) then
                              bif (qmem (qlen (qapp sd2 (D.list [(D.int (qbin BinOp.add IntKind.u32 (qint (qget sd2 sn1)) (qwrap IntKind.u32 (qint (qnth (Proofs.YtiojjmlccehpoaaGreat.q72 [(st22_7_a0 pd0 pd1 sn0 sn1 sd2 sd3)]) 0)))))]))) 4) then
                                some (Sum.inl [(D.int (qbin BinOp.add IntKind.i64 sn0 (qint (qnth (Proofs.YtiojjmlccehpoaaGreat.q72 [(st22_7_a0 pd0 pd1 sn0 sn1 sd2 sd3)]) 0)))), (D.int (qbin BinOp.add IntKind.i64 sn1 1)), (qapp sd2 (D.list [(D.int (qbin BinOp.add IntKind.u32 (qint (qget sd2 sn1)) (qwrap IntKind.u32 (qint (qnth (Proofs.YtiojjmlccehpoaaGreat.q72 [(st22_7_a0 pd0 pd1 sn0 sn1 sd2 sd3)]) 0)))))])), (qapp sd3 (D.list [(st22_7_a1 pd0 pd1 sn0 sn1 sd2 sd3)]))])
                              else
                                none
                            else
                              none
                          else
                            none
                      else
                        none
                    else
                      none
                  else
                    none
                else
                  none
            else
              none
          else
            none
        else
          none
      else
        none
    else
      some (Sum.inr [(D.int 0), (D.int sn0), sd2, sd3]) := by
  have h : st22_7  [pd0, pd1] [(D.int sn0), (D.int sn1), sd2, sd3] =
    bif (qcmp BinOp.lss sn1 (qlen pd0)) then
      bif (qinb pd0 sn1) then
        bif (qcmp BinOp.leq 0 sn1) then
          bif (qcmp BinOp.lss sn1 (qlen sd2)) then
            bif (qinb sd2 sn1) then
              bif (qcmp BinOp.eql (qint (qfld (qget pd0 sn1) 2)) 20) then
                bif (qinb pd1 sn1) then
                  bif (qiteB (qcmp BinOp.lss (qint (qget pd1 sn1)) (-1)) Bool.true (qinb pd1 sn1)) then
                    bif (qiteB (qiteB (qcmp BinOp.lss (qint (qget pd1 sn1)) (-1)) Bool.true (qcmp BinOp.gtr (qint (qget pd1 sn1)) (qlen pd0))) Bool.true (qinb pd1 sn1)) then
                      bif (qiteB (qiteB (qiteB (qcmp BinOp.lss (qint (qget pd1 sn1)) (-1)) Bool.true (qcmp BinOp.gtr (qint (qget pd1 sn1)) (qlen pd0))) Bool.true (qiteB (qcmp BinOp.geq (qint (qget pd1 sn1)) 0) (qnot (qiteB (qcmp BinOp.eql (qint (qfld (qget pd0 sn1) 2)) 20) Bool.true (qcmp BinOp.eql (qint (qfld (qget pd0 sn1) 2)) 23))) Bool.false)) Bool.true (qsome (Proofs.YtiojjmlccehpoaaGreat.q71 [(st22_7_a2 pd0 pd1 sn0 sn1 sd2 sd3)]))) then
                        bif (qiteB (qiteB (qiteB (qcmp BinOp.lss (qint (qget pd1 sn1)) (-1)) Bool.true (qcmp BinOp.gtr (qint (qget pd1 sn1)) (qlen pd0))) Bool.true (qiteB (qcmp BinOp.geq (qint (qget pd1 sn1)) 0) (qnot (qiteB (qcmp BinOp.eql (qint (qfld (qget pd0 sn1) 2)) 20) Bool.true (qcmp BinOp.eql (qint (qfld (qget pd0 sn1) 2)) 23))) Bool.false)) Bool.true (qnot (qbool (qnth (Proofs.YtiojjmlccehpoaaGreat.q71 [(st22_7_a2 pd0 pd1 sn0 sn1 sd2 sd3)]) 0)))) then
                          bif (qeqD pd0 pd0) then
                            bif (qeqD pd1 pd1) then
                              some (Sum.inr [(D.int 1)])
                            else
                              none
                          else
                            none
                        else
                          bif (qsome (Proofs.YtiojjmlccehpoaaGreat.q72 [(st22_7_a2 pd0 pd1 sn0 sn1 sd2 sd3)])) then
                            bif (qcmp BinOp.eql (qlen sd3) (qlen sd3)) then
                              bif (qmem (qlen (qapp sd3 (D.list [(st22_7_a3 pd0 pd1 sn0 sn1 sd2 sd3)]))) 64) then
                                bif (qcmp BinOp.eql (qlen sd2) (qlen sd2)) then
                                  bif (qmem (qlen (qapp sd2 (D.list [(D.int (qbin BinOp.add IntKind.u32 (qint (qget sd2 sn1)) (qwrap IntKind.u32 (qint (qnth (Proofs.YtiojjmlccehpoaaGreat.q72 [(st22_7_a2 pd0 pd1 sn0 sn1 sd2 sd3)]) 0)))))]))) 4) then
                                    bif (qcmp BinOp.eql (qlen (qapp sd3 (D.list [(st22_7_a3 pd0 pd1 sn0 sn1 sd2 sd3)]))) (qlen (qapp sd3 (D.list [(st22_7_a3 pd0 pd1 sn0 sn1 sd2 sd3)])))) then
                                      bif (qcmp BinOp.eql (qlen (qapp sd2 (D.list [(D.int (qbin BinOp.add IntKind.u32 (qint (qget sd2 sn1)) (qwrap IntKind.u32 (qint (qnth (Proofs.YtiojjmlccehpoaaGreat.q72 [(st22_7_a2 pd0 pd1 sn0 sn1 sd2 sd3)]) 0)))))]))) (qlen (qapp sd2 (D.list [(D.int (qbin BinOp.add IntKind.u32 (qint (qget sd2 sn1)) (qwrap IntKind.u32 (qint (qnth (Proofs.YtiojjmlccehpoaaGreat.q72 [(st22_7_a2 pd0 pd1 sn0 sn1 sd2 sd3)]) 0)))))])))) then
                                        bif (qeqD pd0 pd0) then
                                          bif (qeqD pd1 pd1) then
                                            some (Sum.inl [(D.int (qbin BinOp.add IntKind.i64 sn0 (qint (qnth (Proofs.YtiojjmlccehpoaaGreat.q72 [(st22_7_a2 pd0 pd1 sn0 sn1 sd2 sd3)]) 0)))), (D.int (qbin BinOp.add IntKind.i64 sn1 1)), (qapp sd2 (D.list [(D.int (qbin BinOp.add IntKind.u32 (qint (qget sd2 sn1)) (qwrap IntKind.u32 (qint (qnth (Proofs.YtiojjmlccehpoaaGreat.q72 [(st22_7_a2 pd0 pd1 sn0 sn1 sd2 sd3)]) 0)))))])), (qapp sd3 (D.list [(st22_7_a3 pd0 pd1 sn0 sn1 sd2 sd3)]))])
                                          else
                                            none
                                        else
                                          none
                                      else
                                        none
                                    else
                                      none
                                  else
                                    none
                                else
                                  none
                              else
                                none
                            else
                              none
                          else
                            none
                      else
                        none
                    else
                      none
                  else
                    none
                else
                  none
              else
                bif (qinb pd1 sn1) then
                  bif (qiteB (qcmp BinOp.lss (qint (qget pd1 sn1)) (-1)) Bool.true (qinb pd1 sn1)) then
                    bif (qiteB (qiteB (qcmp BinOp.lss (qint (qget pd1 sn1)) (-1)) Bool.true (qcmp BinOp.gtr (qint (qget pd1 sn1)) (qlen pd0))) Bool.true (qinb pd1 sn1)) then
                      bif (qiteB (qiteB (qiteB (qcmp BinOp.lss (qint (qget pd1 sn1)) (-1)) Bool.true (qcmp BinOp.gtr (qint (qget pd1 sn1)) (qlen pd0))) Bool.true (qiteB (qcmp BinOp.geq (qint (qget pd1 sn1)) 0) (qnot (qiteB (qcmp BinOp.eql (qint (qfld (qget pd0 sn1) 2)) 20) Bool.true (qcmp BinOp.eql (qint (qfld (qget pd0 sn1) 2)) 23))) Bool.false)) Bool.true (qsome (Proofs.YtiojjmlccehpoaaGreat.q71 [(st22_7_a0 pd0 pd1 sn0 sn1 sd2 sd3)]))) then
                        bif (qiteB (qiteB (qiteB (qcmp BinOp.lss (qint (qget pd1 sn1)) (-1)) Bool.true (qcmp BinOp.gtr (qint (qget pd1 sn1)) (qlen pd0))) Bool.true (qiteB (qcmp BinOp.geq (qint (qget pd1 sn1)) 0) (qnot (qiteB (qcmp BinOp.eql (qint (qfld (qget pd0 sn1) 2)) 20) Bool.true (qcmp BinOp.eql (qint (qfld (qget pd0 sn1) 2)) 23))) Bool.false)) Bool.true (qnot (qbool (qnth (Proofs.YtiojjmlccehpoaaGreat.q71 [(st22_7_a0 pd0 pd1 sn0 sn1 sd2 sd3)]) 0)))) then
                          bif (qeqD pd0 pd0) then
                            bif (qeqD pd1 pd1) then
                              some (Sum.inr [(D.int 1)])
                            else
                              none
                          else
                            none
                        else
                          bif (qsome (Proofs.YtiojjmlccehpoaaGreat.q72 [(st22_7_a0 pd0 pd1 sn0 sn1 sd2 sd3)])) then
                            bif (qcmp BinOp.eql (qlen sd3) (qlen sd3)) then
                              bif (qmem (qlen (qapp sd3 (D.list [(st22_7_a1 pd0 pd1 sn0 sn1 sd2 sd3)]))) 64) then
                                bif (qcmp BinOp.eql (qlen sd2) (qlen sd2)) then
                                  bif (qmem (qlen (qapp sd2 (D.list [(D.int (qbin BinOp.add IntKind.u32 (qint (qget sd2 sn1)) (qwrap IntKind.u32 (qint (qnth (Proofs.YtiojjmlccehpoaaGreat.q72 [(st22_7_a0 pd0 pd1 sn0 sn1 sd2 sd3)]) 0)))))]))) 4) then
                                    bif (qcmp BinOp.eql (qlen (qapp sd3 (D.list [(st22_7_a1 pd0 pd1 sn0 sn1 sd2 sd3)]))) (qlen (qapp sd3 (D.list [(st22_7_a1 pd0 pd1 sn0 sn1 sd2 sd3)])))) then
                                      bif (qcmp BinOp.eql (qlen (qapp sd2 (D.list [(D.int (qbin BinOp.add IntKind.u32 (qint (qget sd2 sn1)) (qwrap IntKind.u32 (qint (qnth (Proofs.YtiojjmlccehpoaaGreat.q72 [(st22_7_a0 pd0 pd1 sn0 sn1 sd2 sd3)]) 0)))))]))) (qlen (qapp sd2 (D.list [(D.int (qbin BinOp.add IntKind.u32 (qint (qget sd2 sn1)) (qwrap IntKind.u32 (qint (qnth (Proofs.YtiojjmlccehpoaaGreat.q72 [(st22_7_a0 pd0 pd1 sn0 sn1 sd2 sd3)]) 0)))))])))) then
                                        bif (qeqD pd0 pd0) then
                                          bif (qeqD pd1 pd1) then
                                            some (Sum.inl [(D.int (qbin BinOp.add IntKind.i64 sn0 (qint (qnth (Proofs.YtiojjmlccehpoaaGreat.q72 [(st22_7_a0 pd0 pd1 sn0 sn1 sd2 sd3)]) 0)))), (D.int (qbin BinOp.add IntKind.i64 sn1 1)), (qapp sd2 (D.list [(D.int (qbin BinOp.add IntKind.u32 (qint (qget sd2 sn1)) (qwrap IntKind.u32 (qint (qnth (Proofs.YtiojjmlccehpoaaGreat.q72 [(st22_7_a0 pd0 pd1 sn0 sn1 sd2 sd3)]) 0)))))])), (qapp sd3 (D.list [(st22_7_a1 pd0 pd1 sn0 sn1 sd2 sd3)]))])
                                          else
                                            none
                                        else
                                          none
                                      else
                                        none
                                    else
                                      none
                                  else
                                    none
                                else
                                  none
                              else
                                none
                            else
                              none
                          else
                            none
                      else
                        none
                    else
                      none
                  else
                    none
                else
                  none
            else
              none
          else
            none
        else
          none
      else
        none
    else
      bif (qcmp BinOp.eql (qlen sd3) (qlen sd3)) then
        bif (qcmp BinOp.eql (qlen sd2) (qlen sd2)) then
          bif (qeqD pd0 pd0) then
            bif (qeqD pd1 pd1) then
              some (Sum.inr [(D.int 0), (D.int sn0), sd2, sd3])
            else
              none
          else
            none
        else
          none
      else
        none := by kernel_rfl
  rw [h]; simp only [qeqD_self, qeqI_self, qeq_len, show qcmp BinOp.eql 0 (qlen (D.list [])) = true from qeq_len [], show ∀ a, qcmp BinOp.eql 1 (qlen (D.list [a])) = true from fun a => qeq_len [a], show ∀ a b, qcmp BinOp.eql 2 (qlen (D.list [a, b])) = true from fun a b => qeq_len [a, b], cond_true]

noncomputable def l22_7 : List D → List D → Option (List D) := veil fun p s => loW (st22_7  p) s

theorem l22_7_eq : l22_7  = fun p s => loW (st22_7  p) s := veil_eq _

noncomputable def tbl22_7 : Tb := Tb.addL tb21 22 7 S22_7.n0 (mkLp S22_7 (l22_7 ))

theorem ok_tbl22_7 : TbOk env (tbl22_7 ) := addLoopQ ok_tb21 22 7 (by kernel_rfl) _ (l22_7_eq )

def S22_23 : LoopS := ⟨0, [⟨false, .any⟩, ⟨false, (.rows 3)⟩, ⟨false, .any⟩, ⟨false, .any⟩, ⟨false, .any⟩, ⟨false, .any⟩, ⟨false, (.lit (.slice none 0 0))⟩, ⟨false, (.lit (.int .i64 0))⟩, ⟨false, (.osl 0 46)⟩, ⟨false, (.osl 1 22)⟩, ⟨false, .any⟩, ⟨false, .any⟩, ⟨false, .any⟩, ⟨false, .any⟩, ⟨true, (.int .i64)⟩, ⟨false, .any⟩, ⟨false, .any⟩, ⟨false, .any⟩, ⟨false, .any⟩, ⟨false, .any⟩, ⟨false, .any⟩, ⟨false, .any⟩, ⟨false, .any⟩, ⟨false, .any⟩, ⟨false, .any⟩, ⟨false, .any⟩, ⟨false, .any⟩, ⟨false, .any⟩, ⟨false, .any⟩, ⟨false, .any⟩, ⟨false, .any⟩, ⟨false, .any⟩, ⟨false, .any⟩, ⟨false, .any⟩, ⟨false, .any⟩, ⟨false, .any⟩, ⟨false, .any⟩, ⟨false, .any⟩, ⟨false, .any⟩, ⟨false, .any⟩, ⟨false, .any⟩, ⟨false, .any⟩, ⟨false, .any⟩, ⟨false, .any⟩, ⟨false, .any⟩, ⟨false, .any⟩, ⟨false, .any⟩, ⟨false, .any⟩, ⟨false, .any⟩, ⟨false, .any⟩, ⟨false, .any⟩, ⟨false, .any⟩, ⟨false, .any⟩, ⟨false, .any⟩, ⟨false, .any⟩, ⟨false, .any⟩, ⟨false, .any⟩, ⟨false, .any⟩, ⟨false, .any⟩, ⟨false, .any⟩, ⟨false, .any⟩, ⟨false, .any⟩, ⟨false, .any⟩, ⟨false, .any⟩, ⟨false, .any⟩, ⟨false, .any⟩, ⟨false, .any⟩, ⟨false, .any⟩, ⟨false, .any⟩, ⟨false, .any⟩, ⟨false, .any⟩, ⟨false, .any⟩, ⟨false, .any⟩, ⟨false, .any⟩, ⟨false, .any⟩, ⟨false, .any⟩, ⟨false, .any⟩, ⟨false, .any⟩, ⟨false, .any⟩, ⟨false, .any⟩, ⟨false, .any⟩, ⟨false, .any⟩, ⟨false, .any⟩, ⟨false, .any⟩, ⟨false, .any⟩, ⟨false, .any⟩, ⟨false, .any⟩, ⟨false, .any⟩, ⟨false, .any⟩, ⟨false, .any⟩, ⟨false, .any⟩, ⟨false, .any⟩, ⟨false, .any⟩, ⟨false, .any⟩, ⟨false, .any⟩, ⟨false, .any⟩, ⟨false, .any⟩, ⟨false, .any⟩, ⟨false, .any⟩, ⟨false, .any⟩, ⟨false, .any⟩, ⟨false, .any⟩, ⟨false, .any⟩, ⟨false, .any⟩, ⟨false, .any⟩, ⟨false, .any⟩, ⟨false, .any⟩, ⟨false, .any⟩, ⟨false, .any⟩, ⟨false, .any⟩, ⟨false, .any⟩, ⟨false, .any⟩, ⟨false, .any⟩, ⟨false, .any⟩, ⟨false, .any⟩, ⟨false, .any⟩, ⟨false, .any⟩, ⟨false, .any⟩, ⟨false, .any⟩, ⟨false, .any⟩, ⟨false, .any⟩, ⟨false, .any⟩, ⟨false, .any⟩, ⟨false, .any⟩], [(.lst false 22), (.lst true 46)], [⟨0, 2, [⟨true, .any⟩, ⟨false, (.rows 3)⟩, ⟨true, .any⟩, ⟨true, .any⟩, ⟨true, .any⟩, ⟨true, .any⟩, ⟨true, (.lit (.slice none 0 0))⟩, ⟨true, (.lit (.int .i64 0))⟩, ⟨true, (.osl 0 46)⟩, ⟨true, .any⟩, ⟨true, .any⟩, ⟨true, .any⟩, ⟨true, .any⟩, ⟨true, .any⟩, ⟨true, .any⟩, ⟨true, .any⟩, ⟨true, .any⟩, ⟨true, .any⟩, ⟨true, .any⟩, ⟨true, .any⟩, ⟨true, .any⟩, ⟨true, .any⟩, ⟨true, .any⟩, ⟨true, .any⟩, ⟨true, .any⟩, ⟨true, .any⟩, ⟨true, .any⟩, ⟨true, .any⟩, ⟨true, .any⟩, ⟨true, .any⟩, ⟨true, .any⟩, ⟨true, .any⟩, ⟨true, .any⟩, ⟨true, .any⟩, ⟨true, .any⟩, ⟨true, .any⟩, ⟨true, .any⟩, ⟨true, .any⟩, ⟨true, .any⟩, ⟨true, .any⟩, ⟨true, .any⟩, ⟨true, .any⟩, ⟨true, .any⟩, ⟨true, .any⟩, ⟨true, .any⟩, ⟨true, .any⟩, ⟨true, .any⟩, ⟨true, .any⟩, ⟨true, .any⟩, ⟨true, .any⟩, ⟨true, .any⟩, ⟨true, .any⟩, ⟨true, .any⟩, ⟨true, .any⟩, ⟨true, .any⟩, ⟨true, .any⟩, ⟨true, .any⟩, ⟨true, .any⟩, ⟨true, .any⟩, ⟨true, .any⟩, ⟨true, .any⟩, ⟨true, .any⟩, ⟨true, .any⟩, ⟨true, .any⟩, ⟨true, .any⟩, ⟨true, .any⟩, ⟨true, .any⟩, ⟨true, .any⟩, ⟨true, .any⟩, ⟨true, .any⟩, ⟨true, .any⟩, ⟨true, .any⟩, ⟨true, .any⟩, ⟨true, .any⟩, ⟨true, .any⟩, ⟨true, .any⟩, ⟨true, .any⟩, ⟨true, .any⟩, ⟨true, .any⟩, ⟨true, .any⟩, ⟨true, .any⟩, ⟨true, .any⟩, ⟨true, .any⟩, ⟨true, .any⟩, ⟨true, .any⟩, ⟨true, .any⟩, ⟨true, .any⟩, ⟨true, .any⟩, ⟨true, .any⟩, ⟨true, .any⟩, ⟨true, .any⟩, ⟨true, .any⟩, ⟨true, .any⟩, ⟨true, .any⟩, ⟨true, .any⟩, ⟨true, .any⟩, ⟨true, .any⟩, ⟨true, .any⟩, ⟨true, .any⟩, ⟨true, .any⟩, ⟨true, .any⟩, ⟨true, .any⟩, ⟨true, .any⟩, ⟨true, .any⟩, ⟨true, .any⟩, ⟨true, .any⟩, ⟨true, .any⟩, ⟨true, .any⟩, ⟨true, .any⟩, ⟨true, .any⟩, ⟨true, .any⟩, ⟨true, .any⟩, ⟨true, .any⟩, ⟨true, .any⟩, ⟨true, .any⟩, ⟨true, .any⟩, ⟨true, .any⟩, ⟨true, .any⟩, ⟨true, .any⟩, ⟨true, .any⟩, ⟨true, .any⟩, ⟨true, .any⟩, ⟨true, .any⟩, ⟨true, .any⟩], [(.lst false 22), (.lst true 46)]⟩]⟩

noncomputable def st22_23 (p s : List D) : Option (Sum (List D) (List D)) := stepQX env tbl22_7 60 6 22 (loopC 22 23) S22_23 p s

theorem st22_23_eq (pd0 : D) (pd1 : D) (sn0 : Int) (sd1 : D) : st22_23  [pd0, pd1] [(D.int sn0), sd1] =
    bif (qcmp BinOp.lss sn0 (qlen sd1)) then
      bif (qinb pd0 sn0) then
        bif (qcmp BinOp.geq (qint (qget pd0 sn0)) 0) then
          bif (qinb pd0 sn0) then
            bif (qcmp BinOp.leq 0 (qint (qget pd0 sn0))) then
              bif (qcmp BinOp.lss (qint (qget pd0 sn0)) (qlen pd1)) then
                bif (qinb pd1 (qint (qget pd0 sn0))) then
                  bif (qcmp BinOp.leq 0 sn0) then
                    bif (qcmp BinOp.lss sn0 (qlen sd1)) then
                      bif (qinb sd1 sn0) then
                        bif (qcmp BinOp.eql (qlen sd1) (qlen (qset sd1 sn0 (D.agg [(D.int (qint (qfld (qget sd1 sn0) 0))), (D.int (qint (qget pd1 (qint (qget pd0 sn0))))), (D.int (qint (qfld (qget sd1 sn0) 2))), (D.int (qint (qfld (qget sd1 sn0) 3))), (D.int (qint (qfld (qget sd1 sn0) 4))), (D.int (qint (qfld (qget sd1 sn0) 5))), (D.int (qint (qfld (qget sd1 sn0) 6))), (D.int (qint (qfld (qget sd1 sn0) 7))), (D.int (qint (qfld (qget sd1 sn0) 8)))])))) then
                          some (Sum.inl [(D.int (qbin BinOp.add IntKind.i64 sn0 1)), (qset sd1 sn0 (D.agg [(D.int (qint (qfld (qget sd1 sn0) 0))), (D.int (qint (qget pd1 (qint (qget pd0 sn0))))), (D.int (qint (qfld (qget sd1 sn0) 2))), (D.int (qint (qfld (qget sd1 sn0) 3))), (D.int (qint (qfld (qget sd1 sn0) 4))), (D.int (qint (qfld (qget sd1 sn0) 5))), (D.int (qint (qfld (qget sd1 sn0) 6))), (D.int (qint (qfld (qget sd1 sn0) 7))), (D.int (qint (qfld (qget sd1 sn0) 8)))]))])
                        else
                          none
                      else
                        none
                    else
                      none
                  else
                    none
                else
                  none
              else
                none
            else
              none
          else
            none
        else
          some (Sum.inl [(D.int (qbin BinOp.add IntKind.i64 sn0 1)), sd1])
      else
        none
    else
      some (Sum.inr [(D.int 0), sd1]) := by
  have h : st22_23  [pd0, pd1] [(D.int sn0), sd1] =
    bif (qcmp BinOp.lss sn0 (qlen sd1)) then
      bif (qinb pd0 sn0) then
        bif (qcmp BinOp.geq (qint (qget pd0 sn0)) 0) then
          bif (qinb pd0 sn0) then
            bif (qcmp BinOp.leq 0 (qint (qget pd0 sn0))) then
              bif (qcmp BinOp.lss (qint (qget pd0 sn0)) (qlen pd1)) then
                bif (qinb pd1 (qint (qget pd0 sn0))) then
                  bif (qcmp BinOp.leq 0 sn0) then
                    bif (qcmp BinOp.lss sn0 (qlen sd1)) then
                      bif (qinb sd1 sn0) then
                        bif (qcmp BinOp.eql (qlen sd1) (qlen (qset sd1 sn0 (D.agg [(D.int (qint (qfld (qget sd1 sn0) 0))), (D.int (qint (qget pd1 (qint (qget pd0 sn0))))), (D.int (qint (qfld (qget sd1 sn0) 2))), (D.int (qint (qfld (qget sd1 sn0) 3))), (D.int (qint (qfld (qget sd1 sn0) 4))), (D.int (qint (qfld (qget sd1 sn0) 5))), (D.int (qint (qfld (qget sd1 sn0) 6))), (D.int (qint (qfld (qget sd1 sn0) 7))), (D.int (qint (qfld (qget sd1 sn0) 8)))])))) then
                          bif (qcmp BinOp.eql (qlen pd1) (qlen pd1)) then
                            bif (qeqD pd0 pd0) then
                              bif (qeqD pd1 pd1) then
                                some (Sum.inl [(D.int (qbin BinOp.add IntKind.i64 sn0 1)), (qset sd1 sn0 (D.agg [(D.int (qint (qfld (qget sd1 sn0) 0))), (D.int (qint (qget pd1 (qint (qget pd0 sn0))))), (D.int (qint (qfld (qget sd1 sn0) 2))), (D.int (qint (qfld (qget sd1 sn0) 3))), (D.int (qint (qfld (qget sd1 sn0) 4))), (D.int (qint (qfld (qget sd1 sn0) 5))), (D.int (qint (qfld (qget sd1 sn0) 6))), (D.int (qint (qfld (qget sd1 sn0) 7))), (D.int (qint (qfld (qget sd1 sn0) 8)))]))])
                              else
                                none
                            else
                              none
                          else
                            none
                        else
                          none
                      else
                        none
                    else
                      none
                  else
                    none
                else
                  none
              else
                none
            else
              none
          else
            none
        else
          bif (qcmp BinOp.eql (qlen sd1) (qlen sd1)) then
            bif (qcmp BinOp.eql (qlen pd1) (qlen pd1)) then
              bif (qeqD pd0 pd0) then
                bif (qeqD pd1 pd1) then
                  some (Sum.inl [(D.int (qbin BinOp.add IntKind.i64 sn0 1)), sd1])
                else
                  none
              else
                none
            else
              none
          else
            none
      else
        none
    else
      bif (qcmp BinOp.eql (qlen sd1) (qlen sd1)) then
        bif (qeqD pd0 pd0) then
          bif (qeqD pd1 pd1) then
            some (Sum.inr [(D.int 0), sd1])
          else
            none
        else
          none
      else
        none := by kernel_rfl
  rw [h]; simp only [qeqD_self, qeqI_self, qeq_len, show qcmp BinOp.eql 0 (qlen (D.list [])) = true from qeq_len [], show ∀ a, qcmp BinOp.eql 1 (qlen (D.list [a])) = true from fun a => qeq_len [a], show ∀ a b, qcmp BinOp.eql 2 (qlen (D.list [a, b])) = true from fun a b => qeq_len [a, b], cond_true]

noncomputable def l22_23 : List D → List D → Option (List D) := veil fun p s => loW (st22_23  p) s

theorem l22_23_eq : l22_23  = fun p s => loW (st22_23  p) s := veil_eq _

noncomputable def tbl22_23 : Tb := Tb.addL tbl22_7 22 23 S22_23.n0 (mkLp S22_23 (l22_23 ))

theorem ok_tbl22_23 : TbOk env (tbl22_23 ) := addLoopQ ok_tbl22_7 22 23 (by kernel_rfl) _ (l22_23_eq )

def S22 : FunS := ⟨[⟨true, (.rows 46)⟩, ⟨true, (.rows 3)⟩, ⟨true, (.int .u32)⟩], [], [⟨true, (.tup [(.rows 46), (.int .i64)])⟩], []⟩

noncomputable def F22 : List D → Option (List D) := liftX env tbl22_23 60 6 22 S22

theorem F22_eq  (sd0 : D) (sd1 : D) (sn2 : Int) : F22  [sd0, sd1, (D.int sn2)] =
    bif (qcmp BinOp.neq (qlen sd1) (qlen sd0)) then
      some [(D.list []), (D.int 2)]
    else
      bif (qsome (Proofs.YtiojjmlccehpoaaGreat.l22_7 [sd0, sd1] [(D.int 0), (D.int 0), (D.list [(D.int sn2)]), (D.list [])])) then
        bif (qcmp BinOp.eql (qint (qnth (Proofs.YtiojjmlccehpoaaGreat.l22_7 [sd0, sd1] [(D.int 0), (D.int 0), (D.list [(D.int sn2)]), (D.list [])]) 0)) 0) then
          bif (qcmp BinOp.gtr (qint (qnth (Proofs.YtiojjmlccehpoaaGreat.l22_7 [sd0, sd1] [(D.int 0), (D.int 0), (D.list [(D.int sn2)]), (D.list [])]) 1)) 65536) then
            some [(D.list []), (D.int 6)]
          else
            bif (qsome (Proofs.YtiojjmlccehpoaaGreat.l22_23 [sd1, (qnth (Proofs.YtiojjmlccehpoaaGreat.l22_7 [sd0, sd1] [(D.int 0), (D.int 0), (D.list [(D.int sn2)]), (D.list [])]) 2)] [(D.int 0), (qnth (Proofs.YtiojjmlccehpoaaGreat.l22_7 [sd0, sd1] [(D.int 0), (D.int 0), (D.list [(D.int sn2)]), (D.list [])]) 3)])) then
              some [(qnth (Proofs.YtiojjmlccehpoaaGreat.l22_23 [sd1, (qnth (Proofs.YtiojjmlccehpoaaGreat.l22_7 [sd0, sd1] [(D.int 0), (D.int 0), (D.list [(D.int sn2)]), (D.list [])]) 2)] [(D.int 0), (qnth (Proofs.YtiojjmlccehpoaaGreat.l22_7 [sd0, sd1] [(D.int 0), (D.int 0), (D.list [(D.int sn2)]), (D.list [])]) 3)]) 1), (D.int 0)]
            else
              none
        else
          some [(D.list []), (D.int 2)]
      else
        none := by
  have h : F22  [sd0, sd1, (D.int sn2)] =
    bif (qcmp BinOp.neq (qlen sd1) (qlen sd0)) then
      some [(D.list []), (D.int 2)]
    else
      bif (qcmp BinOp.eql 0 (qlen (D.list []))) then
        bif (qcmp BinOp.eql 1 (qlen (D.list [(D.int sn2)]))) then
          bif (qsome (Proofs.YtiojjmlccehpoaaGreat.l22_7 [sd0, sd1] [(D.int 0), (D.int 0), (D.list [(D.int sn2)]), (D.list [])])) then
            bif (qcmp BinOp.eql (qint (qnth (Proofs.YtiojjmlccehpoaaGreat.l22_7 [sd0, sd1] [(D.int 0), (D.int 0), (D.list [(D.int sn2)]), (D.list [])]) 0)) 0) then
              bif (qcmp BinOp.gtr (qint (qnth (Proofs.YtiojjmlccehpoaaGreat.l22_7 [sd0, sd1] [(D.int 0), (D.int 0), (D.list [(D.int sn2)]), (D.list [])]) 1)) 65536) then
                some [(D.list []), (D.int 6)]
              else
                bif (qcmp BinOp.eql (qlen (qnth (Proofs.YtiojjmlccehpoaaGreat.l22_7 [sd0, sd1] [(D.int 0), (D.int 0), (D.list [(D.int sn2)]), (D.list [])]) 3)) (qlen (qnth (Proofs.YtiojjmlccehpoaaGreat.l22_7 [sd0, sd1] [(D.int 0), (D.int 0), (D.list [(D.int sn2)]), (D.list [])]) 3))) then
                  bif (qcmp BinOp.eql (qlen (qnth (Proofs.YtiojjmlccehpoaaGreat.l22_7 [sd0, sd1] [(D.int 0), (D.int 0), (D.list [(D.int sn2)]), (D.list [])]) 2)) (qlen (qnth (Proofs.YtiojjmlccehpoaaGreat.l22_7 [sd0, sd1] [(D.int 0), (D.int 0), (D.list [(D.int sn2)]), (D.list [])]) 2))) then
                    bif (qsome (Proofs.YtiojjmlccehpoaaGreat.l22_23 [sd1, (qnth (Proofs.YtiojjmlccehpoaaGreat.l22_7 [sd0, sd1] [(D.int 0), (D.int 0), (D.list [(D.int sn2)]), (D.list [])]) 2)] [(D.int 0), (qnth (Proofs.YtiojjmlccehpoaaGreat.l22_7 [sd0, sd1] [(D.int 0), (D.int 0), (D.list [(D.int sn2)]), (D.list [])]) 3)])) then
                      bif (qcmp BinOp.eql (qlen (qnth (Proofs.YtiojjmlccehpoaaGreat.l22_23 [sd1, (qnth (Proofs.YtiojjmlccehpoaaGreat.l22_7 [sd0, sd1] [(D.int 0), (D.int 0), (D.list [(D.int sn2)]), (D.list [])]) 2)] [(D.int 0), (qnth (Proofs.YtiojjmlccehpoaaGreat.l22_7 [sd0, sd1] [(D.int 0), (D.int 0), (D.list [(D.int sn2)]), (D.list [])]) 3)]) 1)) (qlen (qnth (Proofs.YtiojjmlccehpoaaGreat.l22_23 [sd1, (qnth (Proofs.YtiojjmlccehpoaaGreat.l22_7 [sd0, sd1] [(D.int 0), (D.int 0), (D.list [(D.int sn2)]), (D.list [])]) 2)] [(D.int 0), (qnth (Proofs.YtiojjmlccehpoaaGreat.l22_7 [sd0, sd1] [(D.int 0), (D.int 0), (D.list [(D.int sn2)]), (D.list [])]) 3)]) 1))) then
                        some [(qnth (Proofs.YtiojjmlccehpoaaGreat.l22_23 [sd1, (qnth (Proofs.YtiojjmlccehpoaaGreat.l22_7 [sd0, sd1] [(D.int 0), (D.int 0), (D.list [(D.int sn2)]), (D.list [])]) 2)] [(D.int 0), (qnth (Proofs.YtiojjmlccehpoaaGreat.l22_7 [sd0, sd1] [(D.int 0), (D.int 0), (D.list [(D.int sn2)]), (D.list [])]) 3)]) 1), (D.int 0)]
                      else
                        none
                    else
                      none
                  else
                    none
                else
                  none
            else
              some [(D.list []), (D.int 2)]
          else
            none
        else
          none
      else
        none := by kernel_rfl
  rw [h]; simp only [qeqD_self, qeqI_self, qeq_len, show qcmp BinOp.eql 0 (qlen (D.list [])) = true from qeq_len [], show ∀ a, qcmp BinOp.eql 1 (qlen (D.list [a])) = true from fun a => qeq_len [a], show ∀ a b, qcmp BinOp.eql 2 (qlen (D.list [a, b])) = true from fun a b => qeq_len [a, b], cond_true]

noncomputable def q22 : List D → Option (List D) := veil (F22 )

theorem q22_eq : q22  = F22  := veil_eq _

noncomputable def tb22 : Tb := Tb.addF tbl22_23 22 S22 (q22 )

theorem ok_tb22 : TbOk env (tb22 ) := addFunF ok_tbl22_23 22 (by kernel_rfl) _ (q22_eq )

end Go.Proofs.YtiojjmlccehpoaaGreat

open Go Go.AM
namespace Go.Proofs.YtiojjmlccehpoaaGreat
set_option maxRecDepth 100000
set_option linter.unusedSimpArgs false
set_option linter.unusedVariables false
noncomputable def tb12 : Tb := Tb.addF tb22 12 S12 q12

theorem ok_tb12 : TbOk env tb12 := TbOk.addF ok_tb22 (by kernel_rfl) sound12

/- function 6  -/

def S6 : FunS := ⟨[⟨true, (.rows 46)⟩, ⟨true, (.rows 3)⟩, ⟨true, (.int .u32)⟩], [], [⟨true, .bool⟩], []⟩

noncomputable def F6 : List D → Option (List D) := liftX env tb12 60 6 6 S6

theorem F6_eq  (sd0 : D) (sd1 : D) (sn2 : Int) : F6  [sd0, sd1, (D.int sn2)] =
    bif (qiteB (qcmp BinOp.gtr (qlen sd0) 60) Bool.true (qcmp BinOp.gtr (qlen sd1) 60)) then
      bif (qsome (Proofs.YtiojjmlccehpoaaGreat.q12 [])) then
        some [(D.bool (qbool (qnth (Proofs.YtiojjmlccehpoaaGreat.q12 []) 0)))]
      else
        none
    else
      bif (qsome (Proofs.YtiojjmlccehpoaaGreat.q21 [sd0, sd1, (D.int sn2)])) then
        bif (qsome (Proofs.YtiojjmlccehpoaaGreat.q22 [sd0, sd1, (D.int sn2)])) then
          bif (qsome (Proofs.YtiojjmlccehpoaaGreat.q15 [(qnth (Proofs.YtiojjmlccehpoaaGreat.q21 [sd0, sd1, (D.int sn2)]) 0), (qnth (Proofs.YtiojjmlccehpoaaGreat.q22 [sd0, sd1, (D.int sn2)]) 0)])) then
            bif (qiteB (qiteB (qbool (qnth (Proofs.YtiojjmlccehpoaaGreat.q15 [(qnth (Proofs.YtiojjmlccehpoaaGreat.q21 [sd0, sd1, (D.int sn2)]) 0), (qnth (Proofs.YtiojjmlccehpoaaGreat.q22 [sd0, sd1, (D.int sn2)]) 0)]) 0)) (qcmp BinOp.eql (qint (qnth (Proofs.YtiojjmlccehpoaaGreat.q21 [sd0, sd1, (D.int sn2)]) 1)) (qint (qnth (Proofs.YtiojjmlccehpoaaGreat.q22 [sd0, sd1, (D.int sn2)]) 1))) Bool.false) (qsome (Proofs.YtiojjmlccehpoaaGreat.q12 [])) Bool.true) then
              some [(D.bool (qiteB (qiteB (qbool (qnth (Proofs.YtiojjmlccehpoaaGreat.q15 [(qnth (Proofs.YtiojjmlccehpoaaGreat.q21 [sd0, sd1, (D.int sn2)]) 0), (qnth (Proofs.YtiojjmlccehpoaaGreat.q22 [sd0, sd1, (D.int sn2)]) 0)]) 0)) (qcmp BinOp.eql (qint (qnth (Proofs.YtiojjmlccehpoaaGreat.q21 [sd0, sd1, (D.int sn2)]) 1)) (qint (qnth (Proofs.YtiojjmlccehpoaaGreat.q22 [sd0, sd1, (D.int sn2)]) 1))) Bool.false) (qbool (qnth (Proofs.YtiojjmlccehpoaaGreat.q12 []) 0)) Bool.false))]
            else
              none
          else
            none
        else
          none
      else
        none := by kernel_rfl

noncomputable def q6 : List D → Option (List D) := veil (F6 )

theorem q6_eq : q6  = F6  := veil_eq _

noncomputable def tb6 : Tb := Tb.addF tb12 6 S6 (q6 )

theorem ok_tb6 : TbOk env (tb6 ) := addFunF ok_tb12 6 (by kernel_rfl) _ (q6_eq )

/- function 7  -/

def S7_10 : LoopS := ⟨0, [⟨false, (.rows 46)⟩, ⟨false, (.rows 3)⟩, ⟨false, .any⟩, ⟨false, .any⟩, ⟨false, .any⟩, ⟨false, .any⟩, ⟨false, (.lit (.bool false))⟩, ⟨false, (.rows 46)⟩, ⟨false, .any⟩, ⟨true, (.int .u32)⟩, ⟨true, (.int .i64)⟩, ⟨false, .any⟩, ⟨false, .any⟩, ⟨false, .any⟩, ⟨false, .any⟩, ⟨false, .any⟩, ⟨false, .any⟩, ⟨false, .any⟩, ⟨false, .any⟩, ⟨false, .any⟩, ⟨false, .any⟩, ⟨false, .any⟩, ⟨false, .any⟩, ⟨false, .any⟩, ⟨false, .any⟩, ⟨false, .any⟩, ⟨false, .any⟩, ⟨false, .any⟩, ⟨false, .any⟩, ⟨false, .any⟩, ⟨false, .any⟩, ⟨false, .any⟩, ⟨false, .any⟩, ⟨false, .any⟩, ⟨false, .any⟩, ⟨false, .any⟩, ⟨false, .any⟩, ⟨false, .any⟩, ⟨false, .any⟩, ⟨false, .any⟩, ⟨false, .any⟩, ⟨false, .any⟩, ⟨false, .any⟩, ⟨false, .any⟩, ⟨false, .any⟩, ⟨false, .any⟩, ⟨false, .any⟩, ⟨false, .any⟩, ⟨false, .any⟩, ⟨false, .any⟩, ⟨false, .any⟩, ⟨false, .any⟩, ⟨false, .any⟩, ⟨false, .any⟩, ⟨false, .any⟩, ⟨false, .any⟩, ⟨false, .any⟩, ⟨false, .any⟩, ⟨false, .any⟩, ⟨false, .any⟩, ⟨false, .any⟩, ⟨false, .any⟩, ⟨false, .any⟩, ⟨false, .any⟩, ⟨false, .any⟩, ⟨false, .any⟩, ⟨false, .any⟩, ⟨false, .any⟩, ⟨false, .any⟩, ⟨false, .any⟩, ⟨false, .any⟩, ⟨false, .any⟩, ⟨false, .any⟩, ⟨false, .any⟩, ⟨false, .any⟩, ⟨false, .any⟩, ⟨false, .any⟩, ⟨false, .any⟩, ⟨false, .any⟩, ⟨false, .any⟩, ⟨false, .any⟩, ⟨false, .any⟩, ⟨false, .any⟩, ⟨false, .any⟩, ⟨false, .any⟩, ⟨false, .any⟩, ⟨false, .any⟩, ⟨false, .any⟩, ⟨false, .any⟩, ⟨false, .any⟩, ⟨false, .any⟩, ⟨false, .any⟩, ⟨false, .any⟩, ⟨false, .any⟩, ⟨false, .any⟩, ⟨false, .any⟩, ⟨false, .any⟩, ⟨false, .any⟩, ⟨false, .any⟩, ⟨false, .any⟩, ⟨false, .any⟩, ⟨false, .any⟩, ⟨false, .any⟩, ⟨false, .any⟩, ⟨false, .any⟩, ⟨false, .any⟩, ⟨false, .any⟩, ⟨false, .any⟩, ⟨false, .any⟩, ⟨false, .any⟩, ⟨false, .any⟩, ⟨false, .any⟩, ⟨false, .any⟩, ⟨false, .any⟩, ⟨false, .any⟩, ⟨false, .any⟩, ⟨false, .any⟩, ⟨false, .any⟩, ⟨false, .any⟩, ⟨false, .any⟩, ⟨false, .any⟩, ⟨false, .any⟩, ⟨false, .any⟩, ⟨false, .any⟩, ⟨false, .any⟩, ⟨false, .any⟩, ⟨false, .any⟩, ⟨false, .any⟩, ⟨false, .any⟩, ⟨false, .any⟩, ⟨false, .any⟩, ⟨false, .any⟩, ⟨false, .any⟩, ⟨false, .any⟩, ⟨false, .any⟩, ⟨false, .any⟩, ⟨false, .any⟩, ⟨false, .any⟩, ⟨false, .any⟩, ⟨false, .any⟩, ⟨false, .any⟩, ⟨false, .any⟩, ⟨false, .any⟩, ⟨false, .any⟩, ⟨false, .any⟩, ⟨false, .any⟩, ⟨false, .any⟩, ⟨false, .any⟩, ⟨false, .any⟩, ⟨false, .any⟩, ⟨false, .any⟩, ⟨false, .any⟩, ⟨false, .any⟩, ⟨false, .any⟩, ⟨false, .any⟩, ⟨false, .any⟩, ⟨false, .any⟩, ⟨false, .any⟩, ⟨false, .any⟩, ⟨false, .any⟩, ⟨false, .any⟩, ⟨false, .any⟩, ⟨false, .any⟩, ⟨false, .any⟩, ⟨false, .any⟩, ⟨false, .any⟩, ⟨false, .any⟩, ⟨false, .any⟩, ⟨false, .any⟩, ⟨false, .any⟩, ⟨false, .any⟩, ⟨false, .any⟩, ⟨false, .any⟩, ⟨false, .any⟩, ⟨false, .any⟩, ⟨false, .any⟩, ⟨false, .any⟩, ⟨false, .any⟩, ⟨false, .any⟩, ⟨false, .any⟩, ⟨false, .any⟩, ⟨false, .any⟩], [], [⟨0, 0, [⟨false, (.rows 46)⟩, ⟨false, (.rows 3)⟩, ⟨true, .any⟩, ⟨true, .any⟩, ⟨true, .any⟩, ⟨true, .any⟩, ⟨true, (.lit (.bool false))⟩, ⟨false, (.rows 46)⟩, ⟨true, .any⟩, ⟨true, (.int .u32)⟩, ⟨true, .any⟩, ⟨true, .any⟩, ⟨true, .any⟩, ⟨true, .any⟩, ⟨true, .any⟩, ⟨true, .any⟩, ⟨true, .any⟩, ⟨true, .any⟩, ⟨true, .any⟩, ⟨true, .any⟩, ⟨true, .any⟩, ⟨true, .any⟩, ⟨true, .any⟩, ⟨true, .any⟩, ⟨true, .any⟩, ⟨true, .any⟩, ⟨true, .any⟩, ⟨true, .any⟩, ⟨true, .any⟩, ⟨true, .any⟩, ⟨true, .any⟩, ⟨true, .any⟩, ⟨true, .any⟩, ⟨true, .any⟩, ⟨true, .any⟩, ⟨true, .any⟩, ⟨true, .any⟩, ⟨true, .any⟩, ⟨true, .any⟩, ⟨true, .any⟩, ⟨true, .any⟩, ⟨true, .any⟩, ⟨true, .any⟩, ⟨true, .any⟩, ⟨true, .any⟩, ⟨true, .any⟩, ⟨true, .any⟩, ⟨true, .any⟩, ⟨true, .any⟩, ⟨true, .any⟩, ⟨true, .any⟩, ⟨true, .any⟩, ⟨true, .any⟩, ⟨true, .any⟩, ⟨true, .any⟩, ⟨true, .any⟩, ⟨true, .any⟩, ⟨true, .any⟩, ⟨true, .any⟩, ⟨true, .any⟩, ⟨true, .any⟩, ⟨true, .any⟩, ⟨true, .any⟩, ⟨true, .any⟩, ⟨true, .any⟩, ⟨true, .any⟩, ⟨true, .any⟩, ⟨true, .any⟩, ⟨true, .any⟩, ⟨true, .any⟩, ⟨true, .any⟩, ⟨true, .any⟩, ⟨true, .any⟩, ⟨true, .any⟩, ⟨true, .any⟩, ⟨true, .any⟩, ⟨true, .any⟩, ⟨true, .any⟩, ⟨true, .any⟩, ⟨true, .any⟩, ⟨true, .any⟩, ⟨true, .any⟩, ⟨true, .any⟩, ⟨true, .any⟩, ⟨true, .any⟩, ⟨true, .any⟩, ⟨true, .any⟩, ⟨true, .any⟩, ⟨true, .any⟩, ⟨true, .any⟩, ⟨true, .any⟩, ⟨true, .any⟩, ⟨true, .any⟩, ⟨true, .any⟩, ⟨true, .any⟩, ⟨true, .any⟩, ⟨true, .any⟩, ⟨true, .any⟩, ⟨true, .any⟩, ⟨true, .any⟩, ⟨true, .any⟩, ⟨true, .any⟩, ⟨true, .any⟩, ⟨true, .any⟩, ⟨true, .any⟩, ⟨true, .any⟩, ⟨true, .any⟩, ⟨true, .any⟩, ⟨true, .any⟩, ⟨true, .any⟩, ⟨true, .any⟩, ⟨true, .any⟩, ⟨true, .any⟩, ⟨true, .any⟩, ⟨true, .any⟩, ⟨true, .any⟩, ⟨true, .any⟩, ⟨true, .any⟩, ⟨true, .any⟩, ⟨true, .any⟩, ⟨true, .any⟩, ⟨true, .any⟩, ⟨true, .any⟩, ⟨true, .any⟩, ⟨true, .any⟩, ⟨true, .any⟩, ⟨true, .any⟩, ⟨true, .any⟩, ⟨true, .any⟩, ⟨true, .any⟩, ⟨true, .any⟩, ⟨true, .any⟩, ⟨true, .any⟩, ⟨true, .any⟩, ⟨true, .any⟩, ⟨true, .any⟩, ⟨true, .any⟩, ⟨true, .any⟩, ⟨true, .any⟩, ⟨true, .any⟩, ⟨true, .any⟩, ⟨true, .any⟩, ⟨true, .any⟩, ⟨true, .any⟩, ⟨true, .any⟩, ⟨true, .any⟩, ⟨true, .any⟩, ⟨true, .any⟩, ⟨true, .any⟩, ⟨true, .any⟩, ⟨true, .any⟩, ⟨true, .any⟩, ⟨true, .any⟩, ⟨true, .any⟩, ⟨true, .any⟩, ⟨true, .any⟩, ⟨true, .any⟩, ⟨true, .any⟩, ⟨true, .any⟩, ⟨true, .any⟩, ⟨true, .any⟩, ⟨true, .any⟩, ⟨true, .any⟩, ⟨true, .any⟩, ⟨true, .any⟩, ⟨true, .any⟩, ⟨true, .any⟩, ⟨true, .any⟩, ⟨true, .any⟩, ⟨true, .any⟩, ⟨true, .any⟩, ⟨true, .any⟩, ⟨true, .any⟩, ⟨true, .any⟩, ⟨true, .any⟩, ⟨true, .any⟩, ⟨true, .any⟩, ⟨true, .any⟩, ⟨true, .any⟩, ⟨true, .any⟩, ⟨true, .any⟩, ⟨true, .any⟩], []⟩, ⟨1, 0, [⟨false, (.rows 46)⟩, ⟨false, (.rows 3)⟩, ⟨true, .any⟩, ⟨true, .any⟩, ⟨true, .any⟩, ⟨true, .any⟩, ⟨true, (.lit (.bool false))⟩, ⟨false, (.rows 46)⟩, ⟨true, .any⟩, ⟨true, .any⟩, ⟨true, .any⟩, ⟨true, .any⟩, ⟨true, .any⟩, ⟨true, .any⟩, ⟨true, .any⟩, ⟨true, .any⟩, ⟨true, .any⟩, ⟨true, .any⟩, ⟨true, .any⟩, ⟨true, .any⟩, ⟨true, .any⟩, ⟨true, .any⟩, ⟨true, .any⟩, ⟨true, .any⟩, ⟨true, .any⟩, ⟨true, .any⟩, ⟨true, .any⟩, ⟨true, .any⟩, ⟨true, .any⟩, ⟨true, .any⟩, ⟨true, .any⟩, ⟨true, .any⟩, ⟨true, .any⟩, ⟨true, .any⟩, ⟨true, .any⟩, ⟨true, .any⟩, ⟨true, .any⟩, ⟨true, .any⟩, ⟨true, .any⟩, ⟨true, .any⟩, ⟨true, .any⟩, ⟨true, .any⟩, ⟨true, .any⟩, ⟨true, .any⟩, ⟨true, .any⟩, ⟨true, .any⟩, ⟨true, .any⟩, ⟨true, .any⟩, ⟨true, .any⟩, ⟨true, .any⟩, ⟨true, .any⟩, ⟨true, .any⟩, ⟨true, .any⟩, ⟨true, .any⟩, ⟨true, .any⟩, ⟨true, .any⟩, ⟨true, .any⟩, ⟨true, .any⟩, ⟨true, .any⟩, ⟨true, .any⟩, ⟨true, .any⟩, ⟨true, .any⟩, ⟨true, .any⟩, ⟨true, .any⟩, ⟨true, .any⟩, ⟨true, .any⟩, ⟨true, .any⟩, ⟨true, .any⟩, ⟨true, .any⟩, ⟨true, .any⟩, ⟨true, .any⟩, ⟨true, .any⟩, ⟨true, .any⟩, ⟨true, .any⟩, ⟨true, .any⟩, ⟨true, .any⟩, ⟨true, .any⟩, ⟨true, .any⟩, ⟨true, .any⟩, ⟨true, .any⟩, ⟨true, .any⟩, ⟨true, .any⟩, ⟨true, .any⟩, ⟨true, .any⟩, ⟨true, .any⟩, ⟨true, .any⟩, ⟨true, .any⟩, ⟨true, .any⟩, ⟨true, .any⟩, ⟨true, .any⟩, ⟨true, .any⟩, ⟨true, .any⟩, ⟨true, .any⟩, ⟨true, .any⟩, ⟨true, .any⟩, ⟨true, .any⟩, ⟨true, .any⟩, ⟨true, .any⟩, ⟨true, .any⟩, ⟨true, .any⟩, ⟨true, .any⟩, ⟨true, .any⟩, ⟨true, .any⟩, ⟨true, .any⟩, ⟨true, .any⟩, ⟨true, .any⟩, ⟨true, .any⟩, ⟨true, .any⟩, ⟨true, .any⟩, ⟨true, .any⟩, ⟨true, .any⟩, ⟨true, .any⟩, ⟨true, .any⟩, ⟨true, .any⟩, ⟨true, .any⟩, ⟨true, .any⟩, ⟨true, .any⟩, ⟨true, .any⟩, ⟨true, .any⟩, ⟨true, .any⟩, ⟨true, .any⟩, ⟨true, .any⟩, ⟨true, .any⟩, ⟨true, .any⟩, ⟨true, .any⟩, ⟨true, .any⟩, ⟨true, .any⟩, ⟨true, .any⟩, ⟨true, .any⟩, ⟨true, .any⟩, ⟨true, .any⟩, ⟨true, .any⟩, ⟨true, .any⟩, ⟨true, .any⟩, ⟨true, .any⟩, ⟨true, .any⟩, ⟨true, .any⟩, ⟨true, .any⟩, ⟨true, .any⟩, ⟨true, .any⟩, ⟨true, .any⟩, ⟨true, .any⟩, ⟨true, .any⟩, ⟨true, .any⟩, ⟨true, .any⟩, ⟨true, .any⟩, ⟨true, .any⟩, ⟨true, .any⟩, ⟨true, .any⟩, ⟨true, .any⟩, ⟨true, .any⟩, ⟨true, .any⟩, ⟨true, .any⟩, ⟨true, .any⟩, ⟨true, .any⟩, ⟨true, .any⟩, ⟨true, .any⟩, ⟨true, .any⟩, ⟨true, .any⟩, ⟨true, .any⟩, ⟨true, .any⟩, ⟨true, .any⟩, ⟨true, .any⟩, ⟨true, .any⟩, ⟨true, .any⟩, ⟨true, .any⟩, ⟨true, .any⟩, ⟨true, .any⟩, ⟨true, .any⟩, ⟨true, .any⟩, ⟨true, .any⟩, ⟨true, .any⟩, ⟨true, .any⟩, ⟨true, .any⟩, ⟨true, .any⟩, ⟨true, .any⟩, ⟨true, .any⟩, ⟨true, .any⟩, ⟨true, .any⟩, ⟨true, .any⟩, ⟨true, .any⟩, ⟨true, .any⟩], []⟩]⟩

noncomputable def st7_10 (p s : List D) : Option (Sum (List D) (List D)) := stepQX env tb6 60 6 7 (loopC 7 10) S7_10 p s

theorem st7_10_eq (pd0 : D) (pd1 : D) (pd2 : D) (sn0 : Int) (sn1 : Int) : st7_10  [pd0, pd1, pd2] [(D.int sn0), (D.int sn1)] =
    bif (qcmp BinOp.lss sn1 (qlen pd2)) then
      bif (qinb pd2 sn1) then
        bif (qcmp BinOp.neq (qint (qfld (qget pd2 sn1) 0)) sn0) then
          some (Sum.inr [(D.int 1)])
        else
          bif (qinb pd2 sn1) then
            bif (qinb pd2 sn1) then
              bif (qsome (Proofs.YtiojjmlccehpoaaGreat.q23 [(qget pd2 sn1)])) then
                bif (qcmp BinOp.neq (qint (qfld (qget pd2 sn1) 8)) (qint (qnth (Proofs.YtiojjmlccehpoaaGreat.q23 [(qget pd2 sn1)]) 0))) then
                  some (Sum.inr [(D.int 1)])
                else
                  bif (qinb pd2 sn1) then
                    bif (qcmp BinOp.lss (qint (qfld (qget pd2 sn1) 8)) 1) then
                      some (Sum.inr [(D.int 1)])
                    else
                      bif (qinb pd2 sn1) then
                        bif (qinb pd0 sn1) then
                          bif (qcmp BinOp.neq (qint (qfld (qget pd2 sn1) 2)) (qint (qfld (qget pd0 sn1) 2))) then
                            some (Sum.inr [(D.int 1)])
                          else
                            bif (qinb pd2 sn1) then
                              bif (qinb pd0 sn1) then
                                bif (qcmp BinOp.neq (qint (qfld (qget pd2 sn1) 6)) (qint (qfld (qget pd0 sn1) 6))) then
                                  some (Sum.inr [(D.int 1)])
                                else
                                  bif (qinb pd2 sn1) then
                                    some (Sum.inl [(D.int (qbin BinOp.add IntKind.u32 sn0 (qwrap IntKind.u32 (qint (qfld (qget pd2 sn1) 8))))), (D.int (qbin BinOp.add IntKind.i64 sn1 1))])
                                  else
                                    none
                              else
                                none
                            else
                              none
                        else
                          none
                      else
                        none
                  else
                    none
              else
                none
            else
              none
          else
            none
      else
        none
    else
      some (Sum.inr [(D.int 0), (D.int sn0)]) := by
  have h : st7_10  [pd0, pd1, pd2] [(D.int sn0), (D.int sn1)] =
    bif (qcmp BinOp.lss sn1 (qlen pd2)) then
      bif (qinb pd2 sn1) then
        bif (qcmp BinOp.neq (qint (qfld (qget pd2 sn1) 0)) sn0) then
          bif (qeqD pd0 pd0) then
            bif (qeqD pd1 pd1) then
              bif (qeqD pd2 pd2) then
                some (Sum.inr [(D.int 1)])
              else
                none
            else
              none
          else
            none
        else
          bif (qinb pd2 sn1) then
            bif (qinb pd2 sn1) then
              bif (qsome (Proofs.YtiojjmlccehpoaaGreat.q23 [(qget pd2 sn1)])) then
                bif (qcmp BinOp.neq (qint (qfld (qget pd2 sn1) 8)) (qint (qnth (Proofs.YtiojjmlccehpoaaGreat.q23 [(qget pd2 sn1)]) 0))) then
                  bif (qeqD pd0 pd0) then
                    bif (qeqD pd1 pd1) then
                      bif (qeqD pd2 pd2) then
                        some (Sum.inr [(D.int 1)])
                      else
                        none
                    else
                      none
                  else
                    none
                else
                  bif (qinb pd2 sn1) then
                    bif (qcmp BinOp.lss (qint (qfld (qget pd2 sn1) 8)) 1) then
                      bif (qeqD pd0 pd0) then
                        bif (qeqD pd1 pd1) then
                          bif (qeqD pd2 pd2) then
                            some (Sum.inr [(D.int 1)])
                          else
                            none
                        else
                          none
                      else
                        none
                    else
                      bif (qinb pd2 sn1) then
                        bif (qinb pd0 sn1) then
                          bif (qcmp BinOp.neq (qint (qfld (qget pd2 sn1) 2)) (qint (qfld (qget pd0 sn1) 2))) then
                            bif (qeqD pd0 pd0) then
                              bif (qeqD pd1 pd1) then
                                bif (qeqD pd2 pd2) then
                                  some (Sum.inr [(D.int 1)])
                                else
                                  none
                              else
                                none
                            else
                              none
                          else
                            bif (qinb pd2 sn1) then
                              bif (qinb pd0 sn1) then
                                bif (qcmp BinOp.neq (qint (qfld (qget pd2 sn1) 6)) (qint (qfld (qget pd0 sn1) 6))) then
                                  bif (qeqD pd0 pd0) then
                                    bif (qeqD pd1 pd1) then
                                      bif (qeqD pd2 pd2) then
                                        some (Sum.inr [(D.int 1)])
                                      else
                                        none
                                    else
                                      none
                                  else
                                    none
                                else
                                  bif (qinb pd2 sn1) then
                                    bif (qeqD pd0 pd0) then
                                      bif (qeqD pd1 pd1) then
                                        bif (qeqD pd2 pd2) then
                                          some (Sum.inl [(D.int (qbin BinOp.add IntKind.u32 sn0 (qwrap IntKind.u32 (qint (qfld (qget pd2 sn1) 8))))), (D.int (qbin BinOp.add IntKind.i64 sn1 1))])
                                        else
                                          none
                                      else
                                        none
                                    else
                                      none
                                  else
                                    none
                              else
                                none
                            else
                              none
                        else
                          none
                      else
                        none
                  else
                    none
              else
                none
            else
              none
          else
            none
      else
        none
    else
      bif (qeqD pd0 pd0) then
        bif (qeqD pd1 pd1) then
          bif (qeqD pd2 pd2) then
            some (Sum.inr [(D.int 0), (D.int sn0)])
          else
            none
        else
          none
      else
        none := by kernel_rfl
  rw [h]; simp only [qeqD_self, qeqI_self, qeq_len, show qcmp BinOp.eql 0 (qlen (D.list [])) = true from qeq_len [], show ∀ a, qcmp BinOp.eql 1 (qlen (D.list [a])) = true from fun a => qeq_len [a], show ∀ a b, qcmp BinOp.eql 2 (qlen (D.list [a, b])) = true from fun a b => qeq_len [a, b], cond_true]

noncomputable def l7_10 : List D → List D → Option (List D) := veil fun p s => loW (st7_10  p) s

theorem l7_10_eq : l7_10  = fun p s => loW (st7_10  p) s := veil_eq _

noncomputable def tbl7_10 : Tb := Tb.addL tb6 7 10 S7_10.n0 (mkLp S7_10 (l7_10 ))

theorem ok_tbl7_10 : TbOk env (tbl7_10 ) := addLoopQ ok_tb6 7 10 (by kernel_rfl) _ (l7_10_eq )

def S7_16 : LoopS := ⟨0, [⟨false, (.rows 46)⟩, ⟨false, (.rows 3)⟩, ⟨false, .any⟩, ⟨false, .any⟩, ⟨false, .any⟩, ⟨false, .any⟩, ⟨false, (.lit (.bool false))⟩, ⟨false, (.rows 46)⟩, ⟨false, .any⟩, ⟨false, (.int .u32)⟩, ⟨false, .any⟩, ⟨true, (.int .i64)⟩, ⟨false, .any⟩, ⟨false, .any⟩, ⟨false, .any⟩, ⟨false, .any⟩, ⟨false, .any⟩, ⟨false, .any⟩, ⟨false, .any⟩, ⟨false, .any⟩, ⟨false, .any⟩, ⟨false, .any⟩, ⟨false, .any⟩, ⟨false, .any⟩, ⟨false, .any⟩, ⟨false, .any⟩, ⟨false, .any⟩, ⟨false, .any⟩, ⟨false, .any⟩, ⟨false, .any⟩, ⟨false, .any⟩, ⟨false, .any⟩, ⟨false, .any⟩, ⟨false, .any⟩, ⟨false, .any⟩, ⟨false, .any⟩, ⟨false, .any⟩, ⟨false, .any⟩, ⟨false, .any⟩, ⟨false, .any⟩, ⟨false, .any⟩, ⟨false, .any⟩, ⟨false, .any⟩, ⟨false, .any⟩, ⟨false, .any⟩, ⟨false, .any⟩, ⟨false, .any⟩, ⟨false, .any⟩, ⟨false, .any⟩, ⟨false, .any⟩, ⟨false, .any⟩, ⟨false, .any⟩, ⟨false, .any⟩, ⟨false, .any⟩, ⟨false, .any⟩, ⟨false, .any⟩, ⟨false, .any⟩, ⟨false, .any⟩, ⟨false, .any⟩, ⟨false, .any⟩, ⟨false, .any⟩, ⟨false, .any⟩, ⟨false, .any⟩, ⟨false, .any⟩, ⟨false, .any⟩, ⟨false, .any⟩, ⟨false, .any⟩, ⟨false, .any⟩, ⟨false, .any⟩, ⟨false, .any⟩, ⟨false, .any⟩, ⟨false, .any⟩, ⟨false, .any⟩, ⟨false, .any⟩, ⟨false, .any⟩, ⟨false, .any⟩, ⟨false, .any⟩, ⟨false, .any⟩, ⟨false, .any⟩, ⟨false, .any⟩, ⟨false, .any⟩, ⟨false, .any⟩, ⟨false, .any⟩, ⟨false, .any⟩, ⟨false, .any⟩, ⟨false, .any⟩, ⟨false, .any⟩, ⟨false, .any⟩, ⟨false, .any⟩, ⟨false, .any⟩, ⟨false, .any⟩, ⟨false, .any⟩, ⟨false, .any⟩, ⟨false, .any⟩, ⟨false, .any⟩, ⟨false, .any⟩, ⟨false, .any⟩, ⟨false, .any⟩, ⟨false, .any⟩, ⟨false, .any⟩, ⟨false, .any⟩, ⟨false, .any⟩, ⟨false, .any⟩, ⟨false, .any⟩, ⟨false, .any⟩, ⟨false, .any⟩, ⟨false, .any⟩, ⟨false, .any⟩, ⟨false, .any⟩, ⟨false, .any⟩, ⟨false, .any⟩, ⟨false, .any⟩, ⟨false, .any⟩, ⟨false, .any⟩, ⟨false, .any⟩, ⟨false, .any⟩, ⟨false, .any⟩, ⟨false, .any⟩, ⟨false, .any⟩, ⟨false, .any⟩, ⟨false, .any⟩, ⟨false, .any⟩, ⟨false, .any⟩, ⟨false, .any⟩, ⟨false, .any⟩, ⟨false, .any⟩, ⟨false, .any⟩, ⟨false, .any⟩, ⟨false, .any⟩, ⟨false, .any⟩, ⟨false, .any⟩, ⟨false, .any⟩, ⟨false, .any⟩, ⟨false, .any⟩, ⟨false, .any⟩, ⟨false, .any⟩, ⟨false, .any⟩, ⟨false, .any⟩, ⟨false, .any⟩, ⟨false, .any⟩, ⟨false, .any⟩, ⟨false, .any⟩, ⟨false, .any⟩, ⟨false, .any⟩, ⟨false, .any⟩, ⟨false, .any⟩, ⟨false, .any⟩, ⟨false, .any⟩, ⟨false, .any⟩, ⟨false, .any⟩, ⟨false, .any⟩, ⟨false, .any⟩, ⟨false, .any⟩, ⟨false, .any⟩, ⟨false, .any⟩, ⟨false, .any⟩, ⟨false, .any⟩, ⟨false, .any⟩, ⟨false, .any⟩, ⟨false, .any⟩, ⟨false, .any⟩, ⟨false, .any⟩, ⟨false, .any⟩, ⟨false, .any⟩, ⟨false, .any⟩, ⟨false, .any⟩, ⟨false, .any⟩, ⟨false, .any⟩, ⟨false, .any⟩, ⟨false, .any⟩, ⟨false, .any⟩, ⟨false, .any⟩, ⟨false, .any⟩, ⟨false, .any⟩, ⟨false, .any⟩, ⟨false, .any⟩, ⟨false, .any⟩, ⟨false, .any⟩, ⟨false, .any⟩, ⟨false, .any⟩, ⟨false, .any⟩, ⟨false, .any⟩], [], [⟨0, 2, [⟨false, (.rows 46)⟩, ⟨false, (.rows 3)⟩, ⟨true, .any⟩, ⟨true, .any⟩, ⟨true, .any⟩, ⟨true, .any⟩, ⟨true, (.lit (.bool false))⟩, ⟨false, (.rows 46)⟩, ⟨true, .any⟩, ⟨false, (.int .u32)⟩, ⟨true, .any⟩, ⟨true, .any⟩, ⟨true, .any⟩, ⟨true, .any⟩, ⟨true, .any⟩, ⟨true, .any⟩, ⟨true, .any⟩, ⟨true, .any⟩, ⟨true, .any⟩, ⟨true, .any⟩, ⟨true, .any⟩, ⟨true, .any⟩, ⟨true, .any⟩, ⟨true, .any⟩, ⟨true, .any⟩, ⟨true, .any⟩, ⟨true, .any⟩, ⟨true, .any⟩, ⟨true, .any⟩, ⟨true, .any⟩, ⟨true, .any⟩, ⟨true, .any⟩, ⟨true, .any⟩, ⟨true, .any⟩, ⟨true, .any⟩, ⟨true, .any⟩, ⟨true, .any⟩, ⟨true, .any⟩, ⟨true, .any⟩, ⟨true, .any⟩, ⟨true, .any⟩, ⟨true, .any⟩, ⟨true, .any⟩, ⟨true, .any⟩, ⟨true, .any⟩, ⟨true, .any⟩, ⟨true, .any⟩, ⟨true, .any⟩, ⟨true, .any⟩, ⟨true, .any⟩, ⟨true, .any⟩, ⟨true, .any⟩, ⟨true, .any⟩, ⟨true, .any⟩, ⟨true, .any⟩, ⟨true, .any⟩, ⟨true, .any⟩, ⟨true, .any⟩, ⟨true, .any⟩, ⟨true, .any⟩, ⟨true, .any⟩, ⟨true, .any⟩, ⟨true, .any⟩, ⟨true, .any⟩, ⟨true, .any⟩, ⟨true, .any⟩, ⟨true, .any⟩, ⟨true, .any⟩, ⟨true, .any⟩, ⟨true, .any⟩, ⟨true, .any⟩, ⟨true, .any⟩, ⟨true, .any⟩, ⟨true, .any⟩, ⟨true, .any⟩, ⟨true, .any⟩, ⟨true, .any⟩, ⟨true, .any⟩, ⟨true, .any⟩, ⟨true, .any⟩, ⟨true, .any⟩, ⟨true, .any⟩, ⟨true, .any⟩, ⟨true, .any⟩, ⟨true, .any⟩, ⟨true, .any⟩, ⟨true, .any⟩, ⟨true, .any⟩, ⟨true, .any⟩, ⟨true, .any⟩, ⟨true, .any⟩, ⟨true, .any⟩, ⟨true, .any⟩, ⟨true, .any⟩, ⟨true, .any⟩, ⟨true, .any⟩, ⟨true, .any⟩, ⟨true, .any⟩, ⟨true, .any⟩, ⟨true, .any⟩, ⟨true, .any⟩, ⟨true, .any⟩, ⟨true, .any⟩, ⟨true, .any⟩, ⟨true, .any⟩, ⟨true, .any⟩, ⟨true, .any⟩, ⟨true, .any⟩, ⟨true, .any⟩, ⟨true, .any⟩, ⟨true, .any⟩, ⟨true, .any⟩, ⟨true, .any⟩, ⟨true, .any⟩, ⟨true, .any⟩, ⟨true, .any⟩, ⟨true, .any⟩, ⟨true, .any⟩, ⟨true, .any⟩, ⟨true, .any⟩, ⟨true, .any⟩, ⟨true, .any⟩, ⟨true, .any⟩, ⟨true, .any⟩, ⟨true, .any⟩, ⟨true, .any⟩, ⟨true, .any⟩, ⟨true, .any⟩, ⟨true, .any⟩, ⟨true, .any⟩, ⟨true, .any⟩, ⟨true, .any⟩, ⟨true, .any⟩, ⟨true, .any⟩, ⟨true, .any⟩, ⟨true, .any⟩, ⟨true, .any⟩, ⟨true, .any⟩, ⟨true, .any⟩, ⟨true, .any⟩, ⟨true, .any⟩, ⟨true, .any⟩, ⟨true, .any⟩, ⟨true, .any⟩, ⟨true, .any⟩, ⟨true, .any⟩, ⟨true, .any⟩, ⟨true, .any⟩, ⟨true, .any⟩, ⟨true, .any⟩, ⟨true, .any⟩, ⟨true, .any⟩, ⟨true, .any⟩, ⟨true, .any⟩, ⟨true, .any⟩, ⟨true, .any⟩, ⟨true, .any⟩, ⟨true, .any⟩, ⟨true, .any⟩, ⟨true, .any⟩, ⟨true, .any⟩, ⟨true, .any⟩, ⟨true, .any⟩, ⟨true, .any⟩, ⟨true, .any⟩, ⟨true, .any⟩, ⟨true, .any⟩, ⟨true, .any⟩, ⟨true, .any⟩, ⟨true, .any⟩, ⟨true, .any⟩, ⟨true, .any⟩, ⟨true, .any⟩, ⟨true, .any⟩, ⟨true, .any⟩, ⟨true, .any⟩, ⟨true, .any⟩, ⟨true, .any⟩, ⟨true, .any⟩, ⟨true, .any⟩, ⟨true, .any⟩, ⟨true, .any⟩], []⟩, ⟨1, 0, [⟨false, (.rows 46)⟩, ⟨false, (.rows 3)⟩, ⟨true, .any⟩, ⟨true, .any⟩, ⟨true, .any⟩, ⟨true, .any⟩, ⟨true, (.lit (.bool false))⟩, ⟨false, (.rows 46)⟩, ⟨true, .any⟩, ⟨false, (.int .u32)⟩, ⟨true, .any⟩, ⟨true, .any⟩, ⟨true, .any⟩, ⟨true, .any⟩, ⟨true, .any⟩, ⟨true, .any⟩, ⟨true, .any⟩, ⟨true, .any⟩, ⟨true, .any⟩, ⟨true, .any⟩, ⟨true, .any⟩, ⟨true, .any⟩, ⟨true, .any⟩, ⟨true, .any⟩, ⟨true, .any⟩, ⟨true, .any⟩, ⟨true, .any⟩, ⟨true, .any⟩, ⟨true, .any⟩, ⟨true, .any⟩, ⟨true, .any⟩, ⟨true, .any⟩, ⟨true, .any⟩, ⟨true, .any⟩, ⟨true, .any⟩, ⟨true, .any⟩, ⟨true, .any⟩, ⟨true, .any⟩, ⟨true, .any⟩, ⟨true, .any⟩, ⟨true, .any⟩, ⟨true, .any⟩, ⟨true, .any⟩, ⟨true, .any⟩, ⟨true, .any⟩, ⟨true, .any⟩, ⟨true, .any⟩, ⟨true, .any⟩, ⟨true, .any⟩, ⟨true, .any⟩, ⟨true, .any⟩, ⟨true, .any⟩, ⟨true, .any⟩, ⟨true, .any⟩, ⟨true, .any⟩, ⟨true, .any⟩, ⟨true, .any⟩, ⟨true, .any⟩, ⟨true, .any⟩, ⟨true, .any⟩, ⟨true, .any⟩, ⟨true, .any⟩, ⟨true, .any⟩, ⟨true, .any⟩, ⟨true, .any⟩, ⟨true, .any⟩, ⟨true, .any⟩, ⟨true, .any⟩, ⟨true, .any⟩, ⟨true, .any⟩, ⟨true, .any⟩, ⟨true, .any⟩, ⟨true, .any⟩, ⟨true, .any⟩, ⟨true, .any⟩, ⟨true, .any⟩, ⟨true, .any⟩, ⟨true, .any⟩, ⟨true, .any⟩, ⟨true, .any⟩, ⟨true, .any⟩, ⟨true, .any⟩, ⟨true, .any⟩, ⟨true, .any⟩, ⟨true, .any⟩, ⟨true, .any⟩, ⟨true, .any⟩, ⟨true, .any⟩, ⟨true, .any⟩, ⟨true, .any⟩, ⟨true, .any⟩, ⟨true, .any⟩, ⟨true, .any⟩, ⟨true, .any⟩, ⟨true, .any⟩, ⟨true, .any⟩, ⟨true, .any⟩, ⟨true, .any⟩, ⟨true, .any⟩, ⟨true, .any⟩, ⟨true, .any⟩, ⟨true, .any⟩, ⟨true, .any⟩, ⟨true, .any⟩, ⟨true, .any⟩, ⟨true, .any⟩, ⟨true, .any⟩, ⟨true, .any⟩, ⟨true, .any⟩, ⟨true, .any⟩, ⟨true, .any⟩, ⟨true, .any⟩, ⟨true, .any⟩, ⟨true, .any⟩, ⟨true, .any⟩, ⟨true, .any⟩, ⟨true, .any⟩, ⟨true, .any⟩, ⟨true, .any⟩, ⟨true, .any⟩, ⟨true, .any⟩, ⟨true, .any⟩, ⟨true, .any⟩, ⟨true, .any⟩, ⟨true, .any⟩, ⟨true, .any⟩, ⟨true, .any⟩, ⟨true, .any⟩, ⟨true, .any⟩, ⟨true, .any⟩, ⟨true, .any⟩, ⟨true, .any⟩, ⟨true, .any⟩, ⟨true, .any⟩, ⟨true, .any⟩, ⟨true, .any⟩, ⟨true, .any⟩, ⟨true, .any⟩, ⟨true, .any⟩, ⟨true, .any⟩, ⟨true, .any⟩, ⟨true, .any⟩, ⟨true, .any⟩, ⟨true, .any⟩, ⟨true, .any⟩, ⟨true, .any⟩, ⟨true, .any⟩, ⟨true, .any⟩, ⟨true, .any⟩, ⟨true, .any⟩, ⟨true, .any⟩, ⟨true, .any⟩, ⟨true, .any⟩, ⟨true, .any⟩, ⟨true, .any⟩, ⟨true, .any⟩, ⟨true, .any⟩, ⟨true, .any⟩, ⟨true, .any⟩, ⟨true, .any⟩, ⟨true, .any⟩, ⟨true, .any⟩, ⟨true, .any⟩, ⟨true, .any⟩, ⟨true, .any⟩, ⟨true, .any⟩, ⟨true, .any⟩, ⟨true, .any⟩, ⟨true, .any⟩, ⟨true, .any⟩, ⟨true, .any⟩, ⟨true, .any⟩, ⟨true, .any⟩, ⟨true, .any⟩, ⟨true, .any⟩, ⟨true, .any⟩, ⟨true, .any⟩, ⟨true, .any⟩, ⟨true, .any⟩, ⟨true, .any⟩, ⟨true, .any⟩, ⟨true, .any⟩], []⟩]⟩

noncomputable def st7_16 (p s : List D) : Option (Sum (List D) (List D)) := stepQX env tbl7_10 60 6 7 (loopC 7 16) S7_16 p s

theorem st7_16_eq (pd0 : D) (pd1 : D) (pd2 : D) (pn3 : Int) (sn0 : Int) : st7_16  [pd0, pd1, pd2, (D.int pn3)] [(D.int sn0)] =
    bif (qcmp BinOp.lss sn0 (qlen pd2)) then
      bif (qinb pd1 sn0) then
        bif (qcmp BinOp.geq (qint (qget pd1 sn0)) 0) then
          bif (qcmp BinOp.lss (qint (qget pd1 sn0)) (qlen pd2)) then
            bif (qinb pd2 sn0) then
              bif (qinb pd2 (qint (qget pd1 sn0))) then
                bif (qcmp BinOp.neq (qint (qfld (qget pd2 sn0) 1)) (qint (qfld (qget pd2 (qint (qget pd1 sn0))) 0))) then
                  some (Sum.inr [(D.int 1)])
                else
                  bif (qcmp BinOp.eql (qint (qget pd1 sn0)) (qlen pd2)) then
                    bif (qinb pd2 sn0) then
                      bif (qcmp BinOp.neq (qint (qfld (qget pd2 sn0) 1)) pn3) then
                        some (Sum.inr [(D.int 1)])
                      else
                        bif (qcmp BinOp.eql (qint (qget pd1 sn0)) (-1)) then
                          bif (qinb pd2 sn0) then
                            bif (qinb pd0 sn0) then
                              bif (qcmp BinOp.neq (qint (qfld (qget pd2 sn0) 1)) (qint (qfld (qget pd0 sn0) 1))) then
                                some (Sum.inr [(D.int 1)])
                              else
                                some (Sum.inl [(D.int (qbin BinOp.add IntKind.i64 sn0 1))])
                            else
                              none
                          else
                            none
                        else
                          some (Sum.inl [(D.int (qbin BinOp.add IntKind.i64 sn0 1))])
                    else
                      none
                  else
                    bif (qcmp BinOp.eql (qint (qget pd1 sn0)) (-1)) then
                      bif (qinb pd2 sn0) then
                        bif (qinb pd0 sn0) then
                          bif (qcmp BinOp.neq (qint (qfld (qget pd2 sn0) 1)) (qint (qfld (qget pd0 sn0) 1))) then
                            some (Sum.inr [(D.int 1)])
                          else
                            some (Sum.inl [(D.int (qbin BinOp.add IntKind.i64 sn0 1))])
                        else
                          none
                      else
                        none
                    else
                      some (Sum.inl [(D.int (qbin BinOp.add IntKind.i64 sn0 1))])
              else
                none
            else
              none
          else
            bif (qcmp BinOp.eql (qint (qget pd1 sn0)) (qlen pd2)) then
              bif (qinb pd2 sn0) then
                bif (qcmp BinOp.neq (qint (qfld (qget pd2 sn0) 1)) pn3) then
                  some (Sum.inr [(D.int 1)])
                else
                  bif (qcmp BinOp.eql (qint (qget pd1 sn0)) (-1)) then
                    bif (qinb pd2 sn0) then
                      bif (qinb pd0 sn0) then
                        bif (qcmp BinOp.neq (qint (qfld (qget pd2 sn0) 1)) (qint (qfld (qget pd0 sn0) 1))) then
                          some (Sum.inr [(D.int 1)])
                        else
                          some (Sum.inl [(D.int (qbin BinOp.add IntKind.i64 sn0 1))])
                      else
                        none
                    else
                      none
                  else
                    some (Sum.inl [(D.int (qbin BinOp.add IntKind.i64 sn0 1))])
              else
                none
            else
              bif (qcmp BinOp.eql (qint (qget pd1 sn0)) (-1)) then
                bif (qinb pd2 sn0) then
                  bif (qinb pd0 sn0) then
                    bif (qcmp BinOp.neq (qint (qfld (qget pd2 sn0) 1)) (qint (qfld (qget pd0 sn0) 1))) then
                      some (Sum.inr [(D.int 1)])
                    else
                      some (Sum.inl [(D.int (qbin BinOp.add IntKind.i64 sn0 1))])
                  else
                    none
                else
                  none
              else
                some (Sum.inl [(D.int (qbin BinOp.add IntKind.i64 sn0 1))])
        else
          bif (qcmp BinOp.eql (qint (qget pd1 sn0)) (qlen pd2)) then
            bif (qinb pd2 sn0) then
              bif (qcmp BinOp.neq (qint (qfld (qget pd2 sn0) 1)) pn3) then
                some (Sum.inr [(D.int 1)])
              else
                bif (qcmp BinOp.eql (qint (qget pd1 sn0)) (-1)) then
                  bif (qinb pd2 sn0) then
                    bif (qinb pd0 sn0) then
                      bif (qcmp BinOp.neq (qint (qfld (qget pd2 sn0) 1)) (qint (qfld (qget pd0 sn0) 1))) then
                        some (Sum.inr [(D.int 1)])
                      else
                        some (Sum.inl [(D.int (qbin BinOp.add IntKind.i64 sn0 1))])
                    else
                      none
                  else
                    none
                else
                  some (Sum.inl [(D.int (qbin BinOp.add IntKind.i64 sn0 1))])
            else
              none
          else
            bif (qcmp BinOp.eql (qint (qget pd1 sn0)) (-1)) then
              bif (qinb pd2 sn0) then
                bif (qinb pd0 sn0) then
                  bif (qcmp BinOp.neq (qint (qfld (qget pd2 sn0) 1)) (qint (qfld (qget pd0 sn0) 1))) then
                    some (Sum.inr [(D.int 1)])
                  else
                    some (Sum.inl [(D.int (qbin BinOp.add IntKind.i64 sn0 1))])
                else
                  none
              else
                none
            else
              some (Sum.inl [(D.int (qbin BinOp.add IntKind.i64 sn0 1))])
      else
        none
    else
      some (Sum.inr [(D.int 0)]) := by
  have h : st7_16  [pd0, pd1, pd2, (D.int pn3)] [(D.int sn0)] =
    bif (qcmp BinOp.lss sn0 (qlen pd2)) then
      bif (qinb pd1 sn0) then
        bif (qcmp BinOp.geq (qint (qget pd1 sn0)) 0) then
          bif (qcmp BinOp.lss (qint (qget pd1 sn0)) (qlen pd2)) then
            bif (qinb pd2 sn0) then
              bif (qinb pd2 (qint (qget pd1 sn0))) then
                bif (qcmp BinOp.neq (qint (qfld (qget pd2 sn0) 1)) (qint (qfld (qget pd2 (qint (qget pd1 sn0))) 0))) then
                  bif (qeqD pd0 pd0) then
                    bif (qeqD pd1 pd1) then
                      bif (qeqD pd2 pd2) then
                        bif (qeqD (D.int pn3) (D.int pn3)) then
                          some (Sum.inr [(D.int 1)])
                        else
                          none
                      else
                        none
                    else
                      none
                  else
                    none
                else
                  bif (qcmp BinOp.eql (qint (qget pd1 sn0)) (qlen pd2)) then
                    bif (qinb pd2 sn0) then
                      bif (qcmp BinOp.neq (qint (qfld (qget pd2 sn0) 1)) pn3) then
                        bif (qeqD pd0 pd0) then
                          bif (qeqD pd1 pd1) then
                            bif (qeqD pd2 pd2) then
                              bif (qeqD (D.int pn3) (D.int pn3)) then
                                some (Sum.inr [(D.int 1)])
                              else
                                none
                            else
                              none
                          else
                            none
                        else
                          none
                      else
                        bif (qcmp BinOp.eql (qint (qget pd1 sn0)) (-1)) then
                          bif (qinb pd2 sn0) then
                            bif (qinb pd0 sn0) then
                              bif (qcmp BinOp.neq (qint (qfld (qget pd2 sn0) 1)) (qint (qfld (qget pd0 sn0) 1))) then
                                bif (qeqD pd0 pd0) then
                                  bif (qeqD pd1 pd1) then
                                    bif (qeqD pd2 pd2) then
                                      bif (qeqD (D.int pn3) (D.int pn3)) then
                                        some (Sum.inr [(D.int 1)])
                                      else
                                        none
                                    else
                                      none
                                  else
                                    none
                                else
                                  none
                              else
                                bif (qeqD pd0 pd0) then
                                  bif (qeqD pd1 pd1) then
                                    bif (qeqD pd2 pd2) then
                                      bif (qeqD (D.int pn3) (D.int pn3)) then
                                        some (Sum.inl [(D.int (qbin BinOp.add IntKind.i64 sn0 1))])
                                      else
                                        none
                                    else
                                      none
                                  else
                                    none
                                else
                                  none
                            else
                              none
                          else
                            none
                        else
                          bif (qeqD pd0 pd0) then
                            bif (qeqD pd1 pd1) then
                              bif (qeqD pd2 pd2) then
                                bif (qeqD (D.int pn3) (D.int pn3)) then
                                  some (Sum.inl [(D.int (qbin BinOp.add IntKind.i64 sn0 1))])
                                else
                                  none
                              else
                                none
                            else
                              none
                          else
                            none
                    else
                      none
                  else
                    bif (qcmp BinOp.eql (qint (qget pd1 sn0)) (-1)) then
                      bif (qinb pd2 sn0) then
                        bif (qinb pd0 sn0) then
                          bif (qcmp BinOp.neq (qint (qfld (qget pd2 sn0) 1)) (qint (qfld (qget pd0 sn0) 1))) then
                            bif (qeqD pd0 pd0) then
                              bif (qeqD pd1 pd1) then
                                bif (qeqD pd2 pd2) then
                                  bif (qeqD (D.int pn3) (D.int pn3)) then
                                    some (Sum.inr [(D.int 1)])
                                  else
                                    none
                                else
                                  none
                              else
                                none
                            else
                              none
                          else
                            bif (qeqD pd0 pd0) then
                              bif (qeqD pd1 pd1) then
                                bif (qeqD pd2 pd2) then
                                  bif (qeqD (D.int pn3) (D.int pn3)) then
                                    some (Sum.inl [(D.int (qbin BinOp.add IntKind.i64 sn0 1))])
                                  else
                                    none
                                else
                                  none
                              else
                                none
                            else
                              none
                        else
                          none
                      else
                        none
                    else
                      bif (qeqD pd0 pd0) then
                        bif (qeqD pd1 pd1) then
                          bif (qeqD pd2 pd2) then
                            bif (qeqD (D.int pn3) (D.int pn3)) then
                              some (Sum.inl [(D.int (qbin BinOp.add IntKind.i64 sn0 1))])
                            else
                              none
                          else
                            none
                        else
                          none
                      else
                        none
              else
                none
            else
              none
          else
            bif (qcmp BinOp.eql (qint (qget pd1 sn0)) (qlen pd2)) then
              bif (qinb pd2 sn0) then
                bif (qcmp BinOp.neq (qint (qfld (qget pd2 sn0) 1)) pn3) then
                  bif (qeqD pd0 pd0) then
                    bif (qeqD pd1 pd1) then
                      bif (qeqD pd2 pd2) then
                        bif (qeqD (D.int pn3) (D.int pn3)) then
                          some (Sum.inr [(D.int 1)])
                        else
                          none
                      else
                        none
                    else
                      none
                  else
                    none
                else
                  bif (qcmp BinOp.eql (qint (qget pd1 sn0)) (-1)) then
                    bif (qinb pd2 sn0) then
                      bif (qinb pd0 sn0) then
                        bif (qcmp BinOp.neq (qint (qfld (qget pd2 sn0) 1)) (qint (qfld (qget pd0 sn0) 1))) then
                          bif (qeqD pd0 pd0) then
                            bif (qeqD pd1 pd1) then
                              bif (qeqD pd2 pd2) then
                                bif (qeqD (D.int pn3) (D.int pn3)) then
                                  some (Sum.inr [(D.int 1)])
                                else
                                  none
                              else
                                none
                            else
                              none
                          else
                            none
                        else
                          bif (qeqD pd0 pd0) then
                            bif (qeqD pd1 pd1) then
                              bif (qeqD pd2 pd2) then
                                bif (qeqD (D.int pn3) (D.int pn3)) then
                                  some (Sum.inl [(D.int (qbin BinOp.add IntKind.i64 sn0 1))])
                                else
                                  none
                              else
                                none
                            else
                              none
                          else
                            none
                      else
                        none
                    else
                      none
                  else
                    bif (qeqD pd0 pd0) then
                      bif (qeqD pd1 pd1) then
                        bif (qeqD pd2 pd2) then
                          bif (qeqD (D.int pn3) (D.int pn3)) then
                            some (Sum.inl [(D.int (qbin BinOp.add IntKind.i64 sn0 1))])
                          else
                            none
                        else
                          none
                      else
                        none
                    else
                      none
              else
                none
            else
              bif (qcmp BinOp.eql (qint (qget pd1 sn0)) (-1)) then
                bif (qinb pd2 sn0) then
                  bif (qinb pd0 sn0) then
                    bif (qcmp BinOp.neq (qint (qfld (qget pd2 sn0) 1)) (qint (qfld (qget pd0 sn0) 1))) then
                      bif (qeqD pd0 pd0) then
                        bif (qeqD pd1 pd1) then
                          bif (qeqD pd2 pd2) then
                            bif (qeqD (D.int pn3) (D.int pn3)) then
                              some (Sum.inr [(D.int 1)])
                            else
                              none
                          else
                            none
                        else
                          none
                      else
                        none
                    else
                      bif (qeqD pd0 pd0) then
                        bif (qeqD pd1 pd1) then
                          bif (qeqD pd2 pd2) then
                            bif (qeqD (D.int pn3) (D.int pn3)) then
                              some (Sum.inl [(D.int (qbin BinOp.add IntKind.i64 sn0 1))])
                            else
                              none
                          else
                            none
                        else
                          none
                      else
                        none
                  else
                    none
                else
                  none
              else
                bif (qeqD pd0 pd0) then
                  bif (qeqD pd1 pd1) then
                    bif (qeqD pd2 pd2) then
                      bif (qeqD (D.int pn3) (D.int pn3)) then
                        some (Sum.inl [(D.int (qbin BinOp.add IntKind.i64 sn0 1))])
                      else
                        none
                    else
                      none
                  else
                    none
                else
                  none
        else
          bif (qcmp BinOp.eql (qint (qget pd1 sn0)) (qlen pd2)) then
            bif (qinb pd2 sn0) then
              bif (qcmp BinOp.neq (qint (qfld (qget pd2 sn0) 1)) pn3) then
                bif (qeqD pd0 pd0) then
                  bif (qeqD pd1 pd1) then
                    bif (qeqD pd2 pd2) then
                      bif (qeqD (D.int pn3) (D.int pn3)) then
                        some (Sum.inr [(D.int 1)])
                      else
                        none
                    else
                      none
                  else
                    none
                else
                  none
              else
                bif (qcmp BinOp.eql (qint (qget pd1 sn0)) (-1)) then
                  bif (qinb pd2 sn0) then
                    bif (qinb pd0 sn0) then
                      bif (qcmp BinOp.neq (qint (qfld (qget pd2 sn0) 1)) (qint (qfld (qget pd0 sn0) 1))) then
                        bif (qeqD pd0 pd0) then
                          bif (qeqD pd1 pd1) then
                            bif (qeqD pd2 pd2) then
                              bif (qeqD (D.int pn3) (D.int pn3)) then
                                some (Sum.inr [(D.int 1)])
                              else
                                none
                            else
                              none
                          else
                            none
                        else
                          none
                      else
                        bif (qeqD pd0 pd0) then
                          bif (qeqD pd1 pd1) then
                            bif (qeqD pd2 pd2) then
                              bif (qeqD (D.int pn3) (D.int pn3)) then
                                some (Sum.inl [(D.int (qbin BinOp.add IntKind.i64 sn0 1))])
                              else
                                none
                            else
                              none
                          else
                            none
                        else
                          none
                    else
                      none
                  else
                    none
                else
                  bif (qeqD pd0 pd0) then
                    bif (qeqD pd1 pd1) then
                      bif (qeqD pd2 pd2) then
                        bif (qeqD (D.int pn3) (D.int pn3)) then
                          some (Sum.inl [(D.int (qbin BinOp.add IntKind.i64 sn0 1))])
                        else
                          none
                      else
                        none
                    else
                      none
                  else
                    none
            else
              none
          else
            bif (qcmp BinOp.eql (qint (qget pd1 sn0)) (-1)) then
              bif (qinb pd2 sn0) then
                bif (qinb pd0 sn0) then
                  bif (qcmp BinOp.neq (qint (qfld (qget pd2 sn0) 1)) (qint (qfld (qget pd0 sn0) 1))) then
                    bif (qeqD pd0 pd0) then
                      bif (qeqD pd1 pd1) then
                        bif (qeqD pd2 pd2) then
                          bif (qeqD (D.int pn3) (D.int pn3)) then
                            some (Sum.inr [(D.int 1)])
                          else
                            none
                        else
                          none
                      else
                        none
                    else
                      none
                  else
                    bif (qeqD pd0 pd0) then
                      bif (qeqD pd1 pd1) then
                        bif (qeqD pd2 pd2) then
                          bif (qeqD (D.int pn3) (D.int pn3)) then
                            some (Sum.inl [(D.int (qbin BinOp.add IntKind.i64 sn0 1))])
                          else
                            none
                        else
                          none
                      else
                        none
                    else
                      none
                else
                  none
              else
                none
            else
              bif (qeqD pd0 pd0) then
                bif (qeqD pd1 pd1) then
                  bif (qeqD pd2 pd2) then
                    bif (qeqD (D.int pn3) (D.int pn3)) then
                      some (Sum.inl [(D.int (qbin BinOp.add IntKind.i64 sn0 1))])
                    else
                      none
                  else
                    none
                else
                  none
              else
                none
      else
        none
    else
      bif (qeqD pd0 pd0) then
        bif (qeqD pd1 pd1) then
          bif (qeqD pd2 pd2) then
            bif (qeqD (D.int pn3) (D.int pn3)) then
              some (Sum.inr [(D.int 0)])
            else
              none
          else
            none
        else
          none
      else
        none := by kernel_rfl
  rw [h]; simp only [qeqD_self, qeqI_self, qeq_len, show qcmp BinOp.eql 0 (qlen (D.list [])) = true from qeq_len [], show ∀ a, qcmp BinOp.eql 1 (qlen (D.list [a])) = true from fun a => qeq_len [a], show ∀ a b, qcmp BinOp.eql 2 (qlen (D.list [a, b])) = true from fun a b => qeq_len [a, b], cond_true]

noncomputable def l7_16 : List D → List D → Option (List D) := veil fun p s => loW (st7_16  p) s

theorem l7_16_eq : l7_16  = fun p s => loW (st7_16  p) s := veil_eq _

noncomputable def tbl7_16 : Tb := Tb.addL tbl7_10 7 16 S7_16.n0 (mkLp S7_16 (l7_16 ))

theorem ok_tbl7_16 : TbOk env (tbl7_16 ) := addLoopQ ok_tbl7_10 7 16 (by kernel_rfl) _ (l7_16_eq )

def S7 : FunS := ⟨[⟨true, (.rows 46)⟩, ⟨true, (.rows 3)⟩, ⟨true, (.int .u32)⟩], [], [⟨true, .bool⟩], []⟩

noncomputable def F7 : List D → Option (List D) := liftX env tbl7_16 60 6 7 S7

theorem F7_eq  (sd0 : D) (sd1 : D) (sn2 : Int) : F7  [sd0, sd1, (D.int sn2)] =
    bif (qiteB (qcmp BinOp.gtr (qlen sd0) 60) Bool.true (qcmp BinOp.gtr (qlen sd1) 60)) then
      bif (qsome (Proofs.YtiojjmlccehpoaaGreat.q12 [])) then
        some [(D.bool (qbool (qnth (Proofs.YtiojjmlccehpoaaGreat.q12 []) 0)))]
      else
        none
    else
      bif (qsome (Proofs.YtiojjmlccehpoaaGreat.q21 [sd0, sd1, (D.int sn2)])) then
        bif (qcmp BinOp.neq (qint (qnth (Proofs.YtiojjmlccehpoaaGreat.q21 [sd0, sd1, (D.int sn2)]) 1)) 0) then
          bif (qiteB (qcmp BinOp.eql (qlen (qnth (Proofs.YtiojjmlccehpoaaGreat.q21 [sd0, sd1, (D.int sn2)]) 0)) 0) (qsome (Proofs.YtiojjmlccehpoaaGreat.q12 [])) Bool.true) then
            some [(D.bool (qiteB (qcmp BinOp.eql (qlen (qnth (Proofs.YtiojjmlccehpoaaGreat.q21 [sd0, sd1, (D.int sn2)]) 0)) 0) (qbool (qnth (Proofs.YtiojjmlccehpoaaGreat.q12 []) 0)) Bool.false))]
          else
            none
        else
          bif (qiteB (qcmp BinOp.neq (qlen (qnth (Proofs.YtiojjmlccehpoaaGreat.q21 [sd0, sd1, (D.int sn2)]) 0)) (qlen sd0)) Bool.true (qcmp BinOp.neq (qlen sd1) (qlen sd0))) then
            some [(D.bool Bool.false)]
          else
            bif (qsome (Proofs.YtiojjmlccehpoaaGreat.l7_10 [sd0, sd1, (qnth (Proofs.YtiojjmlccehpoaaGreat.q21 [sd0, sd1, (D.int sn2)]) 0)] [(D.int sn2), (D.int 0)])) then
              bif (qcmp BinOp.eql (qint (qnth (Proofs.YtiojjmlccehpoaaGreat.l7_10 [sd0, sd1, (qnth (Proofs.YtiojjmlccehpoaaGreat.q21 [sd0, sd1, (D.int sn2)]) 0)] [(D.int sn2), (D.int 0)]) 0)) 0) then
                bif (qsome (Proofs.YtiojjmlccehpoaaGreat.l7_16 [sd0, sd1, (qnth (Proofs.YtiojjmlccehpoaaGreat.q21 [sd0, sd1, (D.int sn2)]) 0), (D.int (qint (qnth (Proofs.YtiojjmlccehpoaaGreat.l7_10 [sd0, sd1, (qnth (Proofs.YtiojjmlccehpoaaGreat.q21 [sd0, sd1, (D.int sn2)]) 0)] [(D.int sn2), (D.int 0)]) 1)))] [(D.int 0)])) then
                  bif (qcmp BinOp.eql (qint (qnth (Proofs.YtiojjmlccehpoaaGreat.l7_16 [sd0, sd1, (qnth (Proofs.YtiojjmlccehpoaaGreat.q21 [sd0, sd1, (D.int sn2)]) 0), (D.int (qint (qnth (Proofs.YtiojjmlccehpoaaGreat.l7_10 [sd0, sd1, (qnth (Proofs.YtiojjmlccehpoaaGreat.q21 [sd0, sd1, (D.int sn2)]) 0)] [(D.int sn2), (D.int 0)]) 1)))] [(D.int 0)]) 0)) 0) then
                    bif (qsome (Proofs.YtiojjmlccehpoaaGreat.q12 [])) then
                      some [(D.bool (qbool (qnth (Proofs.YtiojjmlccehpoaaGreat.q12 []) 0)))]
                    else
                      none
                  else
                    some [(D.bool Bool.false)]
                else
                  none
              else
                some [(D.bool Bool.false)]
            else
              none
      else
        none := by kernel_rfl

noncomputable def q7 : List D → Option (List D) := veil (F7 )

theorem q7_eq : q7  = F7  := veil_eq _

noncomputable def tb7 : Tb := Tb.addF tbl7_16 7 S7 (q7 )

theorem ok_tb7 : TbOk env (tb7 ) := addFunF ok_tbl7_16 7 (by kernel_rfl) _ (q7_eq )

end Go.Proofs.YtiojjmlccehpoaaGreat
