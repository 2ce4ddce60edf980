/-
  A slice of instructions is cloned: nil, or not (function 70).
-/
import Derived.Test.YtiojjmlccehpoaaGreatM1
import Derived.Test.YtiojjmlccehpoaaGreatSp
import Derived.KernelRfl
namespace Go.Proofs.YtiojjmlccehpoaaGreat
open Go Go.AM

def S70 : FunS := ⟨[⟨true, (.rows 46)⟩], [], [⟨true, (.osl 0 46)⟩], [(.lst true 46)]⟩

theorem run70n (c : Nat) : bodyK (envF env tb15 70) (runTb env tb15 60 6) 60 70 [.sc (.slice none 0 c)] (heapF S70 [] []) (retF S70 []) = some [.list []] := by
  have h : bodyK (envF env tb15 70) (runTb env tb15 60 6) 60 70 [.sc (.slice none 0 c)] (heapF S70 [] []) (retF S70 []) = bif qcmp BinOp.eql 0 (qlen (D.list [])) then some [.list []] else none := by kernel_rfl
  rw [h, show qcmp BinOp.eql 0 (qlen (D.list [])) = true from qeq_len []]; rfl
theorem run70z (d : D) : bodyK (envF env tb15 70) (runTb env tb15 60 6) 60 70 [.rowz 46 d] (heapF S70 [] []) (retF S70 []) =
  bif qmem (qlen (qapp (D.list []) d)) 64 then (bif (qcmp BinOp.eql (qlen (qapp (D.list []) d)) (qlen (qapp (D.list []) d))) then some [qapp (D.list []) d] else none) else none := by kernel_rfl

noncomputable def F70 (ds : List D) : Option (List D) := bif qmem (qlen (qapp (D.list []) (ds.headD .other))) 64 then some [qapp (D.list []) (ds.headD .other)] else none

noncomputable def q70 : List D → Option (List D) := veil F70
theorem q70_eq : q70 = F70 := veil_eq _

theorem sound70 : SoundF env.P 70 S70 q70 := by
  intro p s r hp hq lo w0 ρ E w vs inv ra
  obtain rfl : p = [] := List.length_eq_zero_iff.1 hp
  have ha : argF S70 [] s = [.rows 46 (s.headD .other)] := by
    cases s <;> rfl
  have hh : heapF S70 [] s = heapF S70 [] [] := rfl
  rw [q70_eq] at hq
  unfold F70 at hq
  simp only [List.nil_append] at hq
  rw [ha] at ra
  generalize hd : s.headD .other = d at *
  cases hm : qmem (qlen (qapp (D.list []) d)) 64 with
  | false => rw [hm] at hq; cases hq
  | true =>
    rw [hm] at hq
    simp only [cond_true, Option.some.injEq] at hq
    subst hq
    rw [hh] at inv
    generalize hvs : vs.toList = vl at ra
    obtain ⟨v, vl', rfl, rv, hn⟩ : ∃ v vs', vl = v :: vs' ∧ Rep ρ E w (AV.rows 46 d) v ∧ vs' = [] := by simpa only [RepL] using ra
    · subst hn
      simp only [Rep] at rv
      obtain ⟨a, cap, rfl, hc, hx⟩ := id rv
      cases a with
      | none =>
        have he : d.toList = [] := by
          rcases hx with h | ⟨_, _, h, _⟩
          · exact h
          · cases h
        have he' : qapp (D.list []) d = .list [] := by rw [qapp_eq]; unfold D.app; rw [he]; rfl
        rw [he']
        refine lift_ok (av := [.sc (.slice none 0 cap)]) envOk ok_tb15 60 6 (run70n cap) rfl lo w0 ρ E w vs inv ?_
        rw [hvs, he]
        simp [RepL, Rep]
      | some a =>
        refine lift_ok (av := [.rowz 46 d]) envOk ok_tb15 60 6 (p := []) (r := [qapp (D.list []) d]) (S := S70) (by rw [run70z, hm, qeqI_self]; rfl) rfl lo w0 ρ E w vs inv ?_
        rw [hvs]
        simp only [RepL]
        exact ⟨_, _, rfl, by simp only [Rep]; exact ⟨rv, _, _, _, rfl⟩, rfl⟩

noncomputable def tb70 : Tb := Tb.addF tb15 70 S70 q70
theorem ok_tb70 : TbOk env tb70 := TbOk.addF ok_tb15 (by kernel_rfl) sound70

end Go.Proofs.YtiojjmlccehpoaaGreat

open Go Go.AM
namespace Go.Proofs.YtiojjmlccehpoaaGreat
set_option maxRecDepth 100000
set_option linter.unusedSimpArgs false
set_option linter.unusedVariables false
/- function 21  -/

def S21_7 : LoopS := ⟨0, [⟨false, (.rows 46)⟩, ⟨false, (.rows 3)⟩, ⟨false, (.int .u32)⟩, ⟨false, .any⟩, ⟨false, .any⟩, ⟨false, .any⟩, ⟨false, (.lit (.slice none 0 0))⟩, ⟨false, (.lit (.int .i64 0))⟩, ⟨false, (.osl 0 46)⟩, ⟨false, (.osl 1 22)⟩, ⟨true, (.int .i64)⟩, ⟨false, .any⟩, ⟨false, .any⟩, ⟨false, .any⟩, ⟨false, .any⟩, ⟨false, .any⟩, ⟨false, .any⟩, ⟨false, .any⟩, ⟨false, .any⟩, ⟨false, .any⟩, ⟨false, .any⟩, ⟨false, .any⟩, ⟨false, .any⟩, ⟨false, .any⟩, ⟨false, .any⟩, ⟨false, .any⟩, ⟨false, .any⟩, ⟨false, (.int .i64)⟩, ⟨true, (.int .i64)⟩, ⟨false, .any⟩, ⟨false, .any⟩, ⟨false, .any⟩, ⟨false, .any⟩, ⟨false, .any⟩, ⟨false, .any⟩, ⟨false, .any⟩, ⟨false, .any⟩, ⟨false, .any⟩, ⟨false, .any⟩, ⟨false, .any⟩, ⟨false, .any⟩, ⟨false, .any⟩, ⟨false, .any⟩, ⟨false, .any⟩, ⟨false, .any⟩, ⟨false, .any⟩, ⟨false, .any⟩, ⟨false, .any⟩, ⟨false, .any⟩, ⟨false, .any⟩, ⟨false, .any⟩, ⟨false, .any⟩, ⟨false, .any⟩, ⟨false, .any⟩, ⟨false, .any⟩, ⟨false, .any⟩, ⟨false, .any⟩, ⟨false, .any⟩, ⟨false, .any⟩, ⟨false, .any⟩, ⟨false, .any⟩, ⟨false, .any⟩, ⟨false, .any⟩, ⟨false, .any⟩, ⟨false, .any⟩, ⟨false, .any⟩, ⟨false, .any⟩, ⟨false, .any⟩, ⟨false, .any⟩, ⟨false, .any⟩, ⟨false, .any⟩, ⟨false, .any⟩, ⟨false, .any⟩, ⟨false, .any⟩, ⟨false, .any⟩, ⟨false, .any⟩, ⟨false, .any⟩, ⟨false, .any⟩, ⟨false, .any⟩, ⟨false, .any⟩, ⟨false, .any⟩, ⟨false, .any⟩, ⟨false, .any⟩, ⟨false, .any⟩, ⟨false, .any⟩, ⟨false, .any⟩, ⟨false, .any⟩, ⟨false, .any⟩, ⟨false, .any⟩, ⟨false, .any⟩, ⟨false, .any⟩, ⟨false, .any⟩, ⟨false, .any⟩, ⟨false, .any⟩, ⟨false, .any⟩, ⟨false, .any⟩, ⟨false, .any⟩, ⟨false, .any⟩, ⟨false, .any⟩, ⟨false, .any⟩, ⟨false, .any⟩, ⟨false, .any⟩, ⟨false, .any⟩, ⟨false, .any⟩, ⟨false, .any⟩, ⟨false, .any⟩, ⟨false, .any⟩, ⟨false, .any⟩, ⟨false, .any⟩, ⟨false, .any⟩, ⟨false, .any⟩, ⟨false, .any⟩, ⟨false, .any⟩, ⟨false, .any⟩, ⟨false, .any⟩, ⟨false, .any⟩, ⟨false, .any⟩, ⟨false, .any⟩, ⟨false, .any⟩, ⟨false, .any⟩, ⟨false, .any⟩, ⟨false, .any⟩, ⟨false, .any⟩, ⟨false, .any⟩, ⟨false, .any⟩, ⟨false, .any⟩, ⟨false, .any⟩, ⟨false, .any⟩, ⟨false, .any⟩, ⟨false, .any⟩, ⟨false, .any⟩, ⟨false, .any⟩, ⟨false, .any⟩, ⟨false, .any⟩, ⟨false, .any⟩, ⟨false, .any⟩, ⟨false, .any⟩], [(.lst true 22), (.lst true 46)], [⟨0, 0, [⟨false, (.rows 46)⟩, ⟨false, (.rows 3)⟩, ⟨false, (.int .u32)⟩, ⟨true, .any⟩, ⟨true, .any⟩, ⟨true, .any⟩, ⟨true, (.lit (.slice none 0 0))⟩, ⟨true, (.lit (.int .i64 0))⟩, ⟨true, (.osl 0 46)⟩, ⟨true, (.osl 1 22)⟩, ⟨true, (.int .i64)⟩, ⟨true, .any⟩, ⟨true, .any⟩, ⟨true, .any⟩, ⟨true, .any⟩, ⟨true, .any⟩, ⟨true, .any⟩, ⟨true, .any⟩, ⟨true, .any⟩, ⟨true, .any⟩, ⟨true, .any⟩, ⟨true, .any⟩, ⟨true, .any⟩, ⟨true, .any⟩, ⟨true, .any⟩, ⟨true, .any⟩, ⟨true, .any⟩, ⟨false, (.int .i64)⟩, ⟨true, .any⟩, ⟨true, .any⟩, ⟨true, .any⟩, ⟨true, .any⟩, ⟨true, .any⟩, ⟨true, .any⟩, ⟨true, .any⟩, ⟨true, .any⟩, ⟨true, .any⟩, ⟨true, .any⟩, ⟨true, .any⟩, ⟨true, .any⟩, ⟨true, .any⟩, ⟨true, .any⟩, ⟨true, .any⟩, ⟨true, .any⟩, ⟨true, .any⟩, ⟨true, .any⟩, ⟨true, .any⟩, ⟨true, .any⟩, ⟨true, .any⟩, ⟨true, .any⟩, ⟨true, .any⟩, ⟨true, .any⟩, ⟨true, .any⟩, ⟨true, .any⟩, ⟨true, .any⟩, ⟨true, .any⟩, ⟨true, .any⟩, ⟨true, .any⟩, ⟨true, .any⟩, ⟨true, .any⟩, ⟨true, .any⟩, ⟨true, .any⟩, ⟨true, .any⟩, ⟨true, .any⟩, ⟨true, .any⟩, ⟨true, .any⟩, ⟨true, .any⟩, ⟨true, .any⟩, ⟨true, .any⟩, ⟨true, .any⟩, ⟨true, .any⟩, ⟨true, .any⟩, ⟨true, .any⟩, ⟨true, .any⟩, ⟨true, .any⟩, ⟨true, .any⟩, ⟨true, .any⟩, ⟨true, .any⟩, ⟨true, .any⟩, ⟨true, .any⟩, ⟨true, .any⟩, ⟨true, .any⟩, ⟨true, .any⟩, ⟨true, .any⟩, ⟨true, .any⟩, ⟨true, .any⟩, ⟨true, .any⟩, ⟨true, .any⟩, ⟨true, .any⟩, ⟨true, .any⟩, ⟨true, .any⟩, ⟨true, .any⟩, ⟨true, .any⟩, ⟨true, .any⟩, ⟨true, .any⟩, ⟨true, .any⟩, ⟨true, .any⟩, ⟨true, .any⟩, ⟨true, .any⟩, ⟨true, .any⟩, ⟨true, .any⟩, ⟨true, .any⟩, ⟨true, .any⟩, ⟨true, .any⟩, ⟨true, .any⟩, ⟨true, .any⟩, ⟨true, .any⟩, ⟨true, .any⟩, ⟨true, .any⟩, ⟨true, .any⟩, ⟨true, .any⟩, ⟨true, .any⟩, ⟨true, .any⟩, ⟨true, .any⟩, ⟨true, .any⟩, ⟨true, .any⟩, ⟨true, .any⟩, ⟨true, .any⟩, ⟨true, .any⟩, ⟨true, .any⟩, ⟨true, .any⟩, ⟨true, .any⟩, ⟨true, .any⟩, ⟨true, .any⟩, ⟨true, .any⟩, ⟨true, .any⟩, ⟨true, .any⟩, ⟨true, .any⟩, ⟨true, .any⟩, ⟨true, .any⟩, ⟨true, .any⟩, ⟨true, .any⟩, ⟨true, .any⟩, ⟨true, .any⟩, ⟨true, .any⟩, ⟨true, .any⟩, ⟨true, .any⟩], [(.lst true 22), (.lst true 46)]⟩]⟩

noncomputable def st21_7 (p s : List D) : Option (Sum (List D) (List D)) := stepQX env tb70 60 6 21 (loopC 21 7) S21_7 p s

noncomputable def st21_7_a0 (pd0 : D) (pd1 : D) (pn2 : Int) (pn3 : Int) (sn0 : Int) (sn1 : Int) (sd2 : D) (sd3 : D) : D := (D.agg [(D.int (qint (qget (qapp sd2 (D.list [(D.int (qbin BinOp.add IntKind.u32 pn2 (qwrap IntKind.u32 sn0)))])) sn1))), (D.int (qint (qfld (qget sd3 sn1) 1))), (D.int (qint (qfld (qget sd3 sn1) 2))), (D.int (qint (qfld (qget sd3 sn1) 3))), (D.int (qint (qfld (qget sd3 sn1) 4))), (D.int (qint (qfld (qget sd3 sn1) 5))), (D.int (qint (qfld (qget sd3 sn1) 6))), (D.int (qint (qfld (qget sd3 sn1) 7))), (D.int (qint (qfld (qget sd3 sn1) 8)))])

noncomputable def st21_7_a2 (pd0 : D) (pd1 : D) (pn2 : Int) (pn3 : Int) (sn0 : Int) (sn1 : Int) (sd2 : D) (sd3 : D) : D := (D.agg [(D.int (qint (qfld (qget sd3 sn1) 0))), (D.int (qint (qfld (qget sd3 sn1) 1))), (D.int (qint (qfld (qget sd3 sn1) 2))), (D.int 2), (D.int (qint (qfld (qget sd3 sn1) 4))), (D.int (qint (qfld (qget sd3 sn1) 5))), (D.int (qint (qfld (qget sd3 sn1) 6))), (D.int (qint (qfld (qget sd3 sn1) 7))), (D.int (qint (qfld (qget sd3 sn1) 8)))])

noncomputable def st21_7_a5 (pd0 : D) (pd1 : D) (pn2 : Int) (pn3 : Int) (sn0 : Int) (sn1 : Int) (sd2 : D) (sd3 : D) : D := (qset sd3 sn1 (st21_7_a0 pd0 pd1 pn2 pn3 sn0 sn1 sd2 sd3))

noncomputable def st21_7_a1 (pd0 : D) (pd1 : D) (pn2 : Int) (pn3 : Int) (sn0 : Int) (sn1 : Int) (sd2 : D) (sd3 : D) : D := (D.agg [(D.int (qint (qfld (qget (st21_7_a5 pd0 pd1 pn2 pn3 sn0 sn1 sd2 sd3) sn1) 0))), (D.int (qint (qfld (qget (st21_7_a5 pd0 pd1 pn2 pn3 sn0 sn1 sd2 sd3) sn1) 1))), (D.int (qint (qfld (qget (st21_7_a5 pd0 pd1 pn2 pn3 sn0 sn1 sd2 sd3) sn1) 2))), (D.int (qint (qfld (qget (st21_7_a5 pd0 pd1 pn2 pn3 sn0 sn1 sd2 sd3) sn1) 3))), (D.int (qint (qfld (qget (st21_7_a5 pd0 pd1 pn2 pn3 sn0 sn1 sd2 sd3) sn1) 4))), (D.int (qint (qfld (qget (st21_7_a5 pd0 pd1 pn2 pn3 sn0 sn1 sd2 sd3) sn1) 5))), (D.int (qint (qfld (qget (st21_7_a5 pd0 pd1 pn2 pn3 sn0 sn1 sd2 sd3) sn1) 6))), (D.int (qint (qfld (qget (st21_7_a5 pd0 pd1 pn2 pn3 sn0 sn1 sd2 sd3) sn1) 7))), (D.int (qint (qnth (Proofs.YtiojjmlccehpoaaGreat.q23 [(qget (st21_7_a5 pd0 pd1 pn2 pn3 sn0 sn1 sd2 sd3) sn1)]) 0)))])

noncomputable def st21_7_a6 (pd0 : D) (pd1 : D) (pn2 : Int) (pn3 : Int) (sn0 : Int) (sn1 : Int) (sd2 : D) (sd3 : D) : D := (qset (st21_7_a5 pd0 pd1 pn2 pn3 sn0 sn1 sd2 sd3) sn1 (st21_7_a1 pd0 pd1 pn2 pn3 sn0 sn1 sd2 sd3))

noncomputable def st21_7_a7 (pd0 : D) (pd1 : D) (pn2 : Int) (pn3 : Int) (sn0 : Int) (sn1 : Int) (sd2 : D) (sd3 : D) : D := (qset sd3 sn1 (st21_7_a2 pd0 pd1 pn2 pn3 sn0 sn1 sd2 sd3))

noncomputable def st21_7_a3 (pd0 : D) (pd1 : D) (pn2 : Int) (pn3 : Int) (sn0 : Int) (sn1 : Int) (sd2 : D) (sd3 : D) : D := (D.agg [(D.int (qint (qget (qapp sd2 (D.list [(D.int (qbin BinOp.add IntKind.u32 pn2 (qwrap IntKind.u32 sn0)))])) sn1))), (D.int (qint (qfld (qget (st21_7_a7 pd0 pd1 pn2 pn3 sn0 sn1 sd2 sd3) sn1) 1))), (D.int (qint (qfld (qget (st21_7_a7 pd0 pd1 pn2 pn3 sn0 sn1 sd2 sd3) sn1) 2))), (D.int (qint (qfld (qget (st21_7_a7 pd0 pd1 pn2 pn3 sn0 sn1 sd2 sd3) sn1) 3))), (D.int (qint (qfld (qget (st21_7_a7 pd0 pd1 pn2 pn3 sn0 sn1 sd2 sd3) sn1) 4))), (D.int (qint (qfld (qget (st21_7_a7 pd0 pd1 pn2 pn3 sn0 sn1 sd2 sd3) sn1) 5))), (D.int (qint (qfld (qget (st21_7_a7 pd0 pd1 pn2 pn3 sn0 sn1 sd2 sd3) sn1) 6))), (D.int (qint (qfld (qget (st21_7_a7 pd0 pd1 pn2 pn3 sn0 sn1 sd2 sd3) sn1) 7))), (D.int (qint (qfld (qget (st21_7_a7 pd0 pd1 pn2 pn3 sn0 sn1 sd2 sd3) sn1) 8)))])

noncomputable def st21_7_a8 (pd0 : D) (pd1 : D) (pn2 : Int) (pn3 : Int) (sn0 : Int) (sn1 : Int) (sd2 : D) (sd3 : D) : D := (qset (st21_7_a7 pd0 pd1 pn2 pn3 sn0 sn1 sd2 sd3) sn1 (st21_7_a3 pd0 pd1 pn2 pn3 sn0 sn1 sd2 sd3))

noncomputable def st21_7_a4 (pd0 : D) (pd1 : D) (pn2 : Int) (pn3 : Int) (sn0 : Int) (sn1 : Int) (sd2 : D) (sd3 : D) : D := (D.agg [(D.int (qint (qfld (qget (st21_7_a8 pd0 pd1 pn2 pn3 sn0 sn1 sd2 sd3) sn1) 0))), (D.int (qint (qfld (qget (st21_7_a8 pd0 pd1 pn2 pn3 sn0 sn1 sd2 sd3) sn1) 1))), (D.int (qint (qfld (qget (st21_7_a8 pd0 pd1 pn2 pn3 sn0 sn1 sd2 sd3) sn1) 2))), (D.int (qint (qfld (qget (st21_7_a8 pd0 pd1 pn2 pn3 sn0 sn1 sd2 sd3) sn1) 3))), (D.int (qint (qfld (qget (st21_7_a8 pd0 pd1 pn2 pn3 sn0 sn1 sd2 sd3) sn1) 4))), (D.int (qint (qfld (qget (st21_7_a8 pd0 pd1 pn2 pn3 sn0 sn1 sd2 sd3) sn1) 5))), (D.int (qint (qfld (qget (st21_7_a8 pd0 pd1 pn2 pn3 sn0 sn1 sd2 sd3) sn1) 6))), (D.int (qint (qfld (qget (st21_7_a8 pd0 pd1 pn2 pn3 sn0 sn1 sd2 sd3) sn1) 7))), (D.int (qint (qnth (Proofs.YtiojjmlccehpoaaGreat.q23 [(qget (st21_7_a8 pd0 pd1 pn2 pn3 sn0 sn1 sd2 sd3) sn1)]) 0)))])

noncomputable def st21_7_a9 (pd0 : D) (pd1 : D) (pn2 : Int) (pn3 : Int) (sn0 : Int) (sn1 : Int) (sd2 : D) (sd3 : D) : D := (qset (st21_7_a8 pd0 pd1 pn2 pn3 sn0 sn1 sd2 sd3) sn1 (st21_7_a4 pd0 pd1 pn2 pn3 sn0 sn1 sd2 sd3))

theorem st21_7_eq (pd0 : D) (pd1 : D) (pn2 : Int) (pn3 : Int) (sn0 : Int) (sn1 : Int) (sd2 : D) (sd3 : D) : st21_7  [pd0, pd1, (D.int pn2), (D.int pn3)] [(D.int sn0), (D.int sn1), sd2, sd3] =
    bif (qcmp BinOp.lss sn1 pn3) then
      bif (qcmp BinOp.leq 0 sn1) then
        bif (qcmp BinOp.lss sn1 (qlen sd3)) then
          bif (qinb sd3 sn1) then
            bif (qcmp BinOp.eql (qint (qfld (qget sd3 sn1) 2)) 20) then
              bif (qcmp BinOp.leq 0 sn1) then
                bif (qcmp BinOp.lss sn1 (qlen sd3)) then
                  bif (qinb sd3 sn1) then
                    bif (qmem (qlen (qapp sd2 (D.list [(D.int (qbin BinOp.add IntKind.u32 pn2 (qwrap IntKind.u32 sn0)))]))) 4) then
                      bif (qcmp BinOp.leq 0 sn1) then
                        bif (qcmp BinOp.lss sn1 (qlen (qapp sd2 (D.list [(D.int (qbin BinOp.add IntKind.u32 pn2 (qwrap IntKind.u32 sn0)))])))) then
                          bif (qinb (qapp sd2 (D.list [(D.int (qbin BinOp.add IntKind.u32 pn2 (qwrap IntKind.u32 sn0)))])) sn1) then
                            bif (qcmp BinOp.leq 0 sn1) then
                              bif (qcmp BinOp.lss sn1 (qlen sd3)) then
                                bif (qinb (st21_7_a7 pd0 pd1 pn2 pn3 sn0 sn1 sd2 sd3) sn1) then
                                  bif (qcmp BinOp.leq 0 sn1) then
                                    bif (qcmp BinOp.lss sn1 (qlen sd3)) then
                                      bif (qinb (st21_7_a8 pd0 pd1 pn2 pn3 sn0 sn1 sd2 sd3) sn1) then
                                        bif (qsome (Proofs.YtiojjmlccehpoaaGreat.q23 [(qget (st21_7_a8 pd0 pd1 pn2 pn3 sn0 sn1 sd2 sd3) sn1)])) then
                                          bif (qcmp BinOp.leq 0 sn1) then
                                            bif (qcmp BinOp.lss sn1 (qlen sd3)) then
                                              bif (qinb (st21_7_a8 pd0 pd1 pn2 pn3 sn0 sn1 sd2 sd3) sn1) then
                                                bif (qcmp BinOp.leq 0 sn1) then
                                                  bif (qcmp BinOp.lss sn1 (qlen sd3)) then
                                                    bif (qinb (st21_7_a9 pd0 pd1 pn2 pn3 sn0 sn1 sd2 sd3) sn1) then
                                                      bif (qcmp BinOp.eql (qlen sd3) (qlen (st21_7_a9 pd0 pd1 pn2 pn3 sn0 sn1 sd2 sd3))) then
                                                        some (Sum.inl [(D.int (qbin BinOp.add IntKind.i64 sn0 (qint (qfld (qget (st21_7_a9 pd0 pd1 pn2 pn3 sn0 sn1 sd2 sd3) sn1) 8)))), (D.int (qbin BinOp.add IntKind.i64 sn1 1)), (qapp sd2 (D.list [(D.int (qbin BinOp.add IntKind.u32 pn2 (qwrap IntKind.u32 sn0)))])), (st21_7_a9 pd0 pd1 pn2 pn3 sn0 sn1 sd2 sd3)])
                                                      else
                                                        none
                                                    else
                                                      none
                                                  else
                                                    none
                                                else
                                                  none
                                              else
                                                none
                                            else
                                              none
                                          else
                                            none
                                        else
                                          none
                                      else
                                        none
                                    else
                                      none
                                  else
                                    none
                                else
                                  none
                              else
                                none
                            else
                              none
                          else
                            none
                        else
                          none
                      else
                        none
                    else
                      none
                  else
                    none
                else
                  none
              else
                none
            else
              bif (qmem (qlen (qapp sd2 (D.list [(D.int (qbin BinOp.add IntKind.u32 pn2 (qwrap IntKind.u32 sn0)))]))) 4) then
                bif (qcmp BinOp.leq 0 sn1) then
                  bif (qcmp BinOp.lss sn1 (qlen (qapp sd2 (D.list [(D.int (qbin BinOp.add IntKind.u32 pn2 (qwrap IntKind.u32 sn0)))])))) then
                    bif (qinb (qapp sd2 (D.list [(D.int (qbin BinOp.add IntKind.u32 pn2 (qwrap IntKind.u32 sn0)))])) sn1) then
                      bif (qcmp BinOp.leq 0 sn1) then
                        bif (qcmp BinOp.lss sn1 (qlen sd3)) then
                          bif (qinb sd3 sn1) then
                            bif (qcmp BinOp.leq 0 sn1) then
                              bif (qcmp BinOp.lss sn1 (qlen sd3)) then
                                bif (qinb (st21_7_a5 pd0 pd1 pn2 pn3 sn0 sn1 sd2 sd3) sn1) then
                                  bif (qsome (Proofs.YtiojjmlccehpoaaGreat.q23 [(qget (st21_7_a5 pd0 pd1 pn2 pn3 sn0 sn1 sd2 sd3) sn1)])) then
                                    bif (qcmp BinOp.leq 0 sn1) then
                                      bif (qcmp BinOp.lss sn1 (qlen sd3)) then
                                        bif (qinb (st21_7_a5 pd0 pd1 pn2 pn3 sn0 sn1 sd2 sd3) sn1) then
                                          bif (qcmp BinOp.leq 0 sn1) then
                                            bif (qcmp BinOp.lss sn1 (qlen sd3)) then
                                              bif (qinb (st21_7_a6 pd0 pd1 pn2 pn3 sn0 sn1 sd2 sd3) sn1) then
                                                bif (qcmp BinOp.eql (qlen sd3) (qlen (st21_7_a6 pd0 pd1 pn2 pn3 sn0 sn1 sd2 sd3))) then
                                                  some (Sum.inl [(D.int (qbin BinOp.add IntKind.i64 sn0 (qint (qfld (qget (st21_7_a6 pd0 pd1 pn2 pn3 sn0 sn1 sd2 sd3) sn1) 8)))), (D.int (qbin BinOp.add IntKind.i64 sn1 1)), (qapp sd2 (D.list [(D.int (qbin BinOp.add IntKind.u32 pn2 (qwrap IntKind.u32 sn0)))])), (st21_7_a6 pd0 pd1 pn2 pn3 sn0 sn1 sd2 sd3)])
                                                else
                                                  none
                                              else
                                                none
                                            else
                                              none
                                          else
                                            none
                                        else
                                          none
                                      else
                                        none
                                    else
                                      none
                                  else
                                    none
                                else
                                  none
                              else
                                none
                            else
                              none
                          else
                            none
                        else
                          none
                      else
                        none
                    else
                      none
                  else
                    none
                else
                  none
              else
                none
          else
            none
        else
          none
      else
        none
    else
      some (Sum.inr [(D.int 0), (D.int sn0), sd2, sd3]) := by
  have h : st21_7  [pd0, pd1, (D.int pn2), (D.int pn3)] [(D.int sn0), (D.int sn1), sd2, sd3] =
    bif (qcmp BinOp.lss sn1 pn3) then
      bif (qcmp BinOp.leq 0 sn1) then
        bif (qcmp BinOp.lss sn1 (qlen sd3)) then
          bif (qinb sd3 sn1) then
            bif (qcmp BinOp.eql (qint (qfld (qget sd3 sn1) 2)) 20) then
              bif (qcmp BinOp.leq 0 sn1) then
                bif (qcmp BinOp.lss sn1 (qlen sd3)) then
                  bif (qinb sd3 sn1) then
                    bif (qcmp BinOp.eql (qlen sd2) (qlen sd2)) then
                      bif (qmem (qlen (qapp sd2 (D.list [(D.int (qbin BinOp.add IntKind.u32 pn2 (qwrap IntKind.u32 sn0)))]))) 4) then
                        bif (qcmp BinOp.leq 0 sn1) then
                          bif (qcmp BinOp.lss sn1 (qlen (qapp sd2 (D.list [(D.int (qbin BinOp.add IntKind.u32 pn2 (qwrap IntKind.u32 sn0)))])))) then
                            bif (qinb (qapp sd2 (D.list [(D.int (qbin BinOp.add IntKind.u32 pn2 (qwrap IntKind.u32 sn0)))])) sn1) then
                              bif (qcmp BinOp.leq 0 sn1) then
                                bif (qcmp BinOp.lss sn1 (qlen sd3)) then
                                  bif (qinb (st21_7_a7 pd0 pd1 pn2 pn3 sn0 sn1 sd2 sd3) sn1) then
                                    bif (qcmp BinOp.leq 0 sn1) then
                                      bif (qcmp BinOp.lss sn1 (qlen sd3)) then
                                        bif (qinb (st21_7_a8 pd0 pd1 pn2 pn3 sn0 sn1 sd2 sd3) sn1) then
                                          bif (qsome (Proofs.YtiojjmlccehpoaaGreat.q23 [(qget (st21_7_a8 pd0 pd1 pn2 pn3 sn0 sn1 sd2 sd3) sn1)])) then
                                            bif (qcmp BinOp.leq 0 sn1) then
                                              bif (qcmp BinOp.lss sn1 (qlen sd3)) then
                                                bif (qinb (st21_7_a8 pd0 pd1 pn2 pn3 sn0 sn1 sd2 sd3) sn1) then
                                                  bif (qcmp BinOp.leq 0 sn1) then
                                                    bif (qcmp BinOp.lss sn1 (qlen sd3)) then
                                                      bif (qinb (st21_7_a9 pd0 pd1 pn2 pn3 sn0 sn1 sd2 sd3) sn1) then
                                                        bif (qcmp BinOp.eql (qlen sd3) (qlen (st21_7_a9 pd0 pd1 pn2 pn3 sn0 sn1 sd2 sd3))) then
                                                          bif (qcmp BinOp.eql (qlen (qapp sd2 (D.list [(D.int (qbin BinOp.add IntKind.u32 pn2 (qwrap IntKind.u32 sn0)))]))) (qlen (qapp sd2 (D.list [(D.int (qbin BinOp.add IntKind.u32 pn2 (qwrap IntKind.u32 sn0)))])))) then
                                                            bif (qeqD pd0 pd0) then
                                                              bif (qeqD pd1 pd1) then
                                                                bif (qeqD (D.int pn2) (D.int pn2)) then
                                                                  bif (qeqD (D.int pn3) (D.int pn3)) then
                                                                    some (Sum.inl [(D.int (qbin BinOp.add IntKind.i64 sn0 (qint (qfld (qget (st21_7_a9 pd0 pd1 pn2 pn3 sn0 sn1 sd2 sd3) sn1) 8)))), (D.int (qbin BinOp.add IntKind.i64 sn1 1)), (qapp sd2 (D.list [(D.int (qbin BinOp.add IntKind.u32 pn2 (qwrap IntKind.u32 sn0)))])), (st21_7_a9 pd0 pd1 pn2 pn3 sn0 sn1 sd2 sd3)])
                                                                  else
                                                                    none
                                                                else
                                                                  none
                                                              else
                                                                none
                                                            else
                                                              none
                                                          else
                                                            none
                                                        else
                                                          none
                                                      else
                                                        none
                                                    else
                                                      none
                                                  else
                                                    none
                                                else
                                                  none
                                              else
                                                none
                                            else
                                              none
                                          else
                                            none
                                        else
                                          none
                                      else
                                        none
                                    else
                                      none
                                  else
                                    none
                                else
                                  none
                              else
                                none
                            else
                              none
                          else
                            none
                        else
                          none
                      else
                        none
                    else
                      none
                  else
                    none
                else
                  none
              else
                none
            else
              bif (qcmp BinOp.eql (qlen sd2) (qlen sd2)) then
                bif (qmem (qlen (qapp sd2 (D.list [(D.int (qbin BinOp.add IntKind.u32 pn2 (qwrap IntKind.u32 sn0)))]))) 4) then
                  bif (qcmp BinOp.leq 0 sn1) then
                    bif (qcmp BinOp.lss sn1 (qlen (qapp sd2 (D.list [(D.int (qbin BinOp.add IntKind.u32 pn2 (qwrap IntKind.u32 sn0)))])))) then
                      bif (qinb (qapp sd2 (D.list [(D.int (qbin BinOp.add IntKind.u32 pn2 (qwrap IntKind.u32 sn0)))])) sn1) then
                        bif (qcmp BinOp.leq 0 sn1) then
                          bif (qcmp BinOp.lss sn1 (qlen sd3)) then
                            bif (qinb sd3 sn1) then
                              bif (qcmp BinOp.leq 0 sn1) then
                                bif (qcmp BinOp.lss sn1 (qlen sd3)) then
                                  bif (qinb (st21_7_a5 pd0 pd1 pn2 pn3 sn0 sn1 sd2 sd3) sn1) then
                                    bif (qsome (Proofs.YtiojjmlccehpoaaGreat.q23 [(qget (st21_7_a5 pd0 pd1 pn2 pn3 sn0 sn1 sd2 sd3) sn1)])) then
                                      bif (qcmp BinOp.leq 0 sn1) then
                                        bif (qcmp BinOp.lss sn1 (qlen sd3)) then
                                          bif (qinb (st21_7_a5 pd0 pd1 pn2 pn3 sn0 sn1 sd2 sd3) sn1) then
                                            bif (qcmp BinOp.leq 0 sn1) then
                                              bif (qcmp BinOp.lss sn1 (qlen sd3)) then
                                                bif (qinb (st21_7_a6 pd0 pd1 pn2 pn3 sn0 sn1 sd2 sd3) sn1) then
                                                  bif (qcmp BinOp.eql (qlen sd3) (qlen (st21_7_a6 pd0 pd1 pn2 pn3 sn0 sn1 sd2 sd3))) then
                                                    bif (qcmp BinOp.eql (qlen (qapp sd2 (D.list [(D.int (qbin BinOp.add IntKind.u32 pn2 (qwrap IntKind.u32 sn0)))]))) (qlen (qapp sd2 (D.list [(D.int (qbin BinOp.add IntKind.u32 pn2 (qwrap IntKind.u32 sn0)))])))) then
                                                      bif (qeqD pd0 pd0) then
                                                        bif (qeqD pd1 pd1) then
                                                          bif (qeqD (D.int pn2) (D.int pn2)) then
                                                            bif (qeqD (D.int pn3) (D.int pn3)) then
                                                              some (Sum.inl [(D.int (qbin BinOp.add IntKind.i64 sn0 (qint (qfld (qget (st21_7_a6 pd0 pd1 pn2 pn3 sn0 sn1 sd2 sd3) sn1) 8)))), (D.int (qbin BinOp.add IntKind.i64 sn1 1)), (qapp sd2 (D.list [(D.int (qbin BinOp.add IntKind.u32 pn2 (qwrap IntKind.u32 sn0)))])), (st21_7_a6 pd0 pd1 pn2 pn3 sn0 sn1 sd2 sd3)])
                                                            else
                                                              none
                                                          else
                                                            none
                                                        else
                                                          none
                                                      else
                                                        none
                                                    else
                                                      none
                                                  else
                                                    none
                                                else
                                                  none
                                              else
                                                none
                                            else
                                              none
                                          else
                                            none
                                        else
                                          none
                                      else
                                        none
                                    else
                                      none
                                  else
                                    none
                                else
                                  none
                              else
                                none
                            else
                              none
                          else
                            none
                        else
                          none
                      else
                        none
                    else
                      none
                  else
                    none
                else
                  none
              else
                none
          else
            none
        else
          none
      else
        none
    else
      bif (qcmp BinOp.eql (qlen sd3) (qlen sd3)) then
        bif (qcmp BinOp.eql (qlen sd2) (qlen sd2)) then
          bif (qeqD pd0 pd0) then
            bif (qeqD pd1 pd1) then
              bif (qeqD (D.int pn2) (D.int pn2)) then
                bif (qeqD (D.int pn3) (D.int pn3)) then
                  some (Sum.inr [(D.int 0), (D.int sn0), sd2, sd3])
                else
                  none
              else
                none
            else
              none
          else
            none
        else
          none
      else
        none := by kernel_rfl
  rw [h]; simp only [qeqD_self, qeqI_self, qeq_len, show qcmp BinOp.eql 0 (qlen (D.list [])) = true from qeq_len [], show ∀ a, qcmp BinOp.eql 1 (qlen (D.list [a])) = true from fun a => qeq_len [a], show ∀ a b, qcmp BinOp.eql 2 (qlen (D.list [a, b])) = true from fun a b => qeq_len [a, b], cond_true]

noncomputable def l21_7 : List D → List D → Option (List D) := veil fun p s => loW (st21_7  p) s

theorem l21_7_eq : l21_7  = fun p s => loW (st21_7  p) s := veil_eq _

noncomputable def tbl21_7 : Tb := Tb.addL tb70 21 7 S21_7.n0 (mkLp S21_7 (l21_7 ))

theorem ok_tbl21_7 : TbOk env (tbl21_7 ) := addLoopQ ok_tb70 21 7 (by kernel_rfl) _ (l21_7_eq )

def S21_18 : LoopS := ⟨0, [⟨false, (.rows 46)⟩, ⟨false, .any⟩, ⟨false, .any⟩, ⟨false, .any⟩, ⟨false, .any⟩, ⟨false, .any⟩, ⟨false, (.lit (.slice none 0 0))⟩, ⟨false, (.lit (.int .i64 0))⟩, ⟨false, (.osl 0 46)⟩, ⟨false, (.osl 1 22)⟩, ⟨false, (.int .i64)⟩, ⟨false, .any⟩, ⟨false, .any⟩, ⟨false, .any⟩, ⟨false, .any⟩, ⟨false, .any⟩, ⟨false, .any⟩, ⟨false, .any⟩, ⟨false, .any⟩, ⟨false, .any⟩, ⟨false, .any⟩, ⟨false, .any⟩, ⟨false, .any⟩, ⟨false, .any⟩, ⟨false, .any⟩, ⟨false, .any⟩, ⟨false, .any⟩, ⟨false, .any⟩, ⟨false, .any⟩, ⟨false, .any⟩, ⟨false, .any⟩, ⟨false, .any⟩, ⟨false, .any⟩, ⟨false, .any⟩, ⟨false, .any⟩, ⟨false, .any⟩, ⟨false, .any⟩, ⟨false, .any⟩, ⟨false, .any⟩, ⟨false, .any⟩, ⟨false, .any⟩, ⟨false, .any⟩, ⟨false, .any⟩, ⟨false, .any⟩, ⟨false, .any⟩, ⟨false, .any⟩, ⟨false, .any⟩, ⟨false, .any⟩, ⟨false, .any⟩, ⟨false, .any⟩, ⟨false, .any⟩, ⟨false, .any⟩, ⟨false, .any⟩, ⟨false, .any⟩, ⟨false, .any⟩, ⟨false, .any⟩, ⟨false, .any⟩, ⟨false, .any⟩, ⟨false, .any⟩, ⟨false, .any⟩, ⟨false, .any⟩, ⟨false, .any⟩, ⟨false, .any⟩, ⟨false, .any⟩, ⟨false, .any⟩, ⟨false, .any⟩, ⟨false, .any⟩, ⟨false, .any⟩, ⟨false, .any⟩, ⟨false, .any⟩, ⟨false, .any⟩, ⟨false, .any⟩, ⟨false, .any⟩, ⟨false, .any⟩, ⟨false, .any⟩, ⟨false, .any⟩, ⟨false, .any⟩, ⟨false, .any⟩, ⟨false, .any⟩, ⟨false, .any⟩, ⟨false, (.rows 3)⟩, ⟨false, (.int .i64)⟩, ⟨true, (.int .i64)⟩, ⟨false, .any⟩, ⟨false, .any⟩, ⟨false, .any⟩, ⟨false, .any⟩, ⟨false, .any⟩, ⟨false, .any⟩, ⟨false, .any⟩, ⟨false, .any⟩, ⟨false, .any⟩, ⟨false, .any⟩, ⟨false, .any⟩, ⟨false, .any⟩, ⟨false, .any⟩, ⟨false, .any⟩, ⟨false, .any⟩, ⟨false, .any⟩, ⟨false, .any⟩, ⟨false, .any⟩, ⟨false, .any⟩, ⟨false, .any⟩, ⟨false, .any⟩, ⟨false, .any⟩, ⟨false, .any⟩, ⟨false, .any⟩, ⟨false, .any⟩, ⟨false, .any⟩, ⟨false, .any⟩, ⟨false, .any⟩, ⟨false, .any⟩, ⟨false, .any⟩, ⟨false, .any⟩, ⟨false, .any⟩, ⟨false, .any⟩, ⟨false, .any⟩, ⟨false, .any⟩, ⟨false, .any⟩, ⟨false, .any⟩, ⟨false, .any⟩, ⟨false, .any⟩, ⟨false, .any⟩, ⟨false, .any⟩, ⟨false, .any⟩, ⟨false, .any⟩, ⟨false, .any⟩, ⟨false, .any⟩, ⟨false, .any⟩, ⟨false, .any⟩, ⟨false, .any⟩, ⟨false, .any⟩, ⟨false, .any⟩, ⟨false, .any⟩, ⟨false, .any⟩, ⟨false, .any⟩, ⟨false, .any⟩], [(.lst false 22), (.lst true 46)], [⟨0, 2, [⟨false, (.rows 46)⟩, ⟨true, .any⟩, ⟨true, .any⟩, ⟨true, .any⟩, ⟨true, .any⟩, ⟨true, .any⟩, ⟨true, (.lit (.slice none 0 0))⟩, ⟨true, (.lit (.int .i64 0))⟩, ⟨true, (.osl 0 46)⟩, ⟨true, .any⟩, ⟨false, (.int .i64)⟩, ⟨true, .any⟩, ⟨true, .any⟩, ⟨true, .any⟩, ⟨true, .any⟩, ⟨true, .any⟩, ⟨true, .any⟩, ⟨true, .any⟩, ⟨true, .any⟩, ⟨true, .any⟩, ⟨true, .any⟩, ⟨true, .any⟩, ⟨true, .any⟩, ⟨true, .any⟩, ⟨true, .any⟩, ⟨true, .any⟩, ⟨true, .any⟩, ⟨true, .any⟩, ⟨true, .any⟩, ⟨true, .any⟩, ⟨true, .any⟩, ⟨true, .any⟩, ⟨true, .any⟩, ⟨true, .any⟩, ⟨true, .any⟩, ⟨true, .any⟩, ⟨true, .any⟩, ⟨true, .any⟩, ⟨true, .any⟩, ⟨true, .any⟩, ⟨true, .any⟩, ⟨true, .any⟩, ⟨true, .any⟩, ⟨true, .any⟩, ⟨true, .any⟩, ⟨true, .any⟩, ⟨true, .any⟩, ⟨true, .any⟩, ⟨true, .any⟩, ⟨true, .any⟩, ⟨true, .any⟩, ⟨true, .any⟩, ⟨true, .any⟩, ⟨true, .any⟩, ⟨true, .any⟩, ⟨true, .any⟩, ⟨true, .any⟩, ⟨true, .any⟩, ⟨true, .any⟩, ⟨true, .any⟩, ⟨true, .any⟩, ⟨true, .any⟩, ⟨true, .any⟩, ⟨true, .any⟩, ⟨true, .any⟩, ⟨true, .any⟩, ⟨true, .any⟩, ⟨true, .any⟩, ⟨true, .any⟩, ⟨true, .any⟩, ⟨true, .any⟩, ⟨true, .any⟩, ⟨true, .any⟩, ⟨true, .any⟩, ⟨true, .any⟩, ⟨true, .any⟩, ⟨true, .any⟩, ⟨true, .any⟩, ⟨true, .any⟩, ⟨true, .any⟩, ⟨false, (.rows 3)⟩, ⟨false, (.int .i64)⟩, ⟨true, .any⟩, ⟨true, .any⟩, ⟨true, .any⟩, ⟨true, .any⟩, ⟨true, .any⟩, ⟨true, .any⟩, ⟨true, .any⟩, ⟨true, .any⟩, ⟨true, .any⟩, ⟨true, .any⟩, ⟨true, .any⟩, ⟨true, .any⟩, ⟨true, .any⟩, ⟨true, .any⟩, ⟨true, .any⟩, ⟨true, .any⟩, ⟨true, .any⟩, ⟨true, .any⟩, ⟨true, .any⟩, ⟨true, .any⟩, ⟨true, .any⟩, ⟨true, .any⟩, ⟨true, .any⟩, ⟨true, .any⟩, ⟨true, .any⟩, ⟨true, .any⟩, ⟨true, .any⟩, ⟨true, .any⟩, ⟨true, .any⟩, ⟨true, .any⟩, ⟨true, .any⟩, ⟨true, .any⟩, ⟨true, .any⟩, ⟨true, .any⟩, ⟨true, .any⟩, ⟨true, .any⟩, ⟨true, .any⟩, ⟨true, .any⟩, ⟨true, .any⟩, ⟨true, .any⟩, ⟨true, .any⟩, ⟨true, .any⟩, ⟨true, .any⟩, ⟨true, .any⟩, ⟨true, .any⟩, ⟨true, .any⟩, ⟨true, .any⟩, ⟨true, .any⟩, ⟨true, .any⟩, ⟨true, .any⟩, ⟨true, .any⟩, ⟨true, .any⟩, ⟨true, .any⟩, ⟨true, .any⟩, ⟨true, .any⟩], [(.lst false 22), (.lst true 46)]⟩, ⟨1, 0, [⟨false, (.rows 46)⟩, ⟨true, .any⟩, ⟨true, .any⟩, ⟨true, .any⟩, ⟨true, .any⟩, ⟨true, .any⟩, ⟨true, (.lit (.slice none 0 0))⟩, ⟨true, (.lit (.int .i64 2))⟩, ⟨true, .any⟩, ⟨true, .any⟩, ⟨false, (.int .i64)⟩, ⟨true, .any⟩, ⟨true, .any⟩, ⟨true, .any⟩, ⟨true, .any⟩, ⟨true, .any⟩, ⟨true, .any⟩, ⟨true, .any⟩, ⟨true, .any⟩, ⟨true, .any⟩, ⟨true, .any⟩, ⟨true, .any⟩, ⟨true, .any⟩, ⟨true, .any⟩, ⟨true, .any⟩, ⟨true, .any⟩, ⟨true, .any⟩, ⟨true, .any⟩, ⟨true, .any⟩, ⟨true, .any⟩, ⟨true, .any⟩, ⟨true, .any⟩, ⟨true, .any⟩, ⟨true, .any⟩, ⟨true, .any⟩, ⟨true, .any⟩, ⟨true, .any⟩, ⟨true, .any⟩, ⟨true, .any⟩, ⟨true, .any⟩, ⟨true, .any⟩, ⟨true, .any⟩, ⟨true, .any⟩, ⟨true, .any⟩, ⟨true, .any⟩, ⟨true, .any⟩, ⟨true, .any⟩, ⟨true, .any⟩, ⟨true, .any⟩, ⟨true, .any⟩, ⟨true, .any⟩, ⟨true, .any⟩, ⟨true, .any⟩, ⟨true, .any⟩, ⟨true, .any⟩, ⟨true, .any⟩, ⟨true, .any⟩, ⟨true, .any⟩, ⟨true, .any⟩, ⟨true, .any⟩, ⟨true, .any⟩, ⟨true, .any⟩, ⟨true, .any⟩, ⟨true, .any⟩, ⟨true, .any⟩, ⟨true, .any⟩, ⟨true, .any⟩, ⟨true, .any⟩, ⟨true, .any⟩, ⟨true, .any⟩, ⟨true, .any⟩, ⟨true, .any⟩, ⟨true, .any⟩, ⟨true, .any⟩, ⟨true, .any⟩, ⟨true, .any⟩, ⟨true, .any⟩, ⟨true, .any⟩, ⟨true, .any⟩, ⟨true, .any⟩, ⟨false, (.rows 3)⟩, ⟨false, (.int .i64)⟩, ⟨true, .any⟩, ⟨true, .any⟩, ⟨true, .any⟩, ⟨true, .any⟩, ⟨true, .any⟩, ⟨true, .any⟩, ⟨true, .any⟩, ⟨true, .any⟩, ⟨true, .any⟩, ⟨true, .any⟩, ⟨true, .any⟩, ⟨true, .any⟩, ⟨true, .any⟩, ⟨true, .any⟩, ⟨true, .any⟩, ⟨true, .any⟩, ⟨true, .any⟩, ⟨true, .any⟩, ⟨true, .any⟩, ⟨true, .any⟩, ⟨true, .any⟩, ⟨true, .any⟩, ⟨true, .any⟩, ⟨true, .any⟩, ⟨true, .any⟩, ⟨true, .any⟩, ⟨true, .any⟩, ⟨true, .any⟩, ⟨true, .any⟩, ⟨true, .any⟩, ⟨true, .any⟩, ⟨true, .any⟩, ⟨true, .any⟩, ⟨true, .any⟩, ⟨true, .any⟩, ⟨true, .any⟩, ⟨true, .any⟩, ⟨true, .any⟩, ⟨true, .any⟩, ⟨true, .any⟩, ⟨true, .any⟩, ⟨true, .any⟩, ⟨true, .any⟩, ⟨true, .any⟩, ⟨true, .any⟩, ⟨true, .any⟩, ⟨true, .any⟩, ⟨true, .any⟩, ⟨true, .any⟩, ⟨true, .any⟩, ⟨true, .any⟩, ⟨true, .any⟩, ⟨true, .any⟩, ⟨true, .any⟩, ⟨true, .any⟩], [(.lst false 22), .skip]⟩]⟩

noncomputable def st21_18 (p s : List D) : Option (Sum (List D) (List D)) := stepQX env tbl21_7 60 6 21 (loopC 21 18) S21_18 p s

theorem st21_18_eq (pd0 : D) (pn1 : Int) (pd2 : D) (pn3 : Int) (pd4 : D) (sn0 : Int) (sd1 : D) : st21_18  [pd0, (D.int pn1), pd2, (D.int pn3), pd4] [(D.int sn0), sd1] =
    bif (qcmp BinOp.lss sn0 pn3) then
      bif (qinb pd2 sn0) then
        bif (qcmp BinOp.leq 0 sn0) then
          bif (qcmp BinOp.lss sn0 (qlen sd1)) then
            bif (qinb sd1 sn0) then
              bif (qiteB (qcmp BinOp.eql (qint (qfld (qget sd1 sn0) 2)) 20) Bool.true (qand (qcmp BinOp.leq 0 sn0) (qand (qcmp BinOp.lss sn0 (qlen sd1)) (qinb sd1 sn0)))) then
                bif (qiteB (qiteB (qcmp BinOp.lss (qint (qget pd2 sn0)) (-1)) Bool.true (qcmp BinOp.gtr (qint (qget pd2 sn0)) (qlen pd0))) Bool.true (qiteB (qcmp BinOp.neq (qint (qget pd2 sn0)) (-1)) (qnot (qiteB (qcmp BinOp.eql (qint (qfld (qget sd1 sn0) 2)) 20) Bool.true (qcmp BinOp.eql (qint (qfld (qget sd1 sn0) 2)) 23))) Bool.false)) then
                  some (Sum.inr [(D.int 1)])
                else
                  bif (qcmp BinOp.geq (qint (qget pd2 sn0)) 0) then
                    bif (qcmp BinOp.leq 0 (qint (qget pd2 sn0))) then
                      bif (qcmp BinOp.lss (qint (qget pd2 sn0)) (qlen pd4)) then
                        bif (qinb pd4 (qint (qget pd2 sn0))) then
                          bif (qcmp BinOp.leq 0 sn0) then
                            bif (qcmp BinOp.lss sn0 (qlen sd1)) then
                              bif (qinb sd1 sn0) then
                                bif (qcmp BinOp.leq 0 sn0) then
                                  bif (qcmp BinOp.lss sn0 (qlen sd1)) then
                                    bif (qinb (qset sd1 sn0 (D.agg [(D.int (qint (qfld (qget sd1 sn0) 0))), (D.int (qint (qget pd4 (qint (qget pd2 sn0))))), (D.int (qint (qfld (qget sd1 sn0) 2))), (D.int (qint (qfld (qget sd1 sn0) 3))), (D.int (qint (qfld (qget sd1 sn0) 4))), (D.int (qint (qfld (qget sd1 sn0) 5))), (D.int (qint (qfld (qget sd1 sn0) 6))), (D.int (qint (qfld (qget sd1 sn0) 7))), (D.int (qint (qfld (qget sd1 sn0) 8)))])) sn0) then
                                      bif (qsome (Proofs.YtiojjmlccehpoaaGreat.q20 [(qget (qset sd1 sn0 (D.agg [(D.int (qint (qfld (qget sd1 sn0) 0))), (D.int (qint (qget pd4 (qint (qget pd2 sn0))))), (D.int (qint (qfld (qget sd1 sn0) 2))), (D.int (qint (qfld (qget sd1 sn0) 3))), (D.int (qint (qfld (qget sd1 sn0) 4))), (D.int (qint (qfld (qget sd1 sn0) 5))), (D.int (qint (qfld (qget sd1 sn0) 6))), (D.int (qint (qfld (qget sd1 sn0) 7))), (D.int (qint (qfld (qget sd1 sn0) 8)))])) sn0)])) then
                                        bif (qnot (qbool (qnth (Proofs.YtiojjmlccehpoaaGreat.q20 [(qget (qset sd1 sn0 (D.agg [(D.int (qint (qfld (qget sd1 sn0) 0))), (D.int (qint (qget pd4 (qint (qget pd2 sn0))))), (D.int (qint (qfld (qget sd1 sn0) 2))), (D.int (qint (qfld (qget sd1 sn0) 3))), (D.int (qint (qfld (qget sd1 sn0) 4))), (D.int (qint (qfld (qget sd1 sn0) 5))), (D.int (qint (qfld (qget sd1 sn0) 6))), (D.int (qint (qfld (qget sd1 sn0) 7))), (D.int (qint (qfld (qget sd1 sn0) 8)))])) sn0)]) 0))) then
                                          some (Sum.inr [(D.int 1)])
                                        else
                                          bif (qcmp BinOp.eql (qlen sd1) (qlen (qset sd1 sn0 (D.agg [(D.int (qint (qfld (qget sd1 sn0) 0))), (D.int (qint (qget pd4 (qint (qget pd2 sn0))))), (D.int (qint (qfld (qget sd1 sn0) 2))), (D.int (qint (qfld (qget sd1 sn0) 3))), (D.int (qint (qfld (qget sd1 sn0) 4))), (D.int (qint (qfld (qget sd1 sn0) 5))), (D.int (qint (qfld (qget sd1 sn0) 6))), (D.int (qint (qfld (qget sd1 sn0) 7))), (D.int (qint (qfld (qget sd1 sn0) 8)))])))) then
                                            some (Sum.inl [(D.int (qbin BinOp.add IntKind.i64 sn0 1)), (qset sd1 sn0 (D.agg [(D.int (qint (qfld (qget sd1 sn0) 0))), (D.int (qint (qget pd4 (qint (qget pd2 sn0))))), (D.int (qint (qfld (qget sd1 sn0) 2))), (D.int (qint (qfld (qget sd1 sn0) 3))), (D.int (qint (qfld (qget sd1 sn0) 4))), (D.int (qint (qfld (qget sd1 sn0) 5))), (D.int (qint (qfld (qget sd1 sn0) 6))), (D.int (qint (qfld (qget sd1 sn0) 7))), (D.int (qint (qfld (qget sd1 sn0) 8)))]))])
                                          else
                                            none
                                      else
                                        none
                                    else
                                      none
                                  else
                                    none
                                else
                                  none
                              else
                                none
                            else
                              none
                          else
                            none
                        else
                          none
                      else
                        none
                    else
                      none
                  else
                    bif (qcmp BinOp.leq 0 sn0) then
                      bif (qcmp BinOp.lss sn0 (qlen sd1)) then
                        bif (qinb sd1 sn0) then
                          bif (qsome (Proofs.YtiojjmlccehpoaaGreat.q20 [(qget sd1 sn0)])) then
                            bif (qnot (qbool (qnth (Proofs.YtiojjmlccehpoaaGreat.q20 [(qget sd1 sn0)]) 0))) then
                              some (Sum.inr [(D.int 1)])
                            else
                              some (Sum.inl [(D.int (qbin BinOp.add IntKind.i64 sn0 1)), sd1])
                          else
                            none
                        else
                          none
                      else
                        none
                    else
                      none
              else
                none
            else
              none
          else
            none
        else
          none
      else
        none
    else
      some (Sum.inr [(D.int 0), sd1]) := by
  have h : st21_18  [pd0, (D.int pn1), pd2, (D.int pn3), pd4] [(D.int sn0), sd1] =
    bif (qcmp BinOp.lss sn0 pn3) then
      bif (qinb pd2 sn0) then
        bif (qcmp BinOp.leq 0 sn0) then
          bif (qcmp BinOp.lss sn0 (qlen sd1)) then
            bif (qinb sd1 sn0) then
              bif (qiteB (qcmp BinOp.eql (qint (qfld (qget sd1 sn0) 2)) 20) Bool.true (qand (qcmp BinOp.leq 0 sn0) (qand (qcmp BinOp.lss sn0 (qlen sd1)) (qinb sd1 sn0)))) then
                bif (qiteB (qiteB (qcmp BinOp.lss (qint (qget pd2 sn0)) (-1)) Bool.true (qcmp BinOp.gtr (qint (qget pd2 sn0)) (qlen pd0))) Bool.true (qiteB (qcmp BinOp.neq (qint (qget pd2 sn0)) (-1)) (qnot (qiteB (qcmp BinOp.eql (qint (qfld (qget sd1 sn0) 2)) 20) Bool.true (qcmp BinOp.eql (qint (qfld (qget sd1 sn0) 2)) 23))) Bool.false)) then
                  bif (qeqD pd0 pd0) then
                    bif (qeqD (D.int pn1) (D.int pn1)) then
                      bif (qeqD pd2 pd2) then
                        bif (qeqD (D.int pn3) (D.int pn3)) then
                          bif (qeqD pd4 pd4) then
                            some (Sum.inr [(D.int 1)])
                          else
                            none
                        else
                          none
                      else
                        none
                    else
                      none
                  else
                    none
                else
                  bif (qcmp BinOp.geq (qint (qget pd2 sn0)) 0) then
                    bif (qcmp BinOp.leq 0 (qint (qget pd2 sn0))) then
                      bif (qcmp BinOp.lss (qint (qget pd2 sn0)) (qlen pd4)) then
                        bif (qinb pd4 (qint (qget pd2 sn0))) then
                          bif (qcmp BinOp.leq 0 sn0) then
                            bif (qcmp BinOp.lss sn0 (qlen sd1)) then
                              bif (qinb sd1 sn0) then
                                bif (qcmp BinOp.leq 0 sn0) then
                                  bif (qcmp BinOp.lss sn0 (qlen sd1)) then
                                    bif (qinb (qset sd1 sn0 (D.agg [(D.int (qint (qfld (qget sd1 sn0) 0))), (D.int (qint (qget pd4 (qint (qget pd2 sn0))))), (D.int (qint (qfld (qget sd1 sn0) 2))), (D.int (qint (qfld (qget sd1 sn0) 3))), (D.int (qint (qfld (qget sd1 sn0) 4))), (D.int (qint (qfld (qget sd1 sn0) 5))), (D.int (qint (qfld (qget sd1 sn0) 6))), (D.int (qint (qfld (qget sd1 sn0) 7))), (D.int (qint (qfld (qget sd1 sn0) 8)))])) sn0) then
                                      bif (qsome (Proofs.YtiojjmlccehpoaaGreat.q20 [(qget (qset sd1 sn0 (D.agg [(D.int (qint (qfld (qget sd1 sn0) 0))), (D.int (qint (qget pd4 (qint (qget pd2 sn0))))), (D.int (qint (qfld (qget sd1 sn0) 2))), (D.int (qint (qfld (qget sd1 sn0) 3))), (D.int (qint (qfld (qget sd1 sn0) 4))), (D.int (qint (qfld (qget sd1 sn0) 5))), (D.int (qint (qfld (qget sd1 sn0) 6))), (D.int (qint (qfld (qget sd1 sn0) 7))), (D.int (qint (qfld (qget sd1 sn0) 8)))])) sn0)])) then
                                        bif (qnot (qbool (qnth (Proofs.YtiojjmlccehpoaaGreat.q20 [(qget (qset sd1 sn0 (D.agg [(D.int (qint (qfld (qget sd1 sn0) 0))), (D.int (qint (qget pd4 (qint (qget pd2 sn0))))), (D.int (qint (qfld (qget sd1 sn0) 2))), (D.int (qint (qfld (qget sd1 sn0) 3))), (D.int (qint (qfld (qget sd1 sn0) 4))), (D.int (qint (qfld (qget sd1 sn0) 5))), (D.int (qint (qfld (qget sd1 sn0) 6))), (D.int (qint (qfld (qget sd1 sn0) 7))), (D.int (qint (qfld (qget sd1 sn0) 8)))])) sn0)]) 0))) then
                                          bif (qeqD pd0 pd0) then
                                            bif (qeqD (D.int pn1) (D.int pn1)) then
                                              bif (qeqD pd2 pd2) then
                                                bif (qeqD (D.int pn3) (D.int pn3)) then
                                                  bif (qeqD pd4 pd4) then
                                                    some (Sum.inr [(D.int 1)])
                                                  else
                                                    none
                                                else
                                                  none
                                              else
                                                none
                                            else
                                              none
                                          else
                                            none
                                        else
                                          bif (qcmp BinOp.eql (qlen sd1) (qlen (qset sd1 sn0 (D.agg [(D.int (qint (qfld (qget sd1 sn0) 0))), (D.int (qint (qget pd4 (qint (qget pd2 sn0))))), (D.int (qint (qfld (qget sd1 sn0) 2))), (D.int (qint (qfld (qget sd1 sn0) 3))), (D.int (qint (qfld (qget sd1 sn0) 4))), (D.int (qint (qfld (qget sd1 sn0) 5))), (D.int (qint (qfld (qget sd1 sn0) 6))), (D.int (qint (qfld (qget sd1 sn0) 7))), (D.int (qint (qfld (qget sd1 sn0) 8)))])))) then
                                            bif (qcmp BinOp.eql (qlen pd4) (qlen pd4)) then
                                              bif (qeqD pd0 pd0) then
                                                bif (qeqD (D.int pn1) (D.int pn1)) then
                                                  bif (qeqD pd2 pd2) then
                                                    bif (qeqD (D.int pn3) (D.int pn3)) then
                                                      bif (qeqD pd4 pd4) then
                                                        some (Sum.inl [(D.int (qbin BinOp.add IntKind.i64 sn0 1)), (qset sd1 sn0 (D.agg [(D.int (qint (qfld (qget sd1 sn0) 0))), (D.int (qint (qget pd4 (qint (qget pd2 sn0))))), (D.int (qint (qfld (qget sd1 sn0) 2))), (D.int (qint (qfld (qget sd1 sn0) 3))), (D.int (qint (qfld (qget sd1 sn0) 4))), (D.int (qint (qfld (qget sd1 sn0) 5))), (D.int (qint (qfld (qget sd1 sn0) 6))), (D.int (qint (qfld (qget sd1 sn0) 7))), (D.int (qint (qfld (qget sd1 sn0) 8)))]))])
                                                      else
                                                        none
                                                    else
                                                      none
                                                  else
                                                    none
                                                else
                                                  none
                                              else
                                                none
                                            else
                                              none
                                          else
                                            none
                                      else
                                        none
                                    else
                                      none
                                  else
                                    none
                                else
                                  none
                              else
                                none
                            else
                              none
                          else
                            none
                        else
                          none
                      else
                        none
                    else
                      none
                  else
                    bif (qcmp BinOp.leq 0 sn0) then
                      bif (qcmp BinOp.lss sn0 (qlen sd1)) then
                        bif (qinb sd1 sn0) then
                          bif (qsome (Proofs.YtiojjmlccehpoaaGreat.q20 [(qget sd1 sn0)])) then
                            bif (qnot (qbool (qnth (Proofs.YtiojjmlccehpoaaGreat.q20 [(qget sd1 sn0)]) 0))) then
                              bif (qeqD pd0 pd0) then
                                bif (qeqD (D.int pn1) (D.int pn1)) then
                                  bif (qeqD pd2 pd2) then
                                    bif (qeqD (D.int pn3) (D.int pn3)) then
                                      bif (qeqD pd4 pd4) then
                                        some (Sum.inr [(D.int 1)])
                                      else
                                        none
                                    else
                                      none
                                  else
                                    none
                                else
                                  none
                              else
                                none
                            else
                              bif (qcmp BinOp.eql (qlen sd1) (qlen sd1)) then
                                bif (qcmp BinOp.eql (qlen pd4) (qlen pd4)) then
                                  bif (qeqD pd0 pd0) then
                                    bif (qeqD (D.int pn1) (D.int pn1)) then
                                      bif (qeqD pd2 pd2) then
                                        bif (qeqD (D.int pn3) (D.int pn3)) then
                                          bif (qeqD pd4 pd4) then
                                            some (Sum.inl [(D.int (qbin BinOp.add IntKind.i64 sn0 1)), sd1])
                                          else
                                            none
                                        else
                                          none
                                      else
                                        none
                                    else
                                      none
                                  else
                                    none
                                else
                                  none
                              else
                                none
                          else
                            none
                        else
                          none
                      else
                        none
                    else
                      none
              else
                none
            else
              none
          else
            none
        else
          none
      else
        none
    else
      bif (qcmp BinOp.eql (qlen sd1) (qlen sd1)) then
        bif (qeqD pd0 pd0) then
          bif (qeqD (D.int pn1) (D.int pn1)) then
            bif (qeqD pd2 pd2) then
              bif (qeqD (D.int pn3) (D.int pn3)) then
                bif (qeqD pd4 pd4) then
                  some (Sum.inr [(D.int 0), sd1])
                else
                  none
              else
                none
            else
              none
          else
            none
        else
          none
      else
        none := by kernel_rfl
  rw [h]; simp only [qeqD_self, qeqI_self, qeq_len, show qcmp BinOp.eql 0 (qlen (D.list [])) = true from qeq_len [], show ∀ a, qcmp BinOp.eql 1 (qlen (D.list [a])) = true from fun a => qeq_len [a], show ∀ a b, qcmp BinOp.eql 2 (qlen (D.list [a, b])) = true from fun a b => qeq_len [a, b], cond_true]

noncomputable def l21_18 : List D → List D → Option (List D) := veil fun p s => loW (st21_18  p) s

theorem l21_18_eq : l21_18  = fun p s => loW (st21_18  p) s := veil_eq _

noncomputable def tbl21_18 : Tb := Tb.addL tbl21_7 21 18 S21_18.n0 (mkLp S21_18 (l21_18 ))

theorem ok_tbl21_18 : TbOk env (tbl21_18 ) := addLoopQ ok_tbl21_7 21 18 (by kernel_rfl) _ (l21_18_eq )

def S21 : FunS := ⟨[⟨true, (.rows 46)⟩, ⟨true, (.rows 3)⟩, ⟨true, (.int .u32)⟩], [], [⟨true, (.tup [(.rows 46), (.int .i64)])⟩], []⟩

noncomputable def F21 : List D → Option (List D) := liftX env tbl21_18 60 6 21 S21

theorem F21_eq  (sd0 : D) (sd1 : D) (sn2 : Int) : F21  [sd0, sd1, (D.int sn2)] =
    bif (qcmp BinOp.neq (qlen sd0) (qlen sd1)) then
      some [(D.list []), (D.int 2)]
    else
      bif (qsome (Proofs.YtiojjmlccehpoaaGreat.q70 [sd0])) then
        bif (qcmp BinOp.leq 0 0) then
          bif (qcmp BinOp.leq 0 (qbin BinOp.add IntKind.i64 (qlen sd0) 1)) then
            bif (qmem (qbin BinOp.add IntKind.i64 (qlen sd0) 1) 4) then
              bif (qcmp BinOp.eql 0 (qlen (qrep 0 (D.int 0)))) then
                bif (qsome (Proofs.YtiojjmlccehpoaaGreat.l21_7 [sd0, sd1, (D.int sn2), (D.int (qlen (qnth (Proofs.YtiojjmlccehpoaaGreat.q70 [sd0]) 0)))] [(D.int 0), (D.int 0), (qrep 0 (D.int 0)), (qnth (Proofs.YtiojjmlccehpoaaGreat.q70 [sd0]) 0)])) then
                  bif (qmem (qlen (qapp (qnth (Proofs.YtiojjmlccehpoaaGreat.l21_7 [sd0, sd1, (D.int sn2), (D.int (qlen (qnth (Proofs.YtiojjmlccehpoaaGreat.q70 [sd0]) 0)))] [(D.int 0), (D.int 0), (qrep 0 (D.int 0)), (qnth (Proofs.YtiojjmlccehpoaaGreat.q70 [sd0]) 0)]) 2) (D.list [(D.int (qbin BinOp.add IntKind.u32 sn2 (qwrap IntKind.u32 (qint (qnth (Proofs.YtiojjmlccehpoaaGreat.l21_7 [sd0, sd1, (D.int sn2), (D.int (qlen (qnth (Proofs.YtiojjmlccehpoaaGreat.q70 [sd0]) 0)))] [(D.int 0), (D.int 0), (qrep 0 (D.int 0)), (qnth (Proofs.YtiojjmlccehpoaaGreat.q70 [sd0]) 0)]) 1)))))]))) 4) then
                    bif (qsome (Proofs.YtiojjmlccehpoaaGreat.l21_18 [sd0, (D.int (qint (qnth (Proofs.YtiojjmlccehpoaaGreat.l21_7 [sd0, sd1, (D.int sn2), (D.int (qlen (qnth (Proofs.YtiojjmlccehpoaaGreat.q70 [sd0]) 0)))] [(D.int 0), (D.int 0), (qrep 0 (D.int 0)), (qnth (Proofs.YtiojjmlccehpoaaGreat.q70 [sd0]) 0)]) 1))), sd1, (D.int (qlen sd1)), (qapp (qnth (Proofs.YtiojjmlccehpoaaGreat.l21_7 [sd0, sd1, (D.int sn2), (D.int (qlen (qnth (Proofs.YtiojjmlccehpoaaGreat.q70 [sd0]) 0)))] [(D.int 0), (D.int 0), (qrep 0 (D.int 0)), (qnth (Proofs.YtiojjmlccehpoaaGreat.q70 [sd0]) 0)]) 2) (D.list [(D.int (qbin BinOp.add IntKind.u32 sn2 (qwrap IntKind.u32 (qint (qnth (Proofs.YtiojjmlccehpoaaGreat.l21_7 [sd0, sd1, (D.int sn2), (D.int (qlen (qnth (Proofs.YtiojjmlccehpoaaGreat.q70 [sd0]) 0)))] [(D.int 0), (D.int 0), (qrep 0 (D.int 0)), (qnth (Proofs.YtiojjmlccehpoaaGreat.q70 [sd0]) 0)]) 1)))))]))] [(D.int 0), (qnth (Proofs.YtiojjmlccehpoaaGreat.l21_7 [sd0, sd1, (D.int sn2), (D.int (qlen (qnth (Proofs.YtiojjmlccehpoaaGreat.q70 [sd0]) 0)))] [(D.int 0), (D.int 0), (qrep 0 (D.int 0)), (qnth (Proofs.YtiojjmlccehpoaaGreat.q70 [sd0]) 0)]) 3)])) then
                      bif (qcmp BinOp.eql (qint (qnth (Proofs.YtiojjmlccehpoaaGreat.l21_18 [sd0, (D.int (qint (qnth (Proofs.YtiojjmlccehpoaaGreat.l21_7 [sd0, sd1, (D.int sn2), (D.int (qlen (qnth (Proofs.YtiojjmlccehpoaaGreat.q70 [sd0]) 0)))] [(D.int 0), (D.int 0), (qrep 0 (D.int 0)), (qnth (Proofs.YtiojjmlccehpoaaGreat.q70 [sd0]) 0)]) 1))), sd1, (D.int (qlen sd1)), (qapp (qnth (Proofs.YtiojjmlccehpoaaGreat.l21_7 [sd0, sd1, (D.int sn2), (D.int (qlen (qnth (Proofs.YtiojjmlccehpoaaGreat.q70 [sd0]) 0)))] [(D.int 0), (D.int 0), (qrep 0 (D.int 0)), (qnth (Proofs.YtiojjmlccehpoaaGreat.q70 [sd0]) 0)]) 2) (D.list [(D.int (qbin BinOp.add IntKind.u32 sn2 (qwrap IntKind.u32 (qint (qnth (Proofs.YtiojjmlccehpoaaGreat.l21_7 [sd0, sd1, (D.int sn2), (D.int (qlen (qnth (Proofs.YtiojjmlccehpoaaGreat.q70 [sd0]) 0)))] [(D.int 0), (D.int 0), (qrep 0 (D.int 0)), (qnth (Proofs.YtiojjmlccehpoaaGreat.q70 [sd0]) 0)]) 1)))))]))] [(D.int 0), (qnth (Proofs.YtiojjmlccehpoaaGreat.l21_7 [sd0, sd1, (D.int sn2), (D.int (qlen (qnth (Proofs.YtiojjmlccehpoaaGreat.q70 [sd0]) 0)))] [(D.int 0), (D.int 0), (qrep 0 (D.int 0)), (qnth (Proofs.YtiojjmlccehpoaaGreat.q70 [sd0]) 0)]) 3)]) 0)) 0) then
                        bif (qcmp BinOp.gtr (qint (qnth (Proofs.YtiojjmlccehpoaaGreat.l21_7 [sd0, sd1, (D.int sn2), (D.int (qlen (qnth (Proofs.YtiojjmlccehpoaaGreat.q70 [sd0]) 0)))] [(D.int 0), (D.int 0), (qrep 0 (D.int 0)), (qnth (Proofs.YtiojjmlccehpoaaGreat.q70 [sd0]) 0)]) 1)) 65536) then
                          some [(D.list []), (D.int 6)]
                        else
                          some [(qnth (Proofs.YtiojjmlccehpoaaGreat.l21_18 [sd0, (D.int (qint (qnth (Proofs.YtiojjmlccehpoaaGreat.l21_7 [sd0, sd1, (D.int sn2), (D.int (qlen (qnth (Proofs.YtiojjmlccehpoaaGreat.q70 [sd0]) 0)))] [(D.int 0), (D.int 0), (qrep 0 (D.int 0)), (qnth (Proofs.YtiojjmlccehpoaaGreat.q70 [sd0]) 0)]) 1))), sd1, (D.int (qlen sd1)), (qapp (qnth (Proofs.YtiojjmlccehpoaaGreat.l21_7 [sd0, sd1, (D.int sn2), (D.int (qlen (qnth (Proofs.YtiojjmlccehpoaaGreat.q70 [sd0]) 0)))] [(D.int 0), (D.int 0), (qrep 0 (D.int 0)), (qnth (Proofs.YtiojjmlccehpoaaGreat.q70 [sd0]) 0)]) 2) (D.list [(D.int (qbin BinOp.add IntKind.u32 sn2 (qwrap IntKind.u32 (qint (qnth (Proofs.YtiojjmlccehpoaaGreat.l21_7 [sd0, sd1, (D.int sn2), (D.int (qlen (qnth (Proofs.YtiojjmlccehpoaaGreat.q70 [sd0]) 0)))] [(D.int 0), (D.int 0), (qrep 0 (D.int 0)), (qnth (Proofs.YtiojjmlccehpoaaGreat.q70 [sd0]) 0)]) 1)))))]))] [(D.int 0), (qnth (Proofs.YtiojjmlccehpoaaGreat.l21_7 [sd0, sd1, (D.int sn2), (D.int (qlen (qnth (Proofs.YtiojjmlccehpoaaGreat.q70 [sd0]) 0)))] [(D.int 0), (D.int 0), (qrep 0 (D.int 0)), (qnth (Proofs.YtiojjmlccehpoaaGreat.q70 [sd0]) 0)]) 3)]) 1), (D.int 0)]
                      else
                        some [(D.list []), (D.int 2)]
                    else
                      none
                  else
                    none
                else
                  none
              else
                none
            else
              none
          else
            none
        else
          none
      else
        none := by
  have h : F21  [sd0, sd1, (D.int sn2)] =
    bif (qcmp BinOp.neq (qlen sd0) (qlen sd1)) then
      some [(D.list []), (D.int 2)]
    else
      bif (qsome (Proofs.YtiojjmlccehpoaaGreat.q70 [sd0])) then
        bif (qcmp BinOp.leq 0 0) then
          bif (qcmp BinOp.leq 0 (qbin BinOp.add IntKind.i64 (qlen sd0) 1)) then
            bif (qmem (qbin BinOp.add IntKind.i64 (qlen sd0) 1) 4) then
              bif (qcmp BinOp.eql (qlen (qnth (Proofs.YtiojjmlccehpoaaGreat.q70 [sd0]) 0)) (qlen (qnth (Proofs.YtiojjmlccehpoaaGreat.q70 [sd0]) 0))) then
                bif (qcmp BinOp.eql 0 (qlen (qrep 0 (D.int 0)))) then
                  bif (qsome (Proofs.YtiojjmlccehpoaaGreat.l21_7 [sd0, sd1, (D.int sn2), (D.int (qlen (qnth (Proofs.YtiojjmlccehpoaaGreat.q70 [sd0]) 0)))] [(D.int 0), (D.int 0), (qrep 0 (D.int 0)), (qnth (Proofs.YtiojjmlccehpoaaGreat.q70 [sd0]) 0)])) then
                    bif (qcmp BinOp.eql (qlen (qnth (Proofs.YtiojjmlccehpoaaGreat.l21_7 [sd0, sd1, (D.int sn2), (D.int (qlen (qnth (Proofs.YtiojjmlccehpoaaGreat.q70 [sd0]) 0)))] [(D.int 0), (D.int 0), (qrep 0 (D.int 0)), (qnth (Proofs.YtiojjmlccehpoaaGreat.q70 [sd0]) 0)]) 2)) (qlen (qnth (Proofs.YtiojjmlccehpoaaGreat.l21_7 [sd0, sd1, (D.int sn2), (D.int (qlen (qnth (Proofs.YtiojjmlccehpoaaGreat.q70 [sd0]) 0)))] [(D.int 0), (D.int 0), (qrep 0 (D.int 0)), (qnth (Proofs.YtiojjmlccehpoaaGreat.q70 [sd0]) 0)]) 2))) then
                      bif (qmem (qlen (qapp (qnth (Proofs.YtiojjmlccehpoaaGreat.l21_7 [sd0, sd1, (D.int sn2), (D.int (qlen (qnth (Proofs.YtiojjmlccehpoaaGreat.q70 [sd0]) 0)))] [(D.int 0), (D.int 0), (qrep 0 (D.int 0)), (qnth (Proofs.YtiojjmlccehpoaaGreat.q70 [sd0]) 0)]) 2) (D.list [(D.int (qbin BinOp.add IntKind.u32 sn2 (qwrap IntKind.u32 (qint (qnth (Proofs.YtiojjmlccehpoaaGreat.l21_7 [sd0, sd1, (D.int sn2), (D.int (qlen (qnth (Proofs.YtiojjmlccehpoaaGreat.q70 [sd0]) 0)))] [(D.int 0), (D.int 0), (qrep 0 (D.int 0)), (qnth (Proofs.YtiojjmlccehpoaaGreat.q70 [sd0]) 0)]) 1)))))]))) 4) then
                        bif (qcmp BinOp.eql (qlen (qnth (Proofs.YtiojjmlccehpoaaGreat.l21_7 [sd0, sd1, (D.int sn2), (D.int (qlen (qnth (Proofs.YtiojjmlccehpoaaGreat.q70 [sd0]) 0)))] [(D.int 0), (D.int 0), (qrep 0 (D.int 0)), (qnth (Proofs.YtiojjmlccehpoaaGreat.q70 [sd0]) 0)]) 3)) (qlen (qnth (Proofs.YtiojjmlccehpoaaGreat.l21_7 [sd0, sd1, (D.int sn2), (D.int (qlen (qnth (Proofs.YtiojjmlccehpoaaGreat.q70 [sd0]) 0)))] [(D.int 0), (D.int 0), (qrep 0 (D.int 0)), (qnth (Proofs.YtiojjmlccehpoaaGreat.q70 [sd0]) 0)]) 3))) then
                          bif (qcmp BinOp.eql (qlen (qapp (qnth (Proofs.YtiojjmlccehpoaaGreat.l21_7 [sd0, sd1, (D.int sn2), (D.int (qlen (qnth (Proofs.YtiojjmlccehpoaaGreat.q70 [sd0]) 0)))] [(D.int 0), (D.int 0), (qrep 0 (D.int 0)), (qnth (Proofs.YtiojjmlccehpoaaGreat.q70 [sd0]) 0)]) 2) (D.list [(D.int (qbin BinOp.add IntKind.u32 sn2 (qwrap IntKind.u32 (qint (qnth (Proofs.YtiojjmlccehpoaaGreat.l21_7 [sd0, sd1, (D.int sn2), (D.int (qlen (qnth (Proofs.YtiojjmlccehpoaaGreat.q70 [sd0]) 0)))] [(D.int 0), (D.int 0), (qrep 0 (D.int 0)), (qnth (Proofs.YtiojjmlccehpoaaGreat.q70 [sd0]) 0)]) 1)))))]))) (qlen (qapp (qnth (Proofs.YtiojjmlccehpoaaGreat.l21_7 [sd0, sd1, (D.int sn2), (D.int (qlen (qnth (Proofs.YtiojjmlccehpoaaGreat.q70 [sd0]) 0)))] [(D.int 0), (D.int 0), (qrep 0 (D.int 0)), (qnth (Proofs.YtiojjmlccehpoaaGreat.q70 [sd0]) 0)]) 2) (D.list [(D.int (qbin BinOp.add IntKind.u32 sn2 (qwrap IntKind.u32 (qint (qnth (Proofs.YtiojjmlccehpoaaGreat.l21_7 [sd0, sd1, (D.int sn2), (D.int (qlen (qnth (Proofs.YtiojjmlccehpoaaGreat.q70 [sd0]) 0)))] [(D.int 0), (D.int 0), (qrep 0 (D.int 0)), (qnth (Proofs.YtiojjmlccehpoaaGreat.q70 [sd0]) 0)]) 1)))))])))) then
                            bif (qsome (Proofs.YtiojjmlccehpoaaGreat.l21_18 [sd0, (D.int (qint (qnth (Proofs.YtiojjmlccehpoaaGreat.l21_7 [sd0, sd1, (D.int sn2), (D.int (qlen (qnth (Proofs.YtiojjmlccehpoaaGreat.q70 [sd0]) 0)))] [(D.int 0), (D.int 0), (qrep 0 (D.int 0)), (qnth (Proofs.YtiojjmlccehpoaaGreat.q70 [sd0]) 0)]) 1))), sd1, (D.int (qlen sd1)), (qapp (qnth (Proofs.YtiojjmlccehpoaaGreat.l21_7 [sd0, sd1, (D.int sn2), (D.int (qlen (qnth (Proofs.YtiojjmlccehpoaaGreat.q70 [sd0]) 0)))] [(D.int 0), (D.int 0), (qrep 0 (D.int 0)), (qnth (Proofs.YtiojjmlccehpoaaGreat.q70 [sd0]) 0)]) 2) (D.list [(D.int (qbin BinOp.add IntKind.u32 sn2 (qwrap IntKind.u32 (qint (qnth (Proofs.YtiojjmlccehpoaaGreat.l21_7 [sd0, sd1, (D.int sn2), (D.int (qlen (qnth (Proofs.YtiojjmlccehpoaaGreat.q70 [sd0]) 0)))] [(D.int 0), (D.int 0), (qrep 0 (D.int 0)), (qnth (Proofs.YtiojjmlccehpoaaGreat.q70 [sd0]) 0)]) 1)))))]))] [(D.int 0), (qnth (Proofs.YtiojjmlccehpoaaGreat.l21_7 [sd0, sd1, (D.int sn2), (D.int (qlen (qnth (Proofs.YtiojjmlccehpoaaGreat.q70 [sd0]) 0)))] [(D.int 0), (D.int 0), (qrep 0 (D.int 0)), (qnth (Proofs.YtiojjmlccehpoaaGreat.q70 [sd0]) 0)]) 3)])) then
                              bif (qcmp BinOp.eql (qint (qnth (Proofs.YtiojjmlccehpoaaGreat.l21_18 [sd0, (D.int (qint (qnth (Proofs.YtiojjmlccehpoaaGreat.l21_7 [sd0, sd1, (D.int sn2), (D.int (qlen (qnth (Proofs.YtiojjmlccehpoaaGreat.q70 [sd0]) 0)))] [(D.int 0), (D.int 0), (qrep 0 (D.int 0)), (qnth (Proofs.YtiojjmlccehpoaaGreat.q70 [sd0]) 0)]) 1))), sd1, (D.int (qlen sd1)), (qapp (qnth (Proofs.YtiojjmlccehpoaaGreat.l21_7 [sd0, sd1, (D.int sn2), (D.int (qlen (qnth (Proofs.YtiojjmlccehpoaaGreat.q70 [sd0]) 0)))] [(D.int 0), (D.int 0), (qrep 0 (D.int 0)), (qnth (Proofs.YtiojjmlccehpoaaGreat.q70 [sd0]) 0)]) 2) (D.list [(D.int (qbin BinOp.add IntKind.u32 sn2 (qwrap IntKind.u32 (qint (qnth (Proofs.YtiojjmlccehpoaaGreat.l21_7 [sd0, sd1, (D.int sn2), (D.int (qlen (qnth (Proofs.YtiojjmlccehpoaaGreat.q70 [sd0]) 0)))] [(D.int 0), (D.int 0), (qrep 0 (D.int 0)), (qnth (Proofs.YtiojjmlccehpoaaGreat.q70 [sd0]) 0)]) 1)))))]))] [(D.int 0), (qnth (Proofs.YtiojjmlccehpoaaGreat.l21_7 [sd0, sd1, (D.int sn2), (D.int (qlen (qnth (Proofs.YtiojjmlccehpoaaGreat.q70 [sd0]) 0)))] [(D.int 0), (D.int 0), (qrep 0 (D.int 0)), (qnth (Proofs.YtiojjmlccehpoaaGreat.q70 [sd0]) 0)]) 3)]) 0)) 0) then
                                bif (qcmp BinOp.gtr (qint (qnth (Proofs.YtiojjmlccehpoaaGreat.l21_7 [sd0, sd1, (D.int sn2), (D.int (qlen (qnth (Proofs.YtiojjmlccehpoaaGreat.q70 [sd0]) 0)))] [(D.int 0), (D.int 0), (qrep 0 (D.int 0)), (qnth (Proofs.YtiojjmlccehpoaaGreat.q70 [sd0]) 0)]) 1)) 65536) then
                                  some [(D.list []), (D.int 6)]
                                else
                                  bif (qcmp BinOp.eql (qlen (qnth (Proofs.YtiojjmlccehpoaaGreat.l21_18 [sd0, (D.int (qint (qnth (Proofs.YtiojjmlccehpoaaGreat.l21_7 [sd0, sd1, (D.int sn2), (D.int (qlen (qnth (Proofs.YtiojjmlccehpoaaGreat.q70 [sd0]) 0)))] [(D.int 0), (D.int 0), (qrep 0 (D.int 0)), (qnth (Proofs.YtiojjmlccehpoaaGreat.q70 [sd0]) 0)]) 1))), sd1, (D.int (qlen sd1)), (qapp (qnth (Proofs.YtiojjmlccehpoaaGreat.l21_7 [sd0, sd1, (D.int sn2), (D.int (qlen (qnth (Proofs.YtiojjmlccehpoaaGreat.q70 [sd0]) 0)))] [(D.int 0), (D.int 0), (qrep 0 (D.int 0)), (qnth (Proofs.YtiojjmlccehpoaaGreat.q70 [sd0]) 0)]) 2) (D.list [(D.int (qbin BinOp.add IntKind.u32 sn2 (qwrap IntKind.u32 (qint (qnth (Proofs.YtiojjmlccehpoaaGreat.l21_7 [sd0, sd1, (D.int sn2), (D.int (qlen (qnth (Proofs.YtiojjmlccehpoaaGreat.q70 [sd0]) 0)))] [(D.int 0), (D.int 0), (qrep 0 (D.int 0)), (qnth (Proofs.YtiojjmlccehpoaaGreat.q70 [sd0]) 0)]) 1)))))]))] [(D.int 0), (qnth (Proofs.YtiojjmlccehpoaaGreat.l21_7 [sd0, sd1, (D.int sn2), (D.int (qlen (qnth (Proofs.YtiojjmlccehpoaaGreat.q70 [sd0]) 0)))] [(D.int 0), (D.int 0), (qrep 0 (D.int 0)), (qnth (Proofs.YtiojjmlccehpoaaGreat.q70 [sd0]) 0)]) 3)]) 1)) (qlen (qnth (Proofs.YtiojjmlccehpoaaGreat.l21_18 [sd0, (D.int (qint (qnth (Proofs.YtiojjmlccehpoaaGreat.l21_7 [sd0, sd1, (D.int sn2), (D.int (qlen (qnth (Proofs.YtiojjmlccehpoaaGreat.q70 [sd0]) 0)))] [(D.int 0), (D.int 0), (qrep 0 (D.int 0)), (qnth (Proofs.YtiojjmlccehpoaaGreat.q70 [sd0]) 0)]) 1))), sd1, (D.int (qlen sd1)), (qapp (qnth (Proofs.YtiojjmlccehpoaaGreat.l21_7 [sd0, sd1, (D.int sn2), (D.int (qlen (qnth (Proofs.YtiojjmlccehpoaaGreat.q70 [sd0]) 0)))] [(D.int 0), (D.int 0), (qrep 0 (D.int 0)), (qnth (Proofs.YtiojjmlccehpoaaGreat.q70 [sd0]) 0)]) 2) (D.list [(D.int (qbin BinOp.add IntKind.u32 sn2 (qwrap IntKind.u32 (qint (qnth (Proofs.YtiojjmlccehpoaaGreat.l21_7 [sd0, sd1, (D.int sn2), (D.int (qlen (qnth (Proofs.YtiojjmlccehpoaaGreat.q70 [sd0]) 0)))] [(D.int 0), (D.int 0), (qrep 0 (D.int 0)), (qnth (Proofs.YtiojjmlccehpoaaGreat.q70 [sd0]) 0)]) 1)))))]))] [(D.int 0), (qnth (Proofs.YtiojjmlccehpoaaGreat.l21_7 [sd0, sd1, (D.int sn2), (D.int (qlen (qnth (Proofs.YtiojjmlccehpoaaGreat.q70 [sd0]) 0)))] [(D.int 0), (D.int 0), (qrep 0 (D.int 0)), (qnth (Proofs.YtiojjmlccehpoaaGreat.q70 [sd0]) 0)]) 3)]) 1))) then
                                    some [(qnth (Proofs.YtiojjmlccehpoaaGreat.l21_18 [sd0, (D.int (qint (qnth (Proofs.YtiojjmlccehpoaaGreat.l21_7 [sd0, sd1, (D.int sn2), (D.int (qlen (qnth (Proofs.YtiojjmlccehpoaaGreat.q70 [sd0]) 0)))] [(D.int 0), (D.int 0), (qrep 0 (D.int 0)), (qnth (Proofs.YtiojjmlccehpoaaGreat.q70 [sd0]) 0)]) 1))), sd1, (D.int (qlen sd1)), (qapp (qnth (Proofs.YtiojjmlccehpoaaGreat.l21_7 [sd0, sd1, (D.int sn2), (D.int (qlen (qnth (Proofs.YtiojjmlccehpoaaGreat.q70 [sd0]) 0)))] [(D.int 0), (D.int 0), (qrep 0 (D.int 0)), (qnth (Proofs.YtiojjmlccehpoaaGreat.q70 [sd0]) 0)]) 2) (D.list [(D.int (qbin BinOp.add IntKind.u32 sn2 (qwrap IntKind.u32 (qint (qnth (Proofs.YtiojjmlccehpoaaGreat.l21_7 [sd0, sd1, (D.int sn2), (D.int (qlen (qnth (Proofs.YtiojjmlccehpoaaGreat.q70 [sd0]) 0)))] [(D.int 0), (D.int 0), (qrep 0 (D.int 0)), (qnth (Proofs.YtiojjmlccehpoaaGreat.q70 [sd0]) 0)]) 1)))))]))] [(D.int 0), (qnth (Proofs.YtiojjmlccehpoaaGreat.l21_7 [sd0, sd1, (D.int sn2), (D.int (qlen (qnth (Proofs.YtiojjmlccehpoaaGreat.q70 [sd0]) 0)))] [(D.int 0), (D.int 0), (qrep 0 (D.int 0)), (qnth (Proofs.YtiojjmlccehpoaaGreat.q70 [sd0]) 0)]) 3)]) 1), (D.int 0)]
                                  else
                                    none
                              else
                                some [(D.list []), (D.int 2)]
                            else
                              none
                          else
                            none
                        else
                          none
                      else
                        none
                    else
                      none
                  else
                    none
                else
                  none
              else
                none
            else
              none
          else
            none
        else
          none
      else
        none := by kernel_rfl
  rw [h]; simp only [qeqD_self, qeqI_self, qeq_len, show qcmp BinOp.eql 0 (qlen (D.list [])) = true from qeq_len [], show ∀ a, qcmp BinOp.eql 1 (qlen (D.list [a])) = true from fun a => qeq_len [a], show ∀ a b, qcmp BinOp.eql 2 (qlen (D.list [a, b])) = true from fun a b => qeq_len [a, b], cond_true]

noncomputable def q21 : List D → Option (List D) := veil (F21 )

theorem q21_eq : q21  = F21  := veil_eq _

noncomputable def tb21 : Tb := Tb.addF tbl21_18 21 S21 (q21 )

theorem ok_tb21 : TbOk env (tb21 ) := addFunF ok_tbl21_18 21 (by kernel_rfl) _ (q21_eq )

/- function 22  -/

def S22_7 : LoopS := ⟨0, [⟨false, (.rows 46)⟩, ⟨false, (.rows 3)⟩, ⟨false, .any⟩, ⟨false, .any⟩, ⟨false, .any⟩, ⟨false, .any⟩, ⟨false, (.lit (.slice none 0 0))⟩, ⟨false, (.lit (.int .i64 0))⟩, ⟨false, (.osl 0 46)⟩, ⟨false, (.osl 1 22)⟩, ⟨true, (.int .i64)⟩, ⟨true, (.int .i64)⟩, ⟨false, .any⟩, ⟨false, .any⟩, ⟨false, .any⟩, ⟨false, .any⟩, ⟨false, .any⟩, ⟨false, .any⟩, ⟨false, .any⟩, ⟨false, .any⟩, ⟨false, .any⟩, ⟨false, .any⟩, ⟨false, .any⟩, ⟨false, .any⟩, ⟨false, .any⟩, ⟨false, .any⟩, ⟨false, .any⟩, ⟨false, .any⟩, ⟨false, .any⟩, ⟨false, .any⟩, ⟨false, .any⟩, ⟨false, .any⟩, ⟨false, .any⟩, ⟨false, .any⟩, ⟨false, .any⟩, ⟨false, .any⟩, ⟨false, .any⟩, ⟨false, .any⟩, ⟨false, .any⟩, ⟨false, .any⟩, ⟨false, .any⟩, ⟨false, .any⟩, ⟨false, .any⟩, ⟨false, .any⟩, ⟨false, .any⟩, ⟨false, .any⟩, ⟨false, .any⟩, ⟨false, .any⟩, ⟨false, .any⟩, ⟨false, .any⟩, ⟨false, .any⟩, ⟨false, .any⟩, ⟨false, .any⟩, ⟨false, .any⟩, ⟨false, .any⟩, ⟨false, .any⟩, ⟨false, .any⟩, ⟨false, .any⟩, ⟨false, .any⟩, ⟨false, .any⟩, ⟨false, .any⟩, ⟨false, .any⟩, ⟨false, .any⟩, ⟨false, .any⟩, ⟨false, .any⟩, ⟨false, .any⟩, ⟨false, .any⟩, ⟨false, .any⟩, ⟨false, .any⟩, ⟨false, .any⟩, ⟨false, .any⟩, ⟨false, .any⟩, ⟨false, .any⟩, ⟨false, .any⟩, ⟨false, .any⟩, ⟨false, .any⟩, ⟨false, .any⟩, ⟨false, .any⟩, ⟨false, .any⟩, ⟨false, .any⟩, ⟨false, .any⟩, ⟨false, .any⟩, ⟨false, .any⟩, ⟨false, .any⟩, ⟨false, .any⟩, ⟨false, .any⟩, ⟨false, .any⟩, ⟨false, .any⟩, ⟨false, .any⟩, ⟨false, .any⟩, ⟨false, .any⟩, ⟨false, .any⟩, ⟨false, .any⟩, ⟨false, .any⟩, ⟨false, .any⟩, ⟨false, .any⟩, ⟨false, .any⟩, ⟨false, .any⟩, ⟨false, .any⟩, ⟨false, .any⟩, ⟨false, .any⟩, ⟨false, .any⟩, ⟨false, .any⟩, ⟨false, .any⟩, ⟨false, .any⟩, ⟨false, .any⟩, ⟨false, .any⟩, ⟨false, .any⟩, ⟨false, .any⟩, ⟨false, .any⟩, ⟨false, .any⟩, ⟨false, .any⟩, ⟨false, .any⟩, ⟨false, .any⟩, ⟨false, .any⟩, ⟨false, .any⟩, ⟨false, .any⟩, ⟨false, .any⟩, ⟨false, .any⟩, ⟨false, .any⟩, ⟨false, .any⟩, ⟨false, .any⟩, ⟨false, .any⟩, ⟨false, .any⟩], [(.lst true 22), (.lst true 46)], [⟨0, 0, [⟨false, (.rows 46)⟩, ⟨false, (.rows 3)⟩, ⟨true, .any⟩, ⟨true, .any⟩, ⟨true, .any⟩, ⟨true, .any⟩, ⟨true, (.lit (.slice none 0 0))⟩, ⟨true, (.lit (.int .i64 0))⟩, ⟨true, (.osl 0 46)⟩, ⟨true, (.osl 1 22)⟩, ⟨true, (.int .i64)⟩, ⟨true, .any⟩, ⟨true, .any⟩, ⟨true, .any⟩, ⟨true, .any⟩, ⟨true, .any⟩, ⟨true, .any⟩, ⟨true, .any⟩, ⟨true, .any⟩, ⟨true, .any⟩, ⟨true, .any⟩, ⟨true, .any⟩, ⟨true, .any⟩, ⟨true, .any⟩, ⟨true, .any⟩, ⟨true, .any⟩, ⟨true, .any⟩, ⟨true, .any⟩, ⟨true, .any⟩, ⟨true, .any⟩, ⟨true, .any⟩, ⟨true, .any⟩, ⟨true, .any⟩, ⟨true, .any⟩, ⟨true, .any⟩, ⟨true, .any⟩, ⟨true, .any⟩, ⟨true, .any⟩, ⟨true, .any⟩, ⟨true, .any⟩, ⟨true, .any⟩, ⟨true, .any⟩, ⟨true, .any⟩, ⟨true, .any⟩, ⟨true, .any⟩, ⟨true, .any⟩, ⟨true, .any⟩, ⟨true, .any⟩, ⟨true, .any⟩, ⟨true, .any⟩, ⟨true, .any⟩, ⟨true, .any⟩, ⟨true, .any⟩, ⟨true, .any⟩, ⟨true, .any⟩, ⟨true, .any⟩, ⟨true, .any⟩, ⟨true, .any⟩, ⟨true, .any⟩, ⟨true, .any⟩, ⟨true, .any⟩, ⟨true, .any⟩, ⟨true, .any⟩, ⟨true, .any⟩, ⟨true, .any⟩, ⟨true, .any⟩, ⟨true, .any⟩, ⟨true, .any⟩, ⟨true, .any⟩, ⟨true, .any⟩, ⟨true, .any⟩, ⟨true, .any⟩, ⟨true, .any⟩, ⟨true, .any⟩, ⟨true, .any⟩, ⟨true, .any⟩, ⟨true, .any⟩, ⟨true, .any⟩, ⟨true, .any⟩, ⟨true, .any⟩, ⟨true, .any⟩, ⟨true, .any⟩, ⟨true, .any⟩, ⟨true, .any⟩, ⟨true, .any⟩, ⟨true, .any⟩, ⟨true, .any⟩, ⟨true, .any⟩, ⟨true, .any⟩, ⟨true, .any⟩, ⟨true, .any⟩, ⟨true, .any⟩, ⟨true, .any⟩, ⟨true, .any⟩, ⟨true, .any⟩, ⟨true, .any⟩, ⟨true, .any⟩, ⟨true, .any⟩, ⟨true, .any⟩, ⟨true, .any⟩, ⟨true, .any⟩, ⟨true, .any⟩, ⟨true, .any⟩, ⟨true, .any⟩, ⟨true, .any⟩, ⟨true, .any⟩, ⟨true, .any⟩, ⟨true, .any⟩, ⟨true, .any⟩, ⟨true, .any⟩, ⟨true, .any⟩, ⟨true, .any⟩, ⟨true, .any⟩, ⟨true, .any⟩, ⟨true, .any⟩, ⟨true, .any⟩, ⟨true, .any⟩, ⟨true, .any⟩, ⟨true, .any⟩, ⟨true, .any⟩, ⟨true, .any⟩, ⟨true, .any⟩, ⟨true, .any⟩, ⟨true, .any⟩], [(.lst true 22), (.lst true 46)]⟩, ⟨1, 0, [⟨false, (.rows 46)⟩, ⟨false, (.rows 3)⟩, ⟨true, .any⟩, ⟨true, .any⟩, ⟨true, .any⟩, ⟨true, .any⟩, ⟨true, (.lit (.slice none 0 0))⟩, ⟨true, (.lit (.int .i64 2))⟩, ⟨true, .any⟩, ⟨true, .any⟩, ⟨true, .any⟩, ⟨true, .any⟩, ⟨true, .any⟩, ⟨true, .any⟩, ⟨true, .any⟩, ⟨true, .any⟩, ⟨true, .any⟩, ⟨true, .any⟩, ⟨true, .any⟩, ⟨true, .any⟩, ⟨true, .any⟩, ⟨true, .any⟩, ⟨true, .any⟩, ⟨true, .any⟩, ⟨true, .any⟩, ⟨true, .any⟩, ⟨true, .any⟩, ⟨true, .any⟩, ⟨true, .any⟩, ⟨true, .any⟩, ⟨true, .any⟩, ⟨true, .any⟩, ⟨true, .any⟩, ⟨true, .any⟩, ⟨true, .any⟩, ⟨true, .any⟩, ⟨true, .any⟩, ⟨true, .any⟩, ⟨true, .any⟩, ⟨true, .any⟩, ⟨true, .any⟩, ⟨true, .any⟩, ⟨true, .any⟩, ⟨true, .any⟩, ⟨true, .any⟩, ⟨true, .any⟩, ⟨true, .any⟩, ⟨true, .any⟩, ⟨true, .any⟩, ⟨true, .any⟩, ⟨true, .any⟩, ⟨true, .any⟩, ⟨true, .any⟩, ⟨true, .any⟩, ⟨true, .any⟩, ⟨true, .any⟩, ⟨true, .any⟩, ⟨true, .any⟩, ⟨true, .any⟩, ⟨true, .any⟩, ⟨true, .any⟩, ⟨true, .any⟩, ⟨true, .any⟩, ⟨true, .any⟩, ⟨true, .any⟩, ⟨true, .any⟩, ⟨true, .any⟩, ⟨true, .any⟩, ⟨true, .any⟩, ⟨true, .any⟩, ⟨true, .any⟩, ⟨true, .any⟩, ⟨true, .any⟩, ⟨true, .any⟩, ⟨true, .any⟩, ⟨true, .any⟩, ⟨true, .any⟩, ⟨true, .any⟩, ⟨true, .any⟩, ⟨true, .any⟩, ⟨true, .any⟩, ⟨true, .any⟩, ⟨true, .any⟩, ⟨true, .any⟩, ⟨true, .any⟩, ⟨true, .any⟩, ⟨true, .any⟩, ⟨true, .any⟩, ⟨true, .any⟩, ⟨true, .any⟩, ⟨true, .any⟩, ⟨true, .any⟩, ⟨true, .any⟩, ⟨true, .any⟩, ⟨true, .any⟩, ⟨true, .any⟩, ⟨true, .any⟩, ⟨true, .any⟩, ⟨true, .any⟩, ⟨true, .any⟩, ⟨true, .any⟩, ⟨true, .any⟩, ⟨true, .any⟩, ⟨true, .any⟩, ⟨true, .any⟩, ⟨true, .any⟩, ⟨true, .any⟩, ⟨true, .any⟩, ⟨true, .any⟩, ⟨true, .any⟩, ⟨true, .any⟩, ⟨true, .any⟩, ⟨true, .any⟩, ⟨true, .any⟩, ⟨true, .any⟩, ⟨true, .any⟩, ⟨true, .any⟩, ⟨true, .any⟩, ⟨true, .any⟩, ⟨true, .any⟩, ⟨true, .any⟩, ⟨true, .any⟩, ⟨true, .any⟩, ⟨true, .any⟩], [.skip, .skip]⟩]⟩

noncomputable def st22_7 (p s : List D) : Option (Sum (List D) (List D)) := stepQX env tb21 60 6 22 (loopC 22 7) S22_7 p s

noncomputable def st22_7_a0 (pd0 : D) (pd1 : D) (sn0 : Int) (sn1 : Int) (sd2 : D) (sd3 : D) : D := (D.agg [(D.int (qint (qget sd2 sn1))), (D.int (qint (qfld (qget pd0 sn1) 1))), (D.int (qint (qfld (qget pd0 sn1) 2))), (D.int (qint (qfld (qget pd0 sn1) 3))), (D.int (qint (qfld (qget pd0 sn1) 4))), (D.int (qint (qfld (qget pd0 sn1) 5))), (D.int (qint (qfld (qget pd0 sn1) 6))), (D.int (qint (qfld (qget pd0 sn1) 7))), (D.int (qint (qfld (qget pd0 sn1) 8)))])

noncomputable def st22_7_a1 (pd0 : D) (pd1 : D) (sn0 : Int) (sn1 : Int) (sd2 : D) (sd3 : D) : D := (D.agg [(D.int (qint (qget sd2 sn1))), (D.int (qint (qfld (qget pd0 sn1) 1))), (D.int (qint (qfld (qget pd0 sn1) 2))), (D.int (qint (qfld (qget pd0 sn1) 3))), (D.int (qint (qfld (qget pd0 sn1) 4))), (D.int (qint (qfld (qget pd0 sn1) 5))), (D.int (qint (qfld (qget pd0 sn1) 6))), (D.int (qint (qfld (qget pd0 sn1) 7))), (D.int (qint (qnth (Proofs.YtiojjmlccehpoaaGreat.q72 [(st22_7_a0 pd0 pd1 sn0 sn1 sd2 sd3)]) 0)))])

noncomputable def st22_7_a2 (pd0 : D) (pd1 : D) (sn0 : Int) (sn1 : Int) (sd2 : D) (sd3 : D) : D := (D.agg [(D.int (qint (qget sd2 sn1))), (D.int (qint (qfld (qget pd0 sn1) 1))), (D.int (qint (qfld (qget pd0 sn1) 2))), (D.int 2), (D.int (qint (qfld (qget pd0 sn1) 4))), (D.int (qint (qfld (qget pd0 sn1) 5))), (D.int (qint (qfld (qget pd0 sn1) 6))), (D.int (qint (qfld (qget pd0 sn1) 7))), (D.int (qint (qfld (qget pd0 sn1) 8)))])

noncomputable def st22_7_a3 (pd0 : D) (pd1 : D) (sn0 : Int) (sn1 : Int) (sd2 : D) (sd3 : D) : D := (D.agg [(D.int (qint (qget sd2 sn1))), (D.int (qint (qfld (qget pd0 sn1) 1))), (D.int (qint (qfld (qget pd0 sn1) 2))), (D.int 2), (D.int (qint (qfld (qget pd0 sn1) 4))), (D.int (qint (qfld (qget pd0 sn1) 5))), (D.int (qint (qfld (qget pd0 sn1) 6))), (D.int (qint (qfld (qget pd0 sn1) 7))), (D.int (qint (qnth (Proofs.YtiojjmlccehpoaaGreat.q72 [(st22_7_a2 pd0 pd1 sn0 sn1 sd2 sd3)]) 0)))])

theorem st22_7_eq (pd0 : D) (pd1 : D) (sn0 : Int) (sn1 : Int) (sd2 : D) (sd3 : D) : st22_7  [pd0, pd1] [(D.int sn0), (D.int sn1), sd2, sd3] =
    bif (qcmp BinOp.lss sn1 (qlen pd0)) then
      bif (qinb pd0 sn1) then
        bif (qcmp BinOp.leq 0 sn1) then
          bif (qcmp BinOp.lss sn1 (qlen sd2)) then
            bif (qinb sd2 sn1) then
              bif (qcmp BinOp.eql (qint (qfld (qget pd0 sn1) 2)) 20) then
                bif (qinb pd1 sn1) then
                  bif (qiteB (qcmp BinOp.lss (qint (qget pd1 sn1)) (-1)) Bool.true (qinb pd1 sn1)) then
                    bif (qiteB (qiteB (qcmp BinOp.lss (qint (qget pd1 sn1)) (-1)) Bool.true (qcmp BinOp.gtr (qint (qget pd1 sn1)) (qlen pd0))) Bool.true (qinb pd1 sn1)) then
                      bif (qiteB (qiteB (qiteB (qcmp BinOp.lss (qint (qget pd1 sn1)) (-1)) Bool.true (qcmp BinOp.gtr (qint (qget pd1 sn1)) (qlen pd0))) Bool.true (qiteB (qcmp BinOp.geq (qint (qget pd1 sn1)) 0) (qnot (qiteB (qcmp BinOp.eql (qint (qfld (qget pd0 sn1) 2)) 20) Bool.true (qcmp BinOp.eql (qint (qfld (qget pd0 sn1) 2)) 23))) Bool.false)) Bool.true (qsome (Proofs.YtiojjmlccehpoaaGreat.q71 [(st22_7_a2 pd0 pd1 sn0 sn1 sd2 sd3)]))) then
                        bif (qiteB (qiteB (qiteB (qcmp BinOp.lss (qint (qget pd1 sn1)) (-1)) Bool.true (qcmp BinOp.gtr (qint (qget pd1 sn1)) (qlen pd0))) Bool.true (qiteB (qcmp BinOp.geq (qint (qget pd1 sn1)) 0) (qnot (qiteB (qcmp BinOp.eql (qint (qfld (qget pd0 sn1) 2)) 20) Bool.true (qcmp BinOp.eql (qint (qfld (qget pd0 sn1) 2)) 23))) Bool.false)) Bool.true (qnot (qbool (qnth (Proofs.YtiojjmlccehpoaaGreat.q71 [(st22_7_a2 pd0 pd1 sn0 sn1 sd2 sd3)]) 0)))) then
                          some (Sum.inr [(D.int 1)])
                        else
                          bif (qsome (Proofs.YtiojjmlccehpoaaGreat.q72 [(st22_7_a2 pd0 pd1 sn0 sn1 sd2 sd3)])) then
                            bif (qmem (qlen (qapp sd3 (D.list [(st22_7_a3 pd0 pd1 sn0 sn1 sd2 sd3)]))) 64) then
                              bif (qmem (qlen (qapp sd2 (D.list [(D.int (qbin BinOp.add IntKind.u32 (qint (qget sd2 sn1)) (qwrap IntKind.u32 (qint (qnth (Proofs.YtiojjmlccehpoaaGreat.q72 [(st22_7_a2 pd0 pd1 sn0 sn1 sd2 sd3)]) 0)))))]))) 4) then
                                some (Sum.inl [(D.int (qbin BinOp.add IntKind.i64 sn0 (qint (qnth (Proofs.YtiojjmlccehpoaaGreat.q72 [(st22_7_a2 pd0 pd1 sn0 sn1 sd2 sd3)]) 0)))), (D.int (qbin BinOp.add IntKind.i64 sn1 1)), (qapp sd2 (D.list [(D.int (qbin BinOp.add IntKind.u32 (qint (qget sd2 sn1)) (qwrap IntKind.u32 (qint (qnth (Proofs.YtiojjmlccehpoaaGreat.q72 [(st22_7_a2 pd0 pd1 sn0 sn1 sd2 sd3)]) 0)))))])), (qapp sd3 (D.list [(st22_7_a3 pd0 pd1 sn0 sn1 sd2 sd3)]))])
                              else
                                none
                            else
                              none
                          else
                            none
                      else
                        none
                    else
                      none
                  else
                    none
                else
                  none
              else
                bif (qinb pd1 sn1) then
                  bif (qiteB (qcmp BinOp.lss (qint (qget pd1 sn1)) (-1)) Bool.true (qinb pd1 sn1)) then
                    bif (qiteB (qiteB (qcmp BinOp.lss (qint (qget pd1 sn1)) (-1)) Bool.true (qcmp BinOp.gtr (qint (qget pd1 sn1)) (qlen pd0))) Bool.true (qinb pd1 sn1)) then
                      bif (qiteB (qiteB (qiteB (qcmp BinOp.lss (qint (qget pd1 sn1)) (-1)) Bool.true (qcmp BinOp.gtr (qint (qget pd1 sn1)) (qlen pd0))) Bool.true (qiteB (qcmp BinOp.geq (qint (qget pd1 sn1)) 0) (qnot (qiteB (qcmp BinOp.eql (qint (qfld (qget pd0 sn1) 2)) 20) Bool.true (qcmp BinOp.eql (qint (qfld (qget pd0 sn1) 2)) 23))) Bool.false)) Bool.true (qsome (Proofs.YtiojjmlccehpoaaGreat.q71 [(st22_7_a0 pd0 pd1 sn0 sn1 sd2 sd3)]))) then
                        bif (qiteB (qiteB (qiteB (qcmp BinOp.lss (qint (qget pd1 sn1)) (-1)) Bool.true (qcmp BinOp.gtr (qint (qget pd1 sn1)) (qlen pd0))) Bool.true (qiteB (qcmp BinOp.geq (qint (qget pd1 sn1)) 0) (qnot (qiteB (qcmp BinOp.eql (qint (qfld (qget pd0 sn1) 2)) 20) Bool.true (qcmp BinOp.eql (qint (qfld (qget pd0 sn1) 2)) 23))) Bool.false)) Bool.true (qnot (qbool (qnth (Proofs.YtiojjmlccehpoaaGreat.q71 [(st22_7_a0 pd0 pd1 sn0 sn1 sd2 sd3)]) 0)))) then
                          some (Sum.inr [(D.int 1)])
                        else
                          bif (qsome (Proofs.YtiojjmlccehpoaaGreat.q72 [(st22_7_a0 pd0 pd1 sn0 sn1 sd2 sd3)])) then
                            bif (qmem (qlen (qapp sd3 (D.list [(st22_7_a1 pd0 pd1 sn0 sn1 sd2 sd3)]))) 64) then
                              bif (qmem (qlen (qapp sd2 (D.list [(D.int (qbin BinOp.add IntKind.u32 (qint (qget sd2 sn1)) (qwrap IntKind.u32 (qint (qnth (Proofs.YtiojjmlccehpoaaGreat.q72 [(st22_7_a0 pd0 pd1 sn0 sn1 sd2 sd3)]) 0)))))]))) 4) then
                                some (Sum.inl [(D.int (qbin BinOp.add IntKind.i64 sn0 (qint (qnth (Proofs.YtiojjmlccehpoaaGreat.q72 [(st22_7_a0 pd0 pd1 sn0 sn1 sd2 sd3)]) 0)))), (D.int (qbin BinOp.add IntKind.i64 sn1 1)), (qapp sd2 (D.list [(D.int (qbin BinOp.add IntKind.u32 (qint (qget sd2 sn1)) (qwrap IntKind.u32 (qint (qnth (Proofs.YtiojjmlccehpoaaGreat.q72 [(st22_7_a0 pd0 pd1 sn0 sn1 sd2 sd3)]) 0)))))])), (qapp sd3 (D.list [(st22_7_a1 pd0 pd1 sn0 sn1 sd2 sd3)]))])
                              else
                                none
                            else
                              none
                          else
                            none
                      else
                        none
                    else
                      none
                  else
                    none
                else
                  none
            else
              none
          else
            none
        else
          none
      else
        none
    else
      some (Sum.inr [(D.int 0), (D.int sn0), sd2, sd3]) := by
  have h : st22_7  [pd0, pd1] [(D.int sn0), (D.int sn1), sd2, sd3] =
    bif (qcmp BinOp.lss sn1 (qlen pd0)) then
      bif (qinb pd0 sn1) then
        bif (qcmp BinOp.leq 0 sn1) then
          bif (qcmp BinOp.lss sn1 (qlen sd2)) then
            bif (qinb sd2 sn1) then
              bif (qcmp BinOp.eql (qint (qfld (qget pd0 sn1) 2)) 20) then
                bif (qinb pd1 sn1) then
                  bif (qiteB (qcmp BinOp.lss (qint (qget pd1 sn1)) (-1)) Bool.true (qinb pd1 sn1)) then
                    bif (qiteB (qiteB (qcmp BinOp.lss (qint (qget pd1 sn1)) (-1)) Bool.true (qcmp BinOp.gtr (qint (qget pd1 sn1)) (qlen pd0))) Bool.true (qinb pd1 sn1)) then
                      bif (qiteB (qiteB (qiteB (qcmp BinOp.lss (qint (qget pd1 sn1)) (-1)) Bool.true (qcmp BinOp.gtr (qint (qget pd1 sn1)) (qlen pd0))) Bool.true (qiteB (qcmp BinOp.geq (qint (qget pd1 sn1)) 0) (qnot (qiteB (qcmp BinOp.eql (qint (qfld (qget pd0 sn1) 2)) 20) Bool.true (qcmp BinOp.eql (qint (qfld (qget pd0 sn1) 2)) 23))) Bool.false)) Bool.true (qsome (Proofs.YtiojjmlccehpoaaGreat.q71 [(st22_7_a2 pd0 pd1 sn0 sn1 sd2 sd3)]))) then
                        bif (qiteB (qiteB (qiteB (qcmp BinOp.lss (qint (qget pd1 sn1)) (-1)) Bool.true (qcmp BinOp.gtr (qint (qget pd1 sn1)) (qlen pd0))) Bool.true (qiteB (qcmp BinOp.geq (qint (qget pd1 sn1)) 0) (qnot (qiteB (qcmp BinOp.eql (qint (qfld (qget pd0 sn1) 2)) 20) Bool.true (qcmp BinOp.eql (qint (qfld (qget pd0 sn1) 2)) 23))) Bool.false)) Bool.true (qnot (qbool (qnth (Proofs.YtiojjmlccehpoaaGreat.q71 [(st22_7_a2 pd0 pd1 sn0 sn1 sd2 sd3)]) 0)))) then
                          bif (qeqD pd0 pd0) then
                            bif (qeqD pd1 pd1) then
                              some (Sum.inr [(D.int 1)])
                            else
                              none
                          else
                            none
                        else
                          bif (qsome (Proofs.YtiojjmlccehpoaaGreat.q72 [(st22_7_a2 pd0 pd1 sn0 sn1 sd2 sd3)])) then
                            bif (qcmp BinOp.eql (qlen sd3) (qlen sd3)) then
                              bif (qmem (qlen (qapp sd3 (D.list [(st22_7_a3 pd0 pd1 sn0 sn1 sd2 sd3)]))) 64) then
                                bif (qcmp BinOp.eql (qlen sd2) (qlen sd2)) then
                                  bif (qmem (qlen (qapp sd2 (D.list [(D.int (qbin BinOp.add IntKind.u32 (qint (qget sd2 sn1)) (qwrap IntKind.u32 (qint (qnth (Proofs.YtiojjmlccehpoaaGreat.q72 [(st22_7_a2 pd0 pd1 sn0 sn1 sd2 sd3)]) 0)))))]))) 4) then
                                    bif (qcmp BinOp.eql (qlen (qapp sd3 (D.list [(st22_7_a3 pd0 pd1 sn0 sn1 sd2 sd3)]))) (qlen (qapp sd3 (D.list [(st22_7_a3 pd0 pd1 sn0 sn1 sd2 sd3)])))) then
                                      bif (qcmp BinOp.eql (qlen (qapp sd2 (D.list [(D.int (qbin BinOp.add IntKind.u32 (qint (qget sd2 sn1)) (qwrap IntKind.u32 (qint (qnth (Proofs.YtiojjmlccehpoaaGreat.q72 [(st22_7_a2 pd0 pd1 sn0 sn1 sd2 sd3)]) 0)))))]))) (qlen (qapp sd2 (D.list [(D.int (qbin BinOp.add IntKind.u32 (qint (qget sd2 sn1)) (qwrap IntKind.u32 (qint (qnth (Proofs.YtiojjmlccehpoaaGreat.q72 [(st22_7_a2 pd0 pd1 sn0 sn1 sd2 sd3)]) 0)))))])))) then
                                        bif (qeqD pd0 pd0) then
                                          bif (qeqD pd1 pd1) then
                                            some (Sum.inl [(D.int (qbin BinOp.add IntKind.i64 sn0 (qint (qnth (Proofs.YtiojjmlccehpoaaGreat.q72 [(st22_7_a2 pd0 pd1 sn0 sn1 sd2 sd3)]) 0)))), (D.int (qbin BinOp.add IntKind.i64 sn1 1)), (qapp sd2 (D.list [(D.int (qbin BinOp.add IntKind.u32 (qint (qget sd2 sn1)) (qwrap IntKind.u32 (qint (qnth (Proofs.YtiojjmlccehpoaaGreat.q72 [(st22_7_a2 pd0 pd1 sn0 sn1 sd2 sd3)]) 0)))))])), (qapp sd3 (D.list [(st22_7_a3 pd0 pd1 sn0 sn1 sd2 sd3)]))])
                                          else
                                            none
                                        else
                                          none
                                      else
                                        none
                                    else
                                      none
                                  else
                                    none
                                else
                                  none
                              else
                                none
                            else
                              none
                          else
                            none
                      else
                        none
                    else
                      none
                  else
                    none
                else
                  none
              else
                bif (qinb pd1 sn1) then
                  bif (qiteB (qcmp BinOp.lss (qint (qget pd1 sn1)) (-1)) Bool.true (qinb pd1 sn1)) then
                    bif (qiteB (qiteB (qcmp BinOp.lss (qint (qget pd1 sn1)) (-1)) Bool.true (qcmp BinOp.gtr (qint (qget pd1 sn1)) (qlen pd0))) Bool.true (qinb pd1 sn1)) then
                      bif (qiteB (qiteB (qiteB (qcmp BinOp.lss (qint (qget pd1 sn1)) (-1)) Bool.true (qcmp BinOp.gtr (qint (qget pd1 sn1)) (qlen pd0))) Bool.true (qiteB (qcmp BinOp.geq (qint (qget pd1 sn1)) 0) (qnot (qiteB (qcmp BinOp.eql (qint (qfld (qget pd0 sn1) 2)) 20) Bool.true (qcmp BinOp.eql (qint (qfld (qget pd0 sn1) 2)) 23))) Bool.false)) Bool.true (qsome (Proofs.YtiojjmlccehpoaaGreat.q71 [(st22_7_a0 pd0 pd1 sn0 sn1 sd2 sd3)]))) then
                        bif (qiteB (qiteB (qiteB (qcmp BinOp.lss (qint (qget pd1 sn1)) (-1)) Bool.true (qcmp BinOp.gtr (qint (qget pd1 sn1)) (qlen pd0))) Bool.true (qiteB (qcmp BinOp.geq (qint (qget pd1 sn1)) 0) (qnot (qiteB (qcmp BinOp.eql (qint (qfld (qget pd0 sn1) 2)) 20) Bool.true (qcmp BinOp.eql (qint (qfld (qget pd0 sn1) 2)) 23))) Bool.false)) Bool.true (qnot (qbool (qnth (Proofs.YtiojjmlccehpoaaGreat.q71 [(st22_7_a0 pd0 pd1 sn0 sn1 sd2 sd3)]) 0)))) then
                          bif (qeqD pd0 pd0) then
                            bif (qeqD pd1 pd1) then
                              some (Sum.inr [(D.int 1)])
                            else
                              none
                          else
                            none
                        else
                          bif (qsome (Proofs.YtiojjmlccehpoaaGreat.q72 [(st22_7_a0 pd0 pd1 sn0 sn1 sd2 sd3)])) then
                            bif (qcmp BinOp.eql (qlen sd3) (qlen sd3)) then
                              bif (qmem (qlen (qapp sd3 (D.list [(st22_7_a1 pd0 pd1 sn0 sn1 sd2 sd3)]))) 64) then
                                bif (qcmp BinOp.eql (qlen sd2) (qlen sd2)) then
                                  bif (qmem (qlen (qapp sd2 (D.list [(D.int (qbin BinOp.add IntKind.u32 (qint (qget sd2 sn1)) (qwrap IntKind.u32 (qint (qnth (Proofs.YtiojjmlccehpoaaGreat.q72 [(st22_7_a0 pd0 pd1 sn0 sn1 sd2 sd3)]) 0)))))]))) 4) then
                                    bif (qcmp BinOp.eql (qlen (qapp sd3 (D.list [(st22_7_a1 pd0 pd1 sn0 sn1 sd2 sd3)]))) (qlen (qapp sd3 (D.list [(st22_7_a1 pd0 pd1 sn0 sn1 sd2 sd3)])))) then
                                      bif (qcmp BinOp.eql (qlen (qapp sd2 (D.list [(D.int (qbin BinOp.add IntKind.u32 (qint (qget sd2 sn1)) (qwrap IntKind.u32 (qint (qnth (Proofs.YtiojjmlccehpoaaGreat.q72 [(st22_7_a0 pd0 pd1 sn0 sn1 sd2 sd3)]) 0)))))]))) (qlen (qapp sd2 (D.list [(D.int (qbin BinOp.add IntKind.u32 (qint (qget sd2 sn1)) (qwrap IntKind.u32 (qint (qnth (Proofs.YtiojjmlccehpoaaGreat.q72 [(st22_7_a0 pd0 pd1 sn0 sn1 sd2 sd3)]) 0)))))])))) then
                                        bif (qeqD pd0 pd0) then
                                          bif (qeqD pd1 pd1) then
                                            some (Sum.inl [(D.int (qbin BinOp.add IntKind.i64 sn0 (qint (qnth (Proofs.YtiojjmlccehpoaaGreat.q72 [(st22_7_a0 pd0 pd1 sn0 sn1 sd2 sd3)]) 0)))), (D.int (qbin BinOp.add IntKind.i64 sn1 1)), (qapp sd2 (D.list [(D.int (qbin BinOp.add IntKind.u32 (qint (qget sd2 sn1)) (qwrap IntKind.u32 (qint (qnth (Proofs.YtiojjmlccehpoaaGreat.q72 [(st22_7_a0 pd0 pd1 sn0 sn1 sd2 sd3)]) 0)))))])), (qapp sd3 (D.list [(st22_7_a1 pd0 pd1 sn0 sn1 sd2 sd3)]))])
                                          else
                                            none
                                        else
                                          none
                                      else
                                        none
                                    else
                                      none
                                  else
                                    none
                                else
                                  none
                              else
                                none
                            else
                              none
                          else
                            none
                      else
                        none
                    else
                      none
                  else
                    none
                else
                  none
            else
              none
          else
            none
        else
          none
      else
        none
    else
      bif (qcmp BinOp.eql (qlen sd3) (qlen sd3)) then
        bif (qcmp BinOp.eql (qlen sd2) (qlen sd2)) then
          bif (qeqD pd0 pd0) then
            bif (qeqD pd1 pd1) then
              some (Sum.inr [(D.int 0), (D.int sn0), sd2, sd3])
            else
              none
          else
            none
        else
          none
      else
        none := by kernel_rfl
  rw [h]; simp only [qeqD_self, qeqI_self, qeq_len, show qcmp BinOp.eql 0 (qlen (D.list [])) = true from qeq_len [], show ∀ a, qcmp BinOp.eql 1 (qlen (D.list [a])) = true from fun a => qeq_len [a], show ∀ a b, qcmp BinOp.eql 2 (qlen (D.list [a, b])) = true from fun a b => qeq_len [a, b], cond_true]

noncomputable def l22_7 : List D → List D → Option (List D) := veil fun p s => loW (st22_7  p) s

theorem l22_7_eq : l22_7  = fun p s => loW (st22_7  p) s := veil_eq _

noncomputable def tbl22_7 : Tb := Tb.addL tb21 22 7 S22_7.n0 (mkLp S22_7 (l22_7 ))

theorem ok_tbl22_7 : TbOk env (tbl22_7 ) := addLoopQ ok_tb21 22 7 (by kernel_rfl) _ (l22_7_eq )

def S22_23 : LoopS := ⟨0, [⟨false, .any⟩, ⟨false, (.rows 3)⟩, ⟨false, .any⟩, ⟨false, .any⟩, ⟨false, .any⟩, ⟨false, .any⟩, ⟨false, (.lit (.slice none 0 0))⟩, ⟨false, (.lit (.int .i64 0))⟩, ⟨false, (.osl 0 46)⟩, ⟨false, (.osl 1 22)⟩, ⟨false, .any⟩, ⟨false, .any⟩, ⟨false, .any⟩, ⟨false, .any⟩, ⟨true, (.int .i64)⟩, ⟨false, .any⟩, ⟨false, .any⟩, ⟨false, .any⟩, ⟨false, .any⟩, ⟨false, .any⟩, ⟨false, .any⟩, ⟨false, .any⟩, ⟨false, .any⟩, ⟨false, .any⟩, ⟨false, .any⟩, ⟨false, .any⟩, ⟨false, .any⟩, ⟨false, .any⟩, ⟨false, .any⟩, ⟨false, .any⟩, ⟨false, .any⟩, ⟨false, .any⟩, ⟨false, .any⟩, ⟨false, .any⟩, ⟨false, .any⟩, ⟨false, .any⟩, ⟨false, .any⟩, ⟨false, .any⟩, ⟨false, .any⟩, ⟨false, .any⟩, ⟨false, .any⟩, ⟨false, .any⟩, ⟨false, .any⟩, ⟨false, .any⟩, ⟨false, .any⟩, ⟨false, .any⟩, ⟨false, .any⟩, ⟨false, .any⟩, ⟨false, .any⟩, ⟨false, .any⟩, ⟨false, .any⟩, ⟨false, .any⟩, ⟨false, .any⟩, ⟨false, .any⟩, ⟨false, .any⟩, ⟨false, .any⟩, ⟨false, .any⟩, ⟨false, .any⟩, ⟨false, .any⟩, ⟨false, .any⟩, ⟨false, .any⟩, ⟨false, .any⟩, ⟨false, .any⟩, ⟨false, .any⟩, ⟨false, .any⟩, ⟨false, .any⟩, ⟨false, .any⟩, ⟨false, .any⟩, ⟨false, .any⟩, ⟨false, .any⟩, ⟨false, .any⟩, ⟨false, .any⟩, ⟨false, .any⟩, ⟨false, .any⟩, ⟨false, .any⟩, ⟨false, .any⟩, ⟨false, .any⟩, ⟨false, .any⟩, ⟨false, .any⟩, ⟨false, .any⟩, ⟨false, .any⟩, ⟨false, .any⟩, ⟨false, .any⟩, ⟨false, .any⟩, ⟨false, .any⟩, ⟨false, .any⟩, ⟨false, .any⟩, ⟨false, .any⟩, ⟨false, .any⟩, ⟨false, .any⟩, ⟨false, .any⟩, ⟨false, .any⟩, ⟨false, .any⟩, ⟨false, .any⟩, ⟨false, .any⟩, ⟨false, .any⟩, ⟨false, .any⟩, ⟨false, .any⟩, ⟨false, .any⟩, ⟨false, .any⟩, ⟨false, .any⟩, ⟨false, .any⟩, ⟨false, .any⟩, ⟨false, .any⟩, ⟨false, .any⟩, ⟨false, .any⟩, ⟨false, .any⟩, ⟨false, .any⟩, ⟨false, .any⟩, ⟨false, .any⟩, ⟨false, .any⟩, ⟨false, .any⟩, ⟨false, .any⟩, ⟨false, .any⟩, ⟨false, .any⟩, ⟨false, .any⟩, ⟨false, .any⟩, ⟨false, .any⟩, ⟨false, .any⟩, ⟨false, .any⟩, ⟨false, .any⟩, ⟨false, .any⟩, ⟨false, .any⟩, ⟨false, .any⟩], [(.lst false 22), (.lst true 46)], [⟨0, 2, [⟨true, .any⟩, ⟨false, (.rows 3)⟩, ⟨true, .any⟩, ⟨true, .any⟩, ⟨true, .any⟩, ⟨true, .any⟩, ⟨true, (.lit (.slice none 0 0))⟩, ⟨true, (.lit (.int .i64 0))⟩, ⟨true, (.osl 0 46)⟩, ⟨true, .any⟩, ⟨true, .any⟩, ⟨true, .any⟩, ⟨true, .any⟩, ⟨true, .any⟩, ⟨true, .any⟩, ⟨true, .any⟩, ⟨true, .any⟩, ⟨true, .any⟩, ⟨true, .any⟩, ⟨true, .any⟩, ⟨true, .any⟩, ⟨true, .any⟩, ⟨true, .any⟩, ⟨true, .any⟩, ⟨true, .any⟩, ⟨true, .any⟩, ⟨true, .any⟩, ⟨true, .any⟩, ⟨true, .any⟩, ⟨true, .any⟩, ⟨true, .any⟩, ⟨true, .any⟩, ⟨true, .any⟩, ⟨true, .any⟩, ⟨true, .any⟩, ⟨true, .any⟩, ⟨true, .any⟩, ⟨true, .any⟩, ⟨true, .any⟩, ⟨true, .any⟩, ⟨true, .any⟩, ⟨true, .any⟩, ⟨true, .any⟩, ⟨true, .any⟩, ⟨true, .any⟩, ⟨true, .any⟩, ⟨true, .any⟩, ⟨true, .any⟩, ⟨true, .any⟩, ⟨true, .any⟩, ⟨true, .any⟩, ⟨true, .any⟩, ⟨true, .any⟩, ⟨true, .any⟩, ⟨true, .any⟩, ⟨true, .any⟩, ⟨true, .any⟩, ⟨true, .any⟩, ⟨true, .any⟩, ⟨true, .any⟩, ⟨true, .any⟩, ⟨true, .any⟩, ⟨true, .any⟩, ⟨true, .any⟩, ⟨true, .any⟩, ⟨true, .any⟩, ⟨true, .any⟩, ⟨true, .any⟩, ⟨true, .any⟩, ⟨true, .any⟩, ⟨true, .any⟩, ⟨true, .any⟩, ⟨true, .any⟩, ⟨true, .any⟩, ⟨true, .any⟩, ⟨true, .any⟩, ⟨true, .any⟩, ⟨true, .any⟩, ⟨true, .any⟩, ⟨true, .any⟩, ⟨true, .any⟩, ⟨true, .any⟩, ⟨true, .any⟩, ⟨true, .any⟩, ⟨true, .any⟩, ⟨true, .any⟩, ⟨true, .any⟩, ⟨true, .any⟩, ⟨true, .any⟩, ⟨true, .any⟩, ⟨true, .any⟩, ⟨true, .any⟩, ⟨true, .any⟩, ⟨true, .any⟩, ⟨true, .any⟩, ⟨true, .any⟩, ⟨true, .any⟩, ⟨true, .any⟩, ⟨true, .any⟩, ⟨true, .any⟩, ⟨true, .any⟩, ⟨true, .any⟩, ⟨true, .any⟩, ⟨true, .any⟩, ⟨true, .any⟩, ⟨true, .any⟩, ⟨true, .any⟩, ⟨true, .any⟩, ⟨true, .any⟩, ⟨true, .any⟩, ⟨true, .any⟩, ⟨true, .any⟩, ⟨true, .any⟩, ⟨true, .any⟩, ⟨true, .any⟩, ⟨true, .any⟩, ⟨true, .any⟩, ⟨true, .any⟩, ⟨true, .any⟩, ⟨true, .any⟩, ⟨true, .any⟩, ⟨true, .any⟩, ⟨true, .any⟩, ⟨true, .any⟩], [(.lst false 22), (.lst true 46)]⟩]⟩

noncomputable def st22_23 (p s : List D) : Option (Sum (List D) (List D)) := stepQX env tbl22_7 60 6 22 (loopC 22 23) S22_23 p s

theorem st22_23_eq (pd0 : D) (pd1 : D) (sn0 : Int) (sd1 : D) : st22_23  [pd0, pd1] [(D.int sn0), sd1] =
    bif (qcmp BinOp.lss sn0 (qlen sd1)) then
      bif (qinb pd0 sn0) then
        bif (qcmp BinOp.geq (qint (qget pd0 sn0)) 0) then
          bif (qinb pd0 sn0) then
            bif (qcmp BinOp.leq 0 (qint (qget pd0 sn0))) then
              bif (qcmp BinOp.lss (qint (qget pd0 sn0)) (qlen pd1)) then
                bif (qinb pd1 (qint (qget pd0 sn0))) then
                  bif (qcmp BinOp.leq 0 sn0) then
                    bif (qcmp BinOp.lss sn0 (qlen sd1)) then
                      bif (qinb sd1 sn0) then
                        bif (qcmp BinOp.eql (qlen sd1) (qlen (qset sd1 sn0 (D.agg [(D.int (qint (qfld (qget sd1 sn0) 0))), (D.int (qint (qget pd1 (qint (qget pd0 sn0))))), (D.int (qint (qfld (qget sd1 sn0) 2))), (D.int (qint (qfld (qget sd1 sn0) 3))), (D.int (qint (qfld (qget sd1 sn0) 4))), (D.int (qint (qfld (qget sd1 sn0) 5))), (D.int (qint (qfld (qget sd1 sn0) 6))), (D.int (qint (qfld (qget sd1 sn0) 7))), (D.int (qint (qfld (qget sd1 sn0) 8)))])))) then
                          some (Sum.inl [(D.int (qbin BinOp.add IntKind.i64 sn0 1)), (qset sd1 sn0 (D.agg [(D.int (qint (qfld (qget sd1 sn0) 0))), (D.int (qint (qget pd1 (qint (qget pd0 sn0))))), (D.int (qint (qfld (qget sd1 sn0) 2))), (D.int (qint (qfld (qget sd1 sn0) 3))), (D.int (qint (qfld (qget sd1 sn0) 4))), (D.int (qint (qfld (qget sd1 sn0) 5))), (D.int (qint (qfld (qget sd1 sn0) 6))), (D.int (qint (qfld (qget sd1 sn0) 7))), (D.int (qint (qfld (qget sd1 sn0) 8)))]))])
                        else
                          none
                      else
                        none
                    else
                      none
                  else
                    none
                else
                  none
              else
                none
            else
              none
          else
            none
        else
          some (Sum.inl [(D.int (qbin BinOp.add IntKind.i64 sn0 1)), sd1])
      else
        none
    else
      some (Sum.inr [(D.int 0), sd1]) := by
  have h : st22_23  [pd0, pd1] [(D.int sn0), sd1] =
    bif (qcmp BinOp.lss sn0 (qlen sd1)) then
      bif (qinb pd0 sn0) then
        bif (qcmp BinOp.geq (qint (qget pd0 sn0)) 0) then
          bif (qinb pd0 sn0) then
            bif (qcmp BinOp.leq 0 (qint (qget pd0 sn0))) then
              bif (qcmp BinOp.lss (qint (qget pd0 sn0)) (qlen pd1)) then
                bif (qinb pd1 (qint (qget pd0 sn0))) then
                  bif (qcmp BinOp.leq 0 sn0) then
                    bif (qcmp BinOp.lss sn0 (qlen sd1)) then
                      bif (qinb sd1 sn0) then
                        bif (qcmp BinOp.eql (qlen sd1) (qlen (qset sd1 sn0 (D.agg [(D.int (qint (qfld (qget sd1 sn0) 0))), (D.int (qint (qget pd1 (qint (qget pd0 sn0))))), (D.int (qint (qfld (qget sd1 sn0) 2))), (D.int (qint (qfld (qget sd1 sn0) 3))), (D.int (qint (qfld (qget sd1 sn0) 4))), (D.int (qint (qfld (qget sd1 sn0) 5))), (D.int (qint (qfld (qget sd1 sn0) 6))), (D.int (qint (qfld (qget sd1 sn0) 7))), (D.int (qint (qfld (qget sd1 sn0) 8)))])))) then
                          bif (qcmp BinOp.eql (qlen pd1) (qlen pd1)) then
                            bif (qeqD pd0 pd0) then
                              bif (qeqD pd1 pd1) then
                                some (Sum.inl [(D.int (qbin BinOp.add IntKind.i64 sn0 1)), (qset sd1 sn0 (D.agg [(D.int (qint (qfld (qget sd1 sn0) 0))), (D.int (qint (qget pd1 (qint (qget pd0 sn0))))), (D.int (qint (qfld (qget sd1 sn0) 2))), (D.int (qint (qfld (qget sd1 sn0) 3))), (D.int (qint (qfld (qget sd1 sn0) 4))), (D.int (qint (qfld (qget sd1 sn0) 5))), (D.int (qint (qfld (qget sd1 sn0) 6))), (D.int (qint (qfld (qget sd1 sn0) 7))), (D.int (qint (qfld (qget sd1 sn0) 8)))]))])
                              else
                                none
                            else
                              none
                          else
                            none
                        else
                          none
                      else
                        none
                    else
                      none
                  else
                    none
                else
                  none
              else
                none
            else
              none
          else
            none
        else
          bif (qcmp BinOp.eql (qlen sd1) (qlen sd1)) then
            bif (qcmp BinOp.eql (qlen pd1) (qlen pd1)) then
              bif (qeqD pd0 pd0) then
                bif (qeqD pd1 pd1) then
                  some (Sum.inl [(D.int (qbin BinOp.add IntKind.i64 sn0 1)), sd1])
                else
                  none
              else
                none
            else
              none
          else
            none
      else
        none
    else
      bif (qcmp BinOp.eql (qlen sd1) (qlen sd1)) then
        bif (qeqD pd0 pd0) then
          bif (qeqD pd1 pd1) then
            some (Sum.inr [(D.int 0), sd1])
          else
            none
        else
          none
      else
        none := by kernel_rfl
  rw [h]; simp only [qeqD_self, qeqI_self, qeq_len, show qcmp BinOp.eql 0 (qlen (D.list [])) = true from qeq_len [], show ∀ a, qcmp BinOp.eql 1 (qlen (D.list [a])) = true from fun a => qeq_len [a], show ∀ a b, qcmp BinOp.eql 2 (qlen (D.list [a, b])) = true from fun a b => qeq_len [a, b], cond_true]

noncomputable def l22_23 : List D → List D → Option (List D) := veil fun p s => loW (st22_23  p) s

theorem l22_23_eq : l22_23  = fun p s => loW (st22_23  p) s := veil_eq _

noncomputable def tbl22_23 : Tb := Tb.addL tbl22_7 22 23 S22_23.n0 (mkLp S22_23 (l22_23 ))

theorem ok_tbl22_23 : TbOk env (tbl22_23 ) := addLoopQ ok_tbl22_7 22 23 (by kernel_rfl) _ (l22_23_eq )

def S22 : FunS := ⟨[⟨true, (.rows 46)⟩, ⟨true, (.rows 3)⟩, ⟨true, (.int .u32)⟩], [], [⟨true, (.tup [(.rows 46), (.int .i64)])⟩], []⟩

noncomputable def F22 : List D → Option (List D) := liftX env tbl22_23 60 6 22 S22

theorem F22_eq  (sd0 : D) (sd1 : D) (sn2 : Int) : F22  [sd0, sd1, (D.int sn2)] =
    bif (qcmp BinOp.neq (qlen sd1) (qlen sd0)) then
      some [(D.list []), (D.int 2)]
    else
      bif (qsome (Proofs.YtiojjmlccehpoaaGreat.l22_7 [sd0, sd1] [(D.int 0), (D.int 0), (D.list [(D.int sn2)]), (D.list [])])) then
        bif (qcmp BinOp.eql (qint (qnth (Proofs.YtiojjmlccehpoaaGreat.l22_7 [sd0, sd1] [(D.int 0), (D.int 0), (D.list [(D.int sn2)]), (D.list [])]) 0)) 0) then
          bif (qcmp BinOp.gtr (qint (qnth (Proofs.YtiojjmlccehpoaaGreat.l22_7 [sd0, sd1] [(D.int 0), (D.int 0), (D.list [(D.int sn2)]), (D.list [])]) 1)) 65536) then
            some [(D.list []), (D.int 6)]
          else
            bif (qsome (Proofs.YtiojjmlccehpoaaGreat.l22_23 [sd1, (qnth (Proofs.YtiojjmlccehpoaaGreat.l22_7 [sd0, sd1] [(D.int 0), (D.int 0), (D.list [(D.int sn2)]), (D.list [])]) 2)] [(D.int 0), (qnth (Proofs.YtiojjmlccehpoaaGreat.l22_7 [sd0, sd1] [(D.int 0), (D.int 0), (D.list [(D.int sn2)]), (D.list [])]) 3)])) then
              some [(qnth (Proofs.YtiojjmlccehpoaaGreat.l22_23 [sd1, (qnth (Proofs.YtiojjmlccehpoaaGreat.l22_7 [sd0, sd1] [(D.int 0), (D.int 0), (D.list [(D.int sn2)]), (D.list [])]) 2)] [(D.int 0), (qnth (Proofs.YtiojjmlccehpoaaGreat.l22_7 [sd0, sd1] [(D.int 0), (D.int 0), (D.list [(D.int sn2)]), (D.list [])]) 3)]) 1), (D.int 0)]
            else
              none
        else
          some [(D.list []), (D.int 2)]
      else
        none := by
  have h : F22  [sd0, sd1, (D.int sn2)] =
    bif (qcmp BinOp.neq (qlen sd1) (qlen sd0)) then
      some [(D.list []), (D.int 2)]
    else
      bif (qcmp BinOp.eql 0 (qlen (D.list []))) then
        bif (qcmp BinOp.eql 1 (qlen (D.list [(D.int sn2)]))) then
          bif (qsome (Proofs.YtiojjmlccehpoaaGreat.l22_7 [sd0, sd1] [(D.int 0), (D.int 0), (D.list [(D.int sn2)]), (D.list [])])) then
            bif (qcmp BinOp.eql (qint (qnth (Proofs.YtiojjmlccehpoaaGreat.l22_7 [sd0, sd1] [(D.int 0), (D.int 0), (D.list [(D.int sn2)]), (D.list [])]) 0)) 0) then
              bif (qcmp BinOp.gtr (qint (qnth (Proofs.YtiojjmlccehpoaaGreat.l22_7 [sd0, sd1] [(D.int 0), (D.int 0), (D.list [(D.int sn2)]), (D.list [])]) 1)) 65536) then
                some [(D.list []), (D.int 6)]
              else
                bif (qcmp BinOp.eql (qlen (qnth (Proofs.YtiojjmlccehpoaaGreat.l22_7 [sd0, sd1] [(D.int 0), (D.int 0), (D.list [(D.int sn2)]), (D.list [])]) 3)) (qlen (qnth (Proofs.YtiojjmlccehpoaaGreat.l22_7 [sd0, sd1] [(D.int 0), (D.int 0), (D.list [(D.int sn2)]), (D.list [])]) 3))) then
                  bif (qcmp BinOp.eql (qlen (qnth (Proofs.YtiojjmlccehpoaaGreat.l22_7 [sd0, sd1] [(D.int 0), (D.int 0), (D.list [(D.int sn2)]), (D.list [])]) 2)) (qlen (qnth (Proofs.YtiojjmlccehpoaaGreat.l22_7 [sd0, sd1] [(D.int 0), (D.int 0), (D.list [(D.int sn2)]), (D.list [])]) 2))) then
                    bif (qsome (Proofs.YtiojjmlccehpoaaGreat.l22_23 [sd1, (qnth (Proofs.YtiojjmlccehpoaaGreat.l22_7 [sd0, sd1] [(D.int 0), (D.int 0), (D.list [(D.int sn2)]), (D.list [])]) 2)] [(D.int 0), (qnth (Proofs.YtiojjmlccehpoaaGreat.l22_7 [sd0, sd1] [(D.int 0), (D.int 0), (D.list [(D.int sn2)]), (D.list [])]) 3)])) then
                      bif (qcmp BinOp.eql (qlen (qnth (Proofs.YtiojjmlccehpoaaGreat.l22_23 [sd1, (qnth (Proofs.YtiojjmlccehpoaaGreat.l22_7 [sd0, sd1] [(D.int 0), (D.int 0), (D.list [(D.int sn2)]), (D.list [])]) 2)] [(D.int 0), (qnth (Proofs.YtiojjmlccehpoaaGreat.l22_7 [sd0, sd1] [(D.int 0), (D.int 0), (D.list [(D.int sn2)]), (D.list [])]) 3)]) 1)) (qlen (qnth (Proofs.YtiojjmlccehpoaaGreat.l22_23 [sd1, (qnth (Proofs.YtiojjmlccehpoaaGreat.l22_7 [sd0, sd1] [(D.int 0), (D.int 0), (D.list [(D.int sn2)]), (D.list [])]) 2)] [(D.int 0), (qnth (Proofs.YtiojjmlccehpoaaGreat.l22_7 [sd0, sd1] [(D.int 0), (D.int 0), (D.list [(D.int sn2)]), (D.list [])]) 3)]) 1))) then
                        some [(qnth (Proofs.YtiojjmlccehpoaaGreat.l22_23 [sd1, (qnth (Proofs.YtiojjmlccehpoaaGreat.l22_7 [sd0, sd1] [(D.int 0), (D.int 0), (D.list [(D.int sn2)]), (D.list [])]) 2)] [(D.int 0), (qnth (Proofs.YtiojjmlccehpoaaGreat.l22_7 [sd0, sd1] [(D.int 0), (D.int 0), (D.list [(D.int sn2)]), (D.list [])]) 3)]) 1), (D.int 0)]
                      else
                        none
                    else
                      none
                  else
                    none
                else
                  none
            else
              some [(D.list []), (D.int 2)]
          else
            none
        else
          none
      else
        none := by kernel_rfl
  rw [h]; simp only [qeqD_self, qeqI_self, qeq_len, show qcmp BinOp.eql 0 (qlen (D.list [])) = true from qeq_len [], show ∀ a, qcmp BinOp.eql 1 (qlen (D.list [a])) = true from fun a => qeq_len [a], show ∀ a b, qcmp BinOp.eql 2 (qlen (D.list [a, b])) = true from fun a b => qeq_len [a, b], cond_true]

noncomputable def q22 : List D → Option (List D) := veil (F22 )

theorem q22_eq : q22  = F22  := veil_eq _

noncomputable def tb22 : Tb := Tb.addF tbl22_23 22 S22 (q22 )

theorem ok_tb22 : TbOk env (tb22 ) := addFunF ok_tbl22_23 22 (by kernel_rfl) _ (q22_eq )

end Go.Proofs.YtiojjmlccehpoaaGreat

namespace Go.Proofs.YtiojjmlccehpoaaGreat
open Go Go.AM

def S90 : FunS := ⟨[⟨true, (.rows 5)⟩], [], [⟨true, (.osl 0 5)⟩], [(.lst true 5)]⟩

theorem run90n (c : Nat) : bodyK (envF env tb22 90) (runTb env tb22 60 6) 60 90 [.sc (.slice none 0 c)] (heapF S90 [] []) (retF S90 []) = some [.list []] := by
  have h : bodyK (envF env tb22 90) (runTb env tb22 60 6) 60 90 [.sc (.slice none 0 c)] (heapF S90 [] []) (retF S90 []) = bif qcmp BinOp.eql 0 (qlen (D.list [])) then some [.list []] else none := by kernel_rfl
  rw [h, show qcmp BinOp.eql 0 (qlen (D.list [])) = true from qeq_len []]; rfl
theorem run90z (d : D) : bodyK (envF env tb22 90) (runTb env tb22 60 6) 60 90 [.rowz 5 d] (heapF S90 [] []) (retF S90 []) =
  bif qmem (qlen (qapp (D.list []) d)) 1 then (bif (qcmp BinOp.eql (qlen (qapp (D.list []) d)) (qlen (qapp (D.list []) d))) then some [qapp (D.list []) d] else none) else none := by kernel_rfl

noncomputable def F90 (ds : List D) : Option (List D) := bif qmem (qlen (qapp (D.list []) (ds.headD .other))) 1 then some [qapp (D.list []) (ds.headD .other)] else none

noncomputable def q90 : List D → Option (List D) := veil F90
theorem q90_eq : q90 = F90 := veil_eq _

theorem sound90 : SoundF env.P 90 S90 q90 := by
  intro p s r hp hq lo w0 ρ E w vs inv ra
  obtain rfl : p = [] := List.length_eq_zero_iff.1 hp
  have ha : argF S90 [] s = [.rows 5 (s.headD .other)] := by
    cases s <;> rfl
  have hh : heapF S90 [] s = heapF S90 [] [] := rfl
  rw [q90_eq] at hq
  unfold F90 at hq
  simp only [List.nil_append] at hq
  rw [ha] at ra
  generalize hd : s.headD .other = d at *
  cases hm : qmem (qlen (qapp (D.list []) d)) 1 with
  | false => rw [hm] at hq; cases hq
  | true =>
    rw [hm] at hq
    simp only [cond_true, Option.some.injEq] at hq
    subst hq
    rw [hh] at inv
    generalize hvs : vs.toList = vl at ra
    obtain ⟨v, vl', rfl, rv, hn⟩ : ∃ v vs', vl = v :: vs' ∧ Rep ρ E w (AV.rows 5 d) v ∧ vs' = [] := by simpa only [RepL] using ra
    · subst hn
      simp only [Rep] at rv
      obtain ⟨a, cap, rfl, hc, hx⟩ := id rv
      cases a with
      | none =>
        have he : d.toList = [] := by
          rcases hx with h | ⟨_, _, h, _⟩
          · exact h
          · cases h
        have he' : qapp (D.list []) d = .list [] := by rw [qapp_eq]; unfold D.app; rw [he]; rfl
        rw [he']
        refine lift_ok (av := [.sc (.slice none 0 cap)]) envOk ok_tb22 60 6 (run90n cap) rfl lo w0 ρ E w vs inv ?_
        rw [hvs, he]
        simp [RepL, Rep]
      | some a =>
        refine lift_ok (av := [.rowz 5 d]) envOk ok_tb22 60 6 (p := []) (r := [qapp (D.list []) d]) (S := S90) (by rw [run90z, hm, qeqI_self]; rfl) rfl lo w0 ρ E w vs inv ?_
        rw [hvs]
        simp only [RepL]
        exact ⟨_, _, rfl, by simp only [Rep]; exact ⟨rv, _, _, _, rfl⟩, rfl⟩

noncomputable def tb90 : Tb := Tb.addF tb22 90 S90 q90
theorem ok_tb90 : TbOk env tb90 := TbOk.addF ok_tb22 (by kernel_rfl) sound90

end Go.Proofs.YtiojjmlccehpoaaGreat

open Go Go.AM
namespace Go.Proofs.YtiojjmlccehpoaaGreat
set_option maxRecDepth 100000
set_option linter.unusedSimpArgs false
set_option linter.unusedVariables false
/- function 200  -/

def S200 : FunS := ⟨[⟨true, (.rows 5)⟩], [], [⟨true, (.osl 0 5)⟩], [(.lst true 5)]⟩

noncomputable def F200 : List D → Option (List D) := liftX env tb90 60 6 200 S200

theorem F200_eq  (sd0 : D) : F200  [sd0] =
    bif (qsome (Proofs.YtiojjmlccehpoaaGreat.q90 [sd0])) then
      some [(qnth (Proofs.YtiojjmlccehpoaaGreat.q90 [sd0]) 0)]
    else
      none := by
  have h : F200  [sd0] =
    bif (qsome (Proofs.YtiojjmlccehpoaaGreat.q90 [sd0])) then
      bif (qcmp BinOp.eql (qlen (qnth (Proofs.YtiojjmlccehpoaaGreat.q90 [sd0]) 0)) (qlen (qnth (Proofs.YtiojjmlccehpoaaGreat.q90 [sd0]) 0))) then
        bif (qcmp BinOp.eql (qlen (qnth (Proofs.YtiojjmlccehpoaaGreat.q90 [sd0]) 0)) (qlen (qnth (Proofs.YtiojjmlccehpoaaGreat.q90 [sd0]) 0))) then
          bif (qcmp BinOp.eql (qlen (qnth (Proofs.YtiojjmlccehpoaaGreat.q90 [sd0]) 0)) (qlen (qnth (Proofs.YtiojjmlccehpoaaGreat.q90 [sd0]) 0))) then
            some [(qnth (Proofs.YtiojjmlccehpoaaGreat.q90 [sd0]) 0)]
          else
            none
        else
          none
      else
        none
    else
      none := by kernel_rfl
  rw [h]; simp only [qeqD_self, qeqI_self, qeq_len, show qcmp BinOp.eql 0 (qlen (D.list [])) = true from qeq_len [], show ∀ a, qcmp BinOp.eql 1 (qlen (D.list [a])) = true from fun a => qeq_len [a], show ∀ a b, qcmp BinOp.eql 2 (qlen (D.list [a, b])) = true from fun a b => qeq_len [a, b], cond_true]

noncomputable def q200 : List D → Option (List D) := veil (F200 )

theorem q200_eq : q200  = F200  := veil_eq _

noncomputable def tb200 : Tb := Tb.addF tb90 200 S200 (q200 )

theorem ok_tb200 : TbOk env (tb200 ) := addFunF ok_tb90 200 (by kernel_rfl) _ (q200_eq )

/- function 133  -/

def S133_5 : LoopS := ⟨0, [⟨false, .any⟩, ⟨false, (.int .u32)⟩, ⟨false, .any⟩, ⟨false, .any⟩, ⟨false, .any⟩, ⟨false, .any⟩, ⟨false, (.lit (.slice none 0 0))⟩, ⟨false, (.osl 0 5)⟩, ⟨false, .any⟩, ⟨false, .any⟩, ⟨false, .any⟩, ⟨false, .any⟩, ⟨false, .any⟩, ⟨false, .any⟩, ⟨false, .any⟩, ⟨false, (.int .i64)⟩, ⟨true, (.int .i64)⟩, ⟨false, .any⟩, ⟨false, .any⟩, ⟨false, .any⟩, ⟨false, .any⟩, ⟨false, .any⟩, ⟨false, .any⟩, ⟨false, .any⟩, ⟨false, .any⟩, ⟨false, .any⟩, ⟨false, .any⟩, ⟨false, .any⟩, ⟨false, .any⟩], [(.lst true 5)], [⟨0, 0, [⟨true, .any⟩, ⟨false, (.int .u32)⟩, ⟨true, .any⟩, ⟨true, .any⟩, ⟨true, .any⟩, ⟨true, .any⟩, ⟨true, (.lit (.slice none 0 0))⟩, ⟨true, (.osl 0 5)⟩, ⟨true, .any⟩, ⟨true, .any⟩, ⟨true, .any⟩, ⟨true, .any⟩, ⟨true, .any⟩, ⟨true, .any⟩, ⟨true, .any⟩, ⟨false, (.int .i64)⟩, ⟨true, .any⟩, ⟨true, .any⟩, ⟨true, .any⟩, ⟨true, .any⟩, ⟨true, .any⟩, ⟨true, .any⟩, ⟨true, .any⟩, ⟨true, .any⟩, ⟨true, .any⟩, ⟨true, .any⟩, ⟨true, .any⟩, ⟨true, .any⟩, ⟨true, .any⟩], [(.lst true 5)]⟩]⟩

noncomputable def st133_5 (p s : List D) : Option (Sum (List D) (List D)) := stepQX env tb200 60 6 133 (loopC 133 5) S133_5 p s

theorem st133_5_eq (pn0 : Int) (pn1 : Int) (sn0 : Int) (sd1 : D) : st133_5  [(D.int pn0), (D.int pn1)] [(D.int sn0), sd1] =
    bif (qcmp BinOp.lss sn0 pn1) then
      bif (qcmp BinOp.geq (qbin BinOp.mul IntKind.i64 8 sn0) 0) then
        bif (qmem (qlen (qapp sd1 (D.list [(D.int (qwrap IntKind.u8 (qbin BinOp.shr IntKind.u32 pn0 (qbin BinOp.mul IntKind.i64 8 sn0))))]))) 1) then
          some (Sum.inl [(D.int (qbin BinOp.add IntKind.i64 sn0 1)), (qapp sd1 (D.list [(D.int (qwrap IntKind.u8 (qbin BinOp.shr IntKind.u32 pn0 (qbin BinOp.mul IntKind.i64 8 sn0))))]))])
        else
          none
      else
        none
    else
      some (Sum.inr [(D.int 0), sd1]) := by
  have h : st133_5  [(D.int pn0), (D.int pn1)] [(D.int sn0), sd1] =
    bif (qcmp BinOp.lss sn0 pn1) then
      bif (qcmp BinOp.geq (qbin BinOp.mul IntKind.i64 8 sn0) 0) then
        bif (qcmp BinOp.eql (qlen sd1) (qlen sd1)) then
          bif (qmem (qlen (qapp sd1 (D.list [(D.int (qwrap IntKind.u8 (qbin BinOp.shr IntKind.u32 pn0 (qbin BinOp.mul IntKind.i64 8 sn0))))]))) 1) then
            bif (qcmp BinOp.eql (qlen (qapp sd1 (D.list [(D.int (qwrap IntKind.u8 (qbin BinOp.shr IntKind.u32 pn0 (qbin BinOp.mul IntKind.i64 8 sn0))))]))) (qlen (qapp sd1 (D.list [(D.int (qwrap IntKind.u8 (qbin BinOp.shr IntKind.u32 pn0 (qbin BinOp.mul IntKind.i64 8 sn0))))])))) then
              bif (qeqD (D.int pn0) (D.int pn0)) then
                bif (qeqD (D.int pn1) (D.int pn1)) then
                  some (Sum.inl [(D.int (qbin BinOp.add IntKind.i64 sn0 1)), (qapp sd1 (D.list [(D.int (qwrap IntKind.u8 (qbin BinOp.shr IntKind.u32 pn0 (qbin BinOp.mul IntKind.i64 8 sn0))))]))])
                else
                  none
              else
                none
            else
              none
          else
            none
        else
          none
      else
        none
    else
      bif (qcmp BinOp.eql (qlen sd1) (qlen sd1)) then
        bif (qeqD (D.int pn0) (D.int pn0)) then
          bif (qeqD (D.int pn1) (D.int pn1)) then
            some (Sum.inr [(D.int 0), sd1])
          else
            none
        else
          none
      else
        none := by kernel_rfl
  rw [h]; simp only [qeqD_self, qeqI_self, qeq_len, show qcmp BinOp.eql 0 (qlen (D.list [])) = true from qeq_len [], show ∀ a, qcmp BinOp.eql 1 (qlen (D.list [a])) = true from fun a => qeq_len [a], show ∀ a b, qcmp BinOp.eql 2 (qlen (D.list [a, b])) = true from fun a b => qeq_len [a, b], cond_true]

noncomputable def l133_5 : List D → List D → Option (List D) := veil fun p s => loW (st133_5  p) s

theorem l133_5_eq : l133_5  = fun p s => loW (st133_5  p) s := veil_eq _

noncomputable def tbl133_5 : Tb := Tb.addL tb200 133 5 S133_5.n0 (mkLp S133_5 (l133_5 ))

theorem ok_tbl133_5 : TbOk env (tbl133_5 ) := addLoopQ ok_tb200 133 5 (by kernel_rfl) _ (l133_5_eq )

def S133 : FunS := ⟨[⟨true, (.rows 5)⟩, ⟨true, (.int .u32)⟩, ⟨true, (.int .i64)⟩], [], [⟨true, (.rows 5)⟩], []⟩

noncomputable def F133 : List D → Option (List D) := liftX env tbl133_5 60 6 133 S133

theorem F133_eq  (sd0 : D) (sn1 : Int) (sn2 : Int) : F133  [sd0, (D.int sn1), (D.int sn2)] =
    bif (qsome (Proofs.YtiojjmlccehpoaaGreat.q200 [sd0])) then
      bif (qnot (qiteB (qiteB (qcmp BinOp.eql sn2 1) Bool.true (qcmp BinOp.eql sn2 2)) Bool.true (qcmp BinOp.eql sn2 4))) then
        some [(qnth (Proofs.YtiojjmlccehpoaaGreat.q200 [sd0]) 0)]
      else
        bif (qsome (Proofs.YtiojjmlccehpoaaGreat.l133_5 [(D.int sn1), (D.int sn2)] [(D.int 0), (qnth (Proofs.YtiojjmlccehpoaaGreat.q200 [sd0]) 0)])) then
          some [(qnth (Proofs.YtiojjmlccehpoaaGreat.l133_5 [(D.int sn1), (D.int sn2)] [(D.int 0), (qnth (Proofs.YtiojjmlccehpoaaGreat.q200 [sd0]) 0)]) 1)]
        else
          none
    else
      none := by
  have h : F133  [sd0, (D.int sn1), (D.int sn2)] =
    bif (qsome (Proofs.YtiojjmlccehpoaaGreat.q200 [sd0])) then
      bif (qnot (qiteB (qiteB (qcmp BinOp.eql sn2 1) Bool.true (qcmp BinOp.eql sn2 2)) Bool.true (qcmp BinOp.eql sn2 4))) then
        bif (qcmp BinOp.eql (qlen (qnth (Proofs.YtiojjmlccehpoaaGreat.q200 [sd0]) 0)) (qlen (qnth (Proofs.YtiojjmlccehpoaaGreat.q200 [sd0]) 0))) then
          some [(qnth (Proofs.YtiojjmlccehpoaaGreat.q200 [sd0]) 0)]
        else
          none
      else
        bif (qcmp BinOp.eql (qlen (qnth (Proofs.YtiojjmlccehpoaaGreat.q200 [sd0]) 0)) (qlen (qnth (Proofs.YtiojjmlccehpoaaGreat.q200 [sd0]) 0))) then
          bif (qsome (Proofs.YtiojjmlccehpoaaGreat.l133_5 [(D.int sn1), (D.int sn2)] [(D.int 0), (qnth (Proofs.YtiojjmlccehpoaaGreat.q200 [sd0]) 0)])) then
            bif (qcmp BinOp.eql (qlen (qnth (Proofs.YtiojjmlccehpoaaGreat.l133_5 [(D.int sn1), (D.int sn2)] [(D.int 0), (qnth (Proofs.YtiojjmlccehpoaaGreat.q200 [sd0]) 0)]) 1)) (qlen (qnth (Proofs.YtiojjmlccehpoaaGreat.l133_5 [(D.int sn1), (D.int sn2)] [(D.int 0), (qnth (Proofs.YtiojjmlccehpoaaGreat.q200 [sd0]) 0)]) 1))) then
              some [(qnth (Proofs.YtiojjmlccehpoaaGreat.l133_5 [(D.int sn1), (D.int sn2)] [(D.int 0), (qnth (Proofs.YtiojjmlccehpoaaGreat.q200 [sd0]) 0)]) 1)]
            else
              none
          else
            none
        else
          none
    else
      none := by kernel_rfl
  rw [h]; simp only [qeqD_self, qeqI_self, qeq_len, show qcmp BinOp.eql 0 (qlen (D.list [])) = true from qeq_len [], show ∀ a, qcmp BinOp.eql 1 (qlen (D.list [a])) = true from fun a => qeq_len [a], show ∀ a b, qcmp BinOp.eql 2 (qlen (D.list [a, b])) = true from fun a b => qeq_len [a, b], cond_true]

noncomputable def q133 : List D → Option (List D) := veil (F133 )

theorem q133_eq : q133  = F133  := veil_eq _

noncomputable def tb133 : Tb := Tb.addF tbl133_5 133 S133 (q133 )

theorem ok_tb133 : TbOk env (tb133 ) := addFunF ok_tbl133_5 133 (by kernel_rfl) _ (q133_eq )

/- function 83  -/

def S83_7 : LoopS := ⟨0, [⟨false, (.rows 5)⟩, ⟨false, (.int .i64)⟩, ⟨false, .any⟩, ⟨false, .any⟩, ⟨false, .any⟩, ⟨false, .any⟩, ⟨false, (.lit (.int .u32 0))⟩, ⟨false, (.lit (.int .i64 0))⟩, ⟨true, (.int .u32)⟩, ⟨true, (.int .i64)⟩, ⟨false, .any⟩, ⟨false, .any⟩, ⟨false, .any⟩, ⟨false, .any⟩, ⟨false, .any⟩, ⟨false, .any⟩, ⟨false, .any⟩, ⟨false, .any⟩, ⟨false, .any⟩, ⟨false, .any⟩, ⟨false, .any⟩, ⟨false, .any⟩, ⟨false, .any⟩, ⟨false, .any⟩, ⟨false, .any⟩, ⟨false, .any⟩, ⟨false, .any⟩, ⟨false, .any⟩, ⟨false, .any⟩, ⟨false, .any⟩, ⟨false, .any⟩, ⟨false, .any⟩, ⟨false, .any⟩, ⟨false, .any⟩, ⟨false, .any⟩, ⟨false, .any⟩, ⟨false, .any⟩, ⟨false, .any⟩, ⟨false, .any⟩, ⟨false, .any⟩], [], [⟨0, 0, [⟨false, (.rows 5)⟩, ⟨false, (.int .i64)⟩, ⟨true, .any⟩, ⟨true, .any⟩, ⟨true, .any⟩, ⟨true, .any⟩, ⟨true, (.lit (.int .u32 0))⟩, ⟨true, (.lit (.int .i64 0))⟩, ⟨true, (.int .u32)⟩, ⟨true, .any⟩, ⟨true, .any⟩, ⟨true, .any⟩, ⟨true, .any⟩, ⟨true, .any⟩, ⟨true, .any⟩, ⟨true, .any⟩, ⟨true, .any⟩, ⟨true, .any⟩, ⟨true, .any⟩, ⟨true, .any⟩, ⟨true, .any⟩, ⟨true, .any⟩, ⟨true, .any⟩, ⟨true, .any⟩, ⟨true, .any⟩, ⟨true, .any⟩, ⟨true, .any⟩, ⟨true, .any⟩, ⟨true, .any⟩, ⟨true, .any⟩, ⟨true, .any⟩, ⟨true, .any⟩, ⟨true, .any⟩, ⟨true, .any⟩, ⟨true, .any⟩, ⟨true, .any⟩, ⟨true, .any⟩, ⟨true, .any⟩, ⟨true, .any⟩, ⟨true, .any⟩], []⟩]⟩

noncomputable def st83_7 (p s : List D) : Option (Sum (List D) (List D)) := stepQX env tb133 60 6 83 (loopC 83 7) S83_7 p s

theorem st83_7_eq (pd0 : D) (pn1 : Int) (sn0 : Int) (sn1 : Int) : st83_7  [pd0, (D.int pn1)] [(D.int sn0), (D.int sn1)] =
    bif (qcmp BinOp.geq sn1 0) then
      bif (qinb pd0 (qbin BinOp.add IntKind.i64 pn1 sn1)) then
        some (Sum.inl [(D.int (qbin BinOp.or IntKind.u32 (qbin BinOp.shl IntKind.u32 sn0 8) (qwrap IntKind.u32 (qint (qget pd0 (qbin BinOp.add IntKind.i64 pn1 sn1)))))), (D.int (qbin BinOp.sub IntKind.i64 sn1 1))])
      else
        none
    else
      some (Sum.inr [(D.int 0), (D.int sn0)]) := by
  have h : st83_7  [pd0, (D.int pn1)] [(D.int sn0), (D.int sn1)] =
    bif (qcmp BinOp.geq sn1 0) then
      bif (qinb pd0 (qbin BinOp.add IntKind.i64 pn1 sn1)) then
        bif (qeqD pd0 pd0) then
          bif (qeqD (D.int pn1) (D.int pn1)) then
            some (Sum.inl [(D.int (qbin BinOp.or IntKind.u32 (qbin BinOp.shl IntKind.u32 sn0 8) (qwrap IntKind.u32 (qint (qget pd0 (qbin BinOp.add IntKind.i64 pn1 sn1)))))), (D.int (qbin BinOp.sub IntKind.i64 sn1 1))])
          else
            none
        else
          none
      else
        none
    else
      bif (qeqD pd0 pd0) then
        bif (qeqD (D.int pn1) (D.int pn1)) then
          some (Sum.inr [(D.int 0), (D.int sn0)])
        else
          none
      else
        none := by kernel_rfl
  rw [h]; simp only [qeqD_self, qeqI_self, qeq_len, show qcmp BinOp.eql 0 (qlen (D.list [])) = true from qeq_len [], show ∀ a, qcmp BinOp.eql 1 (qlen (D.list [a])) = true from fun a => qeq_len [a], show ∀ a b, qcmp BinOp.eql 2 (qlen (D.list [a, b])) = true from fun a b => qeq_len [a, b], cond_true]

noncomputable def l83_7 : List D → List D → Option (List D) := veil fun p s => loW (st83_7  p) s

theorem l83_7_eq : l83_7  = fun p s => loW (st83_7  p) s := veil_eq _

noncomputable def tbl83_7 : Tb := Tb.addL tb133 83 7 S83_7.n0 (mkLp S83_7 (l83_7 ))

theorem ok_tbl83_7 : TbOk env (tbl83_7 ) := addLoopQ ok_tb133 83 7 (by kernel_rfl) _ (l83_7_eq )

def S83 : FunS := ⟨[⟨true, (.rows 5)⟩, ⟨true, (.int .i64)⟩, ⟨true, (.int .i64)⟩], [], [⟨true, (.tup [(.int .u32), (.int .i64)])⟩], []⟩

noncomputable def F83 : List D → Option (List D) := liftX env tbl83_7 60 6 83 S83

theorem F83_eq  (sd0 : D) (sn1 : Int) (sn2 : Int) : F83  [sd0, (D.int sn1), (D.int sn2)] =
    bif (qnot (qiteB (qiteB (qcmp BinOp.eql sn2 1) Bool.true (qcmp BinOp.eql sn2 2)) Bool.true (qcmp BinOp.eql sn2 4))) then
      some [(D.int 0), (D.int 2)]
    else
      bif (qiteB (qcmp BinOp.lss sn1 0) Bool.true (qcmp BinOp.gtr sn1 (qbin BinOp.sub IntKind.i64 (qlen sd0) sn2))) then
        some [(D.int 0), (D.int 5)]
      else
        bif (qsome (Proofs.YtiojjmlccehpoaaGreat.l83_7 [sd0, (D.int sn1)] [(D.int 0), (D.int (qbin BinOp.sub IntKind.i64 sn2 1))])) then
          some [(D.int (qint (qnth (Proofs.YtiojjmlccehpoaaGreat.l83_7 [sd0, (D.int sn1)] [(D.int 0), (D.int (qbin BinOp.sub IntKind.i64 sn2 1))]) 1))), (D.int 0)]
        else
          none := by kernel_rfl

noncomputable def q83 : List D → Option (List D) := veil (F83 )

theorem q83_eq : q83  = F83  := veil_eq _

noncomputable def tb83 : Tb := Tb.addF tbl83_7 83 S83 (q83 )

theorem ok_tb83 : TbOk env (tb83 ) := addFunF ok_tbl83_7 83 (by kernel_rfl) _ (q83_eq )

/- function 82  -/

def S82 : FunS := ⟨[⟨true, (.int .u32)⟩, ⟨true, (.int .i64)⟩], [], [⟨true, (.int .u32)⟩], []⟩

noncomputable def F82 : List D → Option (List D) := liftX env tb83 60 6 82 S82

theorem F82_eq  (sn0 : Int) (sn1 : Int) : F82  [(D.int sn0), (D.int sn1)] =
    bif (qcmp BinOp.eql sn1 1) then
      some [(D.int (qwrap IntKind.u32 (qwrap IntKind.i8 sn0)))]
    else
      bif (qcmp BinOp.eql sn1 2) then
        some [(D.int (qwrap IntKind.u32 (qwrap IntKind.i16 sn0)))]
      else
        some [(D.int sn0)] := by kernel_rfl

noncomputable def q82 : List D → Option (List D) := veil (F82 )

theorem q82_eq : q82  = F82  := veil_eq _

noncomputable def tb82 : Tb := Tb.addF tb83 82 S82 (q82 )

theorem ok_tb82 : TbOk env (tb82 ) := addFunF ok_tb83 82 (by kernel_rfl) _ (q82_eq )

end Go.Proofs.YtiojjmlccehpoaaGreat

open Go Go.AM
namespace Go.Proofs.YtiojjmlccehpoaaGreat
set_option maxRecDepth 100000
set_option linter.unusedSimpArgs false
set_option linter.unusedVariables false
/- function 77  -/

def S77 : FunS := ⟨[⟨true, (.dat 46)⟩], [], [⟨true, (.tup [(.rows 5), (.int .i64)])⟩], []⟩

noncomputable def F77 : List D → Option (List D) := liftX env tb82 60 6 77 S77

theorem F77_eq  (sd0 : D) : F77  [sd0] =
    bif (qsome (Proofs.YtiojjmlccehpoaaGreat.q69 [sd0])) then
      bif (qcmp BinOp.neq (qint (qnth (Proofs.YtiojjmlccehpoaaGreat.q69 [sd0]) 2)) 0) then
        some [(D.list []), (D.int (qint (qnth (Proofs.YtiojjmlccehpoaaGreat.q69 [sd0]) 2)))]
      else
        bif (qsome (Proofs.YtiojjmlccehpoaaGreat.q73 [(D.int (qint (qnth (Proofs.YtiojjmlccehpoaaGreat.q69 [sd0]) 1)))])) then
          bif (qcmp BinOp.eql (qint (qnth (Proofs.YtiojjmlccehpoaaGreat.q69 [sd0]) 1)) 2) then
            some [(D.list [(D.int (qint (qnth (Proofs.YtiojjmlccehpoaaGreat.q69 [sd0]) 0))), (D.int (qwrap IntKind.u8 (qint (qfld sd0 6))))]), (D.int 0)]
          else
            bif (qcmp BinOp.eql (qint (qnth (Proofs.YtiojjmlccehpoaaGreat.q69 [sd0]) 1)) 3) then
              some [(D.list [(D.int (qint (qnth (Proofs.YtiojjmlccehpoaaGreat.q69 [sd0]) 0))), (D.int (qwrap IntKind.u8 (qbin BinOp.or IntKind.i64 (qbin BinOp.shl IntKind.i64 (qint (qfld sd0 6)) 4) (qint (qfld sd0 7)))))]), (D.int 0)]
            else
              bif (qcmp BinOp.eql (qint (qnth (Proofs.YtiojjmlccehpoaaGreat.q69 [sd0]) 1)) 4) then
                some [(D.list [(D.int (qint (qnth (Proofs.YtiojjmlccehpoaaGreat.q69 [sd0]) 0))), (D.int (qwrap IntKind.u8 (qint (qfld sd0 6)))), (D.int (qwrap IntKind.u8 (qint (qfld sd0 1))))]), (D.int 0)]
              else
                bif (qcmp BinOp.eql (qint (qnth (Proofs.YtiojjmlccehpoaaGreat.q69 [sd0]) 1)) 5) then
                  some [(D.list [(D.int (qint (qnth (Proofs.YtiojjmlccehpoaaGreat.q69 [sd0]) 0))), (D.int (qwrap IntKind.u8 (qbin BinOp.or IntKind.i64 (qbin BinOp.shl IntKind.i64 (qint (qfld sd0 6)) 4) (qint (qfld sd0 7))))), (D.int (qwrap IntKind.u8 (qint (qfld sd0 1))))]), (D.int 0)]
                else
                  bif (qcmp BinOp.eql (qint (qnth (Proofs.YtiojjmlccehpoaaGreat.q69 [sd0]) 1)) 6) then
                    bif (qsome (Proofs.YtiojjmlccehpoaaGreat.q133 [(D.list [(D.int (qint (qnth (Proofs.YtiojjmlccehpoaaGreat.q69 [sd0]) 0))), (D.int (qwrap IntKind.u8 (qint (qfld sd0 6))))]), (D.int (qint (qfld sd0 1))), (D.int 4)])) then
                      some [(qnth (Proofs.YtiojjmlccehpoaaGreat.q133 [(D.list [(D.int (qint (qnth (Proofs.YtiojjmlccehpoaaGreat.q69 [sd0]) 0))), (D.int (qwrap IntKind.u8 (qint (qfld sd0 6))))]), (D.int (qint (qfld sd0 1))), (D.int 4)]) 0), (D.int 0)]
                    else
                      none
                  else
                    bif (qcmp BinOp.eql (qint (qnth (Proofs.YtiojjmlccehpoaaGreat.q69 [sd0]) 1)) 7) then
                      some [(D.list [(D.int (qint (qnth (Proofs.YtiojjmlccehpoaaGreat.q69 [sd0]) 0))), (D.int (qwrap IntKind.u8 (qbin BinOp.sub IntKind.u32 (qint (qfld sd0 1)) (qbin BinOp.add IntKind.u32 (qint (qfld sd0 0)) (qwrap IntKind.u32 (qint (qnth (Proofs.YtiojjmlccehpoaaGreat.q73 [(D.int (qint (qnth (Proofs.YtiojjmlccehpoaaGreat.q69 [sd0]) 1)))]) 0)))))))]), (D.int 0)]
                    else
                      bif (qcmp BinOp.eql (qint (qnth (Proofs.YtiojjmlccehpoaaGreat.q69 [sd0]) 1)) 8) then
                        bif (qsome (Proofs.YtiojjmlccehpoaaGreat.q133 [(D.list [(D.int (qint (qnth (Proofs.YtiojjmlccehpoaaGreat.q69 [sd0]) 0)))]), (D.int (qbin BinOp.sub IntKind.u32 (qint (qfld sd0 1)) (qbin BinOp.add IntKind.u32 (qint (qfld sd0 0)) (qwrap IntKind.u32 (qint (qnth (Proofs.YtiojjmlccehpoaaGreat.q73 [(D.int (qint (qnth (Proofs.YtiojjmlccehpoaaGreat.q69 [sd0]) 1)))]) 0)))))), (D.int 4)])) then
                          some [(qnth (Proofs.YtiojjmlccehpoaaGreat.q133 [(D.list [(D.int (qint (qnth (Proofs.YtiojjmlccehpoaaGreat.q69 [sd0]) 0)))]), (D.int (qbin BinOp.sub IntKind.u32 (qint (qfld sd0 1)) (qbin BinOp.add IntKind.u32 (qint (qfld sd0 0)) (qwrap IntKind.u32 (qint (qnth (Proofs.YtiojjmlccehpoaaGreat.q73 [(D.int (qint (qnth (Proofs.YtiojjmlccehpoaaGreat.q69 [sd0]) 1)))]) 0)))))), (D.int 4)]) 0), (D.int 0)]
                        else
                          none
                      else
                        some [(D.list [(D.int (qint (qnth (Proofs.YtiojjmlccehpoaaGreat.q69 [sd0]) 0)))]), (D.int 0)]
        else
          none
    else
      none := by kernel_rfl

noncomputable def q77 : List D → Option (List D) := veil (F77 )

theorem q77_eq : q77  = F77  := veil_eq _

noncomputable def tb77 : Tb := Tb.addF tb82 77 S77 (q77 )

theorem ok_tb77 : TbOk env (tb77 ) := addFunF ok_tb82 77 (by kernel_rfl) _ (q77_eq )

/- function 79  -/

def S79 : FunS := ⟨[⟨true, (.dat 46)⟩], [], [⟨true, (.tup [(.rows 5), (.int .i64)])⟩], []⟩

noncomputable def F79 : List D → Option (List D) := liftX env tb77 60 6 79 S79

theorem F79_eq  (sd0 : D) : F79  [sd0] =
    bif (qsome (Proofs.YtiojjmlccehpoaaGreat.q126 [sd0])) then
      bif (qcmp BinOp.neq (qint (qnth (Proofs.YtiojjmlccehpoaaGreat.q126 [sd0]) 0)) 0) then
        some [(D.list []), (D.int (qint (qnth (Proofs.YtiojjmlccehpoaaGreat.q126 [sd0]) 0)))]
      else
        bif (qsome (Proofs.YtiojjmlccehpoaaGreat.q127 [sd0])) then
          some [(qnth (Proofs.YtiojjmlccehpoaaGreat.q127 [sd0]) 0), (D.int 0)]
        else
          none
    else
      none := by kernel_rfl

noncomputable def q79 : List D → Option (List D) := veil (F79 )

theorem q79_eq : q79  = F79  := veil_eq _

noncomputable def tb79 : Tb := Tb.addF tb77 79 S79 (q79 )

theorem ok_tb79 : TbOk env (tb79 ) := addFunF ok_tb77 79 (by kernel_rfl) _ (q79_eq )

end Go.Proofs.YtiojjmlccehpoaaGreat

open Go Go.AM
namespace Go.Proofs.YtiojjmlccehpoaaGreat
set_option maxRecDepth 100000
set_option linter.unusedSimpArgs false
set_option linter.unusedVariables false
/- function 78  -/

def S78_n : FunS := ⟨[⟨true, (.ptr 0 0)⟩, ⟨true, (.rows 5)⟩], [(.cells [⟨false, (.lit (.slice none 0 0))⟩])], [⟨true, (.tup [])⟩], [(.lst true 5), (.cells [⟨true, (.osl 1 5)⟩])]⟩

noncomputable def F78_n : List D → Option (List D) := liftX env tb79 60 6 78 S78_n

theorem F78_n_eq  (sd0 : D) : F78_n  [sd0] =
    bif (qmem (qlen sd0) 1) then
      some [sd0]
    else
      none := by
  have h : F78_n  [sd0] =
    bif (qmem (qlen sd0) 1) then
      bif (qcmp BinOp.eql (qlen sd0) (qlen sd0)) then
        some [sd0]
      else
        none
    else
      none := by kernel_rfl
  rw [h]; simp only [qeqD_self, qeqI_self, qeq_len, show qcmp BinOp.eql 0 (qlen (D.list [])) = true from qeq_len [], show ∀ a, qcmp BinOp.eql 1 (qlen (D.list [a])) = true from fun a => qeq_len [a], show ∀ a b, qcmp BinOp.eql 2 (qlen (D.list [a, b])) = true from fun a b => qeq_len [a, b], cond_true]

noncomputable def q78_n : List D → Option (List D) := veil (F78_n )

theorem q78_n_eq : q78_n  = F78_n  := veil_eq _

noncomputable def tb78_n : Tb := Tb.addF tb79 78 S78_n (q78_n )

theorem ok_tb78_n : TbOk env (tb78_n ) := addFunF ok_tb79 78 (by kernel_rfl) _ (q78_n_eq )

/- function 78  -/

def S78_l : FunS := ⟨[⟨true, (.ptr 0 0)⟩, ⟨true, (.rows 5)⟩], [(.lst true 5), (.cells [⟨false, (.osl 1 5)⟩])], [⟨true, (.tup [])⟩], [(.lst true 5), .skip, (.cells [⟨true, (.osl 2 5)⟩])]⟩

noncomputable def F78_l : List D → Option (List D) := liftX env tb78_n 60 6 78 S78_l

theorem F78_l_eq  (sd0 : D) (sd1 : D) : F78_l  [sd0, sd1] =
    bif (qmem (qlen (qapp sd1 sd0)) 1) then
      some [(qapp sd1 sd0)]
    else
      none := by
  have h : F78_l  [sd0, sd1] =
    bif (qcmp BinOp.eql (qlen sd1) (qlen sd1)) then
      bif (qmem (qlen (qapp sd1 sd0)) 1) then
        bif (qcmp BinOp.eql (qlen (qapp sd1 sd0)) (qlen (qapp sd1 sd0))) then
          some [(qapp sd1 sd0)]
        else
          none
      else
        none
    else
      none := by kernel_rfl
  rw [h]; simp only [qeqD_self, qeqI_self, qeq_len, show qcmp BinOp.eql 0 (qlen (D.list [])) = true from qeq_len [], show ∀ a, qcmp BinOp.eql 1 (qlen (D.list [a])) = true from fun a => qeq_len [a], show ∀ a b, qcmp BinOp.eql 2 (qlen (D.list [a, b])) = true from fun a b => qeq_len [a, b], cond_true]

noncomputable def q78_l : List D → Option (List D) := veil (F78_l )

theorem q78_l_eq : q78_l  = F78_l  := veil_eq _

noncomputable def tb78_l : Tb := Tb.addF tb78_n 78 S78_l (q78_l )

theorem ok_tb78_l : TbOk env (tb78_l ) := addFunF ok_tb78_n 78 (by kernel_rfl) _ (q78_l_eq )

/- function 26  -/

def S26_3 : LoopS := ⟨0, [⟨false, .any⟩, ⟨false, .any⟩, ⟨false, (.lit (.slice none 0 0))⟩, ⟨false, (.lit (.int .i64 0))⟩, ⟨false, (.ptr 0 0)⟩, ⟨false, .any⟩, ⟨false, .any⟩, ⟨false, .any⟩, ⟨false, .any⟩, ⟨false, (.rows 46)⟩, ⟨false, (.int .i64)⟩, ⟨true, (.int .i64)⟩, ⟨false, .any⟩, ⟨false, .any⟩, ⟨false, .any⟩, ⟨false, .any⟩, ⟨false, .any⟩, ⟨false, .any⟩, ⟨false, .any⟩, ⟨false, .any⟩, ⟨false, .any⟩, ⟨false, .any⟩, ⟨false, .any⟩, ⟨false, .any⟩, ⟨false, .any⟩, ⟨false, .any⟩, ⟨false, .any⟩, ⟨false, .any⟩], [(.lst true 5), (.cells [⟨false, (.osl 1 5)⟩])], [⟨0, 0, [⟨true, .any⟩, ⟨true, .any⟩, ⟨true, (.lit (.slice none 0 0))⟩, ⟨true, (.lit (.int .i64 0))⟩, ⟨true, (.ptr 0 0)⟩, ⟨true, .any⟩, ⟨true, .any⟩, ⟨true, .any⟩, ⟨true, .any⟩, ⟨false, (.rows 46)⟩, ⟨false, (.int .i64)⟩, ⟨true, .any⟩, ⟨true, .any⟩, ⟨true, .any⟩, ⟨true, .any⟩, ⟨true, .any⟩, ⟨true, .any⟩, ⟨true, .any⟩, ⟨true, .any⟩, ⟨true, .any⟩, ⟨true, .any⟩, ⟨true, .any⟩, ⟨true, .any⟩, ⟨true, .any⟩, ⟨true, .any⟩, ⟨true, .any⟩, ⟨true, .any⟩, ⟨true, .any⟩], [(.lst true 5), (.cells [⟨true, (.osl 1 5)⟩])]⟩, ⟨1, 0, [⟨true, .any⟩, ⟨true, .any⟩, ⟨true, (.lit (.slice none 0 0))⟩, ⟨true, (.int .i64)⟩, ⟨true, .any⟩, ⟨true, .any⟩, ⟨true, .any⟩, ⟨true, .any⟩, ⟨true, .any⟩, ⟨false, (.rows 46)⟩, ⟨false, (.int .i64)⟩, ⟨true, .any⟩, ⟨true, .any⟩, ⟨true, .any⟩, ⟨true, .any⟩, ⟨true, .any⟩, ⟨true, .any⟩, ⟨true, .any⟩, ⟨true, .any⟩, ⟨true, .any⟩, ⟨true, .any⟩, ⟨true, .any⟩, ⟨true, .any⟩, ⟨true, .any⟩, ⟨true, .any⟩, ⟨true, .any⟩, ⟨true, .any⟩, ⟨true, .any⟩], [.skip, (.cells [⟨true, .any⟩])]⟩]⟩

noncomputable def st26_3 (p s : List D) : Option (Sum (List D) (List D)) := stepQX env tb78_l 60 6 26 (loopC 26 3) S26_3 p s

theorem st26_3_eq (pd0 : D) (pn1 : Int) (sn0 : Int) (sd1 : D) : st26_3  [pd0, (D.int pn1)] [(D.int sn0), sd1] =
    bif (qcmp BinOp.lss sn0 pn1) then
      bif (qinb pd0 sn0) then
        bif (qsome (Proofs.YtiojjmlccehpoaaGreat.q77 [(qget pd0 sn0)])) then
          bif (qcmp BinOp.neq (qint (qnth (Proofs.YtiojjmlccehpoaaGreat.q77 [(qget pd0 sn0)]) 1)) 0) then
            some (Sum.inr [(D.int 1), (D.int (qint (qnth (Proofs.YtiojjmlccehpoaaGreat.q77 [(qget pd0 sn0)]) 1)))])
          else
            bif (qsome (Proofs.YtiojjmlccehpoaaGreat.q78_l [(qnth (Proofs.YtiojjmlccehpoaaGreat.q77 [(qget pd0 sn0)]) 0), sd1])) then
              some (Sum.inl [(D.int (qbin BinOp.add IntKind.i64 sn0 1)), (qnth (Proofs.YtiojjmlccehpoaaGreat.q78_l [(qnth (Proofs.YtiojjmlccehpoaaGreat.q77 [(qget pd0 sn0)]) 0), sd1]) 0)])
            else
              none
        else
          none
      else
        none
    else
      some (Sum.inr [(D.int 0), sd1]) := by
  have h : st26_3  [pd0, (D.int pn1)] [(D.int sn0), sd1] =
    bif (qcmp BinOp.lss sn0 pn1) then
      bif (qinb pd0 sn0) then
        bif (qsome (Proofs.YtiojjmlccehpoaaGreat.q77 [(qget pd0 sn0)])) then
          bif (qcmp BinOp.neq (qint (qnth (Proofs.YtiojjmlccehpoaaGreat.q77 [(qget pd0 sn0)]) 1)) 0) then
            bif (qeqD pd0 pd0) then
              bif (qeqD (D.int pn1) (D.int pn1)) then
                some (Sum.inr [(D.int 1), (D.int (qint (qnth (Proofs.YtiojjmlccehpoaaGreat.q77 [(qget pd0 sn0)]) 1)))])
              else
                none
            else
              none
          else
            bif (qcmp BinOp.eql (qlen sd1) (qlen sd1)) then
              bif (qsome (Proofs.YtiojjmlccehpoaaGreat.q78_l [(qnth (Proofs.YtiojjmlccehpoaaGreat.q77 [(qget pd0 sn0)]) 0), sd1])) then
                bif (qcmp BinOp.eql (qlen (qnth (Proofs.YtiojjmlccehpoaaGreat.q78_l [(qnth (Proofs.YtiojjmlccehpoaaGreat.q77 [(qget pd0 sn0)]) 0), sd1]) 0)) (qlen (qnth (Proofs.YtiojjmlccehpoaaGreat.q78_l [(qnth (Proofs.YtiojjmlccehpoaaGreat.q77 [(qget pd0 sn0)]) 0), sd1]) 0))) then
                  bif (qeqD pd0 pd0) then
                    bif (qeqD (D.int pn1) (D.int pn1)) then
                      some (Sum.inl [(D.int (qbin BinOp.add IntKind.i64 sn0 1)), (qnth (Proofs.YtiojjmlccehpoaaGreat.q78_l [(qnth (Proofs.YtiojjmlccehpoaaGreat.q77 [(qget pd0 sn0)]) 0), sd1]) 0)])
                    else
                      none
                  else
                    none
                else
                  none
              else
                none
            else
              none
        else
          none
      else
        none
    else
      bif (qcmp BinOp.eql (qlen sd1) (qlen sd1)) then
        bif (qeqD pd0 pd0) then
          bif (qeqD (D.int pn1) (D.int pn1)) then
            some (Sum.inr [(D.int 0), sd1])
          else
            none
        else
          none
      else
        none := by kernel_rfl
  rw [h]; simp only [qeqD_self, qeqI_self, qeq_len, show qcmp BinOp.eql 0 (qlen (D.list [])) = true from qeq_len [], show ∀ a, qcmp BinOp.eql 1 (qlen (D.list [a])) = true from fun a => qeq_len [a], show ∀ a b, qcmp BinOp.eql 2 (qlen (D.list [a, b])) = true from fun a b => qeq_len [a, b], cond_true]

noncomputable def l26_3 : List D → List D → Option (List D) := veil fun p s => loW (st26_3  p) s

theorem l26_3_eq : l26_3  = fun p s => loW (st26_3  p) s := veil_eq _

noncomputable def tbl26_3 : Tb := Tb.addL tb78_l 26 3 S26_3.n0 (mkLp S26_3 (l26_3 ))

theorem ok_tbl26_3 : TbOk env (tbl26_3 ) := addLoopQ ok_tb78_l 26 3 (by kernel_rfl) _ (l26_3_eq )

def S26 : FunS := ⟨[⟨true, (.rows 46)⟩], [], [⟨true, (.tup [(.rows 5), (.int .i64)])⟩], []⟩

noncomputable def F26 : List D → Option (List D) := liftX env tbl26_3 60 6 26 S26

theorem F26_eq  (sd0 : D) : F26  [sd0] =
    bif (qsome (Proofs.YtiojjmlccehpoaaGreat.l26_3 [sd0, (D.int (qlen sd0))] [(D.int 0), (D.list [])])) then
      bif (qcmp BinOp.eql (qint (qnth (Proofs.YtiojjmlccehpoaaGreat.l26_3 [sd0, (D.int (qlen sd0))] [(D.int 0), (D.list [])]) 0)) 0) then
        some [(qnth (Proofs.YtiojjmlccehpoaaGreat.l26_3 [sd0, (D.int (qlen sd0))] [(D.int 0), (D.list [])]) 1), (D.int 0)]
      else
        some [(D.list []), (D.int (qint (qnth (Proofs.YtiojjmlccehpoaaGreat.l26_3 [sd0, (D.int (qlen sd0))] [(D.int 0), (D.list [])]) 1)))]
    else
      none := by
  have h : F26  [sd0] =
    bif (qcmp BinOp.eql 0 (qlen (D.list []))) then
      bif (qsome (Proofs.YtiojjmlccehpoaaGreat.l26_3 [sd0, (D.int (qlen sd0))] [(D.int 0), (D.list [])])) then
        bif (qcmp BinOp.eql (qint (qnth (Proofs.YtiojjmlccehpoaaGreat.l26_3 [sd0, (D.int (qlen sd0))] [(D.int 0), (D.list [])]) 0)) 0) then
          bif (qcmp BinOp.eql (qlen (qnth (Proofs.YtiojjmlccehpoaaGreat.l26_3 [sd0, (D.int (qlen sd0))] [(D.int 0), (D.list [])]) 1)) (qlen (qnth (Proofs.YtiojjmlccehpoaaGreat.l26_3 [sd0, (D.int (qlen sd0))] [(D.int 0), (D.list [])]) 1))) then
            some [(qnth (Proofs.YtiojjmlccehpoaaGreat.l26_3 [sd0, (D.int (qlen sd0))] [(D.int 0), (D.list [])]) 1), (D.int 0)]
          else
            none
        else
          some [(D.list []), (D.int (qint (qnth (Proofs.YtiojjmlccehpoaaGreat.l26_3 [sd0, (D.int (qlen sd0))] [(D.int 0), (D.list [])]) 1)))]
      else
        none
    else
      none := by kernel_rfl
  rw [h]; simp only [qeqD_self, qeqI_self, qeq_len, show qcmp BinOp.eql 0 (qlen (D.list [])) = true from qeq_len [], show ∀ a, qcmp BinOp.eql 1 (qlen (D.list [a])) = true from fun a => qeq_len [a], show ∀ a b, qcmp BinOp.eql 2 (qlen (D.list [a, b])) = true from fun a b => qeq_len [a, b], cond_true]

noncomputable def q26 : List D → Option (List D) := veil (F26 )

theorem q26_eq : q26  = F26  := veil_eq _

noncomputable def tb26 : Tb := Tb.addF tbl26_3 26 S26 (q26 )

theorem ok_tb26 : TbOk env (tb26 ) := addFunF ok_tbl26_3 26 (by kernel_rfl) _ (q26_eq )

/- function 27  -/

def S27_3 : LoopS := ⟨0, [⟨false, (.rows 46)⟩, ⟨false, .any⟩, ⟨false, (.lit (.slice none 0 0))⟩, ⟨false, (.lit (.int .i64 0))⟩, ⟨false, (.osl 0 5)⟩, ⟨true, (.int .i64)⟩, ⟨false, .any⟩, ⟨false, .any⟩, ⟨false, .any⟩, ⟨false, .any⟩, ⟨false, .any⟩, ⟨false, .any⟩, ⟨false, .any⟩, ⟨false, .any⟩, ⟨false, .any⟩, ⟨false, .any⟩, ⟨false, .any⟩, ⟨false, .any⟩, ⟨false, .any⟩, ⟨false, .any⟩, ⟨false, .any⟩, ⟨false, .any⟩, ⟨false, .any⟩, ⟨false, .any⟩, ⟨false, .any⟩, ⟨false, .any⟩, ⟨false, .any⟩, ⟨false, .any⟩, ⟨false, .any⟩], [(.lst true 5)], [⟨0, 0, [⟨false, (.rows 46)⟩, ⟨true, .any⟩, ⟨true, (.lit (.slice none 0 0))⟩, ⟨true, (.lit (.int .i64 0))⟩, ⟨true, (.osl 0 5)⟩, ⟨true, .any⟩, ⟨true, .any⟩, ⟨true, .any⟩, ⟨true, .any⟩, ⟨true, .any⟩, ⟨true, .any⟩, ⟨true, .any⟩, ⟨true, .any⟩, ⟨true, .any⟩, ⟨true, .any⟩, ⟨true, .any⟩, ⟨true, .any⟩, ⟨true, .any⟩, ⟨true, .any⟩, ⟨true, .any⟩, ⟨true, .any⟩, ⟨true, .any⟩, ⟨true, .any⟩, ⟨true, .any⟩, ⟨true, .any⟩, ⟨true, .any⟩, ⟨true, .any⟩, ⟨true, .any⟩, ⟨true, .any⟩], [(.lst true 5)]⟩, ⟨1, 0, [⟨false, (.rows 46)⟩, ⟨true, .any⟩, ⟨true, (.lit (.slice none 0 0))⟩, ⟨true, (.int .i64)⟩, ⟨true, .any⟩, ⟨true, .any⟩, ⟨true, .any⟩, ⟨true, .any⟩, ⟨true, .any⟩, ⟨true, .any⟩, ⟨true, .any⟩, ⟨true, .any⟩, ⟨true, .any⟩, ⟨true, .any⟩, ⟨true, .any⟩, ⟨true, .any⟩, ⟨true, .any⟩, ⟨true, .any⟩, ⟨true, .any⟩, ⟨true, .any⟩, ⟨true, .any⟩, ⟨true, .any⟩, ⟨true, .any⟩, ⟨true, .any⟩, ⟨true, .any⟩, ⟨true, .any⟩, ⟨true, .any⟩, ⟨true, .any⟩, ⟨true, .any⟩], [.skip]⟩]⟩

noncomputable def st27_3 (p s : List D) : Option (Sum (List D) (List D)) := stepQX env tb26 60 6 27 (loopC 27 3) S27_3 p s

theorem st27_3_eq (pd0 : D) (sn0 : Int) (sd1 : D) : st27_3  [pd0] [(D.int sn0), sd1] =
    bif (qcmp BinOp.lss sn0 (qlen pd0)) then
      bif (qinb pd0 sn0) then
        bif (qsome (Proofs.YtiojjmlccehpoaaGreat.q79 [(qget pd0 sn0)])) then
          bif (qcmp BinOp.neq (qint (qnth (Proofs.YtiojjmlccehpoaaGreat.q79 [(qget pd0 sn0)]) 1)) 0) then
            some (Sum.inr [(D.int 1), (D.int (qint (qnth (Proofs.YtiojjmlccehpoaaGreat.q79 [(qget pd0 sn0)]) 1)))])
          else
            bif (qmem (qlen (qapp sd1 (qnth (Proofs.YtiojjmlccehpoaaGreat.q79 [(qget pd0 sn0)]) 0))) 1) then
              some (Sum.inl [(D.int (qbin BinOp.add IntKind.i64 sn0 1)), (qapp sd1 (qnth (Proofs.YtiojjmlccehpoaaGreat.q79 [(qget pd0 sn0)]) 0))])
            else
              none
        else
          none
      else
        none
    else
      some (Sum.inr [(D.int 0), sd1]) := by
  have h : st27_3  [pd0] [(D.int sn0), sd1] =
    bif (qcmp BinOp.lss sn0 (qlen pd0)) then
      bif (qinb pd0 sn0) then
        bif (qsome (Proofs.YtiojjmlccehpoaaGreat.q79 [(qget pd0 sn0)])) then
          bif (qcmp BinOp.neq (qint (qnth (Proofs.YtiojjmlccehpoaaGreat.q79 [(qget pd0 sn0)]) 1)) 0) then
            bif (qeqD pd0 pd0) then
              some (Sum.inr [(D.int 1), (D.int (qint (qnth (Proofs.YtiojjmlccehpoaaGreat.q79 [(qget pd0 sn0)]) 1)))])
            else
              none
          else
            bif (qcmp BinOp.eql (qlen sd1) (qlen sd1)) then
              bif (qmem (qlen (qapp sd1 (qnth (Proofs.YtiojjmlccehpoaaGreat.q79 [(qget pd0 sn0)]) 0))) 1) then
                bif (qcmp BinOp.eql (qlen (qapp sd1 (qnth (Proofs.YtiojjmlccehpoaaGreat.q79 [(qget pd0 sn0)]) 0))) (qlen (qapp sd1 (qnth (Proofs.YtiojjmlccehpoaaGreat.q79 [(qget pd0 sn0)]) 0)))) then
                  bif (qeqD pd0 pd0) then
                    some (Sum.inl [(D.int (qbin BinOp.add IntKind.i64 sn0 1)), (qapp sd1 (qnth (Proofs.YtiojjmlccehpoaaGreat.q79 [(qget pd0 sn0)]) 0))])
                  else
                    none
                else
                  none
              else
                none
            else
              none
        else
          none
      else
        none
    else
      bif (qcmp BinOp.eql (qlen sd1) (qlen sd1)) then
        bif (qeqD pd0 pd0) then
          some (Sum.inr [(D.int 0), sd1])
        else
          none
      else
        none := by kernel_rfl
  rw [h]; simp only [qeqD_self, qeqI_self, qeq_len, show qcmp BinOp.eql 0 (qlen (D.list [])) = true from qeq_len [], show ∀ a, qcmp BinOp.eql 1 (qlen (D.list [a])) = true from fun a => qeq_len [a], show ∀ a b, qcmp BinOp.eql 2 (qlen (D.list [a, b])) = true from fun a b => qeq_len [a, b], cond_true]

noncomputable def l27_3 : List D → List D → Option (List D) := veil fun p s => loW (st27_3  p) s

theorem l27_3_eq : l27_3  = fun p s => loW (st27_3  p) s := veil_eq _

noncomputable def tbl27_3 : Tb := Tb.addL tb26 27 3 S27_3.n0 (mkLp S27_3 (l27_3 ))

theorem ok_tbl27_3 : TbOk env (tbl27_3 ) := addLoopQ ok_tb26 27 3 (by kernel_rfl) _ (l27_3_eq )

def S27 : FunS := ⟨[⟨true, (.rows 46)⟩], [], [⟨true, (.tup [(.rows 5), (.int .i64)])⟩], []⟩

noncomputable def F27 : List D → Option (List D) := liftX env tbl27_3 60 6 27 S27

theorem F27_eq  (sd0 : D) : F27  [sd0] =
    bif (qsome (Proofs.YtiojjmlccehpoaaGreat.l27_3 [sd0] [(D.int 0), (D.list [])])) then
      bif (qcmp BinOp.eql (qint (qnth (Proofs.YtiojjmlccehpoaaGreat.l27_3 [sd0] [(D.int 0), (D.list [])]) 0)) 0) then
        some [(qnth (Proofs.YtiojjmlccehpoaaGreat.l27_3 [sd0] [(D.int 0), (D.list [])]) 1), (D.int 0)]
      else
        some [(D.list []), (D.int (qint (qnth (Proofs.YtiojjmlccehpoaaGreat.l27_3 [sd0] [(D.int 0), (D.list [])]) 1)))]
    else
      none := by
  have h : F27  [sd0] =
    bif (qcmp BinOp.eql 0 (qlen (D.list []))) then
      bif (qsome (Proofs.YtiojjmlccehpoaaGreat.l27_3 [sd0] [(D.int 0), (D.list [])])) then
        bif (qcmp BinOp.eql (qint (qnth (Proofs.YtiojjmlccehpoaaGreat.l27_3 [sd0] [(D.int 0), (D.list [])]) 0)) 0) then
          bif (qcmp BinOp.eql (qlen (qnth (Proofs.YtiojjmlccehpoaaGreat.l27_3 [sd0] [(D.int 0), (D.list [])]) 1)) (qlen (qnth (Proofs.YtiojjmlccehpoaaGreat.l27_3 [sd0] [(D.int 0), (D.list [])]) 1))) then
            some [(qnth (Proofs.YtiojjmlccehpoaaGreat.l27_3 [sd0] [(D.int 0), (D.list [])]) 1), (D.int 0)]
          else
            none
        else
          some [(D.list []), (D.int (qint (qnth (Proofs.YtiojjmlccehpoaaGreat.l27_3 [sd0] [(D.int 0), (D.list [])]) 1)))]
      else
        none
    else
      none := by kernel_rfl
  rw [h]; simp only [qeqD_self, qeqI_self, qeq_len, show qcmp BinOp.eql 0 (qlen (D.list [])) = true from qeq_len [], show ∀ a, qcmp BinOp.eql 1 (qlen (D.list [a])) = true from fun a => qeq_len [a], show ∀ a b, qcmp BinOp.eql 2 (qlen (D.list [a, b])) = true from fun a b => qeq_len [a, b], cond_true]

noncomputable def q27 : List D → Option (List D) := veil (F27 )

theorem q27_eq : q27  = F27  := veil_eq _

noncomputable def tb27 : Tb := Tb.addF tbl27_3 27 S27 (q27 )

theorem ok_tb27 : TbOk env (tb27 ) := addFunF ok_tbl27_3 27 (by kernel_rfl) _ (q27_eq )

end Go.Proofs.YtiojjmlccehpoaaGreat
