/- For any text (cut at 1,000 octets) and any field (name cut at 300, value at 1,000 octets) field.Parse, Line and Right answer as the reference's Parse, Line and Right do, and the document's examples are as it says. Conditions: none beyond the row's own. -/
import Derived.Test.YtkjkbenmoogdjaaCFieldParses3
import Derived.Test.YtkjkbenmoogdjaaCFieldParses4
namespace Go.Proofs.Ytkjkbenmoogdjaa.Pure
open Go.RowKit Go.Proofs.Ytkjkbenmoogdjaa.X Go.Proofs.YtkjkbenmoogdjaaW.PrintWords Go.Proofs.YtkjkbenmoogdjaaW.PrintLast Go.Proofs.YtkjkbenmoogdjaaW.PrintMore
theorem FieldParses (a0 : ByteArray) (x1 : S23) (h0 : a0.size ≤ 140737488351232) (h1 : x1.f0.size ≤ maxLen ∧ x1.f1.size ≤ maxLen) : ∃ k, abutmentlaw09_FieldParses.f k a0 x1.f0 x1.f1 = some true := by
  refine ⟨20000, ?_⟩
  have m0 : 0 ≤ mn (a0.size : Int) 1000 ∧ mn (a0.size : Int) 1000 ≤ a0.size ∧ mn (a0.size : Int) 1000 ≤ 1000 := by unfold mn; split <;> omega
  have m1 : 0 ≤ mn (x1.f0.size : Int) 300 ∧ mn (x1.f0.size : Int) 300 ≤ x1.f0.size ∧ mn (x1.f0.size : Int) 300 ≤ 300 := by unfold mn; split <;> omega
  have m2 : 0 ≤ mn (x1.f1.size : Int) 1000 ∧ mn (x1.f1.size : Int) 1000 ≤ x1.f1.size ∧ mn (x1.f1.size : Int) 1000 ≤ 1000 := by unfold mn; split <;> omega
  unfold abutmentlaw09_FieldParses.f
  rw [if_pos m0.1, if_pos m0.2.1, if_pos m1.1, if_pos m1.2.1, if_pos m2.1, if_pos m2.2.1]
  have s0 : (a0.extract 0 (mn (a0.size : Int) 1000).toNat).size ≤ 1000 := by rw [ByteArray.size_extract]; omega
  have s1 : (x1.f0.extract 0 (mn (x1.f0.size : Int) 300).toNat).size ≤ 300 := by rw [ByteArray.size_extract]; omega
  have s2 : (x1.f1.extract 0 (mn (x1.f1.size : Int) 1000).toNat).size ≤ 1000 := by rw [ByteArray.size_extract]; omega
  generalize a0.extract 0 (mn (a0.size : Int) 1000).toNat = a at s0 ⊢
  generalize x1.f0.extract 0 (mn (x1.f0.size : Int) 300).toNat = b at s1 ⊢
  generalize x1.f1.extract 0 (mn (x1.f1.size : Int) 1000).toNat = c at s2 ⊢
  rw [field_parse a (by omega) _ (by omega)]
  simp only [Option.bind_some]
  rw [ref_parse a (by omega) _ (by omega)]
  simp only [Option.bind_some]
  rw [if_pos (by simp), if_pos (by simp), field_line b c (by omega) (by omega)]
  simp only [Option.bind_some]
  rw [ref_line b c (by omega) (by omega)]
  simp only [Option.bind_some]
  rw [if_pos (by simp), field_right b c (by omega) (by omega) _ (by omega)]
  simp only [Option.bind_some]
  rw [ref_right b c (by omega) (by omega) _ (by omega) (by omega)]
  simp only [Option.bind_some]
  rw [if_pos (by simp), field_lives _ (by omega)]
  rfl
end Go.Proofs.Ytkjkbenmoogdjaa.Pure
