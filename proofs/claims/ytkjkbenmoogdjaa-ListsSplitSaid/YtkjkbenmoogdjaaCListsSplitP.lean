/- For any two texts (cut at 1,000 and 100 octets) lists.Split and lists.Has answer as the reference's Split and Has do, and the document's example is as it says. Conditions: none beyond the row's own (each text at most 2^47 - 4096 octets). -/
import Derived.Test.YtkjkbenmoogdjaaCListsSplit2
import Derived.KernelRfl
namespace Go.Proofs.Ytkjkbenmoogdjaa.Pure
open Go.RowKit Go.Proofs.Ytkjkbenmoogdjaa.X Go.Proofs.YtkjkbenmoogdjaaW.PrintWords Go.Proofs.YtkjkbenmoogdjaaW.PrintLast Go.Proofs.YtkjkbenmoogdjaaW.PrintMore
theorem ListsSplit : abutmentlaw07_ListsSplit.Pure := by
  intro a0 a1 h0 h1
  refine ⟨2000000, ?_⟩
  have m0 : 0 ≤ mn (a0.size : Int) 1000 ∧ mn (a0.size : Int) 1000 ≤ a0.size ∧ mn (a0.size : Int) 1000 ≤ 1000 := by unfold mn; split <;> omega
  have m1 : 0 ≤ mn (a1.size : Int) 100 ∧ mn (a1.size : Int) 100 ≤ a1.size ∧ mn (a1.size : Int) 100 ≤ 100 := by unfold mn; split <;> omega
  unfold abutmentlaw07_ListsSplit.f
  rw [if_pos m0.1, if_pos m0.2.1, if_pos m1.1, if_pos m1.2.1]
  have s0 : (a0.extract 0 (mn (a0.size : Int) 1000).toNat).size ≤ 1000 := by rw [ByteArray.size_extract]; omega
  have s1 : (a1.extract 0 (mn (a1.size : Int) 100).toNat).size ≤ 100 := by rw [ByteArray.size_extract]; omega
  generalize a0.extract 0 (mn (a0.size : Int) 1000).toNat = a at s0 ⊢
  generalize a1.extract 0 (mn (a1.size : Int) 100).toNat = b at s1 ⊢
  have hl := splitB_len a
  rw [show lists_Split.f a = some (splitB a) from by unfold lists_Split.f; rw [if_pos (by omega)]]
  simp only [Option.bind_some]
  rw [ref_split a (by omega) _ (by omega)]
  simp only [Option.bind_some]
  rw [ref_same _ _ (by omega) _ (by omega)]
  simp only [Option.bind_some]
  rw [if_pos (by simp), if_pos (by simp), show lists_Has.f a b = some (hasB a b) from by unfold lists_Has.f; rw [if_pos (by omega)]]
  simp only [Option.bind_some]
  rw [ref_has a b (by omega) (by omega) _ (by omega)]
  simp only [Option.bind_some]
  rw [if_pos (by simp), lists_lives _ (by omega)]
  rfl
end Go.Proofs.Ytkjkbenmoogdjaa.Pure
