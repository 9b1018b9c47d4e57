/- For any fields (where there are at most 40, of names of at most 100 and values of at most 300 octets) what hop.Strip leaves is left again, in its order, none of it is named by a Connection field but what nobody may take out, nothing of a name that is left is taken out, the Host fields are left, and the document's example is as it says. Conditions: none beyond the row's own. -/
import Derived.Test.YtkjkbenmoogdjaaCHopLeaves3
import Derived.Test.YtkjkbenmoogdjaaCHopLeaves4
import Derived.Test.YtkjkbenmoogdjaaCHopLeaves5
namespace Go.Proofs.Ytkjkbenmoogdjaa.Pure
open Go.RowKit Go.Proofs.Ytkjkbenmoogdjaa.X Go.Proofs.YtkjkbenmoogdjaaW.PrintWords Go.Proofs.YtkjkbenmoogdjaaW.PrintLast Go.Proofs.YtkjkbenmoogdjaaW.PrintMore
theorem leaves_start (l : List S23) (hok : OkF l) (h : l.length ≤ 500) (k : Nat) (hk : 900000 < k) : abutmentlaw29_HopLeaves.l0 k l (stripB l) 0 l (l.length : Int) 0 = some true := by
  have := leaves_l0 l hok h l.length 0 k (by omega) (by omega) (by omega)
  simpa using this
theorem HopLeaves (l : List S23) (_h0 : l.length ≤ maxLen) (_h1 : ∀ x ∈ l, x.f0.size ≤ maxLen ∧ x.f1.size ≤ maxLen) : ∃ k, abutmentlaw29_HopLeaves.f k l = some true := by
  refine ⟨1000000000, ?_⟩
  unfold abutmentlaw29_HopLeaves.f
  rw [few_f l _ (by omega)]
  simp only [Option.bind_some]
  by_cases h : fewB l = true
  · have hok := few_ok h
    have h40 := (few_spec l h).1
    rw [if_pos h, hop_strip l hok (by omega)]
    simp only [Option.bind_some]
    exact leaves_start l hok (by omega) _ (by omega)
  · rw [if_neg h, hop_lives]
    rfl
end Go.Proofs.Ytkjkbenmoogdjaa.Pure
