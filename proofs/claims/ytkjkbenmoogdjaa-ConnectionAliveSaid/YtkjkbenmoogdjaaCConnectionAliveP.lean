/- For any fields (where there are at most 40, of names of at most 100 and values of at most 300 octets) connection.Alive answers as the reference's Alive does, and the document's example is as it says. Conditions: none beyond the row's own. -/
import Derived.Test.YtkjkbenmoogdjaaCConnectionAlive3
import Derived.Test.YtkjkbenmoogdjaaCConnectionAlive4
namespace Go.Proofs.Ytkjkbenmoogdjaa.Pure
open Go.RowKit Go.Proofs.Ytkjkbenmoogdjaa.X Go.Proofs.YtkjkbenmoogdjaaW.PrintWords Go.Proofs.YtkjkbenmoogdjaaW.PrintLast Go.Proofs.YtkjkbenmoogdjaaW.PrintMore
theorem ConnectionAlive (l : List S23) (_h0 : l.length ≤ maxLen) (_h1 : ∀ x ∈ l, x.f0.size ≤ maxLen ∧ x.f1.size ≤ maxLen) : ∃ k, abutmentlaw17_ConnectionAlive.f k l = some true := by
  refine ⟨5000000000, ?_⟩
  unfold abutmentlaw17_ConnectionAlive.f
  rw [few_f l _ (by omega)]
  simp only [Option.bind_some]
  by_cases h : fewB l = true
  · have hok := few_ok h
    have h40 := (few_spec l h).1
    rw [if_pos h, conn_alive l hok (by omega)]
    simp only [Option.bind_some]
    rw [ref_alive l hok h40 _ (by omega)]
    simp only [Option.bind_some]
    rw [if_pos (by simp), if_pos (by simp), lives17]
    rfl
  · rw [if_neg h, lives17]
    rfl
end Go.Proofs.Ytkjkbenmoogdjaa.Pure
