/- For any fields hop.Names and hop.Strip answer as the reference's Names and Strip do (where there are at most 40 fields, of names of at most 100 and values of at most 300 octets), and the document's example is as it says. Conditions: none beyond the row's own. -/
import Derived.Test.YtkjkbenmoogdjaaCHopStrips3
namespace Go.Proofs.Ytkjkbenmoogdjaa.Pure
open Go.RowKit Go.Proofs.Ytkjkbenmoogdjaa.X Go.Proofs.YtkjkbenmoogdjaaW.PrintWords Go.Proofs.YtkjkbenmoogdjaaW.PrintLast Go.Proofs.YtkjkbenmoogdjaaW.PrintMore
theorem HopStrips (l : List S23) (_h0 : l.length ≤ maxLen) (_h1 : ∀ x ∈ l, x.f0.size ≤ maxLen ∧ x.f1.size ≤ maxLen) : ∃ k, abutmentlaw29_HopStrips.f k l = some true := by
  refine ⟨1000000000, ?_⟩
  unfold abutmentlaw29_HopStrips.f
  rw [few_f l _ (by omega)]
  simp only [Option.bind_some]
  by_cases h : fewB l = true
  · have hok := few_ok h
    have h40 := (few_spec l h).1
    obtain ⟨n1, _, _⟩ := names_size l hok (by omega)
    have hsl : (stripB l).length ≤ l.length := List.length_filter_le _ _
    rw [if_pos h, hop_names l hok (by omega)]
    simp only [Option.bind_some]
    rw [ref_names l hok (by omega) _ (by omega)]
    simp only [Option.bind_some]
    rw [ref_same _ _ (by omega) _ (by omega)]
    simp only [Option.bind_some]
    rw [if_pos (by simp), hop_strip l hok (by omega)]
    simp only [Option.bind_some]
    rw [ref_strip l hok (by omega) _ (by omega)]
    simp only [Option.bind_some]
    rw [ref_same9 _ (by omega) _ (by omega)]
    simp only [Option.bind_some]
    rw [if_pos trivial, hop_lives]
    rfl
  · rw [if_neg h, hop_lives]
    rfl
end Go.Proofs.Ytkjkbenmoogdjaa.Pure
