/- For any fields (where there are at most 40, of names of at most 100 and values of at most 300 octets) and any version number: with a field more that says close nothing goes on; without one, and without an error, what speaks HTTP/1.1 does; and the document's example is as it says. Conditions: none beyond the row's own. -/
import Derived.Test.YtkjkbenmoogdjaaCConnectionClose2
import Derived.Test.YtkjkbenmoogdjaaCConnectionClose3
import Derived.Test.YtkjkbenmoogdjaaCConnectionClose4
namespace Go.Proofs.Ytkjkbenmoogdjaa.Pure
open Go.RowKit Go.Proofs.Ytkjkbenmoogdjaa.X Go.Proofs.YtkjkbenmoogdjaaW.PrintWords Go.Proofs.YtkjkbenmoogdjaaW.PrintLast Go.Proofs.YtkjkbenmoogdjaaW.PrintMore
theorem low_CLOSE : lowB (⟨#[67, 76, 79, 83, 69]⟩ : ByteArray) = closeName := by kernel_rfl
theorem ConnectionClose (l : List S23) (minor : Int) (_h0 : l.length ≤ maxLen) (_h1 : ∀ x ∈ l, x.f0.size ≤ maxLen ∧ x.f1.size ≤ maxLen) (_h3 : (Lit.int .i64 minor).wf = true) : ∃ k, abutmentlaw17_ConnectionClose.f k l minor = some true := by
  refine ⟨1000000000, ?_⟩
  unfold abutmentlaw17_ConnectionClose.f
  rw [few_f l _ (by omega)]
  simp only [Option.bind_some]
  by_cases h : fewB l = true
  · have hok := few_ok h
    have h40 := (few_spec l h).1
    have hok2 : OkF (withB l ⟨#[99, 111, 110, 110, 101, 99, 116, 105, 111, 110]⟩ ⟨#[67, 108, 111, 115, 101]⟩) := by
      refine ⟨by unfold withB; simp; omega, fun f hf => ?_⟩
      rcases List.mem_append.1 hf with hf | hf
      · exact hok.2 f hf
      · simp at hf
        subst hf
        exact ⟨by decide, by decide⟩
    rw [if_pos h, show header_With.f l ⟨#[99, 111, 110, 110, 101, 99, 116, 105, 111, 110]⟩ ⟨#[67, 108, 111, 115, 101]⟩ = some (withB l ⟨#[99, 111, 110, 110, 101, 99, 116, 105, 111, 110]⟩ ⟨#[67, 108, 111, 115, 101]⟩) from by unfold header_With.f; rw [if_pos (by omega)]]
    simp only [Option.bind_some]
    rw [conn_persists minor _ hok2 (by unfold withB; simp; omega), persists_close]
    simp only [Option.bind_some]
    rw [if_neg (by simp), conn_words l hok (by omega)]
    simp only [Option.bind_some]
    by_cases he : (wordsB l).2 = 0
    · rw [if_pos he, conn_persists 1 l hok (by omega)]
      simp only [Option.bind_some]
      rw [conn_has2 l hok (by omega) _ (by decide) _ (by omega), low_CLOSE]
      simp only [Option.bind_some]
      have hp : persistsB 1 l = !inL (wordsB l).1 closeName := by
        unfold persistsB
        rw [he]
        cases inL (wordsB l).1 closeName <;> rfl
      rw [hp, if_pos (by simp), lives17]
      rfl
    · rw [if_neg he, conn_persists minor l hok (by omega)]
      simp only [Option.bind_some]
      have hp : persistsB minor l = false := by
        unfold persistsB
        rw [beq_eq_false_iff_ne.2 he]
        rfl
      rw [hp, if_neg (by simp), conn_has2 l hok (by omega) _ (by decide) _ (by omega), words_err l he]
      simp only [Option.bind_some]
      rw [if_neg (by unfold inL; simp), lives17]
      rfl
  · rw [if_neg h, lives17]
    rfl
end Go.Proofs.Ytkjkbenmoogdjaa.Pure
