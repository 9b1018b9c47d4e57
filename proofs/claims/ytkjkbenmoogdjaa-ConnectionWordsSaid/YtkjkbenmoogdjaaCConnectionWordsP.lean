/- For any fields (where there are at most 40, of names of at most 100 and values of at most 300 octets), any word of at most 100 octets and any version number connection.Words, Has and Persists answer as the reference's do, and the document's example is as it says. Conditions: none beyond the row's own. -/
import Derived.Test.YtkjkbenmoogdjaaCConnectionWords3
import Derived.Test.YtkjkbenmoogdjaaCConnectionWords4
namespace Go.Proofs.Ytkjkbenmoogdjaa.Pure
open Go.RowKit Go.Proofs.Ytkjkbenmoogdjaa.X Go.Proofs.YtkjkbenmoogdjaaW.PrintWords Go.Proofs.YtkjkbenmoogdjaaW.PrintLast Go.Proofs.YtkjkbenmoogdjaaW.PrintMore
theorem words_j0 (l : List S23) (word : ByteArray) (minor : Int) (b : Bool) (hb : b = false → OkF l ∧ l.length ≤ 40 ∧ word.size ≤ 100) (k : Nat) (hk : 5000000 < k) : abutmentlaw17_ConnectionWords.j0 k l word minor b = some true := by
  obtain ⟨k, rfl⟩ : ∃ m, k = m + 1 := ⟨k - 1, by omega⟩
  simp only [abutmentlaw17_ConnectionWords.j0]
  cases b with
  | true => rw [if_pos rfl, lives17]; rfl
  | false =>
    obtain ⟨hok, h40, hw⟩ := hb rfl
    have hlen := wordsB_len l
    have hc := comb_size l hok connName
    rw [if_neg (by simp), conn_words l hok (by omega)]
    simp only [Option.bind_some]
    rw [ref_words l hok (by omega) k (by omega)]
    simp only [Option.bind_some]
    rw [ref_same _ _ (by omega) k (by omega)]
    simp only [Option.bind_some]
    rw [if_pos (by simp), if_pos trivial, conn_has2 l hok (by omega) word (by omega) k (by omega)]
    simp only [Option.bind_some]
    rw [ref_has17 l hok (by omega) word (by omega) k (by omega)]
    simp only [Option.bind_some]
    rw [if_pos (by simp), conn_persists minor l hok (by omega)]
    simp only [Option.bind_some]
    rw [ref_persists minor l hok (by omega) k (by omega)]
    simp only [Option.bind_some]
    rw [if_pos (by simp), lives17]
    rfl
theorem ConnectionWords (l : List S23) (word : ByteArray) (minor : Int) (_h0 : l.length ≤ maxLen) (_h1 : ∀ x ∈ l, x.f0.size ≤ maxLen ∧ x.f1.size ≤ maxLen) (_h2 : word.size ≤ 140737488351232) (_h3 : (Lit.int .i64 minor).wf = true) : ∃ k, abutmentlaw17_ConnectionWords.f k l word minor = some true := by
  refine ⟨1000000000, ?_⟩
  unfold abutmentlaw17_ConnectionWords.f
  rw [few_f l _ (by omega)]
  simp only [Option.bind_some]
  by_cases h : fewB l = true
  · have hok := few_ok h
    have h40 := (few_spec l h).1
    rw [if_pos h]
    exact words_j0 l word minor _ (fun hb => ⟨hok, h40, by have := of_decide_eq_false hb; omega⟩) _ (by omega)
  · rw [if_neg h]
    exact words_j0 l word minor true (fun hb => by cases hb) _ (by omega)
end Go.Proofs.Ytkjkbenmoogdjaa.Pure
