/- For any method (of at most 60 octets) and any target (parts of at most 1000 octets) target.Text and target.Out answer as the reference's do, and the document's example is as it says. Conditions: none beyond the row's own. -/
import Derived.Test.YtdjmgmiaognncaaDoorCTargetOut3
import Derived.Test.YtdjmgmiaognncaaDoorCTargetOut5
namespace Go.Proofs.YtdjmgmiaognncaaDoor.Pure
open Go.RowKit Go.Proofs.YtdjmgmiaognncaaDoor.X Go.Proofs.YtdjmgmiaognncaaDoorW.PrintWords Go.Proofs.YtdjmgmiaognncaaDoorW.PrintLast Go.Proofs.YtdjmgmiaognncaaDoorW.PrintMore
theorem target_out_j0 (m : ByteArray) (b : Bool) (f : Int) (a p : ByteArray) (hb : b = false → a.size ≤ 1000 ∧ p.size ≤ 1000) (k : Nat) (hk : 10 < k) : abutmentlaw12_TargetOut.j0 k m b f a p = some true := by
  obtain ⟨k, rfl⟩ : ∃ q, k = q + 1 := ⟨k - 1, by omega⟩
  simp only [abutmentlaw12_TargetOut.j0]
  rw [lives12 k (by omega)]
  cases b with
  | true => rfl
  | false =>
    obtain ⟨ha, hp⟩ := hb rfl
    rw [if_neg (by simp), prog_text f a p (by omega) (by omega), ref_text12 f a p (by omega) (by omega), prog_out m f a p (by omega) (by omega) k (by omega), ref_out m f a p (by omega) (by omega) k (by omega)]
    simp only [Option.bind_some]
    rfl
theorem TargetOut (m : ByteArray) (x : S32) (_h0 : m.size ≤ 140737488351232) (_h1 : (Lit.int .i64 x.f0).wf = true ∧ x.f1.size ≤ maxLen ∧ x.f2.size ≤ maxLen) : ∃ k, abutmentlaw12_TargetOut.f k m x.f0 x.f1 x.f2 = some true := by
  refine ⟨1000, ?_⟩
  unfold abutmentlaw12_TargetOut.f
  by_cases h0 : (m.size : Int) > 60
  · rw [if_pos h0]
    exact target_out_j0 m true x.f0 x.f1 x.f2 (fun h => by cases h) _ (by omega)
  · rw [if_neg h0]
    by_cases h1 : (x.f1.size : Int) > 1000
    · rw [if_pos h1]
      exact target_out_j0 m true x.f0 x.f1 x.f2 (fun h => by cases h) _ (by omega)
    · rw [if_neg h1]
      exact target_out_j0 m _ x.f0 x.f1 x.f2 (fun h => by have := of_decide_eq_false h; omega) _ (by omega)
end Go.Proofs.YtdjmgmiaognncaaDoor.Pure
