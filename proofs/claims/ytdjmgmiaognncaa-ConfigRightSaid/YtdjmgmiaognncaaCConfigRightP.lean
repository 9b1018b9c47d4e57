/- For any settings (a name of at most 300 octets, an authority of at most 500) config.Right and config.Print answer as the reference's do, and the document's example is as it says. Conditions: none beyond the row's own. -/
import Derived.Test.YtdjmgmiaognncaaCConfigRight3
import Derived.Test.YtdjmgmiaognncaaCConfigRight4
namespace Go.Proofs.Ytdjmgmiaognncaa.Pure
open Go.RowKit Go.Proofs.Ytdjmgmiaognncaa.X Go.Proofs.YtdjmgmiaognncaaW.PrintWords Go.Proofs.YtdjmgmiaognncaaW.PrintLast Go.Proofs.YtdjmgmiaognncaaW.PrintMore
theorem ConfigRight (x : S25) (_h : x.f0.size ≤ maxLen ∧ x.f1.size ≤ maxLen ∧ (Lit.int .i64 x.f2).wf = true ∧ (Lit.int .i64 x.f3).wf = true ∧ (Lit.int .i64 x.f4).wf = true ∧ (Lit.int .i64 x.f5).wf = true ∧ (Lit.int .i64 x.f6).wf = true ∧ (Lit.int .i64 x.f7).wf = true ∧ (Lit.int .i64 x.f8).wf = true ∧ (Lit.int .i64 x.f9).wf = true ∧ (Lit.int .i64 x.f10).wf = true ∧ (Lit.int .i64 x.f11).wf = true ∧ (Lit.int .i64 x.f12).wf = true ∧ ((Lit.int .i64 x.f13.f0).wf = true ∧ (Lit.int .i64 x.f13.f1).wf = true ∧ (Lit.int .i64 x.f13.f2).wf = true ∧ (Lit.int .i64 x.f13.f3).wf = true ∧ (Lit.int .i64 x.f13.f4).wf = true)) : abutmentlaw13_ConfigRight.f x.f0 x.f1 x.f2 x.f3 x.f4 x.f5 x.f6 x.f7 x.f8 x.f9 x.f10 x.f11 x.f12 x.f13.f0 x.f13.f1 x.f13.f2 x.f13.f3 x.f13.f4 = some true := by
  unfold abutmentlaw13_ConfigRight.f
  by_cases hz : x.f0.size ≤ 300 ∧ x.f1.size ≤ 500
  · rw [if_pos hz, config_right _ _ _ _ _ _ _ _ _ _ _ _ _ _ _ _ _ _ (by omega), ref_right _ _ _ _ _ _ _ _ _ _ _ _ _ _ _ _ _ _ (by omega) (by omega), config_print _ _ _ _ _ _ _ _ _ _ _ _ _ _ _ _ _ _ (by omega) (by omega), ref_print _ _ _ _ _ _ _ _ _ _ _ _ _ _ _ _ _ _ (by omega) (by omega)]
    simp only [Option.bind_some]
    rw [if_pos ⟨trivial, trivial⟩]
    exact lives13
  · rw [if_neg hz]
    exact lives13
end Go.Proofs.Ytdjmgmiaognncaa.Pure
