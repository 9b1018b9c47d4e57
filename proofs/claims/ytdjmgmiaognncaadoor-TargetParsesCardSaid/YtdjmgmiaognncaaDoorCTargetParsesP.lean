/- For any method (its first 60 octets) and any text (its first 1000 octets) target.Parse answers as the reference's does, and the document's example is as it says. Conditions: none beyond the row's own. -/
import Derived.Test.YtdjmgmiaognncaaDoorCTargetParses4
import Derived.Test.YtdjmgmiaognncaaDoorCTargetParses5
namespace Go.Proofs.YtdjmgmiaognncaaDoor.Pure
open Go.RowKit Go.Proofs.YtdjmgmiaognncaaDoor.X Go.Proofs.YtdjmgmiaognncaaDoorW.PrintWords Go.Proofs.YtdjmgmiaognncaaDoorW.PrintLast Go.Proofs.YtdjmgmiaognncaaDoorW.PrintMore
theorem TargetParses (a0 a1 : ByteArray) (_h0 : a0.size ≤ 140737488351232) (_h1 : a1.size ≤ 140737488351232) : ∃ k, abutmentlaw12_TargetParses.f k a0 a1 = some true := by
  refine ⟨1000000000, ?_⟩
  unfold abutmentlaw12_TargetParses.f
  have h60 : mn (a0.size : Int) 60 ≤ (a0.size : Int) ∧ 0 ≤ mn (a0.size : Int) 60 := by unfold mn; omega
  have h1000 : mn (a1.size : Int) 1000 ≤ (a1.size : Int) ∧ 0 ≤ mn (a1.size : Int) 1000 ∧ mn (a1.size : Int) 1000 ≤ 1000 := by unfold mn; omega
  rw [if_pos h60.2, if_pos h60.1, if_pos h1000.2.1, if_pos h1000.1]
  have hz : (a1.extract 0 (mn (a1.size : Int) 1000).toNat).size ≤ 1000 := by rw [ByteArray.size_extract]; omega
  generalize a1.extract 0 (mn (a1.size : Int) 1000).toNat = s at hz
  generalize a0.extract 0 (mn (a0.size : Int) 60).toNat = m
  rw [prog_target m s (by omega), ref_target m s (by omega) 1000000000 (by omega)]
  simp only [Option.bind_some]
  rw [if_pos (by simp), if_pos trivial, lives12 _ (by omega)]
  rfl
end Go.Proofs.YtdjmgmiaognncaaDoor.Pure
