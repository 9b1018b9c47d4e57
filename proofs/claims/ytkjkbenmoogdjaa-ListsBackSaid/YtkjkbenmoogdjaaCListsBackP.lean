/- For any text (cut at 1,000 octets) what lists.Split gives, joined by lists.Join and split again, is the same; each element is there by lists.Has and is not empty. Conditions: none beyond the row's own. -/
import Derived.Test.YtkjkbenmoogdjaaCListsBack1
import Derived.Test.YtkjkbenmoogdjaaCListsBack2
namespace Go.Proofs.Ytkjkbenmoogdjaa.Pure
open Go.RowKit Go.Proofs.Ytkjkbenmoogdjaa.X Go.Proofs.YtkjkbenmoogdjaaW.PrintWords Go.Proofs.YtkjkbenmoogdjaaW.PrintLast Go.Proofs.YtkjkbenmoogdjaaW.PrintMore
theorem listsBack_l0 (a : ByteArray) (ha : a.size ≤ 1000) (hok : (splitB a).2 = true) : ∀ (d i k : Nat), (splitB a).1.length - i = d → i ≤ (splitB a).1.length → d + 2000 < k →
    abutmentlaw07_ListsBack.l0 k a (splitB a).1 (splitB a).1 true (splitB a).1 ((splitB a).1.length : Int) (i : Int) = some true := by
  have hlen := splitB_len a
  obtain ⟨ls, hls, hgood⟩ := split_good a hok
  intro d
  induction d with
  | zero =>
    intro i k hd hi hk
    obtain ⟨k, rfl⟩ : ∃ m, k = m + 1 := ⟨k - 1, by omega⟩
    simp only [abutmentlaw07_ListsBack.l0]
    rw [if_neg (by omega), if_pos trivial, ref_same _ _ (by omega) k (by omega)]
    simp only [Option.bind_some]
    rw [if_pos (by simp), lists_lives k (by omega)]
    rfl
  | succ d ih =>
    intro i k hd hi hk
    obtain ⟨k, rfl⟩ : ∃ m, k = m + 1 := ⟨k - 1, by omega⟩
    have hli : i < (splitB a).1.length := by omega
    have hw : wrap64 ((i : Int) + 1) = ((i + 1 : Nat) : Int) := by rw [wrap_id _ (by omega) (by omega)]; omega
    have hmem : (splitB a).1[i]'hli ∈ (splitB a).1 := List.getElem_mem hli
    have hne : ¬ ((splitB a).1[i]'hli).toList = [] := by
      have hm2 := hmem
      generalize (splitB a).1[i]'hli = y at hm2 ⊢
      rw [hls] at hm2
      obtain ⟨x, hx, he⟩ := List.mem_map.1 hm2
      rw [← he, Lib.toList_data]
      exact (hgood x hx).2.2
    simp only [abutmentlaw07_ListsBack.l0]
    rw [if_pos (by omega), if_pos (by omega), if_pos (by omega), rd_nat _ i hli, if_neg hne, show lists_Has.f a ((splitB a).1[i]'hli) = some (hasB a ((splitB a).1[i]'hli)) from by unfold lists_Has.f; rw [if_pos (by omega)]]
    simp only [Option.bind_some]
    rw [if_pos (hasB_self a _ hmem), hw]
    exact ih (i + 1) k (by omega) (by omega) (by omega)
theorem ListsBack : abutmentlaw07_ListsBack.Pure := by
  intro a0 h0
  refine ⟨4000, ?_⟩
  have m0 : 0 ≤ mn (a0.size : Int) 1000 ∧ mn (a0.size : Int) 1000 ≤ a0.size ∧ mn (a0.size : Int) 1000 ≤ 1000 := by unfold mn; split <;> omega
  unfold abutmentlaw07_ListsBack.f
  rw [if_pos m0.1, if_pos m0.2.1]
  have s0 : (a0.extract 0 (mn (a0.size : Int) 1000).toNat).size ≤ 1000 := by rw [ByteArray.size_extract]; omega
  generalize a0.extract 0 (mn (a0.size : Int) 1000).toNat = a at s0 ⊢
  have hlen := splitB_len a
  have hj := split_join_len a
  rw [show lists_Split.f a = some (splitB a) from by unfold lists_Split.f; rw [if_pos (by omega)]]
  simp only [Option.bind_some]
  by_cases hok : (splitB a).2 = true
  · rw [if_pos hok, show lists_Join.f (splitB a).1 = some (joinB (splitB a).1) from by unfold lists_Join.f; rw [if_pos ⟨by omega, by omega⟩]]
    simp only [Option.bind_some]
    rw [show lists_Split.f (joinB (splitB a).1) = some (splitB (joinB (splitB a).1)) from by unfold lists_Split.f; rw [if_pos (by unfold joinB; rw [size_mk]; omega)]]
    simp only [Option.bind_some]
    rw [split_back a hok]
    exact listsBack_l0 a s0 hok (splitB a).1.length 0 4000 (by omega) (by omega) (by omega)
  · rw [if_neg hok]
    have he : (splitB a).1 = [] := by
      unfold splitB at hok ⊢
      split
      · rename_i h; rw [if_pos h] at hok; exact absurd rfl hok
      · rfl
    rw [he, if_pos (by simp), lists_lives _ (by omega)]
    rfl
end Go.Proofs.Ytkjkbenmoogdjaa.Pure
