/- For any list of texts lists.Join answers as the reference's Join does (where there are at most 50 texts of at most 100 octets), and the document's example is as it says. Conditions: none beyond the row's own. -/
import Derived.Test.YtkjkbenmoogdjaaCListsJoin1
import Derived.Test.YtkjkbenmoogdjaaCListsJoin2
namespace Go.Proofs.Ytkjkbenmoogdjaa.Pure
open Go.RowKit Go.Proofs.Ytkjkbenmoogdjaa.X Go.Proofs.YtkjkbenmoogdjaaW.PrintWords Go.Proofs.YtkjkbenmoogdjaaW.PrintLast Go.Proofs.YtkjkbenmoogdjaaW.PrintMore
theorem listsJoin_l0 (l : List ByteArray) (hl : l.length ≤ 50) : ∀ (d i k : Nat), l.length - i = d → i ≤ l.length → (∀ j (h : j < l.length), j < i → (l[j]'h).size ≤ 100) → d + 100 < k →
    abutmentlaw07_ListsJoin.l0 k l l (l.length : Int) (i : Int) = some true := by
  intro d
  induction d with
  | zero =>
    intro i k hd hi hsm hk
    obtain ⟨k, rfl⟩ : ∃ m, k = m + 1 := ⟨k - 1, by omega⟩
    have hsz : ∀ x ∈ l, x.size ≤ 100 := by
      intro x hx
      obtain ⟨j, hj, rfl⟩ := List.getElem_of_mem hx
      exact hsm j hj (by omega)
    have hb := joinL_len 100 l hsz
    have hb2 : l.length * (100 + 2) ≤ 50 * 102 := Nat.mul_le_mul hl (by omega)
    simp only [abutmentlaw07_ListsJoin.l0]
    rw [if_neg (by omega), show lists_Join.f l = some (joinB l) from by unfold lists_Join.f; rw [if_pos ⟨by omega, by omega⟩]]
    simp only [Option.bind_some]
    rw [ref_join 100 (by omega) l (by omega) hsz k (by omega)]
    simp only [Option.bind_some]
    rw [if_pos trivial, lists_lives k (by omega)]
    rfl
  | succ d ih =>
    intro i k hd hi hsm hk
    obtain ⟨k, rfl⟩ : ∃ m, k = m + 1 := ⟨k - 1, by omega⟩
    have hli : i < l.length := by omega
    have hw : wrap64 ((i : Int) + 1) = ((i + 1 : Nat) : Int) := by rw [wrap_id _ (by omega) (by omega)]; omega
    simp only [abutmentlaw07_ListsJoin.l0]
    rw [if_pos (by omega), if_pos (by omega), if_pos (by omega), rd_nat l i hli, hw]
    by_cases hb : ((l[i]'hli).size : Int) > 100
    · rw [if_pos hb, lists_lives k (by omega)]
      rfl
    · rw [if_neg hb]
      refine ih (i + 1) k (by omega) (by omega) ?_ (by omega)
      intro j hj hji
      by_cases e : j = i
      · subst e; omega
      · exact hsm j hj (by omega)
theorem ListsJoin (l : List ByteArray) (_hm : l.length ≤ maxLen) (_hg : ∀ x ∈ l, x.size ≤ maxLen) : ∃ k, abutmentlaw07_ListsJoin.f k l = some true := by
  refine ⟨1000, ?_⟩
  unfold abutmentlaw07_ListsJoin.f
  by_cases h : (l.length : Int) > 50
  · rw [if_pos h, lists_lives _ (by omega)]
    rfl
  · rw [if_neg h]
    exact listsJoin_l0 l (by omega) l.length 0 1000 (by omega) (by omega) (fun j _ h => by omega) (by omega)
end Go.Proofs.Ytkjkbenmoogdjaa.Pure
