/- For any field, any line (cut at 1,000 octets) and any lines: where the lines are few and the field is short, a field that is right comes back from its line, what is read is right or nothing, lines of which none goes on stay as they are, and the document's examples are as it says. Conditions: none beyond the row's own. -/
import Derived.Test.YtkjkbenmoogdjaaDoorCFieldBack2
namespace Go.Proofs.YtkjkbenmoogdjaaDoor.Pure
open Go.RowKit Go.Proofs.YtkjkbenmoogdjaaDoor.X Go.Proofs.YtkjkbenmoogdjaaDoorW.PrintWords Go.Proofs.YtkjkbenmoogdjaaDoorW.PrintLast Go.Proofs.YtkjkbenmoogdjaaDoorW.PrintMore
theorem back_l0 (l : List ByteArray) (hf : l.length ≤ 40 ∧ ∀ x ∈ l, x.size ≤ 300) : ∀ (d i k : Nat), l.length - i = d → i ≤ l.length → d + 1000 < k → (∀ x ∈ l.take i, goesB x = false) → abutmentlaw09_FieldBack.l0 k l l (l.length : Int) (i : Int) = some true := by
  intro d
  induction d with
  | zero =>
    intro i k hd hi hk h
    obtain ⟨k, rfl⟩ : ∃ m, k = m + 1 := ⟨k - 1, by omega⟩
    rw [List.take_of_length_le (by omega)] at h
    simp only [abutmentlaw09_FieldBack.l0]
    rw [if_neg (by omega), show field_Unfold.f 0 l = some (l, 0) from by unfold field_Unfold.f; rw [if_pos hf, unf_plain 0 l [] h]; rfl, show field_Unfold.f 1 l = some (l, 0) from by unfold field_Unfold.f; rw [if_pos hf, unf_plain 1 l [] h]; rfl]
    simp only [Option.bind_some]
    rw [ref_same l l (by omega) k (by omega)]
    simp only [Option.bind_some, decide_true, if_true]
    rw [field_lives k (by omega)]
    rfl
  | succ d ih =>
    intro i k hd hi hk h
    obtain ⟨k, rfl⟩ : ∃ m, k = m + 1 := ⟨k - 1, by omega⟩
    have hl : i < l.length := by omega
    have hw : wrap64 ((i : Int) + 1) = ((i + 1 : Nat) : Int) := by rw [wrap_id _ (by omega) (by omega)]; omega
    simp only [abutmentlaw09_FieldBack.l0]
    rw [if_pos (by omega), if_pos (by omega), if_pos (by omega), rd_nat l i hl, refGoes_f]
    simp only [Option.bind_some]
    cases hg : goesB (l[i]'hl) with
    | true =>
      rw [if_pos rfl, field_lives k (by omega)]
      rfl
    | false =>
      rw [if_neg (by simp), hw]
      refine ih (i + 1) k (by omega) (by omega) (by omega) (fun x hx => ?_)
      rw [← List.take_append_getElem hl] at hx
      rcases List.mem_append.1 hx with hx | hx
      · exact h x hx
      · simp at hx; subst hx; exact hg
theorem back_j2 (l : List ByteArray) (hf : l.length ≤ 40 ∧ ∀ x ∈ l, x.size ≤ 300) (k : Nat) (hk : 1100 < k) : abutmentlaw09_FieldBack.j2 k l false = some true := by
  obtain ⟨k, rfl⟩ : ∃ m, k = m + 1 := ⟨k - 1, by omega⟩
  simp only [abutmentlaw09_FieldBack.j2]
  rw [if_neg (by simp)]
  exact back_l0 l hf l.length 0 k (by omega) (by omega) (by omega) (by simp)
theorem fieldParse_size (s : ByteArray) : (fieldParse s).1.size ≤ s.size ∧ (fieldParse s).2.1.size ≤ s.size := by
  have hz : (⟨#[]⟩ : ByteArray).size = 0 := rfl
  have h := cutAt_size s 58
  have ht := trimB_le (cutAt s 58).2.1
  unfold fieldParse
  by_cases h1 : (cutAt s 58).2.2 = true
  · rw [if_pos h1]
    by_cases h2 : octetToken (cutAt s 58).1 = true
    · rw [if_pos h2]
      by_cases h3 : octetValue (cutAt s 58).2.1 = true
      · rw [if_pos h3]; exact ⟨h.1, by show (trimB _).size ≤ _; omega⟩
      · rw [if_neg h3]; exact ⟨by simp only [hz]; omega, by simp only [hz]; omega⟩
    · rw [if_neg h2]; exact ⟨by simp only [hz]; omega, by simp only [hz]; omega⟩
  · rw [if_neg h1]; exact ⟨by simp only [hz]; omega, by simp only [hz]; omega⟩
theorem back_j1 (s : ByteArray) (hs : s.size ≤ 1000) (l : List ByteArray) (hf : l.length ≤ 40 ∧ ∀ x ∈ l, x.size ≤ 300) (k : Nat) (hk : 9000 < k) : abutmentlaw09_FieldBack.j1 k s l false = some true := by
  obtain ⟨k, rfl⟩ : ∃ m, k = m + 1 := ⟨k - 1, by omega⟩
  simp only [abutmentlaw09_FieldBack.j1]
  rw [if_neg (by simp), field_parse s (by omega) k (by omega)]
  simp only [Option.bind_some]
  obtain ⟨h1, h2⟩ := parse_right s
  have hz := fieldParse_size s
  by_cases he : (fieldParse s).2.2 = 0
  · rw [if_pos he, field_right _ _ (by omega) (by omega) k (by omega), h1 he]
    simp only [Option.bind_some, if_true]
    exact back_j2 l hf k (by omega)
  · rw [if_neg he, (h2 he).1, (h2 he).2]
    have : (!((⟨#[]⟩ : ByteArray).toList == ([] : List UInt8)) || (!((⟨#[]⟩ : ByteArray).toList == ([] : List UInt8)))) = false := by decide +kernel
    rw [this]
    exact back_j2 l hf k (by omega)
theorem back_j0 (s : ByteArray) (hs : s.size ≤ 1000) (l : List ByteArray) (a b : ByteArray) (x : Bool) (h : x = false → (l.length ≤ 40 ∧ ∀ y ∈ l, y.size ≤ 300) ∧ a.size ≤ 300 ∧ b.size ≤ 1000) (k : Nat) (hk : 10000 < k) : abutmentlaw09_FieldBack.j0 k s l x a b = some true := by
  obtain ⟨k, rfl⟩ : ∃ m, k = m + 1 := ⟨k - 1, by omega⟩
  simp only [abutmentlaw09_FieldBack.j0]
  cases x with
  | true =>
    rw [if_pos rfl, field_lives k (by omega)]
    rfl
  | false =>
    obtain ⟨hf, ha, hb⟩ := h rfl
    rw [if_neg (by simp), field_line a b (by omega) (by omega)]
    simp only [Option.bind_some]
    have hL : (refLine a b).size ≤ 1310 := by
      rw [refLine_list, size_mk]
      have h1 := size_list a
      have h2 := size_list b
      split <;> simp <;> omega
    rw [field_parse _ (by omega) k (by omega)]
    simp only [Option.bind_some]
    rw [field_right a b (by omega) (by omega) k (by omega)]
    simp only [Option.bind_some]
    cases hr : fieldRight a b with
    | true =>
      rw [if_pos rfl, line_back a b hr]
      simp only [beq_self_eq_true, Bool.not_true, Bool.or_self, Bool.false_eq_true, if_false]
      exact back_j1 s hs l hf k (by omega)
    | false =>
      rw [if_neg (by simp)]
      exact back_j1 s hs l hf k (by omega)
theorem FieldBack {p q r : Prop} (x : S23) (a1 : ByteArray) (l2 : List ByteArray) (_h0 : p) (_h1 : a1.size ≤ 140737488351232) (_h2 : q) (_h3 : r) : ∃ k, abutmentlaw09_FieldBack.f k x.f0 x.f1 a1 l2 = some true := by
  refine ⟨20000, ?_⟩
  have m0 : 0 ≤ mn (a1.size : Int) 1000 ∧ mn (a1.size : Int) 1000 ≤ a1.size ∧ mn (a1.size : Int) 1000 ≤ 1000 := by unfold mn; split <;> omega
  unfold abutmentlaw09_FieldBack.f
  rw [if_pos m0.1, if_pos m0.2.1]
  have s0 : (a1.extract 0 (mn (a1.size : Int) 1000).toNat).size ≤ 1000 := by rw [ByteArray.size_extract]; omega
  generalize a1.extract 0 (mn (a1.size : Int) 1000).toNat = s at s0 ⊢
  rw [few_f l2 20000 (by omega)]
  simp only [Option.bind_some]
  cases hf : fewB l2 with
  | false =>
    rw [if_neg (by simp)]
    exact back_j0 s s0 l2 _ _ true (fun h => by cases h) _ (by omega)
  | true =>
    rw [if_pos rfl]
    have hf2 : l2.length ≤ 40 ∧ ∀ y ∈ l2, y.size ≤ 300 := by unfold fewB at hf; exact of_decide_eq_true hf
    by_cases h1 : (x.f0.size : Int) > 300
    · rw [if_pos h1]
      exact back_j0 s s0 l2 _ _ true (fun h => by cases h) _ (by omega)
    · rw [if_neg h1]
      refine back_j0 s s0 l2 _ _ _ (fun h => ⟨hf2, by omega, ?_⟩) _ (by omega)
      have := of_decide_eq_false h
      omega
end Go.Proofs.YtkjkbenmoogdjaaDoor.Pure
