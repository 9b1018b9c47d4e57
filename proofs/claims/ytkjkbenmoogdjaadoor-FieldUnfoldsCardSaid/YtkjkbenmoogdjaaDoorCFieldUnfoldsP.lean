/- For any fold and any lines: where the lines are few, field.Unfold and field.All answer as the reference's do; the document's examples are as it says. Conditions: none beyond the row's own. -/
import Derived.Test.YtkjkbenmoogdjaaDoorCFieldUnfolds2
import Derived.Test.YtkjkbenmoogdjaaDoorCFieldUnfolds3
namespace Go.Proofs.YtkjkbenmoogdjaaDoor.Pure
open Go.RowKit Go.Proofs.YtkjkbenmoogdjaaDoor.X Go.Proofs.YtkjkbenmoogdjaaDoorW.PrintWords Go.Proofs.YtkjkbenmoogdjaaDoorW.PrintLast Go.Proofs.YtkjkbenmoogdjaaDoorW.PrintMore
theorem unfFrom_size (fold : Int) : ∀ (l out : List ByteArray) (B : Nat), (∀ x ∈ out, x.size ≤ B) → (∀ x ∈ l, x.size ≤ 300) → (∀ x ∈ (unfFrom fold out l).1, x.size ≤ B + 301 * l.length) ∧ (unfFrom fold out l).1.length ≤ out.length + l.length := by
  intro l
  induction l with
  | nil => intro out B ho _; simp only [unfFrom]; exact ⟨fun x hx => by have := ho x hx; simpa using this, by simp⟩
  | cons y l ih =>
    intro out B ho hl
    have hy := hl y (by simp)
    simp only [unfFrom]
    by_cases hg : goesB y = true
    · rw [if_pos hg]
      by_cases h0 : fold = 0 ∨ out = []
      · rw [if_pos h0]; exact ⟨fun x hx => by simp at hx, by simp⟩
      · rw [if_neg h0]
        have hne : out ≠ [] := fun e => h0 (.inr e)
        have hlast : (out.getLastD ⟨#[]⟩).size ≤ B := by
          rcases List.eq_nil_or_concat out with h | ⟨pre, z, h⟩
          · exact absurd h hne
          · have h2 : out = pre ++ [z] := by simpa using h
            subst h2
            rw [show (pre ++ [z]).getLastD ⟨#[]⟩ = z from by simp]
            exact ho z (by simp)
        have hj := joinC_size (out.getLastD ⟨#[]⟩) y
        have h2 := ih (out.dropLast ++ [joinC (out.getLastD ⟨#[]⟩) y]) (B + 301) (fun x hx => by
          rcases List.mem_append.1 hx with hx | hx
          · have := ho x (List.dropLast_subset _ hx); omega
          · rw [List.mem_singleton] at hx; subst hx; omega) (fun x hx => hl x (by simp [hx]))
        have hol : 0 < out.length := List.length_pos_iff.2 hne
        refine ⟨fun x hx => ?_, ?_⟩
        · have := h2.1 x hx; simp only [List.length_cons]; omega
        · have := h2.2; simp only [List.length_append, List.length_dropLast, List.length_cons, List.length_nil] at this ⊢; omega
    · rw [if_neg hg]
      have h2 := ih (out ++ [y]) (B + 301) (fun x hx => by
        rcases List.mem_append.1 hx with hx | hx
        · have := ho x hx; omega
        · simp at hx; subst hx; omega) (fun x hx => hl x (by simp [hx]))
      refine ⟨fun x hx => ?_, ?_⟩
      · have := h2.1 x hx; simp only [List.length_cons]; omega
      · have := h2.2; simp only [List.length_append, List.length_cons, List.length_nil] at this ⊢; omega
/-- P9.3: the fields of lines, or what is wrong with the first that is none. -/
def parseAll : List ByteArray → List S23 → List S23 × Int
  | [], acc => (acc, 0)
  | x :: l, acc => if (fieldParse x).2.2 = 0 then parseAll l (acc ++ [⟨(fieldParse x).1, (fieldParse x).2.1⟩]) else ([], (fieldParse x).2.2)
theorem all_l0 (l : List ByteArray) (hl : l.length ≤ 1000) (hz : ∀ x ∈ l, x.size ≤ 13000) : ∀ (d i k : Nat) (acc : List S23), l.length - i = d → i ≤ l.length → acc.length = i → d + 40000 < k →
    field_All.l0 k (acc ++ List.replicate (l.length - i) z23) l (l.length : Int) (i : Int) = some (parseAll (l.drop i) acc) := by
  intro d
  induction d with
  | zero =>
    intro i k acc hd hi ha hk
    obtain ⟨k, rfl⟩ : ∃ m, k = m + 1 := ⟨k - 1, by omega⟩
    simp only [field_All.l0]
    rw [if_neg (by omega), hd, List.drop_eq_nil_iff.2 (by omega)]
    simp [parseAll]
  | succ d ih =>
    intro i k acc hd hi ha hk
    obtain ⟨k, rfl⟩ : ∃ m, k = m + 1 := ⟨k - 1, by omega⟩
    have hlt : i < l.length := by omega
    have hw : wrap64 ((i : Int) + 1) = ((i + 1 : Nat) : Int) := by rw [wrap_id _ (by omega) (by omega)]; omega
    have hx := hz (l[i]'hlt) (List.getElem_mem hlt)
    simp only [field_All.l0]
    rw [if_pos (by omega), if_pos (by omega), if_pos (by omega), rd_nat l i hlt, field_parse _ (by omega) k (by omega)]
    simp only [Option.bind_some]
    rw [if_pos (by simp; omega), List.drop_eq_getElem_cons hlt]
    simp only [parseAll]
    by_cases he : (fieldParse (l[i]'hlt)).2.2 = 0
    · rw [if_pos he, if_pos he, hw, Int.toNat_natCast, List.set_append_right _ _ (by omega), ha, Nat.sub_self, hd, List.replicate_succ, List.set_cons_zero]
      have := ih (i + 1) k (acc ++ [⟨(fieldParse (l[i]'hlt)).1, (fieldParse (l[i]'hlt)).2.1⟩]) (by omega) (by omega) (by simp [ha]) (by omega)
      rw [show l.length - (i + 1) = d from by omega, List.append_assoc, List.singleton_append] at this
      exact this
    · rw [if_neg he, if_neg he]
theorem refall_l0 (l : List ByteArray) (hl : l.length ≤ 1000) (hz : ∀ x ∈ l, x.size ≤ 13000) : ∀ (d i k : Nat) (acc : List S23), l.length - i = d → i ≤ l.length → acc.length = i → d + 40000 < k →
    abutmentref09_All.l0 k l 0 acc (i : Int) = some (parseAll (l.drop i) acc) := by
  intro d
  induction d with
  | zero =>
    intro i k acc hd hi ha hk
    obtain ⟨k, rfl⟩ : ∃ m, k = m + 1 := ⟨k - 1, by omega⟩
    simp only [abutmentref09_All.l0]
    rw [if_neg (by omega), List.drop_eq_nil_iff.2 (by omega)]
    rfl
  | succ d ih =>
    intro i k acc hd hi ha hk
    obtain ⟨k, rfl⟩ : ∃ m, k = m + 1 := ⟨k - 1, by omega⟩
    have hlt : i < l.length := by omega
    have hw : wrap64 ((i : Int) + 1) = ((i + 1 : Nat) : Int) := by rw [wrap_id _ (by omega) (by omega)]; omega
    have hx := hz (l[i]'hlt) (List.getElem_mem hlt)
    simp only [abutmentref09_All.l0]
    rw [if_pos (by omega), if_pos (by omega), rd_nat l i hlt, ref_parse _ (by omega) k (by omega)]
    simp only [Option.bind_some]
    rw [List.drop_eq_getElem_cons hlt]
    simp only [parseAll]
    by_cases he : (fieldParse (l[i]'hlt)).2.2 = 0
    · rw [if_pos he, if_pos he, if_pos (by omega), hw]
      exact ih (i + 1) k _ (by omega) (by omega) (by simp [ha]) (by omega)
    · rw [if_neg he, if_neg he]
theorem same09_l0 (x : List S23) (hs : x.length ≤ 1000000) : ∀ (d i k : Nat), x.length - i = d → i ≤ x.length → d < k → abutmentref09_Same.l0 k x x (i : Int) = some true := by
  intro d
  induction d with
  | zero =>
    intro i k hd hi hk
    obtain ⟨k, rfl⟩ : ∃ m, k = m + 1 := ⟨k - 1, by omega⟩
    simp only [abutmentref09_Same.l0]
    rw [if_neg (by omega)]
  | succ d ih =>
    intro i k hd hi hk
    obtain ⟨k, rfl⟩ : ∃ m, k = m + 1 := ⟨k - 1, by omega⟩
    have hw : wrap64 ((i : Int) + 1) = ((i + 1 : Nat) : Int) := by rw [wrap_id _ (by omega) (by omega)]; omega
    simp only [abutmentref09_Same.l0, beq_self_eq_true, Bool.not_true, Bool.or_self, Bool.false_eq_true, if_false]
    rw [if_pos (by omega), if_pos (by omega), if_pos (by omega), hw]
    exact ih (i + 1) k (by omega) (by omega) (by omega)
theorem parseAll_len : ∀ (l : List ByteArray) (acc : List S23), (parseAll l acc).1.length ≤ acc.length + l.length := by
  intro l
  induction l with
  | nil => intro acc; simp [parseAll]
  | cons x l ih =>
    intro acc
    simp only [parseAll]
    split
    · have := ih (acc ++ [⟨(fieldParse x).1, (fieldParse x).2.1⟩])
      simp at this ⊢
      omega
    · simp
theorem FieldUnfolds {p q r : Prop} (a0 : Int) (l1 : List ByteArray) (_h0 : p) (_h1 : q) (_h2 : r) : ∃ k, abutmentlaw09_FieldUnfolds.f k a0 l1 = some true := by
  refine ⟨60000, ?_⟩
  unfold abutmentlaw09_FieldUnfolds.f
  rw [few_f l1 _ (by omega)]
  simp only [Option.bind_some]
  cases hf : fewB l1 with
  | false =>
    rw [if_neg (by simp), field_lives _ (by omega)]
    rfl
  | true =>
    rw [if_pos rfl]
    have hf2 : l1.length ≤ 40 ∧ ∀ y ∈ l1, y.size ≤ 300 := by unfold fewB at hf; exact of_decide_eq_true hf
    obtain ⟨hz, hn⟩ := unfFrom_size a0 l1 [] 0 (by simp) hf2.2
    have hz2 : ∀ x ∈ (unfFrom a0 [] l1).1, x.size ≤ 13000 := fun x hx => by have := hz x hx; omega
    have hn2 : (unfFrom a0 [] l1).1.length ≤ 1000 := by simp at hn; omega
    have hU : field_Unfold.f a0 l1 = some (unfFrom a0 [] l1) := by unfold field_Unfold.f; rw [if_pos hf2]
    have hV : abutmentref09_Unfold.f a0 l1 = some (unfFrom a0 [] l1) := by unfold abutmentref09_Unfold.f; rw [if_pos hf2]
    have herr : (unfFrom a0 [] l1).2 ≠ 0 → (unfFrom a0 [] l1).1 = [] := by
      have : ∀ (l out : List ByteArray), (unfFrom a0 out l).2 ≠ 0 → (unfFrom a0 out l).1 = [] := by
        intro l
        induction l with
        | nil => intro out h; exact absurd rfl h
        | cons x l ih =>
          intro out h
          simp only [unfFrom] at h ⊢
          split at h
          · rename_i h1
            rw [if_pos h1]
            split at h
            · rename_i h2; rw [if_pos h2]
            · rename_i h2; rw [if_neg h2]; exact ih _ h
          · rename_i h1; rw [if_neg h1]; exact ih _ h
      exact this l1 []
    unfold field_All.f abutmentref09_All.f
    rw [hU, hV]
    simp only [Option.bind_some]
    generalize (unfFrom a0 [] l1).1 = u at hz2 hn2 herr ⊢
    generalize (unfFrom a0 [] l1).2 = e at herr ⊢
    have hall : (if e = 0 then (if 0 ≤ (u.length : Int) then (if ((u.length : Int) : Int).toNat ≤ 8796093022208 then (field_All.l0 60000 (List.replicate ((u.length : Int) : Int).toNat z23) u (u.length : Int) 0) else (none)) else (none)) else (some (([] : List S23), e))) = abutmentref09_All.l0 60000 u e ([] : List S23) 0 ∧ ∃ R : List S23 × Int, abutmentref09_All.l0 60000 u e ([] : List S23) 0 = some R ∧ R.1.length ≤ 1000 := by
      by_cases he : e = 0
      · subst he
        rw [if_pos rfl, if_pos (by omega), if_pos (by omega)]
        have h1 := all_l0 u hn2 hz2 u.length 0 60000 [] (by omega) (by omega) rfl (by omega)
        have h2 := refall_l0 u hn2 hz2 u.length 0 60000 [] (by omega) (by omega) rfl (by omega)
        simp only [List.nil_append, Nat.sub_zero, List.drop_zero] at h1 h2
        rw [Int.toNat_natCast]
        have h3 := parseAll_len u []
        refine ⟨h1.trans h2.symm, _, h2, by simp at h3; omega⟩
      · obtain rfl := herr he
        rw [if_neg he]
        have hgen : ∀ k, abutmentref09_All.l0 (k + 1) ([] : List ByteArray) e ([] : List S23) 0 = some ([], e) := by
          intro k
          simp only [abutmentref09_All.l0]
          rw [if_neg (by simp)]
        have := hgen 59999
        exact ⟨this.symm, _, this, by simp⟩
    obtain ⟨h1, R, h2, h3⟩ := hall
    rw [h1, h2]
    simp only [Option.bind_some]
    rw [ref_same u u (by omega) _ (by omega)]
    simp only [Option.bind_some, decide_true, if_true]
    have h4 : abutmentref09_Same.f 60000 R.1 R.1 = some true := by
      unfold abutmentref09_Same.f
      rw [if_pos rfl]
      exact same09_l0 R.1 (by omega) R.1.length 0 60000 (by omega) (by omega) (by omega)
    rw [h4]
    simp only [Option.bind_some, if_true]
    rw [field_lives _ (by omega)]
    rfl
end Go.Proofs.YtkjkbenmoogdjaaDoor.Pure
