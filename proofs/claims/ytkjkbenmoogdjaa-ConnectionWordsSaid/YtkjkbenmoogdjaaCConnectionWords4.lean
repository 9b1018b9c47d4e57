/- Part 4 of the texts behind the claim on ConnectionWords: contracts of the functions that it reaches, and plain laws about them. No conditions of its own. -/
import Derived.Test.YtkjkbenmoogdjaaCConnectionWords1
import Derived.Test.YtkjkbenmoogdjaaCConnectionWords2
import Derived.Test.YtkjkbenmoogdjaaCConnectionWords3
namespace Go.Proofs.Ytkjkbenmoogdjaa.X
open Go.RowKit Go.Proofs.YtkjkbenmoogdjaaW.PrintWords Go.Proofs.YtkjkbenmoogdjaaW.PrintLast Go.Proofs.YtkjkbenmoogdjaaW.PrintMore
attribute [local go_sem] max2_int min2_int max_two min_two max_three min_three max_four min_four   -- for this text's walks alone
set_option linter.unusedVariables false
set_option linter.unusedSimpArgs false

/-! ### pure text 31: words -/
theorem refwords_l0 (L : List ByteArray) (M : Nat) (hM : M ≤ 1000000) (hL : L.length ≤ 2000000) (hsz : ∀ x ∈ L, x.size ≤ M) : ∀ (d i k : Nat), L.length - i = d → i ≤ L.length → d + M + 1 < k →
    abutmentref17_Words.l0 k L ((L.take i).map lowB) (i : Int) = some (if (L.drop i).any (fun x => !octetToken x) = true then ([], 3) else (L.map lowB, 0)) := by
  intro d
  induction d with
  | zero =>
    intro i k hd hi hk
    obtain ⟨k, rfl⟩ : ∃ m, k = m + 1 := ⟨k - 1, by omega⟩
    simp only [abutmentref17_Words.l0]
    rw [if_neg (by omega), List.take_of_length_le (by omega), List.drop_eq_nil_iff.2 (by omega)]
    rfl
  | succ d ih =>
    intro i k hd hi hk
    obtain ⟨k, rfl⟩ : ∃ m, k = m + 1 := ⟨k - 1, by omega⟩
    have hlt : i < L.length := by omega
    have hw : wrap64 ((i : Int) + 1) = ((i + 1 : Nat) : Int) := by rw [wrap_id _ (by omega) (by omega)]; omega
    have hs := hsz _ (List.getElem_mem hlt)
    have hnext := ih (i + 1) k (by omega) (by omega) (by omega)
    rw [← List.take_append_getElem hlt, List.map_append] at hnext
    simp only [abutmentref17_Words.l0]
    rw [if_pos (by omega), if_pos (by omega), rd_nat L i hlt, ref_token _ (by omega) k (by omega), List.drop_eq_getElem_cons hlt, List.any_cons]
    simp only [Option.bind_some]
    by_cases ht : octetToken (L[i]'hlt) = true
    · rw [if_pos ht, ref_lower _ (by omega) k (by omega)]
      simp only [Option.bind_some]
      rw [if_pos (by simp; omega), hw, ht]
      exact hnext
    · rw [if_neg ht, if_pos (by simp [ht])]
theorem ref_words (l : List S23) (hl : OkF l) (hl2 : l.length ≤ 500) (k : Nat) (hk : 4000000 < k) : abutmentref17_Words.f k l = some (wordsB l) := by
  have hc := comb_size l hl connName
  unfold abutmentref17_Words.f
  rw [show (⟨#[67, 111, 110, 110, 101, 99, 116, 105, 111, 110]⟩ : ByteArray) = connName from rfl, ref_combined l hl connName (by decide) k (by omega)]
  simp only [Option.bind_some]
  rw [ref_split (combB l connName) (by omega) k (by omega)]
  simp only [Option.bind_some]
  unfold wordsB
  by_cases h : (splitB (combB l connName)).2 = true
  · rw [if_pos h, if_pos h]
    have hlen := splitB_len (combB l connName)
    have := refwords_l0 (splitB (combB l connName)).1 (combB l connName).size (by omega) (by omega) (splitB_size _) (splitB (combB l connName)).1.length 0 k (by omega) (by omega) (by omega)
    simpa using this
  · rw [if_neg h, if_neg h]
theorem conn_words (l : List S23) (hl : OkF l) (hl2 : l.length ≤ 500) : connection_Words.f l = some (wordsB l) := by
  have hc := comb_size l hl connName
  unfold connection_Words.f
  rw [if_pos ⟨by omega, by omega⟩]
/-- Each word is a token in small letters. -/
theorem words_low (l : List S23) : ∀ x ∈ (wordsB l).1, ∃ y, x = lowB y ∧ y.size ≤ (combB l connName).size := by
  intro x hx
  unfold wordsB at hx
  split at hx
  · split at hx
    · cases hx
    · obtain ⟨y, hy, rfl⟩ := List.mem_map.1 hx
      exact ⟨y, rfl, splitB_size _ y hy⟩
  · cases hx


end Go.Proofs.Ytkjkbenmoogdjaa.X
namespace Go.Proofs.Ytkjkbenmoogdjaa.X
open Go.RowKit Go.Proofs.YtkjkbenmoogdjaaW.PrintWords Go.Proofs.YtkjkbenmoogdjaaW.PrintLast Go.Proofs.YtkjkbenmoogdjaaW.PrintMore
attribute [local go_sem] max2_int min2_int max_two min_two max_three min_three max_four min_four   -- for this text's walks alone
set_option linter.unusedVariables false
set_option linter.unusedSimpArgs false

/-! ### pure text 34: conn -/
theorem lowB_size2 (y : ByteArray) : (lowB y).size = y.size := by
  unfold lowB lowL
  rw [size_mk, List.length_map, size_list]
theorem conn_has2 (l : List S23) (hl : OkF l) (hl2 : l.length ≤ 500) (x : ByteArray) (hx : x.size ≤ 1000000000) (k : Nat) (hk : 600000 < k) : connection_Has.f k l x = some (inL (wordsB l).1 (lowB x)) := by
  have hc := comb_size l hl connName
  have hlen := wordsB_len l
  unfold connection_Has.f
  rw [conn_words l hl hl2]
  simp only [Option.bind_some]
  rw [show octet_Lower.f x = some (lowB x) from by unfold octet_Lower.f; rw [if_pos hx]]
  simp only [Option.bind_some]
  rw [contains_f _ _ (by omega) k (by omega)]
  rfl
theorem conn_persists (minor : Int) (l : List S23) (hl : OkF l) (hl2 : l.length ≤ 500) : connection_Persists.f minor l = some (persistsB minor l) := by
  have hc := comb_size l hl connName
  unfold connection_Persists.f
  rw [if_pos ⟨by omega, by omega⟩]
theorem conn_alive (l : List S23) (hl : OkF l) (hl2 : l.length ≤ 500) : connection_Alive.f l = some (aliveB l) := by
  have hc := comb_size l hl keepAlive
  unfold connection_Alive.f
  rw [if_pos ⟨by omega, by omega⟩]
theorem refhas17_l0 (x : ByteArray) (hx : x.size ≤ 1000000000) (L : List ByteArray) (hL : L.length ≤ 2000000) : ∀ (d i k : Nat), L.length - i = d → i ≤ L.length → d + x.size + 1 < k →
    abutmentref17_Has.l0 k x L (i : Int) = some (inL (L.drop i) (lowB x)) := by
  intro d
  induction d with
  | zero =>
    intro i k hd hi hk
    obtain ⟨k, rfl⟩ : ∃ m, k = m + 1 := ⟨k - 1, by omega⟩
    simp only [abutmentref17_Has.l0]
    rw [if_neg (by omega), List.drop_eq_nil_iff.2 (by omega)]
    rfl
  | succ d ih =>
    intro i k hd hi hk
    obtain ⟨k, rfl⟩ : ∃ m, k = m + 1 := ⟨k - 1, by omega⟩
    have hlt : i < L.length := by omega
    have hw : wrap64 ((i : Int) + 1) = ((i + 1 : Nat) : Int) := by rw [wrap_id _ (by omega) (by omega)]; omega
    have hnext := ih (i + 1) k (by omega) (by omega) (by omega)
    simp only [abutmentref17_Has.l0]
    rw [if_pos (by omega), if_pos (by omega), ref_lower x hx k (by omega), rd_nat L i hlt, hw, List.drop_eq_getElem_cons hlt]
    simp only [Option.bind_some]
    unfold inL at hnext ⊢
    rw [List.any_cons]
    by_cases h : (L[i]'hlt).toList = (lowB x).toList
    · rw [if_pos h, beq_iff_eq.2 h.symm, Bool.true_or]
    · rw [if_neg h, beq_eq_false_iff_ne.2 (fun e => h e.symm), Bool.false_or]
      exact hnext
theorem ref_has17 (l : List S23) (hl : OkF l) (hl2 : l.length ≤ 500) (x : ByteArray) (hx : x.size ≤ 1000) (k : Nat) (hk : 4000000 < k) : abutmentref17_Has.f k l x = some (inL (wordsB l).1 (lowB x)) := by
  have hc := comb_size l hl connName
  have hlen := wordsB_len l
  unfold abutmentref17_Has.f
  rw [ref_words l hl hl2 k hk]
  simp only [Option.bind_some]
  have := refhas17_l0 x (by omega) (wordsB l).1 (by omega) (wordsB l).1.length 0 k (by omega) (by omega) (by omega)
  simpa using this
theorem low_close : lowB (⟨#[99, 108, 111, 115, 101]⟩ : ByteArray) = closeName := by kernel_rfl
theorem low_keep : lowB (⟨#[107, 101, 101, 112, 45, 97, 108, 105, 118, 101]⟩ : ByteArray) = keepName := by kernel_rfl
theorem ref_persists (minor : Int) (l : List S23) (hl : OkF l) (hl2 : l.length ≤ 500) (k : Nat) (hk : 4000000 < k) : abutmentref17_Persists.f k minor l = some (persistsB minor l) := by
  unfold abutmentref17_Persists.f
  rw [ref_words l hl hl2 k hk, ref_has17 l hl hl2 _ (by decide) k hk, ref_has17 l hl hl2 _ (by decide) k hk, low_close, low_keep]
  simp only [Option.bind_some]
  unfold persistsB
  by_cases h : (wordsB l).2 = 0
  · rw [if_pos h, beq_iff_eq.2 h]
    cases inL (wordsB l).1 closeName with
    | true => simp
    | false =>
      by_cases hm : minor > 0
      · rw [if_neg (by simp), if_pos hm, decide_eq_true hm]; simp
      · rw [if_neg (by simp), if_neg hm, decide_eq_false hm]; simp
  · rw [if_neg h, beq_eq_false_iff_ne.2 h]
    rfl
theorem lives17 : abutmentlaw17_lives.f = some true := rfl


end Go.Proofs.Ytkjkbenmoogdjaa.X
