/- Part 5 of the texts behind the claim on HopLeaves: contracts of the functions that it reaches, and plain laws about them. No conditions of its own. -/
import Derived.Test.YtkjkbenmoogdjaaCHopLeaves1
import Derived.Test.YtkjkbenmoogdjaaCHopLeaves2
import Derived.Test.YtkjkbenmoogdjaaCHopLeaves4
import Derived.Test.YtkjkbenmoogdjaaCHopLeaves3
namespace Go.Proofs.Ytkjkbenmoogdjaa.X
open Go.RowKit Go.Proofs.YtkjkbenmoogdjaaW.PrintWords Go.Proofs.YtkjkbenmoogdjaaW.PrintLast Go.Proofs.YtkjkbenmoogdjaaW.PrintMore
attribute [local go_sem] max2_int min2_int max_two min_two max_three min_three max_four min_four   -- for this text's walks alone
set_option linter.unusedVariables false
set_option linter.unusedSimpArgs false

/-! ### pure text 32: hop -/
theorem lowU_idem (c : UInt8) : lowU (lowU c) = lowU c := by
  have h : ∀ n : Fin 256, lowU (lowU (UInt8.ofNat n.val)) = lowU (UInt8.ofNat n.val) := by decide +kernel
  have := h ⟨c.toNat, c.toNat_lt⟩
  simpa using this
theorem lowL_idem (l : List UInt8) : lowL (lowL l) = lowL l := by
  unfold lowL
  rw [List.map_map]
  apply List.map_congr_left
  intro c _
  exact lowU_idem c
theorem lowB_data (y : ByteArray) : (lowB y).data.toList = lowL y.data.toList := by unfold lowB; simp
theorem lowB_size (y : ByteArray) : (lowB y).size = y.size := by
  rw [size_list, size_list, lowB_data]
  unfold lowL
  simp
/-- A text in small letters is a name, whatever the letters, just where it is the name in small letters. -/
theorem fold_low (n y : ByteArray) (t : List UInt8) (ht : lowL n.data.toList = t) : foldB n (lowB y) = decide ((lowB y).toList = t) := by
  unfold foldB
  rw [lowB_data, lowL_idem, Lib.toList_data, lowB_data, ht, Bool.eq_iff_iff, beq_iff_eq, decide_eq_true_iff]
  exact ⟨fun h => h.symm, fun h => h.symm⟩
theorem stays_low (y : ByteArray) : stays (lowB y) = (decide ((lowB y).toList = ([104, 111, 115, 116] : List UInt8)) || (decide ((lowB y).toList = ([99, 111, 110, 116, 101, 110, 116, 45, 108, 101, 110, 103, 116, 104] : List UInt8)) || decide ((lowB y).toList = ([118, 105, 97] : List UInt8)))) := by
  unfold stays heldL
  simp only [List.any_cons, List.any_nil, Bool.or_false]
  rw [fold_low _ y _ (show _ = ([104, 111, 115, 116] : List UInt8) from by decide), fold_low _ y _ (show _ = ([99, 111, 110, 116, 101, 110, 116, 45, 108, 101, 110, 103, 116, 104] : List UInt8) from by decide), fold_low _ y _ (show _ = ([118, 105, 97] : List UInt8) from by decide)]
theorem refnames_l0 (L : List ByteArray) (hL : L.length ≤ 2000000) (hlow : ∀ x ∈ L, ∃ y, x = lowB y) : ∀ (d i k : Nat), L.length - i = d → i ≤ L.length → d < k →
    abutmentref29_Names.l0 k (alwaysL ++ (L.take i).filter (fun w => !stays w)) L (i : Int) = some (alwaysL ++ L.filter (fun w => !stays w)) := by
  intro d
  induction d with
  | zero =>
    intro i k hd hi hk
    obtain ⟨k, rfl⟩ : ∃ m, k = m + 1 := ⟨k - 1, by omega⟩
    simp only [abutmentref29_Names.l0]
    rw [if_neg (by omega), List.take_of_length_le (by omega)]
  | succ d ih =>
    intro i k hd hi hk
    obtain ⟨k, rfl⟩ : ∃ m, k = m + 1 := ⟨k - 1, by omega⟩
    have hlt : i < L.length := by omega
    have hw : wrap64 ((i : Int) + 1) = ((i + 1 : Nat) : Int) := by rw [wrap_id _ (by omega) (by omega)]; omega
    have hnext := ih (i + 1) k (by omega) (by omega) (by omega)
    rw [← List.take_append_getElem hlt, List.filter_append, ← List.append_assoc] at hnext
    have hfl : ((L.take i).filter fun w => !stays w).length ≤ i := Nat.le_trans (List.length_filter_le _ _) (by simp; omega)
    obtain ⟨y, hy⟩ := hlow _ (List.getElem_mem hlt)
    have hst := stays_low y
    rw [← hy] at hst
    simp only [abutmentref29_Names.l0]
    rw [if_pos (by omega), if_pos (by omega), rd_nat L i hlt, hw]
    by_cases h1 : (L[i]'hlt).toList = ([104, 111, 115, 116] : List UInt8)
    · rw [if_pos h1]
      rw [decide_eq_true h1, Bool.true_or] at hst
      simpa [hst] using hnext
    · rw [if_neg h1]
      rw [decide_eq_false h1, Bool.false_or] at hst
      by_cases h2 : (L[i]'hlt).toList = ([99, 111, 110, 116, 101, 110, 116, 45, 108, 101, 110, 103, 116, 104] : List UInt8)
      · rw [if_pos h2]
        rw [decide_eq_true h2, Bool.true_or] at hst
        simpa [hst] using hnext
      · rw [if_neg h2]
        rw [decide_eq_false h2, Bool.false_or] at hst
        by_cases h3 : (L[i]'hlt).toList = ([118, 105, 97] : List UInt8)
        · rw [if_pos h3]
          rw [decide_eq_true h3] at hst
          simpa [hst] using hnext
        · rw [if_neg h3, if_pos (by rw [List.length_append]; show 7 + _ < _; omega)]
          rw [decide_eq_false h3] at hst
          simpa [hst] using hnext
theorem ref_names (l : List S23) (hl : OkF l) (hl2 : l.length ≤ 500) (k : Nat) (hk : 4000000 < k) : abutmentref29_Names.f k l = some (namesB l) := by
  have hc := comb_size l hl connName
  have hlen := wordsB_len l
  unfold abutmentref29_Names.f
  rw [ref_words l hl hl2 k hk]
  simp only [Option.bind_some]
  have := refnames_l0 (wordsB l).1 (by omega) (fun x hx => by obtain ⟨y, h, _⟩ := words_low l x hx; exact ⟨y, h⟩) (wordsB l).1.length 0 k (by omega) (by omega) (by omega)
  rw [List.take_zero, List.filter_nil, List.append_nil] at this
  exact this
theorem hop_names (l : List S23) (hl : OkF l) (hl2 : l.length ≤ 500) : hop_Names.f l = some (namesB l) := by
  have hc := comb_size l hl connName
  unfold hop_Names.f
  rw [if_pos ⟨by omega, by omega⟩]
theorem names_size (l : List S23) (hl : OkF l) (hl2 : l.length ≤ 500) : (namesB l).length ≤ 600000 ∧ (namesB l) ≠ [] ∧ ∀ x ∈ namesB l, x.size ≤ 600000 := by
  have hc := comb_size l hl connName
  have hlen := wordsB_len l
  unfold namesB moreB
  refine ⟨?_, by unfold alwaysL; simp, fun x hx => ?_⟩
  · rw [List.length_append]
    have : ((wordsB l).1.filter fun w => !stays w).length ≤ (wordsB l).1.length := List.length_filter_le _ _
    show 7 + _ ≤ _
    omega
  · rcases List.mem_append.1 hx with h | h
    · have : ∀ y ∈ alwaysL, y.size ≤ 600000 := by decide
      exact this x h
    · obtain ⟨y, rfl, hy⟩ := words_low l x (List.mem_filter.1 h).1
      rw [lowB_size]
      omega
/-- P29.1. -/
def stripB (l : List S23) : List S23 := withoutB l (namesB l)
theorem hop_strip (l : List S23) (hl : OkF l) (hl2 : l.length ≤ 500) : hop_Strip.f l = some (stripB l) := by
  obtain ⟨h1, h2, h3⟩ := names_size l hl hl2
  unfold hop_Strip.f
  rw [hop_names l hl hl2]
  simp only [Option.bind_some]
  rw [show header_Without.f l (namesB l) = some (withoutB l (namesB l)) from by
    unfold header_Without.f
    rw [if_pos ⟨by omega, by omega, h2, fun x hx => by have := h3 x hx; omega⟩]]
  rfl
theorem anyfold_take (L : List ByteArray) (n : ByteArray) (i : Nat) (h : i < L.length) : (L.take (i + 1)).any (fun x => foldB n x) = ((L.take i).any (fun x => foldB n x) || foldB n (L[i]'h)) := by
  rw [← List.take_append_getElem h, List.any_append]
  simp
theorem refwithout_l1 (l : List S23) (hl : OkF l) (L : List ByteArray) (hL : L.length ≤ 600000) (hsz : ∀ x ∈ L, x.size ≤ 600000) (acc : List S23) (j : Nat) (hj : j < l.length) (hacc : acc.length ≤ 1000) (R : Option (List S23)) :
    ∀ (d i k : Nat), L.length - i = d → i ≤ L.length → d + 700000 < k →
    (∀ k', k ≤ k' + d + 1 → k' < k → abutmentref10_Without.l0 k' l L (if L.any (fun x => foldB (l[j]'hj).f0 x) = true then acc else acc ++ [l[j]'hj]) (wrap64 ((j : Int) + 1)) = R) →
    abutmentref10_Without.l1 k l L acc (j : Int) ((L.take i).any (fun x => foldB (l[j]'hj).f0 x)) (i : Int) = R := by
  intro d
  have hsj := (hl.2 _ (List.getElem_mem hj)).1
  induction d with
  | zero =>
    intro i k hd hi hk hR
    obtain ⟨k, rfl⟩ : ∃ m, k = m + 1 := ⟨k - 1, by omega⟩
    have h0 := hR k (by omega) (by omega)
    simp only [abutmentref10_Without.l1]
    rw [if_neg (by omega), List.take_of_length_le (by omega)]
    by_cases h : L.any (fun x => foldB (l[j]'hj).f0 x) = true
    · rw [if_pos h] at h0 ⊢
      exact h0
    · rw [if_neg h] at h0 ⊢
      rw [if_pos (by omega), if_pos (by omega), if_pos (by omega), rd_fd l j hj]
      exact h0
  | succ d ih =>
    intro i k hd hi hk hR
    obtain ⟨k, rfl⟩ : ∃ m, k = m + 1 := ⟨k - 1, by omega⟩
    have hlt : i < L.length := by omega
    have hw : wrap64 ((i : Int) + 1) = ((i + 1 : Nat) : Int) := by rw [wrap_id _ (by omega) (by omega)]; omega
    have hs := hsz _ (List.getElem_mem hlt)
    have hnext := ih (i + 1) k (by omega) (by omega) (by omega) (fun k' h1 h2 => hR k' (by omega) (by omega))
    rw [anyfold_take L _ i hlt] at hnext
    simp only [abutmentref10_Without.l1]
    rw [if_pos (by omega), hw]
    by_cases h : (L.take i).any (fun x => foldB (l[j]'hj).f0 x) = true
    · rw [if_pos h]
      rw [h, Bool.true_or] at hnext
      exact hnext
    · rw [if_neg h, if_pos (by omega), if_pos (by omega), if_pos (by omega), rd_fd l j hj, rd_nat L i hlt, ref_is _ _ (by omega) (by omega) k (by omega) (by omega)]
      simp only [Option.bind_some]
      rw [Bool.eq_false_iff.2 h, Bool.false_or] at hnext
      exact hnext
theorem any_comm (L : List ByteArray) (n : ByteArray) : L.any (fun x => foldB x n) = L.any (fun x => foldB n x) := by
  congr 1
  funext x
  exact foldB_comm x n
theorem withoutB_snoc (l : List S23) (L : List ByteArray) (i : Nat) (h : i < l.length) : withoutB (l.take (i + 1)) L = if L.any (fun x => foldB (l[i]'h).f0 x) = true then withoutB (l.take i) L else withoutB (l.take i) L ++ [l[i]'h] := by
  rw [← List.take_append_getElem h]
  unfold withoutB
  rw [List.filter_append, ← any_comm]
  by_cases hf : L.any (fun x => foldB x (l[i]'h).f0) = true
  · rw [if_pos hf]; simp only [List.filter_cons, hf]; simp
  · rw [if_neg hf]; simp only [List.filter_cons, hf]; simp
theorem refwithout_l0 (l : List S23) (hl : OkF l) (L : List ByteArray) (hL : L.length ≤ 600000) (hsz : ∀ x ∈ L, x.size ≤ 600000) : ∀ (d i k : Nat), l.length - i = d → i ≤ l.length → d * (L.length + 3) + 1400000 < k →
    abutmentref10_Without.l0 k l L (withoutB (l.take i) L) (i : Int) = some (withoutB l L) := by
  intro d
  have hll := hl.1
  induction d with
  | zero =>
    intro i k hd hi hk
    obtain ⟨k, rfl⟩ : ∃ m, k = m + 1 := ⟨k - 1, by omega⟩
    simp only [abutmentref10_Without.l0]
    rw [if_neg (by omega), List.take_of_length_le (by omega)]
  | succ d ih =>
    intro i k hd hi hk
    rw [Nat.succ_mul] at hk
    obtain ⟨k, rfl⟩ : ∃ m, k = m + 1 := ⟨k - 1, by omega⟩
    have hlt : i < l.length := by omega
    have hw : wrap64 ((i : Int) + 1) = ((i + 1 : Nat) : Int) := by rw [wrap_id _ (by omega) (by omega)]; omega
    have hacc : (withoutB (l.take i) L).length ≤ i := Nat.le_trans (List.length_filter_le _ _) (by simp; omega)
    simp only [abutmentref10_Without.l0]
    rw [if_pos (by omega)]
    have := refwithout_l1 l hl L hL hsz (withoutB (l.take i) L) i hlt (by omega) (some (withoutB l L)) L.length 0 k (by omega) (by omega) (by omega) (fun k' h1 h2 => by
      rw [hw, ← withoutB_snoc l L i hlt]
      exact ih (i + 1) k' (by omega) (by omega) (by omega))
    simpa using this
theorem ref_without (l : List S23) (hl : OkF l) (L : List ByteArray) (hL : L.length ≤ 600000) (hsz : ∀ x ∈ L, x.size ≤ 600000) (k : Nat) (hk : 700000000 < k) : abutmentref10_Without.f k l L = some (withoutB l L) := by
  have hll := hl.1
  have h1 : l.length * (L.length + 3) ≤ 1000 * 600003 := Nat.mul_le_mul (by omega) (by omega)
  exact refwithout_l0 l hl L hL hsz l.length 0 k (by omega) (by omega) (by omega)
theorem ref_strip (l : List S23) (hl : OkF l) (hl2 : l.length ≤ 500) (k : Nat) (hk : 700000000 < k) : abutmentref29_Strip.f k l = some (stripB l) := by
  obtain ⟨h1, h2, h3⟩ := names_size l hl hl2
  unfold abutmentref29_Strip.f
  rw [ref_names l hl hl2 k (by omega)]
  simp only [Option.bind_some]
  rw [ref_without l hl (namesB l) h1 h3 k hk]
  rfl
theorem hop_lives : abutmentlaw29_lives.f = some true := by
  unfold abutmentlaw29_lives.f
  rw [hop_strip _ ⟨by decide, by decide⟩ (by decide)]
  kernel_rfl


end Go.Proofs.Ytkjkbenmoogdjaa.X
namespace Go.Proofs.Ytkjkbenmoogdjaa.X
open Go.RowKit Go.Proofs.YtkjkbenmoogdjaaW.PrintWords Go.Proofs.YtkjkbenmoogdjaaW.PrintLast Go.Proofs.YtkjkbenmoogdjaaW.PrintMore
attribute [local go_sem] max2_int min2_int max_two min_two max_three min_three max_four min_four   -- for this text's walks alone
set_option linter.unusedVariables false
set_option linter.unusedSimpArgs false

/-! ### pure text 33: leaves -/
theorem fold_iff (a b : ByteArray) : foldB a b = true ↔ lowL a.data.toList = lowL b.data.toList := by unfold foldB; rw [beq_iff_eq]
theorem conn_has (l : List S23) (hl : OkF l) (hl2 : l.length ≤ 500) (x : ByteArray) (hx : x.size ≤ 1000000000) (k : Nat) (hk : 600000 < k) : connection_Has.f k l x = some (inL (wordsB l).1 (lowB x)) := by
  have hc := comb_size l hl connName
  have hlen := wordsB_len l
  unfold connection_Has.f
  rw [conn_words l hl hl2]
  simp only [Option.bind_some]
  rw [show octet_Lower.f x = some (lowB x) from by unfold octet_Lower.f; rw [if_pos hx]]
  simp only [Option.bind_some]
  rw [contains_f _ _ (by omega) k (by omega)]
  rfl
/-- Is a name none of those that are taken out? -/
def keepsN (N : List ByteArray) (x : ByteArray) : Bool := !N.any fun n => foldB n x
theorem withoutB_keeps (l : List S23) (N : List ByteArray) : withoutB l N = l.filter (fun f => keepsN N f.f0) := rfl
theorem keepsN_fold (N : List ByteArray) (x y : ByteArray) (h : foldB x y = true) : keepsN N x = keepsN N y := by
  unfold keepsN
  have e : (fun n => foldB n x) = (fun n => foldB n y) := by
    funext n
    rw [fold_iff] at h
    unfold foldB
    rw [h]
  rw [e]
theorem keepsN_not (N : List ByteArray) (x n : ByteArray) (h : keepsN N x = true) (hn : n ∈ N) : foldB n x = false := by
  unfold keepsN at h
  cases hf : foldB n x with
  | false => rfl
  | true =>
    have : N.any (fun n => foldB n x) = true := List.any_eq_true.2 ⟨n, hn, hf⟩
    rw [this] at h
    cases h
theorem count_f (s : List S23) (x : ByteArray) (hs : s.length ≤ 1000000) (hx : x.size ≤ 1000000) : header_Count.f s x = some ((allB s x).length : Int) := by
  unfold header_Count.f
  rw [show header_All.f s x = some (allB s x) from by unfold header_All.f; rw [if_pos ⟨hs, by omega⟩]]
  rfl
theorem ok_filter {l : List S23} (hl : OkF l) (q : S23 → Bool) : OkF (l.filter q) :=
  ⟨Nat.le_trans (List.length_filter_le _ _) hl.1, fun f hf => hl.2 f (List.mem_filter.1 hf).1⟩
/-- Without a Connection field no word is said. -/
theorem words_none (s : List S23) (h : ∀ f ∈ s, foldB connName f.f0 = false) : wordsB s = ([], 0) := by
  have e : allB s connName = [] := by
    unfold allB
    rw [List.filter_eq_nil_iff.2 (fun f hf => by rw [h f hf]; simp)]
    rfl
  unfold wordsB combB
  rw [e]
  decide +kernel
theorem strip_conn (l : List S23) : ∀ f ∈ stripB l, ∀ n ∈ alwaysL, foldB n f.f0 = false := by
  intro f hf n hn
  have hk := (List.mem_filter.1 hf).2
  exact keepsN_not (namesB l) f.f0 n hk (by unfold namesB; exact List.mem_append_left _ hn)
theorem strip_strip (l : List S23) : stripB (stripB l) = stripB l := by
  have hw := words_none (stripB l) (fun f hf => strip_conn l f hf connName (List.getElem_mem (l := alwaysL) (n := 0) (by decide)))
  have hn : namesB (stripB l) = alwaysL := by
    unfold namesB moreB
    rw [hw]
    simp
  show withoutB (stripB l) (namesB (stripB l)) = stripB l
  rw [hn]
  unfold withoutB
  rw [List.filter_eq_self]
  intro f hf
  have : alwaysL.any (fun n => foldB n f.f0) = false := by
    rw [List.any_eq_false]
    intro n hn2
    rw [strip_conn l f hf n hn2]
    simp
  rw [this]
  rfl
theorem lowL_te : lowL (⟨#[116, 101]⟩ : ByteArray).data.toList = lowL (⟨#[84, 69]⟩ : ByteArray).data.toList := by decide
theorem strip_te (l : List S23) (f : S23) (hf : f ∈ stripB l) : foldB f.f0 ⟨#[116, 101]⟩ = false := by
  have h := strip_conn l f hf (⟨#[84, 69]⟩ : ByteArray) (List.getElem_mem (l := alwaysL) (n := 3) (by decide))
  cases hq : foldB f.f0 ⟨#[116, 101]⟩ with
  | false => rfl
  | true =>
    rw [fold_iff, lowL_te] at hq
    rw [(fold_iff _ _).2 hq.symm] at h
    cases h
theorem lowL_up : lowL (⟨#[117, 112, 103, 114, 97, 100, 101]⟩ : ByteArray).data.toList = lowL (⟨#[85, 112, 103, 114, 97, 100, 101]⟩ : ByteArray).data.toList := by decide
theorem strip_up (l : List S23) (f : S23) (hf : f ∈ stripB l) : foldB f.f0 ⟨#[117, 112, 103, 114, 97, 100, 101]⟩ = false := by
  have h := strip_conn l f hf (⟨#[85, 112, 103, 114, 97, 100, 101]⟩ : ByteArray) (List.getElem_mem (l := alwaysL) (n := 6) (by decide))
  cases hq : foldB f.f0 ⟨#[117, 112, 103, 114, 97, 100, 101]⟩ with
  | false => rfl
  | true =>
    rw [fold_iff, lowL_up] at hq
    rw [(fold_iff _ _).2 hq.symm] at h
    cases h
theorem fold_lowB (n x : ByteArray) : foldB n (lowB x) = foldB n x := by
  unfold foldB
  rw [lowB_data, lowL_idem]
theorem lowB_fold (x y : ByteArray) : foldB (lowB x) y = foldB x y := by
  rw [foldB_comm, fold_lowB, foldB_comm]
/-- What a Connection field names and is left may not be taken out. -/
theorem strip_may (l : List S23) (f : S23) (hf : f ∈ stripB l) (hh : inL (wordsB l).1 (lowB f.f0) = true) : stays f.f0 = true := by
  unfold inL at hh
  obtain ⟨y, hy, he⟩ := List.any_eq_true.1 hh
  rw [beq_iff_eq, toList_inj] at he
  rw [← he] at hy
  cases hs : stays (lowB f.f0) with
  | true =>
    unfold stays at hs ⊢
    obtain ⟨n, hn, h1⟩ := List.any_eq_true.1 hs
    rw [fold_lowB] at h1
    exact List.any_eq_true.2 ⟨n, hn, h1⟩
  | false =>
    have hm : lowB f.f0 ∈ namesB l := by
      unfold namesB moreB
      exact List.mem_append_right _ (List.mem_filter.2 ⟨hy, by rw [hs]; rfl⟩)
    have h := keepsN_not (namesB l) f.f0 (lowB f.f0) (List.mem_filter.1 hf).2 hm
    rw [lowB_fold, (fold_iff _ _).2 rfl] at h
    cases h
def hostName : ByteArray := ⟨#[72, 111, 115, 116]⟩
/-- A Host field is left. -/
theorem host_keeps (l : List S23) (x : ByteArray) (h : foldB hostName x = true) : keepsN (namesB l) x = true := by
  have hx := (fold_iff _ _).1 h
  unfold keepsN
  have : (namesB l).any (fun n => foldB n x) = false := by
    rw [List.any_eq_false]
    intro n hn hf
    have hf2 := (fold_iff _ _).1 hf
    rw [← hx] at hf2
    rcases List.mem_append.1 hn with h1 | h1
    · have : ∀ n ∈ alwaysL, lowL n.data.toList ≠ lowL hostName.data.toList := by decide
      exact this n h1 hf2
    · have h2 := (List.mem_filter.1 h1).2
      have h3 : stays n = true := by
        unfold stays
        exact List.any_eq_true.2 ⟨hostName, List.getElem_mem (l := heldL) (n := 0) (by decide), (fold_iff _ _).2 hf2.symm⟩
      rw [h3] at h2
      cases h2
  rw [this]
  rfl
theorem host_count (l : List S23) : allB (stripB l) hostName = allB l hostName := by
  unfold allB
  show ((l.filter fun f => keepsN (namesB l) f.f0).filter _).map _ = _
  rw [List.filter_filter]
  congr 1
  apply List.filter_congr
  intro f _
  cases h : foldB hostName f.f0 with
  | false => rfl
  | true => rw [host_keeps l f.f0 h]; rfl
theorem leaves_l1 (l : List S23) (hl : OkF l) (hl2 : l.length ≤ 500) : ∀ (d i k : Nat), (stripB l).length - i = d → i ≤ (stripB l).length → 2 * d + 700000 < k →
    abutmentlaw29_HopLeaves.l1 k l (stripB l) (stripB l) ((stripB l).length : Int) (i : Int) = some true := by
  have hos : OkF (stripB l) := ok_filter hl _
  have hsl : (stripB l).length ≤ l.length := List.length_filter_le _ _
  intro d
  induction d with
  | zero =>
    intro i k hd hi hk
    obtain ⟨k, rfl⟩ : ∃ m, k = m + 1 := ⟨k - 1, by omega⟩
    simp only [abutmentlaw29_HopLeaves.l1]
    rw [if_neg (by omega), show (⟨#[72, 111, 115, 116]⟩ : ByteArray) = hostName from rfl, count_f (stripB l) hostName (by omega) (by decide)]
    simp only [Option.bind_some]
    rw [count_f l hostName (by omega) (by decide), host_count]
    simp only [Option.bind_some]
    rw [if_pos trivial, hop_lives]
    rfl
  | succ d ih =>
    intro i k hd hi hk
    obtain ⟨k, rfl⟩ : ∃ m, k = m + 1 := ⟨k - 1, by omega⟩
    have hlt : i < (stripB l).length := by omega
    have hw : wrap64 ((i : Int) + 1) = ((i + 1 : Nat) : Int) := by rw [wrap_id _ (by omega) (by omega)]; omega
    have hmem : (stripB l)[i]'hlt ∈ stripB l := List.getElem_mem hlt
    have hsz := (hos.2 _ hmem).1
    have hte := strip_te l _ hmem
    have hup := strip_up l _ hmem
    have hmay := strip_may l _ hmem
    simp only [abutmentlaw29_HopLeaves.l1]
    rw [if_pos (by omega), if_pos (by omega), if_pos (by omega), rd_fd (stripB l) i hlt]
    generalize (stripB l)[i]'hlt = f at hsz hte hup hmay
    have hj4 : ∀ may, (inL (wordsB l).1 (lowB f.f0) = true → may = true) → abutmentlaw29_HopLeaves.j4 k l (stripB l) may (stripB l) ((stripB l).length : Int) (i : Int) f.f0 f.f1 = some true := by
      intro may hm
      obtain ⟨k, rfl⟩ : ∃ m, k = m + 1 := ⟨k - 1, by omega⟩
      have hnext := ih (i + 1) k (by omega) (by omega) (by omega)
      simp only [abutmentlaw29_HopLeaves.j4]
      rw [conn_has l hl hl2 f.f0 (by omega) k (by omega), octet_fold f.f0 _ (by omega) k (by omega), octet_fold f.f0 _ (by omega) k (by omega), hte, hup, hw]
      simp only [Option.bind_some]
      cases hh : inL (wordsB l).1 (lowB f.f0) with
      | true =>
        rw [hm hh]
        simpa using hnext
      | false => simpa using hnext
    rw [octet_fold f.f0 _ (by omega) k (by omega), octet_fold f.f0 _ (by omega) k (by omega), octet_fold f.f0 _ (by omega) k (by omega)]
    simp only [Option.bind_some]
    by_cases h1 : foldB f.f0 ⟨#[72, 111, 115, 116]⟩ = true
    · rw [if_pos h1]
      exact hj4 true (fun _ => rfl)
    · rw [if_neg h1]
      by_cases h2 : foldB f.f0 ⟨#[86, 105, 97]⟩ = true
      · rw [if_pos h2]
        exact hj4 true (fun _ => rfl)
      · rw [if_neg h2]
        refine hj4 _ (fun hh => ?_)
        have h3 := hmay hh
        unfold stays heldL at h3
        simp only [List.any_cons, List.any_nil, Bool.or_false, Bool.or_eq_true] at h3
        rw [foldB_comm] at h1 h2 ⊢
        rcases h3 with h3 | h3 | h3
        · exact absurd h3 h1
        · exact h3
        · exact absurd h3 h2
theorem filter_drop_snoc {α : Type} (q : α → Bool) (l : List α) (i : Nat) (h : i < l.length) : (l.take (i + 1)).filter q = (l.take i).filter q ++ (if q (l[i]'h) = true then [l[i]'h] else []) := by
  rw [← List.take_append_getElem h, List.filter_append]
  by_cases hq : q (l[i]'h) = true
  · rw [if_pos hq]; simp [hq]
  · rw [if_neg hq]; simp [hq]
theorem leaves_l0 (l : List S23) (hl : OkF l) (hl2 : l.length ≤ 500) : ∀ (d i k : Nat), l.length - i = d → i ≤ l.length → 2 * d + 800000 < k →
    abutmentlaw29_HopLeaves.l0 k l (stripB l) ((((l.take i).filter fun f => keepsN (namesB l) f.f0).length : Nat) : Int) l (l.length : Int) (i : Int) = some true := by
  have hos : OkF (stripB l) := ok_filter hl _
  have hsl : (stripB l).length ≤ l.length := List.length_filter_le _ _
  intro d
  induction d with
  | zero =>
    intro i k hd hi hk
    obtain ⟨k, rfl⟩ : ∃ m, k = m + 1 := ⟨k - 1, by omega⟩
    simp only [abutmentlaw29_HopLeaves.l0]
    rw [if_neg (by omega), List.take_of_length_le (by omega), if_pos (by rfl), hop_strip (stripB l) hos (by omega), strip_strip]
    simp only [Option.bind_some]
    rw [ref_same9 (stripB l) (by omega) k (by omega)]
    simp only [Option.bind_some, Bool.not_true]
    obtain ⟨k, rfl⟩ : ∃ m, k = m + 1 := ⟨k - 1, by omega⟩
    simp only [abutmentlaw29_HopLeaves.j2]
    rw [if_neg (by simp)]
    exact leaves_l1 l hl hl2 (stripB l).length 0 k (by omega) (by omega) (by omega)
  | succ d ih =>
    intro i k hd hi hk
    obtain ⟨k, rfl⟩ : ∃ m, k = m + 1 := ⟨k - 1, by omega⟩
    have hlt : i < l.length := by omega
    have hw : wrap64 ((i : Int) + 1) = ((i + 1 : Nat) : Int) := by rw [wrap_id _ (by omega) (by omega)]; omega
    have hsz := (hl.2 _ (List.getElem_mem hlt)).1
    have hsplit : stripB l = ((l.take i).filter fun f => keepsN (namesB l) f.f0) ++ ((l.drop i).filter fun f => keepsN (namesB l) f.f0) := by
      rw [← List.filter_append, List.take_append_drop]
      rfl
    have hkl : ((l.take i).filter fun f => keepsN (namesB l) f.f0).length ≤ i := Nat.le_trans (List.length_filter_le _ _) (by simp; omega)
    have hnext := ih (i + 1) (k - 1) (by omega) (by omega) (by omega)
    rw [filter_drop_snoc _ l i hlt, List.length_append] at hnext
    have hj1 : ∀ b, (b = true → keepsN (namesB l) (l[i]'hlt).f0 = true) → (keepsN (namesB l) (l[i]'hlt).f0 = true → b = true) →
        abutmentlaw29_HopLeaves.j1 k l (stripB l) ((((l.take i).filter fun f => keepsN (namesB l) f.f0).length : Nat) : Int) l (l.length : Int) (i : Int) b (l[i]'hlt).f0 (l[i]'hlt).f1 = some true := by
      intro b hb1 hb2
      obtain ⟨k, rfl⟩ : ∃ m, k = m + 1 := ⟨k - 1, by omega⟩
      simp only [abutmentlaw29_HopLeaves.j1]
      by_cases hb : b = true
      · have hq := hb1 hb
        have hw2 : wrap64 ((((l.take i).filter fun f => keepsN (namesB l) f.f0).length : Int) + 1) = ((((l.take i).filter fun f => keepsN (namesB l) f.f0).length + 1 : Nat) : Int) := by rw [wrap_id _ (by omega) (by omega)]; omega
        rw [if_pos hb, hw2, hw]
        rw [if_pos hq] at hnext
        exact hnext
      · have hq : ¬ keepsN (namesB l) (l[i]'hlt).f0 = true := fun h => hb (hb2 h)
        have hc : (allB (stripB l) (l[i]'hlt).f0) = [] := by
          unfold allB
          rw [List.filter_eq_nil_iff.2]
          · rfl
          · intro g hg hf
            have h1 := keepsN_fold (namesB l) _ _ hf
            have h2 : keepsN (namesB l) g.f0 = true := (List.mem_filter.1 hg).2
            rw [← h1] at h2
            exact hq h2
        rw [if_neg hb, count_f (stripB l) _ (by omega) (by omega), hc]
        simp only [Option.bind_some]
        rw [if_neg (by simp), hw]
        rw [if_neg hq] at hnext
        simpa using hnext
    simp only [abutmentlaw29_HopLeaves.l0]
    rw [if_pos (by omega), if_pos (by omega), if_pos (by omega), rd_fd l i hlt]
    by_cases hk2 : ((l.take i).filter fun f => keepsN (namesB l) f.f0).length < (stripB l).length
    · rw [if_pos (by omega), if_pos (by omega), rd_fd (stripB l) _ hk2]
      refine hj1 _ (fun hb => ?_) (fun hq => ?_)
      · rw [Bool.and_eq_true, beq_iff_eq, beq_iff_eq, toList_inj] at hb
        rw [hb.1]
        exact (List.mem_filter.1 (List.getElem_mem hk2)).2
      · have he : (stripB l)[((l.take i).filter fun f => keepsN (namesB l) f.f0).length]'hk2 = l[i]'hlt := by
          have h5 : (stripB l)[((l.take i).filter fun f => keepsN (namesB l) f.f0).length]? = some (l[i]'hlt) := by
            rw [hsplit, List.getElem?_append_right (Nat.le_refl _), Nat.sub_self, List.drop_eq_getElem_cons hlt, List.filter_cons, if_pos hq]
            rfl
          rw [List.getElem?_eq_getElem hk2] at h5
          exact Option.some.inj h5
        rw [he]
        simp
    · rw [if_neg (by omega)]
      refine hj1 false (fun hb => by cases hb) (fun hq => ?_)
      exfalso
      have h5 := congrArg List.length hsplit
      rw [List.length_append, List.drop_eq_getElem_cons hlt, List.filter_cons, if_pos hq, List.length_cons] at h5
      omega


end Go.Proofs.Ytkjkbenmoogdjaa.X
