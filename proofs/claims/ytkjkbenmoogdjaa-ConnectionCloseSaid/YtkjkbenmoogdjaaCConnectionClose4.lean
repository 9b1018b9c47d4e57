/- Part 4 of the texts behind the claim on ConnectionClose: contracts of the functions that it reaches, and plain laws about them. No conditions of its own. -/
import Derived.Test.YtkjkbenmoogdjaaCConnectionClose1
import Derived.Test.YtkjkbenmoogdjaaCConnectionClose3
import Derived.Lib.OthersKept
import Derived.Test.YtkjkbenmoogdjaaCConnectionClose2
namespace Go.Proofs.Ytkjkbenmoogdjaa.X
open Go.RowKit Go.Proofs.YtkjkbenmoogdjaaW.PrintWords Go.Proofs.YtkjkbenmoogdjaaW.PrintLast Go.Proofs.YtkjkbenmoogdjaaW.PrintMore
attribute [local go_sem] max2_int min2_int max_two min_two max_three min_three max_four min_four   -- for this text's walks alone
set_option linter.unusedVariables false
set_option linter.unusedSimpArgs false

/-! ### pure text 13: refSplit -/
theorem st_succ (s : ByteArray) (i : Nat) {q sl : Bool} {d : Int} (h : stAt s i = (q, sl, d)) : stAt s (i + 1) = seeS q sl d (bt s i) := by
  show seeS (stAt s i).1 (stAt s i).2.1 (stAt s i).2.2 (bt s i) = _
  rw [h]
theorem el_open (s : ByteArray) (i : Nat) (h : closedS (stAt s i) = false) : elemsAt s (i + 1) = elemsAt s i := by
  show (if bt s i = 44 ∧ closedS (stAt s i) = true then _ else _) = _
  rw [if_neg (by rw [h]; simp)]
theorem el_other (s : ByteArray) (i : Nat) (h : bt s i ≠ 44) : elemsAt s (i + 1) = elemsAt s i := by
  show (if bt s i = 44 ∧ closedS (stAt s i) = true then _ else _) = _
  rw [if_neg (fun e => h e.1)]
theorem open_d (d : Int) (sl : Bool) (h : 1 ≤ d) : closedS (false, sl, d) = false := by
  unfold closedS
  have : (d == 0) = false := beq_eq_false_iff_ne.2 (by omega)
  simp [this]
theorem open_q (sl : Bool) (d : Int) : closedS (true, sl, d) = false := rfl
theorem open_s (q : Bool) (d : Int) : closedS (q, true, d) = false := by cases q <;> rfl
/-- Where what is closed in ends: the scan is at rest there, and no comma between has parted anything. -/
def EndsAt (s : ByteArray) (i : Nat) (r : Int) : Prop :=
  (r = -1 ∧ closedS (stAt s s.size) = false) ∨ ∃ j : Nat, r = j ∧ i < j ∧ j ≤ s.size ∧ stAt s j = (false, false, 0) ∧ elemsAt s j = elemsAt s i
theorem EndsAt.from {s : ByteArray} {i i' : Nat} {r : Int} (h : EndsAt s i' r) (hi : i ≤ i') (he : elemsAt s i' = elemsAt s i) : EndsAt s i r := by
  rcases h with h | ⟨j, hr, hlt, hle, hst, hel⟩
  · exact .inl h
  · exact .inr ⟨j, hr, by omega, hle, hst, hel.trans he⟩
theorem behF_paren (s : ByteArray) (p : Nat) : ∀ (f i : Nat) (d : Int), s.size ≤ i + f → i ≤ s.size → 1 ≤ d → stAt s i = (false, false, d) → EndsAt s i (behF s p false f d i) := by
  intro f
  induction f using Nat.strongRecOn with
  | _ f ih =>
  intro i d hf hi hd hst
  by_cases hlt : i < s.size
  · obtain ⟨f, rfl⟩ : ∃ g, f = g + 1 := ⟨f - 1, by omega⟩
    have hcl : closedS (stAt s i) = false := by rw [hst]; exact open_d d false hd
    have he1 := el_open s i hcl
    simp only [behF]
    rw [if_pos hlt]
    by_cases e1 : bt s i = 92
    · rw [if_pos e1]
      have hst1 : stAt s (i + 1) = (false, true, d) := by
        rw [st_succ s i hst, e1]; unfold seeS; simp; omega
      by_cases hlt2 : i + 1 < s.size
      · have hst2 : stAt s (i + 2) = (false, false, d) := by
          rw [st_succ s (i + 1) hst1]; unfold seeS; simp
        have he2 : elemsAt s (i + 2) = elemsAt s i := (el_open s (i + 1) (by rw [hst1]; exact open_s _ _)).trans he1
        exact (ih f (by omega) (i + 2) d (by omega) (by omega) hd hst2).from (by omega) he2
      · rw [behF_end s p false f d (i + 2) (by omega)]
        refine .inl ⟨rfl, ?_⟩
        rw [show s.size = i + 1 by omega, hst1]
        exact open_s _ _
    · rw [if_neg e1]
      simp only [Bool.false_eq_true, if_false]
      by_cases e2 : bt s i = 40
      · rw [if_pos e2]
        have hst1 : stAt s (i + 1) = (false, false, d + 1) := by rw [st_succ s i hst, e2]; unfold seeS; simp
        exact (ih f (by omega) (i + 1) (d + 1) (by omega) (by omega) (by omega) hst1).from (by omega) he1
      · rw [if_neg e2]
        by_cases e3 : bt s i = 41
        · rw [if_pos e3]
          have hst1 : stAt s (i + 1) = (false, false, d - 1) := by rw [st_succ s i hst, e3]; unfold seeS; simp; omega
          by_cases e4 : d - 1 = 0
          · rw [if_pos e4]
            rw [e4] at hst1
            exact .inr ⟨i + 1, by omega, by omega, by omega, hst1, he1⟩
          · rw [if_neg e4]
            exact (ih f (by omega) (i + 1) (d - 1) (by omega) (by omega) (by omega) hst1).from (by omega) he1
        · rw [if_neg e3]
          have hst1 : stAt s (i + 1) = (false, false, d) := by
            rw [st_succ s i hst]; unfold seeS
            simp [e1, e2, e3]
            omega
          exact (ih f (by omega) (i + 1) d (by omega) (by omega) hd hst1).from (by omega) he1
  · rw [behF_end s p false f d i hlt]
    refine .inl ⟨rfl, ?_⟩
    rw [show s.size = i by omega, hst]
    exact open_d d false hd
theorem behF_quote (s : ByteArray) (p : Nat) : ∀ (f i : Nat), s.size ≤ i + f → p < i → i ≤ s.size → stAt s i = (true, false, 0) → EndsAt s i (behF s p true f 0 i) := by
  intro f
  induction f using Nat.strongRecOn with
  | _ f ih =>
  intro i hf hpi hi hst
  by_cases hlt : i < s.size
  · obtain ⟨f, rfl⟩ : ∃ g, f = g + 1 := ⟨f - 1, by omega⟩
    have hcl : closedS (stAt s i) = false := by rw [hst]; rfl
    have he1 := el_open s i hcl
    simp only [behF]
    rw [if_pos hlt]
    by_cases e1 : bt s i = 92
    · rw [if_pos e1]
      have hst1 : stAt s (i + 1) = (true, true, 0) := by
        rw [st_succ s i hst, e1]; unfold seeS; simp
      by_cases hlt2 : i + 1 < s.size
      · have hst2 : stAt s (i + 2) = (true, false, 0) := by
          rw [st_succ s (i + 1) hst1]; unfold seeS; simp
        have he2 : elemsAt s (i + 2) = elemsAt s i := (el_open s (i + 1) (by rw [hst1]; rfl)).trans he1
        exact (ih f (by omega) (i + 2) (by omega) (by omega) (by omega) hst2).from (by omega) he2
      · rw [behF_end s p true f 0 (i + 2) (by omega)]
        refine .inl ⟨rfl, ?_⟩
        rw [show s.size = i + 1 by omega, hst1]
        rfl
    · rw [if_neg e1]
      simp only [if_true]
      by_cases e2 : bt s i = 34
      · rw [if_pos ⟨hpi, e2⟩]
        have hst1 : stAt s (i + 1) = (false, false, 0) := by rw [st_succ s i hst, e2]; unfold seeS; simp
        exact .inr ⟨i + 1, by omega, by omega, by omega, hst1, he1⟩
      · rw [if_neg (fun h => e2 h.2)]
        have hst1 : stAt s (i + 1) = (true, false, 0) := by
          rw [st_succ s i hst]; unfold seeS
          simp [e1, e2]
        exact (ih f (by omega) (i + 1) (by omega) (by omega) (by omega) hst1).from (by omega) he1
  · rw [behF_end s p true f 0 i hlt]
    refine .inl ⟨rfl, ?_⟩
    rw [show s.size = i by omega, hst]
    rfl
theorem behind_ends (s : ByteArray) (p : Nat) (hp : p < s.size) (hst : stAt s p = (false, false, 0)) (hc : bt s p = 34 ∨ bt s p = 40) : EndsAt s p (behind s p) := by
  unfold behind
  obtain ⟨f, hf⟩ : ∃ g, s.size = g + 1 := ⟨s.size - 1, by omega⟩
  rcases hc with hc | hc
  · have hq : (bt s p == 34) = true := by rw [hc]; rfl
    rw [hq, hf]
    simp only [behF]
    rw [if_pos hp, if_neg (by omega), if_pos trivial, if_neg (by omega)]
    have hst1 : stAt s (p + 1) = (true, false, 0) := by rw [st_succ s p hst, hc]; rfl
    exact (behF_quote s p f (p + 1) (by omega) (by omega) (by omega) hst1).from (by omega) (el_other s p (by omega))
  · have hq : (bt s p == 34) = false := by rw [hc]; rfl
    rw [hq, hf]
    simp only [behF]
    rw [if_pos hp, if_neg (by omega), if_neg (by simp), if_pos hc]
    have hst1 : stAt s (p + 1) = (false, false, 1) := by rw [st_succ s p hst, hc]; rfl
    exact (behF_paren s p f (p + 1) 1 (by omega) (by omega) (by omega) hst1).from (by omega) (el_other s p (by omega))
theorem keptL_cons (x : ByteArray) (l : List ByteArray) : keptL (x :: l) = if full (trimB x) = true then trimB x :: keptL l else keptL l := by
  unfold keptL
  simp only [List.map_cons, List.filter_cons]
theorem refsplit_l1 (M : Nat) (hM : M ≤ 1000000) (L : List ByteArray) (hL : L.length ≤ 1000001) (hsz : ∀ x ∈ L, x.size ≤ M) : ∀ (d i k : Nat) (acc : List ByteArray), L.length - i = d → i ≤ L.length → acc.length ≤ i → d + 2 * M + 3 < k →
    abutmentref07_Split.l1 k L acc (i : Int) = some (acc ++ keptL (L.drop i), true) := by
  intro d
  induction d with
  | zero =>
    intro i k acc hd hi _ hk
    obtain ⟨k, rfl⟩ : ∃ m, k = m + 1 := ⟨k - 1, by omega⟩
    simp only [abutmentref07_Split.l1]
    rw [if_neg (by omega), List.drop_eq_nil_iff.2 (by omega)]
    simp [keptL]
  | succ d ih =>
    intro i k acc hd hi hacc hk
    obtain ⟨k, rfl⟩ : ∃ m, k = m + 1 := ⟨k - 1, by omega⟩
    have hl : i < L.length := by omega
    have hw : wrap64 ((i : Int) + 1) = ((i + 1 : Nat) : Int) := by rw [wrap_id _ (by omega) (by omega)]; omega
    have hx := hsz _ (List.getElem_mem hl)
    simp only [abutmentref07_Split.l1]
    rw [if_pos (by omega), if_pos (by omega), rd_nat L i hl, ref_trim _ (by omega) k (by omega)]
    simp only [Option.bind_some]
    rw [hw, List.drop_eq_getElem_cons hl]
    by_cases he : (trimB (L[i]'hl)).toList = []
    · rw [if_pos he, ih (i + 1) k acc (by omega) (by omega) (by omega) (by omega), keptL_cons, if_neg (by unfold full; rw [he]; simp)]
    · rw [if_neg he, if_pos (by omega), ih (i + 1) k _ (by omega) (by omega) (by simp; omega) (by omega), keptL_cons, if_pos (by unfold full; simpa using he)]
      simp
theorem refsplit_l0 (s : ByteArray) (hs : s.size ≤ 1000000) : ∀ (d i k : Nat), s.size - i = d → i ≤ s.size → stAt s i = (false, false, 0) → 2 * d + 3 * s.size + 8 < k →
    abutmentref07_Split.l0 k s (elemsAt s i).2 ((elemsAt s i).1 : Int) (i : Int) = some (splitB s) := by
  intro d
  induction d using Nat.strongRecOn with
  | _ d ih =>
  intro i k hd hi hst hk
  obtain ⟨k, rfl⟩ : ∃ m, k = m + 2 := ⟨k - 2, by omega⟩
  have hfr := elemsAt_le s i
  have hln := elemsAt_len_le s i
  by_cases hlt : i < s.size
  · have hcl : closedS (stAt s i) = true := by rw [hst]; rfl
    have hw : wrap64 ((i : Int) + 1) = ((i + 1 : Nat) : Int) := by rw [wrap_id _ (by omega) (by omega)]; omega
    have hj1 : ∀ b : Bool, (b = true ↔ (bt s i = 34 ∨ bt s i = 40)) → abutmentref07_Split.j1 (k + 1) s (elemsAt s i).2 ((elemsAt s i).1 : Int) (i : Int) b = some (splitB s) := by
      intro b hb
      simp only [abutmentref07_Split.j1]
      cases b
      · have hno : ¬ (bt s i = 34 ∨ bt s i = 40) := fun h => by have := hb.2 h; cases this
        simp only [Bool.false_eq_true, if_false]
        rw [if_pos (by omega), if_pos (by omega), hw]
        by_cases hc : bt s i = 44
        · rw [if_pos hc, if_pos (by omega), if_pos (by omega), if_pos (by omega), if_pos (by omega)]
          have he : elemsAt s (i + 1) = (i + 1, (elemsAt s i).2 ++ [s.extract (elemsAt s i).1 i]) := by
            show (if bt s i = 44 ∧ closedS (stAt s i) = true then _ else _) = _
            rw [if_pos ⟨hc, hcl⟩]
          have hst1 : stAt s (i + 1) = (false, false, 0) := by rw [st_succ s i hst, hc]; rfl
          have := ih (s.size - (i + 1)) (by omega) (i + 1) k rfl (by omega) hst1 (by omega)
          rw [he] at this
          simpa using this
        · rw [if_neg hc]
          have he := el_other s i hc
          have hst1 : stAt s (i + 1) = (false, false, 0) := by
            rw [st_succ s i hst]; unfold seeS
            have h1 : bt s i ≠ 34 := fun h => hno (.inl h)
            have h2 : bt s i ≠ 40 := fun h => hno (.inr h)
            simp [h1, h2]
          have := ih (s.size - (i + 1)) (by omega) (i + 1) k rfl (by omega) hst1 (by omega)
          rw [he] at this
          exact this
      · have hyes := hb.1 rfl
        simp only [if_true]
        rw [show abutmentref07_Behind.f s (i : Int) = some (behind s i) from by unfold abutmentref07_Behind.f; rw [if_pos ⟨by omega, by omega, by omega⟩]; rfl]
        simp only [Option.bind_some]
        rcases behind_ends s i hlt hst hyes with ⟨hr, hop⟩ | ⟨j, hr, hij, hj, hstj, hej⟩
        · rw [hr, if_pos (by omega)]
          unfold splitB
          rw [if_neg (by rw [hop]; simp)]
        · rw [hr, if_neg (by omega)]
          have := ih (s.size - j) (by omega) j k rfl hj hstj (by omega)
          rw [hej] at this
          exact this
    simp only [abutmentref07_Split.l0]
    rw [if_pos (by omega), if_pos (by omega)]
    by_cases h34 : bt s i = 34
    · rw [if_pos h34]
      exact hj1 true (by simp [h34])
    · rw [if_neg h34]
      apply hj1
      rw [beq_iff_eq]
      constructor
      · intro h; exact .inr h
      · rintro (h | h)
        · exact absurd h h34
        · exact h
  · obtain rfl : i = s.size := by omega
    simp only [abutmentref07_Split.l0]
    rw [if_neg (by omega), if_pos (by omega), if_pos (by omega), if_pos (by omega)]
    have hcl : closedS (stAt s s.size) = true := by rw [hst]; rfl
    have hlen := elems_len_le s
    have := refsplit_l1 s.size hs (elems s) (by omega) (elems_size s) (elems s).length 0 (k + 1) [] rfl (by omega) (by simp) (by omega)
    unfold splitB
    rw [if_pos hcl]
    simpa [elems] using this
theorem ref_split (s : ByteArray) (hs : s.size ≤ 1000000) (k : Nat) (hk : 5 * s.size + 8 < k) : abutmentref07_Split.f k s = some (splitB s) := by
  have := refsplit_l0 s hs s.size 0 k (by omega) (by omega) rfl (by omega)
  exact this


end Go.Proofs.Ytkjkbenmoogdjaa.X
namespace Go.Proofs.Ytkjkbenmoogdjaa.X
open Go.RowKit Go.Proofs.YtkjkbenmoogdjaaW.PrintWords Go.Proofs.YtkjkbenmoogdjaaW.PrintLast Go.Proofs.YtkjkbenmoogdjaaW.PrintMore
attribute [local go_sem] max2_int min2_int max_two min_two max_three min_three max_four min_four   -- for this text's walks alone
set_option linter.unusedVariables false
set_option linter.unusedSimpArgs false

/-! ### pure text 20: token -/
theorem get_list (s : ByteArray) (j : Nat) (h : j < s.data.toList.length) : s.get! j = s.data.toList[j]'h := by
  have h2 : j < s.data.size := by simpa using h
  show s.data[j]! = _
  rw [getElem!_pos s.data j h2]
  simp
theorem decode_cont (s : ByteArray) (i k : Nat) (h : (decide (i + k < s.size) && ((s.get! (i + k)).toNat / 64 == 2)) = true) : i + k < s.size ∧ 128 ≤ (s.get! (i + k)).toNat := by
  rw [Bool.and_eq_true, decide_eq_true_eq, beq_iff_eq] at h
  omega
/-- The octets of a rune beyond ASCII are all beyond ASCII. -/
theorem decode_bytes (s : ByteArray) (i : Nat) (hi : i < s.size) (hb : 128 ≤ (s.get! i).toNat) : ∀ j, i ≤ j → j < i + (Utf8.decode s i).2 → j < s.size ∧ 128 ≤ (s.get! j).toNat := by
  intro j h1 h2
  have h0 : ¬ (s.get! (i + 0)).toNat < 128 := by simp; omega
  have one : j < i + 1 → j < s.size ∧ 128 ≤ (s.get! j).toNat := fun h => by
    obtain rfl : j = i := by omega
    exact ⟨hi, hb⟩
  unfold Utf8.decode at h2
  simp only [if_neg h0] at h2
  split at h2
  · rename_i hc
    rw [Bool.and_eq_true] at hc
    have c1 := decode_cont s i 1 hc.2
    split at h2
    · by_cases e : j = i
      · exact one (by omega)
      · obtain rfl : j = i + 1 := by simp only at h2; omega
        exact c1
    · exact one h2
  · split at h2
    · rename_i hc
      rw [Bool.and_eq_true, Bool.and_eq_true] at hc
      have c1 := decode_cont s i 1 hc.1.2
      have c2 := decode_cont s i 2 hc.2
      split at h2
      · by_cases e : j = i
        · exact one (by omega)
        · by_cases e1 : j = i + 1
          · subst e1; exact c1
          · obtain rfl : j = i + 2 := by simp only at h2; omega
            exact c2
      · exact one h2
    · split at h2
      · rename_i hc
        rw [Bool.and_eq_true, Bool.and_eq_true, Bool.and_eq_true] at hc
        have c1 := decode_cont s i 1 hc.1.1.2
        have c2 := decode_cont s i 2 hc.1.2
        have c3 := decode_cont s i 3 hc.2
        split at h2
        · by_cases e : j = i
          · exact one (by omega)
          · by_cases e1 : j = i + 1
            · subst e1; exact c1
            · by_cases e2 : j = i + 2
              · subst e2; exact c2
              · obtain rfl : j = i + 3 := by simp only at h2; omega
                exact c3
        · exact one h2
      · exact one h2
theorem allR_from (p : Nat → Bool) (b : Bool) (hp : ∀ r, 128 ≤ r → p r = b) (s : ByteArray) : ∀ (f pos : Nat), s.size ≤ pos + f → pos ≤ s.size → allRFrom p s f pos = (s.data.toList.drop pos).all fun c => p c.toNat := by
  intro f
  induction f with
  | zero =>
    intro pos hf hpos
    rw [List.drop_eq_nil_iff.2 (by rw [← size_list]; omega)]
    rfl
  | succ f ih =>
    intro pos hf hpos
    simp only [allRFrom]
    by_cases h : pos < s.size
    · rw [if_pos h]
      have hl : pos < s.data.toList.length := by rw [← size_list]; exact h
      have hg := get_list s pos hl
      by_cases ha : (s[pos]'h).toNat < 128
      · have hb2 : s[pos]'h = s.data.toList[pos]'hl := by simp; rfl
        rw [decode_ascii s pos h ha, List.drop_eq_getElem_cons hl, List.all_cons, ← hb2]
        simp only
        rw [ih (pos + 1) (by omega) (by omega)]
        cases p (s[pos]'h).toNat <;> simp
      · have hhi := decode_high s pos h (by omega)
        have hb2 : s[pos]'h = s.data.toList[pos]'hl := by simp; rfl
        have hge : 128 ≤ (s.get! pos).toNat := by rw [hg, ← hb2]; omega
        have hbs := decode_bytes s pos h hge
        obtain ⟨K, hK⟩ : ∃ K, (Utf8.decode s pos).2 = K := ⟨_, rfl⟩
        rw [hK] at hbs hhi ⊢
        rw [hp _ hhi.1]
        cases b
        · rw [if_neg (by simp), List.drop_eq_getElem_cons hl, List.all_cons, hp _ (by rw [← hb2]; omega)]
          rfl
        · have hKs : pos + K ≤ s.size := by
            have := (hbs (pos + K - 1) (by omega) (by omega)).1
            omega
          rw [if_pos rfl, ih (pos + K) (by omega) hKs]
          have : ∀ n, n ≤ K → ((s.data.toList.drop pos).all fun c => p c.toNat) = ((s.data.toList.drop (pos + n)).all fun c => p c.toNat) := by
            intro n
            induction n with
            | zero => intro _; rfl
            | succ n ihn =>
              intro hn
              have hj := hbs (pos + n) (by omega) (by omega)
              have hlj : pos + n < s.data.toList.length := by rw [← size_list]; exact hj.1
              rw [ihn (by omega), List.drop_eq_getElem_cons hlj, List.all_cons, ← get_list s (pos + n) hlj, hp _ hj.2]
              rfl
          exact (this K (Nat.le_refl _)).symm
    · rw [if_neg h, List.drop_eq_nil_iff.2 (by rw [← size_list]; omega)]
      rfl
theorem allR_list (p : Nat → Bool) (b : Bool) (hp : ∀ r, 128 ≤ r → p r = b) (s : ByteArray) : allR p s = s.data.toList.all fun c => p c.toNat := by
  have := allR_from p b hp s s.size 0 (by omega) (by omega)
  simpa [allR] using this


end Go.Proofs.Ytkjkbenmoogdjaa.X
namespace Go.Proofs.Ytkjkbenmoogdjaa.X
open Go.RowKit Go.Proofs.YtkjkbenmoogdjaaW.PrintWords Go.Proofs.YtkjkbenmoogdjaaW.PrintLast Go.Proofs.YtkjkbenmoogdjaaW.PrintMore
attribute [local go_sem] max2_int min2_int max_two min_two max_three min_three max_four min_four   -- for this text's walks alone
set_option linter.unusedVariables false
set_option linter.unusedSimpArgs false

/-! ### pure text 22: refToken -/
theorem tchar_same (c : UInt8) : tcharI (c.toNat : Int) = tcharR c.toNat := by
  have h : ∀ n : Fin 256, tcharI (n.val : Int) = tcharR n.val := by decide +kernel
  exact h ⟨c.toNat, c.toNat_lt⟩
theorem tcharR_high (r : Nat) (h : 128 ≤ r) : tcharR r = false := by
  unfold tcharR tcharL
  simp
  omega
theorem octetToken_list (s : ByteArray) : octetToken s = (!s.data.toList.isEmpty && s.data.toList.all fun c => tcharR c.toNat) := by
  unfold octetToken
  rw [allR_list tcharR false tcharR_high, Lib.toList_data]
theorem reftoken_l0 (s : ByteArray) (hs : s.size ≤ 140737488351232) : ∀ (d i k : Nat), s.size - i = d → i ≤ s.size → d < k →
    abutmentref01_Token.l0 k s (i : Int) = some ((s.data.toList.drop i).all (fun c => tcharR c.toNat) && decide ((s.size : Int) > 0)) := by
  intro d
  induction d with
  | zero =>
    intro i k hd hi hk
    obtain ⟨k, rfl⟩ : ∃ m, k = m + 1 := ⟨k - 1, by omega⟩
    simp only [abutmentref01_Token.l0]
    rw [if_neg (by omega), List.drop_eq_nil_iff.2 (by rw [← size_list]; omega)]
    simp
  | succ d ih =>
    intro i k hd hi hk
    obtain ⟨k, rfl⟩ : ∃ m, k = m + 1 := ⟨k - 1, by omega⟩
    have hl : i < s.data.toList.length := by rw [← size_list]; omega
    have hw : wrap64 ((i : Int) + 1) = ((i + 1 : Nat) : Int) := by rw [wrap_id _ (by omega) (by omega)]; omega
    simp only [abutmentref01_Token.l0]
    rw [if_pos (by omega), if_pos (by omega), bt_list s i hl, show abutmentref01_Tchar.f ((s.data.toList[i]'hl).toNat : Int) = some (tcharR (s.data.toList[i]'hl).toNat) from by unfold abutmentref01_Tchar.f; rw [tchar_same]]
    simp only [Option.bind_some]
    rw [hw, List.drop_eq_getElem_cons hl, List.all_cons]
    cases tcharR (s.data.toList[i]'hl).toNat
    · simp
    · rw [if_pos rfl, ih (i + 1) k (by omega) (by omega) (by omega)]
      simp
theorem ref_token (s : ByteArray) (hs : s.size ≤ 140737488351232) (k : Nat) (hk : s.size < k) : abutmentref01_Token.f k s = some (octetToken s) := by
  have := reftoken_l0 s hs s.size 0 k (by omega) (by omega) hk
  unfold abutmentref01_Token.f
  rw [show (0 : Int) = ((0 : Nat) : Int) from rfl, this, octetToken_list, Bool.and_comm]
  congr 2
  rw [size_list]
  cases s.data.toList with
  | nil => rfl
  | cons c l => simp


end Go.Proofs.Ytkjkbenmoogdjaa.X
namespace Go.Proofs.Ytkjkbenmoogdjaa.X
open Go.RowKit Go.Proofs.YtkjkbenmoogdjaaW.PrintWords Go.Proofs.YtkjkbenmoogdjaaW.PrintLast Go.Proofs.YtkjkbenmoogdjaaW.PrintMore
attribute [local go_sem] max2_int min2_int max_two min_two max_three min_three max_four min_four   -- for this text's walks alone
set_option linter.unusedVariables false
set_option linter.unusedSimpArgs false

/-! ### pure text 31: words -/
theorem refwords_l0 (L : List ByteArray) (M : Nat) (hM : M ≤ 1000000) (hL : L.length ≤ 2000000) (hsz : ∀ x ∈ L, x.size ≤ M) : ∀ (d i k : Nat), L.length - i = d → i ≤ L.length → d + M + 1 < k →
    abutmentref17_Words.l0 k L ((L.take i).map lowB) (i : Int) = some (if (L.drop i).any (fun x => !octetToken x) = true then ([], 3) else (L.map lowB, 0)) := by
  intro d
  induction d with
  | zero =>
    intro i k hd hi hk
    obtain ⟨k, rfl⟩ : ∃ m, k = m + 1 := ⟨k - 1, by omega⟩
    simp only [abutmentref17_Words.l0]
    rw [if_neg (by omega), List.take_of_length_le (by omega), List.drop_eq_nil_iff.2 (by omega)]
    rfl
  | succ d ih =>
    intro i k hd hi hk
    obtain ⟨k, rfl⟩ : ∃ m, k = m + 1 := ⟨k - 1, by omega⟩
    have hlt : i < L.length := by omega
    have hw : wrap64 ((i : Int) + 1) = ((i + 1 : Nat) : Int) := by rw [wrap_id _ (by omega) (by omega)]; omega
    have hs := hsz _ (List.getElem_mem hlt)
    have hnext := ih (i + 1) k (by omega) (by omega) (by omega)
    rw [← List.take_append_getElem hlt, List.map_append] at hnext
    simp only [abutmentref17_Words.l0]
    rw [if_pos (by omega), if_pos (by omega), rd_nat L i hlt, ref_token _ (by omega) k (by omega), List.drop_eq_getElem_cons hlt, List.any_cons]
    simp only [Option.bind_some]
    by_cases ht : octetToken (L[i]'hlt) = true
    · rw [if_pos ht, ref_lower _ (by omega) k (by omega)]
      simp only [Option.bind_some]
      rw [if_pos (by simp; omega), hw, ht]
      exact hnext
    · rw [if_neg ht, if_pos (by simp [ht])]
theorem ref_words (l : List S23) (hl : OkF l) (hl2 : l.length ≤ 500) (k : Nat) (hk : 4000000 < k) : abutmentref17_Words.f k l = some (wordsB l) := by
  have hc := comb_size l hl connName
  unfold abutmentref17_Words.f
  rw [show (⟨#[67, 111, 110, 110, 101, 99, 116, 105, 111, 110]⟩ : ByteArray) = connName from rfl, ref_combined l hl connName (by decide) k (by omega)]
  simp only [Option.bind_some]
  rw [ref_split (combB l connName) (by omega) k (by omega)]
  simp only [Option.bind_some]
  unfold wordsB
  by_cases h : (splitB (combB l connName)).2 = true
  · rw [if_pos h, if_pos h]
    have hlen := splitB_len (combB l connName)
    have := refwords_l0 (splitB (combB l connName)).1 (combB l connName).size (by omega) (by omega) (splitB_size _) (splitB (combB l connName)).1.length 0 k (by omega) (by omega) (by omega)
    simpa using this
  · rw [if_neg h, if_neg h]
theorem conn_words (l : List S23) (hl : OkF l) (hl2 : l.length ≤ 500) : connection_Words.f l = some (wordsB l) := by
  have hc := comb_size l hl connName
  unfold connection_Words.f
  rw [if_pos ⟨by omega, by omega⟩]
/-- Each word is a token in small letters. -/
theorem words_low (l : List S23) : ∀ x ∈ (wordsB l).1, ∃ y, x = lowB y ∧ y.size ≤ (combB l connName).size := by
  intro x hx
  unfold wordsB at hx
  split at hx
  · split at hx
    · cases hx
    · obtain ⟨y, hy, rfl⟩ := List.mem_map.1 hx
      exact ⟨y, rfl, splitB_size _ y hy⟩
  · cases hx


end Go.Proofs.Ytkjkbenmoogdjaa.X
namespace Go.Proofs.Ytkjkbenmoogdjaa.X
open Go.RowKit Go.Proofs.YtkjkbenmoogdjaaW.PrintWords Go.Proofs.YtkjkbenmoogdjaaW.PrintLast Go.Proofs.YtkjkbenmoogdjaaW.PrintMore
attribute [local go_sem] max2_int min2_int max_two min_two max_three min_three max_four min_four   -- for this text's walks alone
set_option linter.unusedVariables false
set_option linter.unusedSimpArgs false

/-! ### pure text 34: conn -/
theorem lowB_size2 (y : ByteArray) : (lowB y).size = y.size := by
  unfold lowB lowL
  rw [size_mk, List.length_map, size_list]
theorem conn_has2 (l : List S23) (hl : OkF l) (hl2 : l.length ≤ 500) (x : ByteArray) (hx : x.size ≤ 1000000000) (k : Nat) (hk : 600000 < k) : connection_Has.f k l x = some (inL (wordsB l).1 (lowB x)) := by
  have hc := comb_size l hl connName
  have hlen := wordsB_len l
  unfold connection_Has.f
  rw [conn_words l hl hl2]
  simp only [Option.bind_some]
  rw [show octet_Lower.f x = some (lowB x) from by unfold octet_Lower.f; rw [if_pos hx]]
  simp only [Option.bind_some]
  rw [contains_f _ _ (by omega) k (by omega)]
  rfl
theorem conn_persists (minor : Int) (l : List S23) (hl : OkF l) (hl2 : l.length ≤ 500) : connection_Persists.f minor l = some (persistsB minor l) := by
  have hc := comb_size l hl connName
  unfold connection_Persists.f
  rw [if_pos ⟨by omega, by omega⟩]
theorem conn_alive (l : List S23) (hl : OkF l) (hl2 : l.length ≤ 500) : connection_Alive.f l = some (aliveB l) := by
  have hc := comb_size l hl keepAlive
  unfold connection_Alive.f
  rw [if_pos ⟨by omega, by omega⟩]
theorem refhas17_l0 (x : ByteArray) (hx : x.size ≤ 1000000000) (L : List ByteArray) (hL : L.length ≤ 2000000) : ∀ (d i k : Nat), L.length - i = d → i ≤ L.length → d + x.size + 1 < k →
    abutmentref17_Has.l0 k x L (i : Int) = some (inL (L.drop i) (lowB x)) := by
  intro d
  induction d with
  | zero =>
    intro i k hd hi hk
    obtain ⟨k, rfl⟩ : ∃ m, k = m + 1 := ⟨k - 1, by omega⟩
    simp only [abutmentref17_Has.l0]
    rw [if_neg (by omega), List.drop_eq_nil_iff.2 (by omega)]
    rfl
  | succ d ih =>
    intro i k hd hi hk
    obtain ⟨k, rfl⟩ : ∃ m, k = m + 1 := ⟨k - 1, by omega⟩
    have hlt : i < L.length := by omega
    have hw : wrap64 ((i : Int) + 1) = ((i + 1 : Nat) : Int) := by rw [wrap_id _ (by omega) (by omega)]; omega
    have hnext := ih (i + 1) k (by omega) (by omega) (by omega)
    simp only [abutmentref17_Has.l0]
    rw [if_pos (by omega), if_pos (by omega), ref_lower x hx k (by omega), rd_nat L i hlt, hw, List.drop_eq_getElem_cons hlt]
    simp only [Option.bind_some]
    unfold inL at hnext ⊢
    rw [List.any_cons]
    by_cases h : (L[i]'hlt).toList = (lowB x).toList
    · rw [if_pos h, beq_iff_eq.2 h.symm, Bool.true_or]
    · rw [if_neg h, beq_eq_false_iff_ne.2 (fun e => h e.symm), Bool.false_or]
      exact hnext
theorem ref_has17 (l : List S23) (hl : OkF l) (hl2 : l.length ≤ 500) (x : ByteArray) (hx : x.size ≤ 1000) (k : Nat) (hk : 4000000 < k) : abutmentref17_Has.f k l x = some (inL (wordsB l).1 (lowB x)) := by
  have hc := comb_size l hl connName
  have hlen := wordsB_len l
  unfold abutmentref17_Has.f
  rw [ref_words l hl hl2 k hk]
  simp only [Option.bind_some]
  have := refhas17_l0 x (by omega) (wordsB l).1 (by omega) (wordsB l).1.length 0 k (by omega) (by omega) (by omega)
  simpa using this
theorem low_close : lowB (⟨#[99, 108, 111, 115, 101]⟩ : ByteArray) = closeName := by kernel_rfl
theorem low_keep : lowB (⟨#[107, 101, 101, 112, 45, 97, 108, 105, 118, 101]⟩ : ByteArray) = keepName := by kernel_rfl
theorem ref_persists (minor : Int) (l : List S23) (hl : OkF l) (hl2 : l.length ≤ 500) (k : Nat) (hk : 4000000 < k) : abutmentref17_Persists.f k minor l = some (persistsB minor l) := by
  unfold abutmentref17_Persists.f
  rw [ref_words l hl hl2 k hk, ref_has17 l hl hl2 _ (by decide) k hk, ref_has17 l hl hl2 _ (by decide) k hk, low_close, low_keep]
  simp only [Option.bind_some]
  unfold persistsB
  by_cases h : (wordsB l).2 = 0
  · rw [if_pos h, beq_iff_eq.2 h]
    cases inL (wordsB l).1 closeName with
    | true => simp
    | false =>
      by_cases hm : minor > 0
      · rw [if_neg (by simp), if_pos hm, decide_eq_true hm]; simp
      · rw [if_neg (by simp), if_neg hm, decide_eq_false hm]; simp
  · rw [if_neg h, beq_eq_false_iff_ne.2 h]
    rfl
theorem lives17 : abutmentlaw17_lives.f = some true := rfl


end Go.Proofs.Ytkjkbenmoogdjaa.X
namespace Go.Proofs.Ytkjkbenmoogdjaa.X
open Go.RowKit Go.Proofs.YtkjkbenmoogdjaaW.PrintWords Go.Proofs.YtkjkbenmoogdjaaW.PrintLast Go.Proofs.YtkjkbenmoogdjaaW.PrintMore
attribute [local go_sem] max2_int min2_int max_two min_two max_three min_three max_four min_four   -- for this text's walks alone
set_option linter.unusedVariables false
set_option linter.unusedSimpArgs false

/-! ### pure text 16: listsBack -/
/-! ### The scan over a list of octets -/
abbrev St : Type := Bool × Bool × Int
def st0 : St := (false, false, 0)
def stepS (st : St) (c : UInt8) : St := seeS st.1 st.2.1 st.2.2 (c.toNat : Int)
def runS (st : St) (l : List UInt8) : St := l.foldl stepS st
def sepS (st : St) (c : UInt8) : Bool := (c == 44) && closedS st
def pieces : St → List UInt8 → List UInt8 → List (List UInt8)
  | _, cur, [] => [cur]
  | st, cur, c :: l => if sepS st c = true then cur :: pieces (stepS st c) [] l else pieces (stepS st c) (cur ++ [c]) l
/-- Nothing is parted. -/
def NoSep : St → List UInt8 → Prop
  | _, [] => True
  | st, c :: l => sepS st c = false ∧ NoSep (stepS st c) l
theorem closedS_eq (st : St) : closedS st = true ↔ st = st0 := by
  obtain ⟨q, sl, d⟩ := st
  cases q <;> cases sl <;> simp [closedS, st0]
theorem runS_append (st : St) (a b : List UInt8) : runS st (a ++ b) = runS (runS st a) b := by simp [runS]
theorem runS_cons (st : St) (c : UInt8) (l : List UInt8) : runS st (c :: l) = runS (stepS st c) l := rfl
theorem noSep_append : ∀ (a : List UInt8) (st : St) (b : List UInt8), NoSep st (a ++ b) ↔ NoSep st a ∧ NoSep (runS st a) b
  | [], st, b => by simp [NoSep, runS]
  | c :: a, st, b => by
    simp only [List.cons_append, NoSep, runS_cons, noSep_append a, and_assoc]
theorem pieces_append : ∀ (a : List UInt8) (st : St) (cur b : List UInt8), NoSep st a → pieces st cur (a ++ b) = pieces (runS st a) (cur ++ a) b
  | [], st, cur, b, _ => by simp [runS]
  | c :: a, st, cur, b, h => by
    simp only [List.cons_append, pieces]
    rw [if_neg (by rw [h.1]; simp), pieces_append a _ _ _ h.2, runS_cons]
    simp
/-- Each piece is whole in itself. -/
def Whole (p : List UInt8) : Prop := NoSep st0 p ∧ runS st0 p = st0
theorem step_sep (c : UInt8) (h : sepS st0 c = true) : stepS st0 c = st0 := by
  unfold sepS at h
  simp at h
  rw [h.1]
  rfl
theorem pieces_whole : ∀ (l : List UInt8) (st : St) (cur : List UInt8), NoSep st0 cur → runS st0 cur = st → runS st l = st0 → ∀ p ∈ pieces st cur l, Whole p
  | [], st, cur, h1, h2, h3 => by
    intro p hp
    simp [pieces] at hp
    subst hp
    exact ⟨h1, h2.trans h3⟩
  | c :: l, st, cur, h1, h2, h3 => by
    intro p hp
    unfold pieces at hp
    by_cases hs : sepS st c = true
    · rw [if_pos hs] at hp
      have hst : st = st0 := (closedS_eq st).1 (by unfold sepS at hs; simp at hs; exact hs.2)
      rcases List.mem_cons.1 hp with rfl | hp
      · exact ⟨h1, h2.trans hst⟩
      · subst hst
        rw [runS_cons] at h3
        refine pieces_whole l _ [] trivial ?_ h3 p hp
        exact (step_sep c hs).symm
    · rw [if_neg hs] at hp
      refine pieces_whole l _ (cur ++ [c]) ?_ ?_ h3 p hp
      · rw [noSep_append]
        refine ⟨h1, ?_, trivial⟩
        rw [h2]
        simpa using hs
      · rw [runS_append, h2]; rfl
/-- What can be come to: a slash stands in what is closed in. -/
def WfS (st : St) : Prop := 0 ≤ st.2.2 ∧ (st.2.1 = true → st.1 = true ∨ 0 < st.2.2)
theorem wf_step (st : St) (c : UInt8) (h : WfS st) : WfS (stepS st c) := by
  obtain ⟨q, sl, d⟩ := st
  obtain ⟨h1, h2⟩ := h
  simp only at h1 h2
  unfold stepS seeS
  cases sl
  · simp only [Bool.false_eq_true, if_false]
    split
    · refine ⟨h1, fun h => ?_⟩
      simp at h
      exact h
    · split
      · exact ⟨h1, fun h => by cases h⟩
      · split
        · exact ⟨by dsimp only; omega, fun h => by cases h⟩
        · split
          · rename_i hc
            exact ⟨by dsimp only; omega, fun h => by cases h⟩
          · split
            · exact ⟨h1, fun h => by cases h⟩
            · exact ⟨h1, fun h => by cases h⟩
  · simp only [if_true]
    exact ⟨h1, fun h => by cases h⟩
theorem wf_run (l : List UInt8) : ∀ st, WfS st → WfS (runS st l) := by
  induction l with
  | nil => intro st h; exact h
  | cons c l ih => intro st h; exact ih _ (wf_step st c h)
theorem wf0 : WfS st0 := ⟨Int.le_refl _, fun h => by cases h⟩
theorem bl_cases (c : UInt8) (h : bl c = true) : c = 32 ∨ c = 9 := by
  unfold bl at h; simpa using h
theorem step_bl (c : UInt8) (h : bl c = true) : stepS st0 c = st0 := by
  rcases bl_cases c h with rfl | rfl <;> rfl
theorem step_bl_back (st : St) (c : UInt8) (hw : WfS st) (h : bl c = true) (hs : stepS st c = st0) : st = st0 := by
  obtain ⟨q, sl, d⟩ := st
  obtain ⟨h1, h2⟩ := hw
  simp only at h1 h2
  cases sl
  · have hc : (c.toNat : Int) = 32 ∨ (c.toNat : Int) = 9 := by
      rcases bl_cases c h with rfl | rfl
      · exact .inl rfl
      · exact .inr rfl
    unfold stepS seeS at hs
    simp only [Bool.false_eq_true, if_false] at hs
    rw [if_neg (by omega)] at hs
    cases q
    · simp only [Bool.false_eq_true, if_false] at hs
      rw [if_neg (by omega), if_neg (by omega), if_neg (by omega)] at hs
      exact hs
    · exfalso
      simp only [if_true] at hs
      have := congrArg Prod.fst hs
      simp only [st0] at this
      have h34 : ((c.toNat : Int) != 34) = true := by rw [bne_iff_ne]; omega
      rw [h34] at this
      cases this
  · exfalso
    have hs' : (q, false, d) = st0 := hs
    unfold st0 at hs'
    injection hs' with e1 e2
    injection e2 with _ e3
    rcases h2 rfl with h | h
    · rw [e1] at h; cases h
    · omega
theorem whole_tail (c : UInt8) (p : List UInt8) (hc : bl c = true) (h : Whole (c :: p)) : Whole p := by
  have hs := step_bl c hc
  refine ⟨?_, ?_⟩
  · have := h.1.2; rwa [hs] at this
  · have := h.2; rw [runS_cons, hs] at this; exact this
theorem whole_dropWhile (p : List UInt8) (h : Whole p) : Whole (p.dropWhile bl) := by
  induction p with
  | nil => exact h
  | cons c p ih =>
    rw [List.dropWhile_cons]
    split
    · rename_i hc; exact ih (whole_tail c p hc h)
    · exact h
theorem whole_init (p : List UInt8) (c : UInt8) (hc : bl c = true) (h : Whole (p ++ [c])) : Whole p := by
  refine ⟨((noSep_append p st0 [c]).1 h.1).1, ?_⟩
  have := h.2
  rw [runS_append] at this
  exact step_bl_back _ c (wf_run p _ wf0) hc this
theorem whole_dropE : ∀ (n : Nat) (p : List UInt8), p.length = n → Whole p → Whole (dropE bl p) := by
  intro n
  induction n with
  | zero =>
    intro p hp h
    obtain rfl := List.eq_nil_of_length_eq_zero hp
    exact h
  | succ n ih =>
    intro p hp h
    rcases snoc_cases p with rfl | ⟨q, c, rfl⟩
    · exact h
    · rw [dropE_snoc]
      split
      · rename_i hc
        exact ih q (by simpa using hp) (whole_init q c hc h)
      · exact h
theorem whole_trim (p : List UInt8) (h : Whole p) : Whole (trimL p) := whole_dropE _ _ rfl (whole_dropWhile p h)
/-! ### Trimmed texts -/
theorem dropE_prefix {α : Type} (p : α → Bool) : ∀ (n : Nat) (l : List α), l.length = n → dropE p l <+: l := by
  intro n
  induction n with
  | zero => intro l hl; obtain rfl := List.eq_nil_of_length_eq_zero hl; exact List.prefix_rfl
  | succ n ih =>
    intro l hl
    rcases snoc_cases l with rfl | ⟨q, c, rfl⟩
    · exact List.prefix_rfl
    · rw [dropE_snoc]
      split
      · exact (ih q (by simpa using hl)).trans (List.prefix_append _ _)
      · exact List.prefix_rfl
theorem dropE_idem {α : Type} (p : α → Bool) : ∀ (n : Nat) (l : List α), l.length = n → dropE p (dropE p l) = dropE p l := by
  intro n
  induction n with
  | zero => intro l hl; obtain rfl := List.eq_nil_of_length_eq_zero hl; rfl
  | succ n ih =>
    intro l hl
    rcases snoc_cases l with rfl | ⟨q, c, rfl⟩
    · rfl
    · rw [dropE_snoc]
      split
      · exact ih q (by simpa using hl)
      · rename_i hc
        rw [dropE_snoc, if_neg hc]
theorem dropWhile_head {α : Type} (p : α → Bool) (l : List α) : ∀ c r, l.dropWhile p = c :: r → p c = false := by
  induction l with
  | nil => intro c r h; simp at h
  | cons x l ih =>
    intro c r h
    rw [List.dropWhile_cons] at h
    split at h
    · exact ih c r h
    · rename_i hx
      injection h with h1 h2
      subst h1
      simpa using hx
theorem trimL_idem (p : List UInt8) : trimL (trimL p) = trimL p := by
  unfold trimL
  obtain ⟨q, hq⟩ : ∃ q, p.dropWhile bl = q := ⟨_, rfl⟩
  have hh := dropWhile_head bl p
  rw [hq] at hh ⊢
  have hp := dropE_prefix bl _ q rfl
  have : (dropE bl q).dropWhile bl = dropE bl q := by
    match he : dropE bl q with
    | [] => rfl
    | c :: r =>
      rw [he] at hp
      obtain ⟨t, ht⟩ := hp
      have := hh c (r ++ t) ht.symm
      rw [List.dropWhile_cons, if_neg (by rw [this]; simp)]
  rw [this, dropE_idem bl _ q rfl]
theorem trimL_blank (c : UInt8) (p : List UInt8) (h : bl c = true) : trimL (c :: p) = trimL p := by
  unfold trimL
  rw [List.dropWhile_cons, if_pos h]
/-! ### The scan by places is the scan over the octets -/
theorem runS_take (s : ByteArray) (i : Nat) (hi : i ≤ s.size) : stAt s i = runS st0 (s.data.toList.take i) := by
  induction i with
  | zero => rfl
  | succ i ih =>
    have hl : i < s.data.toList.length := by rw [← size_list]; omega
    rw [take_snoc' _ _ hl, runS_append, ← ih (by omega)]
    show seeS _ _ _ (bt s i) = stepS (stAt s i) _
    rw [bt_list s i hl]
    rfl
theorem elems_pieces (s : ByteArray) : ∀ (d i : Nat), s.size - i = d → i ≤ s.size →
    (elemsAt s s.size).2 ++ [s.extract (elemsAt s s.size).1 s.size] = (elemsAt s i).2 ++ (pieces (stAt s i) ((s.data.toList.drop (elemsAt s i).1).take (i - (elemsAt s i).1)) (s.data.toList.drop i)).map (fun l => (⟨l.toArray⟩ : ByteArray)) := by
  intro d
  induction d with
  | zero =>
    intro i hd hi
    obtain rfl : i = s.size := by omega
    rw [show s.data.toList.drop s.size = [] from List.drop_eq_nil_iff.2 (by rw [← size_list]; omega)]
    simp only [pieces, List.map_cons, List.map_nil]
    rw [ext_list]
  | succ d ih =>
    intro i hd hi
    have hl : i < s.data.toList.length := by rw [← size_list]; omega
    have hfr := elemsAt_le s i
    rw [ih (i + 1) (by omega) (by omega), List.drop_eq_getElem_cons hl]
    have hst : stAt s (i + 1) = stepS (stAt s i) (s.data.toList[i]'hl) := by
      show seeS _ _ _ (bt s i) = _
      rw [bt_list s i hl]; rfl
    have hsep : (bt s i = 44 ∧ closedS (stAt s i) = true) ↔ sepS (stAt s i) (s.data.toList[i]'hl) = true := by
      rw [bt_list s i hl]
      unfold sepS
      have : (((s.data.toList[i]'hl).toNat : Int) = 44) ↔ s.data.toList[i]'hl = 44 := u8_eq _ 44
      rw [Bool.and_eq_true, beq_iff_eq, this]
    by_cases hs : sepS (stAt s i) (s.data.toList[i]'hl) = true
    · have he : elemsAt s (i + 1) = (i + 1, (elemsAt s i).2 ++ [s.extract (elemsAt s i).1 i]) := by
        show (if bt s i = 44 ∧ closedS (stAt s i) = true then _ else _) = _
        rw [if_pos (hsep.2 hs)]
      rw [he]
      conv => rhs; rw [pieces, if_pos hs]
      rw [hst, ext_list]
      simp
    · have he : elemsAt s (i + 1) = elemsAt s i := by
        show (if bt s i = 44 ∧ closedS (stAt s i) = true then _ else _) = _
        rw [if_neg (fun h => hs (hsep.1 h))]
      rw [he]
      conv => rhs; rw [pieces, if_neg hs]
      rw [hst]
      congr 3
      rw [show i + 1 - (elemsAt s i).1 = (i - (elemsAt s i).1) + 1 by omega, take_snoc' _ _ (by rw [List.length_drop]; omega)]
      congr 2
      rw [List.getElem_drop]
      congr 1
      omega
theorem elems_eq (s : ByteArray) : elems s = (pieces st0 [] s.data.toList).map (fun l => (⟨l.toArray⟩ : ByteArray)) := by
  have := elems_pieces s s.size 0 (by omega) (by omega)
  simpa [elemsAt, elems, stAt, st0] using this
theorem closed_eq (s : ByteArray) : stAt s s.size = runS st0 s.data.toList := by
  rw [runS_take s s.size (Nat.le_refl _), List.take_of_length_le (by rw [← size_list]; omega)]
/-! ### Joined and split again -/
def trimP (l : List UInt8) : ByteArray := ⟨(trimL l).toArray⟩
theorem keptL_map (ls : List (List UInt8)) : keptL (ls.map (fun l => (⟨l.toArray⟩ : ByteArray))) = ((ls.map trimL).filter (fun l => !l.isEmpty)).map (fun l => (⟨l.toArray⟩ : ByteArray)) := by
  induction ls with
  | nil => rfl
  | cons l ls ih =>
    rw [List.map_cons, keptL_cons, ih]
    simp only [List.map_cons, List.filter_cons]
    have : full (trimB ⟨l.toArray⟩) = !(trimL l).isEmpty := by
      unfold full trimB
      rw [Lib.toList_data]
    rw [this]
    split <;> rfl
theorem runS_blank_seq (e : List UInt8) (h : Whole e) : runS st0 (32 :: e) = st0 ∧ NoSep st0 (32 :: e) := by
  refine ⟨h.2, ⟨rfl, h.1⟩⟩
/-- The pieces of whole texts with commas and blanks between. -/
theorem pieces_join (e : List UInt8) (he : Whole e) : ∀ (r : List (List UInt8)) (cur : List UInt8), (∀ x ∈ r, Whole x) →
    pieces st0 cur (e ++ Lib.joinTail [44, 32] r) = (cur ++ e) :: r.map (fun x => 32 :: x) ∧ runS st0 (e ++ Lib.joinTail [44, 32] r) = st0 := by
  intro r
  induction r generalizing e with
  | nil =>
    intro cur _
    simp only [Lib.joinTail, List.map_nil, List.flatten_nil, List.append_nil]
    refine ⟨?_, he.2⟩
    have := pieces_append e st0 cur [] he.1
    rw [List.append_nil] at this
    rw [this]
    rfl
  | cons x r ih =>
    intro cur hr
    have hx := hr x (by simp)
    have ht : Lib.joinTail [44, 32] (x :: r) = 44 :: ((32 :: x) ++ Lib.joinTail [44, 32] r) := by
      simp [Lib.joinTail]
    obtain ⟨b1, b2⟩ := runS_blank_seq x hx
    obtain ⟨h1, h2⟩ := ih (32 :: x) ⟨b2, b1⟩ [] (fun y hy => hr y (by simp [hy]))
    rw [ht]
    refine ⟨?_, ?_⟩
    · rw [pieces_append e st0 cur _ he.1, he.2]
      have hsp : sepS st0 44 = true := rfl
      conv => lhs; rw [pieces, if_pos hsp]
      rw [step_sep 44 hsp, h1]
      simp
    · rw [runS_append, he.2, runS_cons, step_sep 44 rfl]
      exact h2
theorem kept_trimmed (ls : List (List UInt8)) (h : ∀ x ∈ ls, trimL x = x ∧ x ≠ []) : (ls.map trimL).filter (fun l => !l.isEmpty) = ls := by
  induction ls with
  | nil => rfl
  | cons x ls ih =>
    obtain ⟨h1, h2⟩ := h x (by simp)
    rw [List.map_cons, List.filter_cons, h1, ih (fun y hy => h y (by simp [hy]))]
    rw [if_pos (by simpa using h2)]
theorem split_join (ls : List (List UInt8)) (h : ∀ x ∈ ls, Whole x ∧ trimL x = x ∧ x ≠ []) :
    splitB ⟨(Lib.join ls [44, 32]).toArray⟩ = (ls.map (fun l => (⟨l.toArray⟩ : ByteArray)), true) := by
  have key : runS st0 (Lib.join ls [44, 32]) = st0 ∧ ((pieces st0 [] (Lib.join ls [44, 32])).map trimL).filter (fun l => !l.isEmpty) = ls := by
    match ls, h with
    | [], _ => exact ⟨rfl, rfl⟩
    | e :: r, h =>
      rw [Lib.join_cons]
      obtain ⟨h1, h2⟩ := pieces_join e (h e (by simp)).1 r [] (fun x hx => (h x (by simp [hx])).1)
      refine ⟨h2, ?_⟩
      rw [h1, List.nil_append]
      have : (e :: r.map (fun x => 32 :: x)).map trimL = (e :: r).map trimL := by
        rw [List.map_cons, List.map_cons, List.map_map]
        exact congrArg _ (List.map_congr_left (fun x _ => trimL_blank 32 x rfl))
      rw [this]
      exact kept_trimmed (e :: r) (fun x hx => (h x hx).2)
  unfold splitB
  rw [closed_eq, elems_eq, if_pos (by rw [closedS_eq]; exact key.1), keptL_map, key.2]
/-- What a split gives is whole, trimmed, not empty. -/
theorem split_good (s : ByteArray) (h : (splitB s).2 = true) : ∃ ls : List (List UInt8), (splitB s).1 = ls.map (fun l => (⟨l.toArray⟩ : ByteArray)) ∧ ∀ x ∈ ls, Whole x ∧ trimL x = x ∧ x ≠ [] := by
  unfold splitB at h ⊢
  by_cases hc : closedS (stAt s s.size) = true
  · rw [if_pos hc]
    rw [elems_eq, keptL_map]
    refine ⟨_, rfl, ?_⟩
    intro x hx
    obtain ⟨hx1, hx2⟩ := List.mem_filter.1 hx
    obtain ⟨p, hp, rfl⟩ := List.mem_map.1 hx1
    have hr : runS st0 s.data.toList = st0 := by rw [← closed_eq]; exact (closedS_eq _).1 hc
    have hw := pieces_whole s.data.toList st0 [] trivial rfl hr p hp
    exact ⟨whole_trim p hw, trimL_idem p, by simpa using hx2⟩
  · rw [if_neg hc] at h
    cases h
theorem split_back (s : ByteArray) (h : (splitB s).2 = true) : splitB (joinB (splitB s).1) = ((splitB s).1, true) := by
  obtain ⟨ls, h1, h2⟩ := split_good s h
  have hj : joinB (splitB s).1 = ⟨(Lib.join ls [44, 32]).toArray⟩ := by
    unfold joinB joinL
    rw [h1, List.map_map]
    have : ls.map ((fun x : ByteArray => x.data.toList) ∘ fun l => (⟨l.toArray⟩ : ByteArray)) = ls := by
      conv => rhs; rw [← List.map_id ls]
      exact List.map_congr_left (fun x _ => rfl)
    rw [this]
  rw [hj, split_join ls h2, h1]
/-! ### How long it is -/
theorem pieces_lens : ∀ (l : List UInt8) (st : St) (cur : List UInt8), Lib.lens (pieces st cur l) + (pieces st cur l).length = cur.length + l.length + 1
  | [], st, cur => by simp [pieces, Lib.lens]
  | c :: l, st, cur => by
    unfold pieces
    split
    · have := pieces_lens l (stepS st c) []
      simp only [Lib.lens, List.map_cons, List.sum_cons, List.length_cons, List.length_nil] at this ⊢
      omega
    · have := pieces_lens l (stepS st c) (cur ++ [c])
      simp only [List.length_append, List.length_cons, List.length_nil] at this ⊢
      omega
theorem trimL_len (l : List UInt8) : (trimL l).length ≤ l.length := Nat.le_trans (dropE_len _ _) (dropWhile_len _ _)
theorem kept_lens (ls : List (List UInt8)) : Lib.lens ((ls.map trimL).filter (fun l => !l.isEmpty)) + ((ls.map trimL).filter (fun l => !l.isEmpty)).length ≤ Lib.lens ls + ls.length := by
  induction ls with
  | nil => simp
  | cons x ls ih =>
    have := trimL_len x
    rw [List.map_cons, List.filter_cons]
    split
    · simp only [Lib.lens, List.map_cons, List.sum_cons, List.length_cons] at ih ⊢
      omega
    · simp only [Lib.lens, List.map_cons, List.sum_cons, List.length_cons] at ih ⊢
      omega
theorem split_join_len (s : ByteArray) : (joinL (splitB s).1).length ≤ 2 * s.size + 2 := by
  unfold splitB
  split
  · rw [elems_eq, keptL_map]
    have h1 := kept_lens (pieces st0 [] s.data.toList)
    have h2 := pieces_lens s.data.toList st0 []
    rw [← size_list] at h2
    unfold joinL
    rw [List.map_map]
    generalize ((pieces st0 [] s.data.toList).map trimL).filter (fun l => !l.isEmpty) = L at h1 ⊢
    have : L.map ((fun x : ByteArray => x.data.toList) ∘ fun l => (⟨l.toArray⟩ : ByteArray)) = L := by
      conv => rhs; rw [← List.map_id L]
      exact List.map_congr_left (fun x _ => rfl)
    simp only [List.length_nil] at h2
    rw [this]
    match L, h1 with
    | [], _ => simp [Lib.join_nil]
    | x :: r, h1 =>
      rw [Lib.join_length]
      simp only [List.length_cons, List.length_nil] at h1 ⊢
      omega
  · simp [joinL, Lib.join_nil]
theorem hasB_self (s e : ByteArray) (h : e ∈ (splitB s).1) : hasB s e = true := by
  unfold hasB
  rw [List.any_eq_true]
  exact ⟨e, h, by unfold foldB; simp⟩


end Go.Proofs.Ytkjkbenmoogdjaa.X
namespace Go.Proofs.Ytkjkbenmoogdjaa.X
open Go.RowKit Go.Proofs.YtkjkbenmoogdjaaW.PrintWords Go.Proofs.YtkjkbenmoogdjaaW.PrintLast Go.Proofs.YtkjkbenmoogdjaaW.PrintMore
attribute [local go_sem] max2_int min2_int max_two min_two max_three min_three max_four min_four   -- for this text's walks alone
set_option linter.unusedVariables false
set_option linter.unusedSimpArgs false

/-! ### pure text 35: close -/
def closeL : List UInt8 := [67, 108, 111, 115, 101]
/-- A letter behind which all is closed had all closed ahead of it. -/
theorem step_plain_back (st : St) (c : UInt8) (hw : WfS st) (h : c ≠ 92 ∧ c ≠ 34 ∧ c ≠ 40 ∧ c ≠ 41) (hs : stepS st c = st0) : st = st0 := by
  obtain ⟨q, sl, d⟩ := st
  obtain ⟨h1, h2, h3, h4⟩ := h
  have n92 : ¬ (c.toNat : Int) = 92 := fun e => h1 ((u8_eq c 92).1 e)
  have n34 : ¬ (c.toNat : Int) = 34 := fun e => h2 ((u8_eq c 34).1 e)
  have n40 : ¬ (c.toNat : Int) = 40 := fun e => h3 ((u8_eq c 40).1 e)
  have n41 : ¬ (c.toNat : Int) = 41 := fun e => h4 ((u8_eq c 41).1 e)
  unfold stepS seeS st0 at hs
  simp only at hs
  cases sl
  · rw [if_neg (by simp), if_neg n92] at hs
    cases q
    · rw [if_neg (by simp), if_neg n40, if_neg (fun e => n41 e.2), if_neg (fun e => n34 e.2)] at hs
      exact hs
    · rw [if_pos rfl] at hs
      injection hs with hq _
      have : ((c.toNat : Int) != 34) = true := by rw [bne_iff_ne]; exact n34
      rw [this] at hq
      cases hq
  · rw [if_pos rfl] at hs
    injection hs with hq hs
    injection hs with _ hd
    subst hq; subst hd
    rcases hw.2 rfl with h | h
    · cases h
    · exact absurd h (by simp)
theorem run_plain_back (l : List UInt8) (hl : ∀ c ∈ l, c ≠ 92 ∧ c ≠ 34 ∧ c ≠ 40 ∧ c ≠ 41) : ∀ st, WfS st → runS st l = st0 → st = st0 := by
  induction l with
  | nil => intro st _ h; exact h
  | cons c l ih =>
    intro st hw h
    rw [runS_cons] at h
    have := ih (fun d hd => hl d (List.mem_cons_of_mem _ hd)) _ (wf_step st c hw) h
    exact step_plain_back st c hw (hl c List.mem_cons_self) this
theorem pieces_comma : ∀ (a : List UInt8) (st : St) (cur b : List UInt8), runS st a = st0 → ∃ ps, pieces st cur (a ++ 44 :: b) = ps ++ pieces st0 [] b
  | [], st, cur, b, h => by
    have h' : st = st0 := h
    subst h'
    exact ⟨[cur], rfl⟩
  | c :: a, st, cur, b, h => by
    rw [runS_cons] at h
    simp only [List.cons_append, pieces]
    split
    · obtain ⟨ps, e⟩ := pieces_comma a (stepS st c) [] b h
      exact ⟨cur :: ps, by rw [e]; rfl⟩
    · exact pieces_comma a (stepS st c) (cur ++ [c]) b h
/-- A list that ends in Close, and is closed, has the element. -/
theorem split_close (s : ByteArray) (x : List UInt8) (hx : s.data.toList = closeL ∨ s.data.toList = x ++ [44, 32] ++ closeL) (hok : (splitB s).2 = true) : (⟨closeL.toArray⟩ : ByteArray) ∈ (splitB s).1 := by
  unfold splitB at hok ⊢
  by_cases hcl : closedS (stAt s s.size) = true
  · rw [if_pos hcl]
    have hrun := (closedS_eq _).1 hcl
    rw [closed_eq] at hrun
    show (⟨closeL.toArray⟩ : ByteArray) ∈ keptL (elems s)
    rw [elems_eq, keptL_map]
    refine List.mem_map.2 ⟨closeL, ?_, rfl⟩
    refine List.mem_filter.2 ⟨?_, rfl⟩
    rcases hx with hx | hx
    · rw [hx]
      exact List.mem_map.2 ⟨closeL, by decide, by decide⟩
    · rw [hx] at hrun ⊢
      have hplain : ∀ c ∈ ([44, 32] ++ closeL : List UInt8), c ≠ 92 ∧ c ≠ 34 ∧ c ≠ 40 ∧ c ≠ 41 := by decide
      rw [List.append_assoc, runS_append] at hrun
      have hx0 := run_plain_back _ hplain _ (wf_run x st0 wf0) hrun
      obtain ⟨ps, e⟩ := pieces_comma x st0 [] (32 :: closeL) hx0
      rw [show x ++ [44, 32] ++ closeL = x ++ 44 :: (32 :: closeL) from by simp, e, List.map_append]
      exact List.mem_append_right _ (by decide)
  · rw [if_neg hcl] at hok
    cases hok
theorem allB_with (l : List S23) (value : ByteArray) : allB (withB l ⟨#[99, 111, 110, 110, 101, 99, 116, 105, 111, 110]⟩ value) connName = allB l connName ++ [value] := by
  unfold allB withB
  rw [List.filter_append, List.map_append]
  congr 1
theorem comb_with (l : List S23) : ∃ x, (combB (withB l ⟨#[99, 111, 110, 110, 101, 99, 116, 105, 111, 110]⟩ ⟨#[67, 108, 111, 115, 101]⟩) connName).data.toList = closeL ∨ (combB (withB l ⟨#[99, 111, 110, 110, 101, 99, 116, 105, 111, 110]⟩ ⟨#[67, 108, 111, 115, 101]⟩) connName).data.toList = x ++ [44, 32] ++ closeL := by
  unfold combB
  rw [allB_with]
  by_cases h : allB l connName = []
  · refine ⟨[], .inl ?_⟩
    rw [h]
    show (joinB [_]).data.toList = _
    unfold joinB
    rw [joinL_one]
    rfl
  · refine ⟨joinL (allB l connName), .inr ?_⟩
    unfold joinB
    rw [joinL_snoc _ _ h]
    rfl
theorem persists_close (minor : Int) (l : List S23) : persistsB minor (withB l ⟨#[99, 111, 110, 110, 101, 99, 116, 105, 111, 110]⟩ ⟨#[67, 108, 111, 115, 101]⟩) = false := by
  obtain ⟨x, hx⟩ := comb_with l
  unfold persistsB wordsB
  generalize combB (withB l ⟨#[99, 111, 110, 110, 101, 99, 116, 105, 111, 110]⟩ ⟨#[67, 108, 111, 115, 101]⟩) connName = s at hx
  by_cases hok : (splitB s).2 = true
  · rw [if_pos hok]
    by_cases ht : (splitB s).1.any (fun x => !octetToken x) = true
    · rw [if_pos ht]; rfl
    · rw [if_neg ht]
      have hm := split_close s x hx hok
      have hin : inL ((splitB s).1.map lowB) closeName = true := by
        unfold inL
        exact List.any_eq_true.2 ⟨closeName, List.mem_map.2 ⟨_, hm, by decide +kernel⟩, beq_iff_eq.2 rfl⟩
      show ((0 : Int) == 0 && (!inL ((splitB s).1.map lowB) closeName && _)) = false
      rw [hin]
      rfl
  · rw [if_neg hok]; rfl
theorem words_err (l : List S23) (h : (wordsB l).2 ≠ 0) : (wordsB l).1 = [] := by
  unfold wordsB at h ⊢
  split
  · rename_i h1
    rw [if_pos h1] at h
    split
    · rfl
    · rename_i h2
      rw [if_neg h2] at h
      exact absurd rfl h
  · rfl


end Go.Proofs.Ytkjkbenmoogdjaa.X
