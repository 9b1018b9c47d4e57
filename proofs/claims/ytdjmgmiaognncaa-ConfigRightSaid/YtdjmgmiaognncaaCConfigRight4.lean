/- Part 4 of the texts behind the claim on ConfigRight: contracts of the functions that it reaches, and plain laws about them. No conditions of its own. -/
import Derived.Test.YtdjmgmiaognncaaCConfigRight1
import Derived.Test.YtdjmgmiaognncaaCConfigRight3
import Derived.Test.YtdjmgmiaognncaaCConfigRight2
import Derived.Lib.LastIndexByte
namespace Go.Proofs.Ytdjmgmiaognncaa.X
open Go.RowKit Go.Proofs.YtdjmgmiaognncaaW.PrintWords Go.Proofs.YtdjmgmiaognncaaW.PrintLast Go.Proofs.YtdjmgmiaognncaaW.PrintMore
attribute [local go_sem] max2_int min2_int max_two min_two max_three min_three max_four min_four   -- for this text's walks alone
set_option linter.unusedVariables false
set_option linter.unusedSimpArgs false

/-! ### pure text 36: number -/
theorem digR_high (r : Nat) (h : 128 ≤ r) : digR r = -1 := by unfold digR; rw [if_neg (by omega), if_neg (by omega), if_neg (by omega)]
/-- digits.number over a list of octets. -/
def numL (base most : Int) : List UInt8 → Int → Bool → Int × Int
  | [], n, ov => if ov = true then (0, 5) else (n, 0)
  | c :: l, n, ov => if digR c.toNat < 0 ∨ base ≤ digR c.toNat then (0, 3) else numL base most l (if stepO base most n ov (digR c.toNat) = true then n else n * base + digR c.toNat) (stepO base most n ov (digR c.toNat))
theorem numFrom_list (base most : Int) (s : ByteArray) : ∀ (f pos : Nat) (n : Int) (ov : Bool), s.size ≤ pos + f → pos ≤ s.size → numFrom base most s f pos n ov = numL base most (s.data.toList.drop pos) n ov := by
  intro f
  induction f with
  | zero =>
    intro pos n ov hf hpos
    rw [List.drop_eq_nil_iff.2 (by rw [← size_list]; omega)]
    rfl
  | succ f ih =>
    intro pos n ov hf hpos
    by_cases h : pos < s.size
    · have hl : pos < s.data.toList.length := by rw [← size_list]; exact h
      simp only [numFrom]
      rw [if_pos h]
      have hb2 : s[pos]'h = s.data.toList[pos]'hl := by simp; rfl
      by_cases ha : (s[pos]'h).toNat < 128
      · rw [decode_ascii s pos h ha, List.drop_eq_getElem_cons hl]
        simp only [numL]
        rw [← hb2]
        by_cases hd : digR (s[pos]'h).toNat < 0 ∨ base ≤ digR (s[pos]'h).toNat
        · rw [if_pos hd, if_pos hd]
        · rw [if_neg hd, if_neg hd, ih (pos + 1) _ _ (by omega) (by omega)]
      · have hhi := decode_high s pos h (by omega)
        rw [digR_high _ hhi.1, if_pos (.inl (by decide)), List.drop_eq_getElem_cons hl]
        simp only [numL]
        rw [← hb2, digR_high _ (by omega), if_pos (.inl (by decide))]
    · rw [numFrom_end base most s (f + 1) pos n ov h, List.drop_eq_nil_iff.2 (by rw [← size_list]; omega)]
      rfl
def dOk (base : Int) (c : UInt8) : Bool := decide (0 ≤ digR c.toNat) && decide (digR c.toNat < base)
def valL (base : Int) (l : List UInt8) (n : Int) : Int := l.foldl (fun n c => n * base + digR c.toNat) n
theorem valL_cons (base : Int) (c : UInt8) (l : List UInt8) (n : Int) : valL base (c :: l) n = valL base l (n * base + digR c.toNat) := rfl
theorem dOk_iff (base : Int) (c : UInt8) : dOk base c = true ↔ 0 ≤ digR c.toNat ∧ digR c.toNat < base := by unfold dOk; rw [Bool.and_eq_true, decide_eq_true_iff, decide_eq_true_iff]
theorem valL_ge (base : Int) (hb : 1 ≤ base) : ∀ (l : List UInt8) (n : Int), l.all (dOk base) = true → 0 ≤ n → n ≤ valL base l n := by
  intro l
  induction l with
  | nil => intro n _ _; exact Int.le_refl _
  | cons c l ih =>
    intro n hl hn
    rw [List.all_cons, Bool.and_eq_true, dOk_iff] at hl
    rw [valL_cons]
    have h1 : n ≤ n * base := by have := Int.mul_le_mul_of_nonneg_left hb hn; omega
    have := ih (n * base + digR c.toNat) hl.2 (by omega)
    omega
theorem stepO_iff (base most n d : Int) (hb : 0 < base) (hn : 0 ≤ n) (hd : 0 ≤ d) : stepO base most n false d = decide (most < n * base + d) := by
  unfold stepO
  have hnb : 0 ≤ n * base := Int.mul_nonneg hn (by omega)
  have hdiv : (most - d) / base < n ↔ most - d < n * base := Int.ediv_lt_iff_lt_mul hb
  rw [Bool.false_or, Bool.eq_iff_iff, Bool.or_eq_true, decide_eq_true_iff, decide_eq_true_iff, decide_eq_true_iff, hdiv]
  omega
theorem numL_spec (base most : Int) (hb : 1 ≤ base) : ∀ (l : List UInt8) (n : Int) (ov : Bool), 0 ≤ n → n ≤ most →
    numL base most l n ov = if l.all (dOk base) = true then (if ov = true then (0, 5) else if valL base l n ≤ most then (valL base l n, 0) else (0, 5)) else (0, 3) := by
  intro l
  induction l with
  | nil =>
    intro n ov hn hm
    simp only [numL]
    rw [if_pos (show ([] : List UInt8).all (dOk base) = true from rfl)]
    cases ov with
    | true => rfl
    | false => rw [if_neg (by simp), if_neg (by simp), if_pos (show valL base [] n ≤ most from hm)]; rfl
  | cons c l ih =>
    intro n ov hn hm
    simp only [numL]
    by_cases hd : digR c.toNat < 0 ∨ base ≤ digR c.toNat
    · rw [if_pos hd, if_neg]
      rw [List.all_cons, Bool.and_eq_true, dOk_iff]
      omega
    · rw [if_neg hd]
      have hok : dOk base c = true := (dOk_iff base c).2 (by omega)
      have hall : (c :: l).all (dOk base) = l.all (dOk base) := by rw [List.all_cons, hok, Bool.true_and]
      rw [hall, valL_cons]
      cases ov with
      | true =>
        rw [show stepO base most n true (digR c.toNat) = true from rfl, if_pos rfl, ih n true hn hm]
        simp
      | false =>
        have hnb : 0 ≤ n * base := Int.mul_nonneg hn (by omega)
        rw [stepO_iff base most n _ (by omega) hn (by omega)]
        by_cases hs : most < n * base + digR c.toNat
        · rw [decide_eq_true hs, if_pos rfl, ih n true hn hm, if_pos rfl]
          by_cases ha : l.all (dOk base) = true
          · have := valL_ge base hb l (n * base + digR c.toNat) ha (by omega)
            rw [if_pos ha, if_pos ha, if_neg (by simp), if_neg (by omega)]
          · rw [if_neg ha, if_neg ha]
        · rw [decide_eq_false hs, if_neg (by simp), ih _ false (by omega) (by omega)]
theorem numberB_spec (s : ByteArray) (base most : Int) (hb : 1 ≤ base) (hm : 0 ≤ most) : numberB s base most = if s.data.toList = [] then (0, 2) else if s.data.toList.all (dOk base) = true then (if valL base s.data.toList 0 ≤ most then (valL base s.data.toList 0, 0) else (0, 5)) else (0, 3) := by
  unfold numberB
  rw [Lib.toList_data]
  by_cases h : s.data.toList = []
  · rw [if_pos h, if_pos h]
  · rw [if_neg h, if_neg h, numFrom_list base most s s.size 0 0 false (by omega) (by omega), List.drop_zero, numL_spec base most hb _ 0 false (by omega) hm]
    rw [if_neg (show ¬ (false = true) by simp)]
def valR (c : UInt8) : Int := if digR c.toNat = -1 then 99 else digR c.toNat
theorem value_f (c : UInt8) (k : Nat) (hk : 2 < k) : abutmentref02_Value.f k (c.toNat : Int) = some (valR c) := by
  have hlt := c.toNat_lt
  have hid : wrap64 (c.toNat : Int) = (c.toNat : Int) := wrap_id _ (by omega) (by omega)
  obtain ⟨k, rfl⟩ : ∃ m, k = m + 2 := ⟨k - 2, by omega⟩
  unfold abutmentref02_Value.f valR digR
  by_cases h1 : 48 ≤ c.toNat ∧ c.toNat ≤ 57
  · rw [if_pos (by omega), if_pos h1, decide_eq_true (by omega), if_neg (by omega)]
    simp only [abutmentref02_Value.j0, if_true]
    rw [hid, wrap_id _ (by omega) (by omega)]
  · rw [if_neg h1]
    have e0 : (if (c.toNat : Int) ≥ 48 then abutmentref02_Value.j0 (k + 2) (c.toNat : Int) (decide ((c.toNat : Int) ≤ 57)) else abutmentref02_Value.j0 (k + 2) (c.toNat : Int) false) = abutmentref02_Value.j0 (k + 2) (c.toNat : Int) false := by
      by_cases h : (c.toNat : Int) ≥ 48
      · rw [if_pos h, decide_eq_false (by omega)]
      · rw [if_neg h]
    rw [e0]
    simp only [abutmentref02_Value.j0]
    rw [if_neg (by simp)]
    by_cases h3 : 65 ≤ c.toNat ∧ c.toNat ≤ 70
    · have hd : (if 97 ≤ c.toNat ∧ c.toNat ≤ 102 then (c.toNat : Int) - 87 else if 65 ≤ c.toNat ∧ c.toNat ≤ 70 then (c.toNat : Int) - 55 else -1) = (c.toNat : Int) - 55 := by rw [if_neg (by omega), if_pos h3]
      rw [hd, if_pos (by omega), decide_eq_true (by omega), if_neg (by omega)]
      simp only [abutmentref02_Value.j1, if_true]
      rw [hid, wrap_id _ (by omega) (by omega)]
    · have hd : (if 97 ≤ c.toNat ∧ c.toNat ≤ 102 then (c.toNat : Int) - 87 else if 65 ≤ c.toNat ∧ c.toNat ≤ 70 then (c.toNat : Int) - 55 else -1) = (if 97 ≤ c.toNat ∧ c.toNat ≤ 102 then (c.toNat : Int) - 87 else -1) := by rw [if_neg h3]
      rw [hd]
      have e1 : (if (c.toNat : Int) ≥ 65 then abutmentref02_Value.j1 (k + 1) (c.toNat : Int) (decide ((c.toNat : Int) ≤ 70)) else abutmentref02_Value.j1 (k + 1) (c.toNat : Int) false) = abutmentref02_Value.j1 (k + 1) (c.toNat : Int) false := by
        by_cases h : (c.toNat : Int) ≥ 65
        · rw [if_pos h, decide_eq_false (by omega)]
        · rw [if_neg h]
      rw [e1]
      simp only [abutmentref02_Value.j1]
      rw [if_neg (by simp)]
      by_cases h2 : 97 ≤ c.toNat ∧ c.toNat ≤ 102
      · rw [if_pos h2, if_pos (by omega), if_pos (by omega), if_neg (by omega), hid, wrap_id _ (by omega) (by omega)]
      · rw [if_neg h2]
        by_cases h4 : 97 ≤ c.toNat
        · rw [if_pos (by omega), if_neg (by omega)]; rfl
        · rw [if_neg (by omega)]; rfl
theorem valR_ok (c : UInt8) : (valR c ≥ 10) ↔ ¬ dOk 10 c = true := by
  rw [dOk_iff]
  have := digR_bounds c.toNat
  unfold valR
  split <;> omega
theorem valR_dig (c : UInt8) (h : dOk 10 c = true) : valR c = digR c.toNat := by
  rw [dOk_iff] at h
  unfold valR
  rw [if_neg (by omega)]
def outN (most : Int) (l : List UInt8) : Int × Int := if valL 10 l 0 ≤ most then (valL 10 l 0, 0) else (0, 5)
theorem refnum_l2 (most : Int) (hm0 : 0 ≤ most) (hm1 : most ≤ 1152921504606846975) (l : List UInt8) (hl : l.length ≤ 19) (hok : l.all (dOk 10) = true) : ∀ (d i k : Nat), l.length - i = d → i ≤ l.length → d + 3 < k → 0 ≤ valL 10 (l.take i) 0 →
    abutmentref02_Number.l2 k ⟨l.toArray⟩ 10 most (valL 10 (l.take i) 0) (i : Int) = some (outN most l) := by
  intro d
  induction d with
  | zero =>
    intro i k hd hi hk h0
    obtain ⟨k, rfl⟩ : ∃ m, k = m + 1 := ⟨k - 1, by omega⟩
    simp only [abutmentref02_Number.l2]
    rw [if_neg (by rw [size_mk]; omega), if_neg (by omega), List.take_of_length_le (by omega), show IntKind.u64.wrap most = most from by simp [IntKind.wrap, IntKind.bits, IntKind.signed]; omega]
    rw [List.take_of_length_le (by omega)] at h0
    unfold outN
    by_cases h : valL 10 l 0 ≤ most
    · rw [if_neg (by omega), if_pos h, wrap_id _ (by omega) (by omega)]
    · rw [if_pos (by omega), if_neg h]
  | succ d ih =>
    intro i k hd hi hk h0
    obtain ⟨k, rfl⟩ : ∃ m, k = m + 1 := ⟨k - 1, by omega⟩
    have hlt : i < l.length := by omega
    have hw : wrap64 ((i : Int) + 1) = ((i + 1 : Nat) : Int) := by rw [wrap_id _ (by omega) (by omega)]; omega
    have hsplit : valL 10 l 0 = valL 10 (l.drop i) (valL 10 (l.take i) 0) := by
      unfold valL
      rw [← List.foldl_append, List.take_append_drop]
    have hnext : valL 10 (l.take (i + 1)) 0 = valL 10 (l.take i) 0 * 10 + digR (l[i]'hlt).toNat := by
      unfold valL
      rw [← List.take_append_getElem hlt, List.foldl_append]
      rfl
    have hokd : (l.drop i).all (dOk 10) = true := by
      rw [List.all_eq_true] at hok ⊢
      exact fun x hx => hok x (List.mem_of_mem_drop hx)
    have hoki : dOk 10 (l[i]'hlt) = true := (List.all_eq_true.1 hok) _ (List.getElem_mem hlt)
    have hdi := (dOk_iff 10 _).1 hoki
    simp only [abutmentref02_Number.l2]
    rw [if_pos (by rw [size_mk]; omega)]
    by_cases hbig : valL 10 (l.take i) 0 > 1152921504606846975
    · rw [if_pos hbig]
      have := valL_ge 10 (by omega) (l.drop i) _ hokd h0
      unfold outN
      rw [if_neg (by omega)]
    · rw [if_neg hbig, if_pos (by omega), bt_mk l i hlt, value_f _ k (by omega)]
      simp only [Option.bind_some]
      have hin := ih (i + 1) k (by omega) (by omega) (by omega) (by rw [hnext]; omega)
      rw [hnext] at hin
      rw [valR_dig _ hoki, hw, show IntKind.u64.wrap (10 : Int) = 10 from by decide]
      have hu : ∀ x : Int, 0 ≤ x → x ≤ 18446744073709551615 → IntKind.u64.wrap x = x := by
        intro x h1 h2
        simp [IntKind.wrap, IntKind.bits, IntKind.signed]
        omega
      rw [hu (valL 10 (l.take i) 0 * 10) (by omega) (by omega), hu (digR (l[i]'hlt).toNat) (by omega) (by omega), hu (valL 10 (l.take i) 0 * 10 + digR (l[i]'hlt).toNat) (by omega) (by omega)]
      exact hin
theorem valL_pow (j : Nat) : ∀ (r : List UInt8) (n : Int), r.all (dOk 10) = true → 0 ≤ n → j ≤ r.length → n * 10 ^ j ≤ valL 10 r n := by
  induction j with
  | zero => intro r n hr hn _; have := valL_ge 10 (by omega) r n hr hn; simpa using this
  | succ j ih =>
    intro r n hr hn hj
    cases r with
    | nil => simp at hj
    | cons c r =>
      rw [List.all_cons, Bool.and_eq_true, dOk_iff] at hr
      rw [valL_cons]
      have h1 := ih r (n * 10 + digR c.toNat) hr.2 (by omega) (by simpa using hj)
      have h2 : n * 10 ^ (j + 1) ≤ (n * 10 + digR c.toNat) * 10 ^ j := by
        rw [Int.pow_succ, Int.add_mul, Int.mul_comm ((10 : Int) ^ j) 10, ← Int.mul_assoc]
        have : 0 ≤ digR c.toNat * 10 ^ j := Int.mul_nonneg hr.1.1 (Int.pow_nonneg (by omega))
        omega
      omega
theorem refnum_j2 (most : Int) (hm0 : 0 ≤ most) (hm1 : most ≤ 1152921504606846975) (l : List UInt8) (hok : l.all (dOk 10) = true) (hz : 1 < l.length → ∃ c r, l = c :: r ∧ 1 ≤ digR c.toNat) (k : Nat) (hk : 30 < k) : abutmentref02_Number.j2 k ⟨l.toArray⟩ 10 most = some (outN most l) := by
  obtain ⟨k, rfl⟩ : ∃ m, k = m + 1 := ⟨k - 1, by omega⟩
  simp only [abutmentref02_Number.j2]
  by_cases h : l.length ≤ 19
  · rw [if_neg (by rw [size_mk]; omega)]
    exact refnum_l2 most hm0 hm1 l h hok l.length 0 k (by omega) (by omega) (by omega) (by simp [valL])
  · rw [if_pos (by rw [size_mk]; omega)]
    obtain ⟨c, r, rfl, hc⟩ := hz (by omega)
    rw [List.all_cons, Bool.and_eq_true] at hok
    have := valL_pow 19 r (0 * 10 + digR c.toNat) hok.2 (by omega) (by simp at h; omega)
    have h10 : (10 : Int) ^ 19 = 10000000000000000000 := by decide
    rw [h10] at this
    unfold outN
    rw [valL_cons, if_neg (by omega)]
theorem refnum_l1 (most : Int) (hm0 : 0 ≤ most) (hm1 : most ≤ 1152921504606846975) : ∀ (n : Nat) (l : List UInt8) (k : Nat), l.length = n → l.length ≤ 1000000 → l.all (dOk 10) = true → n + 40 < k → abutmentref02_Number.l1 k ⟨l.toArray⟩ 10 most = some (outN most l) := by
  intro n
  induction n with
  | zero =>
    intro l k hl _ hok hk
    obtain ⟨k, rfl⟩ : ∃ m, k = m + 1 := ⟨k - 1, by omega⟩
    simp only [abutmentref02_Number.l1]
    rw [if_neg (by rw [size_mk]; omega)]
    exact refnum_j2 most hm0 hm1 l hok (fun h => by omega) k (by omega)
  | succ n ih =>
    intro l k hl hle hok hk
    obtain ⟨k, rfl⟩ : ∃ m, k = m + 1 := ⟨k - 1, by omega⟩
    simp only [abutmentref02_Number.l1]
    by_cases h1 : 1 < l.length
    · rw [if_pos (by rw [size_mk]; omega), if_pos (by rw [size_mk]; omega)]
      cases l with
      | nil => simp at h1
      | cons c r =>
        have hb := bt_mk (c :: r) 0 (by simp)
        rw [show ((0 : Nat) : Int) = 0 from rfl] at hb
        rw [hb]
        rw [List.all_cons, Bool.and_eq_true] at hok
        have h48 : ((c.toNat : Int) = 48) ↔ c = 48 := u8_eq c 48
        by_cases hc : c = 48
        · subst hc
          rw [if_pos (by rfl), if_pos (by rw [size_mk]; omega), ext_mk, size_mk, show List.take ((48 :: r).length - 1) (List.drop 1 ((48 : UInt8) :: r)) = r from by simp]
          rw [ih r k (by simpa using hl) (by simp at hle; omega) hok.2 (by omega)]
          rfl
        · rw [if_neg (show ¬ (((c :: r)[0]'(by simp)).toNat : Int) = 48 from fun h => hc (h48.1 h))]
          refine refnum_j2 most hm0 hm1 (c :: r) (by rw [List.all_cons, hok.1, hok.2]; rfl) (fun _ => ⟨c, r, rfl, ?_⟩) k (by omega)
          have hd := (dOk_iff 10 c).1 hok.1
          have : digR c.toNat ≠ 0 := by
            intro h0
            unfold digR at h0
            have hlt := c.toNat_lt
            split at h0
            · exact hc (h48.1 (by omega))
            · split at h0
              · omega
              · split at h0
                · omega
                · omega
          omega
    · rw [if_neg (by rw [size_mk]; omega)]
      exact refnum_j2 most hm0 hm1 l hok (fun h => absurd h h1) k (by omega)
theorem refnum_l0 (most : Int) (hm0 : 0 ≤ most) (hm1 : most ≤ 1152921504606846975) (l : List UInt8) (hl : l.length ≤ 1000000) : ∀ (d i k : Nat), l.length - i = d → i ≤ l.length → d + l.length + 60 < k → (l.take i).all (dOk 10) = true →
    abutmentref02_Number.l0 k ⟨l.toArray⟩ 10 most (i : Int) = some (if l.all (dOk 10) = true then outN most l else (0, 3)) := by
  intro d
  induction d with
  | zero =>
    intro i k hd hi hk hok
    obtain ⟨k, rfl⟩ : ∃ m, k = m + 1 := ⟨k - 1, by omega⟩
    rw [List.take_of_length_le (by omega)] at hok
    simp only [abutmentref02_Number.l0]
    rw [if_neg (by rw [size_mk]; omega), if_pos hok]
    exact refnum_l1 most hm0 hm1 l.length l k rfl hl hok (by omega)
  | succ d ih =>
    intro i k hd hi hk hok
    obtain ⟨k, rfl⟩ : ∃ m, k = m + 1 := ⟨k - 1, by omega⟩
    have hlt : i < l.length := by omega
    have hw : wrap64 ((i : Int) + 1) = ((i + 1 : Nat) : Int) := by rw [wrap_id _ (by omega) (by omega)]; omega
    simp only [abutmentref02_Number.l0]
    rw [if_pos (by rw [size_mk]; omega), if_pos (by omega), bt_mk l i hlt, value_f _ k (by omega)]
    simp only [Option.bind_some]
    by_cases hc : dOk 10 (l[i]'hlt) = true
    · rw [if_neg (fun h => (valR_ok _).1 h hc), hw]
      exact ih (i + 1) k (by omega) (by omega) (by omega) (by rw [← List.take_append_getElem hlt, List.all_append, hok]; simp [hc])
    · rw [if_pos ((valR_ok _).2 hc), if_neg (fun h => hc ((List.all_eq_true.1 h) _ (List.getElem_mem hlt)))]
theorem ref_numberM (most : Int) (hm0 : 0 ≤ most) (hm1 : most ≤ 1152921504606846975) (s : ByteArray) (hs : s.size ≤ 1000000) (k : Nat) (hk : 2 * s.size + 60 < k) : abutmentref02_Number.f k s 10 most = some (numberB s 10 most) := by
  have hsl := size_list s
  rw [numberB_spec s 10 most (by omega) (by omega)]
  unfold abutmentref02_Number.f
  by_cases h : s.data.toList = []
  · have e0 : s.size = 0 := by rw [hsl, h]; rfl
    rw [if_pos h, if_pos (by omega)]
  · have hp : 0 < s.data.toList.length := List.length_pos_iff.2 h
    rw [if_neg h, if_neg (by omega)]
    have := refnum_l0 most hm0 hm1 s.data.toList (by omega) s.data.toList.length 0 k (by omega) (by omega) (by omega) (by rfl)
    rw [mk_eta] at this
    exact this
theorem ref_number (s : ByteArray) (hs : s.size ≤ 1000000) (k : Nat) (hk : 2 * s.size + 60 < k) : abutmentref02_Number.f k s 10 1073741824 = some (numberB s 10 1073741824) := ref_numberM 1073741824 (by omega) (by omega) s hs k hk


end Go.Proofs.Ytdjmgmiaognncaa.X
namespace Go.Proofs.Ytdjmgmiaognncaa.X
open Go.RowKit Go.Proofs.YtdjmgmiaognncaaW.PrintWords Go.Proofs.YtdjmgmiaognncaaW.PrintLast Go.Proofs.YtdjmgmiaognncaaW.PrintMore
attribute [local go_sem] max2_int min2_int max_two min_two max_three min_three max_four min_four   -- for this text's walks alone
set_option linter.unusedVariables false
set_option linter.unusedSimpArgs false

/-! ### pure text 50: host -/
theorem hexR_high (r : Nat) (h : 128 ≤ r) : hexR r = false := by unfold hexR; simp; omega
theorem plainR_high (r : Nat) (h : 128 ≤ r) : plainR r = false := by unfold plainR signR; simp; omega
/-- host.registered over a list of octets. -/
def regGo : List UInt8 → Nat → Bool
  | [], left => decide (left = 0)
  | c :: l, left => if 0 < left then (if hexR c.toNat = true then regGo l (left - 1) else false) else if c.toNat = 37 then regGo l 2 else if plainR c.toNat = true then regGo l 0 else false
theorem regFrom_list (s : ByteArray) : ∀ (f pos left : Nat), s.size ≤ pos + f → pos ≤ s.size → regFrom s f pos left = regGo (s.data.toList.drop pos) left := by
  intro f
  induction f with
  | zero =>
    intro pos left hf hpos
    rw [List.drop_eq_nil_iff.2 (by rw [← size_list]; omega)]
    rfl
  | succ f ih =>
    intro pos left hf hpos
    by_cases h : pos < s.size
    · have hl : pos < s.data.toList.length := by rw [← size_list]; exact h
      simp only [regFrom]
      rw [if_pos h]
      have hb2 : s[pos]'h = s.data.toList[pos]'hl := by simp; rfl
      rw [List.drop_eq_getElem_cons hl]
      simp only [regGo]
      rw [← hb2]
      by_cases ha : (s[pos]'h).toNat < 128
      · rw [decode_ascii s pos h ha, ih (pos + 1) _ (by omega) (by omega), ih (pos + 1) _ (by omega) (by omega), ih (pos + 1) _ (by omega) (by omega)]
      · have hhi := decode_high s pos h (by omega)
        rw [hexR_high _ hhi.1, plainR_high _ hhi.1, hexR_high _ (by omega), plainR_high _ (by omega), if_neg (show ¬ (Utf8.decode s pos).1 = 37 from by have := hhi.1; omega), if_neg (show ¬ (s[pos]'h).toNat = 37 from by omega)]
        rfl
    · rw [regFrom_end s (f + 1) pos left h, List.drop_eq_nil_iff.2 (by rw [← size_list]; omega)]
      rfl
theorem registered_list (s : ByteArray) : registeredB s = (!s.data.toList.isEmpty && regGo s.data.toList 0) := by
  unfold registeredB
  rw [regFrom_list s s.size 0 0 (by omega) (by omega), Lib.toList_data, List.drop_zero]
theorem litR_high (r : Nat) (h : 128 ≤ r) : litR r = false := by unfold litR; rw [hexR_high r h]; simp; omega
def litp (c : UInt8) : Bool := litR c.toNat
theorem litFrom_false (s : ByteArray) : ∀ (f pos : Nat), litFrom s f pos false = false := by
  intro f
  induction f with
  | zero => intro pos; rfl
  | succ f ih =>
    intro pos
    simp only [litFrom, Bool.false_and, ih]
    split <;> rfl
theorem litFrom_list (s : ByteArray) : ∀ (f pos : Nat) (ok : Bool), s.size ≤ pos + f → pos ≤ s.size → litFrom s f pos ok = (ok && (s.data.toList.drop pos).all litp) := by
  intro f
  induction f with
  | zero =>
    intro pos ok hf hpos
    rw [List.drop_eq_nil_iff.2 (by rw [← size_list]; omega)]
    simp [litFrom]
  | succ f ih =>
    intro pos ok hf hpos
    by_cases h : pos < s.size
    · have hl : pos < s.data.toList.length := by rw [← size_list]; exact h
      simp only [litFrom]
      rw [if_pos h]
      have hb2 : s[pos]'h = s.data.toList[pos]'hl := by simp; rfl
      rw [List.drop_eq_getElem_cons hl, List.all_cons, ← hb2]
      by_cases ha : (s[pos]'h).toNat < 128
      · rw [decode_ascii s pos h ha, ih (pos + 1) _ (by omega) (by omega), Bool.and_assoc]
        rfl
      · have hhi := decode_high s pos h (by omega)
        rw [litR_high _ hhi.1, Bool.and_false, litFrom_false, show litp (s[pos]'h) = false from litR_high _ (by omega)]
        simp
    · rw [litFrom_end s (f + 1) pos ok h, List.drop_eq_nil_iff.2 (by rw [← size_list]; omega)]
      simp
theorem litIn1_list (s : ByteArray) : (litIn1 s).data.toList = Lib.trimPrefix s.data.toList [91] := by simp [litIn1]
theorem litIn_list (s : ByteArray) : (litIn s).data.toList = Lib.trimSuffix (Lib.trimPrefix s.data.toList [91]) [93] := by simp [litIn, litIn1]
/-- host.literal: a text is a literal only if it is one. -/
theorem literal_list (s : ByteArray) : literalB s = true ↔ ∃ w : List UInt8, w ≠ [] ∧ w.all litp = true ∧ s.data.toList = 91 :: (w ++ [93]) := by
  unfold literalB
  rw [litFrom_list _ _ 0 _ (by omega) (by omega), List.drop_zero, Lib.toList_data, litIn_list, litIn1_list]
  generalize s.data.toList = l
  unfold Lib.trimPrefix Lib.trimSuffix Lib.hasPrefix Lib.hasSuffix
  constructor
  · intro h
    rw [Bool.and_eq_true, Bool.and_eq_true, Bool.and_eq_true] at h
    obtain ⟨⟨hp, ha⟩, hs, he⟩ := h
    rw [if_pos hp] at ha hs he
    rw [if_pos hs] at ha he
    rw [List.isPrefixOf_iff_prefix] at hp
    obtain ⟨r, hr⟩ := hp
    subst hr
    have e3 : (([91] : List UInt8) ++ r).drop ([91] : List UInt8).length = r := rfl
    rw [e3] at ha hs he
    rw [List.isSuffixOf_iff_suffix] at hs
    obtain ⟨w, hw⟩ := hs
    subst hw
    have e4 : (w ++ ([93] : List UInt8)).take ((w ++ ([93] : List UInt8)).length - ([93] : List UInt8).length) = w := by simp
    rw [e4] at ha he
    exact ⟨w, by intro h; subst h; simp at he, ha, rfl⟩
  · rintro ⟨w, hw, ha, rfl⟩
    have e1 : ([91] : List UInt8).isPrefixOf (91 :: (w ++ [93])) = true := by rw [List.isPrefixOf_iff_prefix]; exact ⟨w ++ [93], rfl⟩
    have e2 : ([93] : List UInt8).isSuffixOf (w ++ [93]) = true := by rw [List.isSuffixOf_iff_suffix]; exact ⟨w, rfl⟩
    have e3 : ((91 : UInt8) :: (w ++ [93])).drop ([91] : List UInt8).length = w ++ [93] := rfl
    have e4 : (w ++ ([93] : List UInt8)).take ((w ++ ([93] : List UInt8)).length - ([93] : List UInt8).length) = w := by simp
    rw [if_pos e1, e1, e3, if_pos e2, e2, e4, ha]
    cases w with
    | nil => exact absurd rfl hw
    | cons _ _ => rfl
theorem lit_not (c : UInt8) (h : litp c = true) : c ≠ 93 := by rintro rfl; revert h; decide
def namech (c : UInt8) : Bool := decide (c.toNat = 37) || (hexR c.toNat || plainR c.toNat)
theorem namech_not (c : UInt8) (h : namech c = true) : c ≠ 58 ∧ c ≠ 93 ∧ c ≠ 91 := by
  refine ⟨?_, ?_, ?_⟩ <;> (rintro rfl; revert h; decide)
theorem regGo_chars : ∀ (l : List UInt8) (left : Nat), regGo l left = true → l.all namech = true
  | [], _, _ => rfl
  | c :: l, left, h => by
    simp only [regGo] at h
    rw [List.all_cons, Bool.and_eq_true]
    unfold namech
    by_cases h1 : 0 < left
    · rw [if_pos h1] at h
      by_cases h2 : hexR c.toNat = true
      · rw [if_pos h2] at h
        exact ⟨by rw [h2]; simp, regGo_chars l _ h⟩
      · rw [if_neg h2] at h; cases h
    · rw [if_neg h1] at h
      by_cases h2 : c.toNat = 37
      · rw [if_pos h2] at h
        exact ⟨by rw [decide_eq_true h2]; simp, regGo_chars l _ h⟩
      · rw [if_neg h2] at h
        by_cases h3 : plainR c.toNat = true
        · rw [if_pos h3] at h
          exact ⟨by rw [h3]; simp, regGo_chars l _ h⟩
        · rw [if_neg h3] at h; cases h
/-- How many octets the name has that begins a text; none: a sign of percent has no two digits behind it. -/
def spanA : List UInt8 → Nat → Option Nat
  | [], left => if left = 0 then some 0 else none
  | c :: l, left => if 0 < left then (if hexR c.toNat = true then (spanA l (left - 1)).map (· + 1) else none) else if c.toNat = 37 then (spanA l 2).map (· + 1) else if plainR c.toNat = true then (spanA l 0).map (· + 1) else some 0
theorem spanA_some : ∀ (l : List UInt8) (left n : Nat), spanA l left = some n → n ≤ l.length ∧ regGo (l.take n) left = true ∧ ∀ m, n < m → m ≤ l.length → regGo (l.take m) left = false
  | [], left, n, h => by
    simp only [spanA] at h
    by_cases h0 : left = 0
    · rw [if_pos h0] at h
      obtain rfl := Option.some.inj h
      exact ⟨Nat.le_refl _, by simp [regGo, h0], fun m hm hl => by simp at hl; omega⟩
    · rw [if_neg h0] at h; cases h
  | c :: l, left, n, h => by
    simp only [spanA] at h
    by_cases h1 : 0 < left
    · rw [if_pos h1] at h
      by_cases h2 : hexR c.toNat = true
      · rw [if_pos h2] at h
        obtain ⟨n', hn', rfl⟩ := Option.map_eq_some_iff.1 h
        obtain ⟨a, b, d⟩ := spanA_some l _ n' hn'
        refine ⟨by simpa using a, by simp only [List.take_succ_cons, regGo]; rw [if_pos h1, if_pos h2]; exact b, fun m hm hl => ?_⟩
        obtain ⟨m, rfl⟩ : ∃ q, m = q + 1 := ⟨m - 1, by omega⟩
        simp only [List.take_succ_cons, regGo]
        rw [if_pos h1, if_pos h2]
        exact d m (by omega) (by simpa using hl)
      · rw [if_neg h2] at h; cases h
    · rw [if_neg h1] at h
      have hl0 : left = 0 := by omega
      by_cases h2 : c.toNat = 37
      · rw [if_pos h2] at h
        obtain ⟨n', hn', rfl⟩ := Option.map_eq_some_iff.1 h
        obtain ⟨a, b, d⟩ := spanA_some l _ n' hn'
        refine ⟨by simpa using a, by simp only [List.take_succ_cons, regGo]; rw [if_neg h1, if_pos h2]; exact b, fun m hm hl => ?_⟩
        obtain ⟨m, rfl⟩ : ∃ q, m = q + 1 := ⟨m - 1, by omega⟩
        simp only [List.take_succ_cons, regGo]
        rw [if_neg h1, if_pos h2]
        exact d m (by omega) (by simpa using hl)
      · rw [if_neg h2] at h
        by_cases h3 : plainR c.toNat = true
        · rw [if_pos h3] at h
          obtain ⟨n', hn', rfl⟩ := Option.map_eq_some_iff.1 h
          obtain ⟨a, b, d⟩ := spanA_some l _ n' hn'
          refine ⟨by simpa using a, by simp only [List.take_succ_cons, regGo]; rw [if_neg h1, if_neg h2, if_pos h3]; exact b, fun m hm hl => ?_⟩
          obtain ⟨m, rfl⟩ : ∃ q, m = q + 1 := ⟨m - 1, by omega⟩
          simp only [List.take_succ_cons, regGo]
          rw [if_neg h1, if_neg h2, if_pos h3]
          exact d m (by omega) (by simpa using hl)
        · rw [if_neg h3] at h
          obtain rfl := Option.some.inj h
          refine ⟨Nat.zero_le _, by simp [regGo, hl0], fun m hm hl => ?_⟩
          obtain ⟨m, rfl⟩ : ∃ q, m = q + 1 := ⟨m - 1, by omega⟩
          simp only [List.take_succ_cons, regGo]
          rw [if_neg h1, if_neg h2, if_neg h3]
theorem spanA_none : ∀ (l : List UInt8) (left : Nat), spanA l left = none → ∀ m, m ≤ l.length → regGo (l.take m) left = true → ∃ c, l[m]? = some c ∧ namech c = true
  | [], left, h, m, hm, hr => by
    simp only [spanA] at h
    by_cases h0 : left = 0
    · rw [if_pos h0] at h; cases h
    · simp [regGo, h0] at hr
  | c :: l, left, h, 0, hm, hr => by
    simp [regGo] at hr
    subst hr
    simp only [spanA] at h
    refine ⟨c, rfl, ?_⟩
    unfold namech
    rw [if_neg (by omega)] at h
    by_cases h2 : c.toNat = 37
    · rw [decide_eq_true h2]; rfl
    · rw [if_neg h2] at h
      by_cases h3 : plainR c.toNat = true
      · rw [h3]; simp
      · rw [if_neg h3] at h; cases h
  | c :: l, left, h, m + 1, hm, hr => by
    simp only [List.take_succ_cons, regGo] at hr
    simp only [spanA] at h
    rw [List.getElem?_cons_succ]
    by_cases h1 : 0 < left
    · rw [if_pos h1] at h hr
      by_cases h2 : hexR c.toNat = true
      · rw [if_pos h2] at h hr
        exact spanA_none l _ (Option.map_eq_none_iff.1 h) m (by simpa using hm) hr
      · rw [if_neg h2] at hr; cases hr
    · rw [if_neg h1] at h hr
      by_cases h2 : c.toNat = 37
      · rw [if_pos h2] at h hr
        exact spanA_none l _ (Option.map_eq_none_iff.1 h) m (by simpa using hm) hr
      · rw [if_neg h2] at h hr
        by_cases h3 : plainR c.toNat = true
        · rw [if_pos h3] at h hr
          exact spanA_none l _ (Option.map_eq_none_iff.1 h) m (by simpa using hm) hr
        · rw [if_neg h3] at hr; cases hr
/-- P11.1. -/
def litN (r : List UInt8) : Nat := if (r.takeWhile litp).length = 0 ∨ r[(r.takeWhile litp).length]? ≠ some 93 then 0 else (r.takeWhile litp).length + 2
def nameN : List UInt8 → Nat
  | [] => 0
  | c :: r => if c = 91 then litN r else (spanA (c :: r) 0).getD 0
/-- A port, if the number is one. -/
def portL (name : List UInt8) (p : Int × Int) : List UInt8 × Int × Int := if p.2 = 5 then ([], 0, 5) else if p.2 = 0 then (name, p.1, 0) else ([], 0, 3)
def parseL (g : List UInt8 → Int × Int) (l : List UInt8) : List UInt8 × Int × Int := if l = [] then ([], 0, 2) else if nameN l = 0 then ([], 0, 3) else if nameN l = l.length then (l, 80, 0) else if l[nameN l]? ≠ some 58 then ([], 0, 3) else portL (l.take (nameN l)) (g (l.drop (nameN l + 1)))
def litL (l : List UInt8) : Prop := ∃ w : List UInt8, w ≠ [] ∧ w.all litp = true ∧ l = 91 :: (w ++ [93])
def regL (l : List UInt8) : Prop := l ≠ [] ∧ regGo l 0 = true
/-- What host.cut gives. -/
def CutL (l a b : List UInt8) (has : Bool) : Prop := (has = true ∧ l = a ++ 58 :: b ∧ (58 : UInt8) ∉ b ∧ ((93 : UInt8) ∈ a ∨ (93 : UInt8) ∉ b)) ∨ (has = false ∧ a = l ∧ b = [] ∧ ((58 : UInt8) ∉ l ∨ ∃ u v, l = u ++ 93 :: v ∧ (93 : UInt8) ∉ u ∧ (58 : UInt8) ∉ v))
theorem lit_span (w t : List UInt8) (h : w.all litp = true) : (w ++ 93 :: t).takeWhile litp = w := by
  induction w with
  | nil => rfl
  | cons c w ih =>
    rw [List.all_cons, Bool.and_eq_true] at h
    rw [List.cons_append, List.takeWhile_cons, if_pos h.1, ih h.2]
theorem split_first {α : Type} (x : α) : ∀ (u u' v v' : List α), u ++ x :: v = u' ++ x :: v' → x ∉ u → x ∉ u' → u = u' ∧ v = v'
  | [], [], v, v', h, _, _ => ⟨rfl, by simpa using h⟩
  | [], y :: u', v, v', h, _, h2 => by simp at h; exact absurd (by rw [h.1]; simp) h2
  | y :: u, [], v, v', h, h1, _ => by simp at h; exact absurd (by rw [h.1]; simp) h1
  | y :: u, z :: u', v, v', h, h1, h2 => by
    simp only [List.cons_append, List.cons.injEq] at h
    obtain ⟨rfl, h⟩ := h
    obtain ⟨rfl, rfl⟩ := split_first x u u' v v' h (fun q => h1 (List.mem_cons_of_mem _ q)) (fun q => h2 (List.mem_cons_of_mem _ q))
    exact ⟨rfl, rfl⟩
theorem prog_parse (g : List UInt8 → Int × Int) (hg : ∀ l, ((58 : UInt8) ∈ l ∨ (93 : UInt8) ∈ l) → g l = (0, 3)) (l a b : List UInt8) (has : Bool) (hl : l ≠ []) (hc : CutL l a b has) :
    (¬ regL a ∧ ¬ litL a → parseL g l = ([], 0, 3)) ∧ (regL a ∨ litL a → parseL g l = if has = false then (a, 80, 0) else portL a (g b)) := by
  obtain ⟨c, r, rfl⟩ : ∃ c r, l = c :: r := by cases l with | nil => exact absurd rfl hl | cons c r => exact ⟨c, r, rfl⟩
  by_cases h91 : c = 91
  · subst h91
    have hnr : ¬ regL a := by
      rintro ⟨h0, h1⟩
      have hch := regGo_chars a 0 h1
      cases a with
      | nil => exact h0 rfl
      | cons x a' =>
        have hx : x = 91 := by
          rcases hc with ⟨_, h, _⟩ | ⟨_, h, _⟩
          · simp at h; exact h.1.symm
          · simp at h; exact h.1
        subst hx
        rw [List.all_cons, Bool.and_eq_true] at hch
        exact (namech_not _ hch.1).2.2 rfl
    have hN : nameN (91 :: r) = litN r := by simp [nameN]
    by_cases hz : litN r = 0
    · have hP : parseL g (91 :: r) = ([], 0, 3) := by unfold parseL; rw [if_neg (by simp), if_pos (by rw [hN, hz])]
      have hno : ¬ litL a := by
        rintro ⟨w, hw, ha, rfl⟩
        have hr : ∃ t, r = w ++ 93 :: t := by
          rcases hc with ⟨_, h, _⟩ | ⟨_, h, _⟩
          · simp at h; exact ⟨58 :: b, by rw [h]⟩
          · simp at h; exact ⟨[], by rw [← h]⟩
        obtain ⟨t, rfl⟩ := hr
        unfold litN at hz
        rw [lit_span w t ha] at hz
        have hlen : 0 < w.length := List.length_pos_iff.2 hw
        rw [if_neg (by simp; omega)] at hz
        omega
      exact ⟨fun _ => hP, fun h => by rcases h with h | h; exact absurd h hnr; exact absurd h hno⟩
    · have hlit : ∃ w t, w ≠ [] ∧ w.all litp = true ∧ r = w ++ 93 :: t := by
        unfold litN at hz
        by_cases hq : (r.takeWhile litp).length = 0 ∨ r[(r.takeWhile litp).length]? ≠ some 93
        · rw [if_pos hq] at hz; exact absurd rfl hz
        · have h1 : ¬ (r.takeWhile litp).length = 0 := fun h => hq (.inl h)
          have h2 : r[(r.takeWhile litp).length]? = some 93 := Classical.byContradiction fun h => hq (.inr h)
          refine ⟨r.takeWhile litp, r.drop ((r.takeWhile litp).length + 1), by intro h; rw [h] at h1; simp at h1, List.all_takeWhile, ?_⟩
          obtain ⟨h3, h4⟩ := List.getElem?_eq_some_iff.1 h2
          have h5 := List.drop_eq_getElem_cons h3
          rw [h4] at h5
          rw [← h5]
          have h6 : r.take (r.takeWhile litp).length = r.takeWhile litp := (List.prefix_iff_eq_take.1 (List.takeWhile_prefix litp)).symm
          conv => lhs; rw [← List.take_append_drop (r.takeWhile litp).length r, h6]
      obtain ⟨w, t, hw, ha, rfl⟩ := hlit
      have hwl : 0 < w.length := List.length_pos_iff.2 hw
      have hN2 : nameN (91 :: (w ++ 93 :: t)) = w.length + 2 := by
        rw [hN]
        unfold litN
        rw [lit_span w t ha, if_neg (by simp; omega)]
      have hw93 : (93 : UInt8) ∉ w := fun h => lit_not _ (List.all_eq_true.1 ha _ h) rfl
      have hL : litL a ↔ a = 91 :: (w ++ [93]) := by
        constructor
        · rintro ⟨w', hw', ha', rfl⟩
          have hr : ∃ t', w ++ 93 :: t = w' ++ 93 :: t' := by
            rcases hc with ⟨_, h, _⟩ | ⟨_, h, _⟩
            · simp at h; exact ⟨58 :: b, h⟩
            · simp at h; exact ⟨[], h.symm⟩
          obtain ⟨t', ht'⟩ := hr
          obtain ⟨rfl, _⟩ := split_first 93 w w' t t' ht' hw93 (fun h => lit_not _ (List.all_eq_true.1 ha' _ h) rfl)
          rfl
        · rintro rfl
          exact ⟨w, hw, ha, rfl⟩
      have htake : (91 :: (w ++ 93 :: t)).take (w.length + 2) = 91 :: (w ++ [93]) := by
        rw [List.take_succ_cons, List.take_append, List.take_of_length_le (by omega)]
        simp
      have hget : (91 :: (w ++ 93 :: t))[w.length + 2]? = t[0]? := by
        rw [List.getElem?_cons_succ, List.getElem?_append_right (by omega), show w.length + 1 - w.length = 1 from by omega]
        rfl
      have hdrop : (91 :: (w ++ 93 :: t)).drop (w.length + 2 + 1) = t.drop 1 := by
        rw [List.drop_succ_cons, List.drop_append, List.drop_eq_nil_iff.2 (by omega), show w.length + 2 - w.length = 2 from by omega]
        rfl
      have hPar : parseL g (91 :: (w ++ 93 :: t)) = if t = [] then (91 :: (w ++ 93 :: t), 80, 0) else if t[0]? ≠ some 58 then ([], 0, 3) else portL (91 :: (w ++ [93])) (g (t.drop 1)) := by
        unfold parseL
        rw [hN2, if_neg (by simp), if_neg (by omega), hget, htake, hdrop]
        by_cases ht : t = []
        · subst ht
          rw [if_pos (by simp), if_pos rfl]
        · rw [if_neg ht, if_neg (by have := List.length_pos_iff.2 ht; simp; omega)]
      rcases hc with ⟨rfl, h, hb, hj⟩ | ⟨rfl, rfl, rfl, h⟩
      · -- a colon
        by_cases hae : a = 91 :: (w ++ [93])
        · subst hae
          have ht : t = 58 :: b := by simpa using h
          subst ht
          refine ⟨fun q => absurd (hL.2 rfl) q.2, fun _ => ?_⟩
          rw [hPar, if_neg (by simp), if_neg (by simp), if_neg (by simp)]
          rfl
        · refine ⟨fun _ => ?_, fun q => by rcases q with q | q; exact absurd q hnr; exact absurd (hL.1 q) hae⟩
          rw [hPar]
          -- where is the last colon
          have ht : t ≠ [] := by
            rintro rfl
            -- then the last octet is 93
            have hb93 : (93 : UInt8) ∈ b := by
              rcases snoc_cases b with rfl | ⟨b', z, rfl⟩
              · have h2 : (91 :: w) ++ [93] = a ++ [58] := by simpa using h
                have := (List.append_inj' h2 rfl).2
                simp at this
              · have h2 : (91 :: w) ++ [93] = (a ++ 58 :: b') ++ [z] := by simpa using h
                have := (List.append_inj' h2 rfl).2
                simp at this
                rw [← this]; simp
            have ha93 : (93 : UInt8) ∈ a := by rcases hj with h | h; exact h; exact absurd hb93 h
            -- 93 in a, and 93 in b: two of them
            obtain ⟨b1, b2, rfl⟩ := List.append_of_mem hb93
            obtain ⟨a1, a2, rfl⟩ := List.append_of_mem ha93
            have h2 : (91 :: w) ++ 93 :: [] = a1 ++ 93 :: (a2 ++ 58 :: (b1 ++ 93 :: b2)) := by simpa using h
            have hcnt := congrArg (List.count (93 : UInt8)) h2
            have hc0 : List.count (93 : UInt8) w = 0 := List.count_eq_zero.2 hw93
            simp [hc0] at hcnt
            omega
          rw [if_neg ht]
          by_cases h58 : t[0]? ≠ some 58
          · rw [if_pos h58]
          · rw [if_neg h58]
            obtain ⟨x, t', rfl⟩ : ∃ x t', t = x :: t' := by cases t with | nil => exact absurd rfl ht | cons x t' => exact ⟨x, t', rfl⟩
            have hx : x = 58 := by simpa using h58
            subst hx
            have hm : (58 : UInt8) ∈ t' := by
              refine Classical.byContradiction fun hno => hae ?_
              have h2 : (91 :: (w ++ [93])) ++ 58 :: t' = a ++ 58 :: b := by simpa using h
              have h3 := congrArg List.reverse h2
              simp only [List.reverse_append, List.reverse_cons, List.append_assoc] at h3
              have h4 := split_first 58 t'.reverse b.reverse _ _ (by simpa using h3) (by simpa using hno) (by simpa using hb)
              have h5 := congrArg List.reverse h4.2
              simpa using h5.symm
            rw [show (58 :: t').drop 1 = t' from rfl, hg t' (.inl hm)]
            rfl
      · by_cases ht : t = []
        · subst ht
          refine ⟨fun q => absurd (hL.2 rfl) q.2, fun _ => ?_⟩
          rw [hPar, if_pos rfl, if_pos rfl]
        · refine ⟨fun _ => ?_, fun q => ?_⟩
          · rw [hPar, if_neg ht]
            by_cases h58 : t[0]? ≠ some 58
            · rw [if_pos h58]
            · exfalso
              have hm : (58 : UInt8) ∈ t := List.mem_of_getElem? (Classical.byContradiction h58)
              rcases h with h | ⟨u, v, h1, h2, h3⟩
              · exact h (by simp [hm])
              · have := split_first 93 (91 :: w) u t v (by simpa using h1) (by simp [hw93]) h2
                rw [this.2] at hm
                exact h3 hm
          · exfalso
            rcases q with q | q
            · exact hnr q
            · have := hL.1 q
              simp at this
              exact ht this
  · have hnl : ¬ litL a := by
      rintro ⟨w, _, _, rfl⟩
      rcases hc with ⟨_, h, _⟩ | ⟨_, h, _⟩
      · simp at h; exact h91 h.1
      · simp at h; exact h91 h.1.symm
    have hN : nameN (c :: r) = (spanA (c :: r) 0).getD 0 := by simp [nameN, h91]
    generalize hlq : c :: r = l at *
    cases hS : spanA l 0 with
    | none =>
      have hP : parseL g l = ([], 0, 3) := by unfold parseL; rw [if_neg hl, if_pos (by rw [hN, hS]; rfl)]
      have hnr : ¬ regL a := by
        rintro ⟨_, h1⟩
        rcases hc with ⟨_, h, _⟩ | ⟨_, h, _⟩
        · have := spanA_none l 0 hS a.length (by rw [h]; simp) (by rw [h]; simpa using h1)
          obtain ⟨x, hx, hx2⟩ := this
          rw [h] at hx
          simp at hx
          exact (namech_not x hx2).1 hx.symm
        · subst h
          obtain ⟨x, hx, _⟩ := spanA_none a 0 hS a.length (Nat.le_refl _) (by simpa using h1)
          simp at hx
      exact ⟨fun _ => hP, fun q => by rcases q with q | q; exact absurd q hnr; exact absurd q hnl⟩
    | some n =>
      rw [hS] at hN
      simp only [Option.getD_some] at hN
      obtain ⟨hnle, hreg, hmore⟩ := spanA_some l 0 n hS
      have hch := regGo_chars _ _ hreg
      rcases hc with ⟨rfl, h, hb, hj⟩ | ⟨rfl, rfl, rfl, h⟩
      · have hal : a.length < l.length := by rw [h]; simp
        have hta : l.take a.length = a := by rw [h]; simp
        have hga : l[a.length]? = some 58 := by rw [h]; simp
        have hna : n ≤ a.length := by
          refine Nat.le_of_not_lt fun hlt => ?_
          have hm : (58 : UInt8) ∈ l.take n := by
            apply List.mem_of_getElem? (i := a.length)
            rw [List.getElem?_take_of_lt hlt, hga]
          exact (namech_not _ (List.all_eq_true.1 hch _ hm)).1 rfl
        rcases Nat.lt_or_ge n a.length with hlt | hge
        · have hnr : ¬ regL a := by
            rintro ⟨_, h1⟩
            have := hmore a.length hlt (by omega)
            rw [hta, h1] at this
            cases this
          refine ⟨fun _ => ?_, fun q => by rcases q with q | q; exact absurd q hnr; exact absurd q hnl⟩
          unfold parseL
          rw [if_neg hl, hN]
          by_cases h0 : n = 0
          · rw [if_pos h0]
          · rw [if_neg h0, if_neg (by omega)]
            by_cases h58 : l[n]? ≠ some 58
            · rw [if_pos h58]
            · rw [if_neg h58]
              have hm : (58 : UInt8) ∈ l.drop (n + 1) := by
                apply List.mem_of_getElem? (i := a.length - (n + 1))
                rw [List.getElem?_drop, show n + 1 + (a.length - (n + 1)) = a.length from by omega, hga]
              rw [hg _ (.inl hm)]
              rfl
        · obtain rfl : n = a.length := by omega
          rw [hta] at hreg
          have hdrop : l.drop (a.length + 1) = b := by rw [h]; simp
          constructor
          · rintro ⟨h1, _⟩
            have ha0 : a = [] := Classical.byContradiction fun h0 => h1 ⟨h0, hreg⟩
            unfold parseL
            rw [if_neg hl, hN, if_pos (by rw [ha0]; rfl)]
          · rintro (⟨h1, _⟩ | q)
            · have := List.length_pos_iff.2 h1
              unfold parseL
              rw [if_neg hl, hN, if_neg (by omega), if_neg (by omega), if_neg (by rw [hga]; simp), hta, hdrop]
              rfl
            · exact absurd q hnl
      · -- no colon behind the literal's end
        rcases Nat.lt_or_ge n a.length with hlt | hge
        · have hnr : ¬ regL a := by
            rintro ⟨_, h1⟩
            have := hmore a.length hlt (Nat.le_refl _)
            rw [List.take_length, h1] at this
            cases this
          refine ⟨fun _ => ?_, fun q => by rcases q with q | q; exact absurd q hnr; exact absurd q hnl⟩
          unfold parseL
          rw [if_neg hl, hN]
          by_cases h0 : n = 0
          · rw [if_pos h0]
          · rw [if_neg h0, if_neg (by omega)]
            by_cases h58 : a[n]? ≠ some 58
            · rw [if_pos h58]
            · rw [if_neg h58]
              have h58' : a[n]? = some 58 := Classical.byContradiction h58
              rcases h with h | ⟨u, v, rfl, h2, h3⟩
              · exact absurd (List.mem_of_getElem? h58') h
              · have hnu : n < u.length := by
                  refine Nat.lt_of_not_le fun hle => ?_
                  rw [List.getElem?_append_right hle] at h58'
                  have hm := List.mem_of_getElem? h58'
                  simp at hm
                  exact h3 hm
                have hm : (93 : UInt8) ∈ (u ++ 93 :: v).drop (n + 1) := by
                  rw [List.drop_append_of_le_length (by omega)]
                  simp
                rw [hg _ (.inr hm)]
                rfl
        · obtain rfl : n = a.length := by omega
          rw [List.take_length] at hreg
          refine ⟨fun q => absurd ⟨hl, hreg⟩ q.1, fun _ => ?_⟩
          unfold parseL
          rw [if_neg hl, hN, if_neg (by have := List.length_pos_iff.2 hl; omega), if_pos rfl, if_pos rfl]


end Go.Proofs.Ytdjmgmiaognncaa.X
namespace Go.Proofs.Ytdjmgmiaognncaa.X
open Go.RowKit Go.Proofs.YtdjmgmiaognncaaW.PrintWords Go.Proofs.YtdjmgmiaognncaaW.PrintLast Go.Proofs.YtdjmgmiaognncaaW.PrintMore
attribute [local go_sem] max2_int min2_int max_two min_two max_three min_three max_four min_four   -- for this text's walks alone
set_option linter.unusedVariables false
set_option linter.unusedSimpArgs false

/-! ### pure text 51: hostRef -/
theorem idx_split (c : UInt8) : ∀ l : List UInt8, (Lib.indexByte l c = -1 ∧ c ∉ l) ∨ ∃ u v, l = u ++ c :: v ∧ c ∉ u ∧ Lib.indexByte l c = (u.length : Int)
  | [] => .inl ⟨rfl, by simp⟩
  | b :: l => by
    unfold Lib.indexByte
    by_cases hb : (b == c) = true
    · rw [if_pos hb]
      exact .inr ⟨[], l, by rw [beq_iff_eq.1 hb]; rfl, by simp, rfl⟩
    · rw [if_neg hb]
      have hne : b ≠ c := fun h => hb (beq_iff_eq.2 h)
      rcases idx_split c l with ⟨h1, h2⟩ | ⟨u, v, h1, h2, h3⟩
      · rw [h1]
        exact .inl ⟨rfl, by simp [h2, Ne.symm hne]⟩
      · refine .inr ⟨b :: u, v, by rw [h1]; rfl, by simp [h2, Ne.symm hne], ?_⟩
        rw [h3, if_neg (fun hq => by rw [beq_iff_eq] at hq; omega)]
        simp
theorem last_split (s : ByteArray) : (Lib.lastIndexByte s 58 = -1 ∧ (58 : UInt8) ∉ s.data.toList) ∨ ∃ u v, s.data.toList = u ++ 58 :: v ∧ (58 : UInt8) ∉ v ∧ Lib.lastIndexByte s 58 = (u.length : Int) := by
  have hg : ∀ j (h : j < s.data.toList.length), ((s.data[j]!).toNat : Int) = 58 ↔ s.data.toList[j]'h = 58 := by
    intro j h
    have h2 : j < s.data.size := by simpa using h
    rw [getElem!_pos s.data j h2]
    rw [show s.data.toList[j]'h = s.data[j]'h2 from by simp]
    exact u8_eq _ 58
  rcases Lib.lastIndexByte_spec s 58 with ⟨h1, h2⟩ | ⟨i, h1, h2, h3, h4⟩
  · refine .inl ⟨h1, fun hm => ?_⟩
    obtain ⟨j, hj, he⟩ := List.getElem_of_mem hm
    exact h2 j (by rw [size_list]; exact hj) ((hg j hj).2 he)
  · have hi : i < s.data.toList.length := by rw [← size_list]; exact h1
    refine .inr ⟨s.data.toList.take i, s.data.toList.drop (i + 1), ?_, fun hm => ?_, ?_⟩
    · have h5 := List.drop_eq_getElem_cons hi
      rw [(hg i hi).1 h3] at h5
      rw [← h5, List.take_append_drop]
    · obtain ⟨j, hj, he⟩ := List.getElem_of_mem hm
      rw [List.getElem_drop] at he
      have hj2 : i + 1 + j < s.data.toList.length := by rw [List.length_drop] at hj; omega
      exact h4 (i + 1 + j) (by omega) (by rw [size_list]; exact hj2) ((hg _ hj2).2 he)
    · rw [h2, List.length_take]; omega
theorem cut_spec (s : ByteArray) (hs : s.size ≤ 140737488351232) : ∃ a b has, host_cut.f s = some (a, b, has) ∧ CutL s.data.toList a.data.toList b.data.toList has := by
  have hsl := size_list s
  unfold host_cut.f strings_LastIndexByte.f strings_IndexByte.f
  rw [if_pos hs]
  simp only [Option.bind_some]
  rw [show (93 : Int).toNat.toUInt8 = (93 : UInt8) from rfl]
  rcases last_split s with ⟨h1, h2⟩ | ⟨u, v, h1, h2, h3⟩
  · rw [h1]
    refine ⟨s, ⟨#[]⟩, false, ?_, .inr ⟨rfl, rfl, rfl, .inl h2⟩⟩
    by_cases h : (-1 : Int) < Lib.indexByte s.data.toList 93
    · rw [if_pos h]
    · rw [if_neg h, if_pos (by omega)]
  · rw [h3]
    have hul : u.length < s.data.toList.length := by rw [h1]; simp
    have hw : wrap64 ((u.length : Int) + 1) = ((u.length + 1 : Nat) : Int) := by rw [wrap_id _ (by omega) (by omega)]; omega
    have hcut : (if (u.length : Int) < 0 then some (s, (⟨#[]⟩ : ByteArray), false) else if 0 ≤ (u.length : Int) then if (u.length : Int) ≤ (s.size : Int) then if 0 ≤ wrap64 ((u.length : Int) + 1) then if wrap64 ((u.length : Int) + 1) ≤ (s.size : Int) then some (s.extract 0 (u.length : Int).toNat, s.extract (wrap64 ((u.length : Int) + 1)).toNat s.size, true) else none else none else none else none) = some (s.extract 0 u.length, s.extract (u.length + 1) s.size, true) := by
      rw [hw, if_neg (by omega), if_pos (by omega), if_pos (by omega), if_pos (by omega), if_pos (by omega)]
      rfl
    have ha : (s.extract 0 u.length).data.toList = u := by rw [Lib.extract_data, h1]; simp
    have hb : (s.extract (u.length + 1) s.size).data.toList = v := by
      rw [Lib.extract_data, List.take_of_length_le (by rw [List.length_drop]; omega), h1]
      simp
    rcases idx_split 93 s.data.toList with ⟨h4, h5⟩ | ⟨u', v', h4, h5, h6⟩
    · rw [h4, if_neg (by omega), hcut]
      refine ⟨_, _, _, rfl, .inl ⟨rfl, ?_, ?_, .inr ?_⟩⟩
      · rw [ha, hb]; exact h1
      · rw [hb]; exact h2
      · rw [hb]; rw [h1] at h5; intro hm; exact h5 (by simp [hm])
    · rw [h6]
      by_cases hlt : (u.length : Int) < (u'.length : Int)
      · rw [if_pos hlt]
        refine ⟨_, _, _, rfl, .inr ⟨rfl, rfl, rfl, .inr ⟨u', v', h4, h5, fun hm => h2 ?_⟩⟩⟩
        have e : v' = v.drop (u'.length - u.length) := by
          have e1 : s.data.toList.drop (u'.length + 1) = v' := by rw [h4]; simp
          have e2 : s.data.toList.drop (u.length + 1) = v := by rw [h1]; simp
          rw [← e1, ← e2, List.drop_drop]
          congr 1
          omega
        rw [e] at hm
        exact List.mem_of_mem_drop hm
      · rw [if_neg hlt, hcut]
        refine ⟨_, _, _, rfl, .inl ⟨rfl, ?_, ?_, .inl ?_⟩⟩
        · rw [ha, hb]; exact h1
        · rw [hb]; exact h2
        · rw [ha]
          have e1 : s.data.toList[u'.length]? = some 93 := by rw [h4]; simp
          rw [h1] at e1
          rcases Nat.lt_or_ge u'.length u.length with h7 | h7
          · rw [List.getElem?_append_left h7] at e1
            exact List.mem_of_getElem? e1
          · have : u'.length = u.length := by omega
            rw [this, List.getElem?_append_right (Nat.le_refl _)] at e1
            simp at e1
/-- The number behind a colon. -/
def portG (l : List UInt8) : Int × Int := numberB ⟨l.toArray⟩ 10 65535
theorem portG_bad (l : List UInt8) (h : (58 : UInt8) ∈ l ∨ (93 : UInt8) ∈ l) : portG l = (0, 3) := by
  unfold portG
  rw [numberB_spec _ 10 65535 (by omega) (by omega)]
  have hne : l ≠ [] := by rintro rfl; simp at h
  have hall : ¬ l.all (dOk 10) = true := by
    intro ha
    rcases h with h | h
    · have := List.all_eq_true.1 ha _ h; revert this; decide
    · have := List.all_eq_true.1 ha _ h; revert this; decide
  rw [show (⟨l.toArray⟩ : ByteArray).data.toList = l from by simp, if_neg hne, if_neg hall]
theorem portG_range (l : List UInt8) : 0 ≤ (portG l).1 ∧ (portG l).1 ≤ 65535 := by
  unfold portG
  rw [numberB_spec _ 10 65535 (by omega) (by omega)]
  split
  · exact ⟨by decide, by decide⟩
  · split
    · rename_i ha
      split
      · rename_i hv
        exact ⟨valL_ge 10 (by omega) _ 0 ha (by omega), hv⟩
      · exact ⟨by decide, by decide⟩
    · exact ⟨by decide, by decide⟩
def parseB (s : ByteArray) : ByteArray × Int × Int := (⟨(parseL portG s.data.toList).1.toArray⟩, (parseL portG s.data.toList).2.1, (parseL portG s.data.toList).2.2)
theorem dec_f (s : ByteArray) : digits_Dec.f s 65535 = some (portG s.data.toList) := by
  unfold digits_Dec.f digits_number.f portG
  rw [if_pos (by omega), mk_eta]
  rfl
theorem regL_iff (s : ByteArray) : registeredB s = true ↔ regL s.data.toList := by
  rw [registered_list, Bool.and_eq_true]
  unfold regL
  constructor
  · rintro ⟨h1, h2⟩
    exact ⟨(by intro h; rw [h] at h1; cases h1), h2⟩
  · rintro ⟨h1, h2⟩
    refine ⟨?_, h2⟩
    cases h : s.data.toList with
    | nil => exact absurd h h1
    | cons _ _ => rfl
theorem host_parse (s : ByteArray) (hs : s.size ≤ 140737488351232) (k : Nat) (hk : 2 < k) : host_Parse.f k s = some (parseB s) := by
  obtain ⟨k, rfl⟩ : ∃ m, k = m + 1 := ⟨k - 1, by omega⟩
  unfold host_Parse.f
  rw [Lib.toList_data]
  by_cases he : s.data.toList = []
  · rw [if_pos he]
    unfold parseB parseL
    rw [if_pos he]
  · rw [if_neg he]
    obtain ⟨a, b, has, hcut, hC⟩ := cut_spec s hs
    have hal : a.size ≤ 140737488351232 := by
      rw [size_list] at hs ⊢
      rcases hC with ⟨_, h, _⟩ | ⟨_, h, _⟩
      · rw [h] at hs; simp only [List.length_append] at hs; omega
      · rw [h]; exact hs
    obtain ⟨P1, P2⟩ := prog_parse portG portG_bad s.data.toList a.data.toList b.data.toList has he hC
    rw [hcut]
    simp only [Option.bind_some]
    unfold host_registered.f host_literal.f
    simp only [Option.bind_some]
    rw [if_pos hal]
    simp only [Option.bind_some]
    have hj : ∀ bad : Bool, host_Parse.j0 (k + 1) a b has bad = if bad = true then some ((⟨#[]⟩ : ByteArray), 0, 3) else some ((⟨(if has = false then (a.data.toList, (80 : Int), (0 : Int)) else portL a.data.toList (portG b.data.toList)).1.toArray⟩ : ByteArray), (if has = false then (a.data.toList, (80 : Int), (0 : Int)) else portL a.data.toList (portG b.data.toList)).2.1, (if has = false then (a.data.toList, (80 : Int), (0 : Int)) else portL a.data.toList (portG b.data.toList)).2.2) := by
      intro bad
      simp only [host_Parse.j0]
      cases bad with
      | true => rfl
      | false =>
        cases has with
        | false =>
          show some (a, (80 : Int), (0 : Int)) = some ((⟨a.data.toList.toArray⟩ : ByteArray), (80 : Int), (0 : Int))
          rw [mk_eta]
        | true =>
          show ((digits_Dec.f b 65535).bind fun bt106 => (if bt106.2 = 0 then (some (a, bt106.1, bt106.2)) else (if bt106.2 = 5 then (some ((⟨#[]⟩ : ByteArray), 0, bt106.2)) else (some ((⟨#[]⟩ : ByteArray), 0, 3))))) = some ((⟨(portL a.data.toList (portG b.data.toList)).1.toArray⟩ : ByteArray), (portL a.data.toList (portG b.data.toList)).2.1, (portL a.data.toList (portG b.data.toList)).2.2)
          rw [dec_f]
          simp only [Option.bind_some]
          unfold portL
          by_cases h0 : (portG b.data.toList).2 = 0
          · rw [if_pos h0, if_neg (by omega), if_pos h0, h0, mk_eta]
          · rw [if_neg h0]
            by_cases h5 : (portG b.data.toList).2 = 5
            · rw [if_pos h5, if_pos h5, h5]
            · rw [if_neg h5, if_neg h5, if_neg h0]
    have hreg := regL_iff a
    have hlit := literal_list a
    by_cases hr : registeredB a = true
    · rw [if_pos hr, hj false, if_neg (by simp)]
      unfold parseB
      rw [P2 (.inl (hreg.1 hr))]
    · rw [if_neg hr]
      cases hl : literalB a with
      | true =>
        rw [hj (!true), if_neg (by simp)]
        unfold parseB
        rw [P2 (.inr (hlit.1 hl))]
      | false =>
        rw [hj (!false), if_pos (show (!false) = true from rfl)]
        unfold parseB
        rw [P1 ⟨fun h => hr (hreg.2 h), fun h => by rw [hlit.2 h] at hl; cases hl⟩]
theorem refhex_f (c : UInt8) (k : Nat) (hk : 2 < k) : abutmentref11_hex.f k (c.toNat : Int) = some (hexR c.toNat) := by
  unfold abutmentref11_hex.f
  rw [value_f c k hk]
  simp only [Option.bind_some]
  have h : ∀ n : Fin 256, decide (valR n.val.toUInt8 < 16) = hexR n.val := by decide +kernel
  have h2 := h ⟨c.toNat, c.toNat_lt⟩
  simp only [] at h2
  rw [show c.toNat.toUInt8 = c from by simp] at h2
  rw [h2]
theorem takeWhile_stop {α : Type} (p : α → Bool) (u v : List α) (hu : u.all p = true) (hv : ∀ c r, v = c :: r → p c = false) : (u ++ v).takeWhile p = u := by
  induction u with
  | nil =>
    cases v with
    | nil => rfl
    | cons c r => rw [List.nil_append, List.takeWhile_cons, hv c r rfl]; rfl
  | cons c u ih =>
    rw [List.all_cons, Bool.and_eq_true] at hu
    rw [List.cons_append, List.takeWhile_cons, if_pos hu.1, ih hu.2]
theorem refname_l0 (a : UInt8) (r : List UInt8) (hr : r.length ≤ 140737488351000) : ∀ (d i k : Nat), r.length - i = d → i ≤ r.length → d + 4 < k → (r.take i).all litp = true →
    abutmentref11_Name.l0 k ⟨(a :: r).toArray⟩ ((i : Int) + 1) = some ((litN r : Nat) : Int) := by
  intro d
  induction d with
  | zero =>
    intro i k hd hi hk hall
    obtain ⟨k, rfl⟩ : ∃ m, k = m + 1 := ⟨k - 1, by omega⟩
    have hil : i = r.length := by omega
    subst hil
    rw [List.take_length] at hall
    simp only [abutmentref11_Name.l0]
    have htw : r.takeWhile litp = r := by have := takeWhile_stop litp r [] hall (by simp); simpa using this
    have hN : litN r = 0 := by unfold litN; rw [htw, if_pos (.inr (by simp))]
    rw [if_neg (by rw [size_mk, List.length_cons]; omega), hN]
    by_cases h1 : (r.length : Int) + 1 = 1
    · rw [if_pos h1]; rfl
    · rw [if_neg h1, if_pos (by rw [size_mk, List.length_cons]; omega)]; rfl
  | succ d ih =>
    intro i k hd hi hk hall
    obtain ⟨k, rfl⟩ : ∃ m, k = m + 1 := ⟨k - 1, by omega⟩
    have hlt : i < r.length := by omega
    have hb := bt_mk (a :: r) (i + 1) (by simp; omega)
    rw [show ((i + 1 : Nat) : Int) = (i : Int) + 1 from by omega, List.getElem_cons_succ] at hb
    have hw : wrap64 ((i : Int) + 1 + 1) = ((i + 1 : Nat) : Int) + 1 := by rw [wrap_id _ (by omega) (by omega)]; omega
    simp only [abutmentref11_Name.l0]
    rw [if_pos (by rw [size_mk, List.length_cons]; omega), if_pos (by omega), hb, refhex_f _ k (by omega), hw]
    simp only [Option.bind_some]
    generalize hc : r[i]'hlt = c
    have h58 : ((c.toNat : Int) = 58) ↔ c = 58 := u8_eq c 58
    have h46 : ((c.toNat : Int) = 46) ↔ c = 46 := u8_eq c 46
    have h93 : ((c.toNat : Int) = 93) ↔ c = 93 := u8_eq c 93
    have hp : litp c = (hexR c.toNat || (decide ((c.toNat : Int) = 58) || decide ((c.toNat : Int) = 46))) := by
      unfold litp litR
      congr 1
      congr 1 <;> (rw [Bool.eq_iff_iff, beq_iff_eq, decide_eq_true_iff]; omega)
    have hnext : litp c = true → abutmentref11_Name.l0 k ⟨(a :: r).toArray⟩ (((i + 1 : Nat) : Int) + 1) = some ((litN r : Nat) : Int) := fun hl =>
      ih (i + 1) k (by omega) (by omega) (by omega) (by rw [← List.take_append_getElem hlt, List.all_append, hall, hc]; simp [hl])
    by_cases hx : hexR c.toNat = true
    · rw [if_pos hx]
      exact hnext (by rw [hp, hx]; rfl)
    · rw [if_neg hx]
      by_cases h5 : (c.toNat : Int) = 58
      · rw [if_pos h5]
        exact hnext (by rw [hp, decide_eq_true h5]; simp)
      · rw [if_neg h5]
        by_cases h4 : (c.toNat : Int) = 46
        · rw [if_pos h4]
          exact hnext (by rw [hp, decide_eq_true h4]; simp)
        · rw [if_neg h4]
          have hnl : litp c = false := by rw [hp, decide_eq_false h5, decide_eq_false h4]; simpa using hx
          have htw : r.takeWhile litp = r.take i := by
            have := takeWhile_stop litp (r.take i) (r.drop i) hall (fun c' r' h => by
              rw [List.drop_eq_getElem_cons hlt, hc] at h
              simp at h
              rw [← h.1]; exact hnl)
            rwa [List.take_append_drop] at this
          have hlen : (r.take i).length = i := by rw [List.length_take]; omega
          by_cases h1 : (i : Int) + 1 = 1
          · rw [if_pos h1]
            unfold litN
            rw [htw, hlen, if_pos (.inl (by omega))]
            rfl
          · rw [if_neg h1, if_neg (by rw [size_mk, List.length_cons]; omega)]
            unfold litN
            rw [htw, hlen, List.getElem?_eq_getElem hlt, hc]
            by_cases h9 : (c.toNat : Int) = 93
            · rw [if_pos h9, if_neg (by rw [h93.1 h9]; simp; omega)]
              rw [show ((i + 1 : Nat) : Int) + 1 = ((i + 2 : Nat) : Int) from by omega]
            · rw [if_neg h9, if_pos (.inr (by simp; exact fun h => h9 (h93.2 h)))]
              rfl
def alnumB (c : UInt8) : Bool := (48 ≤ c.toNat && c.toNat ≤ 57) || ((65 ≤ c.toNat && c.toNat ≤ 90) || (97 ≤ c.toNat && c.toNat ≤ 122))
theorem alnum_nest {α : Type} (p48 p57 p65 p90 p97 : Prop) [Decidable p48] [Decidable p57] [Decidable p65] [Decidable p90] [Decidable p97] (d : Bool) (F : Bool → α) :
    (if p48 then (if p57 then F true else (if p65 then (if p90 then F true else (if p97 then F d else F false)) else (if p97 then F d else F false))) else (if p65 then (if p90 then F true else (if p97 then F d else F false)) else (if p97 then F d else F false))) = F ((decide p48 && decide p57) || ((decide p65 && decide p90) || (decide p97 && d))) := by
  by_cases h1 : p48 <;> by_cases h2 : p57 <;> by_cases h3 : p65 <;> by_cases h4 : p90 <;> by_cases h5 : p97 <;> simp [h1, h2, h3, h4, h5]
theorem alnum_ite {α : Type} (c : UInt8) (F : Bool → α) :
    (if (c.toNat : Int) ≥ 48 then (if (c.toNat : Int) ≤ 57 then F true else (if (c.toNat : Int) ≥ 65 then (if (c.toNat : Int) ≤ 90 then F true else (if (c.toNat : Int) ≥ 97 then F (decide ((c.toNat : Int) ≤ 122)) else F false)) else (if (c.toNat : Int) ≥ 97 then F (decide ((c.toNat : Int) ≤ 122)) else F false))) else (if (c.toNat : Int) ≥ 65 then (if (c.toNat : Int) ≤ 90 then F true else (if (c.toNat : Int) ≥ 97 then F (decide ((c.toNat : Int) ≤ 122)) else F false)) else (if (c.toNat : Int) ≥ 97 then F (decide ((c.toNat : Int) ≤ 122)) else F false))) = F (alnumB c) := by
  rw [alnum_nest]
  congr 1
  unfold alnumB
  have e : ∀ (a b : Prop) [Decidable a] [Decidable b], (a ↔ b) → decide a = decide b := fun a b _ _ h => by simp [h]
  rw [e ((c.toNat : Int) ≥ 48) (48 ≤ c.toNat) (by omega), e ((c.toNat : Int) ≤ 57) (c.toNat ≤ 57) (by omega), e ((c.toNat : Int) ≥ 65) (65 ≤ c.toNat) (by omega), e ((c.toNat : Int) ≤ 90) (c.toNat ≤ 90) (by omega), e ((c.toNat : Int) ≥ 97) (97 ≤ c.toNat) (by omega), e ((c.toNat : Int) ≤ 122) (c.toNat ≤ 122) (by omega)]
theorem plain_split (c : UInt8) : plainR c.toNat = (alnumB c || signsL.contains c) := by
  have h : ∀ n : Fin 256, plainR n.val = (alnumB n.val.toUInt8 || signsL.contains n.val.toUInt8) := by decide +kernel
  have h2 := h ⟨c.toNat, c.toNat_lt⟩
  simp only [] at h2
  rw [show c.toNat.toUInt8 = c from by simp] at h2
  exact h2
theorem refname_l2 (s : ByteArray) (i : Int) (c : UInt8) (k : Nat) : ∀ (d j : Nat) (b : Bool), 15 - j = d → j ≤ 15 →
    abutmentref11_Name.l2 (k + d + 1) s i (c.toNat : Int) b (⟨#[45, 46, 95, 126, 33, 36, 38, 39, 40, 41, 42, 43, 44, 59, 61]⟩ : ByteArray) (j : Int) = if (b || (signsL.drop j).contains c) = true then abutmentref11_Name.l1 k s (wrap64 (i + 1)) else some i := by
  intro d
  induction d with
  | zero =>
    intro j b hd hj
    obtain rfl : j = 15 := by omega
    simp only [abutmentref11_Name.l2]
    rw [if_neg (by decide)]
    rw [show (signsL.drop 15).contains c = false from rfl, Bool.or_false]
  | succ d ih =>
    intro j b hd hj
    have hlt : j < 15 := by omega
    have hw : wrap64 ((j : Int) + 1) = ((j + 1 : Nat) : Int) := by rw [wrap_id _ (by omega) (by omega)]; omega
    have hbt := bt_list (⟨#[45, 46, 95, 126, 33, 36, 38, 39, 40, 41, 42, 43, 44, 59, 61]⟩ : ByteArray) j hlt
    have hd2 : signsL.drop j = signsL[j]'hlt :: signsL.drop (j + 1) := List.drop_eq_getElem_cons hlt
    rw [show k + (d + 1) + 1 = (k + d + 1) + 1 from by omega]
    obtain ⟨m, hm⟩ : ∃ m, m = k + d + 1 := ⟨_, rfl⟩
    rw [← hm] at ih ⊢
    simp only [abutmentref11_Name.l2]
    rw [if_pos (show (j : Int) < ((⟨#[45, 46, 95, 126, 33, 36, 38, 39, 40, 41, 42, 43, 44, 59, 61]⟩ : ByteArray).size : Int) from by show (j : Int) < 15; omega), hw]
    cases b with
    | true =>
      rw [if_pos rfl, ih (j + 1) true (by omega) (by omega)]
      rfl
    | false =>
      rw [if_neg (by simp), if_pos (by omega), ih (j + 1) _ (by omega) (by omega), hbt, hd2]
      have e : ((((signsL[j]'hlt).toNat : Int)) == (c.toNat : Int)) = (c == signsL[j]'hlt) := by
        rw [Bool.eq_iff_iff, beq_iff_eq, beq_iff_eq]
        exact ⟨fun h => ((u8_eq _ _).1 h).symm, fun h => by rw [h]⟩
      rw [show (((⟨#[45, 46, 95, 126, 33, 36, 38, 39, 40, 41, 42, 43, 44, 59, 61]⟩ : ByteArray).data.toList[j]'hlt).toNat : Int) = ((signsL[j]'hlt).toNat : Int) from rfl, e, List.contains_cons, Bool.false_or]
def spanN (l : List UInt8) : Nat := (spanA l 0).getD 0
theorem spanA_hex (c : UInt8) (l : List UInt8) (left : Nat) (h : 0 < left) : spanA (c :: l) left = if hexR c.toNat = true then (spanA l (left - 1)).map (· + 1) else none := by
  simp only [spanA]
  rw [if_pos h]
theorem refname_l1 (l : List UInt8) (hl : l.length ≤ 140737488351000) : ∀ (d i k : Nat), l.length - i ≤ d → i ≤ l.length → 18 * d + 30 < k →
    abutmentref11_Name.l1 k ⟨l.toArray⟩ (i : Int) = some (match spanA (l.drop i) 0 with | some n => ((i + n : Nat) : Int) | none => 0) := by
  intro d
  induction d with
  | zero =>
    intro i k hd hi hk
    obtain ⟨k, rfl⟩ : ∃ m, k = m + 1 := ⟨k - 1, by omega⟩
    have hil : i = l.length := by omega
    simp only [abutmentref11_Name.l1]
    rw [if_neg (by rw [size_mk]; omega), hil, List.drop_length]
    rfl
  | succ d ih =>
    intro i k hd hi hk
    by_cases hlt : i < l.length
    · obtain ⟨k, rfl⟩ : ∃ m, k = m + 18 := ⟨k - 18, by omega⟩
      have hb := bt_mk l i hlt
      have hdrop := List.drop_eq_getElem_cons hlt
      obtain ⟨m, hm⟩ : ∃ m, m = k + 17 := ⟨_, rfl⟩
      rw [show k + 18 = m + 1 from by omega]
      simp only [abutmentref11_Name.l1]
      subst hm
      rw [if_pos (by rw [size_mk]; omega), if_pos (by omega), hb, hdrop]
      generalize hc : l[i]'hlt = c
      have h37 : ((c.toNat : Int) = 37) ↔ c.toNat = 37 := by omega
      have hw1 : wrap64 ((i : Int) + 1) = ((i + 1 : Nat) : Int) := by rw [wrap_id _ (by omega) (by omega)]; omega
      have hw2 : wrap64 ((i : Int) + 2) = ((i + 2 : Nat) : Int) := by rw [wrap_id _ (by omega) (by omega)]; omega
      have hw3 : wrap64 ((i : Int) + 3) = ((i + 3 : Nat) : Int) := by rw [wrap_id _ (by omega) (by omega)]; omega
      rw [hw1, hw2, hw3]
      by_cases hc37 : c.toNat = 37
      · rw [if_pos (h37.2 hc37)]
        have hsp : spanA (c :: l.drop (i + 1)) 0 = (spanA (l.drop (i + 1)) 2).map (· + 1) := by
          simp only [spanA]
          rw [if_neg (by omega), if_pos hc37]
        rw [hsp]
        by_cases h2 : i + 2 < l.length
        · have hd1 := List.drop_eq_getElem_cons (l := l) (i := i + 1) (by omega)
          have hd2 := List.drop_eq_getElem_cons (l := l) (i := i + 2) (by omega)
          have hb1 := bt_mk l (i + 1) (by omega)
          have hb2 := bt_mk l (i + 2) (by omega)
          rw [if_neg (by rw [size_mk]; omega), if_pos (by omega), if_pos (by rw [size_mk]; omega), hb1, refhex_f _ _ (by omega), hd1]
          simp only [Option.bind_some]
          generalize l[i + 1]'(by omega) = a1 at *
          rw [spanA_hex a1 _ 2 (by omega)]
          by_cases hx1 : hexR a1.toNat = true
          · rw [if_pos hx1, if_pos hx1, if_pos (by omega), if_pos (by rw [size_mk]; omega), hb2, refhex_f _ _ (by omega), show l.drop (i + 1 + 1) = l.drop (i + 2) from rfl, hd2]
            simp only [Option.bind_some]
            generalize l[i + 2]'(by omega) = a2 at *
            rw [spanA_hex a2 _ (2 - 1) (by omega)]
            by_cases hx2 : hexR a2.toNat = true
            · rw [if_pos hx2, if_pos hx2, ih (i + 3) _ (by omega) (by omega) (by omega)]
              rw [show l.drop (i + 2 + 1) = l.drop (i + 3) from rfl, show 2 - 1 - 1 = 0 from rfl]
              cases spanA (l.drop (i + 3)) 0 with
              | none => rfl
              | some n => simp only [Option.map_some]; rw [show i + (n + 1 + 1 + 1) = i + 3 + n from by omega]
            · rw [if_neg hx2, if_neg hx2]
              rfl
          · rw [if_neg hx1, if_neg hx1]
            rfl
        · rw [if_pos (by rw [size_mk]; omega)]
          have hnone : spanA (l.drop (i + 1)) 2 = none := by
            have hlen : (l.drop (i + 1)).length ≤ 1 := by rw [List.length_drop]; omega
            match hm : l.drop (i + 1), hlen with
            | [], _ => rfl
            | [x], _ =>
              rw [spanA_hex x _ 2 (by omega)]
              by_cases hx : hexR x.toNat = true
              · rw [if_pos hx]; rfl
              · rw [if_neg hx]
            | _ :: _ :: _, h => simp at h
          rw [hnone]
          rfl
      · rw [if_neg (fun h => hc37 (h37.1 h))]
        have hsp : spanA (c :: l.drop (i + 1)) 0 = if plainR c.toNat = true then (spanA (l.drop (i + 1)) 0).map (· + 1) else some 0 := by
          simp only [spanA]
          rw [if_neg (by omega), if_neg hc37]
        have hj3 : abutmentref11_Name.j3 (k + 17) ⟨l.toArray⟩ (i : Int) (c.toNat : Int) (alnumB c) = some (match spanA (c :: l.drop (i + 1)) 0 with | some n => ((i + n : Nat) : Int) | none => 0) := by
          simp only [abutmentref11_Name.j3]
          have := refname_l2 ⟨l.toArray⟩ (i : Int) c k 15 0 (alnumB c) rfl (by omega)
          rw [show ((0 : Nat) : Int) = 0 from rfl, List.drop_zero, ← plain_split] at this
          rw [this, hsp, hw1]
          by_cases hp : plainR c.toNat = true
          · rw [if_pos hp, if_pos hp, ih (i + 1) k (by omega) (by omega) (by omega)]
            cases spanA (l.drop (i + 1)) 0 with
            | none => rfl
            | some n => simp only [Option.map_some]; rw [show i + (n + 1) = i + 1 + n from by omega]
          · rw [if_neg hp, if_neg hp]
            simp
        exact (alnum_ite c (fun b => abutmentref11_Name.j3 (k + 17) ⟨l.toArray⟩ (i : Int) (c.toNat : Int) b)).trans hj3
    · exact ih i k (by omega) hi (by omega)
theorem nameN_cons (c : UInt8) (r : List UInt8) : nameN (c :: r) = if c = 91 then litN r else (spanA (c :: r) 0).getD 0 := rfl
theorem ref_name (s : ByteArray) (hs : s.size ≤ 140737488351000) (k : Nat) (hk : 18 * s.size + 40 < k) : abutmentref11_Name.f k s = some ((nameN s.data.toList : Nat) : Int) := by
  obtain ⟨k, rfl⟩ : ∃ m, k = m + 1 := ⟨k - 1, by omega⟩
  rw [size_list] at hs hk
  conv => lhs; rw [← mk_eta s]
  generalize s.data.toList = l at hs hk ⊢
  unfold abutmentref11_Name.f
  have h1 : abutmentref11_Name.l1 k ⟨l.toArray⟩ 0 = some (((spanA l 0).getD 0 : Nat) : Int) := by
    have := refname_l1 l hs l.length 0 k (by omega) (by omega) (by omega)
    rw [show ((0 : Nat) : Int) = 0 from rfl, List.drop_zero] at this
    rw [this]
    cases spanA l 0 with
    | none => rfl
    | some n => simp
  cases l with
  | nil =>
    rw [if_neg (by rw [size_mk]; simp)]
    simp only [abutmentref11_Name.j0]
    rw [if_neg (by simp), h1]
    rfl
  | cons a r =>
    have hb := bt_mk (a :: r) 0 (by simp)
    rw [show ((0 : Nat) : Int) = 0 from rfl] at hb
    rw [if_pos (by rw [size_mk]; simp), if_pos (by rw [size_mk]; simp), hb]
    simp only [abutmentref11_Name.j0, List.getElem_cons_zero]
    have h91 : ((a.toNat : Int) = 91) ↔ a = 91 := u8_eq a 91
    rw [nameN_cons]
    by_cases ha : a = 91
    · rw [if_pos (by rw [beq_iff_eq]; exact h91.2 ha), if_pos ha]
      simp at hs hk
      have := refname_l0 a r (by omega) r.length 0 k (by omega) (by omega) (by omega) (by rfl)
      exact this
    · rw [if_neg (by rw [beq_iff_eq]; exact fun h => ha (h91.1 h)), if_neg ha, h1]
theorem nameN_le (l : List UInt8) : nameN l ≤ l.length := by
  cases l with
  | nil => exact Nat.le_refl _
  | cons a r =>
    rw [nameN_cons]
    by_cases ha : a = 91
    · rw [if_pos ha]
      unfold litN
      by_cases h : (r.takeWhile litp).length = 0 ∨ r[(r.takeWhile litp).length]? ≠ some 93
      · rw [if_pos h]; omega
      · rw [if_neg h]
        have h2 : r[(r.takeWhile litp).length]? = some 93 := Classical.byContradiction fun q => h (.inr q)
        obtain ⟨h3, _⟩ := List.getElem?_eq_some_iff.1 h2
        rw [List.length_cons]; omega
    · rw [if_neg ha]
      cases hS : spanA (a :: r) 0 with
      | none => simp
      | some n => exact (spanA_some _ _ _ hS).1
theorem ref_parse (s : ByteArray) (hs : s.size ≤ 1000000) (k : Nat) (hk : 18 * s.size + 100 < k) : abutmentref11_Parse.f k s = some (parseB s) := by
  have hsl := size_list s
  unfold abutmentref11_Parse.f parseB parseL
  rw [Lib.toList_data]
  by_cases he : s.data.toList = []
  · rw [if_pos he, if_pos he]
  · rw [if_neg he, if_neg he, ref_name s (by omega) k (by omega)]
    simp only [Option.bind_some]
    have hle := nameN_le s.data.toList
    generalize nameN s.data.toList = n at hle
    by_cases h0 : n = 0
    · rw [if_pos (by omega), if_pos h0]
    · rw [if_neg (by omega), if_neg h0]
      by_cases hn : n = s.data.toList.length
      · rw [if_pos (by omega), if_pos hn, mk_eta]
      · have hlt : n < s.data.toList.length := by omega
        have h58 : (((s.data.toList[n]'hlt).toNat : Int) = 58) ↔ s.data.toList[n]'hlt = 58 := u8_eq _ 58
        rw [if_neg (by omega), if_neg hn, if_pos (by omega), if_pos (by omega), bt_list s n hlt, List.getElem?_eq_getElem hlt]
        by_cases hc : s.data.toList[n]'hlt = 58
        · have hw : wrap64 ((n : Int) + 1) = ((n + 1 : Nat) : Int) := by rw [wrap_id _ (by omega) (by omega)]; omega
          have hex : (s.extract (n + 1) s.size) = ⟨(s.data.toList.drop (n + 1)).toArray⟩ := by
            rw [ext_list, List.take_of_length_le (by rw [List.length_drop]; omega)]
          rw [if_pos (h58.2 hc), hw, if_pos (by omega), if_pos (by omega), if_neg (by rw [hc]; simp), Int.toNat_natCast, hex, ref_numberM 65535 (by omega) (by omega) _ (by rw [size_mk, List.length_drop]; omega) k (by rw [size_mk, List.length_drop]; omega)]
          simp only [Option.bind_some]
          rw [show numberB ⟨(s.data.toList.drop (n + 1)).toArray⟩ 10 65535 = portG (s.data.toList.drop (n + 1)) from rfl]
          generalize portG (s.data.toList.drop (n + 1)) = p
          unfold portL
          by_cases h5 : p.2 = 5
          · rw [if_pos h5, if_pos h5, h5]
          · rw [if_neg h5, if_neg h5]
            by_cases h00 : p.2 = 0
            · rw [if_pos h00, if_pos h00, if_pos (by omega), Int.toNat_natCast, ext_list]
              simp
            · rw [if_neg h00, if_neg h00]
        · rw [if_neg (fun h => hc (h58.1 h)), if_pos (fun h => hc (Option.some.inj h))]
theorem parseB_len (s : ByteArray) : (parseB s).1.size ≤ s.size := by
  unfold parseB
  rw [size_list s, size_mk]
  unfold parseL portL
  split
  · simp
  · split
    · simp
    · split
      · exact Nat.le_refl _
      · split
        · simp
        · split
          · simp
          · split
            · simp only [List.length_take]; omega
            · simp
theorem parseB_port (s : ByteArray) : 0 ≤ (parseB s).2.1 ∧ (parseB s).2.1 ≤ 65535 := by
  unfold parseB
  unfold parseL portL
  split
  · exact ⟨by decide, by decide⟩
  · split
    · exact ⟨by decide, by decide⟩
    · split
      · exact ⟨by show (0 : Int) ≤ 80; omega, by show (80 : Int) ≤ 65535; omega⟩
      · split
        · exact ⟨by decide, by decide⟩
        · split
          · exact ⟨by decide, by decide⟩
          · split
            · exact portG_range _
            · exact ⟨by decide, by decide⟩
def textB (name : ByteArray) (port : Int) : ByteArray := if port = 80 then lowB name else (lowB name ++ (⟨#[58]⟩ : ByteArray)) ++ rdigB port.toNat 10
theorem lowB_size (s : ByteArray) : (lowB s).size = s.size := by
  unfold lowB lowL
  rw [size_mk, List.length_map, ← size_list]
theorem host_text (s : ByteArray) (p : Int) (hs : s.size ≤ 1000000) (h0 : 0 ≤ p) (h1 : p ≤ 65535) : host_Text.f s p = some (textB s p) := by
  unfold host_Text.f octet_Lower.f textB
  rw [if_pos (by omega)]
  simp only [Option.bind_some]
  have hls := lowB_size s
  by_cases h : p = 80
  · rw [if_pos h, if_pos h]
  · have hds := rdigB_size p.toNat 10
    rw [if_neg h, if_neg h, if_pos (by omega), text_fig p h0 (by omega), fig_rdig _ _ (by omega) (by omega)]
    simp only [Option.bind_some]
    rw [if_pos (by rw [ByteArray.size_append]; show (lowB s).size + 1 + _ ≤ _; omega)]
theorem ref_text (s : ByteArray) (p : Int) (hs : s.size ≤ 1000000) (h0 : 0 ≤ p) (h1 : p ≤ 65535) (k : Nat) (hk : s.size < k) : abutmentref11_Text.f k s p = some (textB s p) := by
  unfold abutmentref11_Text.f textB
  rw [ref_lower s (by omega) k hk]
  simp only [Option.bind_some]
  have hls := lowB_size s
  by_cases h : p = 80
  · rw [if_pos h, if_pos h]
  · have hds := rdigB_size p.toNat 10
    rw [if_neg h, if_neg h, if_pos (by omega), text_rdig p h0 (by omega)]
    simp only [Option.bind_some]
    rw [if_pos (by rw [ByteArray.size_append]; show (lowB s).size + 1 + _ ≤ _; omega)]
def keyB (s : ByteArray) : ByteArray × Bool := if (parseB s).2.2 = 0 then (textB (parseB s).1 (parseB s).2.1, true) else (⟨#[]⟩, false)
theorem host_key (s : ByteArray) (hs : s.size ≤ 1000000) (k : Nat) (hk : 2 < k) : host_Key.f k s = some (keyB s) := by
  have hl := parseB_len s
  have hp := parseB_port s
  unfold host_Key.f keyB
  rw [host_parse s (by omega) k hk]
  simp only [Option.bind_some]
  by_cases h : (parseB s).2.2 = 0
  · rw [if_pos h, if_pos h, host_text _ _ (by omega) hp.1 hp.2]
    rfl
  · rw [if_neg h, if_neg h]
theorem ref_key (s : ByteArray) (hs : s.size ≤ 1000000) (k : Nat) (hk : 18 * s.size + 100 < k) : abutmentref11_Key.f k s = some (keyB s) := by
  have hl := parseB_len s
  have hp := parseB_port s
  unfold abutmentref11_Key.f keyB
  rw [ref_parse s hs k hk]
  simp only [Option.bind_some]
  by_cases h : (parseB s).2.2 = 0
  · rw [if_pos h, if_pos h, ref_text _ _ (by omega) hp.1 hp.2 k (by omega)]
    rfl
  · rw [if_neg h, if_neg h]


end Go.Proofs.Ytdjmgmiaognncaa.X
namespace Go.Proofs.Ytdjmgmiaognncaa.X
open Go.RowKit Go.Proofs.YtdjmgmiaognncaaW.PrintWords Go.Proofs.YtdjmgmiaognncaaW.PrintLast Go.Proofs.YtdjmgmiaognncaaW.PrintMore
attribute [local go_sem] max2_int min2_int max_two min_two max_three min_three max_four min_four   -- for this text's walks alone
set_option linter.unusedVariables false
set_option linter.unusedSimpArgs false

/-! ### pure text 52: config -/
def rightB (s t : ByteArray) (n0 n1 n2 n3 n4 n5 n6 n7 n8 n9 n10 n11 n12 n13 n14 n15 : Int) : Int := if nameBad s then 6 else if hostBad t (keyB t).1 then 13 else if insB (rightN n0 n1 n2 n3 n4 n5 n6 n7 n8 n9 n10 n11 n12 n13 n14 n15) then 0 else 5
theorem config_right (s t : ByteArray) (n0 n1 n2 n3 n4 n5 n6 n7 n8 n9 n10 n11 n12 n13 n14 n15 : Int) (ht : t.size ≤ 1000000) : config_Right.f s t n0 n1 n2 n3 n4 n5 n6 n7 n8 n9 n10 n11 n12 n13 n14 n15 = some (rightB s t n0 n1 n2 n3 n4 n5 n6 n7 n8 n9 n10 n11 n12 n13 n14 n15) := by
  unfold config_Right.f rightB
  rw [host_key t ht 1000000000 (by omega)]
  rfl
theorem ref_right (s t : ByteArray) (n0 n1 n2 n3 n4 n5 n6 n7 n8 n9 n10 n11 n12 n13 n14 n15 : Int) (hs : s.size ≤ 1000000) (ht : t.size ≤ 1000000) : abutmentref13_Right.f s t n0 n1 n2 n3 n4 n5 n6 n7 n8 n9 n10 n11 n12 n13 n14 n15 = some (rightB s t n0 n1 n2 n3 n4 n5 n6 n7 n8 n9 n10 n11 n12 n13 n14 n15) := by
  unfold abutmentref13_Right.f rightB
  rw [ref_token s (by omega) 1000000000 (by omega), ref_key t ht 1000000000 (by omega)]
  simp only [Option.bind_some]
  congr 1
  have hk : ∀ ok, (keyB t).2 = ok → ok = false → (keyB t).1 = ⟨#[]⟩ := by
    intro ok h1 h2
    unfold keyB at h1 ⊢
    by_cases h : (parseB t).2.2 = 0
    · rw [if_pos h] at h1; subst h2; cases h1
    · rw [if_neg h]
  generalize keyB t = q at hk
  obtain ⟨k, ok⟩ := q
  simp only [] at hk
  have hk := hk ok rfl
  unfold refBad nameBad hostBad
  simp only []
  by_cases h1 : (!octetToken s || decide (100 < (s.size : Int))) = true
  · rw [if_pos h1, if_pos h1, if_neg (by omega)]
  · rw [if_neg h1, if_neg h1]
    have e : (!t.toList.isEmpty && (!ok || (k.toList != t.toList || (decide (200 < (k.size : Int)) || k.toList == [45])))) = (!t.toList.isEmpty && (k.toList != t.toList || decide (200 < (k.size : Int)) || k.toList == [45])) := by
      cases ok with
      | true => rw [Bool.not_true, Bool.false_or, Bool.or_assoc]
      | false =>
        have hk := hk rfl
        subst hk
        cases ht2 : t.toList with
        | nil => rfl
        | cons c l =>
          rw [show (⟨#[]⟩ : ByteArray).toList = [] from by rw [Lib.toList_data]]
          rfl
    rw [e]
    by_cases h2 : (!t.toList.isEmpty && (k.toList != t.toList || decide (200 < (k.size : Int)) || k.toList == [45])) = true
    · rw [if_pos h2, if_pos h2, if_neg (by omega)]
    · rw [if_neg h2, if_neg h2, if_pos rfl]
/-- The numbers' texts, each behind a blank. -/
def numsL (l : List Int) : List UInt8 := l.flatMap fun n => 32 :: (rdigB n.toNat 10).data.toList
theorem refOut_list : ∀ (l : List Int) (o : ByteArray), (refOut o l).data.toList = o.data.toList ++ numsL l
  | [], o => by simp [refOut, numsL]
  | n :: l, o => by
    simp only [refOut]
    rw [refOut_list l]
    simp [numsL]
theorem refOut_size : ∀ (l : List Int) (o : ByteArray), (refOut o l).size ≤ o.size + 66 * l.length
  | [], o => by simp [refOut]
  | n :: l, o => by
    simp only [refOut]
    have h1 := refOut_size l ((o ++ (⟨#[32]⟩ : ByteArray)) ++ rdigB n.toNat 10)
    have h2 := rdigB_size n.toNat 10
    rw [ByteArray.size_append, ByteArray.size_append] at h1
    rw [show (⟨#[32]⟩ : ByteArray).size = 1 from rfl] at h1
    rw [List.length_cons]
    omega
theorem join_blank : ∀ (x : List UInt8) (l : List (List UInt8)), Lib.join (x :: l) [32] = x ++ l.flatMap fun y => 32 :: y
  | x, [] => by simp [Lib.join]
  | x, y :: l => by
    have h := join_blank y l
    unfold Lib.join at h ⊢
    rw [List.intercalate_cons_cons, h]
    simp
theorem printJ_ref (s t : ByteArray) (l : List Int) (hl : ∀ n ∈ l, 0 ≤ n ∧ n ≤ 1073741824) : printJ s t l = (refPrint s t l).data.toList := by
  unfold printJ printL refPrint
  rw [List.map_cons, List.map_cons, join_blank, List.flatMap_cons, refOut_list]
  have e : (List.map (fun x => x.data.toList) (List.map (fun n => figB n.toNat 10) l)).flatMap (fun y => (32 : UInt8) :: y) = numsL l := by
    unfold numsL
    rw [List.map_map, List.flatMap_map]
    induction l with
    | nil => rfl
    | cons n l ih =>
      rw [List.flatMap_cons, List.flatMap_cons, ih (fun m hm => hl m (List.mem_cons_of_mem _ hm))]
      have := hl n (List.mem_cons_self ..)
      simp only [Function.comp]
      rw [fig_rdig _ _ (by omega) (by omega)]
  rw [e]
  by_cases h : t.toList = []
  · rw [if_pos h, if_pos h]
    have ht : t.data.toList = [] := by rw [← Lib.toList_data]; exact h
    simp [ht]
  · rw [if_neg h, if_neg h]
    simp
theorem refPrint_size (s t : ByteArray) (l : List Int) : (refPrint s t l).size ≤ s.size + t.size + 2 + 66 * l.length := by
  unfold refPrint
  refine Nat.le_trans (refOut_size _ _) ?_
  split
  · rw [ByteArray.size_append, ByteArray.size_append, ByteArray.size_append]
    rw [show (⟨#[32]⟩ : ByteArray).size = 1 from rfl, show (⟨#[45]⟩ : ByteArray).size = 1 from rfl]
    omega
  · rw [ByteArray.size_append, ByteArray.size_append]
    rw [show (⟨#[32]⟩ : ByteArray).size = 1 from rfl]
    omega
def cfgPrint (s t : ByteArray) (n0 n1 n2 n3 n4 n5 n6 n7 n8 n9 n10 n11 n12 n13 n14 n15 : Int) : ByteArray := if rightB s t n0 n1 n2 n3 n4 n5 n6 n7 n8 n9 n10 n11 n12 n13 n14 n15 = 0 then refPrint s t [n0, n1, n2, n3, n4, n5, n6, n7, n8, n9, n10, n11, n12, n13, n14, n15] else ⟨#[]⟩
theorem right_ins (s t : ByteArray) (n0 n1 n2 n3 n4 n5 n6 n7 n8 n9 n10 n11 n12 n13 n14 n15 : Int) (h : rightB s t n0 n1 n2 n3 n4 n5 n6 n7 n8 n9 n10 n11 n12 n13 n14 n15 = 0) : insB (rightN n0 n1 n2 n3 n4 n5 n6 n7 n8 n9 n10 n11 n12 n13 n14 n15) = true := by
  unfold rightB at h
  split at h
  · omega
  · split at h
    · omega
    · split at h
      · assumption
      · omega
theorem config_print (s t : ByteArray) (n0 n1 n2 n3 n4 n5 n6 n7 n8 n9 n10 n11 n12 n13 n14 n15 : Int) (hs : s.size ≤ 1000000) (ht : t.size ≤ 1000000) : config_Print.f s t n0 n1 n2 n3 n4 n5 n6 n7 n8 n9 n10 n11 n12 n13 n14 n15 = some (cfgPrint s t n0 n1 n2 n3 n4 n5 n6 n7 n8 n9 n10 n11 n12 n13 n14 n15) := by
  unfold config_Print.f cfgPrint
  rw [config_right s t n0 n1 n2 n3 n4 n5 n6 n7 n8 n9 n10 n11 n12 n13 n14 n15 ht]
  simp only [Option.bind_some]
  by_cases h : rightB s t n0 n1 n2 n3 n4 n5 n6 n7 n8 n9 n10 n11 n12 n13 n14 n15 = 0
  · rw [if_pos h, if_pos h]
    have hi := right_ins s t n0 n1 n2 n3 n4 n5 n6 n7 n8 n9 n10 n11 n12 n13 n14 n15 h
    have e := printJ_ref s t [n0, n1, n2, n3, n4, n5, n6, n7, n8, n9, n10, n11, n12, n13, n14, n15] (fun n hn => by
      obtain ⟨i, hi2, he⟩ := List.getElem_of_mem hn
      exact ins_all (rightN n0 n1 n2 n3 n4 n5 n6 n7 n8 n9 n10 n11 n12 n13 n14 n15) i n hi (rightN_range n0 n1 n2 n3 n4 n5 n6 n7 n8 n9 n10 n11 n12 n13 n14 n15) (by rw [← he]; exact List.getElem?_eq_getElem hi2))
    rw [show (rightN n0 n1 n2 n3 n4 n5 n6 n7 n8 n9 n10 n11 n12 n13 n14 n15).map (·.1) = [n0, n1, n2, n3, n4, n5, n6, n7, n8, n9, n10, n11, n12, n13, n14, n15] from rfl, e, mk_eta]
    have hz := refPrint_size s t [n0, n1, n2, n3, n4, n5, n6, n7, n8, n9, n10, n11, n12, n13, n14, n15]
    rw [if_pos (by rw [← size_list]; simp at hz; omega)]
  · rw [if_neg h, if_neg h]
theorem ref_print (s t : ByteArray) (n0 n1 n2 n3 n4 n5 n6 n7 n8 n9 n10 n11 n12 n13 n14 n15 : Int) (hs : s.size ≤ 1000000) (ht : t.size ≤ 1000000) : abutmentref13_Print.f s t n0 n1 n2 n3 n4 n5 n6 n7 n8 n9 n10 n11 n12 n13 n14 n15 = some (cfgPrint s t n0 n1 n2 n3 n4 n5 n6 n7 n8 n9 n10 n11 n12 n13 n14 n15) := by
  unfold abutmentref13_Print.f cfgPrint
  rw [if_pos ⟨hs, ht⟩, ref_right s t n0 n1 n2 n3 n4 n5 n6 n7 n8 n9 n10 n11 n12 n13 n14 n15 hs ht]
  rfl
theorem lives13 : abutmentlaw13_lives.f = some true := by
  unfold abutmentlaw13_lives.f config_Usual.f
  simp only [Option.bind_some]
  rw [config_print _ _ _ _ _ _ _ _ _ _ _ _ _ _ _ _ _ _ (by decide) (by decide)]
  simp only [Option.bind_some]
  congr 1
  unfold cfgPrint rightB nameBad hostBad
  rw [Lib.toList_data, Lib.toList_data, octetToken_list]
  decide +kernel


end Go.Proofs.Ytdjmgmiaognncaa.X
