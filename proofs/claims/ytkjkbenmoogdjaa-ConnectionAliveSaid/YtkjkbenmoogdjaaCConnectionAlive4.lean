/- Part 4 of the texts behind the claim on ConnectionAlive: contracts of the functions that it reaches, and plain laws about them. No conditions of its own. -/
import Derived.Test.YtkjkbenmoogdjaaCConnectionAlive1
import Derived.Test.YtkjkbenmoogdjaaCConnectionAlive3
import Derived.Test.YtkjkbenmoogdjaaCConnectionAlive2
import Derived.Lib.OthersKept
namespace Go.Proofs.Ytkjkbenmoogdjaa.X
open Go.RowKit Go.Proofs.YtkjkbenmoogdjaaW.PrintWords Go.Proofs.YtkjkbenmoogdjaaW.PrintLast Go.Proofs.YtkjkbenmoogdjaaW.PrintMore
attribute [local go_sem] max2_int min2_int max_two min_two max_three min_three max_four min_four   -- for this text's walks alone
set_option linter.unusedVariables false
set_option linter.unusedSimpArgs false

/-! ### pure text 11: refLower -/
theorem strOfNums_map (l : List UInt8) : strOfNums (l.map fun c => (c.toNat : Int)) = ⟨l.toArray⟩ := by
  unfold strOfNums
  rw [List.map_map]
  congr 2
  conv => rhs; rw [← List.map_id l]
  apply List.map_congr_left
  intro c _
  simp
def natsL (l : List UInt8) : List Int := l.map fun c => (c.toNat : Int)
theorem reflower_l0 (s : ByteArray) (hs : s.size ≤ 1000000000) : ∀ (d i k : Nat), s.size - i = d → i ≤ s.size → d < k →
    abutmentref01_Lower.l0 k s (natsL (lowL (s.data.toList.take i))) (i : Int) = some (lowB s) := by
  intro d
  induction d with
  | zero =>
    intro i k hd hi hk
    obtain ⟨k, rfl⟩ : ∃ m, k = m + 1 := ⟨k - 1, by omega⟩
    obtain rfl : i = s.size := by omega
    simp only [abutmentref01_Lower.l0]
    rw [if_neg (by omega), List.take_of_length_le (by rw [← size_list]; omega)]
    unfold natsL lowB
    rw [strOfNums_map]
  | succ d ih =>
    intro i k hd hi hk
    obtain ⟨k, rfl⟩ : ∃ m, k = m + 1 := ⟨k - 1, by omega⟩
    have hl : i < s.data.toList.length := by rw [← size_list]; omega
    have hw : wrap64 ((i : Int) + 1) = ((i + 1 : Nat) : Int) := by rw [wrap_id _ (by omega) (by omega)]; omega
    have hlen : (natsL (lowL (s.data.toList.take i))).length < 140737488355328 := by
      unfold natsL lowL
      simp only [List.length_map, List.length_take]
      omega
    have hnext := ih (i + 1) k (by omega) (by omega) (by omega)
    rw [take_snoc' _ _ hl] at hnext
    have hc := lowU_int (s.data.toList[i]'hl)
    have h256 := (s.data.toList[i]'hl).toNat_lt
    have hsn : natsL (lowL (s.data.toList.take i ++ [s.data.toList[i]'hl])) = natsL (lowL (s.data.toList.take i)) ++ [((lowU (s.data.toList[i]'hl)).toNat : Int)] := by
      unfold natsL lowL; simp
    rw [hsn, hc] at hnext
    simp only [abutmentref01_Lower.l0]
    rw [if_pos (by omega), if_pos (by omega), bt_list s i hl, hw]
    by_cases h1 : 65 ≤ ((s.data.toList[i]'hl).toNat : Int)
    · rw [if_pos (show ((s.data.toList[i]'hl).toNat : Int) ≥ 65 from h1)]
      by_cases h2 : ((s.data.toList[i]'hl).toNat : Int) ≤ 90
      · rw [if_pos h2, if_pos hlen, show (((s.data.toList[i]'hl).toNat : Int) + 32) % 256 = ((s.data.toList[i]'hl).toNat : Int) + 32 by omega]
        rw [if_pos ⟨h1, h2⟩] at hnext
        exact hnext
      · rw [if_neg h2, if_pos hlen]
        rw [if_neg (fun h => h2 h.2)] at hnext
        exact hnext
    · rw [if_neg (show ¬ ((s.data.toList[i]'hl).toNat : Int) ≥ 65 from h1), if_pos hlen]
      rw [if_neg (fun h => h1 h.1)] at hnext
      exact hnext
theorem ref_lower (s : ByteArray) (hs : s.size ≤ 1000000000) (k : Nat) (hk : s.size < k) : abutmentref01_Lower.f k s = some (lowB s) := by
  have := reflower_l0 s hs s.size 0 k (by omega) (by omega) hk
  exact this
theorem lowB_eq (a b : ByteArray) : ((lowB a).toList = (lowB b).toList) ↔ foldB a b = true := by
  unfold lowB foldB
  rw [Lib.toList_data, Lib.toList_data]
  simp


end Go.Proofs.Ytkjkbenmoogdjaa.X
namespace Go.Proofs.Ytkjkbenmoogdjaa.X
open Go.RowKit Go.Proofs.YtkjkbenmoogdjaaW.PrintWords Go.Proofs.YtkjkbenmoogdjaaW.PrintLast Go.Proofs.YtkjkbenmoogdjaaW.PrintMore
attribute [local go_sem] max2_int min2_int max_two min_two max_three min_three max_four min_four   -- for this text's walks alone
set_option linter.unusedVariables false
set_option linter.unusedSimpArgs false

/-! ### pure text 10: refTrim -/
theorem size_mk (l : List UInt8) : (⟨l.toArray⟩ : ByteArray).size = l.length := by simp [ByteArray.size]
theorem bt_mk (l : List UInt8) (i : Nat) (h : i < l.length) : bt ⟨l.toArray⟩ (i : Int) = ((l[i]'h).toNat : Int) := bt_list ⟨l.toArray⟩ i h
theorem ext_mk (l : List UInt8) (a b : Nat) : (⟨l.toArray⟩ : ByteArray).extract a b = ⟨((l.drop a).take (b - a)).toArray⟩ := ext_list ⟨l.toArray⟩ a b
theorem mk_eta (s : ByteArray) : (⟨s.data.toList.toArray⟩ : ByteArray) = s := Lib.mk_data s
theorem bl_ite {α : Type} (c : UInt8) (A B : α) : (if (c.toNat : Int) = 32 then A else if (c.toNat : Int) = 9 then A else B) = if bl c = true then A else B := by
  have h32 : ((c.toNat : Int) = 32) ↔ c = 32 := u8_eq c 32
  have h9 : ((c.toNat : Int) = 9) ↔ c = 9 := u8_eq c 9
  unfold bl
  by_cases e : c = 32
  · rw [if_pos (h32.2 e), if_pos (by simp [e])]
  · rw [if_neg (fun h => e (h32.1 h))]
    by_cases e2 : c = 9
    · rw [if_pos (h9.2 e2), if_pos (by simp [e2])]
    · rw [if_neg (fun h => e2 (h9.1 h)), if_neg (by simp [e, e2])]
theorem snoc_cases {α : Type} (l : List α) : l = [] ∨ ∃ l' c, l = l' ++ [c] := by
  rcases List.eq_nil_or_concat l with h | ⟨l', c, h⟩
  · exact .inl h
  · exact .inr ⟨l', c, by simpa using h⟩
theorem reftrim_l1 : ∀ (n : Nat) (l : List UInt8) (k : Nat), l.length = n → n ≤ 140737488351232 → n < k → abutmentref01_Trim.l1 k ⟨l.toArray⟩ = some ⟨(dropE bl l).toArray⟩ := by
  intro n
  induction n with
  | zero =>
    intro l k hl _ hk
    obtain ⟨k, rfl⟩ : ∃ m, k = m + 1 := ⟨k - 1, by omega⟩
    obtain rfl := List.eq_nil_of_length_eq_zero hl
    simp only [abutmentref01_Trim.l1]
    rw [if_neg (by rw [size_mk]; simp)]
    rfl
  | succ n ih =>
    intro l k hl hn hk
    obtain ⟨k, rfl⟩ : ∃ m, k = m + 1 := ⟨k - 1, by omega⟩
    rcases snoc_cases l with rfl | ⟨l', c, rfl⟩
    · simp at hl
    · have hl' : l'.length = n := by simpa using hl
      have hsz : ((⟨(l' ++ [c]).toArray⟩ : ByteArray).size : Int) = ((n + 1 : Nat) : Int) := by rw [size_mk, hl]
      have hw : wrap64 (((n + 1 : Nat) : Int) - 1) = (n : Int) := by rw [wrap_id _ (by omega) (by omega)]; omega
      have hb : bt ⟨(l' ++ [c]).toArray⟩ (n : Int) = (c.toNat : Int) := by
        rw [bt_mk _ n (by simp; omega), List.getElem_append_right (by omega)]
        simp [hl']
      have he : (⟨(l' ++ [c]).toArray⟩ : ByteArray).extract 0 n = ⟨l'.toArray⟩ := by
        rw [ext_mk]; simp [← hl']
      simp only [abutmentref01_Trim.l1]
      rw [hsz, hw, if_pos (by omega), if_pos (by omega), if_pos (by omega), hb, bl_ite, dropE_snoc]
      cases bl c
      · simp
      · simp only [if_true, Int.toNat_natCast]
        rw [if_pos (by omega), he]
        exact ih l' k hl' (by omega) (by omega)
theorem reftrim_l0 : ∀ (l : List UInt8) (k : Nat), l.length ≤ 140737488351232 → 2 * l.length + 2 < k → abutmentref01_Trim.l0 k ⟨l.toArray⟩ = some ⟨(trimL l).toArray⟩ := by
  intro l
  induction l with
  | nil =>
    intro k _ hk
    obtain ⟨k, rfl⟩ : ∃ m, k = m + 2 := ⟨k - 2, by omega⟩
    simp only [abutmentref01_Trim.l0]
    rw [if_neg (by rw [size_mk]; simp)]
    simp only [abutmentref01_Trim.j1]
    rw [reftrim_l1 0 [] k rfl (by omega) (by simp at hk; omega)]
    rfl
  | cons c l ih =>
    intro k hn hk
    obtain ⟨k, rfl⟩ : ∃ m, k = m + 1 := ⟨k - 1, by omega⟩
    simp only [List.length_cons] at hn hk
    have hsz : ((⟨(c :: l).toArray⟩ : ByteArray).size : Int) = ((l.length + 1 : Nat) : Int) := by rw [size_mk]; simp
    have hb : bt ⟨(c :: l).toArray⟩ 0 = (c.toNat : Int) := bt_mk (c :: l) 0 (by simp)
    have he : (⟨(c :: l).toArray⟩ : ByteArray).extract 1 (⟨(c :: l).toArray⟩ : ByteArray).size = ⟨l.toArray⟩ := by
      rw [ext_mk, size_mk]; simp
    simp only [abutmentref01_Trim.l0]
    rw [hsz, if_pos (by omega), if_pos (by omega), hb, bl_ite, he]
    unfold trimL
    rw [List.dropWhile_cons]
    cases bl c
    · simp only [Bool.false_eq_true, if_false]
      obtain ⟨k, rfl⟩ : ∃ m, k = m + 1 := ⟨k - 1, by omega⟩
      simp only [abutmentref01_Trim.j1]
      exact reftrim_l1 (l.length + 1) (c :: l) k rfl (by omega) (by omega)
    · simp only [if_true]
      rw [if_pos (by omega)]
      exact ih k (by omega) (by omega)
theorem ref_trim (s : ByteArray) (hs : s.size ≤ 140737488351232) (k : Nat) (hk : 2 * s.size + 2 < k) : abutmentref01_Trim.f k s = some (trimB s) := by
  rw [size_list] at hs hk
  have := reftrim_l0 s.data.toList k hs hk
  rw [mk_eta] at this
  exact this


end Go.Proofs.Ytkjkbenmoogdjaa.X
namespace Go.Proofs.Ytkjkbenmoogdjaa.X
open Go.RowKit Go.Proofs.YtkjkbenmoogdjaaW.PrintWords Go.Proofs.YtkjkbenmoogdjaaW.PrintLast Go.Proofs.YtkjkbenmoogdjaaW.PrintMore
attribute [local go_sem] max2_int min2_int max_two min_two max_three min_three max_four min_four   -- for this text's walks alone
set_option linter.unusedVariables false
set_option linter.unusedSimpArgs false

/-! ### abutmentref01_Same: function 21 -/
def abutmentref01_Same.l0 : Nat → List ByteArray → List ByteArray → Int → Option (Bool)
  | 0, _, _, _ => none
  | k + 1, x0, x1, x5 => if x5 < (x0.length : Int) then (if 0 ≤ x5 then (if x5 < (x1.length : Int) then (if (rdOf ByteArray.empty x0 x5).toList = (rdOf ByteArray.empty x1 x5).toList then (abutmentref01_Same.l0 k x0 x1 (wrap64 (x5 + 1))) else (some false)) else (none)) else (none)) else (some true)
def abutmentref01_Same.f (k : Nat) (l0 : List ByteArray) (l1 : List ByteArray) : Option (Bool) := if (l0.length : Int) = (l1.length : Int) then (abutmentref01_Same.l0 k l0 l1 0) else (some false)
theorem abutmentref01_Same.mono_l : ∀ k, (∀ y0 y1 y2, LeO (abutmentref01_Same.l0 k y0 y1 y2) (abutmentref01_Same.l0 (k + 1) y0 y1 y2))
  | 0 => fun _ _ _ r h => by simp [abutmentref01_Same.l0] at h
  | k + 1 => by
    have ih0 := abutmentref01_Same.mono_l k
    · intro y0 y1 y2
      unfold abutmentref01_Same.l0
      repeat' first
      | (with_reducible exact ih0 _ _ _)
      | (with_reducible exact LeO.refl _)
      | (with_reducible exact LeO.none _)
      | (with_reducible refine LeO.ite ?_ ?_)
      | (with_reducible refine LeO.bind ?_ (fun _ => ?_))
      | exact ih0 _ _ _
      | exact LeO.none _
      | refine LeO.ite ?_ ?_
      | refine LeO.bind ?_ (fun _ => ?_)
theorem abutmentref01_Same.mono : ∀ a0 a1 k, LeO (abutmentref01_Same.f k a0 a1) (abutmentref01_Same.f (k + 1) a0 a1) := by
  intro a0 a1 k
  have ih0 := abutmentref01_Same.mono_l k
  unfold abutmentref01_Same.f
  repeat' first
      | (with_reducible exact ih0 _ _ _)
      | (with_reducible exact LeO.refl _)
      | (with_reducible exact LeO.none _)
      | (with_reducible refine LeO.ite ?_ ?_)
      | (with_reducible refine LeO.bind ?_ (fun _ => ?_))
      | exact ih0 _ _ _
      | exact LeO.none _
      | refine LeO.ite ?_ ?_
      | refine LeO.bind ?_ (fun _ => ?_)
set_option maxHeartbeats 8000000 in
set_option maxRecDepth 100000 in
theorem abutmentref01_Same.calls (k : Nat) (A0 : Option Addr) (c0 : Nat) (l0 : List ByteArray) (A1 : Option Addr) (c1 : Nat) (l1 : List ByteArray) (r : Bool) (w : World) (hr0 : Kd.C Kd.string w A0 l0.length l0) (hc0 : l0.length ≤ c0) (hr1 : Kd.C Kd.string w A1 l1.length l1) (hc1 : l1.length ≤ c1) (h : abutmentref01_Same.f k l0 l1 = some r) :
    Calls Try.prog 21 #[.slice A0 l0.length c0, .slice A1 l1.length c1] w fun e w' => e = .returned (.bool r) ∧ Drawn0 w w' := by
  have HR0 := Aside0.mk hr0
  have HC0 := Aside0.mk hc0
  clear hr0 hc0
  have HR1 := Aside0.mk hr1
  have HC1 := Aside0.mk hc1
  clear hr1 hc1
  have H : (if (l0.length : Int) = (l1.length : Int) then (abutmentref01_Same.l0 k l0 l1 0) else (some false)) = some r := h
  clear h
  by_cases c3 : (l0.length : Int) = (l1.length : Int)
  · rw [if_pos c3] at H
    have c3b0 : ((l0.length : Int) == (l1.length : Int)) = true := beq_iff_eq.mpr c3
    have c3b1 : ((l0.length : Int) != (l1.length : Int)) = false := bne_eq_false_iff_eq.mpr c3
    have c3b2 : (l0.length == l1.length) = true := by first | simpa using c3 | (simp at c3 ⊢; omega)
    clear c3
    have H' := Aside0.mk H
    clear H
    go_enter Try.func21, Try.ntmps21
    go_wp2
    repeat (go_quiet (fail); try go_wp2)
    go_loopg [5] k (fun kq v5 w' => ∃ (x5_1 : Int), v5 = .int .i64 x5_1 ∧ Aside0 (abutmentref01_Same.l0 kq l0 l1 x5_1 = some r) ∧ Aside0 (kq ≤ k) ∧ Drawn0 w w')
    case atStart => exact ⟨(0), (by first | rfl | (simp; done) | (simp [*]; done)), H', ⟨Nat.le_refl _⟩, by repeat (first | exact Drawn0.refl _ | apply Drawn0.step)⟩
    case round =>
      clear H'
      try clear c1
      try clear c2
      try clear p2
      try clear c3
      try clear c3b0
      try clear c3b1
      try clear c3b2
      obtain ⟨x5_1, rfl, HA, HK1, ⟨m1, rfl⟩⟩ := hrel
      cases gk with
      | zero => exact absurd HA.out (by simp [abutmentref01_Same.l0])
      | succ k1 =>
        have H := HA.out
        clear HA
        simp only [abutmentref01_Same.l0] at H
        by_cases c4 : x5_1 < (l0.length : Int)
        · rw [if_pos c4] at H
          have c4b0 : decide (x5_1 < (l0.length : Int)) = true := decide_eq_true c4
          clear c4
          by_cases c5 : 0 ≤ x5_1
          · rw [if_pos c5] at H
            have c5b0 : decide (0 ≤ x5_1) = true := decide_eq_true c5
            clear c5
            by_cases c6 : x5_1 < (l1.length : Int)
            · rw [if_pos c6] at H
              have c6b0 : decide (x5_1 < (l1.length : Int)) = true := decide_eq_true c6
              clear c6
              by_cases c7 : (rdOf ByteArray.empty l0 x5_1).toList = (rdOf ByteArray.empty l1 x5_1).toList
              · rw [if_pos c7] at H
                have c7b0 : ((rdOf ByteArray.empty l0 x5_1).toList == (rdOf ByteArray.empty l1 x5_1).toList) = true := beq_iff_eq.mpr c7
                have c7b1 : ((rdOf ByteArray.empty l0 x5_1).toList != (rdOf ByteArray.empty l1 x5_1).toList) = false := bne_eq_false_iff_eq.mpr c7
                clear c7
                have H' := Aside0.mk H
                clear H
                have p101 : 0 ≤ (x5_1 : Int) := of_decide_eq_true (by first | (with_reducible assumption) | assumption)
                have q101 : x5_1 < (l0.length : Int) := of_decide_eq_true (by first | (with_reducible assumption) | assumption)
                obtain ⟨ad101, e101, hx101_0⟩ := Kd.at_string HR0.out x5_1 p101 q101
                cases e101
                replace p101 := eq_true p101
                replace q101 := eq_true q101
                have p102 : 0 ≤ (x5_1 : Int) := of_decide_eq_true (by first | (with_reducible assumption) | assumption)
                have q102 : x5_1 < (l1.length : Int) := of_decide_eq_true (by first | (with_reducible assumption) | assumption)
                obtain ⟨ad102, e102, hx102_0⟩ := Kd.at_string HR1.out x5_1 p102 q102
                cases e102
                replace p102 := eq_true p102
                replace q102 := eq_true q102
                go_wp2
                repeat (go_quiet (fail); try go_wp2)
                go_roundg k1
                case measure => have := HK1.out; omega
                case rel => exact ⟨(wrap64 (x5_1 + 1)), (by first | rfl | (simp; done) | (simp [*]; done)), H', ⟨by have := HK1.out; omega⟩, by repeat (first | exact Drawn0.refl _ | apply Drawn0.step)⟩
              · rw [if_neg c7] at H
                have c7b0 : ((rdOf ByteArray.empty l0 x5_1).toList == (rdOf ByteArray.empty l1 x5_1).toList) = false := beq_eq_false_iff_ne.mpr c7
                have c7b1 : ((rdOf ByteArray.empty l0 x5_1).toList != (rdOf ByteArray.empty l1 x5_1).toList) = true := bne_iff_ne.mpr c7
                obtain rfl := Option.some.inj H
                have p101 : 0 ≤ (x5_1 : Int) := of_decide_eq_true (by first | (with_reducible assumption) | assumption)
                have q101 : x5_1 < (l0.length : Int) := of_decide_eq_true (by first | (with_reducible assumption) | assumption)
                obtain ⟨ad101, e101, hx101_0⟩ := Kd.at_string HR0.out x5_1 p101 q101
                cases e101
                replace p101 := eq_true p101
                replace q101 := eq_true q101
                have p102 : 0 ≤ (x5_1 : Int) := of_decide_eq_true (by first | (with_reducible assumption) | assumption)
                have q102 : x5_1 < (l1.length : Int) := of_decide_eq_true (by first | (with_reducible assumption) | assumption)
                obtain ⟨ad102, e102, hx102_0⟩ := Kd.at_string HR1.out x5_1 p102 q102
                cases e102
                replace p102 := eq_true p102
                replace q102 := eq_true q102
                go_wp2
                repeat (go_quiet (fail); try go_wp2)
                go_ret
                exact ⟨by first | rfl | (simp; done) | (simp [*]; done), by repeat (first | exact Drawn0.refl _ | apply Drawn0.step)⟩
            · rw [if_neg c6] at H
              exact absurd H (by simp)
          · rw [if_neg c5] at H
            exact absurd H (by simp)
        · rw [if_neg c4] at H
          have c4b0 : decide (x5_1 < (l0.length : Int)) = false := decide_eq_false c4
          clear c4
          obtain rfl := Option.some.inj H
          go_wp2
          repeat (go_quiet (fail); try go_wp2)
          go_ret
          exact ⟨by first | rfl | (simp; done) | (simp [*]; done), by repeat (first | exact Drawn0.refl _ | apply Drawn0.step)⟩
  · rw [if_neg c3] at H
    have c3b0 : ((l0.length : Int) == (l1.length : Int)) = false := beq_eq_false_iff_ne.mpr c3
    have c3b1 : ((l0.length : Int) != (l1.length : Int)) = true := bne_iff_ne.mpr c3
    have c3b2 : (l0.length == l1.length) = false := by first | simpa using c3 | (simp at c3 ⊢; omega)
    obtain rfl := Option.some.inj H
    go_enter Try.func21, Try.ntmps21
    go_wp2
    repeat (go_quiet (fail); try go_wp2)
    go_ret
    exact ⟨by first | rfl | (simp; done) | (simp [*]; done), by repeat (first | exact Drawn0.refl _ | apply Drawn0.step)⟩

end Go.Proofs.Ytkjkbenmoogdjaa.X
namespace Go.Proofs.Ytkjkbenmoogdjaa.X
open Go.RowKit Go.Proofs.YtkjkbenmoogdjaaW.PrintWords Go.Proofs.YtkjkbenmoogdjaaW.PrintLast Go.Proofs.YtkjkbenmoogdjaaW.PrintMore
attribute [local go_sem] max2_int min2_int max_two min_two max_three min_three max_four min_four   -- for this text's walks alone
set_option linter.unusedVariables false
set_option linter.unusedSimpArgs false

/-! ### pure text 12: refSame -/
theorem toList_inj (a b : ByteArray) : a.toList = b.toList ↔ a = b := by
  constructor
  · intro h
    rw [Lib.toList_data, Lib.toList_data] at h
    obtain ⟨⟨a⟩⟩ := a
    obtain ⟨⟨b⟩⟩ := b
    simp at h
    rw [h]
  · intro h; rw [h]
theorem rd_nat (l : List ByteArray) (i : Nat) (h : i < l.length) : rdOf ByteArray.empty l (i : Int) = l[i]'h := by
  unfold rdOf
  simp [List.getElem?_eq_getElem h]
theorem same_l0 (x y : List ByteArray) (hl : x.length = y.length) (hs : x.length ≤ 1000000000) : ∀ (d i k : Nat), x.length - i = d → i ≤ x.length → d < k →
    abutmentref01_Same.l0 k x y (i : Int) = some (decide (x.drop i = y.drop i)) := by
  intro d
  induction d with
  | zero =>
    intro i k hd hi hk
    obtain ⟨k, rfl⟩ : ∃ m, k = m + 1 := ⟨k - 1, by omega⟩
    simp only [abutmentref01_Same.l0]
    rw [if_neg (by omega), List.drop_eq_nil_iff.2 (by omega), List.drop_eq_nil_iff.2 (by omega)]
    rfl
  | succ d ih =>
    intro i k hd hi hk
    obtain ⟨k, rfl⟩ : ∃ m, k = m + 1 := ⟨k - 1, by omega⟩
    have hlx : i < x.length := by omega
    have hly : i < y.length := by omega
    have hw : wrap64 ((i : Int) + 1) = ((i + 1 : Nat) : Int) := by rw [wrap_id _ (by omega) (by omega)]; omega
    simp only [abutmentref01_Same.l0]
    rw [if_pos (by omega), if_pos (by omega), if_pos (by omega), rd_nat x i hlx, rd_nat y i hly, hw, List.drop_eq_getElem_cons hlx, List.drop_eq_getElem_cons hly, ih (i + 1) k (by omega) (by omega) (by omega)]
    generalize x.drop (i + 1) = X
    generalize y.drop (i + 1) = Y
    generalize x[i]'hlx = p
    generalize y[i]'hly = q
    by_cases he : p = q
    · rw [if_pos (by rw [he]), he]
      simp
    · rw [if_neg (fun h => he ((toList_inj _ _).1 h))]
      simp [he]
theorem ref_same (x y : List ByteArray) (hs : x.length ≤ 1000000000) (k : Nat) (hk : x.length < k) : abutmentref01_Same.f k x y = some (decide (x = y)) := by
  unfold abutmentref01_Same.f
  by_cases h : (x.length : Int) = (y.length : Int)
  · rw [if_pos h]
    have := same_l0 x y (by omega) hs x.length 0 k (by omega) (by omega) hk
    simpa using this
  · rw [if_neg h]
    have : ¬ x = y := fun e => h (by rw [e])
    simp [this]


end Go.Proofs.Ytkjkbenmoogdjaa.X
namespace Go.Proofs.Ytkjkbenmoogdjaa.X
open Go.RowKit Go.Proofs.YtkjkbenmoogdjaaW.PrintWords Go.Proofs.YtkjkbenmoogdjaaW.PrintLast Go.Proofs.YtkjkbenmoogdjaaW.PrintMore
attribute [local go_sem] max2_int min2_int max_two min_two max_three min_three max_four min_four   -- for this text's walks alone
set_option linter.unusedVariables false
set_option linter.unusedSimpArgs false

/-! ### pure text 15: refJoin -/
theorem joinL_nil : joinL [] = [] := rfl
theorem joinL_one (x : ByteArray) : joinL [x] = x.data.toList := Lib.join_one _ _
theorem joinL_snoc (l : List ByteArray) (x : ByteArray) (h : l ≠ []) : joinL (l ++ [x]) = joinL l ++ [44, 32] ++ x.data.toList := by
  obtain ⟨y, l, rfl⟩ := List.exists_cons_of_ne_nil h
  unfold joinL
  simp only [List.cons_append, List.map_cons, List.map_append, List.map_nil]
  rw [Lib.join_cons, Lib.join_cons]
  unfold Lib.joinTail
  simp
theorem joinL_len (M : Nat) (l : List ByteArray) (h : ∀ x ∈ l, x.size ≤ M) : (joinL l).length ≤ l.length * (M + 2) := by
  have : ∀ (r : List ByteArray), (∀ x ∈ r, x.size ≤ M) → (Lib.joinTail [44, 32] (r.map (·.data.toList))).length ≤ r.length * (M + 2) := by
    intro r
    induction r with
    | nil => intro _; simp [Lib.joinTail]
    | cons x r ih =>
      intro hx
      have h1 := ih (fun y hy => hx y (by simp [hy]))
      have h2 := hx x (by simp)
      rw [size_list] at h2
      simp only [Lib.joinTail, List.map_cons, List.flatten_cons, List.length_append, List.length_cons, List.length_nil] at h1 ⊢
      rw [Nat.add_mul]
      omega
  match l, h with
  | [], _ => simp [joinL, Lib.join_nil]
  | x :: r, h =>
    have h1 := this r (fun y hy => h y (by simp [hy]))
    have h2 := h x (by simp)
    rw [size_list] at h2
    unfold joinL
    simp only [List.map_cons]
    rw [Lib.join_cons, List.length_append, List.length_cons, Nat.add_mul]
    omega
theorem mk_append (a b : List UInt8) : (⟨a.toArray⟩ : ByteArray) ++ (⟨b.toArray⟩ : ByteArray) = ⟨(a ++ b).toArray⟩ := by
  apply (toList_inj _ _).1
  rw [Lib.toList_data, Lib.toList_data]
  simp
theorem joinB_snoc (l : List ByteArray) (x : ByteArray) (h : l ≠ []) : joinB (l ++ [x]) = (joinB l ++ (⟨#[44, 32]⟩ : ByteArray)) ++ x := by
  unfold joinB
  rw [joinL_snoc l x h, show (⟨#[44, 32]⟩ : ByteArray) = ⟨[44, 32].toArray⟩ from rfl, mk_append]
  conv => rhs; rw [← mk_eta x, mk_append]
theorem joinB_one (x : ByteArray) : joinB [x] = (⟨#[]⟩ : ByteArray) ++ x := by
  unfold joinB
  rw [joinL_one, mk_eta]
  apply (toList_inj _ _).1
  rw [Lib.toList_data, Lib.toList_data]
  simp
theorem joinB_size (M : Nat) (l : List ByteArray) (h : ∀ x ∈ l, x.size ≤ M) : (joinB l).size ≤ l.length * (M + 2) := by
  unfold joinB; rw [size_mk]; exact joinL_len M l h
theorem refjoin_l0 (M : Nat) (hM : M ≤ 1000000) (l : List ByteArray) (hl : l.length ≤ 1000000) (hsz : ∀ x ∈ l, x.size ≤ M) : ∀ (d i k : Nat), l.length - i = d → i ≤ l.length → d < k →
    abutmentref07_Join.l0 k l (joinB (l.take i)) (i : Int) = some (joinB l) := by
  intro d
  induction d with
  | zero =>
    intro i k hd hi hk
    obtain ⟨k, rfl⟩ : ∃ m, k = m + 1 := ⟨k - 1, by omega⟩
    simp only [abutmentref07_Join.l0]
    rw [if_neg (by omega), List.take_of_length_le (by omega)]
  | succ d ih =>
    intro i k hd hi hk
    obtain ⟨k, rfl⟩ : ∃ m, k = m + 1 := ⟨k - 1, by omega⟩
    have hli : i < l.length := by omega
    have hw : wrap64 ((i : Int) + 1) = ((i + 1 : Nat) : Int) := by rw [wrap_id _ (by omega) (by omega)]; omega
    have hx := hsz _ (List.getElem_mem hli)
    have hb := joinB_size M (l.take i) (fun x hx => hsz x (List.mem_of_mem_take hx))
    have hb2 : (l.take i).length * (M + 2) ≤ 1000000 * 1000002 := Nat.mul_le_mul (by rw [List.length_take]; omega) (by omega)
    have hnext := ih (i + 1) k (by omega) (by omega) (by omega)
    rw [take_snoc' l i hli] at hnext
    simp only [abutmentref07_Join.l0]
    rw [if_pos (by omega), rd_nat l i hli, hw]
    by_cases h0 : i = 0
    · subst h0
      rw [if_neg (by omega), if_pos (by omega), if_pos (by omega)]
      rw [List.take_zero, List.nil_append, joinB_one] at hnext
      exact hnext
    · have hne : l.take i ≠ [] := by
        intro h
        have := congrArg List.length h
        rw [List.length_take, List.length_nil] at this
        omega
      rw [if_pos (by omega), if_pos (by omega), if_pos (by omega), if_pos (by rw [ByteArray.size_append, show (⟨#[44, 32]⟩ : ByteArray).size = 2 from rfl]; omega)]
      rw [joinB_snoc _ _ hne] at hnext
      exact hnext
theorem ref_join (M : Nat) (hM : M ≤ 1000000) (l : List ByteArray) (hl : l.length ≤ 1000000) (hsz : ∀ x ∈ l, x.size ≤ M) (k : Nat) (hk : l.length < k) : abutmentref07_Join.f k l = some (joinB l) := by
  have := refjoin_l0 M hM l hl hsz l.length 0 k (by omega) (by omega) hk
  exact this


end Go.Proofs.Ytkjkbenmoogdjaa.X
namespace Go.Proofs.Ytkjkbenmoogdjaa.X
open Go.RowKit Go.Proofs.YtkjkbenmoogdjaaW.PrintWords Go.Proofs.YtkjkbenmoogdjaaW.PrintLast Go.Proofs.YtkjkbenmoogdjaaW.PrintMore
attribute [local go_sem] max2_int min2_int max_two min_two max_three min_three max_four min_four   -- for this text's walks alone
set_option linter.unusedVariables false
set_option linter.unusedSimpArgs false

/-! ### pure text 30: header -/
theorem rd_fd (l : List S23) (i : Nat) (h : i < l.length) : rd_T23 l (i : Int) = l[i]'h := by
  unfold rd_T23
  simp [h]
/-- At most 40 fields, names of at most 100 octets, values of at most 300. -/
def fewB (l : List S23) : Bool := decide (l.length ≤ 40) && l.all fun f => decide (f.f0.size ≤ 100) && decide (f.f1.size ≤ 300)
theorem few_l0 (l : List S23) (hl : l.length ≤ 40) : ∀ (d i k : Nat), l.length - i = d → i ≤ l.length → d < k →
    abutmentlaw10_Few.l0 k l (l.length : Int) (i : Int) = some ((l.drop i).all fun f => decide (f.f0.size ≤ 100) && decide (f.f1.size ≤ 300)) := by
  intro d
  induction d with
  | zero =>
    intro i k hd hi hk
    obtain ⟨k, rfl⟩ : ∃ m, k = m + 1 := ⟨k - 1, by omega⟩
    simp only [abutmentlaw10_Few.l0]
    rw [if_neg (by omega), List.drop_eq_nil_iff.2 (by omega)]
    rfl
  | succ d ih =>
    intro i k hd hi hk
    obtain ⟨k, rfl⟩ : ∃ m, k = m + 1 := ⟨k - 1, by omega⟩
    have hlt : i < l.length := by omega
    have hw : wrap64 ((i : Int) + 1) = ((i + 1 : Nat) : Int) := by rw [wrap_id _ (by omega) (by omega)]; omega
    simp only [abutmentlaw10_Few.l0]
    rw [if_pos (by omega), if_pos (by omega), if_pos (by omega), rd_fd l i hlt, hw, List.drop_eq_getElem_cons hlt, List.all_cons]
    by_cases h1 : (l[i]'hlt).f0.size ≤ 100
    · rw [if_neg (by omega)]
      by_cases h2 : (l[i]'hlt).f1.size ≤ 300
      · rw [if_neg (by omega), ih (i + 1) k (by omega) (by omega) (by omega), decide_eq_true h1, decide_eq_true h2]
        simp
      · rw [if_pos (by omega), decide_eq_false h2]
        simp
    · rw [if_pos (by omega), decide_eq_false h1]
      simp
theorem few_f (l : List S23) (k : Nat) (hk : 40 < k) : abutmentlaw10_Few.f k l = some (fewB l) := by
  unfold abutmentlaw10_Few.f fewB
  by_cases h : l.length ≤ 40
  · rw [if_neg (by omega), show (0 : Int) = ((0 : Nat) : Int) from rfl, few_l0 l h l.length 0 k (by omega) (by omega) (by omega), decide_eq_true h]
    simp
  · rw [if_pos (by omega), decide_eq_false h]
    simp
/-- What few fields are. -/
theorem few_spec (l : List S23) (h : fewB l = true) : l.length ≤ 40 ∧ ∀ f ∈ l, f.f0.size ≤ 100 ∧ f.f1.size ≤ 300 := by
  unfold fewB at h
  rw [Bool.and_eq_true, decide_eq_true_iff, List.all_eq_true] at h
  refine ⟨h.1, fun f hf => ?_⟩
  have := h.2 f hf
  rw [Bool.and_eq_true, decide_eq_true_iff, decide_eq_true_iff] at this
  exact this
/-- Fields that a scan bears. -/
def OkF (l : List S23) : Prop := l.length ≤ 1000 ∧ ∀ f ∈ l, f.f0.size ≤ 1000 ∧ f.f1.size ≤ 1000
theorem few_ok {l : List S23} (h : fewB l = true) : OkF l := by
  obtain ⟨h1, h2⟩ := few_spec l h
  exact ⟨by omega, fun f hf => by have := h2 f hf; omega⟩
theorem foldB_comm (a b : ByteArray) : foldB a b = foldB b a := by
  unfold foldB
  exact Bool.eq_iff_iff.2 ⟨fun h => beq_iff_eq.2 (beq_iff_eq.1 h).symm, fun h => beq_iff_eq.2 (beq_iff_eq.1 h).symm⟩
theorem ref_is (a b : ByteArray) (ha : a.size ≤ 1000000000) (hb : b.size ≤ 1000000000) (k : Nat) (hka : a.size < k) (hkb : b.size < k) : abutmentref10_Is.f k a b = some (foldB a b) := by
  unfold abutmentref10_Is.f
  rw [ref_lower a ha k hka]
  simp only [Option.bind_some]
  rw [ref_lower b hb k hkb]
  simp only [Option.bind_some]
  congr 1
  rw [Bool.eq_iff_iff, beq_iff_eq]
  exact lowB_eq a b
theorem allB_snoc (l : List S23) (i : Nat) (h : i < l.length) (name : ByteArray) : allB (l.take (i + 1)) name = if foldB (l[i]'h).f0 name = true then allB (l.take i) name ++ [(l[i]'h).f1] else allB (l.take i) name := by
  rw [← List.take_append_getElem h]
  unfold allB
  rw [List.filter_append, List.map_append]
  rw [foldB_comm]
  by_cases hf : foldB name (l[i]'h).f0 = true
  · rw [if_pos hf]; simp [hf]
  · rw [if_neg hf]; simp [hf]
theorem refall_l0 (l : List S23) (hl : l.length ≤ 1000000) (M : Nat) (hM : M ≤ 1000000000) (hsz : ∀ f ∈ l, f.f0.size ≤ M) (name : ByteArray) (hn : name.size ≤ M) : ∀ (d i k : Nat), l.length - i = d → i ≤ l.length → d + M + 1 < k →
    abutmentref10_All.l0 k l name (allB (l.take i) name) (i : Int) = some (allB l name) := by
  intro d
  induction d with
  | zero =>
    intro i k hd hi hk
    obtain ⟨k, rfl⟩ : ∃ m, k = m + 1 := ⟨k - 1, by omega⟩
    simp only [abutmentref10_All.l0]
    rw [if_neg (by omega), List.take_of_length_le (by omega)]
  | succ d ih =>
    intro i k hd hi hk
    obtain ⟨k, rfl⟩ : ∃ m, k = m + 1 := ⟨k - 1, by omega⟩
    have hlt : i < l.length := by omega
    have hw : wrap64 ((i : Int) + 1) = ((i + 1 : Nat) : Int) := by rw [wrap_id _ (by omega) (by omega)]; omega
    have hs := hsz _ (List.getElem_mem hlt)
    have hal : (allB (l.take i) name).length ≤ i := Nat.le_trans (allB_len _ _) (by simp; omega)
    have hnext := ih (i + 1) k (by omega) (by omega) (by omega)
    rw [allB_snoc l i hlt] at hnext
    simp only [abutmentref10_All.l0]
    rw [if_pos (by omega), if_pos (by omega), rd_fd l i hlt, hw, ref_is _ _ (by omega) (by omega) k (by omega) (by omega)]
    simp only [Option.bind_some]
    by_cases hf : foldB (l[i]'hlt).f0 name = true
    · rw [if_pos hf] at hnext ⊢
      rw [if_pos (by omega)]
      exact hnext
    · rw [if_neg hf] at hnext ⊢
      exact hnext
theorem ref_all (l : List S23) (hl : OkF l) (name : ByteArray) (hn : name.size ≤ 1000) (k : Nat) (hk : 3000 < k) : abutmentref10_All.f k l name = some (allB l name) :=
  refall_l0 l (by have := hl.1; omega) 1000 (by omega) (fun f hf => (hl.2 f hf).1) name hn l.length 0 k (by omega) (by omega) (by have := hl.1; omega)
theorem allB_sizes (l : List S23) (hl : OkF l) (name : ByteArray) : ∀ x ∈ allB l name, x.size ≤ 1000 := by
  intro x hx
  unfold allB at hx
  obtain ⟨f, hf, rfl⟩ := List.mem_map.1 hx
  exact (hl.2 f (List.mem_filter.1 hf).1).2
theorem comb_size (l : List S23) (hl : OkF l) (name : ByteArray) : (combB l name).size ≤ l.length * 1002 := by
  unfold combB
  have h1 := joinB_size 1000 (allB l name) (allB_sizes l hl name)
  have h2 := allB_len l name
  have h3 : (allB l name).length * 1002 ≤ l.length * 1002 := Nat.mul_le_mul_right _ h2
  exact Nat.le_trans h1 h3
theorem header_combined (l : List S23) (hl : OkF l) (name : ByteArray) (hn : name.size ≤ 1000) : header_Combined.f l name = some (combB l name, decide (((allB l name).length : Int) > 0)) := by
  have := comb_size l hl name
  have := hl.1
  exact combined_f l name (by omega) (by omega) (by omega)
theorem ref_combined (l : List S23) (hl : OkF l) (name : ByteArray) (hn : name.size ≤ 1000) (k : Nat) (hk : 3000 < k) : abutmentref10_Combined.f k l name = some (combB l name, decide (((allB l name).length : Int) > 0)) := by
  have h2 := allB_len l name
  have := hl.1
  unfold abutmentref10_Combined.f
  rw [ref_all l hl name hn k hk]
  simp only [Option.bind_some]
  rw [ref_join 1000 (by omega) (allB l name) (by omega) (allB_sizes l hl name) k (by omega)]
  rfl
theorem same9_l0 (l : List S23) (hl : l.length ≤ 1000000) : ∀ (d i k : Nat), l.length - i = d → i ≤ l.length → d < k → abutmentref09_Same.l0 k l l (i : Int) = some true := by
  intro d
  induction d with
  | zero =>
    intro i k hd hi hk
    obtain ⟨k, rfl⟩ : ∃ m, k = m + 1 := ⟨k - 1, by omega⟩
    simp only [abutmentref09_Same.l0]
    rw [if_neg (by omega)]
  | succ d ih =>
    intro i k hd hi hk
    obtain ⟨k, rfl⟩ : ∃ m, k = m + 1 := ⟨k - 1, by omega⟩
    have hw : wrap64 ((i : Int) + 1) = ((i + 1 : Nat) : Int) := by rw [wrap_id _ (by omega) (by omega)]; omega
    simp only [abutmentref09_Same.l0]
    rw [if_pos (by omega), if_pos (by omega), if_pos (by omega), if_neg (by simp), hw]
    exact ih (i + 1) k (by omega) (by omega) (by omega)
theorem ref_same9 (l : List S23) (hl : l.length ≤ 1000000) (k : Nat) (hk : l.length < k) : abutmentref09_Same.f k l l = some true := by
  unfold abutmentref09_Same.f
  rw [if_pos rfl]
  exact same9_l0 l hl l.length 0 k (by omega) (by omega) hk


end Go.Proofs.Ytkjkbenmoogdjaa.X
namespace Go.Proofs.Ytkjkbenmoogdjaa.X
open Go.RowKit Go.Proofs.YtkjkbenmoogdjaaW.PrintWords Go.Proofs.YtkjkbenmoogdjaaW.PrintLast Go.Proofs.YtkjkbenmoogdjaaW.PrintMore
attribute [local go_sem] max2_int min2_int max_two min_two max_three min_three max_four min_four   -- for this text's walks alone
set_option linter.unusedVariables false
set_option linter.unusedSimpArgs false

/-! ### abutmentref01_Tchar: function 83 -/
def rMarks : ByteArray := ⟨#[33, 35, 36, 37, 38, 39, 42, 43, 45, 46, 94, 95, 96, 124, 126]⟩
def rMarksL : List Int := [33, 35, 36, 37, 38, 39, 42, 43, 45, 46, 94, 95, 96, 124, 126]
def tcharI (a : Int) : Bool := (decide (48 ≤ a) && decide (a ≤ 57)) || (decide (65 ≤ a) && decide (a ≤ 90)) || (decide (97 ≤ a) && decide (a ≤ 122)) || rMarksL.contains a
theorem rMarks_at (pos : Nat) (h : pos < 15) : ∀ h2 : pos < rMarks.size, ((rMarks[pos]'h2).toNat : Int) = rMarksL.getD pos 0 := by
  have h3 : ∀ p : Fin 15, ((rMarks.data.getD p.val 0).toNat : Int) = rMarksL.getD p.val 0 := by decide
  have h4 := h3 ⟨pos, h⟩
  intro h2
  rw [← h4]
  have : rMarks.data.getD pos 0 = rMarks[pos]'h2 := by
    simp only [Array.getD_eq_getD_getElem?]
    rw [Array.getElem?_eq_getElem (by exact h2)]
    rfl
  simp only [this]
theorem rMarksL_drop (pos : Nat) (h : pos < 15) : rMarksL.drop pos = rMarksL.getD pos 0 :: rMarksL.drop (pos + 1) := by
  have h2 : ∀ p : Fin 15, rMarksL.drop p.val = rMarksL.getD p.val 0 :: rMarksL.drop (p.val + 1) := by decide
  exact h2 ⟨pos, h⟩
def abutmentref01_Tchar.f (a0 : Int) : Option (Bool) := some (tcharI a0)
set_option maxHeartbeats 2000000 in
set_option maxRecDepth 1000000 in
theorem abutmentref01_Tchar.calls (a0 : Int) (r : Bool) (w : World) (h : abutmentref01_Tchar.f a0 = some r) :
    Calls Try.prog 83 #[.int .u8 a0] w fun e w' => e = .returned (.bool r) ∧ Drawn0 w w' := by
  obtain rfl := Option.some.inj h
  clear h
  by_cases ha : (97 ≤ a0 ∧ a0 ≤ 122) ∨ (65 ≤ a0 ∧ a0 ≤ 90) ∨ (48 ≤ a0 ∧ a0 ≤ 57)
  · have hR : tcharI a0 = true := by
      unfold tcharI
      rcases ha with h | h | h <;> simp [h.1, h.2]
    have HR := Aside0.mk hR
    clear hR
    rcases ha with ⟨h1, h2⟩ | ⟨h1, h2⟩ | ⟨h1, h2⟩
    all_goals
      go_enter Try.func83, Try.ntmps83
      go_wp2
      go_ret
      exact ⟨by rw [HR.out]; rfl, Drawn0.refl _⟩
  · have hR : tcharI a0 = (rMarksL.drop 0).contains a0 := by
      unfold tcharI
      have e1 : (decide (97 ≤ a0) && decide (a0 ≤ 122)) = false := by
        rw [Bool.eq_false_iff]; simp; omega
      have e2 : (decide (65 ≤ a0) && decide (a0 ≤ 90)) = false := by
        rw [Bool.eq_false_iff]; simp; omega
      have e3 : (decide (48 ≤ a0) && decide (a0 ≤ 57)) = false := by
        rw [Bool.eq_false_iff]; simp; omega
      rw [e1, e2, e3]; rfl
    have HR := Aside0.mk hR
    clear hR
    have hc : a0 < 48 ∨ (57 < a0 ∧ a0 < 65) ∨ (90 < a0 ∧ a0 < 97) ∨ 122 < a0 := by omega
    clear ha
    rcases hc with h1 | ⟨h1, h2⟩ | ⟨h1, h2⟩ | h1
    all_goals
      go_enter Try.func83, Try.ntmps83
      go_wp2
      rw [show (⟨#[33, 35, 36, 37, 38, 39, 42, 43, 45, 46, 94, 95, 96, 124, 126]⟩ : ByteArray) = rMarks from rfl]
      go_loop [4] (fun i => ∃ pos : Nat, pos ≤ 15 ∧ i = .int .i64 pos ∧ Aside0 ((rMarksL.drop pos).contains a0 = tcharI a0)) (fun i => 15 - (intOf i).toNat)
      case atStart => exact ⟨0, by omega, rfl, ⟨HR.out.symm⟩⟩
      case round =>
        obtain ⟨pos, hp, rfl, HL⟩ := hrel
        by_cases hlt : pos < 15
        · have hlt2 : (pos : Int) < 15 := by omega
          have hx := rMarks_at pos hlt
          have HL' : Aside0 ((rMarksL.getD pos 0 :: rMarksL.drop (pos + 1)).contains a0 = tcharI a0) := ⟨by rw [← rMarksL_drop pos hlt]; exact HL.out⟩
          clear HL
          obtain ⟨R, hRe⟩ : ∃ R, rMarksL.getD pos 0 = R := ⟨_, rfl⟩
          rw [hRe] at hx HL'
          clear hRe
          by_cases he : R = a0
          · have hb : (R == a0) = true := beq_iff_eq.2 he
            have HF : Aside0 (tcharI a0 = true) := ⟨by rw [← HL'.out, he]; simp⟩
            clear he HL'
            go_wp2
            go_ret
            exact ⟨by rw [HF.out]; rfl, Drawn0.refl _⟩
          · have hb : (R == a0) = false := beq_eq_false_iff_ne.2 he
            have HF : Aside0 ((rMarksL.drop (pos + 1)).contains a0 = tcharI a0) := ⟨by
              rw [← HL'.out, List.contains_cons]
              have : (a0 == R) = false := beq_eq_false_iff_ne.2 (fun h => he h.symm)
              rw [this, Bool.false_or]⟩
            clear he HL'
            go_wp2
            go_round
            case rel => exact ⟨pos + 1, by omega, by go_num, HF⟩
            case measure => simp [intOf]; omega
        · obtain rfl : pos = 15 := by omega
          have HF : Aside0 (tcharI a0 = false) := ⟨by rw [← HL.out]; rfl⟩
          clear HL
          go_wp2
          go_ret
          exact ⟨by rw [HF.out]; rfl, Drawn0.refl _⟩


end Go.Proofs.Ytkjkbenmoogdjaa.X
namespace Go.Proofs.Ytkjkbenmoogdjaa.X
open Go.RowKit Go.Proofs.YtkjkbenmoogdjaaW.PrintWords Go.Proofs.YtkjkbenmoogdjaaW.PrintLast Go.Proofs.YtkjkbenmoogdjaaW.PrintMore
attribute [local go_sem] max2_int min2_int max_two min_two max_three min_three max_four min_four   -- for this text's walks alone
set_option linter.unusedVariables false
set_option linter.unusedSimpArgs false

/-! ### abutmentref01_Token: function 50 -/
def abutmentref01_Token.l0 : Nat → ByteArray → Int → Option (Bool)
  | 0, _, _ => none
  | k + 1, x0, x3 => if x3 < (x0.size : Int) then (if 0 ≤ x3 then ((abutmentref01_Tchar.f (bt x0 x3)).bind fun t101 => (if t101 = true then (abutmentref01_Token.l0 k x0 (wrap64 (x3 + 1))) else (some false))) else (none)) else (some (decide ((x0.size : Int) > 0)))
def abutmentref01_Token.f (k : Nat) (a0 : ByteArray) : Option (Bool) := abutmentref01_Token.l0 k a0 0
theorem abutmentref01_Token.mono_l : ∀ k, (∀ y0 y1, LeO (abutmentref01_Token.l0 k y0 y1) (abutmentref01_Token.l0 (k + 1) y0 y1))
  | 0 => fun _ _ r h => by simp [abutmentref01_Token.l0] at h
  | k + 1 => by
    have ih0 := abutmentref01_Token.mono_l k
    · intro y0 y1
      unfold abutmentref01_Token.l0
      repeat' first
      | (with_reducible exact ih0 _ _)
      | (with_reducible exact LeO.refl _)
      | (with_reducible exact LeO.none _)
      | (with_reducible refine LeO.ite ?_ ?_)
      | (with_reducible refine LeO.bind ?_ (fun _ => ?_))
      | exact ih0 _ _
      | exact LeO.none _
      | refine LeO.ite ?_ ?_
      | refine LeO.bind ?_ (fun _ => ?_)
theorem abutmentref01_Token.mono : ∀ a0 k, LeO (abutmentref01_Token.f k a0) (abutmentref01_Token.f (k + 1) a0) := by
  intro a0 k
  have ih0 := abutmentref01_Token.mono_l k
  unfold abutmentref01_Token.f
  repeat' first
      | (with_reducible exact ih0 _ _)
      | (with_reducible exact LeO.refl _)
      | (with_reducible exact LeO.none _)
      | (with_reducible refine LeO.ite ?_ ?_)
      | (with_reducible refine LeO.bind ?_ (fun _ => ?_))
      | exact ih0 _ _
      | exact LeO.none _
      | refine LeO.ite ?_ ?_
      | refine LeO.bind ?_ (fun _ => ?_)
set_option maxHeartbeats 8000000 in
set_option maxRecDepth 100000 in
theorem abutmentref01_Token.calls (k : Nat) (a0 : ByteArray) (r : Bool) (w : World) (h : abutmentref01_Token.f k a0 = some r) :
    Calls Try.prog 50 #[.string a0] w fun e w' => e = .returned (.bool r) ∧ Drawn0 w w' := by
  have H : (abutmentref01_Token.l0 k a0 0) = some r := h
  clear h
  have H' := Aside0.mk H
  clear H
  go_enter Try.func50, Try.ntmps50
  go_wp2
  go_loopg [3] k (fun kq v3 w' => ∃ (x3_1 : Int), v3 = .int .i64 x3_1 ∧ Aside0 (abutmentref01_Token.l0 kq a0 x3_1 = some r) ∧ Aside0 (kq ≤ k) ∧ Drawn0 w w')
  case atStart => exact ⟨(0), (by first | rfl | (simp; done) | (simp [*]; done)), H', ⟨Nat.le_refl _⟩, by repeat (first | exact Drawn0.refl _ | apply Drawn0.step)⟩
  case round =>
    clear H'
    obtain ⟨x3_1, rfl, HA, HK1, ⟨m1, rfl⟩⟩ := hrel
    cases gk with
    | zero => exact absurd HA.out (by simp [abutmentref01_Token.l0])
    | succ k1 =>
      have H := HA.out
      clear HA
      simp only [abutmentref01_Token.l0] at H
      by_cases c2 : x3_1 < (a0.size : Int)
      · rw [if_pos c2] at H
        have c2b0 : decide (x3_1 < (a0.size : Int)) = true := decide_eq_true c2
        clear c2
        by_cases c3 : 0 ≤ x3_1
        · rw [if_pos c3] at H
          have c3b0 : decide (0 ≤ x3_1) = true := decide_eq_true c3
          clear c3
          replace H := Option.bind_eq_some_iff.mp H
          obtain ⟨t101, A50, H⟩ := H
          replace H : (if t101 = true then (abutmentref01_Token.l0 k1 a0 (wrap64 (x3_1 + 1))) else (some false)) = some r := H
          have A5 := Aside0.mk A50
          clear A50
          by_cases c6 : t101 = true
          · subst c6
            have H1 : (abutmentref01_Token.l0 k1 a0 (wrap64 (x3_1 + 1))) = some r := by rw [if_pos rfl] at H; exact H
            clear H
            have H := H1
            clear H1
            have H' := Aside0.mk H
            clear H
            have p4 : 0 ≤ (x3_1 : Int) := of_decide_eq_true (by first | (with_reducible assumption) | assumption)
            have q4 : x3_1 < (a0.size : Int) := of_decide_eq_true (by first | (with_reducible assumption) | assumption)
            have hx4 := bt_at a0 x3_1
            replace p4 := eq_true p4
            replace q4 := eq_true q4
            go_wp2_with (first | ((with_reducible refine gate_callee (f := 83) rfl ?_); refine goesL_ (some 13) rfl rfl Try.func83 (by kernel_rfl) rfl #[.int .u8 (bt a0 x3_1)] rfl (by (try simp only [List.map_toArray, List.map_cons, List.map_nil]); first | done | rfl | (simp only [List.length_drop, List.length_take]; rfl)) ?_; (with_reducible refine (abutmentref01_Tchar.calls (bt a0 x3_1) true _ A5.out).mono ?_); rintro e w' ⟨rfl, ⟨nd, rfl⟩⟩; refine ⟨_, rfl, ?_⟩))
            go_roundg k1
            case measure => have := HK1.out; omega
            case rel => exact ⟨(wrap64 (x3_1 + 1)), (by first | rfl | (simp; done) | (simp [*]; done)), H', ⟨by have := HK1.out; omega⟩, by repeat (first | exact Drawn0.refl _ | apply Drawn0.step)⟩
          · replace c6 := Bool.eq_false_iff.mpr c6
            subst c6
            have H1 : (some false) = some r := by rw [if_neg (show ¬ (false = true) by decide)] at H; exact H
            clear H
            have H := H1
            clear H1
            obtain rfl := Option.some.inj H
            have p4 : 0 ≤ (x3_1 : Int) := of_decide_eq_true (by first | (with_reducible assumption) | assumption)
            have q4 : x3_1 < (a0.size : Int) := of_decide_eq_true (by first | (with_reducible assumption) | assumption)
            have hx4 := bt_at a0 x3_1
            replace p4 := eq_true p4
            replace q4 := eq_true q4
            go_wp2_with (first | ((with_reducible refine gate_callee (f := 83) rfl ?_); refine goesL_ (some 13) rfl rfl Try.func83 (by kernel_rfl) rfl #[.int .u8 (bt a0 x3_1)] rfl (by (try simp only [List.map_toArray, List.map_cons, List.map_nil]); first | done | rfl | (simp only [List.length_drop, List.length_take]; rfl)) ?_; (with_reducible refine (abutmentref01_Tchar.calls (bt a0 x3_1) false _ A5.out).mono ?_); rintro e w' ⟨rfl, ⟨nd, rfl⟩⟩; refine ⟨_, rfl, ?_⟩))
            go_ret
            exact ⟨by first | rfl | (simp; done) | (simp [*]; done), by repeat (first | exact Drawn0.refl _ | apply Drawn0.step)⟩
        · rw [if_neg c3] at H
          exact absurd H (by simp)
      · rw [if_neg c2] at H
        have c2b0 : decide (x3_1 < (a0.size : Int)) = false := decide_eq_false c2
        clear c2
        obtain rfl := Option.some.inj H
        go_wp2
        go_ret
        exact ⟨by first | rfl | (simp; done) | (simp [*]; done), by repeat (first | exact Drawn0.refl _ | apply Drawn0.step)⟩

end Go.Proofs.Ytkjkbenmoogdjaa.X
namespace Go.Proofs.Ytkjkbenmoogdjaa.X
open Go.RowKit Go.Proofs.YtkjkbenmoogdjaaW.PrintWords Go.Proofs.YtkjkbenmoogdjaaW.PrintLast Go.Proofs.YtkjkbenmoogdjaaW.PrintMore
attribute [local go_sem] max2_int min2_int max_two min_two max_three min_three max_four min_four   -- for this text's walks alone
set_option linter.unusedVariables false
set_option linter.unusedSimpArgs false

/-! ### abutmentref17_Words: function 39 -/
def abutmentref17_Words.l0 : Nat → List ByteArray → List ByteArray → Int → Option (List ByteArray × Int)
  | 0, _, _, _ => none
  | k + 1, x6, x8, x9 => if x9 < (x6.length : Int) then (if 0 ≤ x9 then ((abutmentref01_Token.f k (rdOf ByteArray.empty x6 x9)).bind fun t111 => (if t111 = true then ((abutmentref01_Lower.f k (rdOf ByteArray.empty x6 x9)).bind fun t113 => (if x8.length < 8796093022208 then (abutmentref17_Words.l0 k x6 (x8 ++ [t113]) (wrap64 (x9 + 1))) else (none))) else (some (([] : List ByteArray), 3)))) else (none)) else (some (x8, 0))
def abutmentref17_Words.f (k : Nat) (l0 : List (S23)) : Option (List ByteArray × Int) := (abutmentref10_Combined.f k l0 (⟨#[67, 111, 110, 110, 101, 99, 116, 105, 111, 110]⟩ : ByteArray)).bind fun bt101 => ((abutmentref07_Split.f k bt101.1).bind fun bt103 => (if bt103.2 = true then (abutmentref17_Words.l0 k bt103.1 (([] : List ByteArray)) 0) else (some (([] : List ByteArray), 3))))
theorem abutmentref17_Words.mono_l : ∀ k, (∀ y0 y1 y2, LeO (abutmentref17_Words.l0 k y0 y1 y2) (abutmentref17_Words.l0 (k + 1) y0 y1 y2))
  | 0 => fun _ _ _ r h => by simp [abutmentref17_Words.l0] at h
  | k + 1 => by
    have ih0 := abutmentref17_Words.mono_l k
    · intro y0 y1 y2
      unfold abutmentref17_Words.l0
      repeat' first
      | (with_reducible exact ih0 _ _ _)
      | (with_reducible exact abutmentref01_Lower.mono _ _)
      | (with_reducible exact abutmentref01_Token.mono _ _)
      | (with_reducible exact abutmentref07_Split.mono _ _)
      | (with_reducible exact abutmentref10_Combined.mono _ _ _)
      | (with_reducible exact LeO.refl _)
      | (with_reducible exact LeO.none _)
      | (with_reducible refine LeO.ite ?_ ?_)
      | (with_reducible refine LeO.bind ?_ (fun _ => ?_))
      | exact ih0 _ _ _
      | exact abutmentref01_Lower.mono _ _
      | exact abutmentref01_Token.mono _ _
      | exact abutmentref07_Split.mono _ _
      | exact abutmentref10_Combined.mono _ _ _
      | exact LeO.none _
      | refine LeO.ite ?_ ?_
      | refine LeO.bind ?_ (fun _ => ?_)
theorem abutmentref17_Words.mono : ∀ a0 k, LeO (abutmentref17_Words.f k a0) (abutmentref17_Words.f (k + 1) a0) := by
  intro a0 k
  have ih0 := abutmentref17_Words.mono_l k
  unfold abutmentref17_Words.f
  repeat' first
      | (with_reducible exact ih0 _ _ _)
      | (with_reducible exact abutmentref01_Lower.mono _ _)
      | (with_reducible exact abutmentref01_Token.mono _ _)
      | (with_reducible exact abutmentref07_Split.mono _ _)
      | (with_reducible exact abutmentref10_Combined.mono _ _ _)
      | (with_reducible exact LeO.refl _)
      | (with_reducible exact LeO.none _)
      | (with_reducible refine LeO.ite ?_ ?_)
      | (with_reducible refine LeO.bind ?_ (fun _ => ?_))
      | exact ih0 _ _ _
      | exact abutmentref01_Lower.mono _ _
      | exact abutmentref01_Token.mono _ _
      | exact abutmentref07_Split.mono _ _
      | exact abutmentref10_Combined.mono _ _ _
      | exact LeO.none _
      | refine LeO.ite ?_ ?_
      | refine LeO.bind ?_ (fun _ => ?_)
set_option maxHeartbeats 8000000 in
set_option maxRecDepth 100000 in
theorem abutmentref17_Words.calls (k : Nat) (A0 : Option Addr) (c0 : Nat) (l0 : List (S23)) (r1 : List ByteArray) (r2 : Int) (w : World) (hr0 : Kd.C k23 w A0 l0.length l0) (hc0 : l0.length ≤ c0) (h : abutmentref17_Words.f k l0 = some (r1, r2)) :
    Calls Try.prog 39 #[.slice A0 l0.length c0] w fun e w' => ∃ v0_ : Value, e = .returned (.tuple #[v0_, .int .i64 r2]) ∧ Kd.R Kd.string 9 w' w.heap.size (fun _ => True) v0_ r1 ∧ Below w.heap.size w w' := by
  have HR0 := Aside0.mk hr0
  have HC0 := Aside0.mk hc0
  clear hr0 hc0
  have HB := Aside0.mk (Below.refl w.heap.size w)
  have H : ((abutmentref10_Combined.f k l0 (⟨#[67, 111, 110, 110, 101, 99, 116, 105, 111, 110]⟩ : ByteArray)).bind fun bt101 => ((abutmentref07_Split.f k bt101.1).bind fun bt103 => (if bt103.2 = true then (abutmentref17_Words.l0 k bt103.1 (([] : List ByteArray)) 0) else (some (([] : List ByteArray), 3))))) = some (r1, r2) := h
  clear h
  replace H := Option.bind_eq_some_iff.mp H
  obtain ⟨⟨t101, t102⟩, A20, H⟩ := H
  replace H : ((abutmentref07_Split.f k t101).bind fun bt103 => (if bt103.2 = true then (abutmentref17_Words.l0 k bt103.1 (([] : List ByteArray)) 0) else (some (([] : List ByteArray), 3)))) = some (r1, r2) := H
  have A2 := Aside0.mk A20
  clear A20
  replace H := Option.bind_eq_some_iff.mp H
  obtain ⟨⟨t103, t104⟩, A30, H⟩ := H
  replace H : (if t104 = true then (abutmentref17_Words.l0 k t103 (([] : List ByteArray)) 0) else (some (([] : List ByteArray), 3))) = some (r1, r2) := H
  have A3 := Aside0.mk A30
  clear A30
  by_cases c4 : t104 = true
  · subst c4
    have H1 : (abutmentref17_Words.l0 k t103 (([] : List ByteArray)) 0) = some (r1, r2) := by rw [if_pos rfl] at H; exact H
    clear H
    have H := H1
    clear H1
    obtain ⟨y107, hy107⟩ : ∃ y_ : List ByteArray, y_ = (([] : List ByteArray)) := ⟨_, rfl⟩
    replace H : (abutmentref17_Words.l0 k t103 y107 0) = some (r1, r2) := by first | (rw [hy107]; with_reducible exact H) | (have H2_ := (Option.bind_some _ _).symm.trans H; rw [hy107]; with_reducible exact H2_) | (have H2_ := (Option.bind_some _ _).symm.trans H; with_reducible exact H2_) | with_reducible exact H | (rw [hy107]; exact H) | exact H
    have Ny107 := Aside0.mk hy107
    clear hy107
    have H' := Aside0.mk H
    clear H
    go_enter Try.func39, Try.ntmps39
    go_wp2_with (first | ((with_reducible refine gate_callee (f := 73) rfl ?_); refine goesL_ (some 12) rfl rfl Try.func73 (by kernel_rfl) rfl #[.slice A0 l0.length c0, .string (⟨#[67, 111, 110, 110, 101, 99, 116, 105, 111, 110]⟩ : ByteArray)] rfl (by (try simp only [List.map_toArray, List.map_cons, List.map_nil]); first | done | rfl | (simp only [List.length_drop, List.length_take]; rfl)) ?_; (with_reducible refine (abutmentref10_Combined.calls k _ _ l0 (⟨#[67, 111, 110, 110, 101, 99, 116, 105, 111, 110]⟩ : ByteArray) t101 t102 _ ?side1 ?side2 A2.out).mono ?_); (case side1 => repeat (first | exact HR0.out | (with_reducible refine Kd.C_alloc ?_ _) | (with_reducible refine Kd.C_drewN ?_ _) | (with_reducible refine Kd.C_drew ?_))); (case side2 => exact HC0.out); rintro e w5 ⟨rfl, hb⟩; refine ⟨_, rfl, ?_⟩; have n0_ := Aside0.mk (below_step (by repeat (first | (with_reducible first | exact HB.out | apply below_alloc | apply pw_below_drewN | apply below_drew1) | exact HB.out)) hb); clear HB; have HB := n0_; clear n0_; (try clear hb); (try clear hb2); (try clear hk); (try clear hi)) | ((with_reducible refine gate_callee (f := 20) rfl ?_); refine goesL_ (some 17) rfl rfl Try.func20 (by kernel_rfl) rfl #[.string t101] rfl (by (try simp only [List.map_toArray, List.map_cons, List.map_nil]); first | done | rfl | (simp only [List.length_drop, List.length_take]; rfl)) ?_; (with_reducible refine (abutmentref07_Split.calls k t101 t103 true _ A3.out).mono ?_); rintro e w6 ⟨v105, rfl, ho0, hb⟩; refine ⟨_, rfl, ?_⟩; have n0_ := Aside0.mk (Kd.R_lower ho0 (below_size (by repeat (first | (with_reducible first | exact HB.out | apply below_alloc | apply pw_below_drewN | apply below_drew1) | exact HB.out)))); have n1_ := Aside0.mk (below_step (by repeat (first | (with_reducible first | exact HB.out | apply below_alloc | apply pw_below_drewN | apply below_drew1) | exact HB.out)) hb); clear HB; have HO106 := n0_; have HB := n1_; clear n0_ n1_; (try clear hb); (try clear hb2); (try clear hk); (try clear hi); (try clear ho0)) | ((with_reducible refine gate_dst (N := 22) rfl ?_); refine Kd.R_lit Kd.string _ 9 ?hg (N := 22) ?hd (xs := ([] : List ByteArray)) (inner := []) (ok := fun _ => True) (okp := fun _ => True) ?hr ?hp (fun _ hk => hk) trivial (Below.refl _ _) (Nat.le_refl _) (by simp) ?_; (case hd => rfl); (case hg => rfl); (case hr => first | (go_simp; done) | (go_simp; rfl)); (case hp => exact (Reps.none _ _)); intro v108 w7 ho8 hb hg_ hnew_; clear hg_ hnew_; (first | rw [← Ny107.out] at ho8 | (simp only [Int.reduceToNat] at ho8; rw [← Ny107.out] at ho8)); have n0_ := Aside0.mk (Kd.R_elder' (by (with_reducible repeat (first | apply Kd.R_alloc | apply Kd.R_drewN | apply Kd.R_drew)); exact HO106.out) (Kd.R_base ho8) hb); have n1_ := Aside0.mk (Kd.R_lower (Kd.R_new' ho8 (Kd.R_lt (by (with_reducible repeat (first | apply Kd.R_alloc | apply Kd.R_drewN | apply Kd.R_drew)); exact HO106.out))) (below_size (by repeat (first | (with_reducible first | exact HB.out | apply below_alloc | apply pw_below_drewN | apply below_drew1) | exact HB.out)))); have n2_ := Aside0.mk (below_step (by repeat (first | (with_reducible first | exact HB.out | apply below_alloc | apply pw_below_drewN | apply below_drew1) | exact HB.out)) hb); clear HO106; clear HB; have HO106 := n0_; have HO109 := n1_; have HB := n2_; clear n0_ n1_ n2_; clear hb ho8))
    go_loopg [8, 9] k (fun kq v8 v9 w' => ∃ (x8_1 : List ByteArray) (x9_1 : Int), v9 = .int .i64 x9_1 ∧ Aside0 (abutmentref17_Words.l0 kq t103 x8_1 x9_1 = some (r1, r2)) ∧ Aside0 (kq ≤ k) ∧ Aside0 (Kd.R Kd.string 9 w' w.heap.size (fun k_ => some k_ ≠ (v8 : Value).ownBlock) v105 t103) ∧ Aside0 (Kd.R Kd.string 9 w' w.heap.size (fun k_ => some k_ ≠ (v105 : Value).ownBlock) v8 x8_1) ∧ Aside0 (Below w.heap.size w w'))
    case atStart => exact ⟨(y107), (0), (by first | rfl | (simp; done) | (simp [*]; done)), H', ⟨Nat.le_refl _⟩, ⟨by (with_reducible repeat (first | apply Kd.R_alloc | apply Kd.R_drewN | apply Kd.R_drew)); exact Kd.R_mono HO106.out (fun _ hk => hk.2)⟩, ⟨by (with_reducible repeat (first | apply Kd.R_alloc | apply Kd.R_drewN | apply Kd.R_drew)); exact Kd.R_mono HO109.out (fun _ hk => hk.2)⟩, ⟨by repeat (first | (with_reducible first | exact HB.out | apply below_alloc | apply pw_below_drewN | apply below_drew1) | exact HB.out)⟩⟩
    case round =>
      clear H'
      try clear c2
      try clear p2
      try clear c3
      try clear c4
      try clear c7
      obtain ⟨x8_1, x9_1, rfl, HA, HK1, HO_6, HO_8, HB⟩ := hrel
      cases gk with
      | zero => exact absurd HA.out (by simp [abutmentref17_Words.l0])
      | succ k1 =>
        have H := HA.out
        clear HA
        simp only [abutmentref17_Words.l0] at H
        by_cases c9 : x9_1 < (t103.length : Int)
        · rw [if_pos c9] at H
          have c9b0 : decide (x9_1 < (t103.length : Int)) = true := decide_eq_true c9
          clear c9
          by_cases c10 : 0 ≤ x9_1
          · rw [if_pos c10] at H
            have c10b0 : decide (0 ≤ x9_1) = true := decide_eq_true c10
            clear c10
            replace H := Option.bind_eq_some_iff.mp H
            obtain ⟨t111, A110, H⟩ := H
            replace H : (if t111 = true then ((abutmentref01_Lower.f k1 (rdOf ByteArray.empty t103 x9_1)).bind fun t113 => (if x8_1.length < 8796093022208 then (abutmentref17_Words.l0 k1 t103 (x8_1 ++ [t113]) (wrap64 (x9_1 + 1))) else (none))) else (some (([] : List ByteArray), 3))) = some (r1, r2) := H
            have A11 := Aside0.mk A110
            clear A110
            by_cases c12 : t111 = true
            · subst c12
              have H1 : ((abutmentref01_Lower.f k1 (rdOf ByteArray.empty t103 x9_1)).bind fun t113 => (if x8_1.length < 8796093022208 then (abutmentref17_Words.l0 k1 t103 (x8_1 ++ [t113]) (wrap64 (x9_1 + 1))) else (none))) = some (r1, r2) := by rw [if_pos rfl] at H; exact H
              clear H
              have H := H1
              clear H1
              replace H := Option.bind_eq_some_iff.mp H
              obtain ⟨t113, A130, H⟩ := H
              replace H : (if x8_1.length < 8796093022208 then (abutmentref17_Words.l0 k1 t103 (x8_1 ++ [t113]) (wrap64 (x9_1 + 1))) else (none)) = some (r1, r2) := H
              have A13 := Aside0.mk A130
              clear A130
              by_cases c14 : x8_1.length < 8796093022208
              · rw [if_pos c14] at H
                have LMc14 := Aside0.mk c14
                clear c14
                obtain ⟨y114, hy114⟩ : ∃ y_ : List ByteArray, y_ = (x8_1 ++ [t113]) := ⟨_, rfl⟩
                replace H : (abutmentref17_Words.l0 k1 t103 y114 (wrap64 (x9_1 + 1))) = some (r1, r2) := by first | (rw [hy114]; with_reducible exact H) | (have H2_ := (Option.bind_some _ _).symm.trans H; rw [hy114]; with_reducible exact H2_) | (have H2_ := (Option.bind_some _ _).symm.trans H; with_reducible exact H2_) | with_reducible exact H | (rw [hy114]; exact H) | exact H
                have Ny114 := Aside0.mk hy114
                clear hy114
                have H' := Aside0.mk H
                clear H
                obtain ⟨Ao15, co15, eo15⟩ := Kd.R_slice HO_6.out
                subst eo15
                have p110 : 0 ≤ (x9_1 : Int) := of_decide_eq_true (by first | (with_reducible assumption) | assumption)
                have q110 : x9_1 < (t103.length : Int) := of_decide_eq_true (by first | (with_reducible assumption) | assumption)
                obtain ⟨ad110, e110, hx110_0⟩ := Kd.at_string (Kd.R_reads' HO_6.out).2.2 x9_1 p110 q110
                cases e110
                replace p110 := eq_true p110
                replace q110 := eq_true q110
                go_wp2_with (first | ((with_reducible refine gate_callee (f := 50) rfl ?_); refine goesL_ (some 33) rfl rfl Try.func50 (by kernel_rfl) rfl #[.string (rdOf ByteArray.empty t103 x9_1)] rfl (by (try simp only [List.map_toArray, List.map_cons, List.map_nil]); first | done | rfl | (simp only [List.length_drop, List.length_take]; rfl)) ?_; (with_reducible refine (abutmentref01_Token.calls k1 (rdOf ByteArray.empty t103 x9_1) true _ A11.out).mono ?_); rintro e w' ⟨rfl, ⟨nd, rfl⟩⟩; refine ⟨_, rfl, ?_⟩; have p112 : 0 ≤ (x9_1 : Int) := of_decide_eq_true (by first | (with_reducible assumption) | assumption); have q112 : x9_1 < (t103.length : Int) := of_decide_eq_true (by first | (with_reducible assumption) | assumption); obtain ⟨ad112, e112, hx112_0⟩ := Kd.at_string (Kd.R_reads' HO_6.out).2.2 x9_1 p112 q112; obtain rfl : ad110 = ad112 := (by injection e112); replace p112 := eq_true p112; replace q112 := eq_true q112) | ((with_reducible refine gate_callee (f := 58) rfl ?_); refine goesL_ (some 40) rfl rfl Try.func58 (by kernel_rfl) rfl #[.string (rdOf ByteArray.empty t103 x9_1)] rfl (by (try simp only [List.map_toArray, List.map_cons, List.map_nil]); first | done | rfl | (simp only [List.length_drop, List.length_take]; rfl)) ?_; (with_reducible refine (abutmentref01_Lower.calls k1 (rdOf ByteArray.empty t103 x9_1) t113 _ A13.out).mono ?_); rintro e w16 ⟨rfl, hb⟩; refine ⟨_, rfl, ?_⟩; have n0_ := Aside0.mk (Kd.R_below (by (with_reducible repeat (first | apply Kd.R_alloc | apply Kd.R_drewN | apply Kd.R_drew)); exact HO_6.out) hb); have n1_ := Aside0.mk (Kd.R_below (by (with_reducible repeat (first | apply Kd.R_alloc | apply Kd.R_drewN | apply Kd.R_drew)); exact HO_8.out) hb); have n2_ := Aside0.mk (below_step (by repeat (first | (with_reducible first | exact HB.out | apply below_alloc | apply pw_below_drewN | apply below_drew1) | exact HB.out)) hb); clear HO_6; clear HO_8; clear HB; have HO_6 := n0_; have HO_8 := n1_; have HB := n2_; clear n0_ n1_ n2_; (try clear hb); (try clear hb2); (try clear hk); (try clear hi)) | ((with_reducible refine gate_builtin (b := .append) (xs := #[.tmp 35, .tmp 41]) rfl ?_); at_builtin; refine Kd.R_append Kd.string (w0 := w) w.heap.size rfl (.tmp 35) (.tmp 41) 31 9 (.string ⟨#[]⟩) 16 rfl Try.underlying31 info9 rfl (by decide) (by omega) u8 x8_1 t113 [.string t113] (fun k_ => some k_ ≠ (.slice (some ad110) t103.length co15 : Value).ownBlock) (fun _ => False) rfl rfl ?aP (fun _ hk => hk.elim) ?aF ?aO ?aB ?aS ?aL ?_; (case aP => exact rfl); (case aB => exact (by repeat (first | (with_reducible first | exact HB.out | apply below_alloc | apply pw_below_drewN | apply below_drew1) | exact HB.out))); (case aF => exact (fun k_ hk => Kd.fresh' (Kd.R_lt (by (with_reducible repeat (first | apply Kd.R_alloc | apply Kd.R_drewN | apply Kd.R_drew)); exact HO_6.out)) k_ hk)); (case aO => exact (by (with_reducible repeat (first | apply Kd.R_alloc | apply Kd.R_drewN | apply Kd.R_drew)); exact HO_8.out)); (case aS => exact (below_size (by repeat (first | (with_reducible first | exact HB.out | apply below_alloc | apply pw_below_drewN | apply below_drew1) | exact HB.out)))); (case aL => have := LMc14.out; omega); intro v115 w17 ho hb hg hat; rw [← Ny114.out] at ho; have n0_ := Aside0.mk (Kd.R_after (ok := (fun _ => True)) (by (with_reducible repeat (first | apply Kd.R_alloc | apply Kd.R_drewN | apply Kd.R_drew)); exact Kd.R_mono HO_6.out (fun _ hk => ⟨trivial, hk⟩)) hg hat); have n1_ := Aside0.mk (hb); have n2_ := Aside0.mk (ho); clear HO_6; clear HB; clear HO_8; have HO_6 := n0_; have HB := n1_; have HO116 := n2_; clear n0_ n1_ n2_; clear ho hb hg hat))
                go_roundg k1
                case measure => have := HK1.out; omega
                case rel => exact ⟨(y114), (wrap64 (x9_1 + 1)), (by first | rfl | (simp; done) | (simp [*]; done)), H', ⟨by have := HK1.out; omega⟩, ⟨by (with_reducible repeat (first | apply Kd.R_alloc | apply Kd.R_drewN | apply Kd.R_drew)); exact Kd.R_mono HO_6.out (fun _ hk => hk.2)⟩, ⟨by (with_reducible repeat (first | apply Kd.R_alloc | apply Kd.R_drewN | apply Kd.R_drew)); exact HO116.out⟩, ⟨by repeat (first | (with_reducible first | exact HB.out | apply below_alloc | apply pw_below_drewN | apply below_drew1) | exact HB.out)⟩⟩
              · rw [if_neg c14] at H
                exact absurd H (by simp)
            · replace c12 := Bool.eq_false_iff.mpr c12
              subst c12
              have H1 : (some (([] : List ByteArray), 3)) = some (r1, r2) := by rw [if_neg (show ¬ (false = true) by decide)] at H; exact H
              clear H
              have H := H1
              clear H1
              simp only [Option.some.injEq, Prod.mk.injEq] at H
              obtain ⟨rfl, rfl⟩ := H
              obtain ⟨Ao18, co18, eo18⟩ := Kd.R_slice HO_6.out
              subst eo18
              have p110 : 0 ≤ (x9_1 : Int) := of_decide_eq_true (by first | (with_reducible assumption) | assumption)
              have q110 : x9_1 < (t103.length : Int) := of_decide_eq_true (by first | (with_reducible assumption) | assumption)
              obtain ⟨ad110, e110, hx110_0⟩ := Kd.at_string (Kd.R_reads' HO_6.out).2.2 x9_1 p110 q110
              cases e110
              replace p110 := eq_true p110
              replace q110 := eq_true q110
              go_wp2_with (first | ((with_reducible refine gate_callee (f := 50) rfl ?_); refine goesL_ (some 33) rfl rfl Try.func50 (by kernel_rfl) rfl #[.string (rdOf ByteArray.empty t103 x9_1)] rfl (by (try simp only [List.map_toArray, List.map_cons, List.map_nil]); first | done | rfl | (simp only [List.length_drop, List.length_take]; rfl)) ?_; (with_reducible refine (abutmentref01_Token.calls k1 (rdOf ByteArray.empty t103 x9_1) false _ A11.out).mono ?_); rintro e w' ⟨rfl, ⟨nd, rfl⟩⟩; refine ⟨_, rfl, ?_⟩))
              go_ret2
              exact ⟨_, by first | rfl | (simp [errW_none, errW_some] <;> rfl) | (simp [*, errW_none, errW_some] <;> rfl), by first | exact Kd.R_nil _ _ _ _ _ | exact Kd.N_nil _ _ _ _ _ | exact Kd.V_nil _ _ _ _ _ | exact Kd.Q_nil _ _ _ _ _ | exact Kd.S_nil _ _ _ _ _, by repeat (first | (with_reducible first | exact HB.out | apply below_alloc | apply pw_below_drewN | apply below_drew1) | exact HB.out)⟩
          · rw [if_neg c10] at H
            exact absurd H (by simp)
        · rw [if_neg c9] at H
          have c9b0 : decide (x9_1 < (t103.length : Int)) = false := decide_eq_false c9
          clear c9
          simp only [Option.some.injEq, Prod.mk.injEq] at H
          obtain ⟨rfl, rfl⟩ := H
          obtain ⟨Ao19, co19, eo19⟩ := Kd.R_slice HO_6.out
          subst eo19
          go_wp2
          go_ret2
          exact ⟨_, by first | rfl | (simp [errW_none, errW_some] <;> rfl) | (simp [*, errW_none, errW_some] <;> rfl), by (with_reducible repeat (first | apply Kd.R_alloc | apply Kd.R_drewN | apply Kd.R_drew)); exact Kd.R_mono HO_8.out (fun _ hk => trivial), by repeat (first | (with_reducible first | exact HB.out | apply below_alloc | apply pw_below_drewN | apply below_drew1) | exact HB.out)⟩
  · replace c4 := Bool.eq_false_iff.mpr c4
    subst c4
    have H1 : (some (([] : List ByteArray), 3)) = some (r1, r2) := by rw [if_neg (show ¬ (false = true) by decide)] at H; exact H
    clear H
    have H := H1
    clear H1
    simp only [Option.some.injEq, Prod.mk.injEq] at H
    obtain ⟨rfl, rfl⟩ := H
    go_enter Try.func39, Try.ntmps39
    go_wp2_with (first | ((with_reducible refine gate_callee (f := 73) rfl ?_); refine goesL_ (some 12) rfl rfl Try.func73 (by kernel_rfl) rfl #[.slice A0 l0.length c0, .string (⟨#[67, 111, 110, 110, 101, 99, 116, 105, 111, 110]⟩ : ByteArray)] rfl (by (try simp only [List.map_toArray, List.map_cons, List.map_nil]); first | done | rfl | (simp only [List.length_drop, List.length_take]; rfl)) ?_; (with_reducible refine (abutmentref10_Combined.calls k _ _ l0 (⟨#[67, 111, 110, 110, 101, 99, 116, 105, 111, 110]⟩ : ByteArray) t101 t102 _ ?side1 ?side2 A2.out).mono ?_); (case side1 => repeat (first | exact HR0.out | (with_reducible refine Kd.C_alloc ?_ _) | (with_reducible refine Kd.C_drewN ?_ _) | (with_reducible refine Kd.C_drew ?_))); (case side2 => exact HC0.out); rintro e w20 ⟨rfl, hb⟩; refine ⟨_, rfl, ?_⟩; have n0_ := Aside0.mk (below_step (by repeat (first | (with_reducible first | exact HB.out | apply below_alloc | apply pw_below_drewN | apply below_drew1) | exact HB.out)) hb); clear HB; have HB := n0_; clear n0_; (try clear hb); (try clear hb2); (try clear hk); (try clear hi)) | ((with_reducible refine gate_callee (f := 20) rfl ?_); refine goesL_ (some 17) rfl rfl Try.func20 (by kernel_rfl) rfl #[.string t101] rfl (by (try simp only [List.map_toArray, List.map_cons, List.map_nil]); first | done | rfl | (simp only [List.length_drop, List.length_take]; rfl)) ?_; (with_reducible refine (abutmentref07_Split.calls k t101 t103 false _ A3.out).mono ?_); rintro e w21 ⟨v105, rfl, ho0, hb⟩; refine ⟨_, rfl, ?_⟩; have n0_ := Aside0.mk (Kd.R_lower ho0 (below_size (by repeat (first | (with_reducible first | exact HB.out | apply below_alloc | apply pw_below_drewN | apply below_drew1) | exact HB.out)))); have n1_ := Aside0.mk (below_step (by repeat (first | (with_reducible first | exact HB.out | apply below_alloc | apply pw_below_drewN | apply below_drew1) | exact HB.out)) hb); clear HB; have HO106 := n0_; have HB := n1_; clear n0_ n1_; (try clear hb); (try clear hb2); (try clear hk); (try clear hi); (try clear ho0)))
    go_ret2
    exact ⟨_, by first | rfl | (simp [errW_none, errW_some] <;> rfl) | (simp [*, errW_none, errW_some] <;> rfl), by first | exact Kd.R_nil _ _ _ _ _ | exact Kd.N_nil _ _ _ _ _ | exact Kd.V_nil _ _ _ _ _ | exact Kd.Q_nil _ _ _ _ _ | exact Kd.S_nil _ _ _ _ _, by repeat (first | (with_reducible first | exact HB.out | apply below_alloc | apply pw_below_drewN | apply below_drew1) | exact HB.out)⟩

end Go.Proofs.Ytkjkbenmoogdjaa.X
namespace Go.Proofs.Ytkjkbenmoogdjaa.X
open Go.RowKit Go.Proofs.YtkjkbenmoogdjaaW.PrintWords Go.Proofs.YtkjkbenmoogdjaaW.PrintLast Go.Proofs.YtkjkbenmoogdjaaW.PrintMore
attribute [local go_sem] max2_int min2_int max_two min_two max_three min_three max_four min_four   -- for this text's walks alone
set_option linter.unusedVariables false
set_option linter.unusedSimpArgs false

/-! ### abutmentref17_Has: function 40 -/
def abutmentref17_Has.l0 : Nat → ByteArray → List ByteArray → Int → Option (Bool)
  | 0, _, _, _ => none
  | k + 1, x1, x5, x7 => if x7 < (x5.length : Int) then (if 0 ≤ x7 then ((abutmentref01_Lower.f k x1).bind fun t106 => (if (rdOf ByteArray.empty x5 x7).toList = t106.toList then (some true) else (abutmentref17_Has.l0 k x1 x5 (wrap64 (x7 + 1))))) else (none)) else (some false)
def abutmentref17_Has.f (k : Nat) (l0 : List (S23)) (a1 : ByteArray) : Option (Bool) := (abutmentref17_Words.f k l0).bind fun bt101 => (abutmentref17_Has.l0 k a1 bt101.1 0)
theorem abutmentref17_Has.mono_l : ∀ k, (∀ y0 y1 y2, LeO (abutmentref17_Has.l0 k y0 y1 y2) (abutmentref17_Has.l0 (k + 1) y0 y1 y2))
  | 0 => fun _ _ _ r h => by simp [abutmentref17_Has.l0] at h
  | k + 1 => by
    have ih0 := abutmentref17_Has.mono_l k
    · intro y0 y1 y2
      unfold abutmentref17_Has.l0
      repeat' first
      | (with_reducible exact ih0 _ _ _)
      | (with_reducible exact abutmentref01_Lower.mono _ _)
      | (with_reducible exact abutmentref17_Words.mono _ _)
      | (with_reducible exact LeO.refl _)
      | (with_reducible exact LeO.none _)
      | (with_reducible refine LeO.ite ?_ ?_)
      | (with_reducible refine LeO.bind ?_ (fun _ => ?_))
      | exact ih0 _ _ _
      | exact abutmentref01_Lower.mono _ _
      | exact abutmentref17_Words.mono _ _
      | exact LeO.none _
      | refine LeO.ite ?_ ?_
      | refine LeO.bind ?_ (fun _ => ?_)
theorem abutmentref17_Has.mono : ∀ a0 a1 k, LeO (abutmentref17_Has.f k a0 a1) (abutmentref17_Has.f (k + 1) a0 a1) := by
  intro a0 a1 k
  have ih0 := abutmentref17_Has.mono_l k
  unfold abutmentref17_Has.f
  repeat' first
      | (with_reducible exact ih0 _ _ _)
      | (with_reducible exact abutmentref01_Lower.mono _ _)
      | (with_reducible exact abutmentref17_Words.mono _ _)
      | (with_reducible exact LeO.refl _)
      | (with_reducible exact LeO.none _)
      | (with_reducible refine LeO.ite ?_ ?_)
      | (with_reducible refine LeO.bind ?_ (fun _ => ?_))
      | exact ih0 _ _ _
      | exact abutmentref01_Lower.mono _ _
      | exact abutmentref17_Words.mono _ _
      | exact LeO.none _
      | refine LeO.ite ?_ ?_
      | refine LeO.bind ?_ (fun _ => ?_)
set_option maxHeartbeats 8000000 in
set_option maxRecDepth 100000 in
theorem abutmentref17_Has.calls (k : Nat) (A0 : Option Addr) (c0 : Nat) (l0 : List (S23)) (a1 : ByteArray) (r : Bool) (w : World) (hr0 : Kd.C k23 w A0 l0.length l0) (hc0 : l0.length ≤ c0) (h : abutmentref17_Has.f k l0 a1 = some r) :
    Calls Try.prog 40 #[.slice A0 l0.length c0, .string a1] w fun e w' => e = .returned (.bool r) ∧ Below w.heap.size w w' := by
  have HR0 := Aside0.mk hr0
  have HC0 := Aside0.mk hc0
  clear hr0 hc0
  have HB := Aside0.mk (Below.refl w.heap.size w)
  have H : ((abutmentref17_Words.f k l0).bind fun bt101 => (abutmentref17_Has.l0 k a1 bt101.1 0)) = some r := h
  clear h
  replace H := Option.bind_eq_some_iff.mp H
  obtain ⟨⟨t101, t102⟩, A30, H⟩ := H
  replace H : (abutmentref17_Has.l0 k a1 t101 0) = some r := H
  have A3 := Aside0.mk A30
  clear A30
  have H' := Aside0.mk H
  clear H
  go_enter Try.func40, Try.ntmps40
  go_wp2_with (first | ((with_reducible refine gate_callee (f := 39) rfl ?_); refine goesL_ (some 10) rfl rfl Try.func39 (by kernel_rfl) rfl #[.slice A0 l0.length c0] rfl (by (try simp only [List.map_toArray, List.map_cons, List.map_nil]); first | done | rfl | (simp only [List.length_drop, List.length_take]; rfl)) ?_; (with_reducible refine (abutmentref17_Words.calls k _ _ l0 t101 t102 _ ?side1 ?side2 A3.out).mono ?_); (case side1 => repeat (first | exact HR0.out | (with_reducible refine Kd.C_alloc ?_ _) | (with_reducible refine Kd.C_drewN ?_ _) | (with_reducible refine Kd.C_drew ?_))); (case side2 => exact HC0.out); rintro e w4 ⟨v103, rfl, ho0, hb⟩; refine ⟨_, rfl, ?_⟩; have n0_ := Aside0.mk (Kd.R_lower ho0 (below_size (by repeat (first | (with_reducible first | exact HB.out | apply below_alloc | apply pw_below_drewN | apply below_drew1) | exact HB.out)))); have n1_ := Aside0.mk (below_step (by repeat (first | (with_reducible first | exact HB.out | apply below_alloc | apply pw_below_drewN | apply below_drew1) | exact HB.out)) hb); clear HB; have HO104 := n0_; have HB := n1_; clear n0_ n1_; (try clear hb); (try clear hb2); (try clear hk); (try clear hi); (try clear ho0)))
  go_loopg [7] k (fun kq v7 w' => ∃ (x7_1 : Int), v7 = .int .i64 x7_1 ∧ Aside0 (abutmentref17_Has.l0 kq a1 t101 x7_1 = some r) ∧ Aside0 (kq ≤ k) ∧ Aside0 (Kd.R Kd.string 9 w' w.heap.size (fun _ => True) v103 t101) ∧ Aside0 (Below w.heap.size w w'))
  case atStart => exact ⟨(0), (by first | rfl | (simp; done) | (simp [*]; done)), H', ⟨Nat.le_refl _⟩, ⟨by (with_reducible repeat (first | apply Kd.R_alloc | apply Kd.R_drewN | apply Kd.R_drew)); exact HO104.out⟩, ⟨by repeat (first | (with_reducible first | exact HB.out | apply below_alloc | apply pw_below_drewN | apply below_drew1) | exact HB.out)⟩⟩
  case round =>
    clear H'
    try clear p2
    try clear c3
    try clear c4
    obtain ⟨x7_1, rfl, HA, HK1, HO_5, HB⟩ := hrel
    cases gk with
    | zero => exact absurd HA.out (by simp [abutmentref17_Has.l0])
    | succ k1 =>
      have H := HA.out
      clear HA
      simp only [abutmentref17_Has.l0] at H
      by_cases c5 : x7_1 < (t101.length : Int)
      · rw [if_pos c5] at H
        have c5b0 : decide (x7_1 < (t101.length : Int)) = true := decide_eq_true c5
        clear c5
        by_cases c6 : 0 ≤ x7_1
        · rw [if_pos c6] at H
          have c6b0 : decide (0 ≤ x7_1) = true := decide_eq_true c6
          clear c6
          replace H := Option.bind_eq_some_iff.mp H
          obtain ⟨t106, A70, H⟩ := H
          replace H : (if (rdOf ByteArray.empty t101 x7_1).toList = t106.toList then (some true) else (abutmentref17_Has.l0 k1 a1 t101 (wrap64 (x7_1 + 1)))) = some r := H
          have A7 := Aside0.mk A70
          clear A70
          by_cases c8 : (rdOf ByteArray.empty t101 x7_1).toList = t106.toList
          · rw [if_pos c8] at H
            have c8b0 : ((rdOf ByteArray.empty t101 x7_1).toList == t106.toList) = true := beq_iff_eq.mpr c8
            have c8b1 : ((rdOf ByteArray.empty t101 x7_1).toList != t106.toList) = false := bne_eq_false_iff_eq.mpr c8
            clear c8
            obtain rfl := Option.some.inj H
            obtain ⟨Ao9, co9, eo9⟩ := Kd.R_slice HO_5.out
            subst eo9
            try go_wp2
            have n0_ := Aside0.mk (Kd.R_drew HO_5.out)
            have n1_ := Aside0.mk (below_drew1 HB.out)
            clear HO_5
            clear HB
            have HO_5 := n0_
            have HB := n1_
            clear n0_ n1_
            have p105 : 0 ≤ (x7_1 : Int) := of_decide_eq_true (by first | (with_reducible assumption) | assumption)
            have q105 : x7_1 < (t101.length : Int) := of_decide_eq_true (by first | (with_reducible assumption) | assumption)
            obtain ⟨ad105, e105, hx105_0⟩ := Kd.at_string (Kd.R_reads' HO_5.out).2.2 x7_1 p105 q105
            cases e105
            replace p105 := eq_true p105
            replace q105 := eq_true q105
            refine start_ (n := 7) (S := fun w' => w'.cell? (ad105.add (x7_1).toNat) = some (.string (rdOf ByteArray.empty t101 x7_1))) (ds := []) #[false, false, false, false, false, false, false] (by kernel_rfl) rfl rfl (hx105_0) (fun hHeld => ?_)
            generalize wr.drew = w10 at HO_5 HB hx105_0 hHeld ⊢
            refine pure_ (i := 0) (N := some 19) (v := ?_) (a' := ?_) #[true, false, false, false, false, false, false] rfl rfl (by kernel_rfl) (fun _ _ _ h => h) (Or.inl ⟨by rfl, ?_⟩) ?_ ?_
            rotate_left
            · intro w'
              go_simp
              with_reducible rfl
            rotate_left
            · simp only [Act.put, List.setIfInBounds_toArray, List.set_cons_zero, List.set_cons_succ, i64_w, i32_w]
              rfl
            refine pure_ (i := 1) (N := some 20) (v := ?_) (a' := ?_) #[true, true, false, false, false, false, false] rfl rfl (by kernel_rfl) (fun _ _ _ h => h) (Or.inl ⟨by rfl, ?_⟩) ?_ ?_
            rotate_left
            · intro w'
              go_simp
              with_reducible rfl
            rotate_left
            · simp only [Act.put, List.setIfInBounds_toArray, List.set_cons_zero, List.set_cons_succ, i64_w, i32_w]
              rfl
            refine pure_ (i := 2) (N := some 21) (v := ?_) (a' := ?_) #[true, true, true, false, false, false, false] rfl rfl (by kernel_rfl) (fun _ _ _ h => h) (Or.inl ⟨by rfl, ?_⟩) ?_ ?_
            rotate_left
            · intro w'
              go_simp
              with_reducible rfl
            rotate_left
            · simp only [Act.put, List.setIfInBounds_toArray, List.set_cons_zero, List.set_cons_succ, i64_w, i32_w]
              rfl
            refine pure_ (i := 4) (N := some 23) (v := ?_) (a' := ?_) #[true, true, true, false, true, false, false] rfl rfl (by kernel_rfl) (fun _ _ _ h => h) (Or.inl ⟨by rfl, ?_⟩) ?_ ?_
            rotate_left
            · intro w'
              go_simp
              with_reducible rfl
            rotate_left
            · simp only [Act.put, List.setIfInBounds_toArray, List.set_cons_zero, List.set_cons_succ, i64_w, i32_w]
              rfl
            refine take_ (i := 3) (N := some 22) (v := ?_) (a' := ?_) #[true, true, true, true, true, false, false] rfl rfl (by kernel_rfl) (fun _ _ _ h => h) (Or.inl ⟨by rfl, ?_⟩) hHeld ?_ ?_
            rotate_left
            · intro w' s0
              go_simp
              with_reducible rfl
            rotate_left
            · simp only [Act.put, List.setIfInBounds_toArray, List.set_cons_zero, List.set_cons_succ, i64_w, i32_w]
              rfl
            refine one_ (i := 5) (N := some 24) #[true, true, true, true, true, true, false] rfl rfl (by kernel_rfl) (by decide) (fun K hK => ?_)
            refine goes_ Try.func58 (by kernel_rfl) rfl #[.string a1] (by rfl) rfl rfl (by (try simp only [List.map_toArray, List.map_cons, List.map_nil]); first | done | rfl | (simp only [List.length_drop, List.length_take]; rfl)) ?_
            with_reducible refine (abutmentref01_Lower.calls k1 a1 t106 _ A7.out).mono ?_
            rintro e w11 ⟨rfl, hb⟩
            have HS0_ := (hb.cell (World.block_lt_of_cell? _ _ (hHeld))).trans (hHeld)
            refine ⟨_, rfl, ?_⟩
            have n0_ := Aside0.mk (Kd.R_below (by (with_reducible repeat (first | apply Kd.R_alloc | apply Kd.R_drewN | apply Kd.R_drew)); exact HO_5.out) hb)
            have n1_ := Aside0.mk (below_step (by repeat (first | (with_reducible first | exact HB.out | apply below_alloc | apply pw_below_drewN | apply below_drew1) | exact HB.out)) hb)
            clear HO_5
            clear HB
            have HO_5 := n0_
            have HB := n1_
            clear n0_ n1_
            (try clear hb)
            (try clear hb2)
            (try clear hk)
            (try clear hi)
            refine hK.out _ _ (HS0_) (fun hHeld => ?_)
            clear hK K
            refine norm_ (a' := ?_) ?_ ?_
            rotate_left
            · show Act.put _ (some 24) _ = _
              simp only [Act.put, List.setIfInBounds_toArray, List.set_cons_zero, List.set_cons_succ, i64_w, i32_w]
              rfl
            refine pure_ (i := 6) (N := some 25) (v := ?_) (a' := ?_) #[true, true, true, true, true, true, true] rfl rfl (by kernel_rfl) (fun _ _ _ h => h) (Or.inl ⟨by rfl, ?_⟩) ?_ ?_
            rotate_left
            · intro w'
              go_simp
              with_reducible rfl
            rotate_left
            · simp only [Act.put, List.setIfInBounds_toArray, List.set_cons_zero, List.set_cons_succ, i64_w, i32_w]
              rfl
            refine done_ (by kernel_rfl) ?_
            try go_wp2
            go_ret
            exact ⟨by first | rfl | (simp [errW_none, errW_some] <;> rfl) | (simp [*, errW_none, errW_some] <;> rfl), by repeat (first | (with_reducible first | exact HB.out | apply below_alloc | apply pw_below_drewN | apply below_drew1) | exact HB.out)⟩
          · rw [if_neg c8] at H
            have c8b0 : ((rdOf ByteArray.empty t101 x7_1).toList == t106.toList) = false := beq_eq_false_iff_ne.mpr c8
            have c8b1 : ((rdOf ByteArray.empty t101 x7_1).toList != t106.toList) = true := bne_iff_ne.mpr c8
            have H' := Aside0.mk H
            clear H
            obtain ⟨Ao12, co12, eo12⟩ := Kd.R_slice HO_5.out
            subst eo12
            try go_wp2
            have n0_ := Aside0.mk (Kd.R_drew HO_5.out)
            have n1_ := Aside0.mk (below_drew1 HB.out)
            clear HO_5
            clear HB
            have HO_5 := n0_
            have HB := n1_
            clear n0_ n1_
            have p105 : 0 ≤ (x7_1 : Int) := of_decide_eq_true (by first | (with_reducible assumption) | assumption)
            have q105 : x7_1 < (t101.length : Int) := of_decide_eq_true (by first | (with_reducible assumption) | assumption)
            obtain ⟨ad105, e105, hx105_0⟩ := Kd.at_string (Kd.R_reads' HO_5.out).2.2 x7_1 p105 q105
            cases e105
            replace p105 := eq_true p105
            replace q105 := eq_true q105
            refine start_ (n := 7) (S := fun w' => w'.cell? (ad105.add (x7_1).toNat) = some (.string (rdOf ByteArray.empty t101 x7_1))) (ds := []) #[false, false, false, false, false, false, false] (by kernel_rfl) rfl rfl (hx105_0) (fun hHeld => ?_)
            generalize wr.drew = w13 at HO_5 HB hx105_0 hHeld ⊢
            refine pure_ (i := 0) (N := some 19) (v := ?_) (a' := ?_) #[true, false, false, false, false, false, false] rfl rfl (by kernel_rfl) (fun _ _ _ h => h) (Or.inl ⟨by rfl, ?_⟩) ?_ ?_
            rotate_left
            · intro w'
              go_simp
              with_reducible rfl
            rotate_left
            · simp only [Act.put, List.setIfInBounds_toArray, List.set_cons_zero, List.set_cons_succ, i64_w, i32_w]
              rfl
            refine pure_ (i := 1) (N := some 20) (v := ?_) (a' := ?_) #[true, true, false, false, false, false, false] rfl rfl (by kernel_rfl) (fun _ _ _ h => h) (Or.inl ⟨by rfl, ?_⟩) ?_ ?_
            rotate_left
            · intro w'
              go_simp
              with_reducible rfl
            rotate_left
            · simp only [Act.put, List.setIfInBounds_toArray, List.set_cons_zero, List.set_cons_succ, i64_w, i32_w]
              rfl
            refine pure_ (i := 2) (N := some 21) (v := ?_) (a' := ?_) #[true, true, true, false, false, false, false] rfl rfl (by kernel_rfl) (fun _ _ _ h => h) (Or.inl ⟨by rfl, ?_⟩) ?_ ?_
            rotate_left
            · intro w'
              go_simp
              with_reducible rfl
            rotate_left
            · simp only [Act.put, List.setIfInBounds_toArray, List.set_cons_zero, List.set_cons_succ, i64_w, i32_w]
              rfl
            refine pure_ (i := 4) (N := some 23) (v := ?_) (a' := ?_) #[true, true, true, false, true, false, false] rfl rfl (by kernel_rfl) (fun _ _ _ h => h) (Or.inl ⟨by rfl, ?_⟩) ?_ ?_
            rotate_left
            · intro w'
              go_simp
              with_reducible rfl
            rotate_left
            · simp only [Act.put, List.setIfInBounds_toArray, List.set_cons_zero, List.set_cons_succ, i64_w, i32_w]
              rfl
            refine take_ (i := 3) (N := some 22) (v := ?_) (a' := ?_) #[true, true, true, true, true, false, false] rfl rfl (by kernel_rfl) (fun _ _ _ h => h) (Or.inl ⟨by rfl, ?_⟩) hHeld ?_ ?_
            rotate_left
            · intro w' s0
              go_simp
              with_reducible rfl
            rotate_left
            · simp only [Act.put, List.setIfInBounds_toArray, List.set_cons_zero, List.set_cons_succ, i64_w, i32_w]
              rfl
            refine one_ (i := 5) (N := some 24) #[true, true, true, true, true, true, false] rfl rfl (by kernel_rfl) (by decide) (fun K hK => ?_)
            refine goes_ Try.func58 (by kernel_rfl) rfl #[.string a1] (by rfl) rfl rfl (by (try simp only [List.map_toArray, List.map_cons, List.map_nil]); first | done | rfl | (simp only [List.length_drop, List.length_take]; rfl)) ?_
            with_reducible refine (abutmentref01_Lower.calls k1 a1 t106 _ A7.out).mono ?_
            rintro e w14 ⟨rfl, hb⟩
            have HS0_ := (hb.cell (World.block_lt_of_cell? _ _ (hHeld))).trans (hHeld)
            refine ⟨_, rfl, ?_⟩
            have n0_ := Aside0.mk (Kd.R_below (by (with_reducible repeat (first | apply Kd.R_alloc | apply Kd.R_drewN | apply Kd.R_drew)); exact HO_5.out) hb)
            have n1_ := Aside0.mk (below_step (by repeat (first | (with_reducible first | exact HB.out | apply below_alloc | apply pw_below_drewN | apply below_drew1) | exact HB.out)) hb)
            clear HO_5
            clear HB
            have HO_5 := n0_
            have HB := n1_
            clear n0_ n1_
            (try clear hb)
            (try clear hb2)
            (try clear hk)
            (try clear hi)
            refine hK.out _ _ (HS0_) (fun hHeld => ?_)
            clear hK K
            refine norm_ (a' := ?_) ?_ ?_
            rotate_left
            · show Act.put _ (some 24) _ = _
              simp only [Act.put, List.setIfInBounds_toArray, List.set_cons_zero, List.set_cons_succ, i64_w, i32_w]
              rfl
            refine pure_ (i := 6) (N := some 25) (v := ?_) (a' := ?_) #[true, true, true, true, true, true, true] rfl rfl (by kernel_rfl) (fun _ _ _ h => h) (Or.inl ⟨by rfl, ?_⟩) ?_ ?_
            rotate_left
            · intro w'
              go_simp
              with_reducible rfl
            rotate_left
            · simp only [Act.put, List.setIfInBounds_toArray, List.set_cons_zero, List.set_cons_succ, i64_w, i32_w]
              rfl
            refine done_ (by kernel_rfl) ?_
            try go_wp2
            go_roundg k1
            case measure => have := HK1.out; omega
            case rel => exact ⟨(wrap64 (x7_1 + 1)), (by first | rfl | (simp; done) | (simp [*]; done)), H', ⟨by have := HK1.out; omega⟩, ⟨by (with_reducible repeat (first | apply Kd.R_alloc | apply Kd.R_drewN | apply Kd.R_drew)); exact HO_5.out⟩, ⟨by repeat (first | (with_reducible first | exact HB.out | apply below_alloc | apply pw_below_drewN | apply below_drew1) | exact HB.out)⟩⟩
        · rw [if_neg c6] at H
          exact absurd H (by simp)
      · rw [if_neg c5] at H
        have c5b0 : decide (x7_1 < (t101.length : Int)) = false := decide_eq_false c5
        clear c5
        obtain rfl := Option.some.inj H
        obtain ⟨Ao15, co15, eo15⟩ := Kd.R_slice HO_5.out
        subst eo15
        go_wp2
        go_ret
        exact ⟨by first | rfl | (simp [errW_none, errW_some] <;> rfl) | (simp [*, errW_none, errW_some] <;> rfl), by repeat (first | (with_reducible first | exact HB.out | apply below_alloc | apply pw_below_drewN | apply below_drew1) | exact HB.out)⟩

end Go.Proofs.Ytkjkbenmoogdjaa.X
namespace Go.Proofs.Ytkjkbenmoogdjaa.X
open Go.RowKit Go.Proofs.YtkjkbenmoogdjaaW.PrintWords Go.Proofs.YtkjkbenmoogdjaaW.PrintLast Go.Proofs.YtkjkbenmoogdjaaW.PrintMore
attribute [local go_sem] max2_int min2_int max_two min_two max_three min_three max_four min_four   -- for this text's walks alone
set_option linter.unusedVariables false
set_option linter.unusedSimpArgs false

/-! ### abutmentref17_Persists: function 42 -/
def abutmentref17_Persists.f (k : Nat) (a0 : Int) (l1 : List (S23)) : Option (Bool) := (abutmentref17_Words.f k l1).bind fun bt101 => (if bt101.2 = 0 then ((abutmentref17_Has.f k l1 (⟨#[99, 108, 111, 115, 101]⟩ : ByteArray)).bind fun t105 => (if t105 = true then (some false) else (if a0 > 0 then (some true) else ((abutmentref17_Has.f k l1 (⟨#[107, 101, 101, 112, 45, 97, 108, 105, 118, 101]⟩ : ByteArray)).bind fun t106 => (some t106))))) else (some false))
theorem abutmentref17_Persists.mono : ∀ a0 a1 k, LeO (abutmentref17_Persists.f k a0 a1) (abutmentref17_Persists.f (k + 1) a0 a1) := by
  intro a0 a1 k
  unfold abutmentref17_Persists.f
  repeat' first
      | (with_reducible exact abutmentref17_Has.mono _ _ _)
      | (with_reducible exact abutmentref17_Words.mono _ _)
      | (with_reducible exact LeO.refl _)
      | (with_reducible exact LeO.none _)
      | (with_reducible refine LeO.ite ?_ ?_)
      | (with_reducible refine LeO.bind ?_ (fun _ => ?_))
      | exact abutmentref17_Has.mono _ _ _
      | exact abutmentref17_Words.mono _ _
      | exact LeO.none _
      | refine LeO.ite ?_ ?_
      | refine LeO.bind ?_ (fun _ => ?_)
set_option maxHeartbeats 8000000 in
set_option maxRecDepth 100000 in
theorem abutmentref17_Persists.calls (k : Nat) (a0 : Int) (A1 : Option Addr) (c1 : Nat) (l1 : List (S23)) (r : Bool) (w : World) (hr1 : Kd.C k23 w A1 l1.length l1) (hc1 : l1.length ≤ c1) (h : abutmentref17_Persists.f k a0 l1 = some r) :
    Calls Try.prog 42 #[.int .i64 a0, .slice A1 l1.length c1] w fun e w' => e = .returned (.bool r) ∧ Below w.heap.size w w' := by
  have HR1 := Aside0.mk hr1
  have HC1 := Aside0.mk hc1
  clear hr1 hc1
  have HB := Aside0.mk (Below.refl w.heap.size w)
  have H : ((abutmentref17_Words.f k l1).bind fun bt101 => (if bt101.2 = 0 then ((abutmentref17_Has.f k l1 (⟨#[99, 108, 111, 115, 101]⟩ : ByteArray)).bind fun t105 => (if t105 = true then (some false) else (if a0 > 0 then (some true) else ((abutmentref17_Has.f k l1 (⟨#[107, 101, 101, 112, 45, 97, 108, 105, 118, 101]⟩ : ByteArray)).bind fun t106 => (some t106))))) else (some false))) = some r := h
  clear h
  replace H := Option.bind_eq_some_iff.mp H
  obtain ⟨⟨t101, t102⟩, A30, H⟩ := H
  replace H : (if t102 = 0 then ((abutmentref17_Has.f k l1 (⟨#[99, 108, 111, 115, 101]⟩ : ByteArray)).bind fun t105 => (if t105 = true then (some false) else (if a0 > 0 then (some true) else ((abutmentref17_Has.f k l1 (⟨#[107, 101, 101, 112, 45, 97, 108, 105, 118, 101]⟩ : ByteArray)).bind fun t106 => (some t106))))) else (some false)) = some r := H
  have A3 := Aside0.mk A30
  clear A30
  by_cases c4 : t102 = 0
  · rw [if_pos c4] at H
    have c4b0 : (t102 == 0) = true := beq_iff_eq.mpr c4
    have c4b1 : (t102 != 0) = false := bne_eq_false_iff_eq.mpr c4
    clear c4
    replace H := Option.bind_eq_some_iff.mp H
    obtain ⟨t105, A50, H⟩ := H
    replace H : (if t105 = true then (some false) else (if a0 > 0 then (some true) else ((abutmentref17_Has.f k l1 (⟨#[107, 101, 101, 112, 45, 97, 108, 105, 118, 101]⟩ : ByteArray)).bind fun t106 => (some t106)))) = some r := H
    have A5 := Aside0.mk A50
    clear A50
    by_cases c6 : t105 = true
    · subst c6
      have H1 : (some false) = some r := by rw [if_pos rfl] at H; exact H
      clear H
      have H := H1
      clear H1
      obtain rfl := Option.some.inj H
      go_enter Try.func42, Try.ntmps42
      go_wp2_with (first | ((with_reducible refine gate_callee (f := 39) rfl ?_); refine goesL_ (some 9) rfl rfl Try.func39 (by kernel_rfl) rfl #[.slice A1 l1.length c1] rfl (by (try simp only [List.map_toArray, List.map_cons, List.map_nil]); first | done | rfl | (simp only [List.length_drop, List.length_take]; rfl)) ?_; (with_reducible refine (abutmentref17_Words.calls k _ _ l1 t101 t102 _ ?side1 ?side2 A3.out).mono ?_); (case side1 => repeat (first | exact HR1.out | (with_reducible refine Kd.C_alloc ?_ _) | (with_reducible refine Kd.C_drewN ?_ _) | (with_reducible refine Kd.C_drew ?_))); (case side2 => exact HC1.out); rintro e w7 ⟨v103, rfl, ho0, hb⟩; refine ⟨_, rfl, ?_⟩; have n0_ := Aside0.mk (Kd.R_lower ho0 (below_size (by repeat (first | (with_reducible first | exact HB.out | apply below_alloc | apply pw_below_drewN | apply below_drew1) | exact HB.out)))); have n1_ := Aside0.mk (below_step (by repeat (first | (with_reducible first | exact HB.out | apply below_alloc | apply pw_below_drewN | apply below_drew1) | exact HB.out)) hb); clear HB; have HO104 := n0_; have HB := n1_; clear n0_ n1_; (try clear hb); (try clear hb2); (try clear hk); (try clear hi); (try clear ho0)) | (go_at_call 40; (with_reducible refine (abutmentref17_Has.calls k _ _ l1 (⟨#[99, 108, 111, 115, 101]⟩ : ByteArray) true _ ?side1 ?side2 A5.out).mono ?_); (case side1 => repeat (first | exact (Kd.C_below HR1.out HB.out) | (with_reducible refine Kd.C_alloc ?_ _) | (with_reducible refine Kd.C_drewN ?_ _) | (with_reducible refine Kd.C_drew ?_))); (case side2 => exact HC1.out); rintro e w8 ⟨rfl, hb⟩; have n0_ := Aside0.mk (Kd.R_below (by (with_reducible repeat (first | apply Kd.R_alloc | apply Kd.R_drewN | apply Kd.R_drew)); exact HO104.out) hb); have n1_ := Aside0.mk (below_step (by repeat (first | (with_reducible first | exact HB.out | apply below_alloc | apply pw_below_drewN | apply below_drew1) | exact HB.out)) hb); clear HO104; clear HB; have HO104 := n0_; have HB := n1_; clear n0_ n1_; (try clear hb); (try clear hb2); (try clear hk); (try clear hi)))
      go_ret
      exact ⟨by first | rfl | (simp [errW_none, errW_some] <;> rfl) | (simp [*, errW_none, errW_some] <;> rfl), by repeat (first | (with_reducible first | exact HB.out | apply below_alloc | apply pw_below_drewN | apply below_drew1) | exact HB.out)⟩
    · replace c6 := Bool.eq_false_iff.mpr c6
      subst c6
      have H1 : (if a0 > 0 then (some true) else ((abutmentref17_Has.f k l1 (⟨#[107, 101, 101, 112, 45, 97, 108, 105, 118, 101]⟩ : ByteArray)).bind fun t106 => (some t106))) = some r := by rw [if_neg (show ¬ (false = true) by decide)] at H; exact H
      clear H
      have H := H1
      clear H1
      by_cases c9 : a0 > 0
      · rw [if_pos c9] at H
        have c9b0 : decide (0 < a0) = true := decide_eq_true c9
        clear c9
        obtain rfl := Option.some.inj H
        go_enter Try.func42, Try.ntmps42
        go_wp2_with (first | ((with_reducible refine gate_callee (f := 39) rfl ?_); refine goesL_ (some 9) rfl rfl Try.func39 (by kernel_rfl) rfl #[.slice A1 l1.length c1] rfl (by (try simp only [List.map_toArray, List.map_cons, List.map_nil]); first | done | rfl | (simp only [List.length_drop, List.length_take]; rfl)) ?_; (with_reducible refine (abutmentref17_Words.calls k _ _ l1 t101 t102 _ ?side1 ?side2 A3.out).mono ?_); (case side1 => repeat (first | exact HR1.out | (with_reducible refine Kd.C_alloc ?_ _) | (with_reducible refine Kd.C_drewN ?_ _) | (with_reducible refine Kd.C_drew ?_))); (case side2 => exact HC1.out); rintro e w10 ⟨v103, rfl, ho0, hb⟩; refine ⟨_, rfl, ?_⟩; have n0_ := Aside0.mk (Kd.R_lower ho0 (below_size (by repeat (first | (with_reducible first | exact HB.out | apply below_alloc | apply pw_below_drewN | apply below_drew1) | exact HB.out)))); have n1_ := Aside0.mk (below_step (by repeat (first | (with_reducible first | exact HB.out | apply below_alloc | apply pw_below_drewN | apply below_drew1) | exact HB.out)) hb); clear HB; have HO104 := n0_; have HB := n1_; clear n0_ n1_; (try clear hb); (try clear hb2); (try clear hk); (try clear hi); (try clear ho0)) | (go_at_call 40; (with_reducible refine (abutmentref17_Has.calls k _ _ l1 (⟨#[99, 108, 111, 115, 101]⟩ : ByteArray) false _ ?side1 ?side2 A5.out).mono ?_); (case side1 => repeat (first | exact (Kd.C_below HR1.out HB.out) | (with_reducible refine Kd.C_alloc ?_ _) | (with_reducible refine Kd.C_drewN ?_ _) | (with_reducible refine Kd.C_drew ?_))); (case side2 => exact HC1.out); rintro e w11 ⟨rfl, hb⟩; have n0_ := Aside0.mk (Kd.R_below (by (with_reducible repeat (first | apply Kd.R_alloc | apply Kd.R_drewN | apply Kd.R_drew)); exact HO104.out) hb); have n1_ := Aside0.mk (below_step (by repeat (first | (with_reducible first | exact HB.out | apply below_alloc | apply pw_below_drewN | apply below_drew1) | exact HB.out)) hb); clear HO104; clear HB; have HO104 := n0_; have HB := n1_; clear n0_ n1_; (try clear hb); (try clear hb2); (try clear hk); (try clear hi)))
        go_ret
        exact ⟨by first | rfl | (simp [errW_none, errW_some] <;> rfl) | (simp [*, errW_none, errW_some] <;> rfl), by repeat (first | (with_reducible first | exact HB.out | apply below_alloc | apply pw_below_drewN | apply below_drew1) | exact HB.out)⟩
      · rw [if_neg c9] at H
        have c9b0 : decide (0 < a0) = false := decide_eq_false c9
        clear c9
        replace H := Option.bind_eq_some_iff.mp H
        obtain ⟨t106, A120, H⟩ := H
        replace H : (some t106) = some r := H
        have A12 := Aside0.mk A120
        clear A120
        obtain rfl := Option.some.inj H
        go_enter Try.func42, Try.ntmps42
        go_wp2_with (first | ((with_reducible refine gate_callee (f := 39) rfl ?_); refine goesL_ (some 9) rfl rfl Try.func39 (by kernel_rfl) rfl #[.slice A1 l1.length c1] rfl (by (try simp only [List.map_toArray, List.map_cons, List.map_nil]); first | done | rfl | (simp only [List.length_drop, List.length_take]; rfl)) ?_; (with_reducible refine (abutmentref17_Words.calls k _ _ l1 t101 t102 _ ?side1 ?side2 A3.out).mono ?_); (case side1 => repeat (first | exact HR1.out | (with_reducible refine Kd.C_alloc ?_ _) | (with_reducible refine Kd.C_drewN ?_ _) | (with_reducible refine Kd.C_drew ?_))); (case side2 => exact HC1.out); rintro e w13 ⟨v103, rfl, ho0, hb⟩; refine ⟨_, rfl, ?_⟩; have n0_ := Aside0.mk (Kd.R_lower ho0 (below_size (by repeat (first | (with_reducible first | exact HB.out | apply below_alloc | apply pw_below_drewN | apply below_drew1) | exact HB.out)))); have n1_ := Aside0.mk (below_step (by repeat (first | (with_reducible first | exact HB.out | apply below_alloc | apply pw_below_drewN | apply below_drew1) | exact HB.out)) hb); clear HB; have HO104 := n0_; have HB := n1_; clear n0_ n1_; (try clear hb); (try clear hb2); (try clear hk); (try clear hi); (try clear ho0)) | (go_at_call 40; (with_reducible refine (abutmentref17_Has.calls k _ _ l1 (⟨#[99, 108, 111, 115, 101]⟩ : ByteArray) false _ ?side1 ?side2 A5.out).mono ?_); (case side1 => repeat (first | exact (Kd.C_below HR1.out HB.out) | (with_reducible refine Kd.C_alloc ?_ _) | (with_reducible refine Kd.C_drewN ?_ _) | (with_reducible refine Kd.C_drew ?_))); (case side2 => exact HC1.out); rintro e w14 ⟨rfl, hb⟩; have n0_ := Aside0.mk (Kd.R_below (by (with_reducible repeat (first | apply Kd.R_alloc | apply Kd.R_drewN | apply Kd.R_drew)); exact HO104.out) hb); have n1_ := Aside0.mk (below_step (by repeat (first | (with_reducible first | exact HB.out | apply below_alloc | apply pw_below_drewN | apply below_drew1) | exact HB.out)) hb); clear HO104; clear HB; have HO104 := n0_; have HB := n1_; clear n0_ n1_; (try clear hb); (try clear hb2); (try clear hk); (try clear hi)) | (go_at_call 40; (with_reducible refine (abutmentref17_Has.calls k _ _ l1 (⟨#[107, 101, 101, 112, 45, 97, 108, 105, 118, 101]⟩ : ByteArray) t106 _ ?side1 ?side2 A12.out).mono ?_); (case side1 => repeat (first | exact (Kd.C_below HR1.out HB.out) | (with_reducible refine Kd.C_alloc ?_ _) | (with_reducible refine Kd.C_drewN ?_ _) | (with_reducible refine Kd.C_drew ?_))); (case side2 => exact HC1.out); rintro e w15 ⟨rfl, hb⟩; have n0_ := Aside0.mk (Kd.R_below (by (with_reducible repeat (first | apply Kd.R_alloc | apply Kd.R_drewN | apply Kd.R_drew)); exact HO104.out) hb); have n1_ := Aside0.mk (below_step (by repeat (first | (with_reducible first | exact HB.out | apply below_alloc | apply pw_below_drewN | apply below_drew1) | exact HB.out)) hb); clear HO104; clear HB; have HO104 := n0_; have HB := n1_; clear n0_ n1_; (try clear hb); (try clear hb2); (try clear hk); (try clear hi)))
        go_ret
        exact ⟨by first | rfl | (simp [errW_none, errW_some] <;> rfl) | (simp [*, errW_none, errW_some] <;> rfl), by repeat (first | (with_reducible first | exact HB.out | apply below_alloc | apply pw_below_drewN | apply below_drew1) | exact HB.out)⟩
  · rw [if_neg c4] at H
    have c4b0 : (t102 == 0) = false := beq_eq_false_iff_ne.mpr c4
    have c4b1 : (t102 != 0) = true := bne_iff_ne.mpr c4
    obtain rfl := Option.some.inj H
    go_enter Try.func42, Try.ntmps42
    go_wp2_with (first | ((with_reducible refine gate_callee (f := 39) rfl ?_); refine goesL_ (some 9) rfl rfl Try.func39 (by kernel_rfl) rfl #[.slice A1 l1.length c1] rfl (by (try simp only [List.map_toArray, List.map_cons, List.map_nil]); first | done | rfl | (simp only [List.length_drop, List.length_take]; rfl)) ?_; (with_reducible refine (abutmentref17_Words.calls k _ _ l1 t101 t102 _ ?side1 ?side2 A3.out).mono ?_); (case side1 => repeat (first | exact HR1.out | (with_reducible refine Kd.C_alloc ?_ _) | (with_reducible refine Kd.C_drewN ?_ _) | (with_reducible refine Kd.C_drew ?_))); (case side2 => exact HC1.out); rintro e w16 ⟨v103, rfl, ho0, hb⟩; refine ⟨_, rfl, ?_⟩; have n0_ := Aside0.mk (Kd.R_lower ho0 (below_size (by repeat (first | (with_reducible first | exact HB.out | apply below_alloc | apply pw_below_drewN | apply below_drew1) | exact HB.out)))); have n1_ := Aside0.mk (below_step (by repeat (first | (with_reducible first | exact HB.out | apply below_alloc | apply pw_below_drewN | apply below_drew1) | exact HB.out)) hb); clear HB; have HO104 := n0_; have HB := n1_; clear n0_ n1_; (try clear hb); (try clear hb2); (try clear hk); (try clear hi); (try clear ho0)))
    go_ret
    exact ⟨by first | rfl | (simp [errW_none, errW_some] <;> rfl) | (simp [*, errW_none, errW_some] <;> rfl), by repeat (first | (with_reducible first | exact HB.out | apply below_alloc | apply pw_below_drewN | apply below_drew1) | exact HB.out)⟩

end Go.Proofs.Ytkjkbenmoogdjaa.X
namespace Go.Proofs.Ytkjkbenmoogdjaa.X
open Go.RowKit Go.Proofs.YtkjkbenmoogdjaaW.PrintWords Go.Proofs.YtkjkbenmoogdjaaW.PrintLast Go.Proofs.YtkjkbenmoogdjaaW.PrintMore
attribute [local go_sem] max2_int min2_int max_two min_two max_three min_three max_four min_four   -- for this text's walks alone
set_option linter.unusedVariables false
set_option linter.unusedSimpArgs false

/-! ### pure text 13: refSplit -/
theorem st_succ (s : ByteArray) (i : Nat) {q sl : Bool} {d : Int} (h : stAt s i = (q, sl, d)) : stAt s (i + 1) = seeS q sl d (bt s i) := by
  show seeS (stAt s i).1 (stAt s i).2.1 (stAt s i).2.2 (bt s i) = _
  rw [h]
theorem el_open (s : ByteArray) (i : Nat) (h : closedS (stAt s i) = false) : elemsAt s (i + 1) = elemsAt s i := by
  show (if bt s i = 44 ∧ closedS (stAt s i) = true then _ else _) = _
  rw [if_neg (by rw [h]; simp)]
theorem el_other (s : ByteArray) (i : Nat) (h : bt s i ≠ 44) : elemsAt s (i + 1) = elemsAt s i := by
  show (if bt s i = 44 ∧ closedS (stAt s i) = true then _ else _) = _
  rw [if_neg (fun e => h e.1)]
theorem open_d (d : Int) (sl : Bool) (h : 1 ≤ d) : closedS (false, sl, d) = false := by
  unfold closedS
  have : (d == 0) = false := beq_eq_false_iff_ne.2 (by omega)
  simp [this]
theorem open_q (sl : Bool) (d : Int) : closedS (true, sl, d) = false := rfl
theorem open_s (q : Bool) (d : Int) : closedS (q, true, d) = false := by cases q <;> rfl
/-- Where what is closed in ends: the scan is at rest there, and no comma between has parted anything. -/
def EndsAt (s : ByteArray) (i : Nat) (r : Int) : Prop :=
  (r = -1 ∧ closedS (stAt s s.size) = false) ∨ ∃ j : Nat, r = j ∧ i < j ∧ j ≤ s.size ∧ stAt s j = (false, false, 0) ∧ elemsAt s j = elemsAt s i
theorem EndsAt.from {s : ByteArray} {i i' : Nat} {r : Int} (h : EndsAt s i' r) (hi : i ≤ i') (he : elemsAt s i' = elemsAt s i) : EndsAt s i r := by
  rcases h with h | ⟨j, hr, hlt, hle, hst, hel⟩
  · exact .inl h
  · exact .inr ⟨j, hr, by omega, hle, hst, hel.trans he⟩
theorem behF_paren (s : ByteArray) (p : Nat) : ∀ (f i : Nat) (d : Int), s.size ≤ i + f → i ≤ s.size → 1 ≤ d → stAt s i = (false, false, d) → EndsAt s i (behF s p false f d i) := by
  intro f
  induction f using Nat.strongRecOn with
  | _ f ih =>
  intro i d hf hi hd hst
  by_cases hlt : i < s.size
  · obtain ⟨f, rfl⟩ : ∃ g, f = g + 1 := ⟨f - 1, by omega⟩
    have hcl : closedS (stAt s i) = false := by rw [hst]; exact open_d d false hd
    have he1 := el_open s i hcl
    simp only [behF]
    rw [if_pos hlt]
    by_cases e1 : bt s i = 92
    · rw [if_pos e1]
      have hst1 : stAt s (i + 1) = (false, true, d) := by
        rw [st_succ s i hst, e1]; unfold seeS; simp; omega
      by_cases hlt2 : i + 1 < s.size
      · have hst2 : stAt s (i + 2) = (false, false, d) := by
          rw [st_succ s (i + 1) hst1]; unfold seeS; simp
        have he2 : elemsAt s (i + 2) = elemsAt s i := (el_open s (i + 1) (by rw [hst1]; exact open_s _ _)).trans he1
        exact (ih f (by omega) (i + 2) d (by omega) (by omega) hd hst2).from (by omega) he2
      · rw [behF_end s p false f d (i + 2) (by omega)]
        refine .inl ⟨rfl, ?_⟩
        rw [show s.size = i + 1 by omega, hst1]
        exact open_s _ _
    · rw [if_neg e1]
      simp only [Bool.false_eq_true, if_false]
      by_cases e2 : bt s i = 40
      · rw [if_pos e2]
        have hst1 : stAt s (i + 1) = (false, false, d + 1) := by rw [st_succ s i hst, e2]; unfold seeS; simp
        exact (ih f (by omega) (i + 1) (d + 1) (by omega) (by omega) (by omega) hst1).from (by omega) he1
      · rw [if_neg e2]
        by_cases e3 : bt s i = 41
        · rw [if_pos e3]
          have hst1 : stAt s (i + 1) = (false, false, d - 1) := by rw [st_succ s i hst, e3]; unfold seeS; simp; omega
          by_cases e4 : d - 1 = 0
          · rw [if_pos e4]
            rw [e4] at hst1
            exact .inr ⟨i + 1, by omega, by omega, by omega, hst1, he1⟩
          · rw [if_neg e4]
            exact (ih f (by omega) (i + 1) (d - 1) (by omega) (by omega) (by omega) hst1).from (by omega) he1
        · rw [if_neg e3]
          have hst1 : stAt s (i + 1) = (false, false, d) := by
            rw [st_succ s i hst]; unfold seeS
            simp [e1, e2, e3]
            omega
          exact (ih f (by omega) (i + 1) d (by omega) (by omega) hd hst1).from (by omega) he1
  · rw [behF_end s p false f d i hlt]
    refine .inl ⟨rfl, ?_⟩
    rw [show s.size = i by omega, hst]
    exact open_d d false hd
theorem behF_quote (s : ByteArray) (p : Nat) : ∀ (f i : Nat), s.size ≤ i + f → p < i → i ≤ s.size → stAt s i = (true, false, 0) → EndsAt s i (behF s p true f 0 i) := by
  intro f
  induction f using Nat.strongRecOn with
  | _ f ih =>
  intro i hf hpi hi hst
  by_cases hlt : i < s.size
  · obtain ⟨f, rfl⟩ : ∃ g, f = g + 1 := ⟨f - 1, by omega⟩
    have hcl : closedS (stAt s i) = false := by rw [hst]; rfl
    have he1 := el_open s i hcl
    simp only [behF]
    rw [if_pos hlt]
    by_cases e1 : bt s i = 92
    · rw [if_pos e1]
      have hst1 : stAt s (i + 1) = (true, true, 0) := by
        rw [st_succ s i hst, e1]; unfold seeS; simp
      by_cases hlt2 : i + 1 < s.size
      · have hst2 : stAt s (i + 2) = (true, false, 0) := by
          rw [st_succ s (i + 1) hst1]; unfold seeS; simp
        have he2 : elemsAt s (i + 2) = elemsAt s i := (el_open s (i + 1) (by rw [hst1]; rfl)).trans he1
        exact (ih f (by omega) (i + 2) (by omega) (by omega) (by omega) hst2).from (by omega) he2
      · rw [behF_end s p true f 0 (i + 2) (by omega)]
        refine .inl ⟨rfl, ?_⟩
        rw [show s.size = i + 1 by omega, hst1]
        rfl
    · rw [if_neg e1]
      simp only [if_true]
      by_cases e2 : bt s i = 34
      · rw [if_pos ⟨hpi, e2⟩]
        have hst1 : stAt s (i + 1) = (false, false, 0) := by rw [st_succ s i hst, e2]; unfold seeS; simp
        exact .inr ⟨i + 1, by omega, by omega, by omega, hst1, he1⟩
      · rw [if_neg (fun h => e2 h.2)]
        have hst1 : stAt s (i + 1) = (true, false, 0) := by
          rw [st_succ s i hst]; unfold seeS
          simp [e1, e2]
        exact (ih f (by omega) (i + 1) (by omega) (by omega) (by omega) hst1).from (by omega) he1
  · rw [behF_end s p true f 0 i hlt]
    refine .inl ⟨rfl, ?_⟩
    rw [show s.size = i by omega, hst]
    rfl
theorem behind_ends (s : ByteArray) (p : Nat) (hp : p < s.size) (hst : stAt s p = (false, false, 0)) (hc : bt s p = 34 ∨ bt s p = 40) : EndsAt s p (behind s p) := by
  unfold behind
  obtain ⟨f, hf⟩ : ∃ g, s.size = g + 1 := ⟨s.size - 1, by omega⟩
  rcases hc with hc | hc
  · have hq : (bt s p == 34) = true := by rw [hc]; rfl
    rw [hq, hf]
    simp only [behF]
    rw [if_pos hp, if_neg (by omega), if_pos trivial, if_neg (by omega)]
    have hst1 : stAt s (p + 1) = (true, false, 0) := by rw [st_succ s p hst, hc]; rfl
    exact (behF_quote s p f (p + 1) (by omega) (by omega) (by omega) hst1).from (by omega) (el_other s p (by omega))
  · have hq : (bt s p == 34) = false := by rw [hc]; rfl
    rw [hq, hf]
    simp only [behF]
    rw [if_pos hp, if_neg (by omega), if_neg (by simp), if_pos hc]
    have hst1 : stAt s (p + 1) = (false, false, 1) := by rw [st_succ s p hst, hc]; rfl
    exact (behF_paren s p f (p + 1) 1 (by omega) (by omega) (by omega) hst1).from (by omega) (el_other s p (by omega))
theorem keptL_cons (x : ByteArray) (l : List ByteArray) : keptL (x :: l) = if full (trimB x) = true then trimB x :: keptL l else keptL l := by
  unfold keptL
  simp only [List.map_cons, List.filter_cons]
theorem refsplit_l1 (M : Nat) (hM : M ≤ 1000000) (L : List ByteArray) (hL : L.length ≤ 1000001) (hsz : ∀ x ∈ L, x.size ≤ M) : ∀ (d i k : Nat) (acc : List ByteArray), L.length - i = d → i ≤ L.length → acc.length ≤ i → d + 2 * M + 3 < k →
    abutmentref07_Split.l1 k L acc (i : Int) = some (acc ++ keptL (L.drop i), true) := by
  intro d
  induction d with
  | zero =>
    intro i k acc hd hi _ hk
    obtain ⟨k, rfl⟩ : ∃ m, k = m + 1 := ⟨k - 1, by omega⟩
    simp only [abutmentref07_Split.l1]
    rw [if_neg (by omega), List.drop_eq_nil_iff.2 (by omega)]
    simp [keptL]
  | succ d ih =>
    intro i k acc hd hi hacc hk
    obtain ⟨k, rfl⟩ : ∃ m, k = m + 1 := ⟨k - 1, by omega⟩
    have hl : i < L.length := by omega
    have hw : wrap64 ((i : Int) + 1) = ((i + 1 : Nat) : Int) := by rw [wrap_id _ (by omega) (by omega)]; omega
    have hx := hsz _ (List.getElem_mem hl)
    simp only [abutmentref07_Split.l1]
    rw [if_pos (by omega), if_pos (by omega), rd_nat L i hl, ref_trim _ (by omega) k (by omega)]
    simp only [Option.bind_some]
    rw [hw, List.drop_eq_getElem_cons hl]
    by_cases he : (trimB (L[i]'hl)).toList = []
    · rw [if_pos he, ih (i + 1) k acc (by omega) (by omega) (by omega) (by omega), keptL_cons, if_neg (by unfold full; rw [he]; simp)]
    · rw [if_neg he, if_pos (by omega), ih (i + 1) k _ (by omega) (by omega) (by simp; omega) (by omega), keptL_cons, if_pos (by unfold full; simpa using he)]
      simp
theorem refsplit_l0 (s : ByteArray) (hs : s.size ≤ 1000000) : ∀ (d i k : Nat), s.size - i = d → i ≤ s.size → stAt s i = (false, false, 0) → 2 * d + 3 * s.size + 8 < k →
    abutmentref07_Split.l0 k s (elemsAt s i).2 ((elemsAt s i).1 : Int) (i : Int) = some (splitB s) := by
  intro d
  induction d using Nat.strongRecOn with
  | _ d ih =>
  intro i k hd hi hst hk
  obtain ⟨k, rfl⟩ : ∃ m, k = m + 2 := ⟨k - 2, by omega⟩
  have hfr := elemsAt_le s i
  have hln := elemsAt_len_le s i
  by_cases hlt : i < s.size
  · have hcl : closedS (stAt s i) = true := by rw [hst]; rfl
    have hw : wrap64 ((i : Int) + 1) = ((i + 1 : Nat) : Int) := by rw [wrap_id _ (by omega) (by omega)]; omega
    have hj1 : ∀ b : Bool, (b = true ↔ (bt s i = 34 ∨ bt s i = 40)) → abutmentref07_Split.j1 (k + 1) s (elemsAt s i).2 ((elemsAt s i).1 : Int) (i : Int) b = some (splitB s) := by
      intro b hb
      simp only [abutmentref07_Split.j1]
      cases b
      · have hno : ¬ (bt s i = 34 ∨ bt s i = 40) := fun h => by have := hb.2 h; cases this
        simp only [Bool.false_eq_true, if_false]
        rw [if_pos (by omega), if_pos (by omega), hw]
        by_cases hc : bt s i = 44
        · rw [if_pos hc, if_pos (by omega), if_pos (by omega), if_pos (by omega), if_pos (by omega)]
          have he : elemsAt s (i + 1) = (i + 1, (elemsAt s i).2 ++ [s.extract (elemsAt s i).1 i]) := by
            show (if bt s i = 44 ∧ closedS (stAt s i) = true then _ else _) = _
            rw [if_pos ⟨hc, hcl⟩]
          have hst1 : stAt s (i + 1) = (false, false, 0) := by rw [st_succ s i hst, hc]; rfl
          have := ih (s.size - (i + 1)) (by omega) (i + 1) k rfl (by omega) hst1 (by omega)
          rw [he] at this
          simpa using this
        · rw [if_neg hc]
          have he := el_other s i hc
          have hst1 : stAt s (i + 1) = (false, false, 0) := by
            rw [st_succ s i hst]; unfold seeS
            have h1 : bt s i ≠ 34 := fun h => hno (.inl h)
            have h2 : bt s i ≠ 40 := fun h => hno (.inr h)
            simp [h1, h2]
          have := ih (s.size - (i + 1)) (by omega) (i + 1) k rfl (by omega) hst1 (by omega)
          rw [he] at this
          exact this
      · have hyes := hb.1 rfl
        simp only [if_true]
        rw [show abutmentref07_Behind.f s (i : Int) = some (behind s i) from by unfold abutmentref07_Behind.f; rw [if_pos ⟨by omega, by omega, by omega⟩]; rfl]
        simp only [Option.bind_some]
        rcases behind_ends s i hlt hst hyes with ⟨hr, hop⟩ | ⟨j, hr, hij, hj, hstj, hej⟩
        · rw [hr, if_pos (by omega)]
          unfold splitB
          rw [if_neg (by rw [hop]; simp)]
        · rw [hr, if_neg (by omega)]
          have := ih (s.size - j) (by omega) j k rfl hj hstj (by omega)
          rw [hej] at this
          exact this
    simp only [abutmentref07_Split.l0]
    rw [if_pos (by omega), if_pos (by omega)]
    by_cases h34 : bt s i = 34
    · rw [if_pos h34]
      exact hj1 true (by simp [h34])
    · rw [if_neg h34]
      apply hj1
      rw [beq_iff_eq]
      constructor
      · intro h; exact .inr h
      · rintro (h | h)
        · exact absurd h h34
        · exact h
  · obtain rfl : i = s.size := by omega
    simp only [abutmentref07_Split.l0]
    rw [if_neg (by omega), if_pos (by omega), if_pos (by omega), if_pos (by omega)]
    have hcl : closedS (stAt s s.size) = true := by rw [hst]; rfl
    have hlen := elems_len_le s
    have := refsplit_l1 s.size hs (elems s) (by omega) (elems_size s) (elems s).length 0 (k + 1) [] rfl (by omega) (by simp) (by omega)
    unfold splitB
    rw [if_pos hcl]
    simpa [elems] using this
theorem ref_split (s : ByteArray) (hs : s.size ≤ 1000000) (k : Nat) (hk : 5 * s.size + 8 < k) : abutmentref07_Split.f k s = some (splitB s) := by
  have := refsplit_l0 s hs s.size 0 k (by omega) (by omega) rfl (by omega)
  exact this


end Go.Proofs.Ytkjkbenmoogdjaa.X
namespace Go.Proofs.Ytkjkbenmoogdjaa.X
open Go.RowKit Go.Proofs.YtkjkbenmoogdjaaW.PrintWords Go.Proofs.YtkjkbenmoogdjaaW.PrintLast Go.Proofs.YtkjkbenmoogdjaaW.PrintMore
attribute [local go_sem] max2_int min2_int max_two min_two max_three min_three max_four min_four   -- for this text's walks alone
set_option linter.unusedVariables false
set_option linter.unusedSimpArgs false

/-! ### pure text 20: token -/
theorem get_list (s : ByteArray) (j : Nat) (h : j < s.data.toList.length) : s.get! j = s.data.toList[j]'h := by
  have h2 : j < s.data.size := by simpa using h
  show s.data[j]! = _
  rw [getElem!_pos s.data j h2]
  simp
theorem decode_cont (s : ByteArray) (i k : Nat) (h : (decide (i + k < s.size) && ((s.get! (i + k)).toNat / 64 == 2)) = true) : i + k < s.size ∧ 128 ≤ (s.get! (i + k)).toNat := by
  rw [Bool.and_eq_true, decide_eq_true_eq, beq_iff_eq] at h
  omega
/-- The octets of a rune beyond ASCII are all beyond ASCII. -/
theorem decode_bytes (s : ByteArray) (i : Nat) (hi : i < s.size) (hb : 128 ≤ (s.get! i).toNat) : ∀ j, i ≤ j → j < i + (Utf8.decode s i).2 → j < s.size ∧ 128 ≤ (s.get! j).toNat := by
  intro j h1 h2
  have h0 : ¬ (s.get! (i + 0)).toNat < 128 := by simp; omega
  have one : j < i + 1 → j < s.size ∧ 128 ≤ (s.get! j).toNat := fun h => by
    obtain rfl : j = i := by omega
    exact ⟨hi, hb⟩
  unfold Utf8.decode at h2
  simp only [if_neg h0] at h2
  split at h2
  · rename_i hc
    rw [Bool.and_eq_true] at hc
    have c1 := decode_cont s i 1 hc.2
    split at h2
    · by_cases e : j = i
      · exact one (by omega)
      · obtain rfl : j = i + 1 := by simp only at h2; omega
        exact c1
    · exact one h2
  · split at h2
    · rename_i hc
      rw [Bool.and_eq_true, Bool.and_eq_true] at hc
      have c1 := decode_cont s i 1 hc.1.2
      have c2 := decode_cont s i 2 hc.2
      split at h2
      · by_cases e : j = i
        · exact one (by omega)
        · by_cases e1 : j = i + 1
          · subst e1; exact c1
          · obtain rfl : j = i + 2 := by simp only at h2; omega
            exact c2
      · exact one h2
    · split at h2
      · rename_i hc
        rw [Bool.and_eq_true, Bool.and_eq_true, Bool.and_eq_true] at hc
        have c1 := decode_cont s i 1 hc.1.1.2
        have c2 := decode_cont s i 2 hc.1.2
        have c3 := decode_cont s i 3 hc.2
        split at h2
        · by_cases e : j = i
          · exact one (by omega)
          · by_cases e1 : j = i + 1
            · subst e1; exact c1
            · by_cases e2 : j = i + 2
              · subst e2; exact c2
              · obtain rfl : j = i + 3 := by simp only at h2; omega
                exact c3
        · exact one h2
      · exact one h2
theorem allR_from (p : Nat → Bool) (b : Bool) (hp : ∀ r, 128 ≤ r → p r = b) (s : ByteArray) : ∀ (f pos : Nat), s.size ≤ pos + f → pos ≤ s.size → allRFrom p s f pos = (s.data.toList.drop pos).all fun c => p c.toNat := by
  intro f
  induction f with
  | zero =>
    intro pos hf hpos
    rw [List.drop_eq_nil_iff.2 (by rw [← size_list]; omega)]
    rfl
  | succ f ih =>
    intro pos hf hpos
    simp only [allRFrom]
    by_cases h : pos < s.size
    · rw [if_pos h]
      have hl : pos < s.data.toList.length := by rw [← size_list]; exact h
      have hg := get_list s pos hl
      by_cases ha : (s[pos]'h).toNat < 128
      · have hb2 : s[pos]'h = s.data.toList[pos]'hl := by simp; rfl
        rw [decode_ascii s pos h ha, List.drop_eq_getElem_cons hl, List.all_cons, ← hb2]
        simp only
        rw [ih (pos + 1) (by omega) (by omega)]
        cases p (s[pos]'h).toNat <;> simp
      · have hhi := decode_high s pos h (by omega)
        have hb2 : s[pos]'h = s.data.toList[pos]'hl := by simp; rfl
        have hge : 128 ≤ (s.get! pos).toNat := by rw [hg, ← hb2]; omega
        have hbs := decode_bytes s pos h hge
        obtain ⟨K, hK⟩ : ∃ K, (Utf8.decode s pos).2 = K := ⟨_, rfl⟩
        rw [hK] at hbs hhi ⊢
        rw [hp _ hhi.1]
        cases b
        · rw [if_neg (by simp), List.drop_eq_getElem_cons hl, List.all_cons, hp _ (by rw [← hb2]; omega)]
          rfl
        · have hKs : pos + K ≤ s.size := by
            have := (hbs (pos + K - 1) (by omega) (by omega)).1
            omega
          rw [if_pos rfl, ih (pos + K) (by omega) hKs]
          have : ∀ n, n ≤ K → ((s.data.toList.drop pos).all fun c => p c.toNat) = ((s.data.toList.drop (pos + n)).all fun c => p c.toNat) := by
            intro n
            induction n with
            | zero => intro _; rfl
            | succ n ihn =>
              intro hn
              have hj := hbs (pos + n) (by omega) (by omega)
              have hlj : pos + n < s.data.toList.length := by rw [← size_list]; exact hj.1
              rw [ihn (by omega), List.drop_eq_getElem_cons hlj, List.all_cons, ← get_list s (pos + n) hlj, hp _ hj.2]
              rfl
          exact (this K (Nat.le_refl _)).symm
    · rw [if_neg h, List.drop_eq_nil_iff.2 (by rw [← size_list]; omega)]
      rfl
theorem allR_list (p : Nat → Bool) (b : Bool) (hp : ∀ r, 128 ≤ r → p r = b) (s : ByteArray) : allR p s = s.data.toList.all fun c => p c.toNat := by
  have := allR_from p b hp s s.size 0 (by omega) (by omega)
  simpa [allR] using this


end Go.Proofs.Ytkjkbenmoogdjaa.X
namespace Go.Proofs.Ytkjkbenmoogdjaa.X
open Go.RowKit Go.Proofs.YtkjkbenmoogdjaaW.PrintWords Go.Proofs.YtkjkbenmoogdjaaW.PrintLast Go.Proofs.YtkjkbenmoogdjaaW.PrintMore
attribute [local go_sem] max2_int min2_int max_two min_two max_three min_three max_four min_four   -- for this text's walks alone
set_option linter.unusedVariables false
set_option linter.unusedSimpArgs false

/-! ### pure text 22: refToken -/
theorem tchar_same (c : UInt8) : tcharI (c.toNat : Int) = tcharR c.toNat := by
  have h : ∀ n : Fin 256, tcharI (n.val : Int) = tcharR n.val := by decide +kernel
  exact h ⟨c.toNat, c.toNat_lt⟩
theorem tcharR_high (r : Nat) (h : 128 ≤ r) : tcharR r = false := by
  unfold tcharR tcharL
  simp
  omega
theorem octetToken_list (s : ByteArray) : octetToken s = (!s.data.toList.isEmpty && s.data.toList.all fun c => tcharR c.toNat) := by
  unfold octetToken
  rw [allR_list tcharR false tcharR_high, Lib.toList_data]
theorem reftoken_l0 (s : ByteArray) (hs : s.size ≤ 140737488351232) : ∀ (d i k : Nat), s.size - i = d → i ≤ s.size → d < k →
    abutmentref01_Token.l0 k s (i : Int) = some ((s.data.toList.drop i).all (fun c => tcharR c.toNat) && decide ((s.size : Int) > 0)) := by
  intro d
  induction d with
  | zero =>
    intro i k hd hi hk
    obtain ⟨k, rfl⟩ : ∃ m, k = m + 1 := ⟨k - 1, by omega⟩
    simp only [abutmentref01_Token.l0]
    rw [if_neg (by omega), List.drop_eq_nil_iff.2 (by rw [← size_list]; omega)]
    simp
  | succ d ih =>
    intro i k hd hi hk
    obtain ⟨k, rfl⟩ : ∃ m, k = m + 1 := ⟨k - 1, by omega⟩
    have hl : i < s.data.toList.length := by rw [← size_list]; omega
    have hw : wrap64 ((i : Int) + 1) = ((i + 1 : Nat) : Int) := by rw [wrap_id _ (by omega) (by omega)]; omega
    simp only [abutmentref01_Token.l0]
    rw [if_pos (by omega), if_pos (by omega), bt_list s i hl, show abutmentref01_Tchar.f ((s.data.toList[i]'hl).toNat : Int) = some (tcharR (s.data.toList[i]'hl).toNat) from by unfold abutmentref01_Tchar.f; rw [tchar_same]]
    simp only [Option.bind_some]
    rw [hw, List.drop_eq_getElem_cons hl, List.all_cons]
    cases tcharR (s.data.toList[i]'hl).toNat
    · simp
    · rw [if_pos rfl, ih (i + 1) k (by omega) (by omega) (by omega)]
      simp
theorem ref_token (s : ByteArray) (hs : s.size ≤ 140737488351232) (k : Nat) (hk : s.size < k) : abutmentref01_Token.f k s = some (octetToken s) := by
  have := reftoken_l0 s hs s.size 0 k (by omega) (by omega) hk
  unfold abutmentref01_Token.f
  rw [show (0 : Int) = ((0 : Nat) : Int) from rfl, this, octetToken_list, Bool.and_comm]
  congr 2
  rw [size_list]
  cases s.data.toList with
  | nil => rfl
  | cons c l => simp


end Go.Proofs.Ytkjkbenmoogdjaa.X
namespace Go.Proofs.Ytkjkbenmoogdjaa.X
open Go.RowKit Go.Proofs.YtkjkbenmoogdjaaW.PrintWords Go.Proofs.YtkjkbenmoogdjaaW.PrintLast Go.Proofs.YtkjkbenmoogdjaaW.PrintMore
attribute [local go_sem] max2_int min2_int max_two min_two max_three min_three max_four min_four   -- for this text's walks alone
set_option linter.unusedVariables false
set_option linter.unusedSimpArgs false

/-! ### pure text 31: words -/
theorem refwords_l0 (L : List ByteArray) (M : Nat) (hM : M ≤ 1000000) (hL : L.length ≤ 2000000) (hsz : ∀ x ∈ L, x.size ≤ M) : ∀ (d i k : Nat), L.length - i = d → i ≤ L.length → d + M + 1 < k →
    abutmentref17_Words.l0 k L ((L.take i).map lowB) (i : Int) = some (if (L.drop i).any (fun x => !octetToken x) = true then ([], 3) else (L.map lowB, 0)) := by
  intro d
  induction d with
  | zero =>
    intro i k hd hi hk
    obtain ⟨k, rfl⟩ : ∃ m, k = m + 1 := ⟨k - 1, by omega⟩
    simp only [abutmentref17_Words.l0]
    rw [if_neg (by omega), List.take_of_length_le (by omega), List.drop_eq_nil_iff.2 (by omega)]
    rfl
  | succ d ih =>
    intro i k hd hi hk
    obtain ⟨k, rfl⟩ : ∃ m, k = m + 1 := ⟨k - 1, by omega⟩
    have hlt : i < L.length := by omega
    have hw : wrap64 ((i : Int) + 1) = ((i + 1 : Nat) : Int) := by rw [wrap_id _ (by omega) (by omega)]; omega
    have hs := hsz _ (List.getElem_mem hlt)
    have hnext := ih (i + 1) k (by omega) (by omega) (by omega)
    rw [← List.take_append_getElem hlt, List.map_append] at hnext
    simp only [abutmentref17_Words.l0]
    rw [if_pos (by omega), if_pos (by omega), rd_nat L i hlt, ref_token _ (by omega) k (by omega), List.drop_eq_getElem_cons hlt, List.any_cons]
    simp only [Option.bind_some]
    by_cases ht : octetToken (L[i]'hlt) = true
    · rw [if_pos ht, ref_lower _ (by omega) k (by omega)]
      simp only [Option.bind_some]
      rw [if_pos (by simp; omega), hw, ht]
      exact hnext
    · rw [if_neg ht, if_pos (by simp [ht])]
theorem ref_words (l : List S23) (hl : OkF l) (hl2 : l.length ≤ 500) (k : Nat) (hk : 4000000 < k) : abutmentref17_Words.f k l = some (wordsB l) := by
  have hc := comb_size l hl connName
  unfold abutmentref17_Words.f
  rw [show (⟨#[67, 111, 110, 110, 101, 99, 116, 105, 111, 110]⟩ : ByteArray) = connName from rfl, ref_combined l hl connName (by decide) k (by omega)]
  simp only [Option.bind_some]
  rw [ref_split (combB l connName) (by omega) k (by omega)]
  simp only [Option.bind_some]
  unfold wordsB
  by_cases h : (splitB (combB l connName)).2 = true
  · rw [if_pos h, if_pos h]
    have hlen := splitB_len (combB l connName)
    have := refwords_l0 (splitB (combB l connName)).1 (combB l connName).size (by omega) (by omega) (splitB_size _) (splitB (combB l connName)).1.length 0 k (by omega) (by omega) (by omega)
    simpa using this
  · rw [if_neg h, if_neg h]
theorem conn_words (l : List S23) (hl : OkF l) (hl2 : l.length ≤ 500) : connection_Words.f l = some (wordsB l) := by
  have hc := comb_size l hl connName
  unfold connection_Words.f
  rw [if_pos ⟨by omega, by omega⟩]
/-- Each word is a token in small letters. -/
theorem words_low (l : List S23) : ∀ x ∈ (wordsB l).1, ∃ y, x = lowB y ∧ y.size ≤ (combB l connName).size := by
  intro x hx
  unfold wordsB at hx
  split at hx
  · split at hx
    · cases hx
    · obtain ⟨y, hy, rfl⟩ := List.mem_map.1 hx
      exact ⟨y, rfl, splitB_size _ y hy⟩
  · cases hx


end Go.Proofs.Ytkjkbenmoogdjaa.X
namespace Go.Proofs.Ytkjkbenmoogdjaa.X
open Go.RowKit Go.Proofs.YtkjkbenmoogdjaaW.PrintWords Go.Proofs.YtkjkbenmoogdjaaW.PrintLast Go.Proofs.YtkjkbenmoogdjaaW.PrintMore
attribute [local go_sem] max2_int min2_int max_two min_two max_three min_three max_four min_four   -- for this text's walks alone
set_option linter.unusedVariables false
set_option linter.unusedSimpArgs false

/-! ### pure text 34: conn -/
theorem lowB_size2 (y : ByteArray) : (lowB y).size = y.size := by
  unfold lowB lowL
  rw [size_mk, List.length_map, size_list]
theorem conn_has2 (l : List S23) (hl : OkF l) (hl2 : l.length ≤ 500) (x : ByteArray) (hx : x.size ≤ 1000000000) (k : Nat) (hk : 600000 < k) : connection_Has.f k l x = some (inL (wordsB l).1 (lowB x)) := by
  have hc := comb_size l hl connName
  have hlen := wordsB_len l
  unfold connection_Has.f
  rw [conn_words l hl hl2]
  simp only [Option.bind_some]
  rw [show octet_Lower.f x = some (lowB x) from by unfold octet_Lower.f; rw [if_pos hx]]
  simp only [Option.bind_some]
  rw [contains_f _ _ (by omega) k (by omega)]
  rfl
theorem conn_persists (minor : Int) (l : List S23) (hl : OkF l) (hl2 : l.length ≤ 500) : connection_Persists.f minor l = some (persistsB minor l) := by
  have hc := comb_size l hl connName
  unfold connection_Persists.f
  rw [if_pos ⟨by omega, by omega⟩]
theorem conn_alive (l : List S23) (hl : OkF l) (hl2 : l.length ≤ 500) : connection_Alive.f l = some (aliveB l) := by
  have hc := comb_size l hl keepAlive
  unfold connection_Alive.f
  rw [if_pos ⟨by omega, by omega⟩]
theorem refhas17_l0 (x : ByteArray) (hx : x.size ≤ 1000000000) (L : List ByteArray) (hL : L.length ≤ 2000000) : ∀ (d i k : Nat), L.length - i = d → i ≤ L.length → d + x.size + 1 < k →
    abutmentref17_Has.l0 k x L (i : Int) = some (inL (L.drop i) (lowB x)) := by
  intro d
  induction d with
  | zero =>
    intro i k hd hi hk
    obtain ⟨k, rfl⟩ : ∃ m, k = m + 1 := ⟨k - 1, by omega⟩
    simp only [abutmentref17_Has.l0]
    rw [if_neg (by omega), List.drop_eq_nil_iff.2 (by omega)]
    rfl
  | succ d ih =>
    intro i k hd hi hk
    obtain ⟨k, rfl⟩ : ∃ m, k = m + 1 := ⟨k - 1, by omega⟩
    have hlt : i < L.length := by omega
    have hw : wrap64 ((i : Int) + 1) = ((i + 1 : Nat) : Int) := by rw [wrap_id _ (by omega) (by omega)]; omega
    have hnext := ih (i + 1) k (by omega) (by omega) (by omega)
    simp only [abutmentref17_Has.l0]
    rw [if_pos (by omega), if_pos (by omega), ref_lower x hx k (by omega), rd_nat L i hlt, hw, List.drop_eq_getElem_cons hlt]
    simp only [Option.bind_some]
    unfold inL at hnext ⊢
    rw [List.any_cons]
    by_cases h : (L[i]'hlt).toList = (lowB x).toList
    · rw [if_pos h, beq_iff_eq.2 h.symm, Bool.true_or]
    · rw [if_neg h, beq_eq_false_iff_ne.2 (fun e => h e.symm), Bool.false_or]
      exact hnext
theorem ref_has17 (l : List S23) (hl : OkF l) (hl2 : l.length ≤ 500) (x : ByteArray) (hx : x.size ≤ 1000) (k : Nat) (hk : 4000000 < k) : abutmentref17_Has.f k l x = some (inL (wordsB l).1 (lowB x)) := by
  have hc := comb_size l hl connName
  have hlen := wordsB_len l
  unfold abutmentref17_Has.f
  rw [ref_words l hl hl2 k hk]
  simp only [Option.bind_some]
  have := refhas17_l0 x (by omega) (wordsB l).1 (by omega) (wordsB l).1.length 0 k (by omega) (by omega) (by omega)
  simpa using this
theorem low_close : lowB (⟨#[99, 108, 111, 115, 101]⟩ : ByteArray) = closeName := by kernel_rfl
theorem low_keep : lowB (⟨#[107, 101, 101, 112, 45, 97, 108, 105, 118, 101]⟩ : ByteArray) = keepName := by kernel_rfl
theorem ref_persists (minor : Int) (l : List S23) (hl : OkF l) (hl2 : l.length ≤ 500) (k : Nat) (hk : 4000000 < k) : abutmentref17_Persists.f k minor l = some (persistsB minor l) := by
  unfold abutmentref17_Persists.f
  rw [ref_words l hl hl2 k hk, ref_has17 l hl hl2 _ (by decide) k hk, ref_has17 l hl hl2 _ (by decide) k hk, low_close, low_keep]
  simp only [Option.bind_some]
  unfold persistsB
  by_cases h : (wordsB l).2 = 0
  · rw [if_pos h, beq_iff_eq.2 h]
    cases inL (wordsB l).1 closeName with
    | true => simp
    | false =>
      by_cases hm : minor > 0
      · rw [if_neg (by simp), if_pos hm, decide_eq_true hm]; simp
      · rw [if_neg (by simp), if_neg hm, decide_eq_false hm]; simp
  · rw [if_neg h, beq_eq_false_iff_ne.2 h]
    rfl
theorem lives17 : abutmentlaw17_lives.f = some true := rfl


end Go.Proofs.Ytkjkbenmoogdjaa.X
namespace Go.Proofs.Ytkjkbenmoogdjaa.X
open Go.RowKit Go.Proofs.YtkjkbenmoogdjaaW.PrintWords Go.Proofs.YtkjkbenmoogdjaaW.PrintLast Go.Proofs.YtkjkbenmoogdjaaW.PrintMore
attribute [local go_sem] max2_int min2_int max_two min_two max_three min_three max_four min_four   -- for this text's walks alone
set_option linter.unusedVariables false
set_option linter.unusedSimpArgs false

/-! ### pure text 36: number -/
theorem digR_high (r : Nat) (h : 128 ≤ r) : digR r = -1 := by unfold digR; rw [if_neg (by omega), if_neg (by omega), if_neg (by omega)]
/-- digits.number over a list of octets. -/
def numL (base most : Int) : List UInt8 → Int → Bool → Int × Int
  | [], n, ov => if ov = true then (0, 5) else (n, 0)
  | c :: l, n, ov => if digR c.toNat < 0 ∨ base ≤ digR c.toNat then (0, 3) else numL base most l (if stepO base most n ov (digR c.toNat) = true then n else n * base + digR c.toNat) (stepO base most n ov (digR c.toNat))
theorem numFrom_list (base most : Int) (s : ByteArray) : ∀ (f pos : Nat) (n : Int) (ov : Bool), s.size ≤ pos + f → pos ≤ s.size → numFrom base most s f pos n ov = numL base most (s.data.toList.drop pos) n ov := by
  intro f
  induction f with
  | zero =>
    intro pos n ov hf hpos
    rw [List.drop_eq_nil_iff.2 (by rw [← size_list]; omega)]
    rfl
  | succ f ih =>
    intro pos n ov hf hpos
    by_cases h : pos < s.size
    · have hl : pos < s.data.toList.length := by rw [← size_list]; exact h
      simp only [numFrom]
      rw [if_pos h]
      have hb2 : s[pos]'h = s.data.toList[pos]'hl := by simp; rfl
      by_cases ha : (s[pos]'h).toNat < 128
      · rw [decode_ascii s pos h ha, List.drop_eq_getElem_cons hl]
        simp only [numL]
        rw [← hb2]
        by_cases hd : digR (s[pos]'h).toNat < 0 ∨ base ≤ digR (s[pos]'h).toNat
        · rw [if_pos hd, if_pos hd]
        · rw [if_neg hd, if_neg hd, ih (pos + 1) _ _ (by omega) (by omega)]
      · have hhi := decode_high s pos h (by omega)
        rw [digR_high _ hhi.1, if_pos (.inl (by decide)), List.drop_eq_getElem_cons hl]
        simp only [numL]
        rw [← hb2, digR_high _ (by omega), if_pos (.inl (by decide))]
    · rw [numFrom_end base most s (f + 1) pos n ov h, List.drop_eq_nil_iff.2 (by rw [← size_list]; omega)]
      rfl
def dOk (base : Int) (c : UInt8) : Bool := decide (0 ≤ digR c.toNat) && decide (digR c.toNat < base)
def valL (base : Int) (l : List UInt8) (n : Int) : Int := l.foldl (fun n c => n * base + digR c.toNat) n
theorem valL_cons (base : Int) (c : UInt8) (l : List UInt8) (n : Int) : valL base (c :: l) n = valL base l (n * base + digR c.toNat) := rfl
theorem dOk_iff (base : Int) (c : UInt8) : dOk base c = true ↔ 0 ≤ digR c.toNat ∧ digR c.toNat < base := by unfold dOk; rw [Bool.and_eq_true, decide_eq_true_iff, decide_eq_true_iff]
theorem valL_ge (base : Int) (hb : 1 ≤ base) : ∀ (l : List UInt8) (n : Int), l.all (dOk base) = true → 0 ≤ n → n ≤ valL base l n := by
  intro l
  induction l with
  | nil => intro n _ _; exact Int.le_refl _
  | cons c l ih =>
    intro n hl hn
    rw [List.all_cons, Bool.and_eq_true, dOk_iff] at hl
    rw [valL_cons]
    have h1 : n ≤ n * base := by have := Int.mul_le_mul_of_nonneg_left hb hn; omega
    have := ih (n * base + digR c.toNat) hl.2 (by omega)
    omega
theorem stepO_iff (base most n d : Int) (hb : 0 < base) (hn : 0 ≤ n) (hd : 0 ≤ d) : stepO base most n false d = decide (most < n * base + d) := by
  unfold stepO
  have hnb : 0 ≤ n * base := Int.mul_nonneg hn (by omega)
  have hdiv : (most - d) / base < n ↔ most - d < n * base := Int.ediv_lt_iff_lt_mul hb
  rw [Bool.false_or, Bool.eq_iff_iff, Bool.or_eq_true, decide_eq_true_iff, decide_eq_true_iff, decide_eq_true_iff, hdiv]
  omega
theorem numL_spec (base most : Int) (hb : 1 ≤ base) : ∀ (l : List UInt8) (n : Int) (ov : Bool), 0 ≤ n → n ≤ most →
    numL base most l n ov = if l.all (dOk base) = true then (if ov = true then (0, 5) else if valL base l n ≤ most then (valL base l n, 0) else (0, 5)) else (0, 3) := by
  intro l
  induction l with
  | nil =>
    intro n ov hn hm
    simp only [numL]
    rw [if_pos (show ([] : List UInt8).all (dOk base) = true from rfl)]
    cases ov with
    | true => rfl
    | false => rw [if_neg (by simp), if_neg (by simp), if_pos (show valL base [] n ≤ most from hm)]; rfl
  | cons c l ih =>
    intro n ov hn hm
    simp only [numL]
    by_cases hd : digR c.toNat < 0 ∨ base ≤ digR c.toNat
    · rw [if_pos hd, if_neg]
      rw [List.all_cons, Bool.and_eq_true, dOk_iff]
      omega
    · rw [if_neg hd]
      have hok : dOk base c = true := (dOk_iff base c).2 (by omega)
      have hall : (c :: l).all (dOk base) = l.all (dOk base) := by rw [List.all_cons, hok, Bool.true_and]
      rw [hall, valL_cons]
      cases ov with
      | true =>
        rw [show stepO base most n true (digR c.toNat) = true from rfl, if_pos rfl, ih n true hn hm]
        simp
      | false =>
        have hnb : 0 ≤ n * base := Int.mul_nonneg hn (by omega)
        rw [stepO_iff base most n _ (by omega) hn (by omega)]
        by_cases hs : most < n * base + digR c.toNat
        · rw [decide_eq_true hs, if_pos rfl, ih n true hn hm, if_pos rfl]
          by_cases ha : l.all (dOk base) = true
          · have := valL_ge base hb l (n * base + digR c.toNat) ha (by omega)
            rw [if_pos ha, if_pos ha, if_neg (by simp), if_neg (by omega)]
          · rw [if_neg ha, if_neg ha]
        · rw [decide_eq_false hs, if_neg (by simp), ih _ false (by omega) (by omega)]
theorem numberB_spec (s : ByteArray) (base most : Int) (hb : 1 ≤ base) (hm : 0 ≤ most) : numberB s base most = if s.data.toList = [] then (0, 2) else if s.data.toList.all (dOk base) = true then (if valL base s.data.toList 0 ≤ most then (valL base s.data.toList 0, 0) else (0, 5)) else (0, 3) := by
  unfold numberB
  rw [Lib.toList_data]
  by_cases h : s.data.toList = []
  · rw [if_pos h, if_pos h]
  · rw [if_neg h, if_neg h, numFrom_list base most s s.size 0 0 false (by omega) (by omega), List.drop_zero, numL_spec base most hb _ 0 false (by omega) hm]
    rw [if_neg (show ¬ (false = true) by simp)]
def valR (c : UInt8) : Int := if digR c.toNat = -1 then 99 else digR c.toNat
theorem value_f (c : UInt8) (k : Nat) (hk : 2 < k) : abutmentref02_Value.f k (c.toNat : Int) = some (valR c) := by
  have hlt := c.toNat_lt
  have hid : wrap64 (c.toNat : Int) = (c.toNat : Int) := wrap_id _ (by omega) (by omega)
  obtain ⟨k, rfl⟩ : ∃ m, k = m + 2 := ⟨k - 2, by omega⟩
  unfold abutmentref02_Value.f valR digR
  by_cases h1 : 48 ≤ c.toNat ∧ c.toNat ≤ 57
  · rw [if_pos (by omega), if_pos h1, decide_eq_true (by omega), if_neg (by omega)]
    simp only [abutmentref02_Value.j0, if_true]
    rw [hid, wrap_id _ (by omega) (by omega)]
  · rw [if_neg h1]
    have e0 : (if (c.toNat : Int) ≥ 48 then abutmentref02_Value.j0 (k + 2) (c.toNat : Int) (decide ((c.toNat : Int) ≤ 57)) else abutmentref02_Value.j0 (k + 2) (c.toNat : Int) false) = abutmentref02_Value.j0 (k + 2) (c.toNat : Int) false := by
      by_cases h : (c.toNat : Int) ≥ 48
      · rw [if_pos h, decide_eq_false (by omega)]
      · rw [if_neg h]
    rw [e0]
    simp only [abutmentref02_Value.j0]
    rw [if_neg (by simp)]
    by_cases h3 : 65 ≤ c.toNat ∧ c.toNat ≤ 70
    · have hd : (if 97 ≤ c.toNat ∧ c.toNat ≤ 102 then (c.toNat : Int) - 87 else if 65 ≤ c.toNat ∧ c.toNat ≤ 70 then (c.toNat : Int) - 55 else -1) = (c.toNat : Int) - 55 := by rw [if_neg (by omega), if_pos h3]
      rw [hd, if_pos (by omega), decide_eq_true (by omega), if_neg (by omega)]
      simp only [abutmentref02_Value.j1, if_true]
      rw [hid, wrap_id _ (by omega) (by omega)]
    · have hd : (if 97 ≤ c.toNat ∧ c.toNat ≤ 102 then (c.toNat : Int) - 87 else if 65 ≤ c.toNat ∧ c.toNat ≤ 70 then (c.toNat : Int) - 55 else -1) = (if 97 ≤ c.toNat ∧ c.toNat ≤ 102 then (c.toNat : Int) - 87 else -1) := by rw [if_neg h3]
      rw [hd]
      have e1 : (if (c.toNat : Int) ≥ 65 then abutmentref02_Value.j1 (k + 1) (c.toNat : Int) (decide ((c.toNat : Int) ≤ 70)) else abutmentref02_Value.j1 (k + 1) (c.toNat : Int) false) = abutmentref02_Value.j1 (k + 1) (c.toNat : Int) false := by
        by_cases h : (c.toNat : Int) ≥ 65
        · rw [if_pos h, decide_eq_false (by omega)]
        · rw [if_neg h]
      rw [e1]
      simp only [abutmentref02_Value.j1]
      rw [if_neg (by simp)]
      by_cases h2 : 97 ≤ c.toNat ∧ c.toNat ≤ 102
      · rw [if_pos h2, if_pos (by omega), if_pos (by omega), if_neg (by omega), hid, wrap_id _ (by omega) (by omega)]
      · rw [if_neg h2]
        by_cases h4 : 97 ≤ c.toNat
        · rw [if_pos (by omega), if_neg (by omega)]; rfl
        · rw [if_neg (by omega)]; rfl
theorem valR_ok (c : UInt8) : (valR c ≥ 10) ↔ ¬ dOk 10 c = true := by
  rw [dOk_iff]
  have := digR_bounds c.toNat
  unfold valR
  split <;> omega
theorem valR_dig (c : UInt8) (h : dOk 10 c = true) : valR c = digR c.toNat := by
  rw [dOk_iff] at h
  unfold valR
  rw [if_neg (by omega)]
def mostA : Int := 1073741824
def outN (l : List UInt8) : Int × Int := if valL 10 l 0 ≤ 1073741824 then (valL 10 l 0, 0) else (0, 5)
theorem refnum_l2 (l : List UInt8) (hl : l.length ≤ 19) (hok : l.all (dOk 10) = true) : ∀ (d i k : Nat), l.length - i = d → i ≤ l.length → d + 3 < k → 0 ≤ valL 10 (l.take i) 0 →
    abutmentref02_Number.l2 k ⟨l.toArray⟩ 10 1073741824 (valL 10 (l.take i) 0) (i : Int) = some (outN l) := by
  intro d
  induction d with
  | zero =>
    intro i k hd hi hk h0
    obtain ⟨k, rfl⟩ : ∃ m, k = m + 1 := ⟨k - 1, by omega⟩
    simp only [abutmentref02_Number.l2]
    rw [if_neg (by rw [size_mk]; omega), if_neg (by omega), List.take_of_length_le (by omega), show IntKind.u64.wrap 1073741824 = 1073741824 from by decide]
    rw [List.take_of_length_le (by omega)] at h0
    unfold outN
    by_cases h : valL 10 l 0 ≤ 1073741824
    · rw [if_neg (by omega), if_pos h, wrap_id _ (by omega) (by omega)]
    · rw [if_pos (by omega), if_neg h]
  | succ d ih =>
    intro i k hd hi hk h0
    obtain ⟨k, rfl⟩ : ∃ m, k = m + 1 := ⟨k - 1, by omega⟩
    have hlt : i < l.length := by omega
    have hw : wrap64 ((i : Int) + 1) = ((i + 1 : Nat) : Int) := by rw [wrap_id _ (by omega) (by omega)]; omega
    have hsplit : valL 10 l 0 = valL 10 (l.drop i) (valL 10 (l.take i) 0) := by
      unfold valL
      rw [← List.foldl_append, List.take_append_drop]
    have hnext : valL 10 (l.take (i + 1)) 0 = valL 10 (l.take i) 0 * 10 + digR (l[i]'hlt).toNat := by
      unfold valL
      rw [← List.take_append_getElem hlt, List.foldl_append]
      rfl
    have hokd : (l.drop i).all (dOk 10) = true := by
      rw [List.all_eq_true] at hok ⊢
      exact fun x hx => hok x (List.mem_of_mem_drop hx)
    have hoki : dOk 10 (l[i]'hlt) = true := (List.all_eq_true.1 hok) _ (List.getElem_mem hlt)
    have hdi := (dOk_iff 10 _).1 hoki
    simp only [abutmentref02_Number.l2]
    rw [if_pos (by rw [size_mk]; omega)]
    by_cases hbig : valL 10 (l.take i) 0 > 1152921504606846975
    · rw [if_pos hbig]
      have := valL_ge 10 (by omega) (l.drop i) _ hokd h0
      unfold outN
      rw [if_neg (by omega)]
    · rw [if_neg hbig, if_pos (by omega), bt_mk l i hlt, value_f _ k (by omega)]
      simp only [Option.bind_some]
      have hin := ih (i + 1) k (by omega) (by omega) (by omega) (by rw [hnext]; omega)
      rw [hnext] at hin
      rw [valR_dig _ hoki, hw, show IntKind.u64.wrap (10 : Int) = 10 from by decide]
      have hu : ∀ x : Int, 0 ≤ x → x ≤ 18446744073709551615 → IntKind.u64.wrap x = x := by
        intro x h1 h2
        simp [IntKind.wrap, IntKind.bits, IntKind.signed]
        omega
      rw [hu (valL 10 (l.take i) 0 * 10) (by omega) (by omega), hu (digR (l[i]'hlt).toNat) (by omega) (by omega), hu (valL 10 (l.take i) 0 * 10 + digR (l[i]'hlt).toNat) (by omega) (by omega)]
      exact hin
theorem valL_pow (j : Nat) : ∀ (r : List UInt8) (n : Int), r.all (dOk 10) = true → 0 ≤ n → j ≤ r.length → n * 10 ^ j ≤ valL 10 r n := by
  induction j with
  | zero => intro r n hr hn _; have := valL_ge 10 (by omega) r n hr hn; simpa using this
  | succ j ih =>
    intro r n hr hn hj
    cases r with
    | nil => simp at hj
    | cons c r =>
      rw [List.all_cons, Bool.and_eq_true, dOk_iff] at hr
      rw [valL_cons]
      have h1 := ih r (n * 10 + digR c.toNat) hr.2 (by omega) (by simpa using hj)
      have h2 : n * 10 ^ (j + 1) ≤ (n * 10 + digR c.toNat) * 10 ^ j := by
        rw [Int.pow_succ, Int.add_mul, Int.mul_comm ((10 : Int) ^ j) 10, ← Int.mul_assoc]
        have : 0 ≤ digR c.toNat * 10 ^ j := Int.mul_nonneg hr.1.1 (Int.pow_nonneg (by omega))
        omega
      omega
theorem refnum_j2 (l : List UInt8) (hok : l.all (dOk 10) = true) (hz : 1 < l.length → ∃ c r, l = c :: r ∧ 1 ≤ digR c.toNat) (k : Nat) (hk : 30 < k) : abutmentref02_Number.j2 k ⟨l.toArray⟩ 10 1073741824 = some (outN l) := by
  obtain ⟨k, rfl⟩ : ∃ m, k = m + 1 := ⟨k - 1, by omega⟩
  simp only [abutmentref02_Number.j2]
  by_cases h : l.length ≤ 19
  · rw [if_neg (by rw [size_mk]; omega)]
    exact refnum_l2 l h hok l.length 0 k (by omega) (by omega) (by omega) (by simp [valL])
  · rw [if_pos (by rw [size_mk]; omega)]
    obtain ⟨c, r, rfl, hc⟩ := hz (by omega)
    rw [List.all_cons, Bool.and_eq_true] at hok
    have := valL_pow 10 r (0 * 10 + digR c.toNat) hok.2 (by omega) (by simp at h; omega)
    have h10 : (10 : Int) ^ 10 = 10000000000 := by decide
    rw [h10] at this
    unfold outN
    rw [valL_cons, if_neg (by omega)]
theorem refnum_l1 : ∀ (n : Nat) (l : List UInt8) (k : Nat), l.length = n → l.length ≤ 1000000 → l.all (dOk 10) = true → n + 40 < k → abutmentref02_Number.l1 k ⟨l.toArray⟩ 10 1073741824 = some (outN l) := by
  intro n
  induction n with
  | zero =>
    intro l k hl _ hok hk
    obtain ⟨k, rfl⟩ : ∃ m, k = m + 1 := ⟨k - 1, by omega⟩
    simp only [abutmentref02_Number.l1]
    rw [if_neg (by rw [size_mk]; omega)]
    exact refnum_j2 l hok (fun h => by omega) k (by omega)
  | succ n ih =>
    intro l k hl hle hok hk
    obtain ⟨k, rfl⟩ : ∃ m, k = m + 1 := ⟨k - 1, by omega⟩
    simp only [abutmentref02_Number.l1]
    by_cases h1 : 1 < l.length
    · rw [if_pos (by rw [size_mk]; omega), if_pos (by rw [size_mk]; omega)]
      cases l with
      | nil => simp at h1
      | cons c r =>
        have hb := bt_mk (c :: r) 0 (by simp)
        rw [show ((0 : Nat) : Int) = 0 from rfl] at hb
        rw [hb]
        rw [List.all_cons, Bool.and_eq_true] at hok
        have h48 : ((c.toNat : Int) = 48) ↔ c = 48 := u8_eq c 48
        by_cases hc : c = 48
        · subst hc
          rw [if_pos (by rfl), if_pos (by rw [size_mk]; omega), ext_mk, size_mk, show List.take ((48 :: r).length - 1) (List.drop 1 ((48 : UInt8) :: r)) = r from by simp]
          rw [ih r k (by simpa using hl) (by simp at hle; omega) hok.2 (by omega)]
          rfl
        · rw [if_neg (show ¬ (((c :: r)[0]'(by simp)).toNat : Int) = 48 from fun h => hc (h48.1 h))]
          refine refnum_j2 (c :: r) (by rw [List.all_cons, hok.1, hok.2]; rfl) (fun _ => ⟨c, r, rfl, ?_⟩) k (by omega)
          have hd := (dOk_iff 10 c).1 hok.1
          have : digR c.toNat ≠ 0 := by
            intro h0
            unfold digR at h0
            have hlt := c.toNat_lt
            split at h0
            · exact hc (h48.1 (by omega))
            · split at h0
              · omega
              · split at h0
                · omega
                · omega
          omega
    · rw [if_neg (by rw [size_mk]; omega)]
      exact refnum_j2 l hok (fun h => absurd h h1) k (by omega)
theorem refnum_l0 (l : List UInt8) (hl : l.length ≤ 1000000) : ∀ (d i k : Nat), l.length - i = d → i ≤ l.length → d + l.length + 60 < k → (l.take i).all (dOk 10) = true →
    abutmentref02_Number.l0 k ⟨l.toArray⟩ 10 1073741824 (i : Int) = some (if l.all (dOk 10) = true then outN l else (0, 3)) := by
  intro d
  induction d with
  | zero =>
    intro i k hd hi hk hok
    obtain ⟨k, rfl⟩ : ∃ m, k = m + 1 := ⟨k - 1, by omega⟩
    rw [List.take_of_length_le (by omega)] at hok
    simp only [abutmentref02_Number.l0]
    rw [if_neg (by rw [size_mk]; omega), if_pos hok]
    exact refnum_l1 l.length l k rfl hl hok (by omega)
  | succ d ih =>
    intro i k hd hi hk hok
    obtain ⟨k, rfl⟩ : ∃ m, k = m + 1 := ⟨k - 1, by omega⟩
    have hlt : i < l.length := by omega
    have hw : wrap64 ((i : Int) + 1) = ((i + 1 : Nat) : Int) := by rw [wrap_id _ (by omega) (by omega)]; omega
    simp only [abutmentref02_Number.l0]
    rw [if_pos (by rw [size_mk]; omega), if_pos (by omega), bt_mk l i hlt, value_f _ k (by omega)]
    simp only [Option.bind_some]
    by_cases hc : dOk 10 (l[i]'hlt) = true
    · rw [if_neg (fun h => (valR_ok _).1 h hc), hw]
      exact ih (i + 1) k (by omega) (by omega) (by omega) (by rw [← List.take_append_getElem hlt, List.all_append, hok]; simp [hc])
    · rw [if_pos ((valR_ok _).2 hc), if_neg (fun h => hc ((List.all_eq_true.1 h) _ (List.getElem_mem hlt)))]
theorem ref_number (s : ByteArray) (hs : s.size ≤ 1000000) (k : Nat) (hk : 2 * s.size + 60 < k) : abutmentref02_Number.f k s 10 1073741824 = some (numberB s 10 1073741824) := by
  have hsl := size_list s
  rw [numberB_spec s 10 1073741824 (by omega) (by omega)]
  unfold abutmentref02_Number.f
  by_cases h : s.data.toList = []
  · have e0 : s.size = 0 := by rw [hsl, h]; rfl
    rw [if_pos h, if_pos (by omega)]
  · have hp : 0 < s.data.toList.length := List.length_pos_iff.2 h
    rw [if_neg h, if_neg (by omega)]
    have := refnum_l0 s.data.toList (by omega) s.data.toList.length 0 k (by omega) (by omega) (by omega) (by rfl)
    rw [mk_eta] at this
    exact this


end Go.Proofs.Ytkjkbenmoogdjaa.X
namespace Go.Proofs.Ytkjkbenmoogdjaa.X
open Go.RowKit Go.Proofs.YtkjkbenmoogdjaaW.PrintWords Go.Proofs.YtkjkbenmoogdjaaW.PrintLast Go.Proofs.YtkjkbenmoogdjaaW.PrintMore
attribute [local go_sem] max2_int min2_int max_two min_two max_three min_three max_four min_four   -- for this text's walks alone
set_option linter.unusedVariables false
set_option linter.unusedSimpArgs false

/-! ### pure text 37: alive -/
theorem idxA_at (l : List UInt8) (c : UInt8) (i : Nat) (h1 : ∀ j, j < i → l[j]? ≠ some c) (h2 : l[i]? = some c) : Lib.indexByte l c = i := by
  have hge := Lib.indexByte_ge l c
  by_cases h : Lib.indexByte l c = -1
  · exact absurd h2 (Lib.indexByte_none h i)
  · obtain ⟨n, hn⟩ := Int.eq_ofNat_of_zero_le (a := Lib.indexByte l c) (by omega)
    obtain ⟨h3, h4⟩ := Lib.indexByte_some hn
    rw [hn]
    have e1 : ¬ n < i := fun hlt => h1 n hlt h3
    have e2 : ¬ i < n := fun hlt => h4 i hlt h2
    omega
theorem idxA_no (l : List UInt8) (c : UInt8) (h1 : ∀ j, j < l.length → l[j]? ≠ some c) : Lib.indexByte l c = -1 := by
  have hge := Lib.indexByte_ge l c
  by_cases h : Lib.indexByte l c = -1
  · exact h
  · obtain ⟨n, hn⟩ := Int.eq_ofNat_of_zero_le (a := Lib.indexByte l c) (by omega)
    obtain ⟨h3, _⟩ := Lib.indexByte_some hn
    exact absurd h3 (h1 n (List.getElem?_eq_some_iff.1 h3).1)
theorem stepA_bad (st : Int × Int × Bool) (e : ByteArray) (h : st.2.2 = false) : (stepA st e).2.2 = false := by
  unfold stepA
  split
  · split
    · show (st.2.2 && _) = false
      rw [h]; rfl
    · split
      · show (st.2.2 && _) = false
        rw [h]; rfl
      · exact h
  · exact h
theorem foldA_bad : ∀ (L : List ByteArray) (st : Int × Int × Bool), st.2.2 = false → (L.foldl stepA st).2.2 = false
  | [], st, h => h
  | e :: L, st, h => foldA_bad L _ (stepA_bad st e h)
/-- What the reference gives out of what stands at the end. -/
def outA (has : Bool) (st : Int × Int × Bool) : Int × Int × Bool := if has = true then (if st.2.2 = true then (st.1, st.2.1, true) else (0, 0, false)) else (0, 0, false)
theorem outA_bad (has : Bool) (st : Int × Int × Bool) (h : st.2.2 = false) : outA has st = (0, 0, false) := by
  unfold outA; rw [h]; cases has <;> rfl
theorem refalive_end (has : Bool) (L : List ByteArray) (x7 : Bool) (x9 t m : Int) (k : Nat) (hk : 0 < k) : abutmentref17_Alive.j1 k has L x7 x9 false t m = some (outA has (t, m, x7)) := by
  obtain ⟨k, rfl⟩ : ∃ j, k = j + 1 := ⟨k - 1, by omega⟩
  simp only [abutmentref17_Alive.j1, outA]
  rw [if_neg (by simp)]
  cases has <;> cases x7 <;> rfl
theorem refalive_j3 (has : Bool) (L : List ByteArray) (x9 : Nat) (hx : x9 < L.length) (hsz : (L[x9]'hx).size ≤ 1000000) (t m : Int) (R : Int × Int × Bool) (p : Nat) (hp : p ≤ (L[x9]'hx).size)
    (h1 : ∀ j, j < p → (L[x9]'hx).data.toList[j]? ≠ some 61) (h2 : p < (L[x9]'hx).size → (L[x9]'hx).data.toList[p]? = some 61) (k : Nat) (hk : 6 * (L[x9]'hx).size + 80 < k)
    (hR : ∀ k', k' + 1 = k → abutmentref17_Alive.l0 k' has L (stepA (t, m, true) (L[x9]'hx)).2.2 (wrap64 ((x9 : Int) + 1)) (stepA (t, m, true) (L[x9]'hx)).1 (stepA (t, m, true) (L[x9]'hx)).2.1 = some R) :
    abutmentref17_Alive.j3 k has L true (x9 : Int) (p : Int) t m = some R := by
  obtain ⟨k, rfl⟩ : ∃ j, k = j + 1 := ⟨k - 1, by omega⟩
  have hr := hR k rfl
  clear hR
  simp only [abutmentref17_Alive.j3]
  rw [if_pos (by omega), if_pos (by omega), rd_nat L x9 hx]
  generalize L[x9]'hx = e at hsz hp h1 h2 hk hr
  have hsl := size_list e
  by_cases he : p = e.size
  · have hc : (cutAt e 61).2.2 = false := by unfold cutAt; rw [idxA_no _ _ (fun j hj => h1 j (by omega))]; rfl
    unfold stepA at hr
    rw [hc] at hr
    rw [if_pos (by omega)]
    simpa using hr
  · have hx2 : Lib.indexByte e.data.toList 61 = (p : Int) := idxA_at _ _ p h1 (h2 (by omega))
    have hc : cutAt e 61 = (e.extract 0 p, e.extract (p + 1) e.size, true) := by
      unfold cutAt
      rw [hx2, if_pos (by omega)]
      rfl
    have hw : wrap64 ((p : Int) + 1) = ((p + 1 : Nat) : Int) := by rw [wrap_id _ (by omega) (by omega)]; omega
    have z1 : (e.extract 0 p).size ≤ e.size := by rw [ByteArray.size_extract]; omega
    have z2 : (e.extract (p + 1) e.size).size ≤ e.size := by rw [ByteArray.size_extract]; omega
    unfold stepA at hr
    rw [hc] at hr
    rw [if_neg (by omega), if_pos (by omega), if_pos (by omega), hw]
    simp only [Int.toNat_natCast]
    generalize e.extract 0 p = A at z1 hr
    generalize e.extract (p + 1) e.size = B at z2 hr
    have zA := trimB_size A
    have zB := trimB_size B
    rw [ref_trim A (by omega) k (by omega)]
    simp only [Option.bind_some]
    rw [ref_lower (trimB A) (by omega) k (by omega)]
    simp only [Option.bind_some]
    rw [if_pos (by omega), if_pos (by omega), ref_trim B (by omega) k (by omega)]
    simp only [Option.bind_some]
    rw [ref_number (trimB B) (by omega) k (by omega)]
    simp only [Option.bind_some]
    rw [if_pos rfl] at hr
    by_cases hn1 : (lowB (trimB A)).toList = ([116, 105, 109, 101, 111, 117, 116] : List UInt8)
    · rw [if_pos (show (lowB (trimB A)).toList = timeoutL from hn1)] at hr
      rw [if_pos hn1, if_neg (by rw [hn1]; decide)]
      simpa using hr
    · rw [if_neg (show ¬ (lowB (trimB A)).toList = timeoutL from hn1)] at hr
      rw [if_neg hn1]
      by_cases hn2 : (lowB (trimB A)).toList = ([109, 97, 120] : List UInt8)
      · rw [if_pos (show (lowB (trimB A)).toList = maxL from hn2)] at hr
        rw [if_pos hn2]
        simpa using hr
      · rw [if_neg (show ¬ (lowB (trimB A)).toList = maxL from hn2)] at hr
        rw [if_neg hn2]
        simpa using hr
theorem refalive_l1 (has : Bool) (L : List ByteArray) (x9 : Nat) (hx : x9 < L.length) (hsz : (L[x9]'hx).size ≤ 1000000) (t m : Int) (R : Int × Int × Bool) : ∀ (d p k : Nat), (L[x9]'hx).size - p = d → p ≤ (L[x9]'hx).size →
    (∀ j, j < p → (L[x9]'hx).data.toList[j]? ≠ some 61) → d + 6 * (L[x9]'hx).size + 90 < k →
    (∀ k', k ≤ k' + d + 3 → k' < k → abutmentref17_Alive.l0 k' has L (stepA (t, m, true) (L[x9]'hx)).2.2 (wrap64 ((x9 : Int) + 1)) (stepA (t, m, true) (L[x9]'hx)).1 (stepA (t, m, true) (L[x9]'hx)).2.1 = some R) →
    abutmentref17_Alive.l1 k has L true (x9 : Int) (p : Int) t m = some R := by
  intro d
  induction d with
  | zero =>
    intro p k hd hp h1 hk hR
    obtain ⟨k, rfl⟩ : ∃ j, k = j + 1 := ⟨k - 1, by omega⟩
    simp only [abutmentref17_Alive.l1]
    rw [if_pos (by omega), if_pos (by omega), rd_nat L x9 hx, if_neg (by omega)]
    exact refalive_j3 has L x9 hx hsz t m R p hp h1 (fun h => by omega) k (by omega) (fun k' e => hR k' (by omega) (by omega))
  | succ d ih =>
    intro p k hd hp h1 hk hR
    obtain ⟨k, rfl⟩ : ∃ j, k = j + 1 := ⟨k - 1, by omega⟩
    have hl : p < (L[x9]'hx).data.toList.length := by rw [← size_list]; omega
    have hw : wrap64 ((p : Int) + 1) = ((p + 1 : Nat) : Int) := by rw [wrap_id _ (by omega) (by omega)]; omega
    have h61 : (((L[x9]'hx).data.toList[p]'hl).toNat : Int) = 61 ↔ (L[x9]'hx).data.toList[p]'hl = 61 := u8_eq _ 61
    simp only [abutmentref17_Alive.l1]
    rw [if_pos (by omega), if_pos (by omega), rd_nat L x9 hx, if_pos (by omega), if_pos (by omega), bt_list (L[x9]'hx) p hl]
    by_cases hc : (L[x9]'hx).data.toList[p]'hl = 61
    · rw [if_pos (h61.2 hc)]
      exact refalive_j3 has L x9 hx hsz t m R p hp h1 (fun _ => by rw [List.getElem?_eq_getElem hl, hc]) k (by omega) (fun k' e => hR k' (by omega) (by omega))
    · rw [if_neg (fun h => hc (h61.1 h)), hw]
      refine ih (p + 1) k (by omega) (by omega) (fun j hj => ?_) (by omega) (fun k' e1 e2 => hR k' (by omega) (by omega))
      by_cases e : j = p
      · subst e
        rw [List.getElem?_eq_getElem hl]
        intro h
        exact hc (Option.some.inj h)
      · exact h1 j (by omega)
theorem refalive_l0 (has : Bool) (L : List ByteArray) (M : Nat) (hM : M ≤ 1000000) (hL : L.length ≤ 2000000) (hsz : ∀ x ∈ L, x.size ≤ M) : ∀ (d i k : Nat) (t m : Int) (ok : Bool), L.length - i = d → i ≤ L.length → d * (M + 6) + 7 * M + 100 < k →
    abutmentref17_Alive.l0 k has L ok (i : Int) t m = some (outA has ((L.drop i).foldl stepA (t, m, ok))) := by
  intro d
  induction d with
  | zero =>
    intro i k t m ok hd hi hk
    obtain ⟨k, rfl⟩ : ∃ j, k = j + 1 := ⟨k - 1, by omega⟩
    simp only [abutmentref17_Alive.l0]
    rw [if_neg (by omega), refalive_end has L ok _ t m k (by omega), List.drop_eq_nil_iff.2 (by omega)]
    rfl
  | succ d ih =>
    intro i k t m ok hd hi hk
    rw [Nat.succ_mul] at hk
    obtain ⟨k, rfl⟩ : ∃ j, k = j + 1 := ⟨k - 1, by omega⟩
    have hlt : i < L.length := by omega
    have hs := hsz _ (List.getElem_mem hlt)
    have hw : wrap64 ((i : Int) + 1) = ((i + 1 : Nat) : Int) := by rw [wrap_id _ (by omega) (by omega)]; omega
    simp only [abutmentref17_Alive.l0]
    rw [if_pos (by omega)]
    cases ok with
    | false =>
      rw [refalive_end has L false _ t m k (by omega), outA_bad has (t, m, false) rfl, outA_bad has _ (foldA_bad _ _ rfl)]
    | true =>
      obtain ⟨k, rfl⟩ : ∃ j, k = j + 1 := ⟨k - 1, by omega⟩
      simp only [abutmentref17_Alive.j1]
      rw [if_pos trivial, List.drop_eq_getElem_cons hlt, List.foldl_cons]
      refine refalive_l1 has L i hlt (by omega) t m _ (L[i]'hlt).size 0 k (by omega) (by omega) (fun j hj => by omega) (by omega) (fun k' e1 e2 => ?_)
      rw [hw]
      exact ih (i + 1) k' _ _ _ (by omega) (by omega) (by omega)
theorem ref_alive (l : List S23) (hl : OkF l) (hl2 : l.length ≤ 40) (k : Nat) (hk : 4000000000 < k) : abutmentref17_Alive.f k l = some (aliveB l) := by
  have hc := comb_size l hl keepAlive
  have hlen := splitB_len (combB l keepAlive)
  unfold abutmentref17_Alive.f
  rw [show (⟨#[75, 101, 101, 112, 45, 65, 108, 105, 118, 101]⟩ : ByteArray) = keepAlive from rfl, ref_combined l hl keepAlive (by decide) k (by omega)]
  simp only [Option.bind_some]
  rw [ref_split (combB l keepAlive) (by omega) k (by omega)]
  simp only [Option.bind_some]
  have h1 : (splitB (combB l keepAlive)).1.length * (40080 + 6) ≤ 40081 * 40086 := Nat.mul_le_mul (by omega) (by omega)
  have := refalive_l0 (decide (((allB l keepAlive).length : Int) > 0)) (splitB (combB l keepAlive)).1 40080 (by omega) (by omega) (fun x hx => by have := splitB_size _ x hx; omega) (splitB (combB l keepAlive)).1.length 0 k 0 0 (splitB (combB l keepAlive)).2 (by omega) (by omega) (by omega)
  rw [show ((0 : Nat) : Int) = 0 from rfl, List.drop_zero] at this
  rw [this]
  congr 1
  unfold aliveB runA
  cases hok : (splitB (combB l keepAlive)).2 with
  | true =>
    rw [Bool.and_true]
    unfold outA
    rfl
  | false =>
    rw [Bool.and_false, outA_bad _ _ (foldA_bad _ _ rfl)]
    rfl


end Go.Proofs.Ytkjkbenmoogdjaa.X
