/- Part 4 of the texts behind the claim on FieldParses: contracts of the functions that it reaches, and plain laws about them. No conditions of its own. -/
import Derived.Test.YtkjkbenmoogdjaaCFieldParses1
import Derived.Test.YtkjkbenmoogdjaaCFieldParses3
import Derived.Test.YtkjkbenmoogdjaaCFieldParses2
namespace Go.Proofs.Ytkjkbenmoogdjaa.X
open Go.RowKit Go.Proofs.YtkjkbenmoogdjaaW.PrintWords Go.Proofs.YtkjkbenmoogdjaaW.PrintLast Go.Proofs.YtkjkbenmoogdjaaW.PrintMore
attribute [local go_sem] max2_int min2_int max_two min_two max_three min_three max_four min_four   -- for this text's walks alone
set_option linter.unusedVariables false
set_option linter.unusedSimpArgs false

/-! ### pure text 10: refTrim -/
theorem size_mk (l : List UInt8) : (⟨l.toArray⟩ : ByteArray).size = l.length := by simp [ByteArray.size]
theorem bt_mk (l : List UInt8) (i : Nat) (h : i < l.length) : bt ⟨l.toArray⟩ (i : Int) = ((l[i]'h).toNat : Int) := bt_list ⟨l.toArray⟩ i h
theorem ext_mk (l : List UInt8) (a b : Nat) : (⟨l.toArray⟩ : ByteArray).extract a b = ⟨((l.drop a).take (b - a)).toArray⟩ := ext_list ⟨l.toArray⟩ a b
theorem mk_eta (s : ByteArray) : (⟨s.data.toList.toArray⟩ : ByteArray) = s := Lib.mk_data s
theorem bl_ite {α : Type} (c : UInt8) (A B : α) : (if (c.toNat : Int) = 32 then A else if (c.toNat : Int) = 9 then A else B) = if bl c = true then A else B := by
  have h32 : ((c.toNat : Int) = 32) ↔ c = 32 := u8_eq c 32
  have h9 : ((c.toNat : Int) = 9) ↔ c = 9 := u8_eq c 9
  unfold bl
  by_cases e : c = 32
  · rw [if_pos (h32.2 e), if_pos (by simp [e])]
  · rw [if_neg (fun h => e (h32.1 h))]
    by_cases e2 : c = 9
    · rw [if_pos (h9.2 e2), if_pos (by simp [e2])]
    · rw [if_neg (fun h => e2 (h9.1 h)), if_neg (by simp [e, e2])]
theorem snoc_cases {α : Type} (l : List α) : l = [] ∨ ∃ l' c, l = l' ++ [c] := by
  rcases List.eq_nil_or_concat l with h | ⟨l', c, h⟩
  · exact .inl h
  · exact .inr ⟨l', c, by simpa using h⟩
theorem reftrim_l1 : ∀ (n : Nat) (l : List UInt8) (k : Nat), l.length = n → n ≤ 140737488351232 → n < k → abutmentref01_Trim.l1 k ⟨l.toArray⟩ = some ⟨(dropE bl l).toArray⟩ := by
  intro n
  induction n with
  | zero =>
    intro l k hl _ hk
    obtain ⟨k, rfl⟩ : ∃ m, k = m + 1 := ⟨k - 1, by omega⟩
    obtain rfl := List.eq_nil_of_length_eq_zero hl
    simp only [abutmentref01_Trim.l1]
    rw [if_neg (by rw [size_mk]; simp)]
    rfl
  | succ n ih =>
    intro l k hl hn hk
    obtain ⟨k, rfl⟩ : ∃ m, k = m + 1 := ⟨k - 1, by omega⟩
    rcases snoc_cases l with rfl | ⟨l', c, rfl⟩
    · simp at hl
    · have hl' : l'.length = n := by simpa using hl
      have hsz : ((⟨(l' ++ [c]).toArray⟩ : ByteArray).size : Int) = ((n + 1 : Nat) : Int) := by rw [size_mk, hl]
      have hw : wrap64 (((n + 1 : Nat) : Int) - 1) = (n : Int) := by rw [wrap_id _ (by omega) (by omega)]; omega
      have hb : bt ⟨(l' ++ [c]).toArray⟩ (n : Int) = (c.toNat : Int) := by
        rw [bt_mk _ n (by simp; omega), List.getElem_append_right (by omega)]
        simp [hl']
      have he : (⟨(l' ++ [c]).toArray⟩ : ByteArray).extract 0 n = ⟨l'.toArray⟩ := by
        rw [ext_mk]; simp [← hl']
      simp only [abutmentref01_Trim.l1]
      rw [hsz, hw, if_pos (by omega), if_pos (by omega), if_pos (by omega), hb, bl_ite, dropE_snoc]
      cases bl c
      · simp
      · simp only [if_true, Int.toNat_natCast]
        rw [if_pos (by omega), he]
        exact ih l' k hl' (by omega) (by omega)
theorem reftrim_l0 : ∀ (l : List UInt8) (k : Nat), l.length ≤ 140737488351232 → 2 * l.length + 2 < k → abutmentref01_Trim.l0 k ⟨l.toArray⟩ = some ⟨(trimL l).toArray⟩ := by
  intro l
  induction l with
  | nil =>
    intro k _ hk
    obtain ⟨k, rfl⟩ : ∃ m, k = m + 2 := ⟨k - 2, by omega⟩
    simp only [abutmentref01_Trim.l0]
    rw [if_neg (by rw [size_mk]; simp)]
    simp only [abutmentref01_Trim.j1]
    rw [reftrim_l1 0 [] k rfl (by omega) (by simp at hk; omega)]
    rfl
  | cons c l ih =>
    intro k hn hk
    obtain ⟨k, rfl⟩ : ∃ m, k = m + 1 := ⟨k - 1, by omega⟩
    simp only [List.length_cons] at hn hk
    have hsz : ((⟨(c :: l).toArray⟩ : ByteArray).size : Int) = ((l.length + 1 : Nat) : Int) := by rw [size_mk]; simp
    have hb : bt ⟨(c :: l).toArray⟩ 0 = (c.toNat : Int) := bt_mk (c :: l) 0 (by simp)
    have he : (⟨(c :: l).toArray⟩ : ByteArray).extract 1 (⟨(c :: l).toArray⟩ : ByteArray).size = ⟨l.toArray⟩ := by
      rw [ext_mk, size_mk]; simp
    simp only [abutmentref01_Trim.l0]
    rw [hsz, if_pos (by omega), if_pos (by omega), hb, bl_ite, he]
    unfold trimL
    rw [List.dropWhile_cons]
    cases bl c
    · simp only [Bool.false_eq_true, if_false]
      obtain ⟨k, rfl⟩ : ∃ m, k = m + 1 := ⟨k - 1, by omega⟩
      simp only [abutmentref01_Trim.j1]
      exact reftrim_l1 (l.length + 1) (c :: l) k rfl (by omega) (by omega)
    · simp only [if_true]
      rw [if_pos (by omega)]
      exact ih k (by omega) (by omega)
theorem ref_trim (s : ByteArray) (hs : s.size ≤ 140737488351232) (k : Nat) (hk : 2 * s.size + 2 < k) : abutmentref01_Trim.f k s = some (trimB s) := by
  rw [size_list] at hs hk
  have := reftrim_l0 s.data.toList k hs hk
  rw [mk_eta] at this
  exact this


end Go.Proofs.Ytkjkbenmoogdjaa.X
namespace Go.Proofs.Ytkjkbenmoogdjaa.X
open Go.RowKit Go.Proofs.YtkjkbenmoogdjaaW.PrintWords Go.Proofs.YtkjkbenmoogdjaaW.PrintLast Go.Proofs.YtkjkbenmoogdjaaW.PrintMore
attribute [local go_sem] max2_int min2_int max_two min_two max_three min_three max_four min_four   -- for this text's walks alone
set_option linter.unusedVariables false
set_option linter.unusedSimpArgs false

/-! ### abutmentref01_Same: function 21 -/
def abutmentref01_Same.l0 : Nat → List ByteArray → List ByteArray → Int → Option (Bool)
  | 0, _, _, _ => none
  | k + 1, x0, x1, x5 => if x5 < (x0.length : Int) then (if 0 ≤ x5 then (if x5 < (x1.length : Int) then (if (rdOf ByteArray.empty x0 x5).toList = (rdOf ByteArray.empty x1 x5).toList then (abutmentref01_Same.l0 k x0 x1 (wrap64 (x5 + 1))) else (some false)) else (none)) else (none)) else (some true)
def abutmentref01_Same.f (k : Nat) (l0 : List ByteArray) (l1 : List ByteArray) : Option (Bool) := if (l0.length : Int) = (l1.length : Int) then (abutmentref01_Same.l0 k l0 l1 0) else (some false)
theorem abutmentref01_Same.mono_l : ∀ k, (∀ y0 y1 y2, LeO (abutmentref01_Same.l0 k y0 y1 y2) (abutmentref01_Same.l0 (k + 1) y0 y1 y2))
  | 0 => fun _ _ _ r h => by simp [abutmentref01_Same.l0] at h
  | k + 1 => by
    have ih0 := abutmentref01_Same.mono_l k
    · intro y0 y1 y2
      unfold abutmentref01_Same.l0
      repeat' first
      | (with_reducible exact ih0 _ _ _)
      | (with_reducible exact LeO.refl _)
      | (with_reducible exact LeO.none _)
      | (with_reducible refine LeO.ite ?_ ?_)
      | (with_reducible refine LeO.bind ?_ (fun _ => ?_))
      | exact ih0 _ _ _
      | exact LeO.none _
      | refine LeO.ite ?_ ?_
      | refine LeO.bind ?_ (fun _ => ?_)
theorem abutmentref01_Same.mono : ∀ a0 a1 k, LeO (abutmentref01_Same.f k a0 a1) (abutmentref01_Same.f (k + 1) a0 a1) := by
  intro a0 a1 k
  have ih0 := abutmentref01_Same.mono_l k
  unfold abutmentref01_Same.f
  repeat' first
      | (with_reducible exact ih0 _ _ _)
      | (with_reducible exact LeO.refl _)
      | (with_reducible exact LeO.none _)
      | (with_reducible refine LeO.ite ?_ ?_)
      | (with_reducible refine LeO.bind ?_ (fun _ => ?_))
      | exact ih0 _ _ _
      | exact LeO.none _
      | refine LeO.ite ?_ ?_
      | refine LeO.bind ?_ (fun _ => ?_)
set_option maxHeartbeats 8000000 in
set_option maxRecDepth 100000 in
theorem abutmentref01_Same.calls (k : Nat) (A0 : Option Addr) (c0 : Nat) (l0 : List ByteArray) (A1 : Option Addr) (c1 : Nat) (l1 : List ByteArray) (r : Bool) (w : World) (hr0 : Kd.C Kd.string w A0 l0.length l0) (hc0 : l0.length ≤ c0) (hr1 : Kd.C Kd.string w A1 l1.length l1) (hc1 : l1.length ≤ c1) (h : abutmentref01_Same.f k l0 l1 = some r) :
    Calls Try.prog 21 #[.slice A0 l0.length c0, .slice A1 l1.length c1] w fun e w' => e = .returned (.bool r) ∧ Drawn0 w w' := by
  have HR0 := Aside0.mk hr0
  have HC0 := Aside0.mk hc0
  clear hr0 hc0
  have HR1 := Aside0.mk hr1
  have HC1 := Aside0.mk hc1
  clear hr1 hc1
  have H : (if (l0.length : Int) = (l1.length : Int) then (abutmentref01_Same.l0 k l0 l1 0) else (some false)) = some r := h
  clear h
  by_cases c3 : (l0.length : Int) = (l1.length : Int)
  · rw [if_pos c3] at H
    have c3b0 : ((l0.length : Int) == (l1.length : Int)) = true := beq_iff_eq.mpr c3
    have c3b1 : ((l0.length : Int) != (l1.length : Int)) = false := bne_eq_false_iff_eq.mpr c3
    have c3b2 : (l0.length == l1.length) = true := by first | simpa using c3 | (simp at c3 ⊢; omega)
    clear c3
    have H' := Aside0.mk H
    clear H
    go_enter Try.func21, Try.ntmps21
    go_wp2
    repeat (go_quiet (fail); try go_wp2)
    go_loopg [5] k (fun kq v5 w' => ∃ (x5_1 : Int), v5 = .int .i64 x5_1 ∧ Aside0 (abutmentref01_Same.l0 kq l0 l1 x5_1 = some r) ∧ Aside0 (kq ≤ k) ∧ Drawn0 w w')
    case atStart => exact ⟨(0), (by first | rfl | (simp; done) | (simp [*]; done)), H', ⟨Nat.le_refl _⟩, by repeat (first | exact Drawn0.refl _ | apply Drawn0.step)⟩
    case round =>
      clear H'
      try clear c1
      try clear c2
      try clear p2
      try clear c3
      try clear c3b0
      try clear c3b1
      try clear c3b2
      obtain ⟨x5_1, rfl, HA, HK1, ⟨m1, rfl⟩⟩ := hrel
      cases gk with
      | zero => exact absurd HA.out (by simp [abutmentref01_Same.l0])
      | succ k1 =>
        have H := HA.out
        clear HA
        simp only [abutmentref01_Same.l0] at H
        by_cases c4 : x5_1 < (l0.length : Int)
        · rw [if_pos c4] at H
          have c4b0 : decide (x5_1 < (l0.length : Int)) = true := decide_eq_true c4
          clear c4
          by_cases c5 : 0 ≤ x5_1
          · rw [if_pos c5] at H
            have c5b0 : decide (0 ≤ x5_1) = true := decide_eq_true c5
            clear c5
            by_cases c6 : x5_1 < (l1.length : Int)
            · rw [if_pos c6] at H
              have c6b0 : decide (x5_1 < (l1.length : Int)) = true := decide_eq_true c6
              clear c6
              by_cases c7 : (rdOf ByteArray.empty l0 x5_1).toList = (rdOf ByteArray.empty l1 x5_1).toList
              · rw [if_pos c7] at H
                have c7b0 : ((rdOf ByteArray.empty l0 x5_1).toList == (rdOf ByteArray.empty l1 x5_1).toList) = true := beq_iff_eq.mpr c7
                have c7b1 : ((rdOf ByteArray.empty l0 x5_1).toList != (rdOf ByteArray.empty l1 x5_1).toList) = false := bne_eq_false_iff_eq.mpr c7
                clear c7
                have H' := Aside0.mk H
                clear H
                have p101 : 0 ≤ (x5_1 : Int) := of_decide_eq_true (by first | (with_reducible assumption) | assumption)
                have q101 : x5_1 < (l0.length : Int) := of_decide_eq_true (by first | (with_reducible assumption) | assumption)
                obtain ⟨ad101, e101, hx101_0⟩ := Kd.at_string HR0.out x5_1 p101 q101
                cases e101
                replace p101 := eq_true p101
                replace q101 := eq_true q101
                have p102 : 0 ≤ (x5_1 : Int) := of_decide_eq_true (by first | (with_reducible assumption) | assumption)
                have q102 : x5_1 < (l1.length : Int) := of_decide_eq_true (by first | (with_reducible assumption) | assumption)
                obtain ⟨ad102, e102, hx102_0⟩ := Kd.at_string HR1.out x5_1 p102 q102
                cases e102
                replace p102 := eq_true p102
                replace q102 := eq_true q102
                go_wp2
                repeat (go_quiet (fail); try go_wp2)
                go_roundg k1
                case measure => have := HK1.out; omega
                case rel => exact ⟨(wrap64 (x5_1 + 1)), (by first | rfl | (simp; done) | (simp [*]; done)), H', ⟨by have := HK1.out; omega⟩, by repeat (first | exact Drawn0.refl _ | apply Drawn0.step)⟩
              · rw [if_neg c7] at H
                have c7b0 : ((rdOf ByteArray.empty l0 x5_1).toList == (rdOf ByteArray.empty l1 x5_1).toList) = false := beq_eq_false_iff_ne.mpr c7
                have c7b1 : ((rdOf ByteArray.empty l0 x5_1).toList != (rdOf ByteArray.empty l1 x5_1).toList) = true := bne_iff_ne.mpr c7
                obtain rfl := Option.some.inj H
                have p101 : 0 ≤ (x5_1 : Int) := of_decide_eq_true (by first | (with_reducible assumption) | assumption)
                have q101 : x5_1 < (l0.length : Int) := of_decide_eq_true (by first | (with_reducible assumption) | assumption)
                obtain ⟨ad101, e101, hx101_0⟩ := Kd.at_string HR0.out x5_1 p101 q101
                cases e101
                replace p101 := eq_true p101
                replace q101 := eq_true q101
                have p102 : 0 ≤ (x5_1 : Int) := of_decide_eq_true (by first | (with_reducible assumption) | assumption)
                have q102 : x5_1 < (l1.length : Int) := of_decide_eq_true (by first | (with_reducible assumption) | assumption)
                obtain ⟨ad102, e102, hx102_0⟩ := Kd.at_string HR1.out x5_1 p102 q102
                cases e102
                replace p102 := eq_true p102
                replace q102 := eq_true q102
                go_wp2
                repeat (go_quiet (fail); try go_wp2)
                go_ret
                exact ⟨by first | rfl | (simp; done) | (simp [*]; done), by repeat (first | exact Drawn0.refl _ | apply Drawn0.step)⟩
            · rw [if_neg c6] at H
              exact absurd H (by simp)
          · rw [if_neg c5] at H
            exact absurd H (by simp)
        · rw [if_neg c4] at H
          have c4b0 : decide (x5_1 < (l0.length : Int)) = false := decide_eq_false c4
          clear c4
          obtain rfl := Option.some.inj H
          go_wp2
          repeat (go_quiet (fail); try go_wp2)
          go_ret
          exact ⟨by first | rfl | (simp; done) | (simp [*]; done), by repeat (first | exact Drawn0.refl _ | apply Drawn0.step)⟩
  · rw [if_neg c3] at H
    have c3b0 : ((l0.length : Int) == (l1.length : Int)) = false := beq_eq_false_iff_ne.mpr c3
    have c3b1 : ((l0.length : Int) != (l1.length : Int)) = true := bne_iff_ne.mpr c3
    have c3b2 : (l0.length == l1.length) = false := by first | simpa using c3 | (simp at c3 ⊢; omega)
    obtain rfl := Option.some.inj H
    go_enter Try.func21, Try.ntmps21
    go_wp2
    repeat (go_quiet (fail); try go_wp2)
    go_ret
    exact ⟨by first | rfl | (simp; done) | (simp [*]; done), by repeat (first | exact Drawn0.refl _ | apply Drawn0.step)⟩

end Go.Proofs.Ytkjkbenmoogdjaa.X
namespace Go.Proofs.Ytkjkbenmoogdjaa.X
open Go.RowKit Go.Proofs.YtkjkbenmoogdjaaW.PrintWords Go.Proofs.YtkjkbenmoogdjaaW.PrintLast Go.Proofs.YtkjkbenmoogdjaaW.PrintMore
attribute [local go_sem] max2_int min2_int max_two min_two max_three min_three max_four min_four   -- for this text's walks alone
set_option linter.unusedVariables false
set_option linter.unusedSimpArgs false

/-! ### pure text 12: refSame -/
theorem toList_inj (a b : ByteArray) : a.toList = b.toList ↔ a = b := by
  constructor
  · intro h
    rw [Lib.toList_data, Lib.toList_data] at h
    obtain ⟨⟨a⟩⟩ := a
    obtain ⟨⟨b⟩⟩ := b
    simp at h
    rw [h]
  · intro h; rw [h]
theorem rd_nat (l : List ByteArray) (i : Nat) (h : i < l.length) : rdOf ByteArray.empty l (i : Int) = l[i]'h := by
  unfold rdOf
  simp [List.getElem?_eq_getElem h]
theorem same_l0 (x y : List ByteArray) (hl : x.length = y.length) (hs : x.length ≤ 1000000000) : ∀ (d i k : Nat), x.length - i = d → i ≤ x.length → d < k →
    abutmentref01_Same.l0 k x y (i : Int) = some (decide (x.drop i = y.drop i)) := by
  intro d
  induction d with
  | zero =>
    intro i k hd hi hk
    obtain ⟨k, rfl⟩ : ∃ m, k = m + 1 := ⟨k - 1, by omega⟩
    simp only [abutmentref01_Same.l0]
    rw [if_neg (by omega), List.drop_eq_nil_iff.2 (by omega), List.drop_eq_nil_iff.2 (by omega)]
    rfl
  | succ d ih =>
    intro i k hd hi hk
    obtain ⟨k, rfl⟩ : ∃ m, k = m + 1 := ⟨k - 1, by omega⟩
    have hlx : i < x.length := by omega
    have hly : i < y.length := by omega
    have hw : wrap64 ((i : Int) + 1) = ((i + 1 : Nat) : Int) := by rw [wrap_id _ (by omega) (by omega)]; omega
    simp only [abutmentref01_Same.l0]
    rw [if_pos (by omega), if_pos (by omega), if_pos (by omega), rd_nat x i hlx, rd_nat y i hly, hw, List.drop_eq_getElem_cons hlx, List.drop_eq_getElem_cons hly, ih (i + 1) k (by omega) (by omega) (by omega)]
    generalize x.drop (i + 1) = X
    generalize y.drop (i + 1) = Y
    generalize x[i]'hlx = p
    generalize y[i]'hly = q
    by_cases he : p = q
    · rw [if_pos (by rw [he]), he]
      simp
    · rw [if_neg (fun h => he ((toList_inj _ _).1 h))]
      simp [he]
theorem ref_same (x y : List ByteArray) (hs : x.length ≤ 1000000000) (k : Nat) (hk : x.length < k) : abutmentref01_Same.f k x y = some (decide (x = y)) := by
  unfold abutmentref01_Same.f
  by_cases h : (x.length : Int) = (y.length : Int)
  · rw [if_pos h]
    have := same_l0 x y (by omega) hs x.length 0 k (by omega) (by omega) hk
    simpa using this
  · rw [if_neg h]
    have : ¬ x = y := fun e => h (by rw [e])
    simp [this]


end Go.Proofs.Ytkjkbenmoogdjaa.X
namespace Go.Proofs.Ytkjkbenmoogdjaa.X
open Go.RowKit Go.Proofs.YtkjkbenmoogdjaaW.PrintWords Go.Proofs.YtkjkbenmoogdjaaW.PrintLast Go.Proofs.YtkjkbenmoogdjaaW.PrintMore
attribute [local go_sem] max2_int min2_int max_two min_two max_three min_three max_four min_four   -- for this text's walks alone
set_option linter.unusedVariables false
set_option linter.unusedSimpArgs false

/-! ### pure text 24: field -/
/-- P9.1. -/
def fieldParse (s : ByteArray) : ByteArray × ByteArray × Int :=
  if (cutAt s 58).2.2 = true then (if octetToken (cutAt s 58).1 = true then (if octetValue (cutAt s 58).2.1 = true then ((cutAt s 58).1, trimB (cutAt s 58).2.1, 0) else (⟨#[]⟩, ⟨#[]⟩, 7)) else (⟨#[]⟩, ⟨#[]⟩, 6)) else (⟨#[]⟩, ⟨#[]⟩, 3)
def fieldRight (a b : ByteArray) : Bool := octetToken a && (octetValue b && (trimB b).toList == b.toList)
theorem cut_colon (s : ByteArray) (hs : s.size ≤ 140737488351232) : strings_Cut.f s (⟨#[58]⟩ : ByteArray) = some (cutAt s 58) := by
  unfold strings_Cut.f stringslite_Cut.f
  rw [if_pos ⟨rfl, hs⟩]
  rfl
theorem cutAt_size (s : ByteArray) (c : UInt8) : (cutAt s c).1.size ≤ s.size ∧ (cutAt s c).2.1.size ≤ s.size := by
  unfold cutAt
  split
  · simp only [ByteArray.size_extract]
    omega
  · exact ⟨Nat.le_refl _, Nat.zero_le _⟩
theorem field_parse (s : ByteArray) (hs : s.size ≤ 140737488351232) (k : Nat) (hk : 2 * s.size + 2 < k) : field_Parse.f k s = some (fieldParse s) := by
  have hsz := cutAt_size s 58
  unfold field_Parse.f fieldParse
  rw [cut_colon s hs]
  simp only [Option.bind_some]
  by_cases h1 : (cutAt s 58).2.2 = true
  · rw [if_pos h1, if_pos h1, show octet_Token.f (cutAt s 58).1 = some (octetToken (cutAt s 58).1) from rfl]
    simp only [Option.bind_some]
    by_cases h2 : octetToken (cutAt s 58).1 = true
    · rw [if_pos h2, if_pos h2, show octet_Value.f (cutAt s 58).2.1 = some (octetValue (cutAt s 58).2.1) from rfl]
      simp only [Option.bind_some]
      by_cases h3 : octetValue (cutAt s 58).2.1 = true
      · rw [if_pos h3, if_pos h3, octet_trim _ (by omega) k (by omega)]
        rfl
      · rw [if_neg h3, if_neg h3]
    · rw [if_neg h2, if_neg h2]
  · rw [if_neg h1, if_neg h1]
theorem idx_at (l : List UInt8) (c : UInt8) (i : Nat) (h1 : ∀ j, j < i → l[j]? ≠ some c) (h2 : l[i]? = some c) : Lib.indexByte l c = i := by
  have hge := Lib.indexByte_ge l c
  by_cases h : Lib.indexByte l c = -1
  · exact absurd h2 (Lib.indexByte_none h i)
  · obtain ⟨n, hn⟩ := Int.eq_ofNat_of_zero_le (a := Lib.indexByte l c) (by omega)
    obtain ⟨h3, h4⟩ := Lib.indexByte_some hn
    rw [hn]
    have e1 : ¬ n < i := fun hlt => h1 n hlt h3
    have e2 : ¬ i < n := fun hlt => h4 i hlt h2
    omega
theorem idx_no (l : List UInt8) (c : UInt8) (h1 : ∀ j, j < l.length → l[j]? ≠ some c) : Lib.indexByte l c = -1 := by
  have hge := Lib.indexByte_ge l c
  by_cases h : Lib.indexByte l c = -1
  · exact h
  · obtain ⟨n, hn⟩ := Int.eq_ofNat_of_zero_le (a := Lib.indexByte l c) (by omega)
    obtain ⟨h3, _⟩ := Lib.indexByte_some hn
    exact absurd h3 (h1 n (List.getElem?_eq_some_iff.1 h3).1)
theorem refparse_j1 (s : ByteArray) (hs : s.size ≤ 140737488351232) (i k : Nat) (hi : i ≤ s.size) (h1 : ∀ j, j < i → s.data.toList[j]? ≠ some 58) (h2 : i < s.size → s.data.toList[i]? = some 58) (hk : 2 * s.size + 4 < k) :
    abutmentref09_Parse.j1 k s (i : Int) = some (fieldParse s) := by
  obtain ⟨k, rfl⟩ : ∃ m, k = m + 1 := ⟨k - 1, by omega⟩
  simp only [abutmentref09_Parse.j1]
  unfold fieldParse
  by_cases he : i = s.size
  · rw [if_pos (by omega)]
    have hx : Lib.indexByte s.data.toList 58 = -1 := idx_no _ _ (fun j hj => h1 j (by rw [size_list] at he; omega))
    have : (cutAt s 58).2.2 = false := by unfold cutAt; rw [hx]; rfl
    rw [this]
    rfl
  · rw [if_neg (by omega), if_pos (by omega), if_pos (by omega)]
    have hx : Lib.indexByte s.data.toList 58 = (i : Int) := idx_at _ _ i h1 (h2 (by omega))
    have hc : cutAt s 58 = (s.extract 0 i, s.extract (i + 1) s.size, true) := by
      unfold cutAt
      rw [hx, if_pos (by omega)]
      rfl
    have hw : wrap64 ((i : Int) + 1) = ((i + 1 : Nat) : Int) := by rw [wrap_id _ (by omega) (by omega)]; omega
    rw [hc, hw]
    simp only [Int.toNat_natCast]
    have z1 : (s.extract 0 i).size ≤ s.size := by rw [ByteArray.size_extract]; omega
    have z2 : (s.extract (i + 1) s.size).size ≤ s.size := by rw [ByteArray.size_extract]; omega
    rw [ref_token _ (by omega) k (by omega)]
    simp only [Option.bind_some, if_true]
    by_cases h3 : octetToken (s.extract 0 i) = true
    · rw [if_pos h3, if_pos h3, if_pos (by omega), if_pos (by omega), ref_value _ (by omega) k (by omega)]
      simp only [Option.bind_some]
      by_cases h4 : octetValue (s.extract (i + 1) s.size) = true
      · rw [if_pos h4, if_pos h4, ref_trim _ (by omega) k (by omega)]
        rfl
      · rw [if_neg h4, if_neg h4]
    · rw [if_neg h3, if_neg h3]
theorem refparse_l0 (s : ByteArray) (hs : s.size ≤ 140737488351232) : ∀ (d i k : Nat), s.size - i = d → i ≤ s.size → (∀ j, j < i → s.data.toList[j]? ≠ some 58) → d + 2 * s.size + 5 < k →
    abutmentref09_Parse.l0 k s (i : Int) = some (fieldParse s) := by
  intro d
  induction d with
  | zero =>
    intro i k hd hi h1 hk
    obtain ⟨k, rfl⟩ : ∃ m, k = m + 1 := ⟨k - 1, by omega⟩
    simp only [abutmentref09_Parse.l0]
    rw [if_neg (by omega)]
    exact refparse_j1 s hs i k hi h1 (fun h => by omega) (by omega)
  | succ d ih =>
    intro i k hd hi h1 hk
    obtain ⟨k, rfl⟩ : ∃ m, k = m + 1 := ⟨k - 1, by omega⟩
    have hl : i < s.data.toList.length := by rw [← size_list]; omega
    have hw : wrap64 ((i : Int) + 1) = ((i + 1 : Nat) : Int) := by rw [wrap_id _ (by omega) (by omega)]; omega
    have h58 : ((s.data.toList[i]'hl).toNat : Int) = 58 ↔ s.data.toList[i]'hl = 58 := u8_eq _ 58
    simp only [abutmentref09_Parse.l0]
    rw [if_pos (by omega), if_pos (by omega), bt_list s i hl]
    by_cases hc : s.data.toList[i]'hl = 58
    · rw [if_pos (h58.2 hc)]
      exact refparse_j1 s hs i k hi h1 (fun _ => by rw [List.getElem?_eq_getElem hl, hc]) (by omega)
    · rw [if_neg (fun h => hc (h58.1 h)), hw]
      refine ih (i + 1) k (by omega) (by omega) (fun j hj => ?_) (by omega)
      by_cases e : j = i
      · subst e
        rw [List.getElem?_eq_getElem hl]
        intro h
        exact hc (Option.some.inj h)
      · exact h1 j (by omega)
theorem ref_parse (s : ByteArray) (hs : s.size ≤ 140737488351232) (k : Nat) (hk : 3 * s.size + 5 < k) : abutmentref09_Parse.f k s = some (fieldParse s) :=
  refparse_l0 s hs s.size 0 k (by omega) (by omega) (fun j hj => by omega) (by omega)
theorem field_line (a b : ByteArray) (ha : a.size ≤ 140737488351232) (hb : b.size ≤ 140737488351232) : field_Line.f a b = some (refLine a b) := by
  unfold field_Line.f refLine
  by_cases h : b.toList = []
  · rw [if_pos h, if_pos h, if_pos (by omega)]
  · rw [if_neg h, if_neg h, if_pos (by omega), if_pos (by rw [ByteArray.size_append, show (⟨#[58, 32]⟩ : ByteArray).size = 2 from rfl]; omega)]
    congr 2
    apply (toList_inj _ _).1
    rw [Lib.toList_data, Lib.toList_data]
    simp
theorem ref_line (a b : ByteArray) (ha : a.size ≤ 140737488351232) (hb : b.size ≤ 140737488351232) : abutmentref09_Line.f a b = some (refLine a b) := by
  unfold abutmentref09_Line.f
  rw [if_pos ⟨ha, hb⟩]
theorem field_right (a b : ByteArray) (ha : a.size ≤ 140737488351232) (hb : b.size ≤ 140737488351232) (k : Nat) (hk : 2 * b.size + 2 < k) : field_Right.f k a b = some (fieldRight a b) := by
  unfold field_Right.f fieldRight
  rw [show octet_Token.f a = some (octetToken a) from rfl]
  simp only [Option.bind_some]
  cases octetToken a
  · rfl
  · rw [if_pos rfl, show octet_Value.f b = some (octetValue b) from rfl]
    simp only [Option.bind_some]
    cases octetValue b
    · rfl
    · rw [if_pos rfl, octet_trim b hb k hk]
      rfl
theorem ref_right (a b : ByteArray) (ha : a.size ≤ 140737488351232) (hb : b.size ≤ 140737488351232) (k : Nat) (hk : 2 * b.size + 2 < k) (hk2 : a.size < k) : abutmentref09_Right.f k a b = some (fieldRight a b) := by
  unfold abutmentref09_Right.f fieldRight
  rw [ref_token a ha k hk2]
  simp only [Option.bind_some]
  cases octetToken a
  · rfl
  · rw [if_pos rfl, ref_value b hb k (by omega)]
    simp only [Option.bind_some]
    cases octetValue b
    · rfl
    · rw [if_pos rfl, ref_trim b hb k hk]
      rfl
theorem field_lives (k : Nat) (hk : 100 < k) : abutmentlaw09_lives.f k = some true := by
  unfold abutmentlaw09_lives.f
  rw [field_parse _ (by decide) k (by show 2 * 9 + 2 < k; omega)]
  simp only [Option.bind_some]
  rw [field_parse _ (by decide) k (by show 2 * 8 + 2 < k; omega)]
  simp only [Option.bind_some]
  rw [show fieldParse (⟨#[72, 111, 115, 116, 58, 32, 32, 97, 32]⟩ : ByteArray) = (⟨#[72, 111, 115, 116]⟩, ⟨#[97]⟩, 0) from by kernel_rfl, show fieldParse (⟨#[72, 111, 115, 116, 32, 58, 32, 97]⟩ : ByteArray) = (⟨#[]⟩, ⟨#[]⟩, 6) from by kernel_rfl]
  simp only
  rw [field_line _ _ (by decide) (by decide)]
  simp only [Option.bind_some]
  rw [field_line _ _ (by decide) (by decide), show refLine (⟨#[72, 111, 115, 116]⟩ : ByteArray) (⟨#[97]⟩ : ByteArray) = ⟨#[72, 111, 115, 116, 58, 32, 97]⟩ from by kernel_rfl, show refLine (⟨#[65]⟩ : ByteArray) (⟨#[]⟩ : ByteArray) = ⟨#[65, 58]⟩ from by kernel_rfl]
  simp only [Lib.toList_data, Option.bind_some]
  rfl


end Go.Proofs.Ytkjkbenmoogdjaa.X
