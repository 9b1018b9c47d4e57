/- Part 3 of the texts behind the claim on ConfigRight: contracts of the functions that it reaches, and plain laws about them. No conditions of its own. -/
import Derived.Test.YtdjmgmiaognncaaCConfigRight1
import Derived.Test.YtdjmgmiaognncaaCConfigRight2
import Derived.Handy
import Derived.RangeFuncRecord
import Derived.ChangeSame
import Derived.Deep.Slices
import Derived.SizedLaws
import Derived.SliceStrings
import Derived.Lib.OthersKept
namespace Go.Proofs.Ytdjmgmiaognncaa.X
open Go.RowKit Go.Proofs.YtdjmgmiaognncaaW.PrintWords Go.Proofs.YtdjmgmiaognncaaW.PrintLast Go.Proofs.YtdjmgmiaognncaaW.PrintMore
attribute [local go_sem] max2_int min2_int max_two min_two max_three min_three max_four min_four   -- for this text's walks alone
set_option linter.unusedVariables false
set_option linter.unusedSimpArgs false

/-! ### abutmentref02_Number: function 65 -/
mutual
def abutmentref02_Number.l0 : Nat → ByteArray → Int → Int → Int → Option (Int × Int)
  | 0, _, _, _, _ => none
  | k + 1, x0, x1, x2, x8 => if x8 < (x0.size : Int) then (if 0 ≤ x8 then ((abutmentref02_Value.f k (bt x0 x8)).bind fun t101 => (if t101 ≥ x1 then (some (0, 3)) else (abutmentref02_Number.l0 k x0 x1 x2 (wrap64 (x8 + 1))))) else (none)) else (abutmentref02_Number.l1 k x0 x1 x2)
def abutmentref02_Number.j2 : Nat → ByteArray → Int → Int → Option (Int × Int)
  | 0, _, _, _ => none
  | k + 1, x0, x1, x2 => if (x0.size : Int) > 19 then (some (0, 5)) else (abutmentref02_Number.l2 k x0 x1 x2 0 0)
def abutmentref02_Number.l2 : Nat → ByteArray → Int → Int → Int → Int → Option (Int × Int)
  | 0, _, _, _, _, _ => none
  | k + 1, x0, x1, x2, x9, x10 => if x10 < (x0.size : Int) then (if x9 > 1152921504606846975 then (some (0, 5)) else (if 0 ≤ x10 then ((abutmentref02_Value.f k (bt x0 x10)).bind fun t102 => (abutmentref02_Number.l2 k x0 x1 x2 (IntKind.u64.wrap ((IntKind.u64.wrap (x9 * (IntKind.u64.wrap (x1)))) + (IntKind.u64.wrap (t102)))) (wrap64 (x10 + 1)))) else (none))) else (if x2 < 0 then (some (0, 5)) else (if x9 > (IntKind.u64.wrap (x2)) then (some (0, 5)) else (some (wrap64 (x9), 0))))
def abutmentref02_Number.l1 : Nat → ByteArray → Int → Int → Option (Int × Int)
  | 0, _, _, _ => none
  | k + 1, x0, x1, x2 => if (x0.size : Int) > 1 then (if 0 < (x0.size : Int) then (if (bt x0 0) = 48 then (if 1 ≤ (x0.size : Int) then (abutmentref02_Number.l1 k (x0.extract 1 x0.size) x1 x2) else (none)) else (abutmentref02_Number.j2 k x0 x1 x2)) else (none)) else (abutmentref02_Number.j2 k x0 x1 x2)
end
def abutmentref02_Number.f (k : Nat) (a0 : ByteArray) (a1 : Int) (a2 : Int) : Option (Int × Int) := if (a0.size : Int) = 0 then (some (0, 2)) else (abutmentref02_Number.l0 k a0 a1 a2 0)
theorem abutmentref02_Number.mono_l : ∀ k, (∀ y0 y1 y2 y3, LeO (abutmentref02_Number.l0 k y0 y1 y2 y3) (abutmentref02_Number.l0 (k + 1) y0 y1 y2 y3)) ∧ (∀ y0 y1 y2, LeO (abutmentref02_Number.j2 k y0 y1 y2) (abutmentref02_Number.j2 (k + 1) y0 y1 y2)) ∧ (∀ y0 y1 y2 y3 y4, LeO (abutmentref02_Number.l2 k y0 y1 y2 y3 y4) (abutmentref02_Number.l2 (k + 1) y0 y1 y2 y3 y4)) ∧ (∀ y0 y1 y2, LeO (abutmentref02_Number.l1 k y0 y1 y2) (abutmentref02_Number.l1 (k + 1) y0 y1 y2))
  | 0 => ⟨fun _ _ _ _ r h => by simp [abutmentref02_Number.l0] at h, fun _ _ _ r h => by simp [abutmentref02_Number.j2] at h, fun _ _ _ _ _ r h => by simp [abutmentref02_Number.l2] at h, fun _ _ _ r h => by simp [abutmentref02_Number.l1] at h⟩
  | k + 1 => by
    obtain ⟨ih0, ih1, ih2, ih3⟩ := abutmentref02_Number.mono_l k
    refine ⟨?_, ?_, ?_, ?_⟩
    · intro y0 y1 y2 y3
      unfold abutmentref02_Number.l0
      repeat' first
      | (with_reducible exact ih0 _ _ _ _)
      | (with_reducible exact ih1 _ _ _)
      | (with_reducible exact ih2 _ _ _ _ _)
      | (with_reducible exact ih3 _ _ _)
      | (with_reducible exact abutmentref02_Value.mono _ _)
      | (with_reducible exact LeO.refl _)
      | (with_reducible exact LeO.none _)
      | (with_reducible refine LeO.ite ?_ ?_)
      | (with_reducible refine LeO.bind ?_ (fun _ => ?_))
      | exact ih0 _ _ _ _
      | exact ih1 _ _ _
      | exact ih2 _ _ _ _ _
      | exact ih3 _ _ _
      | exact abutmentref02_Value.mono _ _
      | exact LeO.none _
      | refine LeO.ite ?_ ?_
      | refine LeO.bind ?_ (fun _ => ?_)
    · intro y0 y1 y2
      unfold abutmentref02_Number.j2
      repeat' first
      | (with_reducible exact ih0 _ _ _ _)
      | (with_reducible exact ih1 _ _ _)
      | (with_reducible exact ih2 _ _ _ _ _)
      | (with_reducible exact ih3 _ _ _)
      | (with_reducible exact abutmentref02_Value.mono _ _)
      | (with_reducible exact LeO.refl _)
      | (with_reducible exact LeO.none _)
      | (with_reducible refine LeO.ite ?_ ?_)
      | (with_reducible refine LeO.bind ?_ (fun _ => ?_))
      | exact ih0 _ _ _ _
      | exact ih1 _ _ _
      | exact ih2 _ _ _ _ _
      | exact ih3 _ _ _
      | exact abutmentref02_Value.mono _ _
      | exact LeO.none _
      | refine LeO.ite ?_ ?_
      | refine LeO.bind ?_ (fun _ => ?_)
    · intro y0 y1 y2 y3 y4
      unfold abutmentref02_Number.l2
      repeat' first
      | (with_reducible exact ih0 _ _ _ _)
      | (with_reducible exact ih1 _ _ _)
      | (with_reducible exact ih2 _ _ _ _ _)
      | (with_reducible exact ih3 _ _ _)
      | (with_reducible exact abutmentref02_Value.mono _ _)
      | (with_reducible exact LeO.refl _)
      | (with_reducible exact LeO.none _)
      | (with_reducible refine LeO.ite ?_ ?_)
      | (with_reducible refine LeO.bind ?_ (fun _ => ?_))
      | exact ih0 _ _ _ _
      | exact ih1 _ _ _
      | exact ih2 _ _ _ _ _
      | exact ih3 _ _ _
      | exact abutmentref02_Value.mono _ _
      | exact LeO.none _
      | refine LeO.ite ?_ ?_
      | refine LeO.bind ?_ (fun _ => ?_)
    · intro y0 y1 y2
      unfold abutmentref02_Number.l1
      repeat' first
      | (with_reducible exact ih0 _ _ _ _)
      | (with_reducible exact ih1 _ _ _)
      | (with_reducible exact ih2 _ _ _ _ _)
      | (with_reducible exact ih3 _ _ _)
      | (with_reducible exact abutmentref02_Value.mono _ _)
      | (with_reducible exact LeO.refl _)
      | (with_reducible exact LeO.none _)
      | (with_reducible refine LeO.ite ?_ ?_)
      | (with_reducible refine LeO.bind ?_ (fun _ => ?_))
      | exact ih0 _ _ _ _
      | exact ih1 _ _ _
      | exact ih2 _ _ _ _ _
      | exact ih3 _ _ _
      | exact abutmentref02_Value.mono _ _
      | exact LeO.none _
      | refine LeO.ite ?_ ?_
      | refine LeO.bind ?_ (fun _ => ?_)
theorem abutmentref02_Number.mono : ∀ a0 a1 a2 k, LeO (abutmentref02_Number.f k a0 a1 a2) (abutmentref02_Number.f (k + 1) a0 a1 a2) := by
  intro a0 a1 a2 k
  obtain ⟨ih0, ih1, ih2, ih3⟩ := abutmentref02_Number.mono_l k
  unfold abutmentref02_Number.f
  repeat' first
      | (with_reducible exact ih0 _ _ _ _)
      | (with_reducible exact ih1 _ _ _)
      | (with_reducible exact ih2 _ _ _ _ _)
      | (with_reducible exact ih3 _ _ _)
      | (with_reducible exact abutmentref02_Value.mono _ _)
      | (with_reducible exact LeO.refl _)
      | (with_reducible exact LeO.none _)
      | (with_reducible refine LeO.ite ?_ ?_)
      | (with_reducible refine LeO.bind ?_ (fun _ => ?_))
      | exact ih0 _ _ _ _
      | exact ih1 _ _ _
      | exact ih2 _ _ _ _ _
      | exact ih3 _ _ _
      | exact abutmentref02_Value.mono _ _
      | exact LeO.none _
      | refine LeO.ite ?_ ?_
      | refine LeO.bind ?_ (fun _ => ?_)
set_option maxHeartbeats 8000000 in
set_option maxRecDepth 100000 in
theorem abutmentref02_Number.calls (k : Nat) (a0 : ByteArray) (a1 : Int) (a2 : Int) (r1 : Int) (r2 : Int) (w : World) (h : abutmentref02_Number.f k a0 a1 a2 = some (r1, r2)) :
    Calls Try.prog 65 #[.string a0, .int .i64 a1, .int .i64 a2] w fun e w' => e = .returned (.tuple #[.int .i64 r1, .int .i64 r2]) ∧ Drawn0 w w' := by
  have H : (if (a0.size : Int) = 0 then (some (0, 2)) else (abutmentref02_Number.l0 k a0 a1 a2 0)) = some (r1, r2) := h
  clear h
  by_cases c4 : (a0.size : Int) = 0
  · rw [if_pos c4] at H
    have c4b0 : ((a0.size : Int) == 0) = true := beq_iff_eq.mpr c4
    have c4b1 : ((a0.size : Int) != 0) = false := bne_eq_false_iff_eq.mpr c4
    clear c4
    simp only [Option.some.injEq, Prod.mk.injEq] at H
    obtain ⟨rfl, rfl⟩ := H
    go_enter Try.func65, Try.ntmps65
    go_wp2
    go_ret2
    exact ⟨by first | rfl | (simp; done) | (simp [*]; done), by repeat (first | exact Drawn0.refl _ | apply Drawn0.step)⟩
  · rw [if_neg c4] at H
    have c4b0 : ((a0.size : Int) == 0) = false := beq_eq_false_iff_ne.mpr c4
    have c4b1 : ((a0.size : Int) != 0) = true := bne_iff_ne.mpr c4
    have H' := Aside0.mk H
    clear H
    go_enter Try.func65, Try.ntmps65
    go_wp2
    go_loopg [8] k (fun kq v8 w' => ∃ (x8_1 : Int), v8 = .int .i64 x8_1 ∧ Aside0 (abutmentref02_Number.l0 kq a0 a1 a2 x8_1 = some (r1, r2)) ∧ Aside0 (kq ≤ k) ∧ Drawn0 w w')
    case atStart => exact ⟨(0), (by first | rfl | (simp; done) | (simp [*]; done)), H', ⟨Nat.le_refl _⟩, by repeat (first | exact Drawn0.refl _ | apply Drawn0.step)⟩
    case round =>
      clear H'
      try clear p2
      try clear c4
      try clear c4b0
      try clear c4b1
      obtain ⟨x8_1, rfl, HA, HK1, ⟨m1, rfl⟩⟩ := hrel
      cases gk with
      | zero => exact absurd HA.out (by simp [abutmentref02_Number.l0])
      | succ k1 =>
        have H := HA.out
        clear HA
        simp only [abutmentref02_Number.l0] at H
        by_cases c5 : x8_1 < (a0.size : Int)
        · rw [if_pos c5] at H
          have c5b0 : decide (x8_1 < (a0.size : Int)) = true := decide_eq_true c5
          clear c5
          by_cases c6 : 0 ≤ x8_1
          · rw [if_pos c6] at H
            have c6b0 : decide (0 ≤ x8_1) = true := decide_eq_true c6
            clear c6
            replace H := Option.bind_eq_some_iff.mp H
            obtain ⟨t101, A80, H⟩ := H
            replace H : (if t101 ≥ a1 then (some (0, 3)) else (abutmentref02_Number.l0 k1 a0 a1 a2 (wrap64 (x8_1 + 1)))) = some (r1, r2) := H
            have A8 := Aside0.mk A80
            clear A80
            by_cases c9 : t101 ≥ a1
            · rw [if_pos c9] at H
              have c9b0 : decide (a1 ≤ t101) = true := decide_eq_true c9
              clear c9
              simp only [Option.some.injEq, Prod.mk.injEq] at H
              obtain ⟨rfl, rfl⟩ := H
              have p7 : 0 ≤ (x8_1 : Int) := of_decide_eq_true (by first | (with_reducible assumption) | assumption)
              have q7 : x8_1 < (a0.size : Int) := of_decide_eq_true (by first | (with_reducible assumption) | assumption)
              have hx7 := bt_at a0 x8_1
              replace p7 := eq_true p7
              replace q7 := eq_true q7
              go_wp2_with (first | ((with_reducible refine gate_callee (f := 87) rfl ?_); refine goesL_ (some 23) rfl rfl Try.func87 (by kernel_rfl) rfl #[.int .u8 (bt a0 x8_1)] rfl (by (try simp only [List.map_toArray, List.map_cons, List.map_nil]); first | done | rfl | (simp only [List.length_drop, List.length_take]; rfl)) ?_; (with_reducible refine (abutmentref02_Value.calls k1 (bt a0 x8_1) t101 _ A8.out).mono ?_); rintro e w' ⟨rfl, ⟨nd, rfl⟩⟩; refine ⟨_, rfl, ?_⟩))
              go_ret2
              exact ⟨by first | rfl | (simp; done) | (simp [*]; done), by repeat (first | exact Drawn0.refl _ | apply Drawn0.step)⟩
            · rw [if_neg c9] at H
              have c9b0 : decide (a1 ≤ t101) = false := decide_eq_false c9
              clear c9
              have H' := Aside0.mk H
              clear H
              have p7 : 0 ≤ (x8_1 : Int) := of_decide_eq_true (by first | (with_reducible assumption) | assumption)
              have q7 : x8_1 < (a0.size : Int) := of_decide_eq_true (by first | (with_reducible assumption) | assumption)
              have hx7 := bt_at a0 x8_1
              replace p7 := eq_true p7
              replace q7 := eq_true q7
              go_wp2_with (first | ((with_reducible refine gate_callee (f := 87) rfl ?_); refine goesL_ (some 23) rfl rfl Try.func87 (by kernel_rfl) rfl #[.int .u8 (bt a0 x8_1)] rfl (by (try simp only [List.map_toArray, List.map_cons, List.map_nil]); first | done | rfl | (simp only [List.length_drop, List.length_take]; rfl)) ?_; (with_reducible refine (abutmentref02_Value.calls k1 (bt a0 x8_1) t101 _ A8.out).mono ?_); rintro e w' ⟨rfl, ⟨nd, rfl⟩⟩; refine ⟨_, rfl, ?_⟩))
              go_roundg k1
              case measure => have := HK1.out; omega
              case rel => exact ⟨(wrap64 (x8_1 + 1)), (by first | rfl | (simp; done) | (simp [*]; done)), H', ⟨by have := HK1.out; omega⟩, by repeat (first | exact Drawn0.refl _ | apply Drawn0.step)⟩
          · rw [if_neg c6] at H
            exact absurd H (by simp)
        · rw [if_neg c5] at H
          have c5b0 : decide (x8_1 < (a0.size : Int)) = false := decide_eq_false c5
          clear c5
          have HC10 := Aside0.mk H
          clear H
          go_upto_block 2 with (fail)
          go_cut [0] (fun v0 wc => ∃ (kq : Nat) (x0_9 : ByteArray), v0 = .string x0_9 ∧ Aside0 (abutmentref02_Number.j2 kq x0_9 a1 a2 = some (r1, r2)) ∧ Aside0 (kq ≤ k1) ∧ Drawn0 w wc)
          case first =>
            have H := HC10.out
            clear HC10
            have H' := Aside0.mk H
            clear H
            go_wp2
            go_loopg [0] k1 (fun kq v0 w' => ∃ (x0_2 : ByteArray), v0 = .string x0_2 ∧ Aside0 (abutmentref02_Number.l1 kq x0_2 a1 a2 = some (r1, r2)) ∧ Aside0 (kq ≤ k1) ∧ Drawn0 w w')
            case atStart => exact ⟨(a0), (by first | rfl | (simp; done) | (simp [*]; done)), H', ⟨Nat.le_refl _⟩, by repeat (first | exact Drawn0.refl _ | apply Drawn0.step)⟩
            case round =>
              clear H'
              try clear p2
              try clear c4
              try clear c4b0
              try clear c4b1
              try clear c5
              try clear c5b0
              try clear c6
              try clear c6b0
              try clear p6
              try clear p7
              try clear q7
              try clear hx7
              try clear c8
              try clear c9
              try clear c9b0
              try clear p2
              try clear p7
              try clear q7
              obtain ⟨x0_2, rfl, HA, HK2, ⟨m2, rfl⟩⟩ := hrel
              cases gk with
              | zero => exact absurd HA.out (by simp [abutmentref02_Number.l1])
              | succ k2 =>
                have H := HA.out
                clear HA
                simp only [abutmentref02_Number.l1] at H
                by_cases c11 : (x0_2.size : Int) > 1
                · rw [if_pos c11] at H
                  have c11b0 : decide (1 < (x0_2.size : Int)) = true := decide_eq_true c11
                  have c11b1 : decide (1 < x0_2.size) = true := decide_eq_true (by omega)
                  clear c11
                  (first | rw [c11b0] | (simp only [i64_w, i32_w]; rw [c11b0]) | skip)
                  by_cases c12 : 0 < (x0_2.size : Int)
                  · rw [if_pos c12] at H
                    have c12b0 : decide (0 < (x0_2.size : Int)) = true := decide_eq_true c12
                    have c12b1 : decide (0 < x0_2.size) = true := decide_eq_true (by omega)
                    clear c12
                    by_cases c14 : (bt x0_2 0) = 48
                    · rw [if_pos c14] at H
                      have c14b0 : ((bt x0_2 0) == 48) = true := beq_iff_eq.mpr c14
                      have c14b1 : ((bt x0_2 0) != 48) = false := bne_eq_false_iff_eq.mpr c14
                      clear c14
                      by_cases c15 : 1 ≤ (x0_2.size : Int)
                      · rw [if_pos c15] at H
                        have c15b0 := eq_true c15
                        have c15b1 : decide (1 ≤ (x0_2.size : Int)) = true := decide_eq_true c15
                        clear c15
                        have H' := Aside0.mk H
                        clear H
                        have p13 : 0 ≤ (0 : Int) := (by omega)
                        have q13 : 0 < x0_2.size := (by have : (0 : Int) < (x0_2.size : Int) := of_decide_eq_true (by first | (with_reducible assumption) | assumption); omega)
                        have hx13 : ∀ h : 0 < x0_2.size, ((x0_2[0]'h).toNat : Int) = bt x0_2 0 := bt_at x0_2 0
                        clear p13
                        have qi13 : (0 < (x0_2.size : Int)) = True := eq_true (of_decide_eq_true (by first | (with_reducible assumption) | assumption))
                        replace q13 := eq_true q13
                        go_wp2
                        go_roundg k2
                        case measure => have := HK1.out; have := HK2.out; omega
                        case rel => exact ⟨(x0_2.extract 1 x0_2.size), (by first | rfl | (simp; done) | (simp [*]; done)), H', ⟨by have := HK1.out; have := HK2.out; omega⟩, by repeat (first | exact Drawn0.refl _ | apply Drawn0.step)⟩
                      · rw [if_neg c15] at H
                        exact absurd H (by simp)
                    · rw [if_neg c14] at H
                      have c14b0 : ((bt x0_2 0) == 48) = false := beq_eq_false_iff_ne.mpr c14
                      have c14b1 : ((bt x0_2 0) != 48) = true := bne_iff_ne.mpr c14
                      have H' := Aside0.mk H
                      clear H
                      have p13 : 0 ≤ (0 : Int) := (by omega)
                      have q13 : 0 < x0_2.size := (by have : (0 : Int) < (x0_2.size : Int) := of_decide_eq_true (by first | (with_reducible assumption) | assumption); omega)
                      have hx13 : ∀ h : 0 < x0_2.size, ((x0_2[0]'h).toNat : Int) = bt x0_2 0 := bt_at x0_2 0
                      clear p13
                      have qi13 : (0 < (x0_2.size : Int)) = True := eq_true (of_decide_eq_true (by first | (with_reducible assumption) | assumption))
                      replace q13 := eq_true q13
                      go_wp2
                      go_meet
                      case rel => exact ⟨_, (x0_2), (by first | rfl | (simp; done) | (simp [*]; done)), H', ⟨by have := HK1.out; have := HK2.out; first | omega | exact Nat.le_refl _⟩, by repeat (first | exact Drawn0.refl _ | apply Drawn0.step)⟩
                  · rw [if_neg c12] at H
                    exact absurd H (by simp)
                · rw [if_neg c11] at H
                  have c11b0 : decide (1 < (x0_2.size : Int)) = false := decide_eq_false c11
                  have c11b1 : decide (1 < x0_2.size) = false := decide_eq_false (by omega)
                  clear c11
                  (first | rw [c11b0] | (simp only [i64_w, i32_w]; rw [c11b0]) | skip)
                  have H' := Aside0.mk H
                  clear H
                  go_wp2
                  go_meet
                  case rel => exact ⟨_, (x0_2), (by first | rfl | (simp; done) | (simp [*]; done)), H', ⟨by have := HK1.out; have := HK2.out; first | omega | exact Nat.le_refl _⟩, by repeat (first | exact Drawn0.refl _ | apply Drawn0.step)⟩
          case rest =>
            clear HC10
            try clear c1
            try clear p1
            try clear q1
            try clear hx1
            try clear qi1
            try clear p2
            try clear c4
            try clear c4b0
            try clear c4b1
            try clear c5
            try clear c5b0
            try clear c6
            try clear c6b0
            try clear p6
            try clear p7
            try clear q7
            try clear hx7
            try clear c8
            try clear c9
            try clear c9b0
            try clear c11
            try clear c11b0
            try clear c11b1
            try clear c12
            try clear c12b0
            try clear c12b1
            try clear p13
            try clear q13
            try clear hx13
            try clear qi13
            try clear c14
            try clear c14b0
            try clear c14b1
            try clear c15
            try clear c15b0
            try clear c15b1
            try clear p13
            try clear p2
            try clear p6
            try clear p7
            try clear q13
            try clear q7
            obtain ⟨kq, x0_9, rfl, HA, HJ9, ⟨mc9, rfl⟩⟩ := hcut
            cases kq with
            | zero => exact absurd HA.out (by simp [abutmentref02_Number.j2])
            | succ kj9 =>
              have H := HA.out
              clear HA
              simp only [abutmentref02_Number.j2] at H
              by_cases c16 : (x0_9.size : Int) > 19
              · rw [if_pos c16] at H
                have c16b0 : decide (19 < (x0_9.size : Int)) = true := decide_eq_true c16
                have c16b1 : decide (19 < x0_9.size) = true := decide_eq_true (by omega)
                clear c16
                simp only [Option.some.injEq, Prod.mk.injEq] at H
                obtain ⟨rfl, rfl⟩ := H
                go_wp2
                go_ret2
                exact ⟨by first | rfl | (simp; done) | (simp [*]; done), by repeat (first | exact Drawn0.refl _ | apply Drawn0.step)⟩
              · rw [if_neg c16] at H
                have c16b0 : decide (19 < (x0_9.size : Int)) = false := decide_eq_false c16
                have c16b1 : decide (19 < x0_9.size) = false := decide_eq_false (by omega)
                clear c16
                have H' := Aside0.mk H
                clear H
                go_wp2
                go_loopg [9, 10] kj9 (fun kq v9 v10 w' => ∃ (x9_3 : Int) (x10_3 : Int), v9 = .int .u64 x9_3 ∧ v10 = .int .i64 x10_3 ∧ Aside0 (abutmentref02_Number.l2 kq x0_9 a1 a2 x9_3 x10_3 = some (r1, r2)) ∧ Aside0 (kq ≤ kj9) ∧ Drawn0 w w')
                case atStart => exact ⟨(0), (0), (by first | rfl | (simp; done) | (simp [*]; done)), (by first | rfl | (simp; done) | (simp [*]; done)), H', ⟨Nat.le_refl _⟩, by repeat (first | exact Drawn0.refl _ | apply Drawn0.step)⟩
                case round =>
                  clear H'
                  try clear c1
                  try clear p1
                  try clear q1
                  try clear hx1
                  try clear qi1
                  try clear p2
                  try clear c4
                  try clear c4b0
                  try clear c4b1
                  try clear c5
                  try clear c5b0
                  try clear c6
                  try clear c6b0
                  try clear p6
                  try clear p7
                  try clear q7
                  try clear hx7
                  try clear c8
                  try clear c9
                  try clear c9b0
                  try clear c11
                  try clear c11b0
                  try clear c11b1
                  try clear c12
                  try clear c12b0
                  try clear c12b1
                  try clear p13
                  try clear q13
                  try clear hx13
                  try clear qi13
                  try clear c14
                  try clear c14b0
                  try clear c14b1
                  try clear c15
                  try clear c15b0
                  try clear c15b1
                  try clear c16
                  try clear c16b0
                  try clear c16b1
                  try clear p1
                  try clear p13
                  try clear p2
                  try clear p6
                  try clear p7
                  try clear q1
                  try clear q13
                  try clear q7
                  obtain ⟨x9_3, x10_3, rfl, rfl, HA, HK3, ⟨m3, rfl⟩⟩ := hrel
                  cases gk with
                  | zero => exact absurd HA.out (by simp [abutmentref02_Number.l2])
                  | succ k3 =>
                    have H := HA.out
                    clear HA
                    simp only [abutmentref02_Number.l2] at H
                    by_cases c17 : x10_3 < (x0_9.size : Int)
                    · rw [if_pos c17] at H
                      have c17b0 : decide (x10_3 < (x0_9.size : Int)) = true := decide_eq_true c17
                      clear c17
                      by_cases c18 : x9_3 > 1152921504606846975
                      · rw [if_pos c18] at H
                        have c18b0 : decide (1152921504606846975 < x9_3) = true := decide_eq_true c18
                        clear c18
                        simp only [Option.some.injEq, Prod.mk.injEq] at H
                        obtain ⟨rfl, rfl⟩ := H
                        go_wp2
                        go_ret2
                        exact ⟨by first | rfl | (simp; done) | (simp [*]; done), by repeat (first | exact Drawn0.refl _ | apply Drawn0.step)⟩
                      · rw [if_neg c18] at H
                        have c18b0 : decide (1152921504606846975 < x9_3) = false := decide_eq_false c18
                        clear c18
                        by_cases c19 : 0 ≤ x10_3
                        · rw [if_pos c19] at H
                          have c19b0 : decide (0 ≤ x10_3) = true := decide_eq_true c19
                          clear c19
                          replace H := Option.bind_eq_some_iff.mp H
                          obtain ⟨t102, A210, H⟩ := H
                          replace H : (abutmentref02_Number.l2 k3 x0_9 a1 a2 (IntKind.u64.wrap ((IntKind.u64.wrap (x9_3 * (IntKind.u64.wrap (a1)))) + (IntKind.u64.wrap (t102)))) (wrap64 (x10_3 + 1))) = some (r1, r2) := H
                          have A21 := Aside0.mk A210
                          clear A210
                          have H' := Aside0.mk H
                          clear H
                          have p20 : 0 ≤ (x10_3 : Int) := of_decide_eq_true (by first | (with_reducible assumption) | assumption)
                          have q20 : x10_3 < (x0_9.size : Int) := of_decide_eq_true (by first | (with_reducible assumption) | assumption)
                          have hx20 := bt_at x0_9 x10_3
                          replace p20 := eq_true p20
                          replace q20 := eq_true q20
                          go_wp2_with (first | ((with_reducible refine gate_callee (f := 87) rfl ?_); refine goesL_ (some 54) rfl rfl Try.func87 (by kernel_rfl) rfl #[.int .u8 (bt x0_9 x10_3)] rfl (by (try simp only [List.map_toArray, List.map_cons, List.map_nil]); first | done | rfl | (simp only [List.length_drop, List.length_take]; rfl)) ?_; (with_reducible refine (abutmentref02_Value.calls k3 (bt x0_9 x10_3) t102 _ A21.out).mono ?_); rintro e w' ⟨rfl, ⟨nd, rfl⟩⟩; refine ⟨_, rfl, ?_⟩))
                          go_roundg k3
                          case measure => have := HK1.out; have := HJ9.out; have := HK3.out; omega
                          case rel => exact ⟨(IntKind.u64.wrap ((IntKind.u64.wrap (x9_3 * (IntKind.u64.wrap (a1)))) + (IntKind.u64.wrap (t102)))), (wrap64 (x10_3 + 1)), (by first | rfl | (simp; done) | (simp [*]; done)), (by first | rfl | (simp; done) | (simp [*]; done)), H', ⟨by have := HK1.out; have := HJ9.out; have := HK3.out; omega⟩, by repeat (first | exact Drawn0.refl _ | apply Drawn0.step)⟩
                        · rw [if_neg c19] at H
                          exact absurd H (by simp)
                    · rw [if_neg c17] at H
                      have c17b0 : decide (x10_3 < (x0_9.size : Int)) = false := decide_eq_false c17
                      clear c17
                      by_cases c22 : a2 < 0
                      · rw [if_pos c22] at H
                        have c22b0 : decide (a2 < 0) = true := decide_eq_true c22
                        clear c22
                        simp only [Option.some.injEq, Prod.mk.injEq] at H
                        obtain ⟨rfl, rfl⟩ := H
                        go_wp2
                        go_ret2
                        exact ⟨by first | rfl | (simp; done) | (simp [*]; done), by repeat (first | exact Drawn0.refl _ | apply Drawn0.step)⟩
                      · rw [if_neg c22] at H
                        have c22b0 : decide (a2 < 0) = false := decide_eq_false c22
                        clear c22
                        by_cases c23 : x9_3 > (IntKind.u64.wrap (a2))
                        · rw [if_pos c23] at H
                          have c23b0 : decide ((IntKind.u64.wrap (a2)) < x9_3) = true := decide_eq_true c23
                          clear c23
                          simp only [Option.some.injEq, Prod.mk.injEq] at H
                          obtain ⟨rfl, rfl⟩ := H
                          go_wp2
                          go_ret2
                          exact ⟨by first | rfl | (simp; done) | (simp [*]; done), by repeat (first | exact Drawn0.refl _ | apply Drawn0.step)⟩
                        · rw [if_neg c23] at H
                          have c23b0 : decide ((IntKind.u64.wrap (a2)) < x9_3) = false := decide_eq_false c23
                          clear c23
                          simp only [Option.some.injEq, Prod.mk.injEq] at H
                          obtain ⟨rfl, rfl⟩ := H
                          go_wp2
                          go_ret2
                          exact ⟨by first | rfl | (simp; done) | (simp [*]; done), by repeat (first | exact Drawn0.refl _ | apply Drawn0.step)⟩

end Go.Proofs.Ytdjmgmiaognncaa.X
namespace Go.Proofs.Ytdjmgmiaognncaa.X
open Go.RowKit Go.Proofs.YtdjmgmiaognncaaW.PrintWords Go.Proofs.YtdjmgmiaognncaaW.PrintLast Go.Proofs.YtdjmgmiaognncaaW.PrintMore
attribute [local go_sem] max2_int min2_int max_two min_two max_three min_three max_four min_four   -- for this text's walks alone
set_option linter.unusedVariables false
set_option linter.unusedSimpArgs false

/-! ### abutmentref11_Parse: function 39 -/
def abutmentref11_Parse.f (k : Nat) (a0 : ByteArray) : Option (ByteArray × Int × Int) := if a0.toList = ([] : List UInt8) then (some ((⟨#[]⟩ : ByteArray), 0, 2)) else ((abutmentref11_Name.f k a0).bind fun t101 => (if t101 = 0 then (some ((⟨#[]⟩ : ByteArray), 0, 3)) else (if t101 = (a0.size : Int) then (some (a0, 80, 0)) else (if 0 ≤ t101 then (if t101 < (a0.size : Int) then (if (bt a0 t101) = 58 then (if 0 ≤ (wrap64 (t101 + 1)) then (if (wrap64 (t101 + 1)) ≤ (a0.size : Int) then ((abutmentref02_Number.f k (a0.extract ((wrap64 (t101 + 1)) : Int).toNat a0.size) 10 65535).bind fun bt102 => (if bt102.2 = 5 then (some ((⟨#[]⟩ : ByteArray), 0, bt102.2)) else (if bt102.2 = 0 then (if t101 ≤ (a0.size : Int) then (some (a0.extract 0 (t101 : Int).toNat, bt102.1, 0)) else (none)) else (some ((⟨#[]⟩ : ByteArray), 0, 3))))) else (none)) else (none)) else (some ((⟨#[]⟩ : ByteArray), 0, 3))) else (none)) else (none)))))
theorem abutmentref11_Parse.mono : ∀ a0 k, LeO (abutmentref11_Parse.f k a0) (abutmentref11_Parse.f (k + 1) a0) := by
  intro a0 k
  unfold abutmentref11_Parse.f
  repeat' first
      | (with_reducible exact abutmentref02_Number.mono _ _ _ _)
      | (with_reducible exact abutmentref11_Name.mono _ _)
      | (with_reducible exact LeO.refl _)
      | (with_reducible exact LeO.none _)
      | (with_reducible refine LeO.ite ?_ ?_)
      | (with_reducible refine LeO.bind ?_ (fun _ => ?_))
      | exact abutmentref02_Number.mono _ _ _ _
      | exact abutmentref11_Name.mono _ _
      | exact LeO.none _
      | refine LeO.ite ?_ ?_
      | refine LeO.bind ?_ (fun _ => ?_)
set_option maxHeartbeats 8000000 in
set_option maxRecDepth 100000 in
theorem abutmentref11_Parse.calls (k : Nat) (a0 : ByteArray) (r1 : ByteArray) (r2 : Int) (r3 : Int) (w : World) (h : abutmentref11_Parse.f k a0 = some (r1, r2, r3)) :
    Calls Try.prog 39 #[.string a0] w fun e w' => e = .returned (.tuple #[.string r1, .int .i64 r2, .int .i64 r3]) ∧ Drawn0 w w' := by
  have H : (if a0.toList = ([] : List UInt8) then (some ((⟨#[]⟩ : ByteArray), 0, 2)) else ((abutmentref11_Name.f k a0).bind fun t101 => (if t101 = 0 then (some ((⟨#[]⟩ : ByteArray), 0, 3)) else (if t101 = (a0.size : Int) then (some (a0, 80, 0)) else (if 0 ≤ t101 then (if t101 < (a0.size : Int) then (if (bt a0 t101) = 58 then (if 0 ≤ (wrap64 (t101 + 1)) then (if (wrap64 (t101 + 1)) ≤ (a0.size : Int) then ((abutmentref02_Number.f k (a0.extract ((wrap64 (t101 + 1)) : Int).toNat a0.size) 10 65535).bind fun bt102 => (if bt102.2 = 5 then (some ((⟨#[]⟩ : ByteArray), 0, bt102.2)) else (if bt102.2 = 0 then (if t101 ≤ (a0.size : Int) then (some (a0.extract 0 (t101 : Int).toNat, bt102.1, 0)) else (none)) else (some ((⟨#[]⟩ : ByteArray), 0, 3))))) else (none)) else (none)) else (some ((⟨#[]⟩ : ByteArray), 0, 3))) else (none)) else (none)))))) = some (r1, r2, r3) := h
  clear h
  by_cases c2 : a0.toList = ([] : List UInt8)
  · rw [if_pos c2] at H
    have c2b0 : (a0.toList == ([] : List UInt8)) = true := beq_iff_eq.mpr c2
    have c2b1 : (a0.toList != ([] : List UInt8)) = false := bne_eq_false_iff_eq.mpr c2
    clear c2
    simp only [Option.some.injEq, Prod.mk.injEq] at H
    obtain ⟨rfl, rfl, rfl⟩ := H
    go_enter Try.func39, Try.ntmps39
    go_wp2
    go_ret3
    exact ⟨by first | rfl | (simp; done) | (simp [*]; done), by repeat (first | exact Drawn0.refl _ | apply Drawn0.step)⟩
  · rw [if_neg c2] at H
    have c2b0 : (a0.toList == ([] : List UInt8)) = false := beq_eq_false_iff_ne.mpr c2
    have c2b1 : (a0.toList != ([] : List UInt8)) = true := bne_iff_ne.mpr c2
    replace H := Option.bind_eq_some_iff.mp H
    obtain ⟨t101, A30, H⟩ := H
    replace H : (if t101 = 0 then (some ((⟨#[]⟩ : ByteArray), 0, 3)) else (if t101 = (a0.size : Int) then (some (a0, 80, 0)) else (if 0 ≤ t101 then (if t101 < (a0.size : Int) then (if (bt a0 t101) = 58 then (if 0 ≤ (wrap64 (t101 + 1)) then (if (wrap64 (t101 + 1)) ≤ (a0.size : Int) then ((abutmentref02_Number.f k (a0.extract ((wrap64 (t101 + 1)) : Int).toNat a0.size) 10 65535).bind fun bt102 => (if bt102.2 = 5 then (some ((⟨#[]⟩ : ByteArray), 0, bt102.2)) else (if bt102.2 = 0 then (if t101 ≤ (a0.size : Int) then (some (a0.extract 0 (t101 : Int).toNat, bt102.1, 0)) else (none)) else (some ((⟨#[]⟩ : ByteArray), 0, 3))))) else (none)) else (none)) else (some ((⟨#[]⟩ : ByteArray), 0, 3))) else (none)) else (none)))) = some (r1, r2, r3) := H
    have A3 := Aside0.mk A30
    clear A30
    by_cases c4 : t101 = 0
    · rw [if_pos c4] at H
      have c4b0 : (t101 == 0) = true := beq_iff_eq.mpr c4
      have c4b1 : (t101 != 0) = false := bne_eq_false_iff_eq.mpr c4
      clear c4
      simp only [Option.some.injEq, Prod.mk.injEq] at H
      obtain ⟨rfl, rfl, rfl⟩ := H
      go_enter Try.func39, Try.ntmps39
      go_wp2_with (first | ((with_reducible refine gate_callee (f := 64) rfl ?_); refine goesL_ (some 11) rfl rfl Try.func64 (by kernel_rfl) rfl #[.string a0] rfl (by (try simp only [List.map_toArray, List.map_cons, List.map_nil]); first | done | rfl | (simp only [List.length_drop, List.length_take]; rfl)) ?_; (with_reducible refine (abutmentref11_Name.calls k a0 t101 _ A3.out).mono ?_); rintro e w' ⟨rfl, ⟨nd, rfl⟩⟩; refine ⟨_, rfl, ?_⟩))
      go_ret3
      exact ⟨by first | rfl | (simp; done) | (simp [*]; done), by repeat (first | exact Drawn0.refl _ | apply Drawn0.step)⟩
    · rw [if_neg c4] at H
      have c4b0 : (t101 == 0) = false := beq_eq_false_iff_ne.mpr c4
      have c4b1 : (t101 != 0) = true := bne_iff_ne.mpr c4
      by_cases c5 : t101 = (a0.size : Int)
      · rw [if_pos c5] at H
        have c5b0 : (t101 == (a0.size : Int)) = true := beq_iff_eq.mpr c5
        have c5b1 : (t101 != (a0.size : Int)) = false := bne_eq_false_iff_eq.mpr c5
        clear c5
        simp only [Option.some.injEq, Prod.mk.injEq] at H
        obtain ⟨rfl, rfl, rfl⟩ := H
        go_enter Try.func39, Try.ntmps39
        go_wp2_with (first | ((with_reducible refine gate_callee (f := 64) rfl ?_); refine goesL_ (some 11) rfl rfl Try.func64 (by kernel_rfl) rfl #[.string a0] rfl (by (try simp only [List.map_toArray, List.map_cons, List.map_nil]); first | done | rfl | (simp only [List.length_drop, List.length_take]; rfl)) ?_; (with_reducible refine (abutmentref11_Name.calls k a0 t101 _ A3.out).mono ?_); rintro e w' ⟨rfl, ⟨nd, rfl⟩⟩; refine ⟨_, rfl, ?_⟩))
        go_ret3
        exact ⟨by first | rfl | (simp; done) | (simp [*]; done), by repeat (first | exact Drawn0.refl _ | apply Drawn0.step)⟩
      · rw [if_neg c5] at H
        have c5b0 : (t101 == (a0.size : Int)) = false := beq_eq_false_iff_ne.mpr c5
        have c5b1 : (t101 != (a0.size : Int)) = true := bne_iff_ne.mpr c5
        by_cases c6 : 0 ≤ t101
        · rw [if_pos c6] at H
          have c6b0 : decide (0 ≤ t101) = true := decide_eq_true c6
          clear c6
          by_cases c7 : t101 < (a0.size : Int)
          · rw [if_pos c7] at H
            have c7b0 : decide (t101 < (a0.size : Int)) = true := decide_eq_true c7
            clear c7
            by_cases c9 : (bt a0 t101) = 58
            · rw [if_pos c9] at H
              have c9b0 : ((bt a0 t101) == 58) = true := beq_iff_eq.mpr c9
              have c9b1 : ((bt a0 t101) != 58) = false := bne_eq_false_iff_eq.mpr c9
              clear c9
              obtain ⟨ji10, hji10⟩ : ∃ j_ : Int, (wrap64 (t101 + 1)) = j_ := ⟨_, rfl⟩
              replace H : (if 0 ≤ (ji10) then (if (ji10) ≤ (a0.size : Int) then ((abutmentref02_Number.f k (a0.extract ((ji10) : Int).toNat a0.size) 10 65535).bind fun bt102 => (if bt102.2 = 5 then (some ((⟨#[]⟩ : ByteArray), 0, bt102.2)) else (if bt102.2 = 0 then (if t101 ≤ (a0.size : Int) then (some (a0.extract 0 (t101 : Int).toNat, bt102.1, 0)) else (none)) else (some ((⟨#[]⟩ : ByteArray), 0, 3))))) else (none)) else (none)) = some (r1, r2, r3) := by first | (rw [hji10] at H; exact H) | (simp only [hji10] at H ⊢; exact H)
              (try rw [hji10] at A3)
              have hji10w : (IntKind.i64.wrap (t101 + 1)) = ji10 := (i64_w _).trans hji10
              by_cases c11 : 0 ≤ (ji10)
              · rw [if_pos c11] at H
                have c11b0 := eq_true c11
                have c11b1 : decide (0 ≤ (ji10)) = true := decide_eq_true c11
                clear c11
                by_cases c12 : (ji10) ≤ (a0.size : Int)
                · rw [if_pos c12] at H
                  have c12b0 := eq_true c12
                  have c12b1 : decide ((ji10) ≤ (a0.size : Int)) = true := decide_eq_true c12
                  clear c12
                  replace H := Option.bind_eq_some_iff.mp H
                  obtain ⟨⟨t102, t103⟩, A130, H⟩ := H
                  replace H : (if t103 = 5 then (some ((⟨#[]⟩ : ByteArray), 0, t103)) else (if t103 = 0 then (if t101 ≤ (a0.size : Int) then (some (a0.extract 0 (t101 : Int).toNat, t102, 0)) else (none)) else (some ((⟨#[]⟩ : ByteArray), 0, 3)))) = some (r1, r2, r3) := H
                  have A13 := Aside0.mk A130
                  clear A130
                  by_cases c14 : t103 = 5
                  · rw [if_pos c14] at H
                    have c14b0 : (t103 == 5) = true := beq_iff_eq.mpr c14
                    have c14b1 : (t103 != 5) = false := bne_eq_false_iff_eq.mpr c14
                    clear c14
                    simp only [Option.some.injEq, Prod.mk.injEq] at H
                    obtain ⟨rfl, rfl, rfl⟩ := H
                    go_enter Try.func39, Try.ntmps39
                    go_wp2_with (first | ((with_reducible refine gate_callee (f := 64) rfl ?_); refine goesL_ (some 11) rfl rfl Try.func64 (by kernel_rfl) rfl #[.string a0] rfl (by (try simp only [List.map_toArray, List.map_cons, List.map_nil]); first | done | rfl | (simp only [List.length_drop, List.length_take]; rfl)) ?_; (with_reducible refine (abutmentref11_Name.calls k a0 t101 _ A3.out).mono ?_); rintro e w' ⟨rfl, ⟨nd, rfl⟩⟩; refine ⟨_, rfl, ?_⟩; have p8 : 0 ≤ (t101 : Int) := of_decide_eq_true (by first | (with_reducible assumption) | assumption); have q8 : t101 < (a0.size : Int) := of_decide_eq_true (by first | (with_reducible assumption) | assumption); have hx8 := bt_at a0 t101; replace p8 := eq_true p8; replace q8 := eq_true q8) | ((with_reducible refine gate_callee (f := 65) rfl ?_); refine goesL_ (some 28) rfl rfl Try.func65 (by kernel_rfl) rfl #[.string (a0.extract ((ji10) : Int).toNat a0.size), .int .i64 10, .int .i64 65535] rfl (by (try simp only [List.map_toArray, List.map_cons, List.map_nil]); first | done | (simp only [hji10]; rfl) | rfl | (simp only [List.length_drop, List.length_take]; rfl)) ?_; (with_reducible refine (abutmentref02_Number.calls k (a0.extract ((ji10) : Int).toNat a0.size) 10 65535 t102 t103 _ A13.out).mono ?_); rintro e w' ⟨rfl, ⟨nd, rfl⟩⟩; refine ⟨_, rfl, ?_⟩))
                    go_ret3
                    exact ⟨by first | rfl | (simp; done) | (simp only [← hji10] <;> (first | rfl | simp)) | (simp [*]; done), by repeat (first | exact Drawn0.refl _ | apply Drawn0.step)⟩
                  · rw [if_neg c14] at H
                    have c14b0 : (t103 == 5) = false := beq_eq_false_iff_ne.mpr c14
                    have c14b1 : (t103 != 5) = true := bne_iff_ne.mpr c14
                    by_cases c15 : t103 = 0
                    · rw [if_pos c15] at H
                      have c15b0 : (t103 == 0) = true := beq_iff_eq.mpr c15
                      have c15b1 : (t103 != 0) = false := bne_eq_false_iff_eq.mpr c15
                      clear c15
                      have c16b0 := eq_true (of_decide_eq_true (by first | (with_reducible assumption) | assumption) : 0 ≤ t101)
                      by_cases c17 : t101 ≤ (a0.size : Int)
                      · rw [if_pos c17] at H
                        have c17b0 := eq_true c17
                        have c17b1 : decide (t101 ≤ (a0.size : Int)) = true := decide_eq_true c17
                        clear c17
                        simp only [Option.some.injEq, Prod.mk.injEq] at H
                        obtain ⟨rfl, rfl, rfl⟩ := H
                        go_enter Try.func39, Try.ntmps39
                        go_wp2_with (first | ((with_reducible refine gate_callee (f := 64) rfl ?_); refine goesL_ (some 11) rfl rfl Try.func64 (by kernel_rfl) rfl #[.string a0] rfl (by (try simp only [List.map_toArray, List.map_cons, List.map_nil]); first | done | rfl | (simp only [List.length_drop, List.length_take]; rfl)) ?_; (with_reducible refine (abutmentref11_Name.calls k a0 t101 _ A3.out).mono ?_); rintro e w' ⟨rfl, ⟨nd, rfl⟩⟩; refine ⟨_, rfl, ?_⟩; have p8 : 0 ≤ (t101 : Int) := of_decide_eq_true (by first | (with_reducible assumption) | assumption); have q8 : t101 < (a0.size : Int) := of_decide_eq_true (by first | (with_reducible assumption) | assumption); have hx8 := bt_at a0 t101; replace p8 := eq_true p8; replace q8 := eq_true q8) | ((with_reducible refine gate_callee (f := 65) rfl ?_); refine goesL_ (some 28) rfl rfl Try.func65 (by kernel_rfl) rfl #[.string (a0.extract ((ji10) : Int).toNat a0.size), .int .i64 10, .int .i64 65535] rfl (by (try simp only [List.map_toArray, List.map_cons, List.map_nil]); first | done | (simp only [hji10]; rfl) | rfl | (simp only [List.length_drop, List.length_take]; rfl)) ?_; (with_reducible refine (abutmentref02_Number.calls k (a0.extract ((ji10) : Int).toNat a0.size) 10 65535 t102 t103 _ A13.out).mono ?_); rintro e w' ⟨rfl, ⟨nd, rfl⟩⟩; refine ⟨_, rfl, ?_⟩))
                        go_ret3
                        exact ⟨by first | rfl | (simp; done) | (simp only [← hji10] <;> (first | rfl | simp)) | (simp [*]; done), by repeat (first | exact Drawn0.refl _ | apply Drawn0.step)⟩
                      · rw [if_neg c17] at H
                        exact absurd H (by simp)
                    · rw [if_neg c15] at H
                      have c15b0 : (t103 == 0) = false := beq_eq_false_iff_ne.mpr c15
                      have c15b1 : (t103 != 0) = true := bne_iff_ne.mpr c15
                      simp only [Option.some.injEq, Prod.mk.injEq] at H
                      obtain ⟨rfl, rfl, rfl⟩ := H
                      go_enter Try.func39, Try.ntmps39
                      go_wp2_with (first | ((with_reducible refine gate_callee (f := 64) rfl ?_); refine goesL_ (some 11) rfl rfl Try.func64 (by kernel_rfl) rfl #[.string a0] rfl (by (try simp only [List.map_toArray, List.map_cons, List.map_nil]); first | done | rfl | (simp only [List.length_drop, List.length_take]; rfl)) ?_; (with_reducible refine (abutmentref11_Name.calls k a0 t101 _ A3.out).mono ?_); rintro e w' ⟨rfl, ⟨nd, rfl⟩⟩; refine ⟨_, rfl, ?_⟩; have p8 : 0 ≤ (t101 : Int) := of_decide_eq_true (by first | (with_reducible assumption) | assumption); have q8 : t101 < (a0.size : Int) := of_decide_eq_true (by first | (with_reducible assumption) | assumption); have hx8 := bt_at a0 t101; replace p8 := eq_true p8; replace q8 := eq_true q8) | ((with_reducible refine gate_callee (f := 65) rfl ?_); refine goesL_ (some 28) rfl rfl Try.func65 (by kernel_rfl) rfl #[.string (a0.extract ((ji10) : Int).toNat a0.size), .int .i64 10, .int .i64 65535] rfl (by (try simp only [List.map_toArray, List.map_cons, List.map_nil]); first | done | (simp only [hji10]; rfl) | rfl | (simp only [List.length_drop, List.length_take]; rfl)) ?_; (with_reducible refine (abutmentref02_Number.calls k (a0.extract ((ji10) : Int).toNat a0.size) 10 65535 t102 t103 _ A13.out).mono ?_); rintro e w' ⟨rfl, ⟨nd, rfl⟩⟩; refine ⟨_, rfl, ?_⟩))
                      go_ret3
                      exact ⟨by first | rfl | (simp; done) | (simp only [← hji10] <;> (first | rfl | simp)) | (simp [*]; done), by repeat (first | exact Drawn0.refl _ | apply Drawn0.step)⟩
                · rw [if_neg c12] at H
                  exact absurd H (by simp)
              · rw [if_neg c11] at H
                exact absurd H (by simp)
            · rw [if_neg c9] at H
              have c9b0 : ((bt a0 t101) == 58) = false := beq_eq_false_iff_ne.mpr c9
              have c9b1 : ((bt a0 t101) != 58) = true := bne_iff_ne.mpr c9
              simp only [Option.some.injEq, Prod.mk.injEq] at H
              obtain ⟨rfl, rfl, rfl⟩ := H
              go_enter Try.func39, Try.ntmps39
              go_wp2_with (first | ((with_reducible refine gate_callee (f := 64) rfl ?_); refine goesL_ (some 11) rfl rfl Try.func64 (by kernel_rfl) rfl #[.string a0] rfl (by (try simp only [List.map_toArray, List.map_cons, List.map_nil]); first | done | rfl | (simp only [List.length_drop, List.length_take]; rfl)) ?_; (with_reducible refine (abutmentref11_Name.calls k a0 t101 _ A3.out).mono ?_); rintro e w' ⟨rfl, ⟨nd, rfl⟩⟩; refine ⟨_, rfl, ?_⟩; have p8 : 0 ≤ (t101 : Int) := of_decide_eq_true (by first | (with_reducible assumption) | assumption); have q8 : t101 < (a0.size : Int) := of_decide_eq_true (by first | (with_reducible assumption) | assumption); have hx8 := bt_at a0 t101; replace p8 := eq_true p8; replace q8 := eq_true q8))
              go_ret3
              exact ⟨by first | rfl | (simp; done) | (simp [*]; done), by repeat (first | exact Drawn0.refl _ | apply Drawn0.step)⟩
          · rw [if_neg c7] at H
            exact absurd H (by simp)
        · rw [if_neg c6] at H
          exact absurd H (by simp)

end Go.Proofs.Ytdjmgmiaognncaa.X
namespace Go.Proofs.Ytdjmgmiaognncaa.X
open Go.RowKit Go.Proofs.YtdjmgmiaognncaaW.PrintWords Go.Proofs.YtdjmgmiaognncaaW.PrintLast Go.Proofs.YtdjmgmiaognncaaW.PrintMore
attribute [local go_sem] max2_int min2_int max_two min_two max_three min_three max_four min_four   -- for this text's walks alone
set_option linter.unusedVariables false
set_option linter.unusedSimpArgs false

/-! ### abutmentref01_Lower: function 71 -/
def abutmentref01_Lower.l0 : Nat → ByteArray → List Int → Int → Option (ByteArray)
  | 0, _, _, _ => none
  | k + 1, x0, x3, x4 => if x4 < (x0.size : Int) then (if 0 ≤ x4 then (if (bt x0 x4) ≥ 65 then (if (bt x0 x4) ≤ 90 then (if x3.length < 140737488355328 then (abutmentref01_Lower.l0 k x0 (x3 ++ [((bt x0 x4) + 32) % 256]) (wrap64 (x4 + 1))) else (none)) else (if x3.length < 140737488355328 then (abutmentref01_Lower.l0 k x0 (x3 ++ [bt x0 x4]) (wrap64 (x4 + 1))) else (none))) else (if x3.length < 140737488355328 then (abutmentref01_Lower.l0 k x0 (x3 ++ [bt x0 x4]) (wrap64 (x4 + 1))) else (none))) else (none)) else (some (strOfNums x3))
def abutmentref01_Lower.f (k : Nat) (a0 : ByteArray) : Option (ByteArray) := abutmentref01_Lower.l0 k a0 (([] : List Int)) 0
theorem abutmentref01_Lower.mono_l : ∀ k, (∀ y0 y1 y2, LeO (abutmentref01_Lower.l0 k y0 y1 y2) (abutmentref01_Lower.l0 (k + 1) y0 y1 y2))
  | 0 => fun _ _ _ r h => by simp [abutmentref01_Lower.l0] at h
  | k + 1 => by
    have ih0 := abutmentref01_Lower.mono_l k
    · intro y0 y1 y2
      unfold abutmentref01_Lower.l0
      repeat' first
      | (with_reducible exact ih0 _ _ _)
      | (with_reducible exact LeO.refl _)
      | (with_reducible exact LeO.none _)
      | (with_reducible refine LeO.ite ?_ ?_)
      | (with_reducible refine LeO.bind ?_ (fun _ => ?_))
      | exact ih0 _ _ _
      | exact LeO.none _
      | refine LeO.ite ?_ ?_
      | refine LeO.bind ?_ (fun _ => ?_)
theorem abutmentref01_Lower.mono : ∀ a0 k, LeO (abutmentref01_Lower.f k a0) (abutmentref01_Lower.f (k + 1) a0) := by
  intro a0 k
  have ih0 := abutmentref01_Lower.mono_l k
  unfold abutmentref01_Lower.f
  repeat' first
      | (with_reducible exact ih0 _ _ _)
      | (with_reducible exact LeO.refl _)
      | (with_reducible exact LeO.none _)
      | (with_reducible refine LeO.ite ?_ ?_)
      | (with_reducible refine LeO.bind ?_ (fun _ => ?_))
      | exact ih0 _ _ _
      | exact LeO.none _
      | refine LeO.ite ?_ ?_
      | refine LeO.bind ?_ (fun _ => ?_)
set_option maxHeartbeats 8000000 in
set_option maxRecDepth 100000 in
theorem abutmentref01_Lower.calls (k : Nat) (a0 : ByteArray) (r : ByteArray) (w : World) (h : abutmentref01_Lower.f k a0 = some r) :
    Calls Try.prog 71 #[.string a0] w fun e w' => e = .returned (.string r) ∧ Below w.heap.size w w' := by
  have HB := Aside0.mk (Below.refl w.heap.size w)
  have H : (abutmentref01_Lower.l0 k a0 (([] : List Int)) 0) = some r := h
  clear h
  obtain ⟨y101, hy101⟩ : ∃ y_ : List Int, y_ = (([] : List Int)) := ⟨_, rfl⟩
  replace H : (abutmentref01_Lower.l0 k a0 y101 0) = some r := by first | (rw [hy101]; with_reducible exact H) | (have H2_ := (Option.bind_some _ _).symm.trans H; rw [hy101]; with_reducible exact H2_) | (have H2_ := (Option.bind_some _ _).symm.trans H; with_reducible exact H2_) | with_reducible exact H | (rw [hy101]; exact H) | exact H
  have Ny101 := Aside0.mk hy101
  clear hy101
  have H' := Aside0.mk H
  clear H
  go_enter Try.func71, Try.ntmps71
  go_wp2_with (first | ((with_reducible refine gate_dst (N := 6) rfl ?_); refine Kd.R_lit (Kd.int .u8) _ 5 ?hg (N := 6) ?hd (xs := ([] : List Int)) (inner := []) (ok := fun _ => True) (okp := fun _ => True) ?hr ?hp (fun _ hk => hk) trivial (Below.refl _ _) (Nat.le_refl _) (by simp) ?_; (case hd => rfl); (case hg => rfl); (case hr => first | (go_simp; done) | (go_simp; rfl)); (case hp => exact (Reps.none _ _)); intro v102 w2 ho3 hb hg_ hnew_; clear hg_ hnew_; (first | rw [← Ny101.out] at ho3 | (simp only [Int.reduceToNat] at ho3; rw [← Ny101.out] at ho3)); have n0_ := Aside0.mk (Kd.R_lower ho3 (below_size (by repeat (first | (with_reducible first | exact HB.out | apply below_alloc | apply pw_below_drewN | apply below_drew1) | exact HB.out)))); have n1_ := Aside0.mk (below_step (by repeat (first | (with_reducible first | exact HB.out | apply below_alloc | apply pw_below_drewN | apply below_drew1) | exact HB.out)) hb); clear HB; have HO103 := n0_; have HB := n1_; clear n0_ n1_; clear hb ho3))
  go_loopg [3, 4] k (fun kq v3 v4 w' => ∃ (x3_1 : List Int) (x4_1 : Int), v4 = .int .i64 x4_1 ∧ Aside0 (abutmentref01_Lower.l0 kq a0 x3_1 x4_1 = some r) ∧ Aside0 (kq ≤ k) ∧ Aside0 (Kd.R (Kd.int .u8) 5 w' w.heap.size (fun _ => True) v3 x3_1) ∧ Aside0 (Below w.heap.size w w'))
  case atStart => exact ⟨(y101), (0), (by first | rfl | (simp; done) | (simp [*]; done)), H', ⟨Nat.le_refl _⟩, ⟨by (with_reducible repeat (first | apply Kd.R_alloc | apply Kd.R_drewN | apply Kd.R_drew)); exact HO103.out⟩, ⟨by repeat (first | (with_reducible first | exact HB.out | apply below_alloc | apply pw_below_drewN | apply below_drew1) | exact HB.out)⟩⟩
  case round =>
    clear H'
    try clear p2
    obtain ⟨x3_1, x4_1, rfl, HA, HK1, HO_3, HB⟩ := hrel
    cases gk with
    | zero => exact absurd HA.out (by simp [abutmentref01_Lower.l0])
    | succ k1 =>
      have H := HA.out
      clear HA
      simp only [abutmentref01_Lower.l0] at H
      by_cases c4 : x4_1 < (a0.size : Int)
      · rw [if_pos c4] at H
        have c4b0 : decide (x4_1 < (a0.size : Int)) = true := decide_eq_true c4
        clear c4
        by_cases c5 : 0 ≤ x4_1
        · rw [if_pos c5] at H
          have c5b0 : decide (0 ≤ x4_1) = true := decide_eq_true c5
          clear c5
          by_cases c7 : (bt a0 x4_1) ≥ 65
          · rw [if_pos c7] at H
            have c7b0 : decide (65 ≤ (bt a0 x4_1)) = true := decide_eq_true c7
            clear c7
            by_cases c8 : (bt a0 x4_1) ≤ 90
            · rw [if_pos c8] at H
              have c8b0 : decide ((bt a0 x4_1) ≤ 90) = true := decide_eq_true c8
              clear c8
              by_cases c9 : x3_1.length < 140737488355328
              · rw [if_pos c9] at H
                have LMc9 := Aside0.mk c9
                clear c9
                obtain ⟨y104, hy104⟩ : ∃ y_ : List Int, y_ = (x3_1 ++ [((bt a0 x4_1) + 32) % 256]) := ⟨_, rfl⟩
                replace H : (abutmentref01_Lower.l0 k1 a0 y104 (wrap64 (x4_1 + 1))) = some r := by first | (rw [hy104]; with_reducible exact H) | (have H2_ := (Option.bind_some _ _).symm.trans H; rw [hy104]; with_reducible exact H2_) | (have H2_ := (Option.bind_some _ _).symm.trans H; with_reducible exact H2_) | with_reducible exact H | (rw [hy104]; exact H) | exact H
                have Ny104 := Aside0.mk hy104
                clear hy104
                have H' := Aside0.mk H
                clear H
                have p6 : 0 ≤ (x4_1 : Int) := of_decide_eq_true (by first | (with_reducible assumption) | assumption)
                have q6 : x4_1 < (a0.size : Int) := of_decide_eq_true (by first | (with_reducible assumption) | assumption)
                have hx6 := bt_at a0 x4_1
                replace p6 := eq_true p6
                replace q6 := eq_true q6
                go_wp2_with (first | ((with_reducible refine gate_builtin (b := .append) (xs := #[.tmp 24, .tmp 26]) rfl ?_); at_builtin; refine Kd.R_append (Kd.int .u8) (w0 := w) w.heap.size rfl (.tmp 24) (.tmp 26) 76 5 (.int .u8 0) 1 rfl Try.underlying76 info5 rfl (by decide) (by omega) u3 x3_1 (((bt a0 x4_1) + 32) % 256) [.int .u8 (((bt a0 x4_1) + 32) % 256)] (fun _ => True) (fun _ => False) rfl rfl ?aP (fun _ hk => hk.elim) ?aF ?aO ?aB ?aS ?aL ?_; (case aP => exact rfl); (case aB => exact (by repeat (first | (with_reducible first | exact HB.out | apply below_alloc | apply pw_below_drewN | apply below_drew1) | exact HB.out))); (case aF => exact (fun _ _ => trivial)); (case aO => exact (by (with_reducible repeat (first | apply Kd.R_alloc | apply Kd.R_drewN | apply Kd.R_drew)); exact HO_3.out)); (case aS => exact (below_size (by repeat (first | (with_reducible first | exact HB.out | apply below_alloc | apply pw_below_drewN | apply below_drew1) | exact HB.out)))); (case aL => have := LMc9.out; omega); intro v105 w10 ho hb hg hat; rw [← Ny104.out] at ho; have n0_ := Aside0.mk (hb); have n1_ := Aside0.mk (ho); clear HB; clear HO_3; have HB := n0_; have HO106 := n1_; clear n0_ n1_; clear ho hb hg hat))
                go_roundg k1
                case measure => have := HK1.out; omega
                case rel => exact ⟨(y104), (wrap64 (x4_1 + 1)), (by first | rfl | (simp; done) | (simp [*]; done)), H', ⟨by have := HK1.out; omega⟩, ⟨by (with_reducible repeat (first | apply Kd.R_alloc | apply Kd.R_drewN | apply Kd.R_drew)); exact HO106.out⟩, ⟨by repeat (first | (with_reducible first | exact HB.out | apply below_alloc | apply pw_below_drewN | apply below_drew1) | exact HB.out)⟩⟩
              · rw [if_neg c9] at H
                exact absurd H (by simp)
            · rw [if_neg c8] at H
              have c8b0 : decide ((bt a0 x4_1) ≤ 90) = false := decide_eq_false c8
              clear c8
              by_cases c11 : x3_1.length < 140737488355328
              · rw [if_pos c11] at H
                have LMc11 := Aside0.mk c11
                clear c11
                obtain ⟨y107, hy107⟩ : ∃ y_ : List Int, y_ = (x3_1 ++ [bt a0 x4_1]) := ⟨_, rfl⟩
                replace H : (abutmentref01_Lower.l0 k1 a0 y107 (wrap64 (x4_1 + 1))) = some r := by first | (rw [hy107]; with_reducible exact H) | (have H2_ := (Option.bind_some _ _).symm.trans H; rw [hy107]; with_reducible exact H2_) | (have H2_ := (Option.bind_some _ _).symm.trans H; with_reducible exact H2_) | with_reducible exact H | (rw [hy107]; exact H) | exact H
                have Ny107 := Aside0.mk hy107
                clear hy107
                have H' := Aside0.mk H
                clear H
                have p6 : 0 ≤ (x4_1 : Int) := of_decide_eq_true (by first | (with_reducible assumption) | assumption)
                have q6 : x4_1 < (a0.size : Int) := of_decide_eq_true (by first | (with_reducible assumption) | assumption)
                have hx6 := bt_at a0 x4_1
                replace p6 := eq_true p6
                replace q6 := eq_true q6
                go_wp2_with (first | ((with_reducible refine gate_builtin (b := .append) (xs := #[.tmp 24, .tmp 26]) rfl ?_); at_builtin; refine Kd.R_append (Kd.int .u8) (w0 := w) w.heap.size rfl (.tmp 24) (.tmp 26) 76 5 (.int .u8 0) 1 rfl Try.underlying76 info5 rfl (by decide) (by omega) u3 x3_1 (bt a0 x4_1) [.int .u8 (bt a0 x4_1)] (fun _ => True) (fun _ => False) rfl rfl ?aP (fun _ hk => hk.elim) ?aF ?aO ?aB ?aS ?aL ?_; (case aP => exact rfl); (case aB => exact (by repeat (first | (with_reducible first | exact HB.out | apply below_alloc | apply pw_below_drewN | apply below_drew1) | exact HB.out))); (case aF => exact (fun _ _ => trivial)); (case aO => exact (by (with_reducible repeat (first | apply Kd.R_alloc | apply Kd.R_drewN | apply Kd.R_drew)); exact HO_3.out)); (case aS => exact (below_size (by repeat (first | (with_reducible first | exact HB.out | apply below_alloc | apply pw_below_drewN | apply below_drew1) | exact HB.out)))); (case aL => have := LMc11.out; omega); intro v108 w12 ho hb hg hat; rw [← Ny107.out] at ho; have n0_ := Aside0.mk (hb); have n1_ := Aside0.mk (ho); clear HB; clear HO_3; have HB := n0_; have HO109 := n1_; clear n0_ n1_; clear ho hb hg hat))
                go_roundg k1
                case measure => have := HK1.out; omega
                case rel => exact ⟨(y107), (wrap64 (x4_1 + 1)), (by first | rfl | (simp; done) | (simp [*]; done)), H', ⟨by have := HK1.out; omega⟩, ⟨by (with_reducible repeat (first | apply Kd.R_alloc | apply Kd.R_drewN | apply Kd.R_drew)); exact HO109.out⟩, ⟨by repeat (first | (with_reducible first | exact HB.out | apply below_alloc | apply pw_below_drewN | apply below_drew1) | exact HB.out)⟩⟩
              · rw [if_neg c11] at H
                exact absurd H (by simp)
          · rw [if_neg c7] at H
            have c7b0 : decide (65 ≤ (bt a0 x4_1)) = false := decide_eq_false c7
            clear c7
            by_cases c13 : x3_1.length < 140737488355328
            · rw [if_pos c13] at H
              have LMc13 := Aside0.mk c13
              clear c13
              obtain ⟨y110, hy110⟩ : ∃ y_ : List Int, y_ = (x3_1 ++ [bt a0 x4_1]) := ⟨_, rfl⟩
              replace H : (abutmentref01_Lower.l0 k1 a0 y110 (wrap64 (x4_1 + 1))) = some r := by first | (rw [hy110]; with_reducible exact H) | (have H2_ := (Option.bind_some _ _).symm.trans H; rw [hy110]; with_reducible exact H2_) | (have H2_ := (Option.bind_some _ _).symm.trans H; with_reducible exact H2_) | with_reducible exact H | (rw [hy110]; exact H) | exact H
              have Ny110 := Aside0.mk hy110
              clear hy110
              have H' := Aside0.mk H
              clear H
              have p6 : 0 ≤ (x4_1 : Int) := of_decide_eq_true (by first | (with_reducible assumption) | assumption)
              have q6 : x4_1 < (a0.size : Int) := of_decide_eq_true (by first | (with_reducible assumption) | assumption)
              have hx6 := bt_at a0 x4_1
              replace p6 := eq_true p6
              replace q6 := eq_true q6
              go_wp2_with (first | ((with_reducible refine gate_builtin (b := .append) (xs := #[.tmp 24, .tmp 26]) rfl ?_); at_builtin; refine Kd.R_append (Kd.int .u8) (w0 := w) w.heap.size rfl (.tmp 24) (.tmp 26) 76 5 (.int .u8 0) 1 rfl Try.underlying76 info5 rfl (by decide) (by omega) u3 x3_1 (bt a0 x4_1) [.int .u8 (bt a0 x4_1)] (fun _ => True) (fun _ => False) rfl rfl ?aP (fun _ hk => hk.elim) ?aF ?aO ?aB ?aS ?aL ?_; (case aP => exact rfl); (case aB => exact (by repeat (first | (with_reducible first | exact HB.out | apply below_alloc | apply pw_below_drewN | apply below_drew1) | exact HB.out))); (case aF => exact (fun _ _ => trivial)); (case aO => exact (by (with_reducible repeat (first | apply Kd.R_alloc | apply Kd.R_drewN | apply Kd.R_drew)); exact HO_3.out)); (case aS => exact (below_size (by repeat (first | (with_reducible first | exact HB.out | apply below_alloc | apply pw_below_drewN | apply below_drew1) | exact HB.out)))); (case aL => have := LMc13.out; omega); intro v111 w14 ho hb hg hat; rw [← Ny110.out] at ho; have n0_ := Aside0.mk (hb); have n1_ := Aside0.mk (ho); clear HB; clear HO_3; have HB := n0_; have HO112 := n1_; clear n0_ n1_; clear ho hb hg hat))
              go_roundg k1
              case measure => have := HK1.out; omega
              case rel => exact ⟨(y110), (wrap64 (x4_1 + 1)), (by first | rfl | (simp; done) | (simp [*]; done)), H', ⟨by have := HK1.out; omega⟩, ⟨by (with_reducible repeat (first | apply Kd.R_alloc | apply Kd.R_drewN | apply Kd.R_drew)); exact HO112.out⟩, ⟨by repeat (first | (with_reducible first | exact HB.out | apply below_alloc | apply pw_below_drewN | apply below_drew1) | exact HB.out)⟩⟩
            · rw [if_neg c13] at H
              exact absurd H (by simp)
        · rw [if_neg c5] at H
          exact absurd H (by simp)
      · rw [if_neg c4] at H
        have c4b0 : decide (x4_1 < (a0.size : Int)) = false := decide_eq_false c4
        clear c4
        obtain rfl := Option.some.inj H
        have hcv15 := own_string (P := Try.prog) Try.underlying76 Try.underlying5 Try.underlying9 (Kd.own_of_R HO_3.out)
        go_wp2
        go_ret
        exact ⟨by first | rfl | (simp [errW_none, errW_some] <;> rfl) | (simp [*, errW_none, errW_some] <;> rfl), by repeat (first | (with_reducible first | exact HB.out | apply below_alloc | apply pw_below_drewN | apply below_drew1) | exact HB.out)⟩

end Go.Proofs.Ytdjmgmiaognncaa.X
namespace Go.Proofs.Ytdjmgmiaognncaa.X
open Go.RowKit Go.Proofs.YtdjmgmiaognncaaW.PrintWords Go.Proofs.YtdjmgmiaognncaaW.PrintLast Go.Proofs.YtdjmgmiaognncaaW.PrintMore
attribute [local go_sem] max2_int min2_int max_two min_two max_three min_three max_four min_four   -- for this text's walks alone
set_option linter.unusedVariables false
set_option linter.unusedSimpArgs false

/-! ### abutmentref11_Text: function 47 -/
def abutmentref11_Text.f (k : Nat) (a0 : ByteArray) (a1 : Int) : Option (ByteArray) := (abutmentref01_Lower.f k a0).bind fun t101 => (if a1 = 80 then (some t101) else (if t101.size + 1 ≤ 9223372036854775807 then ((abutmentref02_Text.f a1).bind fun t102 => (if (t101 ++ (⟨#[58]⟩ : ByteArray)).size + t102.size ≤ 9223372036854775807 then (some ((t101 ++ (⟨#[58]⟩ : ByteArray)) ++ t102)) else (none))) else (none)))
theorem abutmentref11_Text.mono : ∀ a0 a1 k, LeO (abutmentref11_Text.f k a0 a1) (abutmentref11_Text.f (k + 1) a0 a1) := by
  intro a0 a1 k
  unfold abutmentref11_Text.f
  repeat' first
      | (with_reducible exact abutmentref01_Lower.mono _ _)
      | (with_reducible exact LeO.refl _)
      | (with_reducible exact LeO.none _)
      | (with_reducible refine LeO.ite ?_ ?_)
      | (with_reducible refine LeO.bind ?_ (fun _ => ?_))
      | exact abutmentref01_Lower.mono _ _
      | exact LeO.none _
      | refine LeO.ite ?_ ?_
      | refine LeO.bind ?_ (fun _ => ?_)
set_option maxHeartbeats 8000000 in
set_option maxRecDepth 100000 in
theorem abutmentref11_Text.calls (k : Nat) (a0 : ByteArray) (a1 : Int) (r : ByteArray) (w : World) (h : abutmentref11_Text.f k a0 a1 = some r) :
    Calls Try.prog 47 #[.string a0, .int .i64 a1] w fun e w' => e = .returned (.string r) ∧ Below w.heap.size w w' := by
  have HB := Aside0.mk (Below.refl w.heap.size w)
  have H : ((abutmentref01_Lower.f k a0).bind fun t101 => (if a1 = 80 then (some t101) else (if t101.size + 1 ≤ 9223372036854775807 then ((abutmentref02_Text.f a1).bind fun t102 => (if (t101 ++ (⟨#[58]⟩ : ByteArray)).size + t102.size ≤ 9223372036854775807 then (some ((t101 ++ (⟨#[58]⟩ : ByteArray)) ++ t102)) else (none))) else (none)))) = some r := h
  clear h
  replace H := Option.bind_eq_some_iff.mp H
  obtain ⟨t101, A30, H⟩ := H
  replace H : (if a1 = 80 then (some t101) else (if t101.size + 1 ≤ 9223372036854775807 then ((abutmentref02_Text.f a1).bind fun t102 => (if (t101 ++ (⟨#[58]⟩ : ByteArray)).size + t102.size ≤ 9223372036854775807 then (some ((t101 ++ (⟨#[58]⟩ : ByteArray)) ++ t102)) else (none))) else (none))) = some r := H
  have A3 := Aside0.mk A30
  clear A30
  by_cases c4 : a1 = 80
  · rw [if_pos c4] at H
    have c4b0 : (a1 == 80) = true := beq_iff_eq.mpr c4
    have c4b1 : (a1 != 80) = false := bne_eq_false_iff_eq.mpr c4
    clear c4
    obtain rfl := Option.some.inj H
    go_enter Try.func47, Try.ntmps47
    go_wp2_with (first | ((with_reducible refine gate_callee (f := 71) rfl ?_); refine goesL_ (some 7) rfl rfl Try.func71 (by kernel_rfl) rfl #[.string a0] rfl (by (try simp only [List.map_toArray, List.map_cons, List.map_nil]); first | done | rfl | (simp only [List.length_drop, List.length_take]; rfl)) ?_; (with_reducible refine (abutmentref01_Lower.calls k a0 t101 _ A3.out).mono ?_); rintro e w5 ⟨rfl, hb⟩; refine ⟨_, rfl, ?_⟩; have n0_ := Aside0.mk (below_step (by repeat (first | (with_reducible first | exact HB.out | apply below_alloc | apply pw_below_drewN | apply below_drew1) | exact HB.out)) hb); clear HB; have HB := n0_; clear n0_; (try clear hb); (try clear hb2); (try clear hk); (try clear hi)))
    go_ret
    exact ⟨by first | rfl | (simp [errW_none, errW_some] <;> rfl) | (simp [*, errW_none, errW_some] <;> rfl), by repeat (first | (with_reducible first | exact HB.out | apply below_alloc | apply pw_below_drewN | apply below_drew1) | exact HB.out)⟩
  · rw [if_neg c4] at H
    have c4b0 : (a1 == 80) = false := beq_eq_false_iff_ne.mpr c4
    have c4b1 : (a1 != 80) = true := bne_iff_ne.mpr c4
    by_cases c6 : t101.size + 1 ≤ 9223372036854775807
    · rw [if_pos c6] at H
      have c6b0 := eq_true c6
      have c6b1 : decide (t101.size + 1 ≤ 9223372036854775807) = true := decide_eq_true c6
      try have c6b2 : (9223372036854775807 < t101.size + 1) = False := eq_false (Nat.not_lt.2 c6)
      replace H := Option.bind_eq_some_iff.mp H
      obtain ⟨t102, A70, H⟩ := H
      replace H : (if (t101 ++ (⟨#[58]⟩ : ByteArray)).size + t102.size ≤ 9223372036854775807 then (some ((t101 ++ (⟨#[58]⟩ : ByteArray)) ++ t102)) else (none)) = some r := H
      have A7 := Aside0.mk A70
      clear A70
      by_cases c8 : (t101 ++ (⟨#[58]⟩ : ByteArray)).size + t102.size ≤ 9223372036854775807
      · rw [if_pos c8] at H
        have c8b0 := eq_true c8
        have c8b1 : decide ((t101 ++ (⟨#[58]⟩ : ByteArray)).size + t102.size ≤ 9223372036854775807) = true := decide_eq_true c8
        try have c8b2 : (9223372036854775807 < (t101 ++ (⟨#[58]⟩ : ByteArray)).size + t102.size) = False := eq_false (Nat.not_lt.2 c8)
        try have c8b3 : (9223372036854775807 < t101.size + 1 + t102.size) = False := eq_false (Nat.not_lt.2 (by have z_ := c8; rw [ByteArray.size_append] at z_; exact z_))
        obtain rfl := Option.some.inj H
        go_enter Try.func47, Try.ntmps47
        go_wp2_with (first | ((with_reducible refine gate_callee (f := 71) rfl ?_); refine goesL_ (some 7) rfl rfl Try.func71 (by kernel_rfl) rfl #[.string a0] rfl (by (try simp only [List.map_toArray, List.map_cons, List.map_nil]); first | done | rfl | (simp only [List.length_drop, List.length_take]; rfl)) ?_; (with_reducible refine (abutmentref01_Lower.calls k a0 t101 _ A3.out).mono ?_); rintro e w9 ⟨rfl, hb⟩; refine ⟨_, rfl, ?_⟩; have n0_ := Aside0.mk (below_step (by repeat (first | (with_reducible first | exact HB.out | apply below_alloc | apply pw_below_drewN | apply below_drew1) | exact HB.out)) hb); clear HB; have HB := n0_; clear n0_; (try clear hb); (try clear hb2); (try clear hk); (try clear hi)) | ((with_reducible refine gate_callee (f := 26) rfl ?_); refine goesL_ (some 13) rfl rfl Try.func26 (by kernel_rfl) rfl #[.int .i64 a1] rfl (by (try simp only [List.map_toArray, List.map_cons, List.map_nil]); first | done | rfl | (simp only [List.length_drop, List.length_take]; rfl)) ?_; (with_reducible refine (abutmentref02_Text.calls a1 t102 _ A7.out).mono ?_); rintro e w10 ⟨rfl, hb⟩; refine ⟨_, rfl, ?_⟩; have n0_ := Aside0.mk (below_step (by repeat (first | (with_reducible first | exact HB.out | apply below_alloc | apply pw_below_drewN | apply below_drew1) | exact HB.out)) hb); clear HB; have HB := n0_; clear n0_; (try clear hb); (try clear hb2); (try clear hk); (try clear hi)))
        go_ret
        exact ⟨by first | rfl | (simp [errW_none, errW_some] <;> rfl) | (simp [*, errW_none, errW_some] <;> rfl), by repeat (first | (with_reducible first | exact HB.out | apply below_alloc | apply pw_below_drewN | apply below_drew1) | exact HB.out)⟩
      · rw [if_neg c8] at H
        exact absurd H (by simp)
    · rw [if_neg c6] at H
      exact absurd H (by simp)

end Go.Proofs.Ytdjmgmiaognncaa.X
namespace Go.Proofs.Ytdjmgmiaognncaa.X
open Go.RowKit Go.Proofs.YtdjmgmiaognncaaW.PrintWords Go.Proofs.YtdjmgmiaognncaaW.PrintLast Go.Proofs.YtdjmgmiaognncaaW.PrintMore
attribute [local go_sem] max2_int min2_int max_two min_two max_three min_three max_four min_four   -- for this text's walks alone
set_option linter.unusedVariables false
set_option linter.unusedSimpArgs false

/-! ### abutmentref11_Key: function 20 -/
def abutmentref11_Key.f (k : Nat) (a0 : ByteArray) : Option (ByteArray × Bool) := (abutmentref11_Parse.f k a0).bind fun bt101 => (if bt101.2.2 = 0 then ((abutmentref11_Text.f k bt101.1 bt101.2.1).bind fun t104 => (some (t104, true))) else (some ((⟨#[]⟩ : ByteArray), false)))
theorem abutmentref11_Key.mono : ∀ a0 k, LeO (abutmentref11_Key.f k a0) (abutmentref11_Key.f (k + 1) a0) := by
  intro a0 k
  unfold abutmentref11_Key.f
  repeat' first
      | (with_reducible exact abutmentref11_Parse.mono _ _)
      | (with_reducible exact abutmentref11_Text.mono _ _ _)
      | (with_reducible exact LeO.refl _)
      | (with_reducible exact LeO.none _)
      | (with_reducible refine LeO.ite ?_ ?_)
      | (with_reducible refine LeO.bind ?_ (fun _ => ?_))
      | exact abutmentref11_Parse.mono _ _
      | exact abutmentref11_Text.mono _ _ _
      | exact LeO.none _
      | refine LeO.ite ?_ ?_
      | refine LeO.bind ?_ (fun _ => ?_)
set_option maxHeartbeats 8000000 in
set_option maxRecDepth 100000 in
theorem abutmentref11_Key.calls (k : Nat) (a0 : ByteArray) (r1 : ByteArray) (r2 : Bool) (w : World) (h : abutmentref11_Key.f k a0 = some (r1, r2)) :
    Calls Try.prog 20 #[.string a0] w fun e w' => e = .returned (.tuple #[.string r1, .bool r2]) ∧ Below w.heap.size w w' := by
  have HB := Aside0.mk (Below.refl w.heap.size w)
  have H : ((abutmentref11_Parse.f k a0).bind fun bt101 => (if bt101.2.2 = 0 then ((abutmentref11_Text.f k bt101.1 bt101.2.1).bind fun t104 => (some (t104, true))) else (some ((⟨#[]⟩ : ByteArray), false)))) = some (r1, r2) := h
  clear h
  replace H := Option.bind_eq_some_iff.mp H
  obtain ⟨⟨t101, t102, t103⟩, A20, H⟩ := H
  replace H : (if t103 = 0 then ((abutmentref11_Text.f k t101 t102).bind fun t104 => (some (t104, true))) else (some ((⟨#[]⟩ : ByteArray), false))) = some (r1, r2) := H
  have A2 := Aside0.mk A20
  clear A20
  by_cases c3 : t103 = 0
  · rw [if_pos c3] at H
    have c3b0 : (t103 == 0) = true := beq_iff_eq.mpr c3
    have c3b1 : (t103 != 0) = false := bne_eq_false_iff_eq.mpr c3
    clear c3
    replace H := Option.bind_eq_some_iff.mp H
    obtain ⟨t104, A40, H⟩ := H
    replace H : (some (t104, true)) = some (r1, r2) := H
    have A4 := Aside0.mk A40
    clear A40
    simp only [Option.some.injEq, Prod.mk.injEq] at H
    obtain ⟨rfl, rfl⟩ := H
    go_enter Try.func20, Try.ntmps20
    go_wp2_with (first | ((with_reducible refine gate_callee (f := 39) rfl ?_); refine goesL_ (some 9) rfl rfl Try.func39 (by kernel_rfl) rfl #[.string a0] rfl (by (try simp only [List.map_toArray, List.map_cons, List.map_nil]); first | done | rfl | (simp only [List.length_drop, List.length_take]; rfl)) ?_; (with_reducible refine (abutmentref11_Parse.calls k a0 t101 t102 t103 _ A2.out).mono ?_); rintro e w' ⟨rfl, ⟨nd, rfl⟩⟩; refine ⟨_, rfl, ?_⟩) | ((with_reducible refine gate_callee (f := 47) rfl ?_); refine goesL_ (some 17) rfl rfl Try.func47 (by kernel_rfl) rfl #[.string t101, .int .i64 t102] rfl (by (try simp only [List.map_toArray, List.map_cons, List.map_nil]); first | done | rfl | (simp only [List.length_drop, List.length_take]; rfl)) ?_; (with_reducible refine (abutmentref11_Text.calls k t101 t102 t104 _ A4.out).mono ?_); rintro e w5 ⟨rfl, hb⟩; refine ⟨_, rfl, ?_⟩; have n0_ := Aside0.mk (below_step (by repeat (first | (with_reducible first | exact HB.out | apply below_alloc | apply pw_below_drewN | apply below_drew1) | exact HB.out)) hb); clear HB; have HB := n0_; clear n0_; (try clear hb); (try clear hb2); (try clear hk); (try clear hi)))
    go_ret2
    exact ⟨by first | rfl | (simp [errW_none, errW_some] <;> rfl) | (simp [*, errW_none, errW_some] <;> rfl), by repeat (first | (with_reducible first | exact HB.out | apply below_alloc | apply pw_below_drewN | apply below_drew1) | exact HB.out)⟩
  · rw [if_neg c3] at H
    have c3b0 : (t103 == 0) = false := beq_eq_false_iff_ne.mpr c3
    have c3b1 : (t103 != 0) = true := bne_iff_ne.mpr c3
    simp only [Option.some.injEq, Prod.mk.injEq] at H
    obtain ⟨rfl, rfl⟩ := H
    go_enter Try.func20, Try.ntmps20
    go_wp2_with (first | ((with_reducible refine gate_callee (f := 39) rfl ?_); refine goesL_ (some 9) rfl rfl Try.func39 (by kernel_rfl) rfl #[.string a0] rfl (by (try simp only [List.map_toArray, List.map_cons, List.map_nil]); first | done | rfl | (simp only [List.length_drop, List.length_take]; rfl)) ?_; (with_reducible refine (abutmentref11_Parse.calls k a0 t101 t102 t103 _ A2.out).mono ?_); rintro e w' ⟨rfl, ⟨nd, rfl⟩⟩; refine ⟨_, rfl, ?_⟩))
    go_ret2
    exact ⟨by first | rfl | (simp [errW_none, errW_some] <;> rfl) | (simp [*, errW_none, errW_some] <;> rfl), by repeat (first | (with_reducible first | exact HB.out | apply below_alloc | apply pw_below_drewN | apply below_drew1) | exact HB.out)⟩

end Go.Proofs.Ytdjmgmiaognncaa.X
namespace Go.Proofs.Ytdjmgmiaognncaa.X
open Go.RowKit Go.Proofs.YtdjmgmiaognncaaW.PrintWords Go.Proofs.YtdjmgmiaognncaaW.PrintLast Go.Proofs.YtdjmgmiaognncaaW.PrintMore
attribute [local go_sem] max2_int min2_int max_two min_two max_three min_three max_four min_four   -- for this text's walks alone
set_option linter.unusedVariables false
set_option linter.unusedSimpArgs false

/-! ### abutmentref13_Numbers: function 21 -/
def abutmentref13_Numbers.f (a0_0 : ByteArray) (a0_1 : ByteArray) (a0_2 : Int) (a0_3 : Int) (a0_4 : Int) (a0_5 : Int) (a0_6 : Int) (a0_7 : Int) (a0_8 : Int) (a0_9 : Int) (a0_10 : Int) (a0_11 : Int) (a0_12 : Int) (a0_13 : Int) (a0_14 : Int) (a0_15 : Int) (a0_16 : Int) (a0_17 : Int) : Option (List Int) := some (([a0_2, a0_3, a0_4, a0_5, a0_6, a0_7, a0_8, a0_9, a0_10, a0_11, a0_12, a0_13, a0_14, a0_15, a0_16, a0_17] : List Int))
set_option maxHeartbeats 8000000 in
set_option maxRecDepth 100000 in
theorem abutmentref13_Numbers.calls (a0_0 : ByteArray) (a0_1 : ByteArray) (a0_2 : Int) (a0_3 : Int) (a0_4 : Int) (a0_5 : Int) (a0_6 : Int) (a0_7 : Int) (a0_8 : Int) (a0_9 : Int) (a0_10 : Int) (a0_11 : Int) (a0_12 : Int) (a0_13 : Int) (a0_14 : Int) (a0_15 : Int) (a0_16 : Int) (a0_17 : Int) (r : List Int) (w : World) (h : abutmentref13_Numbers.f a0_0 a0_1 a0_2 a0_3 a0_4 a0_5 a0_6 a0_7 a0_8 a0_9 a0_10 a0_11 a0_12 a0_13 a0_14 a0_15 a0_16 a0_17 = some r) :
    Calls Try.prog 21 #[.agg #[.string a0_0, .string a0_1, .int .i64 a0_2, .int .i64 a0_3, .int .i64 a0_4, .int .i64 a0_5, .int .i64 a0_6, .int .i64 a0_7, .int .i64 a0_8, .int .i64 a0_9, .int .i64 a0_10, .int .i64 a0_11, .int .i64 a0_12, .int .i64 a0_13, .int .i64 a0_14, .int .i64 a0_15, .int .i64 a0_16, .int .i64 a0_17]] w fun e w' => ∃ v0_ : Value, e = .returned (v0_) ∧ Kd.R (Kd.int .i64) 3 w' w.heap.size (fun _ => True) v0_ r ∧ Below w.heap.size w w' := by
  have hu25 := Try.underlying25
  have hu23 := Try.underlying23
  have HB := Aside0.mk (Below.refl w.heap.size w)
  have H : (some (([a0_2, a0_3, a0_4, a0_5, a0_6, a0_7, a0_8, a0_9, a0_10, a0_11, a0_12, a0_13, a0_14, a0_15, a0_16, a0_17] : List Int))) = some r := h
  clear h
  obtain ⟨y103, hy103⟩ : ∃ y_ : List Int, y_ = (([a0_2, a0_3, a0_4, a0_5, a0_6, a0_7, a0_8, a0_9, a0_10, a0_11, a0_12, a0_13, a0_14, a0_15, a0_16, a0_17] : List Int)) := ⟨_, rfl⟩
  replace H : (some y103) = some r := by first | (rw [hy103]; with_reducible exact H) | (have H2_ := (Option.bind_some _ _).symm.trans H; rw [hy103]; with_reducible exact H2_) | (have H2_ := (Option.bind_some _ _).symm.trans H; with_reducible exact H2_) | with_reducible exact H | (rw [hy103]; exact H) | exact H
  have Ny103 := Aside0.mk hy103
  clear hy103
  obtain rfl := Option.some.inj H
  go_enter Try.func21, Try.ntmps21
  go_wp2_with (first | ((with_reducible refine gate_dst (N := 1) rfl ?_); refine box_event ?hg (N := 1) ?hd (cs := #[.string a0_0, .string a0_1, .int .i64 a0_2, .int .i64 a0_3, .int .i64 a0_4, .int .i64 a0_5, .int .i64 a0_6, .int .i64 a0_7, .int .i64 a0_8, .int .i64 a0_9, .int .i64 a0_10, .int .i64 a0_11, .int .i64 a0_12, .int .i64 a0_13, .int .i64 a0_14, .int .i64 a0_15, .int .i64 a0_16, .int .i64 a0_17]) (t := 25) ?hr ?_; (case hd => rfl); (case hg => rfl); (case hr => first | (go_simp; done) | (go_simp; rfl)); intro gb101 hg w2 hbox hb; have n0_ := Aside0.mk (below_step (by repeat (first | (with_reducible first | exact HB.out | apply below_alloc | apply pw_below_drewN | apply below_drew1) | exact HB.out)) hb); have n1_ := Aside0.mk (hbox); have n2_ := Aside0.mk ((by rw [hg]; exact (below_size (by repeat (first | (with_reducible first | exact HB.out | apply below_alloc | apply pw_below_drewN | apply below_drew1) | exact HB.out))) : w.heap.size ≤ gb101)); have n3_ := Aside0.mk ((by rw [hg]; exact (below_size (by repeat (first | (with_reducible first | exact HB.out | apply below_alloc | apply pw_below_drewN | apply below_drew1) | exact HB.out))) : w.heap.size ≤ gb101)); clear HB; have HB := n0_; have BK101 := n1_; have GW101 := n2_; have GE101 := n3_; clear n0_ n1_ n2_ n3_; clear hb hbox hg; have hcz3_0 : w2.cell? ⟨gb101, 0, none⟩ = some (.string a0_0) := (blk_cell BK101.out 0).trans rfl; have hcz3_1 : w2.cell? ⟨gb101, 1, none⟩ = some (.string a0_1) := (blk_cell BK101.out 1).trans rfl; have hcz3_2 : w2.cell? ⟨gb101, 2, none⟩ = some (.int .i64 a0_2) := (blk_cell BK101.out 2).trans rfl; have hcz3_3 : w2.cell? ⟨gb101, 3, none⟩ = some (.int .i64 a0_3) := (blk_cell BK101.out 3).trans rfl; have hcz3_4 : w2.cell? ⟨gb101, 4, none⟩ = some (.int .i64 a0_4) := (blk_cell BK101.out 4).trans rfl; have hcz3_5 : w2.cell? ⟨gb101, 5, none⟩ = some (.int .i64 a0_5) := (blk_cell BK101.out 5).trans rfl; have hcz3_6 : w2.cell? ⟨gb101, 6, none⟩ = some (.int .i64 a0_6) := (blk_cell BK101.out 6).trans rfl; have hcz3_7 : w2.cell? ⟨gb101, 7, none⟩ = some (.int .i64 a0_7) := (blk_cell BK101.out 7).trans rfl; have hcz3_8 : w2.cell? ⟨gb101, 8, none⟩ = some (.int .i64 a0_8) := (blk_cell BK101.out 8).trans rfl; have hcz3_9 : w2.cell? ⟨gb101, 9, none⟩ = some (.int .i64 a0_9) := (blk_cell BK101.out 9).trans rfl; have hcz3_10 : w2.cell? ⟨gb101, 10, none⟩ = some (.int .i64 a0_10) := (blk_cell BK101.out 10).trans rfl; have hcz3_11 : w2.cell? ⟨gb101, 11, none⟩ = some (.int .i64 a0_11) := (blk_cell BK101.out 11).trans rfl; have hcz3_12 : w2.cell? ⟨gb101, 12, none⟩ = some (.int .i64 a0_12) := (blk_cell BK101.out 12).trans rfl; have hcz3_13 : w2.cell? ⟨gb101, 13, none⟩ = some (.int .i64 a0_13) := (blk_cell BK101.out 13).trans rfl; have hcz3_14 : w2.cell? ⟨gb101, 14, none⟩ = some (.int .i64 a0_14) := (blk_cell BK101.out 14).trans rfl; have hcz3_15 : w2.cell? ⟨gb101, 15, none⟩ = some (.int .i64 a0_15) := (blk_cell BK101.out 15).trans rfl; have hcz3_16 : w2.cell? ⟨gb101, 16, none⟩ = some (.int .i64 a0_16) := (blk_cell BK101.out 16).trans rfl; have hcz3_17 : w2.cell? ⟨gb101, 17, none⟩ = some (.int .i64 a0_17) := (blk_cell BK101.out 17).trans rfl; have hfz3_0 := blk_frozen BK101.out 0; have hfz3_1 := blk_frozen BK101.out 1; have hfz3_2 := blk_frozen BK101.out 2; have hfz3_3 := blk_frozen BK101.out 3; have hfz3_4 := blk_frozen BK101.out 4; have hfz3_5 := blk_frozen BK101.out 5; have hfz3_6 := blk_frozen BK101.out 6; have hfz3_7 := blk_frozen BK101.out 7; have hfz3_8 := blk_frozen BK101.out 8; have hfz3_9 := blk_frozen BK101.out 9; have hfz3_10 := blk_frozen BK101.out 10; have hfz3_11 := blk_frozen BK101.out 11; have hfz3_12 := blk_frozen BK101.out 12; have hfz3_13 := blk_frozen BK101.out 13; have hfz3_14 := blk_frozen BK101.out 14; have hfz3_15 := blk_frozen BK101.out 15; have hfz3_16 := blk_frozen BK101.out 16; have hfz3_17 := blk_frozen BK101.out 17) | ((with_reducible refine gate_dst (N := 3) rfl ?_); refine box_event ?hg (N := 3) ?hd (cs := #[.int .i64 0, .int .i64 0, .int .i64 0, .int .i64 0, .int .i64 0]) (t := 23) ?hr ?_; (case hd => rfl); (case hg => rfl); (case hr => first | (go_simp; done) | (go_simp; rfl)); intro gb102 hg w4 hbox hb; have n0_ := Aside0.mk (blk_below (g := gb101) (o := .cells #[.string a0_0, .string a0_1, .int .i64 a0_2, .int .i64 a0_3, .int .i64 a0_4, .int .i64 a0_5, .int .i64 a0_6, .int .i64 a0_7, .int .i64 a0_8, .int .i64 a0_9, .int .i64 a0_10, .int .i64 a0_11, .int .i64 a0_12, .int .i64 a0_13, .int .i64 a0_14, .int .i64 a0_15, .int .i64 a0_16, .int .i64 a0_17] 25 (0, 0)) (by (with_reducible repeat (first | refine blk_drewN ?_ _ | refine blk_drew ?_ | refine blk_alloc ?_ _)); exact BK101.out) hb); have n1_ := Aside0.mk (below_step (by repeat (first | (with_reducible first | exact HB.out | apply below_alloc | apply pw_below_drewN | apply below_drew1 | refine below_set ?_ GE101.out) | exact HB.out)) hb); have n2_ := Aside0.mk (hbox); have n3_ := Aside0.mk ((by rw [hg]; exact (below_size (by repeat (first | (with_reducible first | exact HB.out | apply below_alloc | apply pw_below_drewN | apply below_drew1 | refine below_set ?_ GE101.out) | exact HB.out))) : w.heap.size ≤ gb102)); have n4_ := Aside0.mk ((by rw [hg]; exact (below_size (by repeat (first | (with_reducible first | exact HB.out | apply below_alloc | apply pw_below_drewN | apply below_drew1 | refine below_set ?_ GE101.out) | exact HB.out))) : w.heap.size ≤ gb102)); have n5_ := Aside0.mk ((by rw [hg]; exact Nat.ne_of_lt (blk_lt (g := gb101) (o := .cells #[.string a0_0, .string a0_1, .int .i64 a0_2, .int .i64 a0_3, .int .i64 a0_4, .int .i64 a0_5, .int .i64 a0_6, .int .i64 a0_7, .int .i64 a0_8, .int .i64 a0_9, .int .i64 a0_10, .int .i64 a0_11, .int .i64 a0_12, .int .i64 a0_13, .int .i64 a0_14, .int .i64 a0_15, .int .i64 a0_16, .int .i64 a0_17] 25 (0, 0)) (by (with_reducible repeat (first | refine blk_drewN ?_ _ | refine blk_drew ?_ | refine blk_alloc ?_ _)); exact BK101.out)) : gb101 ≠ gb102)); have n6_ := Aside0.mk ((by rw [hg]; exact Nat.ne_of_gt (blk_lt (g := gb101) (o := .cells #[.string a0_0, .string a0_1, .int .i64 a0_2, .int .i64 a0_3, .int .i64 a0_4, .int .i64 a0_5, .int .i64 a0_6, .int .i64 a0_7, .int .i64 a0_8, .int .i64 a0_9, .int .i64 a0_10, .int .i64 a0_11, .int .i64 a0_12, .int .i64 a0_13, .int .i64 a0_14, .int .i64 a0_15, .int .i64 a0_16, .int .i64 a0_17] 25 (0, 0)) (by (with_reducible repeat (first | refine blk_drewN ?_ _ | refine blk_drew ?_ | refine blk_alloc ?_ _)); exact BK101.out)) : gb102 ≠ gb101)); clear BK101; clear HB; have BK101 := n0_; have HB := n1_; have BK102 := n2_; have GW102 := n3_; have GE102 := n4_; have NB101_102 := n5_; have NB102_101 := n6_; clear n0_ n1_ n2_ n3_ n4_ n5_ n6_; clear hb hbox hg; have hnb5 := NB102_101.out; have hnc5 := NB101_102.out; have hcz6_0 : w4.cell? ⟨gb102, 0, none⟩ = some (.int .i64 0) := (blk_cell BK102.out 0).trans rfl; have hcz6_1 : w4.cell? ⟨gb102, 1, none⟩ = some (.int .i64 0) := (blk_cell BK102.out 1).trans rfl; have hcz6_2 : w4.cell? ⟨gb102, 2, none⟩ = some (.int .i64 0) := (blk_cell BK102.out 2).trans rfl; have hcz6_3 : w4.cell? ⟨gb102, 3, none⟩ = some (.int .i64 0) := (blk_cell BK102.out 3).trans rfl; have hcz6_4 : w4.cell? ⟨gb102, 4, none⟩ = some (.int .i64 0) := (blk_cell BK102.out 4).trans rfl; have hfz6_0 := blk_frozen BK102.out 0; have hfz6_1 := blk_frozen BK102.out 1; have hfz6_2 := blk_frozen BK102.out 2; have hfz6_3 := blk_frozen BK102.out 3; have hfz6_4 := blk_frozen BK102.out 4; have hcz7_0 : w4.cell? ⟨gb101, 0, none⟩ = some (.string a0_0) := (blk_cell BK101.out 0).trans rfl; have hcz7_1 : w4.cell? ⟨gb101, 1, none⟩ = some (.string a0_1) := (blk_cell BK101.out 1).trans rfl; have hcz7_2 : w4.cell? ⟨gb101, 2, none⟩ = some (.int .i64 a0_2) := (blk_cell BK101.out 2).trans rfl; have hcz7_3 : w4.cell? ⟨gb101, 3, none⟩ = some (.int .i64 a0_3) := (blk_cell BK101.out 3).trans rfl; have hcz7_4 : w4.cell? ⟨gb101, 4, none⟩ = some (.int .i64 a0_4) := (blk_cell BK101.out 4).trans rfl; have hcz7_5 : w4.cell? ⟨gb101, 5, none⟩ = some (.int .i64 a0_5) := (blk_cell BK101.out 5).trans rfl; have hcz7_6 : w4.cell? ⟨gb101, 6, none⟩ = some (.int .i64 a0_6) := (blk_cell BK101.out 6).trans rfl; have hcz7_7 : w4.cell? ⟨gb101, 7, none⟩ = some (.int .i64 a0_7) := (blk_cell BK101.out 7).trans rfl; have hcz7_8 : w4.cell? ⟨gb101, 8, none⟩ = some (.int .i64 a0_8) := (blk_cell BK101.out 8).trans rfl; have hcz7_9 : w4.cell? ⟨gb101, 9, none⟩ = some (.int .i64 a0_9) := (blk_cell BK101.out 9).trans rfl; have hcz7_10 : w4.cell? ⟨gb101, 10, none⟩ = some (.int .i64 a0_10) := (blk_cell BK101.out 10).trans rfl; have hcz7_11 : w4.cell? ⟨gb101, 11, none⟩ = some (.int .i64 a0_11) := (blk_cell BK101.out 11).trans rfl; have hcz7_12 : w4.cell? ⟨gb101, 12, none⟩ = some (.int .i64 a0_12) := (blk_cell BK101.out 12).trans rfl; have hcz7_13 : w4.cell? ⟨gb101, 13, none⟩ = some (.int .i64 a0_13) := (blk_cell BK101.out 13).trans rfl; have hcz7_14 : w4.cell? ⟨gb101, 14, none⟩ = some (.int .i64 a0_14) := (blk_cell BK101.out 14).trans rfl; have hcz7_15 : w4.cell? ⟨gb101, 15, none⟩ = some (.int .i64 a0_15) := (blk_cell BK101.out 15).trans rfl; have hcz7_16 : w4.cell? ⟨gb101, 16, none⟩ = some (.int .i64 a0_16) := (blk_cell BK101.out 16).trans rfl; have hcz7_17 : w4.cell? ⟨gb101, 17, none⟩ = some (.int .i64 a0_17) := (blk_cell BK101.out 17).trans rfl; have hfz7_0 := blk_frozen BK101.out 0; have hfz7_1 := blk_frozen BK101.out 1; have hfz7_2 := blk_frozen BK101.out 2; have hfz7_3 := blk_frozen BK101.out 3; have hfz7_4 := blk_frozen BK101.out 4; have hfz7_5 := blk_frozen BK101.out 5; have hfz7_6 := blk_frozen BK101.out 6; have hfz7_7 := blk_frozen BK101.out 7; have hfz7_8 := blk_frozen BK101.out 8; have hfz7_9 := blk_frozen BK101.out 9; have hfz7_10 := blk_frozen BK101.out 10; have hfz7_11 := blk_frozen BK101.out 11; have hfz7_12 := blk_frozen BK101.out 12; have hfz7_13 := blk_frozen BK101.out 13; have hfz7_14 := blk_frozen BK101.out 14; have hfz7_15 := blk_frozen BK101.out 15; have hfz7_16 := blk_frozen BK101.out 16; have hfz7_17 := blk_frozen BK101.out 17) | ((with_reducible refine gate_dst (N := 38) rfl ?_); refine Kd.R_lit (Kd.int .i64) _ 3 ?hg (N := 38) ?hd (xs := ([a0_2, a0_3, a0_4, a0_5, a0_6, a0_7, a0_8, a0_9, a0_10, a0_11, a0_12, a0_13, a0_14, a0_15, a0_16, a0_17] : List Int)) (inner := [.int .i64 a0_2, .int .i64 a0_3, .int .i64 a0_4, .int .i64 a0_5, .int .i64 a0_6, .int .i64 a0_7, .int .i64 a0_8, .int .i64 a0_9, .int .i64 a0_10, .int .i64 a0_11, .int .i64 a0_12, .int .i64 a0_13, .int .i64 a0_14, .int .i64 a0_15, .int .i64 a0_16, .int .i64 a0_17]) (ok := fun _ => True) (okp := fun _ => True) ?hr ?hp (fun _ hk => hk) trivial (Below.refl _ _) (Nat.le_refl _) (by simp) ?_; (case hd => rfl); (case hg => rfl); (case hr => first | (go_simp; done) | (go_simp; rfl)); (case hp => exact (Reps.one (show Kd.M (Kd.int .i64) _ _ _ a0_2 [.int .i64 a0_2] from rfl) (Reps.one (show Kd.M (Kd.int .i64) _ _ _ a0_3 [.int .i64 a0_3] from rfl) (Reps.one (show Kd.M (Kd.int .i64) _ _ _ a0_4 [.int .i64 a0_4] from rfl) (Reps.one (show Kd.M (Kd.int .i64) _ _ _ a0_5 [.int .i64 a0_5] from rfl) (Reps.one (show Kd.M (Kd.int .i64) _ _ _ a0_6 [.int .i64 a0_6] from rfl) (Reps.one (show Kd.M (Kd.int .i64) _ _ _ a0_7 [.int .i64 a0_7] from rfl) (Reps.one (show Kd.M (Kd.int .i64) _ _ _ a0_8 [.int .i64 a0_8] from rfl) (Reps.one (show Kd.M (Kd.int .i64) _ _ _ a0_9 [.int .i64 a0_9] from rfl) (Reps.one (show Kd.M (Kd.int .i64) _ _ _ a0_10 [.int .i64 a0_10] from rfl) (Reps.one (show Kd.M (Kd.int .i64) _ _ _ a0_11 [.int .i64 a0_11] from rfl) (Reps.one (show Kd.M (Kd.int .i64) _ _ _ a0_12 [.int .i64 a0_12] from rfl) (Reps.one (show Kd.M (Kd.int .i64) _ _ _ a0_13 [.int .i64 a0_13] from rfl) (Reps.one (show Kd.M (Kd.int .i64) _ _ _ a0_14 [.int .i64 a0_14] from rfl) (Reps.one (show Kd.M (Kd.int .i64) _ _ _ a0_15 [.int .i64 a0_15] from rfl) (Reps.one (show Kd.M (Kd.int .i64) _ _ _ a0_16 [.int .i64 a0_16] from rfl) (Reps.one (show Kd.M (Kd.int .i64) _ _ _ a0_17 [.int .i64 a0_17] from rfl) (Reps.none _ _)))))))))))))))))); intro v104 w8 ho9 hb hg_ hnew_; clear hg_ hnew_; (first | rw [← Ny103.out] at ho9 | (simp only [Int.reduceToNat] at ho9; rw [← Ny103.out] at ho9)); have n0_ := Aside0.mk (Kd.R_lower ho9 (below_size (by repeat (first | (with_reducible first | exact HB.out | apply below_alloc | apply pw_below_drewN | apply below_drew1 | refine below_set ?_ GE101.out | refine below_set ?_ GE102.out) | exact HB.out)))); have n1_ := Aside0.mk (blk_below (g := gb101) (o := .cells #[.string a0_0, .string a0_1, .int .i64 a0_2, .int .i64 a0_3, .int .i64 a0_4, .int .i64 a0_5, .int .i64 a0_6, .int .i64 a0_7, .int .i64 a0_8, .int .i64 a0_9, .int .i64 a0_10, .int .i64 a0_11, .int .i64 a0_12, .int .i64 a0_13, .int .i64 a0_14, .int .i64 a0_15, .int .i64 a0_16, .int .i64 a0_17] 25 (0, 0)) (by (with_reducible repeat (first | refine blk_drewN ?_ _ | refine blk_drew ?_ | refine blk_alloc ?_ _)); refine blk_far ?_ NB101_102.out _; (with_reducible repeat (first | refine blk_drewN ?_ _ | refine blk_drew ?_ | refine blk_alloc ?_ _)); refine blk_far ?_ NB101_102.out _; (with_reducible repeat (first | refine blk_drewN ?_ _ | refine blk_drew ?_ | refine blk_alloc ?_ _)); refine blk_far ?_ NB101_102.out _; (with_reducible repeat (first | refine blk_drewN ?_ _ | refine blk_drew ?_ | refine blk_alloc ?_ _)); refine blk_far ?_ NB101_102.out _; (with_reducible repeat (first | refine blk_drewN ?_ _ | refine blk_drew ?_ | refine blk_alloc ?_ _)); refine blk_far ?_ NB101_102.out _; (with_reducible repeat (first | refine blk_drewN ?_ _ | refine blk_drew ?_ | refine blk_alloc ?_ _)); exact BK101.out) hb); have n2_ := Aside0.mk (blk_below (g := gb102) (o := .cells #[.int .i64 a0_13, .int .i64 a0_14, .int .i64 a0_15, .int .i64 a0_16, .int .i64 a0_17] 23 (0, 0)) (by (with_reducible repeat (first | refine blk_drewN ?_ _ | refine blk_drew ?_ | refine blk_alloc ?_ _)); refine blk_put (cs := #[.int .i64 a0_13, .int .i64 a0_14, .int .i64 a0_15, .int .i64 a0_16, .int .i64 0]) ?_ 4 _ rfl; (with_reducible repeat (first | refine blk_drewN ?_ _ | refine blk_drew ?_ | refine blk_alloc ?_ _)); refine blk_put (cs := #[.int .i64 a0_13, .int .i64 a0_14, .int .i64 a0_15, .int .i64 0, .int .i64 0]) ?_ 3 _ rfl; (with_reducible repeat (first | refine blk_drewN ?_ _ | refine blk_drew ?_ | refine blk_alloc ?_ _)); refine blk_put (cs := #[.int .i64 a0_13, .int .i64 a0_14, .int .i64 0, .int .i64 0, .int .i64 0]) ?_ 2 _ rfl; (with_reducible repeat (first | refine blk_drewN ?_ _ | refine blk_drew ?_ | refine blk_alloc ?_ _)); refine blk_put (cs := #[.int .i64 a0_13, .int .i64 0, .int .i64 0, .int .i64 0, .int .i64 0]) ?_ 1 _ rfl; (with_reducible repeat (first | refine blk_drewN ?_ _ | refine blk_drew ?_ | refine blk_alloc ?_ _)); refine blk_put (cs := #[.int .i64 0, .int .i64 0, .int .i64 0, .int .i64 0, .int .i64 0]) ?_ 0 _ rfl; (with_reducible repeat (first | refine blk_drewN ?_ _ | refine blk_drew ?_ | refine blk_alloc ?_ _)); exact BK102.out) hb); have n3_ := Aside0.mk (below_step (by repeat (first | (with_reducible first | exact HB.out | apply below_alloc | apply pw_below_drewN | apply below_drew1 | refine below_set ?_ GE101.out | refine below_set ?_ GE102.out) | exact HB.out)) hb); clear BK101; clear BK102; clear HB; have HO105 := n0_; have BK101 := n1_; have BK102 := n2_; have HB := n3_; clear n0_ n1_ n2_ n3_; clear hb ho9))
  go_ret
  exact ⟨_, by first | rfl | (simp [errW_none, errW_some] <;> rfl) | (simp [*, errW_none, errW_some] <;> rfl), by (with_reducible repeat (first | apply Kd.R_alloc | apply Kd.R_drewN | apply Kd.R_drew)); exact HO105.out, by repeat (first | (with_reducible first | exact HB.out | apply below_alloc | apply pw_below_drewN | apply below_drew1 | refine below_set ?_ GE101.out | refine below_set ?_ GE102.out) | exact HB.out)⟩

end Go.Proofs.Ytdjmgmiaognncaa.X
namespace Go.Proofs.Ytdjmgmiaognncaa.X
open Go.RowKit Go.Proofs.YtdjmgmiaognncaaW.PrintWords Go.Proofs.YtdjmgmiaognncaaW.PrintLast Go.Proofs.YtdjmgmiaognncaaW.PrintMore
attribute [local go_sem] max2_int min2_int max_two min_two max_three min_three max_four min_four   -- for this text's walks alone
set_option linter.unusedVariables false
set_option linter.unusedSimpArgs false

/-! ### abutmentref13_least: function 22 -/
def abutmentref13_least.f  : Option (List Int) := some (([0, 0, 0, 0, 1, 1, 0, 0, 1, 1, 0, 16, 1, 3, 0, 0] : List Int))
set_option maxHeartbeats 8000000 in
set_option maxRecDepth 100000 in
theorem abutmentref13_least.calls  (r : List Int) (w : World) (h : abutmentref13_least.f  = some r) :
    Calls Try.prog 22 #[] w fun e w' => ∃ v0_ : Value, e = .returned (v0_) ∧ Kd.R (Kd.int .i64) 3 w' w.heap.size (fun _ => True) v0_ r ∧ Below w.heap.size w w' := by
  have HB := Aside0.mk (Below.refl w.heap.size w)
  have H : (some (([0, 0, 0, 0, 1, 1, 0, 0, 1, 1, 0, 16, 1, 3, 0, 0] : List Int))) = some r := h
  clear h
  obtain ⟨y101, hy101⟩ : ∃ y_ : List Int, y_ = (([0, 0, 0, 0, 1, 1, 0, 0, 1, 1, 0, 16, 1, 3, 0, 0] : List Int)) := ⟨_, rfl⟩
  replace H : (some y101) = some r := by first | (rw [hy101]; with_reducible exact H) | (have H2_ := (Option.bind_some _ _).symm.trans H; rw [hy101]; with_reducible exact H2_) | (have H2_ := (Option.bind_some _ _).symm.trans H; with_reducible exact H2_) | with_reducible exact H | (rw [hy101]; exact H) | exact H
  have Ny101 := Aside0.mk hy101
  clear hy101
  obtain rfl := Option.some.inj H
  go_enter Try.func22, Try.ntmps22
  go_wp2_with (first | ((with_reducible refine gate_dst (N := 1) rfl ?_); refine Kd.R_lit (Kd.int .i64) _ 3 ?hg (N := 1) ?hd (xs := ([0, 0, 0, 0, 1, 1, 0, 0, 1, 1, 0, 16, 1, 3, 0, 0] : List Int)) (inner := [.int .i64 0, .int .i64 0, .int .i64 0, .int .i64 0, .int .i64 1, .int .i64 1, .int .i64 0, .int .i64 0, .int .i64 1, .int .i64 1, .int .i64 0, .int .i64 16, .int .i64 1, .int .i64 3, .int .i64 0, .int .i64 0]) (ok := fun _ => True) (okp := fun _ => True) ?hr ?hp (fun _ hk => hk) trivial (Below.refl _ _) (Nat.le_refl _) (by simp) ?_; (case hd => rfl); (case hg => rfl); (case hr => first | (go_simp; done) | (go_simp; rfl)); (case hp => exact (Reps.one (show Kd.M (Kd.int .i64) _ _ _ 0 [.int .i64 0] from rfl) (Reps.one (show Kd.M (Kd.int .i64) _ _ _ 0 [.int .i64 0] from rfl) (Reps.one (show Kd.M (Kd.int .i64) _ _ _ 0 [.int .i64 0] from rfl) (Reps.one (show Kd.M (Kd.int .i64) _ _ _ 0 [.int .i64 0] from rfl) (Reps.one (show Kd.M (Kd.int .i64) _ _ _ 1 [.int .i64 1] from rfl) (Reps.one (show Kd.M (Kd.int .i64) _ _ _ 1 [.int .i64 1] from rfl) (Reps.one (show Kd.M (Kd.int .i64) _ _ _ 0 [.int .i64 0] from rfl) (Reps.one (show Kd.M (Kd.int .i64) _ _ _ 0 [.int .i64 0] from rfl) (Reps.one (show Kd.M (Kd.int .i64) _ _ _ 1 [.int .i64 1] from rfl) (Reps.one (show Kd.M (Kd.int .i64) _ _ _ 1 [.int .i64 1] from rfl) (Reps.one (show Kd.M (Kd.int .i64) _ _ _ 0 [.int .i64 0] from rfl) (Reps.one (show Kd.M (Kd.int .i64) _ _ _ 16 [.int .i64 16] from rfl) (Reps.one (show Kd.M (Kd.int .i64) _ _ _ 1 [.int .i64 1] from rfl) (Reps.one (show Kd.M (Kd.int .i64) _ _ _ 3 [.int .i64 3] from rfl) (Reps.one (show Kd.M (Kd.int .i64) _ _ _ 0 [.int .i64 0] from rfl) (Reps.one (show Kd.M (Kd.int .i64) _ _ _ 0 [.int .i64 0] from rfl) (Reps.none _ _)))))))))))))))))); intro v102 w1 ho2 hb hg_ hnew_; clear hg_ hnew_; (first | rw [← Ny101.out] at ho2 | (simp only [Int.reduceToNat] at ho2; rw [← Ny101.out] at ho2)); have n0_ := Aside0.mk (Kd.R_lower ho2 (below_size (by repeat (first | (with_reducible first | exact HB.out | apply below_alloc | apply pw_below_drewN | apply below_drew1) | exact HB.out)))); have n1_ := Aside0.mk (below_step (by repeat (first | (with_reducible first | exact HB.out | apply below_alloc | apply pw_below_drewN | apply below_drew1) | exact HB.out)) hb); clear HB; have HO103 := n0_; have HB := n1_; clear n0_ n1_; clear hb ho2))
  go_ret
  exact ⟨_, by first | rfl | (simp [errW_none, errW_some] <;> rfl) | (simp [*, errW_none, errW_some] <;> rfl), by (with_reducible repeat (first | apply Kd.R_alloc | apply Kd.R_drewN | apply Kd.R_drew)); exact HO103.out, by repeat (first | (with_reducible first | exact HB.out | apply below_alloc | apply pw_below_drewN | apply below_drew1) | exact HB.out)⟩

end Go.Proofs.Ytdjmgmiaognncaa.X
namespace Go.Proofs.Ytdjmgmiaognncaa.X
open Go.RowKit Go.Proofs.YtdjmgmiaognncaaW.PrintWords Go.Proofs.YtdjmgmiaognncaaW.PrintLast Go.Proofs.YtdjmgmiaognncaaW.PrintMore
attribute [local go_sem] max2_int min2_int max_two min_two max_three min_three max_four min_four   -- for this text's walks alone
set_option linter.unusedVariables false
set_option linter.unusedSimpArgs false

/-! ### abutmentref13_most: function 23 -/
def abutmentref13_most.f  : Option (List Int) := some (([1, 1, 1, 1, 65536, 65536, 100, 1073741824, 16, 16, 1, 65536, 1000, 4096, 1048576, 1] : List Int))
set_option maxHeartbeats 8000000 in
set_option maxRecDepth 100000 in
theorem abutmentref13_most.calls  (r : List Int) (w : World) (h : abutmentref13_most.f  = some r) :
    Calls Try.prog 23 #[] w fun e w' => ∃ v0_ : Value, e = .returned (v0_) ∧ Kd.R (Kd.int .i64) 3 w' w.heap.size (fun _ => True) v0_ r ∧ Below w.heap.size w w' := by
  have HB := Aside0.mk (Below.refl w.heap.size w)
  have H : (some (([1, 1, 1, 1, 65536, 65536, 100, 1073741824, 16, 16, 1, 65536, 1000, 4096, 1048576, 1] : List Int))) = some r := h
  clear h
  obtain ⟨y101, hy101⟩ : ∃ y_ : List Int, y_ = (([1, 1, 1, 1, 65536, 65536, 100, 1073741824, 16, 16, 1, 65536, 1000, 4096, 1048576, 1] : List Int)) := ⟨_, rfl⟩
  replace H : (some y101) = some r := by first | (rw [hy101]; with_reducible exact H) | (have H2_ := (Option.bind_some _ _).symm.trans H; rw [hy101]; with_reducible exact H2_) | (have H2_ := (Option.bind_some _ _).symm.trans H; with_reducible exact H2_) | with_reducible exact H | (rw [hy101]; exact H) | exact H
  have Ny101 := Aside0.mk hy101
  clear hy101
  obtain rfl := Option.some.inj H
  go_enter Try.func23, Try.ntmps23
  go_wp2_with (first | ((with_reducible refine gate_dst (N := 1) rfl ?_); refine Kd.R_lit (Kd.int .i64) _ 3 ?hg (N := 1) ?hd (xs := ([1, 1, 1, 1, 65536, 65536, 100, 1073741824, 16, 16, 1, 65536, 1000, 4096, 1048576, 1] : List Int)) (inner := [.int .i64 1, .int .i64 1, .int .i64 1, .int .i64 1, .int .i64 65536, .int .i64 65536, .int .i64 100, .int .i64 1073741824, .int .i64 16, .int .i64 16, .int .i64 1, .int .i64 65536, .int .i64 1000, .int .i64 4096, .int .i64 1048576, .int .i64 1]) (ok := fun _ => True) (okp := fun _ => True) ?hr ?hp (fun _ hk => hk) trivial (Below.refl _ _) (Nat.le_refl _) (by simp) ?_; (case hd => rfl); (case hg => rfl); (case hr => first | (go_simp; done) | (go_simp; rfl)); (case hp => exact (Reps.one (show Kd.M (Kd.int .i64) _ _ _ 1 [.int .i64 1] from rfl) (Reps.one (show Kd.M (Kd.int .i64) _ _ _ 1 [.int .i64 1] from rfl) (Reps.one (show Kd.M (Kd.int .i64) _ _ _ 1 [.int .i64 1] from rfl) (Reps.one (show Kd.M (Kd.int .i64) _ _ _ 1 [.int .i64 1] from rfl) (Reps.one (show Kd.M (Kd.int .i64) _ _ _ 65536 [.int .i64 65536] from rfl) (Reps.one (show Kd.M (Kd.int .i64) _ _ _ 65536 [.int .i64 65536] from rfl) (Reps.one (show Kd.M (Kd.int .i64) _ _ _ 100 [.int .i64 100] from rfl) (Reps.one (show Kd.M (Kd.int .i64) _ _ _ 1073741824 [.int .i64 1073741824] from rfl) (Reps.one (show Kd.M (Kd.int .i64) _ _ _ 16 [.int .i64 16] from rfl) (Reps.one (show Kd.M (Kd.int .i64) _ _ _ 16 [.int .i64 16] from rfl) (Reps.one (show Kd.M (Kd.int .i64) _ _ _ 1 [.int .i64 1] from rfl) (Reps.one (show Kd.M (Kd.int .i64) _ _ _ 65536 [.int .i64 65536] from rfl) (Reps.one (show Kd.M (Kd.int .i64) _ _ _ 1000 [.int .i64 1000] from rfl) (Reps.one (show Kd.M (Kd.int .i64) _ _ _ 4096 [.int .i64 4096] from rfl) (Reps.one (show Kd.M (Kd.int .i64) _ _ _ 1048576 [.int .i64 1048576] from rfl) (Reps.one (show Kd.M (Kd.int .i64) _ _ _ 1 [.int .i64 1] from rfl) (Reps.none _ _)))))))))))))))))); intro v102 w1 ho2 hb hg_ hnew_; clear hg_ hnew_; (first | rw [← Ny101.out] at ho2 | (simp only [Int.reduceToNat] at ho2; rw [← Ny101.out] at ho2)); have n0_ := Aside0.mk (Kd.R_lower ho2 (below_size (by repeat (first | (with_reducible first | exact HB.out | apply below_alloc | apply pw_below_drewN | apply below_drew1) | exact HB.out)))); have n1_ := Aside0.mk (below_step (by repeat (first | (with_reducible first | exact HB.out | apply below_alloc | apply pw_below_drewN | apply below_drew1) | exact HB.out)) hb); clear HB; have HO103 := n0_; have HB := n1_; clear n0_ n1_; clear hb ho2))
  go_ret
  exact ⟨_, by first | rfl | (simp [errW_none, errW_some] <;> rfl) | (simp [*, errW_none, errW_some] <;> rfl), by (with_reducible repeat (first | apply Kd.R_alloc | apply Kd.R_drewN | apply Kd.R_drew)); exact HO103.out, by repeat (first | (with_reducible first | exact HB.out | apply below_alloc | apply pw_below_drewN | apply below_drew1) | exact HB.out)⟩

end Go.Proofs.Ytdjmgmiaognncaa.X
namespace Go.Proofs.Ytdjmgmiaognncaa.X
open Go.RowKit Go.Proofs.YtdjmgmiaognncaaW.PrintWords Go.Proofs.YtdjmgmiaognncaaW.PrintLast Go.Proofs.YtdjmgmiaognncaaW.PrintMore
attribute [local go_sem] max2_int min2_int max_two min_two max_three min_three max_four min_four   -- for this text's walks alone
set_option linter.unusedVariables false
set_option linter.unusedSimpArgs false

/-! ### abutmentref13_Right: function 7 -/
def refBad (s t k : ByteArray) (tok ok : Bool) : Int := if !tok || decide (100 < (s.size : Int)) then 6 else if !t.toList.isEmpty && (!ok || (k.toList != t.toList || (decide (200 < (k.size : Int)) || k.toList == [45]))) then 13 else 0
def abutmentref13_Right.f (a0_0 : ByteArray) (a0_1 : ByteArray) (a0_2 : Int) (a0_3 : Int) (a0_4 : Int) (a0_5 : Int) (a0_6 : Int) (a0_7 : Int) (a0_8 : Int) (a0_9 : Int) (a0_10 : Int) (a0_11 : Int) (a0_12 : Int) (a0_13 : Int) (a0_14 : Int) (a0_15 : Int) (a0_16 : Int) (a0_17 : Int) : Option (Int) := (abutmentref01_Token.f 1000000000 a0_0).bind fun tok => (abutmentref11_Key.f 1000000000 a0_1).bind fun p => some (if refBad a0_0 a0_1 p.1 tok p.2 = 0 then (if insB (rightN a0_2 a0_3 a0_4 a0_5 a0_6 a0_7 a0_8 a0_9 a0_10 a0_11 a0_12 a0_13 a0_14 a0_15 a0_16 a0_17) then 0 else 5) else refBad a0_0 a0_1 p.1 tok p.2)
theorem ref_at (a0_2 a0_3 a0_4 a0_5 a0_6 a0_7 a0_8 a0_9 a0_10 a0_11 a0_12 a0_13 a0_14 a0_15 a0_16 a0_17 : Int) (i : Nat) (hi : i < 16) : ∃ n l h, (rightN a0_2 a0_3 a0_4 a0_5 a0_6 a0_7 a0_8 a0_9 a0_10 a0_11 a0_12 a0_13 a0_14 a0_15 a0_16 a0_17)[i]? = some (n, l, h) ∧ rd [a0_2, a0_3, a0_4, a0_5, a0_6, a0_7, a0_8, a0_9, a0_10, a0_11, a0_12, a0_13, a0_14, a0_15, a0_16, a0_17] (i : Int) = n ∧ rd ([0, 0, 0, 0, 1, 1, 0, 0, 1, 1, 0, 16, 1, 3, 0, 0] : List Int) (i : Int) = l ∧ rd ([1, 1, 1, 1, 65536, 65536, 100, 1073741824, 16, 16, 1, 65536, 1000, 4096, 1048576, 1] : List Int) (i : Int) = h := by
  match i, hi with
  | 0, _ => exact ⟨_, _, _, rfl, rfl, rfl, rfl⟩
  | 1, _ => exact ⟨_, _, _, rfl, rfl, rfl, rfl⟩
  | 2, _ => exact ⟨_, _, _, rfl, rfl, rfl, rfl⟩
  | 3, _ => exact ⟨_, _, _, rfl, rfl, rfl, rfl⟩
  | 4, _ => exact ⟨_, _, _, rfl, rfl, rfl, rfl⟩
  | 5, _ => exact ⟨_, _, _, rfl, rfl, rfl, rfl⟩
  | 6, _ => exact ⟨_, _, _, rfl, rfl, rfl, rfl⟩
  | 7, _ => exact ⟨_, _, _, rfl, rfl, rfl, rfl⟩
  | 8, _ => exact ⟨_, _, _, rfl, rfl, rfl, rfl⟩
  | 9, _ => exact ⟨_, _, _, rfl, rfl, rfl, rfl⟩
  | 10, _ => exact ⟨_, _, _, rfl, rfl, rfl, rfl⟩
  | 11, _ => exact ⟨_, _, _, rfl, rfl, rfl, rfl⟩
  | 12, _ => exact ⟨_, _, _, rfl, rfl, rfl, rfl⟩
  | 13, _ => exact ⟨_, _, _, rfl, rfl, rfl, rfl⟩
  | 14, _ => exact ⟨_, _, _, rfl, rfl, rfl, rfl⟩
  | 15, _ => exact ⟨_, _, _, rfl, rfl, rfl, rfl⟩
  | n + 16, hi => exact absurd hi (by omega)
set_option maxHeartbeats 8000000 in
set_option maxRecDepth 100000 in
theorem ref13_tok (a0_0 a0_1 : ByteArray) (a0_2 a0_3 a0_4 a0_5 a0_6 a0_7 a0_8 a0_9 a0_10 a0_11 a0_12 a0_13 a0_14 a0_15 a0_16 a0_17 : Int) (k : ByteArray) (w : World) (HT : ∀ W, Calls Try.prog 19 #[.string a0_0] W fun e w' => e = .returned (.bool false) ∧ Drawn0 W w')   :
    Calls Try.prog 7 #[.agg #[.string a0_0, .string a0_1, .int .i64 a0_2, .int .i64 a0_3, .int .i64 a0_4, .int .i64 a0_5, .int .i64 a0_6, .int .i64 a0_7, .int .i64 a0_8, .int .i64 a0_9, .int .i64 a0_10, .int .i64 a0_11, .int .i64 a0_12, .int .i64 a0_13, .int .i64 a0_14, .int .i64 a0_15, .int .i64 a0_16, .int .i64 a0_17]] w fun e w' => e = .returned (.int .i64 6) ∧ Below w.heap.size w w' := by
  go_enter Try.func7, Try.ntmps7
  go_upto_region 1 with (fail)
  generalize hX : World.alloc w _ = X
  have hx : CBox w.heap.size a0_0 a0_1 a0_2 a0_3 a0_4 a0_5 a0_6 a0_7 a0_8 a0_9 a0_10 a0_11 a0_12 a0_13 a0_14 a0_15 a0_16 a0_17 X := by rw [← hX]; exact World.alloc_heap_new _ _
  have BX := Aside0.mk (show Below w.heap.size w X by rw [← hX]; exact (Below.refl _ w).alloc (Nat.le_refl _) _)
  clear hX
  have c0 := hx.name
  have c1 := hx.host
  have HX := Aside0.mk hx
  clear hx

  go_wp2_with (go_at_call 19; (with_reducible refine (HT _).mono ?_); rintro e w' ⟨rfl, ⟨nd, rfl⟩⟩)
  go_ret
  exact ⟨rfl, pw_below_drewN BX.out _⟩
set_option maxHeartbeats 8000000 in
set_option maxRecDepth 100000 in
theorem ref13_long (a0_0 a0_1 : ByteArray) (a0_2 a0_3 a0_4 a0_5 a0_6 a0_7 a0_8 a0_9 a0_10 a0_11 a0_12 a0_13 a0_14 a0_15 a0_16 a0_17 : Int) (k : ByteArray) (w : World) (HT : ∀ W, Calls Try.prog 19 #[.string a0_0] W fun e w' => e = .returned (.bool true) ∧ Drawn0 W w')  (z1 : decide (100 < (a0_0.size : Int)) = true) :
    Calls Try.prog 7 #[.agg #[.string a0_0, .string a0_1, .int .i64 a0_2, .int .i64 a0_3, .int .i64 a0_4, .int .i64 a0_5, .int .i64 a0_6, .int .i64 a0_7, .int .i64 a0_8, .int .i64 a0_9, .int .i64 a0_10, .int .i64 a0_11, .int .i64 a0_12, .int .i64 a0_13, .int .i64 a0_14, .int .i64 a0_15, .int .i64 a0_16, .int .i64 a0_17]] w fun e w' => e = .returned (.int .i64 6) ∧ Below w.heap.size w w' := by
  have z2 : decide (100 < a0_0.size) = true := by rw [← z1]; exact decide_eq_decide.2 (by omega)

  go_enter Try.func7, Try.ntmps7
  go_upto_region 1 with (fail)
  generalize hX : World.alloc w _ = X
  have hx : CBox w.heap.size a0_0 a0_1 a0_2 a0_3 a0_4 a0_5 a0_6 a0_7 a0_8 a0_9 a0_10 a0_11 a0_12 a0_13 a0_14 a0_15 a0_16 a0_17 X := by rw [← hX]; exact World.alloc_heap_new _ _
  have BX := Aside0.mk (show Below w.heap.size w X by rw [← hX]; exact (Below.refl _ w).alloc (Nat.le_refl _) _)
  clear hX
  have c0 := hx.name
  have c1 := hx.host
  have HX := Aside0.mk hx
  clear hx

  go_wp2_with (go_at_call 19; (with_reducible refine (HT _).mono ?_); rintro e w' ⟨rfl, ⟨nd, rfl⟩⟩)
  go_ret
  exact ⟨rfl, pw_below_drewN BX.out _⟩
set_option maxHeartbeats 8000000 in
set_option maxRecDepth 100000 in
theorem ref13_key (a0_0 a0_1 : ByteArray) (a0_2 a0_3 a0_4 a0_5 a0_6 a0_7 a0_8 a0_9 a0_10 a0_11 a0_12 a0_13 a0_14 a0_15 a0_16 a0_17 : Int) (k : ByteArray) (w : World) (HT : ∀ W, Calls Try.prog 19 #[.string a0_0] W fun e w' => e = .returned (.bool true) ∧ Drawn0 W w') (HK : ∀ W, Calls Try.prog 20 #[.string a0_1] W fun e w' => e = .returned (.tuple #[.string k, .bool false]) ∧ Below W.heap.size W w') (z1 : decide (100 < (a0_0.size : Int)) = false)(e1 : a0_1.toList.isEmpty = false) :
    Calls Try.prog 7 #[.agg #[.string a0_0, .string a0_1, .int .i64 a0_2, .int .i64 a0_3, .int .i64 a0_4, .int .i64 a0_5, .int .i64 a0_6, .int .i64 a0_7, .int .i64 a0_8, .int .i64 a0_9, .int .i64 a0_10, .int .i64 a0_11, .int .i64 a0_12, .int .i64 a0_13, .int .i64 a0_14, .int .i64 a0_15, .int .i64 a0_16, .int .i64 a0_17]] w fun e w' => e = .returned (.int .i64 13) ∧ Below w.heap.size w w' := by
  have z2 : decide (100 < a0_0.size) = false := by rw [← z1]; exact decide_eq_decide.2 (by omega)

  have e2 : (!a0_1.toList.isEmpty) = true := by rw [e1]; rfl

  go_enter Try.func7, Try.ntmps7
  go_upto_region 1 with (fail)
  generalize hX : World.alloc w _ = X
  have hx : CBox w.heap.size a0_0 a0_1 a0_2 a0_3 a0_4 a0_5 a0_6 a0_7 a0_8 a0_9 a0_10 a0_11 a0_12 a0_13 a0_14 a0_15 a0_16 a0_17 X := by rw [← hX]; exact World.alloc_heap_new _ _
  have BX := Aside0.mk (show Below w.heap.size w X by rw [← hX]; exact (Below.refl _ w).alloc (Nat.le_refl _) _)
  clear hX
  have c0 := hx.name
  have c1 := hx.host
  have HX := Aside0.mk hx
  clear hx

  go_wp2_with (first | (go_at_call 19; (with_reducible refine (HT _).mono ?_); rintro e w' ⟨rfl, ⟨nd, rfl⟩⟩) | (go_at_call 20; refine (HK _).mono ?_; rintro e w1 ⟨rfl, hb1⟩; have hx1 : CBox w.heap.size a0_0 a0_1 a0_2 a0_3 a0_4 a0_5 a0_6 a0_7 a0_8 a0_9 a0_10 a0_11 a0_12 a0_13 a0_14 a0_15 a0_16 a0_17 w1 := CBox.next (W := X.drewN nd) HX.out hb1; have d1 := hx1.host; have HX1 := Aside0.mk hx1; have BW1 := Aside0.mk (below_step (pw_below_drewN BX.out nd) hb1); clear hx1 hb1))

  go_ret
  exact ⟨rfl, BW1.out⟩
set_option maxHeartbeats 8000000 in
set_option maxRecDepth 100000 in
theorem ref13_other (a0_0 a0_1 : ByteArray) (a0_2 a0_3 a0_4 a0_5 a0_6 a0_7 a0_8 a0_9 a0_10 a0_11 a0_12 a0_13 a0_14 a0_15 a0_16 a0_17 : Int) (k : ByteArray) (w : World) (HT : ∀ W, Calls Try.prog 19 #[.string a0_0] W fun e w' => e = .returned (.bool true) ∧ Drawn0 W w') (HK : ∀ W, Calls Try.prog 20 #[.string a0_1] W fun e w' => e = .returned (.tuple #[.string k, .bool true]) ∧ Below W.heap.size W w') (z1 : decide (100 < (a0_0.size : Int)) = false)(e1 : a0_1.toList.isEmpty = false)(q1 : (k.toList == a0_1.toList) = false) :
    Calls Try.prog 7 #[.agg #[.string a0_0, .string a0_1, .int .i64 a0_2, .int .i64 a0_3, .int .i64 a0_4, .int .i64 a0_5, .int .i64 a0_6, .int .i64 a0_7, .int .i64 a0_8, .int .i64 a0_9, .int .i64 a0_10, .int .i64 a0_11, .int .i64 a0_12, .int .i64 a0_13, .int .i64 a0_14, .int .i64 a0_15, .int .i64 a0_16, .int .i64 a0_17]] w fun e w' => e = .returned (.int .i64 13) ∧ Below w.heap.size w w' := by
  have z2 : decide (100 < a0_0.size) = false := by rw [← z1]; exact decide_eq_decide.2 (by omega)

  have e2 : (!a0_1.toList.isEmpty) = true := by rw [e1]; rfl

  have q2 : (k.toList != a0_1.toList) = true := by unfold bne; rw [q1]; rfl

  go_enter Try.func7, Try.ntmps7
  go_upto_region 1 with (fail)
  generalize hX : World.alloc w _ = X
  have hx : CBox w.heap.size a0_0 a0_1 a0_2 a0_3 a0_4 a0_5 a0_6 a0_7 a0_8 a0_9 a0_10 a0_11 a0_12 a0_13 a0_14 a0_15 a0_16 a0_17 X := by rw [← hX]; exact World.alloc_heap_new _ _
  have BX := Aside0.mk (show Below w.heap.size w X by rw [← hX]; exact (Below.refl _ w).alloc (Nat.le_refl _) _)
  clear hX
  have c0 := hx.name
  have c1 := hx.host
  have HX := Aside0.mk hx
  clear hx

  go_wp2_with (first | (go_at_call 19; (with_reducible refine (HT _).mono ?_); rintro e w' ⟨rfl, ⟨nd, rfl⟩⟩) | (go_at_call 20; refine (HK _).mono ?_; rintro e w1 ⟨rfl, hb1⟩; have hx1 : CBox w.heap.size a0_0 a0_1 a0_2 a0_3 a0_4 a0_5 a0_6 a0_7 a0_8 a0_9 a0_10 a0_11 a0_12 a0_13 a0_14 a0_15 a0_16 a0_17 w1 := CBox.next (W := X.drewN nd) HX.out hb1; have d1 := hx1.host; have HX1 := Aside0.mk hx1; have BW1 := Aside0.mk (below_step (pw_below_drewN BX.out nd) hb1); clear hx1 hb1))

  go_ret
  exact ⟨rfl, BW1.out⟩
set_option maxHeartbeats 8000000 in
set_option maxRecDepth 100000 in
theorem ref13_far (a0_0 a0_1 : ByteArray) (a0_2 a0_3 a0_4 a0_5 a0_6 a0_7 a0_8 a0_9 a0_10 a0_11 a0_12 a0_13 a0_14 a0_15 a0_16 a0_17 : Int) (k : ByteArray) (w : World) (HT : ∀ W, Calls Try.prog 19 #[.string a0_0] W fun e w' => e = .returned (.bool true) ∧ Drawn0 W w') (HK : ∀ W, Calls Try.prog 20 #[.string a0_1] W fun e w' => e = .returned (.tuple #[.string k, .bool true]) ∧ Below W.heap.size W w') (z1 : decide (100 < (a0_0.size : Int)) = false)(e1 : a0_1.toList.isEmpty = false)(q1 : (k.toList == a0_1.toList) = true)(y1 : decide (200 < (k.size : Int)) = true) :
    Calls Try.prog 7 #[.agg #[.string a0_0, .string a0_1, .int .i64 a0_2, .int .i64 a0_3, .int .i64 a0_4, .int .i64 a0_5, .int .i64 a0_6, .int .i64 a0_7, .int .i64 a0_8, .int .i64 a0_9, .int .i64 a0_10, .int .i64 a0_11, .int .i64 a0_12, .int .i64 a0_13, .int .i64 a0_14, .int .i64 a0_15, .int .i64 a0_16, .int .i64 a0_17]] w fun e w' => e = .returned (.int .i64 13) ∧ Below w.heap.size w w' := by
  have z2 : decide (100 < a0_0.size) = false := by rw [← z1]; exact decide_eq_decide.2 (by omega)

  have e2 : (!a0_1.toList.isEmpty) = true := by rw [e1]; rfl

  have q2 : (k.toList != a0_1.toList) = false := by unfold bne; rw [q1]; rfl

  have y2 : decide (200 < k.size) = true := by rw [← y1]; exact decide_eq_decide.2 (by omega)

  go_enter Try.func7, Try.ntmps7
  go_upto_region 1 with (fail)
  generalize hX : World.alloc w _ = X
  have hx : CBox w.heap.size a0_0 a0_1 a0_2 a0_3 a0_4 a0_5 a0_6 a0_7 a0_8 a0_9 a0_10 a0_11 a0_12 a0_13 a0_14 a0_15 a0_16 a0_17 X := by rw [← hX]; exact World.alloc_heap_new _ _
  have BX := Aside0.mk (show Below w.heap.size w X by rw [← hX]; exact (Below.refl _ w).alloc (Nat.le_refl _) _)
  clear hX
  have c0 := hx.name
  have c1 := hx.host
  have HX := Aside0.mk hx
  clear hx

  go_wp2_with (first | (go_at_call 19; (with_reducible refine (HT _).mono ?_); rintro e w' ⟨rfl, ⟨nd, rfl⟩⟩) | (go_at_call 20; refine (HK _).mono ?_; rintro e w1 ⟨rfl, hb1⟩; have hx1 : CBox w.heap.size a0_0 a0_1 a0_2 a0_3 a0_4 a0_5 a0_6 a0_7 a0_8 a0_9 a0_10 a0_11 a0_12 a0_13 a0_14 a0_15 a0_16 a0_17 w1 := CBox.next (W := X.drewN nd) HX.out hb1; have d1 := hx1.host; have HX1 := Aside0.mk hx1; have BW1 := Aside0.mk (below_step (pw_below_drewN BX.out nd) hb1); clear hx1 hb1))

  go_ret
  exact ⟨rfl, BW1.out⟩
set_option maxHeartbeats 8000000 in
set_option maxRecDepth 100000 in
theorem ref13_dash (a0_0 a0_1 : ByteArray) (a0_2 a0_3 a0_4 a0_5 a0_6 a0_7 a0_8 a0_9 a0_10 a0_11 a0_12 a0_13 a0_14 a0_15 a0_16 a0_17 : Int) (k : ByteArray) (w : World) (HT : ∀ W, Calls Try.prog 19 #[.string a0_0] W fun e w' => e = .returned (.bool true) ∧ Drawn0 W w') (HK : ∀ W, Calls Try.prog 20 #[.string a0_1] W fun e w' => e = .returned (.tuple #[.string k, .bool true]) ∧ Below W.heap.size W w') (z1 : decide (100 < (a0_0.size : Int)) = false)(e1 : a0_1.toList.isEmpty = false)(q1 : (k.toList == a0_1.toList) = true)(y1 : decide (200 < (k.size : Int)) = false)(x1 : (k.toList == [45]) = true) :
    Calls Try.prog 7 #[.agg #[.string a0_0, .string a0_1, .int .i64 a0_2, .int .i64 a0_3, .int .i64 a0_4, .int .i64 a0_5, .int .i64 a0_6, .int .i64 a0_7, .int .i64 a0_8, .int .i64 a0_9, .int .i64 a0_10, .int .i64 a0_11, .int .i64 a0_12, .int .i64 a0_13, .int .i64 a0_14, .int .i64 a0_15, .int .i64 a0_16, .int .i64 a0_17]] w fun e w' => e = .returned (.int .i64 13) ∧ Below w.heap.size w w' := by
  have z2 : decide (100 < a0_0.size) = false := by rw [← z1]; exact decide_eq_decide.2 (by omega)

  have e2 : (!a0_1.toList.isEmpty) = true := by rw [e1]; rfl

  have q2 : (k.toList != a0_1.toList) = false := by unfold bne; rw [q1]; rfl

  have y2 : decide (200 < k.size) = false := by rw [← y1]; exact decide_eq_decide.2 (by omega)

  go_enter Try.func7, Try.ntmps7
  go_upto_region 1 with (fail)
  generalize hX : World.alloc w _ = X
  have hx : CBox w.heap.size a0_0 a0_1 a0_2 a0_3 a0_4 a0_5 a0_6 a0_7 a0_8 a0_9 a0_10 a0_11 a0_12 a0_13 a0_14 a0_15 a0_16 a0_17 X := by rw [← hX]; exact World.alloc_heap_new _ _
  have BX := Aside0.mk (show Below w.heap.size w X by rw [← hX]; exact (Below.refl _ w).alloc (Nat.le_refl _) _)
  clear hX
  have c0 := hx.name
  have c1 := hx.host
  have HX := Aside0.mk hx
  clear hx

  go_wp2_with (first | (go_at_call 19; (with_reducible refine (HT _).mono ?_); rintro e w' ⟨rfl, ⟨nd, rfl⟩⟩) | (go_at_call 20; refine (HK _).mono ?_; rintro e w1 ⟨rfl, hb1⟩; have hx1 : CBox w.heap.size a0_0 a0_1 a0_2 a0_3 a0_4 a0_5 a0_6 a0_7 a0_8 a0_9 a0_10 a0_11 a0_12 a0_13 a0_14 a0_15 a0_16 a0_17 w1 := CBox.next (W := X.drewN nd) HX.out hb1; have d1 := hx1.host; have HX1 := Aside0.mk hx1; have BW1 := Aside0.mk (below_step (pw_below_drewN BX.out nd) hb1); clear hx1 hb1))

  go_ret
  exact ⟨rfl, BW1.out⟩
theorem CBox.cells {g : Nat} {s t : ByteArray} {n0 n1 n2 n3 n4 n5 n6 n7 n8 n9 n10 n11 n12 n13 n14 n15 : Int} {W : World} (h : CBox g s t n0 n1 n2 n3 n4 n5 n6 n7 n8 n9 n10 n11 n12 n13 n14 n15 W) (k : Nat) (v : Value) (hk : (#[.string s, .string t, .int .i64 n0, .int .i64 n1, .int .i64 n2, .int .i64 n3, .int .i64 n4, .int .i64 n5, .int .i64 n6, .int .i64 n7, .int .i64 n8, .int .i64 n9, .int .i64 n10, .int .i64 n11, .int .i64 n12, .int .i64 n13, .int .i64 n14, .int .i64 n15] : Array Value)[k]? = some v) : W.cell? ⟨g, k, none⟩ = some v := by
  unfold CBox at h
  simp only [World.cell?, h]
  exact hk
set_option maxHeartbeats 8000000 in
set_option maxRecDepth 100000 in
theorem ref13_empty (a0_0 a0_1 : ByteArray) (a0_2 a0_3 a0_4 a0_5 a0_6 a0_7 a0_8 a0_9 a0_10 a0_11 a0_12 a0_13 a0_14 a0_15 a0_16 a0_17 : Int) (k : ByteArray) (w : World) (HT : ∀ W, Calls Try.prog 19 #[.string a0_0] W fun e w' => e = .returned (.bool true) ∧ Drawn0 W w')  (z1 : decide (100 < (a0_0.size : Int)) = false)(e1 : a0_1.toList.isEmpty = true) (r : Int) (L1 L2 L3 : List Int) (R : List (Int × Int × Int)) (HN : ∀ W, Calls Try.prog 21 #[.agg #[.string a0_0, .string a0_1, .int .i64 a0_2, .int .i64 a0_3, .int .i64 a0_4, .int .i64 a0_5, .int .i64 a0_6, .int .i64 a0_7, .int .i64 a0_8, .int .i64 a0_9, .int .i64 a0_10, .int .i64 a0_11, .int .i64 a0_12, .int .i64 a0_13, .int .i64 a0_14, .int .i64 a0_15, .int .i64 a0_16, .int .i64 a0_17]] W fun e w' => ∃ v0_ : Value, e = .returned (v0_) ∧ Kd.R (Kd.int .i64) 3 w' W.heap.size (fun _ => True) v0_ L1 ∧ Below W.heap.size W w') (HL : ∀ W, Calls Try.prog 22 #[] W fun e w' => ∃ v0_ : Value, e = .returned (v0_) ∧ Kd.R (Kd.int .i64) 3 w' W.heap.size (fun _ => True) v0_ L2 ∧ Below W.heap.size W w') (HM : ∀ W, Calls Try.prog 23 #[] W fun e w' => ∃ v0_ : Value, e = .returned (v0_) ∧ Kd.R (Kd.int .i64) 3 w' W.heap.size (fun _ => True) v0_ L3 ∧ Below W.heap.size W w') (HLEN : Aside0 (L1.length = 16 ∧ L2.length = 16 ∧ L3.length = 16 ∧ R.length = 16)) (HAT : Aside0 (∀ i : Nat, i < 16 → ∃ n l h, R[i]? = some (n, l, h) ∧ rd L1 (i : Int) = n ∧ rd L2 (i : Int) = l ∧ rd L3 (i : Int) = h)) (HR : Aside0 ((if insB (R.drop (0 : Int).toNat) then (0 : Int) else 5) = r)) :
    Calls Try.prog 7 #[.agg #[.string a0_0, .string a0_1, .int .i64 a0_2, .int .i64 a0_3, .int .i64 a0_4, .int .i64 a0_5, .int .i64 a0_6, .int .i64 a0_7, .int .i64 a0_8, .int .i64 a0_9, .int .i64 a0_10, .int .i64 a0_11, .int .i64 a0_12, .int .i64 a0_13, .int .i64 a0_14, .int .i64 a0_15, .int .i64 a0_16, .int .i64 a0_17]] w fun e w' => e = .returned (.int .i64 r) ∧ Below w.heap.size w w' := by
  have z2 : decide (100 < a0_0.size) = false := by rw [← z1]; exact decide_eq_decide.2 (by omega)

  have e2 : (!a0_1.toList.isEmpty) = false := by rw [e1]; rfl

  go_enter Try.func7, Try.ntmps7
  go_upto_region 1 with (fail)
  generalize hX : World.alloc w _ = X
  have hx : CBox w.heap.size a0_0 a0_1 a0_2 a0_3 a0_4 a0_5 a0_6 a0_7 a0_8 a0_9 a0_10 a0_11 a0_12 a0_13 a0_14 a0_15 a0_16 a0_17 X := by rw [← hX]; exact World.alloc_heap_new _ _
  have BX := Aside0.mk (show Below w.heap.size w X by rw [← hX]; exact (Below.refl _ w).alloc (Nat.le_refl _) _)
  clear hX
  have c0 := hx.name
  have c1 := hx.host
  have HX := Aside0.mk hx
  clear hx

  go_upto_region 7 with (go_at_call 19; (with_reducible refine (HT _).mono ?_); rintro e w' ⟨rfl, ⟨nd, rfl⟩⟩)
  have HXQ := Aside0.mk (show CBox w.heap.size a0_0 a0_1 a0_2 a0_3 a0_4 a0_5 a0_6 a0_7 a0_8 a0_9 a0_10 a0_11 a0_12 a0_13 a0_14 a0_15 a0_16 a0_17 (X.drewN nd) from HX.out)
  have BQ := Aside0.mk (show Below w.heap.size w (X.drewN nd) from pw_below_drewN BX.out nd)
  generalize hwq : X.drewN nd = wq at *
  clear hwq
  go_wp2_with (first | (refine wpList_load_row rfl 25 _ rfl w.heap.size rfl 25 _ (0, 0) _ HXQ.out Try.underlying25 rfl (by kernel_rfl) ?_) | (go_at_call 21; (with_reducible refine (HN _).mono ?_); rintro e w5 ⟨v1, rfl, ho1, hb5⟩; have R1 := Aside0.mk (Kd.R_lower ho1 (below_size BQ.out)); have B5 := Aside0.mk (below_step BQ.out hb5); clear hb5 ho1) | (go_at_call 22; (with_reducible refine (HL _).mono ?_); rintro e w6 ⟨v2, rfl, ho2, hb6⟩; have R1' := Aside0.mk (Kd.R_elder' R1.out (Kd.R_base ho2) hb6); have R2 := Aside0.mk (Kd.R_lower (Kd.R_new' ho2 (Kd.R_lt R1.out)) (below_size B5.out)); have B6 := Aside0.mk (below_step B5.out hb6); clear hb6 ho2 R1 B5) | (go_at_call 23; (with_reducible refine (HM _).mono ?_); rintro e w7 ⟨v3, rfl, ho3, hb7⟩; have R1 := Aside0.mk (Kd.R_elder' R1'.out (Kd.R_base ho3) hb7); have R2' := Aside0.mk (Kd.R_elder' R2.out (Kd.R_base ho3) hb7); have R3 := Aside0.mk (Kd.R_lower (Kd.R_new' (Kd.R_new' ho3 (Kd.R_lt R1'.out)) (Kd.R_lt R2.out)) (below_size B6.out)); have B7 := Aside0.mk (below_step B6.out hb7); clear hb7 ho3 R1' R2 B6))
  go_loopg [8] 17 (fun gg s8 wr => ∃ x : Int, s8 = .int .i64 x ∧ 0 ≤ x ∧ x ≤ 16 ∧ 16 - x.toNat < gg ∧ Aside0 ((if insB (R.drop x.toNat) then (0 : Int) else 5) = r) ∧ Aside0 (Kd.R (Kd.int .i64) 3 wr w.heap.size (fun k_ => some k_ ≠ (v2 : Value).ownBlock ∧ some k_ ≠ (v3 : Value).ownBlock) v1 L1) ∧ Aside0 (Kd.R (Kd.int .i64) 3 wr w.heap.size (fun k_ => some k_ ≠ (v1 : Value).ownBlock ∧ some k_ ≠ (v3 : Value).ownBlock) v2 L2) ∧ Aside0 (Kd.R (Kd.int .i64) 3 wr w.heap.size (fun k_ => some k_ ≠ (v1 : Value).ownBlock ∧ some k_ ≠ (v2 : Value).ownBlock) v3 L3) ∧ Aside0 (Below w.heap.size w wr))
  case atStart => exact ⟨0, rfl, by omega, by omega, by omega, HR, ⟨Kd.R_mono R1.out (fun _ hk => ⟨hk.1.2, hk.2⟩)⟩, ⟨Kd.R_mono R2'.out (fun _ hk => ⟨hk.1.2, hk.2⟩)⟩, ⟨Kd.R_mono R3.out (fun _ hk => ⟨hk.1.2, hk.2⟩)⟩, B7⟩
  case round =>
    clear HR R1 R2' R3 B7 BQ HXQ
    obtain ⟨x, rfl, p0, p16, hgz, HI, R1, R2, R3, BW⟩ := hrel
    cases gk with
    | zero => exact absurd hgz (by omega)
    | succ g' =>
      by_cases hlt : x < 16
      · have hlen := HLEN.out
        obtain ⟨n, l, h, hget, er1, er2, er3⟩ := HAT.out x.toNat (by omega)
        rw [show ((x.toNat : Nat) : Int) = x from by omega] at er1 er2 er3
        have hgl := (List.getElem?_eq_some_iff.1 hget)
        obtain ⟨hgl1, hgl2⟩ := hgl
        have hdrop := List.drop_eq_getElem_cons (l := R) (i := x.toNat) hgl1
        rw [hgl2] at hdrop
        have HI2 := Aside0.mk (show (if inB n l h && insB (R.drop (x.toNat + 1)) then (0 : Int) else 5) = r by have := HI.out; rw [hdrop] at this; exact this)
        clear hdrop hget hgl1 hgl2 HI
        obtain ⟨A1, c1, eo1⟩ := Kd.R_slice R1.out
        subst eo1
        obtain ⟨ad1, ea1, hx1⟩ := Kd.at_int (Kd.R_reads' R1.out).2.2 x p0 (by omega)
        cases ea1
        rw [er1] at hx1
        have qb1 : (x < (L1.length : Int)) = True := eq_true (by omega)
        obtain ⟨A2, c2, eo2⟩ := Kd.R_slice R2.out
        subst eo2
        obtain ⟨ad2, ea2, hx2⟩ := Kd.at_int (Kd.R_reads' R2.out).2.2 x p0 (by omega)
        cases ea2
        rw [er2] at hx2
        have qb2 : (x < (L2.length : Int)) = True := eq_true (by omega)
        obtain ⟨A3, c3, eo3⟩ := Kd.R_slice R3.out
        subst eo3
        obtain ⟨ad3, ea3, hx3⟩ := Kd.at_int (Kd.R_reads' R3.out).2.2 x p0 (by omega)
        cases ea3
        rw [er3] at hx3
        have qb3 : (x < (L3.length : Int)) = True := eq_true (by omega)

        have q0 : (0 ≤ x) = True := eq_true p0
        clear hlen er1 er2 er3
        generalize hq1 : decide (n < l) = q1
        generalize hq2 : decide (h < n) = q2
        cases q1
        case true =>
          have HF := Aside0.mk (show (5 : Int) = r by rw [← HI2.out]; have hz : inB n l h = false := (by unfold inB; have := of_decide_eq_true hq1; rw [show decide (l ≤ n) = false from decide_eq_false (by omega)]; rfl); rw [hz]; rfl)
          clear HI2
          go_wp2
          go_quiet (fail)
          go_wp2
          go_ret
          exact ⟨by rw [← HF.out]; rfl, pw_below_drewN BW.out _⟩
        case false =>
          cases q2
          case true =>
            have HF := Aside0.mk (show (5 : Int) = r by rw [← HI2.out]; have hz : inB n l h = false := (by unfold inB; have := of_decide_eq_true hq2; rw [show decide (n ≤ h) = false from decide_eq_false (by omega), Bool.and_false]); rw [hz]; rfl)
            clear HI2
            go_wp2
            go_quiet (fail)
            go_wp2
            go_ret
            exact ⟨by rw [← HF.out]; rfl, pw_below_drewN BW.out _⟩
          case false =>
            have HF := Aside0.mk (show (if insB (R.drop (x + 1).toNat) then (0 : Int) else 5) = r by rw [show (x + 1).toNat = x.toNat + 1 from by omega, ← HI2.out]; have hz : inB n l h = true := (by unfold inB; have := of_decide_eq_false hq1; have := of_decide_eq_false hq2; rw [decide_eq_true (show l ≤ n by omega), decide_eq_true (show n ≤ h by omega)]; rfl); rw [hz]; rfl)
            clear HI2
            go_wp2
            go_quiet (fail)
            go_wp2
            go_roundg g'
            case measure => omega
            case rel => exact ⟨x + 1, rfl, by omega, by omega, by omega, HF, ⟨Kd.R_drewN R1.out _⟩, ⟨Kd.R_drewN R2.out _⟩, ⟨Kd.R_drewN R3.out _⟩, ⟨pw_below_drewN BW.out _⟩⟩
      · have hx16 : x = 16 := by omega
        subst hx16
        have hlen := HLEN.out
        obtain ⟨A1, c1, eo1⟩ := Kd.R_slice R1.out
        subst eo1
        have qb1 : ((16 : Int) < (L1.length : Int)) = False := eq_false (by omega)
        clear hlen
        go_wp2
        go_ret
        exact ⟨by rw [← HI.out, show R.drop (16 : Int).toNat = [] from List.drop_eq_nil_iff.2 (by have := HLEN.out.2.2.2; rw [this]; decide)]; rfl, BW.out⟩
set_option maxHeartbeats 8000000 in
set_option maxRecDepth 100000 in
theorem ref13_all (a0_0 a0_1 : ByteArray) (a0_2 a0_3 a0_4 a0_5 a0_6 a0_7 a0_8 a0_9 a0_10 a0_11 a0_12 a0_13 a0_14 a0_15 a0_16 a0_17 : Int) (k : ByteArray) (w : World) (HT : ∀ W, Calls Try.prog 19 #[.string a0_0] W fun e w' => e = .returned (.bool true) ∧ Drawn0 W w') (HK : ∀ W, Calls Try.prog 20 #[.string a0_1] W fun e w' => e = .returned (.tuple #[.string k, .bool true]) ∧ Below W.heap.size W w') (z1 : decide (100 < (a0_0.size : Int)) = false)(e1 : a0_1.toList.isEmpty = false)(q1 : (k.toList == a0_1.toList) = true)(y1 : decide (200 < (k.size : Int)) = false)(x1 : (k.toList == [45]) = false) (r : Int) (L1 L2 L3 : List Int) (R : List (Int × Int × Int)) (HN : ∀ W, Calls Try.prog 21 #[.agg #[.string a0_0, .string a0_1, .int .i64 a0_2, .int .i64 a0_3, .int .i64 a0_4, .int .i64 a0_5, .int .i64 a0_6, .int .i64 a0_7, .int .i64 a0_8, .int .i64 a0_9, .int .i64 a0_10, .int .i64 a0_11, .int .i64 a0_12, .int .i64 a0_13, .int .i64 a0_14, .int .i64 a0_15, .int .i64 a0_16, .int .i64 a0_17]] W fun e w' => ∃ v0_ : Value, e = .returned (v0_) ∧ Kd.R (Kd.int .i64) 3 w' W.heap.size (fun _ => True) v0_ L1 ∧ Below W.heap.size W w') (HL : ∀ W, Calls Try.prog 22 #[] W fun e w' => ∃ v0_ : Value, e = .returned (v0_) ∧ Kd.R (Kd.int .i64) 3 w' W.heap.size (fun _ => True) v0_ L2 ∧ Below W.heap.size W w') (HM : ∀ W, Calls Try.prog 23 #[] W fun e w' => ∃ v0_ : Value, e = .returned (v0_) ∧ Kd.R (Kd.int .i64) 3 w' W.heap.size (fun _ => True) v0_ L3 ∧ Below W.heap.size W w') (HLEN : Aside0 (L1.length = 16 ∧ L2.length = 16 ∧ L3.length = 16 ∧ R.length = 16)) (HAT : Aside0 (∀ i : Nat, i < 16 → ∃ n l h, R[i]? = some (n, l, h) ∧ rd L1 (i : Int) = n ∧ rd L2 (i : Int) = l ∧ rd L3 (i : Int) = h)) (HR : Aside0 ((if insB (R.drop (0 : Int).toNat) then (0 : Int) else 5) = r)) :
    Calls Try.prog 7 #[.agg #[.string a0_0, .string a0_1, .int .i64 a0_2, .int .i64 a0_3, .int .i64 a0_4, .int .i64 a0_5, .int .i64 a0_6, .int .i64 a0_7, .int .i64 a0_8, .int .i64 a0_9, .int .i64 a0_10, .int .i64 a0_11, .int .i64 a0_12, .int .i64 a0_13, .int .i64 a0_14, .int .i64 a0_15, .int .i64 a0_16, .int .i64 a0_17]] w fun e w' => e = .returned (.int .i64 r) ∧ Below w.heap.size w w' := by
  have z2 : decide (100 < a0_0.size) = false := by rw [← z1]; exact decide_eq_decide.2 (by omega)

  have e2 : (!a0_1.toList.isEmpty) = true := by rw [e1]; rfl

  have q2 : (k.toList != a0_1.toList) = false := by unfold bne; rw [q1]; rfl

  have y2 : decide (200 < k.size) = false := by rw [← y1]; exact decide_eq_decide.2 (by omega)

  go_enter Try.func7, Try.ntmps7
  go_upto_region 1 with (fail)
  generalize hX : World.alloc w _ = X
  have hx : CBox w.heap.size a0_0 a0_1 a0_2 a0_3 a0_4 a0_5 a0_6 a0_7 a0_8 a0_9 a0_10 a0_11 a0_12 a0_13 a0_14 a0_15 a0_16 a0_17 X := by rw [← hX]; exact World.alloc_heap_new _ _
  have BX := Aside0.mk (show Below w.heap.size w X by rw [← hX]; exact (Below.refl _ w).alloc (Nat.le_refl _) _)
  clear hX
  have c0 := hx.name
  have c1 := hx.host
  have HX := Aside0.mk hx
  clear hx

  go_upto_region 7 with (first | (go_at_call 19; (with_reducible refine (HT _).mono ?_); rintro e w' ⟨rfl, ⟨nd, rfl⟩⟩) | (go_at_call 20; refine (HK _).mono ?_; rintro e w1 ⟨rfl, hb1⟩; have hx1 : CBox w.heap.size a0_0 a0_1 a0_2 a0_3 a0_4 a0_5 a0_6 a0_7 a0_8 a0_9 a0_10 a0_11 a0_12 a0_13 a0_14 a0_15 a0_16 a0_17 w1 := CBox.next (W := X.drewN nd) HX.out hb1; have d1 := hx1.host; have HX1 := Aside0.mk hx1; have BW1 := Aside0.mk (below_step (pw_below_drewN BX.out nd) hb1); clear hx1 hb1))
  have HXQ := Aside0.mk (show CBox w.heap.size a0_0 a0_1 a0_2 a0_3 a0_4 a0_5 a0_6 a0_7 a0_8 a0_9 a0_10 a0_11 a0_12 a0_13 a0_14 a0_15 a0_16 a0_17 (w1) from HX1.out)
  have BQ := Aside0.mk (show Below w.heap.size w (w1) from BW1.out)
  generalize hwq : w1 = wq at *
  clear hwq
  go_wp2_with (first | (refine wpList_load_row rfl 25 _ rfl w.heap.size rfl 25 _ (0, 0) _ HXQ.out Try.underlying25 rfl (by kernel_rfl) ?_) | (go_at_call 21; (with_reducible refine (HN _).mono ?_); rintro e w5 ⟨v1, rfl, ho1, hb5⟩; have R1 := Aside0.mk (Kd.R_lower ho1 (below_size BQ.out)); have B5 := Aside0.mk (below_step BQ.out hb5); clear hb5 ho1) | (go_at_call 22; (with_reducible refine (HL _).mono ?_); rintro e w6 ⟨v2, rfl, ho2, hb6⟩; have R1' := Aside0.mk (Kd.R_elder' R1.out (Kd.R_base ho2) hb6); have R2 := Aside0.mk (Kd.R_lower (Kd.R_new' ho2 (Kd.R_lt R1.out)) (below_size B5.out)); have B6 := Aside0.mk (below_step B5.out hb6); clear hb6 ho2 R1 B5) | (go_at_call 23; (with_reducible refine (HM _).mono ?_); rintro e w7 ⟨v3, rfl, ho3, hb7⟩; have R1 := Aside0.mk (Kd.R_elder' R1'.out (Kd.R_base ho3) hb7); have R2' := Aside0.mk (Kd.R_elder' R2.out (Kd.R_base ho3) hb7); have R3 := Aside0.mk (Kd.R_lower (Kd.R_new' (Kd.R_new' ho3 (Kd.R_lt R1'.out)) (Kd.R_lt R2.out)) (below_size B6.out)); have B7 := Aside0.mk (below_step B6.out hb7); clear hb7 ho3 R1' R2 B6))
  go_loopg [8] 17 (fun gg s8 wr => ∃ x : Int, s8 = .int .i64 x ∧ 0 ≤ x ∧ x ≤ 16 ∧ 16 - x.toNat < gg ∧ Aside0 ((if insB (R.drop x.toNat) then (0 : Int) else 5) = r) ∧ Aside0 (Kd.R (Kd.int .i64) 3 wr w.heap.size (fun k_ => some k_ ≠ (v2 : Value).ownBlock ∧ some k_ ≠ (v3 : Value).ownBlock) v1 L1) ∧ Aside0 (Kd.R (Kd.int .i64) 3 wr w.heap.size (fun k_ => some k_ ≠ (v1 : Value).ownBlock ∧ some k_ ≠ (v3 : Value).ownBlock) v2 L2) ∧ Aside0 (Kd.R (Kd.int .i64) 3 wr w.heap.size (fun k_ => some k_ ≠ (v1 : Value).ownBlock ∧ some k_ ≠ (v2 : Value).ownBlock) v3 L3) ∧ Aside0 (Below w.heap.size w wr))
  case atStart => exact ⟨0, rfl, by omega, by omega, by omega, HR, ⟨Kd.R_mono R1.out (fun _ hk => ⟨hk.1.2, hk.2⟩)⟩, ⟨Kd.R_mono R2'.out (fun _ hk => ⟨hk.1.2, hk.2⟩)⟩, ⟨Kd.R_mono R3.out (fun _ hk => ⟨hk.1.2, hk.2⟩)⟩, B7⟩
  case round =>
    clear HR R1 R2' R3 B7 BQ HXQ
    obtain ⟨x, rfl, p0, p16, hgz, HI, R1, R2, R3, BW⟩ := hrel
    cases gk with
    | zero => exact absurd hgz (by omega)
    | succ g' =>
      by_cases hlt : x < 16
      · have hlen := HLEN.out
        obtain ⟨n, l, h, hget, er1, er2, er3⟩ := HAT.out x.toNat (by omega)
        rw [show ((x.toNat : Nat) : Int) = x from by omega] at er1 er2 er3
        have hgl := (List.getElem?_eq_some_iff.1 hget)
        obtain ⟨hgl1, hgl2⟩ := hgl
        have hdrop := List.drop_eq_getElem_cons (l := R) (i := x.toNat) hgl1
        rw [hgl2] at hdrop
        have HI2 := Aside0.mk (show (if inB n l h && insB (R.drop (x.toNat + 1)) then (0 : Int) else 5) = r by have := HI.out; rw [hdrop] at this; exact this)
        clear hdrop hget hgl1 hgl2 HI
        obtain ⟨A1, c1, eo1⟩ := Kd.R_slice R1.out
        subst eo1
        obtain ⟨ad1, ea1, hx1⟩ := Kd.at_int (Kd.R_reads' R1.out).2.2 x p0 (by omega)
        cases ea1
        rw [er1] at hx1
        have qb1 : (x < (L1.length : Int)) = True := eq_true (by omega)
        obtain ⟨A2, c2, eo2⟩ := Kd.R_slice R2.out
        subst eo2
        obtain ⟨ad2, ea2, hx2⟩ := Kd.at_int (Kd.R_reads' R2.out).2.2 x p0 (by omega)
        cases ea2
        rw [er2] at hx2
        have qb2 : (x < (L2.length : Int)) = True := eq_true (by omega)
        obtain ⟨A3, c3, eo3⟩ := Kd.R_slice R3.out
        subst eo3
        obtain ⟨ad3, ea3, hx3⟩ := Kd.at_int (Kd.R_reads' R3.out).2.2 x p0 (by omega)
        cases ea3
        rw [er3] at hx3
        have qb3 : (x < (L3.length : Int)) = True := eq_true (by omega)

        have q0 : (0 ≤ x) = True := eq_true p0
        clear hlen er1 er2 er3
        generalize hq1 : decide (n < l) = q1
        generalize hq2 : decide (h < n) = q2
        cases q1
        case true =>
          have HF := Aside0.mk (show (5 : Int) = r by rw [← HI2.out]; have hz : inB n l h = false := (by unfold inB; have := of_decide_eq_true hq1; rw [show decide (l ≤ n) = false from decide_eq_false (by omega)]; rfl); rw [hz]; rfl)
          clear HI2
          go_wp2
          go_quiet (fail)
          go_wp2
          go_ret
          exact ⟨by rw [← HF.out]; rfl, pw_below_drewN BW.out _⟩
        case false =>
          cases q2
          case true =>
            have HF := Aside0.mk (show (5 : Int) = r by rw [← HI2.out]; have hz : inB n l h = false := (by unfold inB; have := of_decide_eq_true hq2; rw [show decide (n ≤ h) = false from decide_eq_false (by omega), Bool.and_false]); rw [hz]; rfl)
            clear HI2
            go_wp2
            go_quiet (fail)
            go_wp2
            go_ret
            exact ⟨by rw [← HF.out]; rfl, pw_below_drewN BW.out _⟩
          case false =>
            have HF := Aside0.mk (show (if insB (R.drop (x + 1).toNat) then (0 : Int) else 5) = r by rw [show (x + 1).toNat = x.toNat + 1 from by omega, ← HI2.out]; have hz : inB n l h = true := (by unfold inB; have := of_decide_eq_false hq1; have := of_decide_eq_false hq2; rw [decide_eq_true (show l ≤ n by omega), decide_eq_true (show n ≤ h by omega)]; rfl); rw [hz]; rfl)
            clear HI2
            go_wp2
            go_quiet (fail)
            go_wp2
            go_roundg g'
            case measure => omega
            case rel => exact ⟨x + 1, rfl, by omega, by omega, by omega, HF, ⟨Kd.R_drewN R1.out _⟩, ⟨Kd.R_drewN R2.out _⟩, ⟨Kd.R_drewN R3.out _⟩, ⟨pw_below_drewN BW.out _⟩⟩
      · have hx16 : x = 16 := by omega
        subst hx16
        have hlen := HLEN.out
        obtain ⟨A1, c1, eo1⟩ := Kd.R_slice R1.out
        subst eo1
        have qb1 : ((16 : Int) < (L1.length : Int)) = False := eq_false (by omega)
        clear hlen
        go_wp2
        go_ret
        exact ⟨by rw [← HI.out, show R.drop (16 : Int).toNat = [] from List.drop_eq_nil_iff.2 (by have := HLEN.out.2.2.2; rw [this]; decide)]; rfl, BW.out⟩
theorem abutmentref13_Right.calls (a0_0 : ByteArray) (a0_1 : ByteArray) (a0_2 : Int) (a0_3 : Int) (a0_4 : Int) (a0_5 : Int) (a0_6 : Int) (a0_7 : Int) (a0_8 : Int) (a0_9 : Int) (a0_10 : Int) (a0_11 : Int) (a0_12 : Int) (a0_13 : Int) (a0_14 : Int) (a0_15 : Int) (a0_16 : Int) (a0_17 : Int) (r : Int) (w : World) (h : abutmentref13_Right.f a0_0 a0_1 a0_2 a0_3 a0_4 a0_5 a0_6 a0_7 a0_8 a0_9 a0_10 a0_11 a0_12 a0_13 a0_14 a0_15 a0_16 a0_17 = some r) :
    Calls Try.prog 7 #[.agg #[.string a0_0, .string a0_1, .int .i64 a0_2, .int .i64 a0_3, .int .i64 a0_4, .int .i64 a0_5, .int .i64 a0_6, .int .i64 a0_7, .int .i64 a0_8, .int .i64 a0_9, .int .i64 a0_10, .int .i64 a0_11, .int .i64 a0_12, .int .i64 a0_13, .int .i64 a0_14, .int .i64 a0_15, .int .i64 a0_16, .int .i64 a0_17]] w fun e w' => e = .returned (.int .i64 r) ∧ Below w.heap.size w w' := by
  replace h := Option.bind_eq_some_iff.mp h
  obtain ⟨tok, ht, h⟩ := h
  replace h := Option.bind_eq_some_iff.mp h
  obtain ⟨⟨k, ok⟩, hk, h⟩ := h
  have h := Option.some.inj h
  have HT := fun W => abutmentref01_Token.calls 1000000000 a0_0 tok W ht
  have HK := fun W => abutmentref11_Key.calls 1000000000 a0_1 k ok W hk
  have HAT := Aside0.mk (ref_at a0_2 a0_3 a0_4 a0_5 a0_6 a0_7 a0_8 a0_9 a0_10 a0_11 a0_12 a0_13 a0_14 a0_15 a0_16 a0_17)
  have HN := fun W => abutmentref13_Numbers.calls a0_0 a0_1 a0_2 a0_3 a0_4 a0_5 a0_6 a0_7 a0_8 a0_9 a0_10 a0_11 a0_12 a0_13 a0_14 a0_15 a0_16 a0_17 _ W (rfl : abutmentref13_Numbers.f a0_0 a0_1 a0_2 a0_3 a0_4 a0_5 a0_6 a0_7 a0_8 a0_9 a0_10 a0_11 a0_12 a0_13 a0_14 a0_15 a0_16 a0_17 = some [a0_2, a0_3, a0_4, a0_5, a0_6, a0_7, a0_8, a0_9, a0_10, a0_11, a0_12, a0_13, a0_14, a0_15, a0_16, a0_17])
  have HL := fun W => abutmentref13_least.calls _ W (rfl : abutmentref13_least.f = some [0, 0, 0, 0, 1, 1, 0, 0, 1, 1, 0, 16, 1, 3, 0, 0])
  have HM := fun W => abutmentref13_most.calls _ W (rfl : abutmentref13_most.f = some [1, 1, 1, 1, 65536, 65536, 100, 1073741824, 16, 16, 1, 65536, 1000, 4096, 1048576, 1])
  unfold refBad at h
  simp only [] at h
  generalize z1 : decide (100 < (a0_0.size : Int)) = z at h
  generalize e1 : a0_1.toList.isEmpty = e at h
  generalize q1 : (k.toList == a0_1.toList) = q at h
  have q2 : (k.toList != a0_1.toList) = !q := by unfold bne; rw [q1]
  rw [q2] at h
  generalize y1 : decide (200 < (k.size : Int)) = y at h
  generalize x1 : (k.toList == [45]) = x at h
  have hend : ∀ tok z e ok q y x, (if (if !tok || z then (6 : Int) else if !e && (!ok || (!q || (y || x))) then 13 else 0) = 0 then (if insB (rightN a0_2 a0_3 a0_4 a0_5 a0_6 a0_7 a0_8 a0_9 a0_10 a0_11 a0_12 a0_13 a0_14 a0_15 a0_16 a0_17) then (0 : Int) else 5) else (if !tok || z then (6 : Int) else if !e && (!ok || (!q || (y || x))) then 13 else 0)) = r →
      (tok = false ∧ r = 6) ∨ (tok = true ∧ z = true ∧ r = 6) ∨ (tok = true ∧ z = false ∧ ((e = true ∧ (if insB (rightN a0_2 a0_3 a0_4 a0_5 a0_6 a0_7 a0_8 a0_9 a0_10 a0_11 a0_12 a0_13 a0_14 a0_15 a0_16 a0_17) then (0 : Int) else 5) = r) ∨ (e = false ∧ ((ok = false ∧ r = 13) ∨ (ok = true ∧ ((q = false ∧ r = 13) ∨ (q = true ∧ ((y = true ∧ r = 13) ∨ (y = false ∧ ((x = true ∧ r = 13) ∨ (x = false ∧ (if insB (rightN a0_2 a0_3 a0_4 a0_5 a0_6 a0_7 a0_8 a0_9 a0_10 a0_11 a0_12 a0_13 a0_14 a0_15 a0_16 a0_17) then (0 : Int) else 5) = r))))))))))) := by
    intro tok z e ok q y x h
    cases tok
    · exact .inl ⟨rfl, h.symm⟩
    cases z
    rotate_left
    · exact .inr (.inl ⟨rfl, rfl, h.symm⟩)
    refine .inr (.inr ⟨rfl, rfl, ?_⟩)
    cases e
    rotate_left
    · exact .inl ⟨rfl, h⟩
    refine .inr ⟨rfl, ?_⟩
    cases ok
    · exact .inl ⟨rfl, h.symm⟩
    refine .inr ⟨rfl, ?_⟩
    cases q
    · exact .inl ⟨rfl, h.symm⟩
    refine .inr ⟨rfl, ?_⟩
    cases y
    rotate_left
    · exact .inl ⟨rfl, h.symm⟩
    refine .inr ⟨rfl, ?_⟩
    cases x
    rotate_left
    · exact .inl ⟨rfl, h.symm⟩
    exact .inr ⟨rfl, h⟩
  rcases hend tok z e ok q y x h with ⟨rfl, rfl⟩ | ⟨rfl, rfl, rfl⟩ | ⟨rfl, rfl, ⟨rfl, h⟩ | ⟨rfl, ⟨rfl, rfl⟩ | ⟨rfl, ⟨rfl, rfl⟩ | ⟨rfl, ⟨rfl, rfl⟩ | ⟨rfl, ⟨rfl, rfl⟩ | ⟨rfl, h⟩⟩⟩⟩⟩⟩
  · exact ref13_tok a0_0 a0_1 a0_2 a0_3 a0_4 a0_5 a0_6 a0_7 a0_8 a0_9 a0_10 a0_11 a0_12 a0_13 a0_14 a0_15 a0_16 a0_17 k w HT
  · exact ref13_long a0_0 a0_1 a0_2 a0_3 a0_4 a0_5 a0_6 a0_7 a0_8 a0_9 a0_10 a0_11 a0_12 a0_13 a0_14 a0_15 a0_16 a0_17 k w HT z1
  · exact ref13_empty a0_0 a0_1 a0_2 a0_3 a0_4 a0_5 a0_6 a0_7 a0_8 a0_9 a0_10 a0_11 a0_12 a0_13 a0_14 a0_15 a0_16 a0_17 k w HT z1 e1 r _ _ _ _ HN HL HM ⟨⟨rfl, rfl, rfl, rfl⟩⟩ HAT ⟨h⟩
  · exact ref13_key a0_0 a0_1 a0_2 a0_3 a0_4 a0_5 a0_6 a0_7 a0_8 a0_9 a0_10 a0_11 a0_12 a0_13 a0_14 a0_15 a0_16 a0_17 k w HT HK z1 e1
  · exact ref13_other a0_0 a0_1 a0_2 a0_3 a0_4 a0_5 a0_6 a0_7 a0_8 a0_9 a0_10 a0_11 a0_12 a0_13 a0_14 a0_15 a0_16 a0_17 k w HT HK z1 e1 q1
  · exact ref13_far a0_0 a0_1 a0_2 a0_3 a0_4 a0_5 a0_6 a0_7 a0_8 a0_9 a0_10 a0_11 a0_12 a0_13 a0_14 a0_15 a0_16 a0_17 k w HT HK z1 e1 q1 y1
  · exact ref13_dash a0_0 a0_1 a0_2 a0_3 a0_4 a0_5 a0_6 a0_7 a0_8 a0_9 a0_10 a0_11 a0_12 a0_13 a0_14 a0_15 a0_16 a0_17 k w HT HK z1 e1 q1 y1 x1
  · exact ref13_all a0_0 a0_1 a0_2 a0_3 a0_4 a0_5 a0_6 a0_7 a0_8 a0_9 a0_10 a0_11 a0_12 a0_13 a0_14 a0_15 a0_16 a0_17 k w HT HK z1 e1 q1 y1 x1 r _ _ _ _ HN HL HM ⟨⟨rfl, rfl, rfl, rfl⟩⟩ HAT ⟨h⟩


end Go.Proofs.Ytdjmgmiaognncaa.X
namespace Go.Proofs.Ytdjmgmiaognncaa.X
open Go.RowKit Go.Proofs.YtdjmgmiaognncaaW.PrintWords Go.Proofs.YtdjmgmiaognncaaW.PrintLast Go.Proofs.YtdjmgmiaognncaaW.PrintMore
attribute [local go_sem] max2_int min2_int max_two min_two max_three min_three max_four min_four   -- for this text's walks alone
set_option linter.unusedVariables false
set_option linter.unusedSimpArgs false

/-! ### abutmentref13_Print: function 9 -/
def refOut (o : ByteArray) : List Int → ByteArray
  | [] => o
  | n :: l => refOut ((o ++ (⟨#[32]⟩ : ByteArray)) ++ rdigB n.toNat 10) l
def refPrint (s t : ByteArray) (l : List Int) : ByteArray := refOut (if t.toList = [] then ((s ++ (⟨#[32]⟩ : ByteArray)) ++ t) ++ (⟨#[45]⟩ : ByteArray) else (s ++ (⟨#[32]⟩ : ByteArray)) ++ t) l
def abutmentref13_Print.f (a0_0 : ByteArray) (a0_1 : ByteArray) (a0_2 : Int) (a0_3 : Int) (a0_4 : Int) (a0_5 : Int) (a0_6 : Int) (a0_7 : Int) (a0_8 : Int) (a0_9 : Int) (a0_10 : Int) (a0_11 : Int) (a0_12 : Int) (a0_13 : Int) (a0_14 : Int) (a0_15 : Int) (a0_16 : Int) (a0_17 : Int) : Option (ByteArray) := if a0_0.size ≤ 1000000 ∧ a0_1.size ≤ 1000000 then (abutmentref13_Right.f a0_0 a0_1 a0_2 a0_3 a0_4 a0_5 a0_6 a0_7 a0_8 a0_9 a0_10 a0_11 a0_12 a0_13 a0_14 a0_15 a0_16 a0_17).bind fun e => some (if e = 0 then refPrint a0_0 a0_1 [a0_2, a0_3, a0_4, a0_5, a0_6, a0_7, a0_8, a0_9, a0_10, a0_11, a0_12, a0_13, a0_14, a0_15, a0_16, a0_17] else ⟨#[]⟩) else none
theorem ins_all : ∀ (L : List (Int × Int × Int)) (i : Nat) n, insB L = true → (∀ x ∈ L, 0 ≤ x.2.1 ∧ x.2.2 ≤ 1073741824) → (L.map (·.1))[i]? = some n → 0 ≤ n ∧ n ≤ 1073741824 := by
  intro L i n hb hr hg
  rw [List.getElem?_map] at hg
  obtain ⟨⟨n', l, h⟩, hx, rfl⟩ := Option.map_eq_some_iff.1 hg
  have h1 := ins_at L i n' l h hb hx
  have h2 := hr _ (List.mem_of_getElem? hx)
  simp at h2 ⊢
  omega
set_option maxHeartbeats 8000000 in
set_option maxRecDepth 100000 in
theorem ref13p_bad (a0_0 a0_1 : ByteArray) (a0_2 a0_3 a0_4 a0_5 a0_6 a0_7 a0_8 a0_9 a0_10 a0_11 a0_12 a0_13 a0_14 a0_15 a0_16 a0_17 : Int) (w : World) (e0 : Int) (he : (e0 == 0) = false) (HRT : ∀ W, Calls Try.prog 7 #[.agg #[.string a0_0, .string a0_1, .int .i64 a0_2, .int .i64 a0_3, .int .i64 a0_4, .int .i64 a0_5, .int .i64 a0_6, .int .i64 a0_7, .int .i64 a0_8, .int .i64 a0_9, .int .i64 a0_10, .int .i64 a0_11, .int .i64 a0_12, .int .i64 a0_13, .int .i64 a0_14, .int .i64 a0_15, .int .i64 a0_16, .int .i64 a0_17]] W fun e w' => e = .returned (.int .i64 e0) ∧ Below W.heap.size W w') :
    Calls Try.prog 9 #[.agg #[.string a0_0, .string a0_1, .int .i64 a0_2, .int .i64 a0_3, .int .i64 a0_4, .int .i64 a0_5, .int .i64 a0_6, .int .i64 a0_7, .int .i64 a0_8, .int .i64 a0_9, .int .i64 a0_10, .int .i64 a0_11, .int .i64 a0_12, .int .i64 a0_13, .int .i64 a0_14, .int .i64 a0_15, .int .i64 a0_16, .int .i64 a0_17]] w fun e w' => e = .returned (.string ⟨#[]⟩) ∧ Below w.heap.size w w' := by
  have he2 : (e0 != 0) = true := by unfold bne; rw [he]; rfl

  go_enter Try.func9, Try.ntmps9
  go_upto_region 1 with (fail)
  generalize hX : World.alloc w _ = X
  have HX : Aside0 (CBox w.heap.size a0_0 a0_1 a0_2 a0_3 a0_4 a0_5 a0_6 a0_7 a0_8 a0_9 a0_10 a0_11 a0_12 a0_13 a0_14 a0_15 a0_16 a0_17 X) := ⟨by rw [← hX]; exact World.alloc_heap_new _ _⟩
  have BX := Aside0.mk (show Below w.heap.size w X by rw [← hX]; exact (Below.refl _ w).alloc (Nat.le_refl _) _)
  clear hX
  go_wp2_with (first | (refine wpList_load_row rfl 25 _ rfl w.heap.size rfl 25 _ (0, 0) _ HX.out Try.underlying25 rfl (by kernel_rfl) ?_) | (go_at_call 7; (with_reducible refine (HRT _).mono ?_); rintro e w1 ⟨rfl, hb1⟩; have HX1 : Aside0 (CBox w.heap.size a0_0 a0_1 a0_2 a0_3 a0_4 a0_5 a0_6 a0_7 a0_8 a0_9 a0_10 a0_11 a0_12 a0_13 a0_14 a0_15 a0_16 a0_17 w1) := ⟨CBox.next (W := X) HX.out hb1⟩; have BW1 := Aside0.mk (below_step BX.out hb1); clear hb1))

  go_ret
  exact ⟨rfl, BW1.out⟩
set_option maxHeartbeats 8000000 in
set_option maxRecDepth 100000 in
theorem ref13p_empty (a0_0 a0_1 : ByteArray) (a0_2 a0_3 a0_4 a0_5 a0_6 a0_7 a0_8 a0_9 a0_10 a0_11 a0_12 a0_13 a0_14 a0_15 a0_16 a0_17 : Int) (w : World) (e1 : a0_1.toList.isEmpty = true) (HRT : ∀ W, Calls Try.prog 7 #[.agg #[.string a0_0, .string a0_1, .int .i64 a0_2, .int .i64 a0_3, .int .i64 a0_4, .int .i64 a0_5, .int .i64 a0_6, .int .i64 a0_7, .int .i64 a0_8, .int .i64 a0_9, .int .i64 a0_10, .int .i64 a0_11, .int .i64 a0_12, .int .i64 a0_13, .int .i64 a0_14, .int .i64 a0_15, .int .i64 a0_16, .int .i64 a0_17]] W fun e w' => e = .returned (.int .i64 0) ∧ Below W.heap.size W w')  (r : ByteArray) (L1 : List Int) (HN : ∀ W, Calls Try.prog 21 #[.agg #[.string a0_0, .string a0_1, .int .i64 a0_2, .int .i64 a0_3, .int .i64 a0_4, .int .i64 a0_5, .int .i64 a0_6, .int .i64 a0_7, .int .i64 a0_8, .int .i64 a0_9, .int .i64 a0_10, .int .i64 a0_11, .int .i64 a0_12, .int .i64 a0_13, .int .i64 a0_14, .int .i64 a0_15, .int .i64 a0_16, .int .i64 a0_17]] W fun e w' => ∃ v0_ : Value, e = .returned (v0_) ∧ Kd.R (Kd.int .i64) 3 w' W.heap.size (fun _ => True) v0_ L1 ∧ Below W.heap.size W w') (HLEN : Aside0 (L1.length = 16)) (HAT : Aside0 (∀ (i : Nat) n, L1[i]? = some n → 0 ≤ n ∧ n ≤ 1073741824)) (s1 : a0_0.size ≤ 1000000) (s2 : a0_1.size ≤ 1000000) (HR : Aside0 (refOut (((a0_0 ++ (⟨#[32]⟩ : ByteArray)) ++ a0_1) ++ (⟨#[45]⟩ : ByteArray)) (L1.drop (0 : Int).toNat) = r)) :
    Calls Try.prog 9 #[.agg #[.string a0_0, .string a0_1, .int .i64 a0_2, .int .i64 a0_3, .int .i64 a0_4, .int .i64 a0_5, .int .i64 a0_6, .int .i64 a0_7, .int .i64 a0_8, .int .i64 a0_9, .int .i64 a0_10, .int .i64 a0_11, .int .i64 a0_12, .int .i64 a0_13, .int .i64 a0_14, .int .i64 a0_15, .int .i64 a0_16, .int .i64 a0_17]] w fun e w' => e = .returned (.string r) ∧ Below w.heap.size w w' := by
  have z1 : (9223372036854775807 < a0_0.size + 1) = False := eq_false (by omega)
  have z2 : (9223372036854775807 < a0_0.size + 1 + a0_1.size) = False := eq_false (by omega)
  have z3 : (9223372036854775807 < (a0_0 ++ (⟨#[32]⟩ : ByteArray)).size + a0_1.size) = False := eq_false (by rw [ByteArray.size_append]; show ¬ _ < a0_0.size + 1 + _; omega)
  have z4 : (9223372036854775807 < ((a0_0 ++ (⟨#[32]⟩ : ByteArray)) ++ a0_1).size + 1) = False := eq_false (by rw [ByteArray.size_append, ByteArray.size_append]; show ¬ _ < a0_0.size + 1 + _ + _; omega)
  have z5 : (9223372036854775807 < a0_0.size + 1 + a0_1.size + 1) = False := eq_false (by omega)
  have HSZ := Aside0.mk (show (((a0_0 ++ (⟨#[32]⟩ : ByteArray)) ++ a0_1) ++ (⟨#[45]⟩ : ByteArray)).size ≤ 2000002 by rw [ByteArray.size_append, ByteArray.size_append, ByteArray.size_append]; show a0_0.size + 1 + _ + 1 ≤ _; omega)
  have e2 : (a0_1.toList == ([] : List UInt8)) = true := by rw [beq_iff_eq]; exact List.isEmpty_iff.1 e1
  have e3 : (!a0_1.toList.isEmpty) = false := by rw [e1]; rfl

  go_enter Try.func9, Try.ntmps9
  go_upto_region 1 with (fail)
  generalize hX : World.alloc w _ = X
  have HX : Aside0 (CBox w.heap.size a0_0 a0_1 a0_2 a0_3 a0_4 a0_5 a0_6 a0_7 a0_8 a0_9 a0_10 a0_11 a0_12 a0_13 a0_14 a0_15 a0_16 a0_17 X) := ⟨by rw [← hX]; exact World.alloc_heap_new _ _⟩
  have BX := Aside0.mk (show Below w.heap.size w X by rw [← hX]; exact (Below.refl _ w).alloc (Nat.le_refl _) _)
  clear hX
  go_upto_region 3 with (first | (refine wpList_load_row rfl 25 _ rfl w.heap.size rfl 25 _ (0, 0) _ HX.out Try.underlying25 rfl (by kernel_rfl) ?_) | (go_at_call 7; (with_reducible refine (HRT _).mono ?_); rintro e w1 ⟨rfl, hb1⟩; have HX1 : Aside0 (CBox w.heap.size a0_0 a0_1 a0_2 a0_3 a0_4 a0_5 a0_6 a0_7 a0_8 a0_9 a0_10 a0_11 a0_12 a0_13 a0_14 a0_15 a0_16 a0_17 w1) := ⟨CBox.next (W := X) HX.out hb1⟩; have BW1 := Aside0.mk (below_step BX.out hb1); clear hb1))

  have c0 := HX1.out.name
  have c1 := HX1.out.host
  go_wp2_with (first | (refine wpList_load_row rfl 25 _ rfl w.heap.size rfl 25 _ (0, 0) _ HX1.out Try.underlying25 rfl (by kernel_rfl) ?_) | (go_at_call 21; (with_reducible refine (HN _).mono ?_); rintro e w5 ⟨v1, rfl, ho1, hb5⟩; have R1 := Aside0.mk (Kd.R_lower ho1 (below_size BW1.out)); have B5 := Aside0.mk (below_step BW1.out hb5); clear hb5 ho1 c0 c1))
  go_loopg [3, 5] 17 (fun gg s3 s5 wr => ∃ (o : ByteArray) (x : Int), s3 = .string o ∧ s5 = .int .i64 x ∧ 0 ≤ x ∧ x ≤ 16 ∧ 16 - x.toNat < gg ∧ o.size ≤ 2000002 + 66 * x.toNat ∧ Aside0 (refOut o (L1.drop x.toNat) = r) ∧ Aside0 (Kd.R (Kd.int .i64) 3 wr w.heap.size (fun _ => True) v1 L1) ∧ Aside0 (Below w.heap.size w wr))
  case atStart => exact ⟨_, 0, rfl, rfl, by omega, by omega, by omega, HSZ.out, HR, ⟨Kd.R_mono R1.out (fun _ _ => by first | trivial | exact ⟨trivial, ‹_›⟩ | simp_all)⟩, B5⟩
  case round =>
    clear HR R1 B5 HSZ z1 z2 z3 z4 z5
    obtain ⟨o, x, rfl, rfl, p0, p16, hgz, hos, HI, R1, BW⟩ := hrel
    cases gk with
    | zero => exact absurd hgz (by omega)
    | succ g' =>
      by_cases hlt : x < 16
      · have hlen := HLEN.out
        have hget : L1[x.toNat]? = some (L1[x.toNat]'(by omega)) := List.getElem?_eq_getElem _
        generalize hn : L1[x.toNat]'(by omega) = n at hget
        obtain ⟨hn0, hn1⟩ := HAT.out _ _ hget
        have hT := fun W => abutmentref02_Text.calls n (rdigB n.toNat 10) W (text_rdig n hn0 hn1)
        obtain ⟨hgl1, hgl2⟩ := List.getElem?_eq_some_iff.1 hget
        have hdrop := List.drop_eq_getElem_cons (l := L1) (i := x.toNat) hgl1
        rw [hgl2] at hdrop
        have hds := rdigB_size n.toNat 10
        have HI2 := Aside0.mk (show refOut ((o ++ (⟨#[32]⟩ : ByteArray)) ++ rdigB n.toNat 10) (L1.drop (x.toNat + 1)) = r by have := HI.out; rw [hdrop] at this; exact this)
        have hrd : rd L1 x = n := by rw [← hgl2]; unfold rd; simp [hgl1]
        generalize rdigB n.toNat 10 = D at hT HI2 hds
        obtain ⟨A1, c1, eo1⟩ := Kd.R_slice R1.out
        subst eo1
        obtain ⟨ad1, ea1, hx1⟩ := Kd.at_int (Kd.R_reads' R1.out).2.2 x p0 (by omega)
        cases ea1
        rw [hrd] at hx1
        have qb1 : (x < (L1.length : Int)) = True := eq_true (by omega)
        have q0 : (0 ≤ x) = True := eq_true p0
        have y1 : (9223372036854775807 < o.size + 1) = False := eq_false (by omega)
        have y2 : (9223372036854775807 < o.size + 1 + D.size) = False := eq_false (by omega)
        have y3 : (9223372036854775807 < (o ++ (⟨#[32]⟩ : ByteArray)).size + D.size) = False := eq_false (by rw [ByteArray.size_append]; show ¬ _ < o.size + 1 + _; omega)
        have HNS := Aside0.mk (show ((o ++ (⟨#[32]⟩ : ByteArray)) ++ D).size ≤ 2000002 + 66 * (x + 1).toNat by rw [ByteArray.size_append, ByteArray.size_append]; show o.size + 1 + _ ≤ _; omega)
        clear hdrop hgl1 hgl2 hget hn hlen hds HI hrd hn0 hn1
        go_wp2_with (go_at_call 26; (with_reducible refine (hT _).mono ?_); rintro e w' ⟨rfl, hbt⟩)
        go_roundg g'
        case measure => omega
        case rel => exact ⟨_, x + 1, rfl, rfl, by omega, by omega, by omega, HNS.out, ⟨by rw [show (x + 1).toNat = x.toNat + 1 from by omega]; exact HI2.out⟩, ⟨Kd.R_below R1.out hbt⟩, ⟨below_step BW.out hbt⟩⟩
      · have hx16 : x = 16 := by omega
        subst hx16
        have hlen := HLEN.out
        obtain ⟨A1, c1, eo1⟩ := Kd.R_slice R1.out
        subst eo1
        have qb1 : ((16 : Int) < (L1.length : Int)) = False := eq_false (by omega)
        clear hlen
        go_wp2
        go_ret
        exact ⟨by rw [← HI.out, show L1.drop (16 : Int).toNat = [] from List.drop_eq_nil_iff.2 (by have := HLEN.out; rw [this]; decide)]; rfl, BW.out⟩
set_option maxHeartbeats 8000000 in
set_option maxRecDepth 100000 in
theorem ref13p_full (a0_0 a0_1 : ByteArray) (a0_2 a0_3 a0_4 a0_5 a0_6 a0_7 a0_8 a0_9 a0_10 a0_11 a0_12 a0_13 a0_14 a0_15 a0_16 a0_17 : Int) (w : World) (e1 : a0_1.toList.isEmpty = false) (HRT : ∀ W, Calls Try.prog 7 #[.agg #[.string a0_0, .string a0_1, .int .i64 a0_2, .int .i64 a0_3, .int .i64 a0_4, .int .i64 a0_5, .int .i64 a0_6, .int .i64 a0_7, .int .i64 a0_8, .int .i64 a0_9, .int .i64 a0_10, .int .i64 a0_11, .int .i64 a0_12, .int .i64 a0_13, .int .i64 a0_14, .int .i64 a0_15, .int .i64 a0_16, .int .i64 a0_17]] W fun e w' => e = .returned (.int .i64 0) ∧ Below W.heap.size W w')  (r : ByteArray) (L1 : List Int) (HN : ∀ W, Calls Try.prog 21 #[.agg #[.string a0_0, .string a0_1, .int .i64 a0_2, .int .i64 a0_3, .int .i64 a0_4, .int .i64 a0_5, .int .i64 a0_6, .int .i64 a0_7, .int .i64 a0_8, .int .i64 a0_9, .int .i64 a0_10, .int .i64 a0_11, .int .i64 a0_12, .int .i64 a0_13, .int .i64 a0_14, .int .i64 a0_15, .int .i64 a0_16, .int .i64 a0_17]] W fun e w' => ∃ v0_ : Value, e = .returned (v0_) ∧ Kd.R (Kd.int .i64) 3 w' W.heap.size (fun _ => True) v0_ L1 ∧ Below W.heap.size W w') (HLEN : Aside0 (L1.length = 16)) (HAT : Aside0 (∀ (i : Nat) n, L1[i]? = some n → 0 ≤ n ∧ n ≤ 1073741824)) (s1 : a0_0.size ≤ 1000000) (s2 : a0_1.size ≤ 1000000) (HR : Aside0 (refOut (((a0_0 ++ (⟨#[32]⟩ : ByteArray)) ++ a0_1)) (L1.drop (0 : Int).toNat) = r)) :
    Calls Try.prog 9 #[.agg #[.string a0_0, .string a0_1, .int .i64 a0_2, .int .i64 a0_3, .int .i64 a0_4, .int .i64 a0_5, .int .i64 a0_6, .int .i64 a0_7, .int .i64 a0_8, .int .i64 a0_9, .int .i64 a0_10, .int .i64 a0_11, .int .i64 a0_12, .int .i64 a0_13, .int .i64 a0_14, .int .i64 a0_15, .int .i64 a0_16, .int .i64 a0_17]] w fun e w' => e = .returned (.string r) ∧ Below w.heap.size w w' := by
  have z1 : (9223372036854775807 < a0_0.size + 1) = False := eq_false (by omega)
  have z2 : (9223372036854775807 < a0_0.size + 1 + a0_1.size) = False := eq_false (by omega)
  have z3 : (9223372036854775807 < (a0_0 ++ (⟨#[32]⟩ : ByteArray)).size + a0_1.size) = False := eq_false (by rw [ByteArray.size_append]; show ¬ _ < a0_0.size + 1 + _; omega)
  have z4 : (9223372036854775807 < ((a0_0 ++ (⟨#[32]⟩ : ByteArray)) ++ a0_1).size + 1) = False := eq_false (by rw [ByteArray.size_append, ByteArray.size_append]; show ¬ _ < a0_0.size + 1 + _ + _; omega)
  have z5 : (9223372036854775807 < a0_0.size + 1 + a0_1.size + 1) = False := eq_false (by omega)
  have HSZ := Aside0.mk (show (((a0_0 ++ (⟨#[32]⟩ : ByteArray)) ++ a0_1)).size ≤ 2000002 by rw [ByteArray.size_append, ByteArray.size_append]; show a0_0.size + 1 + _ ≤ _; omega)
  have e2 : (a0_1.toList == ([] : List UInt8)) = false := by rw [beq_eq_false_iff_ne]; intro hh; rw [hh] at e1; cases e1
  have e3 : (!a0_1.toList.isEmpty) = true := by rw [e1]; rfl

  go_enter Try.func9, Try.ntmps9
  go_upto_region 1 with (fail)
  generalize hX : World.alloc w _ = X
  have HX : Aside0 (CBox w.heap.size a0_0 a0_1 a0_2 a0_3 a0_4 a0_5 a0_6 a0_7 a0_8 a0_9 a0_10 a0_11 a0_12 a0_13 a0_14 a0_15 a0_16 a0_17 X) := ⟨by rw [← hX]; exact World.alloc_heap_new _ _⟩
  have BX := Aside0.mk (show Below w.heap.size w X by rw [← hX]; exact (Below.refl _ w).alloc (Nat.le_refl _) _)
  clear hX
  go_upto_region 3 with (first | (refine wpList_load_row rfl 25 _ rfl w.heap.size rfl 25 _ (0, 0) _ HX.out Try.underlying25 rfl (by kernel_rfl) ?_) | (go_at_call 7; (with_reducible refine (HRT _).mono ?_); rintro e w1 ⟨rfl, hb1⟩; have HX1 : Aside0 (CBox w.heap.size a0_0 a0_1 a0_2 a0_3 a0_4 a0_5 a0_6 a0_7 a0_8 a0_9 a0_10 a0_11 a0_12 a0_13 a0_14 a0_15 a0_16 a0_17 w1) := ⟨CBox.next (W := X) HX.out hb1⟩; have BW1 := Aside0.mk (below_step BX.out hb1); clear hb1))

  have c0 := HX1.out.name
  have c1 := HX1.out.host
  go_wp2_with (first | (refine wpList_load_row rfl 25 _ rfl w.heap.size rfl 25 _ (0, 0) _ HX1.out Try.underlying25 rfl (by kernel_rfl) ?_) | (go_at_call 21; (with_reducible refine (HN _).mono ?_); rintro e w5 ⟨v1, rfl, ho1, hb5⟩; have R1 := Aside0.mk (Kd.R_lower ho1 (below_size BW1.out)); have B5 := Aside0.mk (below_step BW1.out hb5); clear hb5 ho1 c0 c1))
  go_loopg [3, 5] 17 (fun gg s3 s5 wr => ∃ (o : ByteArray) (x : Int), s3 = .string o ∧ s5 = .int .i64 x ∧ 0 ≤ x ∧ x ≤ 16 ∧ 16 - x.toNat < gg ∧ o.size ≤ 2000002 + 66 * x.toNat ∧ Aside0 (refOut o (L1.drop x.toNat) = r) ∧ Aside0 (Kd.R (Kd.int .i64) 3 wr w.heap.size (fun _ => True) v1 L1) ∧ Aside0 (Below w.heap.size w wr))
  case atStart => exact ⟨_, 0, rfl, rfl, by omega, by omega, by omega, HSZ.out, HR, ⟨Kd.R_mono R1.out (fun _ _ => by first | trivial | exact ⟨trivial, ‹_›⟩ | simp_all)⟩, B5⟩
  case round =>
    clear HR R1 B5 HSZ z1 z2 z3 z4 z5
    obtain ⟨o, x, rfl, rfl, p0, p16, hgz, hos, HI, R1, BW⟩ := hrel
    cases gk with
    | zero => exact absurd hgz (by omega)
    | succ g' =>
      by_cases hlt : x < 16
      · have hlen := HLEN.out
        have hget : L1[x.toNat]? = some (L1[x.toNat]'(by omega)) := List.getElem?_eq_getElem _
        generalize hn : L1[x.toNat]'(by omega) = n at hget
        obtain ⟨hn0, hn1⟩ := HAT.out _ _ hget
        have hT := fun W => abutmentref02_Text.calls n (rdigB n.toNat 10) W (text_rdig n hn0 hn1)
        obtain ⟨hgl1, hgl2⟩ := List.getElem?_eq_some_iff.1 hget
        have hdrop := List.drop_eq_getElem_cons (l := L1) (i := x.toNat) hgl1
        rw [hgl2] at hdrop
        have hds := rdigB_size n.toNat 10
        have HI2 := Aside0.mk (show refOut ((o ++ (⟨#[32]⟩ : ByteArray)) ++ rdigB n.toNat 10) (L1.drop (x.toNat + 1)) = r by have := HI.out; rw [hdrop] at this; exact this)
        have hrd : rd L1 x = n := by rw [← hgl2]; unfold rd; simp [hgl1]
        generalize rdigB n.toNat 10 = D at hT HI2 hds
        obtain ⟨A1, c1, eo1⟩ := Kd.R_slice R1.out
        subst eo1
        obtain ⟨ad1, ea1, hx1⟩ := Kd.at_int (Kd.R_reads' R1.out).2.2 x p0 (by omega)
        cases ea1
        rw [hrd] at hx1
        have qb1 : (x < (L1.length : Int)) = True := eq_true (by omega)
        have q0 : (0 ≤ x) = True := eq_true p0
        have y1 : (9223372036854775807 < o.size + 1) = False := eq_false (by omega)
        have y2 : (9223372036854775807 < o.size + 1 + D.size) = False := eq_false (by omega)
        have y3 : (9223372036854775807 < (o ++ (⟨#[32]⟩ : ByteArray)).size + D.size) = False := eq_false (by rw [ByteArray.size_append]; show ¬ _ < o.size + 1 + _; omega)
        have HNS := Aside0.mk (show ((o ++ (⟨#[32]⟩ : ByteArray)) ++ D).size ≤ 2000002 + 66 * (x + 1).toNat by rw [ByteArray.size_append, ByteArray.size_append]; show o.size + 1 + _ ≤ _; omega)
        clear hdrop hgl1 hgl2 hget hn hlen hds HI hrd hn0 hn1
        go_wp2_with (go_at_call 26; (with_reducible refine (hT _).mono ?_); rintro e w' ⟨rfl, hbt⟩)
        go_roundg g'
        case measure => omega
        case rel => exact ⟨_, x + 1, rfl, rfl, by omega, by omega, by omega, HNS.out, ⟨by rw [show (x + 1).toNat = x.toNat + 1 from by omega]; exact HI2.out⟩, ⟨Kd.R_below R1.out hbt⟩, ⟨below_step BW.out hbt⟩⟩
      · have hx16 : x = 16 := by omega
        subst hx16
        have hlen := HLEN.out
        obtain ⟨A1, c1, eo1⟩ := Kd.R_slice R1.out
        subst eo1
        have qb1 : ((16 : Int) < (L1.length : Int)) = False := eq_false (by omega)
        clear hlen
        go_wp2
        go_ret
        exact ⟨by rw [← HI.out, show L1.drop (16 : Int).toNat = [] from List.drop_eq_nil_iff.2 (by have := HLEN.out; rw [this]; decide)]; rfl, BW.out⟩
theorem abutmentref13_Print.calls (a0_0 : ByteArray) (a0_1 : ByteArray) (a0_2 : Int) (a0_3 : Int) (a0_4 : Int) (a0_5 : Int) (a0_6 : Int) (a0_7 : Int) (a0_8 : Int) (a0_9 : Int) (a0_10 : Int) (a0_11 : Int) (a0_12 : Int) (a0_13 : Int) (a0_14 : Int) (a0_15 : Int) (a0_16 : Int) (a0_17 : Int) (r : ByteArray) (w : World) (h : abutmentref13_Print.f a0_0 a0_1 a0_2 a0_3 a0_4 a0_5 a0_6 a0_7 a0_8 a0_9 a0_10 a0_11 a0_12 a0_13 a0_14 a0_15 a0_16 a0_17 = some r) :
    Calls Try.prog 9 #[.agg #[.string a0_0, .string a0_1, .int .i64 a0_2, .int .i64 a0_3, .int .i64 a0_4, .int .i64 a0_5, .int .i64 a0_6, .int .i64 a0_7, .int .i64 a0_8, .int .i64 a0_9, .int .i64 a0_10, .int .i64 a0_11, .int .i64 a0_12, .int .i64 a0_13, .int .i64 a0_14, .int .i64 a0_15, .int .i64 a0_16, .int .i64 a0_17]] w fun e w' => e = .returned (.string r) ∧ Below w.heap.size w w' := by
  by_cases hs : a0_0.size ≤ 1000000 ∧ a0_1.size ≤ 1000000
  · rw [abutmentref13_Print.f, if_pos hs] at h
    replace h := Option.bind_eq_some_iff.mp h
    obtain ⟨e0, he0, h⟩ := h
    have h1_ := Option.some.inj h
    clear h
    have h := h1_
    clear h1_
    have HRT := fun W => abutmentref13_Right.calls a0_0 a0_1 a0_2 a0_3 a0_4 a0_5 a0_6 a0_7 a0_8 a0_9 a0_10 a0_11 a0_12 a0_13 a0_14 a0_15 a0_16 a0_17 e0 W he0
    by_cases he : e0 = 0
    · rw [if_pos he] at h
      subst he
      have HINS : insB (rightN a0_2 a0_3 a0_4 a0_5 a0_6 a0_7 a0_8 a0_9 a0_10 a0_11 a0_12 a0_13 a0_14 a0_15 a0_16 a0_17) = true := by
        unfold abutmentref13_Right.f at he0
        replace he0 := Option.bind_eq_some_iff.mp he0
        obtain ⟨t, _, he0⟩ := he0
        replace he0 := Option.bind_eq_some_iff.mp he0
        obtain ⟨p, _, he0⟩ := he0
        have he0 := Option.some.inj he0
        by_cases h1 : refBad a0_0 a0_1 p.1 t p.2 = 0
        · rw [if_pos h1] at he0
          by_cases h3 : insB (rightN a0_2 a0_3 a0_4 a0_5 a0_6 a0_7 a0_8 a0_9 a0_10 a0_11 a0_12 a0_13 a0_14 a0_15 a0_16 a0_17) = true
          · exact h3
          · rw [if_neg h3] at he0; omega
        · rw [if_neg h1] at he0; exact absurd he0 h1
      have HN := fun W => abutmentref13_Numbers.calls a0_0 a0_1 a0_2 a0_3 a0_4 a0_5 a0_6 a0_7 a0_8 a0_9 a0_10 a0_11 a0_12 a0_13 a0_14 a0_15 a0_16 a0_17 _ W (rfl : abutmentref13_Numbers.f a0_0 a0_1 a0_2 a0_3 a0_4 a0_5 a0_6 a0_7 a0_8 a0_9 a0_10 a0_11 a0_12 a0_13 a0_14 a0_15 a0_16 a0_17 = some [a0_2, a0_3, a0_4, a0_5, a0_6, a0_7, a0_8, a0_9, a0_10, a0_11, a0_12, a0_13, a0_14, a0_15, a0_16, a0_17])
      have HAT : Aside0 (∀ (i : Nat) n, ([a0_2, a0_3, a0_4, a0_5, a0_6, a0_7, a0_8, a0_9, a0_10, a0_11, a0_12, a0_13, a0_14, a0_15, a0_16, a0_17] : List Int)[i]? = some n → 0 ≤ n ∧ n ≤ 1073741824) := ⟨fun i n hg => ins_all _ i n HINS (rightN_range a0_2 a0_3 a0_4 a0_5 a0_6 a0_7 a0_8 a0_9 a0_10 a0_11 a0_12 a0_13 a0_14 a0_15 a0_16 a0_17) hg⟩
      unfold refPrint at h
      by_cases e1 : a0_1.toList = []
      · rw [if_pos e1] at h
        exact ref13p_empty a0_0 a0_1 a0_2 a0_3 a0_4 a0_5 a0_6 a0_7 a0_8 a0_9 a0_10 a0_11 a0_12 a0_13 a0_14 a0_15 a0_16 a0_17 w (List.isEmpty_iff.2 e1) HRT r _ HN ⟨rfl⟩ HAT hs.1 hs.2 ⟨h⟩
      · rw [if_neg e1] at h
        exact ref13p_full a0_0 a0_1 a0_2 a0_3 a0_4 a0_5 a0_6 a0_7 a0_8 a0_9 a0_10 a0_11 a0_12 a0_13 a0_14 a0_15 a0_16 a0_17 w (by rw [Bool.eq_false_iff]; intro hh; exact e1 (List.isEmpty_iff.1 hh)) HRT r _ HN ⟨rfl⟩ HAT hs.1 hs.2 ⟨h⟩
    · rw [if_neg he] at h
      subst h
      exact ref13p_bad a0_0 a0_1 a0_2 a0_3 a0_4 a0_5 a0_6 a0_7 a0_8 a0_9 a0_10 a0_11 a0_12 a0_13 a0_14 a0_15 a0_16 a0_17 w e0 (beq_eq_false_iff_ne.2 he) HRT
  · rw [abutmentref13_Print.f, if_neg hs] at h
    cases h


end Go.Proofs.Ytdjmgmiaognncaa.X
namespace Go.Proofs.Ytdjmgmiaognncaa.X
open Go.RowKit Go.Proofs.YtdjmgmiaognncaaW.PrintWords Go.Proofs.YtdjmgmiaognncaaW.PrintLast Go.Proofs.YtdjmgmiaognncaaW.PrintMore
attribute [local go_sem] max2_int min2_int max_two min_two max_three min_three max_four min_four   -- for this text's walks alone
set_option linter.unusedVariables false
set_option linter.unusedSimpArgs false

/-! ### abutmentlaw13_ConfigRight: function 3 -/
theorem load_run {P : Program} {o : Oper} {a : Act} {w : World} (ty : TypeId) (x : Operand) (ho : o.op = .load ty x) (g : Nat) (hx : a.eval x = .pointer (some ⟨g, 0, none⟩)) (t : TypeId) (cs : Array Value) (fr : Nat × Nat) (d : TypeDesc) (hg : w.heap[g]? = some (.cells cs t fr))
    (hu : P.underlying ty = some d) (hd : (match d with | .struct _ | .array _ _ => true | _ => false) = true) (hi : (P.info? ty).map (·.size) = some cs.size) : (execOp a.eval o).run P w = .ok (.value (.agg cs)) w := by
  unfold execOp
  simp only [ho, hx, Instr.loadAt, Instr.sureAddr, Sem.run_bind, Sem.run_pure, Result.andThen_ok, run_loadVar_row w g t ty cs fr d hg hu hd hi]
def abutmentlaw13_ConfigRight.f (a0_0 : ByteArray) (a0_1 : ByteArray) (a0_2 : Int) (a0_3 : Int) (a0_4 : Int) (a0_5 : Int) (a0_6 : Int) (a0_7 : Int) (a0_8 : Int) (a0_9 : Int) (a0_10 : Int) (a0_11 : Int) (a0_12 : Int) (a0_13 : Int) (a0_14 : Int) (a0_15 : Int) (a0_16 : Int) (a0_17 : Int) : Option (Bool) := if a0_0.size ≤ 300 ∧ a0_1.size ≤ 500 then (config_Right.f a0_0 a0_1 a0_2 a0_3 a0_4 a0_5 a0_6 a0_7 a0_8 a0_9 a0_10 a0_11 a0_12 a0_13 a0_14 a0_15 a0_16 a0_17).bind fun e => (abutmentref13_Right.f a0_0 a0_1 a0_2 a0_3 a0_4 a0_5 a0_6 a0_7 a0_8 a0_9 a0_10 a0_11 a0_12 a0_13 a0_14 a0_15 a0_16 a0_17).bind fun e2 => (config_Print.f a0_0 a0_1 a0_2 a0_3 a0_4 a0_5 a0_6 a0_7 a0_8 a0_9 a0_10 a0_11 a0_12 a0_13 a0_14 a0_15 a0_16 a0_17).bind fun p => (abutmentref13_Print.f a0_0 a0_1 a0_2 a0_3 a0_4 a0_5 a0_6 a0_7 a0_8 a0_9 a0_10 a0_11 a0_12 a0_13 a0_14 a0_15 a0_16 a0_17).bind fun q => if e = e2 ∧ p = q then abutmentlaw13_lives.f else none else abutmentlaw13_lives.f
set_option maxHeartbeats 8000000 in
set_option maxRecDepth 100000 in
theorem law13_far (a0_0 a0_1 : ByteArray) (a0_2 a0_3 a0_4 a0_5 a0_6 a0_7 a0_8 a0_9 a0_10 a0_11 a0_12 a0_13 a0_14 a0_15 a0_16 a0_17 : Int) (r : Bool) (w : World) (hz : ¬ (a0_0.size ≤ 300 ∧ a0_1.size ≤ 500)) (HL : ∀ W, Calls Try.prog 5 #[] W fun e w' => e = .returned (.bool r) ∧ Below W.heap.size W w') :
    Calls Try.prog 3 #[.agg #[.string a0_0, .string a0_1, .int .i64 a0_2, .int .i64 a0_3, .int .i64 a0_4, .int .i64 a0_5, .int .i64 a0_6, .int .i64 a0_7, .int .i64 a0_8, .int .i64 a0_9, .int .i64 a0_10, .int .i64 a0_11, .int .i64 a0_12, .int .i64 a0_13, .int .i64 a0_14, .int .i64 a0_15, .int .i64 a0_16, .int .i64 a0_17]] w fun e w' => e = .returned (.bool r) ∧ Below w.heap.size w w' := by
  have HZ := Aside0.mk hz
  clear hz
  by_cases z : 300 < a0_0.size
  · have z1 : decide (300 < a0_0.size) = true := decide_eq_true z
    have z2 : decide (300 < (a0_0.size : Int)) = true := decide_eq_true (by omega)
    clear z
    go_enter Try.func3, Try.ntmps3
    go_upto_region 1 with (fail)
    generalize hX : World.alloc w _ = X
    have HX : Aside0 (CBox w.heap.size a0_0 a0_1 a0_2 a0_3 a0_4 a0_5 a0_6 a0_7 a0_8 a0_9 a0_10 a0_11 a0_12 a0_13 a0_14 a0_15 a0_16 a0_17 X) := ⟨by rw [← hX]; exact World.alloc_heap_new _ _⟩
    have BX := Aside0.mk (show Below w.heap.size w X by rw [← hX]; exact (Below.refl _ w).alloc (Nat.le_refl _) _)
    clear hX
    have c0 := HX.out.name
    have c1 := HX.out.host

    go_wp2_with (go_at_call 5; (with_reducible refine (HL _).mono ?_); rintro e w1 ⟨rfl, hb1⟩; have BW1 := Aside0.mk (below_step BX.out hb1); clear hb1)
    go_ret
    exact ⟨rfl, BW1.out⟩
  · have y := HZ.out
    have z1 : decide (300 < a0_0.size) = false := decide_eq_false z
    have z2 : decide (300 < (a0_0.size : Int)) = false := decide_eq_false (by omega)
    have y1 : decide (500 < a0_1.size) = true := decide_eq_true (by omega)
    have y2 : decide (500 < (a0_1.size : Int)) = true := decide_eq_true (by omega)
    clear y z
    go_enter Try.func3, Try.ntmps3
    go_upto_region 1 with (fail)
    generalize hX : World.alloc w _ = X
    have HX : Aside0 (CBox w.heap.size a0_0 a0_1 a0_2 a0_3 a0_4 a0_5 a0_6 a0_7 a0_8 a0_9 a0_10 a0_11 a0_12 a0_13 a0_14 a0_15 a0_16 a0_17 X) := ⟨by rw [← hX]; exact World.alloc_heap_new _ _⟩
    have BX := Aside0.mk (show Below w.heap.size w X by rw [← hX]; exact (Below.refl _ w).alloc (Nat.le_refl _) _)
    clear hX
    have c0 := HX.out.name
    have c1 := HX.out.host

    go_wp2_with (go_at_call 5; (with_reducible refine (HL _).mono ?_); rintro e w1 ⟨rfl, hb1⟩; have BW1 := Aside0.mk (below_step BX.out hb1); clear hb1)
    go_ret
    exact ⟨rfl, BW1.out⟩
def T13 : Bool × List (List Nat × List Nat) := (true, [([], []), ([0], [0]), ([], []), ([2, 1], [2]), ([1, 3], [1, 3]), ([4, 3], [4]), ([5], [5]), ([6, 5, 5], [5, 6]), ([5], [5]), ([8, 7, 5], [5, 8]), ([7, 9, 5], [5, 7, 9]), ([5, 10], [5, 10]), ([11, 9], [11]), ([12, 12], [12]), ([12, 13], [12, 13]), ([14, 13, 0, 1, 2, 3, 4, 5, 6, 7, 8, 9, 10, 11, 12, 13, 14], [14])])
def B13 : List Nat := [0, 1, 0, 7, 15, 31, 63, 127, 63, 511, 1023, 2047, 4095, 8191, 16383, 32767]
theorem tab13 : rtab .any (opsOf Try.f3 3) = T13 := by kernel_rfl
theorem bits13 : waitsOk T13.2 B13 = true := by kernel_rfl
set_option maxHeartbeats 8000000 in
set_option maxRecDepth 100000 in
theorem law13_all (a0_0 a0_1 : ByteArray) (a0_2 a0_3 a0_4 a0_5 a0_6 a0_7 a0_8 a0_9 a0_10 a0_11 a0_12 a0_13 a0_14 a0_15 a0_16 a0_17 : Int) (r : Bool) (w : World) (z : a0_0.size ≤ 300 ∧ a0_1.size ≤ 500) (en : Int) (p : ByteArray) (H1 : ∀ W, Calls Try.prog 6 #[.agg #[.string a0_0, .string a0_1, .int .i64 a0_2, .int .i64 a0_3, .int .i64 a0_4, .int .i64 a0_5, .int .i64 a0_6, .int .i64 a0_7, .int .i64 a0_8, .int .i64 a0_9, .int .i64 a0_10, .int .i64 a0_11, .int .i64 a0_12, .int .i64 a0_13, .int .i64 a0_14, .int .i64 a0_15, .int .i64 a0_16, .int .i64 a0_17]] W fun e w' => e = .returned (.int .i64 en) ∧ Below W.heap.size W w') (H2 : ∀ W, Calls Try.prog 7 #[.agg #[.string a0_0, .string a0_1, .int .i64 a0_2, .int .i64 a0_3, .int .i64 a0_4, .int .i64 a0_5, .int .i64 a0_6, .int .i64 a0_7, .int .i64 a0_8, .int .i64 a0_9, .int .i64 a0_10, .int .i64 a0_11, .int .i64 a0_12, .int .i64 a0_13, .int .i64 a0_14, .int .i64 a0_15, .int .i64 a0_16, .int .i64 a0_17]] W fun e w' => e = .returned (.int .i64 en) ∧ Below W.heap.size W w') (H3 : ∀ W, Calls Try.prog 8 #[.agg #[.string a0_0, .string a0_1, .int .i64 a0_2, .int .i64 a0_3, .int .i64 a0_4, .int .i64 a0_5, .int .i64 a0_6, .int .i64 a0_7, .int .i64 a0_8, .int .i64 a0_9, .int .i64 a0_10, .int .i64 a0_11, .int .i64 a0_12, .int .i64 a0_13, .int .i64 a0_14, .int .i64 a0_15, .int .i64 a0_16, .int .i64 a0_17]] W fun e w' => e = .returned (.string p) ∧ Below W.heap.size W w') (H4 : ∀ W, Calls Try.prog 9 #[.agg #[.string a0_0, .string a0_1, .int .i64 a0_2, .int .i64 a0_3, .int .i64 a0_4, .int .i64 a0_5, .int .i64 a0_6, .int .i64 a0_7, .int .i64 a0_8, .int .i64 a0_9, .int .i64 a0_10, .int .i64 a0_11, .int .i64 a0_12, .int .i64 a0_13, .int .i64 a0_14, .int .i64 a0_15, .int .i64 a0_16, .int .i64 a0_17]] W fun e w' => e = .returned (.string p) ∧ Below W.heap.size W w') (HL : ∀ W, Calls Try.prog 5 #[] W fun e w' => e = .returned (.bool r) ∧ Below W.heap.size W w') :
    Calls Try.prog 3 #[.agg #[.string a0_0, .string a0_1, .int .i64 a0_2, .int .i64 a0_3, .int .i64 a0_4, .int .i64 a0_5, .int .i64 a0_6, .int .i64 a0_7, .int .i64 a0_8, .int .i64 a0_9, .int .i64 a0_10, .int .i64 a0_11, .int .i64 a0_12, .int .i64 a0_13, .int .i64 a0_14, .int .i64 a0_15, .int .i64 a0_16, .int .i64 a0_17]] w fun e w' => e = .returned (.bool r) ∧ Below w.heap.size w w' := by
  have z1 : decide (300 < a0_0.size) = false := decide_eq_false (by omega)
  have z2 : decide (300 < (a0_0.size : Int)) = false := decide_eq_false (by omega)
  have y1 : decide (500 < a0_1.size) = false := decide_eq_false (by omega)
  have y2 : decide (500 < (a0_1.size : Int)) = false := decide_eq_false (by omega)
  have e1 : (en == en) = true := beq_self_eq_true en
  have p1 : (p.toList == p.toList) = true := beq_self_eq_true _
  clear z

  go_enter Try.func3, Try.ntmps3
  go_upto_region 1 with (fail)
  generalize hX : World.alloc w _ = X
  have HX : Aside0 (CBox w.heap.size a0_0 a0_1 a0_2 a0_3 a0_4 a0_5 a0_6 a0_7 a0_8 a0_9 a0_10 a0_11 a0_12 a0_13 a0_14 a0_15 a0_16 a0_17 X) := ⟨by rw [← hX]; exact World.alloc_heap_new _ _⟩
  have BX := Aside0.mk (show Below w.heap.size w X by rw [← hX]; exact (Below.refl _ w).alloc (Nat.le_refl _) _)
  clear hX
  have c0 := HX.out.name
  have c1 := HX.out.host

  go_upto_region 3 with (fail)
  clear c0 c1 z1 z2 y1 y2
  refine start_ (n := 16) (S := fun w' => CBox w.heap.size a0_0 a0_1 a0_2 a0_3 a0_4 a0_5 a0_6 a0_7 a0_8 a0_9 a0_10 a0_11 a0_12 a0_13 a0_14 a0_15 a0_16 a0_17 w') (ds := []) #[false, false, false, false, false, false, false, false, false, false, false, false, false, false, false, false] (by kernel_rfl) rfl rfl (show CBox w.heap.size a0_0 a0_1 a0_2 a0_3 a0_4 a0_5 a0_6 a0_7 a0_8 a0_9 a0_10 a0_11 a0_12 a0_13 a0_14 a0_15 a0_16 a0_17 X.drew from HX.out) (fun hHeld => ?_)
  refine with_tabW tab13 bits13 (fun HT_ HW_ => ?_)
  have HX1 : Aside0 (CBox w.heap.size a0_0 a0_1 a0_2 a0_3 a0_4 a0_5 a0_6 a0_7 a0_8 a0_9 a0_10 a0_11 a0_12 a0_13 a0_14 a0_15 a0_16 a0_17 X.drew) := ⟨HX.out⟩
  have BX1 : Aside0 (Below w.heap.size w X.drew) := ⟨below_drew1 BX.out⟩
  clear HX BX
  generalize X.drew = X at HX1 BX1 hHeld ⊢
  have HX := HX1
  have BX := BX1
  clear HX1 BX1
  refine take_ (i := 0) (N := some 14) (v := .agg #[.string a0_0, .string a0_1, .int .i64 a0_2, .int .i64 a0_3, .int .i64 a0_4, .int .i64 a0_5, .int .i64 a0_6, .int .i64 a0_7, .int .i64 a0_8, .int .i64 a0_9, .int .i64 a0_10, .int .i64 a0_11, .int .i64 a0_12, .int .i64 a0_13, .int .i64 a0_14, .int .i64 a0_15, .int .i64 a0_16, .int .i64 a0_17]) (a' := ?_) #[true, false, false, false, false, false, false, false, false, false, false, false, false, false, false, false] rfl rfl (take_ofW HT_.out HW_.out (by kernel_rfl)) (fun _ _ _ h => h) (Or.inl ⟨by rfl, ?_⟩) hHeld ?_ ?_
  · rintro w' hx
    exact load_run 25 (.tmp 1) (by rfl) w.heap.size (by rfl) 25 _ (0, 0) _ hx Try.underlying25 rfl (by kernel_rfl)
  rotate_left
  · simp only [Act.put, List.setIfInBounds_toArray, List.set_cons_zero, List.set_cons_succ, i64_w, i32_w]
    rfl
  refine take_ (i := 2) (N := some 16) (v := .agg #[.string a0_0, .string a0_1, .int .i64 a0_2, .int .i64 a0_3, .int .i64 a0_4, .int .i64 a0_5, .int .i64 a0_6, .int .i64 a0_7, .int .i64 a0_8, .int .i64 a0_9, .int .i64 a0_10, .int .i64 a0_11, .int .i64 a0_12, .int .i64 a0_13, .int .i64 a0_14, .int .i64 a0_15, .int .i64 a0_16, .int .i64 a0_17]) (a' := ?_) #[true, false, true, false, false, false, false, false, false, false, false, false, false, false, false, false] rfl rfl (take_ofW HT_.out HW_.out (by kernel_rfl)) (fun _ _ _ h => h) (Or.inl ⟨by rfl, ?_⟩) hHeld ?_ ?_
  · rintro w' hx
    exact load_run 25 (.tmp 1) (by rfl) w.heap.size (by rfl) 25 _ (0, 0) _ hx Try.underlying25 rfl (by kernel_rfl)
  rotate_left
  · simp only [Act.put, List.setIfInBounds_toArray, List.set_cons_zero, List.set_cons_succ, i64_w, i32_w]
    rfl
  refine one_ (i := 1) (N := some 15) #[true, true, true, false, false, false, false, false, false, false, false, false, false, false, false, false] rfl rfl (one_of HT_.out (by kernel_rfl)) (by decide) (fun K hK => ?_)
  refine goes_ Try.func6 (by kernel_rfl) rfl #[.agg #[.string a0_0, .string a0_1, .int .i64 a0_2, .int .i64 a0_3, .int .i64 a0_4, .int .i64 a0_5, .int .i64 a0_6, .int .i64 a0_7, .int .i64 a0_8, .int .i64 a0_9, .int .i64 a0_10, .int .i64 a0_11, .int .i64 a0_12, .int .i64 a0_13, .int .i64 a0_14, .int .i64 a0_15, .int .i64 a0_16, .int .i64 a0_17]] (by rfl) rfl rfl (by (try simp only [List.map_toArray, List.map_cons, List.map_nil]); first | done | rfl | (simp only [List.length_drop, List.length_take]; rfl)) ?_
  (with_reducible refine (H1 _).mono ?_)
  rintro e w' ⟨rfl, hb⟩
  refine ⟨_, rfl, ?_⟩
  have n0_ := Aside0.mk (CBox.next HX.out hb)
  have n1_ := Aside0.mk (below_step BX.out hb)
  clear HX BX hb
  have HX := n0_
  have BX := n1_
  clear n0_ n1_
  refine hK.out _ _ HX.out (fun hHeld => ?_)
  clear hK K
  refine norm_ (a' := ?_) ?_ ?_
  rotate_left
  · show Act.put _ (some 15) _ = _
    simp only [Act.put, List.setIfInBounds_toArray, List.set_cons_zero, List.set_cons_succ, i64_w, i32_w]
    rfl
  refine one_ (i := 3) (N := some 17) #[true, true, true, true, false, false, false, false, false, false, false, false, false, false, false, false] rfl rfl (one_of HT_.out (by kernel_rfl)) (by decide) (fun K hK => ?_)
  refine goes_ Try.func7 (by kernel_rfl) rfl #[.agg #[.string a0_0, .string a0_1, .int .i64 a0_2, .int .i64 a0_3, .int .i64 a0_4, .int .i64 a0_5, .int .i64 a0_6, .int .i64 a0_7, .int .i64 a0_8, .int .i64 a0_9, .int .i64 a0_10, .int .i64 a0_11, .int .i64 a0_12, .int .i64 a0_13, .int .i64 a0_14, .int .i64 a0_15, .int .i64 a0_16, .int .i64 a0_17]] (by rfl) rfl rfl (by (try simp only [List.map_toArray, List.map_cons, List.map_nil]); first | done | rfl | (simp only [List.length_drop, List.length_take]; rfl)) ?_
  (with_reducible refine (H2 _).mono ?_)
  rintro e w' ⟨rfl, hb⟩
  refine ⟨_, rfl, ?_⟩
  have n0_ := Aside0.mk (CBox.next HX.out hb)
  have n1_ := Aside0.mk (below_step BX.out hb)
  clear HX BX hb
  have HX := n0_
  have BX := n1_
  clear n0_ n1_
  refine hK.out _ _ HX.out (fun hHeld => ?_)
  clear hK K
  refine norm_ (a' := ?_) ?_ ?_
  rotate_left
  · show Act.put _ (some 17) _ = _
    simp only [Act.put, List.setIfInBounds_toArray, List.set_cons_zero, List.set_cons_succ, i64_w, i32_w]
    rfl
  refine pure_ (i := 4) (N := some 18) (v := ?_) (a' := ?_) #[true, true, true, true, true, false, false, false, false, false, false, false, false, false, false, false] rfl rfl (any_of HT_.out (by kernel_rfl)) (fun _ _ _ h => h) (Or.inl ⟨by rfl, ?_⟩) ?_ ?_
  rotate_left
  · intro w'
    go_simp
    with_reducible rfl
  rotate_left
  · simp only [Act.put, List.setIfInBounds_toArray, List.set_cons_zero, List.set_cons_succ, i64_w, i32_w]
    rfl
  refine pure_ (i := 5) (N := some 19) (v := ?_) (a' := ?_) #[true, true, true, true, true, true, false, false, false, false, false, false, false, false, false, false] rfl rfl (any_of HT_.out (by kernel_rfl)) (fun _ _ _ h => h) (Or.inl ⟨by rfl, ?_⟩) ?_ ?_
  rotate_left
  · intro w'
    go_simp
    with_reducible rfl
  rotate_left
  · simp only [Act.put, List.setIfInBounds_toArray, List.set_cons_zero, List.set_cons_succ, i64_w, i32_w]
    rfl
  refine take_ (i := 6) (N := some 20) (v := .agg #[.string a0_0, .string a0_1, .int .i64 a0_2, .int .i64 a0_3, .int .i64 a0_4, .int .i64 a0_5, .int .i64 a0_6, .int .i64 a0_7, .int .i64 a0_8, .int .i64 a0_9, .int .i64 a0_10, .int .i64 a0_11, .int .i64 a0_12, .int .i64 a0_13, .int .i64 a0_14, .int .i64 a0_15, .int .i64 a0_16, .int .i64 a0_17]) (a' := ?_) #[true, true, true, true, true, true, true, false, false, false, false, false, false, false, false, false] rfl rfl (take_ofW HT_.out HW_.out (by kernel_rfl)) (fun _ _ _ h => h) (Or.inl ⟨by rfl, ?_⟩) hHeld ?_ ?_
  · rintro w' hx
    exact load_run 25 (.tmp 1) (by rfl) w.heap.size (by rfl) 25 _ (0, 0) _ hx Try.underlying25 rfl (by kernel_rfl)
  rotate_left
  · simp only [Act.put, List.setIfInBounds_toArray, List.set_cons_zero, List.set_cons_succ, i64_w, i32_w]
    rfl
  refine take_ (i := 8) (N := some 22) (v := .agg #[.string a0_0, .string a0_1, .int .i64 a0_2, .int .i64 a0_3, .int .i64 a0_4, .int .i64 a0_5, .int .i64 a0_6, .int .i64 a0_7, .int .i64 a0_8, .int .i64 a0_9, .int .i64 a0_10, .int .i64 a0_11, .int .i64 a0_12, .int .i64 a0_13, .int .i64 a0_14, .int .i64 a0_15, .int .i64 a0_16, .int .i64 a0_17]) (a' := ?_) #[true, true, true, true, true, true, true, false, true, false, false, false, false, false, false, false] rfl rfl (take_ofW HT_.out HW_.out (by kernel_rfl)) (fun _ _ _ h => h) (Or.inl ⟨by rfl, ?_⟩) hHeld ?_ ?_
  · rintro w' hx
    exact load_run 25 (.tmp 1) (by rfl) w.heap.size (by rfl) 25 _ (0, 0) _ hx Try.underlying25 rfl (by kernel_rfl)
  rotate_left
  · simp only [Act.put, List.setIfInBounds_toArray, List.set_cons_zero, List.set_cons_succ, i64_w, i32_w]
    rfl
  refine one_ (i := 7) (N := some 21) #[true, true, true, true, true, true, true, true, true, false, false, false, false, false, false, false] rfl rfl (one_of HT_.out (by kernel_rfl)) (by decide) (fun K hK => ?_)
  refine goes_ Try.func8 (by kernel_rfl) rfl #[.agg #[.string a0_0, .string a0_1, .int .i64 a0_2, .int .i64 a0_3, .int .i64 a0_4, .int .i64 a0_5, .int .i64 a0_6, .int .i64 a0_7, .int .i64 a0_8, .int .i64 a0_9, .int .i64 a0_10, .int .i64 a0_11, .int .i64 a0_12, .int .i64 a0_13, .int .i64 a0_14, .int .i64 a0_15, .int .i64 a0_16, .int .i64 a0_17]] (by rfl) rfl rfl (by (try simp only [List.map_toArray, List.map_cons, List.map_nil]); first | done | rfl | (simp only [List.length_drop, List.length_take]; rfl)) ?_
  (with_reducible refine (H3 _).mono ?_)
  rintro e w' ⟨rfl, hb⟩
  refine ⟨_, rfl, ?_⟩
  have n0_ := Aside0.mk (CBox.next HX.out hb)
  have n1_ := Aside0.mk (below_step BX.out hb)
  clear HX BX hb
  have HX := n0_
  have BX := n1_
  clear n0_ n1_
  refine hK.out _ _ HX.out (fun hHeld => ?_)
  clear hK K
  refine norm_ (a' := ?_) ?_ ?_
  rotate_left
  · show Act.put _ (some 21) _ = _
    simp only [Act.put, List.setIfInBounds_toArray, List.set_cons_zero, List.set_cons_succ, i64_w, i32_w]
    rfl
  refine one_ (i := 9) (N := some 23) #[true, true, true, true, true, true, true, true, true, true, false, false, false, false, false, false] rfl rfl (one_of HT_.out (by kernel_rfl)) (by decide) (fun K hK => ?_)
  refine goes_ Try.func9 (by kernel_rfl) rfl #[.agg #[.string a0_0, .string a0_1, .int .i64 a0_2, .int .i64 a0_3, .int .i64 a0_4, .int .i64 a0_5, .int .i64 a0_6, .int .i64 a0_7, .int .i64 a0_8, .int .i64 a0_9, .int .i64 a0_10, .int .i64 a0_11, .int .i64 a0_12, .int .i64 a0_13, .int .i64 a0_14, .int .i64 a0_15, .int .i64 a0_16, .int .i64 a0_17]] (by rfl) rfl rfl (by (try simp only [List.map_toArray, List.map_cons, List.map_nil]); first | done | rfl | (simp only [List.length_drop, List.length_take]; rfl)) ?_
  (with_reducible refine (H4 _).mono ?_)
  rintro e w' ⟨rfl, hb⟩
  refine ⟨_, rfl, ?_⟩
  have n0_ := Aside0.mk (CBox.next HX.out hb)
  have n1_ := Aside0.mk (below_step BX.out hb)
  clear HX BX hb
  have HX := n0_
  have BX := n1_
  clear n0_ n1_
  refine hK.out _ _ HX.out (fun hHeld => ?_)
  clear hK K
  refine norm_ (a' := ?_) ?_ ?_
  rotate_left
  · show Act.put _ (some 23) _ = _
    simp only [Act.put, List.setIfInBounds_toArray, List.set_cons_zero, List.set_cons_succ, i64_w, i32_w]
    rfl
  refine pure_ (i := 10) (N := some 24) (v := ?_) (a' := ?_) #[true, true, true, true, true, true, true, true, true, true, true, false, false, false, false, false] rfl rfl (any_of HT_.out (by kernel_rfl)) (fun _ _ _ h => h) (Or.inl ⟨by rfl, ?_⟩) ?_ ?_
  rotate_left
  · intro w'
    go_simp
    with_reducible rfl
  rotate_left
  · simp only [Act.put, List.setIfInBounds_toArray, List.set_cons_zero, List.set_cons_succ, i64_w, i32_w]
    rfl
  refine pure_ (i := 11) (N := some 25) (v := ?_) (a' := ?_) #[true, true, true, true, true, true, true, true, true, true, true, true, false, false, false, false] rfl rfl (any_of HT_.out (by kernel_rfl)) (fun _ _ _ h => h) (Or.inl ⟨by rfl, ?_⟩) ?_ ?_
  rotate_left
  · intro w'
    go_simp
    with_reducible rfl
  rotate_left
  · simp only [Act.put, List.setIfInBounds_toArray, List.set_cons_zero, List.set_cons_succ, i64_w, i32_w]
    rfl
  refine pure_ (i := 12) (N := some 26) (v := ?_) (a' := ?_) #[true, true, true, true, true, true, true, true, true, true, true, true, true, false, false, false] rfl rfl (any_of HT_.out (by kernel_rfl)) (fun _ _ _ h => h) (Or.inl ⟨by rfl, ?_⟩) ?_ ?_
  rotate_left
  · intro w'
    go_simp
    with_reducible rfl
  rotate_left
  · simp only [Act.put, List.setIfInBounds_toArray, List.set_cons_zero, List.set_cons_succ, i64_w, i32_w]
    rfl
  refine one_ (i := 13) (N := some 27) #[true, true, true, true, true, true, true, true, true, true, true, true, true, true, false, false] rfl rfl (one_of HT_.out (by kernel_rfl)) (by decide) (fun K hK => ?_)
  refine goes_ Try.func5 (by kernel_rfl) rfl #[] (by rfl) rfl rfl (by (try simp only [List.map_toArray, List.map_cons, List.map_nil]); first | done | rfl | (simp only [List.length_drop, List.length_take]; rfl)) ?_
  (with_reducible refine (HL _).mono ?_)
  rintro e w' ⟨rfl, hb⟩
  refine ⟨_, rfl, ?_⟩
  have n0_ := Aside0.mk (CBox.next HX.out hb)
  have n1_ := Aside0.mk (below_step BX.out hb)
  clear HX BX hb
  have HX := n0_
  have BX := n1_
  clear n0_ n1_
  refine hK.out _ _ HX.out (fun hHeld => ?_)
  clear hK K
  refine norm_ (a' := ?_) ?_ ?_
  rotate_left
  · show Act.put _ (some 27) _ = _
    simp only [Act.put, List.setIfInBounds_toArray, List.set_cons_zero, List.set_cons_succ, i64_w, i32_w]
    rfl
  refine pure_ (i := 14) (N := some 28) (v := ?_) (a' := ?_) #[true, true, true, true, true, true, true, true, true, true, true, true, true, true, true, false] rfl rfl (any_of HT_.out (by kernel_rfl)) (fun _ _ _ h => h) (Or.inl ⟨by rfl, ?_⟩) ?_ ?_
  rotate_left
  · intro w'
    go_simp
    with_reducible rfl
  rotate_left
  · simp only [Act.put, List.setIfInBounds_toArray, List.set_cons_zero, List.set_cons_succ, i64_w, i32_w]
    rfl
  refine pure_ (i := 15) (N := some 2) (v := ?_) (a' := ?_) #[true, true, true, true, true, true, true, true, true, true, true, true, true, true, true, true] rfl rfl (any_of HT_.out (by kernel_rfl)) (fun _ _ _ h => h) (Or.inl ⟨by rfl, ?_⟩) ?_ ?_
  rotate_left
  · intro w'
    go_simp
    with_reducible rfl
  rotate_left
  · simp only [Act.put, List.setIfInBounds_toArray, List.set_cons_zero, List.set_cons_succ, i64_w, i32_w]
    rfl
  refine done_ (done_of HT_.out (by kernel_rfl)) ?_

  go_wp2
  go_ret
  exact ⟨rfl, BX.out⟩
theorem abutmentlaw13_ConfigRight.calls (a0_0 : ByteArray) (a0_1 : ByteArray) (a0_2 : Int) (a0_3 : Int) (a0_4 : Int) (a0_5 : Int) (a0_6 : Int) (a0_7 : Int) (a0_8 : Int) (a0_9 : Int) (a0_10 : Int) (a0_11 : Int) (a0_12 : Int) (a0_13 : Int) (a0_14 : Int) (a0_15 : Int) (a0_16 : Int) (a0_17 : Int) (r : Bool) (w : World) (h : abutmentlaw13_ConfigRight.f a0_0 a0_1 a0_2 a0_3 a0_4 a0_5 a0_6 a0_7 a0_8 a0_9 a0_10 a0_11 a0_12 a0_13 a0_14 a0_15 a0_16 a0_17 = some r) :
    Calls Try.prog 3 #[.agg #[.string a0_0, .string a0_1, .int .i64 a0_2, .int .i64 a0_3, .int .i64 a0_4, .int .i64 a0_5, .int .i64 a0_6, .int .i64 a0_7, .int .i64 a0_8, .int .i64 a0_9, .int .i64 a0_10, .int .i64 a0_11, .int .i64 a0_12, .int .i64 a0_13, .int .i64 a0_14, .int .i64 a0_15, .int .i64 a0_16, .int .i64 a0_17]] w fun e w' => e = .returned (.bool r) ∧ Below w.heap.size w w' := by
  by_cases hz : a0_0.size ≤ 300 ∧ a0_1.size ≤ 500
  · rw [abutmentlaw13_ConfigRight.f, if_pos hz] at h
    replace h := Option.bind_eq_some_iff.mp h
    obtain ⟨e, h1, h⟩ := h
    replace h := Option.bind_eq_some_iff.mp h
    obtain ⟨e2, h2, h⟩ := h
    replace h := Option.bind_eq_some_iff.mp h
    obtain ⟨p, h3, h⟩ := h
    replace h := Option.bind_eq_some_iff.mp h
    obtain ⟨q, h4, h⟩ := h
    by_cases hq : e = e2 ∧ p = q
    · rw [if_pos hq] at h
      obtain ⟨rfl, rfl⟩ := hq
      exact law13_all a0_0 a0_1 a0_2 a0_3 a0_4 a0_5 a0_6 a0_7 a0_8 a0_9 a0_10 a0_11 a0_12 a0_13 a0_14 a0_15 a0_16 a0_17 r w hz e p (fun W => config_Right.calls a0_0 a0_1 a0_2 a0_3 a0_4 a0_5 a0_6 a0_7 a0_8 a0_9 a0_10 a0_11 a0_12 a0_13 a0_14 a0_15 a0_16 a0_17 e W h1) (fun W => abutmentref13_Right.calls a0_0 a0_1 a0_2 a0_3 a0_4 a0_5 a0_6 a0_7 a0_8 a0_9 a0_10 a0_11 a0_12 a0_13 a0_14 a0_15 a0_16 a0_17 e W h2) (fun W => config_Print.calls a0_0 a0_1 a0_2 a0_3 a0_4 a0_5 a0_6 a0_7 a0_8 a0_9 a0_10 a0_11 a0_12 a0_13 a0_14 a0_15 a0_16 a0_17 p W h3) (fun W => abutmentref13_Print.calls a0_0 a0_1 a0_2 a0_3 a0_4 a0_5 a0_6 a0_7 a0_8 a0_9 a0_10 a0_11 a0_12 a0_13 a0_14 a0_15 a0_16 a0_17 p W h4) (fun W => abutmentlaw13_lives.calls r W h)
    · rw [if_neg hq] at h
      cases h
  · rw [abutmentlaw13_ConfigRight.f, if_neg hz] at h
    exact law13_far a0_0 a0_1 a0_2 a0_3 a0_4 a0_5 a0_6 a0_7 a0_8 a0_9 a0_10 a0_11 a0_12 a0_13 a0_14 a0_15 a0_16 a0_17 r w hz (fun W => abutmentlaw13_lives.calls r W h)


end Go.Proofs.Ytdjmgmiaognncaa.X
namespace Go.Proofs.Ytdjmgmiaognncaa.X
open Go.RowKit Go.Proofs.YtdjmgmiaognncaaW.PrintWords Go.Proofs.YtdjmgmiaognncaaW.PrintLast Go.Proofs.YtdjmgmiaognncaaW.PrintMore
attribute [local go_sem] max2_int min2_int max_two min_two max_three min_three max_four min_four   -- for this text's walks alone
set_option linter.unusedVariables false
set_option linter.unusedSimpArgs false

/-! ### pure text 4: open -/
open Go.ChangeShapes Go.WideShapes Go.Deep
/-! ### What came in, as print's words tell it -/
theorem add_add_mul (a : Addr) (i j : Nat) : (a.add i).add j = a.add (i + j) := by
  unfold Addr.add
  by_cases hi : i = 0
  · subst hi; simp
  · by_cases hj : j = 0
    · subst hj; simp
    · rw [if_neg hi, if_neg hj, if_neg (by omega)]
      simp; omega
/-- A slice whose elements read by a kind. -/
theorem slice_reads {α : Type} {H : Type} {enc : TypeId × Value → H} {P : Program} {W : World} {t e : TypeId} {a : Option Addr} {len cap : Nat} {d : DataW H} {ps : List MemPlace} (k : Kd α) (Good : α → Prop)
    (ht : P.underlying t = some (.slice e)) (hs : P.cellsOf e = k.sz)
    (hel : ∀ n cs y, DataW.trod enc P W 0 (fun _ => true) true n e cs = some y → ∃ x, k.K W x cs ∧ Good x)
    (h : DataW.Trod enc P W 0 (fun _ => true) true t (.slice a len cap) d ps) :
    ∃ l : List α, l.length = len ∧ Kd.C k W a l.length l ∧ l.length ≤ cap ∧ l.length ≤ maxLen ∧ ∀ x ∈ l, Good x := by
  obtain ⟨fuel, hf⟩ := h
  have hf' : DataW.trod enc P W 0 (fun _ => true) true fuel t [.slice a len cap] = some (d, ps) := by simpa [Value.cells] using hf
  rcases open_slice ht hf' with ⟨hcs, _⟩ | ⟨ad, l', c', m, n, D, Pl, hcs, _, hl, hm, hmm, _, hx⟩
  · simp at hcs
    obtain ⟨rfl, rfl, rfl⟩ := hcs
    exact ⟨[], rfl, Kd.C_nil k W, by simp, by simp, by simp⟩
  · simp at hcs
    obtain ⟨rfl, rfl, rfl⟩ := hcs
    have hmc : m = cap := by simpa using hmm
    subst hmc
    have each : ∀ i, i < len → ∃ x, Good x ∧ ∃ c, c.length = k.sz ∧ k.K W x c ∧ ∀ j u, c[j]? = some u → W.cell? (ad.add (i * k.sz + j)) = some u := by
      intro i hi
      obtain ⟨cs', h1, h2⟩ := hx i (by omega)
      obtain ⟨x, hK, hG⟩ := hel _ _ _ h2
      rw [hs] at h1
      obtain ⟨_, hlen, hcell⟩ := World.cells?_some h1
      refine ⟨x, hG, cs', hlen, hK, fun j u hj => ?_⟩
      have hlt : j < k.sz := by rw [← hlen]; exact (List.getElem?_eq_some_iff.1 hj).1
      have := hcell j hlt
      rw [add_add_mul] at this
      rw [this, hj]
    have hbuild : ∀ n, n ≤ len → ∃ l : List α, l.length = n ∧ ∀ i x, l[i]? = some x → Good x ∧ ∃ c, c.length = k.sz ∧ k.K W x c ∧ ∀ j u, c[j]? = some u → W.cell? (ad.add (i * k.sz + j)) = some u := by
      intro n
      induction n with
      | zero => intro _; exact ⟨[], rfl, fun i x h => by simp at h⟩
      | succ n ih =>
        intro hn
        obtain ⟨l, hl', hL⟩ := ih (by omega)
        obtain ⟨x, hx'⟩ := each n (by omega)
        refine ⟨l ++ [x], by simp [hl'], fun i y hy => ?_⟩
        by_cases hi : i < l.length
        · rw [List.getElem?_append_left hi] at hy
          exact hL i y hy
        · rw [List.getElem?_append_right (by omega)] at hy
          have h0 : i - l.length = 0 := by
            have := (List.getElem?_eq_some_iff.1 hy).1
            simp at this; omega
          rw [h0] at hy
          simp at hy
          subst hy
          have : i = n := by omega
          subst this
          exact hx'
    obtain ⟨l, hll, hL⟩ := hbuild len (Nat.le_refl _)
    refine ⟨l, hll, ⟨rfl, by unfold maxLen at hm; omega, fun _ => ⟨ad, rfl, fun j p hj => (hL j p hj).2⟩⟩, by omega, by omega, fun x hx' => ?_⟩
    obtain ⟨i, hi⟩ := List.getElem?_of_mem hx'
    exact (hL i x hi).1
/-- A text. -/
theorem el_string {H : Type} {enc : TypeId × Value → H} {P : Program} {W : World} {e : TypeId} (he : P.underlying e = some .string) :
    ∀ n cs y, DataW.trod enc P W 0 (fun _ => true) true n e cs = some y → ∃ x : ByteArray, Kd.string.K W x cs ∧ x.size ≤ maxLen := by
  intro n cs y h
  obtain ⟨s, rfl, _, hw⟩ := DataW.trod_string he h
  exact ⟨s, rfl, hw⟩
theorem el_int {H : Type} {enc : TypeId × Value → H} {P : Program} {W : World} {e : TypeId} {k : IntKind} (he : P.underlying e = some (.int k)) :
    ∀ n cs y, DataW.trod enc P W 0 (fun _ => true) true n e cs = some y → ∃ x : Int, (Kd.int k).K W x cs ∧ (Lit.int k x).wf = true := by
  intro n cs y h
  obtain ⟨x, rfl, _, hw⟩ := DataW.trod_int he h
  exact ⟨x, rfl, hw⟩
theorem el_bool {H : Type} {enc : TypeId × Value → H} {P : Program} {W : World} {e : TypeId} (he : P.underlying e = some .bool) :
    ∀ n cs y, DataW.trod enc P W 0 (fun _ => true) true n e cs = some y → ∃ x : Bool, Kd.bool.K W x cs ∧ True := by
  intro n cs y h
  obtain ⟨x, rfl, _⟩ := DataW.trod_bool he h
  exact ⟨x, rfl, trivial⟩


end Go.Proofs.Ytdjmgmiaognncaa.X
namespace Go.Proofs.Ytdjmgmiaognncaa.X
open Go.RowKit Go.Proofs.YtdjmgmiaognncaaW.PrintWords Go.Proofs.YtdjmgmiaognncaaW.PrintLast Go.Proofs.YtdjmgmiaognncaaW.PrintMore
attribute [local go_sem] max2_int min2_int max_two min_two max_three min_three max_four min_four   -- for this text's walks alone
set_option linter.unusedVariables false
set_option linter.unusedSimpArgs false

/-! ### abutmentref07_Behind: function 41 -/
def behF (s : ByteArray) (at_ : Nat) (q : Bool) : Nat → Int → Nat → Int
  | 0, _, _ => -1
  | f + 1, d, i =>
    if i < s.size then
      if bt s i = 92 then behF s at_ q f d (i + 2)
      else if q = true then (if at_ < i ∧ bt s i = 34 then (i : Int) + 1 else behF s at_ q f d (i + 1))
      else if bt s i = 40 then behF s at_ q f (d + 1) (i + 1)
      else if bt s i = 41 then (if d - 1 = 0 then (i : Int) + 1 else behF s at_ q f (d - 1) (i + 1))
      else behF s at_ q f d (i + 1)
    else -1
theorem behF_end (s : ByteArray) (at_ : Nat) (q : Bool) (f : Nat) (d : Int) (i : Nat) (h : ¬ i < s.size) : behF s at_ q f d i = -1 := by
  cases f with
  | zero => rfl
  | succ f => simp only [behF]; rw [if_neg h]
def behind (s : ByteArray) (at_ : Nat) : Int := behF s at_ (bt s at_ == 34) s.size 0 at_
def abutmentref07_Behind.f (a0 : ByteArray) (a1 : Int) : Option (Int) := if 0 ≤ a1 ∧ a1 < a0.size ∧ a0.size ≤ 140737488351232 then some (behind a0 a1.toNat) else none
theorem bt_nat (s : ByteArray) (i : Nat) : ∀ h : i < s.size, ((s[i]'h).toNat : Int) = bt s i := fun h => by
  have := bt_at s (i : Int) (by simpa using h)
  simpa using this
set_option maxHeartbeats 4000000 in
set_option maxRecDepth 100000 in
theorem behind_walk (q : Bool) (s : ByteArray) (p : Nat) (w : World) (hp : p < s.size) (hs : s.size ≤ 140737488351232) (hq : (bt s p == 34) = q) :
    Calls Try.prog 41 #[.string s, .int .i64 (p : Int)] w fun e w' => e = .returned (.int .i64 (behF s p q s.size 0 p)) ∧ Drawn0 w w' := by
  have hxp := bt_nat s p
  obtain ⟨B, hB⟩ : ∃ B, bt s p = B := ⟨_, rfl⟩
  rw [hB] at hxp hq
  have HQ := Aside0.mk hB
  clear hB
  obtain ⟨R0, hR0⟩ : ∃ R0, behF s p q s.size 0 p = R0 := ⟨_, rfl⟩
  have HR0 := Aside0.mk hR0
  rw [hR0]
  clear hR0
  cases q
  · have hp2 : (p : Int) < s.size := by omega
    go_enter Try.func41, Try.ntmps41
    go_wp2
    go_loop [6, 7] (fun dd ii => ∃ (i f : Nat) (d : Int), ii = .int .i64 i ∧ dd = .int .i64 d ∧ i ≤ s.size + 1 ∧ s.size ≤ i + f ∧ -(i : Int) ≤ d ∧ d ≤ i ∧ Aside0 (behF s p false f d i = R0)) (fun _ ii => s.size + 2 - (intOf ii).toNat)
    case atStart => exact ⟨p, s.size, 0, rfl, rfl, by omega, by omega, by omega, by omega, HR0⟩
    case round =>
      obtain ⟨i, f, d, rfl, rfl, hi, hf, hd1, hd2, HL⟩ := hrel
      clear HR0
      by_cases hlt : i < s.size
      · obtain ⟨f, rfl⟩ : ∃ g, f = g + 1 := ⟨f - 1, by omega⟩
        have hlt2 : (i : Int) < s.size := by omega
        have hx := bt_nat s i
        obtain ⟨C, hC⟩ : ∃ C, bt s i = C := ⟨_, rfl⟩
        have hl := HL.out
        simp only [behF, hlt, if_true, hC, Bool.false_eq_true, if_false] at hl
        rw [hC] at hx
        clear hC HL
        by_cases e1 : C = 92
        · subst e1
          rw [if_pos rfl] at hl
          have HL := Aside0.mk hl
          clear hl
          go_wp2
          go_round
          case rel => exact ⟨i + 2, f, d, by go_num, rfl, by omega, by omega, by omega, by omega, HL⟩
          case measure => simp [intOf]; omega
        · rw [if_neg e1] at hl
          have b1 : (C == 92) = false := beq_eq_false_iff_ne.2 e1
          by_cases e2 : C = 40
          · subst e2
            rw [if_pos rfl] at hl
            have HL := Aside0.mk hl
            clear hl
            go_wp2
            go_round
            case rel => exact ⟨i + 1, f, d + 1, by go_num, by go_num, by omega, by omega, by omega, by omega, HL⟩
            case measure => simp [intOf]; omega
          · rw [if_neg e2] at hl
            have b2 : (C == 40) = false := beq_eq_false_iff_ne.2 e2
            by_cases e3 : C = 41
            · subst e3
              rw [if_pos rfl] at hl
              by_cases e4 : d - 1 = 0
              · rw [if_pos e4] at hl
                have b4 : (d - 1 == 0) = true := beq_iff_eq.2 e4
                have HL := Aside0.mk hl
                clear hl e4
                go_wp2
                go_ret
                exact ⟨by rw [← HL.out]; rfl, Drawn0.refl _⟩
              · rw [if_neg e4] at hl
                have b4 : (d - 1 == 0) = false := beq_eq_false_iff_ne.2 e4
                have HL := Aside0.mk hl
                clear hl e4
                go_wp2
                go_round
                case rel => exact ⟨i + 1, f, d - 1, by go_num, by go_num, by omega, by omega, by omega, by omega, HL⟩
                case measure => simp [intOf]; omega
            · rw [if_neg e3] at hl
              have b3 : (C == 41) = false := beq_eq_false_iff_ne.2 e3
              have HL := Aside0.mk hl
              clear hl e1 e2 e3
              go_wp2
              go_round
              case rel => exact ⟨i + 1, f, d, by go_num, rfl, by omega, by omega, by omega, by omega, HL⟩
              case measure => simp [intOf]; omega
      · have hl := HL.out
        rw [behF_end s p false f d i hlt] at hl
        have HF := Aside0.mk hl
        clear hl HL
        go_wp2
        go_ret
        exact ⟨by rw [← HF.out]; rfl, Drawn0.refl _⟩
  · have hp2 : (p : Int) < s.size := by omega
    go_enter Try.func41, Try.ntmps41
    go_wp2
    go_loop [6, 7] (fun dd ii => ∃ (i f : Nat), ii = .int .i64 i ∧ dd = .int .i64 0 ∧ p ≤ i ∧ i ≤ s.size + 1 ∧ s.size ≤ i + f ∧ Aside0 (behF s p true f 0 i = R0)) (fun _ ii => s.size + 2 - (intOf ii).toNat)
    case atStart => exact ⟨p, s.size, rfl, rfl, by omega, by omega, by omega, HR0⟩
    case round =>
      obtain ⟨i, f, rfl, rfl, hpi, hi, hf, HL⟩ := hrel
      clear HR0
      by_cases hlt : i < s.size
      · obtain ⟨f, rfl⟩ : ∃ g, f = g + 1 := ⟨f - 1, by omega⟩
        have hlt2 : (i : Int) < s.size := by omega
        have hx := bt_nat s i
        obtain ⟨C, hC⟩ : ∃ C, bt s i = C := ⟨_, rfl⟩
        have hl := HL.out
        simp only [behF, hlt, if_true, hC] at hl
        rw [hC] at hx
        clear hC HL
        by_cases e1 : C = 92
        · subst e1
          rw [if_pos rfl] at hl
          have HL := Aside0.mk hl
          clear hl
          go_wp2
          go_round
          case rel => exact ⟨i + 2, f, by go_num, rfl, by omega, by omega, by omega, HL⟩
          case measure => simp [intOf]; omega
        · rw [if_neg e1] at hl
          have b1 : (C == 92) = false := beq_eq_false_iff_ne.2 e1
          by_cases e2 : p < i
          · by_cases e3 : C = 34
            · rw [if_pos ⟨e2, e3⟩] at hl
              have b3 : (C == 34) = true := beq_iff_eq.2 e3
              have HL := Aside0.mk hl
              clear hl e3 e1
              go_wp2
              go_ret
              exact ⟨by rw [← HL.out]; rfl, Drawn0.refl _⟩
            · rw [if_neg (fun h => e3 h.2)] at hl
              have b3 : (C == 34) = false := beq_eq_false_iff_ne.2 e3
              have HL := Aside0.mk hl
              clear hl e1 e3
              go_wp2
              go_round
              case rel => exact ⟨i + 1, f, by go_num, rfl, by omega, by omega, by omega, HL⟩
              case measure => simp [intOf]; omega
          · rw [if_neg (fun h => e2 h.1)] at hl
            have HL := Aside0.mk hl
            clear hl e1
            go_wp2
            go_round
            case rel => exact ⟨i + 1, f, by go_num, rfl, by omega, by omega, by omega, HL⟩
            case measure => simp [intOf]; omega
      · have hl := HL.out
        rw [behF_end s p true f 0 i hlt] at hl
        have HF := Aside0.mk hl
        clear hl HL
        go_wp2
        go_ret
        exact ⟨by rw [← HF.out]; rfl, Drawn0.refl _⟩
theorem abutmentref07_Behind.calls (a0 : ByteArray) (a1 : Int) (r : Int) (w : World) (h : abutmentref07_Behind.f a0 a1 = some r) :
    Calls Try.prog 41 #[.string a0, .int .i64 a1] w fun e w' => e = .returned (.int .i64 r) ∧ Drawn0 w w' := by
  by_cases hh : 0 ≤ a1 ∧ a1 < a0.size ∧ a0.size ≤ 140737488351232
  · rw [abutmentref07_Behind.f, if_pos hh] at h
    obtain rfl := Option.some.inj h
    obtain ⟨p, rfl⟩ := Int.eq_ofNat_of_zero_le hh.1
    exact behind_walk _ a0 p w (by omega) hh.2.2 rfl
  · rw [abutmentref07_Behind.f, if_neg hh] at h
    cases h


end Go.Proofs.Ytdjmgmiaognncaa.X
namespace Go.Proofs.Ytdjmgmiaognncaa.X
open Go.RowKit Go.Proofs.YtdjmgmiaognncaaW.PrintWords Go.Proofs.YtdjmgmiaognncaaW.PrintLast Go.Proofs.YtdjmgmiaognncaaW.PrintMore
attribute [local go_sem] max2_int min2_int max_two min_two max_three min_three max_four min_four   -- for this text's walks alone
set_option linter.unusedVariables false
set_option linter.unusedSimpArgs false

/-! ### pure text 8: mk -/
theorem size_mk (l : List UInt8) : (⟨l.toArray⟩ : ByteArray).size = l.length := by simp [ByteArray.size]
theorem bt_mk (l : List UInt8) (i : Nat) (h : i < l.length) : bt ⟨l.toArray⟩ (i : Int) = ((l[i]'h).toNat : Int) := bt_list ⟨l.toArray⟩ i h
theorem ext_mk (l : List UInt8) (a b : Nat) : (⟨l.toArray⟩ : ByteArray).extract a b = ⟨((l.drop a).take (b - a)).toArray⟩ := ext_list ⟨l.toArray⟩ a b
theorem mk_eta (s : ByteArray) : (⟨s.data.toList.toArray⟩ : ByteArray) = s := Lib.mk_data s
theorem toList_inj (a b : ByteArray) : a.toList = b.toList ↔ a = b := by
  constructor
  · intro h
    rw [Lib.toList_data, Lib.toList_data] at h
    obtain ⟨⟨a⟩⟩ := a
    obtain ⟨⟨b⟩⟩ := b
    simp at h
    rw [h]
  · intro h; rw [h]
theorem rd_nat (l : List ByteArray) (i : Nat) (h : i < l.length) : rdOf ByteArray.empty l (i : Int) = l[i]'h := by
  unfold rdOf
  simp [List.getElem?_eq_getElem h]


end Go.Proofs.Ytdjmgmiaognncaa.X
namespace Go.Proofs.Ytdjmgmiaognncaa.X
open Go.RowKit Go.Proofs.YtdjmgmiaognncaaW.PrintWords Go.Proofs.YtdjmgmiaognncaaW.PrintLast Go.Proofs.YtdjmgmiaognncaaW.PrintMore
attribute [local go_sem] max2_int min2_int max_two min_two max_three min_three max_four min_four   -- for this text's walks alone
set_option linter.unusedVariables false
set_option linter.unusedSimpArgs false

/-! ### pure text 20: token -/
theorem get_list (s : ByteArray) (j : Nat) (h : j < s.data.toList.length) : s.get! j = s.data.toList[j]'h := by
  have h2 : j < s.data.size := by simpa using h
  show s.data[j]! = _
  rw [getElem!_pos s.data j h2]
  simp
theorem decode_cont (s : ByteArray) (i k : Nat) (h : (decide (i + k < s.size) && ((s.get! (i + k)).toNat / 64 == 2)) = true) : i + k < s.size ∧ 128 ≤ (s.get! (i + k)).toNat := by
  rw [Bool.and_eq_true, decide_eq_true_eq, beq_iff_eq] at h
  omega
/-- The octets of a rune beyond ASCII are all beyond ASCII. -/
theorem decode_bytes (s : ByteArray) (i : Nat) (hi : i < s.size) (hb : 128 ≤ (s.get! i).toNat) : ∀ j, i ≤ j → j < i + (Utf8.decode s i).2 → j < s.size ∧ 128 ≤ (s.get! j).toNat := by
  intro j h1 h2
  have h0 : ¬ (s.get! (i + 0)).toNat < 128 := by simp; omega
  have one : j < i + 1 → j < s.size ∧ 128 ≤ (s.get! j).toNat := fun h => by
    obtain rfl : j = i := by omega
    exact ⟨hi, hb⟩
  unfold Utf8.decode at h2
  simp only [if_neg h0] at h2
  split at h2
  · rename_i hc
    rw [Bool.and_eq_true] at hc
    have c1 := decode_cont s i 1 hc.2
    split at h2
    · by_cases e : j = i
      · exact one (by omega)
      · obtain rfl : j = i + 1 := by simp only at h2; omega
        exact c1
    · exact one h2
  · split at h2
    · rename_i hc
      rw [Bool.and_eq_true, Bool.and_eq_true] at hc
      have c1 := decode_cont s i 1 hc.1.2
      have c2 := decode_cont s i 2 hc.2
      split at h2
      · by_cases e : j = i
        · exact one (by omega)
        · by_cases e1 : j = i + 1
          · subst e1; exact c1
          · obtain rfl : j = i + 2 := by simp only at h2; omega
            exact c2
      · exact one h2
    · split at h2
      · rename_i hc
        rw [Bool.and_eq_true, Bool.and_eq_true, Bool.and_eq_true] at hc
        have c1 := decode_cont s i 1 hc.1.1.2
        have c2 := decode_cont s i 2 hc.1.2
        have c3 := decode_cont s i 3 hc.2
        split at h2
        · by_cases e : j = i
          · exact one (by omega)
          · by_cases e1 : j = i + 1
            · subst e1; exact c1
            · by_cases e2 : j = i + 2
              · subst e2; exact c2
              · obtain rfl : j = i + 3 := by simp only at h2; omega
                exact c3
        · exact one h2
      · exact one h2
theorem allR_from (p : Nat → Bool) (b : Bool) (hp : ∀ r, 128 ≤ r → p r = b) (s : ByteArray) : ∀ (f pos : Nat), s.size ≤ pos + f → pos ≤ s.size → allRFrom p s f pos = (s.data.toList.drop pos).all fun c => p c.toNat := by
  intro f
  induction f with
  | zero =>
    intro pos hf hpos
    rw [List.drop_eq_nil_iff.2 (by rw [← size_list]; omega)]
    rfl
  | succ f ih =>
    intro pos hf hpos
    simp only [allRFrom]
    by_cases h : pos < s.size
    · rw [if_pos h]
      have hl : pos < s.data.toList.length := by rw [← size_list]; exact h
      have hg := get_list s pos hl
      by_cases ha : (s[pos]'h).toNat < 128
      · have hb2 : s[pos]'h = s.data.toList[pos]'hl := by simp; rfl
        rw [decode_ascii s pos h ha, List.drop_eq_getElem_cons hl, List.all_cons, ← hb2]
        simp only
        rw [ih (pos + 1) (by omega) (by omega)]
        cases p (s[pos]'h).toNat <;> simp
      · have hhi := decode_high s pos h (by omega)
        have hb2 : s[pos]'h = s.data.toList[pos]'hl := by simp; rfl
        have hge : 128 ≤ (s.get! pos).toNat := by rw [hg, ← hb2]; omega
        have hbs := decode_bytes s pos h hge
        obtain ⟨K, hK⟩ : ∃ K, (Utf8.decode s pos).2 = K := ⟨_, rfl⟩
        rw [hK] at hbs hhi ⊢
        rw [hp _ hhi.1]
        cases b
        · rw [if_neg (by simp), List.drop_eq_getElem_cons hl, List.all_cons, hp _ (by rw [← hb2]; omega)]
          rfl
        · have hKs : pos + K ≤ s.size := by
            have := (hbs (pos + K - 1) (by omega) (by omega)).1
            omega
          rw [if_pos rfl, ih (pos + K) (by omega) hKs]
          have : ∀ n, n ≤ K → ((s.data.toList.drop pos).all fun c => p c.toNat) = ((s.data.toList.drop (pos + n)).all fun c => p c.toNat) := by
            intro n
            induction n with
            | zero => intro _; rfl
            | succ n ihn =>
              intro hn
              have hj := hbs (pos + n) (by omega) (by omega)
              have hlj : pos + n < s.data.toList.length := by rw [← size_list]; exact hj.1
              rw [ihn (by omega), List.drop_eq_getElem_cons hlj, List.all_cons, ← get_list s (pos + n) hlj, hp _ hj.2]
              rfl
          exact (this K (Nat.le_refl _)).symm
    · rw [if_neg h, List.drop_eq_nil_iff.2 (by rw [← size_list]; omega)]
      rfl
theorem allR_list (p : Nat → Bool) (b : Bool) (hp : ∀ r, 128 ≤ r → p r = b) (s : ByteArray) : allR p s = s.data.toList.all fun c => p c.toNat := by
  have := allR_from p b hp s s.size 0 (by omega) (by omega)
  simpa [allR] using this


end Go.Proofs.Ytdjmgmiaognncaa.X
namespace Go.Proofs.Ytdjmgmiaognncaa.X
open Go.RowKit Go.Proofs.YtdjmgmiaognncaaW.PrintWords Go.Proofs.YtdjmgmiaognncaaW.PrintLast Go.Proofs.YtdjmgmiaognncaaW.PrintMore
attribute [local go_sem] max2_int min2_int max_two min_two max_three min_three max_four min_four   -- for this text's walks alone
set_option linter.unusedVariables false
set_option linter.unusedSimpArgs false

/-! ### pure text 22: refToken -/
theorem tchar_same (c : UInt8) : tcharI (c.toNat : Int) = tcharR c.toNat := by
  have h : ∀ n : Fin 256, tcharI (n.val : Int) = tcharR n.val := by decide +kernel
  exact h ⟨c.toNat, c.toNat_lt⟩
theorem tcharR_high (r : Nat) (h : 128 ≤ r) : tcharR r = false := by
  unfold tcharR tcharL
  simp
  omega
theorem octetToken_list (s : ByteArray) : octetToken s = (!s.data.toList.isEmpty && s.data.toList.all fun c => tcharR c.toNat) := by
  unfold octetToken
  rw [allR_list tcharR false tcharR_high, Lib.toList_data]
theorem reftoken_l0 (s : ByteArray) (hs : s.size ≤ 140737488351232) : ∀ (d i k : Nat), s.size - i = d → i ≤ s.size → d < k →
    abutmentref01_Token.l0 k s (i : Int) = some ((s.data.toList.drop i).all (fun c => tcharR c.toNat) && decide ((s.size : Int) > 0)) := by
  intro d
  induction d with
  | zero =>
    intro i k hd hi hk
    obtain ⟨k, rfl⟩ : ∃ m, k = m + 1 := ⟨k - 1, by omega⟩
    simp only [abutmentref01_Token.l0]
    rw [if_neg (by omega), List.drop_eq_nil_iff.2 (by rw [← size_list]; omega)]
    simp
  | succ d ih =>
    intro i k hd hi hk
    obtain ⟨k, rfl⟩ : ∃ m, k = m + 1 := ⟨k - 1, by omega⟩
    have hl : i < s.data.toList.length := by rw [← size_list]; omega
    have hw : wrap64 ((i : Int) + 1) = ((i + 1 : Nat) : Int) := by rw [wrap_id _ (by omega) (by omega)]; omega
    simp only [abutmentref01_Token.l0]
    rw [if_pos (by omega), if_pos (by omega), bt_list s i hl, show abutmentref01_Tchar.f ((s.data.toList[i]'hl).toNat : Int) = some (tcharR (s.data.toList[i]'hl).toNat) from by unfold abutmentref01_Tchar.f; rw [tchar_same]]
    simp only [Option.bind_some]
    rw [hw, List.drop_eq_getElem_cons hl, List.all_cons]
    cases tcharR (s.data.toList[i]'hl).toNat
    · simp
    · rw [if_pos rfl, ih (i + 1) k (by omega) (by omega) (by omega)]
      simp
theorem ref_token (s : ByteArray) (hs : s.size ≤ 140737488351232) (k : Nat) (hk : s.size < k) : abutmentref01_Token.f k s = some (octetToken s) := by
  have := reftoken_l0 s hs s.size 0 k (by omega) (by omega) hk
  unfold abutmentref01_Token.f
  rw [show (0 : Int) = ((0 : Nat) : Int) from rfl, this, octetToken_list, Bool.and_comm]
  congr 2
  rw [size_list]
  cases s.data.toList with
  | nil => rfl
  | cons c l => simp


end Go.Proofs.Ytdjmgmiaognncaa.X
namespace Go.Proofs.Ytdjmgmiaognncaa.X
open Go.RowKit Go.Proofs.YtdjmgmiaognncaaW.PrintWords Go.Proofs.YtdjmgmiaognncaaW.PrintLast Go.Proofs.YtdjmgmiaognncaaW.PrintMore
attribute [local go_sem] max2_int min2_int max_two min_two max_three min_three max_four min_four   -- for this text's walks alone
set_option linter.unusedVariables false
set_option linter.unusedSimpArgs false

/-! ### pure text 11: refLower -/
theorem strOfNums_map (l : List UInt8) : strOfNums (l.map fun c => (c.toNat : Int)) = ⟨l.toArray⟩ := by
  unfold strOfNums
  rw [List.map_map]
  congr 2
  conv => rhs; rw [← List.map_id l]
  apply List.map_congr_left
  intro c _
  simp
def natsL (l : List UInt8) : List Int := l.map fun c => (c.toNat : Int)
theorem reflower_l0 (s : ByteArray) (hs : s.size ≤ 1000000000) : ∀ (d i k : Nat), s.size - i = d → i ≤ s.size → d < k →
    abutmentref01_Lower.l0 k s (natsL (lowL (s.data.toList.take i))) (i : Int) = some (lowB s) := by
  intro d
  induction d with
  | zero =>
    intro i k hd hi hk
    obtain ⟨k, rfl⟩ : ∃ m, k = m + 1 := ⟨k - 1, by omega⟩
    obtain rfl : i = s.size := by omega
    simp only [abutmentref01_Lower.l0]
    rw [if_neg (by omega), List.take_of_length_le (by rw [← size_list]; omega)]
    unfold natsL lowB
    rw [strOfNums_map]
  | succ d ih =>
    intro i k hd hi hk
    obtain ⟨k, rfl⟩ : ∃ m, k = m + 1 := ⟨k - 1, by omega⟩
    have hl : i < s.data.toList.length := by rw [← size_list]; omega
    have hw : wrap64 ((i : Int) + 1) = ((i + 1 : Nat) : Int) := by rw [wrap_id _ (by omega) (by omega)]; omega
    have hlen : (natsL (lowL (s.data.toList.take i))).length < 140737488355328 := by
      unfold natsL lowL
      simp only [List.length_map, List.length_take]
      omega
    have hnext := ih (i + 1) k (by omega) (by omega) (by omega)
    rw [take_snoc' _ _ hl] at hnext
    have hc := lowU_int (s.data.toList[i]'hl)
    have h256 := (s.data.toList[i]'hl).toNat_lt
    have hsn : natsL (lowL (s.data.toList.take i ++ [s.data.toList[i]'hl])) = natsL (lowL (s.data.toList.take i)) ++ [((lowU (s.data.toList[i]'hl)).toNat : Int)] := by
      unfold natsL lowL; simp
    rw [hsn, hc] at hnext
    simp only [abutmentref01_Lower.l0]
    rw [if_pos (by omega), if_pos (by omega), bt_list s i hl, hw]
    by_cases h1 : 65 ≤ ((s.data.toList[i]'hl).toNat : Int)
    · rw [if_pos (show ((s.data.toList[i]'hl).toNat : Int) ≥ 65 from h1)]
      by_cases h2 : ((s.data.toList[i]'hl).toNat : Int) ≤ 90
      · rw [if_pos h2, if_pos hlen, show (((s.data.toList[i]'hl).toNat : Int) + 32) % 256 = ((s.data.toList[i]'hl).toNat : Int) + 32 by omega]
        rw [if_pos ⟨h1, h2⟩] at hnext
        exact hnext
      · rw [if_neg h2, if_pos hlen]
        rw [if_neg (fun h => h2 h.2)] at hnext
        exact hnext
    · rw [if_neg (show ¬ ((s.data.toList[i]'hl).toNat : Int) ≥ 65 from h1), if_pos hlen]
      rw [if_neg (fun h => h1 h.1)] at hnext
      exact hnext
theorem ref_lower (s : ByteArray) (hs : s.size ≤ 1000000000) (k : Nat) (hk : s.size < k) : abutmentref01_Lower.f k s = some (lowB s) := by
  have := reflower_l0 s hs s.size 0 k (by omega) (by omega) hk
  exact this
theorem lowB_eq (a b : ByteArray) : ((lowB a).toList = (lowB b).toList) ↔ foldB a b = true := by
  unfold lowB foldB
  rw [Lib.toList_data, Lib.toList_data]
  simp


end Go.Proofs.Ytdjmgmiaognncaa.X
