/- Part 2 of the texts behind the claim on ListsBack: contracts of the functions that it reaches, and plain laws about them. No conditions of its own. -/
import Derived.Test.YtkjkbenmoogdjaaCListsBack1
namespace Go.Proofs.Ytkjkbenmoogdjaa.X
open Go.RowKit Go.Proofs.YtkjkbenmoogdjaaW.PrintWords Go.Proofs.YtkjkbenmoogdjaaW.PrintLast Go.Proofs.YtkjkbenmoogdjaaW.PrintMore
attribute [local go_sem] max2_int min2_int max_two min_two max_three min_three max_four min_four   -- for this text's walks alone
set_option linter.unusedVariables false
set_option linter.unusedSimpArgs false

/-! ### abutmentref01_Trim: function 52 -/
mutual
def abutmentref01_Trim.j1 : Nat → ByteArray → Option (ByteArray)
  | 0, _ => none
  | k + 1, x0 => abutmentref01_Trim.l1 k x0
def abutmentref01_Trim.l1 : Nat → ByteArray → Option (ByteArray)
  | 0, _ => none
  | k + 1, x0 => if (x0.size : Int) > 0 then (if 0 ≤ (wrap64 ((x0.size : Int) - 1)) then (if (wrap64 ((x0.size : Int) - 1)) < (x0.size : Int) then (if (bt x0 (wrap64 ((x0.size : Int) - 1))) = 32 then (if (wrap64 ((x0.size : Int) - 1)) ≤ (x0.size : Int) then (abutmentref01_Trim.l1 k (x0.extract 0 ((wrap64 ((x0.size : Int) - 1)) : Int).toNat)) else (none)) else (if (bt x0 (wrap64 ((x0.size : Int) - 1))) = 9 then (if (wrap64 ((x0.size : Int) - 1)) ≤ (x0.size : Int) then (abutmentref01_Trim.l1 k (x0.extract 0 ((wrap64 ((x0.size : Int) - 1)) : Int).toNat)) else (none)) else (some x0))) else (none)) else (none)) else (some x0)
def abutmentref01_Trim.l0 : Nat → ByteArray → Option (ByteArray)
  | 0, _ => none
  | k + 1, x0 => if (x0.size : Int) > 0 then (if 0 < (x0.size : Int) then (if (bt x0 0) = 32 then (if 1 ≤ (x0.size : Int) then (abutmentref01_Trim.l0 k (x0.extract 1 x0.size)) else (none)) else (if (bt x0 0) = 9 then (if 1 ≤ (x0.size : Int) then (abutmentref01_Trim.l0 k (x0.extract 1 x0.size)) else (none)) else (abutmentref01_Trim.j1 k x0))) else (none)) else (abutmentref01_Trim.j1 k x0)
end
def abutmentref01_Trim.f (k : Nat) (a0 : ByteArray) : Option (ByteArray) := abutmentref01_Trim.l0 k a0
theorem abutmentref01_Trim.mono_l : ∀ k, (∀ y0, LeO (abutmentref01_Trim.j1 k y0) (abutmentref01_Trim.j1 (k + 1) y0)) ∧ (∀ y0, LeO (abutmentref01_Trim.l1 k y0) (abutmentref01_Trim.l1 (k + 1) y0)) ∧ (∀ y0, LeO (abutmentref01_Trim.l0 k y0) (abutmentref01_Trim.l0 (k + 1) y0))
  | 0 => ⟨fun _ r h => by simp [abutmentref01_Trim.j1] at h, fun _ r h => by simp [abutmentref01_Trim.l1] at h, fun _ r h => by simp [abutmentref01_Trim.l0] at h⟩
  | k + 1 => by
    obtain ⟨ih0, ih1, ih2⟩ := abutmentref01_Trim.mono_l k
    refine ⟨?_, ?_, ?_⟩
    · intro y0
      unfold abutmentref01_Trim.j1
      repeat' first
      | (with_reducible exact ih0 _)
      | (with_reducible exact ih1 _)
      | (with_reducible exact ih2 _)
      | (with_reducible exact LeO.refl _)
      | (with_reducible exact LeO.none _)
      | (with_reducible refine LeO.ite ?_ ?_)
      | (with_reducible refine LeO.bind ?_ (fun _ => ?_))
      | exact ih0 _
      | exact ih1 _
      | exact ih2 _
      | exact LeO.none _
      | refine LeO.ite ?_ ?_
      | refine LeO.bind ?_ (fun _ => ?_)
    · intro y0
      unfold abutmentref01_Trim.l1
      repeat' first
      | (with_reducible exact ih0 _)
      | (with_reducible exact ih1 _)
      | (with_reducible exact ih2 _)
      | (with_reducible exact LeO.refl _)
      | (with_reducible exact LeO.none _)
      | (with_reducible refine LeO.ite ?_ ?_)
      | (with_reducible refine LeO.bind ?_ (fun _ => ?_))
      | exact ih0 _
      | exact ih1 _
      | exact ih2 _
      | exact LeO.none _
      | refine LeO.ite ?_ ?_
      | refine LeO.bind ?_ (fun _ => ?_)
    · intro y0
      unfold abutmentref01_Trim.l0
      repeat' first
      | (with_reducible exact ih0 _)
      | (with_reducible exact ih1 _)
      | (with_reducible exact ih2 _)
      | (with_reducible exact LeO.refl _)
      | (with_reducible exact LeO.none _)
      | (with_reducible refine LeO.ite ?_ ?_)
      | (with_reducible refine LeO.bind ?_ (fun _ => ?_))
      | exact ih0 _
      | exact ih1 _
      | exact ih2 _
      | exact LeO.none _
      | refine LeO.ite ?_ ?_
      | refine LeO.bind ?_ (fun _ => ?_)
theorem abutmentref01_Trim.mono : ∀ a0 k, LeO (abutmentref01_Trim.f k a0) (abutmentref01_Trim.f (k + 1) a0) := by
  intro a0 k
  obtain ⟨ih0, ih1, ih2⟩ := abutmentref01_Trim.mono_l k
  unfold abutmentref01_Trim.f
  repeat' first
      | (with_reducible exact ih0 _)
      | (with_reducible exact ih1 _)
      | (with_reducible exact ih2 _)
      | (with_reducible exact LeO.refl _)
      | (with_reducible exact LeO.none _)
      | (with_reducible refine LeO.ite ?_ ?_)
      | (with_reducible refine LeO.bind ?_ (fun _ => ?_))
      | exact ih0 _
      | exact ih1 _
      | exact ih2 _
      | exact LeO.none _
      | refine LeO.ite ?_ ?_
      | refine LeO.bind ?_ (fun _ => ?_)
set_option maxHeartbeats 8000000 in
set_option maxRecDepth 100000 in
theorem abutmentref01_Trim.calls (k : Nat) (a0 : ByteArray) (r : ByteArray) (w : World) (h : abutmentref01_Trim.f k a0 = some r) :
    Calls Try.prog 52 #[.string a0] w fun e w' => e = .returned (.string r) ∧ Drawn0 w w' := by
  have H : (abutmentref01_Trim.l0 k a0) = some r := h
  clear h
  have HC2 := Aside0.mk H
  clear H
  go_enter Try.func52, Try.ntmps52
  go_upto_block 0 with (fail)
  go_cut [0] (fun v0 wc => ∃ (kq : Nat) (x0_1 : ByteArray), v0 = .string x0_1 ∧ Aside0 (abutmentref01_Trim.j1 kq x0_1 = some r) ∧ Aside0 (kq ≤ k) ∧ Drawn0 w wc)
  case first =>
    have H := HC2.out
    clear HC2
    have H' := Aside0.mk H
    clear H
    go_wp2
    go_loopg [0] k (fun kq v0 w' => ∃ (x0_1 : ByteArray), v0 = .string x0_1 ∧ Aside0 (abutmentref01_Trim.l0 kq x0_1 = some r) ∧ Aside0 (kq ≤ k) ∧ Drawn0 w w')
    case atStart => exact ⟨(a0), (by first | rfl | (simp; done) | (simp [*]; done)), H', ⟨Nat.le_refl _⟩, by repeat (first | exact Drawn0.refl _ | apply Drawn0.step)⟩
    case round =>
      clear H'
      try clear p2
      obtain ⟨x0_1, rfl, HA, HK1, ⟨m1, rfl⟩⟩ := hrel
      cases gk with
      | zero => exact absurd HA.out (by simp [abutmentref01_Trim.l0])
      | succ k1 =>
        have H := HA.out
        clear HA
        simp only [abutmentref01_Trim.l0] at H
        by_cases c3 : (x0_1.size : Int) > 0
        · rw [if_pos c3] at H
          have c3b0 : decide (0 < (x0_1.size : Int)) = true := decide_eq_true c3
          have c3b1 : decide (0 < x0_1.size) = true := decide_eq_true (by omega)
          clear c3
          (first | rw [c3b0] | (simp only [i64_w, i32_w]; rw [c3b0]) | skip)
          by_cases c4 : 0 < (x0_1.size : Int)
          · rw [if_pos c4] at H
            have c4b0 : decide (0 < (x0_1.size : Int)) = true := decide_eq_true c4
            have c4b1 : decide (0 < x0_1.size) = true := decide_eq_true (by omega)
            clear c4
            by_cases c6 : (bt x0_1 0) = 32
            · rw [if_pos c6] at H
              have c6b0 : ((bt x0_1 0) == 32) = true := beq_iff_eq.mpr c6
              have c6b1 : ((bt x0_1 0) != 32) = false := bne_eq_false_iff_eq.mpr c6
              clear c6
              by_cases c7 : 1 ≤ (x0_1.size : Int)
              · rw [if_pos c7] at H
                have c7b0 := eq_true c7
                have c7b1 : decide (1 ≤ (x0_1.size : Int)) = true := decide_eq_true c7
                clear c7
                have H' := Aside0.mk H
                clear H
                have p5 : 0 ≤ (0 : Int) := (by omega)
                have q5 : 0 < x0_1.size := (by have : (0 : Int) < (x0_1.size : Int) := of_decide_eq_true (by first | (with_reducible assumption) | assumption); omega)
                have hx5 : ∀ h : 0 < x0_1.size, ((x0_1[0]'h).toNat : Int) = bt x0_1 0 := bt_at x0_1 0
                clear p5
                have qi5 : (0 < (x0_1.size : Int)) = True := eq_true (of_decide_eq_true (by first | (with_reducible assumption) | assumption))
                replace q5 := eq_true q5
                go_wp2
                go_roundg k1
                case measure => have := HK1.out; omega
                case rel => exact ⟨(x0_1.extract 1 x0_1.size), (by first | rfl | (simp; done) | (simp [*]; done)), H', ⟨by have := HK1.out; omega⟩, by repeat (first | exact Drawn0.refl _ | apply Drawn0.step)⟩
              · rw [if_neg c7] at H
                exact absurd H (by simp)
            · rw [if_neg c6] at H
              have c6b0 : ((bt x0_1 0) == 32) = false := beq_eq_false_iff_ne.mpr c6
              have c6b1 : ((bt x0_1 0) != 32) = true := bne_iff_ne.mpr c6
              by_cases c9 : (bt x0_1 0) = 9
              · rw [if_pos c9] at H
                have c9b0 : ((bt x0_1 0) == 9) = true := beq_iff_eq.mpr c9
                have c9b1 : ((bt x0_1 0) != 9) = false := bne_eq_false_iff_eq.mpr c9
                clear c9
                by_cases c10 : 1 ≤ (x0_1.size : Int)
                · rw [if_pos c10] at H
                  have c10b0 := eq_true c10
                  have c10b1 : decide (1 ≤ (x0_1.size : Int)) = true := decide_eq_true c10
                  clear c10
                  have H' := Aside0.mk H
                  clear H
                  have p5 : 0 ≤ (0 : Int) := (by omega)
                  have q5 : 0 < x0_1.size := (by have : (0 : Int) < (x0_1.size : Int) := of_decide_eq_true (by first | (with_reducible assumption) | assumption); omega)
                  have hx5 : ∀ h : 0 < x0_1.size, ((x0_1[0]'h).toNat : Int) = bt x0_1 0 := bt_at x0_1 0
                  clear p5
                  have qi5 : (0 < (x0_1.size : Int)) = True := eq_true (of_decide_eq_true (by first | (with_reducible assumption) | assumption))
                  replace q5 := eq_true q5
                  have p8 : 0 ≤ (0 : Int) := (by omega)
                  have q8 : 0 < x0_1.size := (by have : (0 : Int) < (x0_1.size : Int) := of_decide_eq_true (by first | (with_reducible assumption) | assumption); omega)
                  have hx8 : ∀ h : 0 < x0_1.size, ((x0_1[0]'h).toNat : Int) = bt x0_1 0 := bt_at x0_1 0
                  clear p8
                  have qi8 : (0 < (x0_1.size : Int)) = True := eq_true (of_decide_eq_true (by first | (with_reducible assumption) | assumption))
                  replace q8 := eq_true q8
                  go_wp2
                  go_roundg k1
                  case measure => have := HK1.out; omega
                  case rel => exact ⟨(x0_1.extract 1 x0_1.size), (by first | rfl | (simp; done) | (simp [*]; done)), H', ⟨by have := HK1.out; omega⟩, by repeat (first | exact Drawn0.refl _ | apply Drawn0.step)⟩
                · rw [if_neg c10] at H
                  exact absurd H (by simp)
              · rw [if_neg c9] at H
                have c9b0 : ((bt x0_1 0) == 9) = false := beq_eq_false_iff_ne.mpr c9
                have c9b1 : ((bt x0_1 0) != 9) = true := bne_iff_ne.mpr c9
                have H' := Aside0.mk H
                clear H
                have p5 : 0 ≤ (0 : Int) := (by omega)
                have q5 : 0 < x0_1.size := (by have : (0 : Int) < (x0_1.size : Int) := of_decide_eq_true (by first | (with_reducible assumption) | assumption); omega)
                have hx5 : ∀ h : 0 < x0_1.size, ((x0_1[0]'h).toNat : Int) = bt x0_1 0 := bt_at x0_1 0
                clear p5
                have qi5 : (0 < (x0_1.size : Int)) = True := eq_true (of_decide_eq_true (by first | (with_reducible assumption) | assumption))
                replace q5 := eq_true q5
                have p8 : 0 ≤ (0 : Int) := (by omega)
                have q8 : 0 < x0_1.size := (by have : (0 : Int) < (x0_1.size : Int) := of_decide_eq_true (by first | (with_reducible assumption) | assumption); omega)
                have hx8 : ∀ h : 0 < x0_1.size, ((x0_1[0]'h).toNat : Int) = bt x0_1 0 := bt_at x0_1 0
                clear p8
                have qi8 : (0 < (x0_1.size : Int)) = True := eq_true (of_decide_eq_true (by first | (with_reducible assumption) | assumption))
                replace q8 := eq_true q8
                go_wp2
                go_meet
                case rel => exact ⟨_, (x0_1), (by first | rfl | (simp; done) | (simp [*]; done)), H', ⟨by have := HK1.out; first | omega | exact Nat.le_refl _⟩, by repeat (first | exact Drawn0.refl _ | apply Drawn0.step)⟩
          · rw [if_neg c4] at H
            exact absurd H (by simp)
        · rw [if_neg c3] at H
          have c3b0 : decide (0 < (x0_1.size : Int)) = false := decide_eq_false c3
          have c3b1 : decide (0 < x0_1.size) = false := decide_eq_false (by omega)
          clear c3
          (first | rw [c3b0] | (simp only [i64_w, i32_w]; rw [c3b0]) | skip)
          have H' := Aside0.mk H
          clear H
          go_wp2
          go_meet
          case rel => exact ⟨_, (x0_1), (by first | rfl | (simp; done) | (simp [*]; done)), H', ⟨by have := HK1.out; first | omega | exact Nat.le_refl _⟩, by repeat (first | exact Drawn0.refl _ | apply Drawn0.step)⟩
  case rest =>
    clear HC2
    try clear c1
    try clear p2
    try clear c3
    try clear c3b0
    try clear c3b1
    try clear c4
    try clear c4b0
    try clear c4b1
    try clear c5
    try clear p5
    try clear q5
    try clear hx5
    try clear qi5
    try clear c6
    try clear c6b0
    try clear c6b1
    try clear c7
    try clear c7b0
    try clear c7b1
    try clear p8
    try clear q8
    try clear hx8
    try clear qi8
    try clear c9
    try clear c9b0
    try clear c9b1
    try clear c10
    try clear c10b0
    try clear c10b1
    try clear p2
    try clear p5
    try clear p8
    try clear q5
    try clear q8
    obtain ⟨kq, x0_1, rfl, HA, HJ1, ⟨mc1, rfl⟩⟩ := hcut
    cases kq with
    | zero => exact absurd HA.out (by simp [abutmentref01_Trim.j1])
    | succ kj1 =>
      have H := HA.out
      clear HA
      simp only [abutmentref01_Trim.j1] at H
      have H' := Aside0.mk H
      clear H
      go_wp2
      go_loopg [0] kj1 (fun kq v0 w' => ∃ (x0_2 : ByteArray), v0 = .string x0_2 ∧ Aside0 (abutmentref01_Trim.l1 kq x0_2 = some r) ∧ Aside0 (kq ≤ kj1) ∧ Drawn0 w w')
      case atStart => exact ⟨(x0_1), (by first | rfl | (simp; done) | (simp [*]; done)), H', ⟨Nat.le_refl _⟩, by repeat (first | exact Drawn0.refl _ | apply Drawn0.step)⟩
      case round =>
        clear H'
        try clear c1
        try clear p2
        try clear c3
        try clear c3b0
        try clear c3b1
        try clear c4
        try clear c4b0
        try clear c4b1
        try clear c5
        try clear p5
        try clear q5
        try clear hx5
        try clear qi5
        try clear c6
        try clear c6b0
        try clear c6b1
        try clear c7
        try clear c7b0
        try clear c7b1
        try clear p8
        try clear q8
        try clear hx8
        try clear qi8
        try clear c9
        try clear c9b0
        try clear c9b1
        try clear c10
        try clear c10b0
        try clear c10b1
        try clear p2
        try clear p5
        try clear p8
        try clear q5
        try clear q8
        obtain ⟨x0_2, rfl, HA, HK2, ⟨m2, rfl⟩⟩ := hrel
        cases gk with
        | zero => exact absurd HA.out (by simp [abutmentref01_Trim.l1])
        | succ k2 =>
          have H := HA.out
          clear HA
          simp only [abutmentref01_Trim.l1] at H
          by_cases c11 : (x0_2.size : Int) > 0
          · rw [if_pos c11] at H
            have c11b0 : decide (0 < (x0_2.size : Int)) = true := decide_eq_true c11
            have c11b1 : decide (0 < x0_2.size) = true := decide_eq_true (by omega)
            clear c11
            obtain ⟨ji12, hji12⟩ : ∃ j_ : Int, (wrap64 ((x0_2.size : Int) - 1)) = j_ := ⟨_, rfl⟩
            replace H : (if 0 ≤ (ji12) then (if (ji12) < (x0_2.size : Int) then (if (bt x0_2 (ji12)) = 32 then (if (ji12) ≤ (x0_2.size : Int) then (abutmentref01_Trim.l1 k2 (x0_2.extract 0 ((ji12) : Int).toNat)) else (none)) else (if (bt x0_2 (ji12)) = 9 then (if (ji12) ≤ (x0_2.size : Int) then (abutmentref01_Trim.l1 k2 (x0_2.extract 0 ((ji12) : Int).toNat)) else (none)) else (some x0_2))) else (none)) else (none)) = some r := by first | (rw [hji12] at H; exact H) | (simp only [hji12] at H ⊢; exact H)
            have hji12w : (IntKind.i64.wrap ((x0_2.size : Int) - 1)) = ji12 := (i64_w _).trans hji12
            by_cases c13 : 0 ≤ (ji12)
            · rw [if_pos c13] at H
              have c13b0 : decide (0 ≤ (ji12)) = true := decide_eq_true c13
              clear c13
              by_cases c14 : (ji12) < (x0_2.size : Int)
              · rw [if_pos c14] at H
                have c14b0 : decide ((ji12) < (x0_2.size : Int)) = true := decide_eq_true c14
                clear c14
                by_cases c16 : (bt x0_2 (ji12)) = 32
                · rw [if_pos c16] at H
                  have c16b0 : ((bt x0_2 (ji12)) == 32) = true := beq_iff_eq.mpr c16
                  have c16b1 : ((bt x0_2 (ji12)) != 32) = false := bne_eq_false_iff_eq.mpr c16
                  clear c16
                  have c17b0 := eq_true (of_decide_eq_true (by first | (with_reducible assumption) | assumption) : 0 ≤ (ji12))
                  by_cases c18 : (ji12) ≤ (x0_2.size : Int)
                  · rw [if_pos c18] at H
                    have c18b0 := eq_true c18
                    have c18b1 : decide ((ji12) ≤ (x0_2.size : Int)) = true := decide_eq_true c18
                    clear c18
                    have H' := Aside0.mk H
                    clear H
                    have p15 : 0 ≤ ((ji12) : Int) := of_decide_eq_true (by first | (with_reducible assumption) | assumption)
                    have q15 : (ji12) < (x0_2.size : Int) := of_decide_eq_true (by first | (with_reducible assumption) | assumption)
                    have hx15 := bt_at x0_2 (ji12)
                    replace p15 := eq_true p15
                    replace q15 := eq_true q15
                    go_wp2
                    go_roundg k2
                    case measure => have := HJ1.out; have := HK2.out; omega
                    case rel => exact ⟨(x0_2.extract 0 ((ji12) : Int).toNat), (by first | rfl | (simp; done) | (simp only [← hji12] <;> (first | rfl | simp)) | (simp [*]; done)), H', ⟨by have := HJ1.out; have := HK2.out; omega⟩, by repeat (first | exact Drawn0.refl _ | apply Drawn0.step)⟩
                  · rw [if_neg c18] at H
                    exact absurd H (by simp)
                · rw [if_neg c16] at H
                  have c16b0 : ((bt x0_2 (ji12)) == 32) = false := beq_eq_false_iff_ne.mpr c16
                  have c16b1 : ((bt x0_2 (ji12)) != 32) = true := bne_iff_ne.mpr c16
                  by_cases c20 : (bt x0_2 (ji12)) = 9
                  · rw [if_pos c20] at H
                    have c20b0 : ((bt x0_2 (ji12)) == 9) = true := beq_iff_eq.mpr c20
                    have c20b1 : ((bt x0_2 (ji12)) != 9) = false := bne_eq_false_iff_eq.mpr c20
                    clear c20
                    have c21b0 := eq_true (of_decide_eq_true (by first | (with_reducible assumption) | assumption) : 0 ≤ (ji12))
                    by_cases c22 : (ji12) ≤ (x0_2.size : Int)
                    · rw [if_pos c22] at H
                      have c22b0 := eq_true c22
                      have c22b1 : decide ((ji12) ≤ (x0_2.size : Int)) = true := decide_eq_true c22
                      clear c22
                      have H' := Aside0.mk H
                      clear H
                      have p15 : 0 ≤ ((ji12) : Int) := of_decide_eq_true (by first | (with_reducible assumption) | assumption)
                      have q15 : (ji12) < (x0_2.size : Int) := of_decide_eq_true (by first | (with_reducible assumption) | assumption)
                      have hx15 := bt_at x0_2 (ji12)
                      replace p15 := eq_true p15
                      replace q15 := eq_true q15
                      have p19 : 0 ≤ ((ji12) : Int) := of_decide_eq_true (by first | (with_reducible assumption) | assumption)
                      have q19 : (ji12) < (x0_2.size : Int) := of_decide_eq_true (by first | (with_reducible assumption) | assumption)
                      have hx19 := bt_at x0_2 (ji12)
                      replace p19 := eq_true p19
                      replace q19 := eq_true q19
                      go_wp2
                      go_roundg k2
                      case measure => have := HJ1.out; have := HK2.out; omega
                      case rel => exact ⟨(x0_2.extract 0 ((ji12) : Int).toNat), (by first | rfl | (simp; done) | (simp only [← hji12] <;> (first | rfl | simp)) | (simp [*]; done)), H', ⟨by have := HJ1.out; have := HK2.out; omega⟩, by repeat (first | exact Drawn0.refl _ | apply Drawn0.step)⟩
                    · rw [if_neg c22] at H
                      exact absurd H (by simp)
                  · rw [if_neg c20] at H
                    have c20b0 : ((bt x0_2 (ji12)) == 9) = false := beq_eq_false_iff_ne.mpr c20
                    have c20b1 : ((bt x0_2 (ji12)) != 9) = true := bne_iff_ne.mpr c20
                    obtain rfl := Option.some.inj H
                    have p15 : 0 ≤ ((ji12) : Int) := of_decide_eq_true (by first | (with_reducible assumption) | assumption)
                    have q15 : (ji12) < (x0_2.size : Int) := of_decide_eq_true (by first | (with_reducible assumption) | assumption)
                    have hx15 := bt_at x0_2 (ji12)
                    replace p15 := eq_true p15
                    replace q15 := eq_true q15
                    have p19 : 0 ≤ ((ji12) : Int) := of_decide_eq_true (by first | (with_reducible assumption) | assumption)
                    have q19 : (ji12) < (x0_2.size : Int) := of_decide_eq_true (by first | (with_reducible assumption) | assumption)
                    have hx19 := bt_at x0_2 (ji12)
                    replace p19 := eq_true p19
                    replace q19 := eq_true q19
                    go_wp2
                    go_ret
                    exact ⟨by first | rfl | (simp; done) | (simp only [← hji12] <;> (first | rfl | simp)) | (simp [*]; done), by repeat (first | exact Drawn0.refl _ | apply Drawn0.step)⟩
              · rw [if_neg c14] at H
                exact absurd H (by simp)
            · rw [if_neg c13] at H
              exact absurd H (by simp)
          · rw [if_neg c11] at H
            have c11b0 : decide (0 < (x0_2.size : Int)) = false := decide_eq_false c11
            have c11b1 : decide (0 < x0_2.size) = false := decide_eq_false (by omega)
            clear c11
            obtain rfl := Option.some.inj H
            go_wp2
            go_ret
            exact ⟨by first | rfl | (simp; done) | (simp [*]; done), by repeat (first | exact Drawn0.refl _ | apply Drawn0.step)⟩

end Go.Proofs.Ytkjkbenmoogdjaa.X
namespace Go.Proofs.Ytkjkbenmoogdjaa.X
open Go.RowKit Go.Proofs.YtkjkbenmoogdjaaW.PrintWords Go.Proofs.YtkjkbenmoogdjaaW.PrintLast Go.Proofs.YtkjkbenmoogdjaaW.PrintMore
attribute [local go_sem] max2_int min2_int max_two min_two max_three min_three max_four min_four   -- for this text's walks alone
set_option linter.unusedVariables false
set_option linter.unusedSimpArgs false

/-! ### pure text 10: refTrim -/
theorem size_mk (l : List UInt8) : (⟨l.toArray⟩ : ByteArray).size = l.length := by simp [ByteArray.size]
theorem bt_mk (l : List UInt8) (i : Nat) (h : i < l.length) : bt ⟨l.toArray⟩ (i : Int) = ((l[i]'h).toNat : Int) := bt_list ⟨l.toArray⟩ i h
theorem ext_mk (l : List UInt8) (a b : Nat) : (⟨l.toArray⟩ : ByteArray).extract a b = ⟨((l.drop a).take (b - a)).toArray⟩ := ext_list ⟨l.toArray⟩ a b
theorem mk_eta (s : ByteArray) : (⟨s.data.toList.toArray⟩ : ByteArray) = s := Lib.mk_data s
theorem bl_ite {α : Type} (c : UInt8) (A B : α) : (if (c.toNat : Int) = 32 then A else if (c.toNat : Int) = 9 then A else B) = if bl c = true then A else B := by
  have h32 : ((c.toNat : Int) = 32) ↔ c = 32 := u8_eq c 32
  have h9 : ((c.toNat : Int) = 9) ↔ c = 9 := u8_eq c 9
  unfold bl
  by_cases e : c = 32
  · rw [if_pos (h32.2 e), if_pos (by simp [e])]
  · rw [if_neg (fun h => e (h32.1 h))]
    by_cases e2 : c = 9
    · rw [if_pos (h9.2 e2), if_pos (by simp [e2])]
    · rw [if_neg (fun h => e2 (h9.1 h)), if_neg (by simp [e, e2])]
theorem snoc_cases {α : Type} (l : List α) : l = [] ∨ ∃ l' c, l = l' ++ [c] := by
  rcases List.eq_nil_or_concat l with h | ⟨l', c, h⟩
  · exact .inl h
  · exact .inr ⟨l', c, by simpa using h⟩
theorem reftrim_l1 : ∀ (n : Nat) (l : List UInt8) (k : Nat), l.length = n → n ≤ 140737488351232 → n < k → abutmentref01_Trim.l1 k ⟨l.toArray⟩ = some ⟨(dropE bl l).toArray⟩ := by
  intro n
  induction n with
  | zero =>
    intro l k hl _ hk
    obtain ⟨k, rfl⟩ : ∃ m, k = m + 1 := ⟨k - 1, by omega⟩
    obtain rfl := List.eq_nil_of_length_eq_zero hl
    simp only [abutmentref01_Trim.l1]
    rw [if_neg (by rw [size_mk]; simp)]
    rfl
  | succ n ih =>
    intro l k hl hn hk
    obtain ⟨k, rfl⟩ : ∃ m, k = m + 1 := ⟨k - 1, by omega⟩
    rcases snoc_cases l with rfl | ⟨l', c, rfl⟩
    · simp at hl
    · have hl' : l'.length = n := by simpa using hl
      have hsz : ((⟨(l' ++ [c]).toArray⟩ : ByteArray).size : Int) = ((n + 1 : Nat) : Int) := by rw [size_mk, hl]
      have hw : wrap64 (((n + 1 : Nat) : Int) - 1) = (n : Int) := by rw [wrap_id _ (by omega) (by omega)]; omega
      have hb : bt ⟨(l' ++ [c]).toArray⟩ (n : Int) = (c.toNat : Int) := by
        rw [bt_mk _ n (by simp; omega), List.getElem_append_right (by omega)]
        simp [hl']
      have he : (⟨(l' ++ [c]).toArray⟩ : ByteArray).extract 0 n = ⟨l'.toArray⟩ := by
        rw [ext_mk]; simp [← hl']
      simp only [abutmentref01_Trim.l1]
      rw [hsz, hw, if_pos (by omega), if_pos (by omega), if_pos (by omega), hb, bl_ite, dropE_snoc]
      cases bl c
      · simp
      · simp only [if_true, Int.toNat_natCast]
        rw [if_pos (by omega), he]
        exact ih l' k hl' (by omega) (by omega)
theorem reftrim_l0 : ∀ (l : List UInt8) (k : Nat), l.length ≤ 140737488351232 → 2 * l.length + 2 < k → abutmentref01_Trim.l0 k ⟨l.toArray⟩ = some ⟨(trimL l).toArray⟩ := by
  intro l
  induction l with
  | nil =>
    intro k _ hk
    obtain ⟨k, rfl⟩ : ∃ m, k = m + 2 := ⟨k - 2, by omega⟩
    simp only [abutmentref01_Trim.l0]
    rw [if_neg (by rw [size_mk]; simp)]
    simp only [abutmentref01_Trim.j1]
    rw [reftrim_l1 0 [] k rfl (by omega) (by simp at hk; omega)]
    rfl
  | cons c l ih =>
    intro k hn hk
    obtain ⟨k, rfl⟩ : ∃ m, k = m + 1 := ⟨k - 1, by omega⟩
    simp only [List.length_cons] at hn hk
    have hsz : ((⟨(c :: l).toArray⟩ : ByteArray).size : Int) = ((l.length + 1 : Nat) : Int) := by rw [size_mk]; simp
    have hb : bt ⟨(c :: l).toArray⟩ 0 = (c.toNat : Int) := bt_mk (c :: l) 0 (by simp)
    have he : (⟨(c :: l).toArray⟩ : ByteArray).extract 1 (⟨(c :: l).toArray⟩ : ByteArray).size = ⟨l.toArray⟩ := by
      rw [ext_mk, size_mk]; simp
    simp only [abutmentref01_Trim.l0]
    rw [hsz, if_pos (by omega), if_pos (by omega), hb, bl_ite, he]
    unfold trimL
    rw [List.dropWhile_cons]
    cases bl c
    · simp only [Bool.false_eq_true, if_false]
      obtain ⟨k, rfl⟩ : ∃ m, k = m + 1 := ⟨k - 1, by omega⟩
      simp only [abutmentref01_Trim.j1]
      exact reftrim_l1 (l.length + 1) (c :: l) k rfl (by omega) (by omega)
    · simp only [if_true]
      rw [if_pos (by omega)]
      exact ih k (by omega) (by omega)
theorem ref_trim (s : ByteArray) (hs : s.size ≤ 140737488351232) (k : Nat) (hk : 2 * s.size + 2 < k) : abutmentref01_Trim.f k s = some (trimB s) := by
  rw [size_list] at hs hk
  have := reftrim_l0 s.data.toList k hs hk
  rw [mk_eta] at this
  exact this


end Go.Proofs.Ytkjkbenmoogdjaa.X
namespace Go.Proofs.Ytkjkbenmoogdjaa.X
open Go.RowKit Go.Proofs.YtkjkbenmoogdjaaW.PrintWords Go.Proofs.YtkjkbenmoogdjaaW.PrintLast Go.Proofs.YtkjkbenmoogdjaaW.PrintMore
attribute [local go_sem] max2_int min2_int max_two min_two max_three min_three max_four min_four   -- for this text's walks alone
set_option linter.unusedVariables false
set_option linter.unusedSimpArgs false

/-! ### abutmentref07_Split: function 20 -/
mutual
def abutmentref07_Split.l0 : Nat → ByteArray → List ByteArray → Int → Int → Option (List ByteArray × Bool)
  | 0, _, _, _, _ => none
  | k + 1, x0, x4, x5, x6 => if x6 < (x0.size : Int) then (if 0 ≤ x6 then (if (bt x0 x6) = 34 then (abutmentref07_Split.j1 k x0 x4 x5 x6 true) else (abutmentref07_Split.j1 k x0 x4 x5 x6 ((bt x0 x6) == 40))) else (none)) else (if 0 ≤ x5 then (if x5 ≤ (x0.size : Int) then (if x4.length < 8796093022208 then (abutmentref07_Split.l1 k (x4 ++ [x0.extract (x5 : Int).toNat x0.size]) (([] : List ByteArray)) 0) else (none)) else (none)) else (none))
def abutmentref07_Split.j1 : Nat → ByteArray → List ByteArray → Int → Int → Bool → Option (List ByteArray × Bool)
  | 0, _, _, _, _, _ => none
  | k + 1, x0, x4, x5, x6, x24 => if x24 = true then ((abutmentref07_Behind.f x0 x6).bind fun t104 => (if t104 < 0 then (some (([] : List ByteArray), false)) else (abutmentref07_Split.l0 k x0 x4 x5 t104))) else (if 0 ≤ x6 then (if x6 < (x0.size : Int) then (if (bt x0 x6) = 44 then (if 0 ≤ x5 then (if x5 ≤ x6 then (if x6 ≤ (x0.size : Int) then (if x4.length < 8796093022208 then (abutmentref07_Split.l0 k x0 (x4 ++ [x0.extract (x5 : Int).toNat (x6 : Int).toNat]) (wrap64 (x6 + 1)) (wrap64 (x6 + 1))) else (none)) else (none)) else (none)) else (none)) else (abutmentref07_Split.l0 k x0 x4 x5 (wrap64 (x6 + 1)))) else (none)) else (none))
def abutmentref07_Split.l1 : Nat → List ByteArray → List ByteArray → Int → Option (List ByteArray × Bool)
  | 0, _, _, _ => none
  | k + 1, x4, x7, x8 => if x8 < (x4.length : Int) then (if 0 ≤ x8 then ((abutmentref01_Trim.f k (rdOf ByteArray.empty x4 x8)).bind fun t115 => (if t115.toList = ([] : List UInt8) then (abutmentref07_Split.l1 k x4 x7 (wrap64 (x8 + 1))) else (if x7.length < 8796093022208 then (abutmentref07_Split.l1 k x4 (x7 ++ [t115]) (wrap64 (x8 + 1))) else (none)))) else (none)) else (some (x7, true))
end
def abutmentref07_Split.f (k : Nat) (a0 : ByteArray) : Option (List ByteArray × Bool) := abutmentref07_Split.l0 k a0 (([] : List ByteArray)) 0 0
theorem abutmentref07_Split.mono_l : ∀ k, (∀ y0 y1 y2 y3, LeO (abutmentref07_Split.l0 k y0 y1 y2 y3) (abutmentref07_Split.l0 (k + 1) y0 y1 y2 y3)) ∧ (∀ y0 y1 y2 y3 y4, LeO (abutmentref07_Split.j1 k y0 y1 y2 y3 y4) (abutmentref07_Split.j1 (k + 1) y0 y1 y2 y3 y4)) ∧ (∀ y0 y1 y2, LeO (abutmentref07_Split.l1 k y0 y1 y2) (abutmentref07_Split.l1 (k + 1) y0 y1 y2))
  | 0 => ⟨fun _ _ _ _ r h => by simp [abutmentref07_Split.l0] at h, fun _ _ _ _ _ r h => by simp [abutmentref07_Split.j1] at h, fun _ _ _ r h => by simp [abutmentref07_Split.l1] at h⟩
  | k + 1 => by
    obtain ⟨ih0, ih1, ih2⟩ := abutmentref07_Split.mono_l k
    refine ⟨?_, ?_, ?_⟩
    · intro y0 y1 y2 y3
      unfold abutmentref07_Split.l0
      repeat' first
      | (with_reducible exact ih0 _ _ _ _)
      | (with_reducible exact ih1 _ _ _ _ _)
      | (with_reducible exact ih2 _ _ _)
      | (with_reducible exact abutmentref01_Trim.mono _ _)
      | (with_reducible exact LeO.refl _)
      | (with_reducible exact LeO.none _)
      | (with_reducible refine LeO.ite ?_ ?_)
      | (with_reducible refine LeO.bind ?_ (fun _ => ?_))
      | exact ih0 _ _ _ _
      | exact ih1 _ _ _ _ _
      | exact ih2 _ _ _
      | exact abutmentref01_Trim.mono _ _
      | exact LeO.none _
      | refine LeO.ite ?_ ?_
      | refine LeO.bind ?_ (fun _ => ?_)
    · intro y0 y1 y2 y3 y4
      unfold abutmentref07_Split.j1
      repeat' first
      | (with_reducible exact ih0 _ _ _ _)
      | (with_reducible exact ih1 _ _ _ _ _)
      | (with_reducible exact ih2 _ _ _)
      | (with_reducible exact abutmentref01_Trim.mono _ _)
      | (with_reducible exact LeO.refl _)
      | (with_reducible exact LeO.none _)
      | (with_reducible refine LeO.ite ?_ ?_)
      | (with_reducible refine LeO.bind ?_ (fun _ => ?_))
      | exact ih0 _ _ _ _
      | exact ih1 _ _ _ _ _
      | exact ih2 _ _ _
      | exact abutmentref01_Trim.mono _ _
      | exact LeO.none _
      | refine LeO.ite ?_ ?_
      | refine LeO.bind ?_ (fun _ => ?_)
    · intro y0 y1 y2
      unfold abutmentref07_Split.l1
      repeat' first
      | (with_reducible exact ih0 _ _ _ _)
      | (with_reducible exact ih1 _ _ _ _ _)
      | (with_reducible exact ih2 _ _ _)
      | (with_reducible exact abutmentref01_Trim.mono _ _)
      | (with_reducible exact LeO.refl _)
      | (with_reducible exact LeO.none _)
      | (with_reducible refine LeO.ite ?_ ?_)
      | (with_reducible refine LeO.bind ?_ (fun _ => ?_))
      | exact ih0 _ _ _ _
      | exact ih1 _ _ _ _ _
      | exact ih2 _ _ _
      | exact abutmentref01_Trim.mono _ _
      | exact LeO.none _
      | refine LeO.ite ?_ ?_
      | refine LeO.bind ?_ (fun _ => ?_)
theorem abutmentref07_Split.mono : ∀ a0 k, LeO (abutmentref07_Split.f k a0) (abutmentref07_Split.f (k + 1) a0) := by
  intro a0 k
  obtain ⟨ih0, ih1, ih2⟩ := abutmentref07_Split.mono_l k
  unfold abutmentref07_Split.f
  repeat' first
      | (with_reducible exact ih0 _ _ _ _)
      | (with_reducible exact ih1 _ _ _ _ _)
      | (with_reducible exact ih2 _ _ _)
      | (with_reducible exact abutmentref01_Trim.mono _ _)
      | (with_reducible exact LeO.refl _)
      | (with_reducible exact LeO.none _)
      | (with_reducible refine LeO.ite ?_ ?_)
      | (with_reducible refine LeO.bind ?_ (fun _ => ?_))
      | exact ih0 _ _ _ _
      | exact ih1 _ _ _ _ _
      | exact ih2 _ _ _
      | exact abutmentref01_Trim.mono _ _
      | exact LeO.none _
      | refine LeO.ite ?_ ?_
      | refine LeO.bind ?_ (fun _ => ?_)
set_option maxHeartbeats 8000000 in
set_option maxRecDepth 100000 in
theorem abutmentref07_Split.calls (k : Nat) (a0 : ByteArray) (r1 : List ByteArray) (r2 : Bool) (w : World) (h : abutmentref07_Split.f k a0 = some (r1, r2)) :
    Calls Try.prog 20 #[.string a0] w fun e w' => ∃ v0_ : Value, e = .returned (.tuple #[v0_, .bool r2]) ∧ Kd.R Kd.string 9 w' w.heap.size (fun _ => True) v0_ r1 ∧ Below w.heap.size w w' := by
  have HB := Aside0.mk (Below.refl w.heap.size w)
  have H : (abutmentref07_Split.l0 k a0 (([] : List ByteArray)) 0 0) = some (r1, r2) := h
  clear h
  obtain ⟨y101, hy101⟩ : ∃ y_ : List ByteArray, y_ = (([] : List ByteArray)) := ⟨_, rfl⟩
  replace H : (abutmentref07_Split.l0 k a0 y101 0 0) = some (r1, r2) := by first | (rw [hy101]; with_reducible exact H) | (have H2_ := (Option.bind_some _ _).symm.trans H; rw [hy101]; with_reducible exact H2_) | (have H2_ := (Option.bind_some _ _).symm.trans H; with_reducible exact H2_) | with_reducible exact H | (rw [hy101]; exact H) | exact H
  have Ny101 := Aside0.mk hy101
  clear hy101
  have H' := Aside0.mk H
  clear H
  go_enter Try.func20, Try.ntmps20
  go_wp2_with (first | ((with_reducible refine gate_dst (N := 10) rfl ?_); refine Kd.R_lit Kd.string _ 9 ?hg (N := 10) ?hd (xs := ([] : List ByteArray)) (inner := []) (ok := fun _ => True) (okp := fun _ => True) ?hr ?hp (fun _ hk => hk) trivial (Below.refl _ _) (Nat.le_refl _) (by simp) ?_; (case hd => rfl); (case hg => rfl); (case hr => first | (go_simp; done) | (go_simp; rfl)); (case hp => exact (Reps.none _ _)); intro v102 w2 ho3 hb hg_ hnew_; clear hg_ hnew_; (first | rw [← Ny101.out] at ho3 | (simp only [Int.reduceToNat] at ho3; rw [← Ny101.out] at ho3)); have n0_ := Aside0.mk (Kd.R_lower ho3 (below_size (by repeat (first | (with_reducible first | exact HB.out | apply below_alloc | apply pw_below_drewN | apply below_drew1) | exact HB.out)))); have n1_ := Aside0.mk (below_step (by repeat (first | (with_reducible first | exact HB.out | apply below_alloc | apply pw_below_drewN | apply below_drew1) | exact HB.out)) hb); clear HB; have HO103 := n0_; have HB := n1_; clear n0_ n1_; clear hb ho3))
  go_loopg [4, 5, 6] k (fun kq v4 v5 v6 w' => ∃ (x4_1 : List ByteArray) (x5_1 : Int) (x6_1 : Int), v5 = .int .i64 x5_1 ∧ v6 = .int .i64 x6_1 ∧ Aside0 (abutmentref07_Split.l0 kq a0 x4_1 x5_1 x6_1 = some (r1, r2)) ∧ Aside0 (kq ≤ k) ∧ Aside0 (Kd.R Kd.string 9 w' w.heap.size (fun _ => True) v4 x4_1) ∧ Aside0 (Below w.heap.size w w'))
  case atStart => exact ⟨(y101), (0), (0), (by first | rfl | (simp; done) | (simp [*]; done)), (by first | rfl | (simp; done) | (simp [*]; done)), H', ⟨Nat.le_refl _⟩, ⟨by (with_reducible repeat (first | apply Kd.R_alloc | apply Kd.R_drewN | apply Kd.R_drew)); exact HO103.out⟩, ⟨by repeat (first | (with_reducible first | exact HB.out | apply below_alloc | apply pw_below_drewN | apply below_drew1) | exact HB.out)⟩⟩
  case round =>
    clear H'
    try clear c2
    try clear p2
    obtain ⟨x4_1, x5_1, x6_1, rfl, rfl, HA, HK1, HO_4, HB⟩ := hrel
    cases gk with
    | zero => exact absurd HA.out (by simp [abutmentref07_Split.l0])
    | succ k1 =>
      have H := HA.out
      clear HA
      simp only [abutmentref07_Split.l0] at H
      by_cases c4 : x6_1 < (a0.size : Int)
      · rw [if_pos c4] at H
        have c4b0 : decide (x6_1 < (a0.size : Int)) = true := decide_eq_true c4
        clear c4
        have HC5 := Aside0.mk H
        clear H
        go_upto_region 3 with (fail)
        go_cut [24] (fun v24 wc => ∃ (kq : Nat) (x24_4 : Bool), v24 = .bool x24_4 ∧ Aside0 (abutmentref07_Split.j1 kq a0 x4_1 x5_1 x6_1 x24_4 = some (r1, r2)) ∧ Aside0 (kq ≤ k1) ∧ Aside0 (Kd.R Kd.string 9 wc w.heap.size (fun _ => True) u4 x4_1) ∧ Aside0 (Below w.heap.size w wc))
        case first =>
          have H := HC5.out
          clear HC5
          by_cases c6 : 0 ≤ x6_1
          · rw [if_pos c6] at H
            have c6b0 : decide (0 ≤ x6_1) = true := decide_eq_true c6
            clear c6
            (first | rw [c6b0] | (simp only [i64_w, i32_w]; rw [c6b0]) | skip)
            by_cases c8 : (bt a0 x6_1) = 34
            · rw [if_pos c8] at H
              have c8b0 : ((bt a0 x6_1) == 34) = true := beq_iff_eq.mpr c8
              have c8b1 : ((bt a0 x6_1) != 34) = false := bne_eq_false_iff_eq.mpr c8
              clear c8
              have H' := Aside0.mk H
              clear H
              have p7 : 0 ≤ (x6_1 : Int) := of_decide_eq_true (by first | (with_reducible assumption) | assumption)
              have q7 : x6_1 < (a0.size : Int) := of_decide_eq_true (by first | (with_reducible assumption) | assumption)
              have hx7 := bt_at a0 x6_1
              replace p7 := eq_true p7
              replace q7 := eq_true q7
              go_wp2
              go_meet
              case rel => exact ⟨_, (true), (by first | rfl | (simp; done) | (simp [*]; done)), H', ⟨by have := HK1.out; first | omega | exact Nat.le_refl _⟩, ⟨by (with_reducible repeat (first | apply Kd.R_alloc | apply Kd.R_drewN | apply Kd.R_drew)); exact HO_4.out⟩, ⟨by repeat (first | (with_reducible first | exact HB.out | apply below_alloc | apply pw_below_drewN | apply below_drew1) | exact HB.out)⟩⟩
            · rw [if_neg c8] at H
              have c8b0 : ((bt a0 x6_1) == 34) = false := beq_eq_false_iff_ne.mpr c8
              have c8b1 : ((bt a0 x6_1) != 34) = true := bne_iff_ne.mpr c8
              have H' := Aside0.mk H
              clear H
              have p7 : 0 ≤ (x6_1 : Int) := of_decide_eq_true (by first | (with_reducible assumption) | assumption)
              have q7 : x6_1 < (a0.size : Int) := of_decide_eq_true (by first | (with_reducible assumption) | assumption)
              have hx7 := bt_at a0 x6_1
              replace p7 := eq_true p7
              replace q7 := eq_true q7
              have p9 : 0 ≤ (x6_1 : Int) := of_decide_eq_true (by first | (with_reducible assumption) | assumption)
              have q9 : x6_1 < (a0.size : Int) := of_decide_eq_true (by first | (with_reducible assumption) | assumption)
              have hx9 := bt_at a0 x6_1
              replace p9 := eq_true p9
              replace q9 := eq_true q9
              go_wp2
              go_meet
              case rel => exact ⟨_, (((bt a0 x6_1) == 40)), (by first | rfl | (simp; done) | (simp [*]; done)), H', ⟨by have := HK1.out; first | omega | exact Nat.le_refl _⟩, ⟨by (with_reducible repeat (first | apply Kd.R_alloc | apply Kd.R_drewN | apply Kd.R_drew)); exact HO_4.out⟩, ⟨by repeat (first | (with_reducible first | exact HB.out | apply below_alloc | apply pw_below_drewN | apply below_drew1) | exact HB.out)⟩⟩
          · rw [if_neg c6] at H
            exact absurd H (by simp)
        case rest =>
          clear HC5
          try clear c2
          try clear p2
          try clear c4
          try clear c4b0
          try clear c6
          try clear c6b0
          try clear p7
          try clear q7
          try clear hx7
          try clear c8
          try clear c8b0
          try clear c8b1
          try clear p9
          try clear q9
          try clear hx9
          try clear p2
          try clear p7
          try clear p9
          try clear q7
          try clear q9
          obtain ⟨kq, x24_4, rfl, HA, HJ4, HO_4, HB⟩ := hcut
          cases kq with
          | zero => exact absurd HA.out (by simp [abutmentref07_Split.j1])
          | succ kj4 =>
            have H := HA.out
            clear HA
            simp only [abutmentref07_Split.j1] at H
            by_cases c10 : x24_4 = true
            · subst c10
              have H1 : ((abutmentref07_Behind.f a0 x6_1).bind fun t104 => (if t104 < 0 then (some (([] : List ByteArray), false)) else (abutmentref07_Split.l0 kj4 a0 x4_1 x5_1 t104))) = some (r1, r2) := by rw [if_pos rfl] at H; exact H
              clear H
              have H := H1
              clear H1
              replace H := Option.bind_eq_some_iff.mp H
              obtain ⟨t104, A110, H⟩ := H
              replace H : (if t104 < 0 then (some (([] : List ByteArray), false)) else (abutmentref07_Split.l0 kj4 a0 x4_1 x5_1 t104)) = some (r1, r2) := H
              have A11 := Aside0.mk A110
              clear A110
              by_cases c12 : t104 < 0
              · rw [if_pos c12] at H
                have c12b0 : decide (t104 < 0) = true := decide_eq_true c12
                clear c12
                simp only [Option.some.injEq, Prod.mk.injEq] at H
                obtain ⟨rfl, rfl⟩ := H
                go_wp2_with (first | ((with_reducible refine gate_callee (f := 55) rfl ?_); refine goesL_ (some 27) rfl rfl Try.func55 (by kernel_rfl) rfl #[.string a0, .int .i64 x6_1] rfl (by (try simp only [List.map_toArray, List.map_cons, List.map_nil]); first | done | rfl | (simp only [List.length_drop, List.length_take]; rfl)) ?_; (with_reducible refine (abutmentref07_Behind.calls a0 x6_1 t104 _ A11.out).mono ?_); rintro e w' ⟨rfl, ⟨nd, rfl⟩⟩; refine ⟨_, rfl, ?_⟩))
                go_ret2
                exact ⟨_, by first | rfl | (simp [errW_none, errW_some] <;> rfl) | (simp [*, errW_none, errW_some] <;> rfl), by first | exact Kd.R_nil _ _ _ _ _ | exact Kd.N_nil _ _ _ _ _ | exact Kd.V_nil _ _ _ _ _ | exact Kd.Q_nil _ _ _ _ _ | exact Kd.S_nil _ _ _ _ _, by repeat (first | (with_reducible first | exact HB.out | apply below_alloc | apply pw_below_drewN | apply below_drew1) | exact HB.out)⟩
              · rw [if_neg c12] at H
                have c12b0 : decide (t104 < 0) = false := decide_eq_false c12
                clear c12
                have H' := Aside0.mk H
                clear H
                go_wp2_with (first | ((with_reducible refine gate_callee (f := 55) rfl ?_); refine goesL_ (some 27) rfl rfl Try.func55 (by kernel_rfl) rfl #[.string a0, .int .i64 x6_1] rfl (by (try simp only [List.map_toArray, List.map_cons, List.map_nil]); first | done | rfl | (simp only [List.length_drop, List.length_take]; rfl)) ?_; (with_reducible refine (abutmentref07_Behind.calls a0 x6_1 t104 _ A11.out).mono ?_); rintro e w' ⟨rfl, ⟨nd, rfl⟩⟩; refine ⟨_, rfl, ?_⟩))
                go_roundg kj4
                case measure => have := HK1.out; have := HJ4.out; omega
                case rel => exact ⟨(x4_1), (x5_1), (t104), (by first | rfl | (simp; done) | (simp [*]; done)), (by first | rfl | (simp; done) | (simp [*]; done)), H', ⟨by have := HK1.out; have := HJ4.out; omega⟩, ⟨by (with_reducible repeat (first | apply Kd.R_alloc | apply Kd.R_drewN | apply Kd.R_drew)); exact HO_4.out⟩, ⟨by repeat (first | (with_reducible first | exact HB.out | apply below_alloc | apply pw_below_drewN | apply below_drew1) | exact HB.out)⟩⟩
            · replace c10 := Bool.eq_false_iff.mpr c10
              subst c10
              have H1 : (if 0 ≤ x6_1 then (if x6_1 < (a0.size : Int) then (if (bt a0 x6_1) = 44 then (if 0 ≤ x5_1 then (if x5_1 ≤ x6_1 then (if x6_1 ≤ (a0.size : Int) then (if x4_1.length < 8796093022208 then (abutmentref07_Split.l0 kj4 a0 (x4_1 ++ [a0.extract (x5_1 : Int).toNat (x6_1 : Int).toNat]) (wrap64 (x6_1 + 1)) (wrap64 (x6_1 + 1))) else (none)) else (none)) else (none)) else (none)) else (abutmentref07_Split.l0 kj4 a0 x4_1 x5_1 (wrap64 (x6_1 + 1)))) else (none)) else (none)) = some (r1, r2) := by rw [if_neg (show ¬ (false = true) by decide)] at H; exact H
              clear H
              have H := H1
              clear H1
              by_cases c13 : 0 ≤ x6_1
              · rw [if_pos c13] at H
                have c13b0 : decide (0 ≤ x6_1) = true := decide_eq_true c13
                clear c13
                by_cases c14 : x6_1 < (a0.size : Int)
                · rw [if_pos c14] at H
                  have c14b0 : decide (x6_1 < (a0.size : Int)) = true := decide_eq_true c14
                  clear c14
                  by_cases c16 : (bt a0 x6_1) = 44
                  · rw [if_pos c16] at H
                    have c16b0 : ((bt a0 x6_1) == 44) = true := beq_iff_eq.mpr c16
                    have c16b1 : ((bt a0 x6_1) != 44) = false := bne_eq_false_iff_eq.mpr c16
                    clear c16
                    by_cases c17 : 0 ≤ x5_1
                    · rw [if_pos c17] at H
                      have c17b0 := eq_true c17
                      have c17b1 : decide (0 ≤ x5_1) = true := decide_eq_true c17
                      clear c17
                      by_cases c18 : x5_1 ≤ x6_1
                      · rw [if_pos c18] at H
                        have c18b0 := eq_true c18
                        have c18b1 : decide (x5_1 ≤ x6_1) = true := decide_eq_true c18
                        clear c18
                        by_cases c19 : x6_1 ≤ (a0.size : Int)
                        · rw [if_pos c19] at H
                          have c19b0 := eq_true c19
                          have c19b1 : decide (x6_1 ≤ (a0.size : Int)) = true := decide_eq_true c19
                          clear c19
                          by_cases c20 : x4_1.length < 8796093022208
                          · rw [if_pos c20] at H
                            have LMc20 := Aside0.mk c20
                            clear c20
                            obtain ⟨y105, hy105⟩ : ∃ y_ : List ByteArray, y_ = (x4_1 ++ [a0.extract (x5_1 : Int).toNat (x6_1 : Int).toNat]) := ⟨_, rfl⟩
                            replace H : (abutmentref07_Split.l0 kj4 a0 y105 (wrap64 (x6_1 + 1)) (wrap64 (x6_1 + 1))) = some (r1, r2) := by first | (rw [hy105]; with_reducible exact H) | (have H2_ := (Option.bind_some _ _).symm.trans H; rw [hy105]; with_reducible exact H2_) | (have H2_ := (Option.bind_some _ _).symm.trans H; with_reducible exact H2_) | with_reducible exact H | (rw [hy105]; exact H) | exact H
                            have Ny105 := Aside0.mk hy105
                            clear hy105
                            have H' := Aside0.mk H
                            clear H
                            have p15 : 0 ≤ (x6_1 : Int) := of_decide_eq_true (by first | (with_reducible assumption) | assumption)
                            have q15 : x6_1 < (a0.size : Int) := of_decide_eq_true (by first | (with_reducible assumption) | assumption)
                            have hx15 := bt_at a0 x6_1
                            replace p15 := eq_true p15
                            replace q15 := eq_true q15
                            go_wp2_with (first | ((with_reducible refine gate_builtin (b := .append) (xs := #[.tmp 34, .tmp 39]) rfl ?_); at_builtin; refine Kd.R_append Kd.string (w0 := w) w.heap.size rfl (.tmp 34) (.tmp 39) 31 9 (.string ⟨#[]⟩) 16 rfl Try.underlying31 info9 rfl (by decide) (by omega) u4 x4_1 (a0.extract (x5_1 : Int).toNat (x6_1 : Int).toNat) [.string (a0.extract (x5_1 : Int).toNat (x6_1 : Int).toNat)] (fun _ => True) (fun _ => False) rfl rfl ?aP (fun _ hk => hk.elim) ?aF ?aO ?aB ?aS ?aL ?_; (case aP => exact rfl); (case aB => exact (by repeat (first | (with_reducible first | exact HB.out | apply below_alloc | apply pw_below_drewN | apply below_drew1) | exact HB.out))); (case aF => exact (fun _ _ => trivial)); (case aO => exact (by (with_reducible repeat (first | apply Kd.R_alloc | apply Kd.R_drewN | apply Kd.R_drew)); exact HO_4.out)); (case aS => exact (below_size (by repeat (first | (with_reducible first | exact HB.out | apply below_alloc | apply pw_below_drewN | apply below_drew1) | exact HB.out)))); (case aL => have := LMc20.out; omega); intro v106 w21 ho hb hg hat; rw [← Ny105.out] at ho; have n0_ := Aside0.mk (hb); have n1_ := Aside0.mk (ho); clear HB; clear HO_4; have HB := n0_; have HO107 := n1_; clear n0_ n1_; clear ho hb hg hat))
                            go_roundg kj4
                            case measure => have := HK1.out; have := HJ4.out; omega
                            case rel => exact ⟨(y105), (wrap64 (x6_1 + 1)), (wrap64 (x6_1 + 1)), (by first | rfl | (simp; done) | (simp [*]; done)), (by first | rfl | (simp; done) | (simp [*]; done)), H', ⟨by have := HK1.out; have := HJ4.out; omega⟩, ⟨by (with_reducible repeat (first | apply Kd.R_alloc | apply Kd.R_drewN | apply Kd.R_drew)); exact HO107.out⟩, ⟨by repeat (first | (with_reducible first | exact HB.out | apply below_alloc | apply pw_below_drewN | apply below_drew1) | exact HB.out)⟩⟩
                          · rw [if_neg c20] at H
                            exact absurd H (by simp)
                        · rw [if_neg c19] at H
                          exact absurd H (by simp)
                      · rw [if_neg c18] at H
                        exact absurd H (by simp)
                    · rw [if_neg c17] at H
                      exact absurd H (by simp)
                  · rw [if_neg c16] at H
                    have c16b0 : ((bt a0 x6_1) == 44) = false := beq_eq_false_iff_ne.mpr c16
                    have c16b1 : ((bt a0 x6_1) != 44) = true := bne_iff_ne.mpr c16
                    have H' := Aside0.mk H
                    clear H
                    have p15 : 0 ≤ (x6_1 : Int) := of_decide_eq_true (by first | (with_reducible assumption) | assumption)
                    have q15 : x6_1 < (a0.size : Int) := of_decide_eq_true (by first | (with_reducible assumption) | assumption)
                    have hx15 := bt_at a0 x6_1
                    replace p15 := eq_true p15
                    replace q15 := eq_true q15
                    go_wp2
                    go_roundg kj4
                    case measure => have := HK1.out; have := HJ4.out; omega
                    case rel => exact ⟨(x4_1), (x5_1), (wrap64 (x6_1 + 1)), (by first | rfl | (simp; done) | (simp [*]; done)), (by first | rfl | (simp; done) | (simp [*]; done)), H', ⟨by have := HK1.out; have := HJ4.out; omega⟩, ⟨by (with_reducible repeat (first | apply Kd.R_alloc | apply Kd.R_drewN | apply Kd.R_drew)); exact HO_4.out⟩, ⟨by repeat (first | (with_reducible first | exact HB.out | apply below_alloc | apply pw_below_drewN | apply below_drew1) | exact HB.out)⟩⟩
                · rw [if_neg c14] at H
                  exact absurd H (by simp)
              · rw [if_neg c13] at H
                exact absurd H (by simp)
      · rw [if_neg c4] at H
        have c4b0 : decide (x6_1 < (a0.size : Int)) = false := decide_eq_false c4
        clear c4
        by_cases c22 : 0 ≤ x5_1
        · rw [if_pos c22] at H
          have c22b0 := eq_true c22
          have c22b1 : decide (0 ≤ x5_1) = true := decide_eq_true c22
          clear c22
          by_cases c23 : x5_1 ≤ (a0.size : Int)
          · rw [if_pos c23] at H
            have c23b0 := eq_true c23
            have c23b1 : decide (x5_1 ≤ (a0.size : Int)) = true := decide_eq_true c23
            clear c23
            by_cases c24 : x4_1.length < 8796093022208
            · rw [if_pos c24] at H
              have LMc24 := Aside0.mk c24
              clear c24
              obtain ⟨y108, hy108⟩ : ∃ y_ : List ByteArray, y_ = (x4_1 ++ [a0.extract (x5_1 : Int).toNat a0.size]) := ⟨_, rfl⟩
              replace H : (abutmentref07_Split.l1 k1 y108 (([] : List ByteArray)) 0) = some (r1, r2) := by first | (rw [hy108]; with_reducible exact H) | (have H2_ := (Option.bind_some _ _).symm.trans H; rw [hy108]; with_reducible exact H2_) | (have H2_ := (Option.bind_some _ _).symm.trans H; with_reducible exact H2_) | with_reducible exact H | (rw [hy108]; exact H) | exact H
              have Ny108 := Aside0.mk hy108
              clear hy108
              obtain ⟨y111, hy111⟩ : ∃ y_ : List ByteArray, y_ = (([] : List ByteArray)) := ⟨_, rfl⟩
              replace H : (abutmentref07_Split.l1 k1 y108 y111 0) = some (r1, r2) := by first | (rw [hy111]; with_reducible exact H) | (have H2_ := (Option.bind_some _ _).symm.trans H; rw [hy111]; with_reducible exact H2_) | (have H2_ := (Option.bind_some _ _).symm.trans H; with_reducible exact H2_) | with_reducible exact H | (rw [hy111]; exact H) | exact H
              have Ny111 := Aside0.mk hy111
              clear hy111
              have H' := Aside0.mk H
              clear H
              go_wp2_with (first | ((with_reducible refine gate_builtin (b := .append) (xs := #[.tmp 46, .tmp 50]) rfl ?_); at_builtin; refine Kd.R_append Kd.string (w0 := w) w.heap.size rfl (.tmp 46) (.tmp 50) 31 9 (.string ⟨#[]⟩) 16 rfl Try.underlying31 info9 rfl (by decide) (by omega) u4 x4_1 (a0.extract (x5_1 : Int).toNat a0.size) [.string (a0.extract (x5_1 : Int).toNat a0.size)] (fun _ => True) (fun _ => False) rfl rfl ?aP (fun _ hk => hk.elim) ?aF ?aO ?aB ?aS ?aL ?_; (case aP => exact rfl); (case aB => exact (by repeat (first | (with_reducible first | exact HB.out | apply below_alloc | apply pw_below_drewN | apply below_drew1) | exact HB.out))); (case aF => exact (fun _ _ => trivial)); (case aO => exact (by (with_reducible repeat (first | apply Kd.R_alloc | apply Kd.R_drewN | apply Kd.R_drew)); exact HO_4.out)); (case aS => exact (below_size (by repeat (first | (with_reducible first | exact HB.out | apply below_alloc | apply pw_below_drewN | apply below_drew1) | exact HB.out)))); (case aL => have := LMc24.out; omega); intro v109 w25 ho hb hg hat; rw [← Ny108.out] at ho; have n0_ := Aside0.mk (hb); have n1_ := Aside0.mk (ho); clear HB; clear HO_4; have HB := n0_; have HO110 := n1_; clear n0_ n1_; clear ho hb hg hat) | ((with_reducible refine gate_dst (N := 52) rfl ?_); refine Kd.R_lit Kd.string _ 9 ?hg (N := 52) ?hd (xs := ([] : List ByteArray)) (inner := []) (ok := fun _ => True) (okp := fun _ => True) ?hr ?hp (fun _ hk => hk) trivial (Below.refl _ _) (Nat.le_refl _) (by simp) ?_; (case hd => rfl); (case hg => rfl); (case hr => first | (go_simp; done) | (go_simp; rfl)); (case hp => exact (Reps.none _ _)); intro v112 w26 ho27 hb hg_ hnew_; clear hg_ hnew_; (first | rw [← Ny111.out] at ho27 | (simp only [Int.reduceToNat] at ho27; rw [← Ny111.out] at ho27)); have n0_ := Aside0.mk (Kd.R_elder' (by (with_reducible repeat (first | apply Kd.R_alloc | apply Kd.R_drewN | apply Kd.R_drew)); exact HO110.out) (Kd.R_base ho27) hb); have n1_ := Aside0.mk (Kd.R_lower (Kd.R_new' ho27 (Kd.R_lt (by (with_reducible repeat (first | apply Kd.R_alloc | apply Kd.R_drewN | apply Kd.R_drew)); exact HO110.out))) (below_size (by repeat (first | (with_reducible first | exact HB.out | apply below_alloc | apply pw_below_drewN | apply below_drew1) | exact HB.out)))); have n2_ := Aside0.mk (below_step (by repeat (first | (with_reducible first | exact HB.out | apply below_alloc | apply pw_below_drewN | apply below_drew1) | exact HB.out)) hb); clear HO110; clear HB; have HO110 := n0_; have HO113 := n1_; have HB := n2_; clear n0_ n1_ n2_; clear hb ho27))
              go_loopg [7, 8] k1 (fun kq v7 v8 w' => ∃ (x7_2 : List ByteArray) (x8_2 : Int), v8 = .int .i64 x8_2 ∧ Aside0 (abutmentref07_Split.l1 kq y108 x7_2 x8_2 = some (r1, r2)) ∧ Aside0 (kq ≤ k1) ∧ Aside0 (Kd.R Kd.string 9 w' w.heap.size (fun k_ => some k_ ≠ (v7 : Value).ownBlock) v109 y108) ∧ Aside0 (Kd.R Kd.string 9 w' w.heap.size (fun k_ => some k_ ≠ (v109 : Value).ownBlock) v7 x7_2) ∧ Aside0 (Below w.heap.size w w'))
              case atStart => exact ⟨(y111), (0), (by first | rfl | (simp; done) | (simp [*]; done)), H', ⟨Nat.le_refl _⟩, ⟨by (with_reducible repeat (first | apply Kd.R_alloc | apply Kd.R_drewN | apply Kd.R_drew)); exact Kd.R_mono HO110.out (fun _ hk => hk.2)⟩, ⟨by (with_reducible repeat (first | apply Kd.R_alloc | apply Kd.R_drewN | apply Kd.R_drew)); exact Kd.R_mono HO113.out (fun _ hk => hk.2)⟩, ⟨by repeat (first | (with_reducible first | exact HB.out | apply below_alloc | apply pw_below_drewN | apply below_drew1) | exact HB.out)⟩⟩
              case round =>
                clear H'
                try clear c1
                try clear p1
                try clear q1
                try clear hx1
                try clear c2
                try clear p2
                try clear c4
                try clear c4b0
                try clear c5
                try clear c6
                try clear c6b0
                try clear p6
                try clear p7
                try clear q7
                try clear hx7
                try clear c8
                try clear c8b0
                try clear c8b1
                try clear p9
                try clear q9
                try clear hx9
                try clear c10
                try clear c12
                try clear c12b0
                try clear c13
                try clear c13b0
                try clear c14
                try clear c14b0
                try clear p15
                try clear q15
                try clear hx15
                try clear c16
                try clear c16b0
                try clear c16b1
                try clear c17
                try clear c17b0
                try clear c17b1
                try clear c18
                try clear c18b0
                try clear c18b1
                try clear c19
                try clear c19b0
                try clear c19b1
                try clear c20
                try clear c22
                try clear c22b0
                try clear c22b1
                try clear c23
                try clear c23b0
                try clear c23b1
                try clear c24
                try clear p15
                try clear p2
                try clear p7
                try clear p9
                try clear q15
                try clear q7
                try clear q9
                obtain ⟨x7_2, x8_2, rfl, HA, HK2, HO_4, HO_7, HB⟩ := hrel
                cases gk with
                | zero => exact absurd HA.out (by simp [abutmentref07_Split.l1])
                | succ k2 =>
                  have H := HA.out
                  clear HA
                  simp only [abutmentref07_Split.l1] at H
                  by_cases c28 : x8_2 < (y108.length : Int)
                  · rw [if_pos c28] at H
                    have c28b0 : decide (x8_2 < (y108.length : Int)) = true := decide_eq_true c28
                    clear c28
                    by_cases c29 : 0 ≤ x8_2
                    · rw [if_pos c29] at H
                      have c29b0 : decide (0 ≤ x8_2) = true := decide_eq_true c29
                      clear c29
                      replace H := Option.bind_eq_some_iff.mp H
                      obtain ⟨t115, A300, H⟩ := H
                      replace H : (if t115.toList = ([] : List UInt8) then (abutmentref07_Split.l1 k2 y108 x7_2 (wrap64 (x8_2 + 1))) else (if x7_2.length < 8796093022208 then (abutmentref07_Split.l1 k2 y108 (x7_2 ++ [t115]) (wrap64 (x8_2 + 1))) else (none))) = some (r1, r2) := H
                      have A30 := Aside0.mk A300
                      clear A300
                      by_cases c31 : t115.toList = ([] : List UInt8)
                      · rw [if_pos c31] at H
                        have c31b0 : (t115.toList == ([] : List UInt8)) = true := beq_iff_eq.mpr c31
                        have c31b1 : (t115.toList != ([] : List UInt8)) = false := bne_eq_false_iff_eq.mpr c31
                        clear c31
                        have H' := Aside0.mk H
                        clear H
                        obtain ⟨Ao32, co32, eo32⟩ := Kd.R_slice HO_4.out
                        subst eo32
                        have p114 : 0 ≤ (x8_2 : Int) := of_decide_eq_true (by first | (with_reducible assumption) | assumption)
                        have q114 : x8_2 < (y108.length : Int) := of_decide_eq_true (by first | (with_reducible assumption) | assumption)
                        obtain ⟨ad114, e114, hx114_0⟩ := Kd.at_string (Kd.R_reads' HO_4.out).2.2 x8_2 p114 q114
                        cases e114
                        replace p114 := eq_true p114
                        replace q114 := eq_true q114
                        go_wp2_with (first | ((with_reducible refine gate_callee (f := 52) rfl ?_); refine goesL_ (some 63) rfl rfl Try.func52 (by kernel_rfl) rfl #[.string (rdOf ByteArray.empty y108 x8_2)] rfl (by (try simp only [List.map_toArray, List.map_cons, List.map_nil]); first | done | rfl | (simp only [List.length_drop, List.length_take]; rfl)) ?_; (with_reducible refine (abutmentref01_Trim.calls k2 (rdOf ByteArray.empty y108 x8_2) t115 _ A30.out).mono ?_); rintro e w' ⟨rfl, ⟨nd, rfl⟩⟩; refine ⟨_, rfl, ?_⟩))
                        go_roundg k2
                        case measure => have := HK1.out; have := HK2.out; omega
                        case rel => exact ⟨(x7_2), (wrap64 (x8_2 + 1)), (by first | rfl | (simp; done) | (simp [*]; done)), H', ⟨by have := HK1.out; have := HK2.out; omega⟩, ⟨by (with_reducible repeat (first | apply Kd.R_alloc | apply Kd.R_drewN | apply Kd.R_drew)); exact HO_4.out⟩, ⟨by (with_reducible repeat (first | apply Kd.R_alloc | apply Kd.R_drewN | apply Kd.R_drew)); exact HO_7.out⟩, ⟨by repeat (first | (with_reducible first | exact HB.out | apply below_alloc | apply pw_below_drewN | apply below_drew1) | exact HB.out)⟩⟩
                      · rw [if_neg c31] at H
                        have c31b0 : (t115.toList == ([] : List UInt8)) = false := beq_eq_false_iff_ne.mpr c31
                        have c31b1 : (t115.toList != ([] : List UInt8)) = true := bne_iff_ne.mpr c31
                        by_cases c33 : x7_2.length < 8796093022208
                        · rw [if_pos c33] at H
                          have LMc33 := Aside0.mk c33
                          clear c33
                          obtain ⟨y116, hy116⟩ : ∃ y_ : List ByteArray, y_ = (x7_2 ++ [t115]) := ⟨_, rfl⟩
                          replace H : (abutmentref07_Split.l1 k2 y108 y116 (wrap64 (x8_2 + 1))) = some (r1, r2) := by first | (rw [hy116]; with_reducible exact H) | (have H2_ := (Option.bind_some _ _).symm.trans H; rw [hy116]; with_reducible exact H2_) | (have H2_ := (Option.bind_some _ _).symm.trans H; with_reducible exact H2_) | with_reducible exact H | (rw [hy116]; exact H) | exact H
                          have Ny116 := Aside0.mk hy116
                          clear hy116
                          have H' := Aside0.mk H
                          clear H
                          obtain ⟨Ao34, co34, eo34⟩ := Kd.R_slice HO_4.out
                          subst eo34
                          have p114 : 0 ≤ (x8_2 : Int) := of_decide_eq_true (by first | (with_reducible assumption) | assumption)
                          have q114 : x8_2 < (y108.length : Int) := of_decide_eq_true (by first | (with_reducible assumption) | assumption)
                          obtain ⟨ad114, e114, hx114_0⟩ := Kd.at_string (Kd.R_reads' HO_4.out).2.2 x8_2 p114 q114
                          cases e114
                          replace p114 := eq_true p114
                          replace q114 := eq_true q114
                          go_wp2_with (first | ((with_reducible refine gate_callee (f := 52) rfl ?_); refine goesL_ (some 63) rfl rfl Try.func52 (by kernel_rfl) rfl #[.string (rdOf ByteArray.empty y108 x8_2)] rfl (by (try simp only [List.map_toArray, List.map_cons, List.map_nil]); first | done | rfl | (simp only [List.length_drop, List.length_take]; rfl)) ?_; (with_reducible refine (abutmentref01_Trim.calls k2 (rdOf ByteArray.empty y108 x8_2) t115 _ A30.out).mono ?_); rintro e w' ⟨rfl, ⟨nd, rfl⟩⟩; refine ⟨_, rfl, ?_⟩) | ((with_reducible refine gate_builtin (b := .append) (xs := #[.tmp 66, .tmp 68]) rfl ?_); at_builtin; refine Kd.R_append Kd.string (w0 := w) w.heap.size rfl (.tmp 66) (.tmp 68) 31 9 (.string ⟨#[]⟩) 16 rfl Try.underlying31 info9 rfl (by decide) (by omega) u7 x7_2 t115 [.string t115] (fun k_ => some k_ ≠ (.slice (some ad114) y108.length co34 : Value).ownBlock) (fun _ => False) rfl rfl ?aP (fun _ hk => hk.elim) ?aF ?aO ?aB ?aS ?aL ?_; (case aP => exact rfl); (case aB => exact (by repeat (first | (with_reducible first | exact HB.out | apply below_alloc | apply pw_below_drewN | apply below_drew1) | exact HB.out))); (case aF => exact (fun k_ hk => Kd.fresh' (Kd.R_lt (by (with_reducible repeat (first | apply Kd.R_alloc | apply Kd.R_drewN | apply Kd.R_drew)); exact HO_4.out)) k_ hk)); (case aO => exact (by (with_reducible repeat (first | apply Kd.R_alloc | apply Kd.R_drewN | apply Kd.R_drew)); exact HO_7.out)); (case aS => exact (below_size (by repeat (first | (with_reducible first | exact HB.out | apply below_alloc | apply pw_below_drewN | apply below_drew1) | exact HB.out)))); (case aL => have := LMc33.out; omega); intro v117 w35 ho hb hg hat; rw [← Ny116.out] at ho; have n0_ := Aside0.mk (Kd.R_after (ok := (fun _ => True)) (by (with_reducible repeat (first | apply Kd.R_alloc | apply Kd.R_drewN | apply Kd.R_drew)); exact Kd.R_mono HO_4.out (fun _ hk => ⟨trivial, hk⟩)) hg hat); have n1_ := Aside0.mk (hb); have n2_ := Aside0.mk (ho); clear HO_4; clear HB; clear HO_7; have HO_4 := n0_; have HB := n1_; have HO118 := n2_; clear n0_ n1_ n2_; clear ho hb hg hat))
                          go_roundg k2
                          case measure => have := HK1.out; have := HK2.out; omega
                          case rel => exact ⟨(y116), (wrap64 (x8_2 + 1)), (by first | rfl | (simp; done) | (simp [*]; done)), H', ⟨by have := HK1.out; have := HK2.out; omega⟩, ⟨by (with_reducible repeat (first | apply Kd.R_alloc | apply Kd.R_drewN | apply Kd.R_drew)); exact Kd.R_mono HO_4.out (fun _ hk => hk.2)⟩, ⟨by (with_reducible repeat (first | apply Kd.R_alloc | apply Kd.R_drewN | apply Kd.R_drew)); exact HO118.out⟩, ⟨by repeat (first | (with_reducible first | exact HB.out | apply below_alloc | apply pw_below_drewN | apply below_drew1) | exact HB.out)⟩⟩
                        · rw [if_neg c33] at H
                          exact absurd H (by simp)
                    · rw [if_neg c29] at H
                      exact absurd H (by simp)
                  · rw [if_neg c28] at H
                    have c28b0 : decide (x8_2 < (y108.length : Int)) = false := decide_eq_false c28
                    clear c28
                    simp only [Option.some.injEq, Prod.mk.injEq] at H
                    obtain ⟨rfl, rfl⟩ := H
                    obtain ⟨Ao36, co36, eo36⟩ := Kd.R_slice HO_4.out
                    subst eo36
                    go_wp2
                    go_ret2
                    exact ⟨_, by first | rfl | (simp [errW_none, errW_some] <;> rfl) | (simp [*, errW_none, errW_some] <;> rfl), by (with_reducible repeat (first | apply Kd.R_alloc | apply Kd.R_drewN | apply Kd.R_drew)); exact Kd.R_mono HO_7.out (fun _ hk => trivial), by repeat (first | (with_reducible first | exact HB.out | apply below_alloc | apply pw_below_drewN | apply below_drew1) | exact HB.out)⟩
            · rw [if_neg c24] at H
              exact absurd H (by simp)
          · rw [if_neg c23] at H
            exact absurd H (by simp)
        · rw [if_neg c22] at H
          exact absurd H (by simp)

end Go.Proofs.Ytkjkbenmoogdjaa.X
namespace Go.Proofs.Ytkjkbenmoogdjaa.X
open Go.RowKit Go.Proofs.YtkjkbenmoogdjaaW.PrintWords Go.Proofs.YtkjkbenmoogdjaaW.PrintLast Go.Proofs.YtkjkbenmoogdjaaW.PrintMore
attribute [local go_sem] max2_int min2_int max_two min_two max_three min_three max_four min_four   -- for this text's walks alone
set_option linter.unusedVariables false
set_option linter.unusedSimpArgs false

/-! ### pure text 12: refSame -/
theorem toList_inj (a b : ByteArray) : a.toList = b.toList ↔ a = b := by
  constructor
  · intro h
    rw [Lib.toList_data, Lib.toList_data] at h
    obtain ⟨⟨a⟩⟩ := a
    obtain ⟨⟨b⟩⟩ := b
    simp at h
    rw [h]
  · intro h; rw [h]
theorem rd_nat (l : List ByteArray) (i : Nat) (h : i < l.length) : rdOf ByteArray.empty l (i : Int) = l[i]'h := by
  unfold rdOf
  simp [List.getElem?_eq_getElem h]
theorem same_l0 (x y : List ByteArray) (hl : x.length = y.length) (hs : x.length ≤ 1000000000) : ∀ (d i k : Nat), x.length - i = d → i ≤ x.length → d < k →
    abutmentref01_Same.l0 k x y (i : Int) = some (decide (x.drop i = y.drop i)) := by
  intro d
  induction d with
  | zero =>
    intro i k hd hi hk
    obtain ⟨k, rfl⟩ : ∃ m, k = m + 1 := ⟨k - 1, by omega⟩
    simp only [abutmentref01_Same.l0]
    rw [if_neg (by omega), List.drop_eq_nil_iff.2 (by omega), List.drop_eq_nil_iff.2 (by omega)]
    rfl
  | succ d ih =>
    intro i k hd hi hk
    obtain ⟨k, rfl⟩ : ∃ m, k = m + 1 := ⟨k - 1, by omega⟩
    have hlx : i < x.length := by omega
    have hly : i < y.length := by omega
    have hw : wrap64 ((i : Int) + 1) = ((i + 1 : Nat) : Int) := by rw [wrap_id _ (by omega) (by omega)]; omega
    simp only [abutmentref01_Same.l0]
    rw [if_pos (by omega), if_pos (by omega), if_pos (by omega), rd_nat x i hlx, rd_nat y i hly, hw, List.drop_eq_getElem_cons hlx, List.drop_eq_getElem_cons hly, ih (i + 1) k (by omega) (by omega) (by omega)]
    generalize x.drop (i + 1) = X
    generalize y.drop (i + 1) = Y
    generalize x[i]'hlx = p
    generalize y[i]'hly = q
    by_cases he : p = q
    · rw [if_pos (by rw [he]), he]
      simp
    · rw [if_neg (fun h => he ((toList_inj _ _).1 h))]
      simp [he]
theorem ref_same (x y : List ByteArray) (hs : x.length ≤ 1000000000) (k : Nat) (hk : x.length < k) : abutmentref01_Same.f k x y = some (decide (x = y)) := by
  unfold abutmentref01_Same.f
  by_cases h : (x.length : Int) = (y.length : Int)
  · rw [if_pos h]
    have := same_l0 x y (by omega) hs x.length 0 k (by omega) (by omega) hk
    simpa using this
  · rw [if_neg h]
    have : ¬ x = y := fun e => h (by rw [e])
    simp [this]


end Go.Proofs.Ytkjkbenmoogdjaa.X
namespace Go.Proofs.Ytkjkbenmoogdjaa.X
open Go.RowKit Go.Proofs.YtkjkbenmoogdjaaW.PrintWords Go.Proofs.YtkjkbenmoogdjaaW.PrintLast Go.Proofs.YtkjkbenmoogdjaaW.PrintMore
attribute [local go_sem] max2_int min2_int max_two min_two max_three min_three max_four min_four   -- for this text's walks alone
set_option linter.unusedVariables false
set_option linter.unusedSimpArgs false

/-! ### pure text 13: refSplit -/
theorem st_succ (s : ByteArray) (i : Nat) {q sl : Bool} {d : Int} (h : stAt s i = (q, sl, d)) : stAt s (i + 1) = seeS q sl d (bt s i) := by
  show seeS (stAt s i).1 (stAt s i).2.1 (stAt s i).2.2 (bt s i) = _
  rw [h]
theorem el_open (s : ByteArray) (i : Nat) (h : closedS (stAt s i) = false) : elemsAt s (i + 1) = elemsAt s i := by
  show (if bt s i = 44 ∧ closedS (stAt s i) = true then _ else _) = _
  rw [if_neg (by rw [h]; simp)]
theorem el_other (s : ByteArray) (i : Nat) (h : bt s i ≠ 44) : elemsAt s (i + 1) = elemsAt s i := by
  show (if bt s i = 44 ∧ closedS (stAt s i) = true then _ else _) = _
  rw [if_neg (fun e => h e.1)]
theorem open_d (d : Int) (sl : Bool) (h : 1 ≤ d) : closedS (false, sl, d) = false := by
  unfold closedS
  have : (d == 0) = false := beq_eq_false_iff_ne.2 (by omega)
  simp [this]
theorem open_q (sl : Bool) (d : Int) : closedS (true, sl, d) = false := rfl
theorem open_s (q : Bool) (d : Int) : closedS (q, true, d) = false := by cases q <;> rfl
/-- Where what is closed in ends: the scan is at rest there, and no comma between has parted anything. -/
def EndsAt (s : ByteArray) (i : Nat) (r : Int) : Prop :=
  (r = -1 ∧ closedS (stAt s s.size) = false) ∨ ∃ j : Nat, r = j ∧ i < j ∧ j ≤ s.size ∧ stAt s j = (false, false, 0) ∧ elemsAt s j = elemsAt s i
theorem EndsAt.from {s : ByteArray} {i i' : Nat} {r : Int} (h : EndsAt s i' r) (hi : i ≤ i') (he : elemsAt s i' = elemsAt s i) : EndsAt s i r := by
  rcases h with h | ⟨j, hr, hlt, hle, hst, hel⟩
  · exact .inl h
  · exact .inr ⟨j, hr, by omega, hle, hst, hel.trans he⟩
theorem behF_paren (s : ByteArray) (p : Nat) : ∀ (f i : Nat) (d : Int), s.size ≤ i + f → i ≤ s.size → 1 ≤ d → stAt s i = (false, false, d) → EndsAt s i (behF s p false f d i) := by
  intro f
  induction f using Nat.strongRecOn with
  | _ f ih =>
  intro i d hf hi hd hst
  by_cases hlt : i < s.size
  · obtain ⟨f, rfl⟩ : ∃ g, f = g + 1 := ⟨f - 1, by omega⟩
    have hcl : closedS (stAt s i) = false := by rw [hst]; exact open_d d false hd
    have he1 := el_open s i hcl
    simp only [behF]
    rw [if_pos hlt]
    by_cases e1 : bt s i = 92
    · rw [if_pos e1]
      have hst1 : stAt s (i + 1) = (false, true, d) := by
        rw [st_succ s i hst, e1]; unfold seeS; simp; omega
      by_cases hlt2 : i + 1 < s.size
      · have hst2 : stAt s (i + 2) = (false, false, d) := by
          rw [st_succ s (i + 1) hst1]; unfold seeS; simp
        have he2 : elemsAt s (i + 2) = elemsAt s i := (el_open s (i + 1) (by rw [hst1]; exact open_s _ _)).trans he1
        exact (ih f (by omega) (i + 2) d (by omega) (by omega) hd hst2).from (by omega) he2
      · rw [behF_end s p false f d (i + 2) (by omega)]
        refine .inl ⟨rfl, ?_⟩
        rw [show s.size = i + 1 by omega, hst1]
        exact open_s _ _
    · rw [if_neg e1]
      simp only [Bool.false_eq_true, if_false]
      by_cases e2 : bt s i = 40
      · rw [if_pos e2]
        have hst1 : stAt s (i + 1) = (false, false, d + 1) := by rw [st_succ s i hst, e2]; unfold seeS; simp
        exact (ih f (by omega) (i + 1) (d + 1) (by omega) (by omega) (by omega) hst1).from (by omega) he1
      · rw [if_neg e2]
        by_cases e3 : bt s i = 41
        · rw [if_pos e3]
          have hst1 : stAt s (i + 1) = (false, false, d - 1) := by rw [st_succ s i hst, e3]; unfold seeS; simp; omega
          by_cases e4 : d - 1 = 0
          · rw [if_pos e4]
            rw [e4] at hst1
            exact .inr ⟨i + 1, by omega, by omega, by omega, hst1, he1⟩
          · rw [if_neg e4]
            exact (ih f (by omega) (i + 1) (d - 1) (by omega) (by omega) (by omega) hst1).from (by omega) he1
        · rw [if_neg e3]
          have hst1 : stAt s (i + 1) = (false, false, d) := by
            rw [st_succ s i hst]; unfold seeS
            simp [e1, e2, e3]
            omega
          exact (ih f (by omega) (i + 1) d (by omega) (by omega) hd hst1).from (by omega) he1
  · rw [behF_end s p false f d i hlt]
    refine .inl ⟨rfl, ?_⟩
    rw [show s.size = i by omega, hst]
    exact open_d d false hd
theorem behF_quote (s : ByteArray) (p : Nat) : ∀ (f i : Nat), s.size ≤ i + f → p < i → i ≤ s.size → stAt s i = (true, false, 0) → EndsAt s i (behF s p true f 0 i) := by
  intro f
  induction f using Nat.strongRecOn with
  | _ f ih =>
  intro i hf hpi hi hst
  by_cases hlt : i < s.size
  · obtain ⟨f, rfl⟩ : ∃ g, f = g + 1 := ⟨f - 1, by omega⟩
    have hcl : closedS (stAt s i) = false := by rw [hst]; rfl
    have he1 := el_open s i hcl
    simp only [behF]
    rw [if_pos hlt]
    by_cases e1 : bt s i = 92
    · rw [if_pos e1]
      have hst1 : stAt s (i + 1) = (true, true, 0) := by
        rw [st_succ s i hst, e1]; unfold seeS; simp
      by_cases hlt2 : i + 1 < s.size
      · have hst2 : stAt s (i + 2) = (true, false, 0) := by
          rw [st_succ s (i + 1) hst1]; unfold seeS; simp
        have he2 : elemsAt s (i + 2) = elemsAt s i := (el_open s (i + 1) (by rw [hst1]; rfl)).trans he1
        exact (ih f (by omega) (i + 2) (by omega) (by omega) (by omega) hst2).from (by omega) he2
      · rw [behF_end s p true f 0 (i + 2) (by omega)]
        refine .inl ⟨rfl, ?_⟩
        rw [show s.size = i + 1 by omega, hst1]
        rfl
    · rw [if_neg e1]
      simp only [if_true]
      by_cases e2 : bt s i = 34
      · rw [if_pos ⟨hpi, e2⟩]
        have hst1 : stAt s (i + 1) = (false, false, 0) := by rw [st_succ s i hst, e2]; unfold seeS; simp
        exact .inr ⟨i + 1, by omega, by omega, by omega, hst1, he1⟩
      · rw [if_neg (fun h => e2 h.2)]
        have hst1 : stAt s (i + 1) = (true, false, 0) := by
          rw [st_succ s i hst]; unfold seeS
          simp [e1, e2]
        exact (ih f (by omega) (i + 1) (by omega) (by omega) (by omega) hst1).from (by omega) he1
  · rw [behF_end s p true f 0 i hlt]
    refine .inl ⟨rfl, ?_⟩
    rw [show s.size = i by omega, hst]
    rfl
theorem behind_ends (s : ByteArray) (p : Nat) (hp : p < s.size) (hst : stAt s p = (false, false, 0)) (hc : bt s p = 34 ∨ bt s p = 40) : EndsAt s p (behind s p) := by
  unfold behind
  obtain ⟨f, hf⟩ : ∃ g, s.size = g + 1 := ⟨s.size - 1, by omega⟩
  rcases hc with hc | hc
  · have hq : (bt s p == 34) = true := by rw [hc]; rfl
    rw [hq, hf]
    simp only [behF]
    rw [if_pos hp, if_neg (by omega), if_pos trivial, if_neg (by omega)]
    have hst1 : stAt s (p + 1) = (true, false, 0) := by rw [st_succ s p hst, hc]; rfl
    exact (behF_quote s p f (p + 1) (by omega) (by omega) (by omega) hst1).from (by omega) (el_other s p (by omega))
  · have hq : (bt s p == 34) = false := by rw [hc]; rfl
    rw [hq, hf]
    simp only [behF]
    rw [if_pos hp, if_neg (by omega), if_neg (by simp), if_pos hc]
    have hst1 : stAt s (p + 1) = (false, false, 1) := by rw [st_succ s p hst, hc]; rfl
    exact (behF_paren s p f (p + 1) 1 (by omega) (by omega) (by omega) hst1).from (by omega) (el_other s p (by omega))
theorem keptL_cons (x : ByteArray) (l : List ByteArray) : keptL (x :: l) = if full (trimB x) = true then trimB x :: keptL l else keptL l := by
  unfold keptL
  simp only [List.map_cons, List.filter_cons]
theorem refsplit_l1 (M : Nat) (hM : M ≤ 1000000) (L : List ByteArray) (hL : L.length ≤ 1000001) (hsz : ∀ x ∈ L, x.size ≤ M) : ∀ (d i k : Nat) (acc : List ByteArray), L.length - i = d → i ≤ L.length → acc.length ≤ i → d + 2 * M + 3 < k →
    abutmentref07_Split.l1 k L acc (i : Int) = some (acc ++ keptL (L.drop i), true) := by
  intro d
  induction d with
  | zero =>
    intro i k acc hd hi _ hk
    obtain ⟨k, rfl⟩ : ∃ m, k = m + 1 := ⟨k - 1, by omega⟩
    simp only [abutmentref07_Split.l1]
    rw [if_neg (by omega), List.drop_eq_nil_iff.2 (by omega)]
    simp [keptL]
  | succ d ih =>
    intro i k acc hd hi hacc hk
    obtain ⟨k, rfl⟩ : ∃ m, k = m + 1 := ⟨k - 1, by omega⟩
    have hl : i < L.length := by omega
    have hw : wrap64 ((i : Int) + 1) = ((i + 1 : Nat) : Int) := by rw [wrap_id _ (by omega) (by omega)]; omega
    have hx := hsz _ (List.getElem_mem hl)
    simp only [abutmentref07_Split.l1]
    rw [if_pos (by omega), if_pos (by omega), rd_nat L i hl, ref_trim _ (by omega) k (by omega)]
    simp only [Option.bind_some]
    rw [hw, List.drop_eq_getElem_cons hl]
    by_cases he : (trimB (L[i]'hl)).toList = []
    · rw [if_pos he, ih (i + 1) k acc (by omega) (by omega) (by omega) (by omega), keptL_cons, if_neg (by unfold full; rw [he]; simp)]
    · rw [if_neg he, if_pos (by omega), ih (i + 1) k _ (by omega) (by omega) (by simp; omega) (by omega), keptL_cons, if_pos (by unfold full; simpa using he)]
      simp
theorem refsplit_l0 (s : ByteArray) (hs : s.size ≤ 1000000) : ∀ (d i k : Nat), s.size - i = d → i ≤ s.size → stAt s i = (false, false, 0) → 2 * d + 3 * s.size + 8 < k →
    abutmentref07_Split.l0 k s (elemsAt s i).2 ((elemsAt s i).1 : Int) (i : Int) = some (splitB s) := by
  intro d
  induction d using Nat.strongRecOn with
  | _ d ih =>
  intro i k hd hi hst hk
  obtain ⟨k, rfl⟩ : ∃ m, k = m + 2 := ⟨k - 2, by omega⟩
  have hfr := elemsAt_le s i
  have hln := elemsAt_len_le s i
  by_cases hlt : i < s.size
  · have hcl : closedS (stAt s i) = true := by rw [hst]; rfl
    have hw : wrap64 ((i : Int) + 1) = ((i + 1 : Nat) : Int) := by rw [wrap_id _ (by omega) (by omega)]; omega
    have hj1 : ∀ b : Bool, (b = true ↔ (bt s i = 34 ∨ bt s i = 40)) → abutmentref07_Split.j1 (k + 1) s (elemsAt s i).2 ((elemsAt s i).1 : Int) (i : Int) b = some (splitB s) := by
      intro b hb
      simp only [abutmentref07_Split.j1]
      cases b
      · have hno : ¬ (bt s i = 34 ∨ bt s i = 40) := fun h => by have := hb.2 h; cases this
        simp only [Bool.false_eq_true, if_false]
        rw [if_pos (by omega), if_pos (by omega), hw]
        by_cases hc : bt s i = 44
        · rw [if_pos hc, if_pos (by omega), if_pos (by omega), if_pos (by omega), if_pos (by omega)]
          have he : elemsAt s (i + 1) = (i + 1, (elemsAt s i).2 ++ [s.extract (elemsAt s i).1 i]) := by
            show (if bt s i = 44 ∧ closedS (stAt s i) = true then _ else _) = _
            rw [if_pos ⟨hc, hcl⟩]
          have hst1 : stAt s (i + 1) = (false, false, 0) := by rw [st_succ s i hst, hc]; rfl
          have := ih (s.size - (i + 1)) (by omega) (i + 1) k rfl (by omega) hst1 (by omega)
          rw [he] at this
          simpa using this
        · rw [if_neg hc]
          have he := el_other s i hc
          have hst1 : stAt s (i + 1) = (false, false, 0) := by
            rw [st_succ s i hst]; unfold seeS
            have h1 : bt s i ≠ 34 := fun h => hno (.inl h)
            have h2 : bt s i ≠ 40 := fun h => hno (.inr h)
            simp [h1, h2]
          have := ih (s.size - (i + 1)) (by omega) (i + 1) k rfl (by omega) hst1 (by omega)
          rw [he] at this
          exact this
      · have hyes := hb.1 rfl
        simp only [if_true]
        rw [show abutmentref07_Behind.f s (i : Int) = some (behind s i) from by unfold abutmentref07_Behind.f; rw [if_pos ⟨by omega, by omega, by omega⟩]; rfl]
        simp only [Option.bind_some]
        rcases behind_ends s i hlt hst hyes with ⟨hr, hop⟩ | ⟨j, hr, hij, hj, hstj, hej⟩
        · rw [hr, if_pos (by omega)]
          unfold splitB
          rw [if_neg (by rw [hop]; simp)]
        · rw [hr, if_neg (by omega)]
          have := ih (s.size - j) (by omega) j k rfl hj hstj (by omega)
          rw [hej] at this
          exact this
    simp only [abutmentref07_Split.l0]
    rw [if_pos (by omega), if_pos (by omega)]
    by_cases h34 : bt s i = 34
    · rw [if_pos h34]
      exact hj1 true (by simp [h34])
    · rw [if_neg h34]
      apply hj1
      rw [beq_iff_eq]
      constructor
      · intro h; exact .inr h
      · rintro (h | h)
        · exact absurd h h34
        · exact h
  · obtain rfl : i = s.size := by omega
    simp only [abutmentref07_Split.l0]
    rw [if_neg (by omega), if_pos (by omega), if_pos (by omega), if_pos (by omega)]
    have hcl : closedS (stAt s s.size) = true := by rw [hst]; rfl
    have hlen := elems_len_le s
    have := refsplit_l1 s.size hs (elems s) (by omega) (elems_size s) (elems s).length 0 (k + 1) [] rfl (by omega) (by simp) (by omega)
    unfold splitB
    rw [if_pos hcl]
    simpa [elems] using this
theorem ref_split (s : ByteArray) (hs : s.size ≤ 1000000) (k : Nat) (hk : 5 * s.size + 8 < k) : abutmentref07_Split.f k s = some (splitB s) := by
  have := refsplit_l0 s hs s.size 0 k (by omega) (by omega) rfl (by omega)
  exact this


end Go.Proofs.Ytkjkbenmoogdjaa.X
namespace Go.Proofs.Ytkjkbenmoogdjaa.X
open Go.RowKit Go.Proofs.YtkjkbenmoogdjaaW.PrintWords Go.Proofs.YtkjkbenmoogdjaaW.PrintLast Go.Proofs.YtkjkbenmoogdjaaW.PrintMore
attribute [local go_sem] max2_int min2_int max_two min_two max_three min_three max_four min_four   -- for this text's walks alone
set_option linter.unusedVariables false
set_option linter.unusedSimpArgs false

/-! ### pure text 16: listsBack -/
/-! ### The scan over a list of octets -/
abbrev St : Type := Bool × Bool × Int
def st0 : St := (false, false, 0)
def stepS (st : St) (c : UInt8) : St := seeS st.1 st.2.1 st.2.2 (c.toNat : Int)
def runS (st : St) (l : List UInt8) : St := l.foldl stepS st
def sepS (st : St) (c : UInt8) : Bool := (c == 44) && closedS st
def pieces : St → List UInt8 → List UInt8 → List (List UInt8)
  | _, cur, [] => [cur]
  | st, cur, c :: l => if sepS st c = true then cur :: pieces (stepS st c) [] l else pieces (stepS st c) (cur ++ [c]) l
/-- Nothing is parted. -/
def NoSep : St → List UInt8 → Prop
  | _, [] => True
  | st, c :: l => sepS st c = false ∧ NoSep (stepS st c) l
theorem closedS_eq (st : St) : closedS st = true ↔ st = st0 := by
  obtain ⟨q, sl, d⟩ := st
  cases q <;> cases sl <;> simp [closedS, st0]
theorem runS_append (st : St) (a b : List UInt8) : runS st (a ++ b) = runS (runS st a) b := by simp [runS]
theorem runS_cons (st : St) (c : UInt8) (l : List UInt8) : runS st (c :: l) = runS (stepS st c) l := rfl
theorem noSep_append : ∀ (a : List UInt8) (st : St) (b : List UInt8), NoSep st (a ++ b) ↔ NoSep st a ∧ NoSep (runS st a) b
  | [], st, b => by simp [NoSep, runS]
  | c :: a, st, b => by
    simp only [List.cons_append, NoSep, runS_cons, noSep_append a, and_assoc]
theorem pieces_append : ∀ (a : List UInt8) (st : St) (cur b : List UInt8), NoSep st a → pieces st cur (a ++ b) = pieces (runS st a) (cur ++ a) b
  | [], st, cur, b, _ => by simp [runS]
  | c :: a, st, cur, b, h => by
    simp only [List.cons_append, pieces]
    rw [if_neg (by rw [h.1]; simp), pieces_append a _ _ _ h.2, runS_cons]
    simp
/-- Each piece is whole in itself. -/
def Whole (p : List UInt8) : Prop := NoSep st0 p ∧ runS st0 p = st0
theorem step_sep (c : UInt8) (h : sepS st0 c = true) : stepS st0 c = st0 := by
  unfold sepS at h
  simp at h
  rw [h.1]
  rfl
theorem pieces_whole : ∀ (l : List UInt8) (st : St) (cur : List UInt8), NoSep st0 cur → runS st0 cur = st → runS st l = st0 → ∀ p ∈ pieces st cur l, Whole p
  | [], st, cur, h1, h2, h3 => by
    intro p hp
    simp [pieces] at hp
    subst hp
    exact ⟨h1, h2.trans h3⟩
  | c :: l, st, cur, h1, h2, h3 => by
    intro p hp
    unfold pieces at hp
    by_cases hs : sepS st c = true
    · rw [if_pos hs] at hp
      have hst : st = st0 := (closedS_eq st).1 (by unfold sepS at hs; simp at hs; exact hs.2)
      rcases List.mem_cons.1 hp with rfl | hp
      · exact ⟨h1, h2.trans hst⟩
      · subst hst
        rw [runS_cons] at h3
        refine pieces_whole l _ [] trivial ?_ h3 p hp
        exact (step_sep c hs).symm
    · rw [if_neg hs] at hp
      refine pieces_whole l _ (cur ++ [c]) ?_ ?_ h3 p hp
      · rw [noSep_append]
        refine ⟨h1, ?_, trivial⟩
        rw [h2]
        simpa using hs
      · rw [runS_append, h2]; rfl
/-- What can be come to: a slash stands in what is closed in. -/
def WfS (st : St) : Prop := 0 ≤ st.2.2 ∧ (st.2.1 = true → st.1 = true ∨ 0 < st.2.2)
theorem wf_step (st : St) (c : UInt8) (h : WfS st) : WfS (stepS st c) := by
  obtain ⟨q, sl, d⟩ := st
  obtain ⟨h1, h2⟩ := h
  simp only at h1 h2
  unfold stepS seeS
  cases sl
  · simp only [Bool.false_eq_true, if_false]
    split
    · refine ⟨h1, fun h => ?_⟩
      simp at h
      exact h
    · split
      · exact ⟨h1, fun h => by cases h⟩
      · split
        · exact ⟨by dsimp only; omega, fun h => by cases h⟩
        · split
          · rename_i hc
            exact ⟨by dsimp only; omega, fun h => by cases h⟩
          · split
            · exact ⟨h1, fun h => by cases h⟩
            · exact ⟨h1, fun h => by cases h⟩
  · simp only [if_true]
    exact ⟨h1, fun h => by cases h⟩
theorem wf_run (l : List UInt8) : ∀ st, WfS st → WfS (runS st l) := by
  induction l with
  | nil => intro st h; exact h
  | cons c l ih => intro st h; exact ih _ (wf_step st c h)
theorem wf0 : WfS st0 := ⟨Int.le_refl _, fun h => by cases h⟩
theorem bl_cases (c : UInt8) (h : bl c = true) : c = 32 ∨ c = 9 := by
  unfold bl at h; simpa using h
theorem step_bl (c : UInt8) (h : bl c = true) : stepS st0 c = st0 := by
  rcases bl_cases c h with rfl | rfl <;> rfl
theorem step_bl_back (st : St) (c : UInt8) (hw : WfS st) (h : bl c = true) (hs : stepS st c = st0) : st = st0 := by
  obtain ⟨q, sl, d⟩ := st
  obtain ⟨h1, h2⟩ := hw
  simp only at h1 h2
  cases sl
  · have hc : (c.toNat : Int) = 32 ∨ (c.toNat : Int) = 9 := by
      rcases bl_cases c h with rfl | rfl
      · exact .inl rfl
      · exact .inr rfl
    unfold stepS seeS at hs
    simp only [Bool.false_eq_true, if_false] at hs
    rw [if_neg (by omega)] at hs
    cases q
    · simp only [Bool.false_eq_true, if_false] at hs
      rw [if_neg (by omega), if_neg (by omega), if_neg (by omega)] at hs
      exact hs
    · exfalso
      simp only [if_true] at hs
      have := congrArg Prod.fst hs
      simp only [st0] at this
      have h34 : ((c.toNat : Int) != 34) = true := by rw [bne_iff_ne]; omega
      rw [h34] at this
      cases this
  · exfalso
    have hs' : (q, false, d) = st0 := hs
    unfold st0 at hs'
    injection hs' with e1 e2
    injection e2 with _ e3
    rcases h2 rfl with h | h
    · rw [e1] at h; cases h
    · omega
theorem whole_tail (c : UInt8) (p : List UInt8) (hc : bl c = true) (h : Whole (c :: p)) : Whole p := by
  have hs := step_bl c hc
  refine ⟨?_, ?_⟩
  · have := h.1.2; rwa [hs] at this
  · have := h.2; rw [runS_cons, hs] at this; exact this
theorem whole_dropWhile (p : List UInt8) (h : Whole p) : Whole (p.dropWhile bl) := by
  induction p with
  | nil => exact h
  | cons c p ih =>
    rw [List.dropWhile_cons]
    split
    · rename_i hc; exact ih (whole_tail c p hc h)
    · exact h
theorem whole_init (p : List UInt8) (c : UInt8) (hc : bl c = true) (h : Whole (p ++ [c])) : Whole p := by
  refine ⟨((noSep_append p st0 [c]).1 h.1).1, ?_⟩
  have := h.2
  rw [runS_append] at this
  exact step_bl_back _ c (wf_run p _ wf0) hc this
theorem whole_dropE : ∀ (n : Nat) (p : List UInt8), p.length = n → Whole p → Whole (dropE bl p) := by
  intro n
  induction n with
  | zero =>
    intro p hp h
    obtain rfl := List.eq_nil_of_length_eq_zero hp
    exact h
  | succ n ih =>
    intro p hp h
    rcases snoc_cases p with rfl | ⟨q, c, rfl⟩
    · exact h
    · rw [dropE_snoc]
      split
      · rename_i hc
        exact ih q (by simpa using hp) (whole_init q c hc h)
      · exact h
theorem whole_trim (p : List UInt8) (h : Whole p) : Whole (trimL p) := whole_dropE _ _ rfl (whole_dropWhile p h)
/-! ### Trimmed texts -/
theorem dropE_prefix {α : Type} (p : α → Bool) : ∀ (n : Nat) (l : List α), l.length = n → dropE p l <+: l := by
  intro n
  induction n with
  | zero => intro l hl; obtain rfl := List.eq_nil_of_length_eq_zero hl; exact List.prefix_rfl
  | succ n ih =>
    intro l hl
    rcases snoc_cases l with rfl | ⟨q, c, rfl⟩
    · exact List.prefix_rfl
    · rw [dropE_snoc]
      split
      · exact (ih q (by simpa using hl)).trans (List.prefix_append _ _)
      · exact List.prefix_rfl
theorem dropE_idem {α : Type} (p : α → Bool) : ∀ (n : Nat) (l : List α), l.length = n → dropE p (dropE p l) = dropE p l := by
  intro n
  induction n with
  | zero => intro l hl; obtain rfl := List.eq_nil_of_length_eq_zero hl; rfl
  | succ n ih =>
    intro l hl
    rcases snoc_cases l with rfl | ⟨q, c, rfl⟩
    · rfl
    · rw [dropE_snoc]
      split
      · exact ih q (by simpa using hl)
      · rename_i hc
        rw [dropE_snoc, if_neg hc]
theorem dropWhile_head {α : Type} (p : α → Bool) (l : List α) : ∀ c r, l.dropWhile p = c :: r → p c = false := by
  induction l with
  | nil => intro c r h; simp at h
  | cons x l ih =>
    intro c r h
    rw [List.dropWhile_cons] at h
    split at h
    · exact ih c r h
    · rename_i hx
      injection h with h1 h2
      subst h1
      simpa using hx
theorem trimL_idem (p : List UInt8) : trimL (trimL p) = trimL p := by
  unfold trimL
  obtain ⟨q, hq⟩ : ∃ q, p.dropWhile bl = q := ⟨_, rfl⟩
  have hh := dropWhile_head bl p
  rw [hq] at hh ⊢
  have hp := dropE_prefix bl _ q rfl
  have : (dropE bl q).dropWhile bl = dropE bl q := by
    match he : dropE bl q with
    | [] => rfl
    | c :: r =>
      rw [he] at hp
      obtain ⟨t, ht⟩ := hp
      have := hh c (r ++ t) ht.symm
      rw [List.dropWhile_cons, if_neg (by rw [this]; simp)]
  rw [this, dropE_idem bl _ q rfl]
theorem trimL_blank (c : UInt8) (p : List UInt8) (h : bl c = true) : trimL (c :: p) = trimL p := by
  unfold trimL
  rw [List.dropWhile_cons, if_pos h]
/-! ### The scan by places is the scan over the octets -/
theorem runS_take (s : ByteArray) (i : Nat) (hi : i ≤ s.size) : stAt s i = runS st0 (s.data.toList.take i) := by
  induction i with
  | zero => rfl
  | succ i ih =>
    have hl : i < s.data.toList.length := by rw [← size_list]; omega
    rw [take_snoc' _ _ hl, runS_append, ← ih (by omega)]
    show seeS _ _ _ (bt s i) = stepS (stAt s i) _
    rw [bt_list s i hl]
    rfl
theorem elems_pieces (s : ByteArray) : ∀ (d i : Nat), s.size - i = d → i ≤ s.size →
    (elemsAt s s.size).2 ++ [s.extract (elemsAt s s.size).1 s.size] = (elemsAt s i).2 ++ (pieces (stAt s i) ((s.data.toList.drop (elemsAt s i).1).take (i - (elemsAt s i).1)) (s.data.toList.drop i)).map (fun l => (⟨l.toArray⟩ : ByteArray)) := by
  intro d
  induction d with
  | zero =>
    intro i hd hi
    obtain rfl : i = s.size := by omega
    rw [show s.data.toList.drop s.size = [] from List.drop_eq_nil_iff.2 (by rw [← size_list]; omega)]
    simp only [pieces, List.map_cons, List.map_nil]
    rw [ext_list]
  | succ d ih =>
    intro i hd hi
    have hl : i < s.data.toList.length := by rw [← size_list]; omega
    have hfr := elemsAt_le s i
    rw [ih (i + 1) (by omega) (by omega), List.drop_eq_getElem_cons hl]
    have hst : stAt s (i + 1) = stepS (stAt s i) (s.data.toList[i]'hl) := by
      show seeS _ _ _ (bt s i) = _
      rw [bt_list s i hl]; rfl
    have hsep : (bt s i = 44 ∧ closedS (stAt s i) = true) ↔ sepS (stAt s i) (s.data.toList[i]'hl) = true := by
      rw [bt_list s i hl]
      unfold sepS
      have : (((s.data.toList[i]'hl).toNat : Int) = 44) ↔ s.data.toList[i]'hl = 44 := u8_eq _ 44
      rw [Bool.and_eq_true, beq_iff_eq, this]
    by_cases hs : sepS (stAt s i) (s.data.toList[i]'hl) = true
    · have he : elemsAt s (i + 1) = (i + 1, (elemsAt s i).2 ++ [s.extract (elemsAt s i).1 i]) := by
        show (if bt s i = 44 ∧ closedS (stAt s i) = true then _ else _) = _
        rw [if_pos (hsep.2 hs)]
      rw [he]
      conv => rhs; rw [pieces, if_pos hs]
      rw [hst, ext_list]
      simp
    · have he : elemsAt s (i + 1) = elemsAt s i := by
        show (if bt s i = 44 ∧ closedS (stAt s i) = true then _ else _) = _
        rw [if_neg (fun h => hs (hsep.1 h))]
      rw [he]
      conv => rhs; rw [pieces, if_neg hs]
      rw [hst]
      congr 3
      rw [show i + 1 - (elemsAt s i).1 = (i - (elemsAt s i).1) + 1 by omega, take_snoc' _ _ (by rw [List.length_drop]; omega)]
      congr 2
      rw [List.getElem_drop]
      congr 1
      omega
theorem elems_eq (s : ByteArray) : elems s = (pieces st0 [] s.data.toList).map (fun l => (⟨l.toArray⟩ : ByteArray)) := by
  have := elems_pieces s s.size 0 (by omega) (by omega)
  simpa [elemsAt, elems, stAt, st0] using this
theorem closed_eq (s : ByteArray) : stAt s s.size = runS st0 s.data.toList := by
  rw [runS_take s s.size (Nat.le_refl _), List.take_of_length_le (by rw [← size_list]; omega)]
/-! ### Joined and split again -/
def trimP (l : List UInt8) : ByteArray := ⟨(trimL l).toArray⟩
theorem keptL_map (ls : List (List UInt8)) : keptL (ls.map (fun l => (⟨l.toArray⟩ : ByteArray))) = ((ls.map trimL).filter (fun l => !l.isEmpty)).map (fun l => (⟨l.toArray⟩ : ByteArray)) := by
  induction ls with
  | nil => rfl
  | cons l ls ih =>
    rw [List.map_cons, keptL_cons, ih]
    simp only [List.map_cons, List.filter_cons]
    have : full (trimB ⟨l.toArray⟩) = !(trimL l).isEmpty := by
      unfold full trimB
      rw [Lib.toList_data]
    rw [this]
    split <;> rfl
theorem runS_blank_seq (e : List UInt8) (h : Whole e) : runS st0 (32 :: e) = st0 ∧ NoSep st0 (32 :: e) := by
  refine ⟨h.2, ⟨rfl, h.1⟩⟩
/-- The pieces of whole texts with commas and blanks between. -/
theorem pieces_join (e : List UInt8) (he : Whole e) : ∀ (r : List (List UInt8)) (cur : List UInt8), (∀ x ∈ r, Whole x) →
    pieces st0 cur (e ++ Lib.joinTail [44, 32] r) = (cur ++ e) :: r.map (fun x => 32 :: x) ∧ runS st0 (e ++ Lib.joinTail [44, 32] r) = st0 := by
  intro r
  induction r generalizing e with
  | nil =>
    intro cur _
    simp only [Lib.joinTail, List.map_nil, List.flatten_nil, List.append_nil]
    refine ⟨?_, he.2⟩
    have := pieces_append e st0 cur [] he.1
    rw [List.append_nil] at this
    rw [this]
    rfl
  | cons x r ih =>
    intro cur hr
    have hx := hr x (by simp)
    have ht : Lib.joinTail [44, 32] (x :: r) = 44 :: ((32 :: x) ++ Lib.joinTail [44, 32] r) := by
      simp [Lib.joinTail]
    obtain ⟨b1, b2⟩ := runS_blank_seq x hx
    obtain ⟨h1, h2⟩ := ih (32 :: x) ⟨b2, b1⟩ [] (fun y hy => hr y (by simp [hy]))
    rw [ht]
    refine ⟨?_, ?_⟩
    · rw [pieces_append e st0 cur _ he.1, he.2]
      have hsp : sepS st0 44 = true := rfl
      conv => lhs; rw [pieces, if_pos hsp]
      rw [step_sep 44 hsp, h1]
      simp
    · rw [runS_append, he.2, runS_cons, step_sep 44 rfl]
      exact h2
theorem kept_trimmed (ls : List (List UInt8)) (h : ∀ x ∈ ls, trimL x = x ∧ x ≠ []) : (ls.map trimL).filter (fun l => !l.isEmpty) = ls := by
  induction ls with
  | nil => rfl
  | cons x ls ih =>
    obtain ⟨h1, h2⟩ := h x (by simp)
    rw [List.map_cons, List.filter_cons, h1, ih (fun y hy => h y (by simp [hy]))]
    rw [if_pos (by simpa using h2)]
theorem split_join (ls : List (List UInt8)) (h : ∀ x ∈ ls, Whole x ∧ trimL x = x ∧ x ≠ []) :
    splitB ⟨(Lib.join ls [44, 32]).toArray⟩ = (ls.map (fun l => (⟨l.toArray⟩ : ByteArray)), true) := by
  have key : runS st0 (Lib.join ls [44, 32]) = st0 ∧ ((pieces st0 [] (Lib.join ls [44, 32])).map trimL).filter (fun l => !l.isEmpty) = ls := by
    match ls, h with
    | [], _ => exact ⟨rfl, rfl⟩
    | e :: r, h =>
      rw [Lib.join_cons]
      obtain ⟨h1, h2⟩ := pieces_join e (h e (by simp)).1 r [] (fun x hx => (h x (by simp [hx])).1)
      refine ⟨h2, ?_⟩
      rw [h1, List.nil_append]
      have : (e :: r.map (fun x => 32 :: x)).map trimL = (e :: r).map trimL := by
        rw [List.map_cons, List.map_cons, List.map_map]
        exact congrArg _ (List.map_congr_left (fun x _ => trimL_blank 32 x rfl))
      rw [this]
      exact kept_trimmed (e :: r) (fun x hx => (h x hx).2)
  unfold splitB
  rw [closed_eq, elems_eq, if_pos (by rw [closedS_eq]; exact key.1), keptL_map, key.2]
/-- What a split gives is whole, trimmed, not empty. -/
theorem split_good (s : ByteArray) (h : (splitB s).2 = true) : ∃ ls : List (List UInt8), (splitB s).1 = ls.map (fun l => (⟨l.toArray⟩ : ByteArray)) ∧ ∀ x ∈ ls, Whole x ∧ trimL x = x ∧ x ≠ [] := by
  unfold splitB at h ⊢
  by_cases hc : closedS (stAt s s.size) = true
  · rw [if_pos hc]
    rw [elems_eq, keptL_map]
    refine ⟨_, rfl, ?_⟩
    intro x hx
    obtain ⟨hx1, hx2⟩ := List.mem_filter.1 hx
    obtain ⟨p, hp, rfl⟩ := List.mem_map.1 hx1
    have hr : runS st0 s.data.toList = st0 := by rw [← closed_eq]; exact (closedS_eq _).1 hc
    have hw := pieces_whole s.data.toList st0 [] trivial rfl hr p hp
    exact ⟨whole_trim p hw, trimL_idem p, by simpa using hx2⟩
  · rw [if_neg hc] at h
    cases h
theorem split_back (s : ByteArray) (h : (splitB s).2 = true) : splitB (joinB (splitB s).1) = ((splitB s).1, true) := by
  obtain ⟨ls, h1, h2⟩ := split_good s h
  have hj : joinB (splitB s).1 = ⟨(Lib.join ls [44, 32]).toArray⟩ := by
    unfold joinB joinL
    rw [h1, List.map_map]
    have : ls.map ((fun x : ByteArray => x.data.toList) ∘ fun l => (⟨l.toArray⟩ : ByteArray)) = ls := by
      conv => rhs; rw [← List.map_id ls]
      exact List.map_congr_left (fun x _ => rfl)
    rw [this]
  rw [hj, split_join ls h2, h1]
/-! ### How long it is -/
theorem pieces_lens : ∀ (l : List UInt8) (st : St) (cur : List UInt8), Lib.lens (pieces st cur l) + (pieces st cur l).length = cur.length + l.length + 1
  | [], st, cur => by simp [pieces, Lib.lens]
  | c :: l, st, cur => by
    unfold pieces
    split
    · have := pieces_lens l (stepS st c) []
      simp only [Lib.lens, List.map_cons, List.sum_cons, List.length_cons, List.length_nil] at this ⊢
      omega
    · have := pieces_lens l (stepS st c) (cur ++ [c])
      simp only [List.length_append, List.length_cons, List.length_nil] at this ⊢
      omega
theorem trimL_len (l : List UInt8) : (trimL l).length ≤ l.length := Nat.le_trans (dropE_len _ _) (dropWhile_len _ _)
theorem kept_lens (ls : List (List UInt8)) : Lib.lens ((ls.map trimL).filter (fun l => !l.isEmpty)) + ((ls.map trimL).filter (fun l => !l.isEmpty)).length ≤ Lib.lens ls + ls.length := by
  induction ls with
  | nil => simp
  | cons x ls ih =>
    have := trimL_len x
    rw [List.map_cons, List.filter_cons]
    split
    · simp only [Lib.lens, List.map_cons, List.sum_cons, List.length_cons] at ih ⊢
      omega
    · simp only [Lib.lens, List.map_cons, List.sum_cons, List.length_cons] at ih ⊢
      omega
theorem split_join_len (s : ByteArray) : (joinL (splitB s).1).length ≤ 2 * s.size + 2 := by
  unfold splitB
  split
  · rw [elems_eq, keptL_map]
    have h1 := kept_lens (pieces st0 [] s.data.toList)
    have h2 := pieces_lens s.data.toList st0 []
    rw [← size_list] at h2
    unfold joinL
    rw [List.map_map]
    generalize ((pieces st0 [] s.data.toList).map trimL).filter (fun l => !l.isEmpty) = L at h1 ⊢
    have : L.map ((fun x : ByteArray => x.data.toList) ∘ fun l => (⟨l.toArray⟩ : ByteArray)) = L := by
      conv => rhs; rw [← List.map_id L]
      exact List.map_congr_left (fun x _ => rfl)
    simp only [List.length_nil] at h2
    rw [this]
    match L, h1 with
    | [], _ => simp [Lib.join_nil]
    | x :: r, h1 =>
      rw [Lib.join_length]
      simp only [List.length_cons, List.length_nil] at h1 ⊢
      omega
  · simp [joinL, Lib.join_nil]
theorem hasB_self (s e : ByteArray) (h : e ∈ (splitB s).1) : hasB s e = true := by
  unfold hasB
  rw [List.any_eq_true]
  exact ⟨e, h, by unfold foldB; simp⟩


end Go.Proofs.Ytkjkbenmoogdjaa.X
namespace Go.Proofs.Ytkjkbenmoogdjaa.X
open Go.RowKit Go.Proofs.YtkjkbenmoogdjaaW.PrintWords Go.Proofs.YtkjkbenmoogdjaaW.PrintLast Go.Proofs.YtkjkbenmoogdjaaW.PrintMore
attribute [local go_sem] max2_int min2_int max_two min_two max_three min_three max_four min_four   -- for this text's walks alone
set_option linter.unusedVariables false
set_option linter.unusedSimpArgs false

/-! ### pure text 21: listsLives -/
theorem lists_lives (k : Nat) (hk : 10 < k) : abutmentlaw07_lives.f k = some true := by
  unfold abutmentlaw07_lives.f
  rw [show lists_Split.f (⟨#[97, 44, 32, 34, 98, 44, 99, 34, 32, 40, 100, 44, 101, 41, 44, 44, 102]⟩ : ByteArray) = some ([(⟨#[97]⟩ : ByteArray), (⟨#[34, 98, 44, 99, 34, 32, 40, 100, 44, 101, 41]⟩ : ByteArray), (⟨#[102]⟩ : ByteArray)], true) from by kernel_rfl]
  simp only [Option.bind_some]
  rw [if_pos trivial, ref_same _ _ (by simp) k (by simp; omega)]
  simp only [Option.bind_some]
  rw [if_pos (by simp), show lists_Join.f (([(⟨#[97]⟩ : ByteArray), (⟨#[98]⟩ : ByteArray)] : List ByteArray)) = some ⟨#[97, 44, 32, 98]⟩ from by kernel_rfl]
  simp only [Option.bind_some]
  rw [if_pos (by rw [Lib.toList_data]), show lists_Has.f (⟨#[97, 44, 66]⟩ : ByteArray) (⟨#[98]⟩ : ByteArray) = some true from by kernel_rfl]
  rfl


end Go.Proofs.Ytkjkbenmoogdjaa.X
