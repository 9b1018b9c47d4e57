/- Part 5 of the texts behind the claim on TargetOut: contracts of the functions that it reaches, and plain laws about them. No conditions of its own. -/
import Derived.Test.YtdjmgmiaognncaaDoorCTargetOut1
import Derived.Test.YtdjmgmiaognncaaDoorCTargetOut4
import Derived.Test.YtdjmgmiaognncaaDoorCTargetOut3
import Derived.Test.YtdjmgmiaognncaaDoorCTargetOut2
namespace Go.Proofs.YtdjmgmiaognncaaDoor.X
open Go.RowKit Go.Proofs.YtdjmgmiaognncaaDoorW.PrintWords Go.Proofs.YtdjmgmiaognncaaDoorW.PrintLast Go.Proofs.YtdjmgmiaognncaaDoorW.PrintMore
attribute [local go_sem] max2_int min2_int max_two min_two max_three min_three max_four min_four   -- for this text's walks alone
set_option linter.unusedVariables false
set_option linter.unusedSimpArgs false

/-! ### abutmentref02_Text: function 60 -/
def abutmentref02_Text.f (a0 : Int) : Option (ByteArray) := if a0 < 0 then ((abutmentref02_Digits.f (IntKind.u64.wrap ((IntKind.u64.wrap (wrap64 (-(wrap64 (a0 + 1))))) + 1)) 10).bind fun t101 => (if 1 + t101.size ≤ 9223372036854775807 then (some ((⟨#[45]⟩ : ByteArray) ++ t101)) else (none))) else ((abutmentref02_Digits.f (IntKind.u64.wrap (a0)) 10).bind fun t102 => (some t102))
set_option maxHeartbeats 8000000 in
set_option maxRecDepth 100000 in
theorem abutmentref02_Text.calls (a0 : Int) (r : ByteArray) (w : World) (h : abutmentref02_Text.f a0 = some r) :
    Calls Tryd.prog 60 #[.int .i64 a0] w fun e w' => e = .returned (.string r) ∧ Below w.heap.size w w' := by
  have HB := Aside0.mk (Below.refl w.heap.size w)
  have H : (if a0 < 0 then ((abutmentref02_Digits.f (IntKind.u64.wrap ((IntKind.u64.wrap (wrap64 (-(wrap64 (a0 + 1))))) + 1)) 10).bind fun t101 => (if 1 + t101.size ≤ 9223372036854775807 then (some ((⟨#[45]⟩ : ByteArray) ++ t101)) else (none))) else ((abutmentref02_Digits.f (IntKind.u64.wrap (a0)) 10).bind fun t102 => (some t102))) = some r := h
  clear h
  by_cases c2 : a0 < 0
  · rw [if_pos c2] at H
    have c2b0 : decide (a0 < 0) = true := decide_eq_true c2
    clear c2
    replace H := Option.bind_eq_some_iff.mp H
    obtain ⟨t101, A30, H⟩ := H
    replace H : (if 1 + t101.size ≤ 9223372036854775807 then (some ((⟨#[45]⟩ : ByteArray) ++ t101)) else (none)) = some r := H
    have A3 := Aside0.mk A30
    clear A30
    by_cases c4 : 1 + t101.size ≤ 9223372036854775807
    · rw [if_pos c4] at H
      have c4b0 := eq_true c4
      have c4b1 : decide (1 + t101.size ≤ 9223372036854775807) = true := decide_eq_true c4
      try have c4b2 : (9223372036854775807 < 1 + t101.size) = False := eq_false (Nat.not_lt.2 c4)
      obtain rfl := Option.some.inj H
      go_enter Tryd.func60, Tryd.ntmps60
      go_wp2_with (first | ((with_reducible refine gate_callee (f := 51) rfl ?_); refine goesL_ (some 10) rfl rfl Tryd.func51 (by kernel_rfl) rfl #[.int .u64 (IntKind.u64.wrap ((IntKind.u64.wrap (wrap64 (-(wrap64 (a0 + 1))))) + 1)), .int .u64 10] rfl (by (try simp only [List.map_toArray, List.map_cons, List.map_nil]); first | done | rfl | (simp only [List.length_drop, List.length_take]; rfl)) ?_; (with_reducible refine (abutmentref02_Digits.calls (IntKind.u64.wrap ((IntKind.u64.wrap (wrap64 (-(wrap64 (a0 + 1))))) + 1)) 10 t101 _ A3.out).mono ?_); rintro e w5 ⟨rfl, hb⟩; refine ⟨_, rfl, ?_⟩; have n0_ := Aside0.mk (below_step (by repeat (first | (with_reducible first | exact HB.out | apply below_alloc | apply pw_below_drewN | apply below_drew1) | exact HB.out)) hb); clear HB; have HB := n0_; clear n0_; (try clear hb); (try clear hb2); (try clear hk); (try clear hi)))
      go_ret
      exact ⟨by first | rfl | (simp [errW_none, errW_some] <;> rfl) | (simp [*, errW_none, errW_some] <;> rfl), by repeat (first | (with_reducible first | exact HB.out | apply below_alloc | apply pw_below_drewN | apply below_drew1) | exact HB.out)⟩
    · rw [if_neg c4] at H
      exact absurd H (by simp)
  · rw [if_neg c2] at H
    have c2b0 : decide (a0 < 0) = false := decide_eq_false c2
    clear c2
    replace H := Option.bind_eq_some_iff.mp H
    obtain ⟨t102, A60, H⟩ := H
    replace H : (some t102) = some r := H
    have A6 := Aside0.mk A60
    clear A60
    obtain rfl := Option.some.inj H
    go_enter Tryd.func60, Tryd.ntmps60
    go_wp2_with (first | ((with_reducible refine gate_callee (f := 51) rfl ?_); refine goesL_ (some 14) rfl rfl Tryd.func51 (by kernel_rfl) rfl #[.int .u64 (IntKind.u64.wrap (a0)), .int .u64 10] rfl (by (try simp only [List.map_toArray, List.map_cons, List.map_nil]); first | done | rfl | (simp only [List.length_drop, List.length_take]; rfl)) ?_; (with_reducible refine (abutmentref02_Digits.calls (IntKind.u64.wrap (a0)) 10 t102 _ A6.out).mono ?_); rintro e w7 ⟨rfl, hb⟩; refine ⟨_, rfl, ?_⟩; have n0_ := Aside0.mk (below_step (by repeat (first | (with_reducible first | exact HB.out | apply below_alloc | apply pw_below_drewN | apply below_drew1) | exact HB.out)) hb); clear HB; have HB := n0_; clear n0_; (try clear hb); (try clear hb2); (try clear hk); (try clear hi)))
    go_ret
    exact ⟨by first | rfl | (simp [errW_none, errW_some] <;> rfl) | (simp [*, errW_none, errW_some] <;> rfl), by repeat (first | (with_reducible first | exact HB.out | apply below_alloc | apply pw_below_drewN | apply below_drew1) | exact HB.out)⟩

end Go.Proofs.YtdjmgmiaognncaaDoor.X
namespace Go.Proofs.YtdjmgmiaognncaaDoor.X
open Go.RowKit Go.Proofs.YtdjmgmiaognncaaDoorW.PrintWords Go.Proofs.YtdjmgmiaognncaaDoorW.PrintLast Go.Proofs.YtdjmgmiaognncaaDoorW.PrintMore
attribute [local go_sem] max2_int min2_int max_two min_two max_three min_three max_four min_four   -- for this text's walks alone
set_option linter.unusedVariables false
set_option linter.unusedSimpArgs false

/-! ### abutmentref11_Text: function 110 -/
def abutmentref11_Text.f (k : Nat) (a0 : ByteArray) (a1 : Int) : Option (ByteArray) := (abutmentref01_Lower.f k a0).bind fun t101 => (if a1 = 80 then (some t101) else (if t101.size + 1 ≤ 9223372036854775807 then ((abutmentref02_Text.f a1).bind fun t102 => (if (t101 ++ (⟨#[58]⟩ : ByteArray)).size + t102.size ≤ 9223372036854775807 then (some ((t101 ++ (⟨#[58]⟩ : ByteArray)) ++ t102)) else (none))) else (none)))
set_option maxHeartbeats 8000000 in
set_option maxRecDepth 100000 in
theorem abutmentref11_Text.calls (k : Nat) (a0 : ByteArray) (a1 : Int) (r : ByteArray) (w : World) (h : abutmentref11_Text.f k a0 a1 = some r) :
    Calls Tryd.prog 110 #[.string a0, .int .i64 a1] w fun e w' => e = .returned (.string r) ∧ Below w.heap.size w w' := by
  have HB := Aside0.mk (Below.refl w.heap.size w)
  have H : ((abutmentref01_Lower.f k a0).bind fun t101 => (if a1 = 80 then (some t101) else (if t101.size + 1 ≤ 9223372036854775807 then ((abutmentref02_Text.f a1).bind fun t102 => (if (t101 ++ (⟨#[58]⟩ : ByteArray)).size + t102.size ≤ 9223372036854775807 then (some ((t101 ++ (⟨#[58]⟩ : ByteArray)) ++ t102)) else (none))) else (none)))) = some r := h
  clear h
  replace H := Option.bind_eq_some_iff.mp H
  obtain ⟨t101, A30, H⟩ := H
  replace H : (if a1 = 80 then (some t101) else (if t101.size + 1 ≤ 9223372036854775807 then ((abutmentref02_Text.f a1).bind fun t102 => (if (t101 ++ (⟨#[58]⟩ : ByteArray)).size + t102.size ≤ 9223372036854775807 then (some ((t101 ++ (⟨#[58]⟩ : ByteArray)) ++ t102)) else (none))) else (none))) = some r := H
  have A3 := Aside0.mk A30
  clear A30
  by_cases c4 : a1 = 80
  · rw [if_pos c4] at H
    have c4b0 : (a1 == 80) = true := beq_iff_eq.mpr c4
    have c4b1 : (a1 != 80) = false := bne_eq_false_iff_eq.mpr c4
    clear c4
    obtain rfl := Option.some.inj H
    go_enter Tryd.func110, Tryd.ntmps110
    go_wp2_with (first | ((with_reducible refine gate_callee (f := 39) rfl ?_); refine goesL_ (some 7) rfl rfl Tryd.func39 (by kernel_rfl) rfl #[.string a0] rfl (by (try simp only [List.map_toArray, List.map_cons, List.map_nil]); first | done | rfl | (simp only [List.length_drop, List.length_take]; rfl)) ?_; (with_reducible refine (abutmentref01_Lower.calls k a0 t101 _ A3.out).mono ?_); rintro e w5 ⟨rfl, hb⟩; refine ⟨_, rfl, ?_⟩; have n0_ := Aside0.mk (below_step (by repeat (first | (with_reducible first | exact HB.out | apply below_alloc | apply pw_below_drewN | apply below_drew1) | exact HB.out)) hb); clear HB; have HB := n0_; clear n0_; (try clear hb); (try clear hb2); (try clear hk); (try clear hi)))
    go_ret
    exact ⟨by first | rfl | (simp [errW_none, errW_some] <;> rfl) | (simp [*, errW_none, errW_some] <;> rfl), by repeat (first | (with_reducible first | exact HB.out | apply below_alloc | apply pw_below_drewN | apply below_drew1) | exact HB.out)⟩
  · rw [if_neg c4] at H
    have c4b0 : (a1 == 80) = false := beq_eq_false_iff_ne.mpr c4
    have c4b1 : (a1 != 80) = true := bne_iff_ne.mpr c4
    by_cases c6 : t101.size + 1 ≤ 9223372036854775807
    · rw [if_pos c6] at H
      have c6b0 := eq_true c6
      have c6b1 : decide (t101.size + 1 ≤ 9223372036854775807) = true := decide_eq_true c6
      try have c6b2 : (9223372036854775807 < t101.size + 1) = False := eq_false (Nat.not_lt.2 c6)
      replace H := Option.bind_eq_some_iff.mp H
      obtain ⟨t102, A70, H⟩ := H
      replace H : (if (t101 ++ (⟨#[58]⟩ : ByteArray)).size + t102.size ≤ 9223372036854775807 then (some ((t101 ++ (⟨#[58]⟩ : ByteArray)) ++ t102)) else (none)) = some r := H
      have A7 := Aside0.mk A70
      clear A70
      by_cases c8 : (t101 ++ (⟨#[58]⟩ : ByteArray)).size + t102.size ≤ 9223372036854775807
      · rw [if_pos c8] at H
        have c8b0 := eq_true c8
        have c8b1 : decide ((t101 ++ (⟨#[58]⟩ : ByteArray)).size + t102.size ≤ 9223372036854775807) = true := decide_eq_true c8
        try have c8b2 : (9223372036854775807 < (t101 ++ (⟨#[58]⟩ : ByteArray)).size + t102.size) = False := eq_false (Nat.not_lt.2 c8)
        try have c8b3 : (9223372036854775807 < t101.size + 1 + t102.size) = False := eq_false (Nat.not_lt.2 (by have z_ := c8; rw [ByteArray.size_append] at z_; exact z_))
        obtain rfl := Option.some.inj H
        go_enter Tryd.func110, Tryd.ntmps110
        go_wp2_with (first | ((with_reducible refine gate_callee (f := 39) rfl ?_); refine goesL_ (some 7) rfl rfl Tryd.func39 (by kernel_rfl) rfl #[.string a0] rfl (by (try simp only [List.map_toArray, List.map_cons, List.map_nil]); first | done | rfl | (simp only [List.length_drop, List.length_take]; rfl)) ?_; (with_reducible refine (abutmentref01_Lower.calls k a0 t101 _ A3.out).mono ?_); rintro e w9 ⟨rfl, hb⟩; refine ⟨_, rfl, ?_⟩; have n0_ := Aside0.mk (below_step (by repeat (first | (with_reducible first | exact HB.out | apply below_alloc | apply pw_below_drewN | apply below_drew1) | exact HB.out)) hb); clear HB; have HB := n0_; clear n0_; (try clear hb); (try clear hb2); (try clear hk); (try clear hi)) | ((with_reducible refine gate_callee (f := 60) rfl ?_); refine goesL_ (some 13) rfl rfl Tryd.func60 (by kernel_rfl) rfl #[.int .i64 a1] rfl (by (try simp only [List.map_toArray, List.map_cons, List.map_nil]); first | done | rfl | (simp only [List.length_drop, List.length_take]; rfl)) ?_; (with_reducible refine (abutmentref02_Text.calls a1 t102 _ A7.out).mono ?_); rintro e w10 ⟨rfl, hb⟩; refine ⟨_, rfl, ?_⟩; have n0_ := Aside0.mk (below_step (by repeat (first | (with_reducible first | exact HB.out | apply below_alloc | apply pw_below_drewN | apply below_drew1) | exact HB.out)) hb); clear HB; have HB := n0_; clear n0_; (try clear hb); (try clear hb2); (try clear hk); (try clear hi)))
        go_ret
        exact ⟨by first | rfl | (simp [errW_none, errW_some] <;> rfl) | (simp [*, errW_none, errW_some] <;> rfl), by repeat (first | (with_reducible first | exact HB.out | apply below_alloc | apply pw_below_drewN | apply below_drew1) | exact HB.out)⟩
      · rw [if_neg c8] at H
        exact absurd H (by simp)
    · rw [if_neg c6] at H
      exact absurd H (by simp)

end Go.Proofs.YtdjmgmiaognncaaDoor.X
namespace Go.Proofs.YtdjmgmiaognncaaDoor.X
open Go.RowKit Go.Proofs.YtdjmgmiaognncaaDoorW.PrintWords Go.Proofs.YtdjmgmiaognncaaDoorW.PrintLast Go.Proofs.YtdjmgmiaognncaaDoorW.PrintMore
attribute [local go_sem] max2_int min2_int max_two min_two max_three min_three max_four min_four   -- for this text's walks alone
set_option linter.unusedVariables false
set_option linter.unusedSimpArgs false

/-! ### abutmentref11_Key: function 85 -/
def abutmentref11_Key.f (k : Nat) (a0 : ByteArray) : Option (ByteArray × Bool) := (abutmentref11_Parse.f k a0).bind fun bt101 => (if bt101.2.2 = 0 then ((abutmentref11_Text.f k bt101.1 bt101.2.1).bind fun t104 => (some (t104, true))) else (some ((⟨#[]⟩ : ByteArray), false)))
set_option maxHeartbeats 8000000 in
set_option maxRecDepth 100000 in
theorem abutmentref11_Key.calls (k : Nat) (a0 : ByteArray) (r1 : ByteArray) (r2 : Bool) (w : World) (h : abutmentref11_Key.f k a0 = some (r1, r2)) :
    Calls Tryd.prog 85 #[.string a0] w fun e w' => e = .returned (.tuple #[.string r1, .bool r2]) ∧ Below w.heap.size w w' := by
  have HB := Aside0.mk (Below.refl w.heap.size w)
  have H : ((abutmentref11_Parse.f k a0).bind fun bt101 => (if bt101.2.2 = 0 then ((abutmentref11_Text.f k bt101.1 bt101.2.1).bind fun t104 => (some (t104, true))) else (some ((⟨#[]⟩ : ByteArray), false)))) = some (r1, r2) := h
  clear h
  replace H := Option.bind_eq_some_iff.mp H
  obtain ⟨⟨t101, t102, t103⟩, A20, H⟩ := H
  replace H : (if t103 = 0 then ((abutmentref11_Text.f k t101 t102).bind fun t104 => (some (t104, true))) else (some ((⟨#[]⟩ : ByteArray), false))) = some (r1, r2) := H
  have A2 := Aside0.mk A20
  clear A20
  by_cases c3 : t103 = 0
  · rw [if_pos c3] at H
    have c3b0 : (t103 == 0) = true := beq_iff_eq.mpr c3
    have c3b1 : (t103 != 0) = false := bne_eq_false_iff_eq.mpr c3
    clear c3
    replace H := Option.bind_eq_some_iff.mp H
    obtain ⟨t104, A40, H⟩ := H
    replace H : (some (t104, true)) = some (r1, r2) := H
    have A4 := Aside0.mk A40
    clear A40
    simp only [Option.some.injEq, Prod.mk.injEq] at H
    obtain ⟨rfl, rfl⟩ := H
    go_enter Tryd.func85, Tryd.ntmps85
    go_wp2_with (first | ((with_reducible refine gate_callee (f := 38) rfl ?_); refine goesL_ (some 9) rfl rfl Tryd.func38 (by kernel_rfl) rfl #[.string a0] rfl (by (try simp only [List.map_toArray, List.map_cons, List.map_nil]); first | done | rfl | (simp only [List.length_drop, List.length_take]; rfl)) ?_; (with_reducible refine (abutmentref11_Parse.calls k a0 t101 t102 t103 _ A2.out).mono ?_); rintro e w' ⟨rfl, ⟨nd, rfl⟩⟩; refine ⟨_, rfl, ?_⟩) | ((with_reducible refine gate_callee (f := 110) rfl ?_); refine goesL_ (some 17) rfl rfl Tryd.func110 (by kernel_rfl) rfl #[.string t101, .int .i64 t102] rfl (by (try simp only [List.map_toArray, List.map_cons, List.map_nil]); first | done | rfl | (simp only [List.length_drop, List.length_take]; rfl)) ?_; (with_reducible refine (abutmentref11_Text.calls k t101 t102 t104 _ A4.out).mono ?_); rintro e w5 ⟨rfl, hb⟩; refine ⟨_, rfl, ?_⟩; have n0_ := Aside0.mk (below_step (by repeat (first | (with_reducible first | exact HB.out | apply below_alloc | apply pw_below_drewN | apply below_drew1) | exact HB.out)) hb); clear HB; have HB := n0_; clear n0_; (try clear hb); (try clear hb2); (try clear hk); (try clear hi)))
    go_ret2
    exact ⟨by first | rfl | (simp [errW_none, errW_some] <;> rfl) | (simp [*, errW_none, errW_some] <;> rfl), by repeat (first | (with_reducible first | exact HB.out | apply below_alloc | apply pw_below_drewN | apply below_drew1) | exact HB.out)⟩
  · rw [if_neg c3] at H
    have c3b0 : (t103 == 0) = false := beq_eq_false_iff_ne.mpr c3
    have c3b1 : (t103 != 0) = true := bne_iff_ne.mpr c3
    simp only [Option.some.injEq, Prod.mk.injEq] at H
    obtain ⟨rfl, rfl⟩ := H
    go_enter Tryd.func85, Tryd.ntmps85
    go_wp2_with (first | ((with_reducible refine gate_callee (f := 38) rfl ?_); refine goesL_ (some 9) rfl rfl Tryd.func38 (by kernel_rfl) rfl #[.string a0] rfl (by (try simp only [List.map_toArray, List.map_cons, List.map_nil]); first | done | rfl | (simp only [List.length_drop, List.length_take]; rfl)) ?_; (with_reducible refine (abutmentref11_Parse.calls k a0 t101 t102 t103 _ A2.out).mono ?_); rintro e w' ⟨rfl, ⟨nd, rfl⟩⟩; refine ⟨_, rfl, ?_⟩))
    go_ret2
    exact ⟨by first | rfl | (simp [errW_none, errW_some] <;> rfl) | (simp [*, errW_none, errW_some] <;> rfl), by repeat (first | (with_reducible first | exact HB.out | apply below_alloc | apply pw_below_drewN | apply below_drew1) | exact HB.out)⟩

end Go.Proofs.YtdjmgmiaognncaaDoor.X
namespace Go.Proofs.YtdjmgmiaognncaaDoor.X
open Go.RowKit Go.Proofs.YtdjmgmiaognncaaDoorW.PrintWords Go.Proofs.YtdjmgmiaognncaaDoorW.PrintLast Go.Proofs.YtdjmgmiaognncaaDoorW.PrintMore
attribute [local go_sem] max2_int min2_int max_two min_two max_three min_three max_four min_four   -- for this text's walks alone
set_option linter.unusedVariables false
set_option linter.unusedSimpArgs false

/-! ### pure text 45: digits -/
theorem text_fig (n : Int) (h0 : 0 ≤ n) (h1 : n ≤ 1073741824) : digits_Text.f n = some (figB n.toNat 10) := by
  unfold digits_Text.f
  rw [if_neg (by omega)]
  unfold digits_figures.f
  rw [if_pos (by omega)]
  rfl
theorem rdigL_len (b : Nat) : ∀ (f n : Nat) (acc : List UInt8), (rdigL b f n acc).length ≤ acc.length + f + 1
  | 0, n, acc => by simp [rdigL]
  | f + 1, n, acc => by
    simp only [rdigL]
    split
    · have := rdigL_len b f (n / b) (digB (n % b) :: acc)
      simp only [List.length_cons] at this
      omega
    · simp only [List.length_cons]; omega
theorem rdigB_size (n b : Nat) : (rdigB n b).size ≤ 65 := by
  have := rdigL_len b 64 n []
  unfold rdigB
  simp [ByteArray.size] at *
  omega
theorem text_rdig (n : Int) (h0 : 0 ≤ n) (h1 : n ≤ 1073741824) : abutmentref02_Text.f n = some (rdigB n.toNat 10) := by
  unfold abutmentref02_Text.f
  rw [if_neg (by omega), show IntKind.u64.wrap n = n from by simp [IntKind.wrap, IntKind.bits, IntKind.signed]; omega]
  unfold abutmentref02_Digits.f
  rw [if_pos (by omega)]
  rfl
theorem fig_rdigL (b : Nat) (hb : 2 ≤ b) : ∀ (f n : Nat) (acc : List UInt8), n < 2 ^ f → (n ≠ 0 ∨ (acc = [] ∧ f ≠ 0)) → figL b f n acc = rdigL b f n acc
  | 0, n, acc, hn, h => by
    simp at hn
    rcases h with h | h
    · exact absurd hn h
    · exact absurd rfl h.2
  | f + 1, n, acc, hn, h => by
    simp only [figL, rdigL]
    rw [if_pos (by rcases h with h | h; exact .inr h; exact .inl h.1)]
    by_cases hge : b ≤ n
    · rw [if_pos hge]
      have h1 : n / b < 2 ^ f := by
        rw [Nat.pow_succ] at hn
        exact Nat.div_lt_of_lt_mul (Nat.lt_of_lt_of_le hn (by rw [Nat.mul_comm]; exact Nat.mul_le_mul_right _ hb))
      have h2 : n / b ≠ 0 := by
        have := Nat.div_pos hge (by omega)
        omega
      exact fig_rdigL b hb f (n / b) _ h1 (.inl h2)
    · rw [if_neg hge, Nat.mod_eq_of_lt (by omega), Nat.div_eq_of_lt (by omega)]
      cases f with
      | zero => rfl
      | succ f => simp only [figL]; rw [if_neg (by simp)]
theorem fig_rdig (n b : Nat) (hb : 2 ≤ b) (hn : n < 2 ^ 64) : figB n b = rdigB n b := by
  unfold figB rdigB
  rw [fig_rdigL b hb 64 n [] hn (.inr ⟨rfl, by decide⟩)]


end Go.Proofs.YtdjmgmiaognncaaDoor.X
namespace Go.Proofs.YtdjmgmiaognncaaDoor.X
open Go.RowKit Go.Proofs.YtdjmgmiaognncaaDoorW.PrintWords Go.Proofs.YtdjmgmiaognncaaDoorW.PrintLast Go.Proofs.YtdjmgmiaognncaaDoorW.PrintMore
attribute [local go_sem] max2_int min2_int max_two min_two max_three min_three max_four min_four   -- for this text's walks alone
set_option linter.unusedVariables false
set_option linter.unusedSimpArgs false

/-! ### pure text 51: hostRef -/
theorem idx_split (c : UInt8) : ∀ l : List UInt8, (Lib.indexByte l c = -1 ∧ c ∉ l) ∨ ∃ u v, l = u ++ c :: v ∧ c ∉ u ∧ Lib.indexByte l c = (u.length : Int)
  | [] => .inl ⟨rfl, by simp⟩
  | b :: l => by
    unfold Lib.indexByte
    by_cases hb : (b == c) = true
    · rw [if_pos hb]
      exact .inr ⟨[], l, by rw [beq_iff_eq.1 hb]; rfl, by simp, rfl⟩
    · rw [if_neg hb]
      have hne : b ≠ c := fun h => hb (beq_iff_eq.2 h)
      rcases idx_split c l with ⟨h1, h2⟩ | ⟨u, v, h1, h2, h3⟩
      · rw [h1]
        exact .inl ⟨rfl, by simp [h2, Ne.symm hne]⟩
      · refine .inr ⟨b :: u, v, by rw [h1]; rfl, by simp [h2, Ne.symm hne], ?_⟩
        rw [h3, if_neg (fun hq => by rw [beq_iff_eq] at hq; omega)]
        simp
theorem last_split (s : ByteArray) : (Lib.lastIndexByte s 58 = -1 ∧ (58 : UInt8) ∉ s.data.toList) ∨ ∃ u v, s.data.toList = u ++ 58 :: v ∧ (58 : UInt8) ∉ v ∧ Lib.lastIndexByte s 58 = (u.length : Int) := by
  have hg : ∀ j (h : j < s.data.toList.length), ((s.data[j]!).toNat : Int) = 58 ↔ s.data.toList[j]'h = 58 := by
    intro j h
    have h2 : j < s.data.size := by simpa using h
    rw [getElem!_pos s.data j h2]
    rw [show s.data.toList[j]'h = s.data[j]'h2 from by simp]
    exact u8_eq _ 58
  rcases Lib.lastIndexByte_spec s 58 with ⟨h1, h2⟩ | ⟨i, h1, h2, h3, h4⟩
  · refine .inl ⟨h1, fun hm => ?_⟩
    obtain ⟨j, hj, he⟩ := List.getElem_of_mem hm
    exact h2 j (by rw [size_list]; exact hj) ((hg j hj).2 he)
  · have hi : i < s.data.toList.length := by rw [← size_list]; exact h1
    refine .inr ⟨s.data.toList.take i, s.data.toList.drop (i + 1), ?_, fun hm => ?_, ?_⟩
    · have h5 := List.drop_eq_getElem_cons hi
      rw [(hg i hi).1 h3] at h5
      rw [← h5, List.take_append_drop]
    · obtain ⟨j, hj, he⟩ := List.getElem_of_mem hm
      rw [List.getElem_drop] at he
      have hj2 : i + 1 + j < s.data.toList.length := by rw [List.length_drop] at hj; omega
      exact h4 (i + 1 + j) (by omega) (by rw [size_list]; exact hj2) ((hg _ hj2).2 he)
    · rw [h2, List.length_take]; omega
theorem cut_spec (s : ByteArray) (hs : s.size ≤ 140737488351232) : ∃ a b has, host_cut.f s = some (a, b, has) ∧ CutL s.data.toList a.data.toList b.data.toList has := by
  have hsl := size_list s
  unfold host_cut.f strings_LastIndexByte.f strings_IndexByte.f
  rw [if_pos hs]
  simp only [Option.bind_some]
  rw [show (93 : Int).toNat.toUInt8 = (93 : UInt8) from rfl]
  rcases last_split s with ⟨h1, h2⟩ | ⟨u, v, h1, h2, h3⟩
  · rw [h1]
    refine ⟨s, ⟨#[]⟩, false, ?_, .inr ⟨rfl, rfl, rfl, .inl h2⟩⟩
    by_cases h : (-1 : Int) < Lib.indexByte s.data.toList 93
    · rw [if_pos h]
    · rw [if_neg h, if_pos (by omega)]
  · rw [h3]
    have hul : u.length < s.data.toList.length := by rw [h1]; simp
    have hw : wrap64 ((u.length : Int) + 1) = ((u.length + 1 : Nat) : Int) := by rw [wrap_id _ (by omega) (by omega)]; omega
    have hcut : (if (u.length : Int) < 0 then some (s, (⟨#[]⟩ : ByteArray), false) else if 0 ≤ (u.length : Int) then if (u.length : Int) ≤ (s.size : Int) then if 0 ≤ wrap64 ((u.length : Int) + 1) then if wrap64 ((u.length : Int) + 1) ≤ (s.size : Int) then some (s.extract 0 (u.length : Int).toNat, s.extract (wrap64 ((u.length : Int) + 1)).toNat s.size, true) else none else none else none else none) = some (s.extract 0 u.length, s.extract (u.length + 1) s.size, true) := by
      rw [hw, if_neg (by omega), if_pos (by omega), if_pos (by omega), if_pos (by omega), if_pos (by omega)]
      rfl
    have ha : (s.extract 0 u.length).data.toList = u := by rw [Lib.extract_data, h1]; simp
    have hb : (s.extract (u.length + 1) s.size).data.toList = v := by
      rw [Lib.extract_data, List.take_of_length_le (by rw [List.length_drop]; omega), h1]
      simp
    rcases idx_split 93 s.data.toList with ⟨h4, h5⟩ | ⟨u', v', h4, h5, h6⟩
    · rw [h4, if_neg (by omega), hcut]
      refine ⟨_, _, _, rfl, .inl ⟨rfl, ?_, ?_, .inr ?_⟩⟩
      · rw [ha, hb]; exact h1
      · rw [hb]; exact h2
      · rw [hb]; rw [h1] at h5; intro hm; exact h5 (by simp [hm])
    · rw [h6]
      by_cases hlt : (u.length : Int) < (u'.length : Int)
      · rw [if_pos hlt]
        refine ⟨_, _, _, rfl, .inr ⟨rfl, rfl, rfl, .inr ⟨u', v', h4, h5, fun hm => h2 ?_⟩⟩⟩
        have e : v' = v.drop (u'.length - u.length) := by
          have e1 : s.data.toList.drop (u'.length + 1) = v' := by rw [h4]; simp
          have e2 : s.data.toList.drop (u.length + 1) = v := by rw [h1]; simp
          rw [← e1, ← e2, List.drop_drop]
          congr 1
          omega
        rw [e] at hm
        exact List.mem_of_mem_drop hm
      · rw [if_neg hlt, hcut]
        refine ⟨_, _, _, rfl, .inl ⟨rfl, ?_, ?_, .inl ?_⟩⟩
        · rw [ha, hb]; exact h1
        · rw [hb]; exact h2
        · rw [ha]
          have e1 : s.data.toList[u'.length]? = some 93 := by rw [h4]; simp
          rw [h1] at e1
          rcases Nat.lt_or_ge u'.length u.length with h7 | h7
          · rw [List.getElem?_append_left h7] at e1
            exact List.mem_of_getElem? e1
          · have : u'.length = u.length := by omega
            rw [this, List.getElem?_append_right (Nat.le_refl _)] at e1
            simp at e1
/-- The number behind a colon. -/
def portG (l : List UInt8) : Int × Int := numberB ⟨l.toArray⟩ 10 65535
theorem portG_bad (l : List UInt8) (h : (58 : UInt8) ∈ l ∨ (93 : UInt8) ∈ l) : portG l = (0, 3) := by
  unfold portG
  rw [numberB_spec _ 10 65535 (by omega) (by omega)]
  have hne : l ≠ [] := by rintro rfl; simp at h
  have hall : ¬ l.all (dOk 10) = true := by
    intro ha
    rcases h with h | h
    · have := List.all_eq_true.1 ha _ h; revert this; decide
    · have := List.all_eq_true.1 ha _ h; revert this; decide
  rw [show (⟨l.toArray⟩ : ByteArray).data.toList = l from by simp, if_neg hne, if_neg hall]
theorem portG_range (l : List UInt8) : 0 ≤ (portG l).1 ∧ (portG l).1 ≤ 65535 := by
  unfold portG
  rw [numberB_spec _ 10 65535 (by omega) (by omega)]
  split
  · exact ⟨by decide, by decide⟩
  · split
    · rename_i ha
      split
      · rename_i hv
        exact ⟨valL_ge 10 (by omega) _ 0 ha (by omega), hv⟩
      · exact ⟨by decide, by decide⟩
    · exact ⟨by decide, by decide⟩
def parseB (s : ByteArray) : ByteArray × Int × Int := (⟨(parseL portG s.data.toList).1.toArray⟩, (parseL portG s.data.toList).2.1, (parseL portG s.data.toList).2.2)
theorem dec_f (s : ByteArray) : digits_Dec.f s 65535 = some (portG s.data.toList) := by
  unfold digits_Dec.f digits_number.f portG
  rw [if_pos (by omega), mk_eta]
  rfl
theorem regL_iff (s : ByteArray) : registeredB s = true ↔ regL s.data.toList := by
  rw [registered_list, Bool.and_eq_true]
  unfold regL
  constructor
  · rintro ⟨h1, h2⟩
    exact ⟨(by intro h; rw [h] at h1; cases h1), h2⟩
  · rintro ⟨h1, h2⟩
    refine ⟨?_, h2⟩
    cases h : s.data.toList with
    | nil => exact absurd h h1
    | cons _ _ => rfl
theorem host_parse (s : ByteArray) (hs : s.size ≤ 140737488351232) (k : Nat) (hk : 2 < k) : host_Parse.f k s = some (parseB s) := by
  obtain ⟨k, rfl⟩ : ∃ m, k = m + 1 := ⟨k - 1, by omega⟩
  unfold host_Parse.f
  rw [Lib.toList_data]
  by_cases he : s.data.toList = []
  · rw [if_pos he]
    unfold parseB parseL
    rw [if_pos he]
  · rw [if_neg he]
    obtain ⟨a, b, has, hcut, hC⟩ := cut_spec s hs
    have hal : a.size ≤ 140737488351232 := by
      rw [size_list] at hs ⊢
      rcases hC with ⟨_, h, _⟩ | ⟨_, h, _⟩
      · rw [h] at hs; simp only [List.length_append] at hs; omega
      · rw [h]; exact hs
    obtain ⟨P1, P2⟩ := prog_parse portG portG_bad s.data.toList a.data.toList b.data.toList has he hC
    rw [hcut]
    simp only [Option.bind_some]
    unfold host_registered.f host_literal.f
    simp only [Option.bind_some]
    rw [if_pos hal]
    simp only [Option.bind_some]
    have hj : ∀ bad : Bool, host_Parse.j0 (k + 1) a b has bad = if bad = true then some ((⟨#[]⟩ : ByteArray), 0, 3) else some ((⟨(if has = false then (a.data.toList, (80 : Int), (0 : Int)) else portL a.data.toList (portG b.data.toList)).1.toArray⟩ : ByteArray), (if has = false then (a.data.toList, (80 : Int), (0 : Int)) else portL a.data.toList (portG b.data.toList)).2.1, (if has = false then (a.data.toList, (80 : Int), (0 : Int)) else portL a.data.toList (portG b.data.toList)).2.2) := by
      intro bad
      simp only [host_Parse.j0]
      cases bad with
      | true => rfl
      | false =>
        cases has with
        | false =>
          show some (a, (80 : Int), (0 : Int)) = some ((⟨a.data.toList.toArray⟩ : ByteArray), (80 : Int), (0 : Int))
          rw [mk_eta]
        | true =>
          show ((digits_Dec.f b 65535).bind fun bt106 => (if bt106.2 = 0 then (some (a, bt106.1, bt106.2)) else (if bt106.2 = 5 then (some ((⟨#[]⟩ : ByteArray), 0, bt106.2)) else (some ((⟨#[]⟩ : ByteArray), 0, 3))))) = some ((⟨(portL a.data.toList (portG b.data.toList)).1.toArray⟩ : ByteArray), (portL a.data.toList (portG b.data.toList)).2.1, (portL a.data.toList (portG b.data.toList)).2.2)
          rw [dec_f]
          simp only [Option.bind_some]
          unfold portL
          by_cases h0 : (portG b.data.toList).2 = 0
          · rw [if_pos h0, if_neg (by omega), if_pos h0, h0, mk_eta]
          · rw [if_neg h0]
            by_cases h5 : (portG b.data.toList).2 = 5
            · rw [if_pos h5, if_pos h5, h5]
            · rw [if_neg h5, if_neg h5, if_neg h0]
    have hreg := regL_iff a
    have hlit := literal_list a
    by_cases hr : registeredB a = true
    · rw [if_pos hr, hj false, if_neg (by simp)]
      unfold parseB
      rw [P2 (.inl (hreg.1 hr))]
    · rw [if_neg hr]
      cases hl : literalB a with
      | true =>
        rw [hj (!true), if_neg (by simp)]
        unfold parseB
        rw [P2 (.inr (hlit.1 hl))]
      | false =>
        rw [hj (!false), if_pos (show (!false) = true from rfl)]
        unfold parseB
        rw [P1 ⟨fun h => hr (hreg.2 h), fun h => by rw [hlit.2 h] at hl; cases hl⟩]
theorem refhex_f (c : UInt8) (k : Nat) (hk : 2 < k) : abutmentref11_hex.f k (c.toNat : Int) = some (hexR c.toNat) := by
  unfold abutmentref11_hex.f
  rw [value_f c k hk]
  simp only [Option.bind_some]
  have h : ∀ n : Fin 256, decide (valR n.val.toUInt8 < 16) = hexR n.val := by decide +kernel
  have h2 := h ⟨c.toNat, c.toNat_lt⟩
  simp only [] at h2
  rw [show c.toNat.toUInt8 = c from by simp] at h2
  rw [h2]
theorem takeWhile_stop {α : Type} (p : α → Bool) (u v : List α) (hu : u.all p = true) (hv : ∀ c r, v = c :: r → p c = false) : (u ++ v).takeWhile p = u := by
  induction u with
  | nil =>
    cases v with
    | nil => rfl
    | cons c r => rw [List.nil_append, List.takeWhile_cons, hv c r rfl]; rfl
  | cons c u ih =>
    rw [List.all_cons, Bool.and_eq_true] at hu
    rw [List.cons_append, List.takeWhile_cons, if_pos hu.1, ih hu.2]
theorem refname_l0 (a : UInt8) (r : List UInt8) (hr : r.length ≤ 140737488351000) : ∀ (d i k : Nat), r.length - i = d → i ≤ r.length → d + 4 < k → (r.take i).all litp = true →
    abutmentref11_Name.l0 k ⟨(a :: r).toArray⟩ ((i : Int) + 1) = some ((litN r : Nat) : Int) := by
  intro d
  induction d with
  | zero =>
    intro i k hd hi hk hall
    obtain ⟨k, rfl⟩ : ∃ m, k = m + 1 := ⟨k - 1, by omega⟩
    have hil : i = r.length := by omega
    subst hil
    rw [List.take_length] at hall
    simp only [abutmentref11_Name.l0]
    have htw : r.takeWhile litp = r := by have := takeWhile_stop litp r [] hall (by simp); simpa using this
    have hN : litN r = 0 := by unfold litN; rw [htw, if_pos (.inr (by simp))]
    rw [if_neg (by rw [size_mk, List.length_cons]; omega), hN]
    by_cases h1 : (r.length : Int) + 1 = 1
    · rw [if_pos h1]; rfl
    · rw [if_neg h1, if_pos (by rw [size_mk, List.length_cons]; omega)]; rfl
  | succ d ih =>
    intro i k hd hi hk hall
    obtain ⟨k, rfl⟩ : ∃ m, k = m + 1 := ⟨k - 1, by omega⟩
    have hlt : i < r.length := by omega
    have hb := bt_mk (a :: r) (i + 1) (by simp; omega)
    rw [show ((i + 1 : Nat) : Int) = (i : Int) + 1 from by omega, List.getElem_cons_succ] at hb
    have hw : wrap64 ((i : Int) + 1 + 1) = ((i + 1 : Nat) : Int) + 1 := by rw [wrap_id _ (by omega) (by omega)]; omega
    simp only [abutmentref11_Name.l0]
    rw [if_pos (by rw [size_mk, List.length_cons]; omega), if_pos (by omega), hb, refhex_f _ k (by omega), hw]
    simp only [Option.bind_some]
    generalize hc : r[i]'hlt = c
    have h58 : ((c.toNat : Int) = 58) ↔ c = 58 := u8_eq c 58
    have h46 : ((c.toNat : Int) = 46) ↔ c = 46 := u8_eq c 46
    have h93 : ((c.toNat : Int) = 93) ↔ c = 93 := u8_eq c 93
    have hp : litp c = (hexR c.toNat || (decide ((c.toNat : Int) = 58) || decide ((c.toNat : Int) = 46))) := by
      unfold litp litR
      congr 1
      congr 1 <;> (rw [Bool.eq_iff_iff, beq_iff_eq, decide_eq_true_iff]; omega)
    have hnext : litp c = true → abutmentref11_Name.l0 k ⟨(a :: r).toArray⟩ (((i + 1 : Nat) : Int) + 1) = some ((litN r : Nat) : Int) := fun hl =>
      ih (i + 1) k (by omega) (by omega) (by omega) (by rw [← List.take_append_getElem hlt, List.all_append, hall, hc]; simp [hl])
    by_cases hx : hexR c.toNat = true
    · rw [if_pos hx]
      exact hnext (by rw [hp, hx]; rfl)
    · rw [if_neg hx]
      by_cases h5 : (c.toNat : Int) = 58
      · rw [if_pos h5]
        exact hnext (by rw [hp, decide_eq_true h5]; simp)
      · rw [if_neg h5]
        by_cases h4 : (c.toNat : Int) = 46
        · rw [if_pos h4]
          exact hnext (by rw [hp, decide_eq_true h4]; simp)
        · rw [if_neg h4]
          have hnl : litp c = false := by rw [hp, decide_eq_false h5, decide_eq_false h4]; simpa using hx
          have htw : r.takeWhile litp = r.take i := by
            have := takeWhile_stop litp (r.take i) (r.drop i) hall (fun c' r' h => by
              rw [List.drop_eq_getElem_cons hlt, hc] at h
              simp at h
              rw [← h.1]; exact hnl)
            rwa [List.take_append_drop] at this
          have hlen : (r.take i).length = i := by rw [List.length_take]; omega
          by_cases h1 : (i : Int) + 1 = 1
          · rw [if_pos h1]
            unfold litN
            rw [htw, hlen, if_pos (.inl (by omega))]
            rfl
          · rw [if_neg h1, if_neg (by rw [size_mk, List.length_cons]; omega)]
            unfold litN
            rw [htw, hlen, List.getElem?_eq_getElem hlt, hc]
            by_cases h9 : (c.toNat : Int) = 93
            · rw [if_pos h9, if_neg (by rw [h93.1 h9]; simp; omega)]
              rw [show ((i + 1 : Nat) : Int) + 1 = ((i + 2 : Nat) : Int) from by omega]
            · rw [if_neg h9, if_pos (.inr (by simp; exact fun h => h9 (h93.2 h)))]
              rfl
def alnumB (c : UInt8) : Bool := (48 ≤ c.toNat && c.toNat ≤ 57) || ((65 ≤ c.toNat && c.toNat ≤ 90) || (97 ≤ c.toNat && c.toNat ≤ 122))
theorem alnum_nest {α : Type} (p48 p57 p65 p90 p97 : Prop) [Decidable p48] [Decidable p57] [Decidable p65] [Decidable p90] [Decidable p97] (d : Bool) (F : Bool → α) :
    (if p48 then (if p57 then F true else (if p65 then (if p90 then F true else (if p97 then F d else F false)) else (if p97 then F d else F false))) else (if p65 then (if p90 then F true else (if p97 then F d else F false)) else (if p97 then F d else F false))) = F ((decide p48 && decide p57) || ((decide p65 && decide p90) || (decide p97 && d))) := by
  by_cases h1 : p48 <;> by_cases h2 : p57 <;> by_cases h3 : p65 <;> by_cases h4 : p90 <;> by_cases h5 : p97 <;> simp [h1, h2, h3, h4, h5]
theorem alnum_ite {α : Type} (c : UInt8) (F : Bool → α) :
    (if (c.toNat : Int) ≥ 48 then (if (c.toNat : Int) ≤ 57 then F true else (if (c.toNat : Int) ≥ 65 then (if (c.toNat : Int) ≤ 90 then F true else (if (c.toNat : Int) ≥ 97 then F (decide ((c.toNat : Int) ≤ 122)) else F false)) else (if (c.toNat : Int) ≥ 97 then F (decide ((c.toNat : Int) ≤ 122)) else F false))) else (if (c.toNat : Int) ≥ 65 then (if (c.toNat : Int) ≤ 90 then F true else (if (c.toNat : Int) ≥ 97 then F (decide ((c.toNat : Int) ≤ 122)) else F false)) else (if (c.toNat : Int) ≥ 97 then F (decide ((c.toNat : Int) ≤ 122)) else F false))) = F (alnumB c) := by
  rw [alnum_nest]
  congr 1
  unfold alnumB
  have e : ∀ (a b : Prop) [Decidable a] [Decidable b], (a ↔ b) → decide a = decide b := fun a b _ _ h => by simp [h]
  rw [e ((c.toNat : Int) ≥ 48) (48 ≤ c.toNat) (by omega), e ((c.toNat : Int) ≤ 57) (c.toNat ≤ 57) (by omega), e ((c.toNat : Int) ≥ 65) (65 ≤ c.toNat) (by omega), e ((c.toNat : Int) ≤ 90) (c.toNat ≤ 90) (by omega), e ((c.toNat : Int) ≥ 97) (97 ≤ c.toNat) (by omega), e ((c.toNat : Int) ≤ 122) (c.toNat ≤ 122) (by omega)]
theorem plain_split (c : UInt8) : plainR c.toNat = (alnumB c || signsL.contains c) := by
  have h : ∀ n : Fin 256, plainR n.val = (alnumB n.val.toUInt8 || signsL.contains n.val.toUInt8) := by decide +kernel
  have h2 := h ⟨c.toNat, c.toNat_lt⟩
  simp only [] at h2
  rw [show c.toNat.toUInt8 = c from by simp] at h2
  exact h2
theorem refname_l2 (s : ByteArray) (i : Int) (c : UInt8) (k : Nat) : ∀ (d j : Nat) (b : Bool), 15 - j = d → j ≤ 15 →
    abutmentref11_Name.l2 (k + d + 1) s i (c.toNat : Int) b (⟨#[45, 46, 95, 126, 33, 36, 38, 39, 40, 41, 42, 43, 44, 59, 61]⟩ : ByteArray) (j : Int) = if (b || (signsL.drop j).contains c) = true then abutmentref11_Name.l1 k s (wrap64 (i + 1)) else some i := by
  intro d
  induction d with
  | zero =>
    intro j b hd hj
    obtain rfl : j = 15 := by omega
    simp only [abutmentref11_Name.l2]
    rw [if_neg (by decide)]
    rw [show (signsL.drop 15).contains c = false from rfl, Bool.or_false]
  | succ d ih =>
    intro j b hd hj
    have hlt : j < 15 := by omega
    have hw : wrap64 ((j : Int) + 1) = ((j + 1 : Nat) : Int) := by rw [wrap_id _ (by omega) (by omega)]; omega
    have hbt := bt_list (⟨#[45, 46, 95, 126, 33, 36, 38, 39, 40, 41, 42, 43, 44, 59, 61]⟩ : ByteArray) j hlt
    have hd2 : signsL.drop j = signsL[j]'hlt :: signsL.drop (j + 1) := List.drop_eq_getElem_cons hlt
    rw [show k + (d + 1) + 1 = (k + d + 1) + 1 from by omega]
    obtain ⟨m, hm⟩ : ∃ m, m = k + d + 1 := ⟨_, rfl⟩
    rw [← hm] at ih ⊢
    simp only [abutmentref11_Name.l2]
    rw [if_pos (show (j : Int) < ((⟨#[45, 46, 95, 126, 33, 36, 38, 39, 40, 41, 42, 43, 44, 59, 61]⟩ : ByteArray).size : Int) from by show (j : Int) < 15; omega), hw]
    cases b with
    | true =>
      rw [if_pos rfl, ih (j + 1) true (by omega) (by omega)]
      rfl
    | false =>
      rw [if_neg (by simp), if_pos (by omega), ih (j + 1) _ (by omega) (by omega), hbt, hd2]
      have e : ((((signsL[j]'hlt).toNat : Int)) == (c.toNat : Int)) = (c == signsL[j]'hlt) := by
        rw [Bool.eq_iff_iff, beq_iff_eq, beq_iff_eq]
        exact ⟨fun h => ((u8_eq _ _).1 h).symm, fun h => by rw [h]⟩
      rw [show (((⟨#[45, 46, 95, 126, 33, 36, 38, 39, 40, 41, 42, 43, 44, 59, 61]⟩ : ByteArray).data.toList[j]'hlt).toNat : Int) = ((signsL[j]'hlt).toNat : Int) from rfl, e, List.contains_cons, Bool.false_or]
def spanN (l : List UInt8) : Nat := (spanA l 0).getD 0
theorem spanA_hex (c : UInt8) (l : List UInt8) (left : Nat) (h : 0 < left) : spanA (c :: l) left = if hexR c.toNat = true then (spanA l (left - 1)).map (· + 1) else none := by
  simp only [spanA]
  rw [if_pos h]
theorem refname_l1 (l : List UInt8) (hl : l.length ≤ 140737488351000) : ∀ (d i k : Nat), l.length - i ≤ d → i ≤ l.length → 18 * d + 30 < k →
    abutmentref11_Name.l1 k ⟨l.toArray⟩ (i : Int) = some (match spanA (l.drop i) 0 with | some n => ((i + n : Nat) : Int) | none => 0) := by
  intro d
  induction d with
  | zero =>
    intro i k hd hi hk
    obtain ⟨k, rfl⟩ : ∃ m, k = m + 1 := ⟨k - 1, by omega⟩
    have hil : i = l.length := by omega
    simp only [abutmentref11_Name.l1]
    rw [if_neg (by rw [size_mk]; omega), hil, List.drop_length]
    rfl
  | succ d ih =>
    intro i k hd hi hk
    by_cases hlt : i < l.length
    · obtain ⟨k, rfl⟩ : ∃ m, k = m + 18 := ⟨k - 18, by omega⟩
      have hb := bt_mk l i hlt
      have hdrop := List.drop_eq_getElem_cons hlt
      obtain ⟨m, hm⟩ : ∃ m, m = k + 17 := ⟨_, rfl⟩
      rw [show k + 18 = m + 1 from by omega]
      simp only [abutmentref11_Name.l1]
      subst hm
      rw [if_pos (by rw [size_mk]; omega), if_pos (by omega), hb, hdrop]
      generalize hc : l[i]'hlt = c
      have h37 : ((c.toNat : Int) = 37) ↔ c.toNat = 37 := by omega
      have hw1 : wrap64 ((i : Int) + 1) = ((i + 1 : Nat) : Int) := by rw [wrap_id _ (by omega) (by omega)]; omega
      have hw2 : wrap64 ((i : Int) + 2) = ((i + 2 : Nat) : Int) := by rw [wrap_id _ (by omega) (by omega)]; omega
      have hw3 : wrap64 ((i : Int) + 3) = ((i + 3 : Nat) : Int) := by rw [wrap_id _ (by omega) (by omega)]; omega
      rw [hw1, hw2, hw3]
      by_cases hc37 : c.toNat = 37
      · rw [if_pos (h37.2 hc37)]
        have hsp : spanA (c :: l.drop (i + 1)) 0 = (spanA (l.drop (i + 1)) 2).map (· + 1) := by
          simp only [spanA]
          rw [if_neg (by omega), if_pos hc37]
        rw [hsp]
        by_cases h2 : i + 2 < l.length
        · have hd1 := List.drop_eq_getElem_cons (l := l) (i := i + 1) (by omega)
          have hd2 := List.drop_eq_getElem_cons (l := l) (i := i + 2) (by omega)
          have hb1 := bt_mk l (i + 1) (by omega)
          have hb2 := bt_mk l (i + 2) (by omega)
          rw [if_neg (by rw [size_mk]; omega), if_pos (by omega), if_pos (by rw [size_mk]; omega), hb1, refhex_f _ _ (by omega), hd1]
          simp only [Option.bind_some]
          generalize l[i + 1]'(by omega) = a1 at *
          rw [spanA_hex a1 _ 2 (by omega)]
          by_cases hx1 : hexR a1.toNat = true
          · rw [if_pos hx1, if_pos hx1, if_pos (by omega), if_pos (by rw [size_mk]; omega), hb2, refhex_f _ _ (by omega), show l.drop (i + 1 + 1) = l.drop (i + 2) from rfl, hd2]
            simp only [Option.bind_some]
            generalize l[i + 2]'(by omega) = a2 at *
            rw [spanA_hex a2 _ (2 - 1) (by omega)]
            by_cases hx2 : hexR a2.toNat = true
            · rw [if_pos hx2, if_pos hx2, ih (i + 3) _ (by omega) (by omega) (by omega)]
              rw [show l.drop (i + 2 + 1) = l.drop (i + 3) from rfl, show 2 - 1 - 1 = 0 from rfl]
              cases spanA (l.drop (i + 3)) 0 with
              | none => rfl
              | some n => simp only [Option.map_some]; rw [show i + (n + 1 + 1 + 1) = i + 3 + n from by omega]
            · rw [if_neg hx2, if_neg hx2]
              rfl
          · rw [if_neg hx1, if_neg hx1]
            rfl
        · rw [if_pos (by rw [size_mk]; omega)]
          have hnone : spanA (l.drop (i + 1)) 2 = none := by
            have hlen : (l.drop (i + 1)).length ≤ 1 := by rw [List.length_drop]; omega
            match hm : l.drop (i + 1), hlen with
            | [], _ => rfl
            | [x], _ =>
              rw [spanA_hex x _ 2 (by omega)]
              by_cases hx : hexR x.toNat = true
              · rw [if_pos hx]; rfl
              · rw [if_neg hx]
            | _ :: _ :: _, h => simp at h
          rw [hnone]
          rfl
      · rw [if_neg (fun h => hc37 (h37.1 h))]
        have hsp : spanA (c :: l.drop (i + 1)) 0 = if plainR c.toNat = true then (spanA (l.drop (i + 1)) 0).map (· + 1) else some 0 := by
          simp only [spanA]
          rw [if_neg (by omega), if_neg hc37]
        have hj3 : abutmentref11_Name.j3 (k + 17) ⟨l.toArray⟩ (i : Int) (c.toNat : Int) (alnumB c) = some (match spanA (c :: l.drop (i + 1)) 0 with | some n => ((i + n : Nat) : Int) | none => 0) := by
          simp only [abutmentref11_Name.j3]
          have := refname_l2 ⟨l.toArray⟩ (i : Int) c k 15 0 (alnumB c) rfl (by omega)
          rw [show ((0 : Nat) : Int) = 0 from rfl, List.drop_zero, ← plain_split] at this
          rw [this, hsp, hw1]
          by_cases hp : plainR c.toNat = true
          · rw [if_pos hp, if_pos hp, ih (i + 1) k (by omega) (by omega) (by omega)]
            cases spanA (l.drop (i + 1)) 0 with
            | none => rfl
            | some n => simp only [Option.map_some]; rw [show i + (n + 1) = i + 1 + n from by omega]
          · rw [if_neg hp, if_neg hp]
            simp
        exact (alnum_ite c (fun b => abutmentref11_Name.j3 (k + 17) ⟨l.toArray⟩ (i : Int) (c.toNat : Int) b)).trans hj3
    · exact ih i k (by omega) hi (by omega)
theorem nameN_cons (c : UInt8) (r : List UInt8) : nameN (c :: r) = if c = 91 then litN r else (spanA (c :: r) 0).getD 0 := rfl
theorem ref_name (s : ByteArray) (hs : s.size ≤ 140737488351000) (k : Nat) (hk : 18 * s.size + 40 < k) : abutmentref11_Name.f k s = some ((nameN s.data.toList : Nat) : Int) := by
  obtain ⟨k, rfl⟩ : ∃ m, k = m + 1 := ⟨k - 1, by omega⟩
  rw [size_list] at hs hk
  conv => lhs; rw [← mk_eta s]
  generalize s.data.toList = l at hs hk ⊢
  unfold abutmentref11_Name.f
  have h1 : abutmentref11_Name.l1 k ⟨l.toArray⟩ 0 = some (((spanA l 0).getD 0 : Nat) : Int) := by
    have := refname_l1 l hs l.length 0 k (by omega) (by omega) (by omega)
    rw [show ((0 : Nat) : Int) = 0 from rfl, List.drop_zero] at this
    rw [this]
    cases spanA l 0 with
    | none => rfl
    | some n => simp
  cases l with
  | nil =>
    rw [if_neg (by rw [size_mk]; simp)]
    simp only [abutmentref11_Name.j0]
    rw [if_neg (by simp), h1]
    rfl
  | cons a r =>
    have hb := bt_mk (a :: r) 0 (by simp)
    rw [show ((0 : Nat) : Int) = 0 from rfl] at hb
    rw [if_pos (by rw [size_mk]; simp), if_pos (by rw [size_mk]; simp), hb]
    simp only [abutmentref11_Name.j0, List.getElem_cons_zero]
    have h91 : ((a.toNat : Int) = 91) ↔ a = 91 := u8_eq a 91
    rw [nameN_cons]
    by_cases ha : a = 91
    · rw [if_pos (by rw [beq_iff_eq]; exact h91.2 ha), if_pos ha]
      simp at hs hk
      have := refname_l0 a r (by omega) r.length 0 k (by omega) (by omega) (by omega) (by rfl)
      exact this
    · rw [if_neg (by rw [beq_iff_eq]; exact fun h => ha (h91.1 h)), if_neg ha, h1]
theorem nameN_le (l : List UInt8) : nameN l ≤ l.length := by
  cases l with
  | nil => exact Nat.le_refl _
  | cons a r =>
    rw [nameN_cons]
    by_cases ha : a = 91
    · rw [if_pos ha]
      unfold litN
      by_cases h : (r.takeWhile litp).length = 0 ∨ r[(r.takeWhile litp).length]? ≠ some 93
      · rw [if_pos h]; omega
      · rw [if_neg h]
        have h2 : r[(r.takeWhile litp).length]? = some 93 := Classical.byContradiction fun q => h (.inr q)
        obtain ⟨h3, _⟩ := List.getElem?_eq_some_iff.1 h2
        rw [List.length_cons]; omega
    · rw [if_neg ha]
      cases hS : spanA (a :: r) 0 with
      | none => simp
      | some n => exact (spanA_some _ _ _ hS).1
theorem ref_parse (s : ByteArray) (hs : s.size ≤ 1000000) (k : Nat) (hk : 18 * s.size + 100 < k) : abutmentref11_Parse.f k s = some (parseB s) := by
  have hsl := size_list s
  unfold abutmentref11_Parse.f parseB parseL
  rw [Lib.toList_data]
  by_cases he : s.data.toList = []
  · rw [if_pos he, if_pos he]
  · rw [if_neg he, if_neg he, ref_name s (by omega) k (by omega)]
    simp only [Option.bind_some]
    have hle := nameN_le s.data.toList
    generalize nameN s.data.toList = n at hle
    by_cases h0 : n = 0
    · rw [if_pos (by omega), if_pos h0]
    · rw [if_neg (by omega), if_neg h0]
      by_cases hn : n = s.data.toList.length
      · rw [if_pos (by omega), if_pos hn, mk_eta]
      · have hlt : n < s.data.toList.length := by omega
        have h58 : (((s.data.toList[n]'hlt).toNat : Int) = 58) ↔ s.data.toList[n]'hlt = 58 := u8_eq _ 58
        rw [if_neg (by omega), if_neg hn, if_pos (by omega), if_pos (by omega), bt_list s n hlt, List.getElem?_eq_getElem hlt]
        by_cases hc : s.data.toList[n]'hlt = 58
        · have hw : wrap64 ((n : Int) + 1) = ((n + 1 : Nat) : Int) := by rw [wrap_id _ (by omega) (by omega)]; omega
          have hex : (s.extract (n + 1) s.size) = ⟨(s.data.toList.drop (n + 1)).toArray⟩ := by
            rw [ext_list, List.take_of_length_le (by rw [List.length_drop]; omega)]
          rw [if_pos (h58.2 hc), hw, if_pos (by omega), if_pos (by omega), if_neg (by rw [hc]; simp), Int.toNat_natCast, hex, ref_numberM 65535 (by omega) (by omega) _ (by rw [size_mk, List.length_drop]; omega) k (by rw [size_mk, List.length_drop]; omega)]
          simp only [Option.bind_some]
          rw [show numberB ⟨(s.data.toList.drop (n + 1)).toArray⟩ 10 65535 = portG (s.data.toList.drop (n + 1)) from rfl]
          generalize portG (s.data.toList.drop (n + 1)) = p
          unfold portL
          by_cases h5 : p.2 = 5
          · rw [if_pos h5, if_pos h5, h5]
          · rw [if_neg h5, if_neg h5]
            by_cases h00 : p.2 = 0
            · rw [if_pos h00, if_pos h00, if_pos (by omega), Int.toNat_natCast, ext_list]
              simp
            · rw [if_neg h00, if_neg h00]
        · rw [if_neg (fun h => hc (h58.1 h)), if_pos (fun h => hc (Option.some.inj h))]
theorem parseB_len (s : ByteArray) : (parseB s).1.size ≤ s.size := by
  unfold parseB
  rw [size_list s, size_mk]
  unfold parseL portL
  split
  · simp
  · split
    · simp
    · split
      · exact Nat.le_refl _
      · split
        · simp
        · split
          · simp
          · split
            · simp only [List.length_take]; omega
            · simp
theorem parseB_port (s : ByteArray) : 0 ≤ (parseB s).2.1 ∧ (parseB s).2.1 ≤ 65535 := by
  unfold parseB
  unfold parseL portL
  split
  · exact ⟨by decide, by decide⟩
  · split
    · exact ⟨by decide, by decide⟩
    · split
      · exact ⟨by show (0 : Int) ≤ 80; omega, by show (80 : Int) ≤ 65535; omega⟩
      · split
        · exact ⟨by decide, by decide⟩
        · split
          · exact ⟨by decide, by decide⟩
          · split
            · exact portG_range _
            · exact ⟨by decide, by decide⟩
def textB (name : ByteArray) (port : Int) : ByteArray := if port = 80 then lowB name else (lowB name ++ (⟨#[58]⟩ : ByteArray)) ++ rdigB port.toNat 10
theorem lowB_size (s : ByteArray) : (lowB s).size = s.size := by
  unfold lowB lowL
  rw [size_mk, List.length_map, ← size_list]
theorem host_text (s : ByteArray) (p : Int) (hs : s.size ≤ 1000000) (h0 : 0 ≤ p) (h1 : p ≤ 65535) : host_Text.f s p = some (textB s p) := by
  unfold host_Text.f octet_Lower.f textB
  rw [if_pos (by omega)]
  simp only [Option.bind_some]
  have hls := lowB_size s
  by_cases h : p = 80
  · rw [if_pos h, if_pos h]
  · have hds := rdigB_size p.toNat 10
    rw [if_neg h, if_neg h, if_pos (by omega), text_fig p h0 (by omega), fig_rdig _ _ (by omega) (by omega)]
    simp only [Option.bind_some]
    rw [if_pos (by rw [ByteArray.size_append]; show (lowB s).size + 1 + _ ≤ _; omega)]
theorem ref_text (s : ByteArray) (p : Int) (hs : s.size ≤ 1000000) (h0 : 0 ≤ p) (h1 : p ≤ 65535) (k : Nat) (hk : s.size < k) : abutmentref11_Text.f k s p = some (textB s p) := by
  unfold abutmentref11_Text.f textB
  rw [ref_lower s (by omega) k hk]
  simp only [Option.bind_some]
  have hls := lowB_size s
  by_cases h : p = 80
  · rw [if_pos h, if_pos h]
  · have hds := rdigB_size p.toNat 10
    rw [if_neg h, if_neg h, if_pos (by omega), text_rdig p h0 (by omega)]
    simp only [Option.bind_some]
    rw [if_pos (by rw [ByteArray.size_append]; show (lowB s).size + 1 + _ ≤ _; omega)]
def keyB (s : ByteArray) : ByteArray × Bool := if (parseB s).2.2 = 0 then (textB (parseB s).1 (parseB s).2.1, true) else (⟨#[]⟩, false)
theorem host_key (s : ByteArray) (hs : s.size ≤ 1000000) (k : Nat) (hk : 2 < k) : host_Key.f k s = some (keyB s) := by
  have hl := parseB_len s
  have hp := parseB_port s
  unfold host_Key.f keyB
  rw [host_parse s (by omega) k hk]
  simp only [Option.bind_some]
  by_cases h : (parseB s).2.2 = 0
  · rw [if_pos h, if_pos h, host_text _ _ (by omega) hp.1 hp.2]
    rfl
  · rw [if_neg h, if_neg h]
theorem ref_key (s : ByteArray) (hs : s.size ≤ 1000000) (k : Nat) (hk : 18 * s.size + 100 < k) : abutmentref11_Key.f k s = some (keyB s) := by
  have hl := parseB_len s
  have hp := parseB_port s
  unfold abutmentref11_Key.f keyB
  rw [ref_parse s hs k hk]
  simp only [Option.bind_some]
  by_cases h : (parseB s).2.2 = 0
  · rw [if_pos h, if_pos h, ref_text _ _ (by omega) hp.1 hp.2 k (by omega)]
    rfl
  · rw [if_neg h, if_neg h]


end Go.Proofs.YtdjmgmiaognncaaDoor.X
namespace Go.Proofs.YtdjmgmiaognncaaDoor.X
open Go.RowKit Go.Proofs.YtdjmgmiaognncaaDoorW.PrintWords Go.Proofs.YtdjmgmiaognncaaDoorW.PrintLast Go.Proofs.YtdjmgmiaognncaaDoorW.PrintMore
attribute [local go_sem] max2_int min2_int max_two min_two max_three min_three max_four min_four   -- for this text's walks alone
set_option linter.unusedVariables false
set_option linter.unusedSimpArgs false

/-! ### pure text 53: target -/
theorem visR_high (r : Nat) (h : 128 ≤ r) : visR r = false := by unfold visR; simp; omega
def visL (c : UInt8) : Bool := visR c.toNat
theorem octetVisible_list (s : ByteArray) : octetVisible s = (!s.data.toList.isEmpty && s.data.toList.all visL) := by
  unfold octetVisible
  rw [allR_list visR false visR_high, Lib.toList_data]
  rfl
theorem refvis_l0 (s : ByteArray) (hs : s.size ≤ 140737488351232) : ∀ (d i k : Nat), s.size - i = d → i ≤ s.size → d < k →
    abutmentref01_Visible.l0 k s (i : Int) = some ((s.data.toList.drop i).all visL && decide ((s.size : Int) > 0)) := by
  intro d
  induction d with
  | zero =>
    intro i k hd hi hk
    obtain ⟨k, rfl⟩ : ∃ m, k = m + 1 := ⟨k - 1, by omega⟩
    simp only [abutmentref01_Visible.l0]
    rw [if_neg (by omega), List.drop_eq_nil_iff.2 (by rw [← size_list]; omega)]
    rfl
  | succ d ih =>
    intro i k hd hi hk
    obtain ⟨k, rfl⟩ : ∃ m, k = m + 1 := ⟨k - 1, by omega⟩
    have hlt : i < s.data.toList.length := by rw [← size_list]; omega
    have hw : wrap64 ((i : Int) + 1) = ((i + 1 : Nat) : Int) := by rw [wrap_id _ (by omega) (by omega)]; omega
    simp only [abutmentref01_Visible.l0]
    rw [if_pos (by omega), if_pos (by omega), bt_list s i hlt, hw, ih (i + 1) k (by omega) (by omega) (by omega), List.drop_eq_getElem_cons hlt, List.all_cons]
    generalize s.data.toList[i]'hlt = c
    have hv : visL c = (decide (32 < c.toNat) && decide (c.toNat < 127)) := rfl
    by_cases h1 : (c.toNat : Int) < 33
    · rw [if_pos h1, hv, decide_eq_false (by omega)]; rfl
    · rw [if_neg h1]
      by_cases h2 : (c.toNat : Int) > 126
      · rw [if_pos h2, hv, decide_eq_false (show ¬ c.toNat < 127 by omega), Bool.and_false]; rfl
      · rw [if_neg h2, hv, decide_eq_true (show 32 < c.toNat by omega), decide_eq_true (show c.toNat < 127 by omega)]
        rfl
theorem ref_visible (s : ByteArray) (hs : s.size ≤ 140737488351232) (k : Nat) (hk : s.size < k) : abutmentref01_Visible.f k s = some (octetVisible s) := by
  have := refvis_l0 s hs s.size 0 k (by omega) (by omega) hk
  unfold abutmentref01_Visible.f
  rw [show (0 : Int) = ((0 : Nat) : Int) from rfl, this, octetVisible_list, List.drop_zero, Bool.and_comm]
  congr 2
  cases h : s.data.toList with
  | nil => have := size_list s; rw [h] at this; simp at this; simp [this]
  | cons c l => have := size_list s; rw [h] at this; simp at this; simp; omega
def okL (l : List UInt8) : Bool := !l.isEmpty && l.all visL && !l.contains 35
theorem parseOk_list (s : ByteArray) : parseOk s = okL s.data.toList := by
  unfold parseOk okL
  rw [octetVisible_list]
  congr 2
  rw [Bool.eq_iff_iff, decide_eq_true_iff, List.contains_iff_mem]
  rcases idx_split 35 s.data.toList with ⟨h1, h2⟩ | ⟨u, v, h1, h2, h3⟩
  · rw [h1]; exact ⟨fun h => by omega, fun h => absurd h h2⟩
  · rw [h3, h1]; exact ⟨fun _ => by simp, fun _ => by omega⟩
def errT : Int × ByteArray × ByteArray × Int := (0, ⟨#[]⟩, ⟨#[]⟩, 11)
def hostOk (s : ByteArray) : Bool := (parseB s).2.2 == 0
def schL : List UInt8 := [104, 116, 116, 112, 58, 47, 47]
def conL : List UInt8 := [67, 79, 78, 78, 69, 67, 84]
def optL : List UInt8 := [79, 80, 84, 73, 79, 78, 83]
def notEnd (c : UInt8) : Bool := !endR c.toNat
def hostL (l : List UInt8) : List UInt8 := (l.drop 7).takeWhile notEnd
def pathL (l : List UInt8) : List UInt8 := (l.drop 7).dropWhile notEnd
def absT (l : List UInt8) : Int × ByteArray × ByteArray × Int := if l.length < 7 ∨ lowL (l.take 7) ≠ schL then errT else if hostOk ⟨(hostL l).toArray⟩ = true then (2, ⟨(hostL l).toArray⟩, ⟨(pathL l).toArray⟩, 0) else errT
def targetB (m s : ByteArray) : Int × ByteArray × ByteArray × Int :=
  if s.data.toList = [] then (0, ⟨#[]⟩, ⟨#[]⟩, 2) else if okL s.data.toList = false then errT
  else if m.data.toList = conL then (if hostOk s = true ∧ nameN s.data.toList ≠ s.data.toList.length then (3, s, ⟨#[]⟩, 0) else errT)
  else if s.data.toList.head? = some 47 then (1, ⟨#[]⟩, s, 0)
  else if s.data.toList = [42] then (if m.data.toList = optL then (4, ⟨#[]⟩, ⟨#[]⟩, 0) else errT)
  else absT s.data.toList
theorem hosted_f (s : ByteArray) (hs : s.size ≤ 140737488351232) (k : Nat) (hk : 2 < k) : target_hosted.f k s = some (hostOk s) := by
  unfold target_hosted.f hostOk
  rw [host_parse s hs k hk]
  rfl
def digL : List UInt8 := [48, 49, 50, 51, 52, 53, 54, 55, 56, 57]
theorem digL_iff (c : UInt8) : digL.contains c = dOk 10 c ∧ digL.contains c = (decide (48 ≤ c.toNat) && decide (c.toNat ≤ 57)) := by
  have h : ∀ n : Fin 256, digL.contains n.val.toUInt8 = dOk 10 n.val.toUInt8 ∧ digL.contains n.val.toUInt8 = (decide (48 ≤ n.val) && decide (n.val ≤ 57)) := by decide +kernel
  have h2 := h ⟨c.toNat, c.toNat_lt⟩
  simp only [] at h2
  rw [show c.toNat.toUInt8 = c from by simp] at h2
  exact h2
theorem dOk_58 : dOk 10 58 = false := by decide
theorem dropE_all {α : Type} (p : α → Bool) (u v : List α) (hv : v.all p = true) (x : α) (hx : p x = false) : dropE p (u ++ x :: v) = u ++ [x] := by
  unfold dropE
  rw [List.reverse_append, List.reverse_cons, List.append_assoc]
  have h1 : ∀ (a b : List α), a.all p = true → (a ++ b).dropWhile p = b.dropWhile p := by
    intro a b ha
    induction a with
    | nil => rfl
    | cons y a ih =>
      rw [List.all_cons, Bool.and_eq_true] at ha
      rw [List.cons_append, List.dropWhile_cons, if_pos ha.1, ih ha.2]
  rw [h1 _ _ (by rw [List.all_reverse]; exact hv)]
  rw [List.singleton_append, List.dropWhile_cons, if_neg (by rw [hx]; simp)]
  simp
/-- The forms of a text that says where a request goes. -/
theorem host_forms (l : List UInt8) (h : (parseL portG l).2.2 = 0) : (nameN l = l.length ∧ 0 < l.length) ∨ (∃ r, l = l.take (nameN l) ++ 58 :: r ∧ r ≠ [] ∧ r.all (dOk 10) = true) := by
  unfold parseL at h
  by_cases h1 : l = []
  · rw [if_pos h1] at h; exact absurd h (by decide)
  · rw [if_neg h1] at h
    by_cases h2 : nameN l = 0
    · rw [if_pos h2] at h; exact absurd h (by decide)
    · rw [if_neg h2] at h
      by_cases h3 : nameN l = l.length
      · exact .inl ⟨h3, List.length_pos_iff.2 h1⟩
      · rw [if_neg h3] at h
        by_cases h4 : l[nameN l]? ≠ some 58
        · rw [if_pos h4] at h; exact absurd h (by decide)
        · rw [if_neg h4] at h
          have h5 : l[nameN l]? = some 58 := Classical.byContradiction h4
          obtain ⟨h6, h7⟩ := List.getElem?_eq_some_iff.1 h5
          refine .inr ⟨l.drop (nameN l + 1), ?_, ?_⟩
          · have h8 := List.drop_eq_getElem_cons h6
            rw [h7] at h8
            rw [← h8, List.take_append_drop]
          · unfold portL at h
            by_cases h8 : (portG (l.drop (nameN l + 1))).2 = 5
            · rw [if_pos h8] at h; exact absurd h (by decide)
            · rw [if_neg h8] at h
              by_cases h9 : (portG (l.drop (nameN l + 1))).2 = 0
              · clear h h8
                generalize l.drop (nameN l + 1) = r at h9
                unfold portG at h9
                rw [numberB_spec _ 10 65535 (by omega) (by omega)] at h9
                rw [show (⟨r.toArray⟩ : ByteArray).data.toList = r from by simp] at h9
                by_cases ha : r = []
                · rw [if_pos ha] at h9; exact absurd h9 (by decide)
                · rw [if_neg ha] at h9
                  by_cases hb : r.all (dOk 10) = true
                  · exact ⟨ha, hb⟩
                  · rw [if_neg hb] at h9; exact absurd h9 (by decide)
              · rw [if_neg h9] at h; exact absurd h (by decide)
theorem all_snoc {α : Type} (p : α → Bool) (l : List α) (h : l ≠ []) (ha : l.all p = true) : ∃ u c, l = u ++ [c] ∧ p c = true := by
  rcases snoc_cases l with rfl | ⟨u, c, rfl⟩
  · exact absurd rfl h
  · rw [List.all_append, Bool.and_eq_true] at ha
    exact ⟨u, c, rfl, by simpa using ha.2⟩
theorem connect_spec (l : List UInt8) (u : List UInt8) (c : UInt8) (hl : l = u ++ [c]) (hp : (parseL portG l).2.2 = 0) : (digL.contains c && ([58] : List UInt8).isSuffixOf (dropE (digL.contains ·) l)) = true ↔ nameN l ≠ l.length := by
  constructor
  · intro h hn
    rw [Bool.and_eq_true] at h
    obtain ⟨h1, h2⟩ := h
    rw [List.isSuffixOf_iff_suffix] at h2
    have h58 : (58 : UInt8) ∈ l := (dropE_prefix _ _ l rfl).subset (h2.subset (List.mem_singleton_self _))
    cases hl2 : l with
    | nil => rw [hl2] at hl; simp at hl
    | cons a r =>
      rw [hl2, nameN_cons] at hn
      by_cases ha : a = 91
      · rw [if_pos ha] at hn
        unfold litN at hn
        by_cases hq : (r.takeWhile litp).length = 0 ∨ r[(r.takeWhile litp).length]? ≠ some 93
        · rw [if_pos hq] at hn; simp at hn
        · rw [if_neg hq] at hn
          have h5 : r[(r.takeWhile litp).length]? = some 93 := Classical.byContradiction fun q => hq (.inr q)
          have h6 : (r.takeWhile litp).length + 1 = r.length := by simp at hn; omega
          have h7 : l.getLast? = some 93 := by
            rw [hl2, List.getLast?_cons, List.getLast?_eq_getElem?, show r.length - 1 = (r.takeWhile litp).length from by omega, h5]
            rfl
          rw [hl] at h7
          simp at h7
          subst h7
          revert h1; decide
      · rw [if_neg ha] at hn
        cases hS : spanA (a :: r) 0 with
        | none => rw [hS] at hn; simp at hn
        | some n =>
          rw [hS] at hn
          simp only [Option.getD_some] at hn
          have h3 := (spanA_some _ _ _ hS).2.1
          rw [hn, List.take_length, ← hl2] at h3
          exact (namech_not _ (List.all_eq_true.1 (regGo_chars _ _ h3) _ h58)).1 rfl
  · intro hn
    rcases host_forms l hp with ⟨h1, _⟩ | ⟨r, h1, h2, h3⟩
    · exact absurd h1 hn
    · obtain ⟨u2, c2, h4, h5⟩ := all_snoc (dOk 10) r h2 h3
      have hc : c = c2 := by
        have e : u ++ [c] = (l.take (nameN l) ++ 58 :: u2) ++ [c2] := by rw [← hl]; rw [h4] at h1; simpa using h1
        have := (List.append_inj' e rfl).2
        simpa using this
      rw [Bool.and_eq_true]
      refine ⟨by rw [(digL_iff c).1, hc]; exact h5, ?_⟩
      have h6 : r.all (digL.contains ·) = true := by
        rw [List.all_eq_true] at h3 ⊢
        intro x hx
        rw [(digL_iff x).1]
        exact h3 x hx
      rw [h1, dropE_all (digL.contains ·) _ r h6 58 (by decide), List.isSuffixOf_iff_suffix]
      exact ⟨_, rfl⟩
theorem connect_f (s : ByteArray) (hs : s.size ≤ 140737488351232) (hne : s.data.toList ≠ []) (k : Nat) (hk : 2 < k) :
    ∃ b, target_connect.f k s = some (3, s, ⟨#[]⟩, b) ∧ (b = true ↔ hostOk s = true ∧ nameN s.data.toList ≠ s.data.toList.length) := by
  have hsl := size_list s
  rcases snoc_cases s.data.toList with h | ⟨u, c, hl⟩
  · exact absurd h hne
  · have hlen : s.data.toList.length = u.length + 1 := by rw [hl]; simp
    have hw : wrap64 ((s.size : Int) - 1) = ((u.length : Nat) : Int) := by rw [wrap_id _ (by omega) (by omega)]; omega
    have hlt : u.length < s.data.toList.length := by omega
    have hb : bt s ((u.length : Nat) : Int) = (c.toNat : Int) := by
      rw [bt_list s u.length hlt]
      have : s.data.toList[u.length]? = some c := by rw [hl]; simp
      obtain ⟨_, h2⟩ := List.getElem?_eq_some_iff.1 this
      rw [h2]
    have hT : strings_TrimRight.f s (⟨#[48, 49, 50, 51, 52, 53, 54, 55, 56, 57]⟩ : ByteArray) = some ⟨(dropE (digL.contains ·) s.data.toList).toArray⟩ := by
      unfold strings_TrimRight.f trimRightSet
      rw [if_pos ⟨hs, by decide, by decide⟩]
      rfl
    have hzT : (⟨(dropE (digL.contains ·) s.data.toList).toArray⟩ : ByteArray).size ≤ 140737488351232 := by
      rw [size_mk]
      have := dropE_len (digL.contains ·) s.data.toList
      omega
    have hH : strings_HasSuffix.f (⟨(dropE (digL.contains ·) s.data.toList).toArray⟩ : ByteArray) (⟨#[58]⟩ : ByteArray) = some (([58] : List UInt8).isSuffixOf (dropE (digL.contains ·) s.data.toList)) := by
      unfold strings_HasSuffix.f Lib.hasSuffix
      rw [if_pos hzT]
    have hd := (digL_iff c).2
    have hspec : hostOk s = true → ((digL.contains c && ([58] : List UInt8).isSuffixOf (dropE (digL.contains ·) s.data.toList)) = true ↔ nameN s.data.toList ≠ s.data.toList.length) := by
      intro hh
      refine connect_spec _ u c hl ?_
      unfold hostOk parseB at hh
      simpa using hh
    unfold target_connect.f
    rw [hw, if_pos (by omega), if_pos (by omega), hb, hT]
    simp only [Option.bind_some]
    rw [hH]
    simp only [Option.bind_some]
    rw [hosted_f s hs k hk]
    simp only [Option.bind_some]
    generalize ([58] : List UInt8).isSuffixOf (dropE (digL.contains ·) s.data.toList) = q at hspec
    have hfin : ∀ b : Bool, b = (hostOk s && (digL.contains c && q)) → (b = true ↔ hostOk s = true ∧ nameN s.data.toList ≠ s.data.toList.length) := by
      rintro b rfl
      rw [Bool.and_eq_true]
      constructor
      · rintro ⟨h1, h2⟩; exact ⟨h1, (hspec h1).1 h2⟩
      · rintro ⟨h1, h2⟩; exact ⟨h1, (hspec h1).2 h2⟩
    by_cases h48 : (c.toNat : Int) ≥ 48
    · rw [if_pos h48]
      by_cases h57 : (c.toNat : Int) ≤ 57
      · rw [if_pos h57]
        have hdc : digL.contains c = true := by rw [hd, decide_eq_true (by omega), decide_eq_true (by omega)]; rfl
        cases q with
        | true => rw [if_pos rfl]; exact ⟨_, rfl, hfin _ (by rw [hdc]; simp)⟩
        | false => rw [if_neg (by simp)]; exact ⟨_, rfl, hfin _ (by simp)⟩
      · rw [if_neg h57]
        have hdc : digL.contains c = false := by rw [hd, decide_eq_false (show ¬ c.toNat ≤ 57 by omega), Bool.and_false]
        exact ⟨_, rfl, hfin _ (by rw [hdc]; simp)⟩
    · rw [if_neg h48]
      have hdc : digL.contains c = false := by rw [hd, decide_eq_false (show ¬ 48 ≤ c.toNat by omega)]; rfl
      exact ⟨_, rfl, hfin _ (by rw [hdc]; simp)⟩
theorem endR_high (r : Nat) (h : 128 ≤ r) : endR r = false := by unfold endR; simp; omega
theorem idxEnd_list (s : ByteArray) : ∀ (f pos : Nat), s.size ≤ pos + f → pos ≤ s.size → Lib.idxFuncFrom endR true s f pos = if ((s.data.toList.drop pos).takeWhile notEnd).length = (s.data.toList.drop pos).length then -1 else ((pos + ((s.data.toList.drop pos).takeWhile notEnd).length : Nat) : Int) := by
  intro f
  induction f using Nat.strongRecOn with
  | ind f ih =>
    intro pos hf hpos
    by_cases h : pos < s.size
    · obtain ⟨f, rfl⟩ : ∃ g, f = g + 1 := ⟨f - 1, by omega⟩
      have hl : pos < s.data.toList.length := by rw [← size_list]; exact h
      have hd := List.drop_eq_getElem_cons hl
      have hb2 : s[pos]'h = s.data.toList[pos]'hl := by simp; rfl
      obtain ⟨c, hcq⟩ : ∃ c, s.data.toList[pos]'hl = c := ⟨_, rfl⟩
      rw [hcq] at hd hb2
      simp only [Lib.idxFuncFrom]
      rw [if_pos h]
      by_cases ha : (s[pos]'h).toNat < 128
      · rw [decode_ascii s pos h ha, hb2]
        by_cases he : endR c.toNat = true
        · have hn : notEnd c = false := by unfold notEnd; rw [he]; rfl
          have e0 : (c :: s.data.toList.drop (pos + 1)).takeWhile notEnd = [] := by rw [List.takeWhile_cons, if_neg (by rw [hn]; simp)]
          rw [if_pos he, hd, e0, if_neg (by simp)]
          simp
        · have hn : notEnd c = true := by unfold notEnd; simpa using he
          rw [if_neg he, ih f (by omega) (pos + 1) (by omega) (by omega), hd, List.takeWhile_cons, if_pos hn]
          simp only [List.length_cons]
          by_cases hq : ((s.data.toList.drop (pos + 1)).takeWhile notEnd).length = (s.data.toList.drop (pos + 1)).length
          · rw [if_pos hq, if_pos (by omega)]
          · rw [if_neg hq, if_neg (by omega)]
            congr 1
            omega
      · have hhi := decode_high s pos h (by omega)
        have hbytes := decode_bytes s pos h (by rw [get_list s pos hl, hcq, ← hb2]; omega)
        rw [endR_high _ hhi.1, if_neg (by simp)]
        obtain ⟨K, hK⟩ : ∃ K, (Utf8.decode s pos).2 = K := ⟨_, rfl⟩
        rw [hK] at hbytes ⊢
        have hKpos : 0 < K := by have := Lib.width_pos s pos; omega
        have hKs : pos + K ≤ s.size := by
          have := (hbytes (pos + K - 1) (by omega) (by omega)).1
          omega
        rw [ih f (by omega) (pos + K) (by omega) hKs]
        have hskip : ∀ n, n ≤ K → ((s.data.toList.drop pos).takeWhile notEnd).length = n + ((s.data.toList.drop (pos + n)).takeWhile notEnd).length := by
          intro n
          induction n with
          | zero => intro _; simp
          | succ n ihn =>
            intro hn
            rw [ihn (by omega)]
            have hbn := hbytes (pos + n) (by omega) (by omega)
            have hln : pos + n < s.data.toList.length := by rw [← size_list]; exact hbn.1
            rw [List.drop_eq_getElem_cons hln, List.takeWhile_cons, if_pos (by
              unfold notEnd
              rw [get_list s (pos + n) hln] at hbn
              rw [endR_high _ hbn.2]; rfl), List.length_cons, show pos + (n + 1) = pos + n + 1 from rfl]
            omega
        have hs2 := hskip K (Nat.le_refl _)
        have hdl : (s.data.toList.drop pos).length = K + (s.data.toList.drop (pos + K)).length := by
          rw [List.length_drop, List.length_drop, ← size_list]; omega
        rw [hs2, hdl]
        by_cases hq : ((s.data.toList.drop (pos + K)).takeWhile notEnd).length = (s.data.toList.drop (pos + K)).length
        · rw [if_pos hq, if_pos (by omega)]
        · rw [if_neg hq, if_neg (by omega)]
          congr 1
          omega
    · rw [Lib.idxFuncFrom_end endR true s f pos h, List.drop_eq_nil_iff.2 (by rw [← size_list]; omega)]
      rfl
theorem endOf_list (s : ByteArray) : endOf s = (s.data.toList.takeWhile notEnd).length := by
  have h := idxEnd_list s s.size 0 (by omega) (by omega)
  rw [List.drop_zero] at h
  unfold endOf Lib.idxFunc
  rw [h]
  by_cases hq : (s.data.toList.takeWhile notEnd).length = s.data.toList.length
  · rw [if_pos hq, if_pos (by decide), hq, size_list]
  · rw [if_neg hq, if_neg (by omega)]
    simp
theorem take_tw {α : Type} (p : α → Bool) (l : List α) : l.take (l.takeWhile p).length = l.takeWhile p ∧ l.drop (l.takeWhile p).length = l.dropWhile p := by
  have h : l.takeWhile p ++ l.dropWhile p = l := List.takeWhile_append_dropWhile
  generalize l.takeWhile p = a at h
  generalize l.dropWhile p = b at h
  subst h
  exact ⟨by simp, by simp⟩
theorem absHost_list (s : ByteArray) : absHost s = ⟨(hostL s.data.toList).toArray⟩ ∧ absPath s = ⟨(pathL s.data.toList).toArray⟩ := by
  have hr : (absRest s).data.toList = s.data.toList.drop 7 := by
    unfold absRest
    rw [Lib.extract_data, List.take_of_length_le (by rw [List.length_drop, size_list]; omega)]
  have ht := take_tw notEnd (s.data.toList.drop 7)
  constructor
  · unfold absHost hostL
    rw [ext_list, endOf_list, hr, List.drop_zero, Nat.sub_zero, ht.1]
  · unfold absPath pathL
    rw [ext_list, endOf_list, hr, List.take_of_length_le (by rw [List.length_drop, size_list, hr]; omega), ht.2]
theorem fold_sch (l : List UInt8) : foldB ⟨l.toArray⟩ (⟨#[104, 116, 116, 112, 58, 47, 47]⟩ : ByteArray) = (lowL l == schL) := by
  unfold foldB
  rfl
theorem absolute_f (s : ByteArray) (hs : s.size ≤ 140737488351232) : ∃ q, target_absolute.f s = some q ∧ retB q = absT s.data.toList := by
  have hsl := size_list s
  unfold target_absolute.f absT
  rw [if_pos hs]
  by_cases h7 : s.size < 7
  · rw [if_pos h7, if_pos (.inl (by omega))]
    exact ⟨_, rfl, rfl⟩
  · rw [if_neg h7]
    have hx : s.extract 0 7 = ⟨(s.data.toList.take 7).toArray⟩ := by rw [ext_list]; simp
    rw [hx, octet_fold _ _ (by rw [size_mk, List.length_take]; omega) 1000000000000000 (by rw [size_mk, List.length_take]; omega), fold_sch]
    simp only [Option.bind_some]
    by_cases hf : lowL (s.data.toList.take 7) = schL
    · have hf2 : (lowL (s.data.toList.take 7) == schL) = true := beq_iff_eq.mpr hf
      have hah := absHost_list s
      rw [hf2, if_pos rfl, if_neg (by rintro (h | h); omega; exact h hf), hah.1, hah.2]
      have hz : (⟨(hostL s.data.toList).toArray⟩ : ByteArray).size ≤ 140737488351232 := by
        rw [size_mk]
        unfold hostL
        have h1 := (List.takeWhile_prefix (l := s.data.toList.drop 7) notEnd).length_le
        rw [List.length_drop] at h1
        omega
      rw [hosted_f _ hz 1000000000 (by omega)]
      simp only [Option.bind_some]
      refine ⟨_, rfl, ?_⟩
      unfold retB
      simp only []
      rfl
    · have hf2 : (lowL (s.data.toList.take 7) == schL) = false := beq_eq_false_iff_ne.mpr hf
      rw [hf2, if_neg (by simp), if_pos (.inr hf)]
      exact ⟨_, rfl, rfl⟩
theorem head_bt (s : ByteArray) (h : s.data.toList ≠ []) : bt s 0 = 47 ↔ s.data.toList.head? = some 47 := by
  have hp : 0 < s.data.toList.length := List.length_pos_iff.2 h
  have hb := bt_list s 0 hp
  rw [show ((0 : Nat) : Int) = 0 from rfl] at hb
  rw [hb, show (47 : Int) = ((47 : UInt8).toNat : Int) from rfl, u8_eq, List.head?_eq_getElem?, List.getElem?_eq_getElem hp]
  simp
theorem prog_target (m s : ByteArray) (hs : s.size ≤ 140737488351232) : target_Parse.f m s = some (targetB m s) := by
  unfold target_Parse.f targetB
  rw [if_pos hs, Lib.toList_data, Lib.toList_data]
  by_cases he : s.data.toList = []
  · rw [if_pos he, if_pos he]
  · rw [if_neg he, if_neg he, parseOk_list]
    by_cases ho : okL s.data.toList = false
    · rw [if_pos ho, if_pos ho]; rfl
    · rw [if_neg ho, if_neg ho]
      by_cases hm : m.data.toList = [67, 79, 78, 78, 69, 67, 84]
      · rw [if_pos hm, if_pos (show m.data.toList = conL from hm)]
        obtain ⟨b, hb, hiff⟩ := connect_f s hs he 1000000000 (by omega)
        rw [hb]
        simp only [Option.bind_some]
        unfold retB
        by_cases hc : hostOk s = true ∧ nameN s.data.toList ≠ s.data.toList.length
        · rw [if_pos hc, if_pos (hiff.2 hc)]
        · rw [if_neg hc, if_neg (fun h => hc (hiff.1 h))]; rfl
      · rw [if_neg hm, if_neg (show ¬ m.data.toList = conL from hm)]
        have hh := head_bt s he
        by_cases h47 : bt s 0 = 47
        · rw [if_pos h47, if_pos (hh.1 h47)]
        · rw [if_neg h47, if_neg (fun h => h47 (hh.2 h))]
          by_cases h42 : s.data.toList = [42]
          · rw [if_pos h42, if_pos h42]
            by_cases ho2 : m.data.toList = [79, 80, 84, 73, 79, 78, 83]
            · rw [if_pos ho2, if_pos (show m.data.toList = optL from ho2)]
            · rw [if_neg ho2, if_neg (show ¬ m.data.toList = optL from ho2)]; rfl
          · rw [if_neg h42, if_neg h42]
            obtain ⟨q, hq, hr⟩ := absolute_f s hs
            rw [hq]
            simp only [Option.bind_some]
            rw [hr]
theorem ref_l1 (s : ByteArray) (hs : s.size ≤ 1000000) (h7 : 7 ≤ s.size) : ∀ (d i k : Nat), s.size - i = d → 7 ≤ i → i ≤ s.size → d + 20000001 < k → ((s.data.toList.drop 7).take (i - 7)).all notEnd = true →
    abutmentref12_Parse.l1 k s (i : Int) = some (if hostOk ⟨(hostL s.data.toList).toArray⟩ = true then (2, ⟨(hostL s.data.toList).toArray⟩, ⟨(pathL s.data.toList).toArray⟩, 0) else errT) := by
  have hsl := size_list s
  have hstop : ∀ i k : Nat, 7 ≤ i → i ≤ s.size → 20000000 < k → ((s.data.toList.drop 7).take (i - 7)).all notEnd = true → (∀ c r, s.data.toList.drop i = c :: r → notEnd c = false) →
      ((abutmentref11_Parse.f k (s.extract 7 (i : Int).toNat)).bind fun bt108 => (if bt108.2.2 = 0 then (some (2, s.extract 7 (i : Int).toNat, s.extract (i : Int).toNat s.size, 0)) else (some (0, (⟨#[]⟩ : ByteArray), (⟨#[]⟩ : ByteArray), 11)))) = some (if hostOk ⟨(hostL s.data.toList).toArray⟩ = true then (2, ⟨(hostL s.data.toList).toArray⟩, ⟨(pathL s.data.toList).toArray⟩, 0) else errT) := by
    intro i k h1 h2 hk hall hst
    have hdd : (s.data.toList.drop 7).drop (i - 7) = s.data.toList.drop i := by rw [List.drop_drop]; congr 1; omega
    have htw := takeWhile_stop notEnd ((s.data.toList.drop 7).take (i - 7)) ((s.data.toList.drop 7).drop (i - 7)) hall (by rw [hdd]; exact hst)
    rw [List.take_append_drop] at htw
    have hH : hostL s.data.toList = (s.data.toList.drop 7).take (i - 7) := htw
    have hP : pathL s.data.toList = s.data.toList.drop i := by
      unfold pathL
      have := (take_tw notEnd (s.data.toList.drop 7)).2
      rw [← this, htw, List.length_take, List.length_drop, show min (i - 7) (s.data.toList.length - 7) = i - 7 from by omega, hdd]
    have e1 : s.extract 7 (i : Int).toNat = ⟨(hostL s.data.toList).toArray⟩ := by rw [Int.toNat_natCast, ext_list, hH]
    have e2 : s.extract (i : Int).toNat s.size = ⟨(pathL s.data.toList).toArray⟩ := by rw [Int.toNat_natCast, ext_list, hP, List.take_of_length_le (by rw [List.length_drop]; omega)]
    have hz : (⟨(hostL s.data.toList).toArray⟩ : ByteArray).size ≤ 1000000 := by rw [size_mk, hH, List.length_take, List.length_drop]; omega
    rw [e1, e2, ref_parse _ hz k (by omega)]
    simp only [Option.bind_some]
    unfold hostOk
    by_cases h0 : (parseB ⟨(hostL s.data.toList).toArray⟩).2.2 = 0
    · rw [if_pos h0, if_pos (beq_iff_eq.2 h0)]
    · rw [if_neg h0, if_neg (fun h => h0 (beq_iff_eq.1 h))]; rfl
  intro d
  induction d with
  | zero =>
    intro i k hd h1 h2 hk hall
    obtain ⟨k, rfl⟩ : ∃ m, k = m + 1 := ⟨k - 1, by omega⟩
    simp only [abutmentref12_Parse.l1]
    rw [if_neg (by omega), if_pos (by omega), if_pos (by omega), if_pos (by omega)]
    exact hstop i k h1 h2 (by omega) hall (fun c r h => by rw [List.drop_eq_nil_iff.2 (by omega)] at h; cases h)
  | succ d ih =>
    intro i k hd h1 h2 hk hall
    obtain ⟨k, rfl⟩ : ∃ m, k = m + 1 := ⟨k - 1, by omega⟩
    have hlt : i < s.data.toList.length := by omega
    have hw : wrap64 ((i : Int) + 1) = ((i + 1 : Nat) : Int) := by rw [wrap_id _ (by omega) (by omega)]; omega
    have hdr := List.drop_eq_getElem_cons hlt
    simp only [abutmentref12_Parse.l1]
    rw [if_pos (by omega), if_pos (by omega), bt_list s i hlt, hw]
    generalize hc : s.data.toList[i]'hlt = c at hdr
    have hne : notEnd c = !(c.toNat == 47 || c.toNat == 63) := rfl
    by_cases h47 : (c.toNat : Int) = 47
    · rw [if_pos h47, if_pos (by omega), if_pos (by omega)]
      refine hstop i k h1 h2 (by omega) hall (fun c' r h => ?_)
      rw [hdr] at h
      simp only [List.cons.injEq] at h
      rw [← h.1, hne, show (c.toNat == 47) = true from by rw [beq_iff_eq]; omega]
      rfl
    · rw [if_neg h47]
      by_cases h63 : (c.toNat : Int) = 63
      · rw [if_pos h63, if_pos (by omega), if_pos (by omega)]
        refine hstop i k h1 h2 (by omega) hall (fun c' r h => ?_)
        rw [hdr] at h
        simp only [List.cons.injEq] at h
        rw [← h.1, hne, show (c.toNat == 63) = true from by rw [beq_iff_eq]; omega]
        simp
      · rw [if_neg h63]
        refine ih (i + 1) k (by omega) (by omega) (by omega) (by omega) ?_
        have hlt2 : i - 7 < (s.data.toList.drop 7).length := by rw [List.length_drop]; omega
        rw [show i + 1 - 7 = i - 7 + 1 from by omega, ← List.take_append_getElem hlt2, List.all_append, hall]
        have hg : (s.data.toList.drop 7)[i - 7]'hlt2 = c := by
          rw [List.getElem_drop, ← hc]
          congr 1
          omega
        rw [hg]
        simp [hne]
        omega
theorem ref_l0 (m s : ByteArray) (hs : s.size ≤ 1000000) (hne : s.data.toList ≠ []) : ∀ (d i k : Nat) (bad : Bool), s.size - i = d → i ≤ s.size → d + 1000000 + 20000010 < k →
    abutmentref12_Parse.l0 k m s bad (i : Int) = some (if (bad || (s.data.toList.drop i).contains 35) = true then errT
      else if m.data.toList = conL then (if hostOk s = true ∧ nameN s.data.toList ≠ s.data.toList.length then (3, s, ⟨#[]⟩, 0) else errT)
      else if s.data.toList.head? = some 47 then (1, ⟨#[]⟩, s, 0)
      else if s.data.toList = [42] then (if m.data.toList = optL then (4, ⟨#[]⟩, ⟨#[]⟩, 0) else errT)
      else absT s.data.toList) := by
  have hsl := size_list s
  have hpos : 0 < s.data.toList.length := List.length_pos_iff.2 hne
  intro d
  induction d with
  | zero =>
    intro i k bad hd hi hk
    obtain ⟨k, rfl⟩ : ∃ m, k = m + 1 := ⟨k - 1, by omega⟩
    simp only [abutmentref12_Parse.l0]
    rw [if_neg (by omega), List.drop_eq_nil_iff.2 (by omega), show ([] : List UInt8).contains 35 = false from rfl, Bool.or_false]
    cases bad with
    | true => rw [if_pos rfl, if_pos rfl]; rfl
    | false =>
      rw [if_neg (show ¬ (false = true) by decide), if_neg (show ¬ (false = true) by decide), Lib.toList_data, Lib.toList_data]
      by_cases hm : m.data.toList = [67, 79, 78, 78, 69, 67, 84]
      · rw [if_pos hm, if_pos (show m.data.toList = conL from hm), ref_name s (by omega) k (by omega), ref_parse s hs k (by omega)]
        simp only [Option.bind_some]
        have hN := nameN_le s.data.toList
        unfold hostOk
        by_cases h0 : (parseB s).2.2 = 0
        · rw [if_pos h0]
          by_cases hn : nameN s.data.toList = s.data.toList.length
          · rw [if_pos (by omega), if_neg (fun h => h.2 hn)]; rfl
          · rw [if_neg (by omega), if_pos ⟨beq_iff_eq.2 h0, hn⟩]
        · rw [if_neg h0, if_neg (fun h => h0 (beq_iff_eq.1 h.1))]; rfl
      · rw [if_neg hm, if_neg (show ¬ m.data.toList = conL from hm), if_pos (by omega)]
        have hh := head_bt s hne
        by_cases h47 : bt s 0 = 47
        · rw [if_pos h47, if_pos (hh.1 h47)]
        · rw [if_neg h47, if_neg (fun h => h47 (hh.2 h))]
          have hrest : ∀ k, 1000000 + 20000000 < k → abutmentref12_Parse.j1 (k + 2) s false = some (absT s.data.toList) := by
            intro k hk
            obtain ⟨k1, hk1⟩ : ∃ q, q = k + 1 := ⟨_, rfl⟩
            rw [show k + 2 = k1 + 1 from by omega]
            simp only [abutmentref12_Parse.j1]
            rw [if_neg (by simp)]
            unfold absT
            by_cases h7 : (s.size : Int) < 7
            · rw [if_pos h7, if_pos (.inl (by omega)), hk1]
              simp only [abutmentref12_Parse.j2]
              rfl
            · rw [if_neg h7, if_pos (by omega), if_pos (by omega)]
              have hx : s.extract 0 7 = ⟨(s.data.toList.take 7).toArray⟩ := by rw [ext_list]; simp
              rw [hx, ref_lower _ (by rw [size_mk, List.length_take]; omega) k1 (by rw [size_mk, List.length_take]; omega)]
              simp only [Option.bind_some]
              have hlow : (lowB ⟨(s.data.toList.take 7).toArray⟩).toList = lowL (s.data.toList.take 7) := by
                rw [Lib.toList_data]; unfold lowB; simp
              rw [hlow, hk1]
              simp only [abutmentref12_Parse.j2]
              by_cases hf : lowL (s.data.toList.take 7) = schL
              · rw [if_neg (by rw [bne_iff_ne]; exact fun h => h hf), if_neg (by rintro (h | h); omega; exact h hf)]
                have := ref_l1 s hs (by omega) (s.size - 7) 7 k rfl (by omega) (by omega) (by omega) (by simp)
                exact this
              · rw [if_pos (by rw [bne_iff_ne]; exact hf), if_pos (.inr hf)]
                rfl
          obtain ⟨k, rfl⟩ : ∃ q, k = q + 2 := ⟨k - 2, by omega⟩
          by_cases h42 : s.data.toList = [42]
          · rw [if_pos h42, if_pos h42]
            by_cases ho : m.data.toList = optL
            · rw [if_pos ho, show (m.data.toList == [79, 80, 84, 73, 79, 78, 83]) = true from beq_iff_eq.mpr ho]
              obtain ⟨k1, hk1⟩ : ∃ q, q = k + 1 := ⟨_, rfl⟩
              rw [show k + 2 = k1 + 1 from by omega]
              simp only [abutmentref12_Parse.j1]
              rfl
            · rw [if_neg ho, show (m.data.toList == [79, 80, 84, 73, 79, 78, 83]) = false from beq_eq_false_iff_ne.mpr ho, hrest k (by omega)]
              unfold absT
              rw [if_pos (.inl (by rw [h42]; decide))]
          · rw [if_neg h42, if_neg h42, hrest k (by omega)]
  | succ d ih =>
    intro i k bad hd hi hk
    obtain ⟨k, rfl⟩ : ∃ m, k = m + 1 := ⟨k - 1, by omega⟩
    have hlt : i < s.data.toList.length := by omega
    have hw : wrap64 ((i : Int) + 1) = ((i + 1 : Nat) : Int) := by rw [wrap_id _ (by omega) (by omega)]; omega
    simp only [abutmentref12_Parse.l0]
    rw [if_pos (by omega), hw, List.drop_eq_getElem_cons hlt, List.contains_cons]
    cases bad with
    | true =>
      rw [if_pos rfl, ih (i + 1) k true (by omega) (by omega) (by omega)]
      rfl
    | false =>
      rw [if_neg (by simp), if_pos (by omega), bt_list s i hlt, ih (i + 1) k _ (by omega) (by omega) (by omega), Bool.false_or]
      have e : ((((s.data.toList[i]'hlt).toNat : Int)) == 35) = ((35 : UInt8) == s.data.toList[i]'hlt) := by
        rw [Bool.eq_iff_iff, beq_iff_eq, beq_iff_eq, show (35 : Int) = ((35 : UInt8).toNat : Int) from rfl, u8_eq]
        exact ⟨fun h => h.symm, fun h => h.symm⟩
      rw [e]
theorem ref_target (m s : ByteArray) (hs : s.size ≤ 1000000) (k : Nat) (hk : 30000000 < k) : abutmentref12_Parse.f k m s = some (targetB m s) := by
  unfold abutmentref12_Parse.f targetB
  rw [Lib.toList_data]
  by_cases he : s.data.toList = []
  · rw [if_pos he, if_pos he]
  · have hsl := size_list s
    rw [if_neg he, if_neg he, ref_visible s (by omega) k (by omega)]
    simp only [Option.bind_some]
    have := ref_l0 m s hs he s.size 0 k (!octetVisible s) (by omega) (by omega) (by omega)
    rw [show ((0 : Nat) : Int) = 0 from rfl, List.drop_zero] at this
    rw [this]
    congr 1
    have ho : (!octetVisible s || s.data.toList.contains 35) = !okL s.data.toList := by
      unfold okL
      rw [octetVisible_list, Bool.not_and (!s.data.toList.isEmpty && s.data.toList.all visL), Bool.not_not]
    rw [ho]
    cases okL s.data.toList with
    | true => rw [if_neg (show ¬ ((!true) = true) by decide), if_neg (show ¬ (true = false) by decide)]
    | false => rw [if_pos (show (!false) = true from rfl), if_pos (show false = false from rfl)]


end Go.Proofs.YtdjmgmiaognncaaDoor.X
namespace Go.Proofs.YtdjmgmiaognncaaDoor.X
open Go.RowKit Go.Proofs.YtdjmgmiaognncaaDoorW.PrintWords Go.Proofs.YtdjmgmiaognncaaDoorW.PrintLast Go.Proofs.YtdjmgmiaognncaaDoorW.PrintMore
attribute [local go_sem] max2_int min2_int max_two min_two max_three min_three max_four min_four   -- for this text's walks alone
set_option linter.unusedVariables false
set_option linter.unusedSimpArgs false

/-! ### pure text 54: targetOut -/
def schB : ByteArray := ⟨#[104, 116, 116, 112, 58, 47, 47]⟩
def tgtText (f : Int) (a p : ByteArray) : ByteArray := if f = 1 then p else if f = 2 then (schB ++ a) ++ p else if f = 3 then a else if f = 4 then ⟨#[42]⟩ else ⟨#[]⟩
theorem prog_text (f : Int) (a p : ByteArray) (ha : a.size ≤ 1000000) (hp : p.size ≤ 1000000) : target_Text.f f a p = some (tgtText f a p) := by
  unfold target_Text.f tgtText
  by_cases h1 : f = 1
  · rw [if_pos h1, if_pos h1]
  · rw [if_neg h1, if_neg h1]
    by_cases h2 : f = 2
    · rw [if_pos h2, if_pos h2, if_pos (by omega), if_pos (by rw [ByteArray.size_append]; show 7 + _ + _ ≤ _; omega)]
      rfl
    · rw [if_neg h2, if_neg h2]
      by_cases h3 : f = 3
      · rw [if_pos h3, if_pos h3]
      · rw [if_neg h3, if_neg h3]
        by_cases h4 : f = 4
        · rw [if_pos h4, if_pos h4]
        · rw [if_neg h4, if_neg h4]
theorem ref_text12 (f : Int) (a p : ByteArray) (ha : a.size ≤ 1000000) (hp : p.size ≤ 1000000) : abutmentref12_Text.f f a p = some (tgtText f a p) := by
  rw [← prog_text f a p ha hp]
  rfl
def outB (m : ByteArray) (f : Int) (a p : ByteArray) : ByteArray := if f = 2 then (if p.data.toList = [] ∧ m.data.toList = optL then ⟨#[42]⟩ else if p.data.toList.head? = some 47 then p else (⟨#[47]⟩ : ByteArray) ++ p) else tgtText f a p
theorem pre47 (p : ByteArray) (hp : p.size ≤ 140737488351232) : strings_HasPrefix.f p (⟨#[47]⟩ : ByteArray) = some (decide (p.data.toList.head? = some 47)) := by
  unfold strings_HasPrefix.f stringslite_HasPrefix.f
  have hsl := size_list p
  cases hl : p.data.toList with
  | nil =>
    rw [hl] at hsl
    have h0 : p.size = 0 := hsl
    have hs : (⟨#[47]⟩ : ByteArray).size = 1 := rfl
    rw [hs, h0, if_neg (by decide)]
    rfl
  | cons c l =>
    rw [hl] at hsl
    have h1 : 1 ≤ p.size := by rw [hsl]; simp
    have hs : (⟨#[47]⟩ : ByteArray).size = 1 := rfl
    have hx : p.extract 0 1 = ⟨#[c]⟩ := by rw [ext_list, hl]; rfl
    rw [hs, if_pos (show (p.size : Int) ≥ ((1 : Nat) : Int) by omega), if_pos (show (0 : Int) ≤ ((1 : Nat) : Int) by omega), if_pos (show ((1 : Nat) : Int) ≤ (p.size : Int) by omega)]
    rw [show ((((1 : Nat) : Int)).toNat) = 1 from rfl, hx, Lib.toList_data, Lib.toList_data]
    simp only [Option.bind_some]
    congr 1
    rw [Bool.eq_iff_iff]
    simp
theorem out_j0 (b : Bool) (f : Int) (a p : ByteArray) (hp : p.size ≤ 1000000) (k : Nat) : target_Out.j0 (k + 1) b f a p = some (if b = true then ⟨#[42]⟩ else if p.data.toList.head? = some 47 then p else (⟨#[47]⟩ : ByteArray) ++ p) := by
  simp only [target_Out.j0]
  cases b with
  | true => rfl
  | false =>
    rw [if_neg (show ¬ (false = true) by decide), if_neg (show ¬ (false = true) by decide), pre47 p (by omega)]
    simp only [Option.bind_some]
    by_cases h : p.data.toList.head? = some 47
    · rw [if_pos (by rw [decide_eq_true h]), if_pos h]
    · rw [if_neg (by rw [decide_eq_false h]; simp), if_neg h, if_pos (show 1 + p.size ≤ 9223372036854775807 by omega)]
theorem prog_out (m : ByteArray) (f : Int) (a p : ByteArray) (ha : a.size ≤ 1000000) (hp : p.size ≤ 1000000) (k : Nat) (hk : 2 < k) : target_Out.f k m f a p = some (outB m f a p) := by
  obtain ⟨k, rfl⟩ : ∃ q, k = q + 1 := ⟨k - 1, by omega⟩
  unfold target_Out.f outB
  rw [Lib.toList_data, Lib.toList_data]
  by_cases h2 : f = 2
  · rw [if_pos h2, if_pos h2]
    by_cases he : p.data.toList = []
    · rw [if_pos he, out_j0 _ f a p hp k]
      by_cases ho : m.data.toList = optL
      · rw [if_pos (show p.data.toList = [] ∧ m.data.toList = optL from ⟨he, ho⟩), if_pos (show (m.data.toList == [79, 80, 84, 73, 79, 78, 83]) = true from beq_iff_eq.mpr ho)]
      · rw [if_neg (show ¬ (p.data.toList = [] ∧ m.data.toList = optL) from fun h => ho h.2), if_neg (show ¬ ((m.data.toList == [79, 80, 84, 73, 79, 78, 83]) = true) by rw [show (m.data.toList == [79, 80, 84, 73, 79, 78, 83]) = false from beq_eq_false_iff_ne.mpr ho]; simp)]
    · rw [if_neg he, out_j0 _ f a p hp k, if_neg (show ¬ (p.data.toList = [] ∧ m.data.toList = optL) from fun h => he h.1), if_neg (show ¬ (false = true) by decide)]
  · rw [if_neg h2, if_neg h2, prog_text f a p ha hp]
    rfl
theorem refout_j0 (b : Bool) (f : Int) (a p : ByteArray) (hp : p.size ≤ 1000000) (k : Nat) : abutmentref12_Out.j0 (k + 1) b f a p = some (if b = true then ⟨#[42]⟩ else if p.data.toList.head? = some 47 then p else (⟨#[47]⟩ : ByteArray) ++ p) := by
  simp only [abutmentref12_Out.j0]
  cases b with
  | true => rfl
  | false =>
    rw [if_neg (show ¬ (false = true) by decide), if_neg (show ¬ (false = true) by decide), Lib.toList_data]
    have hsl := size_list p
    by_cases he : p.data.toList = []
    · rw [if_pos he, if_pos (show 1 + p.size ≤ 9223372036854775807 by omega), if_neg (show ¬ (p.data.toList.head? = some 47) by rw [he]; simp)]
    · have hpos := List.length_pos_iff.2 he
      have hh := head_bt p he
      rw [if_neg he, if_pos (show (0 : Int) < (p.size : Int) by omega)]
      by_cases h : bt p 0 = 47
      · rw [if_pos h, if_pos (hh.1 h)]
      · rw [if_neg h, if_neg (show ¬ (p.data.toList.head? = some 47) from fun q => h (hh.2 q)), if_pos (show 1 + p.size ≤ 9223372036854775807 by omega)]
theorem ref_out (m : ByteArray) (f : Int) (a p : ByteArray) (ha : a.size ≤ 1000000) (hp : p.size ≤ 1000000) (k : Nat) (hk : 2 < k) : abutmentref12_Out.f k m f a p = some (outB m f a p) := by
  obtain ⟨k, rfl⟩ : ∃ q, k = q + 1 := ⟨k - 1, by omega⟩
  rw [← prog_out m f a p ha hp (k + 1) hk]
  unfold abutmentref12_Out.f target_Out.f
  rw [refout_j0 _ f a p hp k, refout_j0 _ f a p hp k, out_j0 _ f a p hp k, out_j0 _ f a p hp k]
  rfl
theorem lives12_parse : targetB (⟨#[71, 69, 84]⟩ : ByteArray) (⟨#[104, 116, 116, 112, 58, 47, 47, 97, 46, 98, 47, 99, 63, 100]⟩ : ByteArray) = (2, ⟨#[97, 46, 98]⟩, ⟨#[47, 99, 63, 100]⟩, 0) := by
  decide +kernel
theorem lives12 (k : Nat) (hk : 2 < k) : abutmentlaw12_lives.f k = some true := by
  unfold abutmentlaw12_lives.f
  rw [prog_target _ _ (by decide), lives12_parse]
  simp only [Option.bind_some]
  rw [prog_out _ _ _ _ (by decide) (by decide) k hk, prog_out _ _ _ _ (by decide) (by decide) k hk]
  simp only [Option.bind_some]
  simp only [Lib.toList_data]
  decide +kernel


end Go.Proofs.YtdjmgmiaognncaaDoor.X
