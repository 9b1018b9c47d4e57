/- Part 3 of the texts behind the claim on FieldUnfolds: contracts of the functions that it reaches, and plain laws about them. No conditions of its own. -/
import Derived.Test.YtkjkbenmoogdjaaDoorCFieldUnfolds1
import Derived.Lib.OthersKept
import Derived.Test.YtkjkbenmoogdjaaDoorCFieldUnfolds2
namespace Go.Proofs.YtkjkbenmoogdjaaDoor.X
open Go.RowKit Go.Proofs.YtkjkbenmoogdjaaDoorW.PrintWords Go.Proofs.YtkjkbenmoogdjaaDoorW.PrintLast Go.Proofs.YtkjkbenmoogdjaaDoorW.PrintMore
attribute [local go_sem] max2_int min2_int max_two min_two max_three min_three max_four min_four   -- for this text's walks alone
set_option linter.unusedVariables false
set_option linter.unusedSimpArgs false

/-! ### field_Right: function 9 -/
def field_Right.f (k : Nat) (a0_0 : ByteArray) (a0_1 : ByteArray) : Option (Bool) := (octet_Token.f a0_0).bind fun t102 => (if t102 = true then ((octet_Value.f a0_1).bind fun t103 => (if t103 = true then ((octet_Trim.f k a0_1).bind fun t104 => (some (t104.toList == a0_1.toList))) else (some false))) else (some false))
theorem field_Right.mono : ∀ a0 a1 k, LeO (field_Right.f k a0 a1) (field_Right.f (k + 1) a0 a1) := by
  intro a0 a1 k
  unfold field_Right.f
  repeat' first
      | (with_reducible exact octet_Trim.mono _ _)
      | (with_reducible exact LeO.refl _)
      | (with_reducible exact LeO.none _)
      | (with_reducible refine LeO.ite ?_ ?_)
      | (with_reducible refine LeO.bind ?_ (fun _ => ?_))
      | exact octet_Trim.mono _ _
      | exact LeO.none _
      | refine LeO.ite ?_ ?_
      | refine LeO.bind ?_ (fun _ => ?_)
def field_Right.T1 : Bool × List (List Nat × List Nat) := (true, [([], []), ([0], [0]), ([1], [1]), ([2, 2], [2]), ([3], [3]), ([4, 3], [3, 4]), ([5, 3, 3], [3, 5]), ([3, 6], [3, 6]), ([7, 6], [7]), ([8], [8]), ([9, 8], [8, 9]), ([10, 8, 8], [8, 10]), ([8], [8]), ([12, 8], [8, 12]), ([11, 13, 8], [8, 11, 13]), ([8, 14], [8, 14]), ([15, 11, 0, 1, 2, 3, 4, 5, 6, 7, 8, 9, 10, 11, 12, 13, 14, 15], [15])])
def field_Right.B1 : List Nat := [0, 1, 3, 7, 15, 31, 63, 127, 255, 511, 1023, 2047, 511, 4607, 16383, 32767, 65535]
theorem field_Right.tab1 : rtab .any (opsOf Tryd.f9 1) = field_Right.T1 := by kernel_rfl
theorem field_Right.bits1 : waitsOk field_Right.T1.2 field_Right.B1 = true := by kernel_rfl
set_option maxHeartbeats 8000000 in
set_option maxRecDepth 100000 in
theorem field_Right.calls (k : Nat) (a0_0 : ByteArray) (a0_1 : ByteArray) (r : Bool) (w : World) (h : field_Right.f k a0_0 a0_1 = some r) :
    Calls Tryd.prog 9 #[.agg #[.string a0_0, .string a0_1]] w fun e w' => e = .returned (.bool r) ∧ Below w.heap.size w w' := by
  have hu23 := Tryd.underlying23
  have HB := Aside0.mk (Below.refl w.heap.size w)
  have H : ((octet_Token.f a0_0).bind fun t102 => (if t102 = true then ((octet_Value.f a0_1).bind fun t103 => (if t103 = true then ((octet_Trim.f k a0_1).bind fun t104 => (some (t104.toList == a0_1.toList))) else (some false))) else (some false))) = some r := h
  clear h
  replace H := Option.bind_eq_some_iff.mp H
  obtain ⟨t102, A20, H⟩ := H
  replace H : (if t102 = true then ((octet_Value.f a0_1).bind fun t103 => (if t103 = true then ((octet_Trim.f k a0_1).bind fun t104 => (some (t104.toList == a0_1.toList))) else (some false))) else (some false)) = some r := H
  have A2 := Aside0.mk A20
  clear A20
  by_cases c3 : t102 = true
  · subst c3
    have H1 : ((octet_Value.f a0_1).bind fun t103 => (if t103 = true then ((octet_Trim.f k a0_1).bind fun t104 => (some (t104.toList == a0_1.toList))) else (some false))) = some r := by rw [if_pos rfl] at H; exact H
    clear H
    have H := H1
    clear H1
    replace H := Option.bind_eq_some_iff.mp H
    obtain ⟨t103, A40, H⟩ := H
    replace H : (if t103 = true then ((octet_Trim.f k a0_1).bind fun t104 => (some (t104.toList == a0_1.toList))) else (some false)) = some r := H
    have A4 := Aside0.mk A40
    clear A40
    by_cases c5 : t103 = true
    · subst c5
      have H1 : ((octet_Trim.f k a0_1).bind fun t104 => (some (t104.toList == a0_1.toList))) = some r := by rw [if_pos rfl] at H; exact H
      clear H
      have H := H1
      clear H1
      replace H := Option.bind_eq_some_iff.mp H
      obtain ⟨t104, A60, H⟩ := H
      replace H : (some (t104.toList == a0_1.toList)) = some r := H
      have A6 := Aside0.mk A60
      clear A60
      obtain rfl := Option.some.inj H
      go_enter Tryd.func9, Tryd.ntmps9
      try go_wp2_with (first | ((with_reducible refine gate_dst (N := 1) rfl ?_); refine box_event ?hg (N := 1) ?hd (cs := #[.string a0_0, .string a0_1]) (t := 23) ?hr ?_; (case hd => rfl); (case hg => rfl); (case hr => first | (go_simp; done) | (go_simp; rfl)); intro gb101 hg w7 hbox hb; have n0_ := Aside0.mk (below_step (by repeat (first | (with_reducible first | exact HB.out | apply below_alloc | apply pw_below_drewN | apply below_drew1) | exact HB.out)) hb); have n1_ := Aside0.mk (hbox); have n2_ := Aside0.mk ((by rw [hg]; exact (below_size (by repeat (first | (with_reducible first | exact HB.out | apply below_alloc | apply pw_below_drewN | apply below_drew1) | exact HB.out))) : w.heap.size ≤ gb101)); have n3_ := Aside0.mk ((by rw [hg]; exact (below_size (by repeat (first | (with_reducible first | exact HB.out | apply below_alloc | apply pw_below_drewN | apply below_drew1) | exact HB.out))) : w.heap.size ≤ gb101)); clear HB; have HB := n0_; have BK101 := n1_; have GW101 := n2_; have GE101 := n3_; clear n0_ n1_ n2_ n3_; clear hb hbox hg))
      have n0_ := Aside0.mk (blk_drew BK101.out)
      have n1_ := Aside0.mk (below_drew1 HB.out)
      clear BK101
      clear HB
      have BK101 := n0_
      have HB := n1_
      clear n0_ n1_
      refine start_ (n := 17) (S := fun w' => w'.cell? ⟨gb101, 0, none⟩ = some (.string a0_0) ∧ w'.cell? ⟨gb101, 1, none⟩ = some (.string a0_1)) (ds := []) #[false, false, false, false, false, false, false, false, false, false, false, false, false, false, false, false, false] (by kernel_rfl) rfl rfl ⟨(blk_cell BK101.out 0).trans rfl, (blk_cell BK101.out 1).trans rfl⟩ (fun hHeld => ?_); refine with_tabW field_Right.tab1 field_Right.bits1 (fun HT_ HW_ => ?_)
      generalize w7.drew = w8 at BK101 HB hHeld ⊢
      refine pure_ (i := 0) (N := some 3) (v := ?_) (a' := ?_) #[true, false, false, false, false, false, false, false, false, false, false, false, false, false, false, false, false] rfl rfl (any_of HT_.out (by kernel_rfl)) (fun _ _ _ h => h) (Or.inl ⟨by rfl, ?_⟩) ?_ ?_
      rotate_left
      · intro w'
        go_simp
        with_reducible rfl
      rotate_left
      · simp only [Act.put, List.setIfInBounds_toArray, List.set_cons_zero, List.set_cons_succ, i64_w, i32_w]
        rfl
      refine take_ (i := 1) (N := some 4) (v := ?_) (a' := ?_) #[true, true, false, false, false, false, false, false, false, false, false, false, false, false, false, false, false] rfl rfl (take_ofW HT_.out HW_.out (by kernel_rfl)) (fun _ _ _ h => h) (Or.inl ⟨by rfl, ?_⟩) hHeld ?_ ?_
      rotate_left
      · rintro w' ⟨s0, s1⟩
        go_simp
        with_reducible rfl
      rotate_left
      · simp only [Act.put, List.setIfInBounds_toArray, List.set_cons_zero, List.set_cons_succ, i64_w, i32_w]
        rfl
      refine one_ (i := 2) (N := some 5) #[true, true, true, false, false, false, false, false, false, false, false, false, false, false, false, false, false] rfl rfl (one_of HT_.out (by kernel_rfl)) (by decide) (fun K hK => ?_)
      refine goes_ Tryd.func18 (by kernel_rfl) rfl #[.string a0_0] (by rfl) rfl rfl (by (try simp only [List.map_toArray, List.map_cons, List.map_nil]); first | done | rfl | (simp only [List.length_drop, List.length_take]; rfl)) ?_
      with_reducible refine (octet_Token.calls a0_0 true _ A2.out).mono ?_
      rintro e w9 ⟨rfl, hb⟩
      refine ⟨_, rfl, ?_⟩
      have n0_ := Aside0.mk (blk_below (g := gb101) (o := .cells #[.string a0_0, .string a0_1] 23 (0, 0)) (by (with_reducible repeat (first | refine blk_drewN ?_ _ | refine blk_drew ?_ | refine blk_alloc ?_ _)); exact BK101.out) hb)
      have n1_ := Aside0.mk (below_step (by repeat (first | (with_reducible first | exact HB.out | apply below_alloc | apply pw_below_drewN | apply below_drew1 | refine below_set ?_ GE101.out) | exact HB.out)) hb)
      clear BK101
      clear HB
      have BK101 := n0_
      have HB := n1_
      clear n0_ n1_
      (try clear hb)
      (try clear hb2)
      (try clear hk)
      (try clear hi)
      refine hK.out _ _ ⟨(blk_cell BK101.out 0).trans rfl, (blk_cell BK101.out 1).trans rfl⟩ (fun hHeld => ?_)
      clear hK K
      refine norm_ (a' := ?_) ?_ ?_
      rotate_left
      · show Act.put _ (some 5) _ = _
        simp only [Act.put, List.setIfInBounds_toArray, List.set_cons_zero, List.set_cons_succ, i64_w, i32_w]
        rfl
      refine pure_ (i := 3) (N := some 6) (v := ?_) (a' := ?_) #[true, true, true, true, false, false, false, false, false, false, false, false, false, false, false, false, false] rfl rfl (any_of HT_.out (by kernel_rfl)) (fun _ _ _ h => h) (Or.inl ⟨by rfl, ?_⟩) ?_ ?_
      rotate_left
      · intro w'
        go_simp
        with_reducible rfl
      rotate_left
      · simp only [Act.put, List.setIfInBounds_toArray, List.set_cons_zero, List.set_cons_succ, i64_w, i32_w]
        rfl
      refine pure_ (i := 4) (N := some 7) (v := ?_) (a' := ?_) #[true, true, true, true, true, false, false, false, false, false, false, false, false, false, false, false, false] rfl rfl (any_of HT_.out (by kernel_rfl)) (fun _ _ _ h => h) (Or.inl ⟨by rfl, ?_⟩) ?_ ?_
      rotate_left
      · intro w'
        go_simp
        with_reducible rfl
      rotate_left
      · simp only [Act.put, List.setIfInBounds_toArray, List.set_cons_zero, List.set_cons_succ, i64_w, i32_w]
        rfl
      refine take_ (i := 5) (N := some 8) (v := ?_) (a' := ?_) #[true, true, true, true, true, true, false, false, false, false, false, false, false, false, false, false, false] rfl rfl (take_ofW HT_.out HW_.out (by kernel_rfl)) (fun _ _ _ h => h) (Or.inl ⟨by rfl, ?_⟩) hHeld ?_ ?_
      rotate_left
      · rintro w' ⟨s0, s1⟩
        go_simp
        with_reducible rfl
      rotate_left
      · simp only [Act.put, List.setIfInBounds_toArray, List.set_cons_zero, List.set_cons_succ, i64_w, i32_w]
        rfl
      refine one_ (i := 6) (N := some 9) #[true, true, true, true, true, true, true, false, false, false, false, false, false, false, false, false, false] rfl rfl (one_of HT_.out (by kernel_rfl)) (by decide) (fun K hK => ?_)
      refine goes_ Tryd.func19 (by kernel_rfl) rfl #[.string a0_1] (by rfl) rfl rfl (by (try simp only [List.map_toArray, List.map_cons, List.map_nil]); first | done | rfl | (simp only [List.length_drop, List.length_take]; rfl)) ?_
      with_reducible refine (octet_Value.calls a0_1 true _ A4.out).mono ?_
      rintro e w10 ⟨rfl, hb⟩
      refine ⟨_, rfl, ?_⟩
      have n0_ := Aside0.mk (blk_below (g := gb101) (o := .cells #[.string a0_0, .string a0_1] 23 (0, 0)) (by (with_reducible repeat (first | refine blk_drewN ?_ _ | refine blk_drew ?_ | refine blk_alloc ?_ _)); exact BK101.out) hb)
      have n1_ := Aside0.mk (below_step (by repeat (first | (with_reducible first | exact HB.out | apply below_alloc | apply pw_below_drewN | apply below_drew1 | refine below_set ?_ GE101.out) | exact HB.out)) hb)
      clear BK101
      clear HB
      have BK101 := n0_
      have HB := n1_
      clear n0_ n1_
      (try clear hb)
      (try clear hb2)
      (try clear hk)
      (try clear hi)
      refine hK.out _ _ ⟨(blk_cell BK101.out 0).trans rfl, (blk_cell BK101.out 1).trans rfl⟩ (fun hHeld => ?_)
      clear hK K
      refine norm_ (a' := ?_) ?_ ?_
      rotate_left
      · show Act.put _ (some 9) _ = _
        simp only [Act.put, List.setIfInBounds_toArray, List.set_cons_zero, List.set_cons_succ, i64_w, i32_w]
        rfl
      refine pure_ (i := 7) (N := some 10) (v := ?_) (a' := ?_) #[true, true, true, true, true, true, true, true, false, false, false, false, false, false, false, false, false] rfl rfl (any_of HT_.out (by kernel_rfl)) (fun _ _ _ h => h) (Or.inl ⟨by rfl, ?_⟩) ?_ ?_
      rotate_left
      · intro w'
        go_simp
        with_reducible rfl
      rotate_left
      · simp only [Act.put, List.setIfInBounds_toArray, List.set_cons_zero, List.set_cons_succ, i64_w, i32_w]
        rfl
      refine pure_ (i := 8) (N := some 11) (v := ?_) (a' := ?_) #[true, true, true, true, true, true, true, true, true, false, false, false, false, false, false, false, false] rfl rfl (any_of HT_.out (by kernel_rfl)) (fun _ _ _ h => h) (Or.inl ⟨by rfl, ?_⟩) ?_ ?_
      rotate_left
      · intro w'
        go_simp
        with_reducible rfl
      rotate_left
      · simp only [Act.put, List.setIfInBounds_toArray, List.set_cons_zero, List.set_cons_succ, i64_w, i32_w]
        rfl
      refine pure_ (i := 9) (N := some 12) (v := ?_) (a' := ?_) #[true, true, true, true, true, true, true, true, true, true, false, false, false, false, false, false, false] rfl rfl (any_of HT_.out (by kernel_rfl)) (fun _ _ _ h => h) (Or.inl ⟨by rfl, ?_⟩) ?_ ?_
      rotate_left
      · intro w'
        go_simp
        with_reducible rfl
      rotate_left
      · simp only [Act.put, List.setIfInBounds_toArray, List.set_cons_zero, List.set_cons_succ, i64_w, i32_w]
        rfl
      refine pure_ (i := 12) (N := some 15) (v := ?_) (a' := ?_) #[true, true, true, true, true, true, true, true, true, true, false, false, true, false, false, false, false] rfl rfl (any_of HT_.out (by kernel_rfl)) (fun _ _ _ h => h) (Or.inl ⟨by rfl, ?_⟩) ?_ ?_
      rotate_left
      · intro w'
        go_simp
        with_reducible rfl
      rotate_left
      · simp only [Act.put, List.setIfInBounds_toArray, List.set_cons_zero, List.set_cons_succ, i64_w, i32_w]
        rfl
      refine take_ (i := 10) (N := some 13) (v := ?_) (a' := ?_) #[true, true, true, true, true, true, true, true, true, true, true, false, true, false, false, false, false] rfl rfl (take_ofW HT_.out HW_.out (by kernel_rfl)) (fun _ _ _ h => h) (Or.inl ⟨by rfl, ?_⟩) hHeld ?_ ?_
      rotate_left
      · rintro w' ⟨s0, s1⟩
        go_simp
        with_reducible rfl
      rotate_left
      · simp only [Act.put, List.setIfInBounds_toArray, List.set_cons_zero, List.set_cons_succ, i64_w, i32_w]
        rfl
      refine take_ (i := 13) (N := some 16) (v := ?_) (a' := ?_) #[true, true, true, true, true, true, true, true, true, true, true, false, true, true, false, false, false] rfl rfl (take_ofW HT_.out HW_.out (by kernel_rfl)) (fun _ _ _ h => h) (Or.inl ⟨by rfl, ?_⟩) hHeld ?_ ?_
      rotate_left
      · rintro w' ⟨s0, s1⟩
        go_simp
        with_reducible rfl
      rotate_left
      · simp only [Act.put, List.setIfInBounds_toArray, List.set_cons_zero, List.set_cons_succ, i64_w, i32_w]
        rfl
      refine one_ (i := 11) (N := some 14) #[true, true, true, true, true, true, true, true, true, true, true, true, true, true, false, false, false] rfl rfl (one_of HT_.out (by kernel_rfl)) (by decide) (fun K hK => ?_)
      refine goes_ Tryd.func20 (by kernel_rfl) rfl #[.string a0_1] (by rfl) rfl rfl (by (try simp only [List.map_toArray, List.map_cons, List.map_nil]); first | done | rfl | (simp only [List.length_drop, List.length_take]; rfl)) ?_
      with_reducible refine (octet_Trim.calls k a0_1 t104 _ A6.out).mono ?_
      rintro e w' ⟨rfl, ⟨nd, rfl⟩⟩
      refine ⟨_, rfl, ?_⟩
      refine hK.out _ _ ⟨(blk_cell BK101.out 0).trans rfl, (blk_cell BK101.out 1).trans rfl⟩ (fun hHeld => ?_)
      clear hK K
      refine norm_ (a' := ?_) ?_ ?_
      rotate_left
      · show Act.put _ (some 14) _ = _
        simp only [Act.put, List.setIfInBounds_toArray, List.set_cons_zero, List.set_cons_succ, i64_w, i32_w]
        rfl
      refine pure_ (i := 14) (N := some 17) (v := ?_) (a' := ?_) #[true, true, true, true, true, true, true, true, true, true, true, true, true, true, true, false, false] rfl rfl (any_of HT_.out (by kernel_rfl)) (fun _ _ _ h => h) (Or.inl ⟨by rfl, ?_⟩) ?_ ?_
      rotate_left
      · intro w'
        go_simp
        with_reducible rfl
      rotate_left
      · simp only [Act.put, List.setIfInBounds_toArray, List.set_cons_zero, List.set_cons_succ, i64_w, i32_w]
        rfl
      refine pure_ (i := 15) (N := some 18) (v := ?_) (a' := ?_) #[true, true, true, true, true, true, true, true, true, true, true, true, true, true, true, true, false] rfl rfl (any_of HT_.out (by kernel_rfl)) (fun _ _ _ h => h) (Or.inl ⟨by rfl, ?_⟩) ?_ ?_
      rotate_left
      · intro w'
        go_simp
        with_reducible rfl
      rotate_left
      · simp only [Act.put, List.setIfInBounds_toArray, List.set_cons_zero, List.set_cons_succ, i64_w, i32_w]
        rfl
      refine pure_ (i := 16) (N := some 2) (v := ?_) (a' := ?_) #[true, true, true, true, true, true, true, true, true, true, true, true, true, true, true, true, true] rfl rfl (any_of HT_.out (by kernel_rfl)) (fun _ _ _ h => h) (Or.inl ⟨by rfl, ?_⟩) ?_ ?_
      rotate_left
      · intro w'
        go_simp
        with_reducible rfl
      rotate_left
      · simp only [Act.put, List.setIfInBounds_toArray, List.set_cons_zero, List.set_cons_succ, i64_w, i32_w]
        rfl
      refine done_ (done_of HT_.out (by kernel_rfl)) ?_
      try go_wp2
      go_ret
      exact ⟨by first | rfl | (simp [errW_none, errW_some] <;> rfl) | (simp [*, errW_none, errW_some] <;> rfl), by repeat (first | (with_reducible first | exact HB.out | apply below_alloc | apply pw_below_drewN | apply below_drew1 | refine below_set ?_ GE101.out) | exact HB.out)⟩
    · replace c5 := Bool.eq_false_iff.mpr c5
      subst c5
      have H1 : (some false) = some r := by rw [if_neg (show ¬ (false = true) by decide)] at H; exact H
      clear H
      have H := H1
      clear H1
      obtain rfl := Option.some.inj H
      go_enter Tryd.func9, Tryd.ntmps9
      try go_wp2_with (first | ((with_reducible refine gate_dst (N := 1) rfl ?_); refine box_event ?hg (N := 1) ?hd (cs := #[.string a0_0, .string a0_1]) (t := 23) ?hr ?_; (case hd => rfl); (case hg => rfl); (case hr => first | (go_simp; done) | (go_simp; rfl)); intro gb101 hg w11 hbox hb; have n0_ := Aside0.mk (below_step (by repeat (first | (with_reducible first | exact HB.out | apply below_alloc | apply pw_below_drewN | apply below_drew1) | exact HB.out)) hb); have n1_ := Aside0.mk (hbox); have n2_ := Aside0.mk ((by rw [hg]; exact (below_size (by repeat (first | (with_reducible first | exact HB.out | apply below_alloc | apply pw_below_drewN | apply below_drew1) | exact HB.out))) : w.heap.size ≤ gb101)); have n3_ := Aside0.mk ((by rw [hg]; exact (below_size (by repeat (first | (with_reducible first | exact HB.out | apply below_alloc | apply pw_below_drewN | apply below_drew1) | exact HB.out))) : w.heap.size ≤ gb101)); clear HB; have HB := n0_; have BK101 := n1_; have GW101 := n2_; have GE101 := n3_; clear n0_ n1_ n2_ n3_; clear hb hbox hg))
      have n0_ := Aside0.mk (blk_drew BK101.out)
      have n1_ := Aside0.mk (below_drew1 HB.out)
      clear BK101
      clear HB
      have BK101 := n0_
      have HB := n1_
      clear n0_ n1_
      refine start_ (n := 17) (S := fun w' => w'.cell? ⟨gb101, 0, none⟩ = some (.string a0_0) ∧ w'.cell? ⟨gb101, 1, none⟩ = some (.string a0_1)) (ds := []) #[false, false, false, false, false, false, false, false, false, false, false, false, false, false, false, false, false] (by kernel_rfl) rfl rfl ⟨(blk_cell BK101.out 0).trans rfl, (blk_cell BK101.out 1).trans rfl⟩ (fun hHeld => ?_); refine with_tabW field_Right.tab1 field_Right.bits1 (fun HT_ HW_ => ?_)
      generalize w11.drew = w12 at BK101 HB hHeld ⊢
      refine pure_ (i := 0) (N := some 3) (v := ?_) (a' := ?_) #[true, false, false, false, false, false, false, false, false, false, false, false, false, false, false, false, false] rfl rfl (any_of HT_.out (by kernel_rfl)) (fun _ _ _ h => h) (Or.inl ⟨by rfl, ?_⟩) ?_ ?_
      rotate_left
      · intro w'
        go_simp
        with_reducible rfl
      rotate_left
      · simp only [Act.put, List.setIfInBounds_toArray, List.set_cons_zero, List.set_cons_succ, i64_w, i32_w]
        rfl
      refine take_ (i := 1) (N := some 4) (v := ?_) (a' := ?_) #[true, true, false, false, false, false, false, false, false, false, false, false, false, false, false, false, false] rfl rfl (take_ofW HT_.out HW_.out (by kernel_rfl)) (fun _ _ _ h => h) (Or.inl ⟨by rfl, ?_⟩) hHeld ?_ ?_
      rotate_left
      · rintro w' ⟨s0, s1⟩
        go_simp
        with_reducible rfl
      rotate_left
      · simp only [Act.put, List.setIfInBounds_toArray, List.set_cons_zero, List.set_cons_succ, i64_w, i32_w]
        rfl
      refine one_ (i := 2) (N := some 5) #[true, true, true, false, false, false, false, false, false, false, false, false, false, false, false, false, false] rfl rfl (one_of HT_.out (by kernel_rfl)) (by decide) (fun K hK => ?_)
      refine goes_ Tryd.func18 (by kernel_rfl) rfl #[.string a0_0] (by rfl) rfl rfl (by (try simp only [List.map_toArray, List.map_cons, List.map_nil]); first | done | rfl | (simp only [List.length_drop, List.length_take]; rfl)) ?_
      with_reducible refine (octet_Token.calls a0_0 true _ A2.out).mono ?_
      rintro e w13 ⟨rfl, hb⟩
      refine ⟨_, rfl, ?_⟩
      have n0_ := Aside0.mk (blk_below (g := gb101) (o := .cells #[.string a0_0, .string a0_1] 23 (0, 0)) (by (with_reducible repeat (first | refine blk_drewN ?_ _ | refine blk_drew ?_ | refine blk_alloc ?_ _)); exact BK101.out) hb)
      have n1_ := Aside0.mk (below_step (by repeat (first | (with_reducible first | exact HB.out | apply below_alloc | apply pw_below_drewN | apply below_drew1 | refine below_set ?_ GE101.out) | exact HB.out)) hb)
      clear BK101
      clear HB
      have BK101 := n0_
      have HB := n1_
      clear n0_ n1_
      (try clear hb)
      (try clear hb2)
      (try clear hk)
      (try clear hi)
      refine hK.out _ _ ⟨(blk_cell BK101.out 0).trans rfl, (blk_cell BK101.out 1).trans rfl⟩ (fun hHeld => ?_)
      clear hK K
      refine norm_ (a' := ?_) ?_ ?_
      rotate_left
      · show Act.put _ (some 5) _ = _
        simp only [Act.put, List.setIfInBounds_toArray, List.set_cons_zero, List.set_cons_succ, i64_w, i32_w]
        rfl
      refine pure_ (i := 3) (N := some 6) (v := ?_) (a' := ?_) #[true, true, true, true, false, false, false, false, false, false, false, false, false, false, false, false, false] rfl rfl (any_of HT_.out (by kernel_rfl)) (fun _ _ _ h => h) (Or.inl ⟨by rfl, ?_⟩) ?_ ?_
      rotate_left
      · intro w'
        go_simp
        with_reducible rfl
      rotate_left
      · simp only [Act.put, List.setIfInBounds_toArray, List.set_cons_zero, List.set_cons_succ, i64_w, i32_w]
        rfl
      refine pure_ (i := 4) (N := some 7) (v := ?_) (a' := ?_) #[true, true, true, true, true, false, false, false, false, false, false, false, false, false, false, false, false] rfl rfl (any_of HT_.out (by kernel_rfl)) (fun _ _ _ h => h) (Or.inl ⟨by rfl, ?_⟩) ?_ ?_
      rotate_left
      · intro w'
        go_simp
        with_reducible rfl
      rotate_left
      · simp only [Act.put, List.setIfInBounds_toArray, List.set_cons_zero, List.set_cons_succ, i64_w, i32_w]
        rfl
      refine take_ (i := 5) (N := some 8) (v := ?_) (a' := ?_) #[true, true, true, true, true, true, false, false, false, false, false, false, false, false, false, false, false] rfl rfl (take_ofW HT_.out HW_.out (by kernel_rfl)) (fun _ _ _ h => h) (Or.inl ⟨by rfl, ?_⟩) hHeld ?_ ?_
      rotate_left
      · rintro w' ⟨s0, s1⟩
        go_simp
        with_reducible rfl
      rotate_left
      · simp only [Act.put, List.setIfInBounds_toArray, List.set_cons_zero, List.set_cons_succ, i64_w, i32_w]
        rfl
      refine one_ (i := 6) (N := some 9) #[true, true, true, true, true, true, true, false, false, false, false, false, false, false, false, false, false] rfl rfl (one_of HT_.out (by kernel_rfl)) (by decide) (fun K hK => ?_)
      refine goes_ Tryd.func19 (by kernel_rfl) rfl #[.string a0_1] (by rfl) rfl rfl (by (try simp only [List.map_toArray, List.map_cons, List.map_nil]); first | done | rfl | (simp only [List.length_drop, List.length_take]; rfl)) ?_
      with_reducible refine (octet_Value.calls a0_1 false _ A4.out).mono ?_
      rintro e w14 ⟨rfl, hb⟩
      refine ⟨_, rfl, ?_⟩
      have n0_ := Aside0.mk (blk_below (g := gb101) (o := .cells #[.string a0_0, .string a0_1] 23 (0, 0)) (by (with_reducible repeat (first | refine blk_drewN ?_ _ | refine blk_drew ?_ | refine blk_alloc ?_ _)); exact BK101.out) hb)
      have n1_ := Aside0.mk (below_step (by repeat (first | (with_reducible first | exact HB.out | apply below_alloc | apply pw_below_drewN | apply below_drew1 | refine below_set ?_ GE101.out) | exact HB.out)) hb)
      clear BK101
      clear HB
      have BK101 := n0_
      have HB := n1_
      clear n0_ n1_
      (try clear hb)
      (try clear hb2)
      (try clear hk)
      (try clear hi)
      refine hK.out _ _ ⟨(blk_cell BK101.out 0).trans rfl, (blk_cell BK101.out 1).trans rfl⟩ (fun hHeld => ?_)
      clear hK K
      refine norm_ (a' := ?_) ?_ ?_
      rotate_left
      · show Act.put _ (some 9) _ = _
        simp only [Act.put, List.setIfInBounds_toArray, List.set_cons_zero, List.set_cons_succ, i64_w, i32_w]
        rfl
      refine pure_ (i := 7) (N := some 10) (v := ?_) (a' := ?_) #[true, true, true, true, true, true, true, true, false, false, false, false, false, false, false, false, false] rfl rfl (any_of HT_.out (by kernel_rfl)) (fun _ _ _ h => h) (Or.inl ⟨by rfl, ?_⟩) ?_ ?_
      rotate_left
      · intro w'
        go_simp
        with_reducible rfl
      rotate_left
      · simp only [Act.put, List.setIfInBounds_toArray, List.set_cons_zero, List.set_cons_succ, i64_w, i32_w]
        rfl
      refine pure_ (i := 8) (N := some 11) (v := ?_) (a' := ?_) #[true, true, true, true, true, true, true, true, true, false, false, false, false, false, false, false, false] rfl rfl (any_of HT_.out (by kernel_rfl)) (fun _ _ _ h => h) (Or.inl ⟨by rfl, ?_⟩) ?_ ?_
      rotate_left
      · intro w'
        go_simp
        with_reducible rfl
      rotate_left
      · simp only [Act.put, List.setIfInBounds_toArray, List.set_cons_zero, List.set_cons_succ, i64_w, i32_w]
        rfl
      refine pure_ (i := 9) (N := some 12) (v := undef) (a' := ?_) #[true, true, true, true, true, true, true, true, true, true, false, false, false, false, false, false, false] rfl rfl (any_of HT_.out (by kernel_rfl)) (fun _ _ _ h => h) (Or.inr ⟨by rfl, rfl⟩) ?_ ?_
      rotate_left
      · simp only [Act.put, List.setIfInBounds_toArray, List.set_cons_zero, List.set_cons_succ, i64_w, i32_w]
        rfl
      refine pure_ (i := 10) (N := some 13) (v := undef) (a' := ?_) #[true, true, true, true, true, true, true, true, true, true, true, false, false, false, false, false, false] rfl rfl (any_of HT_.out (by kernel_rfl)) (fun _ _ _ h => h) (Or.inr ⟨by rfl, rfl⟩) ?_ ?_
      rotate_left
      · simp only [Act.put, List.setIfInBounds_toArray, List.set_cons_zero, List.set_cons_succ, i64_w, i32_w]
        rfl
      refine pure_ (i := 11) (N := some 14) (v := undef) (a' := ?_) #[true, true, true, true, true, true, true, true, true, true, true, true, false, false, false, false, false] rfl rfl (any_of HT_.out (by kernel_rfl)) (fun _ _ _ h => h) (Or.inr ⟨by rfl, rfl⟩) ?_ ?_
      rotate_left
      · simp only [Act.put, List.setIfInBounds_toArray, List.set_cons_zero, List.set_cons_succ, i64_w, i32_w]
        rfl
      refine pure_ (i := 12) (N := some 15) (v := undef) (a' := ?_) #[true, true, true, true, true, true, true, true, true, true, true, true, true, false, false, false, false] rfl rfl (any_of HT_.out (by kernel_rfl)) (fun _ _ _ h => h) (Or.inr ⟨by rfl, rfl⟩) ?_ ?_
      rotate_left
      · simp only [Act.put, List.setIfInBounds_toArray, List.set_cons_zero, List.set_cons_succ, i64_w, i32_w]
        rfl
      refine pure_ (i := 13) (N := some 16) (v := undef) (a' := ?_) #[true, true, true, true, true, true, true, true, true, true, true, true, true, true, false, false, false] rfl rfl (any_of HT_.out (by kernel_rfl)) (fun _ _ _ h => h) (Or.inr ⟨by rfl, rfl⟩) ?_ ?_
      rotate_left
      · simp only [Act.put, List.setIfInBounds_toArray, List.set_cons_zero, List.set_cons_succ, i64_w, i32_w]
        rfl
      refine pure_ (i := 14) (N := some 17) (v := undef) (a' := ?_) #[true, true, true, true, true, true, true, true, true, true, true, true, true, true, true, false, false] rfl rfl (any_of HT_.out (by kernel_rfl)) (fun _ _ _ h => h) (Or.inr ⟨by rfl, rfl⟩) ?_ ?_
      rotate_left
      · simp only [Act.put, List.setIfInBounds_toArray, List.set_cons_zero, List.set_cons_succ, i64_w, i32_w]
        rfl
      refine pure_ (i := 15) (N := some 18) (v := ?_) (a' := ?_) #[true, true, true, true, true, true, true, true, true, true, true, true, true, true, true, true, false] rfl rfl (any_of HT_.out (by kernel_rfl)) (fun _ _ _ h => h) (Or.inl ⟨by rfl, ?_⟩) ?_ ?_
      rotate_left
      · intro w'
        go_simp
        with_reducible rfl
      rotate_left
      · simp only [Act.put, List.setIfInBounds_toArray, List.set_cons_zero, List.set_cons_succ, i64_w, i32_w]
        rfl
      refine pure_ (i := 16) (N := some 2) (v := ?_) (a' := ?_) #[true, true, true, true, true, true, true, true, true, true, true, true, true, true, true, true, true] rfl rfl (any_of HT_.out (by kernel_rfl)) (fun _ _ _ h => h) (Or.inl ⟨by rfl, ?_⟩) ?_ ?_
      rotate_left
      · intro w'
        go_simp
        with_reducible rfl
      rotate_left
      · simp only [Act.put, List.setIfInBounds_toArray, List.set_cons_zero, List.set_cons_succ, i64_w, i32_w]
        rfl
      refine done_ (done_of HT_.out (by kernel_rfl)) ?_
      try go_wp2
      go_ret
      exact ⟨by first | rfl | (simp [errW_none, errW_some] <;> rfl) | (simp [*, errW_none, errW_some] <;> rfl), by repeat (first | (with_reducible first | exact HB.out | apply below_alloc | apply pw_below_drewN | apply below_drew1 | refine below_set ?_ GE101.out) | exact HB.out)⟩
  · replace c3 := Bool.eq_false_iff.mpr c3
    subst c3
    have H1 : (some false) = some r := by rw [if_neg (show ¬ (false = true) by decide)] at H; exact H
    clear H
    have H := H1
    clear H1
    obtain rfl := Option.some.inj H
    go_enter Tryd.func9, Tryd.ntmps9
    try go_wp2_with (first | ((with_reducible refine gate_dst (N := 1) rfl ?_); refine box_event ?hg (N := 1) ?hd (cs := #[.string a0_0, .string a0_1]) (t := 23) ?hr ?_; (case hd => rfl); (case hg => rfl); (case hr => first | (go_simp; done) | (go_simp; rfl)); intro gb101 hg w15 hbox hb; have n0_ := Aside0.mk (below_step (by repeat (first | (with_reducible first | exact HB.out | apply below_alloc | apply pw_below_drewN | apply below_drew1) | exact HB.out)) hb); have n1_ := Aside0.mk (hbox); have n2_ := Aside0.mk ((by rw [hg]; exact (below_size (by repeat (first | (with_reducible first | exact HB.out | apply below_alloc | apply pw_below_drewN | apply below_drew1) | exact HB.out))) : w.heap.size ≤ gb101)); have n3_ := Aside0.mk ((by rw [hg]; exact (below_size (by repeat (first | (with_reducible first | exact HB.out | apply below_alloc | apply pw_below_drewN | apply below_drew1) | exact HB.out))) : w.heap.size ≤ gb101)); clear HB; have HB := n0_; have BK101 := n1_; have GW101 := n2_; have GE101 := n3_; clear n0_ n1_ n2_ n3_; clear hb hbox hg))
    have n0_ := Aside0.mk (blk_drew BK101.out)
    have n1_ := Aside0.mk (below_drew1 HB.out)
    clear BK101
    clear HB
    have BK101 := n0_
    have HB := n1_
    clear n0_ n1_
    refine start_ (n := 17) (S := fun w' => w'.cell? ⟨gb101, 0, none⟩ = some (.string a0_0) ∧ w'.cell? ⟨gb101, 1, none⟩ = some (.string a0_1)) (ds := []) #[false, false, false, false, false, false, false, false, false, false, false, false, false, false, false, false, false] (by kernel_rfl) rfl rfl ⟨(blk_cell BK101.out 0).trans rfl, (blk_cell BK101.out 1).trans rfl⟩ (fun hHeld => ?_); refine with_tabW field_Right.tab1 field_Right.bits1 (fun HT_ HW_ => ?_)
    generalize w15.drew = w16 at BK101 HB hHeld ⊢
    refine pure_ (i := 0) (N := some 3) (v := ?_) (a' := ?_) #[true, false, false, false, false, false, false, false, false, false, false, false, false, false, false, false, false] rfl rfl (any_of HT_.out (by kernel_rfl)) (fun _ _ _ h => h) (Or.inl ⟨by rfl, ?_⟩) ?_ ?_
    rotate_left
    · intro w'
      go_simp
      with_reducible rfl
    rotate_left
    · simp only [Act.put, List.setIfInBounds_toArray, List.set_cons_zero, List.set_cons_succ, i64_w, i32_w]
      rfl
    refine take_ (i := 1) (N := some 4) (v := ?_) (a' := ?_) #[true, true, false, false, false, false, false, false, false, false, false, false, false, false, false, false, false] rfl rfl (take_ofW HT_.out HW_.out (by kernel_rfl)) (fun _ _ _ h => h) (Or.inl ⟨by rfl, ?_⟩) hHeld ?_ ?_
    rotate_left
    · rintro w' ⟨s0, s1⟩
      go_simp
      with_reducible rfl
    rotate_left
    · simp only [Act.put, List.setIfInBounds_toArray, List.set_cons_zero, List.set_cons_succ, i64_w, i32_w]
      rfl
    refine one_ (i := 2) (N := some 5) #[true, true, true, false, false, false, false, false, false, false, false, false, false, false, false, false, false] rfl rfl (one_of HT_.out (by kernel_rfl)) (by decide) (fun K hK => ?_)
    refine goes_ Tryd.func18 (by kernel_rfl) rfl #[.string a0_0] (by rfl) rfl rfl (by (try simp only [List.map_toArray, List.map_cons, List.map_nil]); first | done | rfl | (simp only [List.length_drop, List.length_take]; rfl)) ?_
    with_reducible refine (octet_Token.calls a0_0 false _ A2.out).mono ?_
    rintro e w17 ⟨rfl, hb⟩
    refine ⟨_, rfl, ?_⟩
    have n0_ := Aside0.mk (blk_below (g := gb101) (o := .cells #[.string a0_0, .string a0_1] 23 (0, 0)) (by (with_reducible repeat (first | refine blk_drewN ?_ _ | refine blk_drew ?_ | refine blk_alloc ?_ _)); exact BK101.out) hb)
    have n1_ := Aside0.mk (below_step (by repeat (first | (with_reducible first | exact HB.out | apply below_alloc | apply pw_below_drewN | apply below_drew1 | refine below_set ?_ GE101.out) | exact HB.out)) hb)
    clear BK101
    clear HB
    have BK101 := n0_
    have HB := n1_
    clear n0_ n1_
    (try clear hb)
    (try clear hb2)
    (try clear hk)
    (try clear hi)
    refine hK.out _ _ ⟨(blk_cell BK101.out 0).trans rfl, (blk_cell BK101.out 1).trans rfl⟩ (fun hHeld => ?_)
    clear hK K
    refine norm_ (a' := ?_) ?_ ?_
    rotate_left
    · show Act.put _ (some 5) _ = _
      simp only [Act.put, List.setIfInBounds_toArray, List.set_cons_zero, List.set_cons_succ, i64_w, i32_w]
      rfl
    refine pure_ (i := 3) (N := some 6) (v := ?_) (a' := ?_) #[true, true, true, true, false, false, false, false, false, false, false, false, false, false, false, false, false] rfl rfl (any_of HT_.out (by kernel_rfl)) (fun _ _ _ h => h) (Or.inl ⟨by rfl, ?_⟩) ?_ ?_
    rotate_left
    · intro w'
      go_simp
      with_reducible rfl
    rotate_left
    · simp only [Act.put, List.setIfInBounds_toArray, List.set_cons_zero, List.set_cons_succ, i64_w, i32_w]
      rfl
    refine pure_ (i := 4) (N := some 7) (v := undef) (a' := ?_) #[true, true, true, true, true, false, false, false, false, false, false, false, false, false, false, false, false] rfl rfl (any_of HT_.out (by kernel_rfl)) (fun _ _ _ h => h) (Or.inr ⟨by rfl, rfl⟩) ?_ ?_
    rotate_left
    · simp only [Act.put, List.setIfInBounds_toArray, List.set_cons_zero, List.set_cons_succ, i64_w, i32_w]
      rfl
    refine pure_ (i := 5) (N := some 8) (v := undef) (a' := ?_) #[true, true, true, true, true, true, false, false, false, false, false, false, false, false, false, false, false] rfl rfl (any_of HT_.out (by kernel_rfl)) (fun _ _ _ h => h) (Or.inr ⟨by rfl, rfl⟩) ?_ ?_
    rotate_left
    · simp only [Act.put, List.setIfInBounds_toArray, List.set_cons_zero, List.set_cons_succ, i64_w, i32_w]
      rfl
    refine pure_ (i := 6) (N := some 9) (v := undef) (a' := ?_) #[true, true, true, true, true, true, true, false, false, false, false, false, false, false, false, false, false] rfl rfl (any_of HT_.out (by kernel_rfl)) (fun _ _ _ h => h) (Or.inr ⟨by rfl, rfl⟩) ?_ ?_
    rotate_left
    · simp only [Act.put, List.setIfInBounds_toArray, List.set_cons_zero, List.set_cons_succ, i64_w, i32_w]
      rfl
    refine pure_ (i := 7) (N := some 10) (v := ?_) (a' := ?_) #[true, true, true, true, true, true, true, true, false, false, false, false, false, false, false, false, false] rfl rfl (any_of HT_.out (by kernel_rfl)) (fun _ _ _ h => h) (Or.inl ⟨by rfl, ?_⟩) ?_ ?_
    rotate_left
    · intro w'
      go_simp
      with_reducible rfl
    rotate_left
    · simp only [Act.put, List.setIfInBounds_toArray, List.set_cons_zero, List.set_cons_succ, i64_w, i32_w]
      rfl
    refine pure_ (i := 8) (N := some 11) (v := ?_) (a' := ?_) #[true, true, true, true, true, true, true, true, true, false, false, false, false, false, false, false, false] rfl rfl (any_of HT_.out (by kernel_rfl)) (fun _ _ _ h => h) (Or.inl ⟨by rfl, ?_⟩) ?_ ?_
    rotate_left
    · intro w'
      go_simp
      with_reducible rfl
    rotate_left
    · simp only [Act.put, List.setIfInBounds_toArray, List.set_cons_zero, List.set_cons_succ, i64_w, i32_w]
      rfl
    refine pure_ (i := 9) (N := some 12) (v := undef) (a' := ?_) #[true, true, true, true, true, true, true, true, true, true, false, false, false, false, false, false, false] rfl rfl (any_of HT_.out (by kernel_rfl)) (fun _ _ _ h => h) (Or.inr ⟨by rfl, rfl⟩) ?_ ?_
    rotate_left
    · simp only [Act.put, List.setIfInBounds_toArray, List.set_cons_zero, List.set_cons_succ, i64_w, i32_w]
      rfl
    refine pure_ (i := 10) (N := some 13) (v := undef) (a' := ?_) #[true, true, true, true, true, true, true, true, true, true, true, false, false, false, false, false, false] rfl rfl (any_of HT_.out (by kernel_rfl)) (fun _ _ _ h => h) (Or.inr ⟨by rfl, rfl⟩) ?_ ?_
    rotate_left
    · simp only [Act.put, List.setIfInBounds_toArray, List.set_cons_zero, List.set_cons_succ, i64_w, i32_w]
      rfl
    refine pure_ (i := 11) (N := some 14) (v := undef) (a' := ?_) #[true, true, true, true, true, true, true, true, true, true, true, true, false, false, false, false, false] rfl rfl (any_of HT_.out (by kernel_rfl)) (fun _ _ _ h => h) (Or.inr ⟨by rfl, rfl⟩) ?_ ?_
    rotate_left
    · simp only [Act.put, List.setIfInBounds_toArray, List.set_cons_zero, List.set_cons_succ, i64_w, i32_w]
      rfl
    refine pure_ (i := 12) (N := some 15) (v := undef) (a' := ?_) #[true, true, true, true, true, true, true, true, true, true, true, true, true, false, false, false, false] rfl rfl (any_of HT_.out (by kernel_rfl)) (fun _ _ _ h => h) (Or.inr ⟨by rfl, rfl⟩) ?_ ?_
    rotate_left
    · simp only [Act.put, List.setIfInBounds_toArray, List.set_cons_zero, List.set_cons_succ, i64_w, i32_w]
      rfl
    refine pure_ (i := 13) (N := some 16) (v := undef) (a' := ?_) #[true, true, true, true, true, true, true, true, true, true, true, true, true, true, false, false, false] rfl rfl (any_of HT_.out (by kernel_rfl)) (fun _ _ _ h => h) (Or.inr ⟨by rfl, rfl⟩) ?_ ?_
    rotate_left
    · simp only [Act.put, List.setIfInBounds_toArray, List.set_cons_zero, List.set_cons_succ, i64_w, i32_w]
      rfl
    refine pure_ (i := 14) (N := some 17) (v := undef) (a' := ?_) #[true, true, true, true, true, true, true, true, true, true, true, true, true, true, true, false, false] rfl rfl (any_of HT_.out (by kernel_rfl)) (fun _ _ _ h => h) (Or.inr ⟨by rfl, rfl⟩) ?_ ?_
    rotate_left
    · simp only [Act.put, List.setIfInBounds_toArray, List.set_cons_zero, List.set_cons_succ, i64_w, i32_w]
      rfl
    refine pure_ (i := 15) (N := some 18) (v := ?_) (a' := ?_) #[true, true, true, true, true, true, true, true, true, true, true, true, true, true, true, true, false] rfl rfl (any_of HT_.out (by kernel_rfl)) (fun _ _ _ h => h) (Or.inl ⟨by rfl, ?_⟩) ?_ ?_
    rotate_left
    · intro w'
      go_simp
      with_reducible rfl
    rotate_left
    · simp only [Act.put, List.setIfInBounds_toArray, List.set_cons_zero, List.set_cons_succ, i64_w, i32_w]
      rfl
    refine pure_ (i := 16) (N := some 2) (v := ?_) (a' := ?_) #[true, true, true, true, true, true, true, true, true, true, true, true, true, true, true, true, true] rfl rfl (any_of HT_.out (by kernel_rfl)) (fun _ _ _ h => h) (Or.inl ⟨by rfl, ?_⟩) ?_ ?_
    rotate_left
    · intro w'
      go_simp
      with_reducible rfl
    rotate_left
    · simp only [Act.put, List.setIfInBounds_toArray, List.set_cons_zero, List.set_cons_succ, i64_w, i32_w]
      rfl
    refine done_ (done_of HT_.out (by kernel_rfl)) ?_
    try go_wp2
    go_ret
    exact ⟨by first | rfl | (simp [errW_none, errW_some] <;> rfl) | (simp [*, errW_none, errW_some] <;> rfl), by repeat (first | (with_reducible first | exact HB.out | apply below_alloc | apply pw_below_drewN | apply below_drew1 | refine below_set ?_ GE101.out) | exact HB.out)⟩

end Go.Proofs.YtkjkbenmoogdjaaDoor.X
namespace Go.Proofs.YtkjkbenmoogdjaaDoor.X
open Go.RowKit Go.Proofs.YtkjkbenmoogdjaaDoorW.PrintWords Go.Proofs.YtkjkbenmoogdjaaDoorW.PrintLast Go.Proofs.YtkjkbenmoogdjaaDoorW.PrintMore
attribute [local go_sem] max2_int min2_int max_two min_two max_three min_three max_four min_four   -- for this text's walks alone
set_option linter.unusedVariables false
set_option linter.unusedSimpArgs false

/-! ### pure text 12: refSame -/
theorem toList_inj (a b : ByteArray) : a.toList = b.toList ↔ a = b := by
  constructor
  · intro h
    rw [Lib.toList_data, Lib.toList_data] at h
    obtain ⟨⟨a⟩⟩ := a
    obtain ⟨⟨b⟩⟩ := b
    simp at h
    rw [h]
  · intro h; rw [h]
theorem rd_nat (l : List ByteArray) (i : Nat) (h : i < l.length) : rdOf ByteArray.empty l (i : Int) = l[i]'h := by
  unfold rdOf
  simp [List.getElem?_eq_getElem h]
theorem same_l0 (x y : List ByteArray) (hl : x.length = y.length) (hs : x.length ≤ 1000000000) : ∀ (d i k : Nat), x.length - i = d → i ≤ x.length → d < k →
    abutmentref01_Same.l0 k x y (i : Int) = some (decide (x.drop i = y.drop i)) := by
  intro d
  induction d with
  | zero =>
    intro i k hd hi hk
    obtain ⟨k, rfl⟩ : ∃ m, k = m + 1 := ⟨k - 1, by omega⟩
    simp only [abutmentref01_Same.l0]
    rw [if_neg (by omega), List.drop_eq_nil_iff.2 (by omega), List.drop_eq_nil_iff.2 (by omega)]
    rfl
  | succ d ih =>
    intro i k hd hi hk
    obtain ⟨k, rfl⟩ : ∃ m, k = m + 1 := ⟨k - 1, by omega⟩
    have hlx : i < x.length := by omega
    have hly : i < y.length := by omega
    have hw : wrap64 ((i : Int) + 1) = ((i + 1 : Nat) : Int) := by rw [wrap_id _ (by omega) (by omega)]; omega
    simp only [abutmentref01_Same.l0]
    rw [if_pos (by omega), if_pos (by omega), if_pos (by omega), rd_nat x i hlx, rd_nat y i hly, hw, List.drop_eq_getElem_cons hlx, List.drop_eq_getElem_cons hly, ih (i + 1) k (by omega) (by omega) (by omega)]
    generalize x.drop (i + 1) = X
    generalize y.drop (i + 1) = Y
    generalize x[i]'hlx = p
    generalize y[i]'hly = q
    by_cases he : p = q
    · rw [if_pos (by rw [he]), he]
      simp
    · rw [if_neg (fun h => he ((toList_inj _ _).1 h))]
      simp [he]
theorem ref_same (x y : List ByteArray) (hs : x.length ≤ 1000000000) (k : Nat) (hk : x.length < k) : abutmentref01_Same.f k x y = some (decide (x = y)) := by
  unfold abutmentref01_Same.f
  by_cases h : (x.length : Int) = (y.length : Int)
  · rw [if_pos h]
    have := same_l0 x y (by omega) hs x.length 0 k (by omega) (by omega) hk
    simpa using this
  · rw [if_neg h]
    have : ¬ x = y := fun e => h (by rw [e])
    simp [this]


end Go.Proofs.YtkjkbenmoogdjaaDoor.X
namespace Go.Proofs.YtkjkbenmoogdjaaDoor.X
open Go.RowKit Go.Proofs.YtkjkbenmoogdjaaDoorW.PrintWords Go.Proofs.YtkjkbenmoogdjaaDoorW.PrintLast Go.Proofs.YtkjkbenmoogdjaaDoorW.PrintMore
attribute [local go_sem] max2_int min2_int max_two min_two max_three min_three max_four min_four   -- for this text's walks alone
set_option linter.unusedVariables false
set_option linter.unusedSimpArgs false

/-! ### pure text 24: field -/
/-- P9.1: a field's line. -/
def refLine (a b : ByteArray) : ByteArray := if b.toList = [] then a ++ ⟨#[58]⟩ else ((a ++ ⟨#[58]⟩) ++ ⟨#[32]⟩) ++ b
/-- P9.1. -/
def fieldParse (s : ByteArray) : ByteArray × ByteArray × Int :=
  if (cutAt s 58).2.2 = true then (if octetToken (cutAt s 58).1 = true then (if octetValue (cutAt s 58).2.1 = true then ((cutAt s 58).1, trimB (cutAt s 58).2.1, 0) else (⟨#[]⟩, ⟨#[]⟩, 7)) else (⟨#[]⟩, ⟨#[]⟩, 6)) else (⟨#[]⟩, ⟨#[]⟩, 3)
def fieldRight (a b : ByteArray) : Bool := octetToken a && (octetValue b && (trimB b).toList == b.toList)
theorem cut_colon (s : ByteArray) (hs : s.size ≤ 140737488351232) : strings_Cut.f s (⟨#[58]⟩ : ByteArray) = some (cutAt s 58) := by
  unfold strings_Cut.f stringslite_Cut.f
  rw [if_pos ⟨rfl, hs⟩]
  rfl
theorem cutAt_size (s : ByteArray) (c : UInt8) : (cutAt s c).1.size ≤ s.size ∧ (cutAt s c).2.1.size ≤ s.size := by
  unfold cutAt
  split
  · simp only [ByteArray.size_extract]
    omega
  · exact ⟨Nat.le_refl _, Nat.zero_le _⟩
theorem field_parse (s : ByteArray) (hs : s.size ≤ 140737488351232) (k : Nat) (hk : 2 * s.size + 2 < k) : field_Parse.f k s = some (fieldParse s) := by
  have hsz := cutAt_size s 58
  unfold field_Parse.f fieldParse
  rw [cut_colon s hs]
  simp only [Option.bind_some]
  by_cases h1 : (cutAt s 58).2.2 = true
  · rw [if_pos h1, if_pos h1, show octet_Token.f (cutAt s 58).1 = some (octetToken (cutAt s 58).1) from rfl]
    simp only [Option.bind_some]
    by_cases h2 : octetToken (cutAt s 58).1 = true
    · rw [if_pos h2, if_pos h2, show octet_Value.f (cutAt s 58).2.1 = some (octetValue (cutAt s 58).2.1) from rfl]
      simp only [Option.bind_some]
      by_cases h3 : octetValue (cutAt s 58).2.1 = true
      · rw [if_pos h3, if_pos h3, octet_trim _ (by omega) k (by omega)]
        rfl
      · rw [if_neg h3, if_neg h3]
    · rw [if_neg h2, if_neg h2]
  · rw [if_neg h1, if_neg h1]
theorem idx_at (l : List UInt8) (c : UInt8) (i : Nat) (h1 : ∀ j, j < i → l[j]? ≠ some c) (h2 : l[i]? = some c) : Lib.indexByte l c = i := by
  have hge := Lib.indexByte_ge l c
  by_cases h : Lib.indexByte l c = -1
  · exact absurd h2 (Lib.indexByte_none h i)
  · obtain ⟨n, hn⟩ := Int.eq_ofNat_of_zero_le (a := Lib.indexByte l c) (by omega)
    obtain ⟨h3, h4⟩ := Lib.indexByte_some hn
    rw [hn]
    have e1 : ¬ n < i := fun hlt => h1 n hlt h3
    have e2 : ¬ i < n := fun hlt => h4 i hlt h2
    omega
theorem idx_no (l : List UInt8) (c : UInt8) (h1 : ∀ j, j < l.length → l[j]? ≠ some c) : Lib.indexByte l c = -1 := by
  have hge := Lib.indexByte_ge l c
  by_cases h : Lib.indexByte l c = -1
  · exact h
  · obtain ⟨n, hn⟩ := Int.eq_ofNat_of_zero_le (a := Lib.indexByte l c) (by omega)
    obtain ⟨h3, _⟩ := Lib.indexByte_some hn
    exact absurd h3 (h1 n (List.getElem?_eq_some_iff.1 h3).1)
theorem field_line (a b : ByteArray) (ha : a.size ≤ 140737488351232) (hb : b.size ≤ 140737488351232) : field_Line.f a b = some (refLine a b) := by
  unfold field_Line.f refLine
  by_cases h : b.toList = []
  · rw [if_pos h, if_pos h, if_pos (by omega)]
  · rw [if_neg h, if_neg h, if_pos (by omega), if_pos (by rw [ByteArray.size_append, show (⟨#[58, 32]⟩ : ByteArray).size = 2 from rfl]; omega)]
    congr 2
    apply (toList_inj _ _).1
    rw [Lib.toList_data, Lib.toList_data]
    simp
theorem field_right (a b : ByteArray) (ha : a.size ≤ 140737488351232) (hb : b.size ≤ 140737488351232) (k : Nat) (hk : 2 * b.size + 2 < k) : field_Right.f k a b = some (fieldRight a b) := by
  unfold field_Right.f fieldRight
  rw [show octet_Token.f a = some (octetToken a) from rfl]
  simp only [Option.bind_some]
  cases octetToken a
  · rfl
  · rw [if_pos rfl, show octet_Value.f b = some (octetValue b) from rfl]
    simp only [Option.bind_some]
    cases octetValue b
    · rfl
    · rw [if_pos rfl, octet_trim b hb k hk]
      rfl
theorem field_lives (k : Nat) (hk : 100 < k) : abutmentlaw09_lives.f k = some true := by
  unfold abutmentlaw09_lives.f
  rw [field_parse _ (by decide) k (by show 2 * 9 + 2 < k; omega)]
  simp only [Option.bind_some]
  rw [field_parse _ (by decide) k (by show 2 * 8 + 2 < k; omega)]
  simp only [Option.bind_some]
  rw [show fieldParse (⟨#[72, 111, 115, 116, 58, 32, 32, 97, 32]⟩ : ByteArray) = (⟨#[72, 111, 115, 116]⟩, ⟨#[97]⟩, 0) from by kernel_rfl, show fieldParse (⟨#[72, 111, 115, 116, 32, 58, 32, 97]⟩ : ByteArray) = (⟨#[]⟩, ⟨#[]⟩, 6) from by kernel_rfl]
  simp only
  rw [field_line _ _ (by decide) (by decide)]
  simp only [Option.bind_some]
  rw [field_line _ _ (by decide) (by decide), show refLine (⟨#[72, 111, 115, 116]⟩ : ByteArray) (⟨#[97]⟩ : ByteArray) = ⟨#[72, 111, 115, 116, 58, 32, 97]⟩ from by kernel_rfl, show refLine (⟨#[65]⟩ : ByteArray) (⟨#[]⟩ : ByteArray) = ⟨#[65, 58]⟩ from by kernel_rfl]
  simp only [Lib.toList_data, Option.bind_some]
  rfl


end Go.Proofs.YtkjkbenmoogdjaaDoor.X
namespace Go.Proofs.YtkjkbenmoogdjaaDoor.X
open Go.RowKit Go.Proofs.YtkjkbenmoogdjaaDoorW.PrintWords Go.Proofs.YtkjkbenmoogdjaaDoorW.PrintLast Go.Proofs.YtkjkbenmoogdjaaDoorW.PrintMore
attribute [local go_sem] max2_int min2_int max_two min_two max_three min_three max_four min_four   -- for this text's walks alone
set_option linter.unusedVariables false
set_option linter.unusedSimpArgs false

/-! ### pure text 20: token -/
theorem get_list (s : ByteArray) (j : Nat) (h : j < s.data.toList.length) : s.get! j = s.data.toList[j]'h := by
  have h2 : j < s.data.size := by simpa using h
  show s.data[j]! = _
  rw [getElem!_pos s.data j h2]
  simp
theorem decode_cont (s : ByteArray) (i k : Nat) (h : (decide (i + k < s.size) && ((s.get! (i + k)).toNat / 64 == 2)) = true) : i + k < s.size ∧ 128 ≤ (s.get! (i + k)).toNat := by
  rw [Bool.and_eq_true, decide_eq_true_eq, beq_iff_eq] at h
  omega
/-- The octets of a rune beyond ASCII are all beyond ASCII. -/
theorem decode_bytes (s : ByteArray) (i : Nat) (hi : i < s.size) (hb : 128 ≤ (s.get! i).toNat) : ∀ j, i ≤ j → j < i + (Utf8.decode s i).2 → j < s.size ∧ 128 ≤ (s.get! j).toNat := by
  intro j h1 h2
  have h0 : ¬ (s.get! (i + 0)).toNat < 128 := by simp; omega
  have one : j < i + 1 → j < s.size ∧ 128 ≤ (s.get! j).toNat := fun h => by
    obtain rfl : j = i := by omega
    exact ⟨hi, hb⟩
  unfold Utf8.decode at h2
  simp only [if_neg h0] at h2
  split at h2
  · rename_i hc
    rw [Bool.and_eq_true] at hc
    have c1 := decode_cont s i 1 hc.2
    split at h2
    · by_cases e : j = i
      · exact one (by omega)
      · obtain rfl : j = i + 1 := by simp only at h2; omega
        exact c1
    · exact one h2
  · split at h2
    · rename_i hc
      rw [Bool.and_eq_true, Bool.and_eq_true] at hc
      have c1 := decode_cont s i 1 hc.1.2
      have c2 := decode_cont s i 2 hc.2
      split at h2
      · by_cases e : j = i
        · exact one (by omega)
        · by_cases e1 : j = i + 1
          · subst e1; exact c1
          · obtain rfl : j = i + 2 := by simp only at h2; omega
            exact c2
      · exact one h2
    · split at h2
      · rename_i hc
        rw [Bool.and_eq_true, Bool.and_eq_true, Bool.and_eq_true] at hc
        have c1 := decode_cont s i 1 hc.1.1.2
        have c2 := decode_cont s i 2 hc.1.2
        have c3 := decode_cont s i 3 hc.2
        split at h2
        · by_cases e : j = i
          · exact one (by omega)
          · by_cases e1 : j = i + 1
            · subst e1; exact c1
            · by_cases e2 : j = i + 2
              · subst e2; exact c2
              · obtain rfl : j = i + 3 := by simp only at h2; omega
                exact c3
        · exact one h2
      · exact one h2
theorem allR_from (p : Nat → Bool) (b : Bool) (hp : ∀ r, 128 ≤ r → p r = b) (s : ByteArray) : ∀ (f pos : Nat), s.size ≤ pos + f → pos ≤ s.size → allRFrom p s f pos = (s.data.toList.drop pos).all fun c => p c.toNat := by
  intro f
  induction f with
  | zero =>
    intro pos hf hpos
    rw [List.drop_eq_nil_iff.2 (by rw [← size_list]; omega)]
    rfl
  | succ f ih =>
    intro pos hf hpos
    simp only [allRFrom]
    by_cases h : pos < s.size
    · rw [if_pos h]
      have hl : pos < s.data.toList.length := by rw [← size_list]; exact h
      have hg := get_list s pos hl
      by_cases ha : (s[pos]'h).toNat < 128
      · have hb2 : s[pos]'h = s.data.toList[pos]'hl := by simp; rfl
        rw [decode_ascii s pos h ha, List.drop_eq_getElem_cons hl, List.all_cons, ← hb2]
        simp only
        rw [ih (pos + 1) (by omega) (by omega)]
        cases p (s[pos]'h).toNat <;> simp
      · have hhi := decode_high s pos h (by omega)
        have hb2 : s[pos]'h = s.data.toList[pos]'hl := by simp; rfl
        have hge : 128 ≤ (s.get! pos).toNat := by rw [hg, ← hb2]; omega
        have hbs := decode_bytes s pos h hge
        obtain ⟨K, hK⟩ : ∃ K, (Utf8.decode s pos).2 = K := ⟨_, rfl⟩
        rw [hK] at hbs hhi ⊢
        rw [hp _ hhi.1]
        cases b
        · rw [if_neg (by simp), List.drop_eq_getElem_cons hl, List.all_cons, hp _ (by rw [← hb2]; omega)]
          rfl
        · have hKs : pos + K ≤ s.size := by
            have := (hbs (pos + K - 1) (by omega) (by omega)).1
            omega
          rw [if_pos rfl, ih (pos + K) (by omega) hKs]
          have : ∀ n, n ≤ K → ((s.data.toList.drop pos).all fun c => p c.toNat) = ((s.data.toList.drop (pos + n)).all fun c => p c.toNat) := by
            intro n
            induction n with
            | zero => intro _; rfl
            | succ n ihn =>
              intro hn
              have hj := hbs (pos + n) (by omega) (by omega)
              have hlj : pos + n < s.data.toList.length := by rw [← size_list]; exact hj.1
              rw [ihn (by omega), List.drop_eq_getElem_cons hlj, List.all_cons, ← get_list s (pos + n) hlj, hp _ hj.2]
              rfl
          exact (this K (Nat.le_refl _)).symm
    · rw [if_neg h, List.drop_eq_nil_iff.2 (by rw [← size_list]; omega)]
      rfl
theorem allR_list (p : Nat → Bool) (b : Bool) (hp : ∀ r, 128 ≤ r → p r = b) (s : ByteArray) : allR p s = s.data.toList.all fun c => p c.toNat := by
  have := allR_from p b hp s s.size 0 (by omega) (by omega)
  simpa [allR] using this


end Go.Proofs.YtkjkbenmoogdjaaDoor.X
namespace Go.Proofs.YtkjkbenmoogdjaaDoor.X
open Go.RowKit Go.Proofs.YtkjkbenmoogdjaaDoorW.PrintWords Go.Proofs.YtkjkbenmoogdjaaDoorW.PrintLast Go.Proofs.YtkjkbenmoogdjaaDoorW.PrintMore
attribute [local go_sem] max2_int min2_int max_two min_two max_three min_three max_four min_four   -- for this text's walks alone
set_option linter.unusedVariables false
set_option linter.unusedSimpArgs false

/-! ### pure text 22: refToken -/
theorem tchar_same (c : UInt8) : tcharI (c.toNat : Int) = tcharR c.toNat := by
  have h : ∀ n : Fin 256, tcharI (n.val : Int) = tcharR n.val := by decide +kernel
  exact h ⟨c.toNat, c.toNat_lt⟩
theorem tcharR_high (r : Nat) (h : 128 ≤ r) : tcharR r = false := by
  unfold tcharR tcharL
  simp
  omega
theorem octetToken_list (s : ByteArray) : octetToken s = (!s.data.toList.isEmpty && s.data.toList.all fun c => tcharR c.toNat) := by
  unfold octetToken
  rw [allR_list tcharR false tcharR_high, Lib.toList_data]
theorem reftoken_l0 (s : ByteArray) (hs : s.size ≤ 140737488351232) : ∀ (d i k : Nat), s.size - i = d → i ≤ s.size → d < k →
    abutmentref01_Token.l0 k s (i : Int) = some ((s.data.toList.drop i).all (fun c => tcharR c.toNat) && decide ((s.size : Int) > 0)) := by
  intro d
  induction d with
  | zero =>
    intro i k hd hi hk
    obtain ⟨k, rfl⟩ : ∃ m, k = m + 1 := ⟨k - 1, by omega⟩
    simp only [abutmentref01_Token.l0]
    rw [if_neg (by omega), List.drop_eq_nil_iff.2 (by rw [← size_list]; omega)]
    simp
  | succ d ih =>
    intro i k hd hi hk
    obtain ⟨k, rfl⟩ : ∃ m, k = m + 1 := ⟨k - 1, by omega⟩
    have hl : i < s.data.toList.length := by rw [← size_list]; omega
    have hw : wrap64 ((i : Int) + 1) = ((i + 1 : Nat) : Int) := by rw [wrap_id _ (by omega) (by omega)]; omega
    simp only [abutmentref01_Token.l0]
    rw [if_pos (by omega), if_pos (by omega), bt_list s i hl, show abutmentref01_Tchar.f ((s.data.toList[i]'hl).toNat : Int) = some (tcharR (s.data.toList[i]'hl).toNat) from by unfold abutmentref01_Tchar.f; rw [tchar_same]]
    simp only [Option.bind_some]
    rw [hw, List.drop_eq_getElem_cons hl, List.all_cons]
    cases tcharR (s.data.toList[i]'hl).toNat
    · simp
    · rw [if_pos rfl, ih (i + 1) k (by omega) (by omega) (by omega)]
      simp
theorem ref_token (s : ByteArray) (hs : s.size ≤ 140737488351232) (k : Nat) (hk : s.size < k) : abutmentref01_Token.f k s = some (octetToken s) := by
  have := reftoken_l0 s hs s.size 0 k (by omega) (by omega) hk
  unfold abutmentref01_Token.f
  rw [show (0 : Int) = ((0 : Nat) : Int) from rfl, this, octetToken_list, Bool.and_comm]
  congr 2
  rw [size_list]
  cases s.data.toList with
  | nil => rfl
  | cons c l => simp


end Go.Proofs.YtkjkbenmoogdjaaDoor.X
namespace Go.Proofs.YtkjkbenmoogdjaaDoor.X
open Go.RowKit Go.Proofs.YtkjkbenmoogdjaaDoorW.PrintWords Go.Proofs.YtkjkbenmoogdjaaDoorW.PrintLast Go.Proofs.YtkjkbenmoogdjaaDoorW.PrintMore
attribute [local go_sem] max2_int min2_int max_two min_two max_three min_three max_four min_four   -- for this text's walks alone
set_option linter.unusedVariables false
set_option linter.unusedSimpArgs false

/-! ### pure text 23: refValue -/
theorem valueR_high (r : Nat) (h : 128 ≤ r) : valueR r = true := by
  unfold valueR
  have h1 : (decide (32 ≤ r)) = true := by simp; omega
  have h2 : (r != 127) = true := by rw [bne_iff_ne]; omega
  rw [h1, h2]; simp
theorem octetValue_list (s : ByteArray) : octetValue s = s.data.toList.all fun c => valueR c.toNat := allR_list valueR true valueR_high s
theorem value_ite {α : Type} (n : Nat) (A B : α) : (if (n : Int) = 9 then (if (n : Int) = 127 then A else B) else (if (n : Int) < 32 then A else (if (n : Int) = 127 then A else B))) = if valueR n = true then B else A := by
  unfold valueR
  by_cases h9 : n = 9
  · subst h9; rfl
  · rw [if_neg (by omega)]
    by_cases h32 : n < 32
    · have e1 : (n == 9) = false := beq_eq_false_iff_ne.2 h9
      have e2 : decide (32 ≤ n) = false := by simp; omega
      rw [if_pos (by omega), e1, e2]
      rfl
    · rw [if_neg (by omega)]
      have e1 : (n == 9) = false := beq_eq_false_iff_ne.2 h9
      have e2 : decide (32 ≤ n) = true := by simp; omega
      rw [e1, e2]
      by_cases h127 : n = 127
      · subst h127; rfl
      · have e3 : (n != 127) = true := by rw [bne_iff_ne]; exact h127
        rw [if_neg (by omega), e3]
        rfl
theorem refvalue_l0 (s : ByteArray) (hs : s.size ≤ 140737488351232) : ∀ (d i k : Nat), s.size - i = d → i ≤ s.size → d < k →
    abutmentref01_Value.l0 k s (i : Int) = some ((s.data.toList.drop i).all (fun c => valueR c.toNat)) := by
  intro d
  induction d with
  | zero =>
    intro i k hd hi hk
    obtain ⟨k, rfl⟩ : ∃ m, k = m + 1 := ⟨k - 1, by omega⟩
    simp only [abutmentref01_Value.l0]
    rw [if_neg (by omega), List.drop_eq_nil_iff.2 (by rw [← size_list]; omega)]
    rfl
  | succ d ih =>
    intro i k hd hi hk
    obtain ⟨k, rfl⟩ : ∃ m, k = m + 1 := ⟨k - 1, by omega⟩
    have hl : i < s.data.toList.length := by rw [← size_list]; omega
    have hw : wrap64 ((i : Int) + 1) = ((i + 1 : Nat) : Int) := by rw [wrap_id _ (by omega) (by omega)]; omega
    simp only [abutmentref01_Value.l0]
    rw [if_pos (by omega), if_pos (by omega), bt_list s i hl, value_ite, hw, List.drop_eq_getElem_cons hl, List.all_cons]
    cases valueR (s.data.toList[i]'hl).toNat
    · simp
    · rw [if_pos rfl, ih (i + 1) k (by omega) (by omega) (by omega)]
      simp
theorem ref_value (s : ByteArray) (hs : s.size ≤ 140737488351232) (k : Nat) (hk : s.size < k) : abutmentref01_Value.f k s = some (octetValue s) := by
  have := refvalue_l0 s hs s.size 0 k (by omega) (by omega) hk
  unfold abutmentref01_Value.f
  rw [show (0 : Int) = ((0 : Nat) : Int) from rfl, this, octetValue_list]
  rfl


end Go.Proofs.YtkjkbenmoogdjaaDoor.X
namespace Go.Proofs.YtkjkbenmoogdjaaDoor.X
open Go.RowKit Go.Proofs.YtkjkbenmoogdjaaDoorW.PrintWords Go.Proofs.YtkjkbenmoogdjaaDoorW.PrintLast Go.Proofs.YtkjkbenmoogdjaaDoorW.PrintMore
attribute [local go_sem] max2_int min2_int max_two min_two max_three min_three max_four min_four   -- for this text's walks alone
set_option linter.unusedVariables false
set_option linter.unusedSimpArgs false

/-! ### pure text 25: refField -/
theorem refparse_j1 (s : ByteArray) (hs : s.size ≤ 140737488351232) (i k : Nat) (hi : i ≤ s.size) (h1 : ∀ j, j < i → s.data.toList[j]? ≠ some 58) (h2 : i < s.size → s.data.toList[i]? = some 58) (hk : 2 * s.size + 4 < k) :
    abutmentref09_Parse.j1 k s (i : Int) = some (fieldParse s) := by
  obtain ⟨k, rfl⟩ : ∃ m, k = m + 1 := ⟨k - 1, by omega⟩
  simp only [abutmentref09_Parse.j1]
  unfold fieldParse
  by_cases he : i = s.size
  · rw [if_pos (by omega)]
    have hx : Lib.indexByte s.data.toList 58 = -1 := idx_no _ _ (fun j hj => h1 j (by rw [size_list] at he; omega))
    have : (cutAt s 58).2.2 = false := by unfold cutAt; rw [hx]; rfl
    rw [this]
    rfl
  · rw [if_neg (by omega), if_pos (by omega), if_pos (by omega)]
    have hx : Lib.indexByte s.data.toList 58 = (i : Int) := idx_at _ _ i h1 (h2 (by omega))
    have hc : cutAt s 58 = (s.extract 0 i, s.extract (i + 1) s.size, true) := by
      unfold cutAt
      rw [hx, if_pos (by omega)]
      rfl
    have hw : wrap64 ((i : Int) + 1) = ((i + 1 : Nat) : Int) := by rw [wrap_id _ (by omega) (by omega)]; omega
    rw [hc, hw]
    simp only [Int.toNat_natCast]
    have z1 : (s.extract 0 i).size ≤ s.size := by rw [ByteArray.size_extract]; omega
    have z2 : (s.extract (i + 1) s.size).size ≤ s.size := by rw [ByteArray.size_extract]; omega
    rw [ref_token _ (by omega) k (by omega)]
    simp only [Option.bind_some, if_true]
    by_cases h3 : octetToken (s.extract 0 i) = true
    · rw [if_pos h3, if_pos h3, if_pos (by omega), if_pos (by omega), ref_value _ (by omega) k (by omega)]
      simp only [Option.bind_some]
      by_cases h4 : octetValue (s.extract (i + 1) s.size) = true
      · rw [if_pos h4, if_pos h4, ref_trim _ (by omega) k (by omega)]
        rfl
      · rw [if_neg h4, if_neg h4]
    · rw [if_neg h3, if_neg h3]
theorem refparse_l0 (s : ByteArray) (hs : s.size ≤ 140737488351232) : ∀ (d i k : Nat), s.size - i = d → i ≤ s.size → (∀ j, j < i → s.data.toList[j]? ≠ some 58) → d + 2 * s.size + 5 < k →
    abutmentref09_Parse.l0 k s (i : Int) = some (fieldParse s) := by
  intro d
  induction d with
  | zero =>
    intro i k hd hi h1 hk
    obtain ⟨k, rfl⟩ : ∃ m, k = m + 1 := ⟨k - 1, by omega⟩
    simp only [abutmentref09_Parse.l0]
    rw [if_neg (by omega)]
    exact refparse_j1 s hs i k hi h1 (fun h => by omega) (by omega)
  | succ d ih =>
    intro i k hd hi h1 hk
    obtain ⟨k, rfl⟩ : ∃ m, k = m + 1 := ⟨k - 1, by omega⟩
    have hl : i < s.data.toList.length := by rw [← size_list]; omega
    have hw : wrap64 ((i : Int) + 1) = ((i + 1 : Nat) : Int) := by rw [wrap_id _ (by omega) (by omega)]; omega
    have h58 : ((s.data.toList[i]'hl).toNat : Int) = 58 ↔ s.data.toList[i]'hl = 58 := u8_eq _ 58
    simp only [abutmentref09_Parse.l0]
    rw [if_pos (by omega), if_pos (by omega), bt_list s i hl]
    by_cases hc : s.data.toList[i]'hl = 58
    · rw [if_pos (h58.2 hc)]
      exact refparse_j1 s hs i k hi h1 (fun _ => by rw [List.getElem?_eq_getElem hl, hc]) (by omega)
    · rw [if_neg (fun h => hc (h58.1 h)), hw]
      refine ih (i + 1) k (by omega) (by omega) (fun j hj => ?_) (by omega)
      by_cases e : j = i
      · subst e
        rw [List.getElem?_eq_getElem hl]
        intro h
        exact hc (Option.some.inj h)
      · exact h1 j (by omega)
theorem ref_parse (s : ByteArray) (hs : s.size ≤ 140737488351232) (k : Nat) (hk : 3 * s.size + 5 < k) : abutmentref09_Parse.f k s = some (fieldParse s) :=
  refparse_l0 s hs s.size 0 k (by omega) (by omega) (fun j hj => by omega) (by omega)


end Go.Proofs.YtkjkbenmoogdjaaDoor.X
namespace Go.Proofs.YtkjkbenmoogdjaaDoor.X
open Go.RowKit Go.Proofs.YtkjkbenmoogdjaaDoorW.PrintWords Go.Proofs.YtkjkbenmoogdjaaDoorW.PrintLast Go.Proofs.YtkjkbenmoogdjaaDoorW.PrintMore
attribute [local go_sem] max2_int min2_int max_two min_two max_three min_three max_four min_four   -- for this text's walks alone
set_option linter.unusedVariables false
set_option linter.unusedSimpArgs false

/-! ### pure text 6: trim2 -/
theorem dropE_prefix {α : Type} (p : α → Bool) : ∀ (n : Nat) (l : List α), l.length = n → dropE p l <+: l := by
  intro n
  induction n with
  | zero => intro l hl; obtain rfl := List.eq_nil_of_length_eq_zero hl; exact List.prefix_rfl
  | succ n ih =>
    intro l hl
    rcases snoc_cases l with rfl | ⟨q, c, rfl⟩
    · exact List.prefix_rfl
    · rw [dropE_snoc]
      split
      · exact (ih q (by simpa using hl)).trans (List.prefix_append _ _)
      · exact List.prefix_rfl
theorem dropE_idem {α : Type} (p : α → Bool) : ∀ (n : Nat) (l : List α), l.length = n → dropE p (dropE p l) = dropE p l := by
  intro n
  induction n with
  | zero => intro l hl; obtain rfl := List.eq_nil_of_length_eq_zero hl; rfl
  | succ n ih =>
    intro l hl
    rcases snoc_cases l with rfl | ⟨q, c, rfl⟩
    · rfl
    · rw [dropE_snoc]
      split
      · exact ih q (by simpa using hl)
      · rename_i hc
        rw [dropE_snoc, if_neg hc]
theorem dropWhile_head {α : Type} (p : α → Bool) (l : List α) : ∀ c r, l.dropWhile p = c :: r → p c = false := by
  induction l with
  | nil => intro c r h; simp at h
  | cons x l ih =>
    intro c r h
    rw [List.dropWhile_cons] at h
    split at h
    · exact ih c r h
    · rename_i hx
      injection h with h1 h2
      subst h1
      simpa using hx
theorem trimL_idem (p : List UInt8) : trimL (trimL p) = trimL p := by
  unfold trimL
  obtain ⟨q, hq⟩ : ∃ q, p.dropWhile bl = q := ⟨_, rfl⟩
  have hh := dropWhile_head bl p
  rw [hq] at hh ⊢
  have hp := dropE_prefix bl _ q rfl
  have : (dropE bl q).dropWhile bl = dropE bl q := by
    match he : dropE bl q with
    | [] => rfl
    | c :: r =>
      rw [he] at hp
      obtain ⟨t, ht⟩ := hp
      have := hh c (r ++ t) ht.symm
      rw [List.dropWhile_cons, if_neg (by rw [this]; simp)]
  rw [this, dropE_idem bl _ q rfl]
theorem trimL_blank (c : UInt8) (p : List UInt8) (h : bl c = true) : trimL (c :: p) = trimL p := by
  unfold trimL
  rw [List.dropWhile_cons, if_pos h]


end Go.Proofs.YtkjkbenmoogdjaaDoor.X
namespace Go.Proofs.YtkjkbenmoogdjaaDoor.X
open Go.RowKit Go.Proofs.YtkjkbenmoogdjaaDoorW.PrintWords Go.Proofs.YtkjkbenmoogdjaaDoorW.PrintLast Go.Proofs.YtkjkbenmoogdjaaDoorW.PrintMore
attribute [local go_sem] max2_int min2_int max_two min_two max_three min_three max_four min_four   -- for this text's walks alone
set_option linter.unusedVariables false
set_option linter.unusedSimpArgs false

/-! ### pure text 27: fieldBack -/
theorem few_l0 (l : List ByteArray) (hs : l.length ≤ 40) : ∀ (d i k : Nat), l.length - i = d → i ≤ l.length → d < k → abutmentlaw09_few.l0 k l (l.length : Int) (i : Int) = some (decide (∀ x ∈ l.drop i, x.size ≤ 300)) := by
  intro d
  induction d with
  | zero =>
    intro i k hd hi hk
    obtain ⟨k, rfl⟩ : ∃ m, k = m + 1 := ⟨k - 1, by omega⟩
    simp only [abutmentlaw09_few.l0]
    rw [if_neg (by omega), List.drop_eq_nil_iff.2 (by omega)]
    simp
  | succ d ih =>
    intro i k hd hi hk
    obtain ⟨k, rfl⟩ : ∃ m, k = m + 1 := ⟨k - 1, by omega⟩
    have hl : i < l.length := by omega
    have hw : wrap64 ((i : Int) + 1) = ((i + 1 : Nat) : Int) := by rw [wrap_id _ (by omega) (by omega)]; omega
    simp only [abutmentlaw09_few.l0]
    rw [if_pos (by omega), if_pos (by omega), if_pos (by omega), rd_nat l i hl, hw, List.drop_eq_getElem_cons hl]
    by_cases h : ((l[i]'hl).size : Int) > 300
    · rw [if_pos h, decide_eq_false]
      intro hx
      have := hx _ (List.mem_cons_self ..)
      omega
    · rw [if_neg h, ih (i + 1) k (by omega) (by omega) (by omega)]
      congr 1
      rw [Bool.eq_iff_iff]
      simp only [decide_eq_true_iff, List.mem_cons, forall_eq_or_imp]
      constructor
      · intro hx; exact ⟨by omega, hx⟩
      · intro hx; exact hx.2
def fewB (l : List ByteArray) : Bool := decide (l.length ≤ 40 ∧ ∀ x ∈ l, x.size ≤ 300)
theorem few_f (l : List ByteArray) (k : Nat) (hk : 41 < k) : abutmentlaw09_few.f k l = some (fewB l) := by
  unfold abutmentlaw09_few.f fewB
  by_cases h : (l.length : Int) > 40
  · rw [if_pos h, decide_eq_false (by omega)]
  · rw [if_neg h]
    have := few_l0 l (by omega) l.length 0 k (by omega) (by omega) (by omega)
    rw [List.drop_zero] at this
    rw [show ((0 : Nat) : Int) = 0 from rfl] at this
    rw [this]
    congr 1
    rw [Bool.eq_iff_iff]
    simp only [decide_eq_true_iff]
    constructor
    · intro hx; exact ⟨by omega, hx⟩
    · intro hx; exact hx.2
theorem unf_plain (fold : Int) : ∀ (l out : List ByteArray), (∀ x ∈ l, goesB x = false) → unfFrom fold out l = (out ++ l, 0) := by
  intro l
  induction l with
  | nil => intro out _; simp [unfFrom]
  | cons x l ih =>
    intro out h
    simp only [unfFrom]
    rw [if_neg (by rw [h x (by simp)]; simp), ih (out ++ [x]) (fun y hy => h y (by simp [hy]))]
    simp
theorem tchar_58 : tcharR 58 = false := by decide +kernel
theorem token_no58 (s : ByteArray) (h : octetToken s = true) : ∀ c ∈ s.data.toList, c ≠ 58 := by
  intro c hc e
  rw [octetToken_list] at h
  simp only [Bool.and_eq_true] at h
  have := List.all_eq_true.1 h.2 c hc
  rw [e] at this
  rw [show (58 : UInt8).toNat = 58 from rfl, tchar_58] at this
  cases this
theorem value_trim (s : ByteArray) (h : octetValue s = true) : octetValue (trimB s) = true := by
  rw [octetValue_list] at h ⊢
  rw [List.all_eq_true] at h ⊢
  intro c hc
  refine h c ?_
  have h1 : c ∈ trimL s.data.toList := by simpa [trimB] using hc
  have h2 := (dropE_prefix bl _ (s.data.toList.dropWhile bl) rfl).subset h1
  exact (List.dropWhile_suffix bl).subset h2
theorem trimB_idem (s : ByteArray) : trimB (trimB s) = trimB s := by
  unfold trimB
  show (⟨(trimL (trimL s.data.toList).toArray.toList).toArray⟩ : ByteArray) = _
  rw [show (trimL s.data.toList).toArray.toList = trimL s.data.toList from by simp, trimL_idem]
/-- P9.1: what is read is right, or nothing. -/
theorem parse_right (s : ByteArray) : ((fieldParse s).2.2 = 0 → fieldRight (fieldParse s).1 (fieldParse s).2.1 = true) ∧ ((fieldParse s).2.2 ≠ 0 → (fieldParse s).1 = ⟨#[]⟩ ∧ (fieldParse s).2.1 = ⟨#[]⟩) := by
  unfold fieldParse
  by_cases h1 : (cutAt s 58).2.2 = true
  · rw [if_pos h1]
    by_cases h2 : octetToken (cutAt s 58).1 = true
    · rw [if_pos h2]
      by_cases h3 : octetValue (cutAt s 58).2.1 = true
      · rw [if_pos h3]
        refine ⟨fun _ => ?_, fun h => absurd rfl h⟩
        unfold fieldRight
        simp only
        rw [h2, value_trim _ h3, trimB_idem]
        simp
      · rw [if_neg h3]; exact ⟨fun h => absurd h (by decide), fun _ => ⟨rfl, rfl⟩⟩
    · rw [if_neg h2]; exact ⟨fun h => absurd h (by decide), fun _ => ⟨rfl, rfl⟩⟩
  · rw [if_neg h1]; exact ⟨fun h => absurd h (by decide), fun _ => ⟨rfl, rfl⟩⟩
theorem cut_line (a t : ByteArray) (h : ∀ c ∈ a.data.toList, c ≠ 58) : cutAt (⟨(a.data.toList ++ 58 :: t.data.toList).toArray⟩ : ByteArray) 58 = (a, t, true) := by
  have hx : Lib.indexByte (a.data.toList ++ 58 :: t.data.toList) 58 = (a.data.toList.length : Int) := by
    refine idx_at _ _ _ (fun j hj e => ?_) ?_
    · rw [List.getElem?_append_left hj] at e
      exact h _ (List.mem_of_getElem? e) rfl
    · rw [List.getElem?_append_right (Nat.le_refl _)]; simp
  have hd : (⟨(a.data.toList ++ 58 :: t.data.toList).toArray⟩ : ByteArray).data.toList = a.data.toList ++ 58 :: t.data.toList := by simp
  unfold cutAt
  rw [hd, hx, if_pos (by omega)]
  simp only [Int.toNat_natCast]
  rw [ext_mk, ext_mk, size_mk]
  refine Prod.ext ?_ (Prod.ext ?_ rfl)
  · show (⟨_⟩ : ByteArray) = a
    rw [List.drop_zero, Nat.sub_zero, List.take_left]
  · show (⟨_⟩ : ByteArray) = t
    rw [show a.data.toList.length + 1 = a.data.toList.length + 1 from rfl, ← List.drop_drop, List.drop_left, List.drop_one, List.tail_cons, List.take_of_length_le (by simp; omega)]
theorem refLine_list (a b : ByteArray) : refLine a b = ⟨(a.data.toList ++ 58 :: (if b.data.toList = [] then [] else 32 :: b.data.toList)).toArray⟩ := by
  apply (toList_inj _ _).1
  unfold refLine
  rw [Lib.toList_data b]
  split <;> (rw [Lib.toList_data, Lib.toList_data]; simp)
/-- P9.1: a field that is right comes back from its line. -/
theorem line_back (a b : ByteArray) (h : fieldRight a b = true) : fieldParse (refLine a b) = (a, b, 0) := by
  unfold fieldRight at h
  simp only [Bool.and_eq_true, beq_iff_eq] at h
  obtain ⟨h1, h2, h3⟩ := h
  have ht : trimB b = b := (toList_inj _ _).1 h3
  have hc := fun t => cut_line a t (token_no58 a h1)
  rw [refLine_list]
  by_cases hb : b.data.toList = []
  · rw [if_pos hb]
    have hb2 : b = ⟨#[]⟩ := by rw [← mk_eta b, hb]
    have := hc ⟨#[]⟩
    unfold fieldParse
    rw [show (58 :: ([] : List UInt8)) = 58 :: (⟨#[]⟩ : ByteArray).data.toList from rfl, this]
    simp only
    rw [if_pos trivial, if_pos h1, if_pos (by decide +kernel), hb2]
    rfl
  · rw [if_neg hb]
    have := hc ⟨(32 :: b.data.toList).toArray⟩
    unfold fieldParse
    rw [show 58 :: 32 :: b.data.toList = 58 :: (⟨(32 :: b.data.toList).toArray⟩ : ByteArray).data.toList from by simp, this]
    simp only
    have hv : octetValue ⟨(32 :: b.data.toList).toArray⟩ = true := by
      rw [octetValue_list] at h2 ⊢
      show (32 :: b.data.toList).toArray.toList.all _ = true
      simp only [List.all_cons, h2, Bool.and_true]
      decide +kernel
    have htr : trimB ⟨(32 :: b.data.toList).toArray⟩ = b := by
      refine Eq.trans ?_ ht
      unfold trimB
      show (⟨(trimL (32 :: b.data.toList).toArray.toList).toArray⟩ : ByteArray) = _
      rw [show (32 :: b.data.toList).toArray.toList = 32 :: b.data.toList from by simp, trimL_blank _ _ (by rfl)]
    rw [if_pos trivial, if_pos h1, if_pos hv, htr]


end Go.Proofs.YtkjkbenmoogdjaaDoor.X
