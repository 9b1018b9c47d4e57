/- Part 2 of the texts behind the claim on ActEvents: contracts of the functions that it reaches, and plain laws about them. No conditions of its own. -/
import Derived.Test.YtkepebaapgkhbaaCActEvents1
import Derived.Deep.RegionWith
import Derived.Handy
import Derived.RangeFuncRecord
import Derived.Deep.RegionHeld3
import Derived.ChangeSame
import Derived.Deep.Slices
import Derived.SizedLaws
import Derived.SliceStrings
namespace Go.Proofs.Ytkepebaapgkhbaa.X
open Go.RowKit Go.Proofs.YtkepebaapgkhbaaW.PrintWords Go.Proofs.YtkepebaapgkhbaaW.PrintLast Go.Proofs.YtkepebaapgkhbaaW.PrintMore
attribute [local go_sem] max2_int min2_int max_two min_two max_three min_three max_four min_four   -- for this text's walks alone
set_option linter.unusedVariables false
set_option linter.unusedSimpArgs false

/-! ### abutmentlaw44_ActTells: function 3 -/
def abutmentlaw44_ActTells.f (a0_0 : Int) (a0_1 : Int) (a0_2 : Int) (a0_3 : Int) (a0_4 : ByteArray) (a1 : Int) : Option (Bool) := some true
theorem box_cells {W : World} {g : Nat} {a b c d e : Value} {t : TypeId} (h : W.heap[g]? = some (.cells #[a, b, c, d, e] t (0, 0))) :
    W.cell? ⟨g, 0, none⟩ = some a ∧ W.cell? ⟨g, 1, none⟩ = some b ∧ W.cell? ⟨g, 2, none⟩ = some c ∧ W.cell? ⟨g, 3, none⟩ = some d ∧ W.cell? ⟨g, 4, none⟩ = some e := by
  refine ⟨?_, ?_, ?_, ?_, ?_⟩ <;> (simp only [World.cell?, h]; rfl)
theorem box_next {W X : World} {g : Nat} {o : Obj} (h : W.heap[g]? = some o) (hb : Below W.heap.size W X) : X.heap[g]? = some o := (hb.block g (Array.getElem?_eq_some_iff.1 h).1).trans h
theorem empty_of (t : ByteArray) (h : t.toList = []) : t = ⟨#[]⟩ := by
  rw [ByteArray.toList_eq] at h
  obtain ⟨⟨l⟩⟩ := t
  have h5' : l = [] := h
  rw [h5']
/-- What an event is that may be: as its step tells it again. -/
theorem right_spec (op c o n : Int) (t : ByteArray) (h : rightB op c o n t = true) : (1 ≤ op ∧ op ≤ 7) ∧ ((op = 1 ∨ op = 7) → o = 0) ∧ ((op = 1 ∨ op = 2 ∨ op = 3 ∨ op = 7) → n = 0) ∧ (op = 6 → c = 0 ∧ o = 0) ∧ (op ≠ 2 → t = ⟨#[]⟩) := by
  unfold rightB at h
  simp only [Bool.and_eq_true, decide_eq_true_iff] at h
  obtain ⟨h1, h2, h3, h4, h5⟩ := h
  refine ⟨⟨h1, h2⟩, fun e => ?_, fun e => ?_, fun e => ?_, fun e => ?_⟩
  · unfold placedB at h3
    rw [if_neg (by omega), if_pos e] at h3
    simp only [Bool.and_eq_true, beq_iff_eq] at h3
    exact h3.2.2
  · unfold withinB at h4
    rw [if_neg (show ¬ (op = 4 ∨ op = 5) by omega), if_neg (show ¬ op = 6 by omega)] at h4
    simp only [Bool.and_eq_true, decide_eq_true_iff] at h4
    omega
  · unfold placedB at h3
    rw [if_pos e] at h3
    simp only [Bool.and_eq_true, beq_iff_eq] at h3
    exact h3
  · unfold textB at h5
    rw [decide_eq_false e] at h5
    simp only [Bool.false_and, Bool.or_false, decide_eq_true_iff] at h5
    exact empty_of t h5
set_option maxHeartbeats 16000000 in
set_option maxRecDepth 100000 in
theorem abutmentlaw44_ActTells.calls (a0_0 : Int) (a0_1 : Int) (a0_2 : Int) (a0_3 : Int) (a0_4 : ByteArray) (a1 : Int) (r : Bool) (w : World) (h : abutmentlaw44_ActTells.f a0_0 a0_1 a0_2 a0_3 a0_4 a1 = some r) :
    Calls Try.prog 3 #[.agg #[.int .i64 a0_0, .int .i64 a0_1, .int .i64 a0_2, .int .i64 a0_3, .string a0_4], .int .i64 a1] w fun e w' => e = .returned (.bool r) ∧ Below w.heap.size w w' := by
  obtain rfl := Option.some.inj h
  clear h
  by_cases hs : (a0_4.size : Int) ≤ 6000
  · have hsb : decide ((a0_4.size : Int) ≤ 6000) = true := decide_eq_true hs
    cases hr : rightB a0_0 a0_1 a0_2 a0_3 a0_4 with
    | false =>
      have HBw0 := Aside0.mk ((Below.refl w.heap.size w).alloc (Nat.le_refl _) (.cells #[.int .i64 a0_0, .int .i64 a0_1, .int .i64 a0_2, .int .i64 a0_3, .string a0_4] 25))
      have HXw0 := Aside0.mk (World.alloc_heap_new w (.cells #[.int .i64 a0_0, .int .i64 a0_1, .int .i64 a0_2, .int .i64 a0_3, .string a0_4] 25))
      have hL := fun W => abutmentlaw44_lives.calls true W rfl
      have hW1 := fun W => act_Word.calls a1 (wordA a1) W rfl
      have hW2 := fun W => abutmentref44_Word.calls a1 (wordA a1) W (ref_word44 a1)
      have hO := fun W => act_Of_no 1 (a0_0) (a0_1) (a0_2) (a0_3) (a0_4) W (by rw [right_f _ _ _ _ _ 1 (by omega), hr])
      have hR := fun W => act_Right.calls 1 (a0_0) (a0_1) (a0_2) (a0_3) (a0_4) false W (by rw [right_f _ _ _ _ _ 1 (by omega), hr])
      have hF := fun W => abutmentref44_Right.calls 4 (a0_0) (a0_1) (a0_2) (a0_3) (a0_4) false W (by rw [ref_right44 _ _ _ _ _ 4 (by omega), hr])
      clear hr
      go_enter Try.func3, Try.ntmps3
      go_wp2_with (first
        | (go_at_call 6; (with_reducible refine (hO _).mono ?_); rintro e w1 ⟨rfl, hbw1⟩; have HBw1 := Aside0.mk (HBw0.out.trans (hbw1.mono HBw0.out.size)); have HXw1 := Aside0.mk (box_next HXw0.out hbw1); obtain ⟨cw1_0, cw1_1, cw1_2, cw1_3, cw1_4⟩ := box_cells HXw1.out; clear hbw1)
        | (go_at_call 7; (with_reducible refine (hF _).mono ?_); rintro e w2 ⟨rfl, hbw2⟩; have HBw2 := Aside0.mk (HBw1.out.trans (hbw2.mono HBw1.out.size)); have HXw2 := Aside0.mk (box_next HXw1.out hbw2); obtain ⟨cw2_0, cw2_1, cw2_2, cw2_3, cw2_4⟩ := box_cells HXw2.out; clear hbw2)
        | (go_at_call 8; (with_reducible refine (hR _).mono ?_); rintro e w3 ⟨rfl, hbw3⟩; have HBw3 := Aside0.mk (HBw2.out.trans (hbw3.mono HBw2.out.size)); have HXw3 := Aside0.mk (box_next HXw2.out hbw3); obtain ⟨cw3_0, cw3_1, cw3_2, cw3_3, cw3_4⟩ := box_cells HXw3.out; clear hbw3)
        | (go_at_call 9; (with_reducible refine (hW1 _).mono ?_); rintro e w4 ⟨rfl, hbw4⟩; have HBw4 := Aside0.mk (HBw3.out.trans (hbw4.mono HBw3.out.size)); have HXw4 := Aside0.mk (box_next HXw3.out hbw4); obtain ⟨cw4_0, cw4_1, cw4_2, cw4_3, cw4_4⟩ := box_cells HXw4.out; clear hbw4)
        | (go_at_call 10; (with_reducible refine (hW2 _).mono ?_); rintro e w5 ⟨rfl, hbw5⟩; have HBw5 := Aside0.mk (HBw4.out.trans (hbw5.mono HBw4.out.size)); have HXw5 := Aside0.mk (box_next HXw4.out hbw5); obtain ⟨cw5_0, cw5_1, cw5_2, cw5_3, cw5_4⟩ := box_cells HXw5.out; clear hbw5))
      refine wp_region_any (by kernel_rfl) ?_
      change wpAny _ _ _ _ _ _ _ (World.drew _)
      refine wpAny_take (i := 0) (v := ?v0_1) rfl (by kernel_rfl) (by kernel_rfl) (by kernel_rfl) (fun _ _ _ h => h) (Or.inl ⟨by rfl, ?y0_1⟩) ?_
      case y0_1 => intro w; go_simp; first | done | (with_reducible rfl)
      refine wpAny_take (i := 1) (v := ?v1_2) rfl (by kernel_rfl) (by kernel_rfl) (by kernel_rfl) (fun _ _ _ h => h) (Or.inl ⟨by rfl, ?y1_2⟩) ?_
      case y1_2 => intro w; go_simp; first | done | (with_reducible rfl)
      refine wpAny_take (i := 2) (v := ?v2_3) rfl (by kernel_rfl) (by kernel_rfl) (by kernel_rfl) (fun _ _ _ h => h) (Or.inl ⟨by rfl, ?y2_3⟩) ?_
      case y2_3 => intro w; go_simp; first | done | (with_reducible rfl)
      refine wpAny_take (i := 3) (v := undef) rfl (by kernel_rfl) (by kernel_rfl) (by kernel_rfl) (fun _ _ _ h => h) (Or.inr ⟨by rfl, rfl⟩) ?_
      refine wpAny_take (i := 4) (v := undef) rfl (by kernel_rfl) (by kernel_rfl) (by kernel_rfl) (fun _ _ _ h => h) (Or.inr ⟨by rfl, rfl⟩) ?_
      refine wpAny_take (i := 5) (v := undef) rfl (by kernel_rfl) (by kernel_rfl) (by kernel_rfl) (fun _ _ _ h => h) (Or.inr ⟨by rfl, rfl⟩) ?_
      refine wpAny_take (i := 6) (v := undef) rfl (by kernel_rfl) (by kernel_rfl) (by kernel_rfl) (fun _ _ _ h => h) (Or.inr ⟨by rfl, rfl⟩) ?_
      refine wpAny_take (i := 7) (v := ?v7_4) rfl (by kernel_rfl) (by kernel_rfl) (by kernel_rfl) (fun _ _ _ h => h) (Or.inl ⟨by rfl, ?y7_4⟩) ?_
      case y7_4 => intro w; go_simp; first | done | (with_reducible rfl)
      refine wpAny_take (i := 8) (v := ?v8_5) rfl (by kernel_rfl) (by kernel_rfl) (by kernel_rfl) (fun _ _ _ h => h) (Or.inl ⟨by rfl, ?y8_5⟩) ?_
      case y8_5 => intro w; go_simp; first | done | (with_reducible rfl)
      refine wpAny_ready (rs := [9]) (by kernel_rfl) (by simp) ?_
      refine AllReady.cons rfl (fun K hK => ?_) AllReady.nil
      go_simp
      go_wp2_with (go_at_call 11; refine (hL _).mono ?_; rintro e w7 ⟨rfl, hb7⟩; have HB7 := Aside0.mk hb7; clear hb7)
      refine wpAny_take (i := 10) (v := ?v10_6) rfl (by kernel_rfl) (by kernel_rfl) (by kernel_rfl) (fun _ _ _ h => h) (Or.inl ⟨by rfl, ?y10_6⟩) ?_
      case y10_6 => intro w; go_simp; first | done | (with_reducible rfl)
      refine wpAny_take (i := 11) (v := ?v11_7) rfl (by kernel_rfl) (by kernel_rfl) (by kernel_rfl) (fun _ _ _ h => h) (Or.inl ⟨by rfl, ?y11_7⟩) ?_
      case y11_7 => intro w; go_simp; first | done | (with_reducible rfl)
      refine wpAny_done (by kernel_rfl) ?_ _
      go_wp2
      go_ret
      exact ⟨rfl, HBw5.out.drew.trans (HB7.out.mono HBw5.out.size)⟩
    | true =>
      obtain ⟨hop, h1o, h1n, h6, h67⟩ := right_spec _ _ _ _ _ hr
      obtain h | h | h | h | h | h | h : a0_0 = 1 ∨ a0_0 = 2 ∨ a0_0 = 3 ∨ a0_0 = 4 ∨ a0_0 = 5 ∨ a0_0 = 6 ∨ a0_0 = 7 := by omega
      · subst h
        have ht := h67 (by decide)
        have hte1 : (a0_4.toList == ([] : List UInt8)) = true := by rw [ht]; decide +kernel
        have hte2 : (([] : List UInt8) == a0_4.toList) = true := by rw [ht]; decide +kernel
        clear ht
        have ho := h1o (by decide)
        subst ho
        have hn := h1n (by decide)
        subst hn
        clear hop h1o h1n h6 h67
        have HBw0 := Aside0.mk ((Below.refl w.heap.size w).alloc (Nat.le_refl _) (.cells #[.int .i64 1, .int .i64 a0_1, .int .i64 0, .int .i64 0, .string a0_4] 25))
        have HXw0 := Aside0.mk (World.alloc_heap_new w (.cells #[.int .i64 1, .int .i64 a0_1, .int .i64 0, .int .i64 0, .string a0_4] 25))
        have hL := fun W => abutmentlaw44_lives.calls true W rfl
        have hW1 := fun W => act_Word.calls a1 (wordA a1) W rfl
        have hW2 := fun W => abutmentref44_Word.calls a1 (wordA a1) W (ref_word44 a1)
        have hO := fun W => act_Of_yes 1 (1) (a0_1) (0) (0) (a0_4) W (by rw [right_f _ _ _ _ _ 1 (by omega), hr]) (by decide)
        have hR := fun W => act_Right.calls 1 (1) (a0_1) (0) (0) (a0_4) true W (by rw [right_f _ _ _ _ _ 1 (by omega), hr])
        have hF := fun W => abutmentref44_Right.calls 4 (1) (a0_1) (0) (0) (a0_4) true W (by rw [ref_right44 _ _ _ _ _ 4 (by omega), hr])
        clear hr
        unfold actV at hO
        rw [if_pos rfl] at hO
        go_enter Try.func3, Try.ntmps3
        go_wp2_with (first
          | (go_at_call 6; (with_reducible refine (hO _).mono ?_); rintro e w1 ⟨rfl, hbw1⟩; have HBw1 := Aside0.mk (HBw0.out.trans (hbw1.mono HBw0.out.size)); have HXw1 := Aside0.mk (box_next HXw0.out hbw1); obtain ⟨cw1_0, cw1_1, cw1_2, cw1_3, cw1_4⟩ := box_cells HXw1.out; clear hbw1)
          | (go_at_call 7; (with_reducible refine (hF _).mono ?_); rintro e w2 ⟨rfl, hbw2⟩; have HBw2 := Aside0.mk (HBw1.out.trans (hbw2.mono HBw1.out.size)); have HXw2 := Aside0.mk (box_next HXw1.out hbw2); obtain ⟨cw2_0, cw2_1, cw2_2, cw2_3, cw2_4⟩ := box_cells HXw2.out; clear hbw2)
          | (go_at_call 8; (with_reducible refine (hR _).mono ?_); rintro e w3 ⟨rfl, hbw3⟩; have HBw3 := Aside0.mk (HBw2.out.trans (hbw3.mono HBw2.out.size)); have HXw3 := Aside0.mk (box_next HXw2.out hbw3); obtain ⟨cw3_0, cw3_1, cw3_2, cw3_3, cw3_4⟩ := box_cells HXw3.out; clear hbw3)
          | (go_at_call 9; (with_reducible refine (hW1 _).mono ?_); rintro e w4 ⟨rfl, hbw4⟩; have HBw4 := Aside0.mk (HBw3.out.trans (hbw4.mono HBw3.out.size)); have HXw4 := Aside0.mk (box_next HXw3.out hbw4); obtain ⟨cw4_0, cw4_1, cw4_2, cw4_3, cw4_4⟩ := box_cells HXw4.out; clear hbw4)
          | (go_at_call 10; (with_reducible refine (hW2 _).mono ?_); rintro e w5 ⟨rfl, hbw5⟩; have HBw5 := Aside0.mk (HBw4.out.trans (hbw5.mono HBw4.out.size)); have HXw5 := Aside0.mk (box_next HXw4.out hbw5); obtain ⟨cw5_0, cw5_1, cw5_2, cw5_3, cw5_4⟩ := box_cells HXw5.out; clear hbw5))
        refine wp_region_any (by kernel_rfl) ?_
        change wpAny _ _ _ _ _ _ _ (World.drew _)
        refine wpAny_take (i := 0) (v := ?v0_8) rfl (by kernel_rfl) (by kernel_rfl) (by kernel_rfl) (fun _ _ _ h => h) (Or.inl ⟨by rfl, ?y0_8⟩) ?_
        case y0_8 => intro w; go_simp; first | done | (with_reducible rfl)
        refine wpAny_take (i := 1) (v := ?v1_9) rfl (by kernel_rfl) (by kernel_rfl) (by kernel_rfl) (fun _ _ _ h => h) (Or.inl ⟨by rfl, ?y1_9⟩) ?_
        case y1_9 => intro w; go_simp; first | done | (with_reducible rfl)
        refine wpAny_take (i := 2) (v := ?v2_10) rfl (by kernel_rfl) (by kernel_rfl) (by kernel_rfl) (fun _ _ _ h => h) (Or.inl ⟨by rfl, ?y2_10⟩) ?_
        case y2_10 => intro w; go_simp; first | done | (with_reducible rfl)
        refine wpAny_take (i := 3) (v := ?v3_11) rfl (by kernel_rfl) (by kernel_rfl) (by kernel_rfl) (fun _ _ _ h => h) (Or.inl ⟨by rfl, ?y3_11⟩) ?_
        case y3_11 => intro w; go_simp; first | done | (with_reducible rfl)
        refine wpAny_ready (rs := [4, 5]) (by kernel_rfl) (by simp) ?_
        refine AllReady.cons rfl (fun K hK => ?_) (AllReady.cons rfl (fun K hK => ?_) AllReady.nil)
        · go_simp
          go_wp2_with ((with_reducible refine (eventOpen_wp (a0_1) _).mono ?_); rintro e w6 ⟨rfl, hb6⟩; have HB6 := Aside0.mk (HBw5.out.drew.trans (hb6.mono HBw5.out.size)); have HX6 := Aside0.mk (box_next (W := w5.drew) HXw5.out hb6); obtain ⟨c6_0, c6_1, c6_2, c6_3, c6_4⟩ := box_cells HX6.out; clear hb6)
          refine wpAny_ready (rs := [5]) (by kernel_rfl) (by simp) ?_
          refine AllReady.cons rfl (fun K hK => ?_) AllReady.nil
          go_simp
          refine hK _ _ ?_
          clear hK K
          refine wpAny_take (i := 6) (v := ?v6_12) rfl (by kernel_rfl) (by kernel_rfl) (by kernel_rfl) (fun _ _ _ h => h) (Or.inl ⟨by rfl, ?y6_12⟩) ?_
          case y6_12 => intro w; go_simp; first | done | (with_reducible rfl)
          refine wpAny_take (i := 7) (v := ?v7_13) rfl (by kernel_rfl) (by kernel_rfl) (by kernel_rfl) (fun _ _ _ h => h) (Or.inl ⟨by rfl, ?y7_13⟩) ?_
          case y7_13 => intro w; go_simp; first | done | (with_reducible rfl)
          refine wpAny_take (i := 8) (v := ?v8_14) rfl (by kernel_rfl) (by kernel_rfl) (by kernel_rfl) (fun _ _ _ h => h) (Or.inl ⟨by rfl, ?y8_14⟩) ?_
          case y8_14 => intro w; go_simp; first | done | (with_reducible rfl)
          refine wpAny_ready (rs := [9]) (by kernel_rfl) (by simp) ?_
          refine AllReady.cons rfl (fun K hK => ?_) AllReady.nil
          go_simp
          go_wp2_with (go_at_call 11; refine (hL _).mono ?_; rintro e w7 ⟨rfl, hb7⟩; have HB7 := Aside0.mk hb7; clear hb7)
          refine wpAny_take (i := 10) (v := ?v10_15) rfl (by kernel_rfl) (by kernel_rfl) (by kernel_rfl) (fun _ _ _ h => h) (Or.inl ⟨by rfl, ?y10_15⟩) ?_
          case y10_15 => intro w; go_simp; first | done | (with_reducible rfl)
          refine wpAny_take (i := 11) (v := ?v11_16) rfl (by kernel_rfl) (by kernel_rfl) (by kernel_rfl) (fun _ _ _ h => h) (Or.inl ⟨by rfl, ?y11_16⟩) ?_
          case y11_16 => intro w; go_simp; first | done | (with_reducible rfl)
          refine wpAny_done (by kernel_rfl) ?_ _
          go_wp2
          go_ret
          exact ⟨rfl, HB6.out.trans (HB7.out.mono HB6.out.size)⟩
        · go_simp
          refine hK _ _ ?_
          clear hK K
          refine wpAny_ready (rs := [4]) (by kernel_rfl) (by simp) ?_
          refine AllReady.cons rfl (fun K hK => ?_) AllReady.nil
          go_simp
          go_wp2_with ((with_reducible refine (eventOpen_wp (a0_1) _).mono ?_); rintro e w6 ⟨rfl, hb6⟩; have HB6 := Aside0.mk (HBw5.out.drew.trans (hb6.mono HBw5.out.size)); have HX6 := Aside0.mk (box_next (W := w5.drew) HXw5.out hb6); obtain ⟨c6_0, c6_1, c6_2, c6_3, c6_4⟩ := box_cells HX6.out; clear hb6)
          refine wpAny_take (i := 6) (v := ?v6_17) rfl (by kernel_rfl) (by kernel_rfl) (by kernel_rfl) (fun _ _ _ h => h) (Or.inl ⟨by rfl, ?y6_17⟩) ?_
          case y6_17 => intro w; go_simp; first | done | (with_reducible rfl)
          refine wpAny_take (i := 7) (v := ?v7_18) rfl (by kernel_rfl) (by kernel_rfl) (by kernel_rfl) (fun _ _ _ h => h) (Or.inl ⟨by rfl, ?y7_18⟩) ?_
          case y7_18 => intro w; go_simp; first | done | (with_reducible rfl)
          refine wpAny_take (i := 8) (v := ?v8_19) rfl (by kernel_rfl) (by kernel_rfl) (by kernel_rfl) (fun _ _ _ h => h) (Or.inl ⟨by rfl, ?y8_19⟩) ?_
          case y8_19 => intro w; go_simp; first | done | (with_reducible rfl)
          refine wpAny_ready (rs := [9]) (by kernel_rfl) (by simp) ?_
          refine AllReady.cons rfl (fun K hK => ?_) AllReady.nil
          go_simp
          go_wp2_with (go_at_call 11; refine (hL _).mono ?_; rintro e w7 ⟨rfl, hb7⟩; have HB7 := Aside0.mk hb7; clear hb7)
          refine wpAny_take (i := 10) (v := ?v10_20) rfl (by kernel_rfl) (by kernel_rfl) (by kernel_rfl) (fun _ _ _ h => h) (Or.inl ⟨by rfl, ?y10_20⟩) ?_
          case y10_20 => intro w; go_simp; first | done | (with_reducible rfl)
          refine wpAny_take (i := 11) (v := ?v11_21) rfl (by kernel_rfl) (by kernel_rfl) (by kernel_rfl) (fun _ _ _ h => h) (Or.inl ⟨by rfl, ?y11_21⟩) ?_
          case y11_21 => intro w; go_simp; first | done | (with_reducible rfl)
          refine wpAny_done (by kernel_rfl) ?_ _
          go_wp2
          go_ret
          exact ⟨rfl, HB6.out.trans (HB7.out.mono HB6.out.size)⟩
      · subst h
        have hn := h1n (by decide)
        subst hn
        clear hop h1o h1n h6 h67
        have HBw0 := Aside0.mk ((Below.refl w.heap.size w).alloc (Nat.le_refl _) (.cells #[.int .i64 2, .int .i64 a0_1, .int .i64 a0_2, .int .i64 0, .string a0_4] 25))
        have HXw0 := Aside0.mk (World.alloc_heap_new w (.cells #[.int .i64 2, .int .i64 a0_1, .int .i64 a0_2, .int .i64 0, .string a0_4] 25))
        have hL := fun W => abutmentlaw44_lives.calls true W rfl
        have hW1 := fun W => act_Word.calls a1 (wordA a1) W rfl
        have hW2 := fun W => abutmentref44_Word.calls a1 (wordA a1) W (ref_word44 a1)
        have hO := fun W => act_Of_yes 1 (2) (a0_1) (a0_2) (0) (a0_4) W (by rw [right_f _ _ _ _ _ 1 (by omega), hr]) (by decide)
        have hR := fun W => act_Right.calls 1 (2) (a0_1) (a0_2) (0) (a0_4) true W (by rw [right_f _ _ _ _ _ 1 (by omega), hr])
        have hF := fun W => abutmentref44_Right.calls 4 (2) (a0_1) (a0_2) (0) (a0_4) true W (by rw [ref_right44 _ _ _ _ _ 4 (by omega), hr])
        clear hr
        unfold actV at hO
        rw [if_neg (by decide), if_pos rfl] at hO
        go_enter Try.func3, Try.ntmps3
        go_wp2_with (first
          | (go_at_call 6; (with_reducible refine (hO _).mono ?_); rintro e w1 ⟨rfl, hbw1⟩; have HBw1 := Aside0.mk (HBw0.out.trans (hbw1.mono HBw0.out.size)); have HXw1 := Aside0.mk (box_next HXw0.out hbw1); obtain ⟨cw1_0, cw1_1, cw1_2, cw1_3, cw1_4⟩ := box_cells HXw1.out; clear hbw1)
          | (go_at_call 7; (with_reducible refine (hF _).mono ?_); rintro e w2 ⟨rfl, hbw2⟩; have HBw2 := Aside0.mk (HBw1.out.trans (hbw2.mono HBw1.out.size)); have HXw2 := Aside0.mk (box_next HXw1.out hbw2); obtain ⟨cw2_0, cw2_1, cw2_2, cw2_3, cw2_4⟩ := box_cells HXw2.out; clear hbw2)
          | (go_at_call 8; (with_reducible refine (hR _).mono ?_); rintro e w3 ⟨rfl, hbw3⟩; have HBw3 := Aside0.mk (HBw2.out.trans (hbw3.mono HBw2.out.size)); have HXw3 := Aside0.mk (box_next HXw2.out hbw3); obtain ⟨cw3_0, cw3_1, cw3_2, cw3_3, cw3_4⟩ := box_cells HXw3.out; clear hbw3)
          | (go_at_call 9; (with_reducible refine (hW1 _).mono ?_); rintro e w4 ⟨rfl, hbw4⟩; have HBw4 := Aside0.mk (HBw3.out.trans (hbw4.mono HBw3.out.size)); have HXw4 := Aside0.mk (box_next HXw3.out hbw4); obtain ⟨cw4_0, cw4_1, cw4_2, cw4_3, cw4_4⟩ := box_cells HXw4.out; clear hbw4)
          | (go_at_call 10; (with_reducible refine (hW2 _).mono ?_); rintro e w5 ⟨rfl, hbw5⟩; have HBw5 := Aside0.mk (HBw4.out.trans (hbw5.mono HBw4.out.size)); have HXw5 := Aside0.mk (box_next HXw4.out hbw5); obtain ⟨cw5_0, cw5_1, cw5_2, cw5_3, cw5_4⟩ := box_cells HXw5.out; clear hbw5))
        refine wp_region_any (by kernel_rfl) ?_
        change wpAny _ _ _ _ _ _ _ (World.drew _)
        refine wpAny_take (i := 0) (v := ?v0_22) rfl (by kernel_rfl) (by kernel_rfl) (by kernel_rfl) (fun _ _ _ h => h) (Or.inl ⟨by rfl, ?y0_22⟩) ?_
        case y0_22 => intro w; go_simp; first | done | (with_reducible rfl)
        refine wpAny_take (i := 1) (v := ?v1_23) rfl (by kernel_rfl) (by kernel_rfl) (by kernel_rfl) (fun _ _ _ h => h) (Or.inl ⟨by rfl, ?y1_23⟩) ?_
        case y1_23 => intro w; go_simp; first | done | (with_reducible rfl)
        refine wpAny_take (i := 2) (v := ?v2_24) rfl (by kernel_rfl) (by kernel_rfl) (by kernel_rfl) (fun _ _ _ h => h) (Or.inl ⟨by rfl, ?y2_24⟩) ?_
        case y2_24 => intro w; go_simp; first | done | (with_reducible rfl)
        refine wpAny_take (i := 3) (v := ?v3_25) rfl (by kernel_rfl) (by kernel_rfl) (by kernel_rfl) (fun _ _ _ h => h) (Or.inl ⟨by rfl, ?y3_25⟩) ?_
        case y3_25 => intro w; go_simp; first | done | (with_reducible rfl)
        refine wpAny_ready (rs := [4, 5]) (by kernel_rfl) (by simp) ?_
        refine AllReady.cons rfl (fun K hK => ?_) (AllReady.cons rfl (fun K hK => ?_) AllReady.nil)
        · go_simp
          go_wp2_with ((with_reducible refine (eventSend_wp (a0_1) (a0_2) (a0_4) _).mono ?_); rintro e w6 ⟨rfl, hb6⟩; have HB6 := Aside0.mk (HBw5.out.drew.trans (hb6.mono HBw5.out.size)); have HX6 := Aside0.mk (box_next (W := w5.drew) HXw5.out hb6); obtain ⟨c6_0, c6_1, c6_2, c6_3, c6_4⟩ := box_cells HX6.out; clear hb6)
          refine wpAny_ready (rs := [5]) (by kernel_rfl) (by simp) ?_
          refine AllReady.cons rfl (fun K hK => ?_) AllReady.nil
          go_simp
          refine hK _ _ ?_
          clear hK K
          refine wpAny_take (i := 6) (v := ?v6_26) rfl (by kernel_rfl) (by kernel_rfl) (by kernel_rfl) (fun _ _ _ h => h) (Or.inl ⟨by rfl, ?y6_26⟩) ?_
          case y6_26 => intro w; go_simp; first | done | (with_reducible rfl)
          refine wpAny_take (i := 7) (v := ?v7_27) rfl (by kernel_rfl) (by kernel_rfl) (by kernel_rfl) (fun _ _ _ h => h) (Or.inl ⟨by rfl, ?y7_27⟩) ?_
          case y7_27 => intro w; go_simp; first | done | (with_reducible rfl)
          refine wpAny_take (i := 8) (v := ?v8_28) rfl (by kernel_rfl) (by kernel_rfl) (by kernel_rfl) (fun _ _ _ h => h) (Or.inl ⟨by rfl, ?y8_28⟩) ?_
          case y8_28 => intro w; go_simp; first | done | (with_reducible rfl)
          refine wpAny_ready (rs := [9]) (by kernel_rfl) (by simp) ?_
          refine AllReady.cons rfl (fun K hK => ?_) AllReady.nil
          go_simp
          go_wp2_with (go_at_call 11; refine (hL _).mono ?_; rintro e w7 ⟨rfl, hb7⟩; have HB7 := Aside0.mk hb7; clear hb7)
          refine wpAny_take (i := 10) (v := ?v10_29) rfl (by kernel_rfl) (by kernel_rfl) (by kernel_rfl) (fun _ _ _ h => h) (Or.inl ⟨by rfl, ?y10_29⟩) ?_
          case y10_29 => intro w; go_simp; first | done | (with_reducible rfl)
          refine wpAny_take (i := 11) (v := ?v11_30) rfl (by kernel_rfl) (by kernel_rfl) (by kernel_rfl) (fun _ _ _ h => h) (Or.inl ⟨by rfl, ?y11_30⟩) ?_
          case y11_30 => intro w; go_simp; first | done | (with_reducible rfl)
          refine wpAny_done (by kernel_rfl) ?_ _
          go_wp2
          go_ret
          exact ⟨rfl, HB6.out.trans (HB7.out.mono HB6.out.size)⟩
        · go_simp
          refine hK _ _ ?_
          clear hK K
          refine wpAny_ready (rs := [4]) (by kernel_rfl) (by simp) ?_
          refine AllReady.cons rfl (fun K hK => ?_) AllReady.nil
          go_simp
          go_wp2_with ((with_reducible refine (eventSend_wp (a0_1) (a0_2) (a0_4) _).mono ?_); rintro e w6 ⟨rfl, hb6⟩; have HB6 := Aside0.mk (HBw5.out.drew.trans (hb6.mono HBw5.out.size)); have HX6 := Aside0.mk (box_next (W := w5.drew) HXw5.out hb6); obtain ⟨c6_0, c6_1, c6_2, c6_3, c6_4⟩ := box_cells HX6.out; clear hb6)
          refine wpAny_take (i := 6) (v := ?v6_31) rfl (by kernel_rfl) (by kernel_rfl) (by kernel_rfl) (fun _ _ _ h => h) (Or.inl ⟨by rfl, ?y6_31⟩) ?_
          case y6_31 => intro w; go_simp; first | done | (with_reducible rfl)
          refine wpAny_take (i := 7) (v := ?v7_32) rfl (by kernel_rfl) (by kernel_rfl) (by kernel_rfl) (fun _ _ _ h => h) (Or.inl ⟨by rfl, ?y7_32⟩) ?_
          case y7_32 => intro w; go_simp; first | done | (with_reducible rfl)
          refine wpAny_take (i := 8) (v := ?v8_33) rfl (by kernel_rfl) (by kernel_rfl) (by kernel_rfl) (fun _ _ _ h => h) (Or.inl ⟨by rfl, ?y8_33⟩) ?_
          case y8_33 => intro w; go_simp; first | done | (with_reducible rfl)
          refine wpAny_ready (rs := [9]) (by kernel_rfl) (by simp) ?_
          refine AllReady.cons rfl (fun K hK => ?_) AllReady.nil
          go_simp
          go_wp2_with (go_at_call 11; refine (hL _).mono ?_; rintro e w7 ⟨rfl, hb7⟩; have HB7 := Aside0.mk hb7; clear hb7)
          refine wpAny_take (i := 10) (v := ?v10_34) rfl (by kernel_rfl) (by kernel_rfl) (by kernel_rfl) (fun _ _ _ h => h) (Or.inl ⟨by rfl, ?y10_34⟩) ?_
          case y10_34 => intro w; go_simp; first | done | (with_reducible rfl)
          refine wpAny_take (i := 11) (v := ?v11_35) rfl (by kernel_rfl) (by kernel_rfl) (by kernel_rfl) (fun _ _ _ h => h) (Or.inl ⟨by rfl, ?y11_35⟩) ?_
          case y11_35 => intro w; go_simp; first | done | (with_reducible rfl)
          refine wpAny_done (by kernel_rfl) ?_ _
          go_wp2
          go_ret
          exact ⟨rfl, HB6.out.trans (HB7.out.mono HB6.out.size)⟩
      · subst h
        have ht := h67 (by decide)
        have hte1 : (a0_4.toList == ([] : List UInt8)) = true := by rw [ht]; decide +kernel
        have hte2 : (([] : List UInt8) == a0_4.toList) = true := by rw [ht]; decide +kernel
        clear ht
        have hn := h1n (by decide)
        subst hn
        clear hop h1o h1n h6 h67
        have HBw0 := Aside0.mk ((Below.refl w.heap.size w).alloc (Nat.le_refl _) (.cells #[.int .i64 3, .int .i64 a0_1, .int .i64 a0_2, .int .i64 0, .string a0_4] 25))
        have HXw0 := Aside0.mk (World.alloc_heap_new w (.cells #[.int .i64 3, .int .i64 a0_1, .int .i64 a0_2, .int .i64 0, .string a0_4] 25))
        have hL := fun W => abutmentlaw44_lives.calls true W rfl
        have hW1 := fun W => act_Word.calls a1 (wordA a1) W rfl
        have hW2 := fun W => abutmentref44_Word.calls a1 (wordA a1) W (ref_word44 a1)
        have hO := fun W => act_Of_yes 1 (3) (a0_1) (a0_2) (0) (a0_4) W (by rw [right_f _ _ _ _ _ 1 (by omega), hr]) (by decide)
        have hR := fun W => act_Right.calls 1 (3) (a0_1) (a0_2) (0) (a0_4) true W (by rw [right_f _ _ _ _ _ 1 (by omega), hr])
        have hF := fun W => abutmentref44_Right.calls 4 (3) (a0_1) (a0_2) (0) (a0_4) true W (by rw [ref_right44 _ _ _ _ _ 4 (by omega), hr])
        clear hr
        unfold actV at hO
        rw [if_neg (by decide), if_neg (by decide), if_pos rfl] at hO
        go_enter Try.func3, Try.ntmps3
        go_wp2_with (first
          | (go_at_call 6; (with_reducible refine (hO _).mono ?_); rintro e w1 ⟨rfl, hbw1⟩; have HBw1 := Aside0.mk (HBw0.out.trans (hbw1.mono HBw0.out.size)); have HXw1 := Aside0.mk (box_next HXw0.out hbw1); obtain ⟨cw1_0, cw1_1, cw1_2, cw1_3, cw1_4⟩ := box_cells HXw1.out; clear hbw1)
          | (go_at_call 7; (with_reducible refine (hF _).mono ?_); rintro e w2 ⟨rfl, hbw2⟩; have HBw2 := Aside0.mk (HBw1.out.trans (hbw2.mono HBw1.out.size)); have HXw2 := Aside0.mk (box_next HXw1.out hbw2); obtain ⟨cw2_0, cw2_1, cw2_2, cw2_3, cw2_4⟩ := box_cells HXw2.out; clear hbw2)
          | (go_at_call 8; (with_reducible refine (hR _).mono ?_); rintro e w3 ⟨rfl, hbw3⟩; have HBw3 := Aside0.mk (HBw2.out.trans (hbw3.mono HBw2.out.size)); have HXw3 := Aside0.mk (box_next HXw2.out hbw3); obtain ⟨cw3_0, cw3_1, cw3_2, cw3_3, cw3_4⟩ := box_cells HXw3.out; clear hbw3)
          | (go_at_call 9; (with_reducible refine (hW1 _).mono ?_); rintro e w4 ⟨rfl, hbw4⟩; have HBw4 := Aside0.mk (HBw3.out.trans (hbw4.mono HBw3.out.size)); have HXw4 := Aside0.mk (box_next HXw3.out hbw4); obtain ⟨cw4_0, cw4_1, cw4_2, cw4_3, cw4_4⟩ := box_cells HXw4.out; clear hbw4)
          | (go_at_call 10; (with_reducible refine (hW2 _).mono ?_); rintro e w5 ⟨rfl, hbw5⟩; have HBw5 := Aside0.mk (HBw4.out.trans (hbw5.mono HBw4.out.size)); have HXw5 := Aside0.mk (box_next HXw4.out hbw5); obtain ⟨cw5_0, cw5_1, cw5_2, cw5_3, cw5_4⟩ := box_cells HXw5.out; clear hbw5))
        refine wp_region_any (by kernel_rfl) ?_
        change wpAny _ _ _ _ _ _ _ (World.drew _)
        refine wpAny_take (i := 0) (v := ?v0_36) rfl (by kernel_rfl) (by kernel_rfl) (by kernel_rfl) (fun _ _ _ h => h) (Or.inl ⟨by rfl, ?y0_36⟩) ?_
        case y0_36 => intro w; go_simp; first | done | (with_reducible rfl)
        refine wpAny_take (i := 1) (v := ?v1_37) rfl (by kernel_rfl) (by kernel_rfl) (by kernel_rfl) (fun _ _ _ h => h) (Or.inl ⟨by rfl, ?y1_37⟩) ?_
        case y1_37 => intro w; go_simp; first | done | (with_reducible rfl)
        refine wpAny_take (i := 2) (v := ?v2_38) rfl (by kernel_rfl) (by kernel_rfl) (by kernel_rfl) (fun _ _ _ h => h) (Or.inl ⟨by rfl, ?y2_38⟩) ?_
        case y2_38 => intro w; go_simp; first | done | (with_reducible rfl)
        refine wpAny_take (i := 3) (v := ?v3_39) rfl (by kernel_rfl) (by kernel_rfl) (by kernel_rfl) (fun _ _ _ h => h) (Or.inl ⟨by rfl, ?y3_39⟩) ?_
        case y3_39 => intro w; go_simp; first | done | (with_reducible rfl)
        refine wpAny_ready (rs := [4, 5]) (by kernel_rfl) (by simp) ?_
        refine AllReady.cons rfl (fun K hK => ?_) (AllReady.cons rfl (fun K hK => ?_) AllReady.nil)
        · go_simp
          go_wp2_with ((with_reducible refine (eventEnd_wp (a0_1) (a0_2) _).mono ?_); rintro e w6 ⟨rfl, hb6⟩; have HB6 := Aside0.mk (HBw5.out.drew.trans (hb6.mono HBw5.out.size)); have HX6 := Aside0.mk (box_next (W := w5.drew) HXw5.out hb6); obtain ⟨c6_0, c6_1, c6_2, c6_3, c6_4⟩ := box_cells HX6.out; clear hb6)
          refine wpAny_ready (rs := [5]) (by kernel_rfl) (by simp) ?_
          refine AllReady.cons rfl (fun K hK => ?_) AllReady.nil
          go_simp
          refine hK _ _ ?_
          clear hK K
          refine wpAny_take (i := 6) (v := ?v6_40) rfl (by kernel_rfl) (by kernel_rfl) (by kernel_rfl) (fun _ _ _ h => h) (Or.inl ⟨by rfl, ?y6_40⟩) ?_
          case y6_40 => intro w; go_simp; first | done | (with_reducible rfl)
          refine wpAny_take (i := 7) (v := ?v7_41) rfl (by kernel_rfl) (by kernel_rfl) (by kernel_rfl) (fun _ _ _ h => h) (Or.inl ⟨by rfl, ?y7_41⟩) ?_
          case y7_41 => intro w; go_simp; first | done | (with_reducible rfl)
          refine wpAny_take (i := 8) (v := ?v8_42) rfl (by kernel_rfl) (by kernel_rfl) (by kernel_rfl) (fun _ _ _ h => h) (Or.inl ⟨by rfl, ?y8_42⟩) ?_
          case y8_42 => intro w; go_simp; first | done | (with_reducible rfl)
          refine wpAny_ready (rs := [9]) (by kernel_rfl) (by simp) ?_
          refine AllReady.cons rfl (fun K hK => ?_) AllReady.nil
          go_simp
          go_wp2_with (go_at_call 11; refine (hL _).mono ?_; rintro e w7 ⟨rfl, hb7⟩; have HB7 := Aside0.mk hb7; clear hb7)
          refine wpAny_take (i := 10) (v := ?v10_43) rfl (by kernel_rfl) (by kernel_rfl) (by kernel_rfl) (fun _ _ _ h => h) (Or.inl ⟨by rfl, ?y10_43⟩) ?_
          case y10_43 => intro w; go_simp; first | done | (with_reducible rfl)
          refine wpAny_take (i := 11) (v := ?v11_44) rfl (by kernel_rfl) (by kernel_rfl) (by kernel_rfl) (fun _ _ _ h => h) (Or.inl ⟨by rfl, ?y11_44⟩) ?_
          case y11_44 => intro w; go_simp; first | done | (with_reducible rfl)
          refine wpAny_done (by kernel_rfl) ?_ _
          go_wp2
          go_ret
          exact ⟨rfl, HB6.out.trans (HB7.out.mono HB6.out.size)⟩
        · go_simp
          refine hK _ _ ?_
          clear hK K
          refine wpAny_ready (rs := [4]) (by kernel_rfl) (by simp) ?_
          refine AllReady.cons rfl (fun K hK => ?_) AllReady.nil
          go_simp
          go_wp2_with ((with_reducible refine (eventEnd_wp (a0_1) (a0_2) _).mono ?_); rintro e w6 ⟨rfl, hb6⟩; have HB6 := Aside0.mk (HBw5.out.drew.trans (hb6.mono HBw5.out.size)); have HX6 := Aside0.mk (box_next (W := w5.drew) HXw5.out hb6); obtain ⟨c6_0, c6_1, c6_2, c6_3, c6_4⟩ := box_cells HX6.out; clear hb6)
          refine wpAny_take (i := 6) (v := ?v6_45) rfl (by kernel_rfl) (by kernel_rfl) (by kernel_rfl) (fun _ _ _ h => h) (Or.inl ⟨by rfl, ?y6_45⟩) ?_
          case y6_45 => intro w; go_simp; first | done | (with_reducible rfl)
          refine wpAny_take (i := 7) (v := ?v7_46) rfl (by kernel_rfl) (by kernel_rfl) (by kernel_rfl) (fun _ _ _ h => h) (Or.inl ⟨by rfl, ?y7_46⟩) ?_
          case y7_46 => intro w; go_simp; first | done | (with_reducible rfl)
          refine wpAny_take (i := 8) (v := ?v8_47) rfl (by kernel_rfl) (by kernel_rfl) (by kernel_rfl) (fun _ _ _ h => h) (Or.inl ⟨by rfl, ?y8_47⟩) ?_
          case y8_47 => intro w; go_simp; first | done | (with_reducible rfl)
          refine wpAny_ready (rs := [9]) (by kernel_rfl) (by simp) ?_
          refine AllReady.cons rfl (fun K hK => ?_) AllReady.nil
          go_simp
          go_wp2_with (go_at_call 11; refine (hL _).mono ?_; rintro e w7 ⟨rfl, hb7⟩; have HB7 := Aside0.mk hb7; clear hb7)
          refine wpAny_take (i := 10) (v := ?v10_48) rfl (by kernel_rfl) (by kernel_rfl) (by kernel_rfl) (fun _ _ _ h => h) (Or.inl ⟨by rfl, ?y10_48⟩) ?_
          case y10_48 => intro w; go_simp; first | done | (with_reducible rfl)
          refine wpAny_take (i := 11) (v := ?v11_49) rfl (by kernel_rfl) (by kernel_rfl) (by kernel_rfl) (fun _ _ _ h => h) (Or.inl ⟨by rfl, ?y11_49⟩) ?_
          case y11_49 => intro w; go_simp; first | done | (with_reducible rfl)
          refine wpAny_done (by kernel_rfl) ?_ _
          go_wp2
          go_ret
          exact ⟨rfl, HB6.out.trans (HB7.out.mono HB6.out.size)⟩
      · subst h
        have ht := h67 (by decide)
        have hte1 : (a0_4.toList == ([] : List UInt8)) = true := by rw [ht]; decide +kernel
        have hte2 : (([] : List UInt8) == a0_4.toList) = true := by rw [ht]; decide +kernel
        clear ht
        clear hop h1o h1n h6 h67
        have HBw0 := Aside0.mk ((Below.refl w.heap.size w).alloc (Nat.le_refl _) (.cells #[.int .i64 4, .int .i64 a0_1, .int .i64 a0_2, .int .i64 a0_3, .string a0_4] 25))
        have HXw0 := Aside0.mk (World.alloc_heap_new w (.cells #[.int .i64 4, .int .i64 a0_1, .int .i64 a0_2, .int .i64 a0_3, .string a0_4] 25))
        have hL := fun W => abutmentlaw44_lives.calls true W rfl
        have hW1 := fun W => act_Word.calls a1 (wordA a1) W rfl
        have hW2 := fun W => abutmentref44_Word.calls a1 (wordA a1) W (ref_word44 a1)
        have hO := fun W => act_Of_yes 1 (4) (a0_1) (a0_2) (a0_3) (a0_4) W (by rw [right_f _ _ _ _ _ 1 (by omega), hr]) (by decide)
        have hR := fun W => act_Right.calls 1 (4) (a0_1) (a0_2) (a0_3) (a0_4) true W (by rw [right_f _ _ _ _ _ 1 (by omega), hr])
        have hF := fun W => abutmentref44_Right.calls 4 (4) (a0_1) (a0_2) (a0_3) (a0_4) true W (by rw [ref_right44 _ _ _ _ _ 4 (by omega), hr])
        clear hr
        unfold actV at hO
        rw [if_neg (by decide), if_neg (by decide), if_neg (by decide), if_pos rfl] at hO
        go_enter Try.func3, Try.ntmps3
        go_wp2_with (first
          | (go_at_call 6; (with_reducible refine (hO _).mono ?_); rintro e w1 ⟨rfl, hbw1⟩; have HBw1 := Aside0.mk (HBw0.out.trans (hbw1.mono HBw0.out.size)); have HXw1 := Aside0.mk (box_next HXw0.out hbw1); obtain ⟨cw1_0, cw1_1, cw1_2, cw1_3, cw1_4⟩ := box_cells HXw1.out; clear hbw1)
          | (go_at_call 7; (with_reducible refine (hF _).mono ?_); rintro e w2 ⟨rfl, hbw2⟩; have HBw2 := Aside0.mk (HBw1.out.trans (hbw2.mono HBw1.out.size)); have HXw2 := Aside0.mk (box_next HXw1.out hbw2); obtain ⟨cw2_0, cw2_1, cw2_2, cw2_3, cw2_4⟩ := box_cells HXw2.out; clear hbw2)
          | (go_at_call 8; (with_reducible refine (hR _).mono ?_); rintro e w3 ⟨rfl, hbw3⟩; have HBw3 := Aside0.mk (HBw2.out.trans (hbw3.mono HBw2.out.size)); have HXw3 := Aside0.mk (box_next HXw2.out hbw3); obtain ⟨cw3_0, cw3_1, cw3_2, cw3_3, cw3_4⟩ := box_cells HXw3.out; clear hbw3)
          | (go_at_call 9; (with_reducible refine (hW1 _).mono ?_); rintro e w4 ⟨rfl, hbw4⟩; have HBw4 := Aside0.mk (HBw3.out.trans (hbw4.mono HBw3.out.size)); have HXw4 := Aside0.mk (box_next HXw3.out hbw4); obtain ⟨cw4_0, cw4_1, cw4_2, cw4_3, cw4_4⟩ := box_cells HXw4.out; clear hbw4)
          | (go_at_call 10; (with_reducible refine (hW2 _).mono ?_); rintro e w5 ⟨rfl, hbw5⟩; have HBw5 := Aside0.mk (HBw4.out.trans (hbw5.mono HBw4.out.size)); have HXw5 := Aside0.mk (box_next HXw4.out hbw5); obtain ⟨cw5_0, cw5_1, cw5_2, cw5_3, cw5_4⟩ := box_cells HXw5.out; clear hbw5))
        refine wp_region_any (by kernel_rfl) ?_
        change wpAny _ _ _ _ _ _ _ (World.drew _)
        refine wpAny_take (i := 0) (v := ?v0_50) rfl (by kernel_rfl) (by kernel_rfl) (by kernel_rfl) (fun _ _ _ h => h) (Or.inl ⟨by rfl, ?y0_50⟩) ?_
        case y0_50 => intro w; go_simp; first | done | (with_reducible rfl)
        refine wpAny_take (i := 1) (v := ?v1_51) rfl (by kernel_rfl) (by kernel_rfl) (by kernel_rfl) (fun _ _ _ h => h) (Or.inl ⟨by rfl, ?y1_51⟩) ?_
        case y1_51 => intro w; go_simp; first | done | (with_reducible rfl)
        refine wpAny_take (i := 2) (v := ?v2_52) rfl (by kernel_rfl) (by kernel_rfl) (by kernel_rfl) (fun _ _ _ h => h) (Or.inl ⟨by rfl, ?y2_52⟩) ?_
        case y2_52 => intro w; go_simp; first | done | (with_reducible rfl)
        refine wpAny_take (i := 3) (v := ?v3_53) rfl (by kernel_rfl) (by kernel_rfl) (by kernel_rfl) (fun _ _ _ h => h) (Or.inl ⟨by rfl, ?y3_53⟩) ?_
        case y3_53 => intro w; go_simp; first | done | (with_reducible rfl)
        refine wpAny_ready (rs := [4, 5]) (by kernel_rfl) (by simp) ?_
        refine AllReady.cons rfl (fun K hK => ?_) (AllReady.cons rfl (fun K hK => ?_) AllReady.nil)
        · go_simp
          go_wp2_with ((with_reducible refine (eventRead_wp (a0_1) (a0_2) (a0_3) _).mono ?_); rintro e w6 ⟨rfl, hb6⟩; have HB6 := Aside0.mk (HBw5.out.drew.trans (hb6.mono HBw5.out.size)); have HX6 := Aside0.mk (box_next (W := w5.drew) HXw5.out hb6); obtain ⟨c6_0, c6_1, c6_2, c6_3, c6_4⟩ := box_cells HX6.out; clear hb6)
          refine wpAny_ready (rs := [5]) (by kernel_rfl) (by simp) ?_
          refine AllReady.cons rfl (fun K hK => ?_) AllReady.nil
          go_simp
          refine hK _ _ ?_
          clear hK K
          refine wpAny_take (i := 6) (v := ?v6_54) rfl (by kernel_rfl) (by kernel_rfl) (by kernel_rfl) (fun _ _ _ h => h) (Or.inl ⟨by rfl, ?y6_54⟩) ?_
          case y6_54 => intro w; go_simp; first | done | (with_reducible rfl)
          refine wpAny_take (i := 7) (v := ?v7_55) rfl (by kernel_rfl) (by kernel_rfl) (by kernel_rfl) (fun _ _ _ h => h) (Or.inl ⟨by rfl, ?y7_55⟩) ?_
          case y7_55 => intro w; go_simp; first | done | (with_reducible rfl)
          refine wpAny_take (i := 8) (v := ?v8_56) rfl (by kernel_rfl) (by kernel_rfl) (by kernel_rfl) (fun _ _ _ h => h) (Or.inl ⟨by rfl, ?y8_56⟩) ?_
          case y8_56 => intro w; go_simp; first | done | (with_reducible rfl)
          refine wpAny_ready (rs := [9]) (by kernel_rfl) (by simp) ?_
          refine AllReady.cons rfl (fun K hK => ?_) AllReady.nil
          go_simp
          go_wp2_with (go_at_call 11; refine (hL _).mono ?_; rintro e w7 ⟨rfl, hb7⟩; have HB7 := Aside0.mk hb7; clear hb7)
          refine wpAny_take (i := 10) (v := ?v10_57) rfl (by kernel_rfl) (by kernel_rfl) (by kernel_rfl) (fun _ _ _ h => h) (Or.inl ⟨by rfl, ?y10_57⟩) ?_
          case y10_57 => intro w; go_simp; first | done | (with_reducible rfl)
          refine wpAny_take (i := 11) (v := ?v11_58) rfl (by kernel_rfl) (by kernel_rfl) (by kernel_rfl) (fun _ _ _ h => h) (Or.inl ⟨by rfl, ?y11_58⟩) ?_
          case y11_58 => intro w; go_simp; first | done | (with_reducible rfl)
          refine wpAny_done (by kernel_rfl) ?_ _
          go_wp2
          go_ret
          exact ⟨rfl, HB6.out.trans (HB7.out.mono HB6.out.size)⟩
        · go_simp
          refine hK _ _ ?_
          clear hK K
          refine wpAny_ready (rs := [4]) (by kernel_rfl) (by simp) ?_
          refine AllReady.cons rfl (fun K hK => ?_) AllReady.nil
          go_simp
          go_wp2_with ((with_reducible refine (eventRead_wp (a0_1) (a0_2) (a0_3) _).mono ?_); rintro e w6 ⟨rfl, hb6⟩; have HB6 := Aside0.mk (HBw5.out.drew.trans (hb6.mono HBw5.out.size)); have HX6 := Aside0.mk (box_next (W := w5.drew) HXw5.out hb6); obtain ⟨c6_0, c6_1, c6_2, c6_3, c6_4⟩ := box_cells HX6.out; clear hb6)
          refine wpAny_take (i := 6) (v := ?v6_59) rfl (by kernel_rfl) (by kernel_rfl) (by kernel_rfl) (fun _ _ _ h => h) (Or.inl ⟨by rfl, ?y6_59⟩) ?_
          case y6_59 => intro w; go_simp; first | done | (with_reducible rfl)
          refine wpAny_take (i := 7) (v := ?v7_60) rfl (by kernel_rfl) (by kernel_rfl) (by kernel_rfl) (fun _ _ _ h => h) (Or.inl ⟨by rfl, ?y7_60⟩) ?_
          case y7_60 => intro w; go_simp; first | done | (with_reducible rfl)
          refine wpAny_take (i := 8) (v := ?v8_61) rfl (by kernel_rfl) (by kernel_rfl) (by kernel_rfl) (fun _ _ _ h => h) (Or.inl ⟨by rfl, ?y8_61⟩) ?_
          case y8_61 => intro w; go_simp; first | done | (with_reducible rfl)
          refine wpAny_ready (rs := [9]) (by kernel_rfl) (by simp) ?_
          refine AllReady.cons rfl (fun K hK => ?_) AllReady.nil
          go_simp
          go_wp2_with (go_at_call 11; refine (hL _).mono ?_; rintro e w7 ⟨rfl, hb7⟩; have HB7 := Aside0.mk hb7; clear hb7)
          refine wpAny_take (i := 10) (v := ?v10_62) rfl (by kernel_rfl) (by kernel_rfl) (by kernel_rfl) (fun _ _ _ h => h) (Or.inl ⟨by rfl, ?y10_62⟩) ?_
          case y10_62 => intro w; go_simp; first | done | (with_reducible rfl)
          refine wpAny_take (i := 11) (v := ?v11_63) rfl (by kernel_rfl) (by kernel_rfl) (by kernel_rfl) (fun _ _ _ h => h) (Or.inl ⟨by rfl, ?y11_63⟩) ?_
          case y11_63 => intro w; go_simp; first | done | (with_reducible rfl)
          refine wpAny_done (by kernel_rfl) ?_ _
          go_wp2
          go_ret
          exact ⟨rfl, HB6.out.trans (HB7.out.mono HB6.out.size)⟩
      · subst h
        have ht := h67 (by decide)
        have hte1 : (a0_4.toList == ([] : List UInt8)) = true := by rw [ht]; decide +kernel
        have hte2 : (([] : List UInt8) == a0_4.toList) = true := by rw [ht]; decide +kernel
        clear ht
        clear hop h1o h1n h6 h67
        have HBw0 := Aside0.mk ((Below.refl w.heap.size w).alloc (Nat.le_refl _) (.cells #[.int .i64 5, .int .i64 a0_1, .int .i64 a0_2, .int .i64 a0_3, .string a0_4] 25))
        have HXw0 := Aside0.mk (World.alloc_heap_new w (.cells #[.int .i64 5, .int .i64 a0_1, .int .i64 a0_2, .int .i64 a0_3, .string a0_4] 25))
        have hL := fun W => abutmentlaw44_lives.calls true W rfl
        have hW1 := fun W => act_Word.calls a1 (wordA a1) W rfl
        have hW2 := fun W => abutmentref44_Word.calls a1 (wordA a1) W (ref_word44 a1)
        have hO := fun W => act_Of_yes 1 (5) (a0_1) (a0_2) (a0_3) (a0_4) W (by rw [right_f _ _ _ _ _ 1 (by omega), hr]) (by decide)
        have hR := fun W => act_Right.calls 1 (5) (a0_1) (a0_2) (a0_3) (a0_4) true W (by rw [right_f _ _ _ _ _ 1 (by omega), hr])
        have hF := fun W => abutmentref44_Right.calls 4 (5) (a0_1) (a0_2) (a0_3) (a0_4) true W (by rw [ref_right44 _ _ _ _ _ 4 (by omega), hr])
        clear hr
        unfold actV at hO
        rw [if_neg (by decide), if_neg (by decide), if_neg (by decide), if_neg (by decide), if_pos rfl] at hO
        go_enter Try.func3, Try.ntmps3
        go_wp2_with (first
          | (go_at_call 6; (with_reducible refine (hO _).mono ?_); rintro e w1 ⟨rfl, hbw1⟩; have HBw1 := Aside0.mk (HBw0.out.trans (hbw1.mono HBw0.out.size)); have HXw1 := Aside0.mk (box_next HXw0.out hbw1); obtain ⟨cw1_0, cw1_1, cw1_2, cw1_3, cw1_4⟩ := box_cells HXw1.out; clear hbw1)
          | (go_at_call 7; (with_reducible refine (hF _).mono ?_); rintro e w2 ⟨rfl, hbw2⟩; have HBw2 := Aside0.mk (HBw1.out.trans (hbw2.mono HBw1.out.size)); have HXw2 := Aside0.mk (box_next HXw1.out hbw2); obtain ⟨cw2_0, cw2_1, cw2_2, cw2_3, cw2_4⟩ := box_cells HXw2.out; clear hbw2)
          | (go_at_call 8; (with_reducible refine (hR _).mono ?_); rintro e w3 ⟨rfl, hbw3⟩; have HBw3 := Aside0.mk (HBw2.out.trans (hbw3.mono HBw2.out.size)); have HXw3 := Aside0.mk (box_next HXw2.out hbw3); obtain ⟨cw3_0, cw3_1, cw3_2, cw3_3, cw3_4⟩ := box_cells HXw3.out; clear hbw3)
          | (go_at_call 9; (with_reducible refine (hW1 _).mono ?_); rintro e w4 ⟨rfl, hbw4⟩; have HBw4 := Aside0.mk (HBw3.out.trans (hbw4.mono HBw3.out.size)); have HXw4 := Aside0.mk (box_next HXw3.out hbw4); obtain ⟨cw4_0, cw4_1, cw4_2, cw4_3, cw4_4⟩ := box_cells HXw4.out; clear hbw4)
          | (go_at_call 10; (with_reducible refine (hW2 _).mono ?_); rintro e w5 ⟨rfl, hbw5⟩; have HBw5 := Aside0.mk (HBw4.out.trans (hbw5.mono HBw4.out.size)); have HXw5 := Aside0.mk (box_next HXw4.out hbw5); obtain ⟨cw5_0, cw5_1, cw5_2, cw5_3, cw5_4⟩ := box_cells HXw5.out; clear hbw5))
        refine wp_region_any (by kernel_rfl) ?_
        change wpAny _ _ _ _ _ _ _ (World.drew _)
        refine wpAny_take (i := 0) (v := ?v0_64) rfl (by kernel_rfl) (by kernel_rfl) (by kernel_rfl) (fun _ _ _ h => h) (Or.inl ⟨by rfl, ?y0_64⟩) ?_
        case y0_64 => intro w; go_simp; first | done | (with_reducible rfl)
        refine wpAny_take (i := 1) (v := ?v1_65) rfl (by kernel_rfl) (by kernel_rfl) (by kernel_rfl) (fun _ _ _ h => h) (Or.inl ⟨by rfl, ?y1_65⟩) ?_
        case y1_65 => intro w; go_simp; first | done | (with_reducible rfl)
        refine wpAny_take (i := 2) (v := ?v2_66) rfl (by kernel_rfl) (by kernel_rfl) (by kernel_rfl) (fun _ _ _ h => h) (Or.inl ⟨by rfl, ?y2_66⟩) ?_
        case y2_66 => intro w; go_simp; first | done | (with_reducible rfl)
        refine wpAny_take (i := 3) (v := ?v3_67) rfl (by kernel_rfl) (by kernel_rfl) (by kernel_rfl) (fun _ _ _ h => h) (Or.inl ⟨by rfl, ?y3_67⟩) ?_
        case y3_67 => intro w; go_simp; first | done | (with_reducible rfl)
        refine wpAny_ready (rs := [4, 5]) (by kernel_rfl) (by simp) ?_
        refine AllReady.cons rfl (fun K hK => ?_) (AllReady.cons rfl (fun K hK => ?_) AllReady.nil)
        · go_simp
          go_wp2_with ((with_reducible refine (eventGrant_wp (a0_1) (a0_2) (a0_3) _).mono ?_); rintro e w6 ⟨rfl, hb6⟩; have HB6 := Aside0.mk (HBw5.out.drew.trans (hb6.mono HBw5.out.size)); have HX6 := Aside0.mk (box_next (W := w5.drew) HXw5.out hb6); obtain ⟨c6_0, c6_1, c6_2, c6_3, c6_4⟩ := box_cells HX6.out; clear hb6)
          refine wpAny_ready (rs := [5]) (by kernel_rfl) (by simp) ?_
          refine AllReady.cons rfl (fun K hK => ?_) AllReady.nil
          go_simp
          refine hK _ _ ?_
          clear hK K
          refine wpAny_take (i := 6) (v := ?v6_68) rfl (by kernel_rfl) (by kernel_rfl) (by kernel_rfl) (fun _ _ _ h => h) (Or.inl ⟨by rfl, ?y6_68⟩) ?_
          case y6_68 => intro w; go_simp; first | done | (with_reducible rfl)
          refine wpAny_take (i := 7) (v := ?v7_69) rfl (by kernel_rfl) (by kernel_rfl) (by kernel_rfl) (fun _ _ _ h => h) (Or.inl ⟨by rfl, ?y7_69⟩) ?_
          case y7_69 => intro w; go_simp; first | done | (with_reducible rfl)
          refine wpAny_take (i := 8) (v := ?v8_70) rfl (by kernel_rfl) (by kernel_rfl) (by kernel_rfl) (fun _ _ _ h => h) (Or.inl ⟨by rfl, ?y8_70⟩) ?_
          case y8_70 => intro w; go_simp; first | done | (with_reducible rfl)
          refine wpAny_ready (rs := [9]) (by kernel_rfl) (by simp) ?_
          refine AllReady.cons rfl (fun K hK => ?_) AllReady.nil
          go_simp
          go_wp2_with (go_at_call 11; refine (hL _).mono ?_; rintro e w7 ⟨rfl, hb7⟩; have HB7 := Aside0.mk hb7; clear hb7)
          refine wpAny_take (i := 10) (v := ?v10_71) rfl (by kernel_rfl) (by kernel_rfl) (by kernel_rfl) (fun _ _ _ h => h) (Or.inl ⟨by rfl, ?y10_71⟩) ?_
          case y10_71 => intro w; go_simp; first | done | (with_reducible rfl)
          refine wpAny_take (i := 11) (v := ?v11_72) rfl (by kernel_rfl) (by kernel_rfl) (by kernel_rfl) (fun _ _ _ h => h) (Or.inl ⟨by rfl, ?y11_72⟩) ?_
          case y11_72 => intro w; go_simp; first | done | (with_reducible rfl)
          refine wpAny_done (by kernel_rfl) ?_ _
          go_wp2
          go_ret
          exact ⟨rfl, HB6.out.trans (HB7.out.mono HB6.out.size)⟩
        · go_simp
          refine hK _ _ ?_
          clear hK K
          refine wpAny_ready (rs := [4]) (by kernel_rfl) (by simp) ?_
          refine AllReady.cons rfl (fun K hK => ?_) AllReady.nil
          go_simp
          go_wp2_with ((with_reducible refine (eventGrant_wp (a0_1) (a0_2) (a0_3) _).mono ?_); rintro e w6 ⟨rfl, hb6⟩; have HB6 := Aside0.mk (HBw5.out.drew.trans (hb6.mono HBw5.out.size)); have HX6 := Aside0.mk (box_next (W := w5.drew) HXw5.out hb6); obtain ⟨c6_0, c6_1, c6_2, c6_3, c6_4⟩ := box_cells HX6.out; clear hb6)
          refine wpAny_take (i := 6) (v := ?v6_73) rfl (by kernel_rfl) (by kernel_rfl) (by kernel_rfl) (fun _ _ _ h => h) (Or.inl ⟨by rfl, ?y6_73⟩) ?_
          case y6_73 => intro w; go_simp; first | done | (with_reducible rfl)
          refine wpAny_take (i := 7) (v := ?v7_74) rfl (by kernel_rfl) (by kernel_rfl) (by kernel_rfl) (fun _ _ _ h => h) (Or.inl ⟨by rfl, ?y7_74⟩) ?_
          case y7_74 => intro w; go_simp; first | done | (with_reducible rfl)
          refine wpAny_take (i := 8) (v := ?v8_75) rfl (by kernel_rfl) (by kernel_rfl) (by kernel_rfl) (fun _ _ _ h => h) (Or.inl ⟨by rfl, ?y8_75⟩) ?_
          case y8_75 => intro w; go_simp; first | done | (with_reducible rfl)
          refine wpAny_ready (rs := [9]) (by kernel_rfl) (by simp) ?_
          refine AllReady.cons rfl (fun K hK => ?_) AllReady.nil
          go_simp
          go_wp2_with (go_at_call 11; refine (hL _).mono ?_; rintro e w7 ⟨rfl, hb7⟩; have HB7 := Aside0.mk hb7; clear hb7)
          refine wpAny_take (i := 10) (v := ?v10_76) rfl (by kernel_rfl) (by kernel_rfl) (by kernel_rfl) (fun _ _ _ h => h) (Or.inl ⟨by rfl, ?y10_76⟩) ?_
          case y10_76 => intro w; go_simp; first | done | (with_reducible rfl)
          refine wpAny_take (i := 11) (v := ?v11_77) rfl (by kernel_rfl) (by kernel_rfl) (by kernel_rfl) (fun _ _ _ h => h) (Or.inl ⟨by rfl, ?y11_77⟩) ?_
          case y11_77 => intro w; go_simp; first | done | (with_reducible rfl)
          refine wpAny_done (by kernel_rfl) ?_ _
          go_wp2
          go_ret
          exact ⟨rfl, HB6.out.trans (HB7.out.mono HB6.out.size)⟩
      · subst h
        have ht := h67 (by decide)
        have hte1 : (a0_4.toList == ([] : List UInt8)) = true := by rw [ht]; decide +kernel
        have hte2 : (([] : List UInt8) == a0_4.toList) = true := by rw [ht]; decide +kernel
        clear ht
        obtain ⟨hc, ho⟩ := h6 rfl
        subst hc ho
        clear hop h1o h1n h6 h67
        have HBw0 := Aside0.mk ((Below.refl w.heap.size w).alloc (Nat.le_refl _) (.cells #[.int .i64 6, .int .i64 0, .int .i64 0, .int .i64 a0_3, .string a0_4] 25))
        have HXw0 := Aside0.mk (World.alloc_heap_new w (.cells #[.int .i64 6, .int .i64 0, .int .i64 0, .int .i64 a0_3, .string a0_4] 25))
        have hL := fun W => abutmentlaw44_lives.calls true W rfl
        have hW1 := fun W => act_Word.calls a1 (wordA a1) W rfl
        have hW2 := fun W => abutmentref44_Word.calls a1 (wordA a1) W (ref_word44 a1)
        have hO := fun W => act_Of_yes 1 (6) (0) (0) (a0_3) (a0_4) W (by rw [right_f _ _ _ _ _ 1 (by omega), hr]) (by decide)
        have hR := fun W => act_Right.calls 1 (6) (0) (0) (a0_3) (a0_4) true W (by rw [right_f _ _ _ _ _ 1 (by omega), hr])
        have hF := fun W => abutmentref44_Right.calls 4 (6) (0) (0) (a0_3) (a0_4) true W (by rw [ref_right44 _ _ _ _ _ 4 (by omega), hr])
        clear hr
        unfold actV at hO
        rw [if_neg (by decide), if_neg (by decide), if_neg (by decide), if_neg (by decide), if_neg (by decide), if_pos rfl] at hO
        go_enter Try.func3, Try.ntmps3
        go_wp2_with (first
          | (go_at_call 6; (with_reducible refine (hO _).mono ?_); rintro e w1 ⟨rfl, hbw1⟩; have HBw1 := Aside0.mk (HBw0.out.trans (hbw1.mono HBw0.out.size)); have HXw1 := Aside0.mk (box_next HXw0.out hbw1); obtain ⟨cw1_0, cw1_1, cw1_2, cw1_3, cw1_4⟩ := box_cells HXw1.out; clear hbw1)
          | (go_at_call 7; (with_reducible refine (hF _).mono ?_); rintro e w2 ⟨rfl, hbw2⟩; have HBw2 := Aside0.mk (HBw1.out.trans (hbw2.mono HBw1.out.size)); have HXw2 := Aside0.mk (box_next HXw1.out hbw2); obtain ⟨cw2_0, cw2_1, cw2_2, cw2_3, cw2_4⟩ := box_cells HXw2.out; clear hbw2)
          | (go_at_call 8; (with_reducible refine (hR _).mono ?_); rintro e w3 ⟨rfl, hbw3⟩; have HBw3 := Aside0.mk (HBw2.out.trans (hbw3.mono HBw2.out.size)); have HXw3 := Aside0.mk (box_next HXw2.out hbw3); obtain ⟨cw3_0, cw3_1, cw3_2, cw3_3, cw3_4⟩ := box_cells HXw3.out; clear hbw3)
          | (go_at_call 9; (with_reducible refine (hW1 _).mono ?_); rintro e w4 ⟨rfl, hbw4⟩; have HBw4 := Aside0.mk (HBw3.out.trans (hbw4.mono HBw3.out.size)); have HXw4 := Aside0.mk (box_next HXw3.out hbw4); obtain ⟨cw4_0, cw4_1, cw4_2, cw4_3, cw4_4⟩ := box_cells HXw4.out; clear hbw4)
          | (go_at_call 10; (with_reducible refine (hW2 _).mono ?_); rintro e w5 ⟨rfl, hbw5⟩; have HBw5 := Aside0.mk (HBw4.out.trans (hbw5.mono HBw4.out.size)); have HXw5 := Aside0.mk (box_next HXw4.out hbw5); obtain ⟨cw5_0, cw5_1, cw5_2, cw5_3, cw5_4⟩ := box_cells HXw5.out; clear hbw5))
        refine wp_region_any (by kernel_rfl) ?_
        change wpAny _ _ _ _ _ _ _ (World.drew _)
        refine wpAny_take (i := 0) (v := ?v0_78) rfl (by kernel_rfl) (by kernel_rfl) (by kernel_rfl) (fun _ _ _ h => h) (Or.inl ⟨by rfl, ?y0_78⟩) ?_
        case y0_78 => intro w; go_simp; first | done | (with_reducible rfl)
        refine wpAny_take (i := 1) (v := ?v1_79) rfl (by kernel_rfl) (by kernel_rfl) (by kernel_rfl) (fun _ _ _ h => h) (Or.inl ⟨by rfl, ?y1_79⟩) ?_
        case y1_79 => intro w; go_simp; first | done | (with_reducible rfl)
        refine wpAny_take (i := 2) (v := ?v2_80) rfl (by kernel_rfl) (by kernel_rfl) (by kernel_rfl) (fun _ _ _ h => h) (Or.inl ⟨by rfl, ?y2_80⟩) ?_
        case y2_80 => intro w; go_simp; first | done | (with_reducible rfl)
        refine wpAny_take (i := 3) (v := ?v3_81) rfl (by kernel_rfl) (by kernel_rfl) (by kernel_rfl) (fun _ _ _ h => h) (Or.inl ⟨by rfl, ?y3_81⟩) ?_
        case y3_81 => intro w; go_simp; first | done | (with_reducible rfl)
        refine wpAny_ready (rs := [4, 5]) (by kernel_rfl) (by simp) ?_
        refine AllReady.cons rfl (fun K hK => ?_) (AllReady.cons rfl (fun K hK => ?_) AllReady.nil)
        · go_simp
          go_wp2_with ((with_reducible refine (eventTick_wp (a0_3) _).mono ?_); rintro e w6 ⟨rfl, hb6⟩; have HB6 := Aside0.mk (HBw5.out.drew.trans (hb6.mono HBw5.out.size)); have HX6 := Aside0.mk (box_next (W := w5.drew) HXw5.out hb6); obtain ⟨c6_0, c6_1, c6_2, c6_3, c6_4⟩ := box_cells HX6.out; clear hb6)
          refine wpAny_ready (rs := [5]) (by kernel_rfl) (by simp) ?_
          refine AllReady.cons rfl (fun K hK => ?_) AllReady.nil
          go_simp
          refine hK _ _ ?_
          clear hK K
          refine wpAny_take (i := 6) (v := ?v6_82) rfl (by kernel_rfl) (by kernel_rfl) (by kernel_rfl) (fun _ _ _ h => h) (Or.inl ⟨by rfl, ?y6_82⟩) ?_
          case y6_82 => intro w; go_simp; first | done | (with_reducible rfl)
          refine wpAny_take (i := 7) (v := ?v7_83) rfl (by kernel_rfl) (by kernel_rfl) (by kernel_rfl) (fun _ _ _ h => h) (Or.inl ⟨by rfl, ?y7_83⟩) ?_
          case y7_83 => intro w; go_simp; first | done | (with_reducible rfl)
          refine wpAny_take (i := 8) (v := ?v8_84) rfl (by kernel_rfl) (by kernel_rfl) (by kernel_rfl) (fun _ _ _ h => h) (Or.inl ⟨by rfl, ?y8_84⟩) ?_
          case y8_84 => intro w; go_simp; first | done | (with_reducible rfl)
          refine wpAny_ready (rs := [9]) (by kernel_rfl) (by simp) ?_
          refine AllReady.cons rfl (fun K hK => ?_) AllReady.nil
          go_simp
          go_wp2_with (go_at_call 11; refine (hL _).mono ?_; rintro e w7 ⟨rfl, hb7⟩; have HB7 := Aside0.mk hb7; clear hb7)
          refine wpAny_take (i := 10) (v := ?v10_85) rfl (by kernel_rfl) (by kernel_rfl) (by kernel_rfl) (fun _ _ _ h => h) (Or.inl ⟨by rfl, ?y10_85⟩) ?_
          case y10_85 => intro w; go_simp; first | done | (with_reducible rfl)
          refine wpAny_take (i := 11) (v := ?v11_86) rfl (by kernel_rfl) (by kernel_rfl) (by kernel_rfl) (fun _ _ _ h => h) (Or.inl ⟨by rfl, ?y11_86⟩) ?_
          case y11_86 => intro w; go_simp; first | done | (with_reducible rfl)
          refine wpAny_done (by kernel_rfl) ?_ _
          go_wp2
          go_ret
          exact ⟨rfl, HB6.out.trans (HB7.out.mono HB6.out.size)⟩
        · go_simp
          refine hK _ _ ?_
          clear hK K
          refine wpAny_ready (rs := [4]) (by kernel_rfl) (by simp) ?_
          refine AllReady.cons rfl (fun K hK => ?_) AllReady.nil
          go_simp
          go_wp2_with ((with_reducible refine (eventTick_wp (a0_3) _).mono ?_); rintro e w6 ⟨rfl, hb6⟩; have HB6 := Aside0.mk (HBw5.out.drew.trans (hb6.mono HBw5.out.size)); have HX6 := Aside0.mk (box_next (W := w5.drew) HXw5.out hb6); obtain ⟨c6_0, c6_1, c6_2, c6_3, c6_4⟩ := box_cells HX6.out; clear hb6)
          refine wpAny_take (i := 6) (v := ?v6_87) rfl (by kernel_rfl) (by kernel_rfl) (by kernel_rfl) (fun _ _ _ h => h) (Or.inl ⟨by rfl, ?y6_87⟩) ?_
          case y6_87 => intro w; go_simp; first | done | (with_reducible rfl)
          refine wpAny_take (i := 7) (v := ?v7_88) rfl (by kernel_rfl) (by kernel_rfl) (by kernel_rfl) (fun _ _ _ h => h) (Or.inl ⟨by rfl, ?y7_88⟩) ?_
          case y7_88 => intro w; go_simp; first | done | (with_reducible rfl)
          refine wpAny_take (i := 8) (v := ?v8_89) rfl (by kernel_rfl) (by kernel_rfl) (by kernel_rfl) (fun _ _ _ h => h) (Or.inl ⟨by rfl, ?y8_89⟩) ?_
          case y8_89 => intro w; go_simp; first | done | (with_reducible rfl)
          refine wpAny_ready (rs := [9]) (by kernel_rfl) (by simp) ?_
          refine AllReady.cons rfl (fun K hK => ?_) AllReady.nil
          go_simp
          go_wp2_with (go_at_call 11; refine (hL _).mono ?_; rintro e w7 ⟨rfl, hb7⟩; have HB7 := Aside0.mk hb7; clear hb7)
          refine wpAny_take (i := 10) (v := ?v10_90) rfl (by kernel_rfl) (by kernel_rfl) (by kernel_rfl) (fun _ _ _ h => h) (Or.inl ⟨by rfl, ?y10_90⟩) ?_
          case y10_90 => intro w; go_simp; first | done | (with_reducible rfl)
          refine wpAny_take (i := 11) (v := ?v11_91) rfl (by kernel_rfl) (by kernel_rfl) (by kernel_rfl) (fun _ _ _ h => h) (Or.inl ⟨by rfl, ?y11_91⟩) ?_
          case y11_91 => intro w; go_simp; first | done | (with_reducible rfl)
          refine wpAny_done (by kernel_rfl) ?_ _
          go_wp2
          go_ret
          exact ⟨rfl, HB6.out.trans (HB7.out.mono HB6.out.size)⟩
      · subst h
        have ht := h67 (by decide)
        have hte1 : (a0_4.toList == ([] : List UInt8)) = true := by rw [ht]; decide +kernel
        have hte2 : (([] : List UInt8) == a0_4.toList) = true := by rw [ht]; decide +kernel
        clear ht
        have ho := h1o (by decide)
        subst ho
        have hn := h1n (by decide)
        subst hn
        clear hop h1o h1n h6 h67
        have HBw0 := Aside0.mk ((Below.refl w.heap.size w).alloc (Nat.le_refl _) (.cells #[.int .i64 7, .int .i64 a0_1, .int .i64 0, .int .i64 0, .string a0_4] 25))
        have HXw0 := Aside0.mk (World.alloc_heap_new w (.cells #[.int .i64 7, .int .i64 a0_1, .int .i64 0, .int .i64 0, .string a0_4] 25))
        have hL := fun W => abutmentlaw44_lives.calls true W rfl
        have hW1 := fun W => act_Word.calls a1 (wordA a1) W rfl
        have hW2 := fun W => abutmentref44_Word.calls a1 (wordA a1) W (ref_word44 a1)
        have hO := fun W => act_Of_yes 1 (7) (a0_1) (0) (0) (a0_4) W (by rw [right_f _ _ _ _ _ 1 (by omega), hr]) (by decide)
        have hR := fun W => act_Right.calls 1 (7) (a0_1) (0) (0) (a0_4) true W (by rw [right_f _ _ _ _ _ 1 (by omega), hr])
        have hF := fun W => abutmentref44_Right.calls 4 (7) (a0_1) (0) (0) (a0_4) true W (by rw [ref_right44 _ _ _ _ _ 4 (by omega), hr])
        clear hr
        unfold actV at hO
        rw [if_neg (by decide), if_neg (by decide), if_neg (by decide), if_neg (by decide), if_neg (by decide), if_neg (by decide)] at hO
        go_enter Try.func3, Try.ntmps3
        go_wp2_with (first
          | (go_at_call 6; (with_reducible refine (hO _).mono ?_); rintro e w1 ⟨rfl, hbw1⟩; have HBw1 := Aside0.mk (HBw0.out.trans (hbw1.mono HBw0.out.size)); have HXw1 := Aside0.mk (box_next HXw0.out hbw1); obtain ⟨cw1_0, cw1_1, cw1_2, cw1_3, cw1_4⟩ := box_cells HXw1.out; clear hbw1)
          | (go_at_call 7; (with_reducible refine (hF _).mono ?_); rintro e w2 ⟨rfl, hbw2⟩; have HBw2 := Aside0.mk (HBw1.out.trans (hbw2.mono HBw1.out.size)); have HXw2 := Aside0.mk (box_next HXw1.out hbw2); obtain ⟨cw2_0, cw2_1, cw2_2, cw2_3, cw2_4⟩ := box_cells HXw2.out; clear hbw2)
          | (go_at_call 8; (with_reducible refine (hR _).mono ?_); rintro e w3 ⟨rfl, hbw3⟩; have HBw3 := Aside0.mk (HBw2.out.trans (hbw3.mono HBw2.out.size)); have HXw3 := Aside0.mk (box_next HXw2.out hbw3); obtain ⟨cw3_0, cw3_1, cw3_2, cw3_3, cw3_4⟩ := box_cells HXw3.out; clear hbw3)
          | (go_at_call 9; (with_reducible refine (hW1 _).mono ?_); rintro e w4 ⟨rfl, hbw4⟩; have HBw4 := Aside0.mk (HBw3.out.trans (hbw4.mono HBw3.out.size)); have HXw4 := Aside0.mk (box_next HXw3.out hbw4); obtain ⟨cw4_0, cw4_1, cw4_2, cw4_3, cw4_4⟩ := box_cells HXw4.out; clear hbw4)
          | (go_at_call 10; (with_reducible refine (hW2 _).mono ?_); rintro e w5 ⟨rfl, hbw5⟩; have HBw5 := Aside0.mk (HBw4.out.trans (hbw5.mono HBw4.out.size)); have HXw5 := Aside0.mk (box_next HXw4.out hbw5); obtain ⟨cw5_0, cw5_1, cw5_2, cw5_3, cw5_4⟩ := box_cells HXw5.out; clear hbw5))
        refine wp_region_any (by kernel_rfl) ?_
        change wpAny _ _ _ _ _ _ _ (World.drew _)
        refine wpAny_take (i := 0) (v := ?v0_92) rfl (by kernel_rfl) (by kernel_rfl) (by kernel_rfl) (fun _ _ _ h => h) (Or.inl ⟨by rfl, ?y0_92⟩) ?_
        case y0_92 => intro w; go_simp; first | done | (with_reducible rfl)
        refine wpAny_take (i := 1) (v := ?v1_93) rfl (by kernel_rfl) (by kernel_rfl) (by kernel_rfl) (fun _ _ _ h => h) (Or.inl ⟨by rfl, ?y1_93⟩) ?_
        case y1_93 => intro w; go_simp; first | done | (with_reducible rfl)
        refine wpAny_take (i := 2) (v := ?v2_94) rfl (by kernel_rfl) (by kernel_rfl) (by kernel_rfl) (fun _ _ _ h => h) (Or.inl ⟨by rfl, ?y2_94⟩) ?_
        case y2_94 => intro w; go_simp; first | done | (with_reducible rfl)
        refine wpAny_take (i := 3) (v := ?v3_95) rfl (by kernel_rfl) (by kernel_rfl) (by kernel_rfl) (fun _ _ _ h => h) (Or.inl ⟨by rfl, ?y3_95⟩) ?_
        case y3_95 => intro w; go_simp; first | done | (with_reducible rfl)
        refine wpAny_ready (rs := [4, 5]) (by kernel_rfl) (by simp) ?_
        refine AllReady.cons rfl (fun K hK => ?_) (AllReady.cons rfl (fun K hK => ?_) AllReady.nil)
        · go_simp
          go_wp2_with ((with_reducible refine (eventServe_wp (a0_1) _).mono ?_); rintro e w6 ⟨rfl, hb6⟩; have HB6 := Aside0.mk (HBw5.out.drew.trans (hb6.mono HBw5.out.size)); have HX6 := Aside0.mk (box_next (W := w5.drew) HXw5.out hb6); obtain ⟨c6_0, c6_1, c6_2, c6_3, c6_4⟩ := box_cells HX6.out; clear hb6)
          refine wpAny_ready (rs := [5]) (by kernel_rfl) (by simp) ?_
          refine AllReady.cons rfl (fun K hK => ?_) AllReady.nil
          go_simp
          refine hK _ _ ?_
          clear hK K
          refine wpAny_take (i := 6) (v := ?v6_96) rfl (by kernel_rfl) (by kernel_rfl) (by kernel_rfl) (fun _ _ _ h => h) (Or.inl ⟨by rfl, ?y6_96⟩) ?_
          case y6_96 => intro w; go_simp; first | done | (with_reducible rfl)
          refine wpAny_take (i := 7) (v := ?v7_97) rfl (by kernel_rfl) (by kernel_rfl) (by kernel_rfl) (fun _ _ _ h => h) (Or.inl ⟨by rfl, ?y7_97⟩) ?_
          case y7_97 => intro w; go_simp; first | done | (with_reducible rfl)
          refine wpAny_take (i := 8) (v := ?v8_98) rfl (by kernel_rfl) (by kernel_rfl) (by kernel_rfl) (fun _ _ _ h => h) (Or.inl ⟨by rfl, ?y8_98⟩) ?_
          case y8_98 => intro w; go_simp; first | done | (with_reducible rfl)
          refine wpAny_ready (rs := [9]) (by kernel_rfl) (by simp) ?_
          refine AllReady.cons rfl (fun K hK => ?_) AllReady.nil
          go_simp
          go_wp2_with (go_at_call 11; refine (hL _).mono ?_; rintro e w7 ⟨rfl, hb7⟩; have HB7 := Aside0.mk hb7; clear hb7)
          refine wpAny_take (i := 10) (v := ?v10_99) rfl (by kernel_rfl) (by kernel_rfl) (by kernel_rfl) (fun _ _ _ h => h) (Or.inl ⟨by rfl, ?y10_99⟩) ?_
          case y10_99 => intro w; go_simp; first | done | (with_reducible rfl)
          refine wpAny_take (i := 11) (v := ?v11_100) rfl (by kernel_rfl) (by kernel_rfl) (by kernel_rfl) (fun _ _ _ h => h) (Or.inl ⟨by rfl, ?y11_100⟩) ?_
          case y11_100 => intro w; go_simp; first | done | (with_reducible rfl)
          refine wpAny_done (by kernel_rfl) ?_ _
          go_wp2
          go_ret
          exact ⟨rfl, HB6.out.trans (HB7.out.mono HB6.out.size)⟩
        · go_simp
          refine hK _ _ ?_
          clear hK K
          refine wpAny_ready (rs := [4]) (by kernel_rfl) (by simp) ?_
          refine AllReady.cons rfl (fun K hK => ?_) AllReady.nil
          go_simp
          go_wp2_with ((with_reducible refine (eventServe_wp (a0_1) _).mono ?_); rintro e w6 ⟨rfl, hb6⟩; have HB6 := Aside0.mk (HBw5.out.drew.trans (hb6.mono HBw5.out.size)); have HX6 := Aside0.mk (box_next (W := w5.drew) HXw5.out hb6); obtain ⟨c6_0, c6_1, c6_2, c6_3, c6_4⟩ := box_cells HX6.out; clear hb6)
          refine wpAny_take (i := 6) (v := ?v6_101) rfl (by kernel_rfl) (by kernel_rfl) (by kernel_rfl) (fun _ _ _ h => h) (Or.inl ⟨by rfl, ?y6_101⟩) ?_
          case y6_101 => intro w; go_simp; first | done | (with_reducible rfl)
          refine wpAny_take (i := 7) (v := ?v7_102) rfl (by kernel_rfl) (by kernel_rfl) (by kernel_rfl) (fun _ _ _ h => h) (Or.inl ⟨by rfl, ?y7_102⟩) ?_
          case y7_102 => intro w; go_simp; first | done | (with_reducible rfl)
          refine wpAny_take (i := 8) (v := ?v8_103) rfl (by kernel_rfl) (by kernel_rfl) (by kernel_rfl) (fun _ _ _ h => h) (Or.inl ⟨by rfl, ?y8_103⟩) ?_
          case y8_103 => intro w; go_simp; first | done | (with_reducible rfl)
          refine wpAny_ready (rs := [9]) (by kernel_rfl) (by simp) ?_
          refine AllReady.cons rfl (fun K hK => ?_) AllReady.nil
          go_simp
          go_wp2_with (go_at_call 11; refine (hL _).mono ?_; rintro e w7 ⟨rfl, hb7⟩; have HB7 := Aside0.mk hb7; clear hb7)
          refine wpAny_take (i := 10) (v := ?v10_104) rfl (by kernel_rfl) (by kernel_rfl) (by kernel_rfl) (fun _ _ _ h => h) (Or.inl ⟨by rfl, ?y10_104⟩) ?_
          case y10_104 => intro w; go_simp; first | done | (with_reducible rfl)
          refine wpAny_take (i := 11) (v := ?v11_105) rfl (by kernel_rfl) (by kernel_rfl) (by kernel_rfl) (fun _ _ _ h => h) (Or.inl ⟨by rfl, ?y11_105⟩) ?_
          case y11_105 => intro w; go_simp; first | done | (with_reducible rfl)
          refine wpAny_done (by kernel_rfl) ?_ _
          go_wp2
          go_ret
          exact ⟨rfl, HB6.out.trans (HB7.out.mono HB6.out.size)⟩
  · have hsb : decide ((a0_4.size : Int) ≤ 6000) = false := decide_eq_false hs
    cases hr : rightB a0_0 a0_1 a0_2 a0_3 (a0_4.extract 0 6000) with
    | false =>
      have HBw0 := Aside0.mk ((Below.refl w.heap.size w).alloc (Nat.le_refl _) (.cells #[.int .i64 a0_0, .int .i64 a0_1, .int .i64 a0_2, .int .i64 a0_3, .string (a0_4.extract 0 6000)] 25))
      have HXw0 := Aside0.mk (World.alloc_heap_new w (.cells #[.int .i64 a0_0, .int .i64 a0_1, .int .i64 a0_2, .int .i64 a0_3, .string (a0_4.extract 0 6000)] 25))
      have hL := fun W => abutmentlaw44_lives.calls true W rfl
      have hW1 := fun W => act_Word.calls a1 (wordA a1) W rfl
      have hW2 := fun W => abutmentref44_Word.calls a1 (wordA a1) W (ref_word44 a1)
      have hO := fun W => act_Of_no 1 (a0_0) (a0_1) (a0_2) (a0_3) ((a0_4.extract 0 6000)) W (by rw [right_f _ _ _ _ _ 1 (by omega), hr])
      have hR := fun W => act_Right.calls 1 (a0_0) (a0_1) (a0_2) (a0_3) ((a0_4.extract 0 6000)) false W (by rw [right_f _ _ _ _ _ 1 (by omega), hr])
      have hF := fun W => abutmentref44_Right.calls 4 (a0_0) (a0_1) (a0_2) (a0_3) ((a0_4.extract 0 6000)) false W (by rw [ref_right44 _ _ _ _ _ 4 (by omega), hr])
      clear hr
      go_enter Try.func3, Try.ntmps3
      go_wp2_with (first
        | (go_at_call 6; (with_reducible refine (hO _).mono ?_); rintro e w1 ⟨rfl, hbw1⟩; have HBw1 := Aside0.mk (HBw0.out.trans (hbw1.mono HBw0.out.size)); have HXw1 := Aside0.mk (box_next HXw0.out hbw1); obtain ⟨cw1_0, cw1_1, cw1_2, cw1_3, cw1_4⟩ := box_cells HXw1.out; clear hbw1)
        | (go_at_call 7; (with_reducible refine (hF _).mono ?_); rintro e w2 ⟨rfl, hbw2⟩; have HBw2 := Aside0.mk (HBw1.out.trans (hbw2.mono HBw1.out.size)); have HXw2 := Aside0.mk (box_next HXw1.out hbw2); obtain ⟨cw2_0, cw2_1, cw2_2, cw2_3, cw2_4⟩ := box_cells HXw2.out; clear hbw2)
        | (go_at_call 8; (with_reducible refine (hR _).mono ?_); rintro e w3 ⟨rfl, hbw3⟩; have HBw3 := Aside0.mk (HBw2.out.trans (hbw3.mono HBw2.out.size)); have HXw3 := Aside0.mk (box_next HXw2.out hbw3); obtain ⟨cw3_0, cw3_1, cw3_2, cw3_3, cw3_4⟩ := box_cells HXw3.out; clear hbw3)
        | (go_at_call 9; (with_reducible refine (hW1 _).mono ?_); rintro e w4 ⟨rfl, hbw4⟩; have HBw4 := Aside0.mk (HBw3.out.trans (hbw4.mono HBw3.out.size)); have HXw4 := Aside0.mk (box_next HXw3.out hbw4); obtain ⟨cw4_0, cw4_1, cw4_2, cw4_3, cw4_4⟩ := box_cells HXw4.out; clear hbw4)
        | (go_at_call 10; (with_reducible refine (hW2 _).mono ?_); rintro e w5 ⟨rfl, hbw5⟩; have HBw5 := Aside0.mk (HBw4.out.trans (hbw5.mono HBw4.out.size)); have HXw5 := Aside0.mk (box_next HXw4.out hbw5); obtain ⟨cw5_0, cw5_1, cw5_2, cw5_3, cw5_4⟩ := box_cells HXw5.out; clear hbw5))
      refine wp_region_any (by kernel_rfl) ?_
      change wpAny _ _ _ _ _ _ _ (World.drew _)
      refine wpAny_take (i := 0) (v := ?v0_106) rfl (by kernel_rfl) (by kernel_rfl) (by kernel_rfl) (fun _ _ _ h => h) (Or.inl ⟨by rfl, ?y0_106⟩) ?_
      case y0_106 => intro w; go_simp; first | done | (with_reducible rfl)
      refine wpAny_take (i := 1) (v := ?v1_107) rfl (by kernel_rfl) (by kernel_rfl) (by kernel_rfl) (fun _ _ _ h => h) (Or.inl ⟨by rfl, ?y1_107⟩) ?_
      case y1_107 => intro w; go_simp; first | done | (with_reducible rfl)
      refine wpAny_take (i := 2) (v := ?v2_108) rfl (by kernel_rfl) (by kernel_rfl) (by kernel_rfl) (fun _ _ _ h => h) (Or.inl ⟨by rfl, ?y2_108⟩) ?_
      case y2_108 => intro w; go_simp; first | done | (with_reducible rfl)
      refine wpAny_take (i := 3) (v := undef) rfl (by kernel_rfl) (by kernel_rfl) (by kernel_rfl) (fun _ _ _ h => h) (Or.inr ⟨by rfl, rfl⟩) ?_
      refine wpAny_take (i := 4) (v := undef) rfl (by kernel_rfl) (by kernel_rfl) (by kernel_rfl) (fun _ _ _ h => h) (Or.inr ⟨by rfl, rfl⟩) ?_
      refine wpAny_take (i := 5) (v := undef) rfl (by kernel_rfl) (by kernel_rfl) (by kernel_rfl) (fun _ _ _ h => h) (Or.inr ⟨by rfl, rfl⟩) ?_
      refine wpAny_take (i := 6) (v := undef) rfl (by kernel_rfl) (by kernel_rfl) (by kernel_rfl) (fun _ _ _ h => h) (Or.inr ⟨by rfl, rfl⟩) ?_
      refine wpAny_take (i := 7) (v := ?v7_109) rfl (by kernel_rfl) (by kernel_rfl) (by kernel_rfl) (fun _ _ _ h => h) (Or.inl ⟨by rfl, ?y7_109⟩) ?_
      case y7_109 => intro w; go_simp; first | done | (with_reducible rfl)
      refine wpAny_take (i := 8) (v := ?v8_110) rfl (by kernel_rfl) (by kernel_rfl) (by kernel_rfl) (fun _ _ _ h => h) (Or.inl ⟨by rfl, ?y8_110⟩) ?_
      case y8_110 => intro w; go_simp; first | done | (with_reducible rfl)
      refine wpAny_ready (rs := [9]) (by kernel_rfl) (by simp) ?_
      refine AllReady.cons rfl (fun K hK => ?_) AllReady.nil
      go_simp
      go_wp2_with (go_at_call 11; refine (hL _).mono ?_; rintro e w7 ⟨rfl, hb7⟩; have HB7 := Aside0.mk hb7; clear hb7)
      refine wpAny_take (i := 10) (v := ?v10_111) rfl (by kernel_rfl) (by kernel_rfl) (by kernel_rfl) (fun _ _ _ h => h) (Or.inl ⟨by rfl, ?y10_111⟩) ?_
      case y10_111 => intro w; go_simp; first | done | (with_reducible rfl)
      refine wpAny_take (i := 11) (v := ?v11_112) rfl (by kernel_rfl) (by kernel_rfl) (by kernel_rfl) (fun _ _ _ h => h) (Or.inl ⟨by rfl, ?y11_112⟩) ?_
      case y11_112 => intro w; go_simp; first | done | (with_reducible rfl)
      refine wpAny_done (by kernel_rfl) ?_ _
      go_wp2
      go_ret
      exact ⟨rfl, HBw5.out.drew.trans (HB7.out.mono HBw5.out.size)⟩
    | true =>
      obtain ⟨hop, h1o, h1n, h6, h67⟩ := right_spec _ _ _ _ _ hr
      have h2 : a0_0 = 2 := by
        apply Classical.byContradiction
        intro hne
        have h0 := h67 hne
        have h1 := congrArg ByteArray.size h0
        rw [ByteArray.size_extract] at h1
        have : (⟨#[]⟩ : ByteArray).size = 0 := rfl
        omega
      subst h2
      have hn0 := h1n (by decide)
      subst hn0
      clear hop h1o h1n h6 h67
      have HBw0 := Aside0.mk ((Below.refl w.heap.size w).alloc (Nat.le_refl _) (.cells #[.int .i64 2, .int .i64 a0_1, .int .i64 a0_2, .int .i64 0, .string (a0_4.extract 0 6000)] 25))
      have HXw0 := Aside0.mk (World.alloc_heap_new w (.cells #[.int .i64 2, .int .i64 a0_1, .int .i64 a0_2, .int .i64 0, .string (a0_4.extract 0 6000)] 25))
      have hL := fun W => abutmentlaw44_lives.calls true W rfl
      have hW1 := fun W => act_Word.calls a1 (wordA a1) W rfl
      have hW2 := fun W => abutmentref44_Word.calls a1 (wordA a1) W (ref_word44 a1)
      have hO := fun W => act_Of_yes 1 (2) (a0_1) (a0_2) (0) ((a0_4.extract 0 6000)) W (by rw [right_f _ _ _ _ _ 1 (by omega), hr]) (by decide)
      have hR := fun W => act_Right.calls 1 (2) (a0_1) (a0_2) (0) ((a0_4.extract 0 6000)) true W (by rw [right_f _ _ _ _ _ 1 (by omega), hr])
      have hF := fun W => abutmentref44_Right.calls 4 (2) (a0_1) (a0_2) (0) ((a0_4.extract 0 6000)) true W (by rw [ref_right44 _ _ _ _ _ 4 (by omega), hr])
      clear hr
      unfold actV at hO
      rw [if_neg (by decide), if_pos rfl] at hO
      go_enter Try.func3, Try.ntmps3
      go_wp2_with (first
        | (go_at_call 6; (with_reducible refine (hO _).mono ?_); rintro e w1 ⟨rfl, hbw1⟩; have HBw1 := Aside0.mk (HBw0.out.trans (hbw1.mono HBw0.out.size)); have HXw1 := Aside0.mk (box_next HXw0.out hbw1); obtain ⟨cw1_0, cw1_1, cw1_2, cw1_3, cw1_4⟩ := box_cells HXw1.out; clear hbw1)
        | (go_at_call 7; (with_reducible refine (hF _).mono ?_); rintro e w2 ⟨rfl, hbw2⟩; have HBw2 := Aside0.mk (HBw1.out.trans (hbw2.mono HBw1.out.size)); have HXw2 := Aside0.mk (box_next HXw1.out hbw2); obtain ⟨cw2_0, cw2_1, cw2_2, cw2_3, cw2_4⟩ := box_cells HXw2.out; clear hbw2)
        | (go_at_call 8; (with_reducible refine (hR _).mono ?_); rintro e w3 ⟨rfl, hbw3⟩; have HBw3 := Aside0.mk (HBw2.out.trans (hbw3.mono HBw2.out.size)); have HXw3 := Aside0.mk (box_next HXw2.out hbw3); obtain ⟨cw3_0, cw3_1, cw3_2, cw3_3, cw3_4⟩ := box_cells HXw3.out; clear hbw3)
        | (go_at_call 9; (with_reducible refine (hW1 _).mono ?_); rintro e w4 ⟨rfl, hbw4⟩; have HBw4 := Aside0.mk (HBw3.out.trans (hbw4.mono HBw3.out.size)); have HXw4 := Aside0.mk (box_next HXw3.out hbw4); obtain ⟨cw4_0, cw4_1, cw4_2, cw4_3, cw4_4⟩ := box_cells HXw4.out; clear hbw4)
        | (go_at_call 10; (with_reducible refine (hW2 _).mono ?_); rintro e w5 ⟨rfl, hbw5⟩; have HBw5 := Aside0.mk (HBw4.out.trans (hbw5.mono HBw4.out.size)); have HXw5 := Aside0.mk (box_next HXw4.out hbw5); obtain ⟨cw5_0, cw5_1, cw5_2, cw5_3, cw5_4⟩ := box_cells HXw5.out; clear hbw5))
      refine wp_region_any (by kernel_rfl) ?_
      change wpAny _ _ _ _ _ _ _ (World.drew _)
      refine wpAny_take (i := 0) (v := ?v0_113) rfl (by kernel_rfl) (by kernel_rfl) (by kernel_rfl) (fun _ _ _ h => h) (Or.inl ⟨by rfl, ?y0_113⟩) ?_
      case y0_113 => intro w; go_simp; first | done | (with_reducible rfl)
      refine wpAny_take (i := 1) (v := ?v1_114) rfl (by kernel_rfl) (by kernel_rfl) (by kernel_rfl) (fun _ _ _ h => h) (Or.inl ⟨by rfl, ?y1_114⟩) ?_
      case y1_114 => intro w; go_simp; first | done | (with_reducible rfl)
      refine wpAny_take (i := 2) (v := ?v2_115) rfl (by kernel_rfl) (by kernel_rfl) (by kernel_rfl) (fun _ _ _ h => h) (Or.inl ⟨by rfl, ?y2_115⟩) ?_
      case y2_115 => intro w; go_simp; first | done | (with_reducible rfl)
      refine wpAny_take (i := 3) (v := ?v3_116) rfl (by kernel_rfl) (by kernel_rfl) (by kernel_rfl) (fun _ _ _ h => h) (Or.inl ⟨by rfl, ?y3_116⟩) ?_
      case y3_116 => intro w; go_simp; first | done | (with_reducible rfl)
      refine wpAny_ready (rs := [4, 5]) (by kernel_rfl) (by simp) ?_
      refine AllReady.cons rfl (fun K hK => ?_) (AllReady.cons rfl (fun K hK => ?_) AllReady.nil)
      · go_simp
        go_wp2_with ((with_reducible refine (eventSend_wp a0_1 a0_2 (a0_4.extract 0 6000) _).mono ?_); rintro e w6 ⟨rfl, hb6⟩; have HB6 := Aside0.mk (HBw5.out.drew.trans (hb6.mono HBw5.out.size)); have HX6 := Aside0.mk (box_next (W := w5.drew) HXw5.out hb6); obtain ⟨c6_0, c6_1, c6_2, c6_3, c6_4⟩ := box_cells HX6.out; clear hb6)
        refine wpAny_ready (rs := [5]) (by kernel_rfl) (by simp) ?_
        refine AllReady.cons rfl (fun K hK => ?_) AllReady.nil
        go_simp
        refine hK _ _ ?_
        clear hK K
        refine wpAny_take (i := 6) (v := ?v6_117) rfl (by kernel_rfl) (by kernel_rfl) (by kernel_rfl) (fun _ _ _ h => h) (Or.inl ⟨by rfl, ?y6_117⟩) ?_
        case y6_117 => intro w; go_simp; first | done | (with_reducible rfl)
        refine wpAny_take (i := 7) (v := ?v7_118) rfl (by kernel_rfl) (by kernel_rfl) (by kernel_rfl) (fun _ _ _ h => h) (Or.inl ⟨by rfl, ?y7_118⟩) ?_
        case y7_118 => intro w; go_simp; first | done | (with_reducible rfl)
        refine wpAny_take (i := 8) (v := ?v8_119) rfl (by kernel_rfl) (by kernel_rfl) (by kernel_rfl) (fun _ _ _ h => h) (Or.inl ⟨by rfl, ?y8_119⟩) ?_
        case y8_119 => intro w; go_simp; first | done | (with_reducible rfl)
        refine wpAny_ready (rs := [9]) (by kernel_rfl) (by simp) ?_
        refine AllReady.cons rfl (fun K hK => ?_) AllReady.nil
        go_simp
        go_wp2_with (go_at_call 11; refine (hL _).mono ?_; rintro e w7 ⟨rfl, hb7⟩; have HB7 := Aside0.mk hb7; clear hb7)
        refine wpAny_take (i := 10) (v := ?v10_120) rfl (by kernel_rfl) (by kernel_rfl) (by kernel_rfl) (fun _ _ _ h => h) (Or.inl ⟨by rfl, ?y10_120⟩) ?_
        case y10_120 => intro w; go_simp; first | done | (with_reducible rfl)
        refine wpAny_take (i := 11) (v := ?v11_121) rfl (by kernel_rfl) (by kernel_rfl) (by kernel_rfl) (fun _ _ _ h => h) (Or.inl ⟨by rfl, ?y11_121⟩) ?_
        case y11_121 => intro w; go_simp; first | done | (with_reducible rfl)
        refine wpAny_done (by kernel_rfl) ?_ _
        go_wp2
        go_ret
        exact ⟨rfl, HB6.out.trans (HB7.out.mono HB6.out.size)⟩
      · go_simp
        refine hK _ _ ?_
        clear hK K
        refine wpAny_ready (rs := [4]) (by kernel_rfl) (by simp) ?_
        refine AllReady.cons rfl (fun K hK => ?_) AllReady.nil
        go_simp
        go_wp2_with ((with_reducible refine (eventSend_wp a0_1 a0_2 (a0_4.extract 0 6000) _).mono ?_); rintro e w6 ⟨rfl, hb6⟩; have HB6 := Aside0.mk (HBw5.out.drew.trans (hb6.mono HBw5.out.size)); have HX6 := Aside0.mk (box_next (W := w5.drew) HXw5.out hb6); obtain ⟨c6_0, c6_1, c6_2, c6_3, c6_4⟩ := box_cells HX6.out; clear hb6)
        refine wpAny_take (i := 6) (v := ?v6_122) rfl (by kernel_rfl) (by kernel_rfl) (by kernel_rfl) (fun _ _ _ h => h) (Or.inl ⟨by rfl, ?y6_122⟩) ?_
        case y6_122 => intro w; go_simp; first | done | (with_reducible rfl)
        refine wpAny_take (i := 7) (v := ?v7_123) rfl (by kernel_rfl) (by kernel_rfl) (by kernel_rfl) (fun _ _ _ h => h) (Or.inl ⟨by rfl, ?y7_123⟩) ?_
        case y7_123 => intro w; go_simp; first | done | (with_reducible rfl)
        refine wpAny_take (i := 8) (v := ?v8_124) rfl (by kernel_rfl) (by kernel_rfl) (by kernel_rfl) (fun _ _ _ h => h) (Or.inl ⟨by rfl, ?y8_124⟩) ?_
        case y8_124 => intro w; go_simp; first | done | (with_reducible rfl)
        refine wpAny_ready (rs := [9]) (by kernel_rfl) (by simp) ?_
        refine AllReady.cons rfl (fun K hK => ?_) AllReady.nil
        go_simp
        go_wp2_with (go_at_call 11; refine (hL _).mono ?_; rintro e w7 ⟨rfl, hb7⟩; have HB7 := Aside0.mk hb7; clear hb7)
        refine wpAny_take (i := 10) (v := ?v10_125) rfl (by kernel_rfl) (by kernel_rfl) (by kernel_rfl) (fun _ _ _ h => h) (Or.inl ⟨by rfl, ?y10_125⟩) ?_
        case y10_125 => intro w; go_simp; first | done | (with_reducible rfl)
        refine wpAny_take (i := 11) (v := ?v11_126) rfl (by kernel_rfl) (by kernel_rfl) (by kernel_rfl) (fun _ _ _ h => h) (Or.inl ⟨by rfl, ?y11_126⟩) ?_
        case y11_126 => intro w; go_simp; first | done | (with_reducible rfl)
        refine wpAny_done (by kernel_rfl) ?_ _
        go_wp2
        go_ret
        exact ⟨rfl, HB6.out.trans (HB7.out.mono HB6.out.size)⟩


end Go.Proofs.Ytkepebaapgkhbaa.X
namespace Go.Proofs.Ytkepebaapgkhbaa.X
open Go.RowKit Go.Proofs.YtkepebaapgkhbaaW.PrintWords Go.Proofs.YtkepebaapgkhbaaW.PrintLast Go.Proofs.YtkepebaapgkhbaaW.PrintMore
attribute [local go_sem] max2_int min2_int max_two min_two max_three min_three max_four min_four   -- for this text's walks alone
set_option linter.unusedVariables false
set_option linter.unusedSimpArgs false

/-! ### abutmentlaw44_ActEvents: function 4 -/
def abutmentlaw44_ActEvents.f (a0_0 : Int) (a0_1 : Int) (a1 : Int) (a2 : ByteArray) : Option (Bool) := some true
/-- What the last statement of the law reads. -/
def S6 (b : Nat) (c o n : Int) (t : ByteArray) (W : World) : Prop := W.cell? ⟨b, 0, none⟩ = some (.int .i64 c) ∧ W.cell? ⟨b, 1, none⟩ = some (.int .i64 o) ∧ W.cell? ⟨b + 1, 1, none⟩ = some (.iface 38 (.agg #[.int .i64 c, .int .i64 o, .string t])) ∧ W.cell? ⟨b + 1, 3, none⟩ = some (.iface 42 (.agg #[.int .i64 c, .int .i64 o, .int .i64 n])) ∧ W.cell? ⟨b + 1, 5, none⟩ = some (.iface 45 (.agg #[.int .i64 n])) ∧ W.cell? ⟨b + 1, 6, none⟩ = some (.iface 46 (.agg #[.int .i64 c]))
theorem s6_of {b : Nat} {c o n : Int} {t : ByteArray} {W : World} {u v : TypeId} (hk : W.heap[b]? = some (.cells #[.int .i64 c, .int .i64 o] u (0, 0))) (hl : W.heap[b + 1]? = some (.cells #[.iface 36 (.agg #[.int .i64 c]), .iface 38 (.agg #[.int .i64 c, .int .i64 o, .string t]), .iface 40 (.agg #[.int .i64 c, .int .i64 o]), .iface 42 (.agg #[.int .i64 c, .int .i64 o, .int .i64 n]), .iface 43 (.agg #[.int .i64 c, .int .i64 o, .int .i64 n]), .iface 45 (.agg #[.int .i64 n]), .iface 46 (.agg #[.int .i64 c])] v (0, 0))) : S6 b c o n t W := by
  refine ⟨?_, ?_, ?_, ?_, ?_, ?_⟩
  · simp only [World.cell?, hk]; rfl
  · simp only [World.cell?, hk]; rfl
  all_goals (simp only [World.cell?, hl]; rfl)
theorem S6.next {b : Nat} {c o n : Int} {t : ByteArray} {W X : World} (h : S6 b c o n t W) (hb : Below W.heap.size W X) : S6 b c o n t X := by
  obtain ⟨h0, h1, h2, h3, h4, h5⟩ := h
  exact ⟨(hb.cell (World.block_lt_of_cell? W _ h0)).trans h0, (hb.cell (World.block_lt_of_cell? W _ h1)).trans h1, (hb.cell (World.block_lt_of_cell? W _ h2)).trans h2, (hb.cell (World.block_lt_of_cell? W _ h3)).trans h3, (hb.cell (World.block_lt_of_cell? W _ h4)).trans h4, (hb.cell (World.block_lt_of_cell? W _ h5)).trans h5⟩
theorem box_next2 {W X : World} {g : Nat} {o : Obj} (h : W.heap[g]? = some o) (hb : Below W.heap.size W X) : X.heap[g]? = some o := (hb.block g (Array.getElem?_eq_some_iff.1 h).1).trans h
set_option maxHeartbeats 16000000 in
set_option maxRecDepth 100000 in
theorem abutmentlaw44_ActEvents.calls (a0_0 : Int) (a0_1 : Int) (a1 : Int) (a2 : ByteArray) (r : Bool) (w : World) (h : abutmentlaw44_ActEvents.f a0_0 a0_1 a1 a2 = some r) :
    Calls Try.prog 4 #[.agg #[.int .i64 a0_0, .int .i64 a0_1], .int .i64 a1, .string a2] w fun e w' => e = .returned (.bool r) ∧ Below w.heap.size w w' := by
  obtain rfl := Option.some.inj h
  clear h
  by_cases hs : (a2.size : Int) ≤ 6000
  · have hsb : decide ((a2.size : Int) ≤ 6000) = true := decide_eq_true hs
    have hL := fun W => abutmentlaw44_lives.calls true W rfl
    have HL := Aside0.mk hL
    clear hL
    go_enter Try.func4, Try.ntmps4
    go_wp2_with fail
    generalize hw0 : w.alloc _ = w0
    generalize hw1 : w0.alloc _ = w1
    have z0 : w0.heap.size = w.heap.size + 1 := by rw [← hw0]; simp
    have hk0 : w0.heap[w.heap.size]? = some (.cells #[.int .i64 a0_0, .int .i64 a0_1] 23 (0, 0)) := by rw [← hw0]; exact World.alloc_heap_new _ _
    have hk : w1.heap[w.heap.size]? = some (.cells #[.int .i64 a0_0, .int .i64 a0_1] 23 (0, 0)) := by rw [← hw1, Below.heap_alloc _ _ _ (by omega)]; exact hk0
    have hl : w1.heap[w.heap.size + 1]? = some (.cells #[.iface 36 (.agg #[.int .i64 a0_0]), .iface 38 (.agg #[.int .i64 a0_0, .int .i64 a0_1, .string a2]), .iface 40 (.agg #[.int .i64 a0_0, .int .i64 a0_1]), .iface 42 (.agg #[.int .i64 a0_0, .int .i64 a0_1, .int .i64 a1]), .iface 43 (.agg #[.int .i64 a0_0, .int .i64 a0_1, .int .i64 a1]), .iface 45 (.agg #[.int .i64 a1]), .iface 46 (.agg #[.int .i64 a0_0])] 27 (0, 0)) := by rw [← hw1, ← z0]; exact World.alloc_heap_new _ _
    have hb1 : Below w.heap.size w w1 := by rw [← hw1, ← hw0]; exact ((Below.refl _ w).alloc (Nat.le_refl _) _).alloc (by simp) _
    have HK := Aside0.mk hk
    have HLL := Aside0.mk hl
    have HB1 := Aside0.mk hb1
    clear hw0 hw1 z0 hk0 hk hl hb1
    go_loopg [47] 7 (fun gg s47 wr => ∃ i : Int, 0 ≤ i ∧ i ≤ 7 ∧ (7 - i).toNat ≤ gg ∧ s47 = .int .i64 i ∧ Aside0 (Below w1.heap.size w1 wr))
    case atStart => exact ⟨0, by omega, by omega, by omega, rfl, ⟨Below.refl _ _⟩⟩
    case round =>
      obtain ⟨i, hi0, hi7, hgg, rfl, BW⟩ := hrel
      have hK := box_next2 HK.out BW.out
      have hA := box_next2 HLL.out BW.out
      obtain h | h | h | h | h | h | h | h : i = 0 ∨ i = 1 ∨ i = 2 ∨ i = 3 ∨ i = 4 ∨ i = 5 ∨ i = 6 ∨ i = 7 := by omega
      · subst h
        have ha : wr.cell? ⟨w.heap.size + 1, 0, none⟩ = some (.iface 36 (.agg #[.int .i64 a0_0])) := by simp only [World.cell?, hA]; rfl
        have HA := Aside0.mk hA
        clear hA hK
        cases hr : rightB (1) (a0_0) (0) (0) (⟨#[]⟩) with
        | false =>
          have hO := fun W => act_Of_no 1 (1) (a0_0) (0) (0) (⟨#[]⟩) W (by rw [right_f _ _ _ _ _ 1 (by omega), hr])
          clear hr
          go_wp2_with (first
            | ((with_reducible refine (eventOpen_wp (a0_0) _).mono ?_); rintro e w2 ⟨rfl, hb2⟩; have HB2 := Aside0.mk (BW.out.trans (hb2.mono BW.out.size)); clear hb2)
            | ((with_reducible refine (hO _).mono ?_); rintro e w3 ⟨rfl, hb3⟩; have HB3 := Aside0.mk ((HB2.out.alloc HB2.out.size (.cells #[.int .i64 1, .int .i64 a0_0, .int .i64 0, .int .i64 0, .string ⟨#[]⟩] 25)).trans (hb3.mono (HB2.out.alloc HB2.out.size (.cells #[.int .i64 1, .int .i64 a0_0, .int .i64 0, .int .i64 0, .string ⟨#[]⟩] 25)).size)); clear hb3))
          go_region
          all_goals
            go_wp2
            go_roundg (7 - (1 : Int)).toNat
            case measure => omega
            case rel => exact ⟨1, by omega, by omega, by omega, by first | rfl | go_num, ⟨HB3.out.drew⟩⟩
        | true =>
          have hO := fun W => act_Of_yes 1 (1) (a0_0) (0) (0) (⟨#[]⟩) W (by rw [right_f _ _ _ _ _ 1 (by omega), hr]) (by decide)
          unfold actV at hO
          rw [if_pos rfl] at hO
          clear hr
          go_wp2_with (first
            | ((with_reducible refine (eventOpen_wp (a0_0) _).mono ?_); rintro e w2 ⟨rfl, hb2⟩; have HB2 := Aside0.mk (BW.out.trans (hb2.mono BW.out.size)); clear hb2)
            | ((with_reducible refine (hO _).mono ?_); rintro e w3 ⟨rfl, hb3⟩; have HB3 := Aside0.mk ((HB2.out.alloc HB2.out.size (.cells #[.int .i64 1, .int .i64 a0_0, .int .i64 0, .int .i64 0, .string ⟨#[]⟩] 25)).trans (hb3.mono (HB2.out.alloc HB2.out.size (.cells #[.int .i64 1, .int .i64 a0_0, .int .i64 0, .int .i64 0, .string ⟨#[]⟩] 25)).size)); have HX3 := Aside0.mk (box_next2 (World.alloc_heap_new w2 (.cells #[.int .i64 1, .int .i64 a0_0, .int .i64 0, .int .i64 0, .string ⟨#[]⟩] 25)) hb3); clear hb3; obtain ⟨c3_0, c3_1, c3_2, c3_3, c3_4⟩ := box_cells HX3.out))
          go_region_with ((with_reducible refine (eventOpen_wp (a0_0) _).mono ?_); rintro e w4 ⟨rfl, hb4⟩; have HB4 := Aside0.mk (HB3.out.drew.trans (hb4.mono HB3.out.size)); have HX4 := Aside0.mk (box_next2 (W := w3.drew) HX3.out hb4); clear hb4; obtain ⟨c4_0, c4_1, c4_2, c4_3, c4_4⟩ := box_cells HX4.out)
          all_goals
            go_wp2
            go_roundg (7 - (1 : Int)).toNat
            case measure => omega
            case rel => exact ⟨1, by omega, by omega, by omega, by first | rfl | go_num, HB4⟩
      · subst h
        have ha : wr.cell? ⟨w.heap.size + 1, 1, none⟩ = some (.iface 38 (.agg #[.int .i64 a0_0, .int .i64 a0_1, .string a2])) := by simp only [World.cell?, hA]; rfl
        have HA := Aside0.mk hA
        clear hA hK
        cases hr : rightB (2) (a0_0) (a0_1) (0) (a2) with
        | false =>
          have hO := fun W => act_Of_no 1 (2) (a0_0) (a0_1) (0) (a2) W (by rw [right_f _ _ _ _ _ 1 (by omega), hr])
          clear hr
          go_wp2_with (first
            | ((with_reducible refine (eventSend_wp (a0_0) (a0_1) (a2) _).mono ?_); rintro e w2 ⟨rfl, hb2⟩; have HB2 := Aside0.mk (BW.out.trans (hb2.mono BW.out.size)); clear hb2)
            | ((with_reducible refine (hO _).mono ?_); rintro e w3 ⟨rfl, hb3⟩; have HB3 := Aside0.mk ((HB2.out.alloc HB2.out.size (.cells #[.int .i64 2, .int .i64 a0_0, .int .i64 a0_1, .int .i64 0, .string a2] 25)).trans (hb3.mono (HB2.out.alloc HB2.out.size (.cells #[.int .i64 2, .int .i64 a0_0, .int .i64 a0_1, .int .i64 0, .string a2] 25)).size)); clear hb3))
          go_region
          all_goals
            go_wp2
            go_roundg (7 - (2 : Int)).toNat
            case measure => omega
            case rel => exact ⟨2, by omega, by omega, by omega, by first | rfl | go_num, ⟨HB3.out.drew⟩⟩
        | true =>
          have hO := fun W => act_Of_yes 1 (2) (a0_0) (a0_1) (0) (a2) W (by rw [right_f _ _ _ _ _ 1 (by omega), hr]) (by decide)
          unfold actV at hO
          rw [if_neg (by decide), if_pos rfl] at hO
          clear hr
          go_wp2_with (first
            | ((with_reducible refine (eventSend_wp (a0_0) (a0_1) (a2) _).mono ?_); rintro e w2 ⟨rfl, hb2⟩; have HB2 := Aside0.mk (BW.out.trans (hb2.mono BW.out.size)); clear hb2)
            | ((with_reducible refine (hO _).mono ?_); rintro e w3 ⟨rfl, hb3⟩; have HB3 := Aside0.mk ((HB2.out.alloc HB2.out.size (.cells #[.int .i64 2, .int .i64 a0_0, .int .i64 a0_1, .int .i64 0, .string a2] 25)).trans (hb3.mono (HB2.out.alloc HB2.out.size (.cells #[.int .i64 2, .int .i64 a0_0, .int .i64 a0_1, .int .i64 0, .string a2] 25)).size)); have HX3 := Aside0.mk (box_next2 (World.alloc_heap_new w2 (.cells #[.int .i64 2, .int .i64 a0_0, .int .i64 a0_1, .int .i64 0, .string a2] 25)) hb3); clear hb3; obtain ⟨c3_0, c3_1, c3_2, c3_3, c3_4⟩ := box_cells HX3.out))
          go_region_with ((with_reducible refine (eventSend_wp (a0_0) (a0_1) (a2) _).mono ?_); rintro e w4 ⟨rfl, hb4⟩; have HB4 := Aside0.mk (HB3.out.drew.trans (hb4.mono HB3.out.size)); have HX4 := Aside0.mk (box_next2 (W := w3.drew) HX3.out hb4); clear hb4; obtain ⟨c4_0, c4_1, c4_2, c4_3, c4_4⟩ := box_cells HX4.out)
          all_goals
            go_wp2
            go_roundg (7 - (2 : Int)).toNat
            case measure => omega
            case rel => exact ⟨2, by omega, by omega, by omega, by first | rfl | go_num, HB4⟩
      · subst h
        have ha : wr.cell? ⟨w.heap.size + 1, 2, none⟩ = some (.iface 40 (.agg #[.int .i64 a0_0, .int .i64 a0_1])) := by simp only [World.cell?, hA]; rfl
        have HA := Aside0.mk hA
        clear hA hK
        cases hr : rightB (3) (a0_0) (a0_1) (0) (⟨#[]⟩) with
        | false =>
          have hO := fun W => act_Of_no 1 (3) (a0_0) (a0_1) (0) (⟨#[]⟩) W (by rw [right_f _ _ _ _ _ 1 (by omega), hr])
          clear hr
          go_wp2_with (first
            | ((with_reducible refine (eventEnd_wp (a0_0) (a0_1) _).mono ?_); rintro e w2 ⟨rfl, hb2⟩; have HB2 := Aside0.mk (BW.out.trans (hb2.mono BW.out.size)); clear hb2)
            | ((with_reducible refine (hO _).mono ?_); rintro e w3 ⟨rfl, hb3⟩; have HB3 := Aside0.mk ((HB2.out.alloc HB2.out.size (.cells #[.int .i64 3, .int .i64 a0_0, .int .i64 a0_1, .int .i64 0, .string ⟨#[]⟩] 25)).trans (hb3.mono (HB2.out.alloc HB2.out.size (.cells #[.int .i64 3, .int .i64 a0_0, .int .i64 a0_1, .int .i64 0, .string ⟨#[]⟩] 25)).size)); clear hb3))
          go_region
          all_goals
            go_wp2
            go_roundg (7 - (3 : Int)).toNat
            case measure => omega
            case rel => exact ⟨3, by omega, by omega, by omega, by first | rfl | go_num, ⟨HB3.out.drew⟩⟩
        | true =>
          have hO := fun W => act_Of_yes 1 (3) (a0_0) (a0_1) (0) (⟨#[]⟩) W (by rw [right_f _ _ _ _ _ 1 (by omega), hr]) (by decide)
          unfold actV at hO
          rw [if_neg (by decide), if_neg (by decide), if_pos rfl] at hO
          clear hr
          go_wp2_with (first
            | ((with_reducible refine (eventEnd_wp (a0_0) (a0_1) _).mono ?_); rintro e w2 ⟨rfl, hb2⟩; have HB2 := Aside0.mk (BW.out.trans (hb2.mono BW.out.size)); clear hb2)
            | ((with_reducible refine (hO _).mono ?_); rintro e w3 ⟨rfl, hb3⟩; have HB3 := Aside0.mk ((HB2.out.alloc HB2.out.size (.cells #[.int .i64 3, .int .i64 a0_0, .int .i64 a0_1, .int .i64 0, .string ⟨#[]⟩] 25)).trans (hb3.mono (HB2.out.alloc HB2.out.size (.cells #[.int .i64 3, .int .i64 a0_0, .int .i64 a0_1, .int .i64 0, .string ⟨#[]⟩] 25)).size)); have HX3 := Aside0.mk (box_next2 (World.alloc_heap_new w2 (.cells #[.int .i64 3, .int .i64 a0_0, .int .i64 a0_1, .int .i64 0, .string ⟨#[]⟩] 25)) hb3); clear hb3; obtain ⟨c3_0, c3_1, c3_2, c3_3, c3_4⟩ := box_cells HX3.out))
          go_region_with ((with_reducible refine (eventEnd_wp (a0_0) (a0_1) _).mono ?_); rintro e w4 ⟨rfl, hb4⟩; have HB4 := Aside0.mk (HB3.out.drew.trans (hb4.mono HB3.out.size)); have HX4 := Aside0.mk (box_next2 (W := w3.drew) HX3.out hb4); clear hb4; obtain ⟨c4_0, c4_1, c4_2, c4_3, c4_4⟩ := box_cells HX4.out)
          all_goals
            go_wp2
            go_roundg (7 - (3 : Int)).toNat
            case measure => omega
            case rel => exact ⟨3, by omega, by omega, by omega, by first | rfl | go_num, HB4⟩
      · subst h
        have ha : wr.cell? ⟨w.heap.size + 1, 3, none⟩ = some (.iface 42 (.agg #[.int .i64 a0_0, .int .i64 a0_1, .int .i64 a1])) := by simp only [World.cell?, hA]; rfl
        have HA := Aside0.mk hA
        clear hA hK
        cases hr : rightB (4) (a0_0) (a0_1) (a1) (⟨#[]⟩) with
        | false =>
          have hO := fun W => act_Of_no 1 (4) (a0_0) (a0_1) (a1) (⟨#[]⟩) W (by rw [right_f _ _ _ _ _ 1 (by omega), hr])
          clear hr
          go_wp2_with (first
            | ((with_reducible refine (eventRead_wp (a0_0) (a0_1) (a1) _).mono ?_); rintro e w2 ⟨rfl, hb2⟩; have HB2 := Aside0.mk (BW.out.trans (hb2.mono BW.out.size)); clear hb2)
            | ((with_reducible refine (hO _).mono ?_); rintro e w3 ⟨rfl, hb3⟩; have HB3 := Aside0.mk ((HB2.out.alloc HB2.out.size (.cells #[.int .i64 4, .int .i64 a0_0, .int .i64 a0_1, .int .i64 a1, .string ⟨#[]⟩] 25)).trans (hb3.mono (HB2.out.alloc HB2.out.size (.cells #[.int .i64 4, .int .i64 a0_0, .int .i64 a0_1, .int .i64 a1, .string ⟨#[]⟩] 25)).size)); clear hb3))
          go_region
          all_goals
            go_wp2
            go_roundg (7 - (4 : Int)).toNat
            case measure => omega
            case rel => exact ⟨4, by omega, by omega, by omega, by first | rfl | go_num, ⟨HB3.out.drew⟩⟩
        | true =>
          have hO := fun W => act_Of_yes 1 (4) (a0_0) (a0_1) (a1) (⟨#[]⟩) W (by rw [right_f _ _ _ _ _ 1 (by omega), hr]) (by decide)
          unfold actV at hO
          rw [if_neg (by decide), if_neg (by decide), if_neg (by decide), if_pos rfl] at hO
          clear hr
          go_wp2_with (first
            | ((with_reducible refine (eventRead_wp (a0_0) (a0_1) (a1) _).mono ?_); rintro e w2 ⟨rfl, hb2⟩; have HB2 := Aside0.mk (BW.out.trans (hb2.mono BW.out.size)); clear hb2)
            | ((with_reducible refine (hO _).mono ?_); rintro e w3 ⟨rfl, hb3⟩; have HB3 := Aside0.mk ((HB2.out.alloc HB2.out.size (.cells #[.int .i64 4, .int .i64 a0_0, .int .i64 a0_1, .int .i64 a1, .string ⟨#[]⟩] 25)).trans (hb3.mono (HB2.out.alloc HB2.out.size (.cells #[.int .i64 4, .int .i64 a0_0, .int .i64 a0_1, .int .i64 a1, .string ⟨#[]⟩] 25)).size)); have HX3 := Aside0.mk (box_next2 (World.alloc_heap_new w2 (.cells #[.int .i64 4, .int .i64 a0_0, .int .i64 a0_1, .int .i64 a1, .string ⟨#[]⟩] 25)) hb3); clear hb3; obtain ⟨c3_0, c3_1, c3_2, c3_3, c3_4⟩ := box_cells HX3.out))
          go_region_with ((with_reducible refine (eventRead_wp (a0_0) (a0_1) (a1) _).mono ?_); rintro e w4 ⟨rfl, hb4⟩; have HB4 := Aside0.mk (HB3.out.drew.trans (hb4.mono HB3.out.size)); have HX4 := Aside0.mk (box_next2 (W := w3.drew) HX3.out hb4); clear hb4; obtain ⟨c4_0, c4_1, c4_2, c4_3, c4_4⟩ := box_cells HX4.out)
          all_goals
            go_wp2
            go_roundg (7 - (4 : Int)).toNat
            case measure => omega
            case rel => exact ⟨4, by omega, by omega, by omega, by first | rfl | go_num, HB4⟩
      · subst h
        have ha : wr.cell? ⟨w.heap.size + 1, 4, none⟩ = some (.iface 43 (.agg #[.int .i64 a0_0, .int .i64 a0_1, .int .i64 a1])) := by simp only [World.cell?, hA]; rfl
        have HA := Aside0.mk hA
        clear hA hK
        cases hr : rightB (5) (a0_0) (a0_1) (a1) (⟨#[]⟩) with
        | false =>
          have hO := fun W => act_Of_no 1 (5) (a0_0) (a0_1) (a1) (⟨#[]⟩) W (by rw [right_f _ _ _ _ _ 1 (by omega), hr])
          clear hr
          go_wp2_with (first
            | ((with_reducible refine (eventGrant_wp (a0_0) (a0_1) (a1) _).mono ?_); rintro e w2 ⟨rfl, hb2⟩; have HB2 := Aside0.mk (BW.out.trans (hb2.mono BW.out.size)); clear hb2)
            | ((with_reducible refine (hO _).mono ?_); rintro e w3 ⟨rfl, hb3⟩; have HB3 := Aside0.mk ((HB2.out.alloc HB2.out.size (.cells #[.int .i64 5, .int .i64 a0_0, .int .i64 a0_1, .int .i64 a1, .string ⟨#[]⟩] 25)).trans (hb3.mono (HB2.out.alloc HB2.out.size (.cells #[.int .i64 5, .int .i64 a0_0, .int .i64 a0_1, .int .i64 a1, .string ⟨#[]⟩] 25)).size)); clear hb3))
          go_region
          all_goals
            go_wp2
            go_roundg (7 - (5 : Int)).toNat
            case measure => omega
            case rel => exact ⟨5, by omega, by omega, by omega, by first | rfl | go_num, ⟨HB3.out.drew⟩⟩
        | true =>
          have hO := fun W => act_Of_yes 1 (5) (a0_0) (a0_1) (a1) (⟨#[]⟩) W (by rw [right_f _ _ _ _ _ 1 (by omega), hr]) (by decide)
          unfold actV at hO
          rw [if_neg (by decide), if_neg (by decide), if_neg (by decide), if_neg (by decide), if_pos rfl] at hO
          clear hr
          go_wp2_with (first
            | ((with_reducible refine (eventGrant_wp (a0_0) (a0_1) (a1) _).mono ?_); rintro e w2 ⟨rfl, hb2⟩; have HB2 := Aside0.mk (BW.out.trans (hb2.mono BW.out.size)); clear hb2)
            | ((with_reducible refine (hO _).mono ?_); rintro e w3 ⟨rfl, hb3⟩; have HB3 := Aside0.mk ((HB2.out.alloc HB2.out.size (.cells #[.int .i64 5, .int .i64 a0_0, .int .i64 a0_1, .int .i64 a1, .string ⟨#[]⟩] 25)).trans (hb3.mono (HB2.out.alloc HB2.out.size (.cells #[.int .i64 5, .int .i64 a0_0, .int .i64 a0_1, .int .i64 a1, .string ⟨#[]⟩] 25)).size)); have HX3 := Aside0.mk (box_next2 (World.alloc_heap_new w2 (.cells #[.int .i64 5, .int .i64 a0_0, .int .i64 a0_1, .int .i64 a1, .string ⟨#[]⟩] 25)) hb3); clear hb3; obtain ⟨c3_0, c3_1, c3_2, c3_3, c3_4⟩ := box_cells HX3.out))
          go_region_with ((with_reducible refine (eventGrant_wp (a0_0) (a0_1) (a1) _).mono ?_); rintro e w4 ⟨rfl, hb4⟩; have HB4 := Aside0.mk (HB3.out.drew.trans (hb4.mono HB3.out.size)); have HX4 := Aside0.mk (box_next2 (W := w3.drew) HX3.out hb4); clear hb4; obtain ⟨c4_0, c4_1, c4_2, c4_3, c4_4⟩ := box_cells HX4.out)
          all_goals
            go_wp2
            go_roundg (7 - (5 : Int)).toNat
            case measure => omega
            case rel => exact ⟨5, by omega, by omega, by omega, by first | rfl | go_num, HB4⟩
      · subst h
        have ha : wr.cell? ⟨w.heap.size + 1, 5, none⟩ = some (.iface 45 (.agg #[.int .i64 a1])) := by simp only [World.cell?, hA]; rfl
        have HA := Aside0.mk hA
        clear hA hK
        cases hr : rightB (6) (0) (0) (a1) (⟨#[]⟩) with
        | false =>
          have hO := fun W => act_Of_no 1 (6) (0) (0) (a1) (⟨#[]⟩) W (by rw [right_f _ _ _ _ _ 1 (by omega), hr])
          clear hr
          go_wp2_with (first
            | ((with_reducible refine (eventTick_wp (a1) _).mono ?_); rintro e w2 ⟨rfl, hb2⟩; have HB2 := Aside0.mk (BW.out.trans (hb2.mono BW.out.size)); clear hb2)
            | ((with_reducible refine (hO _).mono ?_); rintro e w3 ⟨rfl, hb3⟩; have HB3 := Aside0.mk ((HB2.out.alloc HB2.out.size (.cells #[.int .i64 6, .int .i64 0, .int .i64 0, .int .i64 a1, .string ⟨#[]⟩] 25)).trans (hb3.mono (HB2.out.alloc HB2.out.size (.cells #[.int .i64 6, .int .i64 0, .int .i64 0, .int .i64 a1, .string ⟨#[]⟩] 25)).size)); clear hb3))
          go_region
          all_goals
            go_wp2
            go_roundg (7 - (6 : Int)).toNat
            case measure => omega
            case rel => exact ⟨6, by omega, by omega, by omega, by first | rfl | go_num, ⟨HB3.out.drew⟩⟩
        | true =>
          have hO := fun W => act_Of_yes 1 (6) (0) (0) (a1) (⟨#[]⟩) W (by rw [right_f _ _ _ _ _ 1 (by omega), hr]) (by decide)
          unfold actV at hO
          rw [if_neg (by decide), if_neg (by decide), if_neg (by decide), if_neg (by decide), if_neg (by decide), if_pos rfl] at hO
          clear hr
          go_wp2_with (first
            | ((with_reducible refine (eventTick_wp (a1) _).mono ?_); rintro e w2 ⟨rfl, hb2⟩; have HB2 := Aside0.mk (BW.out.trans (hb2.mono BW.out.size)); clear hb2)
            | ((with_reducible refine (hO _).mono ?_); rintro e w3 ⟨rfl, hb3⟩; have HB3 := Aside0.mk ((HB2.out.alloc HB2.out.size (.cells #[.int .i64 6, .int .i64 0, .int .i64 0, .int .i64 a1, .string ⟨#[]⟩] 25)).trans (hb3.mono (HB2.out.alloc HB2.out.size (.cells #[.int .i64 6, .int .i64 0, .int .i64 0, .int .i64 a1, .string ⟨#[]⟩] 25)).size)); have HX3 := Aside0.mk (box_next2 (World.alloc_heap_new w2 (.cells #[.int .i64 6, .int .i64 0, .int .i64 0, .int .i64 a1, .string ⟨#[]⟩] 25)) hb3); clear hb3; obtain ⟨c3_0, c3_1, c3_2, c3_3, c3_4⟩ := box_cells HX3.out))
          go_region_with ((with_reducible refine (eventTick_wp (a1) _).mono ?_); rintro e w4 ⟨rfl, hb4⟩; have HB4 := Aside0.mk (HB3.out.drew.trans (hb4.mono HB3.out.size)); have HX4 := Aside0.mk (box_next2 (W := w3.drew) HX3.out hb4); clear hb4; obtain ⟨c4_0, c4_1, c4_2, c4_3, c4_4⟩ := box_cells HX4.out)
          all_goals
            go_wp2
            go_roundg (7 - (6 : Int)).toNat
            case measure => omega
            case rel => exact ⟨6, by omega, by omega, by omega, by first | rfl | go_num, HB4⟩
      · subst h
        have ha : wr.cell? ⟨w.heap.size + 1, 6, none⟩ = some (.iface 46 (.agg #[.int .i64 a0_0])) := by simp only [World.cell?, hA]; rfl
        have HA := Aside0.mk hA
        clear hA hK
        cases hr : rightB (7) (a0_0) (0) (0) (⟨#[]⟩) with
        | false =>
          have hO := fun W => act_Of_no 1 (7) (a0_0) (0) (0) (⟨#[]⟩) W (by rw [right_f _ _ _ _ _ 1 (by omega), hr])
          clear hr
          go_wp2_with (first
            | ((with_reducible refine (eventServe_wp (a0_0) _).mono ?_); rintro e w2 ⟨rfl, hb2⟩; have HB2 := Aside0.mk (BW.out.trans (hb2.mono BW.out.size)); clear hb2)
            | ((with_reducible refine (hO _).mono ?_); rintro e w3 ⟨rfl, hb3⟩; have HB3 := Aside0.mk ((HB2.out.alloc HB2.out.size (.cells #[.int .i64 7, .int .i64 a0_0, .int .i64 0, .int .i64 0, .string ⟨#[]⟩] 25)).trans (hb3.mono (HB2.out.alloc HB2.out.size (.cells #[.int .i64 7, .int .i64 a0_0, .int .i64 0, .int .i64 0, .string ⟨#[]⟩] 25)).size)); clear hb3))
          go_region
          all_goals
            go_wp2
            go_roundg (7 - (7 : Int)).toNat
            case measure => omega
            case rel => exact ⟨7, by omega, by omega, by omega, by first | rfl | go_num, ⟨HB3.out.drew⟩⟩
        | true =>
          have hO := fun W => act_Of_yes 1 (7) (a0_0) (0) (0) (⟨#[]⟩) W (by rw [right_f _ _ _ _ _ 1 (by omega), hr]) (by decide)
          unfold actV at hO
          rw [if_neg (by decide), if_neg (by decide), if_neg (by decide), if_neg (by decide), if_neg (by decide), if_neg (by decide)] at hO
          clear hr
          go_wp2_with (first
            | ((with_reducible refine (eventServe_wp (a0_0) _).mono ?_); rintro e w2 ⟨rfl, hb2⟩; have HB2 := Aside0.mk (BW.out.trans (hb2.mono BW.out.size)); clear hb2)
            | ((with_reducible refine (hO _).mono ?_); rintro e w3 ⟨rfl, hb3⟩; have HB3 := Aside0.mk ((HB2.out.alloc HB2.out.size (.cells #[.int .i64 7, .int .i64 a0_0, .int .i64 0, .int .i64 0, .string ⟨#[]⟩] 25)).trans (hb3.mono (HB2.out.alloc HB2.out.size (.cells #[.int .i64 7, .int .i64 a0_0, .int .i64 0, .int .i64 0, .string ⟨#[]⟩] 25)).size)); have HX3 := Aside0.mk (box_next2 (World.alloc_heap_new w2 (.cells #[.int .i64 7, .int .i64 a0_0, .int .i64 0, .int .i64 0, .string ⟨#[]⟩] 25)) hb3); clear hb3; obtain ⟨c3_0, c3_1, c3_2, c3_3, c3_4⟩ := box_cells HX3.out))
          go_region_with ((with_reducible refine (eventServe_wp (a0_0) _).mono ?_); rintro e w4 ⟨rfl, hb4⟩; have HB4 := Aside0.mk (HB3.out.drew.trans (hb4.mono HB3.out.size)); have HX4 := Aside0.mk (box_next2 (W := w3.drew) HX3.out hb4); clear hb4; obtain ⟨c4_0, c4_1, c4_2, c4_3, c4_4⟩ := box_cells HX4.out)
          all_goals
            go_wp2
            go_roundg (7 - (7 : Int)).toNat
            case measure => omega
            case rel => exact ⟨7, by omega, by omega, by omega, by first | rfl | go_num, HB4⟩
      · subst h
        have hs6 : S6 (w.heap.size) a0_0 a0_1 a1 a2 wr := s6_of hK hA
        clear hK hA
        have HS6 := Aside0.mk hs6
        obtain ⟨k0, k1, q1, q3, q5, q6⟩ := hs6
        go_wp2_with fail
        clear k0 k1 q1 q3 q5 q6
        have hsX := HS6.out
        unfold S6 at hsX
        go_region_held3 (fun w' => w'.cell? ⟨w.heap.size, 0, none⟩ = some (.int .i64 a0_0) ∧ w'.cell? ⟨w.heap.size, 1, none⟩ = some (.int .i64 a0_1) ∧ w'.cell? ⟨w.heap.size + 1, 1, none⟩ = some (.iface 38 (.agg #[.int .i64 a0_0, .int .i64 a0_1, .string a2])) ∧ w'.cell? ⟨w.heap.size + 1, 3, none⟩ = some (.iface 42 (.agg #[.int .i64 a0_0, .int .i64 a0_1, .int .i64 a1])) ∧ w'.cell? ⟨w.heap.size + 1, 5, none⟩ = some (.iface 45 (.agg #[.int .i64 a1])) ∧ w'.cell? ⟨w.heap.size + 1, 6, none⟩ = some (.iface 46 (.agg #[.int .i64 a0_0]))) (first | exact hsX | (refine S6.next (W := _) ?_ (by assumption); assumption) | go_keep)
          (first | ((with_reducible refine (eventSend_wp (a0_0) (a0_1) (a2) _).mono ?_); rintro e v1 ⟨rfl, hv1⟩) | ((with_reducible refine (eventRead_wp (a0_0) (a0_1) (a1) _).mono ?_); rintro e v2 ⟨rfl, hv2⟩) | ((with_reducible refine (eventTick_wp (a1) _).mono ?_); rintro e v3 ⟨rfl, hv3⟩) | ((with_reducible refine (eventServe_wp (a0_0) _).mono ?_); rintro e v4 ⟨rfl, hv4⟩) | ((with_reducible refine (HL.out _).mono ?_); rintro e v5 ⟨rfl, hv5⟩))
        all_goals
          go_wp2
          go_ret
          have b0 : Below w.heap.size w wr.drew := (HB1.out.trans (BW.out.mono HB1.out.size)).drew
          have b1 := b0.trans (hv1.mono b0.size)
          have b2 := b1.trans (hv2.mono b1.size)
          have b3 := b2.trans (hv3.mono b2.size)
          have b4 := b3.trans (hv4.mono b3.size)
          exact ⟨rfl, b4.trans (hv5.mono b4.size)⟩
  · have hsb : decide ((a2.size : Int) ≤ 6000) = false := decide_eq_false hs
    have hL := fun W => abutmentlaw44_lives.calls true W rfl
    have HL := Aside0.mk hL
    clear hL
    go_enter Try.func4, Try.ntmps4
    go_wp2_with fail
    generalize hw0 : w.alloc _ = w0
    generalize hw1 : w0.alloc _ = w1
    have z0 : w0.heap.size = w.heap.size + 1 := by rw [← hw0]; simp
    have hk0 : w0.heap[w.heap.size]? = some (.cells #[.int .i64 a0_0, .int .i64 a0_1] 23 (0, 0)) := by rw [← hw0]; exact World.alloc_heap_new _ _
    have hk : w1.heap[w.heap.size]? = some (.cells #[.int .i64 a0_0, .int .i64 a0_1] 23 (0, 0)) := by rw [← hw1, Below.heap_alloc _ _ _ (by omega)]; exact hk0
    have hl : w1.heap[w.heap.size + 1]? = some (.cells #[.iface 36 (.agg #[.int .i64 a0_0]), .iface 38 (.agg #[.int .i64 a0_0, .int .i64 a0_1, .string (a2.extract 0 6000)]), .iface 40 (.agg #[.int .i64 a0_0, .int .i64 a0_1]), .iface 42 (.agg #[.int .i64 a0_0, .int .i64 a0_1, .int .i64 a1]), .iface 43 (.agg #[.int .i64 a0_0, .int .i64 a0_1, .int .i64 a1]), .iface 45 (.agg #[.int .i64 a1]), .iface 46 (.agg #[.int .i64 a0_0])] 27 (0, 0)) := by rw [← hw1, ← z0]; exact World.alloc_heap_new _ _
    have hb1 : Below w.heap.size w w1 := by rw [← hw1, ← hw0]; exact ((Below.refl _ w).alloc (Nat.le_refl _) _).alloc (by simp) _
    have HK := Aside0.mk hk
    have HLL := Aside0.mk hl
    have HB1 := Aside0.mk hb1
    clear hw0 hw1 z0 hk0 hk hl hb1
    go_loopg [47] 7 (fun gg s47 wr => ∃ i : Int, 0 ≤ i ∧ i ≤ 7 ∧ (7 - i).toNat ≤ gg ∧ s47 = .int .i64 i ∧ Aside0 (Below w1.heap.size w1 wr))
    case atStart => exact ⟨0, by omega, by omega, by omega, rfl, ⟨Below.refl _ _⟩⟩
    case round =>
      obtain ⟨i, hi0, hi7, hgg, rfl, BW⟩ := hrel
      have hK := box_next2 HK.out BW.out
      have hA := box_next2 HLL.out BW.out
      obtain h | h | h | h | h | h | h | h : i = 0 ∨ i = 1 ∨ i = 2 ∨ i = 3 ∨ i = 4 ∨ i = 5 ∨ i = 6 ∨ i = 7 := by omega
      · subst h
        have ha : wr.cell? ⟨w.heap.size + 1, 0, none⟩ = some (.iface 36 (.agg #[.int .i64 a0_0])) := by simp only [World.cell?, hA]; rfl
        have HA := Aside0.mk hA
        clear hA hK
        cases hr : rightB (1) (a0_0) (0) (0) (⟨#[]⟩) with
        | false =>
          have hO := fun W => act_Of_no 1 (1) (a0_0) (0) (0) (⟨#[]⟩) W (by rw [right_f _ _ _ _ _ 1 (by omega), hr])
          clear hr
          go_wp2_with (first
            | ((with_reducible refine (eventOpen_wp (a0_0) _).mono ?_); rintro e w2 ⟨rfl, hb2⟩; have HB2 := Aside0.mk (BW.out.trans (hb2.mono BW.out.size)); clear hb2)
            | ((with_reducible refine (hO _).mono ?_); rintro e w3 ⟨rfl, hb3⟩; have HB3 := Aside0.mk ((HB2.out.alloc HB2.out.size (.cells #[.int .i64 1, .int .i64 a0_0, .int .i64 0, .int .i64 0, .string ⟨#[]⟩] 25)).trans (hb3.mono (HB2.out.alloc HB2.out.size (.cells #[.int .i64 1, .int .i64 a0_0, .int .i64 0, .int .i64 0, .string ⟨#[]⟩] 25)).size)); clear hb3))
          go_region
          all_goals
            go_wp2
            go_roundg (7 - (1 : Int)).toNat
            case measure => omega
            case rel => exact ⟨1, by omega, by omega, by omega, by first | rfl | go_num, ⟨HB3.out.drew⟩⟩
        | true =>
          have hO := fun W => act_Of_yes 1 (1) (a0_0) (0) (0) (⟨#[]⟩) W (by rw [right_f _ _ _ _ _ 1 (by omega), hr]) (by decide)
          unfold actV at hO
          rw [if_pos rfl] at hO
          clear hr
          go_wp2_with (first
            | ((with_reducible refine (eventOpen_wp (a0_0) _).mono ?_); rintro e w2 ⟨rfl, hb2⟩; have HB2 := Aside0.mk (BW.out.trans (hb2.mono BW.out.size)); clear hb2)
            | ((with_reducible refine (hO _).mono ?_); rintro e w3 ⟨rfl, hb3⟩; have HB3 := Aside0.mk ((HB2.out.alloc HB2.out.size (.cells #[.int .i64 1, .int .i64 a0_0, .int .i64 0, .int .i64 0, .string ⟨#[]⟩] 25)).trans (hb3.mono (HB2.out.alloc HB2.out.size (.cells #[.int .i64 1, .int .i64 a0_0, .int .i64 0, .int .i64 0, .string ⟨#[]⟩] 25)).size)); have HX3 := Aside0.mk (box_next2 (World.alloc_heap_new w2 (.cells #[.int .i64 1, .int .i64 a0_0, .int .i64 0, .int .i64 0, .string ⟨#[]⟩] 25)) hb3); clear hb3; obtain ⟨c3_0, c3_1, c3_2, c3_3, c3_4⟩ := box_cells HX3.out))
          go_region_with ((with_reducible refine (eventOpen_wp (a0_0) _).mono ?_); rintro e w4 ⟨rfl, hb4⟩; have HB4 := Aside0.mk (HB3.out.drew.trans (hb4.mono HB3.out.size)); have HX4 := Aside0.mk (box_next2 (W := w3.drew) HX3.out hb4); clear hb4; obtain ⟨c4_0, c4_1, c4_2, c4_3, c4_4⟩ := box_cells HX4.out)
          all_goals
            go_wp2
            go_roundg (7 - (1 : Int)).toNat
            case measure => omega
            case rel => exact ⟨1, by omega, by omega, by omega, by first | rfl | go_num, HB4⟩
      · subst h
        have ha : wr.cell? ⟨w.heap.size + 1, 1, none⟩ = some (.iface 38 (.agg #[.int .i64 a0_0, .int .i64 a0_1, .string (a2.extract 0 6000)])) := by simp only [World.cell?, hA]; rfl
        have HA := Aside0.mk hA
        clear hA hK
        cases hr : rightB (2) (a0_0) (a0_1) (0) ((a2.extract 0 6000)) with
        | false =>
          have hO := fun W => act_Of_no 1 (2) (a0_0) (a0_1) (0) ((a2.extract 0 6000)) W (by rw [right_f _ _ _ _ _ 1 (by omega), hr])
          clear hr
          go_wp2_with (first
            | ((with_reducible refine (eventSend_wp (a0_0) (a0_1) ((a2.extract 0 6000)) _).mono ?_); rintro e w2 ⟨rfl, hb2⟩; have HB2 := Aside0.mk (BW.out.trans (hb2.mono BW.out.size)); clear hb2)
            | ((with_reducible refine (hO _).mono ?_); rintro e w3 ⟨rfl, hb3⟩; have HB3 := Aside0.mk ((HB2.out.alloc HB2.out.size (.cells #[.int .i64 2, .int .i64 a0_0, .int .i64 a0_1, .int .i64 0, .string (a2.extract 0 6000)] 25)).trans (hb3.mono (HB2.out.alloc HB2.out.size (.cells #[.int .i64 2, .int .i64 a0_0, .int .i64 a0_1, .int .i64 0, .string (a2.extract 0 6000)] 25)).size)); clear hb3))
          go_region
          all_goals
            go_wp2
            go_roundg (7 - (2 : Int)).toNat
            case measure => omega
            case rel => exact ⟨2, by omega, by omega, by omega, by first | rfl | go_num, ⟨HB3.out.drew⟩⟩
        | true =>
          have hO := fun W => act_Of_yes 1 (2) (a0_0) (a0_1) (0) ((a2.extract 0 6000)) W (by rw [right_f _ _ _ _ _ 1 (by omega), hr]) (by decide)
          unfold actV at hO
          rw [if_neg (by decide), if_pos rfl] at hO
          clear hr
          go_wp2_with (first
            | ((with_reducible refine (eventSend_wp (a0_0) (a0_1) ((a2.extract 0 6000)) _).mono ?_); rintro e w2 ⟨rfl, hb2⟩; have HB2 := Aside0.mk (BW.out.trans (hb2.mono BW.out.size)); clear hb2)
            | ((with_reducible refine (hO _).mono ?_); rintro e w3 ⟨rfl, hb3⟩; have HB3 := Aside0.mk ((HB2.out.alloc HB2.out.size (.cells #[.int .i64 2, .int .i64 a0_0, .int .i64 a0_1, .int .i64 0, .string (a2.extract 0 6000)] 25)).trans (hb3.mono (HB2.out.alloc HB2.out.size (.cells #[.int .i64 2, .int .i64 a0_0, .int .i64 a0_1, .int .i64 0, .string (a2.extract 0 6000)] 25)).size)); have HX3 := Aside0.mk (box_next2 (World.alloc_heap_new w2 (.cells #[.int .i64 2, .int .i64 a0_0, .int .i64 a0_1, .int .i64 0, .string (a2.extract 0 6000)] 25)) hb3); clear hb3; obtain ⟨c3_0, c3_1, c3_2, c3_3, c3_4⟩ := box_cells HX3.out))
          go_region_with ((with_reducible refine (eventSend_wp (a0_0) (a0_1) ((a2.extract 0 6000)) _).mono ?_); rintro e w4 ⟨rfl, hb4⟩; have HB4 := Aside0.mk (HB3.out.drew.trans (hb4.mono HB3.out.size)); have HX4 := Aside0.mk (box_next2 (W := w3.drew) HX3.out hb4); clear hb4; obtain ⟨c4_0, c4_1, c4_2, c4_3, c4_4⟩ := box_cells HX4.out)
          all_goals
            go_wp2
            go_roundg (7 - (2 : Int)).toNat
            case measure => omega
            case rel => exact ⟨2, by omega, by omega, by omega, by first | rfl | go_num, HB4⟩
      · subst h
        have ha : wr.cell? ⟨w.heap.size + 1, 2, none⟩ = some (.iface 40 (.agg #[.int .i64 a0_0, .int .i64 a0_1])) := by simp only [World.cell?, hA]; rfl
        have HA := Aside0.mk hA
        clear hA hK
        cases hr : rightB (3) (a0_0) (a0_1) (0) (⟨#[]⟩) with
        | false =>
          have hO := fun W => act_Of_no 1 (3) (a0_0) (a0_1) (0) (⟨#[]⟩) W (by rw [right_f _ _ _ _ _ 1 (by omega), hr])
          clear hr
          go_wp2_with (first
            | ((with_reducible refine (eventEnd_wp (a0_0) (a0_1) _).mono ?_); rintro e w2 ⟨rfl, hb2⟩; have HB2 := Aside0.mk (BW.out.trans (hb2.mono BW.out.size)); clear hb2)
            | ((with_reducible refine (hO _).mono ?_); rintro e w3 ⟨rfl, hb3⟩; have HB3 := Aside0.mk ((HB2.out.alloc HB2.out.size (.cells #[.int .i64 3, .int .i64 a0_0, .int .i64 a0_1, .int .i64 0, .string ⟨#[]⟩] 25)).trans (hb3.mono (HB2.out.alloc HB2.out.size (.cells #[.int .i64 3, .int .i64 a0_0, .int .i64 a0_1, .int .i64 0, .string ⟨#[]⟩] 25)).size)); clear hb3))
          go_region
          all_goals
            go_wp2
            go_roundg (7 - (3 : Int)).toNat
            case measure => omega
            case rel => exact ⟨3, by omega, by omega, by omega, by first | rfl | go_num, ⟨HB3.out.drew⟩⟩
        | true =>
          have hO := fun W => act_Of_yes 1 (3) (a0_0) (a0_1) (0) (⟨#[]⟩) W (by rw [right_f _ _ _ _ _ 1 (by omega), hr]) (by decide)
          unfold actV at hO
          rw [if_neg (by decide), if_neg (by decide), if_pos rfl] at hO
          clear hr
          go_wp2_with (first
            | ((with_reducible refine (eventEnd_wp (a0_0) (a0_1) _).mono ?_); rintro e w2 ⟨rfl, hb2⟩; have HB2 := Aside0.mk (BW.out.trans (hb2.mono BW.out.size)); clear hb2)
            | ((with_reducible refine (hO _).mono ?_); rintro e w3 ⟨rfl, hb3⟩; have HB3 := Aside0.mk ((HB2.out.alloc HB2.out.size (.cells #[.int .i64 3, .int .i64 a0_0, .int .i64 a0_1, .int .i64 0, .string ⟨#[]⟩] 25)).trans (hb3.mono (HB2.out.alloc HB2.out.size (.cells #[.int .i64 3, .int .i64 a0_0, .int .i64 a0_1, .int .i64 0, .string ⟨#[]⟩] 25)).size)); have HX3 := Aside0.mk (box_next2 (World.alloc_heap_new w2 (.cells #[.int .i64 3, .int .i64 a0_0, .int .i64 a0_1, .int .i64 0, .string ⟨#[]⟩] 25)) hb3); clear hb3; obtain ⟨c3_0, c3_1, c3_2, c3_3, c3_4⟩ := box_cells HX3.out))
          go_region_with ((with_reducible refine (eventEnd_wp (a0_0) (a0_1) _).mono ?_); rintro e w4 ⟨rfl, hb4⟩; have HB4 := Aside0.mk (HB3.out.drew.trans (hb4.mono HB3.out.size)); have HX4 := Aside0.mk (box_next2 (W := w3.drew) HX3.out hb4); clear hb4; obtain ⟨c4_0, c4_1, c4_2, c4_3, c4_4⟩ := box_cells HX4.out)
          all_goals
            go_wp2
            go_roundg (7 - (3 : Int)).toNat
            case measure => omega
            case rel => exact ⟨3, by omega, by omega, by omega, by first | rfl | go_num, HB4⟩
      · subst h
        have ha : wr.cell? ⟨w.heap.size + 1, 3, none⟩ = some (.iface 42 (.agg #[.int .i64 a0_0, .int .i64 a0_1, .int .i64 a1])) := by simp only [World.cell?, hA]; rfl
        have HA := Aside0.mk hA
        clear hA hK
        cases hr : rightB (4) (a0_0) (a0_1) (a1) (⟨#[]⟩) with
        | false =>
          have hO := fun W => act_Of_no 1 (4) (a0_0) (a0_1) (a1) (⟨#[]⟩) W (by rw [right_f _ _ _ _ _ 1 (by omega), hr])
          clear hr
          go_wp2_with (first
            | ((with_reducible refine (eventRead_wp (a0_0) (a0_1) (a1) _).mono ?_); rintro e w2 ⟨rfl, hb2⟩; have HB2 := Aside0.mk (BW.out.trans (hb2.mono BW.out.size)); clear hb2)
            | ((with_reducible refine (hO _).mono ?_); rintro e w3 ⟨rfl, hb3⟩; have HB3 := Aside0.mk ((HB2.out.alloc HB2.out.size (.cells #[.int .i64 4, .int .i64 a0_0, .int .i64 a0_1, .int .i64 a1, .string ⟨#[]⟩] 25)).trans (hb3.mono (HB2.out.alloc HB2.out.size (.cells #[.int .i64 4, .int .i64 a0_0, .int .i64 a0_1, .int .i64 a1, .string ⟨#[]⟩] 25)).size)); clear hb3))
          go_region
          all_goals
            go_wp2
            go_roundg (7 - (4 : Int)).toNat
            case measure => omega
            case rel => exact ⟨4, by omega, by omega, by omega, by first | rfl | go_num, ⟨HB3.out.drew⟩⟩
        | true =>
          have hO := fun W => act_Of_yes 1 (4) (a0_0) (a0_1) (a1) (⟨#[]⟩) W (by rw [right_f _ _ _ _ _ 1 (by omega), hr]) (by decide)
          unfold actV at hO
          rw [if_neg (by decide), if_neg (by decide), if_neg (by decide), if_pos rfl] at hO
          clear hr
          go_wp2_with (first
            | ((with_reducible refine (eventRead_wp (a0_0) (a0_1) (a1) _).mono ?_); rintro e w2 ⟨rfl, hb2⟩; have HB2 := Aside0.mk (BW.out.trans (hb2.mono BW.out.size)); clear hb2)
            | ((with_reducible refine (hO _).mono ?_); rintro e w3 ⟨rfl, hb3⟩; have HB3 := Aside0.mk ((HB2.out.alloc HB2.out.size (.cells #[.int .i64 4, .int .i64 a0_0, .int .i64 a0_1, .int .i64 a1, .string ⟨#[]⟩] 25)).trans (hb3.mono (HB2.out.alloc HB2.out.size (.cells #[.int .i64 4, .int .i64 a0_0, .int .i64 a0_1, .int .i64 a1, .string ⟨#[]⟩] 25)).size)); have HX3 := Aside0.mk (box_next2 (World.alloc_heap_new w2 (.cells #[.int .i64 4, .int .i64 a0_0, .int .i64 a0_1, .int .i64 a1, .string ⟨#[]⟩] 25)) hb3); clear hb3; obtain ⟨c3_0, c3_1, c3_2, c3_3, c3_4⟩ := box_cells HX3.out))
          go_region_with ((with_reducible refine (eventRead_wp (a0_0) (a0_1) (a1) _).mono ?_); rintro e w4 ⟨rfl, hb4⟩; have HB4 := Aside0.mk (HB3.out.drew.trans (hb4.mono HB3.out.size)); have HX4 := Aside0.mk (box_next2 (W := w3.drew) HX3.out hb4); clear hb4; obtain ⟨c4_0, c4_1, c4_2, c4_3, c4_4⟩ := box_cells HX4.out)
          all_goals
            go_wp2
            go_roundg (7 - (4 : Int)).toNat
            case measure => omega
            case rel => exact ⟨4, by omega, by omega, by omega, by first | rfl | go_num, HB4⟩
      · subst h
        have ha : wr.cell? ⟨w.heap.size + 1, 4, none⟩ = some (.iface 43 (.agg #[.int .i64 a0_0, .int .i64 a0_1, .int .i64 a1])) := by simp only [World.cell?, hA]; rfl
        have HA := Aside0.mk hA
        clear hA hK
        cases hr : rightB (5) (a0_0) (a0_1) (a1) (⟨#[]⟩) with
        | false =>
          have hO := fun W => act_Of_no 1 (5) (a0_0) (a0_1) (a1) (⟨#[]⟩) W (by rw [right_f _ _ _ _ _ 1 (by omega), hr])
          clear hr
          go_wp2_with (first
            | ((with_reducible refine (eventGrant_wp (a0_0) (a0_1) (a1) _).mono ?_); rintro e w2 ⟨rfl, hb2⟩; have HB2 := Aside0.mk (BW.out.trans (hb2.mono BW.out.size)); clear hb2)
            | ((with_reducible refine (hO _).mono ?_); rintro e w3 ⟨rfl, hb3⟩; have HB3 := Aside0.mk ((HB2.out.alloc HB2.out.size (.cells #[.int .i64 5, .int .i64 a0_0, .int .i64 a0_1, .int .i64 a1, .string ⟨#[]⟩] 25)).trans (hb3.mono (HB2.out.alloc HB2.out.size (.cells #[.int .i64 5, .int .i64 a0_0, .int .i64 a0_1, .int .i64 a1, .string ⟨#[]⟩] 25)).size)); clear hb3))
          go_region
          all_goals
            go_wp2
            go_roundg (7 - (5 : Int)).toNat
            case measure => omega
            case rel => exact ⟨5, by omega, by omega, by omega, by first | rfl | go_num, ⟨HB3.out.drew⟩⟩
        | true =>
          have hO := fun W => act_Of_yes 1 (5) (a0_0) (a0_1) (a1) (⟨#[]⟩) W (by rw [right_f _ _ _ _ _ 1 (by omega), hr]) (by decide)
          unfold actV at hO
          rw [if_neg (by decide), if_neg (by decide), if_neg (by decide), if_neg (by decide), if_pos rfl] at hO
          clear hr
          go_wp2_with (first
            | ((with_reducible refine (eventGrant_wp (a0_0) (a0_1) (a1) _).mono ?_); rintro e w2 ⟨rfl, hb2⟩; have HB2 := Aside0.mk (BW.out.trans (hb2.mono BW.out.size)); clear hb2)
            | ((with_reducible refine (hO _).mono ?_); rintro e w3 ⟨rfl, hb3⟩; have HB3 := Aside0.mk ((HB2.out.alloc HB2.out.size (.cells #[.int .i64 5, .int .i64 a0_0, .int .i64 a0_1, .int .i64 a1, .string ⟨#[]⟩] 25)).trans (hb3.mono (HB2.out.alloc HB2.out.size (.cells #[.int .i64 5, .int .i64 a0_0, .int .i64 a0_1, .int .i64 a1, .string ⟨#[]⟩] 25)).size)); have HX3 := Aside0.mk (box_next2 (World.alloc_heap_new w2 (.cells #[.int .i64 5, .int .i64 a0_0, .int .i64 a0_1, .int .i64 a1, .string ⟨#[]⟩] 25)) hb3); clear hb3; obtain ⟨c3_0, c3_1, c3_2, c3_3, c3_4⟩ := box_cells HX3.out))
          go_region_with ((with_reducible refine (eventGrant_wp (a0_0) (a0_1) (a1) _).mono ?_); rintro e w4 ⟨rfl, hb4⟩; have HB4 := Aside0.mk (HB3.out.drew.trans (hb4.mono HB3.out.size)); have HX4 := Aside0.mk (box_next2 (W := w3.drew) HX3.out hb4); clear hb4; obtain ⟨c4_0, c4_1, c4_2, c4_3, c4_4⟩ := box_cells HX4.out)
          all_goals
            go_wp2
            go_roundg (7 - (5 : Int)).toNat
            case measure => omega
            case rel => exact ⟨5, by omega, by omega, by omega, by first | rfl | go_num, HB4⟩
      · subst h
        have ha : wr.cell? ⟨w.heap.size + 1, 5, none⟩ = some (.iface 45 (.agg #[.int .i64 a1])) := by simp only [World.cell?, hA]; rfl
        have HA := Aside0.mk hA
        clear hA hK
        cases hr : rightB (6) (0) (0) (a1) (⟨#[]⟩) with
        | false =>
          have hO := fun W => act_Of_no 1 (6) (0) (0) (a1) (⟨#[]⟩) W (by rw [right_f _ _ _ _ _ 1 (by omega), hr])
          clear hr
          go_wp2_with (first
            | ((with_reducible refine (eventTick_wp (a1) _).mono ?_); rintro e w2 ⟨rfl, hb2⟩; have HB2 := Aside0.mk (BW.out.trans (hb2.mono BW.out.size)); clear hb2)
            | ((with_reducible refine (hO _).mono ?_); rintro e w3 ⟨rfl, hb3⟩; have HB3 := Aside0.mk ((HB2.out.alloc HB2.out.size (.cells #[.int .i64 6, .int .i64 0, .int .i64 0, .int .i64 a1, .string ⟨#[]⟩] 25)).trans (hb3.mono (HB2.out.alloc HB2.out.size (.cells #[.int .i64 6, .int .i64 0, .int .i64 0, .int .i64 a1, .string ⟨#[]⟩] 25)).size)); clear hb3))
          go_region
          all_goals
            go_wp2
            go_roundg (7 - (6 : Int)).toNat
            case measure => omega
            case rel => exact ⟨6, by omega, by omega, by omega, by first | rfl | go_num, ⟨HB3.out.drew⟩⟩
        | true =>
          have hO := fun W => act_Of_yes 1 (6) (0) (0) (a1) (⟨#[]⟩) W (by rw [right_f _ _ _ _ _ 1 (by omega), hr]) (by decide)
          unfold actV at hO
          rw [if_neg (by decide), if_neg (by decide), if_neg (by decide), if_neg (by decide), if_neg (by decide), if_pos rfl] at hO
          clear hr
          go_wp2_with (first
            | ((with_reducible refine (eventTick_wp (a1) _).mono ?_); rintro e w2 ⟨rfl, hb2⟩; have HB2 := Aside0.mk (BW.out.trans (hb2.mono BW.out.size)); clear hb2)
            | ((with_reducible refine (hO _).mono ?_); rintro e w3 ⟨rfl, hb3⟩; have HB3 := Aside0.mk ((HB2.out.alloc HB2.out.size (.cells #[.int .i64 6, .int .i64 0, .int .i64 0, .int .i64 a1, .string ⟨#[]⟩] 25)).trans (hb3.mono (HB2.out.alloc HB2.out.size (.cells #[.int .i64 6, .int .i64 0, .int .i64 0, .int .i64 a1, .string ⟨#[]⟩] 25)).size)); have HX3 := Aside0.mk (box_next2 (World.alloc_heap_new w2 (.cells #[.int .i64 6, .int .i64 0, .int .i64 0, .int .i64 a1, .string ⟨#[]⟩] 25)) hb3); clear hb3; obtain ⟨c3_0, c3_1, c3_2, c3_3, c3_4⟩ := box_cells HX3.out))
          go_region_with ((with_reducible refine (eventTick_wp (a1) _).mono ?_); rintro e w4 ⟨rfl, hb4⟩; have HB4 := Aside0.mk (HB3.out.drew.trans (hb4.mono HB3.out.size)); have HX4 := Aside0.mk (box_next2 (W := w3.drew) HX3.out hb4); clear hb4; obtain ⟨c4_0, c4_1, c4_2, c4_3, c4_4⟩ := box_cells HX4.out)
          all_goals
            go_wp2
            go_roundg (7 - (6 : Int)).toNat
            case measure => omega
            case rel => exact ⟨6, by omega, by omega, by omega, by first | rfl | go_num, HB4⟩
      · subst h
        have ha : wr.cell? ⟨w.heap.size + 1, 6, none⟩ = some (.iface 46 (.agg #[.int .i64 a0_0])) := by simp only [World.cell?, hA]; rfl
        have HA := Aside0.mk hA
        clear hA hK
        cases hr : rightB (7) (a0_0) (0) (0) (⟨#[]⟩) with
        | false =>
          have hO := fun W => act_Of_no 1 (7) (a0_0) (0) (0) (⟨#[]⟩) W (by rw [right_f _ _ _ _ _ 1 (by omega), hr])
          clear hr
          go_wp2_with (first
            | ((with_reducible refine (eventServe_wp (a0_0) _).mono ?_); rintro e w2 ⟨rfl, hb2⟩; have HB2 := Aside0.mk (BW.out.trans (hb2.mono BW.out.size)); clear hb2)
            | ((with_reducible refine (hO _).mono ?_); rintro e w3 ⟨rfl, hb3⟩; have HB3 := Aside0.mk ((HB2.out.alloc HB2.out.size (.cells #[.int .i64 7, .int .i64 a0_0, .int .i64 0, .int .i64 0, .string ⟨#[]⟩] 25)).trans (hb3.mono (HB2.out.alloc HB2.out.size (.cells #[.int .i64 7, .int .i64 a0_0, .int .i64 0, .int .i64 0, .string ⟨#[]⟩] 25)).size)); clear hb3))
          go_region
          all_goals
            go_wp2
            go_roundg (7 - (7 : Int)).toNat
            case measure => omega
            case rel => exact ⟨7, by omega, by omega, by omega, by first | rfl | go_num, ⟨HB3.out.drew⟩⟩
        | true =>
          have hO := fun W => act_Of_yes 1 (7) (a0_0) (0) (0) (⟨#[]⟩) W (by rw [right_f _ _ _ _ _ 1 (by omega), hr]) (by decide)
          unfold actV at hO
          rw [if_neg (by decide), if_neg (by decide), if_neg (by decide), if_neg (by decide), if_neg (by decide), if_neg (by decide)] at hO
          clear hr
          go_wp2_with (first
            | ((with_reducible refine (eventServe_wp (a0_0) _).mono ?_); rintro e w2 ⟨rfl, hb2⟩; have HB2 := Aside0.mk (BW.out.trans (hb2.mono BW.out.size)); clear hb2)
            | ((with_reducible refine (hO _).mono ?_); rintro e w3 ⟨rfl, hb3⟩; have HB3 := Aside0.mk ((HB2.out.alloc HB2.out.size (.cells #[.int .i64 7, .int .i64 a0_0, .int .i64 0, .int .i64 0, .string ⟨#[]⟩] 25)).trans (hb3.mono (HB2.out.alloc HB2.out.size (.cells #[.int .i64 7, .int .i64 a0_0, .int .i64 0, .int .i64 0, .string ⟨#[]⟩] 25)).size)); have HX3 := Aside0.mk (box_next2 (World.alloc_heap_new w2 (.cells #[.int .i64 7, .int .i64 a0_0, .int .i64 0, .int .i64 0, .string ⟨#[]⟩] 25)) hb3); clear hb3; obtain ⟨c3_0, c3_1, c3_2, c3_3, c3_4⟩ := box_cells HX3.out))
          go_region_with ((with_reducible refine (eventServe_wp (a0_0) _).mono ?_); rintro e w4 ⟨rfl, hb4⟩; have HB4 := Aside0.mk (HB3.out.drew.trans (hb4.mono HB3.out.size)); have HX4 := Aside0.mk (box_next2 (W := w3.drew) HX3.out hb4); clear hb4; obtain ⟨c4_0, c4_1, c4_2, c4_3, c4_4⟩ := box_cells HX4.out)
          all_goals
            go_wp2
            go_roundg (7 - (7 : Int)).toNat
            case measure => omega
            case rel => exact ⟨7, by omega, by omega, by omega, by first | rfl | go_num, HB4⟩
      · subst h
        have hs6 : S6 (w.heap.size) a0_0 a0_1 a1 (a2.extract 0 6000) wr := s6_of hK hA
        clear hK hA
        have HS6 := Aside0.mk hs6
        obtain ⟨k0, k1, q1, q3, q5, q6⟩ := hs6
        go_wp2_with fail
        clear k0 k1 q1 q3 q5 q6
        have hsX := HS6.out
        unfold S6 at hsX
        go_region_held3 (fun w' => w'.cell? ⟨w.heap.size, 0, none⟩ = some (.int .i64 a0_0) ∧ w'.cell? ⟨w.heap.size, 1, none⟩ = some (.int .i64 a0_1) ∧ w'.cell? ⟨w.heap.size + 1, 1, none⟩ = some (.iface 38 (.agg #[.int .i64 a0_0, .int .i64 a0_1, .string (a2.extract 0 6000)])) ∧ w'.cell? ⟨w.heap.size + 1, 3, none⟩ = some (.iface 42 (.agg #[.int .i64 a0_0, .int .i64 a0_1, .int .i64 a1])) ∧ w'.cell? ⟨w.heap.size + 1, 5, none⟩ = some (.iface 45 (.agg #[.int .i64 a1])) ∧ w'.cell? ⟨w.heap.size + 1, 6, none⟩ = some (.iface 46 (.agg #[.int .i64 a0_0]))) (first | exact hsX | (refine S6.next (W := _) ?_ (by assumption); assumption) | go_keep)
          (first | ((with_reducible refine (eventSend_wp (a0_0) (a0_1) ((a2.extract 0 6000)) _).mono ?_); rintro e v1 ⟨rfl, hv1⟩) | ((with_reducible refine (eventRead_wp (a0_0) (a0_1) (a1) _).mono ?_); rintro e v2 ⟨rfl, hv2⟩) | ((with_reducible refine (eventTick_wp (a1) _).mono ?_); rintro e v3 ⟨rfl, hv3⟩) | ((with_reducible refine (eventServe_wp (a0_0) _).mono ?_); rintro e v4 ⟨rfl, hv4⟩) | ((with_reducible refine (HL.out _).mono ?_); rintro e v5 ⟨rfl, hv5⟩))
        all_goals
          go_wp2
          go_ret
          have b0 : Below w.heap.size w wr.drew := (HB1.out.trans (BW.out.mono HB1.out.size)).drew
          have b1 := b0.trans (hv1.mono b0.size)
          have b2 := b1.trans (hv2.mono b1.size)
          have b3 := b2.trans (hv3.mono b2.size)
          have b4 := b3.trans (hv4.mono b3.size)
          exact ⟨rfl, b4.trans (hv5.mono b4.size)⟩


end Go.Proofs.Ytkepebaapgkhbaa.X
namespace Go.Proofs.Ytkepebaapgkhbaa.X
open Go.RowKit Go.Proofs.YtkepebaapgkhbaaW.PrintWords Go.Proofs.YtkepebaapgkhbaaW.PrintLast Go.Proofs.YtkepebaapgkhbaaW.PrintMore
attribute [local go_sem] max2_int min2_int max_two min_two max_three min_three max_four min_four   -- for this text's walks alone
set_option linter.unusedVariables false
set_option linter.unusedSimpArgs false

/-! ### pure text 4: open -/
open Go.ChangeShapes Go.WideShapes Go.Deep
/-! ### What came in, as print's words tell it -/
theorem add_add_mul (a : Addr) (i j : Nat) : (a.add i).add j = a.add (i + j) := by
  unfold Addr.add
  by_cases hi : i = 0
  · subst hi; simp
  · by_cases hj : j = 0
    · subst hj; simp
    · rw [if_neg hi, if_neg hj, if_neg (by omega)]
      simp; omega
/-- A slice whose elements read by a kind. -/
theorem slice_reads {α : Type} {H : Type} {enc : TypeId × Value → H} {P : Program} {W : World} {t e : TypeId} {a : Option Addr} {len cap : Nat} {d : DataW H} {ps : List MemPlace} (k : Kd α) (Good : α → Prop)
    (ht : P.underlying t = some (.slice e)) (hs : P.cellsOf e = k.sz)
    (hel : ∀ n cs y, DataW.trod enc P W 0 (fun _ => true) true n e cs = some y → ∃ x, k.K W x cs ∧ Good x)
    (h : DataW.Trod enc P W 0 (fun _ => true) true t (.slice a len cap) d ps) :
    ∃ l : List α, l.length = len ∧ Kd.C k W a l.length l ∧ l.length ≤ cap ∧ l.length ≤ maxLen ∧ ∀ x ∈ l, Good x := by
  obtain ⟨fuel, hf⟩ := h
  have hf' : DataW.trod enc P W 0 (fun _ => true) true fuel t [.slice a len cap] = some (d, ps) := by simpa [Value.cells] using hf
  rcases open_slice ht hf' with ⟨hcs, _⟩ | ⟨ad, l', c', m, n, D, Pl, hcs, _, hl, hm, hmm, _, hx⟩
  · simp at hcs
    obtain ⟨rfl, rfl, rfl⟩ := hcs
    exact ⟨[], rfl, Kd.C_nil k W, by simp, by simp, by simp⟩
  · simp at hcs
    obtain ⟨rfl, rfl, rfl⟩ := hcs
    have hmc : m = cap := by simpa using hmm
    subst hmc
    have each : ∀ i, i < len → ∃ x, Good x ∧ ∃ c, c.length = k.sz ∧ k.K W x c ∧ ∀ j u, c[j]? = some u → W.cell? (ad.add (i * k.sz + j)) = some u := by
      intro i hi
      obtain ⟨cs', h1, h2⟩ := hx i (by omega)
      obtain ⟨x, hK, hG⟩ := hel _ _ _ h2
      rw [hs] at h1
      obtain ⟨_, hlen, hcell⟩ := World.cells?_some h1
      refine ⟨x, hG, cs', hlen, hK, fun j u hj => ?_⟩
      have hlt : j < k.sz := by rw [← hlen]; exact (List.getElem?_eq_some_iff.1 hj).1
      have := hcell j hlt
      rw [add_add_mul] at this
      rw [this, hj]
    have hbuild : ∀ n, n ≤ len → ∃ l : List α, l.length = n ∧ ∀ i x, l[i]? = some x → Good x ∧ ∃ c, c.length = k.sz ∧ k.K W x c ∧ ∀ j u, c[j]? = some u → W.cell? (ad.add (i * k.sz + j)) = some u := by
      intro n
      induction n with
      | zero => intro _; exact ⟨[], rfl, fun i x h => by simp at h⟩
      | succ n ih =>
        intro hn
        obtain ⟨l, hl', hL⟩ := ih (by omega)
        obtain ⟨x, hx'⟩ := each n (by omega)
        refine ⟨l ++ [x], by simp [hl'], fun i y hy => ?_⟩
        by_cases hi : i < l.length
        · rw [List.getElem?_append_left hi] at hy
          exact hL i y hy
        · rw [List.getElem?_append_right (by omega)] at hy
          have h0 : i - l.length = 0 := by
            have := (List.getElem?_eq_some_iff.1 hy).1
            simp at this; omega
          rw [h0] at hy
          simp at hy
          subst hy
          have : i = n := by omega
          subst this
          exact hx'
    obtain ⟨l, hll, hL⟩ := hbuild len (Nat.le_refl _)
    refine ⟨l, hll, ⟨rfl, by unfold maxLen at hm; omega, fun _ => ⟨ad, rfl, fun j p hj => (hL j p hj).2⟩⟩, by omega, by omega, fun x hx' => ?_⟩
    obtain ⟨i, hi⟩ := List.getElem?_of_mem hx'
    exact (hL i x hi).1
/-- A text. -/
theorem el_string {H : Type} {enc : TypeId × Value → H} {P : Program} {W : World} {e : TypeId} (he : P.underlying e = some .string) :
    ∀ n cs y, DataW.trod enc P W 0 (fun _ => true) true n e cs = some y → ∃ x : ByteArray, Kd.string.K W x cs ∧ x.size ≤ maxLen := by
  intro n cs y h
  obtain ⟨s, rfl, _, hw⟩ := DataW.trod_string he h
  exact ⟨s, rfl, hw⟩
theorem el_int {H : Type} {enc : TypeId × Value → H} {P : Program} {W : World} {e : TypeId} {k : IntKind} (he : P.underlying e = some (.int k)) :
    ∀ n cs y, DataW.trod enc P W 0 (fun _ => true) true n e cs = some y → ∃ x : Int, (Kd.int k).K W x cs ∧ (Lit.int k x).wf = true := by
  intro n cs y h
  obtain ⟨x, rfl, _, hw⟩ := DataW.trod_int he h
  exact ⟨x, rfl, hw⟩
theorem el_bool {H : Type} {enc : TypeId × Value → H} {P : Program} {W : World} {e : TypeId} (he : P.underlying e = some .bool) :
    ∀ n cs y, DataW.trod enc P W 0 (fun _ => true) true n e cs = some y → ∃ x : Bool, Kd.bool.K W x cs ∧ True := by
  intro n cs y h
  obtain ⟨x, rfl, _⟩ := DataW.trod_bool he h
  exact ⟨x, rfl, trivial⟩


end Go.Proofs.Ytkepebaapgkhbaa.X
