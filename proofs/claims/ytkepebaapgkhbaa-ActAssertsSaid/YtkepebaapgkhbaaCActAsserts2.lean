/- Part 2 of the texts behind the claim on ActAsserts: contracts of the functions that it reaches, and plain laws about them. No conditions of its own. -/
import Derived.Test.YtkepebaapgkhbaaCActAsserts1
import Derived.Deep.RegionWith
import Derived.Handy
import Derived.RangeFuncRecord
import Derived.Defers
import Derived.Recover
import Derived.Laws.ResultCell
import Derived.BigQuiet
import Derived.Deep.QuietTactic
import Derived.Deep.RegionHeld3
import Derived.ChangeSame
import Derived.Deep.Slices
import Derived.SizedLaws
import Derived.SliceStrings
namespace Go.Proofs.Ytkepebaapgkhbaa.X
open Go.RowKit Go.Proofs.YtkepebaapgkhbaaW.PrintWords Go.Proofs.YtkepebaapgkhbaaW.PrintLast Go.Proofs.YtkepebaapgkhbaaW.PrintMore
attribute [local go_sem] max2_int min2_int max_two min_two max_three min_three max_four min_four   -- for this text's walks alone
set_option linter.unusedVariables false
set_option linter.unusedSimpArgs false

/-! ### abutmentlaw44_ActTells: function 3 -/
def abutmentlaw44_ActTells.f (a0_0 : Int) (a0_1 : Int) (a0_2 : Int) (a0_3 : Int) (a0_4 : ByteArray) (a1 : Int) : Option (Bool) := some true
theorem box_cells {W : World} {g : Nat} {a b c d e : Value} {t : TypeId} (h : W.heap[g]? = some (.cells #[a, b, c, d, e] t (0, 0))) :
    W.cell? ⟨g, 0, none⟩ = some a ∧ W.cell? ⟨g, 1, none⟩ = some b ∧ W.cell? ⟨g, 2, none⟩ = some c ∧ W.cell? ⟨g, 3, none⟩ = some d ∧ W.cell? ⟨g, 4, none⟩ = some e := by
  refine ⟨?_, ?_, ?_, ?_, ?_⟩ <;> (simp only [World.cell?, h]; rfl)
theorem box_next {W X : World} {g : Nat} {o : Obj} (h : W.heap[g]? = some o) (hb : Below W.heap.size W X) : X.heap[g]? = some o := (hb.block g (Array.getElem?_eq_some_iff.1 h).1).trans h
theorem empty_of (t : ByteArray) (h : t.toList = []) : t = ⟨#[]⟩ := by
  rw [ByteArray.toList_eq] at h
  obtain ⟨⟨l⟩⟩ := t
  have h5' : l = [] := h
  rw [h5']
/-- What an event is that may be: as its step tells it again. -/
theorem right_spec (op c o n : Int) (t : ByteArray) (h : rightB op c o n t = true) : (1 ≤ op ∧ op ≤ 7) ∧ ((op = 1 ∨ op = 7) → o = 0) ∧ ((op = 1 ∨ op = 2 ∨ op = 3 ∨ op = 7) → n = 0) ∧ (op = 6 → c = 0 ∧ o = 0) ∧ (op ≠ 2 → t = ⟨#[]⟩) := by
  unfold rightB at h
  simp only [Bool.and_eq_true, decide_eq_true_iff] at h
  obtain ⟨h1, h2, h3, h4, h5⟩ := h
  refine ⟨⟨h1, h2⟩, fun e => ?_, fun e => ?_, fun e => ?_, fun e => ?_⟩
  · unfold placedB at h3
    rw [if_neg (by omega), if_pos e] at h3
    simp only [Bool.and_eq_true, beq_iff_eq] at h3
    exact h3.2.2
  · unfold withinB at h4
    rw [if_neg (show ¬ (op = 4 ∨ op = 5) by omega), if_neg (show ¬ op = 6 by omega)] at h4
    simp only [Bool.and_eq_true, decide_eq_true_iff] at h4
    omega
  · unfold placedB at h3
    rw [if_pos e] at h3
    simp only [Bool.and_eq_true, beq_iff_eq] at h3
    exact h3
  · unfold textB at h5
    rw [decide_eq_false e] at h5
    simp only [Bool.false_and, Bool.or_false, decide_eq_true_iff] at h5
    exact empty_of t h5
set_option maxHeartbeats 16000000 in
set_option maxRecDepth 100000 in
theorem abutmentlaw44_ActTells.calls (a0_0 : Int) (a0_1 : Int) (a0_2 : Int) (a0_3 : Int) (a0_4 : ByteArray) (a1 : Int) (r : Bool) (w : World) (h : abutmentlaw44_ActTells.f a0_0 a0_1 a0_2 a0_3 a0_4 a1 = some r) :
    Calls Try.prog 3 #[.agg #[.int .i64 a0_0, .int .i64 a0_1, .int .i64 a0_2, .int .i64 a0_3, .string a0_4], .int .i64 a1] w fun e w' => e = .returned (.bool r) ∧ Below w.heap.size w w' := by
  obtain rfl := Option.some.inj h
  clear h
  by_cases hs : (a0_4.size : Int) ≤ 6000
  · have hsb : decide ((a0_4.size : Int) ≤ 6000) = true := decide_eq_true hs
    cases hr : rightB a0_0 a0_1 a0_2 a0_3 a0_4 with
    | false =>
      have HBw0 := Aside0.mk ((Below.refl w.heap.size w).alloc (Nat.le_refl _) (.cells #[.int .i64 a0_0, .int .i64 a0_1, .int .i64 a0_2, .int .i64 a0_3, .string a0_4] 25))
      have HXw0 := Aside0.mk (World.alloc_heap_new w (.cells #[.int .i64 a0_0, .int .i64 a0_1, .int .i64 a0_2, .int .i64 a0_3, .string a0_4] 25))
      have hL := fun W => abutmentlaw44_lives.calls true W rfl
      have hW1 := fun W => act_Word.calls a1 (wordA a1) W rfl
      have hW2 := fun W => abutmentref44_Word.calls a1 (wordA a1) W (ref_word44 a1)
      have hO := fun W => act_Of_no 1 (a0_0) (a0_1) (a0_2) (a0_3) (a0_4) W (by rw [right_f _ _ _ _ _ 1 (by omega), hr])
      have hR := fun W => act_Right.calls 1 (a0_0) (a0_1) (a0_2) (a0_3) (a0_4) false W (by rw [right_f _ _ _ _ _ 1 (by omega), hr])
      have hF := fun W => abutmentref44_Right.calls 4 (a0_0) (a0_1) (a0_2) (a0_3) (a0_4) false W (by rw [ref_right44 _ _ _ _ _ 4 (by omega), hr])
      clear hr
      go_enter Try.func3, Try.ntmps3
      go_wp2_with (first
        | (go_at_call 6; (with_reducible refine (hO _).mono ?_); rintro e w1 ⟨rfl, hbw1⟩; have HBw1 := Aside0.mk (HBw0.out.trans (hbw1.mono HBw0.out.size)); have HXw1 := Aside0.mk (box_next HXw0.out hbw1); obtain ⟨cw1_0, cw1_1, cw1_2, cw1_3, cw1_4⟩ := box_cells HXw1.out; clear hbw1)
        | (go_at_call 7; (with_reducible refine (hF _).mono ?_); rintro e w2 ⟨rfl, hbw2⟩; have HBw2 := Aside0.mk (HBw1.out.trans (hbw2.mono HBw1.out.size)); have HXw2 := Aside0.mk (box_next HXw1.out hbw2); obtain ⟨cw2_0, cw2_1, cw2_2, cw2_3, cw2_4⟩ := box_cells HXw2.out; clear hbw2)
        | (go_at_call 8; (with_reducible refine (hR _).mono ?_); rintro e w3 ⟨rfl, hbw3⟩; have HBw3 := Aside0.mk (HBw2.out.trans (hbw3.mono HBw2.out.size)); have HXw3 := Aside0.mk (box_next HXw2.out hbw3); obtain ⟨cw3_0, cw3_1, cw3_2, cw3_3, cw3_4⟩ := box_cells HXw3.out; clear hbw3)
        | (go_at_call 9; (with_reducible refine (hW1 _).mono ?_); rintro e w4 ⟨rfl, hbw4⟩; have HBw4 := Aside0.mk (HBw3.out.trans (hbw4.mono HBw3.out.size)); have HXw4 := Aside0.mk (box_next HXw3.out hbw4); obtain ⟨cw4_0, cw4_1, cw4_2, cw4_3, cw4_4⟩ := box_cells HXw4.out; clear hbw4)
        | (go_at_call 10; (with_reducible refine (hW2 _).mono ?_); rintro e w5 ⟨rfl, hbw5⟩; have HBw5 := Aside0.mk (HBw4.out.trans (hbw5.mono HBw4.out.size)); have HXw5 := Aside0.mk (box_next HXw4.out hbw5); obtain ⟨cw5_0, cw5_1, cw5_2, cw5_3, cw5_4⟩ := box_cells HXw5.out; clear hbw5))
      refine wp_region_any (by kernel_rfl) ?_
      change wpAny _ _ _ _ _ _ _ (World.drew _)
      refine wpAny_take (i := 0) (v := ?v0_1) rfl (by kernel_rfl) (by kernel_rfl) (by kernel_rfl) (fun _ _ _ h => h) (Or.inl ⟨by rfl, ?y0_1⟩) ?_
      case y0_1 => intro w; go_simp; first | done | (with_reducible rfl)
      refine wpAny_take (i := 1) (v := ?v1_2) rfl (by kernel_rfl) (by kernel_rfl) (by kernel_rfl) (fun _ _ _ h => h) (Or.inl ⟨by rfl, ?y1_2⟩) ?_
      case y1_2 => intro w; go_simp; first | done | (with_reducible rfl)
      refine wpAny_take (i := 2) (v := ?v2_3) rfl (by kernel_rfl) (by kernel_rfl) (by kernel_rfl) (fun _ _ _ h => h) (Or.inl ⟨by rfl, ?y2_3⟩) ?_
      case y2_3 => intro w; go_simp; first | done | (with_reducible rfl)
      refine wpAny_take (i := 3) (v := undef) rfl (by kernel_rfl) (by kernel_rfl) (by kernel_rfl) (fun _ _ _ h => h) (Or.inr ⟨by rfl, rfl⟩) ?_
      refine wpAny_take (i := 4) (v := undef) rfl (by kernel_rfl) (by kernel_rfl) (by kernel_rfl) (fun _ _ _ h => h) (Or.inr ⟨by rfl, rfl⟩) ?_
      refine wpAny_take (i := 5) (v := undef) rfl (by kernel_rfl) (by kernel_rfl) (by kernel_rfl) (fun _ _ _ h => h) (Or.inr ⟨by rfl, rfl⟩) ?_
      refine wpAny_take (i := 6) (v := undef) rfl (by kernel_rfl) (by kernel_rfl) (by kernel_rfl) (fun _ _ _ h => h) (Or.inr ⟨by rfl, rfl⟩) ?_
      refine wpAny_take (i := 7) (v := ?v7_4) rfl (by kernel_rfl) (by kernel_rfl) (by kernel_rfl) (fun _ _ _ h => h) (Or.inl ⟨by rfl, ?y7_4⟩) ?_
      case y7_4 => intro w; go_simp; first | done | (with_reducible rfl)
      refine wpAny_take (i := 8) (v := ?v8_5) rfl (by kernel_rfl) (by kernel_rfl) (by kernel_rfl) (fun _ _ _ h => h) (Or.inl ⟨by rfl, ?y8_5⟩) ?_
      case y8_5 => intro w; go_simp; first | done | (with_reducible rfl)
      refine wpAny_ready (rs := [9]) (by kernel_rfl) (by simp) ?_
      refine AllReady.cons rfl (fun K hK => ?_) AllReady.nil
      go_simp
      go_wp2_with (go_at_call 11; refine (hL _).mono ?_; rintro e w7 ⟨rfl, hb7⟩; have HB7 := Aside0.mk hb7; clear hb7)
      refine wpAny_take (i := 10) (v := ?v10_6) rfl (by kernel_rfl) (by kernel_rfl) (by kernel_rfl) (fun _ _ _ h => h) (Or.inl ⟨by rfl, ?y10_6⟩) ?_
      case y10_6 => intro w; go_simp; first | done | (with_reducible rfl)
      refine wpAny_take (i := 11) (v := ?v11_7) rfl (by kernel_rfl) (by kernel_rfl) (by kernel_rfl) (fun _ _ _ h => h) (Or.inl ⟨by rfl, ?y11_7⟩) ?_
      case y11_7 => intro w; go_simp; first | done | (with_reducible rfl)
      refine wpAny_done (by kernel_rfl) ?_ _
      go_wp2
      go_ret
      exact ⟨rfl, HBw5.out.drew.trans (HB7.out.mono HBw5.out.size)⟩
    | true =>
      obtain ⟨hop, h1o, h1n, h6, h67⟩ := right_spec _ _ _ _ _ hr
      obtain h | h | h | h | h | h | h : a0_0 = 1 ∨ a0_0 = 2 ∨ a0_0 = 3 ∨ a0_0 = 4 ∨ a0_0 = 5 ∨ a0_0 = 6 ∨ a0_0 = 7 := by omega
      · subst h
        have ht := h67 (by decide)
        have hte1 : (a0_4.toList == ([] : List UInt8)) = true := by rw [ht]; decide +kernel
        have hte2 : (([] : List UInt8) == a0_4.toList) = true := by rw [ht]; decide +kernel
        clear ht
        have ho := h1o (by decide)
        subst ho
        have hn := h1n (by decide)
        subst hn
        clear hop h1o h1n h6 h67
        have HBw0 := Aside0.mk ((Below.refl w.heap.size w).alloc (Nat.le_refl _) (.cells #[.int .i64 1, .int .i64 a0_1, .int .i64 0, .int .i64 0, .string a0_4] 25))
        have HXw0 := Aside0.mk (World.alloc_heap_new w (.cells #[.int .i64 1, .int .i64 a0_1, .int .i64 0, .int .i64 0, .string a0_4] 25))
        have hL := fun W => abutmentlaw44_lives.calls true W rfl
        have hW1 := fun W => act_Word.calls a1 (wordA a1) W rfl
        have hW2 := fun W => abutmentref44_Word.calls a1 (wordA a1) W (ref_word44 a1)
        have hO := fun W => act_Of_yes 1 (1) (a0_1) (0) (0) (a0_4) W (by rw [right_f _ _ _ _ _ 1 (by omega), hr]) (by decide)
        have hR := fun W => act_Right.calls 1 (1) (a0_1) (0) (0) (a0_4) true W (by rw [right_f _ _ _ _ _ 1 (by omega), hr])
        have hF := fun W => abutmentref44_Right.calls 4 (1) (a0_1) (0) (0) (a0_4) true W (by rw [ref_right44 _ _ _ _ _ 4 (by omega), hr])
        clear hr
        unfold actV at hO
        rw [if_pos rfl] at hO
        go_enter Try.func3, Try.ntmps3
        go_wp2_with (first
          | (go_at_call 6; (with_reducible refine (hO _).mono ?_); rintro e w1 ⟨rfl, hbw1⟩; have HBw1 := Aside0.mk (HBw0.out.trans (hbw1.mono HBw0.out.size)); have HXw1 := Aside0.mk (box_next HXw0.out hbw1); obtain ⟨cw1_0, cw1_1, cw1_2, cw1_3, cw1_4⟩ := box_cells HXw1.out; clear hbw1)
          | (go_at_call 7; (with_reducible refine (hF _).mono ?_); rintro e w2 ⟨rfl, hbw2⟩; have HBw2 := Aside0.mk (HBw1.out.trans (hbw2.mono HBw1.out.size)); have HXw2 := Aside0.mk (box_next HXw1.out hbw2); obtain ⟨cw2_0, cw2_1, cw2_2, cw2_3, cw2_4⟩ := box_cells HXw2.out; clear hbw2)
          | (go_at_call 8; (with_reducible refine (hR _).mono ?_); rintro e w3 ⟨rfl, hbw3⟩; have HBw3 := Aside0.mk (HBw2.out.trans (hbw3.mono HBw2.out.size)); have HXw3 := Aside0.mk (box_next HXw2.out hbw3); obtain ⟨cw3_0, cw3_1, cw3_2, cw3_3, cw3_4⟩ := box_cells HXw3.out; clear hbw3)
          | (go_at_call 9; (with_reducible refine (hW1 _).mono ?_); rintro e w4 ⟨rfl, hbw4⟩; have HBw4 := Aside0.mk (HBw3.out.trans (hbw4.mono HBw3.out.size)); have HXw4 := Aside0.mk (box_next HXw3.out hbw4); obtain ⟨cw4_0, cw4_1, cw4_2, cw4_3, cw4_4⟩ := box_cells HXw4.out; clear hbw4)
          | (go_at_call 10; (with_reducible refine (hW2 _).mono ?_); rintro e w5 ⟨rfl, hbw5⟩; have HBw5 := Aside0.mk (HBw4.out.trans (hbw5.mono HBw4.out.size)); have HXw5 := Aside0.mk (box_next HXw4.out hbw5); obtain ⟨cw5_0, cw5_1, cw5_2, cw5_3, cw5_4⟩ := box_cells HXw5.out; clear hbw5))
        refine wp_region_any (by kernel_rfl) ?_
        change wpAny _ _ _ _ _ _ _ (World.drew _)
        refine wpAny_take (i := 0) (v := ?v0_8) rfl (by kernel_rfl) (by kernel_rfl) (by kernel_rfl) (fun _ _ _ h => h) (Or.inl ⟨by rfl, ?y0_8⟩) ?_
        case y0_8 => intro w; go_simp; first | done | (with_reducible rfl)
        refine wpAny_take (i := 1) (v := ?v1_9) rfl (by kernel_rfl) (by kernel_rfl) (by kernel_rfl) (fun _ _ _ h => h) (Or.inl ⟨by rfl, ?y1_9⟩) ?_
        case y1_9 => intro w; go_simp; first | done | (with_reducible rfl)
        refine wpAny_take (i := 2) (v := ?v2_10) rfl (by kernel_rfl) (by kernel_rfl) (by kernel_rfl) (fun _ _ _ h => h) (Or.inl ⟨by rfl, ?y2_10⟩) ?_
        case y2_10 => intro w; go_simp; first | done | (with_reducible rfl)
        refine wpAny_take (i := 3) (v := ?v3_11) rfl (by kernel_rfl) (by kernel_rfl) (by kernel_rfl) (fun _ _ _ h => h) (Or.inl ⟨by rfl, ?y3_11⟩) ?_
        case y3_11 => intro w; go_simp; first | done | (with_reducible rfl)
        refine wpAny_ready (rs := [4, 5]) (by kernel_rfl) (by simp) ?_
        refine AllReady.cons rfl (fun K hK => ?_) (AllReady.cons rfl (fun K hK => ?_) AllReady.nil)
        · go_simp
          go_wp2_with ((with_reducible refine (eventOpen_wp (a0_1) _).mono ?_); rintro e w6 ⟨rfl, hb6⟩; have HB6 := Aside0.mk (HBw5.out.drew.trans (hb6.mono HBw5.out.size)); have HX6 := Aside0.mk (box_next (W := w5.drew) HXw5.out hb6); obtain ⟨c6_0, c6_1, c6_2, c6_3, c6_4⟩ := box_cells HX6.out; clear hb6)
          refine wpAny_ready (rs := [5]) (by kernel_rfl) (by simp) ?_
          refine AllReady.cons rfl (fun K hK => ?_) AllReady.nil
          go_simp
          refine hK _ _ ?_
          clear hK K
          refine wpAny_take (i := 6) (v := ?v6_12) rfl (by kernel_rfl) (by kernel_rfl) (by kernel_rfl) (fun _ _ _ h => h) (Or.inl ⟨by rfl, ?y6_12⟩) ?_
          case y6_12 => intro w; go_simp; first | done | (with_reducible rfl)
          refine wpAny_take (i := 7) (v := ?v7_13) rfl (by kernel_rfl) (by kernel_rfl) (by kernel_rfl) (fun _ _ _ h => h) (Or.inl ⟨by rfl, ?y7_13⟩) ?_
          case y7_13 => intro w; go_simp; first | done | (with_reducible rfl)
          refine wpAny_take (i := 8) (v := ?v8_14) rfl (by kernel_rfl) (by kernel_rfl) (by kernel_rfl) (fun _ _ _ h => h) (Or.inl ⟨by rfl, ?y8_14⟩) ?_
          case y8_14 => intro w; go_simp; first | done | (with_reducible rfl)
          refine wpAny_ready (rs := [9]) (by kernel_rfl) (by simp) ?_
          refine AllReady.cons rfl (fun K hK => ?_) AllReady.nil
          go_simp
          go_wp2_with (go_at_call 11; refine (hL _).mono ?_; rintro e w7 ⟨rfl, hb7⟩; have HB7 := Aside0.mk hb7; clear hb7)
          refine wpAny_take (i := 10) (v := ?v10_15) rfl (by kernel_rfl) (by kernel_rfl) (by kernel_rfl) (fun _ _ _ h => h) (Or.inl ⟨by rfl, ?y10_15⟩) ?_
          case y10_15 => intro w; go_simp; first | done | (with_reducible rfl)
          refine wpAny_take (i := 11) (v := ?v11_16) rfl (by kernel_rfl) (by kernel_rfl) (by kernel_rfl) (fun _ _ _ h => h) (Or.inl ⟨by rfl, ?y11_16⟩) ?_
          case y11_16 => intro w; go_simp; first | done | (with_reducible rfl)
          refine wpAny_done (by kernel_rfl) ?_ _
          go_wp2
          go_ret
          exact ⟨rfl, HB6.out.trans (HB7.out.mono HB6.out.size)⟩
        · go_simp
          refine hK _ _ ?_
          clear hK K
          refine wpAny_ready (rs := [4]) (by kernel_rfl) (by simp) ?_
          refine AllReady.cons rfl (fun K hK => ?_) AllReady.nil
          go_simp
          go_wp2_with ((with_reducible refine (eventOpen_wp (a0_1) _).mono ?_); rintro e w6 ⟨rfl, hb6⟩; have HB6 := Aside0.mk (HBw5.out.drew.trans (hb6.mono HBw5.out.size)); have HX6 := Aside0.mk (box_next (W := w5.drew) HXw5.out hb6); obtain ⟨c6_0, c6_1, c6_2, c6_3, c6_4⟩ := box_cells HX6.out; clear hb6)
          refine wpAny_take (i := 6) (v := ?v6_17) rfl (by kernel_rfl) (by kernel_rfl) (by kernel_rfl) (fun _ _ _ h => h) (Or.inl ⟨by rfl, ?y6_17⟩) ?_
          case y6_17 => intro w; go_simp; first | done | (with_reducible rfl)
          refine wpAny_take (i := 7) (v := ?v7_18) rfl (by kernel_rfl) (by kernel_rfl) (by kernel_rfl) (fun _ _ _ h => h) (Or.inl ⟨by rfl, ?y7_18⟩) ?_
          case y7_18 => intro w; go_simp; first | done | (with_reducible rfl)
          refine wpAny_take (i := 8) (v := ?v8_19) rfl (by kernel_rfl) (by kernel_rfl) (by kernel_rfl) (fun _ _ _ h => h) (Or.inl ⟨by rfl, ?y8_19⟩) ?_
          case y8_19 => intro w; go_simp; first | done | (with_reducible rfl)
          refine wpAny_ready (rs := [9]) (by kernel_rfl) (by simp) ?_
          refine AllReady.cons rfl (fun K hK => ?_) AllReady.nil
          go_simp
          go_wp2_with (go_at_call 11; refine (hL _).mono ?_; rintro e w7 ⟨rfl, hb7⟩; have HB7 := Aside0.mk hb7; clear hb7)
          refine wpAny_take (i := 10) (v := ?v10_20) rfl (by kernel_rfl) (by kernel_rfl) (by kernel_rfl) (fun _ _ _ h => h) (Or.inl ⟨by rfl, ?y10_20⟩) ?_
          case y10_20 => intro w; go_simp; first | done | (with_reducible rfl)
          refine wpAny_take (i := 11) (v := ?v11_21) rfl (by kernel_rfl) (by kernel_rfl) (by kernel_rfl) (fun _ _ _ h => h) (Or.inl ⟨by rfl, ?y11_21⟩) ?_
          case y11_21 => intro w; go_simp; first | done | (with_reducible rfl)
          refine wpAny_done (by kernel_rfl) ?_ _
          go_wp2
          go_ret
          exact ⟨rfl, HB6.out.trans (HB7.out.mono HB6.out.size)⟩
      · subst h
        have hn := h1n (by decide)
        subst hn
        clear hop h1o h1n h6 h67
        have HBw0 := Aside0.mk ((Below.refl w.heap.size w).alloc (Nat.le_refl _) (.cells #[.int .i64 2, .int .i64 a0_1, .int .i64 a0_2, .int .i64 0, .string a0_4] 25))
        have HXw0 := Aside0.mk (World.alloc_heap_new w (.cells #[.int .i64 2, .int .i64 a0_1, .int .i64 a0_2, .int .i64 0, .string a0_4] 25))
        have hL := fun W => abutmentlaw44_lives.calls true W rfl
        have hW1 := fun W => act_Word.calls a1 (wordA a1) W rfl
        have hW2 := fun W => abutmentref44_Word.calls a1 (wordA a1) W (ref_word44 a1)
        have hO := fun W => act_Of_yes 1 (2) (a0_1) (a0_2) (0) (a0_4) W (by rw [right_f _ _ _ _ _ 1 (by omega), hr]) (by decide)
        have hR := fun W => act_Right.calls 1 (2) (a0_1) (a0_2) (0) (a0_4) true W (by rw [right_f _ _ _ _ _ 1 (by omega), hr])
        have hF := fun W => abutmentref44_Right.calls 4 (2) (a0_1) (a0_2) (0) (a0_4) true W (by rw [ref_right44 _ _ _ _ _ 4 (by omega), hr])
        clear hr
        unfold actV at hO
        rw [if_neg (by decide), if_pos rfl] at hO
        go_enter Try.func3, Try.ntmps3
        go_wp2_with (first
          | (go_at_call 6; (with_reducible refine (hO _).mono ?_); rintro e w1 ⟨rfl, hbw1⟩; have HBw1 := Aside0.mk (HBw0.out.trans (hbw1.mono HBw0.out.size)); have HXw1 := Aside0.mk (box_next HXw0.out hbw1); obtain ⟨cw1_0, cw1_1, cw1_2, cw1_3, cw1_4⟩ := box_cells HXw1.out; clear hbw1)
          | (go_at_call 7; (with_reducible refine (hF _).mono ?_); rintro e w2 ⟨rfl, hbw2⟩; have HBw2 := Aside0.mk (HBw1.out.trans (hbw2.mono HBw1.out.size)); have HXw2 := Aside0.mk (box_next HXw1.out hbw2); obtain ⟨cw2_0, cw2_1, cw2_2, cw2_3, cw2_4⟩ := box_cells HXw2.out; clear hbw2)
          | (go_at_call 8; (with_reducible refine (hR _).mono ?_); rintro e w3 ⟨rfl, hbw3⟩; have HBw3 := Aside0.mk (HBw2.out.trans (hbw3.mono HBw2.out.size)); have HXw3 := Aside0.mk (box_next HXw2.out hbw3); obtain ⟨cw3_0, cw3_1, cw3_2, cw3_3, cw3_4⟩ := box_cells HXw3.out; clear hbw3)
          | (go_at_call 9; (with_reducible refine (hW1 _).mono ?_); rintro e w4 ⟨rfl, hbw4⟩; have HBw4 := Aside0.mk (HBw3.out.trans (hbw4.mono HBw3.out.size)); have HXw4 := Aside0.mk (box_next HXw3.out hbw4); obtain ⟨cw4_0, cw4_1, cw4_2, cw4_3, cw4_4⟩ := box_cells HXw4.out; clear hbw4)
          | (go_at_call 10; (with_reducible refine (hW2 _).mono ?_); rintro e w5 ⟨rfl, hbw5⟩; have HBw5 := Aside0.mk (HBw4.out.trans (hbw5.mono HBw4.out.size)); have HXw5 := Aside0.mk (box_next HXw4.out hbw5); obtain ⟨cw5_0, cw5_1, cw5_2, cw5_3, cw5_4⟩ := box_cells HXw5.out; clear hbw5))
        refine wp_region_any (by kernel_rfl) ?_
        change wpAny _ _ _ _ _ _ _ (World.drew _)
        refine wpAny_take (i := 0) (v := ?v0_22) rfl (by kernel_rfl) (by kernel_rfl) (by kernel_rfl) (fun _ _ _ h => h) (Or.inl ⟨by rfl, ?y0_22⟩) ?_
        case y0_22 => intro w; go_simp; first | done | (with_reducible rfl)
        refine wpAny_take (i := 1) (v := ?v1_23) rfl (by kernel_rfl) (by kernel_rfl) (by kernel_rfl) (fun _ _ _ h => h) (Or.inl ⟨by rfl, ?y1_23⟩) ?_
        case y1_23 => intro w; go_simp; first | done | (with_reducible rfl)
        refine wpAny_take (i := 2) (v := ?v2_24) rfl (by kernel_rfl) (by kernel_rfl) (by kernel_rfl) (fun _ _ _ h => h) (Or.inl ⟨by rfl, ?y2_24⟩) ?_
        case y2_24 => intro w; go_simp; first | done | (with_reducible rfl)
        refine wpAny_take (i := 3) (v := ?v3_25) rfl (by kernel_rfl) (by kernel_rfl) (by kernel_rfl) (fun _ _ _ h => h) (Or.inl ⟨by rfl, ?y3_25⟩) ?_
        case y3_25 => intro w; go_simp; first | done | (with_reducible rfl)
        refine wpAny_ready (rs := [4, 5]) (by kernel_rfl) (by simp) ?_
        refine AllReady.cons rfl (fun K hK => ?_) (AllReady.cons rfl (fun K hK => ?_) AllReady.nil)
        · go_simp
          go_wp2_with ((with_reducible refine (eventSend_wp (a0_1) (a0_2) (a0_4) _).mono ?_); rintro e w6 ⟨rfl, hb6⟩; have HB6 := Aside0.mk (HBw5.out.drew.trans (hb6.mono HBw5.out.size)); have HX6 := Aside0.mk (box_next (W := w5.drew) HXw5.out hb6); obtain ⟨c6_0, c6_1, c6_2, c6_3, c6_4⟩ := box_cells HX6.out; clear hb6)
          refine wpAny_ready (rs := [5]) (by kernel_rfl) (by simp) ?_
          refine AllReady.cons rfl (fun K hK => ?_) AllReady.nil
          go_simp
          refine hK _ _ ?_
          clear hK K
          refine wpAny_take (i := 6) (v := ?v6_26) rfl (by kernel_rfl) (by kernel_rfl) (by kernel_rfl) (fun _ _ _ h => h) (Or.inl ⟨by rfl, ?y6_26⟩) ?_
          case y6_26 => intro w; go_simp; first | done | (with_reducible rfl)
          refine wpAny_take (i := 7) (v := ?v7_27) rfl (by kernel_rfl) (by kernel_rfl) (by kernel_rfl) (fun _ _ _ h => h) (Or.inl ⟨by rfl, ?y7_27⟩) ?_
          case y7_27 => intro w; go_simp; first | done | (with_reducible rfl)
          refine wpAny_take (i := 8) (v := ?v8_28) rfl (by kernel_rfl) (by kernel_rfl) (by kernel_rfl) (fun _ _ _ h => h) (Or.inl ⟨by rfl, ?y8_28⟩) ?_
          case y8_28 => intro w; go_simp; first | done | (with_reducible rfl)
          refine wpAny_ready (rs := [9]) (by kernel_rfl) (by simp) ?_
          refine AllReady.cons rfl (fun K hK => ?_) AllReady.nil
          go_simp
          go_wp2_with (go_at_call 11; refine (hL _).mono ?_; rintro e w7 ⟨rfl, hb7⟩; have HB7 := Aside0.mk hb7; clear hb7)
          refine wpAny_take (i := 10) (v := ?v10_29) rfl (by kernel_rfl) (by kernel_rfl) (by kernel_rfl) (fun _ _ _ h => h) (Or.inl ⟨by rfl, ?y10_29⟩) ?_
          case y10_29 => intro w; go_simp; first | done | (with_reducible rfl)
          refine wpAny_take (i := 11) (v := ?v11_30) rfl (by kernel_rfl) (by kernel_rfl) (by kernel_rfl) (fun _ _ _ h => h) (Or.inl ⟨by rfl, ?y11_30⟩) ?_
          case y11_30 => intro w; go_simp; first | done | (with_reducible rfl)
          refine wpAny_done (by kernel_rfl) ?_ _
          go_wp2
          go_ret
          exact ⟨rfl, HB6.out.trans (HB7.out.mono HB6.out.size)⟩
        · go_simp
          refine hK _ _ ?_
          clear hK K
          refine wpAny_ready (rs := [4]) (by kernel_rfl) (by simp) ?_
          refine AllReady.cons rfl (fun K hK => ?_) AllReady.nil
          go_simp
          go_wp2_with ((with_reducible refine (eventSend_wp (a0_1) (a0_2) (a0_4) _).mono ?_); rintro e w6 ⟨rfl, hb6⟩; have HB6 := Aside0.mk (HBw5.out.drew.trans (hb6.mono HBw5.out.size)); have HX6 := Aside0.mk (box_next (W := w5.drew) HXw5.out hb6); obtain ⟨c6_0, c6_1, c6_2, c6_3, c6_4⟩ := box_cells HX6.out; clear hb6)
          refine wpAny_take (i := 6) (v := ?v6_31) rfl (by kernel_rfl) (by kernel_rfl) (by kernel_rfl) (fun _ _ _ h => h) (Or.inl ⟨by rfl, ?y6_31⟩) ?_
          case y6_31 => intro w; go_simp; first | done | (with_reducible rfl)
          refine wpAny_take (i := 7) (v := ?v7_32) rfl (by kernel_rfl) (by kernel_rfl) (by kernel_rfl) (fun _ _ _ h => h) (Or.inl ⟨by rfl, ?y7_32⟩) ?_
          case y7_32 => intro w; go_simp; first | done | (with_reducible rfl)
          refine wpAny_take (i := 8) (v := ?v8_33) rfl (by kernel_rfl) (by kernel_rfl) (by kernel_rfl) (fun _ _ _ h => h) (Or.inl ⟨by rfl, ?y8_33⟩) ?_
          case y8_33 => intro w; go_simp; first | done | (with_reducible rfl)
          refine wpAny_ready (rs := [9]) (by kernel_rfl) (by simp) ?_
          refine AllReady.cons rfl (fun K hK => ?_) AllReady.nil
          go_simp
          go_wp2_with (go_at_call 11; refine (hL _).mono ?_; rintro e w7 ⟨rfl, hb7⟩; have HB7 := Aside0.mk hb7; clear hb7)
          refine wpAny_take (i := 10) (v := ?v10_34) rfl (by kernel_rfl) (by kernel_rfl) (by kernel_rfl) (fun _ _ _ h => h) (Or.inl ⟨by rfl, ?y10_34⟩) ?_
          case y10_34 => intro w; go_simp; first | done | (with_reducible rfl)
          refine wpAny_take (i := 11) (v := ?v11_35) rfl (by kernel_rfl) (by kernel_rfl) (by kernel_rfl) (fun _ _ _ h => h) (Or.inl ⟨by rfl, ?y11_35⟩) ?_
          case y11_35 => intro w; go_simp; first | done | (with_reducible rfl)
          refine wpAny_done (by kernel_rfl) ?_ _
          go_wp2
          go_ret
          exact ⟨rfl, HB6.out.trans (HB7.out.mono HB6.out.size)⟩
      · subst h
        have ht := h67 (by decide)
        have hte1 : (a0_4.toList == ([] : List UInt8)) = true := by rw [ht]; decide +kernel
        have hte2 : (([] : List UInt8) == a0_4.toList) = true := by rw [ht]; decide +kernel
        clear ht
        have hn := h1n (by decide)
        subst hn
        clear hop h1o h1n h6 h67
        have HBw0 := Aside0.mk ((Below.refl w.heap.size w).alloc (Nat.le_refl _) (.cells #[.int .i64 3, .int .i64 a0_1, .int .i64 a0_2, .int .i64 0, .string a0_4] 25))
        have HXw0 := Aside0.mk (World.alloc_heap_new w (.cells #[.int .i64 3, .int .i64 a0_1, .int .i64 a0_2, .int .i64 0, .string a0_4] 25))
        have hL := fun W => abutmentlaw44_lives.calls true W rfl
        have hW1 := fun W => act_Word.calls a1 (wordA a1) W rfl
        have hW2 := fun W => abutmentref44_Word.calls a1 (wordA a1) W (ref_word44 a1)
        have hO := fun W => act_Of_yes 1 (3) (a0_1) (a0_2) (0) (a0_4) W (by rw [right_f _ _ _ _ _ 1 (by omega), hr]) (by decide)
        have hR := fun W => act_Right.calls 1 (3) (a0_1) (a0_2) (0) (a0_4) true W (by rw [right_f _ _ _ _ _ 1 (by omega), hr])
        have hF := fun W => abutmentref44_Right.calls 4 (3) (a0_1) (a0_2) (0) (a0_4) true W (by rw [ref_right44 _ _ _ _ _ 4 (by omega), hr])
        clear hr
        unfold actV at hO
        rw [if_neg (by decide), if_neg (by decide), if_pos rfl] at hO
        go_enter Try.func3, Try.ntmps3
        go_wp2_with (first
          | (go_at_call 6; (with_reducible refine (hO _).mono ?_); rintro e w1 ⟨rfl, hbw1⟩; have HBw1 := Aside0.mk (HBw0.out.trans (hbw1.mono HBw0.out.size)); have HXw1 := Aside0.mk (box_next HXw0.out hbw1); obtain ⟨cw1_0, cw1_1, cw1_2, cw1_3, cw1_4⟩ := box_cells HXw1.out; clear hbw1)
          | (go_at_call 7; (with_reducible refine (hF _).mono ?_); rintro e w2 ⟨rfl, hbw2⟩; have HBw2 := Aside0.mk (HBw1.out.trans (hbw2.mono HBw1.out.size)); have HXw2 := Aside0.mk (box_next HXw1.out hbw2); obtain ⟨cw2_0, cw2_1, cw2_2, cw2_3, cw2_4⟩ := box_cells HXw2.out; clear hbw2)
          | (go_at_call 8; (with_reducible refine (hR _).mono ?_); rintro e w3 ⟨rfl, hbw3⟩; have HBw3 := Aside0.mk (HBw2.out.trans (hbw3.mono HBw2.out.size)); have HXw3 := Aside0.mk (box_next HXw2.out hbw3); obtain ⟨cw3_0, cw3_1, cw3_2, cw3_3, cw3_4⟩ := box_cells HXw3.out; clear hbw3)
          | (go_at_call 9; (with_reducible refine (hW1 _).mono ?_); rintro e w4 ⟨rfl, hbw4⟩; have HBw4 := Aside0.mk (HBw3.out.trans (hbw4.mono HBw3.out.size)); have HXw4 := Aside0.mk (box_next HXw3.out hbw4); obtain ⟨cw4_0, cw4_1, cw4_2, cw4_3, cw4_4⟩ := box_cells HXw4.out; clear hbw4)
          | (go_at_call 10; (with_reducible refine (hW2 _).mono ?_); rintro e w5 ⟨rfl, hbw5⟩; have HBw5 := Aside0.mk (HBw4.out.trans (hbw5.mono HBw4.out.size)); have HXw5 := Aside0.mk (box_next HXw4.out hbw5); obtain ⟨cw5_0, cw5_1, cw5_2, cw5_3, cw5_4⟩ := box_cells HXw5.out; clear hbw5))
        refine wp_region_any (by kernel_rfl) ?_
        change wpAny _ _ _ _ _ _ _ (World.drew _)
        refine wpAny_take (i := 0) (v := ?v0_36) rfl (by kernel_rfl) (by kernel_rfl) (by kernel_rfl) (fun _ _ _ h => h) (Or.inl ⟨by rfl, ?y0_36⟩) ?_
        case y0_36 => intro w; go_simp; first | done | (with_reducible rfl)
        refine wpAny_take (i := 1) (v := ?v1_37) rfl (by kernel_rfl) (by kernel_rfl) (by kernel_rfl) (fun _ _ _ h => h) (Or.inl ⟨by rfl, ?y1_37⟩) ?_
        case y1_37 => intro w; go_simp; first | done | (with_reducible rfl)
        refine wpAny_take (i := 2) (v := ?v2_38) rfl (by kernel_rfl) (by kernel_rfl) (by kernel_rfl) (fun _ _ _ h => h) (Or.inl ⟨by rfl, ?y2_38⟩) ?_
        case y2_38 => intro w; go_simp; first | done | (with_reducible rfl)
        refine wpAny_take (i := 3) (v := ?v3_39) rfl (by kernel_rfl) (by kernel_rfl) (by kernel_rfl) (fun _ _ _ h => h) (Or.inl ⟨by rfl, ?y3_39⟩) ?_
        case y3_39 => intro w; go_simp; first | done | (with_reducible rfl)
        refine wpAny_ready (rs := [4, 5]) (by kernel_rfl) (by simp) ?_
        refine AllReady.cons rfl (fun K hK => ?_) (AllReady.cons rfl (fun K hK => ?_) AllReady.nil)
        · go_simp
          go_wp2_with ((with_reducible refine (eventEnd_wp (a0_1) (a0_2) _).mono ?_); rintro e w6 ⟨rfl, hb6⟩; have HB6 := Aside0.mk (HBw5.out.drew.trans (hb6.mono HBw5.out.size)); have HX6 := Aside0.mk (box_next (W := w5.drew) HXw5.out hb6); obtain ⟨c6_0, c6_1, c6_2, c6_3, c6_4⟩ := box_cells HX6.out; clear hb6)
          refine wpAny_ready (rs := [5]) (by kernel_rfl) (by simp) ?_
          refine AllReady.cons rfl (fun K hK => ?_) AllReady.nil
          go_simp
          refine hK _ _ ?_
          clear hK K
          refine wpAny_take (i := 6) (v := ?v6_40) rfl (by kernel_rfl) (by kernel_rfl) (by kernel_rfl) (fun _ _ _ h => h) (Or.inl ⟨by rfl, ?y6_40⟩) ?_
          case y6_40 => intro w; go_simp; first | done | (with_reducible rfl)
          refine wpAny_take (i := 7) (v := ?v7_41) rfl (by kernel_rfl) (by kernel_rfl) (by kernel_rfl) (fun _ _ _ h => h) (Or.inl ⟨by rfl, ?y7_41⟩) ?_
          case y7_41 => intro w; go_simp; first | done | (with_reducible rfl)
          refine wpAny_take (i := 8) (v := ?v8_42) rfl (by kernel_rfl) (by kernel_rfl) (by kernel_rfl) (fun _ _ _ h => h) (Or.inl ⟨by rfl, ?y8_42⟩) ?_
          case y8_42 => intro w; go_simp; first | done | (with_reducible rfl)
          refine wpAny_ready (rs := [9]) (by kernel_rfl) (by simp) ?_
          refine AllReady.cons rfl (fun K hK => ?_) AllReady.nil
          go_simp
          go_wp2_with (go_at_call 11; refine (hL _).mono ?_; rintro e w7 ⟨rfl, hb7⟩; have HB7 := Aside0.mk hb7; clear hb7)
          refine wpAny_take (i := 10) (v := ?v10_43) rfl (by kernel_rfl) (by kernel_rfl) (by kernel_rfl) (fun _ _ _ h => h) (Or.inl ⟨by rfl, ?y10_43⟩) ?_
          case y10_43 => intro w; go_simp; first | done | (with_reducible rfl)
          refine wpAny_take (i := 11) (v := ?v11_44) rfl (by kernel_rfl) (by kernel_rfl) (by kernel_rfl) (fun _ _ _ h => h) (Or.inl ⟨by rfl, ?y11_44⟩) ?_
          case y11_44 => intro w; go_simp; first | done | (with_reducible rfl)
          refine wpAny_done (by kernel_rfl) ?_ _
          go_wp2
          go_ret
          exact ⟨rfl, HB6.out.trans (HB7.out.mono HB6.out.size)⟩
        · go_simp
          refine hK _ _ ?_
          clear hK K
          refine wpAny_ready (rs := [4]) (by kernel_rfl) (by simp) ?_
          refine AllReady.cons rfl (fun K hK => ?_) AllReady.nil
          go_simp
          go_wp2_with ((with_reducible refine (eventEnd_wp (a0_1) (a0_2) _).mono ?_); rintro e w6 ⟨rfl, hb6⟩; have HB6 := Aside0.mk (HBw5.out.drew.trans (hb6.mono HBw5.out.size)); have HX6 := Aside0.mk (box_next (W := w5.drew) HXw5.out hb6); obtain ⟨c6_0, c6_1, c6_2, c6_3, c6_4⟩ := box_cells HX6.out; clear hb6)
          refine wpAny_take (i := 6) (v := ?v6_45) rfl (by kernel_rfl) (by kernel_rfl) (by kernel_rfl) (fun _ _ _ h => h) (Or.inl ⟨by rfl, ?y6_45⟩) ?_
          case y6_45 => intro w; go_simp; first | done | (with_reducible rfl)
          refine wpAny_take (i := 7) (v := ?v7_46) rfl (by kernel_rfl) (by kernel_rfl) (by kernel_rfl) (fun _ _ _ h => h) (Or.inl ⟨by rfl, ?y7_46⟩) ?_
          case y7_46 => intro w; go_simp; first | done | (with_reducible rfl)
          refine wpAny_take (i := 8) (v := ?v8_47) rfl (by kernel_rfl) (by kernel_rfl) (by kernel_rfl) (fun _ _ _ h => h) (Or.inl ⟨by rfl, ?y8_47⟩) ?_
          case y8_47 => intro w; go_simp; first | done | (with_reducible rfl)
          refine wpAny_ready (rs := [9]) (by kernel_rfl) (by simp) ?_
          refine AllReady.cons rfl (fun K hK => ?_) AllReady.nil
          go_simp
          go_wp2_with (go_at_call 11; refine (hL _).mono ?_; rintro e w7 ⟨rfl, hb7⟩; have HB7 := Aside0.mk hb7; clear hb7)
          refine wpAny_take (i := 10) (v := ?v10_48) rfl (by kernel_rfl) (by kernel_rfl) (by kernel_rfl) (fun _ _ _ h => h) (Or.inl ⟨by rfl, ?y10_48⟩) ?_
          case y10_48 => intro w; go_simp; first | done | (with_reducible rfl)
          refine wpAny_take (i := 11) (v := ?v11_49) rfl (by kernel_rfl) (by kernel_rfl) (by kernel_rfl) (fun _ _ _ h => h) (Or.inl ⟨by rfl, ?y11_49⟩) ?_
          case y11_49 => intro w; go_simp; first | done | (with_reducible rfl)
          refine wpAny_done (by kernel_rfl) ?_ _
          go_wp2
          go_ret
          exact ⟨rfl, HB6.out.trans (HB7.out.mono HB6.out.size)⟩
      · subst h
        have ht := h67 (by decide)
        have hte1 : (a0_4.toList == ([] : List UInt8)) = true := by rw [ht]; decide +kernel
        have hte2 : (([] : List UInt8) == a0_4.toList) = true := by rw [ht]; decide +kernel
        clear ht
        clear hop h1o h1n h6 h67
        have HBw0 := Aside0.mk ((Below.refl w.heap.size w).alloc (Nat.le_refl _) (.cells #[.int .i64 4, .int .i64 a0_1, .int .i64 a0_2, .int .i64 a0_3, .string a0_4] 25))
        have HXw0 := Aside0.mk (World.alloc_heap_new w (.cells #[.int .i64 4, .int .i64 a0_1, .int .i64 a0_2, .int .i64 a0_3, .string a0_4] 25))
        have hL := fun W => abutmentlaw44_lives.calls true W rfl
        have hW1 := fun W => act_Word.calls a1 (wordA a1) W rfl
        have hW2 := fun W => abutmentref44_Word.calls a1 (wordA a1) W (ref_word44 a1)
        have hO := fun W => act_Of_yes 1 (4) (a0_1) (a0_2) (a0_3) (a0_4) W (by rw [right_f _ _ _ _ _ 1 (by omega), hr]) (by decide)
        have hR := fun W => act_Right.calls 1 (4) (a0_1) (a0_2) (a0_3) (a0_4) true W (by rw [right_f _ _ _ _ _ 1 (by omega), hr])
        have hF := fun W => abutmentref44_Right.calls 4 (4) (a0_1) (a0_2) (a0_3) (a0_4) true W (by rw [ref_right44 _ _ _ _ _ 4 (by omega), hr])
        clear hr
        unfold actV at hO
        rw [if_neg (by decide), if_neg (by decide), if_neg (by decide), if_pos rfl] at hO
        go_enter Try.func3, Try.ntmps3
        go_wp2_with (first
          | (go_at_call 6; (with_reducible refine (hO _).mono ?_); rintro e w1 ⟨rfl, hbw1⟩; have HBw1 := Aside0.mk (HBw0.out.trans (hbw1.mono HBw0.out.size)); have HXw1 := Aside0.mk (box_next HXw0.out hbw1); obtain ⟨cw1_0, cw1_1, cw1_2, cw1_3, cw1_4⟩ := box_cells HXw1.out; clear hbw1)
          | (go_at_call 7; (with_reducible refine (hF _).mono ?_); rintro e w2 ⟨rfl, hbw2⟩; have HBw2 := Aside0.mk (HBw1.out.trans (hbw2.mono HBw1.out.size)); have HXw2 := Aside0.mk (box_next HXw1.out hbw2); obtain ⟨cw2_0, cw2_1, cw2_2, cw2_3, cw2_4⟩ := box_cells HXw2.out; clear hbw2)
          | (go_at_call 8; (with_reducible refine (hR _).mono ?_); rintro e w3 ⟨rfl, hbw3⟩; have HBw3 := Aside0.mk (HBw2.out.trans (hbw3.mono HBw2.out.size)); have HXw3 := Aside0.mk (box_next HXw2.out hbw3); obtain ⟨cw3_0, cw3_1, cw3_2, cw3_3, cw3_4⟩ := box_cells HXw3.out; clear hbw3)
          | (go_at_call 9; (with_reducible refine (hW1 _).mono ?_); rintro e w4 ⟨rfl, hbw4⟩; have HBw4 := Aside0.mk (HBw3.out.trans (hbw4.mono HBw3.out.size)); have HXw4 := Aside0.mk (box_next HXw3.out hbw4); obtain ⟨cw4_0, cw4_1, cw4_2, cw4_3, cw4_4⟩ := box_cells HXw4.out; clear hbw4)
          | (go_at_call 10; (with_reducible refine (hW2 _).mono ?_); rintro e w5 ⟨rfl, hbw5⟩; have HBw5 := Aside0.mk (HBw4.out.trans (hbw5.mono HBw4.out.size)); have HXw5 := Aside0.mk (box_next HXw4.out hbw5); obtain ⟨cw5_0, cw5_1, cw5_2, cw5_3, cw5_4⟩ := box_cells HXw5.out; clear hbw5))
        refine wp_region_any (by kernel_rfl) ?_
        change wpAny _ _ _ _ _ _ _ (World.drew _)
        refine wpAny_take (i := 0) (v := ?v0_50) rfl (by kernel_rfl) (by kernel_rfl) (by kernel_rfl) (fun _ _ _ h => h) (Or.inl ⟨by rfl, ?y0_50⟩) ?_
        case y0_50 => intro w; go_simp; first | done | (with_reducible rfl)
        refine wpAny_take (i := 1) (v := ?v1_51) rfl (by kernel_rfl) (by kernel_rfl) (by kernel_rfl) (fun _ _ _ h => h) (Or.inl ⟨by rfl, ?y1_51⟩) ?_
        case y1_51 => intro w; go_simp; first | done | (with_reducible rfl)
        refine wpAny_take (i := 2) (v := ?v2_52) rfl (by kernel_rfl) (by kernel_rfl) (by kernel_rfl) (fun _ _ _ h => h) (Or.inl ⟨by rfl, ?y2_52⟩) ?_
        case y2_52 => intro w; go_simp; first | done | (with_reducible rfl)
        refine wpAny_take (i := 3) (v := ?v3_53) rfl (by kernel_rfl) (by kernel_rfl) (by kernel_rfl) (fun _ _ _ h => h) (Or.inl ⟨by rfl, ?y3_53⟩) ?_
        case y3_53 => intro w; go_simp; first | done | (with_reducible rfl)
        refine wpAny_ready (rs := [4, 5]) (by kernel_rfl) (by simp) ?_
        refine AllReady.cons rfl (fun K hK => ?_) (AllReady.cons rfl (fun K hK => ?_) AllReady.nil)
        · go_simp
          go_wp2_with ((with_reducible refine (eventRead_wp (a0_1) (a0_2) (a0_3) _).mono ?_); rintro e w6 ⟨rfl, hb6⟩; have HB6 := Aside0.mk (HBw5.out.drew.trans (hb6.mono HBw5.out.size)); have HX6 := Aside0.mk (box_next (W := w5.drew) HXw5.out hb6); obtain ⟨c6_0, c6_1, c6_2, c6_3, c6_4⟩ := box_cells HX6.out; clear hb6)
          refine wpAny_ready (rs := [5]) (by kernel_rfl) (by simp) ?_
          refine AllReady.cons rfl (fun K hK => ?_) AllReady.nil
          go_simp
          refine hK _ _ ?_
          clear hK K
          refine wpAny_take (i := 6) (v := ?v6_54) rfl (by kernel_rfl) (by kernel_rfl) (by kernel_rfl) (fun _ _ _ h => h) (Or.inl ⟨by rfl, ?y6_54⟩) ?_
          case y6_54 => intro w; go_simp; first | done | (with_reducible rfl)
          refine wpAny_take (i := 7) (v := ?v7_55) rfl (by kernel_rfl) (by kernel_rfl) (by kernel_rfl) (fun _ _ _ h => h) (Or.inl ⟨by rfl, ?y7_55⟩) ?_
          case y7_55 => intro w; go_simp; first | done | (with_reducible rfl)
          refine wpAny_take (i := 8) (v := ?v8_56) rfl (by kernel_rfl) (by kernel_rfl) (by kernel_rfl) (fun _ _ _ h => h) (Or.inl ⟨by rfl, ?y8_56⟩) ?_
          case y8_56 => intro w; go_simp; first | done | (with_reducible rfl)
          refine wpAny_ready (rs := [9]) (by kernel_rfl) (by simp) ?_
          refine AllReady.cons rfl (fun K hK => ?_) AllReady.nil
          go_simp
          go_wp2_with (go_at_call 11; refine (hL _).mono ?_; rintro e w7 ⟨rfl, hb7⟩; have HB7 := Aside0.mk hb7; clear hb7)
          refine wpAny_take (i := 10) (v := ?v10_57) rfl (by kernel_rfl) (by kernel_rfl) (by kernel_rfl) (fun _ _ _ h => h) (Or.inl ⟨by rfl, ?y10_57⟩) ?_
          case y10_57 => intro w; go_simp; first | done | (with_reducible rfl)
          refine wpAny_take (i := 11) (v := ?v11_58) rfl (by kernel_rfl) (by kernel_rfl) (by kernel_rfl) (fun _ _ _ h => h) (Or.inl ⟨by rfl, ?y11_58⟩) ?_
          case y11_58 => intro w; go_simp; first | done | (with_reducible rfl)
          refine wpAny_done (by kernel_rfl) ?_ _
          go_wp2
          go_ret
          exact ⟨rfl, HB6.out.trans (HB7.out.mono HB6.out.size)⟩
        · go_simp
          refine hK _ _ ?_
          clear hK K
          refine wpAny_ready (rs := [4]) (by kernel_rfl) (by simp) ?_
          refine AllReady.cons rfl (fun K hK => ?_) AllReady.nil
          go_simp
          go_wp2_with ((with_reducible refine (eventRead_wp (a0_1) (a0_2) (a0_3) _).mono ?_); rintro e w6 ⟨rfl, hb6⟩; have HB6 := Aside0.mk (HBw5.out.drew.trans (hb6.mono HBw5.out.size)); have HX6 := Aside0.mk (box_next (W := w5.drew) HXw5.out hb6); obtain ⟨c6_0, c6_1, c6_2, c6_3, c6_4⟩ := box_cells HX6.out; clear hb6)
          refine wpAny_take (i := 6) (v := ?v6_59) rfl (by kernel_rfl) (by kernel_rfl) (by kernel_rfl) (fun _ _ _ h => h) (Or.inl ⟨by rfl, ?y6_59⟩) ?_
          case y6_59 => intro w; go_simp; first | done | (with_reducible rfl)
          refine wpAny_take (i := 7) (v := ?v7_60) rfl (by kernel_rfl) (by kernel_rfl) (by kernel_rfl) (fun _ _ _ h => h) (Or.inl ⟨by rfl, ?y7_60⟩) ?_
          case y7_60 => intro w; go_simp; first | done | (with_reducible rfl)
          refine wpAny_take (i := 8) (v := ?v8_61) rfl (by kernel_rfl) (by kernel_rfl) (by kernel_rfl) (fun _ _ _ h => h) (Or.inl ⟨by rfl, ?y8_61⟩) ?_
          case y8_61 => intro w; go_simp; first | done | (with_reducible rfl)
          refine wpAny_ready (rs := [9]) (by kernel_rfl) (by simp) ?_
          refine AllReady.cons rfl (fun K hK => ?_) AllReady.nil
          go_simp
          go_wp2_with (go_at_call 11; refine (hL _).mono ?_; rintro e w7 ⟨rfl, hb7⟩; have HB7 := Aside0.mk hb7; clear hb7)
          refine wpAny_take (i := 10) (v := ?v10_62) rfl (by kernel_rfl) (by kernel_rfl) (by kernel_rfl) (fun _ _ _ h => h) (Or.inl ⟨by rfl, ?y10_62⟩) ?_
          case y10_62 => intro w; go_simp; first | done | (with_reducible rfl)
          refine wpAny_take (i := 11) (v := ?v11_63) rfl (by kernel_rfl) (by kernel_rfl) (by kernel_rfl) (fun _ _ _ h => h) (Or.inl ⟨by rfl, ?y11_63⟩) ?_
          case y11_63 => intro w; go_simp; first | done | (with_reducible rfl)
          refine wpAny_done (by kernel_rfl) ?_ _
          go_wp2
          go_ret
          exact ⟨rfl, HB6.out.trans (HB7.out.mono HB6.out.size)⟩
      · subst h
        have ht := h67 (by decide)
        have hte1 : (a0_4.toList == ([] : List UInt8)) = true := by rw [ht]; decide +kernel
        have hte2 : (([] : List UInt8) == a0_4.toList) = true := by rw [ht]; decide +kernel
        clear ht
        clear hop h1o h1n h6 h67
        have HBw0 := Aside0.mk ((Below.refl w.heap.size w).alloc (Nat.le_refl _) (.cells #[.int .i64 5, .int .i64 a0_1, .int .i64 a0_2, .int .i64 a0_3, .string a0_4] 25))
        have HXw0 := Aside0.mk (World.alloc_heap_new w (.cells #[.int .i64 5, .int .i64 a0_1, .int .i64 a0_2, .int .i64 a0_3, .string a0_4] 25))
        have hL := fun W => abutmentlaw44_lives.calls true W rfl
        have hW1 := fun W => act_Word.calls a1 (wordA a1) W rfl
        have hW2 := fun W => abutmentref44_Word.calls a1 (wordA a1) W (ref_word44 a1)
        have hO := fun W => act_Of_yes 1 (5) (a0_1) (a0_2) (a0_3) (a0_4) W (by rw [right_f _ _ _ _ _ 1 (by omega), hr]) (by decide)
        have hR := fun W => act_Right.calls 1 (5) (a0_1) (a0_2) (a0_3) (a0_4) true W (by rw [right_f _ _ _ _ _ 1 (by omega), hr])
        have hF := fun W => abutmentref44_Right.calls 4 (5) (a0_1) (a0_2) (a0_3) (a0_4) true W (by rw [ref_right44 _ _ _ _ _ 4 (by omega), hr])
        clear hr
        unfold actV at hO
        rw [if_neg (by decide), if_neg (by decide), if_neg (by decide), if_neg (by decide), if_pos rfl] at hO
        go_enter Try.func3, Try.ntmps3
        go_wp2_with (first
          | (go_at_call 6; (with_reducible refine (hO _).mono ?_); rintro e w1 ⟨rfl, hbw1⟩; have HBw1 := Aside0.mk (HBw0.out.trans (hbw1.mono HBw0.out.size)); have HXw1 := Aside0.mk (box_next HXw0.out hbw1); obtain ⟨cw1_0, cw1_1, cw1_2, cw1_3, cw1_4⟩ := box_cells HXw1.out; clear hbw1)
          | (go_at_call 7; (with_reducible refine (hF _).mono ?_); rintro e w2 ⟨rfl, hbw2⟩; have HBw2 := Aside0.mk (HBw1.out.trans (hbw2.mono HBw1.out.size)); have HXw2 := Aside0.mk (box_next HXw1.out hbw2); obtain ⟨cw2_0, cw2_1, cw2_2, cw2_3, cw2_4⟩ := box_cells HXw2.out; clear hbw2)
          | (go_at_call 8; (with_reducible refine (hR _).mono ?_); rintro e w3 ⟨rfl, hbw3⟩; have HBw3 := Aside0.mk (HBw2.out.trans (hbw3.mono HBw2.out.size)); have HXw3 := Aside0.mk (box_next HXw2.out hbw3); obtain ⟨cw3_0, cw3_1, cw3_2, cw3_3, cw3_4⟩ := box_cells HXw3.out; clear hbw3)
          | (go_at_call 9; (with_reducible refine (hW1 _).mono ?_); rintro e w4 ⟨rfl, hbw4⟩; have HBw4 := Aside0.mk (HBw3.out.trans (hbw4.mono HBw3.out.size)); have HXw4 := Aside0.mk (box_next HXw3.out hbw4); obtain ⟨cw4_0, cw4_1, cw4_2, cw4_3, cw4_4⟩ := box_cells HXw4.out; clear hbw4)
          | (go_at_call 10; (with_reducible refine (hW2 _).mono ?_); rintro e w5 ⟨rfl, hbw5⟩; have HBw5 := Aside0.mk (HBw4.out.trans (hbw5.mono HBw4.out.size)); have HXw5 := Aside0.mk (box_next HXw4.out hbw5); obtain ⟨cw5_0, cw5_1, cw5_2, cw5_3, cw5_4⟩ := box_cells HXw5.out; clear hbw5))
        refine wp_region_any (by kernel_rfl) ?_
        change wpAny _ _ _ _ _ _ _ (World.drew _)
        refine wpAny_take (i := 0) (v := ?v0_64) rfl (by kernel_rfl) (by kernel_rfl) (by kernel_rfl) (fun _ _ _ h => h) (Or.inl ⟨by rfl, ?y0_64⟩) ?_
        case y0_64 => intro w; go_simp; first | done | (with_reducible rfl)
        refine wpAny_take (i := 1) (v := ?v1_65) rfl (by kernel_rfl) (by kernel_rfl) (by kernel_rfl) (fun _ _ _ h => h) (Or.inl ⟨by rfl, ?y1_65⟩) ?_
        case y1_65 => intro w; go_simp; first | done | (with_reducible rfl)
        refine wpAny_take (i := 2) (v := ?v2_66) rfl (by kernel_rfl) (by kernel_rfl) (by kernel_rfl) (fun _ _ _ h => h) (Or.inl ⟨by rfl, ?y2_66⟩) ?_
        case y2_66 => intro w; go_simp; first | done | (with_reducible rfl)
        refine wpAny_take (i := 3) (v := ?v3_67) rfl (by kernel_rfl) (by kernel_rfl) (by kernel_rfl) (fun _ _ _ h => h) (Or.inl ⟨by rfl, ?y3_67⟩) ?_
        case y3_67 => intro w; go_simp; first | done | (with_reducible rfl)
        refine wpAny_ready (rs := [4, 5]) (by kernel_rfl) (by simp) ?_
        refine AllReady.cons rfl (fun K hK => ?_) (AllReady.cons rfl (fun K hK => ?_) AllReady.nil)
        · go_simp
          go_wp2_with ((with_reducible refine (eventGrant_wp (a0_1) (a0_2) (a0_3) _).mono ?_); rintro e w6 ⟨rfl, hb6⟩; have HB6 := Aside0.mk (HBw5.out.drew.trans (hb6.mono HBw5.out.size)); have HX6 := Aside0.mk (box_next (W := w5.drew) HXw5.out hb6); obtain ⟨c6_0, c6_1, c6_2, c6_3, c6_4⟩ := box_cells HX6.out; clear hb6)
          refine wpAny_ready (rs := [5]) (by kernel_rfl) (by simp) ?_
          refine AllReady.cons rfl (fun K hK => ?_) AllReady.nil
          go_simp
          refine hK _ _ ?_
          clear hK K
          refine wpAny_take (i := 6) (v := ?v6_68) rfl (by kernel_rfl) (by kernel_rfl) (by kernel_rfl) (fun _ _ _ h => h) (Or.inl ⟨by rfl, ?y6_68⟩) ?_
          case y6_68 => intro w; go_simp; first | done | (with_reducible rfl)
          refine wpAny_take (i := 7) (v := ?v7_69) rfl (by kernel_rfl) (by kernel_rfl) (by kernel_rfl) (fun _ _ _ h => h) (Or.inl ⟨by rfl, ?y7_69⟩) ?_
          case y7_69 => intro w; go_simp; first | done | (with_reducible rfl)
          refine wpAny_take (i := 8) (v := ?v8_70) rfl (by kernel_rfl) (by kernel_rfl) (by kernel_rfl) (fun _ _ _ h => h) (Or.inl ⟨by rfl, ?y8_70⟩) ?_
          case y8_70 => intro w; go_simp; first | done | (with_reducible rfl)
          refine wpAny_ready (rs := [9]) (by kernel_rfl) (by simp) ?_
          refine AllReady.cons rfl (fun K hK => ?_) AllReady.nil
          go_simp
          go_wp2_with (go_at_call 11; refine (hL _).mono ?_; rintro e w7 ⟨rfl, hb7⟩; have HB7 := Aside0.mk hb7; clear hb7)
          refine wpAny_take (i := 10) (v := ?v10_71) rfl (by kernel_rfl) (by kernel_rfl) (by kernel_rfl) (fun _ _ _ h => h) (Or.inl ⟨by rfl, ?y10_71⟩) ?_
          case y10_71 => intro w; go_simp; first | done | (with_reducible rfl)
          refine wpAny_take (i := 11) (v := ?v11_72) rfl (by kernel_rfl) (by kernel_rfl) (by kernel_rfl) (fun _ _ _ h => h) (Or.inl ⟨by rfl, ?y11_72⟩) ?_
          case y11_72 => intro w; go_simp; first | done | (with_reducible rfl)
          refine wpAny_done (by kernel_rfl) ?_ _
          go_wp2
          go_ret
          exact ⟨rfl, HB6.out.trans (HB7.out.mono HB6.out.size)⟩
        · go_simp
          refine hK _ _ ?_
          clear hK K
          refine wpAny_ready (rs := [4]) (by kernel_rfl) (by simp) ?_
          refine AllReady.cons rfl (fun K hK => ?_) AllReady.nil
          go_simp
          go_wp2_with ((with_reducible refine (eventGrant_wp (a0_1) (a0_2) (a0_3) _).mono ?_); rintro e w6 ⟨rfl, hb6⟩; have HB6 := Aside0.mk (HBw5.out.drew.trans (hb6.mono HBw5.out.size)); have HX6 := Aside0.mk (box_next (W := w5.drew) HXw5.out hb6); obtain ⟨c6_0, c6_1, c6_2, c6_3, c6_4⟩ := box_cells HX6.out; clear hb6)
          refine wpAny_take (i := 6) (v := ?v6_73) rfl (by kernel_rfl) (by kernel_rfl) (by kernel_rfl) (fun _ _ _ h => h) (Or.inl ⟨by rfl, ?y6_73⟩) ?_
          case y6_73 => intro w; go_simp; first | done | (with_reducible rfl)
          refine wpAny_take (i := 7) (v := ?v7_74) rfl (by kernel_rfl) (by kernel_rfl) (by kernel_rfl) (fun _ _ _ h => h) (Or.inl ⟨by rfl, ?y7_74⟩) ?_
          case y7_74 => intro w; go_simp; first | done | (with_reducible rfl)
          refine wpAny_take (i := 8) (v := ?v8_75) rfl (by kernel_rfl) (by kernel_rfl) (by kernel_rfl) (fun _ _ _ h => h) (Or.inl ⟨by rfl, ?y8_75⟩) ?_
          case y8_75 => intro w; go_simp; first | done | (with_reducible rfl)
          refine wpAny_ready (rs := [9]) (by kernel_rfl) (by simp) ?_
          refine AllReady.cons rfl (fun K hK => ?_) AllReady.nil
          go_simp
          go_wp2_with (go_at_call 11; refine (hL _).mono ?_; rintro e w7 ⟨rfl, hb7⟩; have HB7 := Aside0.mk hb7; clear hb7)
          refine wpAny_take (i := 10) (v := ?v10_76) rfl (by kernel_rfl) (by kernel_rfl) (by kernel_rfl) (fun _ _ _ h => h) (Or.inl ⟨by rfl, ?y10_76⟩) ?_
          case y10_76 => intro w; go_simp; first | done | (with_reducible rfl)
          refine wpAny_take (i := 11) (v := ?v11_77) rfl (by kernel_rfl) (by kernel_rfl) (by kernel_rfl) (fun _ _ _ h => h) (Or.inl ⟨by rfl, ?y11_77⟩) ?_
          case y11_77 => intro w; go_simp; first | done | (with_reducible rfl)
          refine wpAny_done (by kernel_rfl) ?_ _
          go_wp2
          go_ret
          exact ⟨rfl, HB6.out.trans (HB7.out.mono HB6.out.size)⟩
      · subst h
        have ht := h67 (by decide)
        have hte1 : (a0_4.toList == ([] : List UInt8)) = true := by rw [ht]; decide +kernel
        have hte2 : (([] : List UInt8) == a0_4.toList) = true := by rw [ht]; decide +kernel
        clear ht
        obtain ⟨hc, ho⟩ := h6 rfl
        subst hc ho
        clear hop h1o h1n h6 h67
        have HBw0 := Aside0.mk ((Below.refl w.heap.size w).alloc (Nat.le_refl _) (.cells #[.int .i64 6, .int .i64 0, .int .i64 0, .int .i64 a0_3, .string a0_4] 25))
        have HXw0 := Aside0.mk (World.alloc_heap_new w (.cells #[.int .i64 6, .int .i64 0, .int .i64 0, .int .i64 a0_3, .string a0_4] 25))
        have hL := fun W => abutmentlaw44_lives.calls true W rfl
        have hW1 := fun W => act_Word.calls a1 (wordA a1) W rfl
        have hW2 := fun W => abutmentref44_Word.calls a1 (wordA a1) W (ref_word44 a1)
        have hO := fun W => act_Of_yes 1 (6) (0) (0) (a0_3) (a0_4) W (by rw [right_f _ _ _ _ _ 1 (by omega), hr]) (by decide)
        have hR := fun W => act_Right.calls 1 (6) (0) (0) (a0_3) (a0_4) true W (by rw [right_f _ _ _ _ _ 1 (by omega), hr])
        have hF := fun W => abutmentref44_Right.calls 4 (6) (0) (0) (a0_3) (a0_4) true W (by rw [ref_right44 _ _ _ _ _ 4 (by omega), hr])
        clear hr
        unfold actV at hO
        rw [if_neg (by decide), if_neg (by decide), if_neg (by decide), if_neg (by decide), if_neg (by decide), if_pos rfl] at hO
        go_enter Try.func3, Try.ntmps3
        go_wp2_with (first
          | (go_at_call 6; (with_reducible refine (hO _).mono ?_); rintro e w1 ⟨rfl, hbw1⟩; have HBw1 := Aside0.mk (HBw0.out.trans (hbw1.mono HBw0.out.size)); have HXw1 := Aside0.mk (box_next HXw0.out hbw1); obtain ⟨cw1_0, cw1_1, cw1_2, cw1_3, cw1_4⟩ := box_cells HXw1.out; clear hbw1)
          | (go_at_call 7; (with_reducible refine (hF _).mono ?_); rintro e w2 ⟨rfl, hbw2⟩; have HBw2 := Aside0.mk (HBw1.out.trans (hbw2.mono HBw1.out.size)); have HXw2 := Aside0.mk (box_next HXw1.out hbw2); obtain ⟨cw2_0, cw2_1, cw2_2, cw2_3, cw2_4⟩ := box_cells HXw2.out; clear hbw2)
          | (go_at_call 8; (with_reducible refine (hR _).mono ?_); rintro e w3 ⟨rfl, hbw3⟩; have HBw3 := Aside0.mk (HBw2.out.trans (hbw3.mono HBw2.out.size)); have HXw3 := Aside0.mk (box_next HXw2.out hbw3); obtain ⟨cw3_0, cw3_1, cw3_2, cw3_3, cw3_4⟩ := box_cells HXw3.out; clear hbw3)
          | (go_at_call 9; (with_reducible refine (hW1 _).mono ?_); rintro e w4 ⟨rfl, hbw4⟩; have HBw4 := Aside0.mk (HBw3.out.trans (hbw4.mono HBw3.out.size)); have HXw4 := Aside0.mk (box_next HXw3.out hbw4); obtain ⟨cw4_0, cw4_1, cw4_2, cw4_3, cw4_4⟩ := box_cells HXw4.out; clear hbw4)
          | (go_at_call 10; (with_reducible refine (hW2 _).mono ?_); rintro e w5 ⟨rfl, hbw5⟩; have HBw5 := Aside0.mk (HBw4.out.trans (hbw5.mono HBw4.out.size)); have HXw5 := Aside0.mk (box_next HXw4.out hbw5); obtain ⟨cw5_0, cw5_1, cw5_2, cw5_3, cw5_4⟩ := box_cells HXw5.out; clear hbw5))
        refine wp_region_any (by kernel_rfl) ?_
        change wpAny _ _ _ _ _ _ _ (World.drew _)
        refine wpAny_take (i := 0) (v := ?v0_78) rfl (by kernel_rfl) (by kernel_rfl) (by kernel_rfl) (fun _ _ _ h => h) (Or.inl ⟨by rfl, ?y0_78⟩) ?_
        case y0_78 => intro w; go_simp; first | done | (with_reducible rfl)
        refine wpAny_take (i := 1) (v := ?v1_79) rfl (by kernel_rfl) (by kernel_rfl) (by kernel_rfl) (fun _ _ _ h => h) (Or.inl ⟨by rfl, ?y1_79⟩) ?_
        case y1_79 => intro w; go_simp; first | done | (with_reducible rfl)
        refine wpAny_take (i := 2) (v := ?v2_80) rfl (by kernel_rfl) (by kernel_rfl) (by kernel_rfl) (fun _ _ _ h => h) (Or.inl ⟨by rfl, ?y2_80⟩) ?_
        case y2_80 => intro w; go_simp; first | done | (with_reducible rfl)
        refine wpAny_take (i := 3) (v := ?v3_81) rfl (by kernel_rfl) (by kernel_rfl) (by kernel_rfl) (fun _ _ _ h => h) (Or.inl ⟨by rfl, ?y3_81⟩) ?_
        case y3_81 => intro w; go_simp; first | done | (with_reducible rfl)
        refine wpAny_ready (rs := [4, 5]) (by kernel_rfl) (by simp) ?_
        refine AllReady.cons rfl (fun K hK => ?_) (AllReady.cons rfl (fun K hK => ?_) AllReady.nil)
        · go_simp
          go_wp2_with ((with_reducible refine (eventTick_wp (a0_3) _).mono ?_); rintro e w6 ⟨rfl, hb6⟩; have HB6 := Aside0.mk (HBw5.out.drew.trans (hb6.mono HBw5.out.size)); have HX6 := Aside0.mk (box_next (W := w5.drew) HXw5.out hb6); obtain ⟨c6_0, c6_1, c6_2, c6_3, c6_4⟩ := box_cells HX6.out; clear hb6)
          refine wpAny_ready (rs := [5]) (by kernel_rfl) (by simp) ?_
          refine AllReady.cons rfl (fun K hK => ?_) AllReady.nil
          go_simp
          refine hK _ _ ?_
          clear hK K
          refine wpAny_take (i := 6) (v := ?v6_82) rfl (by kernel_rfl) (by kernel_rfl) (by kernel_rfl) (fun _ _ _ h => h) (Or.inl ⟨by rfl, ?y6_82⟩) ?_
          case y6_82 => intro w; go_simp; first | done | (with_reducible rfl)
          refine wpAny_take (i := 7) (v := ?v7_83) rfl (by kernel_rfl) (by kernel_rfl) (by kernel_rfl) (fun _ _ _ h => h) (Or.inl ⟨by rfl, ?y7_83⟩) ?_
          case y7_83 => intro w; go_simp; first | done | (with_reducible rfl)
          refine wpAny_take (i := 8) (v := ?v8_84) rfl (by kernel_rfl) (by kernel_rfl) (by kernel_rfl) (fun _ _ _ h => h) (Or.inl ⟨by rfl, ?y8_84⟩) ?_
          case y8_84 => intro w; go_simp; first | done | (with_reducible rfl)
          refine wpAny_ready (rs := [9]) (by kernel_rfl) (by simp) ?_
          refine AllReady.cons rfl (fun K hK => ?_) AllReady.nil
          go_simp
          go_wp2_with (go_at_call 11; refine (hL _).mono ?_; rintro e w7 ⟨rfl, hb7⟩; have HB7 := Aside0.mk hb7; clear hb7)
          refine wpAny_take (i := 10) (v := ?v10_85) rfl (by kernel_rfl) (by kernel_rfl) (by kernel_rfl) (fun _ _ _ h => h) (Or.inl ⟨by rfl, ?y10_85⟩) ?_
          case y10_85 => intro w; go_simp; first | done | (with_reducible rfl)
          refine wpAny_take (i := 11) (v := ?v11_86) rfl (by kernel_rfl) (by kernel_rfl) (by kernel_rfl) (fun _ _ _ h => h) (Or.inl ⟨by rfl, ?y11_86⟩) ?_
          case y11_86 => intro w; go_simp; first | done | (with_reducible rfl)
          refine wpAny_done (by kernel_rfl) ?_ _
          go_wp2
          go_ret
          exact ⟨rfl, HB6.out.trans (HB7.out.mono HB6.out.size)⟩
        · go_simp
          refine hK _ _ ?_
          clear hK K
          refine wpAny_ready (rs := [4]) (by kernel_rfl) (by simp) ?_
          refine AllReady.cons rfl (fun K hK => ?_) AllReady.nil
          go_simp
          go_wp2_with ((with_reducible refine (eventTick_wp (a0_3) _).mono ?_); rintro e w6 ⟨rfl, hb6⟩; have HB6 := Aside0.mk (HBw5.out.drew.trans (hb6.mono HBw5.out.size)); have HX6 := Aside0.mk (box_next (W := w5.drew) HXw5.out hb6); obtain ⟨c6_0, c6_1, c6_2, c6_3, c6_4⟩ := box_cells HX6.out; clear hb6)
          refine wpAny_take (i := 6) (v := ?v6_87) rfl (by kernel_rfl) (by kernel_rfl) (by kernel_rfl) (fun _ _ _ h => h) (Or.inl ⟨by rfl, ?y6_87⟩) ?_
          case y6_87 => intro w; go_simp; first | done | (with_reducible rfl)
          refine wpAny_take (i := 7) (v := ?v7_88) rfl (by kernel_rfl) (by kernel_rfl) (by kernel_rfl) (fun _ _ _ h => h) (Or.inl ⟨by rfl, ?y7_88⟩) ?_
          case y7_88 => intro w; go_simp; first | done | (with_reducible rfl)
          refine wpAny_take (i := 8) (v := ?v8_89) rfl (by kernel_rfl) (by kernel_rfl) (by kernel_rfl) (fun _ _ _ h => h) (Or.inl ⟨by rfl, ?y8_89⟩) ?_
          case y8_89 => intro w; go_simp; first | done | (with_reducible rfl)
          refine wpAny_ready (rs := [9]) (by kernel_rfl) (by simp) ?_
          refine AllReady.cons rfl (fun K hK => ?_) AllReady.nil
          go_simp
          go_wp2_with (go_at_call 11; refine (hL _).mono ?_; rintro e w7 ⟨rfl, hb7⟩; have HB7 := Aside0.mk hb7; clear hb7)
          refine wpAny_take (i := 10) (v := ?v10_90) rfl (by kernel_rfl) (by kernel_rfl) (by kernel_rfl) (fun _ _ _ h => h) (Or.inl ⟨by rfl, ?y10_90⟩) ?_
          case y10_90 => intro w; go_simp; first | done | (with_reducible rfl)
          refine wpAny_take (i := 11) (v := ?v11_91) rfl (by kernel_rfl) (by kernel_rfl) (by kernel_rfl) (fun _ _ _ h => h) (Or.inl ⟨by rfl, ?y11_91⟩) ?_
          case y11_91 => intro w; go_simp; first | done | (with_reducible rfl)
          refine wpAny_done (by kernel_rfl) ?_ _
          go_wp2
          go_ret
          exact ⟨rfl, HB6.out.trans (HB7.out.mono HB6.out.size)⟩
      · subst h
        have ht := h67 (by decide)
        have hte1 : (a0_4.toList == ([] : List UInt8)) = true := by rw [ht]; decide +kernel
        have hte2 : (([] : List UInt8) == a0_4.toList) = true := by rw [ht]; decide +kernel
        clear ht
        have ho := h1o (by decide)
        subst ho
        have hn := h1n (by decide)
        subst hn
        clear hop h1o h1n h6 h67
        have HBw0 := Aside0.mk ((Below.refl w.heap.size w).alloc (Nat.le_refl _) (.cells #[.int .i64 7, .int .i64 a0_1, .int .i64 0, .int .i64 0, .string a0_4] 25))
        have HXw0 := Aside0.mk (World.alloc_heap_new w (.cells #[.int .i64 7, .int .i64 a0_1, .int .i64 0, .int .i64 0, .string a0_4] 25))
        have hL := fun W => abutmentlaw44_lives.calls true W rfl
        have hW1 := fun W => act_Word.calls a1 (wordA a1) W rfl
        have hW2 := fun W => abutmentref44_Word.calls a1 (wordA a1) W (ref_word44 a1)
        have hO := fun W => act_Of_yes 1 (7) (a0_1) (0) (0) (a0_4) W (by rw [right_f _ _ _ _ _ 1 (by omega), hr]) (by decide)
        have hR := fun W => act_Right.calls 1 (7) (a0_1) (0) (0) (a0_4) true W (by rw [right_f _ _ _ _ _ 1 (by omega), hr])
        have hF := fun W => abutmentref44_Right.calls 4 (7) (a0_1) (0) (0) (a0_4) true W (by rw [ref_right44 _ _ _ _ _ 4 (by omega), hr])
        clear hr
        unfold actV at hO
        rw [if_neg (by decide), if_neg (by decide), if_neg (by decide), if_neg (by decide), if_neg (by decide), if_neg (by decide)] at hO
        go_enter Try.func3, Try.ntmps3
        go_wp2_with (first
          | (go_at_call 6; (with_reducible refine (hO _).mono ?_); rintro e w1 ⟨rfl, hbw1⟩; have HBw1 := Aside0.mk (HBw0.out.trans (hbw1.mono HBw0.out.size)); have HXw1 := Aside0.mk (box_next HXw0.out hbw1); obtain ⟨cw1_0, cw1_1, cw1_2, cw1_3, cw1_4⟩ := box_cells HXw1.out; clear hbw1)
          | (go_at_call 7; (with_reducible refine (hF _).mono ?_); rintro e w2 ⟨rfl, hbw2⟩; have HBw2 := Aside0.mk (HBw1.out.trans (hbw2.mono HBw1.out.size)); have HXw2 := Aside0.mk (box_next HXw1.out hbw2); obtain ⟨cw2_0, cw2_1, cw2_2, cw2_3, cw2_4⟩ := box_cells HXw2.out; clear hbw2)
          | (go_at_call 8; (with_reducible refine (hR _).mono ?_); rintro e w3 ⟨rfl, hbw3⟩; have HBw3 := Aside0.mk (HBw2.out.trans (hbw3.mono HBw2.out.size)); have HXw3 := Aside0.mk (box_next HXw2.out hbw3); obtain ⟨cw3_0, cw3_1, cw3_2, cw3_3, cw3_4⟩ := box_cells HXw3.out; clear hbw3)
          | (go_at_call 9; (with_reducible refine (hW1 _).mono ?_); rintro e w4 ⟨rfl, hbw4⟩; have HBw4 := Aside0.mk (HBw3.out.trans (hbw4.mono HBw3.out.size)); have HXw4 := Aside0.mk (box_next HXw3.out hbw4); obtain ⟨cw4_0, cw4_1, cw4_2, cw4_3, cw4_4⟩ := box_cells HXw4.out; clear hbw4)
          | (go_at_call 10; (with_reducible refine (hW2 _).mono ?_); rintro e w5 ⟨rfl, hbw5⟩; have HBw5 := Aside0.mk (HBw4.out.trans (hbw5.mono HBw4.out.size)); have HXw5 := Aside0.mk (box_next HXw4.out hbw5); obtain ⟨cw5_0, cw5_1, cw5_2, cw5_3, cw5_4⟩ := box_cells HXw5.out; clear hbw5))
        refine wp_region_any (by kernel_rfl) ?_
        change wpAny _ _ _ _ _ _ _ (World.drew _)
        refine wpAny_take (i := 0) (v := ?v0_92) rfl (by kernel_rfl) (by kernel_rfl) (by kernel_rfl) (fun _ _ _ h => h) (Or.inl ⟨by rfl, ?y0_92⟩) ?_
        case y0_92 => intro w; go_simp; first | done | (with_reducible rfl)
        refine wpAny_take (i := 1) (v := ?v1_93) rfl (by kernel_rfl) (by kernel_rfl) (by kernel_rfl) (fun _ _ _ h => h) (Or.inl ⟨by rfl, ?y1_93⟩) ?_
        case y1_93 => intro w; go_simp; first | done | (with_reducible rfl)
        refine wpAny_take (i := 2) (v := ?v2_94) rfl (by kernel_rfl) (by kernel_rfl) (by kernel_rfl) (fun _ _ _ h => h) (Or.inl ⟨by rfl, ?y2_94⟩) ?_
        case y2_94 => intro w; go_simp; first | done | (with_reducible rfl)
        refine wpAny_take (i := 3) (v := ?v3_95) rfl (by kernel_rfl) (by kernel_rfl) (by kernel_rfl) (fun _ _ _ h => h) (Or.inl ⟨by rfl, ?y3_95⟩) ?_
        case y3_95 => intro w; go_simp; first | done | (with_reducible rfl)
        refine wpAny_ready (rs := [4, 5]) (by kernel_rfl) (by simp) ?_
        refine AllReady.cons rfl (fun K hK => ?_) (AllReady.cons rfl (fun K hK => ?_) AllReady.nil)
        · go_simp
          go_wp2_with ((with_reducible refine (eventServe_wp (a0_1) _).mono ?_); rintro e w6 ⟨rfl, hb6⟩; have HB6 := Aside0.mk (HBw5.out.drew.trans (hb6.mono HBw5.out.size)); have HX6 := Aside0.mk (box_next (W := w5.drew) HXw5.out hb6); obtain ⟨c6_0, c6_1, c6_2, c6_3, c6_4⟩ := box_cells HX6.out; clear hb6)
          refine wpAny_ready (rs := [5]) (by kernel_rfl) (by simp) ?_
          refine AllReady.cons rfl (fun K hK => ?_) AllReady.nil
          go_simp
          refine hK _ _ ?_
          clear hK K
          refine wpAny_take (i := 6) (v := ?v6_96) rfl (by kernel_rfl) (by kernel_rfl) (by kernel_rfl) (fun _ _ _ h => h) (Or.inl ⟨by rfl, ?y6_96⟩) ?_
          case y6_96 => intro w; go_simp; first | done | (with_reducible rfl)
          refine wpAny_take (i := 7) (v := ?v7_97) rfl (by kernel_rfl) (by kernel_rfl) (by kernel_rfl) (fun _ _ _ h => h) (Or.inl ⟨by rfl, ?y7_97⟩) ?_
          case y7_97 => intro w; go_simp; first | done | (with_reducible rfl)
          refine wpAny_take (i := 8) (v := ?v8_98) rfl (by kernel_rfl) (by kernel_rfl) (by kernel_rfl) (fun _ _ _ h => h) (Or.inl ⟨by rfl, ?y8_98⟩) ?_
          case y8_98 => intro w; go_simp; first | done | (with_reducible rfl)
          refine wpAny_ready (rs := [9]) (by kernel_rfl) (by simp) ?_
          refine AllReady.cons rfl (fun K hK => ?_) AllReady.nil
          go_simp
          go_wp2_with (go_at_call 11; refine (hL _).mono ?_; rintro e w7 ⟨rfl, hb7⟩; have HB7 := Aside0.mk hb7; clear hb7)
          refine wpAny_take (i := 10) (v := ?v10_99) rfl (by kernel_rfl) (by kernel_rfl) (by kernel_rfl) (fun _ _ _ h => h) (Or.inl ⟨by rfl, ?y10_99⟩) ?_
          case y10_99 => intro w; go_simp; first | done | (with_reducible rfl)
          refine wpAny_take (i := 11) (v := ?v11_100) rfl (by kernel_rfl) (by kernel_rfl) (by kernel_rfl) (fun _ _ _ h => h) (Or.inl ⟨by rfl, ?y11_100⟩) ?_
          case y11_100 => intro w; go_simp; first | done | (with_reducible rfl)
          refine wpAny_done (by kernel_rfl) ?_ _
          go_wp2
          go_ret
          exact ⟨rfl, HB6.out.trans (HB7.out.mono HB6.out.size)⟩
        · go_simp
          refine hK _ _ ?_
          clear hK K
          refine wpAny_ready (rs := [4]) (by kernel_rfl) (by simp) ?_
          refine AllReady.cons rfl (fun K hK => ?_) AllReady.nil
          go_simp
          go_wp2_with ((with_reducible refine (eventServe_wp (a0_1) _).mono ?_); rintro e w6 ⟨rfl, hb6⟩; have HB6 := Aside0.mk (HBw5.out.drew.trans (hb6.mono HBw5.out.size)); have HX6 := Aside0.mk (box_next (W := w5.drew) HXw5.out hb6); obtain ⟨c6_0, c6_1, c6_2, c6_3, c6_4⟩ := box_cells HX6.out; clear hb6)
          refine wpAny_take (i := 6) (v := ?v6_101) rfl (by kernel_rfl) (by kernel_rfl) (by kernel_rfl) (fun _ _ _ h => h) (Or.inl ⟨by rfl, ?y6_101⟩) ?_
          case y6_101 => intro w; go_simp; first | done | (with_reducible rfl)
          refine wpAny_take (i := 7) (v := ?v7_102) rfl (by kernel_rfl) (by kernel_rfl) (by kernel_rfl) (fun _ _ _ h => h) (Or.inl ⟨by rfl, ?y7_102⟩) ?_
          case y7_102 => intro w; go_simp; first | done | (with_reducible rfl)
          refine wpAny_take (i := 8) (v := ?v8_103) rfl (by kernel_rfl) (by kernel_rfl) (by kernel_rfl) (fun _ _ _ h => h) (Or.inl ⟨by rfl, ?y8_103⟩) ?_
          case y8_103 => intro w; go_simp; first | done | (with_reducible rfl)
          refine wpAny_ready (rs := [9]) (by kernel_rfl) (by simp) ?_
          refine AllReady.cons rfl (fun K hK => ?_) AllReady.nil
          go_simp
          go_wp2_with (go_at_call 11; refine (hL _).mono ?_; rintro e w7 ⟨rfl, hb7⟩; have HB7 := Aside0.mk hb7; clear hb7)
          refine wpAny_take (i := 10) (v := ?v10_104) rfl (by kernel_rfl) (by kernel_rfl) (by kernel_rfl) (fun _ _ _ h => h) (Or.inl ⟨by rfl, ?y10_104⟩) ?_
          case y10_104 => intro w; go_simp; first | done | (with_reducible rfl)
          refine wpAny_take (i := 11) (v := ?v11_105) rfl (by kernel_rfl) (by kernel_rfl) (by kernel_rfl) (fun _ _ _ h => h) (Or.inl ⟨by rfl, ?y11_105⟩) ?_
          case y11_105 => intro w; go_simp; first | done | (with_reducible rfl)
          refine wpAny_done (by kernel_rfl) ?_ _
          go_wp2
          go_ret
          exact ⟨rfl, HB6.out.trans (HB7.out.mono HB6.out.size)⟩
  · have hsb : decide ((a0_4.size : Int) ≤ 6000) = false := decide_eq_false hs
    cases hr : rightB a0_0 a0_1 a0_2 a0_3 (a0_4.extract 0 6000) with
    | false =>
      have HBw0 := Aside0.mk ((Below.refl w.heap.size w).alloc (Nat.le_refl _) (.cells #[.int .i64 a0_0, .int .i64 a0_1, .int .i64 a0_2, .int .i64 a0_3, .string (a0_4.extract 0 6000)] 25))
      have HXw0 := Aside0.mk (World.alloc_heap_new w (.cells #[.int .i64 a0_0, .int .i64 a0_1, .int .i64 a0_2, .int .i64 a0_3, .string (a0_4.extract 0 6000)] 25))
      have hL := fun W => abutmentlaw44_lives.calls true W rfl
      have hW1 := fun W => act_Word.calls a1 (wordA a1) W rfl
      have hW2 := fun W => abutmentref44_Word.calls a1 (wordA a1) W (ref_word44 a1)
      have hO := fun W => act_Of_no 1 (a0_0) (a0_1) (a0_2) (a0_3) ((a0_4.extract 0 6000)) W (by rw [right_f _ _ _ _ _ 1 (by omega), hr])
      have hR := fun W => act_Right.calls 1 (a0_0) (a0_1) (a0_2) (a0_3) ((a0_4.extract 0 6000)) false W (by rw [right_f _ _ _ _ _ 1 (by omega), hr])
      have hF := fun W => abutmentref44_Right.calls 4 (a0_0) (a0_1) (a0_2) (a0_3) ((a0_4.extract 0 6000)) false W (by rw [ref_right44 _ _ _ _ _ 4 (by omega), hr])
      clear hr
      go_enter Try.func3, Try.ntmps3
      go_wp2_with (first
        | (go_at_call 6; (with_reducible refine (hO _).mono ?_); rintro e w1 ⟨rfl, hbw1⟩; have HBw1 := Aside0.mk (HBw0.out.trans (hbw1.mono HBw0.out.size)); have HXw1 := Aside0.mk (box_next HXw0.out hbw1); obtain ⟨cw1_0, cw1_1, cw1_2, cw1_3, cw1_4⟩ := box_cells HXw1.out; clear hbw1)
        | (go_at_call 7; (with_reducible refine (hF _).mono ?_); rintro e w2 ⟨rfl, hbw2⟩; have HBw2 := Aside0.mk (HBw1.out.trans (hbw2.mono HBw1.out.size)); have HXw2 := Aside0.mk (box_next HXw1.out hbw2); obtain ⟨cw2_0, cw2_1, cw2_2, cw2_3, cw2_4⟩ := box_cells HXw2.out; clear hbw2)
        | (go_at_call 8; (with_reducible refine (hR _).mono ?_); rintro e w3 ⟨rfl, hbw3⟩; have HBw3 := Aside0.mk (HBw2.out.trans (hbw3.mono HBw2.out.size)); have HXw3 := Aside0.mk (box_next HXw2.out hbw3); obtain ⟨cw3_0, cw3_1, cw3_2, cw3_3, cw3_4⟩ := box_cells HXw3.out; clear hbw3)
        | (go_at_call 9; (with_reducible refine (hW1 _).mono ?_); rintro e w4 ⟨rfl, hbw4⟩; have HBw4 := Aside0.mk (HBw3.out.trans (hbw4.mono HBw3.out.size)); have HXw4 := Aside0.mk (box_next HXw3.out hbw4); obtain ⟨cw4_0, cw4_1, cw4_2, cw4_3, cw4_4⟩ := box_cells HXw4.out; clear hbw4)
        | (go_at_call 10; (with_reducible refine (hW2 _).mono ?_); rintro e w5 ⟨rfl, hbw5⟩; have HBw5 := Aside0.mk (HBw4.out.trans (hbw5.mono HBw4.out.size)); have HXw5 := Aside0.mk (box_next HXw4.out hbw5); obtain ⟨cw5_0, cw5_1, cw5_2, cw5_3, cw5_4⟩ := box_cells HXw5.out; clear hbw5))
      refine wp_region_any (by kernel_rfl) ?_
      change wpAny _ _ _ _ _ _ _ (World.drew _)
      refine wpAny_take (i := 0) (v := ?v0_106) rfl (by kernel_rfl) (by kernel_rfl) (by kernel_rfl) (fun _ _ _ h => h) (Or.inl ⟨by rfl, ?y0_106⟩) ?_
      case y0_106 => intro w; go_simp; first | done | (with_reducible rfl)
      refine wpAny_take (i := 1) (v := ?v1_107) rfl (by kernel_rfl) (by kernel_rfl) (by kernel_rfl) (fun _ _ _ h => h) (Or.inl ⟨by rfl, ?y1_107⟩) ?_
      case y1_107 => intro w; go_simp; first | done | (with_reducible rfl)
      refine wpAny_take (i := 2) (v := ?v2_108) rfl (by kernel_rfl) (by kernel_rfl) (by kernel_rfl) (fun _ _ _ h => h) (Or.inl ⟨by rfl, ?y2_108⟩) ?_
      case y2_108 => intro w; go_simp; first | done | (with_reducible rfl)
      refine wpAny_take (i := 3) (v := undef) rfl (by kernel_rfl) (by kernel_rfl) (by kernel_rfl) (fun _ _ _ h => h) (Or.inr ⟨by rfl, rfl⟩) ?_
      refine wpAny_take (i := 4) (v := undef) rfl (by kernel_rfl) (by kernel_rfl) (by kernel_rfl) (fun _ _ _ h => h) (Or.inr ⟨by rfl, rfl⟩) ?_
      refine wpAny_take (i := 5) (v := undef) rfl (by kernel_rfl) (by kernel_rfl) (by kernel_rfl) (fun _ _ _ h => h) (Or.inr ⟨by rfl, rfl⟩) ?_
      refine wpAny_take (i := 6) (v := undef) rfl (by kernel_rfl) (by kernel_rfl) (by kernel_rfl) (fun _ _ _ h => h) (Or.inr ⟨by rfl, rfl⟩) ?_
      refine wpAny_take (i := 7) (v := ?v7_109) rfl (by kernel_rfl) (by kernel_rfl) (by kernel_rfl) (fun _ _ _ h => h) (Or.inl ⟨by rfl, ?y7_109⟩) ?_
      case y7_109 => intro w; go_simp; first | done | (with_reducible rfl)
      refine wpAny_take (i := 8) (v := ?v8_110) rfl (by kernel_rfl) (by kernel_rfl) (by kernel_rfl) (fun _ _ _ h => h) (Or.inl ⟨by rfl, ?y8_110⟩) ?_
      case y8_110 => intro w; go_simp; first | done | (with_reducible rfl)
      refine wpAny_ready (rs := [9]) (by kernel_rfl) (by simp) ?_
      refine AllReady.cons rfl (fun K hK => ?_) AllReady.nil
      go_simp
      go_wp2_with (go_at_call 11; refine (hL _).mono ?_; rintro e w7 ⟨rfl, hb7⟩; have HB7 := Aside0.mk hb7; clear hb7)
      refine wpAny_take (i := 10) (v := ?v10_111) rfl (by kernel_rfl) (by kernel_rfl) (by kernel_rfl) (fun _ _ _ h => h) (Or.inl ⟨by rfl, ?y10_111⟩) ?_
      case y10_111 => intro w; go_simp; first | done | (with_reducible rfl)
      refine wpAny_take (i := 11) (v := ?v11_112) rfl (by kernel_rfl) (by kernel_rfl) (by kernel_rfl) (fun _ _ _ h => h) (Or.inl ⟨by rfl, ?y11_112⟩) ?_
      case y11_112 => intro w; go_simp; first | done | (with_reducible rfl)
      refine wpAny_done (by kernel_rfl) ?_ _
      go_wp2
      go_ret
      exact ⟨rfl, HBw5.out.drew.trans (HB7.out.mono HBw5.out.size)⟩
    | true =>
      obtain ⟨hop, h1o, h1n, h6, h67⟩ := right_spec _ _ _ _ _ hr
      have h2 : a0_0 = 2 := by
        apply Classical.byContradiction
        intro hne
        have h0 := h67 hne
        have h1 := congrArg ByteArray.size h0
        rw [ByteArray.size_extract] at h1
        have : (⟨#[]⟩ : ByteArray).size = 0 := rfl
        omega
      subst h2
      have hn0 := h1n (by decide)
      subst hn0
      clear hop h1o h1n h6 h67
      have HBw0 := Aside0.mk ((Below.refl w.heap.size w).alloc (Nat.le_refl _) (.cells #[.int .i64 2, .int .i64 a0_1, .int .i64 a0_2, .int .i64 0, .string (a0_4.extract 0 6000)] 25))
      have HXw0 := Aside0.mk (World.alloc_heap_new w (.cells #[.int .i64 2, .int .i64 a0_1, .int .i64 a0_2, .int .i64 0, .string (a0_4.extract 0 6000)] 25))
      have hL := fun W => abutmentlaw44_lives.calls true W rfl
      have hW1 := fun W => act_Word.calls a1 (wordA a1) W rfl
      have hW2 := fun W => abutmentref44_Word.calls a1 (wordA a1) W (ref_word44 a1)
      have hO := fun W => act_Of_yes 1 (2) (a0_1) (a0_2) (0) ((a0_4.extract 0 6000)) W (by rw [right_f _ _ _ _ _ 1 (by omega), hr]) (by decide)
      have hR := fun W => act_Right.calls 1 (2) (a0_1) (a0_2) (0) ((a0_4.extract 0 6000)) true W (by rw [right_f _ _ _ _ _ 1 (by omega), hr])
      have hF := fun W => abutmentref44_Right.calls 4 (2) (a0_1) (a0_2) (0) ((a0_4.extract 0 6000)) true W (by rw [ref_right44 _ _ _ _ _ 4 (by omega), hr])
      clear hr
      unfold actV at hO
      rw [if_neg (by decide), if_pos rfl] at hO
      go_enter Try.func3, Try.ntmps3
      go_wp2_with (first
        | (go_at_call 6; (with_reducible refine (hO _).mono ?_); rintro e w1 ⟨rfl, hbw1⟩; have HBw1 := Aside0.mk (HBw0.out.trans (hbw1.mono HBw0.out.size)); have HXw1 := Aside0.mk (box_next HXw0.out hbw1); obtain ⟨cw1_0, cw1_1, cw1_2, cw1_3, cw1_4⟩ := box_cells HXw1.out; clear hbw1)
        | (go_at_call 7; (with_reducible refine (hF _).mono ?_); rintro e w2 ⟨rfl, hbw2⟩; have HBw2 := Aside0.mk (HBw1.out.trans (hbw2.mono HBw1.out.size)); have HXw2 := Aside0.mk (box_next HXw1.out hbw2); obtain ⟨cw2_0, cw2_1, cw2_2, cw2_3, cw2_4⟩ := box_cells HXw2.out; clear hbw2)
        | (go_at_call 8; (with_reducible refine (hR _).mono ?_); rintro e w3 ⟨rfl, hbw3⟩; have HBw3 := Aside0.mk (HBw2.out.trans (hbw3.mono HBw2.out.size)); have HXw3 := Aside0.mk (box_next HXw2.out hbw3); obtain ⟨cw3_0, cw3_1, cw3_2, cw3_3, cw3_4⟩ := box_cells HXw3.out; clear hbw3)
        | (go_at_call 9; (with_reducible refine (hW1 _).mono ?_); rintro e w4 ⟨rfl, hbw4⟩; have HBw4 := Aside0.mk (HBw3.out.trans (hbw4.mono HBw3.out.size)); have HXw4 := Aside0.mk (box_next HXw3.out hbw4); obtain ⟨cw4_0, cw4_1, cw4_2, cw4_3, cw4_4⟩ := box_cells HXw4.out; clear hbw4)
        | (go_at_call 10; (with_reducible refine (hW2 _).mono ?_); rintro e w5 ⟨rfl, hbw5⟩; have HBw5 := Aside0.mk (HBw4.out.trans (hbw5.mono HBw4.out.size)); have HXw5 := Aside0.mk (box_next HXw4.out hbw5); obtain ⟨cw5_0, cw5_1, cw5_2, cw5_3, cw5_4⟩ := box_cells HXw5.out; clear hbw5))
      refine wp_region_any (by kernel_rfl) ?_
      change wpAny _ _ _ _ _ _ _ (World.drew _)
      refine wpAny_take (i := 0) (v := ?v0_113) rfl (by kernel_rfl) (by kernel_rfl) (by kernel_rfl) (fun _ _ _ h => h) (Or.inl ⟨by rfl, ?y0_113⟩) ?_
      case y0_113 => intro w; go_simp; first | done | (with_reducible rfl)
      refine wpAny_take (i := 1) (v := ?v1_114) rfl (by kernel_rfl) (by kernel_rfl) (by kernel_rfl) (fun _ _ _ h => h) (Or.inl ⟨by rfl, ?y1_114⟩) ?_
      case y1_114 => intro w; go_simp; first | done | (with_reducible rfl)
      refine wpAny_take (i := 2) (v := ?v2_115) rfl (by kernel_rfl) (by kernel_rfl) (by kernel_rfl) (fun _ _ _ h => h) (Or.inl ⟨by rfl, ?y2_115⟩) ?_
      case y2_115 => intro w; go_simp; first | done | (with_reducible rfl)
      refine wpAny_take (i := 3) (v := ?v3_116) rfl (by kernel_rfl) (by kernel_rfl) (by kernel_rfl) (fun _ _ _ h => h) (Or.inl ⟨by rfl, ?y3_116⟩) ?_
      case y3_116 => intro w; go_simp; first | done | (with_reducible rfl)
      refine wpAny_ready (rs := [4, 5]) (by kernel_rfl) (by simp) ?_
      refine AllReady.cons rfl (fun K hK => ?_) (AllReady.cons rfl (fun K hK => ?_) AllReady.nil)
      · go_simp
        go_wp2_with ((with_reducible refine (eventSend_wp a0_1 a0_2 (a0_4.extract 0 6000) _).mono ?_); rintro e w6 ⟨rfl, hb6⟩; have HB6 := Aside0.mk (HBw5.out.drew.trans (hb6.mono HBw5.out.size)); have HX6 := Aside0.mk (box_next (W := w5.drew) HXw5.out hb6); obtain ⟨c6_0, c6_1, c6_2, c6_3, c6_4⟩ := box_cells HX6.out; clear hb6)
        refine wpAny_ready (rs := [5]) (by kernel_rfl) (by simp) ?_
        refine AllReady.cons rfl (fun K hK => ?_) AllReady.nil
        go_simp
        refine hK _ _ ?_
        clear hK K
        refine wpAny_take (i := 6) (v := ?v6_117) rfl (by kernel_rfl) (by kernel_rfl) (by kernel_rfl) (fun _ _ _ h => h) (Or.inl ⟨by rfl, ?y6_117⟩) ?_
        case y6_117 => intro w; go_simp; first | done | (with_reducible rfl)
        refine wpAny_take (i := 7) (v := ?v7_118) rfl (by kernel_rfl) (by kernel_rfl) (by kernel_rfl) (fun _ _ _ h => h) (Or.inl ⟨by rfl, ?y7_118⟩) ?_
        case y7_118 => intro w; go_simp; first | done | (with_reducible rfl)
        refine wpAny_take (i := 8) (v := ?v8_119) rfl (by kernel_rfl) (by kernel_rfl) (by kernel_rfl) (fun _ _ _ h => h) (Or.inl ⟨by rfl, ?y8_119⟩) ?_
        case y8_119 => intro w; go_simp; first | done | (with_reducible rfl)
        refine wpAny_ready (rs := [9]) (by kernel_rfl) (by simp) ?_
        refine AllReady.cons rfl (fun K hK => ?_) AllReady.nil
        go_simp
        go_wp2_with (go_at_call 11; refine (hL _).mono ?_; rintro e w7 ⟨rfl, hb7⟩; have HB7 := Aside0.mk hb7; clear hb7)
        refine wpAny_take (i := 10) (v := ?v10_120) rfl (by kernel_rfl) (by kernel_rfl) (by kernel_rfl) (fun _ _ _ h => h) (Or.inl ⟨by rfl, ?y10_120⟩) ?_
        case y10_120 => intro w; go_simp; first | done | (with_reducible rfl)
        refine wpAny_take (i := 11) (v := ?v11_121) rfl (by kernel_rfl) (by kernel_rfl) (by kernel_rfl) (fun _ _ _ h => h) (Or.inl ⟨by rfl, ?y11_121⟩) ?_
        case y11_121 => intro w; go_simp; first | done | (with_reducible rfl)
        refine wpAny_done (by kernel_rfl) ?_ _
        go_wp2
        go_ret
        exact ⟨rfl, HB6.out.trans (HB7.out.mono HB6.out.size)⟩
      · go_simp
        refine hK _ _ ?_
        clear hK K
        refine wpAny_ready (rs := [4]) (by kernel_rfl) (by simp) ?_
        refine AllReady.cons rfl (fun K hK => ?_) AllReady.nil
        go_simp
        go_wp2_with ((with_reducible refine (eventSend_wp a0_1 a0_2 (a0_4.extract 0 6000) _).mono ?_); rintro e w6 ⟨rfl, hb6⟩; have HB6 := Aside0.mk (HBw5.out.drew.trans (hb6.mono HBw5.out.size)); have HX6 := Aside0.mk (box_next (W := w5.drew) HXw5.out hb6); obtain ⟨c6_0, c6_1, c6_2, c6_3, c6_4⟩ := box_cells HX6.out; clear hb6)
        refine wpAny_take (i := 6) (v := ?v6_122) rfl (by kernel_rfl) (by kernel_rfl) (by kernel_rfl) (fun _ _ _ h => h) (Or.inl ⟨by rfl, ?y6_122⟩) ?_
        case y6_122 => intro w; go_simp; first | done | (with_reducible rfl)
        refine wpAny_take (i := 7) (v := ?v7_123) rfl (by kernel_rfl) (by kernel_rfl) (by kernel_rfl) (fun _ _ _ h => h) (Or.inl ⟨by rfl, ?y7_123⟩) ?_
        case y7_123 => intro w; go_simp; first | done | (with_reducible rfl)
        refine wpAny_take (i := 8) (v := ?v8_124) rfl (by kernel_rfl) (by kernel_rfl) (by kernel_rfl) (fun _ _ _ h => h) (Or.inl ⟨by rfl, ?y8_124⟩) ?_
        case y8_124 => intro w; go_simp; first | done | (with_reducible rfl)
        refine wpAny_ready (rs := [9]) (by kernel_rfl) (by simp) ?_
        refine AllReady.cons rfl (fun K hK => ?_) AllReady.nil
        go_simp
        go_wp2_with (go_at_call 11; refine (hL _).mono ?_; rintro e w7 ⟨rfl, hb7⟩; have HB7 := Aside0.mk hb7; clear hb7)
        refine wpAny_take (i := 10) (v := ?v10_125) rfl (by kernel_rfl) (by kernel_rfl) (by kernel_rfl) (fun _ _ _ h => h) (Or.inl ⟨by rfl, ?y10_125⟩) ?_
        case y10_125 => intro w; go_simp; first | done | (with_reducible rfl)
        refine wpAny_take (i := 11) (v := ?v11_126) rfl (by kernel_rfl) (by kernel_rfl) (by kernel_rfl) (fun _ _ _ h => h) (Or.inl ⟨by rfl, ?y11_126⟩) ?_
        case y11_126 => intro w; go_simp; first | done | (with_reducible rfl)
        refine wpAny_done (by kernel_rfl) ?_ _
        go_wp2
        go_ret
        exact ⟨rfl, HB6.out.trans (HB7.out.mono HB6.out.size)⟩


end Go.Proofs.Ytkepebaapgkhbaa.X
namespace Go.Proofs.Ytkepebaapgkhbaa.X
open Go.RowKit Go.Proofs.YtkepebaapgkhbaaW.PrintWords Go.Proofs.YtkepebaapgkhbaaW.PrintLast Go.Proofs.YtkepebaapgkhbaaW.PrintMore
attribute [local go_sem] max2_int min2_int max_two min_two max_three min_three max_four min_four   -- for this text's walks alone
set_option linter.unusedVariables false
set_option linter.unusedSimpArgs false

/-! ### act_Must: function 15 -/
/-- P44.3: what must be a Send, and is one. -/
theorem must_yes (a b : Int) (t : ByteArray) (w : World) : Calls Try.prog 15 #[.iface 38 (.agg #[.int .i64 a, .int .i64 b, .string t])] w fun e w' => e = .returned (.agg #[.int .i64 a, .int .i64 b, .string t]) ∧ Below w.heap.size w w' := by
  have hT := ta_yes1 (P := Try.prog) 38 27 _ (.agg #[.int .i64 a, .int .i64 b, .string t]) Try.underlying38 (fun _ h => by cases h)
  go_enter Try.func15, Try.ntmps15
  go_wp2
  go_returns
  exact ⟨rfl, (Below.refl _ w).alloc (Nat.le_refl _) _⟩
/-- An assertion that fails panics, and lays the panic's error. -/
def FailsAt (v : Value) (W : World) : Prop := ∃ u x o, (Instr.typeAssert v 27 38 false).run Try.prog W = .halt (.panic (.iface u x)) (W.alloc o)
theorem tpanic_run (i c : Option TypeId) (a : TypeId) (m : String) (W : World) : ∃ u x o, (runtimePanic (.typeAssertion i c a m) : Sem Value).run Try.prog W = .halt (.panic (.iface u x)) (W.alloc o) := by
  refine ⟨Try.prog.rt.typeAssertionError, .pointer (some ⟨W.heap.size, 0, none⟩), .cells #[match i with | some t => typeHandle Try.prog t | none => .pointer none, match c with | some t => typeHandle Try.prog t | none => .pointer none, typeHandle Try.prog a, strVal m] (match Try.prog.underlying Try.prog.rt.typeAssertionError with | some (.pointer e) => e | _ => 0), ?_⟩
  unfold runtimePanic
  have he : (elemOf Try.prog.rt.typeAssertionError).run Try.prog W = .ok (match Try.prog.underlying Try.prog.rt.typeAssertionError with | some (.pointer e) => e | _ => 0) W := by kernel_rfl
  simp only [Sem.run_bind, he, show (Go.program : Sem Program).run Try.prog W = .ok Try.prog W from rfl, Result.andThen_ok]
  cases i <;> cases c <;> rfl
theorem fails_nil (W : World) : FailsAt .nilIface W := by
  obtain ⟨u, x, o, h⟩ := tpanic_run (some 27) none 38 "" W
  refine ⟨u, x, o, ?_⟩
  rw [← h]
  unfold Instr.typeAssert
  simp only [Sem.run_bind, run_underlying Try.underlying38, Result.andThen_ok]
  simp
theorem fails_other (t : TypeId) (v : Value) (hne : t ≠ 38) (W : World) : FailsAt (.iface t v) W := by
  obtain ⟨u, x, o, h⟩ := tpanic_run (some 27) (some t) 38 "" W
  refine ⟨u, x, o, ?_⟩
  rw [← h]
  unfold Instr.typeAssert
  simp only [Sem.run_bind, run_underlying Try.underlying38, Result.andThen_ok]
  simp [hne]
/-- P44.3: what must be a Send, and is none, panics. -/
def Panics (w : World) (e : Ending) (w' : World) : Prop := (∃ u x, e = .panicked [{ v := .iface u x, recovered := false }]) ∧ Below w.heap.size w w'
theorem must_no (v : Value) (w : World) (h : ∀ W, FailsAt v W) : Calls Try.prog 15 #[v] w (Panics w) := by
  obtain ⟨u, x, o, hT⟩ := h (w.alloc (.cells #[.int .i64 0, .int .i64 0, .string ⟨#[]⟩] 38))
  clear h
  go_enter Try.func15, Try.ntmps15
  go_wp2
  exact ⟨rfl, ⟨u, x, rfl⟩, ((Below.refl _ w).alloc (Nat.le_refl _) _).alloc (by simp) _⟩


end Go.Proofs.Ytkepebaapgkhbaa.X
namespace Go.Proofs.Ytkepebaapgkhbaa.X
open Go.RowKit Go.Proofs.YtkepebaapgkhbaaW.PrintWords Go.Proofs.YtkepebaapgkhbaaW.PrintLast Go.Proofs.YtkepebaapgkhbaaW.PrintMore
attribute [local go_sem] max2_int min2_int max_two min_two max_three min_three max_four min_four   -- for this text's walks alone
set_option linter.unusedVariables false
set_option linter.unusedSimpArgs false

/-! ### act_Tried_1: function 18 -/
/-- The deferred function, behind a panic: the results are laid anew. -/
theorem tried1_panicking (r q : Nat) (a b : Int) (t : ByteArray) (ok : Bool) (u : TypeId) (pv : Value) (older : List PanicEntry) (w : World) (hr : w.heap[r]? = some (.cells #[.int .i64 a, .int .i64 b, .string t] 38 (0, 0))) (hq : w.heap[q]? = some (.cells #[.bool ok] 4 (0, 0))) (hne : r ≠ q) :
    CallsD Try.prog 18 #[.pointer (some ⟨r, 0, none⟩), .pointer (some ⟨q, 0, none⟩)] (.panicking ({ v := .iface u pv, recovered := false } :: older)) w fun e u' w' =>
      e = .returned (.tuple #[]) ∧ u' = .panicking ({ v := .iface u pv, recovered := true } :: older) ∧ w' = (((w.setCell ⟨r, 0, none⟩ (.int .i64 0)).setCell ⟨r, 1, none⟩ (.int .i64 0)).setCell ⟨r, 2, none⟩ (.string ⟨#[]⟩)).setCell ⟨q, 0, none⟩ (.bool false) := by
  have c0 : w.cell? ⟨r, 0, none⟩ = some (.int .i64 a) := by simp only [World.cell?, hr]; rfl
  have f0 : w.frozen? ⟨r, 0, none⟩ = false := by simp [World.frozen?, hr]
  have c1 : w.cell? ⟨r, 1, none⟩ = some (.int .i64 b) := by simp only [World.cell?, hr]; rfl
  have f1 : w.frozen? ⟨r, 1, none⟩ = false := by simp [World.frozen?, hr]
  have c2 : w.cell? ⟨r, 2, none⟩ = some (.string t) := by simp only [World.cell?, hr]; rfl
  have f2 : w.frozen? ⟨r, 2, none⟩ = false := by simp [World.frozen?, hr]
  have n1 : ¬ r = q := hne
  have n2 : ¬ q = r := fun e => hne e.symm
  have d0 : w.cell? ⟨q, 0, none⟩ = some (.bool ok) := by simp only [World.cell?, hq]; rfl
  have g0 : w.frozen? ⟨q, 0, none⟩ = false := by simp [World.frozen?, hq]
  refine callsD_of_wpS Try.func18 rfl fun c₀ cs hu => ?_
  apply wpS_seq
  apply wpS_region
  simp [wpOpsS, go_sem, recoverD, hu, Try.ntmps18, Exit.thenS]
  refine wpS_cond (t := true) (by simp [Act.eval, Array.replicate]) ?_
  simp only [if_true]
  refine wpS_of_wp ?_
  go_wp2
  simp [bodyPostS, results, Try.results18]
theorem tried1_idle (p q : Addr) (w : World) :
    CallsD Try.prog 18 #[.pointer (some p), .pointer (some q)] .returning w fun e u' w' => e = .returned (.tuple #[]) ∧ u' = .returning ∧ w' = w := by
  refine callsD_of_wpS Try.func18 rfl fun c₀ cs hu => ?_
  apply wpS_seq
  apply wpS_region
  simp [wpOpsS, go_sem, recoverD, hu, Try.ntmps18, Exit.thenS]
  refine wpS_cond (t := false) (by simp [Act.eval, Array.replicate]) ?_
  simp only [Bool.false_eq_true, if_false]
  refine wpS_of_wp (wp_skip ?_)
  cases c₀
  simp_all [bodyPostS, results, Try.results18]


end Go.Proofs.Ytkepebaapgkhbaa.X
namespace Go.Proofs.Ytkepebaapgkhbaa.X
open Go.RowKit Go.Proofs.YtkepebaapgkhbaaW.PrintWords Go.Proofs.YtkepebaapgkhbaaW.PrintLast Go.Proofs.YtkepebaapgkhbaaW.PrintMore
attribute [local go_sem] max2_int min2_int max_two min_two max_three min_three max_four min_four   -- for this text's walks alone
set_option linter.unusedVariables false
set_option linter.unusedSimpArgs false

/-! ### act_Tried: function 13 -/
theorem tried_world (w X : World) (hX : (w.alloc (.cells #[.int .i64 0, .int .i64 0, .string ⟨#[]⟩] 38)).alloc (.cells #[.bool false] 4) = X) :
    Aside0 (X.heap[w.heap.size]? = some (.cells #[.int .i64 0, .int .i64 0, .string ⟨#[]⟩] 38 (0, 0))) ∧ Aside0 (X.heap[w.heap.size + 1]? = some (.cells #[.bool false] 4 (0, 0))) ∧ Aside0 (Below w.heap.size w X) ∧ Aside0 (X.heap.size = w.heap.size + 2) := by
  subst hX
  refine ⟨⟨?_⟩, ⟨?_⟩, ⟨((Below.refl _ w).alloc (Nat.le_refl _) _).alloc (by simp) _⟩, ⟨by simp⟩⟩
  · rw [Below.heap_alloc _ _ _ (by simp)]; exact World.alloc_heap_new _ _
  · have := World.alloc_heap_new (w.alloc (.cells #[.int .i64 0, .int .i64 0, .string ⟨#[]⟩] 38)) (.cells #[.bool false] 4)
    rw [World.size_alloc] at this
    exact this
set_option maxRecDepth 100000 in
theorem tried_yes (a b : Int) (t : ByteArray) (w : World) : Calls Try.prog 13 #[.iface 38 (.agg #[.int .i64 a, .int .i64 b, .string t])] w fun e w' => e = .returned (.tuple #[.agg #[.int .i64 a, .int .i64 b, .string t], .bool true]) ∧ Below w.heap.size w w' := by
  have hmf : ∀ (fn : Fn) (first cap : Array Value) (w : World), (Instr.makeFunc fn first cap).run Try.prog w = .ok (.func fn first cap) w := fun _ _ _ _ => rfl
  obtain ⟨X, hX⟩ : ∃ X, (w.alloc (.cells #[.int .i64 0, .int .i64 0, .string ⟨#[]⟩] 38)).alloc (.cells #[.bool false] 4) = X := ⟨_, rfl⟩
  have hM := must_yes a b t X
  obtain ⟨HR, HQ, HB, HZ⟩ := tried_world w X hX
  go_enter_defers Try.func13, Try.ntmps13
  go_wp2_with ((with_reducible refine hM.mono ?_); rintro e w1 ⟨rfl, hb1⟩; have hr1 := (hb1.block w.heap.size (Array.getElem?_eq_some_iff.1 HR.out).1).trans HR.out; have hq1 := (hb1.block (w.heap.size + 1) (Array.getElem?_eq_some_iff.1 HQ.out).1).trans HQ.out; have c0 : w1.cell? ⟨w.heap.size, 0, none⟩ = some (.int .i64 0) := (by simp only [World.cell?, hr1]; rfl); have c1 : w1.cell? ⟨w.heap.size, 1, none⟩ = some (.int .i64 0) := (by simp only [World.cell?, hr1]; rfl); have c2 : w1.cell? ⟨w.heap.size, 2, none⟩ = some (.string ⟨#[]⟩) := (by simp only [World.cell?, hr1]; rfl); have f0 : w1.frozen? ⟨w.heap.size, 0, none⟩ = false := (by simp [World.frozen?, hr1]); have f1 : w1.frozen? ⟨w.heap.size, 1, none⟩ = false := (by simp [World.frozen?, hr1]); have f2 : w1.frozen? ⟨w.heap.size, 2, none⟩ = false := (by simp [World.frozen?, hr1]); have d0 : w1.cell? ⟨w.heap.size + 1, 0, none⟩ = some (.bool false) := (by simp only [World.cell?, hq1]; rfl); have g0 : w1.frozen? ⟨w.heap.size + 1, 0, none⟩ = false := (by simp [World.frozen?, hq1]); have HB1 := Aside0.mk hb1; have HR1 := Aside0.mk hr1; have HQ1 := Aside0.mk hq1; clear hr1 hq1 hb1)
  refine leaves_cons (f := 18) (args := #[.pointer (some ⟨w.heap.size, 0, none⟩), .pointer (some ⟨w.heap.size + 1, 0, none⟩)]) (by simp) (by simp [go_sem]) ?_
  refine (tried1_idle ⟨w.heap.size, 0, none⟩ ⟨w.heap.size + 1, 0, none⟩ _).mono ?_
  rintro e u' w'' ⟨rfl, rfl, rfl⟩
  have hb2 : Below w.heap.size w w1 := HB.out.trans (HB1.out.mono (by have := HZ.out; omega))
  simp [Leaves, settle, results, Try.results13, go_sem, c0, c1, c2, d0]
  exact (((hb2.setCell (Nat.le_refl _) _).setCell (Nat.le_refl _) _).setCell (Nat.le_refl _) _).setCell (by simp) _
set_option maxRecDepth 100000 in
theorem tried_no (v : Value) (hf : ∀ W, FailsAt v W) (w : World) : Calls Try.prog 13 #[v] w fun e w' => e = .returned (.tuple #[.agg #[.int .i64 0, .int .i64 0, .string ⟨#[]⟩], .bool false]) ∧ Below w.heap.size w w' := by
  have hmf : ∀ (fn : Fn) (first cap : Array Value) (w : World), (Instr.makeFunc fn first cap).run Try.prog w = .ok (.func fn first cap) w := fun _ _ _ _ => rfl
  obtain ⟨X, hX⟩ : ∃ X, (w.alloc (.cells #[.int .i64 0, .int .i64 0, .string ⟨#[]⟩] 38)).alloc (.cells #[.bool false] 4) = X := ⟨_, rfl⟩
  have hM := must_no v X hf
  obtain ⟨HR, HQ, HB, HZ⟩ := tried_world w X hX
  clear hf
  go_enter_defers Try.func13, Try.ntmps13
  go_wp2_with ((with_reducible refine hM.mono ?_); rintro e w1 ⟨⟨u, x, rfl⟩, hb1⟩; have hr1 := (hb1.block w.heap.size (Array.getElem?_eq_some_iff.1 HR.out).1).trans HR.out; have hq1 := (hb1.block (w.heap.size + 1) (Array.getElem?_eq_some_iff.1 HQ.out).1).trans HQ.out; have HB1 := Aside0.mk hb1; have HR1 := Aside0.mk hr1; have HQ1 := Aside0.mk hq1; clear hr1 hq1 hb1)
  refine leaves_cons (f := 18) (args := #[.pointer (some ⟨w.heap.size, 0, none⟩), .pointer (some ⟨w.heap.size + 1, 0, none⟩)]) (by simp) (by simp [go_sem]) ?_
  refine (tried1_panicking w.heap.size (w.heap.size + 1) 0 0 ⟨#[]⟩ false u x [] w1 HR1.out HQ1.out (by omega)).mono ?_
  rintro e u' w'' ⟨rfl, rfl, rfl⟩
  have hb2 : Below w.heap.size w w1 := HB.out.trans (HB1.out.mono (by have := HZ.out; omega))
  have hr1 := HR1.out
  have hq1 := HQ1.out
  have c0 : w1.cell? ⟨w.heap.size, 0, none⟩ = some (.int .i64 0) := by simp only [World.cell?, hr1]; rfl
  have c1 : w1.cell? ⟨w.heap.size, 1, none⟩ = some (.int .i64 0) := by simp only [World.cell?, hr1]; rfl
  have c2 : w1.cell? ⟨w.heap.size, 2, none⟩ = some (.string ⟨#[]⟩) := by simp only [World.cell?, hr1]; rfl
  have d0 : w1.cell? ⟨w.heap.size + 1, 0, none⟩ = some (.bool false) := by simp only [World.cell?, hq1]; rfl
  simp [Leaves, settle, results, Try.results13, go_sem, c0, c1, c2, d0]
  exact (((hb2.setCell (Nat.le_refl _) _).setCell (Nat.le_refl _) _).setCell (Nat.le_refl _) _).setCell (by simp) _


end Go.Proofs.Ytkepebaapgkhbaa.X
namespace Go.Proofs.Ytkepebaapgkhbaa.X
open Go.RowKit Go.Proofs.YtkepebaapgkhbaaW.PrintWords Go.Proofs.YtkepebaapgkhbaaW.PrintLast Go.Proofs.YtkepebaapgkhbaaW.PrintMore
attribute [local go_sem] max2_int min2_int max_two min_two max_three min_three max_four min_four   -- for this text's walks alone
set_option linter.unusedVariables false
set_option linter.unusedSimpArgs false

/-! ### act_Conn: function 14 -/
theorem conn_results (X : World) (r0 : Nat) (a b : Value) (hX : X.heap[r0]? = some (.cells #[a, b] 23 (0, 0))) (tmps : Array Value) (r : Bool) (h2 : tmps.getD 2 undef = .pointer (some ⟨r0, 0, none⟩)) (h3 : tmps.getD 3 undef = .bool r) :
    (results Try.f14 tmps).run Try.prog X = .ok (.tuple #[.agg #[a, b], .bool r]) X := by
  have hc0 : X.cell? ⟨r0, 0, none⟩ = some a := by simp only [World.cell?, hX]; rfl
  have hc1 : X.cell? ⟨r0, 1, none⟩ = some b := by simp only [World.cell?, hX]; rfl
  rw [results_cell_tmp rfl, h2, h3]
  simp [go_sem, hc0, hc1]
theorem heap_set2 {W : World} {r : Nat} {a b : Value} {u : TypeId} (h : W.heap[r]? = some (.cells #[a, b] u (0, 0))) (x y : Value) : ((W.setCell ⟨r, 0, none⟩ x).setCell ⟨r, 1, none⟩ y).heap[r]? = some (.cells #[x, y] u (0, 0)) := by
  simp only [World.setCell, Array.getElem?_modify, h]
  simp
set_option maxRecDepth 100000 in
theorem conn_nil (w : World) : Calls Try.prog 14 #[.nilIface] w fun e w' => e = .returned (.tuple #[.agg #[.int .i64 0, .int .i64 0], .bool false]) ∧ Below w.heap.size w w' := by
  have hT := ta_nil (P := Try.prog) 45 27 _ _ Try.underlying45 (fun _ h => by cases h) Try.zeroValue45
  go_enter Try.func14, Try.ntmps14
  go_wp2
  refine bodyPost_ret (conn_results _ w.heap.size (.int .i64 0) (.int .i64 0) ?_ _ false rfl rfl) rfl ⟨rfl, ?_⟩
  · exact World.alloc_heap_new _ _
  · exact (Below.refl _ w).alloc (Nat.le_refl _) _
set_option maxRecDepth 100000 in
theorem conn_tick (n : Int) (w : World) : Calls Try.prog 14 #[.iface 45 (.agg #[.int .i64 n])] w fun e w' => e = .returned (.tuple #[.agg #[.int .i64 0, .int .i64 0], .bool false]) ∧ Below w.heap.size w w' := by
  have hT := ta_yes (P := Try.prog) 45 27 _ (.agg #[.int .i64 n]) Try.underlying45 (fun _ h => by cases h)
  go_enter Try.func14, Try.ntmps14
  go_wp2
  refine bodyPost_ret (conn_results _ w.heap.size (.int .i64 0) (.int .i64 0) ?_ _ false rfl rfl) rfl ⟨rfl, ?_⟩
  · exact World.alloc_heap_new _ _
  · exact (Below.refl _ w).alloc (Nat.le_refl _) _
set_option maxRecDepth 100000 in
theorem conn_send (a b : Int) (t : ByteArray) (w : World) : Calls Try.prog 14 #[.iface 38 (.agg #[.int .i64 a, .int .i64 b, .string t])] w fun e w' => e = .returned (.tuple #[.agg #[.int .i64 a, .int .i64 b], .bool true]) ∧ Below w.heap.size w w' := by
  have hT := ta_no (P := Try.prog) 38 45 27 _ (.agg #[.int .i64 a, .int .i64 b, .string t]) _ Try.underlying45 (fun _ h => by cases h) (by decide) Try.zeroValue45
  have hS := ta_yes (P := Try.prog) 38 27 _ (.agg #[.int .i64 a, .int .i64 b, .string t]) Try.underlying38 (fun _ h => by cases h)
  go_enter Try.func14, Try.ntmps14
  go_wp2
  refine bodyPost_ret (conn_results _ w.heap.size (.int .i64 a) (.int .i64 b) ?_ _ true rfl rfl) rfl ⟨rfl, ?_⟩
  · rw [Below.heap_alloc _ _ _ (by simp)]; exact World.alloc_heap_new _ _
  · exact ((Below.refl _ w).alloc (Nat.le_refl _) _).alloc (by simp) _
set_option maxRecDepth 100000 in
theorem conn_end (a b : Int) (w : World) : Calls Try.prog 14 #[.iface 40 (.agg #[.int .i64 a, .int .i64 b])] w fun e w' => e = .returned (.tuple #[.agg #[.int .i64 a, .int .i64 b], .bool true]) ∧ Below w.heap.size w w' := by
  have hT := ta_no (P := Try.prog) 40 45 27 _ (.agg #[.int .i64 a, .int .i64 b]) _ Try.underlying45 (fun _ h => by cases h) (by decide) Try.zeroValue45
  have hS := ta_no (P := Try.prog) 40 38 27 _ (.agg #[.int .i64 a, .int .i64 b]) _ Try.underlying38 (fun _ h => by cases h) (by decide) Try.zeroValue38
  have hD := ta_yes (P := Try.prog) 40 27 _ (.agg #[.int .i64 a, .int .i64 b]) Try.underlying40 (fun _ h => by cases h)
  go_enter Try.func14, Try.ntmps14
  go_wp2
  refine bodyPost_ret (conn_results _ w.heap.size (.int .i64 a) (.int .i64 b) ?_ _ true rfl rfl) rfl ⟨rfl, ?_⟩
  · rw [Below.heap_alloc _ _ _ (by simp)]; exact World.alloc_heap_new _ _
  · exact ((Below.refl _ w).alloc (Nat.le_refl _) _).alloc (by simp) _
set_option maxRecDepth 100000 in
theorem conn_open (c : Int) (w : World) : Calls Try.prog 14 #[.iface 36 (.agg #[.int .i64 c])] w fun e w' => e = .returned (.tuple #[.agg #[.int .i64 c, .int .i64 0], .bool true]) ∧ Below w.heap.size w w' := by
  have hE := fun W => eventOpen_wp c W
  have hfl : ∀ W, (Instr.field 25 (.agg #[.int .i64 1, .int .i64 c, .int .i64 0, .int .i64 0, .string ⟨#[]⟩]) 1).run Try.prog W = .ok (.agg #[.int .i64 c, .int .i64 0]) W := fun _ => by kernel_rfl
  have hT := ta_no (P := Try.prog) 36 45 27 _ (.agg #[.int .i64 c]) _ Try.underlying45 (fun _ h => by cases h) (by decide) Try.zeroValue45
  have hS := ta_no (P := Try.prog) 36 38 27 _ (.agg #[.int .i64 c]) _ Try.underlying38 (fun _ h => by cases h) (by decide) Try.zeroValue38
  have hD := ta_no (P := Try.prog) 36 40 27 _ (.agg #[.int .i64 c]) _ Try.underlying40 (fun _ h => by cases h) (by decide) Try.zeroValue40
  go_enter Try.func14, Try.ntmps14
  go_wp2_with ((with_reducible refine (hE _).mono ?_); rintro e w1 ⟨rfl, hb1⟩; have hx := (hb1.block w.heap.size (by simp)).trans (World.alloc_heap_new w (.cells #[.int .i64 0, .int .i64 0] 23)); have c0 : w1.cell? ⟨w.heap.size, 0, none⟩ = some (.int .i64 0) := (by simp only [World.cell?, hx]; rfl); have c1 : w1.cell? ⟨w.heap.size, 1, none⟩ = some (.int .i64 0) := (by simp only [World.cell?, hx]; rfl); have f0 : w1.frozen? ⟨w.heap.size, 0, none⟩ = false := (by simp [World.frozen?, hx]); have f1 : w1.frozen? ⟨w.heap.size, 1, none⟩ = false := (by simp [World.frozen?, hx]); have HX := Aside0.mk hx; have HB1 := Aside0.mk hb1; clear hx hb1)
  refine bodyPost_ret (conn_results _ w.heap.size (.int .i64 c) (.int .i64 0) ?_ _ true rfl rfl) rfl ⟨rfl, ?_⟩
  · have h2 := heap_set2 HX.out (.int .i64 c) (.int .i64 0)
    exact h2
  · exact ((((Below.refl _ w).alloc (Nat.le_refl _) _).trans (HB1.out.mono (by simp))).setCell (Nat.le_refl _) _).setCell (Nat.le_refl _) _
set_option maxRecDepth 100000 in
theorem conn_read (c o n : Int) (w : World) : Calls Try.prog 14 #[.iface 42 (.agg #[.int .i64 c, .int .i64 o, .int .i64 n])] w fun e w' => e = .returned (.tuple #[.agg #[.int .i64 c, .int .i64 o], .bool true]) ∧ Below w.heap.size w w' := by
  have hE := fun W => eventRead_wp c o n W
  have hfl : ∀ W, (Instr.field 25 (.agg #[.int .i64 4, .int .i64 c, .int .i64 o, .int .i64 n, .string ⟨#[]⟩]) 1).run Try.prog W = .ok (.agg #[.int .i64 c, .int .i64 o]) W := fun _ => by kernel_rfl
  have hT := ta_no (P := Try.prog) 42 45 27 _ (.agg #[.int .i64 c, .int .i64 o, .int .i64 n]) _ Try.underlying45 (fun _ h => by cases h) (by decide) Try.zeroValue45
  have hS := ta_no (P := Try.prog) 42 38 27 _ (.agg #[.int .i64 c, .int .i64 o, .int .i64 n]) _ Try.underlying38 (fun _ h => by cases h) (by decide) Try.zeroValue38
  have hD := ta_no (P := Try.prog) 42 40 27 _ (.agg #[.int .i64 c, .int .i64 o, .int .i64 n]) _ Try.underlying40 (fun _ h => by cases h) (by decide) Try.zeroValue40
  go_enter Try.func14, Try.ntmps14
  go_wp2_with ((with_reducible refine (hE _).mono ?_); rintro e w1 ⟨rfl, hb1⟩; have hx := (hb1.block w.heap.size (by simp)).trans (World.alloc_heap_new w (.cells #[.int .i64 0, .int .i64 0] 23)); have c0 : w1.cell? ⟨w.heap.size, 0, none⟩ = some (.int .i64 0) := (by simp only [World.cell?, hx]; rfl); have c1 : w1.cell? ⟨w.heap.size, 1, none⟩ = some (.int .i64 0) := (by simp only [World.cell?, hx]; rfl); have f0 : w1.frozen? ⟨w.heap.size, 0, none⟩ = false := (by simp [World.frozen?, hx]); have f1 : w1.frozen? ⟨w.heap.size, 1, none⟩ = false := (by simp [World.frozen?, hx]); have HX := Aside0.mk hx; have HB1 := Aside0.mk hb1; clear hx hb1)
  refine bodyPost_ret (conn_results _ w.heap.size (.int .i64 c) (.int .i64 o) ?_ _ true rfl rfl) rfl ⟨rfl, ?_⟩
  · have h2 := heap_set2 HX.out (.int .i64 c) (.int .i64 o)
    exact h2
  · exact ((((Below.refl _ w).alloc (Nat.le_refl _) _).trans (HB1.out.mono (by simp))).setCell (Nat.le_refl _) _).setCell (Nat.le_refl _) _
set_option maxRecDepth 100000 in
theorem conn_grant (c o n : Int) (w : World) : Calls Try.prog 14 #[.iface 43 (.agg #[.int .i64 c, .int .i64 o, .int .i64 n])] w fun e w' => e = .returned (.tuple #[.agg #[.int .i64 c, .int .i64 o], .bool true]) ∧ Below w.heap.size w w' := by
  have hE := fun W => eventGrant_wp c o n W
  have hfl : ∀ W, (Instr.field 25 (.agg #[.int .i64 5, .int .i64 c, .int .i64 o, .int .i64 n, .string ⟨#[]⟩]) 1).run Try.prog W = .ok (.agg #[.int .i64 c, .int .i64 o]) W := fun _ => by kernel_rfl
  have hT := ta_no (P := Try.prog) 43 45 27 _ (.agg #[.int .i64 c, .int .i64 o, .int .i64 n]) _ Try.underlying45 (fun _ h => by cases h) (by decide) Try.zeroValue45
  have hS := ta_no (P := Try.prog) 43 38 27 _ (.agg #[.int .i64 c, .int .i64 o, .int .i64 n]) _ Try.underlying38 (fun _ h => by cases h) (by decide) Try.zeroValue38
  have hD := ta_no (P := Try.prog) 43 40 27 _ (.agg #[.int .i64 c, .int .i64 o, .int .i64 n]) _ Try.underlying40 (fun _ h => by cases h) (by decide) Try.zeroValue40
  go_enter Try.func14, Try.ntmps14
  go_wp2_with ((with_reducible refine (hE _).mono ?_); rintro e w1 ⟨rfl, hb1⟩; have hx := (hb1.block w.heap.size (by simp)).trans (World.alloc_heap_new w (.cells #[.int .i64 0, .int .i64 0] 23)); have c0 : w1.cell? ⟨w.heap.size, 0, none⟩ = some (.int .i64 0) := (by simp only [World.cell?, hx]; rfl); have c1 : w1.cell? ⟨w.heap.size, 1, none⟩ = some (.int .i64 0) := (by simp only [World.cell?, hx]; rfl); have f0 : w1.frozen? ⟨w.heap.size, 0, none⟩ = false := (by simp [World.frozen?, hx]); have f1 : w1.frozen? ⟨w.heap.size, 1, none⟩ = false := (by simp [World.frozen?, hx]); have HX := Aside0.mk hx; have HB1 := Aside0.mk hb1; clear hx hb1)
  refine bodyPost_ret (conn_results _ w.heap.size (.int .i64 c) (.int .i64 o) ?_ _ true rfl rfl) rfl ⟨rfl, ?_⟩
  · have h2 := heap_set2 HX.out (.int .i64 c) (.int .i64 o)
    exact h2
  · exact ((((Below.refl _ w).alloc (Nat.le_refl _) _).trans (HB1.out.mono (by simp))).setCell (Nat.le_refl _) _).setCell (Nat.le_refl _) _
set_option maxRecDepth 100000 in
theorem conn_serve (c : Int) (w : World) : Calls Try.prog 14 #[.iface 46 (.agg #[.int .i64 c])] w fun e w' => e = .returned (.tuple #[.agg #[.int .i64 c, .int .i64 0], .bool true]) ∧ Below w.heap.size w w' := by
  have hE := fun W => eventServe_wp c W
  have hfl : ∀ W, (Instr.field 25 (.agg #[.int .i64 7, .int .i64 c, .int .i64 0, .int .i64 0, .string ⟨#[]⟩]) 1).run Try.prog W = .ok (.agg #[.int .i64 c, .int .i64 0]) W := fun _ => by kernel_rfl
  have hT := ta_no (P := Try.prog) 46 45 27 _ (.agg #[.int .i64 c]) _ Try.underlying45 (fun _ h => by cases h) (by decide) Try.zeroValue45
  have hS := ta_no (P := Try.prog) 46 38 27 _ (.agg #[.int .i64 c]) _ Try.underlying38 (fun _ h => by cases h) (by decide) Try.zeroValue38
  have hD := ta_no (P := Try.prog) 46 40 27 _ (.agg #[.int .i64 c]) _ Try.underlying40 (fun _ h => by cases h) (by decide) Try.zeroValue40
  go_enter Try.func14, Try.ntmps14
  go_wp2_with ((with_reducible refine (hE _).mono ?_); rintro e w1 ⟨rfl, hb1⟩; have hx := (hb1.block w.heap.size (by simp)).trans (World.alloc_heap_new w (.cells #[.int .i64 0, .int .i64 0] 23)); have c0 : w1.cell? ⟨w.heap.size, 0, none⟩ = some (.int .i64 0) := (by simp only [World.cell?, hx]; rfl); have c1 : w1.cell? ⟨w.heap.size, 1, none⟩ = some (.int .i64 0) := (by simp only [World.cell?, hx]; rfl); have f0 : w1.frozen? ⟨w.heap.size, 0, none⟩ = false := (by simp [World.frozen?, hx]); have f1 : w1.frozen? ⟨w.heap.size, 1, none⟩ = false := (by simp [World.frozen?, hx]); have HX := Aside0.mk hx; have HB1 := Aside0.mk hb1; clear hx hb1)
  refine bodyPost_ret (conn_results _ w.heap.size (.int .i64 c) (.int .i64 0) ?_ _ true rfl rfl) rfl ⟨rfl, ?_⟩
  · have h2 := heap_set2 HX.out (.int .i64 c) (.int .i64 0)
    exact h2
  · exact ((((Below.refl _ w).alloc (Nat.le_refl _) _).trans (HB1.out.mono (by simp))).setCell (Nat.le_refl _) _).setCell (Nat.le_refl _) _


end Go.Proofs.Ytkepebaapgkhbaa.X
namespace Go.Proofs.Ytkepebaapgkhbaa.X
open Go.RowKit Go.Proofs.YtkepebaapgkhbaaW.PrintWords Go.Proofs.YtkepebaapgkhbaaW.PrintLast Go.Proofs.YtkepebaapgkhbaaW.PrintMore
attribute [local go_sem] max2_int min2_int max_two min_two max_three min_three max_four min_four   -- for this text's walks alone
set_option linter.unusedVariables false
set_option linter.unusedSimpArgs false

/-! ### abutmentlaw44_ActAsserts: function 5 -/
def abutmentlaw44_ActAsserts.f (a0_0 : Int) (a0_1 : Int) (a0_2 : Int) (a0_3 : Int) (a0_4 : ByteArray) : Option (Bool) := some true
theorem box_alloc {W : World} {g : Nat} {o : Obj} (h : W.heap[g]? = some o) (p : Obj) : (W.alloc p).heap[g]? = some o := (Below.heap_alloc _ _ _ (Array.getElem?_eq_some_iff.1 h).1).trans h
theorem box_cells3 {W : World} {g : Nat} {a b c : Value} {t : TypeId} (h : W.heap[g]? = some (.cells #[a, b, c] t (0, 0))) :
    W.cell? ⟨g, 0, none⟩ = some a ∧ W.cell? ⟨g, 1, none⟩ = some b ∧ W.cell? ⟨g, 2, none⟩ = some c := by
  refine ⟨?_, ?_, ?_⟩ <;> (simp only [World.cell?, h]; rfl)
theorem box_cells2 {W : World} {g : Nat} {a b : Value} {t : TypeId} (h : W.heap[g]? = some (.cells #[a, b] t (0, 0))) :
    W.cell? ⟨g, 0, none⟩ = some a ∧ W.cell? ⟨g, 1, none⟩ = some b := by
  refine ⟨?_, ?_⟩ <;> (simp only [World.cell?, h]; rfl)
section
variable {P : Program} {md : Region.Mode} {ops : Array Oper} {Q : Exit → Act → World → Prop} {S : World → Prop}
/-- An operation taken first, its slot written out. -/
theorem takeH {i d : Nat} {oi : Oper} {v : Value} {fuel : Nat} {listed : Array Bool} {a : Act} {w : World} (hi : ops[i]? = some oi) (hd : oi.dst = some d)
    (hs : Region.noSelect ops = true) (hf : Region.free md ops listed i = true) (hr : (Region.ready md ops listed).contains i = true)
    (hQ : ∀ c a w, Q (.panic c) (a.put oi.dst v) w → Q (.panic c) a w) (hy : YieldsIf P ops S oi v a) (hS : S w)
    (h : wpAnyH P md ops Q S fuel (listed.setIfInBounds i true) { tmps := a.tmps.setIfInBounds d v, defers := a.defers } w) : wpAnyH P md ops Q S (fuel + 1) listed a w := by
  refine wpAnyH_take hi hs hf hr hQ hy hS ?_
  rw [hd]
  exact h
end
theorem nine_next {p0 p1 p2 p3 p4 p5 p6 p7 p8 : Addr} {x0 x1 x2 x3 x4 x5 x6 x7 x8 : Value} {W X : World} (h : W.cell? p0 = some x0 ∧ W.cell? p1 = some x1 ∧ W.cell? p2 = some x2 ∧ W.cell? p3 = some x3 ∧ W.cell? p4 = some x4 ∧ W.cell? p5 = some x5 ∧ W.cell? p6 = some x6 ∧ W.cell? p7 = some x7 ∧ W.cell? p8 = some x8) (hb : Below W.heap.size W X) : X.cell? p0 = some x0 ∧ X.cell? p1 = some x1 ∧ X.cell? p2 = some x2 ∧ X.cell? p3 = some x3 ∧ X.cell? p4 = some x4 ∧ X.cell? p5 = some x5 ∧ X.cell? p6 = some x6 ∧ X.cell? p7 = some x7 ∧ X.cell? p8 = some x8 := by
  obtain ⟨h0, h1, h2, h3, h4, h5, h6, h7, h8⟩ := h
  exact ⟨(hb.cell (World.block_lt_of_cell? W _ h0)).trans h0, (hb.cell (World.block_lt_of_cell? W _ h1)).trans h1, (hb.cell (World.block_lt_of_cell? W _ h2)).trans h2, (hb.cell (World.block_lt_of_cell? W _ h3)).trans h3, (hb.cell (World.block_lt_of_cell? W _ h4)).trans h4, (hb.cell (World.block_lt_of_cell? W _ h5)).trans h5, (hb.cell (World.block_lt_of_cell? W _ h6)).trans h6, (hb.cell (World.block_lt_of_cell? W _ h7)).trans h7, (hb.cell (World.block_lt_of_cell? W _ h8)).trans h8⟩
set_option maxHeartbeats 16000000 in
set_option maxRecDepth 100000 in
theorem abutmentlaw44_ActAsserts.calls (a0_0 : Int) (a0_1 : Int) (a0_2 : Int) (a0_3 : Int) (a0_4 : ByteArray) (r : Bool) (w : World) (h : abutmentlaw44_ActAsserts.f a0_0 a0_1 a0_2 a0_3 a0_4 = some r) :
    Calls Try.prog 5 #[.agg #[.int .i64 a0_0, .int .i64 a0_1, .int .i64 a0_2, .int .i64 a0_3, .string a0_4]] w fun e w' => e = .returned (.bool r) ∧ Below w.heap.size w w' := by
  obtain rfl := Option.some.inj h
  clear h
  by_cases hs : (a0_4.size : Int) ≤ 6000
  · have hsb : decide ((a0_4.size : Int) ≤ 6000) = true := decide_eq_true hs
    cases hr : rightB a0_0 a0_1 a0_2 a0_3 a0_4 with
    | false =>
      have HBw0 := Aside0.mk ((Below.refl w.heap.size w).alloc (Nat.le_refl _) (.cells #[.int .i64 a0_0, .int .i64 a0_1, .int .i64 a0_2, .int .i64 a0_3, .string a0_4] 25))
      have HEw0 := Aside0.mk (World.alloc_heap_new w (.cells #[.int .i64 a0_0, .int .i64 a0_1, .int .i64 a0_2, .int .i64 a0_3, .string a0_4] 25))
      have hL := fun W => abutmentlaw44_lives.calls true W rfl
      have hO := fun W => act_Of_no 1 (a0_0) (a0_1) (a0_2) (a0_3) (a0_4) W (by rw [right_f _ _ _ _ _ 1 (by omega), hr])
      have hF := fun W => abutmentref44_Right.calls 4 (a0_0) (a0_1) (a0_2) (a0_3) (a0_4) false W (by rw [ref_right44 _ _ _ _ _ 4 (by omega), hr])
      have hS := fun W => sent_wp .nilIface 0 0 ⟨#[]⟩ false W sentT_nil
      have hT := fun W => tried_no .nilIface fails_nil W
      have hC := fun W => conn_nil  W
      clear hr
      go_enter Try.func5, Try.ntmps5
      go_wp2_with (first
        | (go_at_call 6; (with_reducible refine (hO _).mono ?_); rintro e w1 ⟨rfl, hb1⟩; have HB1 := Aside0.mk (HBw0.out.trans (hb1.mono HBw0.out.size)); have HE1 := Aside0.mk (box_next HEw0.out hb1); clear hb1)
        | (go_at_call 12; (with_reducible refine (hS _).mono ?_); rintro e w2 ⟨rfl, hb2⟩; have HB2 := Aside0.mk (HB1.out.trans (hb2.mono HB1.out.size)); have HE2 := Aside0.mk (box_alloc (box_next HE1.out hb2) (.cells #[.int .i64 0, .int .i64 0, .string ⟨#[]⟩] 38)); have HS2 := Aside0.mk (World.alloc_heap_new w2 (.cells #[.int .i64 0, .int .i64 0, .string ⟨#[]⟩] 38)); have HB2a := Aside0.mk (HB2.out.alloc HB2.out.size (.cells #[.int .i64 0, .int .i64 0, .string ⟨#[]⟩] 38)); clear hb2)
        | (go_at_call 13; (with_reducible refine (hT _).mono ?_); rintro e w3 ⟨rfl, hb3⟩; have HB3 := Aside0.mk (HB2a.out.trans (hb3.mono HB2a.out.size)); have HE3 := Aside0.mk (box_alloc (box_next HE2.out hb3) (.cells #[.int .i64 0, .int .i64 0, .string ⟨#[]⟩] 38)); have HS3 := Aside0.mk (box_alloc (box_next HS2.out hb3) (.cells #[.int .i64 0, .int .i64 0, .string ⟨#[]⟩] 38)); have HT3 := Aside0.mk (World.alloc_heap_new w3 (.cells #[.int .i64 0, .int .i64 0, .string ⟨#[]⟩] 38)); have HB3a := Aside0.mk (HB3.out.alloc HB3.out.size (.cells #[.int .i64 0, .int .i64 0, .string ⟨#[]⟩] 38)); clear hb3)
        | (go_at_call 14; (with_reducible refine (hC _).mono ?_); rintro e w4 ⟨rfl, hb4⟩; have HB4 := Aside0.mk (HB3a.out.trans (hb4.mono HB3a.out.size)); have HE4 := Aside0.mk (box_alloc (box_next HE3.out hb4) (.cells #[.int .i64 0, .int .i64 0] 23)); have HS4 := Aside0.mk (box_alloc (box_next HS3.out hb4) (.cells #[.int .i64 0, .int .i64 0] 23)); have HT4 := Aside0.mk (box_alloc (box_next HT3.out hb4) (.cells #[.int .i64 0, .int .i64 0] 23)); have HK4 := Aside0.mk (World.alloc_heap_new w4 (.cells #[.int .i64 0, .int .i64 0] 23)); have HB4a := Aside0.mk (HB4.out.alloc HB4.out.size (.cells #[.int .i64 0, .int .i64 0] 23)); obtain ⟨e4_0, e4_1, e4_2, e4_3, e4_4⟩ := box_cells HE4.out; clear hb4)
        | (go_at_call 7; (with_reducible refine (hF _).mono ?_); rintro e w5 ⟨rfl, hb5⟩; have HB5 := Aside0.mk (HB4a.out.trans (hb5.mono HB4a.out.size)); have HE5 := Aside0.mk (box_next HE4.out hb5); have HS5 := Aside0.mk (box_next HS4.out hb5); have HT5 := Aside0.mk (box_next HT4.out hb5); have HK5 := Aside0.mk (box_next HK4.out hb5); obtain ⟨e5_0, e5_1, e5_2, e5_3, e5_4⟩ := box_cells HE5.out; obtain ⟨s5_0, s5_1, s5_2⟩ := box_cells3 HS5.out; obtain ⟨t5_0, t5_1, t5_2⟩ := box_cells3 HT5.out; obtain ⟨k5_0, k5_1⟩ := box_cells2 HK5.out; clear hb5))
      go_quiet (fail)
      all_goals
        go_wp2_with (go_at_call 11; refine (hL _).mono ?_; rintro e w7 ⟨rfl, hb7⟩; have HB7 := Aside0.mk hb7; clear hb7)
        go_ret
        exact ⟨rfl, (pw_below_drewN HB5.out nq).trans (HB7.out.mono (pw_below_drewN HB5.out nq).size)⟩
    | true =>
      obtain ⟨hop, h1o, h1n, h6, h67⟩ := right_spec _ _ _ _ _ hr
      obtain h | h | h | h | h | h | h : a0_0 = 1 ∨ a0_0 = 2 ∨ a0_0 = 3 ∨ a0_0 = 4 ∨ a0_0 = 5 ∨ a0_0 = 6 ∨ a0_0 = 7 := by omega
      · subst h
        have ho := h1o (by decide)
        subst ho
        have hn := h1n (by decide)
        subst hn
        clear hop h1o h1n h6 h67
        have HBw0 := Aside0.mk ((Below.refl w.heap.size w).alloc (Nat.le_refl _) (.cells #[.int .i64 1, .int .i64 a0_1, .int .i64 0, .int .i64 0, .string a0_4] 25))
        have HEw0 := Aside0.mk (World.alloc_heap_new w (.cells #[.int .i64 1, .int .i64 a0_1, .int .i64 0, .int .i64 0, .string a0_4] 25))
        have hL := fun W => abutmentlaw44_lives.calls true W rfl
        have hO := fun W => act_Of_yes 1 (1) (a0_1) (0) (0) (a0_4) W (by rw [right_f _ _ _ _ _ 1 (by omega), hr]) (by decide)
        have hF := fun W => abutmentref44_Right.calls 4 (1) (a0_1) (0) (0) (a0_4) true W (by rw [ref_right44 _ _ _ _ _ 4 (by omega), hr])
        unfold actV at hO
        rw [if_pos rfl] at hO
        have hS := fun W => sent_wp (.iface 36 (.agg #[.int .i64 a0_1])) 0 0 ⟨#[]⟩ false W (sentT_no _ _ (by decide))
        have hT := fun W => tried_no (.iface 36 (.agg #[.int .i64 a0_1])) (fails_other _ _ (by decide)) W
        have hC := fun W => conn_open (a0_1) W
        clear hr
        go_enter Try.func5, Try.ntmps5
        go_wp2_with (first
          | (go_at_call 6; (with_reducible refine (hO _).mono ?_); rintro e w1 ⟨rfl, hb1⟩; have HB1 := Aside0.mk (HBw0.out.trans (hb1.mono HBw0.out.size)); have HE1 := Aside0.mk (box_next HEw0.out hb1); clear hb1)
          | (go_at_call 12; (with_reducible refine (hS _).mono ?_); rintro e w2 ⟨rfl, hb2⟩; have HB2 := Aside0.mk (HB1.out.trans (hb2.mono HB1.out.size)); have HE2 := Aside0.mk (box_alloc (box_next HE1.out hb2) (.cells #[.int .i64 0, .int .i64 0, .string ⟨#[]⟩] 38)); have HS2 := Aside0.mk (World.alloc_heap_new w2 (.cells #[.int .i64 0, .int .i64 0, .string ⟨#[]⟩] 38)); have HB2a := Aside0.mk (HB2.out.alloc HB2.out.size (.cells #[.int .i64 0, .int .i64 0, .string ⟨#[]⟩] 38)); clear hb2)
          | (go_at_call 13; (with_reducible refine (hT _).mono ?_); rintro e w3 ⟨rfl, hb3⟩; have HB3 := Aside0.mk (HB2a.out.trans (hb3.mono HB2a.out.size)); have HE3 := Aside0.mk (box_alloc (box_next HE2.out hb3) (.cells #[.int .i64 0, .int .i64 0, .string ⟨#[]⟩] 38)); have HS3 := Aside0.mk (box_alloc (box_next HS2.out hb3) (.cells #[.int .i64 0, .int .i64 0, .string ⟨#[]⟩] 38)); have HT3 := Aside0.mk (World.alloc_heap_new w3 (.cells #[.int .i64 0, .int .i64 0, .string ⟨#[]⟩] 38)); have HB3a := Aside0.mk (HB3.out.alloc HB3.out.size (.cells #[.int .i64 0, .int .i64 0, .string ⟨#[]⟩] 38)); clear hb3)
          | (go_at_call 14; (with_reducible refine (hC _).mono ?_); rintro e w4 ⟨rfl, hb4⟩; have HB4 := Aside0.mk (HB3a.out.trans (hb4.mono HB3a.out.size)); have HE4 := Aside0.mk (box_alloc (box_next HE3.out hb4) (.cells #[.int .i64 a0_1, .int .i64 0] 23)); have HS4 := Aside0.mk (box_alloc (box_next HS3.out hb4) (.cells #[.int .i64 a0_1, .int .i64 0] 23)); have HT4 := Aside0.mk (box_alloc (box_next HT3.out hb4) (.cells #[.int .i64 a0_1, .int .i64 0] 23)); have HK4 := Aside0.mk (World.alloc_heap_new w4 (.cells #[.int .i64 a0_1, .int .i64 0] 23)); have HB4a := Aside0.mk (HB4.out.alloc HB4.out.size (.cells #[.int .i64 a0_1, .int .i64 0] 23)); obtain ⟨e4_0, e4_1, e4_2, e4_3, e4_4⟩ := box_cells HE4.out; clear hb4)
          | (go_at_call 7; (with_reducible refine (hF _).mono ?_); rintro e w5 ⟨rfl, hb5⟩; have HB5 := Aside0.mk (HB4a.out.trans (hb5.mono HB4a.out.size)); have HE5 := Aside0.mk (box_next HE4.out hb5); have HS5 := Aside0.mk (box_next HS4.out hb5); have HT5 := Aside0.mk (box_next HT4.out hb5); have HK5 := Aside0.mk (box_next HK4.out hb5); obtain ⟨e5_0, e5_1, e5_2, e5_3, e5_4⟩ := box_cells HE5.out; obtain ⟨s5_0, s5_1, s5_2⟩ := box_cells3 HS5.out; obtain ⟨t5_0, t5_1, t5_2⟩ := box_cells3 HT5.out; obtain ⟨k5_0, k5_1⟩ := box_cells2 HK5.out; clear hb5))
        go_quiet (fail)
        all_goals
          go_wp2_with (go_at_call 11; refine (hL _).mono ?_; rintro e w7 ⟨rfl, hb7⟩; have HB7 := Aside0.mk hb7; clear hb7)
          go_ret
          exact ⟨rfl, (pw_below_drewN HB5.out nq).trans (HB7.out.mono (pw_below_drewN HB5.out nq).size)⟩
      · subst h
        have hn := h1n (by decide)
        subst hn
        clear hop h1o h1n h6 h67
        have HBw0 := Aside0.mk ((Below.refl w.heap.size w).alloc (Nat.le_refl _) (.cells #[.int .i64 2, .int .i64 a0_1, .int .i64 a0_2, .int .i64 0, .string a0_4] 25))
        have HEw0 := Aside0.mk (World.alloc_heap_new w (.cells #[.int .i64 2, .int .i64 a0_1, .int .i64 a0_2, .int .i64 0, .string a0_4] 25))
        have hL := fun W => abutmentlaw44_lives.calls true W rfl
        have hO := fun W => act_Of_yes 1 (2) (a0_1) (a0_2) (0) (a0_4) W (by rw [right_f _ _ _ _ _ 1 (by omega), hr]) (by decide)
        have hF := fun W => abutmentref44_Right.calls 4 (2) (a0_1) (a0_2) (0) (a0_4) true W (by rw [ref_right44 _ _ _ _ _ 4 (by omega), hr])
        unfold actV at hO
        rw [if_neg (by decide), if_pos rfl] at hO
        have hS := fun W => sent_wp _ (a0_1) (a0_2) (a0_4) true W (sentT_yes _ _ _)
        have hT := fun W => tried_yes (a0_1) (a0_2) (a0_4) W
        have hM := fun W => must_yes (a0_1) (a0_2) (a0_4) W
        have hC := fun W => conn_send (a0_1) (a0_2) (a0_4) W
        clear hr
        go_enter Try.func5, Try.ntmps5
        go_wp2_with (first
          | (go_at_call 6; (with_reducible refine (hO _).mono ?_); rintro e w1 ⟨rfl, hb1⟩; have HB1 := Aside0.mk (HBw0.out.trans (hb1.mono HBw0.out.size)); have HE1 := Aside0.mk (box_next HEw0.out hb1); clear hb1)
          | (go_at_call 12; (with_reducible refine (hS _).mono ?_); rintro e w2 ⟨rfl, hb2⟩; have HB2 := Aside0.mk (HB1.out.trans (hb2.mono HB1.out.size)); have HE2 := Aside0.mk (box_alloc (box_next HE1.out hb2) (.cells #[.int .i64 a0_1, .int .i64 a0_2, .string a0_4] 38)); have HS2 := Aside0.mk (World.alloc_heap_new w2 (.cells #[.int .i64 a0_1, .int .i64 a0_2, .string a0_4] 38)); have HB2a := Aside0.mk (HB2.out.alloc HB2.out.size (.cells #[.int .i64 a0_1, .int .i64 a0_2, .string a0_4] 38)); clear hb2)
          | (go_at_call 13; (with_reducible refine (hT _).mono ?_); rintro e w3 ⟨rfl, hb3⟩; have HB3 := Aside0.mk (HB2a.out.trans (hb3.mono HB2a.out.size)); have HE3 := Aside0.mk (box_alloc (box_next HE2.out hb3) (.cells #[.int .i64 a0_1, .int .i64 a0_2, .string a0_4] 38)); have HS3 := Aside0.mk (box_alloc (box_next HS2.out hb3) (.cells #[.int .i64 a0_1, .int .i64 a0_2, .string a0_4] 38)); have HT3 := Aside0.mk (World.alloc_heap_new w3 (.cells #[.int .i64 a0_1, .int .i64 a0_2, .string a0_4] 38)); have HB3a := Aside0.mk (HB3.out.alloc HB3.out.size (.cells #[.int .i64 a0_1, .int .i64 a0_2, .string a0_4] 38)); clear hb3)
          | (go_at_call 14; (with_reducible refine (hC _).mono ?_); rintro e w4 ⟨rfl, hb4⟩; have HB4 := Aside0.mk (HB3a.out.trans (hb4.mono HB3a.out.size)); have HE4 := Aside0.mk (box_alloc (box_next HE3.out hb4) (.cells #[.int .i64 a0_1, .int .i64 a0_2] 23)); have HS4 := Aside0.mk (box_alloc (box_next HS3.out hb4) (.cells #[.int .i64 a0_1, .int .i64 a0_2] 23)); have HT4 := Aside0.mk (box_alloc (box_next HT3.out hb4) (.cells #[.int .i64 a0_1, .int .i64 a0_2] 23)); have HK4 := Aside0.mk (World.alloc_heap_new w4 (.cells #[.int .i64 a0_1, .int .i64 a0_2] 23)); have HB4a := Aside0.mk (HB4.out.alloc HB4.out.size (.cells #[.int .i64 a0_1, .int .i64 a0_2] 23)); obtain ⟨e4_0, e4_1, e4_2, e4_3, e4_4⟩ := box_cells HE4.out; clear hb4)
          | (go_at_call 7; (with_reducible refine (hF _).mono ?_); rintro e w5 ⟨rfl, hb5⟩; have HB5 := Aside0.mk (HB4a.out.trans (hb5.mono HB4a.out.size)); have HE5 := Aside0.mk (box_next HE4.out hb5); have HS5 := Aside0.mk (box_next HS4.out hb5); have HT5 := Aside0.mk (box_next HT4.out hb5); have HK5 := Aside0.mk (box_next HK4.out hb5); obtain ⟨e5_0, e5_1, e5_2, e5_3, e5_4⟩ := box_cells HE5.out; obtain ⟨s5_0, s5_1, s5_2⟩ := box_cells3 HS5.out; obtain ⟨t5_0, t5_1, t5_2⟩ := box_cells3 HT5.out; obtain ⟨k5_0, k5_1⟩ := box_cells2 HK5.out; clear hb5))
        have hS9 : w5.cell? ⟨w.heap.size, 1, none⟩ = some (.int .i64 a0_1) ∧ w5.cell? ⟨w.heap.size, 2, none⟩ = some (.int .i64 a0_2) ∧ w5.cell? ⟨w.heap.size, 4, none⟩ = some (.string a0_4) ∧ w5.cell? ⟨w2.heap.size, 0, none⟩ = some (.int .i64 a0_1) ∧ w5.cell? ⟨w2.heap.size, 1, none⟩ = some (.int .i64 a0_2) ∧ w5.cell? ⟨w2.heap.size, 2, none⟩ = some (.string a0_4) ∧ w5.cell? ⟨w3.heap.size, 0, none⟩ = some (.int .i64 a0_1) ∧ w5.cell? ⟨w3.heap.size, 1, none⟩ = some (.int .i64 a0_2) ∧ w5.cell? ⟨w3.heap.size, 2, none⟩ = some (.string a0_4) := ⟨e5_1, e5_2, e5_4, s5_0, s5_1, s5_2, t5_0, t5_1, t5_2⟩
        have HS9 := Aside0.mk hS9
        clear hS9 e4_0 e4_1 e4_2 e4_3 e4_4 e5_0 e5_1 e5_2 e5_3 e5_4 s5_0 s5_1 s5_2 t5_0 t5_1 t5_2 k5_0 k5_1
        refine wp_region_held_drew (S := fun w' => w'.cell? ⟨w.heap.size, 1, none⟩ = some (.int .i64 a0_1) ∧ w'.cell? ⟨w.heap.size, 2, none⟩ = some (.int .i64 a0_2) ∧ w'.cell? ⟨w.heap.size, 4, none⟩ = some (.string a0_4) ∧ w'.cell? ⟨w2.heap.size, 0, none⟩ = some (.int .i64 a0_1) ∧ w'.cell? ⟨w2.heap.size, 1, none⟩ = some (.int .i64 a0_2) ∧ w'.cell? ⟨w2.heap.size, 2, none⟩ = some (.string a0_4) ∧ w'.cell? ⟨w3.heap.size, 0, none⟩ = some (.int .i64 a0_1) ∧ w'.cell? ⟨w3.heap.size, 1, none⟩ = some (.int .i64 a0_2) ∧ w'.cell? ⟨w3.heap.size, 2, none⟩ = some (.string a0_4)) (by kernel_rfl) HS9.out (fun hHeld => ?_)
        refine takeH (i := 0) (d := 49) (v := ?v0_b) rfl rfl (by kernel_rfl) (by kernel_rfl) (by kernel_rfl) (fun _ _ _ h => h) (Or.inl ⟨by rfl, ?y0_b⟩) (by assumption) ?_
        case y0_b => intro w hSw; (try dsimp only at hSw); go_split_ands; go_simp; first | done | (with_reducible rfl)
        try simp only [List.setIfInBounds_toArray, List.set_cons_zero, List.set_cons_succ]
        refine takeH (i := 1) (d := 50) (v := ?v1_b) rfl rfl (by kernel_rfl) (by kernel_rfl) (by kernel_rfl) (fun _ _ _ h => h) (Or.inl ⟨by rfl, ?y1_b⟩) (by assumption) ?_
        case y1_b => intro w hSw; (try dsimp only at hSw); go_split_ands; go_simp; first | done | (with_reducible rfl)
        try simp only [List.setIfInBounds_toArray, List.set_cons_zero, List.set_cons_succ]
        refine takeH (i := 2) (d := 51) (v := ?v2_b) rfl rfl (by kernel_rfl) (by kernel_rfl) (by kernel_rfl) (fun _ _ _ h => h) (Or.inl ⟨by rfl, ?y2_b⟩) (by assumption) ?_
        case y2_b => intro w hSw; (try dsimp only at hSw); go_split_ands; go_simp; first | done | (with_reducible rfl)
        try simp only [List.setIfInBounds_toArray, List.set_cons_zero, List.set_cons_succ]
        refine takeH (i := 4) (d := 53) (v := ?v4_b) rfl rfl (by kernel_rfl) (by kernel_rfl) (by kernel_rfl) (fun _ _ _ h => h) (Or.inl ⟨by rfl, ?y4_b⟩) (by assumption) ?_
        case y4_b => intro w hSw; (try dsimp only at hSw); go_split_ands; go_simp; first | done | (with_reducible rfl)
        try simp only [List.setIfInBounds_toArray, List.set_cons_zero, List.set_cons_succ]
        refine wpAnyH_ready (rs := [3]) (by kernel_rfl) (by simp) ?_
        refine AllReadyH.cons rfl (fun K hK => ?_) AllReadyH.nil
        go_simp
        go_wp2_with ((with_reducible refine (hM _).mono ?_); rintro e w6 ⟨rfl, hb6⟩; have HB6 := Aside0.mk (HB5.out.drew.trans (hb6.mono HB5.out.size)); have HE6 := Aside0.mk (box_next (W := w5.drew) HE5.out hb6); have HK6 := Aside0.mk (box_next (W := w5.drew) HK5.out hb6); have HN6 := Aside0.mk (nine_next (W := w5.drew) HS9.out hb6))
        refine hK.out _ _ HN6.out (fun hHeld6 => ?_)
        clear hK K
        refine takeH (i := 5) (d := 54) (v := ?v5_b) rfl rfl (by kernel_rfl) (by kernel_rfl) (by kernel_rfl) (fun _ _ _ h => h) (Or.inl ⟨by rfl, ?y5_b⟩) (by assumption) ?_
        case y5_b => intro w hSw; (try dsimp only at hSw); go_split_ands; go_simp; first | done | (with_reducible rfl)
        try simp only [List.setIfInBounds_toArray, List.set_cons_zero, List.set_cons_succ]
        refine takeH (i := 6) (d := 55) (v := ?v6_b) rfl rfl (by kernel_rfl) (by kernel_rfl) (by kernel_rfl) (fun _ _ _ h => h) (Or.inl ⟨by rfl, ?y6_b⟩) (by assumption) ?_
        case y6_b => intro w hSw; (try dsimp only at hSw); go_split_ands; go_simp; first | done | (with_reducible rfl)
        try simp only [List.setIfInBounds_toArray, List.set_cons_zero, List.set_cons_succ]
        refine takeH (i := 7) (d := 56) (v := ?v7_b) rfl rfl (by kernel_rfl) (by kernel_rfl) (by kernel_rfl) (fun _ _ _ h => h) (Or.inl ⟨by rfl, ?y7_b⟩) (by assumption) ?_
        case y7_b => intro w hSw; (try dsimp only at hSw); go_split_ands; go_simp; first | done | (with_reducible rfl)
        try simp only [List.setIfInBounds_toArray, List.set_cons_zero, List.set_cons_succ]
        refine takeH (i := 8) (d := 57) (v := ?v8_b) rfl rfl (by kernel_rfl) (by kernel_rfl) (by kernel_rfl) (fun _ _ _ h => h) (Or.inl ⟨by rfl, ?y8_b⟩) (by assumption) ?_
        case y8_b => intro w hSw; (try dsimp only at hSw); go_split_ands; go_simp; first | done | (with_reducible rfl)
        try simp only [List.setIfInBounds_toArray, List.set_cons_zero, List.set_cons_succ]
        refine takeH (i := 9) (d := 58) (v := ?v9_b) rfl rfl (by kernel_rfl) (by kernel_rfl) (by kernel_rfl) (fun _ _ _ h => h) (Or.inl ⟨by rfl, ?y9_b⟩) (by assumption) ?_
        case y9_b => intro w hSw; (try dsimp only at hSw); go_split_ands; go_simp; first | done | (with_reducible rfl)
        try simp only [List.setIfInBounds_toArray, List.set_cons_zero, List.set_cons_succ]
        refine takeH (i := 10) (d := 59) (v := ?v10_b) rfl rfl (by kernel_rfl) (by kernel_rfl) (by kernel_rfl) (fun _ _ _ h => h) (Or.inl ⟨by rfl, ?y10_b⟩) (by assumption) ?_
        case y10_b => intro w hSw; (try dsimp only at hSw); go_split_ands; go_simp; first | done | (with_reducible rfl)
        try simp only [List.setIfInBounds_toArray, List.set_cons_zero, List.set_cons_succ]
        refine takeH (i := 11) (d := 60) (v := ?v11_b) rfl rfl (by kernel_rfl) (by kernel_rfl) (by kernel_rfl) (fun _ _ _ h => h) (Or.inl ⟨by rfl, ?y11_b⟩) (by assumption) ?_
        case y11_b => intro w hSw; (try dsimp only at hSw); go_split_ands; go_simp; first | done | (with_reducible rfl)
        try simp only [List.setIfInBounds_toArray, List.set_cons_zero, List.set_cons_succ]
        refine takeH (i := 12) (d := 61) (v := ?v12_b) rfl rfl (by kernel_rfl) (by kernel_rfl) (by kernel_rfl) (fun _ _ _ h => h) (Or.inl ⟨by rfl, ?y12_b⟩) (by assumption) ?_
        case y12_b => intro w hSw; (try dsimp only at hSw); go_split_ands; go_simp; first | done | (with_reducible rfl)
        try simp only [List.setIfInBounds_toArray, List.set_cons_zero, List.set_cons_succ]
        refine takeH (i := 13) (d := 62) (v := ?v13_b) rfl rfl (by kernel_rfl) (by kernel_rfl) (by kernel_rfl) (fun _ _ _ h => h) (Or.inl ⟨by rfl, ?y13_b⟩) (by assumption) ?_
        case y13_b => intro w hSw; (try dsimp only at hSw); go_split_ands; go_simp; first | done | (with_reducible rfl)
        try simp only [List.setIfInBounds_toArray, List.set_cons_zero, List.set_cons_succ]
        refine takeH (i := 14) (d := 63) (v := ?v14_b) rfl rfl (by kernel_rfl) (by kernel_rfl) (by kernel_rfl) (fun _ _ _ h => h) (Or.inl ⟨by rfl, ?y14_b⟩) (by assumption) ?_
        case y14_b => intro w hSw; (try dsimp only at hSw); go_split_ands; go_simp; first | done | (with_reducible rfl)
        try simp only [List.setIfInBounds_toArray, List.set_cons_zero, List.set_cons_succ]
        refine takeH (i := 15) (d := 64) (v := ?v15_b) rfl rfl (by kernel_rfl) (by kernel_rfl) (by kernel_rfl) (fun _ _ _ h => h) (Or.inl ⟨by rfl, ?y15_b⟩) (by assumption) ?_
        case y15_b => intro w hSw; (try dsimp only at hSw); go_split_ands; go_simp; first | done | (with_reducible rfl)
        try simp only [List.setIfInBounds_toArray, List.set_cons_zero, List.set_cons_succ]
        refine takeH (i := 16) (d := 65) (v := ?v16_b) rfl rfl (by kernel_rfl) (by kernel_rfl) (by kernel_rfl) (fun _ _ _ h => h) (Or.inl ⟨by rfl, ?y16_b⟩) (by assumption) ?_
        case y16_b => intro w hSw; (try dsimp only at hSw); go_split_ands; go_simp; first | done | (with_reducible rfl)
        try simp only [List.setIfInBounds_toArray, List.set_cons_zero, List.set_cons_succ]
        refine takeH (i := 17) (d := 66) (v := ?v17_b) rfl rfl (by kernel_rfl) (by kernel_rfl) (by kernel_rfl) (fun _ _ _ h => h) (Or.inl ⟨by rfl, ?y17_b⟩) (by assumption) ?_
        case y17_b => intro w hSw; (try dsimp only at hSw); go_split_ands; go_simp; first | done | (with_reducible rfl)
        try simp only [List.setIfInBounds_toArray, List.set_cons_zero, List.set_cons_succ]
        refine takeH (i := 18) (d := 67) (v := ?v18_b) rfl rfl (by kernel_rfl) (by kernel_rfl) (by kernel_rfl) (fun _ _ _ h => h) (Or.inl ⟨by rfl, ?y18_b⟩) (by assumption) ?_
        case y18_b => intro w hSw; (try dsimp only at hSw); go_split_ands; go_simp; first | done | (with_reducible rfl)
        try simp only [List.setIfInBounds_toArray, List.set_cons_zero, List.set_cons_succ]
        refine takeH (i := 19) (d := 68) (v := ?v19_b) rfl rfl (by kernel_rfl) (by kernel_rfl) (by kernel_rfl) (fun _ _ _ h => h) (Or.inl ⟨by rfl, ?y19_b⟩) (by assumption) ?_
        case y19_b => intro w hSw; (try dsimp only at hSw); go_split_ands; go_simp; first | done | (with_reducible rfl)
        try simp only [List.setIfInBounds_toArray, List.set_cons_zero, List.set_cons_succ]
        refine takeH (i := 20) (d := 69) (v := ?v20_b) rfl rfl (by kernel_rfl) (by kernel_rfl) (by kernel_rfl) (fun _ _ _ h => h) (Or.inl ⟨by rfl, ?y20_b⟩) (by assumption) ?_
        case y20_b => intro w hSw; (try dsimp only at hSw); go_split_ands; go_simp; first | done | (with_reducible rfl)
        try simp only [List.setIfInBounds_toArray, List.set_cons_zero, List.set_cons_succ]
        refine takeH (i := 21) (d := 70) (v := ?v21_b) rfl rfl (by kernel_rfl) (by kernel_rfl) (by kernel_rfl) (fun _ _ _ h => h) (Or.inl ⟨by rfl, ?y21_b⟩) (by assumption) ?_
        case y21_b => intro w hSw; (try dsimp only at hSw); go_split_ands; go_simp; first | done | (with_reducible rfl)
        try simp only [List.setIfInBounds_toArray, List.set_cons_zero, List.set_cons_succ]
        refine takeH (i := 22) (d := 71) (v := ?v22_b) rfl rfl (by kernel_rfl) (by kernel_rfl) (by kernel_rfl) (fun _ _ _ h => h) (Or.inl ⟨by rfl, ?y22_b⟩) (by assumption) ?_
        case y22_b => intro w hSw; (try dsimp only at hSw); go_split_ands; go_simp; first | done | (with_reducible rfl)
        try simp only [List.setIfInBounds_toArray, List.set_cons_zero, List.set_cons_succ]
        refine takeH (i := 23) (d := 72) (v := ?v23_b) rfl rfl (by kernel_rfl) (by kernel_rfl) (by kernel_rfl) (fun _ _ _ h => h) (Or.inl ⟨by rfl, ?y23_b⟩) (by assumption) ?_
        case y23_b => intro w hSw; (try dsimp only at hSw); go_split_ands; go_simp; first | done | (with_reducible rfl)
        try simp only [List.setIfInBounds_toArray, List.set_cons_zero, List.set_cons_succ]
        refine takeH (i := 24) (d := 73) (v := ?v24_b) rfl rfl (by kernel_rfl) (by kernel_rfl) (by kernel_rfl) (fun _ _ _ h => h) (Or.inl ⟨by rfl, ?y24_b⟩) (by assumption) ?_
        case y24_b => intro w hSw; (try dsimp only at hSw); go_split_ands; go_simp; first | done | (with_reducible rfl)
        try simp only [List.setIfInBounds_toArray, List.set_cons_zero, List.set_cons_succ]
        refine takeH (i := 25) (d := 74) (v := ?v25_b) rfl rfl (by kernel_rfl) (by kernel_rfl) (by kernel_rfl) (fun _ _ _ h => h) (Or.inl ⟨by rfl, ?y25_b⟩) (by assumption) ?_
        case y25_b => intro w hSw; (try dsimp only at hSw); go_split_ands; go_simp; first | done | (with_reducible rfl)
        try simp only [List.setIfInBounds_toArray, List.set_cons_zero, List.set_cons_succ]
        refine takeH (i := 26) (d := 75) (v := ?v26_b) rfl rfl (by kernel_rfl) (by kernel_rfl) (by kernel_rfl) (fun _ _ _ h => h) (Or.inl ⟨by rfl, ?y26_b⟩) (by assumption) ?_
        case y26_b => intro w hSw; (try dsimp only at hSw); go_split_ands; go_simp; first | done | (with_reducible rfl)
        try simp only [List.setIfInBounds_toArray, List.set_cons_zero, List.set_cons_succ]
        refine takeH (i := 27) (d := 76) (v := ?v27_b) rfl rfl (by kernel_rfl) (by kernel_rfl) (by kernel_rfl) (fun _ _ _ h => h) (Or.inl ⟨by rfl, ?y27_b⟩) (by assumption) ?_
        case y27_b => intro w hSw; (try dsimp only at hSw); go_split_ands; go_simp; first | done | (with_reducible rfl)
        try simp only [List.setIfInBounds_toArray, List.set_cons_zero, List.set_cons_succ]
        refine takeH (i := 28) (d := 77) (v := ?v28_b) rfl rfl (by kernel_rfl) (by kernel_rfl) (by kernel_rfl) (fun _ _ _ h => h) (Or.inl ⟨by rfl, ?y28_b⟩) (by assumption) ?_
        case y28_b => intro w hSw; (try dsimp only at hSw); go_split_ands; go_simp; first | done | (with_reducible rfl)
        try simp only [List.setIfInBounds_toArray, List.set_cons_zero, List.set_cons_succ]
        refine takeH (i := 29) (d := 78) (v := ?v29_b) rfl rfl (by kernel_rfl) (by kernel_rfl) (by kernel_rfl) (fun _ _ _ h => h) (Or.inl ⟨by rfl, ?y29_b⟩) (by assumption) ?_
        case y29_b => intro w hSw; (try dsimp only at hSw); go_split_ands; go_simp; first | done | (with_reducible rfl)
        try simp only [List.setIfInBounds_toArray, List.set_cons_zero, List.set_cons_succ]
        refine takeH (i := 30) (d := 79) (v := ?v30_b) rfl rfl (by kernel_rfl) (by kernel_rfl) (by kernel_rfl) (fun _ _ _ h => h) (Or.inl ⟨by rfl, ?y30_b⟩) (by assumption) ?_
        case y30_b => intro w hSw; (try dsimp only at hSw); go_split_ands; go_simp; first | done | (with_reducible rfl)
        try simp only [List.setIfInBounds_toArray, List.set_cons_zero, List.set_cons_succ]
        refine takeH (i := 31) (d := 80) (v := ?v31_b) rfl rfl (by kernel_rfl) (by kernel_rfl) (by kernel_rfl) (fun _ _ _ h => h) (Or.inl ⟨by rfl, ?y31_b⟩) (by assumption) ?_
        case y31_b => intro w hSw; (try dsimp only at hSw); go_split_ands; go_simp; first | done | (with_reducible rfl)
        try simp only [List.setIfInBounds_toArray, List.set_cons_zero, List.set_cons_succ]
        refine takeH (i := 32) (d := 81) (v := ?v32_b) rfl rfl (by kernel_rfl) (by kernel_rfl) (by kernel_rfl) (fun _ _ _ h => h) (Or.inl ⟨by rfl, ?y32_b⟩) (by assumption) ?_
        case y32_b => intro w hSw; (try dsimp only at hSw); go_split_ands; go_simp; first | done | (with_reducible rfl)
        try simp only [List.setIfInBounds_toArray, List.set_cons_zero, List.set_cons_succ]
        refine takeH (i := 33) (d := 82) (v := ?v33_b) rfl rfl (by kernel_rfl) (by kernel_rfl) (by kernel_rfl) (fun _ _ _ h => h) (Or.inl ⟨by rfl, ?y33_b⟩) (by assumption) ?_
        case y33_b => intro w hSw; (try dsimp only at hSw); go_split_ands; go_simp; first | done | (with_reducible rfl)
        try simp only [List.setIfInBounds_toArray, List.set_cons_zero, List.set_cons_succ]
        refine takeH (i := 34) (d := 83) (v := ?v34_b) rfl rfl (by kernel_rfl) (by kernel_rfl) (by kernel_rfl) (fun _ _ _ h => h) (Or.inl ⟨by rfl, ?y34_b⟩) (by assumption) ?_
        case y34_b => intro w hSw; (try dsimp only at hSw); go_split_ands; go_simp; first | done | (with_reducible rfl)
        try simp only [List.setIfInBounds_toArray, List.set_cons_zero, List.set_cons_succ]
        refine takeH (i := 35) (d := 84) (v := ?v35_b) rfl rfl (by kernel_rfl) (by kernel_rfl) (by kernel_rfl) (fun _ _ _ h => h) (Or.inl ⟨by rfl, ?y35_b⟩) (by assumption) ?_
        case y35_b => intro w hSw; (try dsimp only at hSw); go_split_ands; go_simp; first | done | (with_reducible rfl)
        try simp only [List.setIfInBounds_toArray, List.set_cons_zero, List.set_cons_succ]
        refine takeH (i := 36) (d := 85) (v := ?v36_b) rfl rfl (by kernel_rfl) (by kernel_rfl) (by kernel_rfl) (fun _ _ _ h => h) (Or.inl ⟨by rfl, ?y36_b⟩) (by assumption) ?_
        case y36_b => intro w hSw; (try dsimp only at hSw); go_split_ands; go_simp; first | done | (with_reducible rfl)
        try simp only [List.setIfInBounds_toArray, List.set_cons_zero, List.set_cons_succ]
        refine takeH (i := 37) (d := 86) (v := ?v37_b) rfl rfl (by kernel_rfl) (by kernel_rfl) (by kernel_rfl) (fun _ _ _ h => h) (Or.inl ⟨by rfl, ?y37_b⟩) (by assumption) ?_
        case y37_b => intro w hSw; (try dsimp only at hSw); go_split_ands; go_simp; first | done | (with_reducible rfl)
        try simp only [List.setIfInBounds_toArray, List.set_cons_zero, List.set_cons_succ]
        refine takeH (i := 38) (d := 87) (v := undef) rfl rfl (by kernel_rfl) (by kernel_rfl) (by kernel_rfl) (fun _ _ _ h => h) (Or.inr ⟨by rfl, rfl⟩) (by assumption) ?_
        try simp only [List.setIfInBounds_toArray, List.set_cons_zero, List.set_cons_succ]
        refine takeH (i := 39) (d := 88) (v := undef) rfl rfl (by kernel_rfl) (by kernel_rfl) (by kernel_rfl) (fun _ _ _ h => h) (Or.inr ⟨by rfl, rfl⟩) (by assumption) ?_
        try simp only [List.setIfInBounds_toArray, List.set_cons_zero, List.set_cons_succ]
        refine takeH (i := 40) (d := 89) (v := undef) rfl rfl (by kernel_rfl) (by kernel_rfl) (by kernel_rfl) (fun _ _ _ h => h) (Or.inr ⟨by rfl, rfl⟩) (by assumption) ?_
        try simp only [List.setIfInBounds_toArray, List.set_cons_zero, List.set_cons_succ]
        refine takeH (i := 41) (d := 90) (v := ?v41_b) rfl rfl (by kernel_rfl) (by kernel_rfl) (by kernel_rfl) (fun _ _ _ h => h) (Or.inl ⟨by rfl, ?y41_b⟩) (by assumption) ?_
        case y41_b => intro w hSw; (try dsimp only at hSw); go_split_ands; go_simp; first | done | (with_reducible rfl)
        try simp only [List.setIfInBounds_toArray, List.set_cons_zero, List.set_cons_succ]
        refine takeH (i := 42) (d := 91) (v := ?v42_b) rfl rfl (by kernel_rfl) (by kernel_rfl) (by kernel_rfl) (fun _ _ _ h => h) (Or.inl ⟨by rfl, ?y42_b⟩) (by assumption) ?_
        case y42_b => intro w hSw; (try dsimp only at hSw); go_split_ands; go_simp; first | done | (with_reducible rfl)
        try simp only [List.setIfInBounds_toArray, List.set_cons_zero, List.set_cons_succ]
        refine wpAnyH_done (by kernel_rfl) ?_ _
        all_goals
          obtain ⟨e6_0, e6_1, e6_2, e6_3, e6_4⟩ := box_cells HE6.out
          obtain ⟨k6_0, k6_1⟩ := box_cells2 HK6.out
          go_wp2_with (go_at_call 11; refine (hL _).mono ?_; rintro e w7 ⟨rfl, hb7⟩; have HB7 := Aside0.mk hb7; clear hb7)
          go_ret
          exact ⟨rfl, HB6.out.trans (HB7.out.mono HB6.out.size)⟩
      · subst h
        have hn := h1n (by decide)
        subst hn
        clear hop h1o h1n h6 h67
        have HBw0 := Aside0.mk ((Below.refl w.heap.size w).alloc (Nat.le_refl _) (.cells #[.int .i64 3, .int .i64 a0_1, .int .i64 a0_2, .int .i64 0, .string a0_4] 25))
        have HEw0 := Aside0.mk (World.alloc_heap_new w (.cells #[.int .i64 3, .int .i64 a0_1, .int .i64 a0_2, .int .i64 0, .string a0_4] 25))
        have hL := fun W => abutmentlaw44_lives.calls true W rfl
        have hO := fun W => act_Of_yes 1 (3) (a0_1) (a0_2) (0) (a0_4) W (by rw [right_f _ _ _ _ _ 1 (by omega), hr]) (by decide)
        have hF := fun W => abutmentref44_Right.calls 4 (3) (a0_1) (a0_2) (0) (a0_4) true W (by rw [ref_right44 _ _ _ _ _ 4 (by omega), hr])
        unfold actV at hO
        rw [if_neg (by decide), if_neg (by decide), if_pos rfl] at hO
        have hS := fun W => sent_wp (.iface 40 (.agg #[.int .i64 a0_1, .int .i64 a0_2])) 0 0 ⟨#[]⟩ false W (sentT_no _ _ (by decide))
        have hT := fun W => tried_no (.iface 40 (.agg #[.int .i64 a0_1, .int .i64 a0_2])) (fails_other _ _ (by decide)) W
        have hC := fun W => conn_end (a0_1) (a0_2) W
        clear hr
        go_enter Try.func5, Try.ntmps5
        go_wp2_with (first
          | (go_at_call 6; (with_reducible refine (hO _).mono ?_); rintro e w1 ⟨rfl, hb1⟩; have HB1 := Aside0.mk (HBw0.out.trans (hb1.mono HBw0.out.size)); have HE1 := Aside0.mk (box_next HEw0.out hb1); clear hb1)
          | (go_at_call 12; (with_reducible refine (hS _).mono ?_); rintro e w2 ⟨rfl, hb2⟩; have HB2 := Aside0.mk (HB1.out.trans (hb2.mono HB1.out.size)); have HE2 := Aside0.mk (box_alloc (box_next HE1.out hb2) (.cells #[.int .i64 0, .int .i64 0, .string ⟨#[]⟩] 38)); have HS2 := Aside0.mk (World.alloc_heap_new w2 (.cells #[.int .i64 0, .int .i64 0, .string ⟨#[]⟩] 38)); have HB2a := Aside0.mk (HB2.out.alloc HB2.out.size (.cells #[.int .i64 0, .int .i64 0, .string ⟨#[]⟩] 38)); clear hb2)
          | (go_at_call 13; (with_reducible refine (hT _).mono ?_); rintro e w3 ⟨rfl, hb3⟩; have HB3 := Aside0.mk (HB2a.out.trans (hb3.mono HB2a.out.size)); have HE3 := Aside0.mk (box_alloc (box_next HE2.out hb3) (.cells #[.int .i64 0, .int .i64 0, .string ⟨#[]⟩] 38)); have HS3 := Aside0.mk (box_alloc (box_next HS2.out hb3) (.cells #[.int .i64 0, .int .i64 0, .string ⟨#[]⟩] 38)); have HT3 := Aside0.mk (World.alloc_heap_new w3 (.cells #[.int .i64 0, .int .i64 0, .string ⟨#[]⟩] 38)); have HB3a := Aside0.mk (HB3.out.alloc HB3.out.size (.cells #[.int .i64 0, .int .i64 0, .string ⟨#[]⟩] 38)); clear hb3)
          | (go_at_call 14; (with_reducible refine (hC _).mono ?_); rintro e w4 ⟨rfl, hb4⟩; have HB4 := Aside0.mk (HB3a.out.trans (hb4.mono HB3a.out.size)); have HE4 := Aside0.mk (box_alloc (box_next HE3.out hb4) (.cells #[.int .i64 a0_1, .int .i64 a0_2] 23)); have HS4 := Aside0.mk (box_alloc (box_next HS3.out hb4) (.cells #[.int .i64 a0_1, .int .i64 a0_2] 23)); have HT4 := Aside0.mk (box_alloc (box_next HT3.out hb4) (.cells #[.int .i64 a0_1, .int .i64 a0_2] 23)); have HK4 := Aside0.mk (World.alloc_heap_new w4 (.cells #[.int .i64 a0_1, .int .i64 a0_2] 23)); have HB4a := Aside0.mk (HB4.out.alloc HB4.out.size (.cells #[.int .i64 a0_1, .int .i64 a0_2] 23)); obtain ⟨e4_0, e4_1, e4_2, e4_3, e4_4⟩ := box_cells HE4.out; clear hb4)
          | (go_at_call 7; (with_reducible refine (hF _).mono ?_); rintro e w5 ⟨rfl, hb5⟩; have HB5 := Aside0.mk (HB4a.out.trans (hb5.mono HB4a.out.size)); have HE5 := Aside0.mk (box_next HE4.out hb5); have HS5 := Aside0.mk (box_next HS4.out hb5); have HT5 := Aside0.mk (box_next HT4.out hb5); have HK5 := Aside0.mk (box_next HK4.out hb5); obtain ⟨e5_0, e5_1, e5_2, e5_3, e5_4⟩ := box_cells HE5.out; obtain ⟨s5_0, s5_1, s5_2⟩ := box_cells3 HS5.out; obtain ⟨t5_0, t5_1, t5_2⟩ := box_cells3 HT5.out; obtain ⟨k5_0, k5_1⟩ := box_cells2 HK5.out; clear hb5))
        go_quiet (fail)
        all_goals
          go_wp2_with (go_at_call 11; refine (hL _).mono ?_; rintro e w7 ⟨rfl, hb7⟩; have HB7 := Aside0.mk hb7; clear hb7)
          go_ret
          exact ⟨rfl, (pw_below_drewN HB5.out nq).trans (HB7.out.mono (pw_below_drewN HB5.out nq).size)⟩
      · subst h
        clear hop h1o h1n h6 h67
        have HBw0 := Aside0.mk ((Below.refl w.heap.size w).alloc (Nat.le_refl _) (.cells #[.int .i64 4, .int .i64 a0_1, .int .i64 a0_2, .int .i64 a0_3, .string a0_4] 25))
        have HEw0 := Aside0.mk (World.alloc_heap_new w (.cells #[.int .i64 4, .int .i64 a0_1, .int .i64 a0_2, .int .i64 a0_3, .string a0_4] 25))
        have hL := fun W => abutmentlaw44_lives.calls true W rfl
        have hO := fun W => act_Of_yes 1 (4) (a0_1) (a0_2) (a0_3) (a0_4) W (by rw [right_f _ _ _ _ _ 1 (by omega), hr]) (by decide)
        have hF := fun W => abutmentref44_Right.calls 4 (4) (a0_1) (a0_2) (a0_3) (a0_4) true W (by rw [ref_right44 _ _ _ _ _ 4 (by omega), hr])
        unfold actV at hO
        rw [if_neg (by decide), if_neg (by decide), if_neg (by decide), if_pos rfl] at hO
        have hS := fun W => sent_wp (.iface 42 (.agg #[.int .i64 a0_1, .int .i64 a0_2, .int .i64 a0_3])) 0 0 ⟨#[]⟩ false W (sentT_no _ _ (by decide))
        have hT := fun W => tried_no (.iface 42 (.agg #[.int .i64 a0_1, .int .i64 a0_2, .int .i64 a0_3])) (fails_other _ _ (by decide)) W
        have hC := fun W => conn_read (a0_1) (a0_2) (a0_3) W
        clear hr
        go_enter Try.func5, Try.ntmps5
        go_wp2_with (first
          | (go_at_call 6; (with_reducible refine (hO _).mono ?_); rintro e w1 ⟨rfl, hb1⟩; have HB1 := Aside0.mk (HBw0.out.trans (hb1.mono HBw0.out.size)); have HE1 := Aside0.mk (box_next HEw0.out hb1); clear hb1)
          | (go_at_call 12; (with_reducible refine (hS _).mono ?_); rintro e w2 ⟨rfl, hb2⟩; have HB2 := Aside0.mk (HB1.out.trans (hb2.mono HB1.out.size)); have HE2 := Aside0.mk (box_alloc (box_next HE1.out hb2) (.cells #[.int .i64 0, .int .i64 0, .string ⟨#[]⟩] 38)); have HS2 := Aside0.mk (World.alloc_heap_new w2 (.cells #[.int .i64 0, .int .i64 0, .string ⟨#[]⟩] 38)); have HB2a := Aside0.mk (HB2.out.alloc HB2.out.size (.cells #[.int .i64 0, .int .i64 0, .string ⟨#[]⟩] 38)); clear hb2)
          | (go_at_call 13; (with_reducible refine (hT _).mono ?_); rintro e w3 ⟨rfl, hb3⟩; have HB3 := Aside0.mk (HB2a.out.trans (hb3.mono HB2a.out.size)); have HE3 := Aside0.mk (box_alloc (box_next HE2.out hb3) (.cells #[.int .i64 0, .int .i64 0, .string ⟨#[]⟩] 38)); have HS3 := Aside0.mk (box_alloc (box_next HS2.out hb3) (.cells #[.int .i64 0, .int .i64 0, .string ⟨#[]⟩] 38)); have HT3 := Aside0.mk (World.alloc_heap_new w3 (.cells #[.int .i64 0, .int .i64 0, .string ⟨#[]⟩] 38)); have HB3a := Aside0.mk (HB3.out.alloc HB3.out.size (.cells #[.int .i64 0, .int .i64 0, .string ⟨#[]⟩] 38)); clear hb3)
          | (go_at_call 14; (with_reducible refine (hC _).mono ?_); rintro e w4 ⟨rfl, hb4⟩; have HB4 := Aside0.mk (HB3a.out.trans (hb4.mono HB3a.out.size)); have HE4 := Aside0.mk (box_alloc (box_next HE3.out hb4) (.cells #[.int .i64 a0_1, .int .i64 a0_2] 23)); have HS4 := Aside0.mk (box_alloc (box_next HS3.out hb4) (.cells #[.int .i64 a0_1, .int .i64 a0_2] 23)); have HT4 := Aside0.mk (box_alloc (box_next HT3.out hb4) (.cells #[.int .i64 a0_1, .int .i64 a0_2] 23)); have HK4 := Aside0.mk (World.alloc_heap_new w4 (.cells #[.int .i64 a0_1, .int .i64 a0_2] 23)); have HB4a := Aside0.mk (HB4.out.alloc HB4.out.size (.cells #[.int .i64 a0_1, .int .i64 a0_2] 23)); obtain ⟨e4_0, e4_1, e4_2, e4_3, e4_4⟩ := box_cells HE4.out; clear hb4)
          | (go_at_call 7; (with_reducible refine (hF _).mono ?_); rintro e w5 ⟨rfl, hb5⟩; have HB5 := Aside0.mk (HB4a.out.trans (hb5.mono HB4a.out.size)); have HE5 := Aside0.mk (box_next HE4.out hb5); have HS5 := Aside0.mk (box_next HS4.out hb5); have HT5 := Aside0.mk (box_next HT4.out hb5); have HK5 := Aside0.mk (box_next HK4.out hb5); obtain ⟨e5_0, e5_1, e5_2, e5_3, e5_4⟩ := box_cells HE5.out; obtain ⟨s5_0, s5_1, s5_2⟩ := box_cells3 HS5.out; obtain ⟨t5_0, t5_1, t5_2⟩ := box_cells3 HT5.out; obtain ⟨k5_0, k5_1⟩ := box_cells2 HK5.out; clear hb5))
        go_quiet (fail)
        all_goals
          go_wp2_with (go_at_call 11; refine (hL _).mono ?_; rintro e w7 ⟨rfl, hb7⟩; have HB7 := Aside0.mk hb7; clear hb7)
          go_ret
          exact ⟨rfl, (pw_below_drewN HB5.out nq).trans (HB7.out.mono (pw_below_drewN HB5.out nq).size)⟩
      · subst h
        clear hop h1o h1n h6 h67
        have HBw0 := Aside0.mk ((Below.refl w.heap.size w).alloc (Nat.le_refl _) (.cells #[.int .i64 5, .int .i64 a0_1, .int .i64 a0_2, .int .i64 a0_3, .string a0_4] 25))
        have HEw0 := Aside0.mk (World.alloc_heap_new w (.cells #[.int .i64 5, .int .i64 a0_1, .int .i64 a0_2, .int .i64 a0_3, .string a0_4] 25))
        have hL := fun W => abutmentlaw44_lives.calls true W rfl
        have hO := fun W => act_Of_yes 1 (5) (a0_1) (a0_2) (a0_3) (a0_4) W (by rw [right_f _ _ _ _ _ 1 (by omega), hr]) (by decide)
        have hF := fun W => abutmentref44_Right.calls 4 (5) (a0_1) (a0_2) (a0_3) (a0_4) true W (by rw [ref_right44 _ _ _ _ _ 4 (by omega), hr])
        unfold actV at hO
        rw [if_neg (by decide), if_neg (by decide), if_neg (by decide), if_neg (by decide), if_pos rfl] at hO
        have hS := fun W => sent_wp (.iface 43 (.agg #[.int .i64 a0_1, .int .i64 a0_2, .int .i64 a0_3])) 0 0 ⟨#[]⟩ false W (sentT_no _ _ (by decide))
        have hT := fun W => tried_no (.iface 43 (.agg #[.int .i64 a0_1, .int .i64 a0_2, .int .i64 a0_3])) (fails_other _ _ (by decide)) W
        have hC := fun W => conn_grant (a0_1) (a0_2) (a0_3) W
        clear hr
        go_enter Try.func5, Try.ntmps5
        go_wp2_with (first
          | (go_at_call 6; (with_reducible refine (hO _).mono ?_); rintro e w1 ⟨rfl, hb1⟩; have HB1 := Aside0.mk (HBw0.out.trans (hb1.mono HBw0.out.size)); have HE1 := Aside0.mk (box_next HEw0.out hb1); clear hb1)
          | (go_at_call 12; (with_reducible refine (hS _).mono ?_); rintro e w2 ⟨rfl, hb2⟩; have HB2 := Aside0.mk (HB1.out.trans (hb2.mono HB1.out.size)); have HE2 := Aside0.mk (box_alloc (box_next HE1.out hb2) (.cells #[.int .i64 0, .int .i64 0, .string ⟨#[]⟩] 38)); have HS2 := Aside0.mk (World.alloc_heap_new w2 (.cells #[.int .i64 0, .int .i64 0, .string ⟨#[]⟩] 38)); have HB2a := Aside0.mk (HB2.out.alloc HB2.out.size (.cells #[.int .i64 0, .int .i64 0, .string ⟨#[]⟩] 38)); clear hb2)
          | (go_at_call 13; (with_reducible refine (hT _).mono ?_); rintro e w3 ⟨rfl, hb3⟩; have HB3 := Aside0.mk (HB2a.out.trans (hb3.mono HB2a.out.size)); have HE3 := Aside0.mk (box_alloc (box_next HE2.out hb3) (.cells #[.int .i64 0, .int .i64 0, .string ⟨#[]⟩] 38)); have HS3 := Aside0.mk (box_alloc (box_next HS2.out hb3) (.cells #[.int .i64 0, .int .i64 0, .string ⟨#[]⟩] 38)); have HT3 := Aside0.mk (World.alloc_heap_new w3 (.cells #[.int .i64 0, .int .i64 0, .string ⟨#[]⟩] 38)); have HB3a := Aside0.mk (HB3.out.alloc HB3.out.size (.cells #[.int .i64 0, .int .i64 0, .string ⟨#[]⟩] 38)); clear hb3)
          | (go_at_call 14; (with_reducible refine (hC _).mono ?_); rintro e w4 ⟨rfl, hb4⟩; have HB4 := Aside0.mk (HB3a.out.trans (hb4.mono HB3a.out.size)); have HE4 := Aside0.mk (box_alloc (box_next HE3.out hb4) (.cells #[.int .i64 a0_1, .int .i64 a0_2] 23)); have HS4 := Aside0.mk (box_alloc (box_next HS3.out hb4) (.cells #[.int .i64 a0_1, .int .i64 a0_2] 23)); have HT4 := Aside0.mk (box_alloc (box_next HT3.out hb4) (.cells #[.int .i64 a0_1, .int .i64 a0_2] 23)); have HK4 := Aside0.mk (World.alloc_heap_new w4 (.cells #[.int .i64 a0_1, .int .i64 a0_2] 23)); have HB4a := Aside0.mk (HB4.out.alloc HB4.out.size (.cells #[.int .i64 a0_1, .int .i64 a0_2] 23)); obtain ⟨e4_0, e4_1, e4_2, e4_3, e4_4⟩ := box_cells HE4.out; clear hb4)
          | (go_at_call 7; (with_reducible refine (hF _).mono ?_); rintro e w5 ⟨rfl, hb5⟩; have HB5 := Aside0.mk (HB4a.out.trans (hb5.mono HB4a.out.size)); have HE5 := Aside0.mk (box_next HE4.out hb5); have HS5 := Aside0.mk (box_next HS4.out hb5); have HT5 := Aside0.mk (box_next HT4.out hb5); have HK5 := Aside0.mk (box_next HK4.out hb5); obtain ⟨e5_0, e5_1, e5_2, e5_3, e5_4⟩ := box_cells HE5.out; obtain ⟨s5_0, s5_1, s5_2⟩ := box_cells3 HS5.out; obtain ⟨t5_0, t5_1, t5_2⟩ := box_cells3 HT5.out; obtain ⟨k5_0, k5_1⟩ := box_cells2 HK5.out; clear hb5))
        go_quiet (fail)
        all_goals
          go_wp2_with (go_at_call 11; refine (hL _).mono ?_; rintro e w7 ⟨rfl, hb7⟩; have HB7 := Aside0.mk hb7; clear hb7)
          go_ret
          exact ⟨rfl, (pw_below_drewN HB5.out nq).trans (HB7.out.mono (pw_below_drewN HB5.out nq).size)⟩
      · subst h
        obtain ⟨hc, ho⟩ := h6 rfl
        subst hc ho
        clear hop h1o h1n h6 h67
        have HBw0 := Aside0.mk ((Below.refl w.heap.size w).alloc (Nat.le_refl _) (.cells #[.int .i64 6, .int .i64 0, .int .i64 0, .int .i64 a0_3, .string a0_4] 25))
        have HEw0 := Aside0.mk (World.alloc_heap_new w (.cells #[.int .i64 6, .int .i64 0, .int .i64 0, .int .i64 a0_3, .string a0_4] 25))
        have hL := fun W => abutmentlaw44_lives.calls true W rfl
        have hO := fun W => act_Of_yes 1 (6) (0) (0) (a0_3) (a0_4) W (by rw [right_f _ _ _ _ _ 1 (by omega), hr]) (by decide)
        have hF := fun W => abutmentref44_Right.calls 4 (6) (0) (0) (a0_3) (a0_4) true W (by rw [ref_right44 _ _ _ _ _ 4 (by omega), hr])
        unfold actV at hO
        rw [if_neg (by decide), if_neg (by decide), if_neg (by decide), if_neg (by decide), if_neg (by decide), if_pos rfl] at hO
        have hS := fun W => sent_wp (.iface 45 (.agg #[.int .i64 a0_3])) 0 0 ⟨#[]⟩ false W (sentT_no _ _ (by decide))
        have hT := fun W => tried_no (.iface 45 (.agg #[.int .i64 a0_3])) (fails_other _ _ (by decide)) W
        have hC := fun W => conn_tick (a0_3) W
        clear hr
        go_enter Try.func5, Try.ntmps5
        go_wp2_with (first
          | (go_at_call 6; (with_reducible refine (hO _).mono ?_); rintro e w1 ⟨rfl, hb1⟩; have HB1 := Aside0.mk (HBw0.out.trans (hb1.mono HBw0.out.size)); have HE1 := Aside0.mk (box_next HEw0.out hb1); clear hb1)
          | (go_at_call 12; (with_reducible refine (hS _).mono ?_); rintro e w2 ⟨rfl, hb2⟩; have HB2 := Aside0.mk (HB1.out.trans (hb2.mono HB1.out.size)); have HE2 := Aside0.mk (box_alloc (box_next HE1.out hb2) (.cells #[.int .i64 0, .int .i64 0, .string ⟨#[]⟩] 38)); have HS2 := Aside0.mk (World.alloc_heap_new w2 (.cells #[.int .i64 0, .int .i64 0, .string ⟨#[]⟩] 38)); have HB2a := Aside0.mk (HB2.out.alloc HB2.out.size (.cells #[.int .i64 0, .int .i64 0, .string ⟨#[]⟩] 38)); clear hb2)
          | (go_at_call 13; (with_reducible refine (hT _).mono ?_); rintro e w3 ⟨rfl, hb3⟩; have HB3 := Aside0.mk (HB2a.out.trans (hb3.mono HB2a.out.size)); have HE3 := Aside0.mk (box_alloc (box_next HE2.out hb3) (.cells #[.int .i64 0, .int .i64 0, .string ⟨#[]⟩] 38)); have HS3 := Aside0.mk (box_alloc (box_next HS2.out hb3) (.cells #[.int .i64 0, .int .i64 0, .string ⟨#[]⟩] 38)); have HT3 := Aside0.mk (World.alloc_heap_new w3 (.cells #[.int .i64 0, .int .i64 0, .string ⟨#[]⟩] 38)); have HB3a := Aside0.mk (HB3.out.alloc HB3.out.size (.cells #[.int .i64 0, .int .i64 0, .string ⟨#[]⟩] 38)); clear hb3)
          | (go_at_call 14; (with_reducible refine (hC _).mono ?_); rintro e w4 ⟨rfl, hb4⟩; have HB4 := Aside0.mk (HB3a.out.trans (hb4.mono HB3a.out.size)); have HE4 := Aside0.mk (box_alloc (box_next HE3.out hb4) (.cells #[.int .i64 0, .int .i64 0] 23)); have HS4 := Aside0.mk (box_alloc (box_next HS3.out hb4) (.cells #[.int .i64 0, .int .i64 0] 23)); have HT4 := Aside0.mk (box_alloc (box_next HT3.out hb4) (.cells #[.int .i64 0, .int .i64 0] 23)); have HK4 := Aside0.mk (World.alloc_heap_new w4 (.cells #[.int .i64 0, .int .i64 0] 23)); have HB4a := Aside0.mk (HB4.out.alloc HB4.out.size (.cells #[.int .i64 0, .int .i64 0] 23)); obtain ⟨e4_0, e4_1, e4_2, e4_3, e4_4⟩ := box_cells HE4.out; clear hb4)
          | (go_at_call 7; (with_reducible refine (hF _).mono ?_); rintro e w5 ⟨rfl, hb5⟩; have HB5 := Aside0.mk (HB4a.out.trans (hb5.mono HB4a.out.size)); have HE5 := Aside0.mk (box_next HE4.out hb5); have HS5 := Aside0.mk (box_next HS4.out hb5); have HT5 := Aside0.mk (box_next HT4.out hb5); have HK5 := Aside0.mk (box_next HK4.out hb5); obtain ⟨e5_0, e5_1, e5_2, e5_3, e5_4⟩ := box_cells HE5.out; obtain ⟨s5_0, s5_1, s5_2⟩ := box_cells3 HS5.out; obtain ⟨t5_0, t5_1, t5_2⟩ := box_cells3 HT5.out; obtain ⟨k5_0, k5_1⟩ := box_cells2 HK5.out; clear hb5))
        go_quiet (fail)
        all_goals
          go_wp2_with (go_at_call 11; refine (hL _).mono ?_; rintro e w7 ⟨rfl, hb7⟩; have HB7 := Aside0.mk hb7; clear hb7)
          go_ret
          exact ⟨rfl, (pw_below_drewN HB5.out nq).trans (HB7.out.mono (pw_below_drewN HB5.out nq).size)⟩
      · subst h
        have ho := h1o (by decide)
        subst ho
        have hn := h1n (by decide)
        subst hn
        clear hop h1o h1n h6 h67
        have HBw0 := Aside0.mk ((Below.refl w.heap.size w).alloc (Nat.le_refl _) (.cells #[.int .i64 7, .int .i64 a0_1, .int .i64 0, .int .i64 0, .string a0_4] 25))
        have HEw0 := Aside0.mk (World.alloc_heap_new w (.cells #[.int .i64 7, .int .i64 a0_1, .int .i64 0, .int .i64 0, .string a0_4] 25))
        have hL := fun W => abutmentlaw44_lives.calls true W rfl
        have hO := fun W => act_Of_yes 1 (7) (a0_1) (0) (0) (a0_4) W (by rw [right_f _ _ _ _ _ 1 (by omega), hr]) (by decide)
        have hF := fun W => abutmentref44_Right.calls 4 (7) (a0_1) (0) (0) (a0_4) true W (by rw [ref_right44 _ _ _ _ _ 4 (by omega), hr])
        unfold actV at hO
        rw [if_neg (by decide), if_neg (by decide), if_neg (by decide), if_neg (by decide), if_neg (by decide), if_neg (by decide)] at hO
        have hS := fun W => sent_wp (.iface 46 (.agg #[.int .i64 a0_1])) 0 0 ⟨#[]⟩ false W (sentT_no _ _ (by decide))
        have hT := fun W => tried_no (.iface 46 (.agg #[.int .i64 a0_1])) (fails_other _ _ (by decide)) W
        have hC := fun W => conn_serve (a0_1) W
        clear hr
        go_enter Try.func5, Try.ntmps5
        go_wp2_with (first
          | (go_at_call 6; (with_reducible refine (hO _).mono ?_); rintro e w1 ⟨rfl, hb1⟩; have HB1 := Aside0.mk (HBw0.out.trans (hb1.mono HBw0.out.size)); have HE1 := Aside0.mk (box_next HEw0.out hb1); clear hb1)
          | (go_at_call 12; (with_reducible refine (hS _).mono ?_); rintro e w2 ⟨rfl, hb2⟩; have HB2 := Aside0.mk (HB1.out.trans (hb2.mono HB1.out.size)); have HE2 := Aside0.mk (box_alloc (box_next HE1.out hb2) (.cells #[.int .i64 0, .int .i64 0, .string ⟨#[]⟩] 38)); have HS2 := Aside0.mk (World.alloc_heap_new w2 (.cells #[.int .i64 0, .int .i64 0, .string ⟨#[]⟩] 38)); have HB2a := Aside0.mk (HB2.out.alloc HB2.out.size (.cells #[.int .i64 0, .int .i64 0, .string ⟨#[]⟩] 38)); clear hb2)
          | (go_at_call 13; (with_reducible refine (hT _).mono ?_); rintro e w3 ⟨rfl, hb3⟩; have HB3 := Aside0.mk (HB2a.out.trans (hb3.mono HB2a.out.size)); have HE3 := Aside0.mk (box_alloc (box_next HE2.out hb3) (.cells #[.int .i64 0, .int .i64 0, .string ⟨#[]⟩] 38)); have HS3 := Aside0.mk (box_alloc (box_next HS2.out hb3) (.cells #[.int .i64 0, .int .i64 0, .string ⟨#[]⟩] 38)); have HT3 := Aside0.mk (World.alloc_heap_new w3 (.cells #[.int .i64 0, .int .i64 0, .string ⟨#[]⟩] 38)); have HB3a := Aside0.mk (HB3.out.alloc HB3.out.size (.cells #[.int .i64 0, .int .i64 0, .string ⟨#[]⟩] 38)); clear hb3)
          | (go_at_call 14; (with_reducible refine (hC _).mono ?_); rintro e w4 ⟨rfl, hb4⟩; have HB4 := Aside0.mk (HB3a.out.trans (hb4.mono HB3a.out.size)); have HE4 := Aside0.mk (box_alloc (box_next HE3.out hb4) (.cells #[.int .i64 a0_1, .int .i64 0] 23)); have HS4 := Aside0.mk (box_alloc (box_next HS3.out hb4) (.cells #[.int .i64 a0_1, .int .i64 0] 23)); have HT4 := Aside0.mk (box_alloc (box_next HT3.out hb4) (.cells #[.int .i64 a0_1, .int .i64 0] 23)); have HK4 := Aside0.mk (World.alloc_heap_new w4 (.cells #[.int .i64 a0_1, .int .i64 0] 23)); have HB4a := Aside0.mk (HB4.out.alloc HB4.out.size (.cells #[.int .i64 a0_1, .int .i64 0] 23)); obtain ⟨e4_0, e4_1, e4_2, e4_3, e4_4⟩ := box_cells HE4.out; clear hb4)
          | (go_at_call 7; (with_reducible refine (hF _).mono ?_); rintro e w5 ⟨rfl, hb5⟩; have HB5 := Aside0.mk (HB4a.out.trans (hb5.mono HB4a.out.size)); have HE5 := Aside0.mk (box_next HE4.out hb5); have HS5 := Aside0.mk (box_next HS4.out hb5); have HT5 := Aside0.mk (box_next HT4.out hb5); have HK5 := Aside0.mk (box_next HK4.out hb5); obtain ⟨e5_0, e5_1, e5_2, e5_3, e5_4⟩ := box_cells HE5.out; obtain ⟨s5_0, s5_1, s5_2⟩ := box_cells3 HS5.out; obtain ⟨t5_0, t5_1, t5_2⟩ := box_cells3 HT5.out; obtain ⟨k5_0, k5_1⟩ := box_cells2 HK5.out; clear hb5))
        go_quiet (fail)
        all_goals
          go_wp2_with (go_at_call 11; refine (hL _).mono ?_; rintro e w7 ⟨rfl, hb7⟩; have HB7 := Aside0.mk hb7; clear hb7)
          go_ret
          exact ⟨rfl, (pw_below_drewN HB5.out nq).trans (HB7.out.mono (pw_below_drewN HB5.out nq).size)⟩
  · have hsb : decide ((a0_4.size : Int) ≤ 6000) = false := decide_eq_false hs
    cases hr : rightB a0_0 a0_1 a0_2 a0_3 (a0_4.extract 0 6000) with
    | false =>
      have HBw0 := Aside0.mk ((Below.refl w.heap.size w).alloc (Nat.le_refl _) (.cells #[.int .i64 a0_0, .int .i64 a0_1, .int .i64 a0_2, .int .i64 a0_3, .string (a0_4.extract 0 6000)] 25))
      have HEw0 := Aside0.mk (World.alloc_heap_new w (.cells #[.int .i64 a0_0, .int .i64 a0_1, .int .i64 a0_2, .int .i64 a0_3, .string (a0_4.extract 0 6000)] 25))
      have hL := fun W => abutmentlaw44_lives.calls true W rfl
      have hO := fun W => act_Of_no 1 (a0_0) (a0_1) (a0_2) (a0_3) ((a0_4.extract 0 6000)) W (by rw [right_f _ _ _ _ _ 1 (by omega), hr])
      have hF := fun W => abutmentref44_Right.calls 4 (a0_0) (a0_1) (a0_2) (a0_3) ((a0_4.extract 0 6000)) false W (by rw [ref_right44 _ _ _ _ _ 4 (by omega), hr])
      have hS := fun W => sent_wp .nilIface 0 0 ⟨#[]⟩ false W sentT_nil
      have hT := fun W => tried_no .nilIface fails_nil W
      have hC := fun W => conn_nil  W
      clear hr
      go_enter Try.func5, Try.ntmps5
      go_wp2_with (first
        | (go_at_call 6; (with_reducible refine (hO _).mono ?_); rintro e w1 ⟨rfl, hb1⟩; have HB1 := Aside0.mk (HBw0.out.trans (hb1.mono HBw0.out.size)); have HE1 := Aside0.mk (box_next HEw0.out hb1); clear hb1)
        | (go_at_call 12; (with_reducible refine (hS _).mono ?_); rintro e w2 ⟨rfl, hb2⟩; have HB2 := Aside0.mk (HB1.out.trans (hb2.mono HB1.out.size)); have HE2 := Aside0.mk (box_alloc (box_next HE1.out hb2) (.cells #[.int .i64 0, .int .i64 0, .string ⟨#[]⟩] 38)); have HS2 := Aside0.mk (World.alloc_heap_new w2 (.cells #[.int .i64 0, .int .i64 0, .string ⟨#[]⟩] 38)); have HB2a := Aside0.mk (HB2.out.alloc HB2.out.size (.cells #[.int .i64 0, .int .i64 0, .string ⟨#[]⟩] 38)); clear hb2)
        | (go_at_call 13; (with_reducible refine (hT _).mono ?_); rintro e w3 ⟨rfl, hb3⟩; have HB3 := Aside0.mk (HB2a.out.trans (hb3.mono HB2a.out.size)); have HE3 := Aside0.mk (box_alloc (box_next HE2.out hb3) (.cells #[.int .i64 0, .int .i64 0, .string ⟨#[]⟩] 38)); have HS3 := Aside0.mk (box_alloc (box_next HS2.out hb3) (.cells #[.int .i64 0, .int .i64 0, .string ⟨#[]⟩] 38)); have HT3 := Aside0.mk (World.alloc_heap_new w3 (.cells #[.int .i64 0, .int .i64 0, .string ⟨#[]⟩] 38)); have HB3a := Aside0.mk (HB3.out.alloc HB3.out.size (.cells #[.int .i64 0, .int .i64 0, .string ⟨#[]⟩] 38)); clear hb3)
        | (go_at_call 14; (with_reducible refine (hC _).mono ?_); rintro e w4 ⟨rfl, hb4⟩; have HB4 := Aside0.mk (HB3a.out.trans (hb4.mono HB3a.out.size)); have HE4 := Aside0.mk (box_alloc (box_next HE3.out hb4) (.cells #[.int .i64 0, .int .i64 0] 23)); have HS4 := Aside0.mk (box_alloc (box_next HS3.out hb4) (.cells #[.int .i64 0, .int .i64 0] 23)); have HT4 := Aside0.mk (box_alloc (box_next HT3.out hb4) (.cells #[.int .i64 0, .int .i64 0] 23)); have HK4 := Aside0.mk (World.alloc_heap_new w4 (.cells #[.int .i64 0, .int .i64 0] 23)); have HB4a := Aside0.mk (HB4.out.alloc HB4.out.size (.cells #[.int .i64 0, .int .i64 0] 23)); obtain ⟨e4_0, e4_1, e4_2, e4_3, e4_4⟩ := box_cells HE4.out; clear hb4)
        | (go_at_call 7; (with_reducible refine (hF _).mono ?_); rintro e w5 ⟨rfl, hb5⟩; have HB5 := Aside0.mk (HB4a.out.trans (hb5.mono HB4a.out.size)); have HE5 := Aside0.mk (box_next HE4.out hb5); have HS5 := Aside0.mk (box_next HS4.out hb5); have HT5 := Aside0.mk (box_next HT4.out hb5); have HK5 := Aside0.mk (box_next HK4.out hb5); obtain ⟨e5_0, e5_1, e5_2, e5_3, e5_4⟩ := box_cells HE5.out; obtain ⟨s5_0, s5_1, s5_2⟩ := box_cells3 HS5.out; obtain ⟨t5_0, t5_1, t5_2⟩ := box_cells3 HT5.out; obtain ⟨k5_0, k5_1⟩ := box_cells2 HK5.out; clear hb5))
      go_quiet (fail)
      all_goals
        go_wp2_with (go_at_call 11; refine (hL _).mono ?_; rintro e w7 ⟨rfl, hb7⟩; have HB7 := Aside0.mk hb7; clear hb7)
        go_ret
        exact ⟨rfl, (pw_below_drewN HB5.out nq).trans (HB7.out.mono (pw_below_drewN HB5.out nq).size)⟩
    | true =>
      obtain ⟨hop, h1o, h1n, h6, h67⟩ := right_spec _ _ _ _ _ hr
      have h2 : a0_0 = 2 := by
        apply Classical.byContradiction
        intro hne
        have h0 := h67 hne
        have h1 := congrArg ByteArray.size h0
        rw [ByteArray.size_extract] at h1
        have : (⟨#[]⟩ : ByteArray).size = 0 := rfl
        omega
      subst h2
      have hn0 := h1n (by decide)
      subst hn0
      clear hop h1o h1n h6 h67
      have HBw0 := Aside0.mk ((Below.refl w.heap.size w).alloc (Nat.le_refl _) (.cells #[.int .i64 2, .int .i64 a0_1, .int .i64 a0_2, .int .i64 0, .string (a0_4.extract 0 6000)] 25))
      have HEw0 := Aside0.mk (World.alloc_heap_new w (.cells #[.int .i64 2, .int .i64 a0_1, .int .i64 a0_2, .int .i64 0, .string (a0_4.extract 0 6000)] 25))
      have hL := fun W => abutmentlaw44_lives.calls true W rfl
      have hO := fun W => act_Of_yes 1 (2) (a0_1) (a0_2) (0) ((a0_4.extract 0 6000)) W (by rw [right_f _ _ _ _ _ 1 (by omega), hr]) (by decide)
      have hF := fun W => abutmentref44_Right.calls 4 (2) (a0_1) (a0_2) (0) ((a0_4.extract 0 6000)) true W (by rw [ref_right44 _ _ _ _ _ 4 (by omega), hr])
      unfold actV at hO
      rw [if_neg (by decide), if_pos rfl] at hO
      have hS := fun W => sent_wp _ (a0_1) (a0_2) ((a0_4.extract 0 6000)) true W (sentT_yes _ _ _)
      have hT := fun W => tried_yes (a0_1) (a0_2) ((a0_4.extract 0 6000)) W
      have hM := fun W => must_yes (a0_1) (a0_2) ((a0_4.extract 0 6000)) W
      have hC := fun W => conn_send (a0_1) (a0_2) ((a0_4.extract 0 6000)) W
      clear hr
      go_enter Try.func5, Try.ntmps5
      go_wp2_with (first
        | (go_at_call 6; (with_reducible refine (hO _).mono ?_); rintro e w1 ⟨rfl, hb1⟩; have HB1 := Aside0.mk (HBw0.out.trans (hb1.mono HBw0.out.size)); have HE1 := Aside0.mk (box_next HEw0.out hb1); clear hb1)
        | (go_at_call 12; (with_reducible refine (hS _).mono ?_); rintro e w2 ⟨rfl, hb2⟩; have HB2 := Aside0.mk (HB1.out.trans (hb2.mono HB1.out.size)); have HE2 := Aside0.mk (box_alloc (box_next HE1.out hb2) (.cells #[.int .i64 a0_1, .int .i64 a0_2, .string (a0_4.extract 0 6000)] 38)); have HS2 := Aside0.mk (World.alloc_heap_new w2 (.cells #[.int .i64 a0_1, .int .i64 a0_2, .string (a0_4.extract 0 6000)] 38)); have HB2a := Aside0.mk (HB2.out.alloc HB2.out.size (.cells #[.int .i64 a0_1, .int .i64 a0_2, .string (a0_4.extract 0 6000)] 38)); clear hb2)
        | (go_at_call 13; (with_reducible refine (hT _).mono ?_); rintro e w3 ⟨rfl, hb3⟩; have HB3 := Aside0.mk (HB2a.out.trans (hb3.mono HB2a.out.size)); have HE3 := Aside0.mk (box_alloc (box_next HE2.out hb3) (.cells #[.int .i64 a0_1, .int .i64 a0_2, .string (a0_4.extract 0 6000)] 38)); have HS3 := Aside0.mk (box_alloc (box_next HS2.out hb3) (.cells #[.int .i64 a0_1, .int .i64 a0_2, .string (a0_4.extract 0 6000)] 38)); have HT3 := Aside0.mk (World.alloc_heap_new w3 (.cells #[.int .i64 a0_1, .int .i64 a0_2, .string (a0_4.extract 0 6000)] 38)); have HB3a := Aside0.mk (HB3.out.alloc HB3.out.size (.cells #[.int .i64 a0_1, .int .i64 a0_2, .string (a0_4.extract 0 6000)] 38)); clear hb3)
        | (go_at_call 14; (with_reducible refine (hC _).mono ?_); rintro e w4 ⟨rfl, hb4⟩; have HB4 := Aside0.mk (HB3a.out.trans (hb4.mono HB3a.out.size)); have HE4 := Aside0.mk (box_alloc (box_next HE3.out hb4) (.cells #[.int .i64 a0_1, .int .i64 a0_2] 23)); have HS4 := Aside0.mk (box_alloc (box_next HS3.out hb4) (.cells #[.int .i64 a0_1, .int .i64 a0_2] 23)); have HT4 := Aside0.mk (box_alloc (box_next HT3.out hb4) (.cells #[.int .i64 a0_1, .int .i64 a0_2] 23)); have HK4 := Aside0.mk (World.alloc_heap_new w4 (.cells #[.int .i64 a0_1, .int .i64 a0_2] 23)); have HB4a := Aside0.mk (HB4.out.alloc HB4.out.size (.cells #[.int .i64 a0_1, .int .i64 a0_2] 23)); obtain ⟨e4_0, e4_1, e4_2, e4_3, e4_4⟩ := box_cells HE4.out; clear hb4)
        | (go_at_call 7; (with_reducible refine (hF _).mono ?_); rintro e w5 ⟨rfl, hb5⟩; have HB5 := Aside0.mk (HB4a.out.trans (hb5.mono HB4a.out.size)); have HE5 := Aside0.mk (box_next HE4.out hb5); have HS5 := Aside0.mk (box_next HS4.out hb5); have HT5 := Aside0.mk (box_next HT4.out hb5); have HK5 := Aside0.mk (box_next HK4.out hb5); obtain ⟨e5_0, e5_1, e5_2, e5_3, e5_4⟩ := box_cells HE5.out; obtain ⟨s5_0, s5_1, s5_2⟩ := box_cells3 HS5.out; obtain ⟨t5_0, t5_1, t5_2⟩ := box_cells3 HT5.out; obtain ⟨k5_0, k5_1⟩ := box_cells2 HK5.out; clear hb5))
      have hS9 : w5.cell? ⟨w.heap.size, 1, none⟩ = some (.int .i64 a0_1) ∧ w5.cell? ⟨w.heap.size, 2, none⟩ = some (.int .i64 a0_2) ∧ w5.cell? ⟨w.heap.size, 4, none⟩ = some (.string (a0_4.extract 0 6000)) ∧ w5.cell? ⟨w2.heap.size, 0, none⟩ = some (.int .i64 a0_1) ∧ w5.cell? ⟨w2.heap.size, 1, none⟩ = some (.int .i64 a0_2) ∧ w5.cell? ⟨w2.heap.size, 2, none⟩ = some (.string (a0_4.extract 0 6000)) ∧ w5.cell? ⟨w3.heap.size, 0, none⟩ = some (.int .i64 a0_1) ∧ w5.cell? ⟨w3.heap.size, 1, none⟩ = some (.int .i64 a0_2) ∧ w5.cell? ⟨w3.heap.size, 2, none⟩ = some (.string (a0_4.extract 0 6000)) := ⟨e5_1, e5_2, e5_4, s5_0, s5_1, s5_2, t5_0, t5_1, t5_2⟩
      have HS9 := Aside0.mk hS9
      clear hS9 e4_0 e4_1 e4_2 e4_3 e4_4 e5_0 e5_1 e5_2 e5_3 e5_4 s5_0 s5_1 s5_2 t5_0 t5_1 t5_2 k5_0 k5_1
      refine wp_region_held_drew (S := fun w' => w'.cell? ⟨w.heap.size, 1, none⟩ = some (.int .i64 a0_1) ∧ w'.cell? ⟨w.heap.size, 2, none⟩ = some (.int .i64 a0_2) ∧ w'.cell? ⟨w.heap.size, 4, none⟩ = some (.string (a0_4.extract 0 6000)) ∧ w'.cell? ⟨w2.heap.size, 0, none⟩ = some (.int .i64 a0_1) ∧ w'.cell? ⟨w2.heap.size, 1, none⟩ = some (.int .i64 a0_2) ∧ w'.cell? ⟨w2.heap.size, 2, none⟩ = some (.string (a0_4.extract 0 6000)) ∧ w'.cell? ⟨w3.heap.size, 0, none⟩ = some (.int .i64 a0_1) ∧ w'.cell? ⟨w3.heap.size, 1, none⟩ = some (.int .i64 a0_2) ∧ w'.cell? ⟨w3.heap.size, 2, none⟩ = some (.string (a0_4.extract 0 6000))) (by kernel_rfl) HS9.out (fun hHeld => ?_)
      refine takeH (i := 0) (d := 49) (v := ?v0_a) rfl rfl (by kernel_rfl) (by kernel_rfl) (by kernel_rfl) (fun _ _ _ h => h) (Or.inl ⟨by rfl, ?y0_a⟩) (by assumption) ?_
      case y0_a => intro w hSw; (try dsimp only at hSw); go_split_ands; go_simp; first | done | (with_reducible rfl)
      try simp only [List.setIfInBounds_toArray, List.set_cons_zero, List.set_cons_succ]
      refine takeH (i := 1) (d := 50) (v := ?v1_a) rfl rfl (by kernel_rfl) (by kernel_rfl) (by kernel_rfl) (fun _ _ _ h => h) (Or.inl ⟨by rfl, ?y1_a⟩) (by assumption) ?_
      case y1_a => intro w hSw; (try dsimp only at hSw); go_split_ands; go_simp; first | done | (with_reducible rfl)
      try simp only [List.setIfInBounds_toArray, List.set_cons_zero, List.set_cons_succ]
      refine takeH (i := 2) (d := 51) (v := ?v2_a) rfl rfl (by kernel_rfl) (by kernel_rfl) (by kernel_rfl) (fun _ _ _ h => h) (Or.inl ⟨by rfl, ?y2_a⟩) (by assumption) ?_
      case y2_a => intro w hSw; (try dsimp only at hSw); go_split_ands; go_simp; first | done | (with_reducible rfl)
      try simp only [List.setIfInBounds_toArray, List.set_cons_zero, List.set_cons_succ]
      refine takeH (i := 4) (d := 53) (v := ?v4_a) rfl rfl (by kernel_rfl) (by kernel_rfl) (by kernel_rfl) (fun _ _ _ h => h) (Or.inl ⟨by rfl, ?y4_a⟩) (by assumption) ?_
      case y4_a => intro w hSw; (try dsimp only at hSw); go_split_ands; go_simp; first | done | (with_reducible rfl)
      try simp only [List.setIfInBounds_toArray, List.set_cons_zero, List.set_cons_succ]
      refine wpAnyH_ready (rs := [3]) (by kernel_rfl) (by simp) ?_
      refine AllReadyH.cons rfl (fun K hK => ?_) AllReadyH.nil
      go_simp
      go_wp2_with ((with_reducible refine (hM _).mono ?_); rintro e w6 ⟨rfl, hb6⟩; have HB6 := Aside0.mk (HB5.out.drew.trans (hb6.mono HB5.out.size)); have HE6 := Aside0.mk (box_next (W := w5.drew) HE5.out hb6); have HK6 := Aside0.mk (box_next (W := w5.drew) HK5.out hb6); have HN6 := Aside0.mk (nine_next (W := w5.drew) HS9.out hb6))
      refine hK.out _ _ HN6.out (fun hHeld6 => ?_)
      clear hK K
      refine takeH (i := 5) (d := 54) (v := ?v5_a) rfl rfl (by kernel_rfl) (by kernel_rfl) (by kernel_rfl) (fun _ _ _ h => h) (Or.inl ⟨by rfl, ?y5_a⟩) (by assumption) ?_
      case y5_a => intro w hSw; (try dsimp only at hSw); go_split_ands; go_simp; first | done | (with_reducible rfl)
      try simp only [List.setIfInBounds_toArray, List.set_cons_zero, List.set_cons_succ]
      refine takeH (i := 6) (d := 55) (v := ?v6_a) rfl rfl (by kernel_rfl) (by kernel_rfl) (by kernel_rfl) (fun _ _ _ h => h) (Or.inl ⟨by rfl, ?y6_a⟩) (by assumption) ?_
      case y6_a => intro w hSw; (try dsimp only at hSw); go_split_ands; go_simp; first | done | (with_reducible rfl)
      try simp only [List.setIfInBounds_toArray, List.set_cons_zero, List.set_cons_succ]
      refine takeH (i := 7) (d := 56) (v := ?v7_a) rfl rfl (by kernel_rfl) (by kernel_rfl) (by kernel_rfl) (fun _ _ _ h => h) (Or.inl ⟨by rfl, ?y7_a⟩) (by assumption) ?_
      case y7_a => intro w hSw; (try dsimp only at hSw); go_split_ands; go_simp; first | done | (with_reducible rfl)
      try simp only [List.setIfInBounds_toArray, List.set_cons_zero, List.set_cons_succ]
      refine takeH (i := 8) (d := 57) (v := ?v8_a) rfl rfl (by kernel_rfl) (by kernel_rfl) (by kernel_rfl) (fun _ _ _ h => h) (Or.inl ⟨by rfl, ?y8_a⟩) (by assumption) ?_
      case y8_a => intro w hSw; (try dsimp only at hSw); go_split_ands; go_simp; first | done | (with_reducible rfl)
      try simp only [List.setIfInBounds_toArray, List.set_cons_zero, List.set_cons_succ]
      refine takeH (i := 9) (d := 58) (v := ?v9_a) rfl rfl (by kernel_rfl) (by kernel_rfl) (by kernel_rfl) (fun _ _ _ h => h) (Or.inl ⟨by rfl, ?y9_a⟩) (by assumption) ?_
      case y9_a => intro w hSw; (try dsimp only at hSw); go_split_ands; go_simp; first | done | (with_reducible rfl)
      try simp only [List.setIfInBounds_toArray, List.set_cons_zero, List.set_cons_succ]
      refine takeH (i := 10) (d := 59) (v := ?v10_a) rfl rfl (by kernel_rfl) (by kernel_rfl) (by kernel_rfl) (fun _ _ _ h => h) (Or.inl ⟨by rfl, ?y10_a⟩) (by assumption) ?_
      case y10_a => intro w hSw; (try dsimp only at hSw); go_split_ands; go_simp; first | done | (with_reducible rfl)
      try simp only [List.setIfInBounds_toArray, List.set_cons_zero, List.set_cons_succ]
      refine takeH (i := 11) (d := 60) (v := ?v11_a) rfl rfl (by kernel_rfl) (by kernel_rfl) (by kernel_rfl) (fun _ _ _ h => h) (Or.inl ⟨by rfl, ?y11_a⟩) (by assumption) ?_
      case y11_a => intro w hSw; (try dsimp only at hSw); go_split_ands; go_simp; first | done | (with_reducible rfl)
      try simp only [List.setIfInBounds_toArray, List.set_cons_zero, List.set_cons_succ]
      refine takeH (i := 12) (d := 61) (v := ?v12_a) rfl rfl (by kernel_rfl) (by kernel_rfl) (by kernel_rfl) (fun _ _ _ h => h) (Or.inl ⟨by rfl, ?y12_a⟩) (by assumption) ?_
      case y12_a => intro w hSw; (try dsimp only at hSw); go_split_ands; go_simp; first | done | (with_reducible rfl)
      try simp only [List.setIfInBounds_toArray, List.set_cons_zero, List.set_cons_succ]
      refine takeH (i := 13) (d := 62) (v := ?v13_a) rfl rfl (by kernel_rfl) (by kernel_rfl) (by kernel_rfl) (fun _ _ _ h => h) (Or.inl ⟨by rfl, ?y13_a⟩) (by assumption) ?_
      case y13_a => intro w hSw; (try dsimp only at hSw); go_split_ands; go_simp; first | done | (with_reducible rfl)
      try simp only [List.setIfInBounds_toArray, List.set_cons_zero, List.set_cons_succ]
      refine takeH (i := 14) (d := 63) (v := ?v14_a) rfl rfl (by kernel_rfl) (by kernel_rfl) (by kernel_rfl) (fun _ _ _ h => h) (Or.inl ⟨by rfl, ?y14_a⟩) (by assumption) ?_
      case y14_a => intro w hSw; (try dsimp only at hSw); go_split_ands; go_simp; first | done | (with_reducible rfl)
      try simp only [List.setIfInBounds_toArray, List.set_cons_zero, List.set_cons_succ]
      refine takeH (i := 15) (d := 64) (v := ?v15_a) rfl rfl (by kernel_rfl) (by kernel_rfl) (by kernel_rfl) (fun _ _ _ h => h) (Or.inl ⟨by rfl, ?y15_a⟩) (by assumption) ?_
      case y15_a => intro w hSw; (try dsimp only at hSw); go_split_ands; go_simp; first | done | (with_reducible rfl)
      try simp only [List.setIfInBounds_toArray, List.set_cons_zero, List.set_cons_succ]
      refine takeH (i := 16) (d := 65) (v := ?v16_a) rfl rfl (by kernel_rfl) (by kernel_rfl) (by kernel_rfl) (fun _ _ _ h => h) (Or.inl ⟨by rfl, ?y16_a⟩) (by assumption) ?_
      case y16_a => intro w hSw; (try dsimp only at hSw); go_split_ands; go_simp; first | done | (with_reducible rfl)
      try simp only [List.setIfInBounds_toArray, List.set_cons_zero, List.set_cons_succ]
      refine takeH (i := 17) (d := 66) (v := ?v17_a) rfl rfl (by kernel_rfl) (by kernel_rfl) (by kernel_rfl) (fun _ _ _ h => h) (Or.inl ⟨by rfl, ?y17_a⟩) (by assumption) ?_
      case y17_a => intro w hSw; (try dsimp only at hSw); go_split_ands; go_simp; first | done | (with_reducible rfl)
      try simp only [List.setIfInBounds_toArray, List.set_cons_zero, List.set_cons_succ]
      refine takeH (i := 18) (d := 67) (v := ?v18_a) rfl rfl (by kernel_rfl) (by kernel_rfl) (by kernel_rfl) (fun _ _ _ h => h) (Or.inl ⟨by rfl, ?y18_a⟩) (by assumption) ?_
      case y18_a => intro w hSw; (try dsimp only at hSw); go_split_ands; go_simp; first | done | (with_reducible rfl)
      try simp only [List.setIfInBounds_toArray, List.set_cons_zero, List.set_cons_succ]
      refine takeH (i := 19) (d := 68) (v := ?v19_a) rfl rfl (by kernel_rfl) (by kernel_rfl) (by kernel_rfl) (fun _ _ _ h => h) (Or.inl ⟨by rfl, ?y19_a⟩) (by assumption) ?_
      case y19_a => intro w hSw; (try dsimp only at hSw); go_split_ands; go_simp; first | done | (with_reducible rfl)
      try simp only [List.setIfInBounds_toArray, List.set_cons_zero, List.set_cons_succ]
      refine takeH (i := 20) (d := 69) (v := ?v20_a) rfl rfl (by kernel_rfl) (by kernel_rfl) (by kernel_rfl) (fun _ _ _ h => h) (Or.inl ⟨by rfl, ?y20_a⟩) (by assumption) ?_
      case y20_a => intro w hSw; (try dsimp only at hSw); go_split_ands; go_simp; first | done | (with_reducible rfl)
      try simp only [List.setIfInBounds_toArray, List.set_cons_zero, List.set_cons_succ]
      refine takeH (i := 21) (d := 70) (v := ?v21_a) rfl rfl (by kernel_rfl) (by kernel_rfl) (by kernel_rfl) (fun _ _ _ h => h) (Or.inl ⟨by rfl, ?y21_a⟩) (by assumption) ?_
      case y21_a => intro w hSw; (try dsimp only at hSw); go_split_ands; go_simp; first | done | (with_reducible rfl)
      try simp only [List.setIfInBounds_toArray, List.set_cons_zero, List.set_cons_succ]
      refine takeH (i := 22) (d := 71) (v := ?v22_a) rfl rfl (by kernel_rfl) (by kernel_rfl) (by kernel_rfl) (fun _ _ _ h => h) (Or.inl ⟨by rfl, ?y22_a⟩) (by assumption) ?_
      case y22_a => intro w hSw; (try dsimp only at hSw); go_split_ands; go_simp; first | done | (with_reducible rfl)
      try simp only [List.setIfInBounds_toArray, List.set_cons_zero, List.set_cons_succ]
      refine takeH (i := 23) (d := 72) (v := ?v23_a) rfl rfl (by kernel_rfl) (by kernel_rfl) (by kernel_rfl) (fun _ _ _ h => h) (Or.inl ⟨by rfl, ?y23_a⟩) (by assumption) ?_
      case y23_a => intro w hSw; (try dsimp only at hSw); go_split_ands; go_simp; first | done | (with_reducible rfl)
      try simp only [List.setIfInBounds_toArray, List.set_cons_zero, List.set_cons_succ]
      refine takeH (i := 24) (d := 73) (v := ?v24_a) rfl rfl (by kernel_rfl) (by kernel_rfl) (by kernel_rfl) (fun _ _ _ h => h) (Or.inl ⟨by rfl, ?y24_a⟩) (by assumption) ?_
      case y24_a => intro w hSw; (try dsimp only at hSw); go_split_ands; go_simp; first | done | (with_reducible rfl)
      try simp only [List.setIfInBounds_toArray, List.set_cons_zero, List.set_cons_succ]
      refine takeH (i := 25) (d := 74) (v := ?v25_a) rfl rfl (by kernel_rfl) (by kernel_rfl) (by kernel_rfl) (fun _ _ _ h => h) (Or.inl ⟨by rfl, ?y25_a⟩) (by assumption) ?_
      case y25_a => intro w hSw; (try dsimp only at hSw); go_split_ands; go_simp; first | done | (with_reducible rfl)
      try simp only [List.setIfInBounds_toArray, List.set_cons_zero, List.set_cons_succ]
      refine takeH (i := 26) (d := 75) (v := ?v26_a) rfl rfl (by kernel_rfl) (by kernel_rfl) (by kernel_rfl) (fun _ _ _ h => h) (Or.inl ⟨by rfl, ?y26_a⟩) (by assumption) ?_
      case y26_a => intro w hSw; (try dsimp only at hSw); go_split_ands; go_simp; first | done | (with_reducible rfl)
      try simp only [List.setIfInBounds_toArray, List.set_cons_zero, List.set_cons_succ]
      refine takeH (i := 27) (d := 76) (v := ?v27_a) rfl rfl (by kernel_rfl) (by kernel_rfl) (by kernel_rfl) (fun _ _ _ h => h) (Or.inl ⟨by rfl, ?y27_a⟩) (by assumption) ?_
      case y27_a => intro w hSw; (try dsimp only at hSw); go_split_ands; go_simp; first | done | (with_reducible rfl)
      try simp only [List.setIfInBounds_toArray, List.set_cons_zero, List.set_cons_succ]
      refine takeH (i := 28) (d := 77) (v := ?v28_a) rfl rfl (by kernel_rfl) (by kernel_rfl) (by kernel_rfl) (fun _ _ _ h => h) (Or.inl ⟨by rfl, ?y28_a⟩) (by assumption) ?_
      case y28_a => intro w hSw; (try dsimp only at hSw); go_split_ands; go_simp; first | done | (with_reducible rfl)
      try simp only [List.setIfInBounds_toArray, List.set_cons_zero, List.set_cons_succ]
      refine takeH (i := 29) (d := 78) (v := ?v29_a) rfl rfl (by kernel_rfl) (by kernel_rfl) (by kernel_rfl) (fun _ _ _ h => h) (Or.inl ⟨by rfl, ?y29_a⟩) (by assumption) ?_
      case y29_a => intro w hSw; (try dsimp only at hSw); go_split_ands; go_simp; first | done | (with_reducible rfl)
      try simp only [List.setIfInBounds_toArray, List.set_cons_zero, List.set_cons_succ]
      refine takeH (i := 30) (d := 79) (v := ?v30_a) rfl rfl (by kernel_rfl) (by kernel_rfl) (by kernel_rfl) (fun _ _ _ h => h) (Or.inl ⟨by rfl, ?y30_a⟩) (by assumption) ?_
      case y30_a => intro w hSw; (try dsimp only at hSw); go_split_ands; go_simp; first | done | (with_reducible rfl)
      try simp only [List.setIfInBounds_toArray, List.set_cons_zero, List.set_cons_succ]
      refine takeH (i := 31) (d := 80) (v := ?v31_a) rfl rfl (by kernel_rfl) (by kernel_rfl) (by kernel_rfl) (fun _ _ _ h => h) (Or.inl ⟨by rfl, ?y31_a⟩) (by assumption) ?_
      case y31_a => intro w hSw; (try dsimp only at hSw); go_split_ands; go_simp; first | done | (with_reducible rfl)
      try simp only [List.setIfInBounds_toArray, List.set_cons_zero, List.set_cons_succ]
      refine takeH (i := 32) (d := 81) (v := ?v32_a) rfl rfl (by kernel_rfl) (by kernel_rfl) (by kernel_rfl) (fun _ _ _ h => h) (Or.inl ⟨by rfl, ?y32_a⟩) (by assumption) ?_
      case y32_a => intro w hSw; (try dsimp only at hSw); go_split_ands; go_simp; first | done | (with_reducible rfl)
      try simp only [List.setIfInBounds_toArray, List.set_cons_zero, List.set_cons_succ]
      refine takeH (i := 33) (d := 82) (v := ?v33_a) rfl rfl (by kernel_rfl) (by kernel_rfl) (by kernel_rfl) (fun _ _ _ h => h) (Or.inl ⟨by rfl, ?y33_a⟩) (by assumption) ?_
      case y33_a => intro w hSw; (try dsimp only at hSw); go_split_ands; go_simp; first | done | (with_reducible rfl)
      try simp only [List.setIfInBounds_toArray, List.set_cons_zero, List.set_cons_succ]
      refine takeH (i := 34) (d := 83) (v := ?v34_a) rfl rfl (by kernel_rfl) (by kernel_rfl) (by kernel_rfl) (fun _ _ _ h => h) (Or.inl ⟨by rfl, ?y34_a⟩) (by assumption) ?_
      case y34_a => intro w hSw; (try dsimp only at hSw); go_split_ands; go_simp; first | done | (with_reducible rfl)
      try simp only [List.setIfInBounds_toArray, List.set_cons_zero, List.set_cons_succ]
      refine takeH (i := 35) (d := 84) (v := ?v35_a) rfl rfl (by kernel_rfl) (by kernel_rfl) (by kernel_rfl) (fun _ _ _ h => h) (Or.inl ⟨by rfl, ?y35_a⟩) (by assumption) ?_
      case y35_a => intro w hSw; (try dsimp only at hSw); go_split_ands; go_simp; first | done | (with_reducible rfl)
      try simp only [List.setIfInBounds_toArray, List.set_cons_zero, List.set_cons_succ]
      refine takeH (i := 36) (d := 85) (v := ?v36_a) rfl rfl (by kernel_rfl) (by kernel_rfl) (by kernel_rfl) (fun _ _ _ h => h) (Or.inl ⟨by rfl, ?y36_a⟩) (by assumption) ?_
      case y36_a => intro w hSw; (try dsimp only at hSw); go_split_ands; go_simp; first | done | (with_reducible rfl)
      try simp only [List.setIfInBounds_toArray, List.set_cons_zero, List.set_cons_succ]
      refine takeH (i := 37) (d := 86) (v := ?v37_a) rfl rfl (by kernel_rfl) (by kernel_rfl) (by kernel_rfl) (fun _ _ _ h => h) (Or.inl ⟨by rfl, ?y37_a⟩) (by assumption) ?_
      case y37_a => intro w hSw; (try dsimp only at hSw); go_split_ands; go_simp; first | done | (with_reducible rfl)
      try simp only [List.setIfInBounds_toArray, List.set_cons_zero, List.set_cons_succ]
      refine takeH (i := 38) (d := 87) (v := undef) rfl rfl (by kernel_rfl) (by kernel_rfl) (by kernel_rfl) (fun _ _ _ h => h) (Or.inr ⟨by rfl, rfl⟩) (by assumption) ?_
      try simp only [List.setIfInBounds_toArray, List.set_cons_zero, List.set_cons_succ]
      refine takeH (i := 39) (d := 88) (v := undef) rfl rfl (by kernel_rfl) (by kernel_rfl) (by kernel_rfl) (fun _ _ _ h => h) (Or.inr ⟨by rfl, rfl⟩) (by assumption) ?_
      try simp only [List.setIfInBounds_toArray, List.set_cons_zero, List.set_cons_succ]
      refine takeH (i := 40) (d := 89) (v := undef) rfl rfl (by kernel_rfl) (by kernel_rfl) (by kernel_rfl) (fun _ _ _ h => h) (Or.inr ⟨by rfl, rfl⟩) (by assumption) ?_
      try simp only [List.setIfInBounds_toArray, List.set_cons_zero, List.set_cons_succ]
      refine takeH (i := 41) (d := 90) (v := ?v41_a) rfl rfl (by kernel_rfl) (by kernel_rfl) (by kernel_rfl) (fun _ _ _ h => h) (Or.inl ⟨by rfl, ?y41_a⟩) (by assumption) ?_
      case y41_a => intro w hSw; (try dsimp only at hSw); go_split_ands; go_simp; first | done | (with_reducible rfl)
      try simp only [List.setIfInBounds_toArray, List.set_cons_zero, List.set_cons_succ]
      refine takeH (i := 42) (d := 91) (v := ?v42_a) rfl rfl (by kernel_rfl) (by kernel_rfl) (by kernel_rfl) (fun _ _ _ h => h) (Or.inl ⟨by rfl, ?y42_a⟩) (by assumption) ?_
      case y42_a => intro w hSw; (try dsimp only at hSw); go_split_ands; go_simp; first | done | (with_reducible rfl)
      try simp only [List.setIfInBounds_toArray, List.set_cons_zero, List.set_cons_succ]
      refine wpAnyH_done (by kernel_rfl) ?_ _
      all_goals
        obtain ⟨e6_0, e6_1, e6_2, e6_3, e6_4⟩ := box_cells HE6.out
        obtain ⟨k6_0, k6_1⟩ := box_cells2 HK6.out
        go_wp2_with (go_at_call 11; refine (hL _).mono ?_; rintro e w7 ⟨rfl, hb7⟩; have HB7 := Aside0.mk hb7; clear hb7)
        go_ret
        exact ⟨rfl, HB6.out.trans (HB7.out.mono HB6.out.size)⟩


end Go.Proofs.Ytkepebaapgkhbaa.X
namespace Go.Proofs.Ytkepebaapgkhbaa.X
open Go.RowKit Go.Proofs.YtkepebaapgkhbaaW.PrintWords Go.Proofs.YtkepebaapgkhbaaW.PrintLast Go.Proofs.YtkepebaapgkhbaaW.PrintMore
attribute [local go_sem] max2_int min2_int max_two min_two max_three min_three max_four min_four   -- for this text's walks alone
set_option linter.unusedVariables false
set_option linter.unusedSimpArgs false

/-! ### pure text 4: open -/
open Go.ChangeShapes Go.WideShapes Go.Deep
/-! ### What came in, as print's words tell it -/
theorem add_add_mul (a : Addr) (i j : Nat) : (a.add i).add j = a.add (i + j) := by
  unfold Addr.add
  by_cases hi : i = 0
  · subst hi; simp
  · by_cases hj : j = 0
    · subst hj; simp
    · rw [if_neg hi, if_neg hj, if_neg (by omega)]
      simp; omega
/-- A slice whose elements read by a kind. -/
theorem slice_reads {α : Type} {H : Type} {enc : TypeId × Value → H} {P : Program} {W : World} {t e : TypeId} {a : Option Addr} {len cap : Nat} {d : DataW H} {ps : List MemPlace} (k : Kd α) (Good : α → Prop)
    (ht : P.underlying t = some (.slice e)) (hs : P.cellsOf e = k.sz)
    (hel : ∀ n cs y, DataW.trod enc P W 0 (fun _ => true) true n e cs = some y → ∃ x, k.K W x cs ∧ Good x)
    (h : DataW.Trod enc P W 0 (fun _ => true) true t (.slice a len cap) d ps) :
    ∃ l : List α, l.length = len ∧ Kd.C k W a l.length l ∧ l.length ≤ cap ∧ l.length ≤ maxLen ∧ ∀ x ∈ l, Good x := by
  obtain ⟨fuel, hf⟩ := h
  have hf' : DataW.trod enc P W 0 (fun _ => true) true fuel t [.slice a len cap] = some (d, ps) := by simpa [Value.cells] using hf
  rcases open_slice ht hf' with ⟨hcs, _⟩ | ⟨ad, l', c', m, n, D, Pl, hcs, _, hl, hm, hmm, _, hx⟩
  · simp at hcs
    obtain ⟨rfl, rfl, rfl⟩ := hcs
    exact ⟨[], rfl, Kd.C_nil k W, by simp, by simp, by simp⟩
  · simp at hcs
    obtain ⟨rfl, rfl, rfl⟩ := hcs
    have hmc : m = cap := by simpa using hmm
    subst hmc
    have each : ∀ i, i < len → ∃ x, Good x ∧ ∃ c, c.length = k.sz ∧ k.K W x c ∧ ∀ j u, c[j]? = some u → W.cell? (ad.add (i * k.sz + j)) = some u := by
      intro i hi
      obtain ⟨cs', h1, h2⟩ := hx i (by omega)
      obtain ⟨x, hK, hG⟩ := hel _ _ _ h2
      rw [hs] at h1
      obtain ⟨_, hlen, hcell⟩ := World.cells?_some h1
      refine ⟨x, hG, cs', hlen, hK, fun j u hj => ?_⟩
      have hlt : j < k.sz := by rw [← hlen]; exact (List.getElem?_eq_some_iff.1 hj).1
      have := hcell j hlt
      rw [add_add_mul] at this
      rw [this, hj]
    have hbuild : ∀ n, n ≤ len → ∃ l : List α, l.length = n ∧ ∀ i x, l[i]? = some x → Good x ∧ ∃ c, c.length = k.sz ∧ k.K W x c ∧ ∀ j u, c[j]? = some u → W.cell? (ad.add (i * k.sz + j)) = some u := by
      intro n
      induction n with
      | zero => intro _; exact ⟨[], rfl, fun i x h => by simp at h⟩
      | succ n ih =>
        intro hn
        obtain ⟨l, hl', hL⟩ := ih (by omega)
        obtain ⟨x, hx'⟩ := each n (by omega)
        refine ⟨l ++ [x], by simp [hl'], fun i y hy => ?_⟩
        by_cases hi : i < l.length
        · rw [List.getElem?_append_left hi] at hy
          exact hL i y hy
        · rw [List.getElem?_append_right (by omega)] at hy
          have h0 : i - l.length = 0 := by
            have := (List.getElem?_eq_some_iff.1 hy).1
            simp at this; omega
          rw [h0] at hy
          simp at hy
          subst hy
          have : i = n := by omega
          subst this
          exact hx'
    obtain ⟨l, hll, hL⟩ := hbuild len (Nat.le_refl _)
    refine ⟨l, hll, ⟨rfl, by unfold maxLen at hm; omega, fun _ => ⟨ad, rfl, fun j p hj => (hL j p hj).2⟩⟩, by omega, by omega, fun x hx' => ?_⟩
    obtain ⟨i, hi⟩ := List.getElem?_of_mem hx'
    exact (hL i x hi).1
/-- A text. -/
theorem el_string {H : Type} {enc : TypeId × Value → H} {P : Program} {W : World} {e : TypeId} (he : P.underlying e = some .string) :
    ∀ n cs y, DataW.trod enc P W 0 (fun _ => true) true n e cs = some y → ∃ x : ByteArray, Kd.string.K W x cs ∧ x.size ≤ maxLen := by
  intro n cs y h
  obtain ⟨s, rfl, _, hw⟩ := DataW.trod_string he h
  exact ⟨s, rfl, hw⟩
theorem el_int {H : Type} {enc : TypeId × Value → H} {P : Program} {W : World} {e : TypeId} {k : IntKind} (he : P.underlying e = some (.int k)) :
    ∀ n cs y, DataW.trod enc P W 0 (fun _ => true) true n e cs = some y → ∃ x : Int, (Kd.int k).K W x cs ∧ (Lit.int k x).wf = true := by
  intro n cs y h
  obtain ⟨x, rfl, _, hw⟩ := DataW.trod_int he h
  exact ⟨x, rfl, hw⟩
theorem el_bool {H : Type} {enc : TypeId × Value → H} {P : Program} {W : World} {e : TypeId} (he : P.underlying e = some .bool) :
    ∀ n cs y, DataW.trod enc P W 0 (fun _ => true) true n e cs = some y → ∃ x : Bool, Kd.bool.K W x cs ∧ True := by
  intro n cs y h
  obtain ⟨x, rfl, _⟩ := DataW.trod_bool he h
  exact ⟨x, rfl, trivial⟩


end Go.Proofs.Ytkepebaapgkhbaa.X
