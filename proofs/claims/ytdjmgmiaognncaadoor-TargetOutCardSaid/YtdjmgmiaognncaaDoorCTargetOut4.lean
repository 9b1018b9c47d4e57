/- Part 4 of the texts behind the claim on TargetOut: contracts of the functions that it reaches, and plain laws about them. No conditions of its own. -/
import Derived.Test.YtdjmgmiaognncaaDoorCTargetOut1
import Derived.Test.YtdjmgmiaognncaaDoorCTargetOut3
import Derived.Test.YtdjmgmiaognncaaDoorCTargetOut2
import Derived.Lib.OthersKept
import Derived.Lib.LastIndexByte
import Derived.Laws.IdiomStrings
import Derived.Lib.ConvBytes
import Derived.RangeFuncRecord
namespace Go.Proofs.YtdjmgmiaognncaaDoor.X
open Go.RowKit Go.Proofs.YtdjmgmiaognncaaDoorW.PrintWords Go.Proofs.YtdjmgmiaognncaaDoorW.PrintLast Go.Proofs.YtdjmgmiaognncaaDoorW.PrintMore
attribute [local go_sem] max2_int min2_int max_two min_two max_three min_three max_four min_four   -- for this text's walks alone
set_option linter.unusedVariables false
set_option linter.unusedSimpArgs false

/-! ### abutmentref12_Parse: function 12 -/
mutual
def abutmentref12_Parse.l0 : Nat → ByteArray → ByteArray → Bool → Int → Option (Int × ByteArray × ByteArray × Int)
  | 0, _, _, _, _ => none
  | k + 1, x0, x1, x6, x7 => if x7 < (x1.size : Int) then (if x6 = true then (abutmentref12_Parse.l0 k x0 x1 true (wrap64 (x7 + 1))) else (if 0 ≤ x7 then (abutmentref12_Parse.l0 k x0 x1 ((bt x1 x7) == 35) (wrap64 (x7 + 1))) else (none))) else (if x6 = true then (some (0, (⟨#[]⟩ : ByteArray), (⟨#[]⟩ : ByteArray), 11)) else (if x0.toList = ([67, 79, 78, 78, 69, 67, 84] : List UInt8) then ((abutmentref11_Name.f k x1).bind fun t103 => ((abutmentref11_Parse.f k x1).bind fun bt104 => (if bt104.2.2 = 0 then (if t103 = (x1.size : Int) then (some (0, (⟨#[]⟩ : ByteArray), (⟨#[]⟩ : ByteArray), 11)) else (some (3, x1, (⟨#[]⟩ : ByteArray), 0))) else (some (0, (⟨#[]⟩ : ByteArray), (⟨#[]⟩ : ByteArray), 11))))) else (if 0 < (x1.size : Int) then (if (bt x1 0) = 47 then (some (1, (⟨#[]⟩ : ByteArray), x1, 0)) else (if x1.toList = ([42] : List UInt8) then (abutmentref12_Parse.j1 k x1 (x0.toList == ([79, 80, 84, 73, 79, 78, 83] : List UInt8))) else (abutmentref12_Parse.j1 k x1 false))) else (none))))
def abutmentref12_Parse.j1 : Nat → ByteArray → Bool → Option (Int × ByteArray × ByteArray × Int)
  | 0, _, _ => none
  | k + 1, x1, x68 => if x68 = true then (some (4, (⟨#[]⟩ : ByteArray), (⟨#[]⟩ : ByteArray), 0)) else (if (x1.size : Int) < 7 then (abutmentref12_Parse.j2 k x1 true) else (if 0 ≤ 7 then (if 7 ≤ (x1.size : Int) then ((abutmentref01_Lower.f k (x1.extract 0 7)).bind fun t107 => (abutmentref12_Parse.j2 k x1 (t107.toList != ([104, 116, 116, 112, 58, 47, 47] : List UInt8)))) else (none)) else (none)))
def abutmentref12_Parse.j2 : Nat → ByteArray → Bool → Option (Int × ByteArray × ByteArray × Int)
  | 0, _, _ => none
  | k + 1, x1, x78 => if x78 = true then (some (0, (⟨#[]⟩ : ByteArray), (⟨#[]⟩ : ByteArray), 11)) else (abutmentref12_Parse.l1 k x1 7)
def abutmentref12_Parse.l1 : Nat → ByteArray → Int → Option (Int × ByteArray × ByteArray × Int)
  | 0, _, _ => none
  | k + 1, x1, x12 => if x12 < (x1.size : Int) then (if 0 ≤ x12 then (if (bt x1 x12) = 47 then (if 7 ≤ x12 then (if x12 ≤ (x1.size : Int) then ((abutmentref11_Parse.f k (x1.extract 7 (x12 : Int).toNat)).bind fun bt108 => (if bt108.2.2 = 0 then (some (2, x1.extract 7 (x12 : Int).toNat, x1.extract (x12 : Int).toNat x1.size, 0)) else (some (0, (⟨#[]⟩ : ByteArray), (⟨#[]⟩ : ByteArray), 11)))) else (none)) else (none)) else (if (bt x1 x12) = 63 then (if 7 ≤ x12 then (if x12 ≤ (x1.size : Int) then ((abutmentref11_Parse.f k (x1.extract 7 (x12 : Int).toNat)).bind fun bt111 => (if bt111.2.2 = 0 then (some (2, x1.extract 7 (x12 : Int).toNat, x1.extract (x12 : Int).toNat x1.size, 0)) else (some (0, (⟨#[]⟩ : ByteArray), (⟨#[]⟩ : ByteArray), 11)))) else (none)) else (none)) else (abutmentref12_Parse.l1 k x1 (wrap64 (x12 + 1))))) else (none)) else (if 7 ≤ x12 then (if x12 ≤ (x1.size : Int) then ((abutmentref11_Parse.f k (x1.extract 7 (x12 : Int).toNat)).bind fun bt114 => (if bt114.2.2 = 0 then (if 0 ≤ x12 then (some (2, x1.extract 7 (x12 : Int).toNat, x1.extract (x12 : Int).toNat x1.size, 0)) else (none)) else (some (0, (⟨#[]⟩ : ByteArray), (⟨#[]⟩ : ByteArray), 11)))) else (none)) else (none))
end
def abutmentref12_Parse.f (k : Nat) (a0 : ByteArray) (a1 : ByteArray) : Option (Int × ByteArray × ByteArray × Int) := if a1.toList = ([] : List UInt8) then (some (0, (⟨#[]⟩ : ByteArray), (⟨#[]⟩ : ByteArray), 2)) else ((abutmentref01_Visible.f k a1).bind fun t102 => (abutmentref12_Parse.l0 k a0 a1 (!t102) 0))
def abutmentref12_Parse.T28 : Bool × List (List Nat × List Nat) := (true, [([], []), ([], []), ([0, 1], [0, 1]), ([], []), ([], []), ([3, 4], [3, 4]), ([2, 5], [2, 5]), ([6, 0, 1, 2, 3, 4, 5, 6], [6]), ([7, 0, 1, 2, 3, 4, 5, 6, 7], [])])
def abutmentref12_Parse.B28 : List Nat := [0, 0, 3, 0, 0, 24, 63, 127, 255]
theorem abutmentref12_Parse.tab28 : rtab .any (opsOf Tryd.f12 28) = abutmentref12_Parse.T28 := by kernel_rfl
theorem abutmentref12_Parse.bits28 : waitsOk abutmentref12_Parse.T28.2 abutmentref12_Parse.B28 = true := by kernel_rfl
set_option maxHeartbeats 8000000 in
set_option maxRecDepth 100000 in
theorem abutmentref12_Parse.calls (k : Nat) (a0 : ByteArray) (a1 : ByteArray) (r1 : Int) (r2 : ByteArray) (r3 : ByteArray) (r4 : Int) (w : World) (h : abutmentref12_Parse.f k a0 a1 = some (r1, r2, r3, r4)) :
    Calls Tryd.prog 12 #[.string a0, .string a1] w fun e w' => e = .returned (.tuple #[.agg #[.int .i64 r1, .string r2, .string r3], .int .i64 r4]) ∧ Below w.heap.size w w' := by
  have hu32 := Tryd.underlying32
  have HB := Aside0.mk (Below.refl w.heap.size w)
  have H : (if a1.toList = ([] : List UInt8) then (some (0, (⟨#[]⟩ : ByteArray), (⟨#[]⟩ : ByteArray), 2)) else ((abutmentref01_Visible.f k a1).bind fun t102 => (abutmentref12_Parse.l0 k a0 a1 (!t102) 0))) = some (r1, r2, r3, r4) := h
  clear h
  by_cases c3 : a1.toList = ([] : List UInt8)
  · rw [if_pos c3] at H
    have c3b0 : (a1.toList == ([] : List UInt8)) = true := beq_iff_eq.mpr c3
    have c3b1 : (a1.toList != ([] : List UInt8)) = false := bne_eq_false_iff_eq.mpr c3
    clear c3
    simp only [Option.some.injEq, Prod.mk.injEq] at H
    obtain ⟨rfl, rfl, rfl, rfl⟩ := H
    go_enter Tryd.func12, Tryd.ntmps12
    go_wp2_with (first | ((with_reducible refine gate_dst (N := 4) rfl ?_); (try (refine gate_guard (by rfl) ?_; dsimp only)); refine box_event ?hg (N := 4) ?hd (cs := #[.int .i64 0, .string (⟨#[]⟩ : ByteArray), .string (⟨#[]⟩ : ByteArray)]) (t := 32) ?hr ?_; (case hd => rfl); (case hg => rfl); (case hr => first | (go_simp; done) | (go_simp; rfl)); intro gb101 hg w4 hbox hb; have n0_ := Aside0.mk (below_step (by repeat (first | (with_reducible first | exact HB.out | apply below_alloc | apply pw_below_drewN | apply below_drew1) | exact HB.out)) hb); have n1_ := Aside0.mk (hbox); have n2_ := Aside0.mk ((by rw [hg]; exact (below_size (by repeat (first | (with_reducible first | exact HB.out | apply below_alloc | apply pw_below_drewN | apply below_drew1) | exact HB.out))) : w.heap.size ≤ gb101)); have n3_ := Aside0.mk ((by rw [hg]; exact (below_size (by repeat (first | (with_reducible first | exact HB.out | apply below_alloc | apply pw_below_drewN | apply below_drew1) | exact HB.out))) : w.heap.size ≤ gb101)); clear HB; have HB := n0_; have BK101 := n1_; have GW101 := n2_; have GE101 := n3_; clear n0_ n1_ n2_ n3_; clear hb hbox hg; have hcz5_0 : w4.cell? ⟨gb101, 0, none⟩ = some (.int .i64 0) := (blk_cell BK101.out 0).trans rfl; have hcz5_1 : w4.cell? ⟨gb101, 1, none⟩ = some (.string (⟨#[]⟩ : ByteArray)) := (blk_cell BK101.out 1).trans rfl; have hcz5_2 : w4.cell? ⟨gb101, 2, none⟩ = some (.string (⟨#[]⟩ : ByteArray)) := (blk_cell BK101.out 2).trans rfl; have hfz5_0 := blk_frozen BK101.out 0; have hfz5_1 := blk_frozen BK101.out 1; have hfz5_2 := blk_frozen BK101.out 2))
    refine bodyPost_ret (results_ct rfl _ _ gb101 32 #[.int .i64 0, .string (⟨#[]⟩ : ByteArray), .string (⟨#[]⟩ : ByteArray)] (0, 0) _ rfl (by (with_reducible repeat (first | refine blk_drewN ?_ _ | refine blk_drew ?_ | refine blk_alloc ?_ _)); refine blk_put (cs := #[.int .i64 0, .string (⟨#[]⟩ : ByteArray), .string (⟨#[]⟩ : ByteArray)]) ?_ 2 _ rfl; (with_reducible repeat (first | refine blk_drewN ?_ _ | refine blk_drew ?_ | refine blk_alloc ?_ _)); refine blk_put (cs := #[.int .i64 0, .string (⟨#[]⟩ : ByteArray), .string (⟨#[]⟩ : ByteArray)]) ?_ 1 _ rfl; (with_reducible repeat (first | refine blk_drewN ?_ _ | refine blk_drew ?_ | refine blk_alloc ?_ _)); refine blk_put (cs := #[.int .i64 0, .string (⟨#[]⟩ : ByteArray), .string (⟨#[]⟩ : ByteArray)]) ?_ 0 _ rfl; (with_reducible repeat (first | refine blk_drewN ?_ _ | refine blk_drew ?_ | refine blk_alloc ?_ _)); exact BK101.out) Tryd.underlying32 rfl (by kernel_rfl)) rfl ?_
    exact ⟨by first | rfl | (simp [errW_none, errW_some] <;> rfl) | (simp [*, errW_none, errW_some] <;> rfl), by repeat (first | (with_reducible first | exact HB.out | apply below_alloc | apply pw_below_drewN | apply below_drew1 | refine below_set ?_ GE101.out) | exact HB.out)⟩
  · rw [if_neg c3] at H
    have c3b0 : (a1.toList == ([] : List UInt8)) = false := beq_eq_false_iff_ne.mpr c3
    have c3b1 : (a1.toList != ([] : List UInt8)) = true := bne_iff_ne.mpr c3
    replace H := Option.bind_eq_some_iff.mp H
    obtain ⟨t102, A60, H⟩ := H
    replace H : (abutmentref12_Parse.l0 k a0 a1 (!t102) 0) = some (r1, r2, r3, r4) := H
    have A6 := Aside0.mk A60
    clear A60
    have H' := Aside0.mk H
    clear H
    go_enter Tryd.func12, Tryd.ntmps12
    go_wp2_with (first | ((with_reducible refine gate_dst (N := 4) rfl ?_); (try (refine gate_guard (by rfl) ?_; dsimp only)); refine box_event ?hg (N := 4) ?hd (cs := #[.int .i64 0, .string (⟨#[]⟩ : ByteArray), .string (⟨#[]⟩ : ByteArray)]) (t := 32) ?hr ?_; (case hd => rfl); (case hg => rfl); (case hr => first | (go_simp; done) | (go_simp; rfl)); intro gb101 hg w7 hbox hb; have n0_ := Aside0.mk (below_step (by repeat (first | (with_reducible first | exact HB.out | apply below_alloc | apply pw_below_drewN | apply below_drew1) | exact HB.out)) hb); have n1_ := Aside0.mk (hbox); have n2_ := Aside0.mk ((by rw [hg]; exact (below_size (by repeat (first | (with_reducible first | exact HB.out | apply below_alloc | apply pw_below_drewN | apply below_drew1) | exact HB.out))) : w.heap.size ≤ gb101)); have n3_ := Aside0.mk ((by rw [hg]; exact (below_size (by repeat (first | (with_reducible first | exact HB.out | apply below_alloc | apply pw_below_drewN | apply below_drew1) | exact HB.out))) : w.heap.size ≤ gb101)); clear HB; have HB := n0_; have BK101 := n1_; have GW101 := n2_; have GE101 := n3_; clear n0_ n1_ n2_ n3_; clear hb hbox hg) | ((with_reducible refine gate_callee (f := 36) rfl ?_); refine goesL_ (some 20) rfl rfl Tryd.func36 (by kernel_rfl) rfl #[.string a1] rfl (by (try simp only [List.map_toArray, List.map_cons, List.map_nil]); first | done | rfl | (simp only [List.length_drop, List.length_take]; rfl)) ?_; (with_reducible refine (abutmentref01_Visible.calls k a1 t102 _ A6.out).mono ?_); rintro e w' ⟨rfl, ⟨nd, rfl⟩⟩; refine ⟨_, rfl, ?_⟩))
    go_loopg [6, 7] k (fun kq v6 v7 w' => ∃ (x6_1 : Bool) (x7_1 : Int), v6 = .bool x6_1 ∧ v7 = .int .i64 x7_1 ∧ Aside0 (abutmentref12_Parse.l0 kq a0 a1 x6_1 x7_1 = some (r1, r2, r3, r4)) ∧ Aside0 (kq ≤ k) ∧ Aside0 (w'.heap[gb101]? = some (.cells #[.int .i64 0, .string (⟨#[]⟩ : ByteArray), .string (⟨#[]⟩ : ByteArray)] 32 (0, 0))) ∧ Aside0 (Below w.heap.size w w'))
    case atStart => exact ⟨(!t102), (0), (by first | rfl | (simp; done) | (simp [*]; done)), (by first | rfl | (simp; done) | (simp [*]; done)), H', ⟨Nat.le_refl _⟩, ⟨by (with_reducible repeat (first | refine blk_drewN ?_ _ | refine blk_drew ?_ | refine blk_alloc ?_ _)); exact BK101.out⟩, ⟨by repeat (first | (with_reducible first | exact HB.out | apply below_alloc | apply pw_below_drewN | apply below_drew1 | refine below_set ?_ GE101.out) | exact HB.out)⟩⟩
    case round =>
      clear H'
      try clear c1
      try clear p2
      try clear c3
      try clear c3b0
      try clear c3b1
      try clear hcz5_0
      try clear hcz5_1
      try clear hcz5_2
      try clear hfz5_0
      try clear hfz5_1
      try clear hfz5_2
      obtain ⟨x6_1, x7_1, rfl, rfl, HA, HK1, BK101, HB⟩ := hrel
      cases gk with
      | zero => exact absurd HA.out (by simp [abutmentref12_Parse.l0])
      | succ k1 =>
        have H := HA.out
        clear HA
        simp only [abutmentref12_Parse.l0] at H
        by_cases c8 : x7_1 < (a1.size : Int)
        · rw [if_pos c8] at H
          have c8b0 : decide (x7_1 < (a1.size : Int)) = true := decide_eq_true c8
          clear c8
          by_cases c9 : x6_1 = true
          · subst c9
            have H1 : (abutmentref12_Parse.l0 k1 a0 a1 true (wrap64 (x7_1 + 1))) = some (r1, r2, r3, r4) := by rw [if_pos rfl] at H; exact H
            clear H
            have H := H1
            clear H1
            have H' := Aside0.mk H
            clear H
            go_wp2
            go_roundg k1
            case measure => have := HK1.out; omega
            case rel => exact ⟨(true), (wrap64 (x7_1 + 1)), (by first | rfl | (simp; done) | (simp [*]; done)), (by first | rfl | (simp; done) | (simp [*]; done)), H', ⟨by have := HK1.out; omega⟩, ⟨by (with_reducible repeat (first | refine blk_drewN ?_ _ | refine blk_drew ?_ | refine blk_alloc ?_ _)); exact BK101.out⟩, ⟨by repeat (first | (with_reducible first | exact HB.out | apply below_alloc | apply pw_below_drewN | apply below_drew1 | refine below_set ?_ GE101.out) | exact HB.out)⟩⟩
          · replace c9 := Bool.eq_false_iff.mpr c9
            subst c9
            have H1 : (if 0 ≤ x7_1 then (abutmentref12_Parse.l0 k1 a0 a1 ((bt a1 x7_1) == 35) (wrap64 (x7_1 + 1))) else (none)) = some (r1, r2, r3, r4) := by rw [if_neg (show ¬ (false = true) by decide)] at H; exact H
            clear H
            have H := H1
            clear H1
            by_cases c10 : 0 ≤ x7_1
            · rw [if_pos c10] at H
              have c10b0 : decide (0 ≤ x7_1) = true := decide_eq_true c10
              clear c10
              have H' := Aside0.mk H
              clear H
              have p11 : 0 ≤ (x7_1 : Int) := of_decide_eq_true (by first | (with_reducible assumption) | assumption)
              have q11 : x7_1 < (a1.size : Int) := of_decide_eq_true (by first | (with_reducible assumption) | assumption)
              have hx11 := bt_at a1 x7_1
              replace p11 := eq_true p11
              replace q11 := eq_true q11
              go_wp2
              go_roundg k1
              case measure => have := HK1.out; omega
              case rel => exact ⟨(((bt a1 x7_1) == 35)), (wrap64 (x7_1 + 1)), (by first | rfl | (simp; done) | (simp [*]; done)), (by first | rfl | (simp; done) | (simp [*]; done)), H', ⟨by have := HK1.out; omega⟩, ⟨by (with_reducible repeat (first | refine blk_drewN ?_ _ | refine blk_drew ?_ | refine blk_alloc ?_ _)); exact BK101.out⟩, ⟨by repeat (first | (with_reducible first | exact HB.out | apply below_alloc | apply pw_below_drewN | apply below_drew1 | refine below_set ?_ GE101.out) | exact HB.out)⟩⟩
            · rw [if_neg c10] at H
              exact absurd H (by simp)
        · rw [if_neg c8] at H
          have c8b0 : decide (x7_1 < (a1.size : Int)) = false := decide_eq_false c8
          clear c8
          by_cases c12 : x6_1 = true
          · subst c12
            have H1 : (some (0, (⟨#[]⟩ : ByteArray), (⟨#[]⟩ : ByteArray), 11)) = some (r1, r2, r3, r4) := by rw [if_pos rfl] at H; exact H
            clear H
            have H := H1
            clear H1
            simp only [Option.some.injEq, Prod.mk.injEq] at H
            obtain ⟨rfl, rfl, rfl, rfl⟩ := H
            have hcz13_0 : wr.cell? ⟨gb101, 0, none⟩ = some (.int .i64 0) := (blk_cell BK101.out 0).trans rfl
            have hcz13_1 : wr.cell? ⟨gb101, 1, none⟩ = some (.string (⟨#[]⟩ : ByteArray)) := (blk_cell BK101.out 1).trans rfl
            have hcz13_2 : wr.cell? ⟨gb101, 2, none⟩ = some (.string (⟨#[]⟩ : ByteArray)) := (blk_cell BK101.out 2).trans rfl
            have hfz13_0 := blk_frozen BK101.out 0
            have hfz13_1 := blk_frozen BK101.out 1
            have hfz13_2 := blk_frozen BK101.out 2
            go_wp2
            refine bodyPost_ret (results_ct rfl _ _ gb101 32 #[.int .i64 0, .string (⟨#[]⟩ : ByteArray), .string (⟨#[]⟩ : ByteArray)] (0, 0) _ rfl (by (with_reducible repeat (first | refine blk_drewN ?_ _ | refine blk_drew ?_ | refine blk_alloc ?_ _)); refine blk_put (cs := #[.int .i64 0, .string (⟨#[]⟩ : ByteArray), .string (⟨#[]⟩ : ByteArray)]) ?_ 2 _ rfl; (with_reducible repeat (first | refine blk_drewN ?_ _ | refine blk_drew ?_ | refine blk_alloc ?_ _)); refine blk_put (cs := #[.int .i64 0, .string (⟨#[]⟩ : ByteArray), .string (⟨#[]⟩ : ByteArray)]) ?_ 1 _ rfl; (with_reducible repeat (first | refine blk_drewN ?_ _ | refine blk_drew ?_ | refine blk_alloc ?_ _)); refine blk_put (cs := #[.int .i64 0, .string (⟨#[]⟩ : ByteArray), .string (⟨#[]⟩ : ByteArray)]) ?_ 0 _ rfl; (with_reducible repeat (first | refine blk_drewN ?_ _ | refine blk_drew ?_ | refine blk_alloc ?_ _)); exact BK101.out) Tryd.underlying32 rfl (by kernel_rfl)) rfl ?_
            exact ⟨by first | rfl | (simp [errW_none, errW_some] <;> rfl) | (simp [*, errW_none, errW_some] <;> rfl), by repeat (first | (with_reducible first | exact HB.out | apply below_alloc | apply pw_below_drewN | apply below_drew1 | refine below_set ?_ GE101.out) | exact HB.out)⟩
          · replace c12 := Bool.eq_false_iff.mpr c12
            subst c12
            have H1 : (if a0.toList = ([67, 79, 78, 78, 69, 67, 84] : List UInt8) then ((abutmentref11_Name.f k1 a1).bind fun t103 => ((abutmentref11_Parse.f k1 a1).bind fun bt104 => (if bt104.2.2 = 0 then (if t103 = (a1.size : Int) then (some (0, (⟨#[]⟩ : ByteArray), (⟨#[]⟩ : ByteArray), 11)) else (some (3, a1, (⟨#[]⟩ : ByteArray), 0))) else (some (0, (⟨#[]⟩ : ByteArray), (⟨#[]⟩ : ByteArray), 11))))) else (if 0 < (a1.size : Int) then (if (bt a1 0) = 47 then (some (1, (⟨#[]⟩ : ByteArray), a1, 0)) else (if a1.toList = ([42] : List UInt8) then (abutmentref12_Parse.j1 k1 a1 (a0.toList == ([79, 80, 84, 73, 79, 78, 83] : List UInt8))) else (abutmentref12_Parse.j1 k1 a1 false))) else (none))) = some (r1, r2, r3, r4) := by rw [if_neg (show ¬ (false = true) by decide)] at H; exact H
            clear H
            have H := H1
            clear H1
            by_cases c14 : a0.toList = ([67, 79, 78, 78, 69, 67, 84] : List UInt8)
            · rw [if_pos c14] at H
              have c14b0 : (a0.toList == ([67, 79, 78, 78, 69, 67, 84] : List UInt8)) = true := beq_iff_eq.mpr c14
              have c14b1 : (a0.toList != ([67, 79, 78, 78, 69, 67, 84] : List UInt8)) = false := bne_eq_false_iff_eq.mpr c14
              clear c14
              replace H := Option.bind_eq_some_iff.mp H
              obtain ⟨t103, A150, H⟩ := H
              replace H : ((abutmentref11_Parse.f k1 a1).bind fun bt104 => (if bt104.2.2 = 0 then (if t103 = (a1.size : Int) then (some (0, (⟨#[]⟩ : ByteArray), (⟨#[]⟩ : ByteArray), 11)) else (some (3, a1, (⟨#[]⟩ : ByteArray), 0))) else (some (0, (⟨#[]⟩ : ByteArray), (⟨#[]⟩ : ByteArray), 11)))) = some (r1, r2, r3, r4) := H
              have A15 := Aside0.mk A150
              clear A150
              replace H := Option.bind_eq_some_iff.mp H
              obtain ⟨⟨t104, t105, t106⟩, A160, H⟩ := H
              replace H : (if t106 = 0 then (if t103 = (a1.size : Int) then (some (0, (⟨#[]⟩ : ByteArray), (⟨#[]⟩ : ByteArray), 11)) else (some (3, a1, (⟨#[]⟩ : ByteArray), 0))) else (some (0, (⟨#[]⟩ : ByteArray), (⟨#[]⟩ : ByteArray), 11))) = some (r1, r2, r3, r4) := H
              have A16 := Aside0.mk A160
              clear A160
              by_cases c17 : t106 = 0
              · rw [if_pos c17] at H
                have c17b0 : (t106 == 0) = true := beq_iff_eq.mpr c17
                have c17b1 : (t106 != 0) = false := bne_eq_false_iff_eq.mpr c17
                clear c17
                by_cases c18 : t103 = (a1.size : Int)
                · rw [if_pos c18] at H
                  have c18b0 : (t103 == (a1.size : Int)) = true := beq_iff_eq.mpr c18
                  have c18b1 : (t103 != (a1.size : Int)) = false := bne_eq_false_iff_eq.mpr c18
                  clear c18
                  simp only [Option.some.injEq, Prod.mk.injEq] at H
                  obtain ⟨rfl, rfl, rfl, rfl⟩ := H
                  go_wp2_with (first | ((with_reducible refine gate_callee (f := 37) rfl ?_); refine goesL_ (some 40) rfl rfl Tryd.func37 (by kernel_rfl) rfl #[.string a1] rfl (by (try simp only [List.map_toArray, List.map_cons, List.map_nil]); first | done | rfl | (simp only [List.length_drop, List.length_take]; rfl)) ?_; (with_reducible refine (abutmentref11_Name.calls k1 a1 t103 _ A15.out).mono ?_); rintro e w' ⟨rfl, ⟨nd, rfl⟩⟩; refine ⟨_, rfl, ?_⟩; (try (rw [drewN_self wr]; generalize hq_ : World.drewN wr _ = wr; have n0_ : Aside0 (wr.heap[gb101]? = some (.cells #[.int .i64 0, .string (⟨#[]⟩ : ByteArray), .string (⟨#[]⟩ : ByteArray)] 32 (0, 0))) := ⟨by rw [← hq_]; exact (by (with_reducible repeat (first | refine blk_drewN ?_ _ | refine blk_drew ?_ | refine blk_alloc ?_ _)); exact BK101.out)⟩; have n1_ : Aside0 (Below w.heap.size w wr) := ⟨by rw [← hq_]; exact (by repeat (first | (with_reducible first | exact HB.out | apply below_alloc | apply pw_below_drewN | apply below_drew1 | refine below_set ?_ GE101.out) | exact HB.out))⟩; clear BK101 HB hq_; have BK101 := n0_; have HB := n1_; clear n0_ n1_))) | ((with_reducible refine gate_callee (f := 38) rfl ?_); refine goesL_ (some 43) rfl rfl Tryd.func38 (by kernel_rfl) rfl #[.string a1] rfl (by (try simp only [List.map_toArray, List.map_cons, List.map_nil]); first | done | rfl | (simp only [List.length_drop, List.length_take]; rfl)) ?_; (with_reducible refine (abutmentref11_Parse.calls k1 a1 t104 t105 t106 _ A16.out).mono ?_); rintro e w' ⟨rfl, ⟨nd, rfl⟩⟩; refine ⟨_, rfl, ?_⟩; (try (rw [drewN_self wr]; generalize hq_ : World.drewN wr _ = wr; have n0_ : Aside0 (wr.heap[gb101]? = some (.cells #[.int .i64 0, .string (⟨#[]⟩ : ByteArray), .string (⟨#[]⟩ : ByteArray)] 32 (0, 0))) := ⟨by rw [← hq_]; exact (by (with_reducible repeat (first | refine blk_drewN ?_ _ | refine blk_drew ?_ | refine blk_alloc ?_ _)); exact BK101.out)⟩; have n1_ : Aside0 (Below w.heap.size w wr) := ⟨by rw [← hq_]; exact (by repeat (first | (with_reducible first | exact HB.out | apply below_alloc | apply pw_below_drewN | apply below_drew1 | refine below_set ?_ GE101.out) | exact HB.out))⟩; clear BK101 HB hq_; have BK101 := n0_; have HB := n1_; clear n0_ n1_)); have hcz19_0 : wr.cell? ⟨gb101, 0, none⟩ = some (.int .i64 0) := (blk_cell BK101.out 0).trans rfl; have hcz19_1 : wr.cell? ⟨gb101, 1, none⟩ = some (.string (⟨#[]⟩ : ByteArray)) := (blk_cell BK101.out 1).trans rfl; have hcz19_2 : wr.cell? ⟨gb101, 2, none⟩ = some (.string (⟨#[]⟩ : ByteArray)) := (blk_cell BK101.out 2).trans rfl; have hfz19_0 := blk_frozen BK101.out 0; have hfz19_1 := blk_frozen BK101.out 1; have hfz19_2 := blk_frozen BK101.out 2))
                  refine bodyPost_ret (results_ct rfl _ _ gb101 32 #[.int .i64 0, .string (⟨#[]⟩ : ByteArray), .string (⟨#[]⟩ : ByteArray)] (0, 0) _ rfl (by (with_reducible repeat (first | refine blk_drewN ?_ _ | refine blk_drew ?_ | refine blk_alloc ?_ _)); refine blk_put (cs := #[.int .i64 0, .string (⟨#[]⟩ : ByteArray), .string (⟨#[]⟩ : ByteArray)]) ?_ 2 _ rfl; (with_reducible repeat (first | refine blk_drewN ?_ _ | refine blk_drew ?_ | refine blk_alloc ?_ _)); refine blk_put (cs := #[.int .i64 0, .string (⟨#[]⟩ : ByteArray), .string (⟨#[]⟩ : ByteArray)]) ?_ 1 _ rfl; (with_reducible repeat (first | refine blk_drewN ?_ _ | refine blk_drew ?_ | refine blk_alloc ?_ _)); refine blk_put (cs := #[.int .i64 0, .string (⟨#[]⟩ : ByteArray), .string (⟨#[]⟩ : ByteArray)]) ?_ 0 _ rfl; (with_reducible repeat (first | refine blk_drewN ?_ _ | refine blk_drew ?_ | refine blk_alloc ?_ _)); exact BK101.out) Tryd.underlying32 rfl (by kernel_rfl)) rfl ?_
                  exact ⟨by first | rfl | (simp [errW_none, errW_some] <;> rfl) | (simp [*, errW_none, errW_some] <;> rfl), by repeat (first | (with_reducible first | exact HB.out | apply below_alloc | apply pw_below_drewN | apply below_drew1 | refine below_set ?_ GE101.out) | exact HB.out)⟩
                · rw [if_neg c18] at H
                  have c18b0 : (t103 == (a1.size : Int)) = false := beq_eq_false_iff_ne.mpr c18
                  have c18b1 : (t103 != (a1.size : Int)) = true := bne_iff_ne.mpr c18
                  simp only [Option.some.injEq, Prod.mk.injEq] at H
                  obtain ⟨rfl, rfl, rfl, rfl⟩ := H
                  go_wp2_with (first | ((with_reducible refine gate_callee (f := 37) rfl ?_); refine goesL_ (some 40) rfl rfl Tryd.func37 (by kernel_rfl) rfl #[.string a1] rfl (by (try simp only [List.map_toArray, List.map_cons, List.map_nil]); first | done | rfl | (simp only [List.length_drop, List.length_take]; rfl)) ?_; (with_reducible refine (abutmentref11_Name.calls k1 a1 t103 _ A15.out).mono ?_); rintro e w' ⟨rfl, ⟨nd, rfl⟩⟩; refine ⟨_, rfl, ?_⟩; (try (rw [drewN_self wr]; generalize hq_ : World.drewN wr _ = wr; have n0_ : Aside0 (wr.heap[gb101]? = some (.cells #[.int .i64 0, .string (⟨#[]⟩ : ByteArray), .string (⟨#[]⟩ : ByteArray)] 32 (0, 0))) := ⟨by rw [← hq_]; exact (by (with_reducible repeat (first | refine blk_drewN ?_ _ | refine blk_drew ?_ | refine blk_alloc ?_ _)); exact BK101.out)⟩; have n1_ : Aside0 (Below w.heap.size w wr) := ⟨by rw [← hq_]; exact (by repeat (first | (with_reducible first | exact HB.out | apply below_alloc | apply pw_below_drewN | apply below_drew1 | refine below_set ?_ GE101.out) | exact HB.out))⟩; clear BK101 HB hq_; have BK101 := n0_; have HB := n1_; clear n0_ n1_))) | ((with_reducible refine gate_callee (f := 38) rfl ?_); refine goesL_ (some 43) rfl rfl Tryd.func38 (by kernel_rfl) rfl #[.string a1] rfl (by (try simp only [List.map_toArray, List.map_cons, List.map_nil]); first | done | rfl | (simp only [List.length_drop, List.length_take]; rfl)) ?_; (with_reducible refine (abutmentref11_Parse.calls k1 a1 t104 t105 t106 _ A16.out).mono ?_); rintro e w' ⟨rfl, ⟨nd, rfl⟩⟩; refine ⟨_, rfl, ?_⟩; (try (rw [drewN_self wr]; generalize hq_ : World.drewN wr _ = wr; have n0_ : Aside0 (wr.heap[gb101]? = some (.cells #[.int .i64 0, .string (⟨#[]⟩ : ByteArray), .string (⟨#[]⟩ : ByteArray)] 32 (0, 0))) := ⟨by rw [← hq_]; exact (by (with_reducible repeat (first | refine blk_drewN ?_ _ | refine blk_drew ?_ | refine blk_alloc ?_ _)); exact BK101.out)⟩; have n1_ : Aside0 (Below w.heap.size w wr) := ⟨by rw [← hq_]; exact (by repeat (first | (with_reducible first | exact HB.out | apply below_alloc | apply pw_below_drewN | apply below_drew1 | refine below_set ?_ GE101.out) | exact HB.out))⟩; clear BK101 HB hq_; have BK101 := n0_; have HB := n1_; clear n0_ n1_)); have hcz20_0 : wr.cell? ⟨gb101, 0, none⟩ = some (.int .i64 0) := (blk_cell BK101.out 0).trans rfl; have hcz20_1 : wr.cell? ⟨gb101, 1, none⟩ = some (.string (⟨#[]⟩ : ByteArray)) := (blk_cell BK101.out 1).trans rfl; have hcz20_2 : wr.cell? ⟨gb101, 2, none⟩ = some (.string (⟨#[]⟩ : ByteArray)) := (blk_cell BK101.out 2).trans rfl; have hfz20_0 := blk_frozen BK101.out 0; have hfz20_1 := blk_frozen BK101.out 1; have hfz20_2 := blk_frozen BK101.out 2))
                  refine bodyPost_ret (results_ct rfl _ _ gb101 32 #[.int .i64 3, .string a1, .string (⟨#[]⟩ : ByteArray)] (0, 0) _ rfl (by (with_reducible repeat (first | refine blk_drewN ?_ _ | refine blk_drew ?_ | refine blk_alloc ?_ _)); refine blk_put (cs := #[.int .i64 3, .string a1, .string (⟨#[]⟩ : ByteArray)]) ?_ 2 _ rfl; (with_reducible repeat (first | refine blk_drewN ?_ _ | refine blk_drew ?_ | refine blk_alloc ?_ _)); refine blk_put (cs := #[.int .i64 3, .string (⟨#[]⟩ : ByteArray), .string (⟨#[]⟩ : ByteArray)]) ?_ 1 _ rfl; (with_reducible repeat (first | refine blk_drewN ?_ _ | refine blk_drew ?_ | refine blk_alloc ?_ _)); refine blk_put (cs := #[.int .i64 0, .string (⟨#[]⟩ : ByteArray), .string (⟨#[]⟩ : ByteArray)]) ?_ 0 _ rfl; (with_reducible repeat (first | refine blk_drewN ?_ _ | refine blk_drew ?_ | refine blk_alloc ?_ _)); exact BK101.out) Tryd.underlying32 rfl (by kernel_rfl)) rfl ?_
                  exact ⟨by first | rfl | (simp [errW_none, errW_some] <;> rfl) | (simp [*, errW_none, errW_some] <;> rfl), by repeat (first | (with_reducible first | exact HB.out | apply below_alloc | apply pw_below_drewN | apply below_drew1 | refine below_set ?_ GE101.out) | exact HB.out)⟩
              · rw [if_neg c17] at H
                have c17b0 : (t106 == 0) = false := beq_eq_false_iff_ne.mpr c17
                have c17b1 : (t106 != 0) = true := bne_iff_ne.mpr c17
                simp only [Option.some.injEq, Prod.mk.injEq] at H
                obtain ⟨rfl, rfl, rfl, rfl⟩ := H
                go_wp2_with (first | ((with_reducible refine gate_callee (f := 37) rfl ?_); refine goesL_ (some 40) rfl rfl Tryd.func37 (by kernel_rfl) rfl #[.string a1] rfl (by (try simp only [List.map_toArray, List.map_cons, List.map_nil]); first | done | rfl | (simp only [List.length_drop, List.length_take]; rfl)) ?_; (with_reducible refine (abutmentref11_Name.calls k1 a1 t103 _ A15.out).mono ?_); rintro e w' ⟨rfl, ⟨nd, rfl⟩⟩; refine ⟨_, rfl, ?_⟩; (try (rw [drewN_self wr]; generalize hq_ : World.drewN wr _ = wr; have n0_ : Aside0 (wr.heap[gb101]? = some (.cells #[.int .i64 0, .string (⟨#[]⟩ : ByteArray), .string (⟨#[]⟩ : ByteArray)] 32 (0, 0))) := ⟨by rw [← hq_]; exact (by (with_reducible repeat (first | refine blk_drewN ?_ _ | refine blk_drew ?_ | refine blk_alloc ?_ _)); exact BK101.out)⟩; have n1_ : Aside0 (Below w.heap.size w wr) := ⟨by rw [← hq_]; exact (by repeat (first | (with_reducible first | exact HB.out | apply below_alloc | apply pw_below_drewN | apply below_drew1 | refine below_set ?_ GE101.out) | exact HB.out))⟩; clear BK101 HB hq_; have BK101 := n0_; have HB := n1_; clear n0_ n1_))) | ((with_reducible refine gate_callee (f := 38) rfl ?_); refine goesL_ (some 43) rfl rfl Tryd.func38 (by kernel_rfl) rfl #[.string a1] rfl (by (try simp only [List.map_toArray, List.map_cons, List.map_nil]); first | done | rfl | (simp only [List.length_drop, List.length_take]; rfl)) ?_; (with_reducible refine (abutmentref11_Parse.calls k1 a1 t104 t105 t106 _ A16.out).mono ?_); rintro e w' ⟨rfl, ⟨nd, rfl⟩⟩; refine ⟨_, rfl, ?_⟩; (try (rw [drewN_self wr]; generalize hq_ : World.drewN wr _ = wr; have n0_ : Aside0 (wr.heap[gb101]? = some (.cells #[.int .i64 0, .string (⟨#[]⟩ : ByteArray), .string (⟨#[]⟩ : ByteArray)] 32 (0, 0))) := ⟨by rw [← hq_]; exact (by (with_reducible repeat (first | refine blk_drewN ?_ _ | refine blk_drew ?_ | refine blk_alloc ?_ _)); exact BK101.out)⟩; have n1_ : Aside0 (Below w.heap.size w wr) := ⟨by rw [← hq_]; exact (by repeat (first | (with_reducible first | exact HB.out | apply below_alloc | apply pw_below_drewN | apply below_drew1 | refine below_set ?_ GE101.out) | exact HB.out))⟩; clear BK101 HB hq_; have BK101 := n0_; have HB := n1_; clear n0_ n1_)); have hcz21_0 : wr.cell? ⟨gb101, 0, none⟩ = some (.int .i64 0) := (blk_cell BK101.out 0).trans rfl; have hcz21_1 : wr.cell? ⟨gb101, 1, none⟩ = some (.string (⟨#[]⟩ : ByteArray)) := (blk_cell BK101.out 1).trans rfl; have hcz21_2 : wr.cell? ⟨gb101, 2, none⟩ = some (.string (⟨#[]⟩ : ByteArray)) := (blk_cell BK101.out 2).trans rfl; have hfz21_0 := blk_frozen BK101.out 0; have hfz21_1 := blk_frozen BK101.out 1; have hfz21_2 := blk_frozen BK101.out 2))
                refine bodyPost_ret (results_ct rfl _ _ gb101 32 #[.int .i64 0, .string (⟨#[]⟩ : ByteArray), .string (⟨#[]⟩ : ByteArray)] (0, 0) _ rfl (by (with_reducible repeat (first | refine blk_drewN ?_ _ | refine blk_drew ?_ | refine blk_alloc ?_ _)); refine blk_put (cs := #[.int .i64 0, .string (⟨#[]⟩ : ByteArray), .string (⟨#[]⟩ : ByteArray)]) ?_ 2 _ rfl; (with_reducible repeat (first | refine blk_drewN ?_ _ | refine blk_drew ?_ | refine blk_alloc ?_ _)); refine blk_put (cs := #[.int .i64 0, .string (⟨#[]⟩ : ByteArray), .string (⟨#[]⟩ : ByteArray)]) ?_ 1 _ rfl; (with_reducible repeat (first | refine blk_drewN ?_ _ | refine blk_drew ?_ | refine blk_alloc ?_ _)); refine blk_put (cs := #[.int .i64 0, .string (⟨#[]⟩ : ByteArray), .string (⟨#[]⟩ : ByteArray)]) ?_ 0 _ rfl; (with_reducible repeat (first | refine blk_drewN ?_ _ | refine blk_drew ?_ | refine blk_alloc ?_ _)); exact BK101.out) Tryd.underlying32 rfl (by kernel_rfl)) rfl ?_
                exact ⟨by first | rfl | (simp [errW_none, errW_some] <;> rfl) | (simp [*, errW_none, errW_some] <;> rfl), by repeat (first | (with_reducible first | exact HB.out | apply below_alloc | apply pw_below_drewN | apply below_drew1 | refine below_set ?_ GE101.out) | exact HB.out)⟩
            · rw [if_neg c14] at H
              have c14b0 : (a0.toList == ([67, 79, 78, 78, 69, 67, 84] : List UInt8)) = false := beq_eq_false_iff_ne.mpr c14
              have c14b1 : (a0.toList != ([67, 79, 78, 78, 69, 67, 84] : List UInt8)) = true := bne_iff_ne.mpr c14
              by_cases c22 : 0 < (a1.size : Int)
              · rw [if_pos c22] at H
                have c22b0 : decide (0 < (a1.size : Int)) = true := decide_eq_true c22
                have c22b1 : decide (0 < a1.size) = true := decide_eq_true (by omega)
                clear c22
                by_cases c24 : (bt a1 0) = 47
                · rw [if_pos c24] at H
                  have c24b0 : ((bt a1 0) == 47) = true := beq_iff_eq.mpr c24
                  have c24b1 : ((bt a1 0) != 47) = false := bne_eq_false_iff_eq.mpr c24
                  clear c24
                  simp only [Option.some.injEq, Prod.mk.injEq] at H
                  obtain ⟨rfl, rfl, rfl, rfl⟩ := H
                  have p23 : 0 ≤ (0 : Int) := (by omega)
                  have q23 : 0 < a1.size := (by have : (0 : Int) < (a1.size : Int) := of_decide_eq_true (by first | (with_reducible assumption) | assumption); omega)
                  have hx23 : ∀ h : 0 < a1.size, ((a1[0]'h).toNat : Int) = bt a1 0 := bt_at a1 0
                  clear p23
                  have qi23 : (0 < (a1.size : Int)) = True := eq_true (of_decide_eq_true (by first | (with_reducible assumption) | assumption))
                  replace q23 := eq_true q23
                  have hcz25_0 : wr.cell? ⟨gb101, 0, none⟩ = some (.int .i64 0) := (blk_cell BK101.out 0).trans rfl
                  have hcz25_1 : wr.cell? ⟨gb101, 1, none⟩ = some (.string (⟨#[]⟩ : ByteArray)) := (blk_cell BK101.out 1).trans rfl
                  have hcz25_2 : wr.cell? ⟨gb101, 2, none⟩ = some (.string (⟨#[]⟩ : ByteArray)) := (blk_cell BK101.out 2).trans rfl
                  have hfz25_0 := blk_frozen BK101.out 0
                  have hfz25_1 := blk_frozen BK101.out 1
                  have hfz25_2 := blk_frozen BK101.out 2
                  go_wp2
                  refine bodyPost_ret (results_ct rfl _ _ gb101 32 #[.int .i64 1, .string (⟨#[]⟩ : ByteArray), .string a1] (0, 0) _ rfl (by (with_reducible repeat (first | refine blk_drewN ?_ _ | refine blk_drew ?_ | refine blk_alloc ?_ _)); refine blk_put (cs := #[.int .i64 1, .string (⟨#[]⟩ : ByteArray), .string (⟨#[]⟩ : ByteArray)]) ?_ 2 _ rfl; (with_reducible repeat (first | refine blk_drewN ?_ _ | refine blk_drew ?_ | refine blk_alloc ?_ _)); refine blk_put (cs := #[.int .i64 1, .string (⟨#[]⟩ : ByteArray), .string (⟨#[]⟩ : ByteArray)]) ?_ 1 _ rfl; (with_reducible repeat (first | refine blk_drewN ?_ _ | refine blk_drew ?_ | refine blk_alloc ?_ _)); refine blk_put (cs := #[.int .i64 0, .string (⟨#[]⟩ : ByteArray), .string (⟨#[]⟩ : ByteArray)]) ?_ 0 _ rfl; (with_reducible repeat (first | refine blk_drewN ?_ _ | refine blk_drew ?_ | refine blk_alloc ?_ _)); exact BK101.out) Tryd.underlying32 rfl (by kernel_rfl)) rfl ?_
                  exact ⟨by first | rfl | (simp [errW_none, errW_some] <;> rfl) | (simp [*, errW_none, errW_some] <;> rfl), by repeat (first | (with_reducible first | exact HB.out | apply below_alloc | apply pw_below_drewN | apply below_drew1 | refine below_set ?_ GE101.out) | exact HB.out)⟩
                · rw [if_neg c24] at H
                  have c24b0 : ((bt a1 0) == 47) = false := beq_eq_false_iff_ne.mpr c24
                  have c24b1 : ((bt a1 0) != 47) = true := bne_iff_ne.mpr c24
                  have HC26 := Aside0.mk H
                  clear H
                  have p23 : 0 ≤ (0 : Int) := (by omega)
                  have q23 : 0 < a1.size := (by have : (0 : Int) < (a1.size : Int) := of_decide_eq_true (by first | (with_reducible assumption) | assumption); omega)
                  have hx23 : ∀ h : 0 < a1.size, ((a1[0]'h).toNat : Int) = bt a1 0 := bt_at a1 0
                  clear p23
                  have qi23 : (0 < (a1.size : Int)) = True := eq_true (of_decide_eq_true (by first | (with_reducible assumption) | assumption))
                  replace q23 := eq_true q23
                  go_upto_region 18 with (fail)
                  go_cut [68] (fun v68 wc => ∃ (kq : Nat) (x68_25 : Bool), v68 = .bool x68_25 ∧ Aside0 (abutmentref12_Parse.j1 kq a1 x68_25 = some (r1, r2, r3, r4)) ∧ Aside0 (kq ≤ k1) ∧ Aside0 (wc.heap[gb101]? = some (.cells #[.int .i64 0, .string (⟨#[]⟩ : ByteArray), .string (⟨#[]⟩ : ByteArray)] 32 (0, 0))) ∧ Aside0 (Below w.heap.size w wc))
                  case first =>
                    have H := HC26.out
                    clear HC26
                    by_cases c27 : a1.toList = ([42] : List UInt8)
                    · rw [if_pos c27] at H
                      have c27b0 : (a1.toList == ([42] : List UInt8)) = true := beq_iff_eq.mpr c27
                      have c27b1 : (a1.toList != ([42] : List UInt8)) = false := bne_eq_false_iff_eq.mpr c27
                      clear c27
                      (first | rw [c27b0] | (simp only [i64_w, i32_w]; rw [c27b0]) | skip)
                      have H' := Aside0.mk H
                      clear H
                      go_wp2
                      go_meet
                      case rel => exact ⟨_, ((a0.toList == ([79, 80, 84, 73, 79, 78, 83] : List UInt8))), (by first | rfl | (simp; done) | (simp [*]; done)), H', ⟨by have := HK1.out; first | omega | exact Nat.le_refl _⟩, ⟨by (with_reducible repeat (first | refine blk_drewN ?_ _ | refine blk_drew ?_ | refine blk_alloc ?_ _)); exact BK101.out⟩, ⟨by repeat (first | (with_reducible first | exact HB.out | apply below_alloc | apply pw_below_drewN | apply below_drew1 | refine below_set ?_ GE101.out) | exact HB.out)⟩⟩
                    · rw [if_neg c27] at H
                      have c27b0 : (a1.toList == ([42] : List UInt8)) = false := beq_eq_false_iff_ne.mpr c27
                      have c27b1 : (a1.toList != ([42] : List UInt8)) = true := bne_iff_ne.mpr c27
                      (first | rw [c27b0] | (simp only [i64_w, i32_w]; rw [c27b0]) | skip)
                      have H' := Aside0.mk H
                      clear H
                      go_wp2
                      go_meet
                      case rel => exact ⟨_, (false), (by first | rfl | (simp; done) | (simp [*]; done)), H', ⟨by have := HK1.out; first | omega | exact Nat.le_refl _⟩, ⟨by (with_reducible repeat (first | refine blk_drewN ?_ _ | refine blk_drew ?_ | refine blk_alloc ?_ _)); exact BK101.out⟩, ⟨by repeat (first | (with_reducible first | exact HB.out | apply below_alloc | apply pw_below_drewN | apply below_drew1 | refine below_set ?_ GE101.out) | exact HB.out)⟩⟩
                  case rest =>
                    clear HC26
                    try clear c1
                    try clear p1
                    try clear q1
                    try clear hx1
                    try clear c2
                    try clear p2
                    try clear q2
                    try clear hx2
                    try clear qi2
                    try clear c3
                    try clear c3b0
                    try clear c3b1
                    try clear p6
                    try clear c8
                    try clear c8b0
                    try clear c9
                    try clear c10
                    try clear c10b0
                    try clear p11
                    try clear q11
                    try clear hx11
                    try clear c12
                    try clear c14
                    try clear c14b0
                    try clear c14b1
                    try clear c17
                    try clear c17b0
                    try clear c17b1
                    try clear c18
                    try clear c18b0
                    try clear c18b1
                    try clear c22
                    try clear c22b0
                    try clear c22b1
                    try clear p23
                    try clear q23
                    try clear hx23
                    try clear qi23
                    try clear c24
                    try clear c24b0
                    try clear c24b1
                    try clear c27
                    try clear c27b0
                    try clear c27b1
                    try clear hcz13_0
                    try clear hcz13_1
                    try clear hcz13_2
                    try clear hcz19_0
                    try clear hcz19_1
                    try clear hcz19_2
                    try clear hcz20_0
                    try clear hcz20_1
                    try clear hcz20_2
                    try clear hcz21_0
                    try clear hcz21_1
                    try clear hcz21_2
                    try clear hcz25_0
                    try clear hcz25_1
                    try clear hcz25_2
                    try clear hcz5_0
                    try clear hcz5_1
                    try clear hcz5_2
                    try clear hfz13_0
                    try clear hfz13_1
                    try clear hfz13_2
                    try clear hfz19_0
                    try clear hfz19_1
                    try clear hfz19_2
                    try clear hfz20_0
                    try clear hfz20_1
                    try clear hfz20_2
                    try clear hfz21_0
                    try clear hfz21_1
                    try clear hfz21_2
                    try clear hfz25_0
                    try clear hfz25_1
                    try clear hfz25_2
                    try clear hfz5_0
                    try clear hfz5_1
                    try clear hfz5_2
                    try clear p11
                    try clear p2
                    try clear p23
                    try clear q11
                    try clear q23
                    obtain ⟨kq, x68_25, rfl, HA, HJ25, BK101, HB⟩ := hcut
                    cases kq with
                    | zero => exact absurd HA.out (by simp [abutmentref12_Parse.j1])
                    | succ kj25 =>
                      have H := HA.out
                      clear HA
                      simp only [abutmentref12_Parse.j1] at H
                      by_cases c28 : x68_25 = true
                      · subst c28
                        have H1 : (some (4, (⟨#[]⟩ : ByteArray), (⟨#[]⟩ : ByteArray), 0)) = some (r1, r2, r3, r4) := by rw [if_pos rfl] at H; exact H
                        clear H
                        have H := H1
                        clear H1
                        simp only [Option.some.injEq, Prod.mk.injEq] at H
                        obtain ⟨rfl, rfl, rfl, rfl⟩ := H
                        have hcz29_0 : wc.cell? ⟨gb101, 0, none⟩ = some (.int .i64 0) := (blk_cell BK101.out 0).trans rfl
                        have hcz29_1 : wc.cell? ⟨gb101, 1, none⟩ = some (.string (⟨#[]⟩ : ByteArray)) := (blk_cell BK101.out 1).trans rfl
                        have hcz29_2 : wc.cell? ⟨gb101, 2, none⟩ = some (.string (⟨#[]⟩ : ByteArray)) := (blk_cell BK101.out 2).trans rfl
                        have hfz29_0 := blk_frozen BK101.out 0
                        have hfz29_1 := blk_frozen BK101.out 1
                        have hfz29_2 := blk_frozen BK101.out 2
                        go_wp2
                        refine bodyPost_ret (results_ct rfl _ _ gb101 32 #[.int .i64 4, .string (⟨#[]⟩ : ByteArray), .string (⟨#[]⟩ : ByteArray)] (0, 0) _ rfl (by (with_reducible repeat (first | refine blk_drewN ?_ _ | refine blk_drew ?_ | refine blk_alloc ?_ _)); refine blk_put (cs := #[.int .i64 4, .string (⟨#[]⟩ : ByteArray), .string (⟨#[]⟩ : ByteArray)]) ?_ 2 _ rfl; (with_reducible repeat (first | refine blk_drewN ?_ _ | refine blk_drew ?_ | refine blk_alloc ?_ _)); refine blk_put (cs := #[.int .i64 4, .string (⟨#[]⟩ : ByteArray), .string (⟨#[]⟩ : ByteArray)]) ?_ 1 _ rfl; (with_reducible repeat (first | refine blk_drewN ?_ _ | refine blk_drew ?_ | refine blk_alloc ?_ _)); refine blk_put (cs := #[.int .i64 0, .string (⟨#[]⟩ : ByteArray), .string (⟨#[]⟩ : ByteArray)]) ?_ 0 _ rfl; (with_reducible repeat (first | refine blk_drewN ?_ _ | refine blk_drew ?_ | refine blk_alloc ?_ _)); exact BK101.out) Tryd.underlying32 rfl (by kernel_rfl)) rfl ?_
                        exact ⟨by first | rfl | (simp [errW_none, errW_some] <;> rfl) | (simp [*, errW_none, errW_some] <;> rfl), by repeat (first | (with_reducible first | exact HB.out | apply below_alloc | apply pw_below_drewN | apply below_drew1 | refine below_set ?_ GE101.out) | exact HB.out)⟩
                      · replace c28 := Bool.eq_false_iff.mpr c28
                        subst c28
                        have H1 : (if (a1.size : Int) < 7 then (abutmentref12_Parse.j2 kj25 a1 true) else (if 0 ≤ 7 then (if 7 ≤ (a1.size : Int) then ((abutmentref01_Lower.f kj25 (a1.extract 0 7)).bind fun t107 => (abutmentref12_Parse.j2 kj25 a1 (t107.toList != ([104, 116, 116, 112, 58, 47, 47] : List UInt8)))) else (none)) else (none))) = some (r1, r2, r3, r4) := by rw [if_neg (show ¬ (false = true) by decide)] at H; exact H
                        clear H
                        have H := H1
                        clear H1
                        have HC30 := Aside0.mk H
                        clear H
                        go_upto_region 20 with (fail)
                        go_cut [78] (fun v78 wc => ∃ (kq : Nat) (x78_29 : Bool), v78 = .bool x78_29 ∧ Aside0 (abutmentref12_Parse.j2 kq a1 x78_29 = some (r1, r2, r3, r4)) ∧ Aside0 (kq ≤ kj25) ∧ Aside0 (wc.heap[gb101]? = some (.cells #[.int .i64 0, .string (⟨#[]⟩ : ByteArray), .string (⟨#[]⟩ : ByteArray)] 32 (0, 0))) ∧ Aside0 (Below w.heap.size w wc))
                        case first =>
                          have H := HC30.out
                          clear HC30
                          by_cases c31 : (a1.size : Int) < 7
                          · rw [if_pos c31] at H
                            have c31b0 : decide ((a1.size : Int) < 7) = true := decide_eq_true c31
                            have c31b1 : decide (a1.size < 7) = true := decide_eq_true (by omega)
                            clear c31
                            (first | rw [c31b0] | (simp only [i64_w, i32_w]; rw [c31b0]) | skip)
                            have H' := Aside0.mk H
                            clear H
                            go_wp2
                            go_meet
                            case rel => exact ⟨_, (true), (by first | rfl | (simp; done) | (simp [*]; done)), H', ⟨by have := HK1.out; have := HJ25.out; first | omega | exact Nat.le_refl _⟩, ⟨by (with_reducible repeat (first | refine blk_drewN ?_ _ | refine blk_drew ?_ | refine blk_alloc ?_ _)); exact BK101.out⟩, ⟨by repeat (first | (with_reducible first | exact HB.out | apply below_alloc | apply pw_below_drewN | apply below_drew1 | refine below_set ?_ GE101.out) | exact HB.out)⟩⟩
                          · rw [if_neg c31] at H
                            have c31b0 : decide ((a1.size : Int) < 7) = false := decide_eq_false c31
                            have c31b1 : decide (a1.size < 7) = false := decide_eq_false (by omega)
                            clear c31
                            (first | rw [c31b0] | (simp only [i64_w, i32_w]; rw [c31b0]) | skip)
                            by_cases c32 : 0 ≤ 7
                            · rw [if_pos c32] at H
                              have c32b0 := eq_true c32
                              have c32b1 : decide (0 ≤ 7) = true := decide_eq_true c32
                              clear c32
                              by_cases c33 : 7 ≤ (a1.size : Int)
                              · rw [if_pos c33] at H
                                have c33b0 := eq_true c33
                                have c33b1 : decide (7 ≤ (a1.size : Int)) = true := decide_eq_true c33
                                clear c33
                                replace H := Option.bind_eq_some_iff.mp H
                                obtain ⟨t107, A340, H⟩ := H
                                replace H : (abutmentref12_Parse.j2 kj25 a1 (t107.toList != ([104, 116, 116, 112, 58, 47, 47] : List UInt8))) = some (r1, r2, r3, r4) := H
                                have A34 := Aside0.mk A340
                                clear A340
                                have H' := Aside0.mk H
                                clear H
                                go_wp2_with (first | (go_at_call 39; (with_reducible refine (abutmentref01_Lower.calls kj25 (a1.extract 0 7) t107 _ A34.out).mono ?_); rintro e w35 ⟨rfl, hb⟩; have n0_ := Aside0.mk (blk_below (g := gb101) (o := .cells #[.int .i64 0, .string (⟨#[]⟩ : ByteArray), .string (⟨#[]⟩ : ByteArray)] 32 (0, 0)) (by (with_reducible repeat (first | refine blk_drewN ?_ _ | refine blk_drew ?_ | refine blk_alloc ?_ _)); exact BK101.out) hb); have n1_ := Aside0.mk (below_step (by repeat (first | (with_reducible first | exact HB.out | apply below_alloc | apply pw_below_drewN | apply below_drew1 | refine below_set ?_ GE101.out) | exact HB.out)) hb); clear BK101; clear HB; have BK101 := n0_; have HB := n1_; clear n0_ n1_; (try clear hb); (try clear hb2); (try clear hk); (try clear hi)))
                                go_meet
                                case rel => exact ⟨_, ((t107.toList != ([104, 116, 116, 112, 58, 47, 47] : List UInt8))), (by first | rfl | (simp; done) | (simp [*]; done)), H', ⟨by have := HK1.out; have := HJ25.out; first | omega | exact Nat.le_refl _⟩, ⟨by (with_reducible repeat (first | refine blk_drewN ?_ _ | refine blk_drew ?_ | refine blk_alloc ?_ _)); exact BK101.out⟩, ⟨by repeat (first | (with_reducible first | exact HB.out | apply below_alloc | apply pw_below_drewN | apply below_drew1 | refine below_set ?_ GE101.out) | exact HB.out)⟩⟩
                              · rw [if_neg c33] at H
                                exact absurd H (by simp)
                            · rw [if_neg c32] at H
                              exact absurd H (by simp)
                        case rest =>
                          clear HC30
                          try clear c1
                          try clear p1
                          try clear q1
                          try clear hx1
                          try clear c2
                          try clear p2
                          try clear q2
                          try clear hx2
                          try clear qi2
                          try clear c3
                          try clear c3b0
                          try clear c3b1
                          try clear p6
                          try clear c8
                          try clear c8b0
                          try clear c9
                          try clear c10
                          try clear c10b0
                          try clear p11
                          try clear q11
                          try clear hx11
                          try clear c12
                          try clear c14
                          try clear c14b0
                          try clear c14b1
                          try clear c17
                          try clear c17b0
                          try clear c17b1
                          try clear c18
                          try clear c18b0
                          try clear c18b1
                          try clear c22
                          try clear c22b0
                          try clear c22b1
                          try clear p23
                          try clear q23
                          try clear hx23
                          try clear qi23
                          try clear c24
                          try clear c24b0
                          try clear c24b1
                          try clear c27
                          try clear c27b0
                          try clear c27b1
                          try clear c28
                          try clear c31
                          try clear c31b0
                          try clear c31b1
                          try clear c32
                          try clear c32b0
                          try clear c32b1
                          try clear c33
                          try clear c33b0
                          try clear c33b1
                          try clear hcz13_0
                          try clear hcz13_1
                          try clear hcz13_2
                          try clear hcz19_0
                          try clear hcz19_1
                          try clear hcz19_2
                          try clear hcz20_0
                          try clear hcz20_1
                          try clear hcz20_2
                          try clear hcz21_0
                          try clear hcz21_1
                          try clear hcz21_2
                          try clear hcz25_0
                          try clear hcz25_1
                          try clear hcz25_2
                          try clear hcz29_0
                          try clear hcz29_1
                          try clear hcz29_2
                          try clear hcz5_0
                          try clear hcz5_1
                          try clear hcz5_2
                          try clear hfz13_0
                          try clear hfz13_1
                          try clear hfz13_2
                          try clear hfz19_0
                          try clear hfz19_1
                          try clear hfz19_2
                          try clear hfz20_0
                          try clear hfz20_1
                          try clear hfz20_2
                          try clear hfz21_0
                          try clear hfz21_1
                          try clear hfz21_2
                          try clear hfz25_0
                          try clear hfz25_1
                          try clear hfz25_2
                          try clear hfz29_0
                          try clear hfz29_1
                          try clear hfz29_2
                          try clear hfz5_0
                          try clear hfz5_1
                          try clear hfz5_2
                          try clear p1
                          try clear p11
                          try clear p2
                          try clear p23
                          try clear p6
                          try clear q1
                          try clear q11
                          try clear q2
                          try clear q23
                          obtain ⟨kq, x78_29, rfl, HA, HJ29, BK101, HB⟩ := hcut
                          cases kq with
                          | zero => exact absurd HA.out (by simp [abutmentref12_Parse.j2])
                          | succ kj29 =>
                            have H := HA.out
                            clear HA
                            simp only [abutmentref12_Parse.j2] at H
                            by_cases c36 : x78_29 = true
                            · subst c36
                              have H1 : (some (0, (⟨#[]⟩ : ByteArray), (⟨#[]⟩ : ByteArray), 11)) = some (r1, r2, r3, r4) := by rw [if_pos rfl] at H; exact H
                              clear H
                              have H := H1
                              clear H1
                              simp only [Option.some.injEq, Prod.mk.injEq] at H
                              obtain ⟨rfl, rfl, rfl, rfl⟩ := H
                              have hcz37_0 : wc.cell? ⟨gb101, 0, none⟩ = some (.int .i64 0) := (blk_cell BK101.out 0).trans rfl
                              have hcz37_1 : wc.cell? ⟨gb101, 1, none⟩ = some (.string (⟨#[]⟩ : ByteArray)) := (blk_cell BK101.out 1).trans rfl
                              have hcz37_2 : wc.cell? ⟨gb101, 2, none⟩ = some (.string (⟨#[]⟩ : ByteArray)) := (blk_cell BK101.out 2).trans rfl
                              have hfz37_0 := blk_frozen BK101.out 0
                              have hfz37_1 := blk_frozen BK101.out 1
                              have hfz37_2 := blk_frozen BK101.out 2
                              go_wp2
                              refine bodyPost_ret (results_ct rfl _ _ gb101 32 #[.int .i64 0, .string (⟨#[]⟩ : ByteArray), .string (⟨#[]⟩ : ByteArray)] (0, 0) _ rfl (by (with_reducible repeat (first | refine blk_drewN ?_ _ | refine blk_drew ?_ | refine blk_alloc ?_ _)); refine blk_put (cs := #[.int .i64 0, .string (⟨#[]⟩ : ByteArray), .string (⟨#[]⟩ : ByteArray)]) ?_ 2 _ rfl; (with_reducible repeat (first | refine blk_drewN ?_ _ | refine blk_drew ?_ | refine blk_alloc ?_ _)); refine blk_put (cs := #[.int .i64 0, .string (⟨#[]⟩ : ByteArray), .string (⟨#[]⟩ : ByteArray)]) ?_ 1 _ rfl; (with_reducible repeat (first | refine blk_drewN ?_ _ | refine blk_drew ?_ | refine blk_alloc ?_ _)); refine blk_put (cs := #[.int .i64 0, .string (⟨#[]⟩ : ByteArray), .string (⟨#[]⟩ : ByteArray)]) ?_ 0 _ rfl; (with_reducible repeat (first | refine blk_drewN ?_ _ | refine blk_drew ?_ | refine blk_alloc ?_ _)); exact BK101.out) Tryd.underlying32 rfl (by kernel_rfl)) rfl ?_
                              exact ⟨by first | rfl | (simp [errW_none, errW_some] <;> rfl) | (simp [*, errW_none, errW_some] <;> rfl), by repeat (first | (with_reducible first | exact HB.out | apply below_alloc | apply pw_below_drewN | apply below_drew1 | refine below_set ?_ GE101.out) | exact HB.out)⟩
                            · replace c36 := Bool.eq_false_iff.mpr c36
                              subst c36
                              have H1 : (abutmentref12_Parse.l1 kj29 a1 7) = some (r1, r2, r3, r4) := by rw [if_neg (show ¬ (false = true) by decide)] at H; exact H
                              clear H
                              have H := H1
                              clear H1
                              have H' := Aside0.mk H
                              clear H
                              go_wp2
                              go_loopg [12] kj29 (fun kq v12 w' => ∃ (x12_4 : Int), v12 = .int .i64 x12_4 ∧ Aside0 (abutmentref12_Parse.l1 kq a1 x12_4 = some (r1, r2, r3, r4)) ∧ Aside0 (kq ≤ kj29) ∧ Aside0 (w'.heap[gb101]? = some (.cells #[.int .i64 0, .string (⟨#[]⟩ : ByteArray), .string (⟨#[]⟩ : ByteArray)] 32 (0, 0))) ∧ Aside0 (Below w.heap.size w w'))
                              case atStart => exact ⟨(7), (by first | rfl | (simp; done) | (simp [*]; done)), H', ⟨Nat.le_refl _⟩, ⟨by (with_reducible repeat (first | refine blk_drewN ?_ _ | refine blk_drew ?_ | refine blk_alloc ?_ _)); exact BK101.out⟩, ⟨by repeat (first | (with_reducible first | exact HB.out | apply below_alloc | apply pw_below_drewN | apply below_drew1 | refine below_set ?_ GE101.out) | exact HB.out)⟩⟩
                              case round =>
                                clear H'
                                try clear c1
                                try clear p1
                                try clear q1
                                try clear hx1
                                try clear c2
                                try clear p2
                                try clear q2
                                try clear hx2
                                try clear qi2
                                try clear c3
                                try clear c3b0
                                try clear c3b1
                                try clear p6
                                try clear c8
                                try clear c8b0
                                try clear c9
                                try clear c10
                                try clear c10b0
                                try clear p11
                                try clear q11
                                try clear hx11
                                try clear c12
                                try clear c14
                                try clear c14b0
                                try clear c14b1
                                try clear c17
                                try clear c17b0
                                try clear c17b1
                                try clear c18
                                try clear c18b0
                                try clear c18b1
                                try clear c22
                                try clear c22b0
                                try clear c22b1
                                try clear p23
                                try clear q23
                                try clear hx23
                                try clear qi23
                                try clear c24
                                try clear c24b0
                                try clear c24b1
                                try clear c27
                                try clear c27b0
                                try clear c27b1
                                try clear c28
                                try clear c31
                                try clear c31b0
                                try clear c31b1
                                try clear c32
                                try clear c32b0
                                try clear c32b1
                                try clear c33
                                try clear c33b0
                                try clear c33b1
                                try clear c36
                                try clear c37
                                try clear hcz13_0
                                try clear hcz13_1
                                try clear hcz13_2
                                try clear hcz19_0
                                try clear hcz19_1
                                try clear hcz19_2
                                try clear hcz20_0
                                try clear hcz20_1
                                try clear hcz20_2
                                try clear hcz21_0
                                try clear hcz21_1
                                try clear hcz21_2
                                try clear hcz25_0
                                try clear hcz25_1
                                try clear hcz25_2
                                try clear hcz29_0
                                try clear hcz29_1
                                try clear hcz29_2
                                try clear hcz37_0
                                try clear hcz37_1
                                try clear hcz37_2
                                try clear hcz5_0
                                try clear hcz5_1
                                try clear hcz5_2
                                try clear hfz13_0
                                try clear hfz13_1
                                try clear hfz13_2
                                try clear hfz19_0
                                try clear hfz19_1
                                try clear hfz19_2
                                try clear hfz20_0
                                try clear hfz20_1
                                try clear hfz20_2
                                try clear hfz21_0
                                try clear hfz21_1
                                try clear hfz21_2
                                try clear hfz25_0
                                try clear hfz25_1
                                try clear hfz25_2
                                try clear hfz29_0
                                try clear hfz29_1
                                try clear hfz29_2
                                try clear hfz37_0
                                try clear hfz37_1
                                try clear hfz37_2
                                try clear hfz5_0
                                try clear hfz5_1
                                try clear hfz5_2
                                try clear p1
                                try clear p11
                                try clear p2
                                try clear p23
                                try clear p6
                                try clear q1
                                try clear q11
                                try clear q2
                                try clear q23
                                obtain ⟨x12_4, rfl, HA, HK4, BK101, HB⟩ := hrel
                                cases gk with
                                | zero => exact absurd HA.out (by simp [abutmentref12_Parse.l1])
                                | succ k4 =>
                                  have H := HA.out
                                  clear HA
                                  simp only [abutmentref12_Parse.l1] at H
                                  by_cases c38 : x12_4 < (a1.size : Int)
                                  · rw [if_pos c38] at H
                                    have c38b0 : decide (x12_4 < (a1.size : Int)) = true := decide_eq_true c38
                                    clear c38
                                    by_cases c39 : 0 ≤ x12_4
                                    · rw [if_pos c39] at H
                                      have c39b0 : decide (0 ≤ x12_4) = true := decide_eq_true c39
                                      clear c39
                                      by_cases c41 : (bt a1 x12_4) = 47
                                      · rw [if_pos c41] at H
                                        have c41b0 : ((bt a1 x12_4) == 47) = true := beq_iff_eq.mpr c41
                                        have c41b1 : ((bt a1 x12_4) != 47) = false := bne_eq_false_iff_eq.mpr c41
                                        clear c41
                                        by_cases c42 : 7 ≤ x12_4
                                        · rw [if_pos c42] at H
                                          have c42b0 := eq_true c42
                                          have c42b1 : decide (7 ≤ x12_4) = true := decide_eq_true c42
                                          clear c42
                                          by_cases c43 : x12_4 ≤ (a1.size : Int)
                                          · rw [if_pos c43] at H
                                            have c43b0 := eq_true c43
                                            have c43b1 : decide (x12_4 ≤ (a1.size : Int)) = true := decide_eq_true c43
                                            clear c43
                                            replace H := Option.bind_eq_some_iff.mp H
                                            obtain ⟨⟨t108, t109, t110⟩, A440, H⟩ := H
                                            replace H : (if t110 = 0 then (some (2, a1.extract 7 (x12_4 : Int).toNat, a1.extract (x12_4 : Int).toNat a1.size, 0)) else (some (0, (⟨#[]⟩ : ByteArray), (⟨#[]⟩ : ByteArray), 11))) = some (r1, r2, r3, r4) := H
                                            have A44 := Aside0.mk A440
                                            clear A440
                                            by_cases c45 : t110 = 0
                                            · rw [if_pos c45] at H
                                              have c45b0 : (t110 == 0) = true := beq_iff_eq.mpr c45
                                              have c45b1 : (t110 != 0) = false := bne_eq_false_iff_eq.mpr c45
                                              clear c45
                                              have c46b0 := eq_true (of_decide_eq_true (by first | (with_reducible assumption) | assumption) : 7 ≤ x12_4)
                                              have c47b0 := eq_true (of_decide_eq_true (by first | (with_reducible assumption) | assumption) : x12_4 ≤ (a1.size : Int))
                                              have c48b0 := eq_true (of_decide_eq_true (by first | (with_reducible assumption) | assumption) : 0 ≤ x12_4)
                                              have c49b0 := eq_true (of_decide_eq_true (by first | (with_reducible assumption) | assumption) : x12_4 ≤ (a1.size : Int))
                                              simp only [Option.some.injEq, Prod.mk.injEq] at H
                                              obtain ⟨rfl, rfl, rfl, rfl⟩ := H
                                              have p40 : 0 ≤ (x12_4 : Int) := of_decide_eq_true (by first | (with_reducible assumption) | assumption)
                                              have q40 : x12_4 < (a1.size : Int) := of_decide_eq_true (by first | (with_reducible assumption) | assumption)
                                              have hx40 := bt_at a1 x12_4
                                              replace p40 := eq_true p40
                                              replace q40 := eq_true q40
                                              try go_wp2_with (first | ((with_reducible refine gate_callee (f := 38) rfl ?_); refine goesL_ (some 102) rfl rfl Tryd.func38 (by kernel_rfl) rfl #[.string (a1.extract 7 (x12_4 : Int).toNat)] rfl (by (try simp only [List.map_toArray, List.map_cons, List.map_nil]); first | done | rfl | (simp only [List.length_drop, List.length_take]; rfl)) ?_; (with_reducible refine (abutmentref11_Parse.calls k4 (a1.extract 7 (x12_4 : Int).toNat) t108 t109 t110 _ A44.out).mono ?_); rintro e w' ⟨rfl, ⟨nd, rfl⟩⟩; refine ⟨_, rfl, ?_⟩; (try (rw [drewN_self wr]; generalize hq_ : World.drewN wr _ = wr; have n0_ : Aside0 (wr.heap[gb101]? = some (.cells #[.int .i64 0, .string (⟨#[]⟩ : ByteArray), .string (⟨#[]⟩ : ByteArray)] 32 (0, 0))) := ⟨by rw [← hq_]; exact (by (with_reducible repeat (first | refine blk_drewN ?_ _ | refine blk_drew ?_ | refine blk_alloc ?_ _)); exact BK101.out)⟩; have n1_ : Aside0 (Below w.heap.size w wr) := ⟨by rw [← hq_]; exact (by repeat (first | (with_reducible first | exact HB.out | apply below_alloc | apply pw_below_drewN | apply below_drew1 | refine below_set ?_ GE101.out) | exact HB.out))⟩; clear BK101 HB hq_; have BK101 := n0_; have HB := n1_; clear n0_ n1_))))
                                              have n0_ := Aside0.mk (blk_drew BK101.out)
                                              have n1_ := Aside0.mk (below_drew1 HB.out)
                                              clear BK101
                                              clear HB
                                              have BK101 := n0_
                                              have HB := n1_
                                              clear n0_ n1_
                                              refine start_ (n := 9) (S := fun w' => True) (ds := []) #[false, false, false, false, false, false, false, false, false] (by kernel_rfl) rfl rfl trivial (fun hHeld => ?_); refine with_tabW abutmentref12_Parse.tab28 abutmentref12_Parse.bits28 (fun HT_ HW_ => ?_)
                                              generalize wr.drew = w50 at BK101 HB hHeld ⊢
                                              refine pure_ (i := 0) (N := some 109) (v := ?_) (a' := ?_) #[true, false, false, false, false, false, false, false, false] rfl rfl (any_of HT_.out (by kernel_rfl)) (fun _ _ _ h => h) (Or.inl ⟨by rfl, ?_⟩) ?_ ?_
                                              rotate_left
                                              · intro w'
                                                go_simp
                                                with_reducible rfl
                                              rotate_left
                                              · simp only [Act.put, List.setIfInBounds_toArray, List.set_cons_zero, List.set_cons_succ, i64_w, i32_w]
                                                rfl
                                              refine pure_ (i := 1) (N := some 110) (v := ?_) (a' := ?_) #[true, true, false, false, false, false, false, false, false] rfl rfl (any_of HT_.out (by kernel_rfl)) (fun _ _ _ h => h) (Or.inl ⟨by rfl, ?_⟩) ?_ ?_
                                              rotate_left
                                              · intro w'
                                                go_simp
                                                with_reducible rfl
                                              rotate_left
                                              · simp only [Act.put, List.setIfInBounds_toArray, List.set_cons_zero, List.set_cons_succ, i64_w, i32_w]
                                                rfl
                                              refine pure_ (i := 2) (N := some 111) (v := ?_) (a' := ?_) #[true, true, true, false, false, false, false, false, false] rfl rfl (any_of HT_.out (by kernel_rfl)) (fun _ _ _ h => h) (Or.inl ⟨by rfl, ?_⟩) ?_ ?_
                                              rotate_left
                                              · intro w'
                                                go_simp
                                                with_reducible rfl
                                              rotate_left
                                              · simp only [Act.put, List.setIfInBounds_toArray, List.set_cons_zero, List.set_cons_succ, i64_w, i32_w]
                                                rfl
                                              refine pure_ (i := 3) (N := some 112) (v := ?_) (a' := ?_) #[true, true, true, true, false, false, false, false, false] rfl rfl (any_of HT_.out (by kernel_rfl)) (fun _ _ _ h => h) (Or.inl ⟨by rfl, ?_⟩) ?_ ?_
                                              rotate_left
                                              · intro w'
                                                go_simp
                                                with_reducible rfl
                                              rotate_left
                                              · simp only [Act.put, List.setIfInBounds_toArray, List.set_cons_zero, List.set_cons_succ, i64_w, i32_w]
                                                rfl
                                              refine pure_ (i := 4) (N := some 113) (v := ?_) (a' := ?_) #[true, true, true, true, true, false, false, false, false] rfl rfl (any_of HT_.out (by kernel_rfl)) (fun _ _ _ h => h) (Or.inl ⟨by rfl, ?_⟩) ?_ ?_
                                              rotate_left
                                              · intro w'
                                                go_simp
                                                with_reducible rfl
                                              rotate_left
                                              · simp only [Act.put, List.setIfInBounds_toArray, List.set_cons_zero, List.set_cons_succ, i64_w, i32_w]
                                                rfl
                                              refine pure_ (i := 5) (N := some 114) (v := ?_) (a' := ?_) #[true, true, true, true, true, true, false, false, false] rfl rfl (any_of HT_.out (by kernel_rfl)) (fun _ _ _ h => h) (Or.inl ⟨by rfl, ?_⟩) ?_ ?_
                                              rotate_left
                                              · intro w'
                                                go_simp
                                                with_reducible rfl
                                              rotate_left
                                              · simp only [Act.put, List.setIfInBounds_toArray, List.set_cons_zero, List.set_cons_succ, i64_w, i32_w]
                                                rfl
                                              refine pure_ (i := 6) (N := some 115) (v := ?_) (a' := ?_) #[true, true, true, true, true, true, true, false, false] rfl rfl (any_of HT_.out (by kernel_rfl)) (fun _ _ _ h => h) (Or.inl ⟨by rfl, ?_⟩) ?_ ?_
                                              rotate_left
                                              · intro w'
                                                go_simp
                                                with_reducible rfl
                                              rotate_left
                                              · simp only [Act.put, List.setIfInBounds_toArray, List.set_cons_zero, List.set_cons_succ, i64_w, i32_w]
                                                rfl
                                              refine one_ (i := 7) (N := none) #[true, true, true, true, true, true, true, true, false] rfl rfl (one_of HT_.out (by kernel_rfl)) (by decide) (fun K hK => ?_)
                                              have hs51 : w50.cell? ⟨gb101, 0, none⟩ = some (.int .i64 0) := (blk_cell BK101.out 0).trans rfl
                                              have hfs51 := blk_frozen BK101.out 0
                                              have hs52 : w50.cell? ⟨gb101, 1, none⟩ = some (.string (⟨#[]⟩ : ByteArray)) := (blk_cell BK101.out 1).trans rfl
                                              have hfs52 := blk_frozen BK101.out 1
                                              have hs53 : w50.cell? ⟨gb101, 2, none⟩ = some (.string (⟨#[]⟩ : ByteArray)) := (blk_cell BK101.out 2).trans rfl
                                              have hfs53 := blk_frozen BK101.out 2
                                              refine skip_ (w1 := ?_) (by rfl) rfl ?_ ?_
                                              rotate_left
                                              · go_simp
                                                rfl
                                              refine hK.out _ _ trivial (fun hHeld => ?_)
                                              clear hK K
                                              refine pure_ (i := 8) (N := some 5) (v := ?_) (a' := ?_) #[true, true, true, true, true, true, true, true, true] rfl rfl (any_of HT_.out (by kernel_rfl)) (fun _ _ _ h => h) (Or.inl ⟨by rfl, ?_⟩) ?_ ?_
                                              rotate_left
                                              · intro w'
                                                go_simp
                                                with_reducible rfl
                                              rotate_left
                                              · simp only [Act.put, List.setIfInBounds_toArray, List.set_cons_zero, List.set_cons_succ, i64_w, i32_w]
                                                rfl
                                              refine done_ (done_of HT_.out (by kernel_rfl)) ?_
                                              try go_wp2
                                              refine bodyPost_ret (results_ct rfl _ _ gb101 32 #[.int .i64 2, .string (a1.extract 7 (x12_4 : Int).toNat), .string (a1.extract (x12_4 : Int).toNat a1.size)] (0, 0) _ rfl (by (with_reducible repeat (first | refine blk_drewN ?_ _ | refine blk_drew ?_ | refine blk_alloc ?_ _)); refine blk_put (cs := #[.int .i64 2, .string (a1.extract 7 (x12_4 : Int).toNat), .string (⟨#[]⟩ : ByteArray)]) ?_ 2 _ rfl; (with_reducible repeat (first | refine blk_drewN ?_ _ | refine blk_drew ?_ | refine blk_alloc ?_ _)); refine blk_put (cs := #[.int .i64 2, .string (⟨#[]⟩ : ByteArray), .string (⟨#[]⟩ : ByteArray)]) ?_ 1 _ rfl; (with_reducible repeat (first | refine blk_drewN ?_ _ | refine blk_drew ?_ | refine blk_alloc ?_ _)); refine blk_put (cs := #[.int .i64 0, .string (⟨#[]⟩ : ByteArray), .string (⟨#[]⟩ : ByteArray)]) ?_ 0 _ rfl; (with_reducible repeat (first | refine blk_drewN ?_ _ | refine blk_drew ?_ | refine blk_alloc ?_ _)); exact BK101.out) Tryd.underlying32 rfl (by kernel_rfl)) rfl ?_
                                              exact ⟨by first | rfl | (simp [errW_none, errW_some] <;> rfl) | (simp [*, errW_none, errW_some] <;> rfl), by repeat (first | (with_reducible first | exact HB.out | apply below_alloc | apply pw_below_drewN | apply below_drew1 | refine below_set ?_ GE101.out) | exact HB.out)⟩
                                            · rw [if_neg c45] at H
                                              have c45b0 : (t110 == 0) = false := beq_eq_false_iff_ne.mpr c45
                                              have c45b1 : (t110 != 0) = true := bne_iff_ne.mpr c45
                                              simp only [Option.some.injEq, Prod.mk.injEq] at H
                                              obtain ⟨rfl, rfl, rfl, rfl⟩ := H
                                              have p40 : 0 ≤ (x12_4 : Int) := of_decide_eq_true (by first | (with_reducible assumption) | assumption)
                                              have q40 : x12_4 < (a1.size : Int) := of_decide_eq_true (by first | (with_reducible assumption) | assumption)
                                              have hx40 := bt_at a1 x12_4
                                              replace p40 := eq_true p40
                                              replace q40 := eq_true q40
                                              go_wp2_with (first | ((with_reducible refine gate_callee (f := 38) rfl ?_); refine goesL_ (some 102) rfl rfl Tryd.func38 (by kernel_rfl) rfl #[.string (a1.extract 7 (x12_4 : Int).toNat)] rfl (by (try simp only [List.map_toArray, List.map_cons, List.map_nil]); first | done | rfl | (simp only [List.length_drop, List.length_take]; rfl)) ?_; (with_reducible refine (abutmentref11_Parse.calls k4 (a1.extract 7 (x12_4 : Int).toNat) t108 t109 t110 _ A44.out).mono ?_); rintro e w' ⟨rfl, ⟨nd, rfl⟩⟩; refine ⟨_, rfl, ?_⟩; (try (rw [drewN_self wr]; generalize hq_ : World.drewN wr _ = wr; have n0_ : Aside0 (wr.heap[gb101]? = some (.cells #[.int .i64 0, .string (⟨#[]⟩ : ByteArray), .string (⟨#[]⟩ : ByteArray)] 32 (0, 0))) := ⟨by rw [← hq_]; exact (by (with_reducible repeat (first | refine blk_drewN ?_ _ | refine blk_drew ?_ | refine blk_alloc ?_ _)); exact BK101.out)⟩; have n1_ : Aside0 (Below w.heap.size w wr) := ⟨by rw [← hq_]; exact (by repeat (first | (with_reducible first | exact HB.out | apply below_alloc | apply pw_below_drewN | apply below_drew1 | refine below_set ?_ GE101.out) | exact HB.out))⟩; clear BK101 HB hq_; have BK101 := n0_; have HB := n1_; clear n0_ n1_)); have hcz54_0 : wr.cell? ⟨gb101, 0, none⟩ = some (.int .i64 0) := (blk_cell BK101.out 0).trans rfl; have hcz54_1 : wr.cell? ⟨gb101, 1, none⟩ = some (.string (⟨#[]⟩ : ByteArray)) := (blk_cell BK101.out 1).trans rfl; have hcz54_2 : wr.cell? ⟨gb101, 2, none⟩ = some (.string (⟨#[]⟩ : ByteArray)) := (blk_cell BK101.out 2).trans rfl; have hfz54_0 := blk_frozen BK101.out 0; have hfz54_1 := blk_frozen BK101.out 1; have hfz54_2 := blk_frozen BK101.out 2))
                                              refine bodyPost_ret (results_ct rfl _ _ gb101 32 #[.int .i64 0, .string (⟨#[]⟩ : ByteArray), .string (⟨#[]⟩ : ByteArray)] (0, 0) _ rfl (by (with_reducible repeat (first | refine blk_drewN ?_ _ | refine blk_drew ?_ | refine blk_alloc ?_ _)); refine blk_put (cs := #[.int .i64 0, .string (⟨#[]⟩ : ByteArray), .string (⟨#[]⟩ : ByteArray)]) ?_ 2 _ rfl; (with_reducible repeat (first | refine blk_drewN ?_ _ | refine blk_drew ?_ | refine blk_alloc ?_ _)); refine blk_put (cs := #[.int .i64 0, .string (⟨#[]⟩ : ByteArray), .string (⟨#[]⟩ : ByteArray)]) ?_ 1 _ rfl; (with_reducible repeat (first | refine blk_drewN ?_ _ | refine blk_drew ?_ | refine blk_alloc ?_ _)); refine blk_put (cs := #[.int .i64 0, .string (⟨#[]⟩ : ByteArray), .string (⟨#[]⟩ : ByteArray)]) ?_ 0 _ rfl; (with_reducible repeat (first | refine blk_drewN ?_ _ | refine blk_drew ?_ | refine blk_alloc ?_ _)); exact BK101.out) Tryd.underlying32 rfl (by kernel_rfl)) rfl ?_
                                              exact ⟨by first | rfl | (simp [errW_none, errW_some] <;> rfl) | (simp [*, errW_none, errW_some] <;> rfl), by repeat (first | (with_reducible first | exact HB.out | apply below_alloc | apply pw_below_drewN | apply below_drew1 | refine below_set ?_ GE101.out) | exact HB.out)⟩
                                          · rw [if_neg c43] at H
                                            exact absurd H (by simp)
                                        · rw [if_neg c42] at H
                                          exact absurd H (by simp)
                                      · rw [if_neg c41] at H
                                        have c41b0 : ((bt a1 x12_4) == 47) = false := beq_eq_false_iff_ne.mpr c41
                                        have c41b1 : ((bt a1 x12_4) != 47) = true := bne_iff_ne.mpr c41
                                        by_cases c56 : (bt a1 x12_4) = 63
                                        · rw [if_pos c56] at H
                                          have c56b0 : ((bt a1 x12_4) == 63) = true := beq_iff_eq.mpr c56
                                          have c56b1 : ((bt a1 x12_4) != 63) = false := bne_eq_false_iff_eq.mpr c56
                                          clear c56
                                          by_cases c57 : 7 ≤ x12_4
                                          · rw [if_pos c57] at H
                                            have c57b0 := eq_true c57
                                            have c57b1 : decide (7 ≤ x12_4) = true := decide_eq_true c57
                                            clear c57
                                            by_cases c58 : x12_4 ≤ (a1.size : Int)
                                            · rw [if_pos c58] at H
                                              have c58b0 := eq_true c58
                                              have c58b1 : decide (x12_4 ≤ (a1.size : Int)) = true := decide_eq_true c58
                                              clear c58
                                              replace H := Option.bind_eq_some_iff.mp H
                                              obtain ⟨⟨t111, t112, t113⟩, A590, H⟩ := H
                                              replace H : (if t113 = 0 then (some (2, a1.extract 7 (x12_4 : Int).toNat, a1.extract (x12_4 : Int).toNat a1.size, 0)) else (some (0, (⟨#[]⟩ : ByteArray), (⟨#[]⟩ : ByteArray), 11))) = some (r1, r2, r3, r4) := H
                                              have A59 := Aside0.mk A590
                                              clear A590
                                              by_cases c60 : t113 = 0
                                              · rw [if_pos c60] at H
                                                have c60b0 : (t113 == 0) = true := beq_iff_eq.mpr c60
                                                have c60b1 : (t113 != 0) = false := bne_eq_false_iff_eq.mpr c60
                                                clear c60
                                                have c61b0 := eq_true (of_decide_eq_true (by first | (with_reducible assumption) | assumption) : 7 ≤ x12_4)
                                                have c62b0 := eq_true (of_decide_eq_true (by first | (with_reducible assumption) | assumption) : x12_4 ≤ (a1.size : Int))
                                                have c63b0 := eq_true (of_decide_eq_true (by first | (with_reducible assumption) | assumption) : 0 ≤ x12_4)
                                                have c64b0 := eq_true (of_decide_eq_true (by first | (with_reducible assumption) | assumption) : x12_4 ≤ (a1.size : Int))
                                                simp only [Option.some.injEq, Prod.mk.injEq] at H
                                                obtain ⟨rfl, rfl, rfl, rfl⟩ := H
                                                have p40 : 0 ≤ (x12_4 : Int) := of_decide_eq_true (by first | (with_reducible assumption) | assumption)
                                                have q40 : x12_4 < (a1.size : Int) := of_decide_eq_true (by first | (with_reducible assumption) | assumption)
                                                have hx40 := bt_at a1 x12_4
                                                replace p40 := eq_true p40
                                                replace q40 := eq_true q40
                                                have p55 : 0 ≤ (x12_4 : Int) := of_decide_eq_true (by first | (with_reducible assumption) | assumption)
                                                have q55 : x12_4 < (a1.size : Int) := of_decide_eq_true (by first | (with_reducible assumption) | assumption)
                                                have hx55 := bt_at a1 x12_4
                                                replace p55 := eq_true p55
                                                replace q55 := eq_true q55
                                                try go_wp2_with (first | ((with_reducible refine gate_callee (f := 38) rfl ?_); refine goesL_ (some 102) rfl rfl Tryd.func38 (by kernel_rfl) rfl #[.string (a1.extract 7 (x12_4 : Int).toNat)] rfl (by (try simp only [List.map_toArray, List.map_cons, List.map_nil]); first | done | rfl | (simp only [List.length_drop, List.length_take]; rfl)) ?_; (with_reducible refine (abutmentref11_Parse.calls k4 (a1.extract 7 (x12_4 : Int).toNat) t111 t112 t113 _ A59.out).mono ?_); rintro e w' ⟨rfl, ⟨nd, rfl⟩⟩; refine ⟨_, rfl, ?_⟩; (try (rw [drewN_self wr]; generalize hq_ : World.drewN wr _ = wr; have n0_ : Aside0 (wr.heap[gb101]? = some (.cells #[.int .i64 0, .string (⟨#[]⟩ : ByteArray), .string (⟨#[]⟩ : ByteArray)] 32 (0, 0))) := ⟨by rw [← hq_]; exact (by (with_reducible repeat (first | refine blk_drewN ?_ _ | refine blk_drew ?_ | refine blk_alloc ?_ _)); exact BK101.out)⟩; have n1_ : Aside0 (Below w.heap.size w wr) := ⟨by rw [← hq_]; exact (by repeat (first | (with_reducible first | exact HB.out | apply below_alloc | apply pw_below_drewN | apply below_drew1 | refine below_set ?_ GE101.out) | exact HB.out))⟩; clear BK101 HB hq_; have BK101 := n0_; have HB := n1_; clear n0_ n1_))))
                                                have n0_ := Aside0.mk (blk_drew BK101.out)
                                                have n1_ := Aside0.mk (below_drew1 HB.out)
                                                clear BK101
                                                clear HB
                                                have BK101 := n0_
                                                have HB := n1_
                                                clear n0_ n1_
                                                refine start_ (n := 9) (S := fun w' => True) (ds := []) #[false, false, false, false, false, false, false, false, false] (by kernel_rfl) rfl rfl trivial (fun hHeld => ?_); refine with_tabW abutmentref12_Parse.tab28 abutmentref12_Parse.bits28 (fun HT_ HW_ => ?_)
                                                generalize wr.drew = w65 at BK101 HB hHeld ⊢
                                                refine pure_ (i := 0) (N := some 109) (v := ?_) (a' := ?_) #[true, false, false, false, false, false, false, false, false] rfl rfl (any_of HT_.out (by kernel_rfl)) (fun _ _ _ h => h) (Or.inl ⟨by rfl, ?_⟩) ?_ ?_
                                                rotate_left
                                                · intro w'
                                                  go_simp
                                                  with_reducible rfl
                                                rotate_left
                                                · simp only [Act.put, List.setIfInBounds_toArray, List.set_cons_zero, List.set_cons_succ, i64_w, i32_w]
                                                  rfl
                                                refine pure_ (i := 1) (N := some 110) (v := ?_) (a' := ?_) #[true, true, false, false, false, false, false, false, false] rfl rfl (any_of HT_.out (by kernel_rfl)) (fun _ _ _ h => h) (Or.inl ⟨by rfl, ?_⟩) ?_ ?_
                                                rotate_left
                                                · intro w'
                                                  go_simp
                                                  with_reducible rfl
                                                rotate_left
                                                · simp only [Act.put, List.setIfInBounds_toArray, List.set_cons_zero, List.set_cons_succ, i64_w, i32_w]
                                                  rfl
                                                refine pure_ (i := 2) (N := some 111) (v := ?_) (a' := ?_) #[true, true, true, false, false, false, false, false, false] rfl rfl (any_of HT_.out (by kernel_rfl)) (fun _ _ _ h => h) (Or.inl ⟨by rfl, ?_⟩) ?_ ?_
                                                rotate_left
                                                · intro w'
                                                  go_simp
                                                  with_reducible rfl
                                                rotate_left
                                                · simp only [Act.put, List.setIfInBounds_toArray, List.set_cons_zero, List.set_cons_succ, i64_w, i32_w]
                                                  rfl
                                                refine pure_ (i := 3) (N := some 112) (v := ?_) (a' := ?_) #[true, true, true, true, false, false, false, false, false] rfl rfl (any_of HT_.out (by kernel_rfl)) (fun _ _ _ h => h) (Or.inl ⟨by rfl, ?_⟩) ?_ ?_
                                                rotate_left
                                                · intro w'
                                                  go_simp
                                                  with_reducible rfl
                                                rotate_left
                                                · simp only [Act.put, List.setIfInBounds_toArray, List.set_cons_zero, List.set_cons_succ, i64_w, i32_w]
                                                  rfl
                                                refine pure_ (i := 4) (N := some 113) (v := ?_) (a' := ?_) #[true, true, true, true, true, false, false, false, false] rfl rfl (any_of HT_.out (by kernel_rfl)) (fun _ _ _ h => h) (Or.inl ⟨by rfl, ?_⟩) ?_ ?_
                                                rotate_left
                                                · intro w'
                                                  go_simp
                                                  with_reducible rfl
                                                rotate_left
                                                · simp only [Act.put, List.setIfInBounds_toArray, List.set_cons_zero, List.set_cons_succ, i64_w, i32_w]
                                                  rfl
                                                refine pure_ (i := 5) (N := some 114) (v := ?_) (a' := ?_) #[true, true, true, true, true, true, false, false, false] rfl rfl (any_of HT_.out (by kernel_rfl)) (fun _ _ _ h => h) (Or.inl ⟨by rfl, ?_⟩) ?_ ?_
                                                rotate_left
                                                · intro w'
                                                  go_simp
                                                  with_reducible rfl
                                                rotate_left
                                                · simp only [Act.put, List.setIfInBounds_toArray, List.set_cons_zero, List.set_cons_succ, i64_w, i32_w]
                                                  rfl
                                                refine pure_ (i := 6) (N := some 115) (v := ?_) (a' := ?_) #[true, true, true, true, true, true, true, false, false] rfl rfl (any_of HT_.out (by kernel_rfl)) (fun _ _ _ h => h) (Or.inl ⟨by rfl, ?_⟩) ?_ ?_
                                                rotate_left
                                                · intro w'
                                                  go_simp
                                                  with_reducible rfl
                                                rotate_left
                                                · simp only [Act.put, List.setIfInBounds_toArray, List.set_cons_zero, List.set_cons_succ, i64_w, i32_w]
                                                  rfl
                                                refine one_ (i := 7) (N := none) #[true, true, true, true, true, true, true, true, false] rfl rfl (one_of HT_.out (by kernel_rfl)) (by decide) (fun K hK => ?_)
                                                have hs66 : w65.cell? ⟨gb101, 0, none⟩ = some (.int .i64 0) := (blk_cell BK101.out 0).trans rfl
                                                have hfs66 := blk_frozen BK101.out 0
                                                have hs67 : w65.cell? ⟨gb101, 1, none⟩ = some (.string (⟨#[]⟩ : ByteArray)) := (blk_cell BK101.out 1).trans rfl
                                                have hfs67 := blk_frozen BK101.out 1
                                                have hs68 : w65.cell? ⟨gb101, 2, none⟩ = some (.string (⟨#[]⟩ : ByteArray)) := (blk_cell BK101.out 2).trans rfl
                                                have hfs68 := blk_frozen BK101.out 2
                                                refine skip_ (w1 := ?_) (by rfl) rfl ?_ ?_
                                                rotate_left
                                                · go_simp
                                                  rfl
                                                refine hK.out _ _ trivial (fun hHeld => ?_)
                                                clear hK K
                                                refine pure_ (i := 8) (N := some 5) (v := ?_) (a' := ?_) #[true, true, true, true, true, true, true, true, true] rfl rfl (any_of HT_.out (by kernel_rfl)) (fun _ _ _ h => h) (Or.inl ⟨by rfl, ?_⟩) ?_ ?_
                                                rotate_left
                                                · intro w'
                                                  go_simp
                                                  with_reducible rfl
                                                rotate_left
                                                · simp only [Act.put, List.setIfInBounds_toArray, List.set_cons_zero, List.set_cons_succ, i64_w, i32_w]
                                                  rfl
                                                refine done_ (done_of HT_.out (by kernel_rfl)) ?_
                                                try go_wp2
                                                refine bodyPost_ret (results_ct rfl _ _ gb101 32 #[.int .i64 2, .string (a1.extract 7 (x12_4 : Int).toNat), .string (a1.extract (x12_4 : Int).toNat a1.size)] (0, 0) _ rfl (by (with_reducible repeat (first | refine blk_drewN ?_ _ | refine blk_drew ?_ | refine blk_alloc ?_ _)); refine blk_put (cs := #[.int .i64 2, .string (a1.extract 7 (x12_4 : Int).toNat), .string (⟨#[]⟩ : ByteArray)]) ?_ 2 _ rfl; (with_reducible repeat (first | refine blk_drewN ?_ _ | refine blk_drew ?_ | refine blk_alloc ?_ _)); refine blk_put (cs := #[.int .i64 2, .string (⟨#[]⟩ : ByteArray), .string (⟨#[]⟩ : ByteArray)]) ?_ 1 _ rfl; (with_reducible repeat (first | refine blk_drewN ?_ _ | refine blk_drew ?_ | refine blk_alloc ?_ _)); refine blk_put (cs := #[.int .i64 0, .string (⟨#[]⟩ : ByteArray), .string (⟨#[]⟩ : ByteArray)]) ?_ 0 _ rfl; (with_reducible repeat (first | refine blk_drewN ?_ _ | refine blk_drew ?_ | refine blk_alloc ?_ _)); exact BK101.out) Tryd.underlying32 rfl (by kernel_rfl)) rfl ?_
                                                exact ⟨by first | rfl | (simp [errW_none, errW_some] <;> rfl) | (simp [*, errW_none, errW_some] <;> rfl), by repeat (first | (with_reducible first | exact HB.out | apply below_alloc | apply pw_below_drewN | apply below_drew1 | refine below_set ?_ GE101.out) | exact HB.out)⟩
                                              · rw [if_neg c60] at H
                                                have c60b0 : (t113 == 0) = false := beq_eq_false_iff_ne.mpr c60
                                                have c60b1 : (t113 != 0) = true := bne_iff_ne.mpr c60
                                                simp only [Option.some.injEq, Prod.mk.injEq] at H
                                                obtain ⟨rfl, rfl, rfl, rfl⟩ := H
                                                have p40 : 0 ≤ (x12_4 : Int) := of_decide_eq_true (by first | (with_reducible assumption) | assumption)
                                                have q40 : x12_4 < (a1.size : Int) := of_decide_eq_true (by first | (with_reducible assumption) | assumption)
                                                have hx40 := bt_at a1 x12_4
                                                replace p40 := eq_true p40
                                                replace q40 := eq_true q40
                                                have p55 : 0 ≤ (x12_4 : Int) := of_decide_eq_true (by first | (with_reducible assumption) | assumption)
                                                have q55 : x12_4 < (a1.size : Int) := of_decide_eq_true (by first | (with_reducible assumption) | assumption)
                                                have hx55 := bt_at a1 x12_4
                                                replace p55 := eq_true p55
                                                replace q55 := eq_true q55
                                                go_wp2_with (first | ((with_reducible refine gate_callee (f := 38) rfl ?_); refine goesL_ (some 102) rfl rfl Tryd.func38 (by kernel_rfl) rfl #[.string (a1.extract 7 (x12_4 : Int).toNat)] rfl (by (try simp only [List.map_toArray, List.map_cons, List.map_nil]); first | done | rfl | (simp only [List.length_drop, List.length_take]; rfl)) ?_; (with_reducible refine (abutmentref11_Parse.calls k4 (a1.extract 7 (x12_4 : Int).toNat) t111 t112 t113 _ A59.out).mono ?_); rintro e w' ⟨rfl, ⟨nd, rfl⟩⟩; refine ⟨_, rfl, ?_⟩; (try (rw [drewN_self wr]; generalize hq_ : World.drewN wr _ = wr; have n0_ : Aside0 (wr.heap[gb101]? = some (.cells #[.int .i64 0, .string (⟨#[]⟩ : ByteArray), .string (⟨#[]⟩ : ByteArray)] 32 (0, 0))) := ⟨by rw [← hq_]; exact (by (with_reducible repeat (first | refine blk_drewN ?_ _ | refine blk_drew ?_ | refine blk_alloc ?_ _)); exact BK101.out)⟩; have n1_ : Aside0 (Below w.heap.size w wr) := ⟨by rw [← hq_]; exact (by repeat (first | (with_reducible first | exact HB.out | apply below_alloc | apply pw_below_drewN | apply below_drew1 | refine below_set ?_ GE101.out) | exact HB.out))⟩; clear BK101 HB hq_; have BK101 := n0_; have HB := n1_; clear n0_ n1_)); have hcz69_0 : wr.cell? ⟨gb101, 0, none⟩ = some (.int .i64 0) := (blk_cell BK101.out 0).trans rfl; have hcz69_1 : wr.cell? ⟨gb101, 1, none⟩ = some (.string (⟨#[]⟩ : ByteArray)) := (blk_cell BK101.out 1).trans rfl; have hcz69_2 : wr.cell? ⟨gb101, 2, none⟩ = some (.string (⟨#[]⟩ : ByteArray)) := (blk_cell BK101.out 2).trans rfl; have hfz69_0 := blk_frozen BK101.out 0; have hfz69_1 := blk_frozen BK101.out 1; have hfz69_2 := blk_frozen BK101.out 2))
                                                refine bodyPost_ret (results_ct rfl _ _ gb101 32 #[.int .i64 0, .string (⟨#[]⟩ : ByteArray), .string (⟨#[]⟩ : ByteArray)] (0, 0) _ rfl (by (with_reducible repeat (first | refine blk_drewN ?_ _ | refine blk_drew ?_ | refine blk_alloc ?_ _)); refine blk_put (cs := #[.int .i64 0, .string (⟨#[]⟩ : ByteArray), .string (⟨#[]⟩ : ByteArray)]) ?_ 2 _ rfl; (with_reducible repeat (first | refine blk_drewN ?_ _ | refine blk_drew ?_ | refine blk_alloc ?_ _)); refine blk_put (cs := #[.int .i64 0, .string (⟨#[]⟩ : ByteArray), .string (⟨#[]⟩ : ByteArray)]) ?_ 1 _ rfl; (with_reducible repeat (first | refine blk_drewN ?_ _ | refine blk_drew ?_ | refine blk_alloc ?_ _)); refine blk_put (cs := #[.int .i64 0, .string (⟨#[]⟩ : ByteArray), .string (⟨#[]⟩ : ByteArray)]) ?_ 0 _ rfl; (with_reducible repeat (first | refine blk_drewN ?_ _ | refine blk_drew ?_ | refine blk_alloc ?_ _)); exact BK101.out) Tryd.underlying32 rfl (by kernel_rfl)) rfl ?_
                                                exact ⟨by first | rfl | (simp [errW_none, errW_some] <;> rfl) | (simp [*, errW_none, errW_some] <;> rfl), by repeat (first | (with_reducible first | exact HB.out | apply below_alloc | apply pw_below_drewN | apply below_drew1 | refine below_set ?_ GE101.out) | exact HB.out)⟩
                                            · rw [if_neg c58] at H
                                              exact absurd H (by simp)
                                          · rw [if_neg c57] at H
                                            exact absurd H (by simp)
                                        · rw [if_neg c56] at H
                                          have c56b0 : ((bt a1 x12_4) == 63) = false := beq_eq_false_iff_ne.mpr c56
                                          have c56b1 : ((bt a1 x12_4) != 63) = true := bne_iff_ne.mpr c56
                                          have H' := Aside0.mk H
                                          clear H
                                          have p40 : 0 ≤ (x12_4 : Int) := of_decide_eq_true (by first | (with_reducible assumption) | assumption)
                                          have q40 : x12_4 < (a1.size : Int) := of_decide_eq_true (by first | (with_reducible assumption) | assumption)
                                          have hx40 := bt_at a1 x12_4
                                          replace p40 := eq_true p40
                                          replace q40 := eq_true q40
                                          have p55 : 0 ≤ (x12_4 : Int) := of_decide_eq_true (by first | (with_reducible assumption) | assumption)
                                          have q55 : x12_4 < (a1.size : Int) := of_decide_eq_true (by first | (with_reducible assumption) | assumption)
                                          have hx55 := bt_at a1 x12_4
                                          replace p55 := eq_true p55
                                          replace q55 := eq_true q55
                                          go_wp2
                                          go_roundg k4
                                          case measure => have := HK1.out; have := HJ25.out; have := HJ29.out; have := HK4.out; omega
                                          case rel => exact ⟨(wrap64 (x12_4 + 1)), (by first | rfl | (simp; done) | (simp [*]; done)), H', ⟨by have := HK1.out; have := HJ25.out; have := HJ29.out; have := HK4.out; omega⟩, ⟨by (with_reducible repeat (first | refine blk_drewN ?_ _ | refine blk_drew ?_ | refine blk_alloc ?_ _)); exact BK101.out⟩, ⟨by repeat (first | (with_reducible first | exact HB.out | apply below_alloc | apply pw_below_drewN | apply below_drew1 | refine below_set ?_ GE101.out) | exact HB.out)⟩⟩
                                    · rw [if_neg c39] at H
                                      exact absurd H (by simp)
                                  · rw [if_neg c38] at H
                                    have c38b0 : decide (x12_4 < (a1.size : Int)) = false := decide_eq_false c38
                                    clear c38
                                    by_cases c70 : 7 ≤ x12_4
                                    · rw [if_pos c70] at H
                                      have c70b0 := eq_true c70
                                      have c70b1 : decide (7 ≤ x12_4) = true := decide_eq_true c70
                                      clear c70
                                      by_cases c71 : x12_4 ≤ (a1.size : Int)
                                      · rw [if_pos c71] at H
                                        have c71b0 := eq_true c71
                                        have c71b1 : decide (x12_4 ≤ (a1.size : Int)) = true := decide_eq_true c71
                                        clear c71
                                        replace H := Option.bind_eq_some_iff.mp H
                                        obtain ⟨⟨t114, t115, t116⟩, A720, H⟩ := H
                                        replace H : (if t116 = 0 then (if 0 ≤ x12_4 then (some (2, a1.extract 7 (x12_4 : Int).toNat, a1.extract (x12_4 : Int).toNat a1.size, 0)) else (none)) else (some (0, (⟨#[]⟩ : ByteArray), (⟨#[]⟩ : ByteArray), 11))) = some (r1, r2, r3, r4) := H
                                        have A72 := Aside0.mk A720
                                        clear A720
                                        by_cases c73 : t116 = 0
                                        · rw [if_pos c73] at H
                                          have c73b0 : (t116 == 0) = true := beq_iff_eq.mpr c73
                                          have c73b1 : (t116 != 0) = false := bne_eq_false_iff_eq.mpr c73
                                          clear c73
                                          have c74b0 := eq_true (of_decide_eq_true (by first | (with_reducible assumption) | assumption) : 7 ≤ x12_4)
                                          have c75b0 := eq_true (of_decide_eq_true (by first | (with_reducible assumption) | assumption) : x12_4 ≤ (a1.size : Int))
                                          by_cases c76 : 0 ≤ x12_4
                                          · rw [if_pos c76] at H
                                            have c76b0 := eq_true c76
                                            have c76b1 : decide (0 ≤ x12_4) = true := decide_eq_true c76
                                            clear c76
                                            have c77b0 := eq_true (of_decide_eq_true (by first | (with_reducible assumption) | assumption) : x12_4 ≤ (a1.size : Int))
                                            simp only [Option.some.injEq, Prod.mk.injEq] at H
                                            obtain ⟨rfl, rfl, rfl, rfl⟩ := H
                                            try go_wp2_with (first | ((with_reducible refine gate_callee (f := 38) rfl ?_); refine goesL_ (some 102) rfl rfl Tryd.func38 (by kernel_rfl) rfl #[.string (a1.extract 7 (x12_4 : Int).toNat)] rfl (by (try simp only [List.map_toArray, List.map_cons, List.map_nil]); first | done | rfl | (simp only [List.length_drop, List.length_take]; rfl)) ?_; (with_reducible refine (abutmentref11_Parse.calls k4 (a1.extract 7 (x12_4 : Int).toNat) t114 t115 t116 _ A72.out).mono ?_); rintro e w' ⟨rfl, ⟨nd, rfl⟩⟩; refine ⟨_, rfl, ?_⟩; (try (rw [drewN_self wr]; generalize hq_ : World.drewN wr _ = wr; have n0_ : Aside0 (wr.heap[gb101]? = some (.cells #[.int .i64 0, .string (⟨#[]⟩ : ByteArray), .string (⟨#[]⟩ : ByteArray)] 32 (0, 0))) := ⟨by rw [← hq_]; exact (by (with_reducible repeat (first | refine blk_drewN ?_ _ | refine blk_drew ?_ | refine blk_alloc ?_ _)); exact BK101.out)⟩; have n1_ : Aside0 (Below w.heap.size w wr) := ⟨by rw [← hq_]; exact (by repeat (first | (with_reducible first | exact HB.out | apply below_alloc | apply pw_below_drewN | apply below_drew1 | refine below_set ?_ GE101.out) | exact HB.out))⟩; clear BK101 HB hq_; have BK101 := n0_; have HB := n1_; clear n0_ n1_))))
                                            have n0_ := Aside0.mk (blk_drew BK101.out)
                                            have n1_ := Aside0.mk (below_drew1 HB.out)
                                            clear BK101
                                            clear HB
                                            have BK101 := n0_
                                            have HB := n1_
                                            clear n0_ n1_
                                            refine start_ (n := 9) (S := fun w' => True) (ds := []) #[false, false, false, false, false, false, false, false, false] (by kernel_rfl) rfl rfl trivial (fun hHeld => ?_); refine with_tabW abutmentref12_Parse.tab28 abutmentref12_Parse.bits28 (fun HT_ HW_ => ?_)
                                            generalize wr.drew = w78 at BK101 HB hHeld ⊢
                                            refine pure_ (i := 0) (N := some 109) (v := ?_) (a' := ?_) #[true, false, false, false, false, false, false, false, false] rfl rfl (any_of HT_.out (by kernel_rfl)) (fun _ _ _ h => h) (Or.inl ⟨by rfl, ?_⟩) ?_ ?_
                                            rotate_left
                                            · intro w'
                                              go_simp
                                              with_reducible rfl
                                            rotate_left
                                            · simp only [Act.put, List.setIfInBounds_toArray, List.set_cons_zero, List.set_cons_succ, i64_w, i32_w]
                                              rfl
                                            refine pure_ (i := 1) (N := some 110) (v := ?_) (a' := ?_) #[true, true, false, false, false, false, false, false, false] rfl rfl (any_of HT_.out (by kernel_rfl)) (fun _ _ _ h => h) (Or.inl ⟨by rfl, ?_⟩) ?_ ?_
                                            rotate_left
                                            · intro w'
                                              go_simp
                                              with_reducible rfl
                                            rotate_left
                                            · simp only [Act.put, List.setIfInBounds_toArray, List.set_cons_zero, List.set_cons_succ, i64_w, i32_w]
                                              rfl
                                            refine pure_ (i := 2) (N := some 111) (v := ?_) (a' := ?_) #[true, true, true, false, false, false, false, false, false] rfl rfl (any_of HT_.out (by kernel_rfl)) (fun _ _ _ h => h) (Or.inl ⟨by rfl, ?_⟩) ?_ ?_
                                            rotate_left
                                            · intro w'
                                              go_simp
                                              with_reducible rfl
                                            rotate_left
                                            · simp only [Act.put, List.setIfInBounds_toArray, List.set_cons_zero, List.set_cons_succ, i64_w, i32_w]
                                              rfl
                                            refine pure_ (i := 3) (N := some 112) (v := ?_) (a' := ?_) #[true, true, true, true, false, false, false, false, false] rfl rfl (any_of HT_.out (by kernel_rfl)) (fun _ _ _ h => h) (Or.inl ⟨by rfl, ?_⟩) ?_ ?_
                                            rotate_left
                                            · intro w'
                                              go_simp
                                              with_reducible rfl
                                            rotate_left
                                            · simp only [Act.put, List.setIfInBounds_toArray, List.set_cons_zero, List.set_cons_succ, i64_w, i32_w]
                                              rfl
                                            refine pure_ (i := 4) (N := some 113) (v := ?_) (a' := ?_) #[true, true, true, true, true, false, false, false, false] rfl rfl (any_of HT_.out (by kernel_rfl)) (fun _ _ _ h => h) (Or.inl ⟨by rfl, ?_⟩) ?_ ?_
                                            rotate_left
                                            · intro w'
                                              go_simp
                                              with_reducible rfl
                                            rotate_left
                                            · simp only [Act.put, List.setIfInBounds_toArray, List.set_cons_zero, List.set_cons_succ, i64_w, i32_w]
                                              rfl
                                            refine pure_ (i := 5) (N := some 114) (v := ?_) (a' := ?_) #[true, true, true, true, true, true, false, false, false] rfl rfl (any_of HT_.out (by kernel_rfl)) (fun _ _ _ h => h) (Or.inl ⟨by rfl, ?_⟩) ?_ ?_
                                            rotate_left
                                            · intro w'
                                              go_simp
                                              with_reducible rfl
                                            rotate_left
                                            · simp only [Act.put, List.setIfInBounds_toArray, List.set_cons_zero, List.set_cons_succ, i64_w, i32_w]
                                              rfl
                                            refine pure_ (i := 6) (N := some 115) (v := ?_) (a' := ?_) #[true, true, true, true, true, true, true, false, false] rfl rfl (any_of HT_.out (by kernel_rfl)) (fun _ _ _ h => h) (Or.inl ⟨by rfl, ?_⟩) ?_ ?_
                                            rotate_left
                                            · intro w'
                                              go_simp
                                              with_reducible rfl
                                            rotate_left
                                            · simp only [Act.put, List.setIfInBounds_toArray, List.set_cons_zero, List.set_cons_succ, i64_w, i32_w]
                                              rfl
                                            refine one_ (i := 7) (N := none) #[true, true, true, true, true, true, true, true, false] rfl rfl (one_of HT_.out (by kernel_rfl)) (by decide) (fun K hK => ?_)
                                            have hs79 : w78.cell? ⟨gb101, 0, none⟩ = some (.int .i64 0) := (blk_cell BK101.out 0).trans rfl
                                            have hfs79 := blk_frozen BK101.out 0
                                            have hs80 : w78.cell? ⟨gb101, 1, none⟩ = some (.string (⟨#[]⟩ : ByteArray)) := (blk_cell BK101.out 1).trans rfl
                                            have hfs80 := blk_frozen BK101.out 1
                                            have hs81 : w78.cell? ⟨gb101, 2, none⟩ = some (.string (⟨#[]⟩ : ByteArray)) := (blk_cell BK101.out 2).trans rfl
                                            have hfs81 := blk_frozen BK101.out 2
                                            refine skip_ (w1 := ?_) (by rfl) rfl ?_ ?_
                                            rotate_left
                                            · go_simp
                                              rfl
                                            refine hK.out _ _ trivial (fun hHeld => ?_)
                                            clear hK K
                                            refine pure_ (i := 8) (N := some 5) (v := ?_) (a' := ?_) #[true, true, true, true, true, true, true, true, true] rfl rfl (any_of HT_.out (by kernel_rfl)) (fun _ _ _ h => h) (Or.inl ⟨by rfl, ?_⟩) ?_ ?_
                                            rotate_left
                                            · intro w'
                                              go_simp
                                              with_reducible rfl
                                            rotate_left
                                            · simp only [Act.put, List.setIfInBounds_toArray, List.set_cons_zero, List.set_cons_succ, i64_w, i32_w]
                                              rfl
                                            refine done_ (done_of HT_.out (by kernel_rfl)) ?_
                                            try go_wp2
                                            refine bodyPost_ret (results_ct rfl _ _ gb101 32 #[.int .i64 2, .string (a1.extract 7 (x12_4 : Int).toNat), .string (a1.extract (x12_4 : Int).toNat a1.size)] (0, 0) _ rfl (by (with_reducible repeat (first | refine blk_drewN ?_ _ | refine blk_drew ?_ | refine blk_alloc ?_ _)); refine blk_put (cs := #[.int .i64 2, .string (a1.extract 7 (x12_4 : Int).toNat), .string (⟨#[]⟩ : ByteArray)]) ?_ 2 _ rfl; (with_reducible repeat (first | refine blk_drewN ?_ _ | refine blk_drew ?_ | refine blk_alloc ?_ _)); refine blk_put (cs := #[.int .i64 2, .string (⟨#[]⟩ : ByteArray), .string (⟨#[]⟩ : ByteArray)]) ?_ 1 _ rfl; (with_reducible repeat (first | refine blk_drewN ?_ _ | refine blk_drew ?_ | refine blk_alloc ?_ _)); refine blk_put (cs := #[.int .i64 0, .string (⟨#[]⟩ : ByteArray), .string (⟨#[]⟩ : ByteArray)]) ?_ 0 _ rfl; (with_reducible repeat (first | refine blk_drewN ?_ _ | refine blk_drew ?_ | refine blk_alloc ?_ _)); exact BK101.out) Tryd.underlying32 rfl (by kernel_rfl)) rfl ?_
                                            exact ⟨by first | rfl | (simp [errW_none, errW_some] <;> rfl) | (simp [*, errW_none, errW_some] <;> rfl), by repeat (first | (with_reducible first | exact HB.out | apply below_alloc | apply pw_below_drewN | apply below_drew1 | refine below_set ?_ GE101.out) | exact HB.out)⟩
                                          · rw [if_neg c76] at H
                                            exact absurd H (by simp)
                                        · rw [if_neg c73] at H
                                          have c73b0 : (t116 == 0) = false := beq_eq_false_iff_ne.mpr c73
                                          have c73b1 : (t116 != 0) = true := bne_iff_ne.mpr c73
                                          simp only [Option.some.injEq, Prod.mk.injEq] at H
                                          obtain ⟨rfl, rfl, rfl, rfl⟩ := H
                                          go_wp2_with (first | ((with_reducible refine gate_callee (f := 38) rfl ?_); refine goesL_ (some 102) rfl rfl Tryd.func38 (by kernel_rfl) rfl #[.string (a1.extract 7 (x12_4 : Int).toNat)] rfl (by (try simp only [List.map_toArray, List.map_cons, List.map_nil]); first | done | rfl | (simp only [List.length_drop, List.length_take]; rfl)) ?_; (with_reducible refine (abutmentref11_Parse.calls k4 (a1.extract 7 (x12_4 : Int).toNat) t114 t115 t116 _ A72.out).mono ?_); rintro e w' ⟨rfl, ⟨nd, rfl⟩⟩; refine ⟨_, rfl, ?_⟩; (try (rw [drewN_self wr]; generalize hq_ : World.drewN wr _ = wr; have n0_ : Aside0 (wr.heap[gb101]? = some (.cells #[.int .i64 0, .string (⟨#[]⟩ : ByteArray), .string (⟨#[]⟩ : ByteArray)] 32 (0, 0))) := ⟨by rw [← hq_]; exact (by (with_reducible repeat (first | refine blk_drewN ?_ _ | refine blk_drew ?_ | refine blk_alloc ?_ _)); exact BK101.out)⟩; have n1_ : Aside0 (Below w.heap.size w wr) := ⟨by rw [← hq_]; exact (by repeat (first | (with_reducible first | exact HB.out | apply below_alloc | apply pw_below_drewN | apply below_drew1 | refine below_set ?_ GE101.out) | exact HB.out))⟩; clear BK101 HB hq_; have BK101 := n0_; have HB := n1_; clear n0_ n1_)); have hcz82_0 : wr.cell? ⟨gb101, 0, none⟩ = some (.int .i64 0) := (blk_cell BK101.out 0).trans rfl; have hcz82_1 : wr.cell? ⟨gb101, 1, none⟩ = some (.string (⟨#[]⟩ : ByteArray)) := (blk_cell BK101.out 1).trans rfl; have hcz82_2 : wr.cell? ⟨gb101, 2, none⟩ = some (.string (⟨#[]⟩ : ByteArray)) := (blk_cell BK101.out 2).trans rfl; have hfz82_0 := blk_frozen BK101.out 0; have hfz82_1 := blk_frozen BK101.out 1; have hfz82_2 := blk_frozen BK101.out 2))
                                          refine bodyPost_ret (results_ct rfl _ _ gb101 32 #[.int .i64 0, .string (⟨#[]⟩ : ByteArray), .string (⟨#[]⟩ : ByteArray)] (0, 0) _ rfl (by (with_reducible repeat (first | refine blk_drewN ?_ _ | refine blk_drew ?_ | refine blk_alloc ?_ _)); refine blk_put (cs := #[.int .i64 0, .string (⟨#[]⟩ : ByteArray), .string (⟨#[]⟩ : ByteArray)]) ?_ 2 _ rfl; (with_reducible repeat (first | refine blk_drewN ?_ _ | refine blk_drew ?_ | refine blk_alloc ?_ _)); refine blk_put (cs := #[.int .i64 0, .string (⟨#[]⟩ : ByteArray), .string (⟨#[]⟩ : ByteArray)]) ?_ 1 _ rfl; (with_reducible repeat (first | refine blk_drewN ?_ _ | refine blk_drew ?_ | refine blk_alloc ?_ _)); refine blk_put (cs := #[.int .i64 0, .string (⟨#[]⟩ : ByteArray), .string (⟨#[]⟩ : ByteArray)]) ?_ 0 _ rfl; (with_reducible repeat (first | refine blk_drewN ?_ _ | refine blk_drew ?_ | refine blk_alloc ?_ _)); exact BK101.out) Tryd.underlying32 rfl (by kernel_rfl)) rfl ?_
                                          exact ⟨by first | rfl | (simp [errW_none, errW_some] <;> rfl) | (simp [*, errW_none, errW_some] <;> rfl), by repeat (first | (with_reducible first | exact HB.out | apply below_alloc | apply pw_below_drewN | apply below_drew1 | refine below_set ?_ GE101.out) | exact HB.out)⟩
                                      · rw [if_neg c71] at H
                                        exact absurd H (by simp)
                                    · rw [if_neg c70] at H
                                      exact absurd H (by simp)
              · rw [if_neg c22] at H
                exact absurd H (by simp)

end Go.Proofs.YtdjmgmiaognncaaDoor.X
namespace Go.Proofs.YtdjmgmiaognncaaDoor.X
open Go.RowKit Go.Proofs.YtdjmgmiaognncaaDoorW.PrintWords Go.Proofs.YtdjmgmiaognncaaDoorW.PrintLast Go.Proofs.YtdjmgmiaognncaaDoorW.PrintMore
attribute [local go_sem] max2_int min2_int max_two min_two max_three min_three max_four min_four   -- for this text's walks alone
set_option linter.unusedVariables false
set_option linter.unusedSimpArgs false

/-! ### pure text 9: lower -/
theorem octet_lower_f (c : UInt8) : octet_lower.f (c.toNat : Int) = some ((lowU c).toNat : Int) := by
  have h := lowU_int c
  have hlt := c.toNat_lt
  unfold octet_lower.f
  rw [h]
  by_cases h1 : 65 ≤ (c.toNat : Int)
  · rw [if_pos (show (c.toNat : Int) ≥ 65 from h1)]
    by_cases h2 : (c.toNat : Int) ≤ 90
    · rw [if_pos h2, if_pos ⟨h1, h2⟩]
      congr 1
      omega
    · rw [if_neg h2, if_neg (fun h => h2 h.2)]
  · rw [if_neg (show ¬ (c.toNat : Int) ≥ 65 from h1), if_neg (fun h => h1 h.1)]


end Go.Proofs.YtdjmgmiaognncaaDoor.X
namespace Go.Proofs.YtdjmgmiaognncaaDoor.X
open Go.RowKit Go.Proofs.YtdjmgmiaognncaaDoorW.PrintWords Go.Proofs.YtdjmgmiaognncaaDoorW.PrintLast Go.Proofs.YtdjmgmiaognncaaDoorW.PrintMore
attribute [local go_sem] max2_int min2_int max_two min_two max_three min_three max_four min_four   -- for this text's walks alone
set_option linter.unusedVariables false
set_option linter.unusedSimpArgs false

/-! ### pure text 2: fold -/
theorem octet_fold_l0 (a b : ByteArray) (hs : a.size ≤ 140737488351232) (hab : b.size = a.size) : ∀ (d i k : Nat), a.size - i = d → i ≤ a.size → d < k →
    octet_Fold.l0 k a b (a.size : Int) (i : Int) = some (lowL (a.data.toList.drop i) == lowL (b.data.toList.drop i)) := by
  intro d
  induction d with
  | zero =>
    intro i k hd hi hk
    obtain ⟨k, rfl⟩ : ∃ m, k = m + 1 := ⟨k - 1, by omega⟩
    obtain rfl : i = a.size := by omega
    simp only [octet_Fold.l0]
    have e1 : a.data.toList.drop a.size = [] := by rw [List.drop_eq_nil_iff, ← size_list]; omega
    have e2 : b.data.toList.drop a.size = [] := by rw [List.drop_eq_nil_iff, ← size_list]; omega
    rw [if_neg (by omega), e1, e2]
    rfl
  | succ d ih =>
    intro i k hd hi hk
    obtain ⟨k, rfl⟩ : ∃ m, k = m + 1 := ⟨k - 1, by omega⟩
    have hla : i < a.data.toList.length := by rw [← size_list]; omega
    have hlb : i < b.data.toList.length := by rw [← size_list]; omega
    have hw : wrap64 ((i : Int) + 1) = ((i + 1 : Nat) : Int) := by rw [wrap_id _ (by omega) (by omega)]; omega
    simp only [octet_Fold.l0]
    rw [if_pos (by omega), if_pos (by omega), if_pos (by omega), bt_list a i hla, octet_lower_f]
    simp only [Option.bind_some]
    rw [if_pos (by omega), bt_list b i hlb, octet_lower_f]
    simp only [Option.bind_some]
    rw [List.drop_eq_getElem_cons hla, List.drop_eq_getElem_cons hlb, hw, ih (i + 1) k (by omega) (by omega) (by omega)]
    unfold lowL
    simp only [List.map_cons]
    by_cases he : lowU (a.data.toList[i]'hla) = lowU (b.data.toList[i]'hlb)
    · rw [if_pos (by rw [he]), he]
      simp
    · rw [if_neg (fun h => he ((u8_eq _ _).1 h))]
      congr 1
      symm
      rw [beq_eq_false_iff_ne]
      intro h
      exact he (List.cons.inj h).1
theorem octet_fold (a b : ByteArray) (hs : a.size ≤ 140737488351232) (k : Nat) (hk : a.size < k) : octet_Fold.f k a b = some (foldB a b) := by
  unfold octet_Fold.f foldB
  by_cases h : (a.size : Int) = (b.size : Int)
  · rw [if_pos h]
    have := octet_fold_l0 a b hs (by omega) a.size 0 k (by omega) (by omega) hk
    simpa using this
  · rw [if_neg h]
    have : ¬ lowL a.data.toList = lowL b.data.toList := by
      intro e
      have := congrArg List.length e
      simp [lowL] at this
      rw [size_list, size_list] at h
      simp at h
      omega
    simp [this]


end Go.Proofs.YtdjmgmiaognncaaDoor.X
namespace Go.Proofs.YtdjmgmiaognncaaDoor.X
open Go.RowKit Go.Proofs.YtdjmgmiaognncaaDoorW.PrintWords Go.Proofs.YtdjmgmiaognncaaDoorW.PrintLast Go.Proofs.YtdjmgmiaognncaaDoorW.PrintMore
attribute [local go_sem] max2_int min2_int max_two min_two max_three min_three max_four min_four   -- for this text's walks alone
set_option linter.unusedVariables false
set_option linter.unusedSimpArgs false

/-! ### pure text 6: trim2 -/
theorem dropE_prefix {α : Type} (p : α → Bool) : ∀ (n : Nat) (l : List α), l.length = n → dropE p l <+: l := by
  intro n
  induction n with
  | zero => intro l hl; obtain rfl := List.eq_nil_of_length_eq_zero hl; exact List.prefix_rfl
  | succ n ih =>
    intro l hl
    rcases snoc_cases l with rfl | ⟨q, c, rfl⟩
    · exact List.prefix_rfl
    · rw [dropE_snoc]
      split
      · exact (ih q (by simpa using hl)).trans (List.prefix_append _ _)
      · exact List.prefix_rfl
theorem dropE_idem {α : Type} (p : α → Bool) : ∀ (n : Nat) (l : List α), l.length = n → dropE p (dropE p l) = dropE p l := by
  intro n
  induction n with
  | zero => intro l hl; obtain rfl := List.eq_nil_of_length_eq_zero hl; rfl
  | succ n ih =>
    intro l hl
    rcases snoc_cases l with rfl | ⟨q, c, rfl⟩
    · rfl
    · rw [dropE_snoc]
      split
      · exact ih q (by simpa using hl)
      · rename_i hc
        rw [dropE_snoc, if_neg hc]
theorem dropWhile_head {α : Type} (p : α → Bool) (l : List α) : ∀ c r, l.dropWhile p = c :: r → p c = false := by
  induction l with
  | nil => intro c r h; simp at h
  | cons x l ih =>
    intro c r h
    rw [List.dropWhile_cons] at h
    split at h
    · exact ih c r h
    · rename_i hx
      injection h with h1 h2
      subst h1
      simpa using hx
theorem trimL_idem (p : List UInt8) : trimL (trimL p) = trimL p := by
  unfold trimL
  obtain ⟨q, hq⟩ : ∃ q, p.dropWhile bl = q := ⟨_, rfl⟩
  have hh := dropWhile_head bl p
  rw [hq] at hh ⊢
  have hp := dropE_prefix bl _ q rfl
  have : (dropE bl q).dropWhile bl = dropE bl q := by
    match he : dropE bl q with
    | [] => rfl
    | c :: r =>
      rw [he] at hp
      obtain ⟨t, ht⟩ := hp
      have := hh c (r ++ t) ht.symm
      rw [List.dropWhile_cons, if_neg (by rw [this]; simp)]
  rw [this, dropE_idem bl _ q rfl]
theorem trimL_blank (c : UInt8) (p : List UInt8) (h : bl c = true) : trimL (c :: p) = trimL p := by
  unfold trimL
  rw [List.dropWhile_cons, if_pos h]


end Go.Proofs.YtdjmgmiaognncaaDoor.X
namespace Go.Proofs.YtdjmgmiaognncaaDoor.X
open Go.RowKit Go.Proofs.YtdjmgmiaognncaaDoorW.PrintWords Go.Proofs.YtdjmgmiaognncaaDoorW.PrintLast Go.Proofs.YtdjmgmiaognncaaDoorW.PrintMore
attribute [local go_sem] max2_int min2_int max_two min_two max_three min_three max_four min_four   -- for this text's walks alone
set_option linter.unusedVariables false
set_option linter.unusedSimpArgs false

/-! ### pure text 8: mk -/
theorem size_mk (l : List UInt8) : (⟨l.toArray⟩ : ByteArray).size = l.length := by simp [ByteArray.size]
theorem bt_mk (l : List UInt8) (i : Nat) (h : i < l.length) : bt ⟨l.toArray⟩ (i : Int) = ((l[i]'h).toNat : Int) := bt_list ⟨l.toArray⟩ i h
theorem ext_mk (l : List UInt8) (a b : Nat) : (⟨l.toArray⟩ : ByteArray).extract a b = ⟨((l.drop a).take (b - a)).toArray⟩ := ext_list ⟨l.toArray⟩ a b
theorem mk_eta (s : ByteArray) : (⟨s.data.toList.toArray⟩ : ByteArray) = s := Lib.mk_data s
theorem toList_inj (a b : ByteArray) : a.toList = b.toList ↔ a = b := by
  constructor
  · intro h
    rw [Lib.toList_data, Lib.toList_data] at h
    obtain ⟨⟨a⟩⟩ := a
    obtain ⟨⟨b⟩⟩ := b
    simp at h
    rw [h]
  · intro h; rw [h]
theorem rd_nat (l : List ByteArray) (i : Nat) (h : i < l.length) : rdOf ByteArray.empty l (i : Int) = l[i]'h := by
  unfold rdOf
  simp [List.getElem?_eq_getElem h]


end Go.Proofs.YtdjmgmiaognncaaDoor.X
namespace Go.Proofs.YtdjmgmiaognncaaDoor.X
open Go.RowKit Go.Proofs.YtdjmgmiaognncaaDoorW.PrintWords Go.Proofs.YtdjmgmiaognncaaDoorW.PrintLast Go.Proofs.YtdjmgmiaognncaaDoorW.PrintMore
attribute [local go_sem] max2_int min2_int max_two min_two max_three min_three max_four min_four   -- for this text's walks alone
set_option linter.unusedVariables false
set_option linter.unusedSimpArgs false

/-! ### pure text 11: refLower -/
theorem strOfNums_map (l : List UInt8) : strOfNums (l.map fun c => (c.toNat : Int)) = ⟨l.toArray⟩ := by
  unfold strOfNums
  rw [List.map_map]
  congr 2
  conv => rhs; rw [← List.map_id l]
  apply List.map_congr_left
  intro c _
  simp
def natsL (l : List UInt8) : List Int := l.map fun c => (c.toNat : Int)
theorem reflower_l0 (s : ByteArray) (hs : s.size ≤ 1000000000) : ∀ (d i k : Nat), s.size - i = d → i ≤ s.size → d < k →
    abutmentref01_Lower.l0 k s (natsL (lowL (s.data.toList.take i))) (i : Int) = some (lowB s) := by
  intro d
  induction d with
  | zero =>
    intro i k hd hi hk
    obtain ⟨k, rfl⟩ : ∃ m, k = m + 1 := ⟨k - 1, by omega⟩
    obtain rfl : i = s.size := by omega
    simp only [abutmentref01_Lower.l0]
    rw [if_neg (by omega), List.take_of_length_le (by rw [← size_list]; omega)]
    unfold natsL lowB
    rw [strOfNums_map]
  | succ d ih =>
    intro i k hd hi hk
    obtain ⟨k, rfl⟩ : ∃ m, k = m + 1 := ⟨k - 1, by omega⟩
    have hl : i < s.data.toList.length := by rw [← size_list]; omega
    have hw : wrap64 ((i : Int) + 1) = ((i + 1 : Nat) : Int) := by rw [wrap_id _ (by omega) (by omega)]; omega
    have hlen : (natsL (lowL (s.data.toList.take i))).length < 140737488355328 := by
      unfold natsL lowL
      simp only [List.length_map, List.length_take]
      omega
    have hnext := ih (i + 1) k (by omega) (by omega) (by omega)
    rw [take_snoc' _ _ hl] at hnext
    have hc := lowU_int (s.data.toList[i]'hl)
    have h256 := (s.data.toList[i]'hl).toNat_lt
    have hsn : natsL (lowL (s.data.toList.take i ++ [s.data.toList[i]'hl])) = natsL (lowL (s.data.toList.take i)) ++ [((lowU (s.data.toList[i]'hl)).toNat : Int)] := by
      unfold natsL lowL; simp
    rw [hsn, hc] at hnext
    simp only [abutmentref01_Lower.l0]
    rw [if_pos (by omega), if_pos (by omega), bt_list s i hl, hw]
    by_cases h1 : 65 ≤ ((s.data.toList[i]'hl).toNat : Int)
    · rw [if_pos (show ((s.data.toList[i]'hl).toNat : Int) ≥ 65 from h1)]
      by_cases h2 : ((s.data.toList[i]'hl).toNat : Int) ≤ 90
      · rw [if_pos h2, if_pos hlen, show (((s.data.toList[i]'hl).toNat : Int) + 32) % 256 = ((s.data.toList[i]'hl).toNat : Int) + 32 by omega]
        rw [if_pos ⟨h1, h2⟩] at hnext
        exact hnext
      · rw [if_neg h2, if_pos hlen]
        rw [if_neg (fun h => h2 h.2)] at hnext
        exact hnext
    · rw [if_neg (show ¬ ((s.data.toList[i]'hl).toNat : Int) ≥ 65 from h1), if_pos hlen]
      rw [if_neg (fun h => h1 h.1)] at hnext
      exact hnext
theorem ref_lower (s : ByteArray) (hs : s.size ≤ 1000000000) (k : Nat) (hk : s.size < k) : abutmentref01_Lower.f k s = some (lowB s) := by
  have := reflower_l0 s hs s.size 0 k (by omega) (by omega) hk
  exact this
theorem lowB_eq (a b : ByteArray) : ((lowB a).toList = (lowB b).toList) ↔ foldB a b = true := by
  unfold lowB foldB
  rw [Lib.toList_data, Lib.toList_data]
  simp


end Go.Proofs.YtdjmgmiaognncaaDoor.X
namespace Go.Proofs.YtdjmgmiaognncaaDoor.X
open Go.RowKit Go.Proofs.YtdjmgmiaognncaaDoorW.PrintWords Go.Proofs.YtdjmgmiaognncaaDoorW.PrintLast Go.Proofs.YtdjmgmiaognncaaDoorW.PrintMore
attribute [local go_sem] max2_int min2_int max_two min_two max_three min_three max_four min_four   -- for this text's walks alone
set_option linter.unusedVariables false
set_option linter.unusedSimpArgs false

/-! ### pure text 20: token -/
theorem get_list (s : ByteArray) (j : Nat) (h : j < s.data.toList.length) : s.get! j = s.data.toList[j]'h := by
  have h2 : j < s.data.size := by simpa using h
  show s.data[j]! = _
  rw [getElem!_pos s.data j h2]
  simp
theorem decode_cont (s : ByteArray) (i k : Nat) (h : (decide (i + k < s.size) && ((s.get! (i + k)).toNat / 64 == 2)) = true) : i + k < s.size ∧ 128 ≤ (s.get! (i + k)).toNat := by
  rw [Bool.and_eq_true, decide_eq_true_eq, beq_iff_eq] at h
  omega
/-- The octets of a rune beyond ASCII are all beyond ASCII. -/
theorem decode_bytes (s : ByteArray) (i : Nat) (hi : i < s.size) (hb : 128 ≤ (s.get! i).toNat) : ∀ j, i ≤ j → j < i + (Utf8.decode s i).2 → j < s.size ∧ 128 ≤ (s.get! j).toNat := by
  intro j h1 h2
  have h0 : ¬ (s.get! (i + 0)).toNat < 128 := by simp; omega
  have one : j < i + 1 → j < s.size ∧ 128 ≤ (s.get! j).toNat := fun h => by
    obtain rfl : j = i := by omega
    exact ⟨hi, hb⟩
  unfold Utf8.decode at h2
  simp only [if_neg h0] at h2
  split at h2
  · rename_i hc
    rw [Bool.and_eq_true] at hc
    have c1 := decode_cont s i 1 hc.2
    split at h2
    · by_cases e : j = i
      · exact one (by omega)
      · obtain rfl : j = i + 1 := by simp only at h2; omega
        exact c1
    · exact one h2
  · split at h2
    · rename_i hc
      rw [Bool.and_eq_true, Bool.and_eq_true] at hc
      have c1 := decode_cont s i 1 hc.1.2
      have c2 := decode_cont s i 2 hc.2
      split at h2
      · by_cases e : j = i
        · exact one (by omega)
        · by_cases e1 : j = i + 1
          · subst e1; exact c1
          · obtain rfl : j = i + 2 := by simp only at h2; omega
            exact c2
      · exact one h2
    · split at h2
      · rename_i hc
        rw [Bool.and_eq_true, Bool.and_eq_true, Bool.and_eq_true] at hc
        have c1 := decode_cont s i 1 hc.1.1.2
        have c2 := decode_cont s i 2 hc.1.2
        have c3 := decode_cont s i 3 hc.2
        split at h2
        · by_cases e : j = i
          · exact one (by omega)
          · by_cases e1 : j = i + 1
            · subst e1; exact c1
            · by_cases e2 : j = i + 2
              · subst e2; exact c2
              · obtain rfl : j = i + 3 := by simp only at h2; omega
                exact c3
        · exact one h2
      · exact one h2
theorem allR_from (p : Nat → Bool) (b : Bool) (hp : ∀ r, 128 ≤ r → p r = b) (s : ByteArray) : ∀ (f pos : Nat), s.size ≤ pos + f → pos ≤ s.size → allRFrom p s f pos = (s.data.toList.drop pos).all fun c => p c.toNat := by
  intro f
  induction f with
  | zero =>
    intro pos hf hpos
    rw [List.drop_eq_nil_iff.2 (by rw [← size_list]; omega)]
    rfl
  | succ f ih =>
    intro pos hf hpos
    simp only [allRFrom]
    by_cases h : pos < s.size
    · rw [if_pos h]
      have hl : pos < s.data.toList.length := by rw [← size_list]; exact h
      have hg := get_list s pos hl
      by_cases ha : (s[pos]'h).toNat < 128
      · have hb2 : s[pos]'h = s.data.toList[pos]'hl := by simp; rfl
        rw [decode_ascii s pos h ha, List.drop_eq_getElem_cons hl, List.all_cons, ← hb2]
        simp only
        rw [ih (pos + 1) (by omega) (by omega)]
        cases p (s[pos]'h).toNat <;> simp
      · have hhi := decode_high s pos h (by omega)
        have hb2 : s[pos]'h = s.data.toList[pos]'hl := by simp; rfl
        have hge : 128 ≤ (s.get! pos).toNat := by rw [hg, ← hb2]; omega
        have hbs := decode_bytes s pos h hge
        obtain ⟨K, hK⟩ : ∃ K, (Utf8.decode s pos).2 = K := ⟨_, rfl⟩
        rw [hK] at hbs hhi ⊢
        rw [hp _ hhi.1]
        cases b
        · rw [if_neg (by simp), List.drop_eq_getElem_cons hl, List.all_cons, hp _ (by rw [← hb2]; omega)]
          rfl
        · have hKs : pos + K ≤ s.size := by
            have := (hbs (pos + K - 1) (by omega) (by omega)).1
            omega
          rw [if_pos rfl, ih (pos + K) (by omega) hKs]
          have : ∀ n, n ≤ K → ((s.data.toList.drop pos).all fun c => p c.toNat) = ((s.data.toList.drop (pos + n)).all fun c => p c.toNat) := by
            intro n
            induction n with
            | zero => intro _; rfl
            | succ n ihn =>
              intro hn
              have hj := hbs (pos + n) (by omega) (by omega)
              have hlj : pos + n < s.data.toList.length := by rw [← size_list]; exact hj.1
              rw [ihn (by omega), List.drop_eq_getElem_cons hlj, List.all_cons, ← get_list s (pos + n) hlj, hp _ hj.2]
              rfl
          exact (this K (Nat.le_refl _)).symm
    · rw [if_neg h, List.drop_eq_nil_iff.2 (by rw [← size_list]; omega)]
      rfl
theorem allR_list (p : Nat → Bool) (b : Bool) (hp : ∀ r, 128 ≤ r → p r = b) (s : ByteArray) : allR p s = s.data.toList.all fun c => p c.toNat := by
  have := allR_from p b hp s s.size 0 (by omega) (by omega)
  simpa [allR] using this


end Go.Proofs.YtdjmgmiaognncaaDoor.X
namespace Go.Proofs.YtdjmgmiaognncaaDoor.X
open Go.RowKit Go.Proofs.YtdjmgmiaognncaaDoorW.PrintWords Go.Proofs.YtdjmgmiaognncaaDoorW.PrintLast Go.Proofs.YtdjmgmiaognncaaDoorW.PrintMore
attribute [local go_sem] max2_int min2_int max_two min_two max_three min_three max_four min_four   -- for this text's walks alone
set_option linter.unusedVariables false
set_option linter.unusedSimpArgs false

/-! ### pure text 36: number -/
theorem digR_high (r : Nat) (h : 128 ≤ r) : digR r = -1 := by unfold digR; rw [if_neg (by omega), if_neg (by omega), if_neg (by omega)]
/-- digits.number over a list of octets. -/
def numL (base most : Int) : List UInt8 → Int → Bool → Int × Int
  | [], n, ov => if ov = true then (0, 5) else (n, 0)
  | c :: l, n, ov => if digR c.toNat < 0 ∨ base ≤ digR c.toNat then (0, 3) else numL base most l (if stepO base most n ov (digR c.toNat) = true then n else n * base + digR c.toNat) (stepO base most n ov (digR c.toNat))
theorem numFrom_list (base most : Int) (s : ByteArray) : ∀ (f pos : Nat) (n : Int) (ov : Bool), s.size ≤ pos + f → pos ≤ s.size → numFrom base most s f pos n ov = numL base most (s.data.toList.drop pos) n ov := by
  intro f
  induction f with
  | zero =>
    intro pos n ov hf hpos
    rw [List.drop_eq_nil_iff.2 (by rw [← size_list]; omega)]
    rfl
  | succ f ih =>
    intro pos n ov hf hpos
    by_cases h : pos < s.size
    · have hl : pos < s.data.toList.length := by rw [← size_list]; exact h
      simp only [numFrom]
      rw [if_pos h]
      have hb2 : s[pos]'h = s.data.toList[pos]'hl := by simp; rfl
      by_cases ha : (s[pos]'h).toNat < 128
      · rw [decode_ascii s pos h ha, List.drop_eq_getElem_cons hl]
        simp only [numL]
        rw [← hb2]
        by_cases hd : digR (s[pos]'h).toNat < 0 ∨ base ≤ digR (s[pos]'h).toNat
        · rw [if_pos hd, if_pos hd]
        · rw [if_neg hd, if_neg hd, ih (pos + 1) _ _ (by omega) (by omega)]
      · have hhi := decode_high s pos h (by omega)
        rw [digR_high _ hhi.1, if_pos (.inl (by decide)), List.drop_eq_getElem_cons hl]
        simp only [numL]
        rw [← hb2, digR_high _ (by omega), if_pos (.inl (by decide))]
    · rw [numFrom_end base most s (f + 1) pos n ov h, List.drop_eq_nil_iff.2 (by rw [← size_list]; omega)]
      rfl
def dOk (base : Int) (c : UInt8) : Bool := decide (0 ≤ digR c.toNat) && decide (digR c.toNat < base)
def valL (base : Int) (l : List UInt8) (n : Int) : Int := l.foldl (fun n c => n * base + digR c.toNat) n
theorem valL_cons (base : Int) (c : UInt8) (l : List UInt8) (n : Int) : valL base (c :: l) n = valL base l (n * base + digR c.toNat) := rfl
theorem dOk_iff (base : Int) (c : UInt8) : dOk base c = true ↔ 0 ≤ digR c.toNat ∧ digR c.toNat < base := by unfold dOk; rw [Bool.and_eq_true, decide_eq_true_iff, decide_eq_true_iff]
theorem valL_ge (base : Int) (hb : 1 ≤ base) : ∀ (l : List UInt8) (n : Int), l.all (dOk base) = true → 0 ≤ n → n ≤ valL base l n := by
  intro l
  induction l with
  | nil => intro n _ _; exact Int.le_refl _
  | cons c l ih =>
    intro n hl hn
    rw [List.all_cons, Bool.and_eq_true, dOk_iff] at hl
    rw [valL_cons]
    have h1 : n ≤ n * base := by have := Int.mul_le_mul_of_nonneg_left hb hn; omega
    have := ih (n * base + digR c.toNat) hl.2 (by omega)
    omega
theorem stepO_iff (base most n d : Int) (hb : 0 < base) (hn : 0 ≤ n) (hd : 0 ≤ d) : stepO base most n false d = decide (most < n * base + d) := by
  unfold stepO
  have hnb : 0 ≤ n * base := Int.mul_nonneg hn (by omega)
  have hdiv : (most - d) / base < n ↔ most - d < n * base := Int.ediv_lt_iff_lt_mul hb
  rw [Bool.false_or, Bool.eq_iff_iff, Bool.or_eq_true, decide_eq_true_iff, decide_eq_true_iff, decide_eq_true_iff, hdiv]
  omega
theorem numL_spec (base most : Int) (hb : 1 ≤ base) : ∀ (l : List UInt8) (n : Int) (ov : Bool), 0 ≤ n → n ≤ most →
    numL base most l n ov = if l.all (dOk base) = true then (if ov = true then (0, 5) else if valL base l n ≤ most then (valL base l n, 0) else (0, 5)) else (0, 3) := by
  intro l
  induction l with
  | nil =>
    intro n ov hn hm
    simp only [numL]
    rw [if_pos (show ([] : List UInt8).all (dOk base) = true from rfl)]
    cases ov with
    | true => rfl
    | false => rw [if_neg (by simp), if_neg (by simp), if_pos (show valL base [] n ≤ most from hm)]; rfl
  | cons c l ih =>
    intro n ov hn hm
    simp only [numL]
    by_cases hd : digR c.toNat < 0 ∨ base ≤ digR c.toNat
    · rw [if_pos hd, if_neg]
      rw [List.all_cons, Bool.and_eq_true, dOk_iff]
      omega
    · rw [if_neg hd]
      have hok : dOk base c = true := (dOk_iff base c).2 (by omega)
      have hall : (c :: l).all (dOk base) = l.all (dOk base) := by rw [List.all_cons, hok, Bool.true_and]
      rw [hall, valL_cons]
      cases ov with
      | true =>
        rw [show stepO base most n true (digR c.toNat) = true from rfl, if_pos rfl, ih n true hn hm]
        simp
      | false =>
        have hnb : 0 ≤ n * base := Int.mul_nonneg hn (by omega)
        rw [stepO_iff base most n _ (by omega) hn (by omega)]
        by_cases hs : most < n * base + digR c.toNat
        · rw [decide_eq_true hs, if_pos rfl, ih n true hn hm, if_pos rfl]
          by_cases ha : l.all (dOk base) = true
          · have := valL_ge base hb l (n * base + digR c.toNat) ha (by omega)
            rw [if_pos ha, if_pos ha, if_neg (by simp), if_neg (by omega)]
          · rw [if_neg ha, if_neg ha]
        · rw [decide_eq_false hs, if_neg (by simp), ih _ false (by omega) (by omega)]
theorem numberB_spec (s : ByteArray) (base most : Int) (hb : 1 ≤ base) (hm : 0 ≤ most) : numberB s base most = if s.data.toList = [] then (0, 2) else if s.data.toList.all (dOk base) = true then (if valL base s.data.toList 0 ≤ most then (valL base s.data.toList 0, 0) else (0, 5)) else (0, 3) := by
  unfold numberB
  rw [Lib.toList_data]
  by_cases h : s.data.toList = []
  · rw [if_pos h, if_pos h]
  · rw [if_neg h, if_neg h, numFrom_list base most s s.size 0 0 false (by omega) (by omega), List.drop_zero, numL_spec base most hb _ 0 false (by omega) hm]
    rw [if_neg (show ¬ (false = true) by simp)]
def valR (c : UInt8) : Int := if digR c.toNat = -1 then 99 else digR c.toNat
theorem value_f (c : UInt8) (k : Nat) (hk : 2 < k) : abutmentref02_Value.f k (c.toNat : Int) = some (valR c) := by
  have hlt := c.toNat_lt
  have hid : wrap64 (c.toNat : Int) = (c.toNat : Int) := wrap_id _ (by omega) (by omega)
  obtain ⟨k, rfl⟩ : ∃ m, k = m + 2 := ⟨k - 2, by omega⟩
  unfold abutmentref02_Value.f valR digR
  by_cases h1 : 48 ≤ c.toNat ∧ c.toNat ≤ 57
  · rw [if_pos (by omega), if_pos h1, decide_eq_true (by omega), if_neg (by omega)]
    simp only [abutmentref02_Value.j0, if_true]
    rw [hid, wrap_id _ (by omega) (by omega)]
  · rw [if_neg h1]
    have e0 : (if (c.toNat : Int) ≥ 48 then abutmentref02_Value.j0 (k + 2) (c.toNat : Int) (decide ((c.toNat : Int) ≤ 57)) else abutmentref02_Value.j0 (k + 2) (c.toNat : Int) false) = abutmentref02_Value.j0 (k + 2) (c.toNat : Int) false := by
      by_cases h : (c.toNat : Int) ≥ 48
      · rw [if_pos h, decide_eq_false (by omega)]
      · rw [if_neg h]
    rw [e0]
    simp only [abutmentref02_Value.j0]
    rw [if_neg (by simp)]
    by_cases h3 : 65 ≤ c.toNat ∧ c.toNat ≤ 70
    · have hd : (if 97 ≤ c.toNat ∧ c.toNat ≤ 102 then (c.toNat : Int) - 87 else if 65 ≤ c.toNat ∧ c.toNat ≤ 70 then (c.toNat : Int) - 55 else -1) = (c.toNat : Int) - 55 := by rw [if_neg (by omega), if_pos h3]
      rw [hd, if_pos (by omega), decide_eq_true (by omega), if_neg (by omega)]
      simp only [abutmentref02_Value.j1, if_true]
      rw [hid, wrap_id _ (by omega) (by omega)]
    · have hd : (if 97 ≤ c.toNat ∧ c.toNat ≤ 102 then (c.toNat : Int) - 87 else if 65 ≤ c.toNat ∧ c.toNat ≤ 70 then (c.toNat : Int) - 55 else -1) = (if 97 ≤ c.toNat ∧ c.toNat ≤ 102 then (c.toNat : Int) - 87 else -1) := by rw [if_neg h3]
      rw [hd]
      have e1 : (if (c.toNat : Int) ≥ 65 then abutmentref02_Value.j1 (k + 1) (c.toNat : Int) (decide ((c.toNat : Int) ≤ 70)) else abutmentref02_Value.j1 (k + 1) (c.toNat : Int) false) = abutmentref02_Value.j1 (k + 1) (c.toNat : Int) false := by
        by_cases h : (c.toNat : Int) ≥ 65
        · rw [if_pos h, decide_eq_false (by omega)]
        · rw [if_neg h]
      rw [e1]
      simp only [abutmentref02_Value.j1]
      rw [if_neg (by simp)]
      by_cases h2 : 97 ≤ c.toNat ∧ c.toNat ≤ 102
      · rw [if_pos h2, if_pos (by omega), if_pos (by omega), if_neg (by omega), hid, wrap_id _ (by omega) (by omega)]
      · rw [if_neg h2]
        by_cases h4 : 97 ≤ c.toNat
        · rw [if_pos (by omega), if_neg (by omega)]; rfl
        · rw [if_neg (by omega)]; rfl
theorem valR_ok (c : UInt8) : (valR c ≥ 10) ↔ ¬ dOk 10 c = true := by
  rw [dOk_iff]
  have := digR_bounds c.toNat
  unfold valR
  split <;> omega
theorem valR_dig (c : UInt8) (h : dOk 10 c = true) : valR c = digR c.toNat := by
  rw [dOk_iff] at h
  unfold valR
  rw [if_neg (by omega)]
def outN (most : Int) (l : List UInt8) : Int × Int := if valL 10 l 0 ≤ most then (valL 10 l 0, 0) else (0, 5)
theorem refnum_l2 (most : Int) (hm0 : 0 ≤ most) (hm1 : most ≤ 1152921504606846975) (l : List UInt8) (hl : l.length ≤ 19) (hok : l.all (dOk 10) = true) : ∀ (d i k : Nat), l.length - i = d → i ≤ l.length → d + 3 < k → 0 ≤ valL 10 (l.take i) 0 →
    abutmentref02_Number.l2 k ⟨l.toArray⟩ 10 most (valL 10 (l.take i) 0) (i : Int) = some (outN most l) := by
  intro d
  induction d with
  | zero =>
    intro i k hd hi hk h0
    obtain ⟨k, rfl⟩ : ∃ m, k = m + 1 := ⟨k - 1, by omega⟩
    simp only [abutmentref02_Number.l2]
    rw [if_neg (by rw [size_mk]; omega), if_neg (by omega), List.take_of_length_le (by omega), show IntKind.u64.wrap most = most from by simp [IntKind.wrap, IntKind.bits, IntKind.signed]; omega]
    rw [List.take_of_length_le (by omega)] at h0
    unfold outN
    by_cases h : valL 10 l 0 ≤ most
    · rw [if_neg (by omega), if_pos h, wrap_id _ (by omega) (by omega)]
    · rw [if_pos (by omega), if_neg h]
  | succ d ih =>
    intro i k hd hi hk h0
    obtain ⟨k, rfl⟩ : ∃ m, k = m + 1 := ⟨k - 1, by omega⟩
    have hlt : i < l.length := by omega
    have hw : wrap64 ((i : Int) + 1) = ((i + 1 : Nat) : Int) := by rw [wrap_id _ (by omega) (by omega)]; omega
    have hsplit : valL 10 l 0 = valL 10 (l.drop i) (valL 10 (l.take i) 0) := by
      unfold valL
      rw [← List.foldl_append, List.take_append_drop]
    have hnext : valL 10 (l.take (i + 1)) 0 = valL 10 (l.take i) 0 * 10 + digR (l[i]'hlt).toNat := by
      unfold valL
      rw [← List.take_append_getElem hlt, List.foldl_append]
      rfl
    have hokd : (l.drop i).all (dOk 10) = true := by
      rw [List.all_eq_true] at hok ⊢
      exact fun x hx => hok x (List.mem_of_mem_drop hx)
    have hoki : dOk 10 (l[i]'hlt) = true := (List.all_eq_true.1 hok) _ (List.getElem_mem hlt)
    have hdi := (dOk_iff 10 _).1 hoki
    simp only [abutmentref02_Number.l2]
    rw [if_pos (by rw [size_mk]; omega)]
    by_cases hbig : valL 10 (l.take i) 0 > 1152921504606846975
    · rw [if_pos hbig]
      have := valL_ge 10 (by omega) (l.drop i) _ hokd h0
      unfold outN
      rw [if_neg (by omega)]
    · rw [if_neg hbig, if_pos (by omega), bt_mk l i hlt, value_f _ k (by omega)]
      simp only [Option.bind_some]
      have hin := ih (i + 1) k (by omega) (by omega) (by omega) (by rw [hnext]; omega)
      rw [hnext] at hin
      rw [valR_dig _ hoki, hw, show IntKind.u64.wrap (10 : Int) = 10 from by decide]
      have hu : ∀ x : Int, 0 ≤ x → x ≤ 18446744073709551615 → IntKind.u64.wrap x = x := by
        intro x h1 h2
        simp [IntKind.wrap, IntKind.bits, IntKind.signed]
        omega
      rw [hu (valL 10 (l.take i) 0 * 10) (by omega) (by omega), hu (digR (l[i]'hlt).toNat) (by omega) (by omega), hu (valL 10 (l.take i) 0 * 10 + digR (l[i]'hlt).toNat) (by omega) (by omega)]
      exact hin
theorem valL_pow (j : Nat) : ∀ (r : List UInt8) (n : Int), r.all (dOk 10) = true → 0 ≤ n → j ≤ r.length → n * 10 ^ j ≤ valL 10 r n := by
  induction j with
  | zero => intro r n hr hn _; have := valL_ge 10 (by omega) r n hr hn; simpa using this
  | succ j ih =>
    intro r n hr hn hj
    cases r with
    | nil => simp at hj
    | cons c r =>
      rw [List.all_cons, Bool.and_eq_true, dOk_iff] at hr
      rw [valL_cons]
      have h1 := ih r (n * 10 + digR c.toNat) hr.2 (by omega) (by simpa using hj)
      have h2 : n * 10 ^ (j + 1) ≤ (n * 10 + digR c.toNat) * 10 ^ j := by
        rw [Int.pow_succ, Int.add_mul, Int.mul_comm ((10 : Int) ^ j) 10, ← Int.mul_assoc]
        have : 0 ≤ digR c.toNat * 10 ^ j := Int.mul_nonneg hr.1.1 (Int.pow_nonneg (by omega))
        omega
      omega
theorem refnum_j2 (most : Int) (hm0 : 0 ≤ most) (hm1 : most ≤ 1152921504606846975) (l : List UInt8) (hok : l.all (dOk 10) = true) (hz : 1 < l.length → ∃ c r, l = c :: r ∧ 1 ≤ digR c.toNat) (k : Nat) (hk : 30 < k) : abutmentref02_Number.j2 k ⟨l.toArray⟩ 10 most = some (outN most l) := by
  obtain ⟨k, rfl⟩ : ∃ m, k = m + 1 := ⟨k - 1, by omega⟩
  simp only [abutmentref02_Number.j2]
  by_cases h : l.length ≤ 19
  · rw [if_neg (by rw [size_mk]; omega)]
    exact refnum_l2 most hm0 hm1 l h hok l.length 0 k (by omega) (by omega) (by omega) (by simp [valL])
  · rw [if_pos (by rw [size_mk]; omega)]
    obtain ⟨c, r, rfl, hc⟩ := hz (by omega)
    rw [List.all_cons, Bool.and_eq_true] at hok
    have := valL_pow 19 r (0 * 10 + digR c.toNat) hok.2 (by omega) (by simp at h; omega)
    have h10 : (10 : Int) ^ 19 = 10000000000000000000 := by decide
    rw [h10] at this
    unfold outN
    rw [valL_cons, if_neg (by omega)]
theorem refnum_l1 (most : Int) (hm0 : 0 ≤ most) (hm1 : most ≤ 1152921504606846975) : ∀ (n : Nat) (l : List UInt8) (k : Nat), l.length = n → l.length ≤ 1000000 → l.all (dOk 10) = true → n + 40 < k → abutmentref02_Number.l1 k ⟨l.toArray⟩ 10 most = some (outN most l) := by
  intro n
  induction n with
  | zero =>
    intro l k hl _ hok hk
    obtain ⟨k, rfl⟩ : ∃ m, k = m + 1 := ⟨k - 1, by omega⟩
    simp only [abutmentref02_Number.l1]
    rw [if_neg (by rw [size_mk]; omega)]
    exact refnum_j2 most hm0 hm1 l hok (fun h => by omega) k (by omega)
  | succ n ih =>
    intro l k hl hle hok hk
    obtain ⟨k, rfl⟩ : ∃ m, k = m + 1 := ⟨k - 1, by omega⟩
    simp only [abutmentref02_Number.l1]
    by_cases h1 : 1 < l.length
    · rw [if_pos (by rw [size_mk]; omega), if_pos (by rw [size_mk]; omega)]
      cases l with
      | nil => simp at h1
      | cons c r =>
        have hb := bt_mk (c :: r) 0 (by simp)
        rw [show ((0 : Nat) : Int) = 0 from rfl] at hb
        rw [hb]
        rw [List.all_cons, Bool.and_eq_true] at hok
        have h48 : ((c.toNat : Int) = 48) ↔ c = 48 := u8_eq c 48
        by_cases hc : c = 48
        · subst hc
          rw [if_pos (by rfl), if_pos (by rw [size_mk]; omega), ext_mk, size_mk, show List.take ((48 :: r).length - 1) (List.drop 1 ((48 : UInt8) :: r)) = r from by simp]
          rw [ih r k (by simpa using hl) (by simp at hle; omega) hok.2 (by omega)]
          rfl
        · rw [if_neg (show ¬ (((c :: r)[0]'(by simp)).toNat : Int) = 48 from fun h => hc (h48.1 h))]
          refine refnum_j2 most hm0 hm1 (c :: r) (by rw [List.all_cons, hok.1, hok.2]; rfl) (fun _ => ⟨c, r, rfl, ?_⟩) k (by omega)
          have hd := (dOk_iff 10 c).1 hok.1
          have : digR c.toNat ≠ 0 := by
            intro h0
            unfold digR at h0
            have hlt := c.toNat_lt
            split at h0
            · exact hc (h48.1 (by omega))
            · split at h0
              · omega
              · split at h0
                · omega
                · omega
          omega
    · rw [if_neg (by rw [size_mk]; omega)]
      exact refnum_j2 most hm0 hm1 l hok (fun h => absurd h h1) k (by omega)
theorem refnum_l0 (most : Int) (hm0 : 0 ≤ most) (hm1 : most ≤ 1152921504606846975) (l : List UInt8) (hl : l.length ≤ 1000000) : ∀ (d i k : Nat), l.length - i = d → i ≤ l.length → d + l.length + 60 < k → (l.take i).all (dOk 10) = true →
    abutmentref02_Number.l0 k ⟨l.toArray⟩ 10 most (i : Int) = some (if l.all (dOk 10) = true then outN most l else (0, 3)) := by
  intro d
  induction d with
  | zero =>
    intro i k hd hi hk hok
    obtain ⟨k, rfl⟩ : ∃ m, k = m + 1 := ⟨k - 1, by omega⟩
    rw [List.take_of_length_le (by omega)] at hok
    simp only [abutmentref02_Number.l0]
    rw [if_neg (by rw [size_mk]; omega), if_pos hok]
    exact refnum_l1 most hm0 hm1 l.length l k rfl hl hok (by omega)
  | succ d ih =>
    intro i k hd hi hk hok
    obtain ⟨k, rfl⟩ : ∃ m, k = m + 1 := ⟨k - 1, by omega⟩
    have hlt : i < l.length := by omega
    have hw : wrap64 ((i : Int) + 1) = ((i + 1 : Nat) : Int) := by rw [wrap_id _ (by omega) (by omega)]; omega
    simp only [abutmentref02_Number.l0]
    rw [if_pos (by rw [size_mk]; omega), if_pos (by omega), bt_mk l i hlt, value_f _ k (by omega)]
    simp only [Option.bind_some]
    by_cases hc : dOk 10 (l[i]'hlt) = true
    · rw [if_neg (fun h => (valR_ok _).1 h hc), hw]
      exact ih (i + 1) k (by omega) (by omega) (by omega) (by rw [← List.take_append_getElem hlt, List.all_append, hok]; simp [hc])
    · rw [if_pos ((valR_ok _).2 hc), if_neg (fun h => hc ((List.all_eq_true.1 h) _ (List.getElem_mem hlt)))]
theorem ref_numberM (most : Int) (hm0 : 0 ≤ most) (hm1 : most ≤ 1152921504606846975) (s : ByteArray) (hs : s.size ≤ 1000000) (k : Nat) (hk : 2 * s.size + 60 < k) : abutmentref02_Number.f k s 10 most = some (numberB s 10 most) := by
  have hsl := size_list s
  rw [numberB_spec s 10 most (by omega) (by omega)]
  unfold abutmentref02_Number.f
  by_cases h : s.data.toList = []
  · have e0 : s.size = 0 := by rw [hsl, h]; rfl
    rw [if_pos h, if_pos (by omega)]
  · have hp : 0 < s.data.toList.length := List.length_pos_iff.2 h
    rw [if_neg h, if_neg (by omega)]
    have := refnum_l0 most hm0 hm1 s.data.toList (by omega) s.data.toList.length 0 k (by omega) (by omega) (by omega) (by rfl)
    rw [mk_eta] at this
    exact this
theorem ref_number (s : ByteArray) (hs : s.size ≤ 1000000) (k : Nat) (hk : 2 * s.size + 60 < k) : abutmentref02_Number.f k s 10 1073741824 = some (numberB s 10 1073741824) := ref_numberM 1073741824 (by omega) (by omega) s hs k hk


end Go.Proofs.YtdjmgmiaognncaaDoor.X
namespace Go.Proofs.YtdjmgmiaognncaaDoor.X
open Go.RowKit Go.Proofs.YtdjmgmiaognncaaDoorW.PrintWords Go.Proofs.YtdjmgmiaognncaaDoorW.PrintLast Go.Proofs.YtdjmgmiaognncaaDoorW.PrintMore
attribute [local go_sem] max2_int min2_int max_two min_two max_three min_three max_four min_four   -- for this text's walks alone
set_option linter.unusedVariables false
set_option linter.unusedSimpArgs false

/-! ### pure text 50: host -/
theorem hexR_high (r : Nat) (h : 128 ≤ r) : hexR r = false := by unfold hexR; simp; omega
theorem plainR_high (r : Nat) (h : 128 ≤ r) : plainR r = false := by unfold plainR signR; simp; omega
/-- host.registered over a list of octets. -/
def regGo : List UInt8 → Nat → Bool
  | [], left => decide (left = 0)
  | c :: l, left => if 0 < left then (if hexR c.toNat = true then regGo l (left - 1) else false) else if c.toNat = 37 then regGo l 2 else if plainR c.toNat = true then regGo l 0 else false
theorem regFrom_list (s : ByteArray) : ∀ (f pos left : Nat), s.size ≤ pos + f → pos ≤ s.size → regFrom s f pos left = regGo (s.data.toList.drop pos) left := by
  intro f
  induction f with
  | zero =>
    intro pos left hf hpos
    rw [List.drop_eq_nil_iff.2 (by rw [← size_list]; omega)]
    rfl
  | succ f ih =>
    intro pos left hf hpos
    by_cases h : pos < s.size
    · have hl : pos < s.data.toList.length := by rw [← size_list]; exact h
      simp only [regFrom]
      rw [if_pos h]
      have hb2 : s[pos]'h = s.data.toList[pos]'hl := by simp; rfl
      rw [List.drop_eq_getElem_cons hl]
      simp only [regGo]
      rw [← hb2]
      by_cases ha : (s[pos]'h).toNat < 128
      · rw [decode_ascii s pos h ha, ih (pos + 1) _ (by omega) (by omega), ih (pos + 1) _ (by omega) (by omega), ih (pos + 1) _ (by omega) (by omega)]
      · have hhi := decode_high s pos h (by omega)
        rw [hexR_high _ hhi.1, plainR_high _ hhi.1, hexR_high _ (by omega), plainR_high _ (by omega), if_neg (show ¬ (Utf8.decode s pos).1 = 37 from by have := hhi.1; omega), if_neg (show ¬ (s[pos]'h).toNat = 37 from by omega)]
        rfl
    · rw [regFrom_end s (f + 1) pos left h, List.drop_eq_nil_iff.2 (by rw [← size_list]; omega)]
      rfl
theorem registered_list (s : ByteArray) : registeredB s = (!s.data.toList.isEmpty && regGo s.data.toList 0) := by
  unfold registeredB
  rw [regFrom_list s s.size 0 0 (by omega) (by omega), Lib.toList_data, List.drop_zero]
theorem litR_high (r : Nat) (h : 128 ≤ r) : litR r = false := by unfold litR; rw [hexR_high r h]; simp; omega
def litp (c : UInt8) : Bool := litR c.toNat
theorem litFrom_false (s : ByteArray) : ∀ (f pos : Nat), litFrom s f pos false = false := by
  intro f
  induction f with
  | zero => intro pos; rfl
  | succ f ih =>
    intro pos
    simp only [litFrom, Bool.false_and, ih]
    split <;> rfl
theorem litFrom_list (s : ByteArray) : ∀ (f pos : Nat) (ok : Bool), s.size ≤ pos + f → pos ≤ s.size → litFrom s f pos ok = (ok && (s.data.toList.drop pos).all litp) := by
  intro f
  induction f with
  | zero =>
    intro pos ok hf hpos
    rw [List.drop_eq_nil_iff.2 (by rw [← size_list]; omega)]
    simp [litFrom]
  | succ f ih =>
    intro pos ok hf hpos
    by_cases h : pos < s.size
    · have hl : pos < s.data.toList.length := by rw [← size_list]; exact h
      simp only [litFrom]
      rw [if_pos h]
      have hb2 : s[pos]'h = s.data.toList[pos]'hl := by simp; rfl
      rw [List.drop_eq_getElem_cons hl, List.all_cons, ← hb2]
      by_cases ha : (s[pos]'h).toNat < 128
      · rw [decode_ascii s pos h ha, ih (pos + 1) _ (by omega) (by omega), Bool.and_assoc]
        rfl
      · have hhi := decode_high s pos h (by omega)
        rw [litR_high _ hhi.1, Bool.and_false, litFrom_false, show litp (s[pos]'h) = false from litR_high _ (by omega)]
        simp
    · rw [litFrom_end s (f + 1) pos ok h, List.drop_eq_nil_iff.2 (by rw [← size_list]; omega)]
      simp
theorem litIn1_list (s : ByteArray) : (litIn1 s).data.toList = Lib.trimPrefix s.data.toList [91] := by simp [litIn1]
theorem litIn_list (s : ByteArray) : (litIn s).data.toList = Lib.trimSuffix (Lib.trimPrefix s.data.toList [91]) [93] := by simp [litIn, litIn1]
/-- host.literal: a text is a literal only if it is one. -/
theorem literal_list (s : ByteArray) : literalB s = true ↔ ∃ w : List UInt8, w ≠ [] ∧ w.all litp = true ∧ s.data.toList = 91 :: (w ++ [93]) := by
  unfold literalB
  rw [litFrom_list _ _ 0 _ (by omega) (by omega), List.drop_zero, Lib.toList_data, litIn_list, litIn1_list]
  generalize s.data.toList = l
  unfold Lib.trimPrefix Lib.trimSuffix Lib.hasPrefix Lib.hasSuffix
  constructor
  · intro h
    rw [Bool.and_eq_true, Bool.and_eq_true, Bool.and_eq_true] at h
    obtain ⟨⟨hp, ha⟩, hs, he⟩ := h
    rw [if_pos hp] at ha hs he
    rw [if_pos hs] at ha he
    rw [List.isPrefixOf_iff_prefix] at hp
    obtain ⟨r, hr⟩ := hp
    subst hr
    have e3 : (([91] : List UInt8) ++ r).drop ([91] : List UInt8).length = r := rfl
    rw [e3] at ha hs he
    rw [List.isSuffixOf_iff_suffix] at hs
    obtain ⟨w, hw⟩ := hs
    subst hw
    have e4 : (w ++ ([93] : List UInt8)).take ((w ++ ([93] : List UInt8)).length - ([93] : List UInt8).length) = w := by simp
    rw [e4] at ha he
    exact ⟨w, by intro h; subst h; simp at he, ha, rfl⟩
  · rintro ⟨w, hw, ha, rfl⟩
    have e1 : ([91] : List UInt8).isPrefixOf (91 :: (w ++ [93])) = true := by rw [List.isPrefixOf_iff_prefix]; exact ⟨w ++ [93], rfl⟩
    have e2 : ([93] : List UInt8).isSuffixOf (w ++ [93]) = true := by rw [List.isSuffixOf_iff_suffix]; exact ⟨w, rfl⟩
    have e3 : ((91 : UInt8) :: (w ++ [93])).drop ([91] : List UInt8).length = w ++ [93] := rfl
    have e4 : (w ++ ([93] : List UInt8)).take ((w ++ ([93] : List UInt8)).length - ([93] : List UInt8).length) = w := by simp
    rw [if_pos e1, e1, e3, if_pos e2, e2, e4, ha]
    cases w with
    | nil => exact absurd rfl hw
    | cons _ _ => rfl
theorem lit_not (c : UInt8) (h : litp c = true) : c ≠ 93 := by rintro rfl; revert h; decide
def namech (c : UInt8) : Bool := decide (c.toNat = 37) || (hexR c.toNat || plainR c.toNat)
theorem namech_not (c : UInt8) (h : namech c = true) : c ≠ 58 ∧ c ≠ 93 ∧ c ≠ 91 := by
  refine ⟨?_, ?_, ?_⟩ <;> (rintro rfl; revert h; decide)
theorem regGo_chars : ∀ (l : List UInt8) (left : Nat), regGo l left = true → l.all namech = true
  | [], _, _ => rfl
  | c :: l, left, h => by
    simp only [regGo] at h
    rw [List.all_cons, Bool.and_eq_true]
    unfold namech
    by_cases h1 : 0 < left
    · rw [if_pos h1] at h
      by_cases h2 : hexR c.toNat = true
      · rw [if_pos h2] at h
        exact ⟨by rw [h2]; simp, regGo_chars l _ h⟩
      · rw [if_neg h2] at h; cases h
    · rw [if_neg h1] at h
      by_cases h2 : c.toNat = 37
      · rw [if_pos h2] at h
        exact ⟨by rw [decide_eq_true h2]; simp, regGo_chars l _ h⟩
      · rw [if_neg h2] at h
        by_cases h3 : plainR c.toNat = true
        · rw [if_pos h3] at h
          exact ⟨by rw [h3]; simp, regGo_chars l _ h⟩
        · rw [if_neg h3] at h; cases h
/-- How many octets the name has that begins a text; none: a sign of percent has no two digits behind it. -/
def spanA : List UInt8 → Nat → Option Nat
  | [], left => if left = 0 then some 0 else none
  | c :: l, left => if 0 < left then (if hexR c.toNat = true then (spanA l (left - 1)).map (· + 1) else none) else if c.toNat = 37 then (spanA l 2).map (· + 1) else if plainR c.toNat = true then (spanA l 0).map (· + 1) else some 0
theorem spanA_some : ∀ (l : List UInt8) (left n : Nat), spanA l left = some n → n ≤ l.length ∧ regGo (l.take n) left = true ∧ ∀ m, n < m → m ≤ l.length → regGo (l.take m) left = false
  | [], left, n, h => by
    simp only [spanA] at h
    by_cases h0 : left = 0
    · rw [if_pos h0] at h
      obtain rfl := Option.some.inj h
      exact ⟨Nat.le_refl _, by simp [regGo, h0], fun m hm hl => by simp at hl; omega⟩
    · rw [if_neg h0] at h; cases h
  | c :: l, left, n, h => by
    simp only [spanA] at h
    by_cases h1 : 0 < left
    · rw [if_pos h1] at h
      by_cases h2 : hexR c.toNat = true
      · rw [if_pos h2] at h
        obtain ⟨n', hn', rfl⟩ := Option.map_eq_some_iff.1 h
        obtain ⟨a, b, d⟩ := spanA_some l _ n' hn'
        refine ⟨by simpa using a, by simp only [List.take_succ_cons, regGo]; rw [if_pos h1, if_pos h2]; exact b, fun m hm hl => ?_⟩
        obtain ⟨m, rfl⟩ : ∃ q, m = q + 1 := ⟨m - 1, by omega⟩
        simp only [List.take_succ_cons, regGo]
        rw [if_pos h1, if_pos h2]
        exact d m (by omega) (by simpa using hl)
      · rw [if_neg h2] at h; cases h
    · rw [if_neg h1] at h
      have hl0 : left = 0 := by omega
      by_cases h2 : c.toNat = 37
      · rw [if_pos h2] at h
        obtain ⟨n', hn', rfl⟩ := Option.map_eq_some_iff.1 h
        obtain ⟨a, b, d⟩ := spanA_some l _ n' hn'
        refine ⟨by simpa using a, by simp only [List.take_succ_cons, regGo]; rw [if_neg h1, if_pos h2]; exact b, fun m hm hl => ?_⟩
        obtain ⟨m, rfl⟩ : ∃ q, m = q + 1 := ⟨m - 1, by omega⟩
        simp only [List.take_succ_cons, regGo]
        rw [if_neg h1, if_pos h2]
        exact d m (by omega) (by simpa using hl)
      · rw [if_neg h2] at h
        by_cases h3 : plainR c.toNat = true
        · rw [if_pos h3] at h
          obtain ⟨n', hn', rfl⟩ := Option.map_eq_some_iff.1 h
          obtain ⟨a, b, d⟩ := spanA_some l _ n' hn'
          refine ⟨by simpa using a, by simp only [List.take_succ_cons, regGo]; rw [if_neg h1, if_neg h2, if_pos h3]; exact b, fun m hm hl => ?_⟩
          obtain ⟨m, rfl⟩ : ∃ q, m = q + 1 := ⟨m - 1, by omega⟩
          simp only [List.take_succ_cons, regGo]
          rw [if_neg h1, if_neg h2, if_pos h3]
          exact d m (by omega) (by simpa using hl)
        · rw [if_neg h3] at h
          obtain rfl := Option.some.inj h
          refine ⟨Nat.zero_le _, by simp [regGo, hl0], fun m hm hl => ?_⟩
          obtain ⟨m, rfl⟩ : ∃ q, m = q + 1 := ⟨m - 1, by omega⟩
          simp only [List.take_succ_cons, regGo]
          rw [if_neg h1, if_neg h2, if_neg h3]
theorem spanA_none : ∀ (l : List UInt8) (left : Nat), spanA l left = none → ∀ m, m ≤ l.length → regGo (l.take m) left = true → ∃ c, l[m]? = some c ∧ namech c = true
  | [], left, h, m, hm, hr => by
    simp only [spanA] at h
    by_cases h0 : left = 0
    · rw [if_pos h0] at h; cases h
    · simp [regGo, h0] at hr
  | c :: l, left, h, 0, hm, hr => by
    simp [regGo] at hr
    subst hr
    simp only [spanA] at h
    refine ⟨c, rfl, ?_⟩
    unfold namech
    rw [if_neg (by omega)] at h
    by_cases h2 : c.toNat = 37
    · rw [decide_eq_true h2]; rfl
    · rw [if_neg h2] at h
      by_cases h3 : plainR c.toNat = true
      · rw [h3]; simp
      · rw [if_neg h3] at h; cases h
  | c :: l, left, h, m + 1, hm, hr => by
    simp only [List.take_succ_cons, regGo] at hr
    simp only [spanA] at h
    rw [List.getElem?_cons_succ]
    by_cases h1 : 0 < left
    · rw [if_pos h1] at h hr
      by_cases h2 : hexR c.toNat = true
      · rw [if_pos h2] at h hr
        exact spanA_none l _ (Option.map_eq_none_iff.1 h) m (by simpa using hm) hr
      · rw [if_neg h2] at hr; cases hr
    · rw [if_neg h1] at h hr
      by_cases h2 : c.toNat = 37
      · rw [if_pos h2] at h hr
        exact spanA_none l _ (Option.map_eq_none_iff.1 h) m (by simpa using hm) hr
      · rw [if_neg h2] at h hr
        by_cases h3 : plainR c.toNat = true
        · rw [if_pos h3] at h hr
          exact spanA_none l _ (Option.map_eq_none_iff.1 h) m (by simpa using hm) hr
        · rw [if_neg h3] at hr; cases hr
/-- P11.1. -/
def litN (r : List UInt8) : Nat := if (r.takeWhile litp).length = 0 ∨ r[(r.takeWhile litp).length]? ≠ some 93 then 0 else (r.takeWhile litp).length + 2
def nameN : List UInt8 → Nat
  | [] => 0
  | c :: r => if c = 91 then litN r else (spanA (c :: r) 0).getD 0
/-- A port, if the number is one. -/
def portL (name : List UInt8) (p : Int × Int) : List UInt8 × Int × Int := if p.2 = 5 then ([], 0, 5) else if p.2 = 0 then (name, p.1, 0) else ([], 0, 3)
def parseL (g : List UInt8 → Int × Int) (l : List UInt8) : List UInt8 × Int × Int := if l = [] then ([], 0, 2) else if nameN l = 0 then ([], 0, 3) else if nameN l = l.length then (l, 80, 0) else if l[nameN l]? ≠ some 58 then ([], 0, 3) else portL (l.take (nameN l)) (g (l.drop (nameN l + 1)))
def litL (l : List UInt8) : Prop := ∃ w : List UInt8, w ≠ [] ∧ w.all litp = true ∧ l = 91 :: (w ++ [93])
def regL (l : List UInt8) : Prop := l ≠ [] ∧ regGo l 0 = true
/-- What host.cut gives. -/
def CutL (l a b : List UInt8) (has : Bool) : Prop := (has = true ∧ l = a ++ 58 :: b ∧ (58 : UInt8) ∉ b ∧ ((93 : UInt8) ∈ a ∨ (93 : UInt8) ∉ b)) ∨ (has = false ∧ a = l ∧ b = [] ∧ ((58 : UInt8) ∉ l ∨ ∃ u v, l = u ++ 93 :: v ∧ (93 : UInt8) ∉ u ∧ (58 : UInt8) ∉ v))
theorem lit_span (w t : List UInt8) (h : w.all litp = true) : (w ++ 93 :: t).takeWhile litp = w := by
  induction w with
  | nil => rfl
  | cons c w ih =>
    rw [List.all_cons, Bool.and_eq_true] at h
    rw [List.cons_append, List.takeWhile_cons, if_pos h.1, ih h.2]
theorem split_first {α : Type} (x : α) : ∀ (u u' v v' : List α), u ++ x :: v = u' ++ x :: v' → x ∉ u → x ∉ u' → u = u' ∧ v = v'
  | [], [], v, v', h, _, _ => ⟨rfl, by simpa using h⟩
  | [], y :: u', v, v', h, _, h2 => by simp at h; exact absurd (by rw [h.1]; simp) h2
  | y :: u, [], v, v', h, h1, _ => by simp at h; exact absurd (by rw [h.1]; simp) h1
  | y :: u, z :: u', v, v', h, h1, h2 => by
    simp only [List.cons_append, List.cons.injEq] at h
    obtain ⟨rfl, h⟩ := h
    obtain ⟨rfl, rfl⟩ := split_first x u u' v v' h (fun q => h1 (List.mem_cons_of_mem _ q)) (fun q => h2 (List.mem_cons_of_mem _ q))
    exact ⟨rfl, rfl⟩
theorem prog_parse (g : List UInt8 → Int × Int) (hg : ∀ l, ((58 : UInt8) ∈ l ∨ (93 : UInt8) ∈ l) → g l = (0, 3)) (l a b : List UInt8) (has : Bool) (hl : l ≠ []) (hc : CutL l a b has) :
    (¬ regL a ∧ ¬ litL a → parseL g l = ([], 0, 3)) ∧ (regL a ∨ litL a → parseL g l = if has = false then (a, 80, 0) else portL a (g b)) := by
  obtain ⟨c, r, rfl⟩ : ∃ c r, l = c :: r := by cases l with | nil => exact absurd rfl hl | cons c r => exact ⟨c, r, rfl⟩
  by_cases h91 : c = 91
  · subst h91
    have hnr : ¬ regL a := by
      rintro ⟨h0, h1⟩
      have hch := regGo_chars a 0 h1
      cases a with
      | nil => exact h0 rfl
      | cons x a' =>
        have hx : x = 91 := by
          rcases hc with ⟨_, h, _⟩ | ⟨_, h, _⟩
          · simp at h; exact h.1.symm
          · simp at h; exact h.1
        subst hx
        rw [List.all_cons, Bool.and_eq_true] at hch
        exact (namech_not _ hch.1).2.2 rfl
    have hN : nameN (91 :: r) = litN r := by simp [nameN]
    by_cases hz : litN r = 0
    · have hP : parseL g (91 :: r) = ([], 0, 3) := by unfold parseL; rw [if_neg (by simp), if_pos (by rw [hN, hz])]
      have hno : ¬ litL a := by
        rintro ⟨w, hw, ha, rfl⟩
        have hr : ∃ t, r = w ++ 93 :: t := by
          rcases hc with ⟨_, h, _⟩ | ⟨_, h, _⟩
          · simp at h; exact ⟨58 :: b, by rw [h]⟩
          · simp at h; exact ⟨[], by rw [← h]⟩
        obtain ⟨t, rfl⟩ := hr
        unfold litN at hz
        rw [lit_span w t ha] at hz
        have hlen : 0 < w.length := List.length_pos_iff.2 hw
        rw [if_neg (by simp; omega)] at hz
        omega
      exact ⟨fun _ => hP, fun h => by rcases h with h | h; exact absurd h hnr; exact absurd h hno⟩
    · have hlit : ∃ w t, w ≠ [] ∧ w.all litp = true ∧ r = w ++ 93 :: t := by
        unfold litN at hz
        by_cases hq : (r.takeWhile litp).length = 0 ∨ r[(r.takeWhile litp).length]? ≠ some 93
        · rw [if_pos hq] at hz; exact absurd rfl hz
        · have h1 : ¬ (r.takeWhile litp).length = 0 := fun h => hq (.inl h)
          have h2 : r[(r.takeWhile litp).length]? = some 93 := Classical.byContradiction fun h => hq (.inr h)
          refine ⟨r.takeWhile litp, r.drop ((r.takeWhile litp).length + 1), by intro h; rw [h] at h1; simp at h1, List.all_takeWhile, ?_⟩
          obtain ⟨h3, h4⟩ := List.getElem?_eq_some_iff.1 h2
          have h5 := List.drop_eq_getElem_cons h3
          rw [h4] at h5
          rw [← h5]
          have h6 : r.take (r.takeWhile litp).length = r.takeWhile litp := (List.prefix_iff_eq_take.1 (List.takeWhile_prefix litp)).symm
          conv => lhs; rw [← List.take_append_drop (r.takeWhile litp).length r, h6]
      obtain ⟨w, t, hw, ha, rfl⟩ := hlit
      have hwl : 0 < w.length := List.length_pos_iff.2 hw
      have hN2 : nameN (91 :: (w ++ 93 :: t)) = w.length + 2 := by
        rw [hN]
        unfold litN
        rw [lit_span w t ha, if_neg (by simp; omega)]
      have hw93 : (93 : UInt8) ∉ w := fun h => lit_not _ (List.all_eq_true.1 ha _ h) rfl
      have hL : litL a ↔ a = 91 :: (w ++ [93]) := by
        constructor
        · rintro ⟨w', hw', ha', rfl⟩
          have hr : ∃ t', w ++ 93 :: t = w' ++ 93 :: t' := by
            rcases hc with ⟨_, h, _⟩ | ⟨_, h, _⟩
            · simp at h; exact ⟨58 :: b, h⟩
            · simp at h; exact ⟨[], h.symm⟩
          obtain ⟨t', ht'⟩ := hr
          obtain ⟨rfl, _⟩ := split_first 93 w w' t t' ht' hw93 (fun h => lit_not _ (List.all_eq_true.1 ha' _ h) rfl)
          rfl
        · rintro rfl
          exact ⟨w, hw, ha, rfl⟩
      have htake : (91 :: (w ++ 93 :: t)).take (w.length + 2) = 91 :: (w ++ [93]) := by
        rw [List.take_succ_cons, List.take_append, List.take_of_length_le (by omega)]
        simp
      have hget : (91 :: (w ++ 93 :: t))[w.length + 2]? = t[0]? := by
        rw [List.getElem?_cons_succ, List.getElem?_append_right (by omega), show w.length + 1 - w.length = 1 from by omega]
        rfl
      have hdrop : (91 :: (w ++ 93 :: t)).drop (w.length + 2 + 1) = t.drop 1 := by
        rw [List.drop_succ_cons, List.drop_append, List.drop_eq_nil_iff.2 (by omega), show w.length + 2 - w.length = 2 from by omega]
        rfl
      have hPar : parseL g (91 :: (w ++ 93 :: t)) = if t = [] then (91 :: (w ++ 93 :: t), 80, 0) else if t[0]? ≠ some 58 then ([], 0, 3) else portL (91 :: (w ++ [93])) (g (t.drop 1)) := by
        unfold parseL
        rw [hN2, if_neg (by simp), if_neg (by omega), hget, htake, hdrop]
        by_cases ht : t = []
        · subst ht
          rw [if_pos (by simp), if_pos rfl]
        · rw [if_neg ht, if_neg (by have := List.length_pos_iff.2 ht; simp; omega)]
      rcases hc with ⟨rfl, h, hb, hj⟩ | ⟨rfl, rfl, rfl, h⟩
      · -- a colon
        by_cases hae : a = 91 :: (w ++ [93])
        · subst hae
          have ht : t = 58 :: b := by simpa using h
          subst ht
          refine ⟨fun q => absurd (hL.2 rfl) q.2, fun _ => ?_⟩
          rw [hPar, if_neg (by simp), if_neg (by simp), if_neg (by simp)]
          rfl
        · refine ⟨fun _ => ?_, fun q => by rcases q with q | q; exact absurd q hnr; exact absurd (hL.1 q) hae⟩
          rw [hPar]
          -- where is the last colon
          have ht : t ≠ [] := by
            rintro rfl
            -- then the last octet is 93
            have hb93 : (93 : UInt8) ∈ b := by
              rcases snoc_cases b with rfl | ⟨b', z, rfl⟩
              · have h2 : (91 :: w) ++ [93] = a ++ [58] := by simpa using h
                have := (List.append_inj' h2 rfl).2
                simp at this
              · have h2 : (91 :: w) ++ [93] = (a ++ 58 :: b') ++ [z] := by simpa using h
                have := (List.append_inj' h2 rfl).2
                simp at this
                rw [← this]; simp
            have ha93 : (93 : UInt8) ∈ a := by rcases hj with h | h; exact h; exact absurd hb93 h
            -- 93 in a, and 93 in b: two of them
            obtain ⟨b1, b2, rfl⟩ := List.append_of_mem hb93
            obtain ⟨a1, a2, rfl⟩ := List.append_of_mem ha93
            have h2 : (91 :: w) ++ 93 :: [] = a1 ++ 93 :: (a2 ++ 58 :: (b1 ++ 93 :: b2)) := by simpa using h
            have hcnt := congrArg (List.count (93 : UInt8)) h2
            have hc0 : List.count (93 : UInt8) w = 0 := List.count_eq_zero.2 hw93
            simp [hc0] at hcnt
            omega
          rw [if_neg ht]
          by_cases h58 : t[0]? ≠ some 58
          · rw [if_pos h58]
          · rw [if_neg h58]
            obtain ⟨x, t', rfl⟩ : ∃ x t', t = x :: t' := by cases t with | nil => exact absurd rfl ht | cons x t' => exact ⟨x, t', rfl⟩
            have hx : x = 58 := by simpa using h58
            subst hx
            have hm : (58 : UInt8) ∈ t' := by
              refine Classical.byContradiction fun hno => hae ?_
              have h2 : (91 :: (w ++ [93])) ++ 58 :: t' = a ++ 58 :: b := by simpa using h
              have h3 := congrArg List.reverse h2
              simp only [List.reverse_append, List.reverse_cons, List.append_assoc] at h3
              have h4 := split_first 58 t'.reverse b.reverse _ _ (by simpa using h3) (by simpa using hno) (by simpa using hb)
              have h5 := congrArg List.reverse h4.2
              simpa using h5.symm
            rw [show (58 :: t').drop 1 = t' from rfl, hg t' (.inl hm)]
            rfl
      · by_cases ht : t = []
        · subst ht
          refine ⟨fun q => absurd (hL.2 rfl) q.2, fun _ => ?_⟩
          rw [hPar, if_pos rfl, if_pos rfl]
        · refine ⟨fun _ => ?_, fun q => ?_⟩
          · rw [hPar, if_neg ht]
            by_cases h58 : t[0]? ≠ some 58
            · rw [if_pos h58]
            · exfalso
              have hm : (58 : UInt8) ∈ t := List.mem_of_getElem? (Classical.byContradiction h58)
              rcases h with h | ⟨u, v, h1, h2, h3⟩
              · exact h (by simp [hm])
              · have := split_first 93 (91 :: w) u t v (by simpa using h1) (by simp [hw93]) h2
                rw [this.2] at hm
                exact h3 hm
          · exfalso
            rcases q with q | q
            · exact hnr q
            · have := hL.1 q
              simp at this
              exact ht this
  · have hnl : ¬ litL a := by
      rintro ⟨w, _, _, rfl⟩
      rcases hc with ⟨_, h, _⟩ | ⟨_, h, _⟩
      · simp at h; exact h91 h.1
      · simp at h; exact h91 h.1.symm
    have hN : nameN (c :: r) = (spanA (c :: r) 0).getD 0 := by simp [nameN, h91]
    generalize hlq : c :: r = l at *
    cases hS : spanA l 0 with
    | none =>
      have hP : parseL g l = ([], 0, 3) := by unfold parseL; rw [if_neg hl, if_pos (by rw [hN, hS]; rfl)]
      have hnr : ¬ regL a := by
        rintro ⟨_, h1⟩
        rcases hc with ⟨_, h, _⟩ | ⟨_, h, _⟩
        · have := spanA_none l 0 hS a.length (by rw [h]; simp) (by rw [h]; simpa using h1)
          obtain ⟨x, hx, hx2⟩ := this
          rw [h] at hx
          simp at hx
          exact (namech_not x hx2).1 hx.symm
        · subst h
          obtain ⟨x, hx, _⟩ := spanA_none a 0 hS a.length (Nat.le_refl _) (by simpa using h1)
          simp at hx
      exact ⟨fun _ => hP, fun q => by rcases q with q | q; exact absurd q hnr; exact absurd q hnl⟩
    | some n =>
      rw [hS] at hN
      simp only [Option.getD_some] at hN
      obtain ⟨hnle, hreg, hmore⟩ := spanA_some l 0 n hS
      have hch := regGo_chars _ _ hreg
      rcases hc with ⟨rfl, h, hb, hj⟩ | ⟨rfl, rfl, rfl, h⟩
      · have hal : a.length < l.length := by rw [h]; simp
        have hta : l.take a.length = a := by rw [h]; simp
        have hga : l[a.length]? = some 58 := by rw [h]; simp
        have hna : n ≤ a.length := by
          refine Nat.le_of_not_lt fun hlt => ?_
          have hm : (58 : UInt8) ∈ l.take n := by
            apply List.mem_of_getElem? (i := a.length)
            rw [List.getElem?_take_of_lt hlt, hga]
          exact (namech_not _ (List.all_eq_true.1 hch _ hm)).1 rfl
        rcases Nat.lt_or_ge n a.length with hlt | hge
        · have hnr : ¬ regL a := by
            rintro ⟨_, h1⟩
            have := hmore a.length hlt (by omega)
            rw [hta, h1] at this
            cases this
          refine ⟨fun _ => ?_, fun q => by rcases q with q | q; exact absurd q hnr; exact absurd q hnl⟩
          unfold parseL
          rw [if_neg hl, hN]
          by_cases h0 : n = 0
          · rw [if_pos h0]
          · rw [if_neg h0, if_neg (by omega)]
            by_cases h58 : l[n]? ≠ some 58
            · rw [if_pos h58]
            · rw [if_neg h58]
              have hm : (58 : UInt8) ∈ l.drop (n + 1) := by
                apply List.mem_of_getElem? (i := a.length - (n + 1))
                rw [List.getElem?_drop, show n + 1 + (a.length - (n + 1)) = a.length from by omega, hga]
              rw [hg _ (.inl hm)]
              rfl
        · obtain rfl : n = a.length := by omega
          rw [hta] at hreg
          have hdrop : l.drop (a.length + 1) = b := by rw [h]; simp
          constructor
          · rintro ⟨h1, _⟩
            have ha0 : a = [] := Classical.byContradiction fun h0 => h1 ⟨h0, hreg⟩
            unfold parseL
            rw [if_neg hl, hN, if_pos (by rw [ha0]; rfl)]
          · rintro (⟨h1, _⟩ | q)
            · have := List.length_pos_iff.2 h1
              unfold parseL
              rw [if_neg hl, hN, if_neg (by omega), if_neg (by omega), if_neg (by rw [hga]; simp), hta, hdrop]
              rfl
            · exact absurd q hnl
      · -- no colon behind the literal's end
        rcases Nat.lt_or_ge n a.length with hlt | hge
        · have hnr : ¬ regL a := by
            rintro ⟨_, h1⟩
            have := hmore a.length hlt (Nat.le_refl _)
            rw [List.take_length, h1] at this
            cases this
          refine ⟨fun _ => ?_, fun q => by rcases q with q | q; exact absurd q hnr; exact absurd q hnl⟩
          unfold parseL
          rw [if_neg hl, hN]
          by_cases h0 : n = 0
          · rw [if_pos h0]
          · rw [if_neg h0, if_neg (by omega)]
            by_cases h58 : a[n]? ≠ some 58
            · rw [if_pos h58]
            · rw [if_neg h58]
              have h58' : a[n]? = some 58 := Classical.byContradiction h58
              rcases h with h | ⟨u, v, rfl, h2, h3⟩
              · exact absurd (List.mem_of_getElem? h58') h
              · have hnu : n < u.length := by
                  refine Nat.lt_of_not_le fun hle => ?_
                  rw [List.getElem?_append_right hle] at h58'
                  have hm := List.mem_of_getElem? h58'
                  simp at hm
                  exact h3 hm
                have hm : (93 : UInt8) ∈ (u ++ 93 :: v).drop (n + 1) := by
                  rw [List.drop_append_of_le_length (by omega)]
                  simp
                rw [hg _ (.inr hm)]
                rfl
        · obtain rfl : n = a.length := by omega
          rw [List.take_length] at hreg
          refine ⟨fun q => absurd ⟨hl, hreg⟩ q.1, fun _ => ?_⟩
          unfold parseL
          rw [if_neg hl, hN, if_neg (by have := List.length_pos_iff.2 hl; omega), if_pos rfl, if_pos rfl]


end Go.Proofs.YtdjmgmiaognncaaDoor.X
namespace Go.Proofs.YtdjmgmiaognncaaDoor.X
open Go.RowKit Go.Proofs.YtdjmgmiaognncaaDoorW.PrintWords Go.Proofs.YtdjmgmiaognncaaDoorW.PrintLast Go.Proofs.YtdjmgmiaognncaaDoorW.PrintMore
attribute [local go_sem] max2_int min2_int max_two min_two max_three min_three max_four min_four   -- for this text's walks alone
set_option linter.unusedVariables false
set_option linter.unusedSimpArgs false

/-! ### digits_figures: function 75 -/
/-- The sign of a digit. -/
def digB (d : Nat) : UInt8 := if d < 10 then (48 + d).toUInt8 else (87 + d).toUInt8
/-- The digits of a number to a base, ahead of those that there are. -/
def figL (b : Nat) : Nat → Nat → List UInt8 → List UInt8
  | 0, _, acc => acc
  | f + 1, n, acc => if acc = [] ∨ n ≠ 0 then figL b f (n / b) (digB (n % b) :: acc) else acc
def figB (n b : Nat) : ByteArray := ⟨(figL b 64 n []).toArray⟩
def digits_figures.f (a0 : Int) (a1 : Int) : Option (ByteArray) := if 0 ≤ a0 ∧ a0 ≤ 4611686018427387904 ∧ 2 ≤ a1 ∧ a1 ≤ 16 then some (figB a0.toNat a1.toNat) else none
theorem sign_get (d : Nat) (hd : d < 16) : (⟨#[48, 49, 50, 51, 52, 53, 54, 55, 56, 57, 97, 98, 99, 100, 101, 102]⟩ : ByteArray)[d]'hd = digB d := by
  have h : ∀ k : Fin 16, (⟨#[48, 49, 50, 51, 52, 53, 54, 55, 56, 57, 97, 98, 99, 100, 101, 102]⟩ : ByteArray)[k.val]'k.isLt = digB k.val := by decide +kernel
  exact h ⟨d, hd⟩
/-- The array's cells, from a place on. -/
def Tail (W : World) (g t p : Nat) (acc : List UInt8) : Prop := ∃ C : Array Value, W.heap[g]? = some (.cells C t (0, 0)) ∧ C.size = 64 ∧ ∀ (j : Nat) c, acc[j]? = some c → C[p + 1 + j]? = some (.int .u8 (c.toNat : Int))
theorem Tail.some {W : World} {g t p : Nat} {acc : List UInt8} (h : Tail W g t p acc) (j : Nat) (hj : j < 64) : ∃ v, W.cell? ⟨g, j, none⟩ = .some v := by
  obtain ⟨C, hh, hs, _⟩ := h
  refine ⟨C[j]'(by omega), ?_⟩
  simp only [World.cell?, hh]
  exact Array.getElem?_eq_getElem (by omega)
theorem Tail.frozen {W : World} {g t p : Nat} {acc : List UInt8} (h : Tail W g t p acc) (j : Nat) : W.frozen? ⟨g, j, none⟩ = false := by
  obtain ⟨C, hh, _⟩ := h
  simp [World.frozen?, hh]
theorem Tail.put {W : World} {g t p : Nat} {acc : List UInt8} (h : Tail W g t (p + 1) acc) (c : UInt8) (hp : p + 1 < 64) : Tail (W.setCell ⟨g, p + 1, none⟩ (.int .u8 (c.toNat : Int))) g t p (c :: acc) := by
  obtain ⟨C, hh, hs, hc⟩ := h
  refine ⟨C.setIfInBounds (p + 1) (.int .u8 (c.toNat : Int)), ?_, by simpa using hs, fun j d hj => ?_⟩
  · simp only [World.setCell, Array.getElem?_modify, hh]
    simp
  · rw [Array.getElem?_setIfInBounds]
    cases j with
    | zero =>
      simp at hj
      subst hj
      rw [if_pos rfl, if_pos (by omega)]
    | succ j =>
      rw [if_neg (by omega)]
      have := hc j d (by simpa using hj)
      rw [show p + 1 + 1 + j = p + 1 + (j + 1) from by omega] at this
      exact this
set_option maxHeartbeats 8000000 in
set_option maxRecDepth 100000 in
theorem digits_figures.calls (a0 : Int) (a1 : Int) (r : ByteArray) (w : World) (h : digits_figures.f a0 a1 = some r) :
    Calls Tryd.prog 75 #[.int .i64 a0, .int .i64 a1] w fun e w' => e = .returned (.string r) ∧ Below w.heap.size w w' := by
  by_cases hh : 0 ≤ a0 ∧ a0 ≤ 4611686018427387904 ∧ 2 ≤ a1 ∧ a1 ≤ 16
  · rw [digits_figures.f, if_pos hh] at h
    have hres := Option.some.inj h
    clear h
    obtain ⟨h0, h1, h2, h3⟩ := hh
    obtain ⟨N, rfl⟩ := Int.eq_ofNat_of_zero_le h0
    obtain ⟨b, rfl⟩ := Int.eq_ofNat_of_zero_le (show 0 ≤ a1 by omega)
    rw [Int.toNat_natCast, Int.toNat_natCast] at hres
    have HRES := Aside0.mk hres
    have HN := Aside0.mk (show N < 2 ^ 63 by omega)
    clear hres
    have hb0 : ¬ ((b : Int) = 0) := by omega
    go_enter Tryd.func75, Tryd.ntmps75
    go_wp2
    go_loopg [0, 6] 64 (fun gg s0 s6 wr => ∃ (n p : Nat) (acc : List UInt8), s0 = .int .i64 n ∧ s6 = .int .i64 ((p : Int) + 1) ∧ p + acc.length = 63 ∧ Aside0 (n < 2 ^ p) ∧ n ≤ 4611686018427387904 ∧ Aside0 (Tail wr w.heap.size 119 p acc) ∧ Aside0 (Below w.heap.size w wr) ∧ Aside0 ((⟨(figL b gg n acc).toArray⟩ : ByteArray) = r) ∧ p < gg)
    case atStart =>
      refine ⟨N, 63, [], rfl, rfl, rfl, HN, by omega, ⟨?_⟩, ⟨(Below.refl _ w).alloc (Nat.le_refl _) _⟩, HRES, by omega⟩
      exact ⟨_, World.alloc_heap_new _ _, rfl, by simp⟩
    case round =>
      obtain ⟨n, p, acc, rfl, rfl, hpl, HP, hn, HT, BW, HL, hgz⟩ := hrel
      have hleft := HL.out
      cases gk with
      | zero => exact absurd hgz (by omega)
      | succ g' =>
        simp only [figL] at hleft
        by_cases hgo : acc = [] ∨ n ≠ 0
        · rw [if_pos hgo] at hleft
          have hp1 : 0 < p := by
            rcases hgo with h | h
            · subst h; simp at hpl; omega
            · rcases Nat.eq_zero_or_pos p with h0 | h0
              · have := HP.out; rw [h0] at this; simp at this; omega
              · exact h0
          obtain ⟨p, rfl⟩ : ∃ m, p = m + 1 := ⟨p - 1, by omega⟩
          have hpow : n / b < 2 ^ p := by
            have := HP.out
            rw [Nat.pow_succ] at this
            exact Nat.div_lt_of_lt_mul (Nat.lt_of_lt_of_le this (by rw [Nat.mul_comm]; exact Nat.mul_le_mul_right _ (by omega)))
          have hnb : n / b ≤ 4611686018427387904 := Nat.le_trans (Nat.div_le_self _ _) hn
          have hmod : n % b < 16 := Nat.lt_of_lt_of_le (Nat.mod_lt _ (by omega)) (by omega)
          have htest : (acc = [] ∧ p = 62) ∨ (acc ≠ [] ∧ p ≠ 62 ∧ n ≠ 0) := by
            by_cases h : acc = []
            · left; subst h; simp at hpl; exact ⟨rfl, by omega⟩
            · right
              have := List.length_pos_iff.2 h
              refine ⟨h, by omega, ?_⟩
              rcases hgo with h2 | h2
              · exact absurd h2 h
              · exact h2
          have d0 : (0 : Int) ≤ (n : Int) / (b : Int) := Int.ediv_nonneg (by omega) (by omega)
          have d1 : (n : Int) / (b : Int) ≤ 4611686018427387904 := by have : ((n / b : Nat) : Int) ≤ 4611686018427387904 := by omega
                                                                      exact this
          have HLEFT := Aside0.mk hleft
          have HPW := Aside0.mk hpow
          obtain ⟨v, hv⟩ := HT.out.some (p + 1) (by omega)
          have hfz := HT.out.frozen (p + 1)
          have HSG := Aside0.mk (sign_get (n % b) hmod)
          have HTT := Aside0.mk HT.out
          have HBB := Aside0.mk BW.out
          rcases htest with ⟨rfl, rfl⟩ | ⟨hacc, hp2, hn2⟩
          · clear hleft hpow hgo HL HP HT BW
            go_wp2
            go_roundg g'
            case measure => omega
            case rel =>
              refine ⟨n / b, 62, [digB (n % b)], by first | rfl | go_num, rfl, rfl, HPW, hnb, ⟨?_⟩, ⟨HBB.out.setCell (Nat.le_refl _) _⟩, HLEFT, by omega⟩
              have h3 := HTT.out.put (digB (n % b)) (by omega)
              rw [HSG.out]
              exact h3
          · have ht1 : ((p : Int) + 1 + 1 == 64) = false := beq_eq_false_iff_ne.2 (by omega)
            have ht2 : ((n : Int) != 0) = true := by rw [bne_iff_ne]; omega
            have ht3 : ((n : Int) == 0) = false := beq_eq_false_iff_ne.2 (by omega)
            clear hleft hpow hgo HL HP HT BW
            go_wp2
            go_roundg g'
            case measure => omega
            case rel =>
              refine ⟨n / b, p, digB (n % b) :: acc, by first | rfl | go_num, rfl, by simp; omega, HPW, hnb, ⟨?_⟩, ⟨HBB.out.setCell (Nat.le_refl _) _⟩, HLEFT, by omega⟩
              have h3 := HTT.out.put (digB (n % b)) (by omega)
              rw [HSG.out]
              exact h3
        · rw [if_neg hgo] at hleft
          have hn0 : n = 0 := Classical.byContradiction fun h => hgo (.inr h)
          have hacc : acc ≠ [] := fun h => hgo (.inl h)
          have hlen : 0 < acc.length := List.length_pos_iff.2 hacc
          subst hn0
          have h64 : (((p : Int) + 1) == 64) = false := beq_eq_false_iff_ne.2 (by omega)
          have hp0 : (0 : Int) ≤ (p : Int) + 1 := by omega
          have hp1 : (p : Int) + 1 ≤ 64 := by omega
          have hlen2 : acc.length = 63 - p := by omega
          have hback : ∀ W, W = wr → (convert 64 9 (.slice (some ⟨w.heap.size, p + 1, none⟩) (63 - p) (63 - p))).run Tryd.prog W = .ok (.string ⟨acc.toArray⟩) W := by
            rintro W rfl
            rw [← hlen2]
            exact run_convert_bytes_back (P := Tryd.prog) W 64 9 5 ⟨w.heap.size, p + 1, none⟩ acc.length acc Tryd.underlying64 Tryd.underlying5 Tryd.underlying9 (fun j hj => by
              obtain ⟨C, hh, hs, hc⟩ := HT.out
              rw [Addr.add_lit]
              simp only [World.cell?, hh]
              exact hc j _ (List.getElem?_eq_getElem hj))
          have hbk := hback wr rfl
          have HLEFT := Aside0.mk hleft
          clear hback hleft
          go_wp2
          go_ret
          exact ⟨by rw [← HLEFT.out]; rfl, BW.out⟩
  · rw [digits_figures.f, if_neg hh] at h
    cases h


end Go.Proofs.YtdjmgmiaognncaaDoor.X
namespace Go.Proofs.YtdjmgmiaognncaaDoor.X
open Go.RowKit Go.Proofs.YtdjmgmiaognncaaDoorW.PrintWords Go.Proofs.YtdjmgmiaognncaaDoorW.PrintLast Go.Proofs.YtdjmgmiaognncaaDoorW.PrintMore
attribute [local go_sem] max2_int min2_int max_two min_two max_three min_three max_four min_four   -- for this text's walks alone
set_option linter.unusedVariables false
set_option linter.unusedSimpArgs false

/-! ### abutmentref02_Digits: function 51 -/
/-- The reference's digits. -/
def rdigL (b : Nat) : Nat → Nat → List UInt8 → List UInt8
  | 0, n, acc => digB n :: acc
  | f + 1, n, acc => if b ≤ n then rdigL b f (n / b) (digB (n % b) :: acc) else digB n :: acc
def rdigB (n b : Nat) : ByteArray := ⟨(rdigL b 64 n []).toArray⟩
def abutmentref02_Digits.f (a0 : Int) (a1 : Int) : Option (ByteArray) := if 0 ≤ a0 ∧ a0 ≤ 4611686018427387904 ∧ 2 ≤ a1 ∧ a1 ≤ 16 then some (rdigB a0.toNat a1.toNat) else none
theorem sign_cut (d : Nat) (hd : d < 16) : (⟨#[48, 49, 50, 51, 52, 53, 54, 55, 56, 57, 97, 98, 99, 100, 101, 102]⟩ : ByteArray).extract d (d + 1) = ⟨#[digB d]⟩ := by
  have h : ∀ k : Fin 16, (⟨#[48, 49, 50, 51, 52, 53, 54, 55, 56, 57, 97, 98, 99, 100, 101, 102]⟩ : ByteArray).extract k.val (k.val + 1) = ⟨#[digB k.val]⟩ := by decide +kernel
  exact h ⟨d, hd⟩
set_option maxHeartbeats 8000000 in
set_option maxRecDepth 100000 in
theorem abutmentref02_Digits.calls (a0 : Int) (a1 : Int) (r : ByteArray) (w : World) (h : abutmentref02_Digits.f a0 a1 = some r) :
    Calls Tryd.prog 51 #[.int .u64 a0, .int .u64 a1] w fun e w' => e = .returned (.string r) ∧ Below w.heap.size w w' := by
  by_cases hh : 0 ≤ a0 ∧ a0 ≤ 4611686018427387904 ∧ 2 ≤ a1 ∧ a1 ≤ 16
  · rw [abutmentref02_Digits.f, if_pos hh] at h
    have hres := Option.some.inj h
    clear h
    obtain ⟨h0, h1, h2, h3⟩ := hh
    obtain ⟨N, rfl⟩ := Int.eq_ofNat_of_zero_le h0
    obtain ⟨b, rfl⟩ := Int.eq_ofNat_of_zero_le (show 0 ≤ a1 by omega)
    rw [Int.toNat_natCast, Int.toNat_natCast] at hres
    have HRES := Aside0.mk hres
    have HN := Aside0.mk (show N < 2 ^ 64 by omega)
    clear hres
    have hb0 : ¬ ((b : Int) = 0) := by omega
    go_enter Tryd.func51, Tryd.ntmps51
    go_wp2
    go_loopg [0, 6] 64 (fun gg s0 s6 wr => ∃ (n : Nat) (acc : List UInt8), s0 = .int .u64 n ∧ s6 = .string ⟨acc.toArray⟩ ∧ Aside0 (n < 2 ^ gg) ∧ n ≤ 4611686018427387904 ∧ acc.length + gg ≤ 70 ∧ Aside0 ((⟨(rdigL b gg n acc).toArray⟩ : ByteArray) = r) ∧ Aside0 (Below w.heap.size w wr))
    case atStart => exact ⟨N, [], rfl, rfl, HN, by omega, by simp, HRES, ⟨Below.refl _ w⟩⟩
    case round =>
      obtain ⟨n, acc, rfl, rfl, HP, hn, hal, HL, BW⟩ := hrel
      by_cases hge : b ≤ n
      · have hge2 : ((b : Int) ≤ (n : Int)) := by omega
        cases gk with
        | zero => have := HP.out; simp at this; omega
        | succ g' =>
          have hleft := HL.out
          simp only [rdigL, if_pos hge] at hleft
          have HLEFT := Aside0.mk hleft
          have hmod : n % b < 16 := Nat.lt_of_lt_of_le (Nat.mod_lt _ (by omega)) (by omega)
          have HC := Aside0.mk (sign_cut (n % b) hmod)
          clear hleft HL
          have hd0 : (0 : Int) ≤ ((n % b : Nat) : Int) := by omega
          have hd1 : ((n % b : Nat) : Int) + 1 ≤ 16 := by omega
          have hd2 : ((n % b : Nat) : Int) ≤ ((n % b : Nat) : Int) + 1 := by omega
          have hb1 : ¬ b = 0 := by omega
          have hm0 : (0 : Int) ≤ (n : Int) % (b : Int) := hd0
          have hm1 : (n : Int) % (b : Int) ≤ 16 := by have : ((n % b : Nat) : Int) ≤ 16 := by omega
                                                      exact this
          have hm2 : (n : Int) % (b : Int) + 1 ≤ 16 := hd1
          have hq0 : (0 : Int) ≤ (n : Int) / (b : Int) := Int.ediv_nonneg (by omega) (by omega)
          have hq1 : (n : Int) / (b : Int) ≤ 4611686018427387904 := by have : ((n / b : Nat) : Int) ≤ 4611686018427387904 := by have := Nat.div_le_self n b; omega
                                                                       exact this
          have hm3 : (n : Int) % (b : Int) ≤ (n : Int) % (b : Int) + 1 := by omega
          have hsz : ¬ 9223372036854775807 < (1 : Nat) + acc.length := by omega
          have htm : Int.tmod (n : Int) (b : Int) = ((n % b : Nat) : Int) := rfl
          have htd : Int.tdiv (n : Int) (b : Int) = ((n / b : Nat) : Int) := rfl
          go_wp2
          go_quiet (fail)
          go_wp2
          go_roundg g'
          case measure => omega
          case rel =>
            refine ⟨n / b, digB (n % b) :: acc, by first | rfl | go_num, ?_, ⟨?_⟩, by have := Nat.div_le_self n b; omega, by simp; omega, HLEFT, ⟨pw_below_drewN BW.out _⟩⟩
            · refine congrArg Value.string ?_
              rw [HC.out]
              rfl
            · have := HP.out
              rw [Nat.pow_succ] at this
              exact Nat.div_lt_of_lt_mul (Nat.lt_of_lt_of_le this (by rw [Nat.mul_comm]; exact Nat.mul_le_mul_right _ (by omega)))
      · have hge2 : ¬ ((b : Int) ≤ (n : Int)) := by omega
        have hn16 : n < 16 := by omega
        have HC := Aside0.mk (sign_cut n hn16)
        have hd0 : (0 : Int) ≤ (n : Int) := by omega
        have hd1 : (n : Int) + 1 ≤ 16 := by omega
        have hd2 : (n : Int) ≤ (n : Int) + 1 := by omega
        go_wp2
        go_ret
        refine ⟨?_, BW.out⟩
        have e := HL.out
        have e2 : rdigL b gk n acc = digB n :: acc := by
          cases gk with
          | zero => rfl
          | succ g' => simp only [rdigL, if_neg hge]
        rw [e2] at e
        rw [← e]
        refine congrArg (fun x => Ending.returned (Value.string x)) ?_
        show (⟨_⟩ : ByteArray).extract n (n + 1) ++ _ = _
        rw [HC.out]
        rfl
  · rw [abutmentref02_Digits.f, if_neg hh] at h
    cases h


end Go.Proofs.YtdjmgmiaognncaaDoor.X
namespace Go.Proofs.YtdjmgmiaognncaaDoor.X
open Go.RowKit Go.Proofs.YtdjmgmiaognncaaDoorW.PrintWords Go.Proofs.YtdjmgmiaognncaaDoorW.PrintLast Go.Proofs.YtdjmgmiaognncaaDoorW.PrintMore
attribute [local go_sem] max2_int min2_int max_two min_two max_three min_three max_four min_four   -- for this text's walks alone
set_option linter.unusedVariables false
set_option linter.unusedSimpArgs false

/-! ### digits_Text: function 56 -/
def digits_Text.f (a0 : Int) : Option (ByteArray) := if a0 < 0 then ((digits_figures.f a0 10).bind fun t101 => (if 1 + t101.size ≤ 9223372036854775807 then (some ((⟨#[45]⟩ : ByteArray) ++ t101)) else (none))) else ((digits_figures.f a0 10).bind fun t102 => (some t102))
set_option maxHeartbeats 8000000 in
set_option maxRecDepth 100000 in
theorem digits_Text.calls (a0 : Int) (r : ByteArray) (w : World) (h : digits_Text.f a0 = some r) :
    Calls Tryd.prog 56 #[.int .i64 a0] w fun e w' => e = .returned (.string r) ∧ Below w.heap.size w w' := by
  have HB := Aside0.mk (Below.refl w.heap.size w)
  have H : (if a0 < 0 then ((digits_figures.f a0 10).bind fun t101 => (if 1 + t101.size ≤ 9223372036854775807 then (some ((⟨#[45]⟩ : ByteArray) ++ t101)) else (none))) else ((digits_figures.f a0 10).bind fun t102 => (some t102))) = some r := h
  clear h
  by_cases c2 : a0 < 0
  · rw [if_pos c2] at H
    have c2b0 : decide (a0 < 0) = true := decide_eq_true c2
    clear c2
    replace H := Option.bind_eq_some_iff.mp H
    obtain ⟨t101, A30, H⟩ := H
    replace H : (if 1 + t101.size ≤ 9223372036854775807 then (some ((⟨#[45]⟩ : ByteArray) ++ t101)) else (none)) = some r := H
    have A3 := Aside0.mk A30
    clear A30
    by_cases c4 : 1 + t101.size ≤ 9223372036854775807
    · rw [if_pos c4] at H
      have c4b0 := eq_true c4
      have c4b1 : decide (1 + t101.size ≤ 9223372036854775807) = true := decide_eq_true c4
      try have c4b2 : (9223372036854775807 < 1 + t101.size) = False := eq_false (Nat.not_lt.2 c4)
      obtain rfl := Option.some.inj H
      go_enter Tryd.func56, Tryd.ntmps56
      go_wp2_with (first | ((with_reducible refine gate_callee (f := 75) rfl ?_); refine goesL_ (some 6) rfl rfl Tryd.func75 (by kernel_rfl) rfl #[.int .i64 a0, .int .i64 10] rfl (by (try simp only [List.map_toArray, List.map_cons, List.map_nil]); first | done | rfl | (simp only [List.length_drop, List.length_take]; rfl)) ?_; (with_reducible refine (digits_figures.calls a0 10 t101 _ A3.out).mono ?_); rintro e w5 ⟨rfl, hb⟩; refine ⟨_, rfl, ?_⟩; have n0_ := Aside0.mk (below_step (by repeat (first | (with_reducible first | exact HB.out | apply below_alloc | apply pw_below_drewN | apply below_drew1) | exact HB.out)) hb); clear HB; have HB := n0_; clear n0_; (try clear hb); (try clear hb2); (try clear hk); (try clear hi)))
      go_ret
      exact ⟨by first | rfl | (simp [errW_none, errW_some] <;> rfl) | (simp [*, errW_none, errW_some] <;> rfl), by repeat (first | (with_reducible first | exact HB.out | apply below_alloc | apply pw_below_drewN | apply below_drew1) | exact HB.out)⟩
    · rw [if_neg c4] at H
      exact absurd H (by simp)
  · rw [if_neg c2] at H
    have c2b0 : decide (a0 < 0) = false := decide_eq_false c2
    clear c2
    replace H := Option.bind_eq_some_iff.mp H
    obtain ⟨t102, A60, H⟩ := H
    replace H : (some t102) = some r := H
    have A6 := Aside0.mk A60
    clear A60
    obtain rfl := Option.some.inj H
    go_enter Tryd.func56, Tryd.ntmps56
    go_wp2_with (first | ((with_reducible refine gate_callee (f := 75) rfl ?_); refine goesL_ (some 9) rfl rfl Tryd.func75 (by kernel_rfl) rfl #[.int .i64 a0, .int .i64 10] rfl (by (try simp only [List.map_toArray, List.map_cons, List.map_nil]); first | done | rfl | (simp only [List.length_drop, List.length_take]; rfl)) ?_; (with_reducible refine (digits_figures.calls a0 10 t102 _ A6.out).mono ?_); rintro e w7 ⟨rfl, hb⟩; refine ⟨_, rfl, ?_⟩; have n0_ := Aside0.mk (below_step (by repeat (first | (with_reducible first | exact HB.out | apply below_alloc | apply pw_below_drewN | apply below_drew1) | exact HB.out)) hb); clear HB; have HB := n0_; clear n0_; (try clear hb); (try clear hb2); (try clear hk); (try clear hi)))
    go_ret
    exact ⟨by first | rfl | (simp [errW_none, errW_some] <;> rfl) | (simp [*, errW_none, errW_some] <;> rfl), by repeat (first | (with_reducible first | exact HB.out | apply below_alloc | apply pw_below_drewN | apply below_drew1) | exact HB.out)⟩

end Go.Proofs.YtdjmgmiaognncaaDoor.X
namespace Go.Proofs.YtdjmgmiaognncaaDoor.X
open Go.RowKit Go.Proofs.YtdjmgmiaognncaaDoorW.PrintWords Go.Proofs.YtdjmgmiaognncaaDoorW.PrintLast Go.Proofs.YtdjmgmiaognncaaDoorW.PrintMore
attribute [local go_sem] max2_int min2_int max_two min_two max_three min_three max_four min_four   -- for this text's walks alone
set_option linter.unusedVariables false
set_option linter.unusedSimpArgs false

/-! ### octet_Lower: function 126 -/
/-- A row of octets, with the mark of a conversion's row. -/
def OctRow (W : World) (g e : Nat) (l : List UInt8) : Prop := ∃ cur : Array Value, ∃ m, W.heap[g]? = some (.cells cur e (m, m + 1)) ∧ l.length ≤ m ∧ ∀ (j : Nat) (c : UInt8), l[j]? = some c → cur[j]? = some (.int .u8 (c.toNat : Int))
theorem OctRow.new (W : World) (e : Nat) (s : ByteArray) : OctRow (Lib.bytesWorld W e s) W.heap.size e s.data.toList := by
  refine ⟨Lib.bytesCells W e s, _, Lib.bytesWorld_at_new W e s, by simp [Lib.bytesCells], fun j c hj => ?_⟩
  obtain ⟨hl, rfl⟩ := List.getElem?_eq_some_iff.1 hj
  have hl' : j < s.data.size := by simpa using hl
  unfold Lib.bytesCells
  rw [Array.getElem?_append_left (by simpa using hl'), Array.getElem?_map, Array.getElem?_eq_getElem hl']
  simp
theorem OctRow.cell {W : World} {g e : Nat} {l : List UInt8} (h : OctRow W g e l) (j : Nat) (c : UInt8) (hj : l[j]? = some c) : W.cell? ⟨g, j, none⟩ = some (.int .u8 (c.toNat : Int)) := by
  obtain ⟨cur, m, hh, _, hc⟩ := h
  simp only [World.cell?, hh]
  exact hc j c hj
theorem OctRow.frozen {W : World} {g e : Nat} {l : List UInt8} (h : OctRow W g e l) (j : Nat) (hj : j < l.length) : W.frozen? ⟨g, j, none⟩ = false := by
  obtain ⟨cur, m, hh, hm, hc⟩ := h
  simp only [World.frozen?, hh]
  simp
  omega
theorem OctRow.put {W : World} {g e : Nat} {l : List UInt8} (h : OctRow W g e l) (j : Nat) (c : UInt8) : OctRow (W.setCell ⟨g, j, none⟩ (.int .u8 (c.toNat : Int))) g e (l.set j c) := by
  obtain ⟨cur, m, hh, hm, hc⟩ := h
  refine ⟨cur.setIfInBounds j (.int .u8 (c.toNat : Int)), m, ?_, by simpa using hm, fun i d hi => ?_⟩
  · simp only [World.setCell, Array.getElem?_modify, hh]
    simp
  · rw [List.getElem?_set] at hi
    rw [Array.getElem?_setIfInBounds]
    by_cases e : j = i
    · subst e
      rw [if_pos rfl] at hi
      by_cases hlt : j < l.length
      · rw [if_pos hlt] at hi
        injection hi with hi
        subst hi
        obtain ⟨hlt2, _⟩ := Array.getElem?_eq_some_iff.1 (hc j _ (List.getElem?_eq_getElem hlt))
        rw [if_pos rfl, if_pos hlt2]
      · rw [if_neg hlt] at hi
        cases hi
    · rw [if_neg e] at hi
      rw [if_neg e]
      exact hc i d hi
theorem OctRow.drewN {W : World} {g e : Nat} {l : List UInt8} (h : OctRow W g e l) (q : Nat) : OctRow (W.drewN q) g e l := h
theorem OctRow.back {W : World} {g e : Nat} {l : List UInt8} (h : OctRow W g e l) {P : Program} (src dst : Nat) (c n : Nat) (hn : n = l.length) (hs : P.underlying src = some (.slice e)) (he : P.underlying e = some (.int .u8)) (hd : P.underlying dst = some .string) :
    (convert src dst (.slice (some ⟨g, 0, none⟩) n c)).run P W = .ok (.string ⟨l.toArray⟩) W := by
  subst hn
  have := run_convert_bytes_back (P := P) W src dst e ⟨g, 0, none⟩ c l hs he hd (fun j hj => by
    have e1 : (⟨g, 0, none⟩ : Addr).add j = ⟨g, j, none⟩ := by rw [add_plain]; try rw [Nat.zero_add]
    rw [e1, h.cell j _ (List.getElem?_eq_getElem hj)])
  exact this
/-- The first i of a text's octets as small letters, the others as they are. -/
def lowTo (s : List UInt8) (i : Nat) : List UInt8 := lowL (s.take i) ++ s.drop i
theorem lowTo_len (s : List UInt8) (i : Nat) : (lowTo s i).length = s.length := by
  unfold lowTo lowL; simp; omega
theorem lowTo_at (s : List UInt8) (i : Nat) (h : i < s.length) : (lowTo s i)[i]? = some (s[i]'h) := by
  unfold lowTo lowL
  rw [List.getElem?_append_right (by simp; omega)]
  simp
  rw [show i - min i s.length = 0 from by omega]
  simp [h]
theorem lowTo_set (s : List UInt8) (i : Nat) (h : i < s.length) : (lowTo s i).set i (lowU (s[i]'h)) = lowTo s (i + 1) := by
  unfold lowTo lowL
  rw [List.set_append_right _ _ (by simp; omega)]
  simp only [List.length_map, List.length_take]
  rw [show i - min i s.length = 0 from by omega, List.drop_eq_getElem_cons h, List.set_cons_zero, ← List.take_append_getElem h, List.map_append]
  simp
def octet_Lower.f (a0 : ByteArray) : Option (ByteArray) := if a0.size ≤ 1000000000 then some (lowB a0) else none
set_option maxHeartbeats 4000000 in
set_option maxRecDepth 100000 in
theorem octet_Lower.calls (a0 : ByteArray) (r : ByteArray) (w : World) (h : octet_Lower.f a0 = some r) :
    Calls Tryd.prog 126 #[.string a0] w fun e w' => e = .returned (.string r) ∧ Below w.heap.size w w' := by
  by_cases hs : a0.size ≤ 1000000000
  · rw [octet_Lower.f, if_pos hs] at h
    obtain rfl := Option.some.inj h
    clear h
    have kb := fun W => print_bytes (P := Tryd.prog) 9 64 5 Tryd.underlying9 Tryd.underlying64 Tryd.underlying5 a0 W
    have hO := OctRow.new w 5 a0
    have hB : Below w.heap.size w (Lib.bytesWorld w 5 a0) := bytes_below (Below.refl _ _) (Nat.le_refl _) _ _
    have HO := Aside0.mk hO
    have HB := Aside0.mk hB
    clear hO hB
    have HZ := Aside0.mk (size_list a0)
    go_enter Tryd.func126, Tryd.ntmps126
    go_wp2
    go_loopg [4, 5, 10] a0.size (fun gg _ _ s10 wr => ∃ i : Nat, i ≤ a0.size ∧ a0.size - i ≤ gg ∧ s10 = .int .i64 i ∧ Aside0 (Below w.heap.size w wr) ∧ Aside0 (OctRow wr w.heap.size 5 (lowTo a0.data.toList i)))
    case atStart => exact ⟨0, Nat.zero_le _, by omega, rfl, HB, HO⟩
    case round =>
      obtain ⟨i, hi, hg, rfl, HB1, HO1⟩ := hrel
      clear HO HB
      by_cases hlt : i < a0.size
      · have hltz : decide ((i : Int) < (a0.size : Int)) = true := decide_eq_true (by omega)
        have hll : i < a0.data.toList.length := by have := HZ.out; omega
        obtain ⟨c, hc⟩ : ∃ c, a0.data.toList[i]'hll = c := ⟨_, rfl⟩
        have hcell := HO1.out.cell i c (by rw [lowTo_at _ _ hll, hc])
        have hfz := HO1.out.frozen i (by rw [lowTo_len]; exact hll)
        have hL := fun W => octet_lower.calls (c.toNat : Int) _ W (octet_lower_f c)
        have HC := Aside0.mk hc
        clear hc
        go_wp2_with (go_at_call 95; refine (hL _).mono ?_; rintro e w' ⟨rfl, hdr⟩; obtain ⟨q, rfl⟩ := hdr.out)
        go_roundg (a0.size - (i + 1))
        case measure => omega
        case rel =>
          refine ⟨i + 1, by omega, by omega, by go_num, ⟨(pw_below_drewN HB1.out q).setCell (Nat.le_refl _) _⟩, ⟨?_⟩⟩
          have h2 := (HO1.out.drewN q).put i (lowU c)
          rw [← HC.out, lowTo_set _ _ hll, HC.out] at h2
          exact h2
      · have hltz : decide ((i : Int) < (a0.size : Int)) = false := decide_eq_false (by omega)
        have hie : i = a0.size := by omega
        have HIE := Aside0.mk hie
        clear hie
        have hback := fun cp => HO1.out.back (P := Tryd.prog) 64 9 cp a0.size (by rw [lowTo_len]; exact HZ.out) Tryd.underlying64 Tryd.underlying5 Tryd.underlying9
        have HR : Aside0 ((⟨(lowTo a0.data.toList i).toArray⟩ : ByteArray) = lowB a0) := ⟨by
          unfold lowTo lowB
          rw [List.take_of_length_le (by have := HZ.out; have := HIE.out; omega), List.drop_eq_nil_of_le (by have := HZ.out; have := HIE.out; omega), List.append_nil]⟩
        go_wp2
        go_ret
        exact ⟨by rw [HR.out]; rfl, HB1.out⟩
  · rw [octet_Lower.f, if_neg hs] at h
    cases h


end Go.Proofs.YtdjmgmiaognncaaDoor.X
namespace Go.Proofs.YtdjmgmiaognncaaDoor.X
open Go.RowKit Go.Proofs.YtdjmgmiaognncaaDoorW.PrintWords Go.Proofs.YtdjmgmiaognncaaDoorW.PrintLast Go.Proofs.YtdjmgmiaognncaaDoorW.PrintMore
attribute [local go_sem] max2_int min2_int max_two min_two max_three min_three max_four min_four   -- for this text's walks alone
set_option linter.unusedVariables false
set_option linter.unusedSimpArgs false

/-! ### host_Text: function 106 -/
def host_Text.f (a0 : ByteArray) (a1 : Int) : Option (ByteArray) := (octet_Lower.f a0).bind fun t101 => (if a1 = 80 then (some t101) else (if t101.size + 1 ≤ 9223372036854775807 then ((digits_Text.f a1).bind fun t102 => (if (t101 ++ (⟨#[58]⟩ : ByteArray)).size + t102.size ≤ 9223372036854775807 then (some ((t101 ++ (⟨#[58]⟩ : ByteArray)) ++ t102)) else (none))) else (none)))
set_option maxHeartbeats 8000000 in
set_option maxRecDepth 100000 in
theorem host_Text.calls (a0 : ByteArray) (a1 : Int) (r : ByteArray) (w : World) (h : host_Text.f a0 a1 = some r) :
    Calls Tryd.prog 106 #[.string a0, .int .i64 a1] w fun e w' => e = .returned (.string r) ∧ Below w.heap.size w w' := by
  have HB := Aside0.mk (Below.refl w.heap.size w)
  have H : ((octet_Lower.f a0).bind fun t101 => (if a1 = 80 then (some t101) else (if t101.size + 1 ≤ 9223372036854775807 then ((digits_Text.f a1).bind fun t102 => (if (t101 ++ (⟨#[58]⟩ : ByteArray)).size + t102.size ≤ 9223372036854775807 then (some ((t101 ++ (⟨#[58]⟩ : ByteArray)) ++ t102)) else (none))) else (none)))) = some r := h
  clear h
  replace H := Option.bind_eq_some_iff.mp H
  obtain ⟨t101, A30, H⟩ := H
  replace H : (if a1 = 80 then (some t101) else (if t101.size + 1 ≤ 9223372036854775807 then ((digits_Text.f a1).bind fun t102 => (if (t101 ++ (⟨#[58]⟩ : ByteArray)).size + t102.size ≤ 9223372036854775807 then (some ((t101 ++ (⟨#[58]⟩ : ByteArray)) ++ t102)) else (none))) else (none))) = some r := H
  have A3 := Aside0.mk A30
  clear A30
  by_cases c4 : a1 = 80
  · rw [if_pos c4] at H
    have c4b0 : (a1 == 80) = true := beq_iff_eq.mpr c4
    have c4b1 : (a1 != 80) = false := bne_eq_false_iff_eq.mpr c4
    clear c4
    obtain rfl := Option.some.inj H
    go_enter Tryd.func106, Tryd.ntmps106
    go_wp2_with (first | ((with_reducible refine gate_callee (f := 126) rfl ?_); refine goesL_ (some 6) rfl rfl Tryd.func126 (by kernel_rfl) rfl #[.string a0] rfl (by (try simp only [List.map_toArray, List.map_cons, List.map_nil]); first | done | rfl | (simp only [List.length_drop, List.length_take]; rfl)) ?_; (with_reducible refine (octet_Lower.calls a0 t101 _ A3.out).mono ?_); rintro e w5 ⟨rfl, hb⟩; refine ⟨_, rfl, ?_⟩; have n0_ := Aside0.mk (below_step (by repeat (first | (with_reducible first | exact HB.out | apply below_alloc | apply pw_below_drewN | apply below_drew1) | exact HB.out)) hb); clear HB; have HB := n0_; clear n0_; (try clear hb); (try clear hb2); (try clear hk); (try clear hi)))
    go_ret
    exact ⟨by first | rfl | (simp [errW_none, errW_some] <;> rfl) | (simp [*, errW_none, errW_some] <;> rfl), by repeat (first | (with_reducible first | exact HB.out | apply below_alloc | apply pw_below_drewN | apply below_drew1) | exact HB.out)⟩
  · rw [if_neg c4] at H
    have c4b0 : (a1 == 80) = false := beq_eq_false_iff_ne.mpr c4
    have c4b1 : (a1 != 80) = true := bne_iff_ne.mpr c4
    by_cases c6 : t101.size + 1 ≤ 9223372036854775807
    · rw [if_pos c6] at H
      have c6b0 := eq_true c6
      have c6b1 : decide (t101.size + 1 ≤ 9223372036854775807) = true := decide_eq_true c6
      try have c6b2 : (9223372036854775807 < t101.size + 1) = False := eq_false (Nat.not_lt.2 c6)
      replace H := Option.bind_eq_some_iff.mp H
      obtain ⟨t102, A70, H⟩ := H
      replace H : (if (t101 ++ (⟨#[58]⟩ : ByteArray)).size + t102.size ≤ 9223372036854775807 then (some ((t101 ++ (⟨#[58]⟩ : ByteArray)) ++ t102)) else (none)) = some r := H
      have A7 := Aside0.mk A70
      clear A70
      by_cases c8 : (t101 ++ (⟨#[58]⟩ : ByteArray)).size + t102.size ≤ 9223372036854775807
      · rw [if_pos c8] at H
        have c8b0 := eq_true c8
        have c8b1 : decide ((t101 ++ (⟨#[58]⟩ : ByteArray)).size + t102.size ≤ 9223372036854775807) = true := decide_eq_true c8
        try have c8b2 : (9223372036854775807 < (t101 ++ (⟨#[58]⟩ : ByteArray)).size + t102.size) = False := eq_false (Nat.not_lt.2 c8)
        try have c8b3 : (9223372036854775807 < t101.size + 1 + t102.size) = False := eq_false (Nat.not_lt.2 (by have z_ := c8; rw [ByteArray.size_append] at z_; exact z_))
        obtain rfl := Option.some.inj H
        go_enter Tryd.func106, Tryd.ntmps106
        go_wp2_with (first | ((with_reducible refine gate_callee (f := 126) rfl ?_); refine goesL_ (some 6) rfl rfl Tryd.func126 (by kernel_rfl) rfl #[.string a0] rfl (by (try simp only [List.map_toArray, List.map_cons, List.map_nil]); first | done | rfl | (simp only [List.length_drop, List.length_take]; rfl)) ?_; (with_reducible refine (octet_Lower.calls a0 t101 _ A3.out).mono ?_); rintro e w9 ⟨rfl, hb⟩; refine ⟨_, rfl, ?_⟩; have n0_ := Aside0.mk (below_step (by repeat (first | (with_reducible first | exact HB.out | apply below_alloc | apply pw_below_drewN | apply below_drew1) | exact HB.out)) hb); clear HB; have HB := n0_; clear n0_; (try clear hb); (try clear hb2); (try clear hk); (try clear hi)) | ((with_reducible refine gate_callee (f := 56) rfl ?_); refine goesL_ (some 13) rfl rfl Tryd.func56 (by kernel_rfl) rfl #[.int .i64 a1] rfl (by (try simp only [List.map_toArray, List.map_cons, List.map_nil]); first | done | rfl | (simp only [List.length_drop, List.length_take]; rfl)) ?_; (with_reducible refine (digits_Text.calls a1 t102 _ A7.out).mono ?_); rintro e w10 ⟨rfl, hb⟩; refine ⟨_, rfl, ?_⟩; have n0_ := Aside0.mk (below_step (by repeat (first | (with_reducible first | exact HB.out | apply below_alloc | apply pw_below_drewN | apply below_drew1) | exact HB.out)) hb); clear HB; have HB := n0_; clear n0_; (try clear hb); (try clear hb2); (try clear hk); (try clear hi)))
        go_ret
        exact ⟨by first | rfl | (simp [errW_none, errW_some] <;> rfl) | (simp [*, errW_none, errW_some] <;> rfl), by repeat (first | (with_reducible first | exact HB.out | apply below_alloc | apply pw_below_drewN | apply below_drew1) | exact HB.out)⟩
      · rw [if_neg c8] at H
        exact absurd H (by simp)
    · rw [if_neg c6] at H
      exact absurd H (by simp)

end Go.Proofs.YtdjmgmiaognncaaDoor.X
namespace Go.Proofs.YtdjmgmiaognncaaDoor.X
open Go.RowKit Go.Proofs.YtdjmgmiaognncaaDoorW.PrintWords Go.Proofs.YtdjmgmiaognncaaDoorW.PrintLast Go.Proofs.YtdjmgmiaognncaaDoorW.PrintMore
attribute [local go_sem] max2_int min2_int max_two min_two max_three min_three max_four min_four   -- for this text's walks alone
set_option linter.unusedVariables false
set_option linter.unusedSimpArgs false

/-! ### host_Key: function 81 -/
def host_Key.f (k : Nat) (a0 : ByteArray) : Option (ByteArray × Bool) := (host_Parse.f k a0).bind fun bt101 => (if bt101.2.2 = 0 then ((host_Text.f bt101.1 bt101.2.1).bind fun t104 => (some (t104, true))) else (some ((⟨#[]⟩ : ByteArray), false)))
set_option maxHeartbeats 8000000 in
set_option maxRecDepth 100000 in
theorem host_Key.calls (k : Nat) (a0 : ByteArray) (r1 : ByteArray) (r2 : Bool) (w : World) (h : host_Key.f k a0 = some (r1, r2)) :
    Calls Tryd.prog 81 #[.string a0] w fun e w' => e = .returned (.tuple #[.string r1, .bool r2]) ∧ Below w.heap.size w w' := by
  have HB := Aside0.mk (Below.refl w.heap.size w)
  have H : ((host_Parse.f k a0).bind fun bt101 => (if bt101.2.2 = 0 then ((host_Text.f bt101.1 bt101.2.1).bind fun t104 => (some (t104, true))) else (some ((⟨#[]⟩ : ByteArray), false)))) = some (r1, r2) := h
  clear h
  replace H := Option.bind_eq_some_iff.mp H
  obtain ⟨⟨t101, t102, t103⟩, A20, H⟩ := H
  replace H : (if t103 = 0 then ((host_Text.f t101 t102).bind fun t104 => (some (t104, true))) else (some ((⟨#[]⟩ : ByteArray), false))) = some (r1, r2) := H
  have A2 := Aside0.mk A20
  clear A20
  by_cases c3 : t103 = 0
  · rw [if_pos c3] at H
    have c3b0 : (t103 == 0) = true := beq_iff_eq.mpr c3
    have c3b1 : (t103 != 0) = false := bne_eq_false_iff_eq.mpr c3
    clear c3
    replace H := Option.bind_eq_some_iff.mp H
    obtain ⟨t104, A40, H⟩ := H
    replace H : (some (t104, true)) = some (r1, r2) := H
    have A4 := Aside0.mk A40
    clear A40
    simp only [Option.some.injEq, Prod.mk.injEq] at H
    obtain ⟨rfl, rfl⟩ := H
    go_enter Tryd.func81, Tryd.ntmps81
    go_wp2_with (first | ((with_reducible refine gate_callee (f := 94) rfl ?_); refine goesL_ (some 9) rfl rfl Tryd.func94 (by kernel_rfl) rfl #[.string a0] rfl (by (try simp only [List.map_toArray, List.map_cons, List.map_nil]); first | done | rfl | (simp only [List.length_drop, List.length_take]; rfl)) ?_; (with_reducible refine (host_Parse.calls k a0 t101 t102 t103 _ A2.out).mono ?_); rintro e w5 ⟨rfl, hb⟩; refine ⟨_, rfl, ?_⟩; have n0_ := Aside0.mk (below_step (by repeat (first | (with_reducible first | exact HB.out | apply below_alloc | apply pw_below_drewN | apply below_drew1) | exact HB.out)) hb); clear HB; have HB := n0_; clear n0_; (try clear hb); (try clear hb2); (try clear hk); (try clear hi)) | ((with_reducible refine gate_callee (f := 106) rfl ?_); refine goesL_ (some 17) rfl rfl Tryd.func106 (by kernel_rfl) rfl #[.string t101, .int .i64 t102] rfl (by (try simp only [List.map_toArray, List.map_cons, List.map_nil]); first | done | rfl | (simp only [List.length_drop, List.length_take]; rfl)) ?_; (with_reducible refine (host_Text.calls t101 t102 t104 _ A4.out).mono ?_); rintro e w6 ⟨rfl, hb⟩; refine ⟨_, rfl, ?_⟩; have n0_ := Aside0.mk (below_step (by repeat (first | (with_reducible first | exact HB.out | apply below_alloc | apply pw_below_drewN | apply below_drew1) | exact HB.out)) hb); clear HB; have HB := n0_; clear n0_; (try clear hb); (try clear hb2); (try clear hk); (try clear hi)))
    go_ret2
    exact ⟨by first | rfl | (simp [errW_none, errW_some] <;> rfl) | (simp [*, errW_none, errW_some] <;> rfl), by repeat (first | (with_reducible first | exact HB.out | apply below_alloc | apply pw_below_drewN | apply below_drew1) | exact HB.out)⟩
  · rw [if_neg c3] at H
    have c3b0 : (t103 == 0) = false := beq_eq_false_iff_ne.mpr c3
    have c3b1 : (t103 != 0) = true := bne_iff_ne.mpr c3
    simp only [Option.some.injEq, Prod.mk.injEq] at H
    obtain ⟨rfl, rfl⟩ := H
    go_enter Tryd.func81, Tryd.ntmps81
    go_wp2_with (first | ((with_reducible refine gate_callee (f := 94) rfl ?_); refine goesL_ (some 9) rfl rfl Tryd.func94 (by kernel_rfl) rfl #[.string a0] rfl (by (try simp only [List.map_toArray, List.map_cons, List.map_nil]); first | done | rfl | (simp only [List.length_drop, List.length_take]; rfl)) ?_; (with_reducible refine (host_Parse.calls k a0 t101 t102 t103 _ A2.out).mono ?_); rintro e w7 ⟨rfl, hb⟩; refine ⟨_, rfl, ?_⟩; have n0_ := Aside0.mk (below_step (by repeat (first | (with_reducible first | exact HB.out | apply below_alloc | apply pw_below_drewN | apply below_drew1) | exact HB.out)) hb); clear HB; have HB := n0_; clear n0_; (try clear hb); (try clear hb2); (try clear hk); (try clear hi)))
    go_ret2
    exact ⟨by first | rfl | (simp [errW_none, errW_some] <;> rfl) | (simp [*, errW_none, errW_some] <;> rfl), by repeat (first | (with_reducible first | exact HB.out | apply below_alloc | apply pw_below_drewN | apply below_drew1) | exact HB.out)⟩

end Go.Proofs.YtdjmgmiaognncaaDoor.X
