/- Part 1 of the texts behind the claim on ConnectionAlive: contracts of the functions that it reaches, and plain laws about them. No conditions of its own. -/
import Derived.Test.YtkjkbenmoogdjaaProg
import Derived.Below
import Derived.Deep.Draws
import Derived.Deep.AppendLies
import Derived.Maps.AppendAt
import Derived.OwnWalk
import Derived.Laws.BytesArg
import Derived.Laws.MakeOwn
import Derived.Laws.OwnMore
import Derived.Deep.OwnRows
import Derived.Tactics
import Derived.Lib.ConvBytes
import Derived.Laws.Slices
import Derived.WalkKit
import Derived.KernelRfl
import Derived.RowKit3
import Derived.Deep.LoopGhost
import Derived.Deep.QuietTactic
import Derived.BigQuiet
import Derived.WideLaws
import Derived.Deep.DeepCutAuto
import Derived.Deep.CutBlock
import Derived.Deep.RegionHeld3
import Derived.Laws.Rows
import Derived.Lib.AppendStr
import Derived.ArgAppend
import Derived.Laws.IdiomCopy
import Derived.OrdersHeld
import Derived.Laws.BitsLemmas
import Derived.RowKit
import Derived.Test.YtkjkbenmoogdjaaWWords
import Derived.Test.YtkjkbenmoogdjaaWLast
import Derived.Test.YtkjkbenmoogdjaaWTab
import Derived.Test.YtkjkbenmoogdjaaWFour
import Derived.Test.YtkjkbenmoogdjaaWQPut
import Derived.Test.YtkjkbenmoogdjaaWApart
import Derived.Test.YtkjkbenmoogdjaaWArr
import Derived.Test.YtkjkbenmoogdjaaWZeros
import Derived.Test.YtkjkbenmoogdjaaWFoot
import Derived.Test.YtkjkbenmoogdjaaWKept
import Derived.Test.YtkjkbenmoogdjaaWShare
import Derived.Test.YtkjkbenmoogdjaaWN
import Derived.Test.YtkjkbenmoogdjaaWFootNe
import Derived.Test.YtkjkbenmoogdjaaWAt
import Derived.Test.YtkjkbenmoogdjaaWEqStruct
import Derived.Test.YtkjkbenmoogdjaaWRepsOne
import Derived.Test.YtkjkbenmoogdjaaWInv
import Derived.Test.YtkjkbenmoogdjaaWInvWords
import Derived.Test.YtkjkbenmoogdjaaWGuard
import Derived.Test.YtkjkbenmoogdjaaWNEv
import Derived.Test.YtkjkbenmoogdjaaWMore
import Derived.LoopIn
import Derived.LoopNIn
import Derived.OwnWalkIn
import Derived.RangeFuncBox
import Derived.RangeFuncCalls
import Derived.RangeFuncLeaves
import Derived.Shelf.Abstract
import Derived.TacticsInMore
import Derived.Lib.Strings
import Derived.Shelf.GgClosure.StringsIndexFunc
import Derived.Test.YtkjkbenmoogdjaaShelf
import Derived.Shelf.SlicesQ.IndexFunc
import Derived.Lib.SliceRun
import Derived.Shelf.SlicesE.DeleteFunc
import Derived.RangeFuncRecord
namespace Go.Proofs.Ytkjkbenmoogdjaa.X
open Go.RowKit Go.Proofs.YtkjkbenmoogdjaaW.PrintWords Go.Proofs.YtkjkbenmoogdjaaW.PrintLast Go.Proofs.YtkjkbenmoogdjaaW.PrintMore
attribute [local go_sem] max2_int min2_int max_two min_two max_three min_three max_four min_four   -- for this text's walks alone
set_option linter.unusedVariables false
set_option linter.unusedSimpArgs false



def errW : Option Int → Value
  | none => .nilIface
  | some c => .iface 0 (.int .i64 c)
theorem errW_none : errW none = .nilIface := rfl
theorem errW_some (c : Int) : errW (some c) = .iface 0 (.int .i64 c) := rfl

theorem info5 : (Try.prog.info? 5).map (fun i => (i.zero, i.size, i.bytes)) = some (some (.int .u8 0), 1, 1) := by kernel_rfl
theorem info9 : (Try.prog.info? 9).map (fun i => (i.zero, i.size, i.bytes)) = some (some (.string ⟨#[]⟩), 1, 16) := by kernel_rfl
theorem info23 : (Try.prog.info? 23).map (fun i => (i.zero, i.size, i.bytes)) = some (some (.agg #[(.string ⟨#[]⟩), (.string ⟨#[]⟩)]), 2, 32) := by kernel_rfl
-- the values' own types
/-! #### struct type 23 -/
structure S23 where
  f0 : ByteArray
  f1 : ByteArray
def z23 : S23 := ⟨(⟨#[]⟩ : ByteArray), (⟨#[]⟩ : ByteArray)⟩
def k23 : Kd S23 := Kd.iso (Kd.pair Kd.string Kd.string) (fun x : S23 => (x.f0, x.f1))
theorem k23_open {w : World} {x : S23} {cs : List Value} (h : k23.K w x cs) : cs = [.string x.f0, .string x.f1] := by
  obtain ⟨_, _, rfl, rfl, rfl⟩ := h
  exact rfl
theorem k23_openM {w : World} {base : Nat} {ok : Nat → Prop} {x : S23} {cs : List Value} (h : k23.M w base ok x cs) : cs = [.string x.f0, .string x.f1] := by
  obtain ⟨_, _, rfl, rfl, rfl⟩ := h
  exact rfl
theorem k23_mk (w : World) (x : S23)  : k23.K w x [.string x.f0, .string x.f1] := ⟨[.string x.f0], [.string x.f1], rfl, rfl, rfl⟩
theorem k23_mkM (w : World) (base : Nat) (ok : Nat → Prop) (x : S23)  : k23.M w base ok x [.string x.f0, .string x.f1] := ⟨[.string x.f0], [.string x.f1], rfl, rfl, rfl⟩
def rd_T23 (xs : List S23) (i : Int) : S23 := xs.getD i.toNat z23
theorem at_T23 {w : World} {A : Option Addr} {n : Nat} {xs : List S23} (h : Kd.C k23 w A n xs) (i : Int) (h0 : 0 ≤ i) (h1 : i < n) : ∃ ad , A = some ad ∧ w.cell? (ad.add (i.toNat * 2)) = some (.string (rd_T23 xs i).f0) ∧ w.cell? ⟨(ad.add (i.toNat * 2)).block, (ad.add (i.toNat * 2)).off + 1, none⟩ = some (.string (rd_T23 xs i).f1) := by
  obtain ⟨ad, c, e, _, hK, hc0⟩ := Kd.C_get h z23 i h0 h1
  have hc : ∀ j u, c[j]? = some u → w.cell? (ad.add (i.toNat * 2 + j)) = some u := hc0
  obtain rfl := k23_open hK
  exact ⟨ad, e, hc 0 _ rfl, by rw [← add_field _ _ 1 (by omega)]; exact hc 1 _ rfl⟩

/-! #### struct type 52 -/
structure S52 where
  f0 : Int
  f1 : Int
def z52 : S52 := ⟨(0 : Int), (0 : Int)⟩
def k52 : Kd S52 := Kd.iso (Kd.pair (Kd.int .i64) (Kd.int .i64)) (fun x : S52 => (x.f0, x.f1))
theorem k52_open {w : World} {x : S52} {cs : List Value} (h : k52.K w x cs) : cs = [.int .i64 x.f0, .int .i64 x.f1] := by
  obtain ⟨_, _, rfl, rfl, rfl⟩ := h
  exact rfl
theorem k52_openM {w : World} {base : Nat} {ok : Nat → Prop} {x : S52} {cs : List Value} (h : k52.M w base ok x cs) : cs = [.int .i64 x.f0, .int .i64 x.f1] := by
  obtain ⟨_, _, rfl, rfl, rfl⟩ := h
  exact rfl
theorem k52_mk (w : World) (x : S52)  : k52.K w x [.int .i64 x.f0, .int .i64 x.f1] := ⟨[.int .i64 x.f0], [.int .i64 x.f1], rfl, rfl, rfl⟩
theorem k52_mkM (w : World) (base : Nat) (ok : Nat → Prop) (x : S52)  : k52.M w base ok x [.int .i64 x.f0, .int .i64 x.f1] := ⟨[.int .i64 x.f0], [.int .i64 x.f1], rfl, rfl, rfl⟩
def rd_T52 (xs : List S52) (i : Int) : S52 := xs.getD i.toNat z52
theorem at_T52 {w : World} {A : Option Addr} {n : Nat} {xs : List S52} (h : Kd.C k52 w A n xs) (i : Int) (h0 : 0 ≤ i) (h1 : i < n) : ∃ ad , A = some ad ∧ w.cell? (ad.add (i.toNat * 2)) = some (.int .i64 (rd_T52 xs i).f0) ∧ w.cell? ⟨(ad.add (i.toNat * 2)).block, (ad.add (i.toNat * 2)).off + 1, none⟩ = some (.int .i64 (rd_T52 xs i).f1) := by
  obtain ⟨ad, c, e, _, hK, hc0⟩ := Kd.C_get h z52 i h0 h1
  have hc : ∀ j u, c[j]? = some u → w.cell? (ad.add (i.toNat * 2 + j)) = some u := hc0
  obtain rfl := k52_open hK
  exact ⟨ad, e, hc 0 _ rfl, by rw [← add_field _ _ 1 (by omega)]; exact hc 1 _ rfl⟩

end Go.Proofs.Ytkjkbenmoogdjaa.X
namespace Go.Proofs.Ytkjkbenmoogdjaa.X
open Go.RowKit Go.Proofs.YtkjkbenmoogdjaaW.PrintWords Go.Proofs.YtkjkbenmoogdjaaW.PrintLast Go.Proofs.YtkjkbenmoogdjaaW.PrintMore
attribute [local go_sem] max2_int min2_int max_two min_two max_three min_three max_four min_four   -- for this text's walks alone
set_option linter.unusedVariables false
set_option linter.unusedSimpArgs false

/-! ### abutmentlaw10_Few: function 27 -/
def abutmentlaw10_Few.l0 : Nat → List (S23) → Int → Int → Option (Bool)
  | 0, _, _, _ => none
  | k + 1, x8, x9, x10 => if x10 < x9 then (if 0 ≤ x10 then (if x10 < (x8.length : Int) then (if (((rd_T23 x8 x10).f0).size : Int) > 100 then (some false) else (if (((rd_T23 x8 x10).f1).size : Int) > 300 then (some false) else (abutmentlaw10_Few.l0 k x8 x9 (wrap64 (x10 + 1))))) else (none)) else (none)) else (some true)
def abutmentlaw10_Few.f (k : Nat) (l0 : List (S23)) : Option (Bool) := if (l0.length : Int) > 40 then (some false) else (abutmentlaw10_Few.l0 k l0 (l0.length : Int) 0)
theorem abutmentlaw10_Few.mono_l : ∀ k, (∀ y0 y1 y2, LeO (abutmentlaw10_Few.l0 k y0 y1 y2) (abutmentlaw10_Few.l0 (k + 1) y0 y1 y2))
  | 0 => fun _ _ _ r h => by simp [abutmentlaw10_Few.l0] at h
  | k + 1 => by
    have ih0 := abutmentlaw10_Few.mono_l k
    · intro y0 y1 y2
      unfold abutmentlaw10_Few.l0
      repeat' first
      | (with_reducible exact ih0 _ _ _)
      | (with_reducible exact LeO.refl _)
      | (with_reducible exact LeO.none _)
      | (with_reducible refine LeO.ite ?_ ?_)
      | (with_reducible refine LeO.bind ?_ (fun _ => ?_))
      | exact ih0 _ _ _
      | exact LeO.none _
      | refine LeO.ite ?_ ?_
      | refine LeO.bind ?_ (fun _ => ?_)
theorem abutmentlaw10_Few.mono : ∀ a0 k, LeO (abutmentlaw10_Few.f k a0) (abutmentlaw10_Few.f (k + 1) a0) := by
  intro a0 k
  have ih0 := abutmentlaw10_Few.mono_l k
  unfold abutmentlaw10_Few.f
  repeat' first
      | (with_reducible exact ih0 _ _ _)
      | (with_reducible exact LeO.refl _)
      | (with_reducible exact LeO.none _)
      | (with_reducible refine LeO.ite ?_ ?_)
      | (with_reducible refine LeO.bind ?_ (fun _ => ?_))
      | exact ih0 _ _ _
      | exact LeO.none _
      | refine LeO.ite ?_ ?_
      | refine LeO.bind ?_ (fun _ => ?_)
set_option maxHeartbeats 8000000 in
set_option maxRecDepth 100000 in
theorem abutmentlaw10_Few.calls (k : Nat) (A0 : Option Addr) (c0 : Nat) (l0 : List (S23)) (r : Bool) (w : World) (hr0 : Kd.C k23 w A0 l0.length l0) (hc0 : l0.length ≤ c0) (h : abutmentlaw10_Few.f k l0 = some r) :
    Calls Try.prog 27 #[.slice A0 l0.length c0] w fun e w' => e = .returned (.bool r) ∧ Below w.heap.size w w' := by
  have hu23 := Try.underlying23
  have HR0 := Aside0.mk hr0
  have HC0 := Aside0.mk hc0
  clear hr0 hc0
  have HB := Aside0.mk (Below.refl w.heap.size w)
  have H : (if (l0.length : Int) > 40 then (some false) else (abutmentlaw10_Few.l0 k l0 (l0.length : Int) 0)) = some r := h
  clear h
  by_cases c2 : (l0.length : Int) > 40
  · rw [if_pos c2] at H
    have c2b0 : decide (40 < (l0.length : Int)) = true := decide_eq_true c2
    have c2b1 : decide (40 < l0.length) = true := decide_eq_true (by omega)
    clear c2
    obtain rfl := Option.some.inj H
    go_enter Try.func27, Try.ntmps27
    go_wp2
    go_ret
    exact ⟨by first | rfl | (simp [errW_none, errW_some] <;> rfl) | (simp [*, errW_none, errW_some] <;> rfl), by repeat (first | (with_reducible first | exact HB.out | apply below_alloc | apply pw_below_drewN | apply below_drew1) | exact HB.out)⟩
  · rw [if_neg c2] at H
    have c2b0 : decide (40 < (l0.length : Int)) = false := decide_eq_false c2
    have c2b1 : decide (40 < l0.length) = false := decide_eq_false (by omega)
    clear c2
    have H' := Aside0.mk H
    clear H
    go_enter Try.func27, Try.ntmps27
    go_wp2
    go_loopg [10] k (fun kq v10 w' => ∃ (x10_1 : Int), v10 = .int .i64 x10_1 ∧ Aside0 (abutmentlaw10_Few.l0 kq l0 (l0.length : Int) x10_1 = some r) ∧ Aside0 (kq ≤ k) ∧ Aside0 (Below w.heap.size w w'))
    case atStart => exact ⟨(0), (by first | rfl | (simp; done) | (simp [*]; done)), H', ⟨Nat.le_refl _⟩, ⟨by repeat (first | (with_reducible first | exact HB.out | apply below_alloc | apply pw_below_drewN | apply below_drew1) | exact HB.out)⟩⟩
    case round =>
      clear H'
      try clear c2
      try clear c2b0
      try clear c2b1
      try clear p2
      obtain ⟨x10_1, rfl, HA, HK1, HB⟩ := hrel
      cases gk with
      | zero => exact absurd HA.out (by simp [abutmentlaw10_Few.l0])
      | succ k1 =>
        have H := HA.out
        clear HA
        simp only [abutmentlaw10_Few.l0] at H
        by_cases c3 : x10_1 < (l0.length : Int)
        · rw [if_pos c3] at H
          have c3b0 : decide (x10_1 < (l0.length : Int)) = true := decide_eq_true c3
          clear c3
          by_cases c4 : 0 ≤ x10_1
          · rw [if_pos c4] at H
            have c4b0 : decide (0 ≤ x10_1) = true := decide_eq_true c4
            clear c4
            by_cases c5 : x10_1 < (l0.length : Int)
            · rw [if_pos c5] at H
              have c5b0 : decide (x10_1 < (l0.length : Int)) = true := decide_eq_true c5
              clear c5
              by_cases c6 : (((rd_T23 l0 x10_1).f0).size : Int) > 100
              · rw [if_pos c6] at H
                have c6b0 : decide (100 < (((rd_T23 l0 x10_1).f0).size : Int)) = true := decide_eq_true c6
                have c6b1 : decide (100 < ((rd_T23 l0 x10_1).f0).size) = true := decide_eq_true (by omega)
                clear c6
                obtain rfl := Option.some.inj H
                have p101 : 0 ≤ (x10_1 : Int) := of_decide_eq_true (by first | (with_reducible assumption) | assumption)
                have q101 : x10_1 < (l0.length : Int) := of_decide_eq_true (by first | (with_reducible assumption) | assumption)
                obtain ⟨ad101, e101, hx101_0, hx101_1⟩ := at_T23 HR0.out x10_1 p101 q101
                cases e101
                replace hx101_0 := (HB.out.cell (World.block_lt_of_cell? w _ hx101_0)).trans hx101_0
                replace hx101_1 := (HB.out.cell (World.block_lt_of_cell? w _ hx101_1)).trans hx101_1
                replace p101 := eq_true p101
                replace q101 := eq_true q101
                go_wp2_with (first | ((with_reducible refine gate_dst (N := 4) rfl ?_); (try (refine gate_guard (by rfl) ?_; dsimp only)); refine box_event ?hg (N := 4) ?hd (cs := #[.string (⟨#[]⟩ : ByteArray), .string (⟨#[]⟩ : ByteArray)]) (t := 23) ?hr ?_; (case hd => rfl); (case hg => rfl); (case hr => first | (go_simp; done) | (go_simp; rfl)); intro gb102 hg w7 hbox hb; have n0_ := Aside0.mk (below_step (by repeat (first | (with_reducible first | exact HB.out | apply below_alloc | apply pw_below_drewN | apply below_drew1) | exact HB.out)) hb); have n1_ := Aside0.mk (hbox); have n2_ := Aside0.mk ((by rw [hg]; exact (below_size (by repeat (first | (with_reducible first | exact HB.out | apply below_alloc | apply pw_below_drewN | apply below_drew1) | exact HB.out))) : w.heap.size ≤ gb102)); have n3_ := Aside0.mk ((by rw [hg]; exact (below_size (by repeat (first | (with_reducible first | exact HB.out | apply below_alloc | apply pw_below_drewN | apply below_drew1) | exact HB.out))) : w.heap.size ≤ gb102)); clear HB; have HB := n0_; have BK102 := n1_; have GW102 := n2_; have GE102 := n3_; clear n0_ n1_ n2_ n3_; clear hb hbox hg; have hcz8_0 : w7.cell? ⟨gb102, 0, none⟩ = some (.string (⟨#[]⟩ : ByteArray)) := (blk_cell BK102.out 0).trans rfl; have hcz8_1 : w7.cell? ⟨gb102, 1, none⟩ = some (.string (⟨#[]⟩ : ByteArray)) := (blk_cell BK102.out 1).trans rfl; have hfz8_0 := blk_frozen BK102.out 0; have hfz8_1 := blk_frozen BK102.out 1))
                go_ret
                exact ⟨by first | rfl | (simp [errW_none, errW_some] <;> rfl) | (simp [*, errW_none, errW_some] <;> rfl), by repeat (first | (with_reducible first | exact HB.out | apply below_alloc | apply pw_below_drewN | apply below_drew1 | refine below_set ?_ GE102.out) | exact HB.out)⟩
              · rw [if_neg c6] at H
                have c6b0 : decide (100 < (((rd_T23 l0 x10_1).f0).size : Int)) = false := decide_eq_false c6
                have c6b1 : decide (100 < ((rd_T23 l0 x10_1).f0).size) = false := decide_eq_false (by omega)
                clear c6
                by_cases c9 : (((rd_T23 l0 x10_1).f1).size : Int) > 300
                · rw [if_pos c9] at H
                  have c9b0 : decide (300 < (((rd_T23 l0 x10_1).f1).size : Int)) = true := decide_eq_true c9
                  have c9b1 : decide (300 < ((rd_T23 l0 x10_1).f1).size) = true := decide_eq_true (by omega)
                  clear c9
                  obtain rfl := Option.some.inj H
                  have p101 : 0 ≤ (x10_1 : Int) := of_decide_eq_true (by first | (with_reducible assumption) | assumption)
                  have q101 : x10_1 < (l0.length : Int) := of_decide_eq_true (by first | (with_reducible assumption) | assumption)
                  obtain ⟨ad101, e101, hx101_0, hx101_1⟩ := at_T23 HR0.out x10_1 p101 q101
                  cases e101
                  replace hx101_0 := (HB.out.cell (World.block_lt_of_cell? w _ hx101_0)).trans hx101_0
                  replace hx101_1 := (HB.out.cell (World.block_lt_of_cell? w _ hx101_1)).trans hx101_1
                  replace p101 := eq_true p101
                  replace q101 := eq_true q101
                  go_wp2_with (first | ((with_reducible refine gate_dst (N := 4) rfl ?_); (try (refine gate_guard (by rfl) ?_; dsimp only)); refine box_event ?hg (N := 4) ?hd (cs := #[.string (⟨#[]⟩ : ByteArray), .string (⟨#[]⟩ : ByteArray)]) (t := 23) ?hr ?_; (case hd => rfl); (case hg => rfl); (case hr => first | (go_simp; done) | (go_simp; rfl)); intro gb102 hg w10 hbox hb; have n0_ := Aside0.mk (below_step (by repeat (first | (with_reducible first | exact HB.out | apply below_alloc | apply pw_below_drewN | apply below_drew1) | exact HB.out)) hb); have n1_ := Aside0.mk (hbox); have n2_ := Aside0.mk ((by rw [hg]; exact (below_size (by repeat (first | (with_reducible first | exact HB.out | apply below_alloc | apply pw_below_drewN | apply below_drew1) | exact HB.out))) : w.heap.size ≤ gb102)); have n3_ := Aside0.mk ((by rw [hg]; exact (below_size (by repeat (first | (with_reducible first | exact HB.out | apply below_alloc | apply pw_below_drewN | apply below_drew1) | exact HB.out))) : w.heap.size ≤ gb102)); clear HB; have HB := n0_; have BK102 := n1_; have GW102 := n2_; have GE102 := n3_; clear n0_ n1_ n2_ n3_; clear hb hbox hg; have hcz11_0 : w10.cell? ⟨gb102, 0, none⟩ = some (.string (⟨#[]⟩ : ByteArray)) := (blk_cell BK102.out 0).trans rfl; have hcz11_1 : w10.cell? ⟨gb102, 1, none⟩ = some (.string (⟨#[]⟩ : ByteArray)) := (blk_cell BK102.out 1).trans rfl; have hfz11_0 := blk_frozen BK102.out 0; have hfz11_1 := blk_frozen BK102.out 1))
                  go_ret
                  exact ⟨by first | rfl | (simp [errW_none, errW_some] <;> rfl) | (simp [*, errW_none, errW_some] <;> rfl), by repeat (first | (with_reducible first | exact HB.out | apply below_alloc | apply pw_below_drewN | apply below_drew1 | refine below_set ?_ GE102.out) | exact HB.out)⟩
                · rw [if_neg c9] at H
                  have c9b0 : decide (300 < (((rd_T23 l0 x10_1).f1).size : Int)) = false := decide_eq_false c9
                  have c9b1 : decide (300 < ((rd_T23 l0 x10_1).f1).size) = false := decide_eq_false (by omega)
                  clear c9
                  have H' := Aside0.mk H
                  clear H
                  have p101 : 0 ≤ (x10_1 : Int) := of_decide_eq_true (by first | (with_reducible assumption) | assumption)
                  have q101 : x10_1 < (l0.length : Int) := of_decide_eq_true (by first | (with_reducible assumption) | assumption)
                  obtain ⟨ad101, e101, hx101_0, hx101_1⟩ := at_T23 HR0.out x10_1 p101 q101
                  cases e101
                  replace hx101_0 := (HB.out.cell (World.block_lt_of_cell? w _ hx101_0)).trans hx101_0
                  replace hx101_1 := (HB.out.cell (World.block_lt_of_cell? w _ hx101_1)).trans hx101_1
                  replace p101 := eq_true p101
                  replace q101 := eq_true q101
                  go_wp2_with (first | ((with_reducible refine gate_dst (N := 4) rfl ?_); (try (refine gate_guard (by rfl) ?_; dsimp only)); refine box_event ?hg (N := 4) ?hd (cs := #[.string (⟨#[]⟩ : ByteArray), .string (⟨#[]⟩ : ByteArray)]) (t := 23) ?hr ?_; (case hd => rfl); (case hg => rfl); (case hr => first | (go_simp; done) | (go_simp; rfl)); intro gb102 hg w12 hbox hb; have n0_ := Aside0.mk (below_step (by repeat (first | (with_reducible first | exact HB.out | apply below_alloc | apply pw_below_drewN | apply below_drew1) | exact HB.out)) hb); have n1_ := Aside0.mk (hbox); have n2_ := Aside0.mk ((by rw [hg]; exact (below_size (by repeat (first | (with_reducible first | exact HB.out | apply below_alloc | apply pw_below_drewN | apply below_drew1) | exact HB.out))) : w.heap.size ≤ gb102)); have n3_ := Aside0.mk ((by rw [hg]; exact (below_size (by repeat (first | (with_reducible first | exact HB.out | apply below_alloc | apply pw_below_drewN | apply below_drew1) | exact HB.out))) : w.heap.size ≤ gb102)); clear HB; have HB := n0_; have BK102 := n1_; have GW102 := n2_; have GE102 := n3_; clear n0_ n1_ n2_ n3_; clear hb hbox hg; have hcz13_0 : w12.cell? ⟨gb102, 0, none⟩ = some (.string (⟨#[]⟩ : ByteArray)) := (blk_cell BK102.out 0).trans rfl; have hcz13_1 : w12.cell? ⟨gb102, 1, none⟩ = some (.string (⟨#[]⟩ : ByteArray)) := (blk_cell BK102.out 1).trans rfl; have hfz13_0 := blk_frozen BK102.out 0; have hfz13_1 := blk_frozen BK102.out 1))
                  go_roundg k1
                  case measure => have := HK1.out; omega
                  case rel => exact ⟨(wrap64 (x10_1 + 1)), (by first | rfl | (simp; done) | (simp [*]; done)), H', ⟨by have := HK1.out; omega⟩, ⟨by repeat (first | (with_reducible first | exact HB.out | apply below_alloc | apply pw_below_drewN | apply below_drew1 | refine below_set ?_ GE102.out) | exact HB.out)⟩⟩
            · rw [if_neg c5] at H
              exact absurd H (by simp)
          · rw [if_neg c4] at H
            exact absurd H (by simp)
        · rw [if_neg c3] at H
          have c3b0 : decide (x10_1 < (l0.length : Int)) = false := decide_eq_false c3
          clear c3
          obtain rfl := Option.some.inj H
          go_wp2
          go_ret
          exact ⟨by first | rfl | (simp [errW_none, errW_some] <;> rfl) | (simp [*, errW_none, errW_some] <;> rfl), by repeat (first | (with_reducible first | exact HB.out | apply below_alloc | apply pw_below_drewN | apply below_drew1) | exact HB.out)⟩

end Go.Proofs.Ytkjkbenmoogdjaa.X
namespace Go.Proofs.Ytkjkbenmoogdjaa.X
open Go.RowKit Go.Proofs.YtkjkbenmoogdjaaW.PrintWords Go.Proofs.YtkjkbenmoogdjaaW.PrintLast Go.Proofs.YtkjkbenmoogdjaaW.PrintMore
attribute [local go_sem] max2_int min2_int max_two min_two max_three min_three max_four min_four   -- for this text's walks alone
set_option linter.unusedVariables false
set_option linter.unusedSimpArgs false

/-! ### octet_blank: function 82 -/
def octet_blank.f (a0 : Int) : Option (Bool) := if a0 = 32 then (some true) else (some (a0 == 9))
set_option maxHeartbeats 8000000 in
set_option maxRecDepth 100000 in
theorem octet_blank.calls (a0 : Int) (r : Bool) (w : World) (h : octet_blank.f a0 = some r) :
    Calls Try.prog 82 #[.int .u8 a0] w fun e w' => e = .returned (.bool r) ∧ Drawn0 w w' := by
  have H : (if a0 = 32 then (some true) else (some (a0 == 9))) = some r := h
  clear h
  by_cases c2 : a0 = 32
  · rw [if_pos c2] at H
    have c2b0 : (a0 == 32) = true := beq_iff_eq.mpr c2
    have c2b1 : (a0 != 32) = false := bne_eq_false_iff_eq.mpr c2
    clear c2
    obtain rfl := Option.some.inj H
    go_enter Try.func82, Try.ntmps82
    go_wp2
    go_ret
    exact ⟨by first | rfl | (simp; done) | (simp [*]; done), by repeat (first | exact Drawn0.refl _ | apply Drawn0.step)⟩
  · rw [if_neg c2] at H
    have c2b0 : (a0 == 32) = false := beq_eq_false_iff_ne.mpr c2
    have c2b1 : (a0 != 32) = true := bne_iff_ne.mpr c2
    obtain rfl := Option.some.inj H
    go_enter Try.func82, Try.ntmps82
    go_wp2
    go_ret
    exact ⟨by first | rfl | (simp; done) | (simp [*]; done), by repeat (first | exact Drawn0.refl _ | apply Drawn0.step)⟩

end Go.Proofs.Ytkjkbenmoogdjaa.X
namespace Go.Proofs.Ytkjkbenmoogdjaa.X
open Go.RowKit Go.Proofs.YtkjkbenmoogdjaaW.PrintWords Go.Proofs.YtkjkbenmoogdjaaW.PrintLast Go.Proofs.YtkjkbenmoogdjaaW.PrintMore
attribute [local go_sem] max2_int min2_int max_two min_two max_three min_three max_four min_four   -- for this text's walks alone
set_option linter.unusedVariables false
set_option linter.unusedSimpArgs false

/-! ### octet_Trim: function 49 -/
mutual
def octet_Trim.j1 : Nat → ByteArray → Int → Int → Option (ByteArray)
  | 0, _, _, _ => none
  | k + 1, x0, x3, x4 => octet_Trim.l1 k x0 x3 x4
def octet_Trim.l1 : Nat → ByteArray → Int → Int → Option (ByteArray)
  | 0, _, _, _ => none
  | k + 1, x0, x3, x4 => if x3 < x4 then (if 0 ≤ (wrap64 (x4 - 1)) then (if (wrap64 (x4 - 1)) < (x0.size : Int) then ((octet_blank.f (bt x0 (wrap64 (x4 - 1)))).bind fun t102 => (if t102 = true then (octet_Trim.l1 k x0 x3 (wrap64 (x4 - 1))) else (if 0 ≤ x3 then (if x3 ≤ x4 then (if x4 ≤ (x0.size : Int) then (some (x0.extract (x3 : Int).toNat (x4 : Int).toNat)) else (none)) else (none)) else (none)))) else (none)) else (none)) else (if 0 ≤ x3 then (if x3 ≤ x4 then (if x4 ≤ (x0.size : Int) then (some (x0.extract (x3 : Int).toNat (x4 : Int).toNat)) else (none)) else (none)) else (none))
def octet_Trim.l0 : Nat → ByteArray → Int → Int → Option (ByteArray)
  | 0, _, _, _ => none
  | k + 1, x0, x3, x4 => if x3 < x4 then (if 0 ≤ x3 then (if x3 < (x0.size : Int) then ((octet_blank.f (bt x0 x3)).bind fun t101 => (if t101 = true then (octet_Trim.l0 k x0 (wrap64 (x3 + 1)) x4) else (octet_Trim.j1 k x0 x3 x4))) else (none)) else (none)) else (octet_Trim.j1 k x0 x3 x4)
end
def octet_Trim.f (k : Nat) (a0 : ByteArray) : Option (ByteArray) := octet_Trim.l0 k a0 0 (a0.size : Int)
theorem octet_Trim.mono_l : ∀ k, (∀ y0 y1 y2, LeO (octet_Trim.j1 k y0 y1 y2) (octet_Trim.j1 (k + 1) y0 y1 y2)) ∧ (∀ y0 y1 y2, LeO (octet_Trim.l1 k y0 y1 y2) (octet_Trim.l1 (k + 1) y0 y1 y2)) ∧ (∀ y0 y1 y2, LeO (octet_Trim.l0 k y0 y1 y2) (octet_Trim.l0 (k + 1) y0 y1 y2))
  | 0 => ⟨fun _ _ _ r h => by simp [octet_Trim.j1] at h, fun _ _ _ r h => by simp [octet_Trim.l1] at h, fun _ _ _ r h => by simp [octet_Trim.l0] at h⟩
  | k + 1 => by
    obtain ⟨ih0, ih1, ih2⟩ := octet_Trim.mono_l k
    refine ⟨?_, ?_, ?_⟩
    · intro y0 y1 y2
      unfold octet_Trim.j1
      repeat' first
      | (with_reducible exact ih0 _ _ _)
      | (with_reducible exact ih1 _ _ _)
      | (with_reducible exact ih2 _ _ _)
      | (with_reducible exact LeO.refl _)
      | (with_reducible exact LeO.none _)
      | (with_reducible refine LeO.ite ?_ ?_)
      | (with_reducible refine LeO.bind ?_ (fun _ => ?_))
      | exact ih0 _ _ _
      | exact ih1 _ _ _
      | exact ih2 _ _ _
      | exact LeO.none _
      | refine LeO.ite ?_ ?_
      | refine LeO.bind ?_ (fun _ => ?_)
    · intro y0 y1 y2
      unfold octet_Trim.l1
      repeat' first
      | (with_reducible exact ih0 _ _ _)
      | (with_reducible exact ih1 _ _ _)
      | (with_reducible exact ih2 _ _ _)
      | (with_reducible exact LeO.refl _)
      | (with_reducible exact LeO.none _)
      | (with_reducible refine LeO.ite ?_ ?_)
      | (with_reducible refine LeO.bind ?_ (fun _ => ?_))
      | exact ih0 _ _ _
      | exact ih1 _ _ _
      | exact ih2 _ _ _
      | exact LeO.none _
      | refine LeO.ite ?_ ?_
      | refine LeO.bind ?_ (fun _ => ?_)
    · intro y0 y1 y2
      unfold octet_Trim.l0
      repeat' first
      | (with_reducible exact ih0 _ _ _)
      | (with_reducible exact ih1 _ _ _)
      | (with_reducible exact ih2 _ _ _)
      | (with_reducible exact LeO.refl _)
      | (with_reducible exact LeO.none _)
      | (with_reducible refine LeO.ite ?_ ?_)
      | (with_reducible refine LeO.bind ?_ (fun _ => ?_))
      | exact ih0 _ _ _
      | exact ih1 _ _ _
      | exact ih2 _ _ _
      | exact LeO.none _
      | refine LeO.ite ?_ ?_
      | refine LeO.bind ?_ (fun _ => ?_)
theorem octet_Trim.mono : ∀ a0 k, LeO (octet_Trim.f k a0) (octet_Trim.f (k + 1) a0) := by
  intro a0 k
  obtain ⟨ih0, ih1, ih2⟩ := octet_Trim.mono_l k
  unfold octet_Trim.f
  repeat' first
      | (with_reducible exact ih0 _ _ _)
      | (with_reducible exact ih1 _ _ _)
      | (with_reducible exact ih2 _ _ _)
      | (with_reducible exact LeO.refl _)
      | (with_reducible exact LeO.none _)
      | (with_reducible refine LeO.ite ?_ ?_)
      | (with_reducible refine LeO.bind ?_ (fun _ => ?_))
      | exact ih0 _ _ _
      | exact ih1 _ _ _
      | exact ih2 _ _ _
      | exact LeO.none _
      | refine LeO.ite ?_ ?_
      | refine LeO.bind ?_ (fun _ => ?_)
set_option maxHeartbeats 8000000 in
set_option maxRecDepth 100000 in
theorem octet_Trim.calls (k : Nat) (a0 : ByteArray) (r : ByteArray) (w : World) (h : octet_Trim.f k a0 = some r) :
    Calls Try.prog 49 #[.string a0] w fun e w' => e = .returned (.string r) ∧ Drawn0 w w' := by
  have H : (octet_Trim.l0 k a0 0 (a0.size : Int)) = some r := h
  clear h
  have HC2 := Aside0.mk H
  clear H
  go_enter Try.func49, Try.ntmps49
  go_upto_block 0 with (fail)
  go_cut [3] (fun v3 wc => ∃ (kq : Nat) (x3_1 : Int), v3 = .int .i64 x3_1 ∧ Aside0 (octet_Trim.j1 kq a0 x3_1 (a0.size : Int) = some r) ∧ Aside0 (kq ≤ k) ∧ Drawn0 w wc)
  case first =>
    have H := HC2.out
    clear HC2
    have H' := Aside0.mk H
    clear H
    go_wp2
    go_loopg [3] k (fun kq v3 w' => ∃ (x3_1 : Int), v3 = .int .i64 x3_1 ∧ Aside0 (octet_Trim.l0 kq a0 x3_1 (a0.size : Int) = some r) ∧ Aside0 (kq ≤ k) ∧ Drawn0 w w')
    case atStart => exact ⟨(0), (by first | rfl | (simp; done) | (simp [*]; done)), H', ⟨Nat.le_refl _⟩, by repeat (first | exact Drawn0.refl _ | apply Drawn0.step)⟩
    case round =>
      clear H'
      try clear p2
      obtain ⟨x3_1, rfl, HA, HK1, ⟨m1, rfl⟩⟩ := hrel
      cases gk with
      | zero => exact absurd HA.out (by simp [octet_Trim.l0])
      | succ k1 =>
        have H := HA.out
        clear HA
        simp only [octet_Trim.l0] at H
        by_cases c3 : x3_1 < (a0.size : Int)
        · rw [if_pos c3] at H
          have c3b0 : decide (x3_1 < (a0.size : Int)) = true := decide_eq_true c3
          clear c3
          (first | rw [c3b0] | (simp only [i64_w, i32_w]; rw [c3b0]) | skip)
          by_cases c4 : 0 ≤ x3_1
          · rw [if_pos c4] at H
            have c4b0 : decide (0 ≤ x3_1) = true := decide_eq_true c4
            clear c4
            by_cases c5 : x3_1 < (a0.size : Int)
            · rw [if_pos c5] at H
              have c5b0 : decide (x3_1 < (a0.size : Int)) = true := decide_eq_true c5
              clear c5
              replace H := Option.bind_eq_some_iff.mp H
              obtain ⟨t101, A70, H⟩ := H
              replace H : (if t101 = true then (octet_Trim.l0 k1 a0 (wrap64 (x3_1 + 1)) (a0.size : Int)) else (octet_Trim.j1 k1 a0 x3_1 (a0.size : Int))) = some r := H
              have A7 := Aside0.mk A70
              clear A70
              by_cases c8 : t101 = true
              · subst c8
                have H1 : (octet_Trim.l0 k1 a0 (wrap64 (x3_1 + 1)) (a0.size : Int)) = some r := by rw [if_pos rfl] at H; exact H
                clear H
                have H := H1
                clear H1
                have H' := Aside0.mk H
                clear H
                have p6 : 0 ≤ (x3_1 : Int) := of_decide_eq_true (by first | (with_reducible assumption) | assumption)
                have q6 : x3_1 < (a0.size : Int) := of_decide_eq_true (by first | (with_reducible assumption) | assumption)
                have hx6 := bt_at a0 x3_1
                replace p6 := eq_true p6
                replace q6 := eq_true q6
                go_wp2_with (first | (go_at_call 82; (with_reducible refine (octet_blank.calls (bt a0 x3_1) true _ A7.out).mono ?_); rintro e w' ⟨rfl, ⟨nd, rfl⟩⟩))
                go_roundg k1
                case measure => have := HK1.out; omega
                case rel => exact ⟨(wrap64 (x3_1 + 1)), (by first | rfl | (simp; done) | (simp [*]; done)), H', ⟨by have := HK1.out; omega⟩, by repeat (first | exact Drawn0.refl _ | apply Drawn0.step)⟩
              · replace c8 := Bool.eq_false_iff.mpr c8
                subst c8
                have H1 : (octet_Trim.j1 k1 a0 x3_1 (a0.size : Int)) = some r := by rw [if_neg (show ¬ (false = true) by decide)] at H; exact H
                clear H
                have H := H1
                clear H1
                have H' := Aside0.mk H
                clear H
                have p6 : 0 ≤ (x3_1 : Int) := of_decide_eq_true (by first | (with_reducible assumption) | assumption)
                have q6 : x3_1 < (a0.size : Int) := of_decide_eq_true (by first | (with_reducible assumption) | assumption)
                have hx6 := bt_at a0 x3_1
                replace p6 := eq_true p6
                replace q6 := eq_true q6
                go_wp2_with (first | (go_at_call 82; (with_reducible refine (octet_blank.calls (bt a0 x3_1) false _ A7.out).mono ?_); rintro e w' ⟨rfl, ⟨nd, rfl⟩⟩))
                go_meet
                case rel => exact ⟨_, (x3_1), (by first | rfl | (simp; done) | (simp [*]; done)), H', ⟨by have := HK1.out; first | omega | exact Nat.le_refl _⟩, by repeat (first | exact Drawn0.refl _ | apply Drawn0.step)⟩
            · rw [if_neg c5] at H
              exact absurd H (by simp)
          · rw [if_neg c4] at H
            exact absurd H (by simp)
        · rw [if_neg c3] at H
          have c3b0 : decide (x3_1 < (a0.size : Int)) = false := decide_eq_false c3
          clear c3
          (first | rw [c3b0] | (simp only [i64_w, i32_w]; rw [c3b0]) | skip)
          have H' := Aside0.mk H
          clear H
          go_wp2
          go_meet
          case rel => exact ⟨_, (x3_1), (by first | rfl | (simp; done) | (simp [*]; done)), H', ⟨by have := HK1.out; first | omega | exact Nat.le_refl _⟩, by repeat (first | exact Drawn0.refl _ | apply Drawn0.step)⟩
  case rest =>
    clear HC2
    try clear p2
    try clear c3
    try clear c3b0
    try clear c4
    try clear c4b0
    try clear c5
    try clear c5b0
    try clear p6
    try clear q6
    try clear hx6
    try clear c8
    try clear p2
    try clear p6
    try clear q6
    obtain ⟨kq, x3_1, rfl, HA, HJ1, ⟨mc1, rfl⟩⟩ := hcut
    cases kq with
    | zero => exact absurd HA.out (by simp [octet_Trim.j1])
    | succ kj1 =>
      have H := HA.out
      clear HA
      simp only [octet_Trim.j1] at H
      have H' := Aside0.mk H
      clear H
      go_wp2
      go_loopg [4] kj1 (fun kq v4 w' => ∃ (x4_2 : Int), v4 = .int .i64 x4_2 ∧ Aside0 (octet_Trim.l1 kq a0 x3_1 x4_2 = some r) ∧ Aside0 (kq ≤ kj1) ∧ Drawn0 w w')
      case atStart => exact ⟨((a0.size : Int)), (by first | rfl | (simp; done) | (simp [*]; done)), H', ⟨Nat.le_refl _⟩, by repeat (first | exact Drawn0.refl _ | apply Drawn0.step)⟩
      case round =>
        clear H'
        try clear c1
        try clear p2
        try clear c3
        try clear c3b0
        try clear c4
        try clear c4b0
        try clear c5
        try clear c5b0
        try clear p6
        try clear q6
        try clear hx6
        try clear c8
        try clear p2
        try clear p6
        try clear q6
        obtain ⟨x4_2, rfl, HA, HK2, ⟨m2, rfl⟩⟩ := hrel
        cases gk with
        | zero => exact absurd HA.out (by simp [octet_Trim.l1])
        | succ k2 =>
          have H := HA.out
          clear HA
          simp only [octet_Trim.l1] at H
          by_cases c9 : x3_1 < x4_2
          · rw [if_pos c9] at H
            have c9b0 : decide (x3_1 < x4_2) = true := decide_eq_true c9
            clear c9
            obtain ⟨ji10, hji10⟩ : ∃ j_ : Int, (wrap64 (x4_2 - 1)) = j_ := ⟨_, rfl⟩
            replace H : (if 0 ≤ (ji10) then (if (ji10) < (a0.size : Int) then ((octet_blank.f (bt a0 (ji10))).bind fun t102 => (if t102 = true then (octet_Trim.l1 k2 a0 x3_1 ji10) else (if 0 ≤ x3_1 then (if x3_1 ≤ x4_2 then (if x4_2 ≤ (a0.size : Int) then (some (a0.extract (x3_1 : Int).toNat (x4_2 : Int).toNat)) else (none)) else (none)) else (none)))) else (none)) else (none)) = some r := by first | (rw [hji10] at H; exact H) | (simp only [hji10] at H ⊢; exact H)
            have hji10w : (IntKind.i64.wrap (x4_2 - 1)) = ji10 := (i64_w _).trans hji10
            by_cases c11 : 0 ≤ (ji10)
            · rw [if_pos c11] at H
              have c11b0 : decide (0 ≤ (ji10)) = true := decide_eq_true c11
              clear c11
              by_cases c12 : (ji10) < (a0.size : Int)
              · rw [if_pos c12] at H
                have c12b0 : decide ((ji10) < (a0.size : Int)) = true := decide_eq_true c12
                clear c12
                replace H := Option.bind_eq_some_iff.mp H
                obtain ⟨t102, A140, H⟩ := H
                replace H : (if t102 = true then (octet_Trim.l1 k2 a0 x3_1 ji10) else (if 0 ≤ x3_1 then (if x3_1 ≤ x4_2 then (if x4_2 ≤ (a0.size : Int) then (some (a0.extract (x3_1 : Int).toNat (x4_2 : Int).toNat)) else (none)) else (none)) else (none))) = some r := H
                have A14 := Aside0.mk A140
                clear A140
                by_cases c15 : t102 = true
                · subst c15
                  have H1 : (octet_Trim.l1 k2 a0 x3_1 ji10) = some r := by rw [if_pos rfl] at H; exact H
                  clear H
                  have H := H1
                  clear H1
                  have H' := Aside0.mk H
                  clear H
                  have p13 : 0 ≤ ((ji10) : Int) := of_decide_eq_true (by first | (with_reducible assumption) | assumption)
                  have q13 : (ji10) < (a0.size : Int) := of_decide_eq_true (by first | (with_reducible assumption) | assumption)
                  have hx13 := bt_at a0 (ji10)
                  replace p13 := eq_true p13
                  replace q13 := eq_true q13
                  go_wp2_with (first | (go_at_call 82; (with_reducible refine (octet_blank.calls (bt a0 (ji10)) true _ A14.out).mono ?_); rintro e w' ⟨rfl, ⟨nd, rfl⟩⟩))
                  go_roundg k2
                  case measure => have := HJ1.out; have := HK2.out; omega
                  case rel => exact ⟨(ji10), (by first | rfl | (simp; done) | (simp only [← hji10] <;> (first | rfl | simp)) | (simp [*]; done)), H', ⟨by have := HJ1.out; have := HK2.out; omega⟩, by repeat (first | exact Drawn0.refl _ | apply Drawn0.step)⟩
                · replace c15 := Bool.eq_false_iff.mpr c15
                  subst c15
                  have H1 : (if 0 ≤ x3_1 then (if x3_1 ≤ x4_2 then (if x4_2 ≤ (a0.size : Int) then (some (a0.extract (x3_1 : Int).toNat (x4_2 : Int).toNat)) else (none)) else (none)) else (none)) = some r := by rw [if_neg (show ¬ (false = true) by decide)] at H; exact H
                  clear H
                  have H := H1
                  clear H1
                  by_cases c16 : 0 ≤ x3_1
                  · rw [if_pos c16] at H
                    have c16b0 := eq_true c16
                    have c16b1 : decide (0 ≤ x3_1) = true := decide_eq_true c16
                    clear c16
                    by_cases c17 : x3_1 ≤ x4_2
                    · rw [if_pos c17] at H
                      have c17b0 := eq_true c17
                      have c17b1 : decide (x3_1 ≤ x4_2) = true := decide_eq_true c17
                      clear c17
                      by_cases c18 : x4_2 ≤ (a0.size : Int)
                      · rw [if_pos c18] at H
                        have c18b0 := eq_true c18
                        have c18b1 : decide (x4_2 ≤ (a0.size : Int)) = true := decide_eq_true c18
                        clear c18
                        obtain rfl := Option.some.inj H
                        have p13 : 0 ≤ ((ji10) : Int) := of_decide_eq_true (by first | (with_reducible assumption) | assumption)
                        have q13 : (ji10) < (a0.size : Int) := of_decide_eq_true (by first | (with_reducible assumption) | assumption)
                        have hx13 := bt_at a0 (ji10)
                        replace p13 := eq_true p13
                        replace q13 := eq_true q13
                        go_wp2_with (first | (go_at_call 82; (with_reducible refine (octet_blank.calls (bt a0 (ji10)) false _ A14.out).mono ?_); rintro e w' ⟨rfl, ⟨nd, rfl⟩⟩))
                        go_ret
                        exact ⟨by first | rfl | (simp; done) | (simp only [← hji10] <;> (first | rfl | simp)) | (simp [*]; done), by repeat (first | exact Drawn0.refl _ | apply Drawn0.step)⟩
                      · rw [if_neg c18] at H
                        exact absurd H (by simp)
                    · rw [if_neg c17] at H
                      exact absurd H (by simp)
                  · rw [if_neg c16] at H
                    exact absurd H (by simp)
              · rw [if_neg c12] at H
                exact absurd H (by simp)
            · rw [if_neg c11] at H
              exact absurd H (by simp)
          · rw [if_neg c9] at H
            have c9b0 : decide (x3_1 < x4_2) = false := decide_eq_false c9
            clear c9
            by_cases c19 : 0 ≤ x3_1
            · rw [if_pos c19] at H
              have c19b0 := eq_true c19
              have c19b1 : decide (0 ≤ x3_1) = true := decide_eq_true c19
              clear c19
              by_cases c20 : x3_1 ≤ x4_2
              · rw [if_pos c20] at H
                have c20b0 := eq_true c20
                have c20b1 : decide (x3_1 ≤ x4_2) = true := decide_eq_true c20
                clear c20
                by_cases c21 : x4_2 ≤ (a0.size : Int)
                · rw [if_pos c21] at H
                  have c21b0 := eq_true c21
                  have c21b1 : decide (x4_2 ≤ (a0.size : Int)) = true := decide_eq_true c21
                  clear c21
                  obtain rfl := Option.some.inj H
                  go_wp2
                  go_ret
                  exact ⟨by first | rfl | (simp; done) | (simp [*]; done), by repeat (first | exact Drawn0.refl _ | apply Drawn0.step)⟩
                · rw [if_neg c21] at H
                  exact absurd H (by simp)
              · rw [if_neg c20] at H
                exact absurd H (by simp)
            · rw [if_neg c19] at H
              exact absurd H (by simp)

end Go.Proofs.Ytkjkbenmoogdjaa.X
namespace Go.Proofs.Ytkjkbenmoogdjaa.X
open Go.RowKit Go.Proofs.YtkjkbenmoogdjaaW.PrintWords Go.Proofs.YtkjkbenmoogdjaaW.PrintLast Go.Proofs.YtkjkbenmoogdjaaW.PrintMore
attribute [local go_sem] max2_int min2_int max_two min_two max_three min_three max_four min_four   -- for this text's walks alone
set_option linter.unusedVariables false
set_option linter.unusedSimpArgs false

/-- A state of type 87 at block g of W; what its slices lead to came in by w0. -/
def IsS87 (w0 W : World) (g : Nat) (f0 : Bool) (f1 : Bool) (f2 : Int) : Prop := W.heap[g]? = some (.cells #[.bool f0, .bool f1, .int .i64 f2] 87 (0, 0)) ∧ w0.heap.size ≤ g
theorem IsS87.grown {w0 W : World} {g : Nat} {f0 : Bool} {f1 : Bool} {f2 : Int} {W1 : World} {row : Option Nat} (h : IsS87 w0 W g f0 f1 f2) (hw : W.grownBy W1 row) (hne : some g ≠ row) : IsS87 w0 W1 g f0 f1 f2 := by
  obtain ⟨hb, hg⟩ := h
  exact ⟨blk_grown hb hw hne, hg⟩
theorem IsS87.own_neN {w0 W : World} {g : Nat} {f0 : Bool} {f1 : Bool} {f2 : Int} {α : Type} {d : Kd α} {e : Nat} {base : Nat} {ok : Nat → Prop} {v : Value} {xs : List α} (h : IsS87 w0 W g f0 f1 f2) (ho : Kd.N d e W base ok v xs) (ht : e ≠ 87) : some g ≠ v.ownBlock := by
  obtain ⟨hb, hg⟩ := h
  exact Kd.N_ne ho hb ht
theorem IsS87.fresh {w0 W : World} {g : Nat} {f0 : Bool} {f1 : Bool} {f2 : Int} (h : IsS87 w0 W g f0 f1 f2) : ∀ k, W.heap.size ≤ k → k ≠ g := by
  obtain ⟨hb, hg⟩ := h
  exact Kd.freshB hb
theorem IsS87.kept {w0 W : World} {g : Nat} {f0 : Bool} {f1 : Bool} {f2 : Int} {W1 : World} {S : Nat → Prop} (h : IsS87 w0 W g f0 f1 f2) (hk : Kept W W1 S) (hne : ¬ S g) : IsS87 w0 W1 g f0 f1 f2 := by
  obtain ⟨hb, hg⟩ := h
  exact ⟨blk_kept hb hk hne, hg⟩
theorem IsS87.below {w0 W : World} {g : Nat} {f0 : Bool} {f1 : Bool} {f2 : Int} {W1 : World} (h : IsS87 w0 W g f0 f1 f2) (hw : Below W.heap.size W W1) : IsS87 w0 W1 g f0 f1 f2 := h.grown (grown_of_below hw none) (by simp)
theorem IsS87.alloc {w0 W : World} {g : Nat} {f0 : Bool} {f1 : Bool} {f2 : Int} (h : IsS87 w0 W g f0 f1 f2) (o : Obj) : IsS87 w0 (W.alloc o) g f0 f1 f2 := h.below (below_alloc (Below.refl _ _) o)
theorem IsS87.drewN {w0 W : World} {g : Nat} {f0 : Bool} {f1 : Bool} {f2 : Int} (h : IsS87 w0 W g f0 f1 f2) (m : Nat) : IsS87 w0 (W.drewN m) g f0 f1 f2 := h
theorem IsS87.drew {w0 W : World} {g : Nat} {f0 : Bool} {f1 : Bool} {f2 : Int} (h : IsS87 w0 W g f0 f1 f2) : IsS87 w0 W.drew g f0 f1 f2 := h
theorem IsS87.at_ {w0 W : World} {g : Nat} {f0 : Bool} {f1 : Bool} {f2 : Int} {w' : World} {m : Nat} (hq : W.drewN m = w') (h : IsS87 w0 W g f0 f1 f2) : IsS87 w0 w' g f0 f1 f2 := by subst hq; exact IsS87.drewN h m
theorem IsS87.apart {w0 W : World} {g : Nat} {f0 : Bool} {f1 : Bool} {f2 : Int} {α : Type} {d : Kd α} {e : Nat} {base : Nat} {ok : Nat → Prop} {v : Value} {xs : List α} (h : IsS87 w0 W g f0 f1 f2) (ho : d.R e W base ok v xs) (ht : ∀ q, q ∈ e :: d.E → q ≠ 87) : d.R e W base (fun k => ok k ∧ k ≠ g) v xs := by
  obtain ⟨hb, hg⟩ := h
  exact Kd.R_types ho hb ht
theorem IsS87.own_ne {w0 W : World} {g : Nat} {f0 : Bool} {f1 : Bool} {f2 : Int} {α : Type} {d : Kd α} {e : Nat} {base : Nat} {ok : Nat → Prop} {v : Value} {xs : List α} (h : IsS87 w0 W g f0 f1 f2) (ho : d.R e W base ok v xs) (ht : e ≠ 87) : some g ≠ v.ownBlock := by
  obtain ⟨hb, hg⟩ := h
  exact Kd.R_ne ho hb ht
theorem IsS87.apartQ {w0 W : World} {g : Nat} {f0 : Bool} {f1 : Bool} {f2 : Int} {α : Type} {d : Kd α} {e : Nat} {base : Nat} {ok : Nat → Prop} {v : Value} {xs : List α} (h : IsS87 w0 W g f0 f1 f2) (ho : d.Q e W base ok v xs) (ht : ∀ q, q ∈ e :: d.E → q ≠ 87) : d.Q e W base (fun k => ok k ∧ k ≠ g) v xs := by
  obtain ⟨hb, hg⟩ := h
  exact Kd.Q_types ho hb ht
theorem IsS87.own_neQ {w0 W : World} {g : Nat} {f0 : Bool} {f1 : Bool} {f2 : Int} {α : Type} {d : Kd α} {e : Nat} {base : Nat} {ok : Nat → Prop} {v : Value} {xs : List α} (h : IsS87 w0 W g f0 f1 f2) (ho : d.Q e W base ok v xs) (ht : e ≠ 87) : some g ≠ v.ownBlock := by
  obtain ⟨hb, hg⟩ := h
  exact Kd.Q_ne ho hb ht
theorem IsS87.apartS {w0 W : World} {g : Nat} {f0 : Bool} {f1 : Bool} {f2 : Int} {α : Type} {d : Kd α} {e : Nat} {base : Nat} {ok : Nat → Prop} {v : Value} {xs : List α} (h : IsS87 w0 W g f0 f1 f2) (ho : d.S e W base ok v xs) (ht : ∀ q, q ∈ e :: d.E → q ≠ 87) : d.S e W base (fun k => ok k ∧ k ≠ g) v xs := by
  obtain ⟨hb, hg⟩ := h
  exact Kd.S_types ho hb ht
theorem IsS87.own_neS {w0 W : World} {g : Nat} {f0 : Bool} {f1 : Bool} {f2 : Int} {α : Type} {d : Kd α} {e : Nat} {base : Nat} {ok : Nat → Prop} {v : Value} {xs : List α} (h : IsS87 w0 W g f0 f1 f2) (ho : d.S e W base ok v xs) (ht : e ≠ 87) : some g ≠ v.ownBlock := by
  obtain ⟨hb, hg⟩ := h
  exact Kd.S_ne ho hb ht
theorem IsS87.lt {w0 W : World} {g : Nat} {f0 : Bool} {f1 : Bool} {f2 : Int} (h : IsS87 w0 W g f0 f1 f2) : g < W.heap.size := by
  obtain ⟨hb, hg⟩ := h
  exact blk_lt hb
theorem IsS87.ge {w0 W : World} {g : Nat} {f0 : Bool} {f1 : Bool} {f2 : Int} (h : IsS87 w0 W g f0 f1 f2) : w0.heap.size ≤ g := by
  obtain ⟨hb, hg⟩ := h
  exact hg
theorem IsS87.ne_blk {w0 W : World} {g : Nat} {f0 : Bool} {f1 : Bool} {f2 : Int} {a : Nat} {cs : Array Value} {t : TypeId} {fr : Nat × Nat} (h : IsS87 w0 W g f0 f1 f2) (hb2 : W.heap[a]? = some (.cells cs t fr)) (ht : t ≠ 87) : g ≠ a := by
  obtain ⟨hb, hg⟩ := h
  rintro rfl
  rw [hb] at hb2
  injection hb2 with hb2
  injection hb2 with _ ht2
  exact ht ht2.symm
theorem IsS87.far {w0 W : World} {g : Nat} {f0 : Bool} {f1 : Bool} {f2 : Int} {p : Addr} (h : IsS87 w0 W g f0 f1 f2) (hne : g ≠ p.block) (u : Value) : IsS87 w0 (W.setCell p u) g f0 f1 f2 := by
  obtain ⟨hb, hg⟩ := h
  exact ⟨blk_far hb hne u, hg⟩
theorem cellS87_0 {W : World} {g : Nat} {f0 : Bool} {f1 : Bool} {f2 : Int} (h : W.heap[g]? = some (.cells #[.bool f0, .bool f1, .int .i64 f2] 87 (0, 0))) : W.cell? ⟨g, 0, none⟩ = some (.bool f0) := (blk_cell h 0).trans rfl
theorem IsS87.set_0 {w0 W : World} {g : Nat} {f0 : Bool} {f1 : Bool} {f2 : Int} (h : IsS87 w0 W g f0 f1 f2) (x : Bool) : IsS87 w0 (W.setCell ⟨g, 0, none⟩ (.bool x)) g x f1 f2 := by
  obtain ⟨hb, hg⟩ := h
  exact ⟨by simpa using blk_set hb 0 (.bool x), hg⟩
theorem cellS87_1 {W : World} {g : Nat} {f0 : Bool} {f1 : Bool} {f2 : Int} (h : W.heap[g]? = some (.cells #[.bool f0, .bool f1, .int .i64 f2] 87 (0, 0))) : W.cell? ⟨g, 1, none⟩ = some (.bool f1) := (blk_cell h 1).trans rfl
theorem IsS87.set_1 {w0 W : World} {g : Nat} {f0 : Bool} {f1 : Bool} {f2 : Int} (h : IsS87 w0 W g f0 f1 f2) (x : Bool) : IsS87 w0 (W.setCell ⟨g, 1, none⟩ (.bool x)) g f0 x f2 := by
  obtain ⟨hb, hg⟩ := h
  exact ⟨by simpa using blk_set hb 1 (.bool x), hg⟩
theorem cellS87_2 {W : World} {g : Nat} {f0 : Bool} {f1 : Bool} {f2 : Int} (h : W.heap[g]? = some (.cells #[.bool f0, .bool f1, .int .i64 f2] 87 (0, 0))) : W.cell? ⟨g, 2, none⟩ = some (.int .i64 f2) := (blk_cell h 2).trans rfl
theorem IsS87.set_2 {w0 W : World} {g : Nat} {f0 : Bool} {f1 : Bool} {f2 : Int} (h : IsS87 w0 W g f0 f1 f2) (x : Int) : IsS87 w0 (W.setCell ⟨g, 2, none⟩ (.int .i64 x)) g f0 f1 x := by
  obtain ⟨hb, hg⟩ := h
  exact ⟨by simpa using blk_set hb 2 (.int .i64 x), hg⟩
theorem IsS87.new (w0 W : World) (f0 : Bool) (f1 : Bool) (f2 : Int) (hB : Below w0.heap.size w0 W) : IsS87 w0 (W.alloc (.cells #[.bool f0, .bool f1, .int .i64 f2] 87)) W.heap.size f0 f1 f2 := ⟨by simpa using heap_alloc_new W _, hB.size⟩

/-! ### lists_scan_see: function 84 -/
def lists_scan_see.j0 : Nat → Int → Bool → Bool → Bool → Int → Option (Bool × Bool × Int)
  | 0, _, _, _, _, _ => none
  | k + 1, x1, x49, x1000, x1001, x1002 => if x49 = true then (some (x1000, x1001, wrap64 (x1002 - 1))) else (if x1002 = 0 then (if x1 = 34 then (some (true, x1001, x1002)) else (some (x1000, x1001, x1002))) else (some (x1000, x1001, x1002)))
def lists_scan_see.f (k : Nat) (s0_0 : Bool) (s0_1 : Bool) (s0_2 : Int) (a1 : Int) : Option (Bool × Bool × Int) := if s0_1 = true then (some (s0_0, false, s0_2)) else (if a1 = 92 then (if s0_0 = true then (some (s0_0, true, s0_2)) else (some (s0_0, decide (s0_2 > 0), s0_2))) else (if s0_0 = true then (some ((a1 != 34), s0_1, s0_2)) else (if a1 = 40 then (some (s0_0, s0_1, wrap64 (s0_2 + 1))) else (if s0_2 > 0 then (lists_scan_see.j0 k a1 (a1 == 41) s0_0 s0_1 s0_2) else (lists_scan_see.j0 k a1 false s0_0 s0_1 s0_2)))))
theorem lists_scan_see.mono_l : ∀ k, (∀ y0 y1 y2 y3 y4, LeO (lists_scan_see.j0 k y0 y1 y2 y3 y4) (lists_scan_see.j0 (k + 1) y0 y1 y2 y3 y4))
  | 0 => fun _ _ _ _ _ r h => by simp [lists_scan_see.j0] at h
  | k + 1 => by
    have ih0 := lists_scan_see.mono_l k
    · intro y0 y1 y2 y3 y4
      unfold lists_scan_see.j0
      repeat' first
      | (with_reducible exact ih0 _ _ _ _ _)
      | (with_reducible exact LeO.refl _)
      | (with_reducible exact LeO.none _)
      | (with_reducible refine LeO.ite ?_ ?_)
      | (with_reducible refine LeO.bind ?_ (fun _ => ?_))
      | exact ih0 _ _ _ _ _
      | exact LeO.none _
      | refine LeO.ite ?_ ?_
      | refine LeO.bind ?_ (fun _ => ?_)
theorem lists_scan_see.mono : ∀ a0 a1 a2 a3 k, LeO (lists_scan_see.f k a0 a1 a2 a3) (lists_scan_see.f (k + 1) a0 a1 a2 a3) := by
  intro a0 a1 a2 a3 k
  have ih0 := lists_scan_see.mono_l k
  unfold lists_scan_see.f
  repeat' first
      | (with_reducible exact ih0 _ _ _ _ _)
      | (with_reducible exact LeO.refl _)
      | (with_reducible exact LeO.none _)
      | (with_reducible refine LeO.ite ?_ ?_)
      | (with_reducible refine LeO.bind ?_ (fun _ => ?_))
      | exact ih0 _ _ _ _ _
      | exact LeO.none _
      | refine LeO.ite ?_ ?_
      | refine LeO.bind ?_ (fun _ => ?_)
set_option maxHeartbeats 8000000 in
set_option maxRecDepth 100000 in
theorem lists_scan_see.calls (k : Nat) (g : Nat) (s0_0 : Bool) (s0_1 : Bool) (s0_2 : Int) (a1 : Int) (r1 : Bool) (r2 : Bool) (r3 : Int) (w0 w : World) (hI : IsS87 w0 w g s0_0 s0_1 s0_2) (hB : Below w0.heap.size w0 w) (h : lists_scan_see.f k s0_0 s0_1 s0_2 a1 = some (r1, r2, r3)) :
    Calls Try.prog 84 #[.pointer (some ⟨g, 0, none⟩), .int .u8 a1] w fun e w' => e = .returned (.tuple #[]) ∧ IsS87 w0 w' g r1 r2 r3 ∧ Below w0.heap.size w0 w' ∧ KeepBut w w' g none := by
  have HI0 := Aside0.mk hI
  have HK := Aside0.mk (KeepBut.refl w g none)
  have HL := Aside0.mk hB.size
  clear hI
  have HW0 := Aside0.mk hB.size
  have HB := Aside0.mk hB
  clear hB
  have H : (if s0_1 = true then (some (s0_0, false, s0_2)) else (if a1 = 92 then (if s0_0 = true then (some (s0_0, true, s0_2)) else (some (s0_0, decide (s0_2 > 0), s0_2))) else (if s0_0 = true then (some ((a1 != 34), s0_1, s0_2)) else (if a1 = 40 then (some (s0_0, s0_1, wrap64 (s0_2 + 1))) else (if s0_2 > 0 then (lists_scan_see.j0 k a1 (a1 == 41) s0_0 s0_1 s0_2) else (lists_scan_see.j0 k a1 false s0_0 s0_1 s0_2)))))) = some (r1, r2, r3) := h
  clear h
  by_cases c3 : s0_1 = true
  · subst c3
    have H1 : (some (s0_0, false, s0_2)) = some (r1, r2, r3) := by rw [if_pos rfl] at H; exact H
    clear H
    have H := H1
    clear H1
    simp only [Option.some.injEq, Prod.mk.injEq] at H
    obtain ⟨rfl, rfl, rfl⟩ := H
    obtain ⟨HGz4, hgz4⟩ := HI0.out
    have hcz4_0 := cellS87_0 HGz4
    have hcz4_1 := cellS87_1 HGz4
    have hcz4_2 := cellS87_2 HGz4
    have hfz4_0 := blk_frozen HGz4 0
    have hfz4_1 := blk_frozen HGz4 1
    have hfz4_2 := blk_frozen HGz4 2
    clear HGz4 hgz4
    go_enter Try.func84, Try.ntmps84
    go_wp2
    first | go_end0 | ((try simp only [Exit.inBlock, Exit.then]); refine bodyPost_ret (results_none rfl _ _ _) rfl ?_)
    exact ⟨by first | rfl | (simp [errW_none, errW_some] <;> rfl) | (simp [*, errW_none, errW_some] <;> rfl), by repeat (first | (with_reducible first | exact HI0.out | apply IsS87.alloc | apply IsS87.drewN | apply IsS87.drew | apply IsS87.set_0 | apply IsS87.set_1 | apply IsS87.set_2) | exact HI0.out), by repeat (first | (with_reducible first | exact HB.out | apply below_alloc | apply pw_below_drewN | apply below_drew1 | refine below_set ?_ (IsS87.ge HI0.out)) | exact HB.out), by repeat (first | (with_reducible first | exact HK.out | apply KeepBut.set_ | apply keep_drewN | apply keep_drew | apply keep_alloc) | exact HK.out)⟩
  · replace c3 := Bool.eq_false_iff.mpr c3
    subst c3
    have H1 : (if a1 = 92 then (if s0_0 = true then (some (s0_0, true, s0_2)) else (some (s0_0, decide (s0_2 > 0), s0_2))) else (if s0_0 = true then (some ((a1 != 34), false, s0_2)) else (if a1 = 40 then (some (s0_0, false, wrap64 (s0_2 + 1))) else (if s0_2 > 0 then (lists_scan_see.j0 k a1 (a1 == 41) s0_0 false s0_2) else (lists_scan_see.j0 k a1 false s0_0 false s0_2))))) = some (r1, r2, r3) := by rw [if_neg (show ¬ (false = true) by decide)] at H; exact H
    clear H
    have H := H1
    clear H1
    by_cases c5 : a1 = 92
    · rw [if_pos c5] at H
      have c5b0 : (a1 == 92) = true := beq_iff_eq.mpr c5
      have c5b1 : (a1 != 92) = false := bne_eq_false_iff_eq.mpr c5
      clear c5
      by_cases c6 : s0_0 = true
      · subst c6
        have H1 : (some (true, true, s0_2)) = some (r1, r2, r3) := by rw [if_pos rfl] at H; exact H
        clear H
        have H := H1
        clear H1
        simp only [Option.some.injEq, Prod.mk.injEq] at H
        obtain ⟨rfl, rfl, rfl⟩ := H
        obtain ⟨HGz7, hgz7⟩ := HI0.out
        have hcz7_0 := cellS87_0 HGz7
        have hcz7_1 := cellS87_1 HGz7
        have hcz7_2 := cellS87_2 HGz7
        have hfz7_0 := blk_frozen HGz7 0
        have hfz7_1 := blk_frozen HGz7 1
        have hfz7_2 := blk_frozen HGz7 2
        clear HGz7 hgz7
        go_enter Try.func84, Try.ntmps84
        go_wp2
        first | go_end0 | ((try simp only [Exit.inBlock, Exit.then]); refine bodyPost_ret (results_none rfl _ _ _) rfl ?_)
        exact ⟨by first | rfl | (simp [errW_none, errW_some] <;> rfl) | (simp [*, errW_none, errW_some] <;> rfl), by repeat (first | (with_reducible first | exact HI0.out | apply IsS87.alloc | apply IsS87.drewN | apply IsS87.drew | apply IsS87.set_0 | apply IsS87.set_1 | apply IsS87.set_2) | exact HI0.out), by repeat (first | (with_reducible first | exact HB.out | apply below_alloc | apply pw_below_drewN | apply below_drew1 | refine below_set ?_ (IsS87.ge HI0.out)) | exact HB.out), by repeat (first | (with_reducible first | exact HK.out | apply KeepBut.set_ | apply keep_drewN | apply keep_drew | apply keep_alloc) | exact HK.out)⟩
      · replace c6 := Bool.eq_false_iff.mpr c6
        subst c6
        have H1 : (some (false, decide (s0_2 > 0), s0_2)) = some (r1, r2, r3) := by rw [if_neg (show ¬ (false = true) by decide)] at H; exact H
        clear H
        have H := H1
        clear H1
        simp only [Option.some.injEq, Prod.mk.injEq] at H
        obtain ⟨rfl, rfl, rfl⟩ := H
        obtain ⟨HGz8, hgz8⟩ := HI0.out
        have hcz8_0 := cellS87_0 HGz8
        have hcz8_1 := cellS87_1 HGz8
        have hcz8_2 := cellS87_2 HGz8
        have hfz8_0 := blk_frozen HGz8 0
        have hfz8_1 := blk_frozen HGz8 1
        have hfz8_2 := blk_frozen HGz8 2
        clear HGz8 hgz8
        go_enter Try.func84, Try.ntmps84
        go_wp2
        first | go_end0 | ((try simp only [Exit.inBlock, Exit.then]); refine bodyPost_ret (results_none rfl _ _ _) rfl ?_)
        exact ⟨by first | rfl | (simp [errW_none, errW_some] <;> rfl) | (simp [*, errW_none, errW_some] <;> rfl), by repeat (first | (with_reducible first | exact HI0.out | apply IsS87.alloc | apply IsS87.drewN | apply IsS87.drew | apply IsS87.set_0 | apply IsS87.set_1 | apply IsS87.set_2) | exact HI0.out), by repeat (first | (with_reducible first | exact HB.out | apply below_alloc | apply pw_below_drewN | apply below_drew1 | refine below_set ?_ (IsS87.ge HI0.out)) | exact HB.out), by repeat (first | (with_reducible first | exact HK.out | apply KeepBut.set_ | apply keep_drewN | apply keep_drew | apply keep_alloc) | exact HK.out)⟩
    · rw [if_neg c5] at H
      have c5b0 : (a1 == 92) = false := beq_eq_false_iff_ne.mpr c5
      have c5b1 : (a1 != 92) = true := bne_iff_ne.mpr c5
      by_cases c9 : s0_0 = true
      · subst c9
        have H1 : (some ((a1 != 34), false, s0_2)) = some (r1, r2, r3) := by rw [if_pos rfl] at H; exact H
        clear H
        have H := H1
        clear H1
        simp only [Option.some.injEq, Prod.mk.injEq] at H
        obtain ⟨rfl, rfl, rfl⟩ := H
        obtain ⟨HGz10, hgz10⟩ := HI0.out
        have hcz10_0 := cellS87_0 HGz10
        have hcz10_1 := cellS87_1 HGz10
        have hcz10_2 := cellS87_2 HGz10
        have hfz10_0 := blk_frozen HGz10 0
        have hfz10_1 := blk_frozen HGz10 1
        have hfz10_2 := blk_frozen HGz10 2
        clear HGz10 hgz10
        go_enter Try.func84, Try.ntmps84
        go_wp2
        first | go_end0 | ((try simp only [Exit.inBlock, Exit.then]); refine bodyPost_ret (results_none rfl _ _ _) rfl ?_)
        exact ⟨by first | rfl | (simp [errW_none, errW_some] <;> rfl) | (simp [*, errW_none, errW_some] <;> rfl), by repeat (first | (with_reducible first | exact HI0.out | apply IsS87.alloc | apply IsS87.drewN | apply IsS87.drew | apply IsS87.set_0 | apply IsS87.set_1 | apply IsS87.set_2) | exact HI0.out), by repeat (first | (with_reducible first | exact HB.out | apply below_alloc | apply pw_below_drewN | apply below_drew1 | refine below_set ?_ (IsS87.ge HI0.out)) | exact HB.out), by repeat (first | (with_reducible first | exact HK.out | apply KeepBut.set_ | apply keep_drewN | apply keep_drew | apply keep_alloc) | exact HK.out)⟩
      · replace c9 := Bool.eq_false_iff.mpr c9
        subst c9
        have H1 : (if a1 = 40 then (some (false, false, wrap64 (s0_2 + 1))) else (if s0_2 > 0 then (lists_scan_see.j0 k a1 (a1 == 41) false false s0_2) else (lists_scan_see.j0 k a1 false false false s0_2))) = some (r1, r2, r3) := by rw [if_neg (show ¬ (false = true) by decide)] at H; exact H
        clear H
        have H := H1
        clear H1
        by_cases c11 : a1 = 40
        · rw [if_pos c11] at H
          have c11b0 : (a1 == 40) = true := beq_iff_eq.mpr c11
          have c11b1 : (a1 != 40) = false := bne_eq_false_iff_eq.mpr c11
          clear c11
          simp only [Option.some.injEq, Prod.mk.injEq] at H
          obtain ⟨rfl, rfl, rfl⟩ := H
          obtain ⟨HGz12, hgz12⟩ := HI0.out
          have hcz12_0 := cellS87_0 HGz12
          have hcz12_1 := cellS87_1 HGz12
          have hcz12_2 := cellS87_2 HGz12
          have hfz12_0 := blk_frozen HGz12 0
          have hfz12_1 := blk_frozen HGz12 1
          have hfz12_2 := blk_frozen HGz12 2
          clear HGz12 hgz12
          go_enter Try.func84, Try.ntmps84
          go_wp2
          first | go_end0 | ((try simp only [Exit.inBlock, Exit.then]); refine bodyPost_ret (results_none rfl _ _ _) rfl ?_)
          exact ⟨by first | rfl | (simp [errW_none, errW_some] <;> rfl) | (simp [*, errW_none, errW_some] <;> rfl), by repeat (first | (with_reducible first | exact HI0.out | apply IsS87.alloc | apply IsS87.drewN | apply IsS87.drew | apply IsS87.set_0 | apply IsS87.set_1 | apply IsS87.set_2) | exact HI0.out), by repeat (first | (with_reducible first | exact HB.out | apply below_alloc | apply pw_below_drewN | apply below_drew1 | refine below_set ?_ (IsS87.ge HI0.out)) | exact HB.out), by repeat (first | (with_reducible first | exact HK.out | apply KeepBut.set_ | apply keep_drewN | apply keep_drew | apply keep_alloc) | exact HK.out)⟩
        · rw [if_neg c11] at H
          have c11b0 : (a1 == 40) = false := beq_eq_false_iff_ne.mpr c11
          have c11b1 : (a1 != 40) = true := bne_iff_ne.mpr c11
          have HC13 := Aside0.mk H
          clear H
          obtain ⟨HGz14, hgz14⟩ := HI0.out
          have hcz14_0 := cellS87_0 HGz14
          have hcz14_1 := cellS87_1 HGz14
          have hcz14_2 := cellS87_2 HGz14
          have hfz14_0 := blk_frozen HGz14 0
          have hfz14_1 := blk_frozen HGz14 1
          have hfz14_2 := blk_frozen HGz14 2
          clear HGz14 hgz14
          go_enter Try.func84, Try.ntmps84
          go_upto_region 8 with (fail)
          go_cut [49] (fun v49 wc => ∃ (kq : Nat) (x49_12 : Bool), v49 = .bool x49_12 ∧ Aside0 (lists_scan_see.j0 kq a1 x49_12 false false s0_2 = some (r1, r2, r3)) ∧ Aside0 (kq ≤ k) ∧ Aside0 (IsS87 w0 wc g false false s0_2) ∧ Aside0 (KeepBut w wc g none) ∧ Aside0 (Below w0.heap.size w0 wc))
          case first =>
            have H := HC13.out
            clear HC13
            by_cases c15 : s0_2 > 0
            · rw [if_pos c15] at H
              have c15b0 : decide (0 < s0_2) = true := decide_eq_true c15
              clear c15
              (first | rw [c15b0] | (simp only [i64_w, i32_w]; rw [c15b0]) | skip)
              have H' := Aside0.mk H
              clear H
              obtain ⟨HGz16, hgz16⟩ := HI0.out
              have hcz16_0 := cellS87_0 HGz16
              have hcz16_1 := cellS87_1 HGz16
              have hcz16_2 := cellS87_2 HGz16
              have hfz16_0 := blk_frozen HGz16 0
              have hfz16_1 := blk_frozen HGz16 1
              have hfz16_2 := blk_frozen HGz16 2
              clear HGz16 hgz16
              go_wp2
              go_meet
              case rel => exact ⟨_, ((a1 == 41)), (by first | rfl | (simp; done) | (simp [*]; done)), H', ⟨by first | omega | exact Nat.le_refl _⟩, ⟨by repeat (first | (with_reducible first | exact HI0.out | apply IsS87.alloc | apply IsS87.drewN | apply IsS87.drew | apply IsS87.set_0 | apply IsS87.set_1 | apply IsS87.set_2) | exact HI0.out)⟩, ⟨by repeat (first | (with_reducible first | exact HK.out | apply KeepBut.set_ | apply keep_drewN | apply keep_drew | apply keep_alloc) | exact HK.out)⟩, ⟨by repeat (first | (with_reducible first | exact HB.out | apply below_alloc | apply pw_below_drewN | apply below_drew1 | refine below_set ?_ (IsS87.ge HI0.out)) | exact HB.out)⟩⟩
            · rw [if_neg c15] at H
              have c15b0 : decide (0 < s0_2) = false := decide_eq_false c15
              clear c15
              (first | rw [c15b0] | (simp only [i64_w, i32_w]; rw [c15b0]) | skip)
              have H' := Aside0.mk H
              clear H
              obtain ⟨HGz17, hgz17⟩ := HI0.out
              have hcz17_0 := cellS87_0 HGz17
              have hcz17_1 := cellS87_1 HGz17
              have hcz17_2 := cellS87_2 HGz17
              have hfz17_0 := blk_frozen HGz17 0
              have hfz17_1 := blk_frozen HGz17 1
              have hfz17_2 := blk_frozen HGz17 2
              clear HGz17 hgz17
              go_wp2
              go_meet
              case rel => exact ⟨_, (false), (by first | rfl | (simp; done) | (simp [*]; done)), H', ⟨by first | omega | exact Nat.le_refl _⟩, ⟨by repeat (first | (with_reducible first | exact HI0.out | apply IsS87.alloc | apply IsS87.drewN | apply IsS87.drew | apply IsS87.set_0 | apply IsS87.set_1 | apply IsS87.set_2) | exact HI0.out)⟩, ⟨by repeat (first | (with_reducible first | exact HK.out | apply KeepBut.set_ | apply keep_drewN | apply keep_drew | apply keep_alloc) | exact HK.out)⟩, ⟨by repeat (first | (with_reducible first | exact HB.out | apply below_alloc | apply pw_below_drewN | apply below_drew1 | refine below_set ?_ (IsS87.ge HI0.out)) | exact HB.out)⟩⟩
          case rest =>
            clear HC13
            try clear c1
            try clear p2
            try clear c3
            try clear c5
            try clear c5b0
            try clear c5b1
            try clear c6
            try clear p6
            try clear c8
            try clear c9
            try clear c11
            try clear c11b0
            try clear c11b1
            try clear c15
            try clear c15b0
            try clear hcz10_0
            try clear hcz10_1
            try clear hcz10_2
            try clear hcz12_0
            try clear hcz12_1
            try clear hcz12_2
            try clear hcz14_0
            try clear hcz14_1
            try clear hcz14_2
            try clear hcz16_0
            try clear hcz16_1
            try clear hcz16_2
            try clear hcz17_0
            try clear hcz17_1
            try clear hcz17_2
            try clear hcz4_0
            try clear hcz4_1
            try clear hcz4_2
            try clear hcz7_0
            try clear hcz7_1
            try clear hcz7_2
            try clear hcz8_0
            try clear hcz8_1
            try clear hcz8_2
            try clear hfz10_0
            try clear hfz10_1
            try clear hfz10_2
            try clear hfz12_0
            try clear hfz12_1
            try clear hfz12_2
            try clear hfz14_0
            try clear hfz14_1
            try clear hfz14_2
            try clear hfz16_0
            try clear hfz16_1
            try clear hfz16_2
            try clear hfz17_0
            try clear hfz17_1
            try clear hfz17_2
            try clear hfz4_0
            try clear hfz4_1
            try clear hfz4_2
            try clear hfz7_0
            try clear hfz7_1
            try clear hfz7_2
            try clear hfz8_0
            try clear hfz8_1
            try clear hfz8_2
            obtain ⟨kq, x49_12, rfl, HA, HJ12, HI0, HK, HB⟩ := hcut
            cases kq with
            | zero => exact absurd HA.out (by simp [lists_scan_see.j0])
            | succ kj12 =>
              have H := HA.out
              clear HA
              simp only [lists_scan_see.j0] at H
              by_cases c18 : x49_12 = true
              · subst c18
                have H1 : (some (false, false, wrap64 (s0_2 - 1))) = some (r1, r2, r3) := by rw [if_pos rfl] at H; exact H
                clear H
                have H := H1
                clear H1
                simp only [Option.some.injEq, Prod.mk.injEq] at H
                obtain ⟨rfl, rfl, rfl⟩ := H
                obtain ⟨HGz19, hgz19⟩ := HI0.out
                have hcz19_0 := cellS87_0 HGz19
                have hcz19_1 := cellS87_1 HGz19
                have hcz19_2 := cellS87_2 HGz19
                have hfz19_0 := blk_frozen HGz19 0
                have hfz19_1 := blk_frozen HGz19 1
                have hfz19_2 := blk_frozen HGz19 2
                clear HGz19 hgz19
                go_wp2
                first | go_end0 | ((try simp only [Exit.inBlock, Exit.then]); refine bodyPost_ret (results_none rfl _ _ _) rfl ?_)
                exact ⟨by first | rfl | (simp [errW_none, errW_some] <;> rfl) | (simp [*, errW_none, errW_some] <;> rfl), by repeat (first | (with_reducible first | exact HI0.out | apply IsS87.alloc | apply IsS87.drewN | apply IsS87.drew | apply IsS87.set_0 | apply IsS87.set_1 | apply IsS87.set_2) | exact HI0.out), by repeat (first | (with_reducible first | exact HB.out | apply below_alloc | apply pw_below_drewN | apply below_drew1 | refine below_set ?_ (IsS87.ge HI0.out)) | exact HB.out), by repeat (first | (with_reducible first | exact HK.out | apply KeepBut.set_ | apply keep_drewN | apply keep_drew | apply keep_alloc) | exact HK.out)⟩
              · replace c18 := Bool.eq_false_iff.mpr c18
                subst c18
                have H1 : (if s0_2 = 0 then (if a1 = 34 then (some (true, false, s0_2)) else (some (false, false, s0_2))) else (some (false, false, s0_2))) = some (r1, r2, r3) := by rw [if_neg (show ¬ (false = true) by decide)] at H; exact H
                clear H
                have H := H1
                clear H1
                by_cases c20 : s0_2 = 0
                · rw [if_pos c20] at H
                  have c20b0 : (s0_2 == 0) = true := beq_iff_eq.mpr c20
                  have c20b1 : (s0_2 != 0) = false := bne_eq_false_iff_eq.mpr c20
                  clear c20
                  by_cases c21 : a1 = 34
                  · rw [if_pos c21] at H
                    have c21b0 : (a1 == 34) = true := beq_iff_eq.mpr c21
                    have c21b1 : (a1 != 34) = false := bne_eq_false_iff_eq.mpr c21
                    clear c21
                    simp only [Option.some.injEq, Prod.mk.injEq] at H
                    obtain ⟨rfl, rfl, rfl⟩ := H
                    obtain ⟨HGz22, hgz22⟩ := HI0.out
                    have hcz22_0 := cellS87_0 HGz22
                    have hcz22_1 := cellS87_1 HGz22
                    have hcz22_2 := cellS87_2 HGz22
                    have hfz22_0 := blk_frozen HGz22 0
                    have hfz22_1 := blk_frozen HGz22 1
                    have hfz22_2 := blk_frozen HGz22 2
                    clear HGz22 hgz22
                    go_wp2
                    first | go_end0 | ((try simp only [Exit.inBlock, Exit.then]); refine bodyPost_ret (results_none rfl _ _ _) rfl ?_)
                    exact ⟨by first | rfl | (simp [errW_none, errW_some] <;> rfl) | (simp [*, errW_none, errW_some] <;> rfl), by repeat (first | (with_reducible first | exact HI0.out | apply IsS87.alloc | apply IsS87.drewN | apply IsS87.drew | apply IsS87.set_0 | apply IsS87.set_1 | apply IsS87.set_2) | exact HI0.out), by repeat (first | (with_reducible first | exact HB.out | apply below_alloc | apply pw_below_drewN | apply below_drew1 | refine below_set ?_ (IsS87.ge HI0.out)) | exact HB.out), by repeat (first | (with_reducible first | exact HK.out | apply KeepBut.set_ | apply keep_drewN | apply keep_drew | apply keep_alloc) | exact HK.out)⟩
                  · rw [if_neg c21] at H
                    have c21b0 : (a1 == 34) = false := beq_eq_false_iff_ne.mpr c21
                    have c21b1 : (a1 != 34) = true := bne_iff_ne.mpr c21
                    simp only [Option.some.injEq, Prod.mk.injEq] at H
                    obtain ⟨rfl, rfl, rfl⟩ := H
                    obtain ⟨HGz23, hgz23⟩ := HI0.out
                    have hcz23_0 := cellS87_0 HGz23
                    have hcz23_1 := cellS87_1 HGz23
                    have hcz23_2 := cellS87_2 HGz23
                    have hfz23_0 := blk_frozen HGz23 0
                    have hfz23_1 := blk_frozen HGz23 1
                    have hfz23_2 := blk_frozen HGz23 2
                    clear HGz23 hgz23
                    go_wp2
                    first | go_end0 | ((try simp only [Exit.inBlock, Exit.then]); refine bodyPost_ret (results_none rfl _ _ _) rfl ?_)
                    exact ⟨by first | rfl | (simp [errW_none, errW_some] <;> rfl) | (simp [*, errW_none, errW_some] <;> rfl), by repeat (first | (with_reducible first | exact HI0.out | apply IsS87.alloc | apply IsS87.drewN | apply IsS87.drew | apply IsS87.set_0 | apply IsS87.set_1 | apply IsS87.set_2) | exact HI0.out), by repeat (first | (with_reducible first | exact HB.out | apply below_alloc | apply pw_below_drewN | apply below_drew1 | refine below_set ?_ (IsS87.ge HI0.out)) | exact HB.out), by repeat (first | (with_reducible first | exact HK.out | apply KeepBut.set_ | apply keep_drewN | apply keep_drew | apply keep_alloc) | exact HK.out)⟩
                · rw [if_neg c20] at H
                  have c20b0 : (s0_2 == 0) = false := beq_eq_false_iff_ne.mpr c20
                  have c20b1 : (s0_2 != 0) = true := bne_iff_ne.mpr c20
                  simp only [Option.some.injEq, Prod.mk.injEq] at H
                  obtain ⟨rfl, rfl, rfl⟩ := H
                  obtain ⟨HGz24, hgz24⟩ := HI0.out
                  have hcz24_0 := cellS87_0 HGz24
                  have hcz24_1 := cellS87_1 HGz24
                  have hcz24_2 := cellS87_2 HGz24
                  have hfz24_0 := blk_frozen HGz24 0
                  have hfz24_1 := blk_frozen HGz24 1
                  have hfz24_2 := blk_frozen HGz24 2
                  clear HGz24 hgz24
                  go_wp2
                  first | go_end0 | ((try simp only [Exit.inBlock, Exit.then]); refine bodyPost_ret (results_none rfl _ _ _) rfl ?_)
                  exact ⟨by first | rfl | (simp [errW_none, errW_some] <;> rfl) | (simp [*, errW_none, errW_some] <;> rfl), by repeat (first | (with_reducible first | exact HI0.out | apply IsS87.alloc | apply IsS87.drewN | apply IsS87.drew | apply IsS87.set_0 | apply IsS87.set_1 | apply IsS87.set_2) | exact HI0.out), by repeat (first | (with_reducible first | exact HB.out | apply below_alloc | apply pw_below_drewN | apply below_drew1 | refine below_set ?_ (IsS87.ge HI0.out)) | exact HB.out), by repeat (first | (with_reducible first | exact HK.out | apply KeepBut.set_ | apply keep_drewN | apply keep_drew | apply keep_alloc) | exact HK.out)⟩

end Go.Proofs.Ytkjkbenmoogdjaa.X
namespace Go.Proofs.Ytkjkbenmoogdjaa.X
open Go.RowKit Go.Proofs.YtkjkbenmoogdjaaW.PrintWords Go.Proofs.YtkjkbenmoogdjaaW.PrintLast Go.Proofs.YtkjkbenmoogdjaaW.PrintMore
attribute [local go_sem] max2_int min2_int max_two min_two max_three min_three max_four min_four   -- for this text's walks alone
set_option linter.unusedVariables false
set_option linter.unusedSimpArgs false

/-! ### lists_scan_closed: function 85 -/
def lists_scan_closed.f (s0_0 : Bool) (s0_1 : Bool) (s0_2 : Int) : Option (Bool × Bool × Bool × Int) := if s0_0 = true then (some (false, s0_0, s0_1, s0_2)) else (if s0_1 = true then (some (false, s0_0, s0_1, s0_2)) else (some ((s0_2 == 0), s0_0, s0_1, s0_2)))
set_option maxHeartbeats 8000000 in
set_option maxRecDepth 100000 in
theorem lists_scan_closed.calls (g : Nat) (s0_0 : Bool) (s0_1 : Bool) (s0_2 : Int) (r1 : Bool) (r2 : Bool) (r3 : Bool) (r4 : Int) (w0 w : World) (hI : IsS87 w0 w g s0_0 s0_1 s0_2) (hB : Below w0.heap.size w0 w) (h : lists_scan_closed.f s0_0 s0_1 s0_2 = some (r1, r2, r3, r4)) :
    Calls Try.prog 85 #[.pointer (some ⟨g, 0, none⟩)] w fun e w' => e = .returned (.bool r1) ∧ IsS87 w0 w' g r2 r3 r4 ∧ Below w0.heap.size w0 w' ∧ KeepBut w w' g none := by
  have HI0 := Aside0.mk hI
  have HK := Aside0.mk (KeepBut.refl w g none)
  have HL := Aside0.mk hB.size
  clear hI
  have HW0 := Aside0.mk hB.size
  have HB := Aside0.mk hB
  clear hB
  have H : (if s0_0 = true then (some (false, s0_0, s0_1, s0_2)) else (if s0_1 = true then (some (false, s0_0, s0_1, s0_2)) else (some ((s0_2 == 0), s0_0, s0_1, s0_2)))) = some (r1, r2, r3, r4) := h
  clear h
  by_cases c2 : s0_0 = true
  · subst c2
    have H1 : (some (false, true, s0_1, s0_2)) = some (r1, r2, r3, r4) := by rw [if_pos rfl] at H; exact H
    clear H
    have H := H1
    clear H1
    simp only [Option.some.injEq, Prod.mk.injEq] at H
    obtain ⟨rfl, rfl, rfl, rfl⟩ := H
    obtain ⟨HGz3, hgz3⟩ := HI0.out
    have hcz3_0 := cellS87_0 HGz3
    have hcz3_1 := cellS87_1 HGz3
    have hcz3_2 := cellS87_2 HGz3
    have hfz3_0 := blk_frozen HGz3 0
    have hfz3_1 := blk_frozen HGz3 1
    have hfz3_2 := blk_frozen HGz3 2
    clear HGz3 hgz3
    go_enter Try.func85, Try.ntmps85
    go_wp2
    go_ret
    exact ⟨by first | rfl | (simp [errW_none, errW_some] <;> rfl) | (simp [*, errW_none, errW_some] <;> rfl), by repeat (first | (with_reducible first | exact HI0.out | apply IsS87.alloc | apply IsS87.drewN | apply IsS87.drew | apply IsS87.set_0 | apply IsS87.set_1 | apply IsS87.set_2) | exact HI0.out), by repeat (first | (with_reducible first | exact HB.out | apply below_alloc | apply pw_below_drewN | apply below_drew1 | refine below_set ?_ (IsS87.ge HI0.out)) | exact HB.out), by repeat (first | (with_reducible first | exact HK.out | apply KeepBut.set_ | apply keep_drewN | apply keep_drew | apply keep_alloc) | exact HK.out)⟩
  · replace c2 := Bool.eq_false_iff.mpr c2
    subst c2
    have H1 : (if s0_1 = true then (some (false, false, s0_1, s0_2)) else (some ((s0_2 == 0), false, s0_1, s0_2))) = some (r1, r2, r3, r4) := by rw [if_neg (show ¬ (false = true) by decide)] at H; exact H
    clear H
    have H := H1
    clear H1
    by_cases c4 : s0_1 = true
    · subst c4
      have H1 : (some (false, false, true, s0_2)) = some (r1, r2, r3, r4) := by rw [if_pos rfl] at H; exact H
      clear H
      have H := H1
      clear H1
      simp only [Option.some.injEq, Prod.mk.injEq] at H
      obtain ⟨rfl, rfl, rfl, rfl⟩ := H
      obtain ⟨HGz5, hgz5⟩ := HI0.out
      have hcz5_0 := cellS87_0 HGz5
      have hcz5_1 := cellS87_1 HGz5
      have hcz5_2 := cellS87_2 HGz5
      have hfz5_0 := blk_frozen HGz5 0
      have hfz5_1 := blk_frozen HGz5 1
      have hfz5_2 := blk_frozen HGz5 2
      clear HGz5 hgz5
      go_enter Try.func85, Try.ntmps85
      go_wp2
      go_ret
      exact ⟨by first | rfl | (simp [errW_none, errW_some] <;> rfl) | (simp [*, errW_none, errW_some] <;> rfl), by repeat (first | (with_reducible first | exact HI0.out | apply IsS87.alloc | apply IsS87.drewN | apply IsS87.drew | apply IsS87.set_0 | apply IsS87.set_1 | apply IsS87.set_2) | exact HI0.out), by repeat (first | (with_reducible first | exact HB.out | apply below_alloc | apply pw_below_drewN | apply below_drew1 | refine below_set ?_ (IsS87.ge HI0.out)) | exact HB.out), by repeat (first | (with_reducible first | exact HK.out | apply KeepBut.set_ | apply keep_drewN | apply keep_drew | apply keep_alloc) | exact HK.out)⟩
    · replace c4 := Bool.eq_false_iff.mpr c4
      subst c4
      have H1 : (some ((s0_2 == 0), false, false, s0_2)) = some (r1, r2, r3, r4) := by rw [if_neg (show ¬ (false = true) by decide)] at H; exact H
      clear H
      have H := H1
      clear H1
      simp only [Option.some.injEq, Prod.mk.injEq] at H
      obtain ⟨rfl, rfl, rfl, rfl⟩ := H
      obtain ⟨HGz6, hgz6⟩ := HI0.out
      have hcz6_0 := cellS87_0 HGz6
      have hcz6_1 := cellS87_1 HGz6
      have hcz6_2 := cellS87_2 HGz6
      have hfz6_0 := blk_frozen HGz6 0
      have hfz6_1 := blk_frozen HGz6 1
      have hfz6_2 := blk_frozen HGz6 2
      clear HGz6 hgz6
      go_enter Try.func85, Try.ntmps85
      go_wp2
      go_ret
      exact ⟨by first | rfl | (simp [errW_none, errW_some] <;> rfl) | (simp [*, errW_none, errW_some] <;> rfl), by repeat (first | (with_reducible first | exact HI0.out | apply IsS87.alloc | apply IsS87.drewN | apply IsS87.drew | apply IsS87.set_0 | apply IsS87.set_1 | apply IsS87.set_2) | exact HI0.out), by repeat (first | (with_reducible first | exact HB.out | apply below_alloc | apply pw_below_drewN | apply below_drew1 | refine below_set ?_ (IsS87.ge HI0.out)) | exact HB.out), by repeat (first | (with_reducible first | exact HK.out | apply KeepBut.set_ | apply keep_drewN | apply keep_drew | apply keep_alloc) | exact HK.out)⟩

end Go.Proofs.Ytkjkbenmoogdjaa.X
namespace Go.Proofs.Ytkjkbenmoogdjaa.X
open Go.RowKit Go.Proofs.YtkjkbenmoogdjaaW.PrintWords Go.Proofs.YtkjkbenmoogdjaaW.PrintLast Go.Proofs.YtkjkbenmoogdjaaW.PrintMore
attribute [local go_sem] max2_int min2_int max_two min_two max_three min_three max_four min_four   -- for this text's walks alone
set_option linter.unusedVariables false
set_option linter.unusedSimpArgs false

/-! ### lists_ends: function 53 -/
/-! The scan of a list's octets: what is closed in. -/
def seeS (q sl : Bool) (d c : Int) : Bool × Bool × Int :=
  if sl = true then (q, false, d)
  else if c = 92 then (q, q || decide (0 < d), d)
  else if q = true then (c != 34, sl, d)
  else if c = 40 then (q, sl, d + 1)
  else if 0 < d ∧ c = 41 then (q, sl, d - 1)
  else if d = 0 ∧ c = 34 then (true, sl, d)
  else (q, sl, d)
def stAt (s : ByteArray) : Nat → Bool × Bool × Int
  | 0 => (false, false, 0)
  | i + 1 => seeS (stAt s i).1 (stAt s i).2.1 (stAt s i).2.2 (bt s i)
def closedS (st : Bool × Bool × Int) : Bool := !st.1 && (!st.2.1 && st.2.2 == 0)
theorem seeS_deep (q sl : Bool) (d c : Int) (h : 0 ≤ d) : 0 ≤ (seeS q sl d c).2.2 ∧ (seeS q sl d c).2.2 ≤ d + 1 := by
  unfold seeS
  repeat' split
  all_goals (dsimp only; omega)
theorem stAt_deep (s : ByteArray) (i : Nat) : 0 ≤ (stAt s i).2.2 ∧ (stAt s i).2.2 ≤ i := by
  induction i with
  | zero => exact ⟨Int.le_refl _, Int.le_refl _⟩
  | succ i ih =>
    have := seeS_deep (stAt s i).1 (stAt s i).2.1 (stAt s i).2.2 (bt s i) ih.1
    show 0 ≤ (seeS _ _ _ _).2.2 ∧ (seeS _ _ _ _).2.2 ≤ ((i + 1 : Nat) : Int)
    omega
theorem see_f (q sl : Bool) (d c : Int) (h : 0 ≤ d) (h2 : d ≤ 4611686018427387904) :
    lists_scan_see.f 2 q sl d c = some ((seeS q sl d c).1, (seeS q sl d c).2.1, (seeS q sl d c).2.2) := by
  have w1 : wrap64 (d + 1) = d + 1 := by unfold wrap64; omega
  have w2 : wrap64 (d - 1) = d - 1 := by unfold wrap64; omega
  unfold lists_scan_see.f seeS
  cases sl
  · by_cases e1 : c = 92
    · cases q <;> simp [e1]
    · cases q
      · by_cases e2 : c = 40
        · simp [e2, w1]
        · by_cases e3 : 0 < d
          · have e4 : ¬ d = 0 := by omega
            by_cases e5 : c = 41
            · simp [e3, e5, lists_scan_see.j0, w2]
            · simp [e1, e2, e3, e4, e5, lists_scan_see.j0]
          · have e4 : d = 0 := by omega
            subst e4
            by_cases e5 : c = 34
            · simp [e5, lists_scan_see.j0]
            · simp [e1, e2, e5, lists_scan_see.j0]
      · simp [e1]
  · simp
theorem closed_f (q sl : Bool) (d : Int) : lists_scan_closed.f q sl d = some (closedS (q, sl, d), q, sl, d) := by
  unfold lists_scan_closed.f closedS
  cases q <;> cases sl <;> rfl
def lists_ends.f (a0 : ByteArray) : Option (Bool) := if a0.size ≤ 140737488351232 then some (closedS (stAt a0 a0.size)) else none
theorem bt_nat' (s : ByteArray) (i : Nat) : ∀ h : i < s.size, ((s[i]'h).toNat : Int) = bt s i := fun h => by
  have := bt_at s (i : Int) (by simpa using h)
  simpa using this
set_option maxHeartbeats 2000000 in
set_option maxRecDepth 100000 in
theorem lists_ends.calls (a0 : ByteArray) (r : Bool) (w : World) (h : lists_ends.f a0 = some r) :
    Calls Try.prog 53 #[.string a0] w fun e w' => e = .returned (.bool r) ∧ Below w.heap.size w w' := by
  by_cases hs : a0.size ≤ 140737488351232
  · rw [lists_ends.f, if_pos hs] at h
    obtain rfl := Option.some.inj h
    clear h
    have hI0 := IsS87.new w w false false 0 (Below.refl _ _)
    have HI0 := Aside0.mk hI0
    clear hI0
    go_enter Try.func53, Try.ntmps53
    go_wp2
    go_loopw [7] (fun i7 wr => ∃ i : Nat, i ≤ a0.size ∧ i7 = .int .i64 i ∧ Aside0 (IsS87 w wr w.heap.size (stAt a0 i).1 (stAt a0 i).2.1 (stAt a0 i).2.2 ∧ Below w.heap.size w wr)) (fun i7 _ => a0.size - (intOf i7).toNat)
    case atStart => exact ⟨0, by omega, rfl, ⟨HI0.out, (Below.refl _ w).alloc (Nat.le_refl _) _⟩⟩
    case round =>
      obtain ⟨i, hi, rfl, HA⟩ := hrel
      clear HI0
      by_cases hlt : i < a0.size
      · have hlt2 : (i : Int) < a0.size := by omega
        have hx := bt_nat' a0 i
        have hd := stAt_deep a0 i
        have hC := lists_scan_see.calls 2 w.heap.size _ _ _ (bt a0 i) _ _ _ w wr HA.out.1 HA.out.2 (see_f (stAt a0 i).1 (stAt a0 i).2.1 (stAt a0 i).2.2 (bt a0 i) hd.1 (by omega))
        have HC := Aside0.mk hC
        clear hC HA hd
        obtain ⟨C, hCe⟩ : ∃ C, bt a0 i = C := ⟨_, rfl⟩
        have HCe := Aside0.mk hCe
        rw [hCe] at hx HC
        clear hCe
        go_wp2_with (go_at_call 84; refine HC.out.mono ?_; rintro e w' ⟨rfl, hI1, hB1, _⟩; have HA1 := Aside0.mk (And.intro hI1 hB1); clear hI1 hB1)
        go_roundw
        case rel => exact ⟨i + 1, by omega, by go_num, by rw [stAt, HCe.out]; exact HA1⟩
        case measure => simp [intOf]; omega
      · obtain rfl : i = a0.size := by omega
        have hC := lists_scan_closed.calls w.heap.size _ _ _ _ _ _ _ w wr HA.out.1 HA.out.2 (closed_f _ _ _)
        have HC := Aside0.mk hC
        clear hC HA
        go_wp2_with (go_at_call 85; refine HC.out.mono ?_; rintro e w' ⟨rfl, hI1, hB1, _⟩)
        go_ret
        exact ⟨rfl, hB1⟩
  · rw [lists_ends.f, if_neg hs] at h
    cases h


end Go.Proofs.Ytkjkbenmoogdjaa.X
namespace Go.Proofs.Ytkjkbenmoogdjaa.X
open Go.RowKit Go.Proofs.YtkjkbenmoogdjaaW.PrintWords Go.Proofs.YtkjkbenmoogdjaaW.PrintLast Go.Proofs.YtkjkbenmoogdjaaW.PrintMore
attribute [local go_sem] max2_int min2_int max_two min_two max_three min_three max_four min_four   -- for this text's walks alone
set_option linter.unusedVariables false
set_option linter.unusedSimpArgs false

/-! ### lists_elements: function 54 -/
set_option maxHeartbeats 1000000 in
theorem lists_elements.calls (a0 : ByteArray) (w : World) :
    Calls Try.prog 54 #[.string a0] w fun e w' => e = .returned (.func (.func 86) #[] #[.pointer (some ⟨w.heap.size, 0, none⟩)]) ∧ w' = w.alloc (.cells #[.string a0] 9) := by
  go_enter Try.func54, Try.ntmps54
  go_wp2
  go_ret
  exact ⟨rfl, rfl⟩


end Go.Proofs.Ytkjkbenmoogdjaa.X
namespace Go.Proofs.Ytkjkbenmoogdjaa.X
open Go.RowKit Go.Proofs.YtkjkbenmoogdjaaW.PrintWords Go.Proofs.YtkjkbenmoogdjaaW.PrintLast Go.Proofs.YtkjkbenmoogdjaaW.PrintMore
attribute [local go_sem] max2_int min2_int max_two min_two max_three min_three max_four min_four   -- for this text's walks alone
set_option linter.unusedVariables false
set_option linter.unusedSimpArgs false

/-! ### abutmentref07_Behind: function 55 -/
def behF (s : ByteArray) (at_ : Nat) (q : Bool) : Nat → Int → Nat → Int
  | 0, _, _ => -1
  | f + 1, d, i =>
    if i < s.size then
      if bt s i = 92 then behF s at_ q f d (i + 2)
      else if q = true then (if at_ < i ∧ bt s i = 34 then (i : Int) + 1 else behF s at_ q f d (i + 1))
      else if bt s i = 40 then behF s at_ q f (d + 1) (i + 1)
      else if bt s i = 41 then (if d - 1 = 0 then (i : Int) + 1 else behF s at_ q f (d - 1) (i + 1))
      else behF s at_ q f d (i + 1)
    else -1
theorem behF_end (s : ByteArray) (at_ : Nat) (q : Bool) (f : Nat) (d : Int) (i : Nat) (h : ¬ i < s.size) : behF s at_ q f d i = -1 := by
  cases f with
  | zero => rfl
  | succ f => simp only [behF]; rw [if_neg h]
def behind (s : ByteArray) (at_ : Nat) : Int := behF s at_ (bt s at_ == 34) s.size 0 at_
def abutmentref07_Behind.f (a0 : ByteArray) (a1 : Int) : Option (Int) := if 0 ≤ a1 ∧ a1 < a0.size ∧ a0.size ≤ 140737488351232 then some (behind a0 a1.toNat) else none
theorem bt_nat (s : ByteArray) (i : Nat) : ∀ h : i < s.size, ((s[i]'h).toNat : Int) = bt s i := fun h => by
  have := bt_at s (i : Int) (by simpa using h)
  simpa using this
set_option maxHeartbeats 4000000 in
set_option maxRecDepth 100000 in
theorem behind_walk (q : Bool) (s : ByteArray) (p : Nat) (w : World) (hp : p < s.size) (hs : s.size ≤ 140737488351232) (hq : (bt s p == 34) = q) :
    Calls Try.prog 55 #[.string s, .int .i64 (p : Int)] w fun e w' => e = .returned (.int .i64 (behF s p q s.size 0 p)) ∧ Drawn0 w w' := by
  have hxp := bt_nat s p
  obtain ⟨B, hB⟩ : ∃ B, bt s p = B := ⟨_, rfl⟩
  rw [hB] at hxp hq
  have HQ := Aside0.mk hB
  clear hB
  obtain ⟨R0, hR0⟩ : ∃ R0, behF s p q s.size 0 p = R0 := ⟨_, rfl⟩
  have HR0 := Aside0.mk hR0
  rw [hR0]
  clear hR0
  cases q
  · have hp2 : (p : Int) < s.size := by omega
    go_enter Try.func55, Try.ntmps55
    go_wp2
    go_loop [6, 7] (fun dd ii => ∃ (i f : Nat) (d : Int), ii = .int .i64 i ∧ dd = .int .i64 d ∧ i ≤ s.size + 1 ∧ s.size ≤ i + f ∧ -(i : Int) ≤ d ∧ d ≤ i ∧ Aside0 (behF s p false f d i = R0)) (fun _ ii => s.size + 2 - (intOf ii).toNat)
    case atStart => exact ⟨p, s.size, 0, rfl, rfl, by omega, by omega, by omega, by omega, HR0⟩
    case round =>
      obtain ⟨i, f, d, rfl, rfl, hi, hf, hd1, hd2, HL⟩ := hrel
      clear HR0
      by_cases hlt : i < s.size
      · obtain ⟨f, rfl⟩ : ∃ g, f = g + 1 := ⟨f - 1, by omega⟩
        have hlt2 : (i : Int) < s.size := by omega
        have hx := bt_nat s i
        obtain ⟨C, hC⟩ : ∃ C, bt s i = C := ⟨_, rfl⟩
        have hl := HL.out
        simp only [behF, hlt, if_true, hC, Bool.false_eq_true, if_false] at hl
        rw [hC] at hx
        clear hC HL
        by_cases e1 : C = 92
        · subst e1
          rw [if_pos rfl] at hl
          have HL := Aside0.mk hl
          clear hl
          go_wp2
          go_round
          case rel => exact ⟨i + 2, f, d, by go_num, rfl, by omega, by omega, by omega, by omega, HL⟩
          case measure => simp [intOf]; omega
        · rw [if_neg e1] at hl
          have b1 : (C == 92) = false := beq_eq_false_iff_ne.2 e1
          by_cases e2 : C = 40
          · subst e2
            rw [if_pos rfl] at hl
            have HL := Aside0.mk hl
            clear hl
            go_wp2
            go_round
            case rel => exact ⟨i + 1, f, d + 1, by go_num, by go_num, by omega, by omega, by omega, by omega, HL⟩
            case measure => simp [intOf]; omega
          · rw [if_neg e2] at hl
            have b2 : (C == 40) = false := beq_eq_false_iff_ne.2 e2
            by_cases e3 : C = 41
            · subst e3
              rw [if_pos rfl] at hl
              by_cases e4 : d - 1 = 0
              · rw [if_pos e4] at hl
                have b4 : (d - 1 == 0) = true := beq_iff_eq.2 e4
                have HL := Aside0.mk hl
                clear hl e4
                go_wp2
                go_ret
                exact ⟨by rw [← HL.out]; rfl, Drawn0.refl _⟩
              · rw [if_neg e4] at hl
                have b4 : (d - 1 == 0) = false := beq_eq_false_iff_ne.2 e4
                have HL := Aside0.mk hl
                clear hl e4
                go_wp2
                go_round
                case rel => exact ⟨i + 1, f, d - 1, by go_num, by go_num, by omega, by omega, by omega, by omega, HL⟩
                case measure => simp [intOf]; omega
            · rw [if_neg e3] at hl
              have b3 : (C == 41) = false := beq_eq_false_iff_ne.2 e3
              have HL := Aside0.mk hl
              clear hl e1 e2 e3
              go_wp2
              go_round
              case rel => exact ⟨i + 1, f, d, by go_num, rfl, by omega, by omega, by omega, by omega, HL⟩
              case measure => simp [intOf]; omega
      · have hl := HL.out
        rw [behF_end s p false f d i hlt] at hl
        have HF := Aside0.mk hl
        clear hl HL
        go_wp2
        go_ret
        exact ⟨by rw [← HF.out]; rfl, Drawn0.refl _⟩
  · have hp2 : (p : Int) < s.size := by omega
    go_enter Try.func55, Try.ntmps55
    go_wp2
    go_loop [6, 7] (fun dd ii => ∃ (i f : Nat), ii = .int .i64 i ∧ dd = .int .i64 0 ∧ p ≤ i ∧ i ≤ s.size + 1 ∧ s.size ≤ i + f ∧ Aside0 (behF s p true f 0 i = R0)) (fun _ ii => s.size + 2 - (intOf ii).toNat)
    case atStart => exact ⟨p, s.size, rfl, rfl, by omega, by omega, by omega, HR0⟩
    case round =>
      obtain ⟨i, f, rfl, rfl, hpi, hi, hf, HL⟩ := hrel
      clear HR0
      by_cases hlt : i < s.size
      · obtain ⟨f, rfl⟩ : ∃ g, f = g + 1 := ⟨f - 1, by omega⟩
        have hlt2 : (i : Int) < s.size := by omega
        have hx := bt_nat s i
        obtain ⟨C, hC⟩ : ∃ C, bt s i = C := ⟨_, rfl⟩
        have hl := HL.out
        simp only [behF, hlt, if_true, hC] at hl
        rw [hC] at hx
        clear hC HL
        by_cases e1 : C = 92
        · subst e1
          rw [if_pos rfl] at hl
          have HL := Aside0.mk hl
          clear hl
          go_wp2
          go_round
          case rel => exact ⟨i + 2, f, by go_num, rfl, by omega, by omega, by omega, HL⟩
          case measure => simp [intOf]; omega
        · rw [if_neg e1] at hl
          have b1 : (C == 92) = false := beq_eq_false_iff_ne.2 e1
          by_cases e2 : p < i
          · by_cases e3 : C = 34
            · rw [if_pos ⟨e2, e3⟩] at hl
              have b3 : (C == 34) = true := beq_iff_eq.2 e3
              have HL := Aside0.mk hl
              clear hl e3 e1
              go_wp2
              go_ret
              exact ⟨by rw [← HL.out]; rfl, Drawn0.refl _⟩
            · rw [if_neg (fun h => e3 h.2)] at hl
              have b3 : (C == 34) = false := beq_eq_false_iff_ne.2 e3
              have HL := Aside0.mk hl
              clear hl e1 e3
              go_wp2
              go_round
              case rel => exact ⟨i + 1, f, by go_num, rfl, by omega, by omega, by omega, HL⟩
              case measure => simp [intOf]; omega
          · rw [if_neg (fun h => e2 h.1)] at hl
            have HL := Aside0.mk hl
            clear hl e1
            go_wp2
            go_round
            case rel => exact ⟨i + 1, f, by go_num, rfl, by omega, by omega, by omega, HL⟩
            case measure => simp [intOf]; omega
      · have hl := HL.out
        rw [behF_end s p true f 0 i hlt] at hl
        have HF := Aside0.mk hl
        clear hl HL
        go_wp2
        go_ret
        exact ⟨by rw [← HF.out]; rfl, Drawn0.refl _⟩
theorem abutmentref07_Behind.calls (a0 : ByteArray) (a1 : Int) (r : Int) (w : World) (h : abutmentref07_Behind.f a0 a1 = some r) :
    Calls Try.prog 55 #[.string a0, .int .i64 a1] w fun e w' => e = .returned (.int .i64 r) ∧ Drawn0 w w' := by
  by_cases hh : 0 ≤ a1 ∧ a1 < a0.size ∧ a0.size ≤ 140737488351232
  · rw [abutmentref07_Behind.f, if_pos hh] at h
    obtain rfl := Option.some.inj h
    obtain ⟨p, rfl⟩ := Int.eq_ofNat_of_zero_le hh.1
    exact behind_walk _ a0 p w (by omega) hh.2.2 rfl
  · rw [abutmentref07_Behind.f, if_neg hh] at h
    cases h


end Go.Proofs.Ytkjkbenmoogdjaa.X
namespace Go.Proofs.Ytkjkbenmoogdjaa.X
open Go.RowKit Go.Proofs.YtkjkbenmoogdjaaW.PrintWords Go.Proofs.YtkjkbenmoogdjaaW.PrintLast Go.Proofs.YtkjkbenmoogdjaaW.PrintMore
attribute [local go_sem] max2_int min2_int max_two min_two max_three min_three max_four min_four   -- for this text's walks alone
set_option linter.unusedVariables false
set_option linter.unusedSimpArgs false

/-! ### lists_elements_1: function 86 -/
open Go.Shelf
attribute [local go_sem] Oper.semAt_some
/-! ### A range over an iterator that keeps a variable of type T of its own -/
/-- What is said abides the turn of a block of cells of type T from B on. -/
def AbidesT {β : Type} (T B : Nat) (J : β → World → Prop) : Prop :=
  ∀ s A A' row, J s A → A.grownBy A' row → (∀ r, row = some r → B ≤ r ∧ ∃ cells fr, A.heap[r]? = some (.cells cells T fr)) → J s A'
/-- .. and that of a block that is no cells, from B on. -/
def OwnT {β : Type} (T B : Nat) (I : β → World → Prop) : Prop :=
  ∀ s A A' row, I s A → A.grownBy A' row → (∀ r, row = some r → B ≤ r ∧ ∃ o : Obj, A.heap[r]? = some o ∧ (o.isCells = false ∨ ∃ cells fr, o = .cells cells T fr)) → I s A'
theorem OwnT.abides {β : Type} {T B : Nat} {I : β → World → Prop} (h : OwnT T B I) : AbidesT T B I :=
  fun s A A' row hs hg hr => h s A A' row hs hg (fun r e => by obtain ⟨hb, c, fr, ho⟩ := hr r e; exact ⟨hb, _, ho, .inr ⟨c, fr, rfl⟩⟩)
theorem OwnT.putObj {β : Type} {T B : Nat} {I : β → World → Prop} (h : OwnT T B I) {s : β} {W : World} {l : Nat} {o : Obj} (o' : Obj) (hs : I s W) (hB : B ≤ l) (hl : W.heap[l]? = some o) (ho : o.isCells = false) : I s (W.putObj l o') :=
  h s W _ (some l) hs (grownBy_putObj' W l o') (fun r e => by cases e; exact ⟨hB, o, hl, .inl ho⟩)
theorem OwnT.alloc {β : Type} {T B : Nat} {I : β → World → Prop} (h : OwnT T B I) {s : β} {W : World} (o : Obj) (hs : I s W) : I s (W.alloc o) :=
  h s W _ none hs (World.grownBy_alloc W o none) (fun r e => by cases e)
/-- Called with yield, the iterator hands it xs, one by one, if every round goes on and keeps Kp. -/
def SeqT {α : Type} (T : Nat) (n : Nat) (P : Program) (g : Nat) (lb : Array Value) (enc : α → Value) (Kp : World → World → Prop) (xs : List α) (w : World) : Prop :=
  ∀ (l : Nat) (J : List α → World → Prop) (W : World), Below w.heap.size w W → AbidesT T W.heap.size J →
    (∀ pre x W1, J pre W1 → pre ++ [x] <+: xs → YieldAt Fence.wide (n - 1) P l #[enc x] W1 fun e W' => e = .returned (.bool true) ∧ J (pre ++ [x]) W' ∧ Kp W1 W') →
    J [] W →
    CallsIn Fence.wide n P g (#[.func (.yield l) #[] #[]] ++ lb) W fun e W' => (∃ v, e = .returned v) ∧ J xs W'
def postT {α : Type} (B : Nat) (Kp : World → World → Prop) (I : List α → World → Prop) (xs : List α) (W : World) : Exit → Act → World → Prop
  | .normal, _, W' => KeepsFrom B W W' ∧ Kp W W' ∧ I xs W'
  | _, _, _ => False
theorem wpIn_rangeT {α : Type} {n : Nat} {P : Program} {T : Nat} {g : Operand} {p : Tmp} {assign body : Code} {Q : Exit → Act → World → Prop} {a : Act} {w : World}
    (h1 : 1 ≤ n) {gf : Nat} {lb : Array Value} (hg : a.eval g = .func (.func gf) #[] lb) (eg : ∀ args w, (callFunc gf args).run P w = .ok (.enter gf args) w)
    {enc : α → Value} {Kp : World → World → Prop} {xs : List α} {w0 : World} (hseq : SeqT T (n - 1) P gf lb enc Kp xs w0)
    (hKt : ∀ {A B C : World}, Kp A B → Kp B C → Kp A C) (hKb : ∀ (W : World) (l : Nat) (o o' : Obj), w.heap.size ≤ l → W.heap[l]? = some o → o.isCells = false → Kp W (W.putObj l o')) (hb0 : Below w0.heap.size w0 w)
    (I : List α → World → Prop) (hI : OwnT T w.heap.size I) (h0 : I [] w) (a₁ : α → Act)
    (hassign : ∀ (l : Nat) (x : α) (W : World) (K : Act → World → Prop), K (a₁ x) W →
      assign.wpIn (Fence.wide.inRound l) (n - 1 - 1) P (Exit.then K (fun _ _ _ => False)) { tmps := ((#[p] : Array Tmp).zip #[enc x]).foldl (fun t (p, v) => t.setIfInBounds p v) a.tmps, defers := [] } W)
    (hbody : ∀ (l : Nat) (pre : List α) (x : α) (W : World), I pre W → pre ++ [x] <+: xs → body.wpIn (Fence.wide.inRound l) (n - 1 - 1) P (postT w.heap.size Kp I (pre ++ [x]) W) (a₁ x) W)
    (hdone : ∀ (D : Nat) (W : World), w.heap.size ≤ D → I xs W → W.heap[D]? = some (.deferred (some [])) → Q .normal { a with defers := { target := .collected D, args := #[] } :: a.defers } W) :
    (Code.rangeFunc g #[p] assign body).wpIn Fence.wide n P Q a w := by
  refine wpIn_rangeFunc ?_
  intro fn hfn
  obtain ⟨rec, hrec⟩ : ∃ rec : LoopState → Option Code → Loop, rec = fun st pe => { state := st, pending := pe, fn, tmps := a.tmps, params := #[p], assign, body, defers := w.heap.size } := ⟨_, rfl⟩
  obtain ⟨W1, hW1⟩ : ∃ W1, (w.alloc (.deferred (some []))).alloc (.loop (rec .ready none)) = W1 := ⟨_, rfl⟩
  have hsz1 : W1.heap.size = w.heap.size + 2 := by rw [← hW1]; simp
  have hL1 : W1.heap[w.heap.size + 1]? = some (.loop (rec .ready none)) := by
    rw [← hW1]; have := World.alloc_heap_new (w.alloc (.deferred (some []))) (.loop (rec .ready none)); rwa [World.size_alloc] at this
  have hK1 : W1.heap[w.heap.size]? = some (.deferred (some [])) := by
    rw [← hW1]; exact (Below.heap_alloc _ _ _ (by simp)).trans (World.alloc_heap_new w _)
  have hI1 : I [] W1 := by rw [← hW1]; exact hI.alloc _ (hI.alloc _ h0)
  have hb1 : Below w0.heap.size w0 W1 := by
    rw [← hW1]; exact hb0.trans ((((Below.refl _ w).alloc (Nat.le_refl _) _).alloc (by simp) _).mono hb0.size)
  refine ⟨w.heap.size + 1, [{ target := .collected w.heap.size, args := #[] }], W1, { target := .fn (.func gf) lb, args := #[.func (.yield (w.heap.size + 1)) #[] #[]] }, W1, gf,
    #[.func (.yield (w.heap.size + 1)) #[] #[]] ++ lb, W1, ?_, ?_, fun _ _ => trivial, ?_, fun _ => h1, ?_⟩
  · rw [← hW1, hrec]; exact run_enterLoop_outer _ _ _ _ _
  · simp only [resolve, hg]
    simp [go_sem]
  · simp [invoke, go_sem, eg]
  · refine (hseq (w.heap.size + 1)
      (fun pre W => I pre W ∧ W.heap[w.heap.size + 1]? = some (.loop (rec .ready none)) ∧ W.heap[w.heap.size]? = some (.deferred (some []))) W1 hb1 ?_ ?_ ⟨hI1, hL1, hK1⟩).mono ?_
    · intro s A B row hs hg' hr
      refine ⟨hI.abides s A B row hs.1 hg' (fun r e => ⟨by have := (hr r e).1; omega, (hr r e).2⟩), ?_, ?_⟩
      · refine (hg'.block _ (Array.getElem?_eq_some_iff.1 hs.2.1).1 ?_).trans hs.2.1
        intro e; obtain ⟨hb, c, fr, ho⟩ := hr _ e.symm
        omega
      · refine (hg'.block _ (Array.getElem?_eq_some_iff.1 hs.2.2).1 ?_).trans hs.2.2
        intro e; obtain ⟨hb, c, fr, ho⟩ := hr _ e.symm
        omega
    · rintro pre x W ⟨hi, hl, hk⟩ hlen
      have hlt : w.heap.size + 1 < W.heap.size := (Array.getElem?_eq_some_iff.1 hl).1
      have hy := run_yield (P := P) (args := #[enc x]) hl (by rw [hrec]; rfl)
      rw [hrec] at hy
      refine ⟨fn, _, assign, body, hy, roundIn_of_wpIn hfn (hassign _ x W _ ⟨_, run_beginRound hl (by rw [hrec]), ?_⟩)⟩
      have hl2 : (W.putObj (w.heap.size + 1) (.loop { rec .ready none with state := .busy })).heap[w.heap.size + 1]? = some (.loop { rec .ready none with state := .busy }) := World.putObj_heap_same hlt
      have hk2 : (W.putObj (w.heap.size + 1) (.loop { rec .ready none with state := .busy })).heap[w.heap.size]? = some (.deferred (some [])) := (World.putObj_heap_other (by omega)).trans hk
      have hw2 : Kp W (W.putObj (w.heap.size + 1) (.loop { rec .ready none with state := .busy })) := hKb _ _ _ _ (by omega) hl rfl
      refine wpIn_mono (hbody _ pre x _ (hI.putObj _ hi (by omega) hl rfl) hlen) ?_
      rintro e a3 W3 hp
      cases e with
      | normal =>
        obtain ⟨hk3, hkp3, hi3⟩ := hp
        have hl3 := hk3.same _ _ (by omega) hl2 rfl
        have hr := run_endRound (P := P) none hl3
        rw [hrec] at hr
        have hl4 : (W3.putObj (w.heap.size + 1) (.loop (rec .ready none))).heap[w.heap.size + 1]? = some (.loop (rec .ready none)) := World.putObj_heap_same (Array.getElem?_eq_some_iff.1 hl3).1
        have hk4 : (W3.putObj (w.heap.size + 1) (.loop (rec .ready none))).heap[w.heap.size]? = some (.deferred (some [])) := (World.putObj_heap_other (by omega)).trans (hk3.same _ _ (Nat.le_refl _) hk2 rfl)
        refine ⟨_, _, hr, rfl, ?_, ?_⟩
        · have e1 : W3.putObj (w.heap.size + 1) (.loop (rec .ready none)) = W3.putObj (w.heap.size + 1) (.loop { state := if (none : Option Code).isNone = true then .ready else .done, pending := none, fn := fn, tmps := a.tmps, params := #[p], assign := assign, body := body, defers := w.heap.size }) := by rw [hrec]; rfl
          rw [← e1]
          exact ⟨hI.putObj _ hi3 (by omega) hl3 rfl, hl4, hk4⟩
        · exact hKt (hKt hw2 hkp3) (hKb _ _ _ _ (by omega) hl3 rfl)
      | ret => exact hp.elim
      | exit id => exact hp.elim
      | goto t => exact hp.elim
      | panic ch => exact hp.elim
      | outgrown => exact hp.elim
    · rintro e W2 ⟨⟨v, rfl⟩, hi, hl, hk⟩
      exact ⟨none, _, by have := run_endLoop (P := P) hl (by rw [hrec]; simp); rw [hrec] at this; exact this, hdone _ _ (Nat.le_refl _) (hI.putObj _ hi (by omega) hl rfl) ((World.putObj_heap_other (by omega)).trans hk)⟩
/-! ### What stands between commas that are not closed in -/
def elemsAt (s : ByteArray) : Nat → Nat × List ByteArray
  | 0 => (0, [])
  | i + 1 => if bt s i = 44 ∧ closedS (stAt s i) = true then (i + 1, (elemsAt s i).2 ++ [s.extract (elemsAt s i).1 i]) else elemsAt s i
def elems (s : ByteArray) : List ByteArray := (elemsAt s s.size).2 ++ [s.extract (elemsAt s s.size).1 s.size]
theorem elemsAt_le (s : ByteArray) (i : Nat) : (elemsAt s i).1 ≤ i := by
  induction i with
  | zero => exact Nat.le_refl _
  | succ i ih => unfold elemsAt; split <;> omega
theorem elemsAt_pre (s : ByteArray) (i j : Nat) (h : i ≤ j) : (elemsAt s i).2 <+: (elemsAt s j).2 := by
  induction j with
  | zero => obtain rfl : i = 0 := by omega
            exact List.prefix_rfl
  | succ j ih =>
    by_cases he : i = j + 1
    · subst he; exact List.prefix_rfl
    · have := ih (by omega)
      conv => rhs; unfold elemsAt
      split
      · exact this.trans (List.prefix_append _ _)
      · exact this
theorem elems_pre (s : ByteArray) (i : Nat) (h : i ≤ s.size) : (elemsAt s i).2 <+: elems s := (elemsAt_pre s i s.size h).trans (List.prefix_append _ _)
theorem seeS_comma (st : Bool × Bool × Int) (h : closedS st = true) : seeS st.1 st.2.1 st.2.2 44 = st := by
  obtain ⟨q, sl, d⟩ := st
  cases q <;> cases sl <;> simp [closedS] at h
  subst h
  rfl
/-- What a round keeps: what lay when the call began, the captured text, the scan. -/
def KpS (T n₀ Bn : Nat) (W W' : World) : Prop :=
  Below n₀ W W' ∧ W'.heap[Bn]? = W.heap[Bn]? ∧ ∀ (g : Nat) (cells : Array Value), W.heap[g]? = some (.cells cells T (0, 0)) → W'.heap[g]? = some (.cells cells T (0, 0))
theorem grown_of_keep {n₀ g : Nat} {wS w w' : World} (h0 : Below n₀ wS w) (h1 : Below n₀ wS w') (hk : KeepBut w w' g none) : w.grownBy w' (some g) :=
  ⟨h1.os.trans h0.os.symm, h1.tape.trans h0.tape.symm, h1.output.trans h0.output.symm, hk.1, fun i hi hne => hk.2 i hi (fun e => hne (by rw [e])) (by simp)⟩
theorem keep_block {g k : Nat} {w w' : World} (hk : KeepBut w w' g none) {o : Obj} (h : w.heap[k]? = some o) (hne : k ≠ g) : w'.heap[k]? = some o :=
  (hk.2 k (Array.getElem?_eq_some_iff.1 h).1 hne (by simp)).trans h
theorem cell_of_block {W : World} {B t : Nat} {v : Value} (h : W.heap[B]? = some (.cells #[v] t (0, 0))) : W.cell? ⟨B, 0, none⟩ = some v := by simp [World.cell?, h]
set_option maxRecDepth 100000 in
set_option maxHeartbeats 4000000 in
theorem elements_1_seq (n : Nat) (hn : 1 ≤ n) (s : ByteArray) (hs : s.size ≤ 140737488351232) (Bn : Nat) (wS w : World) (hwS : Below wS.heap.size wS w)
    (hBn : w.heap[Bn]? = some (.cells #[.string s] 9 (0, 0))) :
    SeqT 87 n Try.prog 86 #[.pointer (some ⟨Bn, 0, none⟩)] Value.string (KpS 87 wS.heap.size Bn) (elems s) w := fun l J W hW hJ hY h0 => by
  have hB0 : W.heap[Bn]? = some (.cells #[.string s] 9 (0, 0)) := (hW.block _ (Array.getElem?_eq_some_iff.1 hBn).1).trans hBn
  have hBlt : Bn < W.heap.size := (Array.getElem?_eq_some_iff.1 hB0).1
  have hc0 := cell_of_block hB0
  have hbS : Below wS.heap.size wS W := hwS.trans (hW.mono hwS.size)
  have hI0 := IsS87.new wS W false false 0 hbS
  have HA0 : Aside0 (IsS87 wS (W.alloc (.cells #[.bool false, .bool false, .int .i64 0] 87)) W.heap.size false false 0 ∧ Below wS.heap.size wS (W.alloc (.cells #[.bool false, .bool false, .int .i64 0] 87)) ∧ J [] (W.alloc (.cells #[.bool false, .bool false, .int .i64 0] 87))) :=
    ⟨hI0, hbS.alloc hbS.size _, hJ [] W _ none h0 (World.grownBy_alloc W _ none) (fun r e => by cases e)⟩
  have hB1 : (W.alloc (.cells #[.bool false, .bool false, .int .i64 0] 87)).heap[Bn]? = some (.cells #[.string s] 9 (0, 0)) := (Below.heap_alloc W _ _ hBlt).trans hB0
  clear hI0
  have HB0 := Aside0.mk hB0
  have HB1 := Aside0.mk hB1
  have HBn := Aside0.mk hBn
  clear hB0 hB1 hBn
  refine callsIn_of_wp Try.func86 rfl trivial ?_ rfl
  simp only [Try.ntmps86, List.size_toArray, List.length_cons, List.length_nil, Nat.reduceAdd, Nat.reduceSub, Array.replicate_succ, Array.replicate_zero, List.push_toArray, List.append_toArray, List.nil_append, List.cons_append]
  gi_wp2
  gi_loopw [4, 8] (fun fr i8 wr => ∃ i : Nat, i ≤ s.size ∧ i8 = .int .i64 i ∧ fr = .int .i64 (elemsAt s i).1 ∧ wr.heap[Bn]? = some (.cells #[.string s] 9 (0, 0)) ∧
      Aside0 (IsS87 wS wr W.heap.size (stAt s i).1 (stAt s i).2.1 (stAt s i).2.2 ∧ Below wS.heap.size wS wr ∧ J (elemsAt s i).2 wr)) (fun _ i8 _ => s.size - (intOf i8).toNat)
  case atStart => exact ⟨0, by omega, rfl, rfl, HB1.out, HA0⟩
  case round =>
    obtain ⟨i, hi, rfl, rfl, hBr, HA⟩ := hrel
    clear HA0 HB1
    have hcr := cell_of_block hBr
    have hBr' := Aside0.mk hBr
    clear hBr HB0 HBn
    have hfr := elemsAt_le s i
    have hfr2 : ((elemsAt s i).1 : Int) ≤ i := by omega
    by_cases hlt : i < s.size
    · have hlt2 : (i : Int) < s.size := by omega
      have hx := bt_nat' s i
      have hd := stAt_deep s i
      obtain ⟨C, hCe⟩ : ∃ C, bt s i = C := ⟨_, rfl⟩
      have HCe := Aside0.mk hCe
      rw [hCe] at hx
      clear hCe
      have hne : Bn ≠ W.heap.size := by omega
      by_cases hcm : C = 44
      · subst hcm
        have hC := lists_scan_closed.calls W.heap.size _ _ _ _ _ _ _ wS wr HA.out.1 HA.out.2.1 (closed_f _ _ _)
        have HC := Aside0.mk hC
        clear hC
        cases hcl : closedS (stAt s i)
        · -- a comma that is closed in
          have hcl' : closedS ((stAt s i).1, (stAt s i).2.1, (stAt s i).2.2) = false := hcl
          rw [hcl'] at HC
          have HE : Aside0 (elemsAt s (i + 1) = elemsAt s i) := ⟨by show (if bt s i = 44 ∧ closedS (stAt s i) = true then _ else _) = _; rw [if_neg (by rw [hcl]; simp)]⟩
          clear hcl hcl'
          have HS := fun (w1 : World) (hI1 : IsS87 wS w1 W.heap.size (stAt s i).1 (stAt s i).2.1 (stAt s i).2.2) (hB1 : Below wS.heap.size wS w1) => lists_scan_see.calls 2 W.heap.size _ _ _ 44 _ _ _ wS w1 hI1 hB1 (see_f (stAt s i).1 (stAt s i).2.1 (stAt s i).2.2 44 hd.1 (by omega))
          have HS' := Aside0.mk HS
          clear HS hd
          gi_wp2_with (first
            | (refine ⟨trivial, ?_⟩; gi_at_call 85; refine (callsIn_wide.2 HC.out).mono ?_; rintro e w1 ⟨rfl, hI1, hB1, hk1⟩; have HA1 := Aside0.mk (And.intro hI1 (And.intro hB1 (hJ _ wr w1 (some W.heap.size) HA.out.2.2 (grown_of_keep HA.out.2.1 hB1 hk1) (fun r e => by cases e; exact ⟨Nat.le_refl _, _, _, HA.out.1.1⟩)))); have hBr1 := keep_block hk1 hBr'.out hne; have hc1 := cell_of_block hBr1; have HBr1 := Aside0.mk hBr1; clear hBr1 hI1 hB1 hk1 HC HA)
            | (refine ⟨trivial, ?_⟩; gi_at_call 84; refine (callsIn_wide.2 (HS'.out _ HA1.out.1 HA1.out.2.1)).mono ?_; rintro e w2 ⟨rfl, hI2, hB2, hk2⟩; have HA2 := Aside0.mk (And.intro hI2 (And.intro hB2 (hJ _ _ w2 (some W.heap.size) HA1.out.2.2 (grown_of_keep HA1.out.2.1 hB2 hk2) (fun r e => by cases e; exact ⟨Nat.le_refl _, _, _, HA1.out.1.1⟩)))); have HBr2 := Aside0.mk (keep_block hk2 HBr1.out hne); clear hI2 hB2 hk2 HA1))
          go_roundw
          case rel => exact ⟨i + 1, by omega, by go_num, by rw [HE.out], HBr2.out, by rw [HE.out, stAt, HCe.out]; exact HA2⟩
          case measure => simp [intOf]; omega
        · -- a comma
          have hcl' : closedS ((stAt s i).1, (stAt s i).2.1, (stAt s i).2.2) = true := hcl
          rw [hcl'] at HC
          have HE : Aside0 (elemsAt s (i + 1) = (i + 1, (elemsAt s i).2 ++ [s.extract (elemsAt s i).1 i])) := ⟨by show (if bt s i = 44 ∧ closedS (stAt s i) = true then _ else _) = _; rw [if_pos ⟨HCe.out, hcl⟩]⟩
          have HL : Aside0 ((elemsAt s i).2 ++ [s.extract (elemsAt s i).1 i] <+: elems s) := ⟨by
            have := elems_pre s (i + 1) (by omega)
            rw [HE.out] at this
            exact this⟩
          have HE2 : Aside0 (stAt s (i + 1) = stAt s i) := ⟨by
            show seeS _ _ _ (bt s i) = _
            rw [HCe.out]
            exact seeS_comma _ hcl⟩
          clear hcl hcl' hd
          gi_wp2_with (refine ⟨trivial, ?_⟩; gi_at_call 85; refine (callsIn_wide.2 HC.out).mono ?_; rintro e w1 ⟨rfl, hI1, hB1, hk1⟩; have HA1 := Aside0.mk (And.intro hI1 (And.intro hB1 (hJ _ wr w1 (some W.heap.size) HA.out.2.2 (grown_of_keep HA.out.2.1 hB1 hk1) (fun r e => by cases e; exact ⟨Nat.le_refl _, _, _, HA.out.1.1⟩)))); have hBr1 := keep_block hk1 hBr'.out hne; have hc1 := cell_of_block hBr1; have HBr1 := Aside0.mk hBr1; clear hBr1 hI1 hB1 hk1 HC HA; obtain ⟨fn, tmps, assign, body, hy, hR⟩ := hY (elemsAt s i).2 (s.extract (elemsAt s i).1 i) w1 HA1.out.2.2 HL.out)
          refine hR.mono ?_
          rintro e W3 ⟨rfl, hJ3, hk3⟩
          have HA3 : Aside0 (IsS87 wS W3 W.heap.size (stAt s i).1 (stAt s i).2.1 (stAt s i).2.2 ∧ Below wS.heap.size wS W3 ∧ J ((elemsAt s i).2 ++ [s.extract (elemsAt s i).1 i]) W3) := ⟨⟨hk3.2.2 _ _ HA1.out.1.1, HA1.out.1.2⟩, HA1.out.2.1.trans hk3.1, hJ3⟩
          have HBr3 := Aside0.mk (hk3.2.1.trans HBr1.out)
          clear hJ3 hk3 hy
          gi_wp2
          go_roundw
          case rel => exact ⟨i + 1, by omega, by go_num, by rw [HE.out]; go_num, HBr3.out, by rw [HE.out, HE2.out]; exact HA3⟩
          case measure => simp [intOf]; omega
      · have hb : (C == 44) = false := beq_eq_false_iff_ne.2 hcm
        have HE : Aside0 (elemsAt s (i + 1) = elemsAt s i) := ⟨by show (if bt s i = 44 ∧ closedS (stAt s i) = true then _ else _) = _; rw [if_neg (by rw [HCe.out]; exact fun h => hcm h.1)]⟩
        have hC := lists_scan_see.calls 2 W.heap.size _ _ _ C _ _ _ wS wr HA.out.1 HA.out.2.1 (see_f (stAt s i).1 (stAt s i).2.1 (stAt s i).2.2 C hd.1 (by omega))
        have HC := Aside0.mk hC
        clear hC hcm hd
        gi_wp2_with fail
        refine ⟨trivial, ?_⟩
        gi_wp2_with (refine ⟨trivial, ?_⟩; gi_at_call 84; refine (callsIn_wide.2 HC.out).mono ?_; rintro e w2 ⟨rfl, hI2, hB2, hk2⟩; have HA2 := Aside0.mk (And.intro hI2 (And.intro hB2 (hJ _ _ w2 (some W.heap.size) HA.out.2.2 (grown_of_keep HA.out.2.1 hB2 hk2) (fun r e => by cases e; exact ⟨Nat.le_refl _, _, _, HA.out.1.1⟩)))); have HBr2 := Aside0.mk (keep_block hk2 hBr'.out hne); clear hI2 hB2 hk2 HA)
        go_roundw
        case rel => exact ⟨i + 1, by omega, by go_num, by rw [HE.out], HBr2.out, by rw [HE.out, stAt, HCe.out]; exact HA2⟩
        case measure => simp [intOf]; omega
    · obtain rfl : i = s.size := by omega
      obtain ⟨fn, tmps, assign, body, hy, hR⟩ := hY (elemsAt s s.size).2 (s.extract (elemsAt s s.size).1 s.size) wr HA.out.2.2 List.prefix_rfl
      gi_wp2
      refine hR.mono ?_
      rintro e W3 ⟨rfl, hJ3, hk3⟩
      have HJ3 := Aside0.mk hJ3
      clear hJ3 hk3 hy
      gi_wp2
      go_end0
      exact ⟨⟨_, rfl⟩, HJ3.out⟩


end Go.Proofs.Ytkjkbenmoogdjaa.X
namespace Go.Proofs.Ytkjkbenmoogdjaa.X
open Go.RowKit Go.Proofs.YtkjkbenmoogdjaaW.PrintWords Go.Proofs.YtkjkbenmoogdjaaW.PrintLast Go.Proofs.YtkjkbenmoogdjaaW.PrintMore
attribute [local go_sem] max2_int min2_int max_two min_two max_three min_three max_four min_four   -- for this text's walks alone
set_option linter.unusedVariables false
set_option linter.unusedSimpArgs false

/-! ### pure text 1: trim -/
theorem wrap_id (x : Int) (h1 : -9223372036854775808 ≤ x) (h2 : x ≤ 9223372036854775807) : wrap64 x = x := by unfold wrap64; omega
/-- A blank, or a tab. -/
def bl (c : UInt8) : Bool := c == 32 || c == 9
def dropE {α : Type} (p : α → Bool) (l : List α) : List α := (l.reverse.dropWhile p).reverse
theorem dropE_nil {α : Type} (p : α → Bool) : dropE p [] = [] := rfl
theorem dropE_snoc {α : Type} (p : α → Bool) (l : List α) (c : α) : dropE p (l ++ [c]) = if p c = true then dropE p l else l ++ [c] := by
  unfold dropE
  rw [List.reverse_append]
  simp only [List.reverse_cons, List.reverse_nil, List.nil_append, List.singleton_append, List.dropWhile_cons]
  split <;> simp
def trimL (l : List UInt8) : List UInt8 := dropE bl (l.dropWhile bl)
def trimB (s : ByteArray) : ByteArray := ⟨(trimL s.data.toList).toArray⟩
theorem size_list (s : ByteArray) : s.size = s.data.toList.length := Lib.size_eq s
theorem bt_list (s : ByteArray) (i : Nat) (h : i < s.data.toList.length) : bt s (i : Int) = ((s.data.toList[i]'h).toNat : Int) := by
  have h2 : i < s.size := by rw [size_list]; exact h
  have := bt_at s (i : Int) (by simpa using h2)
  rw [← this]
  rfl
theorem u8_eq (c d : UInt8) : ((c.toNat : Int) = (d.toNat : Int)) ↔ c = d := ⟨fun h => UInt8.toNat_inj.1 (by omega), fun h => by rw [h]⟩
theorem bl_int (c : UInt8) : (if (c.toNat : Int) = 32 then some true else some (((c.toNat : Int)) == 9)) = some (bl c) := by
  have h32 : ((c.toNat : Int) = 32) ↔ c = 32 := u8_eq c 32
  have h9 : ((c.toNat : Int) = 9) ↔ c = 9 := u8_eq c 9
  unfold bl
  by_cases e : c = 32
  · rw [if_pos (h32.2 e)]; simp [e]
  · rw [if_neg (fun h => e (h32.1 h))]
    by_cases e2 : c = 9
    · rw [h9.2 e2]; simp [e2]
    · have e3 : ((c.toNat : Int) == 9) = false := beq_eq_false_iff_ne.2 (fun h => e2 (h9.1 h))
      simp [e, e2, e3]
theorem ext_list (s : ByteArray) (a b : Nat) : s.extract a b = ⟨((s.data.toList.drop a).take (b - a)).toArray⟩ := Lib.extract_eq s a b
theorem take_snoc' {α : Type} (l : List α) (i : Nat) (h : i < l.length) : l.take (i + 1) = l.take i ++ [l[i]] := by
  rw [List.take_succ_eq_append_getElem h]
theorem octet_blank_f (s : ByteArray) (i : Nat) (h : i < s.data.toList.length) : octet_blank.f (bt s (i : Int)) = some (bl (s.data.toList[i]'h)) := by
  unfold octet_blank.f
  rw [bt_list s i h]
  exact bl_int _
theorem octet_trim_l1 (s : ByteArray) (hs : s.size ≤ 140737488351232) : ∀ (d a b k : Nat), b - a = d → a ≤ b → b ≤ s.size → d < k →
    octet_Trim.l1 k s (a : Int) (b : Int) = some ⟨(dropE bl ((s.data.toList.drop a).take (b - a))).toArray⟩ := by
  intro d
  induction d with
  | zero =>
    intro a b k hd hab hb hk
    obtain ⟨k, rfl⟩ : ∃ m, k = m + 1 := ⟨k - 1, by omega⟩
    obtain rfl : a = b := by omega
    simp only [octet_Trim.l1]
    rw [if_neg (by omega), if_pos (by omega), if_pos (by omega), if_pos (by omega), ext_list]
    simp [dropE]
  | succ d ih =>
    intro a b k hd hab hb hk
    obtain ⟨k, rfl⟩ : ∃ m, k = m + 1 := ⟨k - 1, by omega⟩
    obtain ⟨c, rfl⟩ : ∃ c, b = c + 1 := ⟨b - 1, by omega⟩
    have hw : wrap64 (((c + 1 : Nat) : Int) - 1) = (c : Int) := by rw [wrap_id _ (by omega) (by omega)]; omega
    have hlen : c < s.data.toList.length := by rw [← size_list]; omega
    have hsn : (s.data.toList.drop a).take (c + 1 - a) = (s.data.toList.drop a).take (c - a) ++ [s.data.toList[c]'hlen] := by
      have h1 : c - a < (s.data.toList.drop a).length := by rw [List.length_drop]; omega
      rw [show c + 1 - a = (c - a) + 1 by omega, take_snoc' _ _ h1]
      congr 2
      rw [List.getElem_drop]
      congr 1
      omega
    simp only [octet_Trim.l1]
    rw [if_pos (by omega), hw, if_pos (by omega), if_pos (by omega), octet_blank_f s c hlen]
    simp only [Option.bind_some]
    rw [hsn, dropE_snoc]
    cases hbl : bl (s.data.toList[c]'hlen)
    · simp only [Bool.false_eq_true, if_false]
      rw [if_pos (by omega), if_pos (by omega), if_pos (by omega), ext_list, ← hsn]
      simp
    · simp only [if_true]
      exact ih a c k (by omega) (by omega) (by omega) (by omega)
theorem octet_trim_l0 (s : ByteArray) (hs : s.size ≤ 140737488351232) : ∀ (d i k : Nat), s.size - i = d → i ≤ s.size → d + s.size + 2 < k →
    octet_Trim.l0 k s (i : Int) (s.size : Int) = some ⟨(dropE bl ((s.data.toList.drop i).dropWhile bl)).toArray⟩ := by
  intro d
  induction d with
  | zero =>
    intro i k hd hi hk
    obtain ⟨k, rfl⟩ : ∃ m, k = m + 1 := ⟨k - 1, by omega⟩
    obtain rfl : i = s.size := by omega
    simp only [octet_Trim.l0]
    rw [if_neg (by omega)]
    obtain ⟨k, rfl⟩ : ∃ m, k = m + 1 := ⟨k - 1, by omega⟩
    simp only [octet_Trim.j1]
    rw [octet_trim_l1 s hs 0 s.size s.size k (by omega) (by omega) (by omega) (by omega)]
    have : s.data.toList.drop s.size = [] := by rw [List.drop_eq_nil_iff, ← size_list]; omega
    simp [this, dropE]
  | succ d ih =>
    intro i k hd hi hk
    obtain ⟨k, rfl⟩ : ∃ m, k = m + 1 := ⟨k - 1, by omega⟩
    have hlen : i < s.data.toList.length := by rw [← size_list]; omega
    have hdr : s.data.toList.drop i = s.data.toList[i]'hlen :: s.data.toList.drop (i + 1) := List.drop_eq_getElem_cons hlen
    simp only [octet_Trim.l0]
    rw [if_pos (by omega), if_pos (by omega), if_pos (by omega), octet_blank_f s i hlen]
    simp only [Option.bind_some]
    rw [hdr, List.dropWhile_cons]
    cases hbl : bl (s.data.toList[i]'hlen)
    · simp only [Bool.false_eq_true, if_false]
      obtain ⟨k, rfl⟩ : ∃ m, k = m + 1 := ⟨k - 1, by omega⟩
      simp only [octet_Trim.j1]
      rw [octet_trim_l1 s hs (s.size - i) i s.size k rfl (by omega) (by omega) (by omega), ← hdr, List.take_of_length_le (by rw [List.length_drop, ← size_list]; omega)]
    · simp only [if_true]
      have hw : wrap64 ((i : Int) + 1) = ((i + 1 : Nat) : Int) := by rw [wrap_id _ (by omega) (by omega)]; omega
      rw [hw]
      exact ih (i + 1) k (by omega) (by omega) (by omega)
theorem octet_trim (s : ByteArray) (hs : s.size ≤ 140737488351232) (k : Nat) (hk : 2 * s.size + 2 < k) : octet_Trim.f k s = some (trimB s) := by
  have := octet_trim_l0 s hs s.size 0 k (by omega) (by omega) (by omega)
  unfold octet_Trim.f trimB trimL
  simpa using this


end Go.Proofs.Ytkjkbenmoogdjaa.X
namespace Go.Proofs.Ytkjkbenmoogdjaa.X
open Go.RowKit Go.Proofs.YtkjkbenmoogdjaaW.PrintWords Go.Proofs.YtkjkbenmoogdjaaW.PrintLast Go.Proofs.YtkjkbenmoogdjaaW.PrintMore
attribute [local go_sem] max2_int min2_int max_two min_two max_three min_three max_four min_four   -- for this text's walks alone
set_option linter.unusedVariables false
set_option linter.unusedSimpArgs false

/-! ### pure text 3: mem -/
theorem rowR (e : Nat) {w : World} {base : Nat} {v : Value} {l : List ByteArray} (h : w.ownsRow base e 1 v l.length (l.map Value.string)) : Kd.R Kd.string e w base (fun _ => True) v l := by
  refine ⟨fun _ _ => trivial, l.map Value.string, h, ?_⟩
  refine ⟨by simp [Kd.string, Kd.scalar], fun j p hj => ?_⟩
  obtain ⟨hlt, he⟩ := List.getElem?_eq_some_iff.1 hj
  show (List.take 1 (List.drop (j * 1) (l.map Value.string))) = [Value.string p]
  rw [Nat.mul_one, List.drop_eq_getElem_cons (by simpa using hlt)]
  simp [he]
/-- A row of texts of one's own: its cells. -/
theorem row_cells {e base : Nat} {w : World} {ok : Nat → Prop} {v : Value} {l : List ByteArray} (h : Kd.R Kd.string e w base ok v l) :
    (l = [] ∧ v = .slice none 0 0) ∨ ∃ g c, v = .slice (some ⟨g, 0, none⟩) l.length c ∧ base ≤ g ∧ g < w.heap.size ∧ l.length ≤ c ∧ l.length ≤ 9223372036854775807 ∧ ∀ (j : Nat) x, l[j]? = some x → w.cell? ⟨g, 0 + j, none⟩ = some (.string x) := by
  obtain ⟨A, c, rfl, hlc, hC⟩ := Kd.R_reads h
  obtain ⟨_, inner, ho, _⟩ := h
  rcases ho.2 with ⟨he, h0⟩ | ⟨g, cap, cur, he, hg, hh, _⟩
  · left
    injection he with h1 h2 h3
    subst h1; subst h3
    have : l.length = 0 := h2
    refine ⟨List.eq_nil_of_length_eq_zero this, ?_⟩
    rw [this]
  · right
    injection he with h1 h2 h3
    subst h1
    refine ⟨g, c, rfl, hg, (Array.getElem?_eq_some_iff.1 hh).1, hlc, hC.2.1, fun j x hj => ?_⟩
    have hlt : j < l.length := (List.getElem?_eq_some_iff.1 hj).1
    obtain ⟨ad, e1, hx⟩ := Kd.at_string hC (j : Int) (by omega) (by omega)
    injection e1 with e1
    subst e1
    rw [add_plain] at hx
    rw [Nat.zero_add]
    simp only [rdOf] at hx
    simp only [Int.toNat_natCast, List.getD_eq_getElem?_getD, hj, Option.getD_some] at hx
    exact hx
/-- A row of texts that is read: its cells. -/
theorem reads_cells {w : World} {A : Option Addr} {n : Nat} {l : List ByteArray} (h : Kd.C Kd.string w A n l) (hl : l ≠ []) :
    ∃ g o, A = some ⟨g, o, none⟩ ∧ g < w.heap.size ∧ ∀ (j : Nat) x, l[j]? = some x → w.cell? ⟨g, o + j, none⟩ = some (.string x) := by
  have hn : l.length = n := h.1
  have hpos : 0 < l.length := List.length_pos_iff.2 hl
  have hx : ∀ (j : Nat) x, l[j]? = some x → ∃ ad, A = some ad ∧ w.cell? (ad.add j) = some (.string x) := by
    intro j x hj
    have hlt : j < l.length := (List.getElem?_eq_some_iff.1 hj).1
    obtain ⟨ad, e1, hx⟩ := Kd.at_string h (j : Int) (by omega) (by omega)
    refine ⟨ad, e1, ?_⟩
    simp only [rdOf, Int.toNat_natCast, List.getD_eq_getElem?_getD, hj, Option.getD_some] at hx
    exact hx
  obtain ⟨ad, rfl, h0⟩ := hx 0 _ (List.getElem?_eq_getElem hpos)
  obtain ⟨g, o, sp⟩ := ad
  have h0' : w.cell? ⟨g, o, sp⟩ = some (.string l[0]) := h0
  have hlt := World.block_lt_of_cell? w _ h0'
  cases sp with
  | some z =>
    exfalso
    unfold World.cell? at h0'
    split at h0'
    · simp at h0'
    · cases h0'
  | none =>
    refine ⟨g, o, rfl, hlt, fun j x hj => ?_⟩
    obtain ⟨ad, e1, hc⟩ := hx j x hj
    injection e1 with e1
    subst e1
    unfold Addr.add at hc
    split at hc
    · rename_i h; subst h; exact hc
    · exact hc


end Go.Proofs.Ytkjkbenmoogdjaa.X
namespace Go.Proofs.Ytkjkbenmoogdjaa.X
open Go.RowKit Go.Proofs.YtkjkbenmoogdjaaW.PrintWords Go.Proofs.YtkjkbenmoogdjaaW.PrintLast Go.Proofs.YtkjkbenmoogdjaaW.PrintMore
attribute [local go_sem] max2_int min2_int max_two min_two max_three min_three max_four min_four   -- for this text's walks alone
set_option linter.unusedVariables false
set_option linter.unusedSimpArgs false

/-! ### lists_Split: function 19 -/
open Go.Shelf
attribute [local go_sem] Oper.semAt_some
def full (e : ByteArray) : Bool := !e.toList.isEmpty
/-- What of some texts is kept: trimmed, and not empty. -/
def keptL (l : List ByteArray) : List ByteArray := (l.map trimB).filter full
theorem keptL_hit (pre : List ByteArray) (x : ByteArray) (h : full (trimB x) = true) : keptL (pre ++ [x]) = keptL pre ++ [trimB x] := by simp [keptL, h]
theorem keptL_miss (pre : List ByteArray) (x : ByteArray) (h : full (trimB x) = false) : keptL (pre ++ [x]) = keptL pre := by simp [keptL, h]
theorem keptL_len (pre : List ByteArray) : (keptL pre).length ≤ pre.length := by
  unfold keptL
  exact Nat.le_trans (List.length_filter_le _ _) (by simp)
theorem elemsAt_len_le (s : ByteArray) (i : Nat) : (elemsAt s i).2.length ≤ i := by
  induction i with
  | zero => exact Nat.le_refl _
  | succ i ih =>
    unfold elemsAt
    split
    · simp; omega
    · omega
theorem elems_len_le (s : ByteArray) : (elems s).length ≤ s.size + 1 := by
  have := elemsAt_len_le s s.size
  unfold elems; simp; omega
theorem elems_size (s : ByteArray) : ∀ x ∈ elems s, x.size ≤ s.size := by
  have h : ∀ i, ∀ x ∈ (elemsAt s i).2, x.size ≤ s.size := by
    intro i
    induction i with
    | zero => intro x hx; simp [elemsAt] at hx
    | succ i ih =>
      intro x hx
      unfold elemsAt at hx
      split at hx
      · rcases List.mem_append.1 hx with hx | hx
        · exact ih x hx
        · simp at hx; subst hx; rw [ByteArray.size_extract]; omega
      · exact ih x hx
  intro x hx
  rcases List.mem_append.1 hx with hx | hx
  · exact h _ x hx
  · simp at hx; subst hx; rw [ByteArray.size_extract]; omega
/-- P7.1: the list's elements, and whether all that is closed in ends. -/
def splitB (a0 : ByteArray) : List ByteArray × Bool := if closedS (stAt a0 a0.size) = true then (keptL (elems a0), true) else ([], false)
def lists_Split.f (a0 : ByteArray) : Option (List ByteArray × Bool) := if a0.size ≤ 1000000 then some (splitB a0) else none
theorem infoStr : (Try.prog.info? 9).map (fun i => (i.zero, i.size, i.bytes)) = some (some (.string ⟨#[]⟩), 1, 16) := by kernel_rfl
/-- A store through a variable's box behind an append: other blocks stay. -/
theorem app_block {W w1 : World} {B : Nat} {v v' : Value} {tmp : Obj} (hgrow : (W.alloc tmp).grownBy w1 v.ownBlock) {g : Nat} {o : Obj} (hg : W.heap[g]? = some o) (h1 : some g ≠ v.ownBlock) (h2 : g ≠ B) :
    (w1.setCell ⟨B, 0, none⟩ v').heap[g]? = some o := by
  have hlt := (Array.getElem?_eq_some_iff.1 hg).1
  rw [Below.heap_setCell _ _ _ _ h2, hgrow.block g (by simp; omega) h1, Below.heap_alloc W tmp g hlt]
  exact hg
theorem row_ne {W : World} {base e size k : Nat} {v : Value} {xs : List Value} (hr : W.ownsRow base e size v k xs) {g t : Nat} {cells : Array Value} (hg : W.heap[g]? = some (.cells cells t (0, 0))) (hte : t ≠ e) : some g ≠ v.ownBlock := by
  intro h
  obtain ⟨c, hc⟩ := own_typed hr g h.symm
  rw [hc] at hg
  injection hg with hg
  injection hg with _ hg
  exact hte hg.symm
theorem row_ge {W : World} {base e size k : Nat} {v : Value} {xs : List Value} (hr : W.ownsRow base e size v k xs) {g : Nat} (hg : g < base) : some g ≠ v.ownBlock := by
  intro h
  have := own_base hr g h.symm
  omega
set_option maxRecDepth 100000 in
set_option maxHeartbeats 4000000 in
theorem split_closed (s : ByteArray) (hs : s.size ≤ 1000000) (w : World) (hcl : closedS (stAt s s.size) = true) :
    Calls Try.prog 19 #[.string s] w fun e w' => ∃ v, e = .returned (.tuple #[v, .bool true]) ∧ w'.ownsRow w.heap.size 9 1 v (keptL (elems s)).length ((keptL (elems s)).map Value.string) ∧ Below w.heap.size w w' := by
  obtain ⟨i0, hi, hz0, hz1, hz2⟩ := info_parts infoStr
  have hE := lists_ends.calls s true w (by unfold lists_ends.f; rw [if_pos (by omega), hcl])
  have HE := Aside0.mk hE
  clear hE hcl
  have hne := elems_len_le s
  have HX := Aside0.mk (elems_size s)
  refine (callsIn_wide (n := 3)).1 ?_
  refine callsIn_of_wp_marks Try.func19 rfl trivial ?_ rfl
  simp only [Try.ntmps19, List.size_toArray, List.length_cons, List.length_nil, Nat.reduceAdd, Nat.reduceSub, Array.replicate_succ, Array.replicate_zero, List.push_toArray, List.append_toArray, List.nil_append, List.cons_append]
  gi_wp2_with (first
    | (refine ⟨trivial, ?_⟩; gi_at_call 53; refine (callsIn_wide.2 HE.out).mono ?_; rintro e w1 ⟨rfl, hb1⟩; have HB1 := Aside0.mk hb1; clear hb1)
    | (refine ⟨trivial, ?_⟩; gi_at_call 54; refine (callsIn_wide.2 (lists_elements.calls s _)).mono ?_; rintro e w2 ⟨rfl, rfl⟩))
  obtain ⟨m, hm⟩ : ∃ m, w1.heap.size = m := ⟨_, rfl⟩
  obtain ⟨W2, hW2⟩ : ∃ W2, (w1.alloc (.cells #[.slice none 0 0] 31)).alloc (.cells #[.string s] 9) = W2 := ⟨_, rfl⟩
  have bO : Boxed W2 w1.heap.size 31 (.slice none 0 0) := by rw [← hW2]; exact (Boxed.new w1 _ _).alloc _
  have bS : W2.heap[w1.heap.size + 1]? = some (.cells #[.string s] 9 (0, 0)) := by
    rw [← hW2]
    have := World.alloc_heap_new (w1.alloc (.cells #[.slice none 0 0] 31)) (.cells #[.string s] 9)
    rwa [World.size_alloc] at this
  have hsz2 : W2.heap.size = w1.heap.size + 2 := by rw [← hW2]; simp
  have hB2 : Below w1.heap.size w1 W2 := by rw [← hW2]; exact ((Below.refl _ w1).alloc (Nat.le_refl _) _).alloc (by simp) _
  have HSZ := Aside0.mk hsz2
  have HB2 := Aside0.mk hB2
  have HBS := Aside0.mk bS
  have hseq := elements_1_seq 2 (by omega) s (by omega) (w1.heap.size + 1) w1 W2 hB2 bS
  rw [hW2]
  clear hm hW2 hsz2 hB2 bS
  have HS := Aside0.mk hseq
  clear hseq
  have hown0 : W2.ownsRow (w1.heap.size + 2) 9 1 (.slice none 0 0) 0 [] := World.ownsRow_nil _ _ _ _
  refine wpIn_rangeT (n := 3) (by omega) (gf := 86) (lb := #[.pointer (some ⟨w1.heap.size + 1, 0, none⟩)]) rfl (enters_of Try.func86 (by kernel_rfl) rfl)
    HS.out (fun h k => ⟨h.1.trans k.1, k.2.1.trans h.2.1, fun g c hg => k.2.2 g c (h.2.2 g c hg)⟩)
    (fun W l o o' hl ho hoc => ⟨(Below.refl w1.heap.size W).grown (grownBy_putObj' W l o') (by have := (Array.getElem?_eq_some_iff.1 ho).1; have := HSZ.out; omega) (fun k e => by cases e; have := HSZ.out; omega), World.putObj_heap_other (by have := HSZ.out; omega),
      fun g c hg => by
        by_cases e : g = l
        · subst e; rw [hg] at ho; cases ho; cases hoc
        · exact (World.putObj_heap_other e).trans hg⟩) (Below.refl _ _)
    (fun pre W => (∃ v, Boxed W w1.heap.size 31 v ∧ W.ownsRow (w1.heap.size + 2) 9 1 v (keptL pre).length ((keptL pre).map Value.string)) ∧ Below w1.heap.size w1 W ∧ w1.heap.size + 2 ≤ W.heap.size)
    ?hI ⟨⟨_, bO, hown0⟩, HB2.out, by have := HSZ.out; omega⟩
    (fun x => { tmps := #[.string s, undef, .slice none 0 0, .bool false, .pointer (some ⟨w1.heap.size, 0, none⟩), .string x, .string s, .bool true, .bool false, .string s, .func (.func 86) #[] #[.pointer (some ⟨w1.heap.size + 1, 0, none⟩)], .string x, undef, undef, undef, undef, undef, undef, undef, undef, undef], defers := [] }) ?assign ?body ?done
  case hI =>
    rintro pre A A' row ⟨⟨v, hv, hrow⟩, hB, hge⟩ hg hr
    have hn1 : some w1.heap.size ≠ row := fun e => by have := (hr _ e.symm).1; have := HSZ.out; omega
    refine ⟨⟨v, hv.kept hg hn1, hrow.kept hg ?_⟩, hB.grown hg (by have := HSZ.out; omega) (fun k e => by have := (hr k e).1; have := HSZ.out; omega), Nat.le_trans hge hg.size⟩
    rcases hrow.2 with ⟨rfl, _⟩ | ⟨g, cap, cur, rfl, _, hgb, _⟩
    · exact .inl rfl
    · refine .inr fun e' => ?_
      obtain ⟨_, o, ho, hor⟩ := hr g (by simpa [Value.ownBlock] using e'.symm)
      rw [hgb] at ho
      cases ho
      rcases hor with h | ⟨_, _, h⟩
      · cases h
      · cases h
  case assign =>
    intro l x W K hK
    gi_wp2
    exact hK
  case body =>
    rintro l pre x W ⟨⟨v, hv, hrow⟩, hB, hge⟩ hpx
    have hlen : pre.length + 1 ≤ s.size + 1 := by have := hpx.length_le; simp at this; omega
    have hkl := keptL_len pre
    have hxs : x.size ≤ s.size := HX.out x (hpx.subset (by simp))
    have hT := fun W => octet_Trim.calls (2 * x.size + 3) x (trimB x) W (octet_trim x (by omega) _ (by omega))
    have HT := Aside0.mk hT
    have hszB := HSZ.out
    clear hT hpx HX
    have HEq : Aside0 (keptL (pre ++ [x]) = if full (trimB x) = true then keptL pre ++ [trimB x] else keptL pre) := ⟨by
      cases hf : full (trimB x)
      · rw [keptL_miss pre x hf]; simp
      · rw [keptL_hit pre x hf]; simp⟩
    obtain ⟨T, hTe⟩ : ∃ T, trimB x = T := ⟨_, rfl⟩
    rw [hTe] at HT HEq
    clear hTe
    by_cases he : T.toList = []
    · have he2 : (T.toList == ([] : List UInt8)) = true := beq_iff_eq.mpr he
      have he3 : (T.toList != ([] : List UInt8)) = false := bne_eq_false_iff_eq.mpr he
      have HF : Aside0 (keptL (pre ++ [x]) = keptL pre) := ⟨by rw [HEq.out, if_neg (by unfold full; rw [he]; simp)]⟩
      clear he HEq
      gi_wp2_with (refine ⟨trivial, ?_⟩; gi_at_call 49; refine (CallsIn.inRound l (callsIn_wide.2 (HT.out _))).mono ?_; rintro e W1 ⟨rfl, hdr⟩)
      obtain ⟨q, rfl⟩ := hdr.out
      exact ⟨⟨Nat.le_refl _, fun k o _ hk _ => hk⟩, ⟨pw_below_drewN (Below.refl _ _) q, rfl, fun g c hg => hg⟩, ⟨v, hv, by rw [HF.out]; exact hrow⟩, pw_below_drewN hB q, hge⟩
    · have he2 : (T.toList == ([] : List UInt8)) = false := beq_eq_false_iff_ne.mpr he
      have he3 : (T.toList != ([] : List UInt8)) = true := bne_iff_ne.mpr he
      have HF : Aside0 (keptL (pre ++ [x]) = keptL pre ++ [T]) := ⟨by rw [HEq.out, if_pos (by unfold full; simpa using he)]⟩
      clear he HEq
      have hw1s := HB1.out.size
      gi_wp2_with (first
        | (refine ⟨trivial, ?_⟩; gi_at_call 49; refine (CallsIn.inRound l (callsIn_wide.2 (HT.out _))).mono ?_; rintro e W1 ⟨rfl, hdr⟩; have hv1 : Boxed W1 w1.heap.size 31 v := (by obtain ⟨q, rfl⟩ := hdr.out; exact hv); have hrow1 : W1.ownsRow (w1.heap.size + 2) 9 1 v (keptL pre).length ((keptL pre).map Value.string) := (by obtain ⟨q, rfl⟩ := hdr.out; exact hrow); have HW1 : Aside0 (KeepsOthers W W1 ∧ (∀ n, Below n W W1) ∧ W1.heap = W.heap) := ⟨by obtain ⟨q, rfl⟩ := hdr.out; exact ⟨⟨Nat.le_refl _, fun k o hk _ => hk⟩, fun n => pw_below_drewN (Below.refl _ _) q, rfl⟩⟩; have hge1 : w1.heap.size + 2 ≤ W1.heap.size := (by rw [HW1.out.2.2]; exact hge); have hc := hv1.cell; have hf := hv1.frozen; clear hdr)
        | (gi_at_builtin; refine wpListIn_append_own _ rfl _ _ 31 rfl (w1.heap.size + 2) 9 i0 (.string ⟨#[]⟩) 1 16 Try.underlying31 hi hz0 hz1 hz2 rfl (by decide) _ _ _ rfl (hrow1.alloc _) ⟨W1.heap.size, 0, none⟩ 1 1 [.string T] rfl rfl (cell_one_new _ _ _) (by simp [Value.oneCell']) (by unfold maxLen; omega) (by omega) (by simp; omega) ?_; intro v' w3 hown' hgrow _; obtain ⟨g', cap', rfl⟩ := ownsRow_succ hown'; have hAP := Boxed.appended hv1 (by decide) (own_weaken hrow1 (show w1.heap.size ≤ _ by omega)) (by omega) (Nat.le_refl _) (own_weaken hown' (show w1.heap.size ≤ _ by omega)) hgrow; have hr3 := hown'.kept (grownBy_setCell' w3 w1.heap.size (.slice (some ⟨g', 0, none⟩) ((keptL pre).length + 1) cap')) (.inr (hAP.1.not_row (by decide) hown').symm); have hc1 := hAP.1.cell; have hf1 := hAP.1.frozen; have HAP := Aside0.mk hAP; have HG := Aside0.mk hgrow; have HR3 := Aside0.mk hr3; clear hAP hgrow hr3 hown'))
      have hHB2 := HB2.out
      refine ⟨(HW1.out.1.trans HAP.out.2.2.2.1).from _, ⟨(HW1.out.2.1 _).trans HAP.out.2.2.2.2, ?_, ?_⟩, ⟨_, HAP.out.2.1, ?_⟩, (hB.trans (HW1.out.2.1 _)).trans HAP.out.2.2.2.2, ?_⟩
      · have hlt : w1.heap.size + 1 < W.heap.size := by omega
        have hg0 := Array.getElem?_eq_getElem hlt
        have hg1 : W1.heap[w1.heap.size + 1]? = some (W.heap[w1.heap.size + 1]'hlt) := (by rw [HW1.out.2.2]; exact hg0)
        rw [hg0]
        exact app_block HG.out hg1 (row_ge hrow1 (by omega)) (by omega)
      · intro g c hg
        have hg1 : W1.heap[g]? = some (.cells c 87 (0, 0)) := (by rw [HW1.out.2.2]; exact hg)
        exact app_block HG.out hg1 (row_ne hrow1 hg1 (by decide)) (fun e => by subst e; rw [show W1.heap[w1.heap.size]? = _ from hv1] at hg1; cases hg1)
      · rw [HF.out]; simpa using HR3.out
      · have := HAP.out.2.2.2.1.size
        omega
  case done =>
    rintro D W hD ⟨⟨v, hv, hrow⟩, hB, hge⟩ hK
    have hc := hv.cell
    gi_wp2
    refine ⟨by simp, .inl ⟨_, _, rfl, run_takeDeferred hK, ?_⟩⟩
    have hr2 := ownsRow_putObj hrow (.deferred none) hK rfl
    refine ⟨_, results_tmp2 rfl _ _ _, v, rfl, own_weaken hr2 (by have := HB1.out.size; omega), ?_⟩
    exact HB1.out.trans ((hB.trans (belowK_b (w := w1) (Nat.le_refl _) W D _ _ (by have := HSZ.out; omega) hK rfl rfl)).mono HB1.out.size)
theorem lists_Split.calls (a0 : ByteArray) (r1 : List ByteArray) (r2 : Bool) (w : World) (h : lists_Split.f a0 = some (r1, r2)) :
    Calls Try.prog 19 #[.string a0] w fun e w' => ∃ v0_ : Value, e = .returned (.tuple #[v0_, .bool r2]) ∧ Kd.R Kd.string 9 w' w.heap.size (fun _ => True) v0_ r1 ∧ Below w.heap.size w w' := by
  by_cases hs : a0.size ≤ 1000000
  · rw [lists_Split.f, if_pos hs] at h
    by_cases hcl : closedS (stAt a0 a0.size) = true
    · have h2 := Option.some.inj h
      rw [splitB, if_pos hcl] at h2
      obtain ⟨rfl, rfl⟩ := Prod.mk.inj h2
      refine (split_closed a0 hs w hcl).mono ?_
      rintro e w' ⟨v, rfl, hr, hb⟩
      exact ⟨v, rfl, rowR _ hr, hb⟩
    · have h2 := Option.some.inj h
      rw [splitB, if_neg hcl] at h2
      obtain ⟨rfl, rfl⟩ := Prod.mk.inj h2
      have hE := lists_ends.calls a0 false w (by unfold lists_ends.f; rw [if_pos (by omega)]; congr 1; simpa using hcl)
      clear h h2 hcl
      go_enter Try.func19, Try.ntmps19
      go_wp2_with (go_at_call 53; refine hE.mono ?_; rintro e w1 ⟨rfl, hb1⟩)
      go_ret2
      exact ⟨_, rfl, Kd.R_nil _ _ _ _ _, hb1⟩
  · rw [lists_Split.f, if_neg hs] at h
    cases h


end Go.Proofs.Ytkjkbenmoogdjaa.X
namespace Go.Proofs.Ytkjkbenmoogdjaa.X
open Go.RowKit Go.Proofs.YtkjkbenmoogdjaaW.PrintWords Go.Proofs.YtkjkbenmoogdjaaW.PrintLast Go.Proofs.YtkjkbenmoogdjaaW.PrintMore
attribute [local go_sem] max2_int min2_int max_two min_two max_three min_three max_four min_four   -- for this text's walks alone
set_option linter.unusedVariables false
set_option linter.unusedSimpArgs false

/-! ### octet_lower: function 68 -/
def octet_lower.f (a0 : Int) : Option (Int) := if a0 ≥ 65 then (if a0 ≤ 90 then (some ((((a0 + 97) % 256) - 65) % 256)) else (some a0)) else (some a0)
set_option maxHeartbeats 8000000 in
set_option maxRecDepth 100000 in
theorem octet_lower.calls (a0 : Int) (r : Int) (w : World) (h : octet_lower.f a0 = some r) :
    Calls Try.prog 68 #[.int .u8 a0] w fun e w' => e = .returned (.int .u8 r) ∧ Drawn0 w w' := by
  have H : (if a0 ≥ 65 then (if a0 ≤ 90 then (some ((((a0 + 97) % 256) - 65) % 256)) else (some a0)) else (some a0)) = some r := h
  clear h
  by_cases c2 : a0 ≥ 65
  · rw [if_pos c2] at H
    have c2b0 : decide (65 ≤ a0) = true := decide_eq_true c2
    clear c2
    by_cases c3 : a0 ≤ 90
    · rw [if_pos c3] at H
      have c3b0 : decide (a0 ≤ 90) = true := decide_eq_true c3
      clear c3
      obtain rfl := Option.some.inj H
      go_enter Try.func68, Try.ntmps68
      go_wp2
      go_ret
      exact ⟨by first | rfl | (simp; done) | (simp [*]; done), by repeat (first | exact Drawn0.refl _ | apply Drawn0.step)⟩
    · rw [if_neg c3] at H
      have c3b0 : decide (a0 ≤ 90) = false := decide_eq_false c3
      clear c3
      obtain rfl := Option.some.inj H
      go_enter Try.func68, Try.ntmps68
      go_wp2
      go_ret
      exact ⟨by first | rfl | (simp; done) | (simp [*]; done), by repeat (first | exact Drawn0.refl _ | apply Drawn0.step)⟩
  · rw [if_neg c2] at H
    have c2b0 : decide (65 ≤ a0) = false := decide_eq_false c2
    clear c2
    obtain rfl := Option.some.inj H
    go_enter Try.func68, Try.ntmps68
    go_wp2
    go_ret
    exact ⟨by first | rfl | (simp; done) | (simp [*]; done), by repeat (first | exact Drawn0.refl _ | apply Drawn0.step)⟩

end Go.Proofs.Ytkjkbenmoogdjaa.X
namespace Go.Proofs.Ytkjkbenmoogdjaa.X
open Go.RowKit Go.Proofs.YtkjkbenmoogdjaaW.PrintWords Go.Proofs.YtkjkbenmoogdjaaW.PrintLast Go.Proofs.YtkjkbenmoogdjaaW.PrintMore
attribute [local go_sem] max2_int min2_int max_two min_two max_three min_three max_four min_four   -- for this text's walks alone
set_option linter.unusedVariables false
set_option linter.unusedSimpArgs false

/-! ### octet_Fold: function 35 -/
def octet_Fold.l0 : Nat → ByteArray → ByteArray → Int → Int → Option (Bool)
  | 0, _, _, _, _ => none
  | k + 1, x0, x1, x12, x13 => if x13 < x12 then (if 0 ≤ x13 then (if x13 < (x0.size : Int) then ((octet_lower.f (bt x0 x13)).bind fun t101 => (if x13 < (x1.size : Int) then ((octet_lower.f (bt x1 x13)).bind fun t102 => (if t101 = t102 then (octet_Fold.l0 k x0 x1 x12 (wrap64 (x13 + 1))) else (some false))) else (none))) else (none)) else (none)) else (some true)
def octet_Fold.f (k : Nat) (a0 : ByteArray) (a1 : ByteArray) : Option (Bool) := if (a0.size : Int) = (a1.size : Int) then (octet_Fold.l0 k a0 a1 (a0.size : Int) 0) else (some false)
theorem octet_Fold.mono_l : ∀ k, (∀ y0 y1 y2 y3, LeO (octet_Fold.l0 k y0 y1 y2 y3) (octet_Fold.l0 (k + 1) y0 y1 y2 y3))
  | 0 => fun _ _ _ _ r h => by simp [octet_Fold.l0] at h
  | k + 1 => by
    have ih0 := octet_Fold.mono_l k
    · intro y0 y1 y2 y3
      unfold octet_Fold.l0
      repeat' first
      | (with_reducible exact ih0 _ _ _ _)
      | (with_reducible exact LeO.refl _)
      | (with_reducible exact LeO.none _)
      | (with_reducible refine LeO.ite ?_ ?_)
      | (with_reducible refine LeO.bind ?_ (fun _ => ?_))
      | exact ih0 _ _ _ _
      | exact LeO.none _
      | refine LeO.ite ?_ ?_
      | refine LeO.bind ?_ (fun _ => ?_)
theorem octet_Fold.mono : ∀ a0 a1 k, LeO (octet_Fold.f k a0 a1) (octet_Fold.f (k + 1) a0 a1) := by
  intro a0 a1 k
  have ih0 := octet_Fold.mono_l k
  unfold octet_Fold.f
  repeat' first
      | (with_reducible exact ih0 _ _ _ _)
      | (with_reducible exact LeO.refl _)
      | (with_reducible exact LeO.none _)
      | (with_reducible refine LeO.ite ?_ ?_)
      | (with_reducible refine LeO.bind ?_ (fun _ => ?_))
      | exact ih0 _ _ _ _
      | exact LeO.none _
      | refine LeO.ite ?_ ?_
      | refine LeO.bind ?_ (fun _ => ?_)
set_option maxHeartbeats 8000000 in
set_option maxRecDepth 100000 in
theorem octet_Fold.calls (k : Nat) (a0 : ByteArray) (a1 : ByteArray) (r : Bool) (w : World) (h : octet_Fold.f k a0 a1 = some r) :
    Calls Try.prog 35 #[.string a0, .string a1] w fun e w' => e = .returned (.bool r) ∧ Drawn0 w w' := by
  have H : (if (a0.size : Int) = (a1.size : Int) then (octet_Fold.l0 k a0 a1 (a0.size : Int) 0) else (some false)) = some r := h
  clear h
  by_cases c3 : (a0.size : Int) = (a1.size : Int)
  · rw [if_pos c3] at H
    have c3b0 : ((a0.size : Int) == (a1.size : Int)) = true := beq_iff_eq.mpr c3
    have c3b1 : ((a0.size : Int) != (a1.size : Int)) = false := bne_eq_false_iff_eq.mpr c3
    have c3b2 : (a0.size == a1.size) = true := by first | simpa using c3 | (simp at c3 ⊢; omega)
    clear c3
    have H' := Aside0.mk H
    clear H
    go_enter Try.func35, Try.ntmps35
    go_wp2
    repeat (go_quiet (fail); try go_wp2)
    go_loopg [13] k (fun kq v13 w' => ∃ (x13_1 : Int), v13 = .int .i64 x13_1 ∧ Aside0 (octet_Fold.l0 kq a0 a1 (a0.size : Int) x13_1 = some r) ∧ Aside0 (kq ≤ k) ∧ Drawn0 w w')
    case atStart => exact ⟨(0), (by first | rfl | (simp; done) | (simp [*]; done)), H', ⟨Nat.le_refl _⟩, by repeat (first | exact Drawn0.refl _ | apply Drawn0.step)⟩
    case round =>
      clear H'
      try clear p2
      try clear c3
      try clear c3b0
      try clear c3b1
      try clear c3b2
      obtain ⟨x13_1, rfl, HA, HK1, ⟨m1, rfl⟩⟩ := hrel
      cases gk with
      | zero => exact absurd HA.out (by simp [octet_Fold.l0])
      | succ k1 =>
        have H := HA.out
        clear HA
        simp only [octet_Fold.l0] at H
        by_cases c4 : x13_1 < (a0.size : Int)
        · rw [if_pos c4] at H
          have c4b0 : decide (x13_1 < (a0.size : Int)) = true := decide_eq_true c4
          clear c4
          by_cases c5 : 0 ≤ x13_1
          · rw [if_pos c5] at H
            have c5b0 : decide (0 ≤ x13_1) = true := decide_eq_true c5
            clear c5
            by_cases c6 : x13_1 < (a0.size : Int)
            · rw [if_pos c6] at H
              have c6b0 : decide (x13_1 < (a0.size : Int)) = true := decide_eq_true c6
              clear c6
              replace H := Option.bind_eq_some_iff.mp H
              obtain ⟨t101, A80, H⟩ := H
              replace H : (if x13_1 < (a1.size : Int) then ((octet_lower.f (bt a1 x13_1)).bind fun t102 => (if t101 = t102 then (octet_Fold.l0 k1 a0 a1 (a0.size : Int) (wrap64 (x13_1 + 1))) else (some false))) else (none)) = some r := H
              have A8 := Aside0.mk A80
              clear A80
              by_cases c9 : x13_1 < (a1.size : Int)
              · rw [if_pos c9] at H
                have c9b0 : decide (x13_1 < (a1.size : Int)) = true := decide_eq_true c9
                clear c9
                replace H := Option.bind_eq_some_iff.mp H
                obtain ⟨t102, A110, H⟩ := H
                replace H : (if t101 = t102 then (octet_Fold.l0 k1 a0 a1 (a0.size : Int) (wrap64 (x13_1 + 1))) else (some false)) = some r := H
                have A11 := Aside0.mk A110
                clear A110
                by_cases c12 : t101 = t102
                · rw [if_pos c12] at H
                  have c12b0 : (t101 == t102) = true := beq_iff_eq.mpr c12
                  have c12b1 : (t101 != t102) = false := bne_eq_false_iff_eq.mpr c12
                  clear c12
                  have H' := Aside0.mk H
                  clear H
                  have p7 : 0 ≤ (x13_1 : Int) := of_decide_eq_true (by first | (with_reducible assumption) | assumption)
                  have q7 : x13_1 < (a0.size : Int) := of_decide_eq_true (by first | (with_reducible assumption) | assumption)
                  have hx7 := bt_at a0 x13_1
                  replace p7 := eq_true p7
                  replace q7 := eq_true q7
                  go_wp2_with (first | (go_at_call 68; (with_reducible refine (octet_lower.calls (bt a0 x13_1) t101 _ A8.out).mono ?_); rintro e w' ⟨rfl, ⟨nd, rfl⟩⟩; (try first | exact ⟨rfl, _, World.drewN_drewN _ _ _⟩ | exact ⟨rfl, _, Eq.trans (World.drewN_drewN _ _ _) (congrArg (World.drewN _) (Nat.add_assoc _ _ _))⟩); have p10 : 0 ≤ (x13_1 : Int) := of_decide_eq_true (by first | (with_reducible assumption) | assumption); have q10 : x13_1 < (a1.size : Int) := of_decide_eq_true (by first | (with_reducible assumption) | assumption); have hx10 := bt_at a1 x13_1; replace p10 := eq_true p10; replace q10 := eq_true q10) | (go_at_call 68; (with_reducible refine (octet_lower.calls (bt a1 x13_1) t102 _ A11.out).mono ?_); rintro e w' ⟨rfl, ⟨nd, rfl⟩⟩; (try first | exact ⟨rfl, _, World.drewN_drewN _ _ _⟩ | exact ⟨rfl, _, Eq.trans (World.drewN_drewN _ _ _) (congrArg (World.drewN _) (Nat.add_assoc _ _ _))⟩)))
                  repeat (go_quiet (first | (go_at_call 68; (with_reducible refine (octet_lower.calls (bt a0 x13_1) t101 _ A8.out).mono ?_); rintro e w' ⟨rfl, ⟨nd, rfl⟩⟩; (try first | exact ⟨rfl, _, World.drewN_drewN _ _ _⟩ | exact ⟨rfl, _, Eq.trans (World.drewN_drewN _ _ _) (congrArg (World.drewN _) (Nat.add_assoc _ _ _))⟩); have p10 : 0 ≤ (x13_1 : Int) := of_decide_eq_true (by first | (with_reducible assumption) | assumption); have q10 : x13_1 < (a1.size : Int) := of_decide_eq_true (by first | (with_reducible assumption) | assumption); have hx10 := bt_at a1 x13_1; replace p10 := eq_true p10; replace q10 := eq_true q10) | (go_at_call 68; (with_reducible refine (octet_lower.calls (bt a1 x13_1) t102 _ A11.out).mono ?_); rintro e w' ⟨rfl, ⟨nd, rfl⟩⟩; (try first | exact ⟨rfl, _, World.drewN_drewN _ _ _⟩ | exact ⟨rfl, _, Eq.trans (World.drewN_drewN _ _ _) (congrArg (World.drewN _) (Nat.add_assoc _ _ _))⟩))); try go_wp2_with (first | (go_at_call 68; (with_reducible refine (octet_lower.calls (bt a0 x13_1) t101 _ A8.out).mono ?_); rintro e w' ⟨rfl, ⟨nd, rfl⟩⟩; (try first | exact ⟨rfl, _, World.drewN_drewN _ _ _⟩ | exact ⟨rfl, _, Eq.trans (World.drewN_drewN _ _ _) (congrArg (World.drewN _) (Nat.add_assoc _ _ _))⟩); have p10 : 0 ≤ (x13_1 : Int) := of_decide_eq_true (by first | (with_reducible assumption) | assumption); have q10 : x13_1 < (a1.size : Int) := of_decide_eq_true (by first | (with_reducible assumption) | assumption); have hx10 := bt_at a1 x13_1; replace p10 := eq_true p10; replace q10 := eq_true q10) | (go_at_call 68; (with_reducible refine (octet_lower.calls (bt a1 x13_1) t102 _ A11.out).mono ?_); rintro e w' ⟨rfl, ⟨nd, rfl⟩⟩; (try first | exact ⟨rfl, _, World.drewN_drewN _ _ _⟩ | exact ⟨rfl, _, Eq.trans (World.drewN_drewN _ _ _) (congrArg (World.drewN _) (Nat.add_assoc _ _ _))⟩))))
                  go_roundg k1
                  case measure => have := HK1.out; omega
                  case rel => exact ⟨(wrap64 (x13_1 + 1)), (by first | rfl | (simp; done) | (simp [*]; done)), H', ⟨by have := HK1.out; omega⟩, by repeat (first | exact Drawn0.refl _ | apply Drawn0.step)⟩
                · rw [if_neg c12] at H
                  have c12b0 : (t101 == t102) = false := beq_eq_false_iff_ne.mpr c12
                  have c12b1 : (t101 != t102) = true := bne_iff_ne.mpr c12
                  obtain rfl := Option.some.inj H
                  have p7 : 0 ≤ (x13_1 : Int) := of_decide_eq_true (by first | (with_reducible assumption) | assumption)
                  have q7 : x13_1 < (a0.size : Int) := of_decide_eq_true (by first | (with_reducible assumption) | assumption)
                  have hx7 := bt_at a0 x13_1
                  replace p7 := eq_true p7
                  replace q7 := eq_true q7
                  go_wp2_with (first | (go_at_call 68; (with_reducible refine (octet_lower.calls (bt a0 x13_1) t101 _ A8.out).mono ?_); rintro e w' ⟨rfl, ⟨nd, rfl⟩⟩; (try first | exact ⟨rfl, _, World.drewN_drewN _ _ _⟩ | exact ⟨rfl, _, Eq.trans (World.drewN_drewN _ _ _) (congrArg (World.drewN _) (Nat.add_assoc _ _ _))⟩); have p10 : 0 ≤ (x13_1 : Int) := of_decide_eq_true (by first | (with_reducible assumption) | assumption); have q10 : x13_1 < (a1.size : Int) := of_decide_eq_true (by first | (with_reducible assumption) | assumption); have hx10 := bt_at a1 x13_1; replace p10 := eq_true p10; replace q10 := eq_true q10) | (go_at_call 68; (with_reducible refine (octet_lower.calls (bt a1 x13_1) t102 _ A11.out).mono ?_); rintro e w' ⟨rfl, ⟨nd, rfl⟩⟩; (try first | exact ⟨rfl, _, World.drewN_drewN _ _ _⟩ | exact ⟨rfl, _, Eq.trans (World.drewN_drewN _ _ _) (congrArg (World.drewN _) (Nat.add_assoc _ _ _))⟩)))
                  repeat (go_quiet (first | (go_at_call 68; (with_reducible refine (octet_lower.calls (bt a0 x13_1) t101 _ A8.out).mono ?_); rintro e w' ⟨rfl, ⟨nd, rfl⟩⟩; (try first | exact ⟨rfl, _, World.drewN_drewN _ _ _⟩ | exact ⟨rfl, _, Eq.trans (World.drewN_drewN _ _ _) (congrArg (World.drewN _) (Nat.add_assoc _ _ _))⟩); have p10 : 0 ≤ (x13_1 : Int) := of_decide_eq_true (by first | (with_reducible assumption) | assumption); have q10 : x13_1 < (a1.size : Int) := of_decide_eq_true (by first | (with_reducible assumption) | assumption); have hx10 := bt_at a1 x13_1; replace p10 := eq_true p10; replace q10 := eq_true q10) | (go_at_call 68; (with_reducible refine (octet_lower.calls (bt a1 x13_1) t102 _ A11.out).mono ?_); rintro e w' ⟨rfl, ⟨nd, rfl⟩⟩; (try first | exact ⟨rfl, _, World.drewN_drewN _ _ _⟩ | exact ⟨rfl, _, Eq.trans (World.drewN_drewN _ _ _) (congrArg (World.drewN _) (Nat.add_assoc _ _ _))⟩))); try go_wp2_with (first | (go_at_call 68; (with_reducible refine (octet_lower.calls (bt a0 x13_1) t101 _ A8.out).mono ?_); rintro e w' ⟨rfl, ⟨nd, rfl⟩⟩; (try first | exact ⟨rfl, _, World.drewN_drewN _ _ _⟩ | exact ⟨rfl, _, Eq.trans (World.drewN_drewN _ _ _) (congrArg (World.drewN _) (Nat.add_assoc _ _ _))⟩); have p10 : 0 ≤ (x13_1 : Int) := of_decide_eq_true (by first | (with_reducible assumption) | assumption); have q10 : x13_1 < (a1.size : Int) := of_decide_eq_true (by first | (with_reducible assumption) | assumption); have hx10 := bt_at a1 x13_1; replace p10 := eq_true p10; replace q10 := eq_true q10) | (go_at_call 68; (with_reducible refine (octet_lower.calls (bt a1 x13_1) t102 _ A11.out).mono ?_); rintro e w' ⟨rfl, ⟨nd, rfl⟩⟩; (try first | exact ⟨rfl, _, World.drewN_drewN _ _ _⟩ | exact ⟨rfl, _, Eq.trans (World.drewN_drewN _ _ _) (congrArg (World.drewN _) (Nat.add_assoc _ _ _))⟩))))
                  go_ret
                  exact ⟨by first | rfl | (simp; done) | (simp [*]; done), by repeat (first | exact Drawn0.refl _ | apply Drawn0.step)⟩
              · rw [if_neg c9] at H
                exact absurd H (by simp)
            · rw [if_neg c6] at H
              exact absurd H (by simp)
          · rw [if_neg c5] at H
            exact absurd H (by simp)
        · rw [if_neg c4] at H
          have c4b0 : decide (x13_1 < (a0.size : Int)) = false := decide_eq_false c4
          clear c4
          obtain rfl := Option.some.inj H
          go_wp2
          repeat (go_quiet (fail); try go_wp2)
          go_ret
          exact ⟨by first | rfl | (simp; done) | (simp [*]; done), by repeat (first | exact Drawn0.refl _ | apply Drawn0.step)⟩
  · rw [if_neg c3] at H
    have c3b0 : ((a0.size : Int) == (a1.size : Int)) = false := beq_eq_false_iff_ne.mpr c3
    have c3b1 : ((a0.size : Int) != (a1.size : Int)) = true := bne_iff_ne.mpr c3
    have c3b2 : (a0.size == a1.size) = false := by first | simpa using c3 | (simp at c3 ⊢; omega)
    obtain rfl := Option.some.inj H
    go_enter Try.func35, Try.ntmps35
    go_wp2
    repeat (go_quiet (fail); try go_wp2)
    go_ret
    exact ⟨by first | rfl | (simp; done) | (simp [*]; done), by repeat (first | exact Drawn0.refl _ | apply Drawn0.step)⟩

end Go.Proofs.Ytkjkbenmoogdjaa.X
namespace Go.Proofs.Ytkjkbenmoogdjaa.X
open Go.RowKit Go.Proofs.YtkjkbenmoogdjaaW.PrintWords Go.Proofs.YtkjkbenmoogdjaaW.PrintLast Go.Proofs.YtkjkbenmoogdjaaW.PrintMore
attribute [local go_sem] max2_int min2_int max_two min_two max_three min_three max_four min_four   -- for this text's walks alone
set_option linter.unusedVariables false
set_option linter.unusedSimpArgs false

/-! ### pure text 2: fold -/
/-- A letter A to Z as a to z. -/
def lowU (c : UInt8) : UInt8 := if 65 ≤ c.toNat ∧ c.toNat ≤ 90 then c + 32 else c
def lowL (l : List UInt8) : List UInt8 := l.map lowU
def lowB (s : ByteArray) : ByteArray := ⟨(lowL s.data.toList).toArray⟩
def foldB (a b : ByteArray) : Bool := lowL a.data.toList == lowL b.data.toList
theorem lowU_int (c : UInt8) : ((lowU c).toNat : Int) = if 65 ≤ (c.toNat : Int) ∧ (c.toNat : Int) ≤ 90 then (c.toNat : Int) + 32 else (c.toNat : Int) := by
  unfold lowU
  by_cases h : 65 ≤ c.toNat ∧ c.toNat ≤ 90
  · rw [if_pos h, if_pos (by omega), UInt8.toNat_add]
    have : (32 : UInt8).toNat = 32 := rfl
    omega
  · rw [if_neg h, if_neg (by omega)]
theorem octet_lower_f (c : UInt8) : octet_lower.f (c.toNat : Int) = some ((lowU c).toNat : Int) := by
  have h := lowU_int c
  have hlt := c.toNat_lt
  unfold octet_lower.f
  rw [h]
  by_cases h1 : 65 ≤ (c.toNat : Int)
  · rw [if_pos (show (c.toNat : Int) ≥ 65 from h1)]
    by_cases h2 : (c.toNat : Int) ≤ 90
    · rw [if_pos h2, if_pos ⟨h1, h2⟩]
      congr 1
      omega
    · rw [if_neg h2, if_neg (fun h => h2 h.2)]
  · rw [if_neg (show ¬ (c.toNat : Int) ≥ 65 from h1), if_neg (fun h => h1 h.1)]
theorem octet_fold_l0 (a b : ByteArray) (hs : a.size ≤ 140737488351232) (hab : b.size = a.size) : ∀ (d i k : Nat), a.size - i = d → i ≤ a.size → d < k →
    octet_Fold.l0 k a b (a.size : Int) (i : Int) = some (lowL (a.data.toList.drop i) == lowL (b.data.toList.drop i)) := by
  intro d
  induction d with
  | zero =>
    intro i k hd hi hk
    obtain ⟨k, rfl⟩ : ∃ m, k = m + 1 := ⟨k - 1, by omega⟩
    obtain rfl : i = a.size := by omega
    simp only [octet_Fold.l0]
    have e1 : a.data.toList.drop a.size = [] := by rw [List.drop_eq_nil_iff, ← size_list]; omega
    have e2 : b.data.toList.drop a.size = [] := by rw [List.drop_eq_nil_iff, ← size_list]; omega
    rw [if_neg (by omega), e1, e2]
    rfl
  | succ d ih =>
    intro i k hd hi hk
    obtain ⟨k, rfl⟩ : ∃ m, k = m + 1 := ⟨k - 1, by omega⟩
    have hla : i < a.data.toList.length := by rw [← size_list]; omega
    have hlb : i < b.data.toList.length := by rw [← size_list]; omega
    have hw : wrap64 ((i : Int) + 1) = ((i + 1 : Nat) : Int) := by rw [wrap_id _ (by omega) (by omega)]; omega
    simp only [octet_Fold.l0]
    rw [if_pos (by omega), if_pos (by omega), if_pos (by omega), bt_list a i hla, octet_lower_f]
    simp only [Option.bind_some]
    rw [if_pos (by omega), bt_list b i hlb, octet_lower_f]
    simp only [Option.bind_some]
    rw [List.drop_eq_getElem_cons hla, List.drop_eq_getElem_cons hlb, hw, ih (i + 1) k (by omega) (by omega) (by omega)]
    unfold lowL
    simp only [List.map_cons]
    by_cases he : lowU (a.data.toList[i]'hla) = lowU (b.data.toList[i]'hlb)
    · rw [if_pos (by rw [he]), he]
      simp
    · rw [if_neg (fun h => he ((u8_eq _ _).1 h))]
      congr 1
      symm
      rw [beq_eq_false_iff_ne]
      intro h
      exact he (List.cons.inj h).1
theorem octet_fold (a b : ByteArray) (hs : a.size ≤ 140737488351232) (k : Nat) (hk : a.size < k) : octet_Fold.f k a b = some (foldB a b) := by
  unfold octet_Fold.f foldB
  by_cases h : (a.size : Int) = (b.size : Int)
  · rw [if_pos h]
    have := octet_fold_l0 a b hs (by omega) a.size 0 k (by omega) (by omega) hk
    simpa using this
  · rw [if_neg h]
    have : ¬ lowL a.data.toList = lowL b.data.toList := by
      intro e
      have := congrArg List.length e
      simp [lowL] at this
      rw [size_list, size_list] at h
      simp at h
      omega
    simp [this]
theorem dropWhile_len {α : Type} (p : α → Bool) (l : List α) : (l.dropWhile p).length ≤ l.length := (List.dropWhile_suffix p).length_le
theorem dropE_len {α : Type} (p : α → Bool) (l : List α) : (dropE p l).length ≤ l.length := by
  unfold dropE
  have := dropWhile_len p l.reverse
  simpa using this
theorem trimB_size (s : ByteArray) : (trimB s).size ≤ s.size := by
  rw [size_list, size_list]
  unfold trimB trimL
  exact Nat.le_trans (dropE_len _ _) (dropWhile_len _ _)


end Go.Proofs.Ytkjkbenmoogdjaa.X
namespace Go.Proofs.Ytkjkbenmoogdjaa.X
open Go.RowKit Go.Proofs.YtkjkbenmoogdjaaW.PrintWords Go.Proofs.YtkjkbenmoogdjaaW.PrintLast Go.Proofs.YtkjkbenmoogdjaaW.PrintMore
attribute [local go_sem] max2_int min2_int max_two min_two max_three min_three max_four min_four   -- for this text's walks alone
set_option linter.unusedVariables false
set_option linter.unusedSimpArgs false

/-! ### lists_Has_1: function 57 -/
/-- Texts of a size that a scan bears. -/
abbrev BS : Type := { x : ByteArray // x.size ≤ 1000000 }
instance instBS : Inhabited BS := ⟨⟨⟨#[]⟩, by decide⟩⟩
def encBS (x : BS) : Value := .string x.1
set_option maxHeartbeats 1000000 in
theorem lists_Has_1.pred (w : World) (B : Nat) (word : ByteArray) (hB : B < w.heap.size) (hc : w.cell? ⟨B, 0, none⟩ = some (.string word)) :
    PredAt Try.prog 57 #[.pointer (some ⟨B, 0, none⟩)] encBS (fun x => foldB x.1 word) w := fun W x hb => by
  have hc' : W.cell? ⟨B, 0, none⟩ = some (.string word) := (hb.cell (p := ⟨B, 0, none⟩) hB).trans hc
  have hC := fun W => octet_Fold.calls (x.1.size + 1) x.1 word (foldB x.1 word) W (octet_fold x.1 word (by have := x.2; omega) _ (by omega))
  unfold FnGives encBS
  go_enter Try.func57, Try.ntmps57
  go_wp2_with (go_at_call 35; refine (hC _).mono ?_; rintro e w' ⟨rfl, hdr⟩)
  obtain ⟨q, rfl⟩ := hdr.out
  go_ret
  exact ⟨rfl, q, rfl⟩


end Go.Proofs.Ytkjkbenmoogdjaa.X
namespace Go.Proofs.Ytkjkbenmoogdjaa.X
open Go.RowKit Go.Proofs.YtkjkbenmoogdjaaW.PrintWords Go.Proofs.YtkjkbenmoogdjaaW.PrintLast Go.Proofs.YtkjkbenmoogdjaaW.PrintMore
attribute [local go_sem] max2_int min2_int max_two min_two max_three min_three max_four min_four   -- for this text's walks alone
set_option linter.unusedVariables false
set_option linter.unusedSimpArgs false

/-! ### lists_Has: function 22 -/
theorem keptL_size (s : ByteArray) : ∀ x ∈ keptL (elems s), x.size ≤ s.size := by
  intro x hx
  unfold keptL at hx
  obtain ⟨y, hy, rfl⟩ := List.mem_map.1 (List.mem_filter.1 hx).1
  exact Nat.le_trans (trimB_size y) (elems_size s y hy)
theorem splitB_size (s : ByteArray) : ∀ x ∈ (splitB s).1, x.size ≤ s.size := by
  unfold splitB
  split
  · exact keptL_size s
  · intro x hx; cases hx
theorem splitB_len (s : ByteArray) : (splitB s).1.length ≤ s.size + 1 := by
  unfold splitB
  split
  · exact Nat.le_trans (keptL_len _) (elems_len_le s)
  · simp
def hasB (a0 a1 : ByteArray) : Bool := (splitB a0).1.any (fun e => foldB e a1)
def lists_Has.f (a0 : ByteArray) (a1 : ByteArray) : Option (Bool) := if a0.size ≤ 1000000 then some (hasB a0 a1) else none
set_option maxHeartbeats 4000000 in
set_option maxRecDepth 100000 in
theorem lists_Has.calls (a0 : ByteArray) (a1 : ByteArray) (r : Bool) (w : World) (h : lists_Has.f a0 a1 = some r) :
    Calls Try.prog 22 #[.string a0, .string a1] w fun e w' => e = .returned (.bool r) ∧ Below w.heap.size w w' := by
  by_cases hs : a0.size ≤ 1000000
  · rw [lists_Has.f, if_pos hs] at h
    obtain rfl := Option.some.inj h
    clear h
    obtain ⟨L, hL⟩ : ∃ L, (splitB a0).1 = L := ⟨_, rfl⟩
    have hLs := splitB_size a0
    have hLl := splitB_len a0
    have hS := fun W => lists_Split.calls a0 (splitB a0).1 (splitB a0).2 W (by unfold lists_Split.f; rw [if_pos hs])
    have HR : Aside0 (hasB a0 a1 = L.any (fun e => foldB e a1)) := ⟨by unfold hasB; rw [hL]⟩
    rw [hL] at hLs hS hLl
    clear hL
    have HLs := Aside0.mk hLs
    clear hLs
    go_enter Try.func22, Try.ntmps22
    go_wp2_with (go_at_call 19; refine (hS _).mono ?_; rintro e w1 ⟨v, rfl, hr, hb⟩; have HR1 := Aside0.mk hr; have HB1 := Aside0.mk hb; clear hr hb)
    have hcB : w1.cell? ⟨w.heap.size, 0, none⟩ = some (.string a1) := (HB1.out.cell (p := ⟨w.heap.size, 0, none⟩) (by simp)).trans (by simp)
    have hBlt : w.heap.size < w1.heap.size := by have := HB1.out.size; simp at this; omega
    have hPred := lists_Has_1.pred w1 w.heap.size a1 hBlt hcB
    have eg : ∀ args w, (callFunc 57 args).run Try.prog w = .ok (.enter 57 args) w := enters_of Try.func57 (by kernel_rfl) rfl
    have hBel : Below w.heap.size w w1 := ((Below.refl _ w).alloc (Nat.le_refl _) _).trans (HB1.out.mono (by simp))
    rcases row_cells HR1.out with ⟨rfl, rfl⟩ | ⟨g, c, rfl, _, hg, hlc, hl9, hcells⟩
    · have hE := Try.slices_ContainsFunc_empty (α := BS) none 0 (.func (.func 57) #[] #[.pointer (some ⟨w.heap.size, 0, none⟩)]) w1
      refine hE.mono ?_
      rintro e w2 ⟨rfl, rfl⟩
      go_wp2
      go_ret
      exact ⟨by rw [HR.out]; rfl, hBel⟩
    · have hat : ∀ x ∈ L, x.size ≤ 1000000 := fun x hx => by have := HLs.out x hx; omega
      have hmap : (L.attachWith _ hat).map Subtype.val = L := List.attachWith_map_subtype_val hat
      have hlen : (L.attachWith _ hat).length = L.length := by simp
      have hE := Try.slices_ContainsFunc encBS (fun x => foldB x.1 a1) 57 #[.pointer (some ⟨w.heap.size, 0, none⟩)] eg g 0 L.length c (L.attachWith _ hat) w1 hPred (by omega) hl9 (fun j hj => by
        rw [hlen] at hj
        rw [hcells j _ (List.getElem?_eq_getElem hj)]
        unfold encBS
        rw [getElem!_pos _ j (by rw [hlen]; exact hj)]
        simp)
      have hany : ((L.attachWith _ hat).take L.length).any (fun x : BS => foldB x.1 a1) = L.any (fun e => foldB e a1) := by
        rw [List.take_of_length_le (by omega)]
        conv => rhs; rw [← hmap]
        rw [List.any_map]
        rfl
      rw [hany] at hE
      refine hE.mono ?_
      rintro e w2 ⟨rfl, q, rfl⟩
      go_wp2
      go_ret
      exact ⟨by rw [HR.out]; rfl, pw_below_drewN hBel q⟩
  · rw [lists_Has.f, if_neg hs] at h
    cases h


end Go.Proofs.Ytkjkbenmoogdjaa.X
namespace Go.Proofs.Ytkjkbenmoogdjaa.X
open Go.RowKit Go.Proofs.YtkjkbenmoogdjaaW.PrintWords Go.Proofs.YtkjkbenmoogdjaaW.PrintLast Go.Proofs.YtkjkbenmoogdjaaW.PrintMore
attribute [local go_sem] max2_int min2_int max_two min_two max_three min_three max_four min_four   -- for this text's walks alone
set_option linter.unusedVariables false
set_option linter.unusedSimpArgs false

/-! ### lists_Join: function 25 -/
/-- P7.2: joined by a comma and a blank. -/
def joinL (l : List ByteArray) : List UInt8 := Lib.join (l.map (·.data.toList)) [44, 32]
def joinB (l : List ByteArray) : ByteArray := ⟨(joinL l).toArray⟩
def lists_Join.f (l0 : List ByteArray) : Option (ByteArray) := if l0.length ≤ 1000000 ∧ (joinL l0).length ≤ 140737488351232 then some (joinB l0) else none
set_option maxHeartbeats 4000000 in
set_option maxRecDepth 100000 in
theorem lists_Join.calls (A0 : Option Addr) (c0 : Nat) (l0 : List ByteArray) (r : ByteArray) (w : World) (hr0 : Kd.C Kd.string w A0 l0.length l0) (hc0 : l0.length ≤ c0) (h : lists_Join.f l0 = some r) :
    Calls Try.prog 25 #[.slice A0 l0.length c0] w fun e w' => e = .returned (.string r) ∧ Below w.heap.size w w' := by
  by_cases hh : l0.length ≤ 1000000 ∧ (joinL l0).length ≤ 140737488351232
  · rw [lists_Join.f, if_pos hh] at h
    obtain rfl := Option.some.inj h
    clear h
    by_cases hl : l0 = []
    · subst hl
      have hJ := fun w => Try.strings_Join_none A0 c0 ⟨#[44, 32]⟩ w
      go_enter Try.func25, Try.ntmps25
      go_wp2_with (go_at_call 59; refine (hJ _).mono ?_; rintro e w' ⟨rfl, rfl⟩)
      go_ret
      exact ⟨rfl, Below.refl _ _⟩
    · obtain ⟨g, o, rfl, hg, hcells⟩ := reads_cells hr0 hl
      have hJ := Try.strings_Join g o c0 l0 ⟨#[44, 32]⟩ w hcells hg (by omega) hc0 (by have := hh.2; unfold joinL at this; exact Nat.le_trans this (by omega))
      have HJ := Aside0.mk hJ
      clear hJ hcells hr0
      go_enter Try.func25, Try.ntmps25
      go_wp2_with (go_at_call 59; refine HJ.out.mono ?_; rintro e w' ⟨rfl, hb⟩)
      go_ret
      exact ⟨rfl, hb⟩
  · rw [lists_Join.f, if_neg hh] at h
    cases h


end Go.Proofs.Ytkjkbenmoogdjaa.X
namespace Go.Proofs.Ytkjkbenmoogdjaa.X
open Go.RowKit Go.Proofs.YtkjkbenmoogdjaaW.PrintWords Go.Proofs.YtkjkbenmoogdjaaW.PrintLast Go.Proofs.YtkjkbenmoogdjaaW.PrintMore
attribute [local go_sem] max2_int min2_int max_two min_two max_three min_three max_four min_four   -- for this text's walks alone
set_option linter.unusedVariables false
set_option linter.unusedSimpArgs false

/-! ### octet_all: function 79 -/
/-- octet.all from place pos on, by at most so many runes. -/
def allRFrom (p : Nat → Bool) (s : ByteArray) : Nat → Nat → Bool
  | 0, _ => true
  | f + 1, pos => if pos < s.size then (if p (Utf8.decode s pos).1 = true then allRFrom p s f (pos + (Utf8.decode s pos).2) else false) else true
def allR (p : Nat → Bool) (s : ByteArray) : Bool := allRFrom p s s.size 0
theorem allRFrom_end (p : Nat → Bool) (s : ByteArray) (f pos : Nat) (h : ¬ pos < s.size) : allRFrom p s f pos = true := by cases f <;> simp [allRFrom, h]
set_option maxHeartbeats 2000000 in
set_option maxRecDepth 1000000 in
theorem octet_all.calls (g : Nat) (eg : ∀ args w, (callFunc g args).run Try.prog w = .ok (.enter g args) w) (p : Nat → Bool) (s : ByteArray) (w : World) (hp : ∀ (W : World) (x : Nat), Below w.heap.size w W → x ≤ 2147483647 → Calls Try.prog g #[.int .i32 (x : Int)] W fun e w' => e = .returned (.bool (p x)) ∧ Below W.heap.size W w') :
    Calls Try.prog 79 #[.string s, .func (.func g) #[] #[]] w fun e w' => e = .returned (.bool (allR p s)) ∧ Below w.heap.size w w' := by
  go_enter Try.func79, Try.ntmps79
  go_wp2
  go_loopg [] s.size (fun gf wx => ∃ pos : Nat, wx.heap[w.heap.size]? = some (.stringIter s pos) ∧ Below w.heap.size w wx ∧ allRFrom p s gf pos = allR p s ∧ s.size ≤ pos + gf)
  case atStart => exact ⟨0, World.iter_heap w s 0, (Below.refl _ w).alloc (Nat.le_refl _) _, rfl, by omega⟩
  case round =>
    obtain ⟨pos, hit, hbw, hleft, hfu⟩ := hrel
    by_cases hps : pos < s.size
    · obtain ⟨g', rfl⟩ : ∃ g', gk = g' + 1 := ⟨gk - 1, by omega⟩
      have hnx : ∀ ty, (Instr.next (.pointer (some ⟨w.heap.size, 0, none⟩)) true ty).run Try.prog wr = _ := fun ty => Lib.run_next_any_at wr w.heap.size s pos ty hit hps
      have hwd := Lib.width_pos s pos
      obtain ⟨R, hR⟩ : ∃ R, (Utf8.decode s pos).1 = R := ⟨_, rfl⟩
      obtain ⟨K, hK⟩ : ∃ K, (Utf8.decode s pos).2 = K := ⟨_, rfl⟩
      simp only [allRFrom, hps, if_true, hR, hK] at hleft
      rw [hR, hK] at hnx
      rw [hK] at hwd
      have hit2 := Lib.iterAt_heap wr w.heap.size s pos (pos + K) hit
      have hbw2 := Lib.below_iterAt hbw (k := w.heap.size) (Nat.le_refl _) s (pos + K)
      obtain ⟨W, hWd⟩ : ∃ W, wr.iterAt w.heap.size s (pos + K) = W := ⟨_, rfl⟩
      rw [hWd] at hnx hit2 hbw2
      have hRm : R ≤ 2147483647 := by rw [← hR]; exact decode_le s pos
      have cS : Calls Try.prog g #[.int .i32 (R : Int)] W _ := hp W R hbw2 hRm
      have hlt2 : w.heap.size < W.heap.size := (Array.getElem?_eq_some_iff.1 hit2).1
      clear hp
      cases hsp : p R <;> rw [hsp] at cS <;> simp only [hsp, if_true, Bool.false_eq_true, if_false] at hleft <;> have HL := Aside0.mk hleft <;> clear hleft hsp
      · go_wp2_with (go_at_fn g; refine cS.mono ?_; rintro e W' ⟨rfl, hb3⟩)
        go_ret
        exact ⟨by rw [← HL.out]; rfl, hbw2.trans (hb3.mono (by omega))⟩
      · go_wp2_with (go_at_fn g; refine cS.mono ?_; rintro e W' ⟨rfl, hb3⟩)
        go_roundg g'
        case measure => omega
        case rel => exact ⟨pos + K, (hb3.block _ hlt2).trans hit2, hbw2.trans (hb3.mono (by omega)), HL.out, by omega⟩
    · have hnx : ∀ ty, (Instr.next (.pointer (some ⟨w.heap.size, 0, none⟩)) true ty).run Try.prog wr = _ := fun ty => Lib.run_next_end_at wr w.heap.size s pos ty hit hps
      rw [allRFrom_end p s gk pos hps] at hleft
      have HL := Aside0.mk hleft
      clear hleft
      go_wp2
      go_ret
      exact ⟨by rw [← HL.out]; rfl, hbw⟩


end Go.Proofs.Ytkjkbenmoogdjaa.X
namespace Go.Proofs.Ytkjkbenmoogdjaa.X
open Go.RowKit Go.Proofs.YtkjkbenmoogdjaaW.PrintWords Go.Proofs.YtkjkbenmoogdjaaW.PrintLast Go.Proofs.YtkjkbenmoogdjaaW.PrintMore
attribute [local go_sem] max2_int min2_int max_two min_two max_three min_three max_four min_four   -- for this text's walks alone
set_option linter.unusedVariables false
set_option linter.unusedSimpArgs false

/-! ### octet_tchar: function 80 -/
def tMarks : ByteArray := ⟨#[33, 35, 36, 37, 38, 39, 42, 43, 45, 46, 94, 95, 96, 124, 126]⟩
def tcharL : List Nat := [33, 35, 36, 37, 38, 39, 42, 43, 45, 46, 94, 95, 96, 124, 126]
/-- P1.1: letters, digits, marks. -/
def tcharR (r : Nat) : Bool := (97 ≤ r && r ≤ 122) || (65 ≤ r && r ≤ 90) || (48 ≤ r && r ≤ 57) || tcharL.contains r
theorem tMarks_at (pos : Nat) (h : pos < 15) : Utf8.decode tMarks pos = (tcharL.getD pos 0, 1) := by
  have h1 : pos < tMarks.size := h
  have h2 : ∀ p : Fin 15, (tMarks.data.getD p.val 0).toNat < 128 ∧ (tMarks.data.getD p.val 0).toNat = tcharL.getD p.val 0 := by decide
  have h3 := h2 ⟨pos, h⟩
  have h4 : tMarks.data.getD pos 0 = tMarks[pos]'h1 := by
    simp only [Array.getD_eq_getD_getElem?]
    rw [Array.getElem?_eq_getElem (by exact h1)]
    rfl
  simp only [h4] at h3
  rw [decode_ascii tMarks pos h1 h3.1, h3.2]
theorem tcharL_drop (pos : Nat) (h : pos < 15) : tcharL.drop pos = tcharL.getD pos 0 :: tcharL.drop (pos + 1) := by
  have h2 : ∀ p : Fin 15, tcharL.drop p.val = tcharL.getD p.val 0 :: tcharL.drop (p.val + 1) := by decide
  exact h2 ⟨pos, h⟩
set_option maxHeartbeats 2000000 in
set_option maxRecDepth 1000000 in
theorem octet_tchar.calls (r : Nat) (w : World) (hr : r ≤ 2147483647) :
    Calls Try.prog 80 #[.int .i32 (r : Int)] w fun e w' => e = .returned (.bool (tcharR r)) ∧ Below w.heap.size w w' := by
  by_cases ha : (97 ≤ r ∧ r ≤ 122) ∨ (65 ≤ r ∧ r ≤ 90) ∨ (48 ≤ r ∧ r ≤ 57)
  · have hR : tcharR r = true := by
      unfold tcharR
      rcases ha with h | h | h <;> simp [h.1, h.2]
    have HR := Aside0.mk hR
    clear hR
    rcases ha with ⟨h1, h2⟩ | ⟨h1, h2⟩ | ⟨h1, h2⟩
    all_goals
      go_enter Try.func80, Try.ntmps80
      go_wp2
      go_ret
      exact ⟨by rw [HR.out]; rfl, Below.refl _ _⟩
  · have hR : tcharR r = (tcharL.drop 0).contains r := by
      unfold tcharR
      have e1 : (decide (97 ≤ r) && decide (r ≤ 122)) = false := by
        rw [Bool.eq_false_iff]; simp; omega
      have e2 : (decide (65 ≤ r) && decide (r ≤ 90)) = false := by
        rw [Bool.eq_false_iff]; simp; omega
      have e3 : (decide (48 ≤ r) && decide (r ≤ 57)) = false := by
        rw [Bool.eq_false_iff]; simp; omega
      rw [e1, e2, e3]; rfl
    have HR := Aside0.mk hR
    clear hR
    have hc : r < 48 ∨ (57 < r ∧ r < 65) ∨ (90 < r ∧ r < 97) ∨ 122 < r := by omega
    clear ha
    rcases hc with h1 | ⟨h1, h2⟩ | ⟨h1, h2⟩ | h1
    all_goals
      go_enter Try.func80, Try.ntmps80
      go_wp2
      rw [show (⟨#[33, 35, 36, 37, 38, 39, 42, 43, 45, 46, 94, 95, 96, 124, 126]⟩ : ByteArray) = tMarks from rfl]
      go_loopg [] 15 (fun gf wx => ∃ pos : Nat, wx.heap[w.heap.size]? = some (.stringIter tMarks pos) ∧ Below w.heap.size w wx ∧ Aside0 ((tcharL.drop pos).contains r = tcharR r) ∧ pos + gf = 15)
      case atStart => exact ⟨0, World.iter_heap w tMarks 0, (Below.refl _ w).alloc (Nat.le_refl _) _, ⟨HR.out.symm⟩, by omega⟩
      case round =>
        obtain ⟨pos, hit, hbw, HL, hfu⟩ := hrel
        by_cases hps : pos < 15
        · obtain ⟨g', rfl⟩ : ∃ g', gk = g' + 1 := ⟨gk - 1, by omega⟩
          have hnx : ∀ ty, (Instr.next (.pointer (some ⟨w.heap.size, 0, none⟩)) true ty).run Try.prog wr = _ := fun ty => Lib.run_next_any_at wr w.heap.size tMarks pos ty hit hps
          rw [tMarks_at pos hps] at hnx
          dsimp only at hnx
          have HL' : Aside0 ((tcharL.getD pos 0 :: tcharL.drop (pos + 1)).contains r = tcharR r) := ⟨by rw [← tcharL_drop pos hps]; exact HL.out⟩
          clear HL
          obtain ⟨R, hRe⟩ : ∃ R, tcharL.getD pos 0 = R := ⟨_, rfl⟩
          rw [hRe] at hnx HL'
          clear hRe
          have hit2 := Lib.iterAt_heap wr w.heap.size tMarks pos (pos + 1) hit
          have hbw2 := Lib.below_iterAt hbw (k := w.heap.size) (Nat.le_refl _) tMarks (pos + 1)
          obtain ⟨W, hWd⟩ : ∃ W, wr.iterAt w.heap.size tMarks (pos + 1) = W := ⟨_, rfl⟩
          rw [hWd] at hnx hit2 hbw2
          clear hWd
          by_cases he : R = r
          · have hb : ((R : Int) == (r : Int)) = true := by rw [he]; exact beq_self_eq_true _
            have hfin : tcharR r = true := by rw [← HL'.out, he]; simp
            have HF := Aside0.mk hfin
            clear hfin he HL'
            go_wp2
            go_ret
            exact ⟨by rw [HF.out]; rfl, hbw2⟩
          · have hb : ((R : Int) == (r : Int)) = false := beq_eq_false_iff_ne.2 (by omega)
            have hfin : (tcharL.drop (pos + 1)).contains r = tcharR r := by
              rw [← HL'.out, List.contains_cons]
              have : (r == R) = false := beq_eq_false_iff_ne.2 (fun h => he h.symm)
              rw [this, Bool.false_or]
            have HF := Aside0.mk hfin
            clear hfin he HL'
            go_wp2
            go_roundg g'
            case measure => omega
            case rel => exact ⟨pos + 1, hit2, hbw2, HF, by omega⟩
        · have hnx : ∀ ty, (Instr.next (.pointer (some ⟨w.heap.size, 0, none⟩)) true ty).run Try.prog wr = _ := fun ty => Lib.run_next_end_at wr w.heap.size tMarks pos ty hit hps
          obtain rfl : pos = 15 := by omega
          have hfin : tcharR r = false := by rw [← HL.out]; rfl
          have HF := Aside0.mk hfin
          clear hfin HL
          go_wp2
          go_ret
          exact ⟨by rw [HF.out]; rfl, hbw⟩


end Go.Proofs.Ytkjkbenmoogdjaa.X
namespace Go.Proofs.Ytkjkbenmoogdjaa.X
open Go.RowKit Go.Proofs.YtkjkbenmoogdjaaW.PrintWords Go.Proofs.YtkjkbenmoogdjaaW.PrintLast Go.Proofs.YtkjkbenmoogdjaaW.PrintMore
attribute [local go_sem] max2_int min2_int max_two min_two max_three min_three max_four min_four   -- for this text's walks alone
set_option linter.unusedVariables false
set_option linter.unusedSimpArgs false

/-! ### octet_Token: function 47 -/
def octetToken (a0 : ByteArray) : Bool := !a0.toList.isEmpty && allR tcharR a0
def octet_Token.f (a0 : ByteArray) : Option (Bool) := some (octetToken a0)
set_option maxHeartbeats 2000000 in
theorem octet_Token.calls (a0 : ByteArray) (r : Bool) (w : World) (h : octet_Token.f a0 = some r) :
    Calls Try.prog 47 #[.string a0] w fun e w' => e = .returned (.bool r) ∧ Below w.heap.size w w' := by
  obtain rfl := Option.some.inj h
  clear h
  by_cases he : a0.toList = []
  · have he2 : (a0.toList == ([] : List UInt8)) = true := beq_iff_eq.mpr he
    have he3 : (a0.toList != ([] : List UInt8)) = false := bne_eq_false_iff_eq.mpr he
    have HR : Aside0 (octetToken a0 = false) := ⟨by unfold octetToken; rw [he]; rfl⟩
    clear he
    go_enter Try.func47, Try.ntmps47
    go_wp2
    go_ret
    exact ⟨by rw [HR.out]; rfl, Below.refl _ _⟩
  · have he2 : (a0.toList == ([] : List UInt8)) = false := beq_eq_false_iff_ne.mpr he
    have he3 : (a0.toList != ([] : List UInt8)) = true := bne_iff_ne.mpr he
    have he4 : a0.toList.isEmpty = false := by simpa using he
    have HR : Aside0 (octetToken a0 = allR tcharR a0) := ⟨by unfold octetToken; rw [he4]; rfl⟩
    have hC := fun W => octet_all.calls 80 (enters_of Try.func80 (by kernel_rfl) rfl) tcharR a0 W (fun W2 x _ hx => octet_tchar.calls x W2 hx)
    clear he
    go_enter Try.func47, Try.ntmps47
    go_wp2_with (go_at_call 79; refine (hC _).mono ?_; rintro e w' ⟨rfl, hb⟩)
    go_ret
    exact ⟨by rw [HR.out]; rfl, hb⟩


end Go.Proofs.Ytkjkbenmoogdjaa.X
namespace Go.Proofs.Ytkjkbenmoogdjaa.X
open Go.RowKit Go.Proofs.YtkjkbenmoogdjaaW.PrintWords Go.Proofs.YtkjkbenmoogdjaaW.PrintLast Go.Proofs.YtkjkbenmoogdjaaW.PrintMore
attribute [local go_sem] max2_int min2_int max_two min_two max_three min_three max_four min_four   -- for this text's walks alone
set_option linter.unusedVariables false
set_option linter.unusedSimpArgs false

/-! ### slices_IndexFunc_string_string: function 87 -/
/-- slices.IndexFunc at texts; the predicate may lay blocks of its own. -/
theorem idxS_wp (p : ByteArray → Bool) (F : Nat) (caps : Array Value) (eg : ∀ args w, (callFunc F args).run Try.prog w = .ok (.enter F args) w) (g o c : Nat) (l : List ByteArray) (w : World) (hl : l.length ≤ 9223372036854775807) (hg : g < w.heap.size)
    (hc : ∀ j x, l[j]? = some x → w.cell? ⟨g, o + j, none⟩ = some (.string x))
    (hp : ∀ W x, x ∈ l → Below w.heap.size w W → Calls Try.prog F (#[.string x] ++ caps) W fun e W' => e = .returned (.bool (p x)) ∧ Below W.heap.size W W') :
    Calls Try.prog 87 #[.slice (some ⟨g, o, none⟩) l.length c, .func (.func F) #[] caps] w fun e w' => e = .returned (.int .i64 (Lib.idxBy (fun _ y => p y) l default)) ∧ Below w.heap.size w w' := by
  have HP := Aside0.mk hp
  have HCC := Aside0.mk hc
  clear hp hc
  obtain ⟨R, hR⟩ : ∃ R, Lib.idxBy (fun _ y => p y) l default = R := ⟨_, rfl⟩
  have HR := Aside0.mk hR
  rw [hR]
  clear hR
  go_enter Try.func87, Try.ntmps87
  go_wp2
  go_loopg [5, 8] l.length (fun gg _ s8 wr => ∃ kk : Nat, kk ≤ l.length ∧ l.length - kk ≤ gg ∧ s8 = .int .i64 kk ∧ Aside0 (Below w.heap.size w wr) ∧ Aside0 (∀ j, j < kk → p l[j]! = false))
  case atStart => exact ⟨0, Nat.zero_le _, by omega, rfl, ⟨Below.refl _ w⟩, ⟨fun j hj => absurd hj (Nat.not_lt_zero _)⟩⟩
  case round =>
    obtain ⟨kk, hkk, hgg, rfl, BW, A⟩ := hrel
    by_cases hlt : kk < l.length
    · have hltz : (kk : Int) < (l.length : Int) := by omega
      obtain ⟨y, hy⟩ : ∃ y, l[kk]! = y := ⟨_, rfl⟩
      have hy2 : l[kk]? = some y := by rw [← hy, List.getElem?_eq_getElem hlt, getElem!_pos l kk hlt]
      have hcell : wr.cell? ⟨g, o + kk, none⟩ = some (.string y) := (BW.out.cell (p := ⟨g, o + kk, none⟩) hg).trans (HCC.out kk y hy2)
      have hcall := HP.out wr y (List.mem_of_getElem? hy2) BW.out
      have B := Aside0.mk hy
      clear hy hy2
      cases hq : p y with
      | true =>
        rw [hq] at hcall
        go_wp2_with (go_at_fn F; refine hcall.mono ?_; rintro e w' ⟨rfl, hb'⟩)
        go_ret
        refine ⟨?_, BW.out.trans (hb'.mono BW.out.size)⟩
        have := Lib.idxBy_hit (fun _ y => p y) l l.length kk default hlt (Nat.le_refl _) (by show p l[kk]! = true; rw [B.out]; exact hq) A.out
        rw [List.take_length] at this
        rw [← HR.out, this]
        rfl
      | false =>
        rw [hq] at hcall
        go_wp2_with (go_at_fn F; refine hcall.mono ?_; rintro e w' ⟨rfl, hb'⟩)
        go_roundg (l.length - (kk + 1))
        case measure => omega
        case rel =>
          refine ⟨kk + 1, by omega, by omega, by go_num, ⟨BW.out.trans (hb'.mono BW.out.size)⟩, ⟨fun j hj => ?_⟩⟩
          by_cases e : j = kk
          · subst e
            rw [B.out]; exact hq
          · exact A.out j (by omega)
    · have hltz : ¬ (kk : Int) < (l.length : Int) := by omega
      have hke : kk = l.length := by omega
      subst hke
      go_wp2
      go_ret
      refine ⟨?_, BW.out⟩
      have := Lib.idxBy_miss (fun _ y => p y) l l.length default A.out
      rw [List.take_length] at this
      rw [← HR.out, this]
      rfl


end Go.Proofs.Ytkjkbenmoogdjaa.X
namespace Go.Proofs.Ytkjkbenmoogdjaa.X
open Go.RowKit Go.Proofs.YtkjkbenmoogdjaaW.PrintWords Go.Proofs.YtkjkbenmoogdjaaW.PrintLast Go.Proofs.YtkjkbenmoogdjaaW.PrintMore
attribute [local go_sem] max2_int min2_int max_two min_two max_three min_three max_four min_four   -- for this text's walks alone
set_option linter.unusedVariables false
set_option linter.unusedSimpArgs false

/-! ### slices_ContainsFunc_string_string: function 56 -/
theorem cntS_wp (p : ByteArray → Bool) (F : Nat) (caps : Array Value) (eg : ∀ args w, (callFunc F args).run Try.prog w = .ok (.enter F args) w) (g o c : Nat) (l : List ByteArray) (w : World) (hl : l.length ≤ 9223372036854775807) (hg : g < w.heap.size)
    (hc : ∀ j x, l[j]? = some x → w.cell? ⟨g, o + j, none⟩ = some (.string x))
    (hp : ∀ W x, x ∈ l → Below w.heap.size w W → Calls Try.prog F (#[.string x] ++ caps) W fun e W' => e = .returned (.bool (p x)) ∧ Below W.heap.size W W') :
    Calls Try.prog 56 #[.slice (some ⟨g, o, none⟩) l.length c, .func (.func F) #[] caps] w fun e w' => e = .returned (.bool (l.any p)) ∧ Below w.heap.size w w' := by
  rw [show l.any p = decide (0 ≤ Lib.idxBy (fun _ y => p y) l default) from (Lib.idxBy_nonneg_iff (fun _ y => p y) l default).symm]
  have hI := idxS_wp p F caps eg g o c l w hl hg hc hp
  clear hp hc
  go_enter Try.func56, Try.ntmps56
  go_wp2_with (go_at_call 87; refine hI.mono ?_; rintro e w' ⟨rfl, hb'⟩)
  go_ret
  exact ⟨rfl, hb'⟩
/-- At no text at all. -/
theorem cntS_nil (F : Nat) (caps : Array Value) (w : World) : Calls Try.prog 56 #[.slice none 0 0, .func (.func F) #[] caps] w fun e w' => e = .returned (.bool false) ∧ w' = w := Try.slices_ContainsFunc_empty (α := ByteArray) none 0 (.func (.func F) #[] caps) w


end Go.Proofs.Ytkjkbenmoogdjaa.X
namespace Go.Proofs.Ytkjkbenmoogdjaa.X
open Go.RowKit Go.Proofs.YtkjkbenmoogdjaaW.PrintWords Go.Proofs.YtkjkbenmoogdjaaW.PrintLast Go.Proofs.YtkjkbenmoogdjaaW.PrintMore
attribute [local go_sem] max2_int min2_int max_two min_two max_three min_three max_four min_four   -- for this text's walks alone
set_option linter.unusedVariables false
set_option linter.unusedSimpArgs false

/-! ### slices_DeleteFunc_string_string: function 64 -/
/-- What a DeleteFunc over the row in block g keeps: whatever lay in w, but that row. -/
def KeptG (n g : Nat) (w W : World) : Prop := Below n w W ∧ w.heap.size ≤ W.heap.size ∧ ∀ k, k < w.heap.size → k ≠ g → W.heap[k]? = w.heap[k]?
theorem KeptG.refl (n g : Nat) (w : World) : KeptG n g w w := ⟨Below.refl _ _, Nat.le_refl _, fun _ _ _ => rfl⟩
theorem KeptG.below {n g : Nat} {w W X : World} (h : KeptG n g w W) (hn : n ≤ w.heap.size) (hb : Below w.heap.size W X) : KeptG n g w X :=
  ⟨h.1.trans (hb.mono hn), Nat.le_trans h.2.1 hb.size, fun k hk hg => (hb.block k hk).trans (h.2.2 k hk hg)⟩
theorem KeptG.of_below {n g : Nat} {w W : World} (hn : n ≤ w.heap.size) (h : Below w.heap.size w W) : KeptG n g w W := (KeptG.refl n g w).below hn h
theorem KeptG.set {n g : Nat} {w W : World} (h : KeptG n g w W) (hg : n ≤ g) (j : Nat) (v : Value) : KeptG n g w (W.setCell ⟨g, j, none⟩ v) :=
  ⟨h.1.setCell hg v, by simpa [World.setCell] using h.2.1, fun k hk hne => (Below.heap_setCell _ _ _ _ hne).trans (h.2.2 k hk hne)⟩
theorem setCells_other (W : World) (g j : Nat) (vs : List Value) (k : Nat) (h : k ≠ g) : (W.setCells g j vs).heap[k]? = W.heap[k]? := by
  induction vs generalizing W j with
  | nil => rfl
  | cons v vs ih =>
    show ((W.setCell ⟨g, j, none⟩ v).setCells g (j + 1) vs).heap[k]? = _
    rw [ih, Below.heap_setCell _ _ _ _ h]
theorem setCells_size (W : World) (g j : Nat) (vs : List Value) : (W.setCells g j vs).heap.size = W.heap.size := by
  induction vs generalizing W j with
  | nil => rfl
  | cons v vs ih =>
    show ((W.setCell ⟨g, j, none⟩ v).setCells g (j + 1) vs).heap.size = _
    rw [ih]
    simp [World.setCell]
theorem KeptG.clr {n g : Nat} {w W : World} (h : KeptG n g w W) (hg : n ≤ g) (j : Nat) (vs : List Value) : KeptG n g w (W.setCells g j vs) := by
  induction vs generalizing W j with
  | nil => exact h
  | cons v vs ih => exact ih (h.set hg j v) (j + 1)
/-- The row in block g: cells of its own, of a given number, and what stands at its head. -/
def RowV (W : World) (g e sz : Nat) (vs : List Value) : Prop := ∃ cur : Array Value, W.heap[g]? = some (.cells cur e (0, 0)) ∧ cur.size = sz ∧ vs.length ≤ sz ∧ ∀ (j : Nat) v, vs[j]? = some v → cur[j]? = some v
theorem RowV.cell {W : World} {g e sz : Nat} {vs : List Value} (h : RowV W g e sz vs) (j : Nat) (v : Value) (hj : vs[j]? = some v) : W.cell? ⟨g, j, none⟩ = some v := by
  obtain ⟨cur, hh, _, _, hc⟩ := h
  simp only [World.cell?, hh]
  exact hc j v hj
theorem RowV.frozen {W : World} {g e sz : Nat} {vs : List Value} (h : RowV W g e sz vs) (j : Nat) : W.frozen? ⟨g, j, none⟩ = false := by
  obtain ⟨cur, hh, _⟩ := h
  simp [World.frozen?, hh]
theorem RowV.lt {W : World} {g e sz : Nat} {vs : List Value} (h : RowV W g e sz vs) : g < W.heap.size := by
  obtain ⟨cur, hh, _⟩ := h
  exact (Array.getElem?_eq_some_iff.1 hh).1
theorem RowV.below {W X : World} {g e sz : Nat} {vs : List Value} (h : RowV W g e sz vs) (hb : Below W.heap.size W X) : RowV X g e sz vs := by
  have hlt := h.lt
  obtain ⟨cur, hh, r⟩ := h
  exact ⟨cur, (hb.block g hlt).trans hh, r⟩
theorem RowV.put {W : World} {g e sz : Nat} {vs : List Value} (h : RowV W g e sz vs) (i : Nat) (v : Value) : RowV (W.setCell ⟨g, i, none⟩ v) g e sz (vs.set i v) := by
  obtain ⟨cur, hh, hs, hm, hc⟩ := h
  refine ⟨cur.setIfInBounds i v, ?_, by simpa using hs, by simpa using hm, fun j d hj => ?_⟩
  · simp only [World.setCell, Array.getElem?_modify, hh]
    simp
  · rw [List.getElem?_set] at hj
    rw [Array.getElem?_setIfInBounds]
    by_cases e : i = j
    · subst e
      rw [if_pos rfl] at hj
      by_cases hlt : i < vs.length
      · rw [if_pos hlt] at hj
        injection hj with hj
        subst hj
        rw [if_pos rfl, if_pos (by omega)]
      · rw [if_neg hlt] at hj
        cases hj
    · rw [if_neg e] at hj
      rw [if_neg e]
      exact hc j d hj
theorem RowV.clr {W : World} {g e sz : Nat} {vs : List Value} (h : RowV W g e sz vs) (i : Nat) (us : List Value) : RowV (W.setCells g i us) g e sz (vs.take i) := by
  have hgen : ∀ (us : List Value) (W : World) (i : Nat) (vs : List Value), RowV W g e sz vs → ∀ m, m ≤ i → RowV (W.setCells g i us) g e sz (vs.take m) := by
    intro us
    induction us with
    | nil =>
      rintro W i vs ⟨cur, hh, hs, hm, hc⟩ m _
      refine ⟨cur, hh, hs, by simp; omega, fun j v hj => ?_⟩
      obtain ⟨hlt, _⟩ := List.getElem?_eq_some_iff.1 hj
      rw [List.getElem?_take_of_lt (by simp at hlt; omega)] at hj
      exact hc j v hj
    | cons u us ih =>
      intro W i vs h m hm
      have h2 := ih (W.setCell ⟨g, i, none⟩ u) (i + 1) (vs.set i u) (h.put i u) m (by omega)
      rw [List.take_set_of_le (by omega)] at h2
      exact h2
  exact hgen us W i vs h i (Nat.le_refl _)
/-- DeleteFunc's loop: i kept of the first j. -/
def DelInv {α : Type} (p : α → Bool) (l dk : List α) (i j : Nat) : Prop := dk.length = l.length ∧ i < j ∧ dk.take i = (l.take j).filter (fun x => !p x) ∧ dk.drop j = l.drop j
theorem DelInv.start {α : Type} {p : α → Bool} {l : List α} {k : Nat} (hk : k < l.length) (h : p (l[k]'hk) = true) (hall : ∀ j (hj : j < l.length), j < k → p (l[j]'hj) = false) : DelInv p l l k (k + 1) := by
  refine ⟨rfl, by omega, ?_, rfl⟩
  rw [← List.take_append_getElem hk, List.filter_append]
  have h1 : (l.take k).filter (fun x => !p x) = l.take k := by
    rw [List.filter_eq_self]
    intro x hx
    obtain ⟨j, hj, rfl⟩ := List.getElem_of_mem hx
    rw [List.length_take] at hj
    rw [List.getElem_take, hall j (by omega) (by omega)]
    rfl
  rw [h1]
  simp [h]
theorem DelInv.at {α : Type} {p : α → Bool} {l dk : List α} {i j : Nat} (h : DelInv p l dk i j) (hj : j < l.length) : dk[j]? = some (l[j]'hj) := by
  have := congrArg List.head? h.2.2.2
  rw [List.head?_drop, List.head?_drop, List.getElem?_eq_getElem hj] at this
  exact this
theorem DelInv.keep {α : Type} {p : α → Bool} {l dk : List α} {i j : Nat} (h : DelInv p l dk i j) (hj : j < l.length) (hp : p (l[j]'hj) = false) : DelInv p l (dk.set i (l[j]'hj)) (i + 1) (j + 1) := by
  obtain ⟨h1, h2, h3, h4⟩ := h
  refine ⟨by simpa using h1, by omega, ?_, ?_⟩
  · rw [← List.take_append_getElem hj, List.filter_append, ← h3]
    have hi : i < (dk.set i (l[j]'hj)).length := by simp; omega
    rw [← List.take_append_getElem hi, List.take_set_of_le (Nat.le_refl _)]
    simp [hp]
  · rw [List.drop_set_of_lt (by omega)]
    have := congrArg (List.drop 1) h4
    simpa [List.drop_drop, Nat.add_comm] using this
theorem DelInv.skip {α : Type} {p : α → Bool} {l dk : List α} {i j : Nat} (h : DelInv p l dk i j) (hj : j < l.length) (hp : p (l[j]'hj) = true) : DelInv p l dk i (j + 1) := by
  obtain ⟨h1, h2, h3, h4⟩ := h
  refine ⟨h1, by omega, ?_, ?_⟩
  · rw [← List.take_append_getElem hj, List.filter_append, ← h3]
    simp [hp]
  · have := congrArg (List.drop 1) h4
    simpa [List.drop_drop, Nat.add_comm] using this
theorem DelInv.len {α : Type} {p : α → Bool} {l dk : List α} {i j : Nat} (h : DelInv p l dk i j) (hj : j ≤ l.length) : i = ((l.take j).filter (fun x => !p x)).length := by
  rw [← h.2.2.1, List.length_take]
  have := h.1; have := h.2.1
  omega
theorem idx_spec {α : Type} [Inhabited α] (p : α → Bool) (l : List α) : (Lib.idxBy (fun _ y => p y) l default = -1 ∧ ∀ x ∈ l, p x = false) ∨ ∃ k, ∃ hk : k < l.length, Lib.idxBy (fun _ y => p y) l default = (k : Int) ∧ p (l[k]'hk) = true ∧ ∀ j (hj : j < l.length), j < k → p (l[j]'hj) = false := by
  rcases idxByFrom_spec (fun _ y => p y) default l 0 with ⟨e, ha⟩ | ⟨k, hk, e, ht, ha⟩
  · refine .inl ⟨e, fun x hx => ?_⟩
    obtain ⟨j, hj, rfl⟩ := List.getElem_of_mem hx
    have := ha j hj
    rwa [getElem!_pos l j hj] at this
  · refine .inr ⟨k, hk, by unfold Lib.idxBy; rw [e]; simp, by rwa [getElem!_pos l k hk] at ht, fun j hj hlt => ?_⟩
    have := ha j hlt
    rwa [getElem!_pos l j hj] at this
set_option maxHeartbeats 4000000 in
set_option maxRecDepth 100000 in
/-- slices.DeleteFunc at texts; the predicate may lay blocks of its own, and reads nothing of the row. -/
theorem delS_wp (p : ByteArray → Bool) (F : Nat) (caps : Array Value) (eg : ∀ args w, (callFunc F args).run Try.prog w = .ok (.enter F args) w) (n g e sz c : Nat) (l : List ByteArray) (w : World) (hl : l.length ≤ 9223372036854775807) (hcap : l.length ≤ c) (hn : n ≤ g)
    (hr : RowV w g e sz (l.map Value.string))
    (hp : ∀ W x, x ∈ l → KeptG n g w W → Calls Try.prog F (#[.string x] ++ caps) W fun e W' => e = .returned (.bool (p x)) ∧ Below W.heap.size W W') :
    Calls Try.prog 64 #[.slice (some ⟨g, 0, none⟩) l.length c, .func (.func F) #[] caps] w fun e_ w' => e_ = .returned (.slice (some ⟨g, 0, none⟩) (l.filter fun x => !p x).length c) ∧ KeptG n g w w' ∧ RowV w' g e sz ((l.filter fun x => !p x).map Value.string) := by
  have hg := hr.lt
  have hI := idxS_wp p F caps eg g 0 c l w hl hg (fun j x hj => by rw [Nat.zero_add]; exact hr.cell j _ (by simp [hj])) (fun W x hx hb => hp W x hx (KeptG.of_below (by omega) hb))
  have HP := Aside0.mk hp
  have HRW := Aside0.mk hr
  clear hp hr
  rcases idx_spec p l with ⟨e1, hall⟩ | ⟨k0, hk0, e1, ht, hall⟩
  · rw [e1] at hI
    have hf : (l.filter fun x => !p x) = l := by rw [List.filter_eq_self]; intro x hx; rw [hall x hx]; rfl
    rw [hf]
    clear e1 hall hf
    go_enter Try.func64, Try.ntmps64
    go_wp2_with (go_at_call 87; refine hI.mono ?_; rintro e_ w' ⟨rfl, hb'⟩)
    go_ret
    exact ⟨rfl, KeptG.of_below (by omega) hb', HRW.out.below hb'⟩
  · rw [e1] at hI
    have HS := Aside0.mk (DelInv.start hk0 ht hall)
    have hne1 : ((k0 : Int) == -1) = false := beq_eq_false_iff_ne.2 (by omega)
    clear e1 ht hall
    go_enter Try.func64, Try.ntmps64
    go_wp2_with (go_at_call 87; refine hI.mono ?_; rintro e_ w1 ⟨rfl, hb1⟩)
    have HB1 := Aside0.mk hb1
    clear hb1
    go_loopg [5, 6, 7] l.length (fun gg s5 s6 _ wr => ∃ (i j : Nat) (dk : List ByteArray), s5 = .int .i64 i ∧ s6 = .int .i64 j ∧ j ≤ l.length ∧ l.length - j ≤ gg ∧ Aside0 (KeptG n g w wr) ∧ Aside0 (RowV wr g e sz (dk.map Value.string)) ∧ Aside0 (DelInv p l dk i j))
    case atStart => exact ⟨k0, k0 + 1, l, rfl, by go_num, by omega, by omega, ⟨KeptG.of_below (by omega) HB1.out⟩, ⟨HRW.out.below HB1.out⟩, HS⟩
    case round =>
      obtain ⟨i, j, dk, rfl, rfl, hjd, hgg, HK, HW, HI⟩ := hrel
      have hij := HI.out.2.1
      have hfi := HW.out.frozen i
      have hdl := HI.out.1
      by_cases hlt : j < l.length
      · have hltz : (j : Int) < (l.length : Int) := by omega
        obtain ⟨y, hy⟩ : ∃ y, l[j]'hlt = y := ⟨_, rfl⟩
        have hcj : wr.cell? ⟨g, j, none⟩ = some (.string y) := HW.out.cell j _ (by simp [HI.out.at hlt, hy])
        have hci : wr.cell? ⟨g, i, none⟩ = some (.string (dk[i]'(by omega))) := HW.out.cell i _ (by simp [List.getElem?_eq_getElem (show i < dk.length by omega)])
        obtain ⟨old, hold⟩ : ∃ old, (dk[i]'(by omega) : ByteArray) = old := ⟨_, rfl⟩
        rw [hold] at hci
        clear hold
        have hcall := HP.out wr y (by rw [← hy]; exact List.getElem_mem hlt) HK.out
        have C := Aside0.mk hy
        clear hy
        cases hq : p y with
        | false =>
          rw [hq] at hcall
          go_wp2_with (go_at_fn F; refine hcall.mono ?_; rintro e_ w' ⟨rfl, hb'⟩; have hci' := (hb'.cell (p := ⟨g, i, none⟩) HW.out.lt).trans hci; have hfi' := (HW.out.below hb').frozen i)
          go_roundg (l.length - (j + 1))
          case measure => omega
          case rel =>
            refine ⟨i + 1, j + 1, dk.set i y, by go_num, by go_num, by omega, Nat.le_refl _, ⟨(HK.out.below (by omega) (hb'.mono HK.out.2.1)).set hn _ _⟩, ⟨?_⟩, ⟨?_⟩⟩
            · rw [List.map_set]
              exact (HW.out.below hb').put i _
            · have := HI.out.keep hlt (by rw [C.out]; exact hq)
              rwa [C.out] at this
        | true =>
          rw [hq] at hcall
          go_wp2_with (go_at_fn F; refine hcall.mono ?_; rintro e_ w' ⟨rfl, hb'⟩)
          go_roundg (l.length - (j + 1))
          case measure => omega
          case rel => exact ⟨i, j + 1, dk, rfl, by go_num, by omega, Nat.le_refl _, ⟨HK.out.below (by omega) (hb'.mono HK.out.2.1)⟩, ⟨HW.out.below hb'⟩, ⟨HI.out.skip hlt (by rw [C.out]; exact hq)⟩⟩
      · have hje : j = l.length := by omega
        subst hje
        have hltz : ¬ (l.length : Int) < (l.length : Int) := by omega
        have hcl : ∀ ty, (Builtin.clear_ #[31] ty #[.slice (some ⟨g, i, none⟩) (l.length - i) (c - i)]).run Try.prog wr = .ok (.tuple #[]) (wr.setCells g i (List.replicate (l.length - i) (.string ⟨#[]⟩))) :=
          fun ty => Lib.run_clear_slice wr _ 9 ty _ Try.underlying31 (by intro w; rfl) rfl rfl g i _ _ (by omega) (fun t ht => by rw [HW.out.cell (i + t) (.string (dk[i + t]'(by omega))) (by simp [List.getElem?_eq_getElem (show i + t < dk.length by omega)])]; rfl) (fun t ht => HW.out.frozen _)
        have HLEN := Aside0.mk (HI.out.len (Nat.le_refl _))
        go_wp2
        go_ret
        have hlen := HLEN.out
        rw [List.take_length] at hlen
        refine ⟨by rw [← hlen]; rfl, HK.out.clr hn _ _, ?_⟩
        have h5 := HW.out.clr i (List.replicate (l.length - i) (.string ⟨#[]⟩))
        have h6 := HI.out.2.2.1
        rw [List.take_length] at h6
        rw [← List.map_take, h6] at h5
        exact h5


end Go.Proofs.Ytkjkbenmoogdjaa.X
namespace Go.Proofs.Ytkjkbenmoogdjaa.X
open Go.RowKit Go.Proofs.YtkjkbenmoogdjaaW.PrintWords Go.Proofs.YtkjkbenmoogdjaaW.PrintLast Go.Proofs.YtkjkbenmoogdjaaW.PrintMore
attribute [local go_sem] max2_int min2_int max_two min_two max_three min_three max_four min_four   -- for this text's walks alone
set_option linter.unusedVariables false
set_option linter.unusedSimpArgs false

/-! ### api_Field_92: function 92 -/
/-- The cells of some fields, one behind the other. -/
def cellsF (l : List S23) : List Value := l.flatMap fun x => [.string x.f0, .string x.f1]
theorem cellsF_len (l : List S23) : (cellsF l).length = l.length * 2 := by
  induction l with
  | nil => rfl
  | cons x l ih =>
    unfold cellsF at ih ⊢
    rw [List.flatMap_cons, List.length_append, ih]
    simp; omega
theorem cellsF_at (l : List S23) (j : Nat) (x : S23) (h : l[j]? = some x) : (cellsF l)[j * 2]? = some (.string x.f0) ∧ (cellsF l)[j * 2 + 1]? = some (.string x.f1) := by
  induction l generalizing j with
  | nil => simp at h
  | cons y l ih =>
    unfold cellsF at ih ⊢
    rw [List.flatMap_cons]
    cases j with
    | zero =>
      simp at h
      subst h
      exact ⟨rfl, rfl⟩
    | succ j =>
      have h2 := ih j (by simpa using h)
      have e1 : (j + 1) * 2 = j * 2 + 2 := by omega
      rw [e1]
      exact h2
theorem cellsF_get (l : List S23) (t : Nat) (u : Value) (h : (cellsF l)[t]? = some u) : ∃ x, l[t / 2]? = some x ∧ ((t % 2 = 0 ∧ u = .string x.f0) ∨ (t % 2 = 1 ∧ u = .string x.f1)) := by
  have hlt := (List.getElem?_eq_some_iff.1 h).1
  rw [cellsF_len] at hlt
  have hx := List.getElem?_eq_getElem (l := l) (i := t / 2) (by omega)
  refine ⟨_, hx, ?_⟩
  have hc := cellsF_at l (t / 2) _ hx
  rcases Nat.mod_two_eq_zero_or_one t with e | e
  · left
    rw [show t / 2 * 2 = t from by omega] at hc
    rw [hc.1] at h
    exact ⟨e, (Option.some.inj h).symm⟩
  · right
    rw [show t / 2 * 2 + 1 = t from by omega] at hc
    rw [hc.2] at h
    exact ⟨e, (Option.some.inj h).symm⟩
theorem cellsF_one (l : List S23) : ∀ u ∈ cellsF l, u.oneCell' = true := by
  intro u hu
  obtain ⟨t, ht, rfl⟩ := List.getElem_of_mem hu
  obtain ⟨x, _, h⟩ := cellsF_get l t _ (List.getElem?_eq_getElem ht)
  rcases h with ⟨_, h⟩ | ⟨_, h⟩ <;> rw [h] <;> rfl
theorem cellsF_cons (x : S23) (l : List S23) : cellsF (x :: l) = .string x.f0 :: .string x.f1 :: cellsF l := rfl
/-- A row of fields of one's own, told by its cells. -/
theorem rowRF (e : Nat) {w : World} {base : Nat} {v : Value} {l : List S23} (h : w.ownsRow base e 2 v l.length (cellsF l)) : Kd.R k23 e w base (fun _ => True) v l := by
  refine ⟨fun _ _ => trivial, cellsF l, h, ?_⟩
  refine ⟨cellsF_len l, fun j p hj => ?_⟩
  have hc := cellsF_at l j p hj
  have he : List.take 2 (List.drop (j * 2) (cellsF l)) = [.string p.f0, .string p.f1] := by
    obtain ⟨h1, e1⟩ := List.getElem?_eq_some_iff.1 hc.1
    obtain ⟨h2, e2⟩ := List.getElem?_eq_some_iff.1 hc.2
    rw [List.drop_eq_getElem_cons h1, List.drop_eq_getElem_cons h2, e1, e2]
    rfl
  show k23.M w base _ p (List.take 2 (List.drop (j * 2) (cellsF l)))
  rw [he]
  exact k23_mkM w base _ p
theorem row_ownF {e base : Nat} {w : World} {ok : Nat → Prop} {v : Value} {l : List S23} (h : Kd.R k23 e w base ok v l) : w.ownsRow base e 2 v l.length (cellsF l) := by
  obtain ⟨_, inner, ho, hl, hr⟩ := h
  have hl' : inner.length = l.length * 2 := hl
  have he : inner = cellsF l := by
    apply List.ext_getElem?
    intro t
    by_cases ht : t < inner.length
    · have hx := List.getElem?_eq_getElem (l := l) (i := t / 2) (by omega)
      have h0 := k23_openM (hr (t / 2) _ hx)
      have h1 : List.take 2 (List.drop (t / 2 * 2) inner) = [.string (l[t / 2]'(by omega)).f0, .string (l[t / 2]'(by omega)).f1] := h0
      have hc := cellsF_at l (t / 2) _ hx
      have g0 := congrArg (fun z : List Value => z[0]?) h1
      have g1 := congrArg (fun z : List Value => z[1]?) h1
      simp only [List.getElem?_take, List.getElem?_drop] at g0 g1
      rcases Nat.mod_two_eq_zero_or_one t with e | e
      · rw [show t / 2 * 2 = t from by omega] at hc g0
        rw [hc.1]
        simpa using g0
      · rw [show t / 2 * 2 + 1 = t from by omega] at hc g1
        rw [hc.2]
        simpa using g1
    · rw [List.getElem?_eq_none (by omega), List.getElem?_eq_none (by rw [cellsF_len]; omega)]
  rw [he] at ho
  exact ho
/-- Fields that are read: their cells. -/
theorem reads_cellsF {w : World} {A : Option Addr} {n : Nat} {l : List S23} (h : Kd.C k23 w A n l) (hl : l ≠ []) :
    ∃ g o, A = some ⟨g, o, none⟩ ∧ g < w.heap.size ∧ ∀ (j : Nat) x, l[j]? = some x → w.cell? ⟨g, o + j * 2, none⟩ = some (.string x.f0) ∧ w.cell? ⟨g, o + j * 2 + 1, none⟩ = some (.string x.f1) := by
  have hn : l.length = n := h.1
  have hpos : 0 < l.length := List.length_pos_iff.2 hl
  have hx : ∀ (j : Nat) x, l[j]? = some x → ∃ ad, A = some ad ∧ w.cell? (ad.add (j * 2)) = some (.string x.f0) ∧ w.cell? ⟨(ad.add (j * 2)).block, (ad.add (j * 2)).off + 1, none⟩ = some (.string x.f1) := by
    intro j x hj
    have hlt : j < l.length := (List.getElem?_eq_some_iff.1 hj).1
    obtain ⟨ad, e1, hx⟩ := at_T23 h (j : Int) (by omega) (by omega)
    refine ⟨ad, e1, ?_⟩
    simp only [rd_T23, Int.toNat_natCast, List.getD_eq_getElem?_getD, hj, Option.getD_some] at hx
    exact hx
  obtain ⟨ad, rfl, h0, _⟩ := hx 0 _ (List.getElem?_eq_getElem hpos)
  obtain ⟨g, o, sp⟩ := ad
  have h0' : w.cell? ⟨g, o, sp⟩ = some (.string l[0].f0) := h0
  have hlt := World.block_lt_of_cell? w _ h0'
  cases sp with
  | some z =>
    exfalso
    unfold World.cell? at h0'
    split at h0'
    · simp at h0'
    · cases h0'
  | none =>
    refine ⟨g, o, rfl, hlt, fun j x hj => ?_⟩
    obtain ⟨ad, e1, hc⟩ := hx j x hj
    injection e1 with e1
    subst e1
    have e2 : (⟨g, o, none⟩ : Addr).add (j * 2) = ⟨g, o + j * 2, none⟩ := by rw [Addr.add_lit]
    rw [e2] at hc
    exact hc
theorem infoFd : (Try.prog.info? 23).map (fun i => (i.zero, i.size, i.bytes)) = some (some (.agg #[(.string ⟨#[]⟩), (.string ⟨#[]⟩)]), 2, 32) := by kernel_rfl
set_option maxHeartbeats 4000000 in
set_option maxRecDepth 100000 in
theorem cloneF_wp (A0 : Option Addr) (c0 : Nat) (l : List S23) (w : World) (hl : l.length ≤ 1000000) (hr : Kd.C k23 w A0 l.length l) :
    Calls Try.prog 92 #[.slice A0 l.length c0] w fun e w' => ∃ v, e = .returned v ∧ w'.ownsRow w.heap.size 23 2 v l.length (cellsF l) ∧ Below w.heap.size w w' := by
  obtain ⟨i0, hi, hz0, hz1, hz2⟩ := info_parts infoFd
  have q22 : ∀ (w : World) (a : Option Addr) (n c n' c' : Nat), (binOp .eql 40 (.slice a n c) (.slice none n' c')).run Try.prog w = .ok (.bool a.isNone) w := fun w a n c n' c' => Lib.run_eql_slice_nil w _ _ a n c n' c' Try.underlying40
  cases A0 with
  | none =>
    have hnil : l = [] := by
      apply Classical.byContradiction
      intro hne
      obtain ⟨g, o, h, _⟩ := reads_cellsF hr hne
      cases h
    subst hnil
    clear hr
    go_enter Try.func92, Try.ntmps92
    go_wp2
    go_ret
    exact ⟨_, rfl, World.ownsRow_nil _ _ _ _, Below.refl _ _⟩
  | some ad =>
    have hnews : ∀ j u, (cellsF l)[j]? = some u → w.cell? (ad.add j) = some u := by
      intro j u hj
      have hne : l ≠ [] := by rintro rfl; simp [cellsF] at hj
      obtain ⟨g, o, h, _, hc⟩ := reads_cellsF hr hne
      injection h with h
      subst h
      obtain ⟨x, hx, hd⟩ := cellsF_get l j u hj
      rw [Addr.add_lit]
      have hx2 := hc _ x hx
      rcases hd with ⟨e, rfl⟩ | ⟨e, rfl⟩
      · rw [show o + j / 2 * 2 = o + j from by omega] at hx2
        exact hx2.1
      · rw [show o + j / 2 * 2 + 1 = o + j from by omega] at hx2
        exact hx2.2
    have A := Aside0.mk hnews
    have HL := Aside0.mk (cellsF_len l)
    have HO := Aside0.mk (cellsF_one l)
    clear hnews hr
    go_enter Try.func92, Try.ntmps92
    go_wp2_with (at_builtin; refine wpList_append_own _ rfl _ _ 40 rfl w.heap.size 23 i0 (.agg #[(.string ⟨#[]⟩), (.string ⟨#[]⟩)]) 2 32 Try.underlying40 hi hz0 hz1 hz2 rfl (by decide) _ _ _ rfl (World.ownsRow_made w #[] 0 (Nat.le_refl _) (Nat.zero_le _) (by simp)) ad l.length c0 (cellsF l) rfl ?qc1 ?qc2 ?qc3 ?qc4 ?qc5 ?qc6 ?_)
    case qc1 => exact HL.out
    case qc2 =>
      intro j u hj
      exact Lib.cell?_alloc_some _ (A.out j u hj)
    case qc3 => exact HO.out
    case qc4 => rw [Nat.zero_add]; unfold maxLen; omega
    case qc5 => rw [Nat.zero_add]; omega
    case qc6 => simp
    intro v' w1 hown hgrow hnil
    go_wp2
    go_ret
    refine ⟨v', rfl, by simpa using hown, ?_⟩
    exact ((Below.refl _ w).alloc (Nat.le_refl _) _).grown hgrow (by simp) (by intro k hk; simp [Value.ownBlock] at hk; omega)


end Go.Proofs.Ytkjkbenmoogdjaa.X
namespace Go.Proofs.Ytkjkbenmoogdjaa.X
open Go.RowKit Go.Proofs.YtkjkbenmoogdjaaW.PrintWords Go.Proofs.YtkjkbenmoogdjaaW.PrintLast Go.Proofs.YtkjkbenmoogdjaaW.PrintMore
attribute [local go_sem] max2_int min2_int max_two min_two max_three min_three max_four min_four   -- for this text's walks alone
set_option linter.unusedVariables false
set_option linter.unusedSimpArgs false

/-! ### api_Field_102: function 102 -/
instance instInhField : Inhabited S23 := ⟨⟨⟨#[]⟩, ⟨#[]⟩⟩⟩
/-- slices.IndexFunc at fields; the predicate may lay blocks of its own. -/
theorem idxF_wp (p : S23 → Bool) (F : Nat) (caps : Array Value) (eg : ∀ args w, (callFunc F args).run Try.prog w = .ok (.enter F args) w) (g o c : Nat) (l : List S23) (w : World) (hl : l.length ≤ 9223372036854775807) (hg : g < w.heap.size)
    (hc : ∀ j x, l[j]? = some x → w.cell? ⟨g, o + j * 2, none⟩ = some (.string x.f0) ∧ w.cell? ⟨g, o + j * 2 + 1, none⟩ = some (.string x.f1))
    (hp : ∀ W x, x ∈ l → Below w.heap.size w W → Calls Try.prog F (#[.agg #[.string x.f0, .string x.f1]] ++ caps) W fun e W' => e = .returned (.bool (p x)) ∧ Below W.heap.size W W') :
    Calls Try.prog 102 #[.slice (some ⟨g, o, none⟩) l.length c, .func (.func F) #[] caps] w fun e w' => e = .returned (.int .i64 (Lib.idxBy (fun _ y => p y) l default)) ∧ Below w.heap.size w w' := by
  have HP := Aside0.mk hp
  have HCC := Aside0.mk hc
  clear hp hc
  obtain ⟨R, hR⟩ : ∃ R, Lib.idxBy (fun _ y => p y) l default = R := ⟨_, rfl⟩
  have HR := Aside0.mk hR
  rw [hR]
  clear hR
  go_enter Try.func102, Try.ntmps102
  go_wp2
  go_loopg [5, 8] l.length (fun gg _ s8 wr => ∃ kk : Nat, kk ≤ l.length ∧ l.length - kk ≤ gg ∧ s8 = .int .i64 kk ∧ Aside0 (Below w.heap.size w wr) ∧ Aside0 (∀ j, j < kk → p l[j]! = false))
  case atStart => exact ⟨0, Nat.zero_le _, by omega, rfl, ⟨Below.refl _ w⟩, ⟨fun j hj => absurd hj (Nat.not_lt_zero _)⟩⟩
  case round =>
    obtain ⟨kk, hkk, hgg, rfl, BW, A⟩ := hrel
    by_cases hlt : kk < l.length
    · have hltz : (kk : Int) < (l.length : Int) := by omega
      obtain ⟨y, hy⟩ : ∃ y, l[kk]! = y := ⟨_, rfl⟩
      have hy2 : l[kk]? = some y := by rw [← hy, List.getElem?_eq_getElem hlt, getElem!_pos l kk hlt]
      have hcell : wr.cell? ⟨g, o + kk * 2, none⟩ = some (.string y.f0) := (BW.out.cell (p := ⟨g, o + kk * 2, none⟩) hg).trans (HCC.out kk y hy2).1
      have hcell1 : wr.cell? ⟨g, o + kk * 2 + 1, none⟩ = some (.string y.f1) := (BW.out.cell (p := ⟨g, o + kk * 2 + 1, none⟩) hg).trans (HCC.out kk y hy2).2
      have hcall := HP.out wr y (List.mem_of_getElem? hy2) BW.out
      have B := Aside0.mk hy
      clear hy hy2
      cases hq : p y with
      | true =>
        rw [hq] at hcall
        go_wp2_with (go_at_fn F; refine hcall.mono ?_; rintro e w' ⟨rfl, hb'⟩)
        go_ret
        refine ⟨?_, BW.out.trans (hb'.mono BW.out.size)⟩
        have := Lib.idxBy_hit (fun _ y => p y) l l.length kk default hlt (Nat.le_refl _) (by show p l[kk]! = true; rw [B.out]; exact hq) A.out
        rw [List.take_length] at this
        rw [← HR.out, this]
        rfl
      | false =>
        rw [hq] at hcall
        go_wp2_with (go_at_fn F; refine hcall.mono ?_; rintro e w' ⟨rfl, hb'⟩)
        go_roundg (l.length - (kk + 1))
        case measure => omega
        case rel =>
          refine ⟨kk + 1, by omega, by omega, by go_num, ⟨BW.out.trans (hb'.mono BW.out.size)⟩, ⟨fun j hj => ?_⟩⟩
          by_cases e : j = kk
          · subst e
            rw [B.out]; exact hq
          · exact A.out j (by omega)
    · have hltz : ¬ (kk : Int) < (l.length : Int) := by omega
      have hke : kk = l.length := by omega
      subst hke
      go_wp2
      go_ret
      refine ⟨?_, BW.out⟩
      have := Lib.idxBy_miss (fun _ y => p y) l l.length default A.out
      rw [List.take_length] at this
      rw [← HR.out, this]
      rfl


end Go.Proofs.Ytkjkbenmoogdjaa.X
namespace Go.Proofs.Ytkjkbenmoogdjaa.X
open Go.RowKit Go.Proofs.YtkjkbenmoogdjaaW.PrintWords Go.Proofs.YtkjkbenmoogdjaaW.PrintLast Go.Proofs.YtkjkbenmoogdjaaW.PrintMore
attribute [local go_sem] max2_int min2_int max_two min_two max_three min_three max_four min_four   -- for this text's walks alone
set_option linter.unusedVariables false
set_option linter.unusedSimpArgs false

/-! ### api_Field_91: function 91 -/
theorem cellsF_set (l : List S23) (i : Nat) (y : S23) : cellsF (l.set i y) = ((cellsF l).set (i * 2) (.string y.f0)).set (i * 2 + 1) (.string y.f1) := by
  induction l generalizing i with
  | nil => rfl
  | cons x l ih =>
    cases i with
    | zero => rfl
    | succ i =>
      rw [List.set_cons_succ, cellsF_cons, ih i, cellsF_cons, show (i + 1) * 2 = i * 2 + 1 + 1 from by omega]
      rfl
theorem cellsF_take (l : List S23) (i : Nat) : (cellsF l).take (i * 2) = cellsF (l.take i) := by
  induction l generalizing i with
  | nil => simp [cellsF]
  | cons x l ih =>
    cases i with
    | zero => rfl
    | succ i =>
      rw [List.take_succ_cons, cellsF_cons, cellsF_cons, show (i + 1) * 2 = i * 2 + 1 + 1 from by omega, List.take_succ_cons, List.take_succ_cons, ih i]
/-- 'clear(s)' at elements of two cells of one zero value. -/
theorem run_clear_slice2 {P : Program} (w : World) (t e ty : TypeId) (z z0 : Value) (ht : P.underlying t = some (.slice e)) (hv : ∀ w, (zeroValue e).run P w = .ok z w) (hz : z.cells = #[z0, z0]) (h1 : z0.oneCell' = true) (b o n c : Nat) (hn : 0 < n)
    (hc : ∀ j, j < n * 2 → (w.cell? ⟨b, o + j, none⟩).isSome = true) (hf : ∀ j, j < n * 2 → w.frozen? ⟨b, o + j, none⟩ = false) :
    (Builtin.clear_ #[t] ty #[.slice (some ⟨b, o, none⟩) n c]).run P w = .ok (.tuple #[]) (w.setCells b o (List.replicate (n * 2) z0)) := by
  have hzc : (Builtin.zeroCells z.cells n).toList = List.replicate (n * 2) z0 := by
    rw [hz]
    simp [Builtin.zeroCells]
    apply List.ext_getElem
    · simp
    · intro i h1 h2
      rcases Nat.mod_two_eq_zero_or_one i with e | e <;> simp [e]
  have hst := run_storeCells_cells (P := P) b o (List.replicate (n * 2) z0) 0 w (by simpa using hc) (by simpa using hf) (by intro v hv'; rw [List.eq_of_mem_replicate hv']; exact h1)
  simp only [Nat.add_zero] at hst
  obtain ⟨m, rfl⟩ : ∃ m, n = m + 1 := ⟨n - 1, by omega⟩
  simp [Builtin.clear_, run_underlying ht, hv, hzc, hst]
set_option maxHeartbeats 4000000 in
set_option maxRecDepth 100000 in
/-- slices.DeleteFunc at fields; the predicate may lay blocks of its own, and reads nothing of the row. -/
theorem delF_wp (p : S23 → Bool) (F : Nat) (caps : Array Value) (eg : ∀ args w, (callFunc F args).run Try.prog w = .ok (.enter F args) w) (n g e sz c : Nat) (l : List S23) (w : World) (hl : l.length ≤ 9223372036854775807) (hcap : l.length ≤ c) (hn : n ≤ g)
    (hr : RowV w g e sz (cellsF l))
    (hp : ∀ W x, x ∈ l → KeptG n g w W → Calls Try.prog F (#[.agg #[.string x.f0, .string x.f1]] ++ caps) W fun e W' => e = .returned (.bool (p x)) ∧ Below W.heap.size W W') :
    Calls Try.prog 91 #[.slice (some ⟨g, 0, none⟩) l.length c, .func (.func F) #[] caps] w fun e_ w' => e_ = .returned (.slice (some ⟨g, 0, none⟩) (l.filter fun x => !p x).length c) ∧ KeptG n g w w' ∧ RowV w' g e sz (cellsF (l.filter fun x => !p x)) := by
  have hg := hr.lt
  have hI := idxF_wp p F caps eg g 0 c l w hl hg (fun j x hj => by rw [Nat.zero_add]; exact ⟨hr.cell _ _ (cellsF_at l j x hj).1, hr.cell _ _ (cellsF_at l j x hj).2⟩) (fun W x hx hb => hp W x hx (KeptG.of_below (by omega) hb))
  have HP := Aside0.mk hp
  have HRW := Aside0.mk hr
  clear hp hr
  rcases idx_spec p l with ⟨e1, hall⟩ | ⟨k0, hk0, e1, ht, hall⟩
  · rw [e1] at hI
    have hf : (l.filter fun x => !p x) = l := by rw [List.filter_eq_self]; intro x hx; rw [hall x hx]; rfl
    rw [hf]
    clear e1 hall hf
    go_enter Try.func91, Try.ntmps91
    go_wp2_with (go_at_call 102; refine hI.mono ?_; rintro e_ w' ⟨rfl, hb'⟩)
    go_ret
    exact ⟨rfl, KeptG.of_below (by omega) hb', HRW.out.below hb'⟩
  · rw [e1] at hI
    have HS := Aside0.mk (DelInv.start hk0 ht hall)
    have hne1 : ((k0 : Int) == -1) = false := beq_eq_false_iff_ne.2 (by omega)
    clear e1 ht hall
    go_enter Try.func91, Try.ntmps91
    go_wp2_with (go_at_call 102; refine hI.mono ?_; rintro e_ w1 ⟨rfl, hb1⟩)
    have HB1 := Aside0.mk hb1
    clear hb1
    go_loopg [5, 6, 7] l.length (fun gg s5 s6 _ wr => ∃ (i j : Nat) (dk : List S23), s5 = .int .i64 i ∧ s6 = .int .i64 j ∧ j ≤ l.length ∧ l.length - j ≤ gg ∧ Aside0 (KeptG n g w wr) ∧ Aside0 (RowV wr g e sz (cellsF dk)) ∧ Aside0 (DelInv p l dk i j))
    case atStart => exact ⟨k0, k0 + 1, l, rfl, by go_num, by omega, by omega, ⟨KeptG.of_below (by omega) HB1.out⟩, ⟨HRW.out.below HB1.out⟩, HS⟩
    case round =>
      obtain ⟨i, j, dk, rfl, rfl, hjd, hgg, HK, HW, HI⟩ := hrel
      have hij := HI.out.2.1
      have hfi := HW.out.frozen (i * 2)
      have hfi1 := HW.out.frozen (i * 2 + 1)
      have hdl := HI.out.1
      by_cases hlt : j < l.length
      · have hltz : (j : Int) < (l.length : Int) := by omega
        obtain ⟨y, hy⟩ : ∃ y, l[j]'hlt = y := ⟨_, rfl⟩
        have hcj : wr.cell? ⟨g, j * 2, none⟩ = some (.string y.f0) := HW.out.cell _ _ (cellsF_at dk j y (by rw [HI.out.at hlt, hy])).1
        have hcj1 : wr.cell? ⟨g, j * 2 + 1, none⟩ = some (.string y.f1) := HW.out.cell _ _ (cellsF_at dk j y (by rw [HI.out.at hlt, hy])).2
        obtain ⟨old, hold⟩ : ∃ old, dk[i]? = some old := ⟨_, List.getElem?_eq_getElem (show i < dk.length by omega)⟩
        have hci : wr.cell? ⟨g, i * 2, none⟩ = some (.string old.f0) := HW.out.cell _ _ (cellsF_at dk i old hold).1
        have hci1 : wr.cell? ⟨g, i * 2 + 1, none⟩ = some (.string old.f1) := HW.out.cell _ _ (cellsF_at dk i old hold).2
        clear hold
        have HWX := Aside0.mk (⟨(Below.refl wr.heap.size wr).alloc (Nat.le_refl _) (.cells #[.string y.f0, .string y.f1] 23), World.alloc_heap_new wr (.cells #[.string y.f0, .string y.f1] 23)⟩ : Below wr.heap.size wr (wr.alloc (.cells #[.string y.f0, .string y.f1] 23)) ∧ _)
        have hcall := HP.out (wr.alloc (.cells #[.string y.f0, .string y.f1] 23)) y (by rw [← hy]; exact List.getElem_mem hlt) (HK.out.below (by omega) (HWX.out.1.mono HK.out.2.1))
        have hlx : wr.heap.size < (wr.alloc (.cells #[.string y.f0, .string y.f1] 23)).heap.size := by simp
        have HLX := Aside0.mk hlx
        clear hlx
        have C := Aside0.mk hy
        clear hy
        cases hq : p y with
        | false =>
          rw [hq] at hcall
          go_wp2_with (go_at_fn F; refine hcall.mono ?_; rintro e_ w' ⟨rfl, hb2⟩; have hb' := HWX.out.1.trans (hb2.mono (Nat.le_of_lt HLX.out)); have hv0 : w'.cell? ⟨wr.heap.size, 0, none⟩ = some (.string y.f0) := (hb2.cell (p := ⟨wr.heap.size, 0, none⟩) HLX.out).trans (by simp only [World.cell?, HWX.out.2]; rfl); have hv1 : w'.cell? ⟨wr.heap.size, 1, none⟩ = some (.string y.f1) := (hb2.cell (p := ⟨wr.heap.size, 1, none⟩) HLX.out).trans (by simp only [World.cell?, HWX.out.2]; rfl); have hci' := (hb'.cell (p := ⟨g, i * 2, none⟩) HW.out.lt).trans hci; have hfi' := (HW.out.below hb').frozen (i * 2); have hci1' := (hb'.cell (p := ⟨g, i * 2 + 1, none⟩) HW.out.lt).trans hci1; have hfi1' := (HW.out.below hb').frozen (i * 2 + 1))
          go_roundg (l.length - (j + 1))
          case measure => omega
          case rel =>
            refine ⟨i + 1, j + 1, dk.set i y, by go_num, by go_num, by omega, Nat.le_refl _, ⟨((HK.out.below (by omega) (hb'.mono HK.out.2.1)).set hn _ _).set hn _ _⟩, ⟨?_⟩, ⟨?_⟩⟩
            · rw [cellsF_set]
              exact ((HW.out.below hb').put (i * 2) _).put (i * 2 + 1) _
            · have := HI.out.keep hlt (by rw [C.out]; exact hq)
              rwa [C.out] at this
        | true =>
          rw [hq] at hcall
          go_wp2_with (go_at_fn F; refine hcall.mono ?_; rintro e_ w' ⟨rfl, hb2⟩; have hb' := HWX.out.1.trans (hb2.mono (Nat.le_of_lt HLX.out)))
          go_roundg (l.length - (j + 1))
          case measure => omega
          case rel => exact ⟨i, j + 1, dk, rfl, by go_num, by omega, Nat.le_refl _, ⟨HK.out.below (by omega) (hb'.mono HK.out.2.1)⟩, ⟨HW.out.below hb'⟩, ⟨HI.out.skip hlt (by rw [C.out]; exact hq)⟩⟩
      · have hje : j = l.length := by omega
        subst hje
        have hltz : ¬ (l.length : Int) < (l.length : Int) := by omega
        have hcl : ∀ ty, (Builtin.clear_ #[40] ty #[.slice (some ⟨g, i * 2, none⟩) (l.length - i) (c - i)]).run Try.prog wr = .ok (.tuple #[]) (wr.setCells g (i * 2) (List.replicate ((l.length - i) * 2) (.string ⟨#[]⟩))) :=
          fun ty => run_clear_slice2 wr _ 23 ty _ _ Try.underlying40 (by intro w; rfl) rfl rfl g (i * 2) _ _ (by omega) (fun t ht => by
            have hlt2 : i * 2 + t < (cellsF dk).length := by rw [cellsF_len]; omega
            rw [HW.out.cell (i * 2 + t) _ (List.getElem?_eq_getElem hlt2)]; rfl) (fun t ht => HW.out.frozen _)
        have HLEN := Aside0.mk (HI.out.len (Nat.le_refl _))
        go_wp2
        go_ret
        have hlen := HLEN.out
        rw [List.take_length] at hlen
        refine ⟨by rw [← hlen]; rfl, HK.out.clr hn _ _, ?_⟩
        have h5 := HW.out.clr (i * 2) (List.replicate ((l.length - i) * 2) (.string ⟨#[]⟩))
        have h6 := HI.out.2.2.1
        rw [List.take_length] at h6
        rw [cellsF_take, h6] at h5
        exact h5


end Go.Proofs.Ytkjkbenmoogdjaa.X
namespace Go.Proofs.Ytkjkbenmoogdjaa.X
open Go.RowKit Go.Proofs.YtkjkbenmoogdjaaW.PrintWords Go.Proofs.YtkjkbenmoogdjaaW.PrintLast Go.Proofs.YtkjkbenmoogdjaaW.PrintMore
attribute [local go_sem] max2_int min2_int max_two min_two max_three min_three max_four min_four   -- for this text's walks alone
set_option linter.unusedVariables false
set_option linter.unusedSimpArgs false

/-! ### header_named: function 93 -/
theorem named_wp (A : Option Addr) (n c : Nat) (w : World) :
    Calls Try.prog 93 #[.slice A n c] w fun e w' => e = .returned (.func (.func 103) #[] #[.pointer (some ⟨w.heap.size, 0, none⟩)]) ∧ w' = w.alloc (.cells #[.slice A n c] 31) := by
  go_enter Try.func93, Try.ntmps93
  go_wp2
  go_ret
  exact ⟨rfl, rfl⟩


end Go.Proofs.Ytkjkbenmoogdjaa.X
namespace Go.Proofs.Ytkjkbenmoogdjaa.X
open Go.RowKit Go.Proofs.YtkjkbenmoogdjaaW.PrintWords Go.Proofs.YtkjkbenmoogdjaaW.PrintLast Go.Proofs.YtkjkbenmoogdjaaW.PrintMore
attribute [local go_sem] max2_int min2_int max_two min_two max_three min_three max_four min_four   -- for this text's walks alone
set_option linter.unusedVariables false
set_option linter.unusedSimpArgs false

/-! ### header_named_1_1: function 104 -/
set_option maxHeartbeats 1000000 in
theorem named11_wp (x f0 : ByteArray) (B : Nat) (w : World) (hx : x.size ≤ 140737488351232) (hc : w.cell? ⟨B, 0, none⟩ = some (.string f0)) :
    Calls Try.prog 104 (#[.string x] ++ #[.pointer (some ⟨B, 0, none⟩)]) w fun e w' => e = .returned (.bool (foldB x f0)) ∧ Below w.heap.size w w' := by
  have hC := octet_Fold.calls (x.size + 1) x f0 (foldB x f0) w (octet_fold x f0 hx _ (by omega))
  go_enter Try.func104, Try.ntmps104
  go_wp2_with (go_at_call 35; refine hC.mono ?_; rintro e w' ⟨rfl, hdr⟩)
  obtain ⟨q, rfl⟩ := hdr.out
  go_ret
  exact ⟨rfl, pw_below_drewN (Below.refl _ _) q⟩


end Go.Proofs.Ytkjkbenmoogdjaa.X
namespace Go.Proofs.Ytkjkbenmoogdjaa.X
open Go.RowKit Go.Proofs.YtkjkbenmoogdjaaW.PrintWords Go.Proofs.YtkjkbenmoogdjaaW.PrintLast Go.Proofs.YtkjkbenmoogdjaaW.PrintMore
attribute [local go_sem] max2_int min2_int max_two min_two max_three min_three max_four min_four   -- for this text's walks alone
set_option linter.unusedVariables false
set_option linter.unusedSimpArgs false

/-! ### header_named_1: function 103 -/
set_option maxHeartbeats 1000000 in
theorem named1_wp (names : List ByteArray) (hn : ∀ x ∈ names, x.size ≤ 140737488351232) (hl : names.length ≤ 9223372036854775807) (g o c B : Nat) (w : World) (hB : w.cell? ⟨B, 0, none⟩ = some (.slice (some ⟨g, o, none⟩) names.length c)) (hg : g < w.heap.size)
    (hc : ∀ j x, names[j]? = some x → w.cell? ⟨g, o + j, none⟩ = some (.string x)) (f0 f1 : ByteArray) :
    Calls Try.prog 103 (#[.agg #[.string f0, .string f1]] ++ #[.pointer (some ⟨B, 0, none⟩)]) w fun e w' => e = .returned (.bool (names.any fun n => foldB n f0)) ∧ Below w.heap.size w w' := by
  have hBl : B < w.heap.size := World.block_lt_of_cell? w _ hB
  obtain ⟨W1, hW1⟩ : ∃ W1, w.alloc (.cells #[.string f0, .string f1] 23) = W1 := ⟨_, rfl⟩
  have hb1 : Below w.heap.size w W1 := by rw [← hW1]; exact (Below.refl _ w).alloc (Nat.le_refl _) _
  have hs1 : W1.heap.size = w.heap.size + 1 := by rw [← hW1]; simp
  have hcell : W1.cell? ⟨w.heap.size, 0, none⟩ = some (.string f0) := by
    have := World.alloc_heap_new w (.cells #[.string f0, .string f1] 23)
    rw [hW1] at this
    simp only [World.cell?, this]
    rfl
  have hB1 : W1.cell? ⟨B, 0, none⟩ = some (.slice (some ⟨g, o, none⟩) names.length c) := (hb1.cell (p := ⟨B, 0, none⟩) hBl).trans hB
  have hE := cntS_wp (fun n => foldB n f0) 104 #[.pointer (some ⟨w.heap.size, 0, none⟩)] (enters_of Try.func104 (by kernel_rfl) rfl) g o c names W1 hl (by omega)
    (fun j x hj => (hb1.cell (p := ⟨g, o + j, none⟩) hg).trans (hc j x hj))
    (fun W x hx hb => named11_wp x f0 w.heap.size W (hn x hx) ((hb.cell (p := ⟨w.heap.size, 0, none⟩) (by show w.heap.size < _; omega)).trans hcell))
  have hB2 : (w.alloc (.cells #[.string f0, .string f1] 23)).cell? ⟨B, 0, none⟩ = some (.slice (some ⟨g, o, none⟩) names.length c) := by rw [hW1]; exact hB1
  have HB1 := Aside0.mk hb1
  have HS1 := Aside0.mk hs1
  have HW1 := Aside0.mk hW1
  clear hb1 hs1 hW1 hc hn hcell
  go_enter Try.func103, Try.ntmps103
  go_wp2_with (rw [HW1.out]; go_at_call 56; refine hE.mono ?_; rintro e w' ⟨rfl, hb'⟩)
  go_ret
  exact ⟨rfl, HB1.out.trans (hb'.mono (by have := HS1.out; omega))⟩


end Go.Proofs.Ytkjkbenmoogdjaa.X
