/- Part 1 of the texts behind the claim on ListsJoin: contracts of the functions that it reaches, and plain laws about them. No conditions of its own. -/
import Derived.Test.YtkjkbenmoogdjaaProg
import Derived.Below
import Derived.Deep.Draws
import Derived.Deep.AppendLies
import Derived.Maps.AppendAt
import Derived.OwnWalk
import Derived.Laws.BytesArg
import Derived.Laws.MakeOwn
import Derived.Laws.OwnMore
import Derived.Deep.OwnRows
import Derived.Tactics
import Derived.Lib.ConvBytes
import Derived.Laws.Slices
import Derived.WalkKit
import Derived.KernelRfl
import Derived.RowKit3
import Derived.Deep.LoopGhost
import Derived.Deep.QuietTactic
import Derived.BigQuiet
import Derived.WideLaws
import Derived.Deep.DeepCutAuto
import Derived.Deep.CutBlock
import Derived.Deep.RegionHeld3
import Derived.Laws.Rows
import Derived.Lib.AppendStr
import Derived.ArgAppend
import Derived.Laws.IdiomCopy
import Derived.OrdersHeld
import Derived.Laws.BitsLemmas
import Derived.RowKit
import Derived.Test.YtkjkbenmoogdjaaWWords
import Derived.Test.YtkjkbenmoogdjaaWLast
import Derived.Test.YtkjkbenmoogdjaaWTab
import Derived.Test.YtkjkbenmoogdjaaWFour
import Derived.Test.YtkjkbenmoogdjaaWQPut
import Derived.Test.YtkjkbenmoogdjaaWApart
import Derived.Test.YtkjkbenmoogdjaaWArr
import Derived.Test.YtkjkbenmoogdjaaWZeros
import Derived.Test.YtkjkbenmoogdjaaWFoot
import Derived.Test.YtkjkbenmoogdjaaWKept
import Derived.Test.YtkjkbenmoogdjaaWShare
import Derived.Test.YtkjkbenmoogdjaaWN
import Derived.Test.YtkjkbenmoogdjaaWFootNe
import Derived.Test.YtkjkbenmoogdjaaWAt
import Derived.Test.YtkjkbenmoogdjaaWEqStruct
import Derived.Test.YtkjkbenmoogdjaaWRepsOne
import Derived.Test.YtkjkbenmoogdjaaWInv
import Derived.Test.YtkjkbenmoogdjaaWInvWords
import Derived.Test.YtkjkbenmoogdjaaWGuard
import Derived.Test.YtkjkbenmoogdjaaWNEv
import Derived.Test.YtkjkbenmoogdjaaWMore
import Derived.LoopIn
import Derived.LoopNIn
import Derived.OwnWalkIn
import Derived.RangeFuncBox
import Derived.RangeFuncCalls
import Derived.RangeFuncLeaves
import Derived.Shelf.Abstract
import Derived.TacticsInMore
import Derived.Lib.Strings
import Derived.Shelf.GgClosure.StringsIndexFunc
import Derived.Test.YtkjkbenmoogdjaaShelf
import Derived.ChangeSame
import Derived.Deep.Slices
import Derived.SizedLaws
import Derived.SliceStrings
namespace Go.Proofs.Ytkjkbenmoogdjaa.X
open Go.RowKit Go.Proofs.YtkjkbenmoogdjaaW.PrintWords Go.Proofs.YtkjkbenmoogdjaaW.PrintLast Go.Proofs.YtkjkbenmoogdjaaW.PrintMore
attribute [local go_sem] max2_int min2_int max_two min_two max_three min_three max_four min_four   -- for this text's walks alone
set_option linter.unusedVariables false
set_option linter.unusedSimpArgs false



def errW : Option Int → Value
  | none => .nilIface
  | some c => .iface 0 (.int .i64 c)
theorem errW_none : errW none = .nilIface := rfl
theorem errW_some (c : Int) : errW (some c) = .iface 0 (.int .i64 c) := rfl

theorem info5 : (Try.prog.info? 5).map (fun i => (i.zero, i.size, i.bytes)) = some (some (.int .u8 0), 1, 1) := by kernel_rfl
theorem info9 : (Try.prog.info? 9).map (fun i => (i.zero, i.size, i.bytes)) = some (some (.string ⟨#[]⟩), 1, 16) := by kernel_rfl
theorem info23 : (Try.prog.info? 23).map (fun i => (i.zero, i.size, i.bytes)) = some (some (.agg #[(.string ⟨#[]⟩), (.string ⟨#[]⟩)]), 2, 32) := by kernel_rfl
-- the values' own types
/-! #### struct type 23 -/
structure S23 where
  f0 : ByteArray
  f1 : ByteArray
def z23 : S23 := ⟨(⟨#[]⟩ : ByteArray), (⟨#[]⟩ : ByteArray)⟩
def k23 : Kd S23 := Kd.iso (Kd.pair Kd.string Kd.string) (fun x : S23 => (x.f0, x.f1))
theorem k23_open {w : World} {x : S23} {cs : List Value} (h : k23.K w x cs) : cs = [.string x.f0, .string x.f1] := by
  obtain ⟨_, _, rfl, rfl, rfl⟩ := h
  exact rfl
theorem k23_openM {w : World} {base : Nat} {ok : Nat → Prop} {x : S23} {cs : List Value} (h : k23.M w base ok x cs) : cs = [.string x.f0, .string x.f1] := by
  obtain ⟨_, _, rfl, rfl, rfl⟩ := h
  exact rfl
theorem k23_mk (w : World) (x : S23)  : k23.K w x [.string x.f0, .string x.f1] := ⟨[.string x.f0], [.string x.f1], rfl, rfl, rfl⟩
theorem k23_mkM (w : World) (base : Nat) (ok : Nat → Prop) (x : S23)  : k23.M w base ok x [.string x.f0, .string x.f1] := ⟨[.string x.f0], [.string x.f1], rfl, rfl, rfl⟩
def rd_T23 (xs : List S23) (i : Int) : S23 := xs.getD i.toNat z23
theorem at_T23 {w : World} {A : Option Addr} {n : Nat} {xs : List S23} (h : Kd.C k23 w A n xs) (i : Int) (h0 : 0 ≤ i) (h1 : i < n) : ∃ ad , A = some ad ∧ w.cell? (ad.add (i.toNat * 2)) = some (.string (rd_T23 xs i).f0) ∧ w.cell? ⟨(ad.add (i.toNat * 2)).block, (ad.add (i.toNat * 2)).off + 1, none⟩ = some (.string (rd_T23 xs i).f1) := by
  obtain ⟨ad, c, e, _, hK, hc0⟩ := Kd.C_get h z23 i h0 h1
  have hc : ∀ j u, c[j]? = some u → w.cell? (ad.add (i.toNat * 2 + j)) = some u := hc0
  obtain rfl := k23_open hK
  exact ⟨ad, e, hc 0 _ rfl, by rw [← add_field _ _ 1 (by omega)]; exact hc 1 _ rfl⟩

end Go.Proofs.Ytkjkbenmoogdjaa.X
namespace Go.Proofs.Ytkjkbenmoogdjaa.X
open Go.RowKit Go.Proofs.YtkjkbenmoogdjaaW.PrintWords Go.Proofs.YtkjkbenmoogdjaaW.PrintLast Go.Proofs.YtkjkbenmoogdjaaW.PrintMore
attribute [local go_sem] max2_int min2_int max_two min_two max_three min_three max_four min_four   -- for this text's walks alone
set_option linter.unusedVariables false
set_option linter.unusedSimpArgs false

/-! ### octet_blank: function 82 -/
def octet_blank.f (a0 : Int) : Option (Bool) := if a0 = 32 then (some true) else (some (a0 == 9))
set_option maxHeartbeats 8000000 in
set_option maxRecDepth 100000 in
theorem octet_blank.calls (a0 : Int) (r : Bool) (w : World) (h : octet_blank.f a0 = some r) :
    Calls Try.prog 82 #[.int .u8 a0] w fun e w' => e = .returned (.bool r) ∧ Drawn0 w w' := by
  have H : (if a0 = 32 then (some true) else (some (a0 == 9))) = some r := h
  clear h
  by_cases c2 : a0 = 32
  · rw [if_pos c2] at H
    have c2b0 : (a0 == 32) = true := beq_iff_eq.mpr c2
    have c2b1 : (a0 != 32) = false := bne_eq_false_iff_eq.mpr c2
    clear c2
    obtain rfl := Option.some.inj H
    go_enter Try.func82, Try.ntmps82
    go_wp2
    go_ret
    exact ⟨by first | rfl | (simp; done) | (simp [*]; done), by repeat (first | exact Drawn0.refl _ | apply Drawn0.step)⟩
  · rw [if_neg c2] at H
    have c2b0 : (a0 == 32) = false := beq_eq_false_iff_ne.mpr c2
    have c2b1 : (a0 != 32) = true := bne_iff_ne.mpr c2
    obtain rfl := Option.some.inj H
    go_enter Try.func82, Try.ntmps82
    go_wp2
    go_ret
    exact ⟨by first | rfl | (simp; done) | (simp [*]; done), by repeat (first | exact Drawn0.refl _ | apply Drawn0.step)⟩

end Go.Proofs.Ytkjkbenmoogdjaa.X
namespace Go.Proofs.Ytkjkbenmoogdjaa.X
open Go.RowKit Go.Proofs.YtkjkbenmoogdjaaW.PrintWords Go.Proofs.YtkjkbenmoogdjaaW.PrintLast Go.Proofs.YtkjkbenmoogdjaaW.PrintMore
attribute [local go_sem] max2_int min2_int max_two min_two max_three min_three max_four min_four   -- for this text's walks alone
set_option linter.unusedVariables false
set_option linter.unusedSimpArgs false

/-! ### octet_Trim: function 49 -/
mutual
def octet_Trim.j1 : Nat → ByteArray → Int → Int → Option (ByteArray)
  | 0, _, _, _ => none
  | k + 1, x0, x3, x4 => octet_Trim.l1 k x0 x3 x4
def octet_Trim.l1 : Nat → ByteArray → Int → Int → Option (ByteArray)
  | 0, _, _, _ => none
  | k + 1, x0, x3, x4 => if x3 < x4 then (if 0 ≤ (wrap64 (x4 - 1)) then (if (wrap64 (x4 - 1)) < (x0.size : Int) then ((octet_blank.f (bt x0 (wrap64 (x4 - 1)))).bind fun t102 => (if t102 = true then (octet_Trim.l1 k x0 x3 (wrap64 (x4 - 1))) else (if 0 ≤ x3 then (if x3 ≤ x4 then (if x4 ≤ (x0.size : Int) then (some (x0.extract (x3 : Int).toNat (x4 : Int).toNat)) else (none)) else (none)) else (none)))) else (none)) else (none)) else (if 0 ≤ x3 then (if x3 ≤ x4 then (if x4 ≤ (x0.size : Int) then (some (x0.extract (x3 : Int).toNat (x4 : Int).toNat)) else (none)) else (none)) else (none))
def octet_Trim.l0 : Nat → ByteArray → Int → Int → Option (ByteArray)
  | 0, _, _, _ => none
  | k + 1, x0, x3, x4 => if x3 < x4 then (if 0 ≤ x3 then (if x3 < (x0.size : Int) then ((octet_blank.f (bt x0 x3)).bind fun t101 => (if t101 = true then (octet_Trim.l0 k x0 (wrap64 (x3 + 1)) x4) else (octet_Trim.j1 k x0 x3 x4))) else (none)) else (none)) else (octet_Trim.j1 k x0 x3 x4)
end
def octet_Trim.f (k : Nat) (a0 : ByteArray) : Option (ByteArray) := octet_Trim.l0 k a0 0 (a0.size : Int)
theorem octet_Trim.mono_l : ∀ k, (∀ y0 y1 y2, LeO (octet_Trim.j1 k y0 y1 y2) (octet_Trim.j1 (k + 1) y0 y1 y2)) ∧ (∀ y0 y1 y2, LeO (octet_Trim.l1 k y0 y1 y2) (octet_Trim.l1 (k + 1) y0 y1 y2)) ∧ (∀ y0 y1 y2, LeO (octet_Trim.l0 k y0 y1 y2) (octet_Trim.l0 (k + 1) y0 y1 y2))
  | 0 => ⟨fun _ _ _ r h => by simp [octet_Trim.j1] at h, fun _ _ _ r h => by simp [octet_Trim.l1] at h, fun _ _ _ r h => by simp [octet_Trim.l0] at h⟩
  | k + 1 => by
    obtain ⟨ih0, ih1, ih2⟩ := octet_Trim.mono_l k
    refine ⟨?_, ?_, ?_⟩
    · intro y0 y1 y2
      unfold octet_Trim.j1
      repeat' first
      | (with_reducible exact ih0 _ _ _)
      | (with_reducible exact ih1 _ _ _)
      | (with_reducible exact ih2 _ _ _)
      | (with_reducible exact LeO.refl _)
      | (with_reducible exact LeO.none _)
      | (with_reducible refine LeO.ite ?_ ?_)
      | (with_reducible refine LeO.bind ?_ (fun _ => ?_))
      | exact ih0 _ _ _
      | exact ih1 _ _ _
      | exact ih2 _ _ _
      | exact LeO.none _
      | refine LeO.ite ?_ ?_
      | refine LeO.bind ?_ (fun _ => ?_)
    · intro y0 y1 y2
      unfold octet_Trim.l1
      repeat' first
      | (with_reducible exact ih0 _ _ _)
      | (with_reducible exact ih1 _ _ _)
      | (with_reducible exact ih2 _ _ _)
      | (with_reducible exact LeO.refl _)
      | (with_reducible exact LeO.none _)
      | (with_reducible refine LeO.ite ?_ ?_)
      | (with_reducible refine LeO.bind ?_ (fun _ => ?_))
      | exact ih0 _ _ _
      | exact ih1 _ _ _
      | exact ih2 _ _ _
      | exact LeO.none _
      | refine LeO.ite ?_ ?_
      | refine LeO.bind ?_ (fun _ => ?_)
    · intro y0 y1 y2
      unfold octet_Trim.l0
      repeat' first
      | (with_reducible exact ih0 _ _ _)
      | (with_reducible exact ih1 _ _ _)
      | (with_reducible exact ih2 _ _ _)
      | (with_reducible exact LeO.refl _)
      | (with_reducible exact LeO.none _)
      | (with_reducible refine LeO.ite ?_ ?_)
      | (with_reducible refine LeO.bind ?_ (fun _ => ?_))
      | exact ih0 _ _ _
      | exact ih1 _ _ _
      | exact ih2 _ _ _
      | exact LeO.none _
      | refine LeO.ite ?_ ?_
      | refine LeO.bind ?_ (fun _ => ?_)
theorem octet_Trim.mono : ∀ a0 k, LeO (octet_Trim.f k a0) (octet_Trim.f (k + 1) a0) := by
  intro a0 k
  obtain ⟨ih0, ih1, ih2⟩ := octet_Trim.mono_l k
  unfold octet_Trim.f
  repeat' first
      | (with_reducible exact ih0 _ _ _)
      | (with_reducible exact ih1 _ _ _)
      | (with_reducible exact ih2 _ _ _)
      | (with_reducible exact LeO.refl _)
      | (with_reducible exact LeO.none _)
      | (with_reducible refine LeO.ite ?_ ?_)
      | (with_reducible refine LeO.bind ?_ (fun _ => ?_))
      | exact ih0 _ _ _
      | exact ih1 _ _ _
      | exact ih2 _ _ _
      | exact LeO.none _
      | refine LeO.ite ?_ ?_
      | refine LeO.bind ?_ (fun _ => ?_)
set_option maxHeartbeats 8000000 in
set_option maxRecDepth 100000 in
theorem octet_Trim.calls (k : Nat) (a0 : ByteArray) (r : ByteArray) (w : World) (h : octet_Trim.f k a0 = some r) :
    Calls Try.prog 49 #[.string a0] w fun e w' => e = .returned (.string r) ∧ Drawn0 w w' := by
  have H : (octet_Trim.l0 k a0 0 (a0.size : Int)) = some r := h
  clear h
  have HC2 := Aside0.mk H
  clear H
  go_enter Try.func49, Try.ntmps49
  go_upto_block 0 with (fail)
  go_cut [3] (fun v3 wc => ∃ (kq : Nat) (x3_1 : Int), v3 = .int .i64 x3_1 ∧ Aside0 (octet_Trim.j1 kq a0 x3_1 (a0.size : Int) = some r) ∧ Aside0 (kq ≤ k) ∧ Drawn0 w wc)
  case first =>
    have H := HC2.out
    clear HC2
    have H' := Aside0.mk H
    clear H
    go_wp2
    go_loopg [3] k (fun kq v3 w' => ∃ (x3_1 : Int), v3 = .int .i64 x3_1 ∧ Aside0 (octet_Trim.l0 kq a0 x3_1 (a0.size : Int) = some r) ∧ Aside0 (kq ≤ k) ∧ Drawn0 w w')
    case atStart => exact ⟨(0), (by first | rfl | (simp; done) | (simp [*]; done)), H', ⟨Nat.le_refl _⟩, by repeat (first | exact Drawn0.refl _ | apply Drawn0.step)⟩
    case round =>
      clear H'
      try clear p2
      obtain ⟨x3_1, rfl, HA, HK1, ⟨m1, rfl⟩⟩ := hrel
      cases gk with
      | zero => exact absurd HA.out (by simp [octet_Trim.l0])
      | succ k1 =>
        have H := HA.out
        clear HA
        simp only [octet_Trim.l0] at H
        by_cases c3 : x3_1 < (a0.size : Int)
        · rw [if_pos c3] at H
          have c3b0 : decide (x3_1 < (a0.size : Int)) = true := decide_eq_true c3
          clear c3
          (first | rw [c3b0] | (simp only [i64_w, i32_w]; rw [c3b0]) | skip)
          by_cases c4 : 0 ≤ x3_1
          · rw [if_pos c4] at H
            have c4b0 : decide (0 ≤ x3_1) = true := decide_eq_true c4
            clear c4
            by_cases c5 : x3_1 < (a0.size : Int)
            · rw [if_pos c5] at H
              have c5b0 : decide (x3_1 < (a0.size : Int)) = true := decide_eq_true c5
              clear c5
              replace H := Option.bind_eq_some_iff.mp H
              obtain ⟨t101, A70, H⟩ := H
              replace H : (if t101 = true then (octet_Trim.l0 k1 a0 (wrap64 (x3_1 + 1)) (a0.size : Int)) else (octet_Trim.j1 k1 a0 x3_1 (a0.size : Int))) = some r := H
              have A7 := Aside0.mk A70
              clear A70
              by_cases c8 : t101 = true
              · subst c8
                have H1 : (octet_Trim.l0 k1 a0 (wrap64 (x3_1 + 1)) (a0.size : Int)) = some r := by rw [if_pos rfl] at H; exact H
                clear H
                have H := H1
                clear H1
                have H' := Aside0.mk H
                clear H
                have p6 : 0 ≤ (x3_1 : Int) := of_decide_eq_true (by first | (with_reducible assumption) | assumption)
                have q6 : x3_1 < (a0.size : Int) := of_decide_eq_true (by first | (with_reducible assumption) | assumption)
                have hx6 := bt_at a0 x3_1
                replace p6 := eq_true p6
                replace q6 := eq_true q6
                go_wp2_with (first | (go_at_call 82; (with_reducible refine (octet_blank.calls (bt a0 x3_1) true _ A7.out).mono ?_); rintro e w' ⟨rfl, ⟨nd, rfl⟩⟩))
                go_roundg k1
                case measure => have := HK1.out; omega
                case rel => exact ⟨(wrap64 (x3_1 + 1)), (by first | rfl | (simp; done) | (simp [*]; done)), H', ⟨by have := HK1.out; omega⟩, by repeat (first | exact Drawn0.refl _ | apply Drawn0.step)⟩
              · replace c8 := Bool.eq_false_iff.mpr c8
                subst c8
                have H1 : (octet_Trim.j1 k1 a0 x3_1 (a0.size : Int)) = some r := by rw [if_neg (show ¬ (false = true) by decide)] at H; exact H
                clear H
                have H := H1
                clear H1
                have H' := Aside0.mk H
                clear H
                have p6 : 0 ≤ (x3_1 : Int) := of_decide_eq_true (by first | (with_reducible assumption) | assumption)
                have q6 : x3_1 < (a0.size : Int) := of_decide_eq_true (by first | (with_reducible assumption) | assumption)
                have hx6 := bt_at a0 x3_1
                replace p6 := eq_true p6
                replace q6 := eq_true q6
                go_wp2_with (first | (go_at_call 82; (with_reducible refine (octet_blank.calls (bt a0 x3_1) false _ A7.out).mono ?_); rintro e w' ⟨rfl, ⟨nd, rfl⟩⟩))
                go_meet
                case rel => exact ⟨_, (x3_1), (by first | rfl | (simp; done) | (simp [*]; done)), H', ⟨by have := HK1.out; first | omega | exact Nat.le_refl _⟩, by repeat (first | exact Drawn0.refl _ | apply Drawn0.step)⟩
            · rw [if_neg c5] at H
              exact absurd H (by simp)
          · rw [if_neg c4] at H
            exact absurd H (by simp)
        · rw [if_neg c3] at H
          have c3b0 : decide (x3_1 < (a0.size : Int)) = false := decide_eq_false c3
          clear c3
          (first | rw [c3b0] | (simp only [i64_w, i32_w]; rw [c3b0]) | skip)
          have H' := Aside0.mk H
          clear H
          go_wp2
          go_meet
          case rel => exact ⟨_, (x3_1), (by first | rfl | (simp; done) | (simp [*]; done)), H', ⟨by have := HK1.out; first | omega | exact Nat.le_refl _⟩, by repeat (first | exact Drawn0.refl _ | apply Drawn0.step)⟩
  case rest =>
    clear HC2
    try clear p2
    try clear c3
    try clear c3b0
    try clear c4
    try clear c4b0
    try clear c5
    try clear c5b0
    try clear p6
    try clear q6
    try clear hx6
    try clear c8
    try clear p2
    try clear p6
    try clear q6
    obtain ⟨kq, x3_1, rfl, HA, HJ1, ⟨mc1, rfl⟩⟩ := hcut
    cases kq with
    | zero => exact absurd HA.out (by simp [octet_Trim.j1])
    | succ kj1 =>
      have H := HA.out
      clear HA
      simp only [octet_Trim.j1] at H
      have H' := Aside0.mk H
      clear H
      go_wp2
      go_loopg [4] kj1 (fun kq v4 w' => ∃ (x4_2 : Int), v4 = .int .i64 x4_2 ∧ Aside0 (octet_Trim.l1 kq a0 x3_1 x4_2 = some r) ∧ Aside0 (kq ≤ kj1) ∧ Drawn0 w w')
      case atStart => exact ⟨((a0.size : Int)), (by first | rfl | (simp; done) | (simp [*]; done)), H', ⟨Nat.le_refl _⟩, by repeat (first | exact Drawn0.refl _ | apply Drawn0.step)⟩
      case round =>
        clear H'
        try clear c1
        try clear p2
        try clear c3
        try clear c3b0
        try clear c4
        try clear c4b0
        try clear c5
        try clear c5b0
        try clear p6
        try clear q6
        try clear hx6
        try clear c8
        try clear p2
        try clear p6
        try clear q6
        obtain ⟨x4_2, rfl, HA, HK2, ⟨m2, rfl⟩⟩ := hrel
        cases gk with
        | zero => exact absurd HA.out (by simp [octet_Trim.l1])
        | succ k2 =>
          have H := HA.out
          clear HA
          simp only [octet_Trim.l1] at H
          by_cases c9 : x3_1 < x4_2
          · rw [if_pos c9] at H
            have c9b0 : decide (x3_1 < x4_2) = true := decide_eq_true c9
            clear c9
            obtain ⟨ji10, hji10⟩ : ∃ j_ : Int, (wrap64 (x4_2 - 1)) = j_ := ⟨_, rfl⟩
            replace H : (if 0 ≤ (ji10) then (if (ji10) < (a0.size : Int) then ((octet_blank.f (bt a0 (ji10))).bind fun t102 => (if t102 = true then (octet_Trim.l1 k2 a0 x3_1 ji10) else (if 0 ≤ x3_1 then (if x3_1 ≤ x4_2 then (if x4_2 ≤ (a0.size : Int) then (some (a0.extract (x3_1 : Int).toNat (x4_2 : Int).toNat)) else (none)) else (none)) else (none)))) else (none)) else (none)) = some r := by first | (rw [hji10] at H; exact H) | (simp only [hji10] at H ⊢; exact H)
            have hji10w : (IntKind.i64.wrap (x4_2 - 1)) = ji10 := (i64_w _).trans hji10
            by_cases c11 : 0 ≤ (ji10)
            · rw [if_pos c11] at H
              have c11b0 : decide (0 ≤ (ji10)) = true := decide_eq_true c11
              clear c11
              by_cases c12 : (ji10) < (a0.size : Int)
              · rw [if_pos c12] at H
                have c12b0 : decide ((ji10) < (a0.size : Int)) = true := decide_eq_true c12
                clear c12
                replace H := Option.bind_eq_some_iff.mp H
                obtain ⟨t102, A140, H⟩ := H
                replace H : (if t102 = true then (octet_Trim.l1 k2 a0 x3_1 ji10) else (if 0 ≤ x3_1 then (if x3_1 ≤ x4_2 then (if x4_2 ≤ (a0.size : Int) then (some (a0.extract (x3_1 : Int).toNat (x4_2 : Int).toNat)) else (none)) else (none)) else (none))) = some r := H
                have A14 := Aside0.mk A140
                clear A140
                by_cases c15 : t102 = true
                · subst c15
                  have H1 : (octet_Trim.l1 k2 a0 x3_1 ji10) = some r := by rw [if_pos rfl] at H; exact H
                  clear H
                  have H := H1
                  clear H1
                  have H' := Aside0.mk H
                  clear H
                  have p13 : 0 ≤ ((ji10) : Int) := of_decide_eq_true (by first | (with_reducible assumption) | assumption)
                  have q13 : (ji10) < (a0.size : Int) := of_decide_eq_true (by first | (with_reducible assumption) | assumption)
                  have hx13 := bt_at a0 (ji10)
                  replace p13 := eq_true p13
                  replace q13 := eq_true q13
                  go_wp2_with (first | (go_at_call 82; (with_reducible refine (octet_blank.calls (bt a0 (ji10)) true _ A14.out).mono ?_); rintro e w' ⟨rfl, ⟨nd, rfl⟩⟩))
                  go_roundg k2
                  case measure => have := HJ1.out; have := HK2.out; omega
                  case rel => exact ⟨(ji10), (by first | rfl | (simp; done) | (simp only [← hji10] <;> (first | rfl | simp)) | (simp [*]; done)), H', ⟨by have := HJ1.out; have := HK2.out; omega⟩, by repeat (first | exact Drawn0.refl _ | apply Drawn0.step)⟩
                · replace c15 := Bool.eq_false_iff.mpr c15
                  subst c15
                  have H1 : (if 0 ≤ x3_1 then (if x3_1 ≤ x4_2 then (if x4_2 ≤ (a0.size : Int) then (some (a0.extract (x3_1 : Int).toNat (x4_2 : Int).toNat)) else (none)) else (none)) else (none)) = some r := by rw [if_neg (show ¬ (false = true) by decide)] at H; exact H
                  clear H
                  have H := H1
                  clear H1
                  by_cases c16 : 0 ≤ x3_1
                  · rw [if_pos c16] at H
                    have c16b0 := eq_true c16
                    have c16b1 : decide (0 ≤ x3_1) = true := decide_eq_true c16
                    clear c16
                    by_cases c17 : x3_1 ≤ x4_2
                    · rw [if_pos c17] at H
                      have c17b0 := eq_true c17
                      have c17b1 : decide (x3_1 ≤ x4_2) = true := decide_eq_true c17
                      clear c17
                      by_cases c18 : x4_2 ≤ (a0.size : Int)
                      · rw [if_pos c18] at H
                        have c18b0 := eq_true c18
                        have c18b1 : decide (x4_2 ≤ (a0.size : Int)) = true := decide_eq_true c18
                        clear c18
                        obtain rfl := Option.some.inj H
                        have p13 : 0 ≤ ((ji10) : Int) := of_decide_eq_true (by first | (with_reducible assumption) | assumption)
                        have q13 : (ji10) < (a0.size : Int) := of_decide_eq_true (by first | (with_reducible assumption) | assumption)
                        have hx13 := bt_at a0 (ji10)
                        replace p13 := eq_true p13
                        replace q13 := eq_true q13
                        go_wp2_with (first | (go_at_call 82; (with_reducible refine (octet_blank.calls (bt a0 (ji10)) false _ A14.out).mono ?_); rintro e w' ⟨rfl, ⟨nd, rfl⟩⟩))
                        go_ret
                        exact ⟨by first | rfl | (simp; done) | (simp only [← hji10] <;> (first | rfl | simp)) | (simp [*]; done), by repeat (first | exact Drawn0.refl _ | apply Drawn0.step)⟩
                      · rw [if_neg c18] at H
                        exact absurd H (by simp)
                    · rw [if_neg c17] at H
                      exact absurd H (by simp)
                  · rw [if_neg c16] at H
                    exact absurd H (by simp)
              · rw [if_neg c12] at H
                exact absurd H (by simp)
            · rw [if_neg c11] at H
              exact absurd H (by simp)
          · rw [if_neg c9] at H
            have c9b0 : decide (x3_1 < x4_2) = false := decide_eq_false c9
            clear c9
            by_cases c19 : 0 ≤ x3_1
            · rw [if_pos c19] at H
              have c19b0 := eq_true c19
              have c19b1 : decide (0 ≤ x3_1) = true := decide_eq_true c19
              clear c19
              by_cases c20 : x3_1 ≤ x4_2
              · rw [if_pos c20] at H
                have c20b0 := eq_true c20
                have c20b1 : decide (x3_1 ≤ x4_2) = true := decide_eq_true c20
                clear c20
                by_cases c21 : x4_2 ≤ (a0.size : Int)
                · rw [if_pos c21] at H
                  have c21b0 := eq_true c21
                  have c21b1 : decide (x4_2 ≤ (a0.size : Int)) = true := decide_eq_true c21
                  clear c21
                  obtain rfl := Option.some.inj H
                  go_wp2
                  go_ret
                  exact ⟨by first | rfl | (simp; done) | (simp [*]; done), by repeat (first | exact Drawn0.refl _ | apply Drawn0.step)⟩
                · rw [if_neg c21] at H
                  exact absurd H (by simp)
              · rw [if_neg c20] at H
                exact absurd H (by simp)
            · rw [if_neg c19] at H
              exact absurd H (by simp)

end Go.Proofs.Ytkjkbenmoogdjaa.X
namespace Go.Proofs.Ytkjkbenmoogdjaa.X
open Go.RowKit Go.Proofs.YtkjkbenmoogdjaaW.PrintWords Go.Proofs.YtkjkbenmoogdjaaW.PrintLast Go.Proofs.YtkjkbenmoogdjaaW.PrintMore
attribute [local go_sem] max2_int min2_int max_two min_two max_three min_three max_four min_four   -- for this text's walks alone
set_option linter.unusedVariables false
set_option linter.unusedSimpArgs false

/-- A state of type 87 at block g of W; what its slices lead to came in by w0. -/
def IsS87 (w0 W : World) (g : Nat) (f0 : Bool) (f1 : Bool) (f2 : Int) : Prop := W.heap[g]? = some (.cells #[.bool f0, .bool f1, .int .i64 f2] 87 (0, 0)) ∧ w0.heap.size ≤ g
theorem IsS87.grown {w0 W : World} {g : Nat} {f0 : Bool} {f1 : Bool} {f2 : Int} {W1 : World} {row : Option Nat} (h : IsS87 w0 W g f0 f1 f2) (hw : W.grownBy W1 row) (hne : some g ≠ row) : IsS87 w0 W1 g f0 f1 f2 := by
  obtain ⟨hb, hg⟩ := h
  exact ⟨blk_grown hb hw hne, hg⟩
theorem IsS87.own_neN {w0 W : World} {g : Nat} {f0 : Bool} {f1 : Bool} {f2 : Int} {α : Type} {d : Kd α} {e : Nat} {base : Nat} {ok : Nat → Prop} {v : Value} {xs : List α} (h : IsS87 w0 W g f0 f1 f2) (ho : Kd.N d e W base ok v xs) (ht : e ≠ 87) : some g ≠ v.ownBlock := by
  obtain ⟨hb, hg⟩ := h
  exact Kd.N_ne ho hb ht
theorem IsS87.fresh {w0 W : World} {g : Nat} {f0 : Bool} {f1 : Bool} {f2 : Int} (h : IsS87 w0 W g f0 f1 f2) : ∀ k, W.heap.size ≤ k → k ≠ g := by
  obtain ⟨hb, hg⟩ := h
  exact Kd.freshB hb
theorem IsS87.kept {w0 W : World} {g : Nat} {f0 : Bool} {f1 : Bool} {f2 : Int} {W1 : World} {S : Nat → Prop} (h : IsS87 w0 W g f0 f1 f2) (hk : Kept W W1 S) (hne : ¬ S g) : IsS87 w0 W1 g f0 f1 f2 := by
  obtain ⟨hb, hg⟩ := h
  exact ⟨blk_kept hb hk hne, hg⟩
theorem IsS87.below {w0 W : World} {g : Nat} {f0 : Bool} {f1 : Bool} {f2 : Int} {W1 : World} (h : IsS87 w0 W g f0 f1 f2) (hw : Below W.heap.size W W1) : IsS87 w0 W1 g f0 f1 f2 := h.grown (grown_of_below hw none) (by simp)
theorem IsS87.alloc {w0 W : World} {g : Nat} {f0 : Bool} {f1 : Bool} {f2 : Int} (h : IsS87 w0 W g f0 f1 f2) (o : Obj) : IsS87 w0 (W.alloc o) g f0 f1 f2 := h.below (below_alloc (Below.refl _ _) o)
theorem IsS87.drewN {w0 W : World} {g : Nat} {f0 : Bool} {f1 : Bool} {f2 : Int} (h : IsS87 w0 W g f0 f1 f2) (m : Nat) : IsS87 w0 (W.drewN m) g f0 f1 f2 := h
theorem IsS87.drew {w0 W : World} {g : Nat} {f0 : Bool} {f1 : Bool} {f2 : Int} (h : IsS87 w0 W g f0 f1 f2) : IsS87 w0 W.drew g f0 f1 f2 := h
theorem IsS87.at_ {w0 W : World} {g : Nat} {f0 : Bool} {f1 : Bool} {f2 : Int} {w' : World} {m : Nat} (hq : W.drewN m = w') (h : IsS87 w0 W g f0 f1 f2) : IsS87 w0 w' g f0 f1 f2 := by subst hq; exact IsS87.drewN h m
theorem IsS87.apart {w0 W : World} {g : Nat} {f0 : Bool} {f1 : Bool} {f2 : Int} {α : Type} {d : Kd α} {e : Nat} {base : Nat} {ok : Nat → Prop} {v : Value} {xs : List α} (h : IsS87 w0 W g f0 f1 f2) (ho : d.R e W base ok v xs) (ht : ∀ q, q ∈ e :: d.E → q ≠ 87) : d.R e W base (fun k => ok k ∧ k ≠ g) v xs := by
  obtain ⟨hb, hg⟩ := h
  exact Kd.R_types ho hb ht
theorem IsS87.own_ne {w0 W : World} {g : Nat} {f0 : Bool} {f1 : Bool} {f2 : Int} {α : Type} {d : Kd α} {e : Nat} {base : Nat} {ok : Nat → Prop} {v : Value} {xs : List α} (h : IsS87 w0 W g f0 f1 f2) (ho : d.R e W base ok v xs) (ht : e ≠ 87) : some g ≠ v.ownBlock := by
  obtain ⟨hb, hg⟩ := h
  exact Kd.R_ne ho hb ht
theorem IsS87.apartQ {w0 W : World} {g : Nat} {f0 : Bool} {f1 : Bool} {f2 : Int} {α : Type} {d : Kd α} {e : Nat} {base : Nat} {ok : Nat → Prop} {v : Value} {xs : List α} (h : IsS87 w0 W g f0 f1 f2) (ho : d.Q e W base ok v xs) (ht : ∀ q, q ∈ e :: d.E → q ≠ 87) : d.Q e W base (fun k => ok k ∧ k ≠ g) v xs := by
  obtain ⟨hb, hg⟩ := h
  exact Kd.Q_types ho hb ht
theorem IsS87.own_neQ {w0 W : World} {g : Nat} {f0 : Bool} {f1 : Bool} {f2 : Int} {α : Type} {d : Kd α} {e : Nat} {base : Nat} {ok : Nat → Prop} {v : Value} {xs : List α} (h : IsS87 w0 W g f0 f1 f2) (ho : d.Q e W base ok v xs) (ht : e ≠ 87) : some g ≠ v.ownBlock := by
  obtain ⟨hb, hg⟩ := h
  exact Kd.Q_ne ho hb ht
theorem IsS87.apartS {w0 W : World} {g : Nat} {f0 : Bool} {f1 : Bool} {f2 : Int} {α : Type} {d : Kd α} {e : Nat} {base : Nat} {ok : Nat → Prop} {v : Value} {xs : List α} (h : IsS87 w0 W g f0 f1 f2) (ho : d.S e W base ok v xs) (ht : ∀ q, q ∈ e :: d.E → q ≠ 87) : d.S e W base (fun k => ok k ∧ k ≠ g) v xs := by
  obtain ⟨hb, hg⟩ := h
  exact Kd.S_types ho hb ht
theorem IsS87.own_neS {w0 W : World} {g : Nat} {f0 : Bool} {f1 : Bool} {f2 : Int} {α : Type} {d : Kd α} {e : Nat} {base : Nat} {ok : Nat → Prop} {v : Value} {xs : List α} (h : IsS87 w0 W g f0 f1 f2) (ho : d.S e W base ok v xs) (ht : e ≠ 87) : some g ≠ v.ownBlock := by
  obtain ⟨hb, hg⟩ := h
  exact Kd.S_ne ho hb ht
theorem IsS87.lt {w0 W : World} {g : Nat} {f0 : Bool} {f1 : Bool} {f2 : Int} (h : IsS87 w0 W g f0 f1 f2) : g < W.heap.size := by
  obtain ⟨hb, hg⟩ := h
  exact blk_lt hb
theorem IsS87.ge {w0 W : World} {g : Nat} {f0 : Bool} {f1 : Bool} {f2 : Int} (h : IsS87 w0 W g f0 f1 f2) : w0.heap.size ≤ g := by
  obtain ⟨hb, hg⟩ := h
  exact hg
theorem IsS87.ne_blk {w0 W : World} {g : Nat} {f0 : Bool} {f1 : Bool} {f2 : Int} {a : Nat} {cs : Array Value} {t : TypeId} {fr : Nat × Nat} (h : IsS87 w0 W g f0 f1 f2) (hb2 : W.heap[a]? = some (.cells cs t fr)) (ht : t ≠ 87) : g ≠ a := by
  obtain ⟨hb, hg⟩ := h
  rintro rfl
  rw [hb] at hb2
  injection hb2 with hb2
  injection hb2 with _ ht2
  exact ht ht2.symm
theorem IsS87.far {w0 W : World} {g : Nat} {f0 : Bool} {f1 : Bool} {f2 : Int} {p : Addr} (h : IsS87 w0 W g f0 f1 f2) (hne : g ≠ p.block) (u : Value) : IsS87 w0 (W.setCell p u) g f0 f1 f2 := by
  obtain ⟨hb, hg⟩ := h
  exact ⟨blk_far hb hne u, hg⟩
theorem cellS87_0 {W : World} {g : Nat} {f0 : Bool} {f1 : Bool} {f2 : Int} (h : W.heap[g]? = some (.cells #[.bool f0, .bool f1, .int .i64 f2] 87 (0, 0))) : W.cell? ⟨g, 0, none⟩ = some (.bool f0) := (blk_cell h 0).trans rfl
theorem IsS87.set_0 {w0 W : World} {g : Nat} {f0 : Bool} {f1 : Bool} {f2 : Int} (h : IsS87 w0 W g f0 f1 f2) (x : Bool) : IsS87 w0 (W.setCell ⟨g, 0, none⟩ (.bool x)) g x f1 f2 := by
  obtain ⟨hb, hg⟩ := h
  exact ⟨by simpa using blk_set hb 0 (.bool x), hg⟩
theorem cellS87_1 {W : World} {g : Nat} {f0 : Bool} {f1 : Bool} {f2 : Int} (h : W.heap[g]? = some (.cells #[.bool f0, .bool f1, .int .i64 f2] 87 (0, 0))) : W.cell? ⟨g, 1, none⟩ = some (.bool f1) := (blk_cell h 1).trans rfl
theorem IsS87.set_1 {w0 W : World} {g : Nat} {f0 : Bool} {f1 : Bool} {f2 : Int} (h : IsS87 w0 W g f0 f1 f2) (x : Bool) : IsS87 w0 (W.setCell ⟨g, 1, none⟩ (.bool x)) g f0 x f2 := by
  obtain ⟨hb, hg⟩ := h
  exact ⟨by simpa using blk_set hb 1 (.bool x), hg⟩
theorem cellS87_2 {W : World} {g : Nat} {f0 : Bool} {f1 : Bool} {f2 : Int} (h : W.heap[g]? = some (.cells #[.bool f0, .bool f1, .int .i64 f2] 87 (0, 0))) : W.cell? ⟨g, 2, none⟩ = some (.int .i64 f2) := (blk_cell h 2).trans rfl
theorem IsS87.set_2 {w0 W : World} {g : Nat} {f0 : Bool} {f1 : Bool} {f2 : Int} (h : IsS87 w0 W g f0 f1 f2) (x : Int) : IsS87 w0 (W.setCell ⟨g, 2, none⟩ (.int .i64 x)) g f0 f1 x := by
  obtain ⟨hb, hg⟩ := h
  exact ⟨by simpa using blk_set hb 2 (.int .i64 x), hg⟩
theorem IsS87.new (w0 W : World) (f0 : Bool) (f1 : Bool) (f2 : Int) (hB : Below w0.heap.size w0 W) : IsS87 w0 (W.alloc (.cells #[.bool f0, .bool f1, .int .i64 f2] 87)) W.heap.size f0 f1 f2 := ⟨by simpa using heap_alloc_new W _, hB.size⟩

/-! ### lists_scan_see: function 84 -/
def lists_scan_see.j0 : Nat → Int → Bool → Bool → Bool → Int → Option (Bool × Bool × Int)
  | 0, _, _, _, _, _ => none
  | k + 1, x1, x49, x1000, x1001, x1002 => if x49 = true then (some (x1000, x1001, wrap64 (x1002 - 1))) else (if x1002 = 0 then (if x1 = 34 then (some (true, x1001, x1002)) else (some (x1000, x1001, x1002))) else (some (x1000, x1001, x1002)))
def lists_scan_see.f (k : Nat) (s0_0 : Bool) (s0_1 : Bool) (s0_2 : Int) (a1 : Int) : Option (Bool × Bool × Int) := if s0_1 = true then (some (s0_0, false, s0_2)) else (if a1 = 92 then (if s0_0 = true then (some (s0_0, true, s0_2)) else (some (s0_0, decide (s0_2 > 0), s0_2))) else (if s0_0 = true then (some ((a1 != 34), s0_1, s0_2)) else (if a1 = 40 then (some (s0_0, s0_1, wrap64 (s0_2 + 1))) else (if s0_2 > 0 then (lists_scan_see.j0 k a1 (a1 == 41) s0_0 s0_1 s0_2) else (lists_scan_see.j0 k a1 false s0_0 s0_1 s0_2)))))
theorem lists_scan_see.mono_l : ∀ k, (∀ y0 y1 y2 y3 y4, LeO (lists_scan_see.j0 k y0 y1 y2 y3 y4) (lists_scan_see.j0 (k + 1) y0 y1 y2 y3 y4))
  | 0 => fun _ _ _ _ _ r h => by simp [lists_scan_see.j0] at h
  | k + 1 => by
    have ih0 := lists_scan_see.mono_l k
    · intro y0 y1 y2 y3 y4
      unfold lists_scan_see.j0
      repeat' first
      | (with_reducible exact ih0 _ _ _ _ _)
      | (with_reducible exact LeO.refl _)
      | (with_reducible exact LeO.none _)
      | (with_reducible refine LeO.ite ?_ ?_)
      | (with_reducible refine LeO.bind ?_ (fun _ => ?_))
      | exact ih0 _ _ _ _ _
      | exact LeO.none _
      | refine LeO.ite ?_ ?_
      | refine LeO.bind ?_ (fun _ => ?_)
theorem lists_scan_see.mono : ∀ a0 a1 a2 a3 k, LeO (lists_scan_see.f k a0 a1 a2 a3) (lists_scan_see.f (k + 1) a0 a1 a2 a3) := by
  intro a0 a1 a2 a3 k
  have ih0 := lists_scan_see.mono_l k
  unfold lists_scan_see.f
  repeat' first
      | (with_reducible exact ih0 _ _ _ _ _)
      | (with_reducible exact LeO.refl _)
      | (with_reducible exact LeO.none _)
      | (with_reducible refine LeO.ite ?_ ?_)
      | (with_reducible refine LeO.bind ?_ (fun _ => ?_))
      | exact ih0 _ _ _ _ _
      | exact LeO.none _
      | refine LeO.ite ?_ ?_
      | refine LeO.bind ?_ (fun _ => ?_)
set_option maxHeartbeats 8000000 in
set_option maxRecDepth 100000 in
theorem lists_scan_see.calls (k : Nat) (g : Nat) (s0_0 : Bool) (s0_1 : Bool) (s0_2 : Int) (a1 : Int) (r1 : Bool) (r2 : Bool) (r3 : Int) (w0 w : World) (hI : IsS87 w0 w g s0_0 s0_1 s0_2) (hB : Below w0.heap.size w0 w) (h : lists_scan_see.f k s0_0 s0_1 s0_2 a1 = some (r1, r2, r3)) :
    Calls Try.prog 84 #[.pointer (some ⟨g, 0, none⟩), .int .u8 a1] w fun e w' => e = .returned (.tuple #[]) ∧ IsS87 w0 w' g r1 r2 r3 ∧ Below w0.heap.size w0 w' ∧ KeepBut w w' g none := by
  have HI0 := Aside0.mk hI
  have HK := Aside0.mk (KeepBut.refl w g none)
  have HL := Aside0.mk hB.size
  clear hI
  have HW0 := Aside0.mk hB.size
  have HB := Aside0.mk hB
  clear hB
  have H : (if s0_1 = true then (some (s0_0, false, s0_2)) else (if a1 = 92 then (if s0_0 = true then (some (s0_0, true, s0_2)) else (some (s0_0, decide (s0_2 > 0), s0_2))) else (if s0_0 = true then (some ((a1 != 34), s0_1, s0_2)) else (if a1 = 40 then (some (s0_0, s0_1, wrap64 (s0_2 + 1))) else (if s0_2 > 0 then (lists_scan_see.j0 k a1 (a1 == 41) s0_0 s0_1 s0_2) else (lists_scan_see.j0 k a1 false s0_0 s0_1 s0_2)))))) = some (r1, r2, r3) := h
  clear h
  by_cases c3 : s0_1 = true
  · subst c3
    have H1 : (some (s0_0, false, s0_2)) = some (r1, r2, r3) := by rw [if_pos rfl] at H; exact H
    clear H
    have H := H1
    clear H1
    simp only [Option.some.injEq, Prod.mk.injEq] at H
    obtain ⟨rfl, rfl, rfl⟩ := H
    obtain ⟨HGz4, hgz4⟩ := HI0.out
    have hcz4_0 := cellS87_0 HGz4
    have hcz4_1 := cellS87_1 HGz4
    have hcz4_2 := cellS87_2 HGz4
    have hfz4_0 := blk_frozen HGz4 0
    have hfz4_1 := blk_frozen HGz4 1
    have hfz4_2 := blk_frozen HGz4 2
    clear HGz4 hgz4
    go_enter Try.func84, Try.ntmps84
    go_wp2
    first | go_end0 | ((try simp only [Exit.inBlock, Exit.then]); refine bodyPost_ret (results_none rfl _ _ _) rfl ?_)
    exact ⟨by first | rfl | (simp [errW_none, errW_some] <;> rfl) | (simp [*, errW_none, errW_some] <;> rfl), by repeat (first | (with_reducible first | exact HI0.out | apply IsS87.alloc | apply IsS87.drewN | apply IsS87.drew | apply IsS87.set_0 | apply IsS87.set_1 | apply IsS87.set_2) | exact HI0.out), by repeat (first | (with_reducible first | exact HB.out | apply below_alloc | apply pw_below_drewN | apply below_drew1 | refine below_set ?_ (IsS87.ge HI0.out)) | exact HB.out), by repeat (first | (with_reducible first | exact HK.out | apply KeepBut.set_ | apply keep_drewN | apply keep_drew | apply keep_alloc) | exact HK.out)⟩
  · replace c3 := Bool.eq_false_iff.mpr c3
    subst c3
    have H1 : (if a1 = 92 then (if s0_0 = true then (some (s0_0, true, s0_2)) else (some (s0_0, decide (s0_2 > 0), s0_2))) else (if s0_0 = true then (some ((a1 != 34), false, s0_2)) else (if a1 = 40 then (some (s0_0, false, wrap64 (s0_2 + 1))) else (if s0_2 > 0 then (lists_scan_see.j0 k a1 (a1 == 41) s0_0 false s0_2) else (lists_scan_see.j0 k a1 false s0_0 false s0_2))))) = some (r1, r2, r3) := by rw [if_neg (show ¬ (false = true) by decide)] at H; exact H
    clear H
    have H := H1
    clear H1
    by_cases c5 : a1 = 92
    · rw [if_pos c5] at H
      have c5b0 : (a1 == 92) = true := beq_iff_eq.mpr c5
      have c5b1 : (a1 != 92) = false := bne_eq_false_iff_eq.mpr c5
      clear c5
      by_cases c6 : s0_0 = true
      · subst c6
        have H1 : (some (true, true, s0_2)) = some (r1, r2, r3) := by rw [if_pos rfl] at H; exact H
        clear H
        have H := H1
        clear H1
        simp only [Option.some.injEq, Prod.mk.injEq] at H
        obtain ⟨rfl, rfl, rfl⟩ := H
        obtain ⟨HGz7, hgz7⟩ := HI0.out
        have hcz7_0 := cellS87_0 HGz7
        have hcz7_1 := cellS87_1 HGz7
        have hcz7_2 := cellS87_2 HGz7
        have hfz7_0 := blk_frozen HGz7 0
        have hfz7_1 := blk_frozen HGz7 1
        have hfz7_2 := blk_frozen HGz7 2
        clear HGz7 hgz7
        go_enter Try.func84, Try.ntmps84
        go_wp2
        first | go_end0 | ((try simp only [Exit.inBlock, Exit.then]); refine bodyPost_ret (results_none rfl _ _ _) rfl ?_)
        exact ⟨by first | rfl | (simp [errW_none, errW_some] <;> rfl) | (simp [*, errW_none, errW_some] <;> rfl), by repeat (first | (with_reducible first | exact HI0.out | apply IsS87.alloc | apply IsS87.drewN | apply IsS87.drew | apply IsS87.set_0 | apply IsS87.set_1 | apply IsS87.set_2) | exact HI0.out), by repeat (first | (with_reducible first | exact HB.out | apply below_alloc | apply pw_below_drewN | apply below_drew1 | refine below_set ?_ (IsS87.ge HI0.out)) | exact HB.out), by repeat (first | (with_reducible first | exact HK.out | apply KeepBut.set_ | apply keep_drewN | apply keep_drew | apply keep_alloc) | exact HK.out)⟩
      · replace c6 := Bool.eq_false_iff.mpr c6
        subst c6
        have H1 : (some (false, decide (s0_2 > 0), s0_2)) = some (r1, r2, r3) := by rw [if_neg (show ¬ (false = true) by decide)] at H; exact H
        clear H
        have H := H1
        clear H1
        simp only [Option.some.injEq, Prod.mk.injEq] at H
        obtain ⟨rfl, rfl, rfl⟩ := H
        obtain ⟨HGz8, hgz8⟩ := HI0.out
        have hcz8_0 := cellS87_0 HGz8
        have hcz8_1 := cellS87_1 HGz8
        have hcz8_2 := cellS87_2 HGz8
        have hfz8_0 := blk_frozen HGz8 0
        have hfz8_1 := blk_frozen HGz8 1
        have hfz8_2 := blk_frozen HGz8 2
        clear HGz8 hgz8
        go_enter Try.func84, Try.ntmps84
        go_wp2
        first | go_end0 | ((try simp only [Exit.inBlock, Exit.then]); refine bodyPost_ret (results_none rfl _ _ _) rfl ?_)
        exact ⟨by first | rfl | (simp [errW_none, errW_some] <;> rfl) | (simp [*, errW_none, errW_some] <;> rfl), by repeat (first | (with_reducible first | exact HI0.out | apply IsS87.alloc | apply IsS87.drewN | apply IsS87.drew | apply IsS87.set_0 | apply IsS87.set_1 | apply IsS87.set_2) | exact HI0.out), by repeat (first | (with_reducible first | exact HB.out | apply below_alloc | apply pw_below_drewN | apply below_drew1 | refine below_set ?_ (IsS87.ge HI0.out)) | exact HB.out), by repeat (first | (with_reducible first | exact HK.out | apply KeepBut.set_ | apply keep_drewN | apply keep_drew | apply keep_alloc) | exact HK.out)⟩
    · rw [if_neg c5] at H
      have c5b0 : (a1 == 92) = false := beq_eq_false_iff_ne.mpr c5
      have c5b1 : (a1 != 92) = true := bne_iff_ne.mpr c5
      by_cases c9 : s0_0 = true
      · subst c9
        have H1 : (some ((a1 != 34), false, s0_2)) = some (r1, r2, r3) := by rw [if_pos rfl] at H; exact H
        clear H
        have H := H1
        clear H1
        simp only [Option.some.injEq, Prod.mk.injEq] at H
        obtain ⟨rfl, rfl, rfl⟩ := H
        obtain ⟨HGz10, hgz10⟩ := HI0.out
        have hcz10_0 := cellS87_0 HGz10
        have hcz10_1 := cellS87_1 HGz10
        have hcz10_2 := cellS87_2 HGz10
        have hfz10_0 := blk_frozen HGz10 0
        have hfz10_1 := blk_frozen HGz10 1
        have hfz10_2 := blk_frozen HGz10 2
        clear HGz10 hgz10
        go_enter Try.func84, Try.ntmps84
        go_wp2
        first | go_end0 | ((try simp only [Exit.inBlock, Exit.then]); refine bodyPost_ret (results_none rfl _ _ _) rfl ?_)
        exact ⟨by first | rfl | (simp [errW_none, errW_some] <;> rfl) | (simp [*, errW_none, errW_some] <;> rfl), by repeat (first | (with_reducible first | exact HI0.out | apply IsS87.alloc | apply IsS87.drewN | apply IsS87.drew | apply IsS87.set_0 | apply IsS87.set_1 | apply IsS87.set_2) | exact HI0.out), by repeat (first | (with_reducible first | exact HB.out | apply below_alloc | apply pw_below_drewN | apply below_drew1 | refine below_set ?_ (IsS87.ge HI0.out)) | exact HB.out), by repeat (first | (with_reducible first | exact HK.out | apply KeepBut.set_ | apply keep_drewN | apply keep_drew | apply keep_alloc) | exact HK.out)⟩
      · replace c9 := Bool.eq_false_iff.mpr c9
        subst c9
        have H1 : (if a1 = 40 then (some (false, false, wrap64 (s0_2 + 1))) else (if s0_2 > 0 then (lists_scan_see.j0 k a1 (a1 == 41) false false s0_2) else (lists_scan_see.j0 k a1 false false false s0_2))) = some (r1, r2, r3) := by rw [if_neg (show ¬ (false = true) by decide)] at H; exact H
        clear H
        have H := H1
        clear H1
        by_cases c11 : a1 = 40
        · rw [if_pos c11] at H
          have c11b0 : (a1 == 40) = true := beq_iff_eq.mpr c11
          have c11b1 : (a1 != 40) = false := bne_eq_false_iff_eq.mpr c11
          clear c11
          simp only [Option.some.injEq, Prod.mk.injEq] at H
          obtain ⟨rfl, rfl, rfl⟩ := H
          obtain ⟨HGz12, hgz12⟩ := HI0.out
          have hcz12_0 := cellS87_0 HGz12
          have hcz12_1 := cellS87_1 HGz12
          have hcz12_2 := cellS87_2 HGz12
          have hfz12_0 := blk_frozen HGz12 0
          have hfz12_1 := blk_frozen HGz12 1
          have hfz12_2 := blk_frozen HGz12 2
          clear HGz12 hgz12
          go_enter Try.func84, Try.ntmps84
          go_wp2
          first | go_end0 | ((try simp only [Exit.inBlock, Exit.then]); refine bodyPost_ret (results_none rfl _ _ _) rfl ?_)
          exact ⟨by first | rfl | (simp [errW_none, errW_some] <;> rfl) | (simp [*, errW_none, errW_some] <;> rfl), by repeat (first | (with_reducible first | exact HI0.out | apply IsS87.alloc | apply IsS87.drewN | apply IsS87.drew | apply IsS87.set_0 | apply IsS87.set_1 | apply IsS87.set_2) | exact HI0.out), by repeat (first | (with_reducible first | exact HB.out | apply below_alloc | apply pw_below_drewN | apply below_drew1 | refine below_set ?_ (IsS87.ge HI0.out)) | exact HB.out), by repeat (first | (with_reducible first | exact HK.out | apply KeepBut.set_ | apply keep_drewN | apply keep_drew | apply keep_alloc) | exact HK.out)⟩
        · rw [if_neg c11] at H
          have c11b0 : (a1 == 40) = false := beq_eq_false_iff_ne.mpr c11
          have c11b1 : (a1 != 40) = true := bne_iff_ne.mpr c11
          have HC13 := Aside0.mk H
          clear H
          obtain ⟨HGz14, hgz14⟩ := HI0.out
          have hcz14_0 := cellS87_0 HGz14
          have hcz14_1 := cellS87_1 HGz14
          have hcz14_2 := cellS87_2 HGz14
          have hfz14_0 := blk_frozen HGz14 0
          have hfz14_1 := blk_frozen HGz14 1
          have hfz14_2 := blk_frozen HGz14 2
          clear HGz14 hgz14
          go_enter Try.func84, Try.ntmps84
          go_upto_region 8 with (fail)
          go_cut [49] (fun v49 wc => ∃ (kq : Nat) (x49_12 : Bool), v49 = .bool x49_12 ∧ Aside0 (lists_scan_see.j0 kq a1 x49_12 false false s0_2 = some (r1, r2, r3)) ∧ Aside0 (kq ≤ k) ∧ Aside0 (IsS87 w0 wc g false false s0_2) ∧ Aside0 (KeepBut w wc g none) ∧ Aside0 (Below w0.heap.size w0 wc))
          case first =>
            have H := HC13.out
            clear HC13
            by_cases c15 : s0_2 > 0
            · rw [if_pos c15] at H
              have c15b0 : decide (0 < s0_2) = true := decide_eq_true c15
              clear c15
              (first | rw [c15b0] | (simp only [i64_w, i32_w]; rw [c15b0]) | skip)
              have H' := Aside0.mk H
              clear H
              obtain ⟨HGz16, hgz16⟩ := HI0.out
              have hcz16_0 := cellS87_0 HGz16
              have hcz16_1 := cellS87_1 HGz16
              have hcz16_2 := cellS87_2 HGz16
              have hfz16_0 := blk_frozen HGz16 0
              have hfz16_1 := blk_frozen HGz16 1
              have hfz16_2 := blk_frozen HGz16 2
              clear HGz16 hgz16
              go_wp2
              go_meet
              case rel => exact ⟨_, ((a1 == 41)), (by first | rfl | (simp; done) | (simp [*]; done)), H', ⟨by first | omega | exact Nat.le_refl _⟩, ⟨by repeat (first | (with_reducible first | exact HI0.out | apply IsS87.alloc | apply IsS87.drewN | apply IsS87.drew | apply IsS87.set_0 | apply IsS87.set_1 | apply IsS87.set_2) | exact HI0.out)⟩, ⟨by repeat (first | (with_reducible first | exact HK.out | apply KeepBut.set_ | apply keep_drewN | apply keep_drew | apply keep_alloc) | exact HK.out)⟩, ⟨by repeat (first | (with_reducible first | exact HB.out | apply below_alloc | apply pw_below_drewN | apply below_drew1 | refine below_set ?_ (IsS87.ge HI0.out)) | exact HB.out)⟩⟩
            · rw [if_neg c15] at H
              have c15b0 : decide (0 < s0_2) = false := decide_eq_false c15
              clear c15
              (first | rw [c15b0] | (simp only [i64_w, i32_w]; rw [c15b0]) | skip)
              have H' := Aside0.mk H
              clear H
              obtain ⟨HGz17, hgz17⟩ := HI0.out
              have hcz17_0 := cellS87_0 HGz17
              have hcz17_1 := cellS87_1 HGz17
              have hcz17_2 := cellS87_2 HGz17
              have hfz17_0 := blk_frozen HGz17 0
              have hfz17_1 := blk_frozen HGz17 1
              have hfz17_2 := blk_frozen HGz17 2
              clear HGz17 hgz17
              go_wp2
              go_meet
              case rel => exact ⟨_, (false), (by first | rfl | (simp; done) | (simp [*]; done)), H', ⟨by first | omega | exact Nat.le_refl _⟩, ⟨by repeat (first | (with_reducible first | exact HI0.out | apply IsS87.alloc | apply IsS87.drewN | apply IsS87.drew | apply IsS87.set_0 | apply IsS87.set_1 | apply IsS87.set_2) | exact HI0.out)⟩, ⟨by repeat (first | (with_reducible first | exact HK.out | apply KeepBut.set_ | apply keep_drewN | apply keep_drew | apply keep_alloc) | exact HK.out)⟩, ⟨by repeat (first | (with_reducible first | exact HB.out | apply below_alloc | apply pw_below_drewN | apply below_drew1 | refine below_set ?_ (IsS87.ge HI0.out)) | exact HB.out)⟩⟩
          case rest =>
            clear HC13
            try clear c1
            try clear p2
            try clear c3
            try clear c5
            try clear c5b0
            try clear c5b1
            try clear c6
            try clear p6
            try clear c8
            try clear c9
            try clear c11
            try clear c11b0
            try clear c11b1
            try clear c15
            try clear c15b0
            try clear hcz10_0
            try clear hcz10_1
            try clear hcz10_2
            try clear hcz12_0
            try clear hcz12_1
            try clear hcz12_2
            try clear hcz14_0
            try clear hcz14_1
            try clear hcz14_2
            try clear hcz16_0
            try clear hcz16_1
            try clear hcz16_2
            try clear hcz17_0
            try clear hcz17_1
            try clear hcz17_2
            try clear hcz4_0
            try clear hcz4_1
            try clear hcz4_2
            try clear hcz7_0
            try clear hcz7_1
            try clear hcz7_2
            try clear hcz8_0
            try clear hcz8_1
            try clear hcz8_2
            try clear hfz10_0
            try clear hfz10_1
            try clear hfz10_2
            try clear hfz12_0
            try clear hfz12_1
            try clear hfz12_2
            try clear hfz14_0
            try clear hfz14_1
            try clear hfz14_2
            try clear hfz16_0
            try clear hfz16_1
            try clear hfz16_2
            try clear hfz17_0
            try clear hfz17_1
            try clear hfz17_2
            try clear hfz4_0
            try clear hfz4_1
            try clear hfz4_2
            try clear hfz7_0
            try clear hfz7_1
            try clear hfz7_2
            try clear hfz8_0
            try clear hfz8_1
            try clear hfz8_2
            obtain ⟨kq, x49_12, rfl, HA, HJ12, HI0, HK, HB⟩ := hcut
            cases kq with
            | zero => exact absurd HA.out (by simp [lists_scan_see.j0])
            | succ kj12 =>
              have H := HA.out
              clear HA
              simp only [lists_scan_see.j0] at H
              by_cases c18 : x49_12 = true
              · subst c18
                have H1 : (some (false, false, wrap64 (s0_2 - 1))) = some (r1, r2, r3) := by rw [if_pos rfl] at H; exact H
                clear H
                have H := H1
                clear H1
                simp only [Option.some.injEq, Prod.mk.injEq] at H
                obtain ⟨rfl, rfl, rfl⟩ := H
                obtain ⟨HGz19, hgz19⟩ := HI0.out
                have hcz19_0 := cellS87_0 HGz19
                have hcz19_1 := cellS87_1 HGz19
                have hcz19_2 := cellS87_2 HGz19
                have hfz19_0 := blk_frozen HGz19 0
                have hfz19_1 := blk_frozen HGz19 1
                have hfz19_2 := blk_frozen HGz19 2
                clear HGz19 hgz19
                go_wp2
                first | go_end0 | ((try simp only [Exit.inBlock, Exit.then]); refine bodyPost_ret (results_none rfl _ _ _) rfl ?_)
                exact ⟨by first | rfl | (simp [errW_none, errW_some] <;> rfl) | (simp [*, errW_none, errW_some] <;> rfl), by repeat (first | (with_reducible first | exact HI0.out | apply IsS87.alloc | apply IsS87.drewN | apply IsS87.drew | apply IsS87.set_0 | apply IsS87.set_1 | apply IsS87.set_2) | exact HI0.out), by repeat (first | (with_reducible first | exact HB.out | apply below_alloc | apply pw_below_drewN | apply below_drew1 | refine below_set ?_ (IsS87.ge HI0.out)) | exact HB.out), by repeat (first | (with_reducible first | exact HK.out | apply KeepBut.set_ | apply keep_drewN | apply keep_drew | apply keep_alloc) | exact HK.out)⟩
              · replace c18 := Bool.eq_false_iff.mpr c18
                subst c18
                have H1 : (if s0_2 = 0 then (if a1 = 34 then (some (true, false, s0_2)) else (some (false, false, s0_2))) else (some (false, false, s0_2))) = some (r1, r2, r3) := by rw [if_neg (show ¬ (false = true) by decide)] at H; exact H
                clear H
                have H := H1
                clear H1
                by_cases c20 : s0_2 = 0
                · rw [if_pos c20] at H
                  have c20b0 : (s0_2 == 0) = true := beq_iff_eq.mpr c20
                  have c20b1 : (s0_2 != 0) = false := bne_eq_false_iff_eq.mpr c20
                  clear c20
                  by_cases c21 : a1 = 34
                  · rw [if_pos c21] at H
                    have c21b0 : (a1 == 34) = true := beq_iff_eq.mpr c21
                    have c21b1 : (a1 != 34) = false := bne_eq_false_iff_eq.mpr c21
                    clear c21
                    simp only [Option.some.injEq, Prod.mk.injEq] at H
                    obtain ⟨rfl, rfl, rfl⟩ := H
                    obtain ⟨HGz22, hgz22⟩ := HI0.out
                    have hcz22_0 := cellS87_0 HGz22
                    have hcz22_1 := cellS87_1 HGz22
                    have hcz22_2 := cellS87_2 HGz22
                    have hfz22_0 := blk_frozen HGz22 0
                    have hfz22_1 := blk_frozen HGz22 1
                    have hfz22_2 := blk_frozen HGz22 2
                    clear HGz22 hgz22
                    go_wp2
                    first | go_end0 | ((try simp only [Exit.inBlock, Exit.then]); refine bodyPost_ret (results_none rfl _ _ _) rfl ?_)
                    exact ⟨by first | rfl | (simp [errW_none, errW_some] <;> rfl) | (simp [*, errW_none, errW_some] <;> rfl), by repeat (first | (with_reducible first | exact HI0.out | apply IsS87.alloc | apply IsS87.drewN | apply IsS87.drew | apply IsS87.set_0 | apply IsS87.set_1 | apply IsS87.set_2) | exact HI0.out), by repeat (first | (with_reducible first | exact HB.out | apply below_alloc | apply pw_below_drewN | apply below_drew1 | refine below_set ?_ (IsS87.ge HI0.out)) | exact HB.out), by repeat (first | (with_reducible first | exact HK.out | apply KeepBut.set_ | apply keep_drewN | apply keep_drew | apply keep_alloc) | exact HK.out)⟩
                  · rw [if_neg c21] at H
                    have c21b0 : (a1 == 34) = false := beq_eq_false_iff_ne.mpr c21
                    have c21b1 : (a1 != 34) = true := bne_iff_ne.mpr c21
                    simp only [Option.some.injEq, Prod.mk.injEq] at H
                    obtain ⟨rfl, rfl, rfl⟩ := H
                    obtain ⟨HGz23, hgz23⟩ := HI0.out
                    have hcz23_0 := cellS87_0 HGz23
                    have hcz23_1 := cellS87_1 HGz23
                    have hcz23_2 := cellS87_2 HGz23
                    have hfz23_0 := blk_frozen HGz23 0
                    have hfz23_1 := blk_frozen HGz23 1
                    have hfz23_2 := blk_frozen HGz23 2
                    clear HGz23 hgz23
                    go_wp2
                    first | go_end0 | ((try simp only [Exit.inBlock, Exit.then]); refine bodyPost_ret (results_none rfl _ _ _) rfl ?_)
                    exact ⟨by first | rfl | (simp [errW_none, errW_some] <;> rfl) | (simp [*, errW_none, errW_some] <;> rfl), by repeat (first | (with_reducible first | exact HI0.out | apply IsS87.alloc | apply IsS87.drewN | apply IsS87.drew | apply IsS87.set_0 | apply IsS87.set_1 | apply IsS87.set_2) | exact HI0.out), by repeat (first | (with_reducible first | exact HB.out | apply below_alloc | apply pw_below_drewN | apply below_drew1 | refine below_set ?_ (IsS87.ge HI0.out)) | exact HB.out), by repeat (first | (with_reducible first | exact HK.out | apply KeepBut.set_ | apply keep_drewN | apply keep_drew | apply keep_alloc) | exact HK.out)⟩
                · rw [if_neg c20] at H
                  have c20b0 : (s0_2 == 0) = false := beq_eq_false_iff_ne.mpr c20
                  have c20b1 : (s0_2 != 0) = true := bne_iff_ne.mpr c20
                  simp only [Option.some.injEq, Prod.mk.injEq] at H
                  obtain ⟨rfl, rfl, rfl⟩ := H
                  obtain ⟨HGz24, hgz24⟩ := HI0.out
                  have hcz24_0 := cellS87_0 HGz24
                  have hcz24_1 := cellS87_1 HGz24
                  have hcz24_2 := cellS87_2 HGz24
                  have hfz24_0 := blk_frozen HGz24 0
                  have hfz24_1 := blk_frozen HGz24 1
                  have hfz24_2 := blk_frozen HGz24 2
                  clear HGz24 hgz24
                  go_wp2
                  first | go_end0 | ((try simp only [Exit.inBlock, Exit.then]); refine bodyPost_ret (results_none rfl _ _ _) rfl ?_)
                  exact ⟨by first | rfl | (simp [errW_none, errW_some] <;> rfl) | (simp [*, errW_none, errW_some] <;> rfl), by repeat (first | (with_reducible first | exact HI0.out | apply IsS87.alloc | apply IsS87.drewN | apply IsS87.drew | apply IsS87.set_0 | apply IsS87.set_1 | apply IsS87.set_2) | exact HI0.out), by repeat (first | (with_reducible first | exact HB.out | apply below_alloc | apply pw_below_drewN | apply below_drew1 | refine below_set ?_ (IsS87.ge HI0.out)) | exact HB.out), by repeat (first | (with_reducible first | exact HK.out | apply KeepBut.set_ | apply keep_drewN | apply keep_drew | apply keep_alloc) | exact HK.out)⟩

end Go.Proofs.Ytkjkbenmoogdjaa.X
namespace Go.Proofs.Ytkjkbenmoogdjaa.X
open Go.RowKit Go.Proofs.YtkjkbenmoogdjaaW.PrintWords Go.Proofs.YtkjkbenmoogdjaaW.PrintLast Go.Proofs.YtkjkbenmoogdjaaW.PrintMore
attribute [local go_sem] max2_int min2_int max_two min_two max_three min_three max_four min_four   -- for this text's walks alone
set_option linter.unusedVariables false
set_option linter.unusedSimpArgs false

/-! ### lists_scan_closed: function 85 -/
def lists_scan_closed.f (s0_0 : Bool) (s0_1 : Bool) (s0_2 : Int) : Option (Bool × Bool × Bool × Int) := if s0_0 = true then (some (false, s0_0, s0_1, s0_2)) else (if s0_1 = true then (some (false, s0_0, s0_1, s0_2)) else (some ((s0_2 == 0), s0_0, s0_1, s0_2)))
set_option maxHeartbeats 8000000 in
set_option maxRecDepth 100000 in
theorem lists_scan_closed.calls (g : Nat) (s0_0 : Bool) (s0_1 : Bool) (s0_2 : Int) (r1 : Bool) (r2 : Bool) (r3 : Bool) (r4 : Int) (w0 w : World) (hI : IsS87 w0 w g s0_0 s0_1 s0_2) (hB : Below w0.heap.size w0 w) (h : lists_scan_closed.f s0_0 s0_1 s0_2 = some (r1, r2, r3, r4)) :
    Calls Try.prog 85 #[.pointer (some ⟨g, 0, none⟩)] w fun e w' => e = .returned (.bool r1) ∧ IsS87 w0 w' g r2 r3 r4 ∧ Below w0.heap.size w0 w' ∧ KeepBut w w' g none := by
  have HI0 := Aside0.mk hI
  have HK := Aside0.mk (KeepBut.refl w g none)
  have HL := Aside0.mk hB.size
  clear hI
  have HW0 := Aside0.mk hB.size
  have HB := Aside0.mk hB
  clear hB
  have H : (if s0_0 = true then (some (false, s0_0, s0_1, s0_2)) else (if s0_1 = true then (some (false, s0_0, s0_1, s0_2)) else (some ((s0_2 == 0), s0_0, s0_1, s0_2)))) = some (r1, r2, r3, r4) := h
  clear h
  by_cases c2 : s0_0 = true
  · subst c2
    have H1 : (some (false, true, s0_1, s0_2)) = some (r1, r2, r3, r4) := by rw [if_pos rfl] at H; exact H
    clear H
    have H := H1
    clear H1
    simp only [Option.some.injEq, Prod.mk.injEq] at H
    obtain ⟨rfl, rfl, rfl, rfl⟩ := H
    obtain ⟨HGz3, hgz3⟩ := HI0.out
    have hcz3_0 := cellS87_0 HGz3
    have hcz3_1 := cellS87_1 HGz3
    have hcz3_2 := cellS87_2 HGz3
    have hfz3_0 := blk_frozen HGz3 0
    have hfz3_1 := blk_frozen HGz3 1
    have hfz3_2 := blk_frozen HGz3 2
    clear HGz3 hgz3
    go_enter Try.func85, Try.ntmps85
    go_wp2
    go_ret
    exact ⟨by first | rfl | (simp [errW_none, errW_some] <;> rfl) | (simp [*, errW_none, errW_some] <;> rfl), by repeat (first | (with_reducible first | exact HI0.out | apply IsS87.alloc | apply IsS87.drewN | apply IsS87.drew | apply IsS87.set_0 | apply IsS87.set_1 | apply IsS87.set_2) | exact HI0.out), by repeat (first | (with_reducible first | exact HB.out | apply below_alloc | apply pw_below_drewN | apply below_drew1 | refine below_set ?_ (IsS87.ge HI0.out)) | exact HB.out), by repeat (first | (with_reducible first | exact HK.out | apply KeepBut.set_ | apply keep_drewN | apply keep_drew | apply keep_alloc) | exact HK.out)⟩
  · replace c2 := Bool.eq_false_iff.mpr c2
    subst c2
    have H1 : (if s0_1 = true then (some (false, false, s0_1, s0_2)) else (some ((s0_2 == 0), false, s0_1, s0_2))) = some (r1, r2, r3, r4) := by rw [if_neg (show ¬ (false = true) by decide)] at H; exact H
    clear H
    have H := H1
    clear H1
    by_cases c4 : s0_1 = true
    · subst c4
      have H1 : (some (false, false, true, s0_2)) = some (r1, r2, r3, r4) := by rw [if_pos rfl] at H; exact H
      clear H
      have H := H1
      clear H1
      simp only [Option.some.injEq, Prod.mk.injEq] at H
      obtain ⟨rfl, rfl, rfl, rfl⟩ := H
      obtain ⟨HGz5, hgz5⟩ := HI0.out
      have hcz5_0 := cellS87_0 HGz5
      have hcz5_1 := cellS87_1 HGz5
      have hcz5_2 := cellS87_2 HGz5
      have hfz5_0 := blk_frozen HGz5 0
      have hfz5_1 := blk_frozen HGz5 1
      have hfz5_2 := blk_frozen HGz5 2
      clear HGz5 hgz5
      go_enter Try.func85, Try.ntmps85
      go_wp2
      go_ret
      exact ⟨by first | rfl | (simp [errW_none, errW_some] <;> rfl) | (simp [*, errW_none, errW_some] <;> rfl), by repeat (first | (with_reducible first | exact HI0.out | apply IsS87.alloc | apply IsS87.drewN | apply IsS87.drew | apply IsS87.set_0 | apply IsS87.set_1 | apply IsS87.set_2) | exact HI0.out), by repeat (first | (with_reducible first | exact HB.out | apply below_alloc | apply pw_below_drewN | apply below_drew1 | refine below_set ?_ (IsS87.ge HI0.out)) | exact HB.out), by repeat (first | (with_reducible first | exact HK.out | apply KeepBut.set_ | apply keep_drewN | apply keep_drew | apply keep_alloc) | exact HK.out)⟩
    · replace c4 := Bool.eq_false_iff.mpr c4
      subst c4
      have H1 : (some ((s0_2 == 0), false, false, s0_2)) = some (r1, r2, r3, r4) := by rw [if_neg (show ¬ (false = true) by decide)] at H; exact H
      clear H
      have H := H1
      clear H1
      simp only [Option.some.injEq, Prod.mk.injEq] at H
      obtain ⟨rfl, rfl, rfl, rfl⟩ := H
      obtain ⟨HGz6, hgz6⟩ := HI0.out
      have hcz6_0 := cellS87_0 HGz6
      have hcz6_1 := cellS87_1 HGz6
      have hcz6_2 := cellS87_2 HGz6
      have hfz6_0 := blk_frozen HGz6 0
      have hfz6_1 := blk_frozen HGz6 1
      have hfz6_2 := blk_frozen HGz6 2
      clear HGz6 hgz6
      go_enter Try.func85, Try.ntmps85
      go_wp2
      go_ret
      exact ⟨by first | rfl | (simp [errW_none, errW_some] <;> rfl) | (simp [*, errW_none, errW_some] <;> rfl), by repeat (first | (with_reducible first | exact HI0.out | apply IsS87.alloc | apply IsS87.drewN | apply IsS87.drew | apply IsS87.set_0 | apply IsS87.set_1 | apply IsS87.set_2) | exact HI0.out), by repeat (first | (with_reducible first | exact HB.out | apply below_alloc | apply pw_below_drewN | apply below_drew1 | refine below_set ?_ (IsS87.ge HI0.out)) | exact HB.out), by repeat (first | (with_reducible first | exact HK.out | apply KeepBut.set_ | apply keep_drewN | apply keep_drew | apply keep_alloc) | exact HK.out)⟩

end Go.Proofs.Ytkjkbenmoogdjaa.X
namespace Go.Proofs.Ytkjkbenmoogdjaa.X
open Go.RowKit Go.Proofs.YtkjkbenmoogdjaaW.PrintWords Go.Proofs.YtkjkbenmoogdjaaW.PrintLast Go.Proofs.YtkjkbenmoogdjaaW.PrintMore
attribute [local go_sem] max2_int min2_int max_two min_two max_three min_three max_four min_four   -- for this text's walks alone
set_option linter.unusedVariables false
set_option linter.unusedSimpArgs false

/-! ### lists_ends: function 53 -/
/-! The scan of a list's octets: what is closed in. -/
def seeS (q sl : Bool) (d c : Int) : Bool × Bool × Int :=
  if sl = true then (q, false, d)
  else if c = 92 then (q, q || decide (0 < d), d)
  else if q = true then (c != 34, sl, d)
  else if c = 40 then (q, sl, d + 1)
  else if 0 < d ∧ c = 41 then (q, sl, d - 1)
  else if d = 0 ∧ c = 34 then (true, sl, d)
  else (q, sl, d)
def stAt (s : ByteArray) : Nat → Bool × Bool × Int
  | 0 => (false, false, 0)
  | i + 1 => seeS (stAt s i).1 (stAt s i).2.1 (stAt s i).2.2 (bt s i)
def closedS (st : Bool × Bool × Int) : Bool := !st.1 && (!st.2.1 && st.2.2 == 0)
theorem seeS_deep (q sl : Bool) (d c : Int) (h : 0 ≤ d) : 0 ≤ (seeS q sl d c).2.2 ∧ (seeS q sl d c).2.2 ≤ d + 1 := by
  unfold seeS
  repeat' split
  all_goals (dsimp only; omega)
theorem stAt_deep (s : ByteArray) (i : Nat) : 0 ≤ (stAt s i).2.2 ∧ (stAt s i).2.2 ≤ i := by
  induction i with
  | zero => exact ⟨Int.le_refl _, Int.le_refl _⟩
  | succ i ih =>
    have := seeS_deep (stAt s i).1 (stAt s i).2.1 (stAt s i).2.2 (bt s i) ih.1
    show 0 ≤ (seeS _ _ _ _).2.2 ∧ (seeS _ _ _ _).2.2 ≤ ((i + 1 : Nat) : Int)
    omega
theorem see_f (q sl : Bool) (d c : Int) (h : 0 ≤ d) (h2 : d ≤ 4611686018427387904) :
    lists_scan_see.f 2 q sl d c = some ((seeS q sl d c).1, (seeS q sl d c).2.1, (seeS q sl d c).2.2) := by
  have w1 : wrap64 (d + 1) = d + 1 := by unfold wrap64; omega
  have w2 : wrap64 (d - 1) = d - 1 := by unfold wrap64; omega
  unfold lists_scan_see.f seeS
  cases sl
  · by_cases e1 : c = 92
    · cases q <;> simp [e1]
    · cases q
      · by_cases e2 : c = 40
        · simp [e2, w1]
        · by_cases e3 : 0 < d
          · have e4 : ¬ d = 0 := by omega
            by_cases e5 : c = 41
            · simp [e3, e5, lists_scan_see.j0, w2]
            · simp [e1, e2, e3, e4, e5, lists_scan_see.j0]
          · have e4 : d = 0 := by omega
            subst e4
            by_cases e5 : c = 34
            · simp [e5, lists_scan_see.j0]
            · simp [e1, e2, e5, lists_scan_see.j0]
      · simp [e1]
  · simp
theorem closed_f (q sl : Bool) (d : Int) : lists_scan_closed.f q sl d = some (closedS (q, sl, d), q, sl, d) := by
  unfold lists_scan_closed.f closedS
  cases q <;> cases sl <;> rfl
def lists_ends.f (a0 : ByteArray) : Option (Bool) := if a0.size ≤ 140737488351232 then some (closedS (stAt a0 a0.size)) else none
theorem bt_nat' (s : ByteArray) (i : Nat) : ∀ h : i < s.size, ((s[i]'h).toNat : Int) = bt s i := fun h => by
  have := bt_at s (i : Int) (by simpa using h)
  simpa using this
set_option maxHeartbeats 2000000 in
set_option maxRecDepth 100000 in
theorem lists_ends.calls (a0 : ByteArray) (r : Bool) (w : World) (h : lists_ends.f a0 = some r) :
    Calls Try.prog 53 #[.string a0] w fun e w' => e = .returned (.bool r) ∧ Below w.heap.size w w' := by
  by_cases hs : a0.size ≤ 140737488351232
  · rw [lists_ends.f, if_pos hs] at h
    obtain rfl := Option.some.inj h
    clear h
    have hI0 := IsS87.new w w false false 0 (Below.refl _ _)
    have HI0 := Aside0.mk hI0
    clear hI0
    go_enter Try.func53, Try.ntmps53
    go_wp2
    go_loopw [7] (fun i7 wr => ∃ i : Nat, i ≤ a0.size ∧ i7 = .int .i64 i ∧ Aside0 (IsS87 w wr w.heap.size (stAt a0 i).1 (stAt a0 i).2.1 (stAt a0 i).2.2 ∧ Below w.heap.size w wr)) (fun i7 _ => a0.size - (intOf i7).toNat)
    case atStart => exact ⟨0, by omega, rfl, ⟨HI0.out, (Below.refl _ w).alloc (Nat.le_refl _) _⟩⟩
    case round =>
      obtain ⟨i, hi, rfl, HA⟩ := hrel
      clear HI0
      by_cases hlt : i < a0.size
      · have hlt2 : (i : Int) < a0.size := by omega
        have hx := bt_nat' a0 i
        have hd := stAt_deep a0 i
        have hC := lists_scan_see.calls 2 w.heap.size _ _ _ (bt a0 i) _ _ _ w wr HA.out.1 HA.out.2 (see_f (stAt a0 i).1 (stAt a0 i).2.1 (stAt a0 i).2.2 (bt a0 i) hd.1 (by omega))
        have HC := Aside0.mk hC
        clear hC HA hd
        obtain ⟨C, hCe⟩ : ∃ C, bt a0 i = C := ⟨_, rfl⟩
        have HCe := Aside0.mk hCe
        rw [hCe] at hx HC
        clear hCe
        go_wp2_with (go_at_call 84; refine HC.out.mono ?_; rintro e w' ⟨rfl, hI1, hB1, _⟩; have HA1 := Aside0.mk (And.intro hI1 hB1); clear hI1 hB1)
        go_roundw
        case rel => exact ⟨i + 1, by omega, by go_num, by rw [stAt, HCe.out]; exact HA1⟩
        case measure => simp [intOf]; omega
      · obtain rfl : i = a0.size := by omega
        have hC := lists_scan_closed.calls w.heap.size _ _ _ _ _ _ _ w wr HA.out.1 HA.out.2 (closed_f _ _ _)
        have HC := Aside0.mk hC
        clear hC HA
        go_wp2_with (go_at_call 85; refine HC.out.mono ?_; rintro e w' ⟨rfl, hI1, hB1, _⟩)
        go_ret
        exact ⟨rfl, hB1⟩
  · rw [lists_ends.f, if_neg hs] at h
    cases h


end Go.Proofs.Ytkjkbenmoogdjaa.X
namespace Go.Proofs.Ytkjkbenmoogdjaa.X
open Go.RowKit Go.Proofs.YtkjkbenmoogdjaaW.PrintWords Go.Proofs.YtkjkbenmoogdjaaW.PrintLast Go.Proofs.YtkjkbenmoogdjaaW.PrintMore
attribute [local go_sem] max2_int min2_int max_two min_two max_three min_three max_four min_four   -- for this text's walks alone
set_option linter.unusedVariables false
set_option linter.unusedSimpArgs false

/-! ### lists_elements: function 54 -/
set_option maxHeartbeats 1000000 in
theorem lists_elements.calls (a0 : ByteArray) (w : World) :
    Calls Try.prog 54 #[.string a0] w fun e w' => e = .returned (.func (.func 86) #[] #[.pointer (some ⟨w.heap.size, 0, none⟩)]) ∧ w' = w.alloc (.cells #[.string a0] 9) := by
  go_enter Try.func54, Try.ntmps54
  go_wp2
  go_ret
  exact ⟨rfl, rfl⟩


end Go.Proofs.Ytkjkbenmoogdjaa.X
namespace Go.Proofs.Ytkjkbenmoogdjaa.X
open Go.RowKit Go.Proofs.YtkjkbenmoogdjaaW.PrintWords Go.Proofs.YtkjkbenmoogdjaaW.PrintLast Go.Proofs.YtkjkbenmoogdjaaW.PrintMore
attribute [local go_sem] max2_int min2_int max_two min_two max_three min_three max_four min_four   -- for this text's walks alone
set_option linter.unusedVariables false
set_option linter.unusedSimpArgs false

/-! ### abutmentref07_Behind: function 55 -/
def behF (s : ByteArray) (at_ : Nat) (q : Bool) : Nat → Int → Nat → Int
  | 0, _, _ => -1
  | f + 1, d, i =>
    if i < s.size then
      if bt s i = 92 then behF s at_ q f d (i + 2)
      else if q = true then (if at_ < i ∧ bt s i = 34 then (i : Int) + 1 else behF s at_ q f d (i + 1))
      else if bt s i = 40 then behF s at_ q f (d + 1) (i + 1)
      else if bt s i = 41 then (if d - 1 = 0 then (i : Int) + 1 else behF s at_ q f (d - 1) (i + 1))
      else behF s at_ q f d (i + 1)
    else -1
theorem behF_end (s : ByteArray) (at_ : Nat) (q : Bool) (f : Nat) (d : Int) (i : Nat) (h : ¬ i < s.size) : behF s at_ q f d i = -1 := by
  cases f with
  | zero => rfl
  | succ f => simp only [behF]; rw [if_neg h]
def behind (s : ByteArray) (at_ : Nat) : Int := behF s at_ (bt s at_ == 34) s.size 0 at_
def abutmentref07_Behind.f (a0 : ByteArray) (a1 : Int) : Option (Int) := if 0 ≤ a1 ∧ a1 < a0.size ∧ a0.size ≤ 140737488351232 then some (behind a0 a1.toNat) else none
theorem bt_nat (s : ByteArray) (i : Nat) : ∀ h : i < s.size, ((s[i]'h).toNat : Int) = bt s i := fun h => by
  have := bt_at s (i : Int) (by simpa using h)
  simpa using this
set_option maxHeartbeats 4000000 in
set_option maxRecDepth 100000 in
theorem behind_walk (q : Bool) (s : ByteArray) (p : Nat) (w : World) (hp : p < s.size) (hs : s.size ≤ 140737488351232) (hq : (bt s p == 34) = q) :
    Calls Try.prog 55 #[.string s, .int .i64 (p : Int)] w fun e w' => e = .returned (.int .i64 (behF s p q s.size 0 p)) ∧ Drawn0 w w' := by
  have hxp := bt_nat s p
  obtain ⟨B, hB⟩ : ∃ B, bt s p = B := ⟨_, rfl⟩
  rw [hB] at hxp hq
  have HQ := Aside0.mk hB
  clear hB
  obtain ⟨R0, hR0⟩ : ∃ R0, behF s p q s.size 0 p = R0 := ⟨_, rfl⟩
  have HR0 := Aside0.mk hR0
  rw [hR0]
  clear hR0
  cases q
  · have hp2 : (p : Int) < s.size := by omega
    go_enter Try.func55, Try.ntmps55
    go_wp2
    go_loop [6, 7] (fun dd ii => ∃ (i f : Nat) (d : Int), ii = .int .i64 i ∧ dd = .int .i64 d ∧ i ≤ s.size + 1 ∧ s.size ≤ i + f ∧ -(i : Int) ≤ d ∧ d ≤ i ∧ Aside0 (behF s p false f d i = R0)) (fun _ ii => s.size + 2 - (intOf ii).toNat)
    case atStart => exact ⟨p, s.size, 0, rfl, rfl, by omega, by omega, by omega, by omega, HR0⟩
    case round =>
      obtain ⟨i, f, d, rfl, rfl, hi, hf, hd1, hd2, HL⟩ := hrel
      clear HR0
      by_cases hlt : i < s.size
      · obtain ⟨f, rfl⟩ : ∃ g, f = g + 1 := ⟨f - 1, by omega⟩
        have hlt2 : (i : Int) < s.size := by omega
        have hx := bt_nat s i
        obtain ⟨C, hC⟩ : ∃ C, bt s i = C := ⟨_, rfl⟩
        have hl := HL.out
        simp only [behF, hlt, if_true, hC, Bool.false_eq_true, if_false] at hl
        rw [hC] at hx
        clear hC HL
        by_cases e1 : C = 92
        · subst e1
          rw [if_pos rfl] at hl
          have HL := Aside0.mk hl
          clear hl
          go_wp2
          go_round
          case rel => exact ⟨i + 2, f, d, by go_num, rfl, by omega, by omega, by omega, by omega, HL⟩
          case measure => simp [intOf]; omega
        · rw [if_neg e1] at hl
          have b1 : (C == 92) = false := beq_eq_false_iff_ne.2 e1
          by_cases e2 : C = 40
          · subst e2
            rw [if_pos rfl] at hl
            have HL := Aside0.mk hl
            clear hl
            go_wp2
            go_round
            case rel => exact ⟨i + 1, f, d + 1, by go_num, by go_num, by omega, by omega, by omega, by omega, HL⟩
            case measure => simp [intOf]; omega
          · rw [if_neg e2] at hl
            have b2 : (C == 40) = false := beq_eq_false_iff_ne.2 e2
            by_cases e3 : C = 41
            · subst e3
              rw [if_pos rfl] at hl
              by_cases e4 : d - 1 = 0
              · rw [if_pos e4] at hl
                have b4 : (d - 1 == 0) = true := beq_iff_eq.2 e4
                have HL := Aside0.mk hl
                clear hl e4
                go_wp2
                go_ret
                exact ⟨by rw [← HL.out]; rfl, Drawn0.refl _⟩
              · rw [if_neg e4] at hl
                have b4 : (d - 1 == 0) = false := beq_eq_false_iff_ne.2 e4
                have HL := Aside0.mk hl
                clear hl e4
                go_wp2
                go_round
                case rel => exact ⟨i + 1, f, d - 1, by go_num, by go_num, by omega, by omega, by omega, by omega, HL⟩
                case measure => simp [intOf]; omega
            · rw [if_neg e3] at hl
              have b3 : (C == 41) = false := beq_eq_false_iff_ne.2 e3
              have HL := Aside0.mk hl
              clear hl e1 e2 e3
              go_wp2
              go_round
              case rel => exact ⟨i + 1, f, d, by go_num, rfl, by omega, by omega, by omega, by omega, HL⟩
              case measure => simp [intOf]; omega
      · have hl := HL.out
        rw [behF_end s p false f d i hlt] at hl
        have HF := Aside0.mk hl
        clear hl HL
        go_wp2
        go_ret
        exact ⟨by rw [← HF.out]; rfl, Drawn0.refl _⟩
  · have hp2 : (p : Int) < s.size := by omega
    go_enter Try.func55, Try.ntmps55
    go_wp2
    go_loop [6, 7] (fun dd ii => ∃ (i f : Nat), ii = .int .i64 i ∧ dd = .int .i64 0 ∧ p ≤ i ∧ i ≤ s.size + 1 ∧ s.size ≤ i + f ∧ Aside0 (behF s p true f 0 i = R0)) (fun _ ii => s.size + 2 - (intOf ii).toNat)
    case atStart => exact ⟨p, s.size, rfl, rfl, by omega, by omega, by omega, HR0⟩
    case round =>
      obtain ⟨i, f, rfl, rfl, hpi, hi, hf, HL⟩ := hrel
      clear HR0
      by_cases hlt : i < s.size
      · obtain ⟨f, rfl⟩ : ∃ g, f = g + 1 := ⟨f - 1, by omega⟩
        have hlt2 : (i : Int) < s.size := by omega
        have hx := bt_nat s i
        obtain ⟨C, hC⟩ : ∃ C, bt s i = C := ⟨_, rfl⟩
        have hl := HL.out
        simp only [behF, hlt, if_true, hC] at hl
        rw [hC] at hx
        clear hC HL
        by_cases e1 : C = 92
        · subst e1
          rw [if_pos rfl] at hl
          have HL := Aside0.mk hl
          clear hl
          go_wp2
          go_round
          case rel => exact ⟨i + 2, f, by go_num, rfl, by omega, by omega, by omega, HL⟩
          case measure => simp [intOf]; omega
        · rw [if_neg e1] at hl
          have b1 : (C == 92) = false := beq_eq_false_iff_ne.2 e1
          by_cases e2 : p < i
          · by_cases e3 : C = 34
            · rw [if_pos ⟨e2, e3⟩] at hl
              have b3 : (C == 34) = true := beq_iff_eq.2 e3
              have HL := Aside0.mk hl
              clear hl e3 e1
              go_wp2
              go_ret
              exact ⟨by rw [← HL.out]; rfl, Drawn0.refl _⟩
            · rw [if_neg (fun h => e3 h.2)] at hl
              have b3 : (C == 34) = false := beq_eq_false_iff_ne.2 e3
              have HL := Aside0.mk hl
              clear hl e1 e3
              go_wp2
              go_round
              case rel => exact ⟨i + 1, f, by go_num, rfl, by omega, by omega, by omega, HL⟩
              case measure => simp [intOf]; omega
          · rw [if_neg (fun h => e2 h.1)] at hl
            have HL := Aside0.mk hl
            clear hl e1
            go_wp2
            go_round
            case rel => exact ⟨i + 1, f, by go_num, rfl, by omega, by omega, by omega, HL⟩
            case measure => simp [intOf]; omega
      · have hl := HL.out
        rw [behF_end s p true f 0 i hlt] at hl
        have HF := Aside0.mk hl
        clear hl HL
        go_wp2
        go_ret
        exact ⟨by rw [← HF.out]; rfl, Drawn0.refl _⟩
theorem abutmentref07_Behind.calls (a0 : ByteArray) (a1 : Int) (r : Int) (w : World) (h : abutmentref07_Behind.f a0 a1 = some r) :
    Calls Try.prog 55 #[.string a0, .int .i64 a1] w fun e w' => e = .returned (.int .i64 r) ∧ Drawn0 w w' := by
  by_cases hh : 0 ≤ a1 ∧ a1 < a0.size ∧ a0.size ≤ 140737488351232
  · rw [abutmentref07_Behind.f, if_pos hh] at h
    obtain rfl := Option.some.inj h
    obtain ⟨p, rfl⟩ := Int.eq_ofNat_of_zero_le hh.1
    exact behind_walk _ a0 p w (by omega) hh.2.2 rfl
  · rw [abutmentref07_Behind.f, if_neg hh] at h
    cases h


end Go.Proofs.Ytkjkbenmoogdjaa.X
namespace Go.Proofs.Ytkjkbenmoogdjaa.X
open Go.RowKit Go.Proofs.YtkjkbenmoogdjaaW.PrintWords Go.Proofs.YtkjkbenmoogdjaaW.PrintLast Go.Proofs.YtkjkbenmoogdjaaW.PrintMore
attribute [local go_sem] max2_int min2_int max_two min_two max_three min_three max_four min_four   -- for this text's walks alone
set_option linter.unusedVariables false
set_option linter.unusedSimpArgs false

/-! ### lists_elements_1: function 86 -/
open Go.Shelf
attribute [local go_sem] Oper.semAt_some
/-! ### A range over an iterator that keeps a variable of type T of its own -/
/-- What is said abides the turn of a block of cells of type T from B on. -/
def AbidesT {β : Type} (T B : Nat) (J : β → World → Prop) : Prop :=
  ∀ s A A' row, J s A → A.grownBy A' row → (∀ r, row = some r → B ≤ r ∧ ∃ cells fr, A.heap[r]? = some (.cells cells T fr)) → J s A'
/-- .. and that of a block that is no cells, from B on. -/
def OwnT {β : Type} (T B : Nat) (I : β → World → Prop) : Prop :=
  ∀ s A A' row, I s A → A.grownBy A' row → (∀ r, row = some r → B ≤ r ∧ ∃ o : Obj, A.heap[r]? = some o ∧ (o.isCells = false ∨ ∃ cells fr, o = .cells cells T fr)) → I s A'
theorem OwnT.abides {β : Type} {T B : Nat} {I : β → World → Prop} (h : OwnT T B I) : AbidesT T B I :=
  fun s A A' row hs hg hr => h s A A' row hs hg (fun r e => by obtain ⟨hb, c, fr, ho⟩ := hr r e; exact ⟨hb, _, ho, .inr ⟨c, fr, rfl⟩⟩)
theorem OwnT.putObj {β : Type} {T B : Nat} {I : β → World → Prop} (h : OwnT T B I) {s : β} {W : World} {l : Nat} {o : Obj} (o' : Obj) (hs : I s W) (hB : B ≤ l) (hl : W.heap[l]? = some o) (ho : o.isCells = false) : I s (W.putObj l o') :=
  h s W _ (some l) hs (grownBy_putObj' W l o') (fun r e => by cases e; exact ⟨hB, o, hl, .inl ho⟩)
theorem OwnT.alloc {β : Type} {T B : Nat} {I : β → World → Prop} (h : OwnT T B I) {s : β} {W : World} (o : Obj) (hs : I s W) : I s (W.alloc o) :=
  h s W _ none hs (World.grownBy_alloc W o none) (fun r e => by cases e)
/-- Called with yield, the iterator hands it xs, one by one, if every round goes on and keeps Kp. -/
def SeqT {α : Type} (T : Nat) (n : Nat) (P : Program) (g : Nat) (lb : Array Value) (enc : α → Value) (Kp : World → World → Prop) (xs : List α) (w : World) : Prop :=
  ∀ (l : Nat) (J : List α → World → Prop) (W : World), Below w.heap.size w W → AbidesT T W.heap.size J →
    (∀ pre x W1, J pre W1 → pre ++ [x] <+: xs → YieldAt Fence.wide (n - 1) P l #[enc x] W1 fun e W' => e = .returned (.bool true) ∧ J (pre ++ [x]) W' ∧ Kp W1 W') →
    J [] W →
    CallsIn Fence.wide n P g (#[.func (.yield l) #[] #[]] ++ lb) W fun e W' => (∃ v, e = .returned v) ∧ J xs W'
def postT {α : Type} (B : Nat) (Kp : World → World → Prop) (I : List α → World → Prop) (xs : List α) (W : World) : Exit → Act → World → Prop
  | .normal, _, W' => KeepsFrom B W W' ∧ Kp W W' ∧ I xs W'
  | _, _, _ => False
theorem wpIn_rangeT {α : Type} {n : Nat} {P : Program} {T : Nat} {g : Operand} {p : Tmp} {assign body : Code} {Q : Exit → Act → World → Prop} {a : Act} {w : World}
    (h1 : 1 ≤ n) {gf : Nat} {lb : Array Value} (hg : a.eval g = .func (.func gf) #[] lb) (eg : ∀ args w, (callFunc gf args).run P w = .ok (.enter gf args) w)
    {enc : α → Value} {Kp : World → World → Prop} {xs : List α} {w0 : World} (hseq : SeqT T (n - 1) P gf lb enc Kp xs w0)
    (hKt : ∀ {A B C : World}, Kp A B → Kp B C → Kp A C) (hKb : ∀ (W : World) (l : Nat) (o o' : Obj), w.heap.size ≤ l → W.heap[l]? = some o → o.isCells = false → Kp W (W.putObj l o')) (hb0 : Below w0.heap.size w0 w)
    (I : List α → World → Prop) (hI : OwnT T w.heap.size I) (h0 : I [] w) (a₁ : α → Act)
    (hassign : ∀ (l : Nat) (x : α) (W : World) (K : Act → World → Prop), K (a₁ x) W →
      assign.wpIn (Fence.wide.inRound l) (n - 1 - 1) P (Exit.then K (fun _ _ _ => False)) { tmps := ((#[p] : Array Tmp).zip #[enc x]).foldl (fun t (p, v) => t.setIfInBounds p v) a.tmps, defers := [] } W)
    (hbody : ∀ (l : Nat) (pre : List α) (x : α) (W : World), I pre W → pre ++ [x] <+: xs → body.wpIn (Fence.wide.inRound l) (n - 1 - 1) P (postT w.heap.size Kp I (pre ++ [x]) W) (a₁ x) W)
    (hdone : ∀ (D : Nat) (W : World), w.heap.size ≤ D → I xs W → W.heap[D]? = some (.deferred (some [])) → Q .normal { a with defers := { target := .collected D, args := #[] } :: a.defers } W) :
    (Code.rangeFunc g #[p] assign body).wpIn Fence.wide n P Q a w := by
  refine wpIn_rangeFunc ?_
  intro fn hfn
  obtain ⟨rec, hrec⟩ : ∃ rec : LoopState → Option Code → Loop, rec = fun st pe => { state := st, pending := pe, fn, tmps := a.tmps, params := #[p], assign, body, defers := w.heap.size } := ⟨_, rfl⟩
  obtain ⟨W1, hW1⟩ : ∃ W1, (w.alloc (.deferred (some []))).alloc (.loop (rec .ready none)) = W1 := ⟨_, rfl⟩
  have hsz1 : W1.heap.size = w.heap.size + 2 := by rw [← hW1]; simp
  have hL1 : W1.heap[w.heap.size + 1]? = some (.loop (rec .ready none)) := by
    rw [← hW1]; have := World.alloc_heap_new (w.alloc (.deferred (some []))) (.loop (rec .ready none)); rwa [World.size_alloc] at this
  have hK1 : W1.heap[w.heap.size]? = some (.deferred (some [])) := by
    rw [← hW1]; exact (Below.heap_alloc _ _ _ (by simp)).trans (World.alloc_heap_new w _)
  have hI1 : I [] W1 := by rw [← hW1]; exact hI.alloc _ (hI.alloc _ h0)
  have hb1 : Below w0.heap.size w0 W1 := by
    rw [← hW1]; exact hb0.trans ((((Below.refl _ w).alloc (Nat.le_refl _) _).alloc (by simp) _).mono hb0.size)
  refine ⟨w.heap.size + 1, [{ target := .collected w.heap.size, args := #[] }], W1, { target := .fn (.func gf) lb, args := #[.func (.yield (w.heap.size + 1)) #[] #[]] }, W1, gf,
    #[.func (.yield (w.heap.size + 1)) #[] #[]] ++ lb, W1, ?_, ?_, fun _ _ => trivial, ?_, fun _ => h1, ?_⟩
  · rw [← hW1, hrec]; exact run_enterLoop_outer _ _ _ _ _
  · simp only [resolve, hg]
    simp [go_sem]
  · simp [invoke, go_sem, eg]
  · refine (hseq (w.heap.size + 1)
      (fun pre W => I pre W ∧ W.heap[w.heap.size + 1]? = some (.loop (rec .ready none)) ∧ W.heap[w.heap.size]? = some (.deferred (some []))) W1 hb1 ?_ ?_ ⟨hI1, hL1, hK1⟩).mono ?_
    · intro s A B row hs hg' hr
      refine ⟨hI.abides s A B row hs.1 hg' (fun r e => ⟨by have := (hr r e).1; omega, (hr r e).2⟩), ?_, ?_⟩
      · refine (hg'.block _ (Array.getElem?_eq_some_iff.1 hs.2.1).1 ?_).trans hs.2.1
        intro e; obtain ⟨hb, c, fr, ho⟩ := hr _ e.symm
        omega
      · refine (hg'.block _ (Array.getElem?_eq_some_iff.1 hs.2.2).1 ?_).trans hs.2.2
        intro e; obtain ⟨hb, c, fr, ho⟩ := hr _ e.symm
        omega
    · rintro pre x W ⟨hi, hl, hk⟩ hlen
      have hlt : w.heap.size + 1 < W.heap.size := (Array.getElem?_eq_some_iff.1 hl).1
      have hy := run_yield (P := P) (args := #[enc x]) hl (by rw [hrec]; rfl)
      rw [hrec] at hy
      refine ⟨fn, _, assign, body, hy, roundIn_of_wpIn hfn (hassign _ x W _ ⟨_, run_beginRound hl (by rw [hrec]), ?_⟩)⟩
      have hl2 : (W.putObj (w.heap.size + 1) (.loop { rec .ready none with state := .busy })).heap[w.heap.size + 1]? = some (.loop { rec .ready none with state := .busy }) := World.putObj_heap_same hlt
      have hk2 : (W.putObj (w.heap.size + 1) (.loop { rec .ready none with state := .busy })).heap[w.heap.size]? = some (.deferred (some [])) := (World.putObj_heap_other (by omega)).trans hk
      have hw2 : Kp W (W.putObj (w.heap.size + 1) (.loop { rec .ready none with state := .busy })) := hKb _ _ _ _ (by omega) hl rfl
      refine wpIn_mono (hbody _ pre x _ (hI.putObj _ hi (by omega) hl rfl) hlen) ?_
      rintro e a3 W3 hp
      cases e with
      | normal =>
        obtain ⟨hk3, hkp3, hi3⟩ := hp
        have hl3 := hk3.same _ _ (by omega) hl2 rfl
        have hr := run_endRound (P := P) none hl3
        rw [hrec] at hr
        have hl4 : (W3.putObj (w.heap.size + 1) (.loop (rec .ready none))).heap[w.heap.size + 1]? = some (.loop (rec .ready none)) := World.putObj_heap_same (Array.getElem?_eq_some_iff.1 hl3).1
        have hk4 : (W3.putObj (w.heap.size + 1) (.loop (rec .ready none))).heap[w.heap.size]? = some (.deferred (some [])) := (World.putObj_heap_other (by omega)).trans (hk3.same _ _ (Nat.le_refl _) hk2 rfl)
        refine ⟨_, _, hr, rfl, ?_, ?_⟩
        · have e1 : W3.putObj (w.heap.size + 1) (.loop (rec .ready none)) = W3.putObj (w.heap.size + 1) (.loop { state := if (none : Option Code).isNone = true then .ready else .done, pending := none, fn := fn, tmps := a.tmps, params := #[p], assign := assign, body := body, defers := w.heap.size }) := by rw [hrec]; rfl
          rw [← e1]
          exact ⟨hI.putObj _ hi3 (by omega) hl3 rfl, hl4, hk4⟩
        · exact hKt (hKt hw2 hkp3) (hKb _ _ _ _ (by omega) hl3 rfl)
      | ret => exact hp.elim
      | exit id => exact hp.elim
      | goto t => exact hp.elim
      | panic ch => exact hp.elim
      | outgrown => exact hp.elim
    · rintro e W2 ⟨⟨v, rfl⟩, hi, hl, hk⟩
      exact ⟨none, _, by have := run_endLoop (P := P) hl (by rw [hrec]; simp); rw [hrec] at this; exact this, hdone _ _ (Nat.le_refl _) (hI.putObj _ hi (by omega) hl rfl) ((World.putObj_heap_other (by omega)).trans hk)⟩
/-! ### What stands between commas that are not closed in -/
def elemsAt (s : ByteArray) : Nat → Nat × List ByteArray
  | 0 => (0, [])
  | i + 1 => if bt s i = 44 ∧ closedS (stAt s i) = true then (i + 1, (elemsAt s i).2 ++ [s.extract (elemsAt s i).1 i]) else elemsAt s i
def elems (s : ByteArray) : List ByteArray := (elemsAt s s.size).2 ++ [s.extract (elemsAt s s.size).1 s.size]
theorem elemsAt_le (s : ByteArray) (i : Nat) : (elemsAt s i).1 ≤ i := by
  induction i with
  | zero => exact Nat.le_refl _
  | succ i ih => unfold elemsAt; split <;> omega
theorem elemsAt_pre (s : ByteArray) (i j : Nat) (h : i ≤ j) : (elemsAt s i).2 <+: (elemsAt s j).2 := by
  induction j with
  | zero => obtain rfl : i = 0 := by omega
            exact List.prefix_rfl
  | succ j ih =>
    by_cases he : i = j + 1
    · subst he; exact List.prefix_rfl
    · have := ih (by omega)
      conv => rhs; unfold elemsAt
      split
      · exact this.trans (List.prefix_append _ _)
      · exact this
theorem elems_pre (s : ByteArray) (i : Nat) (h : i ≤ s.size) : (elemsAt s i).2 <+: elems s := (elemsAt_pre s i s.size h).trans (List.prefix_append _ _)
theorem seeS_comma (st : Bool × Bool × Int) (h : closedS st = true) : seeS st.1 st.2.1 st.2.2 44 = st := by
  obtain ⟨q, sl, d⟩ := st
  cases q <;> cases sl <;> simp [closedS] at h
  subst h
  rfl
/-- What a round keeps: what lay when the call began, the captured text, the scan. -/
def KpS (T n₀ Bn : Nat) (W W' : World) : Prop :=
  Below n₀ W W' ∧ W'.heap[Bn]? = W.heap[Bn]? ∧ ∀ (g : Nat) (cells : Array Value), W.heap[g]? = some (.cells cells T (0, 0)) → W'.heap[g]? = some (.cells cells T (0, 0))
theorem grown_of_keep {n₀ g : Nat} {wS w w' : World} (h0 : Below n₀ wS w) (h1 : Below n₀ wS w') (hk : KeepBut w w' g none) : w.grownBy w' (some g) :=
  ⟨h1.os.trans h0.os.symm, h1.tape.trans h0.tape.symm, h1.output.trans h0.output.symm, hk.1, fun i hi hne => hk.2 i hi (fun e => hne (by rw [e])) (by simp)⟩
theorem keep_block {g k : Nat} {w w' : World} (hk : KeepBut w w' g none) {o : Obj} (h : w.heap[k]? = some o) (hne : k ≠ g) : w'.heap[k]? = some o :=
  (hk.2 k (Array.getElem?_eq_some_iff.1 h).1 hne (by simp)).trans h
theorem cell_of_block {W : World} {B t : Nat} {v : Value} (h : W.heap[B]? = some (.cells #[v] t (0, 0))) : W.cell? ⟨B, 0, none⟩ = some v := by simp [World.cell?, h]
set_option maxRecDepth 100000 in
set_option maxHeartbeats 4000000 in
theorem elements_1_seq (n : Nat) (hn : 1 ≤ n) (s : ByteArray) (hs : s.size ≤ 140737488351232) (Bn : Nat) (wS w : World) (hwS : Below wS.heap.size wS w)
    (hBn : w.heap[Bn]? = some (.cells #[.string s] 9 (0, 0))) :
    SeqT 87 n Try.prog 86 #[.pointer (some ⟨Bn, 0, none⟩)] Value.string (KpS 87 wS.heap.size Bn) (elems s) w := fun l J W hW hJ hY h0 => by
  have hB0 : W.heap[Bn]? = some (.cells #[.string s] 9 (0, 0)) := (hW.block _ (Array.getElem?_eq_some_iff.1 hBn).1).trans hBn
  have hBlt : Bn < W.heap.size := (Array.getElem?_eq_some_iff.1 hB0).1
  have hc0 := cell_of_block hB0
  have hbS : Below wS.heap.size wS W := hwS.trans (hW.mono hwS.size)
  have hI0 := IsS87.new wS W false false 0 hbS
  have HA0 : Aside0 (IsS87 wS (W.alloc (.cells #[.bool false, .bool false, .int .i64 0] 87)) W.heap.size false false 0 ∧ Below wS.heap.size wS (W.alloc (.cells #[.bool false, .bool false, .int .i64 0] 87)) ∧ J [] (W.alloc (.cells #[.bool false, .bool false, .int .i64 0] 87))) :=
    ⟨hI0, hbS.alloc hbS.size _, hJ [] W _ none h0 (World.grownBy_alloc W _ none) (fun r e => by cases e)⟩
  have hB1 : (W.alloc (.cells #[.bool false, .bool false, .int .i64 0] 87)).heap[Bn]? = some (.cells #[.string s] 9 (0, 0)) := (Below.heap_alloc W _ _ hBlt).trans hB0
  clear hI0
  have HB0 := Aside0.mk hB0
  have HB1 := Aside0.mk hB1
  have HBn := Aside0.mk hBn
  clear hB0 hB1 hBn
  refine callsIn_of_wp Try.func86 rfl trivial ?_ rfl
  simp only [Try.ntmps86, List.size_toArray, List.length_cons, List.length_nil, Nat.reduceAdd, Nat.reduceSub, Array.replicate_succ, Array.replicate_zero, List.push_toArray, List.append_toArray, List.nil_append, List.cons_append]
  gi_wp2
  gi_loopw [4, 8] (fun fr i8 wr => ∃ i : Nat, i ≤ s.size ∧ i8 = .int .i64 i ∧ fr = .int .i64 (elemsAt s i).1 ∧ wr.heap[Bn]? = some (.cells #[.string s] 9 (0, 0)) ∧
      Aside0 (IsS87 wS wr W.heap.size (stAt s i).1 (stAt s i).2.1 (stAt s i).2.2 ∧ Below wS.heap.size wS wr ∧ J (elemsAt s i).2 wr)) (fun _ i8 _ => s.size - (intOf i8).toNat)
  case atStart => exact ⟨0, by omega, rfl, rfl, HB1.out, HA0⟩
  case round =>
    obtain ⟨i, hi, rfl, rfl, hBr, HA⟩ := hrel
    clear HA0 HB1
    have hcr := cell_of_block hBr
    have hBr' := Aside0.mk hBr
    clear hBr HB0 HBn
    have hfr := elemsAt_le s i
    have hfr2 : ((elemsAt s i).1 : Int) ≤ i := by omega
    by_cases hlt : i < s.size
    · have hlt2 : (i : Int) < s.size := by omega
      have hx := bt_nat' s i
      have hd := stAt_deep s i
      obtain ⟨C, hCe⟩ : ∃ C, bt s i = C := ⟨_, rfl⟩
      have HCe := Aside0.mk hCe
      rw [hCe] at hx
      clear hCe
      have hne : Bn ≠ W.heap.size := by omega
      by_cases hcm : C = 44
      · subst hcm
        have hC := lists_scan_closed.calls W.heap.size _ _ _ _ _ _ _ wS wr HA.out.1 HA.out.2.1 (closed_f _ _ _)
        have HC := Aside0.mk hC
        clear hC
        cases hcl : closedS (stAt s i)
        · -- a comma that is closed in
          have hcl' : closedS ((stAt s i).1, (stAt s i).2.1, (stAt s i).2.2) = false := hcl
          rw [hcl'] at HC
          have HE : Aside0 (elemsAt s (i + 1) = elemsAt s i) := ⟨by show (if bt s i = 44 ∧ closedS (stAt s i) = true then _ else _) = _; rw [if_neg (by rw [hcl]; simp)]⟩
          clear hcl hcl'
          have HS := fun (w1 : World) (hI1 : IsS87 wS w1 W.heap.size (stAt s i).1 (stAt s i).2.1 (stAt s i).2.2) (hB1 : Below wS.heap.size wS w1) => lists_scan_see.calls 2 W.heap.size _ _ _ 44 _ _ _ wS w1 hI1 hB1 (see_f (stAt s i).1 (stAt s i).2.1 (stAt s i).2.2 44 hd.1 (by omega))
          have HS' := Aside0.mk HS
          clear HS hd
          gi_wp2_with (first
            | (refine ⟨trivial, ?_⟩; gi_at_call 85; refine (callsIn_wide.2 HC.out).mono ?_; rintro e w1 ⟨rfl, hI1, hB1, hk1⟩; have HA1 := Aside0.mk (And.intro hI1 (And.intro hB1 (hJ _ wr w1 (some W.heap.size) HA.out.2.2 (grown_of_keep HA.out.2.1 hB1 hk1) (fun r e => by cases e; exact ⟨Nat.le_refl _, _, _, HA.out.1.1⟩)))); have hBr1 := keep_block hk1 hBr'.out hne; have hc1 := cell_of_block hBr1; have HBr1 := Aside0.mk hBr1; clear hBr1 hI1 hB1 hk1 HC HA)
            | (refine ⟨trivial, ?_⟩; gi_at_call 84; refine (callsIn_wide.2 (HS'.out _ HA1.out.1 HA1.out.2.1)).mono ?_; rintro e w2 ⟨rfl, hI2, hB2, hk2⟩; have HA2 := Aside0.mk (And.intro hI2 (And.intro hB2 (hJ _ _ w2 (some W.heap.size) HA1.out.2.2 (grown_of_keep HA1.out.2.1 hB2 hk2) (fun r e => by cases e; exact ⟨Nat.le_refl _, _, _, HA1.out.1.1⟩)))); have HBr2 := Aside0.mk (keep_block hk2 HBr1.out hne); clear hI2 hB2 hk2 HA1))
          go_roundw
          case rel => exact ⟨i + 1, by omega, by go_num, by rw [HE.out], HBr2.out, by rw [HE.out, stAt, HCe.out]; exact HA2⟩
          case measure => simp [intOf]; omega
        · -- a comma
          have hcl' : closedS ((stAt s i).1, (stAt s i).2.1, (stAt s i).2.2) = true := hcl
          rw [hcl'] at HC
          have HE : Aside0 (elemsAt s (i + 1) = (i + 1, (elemsAt s i).2 ++ [s.extract (elemsAt s i).1 i])) := ⟨by show (if bt s i = 44 ∧ closedS (stAt s i) = true then _ else _) = _; rw [if_pos ⟨HCe.out, hcl⟩]⟩
          have HL : Aside0 ((elemsAt s i).2 ++ [s.extract (elemsAt s i).1 i] <+: elems s) := ⟨by
            have := elems_pre s (i + 1) (by omega)
            rw [HE.out] at this
            exact this⟩
          have HE2 : Aside0 (stAt s (i + 1) = stAt s i) := ⟨by
            show seeS _ _ _ (bt s i) = _
            rw [HCe.out]
            exact seeS_comma _ hcl⟩
          clear hcl hcl' hd
          gi_wp2_with (refine ⟨trivial, ?_⟩; gi_at_call 85; refine (callsIn_wide.2 HC.out).mono ?_; rintro e w1 ⟨rfl, hI1, hB1, hk1⟩; have HA1 := Aside0.mk (And.intro hI1 (And.intro hB1 (hJ _ wr w1 (some W.heap.size) HA.out.2.2 (grown_of_keep HA.out.2.1 hB1 hk1) (fun r e => by cases e; exact ⟨Nat.le_refl _, _, _, HA.out.1.1⟩)))); have hBr1 := keep_block hk1 hBr'.out hne; have hc1 := cell_of_block hBr1; have HBr1 := Aside0.mk hBr1; clear hBr1 hI1 hB1 hk1 HC HA; obtain ⟨fn, tmps, assign, body, hy, hR⟩ := hY (elemsAt s i).2 (s.extract (elemsAt s i).1 i) w1 HA1.out.2.2 HL.out)
          refine hR.mono ?_
          rintro e W3 ⟨rfl, hJ3, hk3⟩
          have HA3 : Aside0 (IsS87 wS W3 W.heap.size (stAt s i).1 (stAt s i).2.1 (stAt s i).2.2 ∧ Below wS.heap.size wS W3 ∧ J ((elemsAt s i).2 ++ [s.extract (elemsAt s i).1 i]) W3) := ⟨⟨hk3.2.2 _ _ HA1.out.1.1, HA1.out.1.2⟩, HA1.out.2.1.trans hk3.1, hJ3⟩
          have HBr3 := Aside0.mk (hk3.2.1.trans HBr1.out)
          clear hJ3 hk3 hy
          gi_wp2
          go_roundw
          case rel => exact ⟨i + 1, by omega, by go_num, by rw [HE.out]; go_num, HBr3.out, by rw [HE.out, HE2.out]; exact HA3⟩
          case measure => simp [intOf]; omega
      · have hb : (C == 44) = false := beq_eq_false_iff_ne.2 hcm
        have HE : Aside0 (elemsAt s (i + 1) = elemsAt s i) := ⟨by show (if bt s i = 44 ∧ closedS (stAt s i) = true then _ else _) = _; rw [if_neg (by rw [HCe.out]; exact fun h => hcm h.1)]⟩
        have hC := lists_scan_see.calls 2 W.heap.size _ _ _ C _ _ _ wS wr HA.out.1 HA.out.2.1 (see_f (stAt s i).1 (stAt s i).2.1 (stAt s i).2.2 C hd.1 (by omega))
        have HC := Aside0.mk hC
        clear hC hcm hd
        gi_wp2_with fail
        refine ⟨trivial, ?_⟩
        gi_wp2_with (refine ⟨trivial, ?_⟩; gi_at_call 84; refine (callsIn_wide.2 HC.out).mono ?_; rintro e w2 ⟨rfl, hI2, hB2, hk2⟩; have HA2 := Aside0.mk (And.intro hI2 (And.intro hB2 (hJ _ _ w2 (some W.heap.size) HA.out.2.2 (grown_of_keep HA.out.2.1 hB2 hk2) (fun r e => by cases e; exact ⟨Nat.le_refl _, _, _, HA.out.1.1⟩)))); have HBr2 := Aside0.mk (keep_block hk2 hBr'.out hne); clear hI2 hB2 hk2 HA)
        go_roundw
        case rel => exact ⟨i + 1, by omega, by go_num, by rw [HE.out], HBr2.out, by rw [HE.out, stAt, HCe.out]; exact HA2⟩
        case measure => simp [intOf]; omega
    · obtain rfl : i = s.size := by omega
      obtain ⟨fn, tmps, assign, body, hy, hR⟩ := hY (elemsAt s s.size).2 (s.extract (elemsAt s s.size).1 s.size) wr HA.out.2.2 List.prefix_rfl
      gi_wp2
      refine hR.mono ?_
      rintro e W3 ⟨rfl, hJ3, hk3⟩
      have HJ3 := Aside0.mk hJ3
      clear hJ3 hk3 hy
      gi_wp2
      go_end0
      exact ⟨⟨_, rfl⟩, HJ3.out⟩


end Go.Proofs.Ytkjkbenmoogdjaa.X
namespace Go.Proofs.Ytkjkbenmoogdjaa.X
open Go.RowKit Go.Proofs.YtkjkbenmoogdjaaW.PrintWords Go.Proofs.YtkjkbenmoogdjaaW.PrintLast Go.Proofs.YtkjkbenmoogdjaaW.PrintMore
attribute [local go_sem] max2_int min2_int max_two min_two max_three min_three max_four min_four   -- for this text's walks alone
set_option linter.unusedVariables false
set_option linter.unusedSimpArgs false

/-! ### pure text 1: trim -/
theorem wrap_id (x : Int) (h1 : -9223372036854775808 ≤ x) (h2 : x ≤ 9223372036854775807) : wrap64 x = x := by unfold wrap64; omega
/-- A blank, or a tab. -/
def bl (c : UInt8) : Bool := c == 32 || c == 9
def dropE {α : Type} (p : α → Bool) (l : List α) : List α := (l.reverse.dropWhile p).reverse
theorem dropE_nil {α : Type} (p : α → Bool) : dropE p [] = [] := rfl
theorem dropE_snoc {α : Type} (p : α → Bool) (l : List α) (c : α) : dropE p (l ++ [c]) = if p c = true then dropE p l else l ++ [c] := by
  unfold dropE
  rw [List.reverse_append]
  simp only [List.reverse_cons, List.reverse_nil, List.nil_append, List.singleton_append, List.dropWhile_cons]
  split <;> simp
def trimL (l : List UInt8) : List UInt8 := dropE bl (l.dropWhile bl)
def trimB (s : ByteArray) : ByteArray := ⟨(trimL s.data.toList).toArray⟩
theorem size_list (s : ByteArray) : s.size = s.data.toList.length := Lib.size_eq s
theorem bt_list (s : ByteArray) (i : Nat) (h : i < s.data.toList.length) : bt s (i : Int) = ((s.data.toList[i]'h).toNat : Int) := by
  have h2 : i < s.size := by rw [size_list]; exact h
  have := bt_at s (i : Int) (by simpa using h2)
  rw [← this]
  rfl
theorem u8_eq (c d : UInt8) : ((c.toNat : Int) = (d.toNat : Int)) ↔ c = d := ⟨fun h => UInt8.toNat_inj.1 (by omega), fun h => by rw [h]⟩
theorem bl_int (c : UInt8) : (if (c.toNat : Int) = 32 then some true else some (((c.toNat : Int)) == 9)) = some (bl c) := by
  have h32 : ((c.toNat : Int) = 32) ↔ c = 32 := u8_eq c 32
  have h9 : ((c.toNat : Int) = 9) ↔ c = 9 := u8_eq c 9
  unfold bl
  by_cases e : c = 32
  · rw [if_pos (h32.2 e)]; simp [e]
  · rw [if_neg (fun h => e (h32.1 h))]
    by_cases e2 : c = 9
    · rw [h9.2 e2]; simp [e2]
    · have e3 : ((c.toNat : Int) == 9) = false := beq_eq_false_iff_ne.2 (fun h => e2 (h9.1 h))
      simp [e, e2, e3]
theorem ext_list (s : ByteArray) (a b : Nat) : s.extract a b = ⟨((s.data.toList.drop a).take (b - a)).toArray⟩ := Lib.extract_eq s a b
theorem take_snoc' {α : Type} (l : List α) (i : Nat) (h : i < l.length) : l.take (i + 1) = l.take i ++ [l[i]] := by
  rw [List.take_succ_eq_append_getElem h]
theorem octet_blank_f (s : ByteArray) (i : Nat) (h : i < s.data.toList.length) : octet_blank.f (bt s (i : Int)) = some (bl (s.data.toList[i]'h)) := by
  unfold octet_blank.f
  rw [bt_list s i h]
  exact bl_int _
theorem octet_trim_l1 (s : ByteArray) (hs : s.size ≤ 140737488351232) : ∀ (d a b k : Nat), b - a = d → a ≤ b → b ≤ s.size → d < k →
    octet_Trim.l1 k s (a : Int) (b : Int) = some ⟨(dropE bl ((s.data.toList.drop a).take (b - a))).toArray⟩ := by
  intro d
  induction d with
  | zero =>
    intro a b k hd hab hb hk
    obtain ⟨k, rfl⟩ : ∃ m, k = m + 1 := ⟨k - 1, by omega⟩
    obtain rfl : a = b := by omega
    simp only [octet_Trim.l1]
    rw [if_neg (by omega), if_pos (by omega), if_pos (by omega), if_pos (by omega), ext_list]
    simp [dropE]
  | succ d ih =>
    intro a b k hd hab hb hk
    obtain ⟨k, rfl⟩ : ∃ m, k = m + 1 := ⟨k - 1, by omega⟩
    obtain ⟨c, rfl⟩ : ∃ c, b = c + 1 := ⟨b - 1, by omega⟩
    have hw : wrap64 (((c + 1 : Nat) : Int) - 1) = (c : Int) := by rw [wrap_id _ (by omega) (by omega)]; omega
    have hlen : c < s.data.toList.length := by rw [← size_list]; omega
    have hsn : (s.data.toList.drop a).take (c + 1 - a) = (s.data.toList.drop a).take (c - a) ++ [s.data.toList[c]'hlen] := by
      have h1 : c - a < (s.data.toList.drop a).length := by rw [List.length_drop]; omega
      rw [show c + 1 - a = (c - a) + 1 by omega, take_snoc' _ _ h1]
      congr 2
      rw [List.getElem_drop]
      congr 1
      omega
    simp only [octet_Trim.l1]
    rw [if_pos (by omega), hw, if_pos (by omega), if_pos (by omega), octet_blank_f s c hlen]
    simp only [Option.bind_some]
    rw [hsn, dropE_snoc]
    cases hbl : bl (s.data.toList[c]'hlen)
    · simp only [Bool.false_eq_true, if_false]
      rw [if_pos (by omega), if_pos (by omega), if_pos (by omega), ext_list, ← hsn]
      simp
    · simp only [if_true]
      exact ih a c k (by omega) (by omega) (by omega) (by omega)
theorem octet_trim_l0 (s : ByteArray) (hs : s.size ≤ 140737488351232) : ∀ (d i k : Nat), s.size - i = d → i ≤ s.size → d + s.size + 2 < k →
    octet_Trim.l0 k s (i : Int) (s.size : Int) = some ⟨(dropE bl ((s.data.toList.drop i).dropWhile bl)).toArray⟩ := by
  intro d
  induction d with
  | zero =>
    intro i k hd hi hk
    obtain ⟨k, rfl⟩ : ∃ m, k = m + 1 := ⟨k - 1, by omega⟩
    obtain rfl : i = s.size := by omega
    simp only [octet_Trim.l0]
    rw [if_neg (by omega)]
    obtain ⟨k, rfl⟩ : ∃ m, k = m + 1 := ⟨k - 1, by omega⟩
    simp only [octet_Trim.j1]
    rw [octet_trim_l1 s hs 0 s.size s.size k (by omega) (by omega) (by omega) (by omega)]
    have : s.data.toList.drop s.size = [] := by rw [List.drop_eq_nil_iff, ← size_list]; omega
    simp [this, dropE]
  | succ d ih =>
    intro i k hd hi hk
    obtain ⟨k, rfl⟩ : ∃ m, k = m + 1 := ⟨k - 1, by omega⟩
    have hlen : i < s.data.toList.length := by rw [← size_list]; omega
    have hdr : s.data.toList.drop i = s.data.toList[i]'hlen :: s.data.toList.drop (i + 1) := List.drop_eq_getElem_cons hlen
    simp only [octet_Trim.l0]
    rw [if_pos (by omega), if_pos (by omega), if_pos (by omega), octet_blank_f s i hlen]
    simp only [Option.bind_some]
    rw [hdr, List.dropWhile_cons]
    cases hbl : bl (s.data.toList[i]'hlen)
    · simp only [Bool.false_eq_true, if_false]
      obtain ⟨k, rfl⟩ : ∃ m, k = m + 1 := ⟨k - 1, by omega⟩
      simp only [octet_Trim.j1]
      rw [octet_trim_l1 s hs (s.size - i) i s.size k rfl (by omega) (by omega) (by omega), ← hdr, List.take_of_length_le (by rw [List.length_drop, ← size_list]; omega)]
    · simp only [if_true]
      have hw : wrap64 ((i : Int) + 1) = ((i + 1 : Nat) : Int) := by rw [wrap_id _ (by omega) (by omega)]; omega
      rw [hw]
      exact ih (i + 1) k (by omega) (by omega) (by omega)
theorem octet_trim (s : ByteArray) (hs : s.size ≤ 140737488351232) (k : Nat) (hk : 2 * s.size + 2 < k) : octet_Trim.f k s = some (trimB s) := by
  have := octet_trim_l0 s hs s.size 0 k (by omega) (by omega) (by omega)
  unfold octet_Trim.f trimB trimL
  simpa using this


end Go.Proofs.Ytkjkbenmoogdjaa.X
namespace Go.Proofs.Ytkjkbenmoogdjaa.X
open Go.RowKit Go.Proofs.YtkjkbenmoogdjaaW.PrintWords Go.Proofs.YtkjkbenmoogdjaaW.PrintLast Go.Proofs.YtkjkbenmoogdjaaW.PrintMore
attribute [local go_sem] max2_int min2_int max_two min_two max_three min_three max_four min_four   -- for this text's walks alone
set_option linter.unusedVariables false
set_option linter.unusedSimpArgs false

/-! ### pure text 3: mem -/
theorem rowR (e : Nat) {w : World} {base : Nat} {v : Value} {l : List ByteArray} (h : w.ownsRow base e 1 v l.length (l.map Value.string)) : Kd.R Kd.string e w base (fun _ => True) v l := by
  refine ⟨fun _ _ => trivial, l.map Value.string, h, ?_⟩
  refine ⟨by simp [Kd.string, Kd.scalar], fun j p hj => ?_⟩
  obtain ⟨hlt, he⟩ := List.getElem?_eq_some_iff.1 hj
  show (List.take 1 (List.drop (j * 1) (l.map Value.string))) = [Value.string p]
  rw [Nat.mul_one, List.drop_eq_getElem_cons (by simpa using hlt)]
  simp [he]
/-- A row of texts of one's own: its cells. -/
theorem row_cells {e base : Nat} {w : World} {ok : Nat → Prop} {v : Value} {l : List ByteArray} (h : Kd.R Kd.string e w base ok v l) :
    (l = [] ∧ v = .slice none 0 0) ∨ ∃ g c, v = .slice (some ⟨g, 0, none⟩) l.length c ∧ base ≤ g ∧ g < w.heap.size ∧ l.length ≤ c ∧ l.length ≤ 9223372036854775807 ∧ ∀ (j : Nat) x, l[j]? = some x → w.cell? ⟨g, 0 + j, none⟩ = some (.string x) := by
  obtain ⟨A, c, rfl, hlc, hC⟩ := Kd.R_reads h
  obtain ⟨_, inner, ho, _⟩ := h
  rcases ho.2 with ⟨he, h0⟩ | ⟨g, cap, cur, he, hg, hh, _⟩
  · left
    injection he with h1 h2 h3
    subst h1; subst h3
    have : l.length = 0 := h2
    refine ⟨List.eq_nil_of_length_eq_zero this, ?_⟩
    rw [this]
  · right
    injection he with h1 h2 h3
    subst h1
    refine ⟨g, c, rfl, hg, (Array.getElem?_eq_some_iff.1 hh).1, hlc, hC.2.1, fun j x hj => ?_⟩
    have hlt : j < l.length := (List.getElem?_eq_some_iff.1 hj).1
    obtain ⟨ad, e1, hx⟩ := Kd.at_string hC (j : Int) (by omega) (by omega)
    injection e1 with e1
    subst e1
    rw [add_plain] at hx
    rw [Nat.zero_add]
    simp only [rdOf] at hx
    simp only [Int.toNat_natCast, List.getD_eq_getElem?_getD, hj, Option.getD_some] at hx
    exact hx
/-- A row of texts that is read: its cells. -/
theorem reads_cells {w : World} {A : Option Addr} {n : Nat} {l : List ByteArray} (h : Kd.C Kd.string w A n l) (hl : l ≠ []) :
    ∃ g o, A = some ⟨g, o, none⟩ ∧ g < w.heap.size ∧ ∀ (j : Nat) x, l[j]? = some x → w.cell? ⟨g, o + j, none⟩ = some (.string x) := by
  have hn : l.length = n := h.1
  have hpos : 0 < l.length := List.length_pos_iff.2 hl
  have hx : ∀ (j : Nat) x, l[j]? = some x → ∃ ad, A = some ad ∧ w.cell? (ad.add j) = some (.string x) := by
    intro j x hj
    have hlt : j < l.length := (List.getElem?_eq_some_iff.1 hj).1
    obtain ⟨ad, e1, hx⟩ := Kd.at_string h (j : Int) (by omega) (by omega)
    refine ⟨ad, e1, ?_⟩
    simp only [rdOf, Int.toNat_natCast, List.getD_eq_getElem?_getD, hj, Option.getD_some] at hx
    exact hx
  obtain ⟨ad, rfl, h0⟩ := hx 0 _ (List.getElem?_eq_getElem hpos)
  obtain ⟨g, o, sp⟩ := ad
  have h0' : w.cell? ⟨g, o, sp⟩ = some (.string l[0]) := h0
  have hlt := World.block_lt_of_cell? w _ h0'
  cases sp with
  | some z =>
    exfalso
    unfold World.cell? at h0'
    split at h0'
    · simp at h0'
    · cases h0'
  | none =>
    refine ⟨g, o, rfl, hlt, fun j x hj => ?_⟩
    obtain ⟨ad, e1, hc⟩ := hx j x hj
    injection e1 with e1
    subst e1
    unfold Addr.add at hc
    split at hc
    · rename_i h; subst h; exact hc
    · exact hc


end Go.Proofs.Ytkjkbenmoogdjaa.X
namespace Go.Proofs.Ytkjkbenmoogdjaa.X
open Go.RowKit Go.Proofs.YtkjkbenmoogdjaaW.PrintWords Go.Proofs.YtkjkbenmoogdjaaW.PrintLast Go.Proofs.YtkjkbenmoogdjaaW.PrintMore
attribute [local go_sem] max2_int min2_int max_two min_two max_three min_three max_four min_four   -- for this text's walks alone
set_option linter.unusedVariables false
set_option linter.unusedSimpArgs false

/-! ### lists_Split: function 19 -/
open Go.Shelf
attribute [local go_sem] Oper.semAt_some
def full (e : ByteArray) : Bool := !e.toList.isEmpty
/-- What of some texts is kept: trimmed, and not empty. -/
def keptL (l : List ByteArray) : List ByteArray := (l.map trimB).filter full
theorem keptL_hit (pre : List ByteArray) (x : ByteArray) (h : full (trimB x) = true) : keptL (pre ++ [x]) = keptL pre ++ [trimB x] := by simp [keptL, h]
theorem keptL_miss (pre : List ByteArray) (x : ByteArray) (h : full (trimB x) = false) : keptL (pre ++ [x]) = keptL pre := by simp [keptL, h]
theorem keptL_len (pre : List ByteArray) : (keptL pre).length ≤ pre.length := by
  unfold keptL
  exact Nat.le_trans (List.length_filter_le _ _) (by simp)
theorem elemsAt_len_le (s : ByteArray) (i : Nat) : (elemsAt s i).2.length ≤ i := by
  induction i with
  | zero => exact Nat.le_refl _
  | succ i ih =>
    unfold elemsAt
    split
    · simp; omega
    · omega
theorem elems_len_le (s : ByteArray) : (elems s).length ≤ s.size + 1 := by
  have := elemsAt_len_le s s.size
  unfold elems; simp; omega
theorem elems_size (s : ByteArray) : ∀ x ∈ elems s, x.size ≤ s.size := by
  have h : ∀ i, ∀ x ∈ (elemsAt s i).2, x.size ≤ s.size := by
    intro i
    induction i with
    | zero => intro x hx; simp [elemsAt] at hx
    | succ i ih =>
      intro x hx
      unfold elemsAt at hx
      split at hx
      · rcases List.mem_append.1 hx with hx | hx
        · exact ih x hx
        · simp at hx; subst hx; rw [ByteArray.size_extract]; omega
      · exact ih x hx
  intro x hx
  rcases List.mem_append.1 hx with hx | hx
  · exact h _ x hx
  · simp at hx; subst hx; rw [ByteArray.size_extract]; omega
/-- P7.1: the list's elements, and whether all that is closed in ends. -/
def splitB (a0 : ByteArray) : List ByteArray × Bool := if closedS (stAt a0 a0.size) = true then (keptL (elems a0), true) else ([], false)
def lists_Split.f (a0 : ByteArray) : Option (List ByteArray × Bool) := if a0.size ≤ 1000000 then some (splitB a0) else none
theorem infoStr : (Try.prog.info? 9).map (fun i => (i.zero, i.size, i.bytes)) = some (some (.string ⟨#[]⟩), 1, 16) := by kernel_rfl
/-- A store through a variable's box behind an append: other blocks stay. -/
theorem app_block {W w1 : World} {B : Nat} {v v' : Value} {tmp : Obj} (hgrow : (W.alloc tmp).grownBy w1 v.ownBlock) {g : Nat} {o : Obj} (hg : W.heap[g]? = some o) (h1 : some g ≠ v.ownBlock) (h2 : g ≠ B) :
    (w1.setCell ⟨B, 0, none⟩ v').heap[g]? = some o := by
  have hlt := (Array.getElem?_eq_some_iff.1 hg).1
  rw [Below.heap_setCell _ _ _ _ h2, hgrow.block g (by simp; omega) h1, Below.heap_alloc W tmp g hlt]
  exact hg
theorem row_ne {W : World} {base e size k : Nat} {v : Value} {xs : List Value} (hr : W.ownsRow base e size v k xs) {g t : Nat} {cells : Array Value} (hg : W.heap[g]? = some (.cells cells t (0, 0))) (hte : t ≠ e) : some g ≠ v.ownBlock := by
  intro h
  obtain ⟨c, hc⟩ := own_typed hr g h.symm
  rw [hc] at hg
  injection hg with hg
  injection hg with _ hg
  exact hte hg.symm
theorem row_ge {W : World} {base e size k : Nat} {v : Value} {xs : List Value} (hr : W.ownsRow base e size v k xs) {g : Nat} (hg : g < base) : some g ≠ v.ownBlock := by
  intro h
  have := own_base hr g h.symm
  omega
set_option maxRecDepth 100000 in
set_option maxHeartbeats 4000000 in
theorem split_closed (s : ByteArray) (hs : s.size ≤ 1000000) (w : World) (hcl : closedS (stAt s s.size) = true) :
    Calls Try.prog 19 #[.string s] w fun e w' => ∃ v, e = .returned (.tuple #[v, .bool true]) ∧ w'.ownsRow w.heap.size 9 1 v (keptL (elems s)).length ((keptL (elems s)).map Value.string) ∧ Below w.heap.size w w' := by
  obtain ⟨i0, hi, hz0, hz1, hz2⟩ := info_parts infoStr
  have hE := lists_ends.calls s true w (by unfold lists_ends.f; rw [if_pos (by omega), hcl])
  have HE := Aside0.mk hE
  clear hE hcl
  have hne := elems_len_le s
  have HX := Aside0.mk (elems_size s)
  refine (callsIn_wide (n := 3)).1 ?_
  refine callsIn_of_wp_marks Try.func19 rfl trivial ?_ rfl
  simp only [Try.ntmps19, List.size_toArray, List.length_cons, List.length_nil, Nat.reduceAdd, Nat.reduceSub, Array.replicate_succ, Array.replicate_zero, List.push_toArray, List.append_toArray, List.nil_append, List.cons_append]
  gi_wp2_with (first
    | (refine ⟨trivial, ?_⟩; gi_at_call 53; refine (callsIn_wide.2 HE.out).mono ?_; rintro e w1 ⟨rfl, hb1⟩; have HB1 := Aside0.mk hb1; clear hb1)
    | (refine ⟨trivial, ?_⟩; gi_at_call 54; refine (callsIn_wide.2 (lists_elements.calls s _)).mono ?_; rintro e w2 ⟨rfl, rfl⟩))
  obtain ⟨m, hm⟩ : ∃ m, w1.heap.size = m := ⟨_, rfl⟩
  obtain ⟨W2, hW2⟩ : ∃ W2, (w1.alloc (.cells #[.slice none 0 0] 31)).alloc (.cells #[.string s] 9) = W2 := ⟨_, rfl⟩
  have bO : Boxed W2 w1.heap.size 31 (.slice none 0 0) := by rw [← hW2]; exact (Boxed.new w1 _ _).alloc _
  have bS : W2.heap[w1.heap.size + 1]? = some (.cells #[.string s] 9 (0, 0)) := by
    rw [← hW2]
    have := World.alloc_heap_new (w1.alloc (.cells #[.slice none 0 0] 31)) (.cells #[.string s] 9)
    rwa [World.size_alloc] at this
  have hsz2 : W2.heap.size = w1.heap.size + 2 := by rw [← hW2]; simp
  have hB2 : Below w1.heap.size w1 W2 := by rw [← hW2]; exact ((Below.refl _ w1).alloc (Nat.le_refl _) _).alloc (by simp) _
  have HSZ := Aside0.mk hsz2
  have HB2 := Aside0.mk hB2
  have HBS := Aside0.mk bS
  have hseq := elements_1_seq 2 (by omega) s (by omega) (w1.heap.size + 1) w1 W2 hB2 bS
  rw [hW2]
  clear hm hW2 hsz2 hB2 bS
  have HS := Aside0.mk hseq
  clear hseq
  have hown0 : W2.ownsRow (w1.heap.size + 2) 9 1 (.slice none 0 0) 0 [] := World.ownsRow_nil _ _ _ _
  refine wpIn_rangeT (n := 3) (by omega) (gf := 86) (lb := #[.pointer (some ⟨w1.heap.size + 1, 0, none⟩)]) rfl (enters_of Try.func86 (by kernel_rfl) rfl)
    HS.out (fun h k => ⟨h.1.trans k.1, k.2.1.trans h.2.1, fun g c hg => k.2.2 g c (h.2.2 g c hg)⟩)
    (fun W l o o' hl ho hoc => ⟨(Below.refl w1.heap.size W).grown (grownBy_putObj' W l o') (by have := (Array.getElem?_eq_some_iff.1 ho).1; have := HSZ.out; omega) (fun k e => by cases e; have := HSZ.out; omega), World.putObj_heap_other (by have := HSZ.out; omega),
      fun g c hg => by
        by_cases e : g = l
        · subst e; rw [hg] at ho; cases ho; cases hoc
        · exact (World.putObj_heap_other e).trans hg⟩) (Below.refl _ _)
    (fun pre W => (∃ v, Boxed W w1.heap.size 31 v ∧ W.ownsRow (w1.heap.size + 2) 9 1 v (keptL pre).length ((keptL pre).map Value.string)) ∧ Below w1.heap.size w1 W ∧ w1.heap.size + 2 ≤ W.heap.size)
    ?hI ⟨⟨_, bO, hown0⟩, HB2.out, by have := HSZ.out; omega⟩
    (fun x => { tmps := #[.string s, undef, .slice none 0 0, .bool false, .pointer (some ⟨w1.heap.size, 0, none⟩), .string x, .string s, .bool true, .bool false, .string s, .func (.func 86) #[] #[.pointer (some ⟨w1.heap.size + 1, 0, none⟩)], .string x, undef, undef, undef, undef, undef, undef, undef, undef, undef], defers := [] }) ?assign ?body ?done
  case hI =>
    rintro pre A A' row ⟨⟨v, hv, hrow⟩, hB, hge⟩ hg hr
    have hn1 : some w1.heap.size ≠ row := fun e => by have := (hr _ e.symm).1; have := HSZ.out; omega
    refine ⟨⟨v, hv.kept hg hn1, hrow.kept hg ?_⟩, hB.grown hg (by have := HSZ.out; omega) (fun k e => by have := (hr k e).1; have := HSZ.out; omega), Nat.le_trans hge hg.size⟩
    rcases hrow.2 with ⟨rfl, _⟩ | ⟨g, cap, cur, rfl, _, hgb, _⟩
    · exact .inl rfl
    · refine .inr fun e' => ?_
      obtain ⟨_, o, ho, hor⟩ := hr g (by simpa [Value.ownBlock] using e'.symm)
      rw [hgb] at ho
      cases ho
      rcases hor with h | ⟨_, _, h⟩
      · cases h
      · cases h
  case assign =>
    intro l x W K hK
    gi_wp2
    exact hK
  case body =>
    rintro l pre x W ⟨⟨v, hv, hrow⟩, hB, hge⟩ hpx
    have hlen : pre.length + 1 ≤ s.size + 1 := by have := hpx.length_le; simp at this; omega
    have hkl := keptL_len pre
    have hxs : x.size ≤ s.size := HX.out x (hpx.subset (by simp))
    have hT := fun W => octet_Trim.calls (2 * x.size + 3) x (trimB x) W (octet_trim x (by omega) _ (by omega))
    have HT := Aside0.mk hT
    have hszB := HSZ.out
    clear hT hpx HX
    have HEq : Aside0 (keptL (pre ++ [x]) = if full (trimB x) = true then keptL pre ++ [trimB x] else keptL pre) := ⟨by
      cases hf : full (trimB x)
      · rw [keptL_miss pre x hf]; simp
      · rw [keptL_hit pre x hf]; simp⟩
    obtain ⟨T, hTe⟩ : ∃ T, trimB x = T := ⟨_, rfl⟩
    rw [hTe] at HT HEq
    clear hTe
    by_cases he : T.toList = []
    · have he2 : (T.toList == ([] : List UInt8)) = true := beq_iff_eq.mpr he
      have he3 : (T.toList != ([] : List UInt8)) = false := bne_eq_false_iff_eq.mpr he
      have HF : Aside0 (keptL (pre ++ [x]) = keptL pre) := ⟨by rw [HEq.out, if_neg (by unfold full; rw [he]; simp)]⟩
      clear he HEq
      gi_wp2_with (refine ⟨trivial, ?_⟩; gi_at_call 49; refine (CallsIn.inRound l (callsIn_wide.2 (HT.out _))).mono ?_; rintro e W1 ⟨rfl, hdr⟩)
      obtain ⟨q, rfl⟩ := hdr.out
      exact ⟨⟨Nat.le_refl _, fun k o _ hk _ => hk⟩, ⟨pw_below_drewN (Below.refl _ _) q, rfl, fun g c hg => hg⟩, ⟨v, hv, by rw [HF.out]; exact hrow⟩, pw_below_drewN hB q, hge⟩
    · have he2 : (T.toList == ([] : List UInt8)) = false := beq_eq_false_iff_ne.mpr he
      have he3 : (T.toList != ([] : List UInt8)) = true := bne_iff_ne.mpr he
      have HF : Aside0 (keptL (pre ++ [x]) = keptL pre ++ [T]) := ⟨by rw [HEq.out, if_pos (by unfold full; simpa using he)]⟩
      clear he HEq
      have hw1s := HB1.out.size
      gi_wp2_with (first
        | (refine ⟨trivial, ?_⟩; gi_at_call 49; refine (CallsIn.inRound l (callsIn_wide.2 (HT.out _))).mono ?_; rintro e W1 ⟨rfl, hdr⟩; have hv1 : Boxed W1 w1.heap.size 31 v := (by obtain ⟨q, rfl⟩ := hdr.out; exact hv); have hrow1 : W1.ownsRow (w1.heap.size + 2) 9 1 v (keptL pre).length ((keptL pre).map Value.string) := (by obtain ⟨q, rfl⟩ := hdr.out; exact hrow); have HW1 : Aside0 (KeepsOthers W W1 ∧ (∀ n, Below n W W1) ∧ W1.heap = W.heap) := ⟨by obtain ⟨q, rfl⟩ := hdr.out; exact ⟨⟨Nat.le_refl _, fun k o hk _ => hk⟩, fun n => pw_below_drewN (Below.refl _ _) q, rfl⟩⟩; have hge1 : w1.heap.size + 2 ≤ W1.heap.size := (by rw [HW1.out.2.2]; exact hge); have hc := hv1.cell; have hf := hv1.frozen; clear hdr)
        | (gi_at_builtin; refine wpListIn_append_own _ rfl _ _ 31 rfl (w1.heap.size + 2) 9 i0 (.string ⟨#[]⟩) 1 16 Try.underlying31 hi hz0 hz1 hz2 rfl (by decide) _ _ _ rfl (hrow1.alloc _) ⟨W1.heap.size, 0, none⟩ 1 1 [.string T] rfl rfl (cell_one_new _ _ _) (by simp [Value.oneCell']) (by unfold maxLen; omega) (by omega) (by simp; omega) ?_; intro v' w3 hown' hgrow _; obtain ⟨g', cap', rfl⟩ := ownsRow_succ hown'; have hAP := Boxed.appended hv1 (by decide) (own_weaken hrow1 (show w1.heap.size ≤ _ by omega)) (by omega) (Nat.le_refl _) (own_weaken hown' (show w1.heap.size ≤ _ by omega)) hgrow; have hr3 := hown'.kept (grownBy_setCell' w3 w1.heap.size (.slice (some ⟨g', 0, none⟩) ((keptL pre).length + 1) cap')) (.inr (hAP.1.not_row (by decide) hown').symm); have hc1 := hAP.1.cell; have hf1 := hAP.1.frozen; have HAP := Aside0.mk hAP; have HG := Aside0.mk hgrow; have HR3 := Aside0.mk hr3; clear hAP hgrow hr3 hown'))
      have hHB2 := HB2.out
      refine ⟨(HW1.out.1.trans HAP.out.2.2.2.1).from _, ⟨(HW1.out.2.1 _).trans HAP.out.2.2.2.2, ?_, ?_⟩, ⟨_, HAP.out.2.1, ?_⟩, (hB.trans (HW1.out.2.1 _)).trans HAP.out.2.2.2.2, ?_⟩
      · have hlt : w1.heap.size + 1 < W.heap.size := by omega
        have hg0 := Array.getElem?_eq_getElem hlt
        have hg1 : W1.heap[w1.heap.size + 1]? = some (W.heap[w1.heap.size + 1]'hlt) := (by rw [HW1.out.2.2]; exact hg0)
        rw [hg0]
        exact app_block HG.out hg1 (row_ge hrow1 (by omega)) (by omega)
      · intro g c hg
        have hg1 : W1.heap[g]? = some (.cells c 87 (0, 0)) := (by rw [HW1.out.2.2]; exact hg)
        exact app_block HG.out hg1 (row_ne hrow1 hg1 (by decide)) (fun e => by subst e; rw [show W1.heap[w1.heap.size]? = _ from hv1] at hg1; cases hg1)
      · rw [HF.out]; simpa using HR3.out
      · have := HAP.out.2.2.2.1.size
        omega
  case done =>
    rintro D W hD ⟨⟨v, hv, hrow⟩, hB, hge⟩ hK
    have hc := hv.cell
    gi_wp2
    refine ⟨by simp, .inl ⟨_, _, rfl, run_takeDeferred hK, ?_⟩⟩
    have hr2 := ownsRow_putObj hrow (.deferred none) hK rfl
    refine ⟨_, results_tmp2 rfl _ _ _, v, rfl, own_weaken hr2 (by have := HB1.out.size; omega), ?_⟩
    exact HB1.out.trans ((hB.trans (belowK_b (w := w1) (Nat.le_refl _) W D _ _ (by have := HSZ.out; omega) hK rfl rfl)).mono HB1.out.size)
theorem lists_Split.calls (a0 : ByteArray) (r1 : List ByteArray) (r2 : Bool) (w : World) (h : lists_Split.f a0 = some (r1, r2)) :
    Calls Try.prog 19 #[.string a0] w fun e w' => ∃ v0_ : Value, e = .returned (.tuple #[v0_, .bool r2]) ∧ Kd.R Kd.string 9 w' w.heap.size (fun _ => True) v0_ r1 ∧ Below w.heap.size w w' := by
  by_cases hs : a0.size ≤ 1000000
  · rw [lists_Split.f, if_pos hs] at h
    by_cases hcl : closedS (stAt a0 a0.size) = true
    · have h2 := Option.some.inj h
      rw [splitB, if_pos hcl] at h2
      obtain ⟨rfl, rfl⟩ := Prod.mk.inj h2
      refine (split_closed a0 hs w hcl).mono ?_
      rintro e w' ⟨v, rfl, hr, hb⟩
      exact ⟨v, rfl, rowR _ hr, hb⟩
    · have h2 := Option.some.inj h
      rw [splitB, if_neg hcl] at h2
      obtain ⟨rfl, rfl⟩ := Prod.mk.inj h2
      have hE := lists_ends.calls a0 false w (by unfold lists_ends.f; rw [if_pos (by omega)]; congr 1; simpa using hcl)
      clear h h2 hcl
      go_enter Try.func19, Try.ntmps19
      go_wp2_with (go_at_call 53; refine hE.mono ?_; rintro e w1 ⟨rfl, hb1⟩)
      go_ret2
      exact ⟨_, rfl, Kd.R_nil _ _ _ _ _, hb1⟩
  · rw [lists_Split.f, if_neg hs] at h
    cases h


end Go.Proofs.Ytkjkbenmoogdjaa.X
namespace Go.Proofs.Ytkjkbenmoogdjaa.X
open Go.RowKit Go.Proofs.YtkjkbenmoogdjaaW.PrintWords Go.Proofs.YtkjkbenmoogdjaaW.PrintLast Go.Proofs.YtkjkbenmoogdjaaW.PrintMore
attribute [local go_sem] max2_int min2_int max_two min_two max_three min_three max_four min_four   -- for this text's walks alone
set_option linter.unusedVariables false
set_option linter.unusedSimpArgs false

/-! ### abutmentref01_Same: function 21 -/
def abutmentref01_Same.l0 : Nat → List ByteArray → List ByteArray → Int → Option (Bool)
  | 0, _, _, _ => none
  | k + 1, x0, x1, x5 => if x5 < (x0.length : Int) then (if 0 ≤ x5 then (if x5 < (x1.length : Int) then (if (rdOf ByteArray.empty x0 x5).toList = (rdOf ByteArray.empty x1 x5).toList then (abutmentref01_Same.l0 k x0 x1 (wrap64 (x5 + 1))) else (some false)) else (none)) else (none)) else (some true)
def abutmentref01_Same.f (k : Nat) (l0 : List ByteArray) (l1 : List ByteArray) : Option (Bool) := if (l0.length : Int) = (l1.length : Int) then (abutmentref01_Same.l0 k l0 l1 0) else (some false)
theorem abutmentref01_Same.mono_l : ∀ k, (∀ y0 y1 y2, LeO (abutmentref01_Same.l0 k y0 y1 y2) (abutmentref01_Same.l0 (k + 1) y0 y1 y2))
  | 0 => fun _ _ _ r h => by simp [abutmentref01_Same.l0] at h
  | k + 1 => by
    have ih0 := abutmentref01_Same.mono_l k
    · intro y0 y1 y2
      unfold abutmentref01_Same.l0
      repeat' first
      | (with_reducible exact ih0 _ _ _)
      | (with_reducible exact LeO.refl _)
      | (with_reducible exact LeO.none _)
      | (with_reducible refine LeO.ite ?_ ?_)
      | (with_reducible refine LeO.bind ?_ (fun _ => ?_))
      | exact ih0 _ _ _
      | exact LeO.none _
      | refine LeO.ite ?_ ?_
      | refine LeO.bind ?_ (fun _ => ?_)
theorem abutmentref01_Same.mono : ∀ a0 a1 k, LeO (abutmentref01_Same.f k a0 a1) (abutmentref01_Same.f (k + 1) a0 a1) := by
  intro a0 a1 k
  have ih0 := abutmentref01_Same.mono_l k
  unfold abutmentref01_Same.f
  repeat' first
      | (with_reducible exact ih0 _ _ _)
      | (with_reducible exact LeO.refl _)
      | (with_reducible exact LeO.none _)
      | (with_reducible refine LeO.ite ?_ ?_)
      | (with_reducible refine LeO.bind ?_ (fun _ => ?_))
      | exact ih0 _ _ _
      | exact LeO.none _
      | refine LeO.ite ?_ ?_
      | refine LeO.bind ?_ (fun _ => ?_)
set_option maxHeartbeats 8000000 in
set_option maxRecDepth 100000 in
theorem abutmentref01_Same.calls (k : Nat) (A0 : Option Addr) (c0 : Nat) (l0 : List ByteArray) (A1 : Option Addr) (c1 : Nat) (l1 : List ByteArray) (r : Bool) (w : World) (hr0 : Kd.C Kd.string w A0 l0.length l0) (hc0 : l0.length ≤ c0) (hr1 : Kd.C Kd.string w A1 l1.length l1) (hc1 : l1.length ≤ c1) (h : abutmentref01_Same.f k l0 l1 = some r) :
    Calls Try.prog 21 #[.slice A0 l0.length c0, .slice A1 l1.length c1] w fun e w' => e = .returned (.bool r) ∧ Drawn0 w w' := by
  have HR0 := Aside0.mk hr0
  have HC0 := Aside0.mk hc0
  clear hr0 hc0
  have HR1 := Aside0.mk hr1
  have HC1 := Aside0.mk hc1
  clear hr1 hc1
  have H : (if (l0.length : Int) = (l1.length : Int) then (abutmentref01_Same.l0 k l0 l1 0) else (some false)) = some r := h
  clear h
  by_cases c3 : (l0.length : Int) = (l1.length : Int)
  · rw [if_pos c3] at H
    have c3b0 : ((l0.length : Int) == (l1.length : Int)) = true := beq_iff_eq.mpr c3
    have c3b1 : ((l0.length : Int) != (l1.length : Int)) = false := bne_eq_false_iff_eq.mpr c3
    have c3b2 : (l0.length == l1.length) = true := by first | simpa using c3 | (simp at c3 ⊢; omega)
    clear c3
    have H' := Aside0.mk H
    clear H
    go_enter Try.func21, Try.ntmps21
    go_wp2
    repeat (go_quiet (fail); try go_wp2)
    go_loopg [5] k (fun kq v5 w' => ∃ (x5_1 : Int), v5 = .int .i64 x5_1 ∧ Aside0 (abutmentref01_Same.l0 kq l0 l1 x5_1 = some r) ∧ Aside0 (kq ≤ k) ∧ Drawn0 w w')
    case atStart => exact ⟨(0), (by first | rfl | (simp; done) | (simp [*]; done)), H', ⟨Nat.le_refl _⟩, by repeat (first | exact Drawn0.refl _ | apply Drawn0.step)⟩
    case round =>
      clear H'
      try clear c1
      try clear c2
      try clear p2
      try clear c3
      try clear c3b0
      try clear c3b1
      try clear c3b2
      obtain ⟨x5_1, rfl, HA, HK1, ⟨m1, rfl⟩⟩ := hrel
      cases gk with
      | zero => exact absurd HA.out (by simp [abutmentref01_Same.l0])
      | succ k1 =>
        have H := HA.out
        clear HA
        simp only [abutmentref01_Same.l0] at H
        by_cases c4 : x5_1 < (l0.length : Int)
        · rw [if_pos c4] at H
          have c4b0 : decide (x5_1 < (l0.length : Int)) = true := decide_eq_true c4
          clear c4
          by_cases c5 : 0 ≤ x5_1
          · rw [if_pos c5] at H
            have c5b0 : decide (0 ≤ x5_1) = true := decide_eq_true c5
            clear c5
            by_cases c6 : x5_1 < (l1.length : Int)
            · rw [if_pos c6] at H
              have c6b0 : decide (x5_1 < (l1.length : Int)) = true := decide_eq_true c6
              clear c6
              by_cases c7 : (rdOf ByteArray.empty l0 x5_1).toList = (rdOf ByteArray.empty l1 x5_1).toList
              · rw [if_pos c7] at H
                have c7b0 : ((rdOf ByteArray.empty l0 x5_1).toList == (rdOf ByteArray.empty l1 x5_1).toList) = true := beq_iff_eq.mpr c7
                have c7b1 : ((rdOf ByteArray.empty l0 x5_1).toList != (rdOf ByteArray.empty l1 x5_1).toList) = false := bne_eq_false_iff_eq.mpr c7
                clear c7
                have H' := Aside0.mk H
                clear H
                have p101 : 0 ≤ (x5_1 : Int) := of_decide_eq_true (by first | (with_reducible assumption) | assumption)
                have q101 : x5_1 < (l0.length : Int) := of_decide_eq_true (by first | (with_reducible assumption) | assumption)
                obtain ⟨ad101, e101, hx101_0⟩ := Kd.at_string HR0.out x5_1 p101 q101
                cases e101
                replace p101 := eq_true p101
                replace q101 := eq_true q101
                have p102 : 0 ≤ (x5_1 : Int) := of_decide_eq_true (by first | (with_reducible assumption) | assumption)
                have q102 : x5_1 < (l1.length : Int) := of_decide_eq_true (by first | (with_reducible assumption) | assumption)
                obtain ⟨ad102, e102, hx102_0⟩ := Kd.at_string HR1.out x5_1 p102 q102
                cases e102
                replace p102 := eq_true p102
                replace q102 := eq_true q102
                go_wp2
                repeat (go_quiet (fail); try go_wp2)
                go_roundg k1
                case measure => have := HK1.out; omega
                case rel => exact ⟨(wrap64 (x5_1 + 1)), (by first | rfl | (simp; done) | (simp [*]; done)), H', ⟨by have := HK1.out; omega⟩, by repeat (first | exact Drawn0.refl _ | apply Drawn0.step)⟩
              · rw [if_neg c7] at H
                have c7b0 : ((rdOf ByteArray.empty l0 x5_1).toList == (rdOf ByteArray.empty l1 x5_1).toList) = false := beq_eq_false_iff_ne.mpr c7
                have c7b1 : ((rdOf ByteArray.empty l0 x5_1).toList != (rdOf ByteArray.empty l1 x5_1).toList) = true := bne_iff_ne.mpr c7
                obtain rfl := Option.some.inj H
                have p101 : 0 ≤ (x5_1 : Int) := of_decide_eq_true (by first | (with_reducible assumption) | assumption)
                have q101 : x5_1 < (l0.length : Int) := of_decide_eq_true (by first | (with_reducible assumption) | assumption)
                obtain ⟨ad101, e101, hx101_0⟩ := Kd.at_string HR0.out x5_1 p101 q101
                cases e101
                replace p101 := eq_true p101
                replace q101 := eq_true q101
                have p102 : 0 ≤ (x5_1 : Int) := of_decide_eq_true (by first | (with_reducible assumption) | assumption)
                have q102 : x5_1 < (l1.length : Int) := of_decide_eq_true (by first | (with_reducible assumption) | assumption)
                obtain ⟨ad102, e102, hx102_0⟩ := Kd.at_string HR1.out x5_1 p102 q102
                cases e102
                replace p102 := eq_true p102
                replace q102 := eq_true q102
                go_wp2
                repeat (go_quiet (fail); try go_wp2)
                go_ret
                exact ⟨by first | rfl | (simp; done) | (simp [*]; done), by repeat (first | exact Drawn0.refl _ | apply Drawn0.step)⟩
            · rw [if_neg c6] at H
              exact absurd H (by simp)
          · rw [if_neg c5] at H
            exact absurd H (by simp)
        · rw [if_neg c4] at H
          have c4b0 : decide (x5_1 < (l0.length : Int)) = false := decide_eq_false c4
          clear c4
          obtain rfl := Option.some.inj H
          go_wp2
          repeat (go_quiet (fail); try go_wp2)
          go_ret
          exact ⟨by first | rfl | (simp; done) | (simp [*]; done), by repeat (first | exact Drawn0.refl _ | apply Drawn0.step)⟩
  · rw [if_neg c3] at H
    have c3b0 : ((l0.length : Int) == (l1.length : Int)) = false := beq_eq_false_iff_ne.mpr c3
    have c3b1 : ((l0.length : Int) != (l1.length : Int)) = true := bne_iff_ne.mpr c3
    have c3b2 : (l0.length == l1.length) = false := by first | simpa using c3 | (simp at c3 ⊢; omega)
    obtain rfl := Option.some.inj H
    go_enter Try.func21, Try.ntmps21
    go_wp2
    repeat (go_quiet (fail); try go_wp2)
    go_ret
    exact ⟨by first | rfl | (simp; done) | (simp [*]; done), by repeat (first | exact Drawn0.refl _ | apply Drawn0.step)⟩

end Go.Proofs.Ytkjkbenmoogdjaa.X
namespace Go.Proofs.Ytkjkbenmoogdjaa.X
open Go.RowKit Go.Proofs.YtkjkbenmoogdjaaW.PrintWords Go.Proofs.YtkjkbenmoogdjaaW.PrintLast Go.Proofs.YtkjkbenmoogdjaaW.PrintMore
attribute [local go_sem] max2_int min2_int max_two min_two max_three min_three max_four min_four   -- for this text's walks alone
set_option linter.unusedVariables false
set_option linter.unusedSimpArgs false

/-! ### octet_lower: function 68 -/
def octet_lower.f (a0 : Int) : Option (Int) := if a0 ≥ 65 then (if a0 ≤ 90 then (some ((((a0 + 97) % 256) - 65) % 256)) else (some a0)) else (some a0)
set_option maxHeartbeats 8000000 in
set_option maxRecDepth 100000 in
theorem octet_lower.calls (a0 : Int) (r : Int) (w : World) (h : octet_lower.f a0 = some r) :
    Calls Try.prog 68 #[.int .u8 a0] w fun e w' => e = .returned (.int .u8 r) ∧ Drawn0 w w' := by
  have H : (if a0 ≥ 65 then (if a0 ≤ 90 then (some ((((a0 + 97) % 256) - 65) % 256)) else (some a0)) else (some a0)) = some r := h
  clear h
  by_cases c2 : a0 ≥ 65
  · rw [if_pos c2] at H
    have c2b0 : decide (65 ≤ a0) = true := decide_eq_true c2
    clear c2
    by_cases c3 : a0 ≤ 90
    · rw [if_pos c3] at H
      have c3b0 : decide (a0 ≤ 90) = true := decide_eq_true c3
      clear c3
      obtain rfl := Option.some.inj H
      go_enter Try.func68, Try.ntmps68
      go_wp2
      go_ret
      exact ⟨by first | rfl | (simp; done) | (simp [*]; done), by repeat (first | exact Drawn0.refl _ | apply Drawn0.step)⟩
    · rw [if_neg c3] at H
      have c3b0 : decide (a0 ≤ 90) = false := decide_eq_false c3
      clear c3
      obtain rfl := Option.some.inj H
      go_enter Try.func68, Try.ntmps68
      go_wp2
      go_ret
      exact ⟨by first | rfl | (simp; done) | (simp [*]; done), by repeat (first | exact Drawn0.refl _ | apply Drawn0.step)⟩
  · rw [if_neg c2] at H
    have c2b0 : decide (65 ≤ a0) = false := decide_eq_false c2
    clear c2
    obtain rfl := Option.some.inj H
    go_enter Try.func68, Try.ntmps68
    go_wp2
    go_ret
    exact ⟨by first | rfl | (simp; done) | (simp [*]; done), by repeat (first | exact Drawn0.refl _ | apply Drawn0.step)⟩

end Go.Proofs.Ytkjkbenmoogdjaa.X
namespace Go.Proofs.Ytkjkbenmoogdjaa.X
open Go.RowKit Go.Proofs.YtkjkbenmoogdjaaW.PrintWords Go.Proofs.YtkjkbenmoogdjaaW.PrintLast Go.Proofs.YtkjkbenmoogdjaaW.PrintMore
attribute [local go_sem] max2_int min2_int max_two min_two max_three min_three max_four min_four   -- for this text's walks alone
set_option linter.unusedVariables false
set_option linter.unusedSimpArgs false

/-! ### octet_Fold: function 35 -/
def octet_Fold.l0 : Nat → ByteArray → ByteArray → Int → Int → Option (Bool)
  | 0, _, _, _, _ => none
  | k + 1, x0, x1, x12, x13 => if x13 < x12 then (if 0 ≤ x13 then (if x13 < (x0.size : Int) then ((octet_lower.f (bt x0 x13)).bind fun t101 => (if x13 < (x1.size : Int) then ((octet_lower.f (bt x1 x13)).bind fun t102 => (if t101 = t102 then (octet_Fold.l0 k x0 x1 x12 (wrap64 (x13 + 1))) else (some false))) else (none))) else (none)) else (none)) else (some true)
def octet_Fold.f (k : Nat) (a0 : ByteArray) (a1 : ByteArray) : Option (Bool) := if (a0.size : Int) = (a1.size : Int) then (octet_Fold.l0 k a0 a1 (a0.size : Int) 0) else (some false)
theorem octet_Fold.mono_l : ∀ k, (∀ y0 y1 y2 y3, LeO (octet_Fold.l0 k y0 y1 y2 y3) (octet_Fold.l0 (k + 1) y0 y1 y2 y3))
  | 0 => fun _ _ _ _ r h => by simp [octet_Fold.l0] at h
  | k + 1 => by
    have ih0 := octet_Fold.mono_l k
    · intro y0 y1 y2 y3
      unfold octet_Fold.l0
      repeat' first
      | (with_reducible exact ih0 _ _ _ _)
      | (with_reducible exact LeO.refl _)
      | (with_reducible exact LeO.none _)
      | (with_reducible refine LeO.ite ?_ ?_)
      | (with_reducible refine LeO.bind ?_ (fun _ => ?_))
      | exact ih0 _ _ _ _
      | exact LeO.none _
      | refine LeO.ite ?_ ?_
      | refine LeO.bind ?_ (fun _ => ?_)
theorem octet_Fold.mono : ∀ a0 a1 k, LeO (octet_Fold.f k a0 a1) (octet_Fold.f (k + 1) a0 a1) := by
  intro a0 a1 k
  have ih0 := octet_Fold.mono_l k
  unfold octet_Fold.f
  repeat' first
      | (with_reducible exact ih0 _ _ _ _)
      | (with_reducible exact LeO.refl _)
      | (with_reducible exact LeO.none _)
      | (with_reducible refine LeO.ite ?_ ?_)
      | (with_reducible refine LeO.bind ?_ (fun _ => ?_))
      | exact ih0 _ _ _ _
      | exact LeO.none _
      | refine LeO.ite ?_ ?_
      | refine LeO.bind ?_ (fun _ => ?_)
set_option maxHeartbeats 8000000 in
set_option maxRecDepth 100000 in
theorem octet_Fold.calls (k : Nat) (a0 : ByteArray) (a1 : ByteArray) (r : Bool) (w : World) (h : octet_Fold.f k a0 a1 = some r) :
    Calls Try.prog 35 #[.string a0, .string a1] w fun e w' => e = .returned (.bool r) ∧ Drawn0 w w' := by
  have H : (if (a0.size : Int) = (a1.size : Int) then (octet_Fold.l0 k a0 a1 (a0.size : Int) 0) else (some false)) = some r := h
  clear h
  by_cases c3 : (a0.size : Int) = (a1.size : Int)
  · rw [if_pos c3] at H
    have c3b0 : ((a0.size : Int) == (a1.size : Int)) = true := beq_iff_eq.mpr c3
    have c3b1 : ((a0.size : Int) != (a1.size : Int)) = false := bne_eq_false_iff_eq.mpr c3
    have c3b2 : (a0.size == a1.size) = true := by first | simpa using c3 | (simp at c3 ⊢; omega)
    clear c3
    have H' := Aside0.mk H
    clear H
    go_enter Try.func35, Try.ntmps35
    go_wp2
    repeat (go_quiet (fail); try go_wp2)
    go_loopg [13] k (fun kq v13 w' => ∃ (x13_1 : Int), v13 = .int .i64 x13_1 ∧ Aside0 (octet_Fold.l0 kq a0 a1 (a0.size : Int) x13_1 = some r) ∧ Aside0 (kq ≤ k) ∧ Drawn0 w w')
    case atStart => exact ⟨(0), (by first | rfl | (simp; done) | (simp [*]; done)), H', ⟨Nat.le_refl _⟩, by repeat (first | exact Drawn0.refl _ | apply Drawn0.step)⟩
    case round =>
      clear H'
      try clear p2
      try clear c3
      try clear c3b0
      try clear c3b1
      try clear c3b2
      obtain ⟨x13_1, rfl, HA, HK1, ⟨m1, rfl⟩⟩ := hrel
      cases gk with
      | zero => exact absurd HA.out (by simp [octet_Fold.l0])
      | succ k1 =>
        have H := HA.out
        clear HA
        simp only [octet_Fold.l0] at H
        by_cases c4 : x13_1 < (a0.size : Int)
        · rw [if_pos c4] at H
          have c4b0 : decide (x13_1 < (a0.size : Int)) = true := decide_eq_true c4
          clear c4
          by_cases c5 : 0 ≤ x13_1
          · rw [if_pos c5] at H
            have c5b0 : decide (0 ≤ x13_1) = true := decide_eq_true c5
            clear c5
            by_cases c6 : x13_1 < (a0.size : Int)
            · rw [if_pos c6] at H
              have c6b0 : decide (x13_1 < (a0.size : Int)) = true := decide_eq_true c6
              clear c6
              replace H := Option.bind_eq_some_iff.mp H
              obtain ⟨t101, A80, H⟩ := H
              replace H : (if x13_1 < (a1.size : Int) then ((octet_lower.f (bt a1 x13_1)).bind fun t102 => (if t101 = t102 then (octet_Fold.l0 k1 a0 a1 (a0.size : Int) (wrap64 (x13_1 + 1))) else (some false))) else (none)) = some r := H
              have A8 := Aside0.mk A80
              clear A80
              by_cases c9 : x13_1 < (a1.size : Int)
              · rw [if_pos c9] at H
                have c9b0 : decide (x13_1 < (a1.size : Int)) = true := decide_eq_true c9
                clear c9
                replace H := Option.bind_eq_some_iff.mp H
                obtain ⟨t102, A110, H⟩ := H
                replace H : (if t101 = t102 then (octet_Fold.l0 k1 a0 a1 (a0.size : Int) (wrap64 (x13_1 + 1))) else (some false)) = some r := H
                have A11 := Aside0.mk A110
                clear A110
                by_cases c12 : t101 = t102
                · rw [if_pos c12] at H
                  have c12b0 : (t101 == t102) = true := beq_iff_eq.mpr c12
                  have c12b1 : (t101 != t102) = false := bne_eq_false_iff_eq.mpr c12
                  clear c12
                  have H' := Aside0.mk H
                  clear H
                  have p7 : 0 ≤ (x13_1 : Int) := of_decide_eq_true (by first | (with_reducible assumption) | assumption)
                  have q7 : x13_1 < (a0.size : Int) := of_decide_eq_true (by first | (with_reducible assumption) | assumption)
                  have hx7 := bt_at a0 x13_1
                  replace p7 := eq_true p7
                  replace q7 := eq_true q7
                  go_wp2_with (first | (go_at_call 68; (with_reducible refine (octet_lower.calls (bt a0 x13_1) t101 _ A8.out).mono ?_); rintro e w' ⟨rfl, ⟨nd, rfl⟩⟩; (try first | exact ⟨rfl, _, World.drewN_drewN _ _ _⟩ | exact ⟨rfl, _, Eq.trans (World.drewN_drewN _ _ _) (congrArg (World.drewN _) (Nat.add_assoc _ _ _))⟩); have p10 : 0 ≤ (x13_1 : Int) := of_decide_eq_true (by first | (with_reducible assumption) | assumption); have q10 : x13_1 < (a1.size : Int) := of_decide_eq_true (by first | (with_reducible assumption) | assumption); have hx10 := bt_at a1 x13_1; replace p10 := eq_true p10; replace q10 := eq_true q10) | (go_at_call 68; (with_reducible refine (octet_lower.calls (bt a1 x13_1) t102 _ A11.out).mono ?_); rintro e w' ⟨rfl, ⟨nd, rfl⟩⟩; (try first | exact ⟨rfl, _, World.drewN_drewN _ _ _⟩ | exact ⟨rfl, _, Eq.trans (World.drewN_drewN _ _ _) (congrArg (World.drewN _) (Nat.add_assoc _ _ _))⟩)))
                  repeat (go_quiet (first | (go_at_call 68; (with_reducible refine (octet_lower.calls (bt a0 x13_1) t101 _ A8.out).mono ?_); rintro e w' ⟨rfl, ⟨nd, rfl⟩⟩; (try first | exact ⟨rfl, _, World.drewN_drewN _ _ _⟩ | exact ⟨rfl, _, Eq.trans (World.drewN_drewN _ _ _) (congrArg (World.drewN _) (Nat.add_assoc _ _ _))⟩); have p10 : 0 ≤ (x13_1 : Int) := of_decide_eq_true (by first | (with_reducible assumption) | assumption); have q10 : x13_1 < (a1.size : Int) := of_decide_eq_true (by first | (with_reducible assumption) | assumption); have hx10 := bt_at a1 x13_1; replace p10 := eq_true p10; replace q10 := eq_true q10) | (go_at_call 68; (with_reducible refine (octet_lower.calls (bt a1 x13_1) t102 _ A11.out).mono ?_); rintro e w' ⟨rfl, ⟨nd, rfl⟩⟩; (try first | exact ⟨rfl, _, World.drewN_drewN _ _ _⟩ | exact ⟨rfl, _, Eq.trans (World.drewN_drewN _ _ _) (congrArg (World.drewN _) (Nat.add_assoc _ _ _))⟩))); try go_wp2_with (first | (go_at_call 68; (with_reducible refine (octet_lower.calls (bt a0 x13_1) t101 _ A8.out).mono ?_); rintro e w' ⟨rfl, ⟨nd, rfl⟩⟩; (try first | exact ⟨rfl, _, World.drewN_drewN _ _ _⟩ | exact ⟨rfl, _, Eq.trans (World.drewN_drewN _ _ _) (congrArg (World.drewN _) (Nat.add_assoc _ _ _))⟩); have p10 : 0 ≤ (x13_1 : Int) := of_decide_eq_true (by first | (with_reducible assumption) | assumption); have q10 : x13_1 < (a1.size : Int) := of_decide_eq_true (by first | (with_reducible assumption) | assumption); have hx10 := bt_at a1 x13_1; replace p10 := eq_true p10; replace q10 := eq_true q10) | (go_at_call 68; (with_reducible refine (octet_lower.calls (bt a1 x13_1) t102 _ A11.out).mono ?_); rintro e w' ⟨rfl, ⟨nd, rfl⟩⟩; (try first | exact ⟨rfl, _, World.drewN_drewN _ _ _⟩ | exact ⟨rfl, _, Eq.trans (World.drewN_drewN _ _ _) (congrArg (World.drewN _) (Nat.add_assoc _ _ _))⟩))))
                  go_roundg k1
                  case measure => have := HK1.out; omega
                  case rel => exact ⟨(wrap64 (x13_1 + 1)), (by first | rfl | (simp; done) | (simp [*]; done)), H', ⟨by have := HK1.out; omega⟩, by repeat (first | exact Drawn0.refl _ | apply Drawn0.step)⟩
                · rw [if_neg c12] at H
                  have c12b0 : (t101 == t102) = false := beq_eq_false_iff_ne.mpr c12
                  have c12b1 : (t101 != t102) = true := bne_iff_ne.mpr c12
                  obtain rfl := Option.some.inj H
                  have p7 : 0 ≤ (x13_1 : Int) := of_decide_eq_true (by first | (with_reducible assumption) | assumption)
                  have q7 : x13_1 < (a0.size : Int) := of_decide_eq_true (by first | (with_reducible assumption) | assumption)
                  have hx7 := bt_at a0 x13_1
                  replace p7 := eq_true p7
                  replace q7 := eq_true q7
                  go_wp2_with (first | (go_at_call 68; (with_reducible refine (octet_lower.calls (bt a0 x13_1) t101 _ A8.out).mono ?_); rintro e w' ⟨rfl, ⟨nd, rfl⟩⟩; (try first | exact ⟨rfl, _, World.drewN_drewN _ _ _⟩ | exact ⟨rfl, _, Eq.trans (World.drewN_drewN _ _ _) (congrArg (World.drewN _) (Nat.add_assoc _ _ _))⟩); have p10 : 0 ≤ (x13_1 : Int) := of_decide_eq_true (by first | (with_reducible assumption) | assumption); have q10 : x13_1 < (a1.size : Int) := of_decide_eq_true (by first | (with_reducible assumption) | assumption); have hx10 := bt_at a1 x13_1; replace p10 := eq_true p10; replace q10 := eq_true q10) | (go_at_call 68; (with_reducible refine (octet_lower.calls (bt a1 x13_1) t102 _ A11.out).mono ?_); rintro e w' ⟨rfl, ⟨nd, rfl⟩⟩; (try first | exact ⟨rfl, _, World.drewN_drewN _ _ _⟩ | exact ⟨rfl, _, Eq.trans (World.drewN_drewN _ _ _) (congrArg (World.drewN _) (Nat.add_assoc _ _ _))⟩)))
                  repeat (go_quiet (first | (go_at_call 68; (with_reducible refine (octet_lower.calls (bt a0 x13_1) t101 _ A8.out).mono ?_); rintro e w' ⟨rfl, ⟨nd, rfl⟩⟩; (try first | exact ⟨rfl, _, World.drewN_drewN _ _ _⟩ | exact ⟨rfl, _, Eq.trans (World.drewN_drewN _ _ _) (congrArg (World.drewN _) (Nat.add_assoc _ _ _))⟩); have p10 : 0 ≤ (x13_1 : Int) := of_decide_eq_true (by first | (with_reducible assumption) | assumption); have q10 : x13_1 < (a1.size : Int) := of_decide_eq_true (by first | (with_reducible assumption) | assumption); have hx10 := bt_at a1 x13_1; replace p10 := eq_true p10; replace q10 := eq_true q10) | (go_at_call 68; (with_reducible refine (octet_lower.calls (bt a1 x13_1) t102 _ A11.out).mono ?_); rintro e w' ⟨rfl, ⟨nd, rfl⟩⟩; (try first | exact ⟨rfl, _, World.drewN_drewN _ _ _⟩ | exact ⟨rfl, _, Eq.trans (World.drewN_drewN _ _ _) (congrArg (World.drewN _) (Nat.add_assoc _ _ _))⟩))); try go_wp2_with (first | (go_at_call 68; (with_reducible refine (octet_lower.calls (bt a0 x13_1) t101 _ A8.out).mono ?_); rintro e w' ⟨rfl, ⟨nd, rfl⟩⟩; (try first | exact ⟨rfl, _, World.drewN_drewN _ _ _⟩ | exact ⟨rfl, _, Eq.trans (World.drewN_drewN _ _ _) (congrArg (World.drewN _) (Nat.add_assoc _ _ _))⟩); have p10 : 0 ≤ (x13_1 : Int) := of_decide_eq_true (by first | (with_reducible assumption) | assumption); have q10 : x13_1 < (a1.size : Int) := of_decide_eq_true (by first | (with_reducible assumption) | assumption); have hx10 := bt_at a1 x13_1; replace p10 := eq_true p10; replace q10 := eq_true q10) | (go_at_call 68; (with_reducible refine (octet_lower.calls (bt a1 x13_1) t102 _ A11.out).mono ?_); rintro e w' ⟨rfl, ⟨nd, rfl⟩⟩; (try first | exact ⟨rfl, _, World.drewN_drewN _ _ _⟩ | exact ⟨rfl, _, Eq.trans (World.drewN_drewN _ _ _) (congrArg (World.drewN _) (Nat.add_assoc _ _ _))⟩))))
                  go_ret
                  exact ⟨by first | rfl | (simp; done) | (simp [*]; done), by repeat (first | exact Drawn0.refl _ | apply Drawn0.step)⟩
              · rw [if_neg c9] at H
                exact absurd H (by simp)
            · rw [if_neg c6] at H
              exact absurd H (by simp)
          · rw [if_neg c5] at H
            exact absurd H (by simp)
        · rw [if_neg c4] at H
          have c4b0 : decide (x13_1 < (a0.size : Int)) = false := decide_eq_false c4
          clear c4
          obtain rfl := Option.some.inj H
          go_wp2
          repeat (go_quiet (fail); try go_wp2)
          go_ret
          exact ⟨by first | rfl | (simp; done) | (simp [*]; done), by repeat (first | exact Drawn0.refl _ | apply Drawn0.step)⟩
  · rw [if_neg c3] at H
    have c3b0 : ((a0.size : Int) == (a1.size : Int)) = false := beq_eq_false_iff_ne.mpr c3
    have c3b1 : ((a0.size : Int) != (a1.size : Int)) = true := bne_iff_ne.mpr c3
    have c3b2 : (a0.size == a1.size) = false := by first | simpa using c3 | (simp at c3 ⊢; omega)
    obtain rfl := Option.some.inj H
    go_enter Try.func35, Try.ntmps35
    go_wp2
    repeat (go_quiet (fail); try go_wp2)
    go_ret
    exact ⟨by first | rfl | (simp; done) | (simp [*]; done), by repeat (first | exact Drawn0.refl _ | apply Drawn0.step)⟩

end Go.Proofs.Ytkjkbenmoogdjaa.X
namespace Go.Proofs.Ytkjkbenmoogdjaa.X
open Go.RowKit Go.Proofs.YtkjkbenmoogdjaaW.PrintWords Go.Proofs.YtkjkbenmoogdjaaW.PrintLast Go.Proofs.YtkjkbenmoogdjaaW.PrintMore
attribute [local go_sem] max2_int min2_int max_two min_two max_three min_three max_four min_four   -- for this text's walks alone
set_option linter.unusedVariables false
set_option linter.unusedSimpArgs false

/-! ### pure text 2: fold -/
/-- A letter A to Z as a to z. -/
def lowU (c : UInt8) : UInt8 := if 65 ≤ c.toNat ∧ c.toNat ≤ 90 then c + 32 else c
def lowL (l : List UInt8) : List UInt8 := l.map lowU
def lowB (s : ByteArray) : ByteArray := ⟨(lowL s.data.toList).toArray⟩
def foldB (a b : ByteArray) : Bool := lowL a.data.toList == lowL b.data.toList
theorem lowU_int (c : UInt8) : ((lowU c).toNat : Int) = if 65 ≤ (c.toNat : Int) ∧ (c.toNat : Int) ≤ 90 then (c.toNat : Int) + 32 else (c.toNat : Int) := by
  unfold lowU
  by_cases h : 65 ≤ c.toNat ∧ c.toNat ≤ 90
  · rw [if_pos h, if_pos (by omega), UInt8.toNat_add]
    have : (32 : UInt8).toNat = 32 := rfl
    omega
  · rw [if_neg h, if_neg (by omega)]
theorem octet_lower_f (c : UInt8) : octet_lower.f (c.toNat : Int) = some ((lowU c).toNat : Int) := by
  have h := lowU_int c
  have hlt := c.toNat_lt
  unfold octet_lower.f
  rw [h]
  by_cases h1 : 65 ≤ (c.toNat : Int)
  · rw [if_pos (show (c.toNat : Int) ≥ 65 from h1)]
    by_cases h2 : (c.toNat : Int) ≤ 90
    · rw [if_pos h2, if_pos ⟨h1, h2⟩]
      congr 1
      omega
    · rw [if_neg h2, if_neg (fun h => h2 h.2)]
  · rw [if_neg (show ¬ (c.toNat : Int) ≥ 65 from h1), if_neg (fun h => h1 h.1)]
theorem octet_fold_l0 (a b : ByteArray) (hs : a.size ≤ 140737488351232) (hab : b.size = a.size) : ∀ (d i k : Nat), a.size - i = d → i ≤ a.size → d < k →
    octet_Fold.l0 k a b (a.size : Int) (i : Int) = some (lowL (a.data.toList.drop i) == lowL (b.data.toList.drop i)) := by
  intro d
  induction d with
  | zero =>
    intro i k hd hi hk
    obtain ⟨k, rfl⟩ : ∃ m, k = m + 1 := ⟨k - 1, by omega⟩
    obtain rfl : i = a.size := by omega
    simp only [octet_Fold.l0]
    have e1 : a.data.toList.drop a.size = [] := by rw [List.drop_eq_nil_iff, ← size_list]; omega
    have e2 : b.data.toList.drop a.size = [] := by rw [List.drop_eq_nil_iff, ← size_list]; omega
    rw [if_neg (by omega), e1, e2]
    rfl
  | succ d ih =>
    intro i k hd hi hk
    obtain ⟨k, rfl⟩ : ∃ m, k = m + 1 := ⟨k - 1, by omega⟩
    have hla : i < a.data.toList.length := by rw [← size_list]; omega
    have hlb : i < b.data.toList.length := by rw [← size_list]; omega
    have hw : wrap64 ((i : Int) + 1) = ((i + 1 : Nat) : Int) := by rw [wrap_id _ (by omega) (by omega)]; omega
    simp only [octet_Fold.l0]
    rw [if_pos (by omega), if_pos (by omega), if_pos (by omega), bt_list a i hla, octet_lower_f]
    simp only [Option.bind_some]
    rw [if_pos (by omega), bt_list b i hlb, octet_lower_f]
    simp only [Option.bind_some]
    rw [List.drop_eq_getElem_cons hla, List.drop_eq_getElem_cons hlb, hw, ih (i + 1) k (by omega) (by omega) (by omega)]
    unfold lowL
    simp only [List.map_cons]
    by_cases he : lowU (a.data.toList[i]'hla) = lowU (b.data.toList[i]'hlb)
    · rw [if_pos (by rw [he]), he]
      simp
    · rw [if_neg (fun h => he ((u8_eq _ _).1 h))]
      congr 1
      symm
      rw [beq_eq_false_iff_ne]
      intro h
      exact he (List.cons.inj h).1
theorem octet_fold (a b : ByteArray) (hs : a.size ≤ 140737488351232) (k : Nat) (hk : a.size < k) : octet_Fold.f k a b = some (foldB a b) := by
  unfold octet_Fold.f foldB
  by_cases h : (a.size : Int) = (b.size : Int)
  · rw [if_pos h]
    have := octet_fold_l0 a b hs (by omega) a.size 0 k (by omega) (by omega) hk
    simpa using this
  · rw [if_neg h]
    have : ¬ lowL a.data.toList = lowL b.data.toList := by
      intro e
      have := congrArg List.length e
      simp [lowL] at this
      rw [size_list, size_list] at h
      simp at h
      omega
    simp [this]
theorem dropWhile_len {α : Type} (p : α → Bool) (l : List α) : (l.dropWhile p).length ≤ l.length := (List.dropWhile_suffix p).length_le
theorem dropE_len {α : Type} (p : α → Bool) (l : List α) : (dropE p l).length ≤ l.length := by
  unfold dropE
  have := dropWhile_len p l.reverse
  simpa using this
theorem trimB_size (s : ByteArray) : (trimB s).size ≤ s.size := by
  rw [size_list, size_list]
  unfold trimB trimL
  exact Nat.le_trans (dropE_len _ _) (dropWhile_len _ _)


end Go.Proofs.Ytkjkbenmoogdjaa.X
namespace Go.Proofs.Ytkjkbenmoogdjaa.X
open Go.RowKit Go.Proofs.YtkjkbenmoogdjaaW.PrintWords Go.Proofs.YtkjkbenmoogdjaaW.PrintLast Go.Proofs.YtkjkbenmoogdjaaW.PrintMore
attribute [local go_sem] max2_int min2_int max_two min_two max_three min_three max_four min_four   -- for this text's walks alone
set_option linter.unusedVariables false
set_option linter.unusedSimpArgs false

/-! ### lists_Has_1: function 57 -/
/-- Texts of a size that a scan bears. -/
abbrev BS : Type := { x : ByteArray // x.size ≤ 1000000 }
instance instBS : Inhabited BS := ⟨⟨⟨#[]⟩, by decide⟩⟩
def encBS (x : BS) : Value := .string x.1
set_option maxHeartbeats 1000000 in
theorem lists_Has_1.pred (w : World) (B : Nat) (word : ByteArray) (hB : B < w.heap.size) (hc : w.cell? ⟨B, 0, none⟩ = some (.string word)) :
    PredAt Try.prog 57 #[.pointer (some ⟨B, 0, none⟩)] encBS (fun x => foldB x.1 word) w := fun W x hb => by
  have hc' : W.cell? ⟨B, 0, none⟩ = some (.string word) := (hb.cell (p := ⟨B, 0, none⟩) hB).trans hc
  have hC := fun W => octet_Fold.calls (x.1.size + 1) x.1 word (foldB x.1 word) W (octet_fold x.1 word (by have := x.2; omega) _ (by omega))
  unfold FnGives encBS
  go_enter Try.func57, Try.ntmps57
  go_wp2_with (go_at_call 35; refine (hC _).mono ?_; rintro e w' ⟨rfl, hdr⟩)
  obtain ⟨q, rfl⟩ := hdr.out
  go_ret
  exact ⟨rfl, q, rfl⟩


end Go.Proofs.Ytkjkbenmoogdjaa.X
namespace Go.Proofs.Ytkjkbenmoogdjaa.X
open Go.RowKit Go.Proofs.YtkjkbenmoogdjaaW.PrintWords Go.Proofs.YtkjkbenmoogdjaaW.PrintLast Go.Proofs.YtkjkbenmoogdjaaW.PrintMore
attribute [local go_sem] max2_int min2_int max_two min_two max_three min_three max_four min_four   -- for this text's walks alone
set_option linter.unusedVariables false
set_option linter.unusedSimpArgs false

/-! ### lists_Has: function 22 -/
theorem keptL_size (s : ByteArray) : ∀ x ∈ keptL (elems s), x.size ≤ s.size := by
  intro x hx
  unfold keptL at hx
  obtain ⟨y, hy, rfl⟩ := List.mem_map.1 (List.mem_filter.1 hx).1
  exact Nat.le_trans (trimB_size y) (elems_size s y hy)
theorem splitB_size (s : ByteArray) : ∀ x ∈ (splitB s).1, x.size ≤ s.size := by
  unfold splitB
  split
  · exact keptL_size s
  · intro x hx; cases hx
theorem splitB_len (s : ByteArray) : (splitB s).1.length ≤ s.size + 1 := by
  unfold splitB
  split
  · exact Nat.le_trans (keptL_len _) (elems_len_le s)
  · simp
def hasB (a0 a1 : ByteArray) : Bool := (splitB a0).1.any (fun e => foldB e a1)
def lists_Has.f (a0 : ByteArray) (a1 : ByteArray) : Option (Bool) := if a0.size ≤ 1000000 then some (hasB a0 a1) else none
set_option maxHeartbeats 4000000 in
set_option maxRecDepth 100000 in
theorem lists_Has.calls (a0 : ByteArray) (a1 : ByteArray) (r : Bool) (w : World) (h : lists_Has.f a0 a1 = some r) :
    Calls Try.prog 22 #[.string a0, .string a1] w fun e w' => e = .returned (.bool r) ∧ Below w.heap.size w w' := by
  by_cases hs : a0.size ≤ 1000000
  · rw [lists_Has.f, if_pos hs] at h
    obtain rfl := Option.some.inj h
    clear h
    obtain ⟨L, hL⟩ : ∃ L, (splitB a0).1 = L := ⟨_, rfl⟩
    have hLs := splitB_size a0
    have hLl := splitB_len a0
    have hS := fun W => lists_Split.calls a0 (splitB a0).1 (splitB a0).2 W (by unfold lists_Split.f; rw [if_pos hs])
    have HR : Aside0 (hasB a0 a1 = L.any (fun e => foldB e a1)) := ⟨by unfold hasB; rw [hL]⟩
    rw [hL] at hLs hS hLl
    clear hL
    have HLs := Aside0.mk hLs
    clear hLs
    go_enter Try.func22, Try.ntmps22
    go_wp2_with (go_at_call 19; refine (hS _).mono ?_; rintro e w1 ⟨v, rfl, hr, hb⟩; have HR1 := Aside0.mk hr; have HB1 := Aside0.mk hb; clear hr hb)
    have hcB : w1.cell? ⟨w.heap.size, 0, none⟩ = some (.string a1) := (HB1.out.cell (p := ⟨w.heap.size, 0, none⟩) (by simp)).trans (by simp)
    have hBlt : w.heap.size < w1.heap.size := by have := HB1.out.size; simp at this; omega
    have hPred := lists_Has_1.pred w1 w.heap.size a1 hBlt hcB
    have eg : ∀ args w, (callFunc 57 args).run Try.prog w = .ok (.enter 57 args) w := enters_of Try.func57 (by kernel_rfl) rfl
    have hBel : Below w.heap.size w w1 := ((Below.refl _ w).alloc (Nat.le_refl _) _).trans (HB1.out.mono (by simp))
    rcases row_cells HR1.out with ⟨rfl, rfl⟩ | ⟨g, c, rfl, _, hg, hlc, hl9, hcells⟩
    · have hE := Try.slices_ContainsFunc_empty (α := BS) none 0 (.func (.func 57) #[] #[.pointer (some ⟨w.heap.size, 0, none⟩)]) w1
      refine hE.mono ?_
      rintro e w2 ⟨rfl, rfl⟩
      go_wp2
      go_ret
      exact ⟨by rw [HR.out]; rfl, hBel⟩
    · have hat : ∀ x ∈ L, x.size ≤ 1000000 := fun x hx => by have := HLs.out x hx; omega
      have hmap : (L.attachWith _ hat).map Subtype.val = L := List.attachWith_map_subtype_val hat
      have hlen : (L.attachWith _ hat).length = L.length := by simp
      have hE := Try.slices_ContainsFunc encBS (fun x => foldB x.1 a1) 57 #[.pointer (some ⟨w.heap.size, 0, none⟩)] eg g 0 L.length c (L.attachWith _ hat) w1 hPred (by omega) hl9 (fun j hj => by
        rw [hlen] at hj
        rw [hcells j _ (List.getElem?_eq_getElem hj)]
        unfold encBS
        rw [getElem!_pos _ j (by rw [hlen]; exact hj)]
        simp)
      have hany : ((L.attachWith _ hat).take L.length).any (fun x : BS => foldB x.1 a1) = L.any (fun e => foldB e a1) := by
        rw [List.take_of_length_le (by omega)]
        conv => rhs; rw [← hmap]
        rw [List.any_map]
        rfl
      rw [hany] at hE
      refine hE.mono ?_
      rintro e w2 ⟨rfl, q, rfl⟩
      go_wp2
      go_ret
      exact ⟨by rw [HR.out]; rfl, pw_below_drewN hBel q⟩
  · rw [lists_Has.f, if_neg hs] at h
    cases h


end Go.Proofs.Ytkjkbenmoogdjaa.X
namespace Go.Proofs.Ytkjkbenmoogdjaa.X
open Go.RowKit Go.Proofs.YtkjkbenmoogdjaaW.PrintWords Go.Proofs.YtkjkbenmoogdjaaW.PrintLast Go.Proofs.YtkjkbenmoogdjaaW.PrintMore
attribute [local go_sem] max2_int min2_int max_two min_two max_three min_three max_four min_four   -- for this text's walks alone
set_option linter.unusedVariables false
set_option linter.unusedSimpArgs false

/-! ### lists_Join: function 25 -/
/-- P7.2: joined by a comma and a blank. -/
def joinL (l : List ByteArray) : List UInt8 := Lib.join (l.map (·.data.toList)) [44, 32]
def joinB (l : List ByteArray) : ByteArray := ⟨(joinL l).toArray⟩
def lists_Join.f (l0 : List ByteArray) : Option (ByteArray) := if l0.length ≤ 1000000 ∧ (joinL l0).length ≤ 140737488351232 then some (joinB l0) else none
set_option maxHeartbeats 4000000 in
set_option maxRecDepth 100000 in
theorem lists_Join.calls (A0 : Option Addr) (c0 : Nat) (l0 : List ByteArray) (r : ByteArray) (w : World) (hr0 : Kd.C Kd.string w A0 l0.length l0) (hc0 : l0.length ≤ c0) (h : lists_Join.f l0 = some r) :
    Calls Try.prog 25 #[.slice A0 l0.length c0] w fun e w' => e = .returned (.string r) ∧ Below w.heap.size w w' := by
  by_cases hh : l0.length ≤ 1000000 ∧ (joinL l0).length ≤ 140737488351232
  · rw [lists_Join.f, if_pos hh] at h
    obtain rfl := Option.some.inj h
    clear h
    by_cases hl : l0 = []
    · subst hl
      have hJ := fun w => Try.strings_Join_none A0 c0 ⟨#[44, 32]⟩ w
      go_enter Try.func25, Try.ntmps25
      go_wp2_with (go_at_call 59; refine (hJ _).mono ?_; rintro e w' ⟨rfl, rfl⟩)
      go_ret
      exact ⟨rfl, Below.refl _ _⟩
    · obtain ⟨g, o, rfl, hg, hcells⟩ := reads_cells hr0 hl
      have hJ := Try.strings_Join g o c0 l0 ⟨#[44, 32]⟩ w hcells hg (by omega) hc0 (by have := hh.2; unfold joinL at this; exact Nat.le_trans this (by omega))
      have HJ := Aside0.mk hJ
      clear hJ hcells hr0
      go_enter Try.func25, Try.ntmps25
      go_wp2_with (go_at_call 59; refine HJ.out.mono ?_; rintro e w' ⟨rfl, hb⟩)
      go_ret
      exact ⟨rfl, hb⟩
  · rw [lists_Join.f, if_neg hh] at h
    cases h


end Go.Proofs.Ytkjkbenmoogdjaa.X
namespace Go.Proofs.Ytkjkbenmoogdjaa.X
open Go.RowKit Go.Proofs.YtkjkbenmoogdjaaW.PrintWords Go.Proofs.YtkjkbenmoogdjaaW.PrintLast Go.Proofs.YtkjkbenmoogdjaaW.PrintMore
attribute [local go_sem] max2_int min2_int max_two min_two max_three min_three max_four min_four   -- for this text's walks alone
set_option linter.unusedVariables false
set_option linter.unusedSimpArgs false

/-! ### abutmentlaw07_lives: function 24 -/
def abutmentlaw07_lives.f (k : Nat)  : Option (Bool) := (lists_Split.f (⟨#[97, 44, 32, 34, 98, 44, 99, 34, 32, 40, 100, 44, 101, 41, 44, 44, 102]⟩ : ByteArray)).bind fun bt101 => (if bt101.2 = true then ((abutmentref01_Same.f k bt101.1 (([(⟨#[97]⟩ : ByteArray), (⟨#[34, 98, 44, 99, 34, 32, 40, 100, 44, 101, 41]⟩ : ByteArray), (⟨#[102]⟩ : ByteArray)] : List ByteArray))).bind fun t108 => (if t108 = true then ((lists_Join.f (([(⟨#[97]⟩ : ByteArray), (⟨#[98]⟩ : ByteArray)] : List ByteArray))).bind fun t112 => (if t112.toList = ([97, 44, 32, 98] : List UInt8) then ((lists_Has.f (⟨#[97, 44, 66]⟩ : ByteArray) (⟨#[98]⟩ : ByteArray)).bind fun t113 => (some t113)) else (some false))) else (some false))) else (some false))
theorem abutmentlaw07_lives.mono : ∀ k, LeO (abutmentlaw07_lives.f k ) (abutmentlaw07_lives.f (k + 1) ) := by
  intro  k
  unfold abutmentlaw07_lives.f
  repeat' first
      | (with_reducible exact abutmentref01_Same.mono _ _ _)
      | (with_reducible exact LeO.refl _)
      | (with_reducible exact LeO.none _)
      | (with_reducible refine LeO.ite ?_ ?_)
      | (with_reducible refine LeO.bind ?_ (fun _ => ?_))
      | exact abutmentref01_Same.mono _ _ _
      | exact LeO.none _
      | refine LeO.ite ?_ ?_
      | refine LeO.bind ?_ (fun _ => ?_)
set_option maxHeartbeats 8000000 in
set_option maxRecDepth 100000 in
theorem abutmentlaw07_lives.calls (k : Nat)  (r : Bool) (w : World) (h : abutmentlaw07_lives.f k  = some r) :
    Calls Try.prog 24 #[] w fun e w' => e = .returned (.bool r) ∧ Below w.heap.size w w' := by
  have HB := Aside0.mk (Below.refl w.heap.size w)
  have H : ((lists_Split.f (⟨#[97, 44, 32, 34, 98, 44, 99, 34, 32, 40, 100, 44, 101, 41, 44, 44, 102]⟩ : ByteArray)).bind fun bt101 => (if bt101.2 = true then ((abutmentref01_Same.f k bt101.1 (([(⟨#[97]⟩ : ByteArray), (⟨#[34, 98, 44, 99, 34, 32, 40, 100, 44, 101, 41]⟩ : ByteArray), (⟨#[102]⟩ : ByteArray)] : List ByteArray))).bind fun t108 => (if t108 = true then ((lists_Join.f (([(⟨#[97]⟩ : ByteArray), (⟨#[98]⟩ : ByteArray)] : List ByteArray))).bind fun t112 => (if t112.toList = ([97, 44, 32, 98] : List UInt8) then ((lists_Has.f (⟨#[97, 44, 66]⟩ : ByteArray) (⟨#[98]⟩ : ByteArray)).bind fun t113 => (some t113)) else (some false))) else (some false))) else (some false))) = some r := h
  clear h
  replace H := Option.bind_eq_some_iff.mp H
  obtain ⟨⟨t101, t102⟩, A10, H⟩ := H
  replace H : (if t102 = true then ((abutmentref01_Same.f k t101 (([(⟨#[97]⟩ : ByteArray), (⟨#[34, 98, 44, 99, 34, 32, 40, 100, 44, 101, 41]⟩ : ByteArray), (⟨#[102]⟩ : ByteArray)] : List ByteArray))).bind fun t108 => (if t108 = true then ((lists_Join.f (([(⟨#[97]⟩ : ByteArray), (⟨#[98]⟩ : ByteArray)] : List ByteArray))).bind fun t112 => (if t112.toList = ([97, 44, 32, 98] : List UInt8) then ((lists_Has.f (⟨#[97, 44, 66]⟩ : ByteArray) (⟨#[98]⟩ : ByteArray)).bind fun t113 => (some t113)) else (some false))) else (some false))) else (some false)) = some r := H
  have A1 := Aside0.mk A10
  clear A10
  by_cases c2 : t102 = true
  · subst c2
    have H1 : ((abutmentref01_Same.f k t101 (([(⟨#[97]⟩ : ByteArray), (⟨#[34, 98, 44, 99, 34, 32, 40, 100, 44, 101, 41]⟩ : ByteArray), (⟨#[102]⟩ : ByteArray)] : List ByteArray))).bind fun t108 => (if t108 = true then ((lists_Join.f (([(⟨#[97]⟩ : ByteArray), (⟨#[98]⟩ : ByteArray)] : List ByteArray))).bind fun t112 => (if t112.toList = ([97, 44, 32, 98] : List UInt8) then ((lists_Has.f (⟨#[97, 44, 66]⟩ : ByteArray) (⟨#[98]⟩ : ByteArray)).bind fun t113 => (some t113)) else (some false))) else (some false))) = some r := by rw [if_pos rfl] at H; exact H
    clear H
    have H := H1
    clear H1
    obtain ⟨y105, hy105⟩ : ∃ y_ : List ByteArray, y_ = (([(⟨#[97]⟩ : ByteArray), (⟨#[34, 98, 44, 99, 34, 32, 40, 100, 44, 101, 41]⟩ : ByteArray), (⟨#[102]⟩ : ByteArray)] : List ByteArray)) := ⟨_, rfl⟩
    replace H : ((abutmentref01_Same.f k t101 y105).bind fun t108 => (if t108 = true then ((lists_Join.f (([(⟨#[97]⟩ : ByteArray), (⟨#[98]⟩ : ByteArray)] : List ByteArray))).bind fun t112 => (if t112.toList = ([97, 44, 32, 98] : List UInt8) then ((lists_Has.f (⟨#[97, 44, 66]⟩ : ByteArray) (⟨#[98]⟩ : ByteArray)).bind fun t113 => (some t113)) else (some false))) else (some false))) = some r := by first | (rw [hy105]; with_reducible exact H) | (have H2_ := (Option.bind_some _ _).symm.trans H; rw [hy105]; with_reducible exact H2_) | (have H2_ := (Option.bind_some _ _).symm.trans H; with_reducible exact H2_) | with_reducible exact H | (rw [hy105]; exact H) | exact H
    have Ny105 := Aside0.mk hy105
    clear hy105
    replace H := Option.bind_eq_some_iff.mp H
    obtain ⟨t108, A30, H⟩ := H
    replace H : (if t108 = true then ((lists_Join.f (([(⟨#[97]⟩ : ByteArray), (⟨#[98]⟩ : ByteArray)] : List ByteArray))).bind fun t112 => (if t112.toList = ([97, 44, 32, 98] : List UInt8) then ((lists_Has.f (⟨#[97, 44, 66]⟩ : ByteArray) (⟨#[98]⟩ : ByteArray)).bind fun t113 => (some t113)) else (some false))) else (some false)) = some r := H
    have A3 := Aside0.mk A30
    clear A30
    by_cases c4 : t108 = true
    · subst c4
      have H1 : ((lists_Join.f (([(⟨#[97]⟩ : ByteArray), (⟨#[98]⟩ : ByteArray)] : List ByteArray))).bind fun t112 => (if t112.toList = ([97, 44, 32, 98] : List UInt8) then ((lists_Has.f (⟨#[97, 44, 66]⟩ : ByteArray) (⟨#[98]⟩ : ByteArray)).bind fun t113 => (some t113)) else (some false))) = some r := by rw [if_pos rfl] at H; exact H
      clear H
      have H := H1
      clear H1
      obtain ⟨y109, hy109⟩ : ∃ y_ : List ByteArray, y_ = (([(⟨#[97]⟩ : ByteArray), (⟨#[98]⟩ : ByteArray)] : List ByteArray)) := ⟨_, rfl⟩
      replace H : ((lists_Join.f y109).bind fun t112 => (if t112.toList = ([97, 44, 32, 98] : List UInt8) then ((lists_Has.f (⟨#[97, 44, 66]⟩ : ByteArray) (⟨#[98]⟩ : ByteArray)).bind fun t113 => (some t113)) else (some false))) = some r := by first | (rw [hy109]; with_reducible exact H) | (have H2_ := (Option.bind_some _ _).symm.trans H; rw [hy109]; with_reducible exact H2_) | (have H2_ := (Option.bind_some _ _).symm.trans H; with_reducible exact H2_) | with_reducible exact H | (rw [hy109]; exact H) | exact H
      have Ny109 := Aside0.mk hy109
      clear hy109
      replace H := Option.bind_eq_some_iff.mp H
      obtain ⟨t112, A50, H⟩ := H
      replace H : (if t112.toList = ([97, 44, 32, 98] : List UInt8) then ((lists_Has.f (⟨#[97, 44, 66]⟩ : ByteArray) (⟨#[98]⟩ : ByteArray)).bind fun t113 => (some t113)) else (some false)) = some r := H
      have A5 := Aside0.mk A50
      clear A50
      by_cases c6 : t112.toList = ([97, 44, 32, 98] : List UInt8)
      · rw [if_pos c6] at H
        have c6b0 : (t112.toList == ([97, 44, 32, 98] : List UInt8)) = true := beq_iff_eq.mpr c6
        have c6b1 : (t112.toList != ([97, 44, 32, 98] : List UInt8)) = false := bne_eq_false_iff_eq.mpr c6
        clear c6
        replace H := Option.bind_eq_some_iff.mp H
        obtain ⟨t113, A70, H⟩ := H
        replace H : (some t113) = some r := H
        have A7 := Aside0.mk A70
        clear A70
        obtain rfl := Option.some.inj H
        go_enter Try.func24, Try.ntmps24
        go_wp2_with (first | ((with_reducible refine gate_callee (f := 19) rfl ?_); refine goesL_ (some 4) rfl rfl Try.func19 (by kernel_rfl) rfl #[.string (⟨#[97, 44, 32, 34, 98, 44, 99, 34, 32, 40, 100, 44, 101, 41, 44, 44, 102]⟩ : ByteArray)] rfl (by (try simp only [List.map_toArray, List.map_cons, List.map_nil]); first | done | rfl | (simp only [List.length_drop, List.length_take]; rfl)) ?_; (with_reducible refine (lists_Split.calls (⟨#[97, 44, 32, 34, 98, 44, 99, 34, 32, 40, 100, 44, 101, 41, 44, 44, 102]⟩ : ByteArray) t101 true _ A1.out).mono ?_); rintro e w8 ⟨v103, rfl, ho0, hb⟩; refine ⟨_, rfl, ?_⟩; have n0_ := Aside0.mk (Kd.R_lower ho0 (below_size (by repeat (first | (with_reducible first | exact HB.out | apply below_alloc | apply pw_below_drewN | apply below_drew1) | exact HB.out)))); have n1_ := Aside0.mk (below_step (by repeat (first | (with_reducible first | exact HB.out | apply below_alloc | apply pw_below_drewN | apply below_drew1) | exact HB.out)) hb); clear HB; have HO104 := n0_; have HB := n1_; clear n0_ n1_; (try clear hb); (try clear hb2); (try clear hk); (try clear hi); (try clear ho0)) | ((with_reducible refine gate_dst (N := 10) rfl ?_); (try (refine gate_guard (by rfl) ?_; dsimp only)); refine Kd.R_lit Kd.string _ 9 ?hg (N := 10) ?hd (xs := ([(⟨#[97]⟩ : ByteArray), (⟨#[34, 98, 44, 99, 34, 32, 40, 100, 44, 101, 41]⟩ : ByteArray), (⟨#[102]⟩ : ByteArray)] : List ByteArray)) (inner := [.string (⟨#[97]⟩ : ByteArray), .string (⟨#[34, 98, 44, 99, 34, 32, 40, 100, 44, 101, 41]⟩ : ByteArray), .string (⟨#[102]⟩ : ByteArray)]) (ok := fun _ => True) (okp := fun _ => True) ?hr ?hp (fun _ hk => hk) trivial (Below.refl _ _) (Nat.le_refl _) (by simp) ?_; (case hd => rfl); (case hg => rfl); (case hr => first | (go_simp; done) | (go_simp; rfl)); (case hp => exact (Reps.one (show Kd.M Kd.string _ _ _ (⟨#[97]⟩ : ByteArray) [.string (⟨#[97]⟩ : ByteArray)] from rfl) (Reps.one (show Kd.M Kd.string _ _ _ (⟨#[34, 98, 44, 99, 34, 32, 40, 100, 44, 101, 41]⟩ : ByteArray) [.string (⟨#[34, 98, 44, 99, 34, 32, 40, 100, 44, 101, 41]⟩ : ByteArray)] from rfl) (Reps.one (show Kd.M Kd.string _ _ _ (⟨#[102]⟩ : ByteArray) [.string (⟨#[102]⟩ : ByteArray)] from rfl) (Reps.none _ _))))); intro v106 w9 ho10 hb hg_ hnew_; clear hg_ hnew_; (first | rw [← Ny105.out] at ho10 | (simp only [Int.reduceToNat] at ho10; rw [← Ny105.out] at ho10)); have n0_ := Aside0.mk (Kd.R_elder' (by (with_reducible repeat (first | apply Kd.R_alloc | apply Kd.R_drewN | apply Kd.R_drew)); exact HO104.out) (Kd.R_base ho10) hb); have n1_ := Aside0.mk (Kd.R_lower (Kd.R_new' ho10 (Kd.R_lt (by (with_reducible repeat (first | apply Kd.R_alloc | apply Kd.R_drewN | apply Kd.R_drew)); exact HO104.out))) (below_size (by repeat (first | (with_reducible first | exact HB.out | apply below_alloc | apply pw_below_drewN | apply below_drew1) | exact HB.out)))); have n2_ := Aside0.mk (below_step (by repeat (first | (with_reducible first | exact HB.out | apply below_alloc | apply pw_below_drewN | apply below_drew1) | exact HB.out)) hb); clear HO104; clear HB; have HO104 := n0_; have HO107 := n1_; have HB := n2_; clear n0_ n1_ n2_; clear hb ho10; obtain ⟨Ao11, co11, eo11⟩ := Kd.R_slice HO104.out; subst eo11; obtain ⟨Ao12, co12, eo12⟩ := Kd.R_slice HO107.out; subst eo12) | (go_at_call 21; (with_reducible refine (abutmentref01_Same.calls k _ _ t101 _ _ y105 true _ ?side1 ?side2 ?side3 ?side4 A3.out).mono ?_); (case side1 => repeat (first | exact (Kd.R_reads' HO104.out).2.2 | (with_reducible refine Kd.C_alloc ?_ _) | (with_reducible refine Kd.C_drewN ?_ _) | (with_reducible refine Kd.C_drew ?_))); (case side2 => exact (Kd.R_reads' HO104.out).2.1); (case side3 => repeat (first | exact (Kd.R_reads' HO107.out).2.2 | (with_reducible refine Kd.C_alloc ?_ _) | (with_reducible refine Kd.C_drewN ?_ _) | (with_reducible refine Kd.C_drew ?_))); (case side4 => exact (Kd.R_reads' HO107.out).2.1); rintro e w' ⟨rfl, ⟨nd, rfl⟩⟩) | ((with_reducible refine gate_dst (N := 14) rfl ?_); (try (refine gate_guard (by rfl) ?_; dsimp only)); refine Kd.R_lit Kd.string _ 9 ?hg (N := 14) ?hd (xs := ([(⟨#[97]⟩ : ByteArray), (⟨#[98]⟩ : ByteArray)] : List ByteArray)) (inner := [.string (⟨#[97]⟩ : ByteArray), .string (⟨#[98]⟩ : ByteArray)]) (ok := fun _ => True) (okp := fun _ => True) ?hr ?hp (fun _ hk => hk) trivial (Below.refl _ _) (Nat.le_refl _) (by simp) ?_; (case hd => rfl); (case hg => rfl); (case hr => first | (go_simp; done) | (go_simp; rfl)); (case hp => exact (Reps.one (show Kd.M Kd.string _ _ _ (⟨#[97]⟩ : ByteArray) [.string (⟨#[97]⟩ : ByteArray)] from rfl) (Reps.one (show Kd.M Kd.string _ _ _ (⟨#[98]⟩ : ByteArray) [.string (⟨#[98]⟩ : ByteArray)] from rfl) (Reps.none _ _)))); intro v110 w13 ho14 hb hg_ hnew_; clear hg_ hnew_; (first | rw [← Ny109.out] at ho14 | (simp only [Int.reduceToNat] at ho14; rw [← Ny109.out] at ho14)); have n0_ := Aside0.mk (Kd.R_elder' (by (with_reducible repeat (first | apply Kd.R_alloc | apply Kd.R_drewN | apply Kd.R_drew)); exact HO104.out) (Kd.R_base ho14) hb); have n1_ := Aside0.mk (Kd.R_elder' (by (with_reducible repeat (first | apply Kd.R_alloc | apply Kd.R_drewN | apply Kd.R_drew)); exact HO107.out) (Kd.R_base ho14) hb); have n2_ := Aside0.mk (Kd.R_lower (Kd.R_new' (Kd.R_new' ho14 (Kd.R_lt (by (with_reducible repeat (first | apply Kd.R_alloc | apply Kd.R_drewN | apply Kd.R_drew)); exact HO104.out))) (Kd.R_lt (by (with_reducible repeat (first | apply Kd.R_alloc | apply Kd.R_drewN | apply Kd.R_drew)); exact HO107.out))) (below_size (by repeat (first | (with_reducible first | exact HB.out | apply below_alloc | apply pw_below_drewN | apply below_drew1) | exact HB.out)))); have n3_ := Aside0.mk (below_step (by repeat (first | (with_reducible first | exact HB.out | apply below_alloc | apply pw_below_drewN | apply below_drew1) | exact HB.out)) hb); clear HO104; clear HO107; clear HB; have HO104 := n0_; have HO107 := n1_; have HO111 := n2_; have HB := n3_; clear n0_ n1_ n2_ n3_; clear hb ho14; obtain ⟨Ao15, co15, eo15⟩ := Kd.R_slice HO111.out; subst eo15) | (go_at_call 25; (with_reducible refine (lists_Join.calls _ _ y109 t112 _ ?side1 ?side2 A5.out).mono ?_); (case side1 => repeat (first | exact (Kd.R_reads' HO111.out).2.2 | (with_reducible refine Kd.C_alloc ?_ _) | (with_reducible refine Kd.C_drewN ?_ _) | (with_reducible refine Kd.C_drew ?_))); (case side2 => exact (Kd.R_reads' HO111.out).2.1); rintro e w16 ⟨rfl, hb⟩; have n0_ := Aside0.mk (Kd.R_below (by (with_reducible repeat (first | apply Kd.R_alloc | apply Kd.R_drewN | apply Kd.R_drew)); exact HO104.out) hb); have n1_ := Aside0.mk (Kd.R_below (by (with_reducible repeat (first | apply Kd.R_alloc | apply Kd.R_drewN | apply Kd.R_drew)); exact HO107.out) hb); have n2_ := Aside0.mk (Kd.R_below (by (with_reducible repeat (first | apply Kd.R_alloc | apply Kd.R_drewN | apply Kd.R_drew)); exact HO111.out) hb); have n3_ := Aside0.mk (below_step (by repeat (first | (with_reducible first | exact HB.out | apply below_alloc | apply pw_below_drewN | apply below_drew1) | exact HB.out)) hb); clear HO104; clear HO107; clear HO111; clear HB; have HO104 := n0_; have HO107 := n1_; have HO111 := n2_; have HB := n3_; clear n0_ n1_ n2_ n3_; (try clear hb); (try clear hb2); (try clear hk); (try clear hi)) | (go_at_call 22; (with_reducible refine (lists_Has.calls (⟨#[97, 44, 66]⟩ : ByteArray) (⟨#[98]⟩ : ByteArray) t113 _ A7.out).mono ?_); rintro e w17 ⟨rfl, hb⟩; have n0_ := Aside0.mk (Kd.R_below (by (with_reducible repeat (first | apply Kd.R_alloc | apply Kd.R_drewN | apply Kd.R_drew)); exact HO104.out) hb); have n1_ := Aside0.mk (Kd.R_below (by (with_reducible repeat (first | apply Kd.R_alloc | apply Kd.R_drewN | apply Kd.R_drew)); exact HO107.out) hb); have n2_ := Aside0.mk (Kd.R_below (by (with_reducible repeat (first | apply Kd.R_alloc | apply Kd.R_drewN | apply Kd.R_drew)); exact HO111.out) hb); have n3_ := Aside0.mk (below_step (by repeat (first | (with_reducible first | exact HB.out | apply below_alloc | apply pw_below_drewN | apply below_drew1) | exact HB.out)) hb); clear HO104; clear HO107; clear HO111; clear HB; have HO104 := n0_; have HO107 := n1_; have HO111 := n2_; have HB := n3_; clear n0_ n1_ n2_ n3_; (try clear hb); (try clear hb2); (try clear hk); (try clear hi)))
        go_ret
        exact ⟨by first | rfl | (simp [errW_none, errW_some] <;> rfl) | (simp [*, errW_none, errW_some] <;> rfl), by repeat (first | (with_reducible first | exact HB.out | apply below_alloc | apply pw_below_drewN | apply below_drew1) | exact HB.out)⟩
      · rw [if_neg c6] at H
        have c6b0 : (t112.toList == ([97, 44, 32, 98] : List UInt8)) = false := beq_eq_false_iff_ne.mpr c6
        have c6b1 : (t112.toList != ([97, 44, 32, 98] : List UInt8)) = true := bne_iff_ne.mpr c6
        obtain rfl := Option.some.inj H
        go_enter Try.func24, Try.ntmps24
        go_wp2_with (first | ((with_reducible refine gate_callee (f := 19) rfl ?_); refine goesL_ (some 4) rfl rfl Try.func19 (by kernel_rfl) rfl #[.string (⟨#[97, 44, 32, 34, 98, 44, 99, 34, 32, 40, 100, 44, 101, 41, 44, 44, 102]⟩ : ByteArray)] rfl (by (try simp only [List.map_toArray, List.map_cons, List.map_nil]); first | done | rfl | (simp only [List.length_drop, List.length_take]; rfl)) ?_; (with_reducible refine (lists_Split.calls (⟨#[97, 44, 32, 34, 98, 44, 99, 34, 32, 40, 100, 44, 101, 41, 44, 44, 102]⟩ : ByteArray) t101 true _ A1.out).mono ?_); rintro e w18 ⟨v103, rfl, ho0, hb⟩; refine ⟨_, rfl, ?_⟩; have n0_ := Aside0.mk (Kd.R_lower ho0 (below_size (by repeat (first | (with_reducible first | exact HB.out | apply below_alloc | apply pw_below_drewN | apply below_drew1) | exact HB.out)))); have n1_ := Aside0.mk (below_step (by repeat (first | (with_reducible first | exact HB.out | apply below_alloc | apply pw_below_drewN | apply below_drew1) | exact HB.out)) hb); clear HB; have HO104 := n0_; have HB := n1_; clear n0_ n1_; (try clear hb); (try clear hb2); (try clear hk); (try clear hi); (try clear ho0)) | ((with_reducible refine gate_dst (N := 10) rfl ?_); (try (refine gate_guard (by rfl) ?_; dsimp only)); refine Kd.R_lit Kd.string _ 9 ?hg (N := 10) ?hd (xs := ([(⟨#[97]⟩ : ByteArray), (⟨#[34, 98, 44, 99, 34, 32, 40, 100, 44, 101, 41]⟩ : ByteArray), (⟨#[102]⟩ : ByteArray)] : List ByteArray)) (inner := [.string (⟨#[97]⟩ : ByteArray), .string (⟨#[34, 98, 44, 99, 34, 32, 40, 100, 44, 101, 41]⟩ : ByteArray), .string (⟨#[102]⟩ : ByteArray)]) (ok := fun _ => True) (okp := fun _ => True) ?hr ?hp (fun _ hk => hk) trivial (Below.refl _ _) (Nat.le_refl _) (by simp) ?_; (case hd => rfl); (case hg => rfl); (case hr => first | (go_simp; done) | (go_simp; rfl)); (case hp => exact (Reps.one (show Kd.M Kd.string _ _ _ (⟨#[97]⟩ : ByteArray) [.string (⟨#[97]⟩ : ByteArray)] from rfl) (Reps.one (show Kd.M Kd.string _ _ _ (⟨#[34, 98, 44, 99, 34, 32, 40, 100, 44, 101, 41]⟩ : ByteArray) [.string (⟨#[34, 98, 44, 99, 34, 32, 40, 100, 44, 101, 41]⟩ : ByteArray)] from rfl) (Reps.one (show Kd.M Kd.string _ _ _ (⟨#[102]⟩ : ByteArray) [.string (⟨#[102]⟩ : ByteArray)] from rfl) (Reps.none _ _))))); intro v106 w19 ho20 hb hg_ hnew_; clear hg_ hnew_; (first | rw [← Ny105.out] at ho20 | (simp only [Int.reduceToNat] at ho20; rw [← Ny105.out] at ho20)); have n0_ := Aside0.mk (Kd.R_elder' (by (with_reducible repeat (first | apply Kd.R_alloc | apply Kd.R_drewN | apply Kd.R_drew)); exact HO104.out) (Kd.R_base ho20) hb); have n1_ := Aside0.mk (Kd.R_lower (Kd.R_new' ho20 (Kd.R_lt (by (with_reducible repeat (first | apply Kd.R_alloc | apply Kd.R_drewN | apply Kd.R_drew)); exact HO104.out))) (below_size (by repeat (first | (with_reducible first | exact HB.out | apply below_alloc | apply pw_below_drewN | apply below_drew1) | exact HB.out)))); have n2_ := Aside0.mk (below_step (by repeat (first | (with_reducible first | exact HB.out | apply below_alloc | apply pw_below_drewN | apply below_drew1) | exact HB.out)) hb); clear HO104; clear HB; have HO104 := n0_; have HO107 := n1_; have HB := n2_; clear n0_ n1_ n2_; clear hb ho20; obtain ⟨Ao21, co21, eo21⟩ := Kd.R_slice HO104.out; subst eo21; obtain ⟨Ao22, co22, eo22⟩ := Kd.R_slice HO107.out; subst eo22) | (go_at_call 21; (with_reducible refine (abutmentref01_Same.calls k _ _ t101 _ _ y105 true _ ?side1 ?side2 ?side3 ?side4 A3.out).mono ?_); (case side1 => repeat (first | exact (Kd.R_reads' HO104.out).2.2 | (with_reducible refine Kd.C_alloc ?_ _) | (with_reducible refine Kd.C_drewN ?_ _) | (with_reducible refine Kd.C_drew ?_))); (case side2 => exact (Kd.R_reads' HO104.out).2.1); (case side3 => repeat (first | exact (Kd.R_reads' HO107.out).2.2 | (with_reducible refine Kd.C_alloc ?_ _) | (with_reducible refine Kd.C_drewN ?_ _) | (with_reducible refine Kd.C_drew ?_))); (case side4 => exact (Kd.R_reads' HO107.out).2.1); rintro e w' ⟨rfl, ⟨nd, rfl⟩⟩) | ((with_reducible refine gate_dst (N := 14) rfl ?_); (try (refine gate_guard (by rfl) ?_; dsimp only)); refine Kd.R_lit Kd.string _ 9 ?hg (N := 14) ?hd (xs := ([(⟨#[97]⟩ : ByteArray), (⟨#[98]⟩ : ByteArray)] : List ByteArray)) (inner := [.string (⟨#[97]⟩ : ByteArray), .string (⟨#[98]⟩ : ByteArray)]) (ok := fun _ => True) (okp := fun _ => True) ?hr ?hp (fun _ hk => hk) trivial (Below.refl _ _) (Nat.le_refl _) (by simp) ?_; (case hd => rfl); (case hg => rfl); (case hr => first | (go_simp; done) | (go_simp; rfl)); (case hp => exact (Reps.one (show Kd.M Kd.string _ _ _ (⟨#[97]⟩ : ByteArray) [.string (⟨#[97]⟩ : ByteArray)] from rfl) (Reps.one (show Kd.M Kd.string _ _ _ (⟨#[98]⟩ : ByteArray) [.string (⟨#[98]⟩ : ByteArray)] from rfl) (Reps.none _ _)))); intro v110 w23 ho24 hb hg_ hnew_; clear hg_ hnew_; (first | rw [← Ny109.out] at ho24 | (simp only [Int.reduceToNat] at ho24; rw [← Ny109.out] at ho24)); have n0_ := Aside0.mk (Kd.R_elder' (by (with_reducible repeat (first | apply Kd.R_alloc | apply Kd.R_drewN | apply Kd.R_drew)); exact HO104.out) (Kd.R_base ho24) hb); have n1_ := Aside0.mk (Kd.R_elder' (by (with_reducible repeat (first | apply Kd.R_alloc | apply Kd.R_drewN | apply Kd.R_drew)); exact HO107.out) (Kd.R_base ho24) hb); have n2_ := Aside0.mk (Kd.R_lower (Kd.R_new' (Kd.R_new' ho24 (Kd.R_lt (by (with_reducible repeat (first | apply Kd.R_alloc | apply Kd.R_drewN | apply Kd.R_drew)); exact HO104.out))) (Kd.R_lt (by (with_reducible repeat (first | apply Kd.R_alloc | apply Kd.R_drewN | apply Kd.R_drew)); exact HO107.out))) (below_size (by repeat (first | (with_reducible first | exact HB.out | apply below_alloc | apply pw_below_drewN | apply below_drew1) | exact HB.out)))); have n3_ := Aside0.mk (below_step (by repeat (first | (with_reducible first | exact HB.out | apply below_alloc | apply pw_below_drewN | apply below_drew1) | exact HB.out)) hb); clear HO104; clear HO107; clear HB; have HO104 := n0_; have HO107 := n1_; have HO111 := n2_; have HB := n3_; clear n0_ n1_ n2_ n3_; clear hb ho24; obtain ⟨Ao25, co25, eo25⟩ := Kd.R_slice HO111.out; subst eo25) | (go_at_call 25; (with_reducible refine (lists_Join.calls _ _ y109 t112 _ ?side1 ?side2 A5.out).mono ?_); (case side1 => repeat (first | exact (Kd.R_reads' HO111.out).2.2 | (with_reducible refine Kd.C_alloc ?_ _) | (with_reducible refine Kd.C_drewN ?_ _) | (with_reducible refine Kd.C_drew ?_))); (case side2 => exact (Kd.R_reads' HO111.out).2.1); rintro e w26 ⟨rfl, hb⟩; have n0_ := Aside0.mk (Kd.R_below (by (with_reducible repeat (first | apply Kd.R_alloc | apply Kd.R_drewN | apply Kd.R_drew)); exact HO104.out) hb); have n1_ := Aside0.mk (Kd.R_below (by (with_reducible repeat (first | apply Kd.R_alloc | apply Kd.R_drewN | apply Kd.R_drew)); exact HO107.out) hb); have n2_ := Aside0.mk (Kd.R_below (by (with_reducible repeat (first | apply Kd.R_alloc | apply Kd.R_drewN | apply Kd.R_drew)); exact HO111.out) hb); have n3_ := Aside0.mk (below_step (by repeat (first | (with_reducible first | exact HB.out | apply below_alloc | apply pw_below_drewN | apply below_drew1) | exact HB.out)) hb); clear HO104; clear HO107; clear HO111; clear HB; have HO104 := n0_; have HO107 := n1_; have HO111 := n2_; have HB := n3_; clear n0_ n1_ n2_ n3_; (try clear hb); (try clear hb2); (try clear hk); (try clear hi)))
        go_ret
        exact ⟨by first | rfl | (simp [errW_none, errW_some] <;> rfl) | (simp [*, errW_none, errW_some] <;> rfl), by repeat (first | (with_reducible first | exact HB.out | apply below_alloc | apply pw_below_drewN | apply below_drew1) | exact HB.out)⟩
    · replace c4 := Bool.eq_false_iff.mpr c4
      subst c4
      have H1 : (some false) = some r := by rw [if_neg (show ¬ (false = true) by decide)] at H; exact H
      clear H
      have H := H1
      clear H1
      obtain rfl := Option.some.inj H
      go_enter Try.func24, Try.ntmps24
      go_wp2_with (first | ((with_reducible refine gate_callee (f := 19) rfl ?_); refine goesL_ (some 4) rfl rfl Try.func19 (by kernel_rfl) rfl #[.string (⟨#[97, 44, 32, 34, 98, 44, 99, 34, 32, 40, 100, 44, 101, 41, 44, 44, 102]⟩ : ByteArray)] rfl (by (try simp only [List.map_toArray, List.map_cons, List.map_nil]); first | done | rfl | (simp only [List.length_drop, List.length_take]; rfl)) ?_; (with_reducible refine (lists_Split.calls (⟨#[97, 44, 32, 34, 98, 44, 99, 34, 32, 40, 100, 44, 101, 41, 44, 44, 102]⟩ : ByteArray) t101 true _ A1.out).mono ?_); rintro e w27 ⟨v103, rfl, ho0, hb⟩; refine ⟨_, rfl, ?_⟩; have n0_ := Aside0.mk (Kd.R_lower ho0 (below_size (by repeat (first | (with_reducible first | exact HB.out | apply below_alloc | apply pw_below_drewN | apply below_drew1) | exact HB.out)))); have n1_ := Aside0.mk (below_step (by repeat (first | (with_reducible first | exact HB.out | apply below_alloc | apply pw_below_drewN | apply below_drew1) | exact HB.out)) hb); clear HB; have HO104 := n0_; have HB := n1_; clear n0_ n1_; (try clear hb); (try clear hb2); (try clear hk); (try clear hi); (try clear ho0)) | ((with_reducible refine gate_dst (N := 10) rfl ?_); (try (refine gate_guard (by rfl) ?_; dsimp only)); refine Kd.R_lit Kd.string _ 9 ?hg (N := 10) ?hd (xs := ([(⟨#[97]⟩ : ByteArray), (⟨#[34, 98, 44, 99, 34, 32, 40, 100, 44, 101, 41]⟩ : ByteArray), (⟨#[102]⟩ : ByteArray)] : List ByteArray)) (inner := [.string (⟨#[97]⟩ : ByteArray), .string (⟨#[34, 98, 44, 99, 34, 32, 40, 100, 44, 101, 41]⟩ : ByteArray), .string (⟨#[102]⟩ : ByteArray)]) (ok := fun _ => True) (okp := fun _ => True) ?hr ?hp (fun _ hk => hk) trivial (Below.refl _ _) (Nat.le_refl _) (by simp) ?_; (case hd => rfl); (case hg => rfl); (case hr => first | (go_simp; done) | (go_simp; rfl)); (case hp => exact (Reps.one (show Kd.M Kd.string _ _ _ (⟨#[97]⟩ : ByteArray) [.string (⟨#[97]⟩ : ByteArray)] from rfl) (Reps.one (show Kd.M Kd.string _ _ _ (⟨#[34, 98, 44, 99, 34, 32, 40, 100, 44, 101, 41]⟩ : ByteArray) [.string (⟨#[34, 98, 44, 99, 34, 32, 40, 100, 44, 101, 41]⟩ : ByteArray)] from rfl) (Reps.one (show Kd.M Kd.string _ _ _ (⟨#[102]⟩ : ByteArray) [.string (⟨#[102]⟩ : ByteArray)] from rfl) (Reps.none _ _))))); intro v106 w28 ho29 hb hg_ hnew_; clear hg_ hnew_; (first | rw [← Ny105.out] at ho29 | (simp only [Int.reduceToNat] at ho29; rw [← Ny105.out] at ho29)); have n0_ := Aside0.mk (Kd.R_elder' (by (with_reducible repeat (first | apply Kd.R_alloc | apply Kd.R_drewN | apply Kd.R_drew)); exact HO104.out) (Kd.R_base ho29) hb); have n1_ := Aside0.mk (Kd.R_lower (Kd.R_new' ho29 (Kd.R_lt (by (with_reducible repeat (first | apply Kd.R_alloc | apply Kd.R_drewN | apply Kd.R_drew)); exact HO104.out))) (below_size (by repeat (first | (with_reducible first | exact HB.out | apply below_alloc | apply pw_below_drewN | apply below_drew1) | exact HB.out)))); have n2_ := Aside0.mk (below_step (by repeat (first | (with_reducible first | exact HB.out | apply below_alloc | apply pw_below_drewN | apply below_drew1) | exact HB.out)) hb); clear HO104; clear HB; have HO104 := n0_; have HO107 := n1_; have HB := n2_; clear n0_ n1_ n2_; clear hb ho29; obtain ⟨Ao30, co30, eo30⟩ := Kd.R_slice HO104.out; subst eo30; obtain ⟨Ao31, co31, eo31⟩ := Kd.R_slice HO107.out; subst eo31) | (go_at_call 21; (with_reducible refine (abutmentref01_Same.calls k _ _ t101 _ _ y105 false _ ?side1 ?side2 ?side3 ?side4 A3.out).mono ?_); (case side1 => repeat (first | exact (Kd.R_reads' HO104.out).2.2 | (with_reducible refine Kd.C_alloc ?_ _) | (with_reducible refine Kd.C_drewN ?_ _) | (with_reducible refine Kd.C_drew ?_))); (case side2 => exact (Kd.R_reads' HO104.out).2.1); (case side3 => repeat (first | exact (Kd.R_reads' HO107.out).2.2 | (with_reducible refine Kd.C_alloc ?_ _) | (with_reducible refine Kd.C_drewN ?_ _) | (with_reducible refine Kd.C_drew ?_))); (case side4 => exact (Kd.R_reads' HO107.out).2.1); rintro e w' ⟨rfl, ⟨nd, rfl⟩⟩))
      go_ret
      exact ⟨by first | rfl | (simp [errW_none, errW_some] <;> rfl) | (simp [*, errW_none, errW_some] <;> rfl), by repeat (first | (with_reducible first | exact HB.out | apply below_alloc | apply pw_below_drewN | apply below_drew1) | exact HB.out)⟩
  · replace c2 := Bool.eq_false_iff.mpr c2
    subst c2
    have H1 : (some false) = some r := by rw [if_neg (show ¬ (false = true) by decide)] at H; exact H
    clear H
    have H := H1
    clear H1
    obtain rfl := Option.some.inj H
    go_enter Try.func24, Try.ntmps24
    go_wp2_with (first | ((with_reducible refine gate_callee (f := 19) rfl ?_); refine goesL_ (some 4) rfl rfl Try.func19 (by kernel_rfl) rfl #[.string (⟨#[97, 44, 32, 34, 98, 44, 99, 34, 32, 40, 100, 44, 101, 41, 44, 44, 102]⟩ : ByteArray)] rfl (by (try simp only [List.map_toArray, List.map_cons, List.map_nil]); first | done | rfl | (simp only [List.length_drop, List.length_take]; rfl)) ?_; (with_reducible refine (lists_Split.calls (⟨#[97, 44, 32, 34, 98, 44, 99, 34, 32, 40, 100, 44, 101, 41, 44, 44, 102]⟩ : ByteArray) t101 false _ A1.out).mono ?_); rintro e w32 ⟨v103, rfl, ho0, hb⟩; refine ⟨_, rfl, ?_⟩; have n0_ := Aside0.mk (Kd.R_lower ho0 (below_size (by repeat (first | (with_reducible first | exact HB.out | apply below_alloc | apply pw_below_drewN | apply below_drew1) | exact HB.out)))); have n1_ := Aside0.mk (below_step (by repeat (first | (with_reducible first | exact HB.out | apply below_alloc | apply pw_below_drewN | apply below_drew1) | exact HB.out)) hb); clear HB; have HO104 := n0_; have HB := n1_; clear n0_ n1_; (try clear hb); (try clear hb2); (try clear hk); (try clear hi); (try clear ho0)))
    go_ret
    exact ⟨by first | rfl | (simp [errW_none, errW_some] <;> rfl) | (simp [*, errW_none, errW_some] <;> rfl), by repeat (first | (with_reducible first | exact HB.out | apply below_alloc | apply pw_below_drewN | apply below_drew1) | exact HB.out)⟩

end Go.Proofs.Ytkjkbenmoogdjaa.X
namespace Go.Proofs.Ytkjkbenmoogdjaa.X
open Go.RowKit Go.Proofs.YtkjkbenmoogdjaaW.PrintWords Go.Proofs.YtkjkbenmoogdjaaW.PrintLast Go.Proofs.YtkjkbenmoogdjaaW.PrintMore
attribute [local go_sem] max2_int min2_int max_two min_two max_three min_three max_four min_four   -- for this text's walks alone
set_option linter.unusedVariables false
set_option linter.unusedSimpArgs false

/-! ### abutmentref07_Join: function 26 -/
def abutmentref07_Join.l0 : Nat → List ByteArray → ByteArray → Int → Option (ByteArray)
  | 0, _, _, _ => none
  | k + 1, x0, x3, x4 => if x4 < (x0.length : Int) then (if x4 > 0 then (if x3.size + 2 ≤ 9223372036854775807 then (if 0 ≤ x4 then (if (x3 ++ (⟨#[44, 32]⟩ : ByteArray)).size + (rdOf ByteArray.empty x0 x4).size ≤ 9223372036854775807 then (abutmentref07_Join.l0 k x0 ((x3 ++ (⟨#[44, 32]⟩ : ByteArray)) ++ (rdOf ByteArray.empty x0 x4)) (wrap64 (x4 + 1))) else (none)) else (none)) else (none)) else (if 0 ≤ x4 then (if x3.size + (rdOf ByteArray.empty x0 x4).size ≤ 9223372036854775807 then (abutmentref07_Join.l0 k x0 (x3 ++ (rdOf ByteArray.empty x0 x4)) (wrap64 (x4 + 1))) else (none)) else (none))) else (some x3)
def abutmentref07_Join.f (k : Nat) (l0 : List ByteArray) : Option (ByteArray) := abutmentref07_Join.l0 k l0 (⟨#[]⟩ : ByteArray) 0
theorem abutmentref07_Join.mono_l : ∀ k, (∀ y0 y1 y2, LeO (abutmentref07_Join.l0 k y0 y1 y2) (abutmentref07_Join.l0 (k + 1) y0 y1 y2))
  | 0 => fun _ _ _ r h => by simp [abutmentref07_Join.l0] at h
  | k + 1 => by
    have ih0 := abutmentref07_Join.mono_l k
    · intro y0 y1 y2
      unfold abutmentref07_Join.l0
      repeat' first
      | (with_reducible exact ih0 _ _ _)
      | (with_reducible exact LeO.refl _)
      | (with_reducible exact LeO.none _)
      | (with_reducible refine LeO.ite ?_ ?_)
      | (with_reducible refine LeO.bind ?_ (fun _ => ?_))
      | exact ih0 _ _ _
      | exact LeO.none _
      | refine LeO.ite ?_ ?_
      | refine LeO.bind ?_ (fun _ => ?_)
theorem abutmentref07_Join.mono : ∀ a0 k, LeO (abutmentref07_Join.f k a0) (abutmentref07_Join.f (k + 1) a0) := by
  intro a0 k
  have ih0 := abutmentref07_Join.mono_l k
  unfold abutmentref07_Join.f
  repeat' first
      | (with_reducible exact ih0 _ _ _)
      | (with_reducible exact LeO.refl _)
      | (with_reducible exact LeO.none _)
      | (with_reducible refine LeO.ite ?_ ?_)
      | (with_reducible refine LeO.bind ?_ (fun _ => ?_))
      | exact ih0 _ _ _
      | exact LeO.none _
      | refine LeO.ite ?_ ?_
      | refine LeO.bind ?_ (fun _ => ?_)
set_option maxHeartbeats 8000000 in
set_option maxRecDepth 100000 in
theorem abutmentref07_Join.calls (k : Nat) (A0 : Option Addr) (c0 : Nat) (l0 : List ByteArray) (r : ByteArray) (w : World) (hr0 : Kd.C Kd.string w A0 l0.length l0) (hc0 : l0.length ≤ c0) (h : abutmentref07_Join.f k l0 = some r) :
    Calls Try.prog 26 #[.slice A0 l0.length c0] w fun e w' => e = .returned (.string r) ∧ Drawn0 w w' := by
  have HR0 := Aside0.mk hr0
  have HC0 := Aside0.mk hc0
  clear hr0 hc0
  have H : (abutmentref07_Join.l0 k l0 (⟨#[]⟩ : ByteArray) 0) = some r := h
  clear h
  have H' := Aside0.mk H
  clear H
  go_enter Try.func26, Try.ntmps26
  go_wp2
  go_loopg [3, 4] k (fun kq v3 v4 w' => ∃ (x3_1 : ByteArray) (x4_1 : Int), v3 = .string x3_1 ∧ v4 = .int .i64 x4_1 ∧ Aside0 (abutmentref07_Join.l0 kq l0 x3_1 x4_1 = some r) ∧ Aside0 (kq ≤ k) ∧ Drawn0 w w')
  case atStart => exact ⟨((⟨#[]⟩ : ByteArray)), (0), (by first | rfl | (simp; done) | (simp [*]; done)), (by first | rfl | (simp; done) | (simp [*]; done)), H', ⟨Nat.le_refl _⟩, by repeat (first | exact Drawn0.refl _ | apply Drawn0.step)⟩
  case round =>
    clear H'
    obtain ⟨x3_1, x4_1, rfl, rfl, HA, HK1, ⟨m1, rfl⟩⟩ := hrel
    cases gk with
    | zero => exact absurd HA.out (by simp [abutmentref07_Join.l0])
    | succ k1 =>
      have H := HA.out
      clear HA
      simp only [abutmentref07_Join.l0] at H
      by_cases c2 : x4_1 < (l0.length : Int)
      · rw [if_pos c2] at H
        have c2b0 : decide (x4_1 < (l0.length : Int)) = true := decide_eq_true c2
        clear c2
        by_cases c3 : x4_1 > 0
        · rw [if_pos c3] at H
          have c3b0 : decide (0 < x4_1) = true := decide_eq_true c3
          clear c3
          by_cases c4 : x3_1.size + 2 ≤ 9223372036854775807
          · rw [if_pos c4] at H
            have c4b0 := eq_true c4
            have c4b1 : decide (x3_1.size + 2 ≤ 9223372036854775807) = true := decide_eq_true c4
            try have c4b2 : (9223372036854775807 < x3_1.size + 2) = False := eq_false (Nat.not_lt.2 c4)
            by_cases c5 : 0 ≤ x4_1
            · rw [if_pos c5] at H
              have c5b0 : decide (0 ≤ x4_1) = true := decide_eq_true c5
              clear c5
              by_cases c6 : (x3_1 ++ (⟨#[44, 32]⟩ : ByteArray)).size + (rdOf ByteArray.empty l0 x4_1).size ≤ 9223372036854775807
              · rw [if_pos c6] at H
                have c6b0 := eq_true c6
                have c6b1 : decide ((x3_1 ++ (⟨#[44, 32]⟩ : ByteArray)).size + (rdOf ByteArray.empty l0 x4_1).size ≤ 9223372036854775807) = true := decide_eq_true c6
                try have c6b2 : (9223372036854775807 < (x3_1 ++ (⟨#[44, 32]⟩ : ByteArray)).size + (rdOf ByteArray.empty l0 x4_1).size) = False := eq_false (Nat.not_lt.2 c6)
                have H' := Aside0.mk H
                clear H
                have p101 : 0 ≤ (x4_1 : Int) := of_decide_eq_true (by first | (with_reducible assumption) | assumption)
                have q101 : x4_1 < (l0.length : Int) := of_decide_eq_true (by first | (with_reducible assumption) | assumption)
                obtain ⟨ad101, e101, hx101_0⟩ := Kd.at_string HR0.out x4_1 p101 q101
                cases e101
                replace p101 := eq_true p101
                replace q101 := eq_true q101
                go_wp2
                go_roundg k1
                case measure => have := HK1.out; omega
                case rel => exact ⟨((x3_1 ++ (⟨#[44, 32]⟩ : ByteArray)) ++ (rdOf ByteArray.empty l0 x4_1)), (wrap64 (x4_1 + 1)), (by first | rfl | (simp; done) | (simp [*]; done)), (by first | rfl | (simp; done) | (simp [*]; done)), H', ⟨by have := HK1.out; omega⟩, by repeat (first | exact Drawn0.refl _ | apply Drawn0.step)⟩
              · rw [if_neg c6] at H
                exact absurd H (by simp)
            · rw [if_neg c5] at H
              exact absurd H (by simp)
          · rw [if_neg c4] at H
            exact absurd H (by simp)
        · rw [if_neg c3] at H
          have c3b0 : decide (0 < x4_1) = false := decide_eq_false c3
          clear c3
          by_cases c7 : 0 ≤ x4_1
          · rw [if_pos c7] at H
            have c7b0 : decide (0 ≤ x4_1) = true := decide_eq_true c7
            clear c7
            by_cases c8 : x3_1.size + (rdOf ByteArray.empty l0 x4_1).size ≤ 9223372036854775807
            · rw [if_pos c8] at H
              have c8b0 := eq_true c8
              have c8b1 : decide (x3_1.size + (rdOf ByteArray.empty l0 x4_1).size ≤ 9223372036854775807) = true := decide_eq_true c8
              try have c8b2 : (9223372036854775807 < x3_1.size + (rdOf ByteArray.empty l0 x4_1).size) = False := eq_false (Nat.not_lt.2 c8)
              have H' := Aside0.mk H
              clear H
              have p102 : 0 ≤ (x4_1 : Int) := of_decide_eq_true (by first | (with_reducible assumption) | assumption)
              have q102 : x4_1 < (l0.length : Int) := of_decide_eq_true (by first | (with_reducible assumption) | assumption)
              obtain ⟨ad102, e102, hx102_0⟩ := Kd.at_string HR0.out x4_1 p102 q102
              cases e102
              replace p102 := eq_true p102
              replace q102 := eq_true q102
              go_wp2
              go_roundg k1
              case measure => have := HK1.out; omega
              case rel => exact ⟨(x3_1 ++ (rdOf ByteArray.empty l0 x4_1)), (wrap64 (x4_1 + 1)), (by first | rfl | (simp; done) | (simp [*]; done)), (by first | rfl | (simp; done) | (simp [*]; done)), H', ⟨by have := HK1.out; omega⟩, by repeat (first | exact Drawn0.refl _ | apply Drawn0.step)⟩
            · rw [if_neg c8] at H
              exact absurd H (by simp)
          · rw [if_neg c7] at H
            exact absurd H (by simp)
      · rw [if_neg c2] at H
        have c2b0 : decide (x4_1 < (l0.length : Int)) = false := decide_eq_false c2
        clear c2
        obtain rfl := Option.some.inj H
        go_wp2
        go_ret
        exact ⟨by first | rfl | (simp; done) | (simp [*]; done), by repeat (first | exact Drawn0.refl _ | apply Drawn0.step)⟩

end Go.Proofs.Ytkjkbenmoogdjaa.X
namespace Go.Proofs.Ytkjkbenmoogdjaa.X
open Go.RowKit Go.Proofs.YtkjkbenmoogdjaaW.PrintWords Go.Proofs.YtkjkbenmoogdjaaW.PrintLast Go.Proofs.YtkjkbenmoogdjaaW.PrintMore
attribute [local go_sem] max2_int min2_int max_two min_two max_three min_three max_four min_four   -- for this text's walks alone
set_option linter.unusedVariables false
set_option linter.unusedSimpArgs false

/-! ### abutmentlaw07_ListsJoin: function 5 -/
def abutmentlaw07_ListsJoin.l0 : Nat → List ByteArray → List ByteArray → Int → Int → Option (Bool)
  | 0, _, _, _, _ => none
  | k + 1, x0, x9, x10, x11 => if x11 < x10 then (if 0 ≤ x11 then (if x11 < (x9.length : Int) then (if ((rdOf ByteArray.empty x9 x11).size : Int) > 100 then ((abutmentlaw07_lives.f k).bind fun t103 => (some t103)) else (abutmentlaw07_ListsJoin.l0 k x0 x9 x10 (wrap64 (x11 + 1)))) else (none)) else (none)) else ((lists_Join.f x0).bind fun t104 => ((abutmentref07_Join.f k x0).bind fun t105 => (if t104.toList = t105.toList then ((abutmentlaw07_lives.f k).bind fun t106 => (some t106)) else (some false))))
def abutmentlaw07_ListsJoin.f (k : Nat) (l0 : List ByteArray) : Option (Bool) := if (l0.length : Int) > 50 then ((abutmentlaw07_lives.f k).bind fun t101 => (some t101)) else (abutmentlaw07_ListsJoin.l0 k l0 l0 (l0.length : Int) 0)
theorem abutmentlaw07_ListsJoin.mono_l : ∀ k, (∀ y0 y1 y2 y3, LeO (abutmentlaw07_ListsJoin.l0 k y0 y1 y2 y3) (abutmentlaw07_ListsJoin.l0 (k + 1) y0 y1 y2 y3))
  | 0 => fun _ _ _ _ r h => by simp [abutmentlaw07_ListsJoin.l0] at h
  | k + 1 => by
    have ih0 := abutmentlaw07_ListsJoin.mono_l k
    · intro y0 y1 y2 y3
      unfold abutmentlaw07_ListsJoin.l0
      repeat' first
      | (with_reducible exact ih0 _ _ _ _)
      | (with_reducible exact abutmentlaw07_lives.mono _)
      | (with_reducible exact abutmentref07_Join.mono _ _)
      | (with_reducible exact LeO.refl _)
      | (with_reducible exact LeO.none _)
      | (with_reducible refine LeO.ite ?_ ?_)
      | (with_reducible refine LeO.bind ?_ (fun _ => ?_))
      | exact ih0 _ _ _ _
      | exact abutmentlaw07_lives.mono _
      | exact abutmentref07_Join.mono _ _
      | exact LeO.none _
      | refine LeO.ite ?_ ?_
      | refine LeO.bind ?_ (fun _ => ?_)
theorem abutmentlaw07_ListsJoin.mono : ∀ a0 k, LeO (abutmentlaw07_ListsJoin.f k a0) (abutmentlaw07_ListsJoin.f (k + 1) a0) := by
  intro a0 k
  have ih0 := abutmentlaw07_ListsJoin.mono_l k
  unfold abutmentlaw07_ListsJoin.f
  repeat' first
      | (with_reducible exact ih0 _ _ _ _)
      | (with_reducible exact abutmentlaw07_lives.mono _)
      | (with_reducible exact abutmentref07_Join.mono _ _)
      | (with_reducible exact LeO.refl _)
      | (with_reducible exact LeO.none _)
      | (with_reducible refine LeO.ite ?_ ?_)
      | (with_reducible refine LeO.bind ?_ (fun _ => ?_))
      | exact ih0 _ _ _ _
      | exact abutmentlaw07_lives.mono _
      | exact abutmentref07_Join.mono _ _
      | exact LeO.none _
      | refine LeO.ite ?_ ?_
      | refine LeO.bind ?_ (fun _ => ?_)
set_option maxHeartbeats 8000000 in
set_option maxRecDepth 100000 in
theorem abutmentlaw07_ListsJoin.calls (k : Nat) (A0 : Option Addr) (c0 : Nat) (l0 : List ByteArray) (r : Bool) (w : World) (hr0 : Kd.C Kd.string w A0 l0.length l0) (hc0 : l0.length ≤ c0) (h : abutmentlaw07_ListsJoin.f k l0 = some r) :
    Calls Try.prog 5 #[.slice A0 l0.length c0] w fun e w' => e = .returned (.bool r) ∧ Below w.heap.size w w' := by
  have HR0 := Aside0.mk hr0
  have HC0 := Aside0.mk hc0
  clear hr0 hc0
  have HB := Aside0.mk (Below.refl w.heap.size w)
  have H : (if (l0.length : Int) > 50 then ((abutmentlaw07_lives.f k).bind fun t101 => (some t101)) else (abutmentlaw07_ListsJoin.l0 k l0 l0 (l0.length : Int) 0)) = some r := h
  clear h
  by_cases c2 : (l0.length : Int) > 50
  · rw [if_pos c2] at H
    have c2b0 : decide (50 < (l0.length : Int)) = true := decide_eq_true c2
    have c2b1 : decide (50 < l0.length) = true := decide_eq_true (by omega)
    clear c2
    replace H := Option.bind_eq_some_iff.mp H
    obtain ⟨t101, A30, H⟩ := H
    replace H : (some t101) = some r := H
    have A3 := Aside0.mk A30
    clear A30
    obtain rfl := Option.some.inj H
    go_enter Try.func5, Try.ntmps5
    go_wp2_with (first | ((with_reducible refine gate_callee (f := 24) rfl ?_); refine goesL_ (some 8) rfl rfl Try.func24 (by kernel_rfl) rfl #[] rfl (by (try simp only [List.map_toArray, List.map_cons, List.map_nil]); first | done | rfl | (simp only [List.length_drop, List.length_take]; rfl)) ?_; (with_reducible refine (abutmentlaw07_lives.calls k  t101 _ A3.out).mono ?_); rintro e w4 ⟨rfl, hb⟩; refine ⟨_, rfl, ?_⟩; have n0_ := Aside0.mk (below_step (by repeat (first | (with_reducible first | exact HB.out | apply below_alloc | apply pw_below_drewN | apply below_drew1) | exact HB.out)) hb); clear HB; have HB := n0_; clear n0_; (try clear hb); (try clear hb2); (try clear hk); (try clear hi)))
    go_ret
    exact ⟨by first | rfl | (simp [errW_none, errW_some] <;> rfl) | (simp [*, errW_none, errW_some] <;> rfl), by repeat (first | (with_reducible first | exact HB.out | apply below_alloc | apply pw_below_drewN | apply below_drew1) | exact HB.out)⟩
  · rw [if_neg c2] at H
    have c2b0 : decide (50 < (l0.length : Int)) = false := decide_eq_false c2
    have c2b1 : decide (50 < l0.length) = false := decide_eq_false (by omega)
    clear c2
    have H' := Aside0.mk H
    clear H
    go_enter Try.func5, Try.ntmps5
    go_wp2
    go_loopg [11] k (fun kq v11 w' => ∃ (x11_1 : Int), v11 = .int .i64 x11_1 ∧ Aside0 (abutmentlaw07_ListsJoin.l0 kq l0 l0 (l0.length : Int) x11_1 = some r) ∧ Aside0 (kq ≤ k) ∧ Aside0 (Below w.heap.size w w'))
    case atStart => exact ⟨(0), (by first | rfl | (simp; done) | (simp [*]; done)), H', ⟨Nat.le_refl _⟩, ⟨by repeat (first | (with_reducible first | exact HB.out | apply below_alloc | apply pw_below_drewN | apply below_drew1) | exact HB.out)⟩⟩
    case round =>
      clear H'
      try clear c2
      try clear c2b0
      try clear c2b1
      try clear p2
      obtain ⟨x11_1, rfl, HA, HK1, HB⟩ := hrel
      cases gk with
      | zero => exact absurd HA.out (by simp [abutmentlaw07_ListsJoin.l0])
      | succ k1 =>
        have H := HA.out
        clear HA
        simp only [abutmentlaw07_ListsJoin.l0] at H
        by_cases c5 : x11_1 < (l0.length : Int)
        · rw [if_pos c5] at H
          have c5b0 : decide (x11_1 < (l0.length : Int)) = true := decide_eq_true c5
          clear c5
          by_cases c6 : 0 ≤ x11_1
          · rw [if_pos c6] at H
            have c6b0 : decide (0 ≤ x11_1) = true := decide_eq_true c6
            clear c6
            by_cases c7 : x11_1 < (l0.length : Int)
            · rw [if_pos c7] at H
              have c7b0 : decide (x11_1 < (l0.length : Int)) = true := decide_eq_true c7
              clear c7
              by_cases c8 : ((rdOf ByteArray.empty l0 x11_1).size : Int) > 100
              · rw [if_pos c8] at H
                have c8b0 : decide (100 < ((rdOf ByteArray.empty l0 x11_1).size : Int)) = true := decide_eq_true c8
                have c8b1 : decide (100 < (rdOf ByteArray.empty l0 x11_1).size) = true := decide_eq_true (by omega)
                clear c8
                replace H := Option.bind_eq_some_iff.mp H
                obtain ⟨t103, A90, H⟩ := H
                replace H : (some t103) = some r := H
                have A9 := Aside0.mk A90
                clear A90
                obtain rfl := Option.some.inj H
                have p102 : 0 ≤ (x11_1 : Int) := of_decide_eq_true (by first | (with_reducible assumption) | assumption)
                have q102 : x11_1 < (l0.length : Int) := of_decide_eq_true (by first | (with_reducible assumption) | assumption)
                obtain ⟨ad102, e102, hx102_0⟩ := Kd.at_string HR0.out x11_1 p102 q102
                cases e102
                replace hx102_0 := (HB.out.cell (World.block_lt_of_cell? w _ hx102_0)).trans hx102_0
                replace p102 := eq_true p102
                replace q102 := eq_true q102
                go_wp2_with (first | ((with_reducible refine gate_callee (f := 24) rfl ?_); refine goesL_ (some 18) rfl rfl Try.func24 (by kernel_rfl) rfl #[] rfl (by (try simp only [List.map_toArray, List.map_cons, List.map_nil]); first | done | rfl | (simp only [List.length_drop, List.length_take]; rfl)) ?_; (with_reducible refine (abutmentlaw07_lives.calls k1  t103 _ A9.out).mono ?_); rintro e w10 ⟨rfl, hb⟩; refine ⟨_, rfl, ?_⟩; have n0_ := Aside0.mk (below_step (by repeat (first | (with_reducible first | exact HB.out | apply below_alloc | apply pw_below_drewN | apply below_drew1) | exact HB.out)) hb); clear HB; have HB := n0_; clear n0_; (try clear hb); (try clear hb2); (try clear hk); (try clear hi)))
                go_ret
                exact ⟨by first | rfl | (simp [errW_none, errW_some] <;> rfl) | (simp [*, errW_none, errW_some] <;> rfl), by repeat (first | (with_reducible first | exact HB.out | apply below_alloc | apply pw_below_drewN | apply below_drew1) | exact HB.out)⟩
              · rw [if_neg c8] at H
                have c8b0 : decide (100 < ((rdOf ByteArray.empty l0 x11_1).size : Int)) = false := decide_eq_false c8
                have c8b1 : decide (100 < (rdOf ByteArray.empty l0 x11_1).size) = false := decide_eq_false (by omega)
                clear c8
                have H' := Aside0.mk H
                clear H
                have p102 : 0 ≤ (x11_1 : Int) := of_decide_eq_true (by first | (with_reducible assumption) | assumption)
                have q102 : x11_1 < (l0.length : Int) := of_decide_eq_true (by first | (with_reducible assumption) | assumption)
                obtain ⟨ad102, e102, hx102_0⟩ := Kd.at_string HR0.out x11_1 p102 q102
                cases e102
                replace hx102_0 := (HB.out.cell (World.block_lt_of_cell? w _ hx102_0)).trans hx102_0
                replace p102 := eq_true p102
                replace q102 := eq_true q102
                go_wp2
                go_roundg k1
                case measure => have := HK1.out; omega
                case rel => exact ⟨(wrap64 (x11_1 + 1)), (by first | rfl | (simp; done) | (simp [*]; done)), H', ⟨by have := HK1.out; omega⟩, ⟨by repeat (first | (with_reducible first | exact HB.out | apply below_alloc | apply pw_below_drewN | apply below_drew1) | exact HB.out)⟩⟩
            · rw [if_neg c7] at H
              exact absurd H (by simp)
          · rw [if_neg c6] at H
            exact absurd H (by simp)
        · rw [if_neg c5] at H
          have c5b0 : decide (x11_1 < (l0.length : Int)) = false := decide_eq_false c5
          clear c5
          replace H := Option.bind_eq_some_iff.mp H
          obtain ⟨t104, A110, H⟩ := H
          replace H : ((abutmentref07_Join.f k1 l0).bind fun t105 => (if t104.toList = t105.toList then ((abutmentlaw07_lives.f k1).bind fun t106 => (some t106)) else (some false))) = some r := H
          have A11 := Aside0.mk A110
          clear A110
          replace H := Option.bind_eq_some_iff.mp H
          obtain ⟨t105, A120, H⟩ := H
          replace H : (if t104.toList = t105.toList then ((abutmentlaw07_lives.f k1).bind fun t106 => (some t106)) else (some false)) = some r := H
          have A12 := Aside0.mk A120
          clear A120
          by_cases c13 : t104.toList = t105.toList
          · rw [if_pos c13] at H
            have c13b0 : (t104.toList == t105.toList) = true := beq_iff_eq.mpr c13
            have c13b1 : (t104.toList != t105.toList) = false := bne_eq_false_iff_eq.mpr c13
            clear c13
            replace H := Option.bind_eq_some_iff.mp H
            obtain ⟨t106, A140, H⟩ := H
            replace H : (some t106) = some r := H
            have A14 := Aside0.mk A140
            clear A140
            obtain rfl := Option.some.inj H
            go_wp2_with (first | ((with_reducible refine gate_callee (f := 25) rfl ?_); refine goesL_ (some 21) rfl rfl Try.func25 (by kernel_rfl) rfl #[.slice A0 l0.length c0] rfl (by (try simp only [List.map_toArray, List.map_cons, List.map_nil]); first | done | rfl | (simp only [List.length_drop, List.length_take]; rfl)) ?_; (with_reducible refine (lists_Join.calls _ _ l0 t104 _ ?side1 ?side2 A11.out).mono ?_); (case side1 => repeat (first | exact (Kd.C_below HR0.out HB.out) | (with_reducible refine Kd.C_alloc ?_ _) | (with_reducible refine Kd.C_drewN ?_ _) | (with_reducible refine Kd.C_drew ?_))); (case side2 => exact HC0.out); rintro e w15 ⟨rfl, hb⟩; refine ⟨_, rfl, ?_⟩; have n0_ := Aside0.mk (below_step (by repeat (first | (with_reducible first | exact HB.out | apply below_alloc | apply pw_below_drewN | apply below_drew1) | exact HB.out)) hb); clear HB; have HB := n0_; clear n0_; (try clear hb); (try clear hb2); (try clear hk); (try clear hi)) | ((with_reducible refine gate_callee (f := 26) rfl ?_); refine goesL_ (some 23) rfl rfl Try.func26 (by kernel_rfl) rfl #[.slice A0 l0.length c0] rfl (by (try simp only [List.map_toArray, List.map_cons, List.map_nil]); first | done | rfl | (simp only [List.length_drop, List.length_take]; rfl)) ?_; (with_reducible refine (abutmentref07_Join.calls k1 _ _ l0 t105 _ ?side1 ?side2 A12.out).mono ?_); (case side1 => repeat (first | exact (Kd.C_below HR0.out HB.out) | (with_reducible refine Kd.C_alloc ?_ _) | (with_reducible refine Kd.C_drewN ?_ _) | (with_reducible refine Kd.C_drew ?_))); (case side2 => exact HC0.out); rintro e w' ⟨rfl, ⟨nd, rfl⟩⟩; refine ⟨_, rfl, ?_⟩) | (go_at_call 24; (with_reducible refine (abutmentlaw07_lives.calls k1  t106 _ A14.out).mono ?_); rintro e w16 ⟨rfl, hb⟩; have n0_ := Aside0.mk (below_step (by repeat (first | (with_reducible first | exact HB.out | apply below_alloc | apply pw_below_drewN | apply below_drew1) | exact HB.out)) hb); clear HB; have HB := n0_; clear n0_; (try clear hb); (try clear hb2); (try clear hk); (try clear hi)))
            go_ret
            exact ⟨by first | rfl | (simp [errW_none, errW_some] <;> rfl) | (simp [*, errW_none, errW_some] <;> rfl), by repeat (first | (with_reducible first | exact HB.out | apply below_alloc | apply pw_below_drewN | apply below_drew1) | exact HB.out)⟩
          · rw [if_neg c13] at H
            have c13b0 : (t104.toList == t105.toList) = false := beq_eq_false_iff_ne.mpr c13
            have c13b1 : (t104.toList != t105.toList) = true := bne_iff_ne.mpr c13
            obtain rfl := Option.some.inj H
            go_wp2_with (first | ((with_reducible refine gate_callee (f := 25) rfl ?_); refine goesL_ (some 21) rfl rfl Try.func25 (by kernel_rfl) rfl #[.slice A0 l0.length c0] rfl (by (try simp only [List.map_toArray, List.map_cons, List.map_nil]); first | done | rfl | (simp only [List.length_drop, List.length_take]; rfl)) ?_; (with_reducible refine (lists_Join.calls _ _ l0 t104 _ ?side1 ?side2 A11.out).mono ?_); (case side1 => repeat (first | exact (Kd.C_below HR0.out HB.out) | (with_reducible refine Kd.C_alloc ?_ _) | (with_reducible refine Kd.C_drewN ?_ _) | (with_reducible refine Kd.C_drew ?_))); (case side2 => exact HC0.out); rintro e w17 ⟨rfl, hb⟩; refine ⟨_, rfl, ?_⟩; have n0_ := Aside0.mk (below_step (by repeat (first | (with_reducible first | exact HB.out | apply below_alloc | apply pw_below_drewN | apply below_drew1) | exact HB.out)) hb); clear HB; have HB := n0_; clear n0_; (try clear hb); (try clear hb2); (try clear hk); (try clear hi)) | ((with_reducible refine gate_callee (f := 26) rfl ?_); refine goesL_ (some 23) rfl rfl Try.func26 (by kernel_rfl) rfl #[.slice A0 l0.length c0] rfl (by (try simp only [List.map_toArray, List.map_cons, List.map_nil]); first | done | rfl | (simp only [List.length_drop, List.length_take]; rfl)) ?_; (with_reducible refine (abutmentref07_Join.calls k1 _ _ l0 t105 _ ?side1 ?side2 A12.out).mono ?_); (case side1 => repeat (first | exact (Kd.C_below HR0.out HB.out) | (with_reducible refine Kd.C_alloc ?_ _) | (with_reducible refine Kd.C_drewN ?_ _) | (with_reducible refine Kd.C_drew ?_))); (case side2 => exact HC0.out); rintro e w' ⟨rfl, ⟨nd, rfl⟩⟩; refine ⟨_, rfl, ?_⟩))
            go_ret
            exact ⟨by first | rfl | (simp [errW_none, errW_some] <;> rfl) | (simp [*, errW_none, errW_some] <;> rfl), by repeat (first | (with_reducible first | exact HB.out | apply below_alloc | apply pw_below_drewN | apply below_drew1) | exact HB.out)⟩

end Go.Proofs.Ytkjkbenmoogdjaa.X
namespace Go.Proofs.Ytkjkbenmoogdjaa.X
open Go.RowKit Go.Proofs.YtkjkbenmoogdjaaW.PrintWords Go.Proofs.YtkjkbenmoogdjaaW.PrintLast Go.Proofs.YtkjkbenmoogdjaaW.PrintMore
attribute [local go_sem] max2_int min2_int max_two min_two max_three min_three max_four min_four   -- for this text's walks alone
set_option linter.unusedVariables false
set_option linter.unusedSimpArgs false

/-! ### pure text 4: open -/
open Go.ChangeShapes Go.WideShapes Go.Deep
/-! ### What came in, as print's words tell it -/
theorem add_add_mul (a : Addr) (i j : Nat) : (a.add i).add j = a.add (i + j) := by
  unfold Addr.add
  by_cases hi : i = 0
  · subst hi; simp
  · by_cases hj : j = 0
    · subst hj; simp
    · rw [if_neg hi, if_neg hj, if_neg (by omega)]
      simp; omega
/-- A slice whose elements read by a kind. -/
theorem slice_reads {α : Type} {H : Type} {enc : TypeId × Value → H} {P : Program} {W : World} {t e : TypeId} {a : Option Addr} {len cap : Nat} {d : DataW H} {ps : List MemPlace} (k : Kd α) (Good : α → Prop)
    (ht : P.underlying t = some (.slice e)) (hs : P.cellsOf e = k.sz)
    (hel : ∀ n cs y, DataW.trod enc P W 0 (fun _ => true) true n e cs = some y → ∃ x, k.K W x cs ∧ Good x)
    (h : DataW.Trod enc P W 0 (fun _ => true) true t (.slice a len cap) d ps) :
    ∃ l : List α, l.length = len ∧ Kd.C k W a l.length l ∧ l.length ≤ cap ∧ l.length ≤ maxLen ∧ ∀ x ∈ l, Good x := by
  obtain ⟨fuel, hf⟩ := h
  have hf' : DataW.trod enc P W 0 (fun _ => true) true fuel t [.slice a len cap] = some (d, ps) := by simpa [Value.cells] using hf
  rcases open_slice ht hf' with ⟨hcs, _⟩ | ⟨ad, l', c', m, n, D, Pl, hcs, _, hl, hm, hmm, _, hx⟩
  · simp at hcs
    obtain ⟨rfl, rfl, rfl⟩ := hcs
    exact ⟨[], rfl, Kd.C_nil k W, by simp, by simp, by simp⟩
  · simp at hcs
    obtain ⟨rfl, rfl, rfl⟩ := hcs
    have hmc : m = cap := by simpa using hmm
    subst hmc
    have each : ∀ i, i < len → ∃ x, Good x ∧ ∃ c, c.length = k.sz ∧ k.K W x c ∧ ∀ j u, c[j]? = some u → W.cell? (ad.add (i * k.sz + j)) = some u := by
      intro i hi
      obtain ⟨cs', h1, h2⟩ := hx i (by omega)
      obtain ⟨x, hK, hG⟩ := hel _ _ _ h2
      rw [hs] at h1
      obtain ⟨_, hlen, hcell⟩ := World.cells?_some h1
      refine ⟨x, hG, cs', hlen, hK, fun j u hj => ?_⟩
      have hlt : j < k.sz := by rw [← hlen]; exact (List.getElem?_eq_some_iff.1 hj).1
      have := hcell j hlt
      rw [add_add_mul] at this
      rw [this, hj]
    have hbuild : ∀ n, n ≤ len → ∃ l : List α, l.length = n ∧ ∀ i x, l[i]? = some x → Good x ∧ ∃ c, c.length = k.sz ∧ k.K W x c ∧ ∀ j u, c[j]? = some u → W.cell? (ad.add (i * k.sz + j)) = some u := by
      intro n
      induction n with
      | zero => intro _; exact ⟨[], rfl, fun i x h => by simp at h⟩
      | succ n ih =>
        intro hn
        obtain ⟨l, hl', hL⟩ := ih (by omega)
        obtain ⟨x, hx'⟩ := each n (by omega)
        refine ⟨l ++ [x], by simp [hl'], fun i y hy => ?_⟩
        by_cases hi : i < l.length
        · rw [List.getElem?_append_left hi] at hy
          exact hL i y hy
        · rw [List.getElem?_append_right (by omega)] at hy
          have h0 : i - l.length = 0 := by
            have := (List.getElem?_eq_some_iff.1 hy).1
            simp at this; omega
          rw [h0] at hy
          simp at hy
          subst hy
          have : i = n := by omega
          subst this
          exact hx'
    obtain ⟨l, hll, hL⟩ := hbuild len (Nat.le_refl _)
    refine ⟨l, hll, ⟨rfl, by unfold maxLen at hm; omega, fun _ => ⟨ad, rfl, fun j p hj => (hL j p hj).2⟩⟩, by omega, by omega, fun x hx' => ?_⟩
    obtain ⟨i, hi⟩ := List.getElem?_of_mem hx'
    exact (hL i x hi).1
/-- A text. -/
theorem el_string {H : Type} {enc : TypeId × Value → H} {P : Program} {W : World} {e : TypeId} (he : P.underlying e = some .string) :
    ∀ n cs y, DataW.trod enc P W 0 (fun _ => true) true n e cs = some y → ∃ x : ByteArray, Kd.string.K W x cs ∧ x.size ≤ maxLen := by
  intro n cs y h
  obtain ⟨s, rfl, _, hw⟩ := DataW.trod_string he h
  exact ⟨s, rfl, hw⟩
theorem el_int {H : Type} {enc : TypeId × Value → H} {P : Program} {W : World} {e : TypeId} {k : IntKind} (he : P.underlying e = some (.int k)) :
    ∀ n cs y, DataW.trod enc P W 0 (fun _ => true) true n e cs = some y → ∃ x : Int, (Kd.int k).K W x cs ∧ (Lit.int k x).wf = true := by
  intro n cs y h
  obtain ⟨x, rfl, _, hw⟩ := DataW.trod_int he h
  exact ⟨x, rfl, hw⟩
theorem el_bool {H : Type} {enc : TypeId × Value → H} {P : Program} {W : World} {e : TypeId} (he : P.underlying e = some .bool) :
    ∀ n cs y, DataW.trod enc P W 0 (fun _ => true) true n e cs = some y → ∃ x : Bool, Kd.bool.K W x cs ∧ True := by
  intro n cs y h
  obtain ⟨x, rfl, _⟩ := DataW.trod_bool he h
  exact ⟨x, rfl, trivial⟩


end Go.Proofs.Ytkjkbenmoogdjaa.X
